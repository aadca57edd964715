/- How many notes are kept: the program's answer is the reference's, and the law's plain function answers true at every input. -/
import Derived.Test.YtilackblefjgdaaM6
import Derived.Test.YtilackblefjgdaaM11
import Derived.Test.YtilackblefjgdaaPFrame
import Derived.Test.YtilackblefjgdaaPFit
import Derived.Test.YtilackblefjgdaaPure
import Derived.Test.YtilackblefjgdaaSFnExactKeptNotes
namespace Go.Proofs.Ytilackblefjgdaa
open Eng
set_option linter.unusedVariables false
set_option linter.unusedSimpArgs false

theorem keptNotes_same (f : GFrame) (t : List GNote) (l : List GChoice) (hi : FIn f) (hn : ∀ n ∈ t, NIn n) (hf : f.fHammers.length ≤ 1048576) (ht : t.length ≤ 1048576) (hl : l.length ≤ 1048576) :
    ∃ r, impl_KeptNotes f t l = some r ∧ spec_KeptNotes f t l = some r := by
  simp only [impl_KeptNotes, spec_KeptNotes, fitted_is hi (show f.fHammers.length ≤ 9223372036854775807 by omega) (show t.length ≤ 9223372036854775807 by omega) hn (show l.length ≤ 9223372036854775807 by omega), l07Drum_is hi (show f.fHammers.length ≤ 9223372036854775807 by omega) (show t.length ≤ 9223372036854775807 by omega) hn (show l.length ≤ 9223372036854775807 by omega), Option.bind_some]
  unfold drumV
  have sum : loop (spec_KeptNotes.l_6 l) (0, 0) = some ((l.countP fun x => !x.fAway : Nat) : Int) ∧ loop (impl_KeptNotes.l_6 l) (0, 0) = some ((l.countP fun x => !x.fAway : Nat) : Int) := by
    have h1 := loop_seq (f := spec_KeptNotes.l_6 l) l.length (fun k => (((l.take k).countP fun x => !x.fAway : Nat), (k : Int))) ((l.countP fun x => !x.fAway : Nat) : Int) (fun k hk => by
      have hc : (l.take k).countP (fun x => !x.fAway) ≤ k := Nat.le_trans List.countP_le_length (by rw [List.length_take]; omega)
      simp only [spec_KeptNotes.l_6, ix_lt hk, Option.bind_some]
      rw [if_pos (by simpa using hk), List.take_succ_eq_append_getElem hk, List.countP_append, w64_in (n := (k : Int) + 1) (by omega) (by omega), w64_in (n := ((l.take k).countP (fun x => !x.fAway) : Nat) + 1) (by omega) (by omega)]
      cases h : l[k].fAway <;> simp [h]) (by simp [spec_KeptNotes.l_6])
    have h2 := loop_seq (f := impl_KeptNotes.l_6 l) l.length (fun k => (((l.take k).countP fun x => !x.fAway : Nat), (k : Int))) ((l.countP fun x => !x.fAway : Nat) : Int) (fun k hk => by
      have hc : (l.take k).countP (fun x => !x.fAway) ≤ k := Nat.le_trans List.countP_le_length (by rw [List.length_take]; omega)
      have hb : impl_bit (!l[k].fAway) = some (if l[k].fAway = true then 0 else 1) := by cases l[k].fAway <;> rfl
      simp only [impl_KeptNotes.l_6, ix_lt hk, hb, Option.bind_some]
      rw [if_pos (by simpa using hk), List.take_succ_eq_append_getElem hk, List.countP_append, w64_in (n := (k : Int) + 1) (by omega) (by omega)]
      cases h : l[k].fAway
      · simp only [Bool.false_eq_true, if_false]
        rw [w64_in (by omega) (by omega)]
        simp [h]
      · simp only [if_true]
        rw [w64_in (by omega) (by omega)]
        simp [h]) (by simp [impl_KeptNotes.l_6])
    exact ⟨by simpa using h1, by simpa using h2⟩
  by_cases h0 : askedB f t l = 0
  · rw [if_pos h0, if_pos h0]
    cases hv : fitV f t l with
    | inl d => exact ⟨(((l.countP fun x => !x.fAway : Nat) : Int), 0), by simp [sum.2, impl_KeptNotes.k_3], by simp [sum.1, spec_KeptNotes.k_3]⟩
    | inr k => exact ⟨(0, 4), by simp, by simp⟩
  · rw [if_neg h0, if_neg h0]
    exact ⟨(0, askedB f t l), by simp [h0], by simp [h0]⟩
theorem FnExactKeptNotes_ok (f : GFrame) (t : List GNote) (l : List GChoice) (o0 : okGFrame f) (o1 : (t.length ≤ 9223372036854775807 ∧ ∀ y ∈ t, okGNote y)) (o2 : (l.length ≤ 9223372036854775807 ∧ ∀ y ∈ l, okGChoice y)) : laws_FnExactKeptNotes f t l = some true := by
  obtain ⟨f0, fl, f2⟩ := o0
  obtain ⟨tl, t2⟩ := o1
  obtain ⟨ll, l2⟩ := o2
  simp only [laws_FnExactKeptNotes]
  rw [laws_szFrame_is f _ (by omega) (by omega) fl]
  simp only [Option.bind_some]
  by_cases hz0 : (1048576 : Int) < (f.fHammers.length : Int)
  · rw [if_pos hz0, if_pos (by simp)]
  · rw [if_neg hz0, if_neg (by simp; omega)]
    rw [laws_szTune_is t _ (by omega) (by omega) tl]
    simp only [Option.bind_some]
    by_cases hz1 : (1048576 : Int) - (f.fHammers.length : Int) < (t.length : Int)
    · rw [if_pos hz1, if_pos (by simp)]
    · rw [if_neg hz1, if_neg (by simp; omega)]
      rw [laws_szChoiceS_is l _ (by omega) (by omega) ll]
      simp only [Option.bind_some]
      by_cases hz2 : (1048576 : Int) - (f.fHammers.length : Int) - (t.length : Int) < (l.length : Int)
      · rw [if_pos hz2, if_pos (by simp)]
      · rw [if_neg hz2, if_neg (by simp; omega)]
        obtain ⟨⟨r1, r2⟩, hI, hS⟩ := keptNotes_same f t l ⟨f0, fun y hy => f2 y hy⟩ (fun n hn => t2 n hn) (by omega) (by omega) (by omega)
        simp only [laws_toFrame_is f (by omega), laws_toTune_is t (by omega), laws_toChoiceS_is l (by omega), Option.bind_some, hI, hS, laws_eqFrame_is f _ (by omega), laws_eqTune_is t _ (by omega), laws_eqChoiceS_is l _ (by omega), decide_true, Bool.not_true, Bool.false_eq_true, if_false, decide_eq_true_eq, bne_self_eq_false, Bool.or_false, Bool.false_or, Bool.or_self]


end Go.Proofs.Ytilackblefjgdaa
