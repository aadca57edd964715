/- The tune heard: the program's answer is the reference's, and the law's plain function answers true at every input. -/
import Derived.Test.YtilackblefjgdaaGreatM4
import Derived.Test.YtilackblefjgdaaGreatM5
import Derived.Test.YtilackblefjgdaaGreatM6
import Derived.Test.YtilackblefjgdaaGreatPFrame
import Derived.Test.YtilackblefjgdaaGreatPFit
import Derived.Test.YtilackblefjgdaaGreatPMade
import Derived.Test.YtilackblefjgdaaGreatPHeard
import Derived.Test.YtilackblefjgdaaGreatPure
import Derived.Test.YtilackblefjgdaaGreatSFnExactHeardTune
namespace Go.Proofs.YtilackblefjgdaaGreat
open Eng
set_option linter.unusedVariables false
set_option linter.unusedSimpArgs false

theorem heardTune_same (f : GFrame) (t : List GNote) (l : List GChoice) (hi : FIn f) (hn : ∀ n ∈ t, NIn n) (hf : f.fHammers.length ≤ 1048576) (ht : t.length ≤ 1048576) (hl : l.length ≤ 1048576) :
    ∃ r, impl_HeardTune f t l = some r ∧ spec_HeardTune f t l = some r ∧ r.1.length ≤ 4096 := by
  simp only [impl_HeardTune, spec_HeardTune, impl_DrumFor, fitted_is hi (show f.fHammers.length ≤ 9223372036854775807 by omega) (show t.length ≤ 9223372036854775807 by omega) hn (show l.length ≤ 9223372036854775807 by omega), l07Drum_is hi (show f.fHammers.length ≤ 9223372036854775807 by omega) (show t.length ≤ 9223372036854775807 by omega) hn (show l.length ≤ 9223372036854775807 by omega), Option.bind_some]
  unfold drumV
  by_cases h0 : askedB f t l = 0
  · obtain ⟨a1, a2, a3⟩ := asked0 h0
    have hfk := frameB_ok a1 hi
    rw [if_pos h0, if_pos h0]
    cases hv : fitV f t l with
    | inl d =>
      have hd : DIn d := fitV_in hfk (tuneB_ok a2) hv
      have hln := nall_len hfk d
      obtain ⟨r, h1, h2, h3⟩ := made_is (nall f d) (by omega)
      refine ⟨(r, 0), ?_, ?_, by simp only; omega⟩
      · simp [played_is hfk hd, h1]
      · simp [l02Tune_is hfk hd, h2]
    | inr k => exact ⟨([], 4), by simp, by simp, by simp⟩
  · rw [if_neg h0, if_neg h0]
    exact ⟨([], askedB f t l), by simp [h0], by simp [h0], by simp⟩
theorem FnExactHeardTune_ok (f : GFrame) (t : List GNote) (l : List GChoice) (o0 : okGFrame f) (o1 : (t.length ≤ 9223372036854775807 ∧ ∀ y ∈ t, okGNote y)) (o2 : (l.length ≤ 9223372036854775807 ∧ ∀ y ∈ l, okGChoice y)) : laws_FnExactHeardTune f t l = some true := by
  obtain ⟨f0, fl, f2⟩ := o0
  obtain ⟨tl, t2⟩ := o1
  obtain ⟨ll, l2⟩ := o2
  simp only [laws_FnExactHeardTune]
  rw [laws_szFrame_is f _ (by omega) (by omega) fl]
  simp only [Option.bind_some]
  by_cases hz0 : (1048576 : Int) < (f.fHammers.length : Int)
  · rw [if_pos hz0, if_pos (by simp)]
  · rw [if_neg hz0, if_neg (by simp; omega)]
    rw [laws_szTune_is t _ (by omega) (by omega) tl]
    simp only [Option.bind_some]
    by_cases hz1 : (1048576 : Int) - (f.fHammers.length : Int) < (t.length : Int)
    · rw [if_pos hz1, if_pos (by simp)]
    · rw [if_neg hz1, if_neg (by simp; omega)]
      rw [laws_szChoiceS_is l _ (by omega) (by omega) ll]
      simp only [Option.bind_some]
      by_cases hz2 : (1048576 : Int) - (f.fHammers.length : Int) - (t.length : Int) < (l.length : Int)
      · rw [if_pos hz2, if_pos (by simp)]
      · rw [if_neg hz2, if_neg (by simp; omega)]
        obtain ⟨⟨r1, r2⟩, hI, hS, r1h⟩ := heardTune_same f t l ⟨f0, fun y hy => f2 y hy⟩ (fun n hn => t2 n hn) (by omega) (by omega) (by omega)
        simp only at r1h
        obtain ⟨fy0, m_f, _⟩ := laws_markFrame_is f (1) (by omega) (by omega) (by omega)
        obtain ⟨ty0, m_t, _⟩ := laws_markTune_is t (1 + f.fHammers.length * 2) (by omega) (by omega) (by omega)
        obtain ⟨ly0, m_l, _⟩ := laws_markChoiceS_is l (1 + f.fHammers.length * 2 + t.length * 2) (by omega) (by omega) (by omega)
        have e0 : ¬ (((1 : Int) + f.fHammers.length * 2 + t.length * 2 + l.length * 4 : Int) < 0) := by omega
        obtain ⟨z0, n0, _, q0⟩ := laws_markTune_is r1 (1) (by omega) (by omega) (by omega)
        have f0 : ¬ (((1 : Int) + r1.length * 2 : Int) < 0) := by omega
        simp only [laws_toFrame_is f (by omega), laws_toTune_is t (by omega), laws_toChoiceS_is l (by omega), Option.bind_some, hI, hS, laws_eqFrame_is f _ (by omega), laws_eqTune_is t _ (by omega), laws_eqChoiceS_is l _ (by omega), laws_FnExactHeardTune.k_23, m_f, m_t, m_l, n0, q0, laws_eqTune_is r1 _ (by omega), decide_true, Bool.not_true, Bool.false_eq_true, if_false, decide_eq_true_eq, bne_self_eq_false, Bool.or_false, Bool.false_or, Bool.or_self, if_neg e0, if_neg f0]


end Go.Proofs.YtilackblefjgdaaGreat
