/- The drum for chosen notes: the program's answer is the reference's, and the law's plain function answers true at every input. -/
import Derived.Test.YtilackblefjgdaaM10
import Derived.Test.YtilackblefjgdaaPFrame
import Derived.Test.YtilackblefjgdaaPFit
import Derived.Test.YtilackblefjgdaaPure
import Derived.Test.YtilackblefjgdaaSFnExactDrumFor
namespace Go.Proofs.Ytilackblefjgdaa
open Eng
set_option linter.unusedVariables false
set_option linter.unusedSimpArgs false

theorem drumFor_same (f : GFrame) (t : List GNote) (l : List GChoice) (hi : FIn f) (hn : ∀ n ∈ t, NIn n) (hf : f.fHammers.length ≤ 1048576) (ht : t.length ≤ 1048576) (hl : l.length ≤ 1048576) :
    ∃ r, impl_DrumFor f t l = some r ∧ spec_DrumFor f t l = some r := by
  simp only [impl_DrumFor, spec_DrumFor, fitted_is hi (show f.fHammers.length ≤ 9223372036854775807 by omega) (show t.length ≤ 9223372036854775807 by omega) hn (show l.length ≤ 9223372036854775807 by omega), l07Drum_is hi (show f.fHammers.length ≤ 9223372036854775807 by omega) (show t.length ≤ 9223372036854775807 by omega) hn (show l.length ≤ 9223372036854775807 by omega), Option.bind_some]
  unfold drumV
  by_cases h0 : askedB f t l = 0
  · rw [if_pos h0, if_pos h0]
    cases hv : fitV f t l with
    | inl d => exact ⟨(d, 0), by simp, by simp⟩
    | inr k => exact ⟨(Arr.rep 96 0, 4), by simp, by simp⟩
  · rw [if_neg h0, if_neg h0]
    exact ⟨(Arr.rep 96 0, askedB f t l), by simp [h0], by simp⟩
theorem FnExactDrumFor_ok (f : GFrame) (t : List GNote) (l : List GChoice) (o0 : okGFrame f) (o1 : (t.length ≤ 9223372036854775807 ∧ ∀ y ∈ t, okGNote y)) (o2 : (l.length ≤ 9223372036854775807 ∧ ∀ y ∈ l, okGChoice y)) : laws_FnExactDrumFor f t l = some true := by
  obtain ⟨f0, fl, f2⟩ := o0
  obtain ⟨tl, t2⟩ := o1
  obtain ⟨ll, l2⟩ := o2
  simp only [laws_FnExactDrumFor]
  rw [laws_szFrame_is f _ (by omega) (by omega) fl]
  simp only [Option.bind_some]
  by_cases hz0 : (1048576 : Int) < (f.fHammers.length : Int)
  · rw [if_pos hz0, if_pos (by simp)]
  · rw [if_neg hz0, if_neg (by simp; omega)]
    rw [laws_szTune_is t _ (by omega) (by omega) tl]
    simp only [Option.bind_some]
    by_cases hz1 : (1048576 : Int) - (f.fHammers.length : Int) < (t.length : Int)
    · rw [if_pos hz1, if_pos (by simp)]
    · rw [if_neg hz1, if_neg (by simp; omega)]
      rw [laws_szChoiceS_is l _ (by omega) (by omega) ll]
      simp only [Option.bind_some]
      by_cases hz2 : (1048576 : Int) - (f.fHammers.length : Int) - (t.length : Int) < (l.length : Int)
      · rw [if_pos hz2, if_pos (by simp)]
      · rw [if_neg hz2, if_neg (by simp; omega)]
        obtain ⟨⟨r1, r2⟩, hI, hS⟩ := drumFor_same f t l ⟨f0, fun y hy => f2 y hy⟩ (fun n hn => t2 n hn) (by omega) (by omega) (by omega)
        simp only [laws_toFrame_is f (by omega), laws_toTune_is t (by omega), laws_toChoiceS_is l (by omega), Option.bind_some, hI, hS, laws_eqFrame_is f _ (by omega), laws_eqTune_is t _ (by omega), laws_eqChoiceS_is l _ (by omega), laws_eqDrum_is, decide_true, Bool.not_true, Bool.false_eq_true, if_false, decide_eq_true_eq, bne_self_eq_false, Bool.or_false, Bool.false_or, Bool.or_self]


end Go.Proofs.Ytilackblefjgdaa
