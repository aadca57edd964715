/- The most notes that are kept: the program's answer is the reference's, and the law's plain function answers true at every input. -/
import Derived.Test.YteedohcicmgkaaaM4
import Derived.Test.YteedohcicmgkaaaPStab
import Derived.Test.YteedohcicmgkaaaPFrame
import Derived.Test.YteedohcicmgkaaaPDrum
import Derived.Test.YteedohcicmgkaaaPCodes
import Derived.Test.YteedohcicmgkaaaPTune
import Derived.Test.YteedohcicmgkaaaPChoices
import Derived.Test.YteedohcicmgkaaaPCosts
import Derived.Test.YteedohcicmgkaaaPLeast
import Derived.Test.YteedohcicmgkaaaPBound
import Derived.Test.YteedohcicmgkaaaPFit
import Derived.Test.YteedohcicmgkaaaPSearch
import Derived.Test.YteedohcicmgkaaaPChSort
import Derived.Test.YteedohcicmgkaaaPArr
import Derived.Test.YteedohcicmgkaaaPure
import Derived.Test.YteedohcicmgkaaaSFnExactMostKept
namespace Go.Proofs.Yteedohcicmgkaaa
open Eng
set_option linter.unusedVariables false
set_option linter.unusedSimpArgs false

theorem FnExactMostKept_ok (f : GFrame) (t : List GNote) (n : Int) (o0 : okGFrame f) (o1 : (t.length ≤ 9223372036854775807 ∧ ∀ y ∈ t, okGNote y)) (o2 : (-9223372036854775808 ≤ n ∧ n ≤ 9223372036854775807)) : laws_FnExactMostKept f t n = some true := by
  obtain ⟨f0, fl, f2⟩ := o0
  obtain ⟨tl, t2⟩ := o1
  simp only [laws_FnExactMostKept]
  rw [laws_szFrame_is f _ (by omega) (by omega) fl]
  simp only [Option.bind_some]
  by_cases hz0 : (1048576 : Int) < (f.fHammers.length : Int)
  · rw [if_pos hz0, if_pos (by simp)]
  · rw [if_neg hz0, if_neg (by simp; omega)]
    rw [laws_szTune_is t _ (by omega) (by omega) tl]
    simp only [Option.bind_some]
    by_cases hz1 : (1048576 : Int) - (f.fHammers.length : Int) < (t.length : Int)
    · rw [if_pos hz1, if_pos (by simp)]
    · rw [if_neg hz1, if_neg (by simp; omega)]
      obtain ⟨⟨r1, r2⟩, hI, hS⟩ : ∃ r, impl_MostKept f t n = some r ∧ spec_MostKept f t n = some r := by
        obtain ⟨hI, hS, _⟩ := arrange_is (c := ⟨1, 0, 0⟩) n ⟨f0, fun y hy => f2 y hy⟩ (by omega) (by omega) (fun n hn => t2 n hn) (by unfold CIn; simp)
        refine ⟨_, ?_, by simp only [spec_MostKept, hS, Option.bind_some]; rw [← apply_ite some]⟩
        simp only [impl_MostKept, hI, Option.bind_some, impl_size_Note]
        rw [← apply_ite some]
      simp only [laws_toFrame_is f (by omega), laws_toTune_is t (by omega), Option.bind_some, hI, hS, laws_eqFrame_is f _ (by omega), laws_eqTune_is t _ (by omega), decide_true, Bool.not_true, Bool.false_eq_true, if_false, decide_eq_true_eq, bne_self_eq_false, Bool.or_false, Bool.false_or, Bool.or_self]

end Go.Proofs.Yteedohcicmgkaaa
