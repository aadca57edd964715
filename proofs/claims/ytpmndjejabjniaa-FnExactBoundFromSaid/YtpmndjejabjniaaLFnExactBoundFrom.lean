/- The bound from an index on: the program's answer is the reference's, and the law's plain function answers true at every input. -/
import Derived.Test.YtpmndjejabjniaaM1
import Derived.Test.YtpmndjejabjniaaPFrame
import Derived.Test.YtpmndjejabjniaaPDrum
import Derived.Test.YtpmndjejabjniaaPCodes
import Derived.Test.YtpmndjejabjniaaPTune
import Derived.Test.YtpmndjejabjniaaPChoices
import Derived.Test.YtpmndjejabjniaaPCosts
import Derived.Test.YtpmndjejabjniaaPLeast
import Derived.Test.YtpmndjejabjniaaPBound
import Derived.Test.YtpmndjejabjniaaPure
import Derived.Test.YtpmndjejabjniaaSFnExactBoundFrom
namespace Go.Proofs.Ytpmndjejabjniaa
open Eng
set_option linter.unusedVariables false
set_option linter.unusedSimpArgs false

theorem FnExactBoundFrom_ok (f : GFrame) (t : List GNote) (c : GCosts) (n : Int) (o0 : okGFrame f) (o1 : (t.length ≤ 9223372036854775807 ∧ ∀ y ∈ t, okGNote y)) (o2 : okGCosts c) (o3 : (-9223372036854775808 ≤ n ∧ n ≤ 9223372036854775807)) : laws_FnExactBoundFrom f t c n = some true := by
  obtain ⟨f0, fl, f2⟩ := o0
  obtain ⟨tl, t2⟩ := o1
  simp only [laws_FnExactBoundFrom]
  rw [laws_szFrame_is f _ (by omega) (by omega) fl]
  simp only [Option.bind_some]
  by_cases hz0 : (1048576 : Int) < (f.fHammers.length : Int)
  · rw [if_pos hz0, if_pos (by simp)]
  · rw [if_neg hz0, if_neg (by simp; omega)]
    rw [laws_szTune_is t _ (by omega) (by omega) tl]
    simp only [Option.bind_some]
    by_cases hz1 : (1048576 : Int) - (f.fHammers.length : Int) < (t.length : Int)
    · rw [if_pos hz1, if_pos (by simp)]
    · rw [if_neg hz1, if_neg (by simp; omega)]
      obtain ⟨⟨r1, r2⟩, hI, hS⟩ := boundFrom_same f t c n ⟨f0, fun y hy => f2 y hy⟩ (by omega) (by omega) (fun n hn => t2 n hn) o2
      simp only [laws_toFrame_is f (by omega), laws_toTune_is t (by omega), laws_toCosts_is, Option.bind_some, hI, hS, laws_eqFrame_is f _ (by omega), laws_eqTune_is t _ (by omega), decide_true, Bool.not_true, Bool.false_eq_true, if_false, decide_eq_true_eq, bne_self_eq_false, Bool.or_false, Bool.false_or, Bool.or_self]

end Go.Proofs.Ytpmndjejabjniaa
