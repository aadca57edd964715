/- Tracks that can be left out: the law's plain function answers true at every input. -/
import Derived.Test.YteedohcicmgkaaaM1
import Derived.Test.YteedohcicmgkaaaPFrame
import Derived.Test.YteedohcicmgkaaaPDrum
import Derived.Test.YteedohcicmgkaaaPCodes
import Derived.Test.YteedohcicmgkaaaPPut
import Derived.Test.YteedohcicmgkaaaPTune
import Derived.Test.YteedohcicmgkaaaPChoices
import Derived.Test.YteedohcicmgkaaaPFit
import Derived.Test.YteedohcicmgkaaaPPlc
import Derived.Test.YteedohcicmgkaaaPByTr
import Derived.Test.YteedohcicmgkaaaPWithout
import Derived.Test.YteedohcicmgkaaaPPins
import Derived.Test.YteedohcicmgkaaaPPinRun
import Derived.Test.YteedohcicmgkaaaPPinTune
import Derived.Test.YteedohcicmgkaaaPNeedless
import Derived.Test.YteedohcicmgkaaaPure
import Derived.Test.YteedohcicmgkaaaSFnExactNeedlessTracks
namespace Go.Proofs.Yteedohcicmgkaaa
open Eng
set_option linter.unusedVariables false
set_option linter.unusedSimpArgs false

theorem FnExactNeedlessTracks_ok (f : GFrame) (t : List GNote) (o0 : okGFrame f) (o1 : (t.length ≤ 9223372036854775807 ∧ ∀ y ∈ t, okGNote y)) : laws_FnExactNeedlessTracks f t = some true := by
  obtain ⟨f0, fl, f2⟩ := o0
  obtain ⟨tl, t2⟩ := o1
  simp only [laws_FnExactNeedlessTracks]
  rw [laws_szFrame_is f _ (by omega) (by omega) fl]
  simp only [Option.bind_some]
  by_cases hz0 : (1048576 : Int) < (f.fHammers.length : Int)
  · rw [if_pos hz0, if_pos (by simp)]
  · rw [if_neg hz0, if_neg (by simp; omega)]
    rw [laws_szTune_is t _ (by omega) (by omega) tl]
    simp only [Option.bind_some]
    by_cases hz1 : (1048576 : Int) - (f.fHammers.length : Int) < (t.length : Int)
    · rw [if_pos hz1, if_pos (by simp)]
    · rw [if_neg hz1, if_neg (by simp; omega)]
      obtain ⟨⟨r1, r2⟩, hI, hS, r1h⟩ := needless_same ⟨f0, fun y hy => f2 y hy⟩ (by omega) (by omega) (fun n hn => t2 n hn)
      simp only at r1h
      obtain ⟨fy0, m_f, _⟩ := laws_markFrame_is f (1) (by omega) (by omega) (by omega)
      obtain ⟨ty0, m_t, _⟩ := laws_markTune_is t (1 + f.fHammers.length * 2) (by omega) (by omega) (by omega)
      have e0 : ¬ (((1 : Int) + f.fHammers.length * 2 + t.length * 2 : Int) < 0) := by omega
      obtain ⟨z0, n0, _, q0⟩ := laws_markInt64S_is r1 (1) (by omega) (by omega) (by omega)
      have f0 : ¬ (((1 : Int) + r1.length * 1 : Int) < 0) := by omega
      simp only [laws_toFrame_is f (by omega), laws_toTune_is t (by omega), Option.bind_some, hI, hS, laws_eqFrame_is f _ (by omega), laws_eqTune_is t _ (by omega), laws_FnExactNeedlessTracks.k_17, m_f, m_t, n0, q0, laws_eqInt64S_is r1 _ (by omega), decide_true, Bool.not_true, Bool.false_eq_true, if_false, decide_eq_true_eq, bne_self_eq_false, Bool.or_false, Bool.false_or, Bool.or_self, if_neg e0, if_neg f0]


end Go.Proofs.Yteedohcicmgkaaa
