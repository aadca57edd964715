/- The best circle of drums: the program's answer is the reference's, and the law's plain function answers true at every input. -/
import Derived.Test.YteedohcicmgkaaaM2
import Derived.Test.YteedohcicmgkaaaPFrame
import Derived.Test.YteedohcicmgkaaaPDrum
import Derived.Test.YteedohcicmgkaaaPCodes
import Derived.Test.YteedohcicmgkaaaPPut
import Derived.Test.YteedohcicmgkaaaPBits
import Derived.Test.YteedohcicmgkaaaPCost
import Derived.Test.YteedohcicmgkaaaPDTab
import Derived.Test.YteedohcicmgkaaaPBPath
import Derived.Test.YteedohcicmgkaaaPOrdImpl
import Derived.Test.YteedohcicmgkaaaPOrdSpec
import Derived.Test.YteedohcicmgkaaaPDTabC
import Derived.Test.YteedohcicmgkaaaPBestOrd
import Derived.Test.YteedohcicmgkaaaPMarkA
import Derived.Test.YteedohcicmgkaaaPure
import Derived.Test.YteedohcicmgkaaaSFnExactBestCircle
namespace Go.Proofs.Yteedohcicmgkaaa
open Eng
set_option linter.unusedVariables false
set_option linter.unusedSimpArgs false

theorem FnExactBestCircle_ok (f : GFrame) (ds : List (Arr 96 Int)) (o0 : okGFrame f) (o1 : (ds.length ≤ 9223372036854775807 ∧ ∀ y ∈ ds, (∀ z ∈ y.1, (0 ≤ z ∧ z ≤ 4294967295)))) : laws_FnExactBestCircle f ds = some true := by
  obtain ⟨f0, fl, f2⟩ := o0
  obtain ⟨dl, d2⟩ := o1
  simp only [laws_FnExactBestCircle]
  rw [laws_szFrame_is f _ (by omega) (by omega) fl]
  simp only [Option.bind_some]
  by_cases hz0 : (1048576 : Int) < (f.fHammers.length : Int)
  · rw [if_pos hz0, if_pos (by simp)]
  · rw [if_neg hz0, if_neg (by simp; omega)]
    rw [laws_szDrumS_is ds _ (by omega) (by omega) dl]
    simp only [Option.bind_some]
    by_cases hz1 : (1048576 : Int) - (f.fHammers.length : Int) < (ds.length : Int)
    · rw [if_pos hz1, if_pos (by simp)]
    · rw [if_neg hz1, if_neg (by simp; omega)]
      obtain ⟨out, sum, code, hI, hS, hlen, _⟩ := bestCircle_same f ds ⟨f0, fun y hy => f2 y hy⟩ fl (by omega) (fun d hd => d2 d hd)
      obtain ⟨fy0, m_f, _⟩ := laws_markFrame_is f (1) (by omega) (by omega) (by omega)
      obtain ⟨dy0, m_d, _⟩ := markDrumS_is ds (1 + f.fHammers.length * 2) (by omega) (by omega) (by omega)
      have e0 : ¬ (((1 : Int) + f.fHammers.length * 2 + ds.length * 96 : Int) < 0) := by omega
      obtain ⟨z0, n0, _, q0⟩ := laws_markInt64S_is out (1) (by omega) (by omega) (by omega)
      have g0 : ¬ (((1 : Int) + out.length * 1 : Int) < 0) := by omega
      simp only [laws_toFrame_is f (by omega), laws_toDrumS_is ds (by omega), Option.bind_some, hI, hS, laws_eqFrame_is f _ (by omega), laws_eqDrumS_is ds _ (by omega), laws_eqInt64S_is out _ (by omega), laws_FnExactBestCircle.k_17, m_f, m_d, n0, q0, decide_true, Bool.not_true, Bool.false_eq_true, if_false, decide_eq_true_eq, bne_self_eq_false, Bool.or_false, Bool.false_or, Bool.or_self, if_neg e0, if_neg g0]

end Go.Proofs.Yteedohcicmgkaaa
