/- Arrange: the program's answer is the reference's, and the law's plain function answers true at every input. -/
import Derived.Test.YteedohcicmgkaaaM3
import Derived.Test.YteedohcicmgkaaaPStab
import Derived.Test.YteedohcicmgkaaaPFrame
import Derived.Test.YteedohcicmgkaaaPDrum
import Derived.Test.YteedohcicmgkaaaPCodes
import Derived.Test.YteedohcicmgkaaaPTune
import Derived.Test.YteedohcicmgkaaaPChoices
import Derived.Test.YteedohcicmgkaaaPCosts
import Derived.Test.YteedohcicmgkaaaPLeast
import Derived.Test.YteedohcicmgkaaaPBound
import Derived.Test.YteedohcicmgkaaaPFit
import Derived.Test.YteedohcicmgkaaaPSearch
import Derived.Test.YteedohcicmgkaaaPChSort
import Derived.Test.YteedohcicmgkaaaPArr
import Derived.Test.YteedohcicmgkaaaPure
import Derived.Test.YteedohcicmgkaaaSFnExactArrange
namespace Go.Proofs.Yteedohcicmgkaaa
open Eng
set_option linter.unusedVariables false
set_option linter.unusedSimpArgs false

theorem FnExactArrange_ok (f : GFrame) (t : List GNote) (c : GCosts) (n : Int) (o0 : okGFrame f) (o1 : (t.length ≤ 9223372036854775807 ∧ ∀ y ∈ t, okGNote y)) (o2 : okGCosts c) (o3 : (-9223372036854775808 ≤ n ∧ n ≤ 9223372036854775807)) : laws_FnExactArrange f t c n = some true := by
  obtain ⟨f0, fl, f2⟩ := o0
  obtain ⟨tl, t2⟩ := o1
  simp only [laws_FnExactArrange]
  rw [laws_szFrame_is f _ (by omega) (by omega) fl]
  simp only [Option.bind_some]
  by_cases hz0 : (1048576 : Int) < (f.fHammers.length : Int)
  · rw [if_pos hz0, if_pos (by simp)]
  · rw [if_neg hz0, if_neg (by simp; omega)]
    rw [laws_szTune_is t _ (by omega) (by omega) tl]
    simp only [Option.bind_some]
    by_cases hz1 : (1048576 : Int) - (f.fHammers.length : Int) < (t.length : Int)
    · rw [if_pos hz1, if_pos (by simp)]
    · rw [if_neg hz1, if_neg (by simp; omega)]
      obtain ⟨hI, hS0, r1h⟩ := arrange_is (c := c) n ⟨f0, fun y hy => f2 y hy⟩ (by omega) (by omega) (fun n hn => t2 n hn) o2
      have hS : spec_Arrange f t c n = some (arrangeV f t c n) := by simp only [spec_Arrange, hS0, Option.bind_some]
      generalize arrangeV f t c n = r at hI hS r1h
      obtain ⟨r1, r2, r3⟩ := r
      simp only at r1h
      obtain ⟨fy0, m_f, _⟩ := laws_markFrame_is f (1) (by omega) (by omega) (by omega)
      obtain ⟨ty0, m_t, _⟩ := laws_markTune_is t (1 + f.fHammers.length * 2) (by omega) (by omega) (by omega)
      have e0 : ¬ (((1 : Int) + f.fHammers.length * 2 + t.length * 2 : Int) < 0) := by omega
      obtain ⟨z0, n0, _, q0⟩ := laws_markChoiceS_is r1 (1) (by omega) (by omega) (by omega)
      have f0 : ¬ (((1 : Int) + r1.length * 4 : Int) < 0) := by omega
      simp only [laws_toFrame_is f (by omega), laws_toTune_is t (by omega), laws_toCosts_is, Option.bind_some, hI, hS, laws_eqFrame_is f _ (by omega), laws_eqTune_is t _ (by omega), laws_FnExactArrange.k_19, m_f, m_t, n0, q0, laws_eqChoiceS_is r1 _ (by omega), decide_true, Bool.not_true, Bool.false_eq_true, if_false, decide_eq_true_eq, bne_self_eq_false, Bool.or_false, Bool.false_or, Bool.or_self, if_neg e0, if_neg f0]

end Go.Proofs.Yteedohcicmgkaaa
