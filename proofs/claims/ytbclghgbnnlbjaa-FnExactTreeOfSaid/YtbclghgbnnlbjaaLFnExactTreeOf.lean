/- The tree of least cost: the program's answer is the reference's, and the law's plain function answers true at every input. -/
import Derived.Test.YtbclghgbnnlbjaaM2
import Derived.Test.YtbclghgbnnlbjaaPFrame
import Derived.Test.YtbclghgbnnlbjaaPDrum
import Derived.Test.YtbclghgbnnlbjaaPCodes
import Derived.Test.YtbclghgbnnlbjaaPPut
import Derived.Test.YtbclghgbnnlbjaaPBits
import Derived.Test.YtbclghgbnnlbjaaPCost
import Derived.Test.YtbclghgbnnlbjaaPDTab
import Derived.Test.YtbclghgbnnlbjaaPStab
import Derived.Test.YtbclghgbnnlbjaaPPairs
import Derived.Test.YtbclghgbnnlbjaaPJoined
import Derived.Test.YtbclghgbnnlbjaaPKruskal
import Derived.Test.YtbclghgbnnlbjaaPMarkA
import Derived.Test.YtbclghgbnnlbjaaPure
import Derived.Test.YtbclghgbnnlbjaaSFnExactTreeOf
namespace Go.Proofs.Ytbclghgbnnlbjaa
open Eng
set_option linter.unusedVariables false
set_option linter.unusedSimpArgs false

def cstD (ds : List (Arr 96 Int)) (i k : Nat) : Nat := match ds[i]?, ds[k]? with | some a, some b => distD a b | _, _ => 0
theorem tabD_tbc {ds : List (Arr 96 Int)} (h : ds.length ≤ 1000) : TbC (tabD ds) ds.length (cstD ds) := by
  refine ⟨by simp [tabD], fun i k hi hk => ?_, fun i k => ?_, h⟩
  · obtain ⟨r, r1, r2⟩ := tabD_at hi hk
    refine ⟨r, r1, ?_⟩
    rw [r2]; simp [cstD, hi, hk]
  · unfold cstD
    split
    · have := distD_le; rename_i a b _ _; have := this a b; omega
    · omega
theorem startV_ok {f : GFrame} {ds : List (Arr 96 Int)} (h : startV f ds = 0) : 1 ≤ ds.length ∧ ds.length ≤ 8 := by
  unfold startV listV at h
  by_cases h1 : frameB f = true ∧ ds.all (drumB f) = true
  · rw [if_pos h1] at h
    by_cases h8 : ds.length ≤ 8
    · rw [if_pos h8] at h
      simp only [ne_eq, not_true_eq_false, if_false] at h
      by_cases h0 : ds.length = 0
      · rw [if_pos h0] at h; cases h
      · omega
    · rw [if_neg h8] at h; simp at h
  · rw [if_neg h1] at h; simp at h
theorem treeOf_same (f : GFrame) (ds : List (Arr 96 Int)) (hi : FIn f) (hl : f.fHammers.length ≤ 9223372036854775807) (hds : ds.length ≤ 4294967296) (hd : ∀ d ∈ ds, DIn d) :
    ∃ out sum code, impl_TreeOf f ds = some (out, sum, code) ∧ spec_TreeOf f ds = some (out, sum, code) ∧ out.length ≤ 1000 := by
  simp only [impl_TreeOf, spec_TreeOf, startCode_is f hi hl ds hds hd, l05First_is f hi hl ds hds hd, Option.bind_some]
  by_cases hc : startV f ds = 0
  · obtain ⟨h1, h8⟩ := startV_ok hc
    obtain ⟨Y, g, out, sum, y1, _, _, hK, _, q1, q2⟩ := tree_is (tabD_tbc (ds := ds) (by omega)) h1 ds rfl
    refine ⟨out, sum, 0, ?_, ?_, by have := hK.cnt; omega⟩
    · rw [if_neg (by simp [hc]), costs_is ds hds hd]
      simp only [Option.bind_some, y1, q2, impl_TreeOf.k_6]
    · rw [if_neg (by simp [hc]), l05Table_is ds hds hd]
      simp only [Option.bind_some, q1]
  · refine ⟨[], 0, startV f ds, ?_, ?_, by simp⟩
    · rw [if_pos (by simp [hc])]
    · rw [if_pos (by simp [hc])]
theorem FnExactTreeOf_ok (f : GFrame) (ds : List (Arr 96 Int)) (o0 : okGFrame f) (o1 : (ds.length ≤ 9223372036854775807 ∧ ∀ y ∈ ds, (∀ z ∈ y.1, (0 ≤ z ∧ z ≤ 4294967295)))) : laws_FnExactTreeOf f ds = some true := by
  obtain ⟨f0, fl, f2⟩ := o0
  obtain ⟨dl, d2⟩ := o1
  simp only [laws_FnExactTreeOf]
  rw [laws_szFrame_is f _ (by omega) (by omega) fl]
  simp only [Option.bind_some]
  by_cases hz0 : (1048576 : Int) < (f.fHammers.length : Int)
  · rw [if_pos hz0, if_pos (by simp)]
  · rw [if_neg hz0, if_neg (by simp; omega)]
    rw [laws_szDrumS_is ds _ (by omega) (by omega) dl]
    simp only [Option.bind_some]
    by_cases hz1 : (1048576 : Int) - (f.fHammers.length : Int) < (ds.length : Int)
    · rw [if_pos hz1, if_pos (by simp)]
    · rw [if_neg hz1, if_neg (by simp; omega)]
      obtain ⟨out, sum, code, hI, hS, hlen⟩ := treeOf_same f ds ⟨f0, fun y hy => f2 y hy⟩ fl (by omega) (fun d hd => d2 d hd)
      obtain ⟨fy0, m_f, _⟩ := laws_markFrame_is f (1) (by omega) (by omega) (by omega)
      obtain ⟨dy0, m_d, _⟩ := markDrumS_is ds (1 + f.fHammers.length * 2) (by omega) (by omega) (by omega)
      have e0 : ¬ (((1 : Int) + f.fHammers.length * 2 + ds.length * 96 : Int) < 0) := by omega
      obtain ⟨z0, n0, _, q0⟩ := markInt64A2S_is out (1) (by omega) (by omega) (by omega)
      have g0 : ¬ (((1 : Int) + out.length * 2 : Int) < 0) := by omega
      simp only [laws_toFrame_is f (by omega), laws_toDrumS_is ds (by omega), Option.bind_some, hI, hS, laws_eqFrame_is f _ (by omega), laws_eqDrumS_is ds _ (by omega), laws_eqInt64A2S_is out _ (by omega), laws_FnExactTreeOf.k_17, m_f, m_d, n0, q0, decide_true, Bool.not_true, Bool.false_eq_true, if_false, decide_eq_true_eq, bne_self_eq_false, Bool.or_false, Bool.false_or, Bool.or_self, if_neg e0, if_neg g0]

end Go.Proofs.Ytbclghgbnnlbjaa
