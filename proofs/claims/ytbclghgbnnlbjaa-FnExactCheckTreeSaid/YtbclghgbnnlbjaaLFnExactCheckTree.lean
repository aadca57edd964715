/- The test of a tree: the program's answer is the reference's, and the law's plain function answers true at every input. -/
import Derived.Test.YtbclghgbnnlbjaaM0
import Derived.Test.YtbclghgbnnlbjaaM3
import Derived.Test.YtbclghgbnnlbjaaPFrame
import Derived.Test.YtbclghgbnnlbjaaPDrum
import Derived.Test.YtbclghgbnnlbjaaPCodes
import Derived.Test.YtbclghgbnnlbjaaPPut
import Derived.Test.YtbclghgbnnlbjaaPBits
import Derived.Test.YtbclghgbnnlbjaaPCost
import Derived.Test.YtbclghgbnnlbjaaPDTab
import Derived.Test.YtbclghgbnnlbjaaPStab
import Derived.Test.YtbclghgbnnlbjaaPPairs
import Derived.Test.YtbclghgbnnlbjaaPJoined
import Derived.Test.YtbclghgbnnlbjaaPKruskal
import Derived.Test.YtbclghgbnnlbjaaPComps
import Derived.Test.YtbclghgbnnlbjaaPMst
import Derived.Test.YtbclghgbnnlbjaaPKPath
import Derived.Test.YtbclghgbnnlbjaaPChkTree
import Derived.Test.YtbclghgbnnlbjaaPMarkA
import Derived.Test.YtbclghgbnnlbjaaPChkImpl
import Derived.Test.YtbclghgbnnlbjaaPChkSpec
import Derived.Test.YtbclghgbnnlbjaaPure
import Derived.Test.YtbclghgbnnlbjaaSFnExactCheckTree
namespace Go.Proofs.Ytbclghgbnnlbjaa
open Eng
set_option linter.unusedVariables false
set_option linter.unusedSimpArgs false

def cstD (ds : List (Arr 96 Int)) (i k : Nat) : Nat := match ds[i]?, ds[k]? with | some a, some b => distD a b | _, _ => 0
theorem tabD_tbc {ds : List (Arr 96 Int)} (h : ds.length ≤ 1000) : TbC (tabD ds) ds.length (cstD ds) := by
  refine ⟨by simp [tabD], fun i k hi hk => ?_, fun i k => ?_, h⟩
  · obtain ⟨r, r1, r2⟩ := tabD_at hi hk
    refine ⟨r, r1, ?_⟩
    rw [r2]; simp [cstD, hi, hk]
  · unfold cstD
    split
    · have := distD_le; rename_i a b _ _; have := this a b; omega
    · omega
theorem listV_ok {f : GFrame} {ds : List (Arr 96 Int)} (h : listV f ds = 0) : ds.length ≤ 8 := by
  unfold listV at h
  by_cases h1 : frameB f = true ∧ ds.all (drumB f) = true
  · rw [if_pos h1] at h
    by_cases h8 : ds.length ≤ 8
    · exact h8
    · rw [if_neg h8] at h; simp at h
  · rw [if_neg h1] at h; simp at h
theorem check_same (f : GFrame) (ds : List (Arr 96 Int)) (t : List (Arr 2 Int)) (hi : FIn f) (hl : f.fHammers.length ≤ 9223372036854775807) (hds : ds.length ≤ 4294967296) (hd : ∀ d ∈ ds, DIn d) (htl : t.length ≤ 1048576) (ht : ∀ x ∈ t, In2 x) :
    ∃ b code, impl_CheckTree f ds t = some (b, code) ∧ spec_CheckTree f ds t = some (b, code) := by
  simp only [impl_CheckTree, spec_CheckTree, listCode_is f hi hl ds (by omega) hd, l05Asked_is f hi hl ds (by omega) hd, Option.bind_some, impl_size_Drum, impl_size_2int64]
  by_cases hc : listV f ds = 0
  · have h8 := listV_ok hc
    have w1 : w64 ((ds.length : Int) - 1) = (ds.length : Int) - 1 := w64_in (by omega) (by omega)
    have w2 : w64 ((t.length : Int) + 1) = (t.length : Int) + 1 := w64_in (by omega) (by omega)
    have hb : (listV f ds != 0) = false := by simp [hc]
    simp only [hb, Bool.false_eq_true, if_false, w1, w2]
    by_cases hn : t.length + 1 = ds.length
    · have hn1 : 1 ≤ ds.length := by omega
      have hT := tabD_tbc (ds := ds) (by omega)
      have q1 : ((t.length : Int) != (ds.length : Int) - 1) = false := by simp; omega
      have q2 : ((t.length : Int) + 1 != (ds.length : Int)) = false := by simp; omega
      simp only [q1, q2, Bool.false_eq_true, if_false, contains1_is hn1 (show ds.length ≤ 1000 by omega) t (by omega) ht]
      have h0 : loop (spec_CheckTree.l_38 ds) ([], 0) = some (labL ds.length id) := by
        have := loop_seq (f := spec_CheckTree.l_38 ds) ds.length (fun k => (labL k id, (k : Int))) (labL ds.length id) (fun k hk => by
          simp only [spec_CheckTree.l_38]
          rw [if_pos (by rw [decide_eq_true_eq]; omega), if_pos (by rw [labL_len]; simp; omega), w64_in (by omega) (by omega)]
          simp [labL, List.range_succ]) (by
          simp only [spec_CheckTree.l_38]
          rw [if_neg (by simp)])
        simpa [labL] using this
      obtain ⟨K, k1, k2, k3, k4, k5⟩ := specTree_is hT hn1
      have h12 := l12_is (ds := ds) rfl hn1 hT t (by omega) ht t.length 0 id (by omega) (by simpa using KInv.start ds.length) (fun j hj => absurd hj (by omega))
      have e0 : ((wS (cstD ds) (t.take 0) : Nat) : Int) = 0 := by simp [wS]
      rw [e0, show ((0 : Nat) : Int) = 0 from rfl] at h12
      simp only [Option.bind_some, h0, spec_CheckTree.k_3, l05Table_is ds hds hd]
      by_cases hg : t.all (goodB ds.length) = true
      · have hP : ∀ e ∈ t, IsP ds.length e := fun e he => good_iff.1 (List.all_eq_true.1 hg e he)
        have hfine : (∀ j, j < t.length → FineAt ds.length t j) ↔ Forest ds.length t := by
          rw [← forest_seq hP]
          exact ⟨fun h j hj => (h j hj hj).2, fun h j hj _ => ⟨hP _ (List.getElem_mem hj), h j hj⟩⟩
        rw [hg]
        simp only [Bool.not_true, impl_CheckTree.k_4, Bool.false_eq_true, if_false, costs_is ds hds hd, joined_is (IsP.isE hP) (show ds.length ≤ 1000 by omega) (by omega), Option.bind_some, contains2_is _ (show (labL ds.length (rounds t t.length)).length ≤ 9223372036854775807 by rw [labL_len]; omega)]
        by_cases hw : Whole ds.length t
        · have hF := forest_of hP hw hn
          rw [(names_zero hn1).2 hw]
          simp only [Bool.false_eq_true, if_false]
          obtain ⟨b, b1, b2⟩ := l10_is (ds := ds) rfl hT hP (by omega)
          rcases h12 with ⟨h1, _⟩ | ⟨_, L, h2⟩
          · exact absurd (hfine.2 hF) h1
          · rw [b1, h2]
            simp only [Option.bind_some, spec_CheckTree.k_7, k1]
            have hiff : b = true ↔ wS (cstD ds) t = wS (cstD ds) K := by
              rw [b2, cut_iff hP hF hw, path_iff hT.bd k4 k2 k3 hP hF (by omega)]
            cases b with
            | true => exact ⟨true, 0, by simp [impl_CheckTree.k_8], by simp [hiff.1 rfl]⟩
            | false =>
              refine ⟨false, 0, by simp, ?_⟩
              have : ¬ wS (cstD ds) t = wS (cstD ds) K := fun h => by simpa using hiff.2 h
              rw [show (((wS (cstD ds) t : Nat) : Int) == ((wS (cstD ds) K : Nat) : Int)) = false by simp; omega]
        · have hnz : ((labL ds.length (rounds t t.length)).any fun x => x != 0) = true := by
            cases hz : ((labL ds.length (rounds t t.length)).any fun x => x != 0) with
            | true => rfl
            | false => exact absurd ((names_zero hn1).1 hz) hw
          rw [hnz]
          simp only [if_true]
          refine ⟨false, 0, rfl, ?_⟩
          rcases h12 with ⟨_, h2⟩ | ⟨h1, _⟩
          · rw [h2]; rfl
          · exact absurd (whole_of hP (hfine.1 h1) hn) hw
      · have hgf : t.all (goodB ds.length) = false := by simpa using hg
        rw [hgf]
        simp only [Bool.not_false, impl_CheckTree.k_4, if_true]
        refine ⟨false, 0, rfl, ?_⟩
        rcases h12 with ⟨_, h2⟩ | ⟨h1, _⟩
        · rw [h2]; rfl
        · refine absurd (List.all_eq_true.2 fun x hx => ?_) hg
          obtain ⟨j, hj, rfl⟩ := List.mem_iff_getElem.1 hx
          exact good_iff.2 (h1 j hj hj).1
    · have q1 : ((t.length : Int) != (ds.length : Int) - 1) = true := by simp only [bne_iff_ne, ne_eq]; omega
      have q2 : ((t.length : Int) + 1 != (ds.length : Int)) = true := by simp only [bne_iff_ne, ne_eq]; omega
      simp only [q1, q2, if_true]
      exact ⟨false, 0, by simp [impl_CheckTree.k_4], rfl⟩
  · have hb : (listV f ds != 0) = true := by simp [hc]
    simp only [hb, if_true]
    exact ⟨false, listV f ds, rfl, rfl⟩
theorem in2_of {x : Arr 2 Int} (h : ∀ z ∈ x.1, (-9223372036854775808 ≤ z ∧ z ≤ 9223372036854775807)) : In2 x := by
  obtain ⟨a, b, rfl⟩ := arr2 x
  exact ⟨h a (by simp), h b (by simp)⟩
theorem FnExactCheckTree_ok (f : GFrame) (ds : List (Arr 96 Int)) (t : List (Arr 2 Int)) (o0 : okGFrame f) (o1 : (ds.length ≤ 9223372036854775807 ∧ ∀ y ∈ ds, (∀ z ∈ y.1, (0 ≤ z ∧ z ≤ 4294967295)))) (o2 : (t.length ≤ 9223372036854775807 ∧ ∀ y ∈ t, (∀ z ∈ y.1, (-9223372036854775808 ≤ z ∧ z ≤ 9223372036854775807)))) : laws_FnExactCheckTree f ds t = some true := by
  obtain ⟨f0, fl, f2⟩ := o0
  obtain ⟨dl, d2⟩ := o1
  obtain ⟨tl, t2⟩ := o2
  simp only [laws_FnExactCheckTree]
  rw [laws_szFrame_is f _ (by omega) (by omega) fl]
  simp only [Option.bind_some]
  by_cases hz0 : (1048576 : Int) < (f.fHammers.length : Int)
  · rw [if_pos hz0, if_pos (by simp)]
  · rw [if_neg hz0, if_neg (by simp; omega)]
    rw [laws_szDrumS_is ds _ (by omega) (by omega) dl]
    simp only [Option.bind_some]
    by_cases hz1 : (1048576 : Int) - (f.fHammers.length : Int) < (ds.length : Int)
    · rw [if_pos hz1, if_pos (by simp)]
    · rw [if_neg hz1, if_neg (by simp; omega)]
      rw [laws_szInt64A2S_is t _ (by omega) (by omega) tl]
      simp only [Option.bind_some]
      by_cases hz2 : (1048576 : Int) - (f.fHammers.length : Int) - (ds.length : Int) < (t.length : Int)
      · rw [if_pos hz2, if_pos (by simp)]
      · rw [if_neg hz2, if_neg (by simp; omega)]
        obtain ⟨b, code, hI, hS⟩ := check_same f ds t ⟨f0, fun y hy => f2 y hy⟩ fl (by omega) (fun d hd => d2 d hd) (by omega) (fun x hx => in2_of (t2 x hx))
        simp only [laws_toFrame_is f (by omega), laws_toDrumS_is ds (by omega), laws_toInt64A2S_is t (by omega), Option.bind_some, hI, hS, laws_eqFrame_is f _ (by omega), laws_eqDrumS_is ds _ (by omega), laws_eqInt64A2S_is t _ (by omega), decide_true, Bool.not_true, Bool.false_eq_true, if_false, bne_self_eq_false, Bool.or_self]

end Go.Proofs.Ytbclghgbnnlbjaa
