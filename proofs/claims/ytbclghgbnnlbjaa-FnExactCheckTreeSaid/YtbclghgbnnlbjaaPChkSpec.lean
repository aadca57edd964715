/- The reference's test of a tree. -/
import Derived.Test.YtbclghgbnnlbjaaM0
import Derived.Test.YtbclghgbnnlbjaaM3
import Derived.Test.YtbclghgbnnlbjaaPFrame
import Derived.Test.YtbclghgbnnlbjaaPDrum
import Derived.Test.YtbclghgbnnlbjaaPCodes
import Derived.Test.YtbclghgbnnlbjaaPPut
import Derived.Test.YtbclghgbnnlbjaaPBits
import Derived.Test.YtbclghgbnnlbjaaPCost
import Derived.Test.YtbclghgbnnlbjaaPDTab
import Derived.Test.YtbclghgbnnlbjaaPStab
import Derived.Test.YtbclghgbnnlbjaaPPairs
import Derived.Test.YtbclghgbnnlbjaaPJoined
import Derived.Test.YtbclghgbnnlbjaaPKruskal
import Derived.Test.YtbclghgbnnlbjaaPComps
import Derived.Test.YtbclghgbnnlbjaaPMst
import Derived.Test.YtbclghgbnnlbjaaPKPath
import Derived.Test.YtbclghgbnnlbjaaPChkTree
import Derived.Test.YtbclghgbnnlbjaaPMarkA
import Derived.Test.YtbclghgbnnlbjaaPChkImpl
import Derived.Test.YtbclghgbnnlbjaaPure
namespace Go.Proofs.Ytbclghgbnnlbjaa
open Eng
set_option linter.unusedVariables false
set_option linter.unusedSimpArgs false

theorem relabel2_is {ds : List (Arr 96 Int)} {n : Nat} (hds : ds.length = n) (hn : n ≤ 1000) (g : Nat → Nat) (a b : Nat) (hab : g a ≠ g b) : loop (spec_CheckTree.l_28 ds ((g b : Nat) : Int) ((g a : Nat) : Int)) (labL n g, 0) = some (labL n (mergeG g a b)) := by
  have := loop_seq (f := spec_CheckTree.l_28 ds ((g b : Nat) : Int) ((g a : Nat) : Int)) n (fun k => (labL n (fun v => if v < k then mergeG g a b v else g v), (k : Int))) (labL n (mergeG g a b)) (fun k hk => by
    have hw : w64 ((k : Int) + 1) = ((k + 1 : Nat) : Int) := by rw [w64_in (by omega) (by omega)]; omega
    simp only [spec_CheckTree.l_28, hds, labL_ix hk, Option.bind_some, hw, Int.toNat_natCast, labL_set]
    rw [if_pos (by rw [decide_eq_true_eq]; omega)]
    have e : ∀ u : Nat → Nat, (∀ v, v < n → u v = if v < k + 1 then mergeG g a b v else g v) → labL n u = labL n (fun v => if v < k + 1 then mergeG g a b v else g v) := fun u hu => List.map_congr_left fun v hv => by rw [hu v (List.mem_range.1 hv)]
    simp only [Nat.lt_irrefl, if_false]
    by_cases hgk : g k = g b
    · rw [if_pos (by simp [hgk])]
      rw [e]
      intro v hv
      unfold upd
      by_cases hvk : v = k
      · subst hvk; simp [mergeG, hgk]
      · rw [if_neg hvk]
        by_cases h1 : v < k
        · simp only [if_pos h1, if_pos (show v < k + 1 by omega)]
        · simp only [if_neg h1, if_neg (show ¬ v < k + 1 by omega)]
    · rw [if_neg (by simp only [beq_iff_eq]; omega)]
      rw [e]
      intro v hv
      by_cases h1 : v < k
      · rw [if_pos h1, if_pos (by omega)]
      · rw [if_neg h1]
        by_cases hvk : v = k
        · subst hvk; simp [mergeG, hgk]
        · rw [if_neg (by omega)]) (by
    simp only [spec_CheckTree.l_28, hds]
    rw [if_neg (by simp)]
    congr 2
    refine List.map_congr_left fun v hv => ?_
    simp only [if_pos (List.mem_range.1 hv)])
  simpa using this
/-- a place is fine -/
def FineAt (n : Nat) (t : List (Arr 2 Int)) (i : Nat) : Prop := ∀ h : i < t.length, IsP n t[i] ∧ ¬ Cn (t.take i) (pa0 t[i]) (pa1 t[i])
theorem l12_is {ds : List (Arr 96 Int)} {T : List (List Int)} {n : Nat} {c : Nat → Nat → Nat} (hds : ds.length = n) (hn1 : 1 ≤ n) (hT : TbC T n c) (t : List (Arr 2 Int)) (hl : t.length ≤ 1000) (ht : ∀ x ∈ t, In2 x) : ∀ (m i : Nat) (g : Nat → Nat), i + m = t.length → KInv n g (t.take i) → (∀ j, j < i → FineAt n t j) →
    ((¬ ∀ j, j < t.length → FineAt n t j) ∧ loop (spec_CheckTree.l_12 ds t T) (labL n g, ((wS c (t.take i) : Nat) : Int), (i : Int)) = some (.inl (false, 0))) ∨
    ((∀ j, j < t.length → FineAt n t j) ∧ ∃ L, loop (spec_CheckTree.l_12 ds t T) (labL n g, ((wS c (t.take i) : Nat) : Int), (i : Int)) = some (.inr (L, ((wS c t : Nat) : Int)))) := by
  have hn := hT.n_le
  intro m
  induction m with
  | zero =>
    intro i g hi hK hfine
    obtain rfl : i = t.length := by omega
    right
    refine ⟨hfine, labL n g, ?_⟩
    rw [loop_eq]
    simp only [spec_CheckTree.l_12]
    rw [if_neg (by simp), List.take_length]
  | succ m ih =>
    intro i g hi hK hfine
    have hlt : i < t.length := by omega
    have hx := ht _ (List.getElem_mem hlt)
    have w1 : w64 ((ds.length : Int) - 1) = (n : Int) - 1 := by rw [hds]; exact w64_in (by omega) (by omega)
    have hw : w64 ((i : Int) + 1) = ((i + 1 : Nat) : Int) := by rw [w64_in (by omega) (by omega)]; omega
    have hbad : (¬ FineAt n t i) → ¬ ∀ j, j < t.length → FineAt n t j := fun h h2 => h (h2 i hlt)
    by_cases hg : IsP n t[i]
    · obtain ⟨a, b, he, hab, hb⟩ := hg
      have ha : a < n := by omega
      have w2 : w64 ((a : Int) + 1) = (a : Int) + 1 := w64_in (by omega) (by omega)
      have c1 : (decide ((a : Int) ≥ 0) && decide ((a : Int) ≤ (n : Int) - 1)) = true := by simp; omega
      have c2 : (decide ((b : Int) ≥ (a : Int) + 1) && decide ((b : Int) ≤ (n : Int) - 1)) = true := by simp; omega
      by_cases hgab : g a = g b
      · left
        refine ⟨hbad fun h => (h hlt).2 (by rw [he, pa0_is, pa1_is]; exact (hK.same a b ha hb).1 hgab), ?_⟩
        rw [loop_eq]
        simp only [spec_CheckTree.l_12, ix_lt hlt, he, prA_0, prA_1, Option.bind_some, spec_l00In, w1, w2, c1, c2, labL_ix ha, labL_ix hb, hgab, spec_CheckTree.k_19, beq_self_eq_true, if_true, Bool.not_true, Bool.false_eq_true, if_false]
        rw [if_pos (by simpa using hlt)]
      · have htk : t.take (i + 1) = t.take i ++ [prA a b] := by rw [List.take_add_one, List.getElem?_eq_getElem hlt, he]; rfl
        have hK2 := hK.step hab hb hgab
        rw [← htk] at hK2
        have hf2 : FineAt n t i := fun _ => ⟨⟨a, b, he, hab, hb⟩, by rw [he, pa0_is, pa1_is]; exact fun h => hgab ((hK.same a b ha hb).2 h)⟩
        have := ih (i + 1) (mergeG g a b) (by omega) hK2 (fun j hj => by
          by_cases e : j = i
          · subst e; exact hf2
          · exact hfine j (by omega))
        obtain ⟨r, r1, r2⟩ := hT.at_ a b ha hb
        have hrl := relabel2_is hds hn g a b hgab
        have hws := wS_le hT.bd (t.take i)
        have htl : (t.take i).length ≤ 1000 := by rw [List.length_take]; omega
        have hci := hT.bd a b
        have hsum : w64 (((wS c (t.take i) : Nat) : Int) + ((c a b : Nat) : Int)) = ((wS c (t.take (i + 1)) : Nat) : Int) := by
          have hcw : cwP c (prA a b) = c a b := by unfold cwP; rw [pa0_is, pa1_is]
          rw [htk, wS_snoc, hcw, w64_in (by omega) (by omega)]; omega
        have hstep : loop (spec_CheckTree.l_12 ds t T) (labL n g, ((wS c (t.take i) : Nat) : Int), (i : Int)) = loop (spec_CheckTree.l_12 ds t T) (labL n (mergeG g a b), ((wS c (t.take (i + 1)) : Nat) : Int), ((i + 1 : Nat) : Int)) := by
          rw [loop_eq]
          have hne : (((g a : Nat) : Int) == ((g b : Nat) : Int)) = false := by simp; omega
          simp only [spec_CheckTree.l_12, ix_lt hlt, he, prA_0, prA_1, Option.bind_some, spec_l00In, w1, w2, c1, c2, labL_ix ha, labL_ix hb, spec_CheckTree.k_19, hne, Bool.not_true, Bool.false_eq_true, if_false, r1, r2, hrl, spec_CheckTree.k_25, hsum, hw]
          rw [if_pos (by simpa using hlt)]
        rw [hstep]
        exact this
    · left
      refine ⟨hbad fun h => hg (h hlt).1, ?_⟩
      have hgb : ¬ goodB n t[i] = true := fun h => hg (good_iff.1 h)
      unfold goodB at hgb
      rw [decide_eq_true_eq] at hgb
      obtain ⟨hx0, hx1⟩ := hx
      rw [loop_eq]
      simp only [spec_CheckTree.l_12, ix_lt hlt, e0_ix, e1_ix, Option.bind_some, spec_l00In, w1, spec_CheckTree.k_19, if_true]
      rw [if_pos (by simpa using hlt)]
      by_cases h1 : 0 ≤ e0 t[i] ∧ e0 t[i] ≤ (n : Int) - 1
      · rw [if_neg (by simp; omega), w64_in (by omega) (by omega), if_pos (by simp; omega)]
      · rw [if_pos (by simp; omega)]

end Go.Proofs.Ytbclghgbnnlbjaa
