/- The program's test of a tree: what its parts come to. -/
import Derived.Test.YtolfkfjjifdmeaaM0
import Derived.Test.YtolfkfjjifdmeaaM2
import Derived.Test.YtolfkfjjifdmeaaPFrame
import Derived.Test.YtolfkfjjifdmeaaPDrum
import Derived.Test.YtolfkfjjifdmeaaPCodes
import Derived.Test.YtolfkfjjifdmeaaPPut
import Derived.Test.YtolfkfjjifdmeaaPBits
import Derived.Test.YtolfkfjjifdmeaaPCost
import Derived.Test.YtolfkfjjifdmeaaPDTab
import Derived.Test.YtolfkfjjifdmeaaPStab
import Derived.Test.YtolfkfjjifdmeaaPPairs
import Derived.Test.YtolfkfjjifdmeaaPJoined
import Derived.Test.YtolfkfjjifdmeaaPKruskal
import Derived.Test.YtolfkfjjifdmeaaPComps
import Derived.Test.YtolfkfjjifdmeaaPMst
import Derived.Test.YtolfkfjjifdmeaaPKPath
import Derived.Test.YtolfkfjjifdmeaaPChkTree
import Derived.Test.YtolfkfjjifdmeaaPMarkA
import Derived.Test.YtolfkfjjifdmeaaPure
namespace Go.Proofs.Ytolfkfjjifdmeaa
open Eng
set_option linter.unusedVariables false
set_option linter.unusedSimpArgs false

def e0 (x : Arr 2 Int) : Int := x.1[0]?.getD 0
def e1 (x : Arr 2 Int) : Int := x.1[1]?.getD 0
theorem e0_ix (x : Arr 2 Int) : ix x.1 0 = some (e0 x) := by obtain ⟨a, b, rfl⟩ := arr2 x; rfl
theorem e1_ix (x : Arr 2 Int) : ix x.1 1 = some (e1 x) := by obtain ⟨a, b, rfl⟩ := arr2 x; rfl
/-- numbers of a pair that may stand in a tree -/
def goodB (n : Nat) (x : Arr 2 Int) : Bool := decide (0 ≤ e0 x ∧ e0 x + 1 ≤ e1 x ∧ e1 x + 1 ≤ n)
theorem good_iff {n : Nat} {x : Arr 2 Int} : goodB n x = true ↔ IsP n x := by
  obtain ⟨a, b, rfl⟩ := arr2 x
  unfold goodB IsP
  rw [decide_eq_true_eq]
  constructor
  · rintro ⟨h1, h2, h3⟩
    have h1 : 0 ≤ a := h1
    have h2 : a + 1 ≤ b := h2
    have h3 : b + 1 ≤ n := h3
    refine ⟨a.toNat, b.toNat, Subtype.ext ?_, by omega, by omega⟩
    show [a, b] = [(a.toNat : Int), (b.toNat : Int)]
    rw [Int.toNat_of_nonneg h1, Int.toNat_of_nonneg (by omega)]
  · rintro ⟨i, k, h, h1, h2⟩
    have h := congrArg Subtype.val h
    simp only [prA, List.cons.injEq, and_true] at h
    obtain ⟨rfl, rfl⟩ := h
    show 0 ≤ (i : Int) ∧ (i : Int) + 1 ≤ (k : Int) ∧ (k : Int) + 1 ≤ n
    omega
/-- numbers of 64 bits -/
def In2 (x : Arr 2 Int) : Prop := (-9223372036854775808 ≤ e0 x ∧ e0 x ≤ 9223372036854775807) ∧ (-9223372036854775808 ≤ e1 x ∧ e1 x ≤ 9223372036854775807)
theorem chk1_is {n : Nat} (hn1 : 1 ≤ n) (hn : n ≤ 1000) {x : Arr 2 Int} (hx : In2 x) : impl_CheckTree_1 x (n : Int) = some (!goodB n x) := by
  obtain ⟨h0, h1⟩ := hx
  have w1 : w64 ((n : Int) - 1) = (n : Int) - 1 := w64_in (by omega) (by omega)
  simp only [impl_CheckTree_1, e0_ix, e1_ix, Option.bind_some, impl_within, w1]
  unfold goodB
  by_cases hlo : e1 x = -9223372036854775808
  · have hf : decide (0 ≤ e0 x ∧ e0 x + 1 ≤ e1 x ∧ e1 x + 1 ≤ (n : Int)) = false := by rw [decide_eq_false_iff_not]; omega
    have hg : (decide (0 ≤ e1 x) && decide (e1 x ≤ (n : Int) - 1)) = false := by rw [Bool.and_eq_false_iff]; left; rw [decide_eq_false_iff_not]; omega
    rw [hf, hg]; split <;> rfl
  · rw [w64_in (by omega) (by omega)]
    by_cases h2 : 0 ≤ e0 x ∧ e0 x ≤ e1 x - 1
    · rw [if_neg (by simp [h2.1, h2.2])]
      congr 2
      by_cases h3 : e1 x ≤ (n : Int) - 1
      · rw [decide_eq_true (show 0 ≤ e1 x by omega), decide_eq_true h3, decide_eq_true (show 0 ≤ e0 x ∧ e0 x + 1 ≤ e1 x ∧ e1 x + 1 ≤ (n : Int) by omega)]; rfl
      · rw [decide_eq_false h3, decide_eq_false (show ¬ (0 ≤ e0 x ∧ e0 x + 1 ≤ e1 x ∧ e1 x + 1 ≤ (n : Int)) by omega)]; simp
    · rw [if_pos (by
        rw [Bool.not_eq_true', Bool.and_eq_false_iff]
        rcases Classical.not_and_iff_not_or_not.1 h2 with h | h
        · left; rw [decide_eq_false_iff_not]; exact h
        · right; rw [decide_eq_false_iff_not]; exact h), decide_eq_false (show ¬ (0 ≤ e0 x ∧ e0 x + 1 ≤ e1 x ∧ e1 x + 1 ≤ (n : Int)) by omega)]
      rfl
theorem any_bad {n : Nat} (t : List (Arr 2 Int)) : t.any (fun x => !goodB n x) = !(t.all (goodB n)) := by
  induction t with
  | nil => rfl
  | cons x t ih => rw [List.any_cons, List.all_cons, ih]; cases goodB n x <;> rfl
theorem contains1_is {n : Nat} (hn1 : 1 ≤ n) (hn : n ≤ 1000) (t : List (Arr 2 Int)) (hl : t.length ≤ 9223372036854775807) (ht : ∀ x ∈ t, In2 x) : slices_ContainsFunc_2int64_at_impl_CheckTree_1 t (n : Int) = some (!(t.all (goodB n))) := by
  obtain ⟨r, hr, hq⟩ := loop_find (f := slices_IndexFunc_2int64_at_impl_CheckTree_1.l_3 t (n : Int)) t (fun x => !goodB n x) hl (fun k hk => by
    simp only [slices_IndexFunc_2int64_at_impl_CheckTree_1.l_3, ix_lt hk, Option.bind_some, chk1_is hn1 hn (ht _ (List.getElem_mem hk))]
    rw [if_pos (by simpa using hk)]
    by_cases he : goodB n t[k] = true <;> simp [he]) (by simp [slices_IndexFunc_2int64_at_impl_CheckTree_1.l_3])
  simp only [slices_ContainsFunc_2int64_at_impl_CheckTree_1, slices_IndexFunc_2int64_at_impl_CheckTree_1, hr, Option.bind_some]
  rcases hq with ⟨hany, k, rfl, _⟩ | ⟨hany, rfl⟩
  · rw [any_bad] at hany; rw [hany]; simp
  · rw [any_bad] at hany; rw [hany]; simp [slices_IndexFunc_2int64_at_impl_CheckTree_1.k_1]
theorem contains2_is (L : List Int) (hl : L.length ≤ 9223372036854775807) : slices_ContainsFunc_int64_at_impl_CheckTree_2 L = some (L.any fun x => x != 0) := by
  obtain ⟨r, hr, hq⟩ := loop_find (f := slices_IndexFunc_int64_at_impl_CheckTree_2.l_3 L) L (fun x => x != 0) hl (fun k hk => by
    simp only [slices_IndexFunc_int64_at_impl_CheckTree_2.l_3, ix_lt hk, Option.bind_some, impl_CheckTree_2]
    rw [if_pos (by simpa using hk)]
    by_cases he : (L[k] != 0) = true <;> simp [he]) (by simp [slices_IndexFunc_int64_at_impl_CheckTree_2.l_3])
  simp only [slices_ContainsFunc_int64_at_impl_CheckTree_2, slices_IndexFunc_int64_at_impl_CheckTree_2, hr, Option.bind_some]
  rcases hq with ⟨hany, k, rfl, _⟩ | ⟨hany, rfl⟩
  · rw [hany]; simp
  · rw [hany]; simp [slices_IndexFunc_int64_at_impl_CheckTree_2.k_1]
/-- all names are 0: all is one part -/
theorem names_zero {n : Nat} {E : List (Arr 2 Int)} (hn1 : 1 ≤ n) : ((labL n (rounds E E.length)).any fun x => x != 0) = false ↔ Whole n E := by
  have h0 : rounds E E.length 0 = 0 := Nat.le_zero.1 (rounds_ok E E.length 0).2
  rw [List.any_eq_false]
  constructor
  · intro h v hv
    have := h _ (List.mem_map.2 ⟨v, List.mem_range.2 hv, rfl⟩)
    simp only [bne_iff_ne, ne_eq, Classical.not_not] at this
    exact (rounds_same E v 0).1 (by rw [h0]; omega)
  · intro h x hx
    obtain ⟨v, hv, rfl⟩ := List.mem_map.1 hx
    have := (rounds_same E v 0).2 (h v (List.mem_range.1 hv))
    rw [h0] at this
    simp [this]
/-- one edge is left out -/
theorem delete_is (t : List (Arr 2 Int)) (hl : t.length ≤ 1000000) {k : Nat} (hk : k < t.length) : slices_Delete_2int64 t (k : Int) ((k + 1 : Nat) : Int) = some (t.take k ++ t.drop (k + 1)) := by
  simp only [slices_Delete_2int64, Int.toNat_natCast]
  rw [if_pos ⟨by omega, by omega, by omega, by omega⟩, if_neg (by simp; omega), if_pos ⟨by omega, by omega⟩, if_pos ⟨by omega, by omega⟩, if_pos (by simp; omega)]
theorem loop_codeG {S B : Type} {f : Int → Option (Int ⊕ (B ⊕ Unit))} (xs : List S) (p : S → Bool) (c : B) (hn : xs.length ≤ 9223372036854775807) (q : Nat → Bool) (hq : ∀ (k : Nat) (h : k < xs.length), q k = p xs[k])
    (hf : ∀ (k : Nat) (hk : k < xs.length), f (k : Int) = some (if q k = true then .inl (w64 ((k : Int) + 1)) else .inr (.inl c)))
    (he : f (xs.length : Int) = some (.inr (.inr ()))) : loop f 0 = some (if xs.all p = true then .inr () else .inl c) := by
  have key : ∀ m k : Nat, k + m = xs.length → (∀ i (h : i < xs.length), i < k → p xs[i] = true) → loop f (k : Int) = some (if xs.all p = true then .inr () else .inl c) := by
    intro m
    induction m with
    | zero =>
      intro k hk hall
      obtain rfl : k = xs.length := by omega
      rw [loop_eq, he, if_pos]
      refine List.all_eq_true.2 fun x hx => ?_
      obtain ⟨i, h, rfl⟩ := List.mem_iff_getElem.1 hx
      exact hall i h h
    | succ m ih =>
      intro k hk hall
      have hlt : k < xs.length := by omega
      rw [loop_eq, hf k hlt, hq k hlt]
      by_cases h : p xs[k] = true
      · rw [if_pos h]
        simp only
        rw [w64_in (by omega) (by omega), show (k : Int) + 1 = ((k + 1 : Nat) : Int) from rfl]
        exact ih (k + 1) (by omega) (fun i hi hik => by
          by_cases e : i = k
          · subst e; exact h
          · exact hall i hi (by omega))
      · rw [if_neg h]
        simp only
        rw [if_neg]
        intro ha
        exact h (List.all_eq_true.1 ha _ (List.getElem_mem hlt))
  exact key xs.length 0 (by omega) (fun i _ h => absurd h (by omega))
def cheapB (c : Nat → Nat → Nat) (E : List (Arr 2 Int)) (own p : Arr 2 Int) : Bool := !(decide (rounds E E.length (pa0 p) ≠ rounds E E.length (pa1 p)) && decide (cwP c p < cwP c own))
theorem l19_is {T : List (List Int)} {n : Nat} {c : Nat → Nat → Nat} (hT : TbC T n c) {E Y : List (Arr 2 Int)} (hY : ∀ x ∈ Y, IsP n x) (hYl : Y.length ≤ 1000000) {own : Arr 2 Int} (ho : IsP n own) :
    loop (impl_CheckTree.l_19 T own (labL n (rounds E E.length)) Y) 0 = some (if Y.all (cheapB c E own) = true then .inr () else .inl (false, 0)) := by
  obtain ⟨j, l, rfl, hjl, hl⟩ := ho
  obtain ⟨s, s1, s2⟩ := hT.at_ j l (by omega) hl
  refine loop_codeG Y (cheapB c E (prA j l)) (false, 0) (by omega) (fun k => if h : k < Y.length then cheapB c E (prA j l) Y[k] else true) (fun k h => by simp [h]) (fun k hk => ?_) (by simp [impl_CheckTree.l_19])
  obtain ⟨i, m, he, him, hm⟩ := hY Y[k] (List.getElem_mem hk)
  have hi : i < n := by omega
  obtain ⟨r, r1, r2⟩ := hT.at_ i m hi hm
  simp only [impl_CheckTree.l_19, ix_lt hk, he, Option.bind_some, prA_0, prA_1, labL_ix hi, labL_ix hm, r1, r2, s1, s2, impl_CheckTree.k_23, dif_pos hk]
  rw [if_pos (by simpa using hk)]
  unfold cheapB cwP
  rw [pa0_is, pa1_is, pa0_is, pa1_is]
  by_cases h1 : rounds E E.length i = rounds E E.length m
  · rw [if_neg (by simp [h1])]; simp [h1]
  · rw [if_pos (by simp only [bne_iff_ne, ne_eq]; omega)]
    by_cases h2 : c i m < c j l
    · rw [if_pos (by simp; omega)]; simp [h1, h2]
    · rw [if_neg (by simp; omega)]; simp [h1, h2]
theorem cheap_all {n : Nat} {c : Nat → Nat → Nat} {E Y : List (Arr 2 Int)} (hY : ∀ x, x ∈ Y ↔ IsP n x) {own : Arr 2 Int} : Y.all (cheapB c E own) = true ↔ ∀ p, IsP n p → ¬ Cn E (pa0 p) (pa1 p) → cwP c own ≤ cwP c p := by
  rw [List.all_eq_true]
  constructor
  · intro h p hp hno
    have := h p ((hY p).2 hp)
    unfold cheapB at this
    have hne : rounds E E.length (pa0 p) ≠ rounds E E.length (pa1 p) := fun e => hno ((rounds_same E _ _).1 e)
    simp [hne] at this
    omega
  · intro h p hp
    unfold cheapB
    by_cases hc : Cn E (pa0 p) (pa1 p)
    · simp [(rounds_same E _ _).2 hc]
    · have := h p ((hY p).1 hp) hc
      simp; exact .inr this
theorem l10_is {ds : List (Arr 96 Int)} {T : List (List Int)} {n : Nat} {c : Nat → Nat → Nat} (hds : ds.length = n) (hT : TbC T n c) {t : List (Arr 2 Int)} (ht : ∀ x ∈ t, IsP n x) (hl : t.length ≤ 1000) :
    ∃ b : Bool, loop (impl_CheckTree.l_10 ds t T) 0 = some (if b = true then .inr () else .inl (false, 0)) ∧ (b = true ↔ CutLaw n c t) := by
  have hn := hT.n_le
  obtain ⟨Y, y1, y2, _⟩ := pairs_is hT
  have hYm : ∀ x, x ∈ Y ↔ IsP n x := fun x => by rw [y2.mem_iff, mem_allP]
  have hYl : Y.length ≤ 1000000 := by
    rw [y2.length_eq]
    have := allP_len n
    have : n * n ≤ 1000 * 1000 := Nat.mul_le_mul hn hn
    omega
  let q : Nat → Bool := fun k => if h : k < t.length then Y.all (cheapB c (t.take k ++ t.drop (k + 1)) t[k]) else true
  have hloop := loop_codeG (f := impl_CheckTree.l_10 ds t T) (List.range t.length) q ((false, 0) : Bool × Int) (by simp; omega) q (fun k h => by simp) (fun k hk => by
    have hk : k < t.length := by simpa using hk
    have hw : w64 ((k : Int) + 1) = ((k + 1 : Nat) : Int) := by rw [w64_in (by omega) (by omega)]; omega
    have hE : ∀ e ∈ t.take k ++ t.drop (k + 1), IsP n e := fun e he => ht e ((cut_mem hk e).2 (.inr he))
    have hlen : (t.take k ++ t.drop (k + 1)).length ≤ 1000000 := by simp; omega
    simp only [impl_CheckTree.l_10, ix_lt hk, Option.bind_some, slices_Clone_2int64, hw, hds]
    rw [if_pos (by simpa using hk), if_pos (by simp; omega)]
    simp only [List.nil_append, Option.bind_some, delete_is t (by omega) hk, joined_is (IsP.isE hE) hn hlen, y1, l19_is hT (fun x hx => (hYm x).1 hx) hYl (ht _ (List.getElem_mem hk))]
    have hqk : q k = Y.all (cheapB c (t.take k ++ t.drop (k + 1)) t[k]) := by simp [q, hk]
    rw [hqk]
    cases Y.all (cheapB c (t.take k ++ t.drop (k + 1)) t[k]) <;> simp [impl_CheckTree.k_17, hw]) (by
    simp only [impl_CheckTree.l_10, List.length_range]
    rw [if_neg (by simp)])
  refine ⟨(List.range t.length).all q, hloop, ?_⟩
  rw [List.all_eq_true]
  constructor
  · intro h k hk
    have := h k (List.mem_range.2 hk)
    have hqk : q k = Y.all (cheapB c (t.take k ++ t.drop (k + 1)) t[k]) := by simp [q, hk]
    rw [hqk] at this
    exact (cheap_all hYm).1 this
  · intro h k hk
    have hk := List.mem_range.1 hk
    have hqk : q k = Y.all (cheapB c (t.take k ++ t.drop (k + 1)) t[k]) := by simp [q, hk]
    rw [hqk]
    exact (cheap_all hYm).2 (h k hk)

end Go.Proofs.Ytolfkfjjifdmeaa
