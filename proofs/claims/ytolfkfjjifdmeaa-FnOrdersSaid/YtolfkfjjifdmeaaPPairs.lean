/- All pairs of drums, sorted by their costs. -/
import Derived.Test.YtolfkfjjifdmeaaM1
import Derived.Test.YtolfkfjjifdmeaaPStab
import Derived.Test.YtolfkfjjifdmeaaPure
namespace Go.Proofs.Ytolfkfjjifdmeaa
open Eng
set_option linter.unusedVariables false
set_option linter.unusedSimpArgs false

/-! the printed sort is the one over any comparison -/
theorem pSym_eq (T : List (List Int)) : ∀ (fu : Nat) (d : List (Arr 2 Int)) (a m b : Int), slices_symMergeCmpFunc_2int64_at_impl_pairsOf_1.rec_ fu d a m b T = gSym.rec_ (fun x y => impl_pairsOf_1 x y T) fu d a m b := by
  intro fu
  induction fu with
  | zero => intro d a m b; rfl
  | succ fu ih =>
    intro d a m b
    have e : (fun d a m b => slices_symMergeCmpFunc_2int64_at_impl_pairsOf_1.rec_ fu d a m b T) = gSym.rec_ (fun x y => impl_pairsOf_1 x y T) fu := by
      funext d a m b; exact ih d a m b
    have h : slices_symMergeCmpFunc_2int64_at_impl_pairsOf_1.step (slices_symMergeCmpFunc_2int64_at_impl_pairsOf_1.rec_ fu) d a m b T = gSym.step (fun x y => impl_pairsOf_1 x y T) (fun d a m b => slices_symMergeCmpFunc_2int64_at_impl_pairsOf_1.rec_ fu d a m b T) d a m b := rfl
    rw [e] at h
    exact h
theorem pStab_eq (T : List (List Int)) (d : List (Arr 2 Int)) (n : Int) : slices_stableCmpFunc_2int64_at_impl_pairsOf_1 d n T = gStab (fun x y => impl_pairsOf_1 x y T) d n := by
  have hs : ∀ d a m b, slices_symMergeCmpFunc_2int64_at_impl_pairsOf_1 d a m b T = gSym (fun x y => impl_pairsOf_1 x y T) d a m b := fun d a m b => pSym_eq T 200 d a m b
  have hi : ∀ d a b, slices_insertionSortCmpFunc_2int64_at_impl_pairsOf_1 d a b T = gIns (fun x y => impl_pairsOf_1 x y T) d a b := fun d a b => rfl
  have e1 : ∀ i : Int, slices_stableCmpFunc_2int64_at_impl_pairsOf_1.l_21 n T i = gStab.l_21 (fun x y => impl_pairsOf_1 x y T) n i := by
    intro i; funext s
    obtain ⟨xs, i2, i3⟩ := s
    simp only [slices_stableCmpFunc_2int64_at_impl_pairsOf_1.l_21, gStab.l_21, hs]
  have e2 : slices_stableCmpFunc_2int64_at_impl_pairsOf_1.l_10 n T = gStab.l_10 (fun x y => impl_pairsOf_1 x y T) n := by
    funext s
    obtain ⟨xs, i⟩ := s
    simp only [slices_stableCmpFunc_2int64_at_impl_pairsOf_1.l_10, gStab.l_10, e1, slices_stableCmpFunc_2int64_at_impl_pairsOf_1.k_16, gStab.k_16, slices_stableCmpFunc_2int64_at_impl_pairsOf_1.k_13, gStab.k_13, hs]
  have e3 : slices_stableCmpFunc_2int64_at_impl_pairsOf_1.l_27 n T = gStab.l_27 (fun x y => impl_pairsOf_1 x y T) n := by
    funext s
    obtain ⟨xs, i, j⟩ := s
    simp only [slices_stableCmpFunc_2int64_at_impl_pairsOf_1.l_27, gStab.l_27, hi]
  simp only [slices_stableCmpFunc_2int64_at_impl_pairsOf_1, gStab, slices_stableCmpFunc_2int64_at_impl_pairsOf_1.k_4, gStab.k_4, slices_stableCmpFunc_2int64_at_impl_pairsOf_1.k_7, gStab.k_7, e2, e3, hi]
theorem pSort_eq (T : List (List Int)) (d : List (Arr 2 Int)) : slices_SortStableFunc_2int64_at_impl_pairsOf_1 d T = gSort (fun x y => impl_pairsOf_1 x y T) d := by
  simp only [slices_SortStableFunc_2int64_at_impl_pairsOf_1, gSort, pStab_eq]
/-- a pair of numbers -/
def prA (i k : Nat) : Arr 2 Int := ⟨[(i : Int), (k : Int)], rfl⟩
theorem prA_set (i k : Nat) : Arr.set (Arr.set (Arr.rep 2 0) 0 (i : Int)) 1 (k : Int) = prA i k := Subtype.ext rfl
theorem prA_0 (i k : Nat) : ix (prA i k).1 0 = some (i : Int) := rfl
theorem prA_1 (i k : Nat) : ix (prA i k).1 1 = some (k : Int) := rfl
def pa0 (x : Arr 2 Int) : Nat := (x.1[0]?.getD 0).toNat
def pa1 (x : Arr 2 Int) : Nat := (x.1[1]?.getD 0).toNat
theorem pa0_is (i k : Nat) : pa0 (prA i k) = i := by simp [pa0, prA]
theorem pa1_is (i k : Nat) : pa1 (prA i k) = k := by simp [pa1, prA]
/-- a table of costs -/
structure TbC (T : List (List Int)) (n : Nat) (c : Nat → Nat → Nat) : Prop where
  len : T.length = n
  at_ : ∀ i k, i < n → k < n → ∃ r, ix T (i : Int) = some r ∧ ix r (k : Int) = some ((c i k : Nat) : Int)
  bd : ∀ i k, c i k ≤ 1000000
  n_le : n ≤ 1000
def keyP (c : Nat → Nat → Nat) (x : Arr 2 Int) : Int := ((c (pa0 x) (pa1 x) : Nat) : Int)
def numP (n : Nat) (x : Arr 2 Int) : Nat := pa0 x * n + pa1 x
/-- the pairs there are -/
def IsP (n : Nat) (x : Arr 2 Int) : Prop := ∃ i k, x = prA i k ∧ i < k ∧ k < n
def allP (n : Nat) : List (Arr 2 Int) := (List.range n).flatMap fun i => (List.range (n - (i + 1))).map fun d => prA i (i + 1 + d)
theorem mem_allP {n : Nat} {x : Arr 2 Int} : x ∈ allP n ↔ IsP n x := by
  unfold allP IsP
  simp only [List.mem_flatMap, List.mem_range, List.mem_map]
  constructor
  · rintro ⟨i, hi, d, hd, rfl⟩; exact ⟨i, i + 1 + d, rfl, by omega, by omega⟩
  · rintro ⟨i, k, rfl, h1, h2⟩; exact ⟨i, by omega, k - (i + 1), by omega, by rw [show i + 1 + (k - (i + 1)) = k by omega]⟩
theorem allP_num (n : Nat) : (allP n).Pairwise (fun a b => numP n a < numP n b) := by
  unfold allP
  rw [List.pairwise_flatMap]
  constructor
  · intro i _
    rw [List.pairwise_map]
    refine (List.pairwise_lt_range).imp ?_
    intro a b hab
    simp only [numP, pa0_is, pa1_is]; omega
  · refine (List.pairwise_lt_range).imp ?_
    intro a b hab x hx y hy
    simp only [List.mem_map, List.mem_range] at hx hy
    obtain ⟨d, hd, rfl⟩ := hx
    obtain ⟨e, he, rfl⟩ := hy
    simp only [numP, pa0_is, pa1_is]
    have h1 : (a + 1) * n ≤ b * n := Nat.mul_le_mul_right n hab
    rw [Nat.succ_mul] at h1
    omega
theorem cmpP {T : List (List Int)} {n : Nat} {c : Nat → Nat → Nat} (hT : TbC T n c) : CmK (fun x y => impl_pairsOf_1 x y T) (IsP n) (keyP c) := by
  rintro x y ⟨i, k, rfl, h1, h2⟩ ⟨j, l, rfl, h3, h4⟩
  obtain ⟨r, a1, a2⟩ := hT.at_ i k (by omega) h2
  obtain ⟨s, b1, b2⟩ := hT.at_ j l (by omega) h4
  simp only [impl_pairsOf_1, prA_0, prA_1, a1, a2, b1, b2, Option.bind_some, cmp_Compare_int64, cmp_isNaN_int64, keyP, pa0_is, pa1_is]
  by_cases hlt : ((c i k : Nat) : Int) < ((c j l : Nat) : Int)
  · refine ⟨-1, ?_, by simp [hlt]⟩
    simp [hlt]
  · by_cases hgt : ((c i k : Nat) : Int) > ((c j l : Nat) : Int)
    · refine ⟨1, ?_, by simp [hlt]⟩
      simp [hlt, hgt]
    · refine ⟨0, ?_, by simp [hlt]⟩
      simp [hlt, hgt]
theorem allP_len (n : Nat) : (allP n).length ≤ n * n := app_len n n _ (fun i hi => by simp)
theorem pairs_is {T : List (List Int)} {n : Nat} {c : Nat → Nat → Nat} (hT : TbC T n c) : ∃ Y, impl_pairsOf T = some Y ∧ Y.Perm (allP n) ∧ Y.Pairwise (ltK (keyP c) (numP n)) := by
  have hn := hT.n_le
  have hnn : n * n ≤ 1000000 := Nat.mul_le_mul hn hn
  have hlen : ∀ k, k ≤ n → ((List.range k).flatMap fun i => (List.range (n - (i + 1))).map fun d => prA i (i + 1 + d)).length ≤ 1000000 := fun k hk => by
    have h1 : ((List.range k).flatMap fun i => (List.range (n - (i + 1))).map fun d => prA i (i + 1 + d)).length ≤ k * n := app_len k n _ (fun i hi => by simp)
    have h2 : k * n ≤ n * n := Nat.mul_le_mul_right n hk
    omega
  have h0 : loop (impl_pairsOf.l_7 T (n : Int)) ([], 0) = some (allP n) := by
    have := loop_seq (f := impl_pairsOf.l_7 T (n : Int)) n (fun k => ((List.range k).flatMap (fun i => (List.range (n - (i + 1))).map fun d => prA i (i + 1 + d)), (k : Int))) (allP n) (fun k hk => by
      have hl := hlen k (by omega)
      have hl2 := hlen (k + 1) (by omega)
      rw [List.range_succ, List.flatMap_append, List.length_append] at hl2
      simp only [List.flatMap_cons, List.flatMap_nil, List.append_nil, List.length_map, List.length_range] at hl2
      generalize hxs : ((List.range k).flatMap fun i => (List.range (n - (i + 1))).map fun d => prA i (i + 1 + d)) = xs at *
      have hw : w64 ((k : Int) + 1) = ((k + 1 : Nat) : Int) := by rw [w64_in (by omega) (by omega)]; omega
      have h1 : loop (impl_pairsOf.l_13 T (k : Int)) (xs, ((k + 1 : Nat) : Int)) = some (xs ++ (List.range (n - (k + 1))).map fun d => prA k (k + 1 + d)) := by
        have := loop_seq (f := impl_pairsOf.l_13 T (k : Int)) (n - (k + 1)) (fun d => (xs ++ (List.range d).map (fun d => prA k (k + 1 + d)), ((k + 1 + d : Nat) : Int))) (xs ++ (List.range (n - (k + 1))).map fun d => prA k (k + 1 + d)) (fun d hd => by
          simp only [impl_pairsOf.l_13, impl_size_int64, Option.bind_some, hT.len, prA_set]
          rw [if_pos (by rw [decide_eq_true_eq]; omega), if_pos (by simp; omega), w64_in (by omega) (by omega), List.range_succ, List.map_append]
          simp; omega) (by
          simp only [impl_pairsOf.l_13, impl_size_int64, Option.bind_some, hT.len]
          rw [if_neg (by rw [decide_eq_true_eq]; omega)])
        simpa using this
      simp only [impl_pairsOf.l_7, hw, h1, Option.bind_some, impl_pairsOf.k_10]
      rw [if_pos (by rw [decide_eq_true_eq]; omega), List.range_succ, List.flatMap_append, hxs]
      simp) (by
      simp only [impl_pairsOf.l_7]
      rw [if_neg (by simp)]
      rfl)
    simpa using this
  obtain ⟨Y, y1, y2, y3⟩ := stable_is (num := numP n) (cmpP hT) (allP n) (by have := allP_len n; omega) (fun y hy => mem_allP.1 hy) (allP_num n)
  refine ⟨Y, ?_, y2, y3⟩
  simp only [impl_pairsOf, impl_size_int64, Option.bind_some, hT.len, h0, impl_pairsOf.k_3, pSort_eq, y1]

end Go.Proofs.Ytolfkfjjifdmeaa
