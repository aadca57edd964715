/- Plain texts of this seat, in one. -/
import Derived.Test.YtolfkfjjifdmeaaGreatDoorM0
import Derived.Test.YtolfkfjjifdmeaaGreatDoorM1
import Derived.Test.YtolfkfjjifdmeaaGreatDoorM2
import Derived.Test.YtolfkfjjifdmeaaGreatDoorQ0
import Derived.Test.YtolfkfjjifdmeaaGreatDoorPure
/- The text of acts: the program's is the reference's. -/
namespace Go.Proofs.YtolfkfjjifdmeaaGreatDoor
open Eng
set_option linter.unusedVariables false
set_option linter.unusedSimpArgs false

def bI (l : List UInt8) : List Int := l.map fun b => ((b.toNat : Nat) : Int)
theorem bytesI_tb (l : List UInt8) : bytesI (tb l) = bI l := by simp [bytesI, bI, tb]
theorem bI_app (a b : List UInt8) : bI a ++ bI b = bI (a ++ b) := by simp [bI]
theorem bI_len (a : List UInt8) : (bI a).length = a.length := by simp [bI]
theorem textI_bI (l : List UInt8) : textI (bI l) = tb l := by
  unfold textI bI tb
  rw [List.map_map]
  congr 1
  congr 1
  conv => rhs; rw [← List.map_id l]
  refine List.map_congr_left fun x _ => ?_
  simp
theorem strF_bI (l : List UInt8) : strF (bI l) = some (tb l) := by
  unfold strF
  rw [textI_bI, bytesI_tb, if_pos rfl]
def wordK (k : Int) : List UInt8 := if k = 0 then [116, 117, 114, 110] else if k = 1 then [104, 97, 109, 109, 101, 114] else if k = 2 then [112, 105, 110] else [109, 111, 118, 101]
def usedK (k : Int) : Nat := if k = 0 then 1 else if k = 1 then 1 else if k = 2 then 2 else 4
def numOk (u i : Nat) (n : Int) : Bool := (decide (0 ≤ n) && decide (n ≤ 1000000)) && (decide (i < u) || n == 0)
def toldB (a : GAct) : Bool := (decide (0 ≤ a.fKind) && decide (a.fKind ≤ 3)) && (numOk (usedK a.fKind) 0 a.fA && (numOk (usedK a.fKind) 1 a.fB && (numOk (usedK a.fKind) 2 a.fC && numOk (usedK a.fKind) 3 a.fD)))
def piece (u i : Nat) (n : Int) : List UInt8 := if i < u then 32 :: Lib.itoa n else []
def actL (a : GAct) : List UInt8 := ((((wordK a.fKind ++ piece (usedK a.fKind) 0 a.fA) ++ piece (usedK a.fKind) 1 a.fB) ++ piece (usedK a.fKind) 2 a.fC) ++ piece (usedK a.fKind) 3 a.fD) ++ [10]
def actT (a : GAct) : List UInt8 := if toldB a = true then actL a else []
theorem kind4 {k : Int} (h : (decide (0 ≤ k) && decide (k ≤ 3)) = true) : k = 0 ∨ k = 1 ∨ k = 2 ∨ k = 3 := by
  simp only [Bool.and_eq_true, decide_eq_true_eq] at h; omega
theorem numOk_in {u i : Nat} {n : Int} (h : numOk u i n = true) : 0 ≤ n ∧ n ≤ 1000000 := by
  simp only [numOk, Bool.and_eq_true, decide_eq_true_eq] at h; exact h.1
theorem itoa_small {n : Int} (h0 : 0 ≤ n) (h1 : n ≤ 1000000) : (Lib.itoa n).length ≤ 7 := by
  unfold Lib.itoa
  rw [if_neg (by omega)]
  exact dd_len 6 n.toNat (by rw [show 10 ^ (6 + 1) = 10000000 by decide]; omega)
theorem itoa_dec {n : Int} (h0 : 0 ≤ n) : Lib.itoa n = Lib.decDigits n.toNat := by
  unfold Lib.itoa
  rw [if_neg (by omega)]
theorem piece_len {u i j : Nat} {n : Int} (h : numOk j i n = true) : (piece u i n).length ≤ 8 := by
  obtain ⟨a, b⟩ := numOk_in h
  unfold piece
  split
  · have := itoa_small a b
    simp; omega
  · simp
theorem wordK_len (k : Int) : (wordK k).length ≤ 6 := by unfold wordK; repeat' split
                                                         all_goals simp
theorem actT_len (a : GAct) : (actT a).length ≤ 39 := by
  unfold actT
  split
  · rename_i h
    simp only [toldB, Bool.and_eq_true] at h
    obtain ⟨_, h0, h1, h2, h3⟩ := h
    have := piece_len (u := usedK a.fKind) h0
    have := piece_len (u := usedK a.fKind) h1
    have := piece_len (u := usedK a.fKind) h2
    have := piece_len (u := usedK a.fKind) h3
    have := wordK_len a.fKind
    simp only [actL, List.length_append, List.length_cons, List.length_nil]
    omega
  · simp
theorem acts_len (l : List GAct) : (l.flatMap actT).length ≤ l.length * 39 := by
  induction l with
  | nil => simp
  | cons a l ih =>
    have := actT_len a
    rw [List.flatMap_cons, List.length_append, List.length_cons, Nat.succ_mul]
    omega
/-! ### the reference -/
theorem words_is {k : Int} (h : (decide (0 ≤ k) && decide (k ≤ 3)) = true) : spec_l06Words k = some (tb (wordK k), (usedK k : Int)) := by
  rcases kind4 h with rfl | rfl | rfl | rfl <;> rfl
theorem words_no {k : Int} (h : ¬ ((decide (0 ≤ k) && decide (k ≤ 3)) = true)) : spec_l06Words k = some (tb [], 0) := by
  simp only [spec_l06Words, spec_l00In, Option.bind_some]
  rw [if_pos (by rw [Bool.not_eq_true']; exact Bool.eq_false_iff.2 h)]
  rfl
def num4 (x : GAct) (i : Nat) : Int := if i = 0 then x.fA else if i = 1 then x.fB else if i = 2 then x.fC else x.fD
theorem arr4 (x : GAct) (i : Nat) (h : i < 4) : ix (Arr.set (Arr.set (Arr.set (Arr.set (Arr.rep 4 0) 0 x.fA) 1 x.fB) 2 x.fC) 3 x.fD).1 (i : Int) = some (num4 x i) := by
  have : i = 0 ∨ i = 1 ∨ i = 2 ∨ i = 3 := by omega
  rcases this with rfl | rfl | rfl | rfl <;> rfl
theorem specRound (x : GAct) (u i : Nat) (w : ByteArray) (s : List UInt8) (hi : i < 4) (hs : s.length ≤ 9000000000000000000) :
    spec_l06Text.l_17 (w, (u : Int)) x x x x (tb s, (i : Int)) = some (if numOk u i (num4 x i) = true then .inl (tb (s ++ piece u i (num4 x i)), ((i + 1 : Nat) : Int)) else .inr (.inl (tb [], false))) := by
  have e3 : (ByteArray.mk #[32]) = tb [32] := rfl
  have key : ∀ q : Bool, (q = true → numOk u i (num4 x i) = false) → (q = false → numOk u i (num4 x i) = true) → spec_l06Text.k_20 (w, (u : Int)) x x x x (tb s) (i : Int) q = some (if numOk u i (num4 x i) = true then .inl (tb (s ++ piece u i (num4 x i)), ((i + 1 : Nat) : Int)) else .inr (.inl (tb [], false))) := by
    intro q h1 h2
    simp only [spec_l06Text.k_20]
    cases q with
    | true => rw [if_pos rfl, h1 rfl]; rfl
    | false =>
      have hk := h2 rfl
      obtain ⟨n0, n1⟩ := numOk_in hk
      rw [if_neg (by simp), if_pos hk, w64_in (by omega) (by omega)]
      by_cases c : i < u
      · rw [if_pos (by simpa using c), arr4 x i hi, Option.bind_some, decimal_is n0 (by omega), Option.bind_some, e3]
        have hl := decDigits_len (n := (num4 x i).toNat) (by omega)
        simp only [tb_size, tb_app]
        rw [if_pos (by simp; omega), if_pos (by simp; omega)]
        simp [piece, c, itoa_dec n0]
      · rw [if_neg (by simpa using c)]
        simp [piece, c]
  simp only [spec_l06Text.l_17, arr4 x i hi, Option.bind_some, spec_l06Turns, spec_l00In]
  rw [if_pos (by simp; omega)]
  by_cases c : i < u
  · rw [if_pos (by simpa using c)]
    have hge : (decide ((i : Int) ≥ (u : Int))) = false := by simpa using c
    rw [hge]
    by_cases m : (decide (num4 x i ≥ 0) && decide (num4 x i ≤ 1000000)) = true
    · rw [if_neg (by rw [m]; simp), if_neg (by simp)]
      refine key false (fun h => by cases h) (fun _ => ?_)
      simp only [ge_iff_le] at m
      simp [numOk, m, c]
    · rw [if_pos (by rw [Bool.not_eq_true']; exact Bool.eq_false_iff.2 m)]
      refine key true (fun _ => ?_) (fun h => by cases h)
      simp only [ge_iff_le, Bool.not_eq_true] at m
      simp [numOk, m]
  · rw [if_neg (by simpa using c)]
    have hge : (decide ((i : Int) ≥ (u : Int))) = true := by simp; omega
    rw [hge, if_pos rfl]
    refine key _ (fun h => ?_) (fun h => ?_)
    · simp only [bne_iff_ne] at h
      simp [numOk, c, h]
    · simp only [bne_eq_false_iff_eq] at h
      simp [numOk, c, h]
def ActIn (x : GAct) : Prop := -128 ≤ x.fKind ∧ x.fKind ≤ 127
theorem specActs {list : List GAct} (hin : ∀ x ∈ list, ActIn x) (hl : list.length ≤ 2000000) : spec_l06Text list = some (if list.all toldB = true then (tb (list.flatMap actT), decide (list.length ≤ 60)) else (tb [], false)) := by
  have e3 : (ByteArray.mk #[10]) = tb [10] := rfl
  have e0 : (ByteArray.mk #[]) = tb [] := rfl
  obtain ⟨k, t, hk, hp, hno, hL⟩ := loop_upto (f := spec_l06Text.l_5 list) list.length (fun k => (tb ((list.take k).flatMap actT), (k : Int)))
    (fun k => if h : k < list.length then (if toldB list[k] = true then none else some (.inl (tb [], false))) else some (.inr (tb (list.flatMap actT))))
    ⟨list.length, Nat.le_refl _, by simp⟩ (fun k hk => by
      by_cases hlt : k < list.length
      · simp only [dif_pos hlt]
        have hlen := acts_len (list.take k)
        rw [List.length_take] at hlen
        have hlen2 : ((list.take k).flatMap actT).length ≤ 100000000 := by
          refine Nat.le_trans hlen ?_
          have : min k list.length ≤ 2000000 := by omega
          omega
        generalize hS : (list.take k).flatMap actT = S at hlen2 ⊢
        have htk : (list.take (k + 1)).flatMap actT = S ++ actT list[k] := by
          rw [List.take_succ_eq_append_getElem hlt, List.flatMap_append, hS]; simp
        rw [htk]
        simp only [spec_l06Text.l_5, ix_lt hlt, Option.bind_some]
        rw [if_pos (by simpa using hlt)]
        have hxi := hin _ (List.getElem_mem hlt)
        generalize list[k] = x at hxi ⊢
        obtain ⟨hx0, hx1⟩ := hxi
        by_cases hkd : (decide (0 ≤ x.fKind) && decide (x.fKind ≤ 3)) = true
        · have hk4 := kind4 hkd
          rw [w64_in (n := x.fKind) (by omega) (by omega), words_is hkd]
          simp only [Option.bind_some, tb_size, tb_list, tb_app, e0]
          have hw := wordK_len x.fKind
          rw [if_neg (by
            intro h
            have h := beq_iff_eq.1 h
            rcases hk4 with h4 | h4 | h4 | h4 <;> rw [h4] at h <;> exact absurd h (by decide)), if_pos (by omega)]
          have r0 := specRound x (usedK x.fKind) 0 (tb (wordK x.fKind)) (S ++ wordK x.fKind) (by omega) (by simp; omega)
          rw [loop_eq]
          rw [show ((0 : Nat) : Int) = 0 from rfl] at r0
          erw [r0]
          by_cases o0 : ¬ numOk (usedK x.fKind) 0 (num4 x 0) = true
          · have ht : ¬ toldB x = true := by
              intro h; simp only [toldB, Bool.and_eq_true] at h; exact o0 h.2.1
            simp [o0, ht]
          have o0 := Classical.not_not.1 o0
          have l0 := piece_len (u := usedK x.fKind) o0
          rw [if_pos o0]
          simp only []
          rw [loop_eq, specRound x (usedK x.fKind) 1 (tb (wordK x.fKind)) _ (by omega) (by simp only [List.length_append]; omega)]
          by_cases o1 : ¬ numOk (usedK x.fKind) 1 (num4 x 1) = true
          · have ht : ¬ toldB x = true := by
              intro h; simp only [toldB, Bool.and_eq_true] at h; exact o1 h.2.2.1
            simp [o1, ht]
          have o1 := Classical.not_not.1 o1
          have l1 := piece_len (u := usedK x.fKind) o1
          rw [if_pos o1]
          simp only []
          rw [loop_eq, specRound x (usedK x.fKind) 2 (tb (wordK x.fKind)) _ (by omega) (by simp only [List.length_append]; omega)]
          by_cases o2 : ¬ numOk (usedK x.fKind) 2 (num4 x 2) = true
          · have ht : ¬ toldB x = true := by
              intro h; simp only [toldB, Bool.and_eq_true] at h; exact o2 h.2.2.2.1
            simp [o2, ht]
          have o2 := Classical.not_not.1 o2
          have l2 := piece_len (u := usedK x.fKind) o2
          rw [if_pos o2]
          simp only []
          rw [loop_eq, specRound x (usedK x.fKind) 3 (tb (wordK x.fKind)) _ (by omega) (by simp only [List.length_append]; omega)]
          by_cases o3 : ¬ numOk (usedK x.fKind) 3 (num4 x 3) = true
          · have ht : ¬ toldB x = true := by
              intro h; simp only [toldB, Bool.and_eq_true] at h; exact o3 h.2.2.2.2
            simp [o3, ht]
          have o3 := Classical.not_not.1 o3
          have l3 := piece_len (u := usedK x.fKind) o3
          rw [if_pos o3]
          simp only []
          have ht : toldB x = true := by
            simp only [toldB, hkd, Bool.true_and, Bool.and_eq_true]
            exact ⟨o0, o1, o2, o3⟩
          rw [loop_eq]
          simp only [spec_l06Text.l_17]
          rw [if_neg (by simp)]
          simp only [Option.bind_some, spec_l06Text.k_14, e3, tb_size, tb_app]
          rw [if_pos (by simp only [List.length_append, List.length_cons, List.length_nil]; omega), if_pos ht, w64_in (n := (k : Int) + 1) (by omega) (by omega)]
          simp only [actT, ht, if_true, actL]
          simp [num4, List.append_assoc]
        · have ht : ¬ toldB x = true := by
            intro h; simp only [toldB, Bool.and_eq_true] at h
            exact hkd (by simp only [Bool.and_eq_true]; exact h.1)
          rw [w64_in (n := x.fKind) (by omega) (by omega), words_no hkd]
          simp only [Option.bind_some, tb_list, e0]
          rw [if_pos (by simp), if_neg ht]
      · obtain rfl : k = list.length := by omega
        simp only [spec_l06Text.l_5, List.take_length]
        rw [if_neg (by simp), dif_neg (by omega)])
  have hL' : loop (spec_l06Text.l_5 list) (ByteArray.mk #[], 0) = some t := hL
  simp only [spec_l06Text, hL', Option.bind_some]
  by_cases hall : list.all toldB = true
  · rw [if_pos hall]
    by_cases hlt : k < list.length
    · rw [dif_pos hlt, if_pos (List.all_eq_true.1 hall _ (List.getElem_mem hlt))] at hp
      cases hp
    · rw [dif_neg hlt] at hp
      cases hp
      simp only [spec_l06Text.k_2]
      congr 2
      simp
      omega
  · rw [if_neg hall]
    by_cases hlt : k < list.length
    · rw [dif_pos hlt] at hp
      split at hp
      · cases hp
      · cases hp; rfl
    · exfalso
      apply hall
      rw [List.all_eq_true]
      intro x hx
      obtain ⟨i, hi, rfl⟩ := List.getElem_of_mem hx
      have := hno i (by omega)
      rw [dif_pos hi] at this
      split at this
      · assumption
      · cases this
/-! ### the program -/
theorem madeA_is (n : Int) : impl_isMade n = some (decide (0 ≤ n) && decide (n ≤ 1000000)) := rfl
theorem used_ix {k : Int} (h : (decide (0 ≤ k) && decide (k ≤ 3)) = true) : ix ([1, 1, 2, 4] : List Int) k = some (usedK k : Int) := by
  rcases kind4 h with rfl | rfl | rfl | rfl <;> rfl
theorem word_ix {k : Int} (h : (decide (0 ≤ k) && decide (k ≤ 3)) = true) : ix ([(ByteArray.mk #[116, 117, 114, 110]), (ByteArray.mk #[104, 97, 109, 109, 101, 114]), (ByteArray.mk #[112, 105, 110]), (ByteArray.mk #[109, 111, 118, 101])] : List ByteArray) k = some (tb (wordK k)) := by
  rcases kind4 h with rfl | rfl | rfl | rfl <;> rfl
theorem num_ix (x : GAct) (i : Nat) (h : i < 4) : ix ([x.fA, x.fB, x.fC, x.fD] : List Int) (i : Int) = some (num4 x i) := by
  have : i = 0 ∨ i = 1 ∨ i = 2 ∨ i = 3 := by omega
  rcases this with rfl | rfl | rfl | rfl <;> rfl
theorem told_all (x : GAct) : toldB x = ((decide (0 ≤ x.fKind) && decide (x.fKind ≤ 3)) && (List.range 4).all fun i => numOk (usedK x.fKind) i (num4 x i)) := by
  simp [toldB, List.range_succ, num4, Bool.and_assoc]
theorem isTold_is {x : GAct} (h : ActIn x) : impl_Act_isTold x = some (toldB x) := by
  obtain ⟨h0, h1⟩ := h
  simp only [impl_Act_isTold, impl_within, w64_in (n := x.fKind) (by omega) (by omega), Option.bind_some, impl_Act_numbers]
  rw [told_all]
  by_cases hk : (decide (0 ≤ x.fKind) && decide (x.fKind ≤ 3)) = true
  · rw [hk, if_neg (by simp), loop_allN 4 (fun i => numOk (usedK x.fKind) i (num4 x i)) (by omega) (fun i hi => by
      simp only [impl_Act_isTold.l_5, num_ix x i hi, Option.bind_some, madeA_is, impl_usedBy, used_ix hk]
      rw [if_pos (by simp; omega)]
      by_cases m : (decide (0 ≤ num4 x i) && decide (num4 x i ≤ 1000000)) = true
      · rw [if_neg (by rw [m]; simp)]
        simp only [impl_Act_isTold.k_9, numOk, m, Bool.true_and]
        by_cases c : i < usedK x.fKind
        · rw [if_neg (by simp; omega), if_pos (by simp [c])]
        · by_cases z : num4 x i = 0
          · rw [if_neg (by simp [z]), if_pos (by simp [z])]
          · rw [if_pos (by simp [z]; omega), if_neg (by simp [z, c])]
      · rw [if_pos (by rw [Bool.not_eq_true']; exact Bool.eq_false_iff.2 m)]
        simp only [Bool.not_eq_true] at m
        simp only [impl_Act_isTold.k_9, numOk, m, Bool.false_and]
        simp) (by simp [impl_Act_isTold.l_5])]
    cases (List.range 4).all fun i => numOk (usedK x.fKind) i (num4 x i) <;> rfl
  · simp only [Bool.not_eq_true] at hk
    rw [hk, if_pos (by simp)]
    rfl
theorem contains_told (a : List GAct) (hin : ∀ x ∈ a, ActIn x) (h : a.length ≤ 9223372036854775807) : slices_ContainsFunc_Act_at_impl_ActsText_1 a = some (!(a.all toldB)) := by
  obtain ⟨t, ht, hq⟩ := loop_find (f := slices_IndexFunc_Act_at_impl_ActsText_1.l_3 a) a (fun x => !(toldB x)) (by omega) (fun k hk => by
    simp only [slices_IndexFunc_Act_at_impl_ActsText_1.l_3, ix_lt hk, Option.bind_some, impl_ActsText_1, isTold_is (hin _ (List.getElem_mem hk))]
    rw [if_pos (by simpa using hk)]
    by_cases he : toldB a[k] = true <;> simp [he]) (by simp [slices_IndexFunc_Act_at_impl_ActsText_1.l_3])
  simp only [slices_ContainsFunc_Act_at_impl_ActsText_1, slices_IndexFunc_Act_at_impl_ActsText_1, ht, Option.bind_some]
  rcases hq with ⟨hany, k, rfl, _⟩ | ⟨hany, rfl⟩
  · rw [any_not] at hany
    rw [hany]; simp
  · rw [any_not] at hany
    rw [hany]; simp [slices_IndexFunc_Act_at_impl_ActsText_1.k_1]
theorem dec_small {n : Int} (h0 : 0 ≤ n) (h1 : n ≤ 1000000) : impl_decimal n = some (tb (Lib.itoa n)) := implDecimal_is (by omega) (by omega)
/-- the numbers of an act as they are written -/
def numsL (x : GAct) (m : Nat) : List UInt8 := (List.range m).flatMap fun i => 32 :: Lib.itoa (num4 x i)
theorem numsL_act {x : GAct} (h : toldB x = true) : wordK x.fKind ++ numsL x (usedK x.fKind) ++ [10] = actL x := by
  have hk : (decide (0 ≤ x.fKind) && decide (x.fKind ≤ 3)) = true := by
    simp only [toldB, Bool.and_eq_true] at h
    simp only [Bool.and_eq_true]; exact h.1
  unfold actL
  rcases kind4 hk with h4 | h4 | h4 | h4 <;> rw [h4] <;> simp [numsL, usedK, piece, List.range_succ, num4]
theorem implNums {x : GAct} (h : toldB x = true) (S : List UInt8) (hS : S.length ≤ 100000000) (u : Int) (hu : u = (usedK x.fKind : Int)) :
    loop (impl_ActsText.l_20 [x.fA, x.fB, x.fC, x.fD] u) (bI S, 0) = some (bI (S ++ numsL x (usedK x.fKind))) := by
  have e3 : (ByteArray.mk #[32]) = tb [32] := rfl
  have hk : (decide (0 ≤ x.fKind) && decide (x.fKind ≤ 3)) = true := by
    simp only [toldB, Bool.and_eq_true] at h
    simp only [Bool.and_eq_true]; exact h.1
  have hu4 : usedK x.fKind ≤ 4 := by rcases kind4 hk with h4 | h4 | h4 | h4 <;> rw [h4] <;> decide
  have hnum : ∀ i, i < 4 → 0 ≤ num4 x i ∧ num4 x i ≤ 1000000 := by
    intro i hi
    rw [told_all, Bool.and_eq_true, List.all_eq_true] at h
    exact numOk_in (h.2 i (by simpa using hi))
  subst hu
  have := loop_seq (f := impl_ActsText.l_20 [x.fA, x.fB, x.fC, x.fD] (usedK x.fKind : Int)) (usedK x.fKind) (fun m => (bI (S ++ numsL x m), (m : Int))) (bI (S ++ numsL x (usedK x.fKind))) (fun m hm => by
    have hlen : (numsL x m).length ≤ m * 8 := by
      unfold numsL
      refine app_len m 8 _ (fun i hi => ?_)
      obtain ⟨a, b⟩ := hnum i (by omega)
      have := itoa_small a b
      simp; omega
    obtain ⟨a, b⟩ := hnum m (by omega)
    have hi := itoa_small a b
    have hix : ix ([x.fA, x.fB, x.fC, x.fD].take (usedK x.fKind : Int).toNat) (m : Int) = some (num4 x m) := by
      have h1 := num_ix x m (by omega)
      unfold ix at h1 ⊢
      rw [if_pos (by omega)] at h1 ⊢
      rw [Int.toNat_natCast, Int.toNat_natCast] at *
      rw [List.getElem?_take_of_lt hm]
      exact h1
    have hs : numsL x (m + 1) = numsL x m ++ (32 :: Lib.itoa (num4 x m)) := by
      unfold numsL
      rw [List.range_succ, List.flatMap_append]; simp
    simp only [impl_ActsText.l_20, hix, Option.bind_some, dec_small a b, e3, tb_size, tb_app, bytesI_tb, bI_app]
    rw [if_pos (by simp; omega), if_pos (by simp; omega), if_pos (by
      rw [bI_len]
      simp only [List.length_append, List.length_cons, List.length_nil]
      omega), w64_in (n := (m : Int) + 1) (by omega) (by omega), hs]
    simp) (by
    simp only [impl_ActsText.l_20]
    rw [if_neg (by simp)])
  simpa [numsL] using this
theorem implActs {list : List GAct} (hin : ∀ x ∈ list, ActIn x) (ht : list.all toldB = true) (hl : list.length ≤ 60) : loop (impl_ActsText.l_8 list) ([], 0) = some (bI (list.flatMap actT)) := by
  have e3 : (ByteArray.mk #[10]) = tb [10] := rfl
  exact loop_seq (f := impl_ActsText.l_8 list) list.length (fun k => (bI ((list.take k).flatMap actT), (k : Int))) (bI (list.flatMap actT)) (fun k hlt => by
    have hlen := acts_len (list.take k)
    rw [List.length_take] at hlen
    have hlen2 : ((list.take k).flatMap actT).length ≤ 10000 := by
      refine Nat.le_trans hlen ?_
      have : min k list.length ≤ 60 := by omega
      omega
    generalize hS : (list.take k).flatMap actT = S at hlen2 ⊢
    have htk : (list.take (k + 1)).flatMap actT = S ++ actT list[k] := by
      rw [List.take_succ_eq_append_getElem hlt, List.flatMap_append, hS]; simp
    rw [htk]
    have hx := List.all_eq_true.1 ht _ (List.getElem_mem hlt)
    simp only [impl_ActsText.l_8, ix_lt hlt, Option.bind_some]
    rw [if_pos (by simpa using hlt)]
    generalize list[k] = x at hx ⊢
    have hk : (decide (0 ≤ x.fKind) && decide (x.fKind ≤ 3)) = true := by
      simp only [toldB, Bool.and_eq_true] at hx
      simp only [Bool.and_eq_true]; exact hx.1
    have hw := wordK_len x.fKind
    have hu4 : usedK x.fKind ≤ 4 := by rcases kind4 hk with h4 | h4 | h4 | h4 <;> rw [h4] <;> decide
    simp only [impl_actWords, Option.bind_some, word_ix hk, impl_Act_numbers, impl_usedBy, used_ix hk, tb_size, bytesI_tb, bI_app]
    rw [if_pos (by rw [bI_len]; omega), if_pos (by simp; omega), implNums hx _ (by rw [List.length_append]; omega) _ rfl]
    have hn := actT_len x
    simp only [actT, hx, if_true, ← numsL_act hx, List.length_append, List.length_cons, List.length_nil] at hn
    simp only [Option.bind_some, impl_ActsText.k_17, e3, tb_size, bytesI_tb, bI_app]
    rw [if_pos (by rw [bI_len]; simp only [List.length_append, List.length_cons, List.length_nil]; omega), w64_in (n := (k : Int) + 1) (by omega) (by omega)]
    simp only [actT, hx, if_true, ← numsL_act hx, List.append_assoc]
    rfl) (by
    simp only [impl_ActsText.l_8]
    rw [if_neg (by simp), List.take_length])
def actsT (list : List GAct) : ByteArray := if list.all toldB = true ∧ list.length ≤ 60 then tb (list.flatMap actT) else tb []
theorem implActsText_is {list : List GAct} (hin : ∀ x ∈ list, ActIn x) (hl : list.length ≤ 2000000) : impl_ActsText list = some (actsT list) := by
  simp only [impl_ActsText, actsT]
  by_cases c1 : list.length ≤ 60
  · rw [if_neg (by simp; omega), contains_told list hin (by omega)]
    simp only [Option.bind_some, impl_ActsText.k_2]
    by_cases c2 : list.all toldB = true
    · rw [if_neg (by simp [c2]), implActs hin c2 c1, if_pos ⟨c2, c1⟩]
      simp only [Option.bind_some, impl_ActsText.k_4, strF_bI]
    · rw [if_pos (by simpa using c2), if_neg (fun h => c2 h.1)]
      rfl
  · rw [if_pos (by simp; omega), if_neg (fun h => c1 h.2)]
    simp only [impl_ActsText.k_2]
    rw [if_pos trivial]
    rfl
theorem specActsText_is {list : List GAct} (hin : ∀ x ∈ list, ActIn x) (hl : list.length ≤ 2000000) : spec_ActsText list = some (actsT list) := by
  simp only [spec_ActsText, specActs hin hl, Option.bind_some, actsT]
  by_cases c2 : list.all toldB = true
  · rw [if_pos c2]
    by_cases c1 : list.length ≤ 60
    · rw [if_neg (by simp [c1]), if_pos ⟨c2, c1⟩]
    · rw [if_pos (by simp; omega), if_neg (fun h => c1 h.2)]
      rfl
  · rw [if_neg c2, if_pos (by simp), if_neg (fun h => c2 h.1)]
    rfl

end Go.Proofs.YtolfkfjjifdmeaaGreatDoor
/- Acts read from a text, the program's way and the reference's. -/
namespace Go.Proofs.YtolfkfjjifdmeaaGreatDoor
open Eng
set_option linter.unusedVariables false
set_option linter.unusedSimpArgs false

def kindW (w : List UInt8) : Option Int := if w = wordK 0 then some 0 else if w = wordK 1 then some 1 else if w = wordK 2 then some 2 else if w = wordK 3 then some 3 else none
def numW (w : List UInt8) : Prop := w = Lib.decDigits (val w) ∧ (val w : Int) ≤ 1000000
def nW (r : List (List UInt8)) (i : Nat) : Int := (val (r[i]?.getD []) : Int)
def arrW (r : List (List UInt8)) : Nat → Arr 4 Int
  | 0 => Arr.rep 4 0
  | i + 1 => Arr.set (arrW r i) (i : Int) (nW r i)
def mkA (k : Int) (r : List (List UInt8)) : GAct := ⟨k, if 0 < r.length then nW r 0 else 0, if 1 < r.length then nW r 1 else 0, if 2 < r.length then nW r 2 else 0, if 3 < r.length then nW r 3 else 0⟩
open Classical in
/-- a line read -/
noncomputable def rdA (w : List UInt8) : Option GAct := match kindW ((spl 32 w).headD []) with
  | none => none
  | some k => if (spl 32 w).length = usedK k + 1 ∧ ∀ v ∈ (spl 32 w).tail, numW v then some (mkA k (spl 32 w).tail) else none
theorem rdA_no {w w0 : List UInt8} {r : List (List UInt8)} (hs : spl 32 w = w0 :: r) (hk : kindW w0 = none) : rdA w = none := by
  unfold rdA; rw [hs]; simp only [List.headD_cons, hk]
theorem rdA_pos {w w0 : List UInt8} {r : List (List UInt8)} {k : Int} (hs : spl 32 w = w0 :: r) (hk : kindW w0 = some k) (hl : r.length = usedK k) (hn : ∀ v ∈ r, numW v) : rdA w = some (mkA k r) := by
  unfold rdA; rw [hs]; simp only [List.headD_cons, hk, List.tail_cons]; exact if_pos ⟨by simp [hl], hn⟩
theorem rdA_neg {w w0 : List UInt8} {r : List (List UInt8)} {k : Int} (hs : spl 32 w = w0 :: r) (hk : kindW w0 = some k) (h : ¬ (r.length = usedK k ∧ ∀ v ∈ r, numW v)) : rdA w = none := by
  unfold rdA; rw [hs]; simp only [List.headD_cons, hk, List.tail_cons]; exact if_neg fun q => h ⟨by simpa using q.1, q.2⟩
theorem kindW_some {w : List UInt8} {k : Int} (h : kindW w = some k) : (k = 0 ∨ k = 1 ∨ k = 2 ∨ k = 3) ∧ w = wordK k := by
  unfold kindW at h
  split at h
  · rename_i e; cases h; exact ⟨by omega, e⟩
  · split at h
    · rename_i e; cases h; exact ⟨by omega, e⟩
    · split at h
      · rename_i e; cases h; exact ⟨by omega, e⟩
      · split at h
        · rename_i e; cases h; exact ⟨by omega, e⟩
        · cases h
theorem kindW_word {k : Int} (h : k = 0 ∨ k = 1 ∨ k = 2 ∨ k = 3) : kindW (wordK k) = some k := by
  rcases h with rfl | rfl | rfl | rfl <;> decide
theorem arrW_at (r : List (List UInt8)) : ∀ (m : Nat), m ≤ 4 → ∀ (j : Nat) (hj : j < 4), (arrW r m).at j hj = if j < m then nW r j else 0 := by
  intro m
  induction m with
  | zero => intro _ j hj; rw [arrW, Arr.at_rep]; simp
  | succ m ih =>
    intro hm j hj
    rw [arrW, Arr.at_set, ih (by omega) j hj]
    by_cases e : m = j
    · subst e; rw [if_pos rfl, if_pos (by omega)]
    · rw [if_neg e]
      by_cases c : j < m
      · rw [if_pos c, if_pos (by omega)]
      · rw [if_neg c, if_neg (by omega)]
theorem arrW_ix (r : List (List UInt8)) (h : r.length ≤ 4) (j : Nat) (hj : j < 4) : ix (arrW r r.length).1 (j : Int) = some (if j < r.length then nW r j else 0) := by
  rw [ix_arr_lt hj, arrW_at r _ h j hj]
open Classical in
theorem num_loop {E : Type} {f : Arr 4 Int × Int → Option ((Arr 4 Int × Int) ⊕ (E ⊕ Arr 4 Int))} (r : List (List UInt8)) (bad : E) (hl : r.length ≤ 4)
    (hstep : ∀ (i : Nat) (h : i < r.length) (a : Arr 4 Int), f (a, (i : Int)) = some (if numW r[i] then .inl (Arr.set a (i : Int) (val r[i] : Int), ((i + 1 : Nat) : Int)) else .inr (.inl bad)))
    (hend : ∀ a, f (a, (r.length : Int)) = some (.inr (.inr a))) : loop f (Arr.rep 4 0, 0) = some (if ∀ w ∈ r, numW w then .inr (arrW r r.length) else .inl bad) := by
  obtain ⟨k, t, hk, hp, hno, hL⟩ := loop_upto (f := f) r.length (fun i => (arrW r i, (i : Int)))
    (fun i => if h : i < r.length then (if numW r[i] then none else some (.inl bad)) else some (.inr (arrW r r.length)))
    ⟨r.length, Nat.le_refl _, by simp⟩ (fun i hi => by
      by_cases c : i < r.length
      · simp only [dif_pos c]
        rw [hstep i c]
        by_cases q : numW r[i]
        · rw [if_pos q, if_pos q, arrW, nW, List.getElem?_eq_getElem c]; rfl
        · rw [if_neg q, if_neg q]
      · obtain rfl : i = r.length := by omega
        simp only [dif_neg c]
        exact hend _)
  have hL' : loop f (Arr.rep 4 0, 0) = some t := hL
  rw [hL']
  by_cases hall : ∀ w ∈ r, numW w
  · rw [if_pos hall]
    by_cases c : k < r.length
    · rw [dif_pos c, if_pos (hall _ (List.getElem_mem c))] at hp; cases hp
    · rw [dif_neg c] at hp; exact hp.symm ▸ rfl
  · rw [if_neg hall]
    by_cases c : k < r.length
    · rw [dif_pos c] at hp
      split at hp
      · cases hp
      · exact hp.symm ▸ rfl
    · exfalso
      apply hall
      intro w hw
      obtain ⟨i, hi, rfl⟩ := List.getElem_of_mem hw
      have := hno i (by omega)
      rw [dif_pos hi] at this
      split at this
      · assumption
      · cases this
theorem usedK_le (k : Int) : usedK k ≤ 4 := by
  unfold usedK
  repeat' split
  all_goals omega
/-! ### the reference -/
theorem tlA_ne {a b : List UInt8} : ((tb a).toList == (tb b).toList) = decide (a = b) := by
  rw [tb_list, tb_list, Bool.eq_iff_iff]; simp
/-! ### the program: one line -/
open Classical in
theorem implNums2 {w0 : List UInt8} {r : List (List UInt8)} (hl : r.length ≤ 4) (hw : ∀ w ∈ r, w.length ≤ 1048576) : loop (impl_ReadActs.l_19 ((w0 :: r).map tb)) (Arr.rep 4 0, 0) = some (if ∀ w ∈ r, numW w then .inr (arrW r r.length) else .inl (([] : List GAct), (5 : Int))) := by
  refine num_loop r _ hl (fun i hi a => ?_) (fun a => ?_)
  · have hx : ix (((w0 :: r).map tb).drop (1 : Int).toNat) (i : Int) = some (tb r[i]) := by
      show ix ((r.map tb)) (i : Int) = _
      rw [ix_lt (show i < (r.map tb).length by simpa using hi)]
      simp
    have hwi := hw _ (List.getElem_mem hi)
    have hix : ix a.1 (i : Int) = some (a.at i (by omega)) := ix_arr_lt (by omega)
    simp only [impl_ReadActs.l_19]
    rw [if_pos (by simp; omega), hx]
    simp only [Option.bind_some, implNumber_is (most := 1000000) r[i] hwi (by omega)]
    by_cases c : r[i] = Lib.decDigits (val r[i]) ∧ (val r[i] : Int) ≤ 1000000
    · rw [if_pos c, if_neg (by simp), hix, if_pos (show numW r[i] from c), Option.bind_some, w64_in (by omega) (by omega)]
      rfl
    · rw [if_neg c, if_pos (by simp), if_neg (show ¬ numW r[i] from c)]
  · simp only [impl_ReadActs.l_19]
    rw [if_neg (by simp)]
theorem index4 (w : List UInt8) : slices_Index_string [(ByteArray.mk #[116, 117, 114, 110]), (ByteArray.mk #[104, 97, 109, 109, 101, 114]), (ByteArray.mk #[112, 105, 110]), (ByteArray.mk #[109, 111, 118, 101])] (tb w) = some (match kindW w with | some k => k | none => -1) := by
  have e : [(ByteArray.mk #[116, 117, 114, 110]), (ByteArray.mk #[104, 97, 109, 109, 101, 114]), (ByteArray.mk #[112, 105, 110]), (ByteArray.mk #[109, 111, 118, 101])] = [wordK 0, wordK 1, wordK 2, wordK 3].map tb := rfl
  rw [e]
  obtain ⟨t, ht, hq⟩ := loop_find (f := slices_Index_string.l_3 ([wordK 0, wordK 1, wordK 2, wordK 3].map tb) (tb w)) [wordK 0, wordK 1, wordK 2, wordK 3] (fun x => decide (w = x)) (by simp) (fun k hk => by
    have hx : ix ([wordK 0, wordK 1, wordK 2, wordK 3].map tb) (k : Int) = some (tb [wordK 0, wordK 1, wordK 2, wordK 3][k]) := by
      rw [ix_lt (show k < ([wordK 0, wordK 1, wordK 2, wordK 3].map tb).length by simpa using hk), List.getElem_map]
    simp only [slices_Index_string.l_3, hx, Option.bind_some, tlA_ne, List.length_map]
    rw [if_pos (by simp at hk ⊢; omega)]
    split <;> rfl) (by simp [slices_Index_string.l_3])
  simp only [slices_Index_string, ht, Option.bind_some]
  rcases hq with ⟨_, k, rfl, hk, he, hno⟩ | ⟨hany, rfl⟩
  · simp only []
    have he := of_decide_eq_true he
    have h4 : k < 4 := hk
    have : k = 0 ∨ k = 1 ∨ k = 2 ∨ k = 3 := by omega
    rcases this with rfl | rfl | rfl | rfl
    · have : w = wordK 0 := he
      rw [this, kindW_word (by omega)]; rfl
    · have : w = wordK 1 := he
      rw [this, kindW_word (by omega)]; rfl
    · have : w = wordK 2 := he
      rw [this, kindW_word (by omega)]; rfl
    · have : w = wordK 3 := he
      rw [this, kindW_word (by omega)]; rfl
  · simp only [slices_Index_string.k_1]
    cases hk : kindW w with
    | none => rfl
    | some k =>
      exfalso
      obtain ⟨h4, rfl⟩ := kindW_some hk
      rw [List.any_eq_false] at hany
      rcases h4 with rfl | rfl | rfl | rfl
      · exact hany (wordK 0) (by simp) (by simp)
      · exact hany (wordK 1) (by simp) (by simp)
      · exact hany (wordK 2) (by simp) (by simp)
      · exact hany (wordK 3) (by simp) (by simp)
theorem used_ix4 {k : Int} (h : k = 0 ∨ k = 1 ∨ k = 2 ∨ k = 3) : ix ([1, 1, 2, 4] : List Int) k = some (usedK k : Int) := by
  rcases h with rfl | rfl | rfl | rfl <;> rfl
def stepA (o : Option GAct) (xs : List GAct) : (List GAct) ⊕ (List GAct × Int) := match o with
  | some a => if xs.length = 60 then .inr ([], 5) else .inl (xs ++ [a])
  | none => .inr ([], 5)
theorem implLine (y : ByteArray) (l : List UInt8) (hy : strings_TrimSuffix y (ByteArray.mk #[10]) = some (tb l)) (hl : l.length ≤ 1048576) (xs : List GAct) (hx60 : xs.length ≤ 60) : impl_ReadActs.l_2 y xs = some (stepA (rdA l) xs) := by
  classical
  have e32 : (ByteArray.mk #[32]) = tb [32] := rfl
  have hm := spl_mem (c := 32) l
  simp only [impl_ReadActs.l_2, hy, Option.bind_some, e32, strings_Split, splitF_is l 32 hl]
  cases hs : spl 32 l with
  | nil => exact absurd hs (spl_ne 32 l)
  | cons w0 r =>
    rw [hs] at hm
    have hx : ix ((w0 :: r).map tb) 0 = some (tb w0) := rfl
    simp only [hx, Option.bind_some, impl_actWords, index4, impl_ReadActs.k_8]
    cases hk : kindW w0 with
    | none =>
      simp only []
      rw [if_pos (by decide)]
      simp only [impl_ReadActs.k_10]
      rw [if_pos trivial, rdA_no hs hk]
      rfl
    | some k =>
      obtain ⟨h4, hw0⟩ := kindW_some hk
      have hu4 := usedK_le k
      simp only [impl_usedBy, Option.bind_some, used_ix4 h4, List.length_map, List.length_cons]
      rw [if_neg (by simp; omega), w64_in (n := ((usedK k : Nat) : Int) + 1) (by omega) (by omega)]
      simp only [impl_ReadActs.k_10]
      by_cases hu : r.length = usedK k
      · by_cases h60 : xs.length = 60
        · rw [if_pos (by simp [h60])]
          cases rdA l <;> simp [stepA, h60]
        · rw [if_neg (by simp [hu]; omega), if_pos (by simp; omega), implNums2 (by omega) (fun w hw => by have := (hm w (by simp [hw])).1; omega)]
          simp only [Option.bind_some]
          by_cases q : ∀ v ∈ r, numW v
          · have hr4 : r.length ≤ 4 := by omega
            have a0 := arrW_ix r hr4 0 (by omega)
            have a1 := arrW_ix r hr4 1 (by omega)
            have a2 := arrW_ix r hr4 2 (by omega)
            have a3 := arrW_ix r hr4 3 (by omega)
            rw [show ((0 : Nat) : Int) = 0 from rfl] at a0
            rw [show ((1 : Nat) : Int) = 1 from rfl] at a1
            rw [show ((2 : Nat) : Int) = 2 from rfl] at a2
            rw [show ((3 : Nat) : Int) = 3 from rfl] at a3
            rw [if_pos q, rdA_pos hs hk hu q]
            simp only [impl_ReadActs.k_12]
            rw [a0, Option.bind_some, a1, Option.bind_some, a2, Option.bind_some, a3, Option.bind_some, w8_in (n := k) (by omega) (by omega), if_pos (by simp; omega)]
            simp only [stepA, mkA]
            rw [if_neg h60]
          · rw [if_neg q, rdA_neg hs hk (fun h => q h.2)]
            rfl
      · rw [if_pos (by simp only [Bool.or_eq_true, bne_iff_ne]; left; omega), rdA_neg hs hk (fun h => hu h.1)]
        rfl
/-! ### what is read is what is written -/
/-! ### the lines of a text -/
/-- the lines, without their ends: the pieces, but a last empty one -/
def tr (s : List (List UInt8)) : List (List UInt8) := if s.getLast? = some [] then s.dropLast else s
theorem idx_none {l : List UInt8} (h : (10 : UInt8) ∉ l) : lnIdx (tb l) = -1 := by
  unfold lnIdx
  rw [tb_data]
  have hge := Lib.indexByte_ge l (10 : Int).toNat.toUInt8
  rcases Int.lt_or_le (Lib.indexByte l (10 : Int).toNat.toUInt8) 0 with h' | h'
  · omega
  · exfalso
    obtain ⟨o, ho⟩ : ∃ o : Nat, Lib.indexByte l (10 : Int).toNat.toUInt8 = o := ⟨(Lib.indexByte l (10 : Int).toNat.toUInt8).toNat, by omega⟩
    exact h (List.mem_of_getElem? (Lib.indexByte_some ho).1)
theorem idx_hit {w r : List UInt8} (h : (10 : UInt8) ∉ w) : lnIdx (tb (w ++ 10 :: r)) = w.length := by
  unfold lnIdx
  rw [tb_data]
  have hc : (10 : Int).toNat.toUInt8 = (10 : UInt8) := rfl
  rw [hc]
  have hge := Lib.indexByte_ge (w ++ 10 :: r) 10
  rcases Int.lt_or_le (Lib.indexByte (w ++ 10 :: r) 10) 0 with h' | h'
  · exfalso
    have e : Lib.indexByte (w ++ 10 :: r) 10 = -1 := by omega
    exact Lib.indexByte_none e w.length (by simp)
  · obtain ⟨o, ho⟩ : ∃ o : Nat, Lib.indexByte (w ++ 10 :: r) 10 = o := ⟨(Lib.indexByte (w ++ 10 :: r) 10).toNat, by omega⟩
    rw [ho]
    obtain ⟨h1, h2⟩ := Lib.indexByte_some ho
    rcases Nat.lt_trichotomy o w.length with c | c | c
    · exfalso
      rw [List.getElem?_append_left c] at h1
      exact h (List.mem_of_getElem? h1)
    · rw [c]
    · exact absurd (by simp) (h2 w.length c)
theorem brk (l : List UInt8) : (10 : UInt8) ∉ l ∨ ∃ w r, l = w ++ 10 :: r ∧ (10 : UInt8) ∉ w := by
  induction l with
  | nil => left; simp
  | cons b l ih =>
    by_cases hb : b = 10
    · subst hb; exact .inr ⟨[], l, rfl, by simp⟩
    · rcases ih with h | ⟨w, r, rfl, h⟩
      · left; simp [h]; exact fun e => hb e.symm
      · exact .inr ⟨b :: w, r, rfl, by simp [h]; exact fun e => hb e.symm⟩
theorem lin_spl : ∀ (n : Nat) (l : List UInt8), l.length ≤ n → l.length ≤ 1048576 →
    ∃ gs : List ByteArray, linB n (tb l) = gs ∧ gs.length = (tr (spl 10 l)).length ∧ ∀ i (h : i < gs.length) (h' : i < (tr (spl 10 l)).length), gs[i] = tb ((tr (spl 10 l))[i] ++ [10]) ∨ ((10 : UInt8) ∉ (tr (spl 10 l))[i] ∧ gs[i] = tb (tr (spl 10 l))[i]) := by
  intro n
  induction n with
  | zero =>
    intro l hl _
    obtain rfl : l = [] := List.length_eq_zero_iff.1 (by omega)
    exact ⟨[], rfl, rfl, fun i h => absurd h (by simp)⟩
  | succ n ih =>
    intro l hl hb
    by_cases h0 : l = []
    · subst h0
      exact ⟨[], by simp [linB, tb_size], rfl, fun i h => absurd h (by simp)⟩
    · have hpos : 0 < l.length := List.length_pos_iff.2 h0
      have hp : ((tb l).size : Int) > 0 := by rw [tb_size]; omega
      rcases brk l with hno | ⟨w, r, rfl, hw⟩
      · have e1 : lnHd (tb l) = tb l := by rw [lnHd, if_neg (by rw [idx_none hno]; omega)]
        have e2 : lnTl (tb l) = tb [] := by rw [lnTl, if_neg (by rw [idx_none hno]; omega)]; rfl
        have e3 : tr (spl 10 l) = [l] := by
          rw [spl_none l hno]
          simp [tr, h0]
        refine ⟨[tb l], ?_, by rw [e3]; rfl, fun i h h' => ?_⟩
        · simp only [linB]
          rw [if_pos hp, e1, e2]
          cases n with
          | zero => rfl
          | succ n => simp [linB, tb_size]
        · right
          simp only [e3]
          obtain rfl : i = 0 := by simpa using h
          exact ⟨hno, rfl⟩
      · have hi := idx_hit (r := r) hw
        have hlen : (w ++ 10 :: r).length = w.length + 1 + r.length := by simp; omega
        have hws : w64 (lnIdx (tb (w ++ 10 :: r)) + 1) = ((w.length + 1 : Nat) : Int) := by rw [hi, w64_in (by omega) (by omega)]; omega
        have e1 : lnHd (tb (w ++ 10 :: r)) = tb (w ++ [10]) := by
          rw [lnHd, if_pos (by rw [hi]; omega), hws, tb_extract]
          congr 1
          simp [List.take_append, List.take_of_length_le]
        have e2 : lnTl (tb (w ++ 10 :: r)) = tb r := by
          rw [lnTl, if_pos (by rw [hi]; omega), hws, tb_extract, tb_size]
          congr 1
          simp only [Int.toNat_natCast, List.take_length]
          simp [List.drop_append]
        obtain ⟨gs, g1, g2, g3⟩ := ih r (by omega) (by omega)
        have hs := spl_hit (c := 10) r w hw
        have hne := spl_ne 10 r
        have e3 : tr (spl 10 (w ++ 10 :: r)) = w :: tr (spl 10 r) := by
          rw [hs]
          unfold tr
          rw [List.getLast?_cons_of_ne_nil hne]
          split
          · rw [List.dropLast_cons_of_ne_nil hne]
          · rfl
        refine ⟨tb (w ++ [10]) :: gs, ?_, by rw [e3]; simp [g2], fun i h h' => ?_⟩
        · simp only [linB]
          rw [if_pos hp, e1, e2, g1]
        · simp only [e3]
          cases i with
          | zero => left; rfl
          | succ i =>
            simp only [List.getElem_cons_succ]
            exact g3 i (by simpa using h) (by rw [e3] at h'; simpa using h')
theorem trim_nl (w : List UInt8) (h : w.length ≤ 1048576) : strings_TrimSuffix (tb (w ++ [10])) (ByteArray.mk #[10]) = some (tb w) := by
  have e10 : (ByteArray.mk #[10]) = tb [10] := rfl
  rw [e10]
  have hlen : (w ++ [(10 : UInt8)]).length = w.length + 1 := by simp
  simp only [strings_TrimSuffix, stringslite_TrimSuffix, stringslite_HasSuffix, tb_size, hlen, List.length_cons, List.length_nil]
  rw [w64_in (n := ((w.length + 1 : Nat) : Int) - ((0 + 1 : Nat) : Int)) (by omega) (by omega)]
  have e1 : (((w.length + 1 : Nat) : Int) - ((0 + 1 : Nat) : Int)).toNat = w.length := by omega
  rw [if_pos (by simp; omega), if_pos (by omega), e1, tb_extract]
  have e2 : ((w ++ [(10 : UInt8)]).take (((w.length + 1 : Nat) : Int)).toNat).drop w.length = [10] := by
    rw [Int.toNat_natCast, List.take_of_length_le (by simp)]
    simp
  rw [e2]
  simp only [Option.bind_some, tb_list]
  rw [if_pos (by simp), if_pos (by omega), tb_extract]
  simp
theorem trim_no {w : List UInt8} (h : w.length ≤ 1048576) (hn : (10 : UInt8) ∉ w) : strings_TrimSuffix (tb w) (ByteArray.mk #[10]) = some (tb w) := by
  have e10 : (ByteArray.mk #[10]) = tb [10] := rfl
  rw [e10]
  simp only [strings_TrimSuffix, stringslite_TrimSuffix, stringslite_HasSuffix, tb_size, List.length_cons, List.length_nil]
  by_cases h0 : w = []
  · subst h0
    rw [if_neg (by simp)]
    rfl
  · have hpos := List.length_pos_iff.2 h0
    rw [w64_in (n := ((w.length : Nat) : Int) - ((0 + 1 : Nat) : Int)) (by omega) (by omega)]
    have e1 : (((w.length : Nat) : Int) - ((0 + 1 : Nat) : Int)).toNat = w.length - 1 := by omega
    rw [if_pos (by simp; omega), if_pos (by omega), e1, tb_extract]
    have e2 : ¬ ((w.take ((w.length : Nat) : Int).toNat).drop (w.length - 1) = [10]) := by
      rw [Int.toNat_natCast, List.take_length]
      intro e
      exact hn (List.mem_of_mem_drop (by rw [e]; simp : (10 : UInt8) ∈ w.drop (w.length - 1)))
    simp only [Option.bind_some, tb_list]
    rw [if_neg (by simpa using e2)]
    rfl
/-! ### both -/
def seqR (o : Option (List GAct)) (n : Nat) : (List GAct) ⊕ (List GAct × Int) := match o with
  | some bs => if n ≤ 60 then .inl bs else .inr ([], 5)
  | none => .inr ([], 5)
theorem seqA : ∀ (gs : List ByteArray) (ls : List (List UInt8)) (xs : List GAct), gs.length = ls.length → (∀ i (h : i < gs.length) (h' : i < ls.length), strings_TrimSuffix gs[i] (ByteArray.mk #[10]) = some (tb ls[i])) → (∀ l ∈ ls, l.length ≤ 1048576) → xs.length ≤ 60 →
    seqO impl_ReadActs.l_2 gs xs = some (seqR ((mapO rdA ls).map (xs ++ ·)) (xs.length + ls.length)) := by
  intro gs
  induction gs with
  | nil =>
    intro ls xs hl _ _ h60
    obtain rfl : ls = [] := List.length_eq_zero_iff.1 hl.symm
    simp [seqO, mapO, seqR, h60]
  | cons g gs ih =>
    intro ls xs hl ht hb h60
    cases ls with
    | nil => simp at hl
    | cons l ls =>
      have h0 := ht 0 (by simp) (by simp)
      simp only [List.getElem_cons_zero] at h0
      simp only [seqO, implLine g l h0 (hb l (by simp)) xs h60, Option.bind_some, mapO]
      cases hr : rdA l with
      | none => cases hm : mapO rdA ls <;> rfl
      | some a =>
        simp only [stepA]
        by_cases c : xs.length = 60
        · rw [if_pos c]
          simp only
          cases hm : mapO rdA ls with
          | none => rfl
          | some bs =>
            simp only [Option.map_some, seqR]
            rw [if_neg (by simp; omega)]
        · rw [if_neg c]
          simp only
          rw [ih ls (xs ++ [a]) (by simpa using hl) (fun i h h' => by
            have := ht (i + 1) (by simpa using h) (by simpa using h')
            simpa using this) (fun l' hl' => hb l' (by simp [hl'])) (by simp; omega)]
          cases hm : mapO rdA ls with
          | none => rfl
          | some bs =>
            simp only [Option.map_some, seqR, List.length_append, List.length_cons, List.length_nil, List.append_assoc, List.cons_append, List.nil_append]
            rw [show xs.length + (0 + 1) + ls.length = xs.length + (ls.length + 1) by omega]
end Go.Proofs.YtolfkfjjifdmeaaGreatDoor
/- Acts read back from their text. -/
namespace Go.Proofs.YtolfkfjjifdmeaaGreatDoor
open Eng
set_option linter.unusedVariables false
set_option linter.unusedSimpArgs false

theorem digs_no {c : UInt8} (hc : ¬ digB c) (n : Nat) : c ∉ Lib.decDigits n := fun h => hc (dd_dig n c h)
theorem numW_dec {n : Int} (h0 : 0 ≤ n) (h1 : n ≤ 1000000) : numW (Lib.itoa n) ∧ (val (Lib.itoa n) : Int) = n := by
  rw [itoa_dec h0]
  have hv := val_dd n.toNat
  refine ⟨⟨by rw [hv], by rw [hv]; omega⟩, by rw [hv]; omega⟩
theorem itoa_no {c : UInt8} (hc : ¬ digB c) {n : Int} (h0 : 0 ≤ n) : c ∉ Lib.itoa n := by rw [itoa_dec h0]; exact digs_no hc _
theorem nodig32 : ¬ digB 32 := by decide
theorem nodig10 : ¬ digB 10 := by decide
/-- an act's line, without its end -/
def lineW (a : GAct) : List UInt8 := ((((wordK a.fKind ++ piece (usedK a.fKind) 0 a.fA) ++ piece (usedK a.fKind) 1 a.fB) ++ piece (usedK a.fKind) 2 a.fC) ++ piece (usedK a.fKind) 3 a.fD)
theorem actT_line {a : GAct} (h : toldB a = true) : actT a = lineW a ++ [10] := by rw [actT, if_pos h]; rfl
theorem spl_sp {w : List UInt8} (hw : (32 : UInt8) ∉ w) (r : List UInt8) : spl 32 (w ++ 32 :: r) = w :: spl 32 r := spl_hit r w hw
theorem numOk_zero {u i : Nat} {n : Int} (h : numOk u i n = true) (hi : ¬ i < u) : n = 0 := by
  simp only [numOk, Bool.and_eq_true, Bool.or_eq_true, decide_eq_true_eq, beq_iff_eq] at h
  rcases h.2 with h | h
  · exact absurd h hi
  · exact h
theorem mkA_eq {k a b c d : Int} {r : List (List UInt8)} (ha : (if 0 < r.length then nW r 0 else 0) = a) (hb : (if 1 < r.length then nW r 1 else 0) = b) (hc : (if 2 < r.length then nW r 2 else 0) = c) (hd : (if 3 < r.length then nW r 3 else 0) = d) : mkA k r = ⟨k, a, b, c, d⟩ := by
  unfold mkA; rw [ha, hb, hc, hd]
theorem rdA_fwd {a : GAct} (h : toldB a = true) : rdA (lineW a) = some a ∧ (10 : UInt8) ∉ lineW a := by
  obtain ⟨k, x, y, z, u⟩ := a
  simp only [toldB, Bool.and_eq_true] at h
  obtain ⟨hk, h0, h1, h2, h3⟩ := h
  have hk4 := kind4 (k := k) (by simp only [Bool.and_eq_true]; exact hk)
  obtain ⟨x0, x1⟩ := numOk_in h0
  obtain ⟨y0, y1⟩ := numOk_in h1
  obtain ⟨z0, z1⟩ := numOk_in h2
  obtain ⟨u0, u1⟩ := numOk_in h3
  obtain ⟨nx, vx⟩ := numW_dec x0 x1
  obtain ⟨ny, vy⟩ := numW_dec y0 y1
  obtain ⟨nz, vz⟩ := numW_dec z0 z1
  obtain ⟨nu, vu⟩ := numW_dec u0 u1
  have sx := itoa_no nodig32 x0; have sy := itoa_no nodig32 y0; have sz := itoa_no nodig32 z0; have su := itoa_no nodig32 u0
  have tx := itoa_no nodig10 x0; have ty := itoa_no nodig10 y0; have tz := itoa_no nodig10 z0; have tu := itoa_no nodig10 u0
  rcases hk4 with rfl | rfl | rfl | rfl
  · have e : ∀ y z u, lineW ⟨0, x, y, z, u⟩ = wordK 0 ++ 32 :: Lib.itoa x := fun y z u => by simp [lineW, piece, usedK]
    obtain rfl := numOk_zero h1 (by decide)
    obtain rfl := numOk_zero h2 (by decide)
    obtain rfl := numOk_zero h3 (by decide)
    have hs : spl 32 (lineW ⟨0, x, 0, 0, 0⟩) = wordK 0 :: [Lib.itoa x] := by rw [e, spl_sp (by decide), spl_none _ sx]
    refine ⟨?_, ?_⟩
    · rw [rdA_pos hs (kindW_word (by omega)) rfl (by intro v hv; rw [List.mem_singleton] at hv; subst hv; exact nx)]
      congr 1
      refine mkA_eq ?_ ?_ ?_ ?_ <;> simp [nW] <;> omega
    · rw [e]; intro hm
      rcases List.mem_append.1 hm with hm | hm
      · exact absurd hm (by decide)
      · rcases List.mem_cons.1 hm with hm | hm
        · exact absurd hm (by decide)
        · exact tx hm
  · have e : ∀ y z u, lineW ⟨1, x, y, z, u⟩ = wordK 1 ++ 32 :: Lib.itoa x := fun y z u => by simp [lineW, piece, usedK]
    obtain rfl := numOk_zero h1 (by decide)
    obtain rfl := numOk_zero h2 (by decide)
    obtain rfl := numOk_zero h3 (by decide)
    have hs : spl 32 (lineW ⟨1, x, 0, 0, 0⟩) = wordK 1 :: [Lib.itoa x] := by rw [e, spl_sp (by decide), spl_none _ sx]
    refine ⟨?_, ?_⟩
    · rw [rdA_pos hs (kindW_word (by omega)) rfl (by intro v hv; rw [List.mem_singleton] at hv; subst hv; exact nx)]
      congr 1
      refine mkA_eq ?_ ?_ ?_ ?_ <;> simp [nW] <;> omega
    · rw [e]; intro hm
      rcases List.mem_append.1 hm with hm | hm
      · exact absurd hm (by decide)
      · rcases List.mem_cons.1 hm with hm | hm
        · exact absurd hm (by decide)
        · exact tx hm
  · have e : ∀ z u, lineW ⟨2, x, y, z, u⟩ = wordK 2 ++ 32 :: (Lib.itoa x ++ 32 :: Lib.itoa y) := fun z u => by simp [lineW, piece, usedK]
    obtain rfl := numOk_zero h2 (by decide)
    obtain rfl := numOk_zero h3 (by decide)
    have hs : spl 32 (lineW ⟨2, x, y, 0, 0⟩) = wordK 2 :: [Lib.itoa x, Lib.itoa y] := by rw [e, spl_sp (by decide), spl_sp sx, spl_none _ sy]
    refine ⟨?_, ?_⟩
    · rw [rdA_pos hs (kindW_word (by omega)) rfl (by
        intro v hv
        simp only [List.mem_cons, List.not_mem_nil, or_false] at hv
        rcases hv with rfl | rfl
        · exact nx
        · exact ny)]
      congr 1
      refine mkA_eq ?_ ?_ ?_ ?_ <;> simp [nW] <;> omega
    · rw [e]; intro hm
      simp only [List.mem_append, List.mem_cons] at hm
      rcases hm with hm | hm | hm | hm | hm
      · exact absurd hm (by decide)
      · exact absurd hm (by decide)
      · exact tx hm
      · exact absurd hm (by decide)
      · exact ty hm
  · have e : lineW ⟨3, x, y, z, u⟩ = wordK 3 ++ 32 :: (Lib.itoa x ++ 32 :: (Lib.itoa y ++ 32 :: (Lib.itoa z ++ 32 :: Lib.itoa u))) := by simp [lineW, piece, usedK]
    have hs : spl 32 (lineW ⟨3, x, y, z, u⟩) = wordK 3 :: [Lib.itoa x, Lib.itoa y, Lib.itoa z, Lib.itoa u] := by rw [e, spl_sp (by decide), spl_sp sx, spl_sp sy, spl_sp sz, spl_none _ su]
    refine ⟨?_, ?_⟩
    · rw [rdA_pos hs (kindW_word (by omega)) rfl (by
        intro v hv
        simp only [List.mem_cons, List.not_mem_nil, or_false] at hv
        rcases hv with rfl | rfl | rfl | rfl
        · exact nx
        · exact ny
        · exact nz
        · exact nu)]
      congr 1
      refine mkA_eq ?_ ?_ ?_ ?_ <;> simp [nW] <;> omega
    · rw [e]; intro hm
      simp only [List.mem_append, List.mem_cons] at hm
      rcases hm with hm | hm | hm | hm | hm | hm | hm | hm | hm
      · exact absurd hm (by decide)
      · exact absurd hm (by decide)
      · exact tx hm
      · exact absurd hm (by decide)
      · exact ty hm
      · exact absurd hm (by decide)
      · exact tz hm
      · exact absurd hm (by decide)
      · exact tu hm
theorem spl_lines : ∀ (ls : List (List UInt8)), (∀ l ∈ ls, (10 : UInt8) ∉ l) → spl 10 (ls.flatMap fun w => w ++ [10]) = ls ++ [[]] := by
  intro ls
  induction ls with
  | nil => intro _; rfl
  | cons l ls ih =>
    intro h
    rw [List.flatMap_cons, List.append_assoc]
    show spl 10 (l ++ 10 :: (ls.flatMap fun w => w ++ [10])) = _
    rw [spl_hit _ l (h l (by simp)), ih (fun x hx => h x (by simp [hx]))]
    rfl
theorem mapO_lines : ∀ (list : List GAct), list.all toldB = true → mapO rdA (list.map lineW) = some list := by
  intro list
  induction list with
  | nil => intro _; rfl
  | cons a list ih =>
    intro h
    rw [List.all_cons, Bool.and_eq_true] at h
    simp only [List.map_cons, mapO, (rdA_fwd h.1).1, ih h.2]
theorem flat_lines : ∀ (list : List GAct), list.all toldB = true → list.flatMap actT = (list.map lineW).flatMap fun w => w ++ [10] := by
  intro list
  induction list with
  | nil => intro _; rfl
  | cons a list ih =>
    intro h
    rw [List.all_cons, Bool.and_eq_true] at h
    rw [List.flatMap_cons, List.map_cons, List.flatMap_cons, ih h.2, actT_line h.1]
theorem readActs_back {list : List GAct} (h : list.all toldB = true) (hin : ∀ a ∈ list, ActIn a) (hl : list.length ≤ 60) : impl_ReadActs (tb (list.flatMap actT)) = some (list, 0) := by
  have hlen := acts_len list
  have hb : (list.flatMap actT).length ≤ 1048576 := by omega
  have hs : spl 10 (list.flatMap actT) = list.map lineW ++ [[]] := by
    rw [flat_lines list h]
    refine spl_lines _ (fun l hm => ?_)
    obtain ⟨a, ha, rfl⟩ := List.mem_map.1 hm
    exact (rdA_fwd (List.all_eq_true.1 h a ha)).2
  have htr : tr (spl 10 (list.flatMap actT)) = list.map lineW := by
    rw [hs, tr]
    simp
  have hsm := spl_mem (c := 10) (list.flatMap actT)
  have hwl : ∀ w ∈ list.map lineW, w.length ≤ 1048576 ∧ (10 : UInt8) ∉ w := by
    intro w hw
    have := hsm w (by rw [hs]; exact List.mem_append_left _ hw)
    exact ⟨by omega, this.2⟩
  obtain ⟨gs, g1, g2, g3⟩ := lin_spl (list.flatMap actT).length (list.flatMap actT) (Nat.le_refl _) hb
  rw [htr] at g2
  have hseq := seqA gs (list.map lineW) [] g2 (fun i h1 h2 => by
    have hb := hwl _ (List.getElem_mem h2)
    have := g3 i h1 (by rw [htr]; exact h2)
    simp only [htr] at this
    rcases this with e | ⟨_, e⟩
    · rw [e]; exact trim_nl _ hb.1
    · rw [e]; exact trim_no hb.1 hb.2) (fun w hw => (hwl w hw).1) (by simp)
  have hlines : linesL (tb (list.flatMap actT)) = gs := by rw [linesL, tb_size]; exact g1
  simp only [impl_ReadActs, tb_size]
  rw [if_pos (by omega), hlines, hseq, mapO_lines list h]
  simp only [Option.map_some, List.nil_append, seqR, List.length_nil, Nat.zero_add, List.length_map, Option.bind_some]
  rw [if_pos hl]
  have ha : actsT list = tb (list.flatMap actT) := by rw [actsT, if_pos ⟨h, hl⟩]
  simp only [impl_ReadActs.k_29, implActsText_is hin (show list.length ≤ 2000000 by omega), Option.bind_some, ha]
  rw [if_neg (by rw [tlA_ne]; simp)]

end Go.Proofs.YtolfkfjjifdmeaaGreatDoor
