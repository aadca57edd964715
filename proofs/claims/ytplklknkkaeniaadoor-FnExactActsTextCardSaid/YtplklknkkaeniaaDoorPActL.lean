/- The text of acts: the program's is the reference's. -/
import Derived.Test.YtplklknkkaeniaaDoorM0
import Derived.Test.YtplklknkkaeniaaDoorPFrame
import Derived.Test.YtplklknkkaeniaaDoorPDrum
import Derived.Test.YtplklknkkaeniaaDoorPTxt
import Derived.Test.YtplklknkkaeniaaDoorPure
namespace Go.Proofs.YtplklknkkaeniaaDoor
open Eng
set_option linter.unusedVariables false
set_option linter.unusedSimpArgs false

def bI (l : List UInt8) : List Int := l.map fun b => ((b.toNat : Nat) : Int)
theorem bytesI_tb (l : List UInt8) : bytesI (tb l) = bI l := by simp [bytesI, bI, tb]
theorem bI_app (a b : List UInt8) : bI a ++ bI b = bI (a ++ b) := by simp [bI]
theorem bI_len (a : List UInt8) : (bI a).length = a.length := by simp [bI]
theorem textI_bI (l : List UInt8) : textI (bI l) = tb l := by
  unfold textI bI tb
  rw [List.map_map]
  congr 1
  congr 1
  conv => rhs; rw [← List.map_id l]
  refine List.map_congr_left fun x _ => ?_
  simp
theorem strF_bI (l : List UInt8) : strF (bI l) = some (tb l) := by
  unfold strF
  rw [textI_bI, bytesI_tb, if_pos rfl]
def wordK (k : Int) : List UInt8 := if k = 0 then [116, 117, 114, 110] else if k = 1 then [104, 97, 109, 109, 101, 114] else if k = 2 then [112, 105, 110] else [109, 111, 118, 101]
def usedK (k : Int) : Nat := if k = 0 then 1 else if k = 1 then 1 else if k = 2 then 2 else 4
def numOk (u i : Nat) (n : Int) : Bool := (decide (0 ≤ n) && decide (n ≤ 1000000)) && (decide (i < u) || n == 0)
def toldB (a : GAct) : Bool := (decide (0 ≤ a.fKind) && decide (a.fKind ≤ 3)) && (numOk (usedK a.fKind) 0 a.fA && (numOk (usedK a.fKind) 1 a.fB && (numOk (usedK a.fKind) 2 a.fC && numOk (usedK a.fKind) 3 a.fD)))
def piece (u i : Nat) (n : Int) : List UInt8 := if i < u then 32 :: Lib.itoa n else []
def actL (a : GAct) : List UInt8 := ((((wordK a.fKind ++ piece (usedK a.fKind) 0 a.fA) ++ piece (usedK a.fKind) 1 a.fB) ++ piece (usedK a.fKind) 2 a.fC) ++ piece (usedK a.fKind) 3 a.fD) ++ [10]
def actT (a : GAct) : List UInt8 := if toldB a = true then actL a else []
theorem kind4 {k : Int} (h : (decide (0 ≤ k) && decide (k ≤ 3)) = true) : k = 0 ∨ k = 1 ∨ k = 2 ∨ k = 3 := by
  simp only [Bool.and_eq_true, decide_eq_true_eq] at h; omega
theorem numOk_in {u i : Nat} {n : Int} (h : numOk u i n = true) : 0 ≤ n ∧ n ≤ 1000000 := by
  simp only [numOk, Bool.and_eq_true, decide_eq_true_eq] at h; exact h.1
theorem itoa_small {n : Int} (h0 : 0 ≤ n) (h1 : n ≤ 1000000) : (Lib.itoa n).length ≤ 7 := by
  unfold Lib.itoa
  rw [if_neg (by omega)]
  exact dd_len 6 n.toNat (by rw [show 10 ^ (6 + 1) = 10000000 by decide]; omega)
theorem itoa_dec {n : Int} (h0 : 0 ≤ n) : Lib.itoa n = Lib.decDigits n.toNat := by
  unfold Lib.itoa
  rw [if_neg (by omega)]
theorem piece_len {u i j : Nat} {n : Int} (h : numOk j i n = true) : (piece u i n).length ≤ 8 := by
  obtain ⟨a, b⟩ := numOk_in h
  unfold piece
  split
  · have := itoa_small a b
    simp; omega
  · simp
theorem wordK_len (k : Int) : (wordK k).length ≤ 6 := by unfold wordK; repeat' split
                                                         all_goals simp
theorem actT_len (a : GAct) : (actT a).length ≤ 39 := by
  unfold actT
  split
  · rename_i h
    simp only [toldB, Bool.and_eq_true] at h
    obtain ⟨_, h0, h1, h2, h3⟩ := h
    have := piece_len (u := usedK a.fKind) h0
    have := piece_len (u := usedK a.fKind) h1
    have := piece_len (u := usedK a.fKind) h2
    have := piece_len (u := usedK a.fKind) h3
    have := wordK_len a.fKind
    simp only [actL, List.length_append, List.length_cons, List.length_nil]
    omega
  · simp
theorem acts_len (l : List GAct) : (l.flatMap actT).length ≤ l.length * 39 := by
  induction l with
  | nil => simp
  | cons a l ih =>
    have := actT_len a
    rw [List.flatMap_cons, List.length_append, List.length_cons, Nat.succ_mul]
    omega
/-! ### the reference -/
theorem words_is {k : Int} (h : (decide (0 ≤ k) && decide (k ≤ 3)) = true) : spec_l06Words k = some (tb (wordK k), (usedK k : Int)) := by
  rcases kind4 h with rfl | rfl | rfl | rfl <;> rfl
theorem words_no {k : Int} (h : ¬ ((decide (0 ≤ k) && decide (k ≤ 3)) = true)) : spec_l06Words k = some (tb [], 0) := by
  simp only [spec_l06Words, spec_l00In, Option.bind_some]
  rw [if_pos (by rw [Bool.not_eq_true']; exact Bool.eq_false_iff.2 h)]
  rfl
def num4 (x : GAct) (i : Nat) : Int := if i = 0 then x.fA else if i = 1 then x.fB else if i = 2 then x.fC else x.fD
theorem arr4 (x : GAct) (i : Nat) (h : i < 4) : ix (Arr.set (Arr.set (Arr.set (Arr.set (Arr.rep 4 0) 0 x.fA) 1 x.fB) 2 x.fC) 3 x.fD).1 (i : Int) = some (num4 x i) := by
  have : i = 0 ∨ i = 1 ∨ i = 2 ∨ i = 3 := by omega
  rcases this with rfl | rfl | rfl | rfl <;> rfl
theorem specRound (x : GAct) (u i : Nat) (w : ByteArray) (s : List UInt8) (hi : i < 4) (hs : s.length ≤ 9000000000000000000) :
    spec_l06Text.l_17 (w, (u : Int)) x x x x (tb s, (i : Int)) = some (if numOk u i (num4 x i) = true then .inl (tb (s ++ piece u i (num4 x i)), ((i + 1 : Nat) : Int)) else .inr (.inl (tb [], false))) := by
  have e3 : (ByteArray.mk #[32]) = tb [32] := rfl
  have key : ∀ q : Bool, (q = true → numOk u i (num4 x i) = false) → (q = false → numOk u i (num4 x i) = true) → spec_l06Text.k_20 (w, (u : Int)) x x x x (tb s) (i : Int) q = some (if numOk u i (num4 x i) = true then .inl (tb (s ++ piece u i (num4 x i)), ((i + 1 : Nat) : Int)) else .inr (.inl (tb [], false))) := by
    intro q h1 h2
    simp only [spec_l06Text.k_20]
    cases q with
    | true => rw [if_pos rfl, h1 rfl]; rfl
    | false =>
      have hk := h2 rfl
      obtain ⟨n0, n1⟩ := numOk_in hk
      rw [if_neg (by simp), if_pos hk, w64_in (by omega) (by omega)]
      by_cases c : i < u
      · rw [if_pos (by simpa using c), arr4 x i hi, Option.bind_some, decimal_is n0 (by omega), Option.bind_some, e3]
        have hl := decDigits_len (n := (num4 x i).toNat) (by omega)
        simp only [tb_size, tb_app]
        rw [if_pos (by simp; omega), if_pos (by simp; omega)]
        simp [piece, c, itoa_dec n0]
      · rw [if_neg (by simpa using c)]
        simp [piece, c]
  simp only [spec_l06Text.l_17, arr4 x i hi, Option.bind_some, spec_l06Turns, spec_l00In]
  rw [if_pos (by simp; omega)]
  by_cases c : i < u
  · rw [if_pos (by simpa using c)]
    have hge : (decide ((i : Int) ≥ (u : Int))) = false := by simpa using c
    rw [hge]
    by_cases m : (decide (num4 x i ≥ 0) && decide (num4 x i ≤ 1000000)) = true
    · rw [if_neg (by rw [m]; simp), if_neg (by simp)]
      refine key false (fun h => by cases h) (fun _ => ?_)
      simp only [ge_iff_le] at m
      simp [numOk, m, c]
    · rw [if_pos (by rw [Bool.not_eq_true']; exact Bool.eq_false_iff.2 m)]
      refine key true (fun _ => ?_) (fun h => by cases h)
      simp only [ge_iff_le, Bool.not_eq_true] at m
      simp [numOk, m]
  · rw [if_neg (by simpa using c)]
    have hge : (decide ((i : Int) ≥ (u : Int))) = true := by simp; omega
    rw [hge, if_pos rfl]
    refine key _ (fun h => ?_) (fun h => ?_)
    · simp only [bne_iff_ne] at h
      simp [numOk, c, h]
    · simp only [bne_eq_false_iff_eq] at h
      simp [numOk, c, h]
def ActIn (x : GAct) : Prop := -128 ≤ x.fKind ∧ x.fKind ≤ 127
theorem specActs {list : List GAct} (hin : ∀ x ∈ list, ActIn x) (hl : list.length ≤ 2000000) : spec_l06Text list = some (if list.all toldB = true then (tb (list.flatMap actT), decide (list.length ≤ 60)) else (tb [], false)) := by
  have e3 : (ByteArray.mk #[10]) = tb [10] := rfl
  have e0 : (ByteArray.mk #[]) = tb [] := rfl
  obtain ⟨k, t, hk, hp, hno, hL⟩ := loop_upto (f := spec_l06Text.l_5 list) list.length (fun k => (tb ((list.take k).flatMap actT), (k : Int)))
    (fun k => if h : k < list.length then (if toldB list[k] = true then none else some (.inl (tb [], false))) else some (.inr (tb (list.flatMap actT))))
    ⟨list.length, Nat.le_refl _, by simp⟩ (fun k hk => by
      by_cases hlt : k < list.length
      · simp only [dif_pos hlt]
        have hlen := acts_len (list.take k)
        rw [List.length_take] at hlen
        have hlen2 : ((list.take k).flatMap actT).length ≤ 100000000 := by
          refine Nat.le_trans hlen ?_
          have : min k list.length ≤ 2000000 := by omega
          omega
        generalize hS : (list.take k).flatMap actT = S at hlen2 ⊢
        have htk : (list.take (k + 1)).flatMap actT = S ++ actT list[k] := by
          rw [List.take_succ_eq_append_getElem hlt, List.flatMap_append, hS]; simp
        rw [htk]
        simp only [spec_l06Text.l_5, ix_lt hlt, Option.bind_some]
        rw [if_pos (by simpa using hlt)]
        have hxi := hin _ (List.getElem_mem hlt)
        generalize list[k] = x at hxi ⊢
        obtain ⟨hx0, hx1⟩ := hxi
        by_cases hkd : (decide (0 ≤ x.fKind) && decide (x.fKind ≤ 3)) = true
        · have hk4 := kind4 hkd
          rw [w64_in (n := x.fKind) (by omega) (by omega), words_is hkd]
          simp only [Option.bind_some, tb_size, tb_list, tb_app, e0]
          have hw := wordK_len x.fKind
          rw [if_neg (by
            intro h
            have h := beq_iff_eq.1 h
            rcases hk4 with h4 | h4 | h4 | h4 <;> rw [h4] at h <;> exact absurd h (by decide)), if_pos (by omega)]
          have r0 := specRound x (usedK x.fKind) 0 (tb (wordK x.fKind)) (S ++ wordK x.fKind) (by omega) (by simp; omega)
          rw [loop_eq]
          rw [show ((0 : Nat) : Int) = 0 from rfl] at r0
          erw [r0]
          by_cases o0 : ¬ numOk (usedK x.fKind) 0 (num4 x 0) = true
          · have ht : ¬ toldB x = true := by
              intro h; simp only [toldB, Bool.and_eq_true] at h; exact o0 h.2.1
            simp [o0, ht]
          have o0 := Classical.not_not.1 o0
          have l0 := piece_len (u := usedK x.fKind) o0
          rw [if_pos o0]
          simp only []
          rw [loop_eq, specRound x (usedK x.fKind) 1 (tb (wordK x.fKind)) _ (by omega) (by simp only [List.length_append]; omega)]
          by_cases o1 : ¬ numOk (usedK x.fKind) 1 (num4 x 1) = true
          · have ht : ¬ toldB x = true := by
              intro h; simp only [toldB, Bool.and_eq_true] at h; exact o1 h.2.2.1
            simp [o1, ht]
          have o1 := Classical.not_not.1 o1
          have l1 := piece_len (u := usedK x.fKind) o1
          rw [if_pos o1]
          simp only []
          rw [loop_eq, specRound x (usedK x.fKind) 2 (tb (wordK x.fKind)) _ (by omega) (by simp only [List.length_append]; omega)]
          by_cases o2 : ¬ numOk (usedK x.fKind) 2 (num4 x 2) = true
          · have ht : ¬ toldB x = true := by
              intro h; simp only [toldB, Bool.and_eq_true] at h; exact o2 h.2.2.2.1
            simp [o2, ht]
          have o2 := Classical.not_not.1 o2
          have l2 := piece_len (u := usedK x.fKind) o2
          rw [if_pos o2]
          simp only []
          rw [loop_eq, specRound x (usedK x.fKind) 3 (tb (wordK x.fKind)) _ (by omega) (by simp only [List.length_append]; omega)]
          by_cases o3 : ¬ numOk (usedK x.fKind) 3 (num4 x 3) = true
          · have ht : ¬ toldB x = true := by
              intro h; simp only [toldB, Bool.and_eq_true] at h; exact o3 h.2.2.2.2
            simp [o3, ht]
          have o3 := Classical.not_not.1 o3
          have l3 := piece_len (u := usedK x.fKind) o3
          rw [if_pos o3]
          simp only []
          have ht : toldB x = true := by
            simp only [toldB, hkd, Bool.true_and, Bool.and_eq_true]
            exact ⟨o0, o1, o2, o3⟩
          rw [loop_eq]
          simp only [spec_l06Text.l_17]
          rw [if_neg (by simp)]
          simp only [Option.bind_some, spec_l06Text.k_14, e3, tb_size, tb_app]
          rw [if_pos (by simp only [List.length_append, List.length_cons, List.length_nil]; omega), if_pos ht, w64_in (n := (k : Int) + 1) (by omega) (by omega)]
          simp only [actT, ht, if_true, actL]
          simp [num4, List.append_assoc]
        · have ht : ¬ toldB x = true := by
            intro h; simp only [toldB, Bool.and_eq_true] at h
            exact hkd (by simp only [Bool.and_eq_true]; exact h.1)
          rw [w64_in (n := x.fKind) (by omega) (by omega), words_no hkd]
          simp only [Option.bind_some, tb_list, e0]
          rw [if_pos (by simp), if_neg ht]
      · obtain rfl : k = list.length := by omega
        simp only [spec_l06Text.l_5, List.take_length]
        rw [if_neg (by simp), dif_neg (by omega)])
  have hL' : loop (spec_l06Text.l_5 list) (ByteArray.mk #[], 0) = some t := hL
  simp only [spec_l06Text, hL', Option.bind_some]
  by_cases hall : list.all toldB = true
  · rw [if_pos hall]
    by_cases hlt : k < list.length
    · rw [dif_pos hlt, if_pos (List.all_eq_true.1 hall _ (List.getElem_mem hlt))] at hp
      cases hp
    · rw [dif_neg hlt] at hp
      cases hp
      simp only [spec_l06Text.k_2]
      congr 2
      simp
      omega
  · rw [if_neg hall]
    by_cases hlt : k < list.length
    · rw [dif_pos hlt] at hp
      split at hp
      · cases hp
      · cases hp; rfl
    · exfalso
      apply hall
      rw [List.all_eq_true]
      intro x hx
      obtain ⟨i, hi, rfl⟩ := List.getElem_of_mem hx
      have := hno i (by omega)
      rw [dif_pos hi] at this
      split at this
      · assumption
      · cases this
/-! ### the program -/
theorem isMade_is (n : Int) : impl_isMade n = some (decide (0 ≤ n) && decide (n ≤ 1000000)) := rfl
theorem used_ix {k : Int} (h : (decide (0 ≤ k) && decide (k ≤ 3)) = true) : ix ([1, 1, 2, 4] : List Int) k = some (usedK k : Int) := by
  rcases kind4 h with rfl | rfl | rfl | rfl <;> rfl
theorem word_ix {k : Int} (h : (decide (0 ≤ k) && decide (k ≤ 3)) = true) : ix ([(ByteArray.mk #[116, 117, 114, 110]), (ByteArray.mk #[104, 97, 109, 109, 101, 114]), (ByteArray.mk #[112, 105, 110]), (ByteArray.mk #[109, 111, 118, 101])] : List ByteArray) k = some (tb (wordK k)) := by
  rcases kind4 h with rfl | rfl | rfl | rfl <;> rfl
theorem num_ix (x : GAct) (i : Nat) (h : i < 4) : ix ([x.fA, x.fB, x.fC, x.fD] : List Int) (i : Int) = some (num4 x i) := by
  have : i = 0 ∨ i = 1 ∨ i = 2 ∨ i = 3 := by omega
  rcases this with rfl | rfl | rfl | rfl <;> rfl
theorem told_all (x : GAct) : toldB x = ((decide (0 ≤ x.fKind) && decide (x.fKind ≤ 3)) && (List.range 4).all fun i => numOk (usedK x.fKind) i (num4 x i)) := by
  simp [toldB, List.range_succ, num4, Bool.and_assoc]
theorem isTold_is {x : GAct} (h : ActIn x) : impl_Act_isTold x = some (toldB x) := by
  obtain ⟨h0, h1⟩ := h
  simp only [impl_Act_isTold, impl_within, w64_in (n := x.fKind) (by omega) (by omega), Option.bind_some, impl_Act_numbers]
  rw [told_all]
  by_cases hk : (decide (0 ≤ x.fKind) && decide (x.fKind ≤ 3)) = true
  · rw [hk, if_neg (by simp), loop_allN 4 (fun i => numOk (usedK x.fKind) i (num4 x i)) (by omega) (fun i hi => by
      simp only [impl_Act_isTold.l_5, num_ix x i hi, Option.bind_some, isMade_is, impl_usedBy, used_ix hk]
      rw [if_pos (by simp; omega)]
      by_cases m : (decide (0 ≤ num4 x i) && decide (num4 x i ≤ 1000000)) = true
      · rw [if_neg (by rw [m]; simp)]
        simp only [impl_Act_isTold.k_9, numOk, m, Bool.true_and]
        by_cases c : i < usedK x.fKind
        · rw [if_neg (by simp; omega), if_pos (by simp [c])]
        · by_cases z : num4 x i = 0
          · rw [if_neg (by simp [z]), if_pos (by simp [z])]
          · rw [if_pos (by simp [z]; omega), if_neg (by simp [z, c])]
      · rw [if_pos (by rw [Bool.not_eq_true']; exact Bool.eq_false_iff.2 m)]
        simp only [Bool.not_eq_true] at m
        simp only [impl_Act_isTold.k_9, numOk, m, Bool.false_and]
        simp) (by simp [impl_Act_isTold.l_5])]
    cases (List.range 4).all fun i => numOk (usedK x.fKind) i (num4 x i) <;> rfl
  · simp only [Bool.not_eq_true] at hk
    rw [hk, if_pos (by simp)]
    rfl
theorem contains_told (a : List GAct) (hin : ∀ x ∈ a, ActIn x) (h : a.length ≤ 9223372036854775807) : slices_ContainsFunc_Act_at_impl_ActsText_1 a = some (!(a.all toldB)) := by
  obtain ⟨t, ht, hq⟩ := loop_find (f := slices_IndexFunc_Act_at_impl_ActsText_1.l_3 a) a (fun x => !(toldB x)) (by omega) (fun k hk => by
    simp only [slices_IndexFunc_Act_at_impl_ActsText_1.l_3, ix_lt hk, Option.bind_some, impl_ActsText_1, isTold_is (hin _ (List.getElem_mem hk))]
    rw [if_pos (by simpa using hk)]
    by_cases he : toldB a[k] = true <;> simp [he]) (by simp [slices_IndexFunc_Act_at_impl_ActsText_1.l_3])
  simp only [slices_ContainsFunc_Act_at_impl_ActsText_1, slices_IndexFunc_Act_at_impl_ActsText_1, ht, Option.bind_some]
  rcases hq with ⟨hany, k, rfl, _⟩ | ⟨hany, rfl⟩
  · rw [any_not] at hany
    rw [hany]; simp
  · rw [any_not] at hany
    rw [hany]; simp [slices_IndexFunc_Act_at_impl_ActsText_1.k_1]
theorem dec_small {n : Int} (h0 : 0 ≤ n) (h1 : n ≤ 1000000) : impl_decimal n = some (tb (Lib.itoa n)) := implDecimal_is (by omega) (by omega)
/-- the numbers of an act as they are written -/
def numsL (x : GAct) (m : Nat) : List UInt8 := (List.range m).flatMap fun i => 32 :: Lib.itoa (num4 x i)
theorem numsL_act {x : GAct} (h : toldB x = true) : wordK x.fKind ++ numsL x (usedK x.fKind) ++ [10] = actL x := by
  have hk : (decide (0 ≤ x.fKind) && decide (x.fKind ≤ 3)) = true := by
    simp only [toldB, Bool.and_eq_true] at h
    simp only [Bool.and_eq_true]; exact h.1
  unfold actL
  rcases kind4 hk with h4 | h4 | h4 | h4 <;> rw [h4] <;> simp [numsL, usedK, piece, List.range_succ, num4]
theorem implNums {x : GAct} (h : toldB x = true) (S : List UInt8) (hS : S.length ≤ 100000000) (u : Int) (hu : u = (usedK x.fKind : Int)) :
    loop (impl_ActsText.l_20 [x.fA, x.fB, x.fC, x.fD] u) (bI S, 0) = some (bI (S ++ numsL x (usedK x.fKind))) := by
  have e3 : (ByteArray.mk #[32]) = tb [32] := rfl
  have hk : (decide (0 ≤ x.fKind) && decide (x.fKind ≤ 3)) = true := by
    simp only [toldB, Bool.and_eq_true] at h
    simp only [Bool.and_eq_true]; exact h.1
  have hu4 : usedK x.fKind ≤ 4 := by rcases kind4 hk with h4 | h4 | h4 | h4 <;> rw [h4] <;> decide
  have hnum : ∀ i, i < 4 → 0 ≤ num4 x i ∧ num4 x i ≤ 1000000 := by
    intro i hi
    rw [told_all, Bool.and_eq_true, List.all_eq_true] at h
    exact numOk_in (h.2 i (by simpa using hi))
  subst hu
  have := loop_seq (f := impl_ActsText.l_20 [x.fA, x.fB, x.fC, x.fD] (usedK x.fKind : Int)) (usedK x.fKind) (fun m => (bI (S ++ numsL x m), (m : Int))) (bI (S ++ numsL x (usedK x.fKind))) (fun m hm => by
    have hlen : (numsL x m).length ≤ m * 8 := by
      unfold numsL
      refine app_len m 8 _ (fun i hi => ?_)
      obtain ⟨a, b⟩ := hnum i (by omega)
      have := itoa_small a b
      simp; omega
    obtain ⟨a, b⟩ := hnum m (by omega)
    have hi := itoa_small a b
    have hix : ix ([x.fA, x.fB, x.fC, x.fD].take (usedK x.fKind : Int).toNat) (m : Int) = some (num4 x m) := by
      have h1 := num_ix x m (by omega)
      unfold ix at h1 ⊢
      rw [if_pos (by omega)] at h1 ⊢
      rw [Int.toNat_natCast, Int.toNat_natCast] at *
      rw [List.getElem?_take_of_lt hm]
      exact h1
    have hs : numsL x (m + 1) = numsL x m ++ (32 :: Lib.itoa (num4 x m)) := by
      unfold numsL
      rw [List.range_succ, List.flatMap_append]; simp
    simp only [impl_ActsText.l_20, hix, Option.bind_some, dec_small a b, e3, tb_size, tb_app, bytesI_tb, bI_app]
    rw [if_pos (by simp; omega), if_pos (by simp; omega), if_pos (by
      rw [bI_len]
      simp only [List.length_append, List.length_cons, List.length_nil]
      omega), w64_in (n := (m : Int) + 1) (by omega) (by omega), hs]
    simp) (by
    simp only [impl_ActsText.l_20]
    rw [if_neg (by simp)])
  simpa [numsL] using this
theorem implActs {list : List GAct} (hin : ∀ x ∈ list, ActIn x) (ht : list.all toldB = true) (hl : list.length ≤ 60) : loop (impl_ActsText.l_8 list) ([], 0) = some (bI (list.flatMap actT)) := by
  have e3 : (ByteArray.mk #[10]) = tb [10] := rfl
  exact loop_seq (f := impl_ActsText.l_8 list) list.length (fun k => (bI ((list.take k).flatMap actT), (k : Int))) (bI (list.flatMap actT)) (fun k hlt => by
    have hlen := acts_len (list.take k)
    rw [List.length_take] at hlen
    have hlen2 : ((list.take k).flatMap actT).length ≤ 10000 := by
      refine Nat.le_trans hlen ?_
      have : min k list.length ≤ 60 := by omega
      omega
    generalize hS : (list.take k).flatMap actT = S at hlen2 ⊢
    have htk : (list.take (k + 1)).flatMap actT = S ++ actT list[k] := by
      rw [List.take_succ_eq_append_getElem hlt, List.flatMap_append, hS]; simp
    rw [htk]
    have hx := List.all_eq_true.1 ht _ (List.getElem_mem hlt)
    simp only [impl_ActsText.l_8, ix_lt hlt, Option.bind_some]
    rw [if_pos (by simpa using hlt)]
    generalize list[k] = x at hx ⊢
    have hk : (decide (0 ≤ x.fKind) && decide (x.fKind ≤ 3)) = true := by
      simp only [toldB, Bool.and_eq_true] at hx
      simp only [Bool.and_eq_true]; exact hx.1
    have hw := wordK_len x.fKind
    have hu4 : usedK x.fKind ≤ 4 := by rcases kind4 hk with h4 | h4 | h4 | h4 <;> rw [h4] <;> decide
    simp only [impl_actWords, Option.bind_some, word_ix hk, impl_Act_numbers, impl_usedBy, used_ix hk, tb_size, bytesI_tb, bI_app]
    rw [if_pos (by rw [bI_len]; omega), if_pos (by simp; omega), implNums hx _ (by rw [List.length_append]; omega) _ rfl]
    have hn := actT_len x
    simp only [actT, hx, if_true, ← numsL_act hx, List.length_append, List.length_cons, List.length_nil] at hn
    simp only [Option.bind_some, impl_ActsText.k_17, e3, tb_size, bytesI_tb, bI_app]
    rw [if_pos (by rw [bI_len]; simp only [List.length_append, List.length_cons, List.length_nil]; omega), w64_in (n := (k : Int) + 1) (by omega) (by omega)]
    simp only [actT, hx, if_true, ← numsL_act hx, List.append_assoc]
    rfl) (by
    simp only [impl_ActsText.l_8]
    rw [if_neg (by simp), List.take_length])
def actsT (list : List GAct) : ByteArray := if list.all toldB = true ∧ list.length ≤ 60 then tb (list.flatMap actT) else tb []
theorem implActsText_is {list : List GAct} (hin : ∀ x ∈ list, ActIn x) (hl : list.length ≤ 2000000) : impl_ActsText list = some (actsT list) := by
  simp only [impl_ActsText, actsT]
  by_cases c1 : list.length ≤ 60
  · rw [if_neg (by simp; omega), contains_told list hin (by omega)]
    simp only [Option.bind_some, impl_ActsText.k_2]
    by_cases c2 : list.all toldB = true
    · rw [if_neg (by simp [c2]), implActs hin c2 c1, if_pos ⟨c2, c1⟩]
      simp only [Option.bind_some, impl_ActsText.k_4, strF_bI]
    · rw [if_pos (by simpa using c2), if_neg (fun h => c2 h.1)]
      rfl
  · rw [if_pos (by simp; omega), if_neg (fun h => c1 h.2)]
    simp only [impl_ActsText.k_2]
    rw [if_pos trivial]
    rfl
theorem specActsText_is {list : List GAct} (hin : ∀ x ∈ list, ActIn x) (hl : list.length ≤ 2000000) : spec_ActsText list = some (actsT list) := by
  simp only [spec_ActsText, specActs hin hl, Option.bind_some, actsT]
  by_cases c2 : list.all toldB = true
  · rw [if_pos c2]
    by_cases c1 : list.length ≤ 60
    · rw [if_neg (by simp [c1]), if_pos ⟨c2, c1⟩]
    · rw [if_pos (by simp; omega), if_neg (fun h => c1 h.2)]
      rfl
  · rw [if_neg c2, if_pos (by simp), if_neg (fun h => c2 h.1)]
    rfl

end Go.Proofs.YtplklknkkaeniaaDoor
