/- A track taken out of a drum and a frame: the program's answer is the reference's. -/
import Derived.Test.YtojndiidhgdjcaaGreatDoorM1
import Derived.Test.YtojndiidhgdjcaaGreatDoorM2
import Derived.Test.YtojndiidhgdjcaaGreatDoorPFrame
import Derived.Test.YtojndiidhgdjcaaGreatDoorPDrum
import Derived.Test.YtojndiidhgdjcaaGreatDoorPCodes
import Derived.Test.YtojndiidhgdjcaaGreatDoorPPlc
import Derived.Test.YtojndiidhgdjcaaGreatDoorPByTr
import Derived.Test.YtojndiidhgdjcaaGreatDoorPPut
import Derived.Test.YtojndiidhgdjcaaGreatDoorPure
namespace Go.Proofs.YtojndiidhgdjcaaGreatDoor
open Eng
set_option linter.unusedVariables false
set_option linter.unusedSimpArgs false

theorem bit_is {t : Nat} (ht : t < 32) : spec_l03Bit (t : Int) = some ((2 ^ t : Nat) : Int) := by
  unfold spec_l03Bit
  rw [u64_in (by omega) (by omega), if_pos (by omega), bShl32_one t ht]
def usesB (d : Arr 96 Int) (t : Nat) : Bool := (List.range 96).any fun s => pin d s t
theorem usesB_iff (d : Arr 96 Int) (t : Nat) : usesB d t = true ↔ ∃ s, pin d s t = true := by
  unfold usesB
  rw [List.any_eq_true]
  constructor
  · rintro ⟨s, _, h⟩; exact ⟨s, h⟩
  · rintro ⟨s, hs⟩
    refine ⟨s, ?_, hs⟩
    have : s < 96 := by
      rcases Nat.lt_or_ge s 96 with h' | h'
      · exact h'
      · unfold pin row' at hs
        rw [List.getElem?_eq_none (by rw [d.2]; exact h')] at hs
        simp at hs
    simpa using this
theorem uses_is {d : Arr 96 Int} (hd : DIn d) {t : Nat} (ht : t < 32) : spec_l03Uses d (t : Int) = some (usesB d t) := by
  have hp := pow_lt32 ht
  have key : ∀ k : Nat, k < 96 → spec_l03Uses.l_3 d (t : Int) (k : Int) = some (if pin d k t = true then .inr (.inl true) else .inl (w64 ((k : Int) + 1))) := by
    intro k hk
    simp only [spec_l03Uses.l_3, ix_row hd hk, Option.bind_some, bit_is ht, bAnd32 _ _ (row_lt hd k) hp]
    rw [if_pos (by simp; omega)]
    unfold pin
    by_cases c : (row' d k).testBit t = true
    · have : row' d k &&& 2 ^ t ≠ 0 := by
        intro e
        have := congrArg (fun z => z.testBit t) e
        simp [Nat.testBit_and, c, Nat.testBit_two_pow] at this
      rw [if_pos c, if_pos (by simp only [bne_iff_ne]; omega)]
    · have : row' d k &&& 2 ^ t = 0 := by
        apply Nat.eq_of_testBit_eq
        intro i
        rw [Nat.testBit_and, Nat.testBit_two_pow, Nat.zero_testBit]
        by_cases e : t = i
        · subst e; simp at c; simp [c]
        · simp [e]
      rw [if_neg c, this]; simp
  cases h : usesB d t with
  | true =>
    obtain ⟨s, hs0, hs⟩ := List.any_eq_true.1 h
    have hs96 : s < 96 := by simpa using hs0
    obtain ⟨r, hr, rfl⟩ := loop_cnt (f := spec_l03Uses.l_3 d (t : Int)) 96 (by omega) (fun k => ∀ i, i < k → pin d i t = false) (fun r => r = .inl true) (fun k hk hi => by
      rw [key k hk]
      by_cases c : pin d k t = true
      · right; rw [if_pos c]; exact ⟨_, rfl, rfl⟩
      · left; rw [if_neg c]; refine ⟨rfl, fun i hik => ?_⟩
        by_cases e : i = k
        · subst e; simpa using c
        · exact hi i (by omega)) (fun hi => by have := hi s hs96; rw [this] at hs; cases hs) (fun i hi => by omega)
    simp only [spec_l03Uses, hr, Option.bind_some]
  | false =>
    have hno : ∀ s, ¬ pin d s t = true := fun s hs => by have := (usesB_iff d t).2 ⟨s, hs⟩; rw [h] at this; cases this
    obtain ⟨r, hr, rfl⟩ := loop_cnt (f := spec_l03Uses.l_3 d (t : Int)) 96 (by omega) (fun _ => True) (fun r => r = .inr ()) (fun k hk _ => by
      rw [key k hk, if_neg (hno k)]; exact .inl ⟨rfl, trivial⟩) (fun _ => ⟨_, by simp [spec_l03Uses.l_3], rfl⟩) trivial
    simp only [spec_l03Uses, hr, Option.bind_some, spec_l03Uses.k_1]
/-- a row without a track -/
def lessR (t x : Nat) : Nat := (x &&& (2 ^ t - 1)) ||| ldif (x >>> 1) (2 ^ t - 1)
theorem lessR_eq {t x : Nat} (h : x.testBit t = false) : (x &&& (2 ^ t - 1)) ||| ((ldif x (x &&& (2 ^ t - 1))) >>> 1) = lessR t x := by
  unfold lessR
  apply Nat.eq_of_testBit_eq
  intro i
  simp only [Nat.testBit_or, Nat.testBit_and, Nat.testBit_shiftRight, ldif_bit, Nat.testBit_two_pow_sub_one]
  by_cases h1 : i < t
  · by_cases h2 : 1 + i < t
    · simp [h1, h2]
    · have : 1 + i = t := by omega
      rw [this, h]; simp [h1]
  · have h2 : ¬ 1 + i < t := by omega
    simp [h1, h2]
theorem lessR_lt {t x : Nat} (hx : x < 4294967296) : lessR t x < 4294967296 := by
  unfold lessR
  refine Nat.or_lt_two_pow (n := 32) (Nat.lt_of_le_of_lt Nat.and_le_left hx) (Nat.lt_of_le_of_lt (ldif_le _ _) (Nat.lt_of_le_of_lt (Nat.shiftRight_le _ _) hx))
/-- the drum whose first k rows are without a track -/
def upD (t : Nat) (d : Arr 96 Int) (k : Nat) : Arr 96 Int := ⟨d.1.mapIdx fun i x => if i < k then ((lessR t x.toNat : Nat) : Int) else x, by rw [List.length_mapIdx, d.2]⟩
theorem upD_ix {d : Arr 96 Int} (hd : DIn d) (t k i : Nat) (hi : i < 96) : ix (upD t d k).1 (i : Int) = some (if i < k then ((lessR t (row' d i) : Nat) : Int) else (row' d i : Int)) := by
  refine ix_get ?_
  unfold upD
  rw [List.getElem?_mapIdx]
  have h := (ix_some (ix_row hd hi)).2.2
  rw [Int.toNat_natCast] at h
  rw [h]; simp
theorem upD_set {d : Arr 96 Int} (hd : DIn d) (t k : Nat) (hk : k < 96) : (upD t d k).set (k : Int) ((lessR t (row' d k) : Nat) : Int) = upD t d (k + 1) := by
  apply Arr.ext
  intro i hi
  rw [Arr.at_set]
  have h1 := upD_ix hd t k i hi
  have h2 := upD_ix hd t (k + 1) i hi
  rw [ix_arr_lt hi] at h1 h2
  rw [Option.some.inj h1, Option.some.inj h2]
  by_cases e : k = i
  · subst e; rw [if_pos rfl, if_pos (by omega)]
  · rw [if_neg e]
    by_cases h3 : i < k
    · rw [if_pos h3, if_pos (by omega)]
    · rw [if_neg h3, if_neg (by omega)]
theorem upD_zero (t : Nat) (d : Arr 96 Int) : upD t d 0 = d := by
  apply Subtype.ext
  apply List.ext_getElem?
  intro i
  simp [upD]
theorem implRows {d : Arr 96 Int} (hd : DIn d) {t : Nat} (ht : t < 32) (hn : ∀ s, pin d s t = false) : loop (impl_WithoutTrack.l_9 d (t : Int)) (d, 0) = some (upD t d 96) := by
  have hp := pow_lt32 ht
  have hp0 : 0 < 2 ^ t := Nat.two_pow_pos t
  have := loop_seq (f := impl_WithoutTrack.l_9 d (t : Int)) 96 (fun k => (upD t d k, (k : Int))) (upD t d 96) (fun k hk => by
    have hx := row_lt hd k
    have e1 : u32 (bShl .u32 1 (t : Int) - 1) = ((2 ^ t - 1 : Nat) : Int) := by
      rw [bShl32_one t ht, u32_in (by omega) (by omega)]; omega
    have hlow : row' d k &&& (2 ^ t - 1) < 4294967296 := Nat.lt_of_le_of_lt Nat.and_le_left hx
    have e2 : bOr .u32 (bAnd .u32 (row' d k : Int) (u32 (bShl .u32 1 (t : Int) - 1))) (bShr .u32 (bClr .u32 (row' d k : Int) (bAnd .u32 (row' d k : Int) (u32 (bShl .u32 1 (t : Int) - 1)))) 1) = ((lessR t (row' d k) : Nat) : Int) := by
      rw [e1, bAnd32 _ _ hx (by omega), bClr32 _ _ hx hlow, show (1 : Int) = ((1 : Nat) : Int) from rfl, bShr_nat .u32 _ 1 (by decide), bOr32 _ _ hlow (Nat.lt_of_le_of_lt (Nat.shiftRight_le _ _) (Nat.lt_of_le_of_lt (ldif_le _ _) hx)), lessR_eq (hn k)]
    simp only [impl_WithoutTrack.l_9, ix_row hd hk, Option.bind_some, upD_ix hd t k k hk]
    rw [if_pos (by simp; omega), if_pos (by omega), e2, upD_set hd t k hk, w64_in (by omega) (by omega)]
    rfl) (by simp [impl_WithoutTrack.l_9])
  rwa [upD_zero] at this
theorem specRows {d : Arr 96 Int} (hd : DIn d) {t : Nat} (ht : t < 32) : loop (spec_WithoutTrack.l_9 ((2 ^ t : Nat) : Int)) (d, 0) = some (upD t d 96) := by
  have hp := pow_lt32 ht
  have hp0 : 0 < 2 ^ t := Nat.two_pow_pos t
  have := loop_seq (f := spec_WithoutTrack.l_9 ((2 ^ t : Nat) : Int)) 96 (fun k => (upD t d k, (k : Int))) (upD t d 96) (fun k hk => by
    have hx := row_lt hd k
    have e1 : u32 (((2 ^ t : Nat) : Int) - 1) = ((2 ^ t - 1 : Nat) : Int) := by rw [u32_in (by omega) (by omega)]; omega
    have hlow : row' d k &&& (2 ^ t - 1) < 4294967296 := Nat.lt_of_le_of_lt Nat.and_le_left hx
    have hsh : row' d k >>> 1 < 4294967296 := Nat.lt_of_le_of_lt (Nat.shiftRight_le _ _) hx
    have e2 : bOr .u32 (bAnd .u32 (row' d k : Int) (u32 (((2 ^ t : Nat) : Int) - 1))) (bClr .u32 (bShr .u32 (row' d k : Int) 1) (u32 (((2 ^ t : Nat) : Int) - 1))) = ((lessR t (row' d k) : Nat) : Int) := by
      rw [e1, bAnd32 _ _ hx (by omega), show (1 : Int) = ((1 : Nat) : Int) from rfl, bShr_nat .u32 _ 1 (by decide), bClr32 _ _ hsh (by omega), bOr32 _ _ hlow (Nat.lt_of_le_of_lt (ldif_le _ _) hsh)]
      rfl
    have e3 : ix (upD t d k).1 (k : Int) = some (row' d k : Int) := by rw [upD_ix hd t k k hk, if_neg (by omega)]
    simp only [spec_WithoutTrack.l_9, Option.bind_some, e3]
    rw [if_pos (by simp; omega), e2, upD_set hd t k hk, w64_in (by omega) (by omega)]
    rfl) (by simp [spec_WithoutTrack.l_9])
  rwa [upD_zero] at this
def lessF (f : GFrame) (t : Nat) : GFrame := ⟨f.fSteps, f.fHammers.take t ++ f.fHammers.drop (t + 1)⟩
theorem less_is {f : GFrame} (hf : FOk f) {t : Nat} (ht : t < f.fHammers.length) : spec_l03Less f (t : Int) = some (lessF f t) := by
  have h1 := hf.h1
  have e : w64 ((t : Int) + 1) = ((t + 1 : Nat) : Int) := by rw [w64_in (by omega) (by omega)]; omega
  simp only [spec_l03Less, e, Int.toNat_natCast, List.nil_append, List.length_nil]
  rw [if_pos (by omega), if_pos (by omega), if_pos (by simp only [List.length_take]; omega), if_pos (by simp only [List.length_take, List.length_drop]; omega)]
  rfl
theorem without_is {f : GFrame} (hf : FOk f) {t : Nat} (ht : t < f.fHammers.length) : impl_Frame_without f (t : Int) = some (lessF f t) := by
  have h1 := hf.h1
  have e : w64 ((t : Int) + 1) = ((t + 1 : Nat) : Int) := by rw [w64_in (by omega) (by omega)]; omega
  have ec : slices_Clone_Hammer f.fHammers = some f.fHammers := by
    simp only [slices_Clone_Hammer, List.nil_append, List.length_nil]
    rw [if_pos (by omega)]
  simp only [impl_Frame_without, ec, e, Option.bind_some, slices_Delete_Hammer, Int.toNat_natCast]
  rw [if_pos (by omega), if_neg (by simp; omega), if_pos (by omega), if_pos (by omega), if_pos (by simp only [List.length_drop]; omega)]
  rfl

end Go.Proofs.YtojndiidhgdjcaaGreatDoor
