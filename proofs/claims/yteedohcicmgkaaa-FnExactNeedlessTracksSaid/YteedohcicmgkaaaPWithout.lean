/- A track taken out of a drum and a frame: the program's answer is the reference's. -/
import Derived.Test.YteedohcicmgkaaaM0
import Derived.Test.YteedohcicmgkaaaPFrame
import Derived.Test.YteedohcicmgkaaaPDrum
import Derived.Test.YteedohcicmgkaaaPCodes
import Derived.Test.YteedohcicmgkaaaPPlc
import Derived.Test.YteedohcicmgkaaaPByTr
import Derived.Test.YteedohcicmgkaaaPPut
import Derived.Test.YteedohcicmgkaaaPure
namespace Go.Proofs.Yteedohcicmgkaaa
open Eng
set_option linter.unusedVariables false
set_option linter.unusedSimpArgs false

theorem bit_is {t : Nat} (ht : t < 32) : spec_l03Bit (t : Int) = some ((2 ^ t : Nat) : Int) := by
  unfold spec_l03Bit
  rw [u64_in (by omega) (by omega), if_pos (by omega), bShl32_one t ht]
def usesB (d : Arr 96 Int) (t : Nat) : Bool := (List.range 96).any fun s => pin d s t
theorem usesB_iff (d : Arr 96 Int) (t : Nat) : usesB d t = true ↔ ∃ s, pin d s t = true := by
  unfold usesB
  rw [List.any_eq_true]
  constructor
  · rintro ⟨s, _, h⟩; exact ⟨s, h⟩
  · rintro ⟨s, hs⟩
    refine ⟨s, ?_, hs⟩
    have : s < 96 := by
      rcases Nat.lt_or_ge s 96 with h' | h'
      · exact h'
      · unfold pin row' at hs
        rw [List.getElem?_eq_none (by rw [d.2]; exact h')] at hs
        simp at hs
    simpa using this
/-- a row without a track -/
def lessR (t x : Nat) : Nat := (x &&& (2 ^ t - 1)) ||| ldif (x >>> 1) (2 ^ t - 1)
theorem lessR_eq {t x : Nat} (h : x.testBit t = false) : (x &&& (2 ^ t - 1)) ||| ((ldif x (x &&& (2 ^ t - 1))) >>> 1) = lessR t x := by
  unfold lessR
  apply Nat.eq_of_testBit_eq
  intro i
  simp only [Nat.testBit_or, Nat.testBit_and, Nat.testBit_shiftRight, ldif_bit, Nat.testBit_two_pow_sub_one]
  by_cases h1 : i < t
  · by_cases h2 : 1 + i < t
    · simp [h1, h2]
    · have : 1 + i = t := by omega
      rw [this, h]; simp [h1]
  · have h2 : ¬ 1 + i < t := by omega
    simp [h1, h2]
theorem lessR_lt {t x : Nat} (hx : x < 4294967296) : lessR t x < 4294967296 := by
  unfold lessR
  refine Nat.or_lt_two_pow (n := 32) (Nat.lt_of_le_of_lt Nat.and_le_left hx) (Nat.lt_of_le_of_lt (ldif_le _ _) (Nat.lt_of_le_of_lt (Nat.shiftRight_le _ _) hx))
/-- the drum whose first k rows are without a track -/
def upD (t : Nat) (d : Arr 96 Int) (k : Nat) : Arr 96 Int := ⟨d.1.mapIdx fun i x => if i < k then ((lessR t x.toNat : Nat) : Int) else x, by rw [List.length_mapIdx, d.2]⟩
theorem upD_ix {d : Arr 96 Int} (hd : DIn d) (t k i : Nat) (hi : i < 96) : ix (upD t d k).1 (i : Int) = some (if i < k then ((lessR t (row' d i) : Nat) : Int) else (row' d i : Int)) := by
  refine ix_get ?_
  unfold upD
  rw [List.getElem?_mapIdx]
  have h := (ix_some (ix_row hd hi)).2.2
  rw [Int.toNat_natCast] at h
  rw [h]; simp
theorem upD_set {d : Arr 96 Int} (hd : DIn d) (t k : Nat) (hk : k < 96) : (upD t d k).set (k : Int) ((lessR t (row' d k) : Nat) : Int) = upD t d (k + 1) := by
  apply Arr.ext
  intro i hi
  rw [Arr.at_set]
  have h1 := upD_ix hd t k i hi
  have h2 := upD_ix hd t (k + 1) i hi
  rw [ix_arr_lt hi] at h1 h2
  rw [Option.some.inj h1, Option.some.inj h2]
  by_cases e : k = i
  · subst e; rw [if_pos rfl, if_pos (by omega)]
  · rw [if_neg e]
    by_cases h3 : i < k
    · rw [if_pos h3, if_pos (by omega)]
    · rw [if_neg h3, if_neg (by omega)]
theorem upD_zero (t : Nat) (d : Arr 96 Int) : upD t d 0 = d := by
  apply Subtype.ext
  apply List.ext_getElem?
  intro i
  simp [upD]
def lessF (f : GFrame) (t : Nat) : GFrame := ⟨f.fSteps, f.fHammers.take t ++ f.fHammers.drop (t + 1)⟩
theorem less_is {f : GFrame} (hf : FOk f) {t : Nat} (ht : t < f.fHammers.length) : spec_l03Less f (t : Int) = some (lessF f t) := by
  have h1 := hf.h1
  have e : w64 ((t : Int) + 1) = ((t + 1 : Nat) : Int) := by rw [w64_in (by omega) (by omega)]; omega
  simp only [spec_l03Less, e, Int.toNat_natCast, List.nil_append, List.length_nil]
  rw [if_pos (by omega), if_pos (by omega), if_pos (by simp only [List.length_take]; omega), if_pos (by simp only [List.length_take, List.length_drop]; omega)]
  rfl
theorem without_is {f : GFrame} (hf : FOk f) {t : Nat} (ht : t < f.fHammers.length) : impl_Frame_without f (t : Int) = some (lessF f t) := by
  have h1 := hf.h1
  have e : w64 ((t : Int) + 1) = ((t + 1 : Nat) : Int) := by rw [w64_in (by omega) (by omega)]; omega
  have ec : slices_Clone_Hammer f.fHammers = some f.fHammers := by
    simp only [slices_Clone_Hammer, List.nil_append, List.length_nil]
    rw [if_pos (by omega)]
  simp only [impl_Frame_without, ec, e, Option.bind_some, slices_Delete_Hammer, Int.toNat_natCast]
  rw [if_pos (by omega), if_neg (by simp; omega), if_pos (by omega), if_pos (by omega), if_pos (by simp only [List.length_drop]; omega)]
  rfl

end Go.Proofs.Yteedohcicmgkaaa
