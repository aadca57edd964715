/- A pin put into a drum, or taken out: what the drum is then. -/
import Derived.Test.YtplklknkkaeniaaGreatDoorM1
import Derived.Test.YtplklknkkaeniaaGreatDoorPFrame
import Derived.Test.YtplklknkkaeniaaGreatDoorPDrum
import Derived.Test.YtplklknkkaeniaaGreatDoorPure
namespace Go.Proofs.YtplklknkkaeniaaGreatDoor
open Eng
set_option linter.unusedVariables false
set_option linter.unusedSimpArgs false

theorem drum_eq {d e : Arr 96 Int} (hd : DIn d) (he : DIn e) (h : ∀ s t, s < 96 → t < 32 → pin d s t = pin e s t) : d = e := by
  refine drum_ext hd he fun s hs => Nat.eq_of_testBit_eq fun i => ?_
  by_cases hi : i < 32
  · exact h s i hs hi
  · have h1 : ∀ x : Nat, x < 4294967296 → x.testBit i = false := fun x hx => Nat.testBit_lt_two_pow (Nat.lt_of_lt_of_le hx (Nat.pow_le_pow_right (n := 2) (by omega) (by omega : 32 ≤ i)))
    rw [h1 _ (row_lt hd s), h1 _ (row_lt he s)]
theorem pow_lt32 {t : Nat} (ht : t < 32) : 2 ^ t < 4294967296 := Nat.pow_lt_pow_right (a := 2) (by omega) (by omega : t < 32)
theorem put_on {d : Arr 96 Int} (hd : DIn d) {s t : Nat} (hs : s < 96) (ht : t < 32) :
    ∃ d', impl_Drum_put d (s : Int) (t : Int) true = some d' ∧ DIn d' ∧ ∀ a b, pin d' a b = (pin d a b || (decide (a = s) && decide (b = t))) := by
  have h1 := ix_row hd hs
  have hlt := row_lt hd s
  have hp := pow_lt32 ht
  have hl := Nat.lt_of_le_of_lt (ldif_le (row' d s) (2 ^ t)) hlt
  have hd2 := DIn_set hd s hl
  have h2 := ix_row hd2 hs
  rw [row_set hs, if_pos rfl] at h2
  refine ⟨(d.set (s : Int) (ldif (row' d s) (2 ^ t) : Nat)).set (s : Int) (ldif (row' d s) (2 ^ t) ||| 2 ^ t : Nat), ?_, DIn_set hd2 s (Nat.or_lt_two_pow (n := 32) hl hp), fun a b => ?_⟩
  · simp only [impl_Drum_put, h1, Option.bind_some, bShl32_one t ht, bClr32 _ _ hlt hp, h2, bOr32 _ _ hl hp]
    rw [if_pos (by omega), if_pos trivial, if_pos (by omega)]
  · unfold pin
    rw [row_set hs]
    by_cases ha : a = s
    · subst ha
      rw [if_pos rfl, Nat.testBit_or, ldif_bit, Nat.testBit_two_pow]
      by_cases hb : b = t
      · subst hb; simp
      · have : ¬ t = b := fun e => hb e.symm
        simp [hb, this]
    · rw [if_neg (fun e => ha e.symm), row_set hs, if_neg (fun e => ha e.symm)]
      simp [ha]
theorem put_off {d : Arr 96 Int} (hd : DIn d) {s t : Nat} (hs : s < 96) (ht : t < 32) :
    ∃ d', impl_Drum_put d (s : Int) (t : Int) false = some d' ∧ DIn d' ∧ ∀ a b, pin d' a b = (pin d a b && !(decide (a = s) && decide (b = t))) := by
  have h1 := ix_row hd hs
  have hlt := row_lt hd s
  have hp := pow_lt32 ht
  have hl := Nat.lt_of_le_of_lt (ldif_le (row' d s) (2 ^ t)) hlt
  refine ⟨d.set (s : Int) (ldif (row' d s) (2 ^ t) : Nat), ?_, DIn_set hd s hl, fun a b => ?_⟩
  · simp only [impl_Drum_put, h1, Option.bind_some, bShl32_one t ht, bClr32 _ _ hlt hp]
    rw [if_pos (by omega)]
    simp
  · unfold pin
    rw [row_set hs]
    by_cases ha : a = s
    · subst ha
      rw [if_pos rfl, ldif_bit, Nat.testBit_two_pow]
      by_cases hb : b = t
      · subst hb; simp
      · have : ¬ t = b := fun e => hb e.symm
        simp [hb, this]
    · rw [if_neg (fun e => ha e.symm)]
      simp [ha]
/-- a pin put by the reference: a row with a bit more -/
theorem or_pin {d : Arr 96 Int} (hd : DIn d) {s t : Nat} (hs : s < 96) (ht : t < 32) :
    DIn (d.set (s : Int) (bOr .u32 (row' d s : Int) (bShl .u32 1 (t : Int)))) ∧ ∀ a b, pin (d.set (s : Int) (bOr .u32 (row' d s : Int) (bShl .u32 1 (t : Int)))) a b = (pin d a b || (decide (a = s) && decide (b = t))) := by
  have hlt := row_lt hd s
  have hp := pow_lt32 ht
  rw [bShl32_one t ht, bOr32 _ _ hlt hp]
  refine ⟨DIn_set hd s (Nat.or_lt_two_pow (n := 32) hlt hp), fun a b => ?_⟩
  unfold pin
  rw [row_set hs]
  by_cases ha : a = s
  · subst ha
    rw [if_pos rfl, Nat.testBit_or, Nat.testBit_two_pow]
    by_cases hb : b = t
    · subst hb; simp
    · have : ¬ t = b := fun e => hb e.symm
      simp [hb, this]
  · rw [if_neg (fun e => ha e.symm)]
    simp [ha]

end Go.Proofs.YtplklknkkaeniaaGreatDoor
