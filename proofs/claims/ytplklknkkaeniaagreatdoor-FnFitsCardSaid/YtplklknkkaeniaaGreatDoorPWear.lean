/- Valid wear: the program's test is the reference's, and what a valid wear is. -/
import Derived.Test.YtplklknkkaeniaaGreatDoorM1
import Derived.Test.YtplklknkkaeniaaGreatDoorPFrame
import Derived.Test.YtplklknkkaeniaaGreatDoorPDrum
import Derived.Test.YtplklknkkaeniaaGreatDoorPure
namespace Go.Proofs.YtplklknkkaeniaaGreatDoor
open Eng
set_option linter.unusedVariables false
set_option linter.unusedSimpArgs false

/-! ### places, turns, the order of pins -/
def plB (f : GFrame) (s t : Int) : Bool := (decide (0 ≤ s) && decide (s ≤ w64 (w64 f.fSteps - 1))) && (decide (0 ≤ t) && decide (t ≤ w64 ((f.fHammers.length : Int) - 1)))
theorem plB_ok {f : GFrame} (h : FOk f) (s t : Int) : plB f s t = true ↔ (0 ≤ s ∧ s < f.fSteps) ∧ (0 ≤ t ∧ t < f.fHammers.length) := by
  have h0 := h.s0; have h1 := h.s1; have h2 := h.h0; have h3 := h.h1
  unfold plB
  rw [w64_in (n := f.fSteps) (by omega) (by omega), w64_in (n := f.fSteps - 1) (by omega) (by omega), w64_in (n := (f.fHammers.length : Int) - 1) (by omega) (by omega)]
  simp only [Bool.and_eq_true, decide_eq_true_eq]
  omega
def tuB (n : Int) : Bool := decide (0 ≤ n) && decide (n ≤ 1000000)
theorem cmp_is (x y : Int) : cmp_Compare_int8 x y = some (if x < y then -1 else if x > y then 1 else 0) := by
  simp only [cmp_Compare_int8, cmp_isNaN_int8, Option.bind_some]
  simp
  repeat' split
  all_goals rfl
theorem or2 (a b : Int) : cmp_Or_int [a, b] = some (if a ≠ 0 then a else b) := by
  simp only [cmp_Or_int]
  rw [loop_eq]
  by_cases ha : a = 0
  · rw [show cmp_Or_int.l_3 [a, b] 0 = some (.inl 1) by simp [cmp_Or_int.l_3, ix, ha, w64_in]]
    simp only
    rw [loop_eq]
    by_cases hb : b = 0
    · rw [show cmp_Or_int.l_3 [a, b] 1 = some (.inl 2) by simp [cmp_Or_int.l_3, ix, hb, w64_in]]
      simp only
      rw [loop_eq, show cmp_Or_int.l_3 [a, b] 2 = some (.inr (.inr ())) by simp [cmp_Or_int.l_3]]
      simp [ha, hb, cmp_Or_int.k_1]
    · rw [show cmp_Or_int.l_3 [a, b] 1 = some (.inr (.inl b)) by simp [cmp_Or_int.l_3, ix, hb]]
      simp [ha]
  · rw [show cmp_Or_int.l_3 [a, b] 0 = some (.inr (.inl a)) by simp [cmp_Or_int.l_3, ix, ha]]
    simp [ha]
end Go.Proofs.YtplklknkkaeniaaGreatDoor
