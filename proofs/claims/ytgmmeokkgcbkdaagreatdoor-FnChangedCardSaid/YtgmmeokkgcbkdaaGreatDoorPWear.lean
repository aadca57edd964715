/- Valid wear: the program's test is the reference's, and what a valid wear is. -/
import Derived.Test.YtgmmeokkgcbkdaaGreatDoorT
import Derived.Test.YtgmmeokkgcbkdaaGreatDoorPFrame
import Derived.Test.YtgmmeokkgcbkdaaGreatDoorPDrum
import Derived.Test.YtgmmeokkgcbkdaaGreatDoorPure
namespace Go.Proofs.YtgmmeokkgcbkdaaGreatDoor
open Eng
set_option linter.unusedVariables false
set_option linter.unusedSimpArgs false

/-! ### places, turns, the order of pins -/
def plB (f : GFrame) (s t : Int) : Bool := (decide (0 ≤ s) && decide (s ≤ w64 (w64 f.fSteps - 1))) && (decide (0 ≤ t) && decide (t ≤ w64 ((f.fHammers.length : Int) - 1)))
theorem plB_ok {f : GFrame} (h : FOk f) (s t : Int) : plB f s t = true ↔ (0 ≤ s ∧ s < f.fSteps) ∧ (0 ≤ t ∧ t < f.fHammers.length) := by
  have h0 := h.s0; have h1 := h.s1; have h2 := h.h0; have h3 := h.h1
  unfold plB
  rw [w64_in (n := f.fSteps) (by omega) (by omega), w64_in (n := f.fSteps - 1) (by omega) (by omega), w64_in (n := (f.fHammers.length : Int) - 1) (by omega) (by omega)]
  simp only [Bool.and_eq_true, decide_eq_true_eq]
  omega
end Go.Proofs.YtgmmeokkgcbkdaaGreatDoor
