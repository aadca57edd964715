/- Places of a frame: the program's test and codes. -/
import Derived.Test.YtojndiidhgdjcaaGreatDoorM0
import Derived.Test.YtojndiidhgdjcaaGreatDoorM1
import Derived.Test.YtojndiidhgdjcaaGreatDoorM2
import Derived.Test.YtojndiidhgdjcaaGreatDoorPFrame
import Derived.Test.YtojndiidhgdjcaaGreatDoorPDrum
import Derived.Test.YtojndiidhgdjcaaGreatDoorPCodes
import Derived.Test.YtojndiidhgdjcaaGreatDoorPure
namespace Go.Proofs.YtojndiidhgdjcaaGreatDoor
open Eng
set_option linter.unusedVariables false
set_option linter.unusedSimpArgs false

def plB (f : GFrame) (s t : Int) : Bool := (decide (0 ≤ s) && decide (s ≤ w64 (w64 f.fSteps - 1))) && (decide (0 ≤ t) && decide (t ≤ w64 ((f.fHammers.length : Int) - 1)))
theorem isPlace_is (f : GFrame) (s t : Int) : impl_Frame_isPlace f s t = some (plB f s t) := by
  simp only [impl_Frame_isPlace, within_in, spec_l00In, size_is, Option.bind_some, plB, ge_iff_le]
  cases (decide (0 ≤ s) && decide (s ≤ w64 (w64 f.fSteps - 1))) <;> rfl
theorem plB_ok {f : GFrame} (h : FOk f) (s t : Int) : plB f s t = true ↔ (0 ≤ s ∧ s < f.fSteps) ∧ (0 ≤ t ∧ t < f.fHammers.length) := by
  have h0 := h.s0; have h1 := h.s1; have h2 := h.h0; have h3 := h.h1
  unfold plB
  rw [w64_in (n := f.fSteps) (by omega) (by omega), w64_in (n := f.fSteps - 1) (by omega) (by omega), w64_in (n := (f.fHammers.length : Int) - 1) (by omega) (by omega)]
  simp only [Bool.and_eq_true, decide_eq_true_eq]
  omega

theorem placeCode_is (f : GFrame) (hi : FIn f) (hl : f.fHammers.length ≤ 9223372036854775807) (d : Arr 96 Int) (hd : DIn d) (s t : Int) :
    impl_placeCode f d s t = some (if frameB f = true ∧ drumB f d = true then (if plB f s t = true then 0 else 2) else 1) := by
  simp only [impl_placeCode, drumCode1 f hi hl d hd, isPlace_is, unless_is, firstOf2, Option.bind_some]
  by_cases c : frameB f = true ∧ drumB f d = true
  · simp only [if_pos c]
    cases plB f s t <;> simp
  · simp only [if_neg c]
    simp
theorem l02Place_is (f : GFrame) (hi : FIn f) (hl : f.fHammers.length ≤ 9223372036854775807) (d : Arr 96 Int) (hd : DIn d) (s t : Int) :
    spec_l02Place f d s t = some (if frameB f = true ∧ drumB f d = true then (if plB f s t = true then 0 else 2) else 1) := by
  simp only [spec_l02Place, l02Asked_is f hi hl d hd, spec_l00In, Option.bind_some, spec_l02Place.k_3, plB, ge_iff_le]
  by_cases c : frameB f = true ∧ drumB f d = true
  · simp only [if_pos c]
    have e1 : ∀ (a b : Bool), (if ((0 : Int) == 0) = true then (if (!a) = true then some (2 : Int) else if (!b) = true then some 2 else some 0) else some 0) = some (if (a && b) = true then 0 else 2) := by
      intro a b; cases a <;> cases b <;> rfl
    exact e1 _ _
  · simp only [if_neg c]
    simp

end Go.Proofs.YtojndiidhgdjcaaGreatDoor
