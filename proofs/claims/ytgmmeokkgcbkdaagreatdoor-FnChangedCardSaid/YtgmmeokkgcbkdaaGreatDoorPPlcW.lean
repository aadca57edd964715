/- The code of a place of a frame. -/
import Derived.Test.YtgmmeokkgcbkdaaGreatDoorM0
import Derived.Test.YtgmmeokkgcbkdaaGreatDoorPFrame
import Derived.Test.YtgmmeokkgcbkdaaGreatDoorPDrum
import Derived.Test.YtgmmeokkgcbkdaaGreatDoorPCodes
import Derived.Test.YtgmmeokkgcbkdaaGreatDoorPWear
import Derived.Test.YtgmmeokkgcbkdaaGreatDoorPure
namespace Go.Proofs.YtgmmeokkgcbkdaaGreatDoor
open Eng
set_option linter.unusedVariables false
set_option linter.unusedSimpArgs false

theorem isPlaceW_is (f : GFrame) (s t : Int) : impl_Frame_isPlace f s t = some (plB f s t) := by
  simp only [impl_Frame_isPlace, within_in, spec_l00In, size_is, Option.bind_some, plB, ge_iff_le]
  cases (decide (0 ≤ s) && decide (s ≤ w64 (w64 f.fSteps - 1))) <;> rfl
theorem placeCode_is (f : GFrame) (hi : FIn f) (hl : f.fHammers.length ≤ 9223372036854775807) (d : Arr 96 Int) (hd : DIn d) (s t : Int) :
    impl_placeCode f d s t = some (if frameB f = true ∧ drumB f d = true then (if plB f s t = true then 0 else 2) else 1) := by
  simp only [impl_placeCode, drumCode1 f hi hl d hd, isPlaceW_is, unless_is, firstOf2, Option.bind_some]
  by_cases c : frameB f = true ∧ drumB f d = true
  · simp only [if_pos c]
    cases plB f s t <;> simp
  · simp only [if_neg c]
    simp

end Go.Proofs.YtgmmeokkgcbkdaaGreatDoor
