/- A drum drawn by its own bytes is valid. -/
import Derived.Test.YtojndiidhgdjcaaGreatDoorM0
import Derived.Test.YtojndiidhgdjcaaGreatDoorPFrame
import Derived.Test.YtojndiidhgdjcaaGreatDoorPDrum
import Derived.Test.YtojndiidhgdjcaaGreatDoorPCodes
import Derived.Test.YtojndiidhgdjcaaGreatDoorPPut
import Derived.Test.YtojndiidhgdjcaaGreatDoorPFit
import Derived.Test.YtojndiidhgdjcaaGreatDoorPDraw
import Derived.Test.YtojndiidhgdjcaaGreatDoorPDrawDrum
import Derived.Test.YtojndiidhgdjcaaGreatDoorPure
namespace Go.Proofs.YtojndiidhgdjcaaGreatDoor
open Eng
set_option linter.unusedVariables false
set_option linter.unusedSimpArgs false

theorem p6Drum_is {f : GFrame} (hf : FOk f) (code : List Int) (hc : ∀ y ∈ code, 0 ≤ y ∧ y ≤ 255) : ∃ d, spec_P6Drum code f = some d ∧ DIn d ∧ drumB f d = true := by
  obtain ⟨h1, h2⟩ := from_is code hc
  obtain ⟨d, s', e, g1, g2, _, _⟩ := drumDrawn_is hf h2 (by omega)
  simp only [spec_P6Drum, h1, Option.bind_some, e]
  exact ⟨d, rfl, g1, drumB_of g2⟩

end Go.Proofs.YtojndiidhgdjcaaGreatDoor
