/- The choices for a note: the program's are the reference's. -/
import Derived.Test.YtojndiidhgdjcaaGreatDoorT
import Derived.Test.YtojndiidhgdjcaaGreatDoorPFrame
import Derived.Test.YtojndiidhgdjcaaGreatDoorPure
namespace Go.Proofs.YtojndiidhgdjcaaGreatDoor
open Eng
set_option linter.unusedVariables false
set_option linter.unusedSimpArgs false

def atB (f : GFrame) (n : GNote) (late : Int) : Bool := (decide ((w64 ((w64 n.fAt) + (w64 late))) ≥ 0)) && (decide ((w64 ((w64 n.fAt) + (w64 late))) ≤ (w64 ((w64 f.fSteps) - 1))))
theorem get3 (k : Nat) (h : k < 3) : ∃ o, [(0 : Int), -1, 1][k]? = some o ∧ -1 ≤ o ∧ o ≤ 1 ∧ ix [(0 : Int), -1, 1] (k : Int) = some o := by
  match k, h with
  | 0, _ => exact ⟨0, rfl, by omega, by omega, rfl⟩
  | 1, _ => exact ⟨-1, rfl, by omega, by omega, rfl⟩
  | 2, _ => exact ⟨1, rfl, by omega, by omega, rfl⟩
theorem get7 (k : Nat) (h : k < 7) : ∃ o, [(0 : Int), -1, 1, -2, 2, -3, 3][k]? = some o ∧ ix [(0 : Int), -1, 1, -2, 2, -3, 3] (k : Int) = some o := by
  match k, h with
  | 0, _ => exact ⟨_, rfl, rfl⟩
  | 1, _ => exact ⟨_, rfl, rfl⟩
  | 2, _ => exact ⟨_, rfl, rfl⟩
  | 3, _ => exact ⟨_, rfl, rfl⟩
  | 4, _ => exact ⟨_, rfl, rfl⟩
  | 5, _ => exact ⟨_, rfl, rfl⟩
  | 6, _ => exact ⟨_, rfl, rfl⟩

end Go.Proofs.YtojndiidhgdjcaaGreatDoor
