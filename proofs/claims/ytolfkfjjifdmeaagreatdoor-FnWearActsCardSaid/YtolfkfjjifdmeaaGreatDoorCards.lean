/-
  DERIVED. GIVEN WITH THE SEED: THE CARDS: each row of YtolfkfjjifdmeaaGreatDoorRows.lean that lists a variable, with what it lists TIED to the program's text (the seventh form; the later family's looks); each row that meets fmt, with fmt's text TOLD by the authors' own Lean function (tested against real Go, not proved from fmt's source: count such statements apart). THE CARD IS WHAT COUNTS. Prove the row's statement (the work); the ties are given (YtolfkfjjifdmeaaGreatDoorTie.lean); close each card by the builder's one call (the guide's Derived/Test/ToyasCard.lean, 'card_holds'). Laid BY PROGRAM, IN A SANDBOX (cutbox-door.mjs). By AI agents, Wed Nov 11 2026. No macro, syntax, notation, axiom, sorry.
-/
import Derived.Test.YtolfkfjjifdmeaaGreatDoorRows
import GoSem.ClaimSeven
namespace Go.Proofs.YtolfkfjjifdmeaaGreatDoor
namespace Rows

/-- THE TIED CARD OF 'laws.FnRepinned'. -/
def fnRepinnedCard : Claim7 := { stood := { row := fnRepinnedRow, standIns := [], harness := (true, "a5d84c8b791813da689d830bacee453e16adb49c8837de226a2041db07e042ab"), looks := true }, kinds := [], alts := [], laidByText := true, laidKinds := [.data, .data, .data], laidTests := true, laidLooks := .later }
def FnRepinnedCardSaid : Prop := Claim7.holds Tryz.pinned (.plain (OpenSpec.ofChange fnRepinnedSpec)) fnRepinnedCard

/-- THE TIED CARD OF 'laws.FnWearActs'. -/
def fnWearActsCard : Claim7 := { stood := { row := fnWearActsRow, standIns := [], harness := (true, "a5d84c8b791813da689d830bacee453e16adb49c8837de226a2041db07e042ab"), looks := true }, kinds := [], alts := [], laidByText := true, laidKinds := [.data, .data, .data, .data, .sentinel, .sentinel, .pinned], laidTests := true, laidLooks := .later }
def FnWearActsCardSaid : Prop := Claim7.holds Tryz.pinned (.plain (OpenSpec.ofChange fnWearActsSpec)) fnWearActsCard

/-- THE SECOND FORM's CARD OF 'laws.FnRepinned'. -/
def fnRepinnedUptoCard : Claim7 := { stood := { row := fnRepinnedUptoRow, standIns := [], harness := (true, "a5d84c8b791813da689d830bacee453e16adb49c8837de226a2041db07e042ab"), looks := true }, kinds := [], alts := [], laidByText := true, laidKinds := [.data, .data, .data], laidTests := true, laidLooks := .later }
def FnRepinnedUptoCardSaid : Prop := Claim7.holds Tryz.pinned (.plain (OpenSpec.upto fnRepinnedSpec)) fnRepinnedUptoCard

/-- THE SECOND FORM's CARD OF 'laws.FnWearActs'. -/
def fnWearActsUptoCard : Claim7 := { stood := { row := fnWearActsUptoRow, standIns := [], harness := (true, "a5d84c8b791813da689d830bacee453e16adb49c8837de226a2041db07e042ab"), looks := true }, kinds := [], alts := [], laidByText := true, laidKinds := [.data, .data, .data, .data, .sentinel, .sentinel, .pinned], laidTests := true, laidLooks := .later }
def FnWearActsUptoCardSaid : Prop := Claim7.holds Tryz.pinned (.plain (OpenSpec.upto fnWearActsSpec)) fnWearActsUptoCard
end Rows
end Go.Proofs.YtolfkfjjifdmeaaGreatDoor
