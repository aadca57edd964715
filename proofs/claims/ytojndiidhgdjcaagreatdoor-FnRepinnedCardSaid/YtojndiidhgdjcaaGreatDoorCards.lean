/-
  DERIVED. GIVEN WITH THE SEED: THE CARDS: each row of YtojndiidhgdjcaaGreatDoorRows.lean that lists a variable, with what it lists TIED to the program's text (the seventh form; the later family's looks); each row that meets fmt, with fmt's text TOLD by the authors' own Lean function (tested against real Go, not proved from fmt's source: count such statements apart). THE CARD IS WHAT COUNTS. Prove the row's statement (the work); the ties are given (YtojndiidhgdjcaaGreatDoorTie.lean); close each card by the builder's one call (the guide's Derived/Test/ToyasCard.lean, 'card_holds'). Laid BY PROGRAM, IN A SANDBOX (cutbox-door.mjs). By AI agents, Wed Nov 11 2026. No macro, syntax, notation, axiom, sorry.
-/
import Derived.Test.YtojndiidhgdjcaaGreatDoorRows
import GoSem.ClaimSeven
namespace Go.Proofs.YtojndiidhgdjcaaGreatDoor
namespace Rows

/-- THE TIED CARD OF 'laws.FnRepinned'. -/
def fnRepinnedCard : Claim7 := { stood := { row := fnRepinnedRow, standIns := [], harness := (true, "f96e017befb9517667a93a60841cfc2e1453561b033c75ed4a31590235d5d24b"), looks := false }, kinds := [], alts := [], laidByText := true, laidKinds := [.data, .data, .data], laidTests := true, laidLooks := .later }
def FnRepinnedCardSaid : Prop := Claim7.holds Tryz.pinned (.plain (OpenSpec.ofChange fnRepinnedSpec)) fnRepinnedCard

/-- THE SECOND FORM's CARD OF 'laws.FnRepinned'. -/
def fnRepinnedUptoCard : Claim7 := { stood := { row := fnRepinnedUptoRow, standIns := [], harness := (true, "f96e017befb9517667a93a60841cfc2e1453561b033c75ed4a31590235d5d24b"), looks := false }, kinds := [], alts := [], laidByText := true, laidKinds := [.data, .data, .data], laidTests := true, laidLooks := .later }
def FnRepinnedUptoCardSaid : Prop := Claim7.holds Tryz.pinned (.plain (OpenSpec.upto fnRepinnedSpec)) fnRepinnedUptoCard
end Rows
end Go.Proofs.YtojndiidhgdjcaaGreatDoor
