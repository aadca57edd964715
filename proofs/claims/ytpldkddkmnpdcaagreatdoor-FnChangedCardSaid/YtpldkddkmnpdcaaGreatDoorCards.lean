/-
  DERIVED. GIVEN WITH THE SEED: THE CARDS: each row of YtpldkddkmnpdcaaGreatDoorRows.lean that lists a variable, with what it lists TIED to the program's text (the seventh form; the later family's looks); each row that meets fmt, with fmt's text TOLD by the authors' own Lean function (tested against real Go, not proved from fmt's source: count such statements apart). THE CARD IS WHAT COUNTS. Prove the row's statement (the work); the ties are given (YtpldkddkmnpdcaaGreatDoorTie.lean); close each card by the builder's one call (the guide's Derived/Test/ToyasCard.lean, 'card_holds'). Laid BY PROGRAM, IN A SANDBOX (cutbox-door.mjs). By AI agents, Wed Nov 11 2026. No macro, syntax, notation, axiom, sorry.
-/
import Derived.Test.YtpldkddkmnpdcaaGreatDoorRows
import GoSem.ClaimSeven
namespace Go.Proofs.YtpldkddkmnpdcaaGreatDoor
namespace Rows

/-- THE TIED CARD OF 'laws.FnChanged'. -/
def fnChangedCard : Claim7 := { stood := { row := fnChangedRow, standIns := [], harness := (true, "5080d949bebab7648ebc6b40eb978d4ba4fb281e35ed615cf202672493252a3b"), looks := true }, kinds := [], alts := [], laidByText := true, laidKinds := [.data, .data, .data, .data, .sentinel, .sentinel, .pinned], laidTests := true, laidLooks := .later }
def FnChangedCardSaid : Prop := Claim7.holds Tryz.pinned (.plain (OpenSpec.ofChange fnChangedSpec)) fnChangedCard

/-- THE TIED CARD OF 'laws.FnRepinned'. -/
def fnRepinnedCard : Claim7 := { stood := { row := fnRepinnedRow, standIns := [], harness := (true, "5080d949bebab7648ebc6b40eb978d4ba4fb281e35ed615cf202672493252a3b"), looks := true }, kinds := [], alts := [], laidByText := true, laidKinds := [.data, .data, .data], laidTests := true, laidLooks := .later }
def FnRepinnedCardSaid : Prop := Claim7.holds Tryz.pinned (.plain (OpenSpec.ofChange fnRepinnedSpec)) fnRepinnedCard

/-- THE TIED CARD OF 'laws.FnWearActs'. -/
def fnWearActsCard : Claim7 := { stood := { row := fnWearActsRow, standIns := [], harness := (true, "5080d949bebab7648ebc6b40eb978d4ba4fb281e35ed615cf202672493252a3b"), looks := true }, kinds := [], alts := [], laidByText := true, laidKinds := [.data, .data, .data, .data, .sentinel, .sentinel, .pinned], laidTests := true, laidLooks := .later }
def FnWearActsCardSaid : Prop := Claim7.holds Tryz.pinned (.plain (OpenSpec.ofChange fnWearActsSpec)) fnWearActsCard

/-- THE SECOND FORM's CARD OF 'laws.FnChanged'. -/
def fnChangedUptoCard : Claim7 := { stood := { row := fnChangedUptoRow, standIns := [], harness := (true, "5080d949bebab7648ebc6b40eb978d4ba4fb281e35ed615cf202672493252a3b"), looks := true }, kinds := [], alts := [], laidByText := true, laidKinds := [.data, .data, .data, .data, .sentinel, .sentinel, .pinned], laidTests := true, laidLooks := .later }
def FnChangedUptoCardSaid : Prop := Claim7.holds Tryz.pinned (.plain (OpenSpec.upto fnChangedSpec)) fnChangedUptoCard

/-- THE SECOND FORM's CARD OF 'laws.FnRepinned'. -/
def fnRepinnedUptoCard : Claim7 := { stood := { row := fnRepinnedUptoRow, standIns := [], harness := (true, "5080d949bebab7648ebc6b40eb978d4ba4fb281e35ed615cf202672493252a3b"), looks := true }, kinds := [], alts := [], laidByText := true, laidKinds := [.data, .data, .data], laidTests := true, laidLooks := .later }
def FnRepinnedUptoCardSaid : Prop := Claim7.holds Tryz.pinned (.plain (OpenSpec.upto fnRepinnedSpec)) fnRepinnedUptoCard

/-- THE SECOND FORM's CARD OF 'laws.FnWearActs'. -/
def fnWearActsUptoCard : Claim7 := { stood := { row := fnWearActsUptoRow, standIns := [], harness := (true, "5080d949bebab7648ebc6b40eb978d4ba4fb281e35ed615cf202672493252a3b"), looks := true }, kinds := [], alts := [], laidByText := true, laidKinds := [.data, .data, .data, .data, .sentinel, .sentinel, .pinned], laidTests := true, laidLooks := .later }
def FnWearActsUptoCardSaid : Prop := Claim7.holds Tryz.pinned (.plain (OpenSpec.upto fnWearActsSpec)) fnWearActsUptoCard
end Rows
end Go.Proofs.YtpldkddkmnpdcaaGreatDoor
