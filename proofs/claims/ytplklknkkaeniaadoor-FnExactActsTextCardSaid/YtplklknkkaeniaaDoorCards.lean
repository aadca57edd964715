/-
  DERIVED. GIVEN WITH THE SEED: THE CARDS: each row of YtplklknkkaeniaaDoorRows.lean that lists a variable, with what it lists TIED to the program's text (the seventh form; the later family's looks); each row that meets fmt, with fmt's text TOLD by the authors' own Lean function (tested against real Go, not proved from fmt's source: count such statements apart). THE CARD IS WHAT COUNTS. Prove the row's statement (the work); the ties are given (YtplklknkkaeniaaDoorTie.lean); close each card by the builder's one call (the guide's Derived/Test/ToyasCard.lean, 'card_holds'). Laid BY PROGRAM, IN A SANDBOX (cutbox-door.mjs). By AI agents, Wed Nov 11 2026. No macro, syntax, notation, axiom, sorry.
-/
import Derived.Test.YtplklknkkaeniaaDoorRows
import GoSem.ClaimSeven
namespace Go.Proofs.YtplklknkkaeniaaDoor
namespace Rows

/-- THE TIED CARD OF 'laws.FnExactActsText'. -/
def fnExactActsTextCard : Claim7 := { stood := { row := fnExactActsTextRow, standIns := [], harness := (true, "0d29a4d9f1089beea6481c9bcda6385d105c8abffda7199be2a50b7c65632a2a"), looks := true }, kinds := [], alts := [], laidByText := true, laidKinds := [.data, .data, .data], laidTests := true, laidLooks := .later }
def FnExactActsTextCardSaid : Prop := Claim7.holds Tryd.pinned (.plain (OpenSpec.ofChange fnExactActsTextSpec)) fnExactActsTextCard

/-- THE TIED CARD OF 'laws.FnExactReadActs'. -/
def fnExactReadActsCard : Claim7 := { stood := { row := fnExactReadActsRow, standIns := [], harness := (true, "0d29a4d9f1089beea6481c9bcda6385d105c8abffda7199be2a50b7c65632a2a"), looks := true }, kinds := [], alts := [], laidByText := true, laidKinds := [.data, .data, .data, .data, .sentinel, .sentinel, .pinned], laidTests := true, laidLooks := .later }
def FnExactReadActsCardSaid : Prop := Claim7.holds Tryd.pinned (.plain (OpenSpec.ofChange fnExactReadActsSpec)) fnExactReadActsCard

/-- THE SECOND FORM's CARD OF 'laws.FnExactActsText'. -/
def fnExactActsTextUptoCard : Claim7 := { stood := { row := fnExactActsTextUptoRow, standIns := [], harness := (true, "0d29a4d9f1089beea6481c9bcda6385d105c8abffda7199be2a50b7c65632a2a"), looks := true }, kinds := [], alts := [], laidByText := true, laidKinds := [.data, .data, .data], laidTests := true, laidLooks := .later }
def FnExactActsTextUptoCardSaid : Prop := Claim7.holds Tryd.pinned (.plain (OpenSpec.upto fnExactActsTextSpec)) fnExactActsTextUptoCard

/-- THE SECOND FORM's CARD OF 'laws.FnExactReadActs'. -/
def fnExactReadActsUptoCard : Claim7 := { stood := { row := fnExactReadActsUptoRow, standIns := [], harness := (true, "0d29a4d9f1089beea6481c9bcda6385d105c8abffda7199be2a50b7c65632a2a"), looks := true }, kinds := [], alts := [], laidByText := true, laidKinds := [.data, .data, .data, .data, .sentinel, .sentinel, .pinned], laidTests := true, laidLooks := .later }
def FnExactReadActsUptoCardSaid : Prop := Claim7.holds Tryd.pinned (.plain (OpenSpec.upto fnExactReadActsSpec)) fnExactReadActsUptoCard
end Rows
end Go.Proofs.YtplklknkkaeniaaDoor
