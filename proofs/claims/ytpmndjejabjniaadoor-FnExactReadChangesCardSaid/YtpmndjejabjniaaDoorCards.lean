/-
  DERIVED. GIVEN WITH THE SEED: THE CARDS: each row of YtpmndjejabjniaaDoorRows.lean that lists a variable, with what it lists TIED to the program's text (the seventh form; the later family's looks); each row that meets fmt, with fmt's text TOLD by the authors' own Lean function (tested against real Go, not proved from fmt's source: count such statements apart). THE CARD IS WHAT COUNTS. Prove the row's statement (the work); the ties are given (YtpmndjejabjniaaDoorTie.lean); close each card by the builder's one call (the guide's Derived/Test/ToyasCard.lean, 'card_holds'). Laid BY PROGRAM, IN A SANDBOX (cutbox-door.mjs). By AI agents, Wed Nov 11 2026. No macro, syntax, notation, axiom, sorry.
-/
import Derived.Test.YtpmndjejabjniaaDoorRows
import GoSem.ClaimSeven
namespace Go.Proofs.YtpmndjejabjniaaDoor
namespace Rows

/-- THE TIED CARD OF 'laws.FnExactActsText'. -/
def fnExactActsTextCard : Claim7 := { stood := { row := fnExactActsTextRow, standIns := [], harness := (true, "6d35c3949a9a40ab6b1ab51e14e29779f7cfab0e1f7fe0b41120655b32b91804"), looks := true }, kinds := [], alts := [], laidByText := true, laidKinds := [.data, .data, .data], laidTests := true, laidLooks := .later }
def FnExactActsTextCardSaid : Prop := Claim7.holds Tryd.pinned (.plain (OpenSpec.ofChange fnExactActsTextSpec)) fnExactActsTextCard

/-- THE TIED CARD OF 'laws.FnExactChoicesText'. -/
def fnExactChoicesTextCard : Claim7 := { stood := { row := fnExactChoicesTextRow, standIns := [], harness := (true, "6d35c3949a9a40ab6b1ab51e14e29779f7cfab0e1f7fe0b41120655b32b91804"), looks := true }, kinds := [], alts := [], laidByText := true, laidKinds := [.data, .data, .data], laidTests := true, laidLooks := .later }
def FnExactChoicesTextCardSaid : Prop := Claim7.holds Tryd.pinned (.plain (OpenSpec.ofChange fnExactChoicesTextSpec)) fnExactChoicesTextCard

/-- THE TIED CARD OF 'laws.FnExactReadChanges'. -/
def fnExactReadChangesCard : Claim7 := { stood := { row := fnExactReadChangesRow, standIns := [], harness := (true, "6d35c3949a9a40ab6b1ab51e14e29779f7cfab0e1f7fe0b41120655b32b91804"), looks := true }, kinds := [], alts := [], laidByText := true, laidKinds := [.data, .data, .data, .data, .sentinel, .sentinel, .pinned], laidTests := true, laidLooks := .later }
def FnExactReadChangesCardSaid : Prop := Claim7.holds Tryd.pinned (.plain (OpenSpec.ofChange fnExactReadChangesSpec)) fnExactReadChangesCard

/-- THE TIED CARD OF 'laws.FnExactReadActs'. -/
def fnExactReadActsCard : Claim7 := { stood := { row := fnExactReadActsRow, standIns := [], harness := (true, "6d35c3949a9a40ab6b1ab51e14e29779f7cfab0e1f7fe0b41120655b32b91804"), looks := true }, kinds := [], alts := [], laidByText := true, laidKinds := [.data, .data, .data, .data, .sentinel, .sentinel, .pinned], laidTests := true, laidLooks := .later }
def FnExactReadActsCardSaid : Prop := Claim7.holds Tryd.pinned (.plain (OpenSpec.ofChange fnExactReadActsSpec)) fnExactReadActsCard

/-- THE TIED CARD OF 'laws.FnExactReadChoices'. -/
def fnExactReadChoicesCard : Claim7 := { stood := { row := fnExactReadChoicesRow, standIns := [], harness := (true, "6d35c3949a9a40ab6b1ab51e14e29779f7cfab0e1f7fe0b41120655b32b91804"), looks := true }, kinds := [], alts := [], laidByText := true, laidKinds := [.data, .data, .data, .data, .sentinel, .sentinel, .pinned], laidTests := true, laidLooks := .later }
def FnExactReadChoicesCardSaid : Prop := Claim7.holds Tryd.pinned (.plain (OpenSpec.ofChange fnExactReadChoicesSpec)) fnExactReadChoicesCard

/-- THE SECOND FORM's CARD OF 'laws.FnExactActsText'. -/
def fnExactActsTextUptoCard : Claim7 := { stood := { row := fnExactActsTextUptoRow, standIns := [], harness := (true, "6d35c3949a9a40ab6b1ab51e14e29779f7cfab0e1f7fe0b41120655b32b91804"), looks := true }, kinds := [], alts := [], laidByText := true, laidKinds := [.data, .data, .data], laidTests := true, laidLooks := .later }
def FnExactActsTextUptoCardSaid : Prop := Claim7.holds Tryd.pinned (.plain (OpenSpec.upto fnExactActsTextSpec)) fnExactActsTextUptoCard

/-- THE SECOND FORM's CARD OF 'laws.FnExactChoicesText'. -/
def fnExactChoicesTextUptoCard : Claim7 := { stood := { row := fnExactChoicesTextUptoRow, standIns := [], harness := (true, "6d35c3949a9a40ab6b1ab51e14e29779f7cfab0e1f7fe0b41120655b32b91804"), looks := true }, kinds := [], alts := [], laidByText := true, laidKinds := [.data, .data, .data], laidTests := true, laidLooks := .later }
def FnExactChoicesTextUptoCardSaid : Prop := Claim7.holds Tryd.pinned (.plain (OpenSpec.upto fnExactChoicesTextSpec)) fnExactChoicesTextUptoCard

/-- THE SECOND FORM's CARD OF 'laws.FnExactReadChanges'. -/
def fnExactReadChangesUptoCard : Claim7 := { stood := { row := fnExactReadChangesUptoRow, standIns := [], harness := (true, "6d35c3949a9a40ab6b1ab51e14e29779f7cfab0e1f7fe0b41120655b32b91804"), looks := true }, kinds := [], alts := [], laidByText := true, laidKinds := [.data, .data, .data, .data, .sentinel, .sentinel, .pinned], laidTests := true, laidLooks := .later }
def FnExactReadChangesUptoCardSaid : Prop := Claim7.holds Tryd.pinned (.plain (OpenSpec.upto fnExactReadChangesSpec)) fnExactReadChangesUptoCard

/-- THE SECOND FORM's CARD OF 'laws.FnExactReadActs'. -/
def fnExactReadActsUptoCard : Claim7 := { stood := { row := fnExactReadActsUptoRow, standIns := [], harness := (true, "6d35c3949a9a40ab6b1ab51e14e29779f7cfab0e1f7fe0b41120655b32b91804"), looks := true }, kinds := [], alts := [], laidByText := true, laidKinds := [.data, .data, .data, .data, .sentinel, .sentinel, .pinned], laidTests := true, laidLooks := .later }
def FnExactReadActsUptoCardSaid : Prop := Claim7.holds Tryd.pinned (.plain (OpenSpec.upto fnExactReadActsSpec)) fnExactReadActsUptoCard

/-- THE SECOND FORM's CARD OF 'laws.FnExactReadChoices'. -/
def fnExactReadChoicesUptoCard : Claim7 := { stood := { row := fnExactReadChoicesUptoRow, standIns := [], harness := (true, "6d35c3949a9a40ab6b1ab51e14e29779f7cfab0e1f7fe0b41120655b32b91804"), looks := true }, kinds := [], alts := [], laidByText := true, laidKinds := [.data, .data, .data, .data, .sentinel, .sentinel, .pinned], laidTests := true, laidLooks := .later }
def FnExactReadChoicesUptoCardSaid : Prop := Claim7.holds Tryd.pinned (.plain (OpenSpec.upto fnExactReadChoicesSpec)) fnExactReadChoicesUptoCard
end Rows
end Go.Proofs.YtpmndjejabjniaaDoor
