/-
  No cell of these rows narrows 'for every input' (looked for: loops, veiled, ifaces, maps, wideKeys, modest, calm, conditions, laid).
  DERIVED. THE GIVEN ROWS OF THIS SEAT. 10 by the template 'for every input the law returns true; each argument reads behind the call as it read before'; 0 by the template 'total and deterministic' (their statements: YtilackblefjgdaaTotals.lean).
  GIVEN WITH THE SEED: the statements are not yours to turn. If you find one false, say at which input.
  Laid BY PROGRAM, IN A SANDBOX (cutbox-rows.mjs): the forced cells as the released guide's own fill.sh prints them over the translation e8ccb44a17938401… (all of the seat's roots in one cut). By AI agents, Wed Nov 11 2026. No macro, syntax, notation, axiom, sorry.
-/
import Derived.Test.YtilackblefjgdaaChecked
import GoSem.Claim
import GoSem.ClaimJoined
import GoSem.ClaimMapViews
import Derived.JoinedTies
import Derived.KernelRfl
namespace Go.Proofs.Ytilackblefjgdaa
/- THE CELL 'sum', in the pinned program and in every row, IS THE sha256 OF THE DUMP (.gsa) THAT YtilackblefjgdaaProg.lean LOADS. Nothing in Lean hashes anything: it is a label: what it is worth is what the hold of that sum in a sandbox is worth. -/
noncomputable def Try.pinned : Pinned := { name := "ytilackblefjgdaa", sum := "e8ccb44a17938401b17e424dccacd7de92451069006d66886507a58f5129b4d9", checked := Try.checked }
namespace Rows
def none {H : Type} : Left H := { results := [], args := [] }

/-- 'laws.FnExactPartsFor': WHATEVER THE INPUT: true; the input reads as it did. -/
def fnExactPartsForSpec : ChangeSpec := { name := "fnExactPartsFor", fn := fun _ => fun
  | [d1, d2, d3, d4] => { results := [.lit (.bool true)], args := [d1, d2, d3, d4] }
  | _ => none }
def fnExactPartsForRow : OpenClaim := { program := "ytilackblefjgdaa", sum := "e8ccb44a17938401b17e424dccacd7de92451069006d66886507a58f5129b4d9", func := "loop.example/g01311/laws.FnExactPartsFor", spec := "fnExactPartsFor", unfollowed := true, recurses := true, apart := false }
def FnExactPartsForSaid : Prop := fnExactPartsForRow.holds Try.pinned (OpenSpec.ofChange fnExactPartsForSpec)

/-- ITS FALSE NEIGHBOUR: 'it returns false'. Refute it at one input. -/
def fnExactPartsForWrong : ChangeSpec := { name := "fnExactPartsFor", fn := fun _ => fun
  | [d1, d2, d3, d4] => { results := [.lit (.bool false)], args := [d1, d2, d3, d4] }
  | _ => none }
def FnExactPartsForWrongFalsely : Prop := fnExactPartsForRow.holds Try.pinned (OpenSpec.ofChange fnExactPartsForWrong)

/-- 'laws.FnExactCheckChoices': WHATEVER THE INPUT: true; the input reads as it did. -/
def fnExactCheckChoicesSpec : ChangeSpec := { name := "fnExactCheckChoices", fn := fun _ => fun
  | [d1, d2, d3] => { results := [.lit (.bool true)], args := [d1, d2, d3] }
  | _ => none }
def fnExactCheckChoicesRow : OpenClaim := { program := "ytilackblefjgdaa", sum := "e8ccb44a17938401b17e424dccacd7de92451069006d66886507a58f5129b4d9", func := "loop.example/g01311/laws.FnExactCheckChoices", spec := "fnExactCheckChoices", unfollowed := true, recurses := true, apart := false }
def FnExactCheckChoicesSaid : Prop := fnExactCheckChoicesRow.holds Try.pinned (OpenSpec.ofChange fnExactCheckChoicesSpec)

/-- ITS FALSE NEIGHBOUR: 'it returns false'. Refute it at one input. -/
def fnExactCheckChoicesWrong : ChangeSpec := { name := "fnExactCheckChoices", fn := fun _ => fun
  | [d1, d2, d3] => { results := [.lit (.bool false)], args := [d1, d2, d3] }
  | _ => none }
def FnExactCheckChoicesWrongFalsely : Prop := fnExactCheckChoicesRow.holds Try.pinned (OpenSpec.ofChange fnExactCheckChoicesWrong)

/-- 'laws.FnExactFirstUnfit': WHATEVER THE INPUT: true; the input reads as it did. -/
def fnExactFirstUnfitSpec : ChangeSpec := { name := "fnExactFirstUnfit", fn := fun _ => fun
  | [d1, d2, d3] => { results := [.lit (.bool true)], args := [d1, d2, d3] }
  | _ => none }
def fnExactFirstUnfitRow : OpenClaim := { program := "ytilackblefjgdaa", sum := "e8ccb44a17938401b17e424dccacd7de92451069006d66886507a58f5129b4d9", func := "loop.example/g01311/laws.FnExactFirstUnfit", spec := "fnExactFirstUnfit", unfollowed := true, recurses := true, apart := false }
def FnExactFirstUnfitSaid : Prop := fnExactFirstUnfitRow.holds Try.pinned (OpenSpec.ofChange fnExactFirstUnfitSpec)

/-- ITS FALSE NEIGHBOUR: 'it returns false'. Refute it at one input. -/
def fnExactFirstUnfitWrong : ChangeSpec := { name := "fnExactFirstUnfit", fn := fun _ => fun
  | [d1, d2, d3] => { results := [.lit (.bool false)], args := [d1, d2, d3] }
  | _ => none }
def FnExactFirstUnfitWrongFalsely : Prop := fnExactFirstUnfitRow.holds Try.pinned (OpenSpec.ofChange fnExactFirstUnfitWrong)

/-- 'laws.FnExactDrumFor': WHATEVER THE INPUT: true; the input reads as it did. -/
def fnExactDrumForSpec : ChangeSpec := { name := "fnExactDrumFor", fn := fun _ => fun
  | [d1, d2, d3] => { results := [.lit (.bool true)], args := [d1, d2, d3] }
  | _ => none }
def fnExactDrumForRow : OpenClaim := { program := "ytilackblefjgdaa", sum := "e8ccb44a17938401b17e424dccacd7de92451069006d66886507a58f5129b4d9", func := "loop.example/g01311/laws.FnExactDrumFor", spec := "fnExactDrumFor", unfollowed := true, recurses := true, apart := false }
def FnExactDrumForSaid : Prop := fnExactDrumForRow.holds Try.pinned (OpenSpec.ofChange fnExactDrumForSpec)

/-- ITS FALSE NEIGHBOUR: 'it returns false'. Refute it at one input. -/
def fnExactDrumForWrong : ChangeSpec := { name := "fnExactDrumFor", fn := fun _ => fun
  | [d1, d2, d3] => { results := [.lit (.bool false)], args := [d1, d2, d3] }
  | _ => none }
def FnExactDrumForWrongFalsely : Prop := fnExactDrumForRow.holds Try.pinned (OpenSpec.ofChange fnExactDrumForWrong)

/-- 'laws.FnExactKeptNotes': WHATEVER THE INPUT: true; the input reads as it did. -/
def fnExactKeptNotesSpec : ChangeSpec := { name := "fnExactKeptNotes", fn := fun _ => fun
  | [d1, d2, d3] => { results := [.lit (.bool true)], args := [d1, d2, d3] }
  | _ => none }
def fnExactKeptNotesRow : OpenClaim := { program := "ytilackblefjgdaa", sum := "e8ccb44a17938401b17e424dccacd7de92451069006d66886507a58f5129b4d9", func := "loop.example/g01311/laws.FnExactKeptNotes", spec := "fnExactKeptNotes", unfollowed := true, recurses := true, apart := false }
def FnExactKeptNotesSaid : Prop := fnExactKeptNotesRow.holds Try.pinned (OpenSpec.ofChange fnExactKeptNotesSpec)

/-- ITS FALSE NEIGHBOUR: 'it returns false'. Refute it at one input. -/
def fnExactKeptNotesWrong : ChangeSpec := { name := "fnExactKeptNotes", fn := fun _ => fun
  | [d1, d2, d3] => { results := [.lit (.bool false)], args := [d1, d2, d3] }
  | _ => none }
def FnExactKeptNotesWrongFalsely : Prop := fnExactKeptNotesRow.holds Try.pinned (OpenSpec.ofChange fnExactKeptNotesWrong)

/-- 'laws.FnExactCheapestLives': WHATEVER THE INPUT: true; the input reads as it did. -/
def fnExactCheapestLivesSpec : ChangeSpec := { name := "fnExactCheapestLives", fn := fun _ => fun
  | [d1, d2, d3, d4, d5, d6] => { results := [.lit (.bool true)], args := [d1, d2, d3, d4, d5, d6] }
  | _ => none }
def fnExactCheapestLivesRow : OpenClaim := { program := "ytilackblefjgdaa", sum := "e8ccb44a17938401b17e424dccacd7de92451069006d66886507a58f5129b4d9", func := "loop.example/g01311/laws.FnExactCheapestLives", spec := "fnExactCheapestLives", unfollowed := true, recurses := true, apart := false }
def FnExactCheapestLivesSaid : Prop := fnExactCheapestLivesRow.holds Try.pinned (OpenSpec.ofChange fnExactCheapestLivesSpec)

/-- ITS FALSE NEIGHBOUR: 'it returns false'. Refute it at one input. -/
def fnExactCheapestLivesWrong : ChangeSpec := { name := "fnExactCheapestLives", fn := fun _ => fun
  | [d1, d2, d3, d4, d5, d6] => { results := [.lit (.bool false)], args := [d1, d2, d3, d4, d5, d6] }
  | _ => none }
def FnExactCheapestLivesWrongFalsely : Prop := fnExactCheapestLivesRow.holds Try.pinned (OpenSpec.ofChange fnExactCheapestLivesWrong)

/-- 'laws.FnExactGreedy': WHATEVER THE INPUT: true; the input reads as it did. -/
def fnExactGreedySpec : ChangeSpec := { name := "fnExactGreedy", fn := fun _ => fun
  | [d1, d2, d3] => { results := [.lit (.bool true)], args := [d1, d2, d3] }
  | _ => none }
def fnExactGreedyRow : OpenClaim := { program := "ytilackblefjgdaa", sum := "e8ccb44a17938401b17e424dccacd7de92451069006d66886507a58f5129b4d9", func := "loop.example/g01311/laws.FnExactGreedy", spec := "fnExactGreedy", unfollowed := true, recurses := true, apart := false }
def FnExactGreedySaid : Prop := fnExactGreedyRow.holds Try.pinned (OpenSpec.ofChange fnExactGreedySpec)

/-- ITS FALSE NEIGHBOUR: 'it returns false'. Refute it at one input. -/
def fnExactGreedyWrong : ChangeSpec := { name := "fnExactGreedy", fn := fun _ => fun
  | [d1, d2, d3] => { results := [.lit (.bool false)], args := [d1, d2, d3] }
  | _ => none }
def FnExactGreedyWrongFalsely : Prop := fnExactGreedyRow.holds Try.pinned (OpenSpec.ofChange fnExactGreedyWrong)

/-- 'laws.FnExactNewPin': WHATEVER THE INPUT: true; the input reads as it did. -/
def fnExactNewPinSpec : ChangeSpec := { name := "fnExactNewPin", fn := fun _ => fun
  | [d1, d2, d3, d4] => { results := [.lit (.bool true)], args := [d1, d2, d3, d4] }
  | _ => none }
def fnExactNewPinRow : OpenClaim := { program := "ytilackblefjgdaa", sum := "e8ccb44a17938401b17e424dccacd7de92451069006d66886507a58f5129b4d9", func := "loop.example/g01311/laws.FnExactNewPin", spec := "fnExactNewPin", unfollowed := true, recurses := true, apart := false }
def FnExactNewPinSaid : Prop := fnExactNewPinRow.holds Try.pinned (OpenSpec.ofChange fnExactNewPinSpec)

/-- ITS FALSE NEIGHBOUR: 'it returns false'. Refute it at one input. -/
def fnExactNewPinWrong : ChangeSpec := { name := "fnExactNewPin", fn := fun _ => fun
  | [d1, d2, d3, d4] => { results := [.lit (.bool false)], args := [d1, d2, d3, d4] }
  | _ => none }
def FnExactNewPinWrongFalsely : Prop := fnExactNewPinRow.holds Try.pinned (OpenSpec.ofChange fnExactNewPinWrong)

/-- 'laws.FnExactMovePin': WHATEVER THE INPUT: true; the input reads as it did. -/
def fnExactMovePinSpec : ChangeSpec := { name := "fnExactMovePin", fn := fun _ => fun
  | [d1, d2, d3, d4, d5, d6] => { results := [.lit (.bool true)], args := [d1, d2, d3, d4, d5, d6] }
  | _ => none }
def fnExactMovePinRow : OpenClaim := { program := "ytilackblefjgdaa", sum := "e8ccb44a17938401b17e424dccacd7de92451069006d66886507a58f5129b4d9", func := "loop.example/g01311/laws.FnExactMovePin", spec := "fnExactMovePin", unfollowed := true, recurses := true, apart := false }
def FnExactMovePinSaid : Prop := fnExactMovePinRow.holds Try.pinned (OpenSpec.ofChange fnExactMovePinSpec)

/-- ITS FALSE NEIGHBOUR: 'it returns false'. Refute it at one input. -/
def fnExactMovePinWrong : ChangeSpec := { name := "fnExactMovePin", fn := fun _ => fun
  | [d1, d2, d3, d4, d5, d6] => { results := [.lit (.bool false)], args := [d1, d2, d3, d4, d5, d6] }
  | _ => none }
def FnExactMovePinWrongFalsely : Prop := fnExactMovePinRow.holds Try.pinned (OpenSpec.ofChange fnExactMovePinWrong)

/-- 'laws.FnExactNeedlessTracks': WHATEVER THE INPUT: true; the input reads as it did. -/
def fnExactNeedlessTracksSpec : ChangeSpec := { name := "fnExactNeedlessTracks", fn := fun _ => fun
  | [d1, d2] => { results := [.lit (.bool true)], args := [d1, d2] }
  | _ => none }
def fnExactNeedlessTracksRow : OpenClaim := { program := "ytilackblefjgdaa", sum := "e8ccb44a17938401b17e424dccacd7de92451069006d66886507a58f5129b4d9", func := "loop.example/g01311/laws.FnExactNeedlessTracks", spec := "fnExactNeedlessTracks", unfollowed := true, recurses := true, apart := false }
def FnExactNeedlessTracksSaid : Prop := fnExactNeedlessTracksRow.holds Try.pinned (OpenSpec.ofChange fnExactNeedlessTracksSpec)

/-- ITS FALSE NEIGHBOUR: 'it returns false'. Refute it at one input. -/
def fnExactNeedlessTracksWrong : ChangeSpec := { name := "fnExactNeedlessTracks", fn := fun _ => fun
  | [d1, d2] => { results := [.lit (.bool false)], args := [d1, d2] }
  | _ => none }
def FnExactNeedlessTracksWrongFalsely : Prop := fnExactNeedlessTracksRow.holds Try.pinned (OpenSpec.ofChange fnExactNeedlessTracksWrong)

/- THE SECOND FORM. 'bulk': how many values and letters a reading holds, each counted each time it is reached (what is shared counts as often as it is met; a slice's spare places count too). A statement '..UptoSaid' is the law's where the arguments, and the package variables that the reading takes, are together of bulk at most 1048576: NARROWER than '..Said'. Prove '..Said' where nothing that the law and all that it calls make is longer than what came in: it says more and counts as full. Else prove '..UptoSaid'. A law counts once. -/
mutual
def uptoBulk {H : Type} : DataW H → Nat
  | .lit (.string bytes) => bytes.length + 1
  | .lit _ => 1
  | .nil => 1
  | .ptr d => uptoBulk d + 1
  | .slice elems spare => uptoBulkAll elems + uptoBulkAll spare + 1
  | .agg parts => uptoBulkAll parts + 1
  | .iface _ d => uptoBulk d + 1
  | .map entries => uptoBulkEntries entries + 1
  | .held _ => 1
def uptoBulkAll {H : Type} : List (DataW H) → Nat
  | [] => 0
  | d :: r => uptoBulk d + uptoBulkAll r
def uptoBulkEntries {H : Type} : List (Lit × DataW H) → Nat
  | [] => 0
  | x :: r => uptoBulkEntry x + uptoBulkEntries r
def uptoBulkEntry {H : Type} : Lit × DataW H → Nat
  | (.string bytes, d) => bytes.length + uptoBulk d + 1
  | (_, d) => uptoBulk d + 1
 end
def uptoSmall : (H : Type) → List (DataW H) → Bool := fun _ ds => decide (uptoBulkAll ds ≤ 1048576)
def OpenSpec.upto (s : _root_.Go.ChangeSpec) : _root_.Go.OpenSpec := { _root_.Go.OpenSpec.ofChange s with cond := some uptoSmall }

/-- 'laws.FnExactPartsFor', WHERE WHAT IT READS IS OF BULK AT MOST 1048576: true; the input reads as it did. -/
def fnExactPartsForUptoRow : OpenClaim := { program := "ytilackblefjgdaa", sum := "e8ccb44a17938401b17e424dccacd7de92451069006d66886507a58f5129b4d9", func := "loop.example/g01311/laws.FnExactPartsFor", spec := "fnExactPartsFor", unfollowed := true, recurses := true, apart := false, narrowed := true }
def FnExactPartsForUptoSaid : Prop := fnExactPartsForUptoRow.holds Try.pinned (OpenSpec.upto fnExactPartsForSpec)

/-- 'laws.FnExactCheckChoices', WHERE WHAT IT READS IS OF BULK AT MOST 1048576: true; the input reads as it did. -/
def fnExactCheckChoicesUptoRow : OpenClaim := { program := "ytilackblefjgdaa", sum := "e8ccb44a17938401b17e424dccacd7de92451069006d66886507a58f5129b4d9", func := "loop.example/g01311/laws.FnExactCheckChoices", spec := "fnExactCheckChoices", unfollowed := true, recurses := true, apart := false, narrowed := true }
def FnExactCheckChoicesUptoSaid : Prop := fnExactCheckChoicesUptoRow.holds Try.pinned (OpenSpec.upto fnExactCheckChoicesSpec)

/-- 'laws.FnExactFirstUnfit', WHERE WHAT IT READS IS OF BULK AT MOST 1048576: true; the input reads as it did. -/
def fnExactFirstUnfitUptoRow : OpenClaim := { program := "ytilackblefjgdaa", sum := "e8ccb44a17938401b17e424dccacd7de92451069006d66886507a58f5129b4d9", func := "loop.example/g01311/laws.FnExactFirstUnfit", spec := "fnExactFirstUnfit", unfollowed := true, recurses := true, apart := false, narrowed := true }
def FnExactFirstUnfitUptoSaid : Prop := fnExactFirstUnfitUptoRow.holds Try.pinned (OpenSpec.upto fnExactFirstUnfitSpec)

/-- 'laws.FnExactDrumFor', WHERE WHAT IT READS IS OF BULK AT MOST 1048576: true; the input reads as it did. -/
def fnExactDrumForUptoRow : OpenClaim := { program := "ytilackblefjgdaa", sum := "e8ccb44a17938401b17e424dccacd7de92451069006d66886507a58f5129b4d9", func := "loop.example/g01311/laws.FnExactDrumFor", spec := "fnExactDrumFor", unfollowed := true, recurses := true, apart := false, narrowed := true }
def FnExactDrumForUptoSaid : Prop := fnExactDrumForUptoRow.holds Try.pinned (OpenSpec.upto fnExactDrumForSpec)

/-- 'laws.FnExactKeptNotes', WHERE WHAT IT READS IS OF BULK AT MOST 1048576: true; the input reads as it did. -/
def fnExactKeptNotesUptoRow : OpenClaim := { program := "ytilackblefjgdaa", sum := "e8ccb44a17938401b17e424dccacd7de92451069006d66886507a58f5129b4d9", func := "loop.example/g01311/laws.FnExactKeptNotes", spec := "fnExactKeptNotes", unfollowed := true, recurses := true, apart := false, narrowed := true }
def FnExactKeptNotesUptoSaid : Prop := fnExactKeptNotesUptoRow.holds Try.pinned (OpenSpec.upto fnExactKeptNotesSpec)

/-- 'laws.FnExactCheapestLives', WHERE WHAT IT READS IS OF BULK AT MOST 1048576: true; the input reads as it did. -/
def fnExactCheapestLivesUptoRow : OpenClaim := { program := "ytilackblefjgdaa", sum := "e8ccb44a17938401b17e424dccacd7de92451069006d66886507a58f5129b4d9", func := "loop.example/g01311/laws.FnExactCheapestLives", spec := "fnExactCheapestLives", unfollowed := true, recurses := true, apart := false, narrowed := true }
def FnExactCheapestLivesUptoSaid : Prop := fnExactCheapestLivesUptoRow.holds Try.pinned (OpenSpec.upto fnExactCheapestLivesSpec)

/-- 'laws.FnExactGreedy', WHERE WHAT IT READS IS OF BULK AT MOST 1048576: true; the input reads as it did. -/
def fnExactGreedyUptoRow : OpenClaim := { program := "ytilackblefjgdaa", sum := "e8ccb44a17938401b17e424dccacd7de92451069006d66886507a58f5129b4d9", func := "loop.example/g01311/laws.FnExactGreedy", spec := "fnExactGreedy", unfollowed := true, recurses := true, apart := false, narrowed := true }
def FnExactGreedyUptoSaid : Prop := fnExactGreedyUptoRow.holds Try.pinned (OpenSpec.upto fnExactGreedySpec)

/-- 'laws.FnExactNewPin', WHERE WHAT IT READS IS OF BULK AT MOST 1048576: true; the input reads as it did. -/
def fnExactNewPinUptoRow : OpenClaim := { program := "ytilackblefjgdaa", sum := "e8ccb44a17938401b17e424dccacd7de92451069006d66886507a58f5129b4d9", func := "loop.example/g01311/laws.FnExactNewPin", spec := "fnExactNewPin", unfollowed := true, recurses := true, apart := false, narrowed := true }
def FnExactNewPinUptoSaid : Prop := fnExactNewPinUptoRow.holds Try.pinned (OpenSpec.upto fnExactNewPinSpec)

/-- 'laws.FnExactMovePin', WHERE WHAT IT READS IS OF BULK AT MOST 1048576: true; the input reads as it did. -/
def fnExactMovePinUptoRow : OpenClaim := { program := "ytilackblefjgdaa", sum := "e8ccb44a17938401b17e424dccacd7de92451069006d66886507a58f5129b4d9", func := "loop.example/g01311/laws.FnExactMovePin", spec := "fnExactMovePin", unfollowed := true, recurses := true, apart := false, narrowed := true }
def FnExactMovePinUptoSaid : Prop := fnExactMovePinUptoRow.holds Try.pinned (OpenSpec.upto fnExactMovePinSpec)

/-- 'laws.FnExactNeedlessTracks', WHERE WHAT IT READS IS OF BULK AT MOST 1048576: true; the input reads as it did. -/
def fnExactNeedlessTracksUptoRow : OpenClaim := { program := "ytilackblefjgdaa", sum := "e8ccb44a17938401b17e424dccacd7de92451069006d66886507a58f5129b4d9", func := "loop.example/g01311/laws.FnExactNeedlessTracks", spec := "fnExactNeedlessTracks", unfollowed := true, recurses := true, apart := false, narrowed := true }
def FnExactNeedlessTracksUptoSaid : Prop := fnExactNeedlessTracksUptoRow.holds Try.pinned (OpenSpec.upto fnExactNeedlessTracksSpec)

end Rows
end Go.Proofs.Ytilackblefjgdaa
