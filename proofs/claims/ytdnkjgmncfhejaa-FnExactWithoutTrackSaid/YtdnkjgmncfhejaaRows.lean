/-
  No cell of these rows narrows 'for every input' (looked for: loops, veiled, ifaces, maps, wideKeys, modest, calm, conditions, laid).
  DERIVED. THE GIVEN ROWS OF THIS SEAT. 12 by the template 'for every input the law returns true; each argument reads behind the call as it read before'; 0 by the template 'total and deterministic' (their statements: YtdnkjgmncfhejaaTotals.lean).
  GIVEN WITH THE SEED: the statements are not yours to turn. If you find one false, say at which input.
  Laid BY PROGRAM, IN A SANDBOX (cutbox-rows.mjs): the forced cells as the released guide's own fill.sh prints them over the translation 0107f66c59f2a74f… (all of the seat's roots in one cut). By AI agents, Wed Nov 11 2026. No macro, syntax, notation, axiom, sorry.
-/
import Derived.Test.YtdnkjgmncfhejaaChecked
import GoSem.Claim
import GoSem.ClaimJoined
import GoSem.ClaimMapViews
import Derived.JoinedTies
import Derived.KernelRfl
namespace Go.Proofs.Ytdnkjgmncfhejaa
/- THE CELL 'sum', in the pinned program and in every row, IS THE sha256 OF THE DUMP (.gsa) THAT YtdnkjgmncfhejaaProg.lean LOADS. Nothing in Lean hashes anything: it is a label: what it is worth is what the hold of that sum in a sandbox is worth. -/
noncomputable def Try.pinned : Pinned := { name := "ytdnkjgmncfhejaa", sum := "0107f66c59f2a74fce645abdbea49d716ca000386f5f206b3fee32614a4a73dc", checked := Try.checked }
namespace Rows
def none {H : Type} : Left H := { results := [], args := [] }

/-- 'laws.FnExactChoicesFor': WHATEVER THE INPUT: true; the input reads as it did. -/
def fnExactChoicesForSpec : ChangeSpec := { name := "fnExactChoicesFor", fn := fun _ => fun
  | [d1, d2] => { results := [.lit (.bool true)], args := [d1, d2] }
  | _ => none }
def fnExactChoicesForRow : OpenClaim := { program := "ytdnkjgmncfhejaa", sum := "0107f66c59f2a74fce645abdbea49d716ca000386f5f206b3fee32614a4a73dc", func := "loop.example/g01311/laws.FnExactChoicesFor", spec := "fnExactChoicesFor", unfollowed := true, recurses := true, apart := false }
def FnExactChoicesForSaid : Prop := fnExactChoicesForRow.holds Try.pinned (OpenSpec.ofChange fnExactChoicesForSpec)

/-- ITS FALSE NEIGHBOUR: 'it returns false'. Refute it at one input. -/
def fnExactChoicesForWrong : ChangeSpec := { name := "fnExactChoicesFor", fn := fun _ => fun
  | [d1, d2] => { results := [.lit (.bool false)], args := [d1, d2] }
  | _ => none }
def FnExactChoicesForWrongFalsely : Prop := fnExactChoicesForRow.holds Try.pinned (OpenSpec.ofChange fnExactChoicesForWrong)

/-- 'laws.FnExactValidWear': WHATEVER THE INPUT: true; the input reads as it did. -/
def fnExactValidWearSpec : ChangeSpec := { name := "fnExactValidWear", fn := fun _ => fun
  | [d1, d2] => { results := [.lit (.bool true)], args := [d1, d2] }
  | _ => none }
def fnExactValidWearRow : OpenClaim := { program := "ytdnkjgmncfhejaa", sum := "0107f66c59f2a74fce645abdbea49d716ca000386f5f206b3fee32614a4a73dc", func := "loop.example/g01311/laws.FnExactValidWear", spec := "fnExactValidWear", unfollowed := true, recurses := true, apart := false }
def FnExactValidWearSaid : Prop := fnExactValidWearRow.holds Try.pinned (OpenSpec.ofChange fnExactValidWearSpec)

/-- ITS FALSE NEIGHBOUR: 'it returns false'. Refute it at one input. -/
def fnExactValidWearWrong : ChangeSpec := { name := "fnExactValidWear", fn := fun _ => fun
  | [d1, d2] => { results := [.lit (.bool false)], args := [d1, d2] }
  | _ => none }
def FnExactValidWearWrongFalsely : Prop := fnExactValidWearRow.holds Try.pinned (OpenSpec.ofChange fnExactValidWearWrong)

/-- 'laws.FnExactWithoutTrack': WHATEVER THE INPUT: true; the input reads as it did. -/
def fnExactWithoutTrackSpec : ChangeSpec := { name := "fnExactWithoutTrack", fn := fun _ => fun
  | [d1, d2, d3] => { results := [.lit (.bool true)], args := [d1, d2, d3] }
  | _ => none }
def fnExactWithoutTrackRow : OpenClaim := { program := "ytdnkjgmncfhejaa", sum := "0107f66c59f2a74fce645abdbea49d716ca000386f5f206b3fee32614a4a73dc", func := "loop.example/g01311/laws.FnExactWithoutTrack", spec := "fnExactWithoutTrack", unfollowed := true, recurses := true, apart := false }
def FnExactWithoutTrackSaid : Prop := fnExactWithoutTrackRow.holds Try.pinned (OpenSpec.ofChange fnExactWithoutTrackSpec)

/-- ITS FALSE NEIGHBOUR: 'it returns false'. Refute it at one input. -/
def fnExactWithoutTrackWrong : ChangeSpec := { name := "fnExactWithoutTrack", fn := fun _ => fun
  | [d1, d2, d3] => { results := [.lit (.bool false)], args := [d1, d2, d3] }
  | _ => none }
def FnExactWithoutTrackWrongFalsely : Prop := fnExactWithoutTrackRow.holds Try.pinned (OpenSpec.ofChange fnExactWithoutTrackWrong)

/-- 'laws.FnExactFreshWear': WHATEVER THE INPUT: true; the input reads as it did. -/
def fnExactFreshWearSpec : ChangeSpec := { name := "fnExactFreshWear", fn := fun _ => fun
  | [d1, d2] => { results := [.lit (.bool true)], args := [d1, d2] }
  | _ => none }
def fnExactFreshWearRow : OpenClaim := { program := "ytdnkjgmncfhejaa", sum := "0107f66c59f2a74fce645abdbea49d716ca000386f5f206b3fee32614a4a73dc", func := "loop.example/g01311/laws.FnExactFreshWear", spec := "fnExactFreshWear", unfollowed := true, recurses := true, apart := false }
def FnExactFreshWearSaid : Prop := fnExactFreshWearRow.holds Try.pinned (OpenSpec.ofChange fnExactFreshWearSpec)

/-- ITS FALSE NEIGHBOUR: 'it returns false'. Refute it at one input. -/
def fnExactFreshWearWrong : ChangeSpec := { name := "fnExactFreshWear", fn := fun _ => fun
  | [d1, d2] => { results := [.lit (.bool false)], args := [d1, d2] }
  | _ => none }
def FnExactFreshWearWrongFalsely : Prop := fnExactFreshWearRow.holds Try.pinned (OpenSpec.ofChange fnExactFreshWearWrong)

/-- 'laws.FnExactDrumOfWear': WHATEVER THE INPUT: true; the input reads as it did. -/
def fnExactDrumOfWearSpec : ChangeSpec := { name := "fnExactDrumOfWear", fn := fun _ => fun
  | [d1, d2] => { results := [.lit (.bool true)], args := [d1, d2] }
  | _ => none }
def fnExactDrumOfWearRow : OpenClaim := { program := "ytdnkjgmncfhejaa", sum := "0107f66c59f2a74fce645abdbea49d716ca000386f5f206b3fee32614a4a73dc", func := "loop.example/g01311/laws.FnExactDrumOfWear", spec := "fnExactDrumOfWear", unfollowed := true, recurses := true, apart := false }
def FnExactDrumOfWearSaid : Prop := fnExactDrumOfWearRow.holds Try.pinned (OpenSpec.ofChange fnExactDrumOfWearSpec)

/-- ITS FALSE NEIGHBOUR: 'it returns false'. Refute it at one input. -/
def fnExactDrumOfWearWrong : ChangeSpec := { name := "fnExactDrumOfWear", fn := fun _ => fun
  | [d1, d2] => { results := [.lit (.bool false)], args := [d1, d2] }
  | _ => none }
def FnExactDrumOfWearWrongFalsely : Prop := fnExactDrumOfWearRow.holds Try.pinned (OpenSpec.ofChange fnExactDrumOfWearWrong)

/-- 'laws.FnExactBoundFrom': WHATEVER THE INPUT: true; the input reads as it did. -/
def fnExactBoundFromSpec : ChangeSpec := { name := "fnExactBoundFrom", fn := fun _ => fun
  | [d1, d2, d3, d4] => { results := [.lit (.bool true)], args := [d1, d2, d3, d4] }
  | _ => none }
def fnExactBoundFromRow : OpenClaim := { program := "ytdnkjgmncfhejaa", sum := "0107f66c59f2a74fce645abdbea49d716ca000386f5f206b3fee32614a4a73dc", func := "loop.example/g01311/laws.FnExactBoundFrom", spec := "fnExactBoundFrom", unfollowed := true, recurses := true, apart := false }
def FnExactBoundFromSaid : Prop := fnExactBoundFromRow.holds Try.pinned (OpenSpec.ofChange fnExactBoundFromSpec)

/-- ITS FALSE NEIGHBOUR: 'it returns false'. Refute it at one input. -/
def fnExactBoundFromWrong : ChangeSpec := { name := "fnExactBoundFrom", fn := fun _ => fun
  | [d1, d2, d3, d4] => { results := [.lit (.bool false)], args := [d1, d2, d3, d4] }
  | _ => none }
def FnExactBoundFromWrongFalsely : Prop := fnExactBoundFromRow.holds Try.pinned (OpenSpec.ofChange fnExactBoundFromWrong)

/-- 'laws.FnExactNewHammer': WHATEVER THE INPUT: true; the input reads as it did. -/
def fnExactNewHammerSpec : ChangeSpec := { name := "fnExactNewHammer", fn := fun _ => fun
  | [d1, d2, d3] => { results := [.lit (.bool true)], args := [d1, d2, d3] }
  | _ => none }
def fnExactNewHammerRow : OpenClaim := { program := "ytdnkjgmncfhejaa", sum := "0107f66c59f2a74fce645abdbea49d716ca000386f5f206b3fee32614a4a73dc", func := "loop.example/g01311/laws.FnExactNewHammer", spec := "fnExactNewHammer", unfollowed := true, recurses := true, apart := false }
def FnExactNewHammerSaid : Prop := fnExactNewHammerRow.holds Try.pinned (OpenSpec.ofChange fnExactNewHammerSpec)

/-- ITS FALSE NEIGHBOUR: 'it returns false'. Refute it at one input. -/
def fnExactNewHammerWrong : ChangeSpec := { name := "fnExactNewHammer", fn := fun _ => fun
  | [d1, d2, d3] => { results := [.lit (.bool false)], args := [d1, d2, d3] }
  | _ => none }
def FnExactNewHammerWrongFalsely : Prop := fnExactNewHammerRow.holds Try.pinned (OpenSpec.ofChange fnExactNewHammerWrong)

/-- 'laws.FnExactLeastEach': WHATEVER THE INPUT: true; the input reads as it did. -/
def fnExactLeastEachSpec : ChangeSpec := { name := "fnExactLeastEach", fn := fun _ => fun
  | [d1, d2, d3] => { results := [.lit (.bool true)], args := [d1, d2, d3] }
  | _ => none }
def fnExactLeastEachRow : OpenClaim := { program := "ytdnkjgmncfhejaa", sum := "0107f66c59f2a74fce645abdbea49d716ca000386f5f206b3fee32614a4a73dc", func := "loop.example/g01311/laws.FnExactLeastEach", spec := "fnExactLeastEach", unfollowed := true, recurses := true, apart := false }
def FnExactLeastEachSaid : Prop := fnExactLeastEachRow.holds Try.pinned (OpenSpec.ofChange fnExactLeastEachSpec)

/-- ITS FALSE NEIGHBOUR: 'it returns false'. Refute it at one input. -/
def fnExactLeastEachWrong : ChangeSpec := { name := "fnExactLeastEach", fn := fun _ => fun
  | [d1, d2, d3] => { results := [.lit (.bool false)], args := [d1, d2, d3] }
  | _ => none }
def FnExactLeastEachWrongFalsely : Prop := fnExactLeastEachRow.holds Try.pinned (OpenSpec.ofChange fnExactLeastEachWrong)

/-- 'laws.FnExactTurnsLeft': WHATEVER THE INPUT: true; the input reads as it did. -/
def fnExactTurnsLeftSpec : ChangeSpec := { name := "fnExactTurnsLeft", fn := fun _ => fun
  | [d1, d2, d3] => { results := [.lit (.bool true)], args := [d1, d2, d3] }
  | _ => none }
def fnExactTurnsLeftRow : OpenClaim := { program := "ytdnkjgmncfhejaa", sum := "0107f66c59f2a74fce645abdbea49d716ca000386f5f206b3fee32614a4a73dc", func := "loop.example/g01311/laws.FnExactTurnsLeft", spec := "fnExactTurnsLeft", unfollowed := true, recurses := true, apart := false }
def FnExactTurnsLeftSaid : Prop := fnExactTurnsLeftRow.holds Try.pinned (OpenSpec.ofChange fnExactTurnsLeftSpec)

/-- ITS FALSE NEIGHBOUR: 'it returns false'. Refute it at one input. -/
def fnExactTurnsLeftWrong : ChangeSpec := { name := "fnExactTurnsLeft", fn := fun _ => fun
  | [d1, d2, d3] => { results := [.lit (.bool false)], args := [d1, d2, d3] }
  | _ => none }
def FnExactTurnsLeftWrongFalsely : Prop := fnExactTurnsLeftRow.holds Try.pinned (OpenSpec.ofChange fnExactTurnsLeftWrong)

/-- 'laws.FnExactFirstWorn': WHATEVER THE INPUT: true; the input reads as it did. -/
def fnExactFirstWornSpec : ChangeSpec := { name := "fnExactFirstWorn", fn := fun _ => fun
  | [d1, d2, d3] => { results := [.lit (.bool true)], args := [d1, d2, d3] }
  | _ => none }
def fnExactFirstWornRow : OpenClaim := { program := "ytdnkjgmncfhejaa", sum := "0107f66c59f2a74fce645abdbea49d716ca000386f5f206b3fee32614a4a73dc", func := "loop.example/g01311/laws.FnExactFirstWorn", spec := "fnExactFirstWorn", unfollowed := true, recurses := true, apart := false }
def FnExactFirstWornSaid : Prop := fnExactFirstWornRow.holds Try.pinned (OpenSpec.ofChange fnExactFirstWornSpec)

/-- ITS FALSE NEIGHBOUR: 'it returns false'. Refute it at one input. -/
def fnExactFirstWornWrong : ChangeSpec := { name := "fnExactFirstWorn", fn := fun _ => fun
  | [d1, d2, d3] => { results := [.lit (.bool false)], args := [d1, d2, d3] }
  | _ => none }
def FnExactFirstWornWrongFalsely : Prop := fnExactFirstWornRow.holds Try.pinned (OpenSpec.ofChange fnExactFirstWornWrong)

/-- 'laws.FnExactWornOut': WHATEVER THE INPUT: true; the input reads as it did. -/
def fnExactWornOutSpec : ChangeSpec := { name := "fnExactWornOut", fn := fun _ => fun
  | [d1, d2, d3] => { results := [.lit (.bool true)], args := [d1, d2, d3] }
  | _ => none }
def fnExactWornOutRow : OpenClaim := { program := "ytdnkjgmncfhejaa", sum := "0107f66c59f2a74fce645abdbea49d716ca000386f5f206b3fee32614a4a73dc", func := "loop.example/g01311/laws.FnExactWornOut", spec := "fnExactWornOut", unfollowed := true, recurses := true, apart := false }
def FnExactWornOutSaid : Prop := fnExactWornOutRow.holds Try.pinned (OpenSpec.ofChange fnExactWornOutSpec)

/-- ITS FALSE NEIGHBOUR: 'it returns false'. Refute it at one input. -/
def fnExactWornOutWrong : ChangeSpec := { name := "fnExactWornOut", fn := fun _ => fun
  | [d1, d2, d3] => { results := [.lit (.bool false)], args := [d1, d2, d3] }
  | _ => none }
def FnExactWornOutWrongFalsely : Prop := fnExactWornOutRow.holds Try.pinned (OpenSpec.ofChange fnExactWornOutWrong)

/-- 'laws.FnExactTurnWear': WHATEVER THE INPUT: true; the input reads as it did. -/
def fnExactTurnWearSpec : ChangeSpec := { name := "fnExactTurnWear", fn := fun _ => fun
  | [d1, d2, d3] => { results := [.lit (.bool true)], args := [d1, d2, d3] }
  | _ => none }
def fnExactTurnWearRow : OpenClaim := { program := "ytdnkjgmncfhejaa", sum := "0107f66c59f2a74fce645abdbea49d716ca000386f5f206b3fee32614a4a73dc", func := "loop.example/g01311/laws.FnExactTurnWear", spec := "fnExactTurnWear", unfollowed := true, recurses := true, apart := false }
def FnExactTurnWearSaid : Prop := fnExactTurnWearRow.holds Try.pinned (OpenSpec.ofChange fnExactTurnWearSpec)

/-- ITS FALSE NEIGHBOUR: 'it returns false'. Refute it at one input. -/
def fnExactTurnWearWrong : ChangeSpec := { name := "fnExactTurnWear", fn := fun _ => fun
  | [d1, d2, d3] => { results := [.lit (.bool false)], args := [d1, d2, d3] }
  | _ => none }
def FnExactTurnWearWrongFalsely : Prop := fnExactTurnWearRow.holds Try.pinned (OpenSpec.ofChange fnExactTurnWearWrong)

/- THE SECOND FORM. 'bulk': how many values and letters a reading holds, each counted each time it is reached (what is shared counts as often as it is met; a slice's spare places count too). A statement '..UptoSaid' is the law's where the arguments, and the package variables that the reading takes, are together of bulk at most 1048576: NARROWER than '..Said'. Prove '..Said' where nothing that the law and all that it calls make is longer than what came in: it says more and counts as full. Else prove '..UptoSaid'. A law counts once. -/
mutual
def uptoBulk {H : Type} : DataW H → Nat
  | .lit (.string bytes) => bytes.length + 1
  | .lit _ => 1
  | .nil => 1
  | .ptr d => uptoBulk d + 1
  | .slice elems spare => uptoBulkAll elems + uptoBulkAll spare + 1
  | .agg parts => uptoBulkAll parts + 1
  | .iface _ d => uptoBulk d + 1
  | .map entries => uptoBulkEntries entries + 1
  | .held _ => 1
def uptoBulkAll {H : Type} : List (DataW H) → Nat
  | [] => 0
  | d :: r => uptoBulk d + uptoBulkAll r
def uptoBulkEntries {H : Type} : List (Lit × DataW H) → Nat
  | [] => 0
  | x :: r => uptoBulkEntry x + uptoBulkEntries r
def uptoBulkEntry {H : Type} : Lit × DataW H → Nat
  | (.string bytes, d) => bytes.length + uptoBulk d + 1
  | (_, d) => uptoBulk d + 1
 end
def uptoSmall : (H : Type) → List (DataW H) → Bool := fun _ ds => decide (uptoBulkAll ds ≤ 1048576)
def OpenSpec.upto (s : _root_.Go.ChangeSpec) : _root_.Go.OpenSpec := { _root_.Go.OpenSpec.ofChange s with cond := some uptoSmall }

/-- 'laws.FnExactChoicesFor', WHERE WHAT IT READS IS OF BULK AT MOST 1048576: true; the input reads as it did. -/
def fnExactChoicesForUptoRow : OpenClaim := { program := "ytdnkjgmncfhejaa", sum := "0107f66c59f2a74fce645abdbea49d716ca000386f5f206b3fee32614a4a73dc", func := "loop.example/g01311/laws.FnExactChoicesFor", spec := "fnExactChoicesFor", unfollowed := true, recurses := true, apart := false, narrowed := true }
def FnExactChoicesForUptoSaid : Prop := fnExactChoicesForUptoRow.holds Try.pinned (OpenSpec.upto fnExactChoicesForSpec)

/-- 'laws.FnExactValidWear', WHERE WHAT IT READS IS OF BULK AT MOST 1048576: true; the input reads as it did. -/
def fnExactValidWearUptoRow : OpenClaim := { program := "ytdnkjgmncfhejaa", sum := "0107f66c59f2a74fce645abdbea49d716ca000386f5f206b3fee32614a4a73dc", func := "loop.example/g01311/laws.FnExactValidWear", spec := "fnExactValidWear", unfollowed := true, recurses := true, apart := false, narrowed := true }
def FnExactValidWearUptoSaid : Prop := fnExactValidWearUptoRow.holds Try.pinned (OpenSpec.upto fnExactValidWearSpec)

/-- 'laws.FnExactWithoutTrack', WHERE WHAT IT READS IS OF BULK AT MOST 1048576: true; the input reads as it did. -/
def fnExactWithoutTrackUptoRow : OpenClaim := { program := "ytdnkjgmncfhejaa", sum := "0107f66c59f2a74fce645abdbea49d716ca000386f5f206b3fee32614a4a73dc", func := "loop.example/g01311/laws.FnExactWithoutTrack", spec := "fnExactWithoutTrack", unfollowed := true, recurses := true, apart := false, narrowed := true }
def FnExactWithoutTrackUptoSaid : Prop := fnExactWithoutTrackUptoRow.holds Try.pinned (OpenSpec.upto fnExactWithoutTrackSpec)

/-- 'laws.FnExactFreshWear', WHERE WHAT IT READS IS OF BULK AT MOST 1048576: true; the input reads as it did. -/
def fnExactFreshWearUptoRow : OpenClaim := { program := "ytdnkjgmncfhejaa", sum := "0107f66c59f2a74fce645abdbea49d716ca000386f5f206b3fee32614a4a73dc", func := "loop.example/g01311/laws.FnExactFreshWear", spec := "fnExactFreshWear", unfollowed := true, recurses := true, apart := false, narrowed := true }
def FnExactFreshWearUptoSaid : Prop := fnExactFreshWearUptoRow.holds Try.pinned (OpenSpec.upto fnExactFreshWearSpec)

/-- 'laws.FnExactDrumOfWear', WHERE WHAT IT READS IS OF BULK AT MOST 1048576: true; the input reads as it did. -/
def fnExactDrumOfWearUptoRow : OpenClaim := { program := "ytdnkjgmncfhejaa", sum := "0107f66c59f2a74fce645abdbea49d716ca000386f5f206b3fee32614a4a73dc", func := "loop.example/g01311/laws.FnExactDrumOfWear", spec := "fnExactDrumOfWear", unfollowed := true, recurses := true, apart := false, narrowed := true }
def FnExactDrumOfWearUptoSaid : Prop := fnExactDrumOfWearUptoRow.holds Try.pinned (OpenSpec.upto fnExactDrumOfWearSpec)

/-- 'laws.FnExactBoundFrom', WHERE WHAT IT READS IS OF BULK AT MOST 1048576: true; the input reads as it did. -/
def fnExactBoundFromUptoRow : OpenClaim := { program := "ytdnkjgmncfhejaa", sum := "0107f66c59f2a74fce645abdbea49d716ca000386f5f206b3fee32614a4a73dc", func := "loop.example/g01311/laws.FnExactBoundFrom", spec := "fnExactBoundFrom", unfollowed := true, recurses := true, apart := false, narrowed := true }
def FnExactBoundFromUptoSaid : Prop := fnExactBoundFromUptoRow.holds Try.pinned (OpenSpec.upto fnExactBoundFromSpec)

/-- 'laws.FnExactNewHammer', WHERE WHAT IT READS IS OF BULK AT MOST 1048576: true; the input reads as it did. -/
def fnExactNewHammerUptoRow : OpenClaim := { program := "ytdnkjgmncfhejaa", sum := "0107f66c59f2a74fce645abdbea49d716ca000386f5f206b3fee32614a4a73dc", func := "loop.example/g01311/laws.FnExactNewHammer", spec := "fnExactNewHammer", unfollowed := true, recurses := true, apart := false, narrowed := true }
def FnExactNewHammerUptoSaid : Prop := fnExactNewHammerUptoRow.holds Try.pinned (OpenSpec.upto fnExactNewHammerSpec)

/-- 'laws.FnExactLeastEach', WHERE WHAT IT READS IS OF BULK AT MOST 1048576: true; the input reads as it did. -/
def fnExactLeastEachUptoRow : OpenClaim := { program := "ytdnkjgmncfhejaa", sum := "0107f66c59f2a74fce645abdbea49d716ca000386f5f206b3fee32614a4a73dc", func := "loop.example/g01311/laws.FnExactLeastEach", spec := "fnExactLeastEach", unfollowed := true, recurses := true, apart := false, narrowed := true }
def FnExactLeastEachUptoSaid : Prop := fnExactLeastEachUptoRow.holds Try.pinned (OpenSpec.upto fnExactLeastEachSpec)

/-- 'laws.FnExactTurnsLeft', WHERE WHAT IT READS IS OF BULK AT MOST 1048576: true; the input reads as it did. -/
def fnExactTurnsLeftUptoRow : OpenClaim := { program := "ytdnkjgmncfhejaa", sum := "0107f66c59f2a74fce645abdbea49d716ca000386f5f206b3fee32614a4a73dc", func := "loop.example/g01311/laws.FnExactTurnsLeft", spec := "fnExactTurnsLeft", unfollowed := true, recurses := true, apart := false, narrowed := true }
def FnExactTurnsLeftUptoSaid : Prop := fnExactTurnsLeftUptoRow.holds Try.pinned (OpenSpec.upto fnExactTurnsLeftSpec)

/-- 'laws.FnExactFirstWorn', WHERE WHAT IT READS IS OF BULK AT MOST 1048576: true; the input reads as it did. -/
def fnExactFirstWornUptoRow : OpenClaim := { program := "ytdnkjgmncfhejaa", sum := "0107f66c59f2a74fce645abdbea49d716ca000386f5f206b3fee32614a4a73dc", func := "loop.example/g01311/laws.FnExactFirstWorn", spec := "fnExactFirstWorn", unfollowed := true, recurses := true, apart := false, narrowed := true }
def FnExactFirstWornUptoSaid : Prop := fnExactFirstWornUptoRow.holds Try.pinned (OpenSpec.upto fnExactFirstWornSpec)

/-- 'laws.FnExactWornOut', WHERE WHAT IT READS IS OF BULK AT MOST 1048576: true; the input reads as it did. -/
def fnExactWornOutUptoRow : OpenClaim := { program := "ytdnkjgmncfhejaa", sum := "0107f66c59f2a74fce645abdbea49d716ca000386f5f206b3fee32614a4a73dc", func := "loop.example/g01311/laws.FnExactWornOut", spec := "fnExactWornOut", unfollowed := true, recurses := true, apart := false, narrowed := true }
def FnExactWornOutUptoSaid : Prop := fnExactWornOutUptoRow.holds Try.pinned (OpenSpec.upto fnExactWornOutSpec)

/-- 'laws.FnExactTurnWear', WHERE WHAT IT READS IS OF BULK AT MOST 1048576: true; the input reads as it did. -/
def fnExactTurnWearUptoRow : OpenClaim := { program := "ytdnkjgmncfhejaa", sum := "0107f66c59f2a74fce645abdbea49d716ca000386f5f206b3fee32614a4a73dc", func := "loop.example/g01311/laws.FnExactTurnWear", spec := "fnExactTurnWear", unfollowed := true, recurses := true, apart := false, narrowed := true }
def FnExactTurnWearUptoSaid : Prop := fnExactTurnWearUptoRow.holds Try.pinned (OpenSpec.upto fnExactTurnWearSpec)

end Rows
end Go.Proofs.Ytdnkjgmncfhejaa
