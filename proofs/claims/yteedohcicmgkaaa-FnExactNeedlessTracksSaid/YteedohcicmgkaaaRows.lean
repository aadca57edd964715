/-
  No cell of these rows narrows 'for every input' (looked for: loops, veiled, ifaces, maps, wideKeys, modest, calm, conditions, laid).
  DERIVED. THE GIVEN ROWS OF THIS SEAT. 7 by the template 'for every input the law returns true; each argument reads behind the call as it read before'; 0 by the template 'total and deterministic' (their statements: YteedohcicmgkaaaTotals.lean).
  GIVEN WITH THE SEED: the statements are not yours to turn. If you find one false, say at which input.
  Laid BY PROGRAM, IN A SANDBOX (cutbox-rows.mjs): the forced cells as the released guide's own fill.sh prints them over the translation 4598c996ffc2f57a… (all of the seat's roots in one cut). By AI agents, Wed Nov 11 2026. No macro, syntax, notation, axiom, sorry.
-/
import Derived.Test.YteedohcicmgkaaaChecked
import GoSem.Claim
import GoSem.ClaimJoined
import GoSem.ClaimMapViews
import Derived.JoinedTies
import Derived.KernelRfl
namespace Go.Proofs.Yteedohcicmgkaaa
/- THE CELL 'sum', in the pinned program and in every row, IS THE sha256 OF THE DUMP (.gsa) THAT YteedohcicmgkaaaProg.lean LOADS. Nothing in Lean hashes anything: it is a label: what it is worth is what the hold of that sum in a sandbox is worth. -/
noncomputable def Try.pinned : Pinned := { name := "yteedohcicmgkaaa", sum := "4598c996ffc2f57a56232f831ec5cfada169962362b14d4be44d0dfee727860a", checked := Try.checked }
namespace Rows
def none {H : Type} : Left H := { results := [], args := [] }

/-- 'laws.FnExactBestCircle': WHATEVER THE INPUT: true; the input reads as it did. -/
def fnExactBestCircleSpec : ChangeSpec := { name := "fnExactBestCircle", fn := fun _ => fun
  | [d1, d2] => { results := [.lit (.bool true)], args := [d1, d2] }
  | _ => none }
def fnExactBestCircleRow : OpenClaim := { program := "yteedohcicmgkaaa", sum := "4598c996ffc2f57a56232f831ec5cfada169962362b14d4be44d0dfee727860a", func := "loop.example/g01311/laws.FnExactBestCircle", spec := "fnExactBestCircle", unfollowed := true, recurses := true, apart := false }
def FnExactBestCircleSaid : Prop := fnExactBestCircleRow.holds Try.pinned (OpenSpec.ofChange fnExactBestCircleSpec)

/-- ITS FALSE NEIGHBOUR: 'it returns false'. Refute it at one input. -/
def fnExactBestCircleWrong : ChangeSpec := { name := "fnExactBestCircle", fn := fun _ => fun
  | [d1, d2] => { results := [.lit (.bool false)], args := [d1, d2] }
  | _ => none }
def FnExactBestCircleWrongFalsely : Prop := fnExactBestCircleRow.holds Try.pinned (OpenSpec.ofChange fnExactBestCircleWrong)

/-- 'laws.FnExactBestOrder': WHATEVER THE INPUT: true; the input reads as it did. -/
def fnExactBestOrderSpec : ChangeSpec := { name := "fnExactBestOrder", fn := fun _ => fun
  | [d1, d2, d3] => { results := [.lit (.bool true)], args := [d1, d2, d3] }
  | _ => none }
def fnExactBestOrderRow : OpenClaim := { program := "yteedohcicmgkaaa", sum := "4598c996ffc2f57a56232f831ec5cfada169962362b14d4be44d0dfee727860a", func := "loop.example/g01311/laws.FnExactBestOrder", spec := "fnExactBestOrder", unfollowed := true, recurses := true, apart := false }
def FnExactBestOrderSaid : Prop := fnExactBestOrderRow.holds Try.pinned (OpenSpec.ofChange fnExactBestOrderSpec)

/-- ITS FALSE NEIGHBOUR: 'it returns false'. Refute it at one input. -/
def fnExactBestOrderWrong : ChangeSpec := { name := "fnExactBestOrder", fn := fun _ => fun
  | [d1, d2, d3] => { results := [.lit (.bool false)], args := [d1, d2, d3] }
  | _ => none }
def FnExactBestOrderWrongFalsely : Prop := fnExactBestOrderRow.holds Try.pinned (OpenSpec.ofChange fnExactBestOrderWrong)

/-- 'laws.FnExactNeedlessTracks': WHATEVER THE INPUT: true; the input reads as it did. -/
def fnExactNeedlessTracksSpec : ChangeSpec := { name := "fnExactNeedlessTracks", fn := fun _ => fun
  | [d1, d2] => { results := [.lit (.bool true)], args := [d1, d2] }
  | _ => none }
def fnExactNeedlessTracksRow : OpenClaim := { program := "yteedohcicmgkaaa", sum := "4598c996ffc2f57a56232f831ec5cfada169962362b14d4be44d0dfee727860a", func := "loop.example/g01311/laws.FnExactNeedlessTracks", spec := "fnExactNeedlessTracks", unfollowed := true, recurses := true, apart := false }
def FnExactNeedlessTracksSaid : Prop := fnExactNeedlessTracksRow.holds Try.pinned (OpenSpec.ofChange fnExactNeedlessTracksSpec)

/-- ITS FALSE NEIGHBOUR: 'it returns false'. Refute it at one input. -/
def fnExactNeedlessTracksWrong : ChangeSpec := { name := "fnExactNeedlessTracks", fn := fun _ => fun
  | [d1, d2] => { results := [.lit (.bool false)], args := [d1, d2] }
  | _ => none }
def FnExactNeedlessTracksWrongFalsely : Prop := fnExactNeedlessTracksRow.holds Try.pinned (OpenSpec.ofChange fnExactNeedlessTracksWrong)

/-- 'laws.FnExactTreeOf': WHATEVER THE INPUT: true; the input reads as it did. -/
def fnExactTreeOfSpec : ChangeSpec := { name := "fnExactTreeOf", fn := fun _ => fun
  | [d1, d2] => { results := [.lit (.bool true)], args := [d1, d2] }
  | _ => none }
def fnExactTreeOfRow : OpenClaim := { program := "yteedohcicmgkaaa", sum := "4598c996ffc2f57a56232f831ec5cfada169962362b14d4be44d0dfee727860a", func := "loop.example/g01311/laws.FnExactTreeOf", spec := "fnExactTreeOf", unfollowed := true, recurses := true, apart := false }
def FnExactTreeOfSaid : Prop := fnExactTreeOfRow.holds Try.pinned (OpenSpec.ofChange fnExactTreeOfSpec)

/-- ITS FALSE NEIGHBOUR: 'it returns false'. Refute it at one input. -/
def fnExactTreeOfWrong : ChangeSpec := { name := "fnExactTreeOf", fn := fun _ => fun
  | [d1, d2] => { results := [.lit (.bool false)], args := [d1, d2] }
  | _ => none }
def FnExactTreeOfWrongFalsely : Prop := fnExactTreeOfRow.holds Try.pinned (OpenSpec.ofChange fnExactTreeOfWrong)

/-- 'laws.FnExactCheckTree': WHATEVER THE INPUT: true; the input reads as it did. -/
def fnExactCheckTreeSpec : ChangeSpec := { name := "fnExactCheckTree", fn := fun _ => fun
  | [d1, d2, d3] => { results := [.lit (.bool true)], args := [d1, d2, d3] }
  | _ => none }
def fnExactCheckTreeRow : OpenClaim := { program := "yteedohcicmgkaaa", sum := "4598c996ffc2f57a56232f831ec5cfada169962362b14d4be44d0dfee727860a", func := "loop.example/g01311/laws.FnExactCheckTree", spec := "fnExactCheckTree", unfollowed := true, recurses := true, apart := false }
def FnExactCheckTreeSaid : Prop := fnExactCheckTreeRow.holds Try.pinned (OpenSpec.ofChange fnExactCheckTreeSpec)

/-- ITS FALSE NEIGHBOUR: 'it returns false'. Refute it at one input. -/
def fnExactCheckTreeWrong : ChangeSpec := { name := "fnExactCheckTree", fn := fun _ => fun
  | [d1, d2, d3] => { results := [.lit (.bool false)], args := [d1, d2, d3] }
  | _ => none }
def FnExactCheckTreeWrongFalsely : Prop := fnExactCheckTreeRow.holds Try.pinned (OpenSpec.ofChange fnExactCheckTreeWrong)

/-- 'laws.FnExactMostKept': WHATEVER THE INPUT: true; the input reads as it did. -/
def fnExactMostKeptSpec : ChangeSpec := { name := "fnExactMostKept", fn := fun _ => fun
  | [d1, d2, d3] => { results := [.lit (.bool true)], args := [d1, d2, d3] }
  | _ => none }
def fnExactMostKeptRow : OpenClaim := { program := "yteedohcicmgkaaa", sum := "4598c996ffc2f57a56232f831ec5cfada169962362b14d4be44d0dfee727860a", func := "loop.example/g01311/laws.FnExactMostKept", spec := "fnExactMostKept", unfollowed := true, recurses := true, apart := false }
def FnExactMostKeptSaid : Prop := fnExactMostKeptRow.holds Try.pinned (OpenSpec.ofChange fnExactMostKeptSpec)

/-- ITS FALSE NEIGHBOUR: 'it returns false'. Refute it at one input. -/
def fnExactMostKeptWrong : ChangeSpec := { name := "fnExactMostKept", fn := fun _ => fun
  | [d1, d2, d3] => { results := [.lit (.bool false)], args := [d1, d2, d3] }
  | _ => none }
def FnExactMostKeptWrongFalsely : Prop := fnExactMostKeptRow.holds Try.pinned (OpenSpec.ofChange fnExactMostKeptWrong)

/-- 'laws.FnExactArrange': WHATEVER THE INPUT: true; the input reads as it did. -/
def fnExactArrangeSpec : ChangeSpec := { name := "fnExactArrange", fn := fun _ => fun
  | [d1, d2, d3, d4] => { results := [.lit (.bool true)], args := [d1, d2, d3, d4] }
  | _ => none }
def fnExactArrangeRow : OpenClaim := { program := "yteedohcicmgkaaa", sum := "4598c996ffc2f57a56232f831ec5cfada169962362b14d4be44d0dfee727860a", func := "loop.example/g01311/laws.FnExactArrange", spec := "fnExactArrange", unfollowed := true, recurses := true, apart := false }
def FnExactArrangeSaid : Prop := fnExactArrangeRow.holds Try.pinned (OpenSpec.ofChange fnExactArrangeSpec)

/-- ITS FALSE NEIGHBOUR: 'it returns false'. Refute it at one input. -/
def fnExactArrangeWrong : ChangeSpec := { name := "fnExactArrange", fn := fun _ => fun
  | [d1, d2, d3, d4] => { results := [.lit (.bool false)], args := [d1, d2, d3, d4] }
  | _ => none }
def FnExactArrangeWrongFalsely : Prop := fnExactArrangeRow.holds Try.pinned (OpenSpec.ofChange fnExactArrangeWrong)

/- THE SECOND FORM. 'bulk': how many values and letters a reading holds, each counted each time it is reached (what is shared counts as often as it is met; a slice's spare places count too). A statement '..UptoSaid' is the law's where the arguments, and the package variables that the reading takes, are together of bulk at most 1048576: NARROWER than '..Said'. Prove '..Said' where nothing that the law and all that it calls make is longer than what came in: it says more and counts as full. Else prove '..UptoSaid'. A law counts once. -/
mutual
def uptoBulk {H : Type} : DataW H → Nat
  | .lit (.string bytes) => bytes.length + 1
  | .lit _ => 1
  | .nil => 1
  | .ptr d => uptoBulk d + 1
  | .slice elems spare => uptoBulkAll elems + uptoBulkAll spare + 1
  | .agg parts => uptoBulkAll parts + 1
  | .iface _ d => uptoBulk d + 1
  | .map entries => uptoBulkEntries entries + 1
  | .held _ => 1
def uptoBulkAll {H : Type} : List (DataW H) → Nat
  | [] => 0
  | d :: r => uptoBulk d + uptoBulkAll r
def uptoBulkEntries {H : Type} : List (Lit × DataW H) → Nat
  | [] => 0
  | x :: r => uptoBulkEntry x + uptoBulkEntries r
def uptoBulkEntry {H : Type} : Lit × DataW H → Nat
  | (.string bytes, d) => bytes.length + uptoBulk d + 1
  | (_, d) => uptoBulk d + 1
 end
def uptoSmall : (H : Type) → List (DataW H) → Bool := fun _ ds => decide (uptoBulkAll ds ≤ 1048576)
def OpenSpec.upto (s : _root_.Go.ChangeSpec) : _root_.Go.OpenSpec := { _root_.Go.OpenSpec.ofChange s with cond := some uptoSmall }

/-- 'laws.FnExactBestCircle', WHERE WHAT IT READS IS OF BULK AT MOST 1048576: true; the input reads as it did. -/
def fnExactBestCircleUptoRow : OpenClaim := { program := "yteedohcicmgkaaa", sum := "4598c996ffc2f57a56232f831ec5cfada169962362b14d4be44d0dfee727860a", func := "loop.example/g01311/laws.FnExactBestCircle", spec := "fnExactBestCircle", unfollowed := true, recurses := true, apart := false, narrowed := true }
def FnExactBestCircleUptoSaid : Prop := fnExactBestCircleUptoRow.holds Try.pinned (OpenSpec.upto fnExactBestCircleSpec)

/-- 'laws.FnExactBestOrder', WHERE WHAT IT READS IS OF BULK AT MOST 1048576: true; the input reads as it did. -/
def fnExactBestOrderUptoRow : OpenClaim := { program := "yteedohcicmgkaaa", sum := "4598c996ffc2f57a56232f831ec5cfada169962362b14d4be44d0dfee727860a", func := "loop.example/g01311/laws.FnExactBestOrder", spec := "fnExactBestOrder", unfollowed := true, recurses := true, apart := false, narrowed := true }
def FnExactBestOrderUptoSaid : Prop := fnExactBestOrderUptoRow.holds Try.pinned (OpenSpec.upto fnExactBestOrderSpec)

/-- 'laws.FnExactNeedlessTracks', WHERE WHAT IT READS IS OF BULK AT MOST 1048576: true; the input reads as it did. -/
def fnExactNeedlessTracksUptoRow : OpenClaim := { program := "yteedohcicmgkaaa", sum := "4598c996ffc2f57a56232f831ec5cfada169962362b14d4be44d0dfee727860a", func := "loop.example/g01311/laws.FnExactNeedlessTracks", spec := "fnExactNeedlessTracks", unfollowed := true, recurses := true, apart := false, narrowed := true }
def FnExactNeedlessTracksUptoSaid : Prop := fnExactNeedlessTracksUptoRow.holds Try.pinned (OpenSpec.upto fnExactNeedlessTracksSpec)

/-- 'laws.FnExactTreeOf', WHERE WHAT IT READS IS OF BULK AT MOST 1048576: true; the input reads as it did. -/
def fnExactTreeOfUptoRow : OpenClaim := { program := "yteedohcicmgkaaa", sum := "4598c996ffc2f57a56232f831ec5cfada169962362b14d4be44d0dfee727860a", func := "loop.example/g01311/laws.FnExactTreeOf", spec := "fnExactTreeOf", unfollowed := true, recurses := true, apart := false, narrowed := true }
def FnExactTreeOfUptoSaid : Prop := fnExactTreeOfUptoRow.holds Try.pinned (OpenSpec.upto fnExactTreeOfSpec)

/-- 'laws.FnExactCheckTree', WHERE WHAT IT READS IS OF BULK AT MOST 1048576: true; the input reads as it did. -/
def fnExactCheckTreeUptoRow : OpenClaim := { program := "yteedohcicmgkaaa", sum := "4598c996ffc2f57a56232f831ec5cfada169962362b14d4be44d0dfee727860a", func := "loop.example/g01311/laws.FnExactCheckTree", spec := "fnExactCheckTree", unfollowed := true, recurses := true, apart := false, narrowed := true }
def FnExactCheckTreeUptoSaid : Prop := fnExactCheckTreeUptoRow.holds Try.pinned (OpenSpec.upto fnExactCheckTreeSpec)

/-- 'laws.FnExactMostKept', WHERE WHAT IT READS IS OF BULK AT MOST 1048576: true; the input reads as it did. -/
def fnExactMostKeptUptoRow : OpenClaim := { program := "yteedohcicmgkaaa", sum := "4598c996ffc2f57a56232f831ec5cfada169962362b14d4be44d0dfee727860a", func := "loop.example/g01311/laws.FnExactMostKept", spec := "fnExactMostKept", unfollowed := true, recurses := true, apart := false, narrowed := true }
def FnExactMostKeptUptoSaid : Prop := fnExactMostKeptUptoRow.holds Try.pinned (OpenSpec.upto fnExactMostKeptSpec)

/-- 'laws.FnExactArrange', WHERE WHAT IT READS IS OF BULK AT MOST 1048576: true; the input reads as it did. -/
def fnExactArrangeUptoRow : OpenClaim := { program := "yteedohcicmgkaaa", sum := "4598c996ffc2f57a56232f831ec5cfada169962362b14d4be44d0dfee727860a", func := "loop.example/g01311/laws.FnExactArrange", spec := "fnExactArrange", unfollowed := true, recurses := true, apart := false, narrowed := true }
def FnExactArrangeUptoSaid : Prop := fnExactArrangeUptoRow.holds Try.pinned (OpenSpec.upto fnExactArrangeSpec)

end Rows
end Go.Proofs.Yteedohcicmgkaaa
