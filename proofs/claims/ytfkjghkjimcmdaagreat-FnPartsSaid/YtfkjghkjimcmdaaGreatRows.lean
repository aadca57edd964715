/-
  No cell of these rows narrows 'for every input' (looked for: loops, veiled, ifaces, maps, wideKeys, modest, calm, conditions, laid).
  DERIVED. THE GIVEN ROWS OF THIS SEAT. 3 by the template 'for every input the law returns true; each argument reads behind the call as it read before'; 0 by the template 'total and deterministic' (their statements: YtfkjghkjimcmdaaGreatTotals.lean).
  GIVEN WITH THE SEED: the statements are not yours to turn. If you find one false, say at which input.
  Laid BY PROGRAM, IN A SANDBOX (cutbox-rows.mjs): the forced cells as the released guide's own fill.sh prints them over the translation 50085e61a628ac8f… (all of the seat's roots in one cut). By AI agents, Wed Nov 11 2026. No macro, syntax, notation, axiom, sorry.
-/
import Derived.Test.YtfkjghkjimcmdaaGreatChecked
import GoSem.Claim
import GoSem.ClaimJoined
import GoSem.ClaimMapViews
import Derived.JoinedTies
import Derived.KernelRfl
namespace Go.Proofs.YtfkjghkjimcmdaaGreat
/- THE CELL 'sum', in the pinned program and in every row, IS THE sha256 OF THE DUMP (.gsa) THAT YtfkjghkjimcmdaaGreatProg.lean LOADS. Nothing in Lean hashes anything: it is a label: what it is worth is what the hold of that sum in a sandbox is worth. -/
noncomputable def Tryz.pinned : Pinned := { name := "ytfkjghkjimcmdaagreat", sum := "50085e61a628ac8fe0931c8d0091974baff21b5c1bf9f72f181a3cfd7e67e192", checked := Tryz.checked }
namespace Rows
def none {H : Type} : Left H := { results := [], args := [] }

/-- 'laws.FnExactDoWearActs': WHATEVER THE INPUT: true; the input reads as it did. -/
def fnExactDoWearActsSpec : ChangeSpec := { name := "fnExactDoWearActs", fn := fun _ => fun
  | [d1, d2, d3, d4] => { results := [.lit (.bool true)], args := [d1, d2, d3, d4] }
  | _ => none }
def fnExactDoWearActsRow : OpenClaim := { program := "ytfkjghkjimcmdaagreat", sum := "50085e61a628ac8fe0931c8d0091974baff21b5c1bf9f72f181a3cfd7e67e192", func := "loop.example/g01311/laws.FnExactDoWearActs", spec := "fnExactDoWearActs", unfollowed := true, recurses := true, apart := false }
def FnExactDoWearActsSaid : Prop := fnExactDoWearActsRow.holds Tryz.pinned (OpenSpec.ofChange fnExactDoWearActsSpec)

/-- ITS FALSE NEIGHBOUR: 'it returns false'. Refute it at one input. -/
def fnExactDoWearActsWrong : ChangeSpec := { name := "fnExactDoWearActs", fn := fun _ => fun
  | [d1, d2, d3, d4] => { results := [.lit (.bool false)], args := [d1, d2, d3, d4] }
  | _ => none }
def FnExactDoWearActsWrongFalsely : Prop := fnExactDoWearActsRow.holds Tryz.pinned (OpenSpec.ofChange fnExactDoWearActsWrong)

/-- 'laws.FnExactFirstBreak': WHATEVER THE INPUT: true; the input reads as it did. -/
def fnExactFirstBreakSpec : ChangeSpec := { name := "fnExactFirstBreak", fn := fun _ => fun
  | [d1, d2, d3, d4] => { results := [.lit (.bool true)], args := [d1, d2, d3, d4] }
  | _ => none }
def fnExactFirstBreakRow : OpenClaim := { program := "ytfkjghkjimcmdaagreat", sum := "50085e61a628ac8fe0931c8d0091974baff21b5c1bf9f72f181a3cfd7e67e192", func := "loop.example/g01311/laws.FnExactFirstBreak", spec := "fnExactFirstBreak", unfollowed := true, recurses := true, apart := false }
def FnExactFirstBreakSaid : Prop := fnExactFirstBreakRow.holds Tryz.pinned (OpenSpec.ofChange fnExactFirstBreakSpec)

/-- ITS FALSE NEIGHBOUR: 'it returns false'. Refute it at one input. -/
def fnExactFirstBreakWrong : ChangeSpec := { name := "fnExactFirstBreak", fn := fun _ => fun
  | [d1, d2, d3, d4] => { results := [.lit (.bool false)], args := [d1, d2, d3, d4] }
  | _ => none }
def FnExactFirstBreakWrongFalsely : Prop := fnExactFirstBreakRow.holds Tryz.pinned (OpenSpec.ofChange fnExactFirstBreakWrong)

/-- 'laws.FnParts': WHATEVER THE INPUT: true; the input reads as it did. -/
def fnPartsSpec : ChangeSpec := { name := "fnParts", fn := fun _ => fun
  | [d1, d2] => { results := [.lit (.bool true)], args := [d1, d2] }
  | _ => none }
def fnPartsRow : OpenClaim := { program := "ytfkjghkjimcmdaagreat", sum := "50085e61a628ac8fe0931c8d0091974baff21b5c1bf9f72f181a3cfd7e67e192", func := "loop.example/g01311/laws.FnParts", spec := "fnParts", unfollowed := true, recurses := true, apart := false }
def FnPartsSaid : Prop := fnPartsRow.holds Tryz.pinned (OpenSpec.ofChange fnPartsSpec)

/-- ITS FALSE NEIGHBOUR: 'it returns false'. Refute it at one input. -/
def fnPartsWrong : ChangeSpec := { name := "fnParts", fn := fun _ => fun
  | [d1, d2] => { results := [.lit (.bool false)], args := [d1, d2] }
  | _ => none }
def FnPartsWrongFalsely : Prop := fnPartsRow.holds Tryz.pinned (OpenSpec.ofChange fnPartsWrong)

/- THE SECOND FORM. 'bulk': how many values and letters a reading holds, each counted each time it is reached (what is shared counts as often as it is met; a slice's spare places count too). A statement '..UptoSaid' is the law's where the arguments, and the package variables that the reading takes, are together of bulk at most 1048576: NARROWER than '..Said'. Prove '..Said' where nothing that the law and all that it calls make is longer than what came in: it says more and counts as full. Else prove '..UptoSaid'. A law counts once. -/
mutual
def uptoBulk {H : Type} : DataW H → Nat
  | .lit (.string bytes) => bytes.length + 1
  | .lit _ => 1
  | .nil => 1
  | .ptr d => uptoBulk d + 1
  | .slice elems spare => uptoBulkAll elems + uptoBulkAll spare + 1
  | .agg parts => uptoBulkAll parts + 1
  | .iface _ d => uptoBulk d + 1
  | .map entries => uptoBulkEntries entries + 1
  | .held _ => 1
def uptoBulkAll {H : Type} : List (DataW H) → Nat
  | [] => 0
  | d :: r => uptoBulk d + uptoBulkAll r
def uptoBulkEntries {H : Type} : List (Lit × DataW H) → Nat
  | [] => 0
  | x :: r => uptoBulkEntry x + uptoBulkEntries r
def uptoBulkEntry {H : Type} : Lit × DataW H → Nat
  | (.string bytes, d) => bytes.length + uptoBulk d + 1
  | (_, d) => uptoBulk d + 1
 end
def uptoSmall : (H : Type) → List (DataW H) → Bool := fun _ ds => decide (uptoBulkAll ds ≤ 1048576)
def OpenSpec.upto (s : _root_.Go.ChangeSpec) : _root_.Go.OpenSpec := { _root_.Go.OpenSpec.ofChange s with cond := some uptoSmall }

/-- 'laws.FnExactDoWearActs', WHERE WHAT IT READS IS OF BULK AT MOST 1048576: true; the input reads as it did. -/
def fnExactDoWearActsUptoRow : OpenClaim := { program := "ytfkjghkjimcmdaagreat", sum := "50085e61a628ac8fe0931c8d0091974baff21b5c1bf9f72f181a3cfd7e67e192", func := "loop.example/g01311/laws.FnExactDoWearActs", spec := "fnExactDoWearActs", unfollowed := true, recurses := true, apart := false, narrowed := true }
def FnExactDoWearActsUptoSaid : Prop := fnExactDoWearActsUptoRow.holds Tryz.pinned (OpenSpec.upto fnExactDoWearActsSpec)

/-- 'laws.FnExactFirstBreak', WHERE WHAT IT READS IS OF BULK AT MOST 1048576: true; the input reads as it did. -/
def fnExactFirstBreakUptoRow : OpenClaim := { program := "ytfkjghkjimcmdaagreat", sum := "50085e61a628ac8fe0931c8d0091974baff21b5c1bf9f72f181a3cfd7e67e192", func := "loop.example/g01311/laws.FnExactFirstBreak", spec := "fnExactFirstBreak", unfollowed := true, recurses := true, apart := false, narrowed := true }
def FnExactFirstBreakUptoSaid : Prop := fnExactFirstBreakUptoRow.holds Tryz.pinned (OpenSpec.upto fnExactFirstBreakSpec)

/-- 'laws.FnParts', WHERE WHAT IT READS IS OF BULK AT MOST 1048576: true; the input reads as it did. -/
def fnPartsUptoRow : OpenClaim := { program := "ytfkjghkjimcmdaagreat", sum := "50085e61a628ac8fe0931c8d0091974baff21b5c1bf9f72f181a3cfd7e67e192", func := "loop.example/g01311/laws.FnParts", spec := "fnParts", unfollowed := true, recurses := true, apart := false, narrowed := true }
def FnPartsUptoSaid : Prop := fnPartsUptoRow.holds Tryz.pinned (OpenSpec.upto fnPartsSpec)

end Rows
end Go.Proofs.YtfkjghkjimcmdaaGreat
