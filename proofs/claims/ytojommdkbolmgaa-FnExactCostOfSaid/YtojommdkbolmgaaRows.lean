/-
  No cell of these rows narrows 'for every input' (looked for: loops, veiled, ifaces, maps, wideKeys, modest, calm, conditions, laid).
  DERIVED. THE GIVEN ROWS OF THIS SEAT. 6 by the template 'for every input the law returns true; each argument reads behind the call as it read before'; 0 by the template 'total and deterministic' (their statements: YtojommdkbolmgaaTotals.lean).
  GIVEN WITH THE SEED: the statements are not yours to turn. If you find one false, say at which input.
  Laid BY PROGRAM, IN A SANDBOX (cutbox-rows.mjs): the forced cells as the released guide's own fill.sh prints them over the translation a937fc72afc06042… (all of the seat's roots in one cut). By AI agents, Wed Nov 11 2026. No macro, syntax, notation, axiom, sorry.
-/
import Derived.Test.YtojommdkbolmgaaChecked
import GoSem.Claim
import GoSem.ClaimJoined
import GoSem.ClaimMapViews
import Derived.JoinedTies
import Derived.KernelRfl
namespace Go.Proofs.Ytojommdkbolmgaa
/- THE CELL 'sum', in the pinned program and in every row, IS THE sha256 OF THE DUMP (.gsa) THAT YtojommdkbolmgaaProg.lean LOADS. Nothing in Lean hashes anything: it is a label: what it is worth is what the hold of that sum in a sandbox is worth. -/
noncomputable def Try.pinned : Pinned := { name := "ytojommdkbolmgaa", sum := "a937fc72afc060421f8921f136173185bb3c662d66db69d17e8f57980ac3a8dd", checked := Try.checked }
namespace Rows
def none {H : Type} : Left H := { results := [], args := [] }

/-- 'laws.FnExactValidLives': WHATEVER THE INPUT: true; the input reads as it did. -/
def fnExactValidLivesSpec : ChangeSpec := { name := "fnExactValidLives", fn := fun _ => fun
  | [d] => { results := [.lit (.bool true)], args := [d] }
  | _ => none }
def fnExactValidLivesRow : OpenClaim := { program := "ytojommdkbolmgaa", sum := "a937fc72afc060421f8921f136173185bb3c662d66db69d17e8f57980ac3a8dd", func := "loop.example/g01311/laws.FnExactValidLives", spec := "fnExactValidLives", apart := false }
def FnExactValidLivesSaid : Prop := fnExactValidLivesRow.holds Try.pinned (OpenSpec.ofChange fnExactValidLivesSpec)

/-- ITS FALSE NEIGHBOUR: 'it returns false'. Refute it at one input. -/
def fnExactValidLivesWrong : ChangeSpec := { name := "fnExactValidLives", fn := fun _ => fun
  | [d] => { results := [.lit (.bool false)], args := [d] }
  | _ => none }
def FnExactValidLivesWrongFalsely : Prop := fnExactValidLivesRow.holds Try.pinned (OpenSpec.ofChange fnExactValidLivesWrong)

/-- 'laws.FnExactValidCosts': WHATEVER THE INPUT: true; the input reads as it did. -/
def fnExactValidCostsSpec : ChangeSpec := { name := "fnExactValidCosts", fn := fun _ => fun
  | [d] => { results := [.lit (.bool true)], args := [d] }
  | _ => none }
def fnExactValidCostsRow : OpenClaim := { program := "ytojommdkbolmgaa", sum := "a937fc72afc060421f8921f136173185bb3c662d66db69d17e8f57980ac3a8dd", func := "loop.example/g01311/laws.FnExactValidCosts", spec := "fnExactValidCosts", apart := false }
def FnExactValidCostsSaid : Prop := fnExactValidCostsRow.holds Try.pinned (OpenSpec.ofChange fnExactValidCostsSpec)

/-- ITS FALSE NEIGHBOUR: 'it returns false'. Refute it at one input. -/
def fnExactValidCostsWrong : ChangeSpec := { name := "fnExactValidCosts", fn := fun _ => fun
  | [d] => { results := [.lit (.bool false)], args := [d] }
  | _ => none }
def FnExactValidCostsWrongFalsely : Prop := fnExactValidCostsRow.holds Try.pinned (OpenSpec.ofChange fnExactValidCostsWrong)

/-- 'laws.FnExactValidChoice': WHATEVER THE INPUT: true; the input reads as it did. -/
def fnExactValidChoiceSpec : ChangeSpec := { name := "fnExactValidChoice", fn := fun _ => fun
  | [d] => { results := [.lit (.bool true)], args := [d] }
  | _ => none }
def fnExactValidChoiceRow : OpenClaim := { program := "ytojommdkbolmgaa", sum := "a937fc72afc060421f8921f136173185bb3c662d66db69d17e8f57980ac3a8dd", func := "loop.example/g01311/laws.FnExactValidChoice", spec := "fnExactValidChoice", apart := false }
def FnExactValidChoiceSaid : Prop := fnExactValidChoiceRow.holds Try.pinned (OpenSpec.ofChange fnExactValidChoiceSpec)

/-- ITS FALSE NEIGHBOUR: 'it returns false'. Refute it at one input. -/
def fnExactValidChoiceWrong : ChangeSpec := { name := "fnExactValidChoice", fn := fun _ => fun
  | [d] => { results := [.lit (.bool false)], args := [d] }
  | _ => none }
def FnExactValidChoiceWrongFalsely : Prop := fnExactValidChoiceRow.holds Try.pinned (OpenSpec.ofChange fnExactValidChoiceWrong)

/-- 'laws.FnExactNoteOf': WHATEVER THE INPUT: true; the input reads as it did. -/
def fnExactNoteOfSpec : ChangeSpec := { name := "fnExactNoteOf", fn := fun _ => fun
  | [d1, d2] => { results := [.lit (.bool true)], args := [d1, d2] }
  | _ => none }
def fnExactNoteOfRow : OpenClaim := { program := "ytojommdkbolmgaa", sum := "a937fc72afc060421f8921f136173185bb3c662d66db69d17e8f57980ac3a8dd", func := "loop.example/g01311/laws.FnExactNoteOf", spec := "fnExactNoteOf", apart := false }
def FnExactNoteOfSaid : Prop := fnExactNoteOfRow.holds Try.pinned (OpenSpec.ofChange fnExactNoteOfSpec)

/-- ITS FALSE NEIGHBOUR: 'it returns false'. Refute it at one input. -/
def fnExactNoteOfWrong : ChangeSpec := { name := "fnExactNoteOf", fn := fun _ => fun
  | [d1, d2] => { results := [.lit (.bool false)], args := [d1, d2] }
  | _ => none }
def FnExactNoteOfWrongFalsely : Prop := fnExactNoteOfRow.holds Try.pinned (OpenSpec.ofChange fnExactNoteOfWrong)

/-- 'laws.FnExactSameWear': WHATEVER THE INPUT: true; the input reads as it did. -/
def fnExactSameWearSpec : ChangeSpec := { name := "fnExactSameWear", fn := fun _ => fun
  | [d1, d2] => { results := [.lit (.bool true)], args := [d1, d2] }
  | _ => none }
def fnExactSameWearRow : OpenClaim := { program := "ytojommdkbolmgaa", sum := "a937fc72afc060421f8921f136173185bb3c662d66db69d17e8f57980ac3a8dd", func := "loop.example/g01311/laws.FnExactSameWear", spec := "fnExactSameWear", apart := false }
def FnExactSameWearSaid : Prop := fnExactSameWearRow.holds Try.pinned (OpenSpec.ofChange fnExactSameWearSpec)

/-- ITS FALSE NEIGHBOUR: 'it returns false'. Refute it at one input. -/
def fnExactSameWearWrong : ChangeSpec := { name := "fnExactSameWear", fn := fun _ => fun
  | [d1, d2] => { results := [.lit (.bool false)], args := [d1, d2] }
  | _ => none }
def FnExactSameWearWrongFalsely : Prop := fnExactSameWearRow.holds Try.pinned (OpenSpec.ofChange fnExactSameWearWrong)

/-- 'laws.FnExactCostOf': WHATEVER THE INPUT: true; the input reads as it did. -/
def fnExactCostOfSpec : ChangeSpec := { name := "fnExactCostOf", fn := fun _ => fun
  | [d1, d2] => { results := [.lit (.bool true)], args := [d1, d2] }
  | _ => none }
def fnExactCostOfRow : OpenClaim := { program := "ytojommdkbolmgaa", sum := "a937fc72afc060421f8921f136173185bb3c662d66db69d17e8f57980ac3a8dd", func := "loop.example/g01311/laws.FnExactCostOf", spec := "fnExactCostOf", unfollowed := true, recurses := true, apart := false }
def FnExactCostOfSaid : Prop := fnExactCostOfRow.holds Try.pinned (OpenSpec.ofChange fnExactCostOfSpec)

/-- ITS FALSE NEIGHBOUR: 'it returns false'. Refute it at one input. -/
def fnExactCostOfWrong : ChangeSpec := { name := "fnExactCostOf", fn := fun _ => fun
  | [d1, d2] => { results := [.lit (.bool false)], args := [d1, d2] }
  | _ => none }
def FnExactCostOfWrongFalsely : Prop := fnExactCostOfRow.holds Try.pinned (OpenSpec.ofChange fnExactCostOfWrong)

/- THE SECOND FORM. 'bulk': how many values and letters a reading holds, each counted each time it is reached (what is shared counts as often as it is met; a slice's spare places count too). A statement '..UptoSaid' is the law's where the arguments, and the package variables that the reading takes, are together of bulk at most 1048576: NARROWER than '..Said'. Prove '..Said' where nothing that the law and all that it calls make is longer than what came in: it says more and counts as full. Else prove '..UptoSaid'. A law counts once. -/
mutual
def uptoBulk {H : Type} : DataW H → Nat
  | .lit (.string bytes) => bytes.length + 1
  | .lit _ => 1
  | .nil => 1
  | .ptr d => uptoBulk d + 1
  | .slice elems spare => uptoBulkAll elems + uptoBulkAll spare + 1
  | .agg parts => uptoBulkAll parts + 1
  | .iface _ d => uptoBulk d + 1
  | .map entries => uptoBulkEntries entries + 1
  | .held _ => 1
def uptoBulkAll {H : Type} : List (DataW H) → Nat
  | [] => 0
  | d :: r => uptoBulk d + uptoBulkAll r
def uptoBulkEntries {H : Type} : List (Lit × DataW H) → Nat
  | [] => 0
  | x :: r => uptoBulkEntry x + uptoBulkEntries r
def uptoBulkEntry {H : Type} : Lit × DataW H → Nat
  | (.string bytes, d) => bytes.length + uptoBulk d + 1
  | (_, d) => uptoBulk d + 1
 end
def uptoSmall : (H : Type) → List (DataW H) → Bool := fun _ ds => decide (uptoBulkAll ds ≤ 1048576)
def OpenSpec.upto (s : _root_.Go.ChangeSpec) : _root_.Go.OpenSpec := { _root_.Go.OpenSpec.ofChange s with cond := some uptoSmall }

/-- 'laws.FnExactValidLives', WHERE WHAT IT READS IS OF BULK AT MOST 1048576: true; the input reads as it did. -/
def fnExactValidLivesUptoRow : OpenClaim := { program := "ytojommdkbolmgaa", sum := "a937fc72afc060421f8921f136173185bb3c662d66db69d17e8f57980ac3a8dd", func := "loop.example/g01311/laws.FnExactValidLives", spec := "fnExactValidLives", apart := false, narrowed := true }
def FnExactValidLivesUptoSaid : Prop := fnExactValidLivesUptoRow.holds Try.pinned (OpenSpec.upto fnExactValidLivesSpec)

/-- 'laws.FnExactValidCosts', WHERE WHAT IT READS IS OF BULK AT MOST 1048576: true; the input reads as it did. -/
def fnExactValidCostsUptoRow : OpenClaim := { program := "ytojommdkbolmgaa", sum := "a937fc72afc060421f8921f136173185bb3c662d66db69d17e8f57980ac3a8dd", func := "loop.example/g01311/laws.FnExactValidCosts", spec := "fnExactValidCosts", apart := false, narrowed := true }
def FnExactValidCostsUptoSaid : Prop := fnExactValidCostsUptoRow.holds Try.pinned (OpenSpec.upto fnExactValidCostsSpec)

/-- 'laws.FnExactValidChoice', WHERE WHAT IT READS IS OF BULK AT MOST 1048576: true; the input reads as it did. -/
def fnExactValidChoiceUptoRow : OpenClaim := { program := "ytojommdkbolmgaa", sum := "a937fc72afc060421f8921f136173185bb3c662d66db69d17e8f57980ac3a8dd", func := "loop.example/g01311/laws.FnExactValidChoice", spec := "fnExactValidChoice", apart := false, narrowed := true }
def FnExactValidChoiceUptoSaid : Prop := fnExactValidChoiceUptoRow.holds Try.pinned (OpenSpec.upto fnExactValidChoiceSpec)

/-- 'laws.FnExactNoteOf', WHERE WHAT IT READS IS OF BULK AT MOST 1048576: true; the input reads as it did. -/
def fnExactNoteOfUptoRow : OpenClaim := { program := "ytojommdkbolmgaa", sum := "a937fc72afc060421f8921f136173185bb3c662d66db69d17e8f57980ac3a8dd", func := "loop.example/g01311/laws.FnExactNoteOf", spec := "fnExactNoteOf", apart := false, narrowed := true }
def FnExactNoteOfUptoSaid : Prop := fnExactNoteOfUptoRow.holds Try.pinned (OpenSpec.upto fnExactNoteOfSpec)

/-- 'laws.FnExactSameWear', WHERE WHAT IT READS IS OF BULK AT MOST 1048576: true; the input reads as it did. -/
def fnExactSameWearUptoRow : OpenClaim := { program := "ytojommdkbolmgaa", sum := "a937fc72afc060421f8921f136173185bb3c662d66db69d17e8f57980ac3a8dd", func := "loop.example/g01311/laws.FnExactSameWear", spec := "fnExactSameWear", apart := false, narrowed := true }
def FnExactSameWearUptoSaid : Prop := fnExactSameWearUptoRow.holds Try.pinned (OpenSpec.upto fnExactSameWearSpec)

/-- 'laws.FnExactCostOf', WHERE WHAT IT READS IS OF BULK AT MOST 1048576: true; the input reads as it did. -/
def fnExactCostOfUptoRow : OpenClaim := { program := "ytojommdkbolmgaa", sum := "a937fc72afc060421f8921f136173185bb3c662d66db69d17e8f57980ac3a8dd", func := "loop.example/g01311/laws.FnExactCostOf", spec := "fnExactCostOf", unfollowed := true, recurses := true, apart := false, narrowed := true }
def FnExactCostOfUptoSaid : Prop := fnExactCostOfUptoRow.holds Try.pinned (OpenSpec.upto fnExactCostOfSpec)

end Rows
end Go.Proofs.Ytojommdkbolmgaa
