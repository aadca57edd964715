/- The drum with the pins of a wear, the program's and the reference's. -/
import Derived.Test.YtilackblefjgdaaT
import Derived.Test.YtilackblefjgdaaPFrame
import Derived.Test.YtilackblefjgdaaPDrum
import Derived.Test.YtilackblefjgdaaPWear
import Derived.Test.YtilackblefjgdaaPPut
import Derived.Test.YtilackblefjgdaaPure
namespace Go.Proofs.Ytilackblefjgdaa
open Eng
set_option linter.unusedVariables false
set_option linter.unusedSimpArgs false

/-- whether a wear has a pin at a place -/
def hasPin (ps : List GWornPin) (s t : Nat) : Bool := ps.any fun p => decide (p.fStep = (s : Int)) && decide (p.fTrack = (t : Int))
theorem hasPin_snoc (ps : List GWornPin) (p : GWornPin) (s t : Nat) : hasPin (ps ++ [p]) s t = (hasPin ps s t || (decide (p.fStep = (s : Int)) && decide (p.fTrack = (t : Int)))) := by
  unfold hasPin; simp
end Go.Proofs.Ytilackblefjgdaa
