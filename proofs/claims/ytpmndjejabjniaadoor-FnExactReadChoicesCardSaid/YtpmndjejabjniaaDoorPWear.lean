/- Valid wear: the program's test is the reference's, and what a valid wear is. -/
import Derived.Test.YtpmndjejabjniaaDoorT
import Derived.Test.YtpmndjejabjniaaDoorPFrame
import Derived.Test.YtpmndjejabjniaaDoorPDrum
import Derived.Test.YtpmndjejabjniaaDoorPure
namespace Go.Proofs.YtpmndjejabjniaaDoor
open Eng
set_option linter.unusedVariables false
set_option linter.unusedSimpArgs false

def tuB (n : Int) : Bool := decide (0 ≤ n) && decide (n ≤ 1000000)
end Go.Proofs.YtpmndjejabjniaaDoor
