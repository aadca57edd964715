/- Valid tunes: the program's test is the reference's. -/
import Derived.Test.YtpmndjejabjniaaDoorT
import Derived.Test.YtpmndjejabjniaaDoorPFrame
import Derived.Test.YtpmndjejabjniaaDoorPDrum
import Derived.Test.YtpmndjejabjniaaDoorPure
namespace Go.Proofs.YtpmndjejabjniaaDoor
open Eng
set_option linter.unusedVariables false
set_option linter.unusedSimpArgs false


end Go.Proofs.YtpmndjejabjniaaDoor
