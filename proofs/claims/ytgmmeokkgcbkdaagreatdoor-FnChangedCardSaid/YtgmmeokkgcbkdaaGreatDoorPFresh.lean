/- A fresh wear: the program's way is the reference's. -/
import Derived.Test.YtgmmeokkgcbkdaaGreatDoorT
import Derived.Test.YtgmmeokkgcbkdaaGreatDoorPFrame
import Derived.Test.YtgmmeokkgcbkdaaGreatDoorPDrum
import Derived.Test.YtgmmeokkgcbkdaaGreatDoorPCodes
import Derived.Test.YtgmmeokkgcbkdaaGreatDoorPure
namespace Go.Proofs.YtgmmeokkgcbkdaaGreatDoor
open Eng
set_option linter.unusedVariables false
set_option linter.unusedSimpArgs false


end Go.Proofs.YtgmmeokkgcbkdaaGreatDoor
