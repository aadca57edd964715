/- Drums and wears drawn from bytes are valid, and what is turned in them is small. -/
import Derived.Test.YtgmmeokkgcbkdaaGreatDoorT
import Derived.Test.YtgmmeokkgcbkdaaGreatDoorPFrame
import Derived.Test.YtgmmeokkgcbkdaaGreatDoorPDrum
import Derived.Test.YtgmmeokkgcbkdaaGreatDoorPCodes
import Derived.Test.YtgmmeokkgcbkdaaGreatDoorPPut
import Derived.Test.YtgmmeokkgcbkdaaGreatDoorPWear
import Derived.Test.YtgmmeokkgcbkdaaGreatDoorPFit
import Derived.Test.YtgmmeokkgcbkdaaGreatDoorPFresh
import Derived.Test.YtgmmeokkgcbkdaaGreatDoorPDraw
import Derived.Test.YtgmmeokkgcbkdaaGreatDoorPDrawDrum
import Derived.Test.YtgmmeokkgcbkdaaGreatDoorPDrawD
import Derived.Test.YtgmmeokkgcbkdaaGreatDoorPure
namespace Go.Proofs.YtgmmeokkgcbkdaaGreatDoor
open Eng
set_option linter.unusedVariables false
set_option linter.unusedSimpArgs false


end Go.Proofs.YtgmmeokkgcbkdaaGreatDoor
