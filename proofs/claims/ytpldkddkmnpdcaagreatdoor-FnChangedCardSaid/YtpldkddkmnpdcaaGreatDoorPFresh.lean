/- A fresh wear: the program's way is the reference's. -/
import Derived.Test.YtpldkddkmnpdcaaGreatDoorT
import Derived.Test.YtpldkddkmnpdcaaGreatDoorPFrame
import Derived.Test.YtpldkddkmnpdcaaGreatDoorPDrum
import Derived.Test.YtpldkddkmnpdcaaGreatDoorPCodes
import Derived.Test.YtpldkddkmnpdcaaGreatDoorPure
namespace Go.Proofs.YtpldkddkmnpdcaaGreatDoor
open Eng
set_option linter.unusedVariables false
set_option linter.unusedSimpArgs false


end Go.Proofs.YtpldkddkmnpdcaaGreatDoor
