/- The text of choices: the program's is the reference's. -/
import Derived.Test.YtpldkddkmnpdcaaGreatDoorT
import Derived.Test.YtpldkddkmnpdcaaGreatDoorPFrame
import Derived.Test.YtpldkddkmnpdcaaGreatDoorPWear
import Derived.Test.YtpldkddkmnpdcaaGreatDoorPChoices
import Derived.Test.YtpldkddkmnpdcaaGreatDoorPFit
import Derived.Test.YtpldkddkmnpdcaaGreatDoorPTxt
import Derived.Test.YtpldkddkmnpdcaaGreatDoorPJoin
import Derived.Test.YtpldkddkmnpdcaaGreatDoorPure
namespace Go.Proofs.YtpldkddkmnpdcaaGreatDoor
open Eng
set_option linter.unusedVariables false
set_option linter.unusedSimpArgs false


end Go.Proofs.YtpldkddkmnpdcaaGreatDoor
