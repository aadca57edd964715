/- The opening of the law's parameters: what a value that came in looks like; and what the law's helpers come to. Printed by a program. -/
import Derived.Test.YtpldkddkmnpdcaaGreatDoorM0
import Derived.Test.YtpldkddkmnpdcaaGreatDoorM1
import Derived.Test.YtpldkddkmnpdcaaGreatDoorM2
import Derived.Test.YtpldkddkmnpdcaaGreatDoorOpen
import Derived.Test.YtpldkddkmnpdcaaGreatDoorPure
namespace Go.Proofs.YtpldkddkmnpdcaaGreatDoor
open Eng
set_option linter.unusedVariables false

set_option linter.unusedSimpArgs false



end Go.Proofs.YtpldkddkmnpdcaaGreatDoor
