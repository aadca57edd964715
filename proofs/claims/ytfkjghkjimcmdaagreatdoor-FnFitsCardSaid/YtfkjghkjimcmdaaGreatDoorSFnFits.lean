/- The opening of the law's parameters: what a value that came in looks like; and what the law's helpers come to. Printed by a program. -/
import Derived.Test.YtfkjghkjimcmdaaGreatDoorM0
import Derived.Test.YtfkjghkjimcmdaaGreatDoorM1
import Derived.Test.YtfkjghkjimcmdaaGreatDoorM2
import Derived.Test.YtfkjghkjimcmdaaGreatDoorM3
import Derived.Test.YtfkjghkjimcmdaaGreatDoorOpen
import Derived.Test.YtfkjghkjimcmdaaGreatDoorPure
namespace Go.Proofs.YtfkjghkjimcmdaaGreatDoor
open Eng
set_option linter.unusedVariables false

set_option linter.unusedSimpArgs false



end Go.Proofs.YtfkjghkjimcmdaaGreatDoor
