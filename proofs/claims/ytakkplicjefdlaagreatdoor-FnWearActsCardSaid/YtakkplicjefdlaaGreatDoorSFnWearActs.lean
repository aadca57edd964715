/- The opening of the law's parameters: what a value that came in looks like; and what the law's helpers come to. Printed by a program. -/
import Derived.Test.YtakkplicjefdlaaGreatDoorM0
import Derived.Test.YtakkplicjefdlaaGreatDoorM1
import Derived.Test.YtakkplicjefdlaaGreatDoorM2
import Derived.Test.YtakkplicjefdlaaGreatDoorM3
import Derived.Test.YtakkplicjefdlaaGreatDoorOpen
import Derived.Test.YtakkplicjefdlaaGreatDoorPure
namespace Go.Proofs.YtakkplicjefdlaaGreatDoor
open Eng
set_option linter.unusedVariables false

set_option linter.unusedSimpArgs false



end Go.Proofs.YtakkplicjefdlaaGreatDoor
