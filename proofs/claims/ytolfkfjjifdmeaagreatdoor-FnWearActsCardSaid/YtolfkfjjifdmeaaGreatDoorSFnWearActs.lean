/- The opening of the law's parameters: what a value that came in looks like; and what the law's helpers come to. Printed by a program. -/
import Derived.Test.YtolfkfjjifdmeaaGreatDoorM0
import Derived.Test.YtolfkfjjifdmeaaGreatDoorM1
import Derived.Test.YtolfkfjjifdmeaaGreatDoorM2
import Derived.Test.YtolfkfjjifdmeaaGreatDoorM3
import Derived.Test.YtolfkfjjifdmeaaGreatDoorOpen
import Derived.Test.YtolfkfjjifdmeaaGreatDoorPure
namespace Go.Proofs.YtolfkfjjifdmeaaGreatDoor
open Eng
set_option linter.unusedVariables false

set_option linter.unusedSimpArgs false



end Go.Proofs.YtolfkfjjifdmeaaGreatDoor
