/- The opening of the law's parameters: what a value that came in looks like; and what the law's helpers come to. Printed by a program. -/
import Derived.Test.YtolfkfjjifdmeaaM0
import Derived.Test.YtolfkfjjifdmeaaM1
import Derived.Test.YtolfkfjjifdmeaaM2
import Derived.Test.YtolfkfjjifdmeaaOpen
import Derived.Test.YtolfkfjjifdmeaaPure
namespace Go.Proofs.Ytolfkfjjifdmeaa
open Eng
set_option linter.unusedVariables false

set_option linter.unusedSimpArgs false



end Go.Proofs.Ytolfkfjjifdmeaa
