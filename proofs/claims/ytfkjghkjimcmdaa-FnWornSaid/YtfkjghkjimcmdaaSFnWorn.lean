/- The opening of the law's parameters: what a value that came in looks like; and what the law's helpers come to. Printed by a program. -/
import Derived.Test.YtfkjghkjimcmdaaM0
import Derived.Test.YtfkjghkjimcmdaaM1
import Derived.Test.YtfkjghkjimcmdaaM2
import Derived.Test.YtfkjghkjimcmdaaM3
import Derived.Test.YtfkjghkjimcmdaaOpen
import Derived.Test.YtfkjghkjimcmdaaPure
namespace Go.Proofs.Ytfkjghkjimcmdaa
open Eng
set_option linter.unusedVariables false

set_option linter.unusedSimpArgs false



end Go.Proofs.Ytfkjghkjimcmdaa
