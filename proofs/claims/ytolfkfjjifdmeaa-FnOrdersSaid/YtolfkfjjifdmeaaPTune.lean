/- Valid tunes: the program's test is the reference's. -/
import Derived.Test.YtolfkfjjifdmeaaT
import Derived.Test.YtolfkfjjifdmeaaPFrame
import Derived.Test.YtolfkfjjifdmeaaPDrum
import Derived.Test.YtolfkfjjifdmeaaPure
namespace Go.Proofs.Ytolfkfjjifdmeaa
open Eng
set_option linter.unusedVariables false
set_option linter.unusedSimpArgs false


end Go.Proofs.Ytolfkfjjifdmeaa
