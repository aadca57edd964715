/- The codes of frames, drums and places: the program's are the reference's. -/
import Derived.Test.YtilackblefjgdaaT
import Derived.Test.YtilackblefjgdaaPFrame
import Derived.Test.YtilackblefjgdaaPDrum
import Derived.Test.YtilackblefjgdaaPure
namespace Go.Proofs.Ytilackblefjgdaa
open Eng
set_option linter.unusedVariables false
set_option linter.unusedSimpArgs false


end Go.Proofs.Ytilackblefjgdaa
