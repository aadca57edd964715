/- The opening of the law's parameters, and what the law's helpers come to. Printed by a program. -/
import Derived.Test.YtplklknkkaeniaaGreatM0
import Derived.Test.YtplklknkkaeniaaGreatM1
import Derived.Test.YtplklknkkaeniaaGreatM2
import Derived.Test.YtplklknkkaeniaaGreatM3
import Derived.Test.YtplklknkkaeniaaGreatM4
import Derived.Test.YtplklknkkaeniaaGreatM5
import Derived.Test.YtplklknkkaeniaaGreatOpen
import Derived.Test.YtplklknkkaeniaaGreatPure
namespace Go.Proofs.YtplklknkkaeniaaGreat
open Eng
set_option linter.unusedVariables false
set_option linter.unusedSimpArgs false
end Go.Proofs.YtplklknkkaeniaaGreat
