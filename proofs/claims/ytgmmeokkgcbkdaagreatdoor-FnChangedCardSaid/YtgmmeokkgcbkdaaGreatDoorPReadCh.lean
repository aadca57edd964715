/- Choices read from a text, the program's way and the reference's. -/
import Derived.Test.YtgmmeokkgcbkdaaGreatDoorT
import Derived.Test.YtgmmeokkgcbkdaaGreatDoorPFrame
import Derived.Test.YtgmmeokkgcbkdaaGreatDoorPWear
import Derived.Test.YtgmmeokkgcbkdaaGreatDoorPChoices
import Derived.Test.YtgmmeokkgcbkdaaGreatDoorPFit
import Derived.Test.YtgmmeokkgcbkdaaGreatDoorPTxt
import Derived.Test.YtgmmeokkgcbkdaaGreatDoorPJoin
import Derived.Test.YtgmmeokkgcbkdaaGreatDoorPChText
import Derived.Test.YtgmmeokkgcbkdaaGreatDoorPNum
import Derived.Test.YtgmmeokkgcbkdaaGreatDoorPSpl
import Derived.Test.YtgmmeokkgcbkdaaGreatDoorPSigned
import Derived.Test.YtgmmeokkgcbkdaaGreatDoorPMapO
import Derived.Test.YtgmmeokkgcbkdaaGreatDoorPure
namespace Go.Proofs.YtgmmeokkgcbkdaaGreatDoor
open Eng
set_option linter.unusedVariables false
set_option linter.unusedSimpArgs false

open Classical in
/-! ### the reference -/
theorem tl_ne {a b : List UInt8} : ((tb a).toList == (tb b).toList) = decide (a = b) := by
  rw [tb_list, tb_list, Bool.eq_iff_iff]; simp
end Go.Proofs.YtgmmeokkgcbkdaaGreatDoor
