/- Choices read from a text, the program's way and the reference's. -/
import Derived.Test.YtpldkddkmnpdcaaGreatDoorT
import Derived.Test.YtpldkddkmnpdcaaGreatDoorPFrame
import Derived.Test.YtpldkddkmnpdcaaGreatDoorPWear
import Derived.Test.YtpldkddkmnpdcaaGreatDoorPChoices
import Derived.Test.YtpldkddkmnpdcaaGreatDoorPFit
import Derived.Test.YtpldkddkmnpdcaaGreatDoorPTxt
import Derived.Test.YtpldkddkmnpdcaaGreatDoorPJoin
import Derived.Test.YtpldkddkmnpdcaaGreatDoorPChText
import Derived.Test.YtpldkddkmnpdcaaGreatDoorPNum
import Derived.Test.YtpldkddkmnpdcaaGreatDoorPSpl
import Derived.Test.YtpldkddkmnpdcaaGreatDoorPSigned
import Derived.Test.YtpldkddkmnpdcaaGreatDoorPMapO
import Derived.Test.YtpldkddkmnpdcaaGreatDoorPure
namespace Go.Proofs.YtpldkddkmnpdcaaGreatDoor
open Eng
set_option linter.unusedVariables false
set_option linter.unusedSimpArgs false

open Classical in
/-! ### the reference -/
theorem tl_ne {a b : List UInt8} : ((tb a).toList == (tb b).toList) = decide (a = b) := by
  rw [tb_list, tb_list, Bool.eq_iff_iff]; simp
end Go.Proofs.YtpldkddkmnpdcaaGreatDoor
