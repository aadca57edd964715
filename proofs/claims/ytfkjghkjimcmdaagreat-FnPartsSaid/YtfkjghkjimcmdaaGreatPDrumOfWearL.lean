/- The program's way and the reference's, of the law DrumOfWear. -/
import Derived.Test.YtfkjghkjimcmdaaGreatM0
import Derived.Test.YtfkjghkjimcmdaaGreatM1
import Derived.Test.YtfkjghkjimcmdaaGreatPFrame
import Derived.Test.YtfkjghkjimcmdaaGreatPDrum
import Derived.Test.YtfkjghkjimcmdaaGreatPWear
import Derived.Test.YtfkjghkjimcmdaaGreatPPut
import Derived.Test.YtfkjghkjimcmdaaGreatPWDrum
import Derived.Test.YtfkjghkjimcmdaaGreatPure
namespace Go.Proofs.YtfkjghkjimcmdaaGreat
open Eng
set_option linter.unusedVariables false
set_option linter.unusedSimpArgs false

theorem wearCode0 (f : GFrame) (w : GWear) (hf : f.fHammers.length ≤ 1048576) (hp : w.fPins.length ≤ 1048576) (hs : w.fStrokes.length ≤ 1048576) : impl_wearCode f w [] = some (if wearB f w = true then 0 else 1) := by
  simp only [impl_wearCode, validWear_is f w hf hp hs, Option.bind_some]
  cases wearB f w with
  | false => rfl
  | true =>
    have : slices_ContainsFunc_Lives_at_impl_wearCode_1 [] = some false := by
      simp only [slices_ContainsFunc_Lives_at_impl_wearCode_1, slices_IndexFunc_Lives_at_impl_wearCode_1]
      rw [loop_eq, show slices_IndexFunc_Lives_at_impl_wearCode_1.l_3 [] 0 = some (.inr (.inr ())) by simp [slices_IndexFunc_Lives_at_impl_wearCode_1.l_3]]
      rfl
    simp [this, impl_unless]
end Go.Proofs.YtfkjghkjimcmdaaGreat
