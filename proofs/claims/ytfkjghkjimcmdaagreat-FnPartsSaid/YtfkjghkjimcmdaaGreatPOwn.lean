/- A copy of a wear is the wear. -/
import Derived.Test.YtfkjghkjimcmdaaGreatM2
import Derived.Test.YtfkjghkjimcmdaaGreatPure
namespace Go.Proofs.YtfkjghkjimcmdaaGreat
open Eng
set_option linter.unusedVariables false
set_option linter.unusedSimpArgs false

theorem own_is (w : GWear) (hp : w.fPins.length ≤ 1048576) (hs : w.fStrokes.length ≤ 1048576) : impl_Wear_own w = some w := by
  simp only [impl_Wear_own, slices_Clone_WornPin, slices_Clone_int64, List.length_nil, List.nil_append]
  rw [if_pos (by omega), if_pos (by omega)]
  rfl
theorem copy_is (w : GWear) (hp : w.fPins.length ≤ 1048576) (hs : w.fStrokes.length ≤ 1048576) : spec_l06Copy w = some w := by
  simp only [spec_l06Copy, List.length_nil, List.nil_append]
  rw [if_pos (by omega), if_pos (by omega)]

end Go.Proofs.YtfkjghkjimcmdaaGreat
