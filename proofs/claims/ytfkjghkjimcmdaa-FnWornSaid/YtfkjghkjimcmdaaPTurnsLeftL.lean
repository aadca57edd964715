/- The program's way and the reference's, of the law TurnsLeft. -/
import Derived.Test.YtfkjghkjimcmdaaM2
import Derived.Test.YtfkjghkjimcmdaaPFrame
import Derived.Test.YtfkjghkjimcmdaaPDrum
import Derived.Test.YtfkjghkjimcmdaaPWear
import Derived.Test.YtfkjghkjimcmdaaPPut
import Derived.Test.YtfkjghkjimcmdaaPWDrum
import Derived.Test.YtfkjghkjimcmdaaPEach
import Derived.Test.YtfkjghkjimcmdaaPParts
import Derived.Test.YtfkjghkjimcmdaaPFirst
import Derived.Test.YtfkjghkjimcmdaaPure
namespace Go.Proofs.Ytfkjghkjimcmdaa
open Eng
set_option linter.unusedVariables false
set_option linter.unusedSimpArgs false

theorem turnsLeft_same (f : GFrame) (w : GWear) (v : GLives) (hi : FIn f) (hw : WIn w) (hf : f.fHammers.length ≤ 1048576) (hp : w.fPins.length ≤ 1048576) (hs : w.fStrokes.length ≤ 1048576) :
    ∃ r, impl_TurnsLeft f w v = some r ∧ spec_TurnsLeft f w v = some r := by
  simp only [impl_TurnsLeft, spec_TurnsLeft, lifeCode_is hi hw hf hp hs, l06Lived_is f w hf hp hs v, Option.bind_some]
  by_cases c : wearB f w = true ∧ livB v = true
  · have hok := wearB_ok c.1 hi hw
    have hh1 := hok.fr.h1
    have hl := partsL_len f w v
    simp only [if_pos c, whole_is hok hp v, Option.bind_some, least_is hok hp v, impl_Wear_first, parts_is hok hp v, first_is _ (show (partsL f w v).length ≤ 9223372036854775807 by omega), impl_Wear_first.k_8]
    cases (partsL f w v).any wornB with
    | false => exact ⟨((firstF (partsL f w v)).2, 0), by simp, by simp⟩
    | true => exact ⟨(0, 4), by simp, by simp⟩
  · simp only [if_neg c]
    exact ⟨(0, 1), by simp, by simp⟩

end Go.Proofs.Ytfkjghkjimcmdaa
