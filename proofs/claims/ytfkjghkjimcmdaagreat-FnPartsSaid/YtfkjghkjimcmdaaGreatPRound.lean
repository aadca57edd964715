/- One round of the law of parts: what is worn is made new, then a turn. -/
import Derived.Test.YtfkjghkjimcmdaaGreatT
import Derived.Test.YtfkjghkjimcmdaaGreatPFrame
import Derived.Test.YtfkjghkjimcmdaaGreatPDrum
import Derived.Test.YtfkjghkjimcmdaaGreatPCodes
import Derived.Test.YtfkjghkjimcmdaaGreatPWear
import Derived.Test.YtfkjghkjimcmdaaGreatPPut
import Derived.Test.YtfkjghkjimcmdaaGreatPWDrum
import Derived.Test.YtfkjghkjimcmdaaGreatPEach
import Derived.Test.YtfkjghkjimcmdaaGreatPParts
import Derived.Test.YtfkjghkjimcmdaaGreatPOwn
import Derived.Test.YtfkjghkjimcmdaaGreatPWPlace
import Derived.Test.YtfkjghkjimcmdaaGreatPPinAt
import Derived.Test.YtfkjghkjimcmdaaGreatPRenew
import Derived.Test.YtfkjghkjimcmdaaGreatPTurned
import Derived.Test.YtfkjghkjimcmdaaGreatPTurnVal
import Derived.Test.YtfkjghkjimcmdaaGreatPRenewLoop
import Derived.Test.YtfkjghkjimcmdaaGreatPure
namespace Go.Proofs.YtfkjghkjimcmdaaGreat
open Eng
set_option linter.unusedVariables false
set_option linter.unusedSimpArgs false

/-- the wear behind one round -/
def renewed (f : GFrame) (v : GLives) (w : GWear) : GWear := ⟨rnP v w.fPins w.fPins.length, rnS v w f.fHammers.length⟩
def roundW (f : GFrame) (v : GLives) (w : GWear) : GWear := turnV (renewed f v w) 1
theorem renewed_pin (f : GFrame) (v : GLives) (w : GWear) (i : Nat) (hi : i < w.fPins.length) : (renewed f v w).fPins[i]? = some (if w.fPins[i].fTurns + 1 > v.fPin then zeroP w.fPins[i] else w.fPins[i]) := by
  unfold renewed
  simp only
  rw [rnP_get _ _ _ _ hi]
  by_cases c : w.fPins[i].fTurns + 1 > v.fPin
  · rw [if_pos ⟨hi, c⟩, if_pos c]
  · rw [if_neg (fun hh => c hh.2), if_neg c]
theorem round_pin (f : GFrame) (v : GLives) (w : GWear) (i : Nat) (hi : i < w.fPins.length) : (roundW f v w).fPins[i]? = some ⟨w.fPins[i].fStep, w.fPins[i].fTrack, (if w.fPins[i].fTurns + 1 > v.fPin then 0 else w.fPins[i].fTurns) + 1⟩ := by
  unfold roundW turnV
  simp only [List.getElem?_mapIdx, renewed_pin f v w i hi, Option.map_some]
  by_cases c : w.fPins[i].fTurns + 1 > v.fPin
  · rw [if_pos c, if_pos c]; rfl
  · rw [if_neg c, if_neg c]; rfl
theorem renewed_cnt {f : GFrame} {v : GLives} {w : GWear} (t : Nat) : cnt (renewed f v w).fPins t = cnt w.fPins t := by
  have e : (renewed f v w).fPins.map (fun p => p.fTrack) = w.fPins.map fun p => p.fTrack := by
    apply List.ext_getElem?
    intro i
    rw [List.getElem?_map, List.getElem?_map]
    by_cases hi : i < w.fPins.length
    · rw [renewed_pin f v w i hi, List.getElem?_eq_getElem hi]
      by_cases c : w.fPins[i].fTurns + 1 > v.fPin
      · rw [if_pos c]; rfl
      · rw [if_neg c]
    · rw [List.getElem?_eq_none (by simp [renewed, rnP]; omega), List.getElem?_eq_none (by omega)]
  have key : ∀ ps : List GWornPin, cnt ps t = (ps.map fun p => p.fTrack).countP fun x => decide (x = (t : Int)) := fun ps => by
    unfold cnt
    rw [List.countP_map]
    rfl
  rw [key, key, e]
theorem round_stroke {f : GFrame} {v : GLives} {w : GWear} (h : WOk f w) (t : Nat) (ht : t < w.fStrokes.length) : (roundW f v w).fStrokes[t]? = some ((if w.fStrokes[t] + cnt w.fPins t > v.fHammer then 0 else w.fStrokes[t]) + cnt w.fPins t) := by
  have hsl := h.sl
  have e : cnt (renewed f v w).fPins t = cnt w.fPins t := renewed_cnt t
  have g : (renewed f v w).fStrokes[t]? = some (if w.fStrokes[t] + cnt w.fPins t > v.fHammer then 0 else w.fStrokes[t]) := by
    show (rnS v w f.fHammers.length)[t]? = _
    rw [rnS_get _ _ _ _ ht]
    by_cases c : w.fStrokes[t] + cnt w.fPins t > v.fHammer
    · rw [if_pos ⟨by omega, c⟩, if_pos c]
    · rw [if_neg (fun hh => c hh.2), if_neg c]
  show ((renewed f v w).fStrokes.mapIdx (gS (renewed f v w) 1))[t]? = _
  rw [List.getElem?_mapIdx, g]
  simp only [Option.map_some, gS, e, Int.mul_one]

end Go.Proofs.YtfkjghkjimcmdaaGreat
