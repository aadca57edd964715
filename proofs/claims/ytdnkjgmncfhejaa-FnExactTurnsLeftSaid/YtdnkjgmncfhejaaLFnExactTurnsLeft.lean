/- How many turns are left: the program's answer is the reference's, and the law's plain function answers true at every input. -/
import Derived.Test.YtdnkjgmncfhejaaM19
import Derived.Test.YtdnkjgmncfhejaaM27
import Derived.Test.YtdnkjgmncfhejaaPFrame
import Derived.Test.YtdnkjgmncfhejaaPDrum
import Derived.Test.YtdnkjgmncfhejaaPWear
import Derived.Test.YtdnkjgmncfhejaaPPut
import Derived.Test.YtdnkjgmncfhejaaPWDrum
import Derived.Test.YtdnkjgmncfhejaaPEach
import Derived.Test.YtdnkjgmncfhejaaPParts
import Derived.Test.YtdnkjgmncfhejaaPFirst
import Derived.Test.YtdnkjgmncfhejaaPure
import Derived.Test.YtdnkjgmncfhejaaSFnExactTurnsLeft
namespace Go.Proofs.Ytdnkjgmncfhejaa
open Eng
set_option linter.unusedVariables false
set_option linter.unusedSimpArgs false

theorem turnsLeft_same (f : GFrame) (w : GWear) (v : GLives) (hi : FIn f) (hw : WIn w) (hf : f.fHammers.length ≤ 1048576) (hp : w.fPins.length ≤ 1048576) (hs : w.fStrokes.length ≤ 1048576) :
    ∃ r, impl_TurnsLeft f w v = some r ∧ spec_TurnsLeft f w v = some r := by
  simp only [impl_TurnsLeft, spec_TurnsLeft, lifeCode_is hi hw hf hp hs, l06Lived_is f w hf hp hs v, Option.bind_some]
  by_cases c : wearB f w = true ∧ livB v = true
  · have hok := wearB_ok c.1 hi hw
    have hh1 := hok.fr.h1
    have hl := partsL_len f w v
    simp only [if_pos c, whole_is hok hp v, Option.bind_some, least_is hok hp v, impl_Wear_first, parts_is hok hp v, first_is _ (show (partsL f w v).length ≤ 9223372036854775807 by omega), impl_Wear_first.k_8]
    cases (partsL f w v).any wornB with
    | false => exact ⟨((firstF (partsL f w v)).2, 0), by simp, by simp⟩
    | true => exact ⟨(0, 4), by simp, by simp⟩
  · simp only [if_neg c]
    exact ⟨(0, 1), by simp, by simp⟩
theorem FnExactTurnsLeft_ok (f : GFrame) (w : GWear) (v : GLives) (hf : okGFrame f) (hw : okGWear w) (hv : okGLives v) : laws_FnExactTurnsLeft f w v = some true := by
  obtain ⟨hf0, hf, hf2⟩ := hf
  obtain ⟨⟨hp, hp2⟩, hs, _⟩ := hw
  simp only [laws_FnExactTurnsLeft]
  rw [laws_szFrame_is f _ (by omega) (by omega) hf]
  simp only [Option.bind_some]
  by_cases h : (1048576 : Int) < (f.fHammers.length : Int)
  · rw [if_pos h, if_pos (by simp)]
  · rw [if_neg h, if_neg (by simp; omega), laws_szWear_is w _ (by omega) (by omega) hp hs]
    simp only [Option.bind_some]
    by_cases h' : (1048576 : Int) - (f.fHammers.length : Int) < (w.fPins.length : Int) + (w.fStrokes.length : Int)
    · rw [if_pos h', if_pos (by simp)]
    · rw [if_neg h', if_neg (by simp; omega)]
      obtain ⟨r, h1, h2⟩ := turnsLeft_same f w v ⟨hf0, fun y hy => hf2 y hy⟩ (fun p hp' => ⟨(hp2 p hp').1, (hp2 p hp').2.1⟩) (by omega) (by omega) (by omega)
      simp only [laws_toFrame_is f (by omega), laws_toWear_is w (by omega), laws_toLives_is, Option.bind_some, h1, h2, laws_eqFrame_is f _ (by omega), laws_eqWear_is w _ (by omega)]
      simp

end Go.Proofs.Ytdnkjgmncfhejaa
