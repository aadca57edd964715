/- The first act that breaks: the program's answer is the reference's, and the law's plain function answers true at every input. -/
import Derived.Test.YtfkjghkjimcmdaaGreatM5
import Derived.Test.YtfkjghkjimcmdaaGreatPFrame
import Derived.Test.YtfkjghkjimcmdaaGreatPDrum
import Derived.Test.YtfkjghkjimcmdaaGreatPCodes
import Derived.Test.YtfkjghkjimcmdaaGreatPWear
import Derived.Test.YtfkjghkjimcmdaaGreatPPut
import Derived.Test.YtfkjghkjimcmdaaGreatPWDrum
import Derived.Test.YtfkjghkjimcmdaaGreatPEach
import Derived.Test.YtfkjghkjimcmdaaGreatPParts
import Derived.Test.YtfkjghkjimcmdaaGreatPFirst
import Derived.Test.YtfkjghkjimcmdaaGreatPOwn
import Derived.Test.YtfkjghkjimcmdaaGreatPWPlace
import Derived.Test.YtfkjghkjimcmdaaGreatPHam
import Derived.Test.YtfkjghkjimcmdaaGreatPTurned
import Derived.Test.YtfkjghkjimcmdaaGreatPPinAt
import Derived.Test.YtfkjghkjimcmdaaGreatPAct
import Derived.Test.YtfkjghkjimcmdaaGreatPDoActs
import Derived.Test.YtfkjghkjimcmdaaGreatPure
import Derived.Test.YtfkjghkjimcmdaaGreatSFnExactFirstBreak
namespace Go.Proofs.YtfkjghkjimcmdaaGreat
open Eng
set_option linter.unusedVariables false
set_option linter.unusedSimpArgs false

theorem firstBreak_same (f : GFrame) (w : GWear) (v : GLives) (l : List GAct) (hi : FIn f) (hw : WIn w) (hf : f.fHammers.length ≤ 1048576) (hp : w.fPins.length ≤ 1048576) (hs : w.fStrokes.length ≤ 1048576) (hl : l.length ≤ 1048576) :
    ∃ r, impl_FirstBreak f w v l = some r ∧ spec_FirstBreak f w v l = some r := by
  simp only [impl_FirstBreak, spec_FirstBreak, (actsCode_is f w v l hf hp hs).1, (actsCode_is f w v l hf hp hs).2, Option.bind_some]
  by_cases h0 : actsV f w v l = 0
  · rw [h0]
    obtain ⟨c1, c2⟩ := acts0 h0
    rcases doActs_is hi (wearB_ok c1 hi hw) c2 l hl with ⟨k, c, hc, e1, e2⟩ | ⟨u, hok, e1, e2⟩
    · simp only [e1, e2, Option.bind_some]
      have hk : ¬ ((k : Int) < 0) := by omega
      exact ⟨((k : Int), 0), by simp [hc], by simp [hk]⟩
    · simp only [e1, e2, Option.bind_some]
      exact ⟨(0, 6), by simp, by simp⟩
  · exact ⟨(0, actsV f w v l), by simp [h0], by simp [h0]⟩
theorem FnExactFirstBreak_ok (f : GFrame) (w : GWear) (v : GLives) (l : List GAct) (o0 : okGFrame f) (o1 : okGWear w) (o2 : okGLives v) (o3 : (l.length ≤ 9223372036854775807 ∧ ∀ y ∈ l, okGAct y)) : laws_FnExactFirstBreak f w v l = some true := by
  obtain ⟨f0, fl, f2⟩ := o0
  obtain ⟨⟨wl, w2⟩, wm, w3⟩ := o1
  obtain ⟨ll, l2⟩ := o3
  simp only [laws_FnExactFirstBreak]
  rw [laws_szFrame_is f _ (by omega) (by omega) fl]
  simp only [Option.bind_some]
  by_cases hz0 : (1048576 : Int) < (f.fHammers.length : Int)
  · rw [if_pos hz0, if_pos (by simp)]
  · rw [if_neg hz0, if_neg (by simp; omega)]
    rw [laws_szWear_is w _ (by omega) (by omega) wl wm]
    simp only [Option.bind_some]
    by_cases hz1 : (1048576 : Int) - (f.fHammers.length : Int) < (w.fPins.length : Int) + (w.fStrokes.length : Int)
    · rw [if_pos hz1, if_pos (by simp)]
    · rw [if_neg hz1, if_neg (by simp; omega)]
      rw [laws_szActS_is l _ (by omega) (by omega) ll]
      simp only [Option.bind_some]
      by_cases hz2 : (1048576 : Int) - (f.fHammers.length : Int) - ((w.fPins.length : Int) + (w.fStrokes.length : Int)) < (l.length : Int)
      · rw [if_pos hz2, if_pos (by simp)]
      · rw [if_neg hz2, if_neg (by simp; omega)]
        obtain ⟨⟨r1, r2⟩, hI, hS⟩ := firstBreak_same f w v l ⟨f0, fun y hy => f2 y hy⟩ (fun p hp => ⟨(w2 p hp).1, (w2 p hp).2.1⟩) (by omega) (by omega) (by omega) (by omega)
        simp only [laws_toFrame_is f (by omega), laws_toWear_is w (by omega), laws_toLives_is, laws_toActS_is l (by omega), Option.bind_some, hI, hS, laws_eqFrame_is f _ (by omega), laws_eqWear_is w _ (by omega), laws_eqActS_is l _ (by omega), decide_true, Bool.not_true, Bool.false_eq_true, if_false, decide_eq_true_eq, bne_self_eq_false, Bool.or_false, Bool.false_or, Bool.or_self]


end Go.Proofs.YtfkjghkjimcmdaaGreat
