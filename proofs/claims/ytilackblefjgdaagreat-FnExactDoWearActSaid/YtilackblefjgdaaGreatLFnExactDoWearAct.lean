/- An act done: the program's answer is the reference's, and the law's plain function answers true at every input. -/
import Derived.Test.YtilackblefjgdaaGreatM3
import Derived.Test.YtilackblefjgdaaGreatPFrame
import Derived.Test.YtilackblefjgdaaGreatPDrum
import Derived.Test.YtilackblefjgdaaGreatPCodes
import Derived.Test.YtilackblefjgdaaGreatPWear
import Derived.Test.YtilackblefjgdaaGreatPPut
import Derived.Test.YtilackblefjgdaaGreatPWDrum
import Derived.Test.YtilackblefjgdaaGreatPEach
import Derived.Test.YtilackblefjgdaaGreatPParts
import Derived.Test.YtilackblefjgdaaGreatPOwn
import Derived.Test.YtilackblefjgdaaGreatPWPlace
import Derived.Test.YtilackblefjgdaaGreatPHam
import Derived.Test.YtilackblefjgdaaGreatPTurned
import Derived.Test.YtilackblefjgdaaGreatPPinAt
import Derived.Test.YtilackblefjgdaaGreatPAct
import Derived.Test.YtilackblefjgdaaGreatPure
import Derived.Test.YtilackblefjgdaaGreatSFnExactDoWearAct
namespace Go.Proofs.YtilackblefjgdaaGreat
open Eng
set_option linter.unusedVariables false
set_option linter.unusedSimpArgs false

theorem FnExactDoWearAct_ok (f : GFrame) (w : GWear) (a : GAct) (o0 : okGFrame f) (o1 : okGWear w) (o2 : okGAct a) : laws_FnExactDoWearAct f w a = some true := by
  obtain ⟨f0, fl, f2⟩ := o0
  obtain ⟨⟨wl, w2⟩, wm, w3⟩ := o1
  simp only [laws_FnExactDoWearAct]
  rw [laws_szFrame_is f _ (by omega) (by omega) fl]
  simp only [Option.bind_some]
  by_cases hz0 : (1048576 : Int) < (f.fHammers.length : Int)
  · rw [if_pos hz0, if_pos (by simp)]
  · rw [if_neg hz0, if_neg (by simp; omega)]
    rw [laws_szWear_is w _ (by omega) (by omega) wl wm]
    simp only [Option.bind_some]
    by_cases hz1 : (1048576 : Int) - (f.fHammers.length : Int) < (w.fPins.length : Int) + (w.fStrokes.length : Int)
    · rw [if_pos hz1, if_pos (by simp)]
    · rw [if_neg hz1, if_neg (by simp; omega)]
      obtain ⟨⟨⟨r1p, r1s⟩, r2⟩, hI, hS, r1h⟩ := doWearAct_same f w a ⟨f0, fun y hy => f2 y hy⟩ (fun p hp => ⟨(w2 p hp).1, (w2 p hp).2.1⟩) (by omega) (by omega) (by omega)
      simp only at r1h
      obtain ⟨fy0, m_f, _⟩ := laws_markFrame_is f (1) (by omega) (by omega) (by omega)
      obtain ⟨wy0, wy1, m_w, _⟩ := laws_markWear_is w (1 + f.fHammers.length * 2) (by omega) (by omega) (by omega)
      have e0 : ¬ (((1 : Int) + f.fHammers.length * 2 + w.fPins.length * 3 + w.fStrokes.length * 1 : Int) < 0) := by omega
      obtain ⟨z0a, z0b, n0, _, _, q0⟩ := laws_markWear_is ⟨r1p, r1s⟩ (1) (show r1p.length + r1s.length ≤ 1048576 by omega) (by omega) (by omega)
      simp only at n0 q0
      replace q0 := q0 ⟨[], []⟩
      have f0 : ¬ (((1 : Int) + r1p.length * 3 + r1s.length * 1 : Int) < 0) := by omega
      simp only [laws_toFrame_is f (by omega), laws_toWear_is w (by omega), laws_toAct_is, Option.bind_some, hI, hS, laws_eqFrame_is f _ (by omega), laws_eqWear_is w _ (by omega), laws_FnExactDoWearAct.k_27, laws_FnExactDoWearAct.k_21, laws_FnExactDoWearAct.k_12, laws_FnExactDoWearAct.k_6, m_f, m_w, n0, q0, laws_eqWear_is ⟨r1p, r1s⟩ _ (show r1p.length + r1s.length ≤ 1048576 by omega), decide_true, Bool.not_true, Bool.false_eq_true, if_false, decide_eq_true_eq, bne_self_eq_false, Bool.or_false, Bool.false_or, Bool.or_self, if_neg e0, if_neg f0]


end Go.Proofs.YtilackblefjgdaaGreat
