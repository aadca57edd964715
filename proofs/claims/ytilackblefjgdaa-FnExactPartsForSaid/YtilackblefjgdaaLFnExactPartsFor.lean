/- Parts for the turns: the program's answer is the reference's, and the law's plain function answers true at every input. -/
import Derived.Test.YtilackblefjgdaaM4
import Derived.Test.YtilackblefjgdaaM7
import Derived.Test.YtilackblefjgdaaPFrame
import Derived.Test.YtilackblefjgdaaPWear
import Derived.Test.YtilackblefjgdaaPEach
import Derived.Test.YtilackblefjgdaaPParts
import Derived.Test.YtilackblefjgdaaPFirst
import Derived.Test.YtilackblefjgdaaPTimes
import Derived.Test.YtilackblefjgdaaPure
import Derived.Test.YtilackblefjgdaaSFnExactPartsFor
namespace Go.Proofs.Ytilackblefjgdaa
open Eng
set_option linter.unusedVariables false
set_option linter.unusedSimpArgs false

theorem partsFor_same (f : GFrame) (w : GWear) (v : GLives) (n : Int) (hi : FIn f) (hw : WIn w) (hf : f.fHammers.length ≤ 1048576) (hp : w.fPins.length ≤ 1048576) (hs : w.fStrokes.length ≤ 1048576) :
    ∃ r, impl_PartsFor f w v n = some r ∧ spec_PartsFor f w v n = some r := by
  rw [partsFor_is hi hw hf hp hs n]
  simp only [spec_PartsFor, l06Lived_is f w hf hp hs v, Option.bind_some, l06Turns_is]
  by_cases c : wearB f w = true ∧ livB v = true
  · have hok := wearB_ok c.1 hi hw
    simp only [if_pos c]
    cases ct : tuB n with
    | false => exact ⟨(0, 0, 2), by simp, by simp⟩
    | true =>
      have ht : 0 ≤ n ∧ n ≤ 1000000 := by unfold tuB at ct; simpa using ct
      simp only [l06Parts_is hok hp c.2 ht.1 ht.2, Option.bind_some]
      exact ⟨partsV f w v n, by simp, by simp⟩
  · simp only [if_neg c]
    exact ⟨(0, 0, 1), by simp, by simp⟩
theorem FnExactPartsFor_ok (f : GFrame) (w : GWear) (v : GLives) (n : Int) (o0 : okGFrame f) (o1 : okGWear w) (o2 : okGLives v) (o3 : (-9223372036854775808 ≤ n ∧ n ≤ 9223372036854775807)) : laws_FnExactPartsFor f w v n = some true := by
  obtain ⟨f0, fl, f2⟩ := o0
  obtain ⟨⟨wl, w2⟩, wm, w3⟩ := o1
  simp only [laws_FnExactPartsFor]
  rw [laws_szFrame_is f _ (by omega) (by omega) fl]
  simp only [Option.bind_some]
  by_cases hz0 : (1048576 : Int) < (f.fHammers.length : Int)
  · rw [if_pos hz0, if_pos (by simp)]
  · rw [if_neg hz0, if_neg (by simp; omega)]
    rw [laws_szWear_is w _ (by omega) (by omega) wl wm]
    simp only [Option.bind_some]
    by_cases hz1 : (1048576 : Int) - (f.fHammers.length : Int) < (w.fPins.length : Int) + (w.fStrokes.length : Int)
    · rw [if_pos hz1, if_pos (by simp)]
    · rw [if_neg hz1, if_neg (by simp; omega)]
      obtain ⟨⟨r1, r2, r3⟩, hI, hS⟩ := partsFor_same f w v n ⟨f0, fun y hy => f2 y hy⟩ (fun p hp => ⟨(w2 p hp).1, (w2 p hp).2.1⟩) (by omega) (by omega) (by omega)
      simp only [laws_toFrame_is f (by omega), laws_toWear_is w (by omega), laws_toLives_is, Option.bind_some, hI, hS, laws_eqFrame_is f _ (by omega), laws_eqWear_is w _ (by omega), decide_true, Bool.not_true, Bool.false_eq_true, if_false, decide_eq_true_eq, bne_self_eq_false, Bool.or_false, Bool.false_or, Bool.or_self]


end Go.Proofs.Ytilackblefjgdaa
