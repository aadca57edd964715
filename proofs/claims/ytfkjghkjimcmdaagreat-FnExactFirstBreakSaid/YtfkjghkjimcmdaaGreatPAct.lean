/- An act on a wear: the program's way is the reference's. -/
import Derived.Test.YtfkjghkjimcmdaaGreatM0
import Derived.Test.YtfkjghkjimcmdaaGreatM1
import Derived.Test.YtfkjghkjimcmdaaGreatM2
import Derived.Test.YtfkjghkjimcmdaaGreatPFrame
import Derived.Test.YtfkjghkjimcmdaaGreatPDrum
import Derived.Test.YtfkjghkjimcmdaaGreatPCodes
import Derived.Test.YtfkjghkjimcmdaaGreatPWear
import Derived.Test.YtfkjghkjimcmdaaGreatPPut
import Derived.Test.YtfkjghkjimcmdaaGreatPWDrum
import Derived.Test.YtfkjghkjimcmdaaGreatPEach
import Derived.Test.YtfkjghkjimcmdaaGreatPParts
import Derived.Test.YtfkjghkjimcmdaaGreatPOwn
import Derived.Test.YtfkjghkjimcmdaaGreatPWPlace
import Derived.Test.YtfkjghkjimcmdaaGreatPHam
import Derived.Test.YtfkjghkjimcmdaaGreatPTurned
import Derived.Test.YtfkjghkjimcmdaaGreatPPinAt
import Derived.Test.YtfkjghkjimcmdaaGreatPure
namespace Go.Proofs.YtfkjghkjimcmdaaGreat
open Eng
set_option linter.unusedVariables false
set_option linter.unusedSimpArgs false

theorem doWearAct_full (f : GFrame) (w : GWear) (a : GAct) (hi : FIn f) (hw : WIn w) (hf : f.fHammers.length ≤ 1048576) (hp : w.fPins.length ≤ 1048576) (hs : w.fStrokes.length ≤ 1048576) :
    ∃ r, impl_DoWearAct f w a = some r ∧ spec_DoWearAct f w a = some r ∧ r.1.fPins.length + r.1.fStrokes.length ≤ w.fPins.length + w.fStrokes.length + f.fHammers.length ∧ (r.2 = 0 → WOk f r.1) := by
  obtain ⟨r1, a1, b1, c1, d1, o1⟩ := turnWear_full f w a.fA hi hw hf hp hs
  obtain ⟨r2, a2, b2, c2, d2, o2⟩ := newHammer_full f w a.fA hi hw hf hp hs
  obtain ⟨r3, a3, b3, c3, o3⟩ := newPin_full f w a.fA a.fB hi hw hf hp hs
  obtain ⟨r4, a4, b4, c4, o4⟩ := movePin_full f w a.fA a.fB a.fC a.fD hi hw hf hp hs
  simp only [impl_DoWearAct, spec_DoWearAct, a1, a2, a3, a4, l06Ok_is f w hf hp hs, Option.bind_some]
  cases c : wearB f w with
  | false =>
    have e1 : r1 = (⟨[], []⟩, 1) := by simpa [spec_TurnWear, l06Ok_is f w hf hp hs, c] using b1.symm
    have e2 : r2 = (⟨[], []⟩, 1) := by simpa [spec_NewHammer, l06Ok_is f w hf hp hs, c] using b2.symm
    have e3 : r3 = (⟨[], []⟩, 1) := by simpa [spec_NewPin, l06Ok_is f w hf hp hs, c] using b3.symm
    have e4 : r4 = (⟨[], []⟩, 1) := by simpa [spec_MovePin, l06Ok_is f w hf hp hs, c] using b4.symm
    refine ⟨(⟨[], []⟩, 1), ?_, by simp, by simp, fun h => absurd h (by decide)⟩
    rw [e1, e2, e3, e4]
    simp only [wearCode_is f w hf hp hs [] (by simp), c, Option.bind_some, firstOf2]
    simp
  | true =>
    simp only [b1, b2, b3, b4, Option.bind_some, wearCode_is f w hf hp hs [] (by simp), c, firstOf2, Bool.not_true, Bool.false_eq_true, if_false]
    by_cases k0 : (a.fKind == 0) = true
    · simp only [if_pos k0]; exact ⟨_, rfl, rfl, by simp only; omega, o1⟩
    · simp only [if_neg k0]
      by_cases k1 : (a.fKind == 1) = true
      · simp only [if_pos k1]; exact ⟨_, rfl, rfl, by simp only; omega, o2⟩
      · simp only [if_neg k1]
        by_cases k2 : (a.fKind == 2) = true
        · simp only [if_pos k2]; exact ⟨_, rfl, rfl, by simp only; omega, o3⟩
        · simp only [if_neg k2]
          by_cases k3 : (a.fKind == 3) = true
          · simp only [if_pos k3]; exact ⟨_, rfl, rfl, by simp only; omega, o4⟩
          · simp only [if_neg k3]
            exact ⟨(⟨[], []⟩, 2), by simp, by simp, by simp, fun h => absurd h (by decide)⟩
theorem doWearAct_same (f : GFrame) (w : GWear) (a : GAct) (hi : FIn f) (hw : WIn w) (hf : f.fHammers.length ≤ 1048576) (hp : w.fPins.length ≤ 1048576) (hs : w.fStrokes.length ≤ 1048576) :
    ∃ r, impl_DoWearAct f w a = some r ∧ spec_DoWearAct f w a = some r ∧ r.1.fPins.length + r.1.fStrokes.length ≤ w.fPins.length + w.fStrokes.length + f.fHammers.length := by
  obtain ⟨r, x, b, c, _⟩ := doWearAct_full f w a hi hw hf hp hs
  exact ⟨r, x, b, c⟩

end Go.Proofs.YtfkjghkjimcmdaaGreat
