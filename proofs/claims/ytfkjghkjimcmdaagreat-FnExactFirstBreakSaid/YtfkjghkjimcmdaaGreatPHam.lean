/- A new hammer: the program's way is the reference's. -/
import Derived.Test.YtfkjghkjimcmdaaGreatM0
import Derived.Test.YtfkjghkjimcmdaaGreatM2
import Derived.Test.YtfkjghkjimcmdaaGreatPFrame
import Derived.Test.YtfkjghkjimcmdaaGreatPDrum
import Derived.Test.YtfkjghkjimcmdaaGreatPCodes
import Derived.Test.YtfkjghkjimcmdaaGreatPWear
import Derived.Test.YtfkjghkjimcmdaaGreatPPut
import Derived.Test.YtfkjghkjimcmdaaGreatPWDrum
import Derived.Test.YtfkjghkjimcmdaaGreatPEach
import Derived.Test.YtfkjghkjimcmdaaGreatPParts
import Derived.Test.YtfkjghkjimcmdaaGreatPOwn
import Derived.Test.YtfkjghkjimcmdaaGreatPWPlace
import Derived.Test.YtfkjghkjimcmdaaGreatPure
namespace Go.Proofs.YtfkjghkjimcmdaaGreat
open Eng
set_option linter.unusedVariables false
set_option linter.unusedSimpArgs false

theorem newHammer_full (f : GFrame) (w : GWear) (t : Int) (hi : FIn f) (hw : WIn w) (hf : f.fHammers.length ≤ 1048576) (hp : w.fPins.length ≤ 1048576) (hs : w.fStrokes.length ≤ 1048576) :
    ∃ r, impl_NewHammer f w t = some r ∧ spec_NewHammer f w t = some r ∧ r.1.fPins.length ≤ w.fPins.length ∧ r.1.fStrokes.length ≤ w.fStrokes.length ∧ (r.2 = 0 → WOk f r.1) := by
  simp only [impl_NewHammer, spec_NewHammer, wornPlace_is f w hf hp hs _ (show ([Arr.set (Arr.set (Arr.rep 2 0) 0 0) 1 t] : List (Arr 2 Int)).length ≤ 9223372036854775807 by simp), l06Ok_is f w hf hp hs, Option.bind_some, List.all_cons, List.all_nil, arr2_plA, Bool.and_true, own_is w hp hs, copy_is w hp hs, spec_l00In]
  cases c : wearB f w with
  | false => exact ⟨(⟨[], []⟩, 1), by simp, by simp, by simp, by simp, fun h => absurd h (by decide)⟩
  | true =>
    have hok := wearB_ok c hi hw
    have h1 := hok.fr.s0; have h2 := hok.fr.h0; have h3 := hok.fr.h1; have hsl := hok.sl
    rw [w64_in (n := (f.fHammers.length : Int) - 1) (by omega) (by omega)]
    by_cases ht : 0 ≤ t ∧ t < f.fHammers.length
    · have e1 : plB f 0 t = true := (plB_ok hok.fr 0 t).2 ⟨by omega, ht⟩
      have hl : t.toNat < w.fStrokes.length := by omega
      have e2 : ix w.fStrokes t = some w.fStrokes[t.toNat] := by
        have := ix_lt hl
        rwa [show ((t.toNat : Nat) : Int) = t by omega] at this
      refine ⟨(⟨w.fPins, w.fStrokes.set t.toNat 0⟩, 0), by simp [e1, e2], ?_, Nat.le_refl _, by simp, fun _ => ⟨hok.fr, by simpa using hok.sl, hok.pl, hok.so, fun s hs => ?_⟩⟩
      rotate_left
      · rcases List.mem_or_eq_of_mem_set hs with h | rfl
        · exact hok.st s h
        · omega
      rw [if_neg (by simp), if_neg (by simp; omega), e2]; rfl
    · have e1 : plB f 0 t = false := by
        rw [← Bool.not_eq_true, plB_ok hok.fr 0 t]
        rintro ⟨_, h⟩; exact ht h
      refine ⟨(⟨[], []⟩, 2), by simp [e1], ?_, by simp, by simp, fun h => absurd h (by decide)⟩
      rw [if_neg (by simp), if_pos (by simp; omega)]
theorem newHammer_same (f : GFrame) (w : GWear) (t : Int) (hi : FIn f) (hw : WIn w) (hf : f.fHammers.length ≤ 1048576) (hp : w.fPins.length ≤ 1048576) (hs : w.fStrokes.length ≤ 1048576) :
    ∃ r, impl_NewHammer f w t = some r ∧ spec_NewHammer f w t = some r ∧ r.1.fPins.length ≤ w.fPins.length ∧ r.1.fStrokes.length ≤ w.fStrokes.length := by
  obtain ⟨r, a, b, c, d, _⟩ := newHammer_full f w t hi hw hf hp hs
  exact ⟨r, a, b, c, d⟩

end Go.Proofs.YtfkjghkjimcmdaaGreat
