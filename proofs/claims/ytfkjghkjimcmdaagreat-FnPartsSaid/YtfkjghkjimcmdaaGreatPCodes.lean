/- The codes of frames, drums and places: the program's are the reference's. -/
import Derived.Test.YtfkjghkjimcmdaaGreatM0
import Derived.Test.YtfkjghkjimcmdaaGreatM1
import Derived.Test.YtfkjghkjimcmdaaGreatPFrame
import Derived.Test.YtfkjghkjimcmdaaGreatPDrum
import Derived.Test.YtfkjghkjimcmdaaGreatPure
namespace Go.Proofs.YtfkjghkjimcmdaaGreat
open Eng
set_option linter.unusedVariables false
set_option linter.unusedSimpArgs false

/-! ### codes -/
theorem firstOf2 (a b : Int) : impl_firstOf [a, b] = some (if a ≠ 0 then a else b) := by
  simp only [impl_firstOf]
  rw [loop_eq]
  by_cases ha : a = 0
  · rw [show impl_firstOf.l_3 [a, b] 0 = some (.inl 1) by simp [impl_firstOf.l_3, ix, ha, w64_in]]
    simp only
    rw [loop_eq]
    by_cases hb : b = 0
    · rw [show impl_firstOf.l_3 [a, b] 1 = some (.inl 2) by simp [impl_firstOf.l_3, ix, hb, w64_in]]
      simp only
      rw [loop_eq, show impl_firstOf.l_3 [a, b] 2 = some (.inr (.inr ())) by simp [impl_firstOf.l_3]]
      simp [ha, hb, impl_firstOf.k_1]
    · rw [show impl_firstOf.l_3 [a, b] 1 = some (.inr (.inl b)) by simp [impl_firstOf.l_3, ix, hb]]
      simp [ha]
  · rw [show impl_firstOf.l_3 [a, b] 0 = some (.inr (.inl a)) by simp [impl_firstOf.l_3, ix, ha]]
    simp [ha]
theorem l02Asked_is (f : GFrame) (hi : FIn f) (hl : f.fHammers.length ≤ 9223372036854775807) (d : Arr 96 Int) (hd : DIn d) :
    spec_l02Asked f d = some (if frameB f = true ∧ drumB f d = true then 0 else 1) := by
  simp only [spec_l02Asked, l02Frame_is f hl, Option.bind_some]
  cases hf : frameB f with
  | false => simp [spec_l02Asked.k_2]
  | true =>
    simp only [l02Drum_is (frameB_ok hf hi) hd, Option.bind_some, spec_l02Asked.k_2]
    cases drumB f d <;> simp

end Go.Proofs.YtfkjghkjimcmdaaGreat
