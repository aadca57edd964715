/- The codes of frames, drums and places: the program's are the reference's. -/
import Derived.Test.YtolfkfjjifdmeaaGreatM0
import Derived.Test.YtolfkfjjifdmeaaGreatPFrame
import Derived.Test.YtolfkfjjifdmeaaGreatPDrum
import Derived.Test.YtolfkfjjifdmeaaGreatPure
namespace Go.Proofs.YtolfkfjjifdmeaaGreat
open Eng
set_option linter.unusedVariables false
set_option linter.unusedSimpArgs false

/-! ### codes -/
theorem firstOf2 (a b : Int) : impl_firstOf [a, b] = some (if a ≠ 0 then a else b) := by
  simp only [impl_firstOf]
  rw [loop_eq]
  by_cases ha : a = 0
  · rw [show impl_firstOf.l_3 [a, b] 0 = some (.inl 1) by simp [impl_firstOf.l_3, ix, ha, w64_in]]
    simp only
    rw [loop_eq]
    by_cases hb : b = 0
    · rw [show impl_firstOf.l_3 [a, b] 1 = some (.inl 2) by simp [impl_firstOf.l_3, ix, hb, w64_in]]
      simp only
      rw [loop_eq, show impl_firstOf.l_3 [a, b] 2 = some (.inr (.inr ())) by simp [impl_firstOf.l_3]]
      simp [ha, hb, impl_firstOf.k_1]
    · rw [show impl_firstOf.l_3 [a, b] 1 = some (.inr (.inl b)) by simp [impl_firstOf.l_3, ix, hb]]
      simp [ha]
  · rw [show impl_firstOf.l_3 [a, b] 0 = some (.inr (.inl a)) by simp [impl_firstOf.l_3, ix, ha]]
    simp [ha]
end Go.Proofs.YtolfkfjjifdmeaaGreat
