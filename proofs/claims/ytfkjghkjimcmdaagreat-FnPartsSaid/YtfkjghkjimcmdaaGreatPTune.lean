/- Valid tunes: the program's test is the reference's. -/
import Derived.Test.YtfkjghkjimcmdaaGreatM0
import Derived.Test.YtfkjghkjimcmdaaGreatPFrame
import Derived.Test.YtfkjghkjimcmdaaGreatPDrum
import Derived.Test.YtfkjghkjimcmdaaGreatPure
namespace Go.Proofs.YtfkjghkjimcmdaaGreat
open Eng
set_option linter.unusedVariables false
set_option linter.unusedSimpArgs false

theorem cmp8_is (x y : Int) : cmp_Compare_int8 x y = some (if x < y then -1 else if x > y then 1 else 0) := by
  simp only [cmp_Compare_int8, cmp_isNaN_int8, Option.bind_some]
  simp
  repeat' split
  all_goals rfl
theorem orTwo (a b : Int) : cmp_Or_int [a, b] = some (if a ≠ 0 then a else b) := by
  simp only [cmp_Or_int]
  rw [loop_eq]
  by_cases ha : a = 0
  · rw [show cmp_Or_int.l_3 [a, b] 0 = some (.inl 1) by simp [cmp_Or_int.l_3, ix, ha, w64_in]]
    simp only
    rw [loop_eq]
    by_cases hb : b = 0
    · rw [show cmp_Or_int.l_3 [a, b] 1 = some (.inl 2) by simp [cmp_Or_int.l_3, ix, hb, w64_in]]
      simp only
      rw [loop_eq, show cmp_Or_int.l_3 [a, b] 2 = some (.inr (.inr ())) by simp [cmp_Or_int.l_3]]
      simp [ha, hb, cmp_Or_int.k_1]
    · rw [show cmp_Or_int.l_3 [a, b] 1 = some (.inr (.inl b)) by simp [cmp_Or_int.l_3, ix, hb]]
      simp [ha]
  · rw [show cmp_Or_int.l_3 [a, b] 0 = some (.inr (.inl a)) by simp [cmp_Or_int.l_3, ix, ha]]
    simp [ha]
end Go.Proofs.YtfkjghkjimcmdaaGreat
