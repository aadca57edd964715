/- One part through the turns, made new whenever it would wear out: how often that is. -/
import Derived.Test.YtfkjghkjimcmdaaGreatT
import Derived.Test.YtfkjghkjimcmdaaGreatPFrame
import Derived.Test.YtfkjghkjimcmdaaGreatPWear
import Derived.Test.YtfkjghkjimcmdaaGreatPEach
import Derived.Test.YtfkjghkjimcmdaaGreatPParts
import Derived.Test.YtfkjghkjimcmdaaGreatPFirst
import Derived.Test.YtfkjghkjimcmdaaGreatPTimes
import Derived.Test.YtfkjghkjimcmdaaGreatPure
namespace Go.Proofs.YtfkjghkjimcmdaaGreat
open Eng
set_option linter.unusedVariables false
set_option linter.unusedSimpArgs false

def simR (e L : Int) : Nat → Int → Int × Int
  | 0, a => (a, 0)
  | n + 1, a => if (simR e L n a).1 + e > L then (e, (simR e L n a).2 + 1) else ((simR e L n a).1 + e, (simR e L n a).2)
theorem sim_inv {a e L : Int} (ha : 0 ≤ a) (haL : a ≤ L) (he : 0 < e) (heL : e ≤ L) : ∀ n : Nat,
    ((simR e L n a).2 = 0 ∧ (simR e L n a).1 = a + n * e ∧ (simR e L n a).1 ≤ L) ∨
    (∃ r : Int, 0 ≤ r ∧ r < L / e ∧ 1 ≤ (simR e L n a).2 ∧ (n : Int) = (L - a) / e + 1 + ((simR e L n a).2 - 1) * (L / e) + r ∧ (simR e L n a).1 = (r + 1) * e) := by
  have hq1 : 1 ≤ L / e := (Int.le_ediv_iff_mul_le he).2 (by omega)
  intro n
  induction n with
  | zero => left; exact ⟨rfl, by simp [simR], haL⟩
  | succ n ih =>
    simp only [simR]
    rcases ih with ⟨h1, h2, h3⟩ | ⟨r, r0, r1, c1, hn, hx⟩
    · have hn1 : ((n + 1 : Nat) : Int) * e = n * e + e := by rw [show ((n + 1 : Nat) : Int) = (n : Int) + 1 from by omega, Int.add_mul, Int.one_mul]
      by_cases c : (simR e L n a).1 + e > L
      · rw [if_pos c]
        right
        have hle : (n : Int) ≤ (L - a) / e := (Int.le_ediv_iff_mul_le he).2 (by omega)
        have hlt : (L - a) / e < (n : Int) + 1 := (Int.ediv_lt_iff_lt_mul he).2 (by rw [Int.add_mul, Int.one_mul]; omega)
        refine ⟨0, by omega, by omega, by simp only; omega, ?_, by simp⟩
        simp only [h1]
        rw [show ((0 : Int) + 1 - 1) = 0 from by omega, Int.zero_mul]
        omega
      · rw [if_neg c]
        left
        exact ⟨h1, by simp only; rw [hn1]; omega, by simp only; omega⟩
    · have hxe : (r + 1) * e + e = (r + 2) * e := by rw [show r + 2 = (r + 1) + 1 from by omega, Int.add_mul (r + 1) 1 e, Int.one_mul]
      by_cases c : (simR e L n a).1 + e > L
      · rw [if_pos c]
        right
        have hlt : L / e < r + 2 := (Int.ediv_lt_iff_lt_mul he).2 (by rw [← hxe, ← hx]; omega)
        refine ⟨0, by omega, by omega, by simp only; omega, ?_, by simp⟩
        simp only
        have e2 : ((simR e L n a).2 + 1 - 1) * (L / e) = ((simR e L n a).2 - 1) * (L / e) + L / e := by
          rw [show (simR e L n a).2 + 1 - 1 = ((simR e L n a).2 - 1) + 1 from by omega, Int.add_mul ((simR e L n a).2 - 1) 1, Int.one_mul]
        rw [e2]
        omega
      · rw [if_neg c]
        right
        have hle : r + 2 ≤ L / e := (Int.le_ediv_iff_mul_le he).2 (by rw [← hxe, ← hx]; omega)
        refine ⟨r + 1, by omega, by omega, by simp only; omega, by simp only; omega, ?_⟩
        simp only
        rw [hx, show (r + 1 + 1) * e = (r + 2) * e from by rw [show r + 1 + 1 = r + 2 from by omega]]
        exact hxe
theorem sim_times {p : Gpart} (ha : 0 ≤ p.fmade) (haL : p.fmade ≤ p.flife) (he : 0 < p.feach) (heL : p.feach ≤ p.flife) (n : Nat) :
    (simR p.feach p.flife n p.fmade).2 = timesV n p ∧ 0 ≤ (simR p.feach p.flife n p.fmade).1 ∧ (simR p.feach p.flife n p.fmade).1 ≤ p.flife := by
  have hq1 : 1 ≤ p.flife / p.feach := (Int.le_ediv_iff_mul_le he).2 (by omega)
  unfold timesV
  rw [if_neg (by omega), Int.tdiv_eq_ediv_of_nonneg (show 0 ≤ p.flife - p.fmade by omega), Int.tdiv_eq_ediv_of_nonneg (show 0 ≤ p.flife by omega)]
  rcases sim_inv ha haL he heL n with ⟨h1, h2, h3⟩ | ⟨r, r0, r1, c1, hn, hx⟩
  · have hle : (n : Int) ≤ (p.flife - p.fmade) / p.feach := (Int.le_ediv_iff_mul_le he).2 (by omega)
    have hm : 0 ≤ (n : Int) * p.feach := Int.mul_nonneg (by omega) (by omega)
    rw [if_neg (by omega)]
    exact ⟨h1, by omega, h3⟩
  · have hq0 : 0 ≤ (p.flife - p.fmade) / p.feach := Int.ediv_nonneg (by omega) (by omega)
    have hm : 0 ≤ ((simR p.feach p.flife n p.fmade).2 - 1) * (p.flife / p.feach) := Int.mul_nonneg (by omega) (by omega)
    rw [if_pos (by omega)]
    have e1 : (n : Int) - ((p.flife - p.fmade) / p.feach + 1) = r + ((simR p.feach p.flife n p.fmade).2 - 1) * (p.flife / p.feach) := by omega
    rw [e1, Int.tdiv_eq_ediv_of_nonneg (by omega), Int.add_mul_ediv_right _ _ (by omega), Int.ediv_eq_zero_of_lt r0 r1]
    have hxe : (r + 1) * p.feach ≤ p.flife := (Int.le_ediv_iff_mul_le he).1 (by omega)
    have hx0 : 0 ≤ (r + 1) * p.feach := Int.mul_nonneg (by omega) (by omega)
    exact ⟨by omega, by omega, by omega⟩

end Go.Proofs.YtfkjghkjimcmdaaGreat
