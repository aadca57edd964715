/- The opening of the law's parameters: what a value that came in looks like; and what the law's helpers come to. Printed by a program. -/
import Derived.Test.YtplklknkkaeniaaDoorM0
import Derived.Test.YtplklknkkaeniaaDoorM2
import Derived.Test.YtplklknkkaeniaaDoorOpen
import Derived.Test.YtplklknkkaeniaaDoorPure
namespace Go.Proofs.YtplklknkkaeniaaDoor
open Eng
set_option linter.unusedVariables false

set_option linter.unusedSimpArgs false


theorem laws_eqAct_is (a b : GAct) : laws_eqAct a b = some (decide (a = b)) := by
  obtain ⟨a0, a1, a2, a3, a4⟩ := a; obtain ⟨b0, b1, b2, b3, b4⟩ := b
  simp only [laws_eqAct, GAct.mk.injEq]
  repeat' split
  all_goals simp_all
theorem laws_eqActS_is (a b : List GAct) (h : a.length ≤ 1048576) : laws_eqActS a b = some (decide (a = b)) := by
  simp only [laws_eqActS]
  by_cases hl : a.length = b.length
  · rw [if_neg (by simp [hl]), loop_same a b (by omega) hl (fun k hk hk' => by
      simp only [laws_eqActS.l_3, ix_lt hk, ix_lt hk', Option.bind_some, laws_eqAct_is]
      rw [if_pos (by simpa using hk)]
      by_cases he : a[k] = b[k] <;> simp [he]) (by simp [laws_eqActS.l_3])]
    simp only [Option.bind_some]
    by_cases he : a = b <;> simp [he, laws_eqActS.k_1]
  · rw [if_pos (by simp; omega)]
    simp only [Option.some.injEq]
    symm; simp
    rintro rfl; exact hl rfl
def mk_ActS (k : Int) : GAct := (⟨(w8 k), (w64 (k + 1)), (w64 ((w64 (k + 1)) + 1)), (w64 ((w64 ((w64 (k + 1)) + 1)) + 1)), (w64 ((w64 ((w64 ((w64 (k + 1)) + 1)) + 1)) + 1))⟩ : GAct)
def st_ActS (k : Int) : Int := (w64 ((w64 ((w64 ((w64 ((w64 (k + 1)) + 1)) + 1)) + 1)) + 1))
theorem st_ActS_is (n : Nat) (h : n ≤ 1048576) (k0 : Int) (h0 : 0 ≤ k0) (h1 : k0 ≤ 1099511627776) : iter st_ActS n k0 = k0 + n * 5 := by
  induction n with
  | zero => simp [iter]
  | succ n ih =>
    rw [iter, ih (by omega), st_ActS]
    rw [w64_in (show -9223372036854775808 ≤ k0 + (n : Int) * 5 + 1 by omega) (by omega)]
    rw [w64_in (show -9223372036854775808 ≤ k0 + (n : Int) * 5 + 1 + 1 by omega) (by omega)]
    rw [w64_in (show -9223372036854775808 ≤ k0 + (n : Int) * 5 + 1 + 1 + 1 by omega) (by omega)]
    rw [w64_in (show -9223372036854775808 ≤ k0 + (n : Int) * 5 + 1 + 1 + 1 + 1 by omega) (by omega)]
    rw [w64_in (show -9223372036854775808 ≤ k0 + (n : Int) * 5 + 1 + 1 + 1 + 1 + 1 by omega) (by omega)]
    omega
theorem laws_markActS_is (a : List GAct) (k0 : Int) (h : a.length ≤ 1048576) (h0 : 0 ≤ k0) (h1 : k0 ≤ 1099511627776) :
    ∃ ys, laws_markActS a k0 = some (k0 + a.length * 5, ys) ∧ ys.length = a.length ∧ laws_heldActS ys k0 = some (k0 + a.length * 5) := by
  obtain ⟨ys, hy, hl, hg⟩ := loop_mark (f := laws_markActS.l_7 a) a mk_ActS st_ActS k0 (by omega)
    (fun ys i hi hl => by simp [laws_markActS.l_7, hi, hl, ix_lt, ix_set_self, List.set_set, iter, mk_ActS, st_ActS]) (fun ys k => by simp [laws_markActS.l_7])
  have hh := loop_held (f := laws_heldActS.l_5 ys) ys st_ActS k0 (by omega)
    (fun i hi => by simp [laws_heldActS.l_5, hi, ix_lt, hg i hi, iter, mk_ActS, st_ActS]) (fun k => by simp [laws_heldActS.l_5])
  rw [hl, st_ActS_is a.length h k0 h0 h1] at hh
  rw [st_ActS_is a.length h k0 h0 h1] at hy
  refine ⟨ys, ?_, hl, ?_⟩
  · simp only [laws_markActS, hy, Option.bind_some, laws_markActS.k_3]
  · simp only [laws_heldActS, hh, Option.bind_some, laws_heldActS.k_2]
end Go.Proofs.YtplklknkkaeniaaDoor
