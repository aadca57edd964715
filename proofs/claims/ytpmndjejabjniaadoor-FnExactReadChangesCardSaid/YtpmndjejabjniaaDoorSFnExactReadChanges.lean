/- The opening of the law's parameters: what a value that came in looks like; and what the law's helpers come to. Printed by a program. -/
import Derived.Test.YtpmndjejabjniaaDoorM0
import Derived.Test.YtpmndjejabjniaaDoorM2
import Derived.Test.YtpmndjejabjniaaDoorM5
import Derived.Test.YtpmndjejabjniaaDoorOpen
import Derived.Test.YtpmndjejabjniaaDoorPure
namespace Go.Proofs.YtpmndjejabjniaaDoor
open Eng
set_option linter.unusedVariables false

set_option linter.unusedSimpArgs false


theorem laws_eqChange_is (a b : GChange) : laws_eqChange a b = some (decide (a = b)) := by
  obtain ⟨a0, a1, a2⟩ := a; obtain ⟨b0, b1, b2⟩ := b
  simp only [laws_eqChange, GChange.mk.injEq]
  repeat' split
  all_goals simp_all
theorem laws_eqChangeS_is (a b : List GChange) (h : a.length ≤ 1048576) : laws_eqChangeS a b = some (decide (a = b)) := by
  simp only [laws_eqChangeS]
  by_cases hl : a.length = b.length
  · rw [if_neg (by simp [hl]), loop_same a b (by omega) hl (fun k hk hk' => by
      simp only [laws_eqChangeS.l_3, ix_lt hk, ix_lt hk', Option.bind_some, laws_eqChange_is]
      rw [if_pos (by simpa using hk)]
      by_cases he : a[k] = b[k] <;> simp [he]) (by simp [laws_eqChangeS.l_3])]
    simp only [Option.bind_some]
    by_cases he : a = b <;> simp [he, laws_eqChangeS.k_1]
  · rw [if_pos (by simp; omega)]
    simp only [Option.some.injEq]
    symm; simp
    rintro rfl; exact hl rfl
def mk_ChangeS (k : Int) : GChange := (⟨(w16 k), (w8 (w64 (k + 1))), ((Int.tmod (w64 ((w64 (k + 1)) + 1)) 3) == 0)⟩ : GChange)
def st_ChangeS (k : Int) : Int := (w64 ((w64 ((w64 (k + 1)) + 1)) + 1))
theorem st_ChangeS_is (n : Nat) (h : n ≤ 1048576) (k0 : Int) (h0 : 0 ≤ k0) (h1 : k0 ≤ 1099511627776) : iter st_ChangeS n k0 = k0 + n * 3 := by
  induction n with
  | zero => simp [iter]
  | succ n ih =>
    rw [iter, ih (by omega), st_ChangeS]
    rw [w64_in (show -9223372036854775808 ≤ k0 + (n : Int) * 3 + 1 by omega) (by omega)]
    rw [w64_in (show -9223372036854775808 ≤ k0 + (n : Int) * 3 + 1 + 1 by omega) (by omega)]
    rw [w64_in (show -9223372036854775808 ≤ k0 + (n : Int) * 3 + 1 + 1 + 1 by omega) (by omega)]
    omega
theorem laws_markChangeS_is (a : List GChange) (k0 : Int) (h : a.length ≤ 1048576) (h0 : 0 ≤ k0) (h1 : k0 ≤ 1099511627776) :
    ∃ ys, laws_markChangeS a k0 = some (k0 + a.length * 3, ys) ∧ ys.length = a.length ∧ laws_heldChangeS ys k0 = some (k0 + a.length * 3) := by
  obtain ⟨ys, hy, hl, hg⟩ := loop_mark (f := laws_markChangeS.l_7 a) a mk_ChangeS st_ChangeS k0 (by omega)
    (fun ys i hi hl => by simp [laws_markChangeS.l_7, hi, hl, ix_lt, ix_set_self, List.set_set, iter, mk_ChangeS, st_ChangeS]) (fun ys k => by simp [laws_markChangeS.l_7])
  have hh := loop_held (f := laws_heldChangeS.l_5 ys) ys st_ChangeS k0 (by omega)
    (fun i hi => by simp [laws_heldChangeS.l_5, hi, ix_lt, hg i hi, iter, mk_ChangeS, st_ChangeS]) (fun k => by simp [laws_heldChangeS.l_5])
  rw [hl, st_ChangeS_is a.length h k0 h0 h1] at hh
  rw [st_ChangeS_is a.length h k0 h0 h1] at hy
  refine ⟨ys, ?_, hl, ?_⟩
  · simp only [laws_markChangeS, hy, Option.bind_some, laws_markChangeS.k_3]
  · simp only [laws_heldChangeS, hh, Option.bind_some, laws_heldChangeS.k_2]
end Go.Proofs.YtpmndjejabjniaaDoor
