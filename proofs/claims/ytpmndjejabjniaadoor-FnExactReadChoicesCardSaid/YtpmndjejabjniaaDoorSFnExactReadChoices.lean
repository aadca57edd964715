/- The opening of the law's parameters: what a value that came in looks like; and what the law's helpers come to. Printed by a program. -/
import Derived.Test.YtpmndjejabjniaaDoorM0
import Derived.Test.YtpmndjejabjniaaDoorM1
import Derived.Test.YtpmndjejabjniaaDoorM2
import Derived.Test.YtpmndjejabjniaaDoorM4
import Derived.Test.YtpmndjejabjniaaDoorOpen
import Derived.Test.YtpmndjejabjniaaDoorPure
namespace Go.Proofs.YtpmndjejabjniaaDoor
open Eng
set_option linter.unusedVariables false

set_option linter.unusedSimpArgs false


theorem laws_eqChoice_is (a b : GChoice) : laws_eqChoice a b = some (decide (a = b)) := by
  obtain ⟨a0, a1, a2, a3⟩ := a; obtain ⟨b0, b1, b2, b3⟩ := b
  simp only [laws_eqChoice, GChoice.mk.injEq]
  repeat' split
  all_goals simp_all
theorem laws_eqChoiceS_is (a b : List GChoice) (h : a.length ≤ 1048576) : laws_eqChoiceS a b = some (decide (a = b)) := by
  simp only [laws_eqChoiceS]
  by_cases hl : a.length = b.length
  · rw [if_neg (by simp [hl]), loop_same a b (by omega) hl (fun k hk hk' => by
      simp only [laws_eqChoiceS.l_3, ix_lt hk, ix_lt hk', Option.bind_some, laws_eqChoice_is]
      rw [if_pos (by simpa using hk)]
      by_cases he : a[k] = b[k] <;> simp [he]) (by simp [laws_eqChoiceS.l_3])]
    simp only [Option.bind_some]
    by_cases he : a = b <;> simp [he, laws_eqChoiceS.k_1]
  · rw [if_pos (by simp; omega)]
    simp only [Option.some.injEq]
    symm; simp
    rintro rfl; exact hl rfl
def mk_ChoiceS (k : Int) : GChoice := (⟨((Int.tmod k 3) == 0), (w8 (w64 (k + 1))), (w8 (w64 ((w64 (k + 1)) + 1))), (w8 (w64 ((w64 ((w64 (k + 1)) + 1)) + 1)))⟩ : GChoice)
def st_ChoiceS (k : Int) : Int := (w64 ((w64 ((w64 ((w64 (k + 1)) + 1)) + 1)) + 1))
theorem st_ChoiceS_is (n : Nat) (h : n ≤ 1048576) (k0 : Int) (h0 : 0 ≤ k0) (h1 : k0 ≤ 1099511627776) : iter st_ChoiceS n k0 = k0 + n * 4 := by
  induction n with
  | zero => simp [iter]
  | succ n ih =>
    rw [iter, ih (by omega), st_ChoiceS]
    rw [w64_in (show -9223372036854775808 ≤ k0 + (n : Int) * 4 + 1 by omega) (by omega)]
    rw [w64_in (show -9223372036854775808 ≤ k0 + (n : Int) * 4 + 1 + 1 by omega) (by omega)]
    rw [w64_in (show -9223372036854775808 ≤ k0 + (n : Int) * 4 + 1 + 1 + 1 by omega) (by omega)]
    rw [w64_in (show -9223372036854775808 ≤ k0 + (n : Int) * 4 + 1 + 1 + 1 + 1 by omega) (by omega)]
    omega
theorem laws_markChoiceS_is (a : List GChoice) (k0 : Int) (h : a.length ≤ 1048576) (h0 : 0 ≤ k0) (h1 : k0 ≤ 1099511627776) :
    ∃ ys, laws_markChoiceS a k0 = some (k0 + a.length * 4, ys) ∧ ys.length = a.length ∧ laws_heldChoiceS ys k0 = some (k0 + a.length * 4) := by
  obtain ⟨ys, hy, hl, hg⟩ := loop_mark (f := laws_markChoiceS.l_7 a) a mk_ChoiceS st_ChoiceS k0 (by omega)
    (fun ys i hi hl => by simp [laws_markChoiceS.l_7, hi, hl, ix_lt, ix_set_self, List.set_set, iter, mk_ChoiceS, st_ChoiceS]) (fun ys k => by simp [laws_markChoiceS.l_7])
  have hh := loop_held (f := laws_heldChoiceS.l_5 ys) ys st_ChoiceS k0 (by omega)
    (fun i hi => by simp [laws_heldChoiceS.l_5, hi, ix_lt, hg i hi, iter, mk_ChoiceS, st_ChoiceS]) (fun k => by simp [laws_heldChoiceS.l_5])
  rw [hl, st_ChoiceS_is a.length h k0 h0 h1] at hh
  rw [st_ChoiceS_is a.length h k0 h0 h1] at hy
  refine ⟨ys, ?_, hl, ?_⟩
  · simp only [laws_markChoiceS, hy, Option.bind_some, laws_markChoiceS.k_3]
  · simp only [laws_heldChoiceS, hh, Option.bind_some, laws_heldChoiceS.k_2]
end Go.Proofs.YtpmndjejabjniaaDoor
