/- The opening of the law's parameters: what a value that came in looks like; and what the law's helpers come to. Printed by a program. -/
import Derived.Test.YtpmndjejabjniaaDoorM0
import Derived.Test.YtpmndjejabjniaaDoorM1
import Derived.Test.YtpmndjejabjniaaDoorM3
import Derived.Test.YtpmndjejabjniaaDoorOpen
import Derived.Test.YtpmndjejabjniaaDoorPure
namespace Go.Proofs.YtpmndjejabjniaaDoor
open Eng
set_option linter.unusedVariables false

set_option linter.unusedSimpArgs false
def okGChoice (x : GChoice) : Prop := True ∧ (-128 ≤ x.fLate ∧ x.fLate ≤ 127) ∧ (-128 ≤ x.fOctave ∧ x.fOctave ≤ 127) ∧ (-128 ≤ x.fTrack ∧ x.fTrack ≤ 127)

theorem opn_GChoice_79 {H : Type} {enc : TypeId × Value → H} {w : World} {base : Nat} {spare : Nat → Bool} {held : Bool} {fuel : Nat} {cs : List Value} {x : DataW H × List MemPlace} (h : DataW.trod enc Tryd.prog w base spare held fuel 79 cs = some x) :
    ∃ (p : GChoice), cs = [(.bool p.fAway), (.int .i8 p.fLate), (.int .i8 p.fOctave), (.int .i8 p.fTrack)] ∧ okGChoice p := by
  have hfl := opn_fld (t := 79) h
  obtain ⟨c0, c1, c2, c3, rfl⟩ := opn_len4 (opn_cells (by kernel_rfl) h (by kernel_rfl))
  obtain ⟨n0, y0, e0⟩ := hfl 0 4 0 1 (by kernel_rfl) (by kernel_rfl)
  obtain ⟨v0, g0⟩ := (opn_b (P := Tryd.prog) (by kernel_rfl)) e0
  cases g0
  obtain ⟨n1, y1, e1⟩ := hfl 1 50 1 1 (by kernel_rfl) (by kernel_rfl)
  obtain ⟨v1, g1, k1⟩ := (opn_i8 (P := Tryd.prog) (by kernel_rfl)) e1
  cases g1
  obtain ⟨n2, y2, e2⟩ := hfl 2 50 2 1 (by kernel_rfl) (by kernel_rfl)
  obtain ⟨v2, g2, k2⟩ := (opn_i8 (P := Tryd.prog) (by kernel_rfl)) e2
  cases g2
  obtain ⟨n3, y3, e3⟩ := hfl 3 50 3 1 (by kernel_rfl) (by kernel_rfl)
  obtain ⟨v3, g3, k3⟩ := (opn_i8 (P := Tryd.prog) (by kernel_rfl)) e3
  cases g3
  exact ⟨⟨v0, v1, v2, v3⟩, rfl, trivial, k1, k2, k3⟩

theorem laws_szChoiceS_is (a : List GChoice) (left : Int) (h0 : 0 ≤ left) (h1 : left ≤ 1048576) (h2 : a.length ≤ 9223372036854775807) :
    laws_szChoiceS a left = some (if left < a.length then -1 else left - a.length) := by
  simp only [laws_szChoiceS]
  rw [w64_in (by omega) (by omega)]
  repeat' split
  all_goals simp_all <;> omega
theorem laws_toChoice_is (a : GChoice) : laws_toChoice a = some a := by rfl
theorem laws_toChoiceS_is (a : List GChoice) (h : a.length ≤ 1048576) : laws_toChoiceS a = some a := by
  simp only [laws_toChoiceS]
  rw [if_pos (by omega), show ((a.length : Int)).toNat = a.length by omega,
    loop_copy a _ (by omega) (fun ys k hk hl => by simp [laws_toChoiceS.l_5, hk, laws_toChoice_is, ix_lt, hl]) (fun ys => by simp [laws_toChoiceS.l_5])]
  rfl
theorem laws_eqChoice_is (a b : GChoice) : laws_eqChoice a b = some (decide (a = b)) := by
  obtain ⟨a0, a1, a2, a3⟩ := a; obtain ⟨b0, b1, b2, b3⟩ := b
  simp only [laws_eqChoice, GChoice.mk.injEq]
  repeat' split
  all_goals simp_all
theorem laws_eqChoiceS_is (a b : List GChoice) (h : a.length ≤ 1048576) : laws_eqChoiceS a b = some (decide (a = b)) := by
  simp only [laws_eqChoiceS]
  by_cases hl : a.length = b.length
  · rw [if_neg (by simp [hl]), loop_same a b (by omega) hl (fun k hk hk' => by
      simp only [laws_eqChoiceS.l_3, ix_lt hk, ix_lt hk', Option.bind_some, laws_eqChoice_is]
      rw [if_pos (by simpa using hk)]
      by_cases he : a[k] = b[k] <;> simp [he]) (by simp [laws_eqChoiceS.l_3])]
    simp only [Option.bind_some]
    by_cases he : a = b <;> simp [he, laws_eqChoiceS.k_1]
  · rw [if_pos (by simp; omega)]
    simp only [Option.some.injEq]
    symm; simp
    rintro rfl; exact hl rfl
end Go.Proofs.YtpmndjejabjniaaDoor
