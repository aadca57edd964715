/- The opening of the law's parameters: what a value that came in looks like; and what the law's helpers come to. Printed by a program. -/
import Derived.Test.YtplklknkkaeniaaDoorM0
import Derived.Test.YtplklknkkaeniaaDoorOpen
import Derived.Test.YtplklknkkaeniaaDoorPure
namespace Go.Proofs.YtplklknkkaeniaaDoor
open Eng
set_option linter.unusedVariables false

set_option linter.unusedSimpArgs false
def okGAct (x : GAct) : Prop := (-128 ≤ x.fKind ∧ x.fKind ≤ 127) ∧ (-9223372036854775808 ≤ x.fA ∧ x.fA ≤ 9223372036854775807) ∧ (-9223372036854775808 ≤ x.fB ∧ x.fB ≤ 9223372036854775807) ∧ (-9223372036854775808 ≤ x.fC ∧ x.fC ≤ 9223372036854775807) ∧ (-9223372036854775808 ≤ x.fD ∧ x.fD ≤ 9223372036854775807)

theorem opn_GAct_39 {H : Type} {enc : TypeId × Value → H} {w : World} {base : Nat} {spare : Nat → Bool} {held : Bool} {fuel : Nat} {cs : List Value} {x : DataW H × List MemPlace} (h : DataW.trod enc Tryd.prog w base spare held fuel 39 cs = some x) :
    ∃ (p : GAct), cs = [(.int .i8 p.fKind), (.int .i64 p.fA), (.int .i64 p.fB), (.int .i64 p.fC), (.int .i64 p.fD)] ∧ okGAct p := by
  have hfl := opn_fld (t := 39) h
  obtain ⟨c0, c1, c2, c3, c4, rfl⟩ := opn_len5 (opn_cells (by kernel_rfl) h (by kernel_rfl))
  obtain ⟨n0, y0, e0⟩ := hfl 0 35 0 1 (by kernel_rfl) (by kernel_rfl)
  obtain ⟨v0, g0, k0⟩ := (opn_i8 (P := Tryd.prog) (by kernel_rfl)) e0
  cases g0
  obtain ⟨n1, y1, e1⟩ := hfl 1 2 1 1 (by kernel_rfl) (by kernel_rfl)
  obtain ⟨v1, g1, k1⟩ := (opn_i64 (P := Tryd.prog) (by kernel_rfl)) e1
  cases g1
  obtain ⟨n2, y2, e2⟩ := hfl 2 2 2 1 (by kernel_rfl) (by kernel_rfl)
  obtain ⟨v2, g2, k2⟩ := (opn_i64 (P := Tryd.prog) (by kernel_rfl)) e2
  cases g2
  obtain ⟨n3, y3, e3⟩ := hfl 3 2 3 1 (by kernel_rfl) (by kernel_rfl)
  obtain ⟨v3, g3, k3⟩ := (opn_i64 (P := Tryd.prog) (by kernel_rfl)) e3
  cases g3
  obtain ⟨n4, y4, e4⟩ := hfl 4 2 4 1 (by kernel_rfl) (by kernel_rfl)
  obtain ⟨v4, g4, k4⟩ := (opn_i64 (P := Tryd.prog) (by kernel_rfl)) e4
  cases g4
  exact ⟨⟨v0, v1, v2, v3, v4⟩, rfl, k0, k1, k2, k3, k4⟩

theorem laws_szActS_is (a : List GAct) (left : Int) (h0 : 0 ≤ left) (h1 : left ≤ 1048576) (h2 : a.length ≤ 9223372036854775807) :
    laws_szActS a left = some (if left < a.length then -1 else left - a.length) := by
  simp only [laws_szActS]
  rw [w64_in (by omega) (by omega)]
  repeat' split
  all_goals simp_all <;> omega
theorem laws_toAct_is (a : GAct) : laws_toAct a = some a := by rfl
theorem laws_toActS_is (a : List GAct) (h : a.length ≤ 1048576) : laws_toActS a = some a := by
  simp only [laws_toActS]
  rw [if_pos (by omega), show ((a.length : Int)).toNat = a.length by omega,
    loop_copy a _ (by omega) (fun ys k hk hl => by simp [laws_toActS.l_5, hk, laws_toAct_is, ix_lt, hl]) (fun ys => by simp [laws_toActS.l_5])]
  rfl
theorem laws_eqAct_is (a b : GAct) : laws_eqAct a b = some (decide (a = b)) := by
  obtain ⟨a0, a1, a2, a3, a4⟩ := a; obtain ⟨b0, b1, b2, b3, b4⟩ := b
  simp only [laws_eqAct, GAct.mk.injEq]
  repeat' split
  all_goals simp_all
theorem laws_eqActS_is (a b : List GAct) (h : a.length ≤ 1048576) : laws_eqActS a b = some (decide (a = b)) := by
  simp only [laws_eqActS]
  by_cases hl : a.length = b.length
  · rw [if_neg (by simp [hl]), loop_same a b (by omega) hl (fun k hk hk' => by
      simp only [laws_eqActS.l_3, ix_lt hk, ix_lt hk', Option.bind_some, laws_eqAct_is]
      rw [if_pos (by simpa using hk)]
      by_cases he : a[k] = b[k] <;> simp [he]) (by simp [laws_eqActS.l_3])]
    simp only [Option.bind_some]
    by_cases he : a = b <;> simp [he, laws_eqActS.k_1]
  · rw [if_pos (by simp; omega)]
    simp only [Option.some.injEq]
    symm; simp
    rintro rfl; exact hl rfl
end Go.Proofs.YtplklknkkaeniaaDoor
