/- Marks on lists of arrays: the laws' helpers. -/
import Derived.Test.YteedohcicmgkaaaM0
import Derived.Test.YteedohcicmgkaaaPStab
import Derived.Test.YteedohcicmgkaaaPure
namespace Go.Proofs.Yteedohcicmgkaaa
open Eng
set_option linter.unusedVariables false
set_option linter.unusedSimpArgs false

theorem markDrum_row (i : Nat) : ∀ (m j : Nat) (ys : List (Arr 96 Int)) (k : Int), j + m = 96 → i < ys.length → 0 ≤ k → k + (m : Int) ≤ 4611686018427387904 → ∃ ys', loop (laws_markDrumS.l_15 (i : Int)) (ys, k, (j : Int)) = some (ys', k + (m : Int)) ∧ ys'.length = ys.length := by
  intro m
  induction m with
  | zero =>
    intro j ys k hj _ _ _
    obtain rfl : j = 96 := by omega
    exact ⟨ys, by rw [loop_eq]; simp [laws_markDrumS.l_15], rfl⟩
  | succ m ih =>
    intro j ys k hj hi h0 h1
    obtain ⟨ys', y1, y2⟩ := ih (j + 1) (ys.set i (Arr.set ys[i] (j : Int) (u32 k))) (k + 1) (by omega) (by simpa using hi) (by omega) (by omega)
    refine ⟨ys', ?_, by rw [y2]; simp⟩
    rw [loop_eq]
    simp only [laws_markDrumS.l_15, ix_lt hi, ix_arr_lt (show j < 96 by omega), Option.bind_some]
    rw [if_pos (by rw [decide_eq_true_eq]; omega), w64_in (n := k + 1) (by omega) (by omega), w64_in (n := (j : Int) + 1) (by omega) (by omega)]
    simp only [Int.toNat_natCast]
    rw [show (j : Int) + 1 = ((j + 1 : Nat) : Int) from rfl, y1]
    congr 2; omega
theorem markDrumS_is (a : List (Arr 96 Int)) (k0 : Int) (h : a.length ≤ 1048576) (h0 : 0 ≤ k0) (h1 : k0 ≤ 1099511627776) : ∃ ys, laws_markDrumS a k0 = some (k0 + a.length * 96, ys) ∧ ys.length = a.length := by
  have key : ∀ (m i : Nat) (ys : List (Arr 96 Int)), i + m = a.length → ys.length = a.length → ∃ ys', loop (laws_markDrumS.l_7 a) (ys, k0 + (i : Int) * 96, (i : Int)) = some (ys', k0 + a.length * 96) ∧ ys'.length = a.length := by
    intro m
    induction m with
    | zero =>
      intro i ys hi hl
      obtain rfl : i = a.length := by omega
      exact ⟨ys, by rw [loop_eq]; simp [laws_markDrumS.l_7], hl⟩
    | succ m ih =>
      intro i ys hi hl
      obtain ⟨ys1, y1, y2⟩ := markDrum_row i 96 0 ys (k0 + (i : Int) * 96) rfl (by omega) (by omega) (by omega)
      obtain ⟨ys2, z1, z2⟩ := ih (i + 1) ys1 (by omega) (by omega)
      refine ⟨ys2, ?_, z2⟩
      rw [loop_eq]
      simp only [laws_markDrumS.l_7]
      rw [if_pos (by rw [decide_eq_true_eq]; omega), show (0 : Int) = ((0 : Nat) : Int) from rfl, y1]
      simp only [Option.bind_some, laws_markDrumS.k_11]
      rw [w64_in (by omega) (by omega), show k0 + (i : Int) * 96 + ((96 : Nat) : Int) = k0 + ((i + 1 : Nat) : Int) * 96 by omega]
      exact z1
  obtain ⟨ys, y1, y2⟩ := key a.length 0 a (by omega) rfl
  refine ⟨ys, ?_, y2⟩
  simp only [laws_markDrumS]
  rw [show ((0 : Nat) : Int) = 0 from rfl, show k0 + (0 : Int) * 96 = k0 by omega] at y1
  rw [y1]; rfl
def mkA2 (k : Int) : Arr 2 Int := ⟨[k, w64 (k + 1)], rfl⟩
def stA2 (k : Int) : Int := w64 (w64 (k + 1) + 1)
theorem stA2_is (n : Nat) (h : n ≤ 1048576) (k0 : Int) (h0 : 0 ≤ k0) (h1 : k0 ≤ 1099511627776) : iter stA2 n k0 = k0 + n * 2 := by
  induction n with
  | zero => simp [iter]
  | succ n ih =>
    rw [iter, ih (by omega), stA2]
    rw [w64_in (n := k0 + (n : Int) * 2 + 1) (by omega) (by omega), w64_in (by omega) (by omega)]
    omega
theorem arr2 (y : Arr 2 Int) : ∃ a b, y = ⟨[a, b], rfl⟩ := by
  obtain ⟨l, h⟩ := y
  match l, h with
  | [a, b], _ => exact ⟨a, b, rfl⟩
end Go.Proofs.Yteedohcicmgkaaa
