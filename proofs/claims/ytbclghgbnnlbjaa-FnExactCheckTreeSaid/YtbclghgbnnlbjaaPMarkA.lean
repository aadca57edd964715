/- Marks on lists of arrays: the laws' helpers. -/
import Derived.Test.YtbclghgbnnlbjaaM2
import Derived.Test.YtbclghgbnnlbjaaPStab
import Derived.Test.YtbclghgbnnlbjaaPure
namespace Go.Proofs.Ytbclghgbnnlbjaa
open Eng
set_option linter.unusedVariables false
set_option linter.unusedSimpArgs false

theorem markDrum_row (i : Nat) : ∀ (m j : Nat) (ys : List (Arr 96 Int)) (k : Int), j + m = 96 → i < ys.length → 0 ≤ k → k + (m : Int) ≤ 4611686018427387904 → ∃ ys', loop (laws_markDrumS.l_15 (i : Int)) (ys, k, (j : Int)) = some (ys', k + (m : Int)) ∧ ys'.length = ys.length := by
  intro m
  induction m with
  | zero =>
    intro j ys k hj _ _ _
    obtain rfl : j = 96 := by omega
    exact ⟨ys, by rw [loop_eq]; simp [laws_markDrumS.l_15], rfl⟩
  | succ m ih =>
    intro j ys k hj hi h0 h1
    obtain ⟨ys', y1, y2⟩ := ih (j + 1) (ys.set i (Arr.set ys[i] (j : Int) (u32 k))) (k + 1) (by omega) (by simpa using hi) (by omega) (by omega)
    refine ⟨ys', ?_, by rw [y2]; simp⟩
    rw [loop_eq]
    simp only [laws_markDrumS.l_15, ix_lt hi, ix_arr_lt (show j < 96 by omega), Option.bind_some]
    rw [if_pos (by rw [decide_eq_true_eq]; omega), w64_in (n := k + 1) (by omega) (by omega), w64_in (n := (j : Int) + 1) (by omega) (by omega)]
    simp only [Int.toNat_natCast]
    rw [show (j : Int) + 1 = ((j + 1 : Nat) : Int) from rfl, y1]
    congr 2; omega
theorem markDrumS_is (a : List (Arr 96 Int)) (k0 : Int) (h : a.length ≤ 1048576) (h0 : 0 ≤ k0) (h1 : k0 ≤ 1099511627776) : ∃ ys, laws_markDrumS a k0 = some (k0 + a.length * 96, ys) ∧ ys.length = a.length := by
  have key : ∀ (m i : Nat) (ys : List (Arr 96 Int)), i + m = a.length → ys.length = a.length → ∃ ys', loop (laws_markDrumS.l_7 a) (ys, k0 + (i : Int) * 96, (i : Int)) = some (ys', k0 + a.length * 96) ∧ ys'.length = a.length := by
    intro m
    induction m with
    | zero =>
      intro i ys hi hl
      obtain rfl : i = a.length := by omega
      exact ⟨ys, by rw [loop_eq]; simp [laws_markDrumS.l_7], hl⟩
    | succ m ih =>
      intro i ys hi hl
      obtain ⟨ys1, y1, y2⟩ := markDrum_row i 96 0 ys (k0 + (i : Int) * 96) rfl (by omega) (by omega) (by omega)
      obtain ⟨ys2, z1, z2⟩ := ih (i + 1) ys1 (by omega) (by omega)
      refine ⟨ys2, ?_, z2⟩
      rw [loop_eq]
      simp only [laws_markDrumS.l_7]
      rw [if_pos (by rw [decide_eq_true_eq]; omega), show (0 : Int) = ((0 : Nat) : Int) from rfl, y1]
      simp only [Option.bind_some, laws_markDrumS.k_11]
      rw [w64_in (by omega) (by omega), show k0 + (i : Int) * 96 + ((96 : Nat) : Int) = k0 + ((i + 1 : Nat) : Int) * 96 by omega]
      exact z1
  obtain ⟨ys, y1, y2⟩ := key a.length 0 a (by omega) rfl
  refine ⟨ys, ?_, y2⟩
  simp only [laws_markDrumS]
  rw [show ((0 : Nat) : Int) = 0 from rfl, show k0 + (0 : Int) * 96 = k0 by omega] at y1
  rw [y1]; rfl
def mkA2 (k : Int) : Arr 2 Int := ⟨[k, w64 (k + 1)], rfl⟩
def stA2 (k : Int) : Int := w64 (w64 (k + 1) + 1)
theorem stA2_is (n : Nat) (h : n ≤ 1048576) (k0 : Int) (h0 : 0 ≤ k0) (h1 : k0 ≤ 1099511627776) : iter stA2 n k0 = k0 + n * 2 := by
  induction n with
  | zero => simp [iter]
  | succ n ih =>
    rw [iter, ih (by omega), stA2]
    rw [w64_in (n := k0 + (n : Int) * 2 + 1) (by omega) (by omega), w64_in (by omega) (by omega)]
    omega
theorem arr2 (y : Arr 2 Int) : ∃ a b, y = ⟨[a, b], rfl⟩ := by
  obtain ⟨l, h⟩ := y
  match l, h with
  | [a, b], _ => exact ⟨a, b, rfl⟩
theorem markA2_row (i : Nat) (ys : List (Arr 2 Int)) (k : Int) (hi : i < ys.length) : loop (laws_markInt64A2S.l_15 (i : Int)) (ys, k, 0) = some (ys.set i (mkA2 k), stA2 k) := by
  obtain ⟨a, b, hab⟩ := arr2 ys[i]
  rw [loop_eq]
  simp only [laws_markInt64A2S.l_15, ix_lt hi, hab, Option.bind_some]
  rw [if_pos (by decide), show ix [a, b] 0 = some a from rfl]
  simp only [Option.bind_some, Int.toNat_natCast]
  rw [show w64 (0 + 1) = 1 from by rw [w64_in (by decide) (by decide)]; rfl, loop_eq]
  simp only [laws_markInt64A2S.l_15, ix_set_self hi, Option.bind_some, Int.toNat_natCast]
  rw [if_pos (by decide), show ix (Arr.set (⟨[a, b], rfl⟩ : Arr 2 Int) 0 k).1 1 = some b from rfl]
  simp only [Option.bind_some]
  rw [show w64 (1 + 1) = 2 from by rw [w64_in (by decide) (by decide)]; rfl, loop_eq]
  simp only [laws_markInt64A2S.l_15]
  rw [if_neg (by decide), List.set_set]
  rfl
theorem markInt64A2S_is (a : List (Arr 2 Int)) (k0 : Int) (h : a.length ≤ 1048576) (h0 : 0 ≤ k0) (h1 : k0 ≤ 1099511627776) :
    ∃ ys, laws_markInt64A2S a k0 = some (k0 + a.length * 2, ys) ∧ ys.length = a.length ∧ laws_heldInt64A2S ys k0 = some (k0 + a.length * 2) := by
  obtain ⟨ys, hy, hl, hg⟩ := loop_mark (f := laws_markInt64A2S.l_7 a) a mkA2 stA2 k0 (by omega)
    (fun ys i hi hl => by
      simp only [laws_markInt64A2S.l_7, markA2_row i ys _ (by omega), Option.bind_some, laws_markInt64A2S.k_11, iter]
      rw [if_pos (by rw [decide_eq_true_eq]; omega)]) (fun ys k => by simp [laws_markInt64A2S.l_7])
  have hh := loop_held (f := laws_heldInt64A2S.l_5 ys) ys stA2 k0 (by omega)
    (fun i hi => by
      have hrow : loop (laws_heldInt64A2S.l_11 ys (i : Int)) (iter stA2 i k0, 0) = some (.inr (stA2 (iter stA2 i k0))) := by
        generalize hk : iter stA2 i k0 = k
        have hgi := hg i hi
        rw [hk] at hgi
        rw [loop_eq]
        simp only [laws_heldInt64A2S.l_11, ix_lt hi, hgi, Option.bind_some]
        rw [if_pos (by decide), show ix (mkA2 k).1 0 = some k from rfl]
        simp only [Option.bind_some, bne_self_eq_false, Bool.false_eq_true, if_false]
        rw [show w64 (0 + 1) = 1 from by rw [w64_in (by decide) (by decide)]; rfl, loop_eq]
        simp only [laws_heldInt64A2S.l_11, ix_lt hi, hgi, Option.bind_some]
        rw [if_pos (by decide), show ix (mkA2 k).1 1 = some (w64 (k + 1)) from rfl]
        simp only [Option.bind_some, bne_self_eq_false, Bool.false_eq_true, if_false]
        rw [show w64 (1 + 1) = 2 from by rw [w64_in (by decide) (by decide)]; rfl, loop_eq]
        simp only [laws_heldInt64A2S.l_11]
        rw [if_neg (by decide)]
        rfl
      simp only [laws_heldInt64A2S.l_5, hrow, Option.bind_some, laws_heldInt64A2S.k_8, iter]
      rw [if_pos (by rw [decide_eq_true_eq]; omega)]) (fun k => by simp [laws_heldInt64A2S.l_5])
  rw [hl, stA2_is a.length h k0 h0 h1] at hh
  rw [stA2_is a.length h k0 h0 h1] at hy
  refine ⟨ys, ?_, hl, ?_⟩
  · simp only [laws_markInt64A2S, hy, Option.bind_some, laws_markInt64A2S.k_3]
  · simp only [laws_heldInt64A2S, hh, Option.bind_some, laws_heldInt64A2S.k_2]

end Go.Proofs.Ytbclghgbnnlbjaa
