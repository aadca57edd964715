/- Joined texts. -/
import Derived.Test.YtgmmeokkgcbkdaaGreatDoorT
import Derived.Test.YtgmmeokkgcbkdaaGreatDoorPFrame
import Derived.Test.YtgmmeokkgcbkdaaGreatDoorPTxt
import Derived.Test.YtgmmeokkgcbkdaaGreatDoorPure
namespace Go.Proofs.YtgmmeokkgcbkdaaGreatDoor
open Eng
set_option linter.unusedVariables false
set_option linter.unusedSimpArgs false

theorem join_nil (sep : List UInt8) : Lib.join [] sep = [] := rfl
theorem join_one (x sep : List UInt8) : Lib.join [x] sep = x := by simp [Lib.join, List.intercalate]
theorem join_cons2 (x y : List UInt8) (r : List (List UInt8)) (sep : List UInt8) : Lib.join (x :: y :: r) sep = x ++ sep ++ Lib.join (y :: r) sep := by simp [Lib.join, List.intercalate, List.intersperse]
theorem join_len (sep : List UInt8) (B : Nat) : ∀ (xs : List (List UInt8)), (∀ x ∈ xs, x.length ≤ B) → (Lib.join xs sep).length ≤ xs.length * (B + sep.length) := by
  intro xs
  induction xs with
  | nil => intro _; simp [join_nil]
  | cons x r ih =>
    intro h
    have hx := h x (by simp)
    have hr := ih (fun y hy => h y (by simp [hy]))
    cases r with
    | nil => rw [join_one]; simp; omega
    | cons z r =>
      rw [join_cons2]
      simp only [List.length_append, List.length_cons] at hr ⊢
      have e : (r.length + 1 + 1) * (B + sep.length) = (r.length + 1) * (B + sep.length) + (B + sep.length) := by rw [Nat.add_mul (r.length + 1) 1, Nat.one_mul]
      omega
theorem joinF_tb {xs : List (List UInt8)} {sep : List UInt8} (h : xs.length ≤ 100000) (hl : (Lib.join xs sep).length ≤ 140737488355328) : joinF (xs.map tb) (tb sep) = some (tb (Lib.join xs sep)) := by
  unfold joinF
  have e : (xs.map tb).map (fun s : ByteArray => s.data.toList) = xs := by
    rw [List.map_map]
    conv => rhs; rw [← List.map_id xs]
    refine List.map_congr_left fun x _ => ?_
    simp [tb]
  rw [e, tb_data, List.length_map, if_pos ⟨by omega, hl⟩]
  rfl
end Go.Proofs.YtgmmeokkgcbkdaaGreatDoor
