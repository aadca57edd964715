/- Joined texts. -/
import Derived.Test.YtplklknkkaeniaaGreatDoorT
import Derived.Test.YtplklknkkaeniaaGreatDoorPFrame
import Derived.Test.YtplklknkkaeniaaGreatDoorPTxt
import Derived.Test.YtplklknkkaeniaaGreatDoorPure
namespace Go.Proofs.YtplklknkkaeniaaGreatDoor
open Eng
set_option linter.unusedVariables false
set_option linter.unusedSimpArgs false

theorem join_nil (sep : List UInt8) : Lib.join [] sep = [] := rfl
theorem join_one (x sep : List UInt8) : Lib.join [x] sep = x := by simp [Lib.join, List.intercalate]
theorem join_cons2 (x y : List UInt8) (r : List (List UInt8)) (sep : List UInt8) : Lib.join (x :: y :: r) sep = x ++ sep ++ Lib.join (y :: r) sep := by simp [Lib.join, List.intercalate, List.intersperse]
theorem join_snoc (sep y : List UInt8) : ∀ (xs : List (List UInt8)), xs ≠ [] → Lib.join (xs ++ [y]) sep = Lib.join xs sep ++ sep ++ y := by
  intro xs
  induction xs with
  | nil => intro h; exact absurd rfl h
  | cons x r ih =>
    intro _
    cases r with
    | nil => rw [List.cons_append, List.nil_append, join_cons2, join_one, join_one]
    | cons z r =>
      have := ih (by simp)
      rw [List.cons_append, List.cons_append, join_cons2, join_cons2]
      rw [List.cons_append] at this
      rw [this]
      simp [List.append_assoc]
theorem join_len (sep : List UInt8) (B : Nat) : ∀ (xs : List (List UInt8)), (∀ x ∈ xs, x.length ≤ B) → (Lib.join xs sep).length ≤ xs.length * (B + sep.length) := by
  intro xs
  induction xs with
  | nil => intro _; simp [join_nil]
  | cons x r ih =>
    intro h
    have hx := h x (by simp)
    have hr := ih (fun y hy => h y (by simp [hy]))
    cases r with
    | nil => rw [join_one]; simp; omega
    | cons z r =>
      rw [join_cons2]
      simp only [List.length_append, List.length_cons] at hr ⊢
      have e : (r.length + 1 + 1) * (B + sep.length) = (r.length + 1) * (B + sep.length) + (B + sep.length) := by rw [Nat.add_mul (r.length + 1) 1, Nat.one_mul]
      omega
theorem joinF_tb {xs : List (List UInt8)} {sep : List UInt8} (h : xs.length ≤ 100000) (hl : (Lib.join xs sep).length ≤ 140737488355328) : joinF (xs.map tb) (tb sep) = some (tb (Lib.join xs sep)) := by
  unfold joinF
  have e : (xs.map tb).map (fun s : ByteArray => s.data.toList) = xs := by
    rw [List.map_map]
    conv => rhs; rw [← List.map_id xs]
    refine List.map_congr_left fun x _ => ?_
    simp [tb]
  rw [e, tb_data, List.length_map, if_pos ⟨by omega, hl⟩]
  rfl
/-- a loop that joins as it goes -/
theorem join_take {A : Type} (g : A → List UInt8) (l : List A) (k : Nat) (hk : k < l.length) : Lib.join ((l.take (k + 1)).map g) [32] = (if 0 < k then Lib.join ((l.take k).map g) [32] ++ [32] else []) ++ g l[k] := by
  rw [List.take_succ_eq_append_getElem hk, List.map_append, List.map_cons, List.map_nil]
  cases k with
  | zero => simp [join_one]
  | succ k =>
    rw [if_pos (by omega), join_snoc _ _ _ (by
      intro h
      rw [List.map_eq_nil_iff, List.take_eq_nil_iff] at h
      rcases h with h | h
      · omega
      · subst h; simp at hk)]

end Go.Proofs.YtplklknkkaeniaaGreatDoor
