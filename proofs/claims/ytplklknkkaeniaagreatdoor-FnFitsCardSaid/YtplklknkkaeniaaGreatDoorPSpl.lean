/- A text split at a byte, the program's way and the reference's. -/
import Derived.Test.YtplklknkkaeniaaGreatDoorT
import Derived.Test.YtplklknkkaeniaaGreatDoorPFrame
import Derived.Test.YtplklknkkaeniaaGreatDoorPTxt
import Derived.Test.YtplklknkkaeniaaGreatDoorPJoin
import Derived.Test.YtplklknkkaeniaaGreatDoorPure
namespace Go.Proofs.YtplklknkkaeniaaGreatDoor
open Eng
set_option linter.unusedVariables false
set_option linter.unusedSimpArgs false

def spl (c : UInt8) : List UInt8 → List (List UInt8)
  | [] => [[]]
  | b :: l => if b = c then [] :: spl c l else match spl c l with
    | w :: r => (b :: w) :: r
    | [] => [[b]]
theorem spl_ne (c : UInt8) (l : List UInt8) : spl c l ≠ [] := by
  cases l with
  | nil => simp [spl]
  | cons b l =>
    unfold spl
    split
    · simp
    · split <;> simp
theorem spl_none {c : UInt8} : ∀ (w : List UInt8), c ∉ w → spl c w = [w] := by
  intro w
  induction w with
  | nil => intro _; rfl
  | cons b w ih =>
    intro h
    have h1 : ¬ b = c := fun e => h (by simp [e])
    unfold spl
    rw [if_neg h1, ih (fun hh => h (by simp [hh]))]
theorem spl_hit {c : UInt8} (r : List UInt8) : ∀ (w : List UInt8), c ∉ w → spl c (w ++ c :: r) = w :: spl c r := by
  intro w
  induction w with
  | nil => intro _; rw [List.nil_append]; conv => lhs; unfold spl
           rw [if_pos rfl]
  | cons b w ih =>
    intro h
    have h1 : ¬ b = c := fun e => h (by simp [e])
    rw [List.cons_append]
    conv => lhs; unfold spl
    rw [if_neg h1, ih (fun hh => h (by simp [hh]))]
theorem join_spl (c : UInt8) (l : List UInt8) : Lib.join (spl c l) [c] = l := by
  induction l with
  | nil => rfl
  | cons b l ih =>
    have hne := spl_ne c l
    unfold spl
    cases hs : spl c l with
    | nil => exact absurd hs hne
    | cons w r =>
      rw [hs] at ih
      split
      · rename_i e
        subst e
        rw [join_cons2, ih]; rfl
      · simp only
        cases r with
        | nil => rw [join_one] at ih ⊢; rw [ih]
        | cons v r => rw [join_cons2] at ih ⊢; rw [← ih]; rfl
theorem spl_len (c : UInt8) (l : List UInt8) : (spl c l).length ≤ l.length + 1 := by
  induction l with
  | nil => simp [spl]
  | cons b l ih =>
    unfold spl
    split
    · simp; omega
    · split
      · rename_i w r e; rw [e] at ih; simp at ih ⊢; omega
      · simp
theorem spl_mem {c : UInt8} : ∀ (l : List UInt8), ∀ w ∈ spl c l, w.length ≤ l.length ∧ c ∉ w := by
  intro l
  induction l with
  | nil => intro w hw; simp [spl] at hw; subst hw; simp
  | cons b l ih =>
    intro w hw
    unfold spl at hw
    split at hw
    · rw [List.mem_cons] at hw
      rcases hw with rfl | hw
      · simp
      · have := ih w hw; simp; exact ⟨by omega, this.2⟩
    · rename_i hb
      cases hs : spl c l with
      | nil => exact absurd hs (spl_ne c l)
      | cons v r =>
        rw [hs] at hw
        simp only [List.mem_cons] at hw
        rcases hw with rfl | hw
        · have := ih v (by rw [hs]; simp)
          refine ⟨by simp; omega, fun hc => ?_⟩
          rw [List.mem_cons] at hc
          rcases hc with h | h
          · exact hb h.symm
          · exact this.2 h
        · have := ih w (by rw [hs]; simp [hw]); exact ⟨by simp; omega, this.2⟩
/-! ### the library's -/
theorem index_one (c : UInt8) : ∀ l : List UInt8, (c ∉ l → Lib.index l [c] = -1) ∧ (c ∈ l → 0 ≤ Lib.index l [c]) := by
  intro l
  induction l with
  | nil => exact ⟨fun _ => by simp [Lib.index], fun h => absurd h (by simp)⟩
  | cons b l ih =>
    have e : Lib.index (b :: l) [c] = if [c].isPrefixOf (b :: l) then 0 else if Lib.index l [c] == -1 then -1 else Lib.index l [c] + 1 := rfl
    rw [e]
    by_cases h : c = b
    · subst h
      rw [if_pos (by simp [List.isPrefixOf])]
      exact ⟨fun hh => absurd (by simp) hh, fun _ => Int.le_refl _⟩
    · rw [if_neg (by simp [List.isPrefixOf, h])]
      constructor
      · intro hh
        rw [ih.1 (fun hx => hh (by simp [hx]))]
        rfl
      · intro hh
        have hm : c ∈ l := by
          rw [List.mem_cons] at hh
          rcases hh with hh | hh
          · exact absurd hh h
          · exact hh
        have := ih.2 hm
        rw [if_neg (by simp; omega)]
        omega
theorem splitK_spl (c : UInt8) : ∀ l : List UInt8, Lib.splitK [c] 0 (l.count c) l = spl c l := by
  intro l
  induction l with
  | nil => rfl
  | cons b l ih =>
    by_cases h : b = c
    · subst h
      have ei : Lib.index (b :: l) [b] = 0 := by
        show (if [b].isPrefixOf (b :: l) then (0 : Int) else _) = 0
        rw [if_pos (by simp [List.isPrefixOf])]
      rw [List.count_cons_self]
      unfold Lib.splitK
      rw [ei, if_neg (by decide)]
      conv => rhs; unfold spl
      rw [if_pos rfl, ← ih]
      rfl
    · have hb : ¬ c = b := fun e => h e.symm
      have ei : Lib.index (b :: l) [c] = if Lib.index l [c] == -1 then -1 else Lib.index l [c] + 1 := by
        show (if [c].isPrefixOf (b :: l) then (0 : Int) else _) = _
        rw [if_neg (by simp [List.isPrefixOf, hb])]
      rw [List.count_cons_of_ne h]
      conv => rhs; unfold spl
      rw [if_neg h, ← ih]
      cases hk : l.count c with
      | zero => rfl
      | succ k =>
        have hm : c ∈ l := by
          rw [← List.count_pos_iff]; omega
        have h0 := (index_one c l).2 hm
        unfold Lib.splitK
        rw [ei, if_neg (by simp; omega), if_neg (by simp; omega), if_neg (by simp; omega)]
        simp only [List.length_cons, List.length_nil, Nat.add_zero]
        have e1 : (Lib.index l [c] + 1).toNat = (Lib.index l [c]).toNat + 1 := by omega
        rw [e1]
        rfl
theorem splitF_is (l : List UInt8) (c : UInt8) (h : l.length ≤ 1048576) : splitF (tb l) (tb [c]) = some ((spl c l).map tb) := by
  unfold splitF
  rw [if_pos ⟨by rw [tb_size]; omega, by rw [tb_size]; simp⟩]
  congr 1
  have h1 := Lib.splitB_data (tb [c]) 0 (Lib.countB (tb l) (tb [c])) (tb l)
  rw [tb_data, tb_data] at h1
  have h2 : Lib.countB (tb l) (tb [c]) = l.count c := by
    show Lib.count (tb l).data.toList (tb [c]).data.toList = _
    rw [tb_data, tb_data, Lib.count_one]
  rw [h2, splitK_spl] at h1
  rw [h2, ← h1, List.map_map]
  conv => lhs; rw [← List.map_id (Lib.splitB (tb [c]) 0 (List.count c l) (tb l))]
  refine List.map_congr_left fun s _ => ?_
  exact (tb_of s).symm
end Go.Proofs.YtplklknkkaeniaaGreatDoor
