/- Drums: pins as bits; the program's tests of drums are the reference's. -/
import Derived.Test.YtplklknkkaeniaaDoorT
import Derived.Test.YtplklknkkaeniaaDoorPFrame
import Derived.Test.YtplklknkkaeniaaDoorPure
namespace Go.Proofs.YtplklknkkaeniaaDoor
open Eng
set_option linter.unusedVariables false
set_option linter.unusedSimpArgs false

/-! ### rows and pins -/
def DIn (d : Arr 96 Int) : Prop := ∀ y ∈ d.1, 0 ≤ y ∧ y ≤ 4294967295
def row' (d : Arr 96 Int) (s : Nat) : Nat := ((d.1[s]?).getD 0).toNat
def pin (d : Arr 96 Int) (s t : Nat) : Bool := (row' d s).testBit t
theorem ix_row {d : Arr 96 Int} (hd : DIn d) {s : Nat} (hs : s < 96) : ix d.1 (s : Int) = some (row' d s : Int) := by
  have hl : s < d.1.length := by rw [d.2]; exact hs
  rw [ix_lt hl]
  have := hd _ (List.getElem_mem hl)
  unfold row'
  rw [List.getElem?_eq_getElem hl, Option.getD_some]
  congr 1
  omega
theorem row_lt {d : Arr 96 Int} (hd : DIn d) (s : Nat) : row' d s < 4294967296 := by
  unfold row'
  by_cases hl : s < d.1.length
  · have := hd _ (List.getElem_mem hl)
    rw [List.getElem?_eq_getElem hl, Option.getD_some]
    omega
  · rw [List.getElem?_eq_none (by omega)]; simp
theorem drum_ext {d e : Arr 96 Int} (hd : DIn d) (he : DIn e) (h : ∀ s, s < 96 → row' d s = row' e s) : d = e := by
  apply Arr.ext
  intro k hk
  have h1 := ix_row hd hk
  have h2 := ix_row he hk
  rw [ix_arr_lt hk] at h1 h2
  rw [Option.some.inj h1, Option.some.inj h2, h k hk]
theorem row_set {d : Arr 96 Int} {s : Nat} (hs : s < 96) (v : Nat) (k : Nat) : row' (d.set (s : Int) (v : Int)) k = if s = k then v else row' d k := by
  unfold row' Arr.set
  simp only [Int.toNat_natCast]
  rw [List.getElem?_set]
  by_cases h : s = k
  · subst h
    rw [if_pos rfl, if_pos rfl, if_pos (by rw [d.2]; exact hs)]; simp
  · rw [if_neg h, if_neg h]
theorem DIn_set {d : Arr 96 Int} (hd : DIn d) (s : Nat) {v : Nat} (hv : v < 4294967296) : DIn (d.set (s : Int) (v : Int)) := by
  intro y hy
  rcases List.mem_or_eq_of_mem_set hy with h | rfl
  · exact hd y h
  · omega
theorem DIn_rep : DIn (Arr.rep 96 0) := by
  intro y hy
  have := List.eq_of_mem_replicate hy
  omega
theorem row_rep (k : Nat) : row' (Arr.rep 96 0) k = 0 := by
  unfold row' Arr.rep
  rw [List.getElem?_replicate]
  split <;> rfl
theorem pin_rep (s t : Nat) : pin (Arr.rep 96 0) s t = false := by unfold pin; rw [row_rep]; simp
theorem loop_allN {f : Int → Option (Int ⊕ (Bool ⊕ Unit))} (n : Nat) (p : Nat → Bool) (hn : n ≤ 9223372036854775807) (hf : ∀ k, k < n → f (k : Int) = some (if p k = true then .inl (w64 ((k : Int) + 1)) else .inr (.inl false))) (he : f (n : Int) = some (.inr (.inr ()))) :
    loop f 0 = some (if (List.range n).all p = true then .inr () else .inl false) := by
  have := loop_all (f := f) (List.range n) p (by simpa using hn) (fun k hk => by rw [List.getElem_range]; exact hf k (by simpa using hk)) (by rw [List.length_range]; exact he)
  exact this
end Go.Proofs.YtplklknkkaeniaaDoor
