/- Drums: pins as bits; the program's tests of drums are the reference's. -/
import Derived.Test.YtplklknkkaeniaaGreatDoorM0
import Derived.Test.YtplklknkkaeniaaGreatDoorM1
import Derived.Test.YtplklknkkaeniaaGreatDoorM2
import Derived.Test.YtplklknkkaeniaaGreatDoorPFrame
import Derived.Test.YtplklknkkaeniaaGreatDoorPure
namespace Go.Proofs.YtplklknkkaeniaaGreatDoor
open Eng
set_option linter.unusedVariables false
set_option linter.unusedSimpArgs false

theorem size_is (a : List GHammer) : impl_size_Hammer a = some (a.length : Int) := rfl
theorem unless_is (b : Bool) (c : Int) : impl_unless b c = some (if b then 0 else c) := by
  unfold impl_unless; cases b <;> rfl
/-! ### rows and pins -/
def DIn (d : Arr 96 Int) : Prop := ∀ y ∈ d.1, 0 ≤ y ∧ y ≤ 4294967295
def row' (d : Arr 96 Int) (s : Nat) : Nat := ((d.1[s]?).getD 0).toNat
def pin (d : Arr 96 Int) (s t : Nat) : Bool := (row' d s).testBit t
theorem ix_row {d : Arr 96 Int} (hd : DIn d) {s : Nat} (hs : s < 96) : ix d.1 (s : Int) = some (row' d s : Int) := by
  have hl : s < d.1.length := by rw [d.2]; exact hs
  rw [ix_lt hl]
  have := hd _ (List.getElem_mem hl)
  unfold row'
  rw [List.getElem?_eq_getElem hl, Option.getD_some]
  congr 1
  omega
theorem row_lt {d : Arr 96 Int} (hd : DIn d) (s : Nat) : row' d s < 4294967296 := by
  unfold row'
  by_cases hl : s < d.1.length
  · have := hd _ (List.getElem_mem hl)
    rw [List.getElem?_eq_getElem hl, Option.getD_some]
    omega
  · rw [List.getElem?_eq_none (by omega)]; simp
theorem drum_ext {d e : Arr 96 Int} (hd : DIn d) (he : DIn e) (h : ∀ s, s < 96 → row' d s = row' e s) : d = e := by
  apply Arr.ext
  intro k hk
  have h1 := ix_row hd hk
  have h2 := ix_row he hk
  rw [ix_arr_lt hk] at h1 h2
  rw [Option.some.inj h1, Option.some.inj h2, h k hk]
theorem row_set {d : Arr 96 Int} {s : Nat} (hs : s < 96) (v : Nat) (k : Nat) : row' (d.set (s : Int) (v : Int)) k = if s = k then v else row' d k := by
  unfold row' Arr.set
  simp only [Int.toNat_natCast]
  rw [List.getElem?_set]
  by_cases h : s = k
  · subst h
    rw [if_pos rfl, if_pos rfl, if_pos (by rw [d.2]; exact hs)]; simp
  · rw [if_neg h, if_neg h]
theorem DIn_set {d : Arr 96 Int} (hd : DIn d) (s : Nat) {v : Nat} (hv : v < 4294967296) : DIn (d.set (s : Int) (v : Int)) := by
  intro y hy
  rcases List.mem_or_eq_of_mem_set hy with h | rfl
  · exact hd y h
  · omega
theorem DIn_rep : DIn (Arr.rep 96 0) := by
  intro y hy
  have := List.eq_of_mem_replicate hy
  omega
theorem row_rep (k : Nat) : row' (Arr.rep 96 0) k = 0 := by
  unfold row' Arr.rep
  rw [List.getElem?_replicate]
  split <;> rfl
theorem pin_rep (s t : Nat) : pin (Arr.rep 96 0) s t = false := by unfold pin; rw [row_rep]; simp
/-! ### whether there is a pin -/
theorem has_is {d : Arr 96 Int} (hd : DIn d) {s t : Nat} (hs : s < 96) (ht : t ≤ 32) : impl_Drum_has d (s : Int) (t : Int) = some (pin d s t) := by
  simp only [impl_Drum_has, ix_row hd hs, Option.bind_some]
  rw [if_pos (by omega), bShr_nat .u32 _ _ ht]
  have hlt := row_lt hd s
  rw [show (1 : Int) = ((1 : Nat) : Int) from rfl, bAnd32 _ 1 (Nat.lt_of_le_of_lt (Nat.shiftRight_le _ _) hlt) (by omega)]
  congr 1
  unfold pin
  have hb := bit_and (row' d s) t
  rw [Bool.eq_iff_iff, ← hb]
  simp only [beq_iff_eq]
  omega
theorem pin_is {d : Arr 96 Int} (hd : DIn d) {s t : Nat} (hs : s < 96) (ht : t ≤ 32) : spec_l02Pin d (s : Int) (t : Int) = some (pin d s t) := by
  simp only [spec_l02Pin, ix_row hd hs, Option.bind_some]
  rw [u64_in (by omega) (by omega), if_pos (by omega), bShr_nat .u32 _ _ ht]
  rw [show (2 : Int) = ((2 : Nat) : Int) from rfl, tmod_nat]
  congr 1
  unfold pin
  have hb := bit_mod (row' d s) t
  rw [Bool.eq_iff_iff, ← hb]
  simp only [beq_iff_eq]
  omega
/-! ### whether a drum is valid -/
def rowB (f : GFrame) (d : Arr 96 Int) (k : Nat) : Bool := decide (row' d k >>> f.fHammers.length = 0) && (decide ((k : Int) < f.fSteps) || decide (row' d k = 0))
def drumB (f : GFrame) (d : Arr 96 Int) : Bool := (List.range 96).all (rowB f d)
theorem loop_allN {f : Int → Option (Int ⊕ (Bool ⊕ Unit))} (n : Nat) (p : Nat → Bool) (hn : n ≤ 9223372036854775807) (hf : ∀ k, k < n → f (k : Int) = some (if p k = true then .inl (w64 ((k : Int) + 1)) else .inr (.inl false))) (he : f (n : Int) = some (.inr (.inr ()))) :
    loop f 0 = some (if (List.range n).all p = true then .inr () else .inl false) := by
  have := loop_all (f := f) (List.range n) p (by simpa using hn) (fun k hk => by rw [List.getElem_range]; exact hf k (by simpa using hk)) (by rw [List.length_range]; exact he)
  exact this
theorem isDrum_is {f : GFrame} {d : Arr 96 Int} (hf : FOk f) (hd : DIn d) : impl_Frame_isDrum f d = some (drumB f d) := by
  have h1 := hf.h1
  simp only [impl_Frame_isDrum]
  rw [loop_allN 96 (rowB f d) (by omega) (fun k hk => by
    simp only [impl_Frame_isDrum.l_3, ix_row hd hk, Option.bind_some]
    rw [if_pos (by simp; omega), if_pos (by omega), bShr_nat .u32 _ _ (show f.fHammers.length ≤ 32 by omega), w64_in (by have := hf.s0; omega) (by have := hf.s1; omega)]
    unfold rowB impl_Frame_isDrum.k_7
    generalize row' d k >>> f.fHammers.length = z
    by_cases c1 : z = 0
    · by_cases c2 : (k : Int) < f.fSteps
      · simp [c1, c2, show ¬ f.fSteps ≤ (k : Int) by omega]
      · by_cases c3 : row' d k = 0
        · simp [c1, c2, c3]
        · simp [c1, c2, c3, show f.fSteps ≤ (k : Int) by omega]
    · simp [c1]) (by simp [impl_Frame_isDrum.l_3])]
  unfold drumB
  cases (List.range 96).all (rowB f d) <;> rfl
theorem l02Drum_is {f : GFrame} {d : Arr 96 Int} (hf : FOk f) (hd : DIn d) : spec_l02Drum f d = some (drumB f d) := by
  have h1 := hf.h1
  simp only [spec_l02Drum]
  rw [loop_allN 96 (rowB f d) (by omega) (fun k hk => by
    simp only [spec_l02Drum.l_3, ix_row hd hk, Option.bind_some]
    rw [if_pos (by simp; omega), u64_in (by omega) (by omega), if_pos (by omega), bShr_nat .u32 _ _ (show f.fHammers.length ≤ 32 by omega), w64_in (by have := hf.s0; omega) (by have := hf.s1; omega)]
    unfold rowB spec_l02Drum.k_6
    generalize row' d k >>> f.fHammers.length = z
    by_cases c1 : z = 0
    · by_cases c2 : (k : Int) < f.fSteps
      · simp [c1, c2, show ¬ f.fSteps ≤ (k : Int) by omega]
      · by_cases c3 : row' d k = 0
        · simp [c1, c2, c3]
        · simp [c1, c2, c3, show f.fSteps ≤ (k : Int) by omega]
    · simp [c1]) (by simp [spec_l02Drum.l_3])]
  unfold drumB
  cases (List.range 96).all (rowB f d) <;> rfl
/-- what a valid drum is -/
theorem drumB_pin {f : GFrame} {d : Arr 96 Int} (h : drumB f d = true) (hd : DIn d) {s t : Nat} (hp : pin d s t = true) : (s : Int) < f.fSteps ∧ t < f.fHammers.length ∧ s < 96 := by
  have hs : s < 96 := by
    rcases Nat.lt_or_ge s 96 with h' | h'
    · exact h'
    · unfold pin row' at hp
      rw [List.getElem?_eq_none (by rw [d.2]; exact h')] at hp
      simp at hp
  have := List.all_eq_true.1 h s (by simpa using hs)
  unfold rowB at this
  simp only [Bool.and_eq_true, decide_eq_true_eq, Bool.or_eq_true] at this
  obtain ⟨h1, h2⟩ := this
  have h0 : row' d s ≠ 0 := by intro e; unfold pin at hp; rw [e] at hp; simp at hp
  refine ⟨by rcases h2 with h2 | h2; exact h2; exact absurd h2 h0, ?_, hs⟩
  rcases Nat.lt_or_ge t f.fHammers.length with h' | h'
  · exact h'
  · have h3 : (row' d s >>> f.fHammers.length).testBit (t - f.fHammers.length) = true := by
      rw [Nat.testBit_shiftRight, show f.fHammers.length + (t - f.fHammers.length) = t by omega]; exact hp
    rw [h1] at h3
    simp at h3
theorem drumB_of {f : GFrame} {d : Arr 96 Int} (h : ∀ s t, pin d s t = true → (s : Int) < f.fSteps ∧ t < f.fHammers.length) : drumB f d = true := by
  unfold drumB
  rw [List.all_eq_true]
  intro k hk
  unfold rowB
  simp only [Bool.and_eq_true, decide_eq_true_eq, Bool.or_eq_true]
  constructor
  · apply Nat.eq_of_testBit_eq
    intro i
    rw [Nat.testBit_shiftRight, Nat.zero_testBit]
    cases hb : (row' d k).testBit (f.fHammers.length + i) with
    | false => rfl
    | true => have := (h k _ hb).2; omega
  · by_cases hs : (k : Int) < f.fSteps
    · exact .inl hs
    · right
      apply Nat.eq_of_testBit_eq
      intro i
      rw [Nat.zero_testBit]
      cases hb : (row' d k).testBit i with
      | false => rfl
      | true => exact absurd (h k i hb).1 hs

end Go.Proofs.YtplklknkkaeniaaGreatDoor
