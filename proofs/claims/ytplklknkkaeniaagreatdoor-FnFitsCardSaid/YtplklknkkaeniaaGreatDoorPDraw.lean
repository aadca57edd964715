/- What is drawn from bytes: numbers within their bounds, frames, lives. -/
import Derived.Test.YtplklknkkaeniaaGreatDoorM0
import Derived.Test.YtplklknkkaeniaaGreatDoorPFrame
import Derived.Test.YtplklknkkaeniaaGreatDoorPDrum
import Derived.Test.YtplklknkkaeniaaGreatDoorPPut
import Derived.Test.YtplklknkkaeniaaGreatDoorPWear
import Derived.Test.YtplklknkkaeniaaGreatDoorPure
namespace Go.Proofs.YtplklknkkaeniaaGreatDoor
open Eng
set_option linter.unusedVariables false
set_option linter.unusedSimpArgs false

/-! ### a source -/
structure SOk (s : Gl00Src) (b : Nat) : Prop where
  by_ : ∀ y ∈ s.fcode, 0 ≤ y ∧ y ≤ 255
  a0 : 0 ≤ s.fat
  a1 : s.fat ≤ b
theorem and255 (x : Int) : 0 ≤ bAnd .u64 x 255 ∧ bAnd .u64 x 255 ≤ 255 := by
  have h : (BitVec.ofInt 64 x &&& BitVec.ofInt 64 255).toNat ≤ 255 := by
    rw [BitVec.toNat_and]
    exact Nat.le_trans Nat.and_le_right (by decide)
  show 0 ≤ IntKind.u64.wrap (((BitVec.ofInt 64 x &&& BitVec.ofInt 64 255).toNat : Nat) : Int) ∧ IntKind.u64.wrap (((BitVec.ofInt 64 x &&& BitVec.ofInt 64 255).toNat : Nat) : Int) ≤ 255
  generalize (BitVec.ofInt 64 x &&& BitVec.ofInt 64 255).toNat = m at h
  have : IntKind.u64.wrap (m : Int) = (m : Int) := u64_in (by omega) (by omega)
  rw [this]; omega
theorem next_is {s : Gl00Src} {b : Nat} (h : SOk s b) (hb : b ≤ 1000000) : ∃ x s', spec_l00Src_next s = some (x, s') ∧ 0 ≤ x ∧ x ≤ 255 ∧ SOk s' (b + 1) ∧ s'.fcode = s.fcode := by
  have e := h.a0; have e1 := h.a1
  have key : ∀ i : Int, 0 ≤ i → i ≤ 255 → ∃ x s', spec_l00Src_next.k_2 s i = some (x, s') ∧ 0 ≤ x ∧ x ≤ 255 ∧ SOk s' (b + 1) ∧ s'.fcode = s.fcode := by
    intro i h0 h1
    simp only [spec_l00Src_next.k_2]
    rw [w64_in (n := s.fat + 1) (by omega) (by omega)]
    split
    · exact ⟨_, _, rfl, h0, h1, ⟨h.by_, by simp only; omega, by simp only; omega⟩, rfl⟩
    · have := and255 (bShr .u64 (u64 ((u64 ((u64 (s.fseed * 6364136223846793005)) + (u64 i))) + 1442695040888963407)) 40)
      rw [w64_in (by omega) (by omega)]
      exact ⟨_, _, rfl, this.1, this.2, ⟨h.by_, by simp only; omega, by simp only; omega⟩, rfl⟩
  simp only [spec_l00Src_next]
  by_cases c : s.fat < (s.fcode.length : Int)
  · rw [if_pos (by simpa using c)]
    have hl : s.fat.toNat < s.fcode.length := by omega
    have e2 : ix s.fcode s.fat = some s.fcode[s.fat.toNat] := by
      have := ix_lt hl
      rwa [show ((s.fat.toNat : Nat) : Int) = s.fat by omega] at this
    have hy := h.by_ _ (List.getElem_mem hl)
    simp only [e2, Option.bind_some]
    rw [w64_in (by omega) (by omega)]
    exact key _ hy.1 hy.2
  · rw [if_neg (by simpa using c)]
    exact key 0 (by omega) (by omega)
theorem pick_is {s : Gl00Src} {b : Nat} (h : SOk s b) (hb : b ≤ 900000) {n : Int} (hn : n ≤ 200) : ∃ x s', spec_l00Src_pick s n = some (x, s') ∧ 0 ≤ x ∧ (1 ≤ n → x < n) ∧ SOk s' (b + 1) ∧ s'.fcode = s.fcode := by
  simp only [spec_l00Src_pick]
  by_cases c : n ≤ 1
  · rw [if_pos (by simpa using c)]
    exact ⟨0, s, rfl, by omega, fun _ => by omega, ⟨h.by_, h.a0, by have := h.a1; omega⟩, rfl⟩
  · rw [if_neg (by simpa using c)]
    obtain ⟨x, s', h1, h2, h3, h4, h5⟩ := next_is h (by omega)
    simp only [h1, Option.bind_some, spec_l00Src_pick.k_5]
    rw [if_neg (by rw [decide_eq_true_eq]; omega), if_pos (by omega)]
    refine ⟨_, _, rfl, ?_, fun _ => ?_, ⟨h.by_, h4.a0, h4.a1⟩, rfl⟩
    · rw [Int.tmod_eq_emod_of_nonneg h2]; exact Int.emod_nonneg _ (by omega)
    · rw [Int.tmod_eq_emod_of_nonneg h2]; exact Int.emod_lt_of_pos _ (by omega)
theorem src_eta {s : Gl00Src} {c : List Int} (h : s.fcode = c) : (⟨c, s.fat, s.fseed⟩ : Gl00Src) = s := by
  cases s; subst h; rfl
theorem from_is (code : List Int) (hc : ∀ y ∈ code, 0 ≤ y ∧ y ≤ 255) : spec_l00From code = some ⟨code, 0, 0⟩ ∧ SOk ⟨code, 0, 0⟩ 0 := ⟨rfl, hc, by simp, by simp⟩
end Go.Proofs.YtplklknkkaeniaaGreatDoor
