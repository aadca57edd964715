/- The text of a valid frame: the program's is the reference's. -/
import Derived.Test.YtojndiidhgdjcaaGreatDoorM0
import Derived.Test.YtojndiidhgdjcaaGreatDoorM2
import Derived.Test.YtojndiidhgdjcaaGreatDoorPFrame
import Derived.Test.YtojndiidhgdjcaaGreatDoorPDrum
import Derived.Test.YtojndiidhgdjcaaGreatDoorPTxt
import Derived.Test.YtojndiidhgdjcaaGreatDoorPure
namespace Go.Proofs.YtojndiidhgdjcaaGreatDoor
open Eng
set_option linter.unusedVariables false
set_option linter.unusedSimpArgs false

def pnames : List ByteArray := [(ByteArray.mk #[99]), (ByteArray.mk #[99, 35]), (ByteArray.mk #[100]), (ByteArray.mk #[100, 35]), (ByteArray.mk #[101]), (ByteArray.mk #[102]), (ByteArray.mk #[102, 35]), (ByteArray.mk #[103]), (ByteArray.mk #[103, 35]), (ByteArray.mk #[97]), (ByteArray.mk #[97, 35]), (ByteArray.mk #[98])]
theorem pnames_at {q : Int} (h0 : 0 ≤ q) (h1 : q < 12) : ∃ x, ix pnames q = some x ∧ x.size ≤ 2 := by
  obtain ⟨k, rfl⟩ : ∃ k : Nat, q = (k : Int) := ⟨q.toNat, by omega⟩
  have hk : k < pnames.length := by show k < 12; omega
  refine ⟨pnames[k], ix_lt hk, ?_⟩
  have : pnames.all (fun x => decide (x.size ≤ 2)) = true := by decide
  have := List.all_eq_true.1 this _ (List.getElem_mem hk)
  simpa using this
theorem dec_same {n : Int} (h0 : 0 ≤ n) (h1 : n ≤ 9223372036854775807) : ∃ x, impl_decimal n = some x ∧ spec_Decimal n = some x ∧ x.size ≤ 21 := by
  have hl := decDigits_len (n := n.toNat) (by omega)
  refine ⟨tb (Lib.decDigits n.toNat), ?_, decimal_is h0 h1, by rw [tb_size]; omega⟩
  rw [implDecimal_is (by omega) h1]
  unfold Lib.itoa
  rw [if_neg (by omega)]
theorem pname_same {p : Int} (h0 : 0 ≤ p) (h1 : p ≤ 47) : ∃ x, impl_PitchName p = some x ∧ spec_l01Name p = some x ∧ x.size ≤ 23 := by
  have e1 : Int.tmod p 12 = p % 12 := Int.tmod_eq_emod_of_nonneg h0
  have e2 : Int.tdiv p 12 = p / 12 := Int.tdiv_eq_ediv_of_nonneg h0
  obtain ⟨x, x1, x2⟩ := pnames_at (q := p % 12) (by omega) (by omega)
  obtain ⟨y, y1, y2, y3⟩ := dec_same (n := p / 12) (by omega) (by omega)
  unfold pnames at x1
  refine ⟨x ++ y, ?_, ?_, by rw [ByteArray.size_append]; omega⟩
  · simp only [impl_PitchName, impl_isPitch, impl_within, Option.bind_some, e1, e2, w64_in (n := p / 12) (by omega) (by omega), x1, y1]
    rw [if_neg (by simp; omega), if_pos (by omega)]
  · simp only [spec_l01Name, e1, e2, w64_in (n := p / 12) (by omega) (by omega), x1, y2, Option.bind_some]
    rw [if_pos (by omega)]
theorem frameText_is {f : GFrame} (hf : FOk f) : ∃ x, impl_FrameText f = some x ∧ spec_FrameText f = some x := by
  have hh1 := hf.h1; have hs0 := hf.s0; have hs1 := hf.s1
  have hl : f.fHammers.length ≤ 9223372036854775807 := by omega
  obtain ⟨y, y1, y2, y3⟩ := dec_same (n := f.fSteps) (by omega) (by omega)
  have hs32 : (ByteArray.mk #[32]).size = 1 := rfl
  have hs47 : (ByteArray.mk #[47]).size = 1 := rfl
  have hstep : ∀ (s : ByteArray) (k : Nat), k < f.fHammers.length → s.size ≤ 10000 → ∃ z : ByteArray, impl_FrameText.l_7 f (s, (k : Int)) = some (.inl (z, w64 ((k : Int) + 1))) ∧ spec_l02Text.l_6 f (s, (k : Int)) = some (.inl (z, w64 ((k : Int) + 1))) ∧ z.size ≤ s.size + 60 := by
    intro s k hk hs
    have hm := hf.hp _ (List.getElem_mem hk)
    obtain ⟨a, a1, a2, a3⟩ := pname_same (p := f.fHammers[k].fPitch) (by omega) (by omega)
    obtain ⟨b, b1, b2, b3⟩ := dec_same (n := f.fHammers[k].fReady) (by omega) (by omega)
    refine ⟨s ++ ((((ByteArray.mk #[32]) ++ a) ++ (ByteArray.mk #[47])) ++ b), ?_, ?_, ?_⟩
    · simp only [impl_FrameText.l_7, ix_lt hk, Option.bind_some, w64_in (n := f.fHammers[k].fPitch) (by omega) (by omega), w64_in (n := f.fHammers[k].fReady) (by omega) (by omega), a1, b1, ByteArray.size_append, hs32, hs47]
      rw [if_pos (by simpa using hk), if_pos (by omega), if_pos (by omega), if_pos (by omega), if_pos (by omega)]
    · simp only [spec_l02Text.l_6, ix_lt hk, Option.bind_some, w64_in (n := f.fHammers[k].fPitch) (by omega) (by omega), w64_in (n := f.fHammers[k].fReady) (by omega) (by omega), a2, b2, ByteArray.size_append, hs32, hs47]
      rw [if_pos (by simpa using hk), if_pos (by omega), if_pos (by omega), if_pos (by omega), if_pos (by omega)]
    · simp only [ByteArray.size_append, hs32, hs47]; omega
  have both : ∀ (m k : Nat) (s : ByteArray), k + m = f.fHammers.length → s.size ≤ 100 + 60 * k → ∃ x, loop (impl_FrameText.l_7 f) (s, (k : Int)) = some x ∧ loop (spec_l02Text.l_6 f) (s, (k : Int)) = some x := by
    intro m
    induction m with
    | zero =>
      intro k s hk hs
      obtain rfl : k = f.fHammers.length := by omega
      refine ⟨s, ?_, ?_⟩
      · rw [loop_eq]; simp [impl_FrameText.l_7]
      · rw [loop_eq]; simp [spec_l02Text.l_6]
    | succ m ih =>
      intro k s hk hs
      obtain ⟨z, z1, z2, z3⟩ := hstep s k (by omega) (by omega)
      have hw : w64 ((k : Int) + 1) = ((k + 1 : Nat) : Int) := by rw [w64_in (by omega) (by omega)]; omega
      obtain ⟨x, x1, x2⟩ := ih (k + 1) z (by omega) (by omega)
      refine ⟨x, ?_, ?_⟩
      · rw [loop_eq, z1, hw]; exact x1
      · rw [loop_eq, z2, hw]; exact x2
  obtain ⟨x, x1, x2⟩ := both f.fHammers.length 0 y (by omega) (by omega)
  have hz : ((0 : Nat) : Int) = 0 := rfl
  rw [hz] at x1 x2
  refine ⟨x, ?_, ?_⟩
  · simp [impl_FrameText, validFrame_is f hl, frameB_of hf, w64_in (n := f.fSteps) (show (-9223372036854775808 : Int) ≤ f.fSteps by omega) (by omega), y1, x1, impl_FrameText.k_4]
  · simp [spec_FrameText, l02Frame_is f hl, frameB_of hf, spec_l02Text, w64_in (n := f.fSteps) (show (-9223372036854775808 : Int) ≤ f.fSteps by omega) (by omega), y2, x2, spec_l02Text.k_3]
theorem noFrame_text : impl_FrameText ⟨0, []⟩ = some (ByteArray.mk #[]) ∧ spec_FrameText ⟨0, []⟩ = some (ByteArray.mk #[]) := by
  have h : frameB ⟨0, []⟩ = false := by decide
  constructor
  · simp [impl_FrameText, validFrame_is ⟨0, []⟩ (by simp), h]
  · simp [spec_FrameText, l02Frame_is ⟨0, []⟩ (by simp), h]

end Go.Proofs.YtojndiidhgdjcaaGreatDoor
