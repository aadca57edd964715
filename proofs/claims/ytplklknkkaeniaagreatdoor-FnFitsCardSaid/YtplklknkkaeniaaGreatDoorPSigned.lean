/- Numbers with a sign read from texts. -/
import Derived.Test.YtplklknkkaeniaaGreatDoorM0
import Derived.Test.YtplklknkkaeniaaGreatDoorPFrame
import Derived.Test.YtplklknkkaeniaaGreatDoorPTxt
import Derived.Test.YtplklknkkaeniaaGreatDoorPNum
import Derived.Test.YtplklknkkaeniaaGreatDoorPure
namespace Go.Proofs.YtplklknkkaeniaaGreatDoor
open Eng
set_option linter.unusedVariables false
set_option linter.unusedSimpArgs false

/-- a text that is a number's, with a sign perhaps, of a size up to B -/
def okS (B : Int) : List UInt8 → Prop
  | [] => False
  | b :: r => if b = 45 then r = Lib.decDigits (val r) ∧ 0 < val r ∧ (val r : Int) ≤ B else b :: r = Lib.decDigits (val (b :: r)) ∧ (val (b :: r) : Int) ≤ B
def sval : List UInt8 → Int
  | [] => 0
  | b :: r => if b = 45 then -(val r : Int) else (val (b :: r) : Int)
theorem dd_no45 (n : Nat) (r : List UInt8) : Lib.decDigits n ≠ 45 :: r := by
  intro h
  have := dd_dig n 45 (by rw [h]; simp)
  exact absurd this.1 (by decide)
theorem okS_itoa {B : Int} {l : List UInt8} (h : okS B l) : l = Lib.itoa (sval l) ∧ -B ≤ sval l ∧ sval l ≤ B := by
  cases l with
  | nil => exact h.elim
  | cons b r =>
    simp only [okS] at h
    simp only [sval]
    by_cases c : b = 45
    · rw [if_pos c] at h ⊢
      subst c
      rw [Lib.itoa_neg _ (by omega), ← h.1]
      exact ⟨rfl, by omega, by omega⟩
    · rw [if_neg c] at h ⊢
      rw [Lib.itoa_nonneg, ← h.1]
      exact ⟨rfl, by omega, by omega⟩
theorem okS_le {B C : Int} {l : List UInt8} (h : okS B l) (h0 : -C ≤ sval l) (h1 : sval l ≤ C) : okS C l := by
  cases l with
  | nil => exact h.elim
  | cons b r =>
    simp only [okS] at h ⊢
    simp only [sval] at h0 h1
    by_cases c : b = 45
    · rw [if_pos c] at h h0 h1 ⊢
      exact ⟨h.1, h.2.1, by omega⟩
    · rw [if_neg c] at h h0 h1 ⊢
      exact ⟨h.1, by omega⟩
/-- a number without a sign -/
theorem okS_plain {B : Int} {l : List UInt8} : (l = Lib.decDigits (val l) ∧ (val l : Int) ≤ B) ↔ (okS B l ∧ 0 ≤ sval l) := by
  cases l with
  | nil => exact ⟨fun h => absurd h.1.symm (dd_ne _), fun h => h.1.elim⟩
  | cons b r =>
    simp only [okS, sval]
    by_cases c : b = 45
    · rw [if_pos c, if_pos c]
      subst c
      exact ⟨fun h => absurd h.1.symm (dd_no45 _ _), fun h => by omega⟩
    · rw [if_neg c, if_neg c]
      exact ⟨fun h => ⟨h, by omega⟩, fun h => h.1⟩
theorem sval_plain {l : List UInt8} (h : l = Lib.decDigits (val l)) : sval l = (val l : Int) := by
  cases l with
  | nil => exact absurd h.symm (dd_ne _)
  | cons b r =>
    simp only [sval]
    rw [if_neg]
    intro c
    subst c
    exact dd_no45 _ _ h.symm
theorem cutMinus_is (l : List UInt8) (hlen : l.length ≤ 1048576) (c : UInt8) : strings_CutPrefix (tb l) (tb [c]) = some (match l with
    | [] => (tb [], false)
    | b :: r => if b = c then (tb r, true) else (tb l, false)) := by
  simp only [strings_CutPrefix, stringslite_CutPrefix, stringslite_HasPrefix, tb_size, tb_extract, tb_list]
  cases l with
  | nil => simp
  | cons b r =>
    rw [if_pos (by simp; omega), if_pos ⟨by omega, by simp, by simp; omega⟩]
    simp only [Option.bind_some]
    by_cases h : b = c
    · subst h
      have e : (((((b :: r).take (([b] : List UInt8).length : Int).toNat).drop (0 : Int).toNat) == [b]) : Bool) = true := by simp
      rw [e, if_neg (by simp), if_pos ⟨by omega, by simp; omega, by omega⟩, if_pos rfl]
      simp
    · have e : (((((b :: r).take (([c] : List UInt8).length : Int).toNat).drop (0 : Int).toNat) == [c]) : Bool) = false := by simp [h]
      rw [e, if_pos (by simp), if_neg h]
      rfl
theorem implSigned_is {B : Int} (l : List UInt8) (hlen : l.length ≤ 1048576) (hB : 0 ≤ B ∧ B ≤ 1000) : ∃ x b, impl_readSigned (tb l) B = some (x, b) ∧ (okS B l → x = sval l ∧ b = true) ∧ (¬ okS B l → b = false) := by
  have e45 : (ByteArray.mk #[45]) = tb [45] := rfl
  simp only [impl_readSigned, e45, cutMinus_is l hlen 45, Option.bind_some]
  cases l with
  | nil =>
    simp only [implNumber_is [] (by simp) (show 0 ≤ B ∧ B ≤ 1000000000 by omega), Option.bind_some]
    rw [if_neg (show ¬ (([] : List UInt8) = Lib.decDigits (val []) ∧ (val [] : Int) ≤ B) from fun h => dd_ne _ h.1.symm), if_neg (by simp)]
    exact ⟨_, _, rfl, fun h => h.elim, fun _ => rfl⟩
  | cons b r =>
    have hlr : r.length ≤ 1048576 := by simp at hlen; omega
    simp only [okS, sval]
    by_cases c : b = 45
    · subst c
      simp only [if_true, implNumber_is r hlr (show 0 ≤ B ∧ B ≤ 1000000000 by omega), Option.bind_some]
      by_cases h : r = Lib.decDigits (val r) ∧ (val r : Int) ≤ B
      · rw [if_pos h]
        refine ⟨_, _, rfl, fun hh => ?_, fun hh => ?_⟩
        · rw [w64_in (by omega) (by omega)]
          exact ⟨by simp, by simp; omega⟩
        · simp only [Bool.true_and, decide_eq_false_iff_not]
          intro h3
          exact hh ⟨h.1, by omega, h.2⟩
      · rw [if_neg h]
        exact ⟨_, _, rfl, fun hh => absurd ⟨hh.1, hh.2.2⟩ h, fun _ => rfl⟩
    · simp only [if_neg c, implNumber_is (b :: r) hlen (show 0 ≤ B ∧ B ≤ 1000000000 by omega), Option.bind_some, Bool.false_eq_true, if_false]
      by_cases h : b :: r = Lib.decDigits (val (b :: r)) ∧ (val (b :: r) : Int) ≤ B
      · rw [if_pos h]
        exact ⟨_, _, rfl, fun _ => ⟨rfl, rfl⟩, fun hh => absurd h hh⟩
      · rw [if_neg h]
        exact ⟨_, _, rfl, fun hh => absurd hh h, fun _ => rfl⟩

end Go.Proofs.YtplklknkkaeniaaGreatDoor
