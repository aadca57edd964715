/- The text of choices: the program's is the reference's. -/
import Derived.Test.YtplklknkkaeniaaGreatDoorM0
import Derived.Test.YtplklknkkaeniaaGreatDoorPFrame
import Derived.Test.YtplklknkkaeniaaGreatDoorPWear
import Derived.Test.YtplklknkkaeniaaGreatDoorPChoices
import Derived.Test.YtplklknkkaeniaaGreatDoorPFit
import Derived.Test.YtplklknkkaeniaaGreatDoorPTxt
import Derived.Test.YtplklknkkaeniaaGreatDoorPJoin
import Derived.Test.YtplklknkkaeniaaGreatDoorPure
namespace Go.Proofs.YtplklknkkaeniaaGreatDoor
open Eng
set_option linter.unusedVariables false
set_option linter.unusedSimpArgs false

def wordL (x : GChoice) : List UInt8 := if x.fAway = true then [120] else (((Lib.itoa x.fLate ++ [47]) ++ Lib.itoa x.fOctave) ++ [47]) ++ Lib.itoa x.fTrack
structure I8 (x : GChoice) : Prop where
  l0 : -127 ≤ x.fLate
  l1 : x.fLate ≤ 127
  o0 : -127 ≤ x.fOctave
  o1 : x.fOctave ≤ 127
  t0 : -127 ≤ x.fTrack
  t1 : x.fTrack ≤ 127
theorem wordL_len {x : GChoice} (h : I8 x) : (wordL x).length ≤ 65 := by
  obtain ⟨a, b, c, d, e, f⟩ := h
  unfold wordL
  split
  · simp
  · have h1 := itoa_len (n := x.fLate) (by omega) (by omega)
    have h2 := itoa_len (n := x.fOctave) (by omega) (by omega)
    have h3 := itoa_len (n := x.fTrack) (by omega) (by omega)
    simp; omega
theorem implWords {list : List GChoice} (h : ∀ x ∈ list, I8 x) (hl : list.length ≤ 120) : loop (impl_ChoicesText.l_8 list) (([] : List ByteArray), 0) = some (list.map fun x => tb (wordL x)) := by
  have := loop_seq (f := impl_ChoicesText.l_8 list) list.length (fun k => ((list.take k).map fun x => tb (wordL x), (k : Int))) (list.map fun x => tb (wordL x)) (fun k hk => by
    have hx := h _ (List.getElem_mem hk)
    have hw := wordL_len hx
    obtain ⟨a, b, c, d, e, f⟩ := hx
    have h1 := itoa_len (n := list[k].fLate) (by omega) (by omega)
    have h2 := itoa_len (n := list[k].fOctave) (by omega) (by omega)
    have h3 := itoa_len (n := list[k].fTrack) (by omega) (by omega)
    have e1 : (ByteArray.mk #[47]) = tb [47] := rfl
    have e2 : (ByteArray.mk #[120]) = tb [120] := rfl
    simp only [impl_ChoicesText.l_8, ix_lt hk, Option.bind_some, w64_in (n := list[k].fLate) (by omega) (by omega), w64_in (n := list[k].fOctave) (by omega) (by omega), w64_in (n := list[k].fTrack) (by omega) (by omega), implDecimal_is (n := list[k].fLate) (by omega) (by omega), implDecimal_is (n := list[k].fOctave) (by omega) (by omega), implDecimal_is (n := list[k].fTrack) (by omega) (by omega), e1, e2, tb_size, tb_app, impl_ChoicesText.k_12]
    rw [if_pos (by simpa using hk), w64_in (n := (k : Int) + 1) (by omega) (by omega), List.take_succ_eq_append_getElem hk, List.map_append]
    have hlen : ∀ y : ByteArray, ((list.take k).map fun x => tb (wordL x)).length + [y].length ≤ 4294967296 := fun y => by simp; omega
    cases hA : list[k].fAway with
    | true =>
      rw [if_neg (by simp), if_pos (hlen _)]
      simp [wordL, hA]
    | false =>
      rw [if_pos (by simp), if_pos (by simp; omega), if_pos (by simp; omega), if_pos (by simp; omega), if_pos (by simp; omega), if_pos (hlen _)]
      simp [wordL, hA]) (by
    simp only [impl_ChoicesText.l_8]
    rw [if_neg (by simp), List.take_of_length_le (Nat.le_refl _)])
  exact this
def choicesT (list : List GChoice) : ByteArray := if list.all choiceB = true ∧ list.length ≤ 120 then tb (Lib.join (list.map wordL) [32]) else tb []
theorem choiceB_i8 {x : GChoice} (h : choiceB x = true) (hr : (-128 ≤ x.fLate ∧ x.fLate ≤ 127) ∧ (-128 ≤ x.fOctave ∧ x.fOctave ≤ 127) ∧ (-128 ≤ x.fTrack ∧ x.fTrack ≤ 127)) : I8 x := by
  unfold choiceB at h
  cases hA : x.fAway with
  | true =>
    rw [hA] at h
    simp only [if_true, Bool.and_eq_true, beq_iff_eq] at h
    exact ⟨by omega, by omega, by omega, by omega, by omega, by omega⟩
  | false =>
    rw [hA] at h
    simp only [Bool.false_eq_true, if_false, Bool.and_eq_true, decide_eq_true_eq] at h
    rw [w64_in (n := x.fLate) (by omega) (by omega), w64_in (n := x.fOctave) (by omega) (by omega), w64_in (n := x.fTrack) (by omega) (by omega)] at h
    exact ⟨by omega, by omega, by omega, by omega, by omega, by omega⟩
def In8 (x : GChoice) : Prop := (-128 ≤ x.fLate ∧ x.fLate ≤ 127) ∧ (-128 ≤ x.fOctave ∧ x.fOctave ≤ 127) ∧ (-128 ≤ x.fTrack ∧ x.fTrack ≤ 127)
theorem implChoicesText_is {list : List GChoice} (hi : ∀ x ∈ list, In8 x) (hl : list.length ≤ 2000000) : impl_ChoicesText list = some (choicesT list) := by
  simp only [impl_ChoicesText, choicesT]
  by_cases c1 : list.length ≤ 120
  · rw [if_neg (by simp; omega), choicesCode_is list (by omega)]
    simp only [Option.bind_some, impl_ChoicesText.k_2]
    by_cases c2 : list.all choiceB = true
    · have h8 : ∀ x ∈ list, I8 x := fun x hx => choiceB_i8 (List.all_eq_true.1 c2 x hx) (hi x hx)
      rw [if_pos c2, if_neg (by simp), implWords h8 c1, if_pos ⟨c2, c1⟩]
      have e3 : (ByteArray.mk #[32]) = tb [32] := rfl
      have hj := join_len [32] 65 (list.map wordL) (fun y hy => by
        obtain ⟨x, hx, rfl⟩ := List.mem_map.1 hy
        exact wordL_len (h8 x hx))
      have hjl : (list.map wordL).length ≤ 120 := by simpa using c1
      have hjl2 : (Lib.join (list.map wordL) [32]).length ≤ 120 * 66 := Nat.le_trans hj (Nat.mul_le_mul hjl (by simp))
      have em : (list.map fun x => tb (wordL x)) = (list.map wordL).map tb := by rw [List.map_map]; rfl
      simp only [Option.bind_some, impl_ChoicesText.k_4, strings_Join, e3]
      rw [em, joinF_tb (by omega) (by omega)]
      rfl
    · rw [if_neg c2, if_pos (by simp), if_neg (fun hh => c2 hh.1)]
      rfl
  · rw [if_pos (by simp; omega), if_neg (fun hh => c1 hh.2)]
    simp only [impl_ChoicesText.k_2]
    rw [if_pos trivial]
    rfl
end Go.Proofs.YtplklknkkaeniaaGreatDoor
