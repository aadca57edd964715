/- Numbers with a sign read from texts. -/
import Derived.Test.YtgmmeokkgcbkdaaGreatDoorM0
import Derived.Test.YtgmmeokkgcbkdaaGreatDoorPFrame
import Derived.Test.YtgmmeokkgcbkdaaGreatDoorPTxt
import Derived.Test.YtgmmeokkgcbkdaaGreatDoorPNum
import Derived.Test.YtgmmeokkgcbkdaaGreatDoorPure
namespace Go.Proofs.YtgmmeokkgcbkdaaGreatDoor
open Eng
set_option linter.unusedVariables false
set_option linter.unusedSimpArgs false

theorem dd_no45 (n : Nat) (r : List UInt8) : Lib.decDigits n ≠ 45 :: r := by
  intro h
  have := dd_dig n 45 (by rw [h]; simp)
  exact absurd this.1 (by decide)
theorem cutMinus_is (l : List UInt8) (hlen : l.length ≤ 1048576) (c : UInt8) : strings_CutPrefix (tb l) (tb [c]) = some (match l with
    | [] => (tb [], false)
    | b :: r => if b = c then (tb r, true) else (tb l, false)) := by
  simp only [strings_CutPrefix, stringslite_CutPrefix, stringslite_HasPrefix, tb_size, tb_extract, tb_list]
  cases l with
  | nil => simp
  | cons b r =>
    rw [if_pos (by simp; omega), if_pos ⟨by omega, by simp, by simp; omega⟩]
    simp only [Option.bind_some]
    by_cases h : b = c
    · subst h
      have e : (((((b :: r).take (([b] : List UInt8).length : Int).toNat).drop (0 : Int).toNat) == [b]) : Bool) = true := by simp
      rw [e, if_neg (by simp), if_pos ⟨by omega, by simp; omega, by omega⟩, if_pos rfl]
      simp
    · have e : (((((b :: r).take (([c] : List UInt8).length : Int).toNat).drop (0 : Int).toNat) == [c]) : Bool) = false := by simp [h]
      rw [e, if_pos (by simp), if_neg h]
      rfl
end Go.Proofs.YtgmmeokkgcbkdaaGreatDoor
