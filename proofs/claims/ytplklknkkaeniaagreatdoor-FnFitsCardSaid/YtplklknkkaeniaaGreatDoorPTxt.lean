/- Texts as lists of bytes, and numbers' texts. -/
import Derived.Test.YtplklknkkaeniaaGreatDoorM0
import Derived.Test.YtplklknkkaeniaaGreatDoorPFrame
import Derived.Test.YtplklknkkaeniaaGreatDoorPure
namespace Go.Proofs.YtplklknkkaeniaaGreatDoor
open Eng
set_option linter.unusedVariables false
set_option linter.unusedSimpArgs false

/-- the text of bytes -/
def tb (l : List UInt8) : ByteArray := ⟨l.toArray⟩
theorem tb_size (l : List UInt8) : (tb l).size = l.length := by simp [tb, ByteArray.size]
theorem tb_list (l : List UInt8) : (tb l).toList = l := by rw [ByteArray.toList_eq]; simp [tb]
theorem tb_data (l : List UInt8) : (tb l).data.toList = l := by simp [tb]
theorem tb_app (a b : List UInt8) : tb a ++ tb b = tb (a ++ b) := by
  apply ByteArray.ext
  rw [ByteArray.data_append]
  simp [tb]
theorem tb_of (s : ByteArray) : tb s.data.toList = s := by cases s; simp [tb]
theorem tb_inj {a b : List UInt8} (h : tb a = tb b) : a = b := by
  have := congrArg (fun s : ByteArray => s.data.toList) h
  simpa [tb] using this
theorem tb_push (l : List UInt8) (b : UInt8) : (tb l).push b = tb (l ++ [b]) := by
  apply ByteArray.ext
  rw [ByteArray.data_push]
  simp [tb]
theorem tb_empty : ByteArray.empty = tb [] := rfl
theorem tb_extract (l : List UInt8) (i j : Nat) : (tb l).extract i j = tb ((l.take j).drop i) := by
  apply ByteArray.ext
  rw [ByteArray.data_extract]
  simp [tb, List.extract_eq_take_drop, List.drop_take]
theorem sIx_tb (l : List UInt8) (i : Nat) (h : i < l.length) : sIx (tb l) (i : Int) = some (l[i].toNat : Int) := by
  unfold sIx
  rw [if_pos (by omega)]
  have hs : i < (tb l).size := by rw [tb_size]; exact h
  rw [Int.toNat_natCast, getElem?_pos (tb l) i hs]
  simp [tb, ByteArray.getElem_eq_getElem_data]
/-! ### the reference's numbers -/
theorem digit_is {n : Int} (h0 : 0 ≤ n) (h1 : n ≤ 9223372036854775807) : UInt8.ofNat (u8 (w64 (48 + Int.tmod n 10))).toNat = UInt8.ofNat (48 + n.toNat % 10) := by
  have e : Int.tmod n 10 = ((n.toNat % 10 : Nat) : Int) := by
    rw [Int.tmod_eq_emod_of_nonneg h0]; omega
  have hlt : n.toNat % 10 < 10 := Nat.mod_lt _ (by omega)
  rw [e, w64_in (by omega) (by omega), u8_in (by omega) (by omega)]
  congr 1
theorem pow20 : (10 : Int) ^ (19 + 1) = 100000000000000000000 := by decide
theorem dd_len : ∀ (k n : Nat), n < 10 ^ (k + 1) → (Lib.decDigits n).length ≤ k + 1 := by
  intro k
  induction k with
  | zero => intro n h; rw [Lib.decDigits, dif_pos (by omega)]; simp
  | succ k ih =>
    intro n h
    by_cases c : n < 10
    · rw [Lib.decDigits, dif_pos c]; simp
    · rw [Lib.decDigits, dif_neg c, List.length_append]
      have := ih (n / 10) (Nat.div_lt_of_lt_mul (by rw [Nat.pow_succ] at h; omega))
      simp; omega
theorem decDigits_len {n : Nat} (h : n ≤ 9223372036854775807) : (Lib.decDigits n).length ≤ 20 := dd_len 19 n (by rw [show 10 ^ (19 + 1) = 100000000000000000000 by decide]; omega)
/-! ### the program's -/
theorem implDecimal_is {n : Int} (h0 : -9223372036854775808 ≤ n) (h1 : n ≤ 9223372036854775807) : impl_decimal n = some (tb (Lib.itoa n)) := by
  simp only [impl_decimal, strconv_FormatInt, fmtF]
  rw [if_pos ⟨trivial, h0, h1⟩]
  rfl
theorem itoa_len {n : Int} (h0 : -9223372036854775807 ≤ n) (h1 : n ≤ 9223372036854775807) : (Lib.itoa n).length ≤ 21 := by
  unfold Lib.itoa
  split
  · have := decDigits_len (n := n.natAbs) (by omega)
    simp; omega
  · have := decDigits_len (n := n.toNat) (by omega)
    omega

end Go.Proofs.YtplklknkkaeniaaGreatDoor
