/- What the laws' helpers come to. Printed by a program. -/
import Derived.Test.YtdnkjgmncfhejaaO
import Derived.Test.YtdnkjgmncfhejaaPure
namespace Go.Proofs.Ytdnkjgmncfhejaa
open Eng
set_option linter.unusedVariables false
set_option linter.unusedSimpArgs false

theorem laws_szHammerS_is (a : List GHammer) (left : Int) (h0 : 0 ≤ left) (h1 : left ≤ 1048576) (h2 : a.length ≤ 9223372036854775807) :
    laws_szHammerS a left = some (if left < a.length then -1 else left - a.length) := by
  simp only [laws_szHammerS]
  rw [w64_in (by omega) (by omega)]
  repeat' split
  all_goals simp_all <;> omega
theorem laws_szFrame_is (a : GFrame) (left : Int) (h0 : 0 ≤ left) (h1 : left ≤ 1048576) (g0 : a.fHammers.length ≤ 9223372036854775807) :
    laws_szFrame a left = some (if left < (a.fHammers.length : Int) then -1 else left - ((a.fHammers.length : Int))) := by
  simp only [laws_szFrame]
  rw [laws_szHammerS_is _ _ (by omega) (by omega) g0]
  simp only [Option.bind_some]
  by_cases c0 : left < (a.fHammers.length : Int)
  · rw [if_pos c0, if_pos (by simp)]
    try rw [if_pos (by omega)]
  rw [if_neg c0, if_neg (by simp; omega)]
  try rw [if_neg (by omega)]
  try (congr 1; omega)
theorem laws_toHammer_is (a : GHammer) : laws_toHammer a = some a := by rfl
theorem laws_toHammerS_is (a : List GHammer) (h : a.length ≤ 1048576) : laws_toHammerS a = some a := by
  simp only [laws_toHammerS]
  rw [if_pos (by omega), show ((a.length : Int)).toNat = a.length by omega,
    loop_copy a _ (by omega) (fun ys k hk hl => by simp [laws_toHammerS.l_5, hk, laws_toHammer_is, ix_lt, hl]) (fun ys => by simp [laws_toHammerS.l_5])]
  rfl
theorem laws_toFrame_is (a : GFrame) (h : a.fHammers.length ≤ 1048576) : laws_toFrame a = some a := by
  simp only [laws_toFrame]
  rw [laws_toHammerS_is _ (by omega), Option.bind_some]

theorem laws_toNote_is (a : GNote) : laws_toNote a = some a := by rfl
theorem laws_eqChoice_is (a b : GChoice) : laws_eqChoice a b = some (decide (a = b)) := by
  obtain ⟨a0, a1, a2, a3⟩ := a; obtain ⟨b0, b1, b2, b3⟩ := b
  simp only [laws_eqChoice, GChoice.mk.injEq]
  repeat' split
  all_goals simp_all
theorem laws_eqChoiceS_is (a b : List GChoice) (h : a.length ≤ 1048576) : laws_eqChoiceS a b = some (decide (a = b)) := by
  simp only [laws_eqChoiceS]
  by_cases hl : a.length = b.length
  · rw [if_neg (by simp [hl]), loop_same a b (by omega) hl (fun k hk hk' => by
      simp only [laws_eqChoiceS.l_3, ix_lt hk, ix_lt hk', Option.bind_some, laws_eqChoice_is]
      rw [if_pos (by simpa using hk)]
      by_cases he : a[k] = b[k] <;> simp [he]) (by simp [laws_eqChoiceS.l_3])]
    simp only [Option.bind_some]
    by_cases he : a = b <;> simp [he, laws_eqChoiceS.k_1]
  · rw [if_pos (by simp; omega)]
    simp only [Option.some.injEq]
    symm; simp
    rintro rfl; exact hl rfl
theorem laws_eqHammer_is (a b : GHammer) : laws_eqHammer a b = some (decide (a = b)) := by
  obtain ⟨a0, a1⟩ := a; obtain ⟨b0, b1⟩ := b
  simp only [laws_eqHammer, GHammer.mk.injEq]
  repeat' split
  all_goals simp_all
theorem laws_eqHammerS_is (a b : List GHammer) (h : a.length ≤ 1048576) : laws_eqHammerS a b = some (decide (a = b)) := by
  simp only [laws_eqHammerS]
  by_cases hl : a.length = b.length
  · rw [if_neg (by simp [hl]), loop_same a b (by omega) hl (fun k hk hk' => by
      simp only [laws_eqHammerS.l_3, ix_lt hk, ix_lt hk', Option.bind_some, laws_eqHammer_is]
      rw [if_pos (by simpa using hk)]
      by_cases he : a[k] = b[k] <;> simp [he]) (by simp [laws_eqHammerS.l_3])]
    simp only [Option.bind_some]
    by_cases he : a = b <;> simp [he, laws_eqHammerS.k_1]
  · rw [if_pos (by simp; omega)]
    simp only [Option.some.injEq]
    symm; simp
    rintro rfl; exact hl rfl
theorem laws_eqFrame_is (a b : GFrame) (h : a.fHammers.length ≤ 1048576) : laws_eqFrame a b = some (decide (a = b)) := by
  simp only [laws_eqFrame, laws_eqHammerS_is _ _ (show a.fHammers.length ≤ 1048576 by omega), Option.bind_some]
  obtain ⟨a0, a1⟩ := a; obtain ⟨b0, b1⟩ := b
  by_cases h0 : a0 = b0 <;> by_cases h1 : a1 = b1 <;> simp [h0, h1]
def mk_HammerS (k : Int) : GHammer := (⟨(w8 k), (w8 (w64 (k + 1)))⟩ : GHammer)
def st_HammerS (k : Int) : Int := (w64 ((w64 (k + 1)) + 1))
theorem st_HammerS_is (n : Nat) (h : n ≤ 1048576) (k0 : Int) (h0 : 0 ≤ k0) (h1 : k0 ≤ 4294967296) : iter st_HammerS n k0 = k0 + n * 2 := by
  induction n with
  | zero => simp [iter]
  | succ n ih =>
    rw [iter, ih (by omega), st_HammerS]
    rw [w64_in (show -9223372036854775808 ≤ k0 + (n : Int) * 2 + 1 by omega) (by omega)]
    rw [w64_in (show -9223372036854775808 ≤ k0 + (n : Int) * 2 + 1 + 1 by omega) (by omega)]
    omega
theorem laws_markHammerS_is (a : List GHammer) (k0 : Int) (h : a.length ≤ 1048576) (h0 : 0 ≤ k0) (h1 : k0 ≤ 4294967296) :
    ∃ ys, laws_markHammerS a k0 = some (k0 + a.length * 2, ys) ∧ ys.length = a.length := by
  obtain ⟨ys, hy, hl, hg⟩ := loop_mark (f := laws_markHammerS.l_7 a) a mk_HammerS st_HammerS k0 (by omega)
    (fun ys i hi hl => by simp [laws_markHammerS.l_7, hi, hl, ix_lt, ix_set_self, List.set_set, iter, mk_HammerS, st_HammerS]) (fun ys k => by simp [laws_markHammerS.l_7])
  rw [st_HammerS_is a.length h k0 h0 h1] at hy
  refine ⟨ys, ?_, hl⟩
  simp only [laws_markHammerS, hy, Option.bind_some, laws_markHammerS.k_3]
theorem laws_markFrame_is (a : GFrame) (k0 : Int) (h : a.fHammers.length ≤ 1048576) (h0 : 0 ≤ k0) (h1 : k0 ≤ 4294967296) :
    ∃ ys, laws_markFrame a k0 = some (k0 + a.fHammers.length * 2, ys) ∧ ys.length = a.fHammers.length := by
  obtain ⟨ys, hy, hl⟩ := laws_markHammerS_is a.fHammers k0 h h0 h1
  exact ⟨ys, by simp only [laws_markFrame, hy, Option.bind_some], hl⟩
def mk_ChoiceS (k : Int) : GChoice := (⟨((Int.tmod k 3) == 0), (w8 (w64 (k + 1))), (w8 (w64 ((w64 (k + 1)) + 1))), (w8 (w64 ((w64 ((w64 (k + 1)) + 1)) + 1)))⟩ : GChoice)
def st_ChoiceS (k : Int) : Int := (w64 ((w64 ((w64 ((w64 (k + 1)) + 1)) + 1)) + 1))
theorem st_ChoiceS_is (n : Nat) (h : n ≤ 1048576) (k0 : Int) (h0 : 0 ≤ k0) (h1 : k0 ≤ 4294967296) : iter st_ChoiceS n k0 = k0 + n * 4 := by
  induction n with
  | zero => simp [iter]
  | succ n ih =>
    rw [iter, ih (by omega), st_ChoiceS]
    rw [w64_in (show -9223372036854775808 ≤ k0 + (n : Int) * 4 + 1 by omega) (by omega)]
    rw [w64_in (show -9223372036854775808 ≤ k0 + (n : Int) * 4 + 1 + 1 by omega) (by omega)]
    rw [w64_in (show -9223372036854775808 ≤ k0 + (n : Int) * 4 + 1 + 1 + 1 by omega) (by omega)]
    rw [w64_in (show -9223372036854775808 ≤ k0 + (n : Int) * 4 + 1 + 1 + 1 + 1 by omega) (by omega)]
    omega
theorem laws_markChoiceS_is (a : List GChoice) (k0 : Int) (h : a.length ≤ 1048576) (h0 : 0 ≤ k0) (h1 : k0 ≤ 4294967296) :
    ∃ ys, laws_markChoiceS a k0 = some (k0 + a.length * 4, ys) ∧ ys.length = a.length ∧ laws_heldChoiceS ys k0 = some (k0 + a.length * 4) := by
  obtain ⟨ys, hy, hl, hg⟩ := loop_mark (f := laws_markChoiceS.l_7 a) a mk_ChoiceS st_ChoiceS k0 (by omega)
    (fun ys i hi hl => by simp [laws_markChoiceS.l_7, hi, hl, ix_lt, ix_set_self, List.set_set, iter, mk_ChoiceS, st_ChoiceS]) (fun ys k => by simp [laws_markChoiceS.l_7])
  have hh := loop_held (f := laws_heldChoiceS.l_5 ys) ys st_ChoiceS k0 (by omega)
    (fun i hi => by simp [laws_heldChoiceS.l_5, hi, ix_lt, hg i hi, iter, mk_ChoiceS, st_ChoiceS]) (fun k => by simp [laws_heldChoiceS.l_5])
  rw [hl, st_ChoiceS_is a.length h k0 h0 h1] at hh
  rw [st_ChoiceS_is a.length h k0 h0 h1] at hy
  refine ⟨ys, ?_, hl, ?_⟩
  · simp only [laws_markChoiceS, hy, Option.bind_some, laws_markChoiceS.k_3]
  · simp only [laws_heldChoiceS, hh, Option.bind_some, laws_heldChoiceS.k_2]
theorem laws_szWornPinS_is (a : List GWornPin) (left : Int) (h0 : 0 ≤ left) (h1 : left ≤ 1048576) (h2 : a.length ≤ 9223372036854775807) :
    laws_szWornPinS a left = some (if left < a.length then -1 else left - a.length) := by
  simp only [laws_szWornPinS]
  rw [w64_in (by omega) (by omega)]
  repeat' split
  all_goals simp_all <;> omega
theorem laws_szInt64S_is (a : List Int) (left : Int) (h0 : 0 ≤ left) (h1 : left ≤ 1048576) (h2 : a.length ≤ 9223372036854775807) :
    laws_szInt64S a left = some (if left < a.length then -1 else left - a.length) := by
  simp only [laws_szInt64S]
  rw [w64_in (by omega) (by omega)]
  repeat' split
  all_goals simp_all <;> omega
theorem laws_szWear_is (a : GWear) (left : Int) (h0 : 0 ≤ left) (h1 : left ≤ 1048576) (g0 : a.fPins.length ≤ 9223372036854775807) (g1 : a.fStrokes.length ≤ 9223372036854775807) :
    laws_szWear a left = some (if left < (a.fPins.length : Int) + (a.fStrokes.length : Int) then -1 else left - ((a.fPins.length : Int) + (a.fStrokes.length : Int))) := by
  simp only [laws_szWear]
  rw [laws_szWornPinS_is _ _ (by omega) (by omega) g0]
  simp only [Option.bind_some]
  by_cases c0 : left < (a.fPins.length : Int)
  · rw [if_pos c0, if_pos (by simp)]
    try rw [if_pos (by omega)]
  rw [if_neg c0, if_neg (by simp; omega)]
  rw [laws_szInt64S_is _ _ (by omega) (by omega) g1]
  simp only [Option.bind_some]
  by_cases c1 : left - (a.fPins.length : Int) < (a.fStrokes.length : Int)
  · rw [if_pos c1, if_pos (by simp)]
    try rw [if_pos (by omega)]
  rw [if_neg c1, if_neg (by simp; omega)]
  try rw [if_neg (by omega)]
  try (congr 1; omega)
theorem laws_toWornPin_is (a : GWornPin) : laws_toWornPin a = some a := by rfl
theorem laws_toWornPinS_is (a : List GWornPin) (h : a.length ≤ 1048576) : laws_toWornPinS a = some a := by
  simp only [laws_toWornPinS]
  rw [if_pos (by omega), show ((a.length : Int)).toNat = a.length by omega,
    loop_copy a _ (by omega) (fun ys k hk hl => by simp [laws_toWornPinS.l_5, hk, laws_toWornPin_is, ix_lt, hl]) (fun ys => by simp [laws_toWornPinS.l_5])]
  rfl
theorem laws_toInt64S_is (a : List Int) (h : a.length ≤ 1048576) : laws_toInt64S a = some a := by
  simp only [laws_toInt64S]
  rw [if_pos (by omega), show ((a.length : Int)).toNat = a.length by omega,
    loop_copy a _ (by omega) (fun ys k hk hl => by simp [laws_toInt64S.l_5, hk, ix_lt, hl]) (fun ys => by simp [laws_toInt64S.l_5])]
  rfl
theorem laws_toWear_is (a : GWear) (h : a.fPins.length + a.fStrokes.length ≤ 1048576) : laws_toWear a = some a := by
  simp only [laws_toWear]
  rw [laws_toWornPinS_is _ (by omega), Option.bind_some]
  rw [laws_toInt64S_is _ (by omega), Option.bind_some]

theorem laws_eqWornPin_is (a b : GWornPin) : laws_eqWornPin a b = some (decide (a = b)) := by
  obtain ⟨a0, a1, a2⟩ := a; obtain ⟨b0, b1, b2⟩ := b
  simp only [laws_eqWornPin, GWornPin.mk.injEq]
  repeat' split
  all_goals simp_all
theorem laws_eqWornPinS_is (a b : List GWornPin) (h : a.length ≤ 1048576) : laws_eqWornPinS a b = some (decide (a = b)) := by
  simp only [laws_eqWornPinS]
  by_cases hl : a.length = b.length
  · rw [if_neg (by simp [hl]), loop_same a b (by omega) hl (fun k hk hk' => by
      simp only [laws_eqWornPinS.l_3, ix_lt hk, ix_lt hk', Option.bind_some, laws_eqWornPin_is]
      rw [if_pos (by simpa using hk)]
      by_cases he : a[k] = b[k] <;> simp [he]) (by simp [laws_eqWornPinS.l_3])]
    simp only [Option.bind_some]
    by_cases he : a = b <;> simp [he, laws_eqWornPinS.k_1]
  · rw [if_pos (by simp; omega)]
    simp only [Option.some.injEq]
    symm; simp
    rintro rfl; exact hl rfl
theorem laws_eqInt64S_is (a b : List Int) (h : a.length ≤ 1048576) : laws_eqInt64S a b = some (decide (a = b)) := by
  simp only [laws_eqInt64S]
  by_cases hl : a.length = b.length
  · rw [if_neg (by simp [hl]), loop_same a b (by omega) hl (fun k hk hk' => by
      simp only [laws_eqInt64S.l_3, ix_lt hk, ix_lt hk', Option.bind_some]
      rw [if_pos (by simpa using hk)]
      by_cases he : a[k] = b[k] <;> simp [he]) (by simp [laws_eqInt64S.l_3])]
    simp only [Option.bind_some]
    by_cases he : a = b <;> simp [he, laws_eqInt64S.k_1]
  · rw [if_pos (by simp; omega)]
    simp only [Option.some.injEq]
    symm; simp
    rintro rfl; exact hl rfl
theorem laws_eqWear_is (a b : GWear) (h : a.fPins.length + a.fStrokes.length ≤ 1048576) : laws_eqWear a b = some (decide (a = b)) := by
  simp only [laws_eqWear, laws_eqWornPinS_is _ _ (show a.fPins.length ≤ 1048576 by omega), laws_eqInt64S_is _ _ (show a.fStrokes.length ≤ 1048576 by omega), Option.bind_some]
  obtain ⟨a0, a1⟩ := a; obtain ⟨b0, b1⟩ := b
  by_cases h0 : a0 = b0 <;> by_cases h1 : a1 = b1 <;> simp [h0, h1]

end Go.Proofs.Ytdnkjgmncfhejaa
