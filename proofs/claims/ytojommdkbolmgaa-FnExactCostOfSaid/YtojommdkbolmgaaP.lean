/- Each law's plain function answers true at every input that a caller can hand in. -/
import Derived.Test.YtojommdkbolmgaaO
import Derived.Test.YtojommdkbolmgaaPure
namespace Go.Proofs.Ytojommdkbolmgaa
open Eng
set_option linter.unusedVariables false
set_option linter.unusedSimpArgs false

theorem within_in (n lo hi : Int) : impl_within n lo hi = spec_l00In n lo hi := by simp [impl_within, spec_l00In, ge_iff_le]
theorem validLives_same (v : GLives) : impl_ValidLives v = spec_ValidLives v := by
  simp only [impl_ValidLives, spec_ValidLives, spec_l06Lives, within_in, Option.bind_some]
  simp [spec_l00In]
  try split <;> rfl
theorem spec_l06Lives_is (v : GLives) : ∃ b, spec_ValidLives v = some b := by
  simp only [spec_ValidLives, spec_l06Lives, spec_l00In, Option.bind_some]
  split <;> exact ⟨_, rfl⟩
theorem FnExactValidLives_ok (v : GLives) (_ : okGLives v) : laws_FnExactValidLives v = some true := by
  obtain ⟨b, hb⟩ := spec_l06Lives_is v
  simp [laws_FnExactValidLives, laws_toLives, validLives_same, hb]

theorem validCosts_same (v : GCosts) : impl_ValidCosts v = spec_l07Costs v := by
  simp only [impl_ValidCosts, spec_l07Costs, within_in]
theorem l07Costs_is (v : GCosts) : ∃ b, spec_l07Costs v = some b := by
  simp only [spec_l07Costs, spec_l00In, Option.bind_some]
  repeat' split
  all_goals exact ⟨_, rfl⟩
theorem FnExactValidCosts_ok (v : GCosts) (_ : okGCosts v) : laws_FnExactValidCosts v = some true := by
  obtain ⟨b, hb⟩ := l07Costs_is v
  simp [laws_FnExactValidCosts, laws_toCosts, spec_ValidCosts, validCosts_same, hb]

theorem validChoice_same (v : GChoice) : impl_ValidChoice v = spec_l07Choice v := by
  simp only [impl_ValidChoice, spec_l07Choice, within_in]
theorem l07Choice_is (v : GChoice) : ∃ b, spec_l07Choice v = some b := by
  simp only [spec_l07Choice, spec_l00In, Option.bind_some]
  repeat' split
  all_goals exact ⟨_, rfl⟩
theorem FnExactValidChoice_ok (v : GChoice) (_ : okGChoice v) : laws_FnExactValidChoice v = some true := by
  obtain ⟨b, hb⟩ := l07Choice_is v
  simp [laws_FnExactValidChoice, laws_toChoice, spec_ValidChoice, validChoice_same, hb]

theorem isNote_same (n : GNote) : impl_isNote n = spec_l01Note n := by
  simp only [impl_isNote, spec_l01Note, impl_isPitch, within_in, Option.bind_assoc, Option.bind_some]
theorem l01Note_is (v : GNote) : ∃ b, spec_l01Note v = some b := by
  simp only [spec_l01Note, spec_l00In, Option.bind_some]
  repeat' split
  all_goals exact ⟨_, rfl⟩
theorem noteOf_same (n : GNote) (x : GChoice) : impl_NoteOf n x = spec_NoteOf n x := by
  simp only [impl_NoteOf, spec_NoteOf, isNote_same, validChoice_same, impl_NoteOf.k_2, spec_NoteOf.k_2]
theorem noteOf_is (n : GNote) (x : GChoice) : ∃ b, spec_NoteOf n x = some b := by
  obtain ⟨b, hb⟩ := l01Note_is n
  obtain ⟨c, hc⟩ := l07Choice_is x
  simp only [spec_NoteOf, hb, hc, Option.bind_some, spec_NoteOf.k_2]
  repeat' split
  all_goals exact ⟨_, rfl⟩
theorem eqNote_is (a b : GNote) : laws_eqNote a b = some (decide (a = b)) := by
  obtain ⟨a0, a1⟩ := a; obtain ⟨b0, b1⟩ := b
  simp only [laws_eqNote, GNote.mk.injEq]
  repeat' split
  all_goals simp_all
theorem FnExactNoteOf_ok (n : GNote) (x : GChoice) (_ : okGNote n) (_ : okGChoice x) : laws_FnExactNoteOf n x = some true := by
  obtain ⟨b, hb⟩ := noteOf_is n x
  simp [laws_FnExactNoteOf, laws_toNote, laws_toChoice, noteOf_same, hb, eqNote_is]

/-! ### SameWear -/
theorem szWornPinS_is (a : List GWornPin) (left : Int) (h0 : 0 ≤ left) (h1 : left ≤ 1048576) (h2 : a.length ≤ 9223372036854775807) :
    laws_szWornPinS a left = some (if left < a.length then -1 else left - a.length) := by
  simp only [laws_szWornPinS]
  rw [w64_in (by omega) (by omega)]
  repeat' split
  all_goals simp_all <;> omega
theorem szInt64S_is (a : List Int) (left : Int) (h0 : 0 ≤ left) (h1 : left ≤ 1048576) (h2 : a.length ≤ 9223372036854775807) :
    laws_szInt64S a left = some (if left < a.length then -1 else left - a.length) := by
  simp only [laws_szInt64S]
  rw [w64_in (by omega) (by omega)]
  repeat' split
  all_goals simp_all <;> omega
theorem szWear_is (a : GWear) (left : Int) (h0 : 0 ≤ left) (h1 : left ≤ 1048576) (ha : okGWear a) :
    laws_szWear a left = some (if left < (a.fPins.length : Int) + a.fStrokes.length then -1 else left - (a.fPins.length + a.fStrokes.length)) := by
  obtain ⟨⟨p, _⟩, q, _⟩ := ha
  simp only [laws_szWear]
  rw [szWornPinS_is _ _ h0 h1 p]
  simp only [Option.bind_some]
  by_cases h : left < a.fPins.length
  · rw [if_pos h, if_pos (by simp), if_pos (by omega)]
  · rw [if_neg h, if_neg (by simp; omega), szInt64S_is _ _ (by omega) (by omega) q]
    simp only [Option.bind_some]
    repeat' split
    all_goals simp_all <;> omega

theorem toWornPinS_is (a : List GWornPin) (h : a.length ≤ 1048576) : laws_toWornPinS a = some a := by
  simp only [laws_toWornPinS]
  rw [if_pos (by omega), show ((a.length : Int)).toNat = a.length by omega,
    loop_copy a _ (by omega) (fun ys k hk hl => by simp [laws_toWornPinS.l_5, hk, laws_toWornPin, ix_lt, hl]) (fun ys => by simp [laws_toWornPinS.l_5])]
  rfl
theorem toInt64S_is (a : List Int) (h : a.length ≤ 1048576) : laws_toInt64S a = some a := by
  simp only [laws_toInt64S]
  rw [if_pos (by omega), show ((a.length : Int)).toNat = a.length by omega,
    loop_copy a _ (by omega) (fun ys k hk hl => by simp [laws_toInt64S.l_5, hk, ix_lt, hl]) (fun ys => by simp [laws_toInt64S.l_5])]
  rfl
theorem toWear_is (a : GWear) (h : a.fPins.length + a.fStrokes.length ≤ 1048576) : laws_toWear a = some a := by
  simp only [laws_toWear]
  rw [toWornPinS_is _ (by omega), Option.bind_some, toInt64S_is _ (by omega), Option.bind_some]

theorem eqWornPin_is (a b : GWornPin) : laws_eqWornPin a b = some (decide (a = b)) := by
  obtain ⟨a0, a1, a2⟩ := a; obtain ⟨b0, b1, b2⟩ := b
  simp only [laws_eqWornPin, GWornPin.mk.injEq]
  repeat' split
  all_goals simp_all
theorem eqWornPinS_is (a b : List GWornPin) (h : a.length ≤ 1048576) : laws_eqWornPinS a b = some (decide (a = b)) := by
  simp only [laws_eqWornPinS]
  by_cases hl : a.length = b.length
  · rw [if_neg (by simp [hl]), loop_same a b (by omega) hl (fun k hk hk' => by
      simp only [laws_eqWornPinS.l_3, ix_lt hk, ix_lt hk', Option.bind_some, eqWornPin_is]
      rw [if_pos (by simpa using hk)]
      by_cases he : a[k] = b[k] <;> simp [he]) (by simp [laws_eqWornPinS.l_3])]
    simp only [Option.bind_some]
    split <;> simp_all [laws_eqWornPinS.k_1]
    split at * <;> simp_all
  · rw [if_pos (by simp; omega)]
    simp only [Option.some.injEq]
    symm; simp
    rintro rfl; exact hl rfl

theorem eqInt64S_is (a b : List Int) (h : a.length ≤ 1048576) : laws_eqInt64S a b = some (decide (a = b)) := by
  simp only [laws_eqInt64S]
  by_cases hl : a.length = b.length
  · rw [if_neg (by simp [hl]), loop_same a b (by omega) hl (fun k hk hk' => by
      simp only [laws_eqInt64S.l_3, ix_lt hk, ix_lt hk', Option.bind_some]
      rw [if_pos (by simpa using hk)]
      by_cases he : a[k] = b[k] <;> simp [he]) (by simp [laws_eqInt64S.l_3])]
    simp only [Option.bind_some]
    by_cases he : a = b <;> simp [he, laws_eqInt64S.k_1]
  · rw [if_pos (by simp; omega)]
    simp only [Option.some.injEq]
    symm; simp
    rintro rfl; exact hl rfl
theorem eqWear_is (a b : GWear) (h : a.fPins.length + a.fStrokes.length ≤ 1048576) : laws_eqWear a b = some (decide (a = b)) := by
  simp only [laws_eqWear, eqWornPinS_is _ _ (show a.fPins.length ≤ 1048576 by omega), eqInt64S_is _ _ (show a.fStrokes.length ≤ 1048576 by omega), Option.bind_some]
  obtain ⟨a0, a1⟩ := a; obtain ⟨b0, b1⟩ := b
  by_cases h0 : a0 = b0 <;> by_cases h1 : a1 = b1 <;> simp [h0, h1]
theorem l00Same_is (a b : List Int) (h : a.length ≤ 1048576) : spec_l00Same a b = some (decide (a = b)) := by
  simp only [spec_l00Same]
  by_cases hl : a.length = b.length
  · rw [if_neg (by simp [hl]), loop_same a b (by omega) hl (fun k hk hk' => by
      simp only [spec_l00Same.l_3, ix_lt hk, ix_lt hk', Option.bind_some]
      rw [if_pos (by simpa using hk)]
      by_cases he : a[k] = b[k] <;> simp [he]) (by simp [spec_l00Same.l_3])]
    simp only [Option.bind_some]
    by_cases he : a = b <;> simp [he, spec_l00Same.k_1]
  · rw [if_pos (by simp; omega)]
    simp only [Option.some.injEq]
    symm; simp
    rintro rfl; exact hl rfl
theorem equal_int64_is (a b : List Int) (h : a.length ≤ 1048576) : slices_Equal_int64 a b = some (decide (a = b)) := by
  simp only [slices_Equal_int64]
  by_cases hl : a.length = b.length
  · rw [if_neg (by simp [hl]), loop_same a b (by omega) hl (fun k hk hk' => by
      simp only [slices_Equal_int64.l_3, ix_lt hk, ix_lt hk', Option.bind_some]
      rw [if_pos (by simpa using hk)]
      by_cases he : a[k] = b[k] <;> simp [he]) (by simp [slices_Equal_int64.l_3])]
    simp only [Option.bind_some]
    by_cases he : a = b <;> simp [he, slices_Equal_int64.k_1]
  · rw [if_pos (by simp; omega)]
    simp only [Option.some.injEq]
    symm; simp
    rintro rfl; exact hl rfl
theorem wornPin_eq (x y : GWornPin) : ((x.fStep == y.fStep) && ((x.fTrack == y.fTrack) && (x.fTurns == y.fTurns))) = decide (x = y) := by
  obtain ⟨a0, a1, a2⟩ := x; obtain ⟨b0, b1, b2⟩ := y
  rw [Bool.eq_iff_iff]; simp
theorem equal_WornPin_is (a b : List GWornPin) (h : a.length ≤ 1048576) : slices_Equal_WornPin a b = some (decide (a = b)) := by
  simp only [slices_Equal_WornPin]
  by_cases hl : a.length = b.length
  · rw [if_neg (by simp [hl]), loop_same a b (by omega) hl (fun k hk hk' => by
      simp only [slices_Equal_WornPin.l_3, ix_lt hk, ix_lt hk', Option.bind_some, wornPin_eq]
      rw [if_pos (by simpa using hk)]
      by_cases he : a[k] = b[k] <;> simp [he]) (by simp [slices_Equal_WornPin.l_3])]
    simp only [Option.bind_some]
    by_cases he : a = b <;> simp [he, slices_Equal_WornPin.k_1]
  · rw [if_pos (by simp; omega)]
    simp only [Option.some.injEq]
    symm; simp
    rintro rfl; exact hl rfl
theorem impl_SameWear_is (a b : GWear) (h : a.fPins.length + a.fStrokes.length ≤ 1048576) : impl_SameWear a b = some (decide (a = b)) := by
  simp only [impl_SameWear, equal_WornPin_is _ _ (show a.fPins.length ≤ 1048576 by omega), equal_int64_is _ _ (show a.fStrokes.length ≤ 1048576 by omega), Option.bind_some]
  obtain ⟨a0, a1⟩ := a; obtain ⟨b0, b1⟩ := b
  by_cases h0 : a0 = b0 <;> by_cases h1 : a1 = b1 <;> simp [h0, h1]
theorem spec_SameWear_is (a b : GWear) (h : a.fPins.length + a.fStrokes.length ≤ 1048576) : spec_SameWear a b = some (decide (a = b)) := by
  simp only [spec_SameWear]
  by_cases hl : a.fPins.length = b.fPins.length
  · by_cases hs : a.fStrokes.length = b.fStrokes.length
    · rw [if_neg (by simp [hl, hs]), loop_same a.fPins b.fPins (by omega) hl (fun k hk hk' => by
        simp only [spec_SameWear.l_4, ix_lt hk, ix_lt hk', Option.bind_some, wornPin_eq]
        rw [if_pos (by simpa using hk)]
        by_cases he : a.fPins[k] = b.fPins[k] <;> simp [he]) (by simp [spec_SameWear.l_4])]
      simp only [Option.bind_some]
      obtain ⟨a0, a1⟩ := a; obtain ⟨b0, b1⟩ := b
      simp only at hl hs h
      by_cases he : a0 = b0
      · simp only [he, if_true, spec_SameWear.k_1, l00Same_is a1 b1 (by omega), Option.bind_some, GWear.mk.injEq, true_and]
      · simp [he]
    · rw [if_pos (by simp; omega)]
      simp only [Option.some.injEq]
      symm; simp
      rintro rfl; exact hs rfl
  · rw [if_pos (by simp; omega)]
    simp only [Option.some.injEq]
    symm; simp
    rintro rfl; exact hl rfl
theorem FnExactSameWear_ok (a b : GWear) (ha : okGWear a) (hb : okGWear b) : laws_FnExactSameWear a b = some true := by
  simp only [laws_FnExactSameWear]
  rw [szWear_is a _ (by omega) (by omega) ha]
  simp only [Option.bind_some]
  by_cases h : (1048576 : Int) < (a.fPins.length : Int) + a.fStrokes.length
  · rw [if_pos h, if_pos (by simp)]
  · rw [if_neg h, if_neg (by simp; omega), szWear_is b _ (by omega) (by omega) hb]
    simp only [Option.bind_some]
    by_cases h' : (1048576 : Int) - ((a.fPins.length : Int) + a.fStrokes.length) < (b.fPins.length : Int) + b.fStrokes.length
    · rw [if_pos h', if_pos (by simp)]
    · rw [if_neg h', if_neg (by simp; omega)]
      have na : a.fPins.length + a.fStrokes.length ≤ 1048576 := by omega
      have nb : b.fPins.length + b.fStrokes.length ≤ 1048576 := by omega
      simp only [toWear_is a na, toWear_is b nb, Option.bind_some, spec_SameWear_is a b na, impl_SameWear_is a b na, eqWear_is _ _ na, eqWear_is _ _ nb]
      simp
end Go.Proofs.Ytojommdkbolmgaa
