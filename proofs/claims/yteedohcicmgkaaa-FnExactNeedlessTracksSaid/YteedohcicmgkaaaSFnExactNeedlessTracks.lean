/- The opening of the law's parameters: what a value that came in looks like; and what the law's helpers come to. Printed by a program. -/
import Derived.Test.YteedohcicmgkaaaM0
import Derived.Test.YteedohcicmgkaaaM1
import Derived.Test.YteedohcicmgkaaaOpen
import Derived.Test.YteedohcicmgkaaaPure
namespace Go.Proofs.Yteedohcicmgkaaa
open Eng
set_option linter.unusedVariables false

set_option linter.unusedSimpArgs false
def okGHammer (x : GHammer) : Prop := (-128 ≤ x.fPitch ∧ x.fPitch ≤ 127) ∧ (-128 ≤ x.fReady ∧ x.fReady ≤ 127)

def okGFrame (x : GFrame) : Prop := (-32768 ≤ x.fSteps ∧ x.fSteps ≤ 32767) ∧ (x.fHammers.length ≤ 9223372036854775807 ∧ ∀ y ∈ x.fHammers, okGHammer y)

def okGNote (x : GNote) : Prop := (-32768 ≤ x.fAt ∧ x.fAt ≤ 32767) ∧ (-128 ≤ x.fPitch ∧ x.fPitch ≤ 127)

theorem opn_GHammer_155 {H : Type} {enc : TypeId × Value → H} {w : World} {base : Nat} {spare : Nat → Bool} {held : Bool} {fuel : Nat} {cs : List Value} {x : DataW H × List MemPlace} (h : DataW.trod enc Try.prog w base spare held fuel 155 cs = some x) :
    ∃ (p : GHammer), cs = [(.int .i8 p.fPitch), (.int .i8 p.fReady)] ∧ okGHammer p := by
  have hfl := opn_fld (t := 155) h
  obtain ⟨c0, c1, rfl⟩ := opn_len2 (opn_cells (by kernel_rfl) h (by kernel_rfl))
  obtain ⟨n0, y0, e0⟩ := hfl 0 102 0 1 (by kernel_rfl) (by kernel_rfl)
  obtain ⟨v0, g0, k0⟩ := (opn_i8 (P := Try.prog) (by kernel_rfl)) e0
  cases g0
  obtain ⟨n1, y1, e1⟩ := hfl 1 102 1 1 (by kernel_rfl) (by kernel_rfl)
  obtain ⟨v1, g1, k1⟩ := (opn_i8 (P := Try.prog) (by kernel_rfl)) e1
  cases g1
  exact ⟨⟨v0, v1⟩, rfl, k0, k1⟩

theorem opn_GFrame_25 {H : Type} {enc : TypeId × Value → H} {w : World} {base : Nat} {spare : Nat → Bool} {held : Bool} {fuel : Nat} {cs : List Value} {x : DataW H × List MemPlace} (h : DataW.trod enc Try.prog w base spare held fuel 25 cs = some x) :
    ∃ (p : GFrame) (p_fHammers_a : Option Addr) (p_fHammers_c : Nat), cs = [(.int .i16 p.fSteps), .slice p_fHammers_a p.fHammers.length p_fHammers_c] ∧ Rw w p_fHammers_a 2 encGHammer p.fHammers ∧ okGFrame p := by
  have hfl := opn_fld (t := 25) h
  obtain ⟨c0, c1, rfl⟩ := opn_len2 (opn_cells (by kernel_rfl) h (by kernel_rfl))
  obtain ⟨n0, y0, e0⟩ := hfl 0 22 0 1 (by kernel_rfl) (by kernel_rfl)
  obtain ⟨v0, g0, k0⟩ := (opn_i16 (P := Try.prog) (by kernel_rfl)) e0
  cases g0
  obtain ⟨n1, y1, e1⟩ := hfl 1 23 1 1 (by kernel_rfl) (by kernel_rfl)
  obtain ⟨a1, v1, cp1, g1, r1, k1⟩ := (opn_sl (P := Try.prog) (e := 155) (m := 2) (encS := encGHammer) (ok := fun y => okGHammer y) (by kernel_rfl) (by kernel_rfl) (by decide) (fun n cs x h => opn_GHammer_155 h)) e1
  cases g1
  exact ⟨⟨v0, v1⟩, a1, cp1, rfl, r1, k0, k1⟩

theorem opn_GNote_106 {H : Type} {enc : TypeId × Value → H} {w : World} {base : Nat} {spare : Nat → Bool} {held : Bool} {fuel : Nat} {cs : List Value} {x : DataW H × List MemPlace} (h : DataW.trod enc Try.prog w base spare held fuel 106 cs = some x) :
    ∃ (p : GNote), cs = [(.int .i16 p.fAt), (.int .i8 p.fPitch)] ∧ okGNote p := by
  have hfl := opn_fld (t := 106) h
  obtain ⟨c0, c1, rfl⟩ := opn_len2 (opn_cells (by kernel_rfl) h (by kernel_rfl))
  obtain ⟨n0, y0, e0⟩ := hfl 0 22 0 1 (by kernel_rfl) (by kernel_rfl)
  obtain ⟨v0, g0, k0⟩ := (opn_i16 (P := Try.prog) (by kernel_rfl)) e0
  cases g0
  obtain ⟨n1, y1, e1⟩ := hfl 1 102 1 1 (by kernel_rfl) (by kernel_rfl)
  obtain ⟨v1, g1, k1⟩ := (opn_i8 (P := Try.prog) (by kernel_rfl)) e1
  cases g1
  exact ⟨⟨v0, v1⟩, rfl, k0, k1⟩

theorem laws_szHammerS_is (a : List GHammer) (left : Int) (h0 : 0 ≤ left) (h1 : left ≤ 1048576) (h2 : a.length ≤ 9223372036854775807) :
    laws_szHammerS a left = some (if left < a.length then -1 else left - a.length) := by
  simp only [laws_szHammerS]
  rw [w64_in (by omega) (by omega)]
  repeat' split
  all_goals simp_all <;> omega
theorem laws_szFrame_is (a : GFrame) (left : Int) (h0 : 0 ≤ left) (h1 : left ≤ 1048576) (g0 : a.fHammers.length ≤ 9223372036854775807) :
    laws_szFrame a left = some (if left < (a.fHammers.length : Int) then -1 else left - ((a.fHammers.length : Int))) := by
  simp only [laws_szFrame]
  rw [laws_szHammerS_is _ _ (by omega) (by omega) g0]
  simp only [Option.bind_some]
  by_cases c0 : left < (a.fHammers.length : Int)
  · rw [if_pos c0, if_pos (by simp)]
    try rw [if_pos (by omega)]
  rw [if_neg c0, if_neg (by simp; omega)]
  try rw [if_neg (by omega)]
  try (congr 1; omega)
theorem laws_szTune_is (a : List GNote) (left : Int) (h0 : 0 ≤ left) (h1 : left ≤ 1048576) (h2 : a.length ≤ 9223372036854775807) :
    laws_szTune a left = some (if left < a.length then -1 else left - a.length) := by
  simp only [laws_szTune]
  rw [w64_in (by omega) (by omega)]
  repeat' split
  all_goals simp_all <;> omega
theorem laws_toHammer_is (a : GHammer) : laws_toHammer a = some a := by rfl
theorem laws_toHammerS_is (a : List GHammer) (h : a.length ≤ 1048576) : laws_toHammerS a = some a := by
  simp only [laws_toHammerS]
  rw [if_pos (by omega), show ((a.length : Int)).toNat = a.length by omega,
    loop_copy a _ (by omega) (fun ys k hk hl => by simp [laws_toHammerS.l_5, hk, laws_toHammer_is, ix_lt, hl]) (fun ys => by simp [laws_toHammerS.l_5])]
  rfl
theorem laws_toFrame_is (a : GFrame) (h : a.fHammers.length ≤ 1048576) : laws_toFrame a = some a := by
  simp only [laws_toFrame]
  rw [laws_toHammerS_is _ (by omega), Option.bind_some]

theorem laws_toNote_is (a : GNote) : laws_toNote a = some a := by rfl
theorem laws_toTune_is (a : List GNote) (h : a.length ≤ 1048576) : laws_toTune a = some a := by
  simp only [laws_toTune]
  rw [if_pos (by omega), show ((a.length : Int)).toNat = a.length by omega,
    loop_copy a _ (by omega) (fun ys k hk hl => by simp [laws_toTune.l_5, hk, laws_toNote_is, ix_lt, hl]) (fun ys => by simp [laws_toTune.l_5])]
  rfl
theorem laws_eqInt64S_is (a b : List Int) (h : a.length ≤ 1048576) : laws_eqInt64S a b = some (decide (a = b)) := by
  simp only [laws_eqInt64S]
  by_cases hl : a.length = b.length
  · rw [if_neg (by simp [hl]), loop_same a b (by omega) hl (fun k hk hk' => by
      simp only [laws_eqInt64S.l_3, ix_lt hk, ix_lt hk', Option.bind_some]
      rw [if_pos (by simpa using hk)]
      by_cases he : a[k] = b[k] <;> simp [he]) (by simp [laws_eqInt64S.l_3])]
    simp only [Option.bind_some]
    by_cases he : a = b <;> simp [he, laws_eqInt64S.k_1]
  · rw [if_pos (by simp; omega)]
    simp only [Option.some.injEq]
    symm; simp
    rintro rfl; exact hl rfl
theorem laws_eqHammer_is (a b : GHammer) : laws_eqHammer a b = some (decide (a = b)) := by
  obtain ⟨a0, a1⟩ := a; obtain ⟨b0, b1⟩ := b
  simp only [laws_eqHammer, GHammer.mk.injEq]
  repeat' split
  all_goals simp_all
theorem laws_eqHammerS_is (a b : List GHammer) (h : a.length ≤ 1048576) : laws_eqHammerS a b = some (decide (a = b)) := by
  simp only [laws_eqHammerS]
  by_cases hl : a.length = b.length
  · rw [if_neg (by simp [hl]), loop_same a b (by omega) hl (fun k hk hk' => by
      simp only [laws_eqHammerS.l_3, ix_lt hk, ix_lt hk', Option.bind_some, laws_eqHammer_is]
      rw [if_pos (by simpa using hk)]
      by_cases he : a[k] = b[k] <;> simp [he]) (by simp [laws_eqHammerS.l_3])]
    simp only [Option.bind_some]
    by_cases he : a = b <;> simp [he, laws_eqHammerS.k_1]
  · rw [if_pos (by simp; omega)]
    simp only [Option.some.injEq]
    symm; simp
    rintro rfl; exact hl rfl
theorem laws_eqFrame_is (a b : GFrame) (h : a.fHammers.length ≤ 1048576) : laws_eqFrame a b = some (decide (a = b)) := by
  simp only [laws_eqFrame, laws_eqHammerS_is _ _ (show a.fHammers.length ≤ 1048576 by omega), Option.bind_some]
  obtain ⟨a0, a1⟩ := a; obtain ⟨b0, b1⟩ := b
  by_cases h0 : a0 = b0 <;> by_cases h1 : a1 = b1 <;> simp [h0, h1]
theorem laws_eqNote_is (a b : GNote) : laws_eqNote a b = some (decide (a = b)) := by
  obtain ⟨a0, a1⟩ := a; obtain ⟨b0, b1⟩ := b
  simp only [laws_eqNote, GNote.mk.injEq]
  repeat' split
  all_goals simp_all
theorem laws_eqTune_is (a b : List GNote) (h : a.length ≤ 1048576) : laws_eqTune a b = some (decide (a = b)) := by
  simp only [laws_eqTune]
  by_cases hl : a.length = b.length
  · rw [if_neg (by simp [hl]), loop_same a b (by omega) hl (fun k hk hk' => by
      simp only [laws_eqTune.l_3, ix_lt hk, ix_lt hk', Option.bind_some, laws_eqNote_is]
      rw [if_pos (by simpa using hk)]
      by_cases he : a[k] = b[k] <;> simp [he]) (by simp [laws_eqTune.l_3])]
    simp only [Option.bind_some]
    by_cases he : a = b <;> simp [he, laws_eqTune.k_1]
  · rw [if_pos (by simp; omega)]
    simp only [Option.some.injEq]
    symm; simp
    rintro rfl; exact hl rfl
def mk_HammerS (k : Int) : GHammer := (⟨(w8 k), (w8 (w64 (k + 1)))⟩ : GHammer)
def st_HammerS (k : Int) : Int := (w64 ((w64 (k + 1)) + 1))
theorem st_HammerS_is (n : Nat) (h : n ≤ 1048576) (k0 : Int) (h0 : 0 ≤ k0) (h1 : k0 ≤ 1099511627776) : iter st_HammerS n k0 = k0 + n * 2 := by
  induction n with
  | zero => simp [iter]
  | succ n ih =>
    rw [iter, ih (by omega), st_HammerS]
    rw [w64_in (show -9223372036854775808 ≤ k0 + (n : Int) * 2 + 1 by omega) (by omega)]
    rw [w64_in (show -9223372036854775808 ≤ k0 + (n : Int) * 2 + 1 + 1 by omega) (by omega)]
    omega
theorem laws_markHammerS_is (a : List GHammer) (k0 : Int) (h : a.length ≤ 1048576) (h0 : 0 ≤ k0) (h1 : k0 ≤ 1099511627776) :
    ∃ ys, laws_markHammerS a k0 = some (k0 + a.length * 2, ys) ∧ ys.length = a.length := by
  obtain ⟨ys, hy, hl, hg⟩ := loop_mark (f := laws_markHammerS.l_7 a) a mk_HammerS st_HammerS k0 (by omega)
    (fun ys i hi hl => by simp [laws_markHammerS.l_7, hi, hl, ix_lt, ix_set_self, List.set_set, iter, mk_HammerS, st_HammerS]) (fun ys k => by simp [laws_markHammerS.l_7])
  rw [st_HammerS_is a.length h k0 h0 h1] at hy
  refine ⟨ys, ?_, hl⟩
  simp only [laws_markHammerS, hy, Option.bind_some, laws_markHammerS.k_3]
theorem laws_markFrame_is (a : GFrame) (k0 : Int) (h : a.fHammers.length ≤ 1048576) (h0 : 0 ≤ k0) (h1 : k0 ≤ 4294967296) :
    ∃ y0, laws_markFrame a k0 = some (k0 + a.fHammers.length * 2, y0) ∧ y0.length = a.fHammers.length := by
  obtain ⟨y0, m0, l0⟩ := laws_markHammerS_is a.fHammers (k0) (by omega) (by omega) (by omega)
  refine ⟨y0, by simp only [laws_markFrame, m0, Option.bind_some], l0⟩
def mk_Tune (k : Int) : GNote := (⟨(w16 k), (w8 (w64 (k + 1)))⟩ : GNote)
def st_Tune (k : Int) : Int := (w64 ((w64 (k + 1)) + 1))
theorem st_Tune_is (n : Nat) (h : n ≤ 1048576) (k0 : Int) (h0 : 0 ≤ k0) (h1 : k0 ≤ 1099511627776) : iter st_Tune n k0 = k0 + n * 2 := by
  induction n with
  | zero => simp [iter]
  | succ n ih =>
    rw [iter, ih (by omega), st_Tune]
    rw [w64_in (show -9223372036854775808 ≤ k0 + (n : Int) * 2 + 1 by omega) (by omega)]
    rw [w64_in (show -9223372036854775808 ≤ k0 + (n : Int) * 2 + 1 + 1 by omega) (by omega)]
    omega
theorem laws_markTune_is (a : List GNote) (k0 : Int) (h : a.length ≤ 1048576) (h0 : 0 ≤ k0) (h1 : k0 ≤ 1099511627776) :
    ∃ ys, laws_markTune a k0 = some (k0 + a.length * 2, ys) ∧ ys.length = a.length := by
  obtain ⟨ys, hy, hl, hg⟩ := loop_mark (f := laws_markTune.l_7 a) a mk_Tune st_Tune k0 (by omega)
    (fun ys i hi hl => by simp [laws_markTune.l_7, hi, hl, ix_lt, ix_set_self, List.set_set, iter, mk_Tune, st_Tune]) (fun ys k => by simp [laws_markTune.l_7])
  rw [st_Tune_is a.length h k0 h0 h1] at hy
  refine ⟨ys, ?_, hl⟩
  simp only [laws_markTune, hy, Option.bind_some, laws_markTune.k_3]
def mk_Int64S (k : Int) : Int := k
def st_Int64S (k : Int) : Int := (w64 (k + 1))
theorem st_Int64S_is (n : Nat) (h : n ≤ 1048576) (k0 : Int) (h0 : 0 ≤ k0) (h1 : k0 ≤ 1099511627776) : iter st_Int64S n k0 = k0 + n * 1 := by
  induction n with
  | zero => simp [iter]
  | succ n ih =>
    rw [iter, ih (by omega), st_Int64S]
    rw [w64_in (show -9223372036854775808 ≤ k0 + (n : Int) * 1 + 1 by omega) (by omega)]
    omega
theorem laws_markInt64S_is (a : List Int) (k0 : Int) (h : a.length ≤ 1048576) (h0 : 0 ≤ k0) (h1 : k0 ≤ 1099511627776) :
    ∃ ys, laws_markInt64S a k0 = some (k0 + a.length * 1, ys) ∧ ys.length = a.length ∧ laws_heldInt64S ys k0 = some (k0 + a.length * 1) := by
  obtain ⟨ys, hy, hl, hg⟩ := loop_mark (f := laws_markInt64S.l_7 a) a mk_Int64S st_Int64S k0 (by omega)
    (fun ys i hi hl => by simp [laws_markInt64S.l_7, hi, hl, ix_lt, ix_set_self, List.set_set, iter, mk_Int64S, st_Int64S]) (fun ys k => by simp [laws_markInt64S.l_7])
  have hh := loop_held (f := laws_heldInt64S.l_5 ys) ys st_Int64S k0 (by omega)
    (fun i hi => by simp [laws_heldInt64S.l_5, hi, ix_lt, hg i hi, iter, mk_Int64S, st_Int64S]) (fun k => by simp [laws_heldInt64S.l_5])
  rw [hl, st_Int64S_is a.length h k0 h0 h1] at hh
  rw [st_Int64S_is a.length h k0 h0 h1] at hy
  refine ⟨ys, ?_, hl, ?_⟩
  · simp only [laws_markInt64S, hy, Option.bind_some, laws_markInt64S.k_3]
  · simp only [laws_heldInt64S, hh, Option.bind_some, laws_heldInt64S.k_2]
end Go.Proofs.Yteedohcicmgkaaa
