/- The opening of the law's parameters: what a value that came in looks like; and what the law's helpers come to. Printed by a program. -/
import Derived.Test.YtfkjghkjimcmdaaGreatM0
import Derived.Test.YtfkjghkjimcmdaaGreatM1
import Derived.Test.YtfkjghkjimcmdaaGreatM2
import Derived.Test.YtfkjghkjimcmdaaGreatM3
import Derived.Test.YtfkjghkjimcmdaaGreatM5
import Derived.Test.YtfkjghkjimcmdaaGreatOpen
import Derived.Test.YtfkjghkjimcmdaaGreatPure
namespace Go.Proofs.YtfkjghkjimcmdaaGreat
open Eng
set_option linter.unusedVariables false

set_option linter.unusedSimpArgs false
def okGHammer (x : GHammer) : Prop := (-128 ≤ x.fPitch ∧ x.fPitch ≤ 127) ∧ (-128 ≤ x.fReady ∧ x.fReady ≤ 127)

def okGFrame (x : GFrame) : Prop := (-32768 ≤ x.fSteps ∧ x.fSteps ≤ 32767) ∧ (x.fHammers.length ≤ 9223372036854775807 ∧ ∀ y ∈ x.fHammers, okGHammer y)

def okGWornPin (x : GWornPin) : Prop := (-128 ≤ x.fStep ∧ x.fStep ≤ 127) ∧ (-128 ≤ x.fTrack ∧ x.fTrack ≤ 127) ∧ (-9223372036854775808 ≤ x.fTurns ∧ x.fTurns ≤ 9223372036854775807)

def okGWear (x : GWear) : Prop := (x.fPins.length ≤ 9223372036854775807 ∧ ∀ y ∈ x.fPins, okGWornPin y) ∧ (x.fStrokes.length ≤ 9223372036854775807 ∧ ∀ y ∈ x.fStrokes, (-9223372036854775808 ≤ y ∧ y ≤ 9223372036854775807))

def okGLives (x : GLives) : Prop := (-9223372036854775808 ≤ x.fPin ∧ x.fPin ≤ 9223372036854775807) ∧ (-9223372036854775808 ≤ x.fHammer ∧ x.fHammer ≤ 9223372036854775807)

def okGAct (x : GAct) : Prop := (-128 ≤ x.fKind ∧ x.fKind ≤ 127) ∧ (-9223372036854775808 ≤ x.fA ∧ x.fA ≤ 9223372036854775807) ∧ (-9223372036854775808 ≤ x.fB ∧ x.fB ≤ 9223372036854775807) ∧ (-9223372036854775808 ≤ x.fC ∧ x.fC ≤ 9223372036854775807) ∧ (-9223372036854775808 ≤ x.fD ∧ x.fD ≤ 9223372036854775807)

theorem opn_GHammer_139 {H : Type} {enc : TypeId × Value → H} {w : World} {base : Nat} {spare : Nat → Bool} {held : Bool} {fuel : Nat} {cs : List Value} {x : DataW H × List MemPlace} (h : DataW.trod enc Tryz.prog w base spare held fuel 139 cs = some x) :
    ∃ (p : GHammer), cs = [(.int .i8 p.fPitch), (.int .i8 p.fReady)] ∧ okGHammer p := by
  have hfl := opn_fld (t := 139) h
  obtain ⟨c0, c1, rfl⟩ := opn_len2 (opn_cells (by kernel_rfl) h (by kernel_rfl))
  obtain ⟨n0, y0, e0⟩ := hfl 0 73 0 1 (by kernel_rfl) (by kernel_rfl)
  obtain ⟨v0, g0, k0⟩ := (opn_i8 (P := Tryz.prog) (by kernel_rfl)) e0
  cases g0
  obtain ⟨n1, y1, e1⟩ := hfl 1 73 1 1 (by kernel_rfl) (by kernel_rfl)
  obtain ⟨v1, g1, k1⟩ := (opn_i8 (P := Tryz.prog) (by kernel_rfl)) e1
  cases g1
  exact ⟨⟨v0, v1⟩, rfl, k0, k1⟩

theorem opn_GFrame_25 {H : Type} {enc : TypeId × Value → H} {w : World} {base : Nat} {spare : Nat → Bool} {held : Bool} {fuel : Nat} {cs : List Value} {x : DataW H × List MemPlace} (h : DataW.trod enc Tryz.prog w base spare held fuel 25 cs = some x) :
    ∃ (p : GFrame) (p_fHammers_a : Option Addr) (p_fHammers_c : Nat), cs = [(.int .i16 p.fSteps), .slice p_fHammers_a p.fHammers.length p_fHammers_c] ∧ Rw w p_fHammers_a 2 encGHammer p.fHammers ∧ okGFrame p := by
  have hfl := opn_fld (t := 25) h
  obtain ⟨c0, c1, rfl⟩ := opn_len2 (opn_cells (by kernel_rfl) h (by kernel_rfl))
  obtain ⟨n0, y0, e0⟩ := hfl 0 22 0 1 (by kernel_rfl) (by kernel_rfl)
  obtain ⟨v0, g0, k0⟩ := (opn_i16 (P := Tryz.prog) (by kernel_rfl)) e0
  cases g0
  obtain ⟨n1, y1, e1⟩ := hfl 1 23 1 1 (by kernel_rfl) (by kernel_rfl)
  obtain ⟨a1, v1, cp1, g1, r1, k1⟩ := (opn_sl (P := Tryz.prog) (e := 139) (m := 2) (encS := encGHammer) (ok := fun y => okGHammer y) (by kernel_rfl) (by kernel_rfl) (by decide) (fun n cs x h => opn_GHammer_139 h)) e1
  cases g1
  exact ⟨⟨v0, v1⟩, a1, cp1, rfl, r1, k0, k1⟩

theorem opn_GWornPin_141 {H : Type} {enc : TypeId × Value → H} {w : World} {base : Nat} {spare : Nat → Bool} {held : Bool} {fuel : Nat} {cs : List Value} {x : DataW H × List MemPlace} (h : DataW.trod enc Tryz.prog w base spare held fuel 141 cs = some x) :
    ∃ (p : GWornPin), cs = [(.int .i8 p.fStep), (.int .i8 p.fTrack), (.int .i64 p.fTurns)] ∧ okGWornPin p := by
  have hfl := opn_fld (t := 141) h
  obtain ⟨c0, c1, c2, rfl⟩ := opn_len3 (opn_cells (by kernel_rfl) h (by kernel_rfl))
  obtain ⟨n0, y0, e0⟩ := hfl 0 73 0 1 (by kernel_rfl) (by kernel_rfl)
  obtain ⟨v0, g0, k0⟩ := (opn_i8 (P := Tryz.prog) (by kernel_rfl)) e0
  cases g0
  obtain ⟨n1, y1, e1⟩ := hfl 1 73 1 1 (by kernel_rfl) (by kernel_rfl)
  obtain ⟨v1, g1, k1⟩ := (opn_i8 (P := Tryz.prog) (by kernel_rfl)) e1
  cases g1
  obtain ⟨n2, y2, e2⟩ := hfl 2 2 2 1 (by kernel_rfl) (by kernel_rfl)
  obtain ⟨v2, g2, k2⟩ := (opn_i64 (P := Tryz.prog) (by kernel_rfl)) e2
  cases g2
  exact ⟨⟨v0, v1, v2⟩, rfl, k0, k1, k2⟩

theorem opn_GWear_29 {H : Type} {enc : TypeId × Value → H} {w : World} {base : Nat} {spare : Nat → Bool} {held : Bool} {fuel : Nat} {cs : List Value} {x : DataW H × List MemPlace} (h : DataW.trod enc Tryz.prog w base spare held fuel 29 cs = some x) :
    ∃ (p : GWear) (p_fPins_a : Option Addr) (p_fPins_c : Nat) (p_fStrokes_a : Option Addr) (p_fStrokes_c : Nat), cs = [.slice p_fPins_a p.fPins.length p_fPins_c, .slice p_fStrokes_a p.fStrokes.length p_fStrokes_c] ∧ Rw w p_fPins_a 3 encGWornPin p.fPins ∧ Rw w p_fStrokes_a 1 encI64 p.fStrokes ∧ okGWear p := by
  have hfl := opn_fld (t := 29) h
  obtain ⟨c0, c1, rfl⟩ := opn_len2 (opn_cells (by kernel_rfl) h (by kernel_rfl))
  obtain ⟨n0, y0, e0⟩ := hfl 0 26 0 1 (by kernel_rfl) (by kernel_rfl)
  obtain ⟨a0, v0, cp0, g0, r0, k0⟩ := (opn_sl (P := Tryz.prog) (e := 141) (m := 3) (encS := encGWornPin) (ok := fun y => okGWornPin y) (by kernel_rfl) (by kernel_rfl) (by decide) (fun n cs x h => opn_GWornPin_141 h)) e0
  cases g0
  obtain ⟨n1, y1, e1⟩ := hfl 1 27 1 1 (by kernel_rfl) (by kernel_rfl)
  obtain ⟨a1, v1, cp1, g1, r1, k1⟩ := (opn_sl (P := Tryz.prog) (e := 2) (m := 1) (encS := encI64) (ok := fun y => (-9223372036854775808 ≤ y ∧ y ≤ 9223372036854775807)) (by kernel_rfl) (by kernel_rfl) (by decide) (fun n cs x h => (opn_i64 (P := Tryz.prog) (by kernel_rfl)) h)) e1
  cases g1
  exact ⟨⟨v0, v1⟩, a0, cp0, a1, cp1, rfl, r0, r1, k0, k1⟩

theorem opn_GLives_31 {H : Type} {enc : TypeId × Value → H} {w : World} {base : Nat} {spare : Nat → Bool} {held : Bool} {fuel : Nat} {cs : List Value} {x : DataW H × List MemPlace} (h : DataW.trod enc Tryz.prog w base spare held fuel 31 cs = some x) :
    ∃ (p : GLives), cs = [(.int .i64 p.fPin), (.int .i64 p.fHammer)] ∧ okGLives p := by
  have hfl := opn_fld (t := 31) h
  obtain ⟨c0, c1, rfl⟩ := opn_len2 (opn_cells (by kernel_rfl) h (by kernel_rfl))
  obtain ⟨n0, y0, e0⟩ := hfl 0 2 0 1 (by kernel_rfl) (by kernel_rfl)
  obtain ⟨v0, g0, k0⟩ := (opn_i64 (P := Tryz.prog) (by kernel_rfl)) e0
  cases g0
  obtain ⟨n1, y1, e1⟩ := hfl 1 2 1 1 (by kernel_rfl) (by kernel_rfl)
  obtain ⟨v1, g1, k1⟩ := (opn_i64 (P := Tryz.prog) (by kernel_rfl)) e1
  cases g1
  exact ⟨⟨v0, v1⟩, rfl, k0, k1⟩

theorem opn_GAct_91 {H : Type} {enc : TypeId × Value → H} {w : World} {base : Nat} {spare : Nat → Bool} {held : Bool} {fuel : Nat} {cs : List Value} {x : DataW H × List MemPlace} (h : DataW.trod enc Tryz.prog w base spare held fuel 91 cs = some x) :
    ∃ (p : GAct), cs = [(.int .i8 p.fKind), (.int .i64 p.fA), (.int .i64 p.fB), (.int .i64 p.fC), (.int .i64 p.fD)] ∧ okGAct p := by
  have hfl := opn_fld (t := 91) h
  obtain ⟨c0, c1, c2, c3, c4, rfl⟩ := opn_len5 (opn_cells (by kernel_rfl) h (by kernel_rfl))
  obtain ⟨n0, y0, e0⟩ := hfl 0 73 0 1 (by kernel_rfl) (by kernel_rfl)
  obtain ⟨v0, g0, k0⟩ := (opn_i8 (P := Tryz.prog) (by kernel_rfl)) e0
  cases g0
  obtain ⟨n1, y1, e1⟩ := hfl 1 2 1 1 (by kernel_rfl) (by kernel_rfl)
  obtain ⟨v1, g1, k1⟩ := (opn_i64 (P := Tryz.prog) (by kernel_rfl)) e1
  cases g1
  obtain ⟨n2, y2, e2⟩ := hfl 2 2 2 1 (by kernel_rfl) (by kernel_rfl)
  obtain ⟨v2, g2, k2⟩ := (opn_i64 (P := Tryz.prog) (by kernel_rfl)) e2
  cases g2
  obtain ⟨n3, y3, e3⟩ := hfl 3 2 3 1 (by kernel_rfl) (by kernel_rfl)
  obtain ⟨v3, g3, k3⟩ := (opn_i64 (P := Tryz.prog) (by kernel_rfl)) e3
  cases g3
  obtain ⟨n4, y4, e4⟩ := hfl 4 2 4 1 (by kernel_rfl) (by kernel_rfl)
  obtain ⟨v4, g4, k4⟩ := (opn_i64 (P := Tryz.prog) (by kernel_rfl)) e4
  cases g4
  exact ⟨⟨v0, v1, v2, v3, v4⟩, rfl, k0, k1, k2, k3, k4⟩

theorem laws_szHammerS_is (a : List GHammer) (left : Int) (h0 : 0 ≤ left) (h1 : left ≤ 1048576) (h2 : a.length ≤ 9223372036854775807) :
    laws_szHammerS a left = some (if left < a.length then -1 else left - a.length) := by
  simp only [laws_szHammerS]
  rw [w64_in (by omega) (by omega)]
  repeat' split
  all_goals simp_all <;> omega
theorem laws_szFrame_is (a : GFrame) (left : Int) (h0 : 0 ≤ left) (h1 : left ≤ 1048576) (g0 : a.fHammers.length ≤ 9223372036854775807) :
    laws_szFrame a left = some (if left < (a.fHammers.length : Int) then -1 else left - ((a.fHammers.length : Int))) := by
  simp only [laws_szFrame]
  rw [laws_szHammerS_is _ _ (by omega) (by omega) g0]
  simp only [Option.bind_some]
  by_cases c0 : left < (a.fHammers.length : Int)
  · rw [if_pos c0, if_pos (by simp)]
    try rw [if_pos (by omega)]
  rw [if_neg c0, if_neg (by simp; omega)]
  try rw [if_neg (by omega)]
  try (congr 1; omega)
theorem laws_szWornPinS_is (a : List GWornPin) (left : Int) (h0 : 0 ≤ left) (h1 : left ≤ 1048576) (h2 : a.length ≤ 9223372036854775807) :
    laws_szWornPinS a left = some (if left < a.length then -1 else left - a.length) := by
  simp only [laws_szWornPinS]
  rw [w64_in (by omega) (by omega)]
  repeat' split
  all_goals simp_all <;> omega
theorem laws_szInt64S_is (a : List Int) (left : Int) (h0 : 0 ≤ left) (h1 : left ≤ 1048576) (h2 : a.length ≤ 9223372036854775807) :
    laws_szInt64S a left = some (if left < a.length then -1 else left - a.length) := by
  simp only [laws_szInt64S]
  rw [w64_in (by omega) (by omega)]
  repeat' split
  all_goals simp_all <;> omega
theorem laws_szWear_is (a : GWear) (left : Int) (h0 : 0 ≤ left) (h1 : left ≤ 1048576) (g0 : a.fPins.length ≤ 9223372036854775807) (g1 : a.fStrokes.length ≤ 9223372036854775807) :
    laws_szWear a left = some (if left < (a.fPins.length : Int) + (a.fStrokes.length : Int) then -1 else left - ((a.fPins.length : Int) + (a.fStrokes.length : Int))) := by
  simp only [laws_szWear]
  rw [laws_szWornPinS_is _ _ (by omega) (by omega) g0]
  simp only [Option.bind_some]
  by_cases c0 : left < (a.fPins.length : Int)
  · rw [if_pos c0, if_pos (by simp)]
    try rw [if_pos (by omega)]
  rw [if_neg c0, if_neg (by simp; omega)]
  rw [laws_szInt64S_is _ _ (by omega) (by omega) g1]
  simp only [Option.bind_some]
  by_cases c1 : left - (a.fPins.length : Int) < (a.fStrokes.length : Int)
  · rw [if_pos c1, if_pos (by simp)]
    try rw [if_pos (by omega)]
  rw [if_neg c1, if_neg (by simp; omega)]
  try rw [if_neg (by omega)]
  try (congr 1; omega)
theorem laws_szActS_is (a : List GAct) (left : Int) (h0 : 0 ≤ left) (h1 : left ≤ 1048576) (h2 : a.length ≤ 9223372036854775807) :
    laws_szActS a left = some (if left < a.length then -1 else left - a.length) := by
  simp only [laws_szActS]
  rw [w64_in (by omega) (by omega)]
  repeat' split
  all_goals simp_all <;> omega
theorem laws_toHammer_is (a : GHammer) : laws_toHammer a = some a := by rfl
theorem laws_toHammerS_is (a : List GHammer) (h : a.length ≤ 1048576) : laws_toHammerS a = some a := by
  simp only [laws_toHammerS]
  rw [if_pos (by omega), show ((a.length : Int)).toNat = a.length by omega,
    loop_copy a _ (by omega) (fun ys k hk hl => by simp [laws_toHammerS.l_5, hk, laws_toHammer_is, ix_lt, hl]) (fun ys => by simp [laws_toHammerS.l_5])]
  rfl
theorem laws_toFrame_is (a : GFrame) (h : a.fHammers.length ≤ 1048576) : laws_toFrame a = some a := by
  simp only [laws_toFrame]
  rw [laws_toHammerS_is _ (by omega), Option.bind_some]

theorem laws_toWornPin_is (a : GWornPin) : laws_toWornPin a = some a := by rfl
theorem laws_toWornPinS_is (a : List GWornPin) (h : a.length ≤ 1048576) : laws_toWornPinS a = some a := by
  simp only [laws_toWornPinS]
  rw [if_pos (by omega), show ((a.length : Int)).toNat = a.length by omega,
    loop_copy a _ (by omega) (fun ys k hk hl => by simp [laws_toWornPinS.l_5, hk, laws_toWornPin_is, ix_lt, hl]) (fun ys => by simp [laws_toWornPinS.l_5])]
  rfl
theorem laws_toInt64S_is (a : List Int) (h : a.length ≤ 1048576) : laws_toInt64S a = some a := by
  simp only [laws_toInt64S]
  rw [if_pos (by omega), show ((a.length : Int)).toNat = a.length by omega,
    loop_copy a _ (by omega) (fun ys k hk hl => by simp [laws_toInt64S.l_5, hk, ix_lt, hl]) (fun ys => by simp [laws_toInt64S.l_5])]
  rfl
theorem laws_toWear_is (a : GWear) (h : a.fPins.length + a.fStrokes.length ≤ 1048576) : laws_toWear a = some a := by
  simp only [laws_toWear]
  rw [laws_toWornPinS_is _ (by omega), Option.bind_some]
  rw [laws_toInt64S_is _ (by omega), Option.bind_some]

theorem laws_toLives_is (a : GLives) : laws_toLives a = some a := by rfl
theorem laws_toAct_is (a : GAct) : laws_toAct a = some a := by rfl
theorem laws_toActS_is (a : List GAct) (h : a.length ≤ 1048576) : laws_toActS a = some a := by
  simp only [laws_toActS]
  rw [if_pos (by omega), show ((a.length : Int)).toNat = a.length by omega,
    loop_copy a _ (by omega) (fun ys k hk hl => by simp [laws_toActS.l_5, hk, laws_toAct_is, ix_lt, hl]) (fun ys => by simp [laws_toActS.l_5])]
  rfl
theorem laws_eqWornPin_is (a b : GWornPin) : laws_eqWornPin a b = some (decide (a = b)) := by
  obtain ⟨a0, a1, a2⟩ := a; obtain ⟨b0, b1, b2⟩ := b
  simp only [laws_eqWornPin, GWornPin.mk.injEq]
  repeat' split
  all_goals simp_all
theorem laws_eqWornPinS_is (a b : List GWornPin) (h : a.length ≤ 1048576) : laws_eqWornPinS a b = some (decide (a = b)) := by
  simp only [laws_eqWornPinS]
  by_cases hl : a.length = b.length
  · rw [if_neg (by simp [hl]), loop_same a b (by omega) hl (fun k hk hk' => by
      simp only [laws_eqWornPinS.l_3, ix_lt hk, ix_lt hk', Option.bind_some, laws_eqWornPin_is]
      rw [if_pos (by simpa using hk)]
      by_cases he : a[k] = b[k] <;> simp [he]) (by simp [laws_eqWornPinS.l_3])]
    simp only [Option.bind_some]
    by_cases he : a = b <;> simp [he, laws_eqWornPinS.k_1]
  · rw [if_pos (by simp; omega)]
    simp only [Option.some.injEq]
    symm; simp
    rintro rfl; exact hl rfl
theorem laws_eqInt64S_is (a b : List Int) (h : a.length ≤ 1048576) : laws_eqInt64S a b = some (decide (a = b)) := by
  simp only [laws_eqInt64S]
  by_cases hl : a.length = b.length
  · rw [if_neg (by simp [hl]), loop_same a b (by omega) hl (fun k hk hk' => by
      simp only [laws_eqInt64S.l_3, ix_lt hk, ix_lt hk', Option.bind_some]
      rw [if_pos (by simpa using hk)]
      by_cases he : a[k] = b[k] <;> simp [he]) (by simp [laws_eqInt64S.l_3])]
    simp only [Option.bind_some]
    by_cases he : a = b <;> simp [he, laws_eqInt64S.k_1]
  · rw [if_pos (by simp; omega)]
    simp only [Option.some.injEq]
    symm; simp
    rintro rfl; exact hl rfl
theorem laws_eqWear_is (a b : GWear) (h : a.fPins.length + a.fStrokes.length ≤ 1048576) : laws_eqWear a b = some (decide (a = b)) := by
  simp only [laws_eqWear, laws_eqWornPinS_is _ _ (show a.fPins.length ≤ 1048576 by omega), laws_eqInt64S_is _ _ (show a.fStrokes.length ≤ 1048576 by omega), Option.bind_some]
  obtain ⟨a0, a1⟩ := a; obtain ⟨b0, b1⟩ := b
  by_cases h0 : a0 = b0 <;> by_cases h1 : a1 = b1 <;> simp [h0, h1]
theorem laws_eqHammer_is (a b : GHammer) : laws_eqHammer a b = some (decide (a = b)) := by
  obtain ⟨a0, a1⟩ := a; obtain ⟨b0, b1⟩ := b
  simp only [laws_eqHammer, GHammer.mk.injEq]
  repeat' split
  all_goals simp_all
theorem laws_eqHammerS_is (a b : List GHammer) (h : a.length ≤ 1048576) : laws_eqHammerS a b = some (decide (a = b)) := by
  simp only [laws_eqHammerS]
  by_cases hl : a.length = b.length
  · rw [if_neg (by simp [hl]), loop_same a b (by omega) hl (fun k hk hk' => by
      simp only [laws_eqHammerS.l_3, ix_lt hk, ix_lt hk', Option.bind_some, laws_eqHammer_is]
      rw [if_pos (by simpa using hk)]
      by_cases he : a[k] = b[k] <;> simp [he]) (by simp [laws_eqHammerS.l_3])]
    simp only [Option.bind_some]
    by_cases he : a = b <;> simp [he, laws_eqHammerS.k_1]
  · rw [if_pos (by simp; omega)]
    simp only [Option.some.injEq]
    symm; simp
    rintro rfl; exact hl rfl
theorem laws_eqFrame_is (a b : GFrame) (h : a.fHammers.length ≤ 1048576) : laws_eqFrame a b = some (decide (a = b)) := by
  simp only [laws_eqFrame, laws_eqHammerS_is _ _ (show a.fHammers.length ≤ 1048576 by omega), Option.bind_some]
  obtain ⟨a0, a1⟩ := a; obtain ⟨b0, b1⟩ := b
  by_cases h0 : a0 = b0 <;> by_cases h1 : a1 = b1 <;> simp [h0, h1]
theorem laws_eqAct_is (a b : GAct) : laws_eqAct a b = some (decide (a = b)) := by
  obtain ⟨a0, a1, a2, a3, a4⟩ := a; obtain ⟨b0, b1, b2, b3, b4⟩ := b
  simp only [laws_eqAct, GAct.mk.injEq]
  repeat' split
  all_goals simp_all
theorem laws_eqActS_is (a b : List GAct) (h : a.length ≤ 1048576) : laws_eqActS a b = some (decide (a = b)) := by
  simp only [laws_eqActS]
  by_cases hl : a.length = b.length
  · rw [if_neg (by simp [hl]), loop_same a b (by omega) hl (fun k hk hk' => by
      simp only [laws_eqActS.l_3, ix_lt hk, ix_lt hk', Option.bind_some, laws_eqAct_is]
      rw [if_pos (by simpa using hk)]
      by_cases he : a[k] = b[k] <;> simp [he]) (by simp [laws_eqActS.l_3])]
    simp only [Option.bind_some]
    by_cases he : a = b <;> simp [he, laws_eqActS.k_1]
  · rw [if_pos (by simp; omega)]
    simp only [Option.some.injEq]
    symm; simp
    rintro rfl; exact hl rfl
end Go.Proofs.YtfkjghkjimcmdaaGreat
