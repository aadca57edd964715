/- The opening of the laws' parameters: what a value that came in looks like. Printed by a program. -/
import Derived.Test.YtojommdkbolmgaaF1
import Derived.Test.YtojommdkbolmgaaOpen
namespace Go.Proofs.Ytojommdkbolmgaa
open Eng
set_option linter.unusedVariables false

def okGLives (x : GLives) : Prop := (-9223372036854775808 ≤ x.fPin ∧ x.fPin ≤ 9223372036854775807) ∧ (-9223372036854775808 ≤ x.fHammer ∧ x.fHammer ≤ 9223372036854775807)

def okGCosts (x : GCosts) : Prop := (-32768 ≤ x.fAway ∧ x.fAway ≤ 32767) ∧ (-32768 ≤ x.fOctave ∧ x.fOctave ≤ 32767) ∧ (-32768 ≤ x.fStep ∧ x.fStep ≤ 32767)

def okGChoice (x : GChoice) : Prop := True ∧ (-128 ≤ x.fLate ∧ x.fLate ≤ 127) ∧ (-128 ≤ x.fOctave ∧ x.fOctave ≤ 127) ∧ (-128 ≤ x.fTrack ∧ x.fTrack ≤ 127)

def okGNote (x : GNote) : Prop := (-32768 ≤ x.fAt ∧ x.fAt ≤ 32767) ∧ (-128 ≤ x.fPitch ∧ x.fPitch ≤ 127)

def okGWornPin (x : GWornPin) : Prop := (-128 ≤ x.fStep ∧ x.fStep ≤ 127) ∧ (-128 ≤ x.fTrack ∧ x.fTrack ≤ 127) ∧ (-9223372036854775808 ≤ x.fTurns ∧ x.fTurns ≤ 9223372036854775807)

def okGWear (x : GWear) : Prop := (x.fPins.length ≤ 9223372036854775807 ∧ ∀ y ∈ x.fPins, okGWornPin y) ∧ (x.fStrokes.length ≤ 9223372036854775807 ∧ ∀ y ∈ x.fStrokes, (-9223372036854775808 ≤ y ∧ y ≤ 9223372036854775807))

theorem opn_GLives_23 {H : Type} {enc : TypeId × Value → H} {w : World} {base : Nat} {spare : Nat → Bool} {held : Bool} {fuel : Nat} {cs : List Value} {x : DataW H × List MemPlace} (h : DataW.trod enc Try.prog w base spare held fuel 23 cs = some x) :
    ∃ (p : GLives), cs = [(.int .i64 p.fPin), (.int .i64 p.fHammer)] ∧ okGLives p := by
  have hfl := opn_fld (t := 23) h
  obtain ⟨c0, c1, rfl⟩ := opn_len2 (opn_cells (by kernel_rfl) h (by kernel_rfl))
  obtain ⟨n0, y0, e0⟩ := hfl 0 2 0 1 (by kernel_rfl) (by kernel_rfl)
  obtain ⟨v0, g0, k0⟩ := (opn_i64 (P := Try.prog) (by kernel_rfl)) e0
  cases g0
  obtain ⟨n1, y1, e1⟩ := hfl 1 2 1 1 (by kernel_rfl) (by kernel_rfl)
  obtain ⟨v1, g1, k1⟩ := (opn_i64 (P := Try.prog) (by kernel_rfl)) e1
  cases g1
  exact ⟨⟨v0, v1⟩, rfl, k0, k1⟩

theorem opn_GCosts_30 {H : Type} {enc : TypeId × Value → H} {w : World} {base : Nat} {spare : Nat → Bool} {held : Bool} {fuel : Nat} {cs : List Value} {x : DataW H × List MemPlace} (h : DataW.trod enc Try.prog w base spare held fuel 30 cs = some x) :
    ∃ (p : GCosts), cs = [(.int .i16 p.fAway), (.int .i16 p.fOctave), (.int .i16 p.fStep)] ∧ okGCosts p := by
  have hfl := opn_fld (t := 30) h
  obtain ⟨c0, c1, c2, rfl⟩ := opn_len3 (opn_cells (by kernel_rfl) h (by kernel_rfl))
  obtain ⟨n0, y0, e0⟩ := hfl 0 28 0 1 (by kernel_rfl) (by kernel_rfl)
  obtain ⟨v0, g0, k0⟩ := (opn_i16 (P := Try.prog) (by kernel_rfl)) e0
  cases g0
  obtain ⟨n1, y1, e1⟩ := hfl 1 28 1 1 (by kernel_rfl) (by kernel_rfl)
  obtain ⟨v1, g1, k1⟩ := (opn_i16 (P := Try.prog) (by kernel_rfl)) e1
  cases g1
  obtain ⟨n2, y2, e2⟩ := hfl 2 28 2 1 (by kernel_rfl) (by kernel_rfl)
  obtain ⟨v2, g2, k2⟩ := (opn_i16 (P := Try.prog) (by kernel_rfl)) e2
  cases g2
  exact ⟨⟨v0, v1, v2⟩, rfl, k0, k1, k2⟩

theorem opn_GChoice_37 {H : Type} {enc : TypeId × Value → H} {w : World} {base : Nat} {spare : Nat → Bool} {held : Bool} {fuel : Nat} {cs : List Value} {x : DataW H × List MemPlace} (h : DataW.trod enc Try.prog w base spare held fuel 37 cs = some x) :
    ∃ (p : GChoice), cs = [(.bool p.fAway), (.int .i8 p.fLate), (.int .i8 p.fOctave), (.int .i8 p.fTrack)] ∧ okGChoice p := by
  have hfl := opn_fld (t := 37) h
  obtain ⟨c0, c1, c2, c3, rfl⟩ := opn_len4 (opn_cells (by kernel_rfl) h (by kernel_rfl))
  obtain ⟨n0, y0, e0⟩ := hfl 0 4 0 1 (by kernel_rfl) (by kernel_rfl)
  obtain ⟨v0, g0⟩ := (opn_b (P := Try.prog) (by kernel_rfl)) e0
  cases g0
  obtain ⟨n1, y1, e1⟩ := hfl 1 35 1 1 (by kernel_rfl) (by kernel_rfl)
  obtain ⟨v1, g1, k1⟩ := (opn_i8 (P := Try.prog) (by kernel_rfl)) e1
  cases g1
  obtain ⟨n2, y2, e2⟩ := hfl 2 35 2 1 (by kernel_rfl) (by kernel_rfl)
  obtain ⟨v2, g2, k2⟩ := (opn_i8 (P := Try.prog) (by kernel_rfl)) e2
  cases g2
  obtain ⟨n3, y3, e3⟩ := hfl 3 35 3 1 (by kernel_rfl) (by kernel_rfl)
  obtain ⟨v3, g3, k3⟩ := (opn_i8 (P := Try.prog) (by kernel_rfl)) e3
  cases g3
  exact ⟨⟨v0, v1, v2, v3⟩, rfl, trivial, k1, k2, k3⟩

theorem opn_GNote_43 {H : Type} {enc : TypeId × Value → H} {w : World} {base : Nat} {spare : Nat → Bool} {held : Bool} {fuel : Nat} {cs : List Value} {x : DataW H × List MemPlace} (h : DataW.trod enc Try.prog w base spare held fuel 43 cs = some x) :
    ∃ (p : GNote), cs = [(.int .i16 p.fAt), (.int .i8 p.fPitch)] ∧ okGNote p := by
  have hfl := opn_fld (t := 43) h
  obtain ⟨c0, c1, rfl⟩ := opn_len2 (opn_cells (by kernel_rfl) h (by kernel_rfl))
  obtain ⟨n0, y0, e0⟩ := hfl 0 28 0 1 (by kernel_rfl) (by kernel_rfl)
  obtain ⟨v0, g0, k0⟩ := (opn_i16 (P := Try.prog) (by kernel_rfl)) e0
  cases g0
  obtain ⟨n1, y1, e1⟩ := hfl 1 35 1 1 (by kernel_rfl) (by kernel_rfl)
  obtain ⟨v1, g1, k1⟩ := (opn_i8 (P := Try.prog) (by kernel_rfl)) e1
  cases g1
  exact ⟨⟨v0, v1⟩, rfl, k0, k1⟩

theorem opn_GWornPin_88 {H : Type} {enc : TypeId × Value → H} {w : World} {base : Nat} {spare : Nat → Bool} {held : Bool} {fuel : Nat} {cs : List Value} {x : DataW H × List MemPlace} (h : DataW.trod enc Try.prog w base spare held fuel 88 cs = some x) :
    ∃ (p : GWornPin), cs = [(.int .i8 p.fStep), (.int .i8 p.fTrack), (.int .i64 p.fTurns)] ∧ okGWornPin p := by
  have hfl := opn_fld (t := 88) h
  obtain ⟨c0, c1, c2, rfl⟩ := opn_len3 (opn_cells (by kernel_rfl) h (by kernel_rfl))
  obtain ⟨n0, y0, e0⟩ := hfl 0 35 0 1 (by kernel_rfl) (by kernel_rfl)
  obtain ⟨v0, g0, k0⟩ := (opn_i8 (P := Try.prog) (by kernel_rfl)) e0
  cases g0
  obtain ⟨n1, y1, e1⟩ := hfl 1 35 1 1 (by kernel_rfl) (by kernel_rfl)
  obtain ⟨v1, g1, k1⟩ := (opn_i8 (P := Try.prog) (by kernel_rfl)) e1
  cases g1
  obtain ⟨n2, y2, e2⟩ := hfl 2 2 2 1 (by kernel_rfl) (by kernel_rfl)
  obtain ⟨v2, g2, k2⟩ := (opn_i64 (P := Try.prog) (by kernel_rfl)) e2
  cases g2
  exact ⟨⟨v0, v1, v2⟩, rfl, k0, k1, k2⟩

theorem opn_GWear_53 {H : Type} {enc : TypeId × Value → H} {w : World} {base : Nat} {spare : Nat → Bool} {held : Bool} {fuel : Nat} {cs : List Value} {x : DataW H × List MemPlace} (h : DataW.trod enc Try.prog w base spare held fuel 53 cs = some x) :
    ∃ (p : GWear) (p_fPins_a : Option Addr) (p_fPins_c : Nat) (p_fStrokes_a : Option Addr) (p_fStrokes_c : Nat), cs = [.slice p_fPins_a p.fPins.length p_fPins_c, .slice p_fStrokes_a p.fStrokes.length p_fStrokes_c] ∧ Rw w p_fPins_a 3 encGWornPin p.fPins ∧ Rw w p_fStrokes_a 1 encI64 p.fStrokes ∧ okGWear p := by
  have hfl := opn_fld (t := 53) h
  obtain ⟨c0, c1, rfl⟩ := opn_len2 (opn_cells (by kernel_rfl) h (by kernel_rfl))
  obtain ⟨n0, y0, e0⟩ := hfl 0 50 0 1 (by kernel_rfl) (by kernel_rfl)
  obtain ⟨a0, v0, cp0, g0, r0, k0⟩ := (opn_sl (P := Try.prog) (e := 88) (m := 3) (encS := encGWornPin) (ok := fun y => okGWornPin y) (by kernel_rfl) (by kernel_rfl) (by decide) (fun n cs x h => opn_GWornPin_88 h)) e0
  cases g0
  obtain ⟨n1, y1, e1⟩ := hfl 1 51 1 1 (by kernel_rfl) (by kernel_rfl)
  obtain ⟨a1, v1, cp1, g1, r1, k1⟩ := (opn_sl (P := Try.prog) (e := 2) (m := 1) (encS := encI64) (ok := fun y => (-9223372036854775808 ≤ y ∧ y ≤ 9223372036854775807)) (by kernel_rfl) (by kernel_rfl) (by decide) (fun n cs x h => (opn_i64 (P := Try.prog) (by kernel_rfl)) h)) e1
  cases g1
  exact ⟨⟨v0, v1⟩, a0, cp0, a1, cp1, rfl, r0, r1, k0, k1⟩

end Go.Proofs.Ytojommdkbolmgaa
