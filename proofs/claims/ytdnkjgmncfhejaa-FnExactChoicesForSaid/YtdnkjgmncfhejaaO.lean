/- The opening of the laws' parameters: what a value that came in looks like. Printed by a program. -/
import Derived.Test.YtdnkjgmncfhejaaF1
import Derived.Test.YtdnkjgmncfhejaaOpen
namespace Go.Proofs.Ytdnkjgmncfhejaa
open Eng
set_option linter.unusedVariables false

def okGHammer (x : GHammer) : Prop := (-128 ≤ x.fPitch ∧ x.fPitch ≤ 127) ∧ (-128 ≤ x.fReady ∧ x.fReady ≤ 127)

def okGFrame (x : GFrame) : Prop := (-32768 ≤ x.fSteps ∧ x.fSteps ≤ 32767) ∧ (x.fHammers.length ≤ 9223372036854775807 ∧ ∀ y ∈ x.fHammers, okGHammer y)

def okGNote (x : GNote) : Prop := (-32768 ≤ x.fAt ∧ x.fAt ≤ 32767) ∧ (-128 ≤ x.fPitch ∧ x.fPitch ≤ 127)

def okGWornPin (x : GWornPin) : Prop := (-128 ≤ x.fStep ∧ x.fStep ≤ 127) ∧ (-128 ≤ x.fTrack ∧ x.fTrack ≤ 127) ∧ (-9223372036854775808 ≤ x.fTurns ∧ x.fTurns ≤ 9223372036854775807)

def okGWear (x : GWear) : Prop := (x.fPins.length ≤ 9223372036854775807 ∧ ∀ y ∈ x.fPins, okGWornPin y) ∧ (x.fStrokes.length ≤ 9223372036854775807 ∧ ∀ y ∈ x.fStrokes, (-9223372036854775808 ≤ y ∧ y ≤ 9223372036854775807))

theorem opn_GHammer_181 {H : Type} {enc : TypeId × Value → H} {w : World} {base : Nat} {spare : Nat → Bool} {held : Bool} {fuel : Nat} {cs : List Value} {x : DataW H × List MemPlace} (h : DataW.trod enc Try.prog w base spare held fuel 181 cs = some x) :
    ∃ (p : GHammer), cs = [(.int .i8 p.fPitch), (.int .i8 p.fReady)] ∧ okGHammer p := by
  have hfl := opn_fld (t := 181) h
  obtain ⟨c0, c1, rfl⟩ := opn_len2 (opn_cells (by kernel_rfl) h (by kernel_rfl))
  obtain ⟨n0, y0, e0⟩ := hfl 0 26 0 1 (by kernel_rfl) (by kernel_rfl)
  obtain ⟨v0, g0, k0⟩ := (opn_i8 (P := Try.prog) (by kernel_rfl)) e0
  cases g0
  obtain ⟨n1, y1, e1⟩ := hfl 1 26 1 1 (by kernel_rfl) (by kernel_rfl)
  obtain ⟨v1, g1, k1⟩ := (opn_i8 (P := Try.prog) (by kernel_rfl)) e1
  cases g1
  exact ⟨⟨v0, v1⟩, rfl, k0, k1⟩

theorem opn_GFrame_25 {H : Type} {enc : TypeId × Value → H} {w : World} {base : Nat} {spare : Nat → Bool} {held : Bool} {fuel : Nat} {cs : List Value} {x : DataW H × List MemPlace} (h : DataW.trod enc Try.prog w base spare held fuel 25 cs = some x) :
    ∃ (p : GFrame) (p_fHammers_a : Option Addr) (p_fHammers_c : Nat), cs = [(.int .i16 p.fSteps), .slice p_fHammers_a p.fHammers.length p_fHammers_c] ∧ Rw w p_fHammers_a 2 encGHammer p.fHammers ∧ okGFrame p := by
  have hfl := opn_fld (t := 25) h
  obtain ⟨c0, c1, rfl⟩ := opn_len2 (opn_cells (by kernel_rfl) h (by kernel_rfl))
  obtain ⟨n0, y0, e0⟩ := hfl 0 22 0 1 (by kernel_rfl) (by kernel_rfl)
  obtain ⟨v0, g0, k0⟩ := (opn_i16 (P := Try.prog) (by kernel_rfl)) e0
  cases g0
  obtain ⟨n1, y1, e1⟩ := hfl 1 23 1 1 (by kernel_rfl) (by kernel_rfl)
  obtain ⟨a1, v1, cp1, g1, r1, k1⟩ := (opn_sl (P := Try.prog) (e := 181) (m := 2) (encS := encGHammer) (ok := fun y => okGHammer y) (by kernel_rfl) (by kernel_rfl) (by decide) (fun n cs x h => opn_GHammer_181 h)) e1
  cases g1
  exact ⟨⟨v0, v1⟩, a1, cp1, rfl, r1, k0, k1⟩

theorem opn_GNote_28 {H : Type} {enc : TypeId × Value → H} {w : World} {base : Nat} {spare : Nat → Bool} {held : Bool} {fuel : Nat} {cs : List Value} {x : DataW H × List MemPlace} (h : DataW.trod enc Try.prog w base spare held fuel 28 cs = some x) :
    ∃ (p : GNote), cs = [(.int .i16 p.fAt), (.int .i8 p.fPitch)] ∧ okGNote p := by
  have hfl := opn_fld (t := 28) h
  obtain ⟨c0, c1, rfl⟩ := opn_len2 (opn_cells (by kernel_rfl) h (by kernel_rfl))
  obtain ⟨n0, y0, e0⟩ := hfl 0 22 0 1 (by kernel_rfl) (by kernel_rfl)
  obtain ⟨v0, g0, k0⟩ := (opn_i16 (P := Try.prog) (by kernel_rfl)) e0
  cases g0
  obtain ⟨n1, y1, e1⟩ := hfl 1 26 1 1 (by kernel_rfl) (by kernel_rfl)
  obtain ⟨v1, g1, k1⟩ := (opn_i8 (P := Try.prog) (by kernel_rfl)) e1
  cases g1
  exact ⟨⟨v0, v1⟩, rfl, k0, k1⟩

theorem opn_GWornPin_188 {H : Type} {enc : TypeId × Value → H} {w : World} {base : Nat} {spare : Nat → Bool} {held : Bool} {fuel : Nat} {cs : List Value} {x : DataW H × List MemPlace} (h : DataW.trod enc Try.prog w base spare held fuel 188 cs = some x) :
    ∃ (p : GWornPin), cs = [(.int .i8 p.fStep), (.int .i8 p.fTrack), (.int .i64 p.fTurns)] ∧ okGWornPin p := by
  have hfl := opn_fld (t := 188) h
  obtain ⟨c0, c1, c2, rfl⟩ := opn_len3 (opn_cells (by kernel_rfl) h (by kernel_rfl))
  obtain ⟨n0, y0, e0⟩ := hfl 0 26 0 1 (by kernel_rfl) (by kernel_rfl)
  obtain ⟨v0, g0, k0⟩ := (opn_i8 (P := Try.prog) (by kernel_rfl)) e0
  cases g0
  obtain ⟨n1, y1, e1⟩ := hfl 1 26 1 1 (by kernel_rfl) (by kernel_rfl)
  obtain ⟨v1, g1, k1⟩ := (opn_i8 (P := Try.prog) (by kernel_rfl)) e1
  cases g1
  obtain ⟨n2, y2, e2⟩ := hfl 2 2 2 1 (by kernel_rfl) (by kernel_rfl)
  obtain ⟨v2, g2, k2⟩ := (opn_i64 (P := Try.prog) (by kernel_rfl)) e2
  cases g2
  exact ⟨⟨v0, v1, v2⟩, rfl, k0, k1, k2⟩

theorem opn_GWear_47 {H : Type} {enc : TypeId × Value → H} {w : World} {base : Nat} {spare : Nat → Bool} {held : Bool} {fuel : Nat} {cs : List Value} {x : DataW H × List MemPlace} (h : DataW.trod enc Try.prog w base spare held fuel 47 cs = some x) :
    ∃ (p : GWear) (p_fPins_a : Option Addr) (p_fPins_c : Nat) (p_fStrokes_a : Option Addr) (p_fStrokes_c : Nat), cs = [.slice p_fPins_a p.fPins.length p_fPins_c, .slice p_fStrokes_a p.fStrokes.length p_fStrokes_c] ∧ Rw w p_fPins_a 3 encGWornPin p.fPins ∧ Rw w p_fStrokes_a 1 encI64 p.fStrokes ∧ okGWear p := by
  have hfl := opn_fld (t := 47) h
  obtain ⟨c0, c1, rfl⟩ := opn_len2 (opn_cells (by kernel_rfl) h (by kernel_rfl))
  obtain ⟨n0, y0, e0⟩ := hfl 0 44 0 1 (by kernel_rfl) (by kernel_rfl)
  obtain ⟨a0, v0, cp0, g0, r0, k0⟩ := (opn_sl (P := Try.prog) (e := 188) (m := 3) (encS := encGWornPin) (ok := fun y => okGWornPin y) (by kernel_rfl) (by kernel_rfl) (by decide) (fun n cs x h => opn_GWornPin_188 h)) e0
  cases g0
  obtain ⟨n1, y1, e1⟩ := hfl 1 45 1 1 (by kernel_rfl) (by kernel_rfl)
  obtain ⟨a1, v1, cp1, g1, r1, k1⟩ := (opn_sl (P := Try.prog) (e := 2) (m := 1) (encS := encI64) (ok := fun y => (-9223372036854775808 ≤ y ∧ y ≤ 9223372036854775807)) (by kernel_rfl) (by kernel_rfl) (by decide) (fun n cs x h => (opn_i64 (P := Try.prog) (by kernel_rfl)) h)) e1
  cases g1
  exact ⟨⟨v0, v1⟩, a0, cp0, a1, cp1, rfl, r0, r1, k0, k1⟩

end Go.Proofs.Ytdnkjgmncfhejaa
