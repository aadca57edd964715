/- What a turned wear is, and that turns add up. -/
import Derived.Test.YtfkjghkjimcmdaaGreatM2
import Derived.Test.YtfkjghkjimcmdaaGreatPFrame
import Derived.Test.YtfkjghkjimcmdaaGreatPDrum
import Derived.Test.YtfkjghkjimcmdaaGreatPCodes
import Derived.Test.YtfkjghkjimcmdaaGreatPWear
import Derived.Test.YtfkjghkjimcmdaaGreatPPut
import Derived.Test.YtfkjghkjimcmdaaGreatPWDrum
import Derived.Test.YtfkjghkjimcmdaaGreatPEach
import Derived.Test.YtfkjghkjimcmdaaGreatPParts
import Derived.Test.YtfkjghkjimcmdaaGreatPOwn
import Derived.Test.YtfkjghkjimcmdaaGreatPTurned
import Derived.Test.YtfkjghkjimcmdaaGreatPure
namespace Go.Proofs.YtfkjghkjimcmdaaGreat
open Eng
set_option linter.unusedVariables false
set_option linter.unusedSimpArgs false

def turnV (w : GWear) (n : Int) : GWear := ⟨w.fPins.mapIdx fun _ => tp n, w.fStrokes.mapIdx (gS w n)⟩
def fits (w : GWear) (n : Int) : Bool := (w.fPins.all fun p => tuB (p.fTurns + n)) && (w.fStrokes.mapIdx (gS w n)).all tuB
theorem turnWear_spec {f : GFrame} {w : GWear} (hi : FIn f) (hok : WOk f w) (hf : f.fHammers.length ≤ 1048576) (hp : w.fPins.length ≤ 1048576) (hs : w.fStrokes.length ≤ 1048576) {n : Int} (ht : 0 ≤ n ∧ n ≤ 1000000) (hb : fits w n = true) :
    spec_TurnWear f w n = some (turnV w n, 0) ∧ WOk f (turnV w n) := by
  have ct : tuB n = true := by unfold tuB; simpa using ht
  have c : wearB f w = true := wearB_of hok
  have hv : wearB f ⟨w.fPins.mapIdx fun _ => tp n, w.fStrokes.mapIdx (gS w n)⟩ = ((w.fPins.all fun p => tuB (p.fTurns + n)) && (w.fStrokes.mapIdx (gS w n)).all tuB) := wearB_turned hok n
  have hb' : ((w.fPins.all fun p => tuB (p.fTurns + n)) && (w.fStrokes.mapIdx (gS w n)).all tuB) = true := hb
  have hW2 : WIn ⟨w.fPins.mapIdx fun _ => tp n, w.fStrokes.mapIdx (gS w n)⟩ := by
    intro p hp
    obtain ⟨i, hi, rfl⟩ := List.mem_mapIdx.1 hp
    have := hok.pl w.fPins[i] (List.getElem_mem hi)
    have hs1 := hok.fr.s1; have hh1 := hok.fr.h1
    simp only [tp]; omega
  refine ⟨?_, wearB_ok (hv.trans hb') hi hW2⟩
  simp only [spec_TurnWear, l06Ok_is f w hf hp hs, l06Turns_is, Option.bind_some, c, ct, Bool.not_true, Bool.false_eq_true, if_false, spec_l06Turned, copy_is w hp hs, l06Each_is hok hp, specPins hok hp ht.1 ht.2, spec_l06Turned.k_5, specStrokes hok hp ht.1 ht.2, spec_l06Turned.k_8, hb']
  simp [turnV]
theorem cnt_turn (ps : List GWornPin) (n : Int) (t : Nat) : cnt (ps.mapIdx fun _ => tp n) t = cnt ps t := by
  have : (ps.mapIdx fun _ => tp n) = ps.map (tp n) := by
    apply List.ext_getElem?
    intro i
    rw [List.getElem?_map, List.getElem?_mapIdx]
  rw [this]
  unfold cnt
  rw [List.countP_map]
  rfl
theorem turnV_add (w : GWear) (n m : Int) : turnV (turnV w n) m = turnV w (n + m) := by
  unfold turnV
  congr 1
  · apply List.ext_getElem?
    intro i
    rw [List.getElem?_mapIdx, List.getElem?_mapIdx, List.getElem?_mapIdx]
    cases w.fPins[i]? with
    | none => rfl
    | some p => simp [tp, Int.add_assoc]
  · apply List.ext_getElem?
    intro i
    rw [List.getElem?_mapIdx, List.getElem?_mapIdx, List.getElem?_mapIdx]
    cases w.fStrokes[i]? with
    | none => rfl
    | some x =>
      simp only [Option.map_some, gS, cnt_turn]
      congr 1
      rw [Int.mul_add, Int.add_assoc]
theorem turnV_zero (w : GWear) : turnV w 0 = w := by
  cases w with
  | mk ps ss =>
    unfold turnV
    congr 1
    · apply List.ext_getElem?
      intro i
      rw [List.getElem?_mapIdx]
      cases ps[i]? with
      | none => rfl
      | some p => simp [tp]
    · apply List.ext_getElem?
      intro i
      rw [List.getElem?_mapIdx]
      cases ss[i]? with
      | none => rfl
      | some x => simp [gS]
/-- a bound under which turns fit -/
theorem fits_of {w : GWear} {n : Int} (h0 : 0 ≤ n) (h1 : ∀ p ∈ w.fPins, 0 ≤ p.fTurns ∧ p.fTurns + n ≤ 1000000) (h2 : ∀ (t : Nat) (x : Int), w.fStrokes[t]? = some x → 0 ≤ x ∧ x + cnt w.fPins t * n ≤ 1000000) : fits w n = true := by
  unfold fits
  rw [Bool.and_eq_true, List.all_eq_true, List.all_eq_true]
  constructor
  · intro p hp
    have := h1 p hp
    unfold tuB
    simp only [Bool.and_eq_true, decide_eq_true_eq]; omega
  · intro y hy
    obtain ⟨i, hi, rfl⟩ := List.mem_mapIdx.1 hy
    have := h2 i w.fStrokes[i] (List.getElem?_eq_getElem hi)
    have hm : 0 ≤ (cnt w.fPins i : Int) * n := Int.mul_nonneg (by omega) h0
    unfold tuB gS
    simp only [Bool.and_eq_true, decide_eq_true_eq]; omega
end Go.Proofs.YtfkjghkjimcmdaaGreat
