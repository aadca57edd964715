/- The program's way and the reference's, of the law WornOut. -/
import Derived.Test.YtfkjghkjimcmdaaGreatM1
import Derived.Test.YtfkjghkjimcmdaaGreatM2
import Derived.Test.YtfkjghkjimcmdaaGreatPFrame
import Derived.Test.YtfkjghkjimcmdaaGreatPDrum
import Derived.Test.YtfkjghkjimcmdaaGreatPWear
import Derived.Test.YtfkjghkjimcmdaaGreatPPut
import Derived.Test.YtfkjghkjimcmdaaGreatPWDrum
import Derived.Test.YtfkjghkjimcmdaaGreatPEach
import Derived.Test.YtfkjghkjimcmdaaGreatPParts
import Derived.Test.YtfkjghkjimcmdaaGreatPure
namespace Go.Proofs.YtfkjghkjimcmdaaGreat
open Eng
set_option linter.unusedVariables false
set_option linter.unusedSimpArgs false

theorem implWorn {f : GFrame} {w : GWear} (h : WOk f w) (hp : w.fPins.length ≤ 1048576) (v : GLives) : loop (impl_WornOut.l_9 (partsL f w v)) (([] : List GWornPin), ([] : List Int), 0) = some (wornPins w v, wornHams f.fHammers.length w v) := by
  have hs1 := h.fr.s1; have hh1 := h.fr.h1
  let P : Nat → List GWornPin := fun k => (w.fPins.take k).filter fun p => decide (p.fTurns > v.fPin)
  let T : Nat → List Int := fun k => ((List.range (k - w.fPins.length)).filter fun t => decide (stroke w t > v.fHammer)).map fun t : Nat => (t : Int)
  have hPl : ∀ k, (P k).length ≤ w.fPins.length := fun k => by
    have := List.length_filter_le (fun p : GWornPin => decide (p.fTurns > v.fPin)) (w.fPins.take k)
    rw [List.length_take] at this
    simp only [P]; omega
  have hTl : ∀ k, k ≤ w.fPins.length + f.fHammers.length → (T k).length ≤ 24 := fun k hk => by
    have := List.length_filter_le (fun t => decide (stroke w t > v.fHammer)) (List.range (k - w.fPins.length))
    rw [List.length_range] at this
    simp only [T, List.length_map]; omega
  have hpl := partsL_len f w v
  have := loop_seq (f := impl_WornOut.l_9 (partsL f w v)) (w.fPins.length + f.fHammers.length) (fun k => (P k, T k, (k : Int))) (wornPins w v, wornHams f.fHammers.length w v) (fun k hk => by
    have e : w64 ((k : Int) + 1) = ((k + 1 : Nat) : Int) := by rw [w64_in (by omega) (by omega)]; omega
    have h1 := hPl k
    have h2 := hTl k (by omega)
    by_cases hkp : k < w.fPins.length
    · obtain ⟨⟨a, b⟩, ⟨c, d⟩, _⟩ := h.pl _ (List.getElem_mem hkp)
      have hix : ix (partsL f w v) (k : Int) = some (pinPart v w.fPins[k]) := ix_get (by unfold partsL; rw [List.getElem?_append_left (by simpa using hkp)]; simp [hkp])
      simp only [impl_WornOut.l_9, hix, Option.bind_some, impl_part_isWorn, impl_WornOut.k_14, e]
      rw [if_pos (by simp; omega)]
      have eT : T (k + 1) = T k := by simp only [T]; rw [show k + 1 - w.fPins.length = 0 by omega, show k - w.fPins.length = 0 by omega]
      have eP : P (k + 1) = P k ++ if w.fPins[k].fTurns > v.fPin then [w.fPins[k]] else [] := by
        simp only [P]
        rw [List.take_succ_eq_append_getElem hkp, List.filter_append]
        congr 1
        by_cases c : w.fPins[k].fTurns > v.fPin <;> simp [c]
      rw [eT, eP]
      by_cases c : w.fPins[k].fTurns > v.fPin
      · rw [if_neg (by simp [pinPart]; omega)]
        rw [if_neg (by rw [decide_eq_true_eq]; simp only [pinPart]; omega), if_pos (by simp only [List.length_cons, List.length_nil]; omega), if_pos c]
        simp only [pinPart]
        rw [w8_in (by omega) (by omega), w8_in (by omega) (by omega)]
      · rw [if_pos (by simp [pinPart]; omega), if_neg c, List.append_nil]
    · have hkt : k - w.fPins.length < f.fHammers.length := by omega
      have hix : ix (partsL f w v) (k : Int) = some (hamPart w v (k - w.fPins.length)) := ix_get (by
        unfold partsL
        rw [List.getElem?_append_right (by simp; omega)]
        simp [hkt])
      simp only [impl_WornOut.l_9, hix, Option.bind_some, impl_part_isWorn, impl_WornOut.k_14, e]
      rw [if_pos (by simp; omega)]
      have eP : P (k + 1) = P k := by simp only [P]; rw [List.take_of_length_le (by omega), List.take_of_length_le (by omega)]
      have eT : T (k + 1) = T k ++ if stroke w (k - w.fPins.length) > v.fHammer then [((k - w.fPins.length : Nat) : Int)] else [] := by
        simp only [T]
        rw [show k + 1 - w.fPins.length = (k - w.fPins.length) + 1 by omega, List.range_succ, List.filter_append, List.map_append]
        congr 1
        by_cases c : stroke w (k - w.fPins.length) > v.fHammer <;> simp [c]
      rw [eT, eP]
      by_cases c : stroke w (k - w.fPins.length) > v.fHammer
      · rw [if_neg (by simp [hamPart]; omega), if_pos (by simp [hamPart]), if_pos (by simp only [List.length_cons, List.length_nil]; omega), if_pos c]
        simp only [hamPart]
      · rw [if_pos (by simp [hamPart]; omega), if_neg c, List.append_nil])
    (by
      simp only [impl_WornOut.l_9]
      rw [if_neg (by simp; omega)]
      simp only [P, T, wornPins, wornHams]
      rw [List.take_of_length_le (by omega), show w.fPins.length + f.fHammers.length - w.fPins.length = f.fHammers.length by omega])
  simpa [P, T] using this
theorem wornOut_same (f : GFrame) (w : GWear) (v : GLives) (hi : FIn f) (hw : WIn w) (hf : f.fHammers.length ≤ 1048576) (hp : w.fPins.length ≤ 1048576) (hs : w.fStrokes.length ≤ 1048576) :
    ∃ r, impl_WornOut f w v = some r ∧ spec_WornOut f w v = some r ∧ r.1.length ≤ w.fPins.length ∧ r.2.1.length ≤ 24 := by
  simp only [impl_WornOut, spec_WornOut, wearCode1 f w hf hp hs v, l06Lived_is f w hf hp hs v, Option.bind_some]
  by_cases c : wearB f w = true ∧ livB v = true
  · have hok := wearB_ok c.1 hi hw
    have hh1 := hok.fr.h1
    simp only [if_pos c, parts_is hok hp v, Option.bind_some, implWorn hok hp v, impl_WornOut.k_5, worn_is hok hp v]
    refine ⟨_, by simp; rfl, by simp, ?_, ?_⟩
    · exact List.length_filter_le _ _
    · simp only [wornHams, List.length_map]
      have := List.length_filter_le (fun t => decide (stroke w t > v.fHammer)) (List.range f.fHammers.length)
      rw [List.length_range] at this
      omega
  · rw [if_neg c]
    exact ⟨([], [], 1), by simp, by simp, by simp, by simp⟩

end Go.Proofs.YtfkjghkjimcmdaaGreat
