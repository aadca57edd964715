/- Wear behind some turns, the program's and the reference's. -/
import Derived.Test.YtfkjghkjimcmdaaGreatM2
import Derived.Test.YtfkjghkjimcmdaaGreatPFrame
import Derived.Test.YtfkjghkjimcmdaaGreatPDrum
import Derived.Test.YtfkjghkjimcmdaaGreatPCodes
import Derived.Test.YtfkjghkjimcmdaaGreatPWear
import Derived.Test.YtfkjghkjimcmdaaGreatPPut
import Derived.Test.YtfkjghkjimcmdaaGreatPWDrum
import Derived.Test.YtfkjghkjimcmdaaGreatPEach
import Derived.Test.YtfkjghkjimcmdaaGreatPParts
import Derived.Test.YtfkjghkjimcmdaaGreatPOwn
import Derived.Test.YtfkjghkjimcmdaaGreatPure
namespace Go.Proofs.YtfkjghkjimcmdaaGreat
open Eng
set_option linter.unusedVariables false
set_option linter.unusedSimpArgs false

def tp (n : Int) (p : GWornPin) : GWornPin := ⟨p.fStep, p.fTrack, p.fTurns + n⟩
/-- pins and strokes behind n turns -/
def turnedW (f : GFrame) (w : GWear) (n : Int) : GWear := ⟨w.fPins.map (tp n), (List.range f.fHammers.length).map fun t => stroke w t + cnt w.fPins t * n⟩
/-- a row in which the first k are turned -/
def upto {S : Type} (g : Nat → S → S) (xs : List S) (k : Nat) : List S := xs.mapIdx fun i x => if i < k then g i x else x
theorem upto_len {S : Type} (g : Nat → S → S) (xs : List S) (k : Nat) : (upto g xs k).length = xs.length := by simp [upto]
theorem upto_get {S : Type} (g : Nat → S → S) (xs : List S) (k i : Nat) (hi : i < xs.length) : (upto g xs k)[i]? = some (if i < k then g i xs[i] else xs[i]) := by
  unfold upto
  rw [List.getElem?_mapIdx, List.getElem?_eq_getElem hi]; rfl
theorem upto_zero {S : Type} (g : Nat → S → S) (xs : List S) : upto g xs 0 = xs := by
  apply List.ext_getElem?
  intro i
  by_cases hi : i < xs.length
  · rw [upto_get g xs 0 i hi, List.getElem?_eq_getElem hi]; simp
  · rw [List.getElem?_eq_none (by rw [upto_len]; omega), List.getElem?_eq_none (by omega)]
theorem upto_set {S : Type} (g : Nat → S → S) (xs : List S) (k : Nat) (hk : k < xs.length) (y : S) (hy : y = g k xs[k]) : (upto g xs k).set k y = upto g xs (k + 1) := by
  subst hy
  apply List.ext_getElem?
  intro i
  rw [List.getElem?_set, upto_len]
  by_cases hi : i < xs.length
  · rw [upto_get _ _ _ _ hi, upto_get _ _ _ _ hi]
    by_cases e : k = i
    · subst e; rw [if_pos rfl, if_pos hk, if_pos (by omega)]
    · rw [if_neg e]
      by_cases h2 : i < k
      · rw [if_pos h2, if_pos (by omega)]
      · rw [if_neg h2, if_neg (by omega)]
  · rw [List.getElem?_eq_none (by rw [upto_len]; omega), List.getElem?_eq_none (by rw [upto_len]; omega), if_neg (by omega)]
theorem upto_ix {S : Type} (g : Nat → S → S) (xs : List S) (k : Nat) (hk : k < xs.length) : ix (upto g xs k) (k : Int) = some xs[k] := by
  refine ix_get ?_
  rw [upto_get _ _ _ _ hk, if_neg (by omega)]
theorem upto_ix1 {S : Type} (g : Nat → S → S) (xs : List S) (k : Nat) (hk : k < xs.length) : ix (upto g xs (k + 1)) (k : Int) = some (g k xs[k]) := by
  refine ix_get ?_
  rw [upto_get _ _ _ _ hk, if_pos (by omega)]
theorem upto_all {S : Type} (g : Nat → S → S) (xs : List S) (k : Nat) (hk : xs.length ≤ k) : upto g xs k = xs.mapIdx g := by
  unfold upto
  apply List.ext_getElem?
  intro i
  rw [List.getElem?_mapIdx, List.getElem?_mapIdx]
  cases h : xs[i]? with
  | none => rfl
  | some x =>
    have : i < xs.length := by
      rcases Nat.lt_or_ge i xs.length with h' | h'
      · exact h'
      · rw [List.getElem?_eq_none h'] at h; cases h
    simp; omega
def gS (w : GWear) (n : Int) (t : Nat) (x : Int) : Int := x + cnt w.fPins t * n
theorem turned_eq {f : GFrame} {w : GWear} (h : WOk f w) (n : Int) : turnedW f w n = ⟨w.fPins.mapIdx fun _ => tp n, w.fStrokes.mapIdx (gS w n)⟩ := by
  unfold turnedW
  congr 1
  · apply List.ext_getElem?
    intro i
    rw [List.getElem?_map, List.getElem?_mapIdx]
  · apply List.ext_getElem?
    intro i
    rw [List.getElem?_map, List.getElem?_mapIdx]
    by_cases hi : i < f.fHammers.length
    · have hi' : i < w.fStrokes.length := by rw [h.sl]; exact hi
      rw [List.getElem?_range hi, List.getElem?_eq_getElem hi']
      simp only [Option.map_some, stroke, gS, List.getElem?_eq_getElem hi', Option.getD_some]
    · rw [List.getElem?_eq_none (by simp; omega), List.getElem?_eq_none (by rw [h.sl]; omega)]; rfl
theorem small {c : Nat} {n : Int} (hc : c ≤ 1048576) (h0 : 0 ≤ n) (h1 : n ≤ 1000000) : 0 ≤ (c : Int) * n ∧ (c : Int) * n ≤ 1048576000000 := by
  have e1 : (c : Int) * n ≤ 1048576 * n := Int.mul_le_mul_of_nonneg_right (by omega) h0
  exact ⟨Int.mul_nonneg (by omega) h0, by omega⟩
/-! ### the reference -/
theorem specPins {f : GFrame} {w : GWear} (h : WOk f w) (hp : w.fPins.length ≤ 1048576) {n : Int} (h0 : 0 ≤ n) (h1 : n ≤ 1000000) :
    loop (spec_l06Turned.l_22 n w) (w.fPins, true, 0) = some (w.fPins.mapIdx (fun _ => tp n), w.fPins.all fun p => tuB (p.fTurns + n)) := by
  have := loop_seq (f := spec_l06Turned.l_22 n w) w.fPins.length (fun k => (upto (fun _ => tp n) w.fPins k, (w.fPins.take k).all (fun p => tuB (p.fTurns + n)), (k : Int))) (w.fPins.mapIdx (fun _ => tp n), w.fPins.all fun p => tuB (p.fTurns + n)) (fun k hk => by
    have hpl := (h.pl _ (List.getElem_mem hk)).2.2
    have e : (upto (fun _ => tp n) w.fPins k).set k (⟨w.fPins[k].fStep, w.fPins[k].fTrack, w.fPins[k].fTurns + n⟩ : GWornPin) = upto (fun _ => tp n) w.fPins (k + 1) := upto_set _ _ k hk _ rfl
    simp only [spec_l06Turned.l_22, upto_ix _ _ k hk, Option.bind_some]
    rw [if_pos (by simpa using hk), w64_in (n := w.fPins[k].fTurns + n) (by omega) (by omega), w64_in (n := (k : Int) + 1) (by omega) (by omega), Int.toNat_natCast, e, upto_ix1 _ _ k hk]
    simp only [Option.bind_some, l06Turns_is, tp, List.take_succ_eq_append_getElem hk, List.all_append, List.all_cons, List.all_nil, Bool.and_true]
    cases (w.fPins.take k).all (fun p => tuB (p.fTurns + n)) <;> simp) (by
    simp only [spec_l06Turned.l_22]
    rw [if_neg (by simp), upto_all _ _ _ (Nat.le_refl _), List.take_length])
  simpa [upto_zero] using this
theorem specStrokes {f : GFrame} {w : GWear} (h : WOk f w) (hp : w.fPins.length ≤ 1048576) {n : Int} (h0 : 0 ≤ n) (h1 : n ≤ 1000000) (q : Bool) :
    loop (spec_l06Turned.l_12 n (eachL f.fHammers.length w.fPins)) (w.fStrokes, q, 0) = some (w.fStrokes.mapIdx (gS w n), q && (w.fStrokes.mapIdx (gS w n)).all tuB) := by
  have hsl := h.sl; have hh1 := h.fr.h1
  have := loop_seq (f := spec_l06Turned.l_12 n (eachL f.fHammers.length w.fPins)) w.fStrokes.length (fun k => (upto (gS w n) w.fStrokes k, q && ((w.fStrokes.mapIdx (gS w n)).take k).all tuB, (k : Int))) (w.fStrokes.mapIdx (gS w n), q && (w.fStrokes.mapIdx (gS w n)).all tuB) (fun k hk => by
    have hst := h.st _ (List.getElem_mem hk)
    have hs := small (Nat.le_trans (cnt_le w.fPins k) hp) h0 h1
    have e : (upto (gS w n) w.fStrokes k).set k (w.fStrokes[k] + (cnt w.fPins k : Int) * n) = upto (gS w n) w.fStrokes (k + 1) := upto_set _ _ k hk _ rfl
    have hk2 : k < (w.fStrokes.mapIdx (gS w n)).length := by simpa using hk
    simp only [spec_l06Turned.l_12, upto_ix _ _ k hk, ix_get (eachL_get f.fHammers.length w.fPins k (by omega)), Option.bind_some, eachL_len]
    rw [if_pos (by simp; omega), Int.mul_comm n, w64_in (n := (cnt w.fPins k : Int) * n) (by omega) (by omega), w64_in (n := w.fStrokes[k] + (cnt w.fPins k : Int) * n) (by omega) (by omega), w64_in (n := (k : Int) + 1) (by omega) (by omega), Int.toNat_natCast, e, upto_ix1 _ _ k hk]
    have e3 : (w.fStrokes.mapIdx (gS w n))[k] = gS w n k w.fStrokes[k] := by simp
    simp only [Option.bind_some, l06Turns_is, List.take_succ_eq_append_getElem hk2, List.all_append, List.all_cons, List.all_nil, Bool.and_true, e3]
    cases q <;> cases ((w.fStrokes.mapIdx (gS w n)).take k).all tuB <;> simp) (by
    simp only [spec_l06Turned.l_12, eachL_len]
    rw [if_neg (by simp; omega), upto_all _ _ _ (Nat.le_refl _), List.take_of_length_le (by simp)])
  simpa [upto_zero] using this
/-! ### the turned wear is valid if its numbers are -/
theorem wearB_turned {f : GFrame} {w : GWear} (h : WOk f w) (n : Int) : wearB f ⟨w.fPins.mapIdx fun _ => tp n, w.fStrokes.mapIdx (gS w n)⟩ = ((w.fPins.all fun p => tuB (p.fTurns + n)) && (w.fStrokes.mapIdx (gS w n)).all tuB) := by
  unfold wearB
  simp only [frameB_of h.fr, List.length_mapIdx, h.sl, decide_true, Bool.true_and]
  congr 1
  rw [Bool.eq_iff_iff, List.all_eq_true, List.all_eq_true]
  have hs0 := h.fr.s0; have hs1 := h.fr.s1; have hh1 := h.fr.h1
  have key : ∀ k (hk : k < w.fPins.length), pinOk f (w.fPins.mapIdx fun _ => tp n) k = tuB (w.fPins[k].fTurns + n) := by
    intro k hk
    unfold pinOk
    rw [List.getElem?_mapIdx, List.getElem?_eq_getElem hk]
    simp only [Option.map_some, tp]
    obtain ⟨a, b, _⟩ := h.pl _ (List.getElem_mem hk)
    have e1 : plB f (w64 w.fPins[k].fStep) (w64 w.fPins[k].fTrack) = true := by
      rw [plB_ok h.fr, w64_in (by omega) (by omega), w64_in (by omega) (by omega)]; exact ⟨a, b⟩
    rw [e1]
    by_cases h0 : k = 0
    · subst h0; simp
    · have hk' : k - 1 < w.fPins.length := by omega
      rw [List.getElem?_mapIdx, List.getElem?_eq_getElem hk']
      have := List.pairwise_iff_getElem.1 h.so (k - 1) k hk' hk (by omega)
      simp only [Option.map_some, befB, tp] at this ⊢
      rw [this]; simp
  constructor
  · intro h2 p hp
    obtain ⟨k, hk, rfl⟩ := List.mem_iff_getElem.1 hp
    rw [← key k hk]; exact h2 k (by simpa using hk)
  · intro h2 k hk
    have hk : k < w.fPins.length := by simpa using hk
    rw [key k hk]; exact h2 _ (List.getElem_mem hk)
end Go.Proofs.YtfkjghkjimcmdaaGreat
