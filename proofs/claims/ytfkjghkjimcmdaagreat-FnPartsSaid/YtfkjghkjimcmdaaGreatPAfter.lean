/- The wear behind many rounds: its numbers are those of each part alone. -/
import Derived.Test.YtfkjghkjimcmdaaGreatM2
import Derived.Test.YtfkjghkjimcmdaaGreatPFrame
import Derived.Test.YtfkjghkjimcmdaaGreatPDrum
import Derived.Test.YtfkjghkjimcmdaaGreatPCodes
import Derived.Test.YtfkjghkjimcmdaaGreatPWear
import Derived.Test.YtfkjghkjimcmdaaGreatPPut
import Derived.Test.YtfkjghkjimcmdaaGreatPWDrum
import Derived.Test.YtfkjghkjimcmdaaGreatPEach
import Derived.Test.YtfkjghkjimcmdaaGreatPParts
import Derived.Test.YtfkjghkjimcmdaaGreatPFirst
import Derived.Test.YtfkjghkjimcmdaaGreatPTimes
import Derived.Test.YtfkjghkjimcmdaaGreatPOwn
import Derived.Test.YtfkjghkjimcmdaaGreatPWPlace
import Derived.Test.YtfkjghkjimcmdaaGreatPPinAt
import Derived.Test.YtfkjghkjimcmdaaGreatPRenew
import Derived.Test.YtfkjghkjimcmdaaGreatPTurned
import Derived.Test.YtfkjghkjimcmdaaGreatPTurnVal
import Derived.Test.YtfkjghkjimcmdaaGreatPRenewLoop
import Derived.Test.YtfkjghkjimcmdaaGreatPRound
import Derived.Test.YtfkjghkjimcmdaaGreatPSim
import Derived.Test.YtfkjghkjimcmdaaGreatPure
namespace Go.Proofs.YtfkjghkjimcmdaaGreat
open Eng
set_option linter.unusedVariables false
set_option linter.unusedSimpArgs false

def afterW (f : GFrame) (v : GLives) (w : GWear) : Nat → GWear
  | 0 => w
  | n + 1 => roundW f v (afterW f v w n)
theorem after_pin (f : GFrame) (v : GLives) (w : GWear) : ∀ (n i : Nat) (hi : i < w.fPins.length), (afterW f v w n).fPins[i]? = some ⟨w.fPins[i].fStep, w.fPins[i].fTrack, (simR 1 v.fPin n w.fPins[i].fTurns).1⟩ := by
  intro n
  induction n with
  | zero => intro i hi; rw [afterW, List.getElem?_eq_getElem hi]; rfl
  | succ n ih =>
    intro i hi
    have h0 := ih i hi
    have hi2 : i < (afterW f v w n).fPins.length := by
      rcases Nat.lt_or_ge i (afterW f v w n).fPins.length with h' | h'
      · exact h'
      · rw [List.getElem?_eq_none h'] at h0; cases h0
    have e : (afterW f v w n).fPins[i] = ⟨w.fPins[i].fStep, w.fPins[i].fTrack, (simR 1 v.fPin n w.fPins[i].fTurns).1⟩ := by
      rw [List.getElem?_eq_getElem hi2] at h0; exact Option.some.inj h0
    rw [afterW, round_pin f v _ i hi2, e]
    simp only [simR]
    by_cases c : (simR 1 v.fPin n w.fPins[i].fTurns).1 + 1 > v.fPin
    · rw [if_pos c, if_pos c]; simp
    · rw [if_neg c, if_neg c]
theorem after_fit {f : GFrame} {v : GLives} {w : GWear} (hl : w.fStrokes.length = f.fHammers.length) (n : Nat) (t : Nat) (ht : t < w.fStrokes.length) (u : GWear) (hu : WOk f u) (hc : cnt u.fPins t = cnt w.fPins t) (h0 : u.fStrokes[t]? = some (simR (cnt w.fPins t) v.fHammer n w.fStrokes[t]).1) :
    (roundW f v u).fStrokes[t]? = some (simR (cnt w.fPins t) v.fHammer (n + 1) w.fStrokes[t]).1 := by
  have ht2 : t < u.fStrokes.length := by rw [hu.sl, ← hl]; exact ht
  have e : u.fStrokes[t] = (simR (cnt w.fPins t) v.fHammer n w.fStrokes[t]).1 := by
    rw [List.getElem?_eq_getElem ht2] at h0; exact Option.some.inj h0
  rw [round_stroke hu t ht2, e, hc]
  simp only [simR]
  by_cases c : (simR (cnt w.fPins t) v.fHammer n w.fStrokes[t]).1 + (cnt w.fPins t : Int) > v.fHammer
  · rw [if_pos c, if_pos c]; simp
  · rw [if_neg c, if_neg c]
/-- a wear whose numbers are within the lives -/
def within (v : GLives) (w : GWear) : Prop := (∀ p ∈ w.fPins, p.fTurns ≤ v.fPin) ∧ ∀ s ∈ w.fStrokes, s ≤ v.fHammer
theorem round_ok {f : GFrame} {v : GLives} {u : GWear} (hi : FIn f) (hu : WOk f u) (hp : u.fPins.length ≤ 1048576) (hv : 1 ≤ v.fPin ∧ v.fPin ≤ 1000000) (hh : v.fHammer ≤ 1000000) (hc : ∀ t, t < f.fHammers.length → (cnt u.fPins t : Int) ≤ v.fHammer) (hr : WOk f (renewed f v u)) :
    spec_TurnWear f (renewed f v u) 1 = some (roundW f v u, 0) ∧ WOk f (roundW f v u) := by
  have hh1 := hu.fr.h1
  have hsl := hu.sl
  have hl1 : (renewed f v u).fPins.length = u.fPins.length := by simp [renewed, rnP]
  have hl2 : (renewed f v u).fStrokes.length = u.fStrokes.length := by simp [renewed, rnS]
  have hfit : fits (renewed f v u) 1 = true := by
    refine fits_of (by omega) (fun p hp' => ?_) (fun t x hx => ?_)
    · obtain ⟨i, hi', rfl⟩ := List.mem_iff_getElem.1 hp'
      have hi2 : i < u.fPins.length := by omega
      have e := renewed_pin f v u i hi2
      rw [List.getElem?_eq_getElem hi'] at e
      have e2 := Option.some.inj e
      have hpi := hu.pl _ (List.getElem_mem hi2)
      rw [e2]
      by_cases c : u.fPins[i].fTurns + 1 > v.fPin
      · rw [if_pos c]; simp [zeroP]
      · rw [if_neg c]; omega
    · have ht : t < u.fStrokes.length := by
        rcases Nat.lt_or_ge t (renewed f v u).fStrokes.length with h' | h'
        · omega
        · rw [List.getElem?_eq_none h'] at hx; cases hx
      have g : (renewed f v u).fStrokes[t]? = some (if u.fStrokes[t] + cnt u.fPins t > v.fHammer then 0 else u.fStrokes[t]) := by
        show (rnS v u f.fHammers.length)[t]? = _
        rw [rnS_get _ _ _ _ ht]
        by_cases c : u.fStrokes[t] + cnt u.fPins t > v.fHammer
        · rw [if_pos ⟨by omega, c⟩, if_pos c]
        · rw [if_neg (fun hh => c hh.2), if_neg c]
      rw [g] at hx
      have hx2 := Option.some.inj hx
      have hst := hu.st _ (List.getElem_mem ht)
      have hct := hc t (by omega)
      rw [renewed_cnt, Int.mul_one, ← hx2]
      by_cases c : u.fStrokes[t] + cnt u.fPins t > v.fHammer
      · rw [if_pos c]; omega
      · rw [if_neg c]; omega
  exact turnWear_spec hi hr (by omega) (by omega) (by omega) (n := 1) (by omega) hfit

end Go.Proofs.YtfkjghkjimcmdaaGreat
