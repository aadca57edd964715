/- How many pins and hammers are made new in many rounds: the sums of what each part takes. -/
import Derived.Test.YtfkjghkjimcmdaaGreatM3
import Derived.Test.YtfkjghkjimcmdaaGreatPFrame
import Derived.Test.YtfkjghkjimcmdaaGreatPDrum
import Derived.Test.YtfkjghkjimcmdaaGreatPCodes
import Derived.Test.YtfkjghkjimcmdaaGreatPWear
import Derived.Test.YtfkjghkjimcmdaaGreatPPut
import Derived.Test.YtfkjghkjimcmdaaGreatPWDrum
import Derived.Test.YtfkjghkjimcmdaaGreatPEach
import Derived.Test.YtfkjghkjimcmdaaGreatPParts
import Derived.Test.YtfkjghkjimcmdaaGreatPFirst
import Derived.Test.YtfkjghkjimcmdaaGreatPTimes
import Derived.Test.YtfkjghkjimcmdaaGreatPOwn
import Derived.Test.YtfkjghkjimcmdaaGreatPWPlace
import Derived.Test.YtfkjghkjimcmdaaGreatPPinAt
import Derived.Test.YtfkjghkjimcmdaaGreatPRenew
import Derived.Test.YtfkjghkjimcmdaaGreatPTurned
import Derived.Test.YtfkjghkjimcmdaaGreatPTurnVal
import Derived.Test.YtfkjghkjimcmdaaGreatPRenewLoop
import Derived.Test.YtfkjghkjimcmdaaGreatPRound
import Derived.Test.YtfkjghkjimcmdaaGreatPSim
import Derived.Test.YtfkjghkjimcmdaaGreatPAfter
import Derived.Test.YtfkjghkjimcmdaaGreatPure
namespace Go.Proofs.YtfkjghkjimcmdaaGreat
open Eng
set_option linter.unusedVariables false
set_option linter.unusedSimpArgs false

theorem simR_snd (e L : Int) (n : Nat) (a : Int) : (simR e L (n + 1) a).2 = (simR e L n a).2 + (if (simR e L n a).1 + e > L then 1 else 0) := by
  simp only [simR]
  split <;> simp
theorem sim0 {L a : Int} (h : a ≤ L) : ∀ n : Nat, simR 0 L n a = (a, 0) := by
  intro n
  induction n with
  | zero => rfl
  | succ n ih => simp only [simR, ih]; rw [if_neg (by omega)]; simp
theorem sim_timesV {p : Gpart} (ha : 0 ≤ p.fmade) (haL : p.fmade ≤ p.flife) (he : 0 ≤ p.feach) (heL : p.feach ≤ p.flife) (n : Nat) :
    (simR p.feach p.flife n p.fmade).2 = timesV n p ∧ 0 ≤ (simR p.feach p.flife n p.fmade).1 ∧ (simR p.feach p.flife n p.fmade).1 ≤ p.flife := by
  by_cases h0 : p.feach = 0
  · rw [h0, sim0 haL n]
    exact ⟨by unfold timesV; rw [if_pos h0], ha, haL⟩
  · exact sim_times ha haL (by omega) heL n
theorem filter_sum {A B : Type} (g : A → B) (p : B → Bool) (l : List A) : (((l.map g).filter p).length : Int) = (l.map fun x => if p (g x) = true then (1 : Int) else 0).sum := by
  induction l with
  | nil => rfl
  | cons x l ih =>
    rw [List.map_cons, List.filter_cons, List.map_cons, List.sum_cons, ← ih]
    by_cases c : p (g x) = true
    · rw [if_pos c, if_pos c, List.length_cons]; omega
    · rw [if_neg c, if_neg c]; omega
theorem sum_add {A : Type} (f g : A → Int) (l : List A) : (l.map fun x => f x + g x).sum = (l.map f).sum + (l.map g).sum := by
  induction l with
  | nil => rfl
  | cons x l ih => simp only [List.map_cons, List.sum_cons, ih]; omega
/-- the numbers behind n rounds -/
structure AfterOk (f : GFrame) (v : GLives) (w : GWear) (n : Nat) : Prop where
  ok : WOk f (afterW f v w n)
  pins : (afterW f v w n).fPins = w.fPins.map fun p => ⟨p.fStep, p.fTrack, (simR 1 v.fPin n p.fTurns).1⟩
  str : ∀ t, t < f.fHammers.length → stroke (afterW f v w n) t = (simR (cnt w.fPins t) v.fHammer n (stroke w t)).1
theorem after_cnt {f : GFrame} {v : GLives} {w : GWear} {n : Nat} (h : AfterOk f v w n) (t : Nat) : cnt (afterW f v w n).fPins t = cnt w.fPins t := by
  rw [h.pins]
  unfold cnt
  rw [List.countP_map]
  rfl
/-- what the loops need of a wear and lives -/
structure Lively (f : GFrame) (v : GLives) (w : GWear) : Prop where
  fin : FIn f
  ok : WOk f w
  p1 : 1 ≤ v.fPin
  p2 : v.fPin ≤ 1000000
  h2 : v.fHammer ≤ 1000000
  pl : w.fPins.length ≤ 2304
  c : ∀ t, t < f.fHammers.length → (cnt w.fPins t : Int) ≤ v.fHammer
theorem after_len (f : GFrame) (v : GLives) (w : GWear) (n : Nat) (h : AfterOk f v w n) : (afterW f v w n).fPins.length = w.fPins.length := by rw [h.pins]; simp
theorem stroke_lt {f : GFrame} {w : GWear} (h : WOk f w) {t : Nat} (ht : t < f.fHammers.length) : ∃ hl : t < w.fStrokes.length, stroke w t = w.fStrokes[t] := by
  have hl : t < w.fStrokes.length := by rw [h.sl]; exact ht
  exact ⟨hl, by unfold stroke; rw [List.getElem?_eq_getElem hl, Option.getD_some]⟩
/-- one round: what is worn is made new -/
theorem renew_all {f : GFrame} {v : GLives} {w : GWear} (g : Lively f v w) {n : Nat} (h : AfterOk f v w n) (c d : Int) (hc : 0 ≤ c ∧ c ≤ 1000000000) (hd : 0 ≤ d ∧ d ≤ 1000000000) (t : (List GWornPin) × (List Int) × Int) (h1 : t.1 = wornPins (turnV (afterW f v w n) 1) v) (h2 : t.2.1 = wornHams f.fHammers.length (turnV (afterW f v w n) 1) v) :
    loop (laws_FnParts.l_67 f t) ((afterW f v w n).fPins, (afterW f v w n).fStrokes, c, 0) = some (.inr ((renewed f v (afterW f v w n)).fPins, (afterW f v w n).fStrokes, c + ((afterW f v w n).fPins.filter (wornW v)).length)) ∧
    loop (laws_FnParts.l_53 f t) ((renewed f v (afterW f v w n)).fPins, (afterW f v w n).fStrokes, d, 0) = some (.inr ((renewed f v (afterW f v w n)).fPins, (renewed f v (afterW f v w n)).fStrokes, d + ((List.range f.fHammers.length).filter (hamW v (afterW f v w n))).length)) ∧
    WOk f (renewed f v (afterW f v w n)) := by
  have hl := after_len f v w n h
  have hpl := g.pl
  have hh1 := g.ok.fr.h1
  have hsl := h.ok.sl
  obtain ⟨a1, a2⟩ := pins_renewed h.ok (by omega) (by omega) (by omega) c hc t h1
  obtain ⟨b1, b2⟩ := hams_renewed h.ok a2 (by rw [rnP_len]; omega) d hd t h2
  exact ⟨a1, b1, b2⟩
theorem after_ok {f : GFrame} {v : GLives} {w : GWear} (g : Lively f v w) : ∀ n : Nat, AfterOk f v w n := by
  intro n
  induction n with
  | zero =>
    refine ⟨g.ok, ?_, fun t _ => rfl⟩
    show w.fPins = _
    apply List.ext_getElem?
    intro i
    rw [List.getElem?_map]
    cases w.fPins[i]? <;> rfl
  | succ n ih =>
    have hl := after_len f v w n ih
    have hpl := g.pl
    have hh1 := g.ok.fr.h1
    obtain ⟨_, _, r⟩ := renew_all g ih 0 0 (by omega) (by omega) (wornPins (turnV (afterW f v w n) 1) v, wornHams f.fHammers.length (turnV (afterW f v w n) 1) v, 0) rfl rfl
    obtain ⟨t1, t2⟩ := round_ok g.fin ih.ok (by omega) ⟨g.p1, g.p2⟩ g.h2 (fun t ht => by rw [after_cnt ih]; exact g.c t ht) r
    refine ⟨t2, ?_, fun t ht => ?_⟩
    · apply List.ext_getElem?
      intro i
      rw [List.getElem?_map]
      by_cases hi : i < w.fPins.length
      · rw [after_pin f v w (n + 1) i hi, List.getElem?_eq_getElem hi]; rfl
      · have e : (afterW f v w (n + 1)).fPins.length = w.fPins.length := by
          show (roundW f v (afterW f v w n)).fPins.length = _
          simp [roundW, turnV, renewed, rnP]; exact hl
        rw [List.getElem?_eq_none (by omega), List.getElem?_eq_none (by omega)]; rfl
    · obtain ⟨q1, q2⟩ := stroke_lt ih.ok ht
      have e := round_stroke (v := v) ih.ok t q1
      have es := ih.str t ht
      show stroke (roundW f v (afterW f v w n)) t = _
      have e0 : stroke (roundW f v (afterW f v w n)) t = (if (afterW f v w n).fStrokes[t] + (cnt (afterW f v w n).fPins t : Int) > v.fHammer then 0 else (afterW f v w n).fStrokes[t]) + (cnt (afterW f v w n).fPins t : Int) := by
        unfold stroke; rw [e, Option.getD_some]
      rw [e0, ← q2, es, after_cnt ih]
      simp only [simR]
      by_cases c : (simR (cnt w.fPins t) v.fHammer n (stroke w t)).1 + (cnt w.fPins t : Int) > v.fHammer
      · rw [if_pos c, if_pos c]; simp
      · rw [if_neg c, if_neg c]
def usedP (v : GLives) (w : GWear) (n : Nat) : Int := (w.fPins.map fun p => (simR 1 v.fPin n p.fTurns).2).sum
def usedH (f : GFrame) (v : GLives) (w : GWear) (n : Nat) : Int := ((List.range f.fHammers.length).map fun t => (simR (cnt w.fPins t) v.fHammer n (stroke w t)).2).sum
theorem sum_zero {A : Type} (l : List A) (f : A → Int) (h : ∀ x ∈ l, f x = 0) : (l.map f).sum = 0 := by
  induction l with
  | nil => rfl
  | cons x l ih => rw [List.map_cons, List.sum_cons, h x (by simp), ih (fun y hy => h y (by simp [hy]))]; rfl
theorem usedP_zero (v : GLives) (w : GWear) : usedP v w 0 = 0 := sum_zero _ _ fun _ _ => rfl
theorem usedH_zero (f : GFrame) (v : GLives) (w : GWear) : usedH f v w 0 = 0 := sum_zero _ _ fun _ _ => rfl
theorem usedP_succ {f : GFrame} {v : GLives} {w : GWear} {n : Nat} (h : AfterOk f v w n) : usedP v w (n + 1) = usedP v w n + ((afterW f v w n).fPins.filter (wornW v)).length := by
  rw [h.pins, filter_sum]
  unfold usedP
  rw [← sum_add]
  congr 1
  refine List.map_congr_left fun p _ => ?_
  rw [simR_snd]
  congr 1
  unfold wornW
  simp only [decide_eq_true_eq]
theorem usedH_succ {f : GFrame} {v : GLives} {w : GWear} {n : Nat} (h : AfterOk f v w n) : usedH f v w (n + 1) = usedH f v w n + ((List.range f.fHammers.length).filter (hamW v (afterW f v w n))).length := by
  have e := filter_sum id (hamW v (afterW f v w n)) (List.range f.fHammers.length)
  rw [List.map_id] at e
  rw [e]
  unfold usedH
  rw [← sum_add]
  congr 1
  refine List.map_congr_left fun t ht => ?_
  rw [List.mem_range] at ht
  rw [simR_snd]
  congr 1
  unfold hamW
  rw [id, h.str t ht, after_cnt h]
  simp only [decide_eq_true_eq]
theorem used_bd {f : GFrame} {v : GLives} {w : GWear} (g : Lively f v w) : ∀ n : Nat, 0 ≤ usedP v w n ∧ usedP v w n ≤ 2304 * n ∧ 0 ≤ usedH f v w n ∧ usedH f v w n ≤ 2304 * n := by
  intro n
  induction n with
  | zero => rw [usedP_zero, usedH_zero]; omega
  | succ n ih =>
    have h := after_ok g n
    have hl := after_len f v w n h
    have hpl := g.pl
    have hh1 := g.ok.fr.h1
    have h1 := List.length_filter_le (wornW v) (afterW f v w n).fPins
    have h2 := List.length_filter_le (hamW v (afterW f v w n)) (List.range f.fHammers.length)
    rw [List.length_range] at h2
    rw [usedP_succ h, usedH_succ h]
    omega
theorem usedP_sum {f : GFrame} {v : GLives} {w : GWear} (g : Lively f v w) (hw : ∀ p ∈ w.fPins, p.fTurns ≤ v.fPin) (n : Nat) : usedP v w n = sumT n (pinL w v) := by
  unfold usedP sumT pinL
  rw [List.map_map]
  congr 1
  refine List.map_congr_left fun p hp => ?_
  have := g.ok.pl p hp
  have hv := g.p1
  have hp2 := hw p hp
  exact (sim_timesV (p := pinPart v p) (by simp only [pinPart]; omega) hp2 (by simp only [pinPart]; omega) (by simp only [pinPart]; omega) n).1
theorem usedH_sum {f : GFrame} {v : GLives} {w : GWear} (g : Lively f v w) (hw : ∀ t, t < f.fHammers.length → stroke w t ≤ v.fHammer) (n : Nat) : usedH f v w n = sumT n (hamL f w v) := by
  unfold usedH sumT hamL
  rw [List.map_map]
  congr 1
  refine List.map_congr_left fun t ht => ?_
  rw [List.mem_range] at ht
  have := (stroke_ix g.ok ht).2
  exact (sim_timesV (p := hamPart w v t) (by simp only [hamPart]; omega) (hw t ht) (by simp only [hamPart]; omega) (g.c t ht) n).1
/-- behind the rounds nothing is worn out -/
theorem after_whole {f : GFrame} {v : GLives} {w : GWear} (g : Lively f v w) (hw : ∀ p ∈ w.fPins, p.fTurns ≤ v.fPin) (hs : ∀ t, t < f.fHammers.length → stroke w t ≤ v.fHammer) (n : Nat) : wornPins (afterW f v w n) v = [] ∧ wornHams f.fHammers.length (afterW f v w n) v = [] := by
  have h := after_ok g n
  constructor
  · unfold wornPins
    rw [h.pins, List.filter_eq_nil_iff]
    intro q hq hc
    obtain ⟨p, hp, rfl⟩ := List.mem_map.1 hq
    have := g.ok.pl p hp
    have hv := g.p1
    have hp2 := hw p hp
    have := (sim_timesV (p := pinPart v p) (by simp only [pinPart]; omega) hp2 (by simp only [pinPart]; omega) (by simp only [pinPart]; omega) n).2.2
    simp only [pinPart] at this
    have hc' : (simR 1 v.fPin n p.fTurns).1 > v.fPin := of_decide_eq_true hc
    omega
  · unfold wornHams
    rw [List.map_eq_nil_iff, List.filter_eq_nil_iff]
    intro t ht hc
    rw [List.mem_range] at ht
    have := (stroke_ix g.ok ht).2
    have := (sim_timesV (p := hamPart w v t) (by simp only [hamPart]; omega) (hs t ht) (by simp only [hamPart]; omega) (g.c t ht) n).2.2
    simp only [hamPart] at this
    have hc' : stroke (afterW f v w n) t > v.fHammer := of_decide_eq_true hc
    rw [h.str t ht] at hc'
    omega

end Go.Proofs.YtfkjghkjimcmdaaGreat
