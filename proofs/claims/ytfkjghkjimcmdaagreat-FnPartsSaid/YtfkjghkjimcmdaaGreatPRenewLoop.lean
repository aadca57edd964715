/- All worn pins made new, and all worn hammers: the loops of the law of parts. -/
import Derived.Test.YtfkjghkjimcmdaaGreatM2
import Derived.Test.YtfkjghkjimcmdaaGreatM3
import Derived.Test.YtfkjghkjimcmdaaGreatPFrame
import Derived.Test.YtfkjghkjimcmdaaGreatPDrum
import Derived.Test.YtfkjghkjimcmdaaGreatPCodes
import Derived.Test.YtfkjghkjimcmdaaGreatPWear
import Derived.Test.YtfkjghkjimcmdaaGreatPPut
import Derived.Test.YtfkjghkjimcmdaaGreatPWDrum
import Derived.Test.YtfkjghkjimcmdaaGreatPEach
import Derived.Test.YtfkjghkjimcmdaaGreatPParts
import Derived.Test.YtfkjghkjimcmdaaGreatPOwn
import Derived.Test.YtfkjghkjimcmdaaGreatPWPlace
import Derived.Test.YtfkjghkjimcmdaaGreatPPinAt
import Derived.Test.YtfkjghkjimcmdaaGreatPRenew
import Derived.Test.YtfkjghkjimcmdaaGreatPTurned
import Derived.Test.YtfkjghkjimcmdaaGreatPTurnVal
import Derived.Test.YtfkjghkjimcmdaaGreatPure
namespace Go.Proofs.YtfkjghkjimcmdaaGreat
open Eng
set_option linter.unusedVariables false
set_option linter.unusedSimpArgs false

def zeroP (p : GWornPin) : GWornPin := ⟨p.fStep, p.fTrack, 0⟩
/-- the pins, those below k that are worn with one turn more made new -/
def rnP (v : GLives) (ps : List GWornPin) (k : Nat) : List GWornPin := ps.mapIdx fun i p => if i < k ∧ p.fTurns + 1 > v.fPin then zeroP p else p
theorem rnP_len (v : GLives) (ps : List GWornPin) (k : Nat) : (rnP v ps k).length = ps.length := by simp [rnP]
theorem rnP_get (v : GLives) (ps : List GWornPin) (k i : Nat) (hi : i < ps.length) : (rnP v ps k)[i]? = some (if i < k ∧ ps[i].fTurns + 1 > v.fPin then zeroP ps[i] else ps[i]) := by
  unfold rnP
  rw [List.getElem?_mapIdx, List.getElem?_eq_getElem hi]; rfl
theorem rnP_skip {v : GLives} {ps : List GWornPin} {k : Nat} (hk : k < ps.length) (h : ¬ ps[k].fTurns + 1 > v.fPin) : rnP v ps (k + 1) = rnP v ps k := by
  apply List.ext_getElem?
  intro i
  by_cases hi : i < ps.length
  · rw [rnP_get _ _ _ _ hi, rnP_get _ _ _ _ hi]
    by_cases e : i = k
    · subst e; rw [if_neg (fun hh => h hh.2), if_neg (fun hh => h hh.2)]
    · by_cases hlt : i < k
      · by_cases hw : ps[i].fTurns + 1 > v.fPin
        · rw [if_pos ⟨by omega, hw⟩, if_pos ⟨hlt, hw⟩]
        · rw [if_neg (fun hh => hw hh.2), if_neg (fun hh => hw hh.2)]
      · rw [if_neg (fun hh => absurd hh.1 (by omega)), if_neg (fun hh => hlt hh.1)]
  · rw [List.getElem?_eq_none (by rw [rnP_len]; omega), List.getElem?_eq_none (by rw [rnP_len]; omega)]
theorem rnP_set {v : GLives} {ps : List GWornPin} {k : Nat} (hk : k < ps.length) (h : ps[k].fTurns + 1 > v.fPin) : (rnP v ps k).set k (zeroP ps[k]) = rnP v ps (k + 1) := by
  apply List.ext_getElem?
  intro i
  rw [List.getElem?_set, rnP_len]
  by_cases hi : i < ps.length
  · rw [rnP_get _ _ _ _ hi, rnP_get _ _ _ _ hi]
    by_cases e : k = i
    · subst e; rw [if_pos rfl, if_pos hk, if_pos ⟨by omega, h⟩]
    · rw [if_neg e]
      by_cases hlt : i < k
      · by_cases hw : ps[i].fTurns + 1 > v.fPin
        · rw [if_pos ⟨hlt, hw⟩, if_pos ⟨by omega, hw⟩]
        · rw [if_neg (fun hh => hw hh.2), if_neg (fun hh => hw hh.2)]
      · rw [if_neg (fun hh => hlt hh.1), if_neg (fun hh => absurd hh.1 (by omega))]
  · rw [List.getElem?_eq_none (by rw [rnP_len]; omega), List.getElem?_eq_none (by rw [rnP_len]; omega), if_neg (by omega)]
theorem rnP_zero (v : GLives) (ps : List GWornPin) : rnP v ps 0 = ps := by
  apply List.ext_getElem?
  intro i
  by_cases hi : i < ps.length
  · rw [rnP_get _ _ _ _ hi, if_neg (fun hh => absurd hh.1 (by omega)), List.getElem?_eq_getElem hi]
  · rw [List.getElem?_eq_none (by rw [rnP_len]; omega), List.getElem?_eq_none (by omega)]
/-- one pin more -/
theorem rnP_step {f : GFrame} {w : GWear} {v : GLives} (h : WOk f w) {k : Nat} (hk : k < w.fPins.length) (hok : WOk f ⟨rnP v w.fPins k, w.fStrokes⟩) (hp : w.fPins.length ≤ 1048576) (hs : w.fStrokes.length ≤ 1048576) (hf : f.fHammers.length ≤ 1048576) (hw : w.fPins[k].fTurns + 1 > v.fPin) :
    impl_NewPin f ⟨rnP v w.fPins k, w.fStrokes⟩ w.fPins[k].fStep w.fPins[k].fTrack = some (⟨rnP v w.fPins (k + 1), w.fStrokes⟩, 0) ∧ WOk f ⟨rnP v w.fPins (k + 1), w.fStrokes⟩ := by
  have hk2 : k < (rnP v w.fPins k).length := by rw [rnP_len]; exact hk
  have eg : (rnP v w.fPins k)[k] = w.fPins[k] := by
    have := rnP_get v w.fPins k k hk
    rw [List.getElem?_eq_getElem hk2, if_neg (fun hh => absurd hh.1 (by omega))] at this
    exact Option.some.inj this
  have h1 := newPin_val hok hf (by simp only [rnP_len]; exact hp) hs hk2
  have h2 := set_pin_wok hok hk2
  simp only [eg] at h1 h2
  have e := rnP_set (v := v) hk hw
  unfold zeroP at e
  rw [e] at h1 h2
  exact ⟨h1, h2⟩
/-! ### the loop over the worn pins -/
def wornW (v : GLives) (p : GWornPin) : Bool := decide (p.fTurns + 1 > v.fPin)
theorem next_worn {v : GLives} {ps : List GWornPin} : ∀ (d k : Nat), k + d = ps.length → ((ps.take k).filter (wornW v)).length < (ps.filter (wornW v)).length →
    ∃ k', ∃ hk' : k' < ps.length, ps[k'].fTurns + 1 > v.fPin ∧ ((ps.take k').filter (wornW v)).length = ((ps.take k).filter (wornW v)).length ∧ rnP v ps k' = rnP v ps k := by
  intro d
  induction d with
  | zero =>
    intro k hk h
    rw [List.take_of_length_le (by omega)] at h
    omega
  | succ d ih =>
    intro k hk h
    have hk' : k < ps.length := by omega
    by_cases c : ps[k].fTurns + 1 > v.fPin
    · exact ⟨k, hk', c, rfl, rfl⟩
    · have e : ((ps.take (k + 1)).filter (wornW v)).length = ((ps.take k).filter (wornW v)).length := by
        rw [List.take_succ_eq_append_getElem hk', List.filter_append]
        have : wornW v ps[k] = false := by unfold wornW; simpa using c
        simp [this]
      obtain ⟨k', h1, h2, h3, h4⟩ := ih (k + 1) (by omega) (by rw [e]; exact h)
      exact ⟨k', h1, h2, h3.trans e, h4.trans (rnP_skip hk' c)⟩
theorem worn_get {v : GLives} {ps : List GWornPin} {k j : Nat} (hk : k < ps.length) (hw : ps[k].fTurns + 1 > v.fPin) (hj : ((ps.take k).filter (wornW v)).length = j) : (ps.filter (wornW v))[j]? = some ps[k] ∧ ((ps.take (k + 1)).filter (wornW v)).length = j + 1 := by
  have hwk : wornW v ps[k] = true := by unfold wornW; simpa using hw
  constructor
  · have e : ps.filter (wornW v) = (ps.take k).filter (wornW v) ++ ps[k] :: (ps.drop (k + 1)).filter (wornW v) := by
      conv => lhs; rw [← List.take_append_drop k ps, List.filter_append, List.drop_eq_getElem_cons hk, List.filter_cons, if_pos hwk]
    rw [e, List.getElem?_append_right (by omega), hj]
    simp
  · rw [List.take_succ_eq_append_getElem hk, List.filter_append, List.length_append, hj]
    simp [hwk]
theorem wornPins_turn (w : GWear) (v : GLives) : wornPins (turnV w 1) v = (w.fPins.filter (wornW v)).map (tp 1) := by
  have : (turnV w 1).fPins = w.fPins.map (tp 1) := by
    unfold turnV
    apply List.ext_getElem?
    intro i
    simp only [List.getElem?_map, List.getElem?_mapIdx]
  unfold wornPins
  rw [this, List.filter_map]
  rfl
theorem pins_renewed {f : GFrame} {w : GWear} {v : GLives} (h : WOk f w) (hp : w.fPins.length ≤ 1048576) (hs : w.fStrokes.length ≤ 1048576) (hf : f.fHammers.length ≤ 1048576) (c : Int) (hc : 0 ≤ c ∧ c ≤ 1000000000) (t : (List GWornPin) × (List Int) × Int) (ht : t.1 = wornPins (turnV w 1) v) :
    loop (laws_FnParts.l_67 f t) (w.fPins, w.fStrokes, c, 0) = some (.inr (rnP v w.fPins w.fPins.length, w.fStrokes, c + (w.fPins.filter (wornW v)).length)) ∧ WOk f ⟨rnP v w.fPins w.fPins.length, w.fStrokes⟩ := by
  have hl1 := List.length_filter_le (wornW v) w.fPins
  have hlen : t.1.length = (w.fPins.filter (wornW v)).length := by rw [ht, wornPins_turn, List.length_map]
  obtain ⟨r, hr, rfl, hok⟩ := loop_inv (f := laws_FnParts.l_67 f t) (fun st => ∃ k j : Nat, k ≤ w.fPins.length ∧ ((w.fPins.take k).filter (wornW v)).length = j ∧ st = (rnP v w.fPins k, w.fStrokes, c + j, (j : Int)) ∧ WOk f ⟨rnP v w.fPins k, w.fStrokes⟩) (fun st => (w.fPins.filter (wornW v)).length - st.2.2.2.toNat)
    (fun r => r = .inr (rnP v w.fPins w.fPins.length, w.fStrokes, c + (w.fPins.filter (wornW v)).length) ∧ WOk f ⟨rnP v w.fPins w.fPins.length, w.fStrokes⟩) (by
    rintro _ ⟨k, j, hk, hj, rfl, hok⟩
    by_cases hlt : j < (w.fPins.filter (wornW v)).length
    · left
      obtain ⟨k', hk', hw, h3, h4⟩ := next_worn (v := v) (ps := w.fPins) (w.fPins.length - k) k (by omega) (by omega)
      rw [hj] at h3
      obtain ⟨g1, g2⟩ := worn_get hk' hw h3
      rw [← h4] at hok ⊢
      obtain ⟨n1, n2⟩ := rnP_step h hk' hok hp hs hf hw
      have hx : ix t.1 (j : Int) = some (tp 1 w.fPins[k']) := ix_get (by rw [ht, wornPins_turn, List.getElem?_map, g1]; rfl)
      have hpk := h.pl _ (List.getElem_mem hk')
      have hs1 := h.fr.s1; have hh1 := h.fr.h1
      simp only [laws_FnParts.l_67, hlen, hx, Option.bind_some, tp]
      rw [if_pos (by simpa using hlt), w64_in (n := w.fPins[k'].fStep) (by omega) (by omega), w64_in (n := w.fPins[k'].fTrack) (by omega) (by omega), n1]
      simp only [Option.bind_some, laws_FnParts.k_72, bne_self_eq_false, Bool.false_eq_true, if_false]
      rw [w64_in (n := c + (j : Int) + 1) (by omega) (by omega), w64_in (n := (j : Int) + 1) (by omega) (by omega)]
      refine ⟨_, rfl, ⟨k' + 1, j + 1, by omega, g2, ?_, n2⟩, by simp only; omega⟩
      congr 3
      omega
    · right
      have hj2 : j = (w.fPins.filter (wornW v)).length := by
        have : ((w.fPins.take k).filter (wornW v)).length ≤ (w.fPins.filter (wornW v)).length := ((List.take_sublist k w.fPins).filter _).length_le
        omega
      have hrest : ∀ d k, k + d = w.fPins.length → ((w.fPins.take k).filter (wornW v)).length = (w.fPins.filter (wornW v)).length → rnP v w.fPins k = rnP v w.fPins w.fPins.length := by
        intro d
        induction d with
        | zero => intro k hk _; rw [show k = w.fPins.length by omega]
        | succ d ih =>
          intro k hk he
          have hk' : k < w.fPins.length := by omega
          by_cases cw : w.fPins[k].fTurns + 1 > v.fPin
          · have g := (worn_get hk' cw rfl).2
            have : ((w.fPins.take (k + 1)).filter (wornW v)).length ≤ (w.fPins.filter (wornW v)).length := ((List.take_sublist (k + 1) w.fPins).filter _).length_le
            omega
          · rw [← rnP_skip hk' cw]
            refine ih (k + 1) (by omega) ?_
            rw [List.take_succ_eq_append_getElem hk', List.filter_append]
            have : wornW v w.fPins[k] = false := by unfold wornW; simpa using cw
            simp [this, he]
      have e := hrest (w.fPins.length - k) k (by omega) (by omega)
      rw [e] at hok ⊢
      simp only [laws_FnParts.l_67, hlen]
      rw [if_neg (by simpa using hlt)]
      exact ⟨_, rfl, by rw [hj2], hok⟩) (w.fPins, w.fStrokes, c, 0) ⟨0, 0, by omega, by simp, by rw [rnP_zero]; simp, by rw [rnP_zero]; exact h⟩
  exact ⟨hr, hok⟩
/-! ### the worn hammers -/
def rnS (v : GLives) (w : GWear) (k : Nat) : List Int := w.fStrokes.mapIdx fun i x => if i < k ∧ x + cnt w.fPins i > v.fHammer then 0 else x
theorem rnS_len (v : GLives) (w : GWear) (k : Nat) : (rnS v w k).length = w.fStrokes.length := by simp [rnS]
theorem rnS_get (v : GLives) (w : GWear) (k i : Nat) (hi : i < w.fStrokes.length) : (rnS v w k)[i]? = some (if i < k ∧ w.fStrokes[i] + cnt w.fPins i > v.fHammer then 0 else w.fStrokes[i]) := by
  unfold rnS
  rw [List.getElem?_mapIdx, List.getElem?_eq_getElem hi]; rfl
theorem rnS_skip {v : GLives} {w : GWear} {k : Nat} (hk : k < w.fStrokes.length) (h : ¬ w.fStrokes[k] + cnt w.fPins k > v.fHammer) : rnS v w (k + 1) = rnS v w k := by
  apply List.ext_getElem?
  intro i
  by_cases hi : i < w.fStrokes.length
  · rw [rnS_get _ _ _ _ hi, rnS_get _ _ _ _ hi]
    by_cases e : i = k
    · subst e; rw [if_neg (fun hh => h hh.2), if_neg (fun hh => h hh.2)]
    · by_cases hlt : i < k
      · by_cases hw : w.fStrokes[i] + cnt w.fPins i > v.fHammer
        · rw [if_pos ⟨by omega, hw⟩, if_pos ⟨hlt, hw⟩]
        · rw [if_neg (fun hh => hw hh.2), if_neg (fun hh => hw hh.2)]
      · rw [if_neg (fun hh => absurd hh.1 (by omega)), if_neg (fun hh => hlt hh.1)]
  · rw [List.getElem?_eq_none (by rw [rnS_len]; omega), List.getElem?_eq_none (by rw [rnS_len]; omega)]
theorem rnS_set {v : GLives} {w : GWear} {k : Nat} (hk : k < w.fStrokes.length) (h : w.fStrokes[k] + cnt w.fPins k > v.fHammer) : (rnS v w k).set k 0 = rnS v w (k + 1) := by
  apply List.ext_getElem?
  intro i
  rw [List.getElem?_set, rnS_len]
  by_cases hi : i < w.fStrokes.length
  · rw [rnS_get _ _ _ _ hi, rnS_get _ _ _ _ hi]
    by_cases e : k = i
    · subst e; rw [if_pos rfl, if_pos hk, if_pos ⟨by omega, h⟩]
    · rw [if_neg e]
      by_cases hlt : i < k
      · by_cases hw : w.fStrokes[i] + cnt w.fPins i > v.fHammer
        · rw [if_pos ⟨hlt, hw⟩, if_pos ⟨by omega, hw⟩]
        · rw [if_neg (fun hh => hw hh.2), if_neg (fun hh => hw hh.2)]
      · rw [if_neg (fun hh => hlt hh.1), if_neg (fun hh => absurd hh.1 (by omega))]
  · rw [List.getElem?_eq_none (by rw [rnS_len]; omega), List.getElem?_eq_none (by rw [rnS_len]; omega), if_neg (by omega)]
theorem rnS_zero (v : GLives) (w : GWear) : rnS v w 0 = w.fStrokes := by
  apply List.ext_getElem?
  intro i
  by_cases hi : i < w.fStrokes.length
  · rw [rnS_get _ _ _ _ hi, if_neg (fun hh => absurd hh.1 (by omega)), List.getElem?_eq_getElem hi]
  · rw [List.getElem?_eq_none (by rw [rnS_len]; omega), List.getElem?_eq_none (by omega)]
theorem rnS_step {f : GFrame} {w : GWear} {v : GLives} {ps : List GWornPin} {k : Nat} (hkf : k < f.fHammers.length) (hk : k < w.fStrokes.length) (hok : WOk f ⟨ps, rnS v w k⟩) (hp : ps.length ≤ 1048576) (hs : w.fStrokes.length ≤ 1048576) (hf : f.fHammers.length ≤ 1048576) (hw : w.fStrokes[k] + cnt w.fPins k > v.fHammer) :
    impl_NewHammer f ⟨ps, rnS v w k⟩ (k : Int) = some (⟨ps, rnS v w (k + 1)⟩, 0) ∧ WOk f ⟨ps, rnS v w (k + 1)⟩ := by
  have h1 := newHammer_val hok hf hp (by simp only [rnS_len]; exact hs) hkf
  have h2 := set_stroke_wok hok k
  simp only at h1 h2
  rw [rnS_set hk hw] at h1 h2
  exact ⟨h1, h2⟩
theorem next_n {P : Nat → Bool} {n : Nat} {S : Type} (g : Nat → S) (hg : ∀ k, k < n → P k = false → g (k + 1) = g k) : ∀ (d k : Nat), k + d = n → ((List.range k).filter P).length < ((List.range n).filter P).length →
    ∃ k', k' < n ∧ P k' = true ∧ ((List.range k').filter P).length = ((List.range k).filter P).length ∧ g k' = g k := by
  intro d
  induction d with
  | zero =>
    intro k hk h
    rw [show k = n by omega] at h
    omega
  | succ d ih =>
    intro k hk h
    by_cases c : P k = true
    · exact ⟨k, by omega, c, rfl, rfl⟩
    · have c' : P k = false := by simpa using c
      have e : ((List.range (k + 1)).filter P).length = ((List.range k).filter P).length := by
        rw [List.range_succ, List.filter_append]; simp [c']
      obtain ⟨k', h1, h2, h3, h4⟩ := ih (k + 1) (by omega) (by rw [e]; exact h)
      exact ⟨k', h1, h2, h3.trans e, h4.trans (hg k (by omega) c')⟩
theorem get_n {P : Nat → Bool} {n k j : Nat} (hk : k < n) (hw : P k = true) (hj : ((List.range k).filter P).length = j) : ((List.range n).filter P)[j]? = some k ∧ ((List.range (k + 1)).filter P).length = j + 1 := by
  constructor
  · have hkl : k < (List.range n).length := by simpa using hk
    have e : (List.range n).filter P = (List.range k).filter P ++ k :: ((List.range n).drop (k + 1)).filter P := by
      conv => lhs; rw [← List.take_append_drop k (List.range n), List.filter_append, List.drop_eq_getElem_cons hkl, List.getElem_range, List.filter_cons, if_pos hw]
      rw [List.take_range, Nat.min_eq_left (by omega)]
    rw [e, List.getElem?_append_right (by omega), hj]
    simp
  · rw [List.range_succ, List.filter_append, List.length_append, hj]
    simp [hw]
def hamW (v : GLives) (w : GWear) (t : Nat) : Bool := decide (stroke w t + cnt w.fPins t > v.fHammer)
theorem wornHams_turn {f : GFrame} {w : GWear} (h : WOk f w) (v : GLives) : wornHams f.fHammers.length (turnV w 1) v = ((List.range f.fHammers.length).filter (hamW v w)).map fun t : Nat => (t : Int) := by
  unfold wornHams
  congr 1
  refine List.filter_congr fun t ht => ?_
  rw [List.mem_range] at ht
  have hl : t < w.fStrokes.length := by rw [h.sl]; exact ht
  have : stroke (turnV w 1) t = stroke w t + cnt w.fPins t := by
    unfold stroke turnV
    simp only [List.getElem?_mapIdx, List.getElem?_eq_getElem hl, Option.map_some, Option.getD_some, gS, Int.mul_one]
  rw [this]
  rfl
theorem hams_renewed {f : GFrame} {w : GWear} {v : GLives} {ps : List GWornPin} (h : WOk f w) (hok0 : WOk f ⟨ps, w.fStrokes⟩) (hp : ps.length ≤ 1048576) (c : Int) (hc : 0 ≤ c ∧ c ≤ 1000000000) (t : (List GWornPin) × (List Int) × Int) (ht : t.2.1 = wornHams f.fHammers.length (turnV w 1) v) :
    loop (laws_FnParts.l_53 f t) (ps, w.fStrokes, c, 0) = some (.inr (ps, rnS v w f.fHammers.length, c + ((List.range f.fHammers.length).filter (hamW v w)).length)) ∧ WOk f ⟨ps, rnS v w f.fHammers.length⟩ := by
  have hh1 := h.fr.h1
  have hsl := h.sl
  have hl1 := List.length_filter_le (hamW v w) (List.range f.fHammers.length)
  rw [List.length_range] at hl1
  have hlen : t.2.1.length = ((List.range f.fHammers.length).filter (hamW v w)).length := by rw [ht, wornHams_turn h, List.length_map]
  have hstr : ∀ k, (hk : k < w.fStrokes.length) → stroke w k = w.fStrokes[k] := fun k hk => by unfold stroke; rw [List.getElem?_eq_getElem hk]; rfl
  have hskip : ∀ k, k < f.fHammers.length → hamW v w k = false → rnS v w (k + 1) = rnS v w k := fun k hk hf => by
    have hk2 : k < w.fStrokes.length := by omega
    refine rnS_skip hk2 fun hh => ?_
    unfold hamW at hf
    rw [hstr k hk2] at hf
    have := of_decide_eq_false hf
    omega
  obtain ⟨r, hr, rfl, hok⟩ := loop_inv (f := laws_FnParts.l_53 f t) (fun st => ∃ k j : Nat, k ≤ f.fHammers.length ∧ ((List.range k).filter (hamW v w)).length = j ∧ st = (ps, rnS v w k, c + j, (j : Int)) ∧ WOk f ⟨ps, rnS v w k⟩) (fun st => ((List.range f.fHammers.length).filter (hamW v w)).length - st.2.2.2.toNat)
    (fun r => r = .inr (ps, rnS v w f.fHammers.length, c + ((List.range f.fHammers.length).filter (hamW v w)).length) ∧ WOk f ⟨ps, rnS v w f.fHammers.length⟩) (by
    rintro _ ⟨k, j, hk, hj, rfl, hok⟩
    by_cases hlt : j < ((List.range f.fHammers.length).filter (hamW v w)).length
    · left
      obtain ⟨k', hk', hw, h3, h4⟩ := next_n (P := hamW v w) (n := f.fHammers.length) (rnS v w) hskip (f.fHammers.length - k) k (by omega) (by omega)
      rw [hj] at h3
      obtain ⟨g1, g2⟩ := get_n (P := hamW v w) hk' hw h3
      rw [← h4] at hok ⊢
      have hk2 : k' < w.fStrokes.length := by omega
      have hw2 : w.fStrokes[k'] + cnt w.fPins k' > v.fHammer := by
        unfold hamW at hw
        rw [hstr k' hk2] at hw
        exact of_decide_eq_true hw
      obtain ⟨n1, n2⟩ := rnS_step hk' hk2 hok hp (by omega) (by omega) hw2
      have hx : ix t.2.1 (j : Int) = some (k' : Int) := ix_get (by rw [ht, wornHams_turn h, List.getElem?_map, g1]; rfl)
      simp only [laws_FnParts.l_53, hlen, hx, Option.bind_some]
      rw [if_pos (by simpa using hlt), n1]
      simp only [Option.bind_some, laws_FnParts.k_58, bne_self_eq_false, Bool.false_eq_true, if_false]
      rw [w64_in (n := c + (j : Int) + 1) (by omega) (by omega), w64_in (n := (j : Int) + 1) (by omega) (by omega)]
      refine ⟨_, rfl, ⟨k' + 1, j + 1, by omega, g2, ?_, n2⟩, by simp only; omega⟩
      congr 3
      omega
    · right
      have hrest : ∀ d k, k + d = f.fHammers.length → ((List.range k).filter (hamW v w)).length ≥ ((List.range f.fHammers.length).filter (hamW v w)).length → rnS v w k = rnS v w f.fHammers.length ∧ ((List.range k).filter (hamW v w)).length = ((List.range f.fHammers.length).filter (hamW v w)).length := by
        intro d
        induction d with
        | zero => intro k hk _; rw [show k = f.fHammers.length by omega]; exact ⟨rfl, rfl⟩
        | succ d ih =>
          intro k hk he
          by_cases cw : hamW v w k = true
          · exfalso
            have g := (get_n (P := hamW v w) (show k < f.fHammers.length by omega) cw rfl).1
            have : ((List.range k).filter (hamW v w)).length < ((List.range f.fHammers.length).filter (hamW v w)).length := by
              rcases Nat.lt_or_ge ((List.range k).filter (hamW v w)).length ((List.range f.fHammers.length).filter (hamW v w)).length with h' | h'
              · exact h'
              · rw [List.getElem?_eq_none h'] at g; cases g
            omega
          · have cw' : hamW v w k = false := by simpa using cw
            have e : ((List.range (k + 1)).filter (hamW v w)).length = ((List.range k).filter (hamW v w)).length := by
              rw [List.range_succ, List.filter_append]; simp [cw']
            rw [← hskip k (by omega) cw', ← e]
            exact ih (k + 1) (by omega) (by omega)
      obtain ⟨e, e2⟩ := hrest (f.fHammers.length - k) k (by omega) (by omega)
      rw [e] at hok ⊢
      simp only [laws_FnParts.l_53, hlen]
      rw [if_neg (by simpa using hlt)]
      exact ⟨_, rfl, by rw [← hj, e2], hok⟩) (ps, w.fStrokes, c, 0) ⟨0, 0, by omega, by simp, by rw [rnS_zero]; simp, by rw [rnS_zero]; exact hok0⟩
  exact ⟨hr, hok⟩

end Go.Proofs.YtfkjghkjimcmdaaGreat
