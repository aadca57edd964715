/- What the law of worn parts rests on: first worn, turns left, worn out, in numbers. -/
import Derived.Test.YtfkjghkjimcmdaaGreatM2
import Derived.Test.YtfkjghkjimcmdaaGreatPFrame
import Derived.Test.YtfkjghkjimcmdaaGreatPDrum
import Derived.Test.YtfkjghkjimcmdaaGreatPCodes
import Derived.Test.YtfkjghkjimcmdaaGreatPWear
import Derived.Test.YtfkjghkjimcmdaaGreatPPut
import Derived.Test.YtfkjghkjimcmdaaGreatPWDrum
import Derived.Test.YtfkjghkjimcmdaaGreatPEach
import Derived.Test.YtfkjghkjimcmdaaGreatPParts
import Derived.Test.YtfkjghkjimcmdaaGreatPFirst
import Derived.Test.YtfkjghkjimcmdaaGreatPTimes
import Derived.Test.YtfkjghkjimcmdaaGreatPOwn
import Derived.Test.YtfkjghkjimcmdaaGreatPTurned
import Derived.Test.YtfkjghkjimcmdaaGreatPTurnVal
import Derived.Test.YtfkjghkjimcmdaaGreatPFresh
import Derived.Test.YtfkjghkjimcmdaaGreatPFit
import Derived.Test.YtfkjghkjimcmdaaGreatPDraw
import Derived.Test.YtfkjghkjimcmdaaGreatPDrawWear
import Derived.Test.YtfkjghkjimcmdaaGreatPTurnsLeftL
import Derived.Test.YtfkjghkjimcmdaaGreatPFirstWornL
import Derived.Test.YtfkjghkjimcmdaaGreatPWornOutL
import Derived.Test.YtfkjghkjimcmdaaGreatPDrumOfWearL
import Derived.Test.YtfkjghkjimcmdaaGreatPure
namespace Go.Proofs.YtfkjghkjimcmdaaGreat
open Eng
set_option linter.unusedVariables false
set_option linter.unusedSimpArgs false

theorem wornOut_val {f : GFrame} {w : GWear} {v : GLives} (hi : FIn f) (h : WOk f w) (hw : WIn w) (hv : livB v = true) (hf : f.fHammers.length ≤ 1048576) (hp : w.fPins.length ≤ 1048576) (hs : w.fStrokes.length ≤ 1048576) :
    impl_WornOut f w v = some (wornPins w v, wornHams f.fHammers.length w v, 0) := by
  simp only [impl_WornOut, wearCode1 f w hf hp hs v, Option.bind_some, if_pos (And.intro (wearB_of h) hv), parts_is h hp v, implWorn h hp v, impl_WornOut.k_5]
  simp
/-! ### a wear fresh from a drum gives the drum back -/
theorem hasPin_fresh {f : GFrame} (hf : FOk f) {d : Arr 96 Int} (hb : drumB f d = true) (hd : DIn d) (s t : Nat) : hasPin (fpins f d) s t = pin d s t := by
  have hs0 := hf.s0
  rw [Bool.eq_iff_iff]
  unfold hasPin
  rw [List.any_eq_true]
  constructor
  · rintro ⟨p, hp, hq⟩
    obtain ⟨a, b, _, _, rfl, hpin⟩ := fpins_mem hf hp
    simp only [Bool.and_eq_true, decide_eq_true_eq] at hq
    obtain ⟨h1, h2⟩ := hq
    have e1 : a = s := by omega
    have e2 : b = t := by omega
    subst e1 e2; exact hpin
  · intro h
    obtain ⟨h1, h2, _⟩ := drumB_pin hb hd h
    refine ⟨⟨(s : Int), (t : Int), 0⟩, ?_, by simp⟩
    unfold fpins
    refine List.mem_flatMap.2 ⟨s, by rw [List.mem_range]; omega, ?_⟩
    unfold fr
    refine List.mem_flatMap.2 ⟨t, by rw [List.mem_range]; exact h2, ?_⟩
    unfold fp
    rw [if_pos h]; simp
/-! ### turns that are left, and what is worn behind them -/
theorem filter_first {S : Type} (p : S → Bool) : ∀ (l : List S) (k : Nat) (hk : k < l.length), p l[k] = true → (∀ (i : Nat) (h : i < l.length), i < k → p l[i] = false) → ∃ rest, l.filter p = l[k] :: rest := by
  intro l
  induction l with
  | nil => intro k hk; exact absurd hk (by simp)
  | cons x l ih =>
    intro k hk h1 h2
    cases k with
    | zero =>
      have h1' : p x = true := h1
      exact ⟨l.filter p, by rw [List.filter_cons, if_pos h1']; simp⟩
    | succ k =>
      have h0 : p x = false := h2 0 (by simp) (by omega)
      obtain ⟨rest, hr⟩ := ih k (by simpa using hk) h1 (fun i h hik => h2 (i + 1) (by simpa using h) (by omega))
      exact ⟨rest, by rw [List.filter_cons, if_neg (by rw [h0]; simp), hr]; simp⟩
theorem stroke_turn {f : GFrame} {w : GWear} (h : WOk f w) (n : Int) {t : Nat} (ht : t < f.fHammers.length) : stroke (turnV w n) t = stroke w t + cnt w.fPins t * n := by
  have hl : t < w.fStrokes.length := by rw [h.sl]; exact ht
  unfold stroke turnV
  simp only [List.getElem?_mapIdx, List.getElem?_eq_getElem hl, Option.map_some, Option.getD_some, gS]
theorem left_pin {v : GLives} {p : GWornPin} (h0 : 0 ≤ p.fTurns) (h1 : p.fTurns ≤ v.fPin) (h2 : v.fPin ≤ 1000000) : leftV (pinPart v p) = v.fPin - p.fTurns := by
  unfold leftV pinPart
  simp only
  rw [if_neg (by omega), w64_in (n := v.fPin - p.fTurns) (by omega) (by omega), Int.tdiv_one, w64_in (by omega) (by omega), if_neg (by omega)]
theorem left_ham {w : GWear} {v : GLives} {t : Nat} (hc : cnt w.fPins t ≤ 1048576) (h0 : 0 ≤ stroke w t) (h1 : stroke w t ≤ v.fHammer) (h2 : v.fHammer ≤ 1000000) (m : Int) (hm0 : 0 ≤ m) (hm : m < 1000000) : (m ≤ leftV (hamPart w v t) ↔ stroke w t + cnt w.fPins t * m ≤ v.fHammer) := by
  unfold leftV hamPart
  simp only
  by_cases c : (cnt w.fPins t : Int) = 0
  · rw [if_pos c, c]; omega
  · rw [if_neg c]
    have hp : 0 < (cnt w.fPins t : Int) := by omega
    have hd0 : 0 ≤ v.fHammer - stroke w t := by omega
    have hb := tdiv_bd hd0 hp
    rw [w64_in (n := v.fHammer - stroke w t) (by omega) (by omega), w64_in (by omega) (by omega)]
    have key : m ≤ Int.tdiv (v.fHammer - stroke w t) (cnt w.fPins t : Int) ↔ m * (cnt w.fPins t : Int) ≤ v.fHammer - stroke w t := by
      rw [Int.tdiv_eq_ediv_of_nonneg hd0]
      exact Int.le_ediv_iff_mul_le hp
    rw [if_neg (by omega), key, Int.mul_comm]
    omega
theorem strict_le' : ∀ (l : List Int) (a N : Int), l.Pairwise (fun x y => x < y) → (∀ x ∈ l, a ≤ x ∧ x < N) → (l.length : Int) ≤ N - a ∨ l = [] := by
  intro l
  induction l with
  | nil => intro a N _ _; exact .inr rfl
  | cons x l ih =>
    intro a N hp hb
    left
    rw [List.pairwise_cons] at hp
    have hx := hb x (by simp)
    rcases ih (x + 1) N hp.2 (fun y hy => ⟨by have := hp.1 y hy; omega, (hb y (List.mem_cons_of_mem _ hy)).2⟩) with h | h
    · rw [List.length_cons]; omega
    · subst h; simp; omega
theorem pins_le' {f : GFrame} {w : GWear} (h : WOk f w) : w.fPins.length ≤ 2304 := by
  have hs0 := h.fr.s0; have hs1 := h.fr.s1; have hh1 := h.fr.h1
  have h1 : (w.fPins.map fun p => p.fStep * 24 + p.fTrack).Pairwise (fun x y => x < y) := by
    rw [List.pairwise_map]
    refine List.Pairwise.imp_of_mem ?_ h.so
    intro a b ha hb hab
    rw [befB_iff] at hab
    have h1 := h.pl a ha; have h2 := h.pl b hb
    omega
  rcases strict_le' _ 0 2304 h1 (by
    intro x hx
    obtain ⟨p, hp, rfl⟩ := List.mem_map.1 hx
    have := h.pl p hp
    omega) with h2 | h2
  · rw [List.length_map] at h2; omega
  · have := congrArg List.length h2
    rw [List.length_map, List.length_nil] at this; omega
/-- what the law asks behind the turns that are left -/
theorem behind_left {f : GFrame} {w : GWear} {v : GLives} (h : WOk f w) (hsm : smallW w) (hv1 : 12 ≤ v.fPin ∧ v.fPin ≤ 31) (hv2 : 12 ≤ v.fHammer ∧ v.fHammer ≤ 51) (hm : (firstF (partsL f w v)).2 ≠ 1000000) :
    0 ≤ (firstF (partsL f w v)).2 ∧ (firstF (partsL f w v)).2 ≤ 51 ∧ fits w (firstF (partsL f w v)).2 = true ∧ fits w ((firstF (partsL f w v)).2 + 1) = true ∧
    wornPins (turnV w (firstF (partsL f w v)).2) v = [] ∧ wornHams f.fHammers.length (turnV w (firstF (partsL f w v)).2) v = [] ∧
    ((0 ≤ (firstF (partsL f w v)).1.fstep ∧ (firstF (partsL f w v)).1.fstep ≤ 96 ∧ 0 ≤ (firstF (partsL f w v)).1.ftrack ∧ (firstF (partsL f w v)).1.ftrack ≤ 24 ∧ ∃ p rest, wornPins (turnV w ((firstF (partsL f w v)).2 + 1)) v = p :: rest ∧ p.fStep = (firstF (partsL f w v)).1.fstep ∧ p.fTrack = (firstF (partsL f w v)).1.ftrack) ∨
     ((firstF (partsL f w v)).1.fstep = -1 ∧ wornPins (turnV w ((firstF (partsL f w v)).2 + 1)) v = [] ∧ ∃ rest, wornHams f.fHammers.length (turnV w ((firstF (partsL f w v)).2 + 1)) v = (firstF (partsL f w v)).1.ftrack :: rest)) := by
  obtain ⟨hall, hmax, hfst⟩ := firstF_spec (partsL f w v)
  generalize firstF (partsL f w v) = r at *
  obtain ⟨b, m⟩ := r
  simp only at hall hmax hfst hm ⊢
  obtain ⟨k, hk, hb, hmk, hlt⟩ := hfst (by omega)
  have hs1 := h.fr.s1; have hh1 := h.fr.h1
  have hpl := pins_le' h
  have hl := partsL_len f w v
  have hP : ∀ p ∈ w.fPins, leftV (pinPart v p) = v.fPin - p.fTurns := fun p hp => by
    have := hsm.1 p hp
    exact left_pin (by omega) (by omega) (by omega)
  have hS : ∀ t, t < f.fHammers.length → 0 ≤ stroke w t ∧ stroke w t ≤ 11 := fun t ht => by
    have hl : t < w.fStrokes.length := by rw [h.sl]; exact ht
    unfold stroke
    rw [List.getElem?_eq_getElem hl, Option.getD_some]
    exact hsm.2 _ (List.getElem_mem hl)
  have hC : ∀ t, cnt w.fPins t ≤ 2304 := fun t => Nat.le_trans (cnt_le _ _) hpl
  have hget : ∀ i (hi : i < w.fPins.length), ∃ hi' : i < (partsL f w v).length, (partsL f w v)[i] = pinPart v w.fPins[i] := by
    intro i hi
    refine ⟨by omega, ?_⟩
    unfold partsL
    rw [List.getElem_append_left (by simpa using hi), List.getElem_map]
  have hget2 : ∀ t (ht : t < f.fHammers.length), ∃ hi' : w.fPins.length + t < (partsL f w v).length, (partsL f w v)[w.fPins.length + t] = hamPart w v t := by
    intro t ht
    refine ⟨by omega, ?_⟩
    unfold partsL
    rw [List.getElem_append_right (by simp)]
    simp
  have hm0 : 0 ≤ m := by
    rw [hmk]
    by_cases hkp : k < w.fPins.length
    · obtain ⟨_, e⟩ := hget k hkp
      rw [e, hP _ (List.getElem_mem hkp)]
      have := hsm.1 _ (List.getElem_mem hkp); omega
    · obtain ⟨_, e⟩ := hget2 (k - w.fPins.length) (by omega)
      have ek : w.fPins.length + (k - w.fPins.length) = k := by omega
      simp only [ek] at e
      rw [e]
      have := hS (k - w.fPins.length) (by omega)
      exact (left_ham (by have := hC (k - w.fPins.length); omega) this.1 (by omega) (by omega) 0 (by omega) (by omega)).2 (by omega)
  have hpin_le : ∀ p ∈ w.fPins, p.fTurns + m ≤ v.fPin := fun p hp => by
    obtain ⟨i, hi, rfl⟩ := List.mem_iff_getElem.1 hp
    obtain ⟨hi', e⟩ := hget i hi
    have := hall _ (List.getElem_mem hi')
    rw [e, hP _ hp] at this; omega
  have hham_le : ∀ t, t < f.fHammers.length → stroke w t + cnt w.fPins t * m ≤ v.fHammer := fun t ht => by
    obtain ⟨hi', e⟩ := hget2 t ht
    have h1 := hall _ (List.getElem_mem hi')
    rw [e] at h1
    have := hS t ht
    exact (left_ham (by have := hC t; omega) this.1 (by omega) (by omega) m hm0 (by omega)).1 h1
  have hm51 : m ≤ 51 := by
    by_cases hkp : k < w.fPins.length
    · have := hpin_le _ (List.getElem_mem hkp)
      have := hsm.1 _ (List.getElem_mem hkp); omega
    · obtain ⟨_, e⟩ := hget2 (k - w.fPins.length) (by omega)
      have ek : w.fPins.length + (k - w.fPins.length) = k := by omega
      simp only [ek] at e
      have h1 := hham_le (k - w.fPins.length) (by omega)
      have h2 := hS (k - w.fPins.length) (by omega)
      by_cases hc : cnt w.fPins (k - w.fPins.length) = 0
      · exfalso
        rw [e] at hmk
        unfold leftV hamPart at hmk
        simp only [hc] at hmk
        rw [if_pos (by simp)] at hmk
        omega
      · have h3 : 1 * m ≤ (cnt w.fPins (k - w.fPins.length) : Int) * m := Int.mul_le_mul_of_nonneg_right (by omega) hm0
        omega
  have hstr : ∀ (t : Nat) (x : Int), w.fStrokes[t]? = some x → t < f.fHammers.length ∧ x = stroke w t := fun t x hx => by
    have hl : t < w.fStrokes.length := by
      rcases Nat.lt_or_ge t w.fStrokes.length with h' | h'
      · exact h'
      · rw [List.getElem?_eq_none h'] at hx; cases hx
    exact ⟨by rw [← h.sl]; exact hl, by unfold stroke; rw [hx]; rfl⟩
  have hmul : ∀ t, (cnt w.fPins t : Int) * (m + 1) = (cnt w.fPins t : Int) * m + (cnt w.fPins t : Int) := fun t => by rw [Int.mul_add, Int.mul_one]
  have hpinlist : ∀ n, wornPins (turnV w n) v = (w.fPins.map (tp n)).filter fun p => decide (p.fTurns > v.fPin) := fun n => by
    unfold wornPins turnV
    congr 1
    apply List.ext_getElem?
    intro i
    simp only [List.getElem?_map, List.getElem?_mapIdx]
  refine ⟨hm0, hm51, ?_, ?_, ?_, ?_, ?_⟩
  · refine fits_of hm0 (fun p hp => ?_) (fun t x hx => ?_)
    · have := hpin_le p hp; have := hsm.1 p hp; omega
    · obtain ⟨ht, rfl⟩ := hstr t x hx
      have := hham_le t ht; have := hS t ht; omega
  · refine fits_of (by omega) (fun p hp => ?_) (fun t x hx => ?_)
    · have := hpin_le p hp; have := hsm.1 p hp; omega
    · obtain ⟨ht, rfl⟩ := hstr t x hx
      have h1 := hham_le t ht; have h2 := hS t ht; have h3 := hC t
      rw [hmul]; omega
  · rw [hpinlist, List.filter_eq_nil_iff]
    intro p hp
    obtain ⟨q, hq, rfl⟩ := List.mem_map.1 hp
    have := hpin_le q hq
    intro hc
    have hc' : q.fTurns + m > v.fPin := of_decide_eq_true hc
    omega
  · unfold wornHams
    rw [List.map_eq_nil_iff, List.filter_eq_nil_iff]
    intro t ht
    rw [List.mem_range] at ht
    rw [stroke_turn h m ht, decide_eq_true_eq]
    have := hham_le t ht; omega
  · by_cases hkp : k < w.fPins.length
    · left
      obtain ⟨_, e⟩ := hget k hkp
      have hpk := List.getElem_mem hkp
      have hplk := h.pl _ hpk
      have hbe : b = pinPart v w.fPins[k] := hb.trans e
      rw [hbe]
      simp only [pinPart]
      refine ⟨by omega, by omega, by omega, by omega, ?_⟩
      have hmk2 : m = v.fPin - w.fPins[k].fTurns := by rw [hmk, e, hP _ hpk]
      obtain ⟨rest, hr⟩ := filter_first (fun p : GWornPin => decide (p.fTurns > v.fPin)) (w.fPins.map (tp (m + 1))) k (by simpa using hkp) (by simp only [List.getElem_map, tp, decide_eq_true_eq]; omega) (fun i hi hik => by
        have hi' : i < w.fPins.length := by simpa using hi
        obtain ⟨hi2, e2⟩ := hget i hi'
        have h3 := hlt i hi2 hik
        rw [e2, hP _ (List.getElem_mem hi')] at h3
        simp only [List.getElem_map, tp, decide_eq_false_iff_not]; omega)
      refine ⟨_, rest, (hpinlist (m + 1)).trans hr, ?_, ?_⟩
      · simp [tp]
      · simp [tp]
    · right
      obtain ⟨_, e⟩ := hget2 (k - w.fPins.length) (by omega)
      have ek : w.fPins.length + (k - w.fPins.length) = k := by omega
      simp only [ek] at e
      have hbe : b = hamPart w v (k - w.fPins.length) := hb.trans e
      rw [hbe]
      simp only [hamPart]
      refine ⟨trivial, ?_, ?_⟩
      · rw [hpinlist, List.filter_eq_nil_iff]
        intro p hp
        obtain ⟨q, hq, rfl⟩ := List.mem_map.1 hp
        obtain ⟨i, hi, rfl⟩ := List.mem_iff_getElem.1 hq
        obtain ⟨hi2, e2⟩ := hget i hi
        have h3 := hlt i hi2 (by omega)
        rw [e2, hP _ hq] at h3
        intro hc
        have hc' : w.fPins[i].fTurns + (m + 1) > v.fPin := of_decide_eq_true hc
        omega
      · have hT : k - w.fPins.length < f.fHammers.length := by omega
        have hsl := hS (k - w.fPins.length) hT
        have hworn : ¬ (stroke w (k - w.fPins.length) + cnt w.fPins (k - w.fPins.length) * (m + 1) ≤ v.fHammer) := fun hle => by
          have := (left_ham (by have := hC (k - w.fPins.length); omega) hsl.1 (by omega) (by omega) (m + 1) (by omega) (by omega)).2 hle
          rw [← e, ← hmk] at this; omega
        obtain ⟨rest, hr⟩ := filter_first (fun t => decide (stroke (turnV w (m + 1)) t > v.fHammer)) (List.range f.fHammers.length) (k - w.fPins.length) (by simpa using hT) (by
          rw [List.getElem_range, stroke_turn h _ hT, decide_eq_true_eq]; omega) (fun i hi hik => by
          have hi' : i < f.fHammers.length := by simpa using hi
          obtain ⟨hi2, e2⟩ := hget2 i hi'
          have h3 := hlt _ hi2 (by omega)
          rw [e2] at h3
          have hsi := hS i hi'
          have := (left_ham (v := v) (by have := hC i; omega) hsi.1 (by omega) (by omega) (m + 1) (by omega) (by omega)).1 (by omega)
          rw [List.getElem_range, stroke_turn h _ hi', decide_eq_false_iff_not]; omega)
        refine ⟨rest.map fun t : Nat => (t : Int), ?_⟩
        unfold wornHams
        rw [hr, List.map_cons, List.getElem_range]

end Go.Proofs.YtfkjghkjimcmdaaGreat
