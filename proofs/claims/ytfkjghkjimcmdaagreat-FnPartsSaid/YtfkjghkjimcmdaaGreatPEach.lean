/- How many strokes each hammer makes in a turn: counted over the drum's places, as the program does, and over the pins, as the reference does. -/
import Derived.Test.YtfkjghkjimcmdaaGreatM1
import Derived.Test.YtfkjghkjimcmdaaGreatPFrame
import Derived.Test.YtfkjghkjimcmdaaGreatPDrum
import Derived.Test.YtfkjghkjimcmdaaGreatPWear
import Derived.Test.YtfkjghkjimcmdaaGreatPPut
import Derived.Test.YtfkjghkjimcmdaaGreatPWDrum
import Derived.Test.YtfkjghkjimcmdaaGreatPure
namespace Go.Proofs.YtfkjghkjimcmdaaGreat
open Eng
set_option linter.unusedVariables false
set_option linter.unusedSimpArgs false

def cnt (ps : List GWornPin) (t : Nat) : Nat := ps.countP fun p => decide (p.fTrack = (t : Int))
def eachL (n : Nat) (ps : List GWornPin) : List Int := (List.range n).map fun t => (cnt ps t : Int)
theorem eachL_len (n : Nat) (ps : List GWornPin) : (eachL n ps).length = n := by simp [eachL]
theorem eachL_get (n : Nat) (ps : List GWornPin) (t : Nat) (h : t < n) : (eachL n ps)[t]? = some (cnt ps t : Int) := by
  unfold eachL
  rw [List.getElem?_map, List.getElem?_range h]; rfl
theorem cnt_le (ps : List GWornPin) (t : Nat) : cnt ps t ≤ ps.length := List.countP_le_length
theorem cnt_snoc (ps : List GWornPin) (p : GWornPin) (t : Nat) : cnt (ps ++ [p]) t = cnt ps t + if p.fTrack = (t : Int) then 1 else 0 := by
  unfold cnt
  rw [List.countP_append]
  congr 1
  by_cases h : p.fTrack = (t : Int) <;> simp [h]
theorem l06Each_is {f : GFrame} {w : GWear} (h : WOk f w) (hp : w.fPins.length ≤ 1048576) : spec_l06Each w = some (eachL f.fHammers.length w.fPins) := by
  have hh1 := h.fr.h1; have hsl := h.sl
  obtain ⟨t, ht, rfl⟩ := loop_for (f := spec_l06Each.l_5 w) w.fPins.length (by omega) (fun k xs => xs = eachL f.fHammers.length (w.fPins.take k)) (fun xs => xs = eachL f.fHammers.length w.fPins)
    (fun k xs hk hx => by
      obtain ⟨_, ⟨c, e⟩, _⟩ := h.pl _ (List.getElem_mem hk)
      have ht : w.fPins[k].fTrack.toNat < f.fHammers.length := by omega
      have e1 : w.fPins[k].fTrack = (w.fPins[k].fTrack.toNat : Int) := by omega
      have hix : ix xs w.fPins[k].fTrack = some (cnt (w.fPins.take k) w.fPins[k].fTrack.toNat : Int) := by
        rw [e1, hx]
        exact ix_get (eachL_get _ _ _ ht)
      have hc := cnt_le (w.fPins.take k) w.fPins[k].fTrack.toNat
      rw [List.length_take] at hc
      refine .inl ⟨xs.set w.fPins[k].fTrack.toNat (w64 ((cnt (w.fPins.take k) w.fPins[k].fTrack.toNat : Int) + 1)), ?_, ?_⟩
      · simp only [spec_l06Each.l_5, ix_lt hk, Option.bind_some, hix]
        rw [if_pos (by simpa using hk)]
      · rw [w64_in (by omega) (by omega), hx]
        apply List.ext_getElem?
        intro i
        rw [List.getElem?_set, List.take_succ_eq_append_getElem hk]
        by_cases hi : i < f.fHammers.length
        · rw [eachL_get _ _ _ hi, eachL_get _ _ _ hi, eachL_len, cnt_snoc]
          by_cases hit : w.fPins[k].fTrack.toNat = i
          · rw [if_pos hit, if_pos (by omega), if_pos (by omega), hit]; rfl
          · rw [if_neg hit, if_neg (by omega)]; rfl
        · rw [List.getElem?_eq_none (by rw [eachL_len]; omega), List.getElem?_eq_none (by rw [eachL_len]; omega)]
          rw [if_neg (by omega)])
    (fun xs hx => ⟨xs, by simp [spec_l06Each.l_5], by simpa using hx⟩) (List.replicate f.fHammers.length 0) (by
      apply List.ext_getElem?
      intro i
      by_cases hi : i < f.fHammers.length
      · rw [eachL_get _ _ _ hi]; simp [hi, cnt]
      · rw [List.getElem?_eq_none (by simp; omega), List.getElem?_eq_none (by rw [eachL_len]; omega)])
  simp only [spec_l06Each]
  rw [if_pos (by omega), show ((w.fStrokes.length : Int)).toNat = f.fHammers.length by omega, ht]
  rfl
/-! ### the program: over the places -/
def trk (n : Nat) (c : Nat → Nat) : List Int := (List.range n).map fun t => (c t : Int)
theorem trk_len (n : Nat) (c : Nat → Nat) : (trk n c).length = n := by simp [trk]
theorem trk_get {n : Nat} (c : Nat → Nat) {t : Nat} (h : t < n) : (trk n c)[t]? = some (c t : Int) := by
  unfold trk
  rw [List.getElem?_map, List.getElem?_range h]; rfl
theorem trk_congr {n : Nat} {c c' : Nat → Nat} (h : ∀ t, t < n → c t = c' t) : trk n c = trk n c' := by
  unfold trk
  apply List.map_congr_left
  intro t ht
  rw [h t (by simpa using ht)]
theorem byTrack_in {d : Arr 96 Int} (hd : DIn d) {s : Nat} (hs : s < 96) (n : Nat) (hn : n ≤ 24) (c : Nat → Nat) (hc : ∀ t, c t ≤ 96) :
    loop (impl_Frame_pins_at_impl_Frame_byTrack_1.l_12 d (s : Int) (n : Int)) (trk n c, 0) = some (trk n fun t => c t + if pin d s t = true then 1 else 0) := by
  obtain ⟨t, ht, rfl⟩ := loop_for (f := impl_Frame_pins_at_impl_Frame_byTrack_1.l_12 d (s : Int) (n : Int)) n (by omega) (fun k xs => xs = trk n fun t => c t + if t < k ∧ pin d s t = true then 1 else 0)
    (fun xs => xs = trk n fun t => c t + if pin d s t = true then 1 else 0)
    (fun k xs hk hx => by
      have hh := has_is hd hs (t := k) (by omega)
      simp only [impl_Frame_pins_at_impl_Frame_byTrack_1.l_12, hh, Option.bind_some]
      rw [if_pos (by simpa using hk)]
      by_cases hp : pin d s k = true
      · have hix : ix xs (k : Int) = some (c k : Int) := by
          rw [hx]
          refine ix_get ?_
          rw [trk_get _ hk]; simp
        rw [if_pos hp]
        simp only [impl_Frame_byTrack_1, hix, Option.bind_some]
        refine .inl ⟨_, rfl, ?_⟩
        have := hc k
        rw [w64_in (by omega) (by omega), hx]
        apply List.ext_getElem?
        intro i
        rw [List.getElem?_set, Int.toNat_natCast, trk_len]
        by_cases hi : i < n
        · rw [trk_get _ hi, trk_get _ hi]
          by_cases hik : k = i
          · subst hik
            rw [if_pos rfl, if_pos hk, if_pos ⟨by omega, hp⟩]; rfl
          · rw [if_neg hik]
            congr 3
            by_cases h1 : i < k
            · simp [h1, show i < k + 1 by omega]
            · simp [h1, show ¬ i < k + 1 by omega]
        · rw [List.getElem?_eq_none (by rw [trk_len]; omega), List.getElem?_eq_none (by rw [trk_len]; omega), if_neg (by omega)]
      · rw [if_neg hp]
        refine .inl ⟨_, rfl, ?_⟩
        rw [hx]
        refine trk_congr fun t ht => ?_
        congr 1
        by_cases h1 : t = k
        · subst h1; simp [hp]
        · by_cases h2 : t < k
          · simp [h2, show t < k + 1 by omega]
          · simp [h2, show ¬ t < k + 1 by omega])
    (fun xs hx => ⟨xs, by simp [impl_Frame_pins_at_impl_Frame_byTrack_1.l_12], by
      rw [hx]
      refine trk_congr fun t ht => ?_
      simp [ht]⟩) (trk n c) (trk_congr fun t ht => by simp)
  exact ht
theorem countP_succ (p : Nat → Bool) (n : Nat) : (List.range (n + 1)).countP p = (List.range n).countP p + if p n = true then 1 else 0 := by
  rw [List.range_succ, List.countP_append]
  congr 1
  by_cases h : p n = true <;> simp [h]
theorem byTrack_is {f : GFrame} (hf : FOk f) {d : Arr 96 Int} (hd : DIn d) : impl_Frame_byTrack f d = some (trk f.fHammers.length fun t => (List.range f.fSteps.toNat).countP fun s => pin d s t) := by
  have hs0 := hf.s0; have hs1 := hf.s1; have hh1 := hf.h1
  have e : ((w64 f.fSteps)) = (f.fSteps.toNat : Int) := by rw [w64_in (by omega) (by omega)]; omega
  obtain ⟨t, ht, rfl⟩ := loop_for (f := impl_Frame_pins_at_impl_Frame_byTrack_1.l_5 f d) f.fSteps.toNat (by omega) (fun k xs => xs = trk f.fHammers.length fun t => (List.range k).countP fun s => pin d s t)
    (fun xs => xs = trk f.fHammers.length fun t => (List.range f.fSteps.toNat).countP fun s => pin d s t)
    (fun k xs hk hx => by
      simp only [impl_Frame_pins_at_impl_Frame_byTrack_1.l_5, size_is, Option.bind_some, e]
      rw [if_pos (by simp; omega), hx, byTrack_in hd (by omega) _ hh1 _ (fun t => by have := List.countP_le_length (p := fun s => pin d s t) (l := List.range k); simp at this; omega)]
      refine .inl ⟨_, rfl, trk_congr fun t _ => ?_⟩
      rw [countP_succ])
    (fun xs hx => ⟨xs, by simp [impl_Frame_pins_at_impl_Frame_byTrack_1.l_5, e], hx⟩) (List.replicate f.fHammers.length 0) (by
      apply List.ext_getElem?
      intro i
      by_cases hi : i < f.fHammers.length
      · rw [trk_get _ hi]; simp [hi]
      · rw [List.getElem?_eq_none (by simp; omega), List.getElem?_eq_none (by rw [trk_len]; omega)])
  simp only [impl_Frame_byTrack, impl_Frame_pins_at_impl_Frame_byTrack_1]
  rw [if_pos (by omega), show ((f.fHammers.length : Int)).toNat = f.fHammers.length by omega, ht]
  rfl
/-! ### they are the same -/
theorem countP_or {p q : Nat → Bool} : ∀ (l : List Nat), (∀ x ∈ l, ¬ (p x = true ∧ q x = true)) → l.countP (fun x => p x || q x) = l.countP p + l.countP q := by
  intro l
  induction l with
  | nil => intro _; rfl
  | cons a l ih =>
    intro h
    rw [List.countP_cons, List.countP_cons, List.countP_cons, ih (fun x hx => h x (by simp [hx]))]
    have := h a (by simp)
    by_cases h1 : p a = true <;> by_cases h2 : q a = true <;> simp_all <;> omega
theorem countP_at (a n : Nat) (h : a < n) : (List.range n).countP (fun s => decide (a = s)) = 1 := by
  induction n with
  | zero => omega
  | succ n ih =>
    rw [countP_succ]
    by_cases e : a = n
    · subst e
      have : (List.range a).countP (fun s => decide (a = s)) = 0 := by
        rw [List.countP_eq_zero]
        intro s hs
        have : s < a := by simpa using hs
        simp; omega
      simp [this]
    · simp [ih (by omega), e]
theorem count_pins (N t : Nat) : ∀ (ps : List GWornPin), (∀ p ∈ ps, 0 ≤ p.fStep ∧ p.fStep < N) → ps.Pairwise (fun a b => befB a b = true) → (List.range N).countP (fun s => hasPin ps s t) = cnt ps t := by
  intro ps
  induction ps with
  | nil => intro _ _; simp [hasPin, cnt]
  | cons p ps ih =>
    intro h hs
    rw [List.pairwise_cons] at hs
    obtain ⟨h1, h2⟩ := hs
    have hp := h p (by simp)
    have e : (fun s : Nat => hasPin (p :: ps) s t) = fun s : Nat => (decide (p.fStep = (s : Int)) && decide (p.fTrack = (t : Int))) || hasPin ps s t := by
      funext s; simp [hasPin]
    rw [e, countP_or _ (fun s _ => ?_), ih (fun q hq => h q (by simp [hq])) h2]
    · unfold cnt
      rw [List.countP_cons, Nat.add_comm]
      congr 1
      by_cases ht : p.fTrack = (t : Int)
      · rw [if_pos (by simpa using ht)]
        rw [← countP_at p.fStep.toNat N (by omega)]
        congr 1
        funext s
        simp only [ht, decide_true, Bool.and_true]
        rw [Bool.eq_iff_iff]; simp; omega
      · rw [if_neg (by simpa using ht), List.countP_eq_zero]
        intro s _
        simp [ht]
    · rintro ⟨ha, hb⟩
      simp only [Bool.and_eq_true, decide_eq_true_eq] at ha
      unfold hasPin at hb
      rw [List.any_eq_true] at hb
      obtain ⟨q, hq, hb⟩ := hb
      simp only [Bool.and_eq_true, decide_eq_true_eq] at hb
      have := h1 q hq
      rw [befB_iff] at this
      omega
/-- the program's counts over the wear's drum are the reference's -/
theorem byTrack_wear {f : GFrame} {w : GWear} (h : WOk f w) {d : Arr 96 Int} (hd : DIn d) (hp : ∀ s t, pin d s t = hasPin w.fPins s t) : impl_Frame_byTrack f d = some (eachL f.fHammers.length w.fPins) := by
  rw [byTrack_is h.fr hd]
  congr 1
  unfold trk eachL
  apply List.map_congr_left
  intro t _
  congr 1
  simp only [hp]
  exact count_pins _ _ _ (fun p hp => by have := (h.pl p hp).1; omega) h.so

end Go.Proofs.YtfkjghkjimcmdaaGreat
