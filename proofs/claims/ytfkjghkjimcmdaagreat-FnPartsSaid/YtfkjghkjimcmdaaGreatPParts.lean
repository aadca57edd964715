/- The parts of a wear: what they are, which are worn out, and how many turns they can make; the program's answers are the reference's. -/
import Derived.Test.YtfkjghkjimcmdaaGreatM0
import Derived.Test.YtfkjghkjimcmdaaGreatM1
import Derived.Test.YtfkjghkjimcmdaaGreatPFrame
import Derived.Test.YtfkjghkjimcmdaaGreatPDrum
import Derived.Test.YtfkjghkjimcmdaaGreatPWear
import Derived.Test.YtfkjghkjimcmdaaGreatPPut
import Derived.Test.YtfkjghkjimcmdaaGreatPWDrum
import Derived.Test.YtfkjghkjimcmdaaGreatPEach
import Derived.Test.YtfkjghkjimcmdaaGreatPure
namespace Go.Proofs.YtfkjghkjimcmdaaGreat
open Eng
set_option linter.unusedVariables false
set_option linter.unusedSimpArgs false

theorem loop_take {S A T : Type} {f : A × Int → Option ((A × Int) ⊕ T)} (xs : List S) (hn : xs.length ≤ 9223372036854775807) (g : List S → A) (t : A → T)
    (h : ∀ k (hk : k < xs.length), f (g (xs.take k), (k : Int)) = some (.inl (g (xs.take k ++ [xs[k]]), w64 ((k : Int) + 1)))) (he : f (g xs, (xs.length : Int)) = some (.inr (t (g xs)))) : loop f (g [], 0) = some (t (g xs)) := by
  obtain ⟨t', ht, rfl⟩ := loop_for (f := f) xs.length hn (fun k a => a = g (xs.take k)) (fun t' => t' = t (g xs))
    (fun k a hk ha => .inl ⟨g (xs.take k ++ [xs[k]]), by subst ha; exact h k hk, by rw [List.take_succ_eq_append_getElem hk]⟩)
    (fun a ha => ⟨_, by rw [ha, List.take_length]; exact he, rfl⟩) (g []) (by simp)
  exact ht
theorem flatMap_one {A B : Type} (g : A → B) (l : List A) : l.flatMap (fun t => [g t]) = l.map g := by
  induction l with
  | nil => rfl
  | cons a l ih => simp [ih]
def stroke (w : GWear) (t : Nat) : Int := (w.fStrokes[t]?).getD 0
theorem stroke_ix {f : GFrame} {w : GWear} (h : WOk f w) {t : Nat} (ht : t < f.fHammers.length) : ix w.fStrokes (t : Int) = some (stroke w t) ∧ 0 ≤ stroke w t ∧ stroke w t ≤ 1000000 := by
  have hl : t < w.fStrokes.length := by rw [h.sl]; exact ht
  unfold stroke
  rw [ix_lt hl, List.getElem?_eq_getElem hl, Option.getD_some]
  exact ⟨rfl, h.st _ (List.getElem_mem hl)⟩
def pinPart (v : GLives) (p : GWornPin) : Gpart := ⟨p.fTurns, 1, v.fPin, p.fStep, p.fTrack⟩
def hamPart (w : GWear) (v : GLives) (t : Nat) : Gpart := ⟨stroke w t, (cnt w.fPins t : Int), v.fHammer, -1, (t : Int)⟩
def partsL (f : GFrame) (w : GWear) (v : GLives) : List Gpart := w.fPins.map (pinPart v) ++ (List.range f.fHammers.length).map (hamPart w v)
theorem parts_is {f : GFrame} {w : GWear} (h : WOk f w) (hp : w.fPins.length ≤ 1048576) (v : GLives) : impl_Wear_parts w f v = some (partsL f w v) := by
  have hs1 := h.fr.s1; have hh1 := h.fr.h1
  obtain ⟨d, hd, hdi, hpin⟩ := wearDrum_is h hp
  have l1 : loop (impl_Wear_parts.l_15 w v) (([] : List Gpart), 0) = some (w.fPins.map (pinPart v)) :=
    loop_take (f := impl_Wear_parts.l_15 w v) w.fPins (by omega) (fun ps => ps.map (pinPart v)) id (fun k hk => by
      obtain ⟨⟨a, b⟩, ⟨c, e⟩, _⟩ := h.pl _ (List.getElem_mem hk)
      simp only [impl_Wear_parts.l_15, ix_lt hk, Option.bind_some]
      rw [if_pos (by simpa using hk), if_pos (by simp; omega), w64_in (n := w.fPins[k].fStep) (by omega) (by omega), w64_in (n := w.fPins[k].fTrack) (by omega) (by omega)]
      rw [List.map_append]; rfl) (by simp [impl_Wear_parts.l_15])
  have l2 : loop (impl_Wear_parts.l_9 w v (eachL f.fHammers.length w.fPins)) (w.fPins.map (pinPart v), 0) = some (partsL f w v) := by
    have := loop_app (f := impl_Wear_parts.l_9 w v (eachL f.fHammers.length w.fPins)) f.fHammers.length 1 (by omega) (fun t => [hamPart w v t]) (w.fPins.map (pinPart v)) (fun k _ => by simp)
      (fun xs k hk hx => by
        have e := ix_get (eachL_get f.fHammers.length w.fPins k hk)
        have e2 := (stroke_ix h hk).1
        simp only [impl_Wear_parts.l_9, e, e2, Option.bind_some, eachL_len]
        rw [List.length_map] at hx
        rw [if_pos (by simpa using hk), if_pos (by simp; omega)]
        rfl) (fun xs => by simp [impl_Wear_parts.l_9, eachL_len])
    rw [this]
    unfold partsL
    rw [flatMap_one]
  simp only [impl_Wear_parts, l1, Option.bind_some, impl_Wear_parts.k_2, hd, byTrack_wear h hdi hpin, l2, impl_Wear_parts.k_6]
theorem partsL_len (f : GFrame) (w : GWear) (v : GLives) : (partsL f w v).length = w.fPins.length + f.fHammers.length := by simp [partsL]
/-! ### what is worn out -/
def wornB (p : Gpart) : Bool := decide (p.fmade > p.flife)
def wornPins (w : GWear) (v : GLives) : List GWornPin := w.fPins.filter fun p => decide (p.fTurns > v.fPin)
def wornHams (n : Nat) (w : GWear) (v : GLives) : List Int := ((List.range n).filter fun t => decide (stroke w t > v.fHammer)).map fun t : Nat => (t : Int)
theorem worn_is {f : GFrame} {w : GWear} (h : WOk f w) (hp : w.fPins.length ≤ 1048576) (v : GLives) : spec_l06Worn w v = some (wornPins w v, wornHams f.fHammers.length w v) := by
  have hh1 := h.fr.h1; have hsl := h.sl
  have l1 : loop (spec_l06Worn.l_12 w v) (([] : List GWornPin), 0) = some (wornPins w v) :=
    loop_take (f := spec_l06Worn.l_12 w v) w.fPins (by omega) (fun ps => ps.filter fun p => decide (p.fTurns > v.fPin)) id (fun k hk => by
      have hle := List.length_filter_le (fun p : GWornPin => decide (p.fTurns > v.fPin)) (w.fPins.take k)
      rw [List.length_take] at hle
      simp only [spec_l06Worn.l_12, ix_lt hk, Option.bind_some]
      rw [if_pos (by simpa using hk), List.filter_append]
      by_cases c : w.fPins[k].fTurns > v.fPin
      · rw [if_pos (by simpa using c), if_pos (by simp only [List.length_cons, List.length_nil]; omega)]
        simp [c]
      · rw [if_neg (by simpa using c)]
        simp [c]) (by simp [spec_l06Worn.l_12])
  have l2 : loop (spec_l06Worn.l_7 w v) (([] : List Int), 0) = some (wornHams f.fHammers.length w v) := by
    have := loop_take (f := spec_l06Worn.l_7 w v) (List.range f.fHammers.length) (by simp; omega) (fun ts => (ts.filter fun t => decide (stroke w t > v.fHammer)).map fun t : Nat => (t : Int)) id (fun k hk => by
      have hk : k < f.fHammers.length := by simpa using hk
      have hle := List.length_filter_le (fun t => decide (stroke w t > v.fHammer)) ((List.range f.fHammers.length).take k)
      rw [List.length_take] at hle
      simp only [spec_l06Worn.l_7, (stroke_ix h hk).1, Option.bind_some, List.getElem_range]
      rw [if_pos (by simp; omega), List.filter_append, List.map_append]
      by_cases c : stroke w k > v.fHammer
      · rw [if_pos (by simpa using c), if_pos (by simp only [List.length_cons, List.length_nil, List.length_map]; omega)]
        simp [c]
      · rw [if_neg (by simpa using c)]
        simp [c]) (by simp [spec_l06Worn.l_7, hsl])
    exact this
  simp only [spec_l06Worn, l1, Option.bind_some, spec_l06Worn.k_2, l2, spec_l06Worn.k_4]
theorem worn_any (f : GFrame) (w : GWear) (v : GLives) : (partsL f w v).any wornB = !(decide (wornPins w v = []) && decide (wornHams f.fHammers.length w v = [])) := by
  unfold partsL wornPins wornHams
  rw [List.any_append, Bool.eq_iff_iff]
  simp only [List.any_map, List.any_eq_true, Function.comp, wornB, pinPart, hamPart, Bool.or_eq_true, Bool.not_eq_true', Bool.and_eq_false_iff, decide_eq_false_iff_not, decide_eq_true_eq, List.filter_eq_nil_iff, List.map_eq_nil_iff]
  constructor
  · rintro (⟨p, h1, h2⟩ | ⟨t, h1, h2⟩)
    · left; intro h; exact h p h1 (by simpa using h2)
    · right; intro h; exact h t h1 (by simpa using h2)
  · rintro (h | h)
    · left
      exact Classical.byContradiction fun hn => h fun p hp hq => hn ⟨p, hp, by simpa using hq⟩
    · right
      exact Classical.byContradiction fun hn => h fun p hp hq => hn ⟨p, hp, by simpa using hq⟩
/-! ### codes of wear and lives -/
def livB (v : GLives) : Bool := (decide (1 ≤ v.fPin) && decide (v.fPin ≤ 1000000)) && (decide (1 ≤ v.fHammer) && decide (v.fHammer ≤ 1000000))
theorem l06Lives_is (v : GLives) : spec_l06Lives v = some (livB v) := by
  simp only [spec_l06Lives, spec_l00In, Option.bind_some, livB, ge_iff_le]
  cases (decide (1 ≤ v.fPin) && decide (v.fPin ≤ 1000000)) <;> simp
theorem validLives_is (v : GLives) : impl_ValidLives v = some (livB v) := by
  simp only [impl_ValidLives, impl_within, Option.bind_some, livB]
  cases (decide (1 ≤ v.fPin) && decide (v.fPin ≤ 1000000)) <;> simp
theorem contains_lives (a : List GLives) (h : a.length ≤ 9223372036854775807) : slices_ContainsFunc_Lives_at_impl_wearCode_1 a = some (!(a.all livB)) := by
  obtain ⟨t, ht, hq⟩ := loop_find (f := slices_IndexFunc_Lives_at_impl_wearCode_1.l_3 a) a (fun x => !(livB x)) (by omega) (fun k hk => by
    simp only [slices_IndexFunc_Lives_at_impl_wearCode_1.l_3, ix_lt hk, Option.bind_some, impl_wearCode_1, validLives_is]
    rw [if_pos (by simpa using hk)]
    by_cases he : livB a[k] = true <;> simp [he]) (by simp [slices_IndexFunc_Lives_at_impl_wearCode_1.l_3])
  simp only [slices_ContainsFunc_Lives_at_impl_wearCode_1, slices_IndexFunc_Lives_at_impl_wearCode_1, ht, Option.bind_some]
  rcases hq with ⟨hany, k, rfl, _⟩ | ⟨hany, rfl⟩
  · rw [any_not] at hany
    rw [hany]; simp
  · rw [any_not] at hany
    rw [hany]; simp [slices_IndexFunc_Lives_at_impl_wearCode_1.k_1]
theorem wearCode_is (f : GFrame) (w : GWear) (hf : f.fHammers.length ≤ 1048576) (hp : w.fPins.length ≤ 1048576) (hs : w.fStrokes.length ≤ 1048576) (vs : List GLives) (hv : vs.length ≤ 9223372036854775807) :
    impl_wearCode f w vs = some (if wearB f w = true ∧ vs.all livB = true then 0 else 1) := by
  simp only [impl_wearCode, validWear_is f w hf hp hs, Option.bind_some]
  cases wearB f w with
  | false => simp [impl_unless]
  | true =>
    simp only [if_true, contains_lives vs hv, Option.bind_some, Bool.not_not, unless_is]
    cases vs.all livB <;> simp
theorem l06Lived_is (f : GFrame) (w : GWear) (hf : f.fHammers.length ≤ 1048576) (hp : w.fPins.length ≤ 1048576) (hs : w.fStrokes.length ≤ 1048576) (v : GLives) :
    spec_l06Lived f w v = some (if wearB f w = true ∧ livB v = true then 0 else 1) := by
  simp only [spec_l06Lived, l06Ok_is f w hf hp hs, Option.bind_some, l06Lives_is, spec_l06Lived.k_2]
  cases wearB f w with
  | false => simp
  | true => cases livB v <;> simp
theorem wearCode1 (f : GFrame) (w : GWear) (hf : f.fHammers.length ≤ 1048576) (hp : w.fPins.length ≤ 1048576) (hs : w.fStrokes.length ≤ 1048576) (v : GLives) :
    impl_wearCode f w [v] = some (if wearB f w = true ∧ livB v = true then 0 else 1) := by
  rw [wearCode_is f w hf hp hs [v] (by simp)]; simp

end Go.Proofs.YtfkjghkjimcmdaaGreat
