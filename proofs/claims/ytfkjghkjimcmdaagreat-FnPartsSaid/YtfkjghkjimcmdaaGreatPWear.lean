/- Valid wear: the program's test is the reference's, and what a valid wear is. -/
import Derived.Test.YtfkjghkjimcmdaaGreatM0
import Derived.Test.YtfkjghkjimcmdaaGreatM1
import Derived.Test.YtfkjghkjimcmdaaGreatPFrame
import Derived.Test.YtfkjghkjimcmdaaGreatPDrum
import Derived.Test.YtfkjghkjimcmdaaGreatPure
namespace Go.Proofs.YtfkjghkjimcmdaaGreat
open Eng
set_option linter.unusedVariables false
set_option linter.unusedSimpArgs false

/-! ### places, turns, the order of pins -/
def plB (f : GFrame) (s t : Int) : Bool := (decide (0 ≤ s) && decide (s ≤ w64 (w64 f.fSteps - 1))) && (decide (0 ≤ t) && decide (t ≤ w64 ((f.fHammers.length : Int) - 1)))
theorem l06Place_is (f : GFrame) (s t : Int) : spec_l06Place f s t = some (plB f s t) := by
  simp only [spec_l06Place, spec_l00In, Option.bind_some, plB, ge_iff_le]
  cases (decide (0 ≤ s) && decide (s ≤ w64 (w64 f.fSteps - 1))) <;> rfl
theorem isPlace_is (f : GFrame) (s t : Int) : impl_Frame_isPlace f s t = some (plB f s t) := by
  rw [← l06Place_is]
  simp only [impl_Frame_isPlace, spec_l06Place, within_in, impl_size_Hammer, Option.bind_some]
theorem plB_ok {f : GFrame} (h : FOk f) (s t : Int) : plB f s t = true ↔ (0 ≤ s ∧ s < f.fSteps) ∧ (0 ≤ t ∧ t < f.fHammers.length) := by
  have h0 := h.s0; have h1 := h.s1; have h2 := h.h0; have h3 := h.h1
  unfold plB
  rw [w64_in (n := f.fSteps) (by omega) (by omega), w64_in (n := f.fSteps - 1) (by omega) (by omega), w64_in (n := (f.fHammers.length : Int) - 1) (by omega) (by omega)]
  simp only [Bool.and_eq_true, decide_eq_true_eq]
  omega
def tuB (n : Int) : Bool := decide (0 ≤ n) && decide (n ≤ 1000000)
theorem l06Turns_is (n : Int) : spec_l06Turns n = some (tuB n) := by simp only [spec_l06Turns, spec_l00In, Option.bind_some, tuB, ge_iff_le]
theorem isMade_is (n : Int) : impl_isMade n = some (tuB n) := by simp only [impl_isMade, impl_within, Option.bind_some, tuB]
theorem cmp_is (x y : Int) : cmp_Compare_int8 x y = some (if x < y then -1 else if x > y then 1 else 0) := by
  simp only [cmp_Compare_int8, cmp_isNaN_int8, Option.bind_some]
  simp
  repeat' split
  all_goals rfl
theorem or2 (a b : Int) : cmp_Or_int [a, b] = some (if a ≠ 0 then a else b) := by
  simp only [cmp_Or_int]
  rw [loop_eq]
  by_cases ha : a = 0
  · rw [show cmp_Or_int.l_3 [a, b] 0 = some (.inl 1) by simp [cmp_Or_int.l_3, ix, ha, w64_in]]
    simp only
    rw [loop_eq]
    by_cases hb : b = 0
    · rw [show cmp_Or_int.l_3 [a, b] 1 = some (.inl 2) by simp [cmp_Or_int.l_3, ix, hb, w64_in]]
      simp only
      rw [loop_eq, show cmp_Or_int.l_3 [a, b] 2 = some (.inr (.inr ())) by simp [cmp_Or_int.l_3]]
      simp [ha, hb, cmp_Or_int.k_1]
    · rw [show cmp_Or_int.l_3 [a, b] 1 = some (.inr (.inl b)) by simp [cmp_Or_int.l_3, ix, hb]]
      simp [ha]
  · rw [show cmp_Or_int.l_3 [a, b] 0 = some (.inr (.inl a)) by simp [cmp_Or_int.l_3, ix, ha]]
    simp [ha]
def befB (a b : GWornPin) : Bool := decide (a.fStep < b.fStep) || ((a.fStep == b.fStep) && (decide (a.fTrack < b.fTrack)))
theorem before_is (a b : GWornPin) : spec_l06Before a b = some (befB a b) := by
  simp only [spec_l06Before, befB]
  by_cases h1 : a.fStep < b.fStep
  · rw [if_pos (by simpa using h1)]; simp [h1]
  · rw [if_neg (by simpa using h1)]; simp [h1]
theorem compare_is (a b : GWornPin) : (impl_comparePins a b).map (fun t => decide (t ≥ 0)) = some (!(befB a b)) := by
  simp only [impl_comparePins, cmp_is, or2, Option.bind_some, Option.map_some, befB]
  congr 1
  rw [Bool.eq_iff_iff]
  simp
  by_cases h1 : a.fStep < b.fStep
  · simp [h1]; omega
  · by_cases h2 : b.fStep < a.fStep
    · simp [h1, h2, show ¬ a.fStep = b.fStep by omega]; omega
    · have h3 : a.fStep = b.fStep := by omega
      simp [h3]
      by_cases h4 : a.fTrack < b.fTrack
      · simp [h4]; try omega
      · by_cases h5 : b.fTrack < a.fTrack
        · simp [h4, h5]; try omega
        · simp [h4, h5]; try omega

theorem comparePins_is (a b : GWornPin) : impl_comparePins a b = some (if a.fStep < b.fStep then -1 else if a.fStep > b.fStep then 1 else if a.fTrack < b.fTrack then -1 else if a.fTrack > b.fTrack then 1 else 0) := by
  simp only [impl_comparePins, cmp_is, or2, Option.bind_some]
  congr 1
  repeat' split
  all_goals first | rfl | omega | simp_all
/-! ### whether a wear is valid -/
def pinOk (f : GFrame) (ps : List GWornPin) (k : Nat) : Bool := match ps[k]? with
  | some p => plB f (w64 p.fStep) (w64 p.fTrack) && (tuB p.fTurns && (decide (k = 0) || match ps[k - 1]? with | some q => befB q p | none => false))
  | none => false
def wearB (f : GFrame) (w : GWear) : Bool := (frameB f && decide (w.fStrokes.length = f.fHammers.length)) && ((List.range w.fPins.length).all (pinOk f w.fPins) && w.fStrokes.all tuB)
theorem pin_step (f : GFrame) (w : GWear) (h : w.fPins.length ≤ 1048576) (k : Nat) (hk : k < w.fPins.length) :
    spec_l06Ok.l_10 f w (k : Int) = some (if pinOk f w.fPins k = true then .inl (w64 ((k : Int) + 1)) else .inr (.inl false)) := by
  simp only [spec_l06Ok.l_10, ix_lt hk, Option.bind_some, l06Place_is, l06Turns_is, before_is]
  rw [if_pos (by simpa using hk)]
  unfold pinOk spec_l06Ok.k_14
  rw [List.getElem?_eq_getElem hk]
  simp only
  by_cases c1 : plB f (w64 w.fPins[k].fStep) (w64 w.fPins[k].fTrack) = true
  · by_cases c2 : tuB w.fPins[k].fTurns = true
    · by_cases h0 : k = 0
      · subst h0; simp [c1, c2]
      · have hk' : k - 1 < w.fPins.length := by omega
        have e : w64 ((k : Int) - 1) = ((k - 1 : Nat) : Int) := by rw [w64_in (by omega) (by omega)]; omega
        rw [List.getElem?_eq_getElem hk', e, ix_lt hk']
        simp only [c1, c2, Bool.not_true, Bool.false_eq_true, if_false, Option.bind_some, Bool.true_and]
        rw [if_pos (by simp; omega)]
        by_cases c3 : befB w.fPins[k - 1] w.fPins[k] = true
        · simp [h0, c3]
        · simp [h0, c3]
    · simp [c1, c2]
  · simp [c1]
theorem pin_step' (f : GFrame) (w : GWear) : impl_ValidWear.l_5 f w = spec_l06Ok.l_10 f w := by
  funext i
  simp only [impl_ValidWear.l_5, spec_l06Ok.l_10, l06Place_is, isPlace_is, l06Turns_is, isMade_is, impl_ValidWear.k_9, spec_l06Ok.k_14, before_is, Option.bind_some]
  congr 1
  congr 1
  funext x
  split
  · rfl
  · split
    · rfl
    · split
      · congr 1
        funext y
        have h := compare_is y x
        obtain ⟨c, hc, hd⟩ := Option.map_eq_some_iff.1 h
        rw [hc, Option.bind_some, hd]
      · rfl
theorem pins_loop (f : GFrame) (w : GWear) (h : w.fPins.length ≤ 1048576) : loop (spec_l06Ok.l_10 f w) 0 = some (if (List.range w.fPins.length).all (pinOk f w.fPins) = true then .inr () else .inl false) :=
  loop_allN w.fPins.length (pinOk f w.fPins) (by omega) (fun k hk => pin_step f w h k hk) (by simp [spec_l06Ok.l_10])
theorem contains_made (a : List Int) (h : a.length ≤ 1048576) : slices_ContainsFunc_int64_at_impl_ValidWear_1 a = some (!(a.all tuB)) := by
  obtain ⟨t, ht, hq⟩ := loop_find (f := slices_IndexFunc_int64_at_impl_ValidWear_1.l_3 a) a (fun x => !(tuB x)) (by omega) (fun k hk => by
    simp only [slices_IndexFunc_int64_at_impl_ValidWear_1.l_3, ix_lt hk, Option.bind_some, impl_ValidWear_1, isMade_is]
    rw [if_pos (by simpa using hk)]
    by_cases he : tuB a[k] = true <;> simp [he]) (by simp [slices_IndexFunc_int64_at_impl_ValidWear_1.l_3])
  simp only [slices_ContainsFunc_int64_at_impl_ValidWear_1, slices_IndexFunc_int64_at_impl_ValidWear_1, ht, Option.bind_some]
  rcases hq with ⟨hany, k, rfl, _⟩ | ⟨hany, rfl⟩
  · rw [any_not] at hany
    rw [hany]; simp
  · rw [any_not] at hany
    rw [hany]; simp [slices_IndexFunc_int64_at_impl_ValidWear_1.k_1]
theorem strokes_is (w : GWear) (h : w.fStrokes.length ≤ 1048576) : spec_l06Ok.k_2 w = some (w.fStrokes.all tuB) := by
  simp only [spec_l06Ok.k_2]
  rw [loop_all w.fStrokes tuB (by omega) (fun k hk => by
    simp only [spec_l06Ok.l_5, ix_lt hk, Option.bind_some, l06Turns_is]
    rw [if_pos (by simpa using hk)]
    by_cases he : tuB w.fStrokes[k] = true <;> simp [he]) (by simp [spec_l06Ok.l_5])]
  simp only [Option.bind_some]
  by_cases h5 : w.fStrokes.all tuB = true
  · rw [if_pos h5, h5]; rfl
  · rw [if_neg h5]; simp only [Bool.not_eq_true] at h5; rw [h5]
theorem l06Ok_is (f : GFrame) (w : GWear) (hf : f.fHammers.length ≤ 1048576) (hp : w.fPins.length ≤ 1048576) (hs : w.fStrokes.length ≤ 1048576) : spec_l06Ok f w = some (wearB f w) := by
  simp only [spec_l06Ok, l02Frame_is f (by omega), Option.bind_some, pins_loop f w hp, strokes_is w hs, wearB]
  cases frameB f with
  | false => simp
  | true =>
    by_cases hl : w.fStrokes.length = f.fHammers.length
    · simp only [hl, decide_true, Bool.true_and]
      rw [if_neg (by simp)]
      cases (List.range w.fPins.length).all (pinOk f w.fPins) <;> simp
    · rw [if_pos (by simp; omega)]
      simp [hl]
theorem validWear_is (f : GFrame) (w : GWear) (hf : f.fHammers.length ≤ 1048576) (hp : w.fPins.length ≤ 1048576) (hs : w.fStrokes.length ≤ 1048576) : impl_ValidWear f w = some (wearB f w) := by
  simp only [impl_ValidWear, validFrame_is f (by omega), Option.bind_some, contains_made _ hs, impl_ValidWear.k_2, pin_step', pins_loop f w hp, wearB]
  cases frameB f with
  | false => simp
  | true =>
    by_cases hl : w.fStrokes.length = f.fHammers.length
    · simp only [hl, decide_true, Bool.true_and]
      rw [if_neg (by simp)]
      cases w.fStrokes.all tuB with
      | false => simp
      | true =>
        cases (List.range w.fPins.length).all (pinOk f w.fPins) <;> simp [impl_ValidWear.k_3]
    · rw [if_pos (by simp; omega)]
      simp [hl]
/-! ### what a valid wear is -/
def WIn (w : GWear) : Prop := ∀ p ∈ w.fPins, (-128 ≤ p.fStep ∧ p.fStep ≤ 127) ∧ (-128 ≤ p.fTrack ∧ p.fTrack ≤ 127)
structure WOk (f : GFrame) (w : GWear) : Prop where
  fr : FOk f
  sl : w.fStrokes.length = f.fHammers.length
  pl : ∀ p ∈ w.fPins, (0 ≤ p.fStep ∧ p.fStep < f.fSteps) ∧ (0 ≤ p.fTrack ∧ p.fTrack < f.fHammers.length) ∧ 0 ≤ p.fTurns ∧ p.fTurns ≤ 1000000
  so : w.fPins.Pairwise fun a b => befB a b = true
  st : ∀ s ∈ w.fStrokes, 0 ≤ s ∧ s ≤ 1000000
theorem befB_iff (a b : GWornPin) : befB a b = true ↔ a.fStep < b.fStep ∨ (a.fStep = b.fStep ∧ a.fTrack < b.fTrack) := by
  unfold befB; simp
theorem wearB_ok {f : GFrame} {w : GWear} (h : wearB f w = true) (hi : FIn f) (hw : WIn w) : WOk f w := by
  unfold wearB at h
  simp only [Bool.and_eq_true, decide_eq_true_eq] at h
  obtain ⟨⟨h1, h2⟩, h3, h4⟩ := h
  have hf := frameB_ok h1 hi
  have key : ∀ k (hk : k < w.fPins.length), plB f (w64 w.fPins[k].fStep) (w64 w.fPins[k].fTrack) = true ∧ tuB w.fPins[k].fTurns = true ∧ (k = 0 ∨ ∃ hk' : k - 1 < w.fPins.length, befB w.fPins[k - 1] w.fPins[k] = true) := by
    intro k hk
    have := List.all_eq_true.1 h3 k (by simpa using hk)
    unfold pinOk at this
    rw [List.getElem?_eq_getElem hk] at this
    simp only [Bool.and_eq_true, Bool.or_eq_true, decide_eq_true_eq] at this
    refine ⟨this.1, this.2.1, ?_⟩
    rcases this.2.2 with h | h
    · exact .inl h
    · right
      have hk' : k - 1 < w.fPins.length := by omega
      rw [List.getElem?_eq_getElem hk'] at h
      exact ⟨hk', h⟩
  refine ⟨hf, h2, ?_, ?_, ?_⟩
  · intro p hp
    obtain ⟨k, hk, rfl⟩ := List.mem_iff_getElem.1 hp
    obtain ⟨a, b, _⟩ := key k hk
    obtain ⟨c, d⟩ := hw _ hp
    rw [plB_ok hf, w64_in (by omega) (by omega), w64_in (by omega) (by omega)] at a
    unfold tuB at b
    simp only [Bool.and_eq_true, decide_eq_true_eq] at b
    exact ⟨a.1, a.2, b⟩
  · rw [List.pairwise_iff_getElem]
    intro i j hi hj hij
    induction j with
    | zero => omega
    | succ j ih =>
      obtain ⟨_, _, h | ⟨hk', h⟩⟩ := key (j + 1) hj
      · omega
      · simp only [Nat.add_sub_cancel] at h
        by_cases e : i = j
        · subst e; exact h
        · have := ih (by omega) (by omega)
          rw [befB_iff] at this h ⊢
          omega
  · intro s hs
    have := List.all_eq_true.1 h4 s hs
    unfold tuB at this
    simpa using this
theorem wearB_of {f : GFrame} {w : GWear} (h : WOk f w) : wearB f w = true := by
  obtain ⟨hf, h2, h3, h4, h5⟩ := h
  have h0 := hf.s0; have h1 := hf.s1; have h6 := hf.h1
  unfold wearB
  simp only [Bool.and_eq_true, decide_eq_true_eq]
  refine ⟨⟨frameB_of hf, h2⟩, ?_, ?_⟩
  · rw [List.all_eq_true]
    intro k hk
    have hk : k < w.fPins.length := by simpa using hk
    unfold pinOk
    rw [List.getElem?_eq_getElem hk]
    simp only [Bool.and_eq_true, Bool.or_eq_true, decide_eq_true_eq]
    obtain ⟨a, b, c⟩ := h3 _ (List.getElem_mem hk)
    refine ⟨?_, ?_, ?_⟩
    · rw [plB_ok hf, w64_in (by omega) (by omega), w64_in (by omega) (by omega)]
      exact ⟨a, b⟩
    · unfold tuB; simp [c]
    · by_cases e : k = 0
      · exact .inl e
      · right
        rw [List.getElem?_eq_getElem (show k - 1 < w.fPins.length by omega)]
        exact List.pairwise_iff_getElem.1 h4 (k - 1) k (by omega) hk (by omega)
  · rw [List.all_eq_true]
    intro s hs
    unfold tuB
    simpa using h5 s hs

end Go.Proofs.YtfkjghkjimcmdaaGreat
