/- Valid frames and valid wear: the program's answers are the reference's; the law's plain function answers true at every input that a caller can hand in. -/
import Derived.Test.YtdnkjgmncfhejaaS
namespace Go.Proofs.Ytdnkjgmncfhejaa
open Eng
set_option linter.unusedVariables false
set_option linter.unusedSimpArgs false

theorem within_in (n lo hi : Int) : impl_within n lo hi = spec_l00In n lo hi := by simp [impl_within, spec_l00In, ge_iff_le]

def hamB (f : GFrame) (x : GHammer) : Bool :=
  ((decide (w64 x.fPitch ≥ 0)) && (decide (w64 x.fPitch ≤ 47))) && ((decide (w64 x.fReady ≥ 1)) && (decide (w64 x.fReady ≤ (if w64 f.fSteps < 20 then w64 f.fSteps else 20))))
theorem ham_impl (f : GFrame) (x : GHammer) : impl_ValidFrame_1 x f = some (!(hamB f x)) := by
  simp only [impl_ValidFrame_1, impl_isPitch, within_in, spec_l00In, Option.bind_some, hamB]
  by_cases h : ((decide (w64 x.fPitch ≥ 0)) && (decide (w64 x.fPitch ≤ 47))) = true
  · rw [h]; simp
  · simp only [Bool.not_eq_true] at h; rw [h]; simp
def frameB (f : GFrame) : Bool := ((decide (w64 f.fSteps ≥ 2)) && (decide (w64 f.fSteps ≤ 96))) && (((decide ((f.fHammers.length : Int) ≥ 1)) && (decide ((f.fHammers.length : Int) ≤ 24))) && f.fHammers.all (hamB f))
theorem any_not {S : Type} (p : S → Bool) (a : List S) : a.any (fun x => !(p x)) = !(a.all p) := by
  induction a with
  | nil => rfl
  | cons x a ih => simp [ih]
theorem contains_ham (f : GFrame) (a : List GHammer) (h : a.length ≤ 9223372036854775807) : slices_ContainsFunc_Hammer_at_impl_ValidFrame_1 a f = some (!(a.all (hamB f))) := by
  obtain ⟨t, ht, hq⟩ := loop_find (f := slices_IndexFunc_Hammer_at_impl_ValidFrame_1.l_3 a f) a (fun x => !(hamB f x)) (by omega) (fun k hk => by
    simp only [slices_IndexFunc_Hammer_at_impl_ValidFrame_1.l_3, ix_lt hk, Option.bind_some, ham_impl]
    rw [if_pos (by simpa using hk)]
    by_cases he : hamB f a[k] = true <;> simp [he]) (by simp [slices_IndexFunc_Hammer_at_impl_ValidFrame_1.l_3])
  simp only [slices_ContainsFunc_Hammer_at_impl_ValidFrame_1, slices_IndexFunc_Hammer_at_impl_ValidFrame_1, ht, Option.bind_some]
  rcases hq with ⟨hany, k, rfl, _⟩ | ⟨hany, rfl⟩
  · rw [any_not] at hany
    rw [hany]; simp
  · rw [any_not] at hany
    rw [hany]; simp [slices_IndexFunc_Hammer_at_impl_ValidFrame_1.k_1]
theorem validFrame_is (f : GFrame) (h : f.fHammers.length ≤ 9223372036854775807) : impl_ValidFrame f = some (frameB f) := by
  simp only [impl_ValidFrame, within_in, spec_l00In, impl_size_Hammer, Option.bind_some, contains_ham f _ h, Bool.not_not, frameB]
  by_cases h1 : ((decide (w64 f.fSteps ≥ 2)) && (decide (w64 f.fSteps ≤ 96))) = true
  · rw [h1]
    by_cases h2 : ((decide ((f.fHammers.length : Int) ≥ 1)) && (decide ((f.fHammers.length : Int) ≤ 24))) = true
    · rw [h2]; simp
    · simp only [Bool.not_eq_true] at h2; rw [h2]; simp
  · simp only [Bool.not_eq_true] at h1; rw [h1]; simp
theorem l02Frame_is (f : GFrame) (h : f.fHammers.length ≤ 9223372036854775807) : spec_l02Frame f = some (frameB f) := by
  simp only [spec_l02Frame, spec_l00In, Option.bind_some, frameB]
  by_cases h1 : ((decide (w64 f.fSteps ≥ 2)) && (decide (w64 f.fSteps ≤ 96))) = true
  · rw [h1]
    by_cases h2 : ((decide ((f.fHammers.length : Int) ≥ 1)) && (decide ((f.fHammers.length : Int) ≤ 24))) = true
    · rw [h2]
      simp only [spec_l02Frame.k_2, Bool.not_true, Bool.true_and]
      rw [if_neg (by simp), if_neg (by simp), loop_all f.fHammers (hamB f) h (fun k hk => by
        simp only [spec_l02Frame.l_5, ix_lt hk, Option.bind_some, spec_l00In, spec_l00Min, spec_l02Frame.k_9]
        rw [if_pos (by simpa using hk)]
        have em : (if (decide (20 < w64 f.fSteps)) = true then some 20 else some (w64 f.fSteps)) = some (if w64 f.fSteps < 20 then w64 f.fSteps else 20) := by
          simp only [decide_eq_true_eq]
          by_cases c1 : 20 < w64 f.fSteps
          · rw [if_pos c1, if_neg (by omega)]
          · rw [if_neg c1]; by_cases c2 : w64 f.fSteps < 20
            · rw [if_pos c2]
            · rw [if_neg c2]; congr 1; omega
        rw [em]
        simp only [Option.bind_some]
        by_cases h3 : ((decide (w64 f.fHammers[k].fPitch ≥ 0)) && (decide (w64 f.fHammers[k].fPitch ≤ 47))) = true
        · by_cases h4 : ((decide (w64 f.fHammers[k].fReady ≥ 1)) && (decide (w64 f.fHammers[k].fReady ≤ (if w64 f.fSteps < 20 then w64 f.fSteps else 20)))) = true
          · simp only [hamB, h3, h4]; simp
          · simp only [Bool.not_eq_true] at h4; simp only [hamB, h3, h4]; simp
        · simp only [Bool.not_eq_true] at h3; simp only [hamB, h3]; simp) (by simp [spec_l02Frame.l_5])]
      by_cases h5 : f.fHammers.all (hamB f) = true
      · rw [if_pos h5, h5]; rfl
      · rw [if_neg h5]; simp only [Bool.not_eq_true] at h5; rw [h5]; rfl
    · simp only [Bool.not_eq_true] at h2; rw [h2]; simp [spec_l02Frame.k_2]
  · simp only [Bool.not_eq_true] at h1; rw [h1]; simp [spec_l02Frame.k_2]

/-! ### wear -/
theorem place_same (f : GFrame) (s t : Int) : impl_Frame_isPlace f s t = spec_l06Place f s t := by
  simp only [impl_Frame_isPlace, spec_l06Place, within_in, impl_size_Hammer, Option.bind_some]
theorem made_same (n : Int) : impl_isMade n = spec_l06Turns n := by simp only [impl_isMade, spec_l06Turns, within_in]
theorem cmp_is (x y : Int) : cmp_Compare_int8 x y = some (if x < y then -1 else if x > y then 1 else 0) := by
  simp only [cmp_Compare_int8, cmp_isNaN_int8, Option.bind_some]
  simp
  repeat' split
  all_goals rfl
theorem or2 (a b : Int) : cmp_Or_int [a, b] = some (if a ≠ 0 then a else b) := by
  simp only [cmp_Or_int]
  rw [loop_eq]
  by_cases ha : a = 0
  · rw [show cmp_Or_int.l_3 [a, b] 0 = some (.inl 1) by simp [cmp_Or_int.l_3, ix, ha, w64_in]]
    simp only
    rw [loop_eq]
    by_cases hb : b = 0
    · rw [show cmp_Or_int.l_3 [a, b] 1 = some (.inl 2) by simp [cmp_Or_int.l_3, ix, hb, w64_in]]
      simp only
      rw [loop_eq, show cmp_Or_int.l_3 [a, b] 2 = some (.inr (.inr ())) by simp [cmp_Or_int.l_3]]
      simp [ha, hb, cmp_Or_int.k_1]
    · rw [show cmp_Or_int.l_3 [a, b] 1 = some (.inr (.inl b)) by simp [cmp_Or_int.l_3, ix, hb]]
      simp [ha]
  · rw [show cmp_Or_int.l_3 [a, b] 0 = some (.inr (.inl a)) by simp [cmp_Or_int.l_3, ix, ha]]
    simp [ha]
def befB (a b : GWornPin) : Bool := decide (a.fStep < b.fStep) || ((a.fStep == b.fStep) && (decide (a.fTrack < b.fTrack)))
theorem before_is (a b : GWornPin) : spec_l06Before a b = some (befB a b) := by
  simp only [spec_l06Before, befB]
  by_cases h1 : a.fStep < b.fStep
  · rw [if_pos (by simpa using h1)]; simp [h1]
  · rw [if_neg (by simpa using h1)]; simp [h1]
theorem compare_is (a b : GWornPin) : (impl_comparePins a b).map (fun t => decide (t ≥ 0)) = some (!(befB a b)) := by
  simp only [impl_comparePins, cmp_is, or2, Option.bind_some, Option.map_some, befB]
  congr 1
  rw [Bool.eq_iff_iff]
  simp
  by_cases h1 : a.fStep < b.fStep
  · simp [h1]; omega
  · by_cases h2 : b.fStep < a.fStep
    · simp [h1, h2, show ¬ a.fStep = b.fStep by omega]; omega
    · have h3 : a.fStep = b.fStep := by omega
      simp [h3]
      by_cases h4 : a.fTrack < b.fTrack
      · simp [h4]; try omega
      · by_cases h5 : b.fTrack < a.fTrack
        · simp [h4, h5]; try omega
        · simp [h4, h5]; try omega
theorem pins_same (f : GFrame) (w : GWear) : impl_ValidWear.l_5 f w = spec_l06Ok.l_10 f w := by
  funext i
  simp only [impl_ValidWear.l_5, spec_l06Ok.l_10, place_same, made_same, impl_ValidWear.k_9, spec_l06Ok.k_14, before_is, Option.bind_some]
  congr 1
  funext
  congr 1
  funext x
  congr 1
  funext t
  split
  · rfl
  · congr 1
    funext t2
    split
    · rfl
    · split
      · congr 1
        funext y
        have h := compare_is y x
        obtain ⟨c, hc, hd⟩ := Option.map_eq_some_iff.1 h
        rw [hc, Option.bind_some, hd]
      · rfl

theorem turns_is (n : Int) : ∃ b, spec_l06Turns n = some b := by simp only [spec_l06Turns, spec_l00In, Option.bind_some]; exact ⟨_, rfl⟩
theorem place_is (f : GFrame) (s t : Int) : ∃ b, spec_l06Place f s t = some b := by
  simp only [spec_l06Place, spec_l00In, Option.bind_some]
  split <;> exact ⟨_, rfl⟩
noncomputable def turB (n : Int) : Bool := (spec_l06Turns n).getD false
theorem turB_is (n : Int) : spec_l06Turns n = some (turB n) := by
  obtain ⟨b, hb⟩ := turns_is n
  simp [turB, hb]
theorem pins_is (f : GFrame) (w : GWear) (h : w.fPins.length ≤ 1048576) : ∃ t, loop (spec_l06Ok.l_10 f w) 0 = some t ∧ (t = .inl false ∨ t = .inr ()) := by
  refine loop_cnt (f := spec_l06Ok.l_10 f w) w.fPins.length (by omega) (fun _ => True) _ (fun k hk _ => ?_) (fun _ => ⟨_, by simp [spec_l06Ok.l_10], .inr rfl⟩) trivial
  obtain ⟨b1, hb1⟩ := place_is f (w64 w.fPins[k].fStep) (w64 w.fPins[k].fTrack)
  obtain ⟨b2, hb2⟩ := turns_is w.fPins[k].fTurns
  have key : ∃ q, spec_l06Ok.l_10 f w (k : Int) = spec_l06Ok.k_14 (k : Int) q := by
    simp only [spec_l06Ok.l_10, ix_lt hk, Option.bind_some, hb1, hb2, before_is]
    rw [if_pos (by simpa using hk)]
    cases b1 with
    | false => exact ⟨true, by simp⟩
    | true =>
      cases b2 with
      | false => exact ⟨true, by simp⟩
      | true =>
        by_cases h0 : (k : Int) > 0
        · have hk' : k - 1 < w.fPins.length := by omega
          have e : w64 ((k : Int) - 1) = ((k - 1 : Nat) : Int) := by rw [w64_in (by omega) (by omega)]; omega
          exact ⟨!(befB w.fPins[k - 1] w.fPins[k]), by simp [h0, e, ix_lt hk']; intro; omega⟩
        · exact ⟨false, by simp [h0]; intro; omega⟩
  obtain ⟨q, hq⟩ := key
  cases q with
  | true => exact .inr ⟨.inl false, by rw [hq]; rfl, .inl rfl⟩
  | false => exact .inl ⟨by rw [hq]; rfl, trivial⟩
theorem contains_made (a : List Int) (h : a.length ≤ 1048576) : slices_ContainsFunc_int64_at_impl_ValidWear_1 a = some (!(a.all turB)) := by
  obtain ⟨t, ht, hq⟩ := loop_find (f := slices_IndexFunc_int64_at_impl_ValidWear_1.l_3 a) a (fun x => !(turB x)) (by omega) (fun k hk => by
    simp only [slices_IndexFunc_int64_at_impl_ValidWear_1.l_3, ix_lt hk, Option.bind_some, impl_ValidWear_1, made_same, turB_is]
    rw [if_pos (by simpa using hk)]
    by_cases he : turB a[k] = true <;> simp [he]) (by simp [slices_IndexFunc_int64_at_impl_ValidWear_1.l_3])
  simp only [slices_ContainsFunc_int64_at_impl_ValidWear_1, slices_IndexFunc_int64_at_impl_ValidWear_1, ht, Option.bind_some]
  rcases hq with ⟨hany, k, rfl, _⟩ | ⟨hany, rfl⟩
  · rw [any_not] at hany
    rw [hany]; simp
  · rw [any_not] at hany
    rw [hany]; simp [slices_IndexFunc_int64_at_impl_ValidWear_1.k_1]
theorem strokes_is (w : GWear) (h : w.fStrokes.length ≤ 1048576) : spec_l06Ok.k_2 w = some (w.fStrokes.all turB) := by
  simp only [spec_l06Ok.k_2]
  rw [loop_all w.fStrokes turB (by omega) (fun k hk => by
    simp only [spec_l06Ok.l_5, ix_lt hk, Option.bind_some, turB_is]
    rw [if_pos (by simpa using hk)]
    by_cases he : turB w.fStrokes[k] = true <;> simp [he]) (by simp [spec_l06Ok.l_5])]
  simp only [Option.bind_some]
  by_cases h5 : w.fStrokes.all turB = true
  · rw [if_pos h5, h5]; rfl
  · rw [if_neg h5]; simp only [Bool.not_eq_true] at h5; rw [h5]
theorem validWear_same (f : GFrame) (w : GWear) (hf : f.fHammers.length ≤ 1048576) (hp : w.fPins.length ≤ 1048576) (hs : w.fStrokes.length ≤ 1048576) :
    ∃ b, spec_l06Ok f w = some b ∧ impl_ValidWear f w = some b := by
  obtain ⟨t, ht, hc⟩ := pins_is f w hp
  simp only [spec_l06Ok, impl_ValidWear, l02Frame_is f (by omega), validFrame_is f (by omega), Option.bind_some, contains_made _ hs, impl_ValidWear.k_2, pins_same, ht, strokes_is w hs]
  by_cases h1 : ((!(frameB f)) || ((w.fStrokes.length : Int) != (f.fHammers.length : Int))) = true
  · exact ⟨false, by simp [h1], by simp [h1]⟩
  · simp only [Bool.not_eq_true] at h1
    by_cases h2 : w.fStrokes.all turB = true
    · rcases hc with rfl | rfl
      · exact ⟨false, by simp [h1], by simp [h1]⟩
      · exact ⟨true, by simp [h1, h2], by simp [h1, h2, impl_ValidWear.k_3]⟩
    · simp only [Bool.not_eq_true] at h2
      refine ⟨false, ?_, by simp [h1, h2]⟩
      rcases hc with rfl | rfl <;> simp [h1, h2]
theorem FnExactValidWear_ok (f : GFrame) (w : GWear) (hf : okGFrame f) (hw : okGWear w) : laws_FnExactValidWear f w = some true := by
  obtain ⟨_, hf, _⟩ := hf
  obtain ⟨⟨hp, _⟩, hs, _⟩ := hw
  simp only [laws_FnExactValidWear]
  rw [laws_szFrame_is f _ (by omega) (by omega) hf]
  simp only [Option.bind_some]
  by_cases h : (1048576 : Int) < (f.fHammers.length : Int)
  · rw [if_pos h, if_pos (by simp)]
  · rw [if_neg h, if_neg (by simp; omega), laws_szWear_is w _ (by omega) (by omega) hp hs]
    simp only [Option.bind_some]
    by_cases h' : (1048576 : Int) - (f.fHammers.length : Int) < (w.fPins.length : Int) + (w.fStrokes.length : Int)
    · rw [if_pos h', if_pos (by simp)]
    · rw [if_neg h', if_neg (by simp; omega)]
      obtain ⟨b, h1, h2⟩ := validWear_same f w (by omega) (by omega) (by omega)
      simp only [laws_toFrame_is f (by omega), laws_toWear_is w (by omega), Option.bind_some, spec_ValidWear, h1, h2, laws_eqFrame_is f _ (by omega), laws_eqWear_is w _ (by omega)]
      simp
end Go.Proofs.Ytdnkjgmncfhejaa
