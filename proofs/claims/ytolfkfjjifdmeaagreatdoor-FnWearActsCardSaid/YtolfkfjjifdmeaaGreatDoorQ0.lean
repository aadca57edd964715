/- Plain texts of this seat, in one. -/
import Derived.Test.YtolfkfjjifdmeaaGreatDoorM0
import Derived.Test.YtolfkfjjifdmeaaGreatDoorPure
import Derived.Test.YtolfkfjjifdmeaaGreatDoorM1
import Derived.Test.YtolfkfjjifdmeaaGreatDoorM2
import Derived.Test.YtolfkfjjifdmeaaGreatDoorT
/- Valid frames: the program's test is the reference's. -/
namespace Go.Proofs.YtolfkfjjifdmeaaGreatDoor
open Eng
set_option linter.unusedVariables false
set_option linter.unusedSimpArgs false

theorem within_in (n lo hi : Int) : impl_within n lo hi = spec_l00In n lo hi := by simp [impl_within, spec_l00In, ge_iff_le]

def hamB (f : GFrame) (x : GHammer) : Bool :=
  ((decide (w64 x.fPitch ≥ 0)) && (decide (w64 x.fPitch ≤ 47))) && ((decide (w64 x.fReady ≥ 1)) && (decide (w64 x.fReady ≤ (if w64 f.fSteps < 20 then w64 f.fSteps else 20))))
theorem ham_impl (f : GFrame) (x : GHammer) : impl_ValidFrame_1 x f = some (!(hamB f x)) := by
  simp only [impl_ValidFrame_1, impl_isPitch, within_in, spec_l00In, Option.bind_some, hamB]
  by_cases h : ((decide (w64 x.fPitch ≥ 0)) && (decide (w64 x.fPitch ≤ 47))) = true
  · rw [h]; simp
  · simp only [Bool.not_eq_true] at h; rw [h]; simp
def frameB (f : GFrame) : Bool := ((decide (w64 f.fSteps ≥ 2)) && (decide (w64 f.fSteps ≤ 96))) && (((decide ((f.fHammers.length : Int) ≥ 1)) && (decide ((f.fHammers.length : Int) ≤ 24))) && f.fHammers.all (hamB f))
theorem any_not {S : Type} (p : S → Bool) (a : List S) : a.any (fun x => !(p x)) = !(a.all p) := by
  induction a with
  | nil => rfl
  | cons x a ih => simp [ih]
theorem contains_ham (f : GFrame) (a : List GHammer) (h : a.length ≤ 9223372036854775807) : slices_ContainsFunc_Hammer_at_impl_ValidFrame_1 a f = some (!(a.all (hamB f))) := by
  obtain ⟨t, ht, hq⟩ := loop_find (f := slices_IndexFunc_Hammer_at_impl_ValidFrame_1.l_3 a f) a (fun x => !(hamB f x)) (by omega) (fun k hk => by
    simp only [slices_IndexFunc_Hammer_at_impl_ValidFrame_1.l_3, ix_lt hk, Option.bind_some, ham_impl]
    rw [if_pos (by simpa using hk)]
    by_cases he : hamB f a[k] = true <;> simp [he]) (by simp [slices_IndexFunc_Hammer_at_impl_ValidFrame_1.l_3])
  simp only [slices_ContainsFunc_Hammer_at_impl_ValidFrame_1, slices_IndexFunc_Hammer_at_impl_ValidFrame_1, ht, Option.bind_some]
  rcases hq with ⟨hany, k, rfl, _⟩ | ⟨hany, rfl⟩
  · rw [any_not] at hany
    rw [hany]; simp
  · rw [any_not] at hany
    rw [hany]; simp [slices_IndexFunc_Hammer_at_impl_ValidFrame_1.k_1]
theorem validFrame_is (f : GFrame) (h : f.fHammers.length ≤ 9223372036854775807) : impl_ValidFrame f = some (frameB f) := by
  simp only [impl_ValidFrame, within_in, spec_l00In, impl_size_Hammer, Option.bind_some, contains_ham f _ h, Bool.not_not, frameB]
  by_cases h1 : ((decide (w64 f.fSteps ≥ 2)) && (decide (w64 f.fSteps ≤ 96))) = true
  · rw [h1]
    by_cases h2 : ((decide ((f.fHammers.length : Int) ≥ 1)) && (decide ((f.fHammers.length : Int) ≤ 24))) = true
    · rw [h2]; simp
    · simp only [Bool.not_eq_true] at h2; rw [h2]; simp
  · simp only [Bool.not_eq_true] at h1; rw [h1]; simp
theorem l02Frame_is (f : GFrame) (h : f.fHammers.length ≤ 9223372036854775807) : spec_l02Frame f = some (frameB f) := by
  simp only [spec_l02Frame, spec_l00In, Option.bind_some, frameB]
  by_cases h1 : ((decide (w64 f.fSteps ≥ 2)) && (decide (w64 f.fSteps ≤ 96))) = true
  · rw [h1]
    by_cases h2 : ((decide ((f.fHammers.length : Int) ≥ 1)) && (decide ((f.fHammers.length : Int) ≤ 24))) = true
    · rw [h2]
      simp only [spec_l02Frame.k_2, Bool.not_true, Bool.true_and]
      rw [if_neg (by simp), if_neg (by simp), loop_all f.fHammers (hamB f) h (fun k hk => by
        simp only [spec_l02Frame.l_5, ix_lt hk, Option.bind_some, spec_l00In, spec_l00Min, spec_l02Frame.k_9]
        rw [if_pos (by simpa using hk)]
        have em : (if (decide (20 < w64 f.fSteps)) = true then some 20 else some (w64 f.fSteps)) = some (if w64 f.fSteps < 20 then w64 f.fSteps else 20) := by
          simp only [decide_eq_true_eq]
          by_cases c1 : 20 < w64 f.fSteps
          · rw [if_pos c1, if_neg (by omega)]
          · rw [if_neg c1]; by_cases c2 : w64 f.fSteps < 20
            · rw [if_pos c2]
            · rw [if_neg c2]; congr 1; omega
        rw [em]
        simp only [Option.bind_some]
        by_cases h3 : ((decide (w64 f.fHammers[k].fPitch ≥ 0)) && (decide (w64 f.fHammers[k].fPitch ≤ 47))) = true
        · by_cases h4 : ((decide (w64 f.fHammers[k].fReady ≥ 1)) && (decide (w64 f.fHammers[k].fReady ≤ (if w64 f.fSteps < 20 then w64 f.fSteps else 20)))) = true
          · simp only [hamB, h3, h4]; simp
          · simp only [Bool.not_eq_true] at h4; simp only [hamB, h3, h4]; simp
        · simp only [Bool.not_eq_true] at h3; simp only [hamB, h3]; simp) (by simp [spec_l02Frame.l_5])]
      by_cases h5 : f.fHammers.all (hamB f) = true
      · rw [if_pos h5, h5]; rfl
      · rw [if_neg h5]; simp only [Bool.not_eq_true] at h5; rw [h5]; rfl
    · simp only [Bool.not_eq_true] at h2; rw [h2]; simp [spec_l02Frame.k_2]
  · simp only [Bool.not_eq_true] at h1; rw [h1]; simp [spec_l02Frame.k_2]


/-- what a valid frame is -/
structure FOk (f : GFrame) : Prop where
  s0 : 2 ≤ f.fSteps
  s1 : f.fSteps ≤ 96
  h0 : 1 ≤ f.fHammers.length
  h1 : f.fHammers.length ≤ 24
  hp : ∀ h ∈ f.fHammers, 0 ≤ h.fPitch ∧ h.fPitch ≤ 47 ∧ 1 ≤ h.fReady ∧ h.fReady ≤ 20 ∧ h.fReady ≤ f.fSteps
/-- what a frame's numbers are as numbers of their kinds -/
def FIn (f : GFrame) : Prop := (-32768 ≤ f.fSteps ∧ f.fSteps ≤ 32767) ∧ ∀ h ∈ f.fHammers, (-128 ≤ h.fPitch ∧ h.fPitch ≤ 127) ∧ (-128 ≤ h.fReady ∧ h.fReady ≤ 127)
theorem frameB_ok {f : GFrame} (h : frameB f = true) (hi : FIn f) : FOk f := by
  unfold frameB at h
  simp only [Bool.and_eq_true, decide_eq_true_eq, List.all_eq_true] at h
  obtain ⟨⟨h1, h2⟩, ⟨h3, h4⟩, h5⟩ := h
  obtain ⟨hs, hh⟩ := hi
  rw [w64_in (by omega) (by omega)] at h1 h2
  refine ⟨h1, h2, by omega, by omega, fun x hx => ?_⟩
  have h6 := h5 x hx
  obtain ⟨hp, hr⟩ := hh x hx
  unfold hamB at h6
  simp only [Bool.and_eq_true, decide_eq_true_eq] at h6
  rw [w64_in (n := x.fPitch) (by omega) (by omega), w64_in (n := x.fReady) (by omega) (by omega), w64_in (n := f.fSteps) (by omega) (by omega)] at h6
  obtain ⟨⟨h7, h8⟩, h9, h10⟩ := h6
  split at h10 <;> exact ⟨h7, h8, h9, by omega, by omega⟩
theorem frameB_of {f : GFrame} (h : FOk f) : frameB f = true := by
  obtain ⟨h1, h2, h3, h4, h5⟩ := h
  unfold frameB
  simp only [Bool.and_eq_true, decide_eq_true_eq, List.all_eq_true]
  rw [w64_in (n := f.fSteps) (by omega) (by omega)]
  refine ⟨⟨h1, h2⟩, ⟨by omega, by omega⟩, fun x hx => ?_⟩
  obtain ⟨a, b, c, d, e⟩ := h5 x hx
  unfold hamB
  simp only [Bool.and_eq_true, decide_eq_true_eq]
  rw [w64_in (n := x.fPitch) (by omega) (by omega), w64_in (n := x.fReady) (by omega) (by omega), w64_in (n := f.fSteps) (by omega) (by omega)]
  refine ⟨⟨a, b⟩, c, ?_⟩
  split <;> omega

end Go.Proofs.YtolfkfjjifdmeaaGreatDoor
/- Drums: pins as bits; the program's tests of drums are the reference's. -/
namespace Go.Proofs.YtolfkfjjifdmeaaGreatDoor
open Eng
set_option linter.unusedVariables false
set_option linter.unusedSimpArgs false

theorem size_is (a : List GHammer) : impl_size_Hammer a = some (a.length : Int) := rfl
theorem unless_is (b : Bool) (c : Int) : impl_unless b c = some (if b then 0 else c) := by
  unfold impl_unless; cases b <;> rfl
/-! ### rows and pins -/
def DIn (d : Arr 96 Int) : Prop := ∀ y ∈ d.1, 0 ≤ y ∧ y ≤ 4294967295
def row' (d : Arr 96 Int) (s : Nat) : Nat := ((d.1[s]?).getD 0).toNat
def pin (d : Arr 96 Int) (s t : Nat) : Bool := (row' d s).testBit t
theorem ix_row {d : Arr 96 Int} (hd : DIn d) {s : Nat} (hs : s < 96) : ix d.1 (s : Int) = some (row' d s : Int) := by
  have hl : s < d.1.length := by rw [d.2]; exact hs
  rw [ix_lt hl]
  have := hd _ (List.getElem_mem hl)
  unfold row'
  rw [List.getElem?_eq_getElem hl, Option.getD_some]
  congr 1
  omega
theorem row_lt {d : Arr 96 Int} (hd : DIn d) (s : Nat) : row' d s < 4294967296 := by
  unfold row'
  by_cases hl : s < d.1.length
  · have := hd _ (List.getElem_mem hl)
    rw [List.getElem?_eq_getElem hl, Option.getD_some]
    omega
  · rw [List.getElem?_eq_none (by omega)]; simp
theorem row_set {d : Arr 96 Int} {s : Nat} (hs : s < 96) (v : Nat) (k : Nat) : row' (d.set (s : Int) (v : Int)) k = if s = k then v else row' d k := by
  unfold row' Arr.set
  simp only [Int.toNat_natCast]
  rw [List.getElem?_set]
  by_cases h : s = k
  · subst h
    rw [if_pos rfl, if_pos rfl, if_pos (by rw [d.2]; exact hs)]; simp
  · rw [if_neg h, if_neg h]
theorem DIn_set {d : Arr 96 Int} (hd : DIn d) (s : Nat) {v : Nat} (hv : v < 4294967296) : DIn (d.set (s : Int) (v : Int)) := by
  intro y hy
  rcases List.mem_or_eq_of_mem_set hy with h | rfl
  · exact hd y h
  · omega
theorem DIn_rep : DIn (Arr.rep 96 0) := by
  intro y hy
  have := List.eq_of_mem_replicate hy
  omega
theorem row_rep (k : Nat) : row' (Arr.rep 96 0) k = 0 := by
  unfold row' Arr.rep
  rw [List.getElem?_replicate]
  split <;> rfl
theorem pin_rep (s t : Nat) : pin (Arr.rep 96 0) s t = false := by unfold pin; rw [row_rep]; simp
/-! ### whether there is a pin -/
theorem has_is {d : Arr 96 Int} (hd : DIn d) {s t : Nat} (hs : s < 96) (ht : t ≤ 32) : impl_Drum_has d (s : Int) (t : Int) = some (pin d s t) := by
  simp only [impl_Drum_has, ix_row hd hs, Option.bind_some]
  rw [if_pos (by omega), bShr_nat .u32 _ _ ht]
  have hlt := row_lt hd s
  rw [show (1 : Int) = ((1 : Nat) : Int) from rfl, bAnd32 _ 1 (Nat.lt_of_le_of_lt (Nat.shiftRight_le _ _) hlt) (by omega)]
  congr 1
  unfold pin
  have hb := bit_and (row' d s) t
  rw [Bool.eq_iff_iff, ← hb]
  simp only [beq_iff_eq]
  omega
theorem pin_is {d : Arr 96 Int} (hd : DIn d) {s t : Nat} (hs : s < 96) (ht : t ≤ 32) : spec_l02Pin d (s : Int) (t : Int) = some (pin d s t) := by
  simp only [spec_l02Pin, ix_row hd hs, Option.bind_some]
  rw [u64_in (by omega) (by omega), if_pos (by omega), bShr_nat .u32 _ _ ht]
  rw [show (2 : Int) = ((2 : Nat) : Int) from rfl, tmod_nat]
  congr 1
  unfold pin
  have hb := bit_mod (row' d s) t
  rw [Bool.eq_iff_iff, ← hb]
  simp only [beq_iff_eq]
  omega
/-! ### whether a drum is valid -/
def rowB (f : GFrame) (d : Arr 96 Int) (k : Nat) : Bool := decide (row' d k >>> f.fHammers.length = 0) && (decide ((k : Int) < f.fSteps) || decide (row' d k = 0))
def drumB (f : GFrame) (d : Arr 96 Int) : Bool := (List.range 96).all (rowB f d)
theorem loop_allN {f : Int → Option (Int ⊕ (Bool ⊕ Unit))} (n : Nat) (p : Nat → Bool) (hn : n ≤ 9223372036854775807) (hf : ∀ k, k < n → f (k : Int) = some (if p k = true then .inl (w64 ((k : Int) + 1)) else .inr (.inl false))) (he : f (n : Int) = some (.inr (.inr ()))) :
    loop f 0 = some (if (List.range n).all p = true then .inr () else .inl false) := by
  have := loop_all (f := f) (List.range n) p (by simpa using hn) (fun k hk => by rw [List.getElem_range]; exact hf k (by simpa using hk)) (by rw [List.length_range]; exact he)
  exact this
theorem l02Drum_is {f : GFrame} {d : Arr 96 Int} (hf : FOk f) (hd : DIn d) : spec_l02Drum f d = some (drumB f d) := by
  have h1 := hf.h1
  simp only [spec_l02Drum]
  rw [loop_allN 96 (rowB f d) (by omega) (fun k hk => by
    simp only [spec_l02Drum.l_3, ix_row hd hk, Option.bind_some]
    rw [if_pos (by simp; omega), u64_in (by omega) (by omega), if_pos (by omega), bShr_nat .u32 _ _ (show f.fHammers.length ≤ 32 by omega), w64_in (by have := hf.s0; omega) (by have := hf.s1; omega)]
    unfold rowB spec_l02Drum.k_6
    generalize row' d k >>> f.fHammers.length = z
    by_cases c1 : z = 0
    · by_cases c2 : (k : Int) < f.fSteps
      · simp [c1, c2, show ¬ f.fSteps ≤ (k : Int) by omega]
      · by_cases c3 : row' d k = 0
        · simp [c1, c2, c3]
        · simp [c1, c2, c3, show f.fSteps ≤ (k : Int) by omega]
    · simp [c1]) (by simp [spec_l02Drum.l_3])]
  unfold drumB
  cases (List.range 96).all (rowB f d) <;> rfl
theorem drumB_of {f : GFrame} {d : Arr 96 Int} (h : ∀ s t, pin d s t = true → (s : Int) < f.fSteps ∧ t < f.fHammers.length) : drumB f d = true := by
  unfold drumB
  rw [List.all_eq_true]
  intro k hk
  unfold rowB
  simp only [Bool.and_eq_true, decide_eq_true_eq, Bool.or_eq_true]
  constructor
  · apply Nat.eq_of_testBit_eq
    intro i
    rw [Nat.testBit_shiftRight, Nat.zero_testBit]
    cases hb : (row' d k).testBit (f.fHammers.length + i) with
    | false => rfl
    | true => have := (h k _ hb).2; omega
  · by_cases hs : (k : Int) < f.fSteps
    · exact .inl hs
    · right
      apply Nat.eq_of_testBit_eq
      intro i
      rw [Nat.zero_testBit]
      cases hb : (row' d k).testBit i with
      | false => rfl
      | true => exact absurd (h k i hb).1 hs

end Go.Proofs.YtolfkfjjifdmeaaGreatDoor
/- The codes of frames, drums and places: the program's are the reference's. -/
namespace Go.Proofs.YtolfkfjjifdmeaaGreatDoor
open Eng
set_option linter.unusedVariables false
set_option linter.unusedSimpArgs false

/-! ### codes -/
theorem firstOf2 (a b : Int) : impl_firstOf [a, b] = some (if a ≠ 0 then a else b) := by
  simp only [impl_firstOf]
  rw [loop_eq]
  by_cases ha : a = 0
  · rw [show impl_firstOf.l_3 [a, b] 0 = some (.inl 1) by simp [impl_firstOf.l_3, ix, ha, w64_in]]
    simp only
    rw [loop_eq]
    by_cases hb : b = 0
    · rw [show impl_firstOf.l_3 [a, b] 1 = some (.inl 2) by simp [impl_firstOf.l_3, ix, hb, w64_in]]
      simp only
      rw [loop_eq, show impl_firstOf.l_3 [a, b] 2 = some (.inr (.inr ())) by simp [impl_firstOf.l_3]]
      simp [ha, hb, impl_firstOf.k_1]
    · rw [show impl_firstOf.l_3 [a, b] 1 = some (.inr (.inl b)) by simp [impl_firstOf.l_3, ix, hb]]
      simp [ha]
  · rw [show impl_firstOf.l_3 [a, b] 0 = some (.inr (.inl a)) by simp [impl_firstOf.l_3, ix, ha]]
    simp [ha]
theorem l02Asked_is (f : GFrame) (hi : FIn f) (hl : f.fHammers.length ≤ 9223372036854775807) (d : Arr 96 Int) (hd : DIn d) :
    spec_l02Asked f d = some (if frameB f = true ∧ drumB f d = true then 0 else 1) := by
  simp only [spec_l02Asked, l02Frame_is f hl, Option.bind_some]
  cases hf : frameB f with
  | false => simp [spec_l02Asked.k_2]
  | true =>
    simp only [l02Drum_is (frameB_ok hf hi) hd, Option.bind_some, spec_l02Asked.k_2]
    cases drumB f d <;> simp

end Go.Proofs.YtolfkfjjifdmeaaGreatDoor
/- Valid wear: the program's test is the reference's, and what a valid wear is. -/
namespace Go.Proofs.YtolfkfjjifdmeaaGreatDoor
open Eng
set_option linter.unusedVariables false
set_option linter.unusedSimpArgs false

/-! ### places, turns, the order of pins -/
def plB (f : GFrame) (s t : Int) : Bool := (decide (0 ≤ s) && decide (s ≤ w64 (w64 f.fSteps - 1))) && (decide (0 ≤ t) && decide (t ≤ w64 ((f.fHammers.length : Int) - 1)))
theorem l06Place_is (f : GFrame) (s t : Int) : spec_l06Place f s t = some (plB f s t) := by
  simp only [spec_l06Place, spec_l00In, Option.bind_some, plB, ge_iff_le]
  cases (decide (0 ≤ s) && decide (s ≤ w64 (w64 f.fSteps - 1))) <;> rfl
theorem isPlace_is (f : GFrame) (s t : Int) : impl_Frame_isPlace f s t = some (plB f s t) := by
  rw [← l06Place_is]
  simp only [impl_Frame_isPlace, spec_l06Place, within_in, impl_size_Hammer, Option.bind_some]
theorem plB_ok {f : GFrame} (h : FOk f) (s t : Int) : plB f s t = true ↔ (0 ≤ s ∧ s < f.fSteps) ∧ (0 ≤ t ∧ t < f.fHammers.length) := by
  have h0 := h.s0; have h1 := h.s1; have h2 := h.h0; have h3 := h.h1
  unfold plB
  rw [w64_in (n := f.fSteps) (by omega) (by omega), w64_in (n := f.fSteps - 1) (by omega) (by omega), w64_in (n := (f.fHammers.length : Int) - 1) (by omega) (by omega)]
  simp only [Bool.and_eq_true, decide_eq_true_eq]
  omega
def tuB (n : Int) : Bool := decide (0 ≤ n) && decide (n ≤ 1000000)
theorem l06Turns_is (n : Int) : spec_l06Turns n = some (tuB n) := by simp only [spec_l06Turns, spec_l00In, Option.bind_some, tuB, ge_iff_le]
theorem isMade_is (n : Int) : impl_isMade n = some (tuB n) := by simp only [impl_isMade, impl_within, Option.bind_some, tuB]
theorem cmp_is (x y : Int) : cmp_Compare_int8 x y = some (if x < y then -1 else if x > y then 1 else 0) := by
  simp only [cmp_Compare_int8, cmp_isNaN_int8, Option.bind_some]
  simp
  repeat' split
  all_goals rfl
theorem or2 (a b : Int) : cmp_Or_int [a, b] = some (if a ≠ 0 then a else b) := by
  simp only [cmp_Or_int]
  rw [loop_eq]
  by_cases ha : a = 0
  · rw [show cmp_Or_int.l_3 [a, b] 0 = some (.inl 1) by simp [cmp_Or_int.l_3, ix, ha, w64_in]]
    simp only
    rw [loop_eq]
    by_cases hb : b = 0
    · rw [show cmp_Or_int.l_3 [a, b] 1 = some (.inl 2) by simp [cmp_Or_int.l_3, ix, hb, w64_in]]
      simp only
      rw [loop_eq, show cmp_Or_int.l_3 [a, b] 2 = some (.inr (.inr ())) by simp [cmp_Or_int.l_3]]
      simp [ha, hb, cmp_Or_int.k_1]
    · rw [show cmp_Or_int.l_3 [a, b] 1 = some (.inr (.inl b)) by simp [cmp_Or_int.l_3, ix, hb]]
      simp [ha]
  · rw [show cmp_Or_int.l_3 [a, b] 0 = some (.inr (.inl a)) by simp [cmp_Or_int.l_3, ix, ha]]
    simp [ha]
def befB (a b : GWornPin) : Bool := decide (a.fStep < b.fStep) || ((a.fStep == b.fStep) && (decide (a.fTrack < b.fTrack)))
theorem before_is (a b : GWornPin) : spec_l06Before a b = some (befB a b) := by
  simp only [spec_l06Before, befB]
  by_cases h1 : a.fStep < b.fStep
  · rw [if_pos (by simpa using h1)]; simp [h1]
  · rw [if_neg (by simpa using h1)]; simp [h1]
theorem compare_is (a b : GWornPin) : (impl_comparePins a b).map (fun t => decide (t ≥ 0)) = some (!(befB a b)) := by
  simp only [impl_comparePins, cmp_is, or2, Option.bind_some, Option.map_some, befB]
  congr 1
  rw [Bool.eq_iff_iff]
  simp
  by_cases h1 : a.fStep < b.fStep
  · simp [h1]; omega
  · by_cases h2 : b.fStep < a.fStep
    · simp [h1, h2, show ¬ a.fStep = b.fStep by omega]; omega
    · have h3 : a.fStep = b.fStep := by omega
      simp [h3]
      by_cases h4 : a.fTrack < b.fTrack
      · simp [h4]; try omega
      · by_cases h5 : b.fTrack < a.fTrack
        · simp [h4, h5]; try omega
        · simp [h4, h5]; try omega

theorem comparePins_is (a b : GWornPin) : impl_comparePins a b = some (if a.fStep < b.fStep then -1 else if a.fStep > b.fStep then 1 else if a.fTrack < b.fTrack then -1 else if a.fTrack > b.fTrack then 1 else 0) := by
  simp only [impl_comparePins, cmp_is, or2, Option.bind_some]
  congr 1
  repeat' split
  all_goals first | rfl | omega | simp_all
/-! ### whether a wear is valid -/
def pinOk (f : GFrame) (ps : List GWornPin) (k : Nat) : Bool := match ps[k]? with
  | some p => plB f (w64 p.fStep) (w64 p.fTrack) && (tuB p.fTurns && (decide (k = 0) || match ps[k - 1]? with | some q => befB q p | none => false))
  | none => false
def wearB (f : GFrame) (w : GWear) : Bool := (frameB f && decide (w.fStrokes.length = f.fHammers.length)) && ((List.range w.fPins.length).all (pinOk f w.fPins) && w.fStrokes.all tuB)
theorem pin_step (f : GFrame) (w : GWear) (h : w.fPins.length ≤ 1048576) (k : Nat) (hk : k < w.fPins.length) :
    spec_l06Ok.l_10 f w (k : Int) = some (if pinOk f w.fPins k = true then .inl (w64 ((k : Int) + 1)) else .inr (.inl false)) := by
  simp only [spec_l06Ok.l_10, ix_lt hk, Option.bind_some, l06Place_is, l06Turns_is, before_is]
  rw [if_pos (by simpa using hk)]
  unfold pinOk spec_l06Ok.k_14
  rw [List.getElem?_eq_getElem hk]
  simp only
  by_cases c1 : plB f (w64 w.fPins[k].fStep) (w64 w.fPins[k].fTrack) = true
  · by_cases c2 : tuB w.fPins[k].fTurns = true
    · by_cases h0 : k = 0
      · subst h0; simp [c1, c2]
      · have hk' : k - 1 < w.fPins.length := by omega
        have e : w64 ((k : Int) - 1) = ((k - 1 : Nat) : Int) := by rw [w64_in (by omega) (by omega)]; omega
        rw [List.getElem?_eq_getElem hk', e, ix_lt hk']
        simp only [c1, c2, Bool.not_true, Bool.false_eq_true, if_false, Option.bind_some, Bool.true_and]
        rw [if_pos (by simp; omega)]
        by_cases c3 : befB w.fPins[k - 1] w.fPins[k] = true
        · simp [h0, c3]
        · simp [h0, c3]
    · simp [c1, c2]
  · simp [c1]
theorem pin_step' (f : GFrame) (w : GWear) : impl_ValidWear.l_5 f w = spec_l06Ok.l_10 f w := by
  funext i
  simp only [impl_ValidWear.l_5, spec_l06Ok.l_10, l06Place_is, isPlace_is, l06Turns_is, isMade_is, impl_ValidWear.k_9, spec_l06Ok.k_14, before_is, Option.bind_some]
  congr 1
  congr 1
  funext x
  split
  · rfl
  · split
    · rfl
    · split
      · congr 1
        funext y
        have h := compare_is y x
        obtain ⟨c, hc, hd⟩ := Option.map_eq_some_iff.1 h
        rw [hc, Option.bind_some, hd]
      · rfl
theorem pins_loop (f : GFrame) (w : GWear) (h : w.fPins.length ≤ 1048576) : loop (spec_l06Ok.l_10 f w) 0 = some (if (List.range w.fPins.length).all (pinOk f w.fPins) = true then .inr () else .inl false) :=
  loop_allN w.fPins.length (pinOk f w.fPins) (by omega) (fun k hk => pin_step f w h k hk) (by simp [spec_l06Ok.l_10])
theorem contains_made (a : List Int) (h : a.length ≤ 1048576) : slices_ContainsFunc_int64_at_impl_ValidWear_1 a = some (!(a.all tuB)) := by
  obtain ⟨t, ht, hq⟩ := loop_find (f := slices_IndexFunc_int64_at_impl_ValidWear_1.l_3 a) a (fun x => !(tuB x)) (by omega) (fun k hk => by
    simp only [slices_IndexFunc_int64_at_impl_ValidWear_1.l_3, ix_lt hk, Option.bind_some, impl_ValidWear_1, isMade_is]
    rw [if_pos (by simpa using hk)]
    by_cases he : tuB a[k] = true <;> simp [he]) (by simp [slices_IndexFunc_int64_at_impl_ValidWear_1.l_3])
  simp only [slices_ContainsFunc_int64_at_impl_ValidWear_1, slices_IndexFunc_int64_at_impl_ValidWear_1, ht, Option.bind_some]
  rcases hq with ⟨hany, k, rfl, _⟩ | ⟨hany, rfl⟩
  · rw [any_not] at hany
    rw [hany]; simp
  · rw [any_not] at hany
    rw [hany]; simp [slices_IndexFunc_int64_at_impl_ValidWear_1.k_1]
theorem strokes_is (w : GWear) (h : w.fStrokes.length ≤ 1048576) : spec_l06Ok.k_2 w = some (w.fStrokes.all tuB) := by
  simp only [spec_l06Ok.k_2]
  rw [loop_all w.fStrokes tuB (by omega) (fun k hk => by
    simp only [spec_l06Ok.l_5, ix_lt hk, Option.bind_some, l06Turns_is]
    rw [if_pos (by simpa using hk)]
    by_cases he : tuB w.fStrokes[k] = true <;> simp [he]) (by simp [spec_l06Ok.l_5])]
  simp only [Option.bind_some]
  by_cases h5 : w.fStrokes.all tuB = true
  · rw [if_pos h5, h5]; rfl
  · rw [if_neg h5]; simp only [Bool.not_eq_true] at h5; rw [h5]
theorem l06Ok_is (f : GFrame) (w : GWear) (hf : f.fHammers.length ≤ 1048576) (hp : w.fPins.length ≤ 1048576) (hs : w.fStrokes.length ≤ 1048576) : spec_l06Ok f w = some (wearB f w) := by
  simp only [spec_l06Ok, l02Frame_is f (by omega), Option.bind_some, pins_loop f w hp, strokes_is w hs, wearB]
  cases frameB f with
  | false => simp
  | true =>
    by_cases hl : w.fStrokes.length = f.fHammers.length
    · simp only [hl, decide_true, Bool.true_and]
      rw [if_neg (by simp)]
      cases (List.range w.fPins.length).all (pinOk f w.fPins) <;> simp
    · rw [if_pos (by simp; omega)]
      simp [hl]
theorem validWear_is (f : GFrame) (w : GWear) (hf : f.fHammers.length ≤ 1048576) (hp : w.fPins.length ≤ 1048576) (hs : w.fStrokes.length ≤ 1048576) : impl_ValidWear f w = some (wearB f w) := by
  simp only [impl_ValidWear, validFrame_is f (by omega), Option.bind_some, contains_made _ hs, impl_ValidWear.k_2, pin_step', pins_loop f w hp, wearB]
  cases frameB f with
  | false => simp
  | true =>
    by_cases hl : w.fStrokes.length = f.fHammers.length
    · simp only [hl, decide_true, Bool.true_and]
      rw [if_neg (by simp)]
      cases w.fStrokes.all tuB with
      | false => simp
      | true =>
        cases (List.range w.fPins.length).all (pinOk f w.fPins) <;> simp [impl_ValidWear.k_3]
    · rw [if_pos (by simp; omega)]
      simp [hl]
/-! ### what a valid wear is -/
def WIn (w : GWear) : Prop := ∀ p ∈ w.fPins, (-128 ≤ p.fStep ∧ p.fStep ≤ 127) ∧ (-128 ≤ p.fTrack ∧ p.fTrack ≤ 127)
structure WOk (f : GFrame) (w : GWear) : Prop where
  fr : FOk f
  sl : w.fStrokes.length = f.fHammers.length
  pl : ∀ p ∈ w.fPins, (0 ≤ p.fStep ∧ p.fStep < f.fSteps) ∧ (0 ≤ p.fTrack ∧ p.fTrack < f.fHammers.length) ∧ 0 ≤ p.fTurns ∧ p.fTurns ≤ 1000000
  so : w.fPins.Pairwise fun a b => befB a b = true
  st : ∀ s ∈ w.fStrokes, 0 ≤ s ∧ s ≤ 1000000
theorem befB_iff (a b : GWornPin) : befB a b = true ↔ a.fStep < b.fStep ∨ (a.fStep = b.fStep ∧ a.fTrack < b.fTrack) := by
  unfold befB; simp
theorem wearB_ok {f : GFrame} {w : GWear} (h : wearB f w = true) (hi : FIn f) (hw : WIn w) : WOk f w := by
  unfold wearB at h
  simp only [Bool.and_eq_true, decide_eq_true_eq] at h
  obtain ⟨⟨h1, h2⟩, h3, h4⟩ := h
  have hf := frameB_ok h1 hi
  have key : ∀ k (hk : k < w.fPins.length), plB f (w64 w.fPins[k].fStep) (w64 w.fPins[k].fTrack) = true ∧ tuB w.fPins[k].fTurns = true ∧ (k = 0 ∨ ∃ hk' : k - 1 < w.fPins.length, befB w.fPins[k - 1] w.fPins[k] = true) := by
    intro k hk
    have := List.all_eq_true.1 h3 k (by simpa using hk)
    unfold pinOk at this
    rw [List.getElem?_eq_getElem hk] at this
    simp only [Bool.and_eq_true, Bool.or_eq_true, decide_eq_true_eq] at this
    refine ⟨this.1, this.2.1, ?_⟩
    rcases this.2.2 with h | h
    · exact .inl h
    · right
      have hk' : k - 1 < w.fPins.length := by omega
      rw [List.getElem?_eq_getElem hk'] at h
      exact ⟨hk', h⟩
  refine ⟨hf, h2, ?_, ?_, ?_⟩
  · intro p hp
    obtain ⟨k, hk, rfl⟩ := List.mem_iff_getElem.1 hp
    obtain ⟨a, b, _⟩ := key k hk
    obtain ⟨c, d⟩ := hw _ hp
    rw [plB_ok hf, w64_in (by omega) (by omega), w64_in (by omega) (by omega)] at a
    unfold tuB at b
    simp only [Bool.and_eq_true, decide_eq_true_eq] at b
    exact ⟨a.1, a.2, b⟩
  · rw [List.pairwise_iff_getElem]
    intro i j hi hj hij
    induction j with
    | zero => omega
    | succ j ih =>
      obtain ⟨_, _, h | ⟨hk', h⟩⟩ := key (j + 1) hj
      · omega
      · simp only [Nat.add_sub_cancel] at h
        by_cases e : i = j
        · subst e; exact h
        · have := ih (by omega) (by omega)
          rw [befB_iff] at this h ⊢
          omega
  · intro s hs
    have := List.all_eq_true.1 h4 s hs
    unfold tuB at this
    simpa using this
theorem wearB_of {f : GFrame} {w : GWear} (h : WOk f w) : wearB f w = true := by
  obtain ⟨hf, h2, h3, h4, h5⟩ := h
  have h0 := hf.s0; have h1 := hf.s1; have h6 := hf.h1
  unfold wearB
  simp only [Bool.and_eq_true, decide_eq_true_eq]
  refine ⟨⟨frameB_of hf, h2⟩, ?_, ?_⟩
  · rw [List.all_eq_true]
    intro k hk
    have hk : k < w.fPins.length := by simpa using hk
    unfold pinOk
    rw [List.getElem?_eq_getElem hk]
    simp only [Bool.and_eq_true, Bool.or_eq_true, decide_eq_true_eq]
    obtain ⟨a, b, c⟩ := h3 _ (List.getElem_mem hk)
    refine ⟨?_, ?_, ?_⟩
    · rw [plB_ok hf, w64_in (by omega) (by omega), w64_in (by omega) (by omega)]
      exact ⟨a, b⟩
    · unfold tuB; simp [c]
    · by_cases e : k = 0
      · exact .inl e
      · right
        rw [List.getElem?_eq_getElem (show k - 1 < w.fPins.length by omega)]
        exact List.pairwise_iff_getElem.1 h4 (k - 1) k (by omega) hk (by omega)
  · rw [List.all_eq_true]
    intro s hs
    unfold tuB
    simpa using h5 s hs

end Go.Proofs.YtolfkfjjifdmeaaGreatDoor
/- A pin put into a drum, or taken out: what the drum is then. -/
namespace Go.Proofs.YtolfkfjjifdmeaaGreatDoor
open Eng
set_option linter.unusedVariables false
set_option linter.unusedSimpArgs false

theorem pow_lt32 {t : Nat} (ht : t < 32) : 2 ^ t < 4294967296 := Nat.pow_lt_pow_right (a := 2) (by omega) (by omega : t < 32)
theorem put_on {d : Arr 96 Int} (hd : DIn d) {s t : Nat} (hs : s < 96) (ht : t < 32) :
    ∃ d', impl_Drum_put d (s : Int) (t : Int) true = some d' ∧ DIn d' ∧ ∀ a b, pin d' a b = (pin d a b || (decide (a = s) && decide (b = t))) := by
  have h1 := ix_row hd hs
  have hlt := row_lt hd s
  have hp := pow_lt32 ht
  have hl := Nat.lt_of_le_of_lt (ldif_le (row' d s) (2 ^ t)) hlt
  have hd2 := DIn_set hd s hl
  have h2 := ix_row hd2 hs
  rw [row_set hs, if_pos rfl] at h2
  refine ⟨(d.set (s : Int) (ldif (row' d s) (2 ^ t) : Nat)).set (s : Int) (ldif (row' d s) (2 ^ t) ||| 2 ^ t : Nat), ?_, DIn_set hd2 s (Nat.or_lt_two_pow (n := 32) hl hp), fun a b => ?_⟩
  · simp only [impl_Drum_put, h1, Option.bind_some, bShl32_one t ht, bClr32 _ _ hlt hp, h2, bOr32 _ _ hl hp]
    rw [if_pos (by omega), if_pos trivial, if_pos (by omega)]
  · unfold pin
    rw [row_set hs]
    by_cases ha : a = s
    · subst ha
      rw [if_pos rfl, Nat.testBit_or, ldif_bit, Nat.testBit_two_pow]
      by_cases hb : b = t
      · subst hb; simp
      · have : ¬ t = b := fun e => hb e.symm
        simp [hb, this]
    · rw [if_neg (fun e => ha e.symm), row_set hs, if_neg (fun e => ha e.symm)]
      simp [ha]
/-- a pin put by the reference: a row with a bit more -/
theorem or_pin {d : Arr 96 Int} (hd : DIn d) {s t : Nat} (hs : s < 96) (ht : t < 32) :
    DIn (d.set (s : Int) (bOr .u32 (row' d s : Int) (bShl .u32 1 (t : Int)))) ∧ ∀ a b, pin (d.set (s : Int) (bOr .u32 (row' d s : Int) (bShl .u32 1 (t : Int)))) a b = (pin d a b || (decide (a = s) && decide (b = t))) := by
  have hlt := row_lt hd s
  have hp := pow_lt32 ht
  rw [bShl32_one t ht, bOr32 _ _ hlt hp]
  refine ⟨DIn_set hd s (Nat.or_lt_two_pow (n := 32) hlt hp), fun a b => ?_⟩
  unfold pin
  rw [row_set hs]
  by_cases ha : a = s
  · subst ha
    rw [if_pos rfl, Nat.testBit_or, Nat.testBit_two_pow]
    by_cases hb : b = t
    · subst hb; simp
    · have : ¬ t = b := fun e => hb e.symm
      simp [hb, this]
  · rw [if_neg (fun e => ha e.symm)]
    simp [ha]

end Go.Proofs.YtolfkfjjifdmeaaGreatDoor
/- The drum with the pins of a wear, the program's and the reference's. -/
namespace Go.Proofs.YtolfkfjjifdmeaaGreatDoor
open Eng
set_option linter.unusedVariables false
set_option linter.unusedSimpArgs false

/-- whether a wear has a pin at a place -/
def hasPin (ps : List GWornPin) (s t : Nat) : Bool := ps.any fun p => decide (p.fStep = (s : Int)) && decide (p.fTrack = (t : Int))
theorem hasPin_snoc (ps : List GWornPin) (p : GWornPin) (s t : Nat) : hasPin (ps ++ [p]) s t = (hasPin ps s t || (decide (p.fStep = (s : Int)) && decide (p.fTrack = (t : Int)))) := by
  unfold hasPin; simp
theorem wearDrum_is {f : GFrame} {w : GWear} (h : WOk f w) (hp : w.fPins.length ≤ 1048576) : ∃ d, impl_Wear_drum w = some d ∧ DIn d ∧ ∀ s t, pin d s t = hasPin w.fPins s t := by
  have hs1 := h.fr.s1; have hh1 := h.fr.h1
  obtain ⟨d, hd, h1, h2⟩ := loop_for (f := impl_Wear_drum.l_5 w) w.fPins.length (by omega) (fun k d => DIn d ∧ ∀ s t, pin d s t = hasPin (w.fPins.take k) s t) (fun d => DIn d ∧ ∀ s t, pin d s t = hasPin w.fPins s t)
    (fun k d hk ⟨hd, hpin⟩ => by
      obtain ⟨⟨a, b⟩, ⟨c, e⟩, _⟩ := h.pl _ (List.getElem_mem hk)
      have e1 : w64 w.fPins[k].fStep = (w.fPins[k].fStep.toNat : Int) := by rw [w64_in (by omega) (by omega)]; omega
      have e2 : w64 w.fPins[k].fTrack = (w.fPins[k].fTrack.toNat : Int) := by rw [w64_in (by omega) (by omega)]; omega
      obtain ⟨d', h1, h2, h3⟩ := put_on hd (s := w.fPins[k].fStep.toNat) (t := w.fPins[k].fTrack.toNat) (by omega) (by omega)
      refine .inl ⟨d', ?_, h2, fun s t => ?_⟩
      · simp only [impl_Wear_drum.l_5, ix_lt hk, Option.bind_some, e1, e2, h1]
        rw [if_pos (by simpa using hk)]
      · rw [h3, hpin, List.take_succ_eq_append_getElem hk, hasPin_snoc]
        congr 1
        rw [Bool.eq_iff_iff]
        simp only [Bool.and_eq_true, decide_eq_true_eq]
        omega)
    (fun d ⟨h1, h2⟩ => ⟨d, by simp [impl_Wear_drum.l_5], h1, by simpa using h2⟩) (Arr.rep 96 0) ⟨DIn_rep, fun s t => by rw [pin_rep]; rfl⟩
  exact ⟨d, by simp only [impl_Wear_drum, hd, Option.bind_some, impl_Wear_drum.k_2], h1, h2⟩

end Go.Proofs.YtolfkfjjifdmeaaGreatDoor
/- How many strokes each hammer makes in a turn: counted over the drum's places, as the program does, and over the pins, as the reference does. -/
namespace Go.Proofs.YtolfkfjjifdmeaaGreatDoor
open Eng
set_option linter.unusedVariables false
set_option linter.unusedSimpArgs false

def cnt (ps : List GWornPin) (t : Nat) : Nat := ps.countP fun p => decide (p.fTrack = (t : Int))
def eachL (n : Nat) (ps : List GWornPin) : List Int := (List.range n).map fun t => (cnt ps t : Int)
theorem eachL_len (n : Nat) (ps : List GWornPin) : (eachL n ps).length = n := by simp [eachL]
theorem eachL_get (n : Nat) (ps : List GWornPin) (t : Nat) (h : t < n) : (eachL n ps)[t]? = some (cnt ps t : Int) := by
  unfold eachL
  rw [List.getElem?_map, List.getElem?_range h]; rfl
theorem cnt_le (ps : List GWornPin) (t : Nat) : cnt ps t ≤ ps.length := List.countP_le_length
theorem cnt_snoc (ps : List GWornPin) (p : GWornPin) (t : Nat) : cnt (ps ++ [p]) t = cnt ps t + if p.fTrack = (t : Int) then 1 else 0 := by
  unfold cnt
  rw [List.countP_append]
  congr 1
  by_cases h : p.fTrack = (t : Int) <;> simp [h]
theorem l06Each_is {f : GFrame} {w : GWear} (h : WOk f w) (hp : w.fPins.length ≤ 1048576) : spec_l06Each w = some (eachL f.fHammers.length w.fPins) := by
  have hh1 := h.fr.h1; have hsl := h.sl
  obtain ⟨t, ht, rfl⟩ := loop_for (f := spec_l06Each.l_5 w) w.fPins.length (by omega) (fun k xs => xs = eachL f.fHammers.length (w.fPins.take k)) (fun xs => xs = eachL f.fHammers.length w.fPins)
    (fun k xs hk hx => by
      obtain ⟨_, ⟨c, e⟩, _⟩ := h.pl _ (List.getElem_mem hk)
      have ht : w.fPins[k].fTrack.toNat < f.fHammers.length := by omega
      have e1 : w.fPins[k].fTrack = (w.fPins[k].fTrack.toNat : Int) := by omega
      have hix : ix xs w.fPins[k].fTrack = some (cnt (w.fPins.take k) w.fPins[k].fTrack.toNat : Int) := by
        rw [e1, hx]
        exact ix_get (eachL_get _ _ _ ht)
      have hc := cnt_le (w.fPins.take k) w.fPins[k].fTrack.toNat
      rw [List.length_take] at hc
      refine .inl ⟨xs.set w.fPins[k].fTrack.toNat (w64 ((cnt (w.fPins.take k) w.fPins[k].fTrack.toNat : Int) + 1)), ?_, ?_⟩
      · simp only [spec_l06Each.l_5, ix_lt hk, Option.bind_some, hix]
        rw [if_pos (by simpa using hk)]
      · rw [w64_in (by omega) (by omega), hx]
        apply List.ext_getElem?
        intro i
        rw [List.getElem?_set, List.take_succ_eq_append_getElem hk]
        by_cases hi : i < f.fHammers.length
        · rw [eachL_get _ _ _ hi, eachL_get _ _ _ hi, eachL_len, cnt_snoc]
          by_cases hit : w.fPins[k].fTrack.toNat = i
          · rw [if_pos hit, if_pos (by omega), if_pos (by omega), hit]; rfl
          · rw [if_neg hit, if_neg (by omega)]; rfl
        · rw [List.getElem?_eq_none (by rw [eachL_len]; omega), List.getElem?_eq_none (by rw [eachL_len]; omega)]
          rw [if_neg (by omega)])
    (fun xs hx => ⟨xs, by simp [spec_l06Each.l_5], by simpa using hx⟩) (List.replicate f.fHammers.length 0) (by
      apply List.ext_getElem?
      intro i
      by_cases hi : i < f.fHammers.length
      · rw [eachL_get _ _ _ hi]; simp [hi, cnt]
      · rw [List.getElem?_eq_none (by simp; omega), List.getElem?_eq_none (by rw [eachL_len]; omega)])
  simp only [spec_l06Each]
  rw [if_pos (by omega), show ((w.fStrokes.length : Int)).toNat = f.fHammers.length by omega, ht]
  rfl
/-! ### the program: over the places -/
def trk (n : Nat) (c : Nat → Nat) : List Int := (List.range n).map fun t => (c t : Int)
theorem trk_len (n : Nat) (c : Nat → Nat) : (trk n c).length = n := by simp [trk]
theorem trk_get {n : Nat} (c : Nat → Nat) {t : Nat} (h : t < n) : (trk n c)[t]? = some (c t : Int) := by
  unfold trk
  rw [List.getElem?_map, List.getElem?_range h]; rfl
theorem trk_congr {n : Nat} {c c' : Nat → Nat} (h : ∀ t, t < n → c t = c' t) : trk n c = trk n c' := by
  unfold trk
  apply List.map_congr_left
  intro t ht
  rw [h t (by simpa using ht)]
theorem byTrack_in {d : Arr 96 Int} (hd : DIn d) {s : Nat} (hs : s < 96) (n : Nat) (hn : n ≤ 24) (c : Nat → Nat) (hc : ∀ t, c t ≤ 96) :
    loop (impl_Frame_pins_at_impl_Frame_byTrack_1.l_12 d (s : Int) (n : Int)) (trk n c, 0) = some (trk n fun t => c t + if pin d s t = true then 1 else 0) := by
  obtain ⟨t, ht, rfl⟩ := loop_for (f := impl_Frame_pins_at_impl_Frame_byTrack_1.l_12 d (s : Int) (n : Int)) n (by omega) (fun k xs => xs = trk n fun t => c t + if t < k ∧ pin d s t = true then 1 else 0)
    (fun xs => xs = trk n fun t => c t + if pin d s t = true then 1 else 0)
    (fun k xs hk hx => by
      have hh := has_is hd hs (t := k) (by omega)
      simp only [impl_Frame_pins_at_impl_Frame_byTrack_1.l_12, hh, Option.bind_some]
      rw [if_pos (by simpa using hk)]
      by_cases hp : pin d s k = true
      · have hix : ix xs (k : Int) = some (c k : Int) := by
          rw [hx]
          refine ix_get ?_
          rw [trk_get _ hk]; simp
        rw [if_pos hp]
        simp only [impl_Frame_byTrack_1, hix, Option.bind_some]
        refine .inl ⟨_, rfl, ?_⟩
        have := hc k
        rw [w64_in (by omega) (by omega), hx]
        apply List.ext_getElem?
        intro i
        rw [List.getElem?_set, Int.toNat_natCast, trk_len]
        by_cases hi : i < n
        · rw [trk_get _ hi, trk_get _ hi]
          by_cases hik : k = i
          · subst hik
            rw [if_pos rfl, if_pos hk, if_pos ⟨by omega, hp⟩]; rfl
          · rw [if_neg hik]
            congr 3
            by_cases h1 : i < k
            · simp [h1, show i < k + 1 by omega]
            · simp [h1, show ¬ i < k + 1 by omega]
        · rw [List.getElem?_eq_none (by rw [trk_len]; omega), List.getElem?_eq_none (by rw [trk_len]; omega), if_neg (by omega)]
      · rw [if_neg hp]
        refine .inl ⟨_, rfl, ?_⟩
        rw [hx]
        refine trk_congr fun t ht => ?_
        congr 1
        by_cases h1 : t = k
        · subst h1; simp [hp]
        · by_cases h2 : t < k
          · simp [h2, show t < k + 1 by omega]
          · simp [h2, show ¬ t < k + 1 by omega])
    (fun xs hx => ⟨xs, by simp [impl_Frame_pins_at_impl_Frame_byTrack_1.l_12], by
      rw [hx]
      refine trk_congr fun t ht => ?_
      simp [ht]⟩) (trk n c) (trk_congr fun t ht => by simp)
  exact ht
theorem countP_succ (p : Nat → Bool) (n : Nat) : (List.range (n + 1)).countP p = (List.range n).countP p + if p n = true then 1 else 0 := by
  rw [List.range_succ, List.countP_append]
  congr 1
  by_cases h : p n = true <;> simp [h]
theorem byTrack_is {f : GFrame} (hf : FOk f) {d : Arr 96 Int} (hd : DIn d) : impl_Frame_byTrack f d = some (trk f.fHammers.length fun t => (List.range f.fSteps.toNat).countP fun s => pin d s t) := by
  have hs0 := hf.s0; have hs1 := hf.s1; have hh1 := hf.h1
  have e : ((w64 f.fSteps)) = (f.fSteps.toNat : Int) := by rw [w64_in (by omega) (by omega)]; omega
  obtain ⟨t, ht, rfl⟩ := loop_for (f := impl_Frame_pins_at_impl_Frame_byTrack_1.l_5 f d) f.fSteps.toNat (by omega) (fun k xs => xs = trk f.fHammers.length fun t => (List.range k).countP fun s => pin d s t)
    (fun xs => xs = trk f.fHammers.length fun t => (List.range f.fSteps.toNat).countP fun s => pin d s t)
    (fun k xs hk hx => by
      simp only [impl_Frame_pins_at_impl_Frame_byTrack_1.l_5, size_is, Option.bind_some, e]
      rw [if_pos (by simp; omega), hx, byTrack_in hd (by omega) _ hh1 _ (fun t => by have := List.countP_le_length (p := fun s => pin d s t) (l := List.range k); simp at this; omega)]
      refine .inl ⟨_, rfl, trk_congr fun t _ => ?_⟩
      rw [countP_succ])
    (fun xs hx => ⟨xs, by simp [impl_Frame_pins_at_impl_Frame_byTrack_1.l_5, e], hx⟩) (List.replicate f.fHammers.length 0) (by
      apply List.ext_getElem?
      intro i
      by_cases hi : i < f.fHammers.length
      · rw [trk_get _ hi]; simp [hi]
      · rw [List.getElem?_eq_none (by simp; omega), List.getElem?_eq_none (by rw [trk_len]; omega)])
  simp only [impl_Frame_byTrack, impl_Frame_pins_at_impl_Frame_byTrack_1]
  rw [if_pos (by omega), show ((f.fHammers.length : Int)).toNat = f.fHammers.length by omega, ht]
  rfl
/-! ### they are the same -/
theorem countP_or {p q : Nat → Bool} : ∀ (l : List Nat), (∀ x ∈ l, ¬ (p x = true ∧ q x = true)) → l.countP (fun x => p x || q x) = l.countP p + l.countP q := by
  intro l
  induction l with
  | nil => intro _; rfl
  | cons a l ih =>
    intro h
    rw [List.countP_cons, List.countP_cons, List.countP_cons, ih (fun x hx => h x (by simp [hx]))]
    have := h a (by simp)
    by_cases h1 : p a = true <;> by_cases h2 : q a = true <;> simp_all <;> omega
theorem countP_at (a n : Nat) (h : a < n) : (List.range n).countP (fun s => decide (a = s)) = 1 := by
  induction n with
  | zero => omega
  | succ n ih =>
    rw [countP_succ]
    by_cases e : a = n
    · subst e
      have : (List.range a).countP (fun s => decide (a = s)) = 0 := by
        rw [List.countP_eq_zero]
        intro s hs
        have : s < a := by simpa using hs
        simp; omega
      simp [this]
    · simp [ih (by omega), e]
theorem count_pins (N t : Nat) : ∀ (ps : List GWornPin), (∀ p ∈ ps, 0 ≤ p.fStep ∧ p.fStep < N) → ps.Pairwise (fun a b => befB a b = true) → (List.range N).countP (fun s => hasPin ps s t) = cnt ps t := by
  intro ps
  induction ps with
  | nil => intro _ _; simp [hasPin, cnt]
  | cons p ps ih =>
    intro h hs
    rw [List.pairwise_cons] at hs
    obtain ⟨h1, h2⟩ := hs
    have hp := h p (by simp)
    have e : (fun s : Nat => hasPin (p :: ps) s t) = fun s : Nat => (decide (p.fStep = (s : Int)) && decide (p.fTrack = (t : Int))) || hasPin ps s t := by
      funext s; simp [hasPin]
    rw [e, countP_or _ (fun s _ => ?_), ih (fun q hq => h q (by simp [hq])) h2]
    · unfold cnt
      rw [List.countP_cons, Nat.add_comm]
      congr 1
      by_cases ht : p.fTrack = (t : Int)
      · rw [if_pos (by simpa using ht)]
        rw [← countP_at p.fStep.toNat N (by omega)]
        congr 1
        funext s
        simp only [ht, decide_true, Bool.and_true]
        rw [Bool.eq_iff_iff]; simp; omega
      · rw [if_neg (by simpa using ht), List.countP_eq_zero]
        intro s _
        simp [ht]
    · rintro ⟨ha, hb⟩
      simp only [Bool.and_eq_true, decide_eq_true_eq] at ha
      unfold hasPin at hb
      rw [List.any_eq_true] at hb
      obtain ⟨q, hq, hb⟩ := hb
      simp only [Bool.and_eq_true, decide_eq_true_eq] at hb
      have := h1 q hq
      rw [befB_iff] at this
      omega
/-- the program's counts over the wear's drum are the reference's -/
theorem byTrack_wear {f : GFrame} {w : GWear} (h : WOk f w) {d : Arr 96 Int} (hd : DIn d) (hp : ∀ s t, pin d s t = hasPin w.fPins s t) : impl_Frame_byTrack f d = some (eachL f.fHammers.length w.fPins) := by
  rw [byTrack_is h.fr hd]
  congr 1
  unfold trk eachL
  apply List.map_congr_left
  intro t _
  congr 1
  simp only [hp]
  exact count_pins _ _ _ (fun p hp => by have := (h.pl p hp).1; omega) h.so

end Go.Proofs.YtolfkfjjifdmeaaGreatDoor
/- The parts of a wear: what they are, which are worn out, and how many turns they can make; the program's answers are the reference's. -/
namespace Go.Proofs.YtolfkfjjifdmeaaGreatDoor
open Eng
set_option linter.unusedVariables false
set_option linter.unusedSimpArgs false

theorem loop_take {S A T : Type} {f : A × Int → Option ((A × Int) ⊕ T)} (xs : List S) (hn : xs.length ≤ 9223372036854775807) (g : List S → A) (t : A → T)
    (h : ∀ k (hk : k < xs.length), f (g (xs.take k), (k : Int)) = some (.inl (g (xs.take k ++ [xs[k]]), w64 ((k : Int) + 1)))) (he : f (g xs, (xs.length : Int)) = some (.inr (t (g xs)))) : loop f (g [], 0) = some (t (g xs)) := by
  obtain ⟨t', ht, rfl⟩ := loop_for (f := f) xs.length hn (fun k a => a = g (xs.take k)) (fun t' => t' = t (g xs))
    (fun k a hk ha => .inl ⟨g (xs.take k ++ [xs[k]]), by subst ha; exact h k hk, by rw [List.take_succ_eq_append_getElem hk]⟩)
    (fun a ha => ⟨_, by rw [ha, List.take_length]; exact he, rfl⟩) (g []) (by simp)
  exact ht
theorem flatMap_one {A B : Type} (g : A → B) (l : List A) : l.flatMap (fun t => [g t]) = l.map g := by
  induction l with
  | nil => rfl
  | cons a l ih => simp [ih]
def stroke (w : GWear) (t : Nat) : Int := (w.fStrokes[t]?).getD 0
theorem stroke_ix {f : GFrame} {w : GWear} (h : WOk f w) {t : Nat} (ht : t < f.fHammers.length) : ix w.fStrokes (t : Int) = some (stroke w t) ∧ 0 ≤ stroke w t ∧ stroke w t ≤ 1000000 := by
  have hl : t < w.fStrokes.length := by rw [h.sl]; exact ht
  unfold stroke
  rw [ix_lt hl, List.getElem?_eq_getElem hl, Option.getD_some]
  exact ⟨rfl, h.st _ (List.getElem_mem hl)⟩
def pinPart (v : GLives) (p : GWornPin) : Gpart := ⟨p.fTurns, 1, v.fPin, p.fStep, p.fTrack⟩
def hamPart (w : GWear) (v : GLives) (t : Nat) : Gpart := ⟨stroke w t, (cnt w.fPins t : Int), v.fHammer, -1, (t : Int)⟩
def partsL (f : GFrame) (w : GWear) (v : GLives) : List Gpart := w.fPins.map (pinPart v) ++ (List.range f.fHammers.length).map (hamPart w v)
theorem parts_is {f : GFrame} {w : GWear} (h : WOk f w) (hp : w.fPins.length ≤ 1048576) (v : GLives) : impl_Wear_parts w f v = some (partsL f w v) := by
  have hs1 := h.fr.s1; have hh1 := h.fr.h1
  obtain ⟨d, hd, hdi, hpin⟩ := wearDrum_is h hp
  have l1 : loop (impl_Wear_parts.l_15 w v) (([] : List Gpart), 0) = some (w.fPins.map (pinPart v)) :=
    loop_take (f := impl_Wear_parts.l_15 w v) w.fPins (by omega) (fun ps => ps.map (pinPart v)) id (fun k hk => by
      obtain ⟨⟨a, b⟩, ⟨c, e⟩, _⟩ := h.pl _ (List.getElem_mem hk)
      simp only [impl_Wear_parts.l_15, ix_lt hk, Option.bind_some]
      rw [if_pos (by simpa using hk), if_pos (by simp; omega), w64_in (n := w.fPins[k].fStep) (by omega) (by omega), w64_in (n := w.fPins[k].fTrack) (by omega) (by omega)]
      rw [List.map_append]; rfl) (by simp [impl_Wear_parts.l_15])
  have l2 : loop (impl_Wear_parts.l_9 w v (eachL f.fHammers.length w.fPins)) (w.fPins.map (pinPart v), 0) = some (partsL f w v) := by
    have := loop_app (f := impl_Wear_parts.l_9 w v (eachL f.fHammers.length w.fPins)) f.fHammers.length 1 (by omega) (fun t => [hamPart w v t]) (w.fPins.map (pinPart v)) (fun k _ => by simp)
      (fun xs k hk hx => by
        have e := ix_get (eachL_get f.fHammers.length w.fPins k hk)
        have e2 := (stroke_ix h hk).1
        simp only [impl_Wear_parts.l_9, e, e2, Option.bind_some, eachL_len]
        rw [List.length_map] at hx
        rw [if_pos (by simpa using hk), if_pos (by simp; omega)]
        rfl) (fun xs => by simp [impl_Wear_parts.l_9, eachL_len])
    rw [this]
    unfold partsL
    rw [flatMap_one]
  simp only [impl_Wear_parts, l1, Option.bind_some, impl_Wear_parts.k_2, hd, byTrack_wear h hdi hpin, l2, impl_Wear_parts.k_6]
theorem partsL_len (f : GFrame) (w : GWear) (v : GLives) : (partsL f w v).length = w.fPins.length + f.fHammers.length := by simp [partsL]
/-! ### what is worn out -/
def wornB (p : Gpart) : Bool := decide (p.fmade > p.flife)
theorem contains_worn (ps : List Gpart) (h : ps.length ≤ 9223372036854775807) : slices_ContainsFunc_part_at_impl_part_isWorn ps = some (ps.any wornB) := by
  obtain ⟨t, ht, hq⟩ := loop_find (f := slices_IndexFunc_part_at_impl_part_isWorn.l_3 ps) ps wornB h (fun k hk => by
    simp only [slices_IndexFunc_part_at_impl_part_isWorn.l_3, ix_lt hk, Option.bind_some, impl_part_isWorn]
    rw [if_pos (by simpa using hk)]
    unfold wornB
    split <;> rfl) (by simp [slices_IndexFunc_part_at_impl_part_isWorn.l_3])
  simp only [slices_ContainsFunc_part_at_impl_part_isWorn, slices_IndexFunc_part_at_impl_part_isWorn, ht, Option.bind_some]
  rcases hq with ⟨hany, k, rfl, _⟩ | ⟨hany, rfl⟩
  · rw [hany]; simp
  · rw [hany]; simp [slices_IndexFunc_part_at_impl_part_isWorn.k_1]
def wornPins (w : GWear) (v : GLives) : List GWornPin := w.fPins.filter fun p => decide (p.fTurns > v.fPin)
def wornHams (n : Nat) (w : GWear) (v : GLives) : List Int := ((List.range n).filter fun t => decide (stroke w t > v.fHammer)).map fun t : Nat => (t : Int)
theorem worn_is {f : GFrame} {w : GWear} (h : WOk f w) (hp : w.fPins.length ≤ 1048576) (v : GLives) : spec_l06Worn w v = some (wornPins w v, wornHams f.fHammers.length w v) := by
  have hh1 := h.fr.h1; have hsl := h.sl
  have l1 : loop (spec_l06Worn.l_12 w v) (([] : List GWornPin), 0) = some (wornPins w v) :=
    loop_take (f := spec_l06Worn.l_12 w v) w.fPins (by omega) (fun ps => ps.filter fun p => decide (p.fTurns > v.fPin)) id (fun k hk => by
      have hle := List.length_filter_le (fun p : GWornPin => decide (p.fTurns > v.fPin)) (w.fPins.take k)
      rw [List.length_take] at hle
      simp only [spec_l06Worn.l_12, ix_lt hk, Option.bind_some]
      rw [if_pos (by simpa using hk), List.filter_append]
      by_cases c : w.fPins[k].fTurns > v.fPin
      · rw [if_pos (by simpa using c), if_pos (by simp only [List.length_cons, List.length_nil]; omega)]
        simp [c]
      · rw [if_neg (by simpa using c)]
        simp [c]) (by simp [spec_l06Worn.l_12])
  have l2 : loop (spec_l06Worn.l_7 w v) (([] : List Int), 0) = some (wornHams f.fHammers.length w v) := by
    have := loop_take (f := spec_l06Worn.l_7 w v) (List.range f.fHammers.length) (by simp; omega) (fun ts => (ts.filter fun t => decide (stroke w t > v.fHammer)).map fun t : Nat => (t : Int)) id (fun k hk => by
      have hk : k < f.fHammers.length := by simpa using hk
      have hle := List.length_filter_le (fun t => decide (stroke w t > v.fHammer)) ((List.range f.fHammers.length).take k)
      rw [List.length_take] at hle
      simp only [spec_l06Worn.l_7, (stroke_ix h hk).1, Option.bind_some, List.getElem_range]
      rw [if_pos (by simp; omega), List.filter_append, List.map_append]
      by_cases c : stroke w k > v.fHammer
      · rw [if_pos (by simpa using c), if_pos (by simp only [List.length_cons, List.length_nil, List.length_map]; omega)]
        simp [c]
      · rw [if_neg (by simpa using c)]
        simp [c]) (by simp [spec_l06Worn.l_7, hsl])
    exact this
  simp only [spec_l06Worn, l1, Option.bind_some, spec_l06Worn.k_2, l2, spec_l06Worn.k_4]
theorem worn_any (f : GFrame) (w : GWear) (v : GLives) : (partsL f w v).any wornB = !(decide (wornPins w v = []) && decide (wornHams f.fHammers.length w v = [])) := by
  unfold partsL wornPins wornHams
  rw [List.any_append, Bool.eq_iff_iff]
  simp only [List.any_map, List.any_eq_true, Function.comp, wornB, pinPart, hamPart, Bool.or_eq_true, Bool.not_eq_true', Bool.and_eq_false_iff, decide_eq_false_iff_not, decide_eq_true_eq, List.filter_eq_nil_iff, List.map_eq_nil_iff]
  constructor
  · rintro (⟨p, h1, h2⟩ | ⟨t, h1, h2⟩)
    · left; intro h; exact h p h1 (by simpa using h2)
    · right; intro h; exact h t h1 (by simpa using h2)
  · rintro (h | h)
    · left
      exact Classical.byContradiction fun hn => h fun p hp hq => hn ⟨p, hp, by simpa using hq⟩
    · right
      exact Classical.byContradiction fun hn => h fun p hp hq => hn ⟨p, hp, by simpa using hq⟩
/-! ### codes of wear and lives -/
def livB (v : GLives) : Bool := (decide (1 ≤ v.fPin) && decide (v.fPin ≤ 1000000)) && (decide (1 ≤ v.fHammer) && decide (v.fHammer ≤ 1000000))
theorem l06Lives_is (v : GLives) : spec_l06Lives v = some (livB v) := by
  simp only [spec_l06Lives, spec_l00In, Option.bind_some, livB, ge_iff_le]
  cases (decide (1 ≤ v.fPin) && decide (v.fPin ≤ 1000000)) <;> simp
theorem validLives_is (v : GLives) : impl_ValidLives v = some (livB v) := by
  simp only [impl_ValidLives, impl_within, Option.bind_some, livB]
  cases (decide (1 ≤ v.fPin) && decide (v.fPin ≤ 1000000)) <;> simp
theorem contains_lives (a : List GLives) (h : a.length ≤ 9223372036854775807) : slices_ContainsFunc_Lives_at_impl_wearCode_1 a = some (!(a.all livB)) := by
  obtain ⟨t, ht, hq⟩ := loop_find (f := slices_IndexFunc_Lives_at_impl_wearCode_1.l_3 a) a (fun x => !(livB x)) (by omega) (fun k hk => by
    simp only [slices_IndexFunc_Lives_at_impl_wearCode_1.l_3, ix_lt hk, Option.bind_some, impl_wearCode_1, validLives_is]
    rw [if_pos (by simpa using hk)]
    by_cases he : livB a[k] = true <;> simp [he]) (by simp [slices_IndexFunc_Lives_at_impl_wearCode_1.l_3])
  simp only [slices_ContainsFunc_Lives_at_impl_wearCode_1, slices_IndexFunc_Lives_at_impl_wearCode_1, ht, Option.bind_some]
  rcases hq with ⟨hany, k, rfl, _⟩ | ⟨hany, rfl⟩
  · rw [any_not] at hany
    rw [hany]; simp
  · rw [any_not] at hany
    rw [hany]; simp [slices_IndexFunc_Lives_at_impl_wearCode_1.k_1]
theorem wearCode_is (f : GFrame) (w : GWear) (hf : f.fHammers.length ≤ 1048576) (hp : w.fPins.length ≤ 1048576) (hs : w.fStrokes.length ≤ 1048576) (vs : List GLives) (hv : vs.length ≤ 9223372036854775807) :
    impl_wearCode f w vs = some (if wearB f w = true ∧ vs.all livB = true then 0 else 1) := by
  simp only [impl_wearCode, validWear_is f w hf hp hs, Option.bind_some]
  cases wearB f w with
  | false => simp [impl_unless]
  | true =>
    simp only [if_true, contains_lives vs hv, Option.bind_some, Bool.not_not, unless_is]
    cases vs.all livB <;> simp
theorem l06Lived_is (f : GFrame) (w : GWear) (hf : f.fHammers.length ≤ 1048576) (hp : w.fPins.length ≤ 1048576) (hs : w.fStrokes.length ≤ 1048576) (v : GLives) :
    spec_l06Lived f w v = some (if wearB f w = true ∧ livB v = true then 0 else 1) := by
  simp only [spec_l06Lived, l06Ok_is f w hf hp hs, Option.bind_some, l06Lives_is, spec_l06Lived.k_2]
  cases wearB f w with
  | false => simp
  | true => cases livB v <;> simp
theorem wearCode1 (f : GFrame) (w : GWear) (hf : f.fHammers.length ≤ 1048576) (hp : w.fPins.length ≤ 1048576) (hs : w.fStrokes.length ≤ 1048576) (v : GLives) :
    impl_wearCode f w [v] = some (if wearB f w = true ∧ livB v = true then 0 else 1) := by
  rw [wearCode_is f w hf hp hs [v] (by simp)]; simp

end Go.Proofs.YtolfkfjjifdmeaaGreatDoor
/- The part that is worn out first, and how many turns are left: the program's answers are the reference's. -/
namespace Go.Proofs.YtolfkfjjifdmeaaGreatDoor
open Eng
set_option linter.unusedVariables false
set_option linter.unusedSimpArgs false

def leftV (p : Gpart) : Int := if p.feach = 0 then 1000000 else if 1000000 < w64 (Int.tdiv (w64 (p.flife - p.fmade)) p.feach) then 1000000 else w64 (Int.tdiv (w64 (p.flife - p.fmade)) p.feach)
def stepF (s : Gpart × Int) (p : Gpart) : Gpart × Int := if leftV p < s.2 then (p, leftV p) else s
/-! ### the reference's least -/
theorem whole_is {f : GFrame} {w : GWear} (h : WOk f w) (hp : w.fPins.length ≤ 1048576) (v : GLives) : spec_l06Whole w v = some (!((partsL f w v).any wornB)) := by
  simp only [spec_l06Whole, worn_is h hp v, Option.bind_some, worn_any, Bool.not_not]
  congr 1
  rw [Bool.eq_iff_iff]
  simp only [Bool.and_eq_true, beq_iff_eq, decide_eq_true_eq]
  constructor
  · rintro ⟨a, b⟩; exact ⟨List.eq_nil_of_length_eq_zero (by omega), List.eq_nil_of_length_eq_zero (by omega)⟩
  · rintro ⟨a, b⟩; rw [a, b]; exact ⟨rfl, rfl⟩
theorem lifeCode_is {f : GFrame} {w : GWear} {v : GLives} (hi : FIn f) (hw : WIn w) (hf : f.fHammers.length ≤ 1048576) (hp : w.fPins.length ≤ 1048576) (hs : w.fStrokes.length ≤ 1048576) :
    impl_lifeCode f w v = some (if wearB f w = true ∧ livB v = true then (if (partsL f w v).any wornB = true then 4 else 0) else 1) := by
  simp only [impl_lifeCode, wearCode1 f w hf hp hs v, Option.bind_some]
  by_cases c : wearB f w = true ∧ livB v = true
  · have hok := wearB_ok c.1 hi hw
    have hh1 := hok.fr.h1
    have hl := partsL_len f w v
    simp only [if_pos c, parts_is hok hp v, Option.bind_some, contains_worn _ (show (partsL f w v).length ≤ 9223372036854775807 by omega), unless_is]
    cases (partsL f w v).any wornB <;> simp
  · simp only [if_neg c]
    simp

end Go.Proofs.YtolfkfjjifdmeaaGreatDoor
/- A copy of a wear is the wear. -/
namespace Go.Proofs.YtolfkfjjifdmeaaGreatDoor
open Eng
set_option linter.unusedVariables false
set_option linter.unusedSimpArgs false

theorem own_is (w : GWear) (hp : w.fPins.length ≤ 1048576) (hs : w.fStrokes.length ≤ 1048576) : impl_Wear_own w = some w := by
  simp only [impl_Wear_own, slices_Clone_WornPin, slices_Clone_int64, List.length_nil, List.nil_append]
  rw [if_pos (by omega), if_pos (by omega)]
  rfl
theorem copy_is (w : GWear) (hp : w.fPins.length ≤ 1048576) (hs : w.fStrokes.length ≤ 1048576) : spec_l06Copy w = some w := by
  simp only [spec_l06Copy, List.length_nil, List.nil_append]
  rw [if_pos (by omega), if_pos (by omega)]

end Go.Proofs.YtolfkfjjifdmeaaGreatDoor
/- The code of places in a wear: the program's is the reference's. -/
namespace Go.Proofs.YtolfkfjjifdmeaaGreatDoor
open Eng
set_option linter.unusedVariables false
set_option linter.unusedSimpArgs false

def plA (f : GFrame) (p : Arr 2 Int) : Bool := plB f (p.at 0 (by decide)) (p.at 1 (by decide))
theorem wornPlace_is (f : GFrame) (w : GWear) (hf : f.fHammers.length ≤ 1048576) (hp : w.fPins.length ≤ 1048576) (hs : w.fStrokes.length ≤ 1048576) (ps : List (Arr 2 Int)) (hl : ps.length ≤ 9223372036854775807) :
    impl_wornPlaceCode f w ps = some (if wearB f w = true then (if ps.all (plA f) = true then 0 else 2) else 1) := by
  have hc : slices_ContainsFunc_2int64_at_impl_wornPlaceCode_1 ps f = some (!(ps.all (plA f))) := by
    obtain ⟨t, ht, hq⟩ := loop_find (f := slices_IndexFunc_2int64_at_impl_wornPlaceCode_1.l_3 ps f) ps (fun x => !(plA f x)) hl (fun k hk => by
      have e0 : ix ps[k].1 0 = some (ps[k].at 0 (by decide)) := ix_arr_lt (by decide)
      have e1 : ix ps[k].1 1 = some (ps[k].at 1 (by decide)) := ix_arr_lt (by decide)
      simp only [slices_IndexFunc_2int64_at_impl_wornPlaceCode_1.l_3, ix_lt hk, Option.bind_some, impl_wornPlaceCode_1, e0, e1, isPlace_is]
      rw [if_pos (by simpa using hk)]
      unfold plA
      by_cases he : plB f (ps[k].at 0 (by decide)) (ps[k].at 1 (by decide)) = true <;> simp [he]) (by simp [slices_IndexFunc_2int64_at_impl_wornPlaceCode_1.l_3])
    simp only [slices_ContainsFunc_2int64_at_impl_wornPlaceCode_1, slices_IndexFunc_2int64_at_impl_wornPlaceCode_1, ht, Option.bind_some]
    rcases hq with ⟨hany, k, rfl, _⟩ | ⟨hany, rfl⟩
    · rw [any_not] at hany
      rw [hany]; simp
    · rw [any_not] at hany
      rw [hany]; simp [slices_IndexFunc_2int64_at_impl_wornPlaceCode_1.k_1]
  simp only [impl_wornPlaceCode, wearCode_is f w hf hp hs [] (by simp), Option.bind_some, hc, unless_is]
  cases wearB f w with
  | false => simp
  | true => cases ps.all (plA f) <;> simp
theorem arr2_plA (f : GFrame) (a b : Int) : plA f (Arr.set (Arr.set (Arr.rep 2 0) 0 a) 1 b) = plB f a b := rfl

end Go.Proofs.YtolfkfjjifdmeaaGreatDoor
/- A new hammer: the program's way is the reference's. -/
namespace Go.Proofs.YtolfkfjjifdmeaaGreatDoor
open Eng
set_option linter.unusedVariables false
set_option linter.unusedSimpArgs false

theorem newHammer_full (f : GFrame) (w : GWear) (t : Int) (hi : FIn f) (hw : WIn w) (hf : f.fHammers.length ≤ 1048576) (hp : w.fPins.length ≤ 1048576) (hs : w.fStrokes.length ≤ 1048576) :
    ∃ r, impl_NewHammer f w t = some r ∧ spec_NewHammer f w t = some r ∧ r.1.fPins.length ≤ w.fPins.length ∧ r.1.fStrokes.length ≤ w.fStrokes.length ∧ (r.2 = 0 → WOk f r.1) := by
  simp only [impl_NewHammer, spec_NewHammer, wornPlace_is f w hf hp hs _ (show ([Arr.set (Arr.set (Arr.rep 2 0) 0 0) 1 t] : List (Arr 2 Int)).length ≤ 9223372036854775807 by simp), l06Ok_is f w hf hp hs, Option.bind_some, List.all_cons, List.all_nil, arr2_plA, Bool.and_true, own_is w hp hs, copy_is w hp hs, spec_l00In]
  cases c : wearB f w with
  | false => exact ⟨(⟨[], []⟩, 1), by simp, by simp, by simp, by simp, fun h => absurd h (by decide)⟩
  | true =>
    have hok := wearB_ok c hi hw
    have h1 := hok.fr.s0; have h2 := hok.fr.h0; have h3 := hok.fr.h1; have hsl := hok.sl
    rw [w64_in (n := (f.fHammers.length : Int) - 1) (by omega) (by omega)]
    by_cases ht : 0 ≤ t ∧ t < f.fHammers.length
    · have e1 : plB f 0 t = true := (plB_ok hok.fr 0 t).2 ⟨by omega, ht⟩
      have hl : t.toNat < w.fStrokes.length := by omega
      have e2 : ix w.fStrokes t = some w.fStrokes[t.toNat] := by
        have := ix_lt hl
        rwa [show ((t.toNat : Nat) : Int) = t by omega] at this
      refine ⟨(⟨w.fPins, w.fStrokes.set t.toNat 0⟩, 0), by simp [e1, e2], ?_, Nat.le_refl _, by simp, fun _ => ⟨hok.fr, by simpa using hok.sl, hok.pl, hok.so, fun s hs => ?_⟩⟩
      rotate_left
      · rcases List.mem_or_eq_of_mem_set hs with h | rfl
        · exact hok.st s h
        · omega
      rw [if_neg (by simp), if_neg (by simp; omega), e2]; rfl
    · have e1 : plB f 0 t = false := by
        rw [← Bool.not_eq_true, plB_ok hok.fr 0 t]
        rintro ⟨_, h⟩; exact ht h
      refine ⟨(⟨[], []⟩, 2), by simp [e1], ?_, by simp, by simp, fun h => absurd h (by decide)⟩
      rw [if_neg (by simp), if_pos (by simp; omega)]
end Go.Proofs.YtolfkfjjifdmeaaGreatDoor
/- Wear behind some turns, the program's and the reference's. -/
namespace Go.Proofs.YtolfkfjjifdmeaaGreatDoor
open Eng
set_option linter.unusedVariables false
set_option linter.unusedSimpArgs false

def tp (n : Int) (p : GWornPin) : GWornPin := ⟨p.fStep, p.fTrack, p.fTurns + n⟩
/-- a row in which the first k are turned -/
def upto {S : Type} (g : Nat → S → S) (xs : List S) (k : Nat) : List S := xs.mapIdx fun i x => if i < k then g i x else x
theorem upto_len {S : Type} (g : Nat → S → S) (xs : List S) (k : Nat) : (upto g xs k).length = xs.length := by simp [upto]
theorem upto_get {S : Type} (g : Nat → S → S) (xs : List S) (k i : Nat) (hi : i < xs.length) : (upto g xs k)[i]? = some (if i < k then g i xs[i] else xs[i]) := by
  unfold upto
  rw [List.getElem?_mapIdx, List.getElem?_eq_getElem hi]; rfl
theorem upto_zero {S : Type} (g : Nat → S → S) (xs : List S) : upto g xs 0 = xs := by
  apply List.ext_getElem?
  intro i
  by_cases hi : i < xs.length
  · rw [upto_get g xs 0 i hi, List.getElem?_eq_getElem hi]; simp
  · rw [List.getElem?_eq_none (by rw [upto_len]; omega), List.getElem?_eq_none (by omega)]
theorem upto_set {S : Type} (g : Nat → S → S) (xs : List S) (k : Nat) (hk : k < xs.length) (y : S) (hy : y = g k xs[k]) : (upto g xs k).set k y = upto g xs (k + 1) := by
  subst hy
  apply List.ext_getElem?
  intro i
  rw [List.getElem?_set, upto_len]
  by_cases hi : i < xs.length
  · rw [upto_get _ _ _ _ hi, upto_get _ _ _ _ hi]
    by_cases e : k = i
    · subst e; rw [if_pos rfl, if_pos hk, if_pos (by omega)]
    · rw [if_neg e]
      by_cases h2 : i < k
      · rw [if_pos h2, if_pos (by omega)]
      · rw [if_neg h2, if_neg (by omega)]
  · rw [List.getElem?_eq_none (by rw [upto_len]; omega), List.getElem?_eq_none (by rw [upto_len]; omega), if_neg (by omega)]
theorem upto_ix {S : Type} (g : Nat → S → S) (xs : List S) (k : Nat) (hk : k < xs.length) : ix (upto g xs k) (k : Int) = some xs[k] := by
  refine ix_get ?_
  rw [upto_get _ _ _ _ hk, if_neg (by omega)]
theorem upto_ix1 {S : Type} (g : Nat → S → S) (xs : List S) (k : Nat) (hk : k < xs.length) : ix (upto g xs (k + 1)) (k : Int) = some (g k xs[k]) := by
  refine ix_get ?_
  rw [upto_get _ _ _ _ hk, if_pos (by omega)]
theorem upto_all {S : Type} (g : Nat → S → S) (xs : List S) (k : Nat) (hk : xs.length ≤ k) : upto g xs k = xs.mapIdx g := by
  unfold upto
  apply List.ext_getElem?
  intro i
  rw [List.getElem?_mapIdx, List.getElem?_mapIdx]
  cases h : xs[i]? with
  | none => rfl
  | some x =>
    have : i < xs.length := by
      rcases Nat.lt_or_ge i xs.length with h' | h'
      · exact h'
      · rw [List.getElem?_eq_none h'] at h; cases h
    simp; omega
def gS (w : GWear) (n : Int) (t : Nat) (x : Int) : Int := x + cnt w.fPins t * n
theorem small {c : Nat} {n : Int} (hc : c ≤ 1048576) (h0 : 0 ≤ n) (h1 : n ≤ 1000000) : 0 ≤ (c : Int) * n ∧ (c : Int) * n ≤ 1048576000000 := by
  have e1 : (c : Int) * n ≤ 1048576 * n := Int.mul_le_mul_of_nonneg_right (by omega) h0
  exact ⟨Int.mul_nonneg (by omega) h0, by omega⟩
/-! ### the program -/
theorem implPins {f : GFrame} {w : GWear} (h : WOk f w) (hp : w.fPins.length ≤ 1048576) {n : Int} (h0 : 0 ≤ n) (h1 : n ≤ 1000000) : loop (impl_TurnWear.l_22 n w) (w.fPins, 0) = some (w.fPins.mapIdx fun _ => tp n) := by
  have := loop_seq (f := impl_TurnWear.l_22 n w) w.fPins.length (fun k => (upto (fun _ => tp n) w.fPins k, (k : Int))) (w.fPins.mapIdx fun _ => tp n) (fun k hk => by
    have hpl := (h.pl _ (List.getElem_mem hk)).2.2
    have e : (upto (fun _ => tp n) w.fPins k).set k (⟨w.fPins[k].fStep, w.fPins[k].fTrack, w.fPins[k].fTurns + n⟩ : GWornPin) = upto (fun _ => tp n) w.fPins (k + 1) := upto_set _ _ k hk _ rfl
    simp only [impl_TurnWear.l_22, upto_ix _ _ k hk, Option.bind_some]
    rw [if_pos (by simpa using hk), w64_in (n := w.fPins[k].fTurns + n) (by omega) (by omega), w64_in (n := (k : Int) + 1) (by omega) (by omega), Int.toNat_natCast, e]
    rfl) (by
    simp only [impl_TurnWear.l_22]
    rw [if_neg (by simp), upto_all _ _ _ (Nat.le_refl _)])
  simpa [upto_zero] using this
theorem implStrokes {f : GFrame} {w : GWear} (h : WOk f w) (hp : w.fPins.length ≤ 1048576) {n : Int} (h0 : 0 ≤ n) (h1 : n ≤ 1000000) : loop (impl_TurnWear.l_15 n (eachL f.fHammers.length w.fPins)) (w.fStrokes, 0) = some (w.fStrokes.mapIdx (gS w n)) := by
  have hsl := h.sl; have hh1 := h.fr.h1
  have := loop_seq (f := impl_TurnWear.l_15 n (eachL f.fHammers.length w.fPins)) w.fStrokes.length (fun k => (upto (gS w n) w.fStrokes k, (k : Int))) (w.fStrokes.mapIdx (gS w n)) (fun k hk => by
    have hst := h.st _ (List.getElem_mem hk)
    have hs := small (Nat.le_trans (cnt_le w.fPins k) hp) h0 h1
    have e : (upto (gS w n) w.fStrokes k).set k (w.fStrokes[k] + (cnt w.fPins k : Int) * n) = upto (gS w n) w.fStrokes (k + 1) := upto_set _ _ k hk _ rfl
    simp only [impl_TurnWear.l_15, upto_ix _ _ k hk, ix_get (eachL_get f.fHammers.length w.fPins k (by omega)), Option.bind_some, eachL_len]
    rw [if_pos (by simp; omega), w64_in (n := (cnt w.fPins k : Int) * n) (by omega) (by omega), w64_in (n := w.fStrokes[k] + (cnt w.fPins k : Int) * n) (by omega) (by omega), w64_in (n := (k : Int) + 1) (by omega) (by omega), Int.toNat_natCast, e]
    rfl) (by
    simp only [impl_TurnWear.l_15, eachL_len]
    rw [if_neg (by simp; omega), upto_all _ _ _ (Nat.le_refl _)])
  simpa [upto_zero] using this
/-! ### the reference -/
theorem specPins {f : GFrame} {w : GWear} (h : WOk f w) (hp : w.fPins.length ≤ 1048576) {n : Int} (h0 : 0 ≤ n) (h1 : n ≤ 1000000) :
    loop (spec_l06Turned.l_22 n w) (w.fPins, true, 0) = some (w.fPins.mapIdx (fun _ => tp n), w.fPins.all fun p => tuB (p.fTurns + n)) := by
  have := loop_seq (f := spec_l06Turned.l_22 n w) w.fPins.length (fun k => (upto (fun _ => tp n) w.fPins k, (w.fPins.take k).all (fun p => tuB (p.fTurns + n)), (k : Int))) (w.fPins.mapIdx (fun _ => tp n), w.fPins.all fun p => tuB (p.fTurns + n)) (fun k hk => by
    have hpl := (h.pl _ (List.getElem_mem hk)).2.2
    have e : (upto (fun _ => tp n) w.fPins k).set k (⟨w.fPins[k].fStep, w.fPins[k].fTrack, w.fPins[k].fTurns + n⟩ : GWornPin) = upto (fun _ => tp n) w.fPins (k + 1) := upto_set _ _ k hk _ rfl
    simp only [spec_l06Turned.l_22, upto_ix _ _ k hk, Option.bind_some]
    rw [if_pos (by simpa using hk), w64_in (n := w.fPins[k].fTurns + n) (by omega) (by omega), w64_in (n := (k : Int) + 1) (by omega) (by omega), Int.toNat_natCast, e, upto_ix1 _ _ k hk]
    simp only [Option.bind_some, l06Turns_is, tp, List.take_succ_eq_append_getElem hk, List.all_append, List.all_cons, List.all_nil, Bool.and_true]
    cases (w.fPins.take k).all (fun p => tuB (p.fTurns + n)) <;> simp) (by
    simp only [spec_l06Turned.l_22]
    rw [if_neg (by simp), upto_all _ _ _ (Nat.le_refl _), List.take_length])
  simpa [upto_zero] using this
theorem specStrokes {f : GFrame} {w : GWear} (h : WOk f w) (hp : w.fPins.length ≤ 1048576) {n : Int} (h0 : 0 ≤ n) (h1 : n ≤ 1000000) (q : Bool) :
    loop (spec_l06Turned.l_12 n (eachL f.fHammers.length w.fPins)) (w.fStrokes, q, 0) = some (w.fStrokes.mapIdx (gS w n), q && (w.fStrokes.mapIdx (gS w n)).all tuB) := by
  have hsl := h.sl; have hh1 := h.fr.h1
  have := loop_seq (f := spec_l06Turned.l_12 n (eachL f.fHammers.length w.fPins)) w.fStrokes.length (fun k => (upto (gS w n) w.fStrokes k, q && ((w.fStrokes.mapIdx (gS w n)).take k).all tuB, (k : Int))) (w.fStrokes.mapIdx (gS w n), q && (w.fStrokes.mapIdx (gS w n)).all tuB) (fun k hk => by
    have hst := h.st _ (List.getElem_mem hk)
    have hs := small (Nat.le_trans (cnt_le w.fPins k) hp) h0 h1
    have e : (upto (gS w n) w.fStrokes k).set k (w.fStrokes[k] + (cnt w.fPins k : Int) * n) = upto (gS w n) w.fStrokes (k + 1) := upto_set _ _ k hk _ rfl
    have hk2 : k < (w.fStrokes.mapIdx (gS w n)).length := by simpa using hk
    simp only [spec_l06Turned.l_12, upto_ix _ _ k hk, ix_get (eachL_get f.fHammers.length w.fPins k (by omega)), Option.bind_some, eachL_len]
    rw [if_pos (by simp; omega), Int.mul_comm n, w64_in (n := (cnt w.fPins k : Int) * n) (by omega) (by omega), w64_in (n := w.fStrokes[k] + (cnt w.fPins k : Int) * n) (by omega) (by omega), w64_in (n := (k : Int) + 1) (by omega) (by omega), Int.toNat_natCast, e, upto_ix1 _ _ k hk]
    have e3 : (w.fStrokes.mapIdx (gS w n))[k] = gS w n k w.fStrokes[k] := by simp
    simp only [Option.bind_some, l06Turns_is, List.take_succ_eq_append_getElem hk2, List.all_append, List.all_cons, List.all_nil, Bool.and_true, e3]
    cases q <;> cases ((w.fStrokes.mapIdx (gS w n)).take k).all tuB <;> simp) (by
    simp only [spec_l06Turned.l_12, eachL_len]
    rw [if_neg (by simp; omega), upto_all _ _ _ (Nat.le_refl _), List.take_of_length_le (by simp)])
  simpa [upto_zero] using this
/-! ### the turned wear is valid if its numbers are -/
theorem wearB_turned {f : GFrame} {w : GWear} (h : WOk f w) (n : Int) : wearB f ⟨w.fPins.mapIdx fun _ => tp n, w.fStrokes.mapIdx (gS w n)⟩ = ((w.fPins.all fun p => tuB (p.fTurns + n)) && (w.fStrokes.mapIdx (gS w n)).all tuB) := by
  unfold wearB
  simp only [frameB_of h.fr, List.length_mapIdx, h.sl, decide_true, Bool.true_and]
  congr 1
  rw [Bool.eq_iff_iff, List.all_eq_true, List.all_eq_true]
  have hs0 := h.fr.s0; have hs1 := h.fr.s1; have hh1 := h.fr.h1
  have key : ∀ k (hk : k < w.fPins.length), pinOk f (w.fPins.mapIdx fun _ => tp n) k = tuB (w.fPins[k].fTurns + n) := by
    intro k hk
    unfold pinOk
    rw [List.getElem?_mapIdx, List.getElem?_eq_getElem hk]
    simp only [Option.map_some, tp]
    obtain ⟨a, b, _⟩ := h.pl _ (List.getElem_mem hk)
    have e1 : plB f (w64 w.fPins[k].fStep) (w64 w.fPins[k].fTrack) = true := by
      rw [plB_ok h.fr, w64_in (by omega) (by omega), w64_in (by omega) (by omega)]; exact ⟨a, b⟩
    rw [e1]
    by_cases h0 : k = 0
    · subst h0; simp
    · have hk' : k - 1 < w.fPins.length := by omega
      rw [List.getElem?_mapIdx, List.getElem?_eq_getElem hk']
      have := List.pairwise_iff_getElem.1 h.so (k - 1) k hk' hk (by omega)
      simp only [Option.map_some, befB, tp] at this ⊢
      rw [this]; simp
  constructor
  · intro h2 p hp
    obtain ⟨k, hk, rfl⟩ := List.mem_iff_getElem.1 hp
    rw [← key k hk]; exact h2 k (by simpa using hk)
  · intro h2 k hk
    have hk : k < w.fPins.length := by simpa using hk
    rw [key k hk]; exact h2 _ (List.getElem_mem hk)
theorem turnWear_full (f : GFrame) (w : GWear) (n : Int) (hi : FIn f) (hw : WIn w) (hf : f.fHammers.length ≤ 1048576) (hp : w.fPins.length ≤ 1048576) (hs : w.fStrokes.length ≤ 1048576) :
    ∃ r, impl_TurnWear f w n = some r ∧ spec_TurnWear f w n = some r ∧ r.1.fPins.length ≤ w.fPins.length ∧ r.1.fStrokes.length ≤ w.fStrokes.length ∧ (r.2 = 0 → WOk f r.1) := by
  simp only [impl_TurnWear, spec_TurnWear, wearCode_is f w hf hp hs [] (by simp), l06Ok_is f w hf hp hs, isMade_is, l06Turns_is, unless_is, firstOf2, Option.bind_some, List.all_nil, and_true]
  cases c : wearB f w with
  | false => exact ⟨(⟨[], []⟩, 1), by simp, by simp, by simp, by simp, fun h => absurd h (by decide)⟩
  | true =>
    have hok := wearB_ok c hi hw
    cases ct : tuB n with
    | false => exact ⟨(⟨[], []⟩, 2), by simp, by simp, by simp, by simp, fun h => absurd h (by decide)⟩
    | true =>
      have ht : 0 ≤ n ∧ n ≤ 1000000 := by unfold tuB at ct; simpa using ct
      obtain ⟨d, hd, hdi, hpin⟩ := wearDrum_is hok hp
      have hv : wearB f ⟨w.fPins.mapIdx fun _ => tp n, w.fStrokes.mapIdx (gS w n)⟩ = ((w.fPins.all fun p => tuB (p.fTurns + n)) && (w.fStrokes.mapIdx (gS w n)).all tuB) := wearB_turned hok n
      simp only [Bool.not_true, Bool.false_eq_true, if_false, if_true, bne_self_eq_false, ne_eq, not_true_eq_false, own_is w hp hs, Option.bind_some, implPins hok hp ht.1 ht.2, impl_TurnWear.k_7, hd, byTrack_wear hok hdi hpin, implStrokes hok hp ht.1 ht.2, impl_TurnWear.k_11,
        validWear_is f ⟨w.fPins.mapIdx fun _ => tp n, w.fStrokes.mapIdx (gS w n)⟩ hf (by simpa using hp) (by simpa using hs), hv, spec_l06Turned, copy_is w hp hs, l06Each_is hok hp, specPins hok hp ht.1 ht.2, spec_l06Turned.k_5, specStrokes hok hp ht.1 ht.2, spec_l06Turned.k_8]
      have hW2 : WIn ⟨w.fPins.mapIdx fun _ => tp n, w.fStrokes.mapIdx (gS w n)⟩ := by
        intro p hp
        obtain ⟨i, hi, rfl⟩ := List.mem_mapIdx.1 hp
        exact hw w.fPins[i] (List.getElem_mem hi)
      cases hb : ((w.fPins.all fun p => tuB (p.fTurns + n)) && (w.fStrokes.mapIdx (gS w n)).all tuB) with
      | false => exact ⟨(⟨[], []⟩, 3), by simp, by simp, by simp, by simp, fun h => absurd h (by decide)⟩
      | true => exact ⟨(⟨w.fPins.mapIdx fun _ => tp n, w.fStrokes.mapIdx (gS w n)⟩, 0), by simp, by simp, by simp, by simp, fun _ => wearB_ok (hv.trans hb) hi hW2⟩
end Go.Proofs.YtolfkfjjifdmeaaGreatDoor
/- A pin found, taken out, and put in its place: the program sorts, the reference puts; they come to one row. -/
namespace Go.Proofs.YtolfkfjjifdmeaaGreatDoor
open Eng
set_option linter.unusedVariables false
set_option linter.unusedSimpArgs false

/-! ### finding -/
theorem find_same (w : GWear) (s t : Int) : spec_l06Find w s t = impl_Wear_at w s t := by
  have step : ∀ i : Int, spec_l06Find.l_3 w s t i = slices_IndexFunc_WornPin_at_impl_Wear_at_1.l_3 w.fPins s t i := by
    intro i
    simp only [spec_l06Find.l_3, slices_IndexFunc_WornPin_at_impl_Wear_at_1.l_3, impl_Wear_at_1, spec_l06Find.k_6]
    by_cases hk : decide (i < (w.fPins.length : Int)) = true
    · rw [if_pos hk, if_pos hk]
      cases ix w.fPins i with
      | none => rfl
      | some p => by_cases h1 : w64 p.fStep = s <;> by_cases h2 : w64 p.fTrack = t <;> simp [h1, h2]
    · rw [if_neg hk, if_neg hk]
  have hl : loop (spec_l06Find.l_3 w s t) 0 = loop (slices_IndexFunc_WornPin_at_impl_Wear_at_1.l_3 w.fPins s t) 0 := by
    congr 1; funext i; exact step i
  simp only [spec_l06Find, impl_Wear_at, slices_IndexFunc_WornPin_at_impl_Wear_at_1, hl]
  cases loop (slices_IndexFunc_WornPin_at_impl_Wear_at_1.l_3 w.fPins s t) 0 with
  | none => rfl
  | some x => cases x <;> rfl
def atB (s t : Int) (p : GWornPin) : Bool := (w64 p.fStep == s) && (w64 p.fTrack == t)
theorem at_cases (w : GWear) (hp : w.fPins.length ≤ 1048576) (s t : Int) : (∃ (k : Nat) (hk : k < w.fPins.length), impl_Wear_at w s t = some (k : Int) ∧ atB s t w.fPins[k] = true) ∨ (impl_Wear_at w s t = some (-1) ∧ ∀ p ∈ w.fPins, atB s t p = false) := by
  obtain ⟨x, hx, hq⟩ := loop_find (f := slices_IndexFunc_WornPin_at_impl_Wear_at_1.l_3 w.fPins s t) w.fPins (atB s t) (by omega) (fun k hk => by
    simp only [slices_IndexFunc_WornPin_at_impl_Wear_at_1.l_3, ix_lt hk, Option.bind_some, impl_Wear_at_1]
    rw [if_pos (by simpa using hk)]
    show (if atB s t w.fPins[k] = true then _ else _) = _
    cases atB s t w.fPins[k] <;> simp) (by simp [slices_IndexFunc_WornPin_at_impl_Wear_at_1.l_3])
  simp only [impl_Wear_at, slices_IndexFunc_WornPin_at_impl_Wear_at_1, hx, Option.bind_some]
  rcases hq with ⟨_, k, rfl, hk, h1, _⟩ | ⟨h1, rfl⟩
  · exact .inl ⟨k, hk, rfl, h1⟩
  · right
    refine ⟨rfl, fun p hp => ?_⟩
    have := List.any_eq_false.1 h1 p hp
    simpa using this
/-! ### the order -/
theorem bef_asymm {a b : GWornPin} (h1 : befB a b = true) (h2 : befB b a = true) : False := by
  rw [befB_iff] at h1 h2; omega
theorem bef_trans {a b c : GWornPin} (h1 : befB a b = true) (h2 : befB b c = true) : befB a c = true := by
  rw [befB_iff] at h1 h2 ⊢; omega
theorem bef_total {a b : GWornPin} (h1 : befB a b = false) (h2 : ¬ (a.fStep = b.fStep ∧ a.fTrack = b.fTrack)) : befB b a = true := by
  have h3 : ¬ befB a b = true := by rw [h1]; simp
  rw [befB_iff] at h3 ⊢; omega
theorem bef_congr {a b a' b' : GWornPin} (h1 : a.fStep = a'.fStep) (h2 : a.fTrack = a'.fTrack) (h3 : b.fStep = b'.fStep) (h4 : b.fTrack = b'.fTrack) : befB a b = befB a' b' := by
  unfold befB; rw [h1, h2, h3, h4]
theorem sorted_eq : ∀ (a b : List GWornPin), a.Pairwise (fun x y => befB x y = true) → b.Pairwise (fun x y => befB x y = true) → a.Perm b → a = b := by
  intro a
  induction a with
  | nil => intro b _ _ h; exact (List.nil_perm.1 h).symm
  | cons x a ih =>
    intro b ha hb h
    cases b with
    | nil => exact absurd h.length_eq (by simp)
    | cons y b =>
      rw [List.pairwise_cons] at ha hb
      by_cases e : x = y
      · subst e
        rw [ih b ha.2 hb.2 h.cons_inv]
      · have h1 : x ∈ y :: b := h.mem_iff.1 (by simp)
        have h2 : y ∈ x :: a := h.mem_iff.2 (by simp)
        rcases List.mem_cons.1 h1 with h1 | h1
        · exact absurd h1 e
        · rcases List.mem_cons.1 h2 with h2 | h2
          · exact absurd h2.symm e
          · exact (bef_asymm (ha.1 y h2) (hb.1 x h1)).elim
theorem sort_eq {e r : List GWornPin} (he : e.Pairwise (fun x y => befB x y = true)) (hp : r.Perm e) (hr : ∀ i j : Nat, i < j → (hj : j < r.length) → (hi : i < r.length) → ¬ befB r[j] r[i] = true) : r = e := by
  have h1 : e.Pairwise (fun x y => befB x y = true ∨ befB y x = true) := he.imp fun h => .inl h
  have h2 : r.Pairwise (fun x y => befB x y = true ∨ befB y x = true) := (hp.pairwise_iff fun h => h.symm).2 h1
  have h3 : r.Pairwise (fun x y => befB x y = true) := by
    rw [List.pairwise_iff_getElem] at h2 ⊢
    intro i j hi hj hij
    rcases h2 i j hi hj hij with h | h
    · exact h
    · exact absurd h (hr i j hij hj hi)
  exact sorted_eq r e h3 he hp
/-! ### the program's sort -/
theorem cmpV_bef (a b : GWornPin) : cmpV (fun a b => impl_comparePins a b) a b < 0 ↔ befB a b = true := by
  show ((impl_comparePins a b).getD 0) < 0 ↔ _
  rw [comparePins_is, befB_iff]
  simp only [Option.getD_some]
  by_cases h1 : a.fStep < b.fStep
  · simp [h1]
  · by_cases h2 : a.fStep > b.fStep
    · simp [h1, h2] <;> omega
    · by_cases h3 : a.fTrack < b.fTrack
      · simp [h1, h2, h3] <;> omega
      · by_cases h4 : a.fTrack > b.fTrack
        · simp [h1, h2, h3, h4] <;> omega
        · simp [h1, h2, h3, h4] <;> omega
theorem ltOf_bef (a b : GWornPin) : Go.Proofs.ltOf (cmpV (fun a b => impl_comparePins a b)) a b = befB a b := by
  unfold Go.Proofs.ltOf
  rw [Bool.eq_iff_iff, decide_eq_true_eq]
  exact cmpV_bef a b
theorem bef_swo : Go.Sort.SWO (Go.Proofs.ltOf (cmpV (fun a b : GWornPin => impl_comparePins a b))) where
  irrefl x := by
    rw [ltOf_bef, ← Bool.not_eq_true, befB_iff]; omega
  trans x y z h1 h2 := by
    rw [ltOf_bef] at h1 h2 ⊢; exact bef_trans h1 h2
  ntrans x y z h1 h2 := by
    rw [ltOf_bef, ← Bool.not_eq_true, befB_iff] at h1 h2 ⊢; omega
theorem with_is (w : GWear) (x : GWornPin) (hp : w.fPins.length ≤ 1048576) (hs : w.fStrokes.length ≤ 1048576) {e : List GWornPin} (he : e.Pairwise (fun x y => befB x y = true)) (hpm : e.Perm (w.fPins ++ [x])) : impl_Wear_with w x = some ⟨e, w.fStrokes⟩ := by
  obtain ⟨r, hr⟩ := sortF_some (cmp := fun a b => impl_comparePins a b) (xs := w.fPins ++ [x]) (fun a b => by rw [comparePins_is]; rfl) bef_swo (by simp; omega)
  obtain ⟨h1, h2, h3⟩ := sortF_sorts hr
  have : r = e := sort_eq he (h1.trans hpm.symm) (fun i j hij hj hi h => h3 i j hij hj hi ((cmpV_bef _ _).2 h))
  subst this
  simp only [impl_Wear_with, own_is w hp hs, Option.bind_some, slices_SortFunc_WornPin_at_impl_comparePins, hr]
  rw [if_pos (by simp; omega)]
theorem wearWithout_is (w : GWear) (hp : w.fPins.length ≤ 1048576) (hs : w.fStrokes.length ≤ 1048576) {k : Nat} (hk : k < w.fPins.length) : impl_Wear_without w (k : Int) = some ⟨w.fPins.take k ++ w.fPins.drop (k + 1), w.fStrokes⟩ := by
  have e : w64 ((k : Int) + 1) = ((k + 1 : Nat) : Int) := by rw [w64_in (by omega) (by omega)]; omega
  simp only [impl_Wear_without, own_is w hp hs, Option.bind_some, e, slices_Delete_WornPin, Int.toNat_natCast]
  rw [if_pos (by omega), if_neg (by simp; omega), if_pos (by omega), if_pos (by omega), if_pos (by simp only [List.length_drop]; omega)]
  rfl
/-! ### the reference's put -/
theorem put_is (ps : List GWornPin) (x : GWornPin) (hp : ps.length ≤ 1048577) : ∃ k, k ≤ ps.length ∧ spec_l06Put ps x = some (ps.take k ++ x :: ps.drop k) ∧ (∀ (i : Nat) (hi : i < ps.length), i < k → befB ps[i] x = true) ∧ (∀ hk : k < ps.length, befB ps[k] x = false) := by
  obtain ⟨r, hr, k, rfl, hk, h1, h2⟩ := loop_inv (f := spec_l06Put.l_4 ps x) (fun i => ∃ k : Nat, k ≤ ps.length ∧ i = (k : Int) ∧ ∀ (i : Nat) (hi : i < ps.length), i < k → befB ps[i] x = true) (fun i => ps.length - i.toNat)
    (fun r => ∃ k : Nat, r = (k : Int) ∧ k ≤ ps.length ∧ (∀ (i : Nat) (hi : i < ps.length), i < k → befB ps[i] x = true) ∧ (∀ hk : k < ps.length, befB ps[k] x = false)) (by
    rintro _ ⟨k, hk, rfl, h⟩
    by_cases hlt : k < ps.length
    · simp only [spec_l06Put.l_4, ix_lt hlt, Option.bind_some, before_is]
      rw [if_pos (by simpa using hlt)]
      cases hb : befB ps[k] x with
      | true =>
        left
        refine ⟨((k + 1 : Nat) : Int), by rw [w64_in (n := (k : Int) + 1) (by omega) (by omega)]; simp, ⟨k + 1, by omega, rfl, fun i hi hik => ?_⟩, by omega⟩
        by_cases e : i = k
        · subst e; exact hb
        · exact h i hi (by omega)
      | false =>
        right
        exact ⟨_, by simp, k, rfl, hk, h, fun _ => hb⟩
    · right
      simp only [spec_l06Put.l_4]
      rw [if_neg (by simpa using hlt)]
      exact ⟨_, rfl, k, rfl, hk, h, fun h' => absurd h' hlt⟩) 0 ⟨0, by omega, rfl, fun i _ h => by omega⟩
  refine ⟨k, hk, ?_, h1, h2⟩
  simp only [spec_l06Put, hr, Option.bind_some, spec_l06Put.k_2, Int.toNat_natCast, List.nil_append, List.length_nil, List.length_cons]
  rw [if_pos (by omega), if_pos (by simp only [List.length_drop]; omega), if_pos (by omega), if_pos (by simp only [List.length_take]; omega), if_pos (by simp only [List.length_take, List.length_append, List.length_drop, List.length_cons, List.length_nil]; omega)]
  rfl
theorem put_sorted {ps : List GWornPin} {x : GWornPin} (hs : ps.Pairwise (fun a b => befB a b = true)) (hx : ∀ p ∈ ps, ¬ (p.fStep = x.fStep ∧ p.fTrack = x.fTrack)) {k : Nat} (hk : k ≤ ps.length) (h1 : ∀ (i : Nat) (hi : i < ps.length), i < k → befB ps[i] x = true) (h2 : ∀ hk : k < ps.length, befB ps[k] x = false) :
    (ps.take k ++ x :: ps.drop k).Pairwise (fun a b => befB a b = true) := by
  have hlow : ∀ a ∈ ps.take k, befB a x = true := by
    intro a ha
    obtain ⟨i, hi, rfl⟩ := List.mem_iff_getElem.1 ha
    rw [List.length_take] at hi
    rw [List.getElem_take]
    exact h1 i (by omega) (by omega)
  have hhigh : ∀ b ∈ ps.drop k, befB x b = true := by
    intro b hb
    obtain ⟨i, hi, rfl⟩ := List.mem_iff_getElem.1 hb
    rw [List.length_drop] at hi
    rw [List.getElem_drop]
    have hk' : k < ps.length := by omega
    have h3 := bef_total (h2 hk') (hx _ (List.getElem_mem hk'))
    cases i with
    | zero => simpa using h3
    | succ i =>
      have := List.pairwise_iff_getElem.1 hs k (k + (i + 1)) hk' (by omega) (by omega)
      exact bef_trans h3 this
  rw [List.pairwise_append]
  refine ⟨hs.sublist (List.take_sublist _ _), ?_, ?_⟩
  · rw [List.pairwise_cons]
    exact ⟨hhigh, hs.sublist (List.drop_sublist _ _)⟩
  · intro a ha b hb
    rcases List.mem_cons.1 hb with rfl | hb
    · exact hlow a ha
    · exact bef_trans (hlow a ha) (hhigh b hb)
theorem put_perm (ps : List GWornPin) (x : GWornPin) (k : Nat) : (ps.take k ++ x :: ps.drop k).Perm (ps ++ [x]) := by
  refine List.perm_middle.trans ?_
  rw [List.take_append_drop]
  exact (List.perm_append_singleton x ps).symm
/-! ### a new pin -/
theorem atB_iff {f : GFrame} {w : GWear} (h : WOk f w) {p : GWornPin} (hp : p ∈ w.fPins) (s t : Int) : atB s t p = true ↔ p.fStep = s ∧ p.fTrack = t := by
  have hs1 := h.fr.s1; have hh1 := h.fr.h1
  obtain ⟨⟨a, b⟩, ⟨c, d⟩, _⟩ := h.pl p hp
  unfold atB
  rw [w64_in (by omega) (by omega), w64_in (by omega) (by omega)]
  simp
theorem newPin_full (f : GFrame) (w : GWear) (s t : Int) (hi : FIn f) (hw : WIn w) (hf : f.fHammers.length ≤ 1048576) (hp : w.fPins.length ≤ 1048576) (hs : w.fStrokes.length ≤ 1048576) :
    ∃ r, impl_NewPin f w s t = some r ∧ spec_NewPin f w s t = some r ∧ r.1.fPins.length + r.1.fStrokes.length ≤ w.fPins.length + w.fStrokes.length + f.fHammers.length ∧ (r.2 = 0 → WOk f r.1) := by
  simp only [impl_NewPin, spec_NewPin, wornPlace_is f w hf hp hs _ (show ([Arr.set (Arr.set (Arr.rep 2 0) 0 s) 1 t] : List (Arr 2 Int)).length ≤ 9223372036854775807 by simp), l06Ok_is f w hf hp hs, Option.bind_some, List.all_cons, List.all_nil, arr2_plA, Bool.and_true, copy_is w hp hs, l06Place_is, find_same]
  cases c : wearB f w with
  | false => exact ⟨(⟨[], []⟩, 1), by simp, by simp, by simp, fun h => absurd h (by decide)⟩
  | true =>
    have hok := wearB_ok c hi hw
    have h1 := hok.fr.s1; have h2 := hok.fr.h0; have h3 := hok.fr.h1
    cases hpl : plB f s t with
    | false => exact ⟨(⟨[], []⟩, 2), by simp, by simp, by simp, fun h => absurd h (by decide)⟩
    | true =>
      obtain ⟨⟨a1, a2⟩, b1, b2⟩ := (plB_ok hok.fr s t).1 hpl
      rw [w8_in (n := s) (by omega) (by omega), w8_in (n := t) (by omega) (by omega)]
      simp only [if_true, Bool.not_true, Bool.false_eq_true, if_false, bne_self_eq_false]
      rcases at_cases w hp s t with ⟨k, hk, e1, e2⟩ | ⟨e1, e2⟩
      · have hm : w.fPins[k] ∈ w.fPins := List.getElem_mem hk
        obtain ⟨g1, g2⟩ := (atB_iff hok hm s t).1 e2
        simp only [e1, Option.bind_some, wearWithout_is w hp hs hk, ix_lt hk, g1, g2, Int.toNat_natCast]
        rw [if_pos (by rw [decide_eq_true_eq]; omega), if_pos (by rw [decide_eq_true_eq]; omega)]
        have hset : w.fPins.set k (⟨s, t, 0⟩ : GWornPin) = w.fPins.take k ++ (⟨s, t, 0⟩ : GWornPin) :: w.fPins.drop (k + 1) := by rw [List.set_eq_take_append_cons_drop, if_pos hk]
        have hsrt : (w.fPins.set k (⟨s, t, 0⟩ : GWornPin)).Pairwise (fun x y => befB x y = true) := by
          rw [List.pairwise_iff_getElem]
          intro i j hi' hj' hij
          have hi2 : i < w.fPins.length := by simpa using hi'
          have hj2 : j < w.fPins.length := by simpa using hj'
          have := List.pairwise_iff_getElem.1 hok.so i j hi2 hj2 hij
          rw [List.getElem_set, List.getElem_set]
          have key : ∀ (m : Nat) (hm : m < w.fPins.length), (if k = m then (⟨s, t, 0⟩ : GWornPin) else w.fPins[m]).fStep = w.fPins[m].fStep ∧ (if k = m then (⟨s, t, 0⟩ : GWornPin) else w.fPins[m]).fTrack = w.fPins[m].fTrack := by
            intro m hm
            by_cases e : k = m
            · subst e; rw [if_pos rfl]; exact ⟨g1.symm, g2.symm⟩
            · rw [if_neg e]; exact ⟨rfl, rfl⟩
          rw [bef_congr (key i hi2).1 (key i hi2).2 (key j hj2).1 (key j hj2).2]
          exact this
        have hw' := with_is (⟨w.fPins.take k ++ w.fPins.drop (k + 1), w.fStrokes⟩ : GWear) (⟨s, t, 0⟩ : GWornPin) (by simp; omega) hs hsrt (by
          rw [hset]
          exact List.perm_middle.trans (List.perm_append_singleton _ _).symm)
        simp only [hw', Option.bind_some]
        refine ⟨_, rfl, rfl, by simp, fun _ => ⟨hok.fr, hok.sl, fun p hp' => ?_, hsrt, hok.st⟩⟩
        rcases List.mem_or_eq_of_mem_set hp' with h | rfl
        · exact hok.pl p h
        · exact ⟨⟨a1, a2⟩, ⟨b1, b2⟩, by simp⟩
      · simp only [e1, Option.bind_some]
        rw [if_neg (by decide), if_neg (by decide)]
        obtain ⟨k, hk, p1, p2, p3⟩ := put_is w.fPins (⟨s, t, 0⟩ : GWornPin) (by omega)
        have hx : ∀ p ∈ w.fPins, ¬ (p.fStep = s ∧ p.fTrack = t) := fun p hpm hh => by
          have := e2 p hpm
          rw [(atB_iff hok hpm s t).2 hh] at this; cases this
        have hw' := with_is w (⟨s, t, 0⟩ : GWornPin) hp hs (put_sorted hok.so hx hk p2 p3) (put_perm _ _ _)
        simp only [hw', p1, Option.bind_some]
        refine ⟨_, rfl, rfl, by simp; omega, fun _ => ⟨hok.fr, hok.sl, fun p hp' => ?_, put_sorted hok.so hx hk p2 p3, hok.st⟩⟩
        rcases List.mem_append.1 ((put_perm _ _ _).mem_iff.1 hp') with h | h
        · exact hok.pl p h
        · rw [List.mem_singleton] at h; subst h; exact ⟨⟨a1, a2⟩, ⟨b1, b2⟩, by simp⟩
/-! ### a pin moved -/
theorem movePin_full (f : GFrame) (w : GWear) (s t s2 t2 : Int) (hi : FIn f) (hw : WIn w) (hf : f.fHammers.length ≤ 1048576) (hp : w.fPins.length ≤ 1048576) (hs : w.fStrokes.length ≤ 1048576) :
    ∃ r, impl_MovePin f w s t s2 t2 = some r ∧ spec_MovePin f w s t s2 t2 = some r ∧ r.1.fPins.length + r.1.fStrokes.length ≤ w.fPins.length + w.fStrokes.length + f.fHammers.length ∧ (r.2 = 0 → WOk f r.1) := by
  simp only [impl_MovePin, spec_MovePin, wornPlace_is f w hf hp hs _ (show ([Arr.set (Arr.set (Arr.rep 2 0) 0 s) 1 t, Arr.set (Arr.set (Arr.rep 2 0) 0 s2) 1 t2] : List (Arr 2 Int)).length ≤ 9223372036854775807 by simp), l06Ok_is f w hf hp hs, Option.bind_some, List.all_cons, List.all_nil, arr2_plA, Bool.and_true, l06Place_is, find_same, spec_MovePin.k_3]
  cases c : wearB f w with
  | false => exact ⟨(⟨[], []⟩, 1), by simp, by simp, by simp, fun h => absurd h (by decide)⟩
  | true =>
    have hok := wearB_ok c hi hw
    have h1 := hok.fr.s1; have h2 := hok.fr.h0; have h3 := hok.fr.h1
    cases hpl : plB f s t with
    | false => exact ⟨(⟨[], []⟩, 2), by simp, by simp, by simp, fun h => absurd h (by decide)⟩
    | true =>
      cases hpl2 : plB f s2 t2 with
      | false => exact ⟨(⟨[], []⟩, 2), by simp, by simp, by simp, fun h => absurd h (by decide)⟩
      | true =>
        obtain ⟨⟨a1, a2⟩, b1, b2⟩ := (plB_ok hok.fr s2 t2).1 hpl2
        simp only [Bool.and_self, if_true, Bool.not_true, Bool.false_eq_true, if_false, bne_self_eq_false]
        rcases at_cases w hp s t with ⟨k, hk, e1, e2⟩ | ⟨e1, e2⟩
        · rcases at_cases w hp s2 t2 with ⟨k2, hk2, f1, f2⟩ | ⟨f1, f2⟩
          · refine ⟨(⟨[], []⟩, 4), ?_, ?_, by simp, fun h => absurd h (by decide)⟩
            · simp only [e1, f1, Option.bind_some, impl_MovePin.k_4]
              rw [if_neg (by rw [decide_eq_true_eq]; omega), if_pos (by rw [decide_eq_true_eq]; omega)]
            · simp only [e1, f1, Option.bind_some, spec_MovePin.k_6]
              rw [if_neg (by rw [decide_eq_true_eq]; omega), if_pos (by rw [decide_eq_true_eq]; omega)]
          · have hw64 : w64 ((k : Int) + 1) = ((k + 1 : Nat) : Int) := by rw [w64_in (by omega) (by omega)]; omega
            have hlen : (w.fPins.take k ++ w.fPins.drop (k + 1)).length ≤ 1048576 := by simp only [List.length_append, List.length_take, List.length_drop]; omega
            have hsub : (w.fPins.take k ++ w.fPins.drop (k + 1)).Sublist w.fPins := by
              have := List.Sublist.append (List.Sublist.refl (w.fPins.take k)) (List.drop_sublist_drop_left w.fPins (Nat.le_succ k))
              rwa [List.take_append_drop] at this
            have hso := hok.so.sublist hsub
            obtain ⟨j, hj, p1, p2, p3⟩ := put_is (w.fPins.take k ++ w.fPins.drop (k + 1)) (⟨s2, t2, w.fPins[k].fTurns⟩ : GWornPin) (by omega)
            have hx : ∀ p ∈ w.fPins.take k ++ w.fPins.drop (k + 1), ¬ (p.fStep = s2 ∧ p.fTrack = t2) := fun p hpm hh => by
              have hpm2 := hsub.subset hpm
              have := f2 p hpm2
              rw [(atB_iff hok hpm2 s2 t2).2 hh] at this; cases this
            have hw' := with_is (⟨w.fPins.take k ++ w.fPins.drop (k + 1), w.fStrokes⟩ : GWear) (⟨s2, t2, w.fPins[k].fTurns⟩ : GWornPin) hlen hs (put_sorted hso hx hj p2 p3) (put_perm _ _ _)
            refine ⟨(⟨(w.fPins.take k ++ w.fPins.drop (k + 1)).take j ++ (⟨s2, t2, w.fPins[k].fTurns⟩ : GWornPin) :: (w.fPins.take k ++ w.fPins.drop (k + 1)).drop j, w.fStrokes⟩, 0), ?_, ?_, ?_, fun _ => ⟨hok.fr, hok.sl, fun p hp' => ?_, put_sorted hso hx hj p2 p3, hok.st⟩⟩
            rotate_left 3
            · rcases List.mem_append.1 ((put_perm _ _ _).mem_iff.1 hp') with h | h
              · exact hok.pl p (hsub.subset h)
              · rw [List.mem_singleton] at h; subst h
                exact ⟨⟨a1, a2⟩, ⟨b1, b2⟩, (hok.pl _ (List.getElem_mem hk)).2.2⟩
            · simp only [e1, f1, Option.bind_some, impl_MovePin.k_4, ix_lt hk, wearWithout_is w hp hs hk]
              rw [if_neg (by rw [decide_eq_true_eq]; omega), if_neg (by decide), w8_in (n := s2) (by omega) (by omega), w8_in (n := t2) (by omega) (by omega)]
              simp only [hw', Option.bind_some]
            · simp only [e1, f1, Option.bind_some, spec_MovePin.k_6, ix_lt hk, copy_is w hp hs, hw64, Int.toNat_natCast, List.nil_append, List.length_nil]
              rw [if_neg (by rw [decide_eq_true_eq]; omega), if_neg (by decide), if_pos (by omega), if_pos (by omega), if_pos (by simp only [List.length_take]; omega), if_pos (by simp only [List.length_take, List.length_drop]; omega), w8_in (n := s2) (by omega) (by omega), w8_in (n := t2) (by omega) (by omega)]
              simp only [p1, Option.bind_some]
            · have e := (put_perm (w.fPins.take k ++ w.fPins.drop (k + 1)) (⟨s2, t2, w.fPins[k].fTurns⟩ : GWornPin) j).length_eq
              simp only
              rw [e]
              simp only [List.length_append, List.length_take, List.length_drop, List.length_cons, List.length_nil]
              omega
        · refine ⟨(⟨[], []⟩, 4), ?_, ?_, by simp, fun h => absurd h (by decide)⟩
          · simp [e1, impl_MovePin.k_4]
          · simp [e1, spec_MovePin.k_6]
end Go.Proofs.YtolfkfjjifdmeaaGreatDoor
/- An act on a wear: the program's way is the reference's. -/
namespace Go.Proofs.YtolfkfjjifdmeaaGreatDoor
open Eng
set_option linter.unusedVariables false
set_option linter.unusedSimpArgs false

theorem doWearAct_full (f : GFrame) (w : GWear) (a : GAct) (hi : FIn f) (hw : WIn w) (hf : f.fHammers.length ≤ 1048576) (hp : w.fPins.length ≤ 1048576) (hs : w.fStrokes.length ≤ 1048576) :
    ∃ r, impl_DoWearAct f w a = some r ∧ spec_DoWearAct f w a = some r ∧ r.1.fPins.length + r.1.fStrokes.length ≤ w.fPins.length + w.fStrokes.length + f.fHammers.length ∧ (r.2 = 0 → WOk f r.1) := by
  obtain ⟨r1, a1, b1, c1, d1, o1⟩ := turnWear_full f w a.fA hi hw hf hp hs
  obtain ⟨r2, a2, b2, c2, d2, o2⟩ := newHammer_full f w a.fA hi hw hf hp hs
  obtain ⟨r3, a3, b3, c3, o3⟩ := newPin_full f w a.fA a.fB hi hw hf hp hs
  obtain ⟨r4, a4, b4, c4, o4⟩ := movePin_full f w a.fA a.fB a.fC a.fD hi hw hf hp hs
  simp only [impl_DoWearAct, spec_DoWearAct, a1, a2, a3, a4, l06Ok_is f w hf hp hs, Option.bind_some]
  cases c : wearB f w with
  | false =>
    have e1 : r1 = (⟨[], []⟩, 1) := by simpa [spec_TurnWear, l06Ok_is f w hf hp hs, c] using b1.symm
    have e2 : r2 = (⟨[], []⟩, 1) := by simpa [spec_NewHammer, l06Ok_is f w hf hp hs, c] using b2.symm
    have e3 : r3 = (⟨[], []⟩, 1) := by simpa [spec_NewPin, l06Ok_is f w hf hp hs, c] using b3.symm
    have e4 : r4 = (⟨[], []⟩, 1) := by simpa [spec_MovePin, l06Ok_is f w hf hp hs, c] using b4.symm
    refine ⟨(⟨[], []⟩, 1), ?_, by simp, by simp, fun h => absurd h (by decide)⟩
    rw [e1, e2, e3, e4]
    simp only [wearCode_is f w hf hp hs [] (by simp), c, Option.bind_some, firstOf2]
    simp
  | true =>
    simp only [b1, b2, b3, b4, Option.bind_some, wearCode_is f w hf hp hs [] (by simp), c, firstOf2, Bool.not_true, Bool.false_eq_true, if_false]
    by_cases k0 : (a.fKind == 0) = true
    · simp only [if_pos k0]; exact ⟨_, rfl, rfl, by simp only; omega, o1⟩
    · simp only [if_neg k0]
      by_cases k1 : (a.fKind == 1) = true
      · simp only [if_pos k1]; exact ⟨_, rfl, rfl, by simp only; omega, o2⟩
      · simp only [if_neg k1]
        by_cases k2 : (a.fKind == 2) = true
        · simp only [if_pos k2]; exact ⟨_, rfl, rfl, by simp only; omega, o3⟩
        · simp only [if_neg k2]
          by_cases k3 : (a.fKind == 3) = true
          · simp only [if_pos k3]; exact ⟨_, rfl, rfl, by simp only; omega, o4⟩
          · simp only [if_neg k3]
            exact ⟨(⟨[], []⟩, 2), by simp, by simp, by simp, fun h => absurd h (by decide)⟩
end Go.Proofs.YtolfkfjjifdmeaaGreatDoor
/- A list of acts done: the program's way is the reference's. -/
namespace Go.Proofs.YtolfkfjjifdmeaaGreatDoor
open Eng
set_option linter.unusedVariables false
set_option linter.unusedSimpArgs false

/-! ### two walks side by side -/
/-! ### how many pins a wear has -/
theorem strict_le : ∀ (l : List Int) (a N : Int), l.Pairwise (fun x y => x < y) → (∀ x ∈ l, a ≤ x ∧ x < N) → (l.length : Int) ≤ N - a ∨ l = [] := by
  intro l
  induction l with
  | nil => intro a N _ _; exact .inr rfl
  | cons x l ih =>
    intro a N hp hb
    left
    rw [List.pairwise_cons] at hp
    have hx := hb x (by simp)
    rcases ih (x + 1) N hp.2 (fun y hy => ⟨by have := hp.1 y hy; omega, (hb y (List.mem_cons_of_mem _ hy)).2⟩) with h | h
    · rw [List.length_cons]; omega
    · subst h; simp; omega
theorem pins_le {f : GFrame} {w : GWear} (h : WOk f w) : w.fPins.length ≤ 2304 := by
  have hs0 := h.fr.s0; have hs1 := h.fr.s1; have hh1 := h.fr.h1
  have h1 : (w.fPins.map fun p => p.fStep * 24 + p.fTrack).Pairwise (fun x y => x < y) := by
    rw [List.pairwise_map]
    refine List.Pairwise.imp_of_mem ?_ h.so
    intro a b ha hb hab
    rw [befB_iff] at hab
    have h1 := h.pl a ha; have h2 := h.pl b hb
    omega
  rcases strict_le _ 0 2304 h1 (by
    intro x hx
    obtain ⟨p, hp, rfl⟩ := List.mem_map.1 hx
    have := h.pl p hp
    omega) with h2 | h2
  · rw [List.length_map] at h2; omega
  · have := congrArg List.length h2
    rw [List.length_map, List.length_nil] at this; omega
theorem wok_in {f : GFrame} {w : GWear} (h : WOk f w) : WIn w ∧ w.fStrokes.length ≤ 24 ∧ f.fHammers.length ≤ 24 := by
  have hs1 := h.fr.s1; have hh1 := h.fr.h1; have hsl := h.sl
  exact ⟨fun p hp => by have := h.pl p hp; omega, by omega, hh1⟩
/-! ### the acts -/
def actsV (f : GFrame) (w : GWear) (v : GLives) (list : List GAct) : Int := if wearB f w = true ∧ livB v = true then (if list.length ≤ 60 then 0 else 3) else 1
theorem actsCode_is (f : GFrame) (w : GWear) (v : GLives) (list : List GAct) (hf : f.fHammers.length ≤ 1048576) (hp : w.fPins.length ≤ 1048576) (hs : w.fStrokes.length ≤ 1048576) :
    impl_actsCode f w v list = some (actsV f w v list) ∧ spec_l06Acts f w v list = some (actsV f w v list) := by
  constructor
  · simp only [impl_actsCode, wearCode1 f w hf hp hs v, unless_is, firstOf2, Option.bind_some, actsV]
    by_cases c : wearB f w = true ∧ livB v = true
    · simp only [if_pos c]
      by_cases hl : list.length ≤ 60
      · have : (list.length : Int) ≤ 60 := by omega
        simp [hl, this]
      · have : ¬ (list.length : Int) ≤ 60 := by omega
        simp [hl, this]
    · simp only [if_neg c]; simp
  · simp only [spec_l06Acts, l06Lived_is f w hf hp hs v, Option.bind_some, spec_l06Acts.k_3, actsV]
    by_cases c : wearB f w = true ∧ livB v = true
    · simp only [if_pos c]
      by_cases hl : list.length ≤ 60
      · have : ¬ (list.length : Int) > 60 := by omega
        simp [hl, this]
      · have : (list.length : Int) > 60 := by omega
        simp [hl, this]
    · simp only [if_neg c]; simp
end Go.Proofs.YtolfkfjjifdmeaaGreatDoor
/- What is drawn from bytes: numbers within their bounds, frames, lives. -/
namespace Go.Proofs.YtolfkfjjifdmeaaGreatDoor
open Eng
set_option linter.unusedVariables false
set_option linter.unusedSimpArgs false

/-! ### a source -/
structure SOk (s : Gl00Src) (b : Nat) : Prop where
  by_ : ∀ y ∈ s.fcode, 0 ≤ y ∧ y ≤ 255
  a0 : 0 ≤ s.fat
  a1 : s.fat ≤ b
theorem and255 (x : Int) : 0 ≤ bAnd .u64 x 255 ∧ bAnd .u64 x 255 ≤ 255 := by
  have h : (BitVec.ofInt 64 x &&& BitVec.ofInt 64 255).toNat ≤ 255 := by
    rw [BitVec.toNat_and]
    exact Nat.le_trans Nat.and_le_right (by decide)
  show 0 ≤ IntKind.u64.wrap (((BitVec.ofInt 64 x &&& BitVec.ofInt 64 255).toNat : Nat) : Int) ∧ IntKind.u64.wrap (((BitVec.ofInt 64 x &&& BitVec.ofInt 64 255).toNat : Nat) : Int) ≤ 255
  generalize (BitVec.ofInt 64 x &&& BitVec.ofInt 64 255).toNat = m at h
  have : IntKind.u64.wrap (m : Int) = (m : Int) := u64_in (by omega) (by omega)
  rw [this]; omega
theorem next_is {s : Gl00Src} {b : Nat} (h : SOk s b) (hb : b ≤ 1000000) : ∃ x s', spec_l00Src_next s = some (x, s') ∧ 0 ≤ x ∧ x ≤ 255 ∧ SOk s' (b + 1) ∧ s'.fcode = s.fcode := by
  have e := h.a0; have e1 := h.a1
  have key : ∀ i : Int, 0 ≤ i → i ≤ 255 → ∃ x s', spec_l00Src_next.k_2 s i = some (x, s') ∧ 0 ≤ x ∧ x ≤ 255 ∧ SOk s' (b + 1) ∧ s'.fcode = s.fcode := by
    intro i h0 h1
    simp only [spec_l00Src_next.k_2]
    rw [w64_in (n := s.fat + 1) (by omega) (by omega)]
    split
    · exact ⟨_, _, rfl, h0, h1, ⟨h.by_, by simp only; omega, by simp only; omega⟩, rfl⟩
    · have := and255 (bShr .u64 (u64 ((u64 ((u64 (s.fseed * 6364136223846793005)) + (u64 i))) + 1442695040888963407)) 40)
      rw [w64_in (by omega) (by omega)]
      exact ⟨_, _, rfl, this.1, this.2, ⟨h.by_, by simp only; omega, by simp only; omega⟩, rfl⟩
  simp only [spec_l00Src_next]
  by_cases c : s.fat < (s.fcode.length : Int)
  · rw [if_pos (by simpa using c)]
    have hl : s.fat.toNat < s.fcode.length := by omega
    have e2 : ix s.fcode s.fat = some s.fcode[s.fat.toNat] := by
      have := ix_lt hl
      rwa [show ((s.fat.toNat : Nat) : Int) = s.fat by omega] at this
    have hy := h.by_ _ (List.getElem_mem hl)
    simp only [e2, Option.bind_some]
    rw [w64_in (by omega) (by omega)]
    exact key _ hy.1 hy.2
  · rw [if_neg (by simpa using c)]
    exact key 0 (by omega) (by omega)
theorem pick_is {s : Gl00Src} {b : Nat} (h : SOk s b) (hb : b ≤ 900000) {n : Int} (hn : n ≤ 200) : ∃ x s', spec_l00Src_pick s n = some (x, s') ∧ 0 ≤ x ∧ (1 ≤ n → x < n) ∧ SOk s' (b + 1) ∧ s'.fcode = s.fcode := by
  simp only [spec_l00Src_pick]
  by_cases c : n ≤ 1
  · rw [if_pos (by simpa using c)]
    exact ⟨0, s, rfl, by omega, fun _ => by omega, ⟨h.by_, h.a0, by have := h.a1; omega⟩, rfl⟩
  · rw [if_neg (by simpa using c)]
    obtain ⟨x, s', h1, h2, h3, h4, h5⟩ := next_is h (by omega)
    simp only [h1, Option.bind_some, spec_l00Src_pick.k_5]
    rw [if_neg (by rw [decide_eq_true_eq]; omega), if_pos (by omega)]
    refine ⟨_, _, rfl, ?_, fun _ => ?_, ⟨h.by_, h4.a0, h4.a1⟩, rfl⟩
    · rw [Int.tmod_eq_emod_of_nonneg h2]; exact Int.emod_nonneg _ (by omega)
    · rw [Int.tmod_eq_emod_of_nonneg h2]; exact Int.emod_lt_of_pos _ (by omega)
theorem src_eta {s : Gl00Src} {c : List Int} (h : s.fcode = c) : (⟨c, s.fat, s.fseed⟩ : Gl00Src) = s := by
  cases s; subst h; rfl
theorem from_is (code : List Int) (hc : ∀ y ∈ code, 0 ≤ y ∧ y ≤ 255) : spec_l00From code = some ⟨code, 0, 0⟩ ∧ SOk ⟨code, 0, 0⟩ 0 := ⟨rfl, hc, by simp, by simp⟩
/-! ### a frame -/
theorem frameDrawn_is {s : Gl00Src} {b : Nat} (h : SOk s b) (hb : b ≤ 100) : ∃ f s', spec_l02FrameDrawn s = some (f, s') ∧ FOk f ∧ f.fSteps ≤ 17 ∧ f.fHammers.length ≤ 5 ∧ s'.fcode = s.fcode := by
  obtain ⟨x1, s1, e1, p1, q1, o1, c1⟩ := pick_is h (by omega) (n := 14) (by omega)
  obtain ⟨x2, s2, e2, p2, q2, o2, c2⟩ := pick_is o1 (by omega) (n := 5) (by omega)
  have q1 := q1 (by omega); have q2 := q2 (by omega)
  have c2' : s2.fcode = s.fcode := c2.trans c1
  simp only [spec_l02FrameDrawn, e1, Option.bind_some, src_eta c1, e2]
  rw [w64_in (n := 1 + x2) (by omega) (by omega)]
  obtain ⟨⟨a3, a4, hs⟩, hr, g1, g2, g3⟩ := loop_inv (f := spec_l02FrameDrawn.l_11 s) (fun st => ∃ k : Nat, k ≤ 5 ∧ st.2.2.2 = (k : Int) ∧ st.2.2.1.length + k = (1 + x2).toNat ∧ (∀ y ∈ st.2.2.1, (22 ≤ y.fPitch ∧ y.fPitch ≤ 25) ∧ (1 ≤ y.fReady ∧ y.fReady ≤ 4)) ∧ SOk ⟨s.fcode, st.1, st.2.1⟩ (b + 2 + 2 * st.2.2.1.length)) (fun st => st.2.2.2.toNat)
    (fun r => r.2.2.length = (1 + x2).toNat ∧ (∀ y ∈ r.2.2, (22 ≤ y.fPitch ∧ y.fPitch ≤ 25) ∧ (1 ≤ y.fReady ∧ y.fReady ≤ 4)) ∧ SOk ⟨s.fcode, r.1, r.2.1⟩ (b + 20)) (by
    rintro ⟨i, j, xs, _⟩ ⟨k, hk, rfl, hl, hx, ho⟩
    simp only at hl hx ho
    by_cases c : k = 0
    · right
      subst c
      simp only [spec_l02FrameDrawn.l_11]
      rw [if_neg (by decide)]
      exact ⟨_, rfl, by simp only; omega, hx, ⟨ho.by_, ho.a0, by have := ho.a1; simp only at this ⊢; omega⟩⟩
    · left
      obtain ⟨y1, t1, e3, p3, q3, o3, c3⟩ := pick_is ho (by omega) (n := 4) (by omega)
      obtain ⟨y2, t2, e4, p4, q4, o4, c4⟩ := pick_is o3 (by omega) (n := 4) (by omega)
      have q3 := q3 (by omega); have q4 := q4 (by omega)
      have c3' : t1.fcode = s.fcode := c3
      have c4' : t2.fcode = s.fcode := c4.trans c3
      simp only [spec_l02FrameDrawn.l_11, e3, Option.bind_some, src_eta c3', e4]
      rw [if_pos (by rw [decide_eq_true_eq]; omega), if_pos (by simp only [List.length_cons, List.length_nil]; omega)]
      rw [w64_in (n := 22 + y1) (by omega) (by omega), w8_in (n := 22 + y1) (by omega) (by omega), w64_in (n := 1 + y2) (by omega) (by omega), w8_in (n := 1 + y2) (by omega) (by omega), w64_in (n := (k : Int) - 1) (by omega) (by omega)]
      refine ⟨_, rfl, ⟨k - 1, by omega, by simp only; omega, by simp only [List.length_append, List.length_cons, List.length_nil]; omega, ?_, ?_⟩, by simp only; omega⟩
      · intro y hy
        rcases List.mem_append.1 hy with hy | hy
        · exact hx y hy
        · rw [List.mem_singleton] at hy; subst hy; simp only; omega
      · have e5 := src_eta c4'
        simp only [List.length_append, List.length_cons, List.length_nil]
        rw [e5]
        exact ⟨o4.by_, o4.a0, by have := o4.a1; omega⟩) (s2.fat, s2.fseed, [], 1 + x2) ⟨(1 + x2).toNat, by omega, by simp only; omega, by simp, by simp, by
      simp only [List.length_nil]
      rw [src_eta c2']
      exact ⟨o2.by_, o2.a0, by have := o2.a1; omega⟩⟩
  simp only at g1 g2 g3
  simp only [hr, Option.bind_some, spec_l02FrameDrawn.k_6]
  rw [w64_in (n := 4 + x1) (by omega) (by omega), w16_in (n := 4 + x1) (by omega) (by omega)]
  refine ⟨_, _, rfl, ⟨by simp only; omega, by simp only; omega, by simp only; omega, by simp only; omega, fun y hy => ?_⟩, by simp only; omega, by simp only; omega, rfl⟩
  have := g2 y hy
  simp only
  omega
theorem p6Frame_is (code : List Int) (hc : ∀ y ∈ code, 0 ≤ y ∧ y ≤ 255) : ∃ f, spec_P6Frame code = some f ∧ FOk f ∧ f.fSteps ≤ 17 ∧ f.fHammers.length ≤ 5 := by
  obtain ⟨h1, h2⟩ := from_is code hc
  obtain ⟨f, s', e, g1, g2, g3, _⟩ := frameDrawn_is h2 (by omega)
  simp only [spec_P6Frame, h1, Option.bind_some, e]
  exact ⟨f, rfl, g1, g2, g3⟩
theorem p6Lives_is (code : List Int) (hc : ∀ y ∈ code, 0 ≤ y ∧ y ≤ 255) : ∃ v, spec_P6Lives code = some v ∧ (12 ≤ v.fPin ∧ v.fPin ≤ 31) ∧ (12 ≤ v.fHammer ∧ v.fHammer ≤ 51) := by
  obtain ⟨f1, f2⟩ := from_is code hc
  obtain ⟨x, s1, e, p, q, o, c⟩ := pick_is f2 (by omega) (n := 20) (by omega)
  obtain ⟨y, s2, e2, p2, q2, _, _⟩ := pick_is o (by omega) (n := 40) (by omega)
  have q := q (by omega); have q2 := q2 (by omega)
  simp only [spec_P6Lives, f1, Option.bind_some, e, src_eta c, e2]
  rw [w64_in (by omega) (by omega), w64_in (by omega) (by omega)]
  exact ⟨_, rfl, by simp only; omega, by simp only; omega⟩

end Go.Proofs.YtolfkfjjifdmeaaGreatDoor
/- Valid tunes: the program's test is the reference's. -/
namespace Go.Proofs.YtolfkfjjifdmeaaGreatDoor
open Eng
set_option linter.unusedVariables false
set_option linter.unusedSimpArgs false

end Go.Proofs.YtolfkfjjifdmeaaGreatDoor
/- The choices for a note: the program's are the reference's. -/
namespace Go.Proofs.YtolfkfjjifdmeaaGreatDoor
open Eng
set_option linter.unusedVariables false
set_option linter.unusedSimpArgs false

end Go.Proofs.YtolfkfjjifdmeaaGreatDoor
/- Fitting the chosen notes into a drum: whether a place is free, a note put, and the whole list; the program's fit is the reference's. -/
namespace Go.Proofs.YtolfkfjjifdmeaaGreatDoor
open Eng
set_option linter.unusedVariables false
set_option linter.unusedSimpArgs false

/-! ### a walk that may fall -/
/-! ### whether a place is free -/
def clearB (P : Nat → Bool) (r : Nat) : Bool := (List.range r).all fun i => decide (i = 0) || !(P i)
theorem clearB_iff (P : Nat → Bool) (r : Nat) : clearB P r = true ↔ ∀ i, 1 ≤ i → i < r → P i = false := by
  unfold clearB
  rw [List.all_eq_true]
  constructor
  · intro h i h1 h2
    have := h i (by simpa using h2)
    simp only [Bool.or_eq_true, decide_eq_true_eq, Bool.not_eq_true'] at this
    rcases this with h | h
    · omega
    · exact h
  · intro h i hi
    simp only [Bool.or_eq_true, decide_eq_true_eq, Bool.not_eq_true']
    by_cases h0 : i = 0
    · exact .inl h0
    · exact .inr (h i (by omega) (by simpa using hi))
def fwd (f : GFrame) (d : Arr 96 Int) (s t i : Nat) : Bool := pin d ((s + i) % f.fSteps.toNat) t
def bwd (f : GFrame) (d : Arr 96 Int) (s t i : Nat) : Bool := pin d ((s + f.fSteps.toNat - i) % f.fSteps.toNat) t
def readyN (f : GFrame) (t : Nat) : Nat := ((f.fHammers[t]?.map GHammer.fReady).getD 0).toNat
def freeB (f : GFrame) (d : Arr 96 Int) (s t : Nat) : Bool := !(pin d s t) && (clearB (fwd f d s t) (readyN f t) && clearB (bwd f d s t) (readyN f t))
theorem fwd_ix {f : GFrame} (hf : FOk f) {s i : Nat} (hs : s < 96) (hi : i < 96) : Int.tmod (w64 ((s : Int) + (i : Int))) (w64 f.fSteps) = (((s + i) % f.fSteps.toNat : Nat) : Int) ∧ (s + i) % f.fSteps.toNat < 96 := by
  have hs0 := hf.s0; have hs1 := hf.s1
  have e : w64 f.fSteps = (f.fSteps.toNat : Int) := by rw [w64_in (by omega) (by omega)]; omega
  have := Nat.mod_lt (s + i) (show 0 < f.fSteps.toNat by omega)
  rw [w64_in (n := (s : Int) + (i : Int)) (by omega) (by omega), e, show (s : Int) + (i : Int) = ((s + i : Nat) : Int) by omega, tmod_nat]
  exact ⟨rfl, by omega⟩
theorem bwd_ix {f : GFrame} (hf : FOk f) {s i : Nat} (hs : s < 96) (hi : i ≤ f.fSteps.toNat) : Int.tmod (w64 (w64 ((s : Int) + w64 f.fSteps) - (i : Int))) (w64 f.fSteps) = (((s + f.fSteps.toNat - i) % f.fSteps.toNat : Nat) : Int) ∧ (s + f.fSteps.toNat - i) % f.fSteps.toNat < 96 := by
  have hs0 := hf.s0; have hs1 := hf.s1
  have e : w64 f.fSteps = (f.fSteps.toNat : Int) := by rw [w64_in (by omega) (by omega)]; omega
  have := Nat.mod_lt (s + f.fSteps.toNat - i) (show 0 < f.fSteps.toNat by omega)
  rw [e, w64_in (n := (s : Int) + (f.fSteps.toNat : Int)) (by omega) (by omega), w64_in (n := (s : Int) + (f.fSteps.toNat : Int) - (i : Int)) (by omega) (by omega), show (s : Int) + (f.fSteps.toNat : Int) - (i : Int) = ((s + f.fSteps.toNat - i : Nat) : Int) by omega, tmod_nat]
  exact ⟨rfl, by omega⟩
theorem ham_at {f : GFrame} (hf : FOk f) {t : Nat} (ht : t < f.fHammers.length) : ix f.fHammers (t : Int) = some f.fHammers[t] ∧ w64 f.fHammers[t].fReady = (readyN f t : Int) ∧ 1 ≤ readyN f t ∧ readyN f t ≤ 20 ∧ readyN f t ≤ f.fSteps.toNat := by
  have h := hf.hp _ (List.getElem_mem ht)
  have hs0 := hf.s0
  have e : readyN f t = f.fHammers[t].fReady.toNat := by unfold readyN; rw [List.getElem?_eq_getElem ht]; rfl
  refine ⟨ix_lt ht, ?_, by omega, by omega, by omega⟩
  rw [w64_in (by omega) (by omega), e]; omega
theorem l02Free_is {f : GFrame} (hf : FOk f) {d : Arr 96 Int} (hd : DIn d) {s t : Nat} (hs : (s : Int) < f.fSteps) (ht : t < f.fHammers.length) : spec_l02Free f d (s : Int) (t : Int) = some (freeB f d s t) := by
  have hs0 := hf.s0; have hs1 := hf.s1; have hh1 := hf.h1
  obtain ⟨h1, h2, h3, h4, h5⟩ := ham_at hf ht
  have e : w64 f.fSteps = (f.fSteps.toNat : Int) := by rw [w64_in (by omega) (by omega)]; omega
  simp only [spec_l02Free, pin_is hd (show s < 96 by omega) (show t ≤ 32 by omega), Option.bind_some, h1, freeB]
  cases pin d s t with
  | true => simp
  | false =>
    obtain ⟨x, hx, hq⟩ := loop_inv (f := spec_l02Free.l_5 f d (s : Int) (t : Int) f.fHammers[t]) (fun x => ∃ k : Nat, 1 ≤ k ∧ k ≤ readyN f t ∧ x = (k : Int) ∧ ∀ i, 1 ≤ i → i < k → fwd f d s t i = false ∧ bwd f d s t i = false) (fun x => readyN f t - x.toNat)
      (fun x => (x = .inl false ∧ ¬ (clearB (fwd f d s t) (readyN f t) = true ∧ clearB (bwd f d s t) (readyN f t) = true)) ∨ (x = .inr () ∧ (clearB (fwd f d s t) (readyN f t) = true ∧ clearB (bwd f d s t) (readyN f t) = true))) (by
      rintro _ ⟨k, k1, k2, rfl, k3⟩
      simp only [clearB_iff]
      by_cases hk : k < readyN f t
      · obtain ⟨q1, q2⟩ := fwd_ix hf (show s < 96 by omega) (show k < 96 by omega)
        obtain ⟨q3, q4⟩ := bwd_ix hf (show s < 96 by omega) (show k ≤ f.fSteps.toNat by omega)
        have hz : w64 f.fSteps ≠ 0 := by rw [e]; omega
        have step : spec_l02Free.l_5 f d (s : Int) (t : Int) f.fHammers[t] (k : Int) = (if fwd f d s t k = true then some (.inr (.inl false)) else if bwd f d s t k = true then some (.inr (.inl false)) else some (.inl (w64 ((k : Int) + 1)))) := by
          simp only [spec_l02Free.l_5, h2, q1, q3, pin_is hd q2 (show t ≤ 32 by omega), pin_is hd q4 (show t ≤ 32 by omega), Option.bind_some, spec_l02Free.k_8]
          rw [if_pos (by rw [decide_eq_true_eq]; omega), if_pos hz]
          unfold fwd bwd
          cases pin d ((s + k) % f.fSteps.toNat) t
          · simp only [Bool.false_eq_true, if_false]
            rw [if_pos hz]
          · simp
        rw [step]
        cases hF : fwd f d s t k with
        | true =>
          right
          exact ⟨_, by simp, .inl ⟨rfl, fun h => by have := h.1 k k1 hk; rw [hF] at this; cases this⟩⟩
        | false =>
          cases hB : bwd f d s t k with
          | true =>
            right
            exact ⟨_, by simp, .inl ⟨rfl, fun h => by have := h.2 k k1 hk; rw [hB] at this; cases this⟩⟩
          | false =>
            left
            refine ⟨((k + 1 : Nat) : Int), by rw [w64_in (n := (k : Int) + 1) (by omega) (by omega)]; simp, ⟨k + 1, by omega, by omega, rfl, fun i hi hik => ?_⟩, by omega⟩
            by_cases hik2 : i = k
            · rw [hik2]; exact ⟨hF, hB⟩
            · exact k3 i hi (by omega)
      · right
        simp only [spec_l02Free.l_5, h2]
        rw [if_neg (by rw [decide_eq_true_eq]; omega)]
        exact ⟨_, rfl, .inr ⟨rfl, fun i hi hir => (k3 i hi (by omega)).1, fun i hi hir => (k3 i hi (by omega)).2⟩⟩) 1 ⟨1, by omega, by omega, rfl, fun i a b => by omega⟩
    rw [hx]
    simp only [Bool.false_eq_true, if_false, Option.bind_some]
    rcases hq with ⟨rfl, hn⟩ | ⟨rfl, hy⟩
    · simp only [Bool.not_false, Bool.true_and]
      congr 1
      symm
      rw [Bool.and_eq_false_iff, ← Bool.not_eq_true, ← Bool.not_eq_true]
      by_cases ha : clearB (fwd f d s t) (readyN f t) = true
      · exact .inr fun hb => hn ⟨ha, hb⟩
      · exact .inl ha
    · simp [hy.1, hy.2, spec_l02Free.k_3]
end Go.Proofs.YtolfkfjjifdmeaaGreatDoor
/- A fresh wear: the program's way is the reference's. -/
namespace Go.Proofs.YtolfkfjjifdmeaaGreatDoor
open Eng
set_option linter.unusedVariables false
set_option linter.unusedSimpArgs false

def fp (d : Arr 96 Int) (s t : Nat) : List GWornPin := if pin d s t = true then [⟨(s : Int), (t : Int), 0⟩] else []
theorem fp_len (d : Arr 96 Int) (s t : Nat) : (fp d s t).length ≤ 1 := by unfold fp; split <;> simp
def fr (n : Nat) (d : Arr 96 Int) (s : Nat) : List GWornPin := (List.range n).flatMap (fp d s)
theorem fr_len (n : Nat) (d : Arr 96 Int) (s : Nat) : (fr n d s).length ≤ n * 1 := app_len _ _ _ fun k _ => fp_len d s k
def fpins (f : GFrame) (d : Arr 96 Int) : List GWornPin := (List.range f.fSteps.toNat).flatMap (fr f.fHammers.length d)
theorem fpins_len {f : GFrame} (hf : FOk f) (d : Arr 96 Int) : (fpins f d).length ≤ 2304 := by
  have h1 := hf.h1; have h2 := hf.s1; have h3 := hf.s0
  have := app_len f.fSteps.toNat 24 (fr f.fHammers.length d) (fun k _ => by have := fr_len f.fHammers.length d k; omega)
  unfold fpins
  omega
theorem specIn {f : GFrame} (hf : FOk f) {d : Arr 96 Int} (hd : DIn d) (s : Nat) (hs : s < 96) (xs : List GWornPin) (hx : xs.length ≤ 4000) :
    loop (spec_FreshWear.l_12 f d (s : Int)) (xs, 0) = some (xs ++ fr f.fHammers.length d s) := by
  have h1 := hf.h1
  refine loop_app f.fHammers.length 1 (by omega) (fp d s) xs (fun k _ => fp_len d s k) (fun ys k hk hy => ?_) (fun ys => by simp [spec_FreshWear.l_12])
  simp only [spec_FreshWear.l_12, pin_is hd hs (t := k) (by omega), Option.bind_some]
  rw [if_pos (by simpa using hk)]
  unfold fp
  by_cases c : pin d s k = true
  · rw [if_pos c, if_pos c, w8_in (n := (s : Int)) (by omega) (by omega), w8_in (n := (k : Int)) (by omega) (by omega)]
    rw [if_pos (by simp only [List.length_cons, List.length_nil]; omega)]
  · rw [if_neg c, if_neg c, List.append_nil]
theorem specOut {f : GFrame} (hf : FOk f) {d : Arr 96 Int} (hd : DIn d) : loop (spec_FreshWear.l_6 f d) ([], 0) = some (fpins f d) := by
  have h1 := hf.h1; have h2 := hf.s1; have h3 := hf.s0
  have e : w64 f.fSteps = (f.fSteps.toNat : Int) := by rw [w64_in (by omega) (by omega)]; omega
  have := loop_app (f := spec_FreshWear.l_6 f d) f.fSteps.toNat 24 (by omega) (fr f.fHammers.length d) [] (fun k _ => by have := fr_len f.fHammers.length d k; omega) (fun ys k hk hy => by
    simp only [List.length_nil] at hy
    simp only [spec_FreshWear.l_6, Option.bind_some, e, specIn hf hd k (by omega) ys (by omega), spec_FreshWear.k_9]
    rw [if_pos (by simp; omega)]) (fun ys => by simp [spec_FreshWear.l_6, e])
  rw [this, List.nil_append]
  rfl
end Go.Proofs.YtolfkfjjifdmeaaGreatDoor
/- Drums and wears drawn from bytes are valid, and what is turned in them is small. -/
namespace Go.Proofs.YtolfkfjjifdmeaaGreatDoor
open Eng
set_option linter.unusedVariables false
set_option linter.unusedSimpArgs false

theorem drumDrawn_is {f : GFrame} (hf : FOk f) {s : Gl00Src} {b : Nat} (h : SOk s b) (hb : b ≤ 1000) : ∃ d s', spec_l02Drawn s f = some (d, s') ∧ DIn d ∧ (∀ i t, pin d i t = true → (i : Int) < f.fSteps ∧ t < f.fHammers.length) ∧ SOk s' (b + 40) ∧ s'.fcode = s.fcode := by
  have hs0 := hf.s0; have hs1 := hf.s1; have hh0 := hf.h0; have hh1 := hf.h1
  obtain ⟨x1, s1, e1, p1, q1, o1, c1⟩ := pick_is h (by omega) (n := 4) (by omega)
  obtain ⟨x2, s2, e2, p2, q2, o2, c2⟩ := pick_is o1 (by omega) (n := 12) (by omega)
  have q2 := q2 (by omega)
  have c2' : s2.fcode = s.fcode := c2.trans c1
  have hw : w64 f.fSteps = f.fSteps := w64_in (by omega) (by omega)
  simp only [spec_l02Drawn, spec_l00Src_one, e1, Option.bind_some, src_eta c1, e2]
  obtain ⟨⟨a3, i3, j3⟩, hr, g1, g2, g3⟩ := loop_inv (f := spec_l02Drawn.l_11 s f (decide (x1 = 0), s1)) (fun st => ∃ k m : Nat, k + m ≤ 11 ∧ st.2.2.2 = (k : Int) ∧ DIn st.1 ∧ (∀ i t, pin st.1 i t = true → (i : Int) < f.fSteps ∧ t < f.fHammers.length) ∧ SOk ⟨s.fcode, st.2.1, st.2.2.1⟩ (b + 2 + 2 * m)) (fun st => st.2.2.2.toNat)
    (fun r => DIn r.1 ∧ (∀ i t, pin r.1 i t = true → (i : Int) < f.fSteps ∧ t < f.fHammers.length) ∧ SOk ⟨s.fcode, r.2.1, r.2.2⟩ (b + 40)) (by
    rintro ⟨a, i, j, _⟩ ⟨k, m, hk, rfl, hd, hp, ho⟩
    simp only at hd hp ho
    by_cases c : k = 0
    · right
      subst c
      simp only [spec_l02Drawn.l_11]
      rw [if_neg (by decide)]
      exact ⟨_, rfl, hd, hp, ⟨ho.by_, ho.a0, by have := ho.a1; simp only at this ⊢; omega⟩⟩
    · left
      obtain ⟨y1, t1, e3, p3, q3, o3, c3⟩ := pick_is ho (by omega) (n := f.fSteps) (by omega)
      obtain ⟨y2, t2, e4, p4, q4, o4, c4⟩ := pick_is o3 (by omega) (n := (f.fHammers.length : Int)) (by omega)
      have q3 := q3 (by omega); have q4 := q4 (by omega)
      have c3' : t1.fcode = s.fcode := c3
      have c4' : t2.fcode = s.fcode := c4.trans c3
      obtain ⟨n1, rfl⟩ : ∃ n1 : Nat, y1 = (n1 : Int) := ⟨y1.toNat, by omega⟩
      obtain ⟨n2, rfl⟩ : ∃ n2 : Nat, y2 = (n2 : Int) := ⟨y2.toNat, by omega⟩
      have hk1 : w64 ((k : Int) - 1) = ((k - 1 : Nat) : Int) := by rw [w64_in (by omega) (by omega)]; omega
      have ho' : SOk ⟨s.fcode, t2.fat, t2.fseed⟩ (b + 2 + 2 * (m + 1)) := by
        rw [src_eta c4']; exact ⟨o4.by_, o4.a0, by have := o4.a1; omega⟩
      have key : ∀ q : Bool, ∃ st', spec_l02Drawn.k_16 a (k : Int) ((n1 : Int), t1) ((n2 : Int), t2) q = some (.inl st') ∧ (∃ k' m' : Nat, k' + m' ≤ 11 ∧ st'.2.2.2 = (k' : Int) ∧ DIn st'.1 ∧ (∀ i t, pin st'.1 i t = true → (i : Int) < f.fSteps ∧ t < f.fHammers.length) ∧ SOk ⟨s.fcode, st'.2.1, st'.2.2.1⟩ (b + 2 + 2 * m')) ∧ st'.2.2.2.toNat < k := by
        intro q
        simp only [spec_l02Drawn.k_16, hk1]
        cases q with
        | false =>
          refine ⟨_, rfl, ⟨k - 1, m + 1, by omega, rfl, hd, hp, ho'⟩, by simp only; omega⟩
        | true =>
          have hn2 : u64 (n2 : Int) = (n2 : Int) := u64_in (by omega) (by omega)
          obtain ⟨h5, h6⟩ := or_pin hd (show n1 < 96 by omega) (show n2 < 32 by omega)
          simp only [if_true, ix_row hd (show n1 < 96 by omega), Option.bind_some, hn2]
          rw [if_pos (by omega)]
          refine ⟨_, rfl, ⟨k - 1, m + 1, by omega, rfl, h5, fun i t hit => ?_, ho'⟩, by simp only; omega⟩
          have h6' := h6 i t
          simp only at hit
          rw [h6'] at hit
          simp only [Bool.or_eq_true, Bool.and_eq_true, decide_eq_true_eq] at hit
          rcases hit with hit | ⟨rfl, rfl⟩
          · exact hp i t hit
          · omega
      simp only [spec_l02Drawn.l_11, hw, e3, Option.bind_some, src_eta c3', e4]
      rw [if_pos (by rw [decide_eq_true_eq]; omega)]
      by_cases hx : decide (x1 = 0) = true
      · rw [if_pos hx]
        obtain ⟨st', r1, r2, r3⟩ := key true
        exact ⟨st', r1, r2, by show st'.2.2.2.toNat < ((k : Nat) : Int).toNat; omega⟩
      · rw [if_neg hx]
        rw [l02Free_is hf hd (show (n1 : Int) < f.fSteps by omega) (show n2 < f.fHammers.length by omega)]
        simp only [Option.bind_some]
        obtain ⟨st', r1, r2, r3⟩ := key (freeB f a n1 n2)
        exact ⟨st', r1, r2, by show st'.2.2.2.toNat < ((k : Nat) : Int).toNat; omega⟩) (Arr.rep 96 0, s2.fat, s2.fseed, x2) ⟨x2.toNat, 0, by omega, by simp only; omega, DIn_rep, fun i t hit => (by rw [pin_rep] at hit; cases hit), by
      rw [src_eta c2']; exact ⟨o2.by_, o2.a0, by have := o2.a1; omega⟩⟩
  have ed : (x1 == 0) = decide (x1 = 0) := by rw [Bool.eq_iff_iff]; simp
  rw [ed, hr]
  simp only [Option.bind_some, spec_l02Drawn.k_6]
  exact ⟨_, _, rfl, g1, g2, g3, rfl⟩
/-! ### a fresh wear is valid -/
theorem fpins_mem {f : GFrame} (hf : FOk f) {d : Arr 96 Int} {p : GWornPin} (hp : p ∈ fpins f d) : ∃ s t : Nat, (s : Int) < f.fSteps ∧ t < f.fHammers.length ∧ p = ⟨(s : Int), (t : Int), 0⟩ ∧ pin d s t = true := by
  have hs0 := hf.s0
  unfold fpins at hp
  obtain ⟨s, hs, hp⟩ := List.mem_flatMap.1 hp
  unfold fr at hp
  obtain ⟨t, ht, hp⟩ := List.mem_flatMap.1 hp
  rw [List.mem_range] at hs ht
  unfold fp at hp
  by_cases c : pin d s t = true
  · rw [if_pos c, List.mem_singleton] at hp
    exact ⟨s, t, by omega, ht, hp, c⟩
  · rw [if_neg c] at hp; cases hp
theorem fp_mem {d : Arr 96 Int} {s t : Nat} {p : GWornPin} (hp : p ∈ fp d s t) : p = ⟨(s : Int), (t : Int), 0⟩ := by
  unfold fp at hp
  by_cases c : pin d s t = true
  · rw [if_pos c, List.mem_singleton] at hp; exact hp
  · rw [if_neg c] at hp; cases hp
theorem fpins_sorted (f : GFrame) (d : Arr 96 Int) : (fpins f d).Pairwise (fun a b => befB a b = true) := by
  unfold fpins
  rw [List.pairwise_flatMap]
  constructor
  · intro s _
    unfold fr
    rw [List.pairwise_flatMap]
    constructor
    · intro t _
      unfold fp
      split <;> simp
    · refine List.Pairwise.imp ?_ List.pairwise_lt_range
      intro t1 t2 h12 x hx y hy
      rw [fp_mem hx, fp_mem hy, befB_iff]
      exact .inr ⟨rfl, by simp only; omega⟩
  · refine List.Pairwise.imp ?_ List.pairwise_lt_range
    intro s1 s2 h12 x hx y hy
    unfold fr at hx hy
    obtain ⟨t1, _, hx⟩ := List.mem_flatMap.1 hx
    obtain ⟨t2, _, hy⟩ := List.mem_flatMap.1 hy
    rw [fp_mem hx, fp_mem hy, befB_iff]
    simp only; omega
theorem fresh_wok {f : GFrame} (hf : FOk f) (d : Arr 96 Int) : WOk f ⟨fpins f d, List.replicate f.fHammers.length 0⟩ := by
  refine ⟨hf, by simp, fun p hp => ?_, fpins_sorted f d, fun s hs => ?_⟩
  · obtain ⟨s, t, h1, h2, rfl, _⟩ := fpins_mem hf hp
    simp only; omega
  · have := List.eq_of_mem_replicate hs; omega
/-! ### a wear whose numbers are drawn -/
def smallW (w : GWear) : Prop := (∀ p ∈ w.fPins, 0 ≤ p.fTurns ∧ p.fTurns ≤ 11) ∧ ∀ s ∈ w.fStrokes, 0 ≤ s ∧ s ≤ 11
theorem wearDrawn_is {f : GFrame} (hi : FIn f) (hf : FOk f) {s : Gl00Src} (h : SOk s 0) : ∃ w s', spec_l06Drawn s f = some (w, s') ∧ WOk f w ∧ smallW w := by
  have hs0 := hf.s0; have hs1 := hf.s1; have hh0 := hf.h0; have hh1 := hf.h1
  obtain ⟨d, s1, e1, g1, g2, g3, g4⟩ := drumDrawn_is hf h (by omega)
  have r2 : spec_FreshWear f d = some (⟨fpins f d, List.replicate f.fHammers.length 0⟩, 0) := by
    have hb : frameB f = true ∧ drumB f d = true := ⟨frameB_of hf, drumB_of g2⟩
    simp only [spec_FreshWear, l02Asked_is f hi (by omega) d g1, Option.bind_some, if_pos hb, bne_self_eq_false, Bool.false_eq_true, if_false]
    rw [if_pos (by omega)]
    simp only [specOut hf g1, Option.bind_some, spec_FreshWear.k_3]
    simp
  have hw := fresh_wok hf d
  have hpl := fpins_len hf d
  simp only [spec_l06Drawn, e1, Option.bind_some, r2, spec_l06Drawn.k_4]
  generalize hps : fpins f d = ps at hw hpl
  have ini1 : ∀ i (h1 : i < ps.length) (h2 : i < ps.length), ps[i].fStep = ps[i].fStep ∧ ps[i].fTrack = ps[i].fTrack ∧ 0 ≤ ps[i].fTurns ∧ ps[i].fTurns ≤ 11 := by
    intro i h1 h2
    refine ⟨rfl, rfl, ?_⟩
    have hm : ps[i] ∈ fpins f d := by rw [hps]; exact List.getElem_mem h2
    obtain ⟨a, b, _, _, e, _⟩ := fpins_mem hf hm
    rw [e]; simp
  have ini2 : SOk ⟨s.fcode, s1.fat, s1.fseed⟩ (40 + 0) := by
    rw [src_eta g4]
    exact ⟨g3.by_, g3.a0, by have := g3.a1; omega⟩
  obtain ⟨⟨qs, i3, j3⟩, hq, q1, q2, q3⟩ := loop_inv (f := spec_l06Drawn.l_25 s ps) (fun st => ∃ k : Nat, k ≤ ps.length ∧ st.2.2.2 = (k : Int) ∧ st.1.length = ps.length ∧ (∀ i (h1 : i < st.1.length) (h2 : i < ps.length), st.1[i].fStep = ps[i].fStep ∧ st.1[i].fTrack = ps[i].fTrack ∧ 0 ≤ st.1[i].fTurns ∧ st.1[i].fTurns ≤ 11) ∧ SOk ⟨s.fcode, st.2.1, st.2.2.1⟩ (40 + k)) (fun st => ps.length - st.2.2.2.toNat)
    (fun r => r.1.length = ps.length ∧ (∀ i (h1 : i < r.1.length) (h2 : i < ps.length), r.1[i].fStep = ps[i].fStep ∧ r.1[i].fTrack = ps[i].fTrack ∧ 0 ≤ r.1[i].fTurns ∧ r.1[i].fTurns ≤ 11) ∧ SOk ⟨s.fcode, r.2.1, r.2.2⟩ 5000) (by
    rintro ⟨xs, i, j, _⟩ ⟨k, hk, rfl, hl, hx, ho⟩
    simp only at hl hx ho
    by_cases c : k < ps.length
    · left
      obtain ⟨y, t, e3, p3, q3, o3, c3⟩ := pick_is ho (by omega) (n := 12) (by omega)
      have q3 := q3 (by omega)
      have hkx : k < xs.length := by omega
      simp only [spec_l06Drawn.l_25, e3, Option.bind_some, ix_lt hkx, Int.toNat_natCast]
      rw [if_pos (by simpa using c), w64_in (n := (k : Int) + 1) (by omega) (by omega)]
      refine ⟨_, rfl, ⟨k + 1, by omega, by simp, by simpa using hl, fun i h1 h2 => ?_, ?_⟩, by simp only; omega⟩
      · simp only at h1 ⊢
        rw [List.getElem_set]
        have h3 : i < xs.length := by simpa using h1
        by_cases e : k = i
        · subst e
          rw [if_pos rfl]
          have := hx k h3 h2
          exact ⟨this.1, this.2.1, p3, by simp only; omega⟩
        · rw [if_neg e]; exact hx i h3 h2
      · simp only
        rw [src_eta c3]
        exact ⟨o3.by_, o3.a0, by have := o3.a1; omega⟩
    · right
      simp only [spec_l06Drawn.l_25]
      rw [if_neg (by simpa using c)]
      exact ⟨_, rfl, hl, hx, ⟨ho.by_, ho.a0, by have := ho.a1; simp only at this ⊢; omega⟩⟩) (ps, s1.fat, s1.fseed, 0) ⟨0, by omega, rfl, rfl, ini1, ini2⟩
  simp only at q1 q2 q3
  simp only [hq, Option.bind_some, spec_l06Drawn.k_8]
  obtain ⟨⟨ys, i4, j4⟩, hz, z1, z2⟩ := loop_inv (f := spec_l06Drawn.l_17 s (List.replicate f.fHammers.length 0)) (fun st => ∃ k : Nat, k ≤ f.fHammers.length ∧ st.2.2.2 = (k : Int) ∧ st.1.length = f.fHammers.length ∧ (∀ y ∈ st.1, 0 ≤ y ∧ y ≤ 11) ∧ SOk ⟨s.fcode, st.2.1, st.2.2.1⟩ (5000 + k)) (fun st => f.fHammers.length - st.2.2.2.toNat)
    (fun r => r.1.length = f.fHammers.length ∧ ∀ y ∈ r.1, 0 ≤ y ∧ y ≤ 11) (by
    rintro ⟨xs, i, j, _⟩ ⟨k, hk, rfl, hl, hx, ho⟩
    simp only at hl hx ho
    by_cases c : k < f.fHammers.length
    · left
      obtain ⟨y, t, e3, p3, q3, o3, c3⟩ := pick_is ho (by omega) (n := 12) (by omega)
      have q3 := q3 (by omega)
      have hkx : k < xs.length := by omega
      simp only [spec_l06Drawn.l_17, e3, Option.bind_some, ix_lt hkx, Int.toNat_natCast, List.length_replicate]
      rw [if_pos (by simpa using c), w64_in (n := (k : Int) + 1) (by omega) (by omega)]
      refine ⟨_, rfl, ⟨k + 1, by omega, by simp, by simpa using hl, fun z hz => ?_, ?_⟩, by simp only; omega⟩
      · rcases List.mem_or_eq_of_mem_set hz with h | rfl
        · exact hx z h
        · omega
      · simp only
        rw [src_eta c3]
        exact ⟨o3.by_, o3.a0, by have := o3.a1; omega⟩
    · right
      simp only [spec_l06Drawn.l_17, List.length_replicate]
      rw [if_neg (by simpa using c)]
      exact ⟨_, rfl, hl, hx⟩) (List.replicate f.fHammers.length 0, i3, j3, 0) ⟨0, by omega, rfl, by simp, fun y hy => by have := List.eq_of_mem_replicate hy; omega, q3⟩
  simp only at z1 z2
  simp only [hz, Option.bind_some, spec_l06Drawn.k_12]
  refine ⟨_, _, rfl, ⟨hf, z1, fun p hp => ?_, ?_, fun y hy => by have := z2 y hy; omega⟩, fun p hp => ?_, z2⟩
  · obtain ⟨i, h1, rfl⟩ := List.mem_iff_getElem.1 hp
    have h2 : i < ps.length := by have h1' : i < qs.length := h1; omega
    obtain ⟨a, b, c, e⟩ := q2 i h1 h2
    have := hw.pl ps[i] (List.getElem_mem h2)
    rw [a, b]; simp only at this ⊢; omega
  · rw [List.pairwise_iff_getElem]
    intro i j h1 h2 hij
    have h3 : i < ps.length := by simp only at h1; omega
    have h4 : j < ps.length := by simp only at h2; omega
    have := List.pairwise_iff_getElem.1 hw.so i j h3 h4 hij
    obtain ⟨a, b, _⟩ := q2 i h1 h3
    obtain ⟨a', b', _⟩ := q2 j h2 h4
    rw [befB_iff] at this ⊢
    simp only at this ⊢
    rw [a, b, a', b']; exact this
  · obtain ⟨i, h1, rfl⟩ := List.mem_iff_getElem.1 hp
    exact (q2 i h1 (by have h1' : i < qs.length := h1; omega)).2.2
theorem p6Wear_is {f : GFrame} (hi : FIn f) (hf : FOk f) (code : List Int) (hc : ∀ y ∈ code, 0 ≤ y ∧ y ≤ 255) : ∃ w, spec_P6Wear code f = some w ∧ WOk f w ∧ smallW w := by
  obtain ⟨h1, h2⟩ := from_is code hc
  obtain ⟨w, s', e, g1, g2⟩ := wearDrawn_is hi hf h2
  simp only [spec_P6Wear, h1, Option.bind_some, e]
  exact ⟨w, rfl, g1, g2⟩

end Go.Proofs.YtolfkfjjifdmeaaGreatDoor
/- Acts drawn from bytes: how many, and what their numbers are. -/
namespace Go.Proofs.YtolfkfjjifdmeaaGreatDoor
open Eng
set_option linter.unusedVariables false
set_option linter.unusedSimpArgs false

theorem pickW_is {s : Gl00Src} {b : Nat} (h : SOk s b) (hb : b ≤ 900000) {n : Int} (hn : n ≤ 100000) : ∃ x s', spec_l00Src_pick s n = some (x, s') ∧ 0 ≤ x ∧ (1 ≤ n → x < n) ∧ SOk s' (b + 2) ∧ s'.fcode = s.fcode := by
  by_cases c : n ≤ 200
  · obtain ⟨x, s', e, p, q, o, d⟩ := pick_is h hb c
    exact ⟨x, s', e, p, q, ⟨o.by_, o.a0, by have := o.a1; omega⟩, d⟩
  · simp only [spec_l00Src_pick]
    rw [if_neg (by rw [decide_eq_true_eq]; omega)]
    obtain ⟨x, s', h1, h2, h3, h4, h5⟩ := next_is h (by omega)
    obtain ⟨y, s2, k1, k2, k3, k4, k5⟩ := next_is h4 (by omega)
    simp only [h1, Option.bind_some]
    rw [if_pos (by rw [decide_eq_true_eq]; omega), src_eta h5, k1]
    simp only [Option.bind_some, spec_l00Src_pick.k_5]
    rw [w64_in (n := x * 256) (by omega) (by omega), w64_in (n := x * 256 + y) (by omega) (by omega), if_pos (by omega), src_eta (k5.trans h5)]
    refine ⟨_, _, rfl, ?_, fun _ => ?_, ⟨k4.by_, k4.a0, k4.a1⟩, k5.trans h5⟩
    · rw [Int.tmod_eq_emod_of_nonneg (by omega)]; exact Int.emod_nonneg _ (by omega)
    · rw [Int.tmod_eq_emod_of_nonneg (by omega)]; exact Int.emod_lt_of_pos _ (by omega)
theorem oneW_is {s : Gl00Src} {b : Nat} (h : SOk s b) (hb : b ≤ 900000) {n : Int} (hn : n ≤ 200) : ∃ q s', spec_l00Src_one s n = some (q, s') ∧ SOk s' (b + 1) ∧ s'.fcode = s.fcode := by
  obtain ⟨x, s', e, _, _, o, d⟩ := pick_is h hb hn
  refine ⟨x == 0, s', ?_, o, d⟩
  simp only [spec_l00Src_one, e, Option.bind_some, src_eta d]
theorem SOk.up {s : Gl00Src} {b c : Nat} (h : SOk s b) (hc : b ≤ c) : SOk s c := ⟨h.by_, h.a0, by have := h.a1; omega⟩
theorem maxW (a b : Int) : spec_l00Max a b = some (if a > b then a else b) := by
  unfold spec_l00Max
  by_cases c : a > b
  · rw [if_pos (by simpa using c), if_pos c]
  · rw [if_neg (by simpa using c), if_neg c]
theorem minW (a b : Int) : spec_l00Min a b = some (if a < b then a else b) := by
  unfold spec_l00Min
  by_cases c : a < b
  · rw [if_pos (by simpa using c), if_pos c]
  · rw [if_neg (by simpa using c), if_neg c]
theorem two_mul {x y : Int} (h0 : 0 ≤ x) (h1 : x < 2) (k0 : 0 ≤ y) (k1 : y < 2) : 0 ≤ x * y ∧ x * y ≤ 1 := by
  have : x = 0 ∨ x = 1 := by omega
  have : y = 0 ∨ y = 1 := by omega
  rcases ‹x = 0 ∨ x = 1› with rfl | rfl <;> rcases ‹y = 0 ∨ y = 1› with rfl | rfl <;> decide
def ltl (x : Int) : Prop := -1000 ≤ x ∧ x ≤ 1000
theorem spot_is {f : GFrame} {w : GWear} (hf : FOk f) (hp : ∀ p ∈ w.fPins, (0 ≤ p.fStep ∧ p.fStep < 96) ∧ (0 ≤ p.fTrack ∧ p.fTrack < 24)) (hpl : w.fPins.length ≤ 2304) {s : Gl00Src} {b : Nat} (h : SOk s b) (hb : b ≤ 1000) :
    ∃ x y s', spec_l06Spot s f w = some (x, y, s') ∧ ltl x ∧ ltl y ∧ SOk s' (b + 12) ∧ s'.fcode = s.fcode := by
  have key : ∀ (t : Gl00Src) (q : Bool), SOk t (b + 1) → t.fcode = s.fcode → (q = true → 1 ≤ w.fPins.length) → ∃ x y s', spec_l06Spot.k_4 s f w t.fat t.fseed q = some (x, y, s') ∧ ltl x ∧ ltl y ∧ SOk s' (b + 12) ∧ s'.fcode = s.fcode := by
    intro t q ht hc hq
    have e0 := src_eta hc
    simp only [spec_l06Spot.k_4, e0]
    cases q with
    | true =>
      have hq := hq rfl
      obtain ⟨x, s', e, p0, p1, o, d⟩ := pickW_is ht (by omega) (n := (w.fPins.length : Int)) (by omega)
      have p1 := p1 (by omega)
      obtain ⟨k, rfl⟩ : ∃ k : Nat, x = (k : Int) := ⟨x.toNat, by omega⟩
      have hk : k < w.fPins.length := by omega
      have hpk := hp _ (List.getElem_mem hk)
      rw [if_pos rfl, e]
      simp only [Option.bind_some, ix_lt hk, spec_l06Spot.k_10]
      rw [w64_in (by omega) (by omega), w64_in (by omega) (by omega), src_eta (d.trans hc)]
      exact ⟨_, _, _, rfl, by unfold ltl; omega, by unfold ltl; omega, o.up (by omega), d.trans hc⟩
    | false =>
      have hs0 := hf.s0; have hs1 := hf.s1; have hh1 := hf.h1
      rw [if_neg (by simp), maxW, Option.bind_some, w64_in (n := f.fSteps) (by omega) (by omega)]
      obtain ⟨m, hm, m0, m1⟩ : ∃ m : Int, (if (1 : Int) > f.fSteps then 1 else f.fSteps) = m ∧ 1 ≤ m ∧ m ≤ 96 := ⟨_, rfl, by split <;> omega, by split <;> omega⟩
      rw [hm, w64_in (n := m + 1) (by omega) (by omega)]
      obtain ⟨x1, s1, e1, a1, b1, o1, c1⟩ := pick_is ht (by omega) (n := m + 1) (by omega)
      have b1 := b1 (by omega)
      have c1 := c1.trans hc
      rw [e1, Option.bind_some, src_eta c1]
      obtain ⟨x2, s2, e2, a2, b2, o2, c2⟩ := pick_is o1 (by omega) (n := 2) (by omega)
      have b2 := b2 (by omega)
      have c2 := c2.trans c1
      rw [e2, Option.bind_some, src_eta c2]
      obtain ⟨x3, s3, e3, a3, b3, o3, c3⟩ := pick_is o2 (by omega) (n := 2) (by omega)
      have b3 := b3 (by omega)
      have c3 := c3.trans c2
      rw [e3, Option.bind_some, src_eta c3, w64_in (n := (f.fHammers.length : Int) + 1) (by omega) (by omega)]
      obtain ⟨x4, s4, e4, a4, b4, o4, c4⟩ := pick_is o3 (by omega) (n := (f.fHammers.length : Int) + 1) (by omega)
      have b4 := b4 (by omega)
      have c4 := c4.trans c3
      rw [e4, Option.bind_some, src_eta c4]
      obtain ⟨x5, s5, e5, a5, b5, o5, c5⟩ := pick_is o4 (by omega) (n := 2) (by omega)
      have b5 := b5 (by omega)
      have c5 := c5.trans c4
      rw [e5, Option.bind_some, src_eta c5]
      obtain ⟨x6, s6, e6, a6, b6, o6, c6⟩ := pick_is o5 (by omega) (n := 2) (by omega)
      have b6 := b6 (by omega)
      have c6 := c6.trans c5
      rw [e6, Option.bind_some]
      simp only []
      rw [src_eta c6]
      have m1 := two_mul a2 b2 a3 b3
      have m2 := two_mul a5 b5 a6 b6
      rw [w64_in (n := x2 * x3) (by omega) (by omega), w64_in (n := x5 * x6) (by omega) (by omega), w64_in (n := x1 - x2 * x3) (by omega) (by omega), w64_in (n := x4 - x5 * x6) (by omega) (by omega)]
      exact ⟨_, _, _, rfl, by unfold ltl; omega, by unfold ltl; omega, o6.up (by omega), c6⟩
  simp only [spec_l06Spot]
  by_cases c : (w.fPins.length : Int) > 0
  · rw [if_pos (by simpa using c)]
    obtain ⟨q, s', e, o, d⟩ := oneW_is h (by omega) (n := 2) (by omega)
    rw [e, Option.bind_some]
    exact key s' q o d (fun _ => by omega)
  · rw [if_neg (by simpa using c)]
    exact key s false (h.up (by omega)) rfl (fun e => nomatch e)
structure ActD (a : GAct) : Prop where
  na : ltl a.fA
  nb : ltl a.fB
  nc : ltl a.fC
  nd : ltl a.fD
theorem ltl0 : ltl 0 := by unfold ltl; omega
theorem act_is {f : GFrame} {w : GWear} (hf : FOk f) (hp : ∀ p ∈ w.fPins, (0 ≤ p.fStep ∧ p.fStep < 96) ∧ (0 ≤ p.fTrack ∧ p.fTrack < 24)) (hpl : w.fPins.length ≤ 2304) {s : Gl00Src} {b : Nat} (h : SOk s b) (hb : b ≤ 500) :
    ∃ a s', spec_l06Act s f w = some (a, s') ∧ (-128 ≤ a.fKind ∧ a.fKind ≤ 127) ∧ ActD a ∧ SOk s' (b + 40) ∧ s'.fcode = s.fcode := by
  have hh1 := hf.h1
  obtain ⟨k, s1, e1, k0, k1, o1, c1⟩ := pick_is h (by omega) (n := 4) (by omega)
  have k1 := k1 (by omega)
  have key : ∀ (t : Gl00Src) (x y z u : Int), SOk t (b + 30) → t.fcode = s.fcode → ltl x → ltl y → ltl z → ltl u → ∃ a s', spec_l06Act.k_8 s (k, s1) t.fat t.fseed x y z u = some (a, s') ∧ (-128 ≤ a.fKind ∧ a.fKind ≤ 127) ∧ ActD a ∧ SOk s' (b + 40) ∧ s'.fcode = s.fcode := by
    intro t x y z u ht hc hx hy hz hu
    obtain ⟨q, s2, e2, o2, c2⟩ := oneW_is ht (by omega) (n := 24) (by omega)
    have c2 := c2.trans hc
    simp only [spec_l06Act.k_8, src_eta hc, e2, Option.bind_some]
    cases q with
    | true =>
      rw [if_pos rfl, src_eta c2]
      obtain ⟨j, s3, e3, j0, j1, o3, c3⟩ := pick_is o2 (by omega) (n := 2) (by omega)
      have j1 := j1 (by omega)
      have c3 := c3.trans c2
      have hj : j = 0 ∨ j = 1 := by omega
      rcases hj with rfl | rfl
      · have e4 : spec_l00Src_among s2 [-1, 4] = some (-1, s3) := by
          simp only [spec_l00Src_among]
          rw [show (([(-1 : Int), 4].length : Nat) : Int) = 2 from rfl, e3, Option.bind_some]
          show (ix [(-1 : Int), 4] 0).bind _ = _
          rw [show ix [(-1 : Int), 4] 0 = some (-1) from rfl, Option.bind_some]
          simp only []
          rw [show s2.fcode = s3.fcode from c2.trans c3.symm]
        rw [e4]
        simp only [Option.bind_some, spec_l06Act.k_12]
        rw [w8_in (by omega) (by omega), src_eta c3]
        exact ⟨_, _, rfl, by simp only; omega, ⟨hx, hy, hz, hu⟩, o3.up (by omega), c3⟩
      · have e4 : spec_l00Src_among s2 [-1, 4] = some (4, s3) := by
          simp only [spec_l00Src_among]
          rw [show (([(-1 : Int), 4].length : Nat) : Int) = 2 from rfl, e3, Option.bind_some]
          show (ix [(-1 : Int), 4] 1).bind _ = _
          rw [show ix [(-1 : Int), 4] 1 = some 4 from rfl, Option.bind_some]
          simp only []
          rw [show s2.fcode = s3.fcode from c2.trans c3.symm]
        rw [e4]
        simp only [Option.bind_some, spec_l06Act.k_12]
        rw [w8_in (by omega) (by omega), src_eta c3]
        exact ⟨_, _, rfl, by simp only; omega, ⟨hx, hy, hz, hu⟩, o3.up (by omega), c3⟩
    | false =>
      rw [if_neg (by simp)]
      simp only [spec_l06Act.k_12]
      rw [w8_in (by omega) (by omega), src_eta c2]
      exact ⟨_, _, rfl, by simp only; omega, ⟨hx, hy, hz, hu⟩, o2.up (by omega), c2⟩
  simp only [spec_l06Act, e1, Option.bind_some]
  rw [w8_in (n := k) (by omega) (by omega), src_eta c1]
  by_cases c0 : k = 0
  · rw [if_pos (by simpa using c0)]
    obtain ⟨x, s2, e2, x0, x1, o2, c2⟩ := pick_is o1 (by omega) (n := 9) (by omega)
    have x1 := x1 (by omega)
    rw [e2, Option.bind_some]
    exact key s2 x 0 0 0 (o2.up (by omega)) (c2.trans c1) (by unfold ltl; omega) ltl0 ltl0 ltl0
  · rw [if_neg (by simpa using c0)]
    by_cases c1' : k = 1
    · rw [if_pos (by simpa using c1')]
      have hh0 := hf.h0
      obtain ⟨x, s2, e2, x0, x1, o2, c2⟩ := pick_is o1 (by omega) (n := (f.fHammers.length : Int)) (by omega)
      have x1 := x1 (by omega)
      rw [e2, Option.bind_some]
      exact key s2 x 0 0 0 (o2.up (by omega)) (c2.trans c1) (by unfold ltl; omega) ltl0 ltl0 ltl0
    · rw [if_neg (by simpa using c1')]
      obtain ⟨x, y, s2, e2, hx, hy, o2, c2⟩ := spot_is hf hp hpl o1 (by omega)
      by_cases c2' : k = 2
      · rw [if_pos (by simpa using c2'), e2, Option.bind_some]
        exact key s2 x y 0 0 (o2.up (by omega)) (c2.trans c1) hx hy ltl0 ltl0
      · rw [if_neg (by simpa using c2'), if_pos (by have : k = 3 := by omega
                                                    simpa using this), e2, Option.bind_some]
        obtain ⟨z, u, s3, e3, hz, hu, o3, c3⟩ := spot_is hf hp hpl o2 (by omega)
        have c2 := c2.trans c1
        rw [src_eta c2, e3, Option.bind_some]
        exact key s3 x y z u (o3.up (by omega)) (c3.trans c2) hx hy hz hu
theorem p6Acts_is {f : GFrame} {w : GWear} (hf : FOk f) (hp : ∀ p ∈ w.fPins, (0 ≤ p.fStep ∧ p.fStep < 96) ∧ (0 ≤ p.fTrack ∧ p.fTrack < 24)) (hpl : w.fPins.length ≤ 2304) (code : List Int) (hc : ∀ y ∈ code, 0 ≤ y ∧ y ≤ 255) :
    ∃ list, spec_P6Acts code f w = some list ∧ list.length ≤ 6 ∧ ∀ a ∈ list, 0 ≤ a.fKind ∧ a.fKind ≤ 3 := by
  obtain ⟨e, h⟩ := from_is code hc
  obtain ⟨k, s1, e1, k0, k1, o1, c1⟩ := pick_is h (by omega) (n := 7) (by omega)
  have k1 := k1 (by omega)
  have c1' : s1.fcode = code := c1
  obtain ⟨⟨xs, i, j⟩, hr, g1, g2⟩ := loop_inv (f := spec_P6Acts.l_11 code f w) (fun st => ∃ m : Nat, m ≤ 6 ∧ st.2.2.2 = (m : Int) ∧ st.1.length + m ≤ 6 ∧ (∀ a ∈ st.1, 0 ≤ a.fKind ∧ a.fKind ≤ 3) ∧ SOk ⟨code, st.2.1, st.2.2.1⟩ (1 + 40 * st.1.length)) (fun st => st.2.2.2.toNat)
    (fun r => r.1.length ≤ 6 ∧ ∀ a ∈ r.1, 0 ≤ a.fKind ∧ a.fKind ≤ 3) (by
    rintro ⟨xs, i, j, _⟩ ⟨m, hm, rfl, hl, hx, ho⟩
    simp only at hl hx ho
    by_cases c : m = 0
    · right
      subst c
      simp only [spec_P6Acts.l_11]
      rw [if_neg (by simp)]
      exact ⟨_, rfl, by simp only; omega, hx⟩
    · left
      obtain ⟨a, s', ea, ak, ad, ao, ac⟩ := act_is hf hp hpl ho (by omega)
      simp only [spec_P6Acts.l_11, ea, Option.bind_some, minW, maxW]
      rw [if_pos (by simp; omega), if_pos (by simp; omega), w64_in (n := (m : Int) - 1) (by omega) (by omega)]
      refine ⟨_, rfl, ⟨m - 1, by omega, by simp only; omega, by simp; omega, ?_, ?_⟩, by simp only; omega⟩
      · intro x hxm
        rcases List.mem_append.1 hxm with hxm | hxm
        · exact hx x hxm
        · rw [List.mem_singleton] at hxm
          subst hxm
          simp only
          rw [w64_in (n := a.fKind) (by omega) (by omega)]
          have hb : ∀ z : Int, 0 ≤ z → z ≤ 3 → 0 ≤ w8 z ∧ w8 z ≤ 3 := fun z z0 z1 => by rw [w8_in (by omega) (by omega)]; omega
          apply hb
          · split <;> split <;> omega
          · split <;> split <;> omega
      · have ac' : s'.fcode = code := ac
        simp only [List.length_append, List.length_cons, List.length_nil]
        rw [src_eta ac']
        exact ao.up (by omega)) ([], s1.fat, s1.fseed, k) ⟨k.toNat, by omega, by simp only; omega, by simp; omega, by simp, by
      rw [src_eta c1']; exact o1.up (by simp)⟩
  simp only [spec_P6Acts, e, Option.bind_some, e1]
  rw [hr]
  exact ⟨xs, rfl, g1, g2⟩

end Go.Proofs.YtolfkfjjifdmeaaGreatDoor
/- The program's way and the reference's, of the law WornOut. -/
namespace Go.Proofs.YtolfkfjjifdmeaaGreatDoor
open Eng
set_option linter.unusedVariables false
set_option linter.unusedSimpArgs false

theorem implWorn {f : GFrame} {w : GWear} (h : WOk f w) (hp : w.fPins.length ≤ 1048576) (v : GLives) : loop (impl_WornOut.l_9 (partsL f w v)) (([] : List GWornPin), ([] : List Int), 0) = some (wornPins w v, wornHams f.fHammers.length w v) := by
  have hs1 := h.fr.s1; have hh1 := h.fr.h1
  let P : Nat → List GWornPin := fun k => (w.fPins.take k).filter fun p => decide (p.fTurns > v.fPin)
  let T : Nat → List Int := fun k => ((List.range (k - w.fPins.length)).filter fun t => decide (stroke w t > v.fHammer)).map fun t : Nat => (t : Int)
  have hPl : ∀ k, (P k).length ≤ w.fPins.length := fun k => by
    have := List.length_filter_le (fun p : GWornPin => decide (p.fTurns > v.fPin)) (w.fPins.take k)
    rw [List.length_take] at this
    simp only [P]; omega
  have hTl : ∀ k, k ≤ w.fPins.length + f.fHammers.length → (T k).length ≤ 24 := fun k hk => by
    have := List.length_filter_le (fun t => decide (stroke w t > v.fHammer)) (List.range (k - w.fPins.length))
    rw [List.length_range] at this
    simp only [T, List.length_map]; omega
  have hpl := partsL_len f w v
  have := loop_seq (f := impl_WornOut.l_9 (partsL f w v)) (w.fPins.length + f.fHammers.length) (fun k => (P k, T k, (k : Int))) (wornPins w v, wornHams f.fHammers.length w v) (fun k hk => by
    have e : w64 ((k : Int) + 1) = ((k + 1 : Nat) : Int) := by rw [w64_in (by omega) (by omega)]; omega
    have h1 := hPl k
    have h2 := hTl k (by omega)
    by_cases hkp : k < w.fPins.length
    · obtain ⟨⟨a, b⟩, ⟨c, d⟩, _⟩ := h.pl _ (List.getElem_mem hkp)
      have hix : ix (partsL f w v) (k : Int) = some (pinPart v w.fPins[k]) := ix_get (by unfold partsL; rw [List.getElem?_append_left (by simpa using hkp)]; simp [hkp])
      simp only [impl_WornOut.l_9, hix, Option.bind_some, impl_part_isWorn, impl_WornOut.k_14, e]
      rw [if_pos (by simp; omega)]
      have eT : T (k + 1) = T k := by simp only [T]; rw [show k + 1 - w.fPins.length = 0 by omega, show k - w.fPins.length = 0 by omega]
      have eP : P (k + 1) = P k ++ if w.fPins[k].fTurns > v.fPin then [w.fPins[k]] else [] := by
        simp only [P]
        rw [List.take_succ_eq_append_getElem hkp, List.filter_append]
        congr 1
        by_cases c : w.fPins[k].fTurns > v.fPin <;> simp [c]
      rw [eT, eP]
      by_cases c : w.fPins[k].fTurns > v.fPin
      · rw [if_neg (by simp [pinPart]; omega)]
        rw [if_neg (by rw [decide_eq_true_eq]; simp only [pinPart]; omega), if_pos (by simp only [List.length_cons, List.length_nil]; omega), if_pos c]
        simp only [pinPart]
        rw [w8_in (by omega) (by omega), w8_in (by omega) (by omega)]
      · rw [if_pos (by simp [pinPart]; omega), if_neg c, List.append_nil]
    · have hkt : k - w.fPins.length < f.fHammers.length := by omega
      have hix : ix (partsL f w v) (k : Int) = some (hamPart w v (k - w.fPins.length)) := ix_get (by
        unfold partsL
        rw [List.getElem?_append_right (by simp; omega)]
        simp [hkt])
      simp only [impl_WornOut.l_9, hix, Option.bind_some, impl_part_isWorn, impl_WornOut.k_14, e]
      rw [if_pos (by simp; omega)]
      have eP : P (k + 1) = P k := by simp only [P]; rw [List.take_of_length_le (by omega), List.take_of_length_le (by omega)]
      have eT : T (k + 1) = T k ++ if stroke w (k - w.fPins.length) > v.fHammer then [((k - w.fPins.length : Nat) : Int)] else [] := by
        simp only [T]
        rw [show k + 1 - w.fPins.length = (k - w.fPins.length) + 1 by omega, List.range_succ, List.filter_append, List.map_append]
        congr 1
        by_cases c : stroke w (k - w.fPins.length) > v.fHammer <;> simp [c]
      rw [eT, eP]
      by_cases c : stroke w (k - w.fPins.length) > v.fHammer
      · rw [if_neg (by simp [hamPart]; omega), if_pos (by simp [hamPart]), if_pos (by simp only [List.length_cons, List.length_nil]; omega), if_pos c]
        simp only [hamPart]
      · rw [if_pos (by simp [hamPart]; omega), if_neg c, List.append_nil])
    (by
      simp only [impl_WornOut.l_9]
      rw [if_neg (by simp; omega)]
      simp only [P, T, wornPins, wornHams]
      rw [List.take_of_length_le (by omega), show w.fPins.length + f.fHammers.length - w.fPins.length = f.fHammers.length by omega])
  simpa [P, T] using this
end Go.Proofs.YtolfkfjjifdmeaaGreatDoor
/- How often parts have to be made new, the program's and the reference's. -/
namespace Go.Proofs.YtolfkfjjifdmeaaGreatDoor
open Eng
set_option linter.unusedVariables false
set_option linter.unusedSimpArgs false

/-! ### the program -/
end Go.Proofs.YtolfkfjjifdmeaaGreatDoor
/- What a turned wear is, and that turns add up. -/
namespace Go.Proofs.YtolfkfjjifdmeaaGreatDoor
open Eng
set_option linter.unusedVariables false
set_option linter.unusedSimpArgs false

/-! ### the same wear -/
end Go.Proofs.YtolfkfjjifdmeaaGreatDoor
/- The program's way and the reference's, of the law TurnsLeft. -/
namespace Go.Proofs.YtolfkfjjifdmeaaGreatDoor
open Eng
set_option linter.unusedVariables false
set_option linter.unusedSimpArgs false


end Go.Proofs.YtolfkfjjifdmeaaGreatDoor
/- The program's way and the reference's, of the law FirstWorn. -/
namespace Go.Proofs.YtolfkfjjifdmeaaGreatDoor
open Eng
set_option linter.unusedVariables false
set_option linter.unusedSimpArgs false


end Go.Proofs.YtolfkfjjifdmeaaGreatDoor
/- The program's way and the reference's, of the law DrumOfWear. -/
namespace Go.Proofs.YtolfkfjjifdmeaaGreatDoor
open Eng
set_option linter.unusedVariables false
set_option linter.unusedSimpArgs false

end Go.Proofs.YtolfkfjjifdmeaaGreatDoor
/- What the law of worn parts rests on: first worn, turns left, worn out, in numbers. -/
namespace Go.Proofs.YtolfkfjjifdmeaaGreatDoor
open Eng
set_option linter.unusedVariables false
set_option linter.unusedSimpArgs false

theorem wornOut_val {f : GFrame} {w : GWear} {v : GLives} (hi : FIn f) (h : WOk f w) (hw : WIn w) (hv : livB v = true) (hf : f.fHammers.length ≤ 1048576) (hp : w.fPins.length ≤ 1048576) (hs : w.fStrokes.length ≤ 1048576) :
    impl_WornOut f w v = some (wornPins w v, wornHams f.fHammers.length w v, 0) := by
  simp only [impl_WornOut, wearCode1 f w hf hp hs v, Option.bind_some, if_pos (And.intro (wearB_of h) hv), parts_is h hp v, implWorn h hp v, impl_WornOut.k_5]
  simp
/-! ### a wear fresh from a drum gives the drum back -/
/-! ### turns that are left, and what is worn behind them -/
end Go.Proofs.YtolfkfjjifdmeaaGreatDoor
/- Texts as lists of bytes, and numbers' texts. -/
namespace Go.Proofs.YtolfkfjjifdmeaaGreatDoor
open Eng
set_option linter.unusedVariables false
set_option linter.unusedSimpArgs false

/-- the text of bytes -/
def tb (l : List UInt8) : ByteArray := ⟨l.toArray⟩
theorem tb_size (l : List UInt8) : (tb l).size = l.length := by simp [tb, ByteArray.size]
theorem tb_list (l : List UInt8) : (tb l).toList = l := by rw [ByteArray.toList_eq]; simp [tb]
theorem tb_data (l : List UInt8) : (tb l).data.toList = l := by simp [tb]
theorem tb_app (a b : List UInt8) : tb a ++ tb b = tb (a ++ b) := by
  apply ByteArray.ext
  rw [ByteArray.data_append]
  simp [tb]
theorem tb_of (s : ByteArray) : tb s.data.toList = s := by cases s; simp [tb]
theorem tb_push (l : List UInt8) (b : UInt8) : (tb l).push b = tb (l ++ [b]) := by
  apply ByteArray.ext
  rw [ByteArray.data_push]
  simp [tb]
theorem tb_empty : ByteArray.empty = tb [] := rfl
theorem tb_extract (l : List UInt8) (i j : Nat) : (tb l).extract i j = tb ((l.take j).drop i) := by
  apply ByteArray.ext
  rw [ByteArray.data_extract]
  simp [tb, List.extract_eq_take_drop, List.drop_take]
/-! ### the reference's numbers -/
theorem digit_is {n : Int} (h0 : 0 ≤ n) (h1 : n ≤ 9223372036854775807) : UInt8.ofNat (u8 (w64 (48 + Int.tmod n 10))).toNat = UInt8.ofNat (48 + n.toNat % 10) := by
  have e : Int.tmod n 10 = ((n.toNat % 10 : Nat) : Int) := by
    rw [Int.tmod_eq_emod_of_nonneg h0]; omega
  have hlt : n.toNat % 10 < 10 := Nat.mod_lt _ (by omega)
  rw [e, w64_in (by omega) (by omega), u8_in (by omega) (by omega)]
  congr 1
theorem dec_rec : ∀ (fu : Nat) (n : Int), fu ≤ 100 → 0 ≤ n → n ≤ 9223372036854775807 → n < 10 ^ (fu + 1) → spec_Decimal.rec_ (fu + 1) n = some (tb (Lib.decDigits n.toNat)) ∧ (Lib.decDigits n.toNat).length ≤ fu + 1 := by
  intro fu
  induction fu with
  | zero =>
    intro n hfu h0 h1 hn
    have hn' : n < 10 := by simpa using hn
    rw [Lib.decDigits, dif_pos (show n.toNat < 10 by omega)]
    refine ⟨?_, by simp⟩
    show spec_Decimal.step _ n = _
    unfold spec_Decimal.step
    rw [if_pos (by simpa using hn'), digit_is h0 h1, tb_empty, tb_push, Nat.mod_eq_of_lt (show n.toNat < 10 by omega)]
    rfl
  | succ fu ih =>
    intro n hfu h0 h1 hn
    by_cases c : n < 10
    · rw [Lib.decDigits, dif_pos (show n.toNat < 10 by omega)]
      refine ⟨?_, by simp⟩
      show spec_Decimal.step _ n = _
      unfold spec_Decimal.step
      rw [if_pos (by simpa using c), digit_is h0 h1, tb_empty, tb_push, Nat.mod_eq_of_lt (show n.toNat < 10 by omega)]
      rfl
    · have hq : Int.tdiv n 10 = ((n.toNat / 10 : Nat) : Int) := by
        rw [Int.tdiv_eq_ediv_of_nonneg h0]; omega
      have hlt : ((n.toNat / 10 : Nat) : Int) < 10 ^ (fu + 1) := by
        have : n < 10 ^ (fu + 1) * 10 := by rw [← Int.pow_succ]; exact hn
        omega
      obtain ⟨i1, i2⟩ := ih ((n.toNat / 10 : Nat) : Int) (by omega) (by omega) (by omega) hlt
      rw [Int.toNat_natCast] at i1 i2
      rw [Lib.decDigits, dif_neg (show ¬ n.toNat < 10 by omega)]
      refine ⟨?_, by simp; omega⟩
      show spec_Decimal.step (spec_Decimal.rec_ (fu + 1)) n = _
      unfold spec_Decimal.step
      rw [if_neg (by simpa using c), hq, w64_in (by omega) (by omega), i1, digit_is h0 h1, tb_empty, tb_push]
      simp only [Option.bind_some, tb_size, tb_app, List.nil_append, List.length_cons, List.length_nil]
      rw [if_pos (by omega)]
theorem pow20 : (10 : Int) ^ (19 + 1) = 100000000000000000000 := by decide
theorem decimal_is {n : Int} (h0 : 0 ≤ n) (h1 : n ≤ 9223372036854775807) : spec_Decimal n = some (tb (Lib.decDigits n.toNat)) :=
  (dec_rec 19 n (by omega) h0 h1 (by rw [pow20]; omega)).1
theorem dd_len : ∀ (k n : Nat), n < 10 ^ (k + 1) → (Lib.decDigits n).length ≤ k + 1 := by
  intro k
  induction k with
  | zero => intro n h; rw [Lib.decDigits, dif_pos (by omega)]; simp
  | succ k ih =>
    intro n h
    by_cases c : n < 10
    · rw [Lib.decDigits, dif_pos c]; simp
    · rw [Lib.decDigits, dif_neg c, List.length_append]
      have := ih (n / 10) (Nat.div_lt_of_lt_mul (by rw [Nat.pow_succ] at h; omega))
      simp; omega
theorem decDigits_len {n : Nat} (h : n ≤ 9223372036854775807) : (Lib.decDigits n).length ≤ 20 := dd_len 19 n (by rw [show 10 ^ (19 + 1) = 100000000000000000000 by decide]; omega)
/-! ### the program's -/
theorem implDecimal_is {n : Int} (h0 : -9223372036854775808 ≤ n) (h1 : n ≤ 9223372036854775807) : impl_decimal n = some (tb (Lib.itoa n)) := by
  simp only [impl_decimal, strconv_FormatInt, fmtF]
  rw [if_pos ⟨trivial, h0, h1⟩]
  rfl
end Go.Proofs.YtolfkfjjifdmeaaGreatDoor
/- Joined texts. -/
namespace Go.Proofs.YtolfkfjjifdmeaaGreatDoor
open Eng
set_option linter.unusedVariables false
set_option linter.unusedSimpArgs false

end Go.Proofs.YtolfkfjjifdmeaaGreatDoor
/- Numbers read from texts, the program's way and the reference's. -/
namespace Go.Proofs.YtolfkfjjifdmeaaGreatDoor
open Eng
set_option linter.unusedVariables false
set_option linter.unusedSimpArgs false

def dv (a : Nat) (b : UInt8) : Nat := 10 * a + (b.toNat - 48)
def val (l : List UInt8) : Nat := l.foldl dv 0
def digB (b : UInt8) : Prop := 48 ≤ b.toNat ∧ b.toNat ≤ 57
instance digB_dec (b : UInt8) : Decidable (digB b) := by unfold digB; exact inferInstance
theorem val_snoc (l : List UInt8) (b : UInt8) : val (l ++ [b]) = 10 * val l + (b.toNat - 48) := by unfold val; rw [List.foldl_append]; rfl
theorem byte_is {d : Nat} (h : d < 10) : (UInt8.ofNat (48 + d)).toNat = 48 + d := by
  rw [UInt8.toNat_ofNat']; omega
theorem dd_step {n : Nat} (h : ¬ n < 10) : Lib.decDigits n = Lib.decDigits (n / 10) ++ [UInt8.ofNat (48 + n % 10)] := by rw [Lib.decDigits, dif_neg h]
theorem dd_small {n : Nat} (h : n < 10) : Lib.decDigits n = [UInt8.ofNat (48 + n)] := by rw [Lib.decDigits, dif_pos h]
theorem val_dd (n : Nat) : val (Lib.decDigits n) = n := by
  induction n using Nat.strongRecOn with
  | _ n ih =>
    by_cases h : n < 10
    · rw [dd_small h]
      show val ([] ++ [_]) = n
      rw [val_snoc, byte_is h]
      show 10 * 0 + _ = n
      omega
    · rw [dd_step h, val_snoc, ih (n / 10) (by omega), byte_is (Nat.mod_lt _ (by omega))]
      omega
theorem dd_dig (n : Nat) : ∀ b ∈ Lib.decDigits n, digB b := by
  induction n using Nat.strongRecOn with
  | _ n ih =>
    intro b hb
    by_cases h : n < 10
    · rw [dd_small h, List.mem_singleton] at hb
      subst hb
      unfold digB; rw [byte_is h]; omega
    · rw [dd_step h, List.mem_append, List.mem_singleton] at hb
      rcases hb with hb | rfl
      · exact ih (n / 10) (by omega) b hb
      · have := Nat.mod_lt n (show 0 < 10 by omega)
        unfold digB; rw [byte_is this]; omega
theorem dd_ne (n : Nat) : Lib.decDigits n ≠ [] := by
  by_cases h : n < 10
  · rw [dd_small h]; simp
  · rw [dd_step h]; simp
/-! ### the program's -/
theorem foldl_ge : ∀ (l : List UInt8) (a : Nat), a ≤ l.foldl dv a := by
  intro l
  induction l with
  | nil => intro a; exact Nat.le_refl _
  | cons b l ih =>
    intro a
    have := ih (dv a b)
    unfold dv at this ⊢
    simp only [List.foldl_cons]
    omega
theorem parseM_is (M : Nat) (hM : 1000000000 ≤ M) : ∀ (l : List UInt8) (a : Nat), (∀ b ∈ l, digB b) → l.foldl dv a ≤ 1000000000 → Lib.parseUintM M a l = .ok (l.foldl dv a) := by
  intro l
  induction l with
  | nil => intro a _ _; rfl
  | cons b l ih =>
    intro a hd hf
    have hb := hd b (by simp)
    have hge := foldl_ge l (dv a b)
    rw [List.foldl_cons] at hf ⊢
    have hdv : dv a b ≤ 1000000000 := by omega
    have e : a * 10 + (b.toNat - 48) = dv a b := by unfold dv; omega
    unfold Lib.parseUintM
    rw [if_pos (show 48 ≤ b.toNat ∧ b.toNat ≤ 57 from hb), if_neg (by unfold dv at hdv; omega), e, if_neg (by omega)]
    exact ih (dv a b) (fun c hc => hd c (by simp [hc])) hf
theorem parse_dd {n : Nat} (h : n ≤ 1000000000) : Lib.parseIntB 64 (Lib.decDigits n) = .ok (n : Int) := by
  have hp := parseM_is (2 ^ 64 - 1) (by decide) (Lib.decDigits n) 0 (dd_dig n) (by show val (Lib.decDigits n) ≤ _; rw [val_dd]; exact h)
  rw [show (Lib.decDigits n).foldl dv 0 = n from val_dd n] at hp
  cases hd : Lib.decDigits n with
  | nil => exact absurd hd (dd_ne n)
  | cons c r =>
    have hc := dd_dig n c (by rw [hd]; simp)
    rw [hd] at hp
    unfold Lib.parseIntB
    simp only
    rw [if_neg (by have := hc.1; have := hc.2; omega)]
    unfold Lib.parseUintB
    rw [if_neg (by simp), hp]
    simp only
    rw [if_neg (by have : (2 : Nat) ^ (64 - 1) = 9223372036854775808 := by decide
                   omega), if_neg (by have := hc.1; omega), if_neg (by have := hc.1; omega)]
theorem implNumber_is {most : Int} (l : List UInt8) (hlen : l.length ≤ 1048576) (hm : 0 ≤ most ∧ most ≤ 1000000000) : impl_number (tb l) most = some (if l = Lib.decDigits (val l) ∧ (val l : Int) ≤ most then ((val l : Int), true) else (0, false)) := by
  simp only [impl_number, strconv_ParseInt, parseF, tb_size, tb_data]
  rw [if_pos ⟨trivial, trivial, by omega⟩]
  by_cases hc : l = Lib.decDigits (val l) ∧ (val l : Int) ≤ most
  · rw [if_pos hc]
    have hp := parse_dd (n := val l) (by omega)
    rw [← hc.1] at hp
    simp only [hp, Option.bind_some, Bool.false_eq_true, if_false, implDecimal_is (n := (val l : Int)) (by omega) (by omega), tb_list, Lib.itoa_nonneg, impl_within, impl_number.k_3]
    rw [← hc.1]
    simp
    omega
  · rw [if_neg hc]
    cases hp : Lib.parseIntB 64 l with
    | range => simp [impl_number.k_3]
    | ok v =>
      have hb := Lib.parseIntB_bounds hp
      have h63 : (2 : Nat) ^ (64 - 1) = 9223372036854775808 := by decide
      rw [h63] at hb
      simp only [Option.bind_some, Bool.false_eq_true, if_false, implDecimal_is (n := v) (by omega) (by omega), tb_list, impl_within, impl_number.k_3]
      by_cases h1 : Lib.itoa v = l
      · rw [if_neg (by simp [h1])]
        by_cases h2 : 0 ≤ v ∧ v ≤ most
        · exfalso
          obtain ⟨u, rfl⟩ : ∃ u : Nat, v = (u : Int) := ⟨v.toNat, by omega⟩
          rw [Lib.itoa_nonneg] at h1
          have hv : val l = u := by rw [← h1]; exact val_dd u
          exact hc ⟨by rw [hv]; exact h1.symm, by omega⟩
        · rw [if_pos (by simp; omega)]
      · rw [if_pos (by simp [h1])]; rfl
    | _ => simp [impl_number.k_3]

end Go.Proofs.YtolfkfjjifdmeaaGreatDoor
/- A text split at a byte, the program's way and the reference's. -/
namespace Go.Proofs.YtolfkfjjifdmeaaGreatDoor
open Eng
set_option linter.unusedVariables false
set_option linter.unusedSimpArgs false

def spl (c : UInt8) : List UInt8 → List (List UInt8)
  | [] => [[]]
  | b :: l => if b = c then [] :: spl c l else match spl c l with
    | w :: r => (b :: w) :: r
    | [] => [[b]]
theorem spl_ne (c : UInt8) (l : List UInt8) : spl c l ≠ [] := by
  cases l with
  | nil => simp [spl]
  | cons b l =>
    unfold spl
    split
    · simp
    · split <;> simp
theorem spl_none {c : UInt8} : ∀ (w : List UInt8), c ∉ w → spl c w = [w] := by
  intro w
  induction w with
  | nil => intro _; rfl
  | cons b w ih =>
    intro h
    have h1 : ¬ b = c := fun e => h (by simp [e])
    unfold spl
    rw [if_neg h1, ih (fun hh => h (by simp [hh]))]
theorem spl_hit {c : UInt8} (r : List UInt8) : ∀ (w : List UInt8), c ∉ w → spl c (w ++ c :: r) = w :: spl c r := by
  intro w
  induction w with
  | nil => intro _; rw [List.nil_append]; conv => lhs; unfold spl
           rw [if_pos rfl]
  | cons b w ih =>
    intro h
    have h1 : ¬ b = c := fun e => h (by simp [e])
    rw [List.cons_append]
    conv => lhs; unfold spl
    rw [if_neg h1, ih (fun hh => h (by simp [hh]))]
theorem spl_len (c : UInt8) (l : List UInt8) : (spl c l).length ≤ l.length + 1 := by
  induction l with
  | nil => simp [spl]
  | cons b l ih =>
    unfold spl
    split
    · simp; omega
    · split
      · rename_i w r e; rw [e] at ih; simp at ih ⊢; omega
      · simp
theorem spl_mem {c : UInt8} : ∀ (l : List UInt8), ∀ w ∈ spl c l, w.length ≤ l.length ∧ c ∉ w := by
  intro l
  induction l with
  | nil => intro w hw; simp [spl] at hw; subst hw; simp
  | cons b l ih =>
    intro w hw
    unfold spl at hw
    split at hw
    · rw [List.mem_cons] at hw
      rcases hw with rfl | hw
      · simp
      · have := ih w hw; simp; exact ⟨by omega, this.2⟩
    · rename_i hb
      cases hs : spl c l with
      | nil => exact absurd hs (spl_ne c l)
      | cons v r =>
        rw [hs] at hw
        simp only [List.mem_cons] at hw
        rcases hw with rfl | hw
        · have := ih v (by rw [hs]; simp)
          refine ⟨by simp; omega, fun hc => ?_⟩
          rw [List.mem_cons] at hc
          rcases hc with h | h
          · exact hb h.symm
          · exact this.2 h
        · have := ih w (by rw [hs]; simp [hw]); exact ⟨by simp; omega, this.2⟩
/-! ### the library's -/
theorem index_one (c : UInt8) : ∀ l : List UInt8, (c ∉ l → Lib.index l [c] = -1) ∧ (c ∈ l → 0 ≤ Lib.index l [c]) := by
  intro l
  induction l with
  | nil => exact ⟨fun _ => by simp [Lib.index], fun h => absurd h (by simp)⟩
  | cons b l ih =>
    have e : Lib.index (b :: l) [c] = if [c].isPrefixOf (b :: l) then 0 else if Lib.index l [c] == -1 then -1 else Lib.index l [c] + 1 := rfl
    rw [e]
    by_cases h : c = b
    · subst h
      rw [if_pos (by simp [List.isPrefixOf])]
      exact ⟨fun hh => absurd (by simp) hh, fun _ => Int.le_refl _⟩
    · rw [if_neg (by simp [List.isPrefixOf, h])]
      constructor
      · intro hh
        rw [ih.1 (fun hx => hh (by simp [hx]))]
        rfl
      · intro hh
        have hm : c ∈ l := by
          rw [List.mem_cons] at hh
          rcases hh with hh | hh
          · exact absurd hh h
          · exact hh
        have := ih.2 hm
        rw [if_neg (by simp; omega)]
        omega
theorem splitK_spl (c : UInt8) : ∀ l : List UInt8, Lib.splitK [c] 0 (l.count c) l = spl c l := by
  intro l
  induction l with
  | nil => rfl
  | cons b l ih =>
    by_cases h : b = c
    · subst h
      have ei : Lib.index (b :: l) [b] = 0 := by
        show (if [b].isPrefixOf (b :: l) then (0 : Int) else _) = 0
        rw [if_pos (by simp [List.isPrefixOf])]
      rw [List.count_cons_self]
      unfold Lib.splitK
      rw [ei, if_neg (by decide)]
      conv => rhs; unfold spl
      rw [if_pos rfl, ← ih]
      rfl
    · have hb : ¬ c = b := fun e => h e.symm
      have ei : Lib.index (b :: l) [c] = if Lib.index l [c] == -1 then -1 else Lib.index l [c] + 1 := by
        show (if [c].isPrefixOf (b :: l) then (0 : Int) else _) = _
        rw [if_neg (by simp [List.isPrefixOf, hb])]
      rw [List.count_cons_of_ne h]
      conv => rhs; unfold spl
      rw [if_neg h, ← ih]
      cases hk : l.count c with
      | zero => rfl
      | succ k =>
        have hm : c ∈ l := by
          rw [← List.count_pos_iff]; omega
        have h0 := (index_one c l).2 hm
        unfold Lib.splitK
        rw [ei, if_neg (by simp; omega), if_neg (by simp; omega), if_neg (by simp; omega)]
        simp only [List.length_cons, List.length_nil, Nat.add_zero]
        have e1 : (Lib.index l [c] + 1).toNat = (Lib.index l [c]).toNat + 1 := by omega
        rw [e1]
        rfl
theorem splitF_is (l : List UInt8) (c : UInt8) (h : l.length ≤ 1048576) : splitF (tb l) (tb [c]) = some ((spl c l).map tb) := by
  unfold splitF
  rw [if_pos ⟨by rw [tb_size]; omega, by rw [tb_size]; simp⟩]
  congr 1
  have h1 := Lib.splitB_data (tb [c]) 0 (Lib.countB (tb l) (tb [c])) (tb l)
  rw [tb_data, tb_data] at h1
  have h2 : Lib.countB (tb l) (tb [c]) = l.count c := by
    show Lib.count (tb l).data.toList (tb [c]).data.toList = _
    rw [tb_data, tb_data, Lib.count_one]
  rw [h2, splitK_spl] at h1
  rw [h2, ← h1, List.map_map]
  conv => lhs; rw [← List.map_id (Lib.splitB (tb [c]) 0 (List.count c l) (tb l))]
  refine List.map_congr_left fun s _ => ?_
  exact (tb_of s).symm
end Go.Proofs.YtolfkfjjifdmeaaGreatDoor
/- A list read element by element, with a stop at the first that cannot be read. -/
namespace Go.Proofs.YtolfkfjjifdmeaaGreatDoor
open Eng
set_option linter.unusedVariables false
set_option linter.unusedSimpArgs false

def mapO {A B : Type} (g : A → Option B) : List A → Option (List B)
  | [] => some []
  | a :: l => match g a, mapO g l with
    | some b, some bs => some (b :: bs)
    | _, _ => none
end Go.Proofs.YtolfkfjjifdmeaaGreatDoor
