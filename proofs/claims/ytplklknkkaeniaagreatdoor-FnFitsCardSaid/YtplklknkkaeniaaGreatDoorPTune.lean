/- Valid tunes: the program's test is the reference's. -/
import Derived.Test.YtplklknkkaeniaaGreatDoorM0
import Derived.Test.YtplklknkkaeniaaGreatDoorM1
import Derived.Test.YtplklknkkaeniaaGreatDoorPFrame
import Derived.Test.YtplklknkkaeniaaGreatDoorPDrum
import Derived.Test.YtplklknkkaeniaaGreatDoorPure
namespace Go.Proofs.YtplklknkkaeniaaGreatDoor
open Eng
set_option linter.unusedVariables false
set_option linter.unusedSimpArgs false

def noteB (n : GNote) : Bool := (decide (0 ≤ n.fAt) && decide (n.fAt ≤ 199)) && (decide (0 ≤ n.fPitch) && decide (n.fPitch ≤ 47))
def NIn (n : GNote) : Prop := (-32768 ≤ n.fAt ∧ n.fAt ≤ 32767) ∧ (-128 ≤ n.fPitch ∧ n.fPitch ≤ 127)
theorem l01Note_is {n : GNote} (h : NIn n) : spec_l01Note n = some (noteB n) := by
  obtain ⟨h1, h2⟩ := h
  simp only [spec_l01Note, spec_l00In, Option.bind_some, noteB, ge_iff_le]
  rw [w64_in (n := n.fAt) (by omega) (by omega), w64_in (n := n.fPitch) (by omega) (by omega)]
  cases (decide (0 ≤ n.fAt) && decide (n.fAt ≤ 199)) <;> simp
theorem isNote_is {n : GNote} (h : NIn n) : impl_isNote n = some (noteB n) := by
  rw [← l01Note_is h]
  simp only [impl_isNote, spec_l01Note, impl_isPitch, within_in, Option.bind_assoc, Option.bind_some]
def befN (a b : GNote) : Bool := decide (a.fAt < b.fAt) || ((a.fAt == b.fAt) && decide (a.fPitch < b.fPitch))
theorem l01Before_is (a b : GNote) : spec_l01Before a b = some (befN a b) := by
  simp only [spec_l01Before, befN]
  by_cases h1 : a.fAt < b.fAt
  · rw [if_pos (by simpa using h1)]; simp [h1]
  · rw [if_neg (by simpa using h1)]; simp [h1]
theorem befN_iff (a b : GNote) : befN a b = true ↔ a.fAt < b.fAt ∨ (a.fAt = b.fAt ∧ a.fPitch < b.fPitch) := by unfold befN; simp
theorem cmp8_is (x y : Int) : cmp_Compare_int8 x y = some (if x < y then -1 else if x > y then 1 else 0) := by
  simp only [cmp_Compare_int8, cmp_isNaN_int8, Option.bind_some]
  simp
  repeat' split
  all_goals rfl
theorem cmp16_is (x y : Int) : cmp_Compare_int16 x y = some (if x < y then -1 else if x > y then 1 else 0) := by
  simp only [cmp_Compare_int16, cmp_isNaN_int16, Option.bind_some]
  simp
  repeat' split
  all_goals rfl
theorem orTwo (a b : Int) : cmp_Or_int [a, b] = some (if a ≠ 0 then a else b) := by
  simp only [cmp_Or_int]
  rw [loop_eq]
  by_cases ha : a = 0
  · rw [show cmp_Or_int.l_3 [a, b] 0 = some (.inl 1) by simp [cmp_Or_int.l_3, ix, ha, w64_in]]
    simp only
    rw [loop_eq]
    by_cases hb : b = 0
    · rw [show cmp_Or_int.l_3 [a, b] 1 = some (.inl 2) by simp [cmp_Or_int.l_3, ix, hb, w64_in]]
      simp only
      rw [loop_eq, show cmp_Or_int.l_3 [a, b] 2 = some (.inr (.inr ())) by simp [cmp_Or_int.l_3]]
      simp [ha, hb, cmp_Or_int.k_1]
    · rw [show cmp_Or_int.l_3 [a, b] 1 = some (.inr (.inl b)) by simp [cmp_Or_int.l_3, ix, hb]]
      simp [ha]
  · rw [show cmp_Or_int.l_3 [a, b] 0 = some (.inr (.inl a)) by simp [cmp_Or_int.l_3, ix, ha]]
    simp [ha]
def cmpN (a b : GNote) : Int := if a.fAt < b.fAt then -1 else if a.fAt > b.fAt then 1 else if a.fPitch < b.fPitch then -1 else if a.fPitch > b.fPitch then 1 else 0
theorem compareNotes_is (a b : GNote) : impl_compareNotes a b = some (cmpN a b) := by
  simp only [impl_compareNotes, cmp8_is, cmp16_is, orTwo, Option.bind_some, cmpN]
  congr 1
  repeat' split
  all_goals first | rfl | omega | simp_all
theorem cmpN_ge (a b : GNote) : decide (cmpN a b ≥ 0) = !(befN a b) := by
  rw [Bool.eq_iff_iff]
  simp only [decide_eq_true_eq, Bool.not_eq_true', ← Bool.not_eq_true, befN_iff]
  unfold cmpN
  repeat' split
  all_goals omega
def noteOk (t : List GNote) (k : Nat) : Bool := match t[k]? with
  | some n => noteB n && (decide (k = 0) || match t[k - 1]? with | some m => befN m n | none => false)
  | none => false
def tuneB (t : List GNote) : Bool := (List.range t.length).all (noteOk t) && decide (t.length ≤ 120)
theorem specTuneStep {t : List GNote} (hl : t.length ≤ 9223372036854775807) (hn : ∀ n ∈ t, NIn n) (k : Nat) (hk : k < t.length) : spec_l01Ok.l_3 t (k : Int) = some (if noteOk t k = true then .inl (w64 ((k : Int) + 1)) else .inr (.inl false)) := by
  simp only [spec_l01Ok.l_3, ix_lt hk, Option.bind_some, l01Note_is (hn _ (List.getElem_mem hk)), l01Before_is]
  rw [if_pos (by simpa using hk)]
  unfold noteOk spec_l01Ok.k_6
  rw [List.getElem?_eq_getElem hk]
  simp only
  by_cases c1 : noteB t[k] = true
  · by_cases h0 : k = 0
    · subst h0; simp [c1]
    · have hk' : k - 1 < t.length := by omega
      have e : w64 ((k : Int) - 1) = ((k - 1 : Nat) : Int) := by rw [w64_in (by omega) (by omega)]; omega
      rw [List.getElem?_eq_getElem hk', e, ix_lt hk']
      simp only [c1, Bool.not_true, Bool.false_eq_true, if_false, Option.bind_some, Bool.true_and]
      rw [if_pos (by simp; omega)]
      by_cases c3 : befN t[k - 1] t[k] = true
      · simp [h0, c3]
      · simp [h0, c3]
  · simp [c1]
theorem l01Ok_is {t : List GNote} (hl : t.length ≤ 9223372036854775807) (hn : ∀ n ∈ t, NIn n) : spec_l01Ok t = some (tuneB t) := by
  simp only [spec_l01Ok]
  rw [loop_allN t.length (noteOk t) hl (fun k hk => specTuneStep hl hn k hk) (by simp [spec_l01Ok.l_3])]
  unfold tuneB
  cases (List.range t.length).all (noteOk t) with
  | false => rfl
  | true =>
    simp only [if_true, Option.bind_some, spec_l01Ok.k_1, Bool.true_and]
    congr 1
    rw [Bool.eq_iff_iff]; simp; omega
theorem implTuneStep {t : List GNote} (hl : t.length ≤ 9223372036854775807) (hn : ∀ n ∈ t, NIn n) (k : Nat) (hk : k < t.length) : impl_ValidTune.l_3 t (k : Int) = some (if noteOk t k = true then .inl (w64 ((k : Int) + 1)) else .inr (.inl false)) := by
  simp only [impl_ValidTune.l_3, ix_lt hk, Option.bind_some, isNote_is (hn _ (List.getElem_mem hk)), compareNotes_is, cmpN_ge]
  rw [if_pos (by simpa using hk)]
  unfold noteOk impl_ValidTune.k_7
  rw [List.getElem?_eq_getElem hk]
  simp only
  by_cases c1 : noteB t[k] = true
  · by_cases h0 : k = 0
    · subst h0; simp [c1]
    · have hk' : k - 1 < t.length := by omega
      have e : w64 ((k : Int) - 1) = ((k - 1 : Nat) : Int) := by rw [w64_in (by omega) (by omega)]; omega
      rw [List.getElem?_eq_getElem hk', e, ix_lt hk']
      simp only [c1, Bool.not_true, Bool.false_eq_true, if_false, Option.bind_some, Bool.true_and]
      rw [if_pos (by simp; omega)]
      by_cases c3 : befN t[k - 1] t[k] = true
      · simp [h0, c3]
      · simp [h0, c3]
  · simp [c1]
theorem validTune_is {t : List GNote} (hl : t.length ≤ 9223372036854775807) (hn : ∀ n ∈ t, NIn n) : impl_ValidTune t = some (tuneB t) := by
  simp only [impl_ValidTune]
  rw [loop_allN t.length (noteOk t) hl (fun k hk => implTuneStep hl hn k hk) (by simp [impl_ValidTune.l_3])]
  unfold tuneB
  cases (List.range t.length).all (noteOk t) with
  | false => rfl
  | true =>
    simp only [if_true, Option.bind_some, impl_ValidTune.k_1, Bool.true_and]
    congr 1
    rw [Bool.eq_iff_iff]; simp; omega
structure TOk (t : List GNote) : Prop where
  len : t.length ≤ 120
  nt : ∀ n ∈ t, 0 ≤ n.fAt ∧ n.fAt ≤ 199 ∧ 0 ≤ n.fPitch ∧ n.fPitch ≤ 47
  so : t.Pairwise fun a b => befN a b = true
theorem tuneB_ok {t : List GNote} (h : tuneB t = true) : TOk t := by
  unfold tuneB at h
  simp only [Bool.and_eq_true, decide_eq_true_eq] at h
  obtain ⟨h1, h2⟩ := h
  have key : ∀ k (hk : k < t.length), noteB t[k] = true ∧ (k = 0 ∨ ∃ hk' : k - 1 < t.length, befN t[k - 1] t[k] = true) := by
    intro k hk
    have := List.all_eq_true.1 h1 k (by simpa using hk)
    unfold noteOk at this
    rw [List.getElem?_eq_getElem hk] at this
    simp only [Bool.and_eq_true, Bool.or_eq_true, decide_eq_true_eq] at this
    refine ⟨this.1, ?_⟩
    rcases this.2 with h | h
    · exact .inl h
    · right
      have hk' : k - 1 < t.length := by omega
      rw [List.getElem?_eq_getElem hk'] at h
      exact ⟨hk', h⟩
  refine ⟨h2, ?_, ?_⟩
  · intro n hn
    obtain ⟨k, hk, rfl⟩ := List.mem_iff_getElem.1 hn
    have := (key k hk).1
    unfold noteB at this
    simp only [Bool.and_eq_true, decide_eq_true_eq] at this
    omega
  · rw [List.pairwise_iff_getElem]
    intro i j hi hj hij
    induction j with
    | zero => omega
    | succ j ih =>
      obtain ⟨_, h | ⟨hk', h⟩⟩ := key (j + 1) hj
      · omega
      · simp only [Nat.add_sub_cancel] at h
        by_cases e : i = j
        · subst e; exact h
        · have := ih (by omega) (by omega)
          rw [befN_iff] at this h ⊢
          omega
theorem tuneB_of {t : List GNote} (h : TOk t) : tuneB t = true := by
  unfold tuneB
  simp only [Bool.and_eq_true, decide_eq_true_eq]
  refine ⟨?_, h.len⟩
  rw [List.all_eq_true]
  intro k hk
  have hk : k < t.length := by simpa using hk
  unfold noteOk
  rw [List.getElem?_eq_getElem hk]
  simp only [Bool.and_eq_true, Bool.or_eq_true, decide_eq_true_eq]
  have := h.nt _ (List.getElem_mem hk)
  refine ⟨by unfold noteB; simp; omega, ?_⟩
  by_cases e : k = 0
  · exact .inl e
  · right
    rw [List.getElem?_eq_getElem (show k - 1 < t.length by omega)]
    exact List.pairwise_iff_getElem.1 h.so (k - 1) k (by omega) hk (by omega)
theorem tuneCode1 {t : List GNote} (hl : t.length ≤ 9223372036854775807) (hn : ∀ n ∈ t, NIn n) : impl_tuneCode [t] = some (if tuneB t = true then 0 else 1) := by
  have hc : slices_ContainsFunc_Tune_at_impl_tuneCode_1 [t] = some (!(tuneB t)) := by
    simp only [slices_ContainsFunc_Tune_at_impl_tuneCode_1, slices_IndexFunc_Tune_at_impl_tuneCode_1]
    rw [loop_eq]
    have e : slices_IndexFunc_Tune_at_impl_tuneCode_1.l_3 [t] 0 = some (if tuneB t = true then .inl 1 else .inr (.inl 0)) := by
      have h0 : ix [t] 0 = some t := rfl
      simp only [slices_IndexFunc_Tune_at_impl_tuneCode_1.l_3, h0, Option.bind_some, impl_tuneCode_1, validTune_is hl hn]
      rw [if_pos (by simp)]
      cases tuneB t <;> simp [w64_in]
    rw [e]
    cases tuneB t with
    | false => simp
    | true =>
      simp only [if_true]
      rw [loop_eq, show slices_IndexFunc_Tune_at_impl_tuneCode_1.l_3 [t] 1 = some (.inr (.inr ())) by simp [slices_IndexFunc_Tune_at_impl_tuneCode_1.l_3]]
      rfl
  simp only [impl_tuneCode, hc, Option.bind_some, unless_is]
  cases tuneB t <;> simp

end Go.Proofs.YtplklknkkaeniaaGreatDoor
