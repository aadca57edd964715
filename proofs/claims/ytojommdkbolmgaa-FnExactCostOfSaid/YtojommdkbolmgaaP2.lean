/- The law of a cost's plain function answers true at every input that a caller can hand in. -/
import Derived.Test.YtojommdkbolmgaaP
namespace Go.Proofs.Ytojommdkbolmgaa
open Eng
set_option linter.unusedVariables false
set_option linter.unusedSimpArgs false

noncomputable def chB (x : GChoice) : Bool := (spec_l07Choice x).getD false
theorem chB_is (x : GChoice) : spec_l07Choice x = some (chB x) := by
  obtain ⟨b, hb⟩ := l07Choice_is x
  simp [chB, hb]
theorem szChoiceS_is (a : List GChoice) (left : Int) (h0 : 0 ≤ left) (h1 : left ≤ 1048576) (h2 : a.length ≤ 9223372036854775807) :
    laws_szChoiceS a left = some (if left < a.length then -1 else left - a.length) := by
  simp only [laws_szChoiceS]
  rw [w64_in (by omega) (by omega)]
  repeat' split
  all_goals simp_all <;> omega
theorem toChoiceS_is (a : List GChoice) (h : a.length ≤ 1048576) : laws_toChoiceS a = some a := by
  simp only [laws_toChoiceS]
  rw [if_pos (by omega), show ((a.length : Int)).toNat = a.length by omega,
    loop_copy a _ (by omega) (fun ys k hk hl => by simp [laws_toChoiceS.l_5, hk, laws_toChoice, ix_lt, hl]) (fun ys => by simp [laws_toChoiceS.l_5])]
  rfl
theorem eqChoice_is (a b : GChoice) : laws_eqChoice a b = some (decide (a = b)) := by
  obtain ⟨a0, a1, a2, a3⟩ := a; obtain ⟨b0, b1, b2, b3⟩ := b
  simp only [laws_eqChoice, GChoice.mk.injEq]
  repeat' split
  all_goals simp_all
theorem eqChoiceS_is (a b : List GChoice) (h : a.length ≤ 1048576) : laws_eqChoiceS a b = some (decide (a = b)) := by
  simp only [laws_eqChoiceS]
  by_cases hl : a.length = b.length
  · rw [if_neg (by simp [hl]), loop_same a b (by omega) hl (fun k hk hk' => by
      simp only [laws_eqChoiceS.l_3, ix_lt hk, ix_lt hk', Option.bind_some, eqChoice_is]
      rw [if_pos (by simpa using hk)]
      by_cases he : a[k] = b[k] <;> simp [he]) (by simp [laws_eqChoiceS.l_3])]
    simp only [Option.bind_some]
    by_cases he : a = b <;> simp [he, laws_eqChoiceS.k_1]
  · rw [if_pos (by simp; omega)]
    simp only [Option.some.injEq]
    symm; simp
    rintro rfl; exact hl rfl
theorem l07Choices_is (a : List GChoice) (h : a.length ≤ 1048576) : spec_l07Choices a = some (a.all chB) := by
  simp only [spec_l07Choices]
  rw [loop_all a chB (by omega) (fun k hk => by
    simp only [spec_l07Choices.l_3, ix_lt hk, Option.bind_some, chB_is]
    rw [if_pos (by simpa using hk)]
    by_cases he : chB a[k] = true <;> simp [he]) (by simp [spec_l07Choices.l_3])]
  simp only [Option.bind_some]
  by_cases he : a.all chB = true
  · rw [if_pos he, he]; rfl
  · rw [if_neg he]; simp only [Bool.not_eq_true] at he; rw [he]
theorem choicesCode_1_is (x : GChoice) : impl_choicesCode_1 x = some (!(chB x)) := by
  simp [impl_choicesCode_1, validChoice_same, chB_is]
theorem any_not_all (a : List GChoice) : a.any (fun x => !(chB x)) = !(a.all chB) := by
  induction a with
  | nil => rfl
  | cons x a ih => simp [ih]
theorem contains_is (a : List GChoice) (h : a.length ≤ 1048576) : slices_ContainsFunc_Choice_at_impl_choicesCode_1 a = some (!(a.all chB)) := by
  obtain ⟨t, ht, hq⟩ := loop_find (f := slices_IndexFunc_Choice_at_impl_choicesCode_1.l_3 a) a (fun x => !(chB x)) (by omega) (fun k hk => by
    simp only [slices_IndexFunc_Choice_at_impl_choicesCode_1.l_3, ix_lt hk, Option.bind_some, choicesCode_1_is]
    rw [if_pos (by simpa using hk)]
    by_cases he : chB a[k] = true <;> simp [he]) (by simp [slices_IndexFunc_Choice_at_impl_choicesCode_1.l_3])
  simp only [slices_ContainsFunc_Choice_at_impl_choicesCode_1, slices_IndexFunc_Choice_at_impl_choicesCode_1, ht, Option.bind_some]
  rcases hq with ⟨hany, k, rfl, _⟩ | ⟨hany, rfl⟩
  · rw [any_not_all] at hany
    rw [hany]; simp
  · rw [any_not_all] at hany
    rw [hany]; simp [slices_IndexFunc_Choice_at_impl_choicesCode_1.k_1]
theorem choicesCode_is (a : List GChoice) (h : a.length ≤ 1048576) : impl_choicesCode a = some (if a.all chB = true then 0 else 1) := by
  simp only [impl_choicesCode, contains_is a h, Option.bind_some, impl_unless, Bool.not_not]
  split <;> rfl
theorem firstOf3 (a b c : Int) : impl_firstOf [a, b, c] = some (if a ≠ 0 then a else if b ≠ 0 then b else c) := by
  simp only [impl_firstOf]
  rw [loop_eq]
  by_cases ha : a = 0
  · rw [show impl_firstOf.l_3 [a, b, c] 0 = some (.inl 1) by simp [impl_firstOf.l_3, ix, ha, w64_in]]
    simp only
    rw [loop_eq]
    by_cases hb : b = 0
    · rw [show impl_firstOf.l_3 [a, b, c] 1 = some (.inl 2) by simp [impl_firstOf.l_3, ix, hb, w64_in]]
      simp only
      rw [loop_eq]
      by_cases hc : c = 0
      · rw [show impl_firstOf.l_3 [a, b, c] 2 = some (.inl 3) by simp [impl_firstOf.l_3, ix, hc, w64_in]]
        simp only
        rw [loop_eq, show impl_firstOf.l_3 [a, b, c] 3 = some (.inr (.inr ())) by simp [impl_firstOf.l_3]]
        simp [ha, hb, hc, impl_firstOf.k_1]
      · rw [show impl_firstOf.l_3 [a, b, c] 2 = some (.inr (.inl c)) by simp [impl_firstOf.l_3, ix, hc]]
        simp [ha, hb, hc]
    · rw [show impl_firstOf.l_3 [a, b, c] 1 = some (.inr (.inl b)) by simp [impl_firstOf.l_3, ix, hb]]
      simp [ha, hb]
  · rw [show impl_firstOf.l_3 [a, b, c] 0 = some (.inr (.inl a)) by simp [impl_firstOf.l_3, ix, ha]]
    simp [ha]

theorem chB_late (x : GChoice) (hx : okGChoice x) (h : chB x = true) (ha : x.fAway = false) : -3 ≤ x.fLate ∧ x.fLate ≤ 3 := by
  have := chB_is x
  obtain ⟨_, h1, h2, h3⟩ := hx
  rw [h] at this
  simp only [spec_l07Choice, ha, spec_l00In, Option.bind_some, w64_in (show -9223372036854775808 ≤ x.fLate by omega) (by omega)] at this
  rw [if_neg (by simp)] at this
  split at this
  · rename_i h1
    simp only [Bool.and_eq_true, decide_eq_true_eq] at h1
    omega
  · simp at this
theorem cost_same (c : GCosts) (x : GChoice) (hc : okGCosts c) (hx : okGChoice x) (h : chB x = true) : impl_Costs_of c x = spec_l07Cost c x := by
  simp only [impl_Costs_of, spec_l07Cost, spec_l07Cost.k_2, spec_l07Cost.k_4, impl_bit]
  by_cases ha : x.fAway = true
  · rw [if_pos ha, if_pos ha]
  · obtain ⟨h1, h2⟩ := chB_late x hx h (by simpa using ha)
    obtain ⟨_, _, h3, _⟩ := hx
    rw [if_neg ha, if_neg ha, w8_in (show -128 ≤ 0 - x.fLate by omega) (by omega), w64_in (show -9223372036854775808 ≤ x.fLate by omega) (by omega),
      w64_in (show -9223372036854775808 ≤ 0 - x.fLate by omega) (by omega)]
    obtain ⟨_, _, h4, _⟩ := hc
    have hs : w64 c.fOctave = c.fOctave := w64_in (by omega) (by omega)
    have hz : ∀ n : Int, w64 (w64 n + w64 0) = w64 n := fun n => by
      rw [show w64 0 = 0 from w64_in (by omega) (by omega), Int.add_zero]; simp only [w64, IntKind.wrap_i64]; omega
    have e0 : (x.fOctave != 0) = !(decide (x.fOctave = 0)) := by by_cases ho : x.fOctave = 0 <;> simp [ho]
    simp only [e0, gt_iff_lt]
    by_cases hl : x.fLate < 0
    · simp only [hl, decide_true, if_true, w64_in (show -9223372036854775808 ≤ 0 - x.fLate by omega) (by omega), show x.fLate < 0 - x.fLate by omega]
      by_cases ho : x.fOctave = 0
      · simp [ho, hz]
      · simp [ho, hs]
    · simp only [hl, decide_false, if_false, show ¬ x.fLate < 0 - x.fLate by omega, w64_in (show -9223372036854775808 ≤ x.fLate by omega) (by omega)]
      by_cases ho : x.fOctave = 0
      · simp [ho, hz]
      · simp [ho, hs]
theorem cost_is (c : GCosts) (x : GChoice) : ∃ v, spec_l07Cost c x = some v := by
  simp only [spec_l07Cost, spec_l07Cost.k_2, spec_l07Cost.k_4]
  repeat' split
  all_goals exact ⟨_, rfl⟩
noncomputable def co (c : GCosts) (x : GChoice) : Int := (spec_l07Cost c x).getD 0
theorem co_is (c : GCosts) (x : GChoice) : spec_l07Cost c x = some (co c x) := by
  obtain ⟨b, hb⟩ := cost_is c x
  simp [co, hb]
theorem spec_loop (c : GCosts) (a : List GChoice) (h : a.length ≤ 1048576) : loop (spec_CostOf.l_7 c a) (0, 0) = some (a.foldl (fun s x => w64 (s + co c x)) 0) :=
  loop_sum a (fun s x => w64 (s + co c x)) (by omega) (fun s k hk => by
    simp only [spec_CostOf.l_7, ix_lt hk, Option.bind_some, co_is]
    rw [if_pos (by simpa using hk)]) (fun s => by simp [spec_CostOf.l_7]) 0
theorem impl_loop (c : GCosts) (a : List GChoice) (h : a.length ≤ 1048576) (hc : okGCosts c) (ha : ∀ y ∈ a, okGChoice y) (hv : a.all chB = true) : loop (impl_CostOf.l_10 c a) (0, 0) = some (a.foldl (fun s x => w64 (s + co c x)) 0) :=
  loop_sum a (fun s x => w64 (s + co c x)) (by omega) (fun s k hk => by
    simp only [impl_CostOf.l_10, ix_lt hk, Option.bind_some, cost_same c a[k] hc (ha _ (List.getElem_mem hk)) (List.all_eq_true.1 hv _ (List.getElem_mem hk)), co_is]
    rw [if_pos (by simpa using hk)]) (fun s => by simp [impl_CostOf.l_10]) 0
theorem costOf_same (c : GCosts) (a : List GChoice) (h : a.length ≤ 1048576) (hc : okGCosts c) (ha : ∀ y ∈ a, okGChoice y) : ∃ r, spec_CostOf c a = some r ∧ impl_CostOf c a = some r := by
  obtain ⟨b, hb⟩ := l07Costs_is c
  simp only [spec_CostOf, impl_CostOf, validCosts_same, hb, Option.bind_some, l07Choices_is a h, choicesCode_is a h, impl_unless]
  by_cases hb1 : b = true
  · subst hb1
    by_cases hv : a.all chB = true
    · by_cases hl : a.length ≤ 120
      · refine ⟨(a.foldl (fun s x => w64 (s + co c x)) 0, 0), ?_, ?_⟩
        · simp only [hv, spec_CostOf.k_2, spec_loop c a h]
          rw [if_neg (by simp), if_neg (by simp), if_neg (by simp; omega)]
          rfl
        · rw [if_pos hv]
          simp only [if_true, Option.bind_some]
          rw [if_pos (by simp; omega)]
          simp only [Option.bind_some, firstOf3, impl_loop c a h hc ha hv]
          simp [impl_CostOf.k_7]
      · refine ⟨(0, 3), ?_, ?_⟩
        · simp only [hv, spec_CostOf.k_2]
          rw [if_neg (by simp), if_neg (by simp), if_pos (by simp; omega)]
        · rw [if_pos hv]
          simp only [if_true, Option.bind_some]
          rw [if_neg (by simp; omega)]
          simp [firstOf3]
    · refine ⟨(0, 1), ?_, ?_⟩
      · simp [hv, spec_CostOf.k_2]
      · rw [if_neg hv]
        simp only [if_true, Option.bind_some]
        by_cases hl : a.length ≤ 120
        · rw [if_pos (by simp; omega)]; simp [firstOf3]
        · rw [if_neg (by simp; omega)]; simp [firstOf3]
  · refine ⟨(0, 1), ?_, ?_⟩
    · simp [hb1, spec_CostOf.k_2]
    · rw [if_neg hb1]
      simp only [Option.bind_some]
      by_cases hl : a.length ≤ 120
      · rw [if_pos (by simp; omega)]; simp [firstOf3]
      · rw [if_neg (by simp; omega)]; simp [firstOf3]
theorem FnExactCostOf_ok (c : GCosts) (a : List GChoice) (hc : okGCosts c) (ha : a.length ≤ 9223372036854775807 ∧ ∀ y ∈ a, okGChoice y) : laws_FnExactCostOf c a = some true := by
  simp only [laws_FnExactCostOf]
  rw [szChoiceS_is a _ (by omega) (by omega) ha.1]
  simp only [Option.bind_some]
  by_cases h : (1048576 : Int) < a.length
  · rw [if_pos h, if_pos (by simp)]
  · have na : a.length ≤ 1048576 := by omega
    rw [if_neg h, if_neg (by simp; omega)]
    obtain ⟨r, hs, hi⟩ := costOf_same c a na hc ha.2
    simp [laws_toCosts, toChoiceS_is a na, hs, hi, eqChoiceS_is a a na]
end Go.Proofs.Ytojommdkbolmgaa
