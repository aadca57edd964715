/- Fitting the chosen notes into a drum: whether a place is free, a note put, and the whole list; the program's fit is the reference's. -/
import Derived.Test.YtpmndjejabjniaaDoorM0
import Derived.Test.YtpmndjejabjniaaDoorM1
import Derived.Test.YtpmndjejabjniaaDoorPFrame
import Derived.Test.YtpmndjejabjniaaDoorPDrum
import Derived.Test.YtpmndjejabjniaaDoorPPut
import Derived.Test.YtpmndjejabjniaaDoorPTune
import Derived.Test.YtpmndjejabjniaaDoorPChoices
import Derived.Test.YtpmndjejabjniaaDoorPure
namespace Go.Proofs.YtpmndjejabjniaaDoor
open Eng
set_option linter.unusedVariables false
set_option linter.unusedSimpArgs false

/-! ### a walk that may fall -/
def tryN {A : Type} (p : Nat → A → Option A) (k : Nat) (a : A) : Nat → A ⊕ Nat
  | 0 => .inl a
  | m + 1 => match p k a with
    | none => .inr k
    | some a' => tryN p (k + 1) a' m
theorem loop_try {A T : Type} {f : A × Int → Option ((A × Int) ⊕ T)} (n : Nat) (hn : n ≤ 9223372036854775807) (I : A → Prop) (p : Nat → A → Option A) (bad : Nat → T) (good : A → T)
    (h : ∀ k a, k < n → I a → f (a, (k : Int)) = some (match p k a with | none => .inr (bad k) | some a' => .inl (a', w64 ((k : Int) + 1))) ∧ ∀ a', p k a = some a' → I a')
    (he : ∀ a, I a → f (a, (n : Int)) = some (.inr (good a))) (a0 : A) (h0 : I a0) :
    loop f (a0, 0) = some (match tryN p 0 a0 n with | .inl a => good a | .inr k => bad k) ∧ (∀ a, tryN p 0 a0 n = .inl a → I a) ∧ (∀ k, tryN p 0 a0 n = .inr k → k < n) := by
  have key : ∀ m k a, k + m = n → I a → loop f (a, (k : Int)) = some (match tryN p k a m with | .inl a => good a | .inr k => bad k) ∧ (∀ a', tryN p k a m = .inl a' → I a') ∧ (∀ j, tryN p k a m = .inr j → j < n) := by
    intro m
    induction m with
    | zero =>
      intro k a hk ha
      obtain rfl : k = n := by omega
      refine ⟨by rw [loop_eq, he a ha]; rfl, fun a' e => ?_, fun j e => ?_⟩
      · simp only [tryN] at e; cases e; exact ha
      · simp only [tryN] at e; cases e
    | succ m ih =>
      intro k a hk ha
      obtain ⟨h1, h2⟩ := h k a (by omega) ha
      rw [w64_in (n := (k : Int) + 1) (by omega) (by omega)] at h1
      cases hp : p k a with
      | none =>
        rw [hp] at h1
        simp only [tryN, hp]
        refine ⟨by rw [loop_eq, h1], fun a' e => (by cases e), fun j e => (by cases e; omega)⟩
      | some a' =>
        rw [hp] at h1
        have := ih (k + 1) a' (by omega) (h2 a' hp)
        simp only [tryN, hp]
        refine ⟨?_, this.2.1, this.2.2⟩
        rw [loop_eq, h1]
        exact this.1
  exact key n 0 a0 (by omega) h0
/-! ### whether a place is free -/
def clearB (P : Nat → Bool) (r : Nat) : Bool := (List.range r).all fun i => decide (i = 0) || !(P i)
theorem clearB_iff (P : Nat → Bool) (r : Nat) : clearB P r = true ↔ ∀ i, 1 ≤ i → i < r → P i = false := by
  unfold clearB
  rw [List.all_eq_true]
  constructor
  · intro h i h1 h2
    have := h i (by simpa using h2)
    simp only [Bool.or_eq_true, decide_eq_true_eq, Bool.not_eq_true'] at this
    rcases this with h | h
    · omega
    · exact h
  · intro h i hi
    simp only [Bool.or_eq_true, decide_eq_true_eq, Bool.not_eq_true']
    by_cases h0 : i = 0
    · exact .inl h0
    · exact .inr (h i (by omega) (by simpa using hi))
/-! ### a note put -/
def eqC (x y : GChoice) : Bool := (x.fAway == y.fAway) && ((x.fLate == y.fLate) && ((x.fOctave == y.fOctave) && (x.fTrack == y.fTrack)))
theorem eqC_iff (x y : GChoice) : eqC x y = true ↔ x = y := by
  obtain ⟨a, b, c, d⟩ := x
  obtain ⟨a', b', c', d'⟩ := y
  simp [eqC]
theorem eqC_comm (x y : GChoice) : eqC x y = eqC y x := by
  rw [Bool.eq_iff_iff, eqC_iff, eqC_iff, eq_comm]
theorem any_mem (xs : List GChoice) (x : GChoice) : xs.any (fun y => eqC x y) = decide (x ∈ xs) := by
  rw [Bool.eq_iff_iff, List.any_eq_true, decide_eq_true_eq]
  constructor
  · rintro ⟨y, hy, h⟩
    rw [(eqC_iff x y).1 h]; exact hy
  · intro h
    exact ⟨x, h, (eqC_iff x x).2 rfl⟩
def setP (d : Arr 96 Int) (s t : Nat) : Arr 96 Int := d.set (s : Int) (bOr .u32 (row' d s : Int) (bShl .u32 1 (t : Int)))
theorem DIn_setP {d : Arr 96 Int} (hd : DIn d) {s t : Nat} (hs : s < 96) (ht : t < 32) : DIn (setP d s t) := (or_pin hd hs ht).1
/-! ### what is asked -/
def choiceB (x : GChoice) : Bool := if x.fAway = true then (x.fLate == 0) && ((x.fOctave == 0) && (x.fTrack == 0)) else (decide (w64 x.fLate ≥ -3) && decide (w64 x.fLate ≤ 3)) && ((decide (w64 x.fOctave ≥ -1) && decide (w64 x.fOctave ≤ 1)) && (decide (w64 x.fTrack ≥ 0) && decide (w64 x.fTrack ≤ 23)))
theorem l07Choice_is (x : GChoice) : spec_l07Choice x = some (choiceB x) := by
  unfold spec_l07Choice choiceB
  cases h : x.fAway with
  | true => simp
  | false =>
    simp only [spec_l00In, Option.bind_some, Bool.false_eq_true, if_false]
    cases (decide (w64 x.fLate ≥ -3) && decide (w64 x.fLate ≤ 3)) <;> cases (decide (w64 x.fOctave ≥ -1) && decide (w64 x.fOctave ≤ 1)) <;> simp
theorem validChoice_is (x : GChoice) : impl_ValidChoice x = some (choiceB x) := by
  unfold impl_ValidChoice choiceB
  cases h : x.fAway with
  | true => simp
  | false =>
    simp only [impl_within, Option.bind_some, Bool.false_eq_true, if_false]
    cases (decide (w64 x.fLate ≥ -3) && decide (w64 x.fLate ≤ 3)) <;> cases (decide (w64 x.fOctave ≥ -1) && decide (w64 x.fOctave ≤ 1)) <;> simp
theorem l07Choices_is (list : List GChoice) (h : list.length ≤ 9223372036854775807) : spec_l07Choices list = some (list.all choiceB) := by
  simp only [spec_l07Choices]
  rw [loop_all (f := spec_l07Choices.l_3 list) list choiceB h (fun k hk => by
    simp only [spec_l07Choices.l_3, ix_lt hk, Option.bind_some, l07Choice_is]
    rw [if_pos (by simpa using hk)]
    cases choiceB list[k] <;> simp) (by simp [spec_l07Choices.l_3])]
  cases list.all choiceB <;> simp [spec_l07Choices.k_1]
theorem choicesCode_is (list : List GChoice) (h : list.length ≤ 9223372036854775807) : impl_choicesCode list = some (if list.all choiceB = true then 0 else 1) := by
  obtain ⟨t, ht, hq⟩ := loop_find (f := slices_IndexFunc_Choice_at_impl_choicesCode_1.l_3 list) list (fun x => !(choiceB x)) h (fun k hk => by
    simp only [slices_IndexFunc_Choice_at_impl_choicesCode_1.l_3, ix_lt hk, Option.bind_some, impl_choicesCode_1, validChoice_is]
    rw [if_pos (by simpa using hk)]
    cases choiceB list[k] <;> simp) (by simp [slices_IndexFunc_Choice_at_impl_choicesCode_1.l_3])
  simp only [impl_choicesCode, slices_ContainsFunc_Choice_at_impl_choicesCode_1, slices_IndexFunc_Choice_at_impl_choicesCode_1, ht, Option.bind_some, unless_is]
  rcases hq with ⟨hany, k, rfl, _⟩ | ⟨hany, rfl⟩
  · rw [any_not] at hany
    have : list.all choiceB = false := by simpa using hany
    rw [this]; simp
  · rw [any_not] at hany
    have : list.all choiceB = true := by simpa using hany
    rw [this]; simp [slices_IndexFunc_Choice_at_impl_choicesCode_1.k_1]
end Go.Proofs.YtpmndjejabjniaaDoor
