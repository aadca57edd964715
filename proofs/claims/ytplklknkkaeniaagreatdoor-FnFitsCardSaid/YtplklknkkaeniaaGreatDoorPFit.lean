/- Fitting the chosen notes into a drum: whether a place is free, a note put, and the whole list; the program's fit is the reference's. -/
import Derived.Test.YtplklknkkaeniaaGreatDoorM0
import Derived.Test.YtplklknkkaeniaaGreatDoorM1
import Derived.Test.YtplklknkkaeniaaGreatDoorM2
import Derived.Test.YtplklknkkaeniaaGreatDoorPFrame
import Derived.Test.YtplklknkkaeniaaGreatDoorPDrum
import Derived.Test.YtplklknkkaeniaaGreatDoorPPut
import Derived.Test.YtplklknkkaeniaaGreatDoorPTune
import Derived.Test.YtplklknkkaeniaaGreatDoorPChoices
import Derived.Test.YtplklknkkaeniaaGreatDoorPure
namespace Go.Proofs.YtplklknkkaeniaaGreatDoor
open Eng
set_option linter.unusedVariables false
set_option linter.unusedSimpArgs false

/-! ### a walk that may fall -/
def tryN {A : Type} (p : Nat → A → Option A) (k : Nat) (a : A) : Nat → A ⊕ Nat
  | 0 => .inl a
  | m + 1 => match p k a with
    | none => .inr k
    | some a' => tryN p (k + 1) a' m
theorem loop_try {A T : Type} {f : A × Int → Option ((A × Int) ⊕ T)} (n : Nat) (hn : n ≤ 9223372036854775807) (I : A → Prop) (p : Nat → A → Option A) (bad : Nat → T) (good : A → T)
    (h : ∀ k a, k < n → I a → f (a, (k : Int)) = some (match p k a with | none => .inr (bad k) | some a' => .inl (a', w64 ((k : Int) + 1))) ∧ ∀ a', p k a = some a' → I a')
    (he : ∀ a, I a → f (a, (n : Int)) = some (.inr (good a))) (a0 : A) (h0 : I a0) :
    loop f (a0, 0) = some (match tryN p 0 a0 n with | .inl a => good a | .inr k => bad k) ∧ (∀ a, tryN p 0 a0 n = .inl a → I a) ∧ (∀ k, tryN p 0 a0 n = .inr k → k < n) := by
  have key : ∀ m k a, k + m = n → I a → loop f (a, (k : Int)) = some (match tryN p k a m with | .inl a => good a | .inr k => bad k) ∧ (∀ a', tryN p k a m = .inl a' → I a') ∧ (∀ j, tryN p k a m = .inr j → j < n) := by
    intro m
    induction m with
    | zero =>
      intro k a hk ha
      obtain rfl : k = n := by omega
      refine ⟨by rw [loop_eq, he a ha]; rfl, fun a' e => ?_, fun j e => ?_⟩
      · simp only [tryN] at e; cases e; exact ha
      · simp only [tryN] at e; cases e
    | succ m ih =>
      intro k a hk ha
      obtain ⟨h1, h2⟩ := h k a (by omega) ha
      rw [w64_in (n := (k : Int) + 1) (by omega) (by omega)] at h1
      cases hp : p k a with
      | none =>
        rw [hp] at h1
        simp only [tryN, hp]
        refine ⟨by rw [loop_eq, h1], fun a' e => (by cases e), fun j e => (by cases e; omega)⟩
      | some a' =>
        rw [hp] at h1
        have := ih (k + 1) a' (by omega) (h2 a' hp)
        simp only [tryN, hp]
        refine ⟨?_, this.2.1, this.2.2⟩
        rw [loop_eq, h1]
        exact this.1
  exact key n 0 a0 (by omega) h0
/-! ### whether a place is free -/
def clearB (P : Nat → Bool) (r : Nat) : Bool := (List.range r).all fun i => decide (i = 0) || !(P i)
theorem clearB_iff (P : Nat → Bool) (r : Nat) : clearB P r = true ↔ ∀ i, 1 ≤ i → i < r → P i = false := by
  unfold clearB
  rw [List.all_eq_true]
  constructor
  · intro h i h1 h2
    have := h i (by simpa using h2)
    simp only [Bool.or_eq_true, decide_eq_true_eq, Bool.not_eq_true'] at this
    rcases this with h | h
    · omega
    · exact h
  · intro h i hi
    simp only [Bool.or_eq_true, decide_eq_true_eq, Bool.not_eq_true']
    by_cases h0 : i = 0
    · exact .inl h0
    · exact .inr (h i (by omega) (by simpa using hi))
def fwd (f : GFrame) (d : Arr 96 Int) (s t i : Nat) : Bool := pin d ((s + i) % f.fSteps.toNat) t
def bwd (f : GFrame) (d : Arr 96 Int) (s t i : Nat) : Bool := pin d ((s + f.fSteps.toNat - i) % f.fSteps.toNat) t
def readyN (f : GFrame) (t : Nat) : Nat := ((f.fHammers[t]?.map GHammer.fReady).getD 0).toNat
def freeB (f : GFrame) (d : Arr 96 Int) (s t : Nat) : Bool := !(pin d s t) && (clearB (fwd f d s t) (readyN f t) && clearB (bwd f d s t) (readyN f t))
theorem behind_is {f : GFrame} (hf : FOk f) {d : Arr 96 Int} (hd : DIn d) {s t : Nat} (way : Int) (q : Nat → Nat) (ht : t ≤ 32)
    (hq : ∀ i : Nat, 1 ≤ i → i < f.fSteps.toNat → Int.tmod (w64 (w64 ((s : Int) + w64 (way * (i : Int))) + w64 f.fSteps)) (w64 f.fSteps) = (q i : Int) ∧ q i < 96) {r : Nat} (hr : r ≤ f.fSteps.toNat) :
    ∃ b : Int, impl_Frame_behind f d (s : Int) (t : Int) way = some b ∧ (decide (b ≥ (r : Int)) = clearB (fun i => pin d (q i) t) r) := by
  have hs0 := hf.s0; have hs1 := hf.s1
  have e : w64 f.fSteps = (f.fSteps.toNat : Int) := by rw [w64_in (by omega) (by omega)]; omega
  have key : ∀ b : Nat, 1 ≤ b → b ≤ f.fSteps.toNat → (∀ i, 1 ≤ i → i < b → pin d (q i) t = false) → (b < f.fSteps.toNat → pin d (q b) t = true) → decide ((b : Int) ≥ (r : Int)) = clearB (fun i => pin d (q i) t) r := by
    intro b h1 h2 h3 h4
    rw [Bool.eq_iff_iff, clearB_iff, decide_eq_true_eq]
    constructor
    · intro h i hi hir
      exact h3 i hi (by omega)
    · intro h
      by_cases hb : b < f.fSteps.toNat
      · have hp := h4 hb
        by_cases hbr : b < r
        · have := h b h1 hbr
          rw [hp] at this; cases this
        · omega
      · omega
  obtain ⟨x, hx, hq2⟩ := loop_inv (f := impl_Frame_behind.l_3 f d (s : Int) (t : Int) way) (fun x => ∃ k : Nat, 1 ≤ k ∧ k ≤ f.fSteps.toNat ∧ x = (k : Int) ∧ ∀ i, 1 ≤ i → i < k → pin d (q i) t = false) (fun x => f.fSteps.toNat - x.toNat)
    (fun x => (∃ k : Nat, x = .inl (k : Int) ∧ 1 ≤ k ∧ k < f.fSteps.toNat ∧ (∀ i, 1 ≤ i → i < k → pin d (q i) t = false) ∧ pin d (q k) t = true) ∨ (x = .inr () ∧ ∀ i, 1 ≤ i → i < f.fSteps.toNat → pin d (q i) t = false)) (by
    rintro _ ⟨k, h1, h2, rfl, h3⟩
    by_cases hk : k < f.fSteps.toNat
    · obtain ⟨hq1, hq2⟩ := hq k h1 hk
      simp only [impl_Frame_behind.l_3, hq1, has_is hd hq2 ht, Option.bind_some]
      rw [if_pos (by rw [e, decide_eq_true_eq]; omega), if_pos (by rw [e]; omega)]
      cases hp : pin d (q k) t with
      | true =>
        right
        exact ⟨_, by simp, .inl ⟨k, rfl, h1, hk, h3, hp⟩⟩
      | false =>
        left
        refine ⟨((k + 1 : Nat) : Int), by rw [w64_in (n := (k : Int) + 1) (by omega) (by omega)]; simp, ⟨k + 1, by omega, by omega, rfl, fun i hi hik => ?_⟩, by omega⟩
        by_cases hik2 : i = k
        · rw [hik2]; exact hp
        · exact h3 i hi (by omega)
    · right
      simp only [impl_Frame_behind.l_3]
      rw [if_neg (by rw [e, decide_eq_true_eq]; omega)]
      exact ⟨_, rfl, .inr ⟨rfl, fun i hi hin => h3 i hi (by omega)⟩⟩) 1 ⟨1, by omega, by omega, rfl, fun i h1 h2 => by omega⟩
  simp only [impl_Frame_behind, hx, Option.bind_some]
  rcases hq2 with ⟨k, rfl, h1, h2, h3, h4⟩ | ⟨rfl, h3⟩
  · exact ⟨_, rfl, key k h1 (by omega) h3 (fun _ => h4)⟩
  · refine ⟨_, by simp only [impl_Frame_behind.k_1]; rw [e], key f.fSteps.toNat (by omega) (by omega) h3 (fun h => by omega)⟩
theorem fwd_ix {f : GFrame} (hf : FOk f) {s i : Nat} (hs : s < 96) (hi : i < 96) : Int.tmod (w64 ((s : Int) + (i : Int))) (w64 f.fSteps) = (((s + i) % f.fSteps.toNat : Nat) : Int) ∧ (s + i) % f.fSteps.toNat < 96 := by
  have hs0 := hf.s0; have hs1 := hf.s1
  have e : w64 f.fSteps = (f.fSteps.toNat : Int) := by rw [w64_in (by omega) (by omega)]; omega
  have := Nat.mod_lt (s + i) (show 0 < f.fSteps.toNat by omega)
  rw [w64_in (n := (s : Int) + (i : Int)) (by omega) (by omega), e, show (s : Int) + (i : Int) = ((s + i : Nat) : Int) by omega, tmod_nat]
  exact ⟨rfl, by omega⟩
theorem bwd_ix {f : GFrame} (hf : FOk f) {s i : Nat} (hs : s < 96) (hi : i ≤ f.fSteps.toNat) : Int.tmod (w64 (w64 ((s : Int) + w64 f.fSteps) - (i : Int))) (w64 f.fSteps) = (((s + f.fSteps.toNat - i) % f.fSteps.toNat : Nat) : Int) ∧ (s + f.fSteps.toNat - i) % f.fSteps.toNat < 96 := by
  have hs0 := hf.s0; have hs1 := hf.s1
  have e : w64 f.fSteps = (f.fSteps.toNat : Int) := by rw [w64_in (by omega) (by omega)]; omega
  have := Nat.mod_lt (s + f.fSteps.toNat - i) (show 0 < f.fSteps.toNat by omega)
  rw [e, w64_in (n := (s : Int) + (f.fSteps.toNat : Int)) (by omega) (by omega), w64_in (n := (s : Int) + (f.fSteps.toNat : Int) - (i : Int)) (by omega) (by omega), show (s : Int) + (f.fSteps.toNat : Int) - (i : Int) = ((s + f.fSteps.toNat - i : Nat) : Int) by omega, tmod_nat]
  exact ⟨rfl, by omega⟩
theorem ham_at {f : GFrame} (hf : FOk f) {t : Nat} (ht : t < f.fHammers.length) : ix f.fHammers (t : Int) = some f.fHammers[t] ∧ w64 f.fHammers[t].fReady = (readyN f t : Int) ∧ 1 ≤ readyN f t ∧ readyN f t ≤ 20 ∧ readyN f t ≤ f.fSteps.toNat := by
  have h := hf.hp _ (List.getElem_mem ht)
  have hs0 := hf.s0
  have e : readyN f t = f.fHammers[t].fReady.toNat := by unfold readyN; rw [List.getElem?_eq_getElem ht]; rfl
  refine ⟨ix_lt ht, ?_, by omega, by omega, by omega⟩
  rw [w64_in (by omega) (by omega), e]; omega
theorem isFree_is {f : GFrame} (hf : FOk f) {d : Arr 96 Int} (hd : DIn d) {s t : Nat} (hs : (s : Int) < f.fSteps) (ht : t < f.fHammers.length) : impl_Frame_isFree f d (s : Int) (t : Int) = some (freeB f d s t) := by
  have hs0 := hf.s0; have hs1 := hf.s1; have hh1 := hf.h1
  obtain ⟨h1, h2, h3, h4, h5⟩ := ham_at hf ht
  have e : w64 f.fSteps = (f.fSteps.toNat : Int) := by rw [w64_in (by omega) (by omega)]; omega
  obtain ⟨b1, hb1, c1⟩ := behind_is hf hd (s := s) (t := t) 1 (fun i => (s + i) % f.fSteps.toNat) (by omega) (fun i hi0 hi => by
    have := Nat.mod_lt (s + i) (show 0 < f.fSteps.toNat by omega)
    rw [e, w64_in (n := 1 * (i : Int)) (by omega) (by omega), w64_in (n := (s : Int) + 1 * (i : Int)) (by omega) (by omega), w64_in (n := (s : Int) + 1 * (i : Int) + (f.fSteps.toNat : Int)) (by omega) (by omega), show (s : Int) + 1 * (i : Int) + (f.fSteps.toNat : Int) = ((s + i + f.fSteps.toNat : Nat) : Int) by omega, tmod_nat, Nat.add_mod_right]
    exact ⟨rfl, by omega⟩) h5
  obtain ⟨b2, hb2, c2⟩ := behind_is hf hd (s := s) (t := t) (-1) (fun i => (s + f.fSteps.toNat - i) % f.fSteps.toNat) (by omega) (fun i hi0 hi => by
    have := Nat.mod_lt (s + f.fSteps.toNat - i) (show 0 < f.fSteps.toNat by omega)
    rw [e, w64_in (n := -1 * (i : Int)) (by omega) (by omega), w64_in (n := (s : Int) + -1 * (i : Int)) (by omega) (by omega), w64_in (n := (s : Int) + -1 * (i : Int) + (f.fSteps.toNat : Int)) (by omega) (by omega), show (s : Int) + -1 * (i : Int) + (f.fSteps.toNat : Int) = ((s + f.fSteps.toNat - i : Nat) : Int) by omega, tmod_nat]
    exact ⟨rfl, by omega⟩) h5
  simp only [impl_Frame_isFree, h1, Option.bind_some, has_is hd (show s < 96 by omega) (show t ≤ 32 by omega), h2, hb1, hb2, c1, c2, freeB]
  have eF : clearB (fun i => pin d ((s + i) % f.fSteps.toNat) t) (readyN f t) = clearB (fwd f d s t) (readyN f t) := rfl
  have eB : clearB (fun i => pin d ((s + f.fSteps.toNat - i) % f.fSteps.toNat) t) (readyN f t) = clearB (bwd f d s t) (readyN f t) := rfl
  rw [eF, eB]
  cases pin d s t <;> cases clearB (fwd f d s t) (readyN f t) <;> simp
theorem l02Free_is {f : GFrame} (hf : FOk f) {d : Arr 96 Int} (hd : DIn d) {s t : Nat} (hs : (s : Int) < f.fSteps) (ht : t < f.fHammers.length) : spec_l02Free f d (s : Int) (t : Int) = some (freeB f d s t) := by
  have hs0 := hf.s0; have hs1 := hf.s1; have hh1 := hf.h1
  obtain ⟨h1, h2, h3, h4, h5⟩ := ham_at hf ht
  have e : w64 f.fSteps = (f.fSteps.toNat : Int) := by rw [w64_in (by omega) (by omega)]; omega
  simp only [spec_l02Free, pin_is hd (show s < 96 by omega) (show t ≤ 32 by omega), Option.bind_some, h1, freeB]
  cases pin d s t with
  | true => simp
  | false =>
    obtain ⟨x, hx, hq⟩ := loop_inv (f := spec_l02Free.l_5 f d (s : Int) (t : Int) f.fHammers[t]) (fun x => ∃ k : Nat, 1 ≤ k ∧ k ≤ readyN f t ∧ x = (k : Int) ∧ ∀ i, 1 ≤ i → i < k → fwd f d s t i = false ∧ bwd f d s t i = false) (fun x => readyN f t - x.toNat)
      (fun x => (x = .inl false ∧ ¬ (clearB (fwd f d s t) (readyN f t) = true ∧ clearB (bwd f d s t) (readyN f t) = true)) ∨ (x = .inr () ∧ (clearB (fwd f d s t) (readyN f t) = true ∧ clearB (bwd f d s t) (readyN f t) = true))) (by
      rintro _ ⟨k, k1, k2, rfl, k3⟩
      simp only [clearB_iff]
      by_cases hk : k < readyN f t
      · obtain ⟨q1, q2⟩ := fwd_ix hf (show s < 96 by omega) (show k < 96 by omega)
        obtain ⟨q3, q4⟩ := bwd_ix hf (show s < 96 by omega) (show k ≤ f.fSteps.toNat by omega)
        have hz : w64 f.fSteps ≠ 0 := by rw [e]; omega
        have step : spec_l02Free.l_5 f d (s : Int) (t : Int) f.fHammers[t] (k : Int) = (if fwd f d s t k = true then some (.inr (.inl false)) else if bwd f d s t k = true then some (.inr (.inl false)) else some (.inl (w64 ((k : Int) + 1)))) := by
          simp only [spec_l02Free.l_5, h2, q1, q3, pin_is hd q2 (show t ≤ 32 by omega), pin_is hd q4 (show t ≤ 32 by omega), Option.bind_some, spec_l02Free.k_8]
          rw [if_pos (by rw [decide_eq_true_eq]; omega), if_pos hz]
          unfold fwd bwd
          cases pin d ((s + k) % f.fSteps.toNat) t
          · simp only [Bool.false_eq_true, if_false]
            rw [if_pos hz]
          · simp
        rw [step]
        cases hF : fwd f d s t k with
        | true =>
          right
          exact ⟨_, by simp, .inl ⟨rfl, fun h => by have := h.1 k k1 hk; rw [hF] at this; cases this⟩⟩
        | false =>
          cases hB : bwd f d s t k with
          | true =>
            right
            exact ⟨_, by simp, .inl ⟨rfl, fun h => by have := h.2 k k1 hk; rw [hB] at this; cases this⟩⟩
          | false =>
            left
            refine ⟨((k + 1 : Nat) : Int), by rw [w64_in (n := (k : Int) + 1) (by omega) (by omega)]; simp, ⟨k + 1, by omega, by omega, rfl, fun i hi hik => ?_⟩, by omega⟩
            by_cases hik2 : i = k
            · rw [hik2]; exact ⟨hF, hB⟩
            · exact k3 i hi (by omega)
      · right
        simp only [spec_l02Free.l_5, h2]
        rw [if_neg (by rw [decide_eq_true_eq]; omega)]
        exact ⟨_, rfl, .inr ⟨rfl, fun i hi hir => (k3 i hi (by omega)).1, fun i hi hir => (k3 i hi (by omega)).2⟩⟩) 1 ⟨1, by omega, by omega, rfl, fun i a b => by omega⟩
    rw [hx]
    simp only [Bool.false_eq_true, if_false, Option.bind_some]
    rcases hq with ⟨rfl, hn⟩ | ⟨rfl, hy⟩
    · simp only [Bool.not_false, Bool.true_and]
      congr 1
      symm
      rw [Bool.and_eq_false_iff, ← Bool.not_eq_true, ← Bool.not_eq_true]
      by_cases ha : clearB (fwd f d s t) (readyN f t) = true
      · exact .inr fun hb => hn ⟨ha, hb⟩
      · exact .inl ha
    · simp [hy.1, hy.2, spec_l02Free.k_3]
/-! ### a note put -/
def eqC (x y : GChoice) : Bool := (x.fAway == y.fAway) && ((x.fLate == y.fLate) && ((x.fOctave == y.fOctave) && (x.fTrack == y.fTrack)))
theorem eqC_iff (x y : GChoice) : eqC x y = true ↔ x = y := by
  obtain ⟨a, b, c, d⟩ := x
  obtain ⟨a', b', c', d'⟩ := y
  simp [eqC]
theorem eqC_comm (x y : GChoice) : eqC x y = eqC y x := by
  rw [Bool.eq_iff_iff, eqC_iff, eqC_iff, eq_comm]
theorem any_mem (xs : List GChoice) (x : GChoice) : xs.any (fun y => eqC x y) = decide (x ∈ xs) := by
  rw [Bool.eq_iff_iff, List.any_eq_true, decide_eq_true_eq]
  constructor
  · rintro ⟨y, hy, h⟩
    rw [(eqC_iff x y).1 h]; exact hy
  · intro h
    exact ⟨x, h, (eqC_iff x x).2 rfl⟩
theorem contains_is (xs : List GChoice) (x : GChoice) (h : xs.length ≤ 9223372036854775807) : slices_Contains_Choice xs x = some (decide (x ∈ xs)) := by
  obtain ⟨t, ht, hq⟩ := loop_find (f := slices_Index_Choice.l_3 xs x) xs (fun y => eqC x y) h (fun k hk => by
    simp only [slices_Index_Choice.l_3, ix_lt hk, Option.bind_some]
    rw [if_pos (by simpa using hk)]
    show (if eqC x xs[k] = true then _ else _) = _
    by_cases he : eqC x xs[k] = true
    · rw [if_pos he, if_pos he]
    · rw [if_neg he, if_neg he]) (by simp [slices_Index_Choice.l_3])
  simp only [slices_Contains_Choice, slices_Index_Choice, ht, Option.bind_some]
  rw [← any_mem]
  rcases hq with ⟨hany, k, rfl, _⟩ | ⟨hany, rfl⟩
  · rw [hany]; simp
  · rw [hany]; simp [slices_Index_Choice.k_1]
theorem specContains (list : List GChoice) (i : Nat) (hi : i < list.length) (xs : List GChoice) (h : xs.length ≤ 9223372036854775807) : loop (spec_l07Fit.l_19 list (i : Int) xs) (false, 0) = some (decide (list[i] ∈ xs)) := by
  obtain ⟨t, ht, rfl⟩ := loop_for (f := spec_l07Fit.l_19 list (i : Int) xs) xs.length h (fun k b => b = (xs.take k).any (fun y => eqC list[i] y)) (fun t => t = decide (list[i] ∈ xs))
    (fun k b hk hb => .inl ⟨(xs.take (k + 1)).any (fun y => eqC list[i] y), by
      simp only [spec_l07Fit.l_19, ix_lt hk, ix_lt hi, Option.bind_some]
      rw [if_pos (by simpa using hk), List.take_succ_eq_append_getElem hk, List.any_append, ← hb]
      cases b with
      | true => simp
      | false =>
        simp only [Bool.false_eq_true, if_false, Bool.false_or, List.any_cons, List.any_nil, Bool.or_false]
        rw [eqC_comm]
        rfl, rfl⟩)
    (fun b hb => ⟨b, by simp [spec_l07Fit.l_19], by rw [hb, List.take_length, any_mem]⟩) false (by simp)
  exact ht
/-- where a chosen note lies -/
structure Place (f : GFrame) (n : GNote) (x : GChoice) (s t : Nat) : Prop where
  hs : (s : Int) < f.fSteps
  ht : t < f.fHammers.length
  at_ : w64 (w64 n.fAt + w64 x.fLate) = (s : Int)
  tr : w64 x.fTrack = (t : Int)
  tr' : x.fTrack = (t : Int)
theorem place_of {f : GFrame} (hf : FOk f) {n : GNote} (ha : 0 ≤ n.fAt ∧ n.fAt ≤ 199) (hp : 0 ≤ n.fPitch ∧ n.fPitch ≤ 47) {x : GChoice} (hx : x ∈ allFor f n) (hw : x.fAway = false) : Place f n x (n.fAt + x.fLate).toNat x.fTrack.toNat := by
  have hs1 := hf.s1
  have hh1 := hf.h1
  rcases (mem_allFor hf ha hp x).1 hx with rfl | ⟨_, ⟨a1, a2⟩, _, ⟨b1, b2⟩, k, hk, ht, _⟩
  · cases hw
  · refine ⟨by omega, by omega, ?_, ?_, by omega⟩
    · rw [w64_in (n := n.fAt) (by omega) (by omega), w64_in (n := x.fLate) (by omega) (by omega), w64_in (by omega) (by omega)]; omega
    · rw [w64_in (by omega) (by omega)]; omega
def setP (d : Arr 96 Int) (s t : Nat) : Arr 96 Int := d.set (s : Int) (bOr .u32 (row' d s : Int) (bShl .u32 1 (t : Int)))
def putV (f : GFrame) (n : GNote) (x : GChoice) (d : Arr 96 Int) : Option (Arr 96 Int) :=
  if x.fAway = true then some d else if freeB f d (n.fAt + x.fLate).toNat x.fTrack.toNat = true then some (setP d (n.fAt + x.fLate).toNat x.fTrack.toNat) else none
theorem DIn_setP {d : Arr 96 Int} (hd : DIn d) {s t : Nat} (hs : s < 96) (ht : t < 32) : DIn (setP d s t) := (or_pin hd hs ht).1
theorem putV_in {f : GFrame} (hf : FOk f) {n : GNote} (ha : 0 ≤ n.fAt ∧ n.fAt ≤ 199) (hp : 0 ≤ n.fPitch ∧ n.fPitch ≤ 47) {x : GChoice} (hx : x ∈ allFor f n) {d : Arr 96 Int} (hd : DIn d) {d' : Arr 96 Int} (h : putV f n x d = some d') : DIn d' := by
  unfold putV at h
  have hs1 := hf.s1; have hh1 := hf.h1
  cases hw : x.fAway with
  | true => rw [hw] at h; simp at h; exact h ▸ hd
  | false =>
    have pl := place_of hf ha hp hx hw
    have h1 := pl.hs; have h2 := pl.ht
    rw [hw] at h
    simp only [Bool.false_eq_true, if_false] at h
    split at h
    · cases h; exact DIn_setP hd (by omega) (by omega)
    · cases h
theorem putTrue {d : Arr 96 Int} (hd : DIn d) {s t : Nat} (hs : s < 96) (ht : t < 32) : impl_Drum_put d (s : Int) (t : Int) true = some (setP d s t) := by
  obtain ⟨d', h1, h2, h3⟩ := put_on hd hs ht
  obtain ⟨h4, h5⟩ := or_pin hd hs ht
  rw [h1]
  congr 1
  refine drum_eq h2 h4 fun a b _ _ => ?_
  rw [h3, show pin (setP d s t) a b = _ from h5 a b]
theorem l07Put_is {f : GFrame} (hf : FOk f) {n : GNote} (ha : 0 ≤ n.fAt ∧ n.fAt ≤ 199) (hp : 0 ≤ n.fPitch ∧ n.fPitch ≤ 47) {x : GChoice} (hx : x ∈ allFor f n) {d : Arr 96 Int} (hd : DIn d) :
    spec_l07Put f d n x = some (match putV f n x d with | some d' => (true, d') | none => (false, d)) := by
  have hs1 := hf.s1; have hh1 := hf.h1
  simp only [spec_l07Put, putV]
  cases hw : x.fAway with
  | true => simp
  | false =>
    have pl := place_of hf ha hp hx hw
    have h1 := pl.hs; have h2 := pl.ht
    simp only [pl.at_, pl.tr, l02Free_is hf hd pl.hs pl.ht, Option.bind_some, Bool.false_eq_true, if_false]
    cases freeB f d (n.fAt + x.fLate).toNat x.fTrack.toNat with
    | false => simp
    | true =>
      simp only [Bool.not_true, Bool.false_eq_true, if_false, if_true, ix_row hd (show (n.fAt + x.fLate).toNat < 96 by omega), Option.bind_some]
      have e : u64 x.fTrack = ((x.fTrack.toNat : Nat) : Int) := by
        have := pl.tr'
        rw [u64_in (by omega) (by omega)]; omega
      rw [e, if_pos (by omega)]
      rfl
theorem canPut_is {f : GFrame} (hf : FOk f) {n : GNote} (ha : 0 ≤ n.fAt ∧ n.fAt ≤ 199) (hp : 0 ≤ n.fPitch ∧ n.fPitch ≤ 47) {x : GChoice} (hx : x ∈ allFor f n) {d : Arr 96 Int} (hd : DIn d) :
    impl_Frame_canPut f d n x = some (putV f n x d).isSome := by
  simp only [impl_Frame_canPut, putV]
  cases hw : x.fAway with
  | true => simp
  | false =>
    have pl := place_of hf ha hp hx hw
    simp only [pl.at_, pl.tr, isFree_is hf hd pl.hs pl.ht, Option.bind_some, Bool.false_eq_true, if_false]
    cases freeB f d (n.fAt + x.fLate).toNat x.fTrack.toNat <;> simp
theorem puts_is {f : GFrame} (hf : FOk f) {n : GNote} (ha : 0 ≤ n.fAt ∧ n.fAt ≤ 199) (hp : 0 ≤ n.fPitch ∧ n.fPitch ≤ 47) {x : GChoice} (hx : x ∈ allFor f n) {d : Arr 96 Int} (hd : DIn d) {d' : Arr 96 Int} (h : putV f n x d = some d') :
    impl_Drum_puts d n x = some d' := by
  have hs1 := hf.s1; have hh1 := hf.h1
  unfold putV at h
  simp only [impl_Drum_puts]
  cases hw : x.fAway with
  | true => rw [hw] at h; simp at h; simp [h]
  | false =>
    have pl := place_of hf ha hp hx hw
    have h1 := pl.hs; have h2 := pl.ht
    rw [hw] at h
    simp only [Bool.false_eq_true, if_false] at h
    simp only [Bool.not_false, if_true, pl.at_, pl.tr, putTrue hd (show (n.fAt + x.fLate).toNat < 96 by omega) (show x.fTrack.toNat < 32 by omega), Option.bind_some]
    split at h
    · exact h
    · cases h
/-! ### the whole list -/
def fitP (f : GFrame) (t : List GNote) (list : List GChoice) (k : Nat) (d : Arr 96 Int) : Option (Arr 96 Int) := match t[k]?, list[k]? with
  | some n, some x => if x ∈ allFor f n then putV f n x d else none
  | _, _ => none
def fitV (f : GFrame) (t : List GNote) (list : List GChoice) : Arr 96 Int ⊕ Nat := tryN (fitP f t list) 0 (Arr.rep 96 0) t.length
theorem fitP_in {f : GFrame} (hf : FOk f) {t : List GNote} (ht : TOk t) {list : List GChoice} {k : Nat} (hk : k < t.length) {d : Arr 96 Int} (hd : DIn d) {d' : Arr 96 Int} (h : fitP f t list k d = some d') : DIn d' := by
  unfold fitP at h
  rw [List.getElem?_eq_getElem hk] at h
  have hn := ht.nt _ (List.getElem_mem hk)
  cases hx : list[k]? with
  | none => rw [hx] at h; cases h
  | some x =>
    rw [hx] at h
    simp only at h
    split at h
    · rename_i hm
      exact putV_in hf (by omega) (by omega) hm hd h
    · cases h
theorem implFit {f : GFrame} (hf : FOk f) {t : List GNote} (ht : TOk t) {list : List GChoice} (hl : list.length = t.length) :
    impl_Frame_fit f t list = some (match fitV f t list with | .inl d => (d, (list.length : Int)) | .inr k => (Arr.rep 96 0, (k : Int))) := by
  have htl := ht.len
  obtain ⟨h1, _, _⟩ := loop_try (f := impl_Frame_fit.l_5 f t list) t.length (by omega) DIn (fitP f t list) (fun k => (.inl (Arr.rep 96 0, (k : Int)) : (Arr 96 Int × Int) ⊕ Arr 96 Int)) (fun d => .inr d)
    (fun k d hk hd => ⟨by
      have hkl : k < list.length := by omega
      have hn := ht.nt _ (List.getElem_mem hk)
      simp only [impl_Frame_fit.l_5, ix_lt hkl, ix_lt hk, Option.bind_some, choices_is hf (show 0 ≤ t[k].fPitch by omega) (show t[k].fPitch ≤ 47 by omega), contains_is _ _ (show (allFor f t[k]).length ≤ 9223372036854775807 by have := allFor_len f t[k] hf.h1; omega)]
      rw [if_pos (by simpa using hkl)]
      unfold fitP
      rw [List.getElem?_eq_getElem hk, List.getElem?_eq_getElem hkl]
      simp only
      by_cases hm : list[k] ∈ allFor f t[k]
      · rw [if_pos hm]
        simp only [decide_eq_true hm, Bool.not_true, Bool.false_eq_true, if_false, canPut_is hf (show 0 ≤ t[k].fAt ∧ t[k].fAt ≤ 199 by omega) (by omega) hm hd, Option.bind_some, impl_Frame_fit.k_9]
        cases hp : putV f t[k] list[k] d with
        | none => simp
        | some d' => simp [ix_lt hk, puts_is hf (show 0 ≤ t[k].fAt ∧ t[k].fAt ≤ 199 by omega) (by omega) hm hd hp]
      · rw [if_neg hm]
        simp [decide_eq_false hm, impl_Frame_fit.k_9], fun d' h => fitP_in hf ht hk hd h⟩)
    (fun d hd => by simp [impl_Frame_fit.l_5, hl]) _ DIn_rep
  simp only [impl_Frame_fit, h1, Option.bind_some, fitV]
  cases tryN (fitP f t list) 0 (Arr.rep 96 0) t.length <;> simp [impl_Frame_fit.k_2]
theorem l07Fit_is {f : GFrame} (hf : FOk f) {t : List GNote} (ht : TOk t) {list : List GChoice} (hl : list.length = t.length) :
    spec_l07Fit f t list = some (match fitV f t list with | .inl d => (d, -1) | .inr k => (Arr.rep 96 0, (k : Int))) := by
  have htl := ht.len
  obtain ⟨h1, _, _⟩ := loop_try (f := spec_l07Fit.l_5 f t list) t.length (by omega) DIn (fitP f t list) (fun k => (.inl (Arr.rep 96 0, (k : Int)) : (Arr 96 Int × Int) ⊕ Arr 96 Int)) (fun d => .inr d)
    (fun k d hk hd => ⟨by
      have hkl : k < list.length := by omega
      have hn := ht.nt _ (List.getElem_mem hk)
      simp only [spec_l07Fit.l_5, ix_lt hk, Option.bind_some, l07For_is hf, specContains list k hkl _ (show (allFor f t[k]).length ≤ 9223372036854775807 by have := allFor_len f t[k] hf.h1; omega)]
      rw [if_pos (by simpa using hk)]
      unfold fitP
      rw [List.getElem?_eq_getElem hk, List.getElem?_eq_getElem hkl]
      simp only
      by_cases hm : list[k] ∈ allFor f t[k]
      · rw [if_pos hm]
        simp only [decide_eq_true hm, spec_l07Fit.k_10, Bool.not_true, Bool.false_eq_true, if_false, ix_lt hk, ix_lt hkl, l07Put_is hf (show 0 ≤ t[k].fAt ∧ t[k].fAt ≤ 199 by omega) (show 0 ≤ t[k].fPitch ∧ t[k].fPitch ≤ 47 by omega) hm hd, Option.bind_some]
        cases hp : putV f t[k] list[k] d with
        | none => simp [spec_l07Fit.k_13]
        | some d' => simp [spec_l07Fit.k_13]
      · rw [if_neg hm]
        simp [decide_eq_false hm, spec_l07Fit.k_10, spec_l07Fit.k_13], fun d' h => fitP_in hf ht hk hd h⟩)
    (fun d hd => by simp [spec_l07Fit.l_5]) _ DIn_rep
  simp only [spec_l07Fit, h1, Option.bind_some, fitV]
  cases tryN (fitP f t list) 0 (Arr.rep 96 0) t.length <;> simp [spec_l07Fit.k_2]
theorem fitV_lt {f : GFrame} (hf : FOk f) {t : List GNote} (ht : TOk t) {list : List GChoice} {k : Nat} (h : fitV f t list = .inr k) : k < t.length := by
  have key : ∀ m k d j, tryN (fitP f t list) k d m = .inr j → j < k + m := by
    intro m
    induction m with
    | zero => intro k d j e; simp [tryN] at e
    | succ m ih =>
      intro k d j e
      simp only [tryN] at e
      split at e
      · cases e; omega
      · have := ih _ _ _ e; omega
  have := key _ _ _ _ h
  omega
/-! ### what is asked -/
def choiceB (x : GChoice) : Bool := if x.fAway = true then (x.fLate == 0) && ((x.fOctave == 0) && (x.fTrack == 0)) else (decide (w64 x.fLate ≥ -3) && decide (w64 x.fLate ≤ 3)) && ((decide (w64 x.fOctave ≥ -1) && decide (w64 x.fOctave ≤ 1)) && (decide (w64 x.fTrack ≥ 0) && decide (w64 x.fTrack ≤ 23)))
theorem l07Choice_is (x : GChoice) : spec_l07Choice x = some (choiceB x) := by
  unfold spec_l07Choice choiceB
  cases h : x.fAway with
  | true => simp
  | false =>
    simp only [spec_l00In, Option.bind_some, Bool.false_eq_true, if_false]
    cases (decide (w64 x.fLate ≥ -3) && decide (w64 x.fLate ≤ 3)) <;> cases (decide (w64 x.fOctave ≥ -1) && decide (w64 x.fOctave ≤ 1)) <;> simp
theorem validChoice_is (x : GChoice) : impl_ValidChoice x = some (choiceB x) := by
  unfold impl_ValidChoice choiceB
  cases h : x.fAway with
  | true => simp
  | false =>
    simp only [impl_within, Option.bind_some, Bool.false_eq_true, if_false]
    cases (decide (w64 x.fLate ≥ -3) && decide (w64 x.fLate ≤ 3)) <;> cases (decide (w64 x.fOctave ≥ -1) && decide (w64 x.fOctave ≤ 1)) <;> simp
theorem l07Choices_is (list : List GChoice) (h : list.length ≤ 9223372036854775807) : spec_l07Choices list = some (list.all choiceB) := by
  simp only [spec_l07Choices]
  rw [loop_all (f := spec_l07Choices.l_3 list) list choiceB h (fun k hk => by
    simp only [spec_l07Choices.l_3, ix_lt hk, Option.bind_some, l07Choice_is]
    rw [if_pos (by simpa using hk)]
    cases choiceB list[k] <;> simp) (by simp [spec_l07Choices.l_3])]
  cases list.all choiceB <;> simp [spec_l07Choices.k_1]
theorem choicesCode_is (list : List GChoice) (h : list.length ≤ 9223372036854775807) : impl_choicesCode list = some (if list.all choiceB = true then 0 else 1) := by
  obtain ⟨t, ht, hq⟩ := loop_find (f := slices_IndexFunc_Choice_at_impl_choicesCode_1.l_3 list) list (fun x => !(choiceB x)) h (fun k hk => by
    simp only [slices_IndexFunc_Choice_at_impl_choicesCode_1.l_3, ix_lt hk, Option.bind_some, impl_choicesCode_1, validChoice_is]
    rw [if_pos (by simpa using hk)]
    cases choiceB list[k] <;> simp) (by simp [slices_IndexFunc_Choice_at_impl_choicesCode_1.l_3])
  simp only [impl_choicesCode, slices_ContainsFunc_Choice_at_impl_choicesCode_1, slices_IndexFunc_Choice_at_impl_choicesCode_1, ht, Option.bind_some, unless_is]
  rcases hq with ⟨hany, k, rfl, _⟩ | ⟨hany, rfl⟩
  · rw [any_not] at hany
    have : list.all choiceB = false := by simpa using hany
    rw [this]; simp
  · rw [any_not] at hany
    have : list.all choiceB = true := by simpa using hany
    rw [this]; simp [slices_IndexFunc_Choice_at_impl_choicesCode_1.k_1]
theorem firstOf2' (a b : Int) : impl_firstOf [a, b] = some (if a ≠ 0 then a else b) := by
  simp only [impl_firstOf]
  rw [loop_eq]
  by_cases ha : a = 0
  · rw [show impl_firstOf.l_3 [a, b] 0 = some (.inl 1) by simp [impl_firstOf.l_3, ix, ha, w64_in]]
    simp only
    rw [loop_eq]
    by_cases hb : b = 0
    · rw [show impl_firstOf.l_3 [a, b] 1 = some (.inl 2) by simp [impl_firstOf.l_3, ix, hb, w64_in]]
      simp only
      rw [loop_eq, show impl_firstOf.l_3 [a, b] 2 = some (.inr (.inr ())) by simp [impl_firstOf.l_3]]
      simp [ha, hb, impl_firstOf.k_1]
    · rw [show impl_firstOf.l_3 [a, b] 1 = some (.inr (.inl b)) by simp [impl_firstOf.l_3, ix, hb]]
      simp [ha]
  · rw [show impl_firstOf.l_3 [a, b] 0 = some (.inr (.inl a)) by simp [impl_firstOf.l_3, ix, ha]]
    simp [ha]
theorem first3 (a b c : Int) : impl_firstOf [a, b, c] = some (if a ≠ 0 then a else if b ≠ 0 then b else c) := by
  simp only [impl_firstOf]
  rw [loop_eq]
  by_cases ha : a = 0
  · rw [show impl_firstOf.l_3 [a, b, c] 0 = some (.inl 1) by simp [impl_firstOf.l_3, ix, ha, w64_in]]
    simp only
    rw [loop_eq]
    by_cases hb : b = 0
    · rw [show impl_firstOf.l_3 [a, b, c] 1 = some (.inl 2) by simp [impl_firstOf.l_3, ix, hb, w64_in]]
      simp only
      rw [loop_eq]
      by_cases hc : c = 0
      · rw [show impl_firstOf.l_3 [a, b, c] 2 = some (.inl 3) by simp [impl_firstOf.l_3, ix, hc, w64_in]]
        simp only
        rw [loop_eq, show impl_firstOf.l_3 [a, b, c] 3 = some (.inr (.inr ())) by simp [impl_firstOf.l_3]]
        simp [ha, hb, hc, impl_firstOf.k_1]
      · rw [show impl_firstOf.l_3 [a, b, c] 2 = some (.inr (.inl c)) by simp [impl_firstOf.l_3, ix, hc]]
        simp [ha, hb]
    · rw [show impl_firstOf.l_3 [a, b, c] 1 = some (.inr (.inl b)) by simp [impl_firstOf.l_3, ix, hb]]
      simp [ha, hb]
  · rw [show impl_firstOf.l_3 [a, b, c] 0 = some (.inr (.inl a)) by simp [impl_firstOf.l_3, ix, ha]]
    simp [ha]
theorem tuneFrameCode_is {f : GFrame} (hl : f.fHammers.length ≤ 9223372036854775807) {t : List GNote} (ht : t.length ≤ 9223372036854775807) (hn : ∀ n ∈ t, NIn n) {list : List GChoice} (hc : list.length ≤ 9223372036854775807) :
    impl_tuneFrameCode f t list = some (if frameB f = true ∧ tuneB t = true ∧ list.all choiceB = true then 0 else 1) := by
  simp only [impl_tuneFrameCode, validFrame_is f hl, Option.bind_some, unless_is, tuneCode1 ht hn, choicesCode_is list hc, first3]
  cases frameB f <;> cases tuneB t <;> cases list.all choiceB <;> simp
def askedB (f : GFrame) (t : List GNote) (list : List GChoice) : Int := if frameB f = true ∧ tuneB t = true ∧ list.all choiceB = true then (if list.length = t.length then 0 else 2) else 1
theorem l07Asked_is {f : GFrame} (hl : f.fHammers.length ≤ 9223372036854775807) {t : List GNote} (ht : t.length ≤ 9223372036854775807) (hn : ∀ n ∈ t, NIn n) {list : List GChoice} (hc : list.length ≤ 9223372036854775807) :
    spec_l07Asked f t list = some (askedB f t list) := by
  simp only [spec_l07Asked, l02Frame_is f hl, Option.bind_some, l01Ok_is ht hn, l07Choices_is list hc, spec_l07Asked.k_2, askedB]
  by_cases e : list.length = t.length
  · rw [e]
    cases frameB f <;> cases tuneB t <;> cases list.all choiceB <;> simp
  · have e2 : ¬ ((list.length : Int) = (t.length : Int)) := by omega
    cases frameB f <;> cases tuneB t <;> cases list.all choiceB <;> simp [e, e2]
theorem asked0 {f : GFrame} {t : List GNote} {list : List GChoice} (h : askedB f t list = 0) : frameB f = true ∧ tuneB t = true ∧ list.length = t.length := by
  unfold askedB at h
  split at h
  · rename_i hc
    split at h
    · rename_i hl; exact ⟨hc.1, hc.2.1, hl⟩
    · cases h
  · cases h
theorem fitted_is {f : GFrame} (hi : FIn f) (hl : f.fHammers.length ≤ 9223372036854775807) {t : List GNote} (ht : t.length ≤ 9223372036854775807) (hn : ∀ n ∈ t, NIn n) {list : List GChoice} (hc : list.length ≤ 9223372036854775807) :
    impl_fitted f t list = some (if askedB f t list = 0 then (match fitV f t list with | .inl d => (d, (t.length : Int), 0) | .inr k => (Arr.rep 96 0, (k : Int), 4)) else (Arr.rep 96 0, 0, askedB f t list)) := by
  simp only [impl_fitted, tuneFrameCode_is hl ht hn hc, Option.bind_some, unless_is, firstOf2']
  have e : (if ((if frameB f = true ∧ tuneB t = true ∧ list.all choiceB = true then 0 else 1) : Int) ≠ 0 then (if frameB f = true ∧ tuneB t = true ∧ list.all choiceB = true then (0 : Int) else 1) else (if ((list.length : Int) == (t.length : Int)) = true then 0 else 2)) = askedB f t list := by
    unfold askedB
    by_cases c : frameB f = true ∧ tuneB t = true ∧ list.all choiceB = true
    · simp only [if_pos c]
      by_cases c2 : list.length = t.length
      · rw [if_pos c2]; simp [c2]
      · rw [if_neg c2]; simp; omega
    · simp only [if_neg c]; simp
  rw [e]
  by_cases h0 : askedB f t list = 0
  · obtain ⟨a1, a2, a3⟩ := asked0 h0
    have hf := frameB_ok a1 hi
    have htk := tuneB_ok a2
    rw [if_pos h0, h0, if_neg (by simp)]
    simp only [implFit hf htk a3, Option.bind_some]
    cases hv : fitV f t list with
    | inl d => simp [a3]
    | inr k =>
      have := fitV_lt hf htk hv
      simp
      omega
  · rw [if_neg h0, if_pos (by simpa using h0)]
def drumV (f : GFrame) (t : List GNote) (list : List GChoice) : Arr 96 Int × Int := if askedB f t list = 0 then (match fitV f t list with | .inl d => (d, 0) | .inr _ => (Arr.rep 96 0, 4)) else (Arr.rep 96 0, askedB f t list)
theorem l07Drum_is {f : GFrame} (hi : FIn f) (hl : f.fHammers.length ≤ 9223372036854775807) {t : List GNote} (ht : t.length ≤ 9223372036854775807) (hn : ∀ n ∈ t, NIn n) {list : List GChoice} (hc : list.length ≤ 9223372036854775807) :
    spec_l07Drum f t list = some (drumV f t list) := by
  simp only [spec_l07Drum, l07Asked_is hl ht hn hc, Option.bind_some, drumV]
  by_cases h0 : askedB f t list = 0
  · obtain ⟨a1, a2, a3⟩ := asked0 h0
    rw [if_pos h0, h0]
    simp only [l07Fit_is (frameB_ok a1 hi) (tuneB_ok a2) a3, Option.bind_some]
    cases fitV f t list with
    | inl d => simp
    | inr k => simp
  · rw [if_neg h0, if_pos (by simpa using h0)]
theorem asked2 {f : GFrame} {t : List GNote} {list : List GChoice} (h0 : ¬ askedB f t list = 0) (h1 : ¬ askedB f t list = 1) : askedB f t list = 2 := by
  unfold askedB at h0 h1 ⊢
  by_cases c : frameB f = true ∧ tuneB t = true ∧ list.all choiceB = true
  · rw [if_pos c] at h0 h1 ⊢
    by_cases c2 : list.length = t.length
    · rw [if_pos c2] at h0; exact absurd rfl h0
    · rw [if_neg c2]
  · rw [if_neg c] at h1; exact absurd rfl h1
theorem fitV_in {f : GFrame} (hf : FOk f) {t : List GNote} (ht : TOk t) {list : List GChoice} {d : Arr 96 Int} (h : fitV f t list = .inl d) : DIn d := by
  have key : ∀ m k a, k + m ≤ t.length → DIn a → ∀ b, tryN (fitP f t list) k a m = .inl b → DIn b := by
    intro m
    induction m with
    | zero => intro k a _ ha b e; simp only [tryN] at e; cases e; exact ha
    | succ m ih =>
      intro k a hk ha b e
      simp only [tryN] at e
      split at e
      · cases e
      · rename_i a' he
        exact ih (k + 1) a' (by omega) (fitP_in hf ht (by omega) ha he) b e
  exact key t.length 0 _ (by omega) DIn_rep d h

end Go.Proofs.YtplklknkkaeniaaGreatDoor
