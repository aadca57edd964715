/- Fitting the chosen notes into a drum: whether a place is free, a note put, and the whole list; the program's fit is the reference's. -/
import Derived.Test.YtgmmeokkgcbkdaaGreatDoorM0
import Derived.Test.YtgmmeokkgcbkdaaGreatDoorPFrame
import Derived.Test.YtgmmeokkgcbkdaaGreatDoorPDrum
import Derived.Test.YtgmmeokkgcbkdaaGreatDoorPPut
import Derived.Test.YtgmmeokkgcbkdaaGreatDoorPTune
import Derived.Test.YtgmmeokkgcbkdaaGreatDoorPChoices
import Derived.Test.YtgmmeokkgcbkdaaGreatDoorPure
namespace Go.Proofs.YtgmmeokkgcbkdaaGreatDoor
open Eng
set_option linter.unusedVariables false
set_option linter.unusedSimpArgs false

/-! ### a walk that may fall -/
/-! ### whether a place is free -/
def clearB (P : Nat → Bool) (r : Nat) : Bool := (List.range r).all fun i => decide (i = 0) || !(P i)
theorem clearB_iff (P : Nat → Bool) (r : Nat) : clearB P r = true ↔ ∀ i, 1 ≤ i → i < r → P i = false := by
  unfold clearB
  rw [List.all_eq_true]
  constructor
  · intro h i h1 h2
    have := h i (by simpa using h2)
    simp only [Bool.or_eq_true, decide_eq_true_eq, Bool.not_eq_true'] at this
    rcases this with h | h
    · omega
    · exact h
  · intro h i hi
    simp only [Bool.or_eq_true, decide_eq_true_eq, Bool.not_eq_true']
    by_cases h0 : i = 0
    · exact .inl h0
    · exact .inr (h i (by omega) (by simpa using hi))
def fwd (f : GFrame) (d : Arr 96 Int) (s t i : Nat) : Bool := pin d ((s + i) % f.fSteps.toNat) t
def bwd (f : GFrame) (d : Arr 96 Int) (s t i : Nat) : Bool := pin d ((s + f.fSteps.toNat - i) % f.fSteps.toNat) t
def readyN (f : GFrame) (t : Nat) : Nat := ((f.fHammers[t]?.map GHammer.fReady).getD 0).toNat
def freeB (f : GFrame) (d : Arr 96 Int) (s t : Nat) : Bool := !(pin d s t) && (clearB (fwd f d s t) (readyN f t) && clearB (bwd f d s t) (readyN f t))
theorem fwd_ix {f : GFrame} (hf : FOk f) {s i : Nat} (hs : s < 96) (hi : i < 96) : Int.tmod (w64 ((s : Int) + (i : Int))) (w64 f.fSteps) = (((s + i) % f.fSteps.toNat : Nat) : Int) ∧ (s + i) % f.fSteps.toNat < 96 := by
  have hs0 := hf.s0; have hs1 := hf.s1
  have e : w64 f.fSteps = (f.fSteps.toNat : Int) := by rw [w64_in (by omega) (by omega)]; omega
  have := Nat.mod_lt (s + i) (show 0 < f.fSteps.toNat by omega)
  rw [w64_in (n := (s : Int) + (i : Int)) (by omega) (by omega), e, show (s : Int) + (i : Int) = ((s + i : Nat) : Int) by omega, tmod_nat]
  exact ⟨rfl, by omega⟩
theorem bwd_ix {f : GFrame} (hf : FOk f) {s i : Nat} (hs : s < 96) (hi : i ≤ f.fSteps.toNat) : Int.tmod (w64 (w64 ((s : Int) + w64 f.fSteps) - (i : Int))) (w64 f.fSteps) = (((s + f.fSteps.toNat - i) % f.fSteps.toNat : Nat) : Int) ∧ (s + f.fSteps.toNat - i) % f.fSteps.toNat < 96 := by
  have hs0 := hf.s0; have hs1 := hf.s1
  have e : w64 f.fSteps = (f.fSteps.toNat : Int) := by rw [w64_in (by omega) (by omega)]; omega
  have := Nat.mod_lt (s + f.fSteps.toNat - i) (show 0 < f.fSteps.toNat by omega)
  rw [e, w64_in (n := (s : Int) + (f.fSteps.toNat : Int)) (by omega) (by omega), w64_in (n := (s : Int) + (f.fSteps.toNat : Int) - (i : Int)) (by omega) (by omega), show (s : Int) + (f.fSteps.toNat : Int) - (i : Int) = ((s + f.fSteps.toNat - i : Nat) : Int) by omega, tmod_nat]
  exact ⟨rfl, by omega⟩
theorem ham_at {f : GFrame} (hf : FOk f) {t : Nat} (ht : t < f.fHammers.length) : ix f.fHammers (t : Int) = some f.fHammers[t] ∧ w64 f.fHammers[t].fReady = (readyN f t : Int) ∧ 1 ≤ readyN f t ∧ readyN f t ≤ 20 ∧ readyN f t ≤ f.fSteps.toNat := by
  have h := hf.hp _ (List.getElem_mem ht)
  have hs0 := hf.s0
  have e : readyN f t = f.fHammers[t].fReady.toNat := by unfold readyN; rw [List.getElem?_eq_getElem ht]; rfl
  refine ⟨ix_lt ht, ?_, by omega, by omega, by omega⟩
  rw [w64_in (by omega) (by omega), e]; omega
theorem l02Free_is {f : GFrame} (hf : FOk f) {d : Arr 96 Int} (hd : DIn d) {s t : Nat} (hs : (s : Int) < f.fSteps) (ht : t < f.fHammers.length) : spec_l02Free f d (s : Int) (t : Int) = some (freeB f d s t) := by
  have hs0 := hf.s0; have hs1 := hf.s1; have hh1 := hf.h1
  obtain ⟨h1, h2, h3, h4, h5⟩ := ham_at hf ht
  have e : w64 f.fSteps = (f.fSteps.toNat : Int) := by rw [w64_in (by omega) (by omega)]; omega
  simp only [spec_l02Free, pin_is hd (show s < 96 by omega) (show t ≤ 32 by omega), Option.bind_some, h1, freeB]
  cases pin d s t with
  | true => simp
  | false =>
    obtain ⟨x, hx, hq⟩ := loop_inv (f := spec_l02Free.l_5 f d (s : Int) (t : Int) f.fHammers[t]) (fun x => ∃ k : Nat, 1 ≤ k ∧ k ≤ readyN f t ∧ x = (k : Int) ∧ ∀ i, 1 ≤ i → i < k → fwd f d s t i = false ∧ bwd f d s t i = false) (fun x => readyN f t - x.toNat)
      (fun x => (x = .inl false ∧ ¬ (clearB (fwd f d s t) (readyN f t) = true ∧ clearB (bwd f d s t) (readyN f t) = true)) ∨ (x = .inr () ∧ (clearB (fwd f d s t) (readyN f t) = true ∧ clearB (bwd f d s t) (readyN f t) = true))) (by
      rintro _ ⟨k, k1, k2, rfl, k3⟩
      simp only [clearB_iff]
      by_cases hk : k < readyN f t
      · obtain ⟨q1, q2⟩ := fwd_ix hf (show s < 96 by omega) (show k < 96 by omega)
        obtain ⟨q3, q4⟩ := bwd_ix hf (show s < 96 by omega) (show k ≤ f.fSteps.toNat by omega)
        have hz : w64 f.fSteps ≠ 0 := by rw [e]; omega
        have step : spec_l02Free.l_5 f d (s : Int) (t : Int) f.fHammers[t] (k : Int) = (if fwd f d s t k = true then some (.inr (.inl false)) else if bwd f d s t k = true then some (.inr (.inl false)) else some (.inl (w64 ((k : Int) + 1)))) := by
          simp only [spec_l02Free.l_5, h2, q1, q3, pin_is hd q2 (show t ≤ 32 by omega), pin_is hd q4 (show t ≤ 32 by omega), Option.bind_some, spec_l02Free.k_8]
          rw [if_pos (by rw [decide_eq_true_eq]; omega), if_pos hz]
          unfold fwd bwd
          cases pin d ((s + k) % f.fSteps.toNat) t
          · simp only [Bool.false_eq_true, if_false]
            rw [if_pos hz]
          · simp
        rw [step]
        cases hF : fwd f d s t k with
        | true =>
          right
          exact ⟨_, by simp, .inl ⟨rfl, fun h => by have := h.1 k k1 hk; rw [hF] at this; cases this⟩⟩
        | false =>
          cases hB : bwd f d s t k with
          | true =>
            right
            exact ⟨_, by simp, .inl ⟨rfl, fun h => by have := h.2 k k1 hk; rw [hB] at this; cases this⟩⟩
          | false =>
            left
            refine ⟨((k + 1 : Nat) : Int), by rw [w64_in (n := (k : Int) + 1) (by omega) (by omega)]; simp, ⟨k + 1, by omega, by omega, rfl, fun i hi hik => ?_⟩, by omega⟩
            by_cases hik2 : i = k
            · rw [hik2]; exact ⟨hF, hB⟩
            · exact k3 i hi (by omega)
      · right
        simp only [spec_l02Free.l_5, h2]
        rw [if_neg (by rw [decide_eq_true_eq]; omega)]
        exact ⟨_, rfl, .inr ⟨rfl, fun i hi hir => (k3 i hi (by omega)).1, fun i hi hir => (k3 i hi (by omega)).2⟩⟩) 1 ⟨1, by omega, by omega, rfl, fun i a b => by omega⟩
    rw [hx]
    simp only [Bool.false_eq_true, if_false, Option.bind_some]
    rcases hq with ⟨rfl, hn⟩ | ⟨rfl, hy⟩
    · simp only [Bool.not_false, Bool.true_and]
      congr 1
      symm
      rw [Bool.and_eq_false_iff, ← Bool.not_eq_true, ← Bool.not_eq_true]
      by_cases ha : clearB (fwd f d s t) (readyN f t) = true
      · exact .inr fun hb => hn ⟨ha, hb⟩
      · exact .inl ha
    · simp [hy.1, hy.2, spec_l02Free.k_3]
end Go.Proofs.YtgmmeokkgcbkdaaGreatDoor
