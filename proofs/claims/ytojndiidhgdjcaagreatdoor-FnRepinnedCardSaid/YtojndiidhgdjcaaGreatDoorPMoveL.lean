/- Moves between drums: what they are, how many, and that they lead from one drum to the other. -/
import Derived.Test.YtojndiidhgdjcaaGreatDoorT
import Derived.Test.YtojndiidhgdjcaaGreatDoorPFrame
import Derived.Test.YtojndiidhgdjcaaGreatDoorPDrum
import Derived.Test.YtojndiidhgdjcaaGreatDoorPCodes
import Derived.Test.YtojndiidhgdjcaaGreatDoorPPut
import Derived.Test.YtojndiidhgdjcaaGreatDoorPPlc
import Derived.Test.YtojndiidhgdjcaaGreatDoorPBits
import Derived.Test.YtojndiidhgdjcaaGreatDoorPCost
import Derived.Test.YtojndiidhgdjcaaGreatDoorPChList
import Derived.Test.YtojndiidhgdjcaaGreatDoorPClash
import Derived.Test.YtojndiidhgdjcaaGreatDoorPure
namespace Go.Proofs.YtojndiidhgdjcaaGreatDoor
open Eng
set_option linter.unusedVariables false
set_option linter.unusedSimpArgs false

theorem pA_inj {s t s' t' : Nat} (h : pA s t = pA s' t') : s = s' ∧ t = t' := by
  have h1 := (pA_at s t).1
  have h2 := (pA_at s t).2
  rw [h] at h1 h2
  rw [(pA_at s' t').1] at h1
  rw [(pA_at s' t').2] at h2
  have h1 := Option.some.inj h1
  have h2 := Option.some.inj h2
  omega
theorem pr_mem {f : GFrame} {d : Arr 96 Int} {p : Arr 2 Int} (h : p ∈ prL f d) : ∃ s t : Nat, s < f.fSteps.toNat ∧ t < f.fHammers.length ∧ pin d s t = true ∧ p = pA s t := by
  unfold prL prRow at h
  obtain ⟨s, hs, h⟩ := List.mem_flatMap.1 h
  obtain ⟨t, ht, h⟩ := List.mem_flatMap.1 h
  rw [List.mem_range] at hs ht
  unfold pr1 at h
  split at h
  · rename_i hc
    rw [List.mem_singleton] at h
    exact ⟨s, t, hs, ht, hc, h⟩
  · cases h
theorem pr_mem_of {f : GFrame} {d : Arr 96 Int} {s t : Nat} (hs : s < f.fSteps.toNat) (ht : t < f.fHammers.length) (h : pin d s t = true) : pA s t ∈ prL f d := by
  unfold prL prRow
  refine List.mem_flatMap.2 ⟨s, List.mem_range.2 hs, List.mem_flatMap.2 ⟨t, List.mem_range.2 ht, ?_⟩⟩
  unfold pr1
  rw [if_pos h]
  simp
theorem pr_apart (f : GFrame) (d : Arr 96 Int) : (prL f d).Pairwise fun x y => x ≠ y := by
  unfold prL
  rw [List.pairwise_flatMap]
  constructor
  · intro s _
    unfold prRow
    rw [List.pairwise_flatMap]
    constructor
    · intro t _
      unfold pr1
      split <;> simp
    · refine List.Pairwise.imp ?_ List.pairwise_lt_range
      intro t1 t2 h12 x hx y hy
      unfold pr1 at hx hy
      split at hx
      · split at hy
        · rw [List.mem_singleton] at hx hy
          subst hx hy
          intro h
          have := (pA_inj h).2
          omega
        · cases hy
      · cases hx
  · refine List.Pairwise.imp ?_ List.pairwise_lt_range
    intro s1 s2 h12 x hx y hy
    unfold prRow at hx hy
    obtain ⟨t1, _, hx⟩ := List.mem_flatMap.1 hx
    obtain ⟨t2, _, hy⟩ := List.mem_flatMap.1 hy
    unfold pr1 at hx hy
    split at hx
    · split at hy
      · rw [List.mem_singleton] at hx hy
        subst hx hy
        intro h
        have := (pA_inj h).1
        omega
      · cases hy
    · cases hx
theorem pr_count {f : GFrame} (hf : FOk f) {d : Arr 96 Int} (hd : ∀ s t, pin d s t = true → (s : Int) < f.fSteps ∧ t < f.fHammers.length) : (prL f d).length = cntD d := by
  have h1 := hf.h1; have h2 := hf.s1; have h3 := hf.s0
  have e : prL f d = (List.range 96).flatMap fun s => (List.range 32).flatMap (pr1 d s) := by
    unfold prL
    rw [range_trim (m := 96) (n := f.fSteps.toNat) (fun s => (List.range 32).flatMap (pr1 d s)) (by omega) (fun s hs1 hs2 => ?_)]
    · refine flatMap_ext fun s hs => ?_
      unfold prRow
      rw [range_trim (m := 32) (n := f.fHammers.length) _ (by omega) (fun t ht1 ht2 => ?_)]
      unfold pr1
      rw [if_neg]
      intro h
      have := (hd s t h).2
      omega
    · rw [range_trim (m := 32) (n := 0) _ (by omega) (fun t _ _ => ?_)]
      · rfl
      · unfold pr1
        rw [if_neg]
        intro h
        have := (hd s t h).1
        omega
  rw [e, len_flatMap]
  unfold cntD
  refine sR_ext 96 fun s _ => ?_
  rw [len_flatMap, ← sR_ones]
  refine sR_ext 32 fun t _ => ?_
  unfold pr1
  split <;> rfl
theorem less_pin {a b d : Arr 96 Int} (hp : ∀ s t, s < 96 → pin d s t = (pin a s t && !pin b s t)) (s t : Nat) : pin d s t = true ↔ pin a s t = true ∧ pin b s t = false := by
  by_cases hs : s < 96
  · rw [hp s t hs]; simp
  · have no : ∀ x : Arr 96 Int, pin x s t = false := fun x => by
      unfold pin row'
      rw [List.getElem?_eq_none (by rw [x.2]; omega)]
      simp
    rw [no d, no a]; simp
theorem cnt_beyond {a b d : Arr 96 Int} (hp : ∀ s t, s < 96 → pin d s t = (pin a s t && !pin b s t)) : cntD d = beyond a b := sR_ext 96 fun s hs => cR_ext 32 fun t _ => hp s t hs
/-- what a drum is behind the first of some moves -/
theorem moved_last {f : GFrame} {a b d e : Arr 96 Int} (ha : VD f a) (hb : VD f b) (hd : ∀ s t, s < 96 → pin d s t = (pin a s t && !pin b s t)) (he : ∀ s t, s < 96 → pin e s t = (pin b s t && !pin a s t)) (s t : Nat) :
    pA s t ∈ prL f d ++ prL f e ↔ pin a s t ≠ pin b s t := by
  rw [List.mem_append]
  constructor
  · rintro (h | h)
    · obtain ⟨s', t', _, _, h1, h2⟩ := pr_mem h
      obtain ⟨rfl, rfl⟩ := pA_inj h2
      obtain ⟨h3, h4⟩ := (less_pin hd s t).1 h1
      rw [h3, h4]; simp
    · obtain ⟨s', t', _, _, h1, h2⟩ := pr_mem h
      obtain ⟨rfl, rfl⟩ := pA_inj h2
      obtain ⟨h3, h4⟩ := (less_pin he s t).1 h1
      rw [h3, h4]; simp
  · intro h
    cases h1 : pin a s t with
    | true =>
      rw [h1] at h
      have h2 : pin b s t = false := by cases hb2 : pin b s t <;> simp_all
      have := ha.in_ s t h1
      exact .inl (pr_mem_of (by omega) this.2 ((less_pin hd s t).2 ⟨h1, h2⟩))
    | false =>
      rw [h1] at h
      have h2 : pin b s t = true := by cases hb2 : pin b s t <;> simp_all
      have := hb.in_ s t h2
      exact .inr (pr_mem_of (by omega) this.2 ((less_pin he s t).2 ⟨h2, h1⟩))
theorem moves_apart {f : GFrame} {a b d e : Arr 96 Int} (hd : ∀ s t, s < 96 → pin d s t = (pin a s t && !pin b s t)) (he : ∀ s t, s < 96 → pin e s t = (pin b s t && !pin a s t)) : (prL f d ++ prL f e).Pairwise fun x y => x ≠ y := by
  rw [List.pairwise_append]
  refine ⟨pr_apart f d, pr_apart f e, fun x hx y hy h => ?_⟩
  obtain ⟨s, t, _, _, h1, rfl⟩ := pr_mem hx
  obtain ⟨s', t', _, _, h2, rfl⟩ := pr_mem hy
  obtain ⟨rfl, rfl⟩ := pA_inj h
  have h3 := (less_pin hd s t).1 h1
  have h4 := (less_pin he s t).1 h2
  rw [h3.1] at h4
  cases h4.2

end Go.Proofs.YtojndiidhgdjcaaGreatDoor
