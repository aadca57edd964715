/- The cheapest lives: the program's answer is the reference's. -/
import Derived.Test.YtfkjghkjimcmdaaGreatM0
import Derived.Test.YtfkjghkjimcmdaaGreatM1
import Derived.Test.YtfkjghkjimcmdaaGreatM2
import Derived.Test.YtfkjghkjimcmdaaGreatPFrame
import Derived.Test.YtfkjghkjimcmdaaGreatPWear
import Derived.Test.YtfkjghkjimcmdaaGreatPEach
import Derived.Test.YtfkjghkjimcmdaaGreatPParts
import Derived.Test.YtfkjghkjimcmdaaGreatPFirst
import Derived.Test.YtfkjghkjimcmdaaGreatPTimes
import Derived.Test.YtfkjghkjimcmdaaGreatPure
namespace Go.Proofs.YtfkjghkjimcmdaaGreat
open Eng
set_option linter.unusedVariables false
set_option linter.unusedSimpArgs false

def pairB (p q n : Int) (vs : List GLives) : Bool := (decide (p ≥ 0) && decide (p ≤ 1000)) && ((decide (q ≥ 0) && decide (q ≤ 1000)) && (tuB n && (decide ((vs.length : Int) ≥ 1) && decide ((vs.length : Int) ≤ 20))))
theorem specAll (vs : List GLives) (h : vs.length ≤ 1048576) (b : Bool) : loop (spec_CheapestLives.l_24 vs) (b, 0) = some (b && vs.all livB) := by
  obtain ⟨t, ht, rfl⟩ := loop_inv (f := spec_CheapestLives.l_24 vs) (fun s => ∃ k : Nat, k ≤ vs.length ∧ s.2 = (k : Int) ∧ (s.1 = (b && (vs.take k).all livB))) (fun s => vs.length - s.2.toNat) (fun t => t = (b && vs.all livB)) (by
    rintro ⟨q, _⟩ ⟨k, hk, rfl, h2⟩
    simp only at h2
    by_cases c : k < vs.length ∧ q = true
    · left
      obtain ⟨c, rfl⟩ := c
      simp only [spec_CheapestLives.l_24, ix_lt c, Option.bind_some, l06Lives_is]
      rw [if_pos (by simpa using c), w64_in (n := (k : Int) + 1) (by omega) (by omega)]
      refine ⟨_, rfl, ⟨k + 1, by omega, by simp, ?_⟩, by simp; omega⟩
      rw [List.take_succ_eq_append_getElem c, List.all_append, ← Bool.and_assoc, ← h2]
      simp
    · right
      simp only [spec_CheapestLives.l_24]
      rw [if_neg (by simp only [Bool.and_eq_true, decide_eq_true_eq]; rintro ⟨a, b⟩; exact c ⟨by omega, b⟩)]
      refine ⟨q, rfl, ?_⟩
      by_cases hk2 : k < vs.length
      · have hq : q = false := by cases q <;> simp_all
        subst hq
        cases b with
        | false => rfl
        | true =>
          symm
          rw [Bool.true_and] at h2 ⊢
          cases hv : vs.all livB with
          | false => rfl
          | true =>
            rw [List.all_eq_true] at hv
            have : (vs.take k).all livB = true := List.all_eq_true.2 fun y hy => hv y (List.mem_of_mem_take hy)
            rw [this] at h2; cases h2
      · rw [List.take_of_length_le (by omega)] at h2
        exact h2) (b, 0) ⟨0, by omega, rfl, by simp⟩
  exact ht
theorem cheap_same (f : GFrame) (w : GWear) (p q n : Int) (vs : List GLives) (hi : FIn f) (hw : WIn w) (hf : f.fHammers.length ≤ 1048576) (hp : w.fPins.length ≤ 1048576) (hs : w.fStrokes.length ≤ 1048576) (hv : vs.length ≤ 1048576) :
    ∃ r, impl_CheapestLives f w p q n vs = some r ∧ spec_CheapestLives f w p q n vs = some r := by
  have e1 : impl_CheapestLives f w p q n vs = impl_CheapestLives.k_2 f w p q n vs (pairB p q n vs) := by
    simp only [impl_CheapestLives, impl_within, Option.bind_some, isMade_is, impl_size_Lives, pairB]
    cases hA : (decide (p ≥ 0) && decide (p ≤ 1000)) <;> cases hB : (decide (q ≥ 0) && decide (q ≤ 1000)) <;> cases tuB n <;> simp
  have e2 : spec_CheapestLives f w p q n vs = if wearB f w = true ∧ vs.all livB = true then spec_CheapestLives.k_5 w p q n vs (!(pairB p q n vs)) else some (0, 0, 1) := by
    simp only [spec_CheapestLives, l06Ok_is f w hf hp hs, Option.bind_some, specAll vs hv, spec_CheapestLives.k_3, spec_l00In, l06Turns_is, pairB]
    cases wearB f w <;> cases vs.all livB <;> cases hA : (decide (p ≥ 0) && decide (p ≤ 1000)) <;> cases hB : (decide (q ≥ 0) && decide (q ≤ 1000)) <;> cases tuB n <;> simp
  rw [e1, e2]
  simp only [impl_CheapestLives.k_2, wearCode_is f w hf hp hs vs (by omega), Option.bind_some, unless_is, firstOf2, spec_CheapestLives.k_5]
  by_cases c : wearB f w = true ∧ vs.all livB = true
  · have hok := wearB_ok c.1 hi hw
    simp only [if_pos c]
    cases hpb : pairB p q n vs with
    | false => exact ⟨(0, 0, 2), by simp, by simp⟩
    | true =>
      have hh := hpb
      unfold pairB at hh
      simp only [Bool.and_eq_true, decide_eq_true_eq] at hh
      obtain ⟨_, _, ht, h1, h20⟩ := hh
      have ht' : 0 ≤ n ∧ n ≤ 1000000 := by unfold tuB at ht; simpa using ht
      have step : ∀ s : Int × Int × Int, impl_CheapestLives.l_12 f w p q n vs s = spec_CheapestLives.l_12 w p q n vs s := by
        rintro ⟨a, b, k⟩
        simp only [impl_CheapestLives.l_12, spec_CheapestLives.l_12]
        by_cases hk : decide (k < (vs.length : Int)) = true
        · rw [if_pos hk, if_pos hk]
          cases hx : ix vs k with
          | none => rfl
          | some y =>
            have hy : livB y = true := List.all_eq_true.1 c.2 y (List.mem_of_getElem? (ix_some hx).2.2)
            simp only [Option.bind_some, partsFor_is hi hw hf hp hs n, if_pos (And.intro c.1 hy), if_pos ht, l06Parts_is hok hp hy ht'.1 ht'.2]
            rfl
        · rw [if_neg hk, if_neg hk]
      have hl : loop (impl_CheapestLives.l_12 f w p q n vs) (-1, 0, 0) = loop (spec_CheapestLives.l_12 w p q n vs) (-1, 0, 0) := by
        congr 1; funext s; exact step s
      obtain ⟨⟨a, b⟩, hr⟩ : ∃ r, loop (spec_CheapestLives.l_12 w p q n vs) (-1, 0, 0) = some r := by
        obtain ⟨t, ht2, _⟩ := loop_inv (f := spec_CheapestLives.l_12 w p q n vs) (fun s => ∃ k : Nat, k ≤ vs.length ∧ s.2.2 = (k : Int)) (fun s => vs.length - s.2.2.toNat) (fun _ => True) (by
          rintro ⟨a, b, _⟩ ⟨k, hk, rfl⟩
          by_cases hlt : k < vs.length
          · left
            have hy : livB vs[k] = true := List.all_eq_true.1 c.2 _ (List.getElem_mem hlt)
            simp only [spec_CheapestLives.l_12, ix_lt hlt, Option.bind_some, l06Parts_is hok hp hy ht'.1 ht'.2, spec_CheapestLives.k_17]
            rw [if_pos (by simpa using hlt), w64_in (n := (k : Int) + 1) (by omega) (by omega)]
            split
            · split
              · exact ⟨_, rfl, ⟨k + 1, by omega, by simp⟩, by simp; omega⟩
              · exact ⟨_, rfl, ⟨k + 1, by omega, by simp⟩, by simp; omega⟩
            · rw [if_neg (by simp)]
              exact ⟨_, rfl, ⟨k + 1, by omega, by simp⟩, by simp; omega⟩
          · right
            simp only [spec_CheapestLives.l_12]
            rw [if_neg (by simpa using hlt)]
            exact ⟨_, rfl, trivial⟩) (-1, 0, 0) ⟨0, by omega, rfl⟩
        exact ⟨t, ht2⟩
      simp only [hl, hr, Option.bind_some]
      refine ⟨if a < 0 then (0, 0, 6) else (a, b, 0), ?_, ?_⟩
      · simp only [impl_CheapestLives.k_8]
        by_cases ha : a < 0 <;> simp [ha]
      · simp only [spec_CheapestLives.k_8]
        by_cases ha : a < 0 <;> simp [ha]
  · simp only [if_neg c]
    exact ⟨(0, 0, 1), by cases pairB p q n vs <;> simp, by simp⟩

end Go.Proofs.YtfkjghkjimcmdaaGreat
