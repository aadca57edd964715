/- What one drum has beyond another, how much they differ, and the costs of changes: the program's and the reference's. -/
import Derived.Test.YtojndiidhgdjcaaGreatDoorM1
import Derived.Test.YtojndiidhgdjcaaGreatDoorPFrame
import Derived.Test.YtojndiidhgdjcaaGreatDoorPDrum
import Derived.Test.YtojndiidhgdjcaaGreatDoorPCodes
import Derived.Test.YtojndiidhgdjcaaGreatDoorPPut
import Derived.Test.YtojndiidhgdjcaaGreatDoorPBits
import Derived.Test.YtojndiidhgdjcaaGreatDoorPure
namespace Go.Proofs.YtojndiidhgdjcaaGreatDoor
open Eng
set_option linter.unusedVariables false
set_option linter.unusedSimpArgs false

theorem ldif_lt {x y : Nat} (h : x < 4294967296) : ldif x y < 4294967296 := Nat.lt_of_le_of_lt (ldif_le x y) h
/-- the pins of a drum that another one has not -/
def lessRow (a b : Arr 96 Int) (k : Nat) (s : Nat) : Nat := if s < k then ldif (row' a s) (row' b s) else row' a s
theorem lessD_is {a b : Arr 96 Int} (ha : DIn a) (hb : DIn b) : ∃ d, impl_Drum_less a b = some d ∧ DIn d ∧ ∀ s t, s < 96 → pin d s t = (pin a s t && !pin b s t) := by
  have key : ∀ j k (d : Arr 96 Int), k + j = 96 → DIn d → (∀ s, s < 96 → row' d s = lessRow a b k s) → ∃ d', loop (impl_Drum_less.l_5 b) (d, (k : Int)) = some d' ∧ DIn d' ∧ ∀ s, s < 96 → row' d' s = lessRow a b 96 s := by
    intro j
    induction j with
    | zero =>
      intro k d hk hd hr
      obtain rfl : k = 96 := by omega
      exact ⟨d, by rw [loop_eq]; simp [impl_Drum_less.l_5], hd, hr⟩
    | succ j ih =>
      intro k d hk hd hr
      have hk2 : k < 96 := by omega
      have h1 := ix_row hb hk2
      have h2 := ix_row hd hk2
      have hrk := hr k hk2
      have hkk : lessRow a b k k = row' a k := by unfold lessRow; rw [if_neg (by omega)]
      rw [hkk] at hrk
      rw [hrk] at h2
      have hlt := ldif_lt (y := row' b k) (row_lt ha k)
      obtain ⟨d', e1, e2, e3⟩ := ih (k + 1) (d.set (k : Int) (ldif (row' a k) (row' b k) : Nat)) (by omega) (DIn_set hd k hlt) (fun s hs => by
        rw [row_set hk2]
        unfold lessRow
        by_cases e : k = s
        · subst e; rw [if_pos rfl, if_pos (by omega)]
        · rw [if_neg e, hr s hs]
          unfold lessRow
          by_cases c : s < k
          · rw [if_pos c, if_pos (by omega)]
          · rw [if_neg c, if_neg (by omega)])
      refine ⟨d', ?_, e2, e3⟩
      rw [loop_eq]
      simp only [impl_Drum_less.l_5, h1, h2, Option.bind_some, bClr32 _ _ (row_lt ha k) (row_lt hb k)]
      rw [if_pos (by rw [decide_eq_true_eq]; omega), w64_in (n := (k : Int) + 1) (by omega) (by omega)]
      simpa using e1
  obtain ⟨d, e1, e2, e3⟩ := key 96 0 a (by omega) ha (fun s _ => by unfold lessRow; rw [if_neg (by omega)])
  refine ⟨d, ?_, e2, fun s t hs => ?_⟩
  · have : loop (impl_Drum_less.l_5 b) (a, 0) = some d := e1
    simp only [impl_Drum_less, this, Option.bind_some, impl_Drum_less.k_2]
  · unfold pin
    rw [e3 s hs]
    unfold lessRow
    rw [if_pos hs, ldif_bit]
/-- how many pins one drum has beyond another -/
def beyond (a b : Arr 96 Int) : Nat := sR (fun s => cR (fun t => pin a s t && !pin b s t) 32) 96
def distD (a b : Arr 96 Int) : Nat := beyond a b + beyond b a
/-! ### the reference's count -/
/-! ### what two drums differ in -/
theorem cR_xor (p q : Nat → Bool) : ∀ n, cR (fun t => p t && !q t) n + cR (fun t => q t && !p t) n = cR (fun t => p t != q t) n
  | 0 => rfl
  | n + 1 => by
    have ih := cR_xor p q n
    have hb : ∀ x y : Bool, (if (x && !y) = true then 1 else 0) + (if (y && !x) = true then 1 else 0) = (if (x != y) = true then 1 else 0) := by decide
    have h1 := hb (p n) (q n)
    simp only [cR]
    omega
theorem sR_add (g k : Nat → Nat) : ∀ n, sR g n + sR k n = sR (fun i => g i + k i) n
  | 0 => rfl
  | n + 1 => by have ih := sR_add g k n; simp only [sR]; omega
theorem distD_xor (a b : Arr 96 Int) : distD a b = sR (fun s => cR (fun t => pin a s t != pin b s t) 32) 96 := by
  unfold distD beyond
  rw [sR_add]
  exact sR_ext 96 fun s _ => cR_xor _ _ 32
theorem cR_zero {p : Nat → Bool} : ∀ n, cR p n = 0 → ∀ i, i < n → p i = false
  | 0, _, i, hi => absurd hi (by omega)
  | n + 1, h, i, hi => by
    simp only [cR] at h
    by_cases e : i = n
    · subst e
      cases hp : p i
      · rfl
      · rw [hp] at h; simp at h
    · exact cR_zero n (by omega) i (by omega)
theorem sR_zero {g : Nat → Nat} : ∀ n, sR g n = 0 → ∀ i, i < n → g i = 0
  | 0, _, i, hi => absurd hi (by omega)
  | n + 1, h, i, hi => by
    simp only [sR] at h
    by_cases e : i = n
    · subst e; omega
    · exact sR_zero n (by omega) i (by omega)
theorem distD_zero {a b : Arr 96 Int} (ha : DIn a) (hb : DIn b) : distD a b = 0 ↔ a = b := by
  constructor
  · intro h
    rw [distD_xor] at h
    refine drum_eq ha hb fun s t hs ht => ?_
    have := cR_zero 32 (sR_zero 96 h s hs) t ht
    simpa using this
  · rintro rfl
    rw [distD_xor]
    have : ∀ n, sR (fun s => cR (fun t => pin a s t != pin a s t) 32) n = 0 := by
      intro n
      induction n with
      | zero => rfl
      | succ n ih => simp only [sR, ih, cR_none 32 (p := fun t => pin a n t != pin a n t) (fun i _ => by simp)]
    exact this 96

end Go.Proofs.YtojndiidhgdjcaaGreatDoor
