/- A drum turned, and the least cost over all turns. -/
import Derived.Test.YtgmmeokkgcbkdaaGreatDoorM1
import Derived.Test.YtgmmeokkgcbkdaaGreatDoorPFrame
import Derived.Test.YtgmmeokkgcbkdaaGreatDoorPDrum
import Derived.Test.YtgmmeokkgcbkdaaGreatDoorPCodes
import Derived.Test.YtgmmeokkgcbkdaaGreatDoorPPut
import Derived.Test.YtgmmeokkgcbkdaaGreatDoorPBits
import Derived.Test.YtgmmeokkgcbkdaaGreatDoorPCost
import Derived.Test.YtgmmeokkgcbkdaaGreatDoorPChList
import Derived.Test.YtgmmeokkgcbkdaaGreatDoorPure
namespace Go.Proofs.YtgmmeokkgcbkdaaGreatDoor
open Eng
set_option linter.unusedVariables false
set_option linter.unusedSimpArgs false

theorem turned_same (f : GFrame) (b : Arr 96 Int) (k : Int) : spec_TurnedCost.l_15 f b k = impl_Frame_turned.l_5 f b k := by
  funext x
  obtain ⟨a, i⟩ := x
  rfl
theorem pin_of_row {d e : Arr 96 Int} {s s' : Nat} (h : row' d s = row' e s') (t : Nat) : pin d s t = pin e s' t := by unfold pin; rw [h]
theorem turned_is {f : GFrame} (hf : FOk f) {b : Arr 96 Int} (hb : VD f b) {by_ : Nat} (hy : by_ < 96) : ∃ d, loop (impl_Frame_turned.l_5 f b (by_ : Int)) (Arr.rep 96 0, 0) = some d ∧ VD f d ∧ (by_ = 0 → d = b) := by
  have hs0 := hf.s0; have hs1 := hf.s1
  have e : w64 f.fSteps = (f.fSteps.toNat : Int) := by rw [w64_in (by omega) (by omega)]; omega
  have key : ∀ j k (d : Arr 96 Int), k + j = f.fSteps.toNat → DIn d → (∀ s, row' d s = 0 ∨ (s < f.fSteps.toNat ∧ ∃ i, row' d s = row' b i)) → (by_ = 0 → ∀ s, row' d s = if s < k then row' b s else 0) →
      ∃ d', loop (impl_Frame_turned.l_5 f b (by_ : Int)) (d, (k : Int)) = some d' ∧ DIn d' ∧ (∀ s, row' d' s = 0 ∨ (s < f.fSteps.toNat ∧ ∃ i, row' d' s = row' b i)) ∧ (by_ = 0 → ∀ s, row' d' s = if s < f.fSteps.toNat then row' b s else 0) := by
    intro j
    induction j with
    | zero =>
      intro k d hk hd h1 h2
      obtain rfl : k = f.fSteps.toNat := by omega
      refine ⟨d, ?_, hd, h1, h2⟩
      rw [loop_eq]
      simp only [impl_Frame_turned.l_5]
      rw [if_neg (by rw [e, decide_eq_true_eq]; omega)]
    | succ j ih =>
      intro k d hk hd h1 h2
      have hkn : k < f.fSteps.toNat := by omega
      have hk96 : k < 96 := by omega
      have hmod := Nat.mod_lt (k + by_) (show 0 < f.fSteps.toNat by omega)
      have hm96 : (k + by_) % f.fSteps.toNat < 96 := by omega
      have ei : Int.tmod (w64 ((k : Int) + (by_ : Int))) (w64 f.fSteps) = (((k + by_) % f.fSteps.toNat : Nat) : Int) := by
        rw [e, w64_in (by omega) (by omega), show (k : Int) + (by_ : Int) = ((k + by_ : Nat) : Int) by omega, tmod_nat]
      have hrow := ix_row hb.din hk96
      have hlt := row_lt hb.din k
      obtain ⟨d', g1, g2, g3, g4⟩ := ih (k + 1) (d.set (((k + by_) % f.fSteps.toNat : Nat) : Int) (row' b k : Int)) (by omega) (DIn_set hd _ hlt) (fun s => by
        rw [row_set hm96]
        by_cases c : (k + by_) % f.fSteps.toNat = s
        · rw [if_pos c]; exact .inr ⟨by omega, k, rfl⟩
        · rw [if_neg c]; exact h1 s) (fun h0 s => by
        rw [row_set hm96]
        subst h0
        rw [Nat.add_zero, Nat.mod_eq_of_lt hkn]
        by_cases c : k = s
        · subst c; rw [if_pos rfl, if_pos (by omega)]
        · rw [if_neg c, h2 rfl s]
          by_cases c2 : s < k
          · rw [if_pos c2, if_pos (by omega)]
          · rw [if_neg c2, if_neg (by omega)])
      refine ⟨d', ?_, g2, g3, g4⟩
      rw [loop_eq]
      have hix : ∃ z, ix d.1 (((k + by_) % f.fSteps.toNat : Nat) : Int) = some z := ⟨_, ix_row hd hm96⟩
      obtain ⟨z, hz⟩ := hix
      simp only [impl_Frame_turned.l_5, hrow, ei, hz, Option.bind_some]
      rw [if_pos (by rw [e, decide_eq_true_eq]; omega), if_pos (by rw [e]; omega), w64_in (n := (k : Int) + 1) (by omega) (by omega)]
      simp only
      rw [show (k : Int) + 1 = ((k + 1 : Nat) : Int) by omega]
      exact g1
  obtain ⟨d, g1, g2, g3, g4⟩ := key f.fSteps.toNat 0 (Arr.rep 96 0) (by omega) DIn_rep (fun s => .inl (row_rep s)) (fun _ s => by rw [row_rep, if_neg (by omega)])
  refine ⟨d, g1, ⟨g2, fun s t h => ?_⟩, fun h0 => ?_⟩
  · rcases g3 s with h3 | ⟨h3, i, h4⟩
    · unfold pin at h
      rw [h3] at h
      simp at h
    · have := hb.in_ i t (by rw [← pin_of_row h4]; exact h)
      exact ⟨by omega, this.2⟩
  · refine drum_ext g2 hb.din fun s hs => ?_
    rw [g4 h0 s]
    by_cases c : s < f.fSteps.toNat
    · rw [if_pos c]
    · rw [if_neg c]
      have hz : ∀ t, (row' b s).testBit t = false := fun t => by
        cases h : (row' b s).testBit t
        · rfl
        · have := (hb.in_ s t h).1; omega
      exact (Nat.eq_of_testBit_eq fun t => by rw [hz t]; simp).symm
/-- the least of a row of numbers, and the first place of it -/
def leastT (g : Nat → Nat) : Nat → Int × Int
  | 0 => (-1, 0)
  | k + 1 => if (leastT g k).1 < 0 ∨ (g k : Int) < (leastT g k).1 then ((g k : Int), (k : Int)) else leastT g k
theorem leastT_spec (g : Nat → Nat) : ∀ n, 1 ≤ n → ∃ k, k < n ∧ leastT g n = ((g k : Int), (k : Int)) ∧ ∀ i, i < n → g k ≤ g i
  | 0, h => absurd h (by omega)
  | 1, _ => ⟨0, by omega, by simp [leastT], fun i hi => by rw [show i = 0 by omega]; exact Nat.le_refl _⟩
  | n + 2, _ => by
    obtain ⟨k, h1, h2, h3⟩ := leastT_spec g (n + 1) (by omega)
    by_cases c : (g (n + 1) : Int) < (g k : Int)
    · refine ⟨n + 1, by omega, ?_, fun i hi => ?_⟩
      · rw [leastT, h2, if_pos (.inr c)]
      · by_cases e : i = n + 1
        · rw [e]; exact Nat.le_refl _
        · have := h3 i (by omega); omega
    · refine ⟨k, by omega, ?_, fun i hi => ?_⟩
      · rw [leastT, h2, if_neg (by intro h; rcases h with h | h; simp only at h; omega; exact c h)]
      · by_cases e : i = n + 1
        · rw [e]; omega
        · exact h3 i (by omega)
open Classical in
/-- the drum turned by so many steps -/
noncomputable def turnV (f : GFrame) (b : Arr 96 Int) (k : Nat) : Arr 96 Int := (loop (impl_Frame_turned.l_5 f b (k : Int)) (Arr.rep 96 0, 0)).getD b
theorem turnV_is {f : GFrame} (hf : FOk f) {b : Arr 96 Int} (hb : VD f b) {k : Nat} (hk : k < 96) : loop (impl_Frame_turned.l_5 f b (k : Int)) (Arr.rep 96 0, 0) = some (turnV f b k) ∧ VD f (turnV f b k) ∧ (k = 0 → turnV f b k = b) := by
  obtain ⟨d, h1, h2, h3⟩ := turned_is hf hb hk
  have e : turnV f b k = d := by unfold turnV; rw [h1]; rfl
  rw [e]
  exact ⟨h1, h2, h3⟩
theorem implTurned {f : GFrame} (hf : FOk f) {a b : Arr 96 Int} (ha : VD f a) (hb : VD f b) : impl_TurnedCost f a b = some ((leastT (fun k => distD a (turnV f b k)) f.fSteps.toNat).1, (leastT (fun k => distD a (turnV f b k)) f.fSteps.toNat).2, 0) ∧
    spec_TurnedCost f a b = some ((leastT (fun k => distD a (turnV f b k)) f.fSteps.toNat).1, (leastT (fun k => distD a (turnV f b k)) f.fSteps.toNat).2, 0) := by
  have hs0 := hf.s0; have hs1 := hf.s1
  have e : w64 f.fSteps = (f.fSteps.toNat : Int) := by rw [w64_in (by omega) (by omega)]; omega
  obtain ⟨b1, b2⟩ := both_is hf ha hb
  have hcond : ∀ (x y : Int), ((decide (x < 0)) || (decide (y < x))) = true ↔ (x < 0 ∨ y < x) := fun x y => by simp
  constructor
  · have := loop_seq (f := impl_TurnedCost.l_8 f a b) f.fSteps.toNat (fun k => ((leastT (fun k => distD a (turnV f b k)) k).2, (leastT (fun k => distD a (turnV f b k)) k).1, (k : Int))) ((leastT (fun k => distD a (turnV f b k)) f.fSteps.toNat).2, (leastT (fun k => distD a (turnV f b k)) f.fSteps.toNat).1) (fun k hk => by
      obtain ⟨t1, t2, _⟩ := turnV_is hf hb (show k < 96 by omega)
      simp only [impl_TurnedCost.l_8, impl_Frame_turned, t1, Option.bind_some, impl_Frame_turned.k_2, cost_val ha.din t2.din]
      rw [if_pos (by rw [e, decide_eq_true_eq]; omega), w64_in (n := (k : Int) + 1) (by omega) (by omega)]
      by_cases c : (leastT (fun k => distD a (turnV f b k)) k).1 < 0 ∨ ((distD a (turnV f b k) : Nat) : Int) < (leastT (fun k => distD a (turnV f b k)) k).1
      · rw [if_pos ((hcond _ _).2 c), leastT, if_pos c]; simp
      · rw [if_neg (fun h => c ((hcond _ _).1 h)), leastT, if_neg c]; simp) (by simp [impl_TurnedCost.l_8, e])
    have h0 : loop (impl_TurnedCost.l_8 f a b) (0, -1, 0) = _ := this
    simp [impl_TurnedCost, b1, h0, impl_TurnedCost.k_4]
  · have := loop_seq (f := spec_TurnedCost.l_8 f a b) f.fSteps.toNat (fun k => ((leastT (fun k => distD a (turnV f b k)) k).1, (leastT (fun k => distD a (turnV f b k)) k).2, (k : Int))) ((leastT (fun k => distD a (turnV f b k)) f.fSteps.toNat).1, (leastT (fun k => distD a (turnV f b k)) f.fSteps.toNat).2) (fun k hk => by
      obtain ⟨t1, t2, _⟩ := turnV_is hf hb (show k < 96 by omega)
      simp only [spec_TurnedCost.l_8, turned_same, t1, Option.bind_some, spec_TurnedCost.k_11, l05Cost_is ha.din t2.din]
      rw [if_pos (by rw [e, decide_eq_true_eq]; omega), w64_in (n := (k : Int) + 1) (by omega) (by omega)]
      by_cases c : (leastT (fun k => distD a (turnV f b k)) k).1 < 0 ∨ ((distD a (turnV f b k) : Nat) : Int) < (leastT (fun k => distD a (turnV f b k)) k).1
      · rw [if_pos ((hcond _ _).2 c), leastT, if_pos c]; simp
      · rw [if_neg (fun h => c ((hcond _ _).1 h)), leastT, if_neg c]; simp) (by simp [spec_TurnedCost.l_8, e])
    have h0 : loop (spec_TurnedCost.l_8 f a b) (-1, 0, 0) = _ := this
    simp [spec_TurnedCost, b2, h0, spec_TurnedCost.k_4]

end Go.Proofs.YtgmmeokkgcbkdaaGreatDoor
