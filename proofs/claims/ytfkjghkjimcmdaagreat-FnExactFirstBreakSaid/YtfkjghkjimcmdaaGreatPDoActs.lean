/- A list of acts done: the program's way is the reference's. -/
import Derived.Test.YtfkjghkjimcmdaaGreatM0
import Derived.Test.YtfkjghkjimcmdaaGreatM1
import Derived.Test.YtfkjghkjimcmdaaGreatM2
import Derived.Test.YtfkjghkjimcmdaaGreatPFrame
import Derived.Test.YtfkjghkjimcmdaaGreatPDrum
import Derived.Test.YtfkjghkjimcmdaaGreatPCodes
import Derived.Test.YtfkjghkjimcmdaaGreatPWear
import Derived.Test.YtfkjghkjimcmdaaGreatPPut
import Derived.Test.YtfkjghkjimcmdaaGreatPWDrum
import Derived.Test.YtfkjghkjimcmdaaGreatPEach
import Derived.Test.YtfkjghkjimcmdaaGreatPParts
import Derived.Test.YtfkjghkjimcmdaaGreatPFirst
import Derived.Test.YtfkjghkjimcmdaaGreatPOwn
import Derived.Test.YtfkjghkjimcmdaaGreatPWPlace
import Derived.Test.YtfkjghkjimcmdaaGreatPHam
import Derived.Test.YtfkjghkjimcmdaaGreatPTurned
import Derived.Test.YtfkjghkjimcmdaaGreatPPinAt
import Derived.Test.YtfkjghkjimcmdaaGreatPAct
import Derived.Test.YtfkjghkjimcmdaaGreatPure
namespace Go.Proofs.YtfkjghkjimcmdaaGreat
open Eng
set_option linter.unusedVariables false
set_option linter.unusedSimpArgs false

/-! ### two walks side by side -/
theorem loop_two {A T T' : Type} {f : A → Option (A ⊕ T)} {g : A → Option (A ⊕ T')} (n : Nat) (I : Nat → A → Prop) (R : T → T' → Prop)
    (h : ∀ k a, k < n → I k a → (∃ a', f a = some (.inl a') ∧ g a = some (.inl a') ∧ I (k + 1) a') ∨ (∃ t t', f a = some (.inr t) ∧ g a = some (.inr t') ∧ R t t'))
    (he : ∀ a, I n a → ∃ t t', f a = some (.inr t) ∧ g a = some (.inr t') ∧ R t t') (a0 : A) (h0 : I 0 a0) : ∃ t t', loop f a0 = some t ∧ loop g a0 = some t' ∧ R t t' := by
  have key : ∀ m k a, k + m = n → I k a → ∃ t t', loop f a = some t ∧ loop g a = some t' ∧ R t t' := by
    intro m
    induction m with
    | zero =>
      intro k a hk ha
      obtain rfl : k = n := by omega
      obtain ⟨t, t', h1, h2, h3⟩ := he a ha
      exact ⟨t, t', by rw [loop_eq, h1], by rw [loop_eq, h2], h3⟩
    | succ m ih =>
      intro k a hk ha
      rcases h k a (by omega) ha with ⟨a', h1, h2, h3⟩ | ⟨t, t', h1, h2, h3⟩
      · obtain ⟨t, t', g1, g2, g3⟩ := ih (k + 1) a' (by omega) h3
        exact ⟨t, t', by rw [loop_eq, h1]; exact g1, by rw [loop_eq, h2]; exact g2, g3⟩
      · exact ⟨t, t', by rw [loop_eq, h1], by rw [loop_eq, h2], h3⟩
  exact key n 0 a0 (by omega) h0
/-! ### how many pins a wear has -/
theorem strict_le : ∀ (l : List Int) (a N : Int), l.Pairwise (fun x y => x < y) → (∀ x ∈ l, a ≤ x ∧ x < N) → (l.length : Int) ≤ N - a ∨ l = [] := by
  intro l
  induction l with
  | nil => intro a N _ _; exact .inr rfl
  | cons x l ih =>
    intro a N hp hb
    left
    rw [List.pairwise_cons] at hp
    have hx := hb x (by simp)
    rcases ih (x + 1) N hp.2 (fun y hy => ⟨by have := hp.1 y hy; omega, (hb y (List.mem_cons_of_mem _ hy)).2⟩) with h | h
    · rw [List.length_cons]; omega
    · subst h; simp; omega
theorem pins_le {f : GFrame} {w : GWear} (h : WOk f w) : w.fPins.length ≤ 2304 := by
  have hs0 := h.fr.s0; have hs1 := h.fr.s1; have hh1 := h.fr.h1
  have h1 : (w.fPins.map fun p => p.fStep * 24 + p.fTrack).Pairwise (fun x y => x < y) := by
    rw [List.pairwise_map]
    refine List.Pairwise.imp_of_mem ?_ h.so
    intro a b ha hb hab
    rw [befB_iff] at hab
    have h1 := h.pl a ha; have h2 := h.pl b hb
    omega
  rcases strict_le _ 0 2304 h1 (by
    intro x hx
    obtain ⟨p, hp, rfl⟩ := List.mem_map.1 hx
    have := h.pl p hp
    omega) with h2 | h2
  · rw [List.length_map] at h2; omega
  · have := congrArg List.length h2
    rw [List.length_map, List.length_nil] at this; omega
theorem wok_in {f : GFrame} {w : GWear} (h : WOk f w) : WIn w ∧ w.fStrokes.length ≤ 24 ∧ f.fHammers.length ≤ 24 := by
  have hs1 := h.fr.s1; have hh1 := h.fr.h1; have hsl := h.sl
  exact ⟨fun p hp => by have := h.pl p hp; omega, by omega, hh1⟩
/-! ### the acts -/
theorem doActs_is {f : GFrame} {w : GWear} {v : GLives} (hi : FIn f) (h : WOk f w) (hv : livB v = true) (list : List GAct) (hl : list.length ≤ 1048576) :
    (∃ (k : Nat) (c : Int), c ≠ 0 ∧ impl_doActs f w v list = some (⟨[], []⟩, (k : Int), c) ∧ spec_l06Done f w v list = some (⟨[], []⟩, (k : Int), c)) ∨
    (∃ u : GWear, WOk f u ∧ impl_doActs f w v list = some (u, 0, 0) ∧ spec_l06Done f w v list = some (u, -1, 0)) := by
  obtain ⟨t, t', h1, h2, h3⟩ := loop_two (f := impl_doActs.l_12 f v list) (g := spec_l06Done.l_8 f v list) list.length (fun k s => s.2.2 = (k : Int) ∧ WOk f ⟨s.1, s.2.1⟩)
    (fun t t' => (∃ (k : Nat) (c : Int), c ≠ 0 ∧ t = .inl (⟨[], []⟩, (k : Int), c) ∧ t' = .inl (⟨[], []⟩, (k : Int), c)) ∨ (∃ xs ys, WOk f ⟨xs, ys⟩ ∧ t = .inr (xs, ys) ∧ t' = .inr (xs, ys)))
    (by
      rintro k ⟨xs, ys, _⟩ hk ⟨rfl, hok⟩
      simp only at hok
      have hpl := pins_le hok
      obtain ⟨hwi, hsl, hfl⟩ := wok_in hok
      simp only at hpl hsl
      obtain ⟨r, r1, r2, r3, r4⟩ := doWearAct_full f ⟨xs, ys⟩ list[k] hi hwi (by omega) (by simp only; omega) (by simp only; omega)
      simp only [impl_doActs.l_12, spec_l06Done.l_8, ix_lt hk, Option.bind_some, r1, r2]
      rw [if_pos (by simpa using hk)]
      by_cases hr : r.2 = 0
      · have hok2 := r4 hr
        have hpl2 := pins_le hok2
        obtain ⟨hwi2, hsl2, _⟩ := wok_in hok2
        simp only [hr, spec_l06Done.k_13, lifeCode_is hi hwi2 (show f.fHammers.length ≤ 1048576 by omega) (show r.1.fPins.length ≤ 1048576 by omega) (show r.1.fStrokes.length ≤ 1048576 by omega), wearB_of hok2, hv, Option.bind_some, whole_is hok2 (show r.1.fPins.length ≤ 1048576 by omega) v]
        cases hworn : (partsL f r.1 v).any wornB with
        | true =>
          right
          exact ⟨_, _, by simp [impl_doActs.k_17, hk], by simp [spec_l06Done.k_15, hk], .inl ⟨k, 8, by decide, rfl, rfl⟩⟩
        | false =>
          left
          refine ⟨(r.1.fPins, r.1.fStrokes, w64 ((k : Int) + 1)), by simp [impl_doActs.k_17, hr, hk], by simp [spec_l06Done.k_15, hk], ?_, hok2⟩
          simp only
          rw [w64_in (by omega) (by omega)]; omega
      · right
        refine ⟨_, _, by simp [impl_doActs.k_17, hr, hk], by simp [spec_l06Done.k_13, spec_l06Done.k_15, hr, hk], .inl ⟨k, r.2, hr, rfl, rfl⟩⟩)
    (by
      rintro ⟨xs, ys, _⟩ ⟨rfl, hok⟩
      refine ⟨_, _, by simp [impl_doActs.l_12], by simp [spec_l06Done.l_8], .inr ⟨xs, ys, hok, rfl, rfl⟩⟩)
    (w.fPins, w.fStrokes, 0) ⟨rfl, h⟩
  have hpl := pins_le h
  obtain ⟨_, hsl, _⟩ := wok_in h
  simp only [impl_doActs, spec_l06Done, copy_is w (show w.fPins.length ≤ 1048576 by omega) (show w.fStrokes.length ≤ 1048576 by omega), h1, h2, Option.bind_some]
  rcases h3 with ⟨k, c, hc, rfl, rfl⟩ | ⟨xs, ys, hok, rfl, rfl⟩
  · exact .inl ⟨k, c, hc, rfl, rfl⟩
  · right
    have hpl2 := pins_le hok
    obtain ⟨_, hsl2, _⟩ := wok_in hok
    refine ⟨⟨xs, ys⟩, hok, ?_, rfl⟩
    simp only [impl_doActs.k_5, own_is (⟨xs, ys⟩ : GWear) (by simp only at hpl2 ⊢; omega) (by simp only at hsl2 ⊢; omega), Option.bind_some]
def actsV (f : GFrame) (w : GWear) (v : GLives) (list : List GAct) : Int := if wearB f w = true ∧ livB v = true then (if list.length ≤ 60 then 0 else 3) else 1
theorem actsCode_is (f : GFrame) (w : GWear) (v : GLives) (list : List GAct) (hf : f.fHammers.length ≤ 1048576) (hp : w.fPins.length ≤ 1048576) (hs : w.fStrokes.length ≤ 1048576) :
    impl_actsCode f w v list = some (actsV f w v list) ∧ spec_l06Acts f w v list = some (actsV f w v list) := by
  constructor
  · simp only [impl_actsCode, wearCode1 f w hf hp hs v, unless_is, firstOf2, Option.bind_some, actsV]
    by_cases c : wearB f w = true ∧ livB v = true
    · simp only [if_pos c]
      by_cases hl : list.length ≤ 60
      · have : (list.length : Int) ≤ 60 := by omega
        simp [hl, this]
      · have : ¬ (list.length : Int) ≤ 60 := by omega
        simp [hl, this]
    · simp only [if_neg c]; simp
  · simp only [spec_l06Acts, l06Lived_is f w hf hp hs v, Option.bind_some, spec_l06Acts.k_3, actsV]
    by_cases c : wearB f w = true ∧ livB v = true
    · simp only [if_pos c]
      by_cases hl : list.length ≤ 60
      · have : ¬ (list.length : Int) > 60 := by omega
        simp [hl, this]
      · have : (list.length : Int) > 60 := by omega
        simp [hl, this]
    · simp only [if_neg c]; simp
theorem acts0 {f : GFrame} {w : GWear} {v : GLives} {list : List GAct} (h : actsV f w v list = 0) : wearB f w = true ∧ livB v = true := by
  unfold actsV at h
  by_cases c : wearB f w = true ∧ livB v = true
  · exact c
  · rw [if_neg c] at h; cases h

end Go.Proofs.YtfkjghkjimcmdaaGreat
