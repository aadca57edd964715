/- The law of prices: the cheapest lives that are told cost no more than any other ones. -/
import Derived.Test.YtfkjghkjimcmdaaGreatM0
import Derived.Test.YtfkjghkjimcmdaaGreatM2
import Derived.Test.YtfkjghkjimcmdaaGreatM3
import Derived.Test.YtfkjghkjimcmdaaGreatPFrame
import Derived.Test.YtfkjghkjimcmdaaGreatPDrum
import Derived.Test.YtfkjghkjimcmdaaGreatPCodes
import Derived.Test.YtfkjghkjimcmdaaGreatPWear
import Derived.Test.YtfkjghkjimcmdaaGreatPPut
import Derived.Test.YtfkjghkjimcmdaaGreatPWDrum
import Derived.Test.YtfkjghkjimcmdaaGreatPEach
import Derived.Test.YtfkjghkjimcmdaaGreatPParts
import Derived.Test.YtfkjghkjimcmdaaGreatPFirst
import Derived.Test.YtfkjghkjimcmdaaGreatPTimes
import Derived.Test.YtfkjghkjimcmdaaGreatPCheapestLivesL
import Derived.Test.YtfkjghkjimcmdaaGreatPure
namespace Go.Proofs.YtfkjghkjimcmdaaGreat
open Eng
set_option linter.unusedVariables false
set_option linter.unusedSimpArgs false

/-- the cheapest of the first k that fit, and its price; -1 if there is none -/
def foldC (F : Nat → Bool) (Q : Nat → Int) : Nat → Int × Int
  | 0 => (-1, 0)
  | k + 1 => if F k = true ∧ ((foldC F Q k).1 < 0 ∨ Q k < (foldC F Q k).2) then ((k : Int), Q k) else foldC F Q k
theorem foldC_spec (F : Nat → Bool) (Q : Nat → Int) : ∀ n : Nat, (∀ k, k < n → F k = true → 0 ≤ (foldC F Q n).1 ∧ (foldC F Q n).2 ≤ Q k) ∧
    ((foldC F Q n).1 = -1 ∨ ∃ k : Nat, k < n ∧ (foldC F Q n).1 = (k : Int) ∧ F k = true ∧ (foldC F Q n).2 = Q k) := by
  intro n
  induction n with
  | zero => exact ⟨fun k hk => absurd hk (by omega), .inl rfl⟩
  | succ n ih =>
    obtain ⟨h1, h2⟩ := ih
    simp only [foldC]
    by_cases c : F n = true ∧ ((foldC F Q n).1 < 0 ∨ Q n < (foldC F Q n).2)
    · rw [if_pos c]
      refine ⟨fun k hk hF => ⟨by simp only; omega, ?_⟩, .inr ⟨n, by omega, rfl, c.1, rfl⟩⟩
      simp only
      by_cases e : k = n
      · subst e; omega
      · have := h1 k (by omega) hF
        omega
    · rw [if_neg c]
      refine ⟨fun k hk hF => ?_, ?_⟩
      · by_cases e : k = n
        · subst e
          have hn : ¬ ((foldC F Q k).1 < 0 ∨ Q k < (foldC F Q k).2) := fun hh => c ⟨hF, hh⟩
          omega
        · exact h1 k (by omega) hF
      · rcases h2 with h2 | ⟨k, hk, h3⟩
        · exact .inl h2
        · exact .inr ⟨k, by omega, h3⟩
/-- what lives need, and whether they do -/
def fitC (f : GFrame) (w : GWear) (n : Int) (vs : List GLives) (k : Nat) : Bool := match vs[k]? with
  | some v => (partsV f w v n).2.2 == 0
  | none => false
def priceC (f : GFrame) (w : GWear) (n : Int) (vs : List GLives) (k : Nat) : Int := match vs[k]? with
  | some v => (2 * (partsV f w v n).1 + 3 * (partsV f w v n).2.1) * ((k : Int) + 1)
  | none => 0
theorem partsV_bd {f : GFrame} {w : GWear} {v : GLives} {n : Int} (h : WOk f w) (hp : w.fPins.length ≤ 1048576) (hv : livB v = true) (h0 : 0 ≤ n) (h1 : n ≤ 1000000) : 0 ≤ (partsV f w v n).1 ∧ (partsV f w v n).1 ≤ 1000001 * 1048576 ∧ 0 ≤ (partsV f w v n).2.1 ∧ (partsV f w v n).2.1 ≤ 1000001 * 1048576 := by
  unfold partsV
  by_cases c : (partsL f w v).any badB = true
  · rw [if_pos c]; simp
  · rw [if_neg c]
    have hg := good_parts h hv (by simpa using c)
    have b1 := sumT_bd h0 h1 (pinL w v) (fun p hp => hg p (List.mem_append_left _ hp))
    have b2 := sumT_bd h0 h1 (hamL f w v) (fun p hp => hg p (List.mem_append_right _ hp))
    have l1 : (pinL w v).length = w.fPins.length := by simp [pinL]
    have l2 : (hamL f w v).length = f.fHammers.length := by simp [hamL]
    have hh1 := h.fr.h1
    rw [l1] at b1; rw [l2] at b2
    simp only
    omega
theorem price_w64 {a b : Int} {k : Nat} (ha : 0 ≤ a ∧ a ≤ 1000001 * 1048576) (hb : 0 ≤ b ∧ b ≤ 1000001 * 1048576) (hk : k < 3) :
    w64 (w64 (w64 (a * 2) + w64 (b * 3)) * w64 ((k : Int) + 1)) = (2 * a + 3 * b) * ((k : Int) + 1) ∧ w64 (w64 (w64 (2 * a) + w64 (3 * b)) * w64 ((k : Int) + 1)) = (2 * a + 3 * b) * ((k : Int) + 1) := by
  have hk' : k = 0 ∨ k = 1 ∨ k = 2 := by omega
  have e2 : a * 2 = 2 * a := Int.mul_comm _ _
  have e3 : b * 3 = 3 * b := Int.mul_comm _ _
  rw [e2, e3, w64_in (n := 2 * a) (by omega) (by omega), w64_in (n := 3 * b) (by omega) (by omega), w64_in (n := 2 * a + 3 * b) (by omega) (by omega), w64_in (n := (k : Int) + 1) (by omega) (by omega)]
  have : w64 ((2 * a + 3 * b) * ((k : Int) + 1)) = (2 * a + 3 * b) * ((k : Int) + 1) := by
    rcases hk' with rfl | rfl | rfl
    · rw [w64_in (by omega) (by omega)]
    · rw [w64_in (by omega) (by omega)]
    · rw [w64_in (by omega) (by omega)]
  exact ⟨this, this⟩
theorem cheap_val {f : GFrame} {w : GWear} {n : Int} {vs : List GLives} (h : WOk f w) (hp : w.fPins.length ≤ 1048576) (hs : w.fStrokes.length ≤ 1048576) (h0 : 0 ≤ n) (h1 : n ≤ 1000000) (hl : vs.length = 3) (hv : ∀ v ∈ vs, livB v = true) :
    spec_CheapestLives f w 2 3 n vs = some (if (foldC (fitC f w n vs) (priceC f w n vs) 3).1 < 0 then (0, 0, 6) else ((foldC (fitC f w n vs) (priceC f w n vs) 3).1, (foldC (fitC f w n vs) (priceC f w n vs) 3).2, 0)) := by
  have hh1 := h.fr.h1
  have hall : vs.all livB = true := List.all_eq_true.2 hv
  have htu : tuB n = true := by unfold tuB; simpa using ⟨h0, h1⟩
  have hloop : loop (spec_CheapestLives.l_12 w 2 3 n vs) (-1, 0, 0) = some (foldC (fitC f w n vs) (priceC f w n vs) 3) := by
    have := loop_seq (f := spec_CheapestLives.l_12 w 2 3 n vs) 3 (fun k => ((foldC (fitC f w n vs) (priceC f w n vs) k).1, (foldC (fitC f w n vs) (priceC f w n vs) k).2, (k : Int))) (foldC (fitC f w n vs) (priceC f w n vs) 3) (fun k hk => by
      have hk2 : k < vs.length := by omega
      have hvk := hv _ (List.getElem_mem hk2)
      obtain ⟨b1, b2, b3, b4⟩ := partsV_bd h hp hvk h0 h1
      have hpr := (price_w64 ⟨b1, b2⟩ ⟨b3, b4⟩ hk).1
      have eF : fitC f w n vs k = ((partsV f w vs[k] n).2.2 == 0) := by unfold fitC; rw [List.getElem?_eq_getElem hk2]
      have eQ : priceC f w n vs k = (2 * (partsV f w vs[k] n).1 + 3 * (partsV f w vs[k] n).2.1) * ((k : Int) + 1) := by unfold priceC; rw [List.getElem?_eq_getElem hk2]
      have ek : w64 ((k : Int) + 1) = ((k + 1 : Nat) : Int) := by rw [w64_in (by omega) (by omega)]; omega
      rw [ek] at hpr
      simp only [spec_CheapestLives.l_12, ix_lt hk2, Option.bind_some, l06Parts_is h hp hvk h0 h1, spec_CheapestLives.k_17, hpr, ek]
      rw [if_pos (by rw [hl, decide_eq_true_eq]; omega)]
      simp only [foldC, eF, eQ]
      by_cases c1 : ((partsV f w vs[k] n).2.2 == 0) = true
      · rw [if_pos c1]
        by_cases c2 : (foldC (fitC f w n vs) (priceC f w n vs) k).1 < 0 ∨ (2 * (partsV f w vs[k] n).1 + 3 * (partsV f w vs[k] n).2.1) * ((k : Int) + 1) < (foldC (fitC f w n vs) (priceC f w n vs) k).2
        · rw [if_pos (by simpa using c2), if_pos ⟨c1, c2⟩]
        · rw [if_neg (by simpa using c2), if_neg (fun hh => c2 hh.2)]
      · rw [if_neg c1, if_neg (show ¬ (false = true) by simp), if_neg (fun hh => c1 hh.1)]) (by
      simp only [spec_CheapestLives.l_12]
      rw [if_neg (by rw [hl]; simp)])
    exact this
  have hin : ∀ a b c : Int, spec_l00In a b c = some (decide (a ≥ b) && decide (a ≤ c)) := fun a b c => rfl
  simp only [spec_CheapestLives, l06Ok_is f w (by omega) hp hs, Option.bind_some, specAll vs (by omega), spec_CheapestLives.k_3, hin, l06Turns_is, hall, wearB_of h, htu, hl, spec_CheapestLives.k_5, hloop, spec_CheapestLives.k_8]
  by_cases c : (foldC (fitC f w n vs) (priceC f w n vs) 3).1 < 0
  · simp [c]
  · simp [c]
theorem price_law {f : GFrame} {w : GWear} {n : Int} {v u : GLives} (hi : FIn f) (hw : WIn w) (h : WOk f w) (hp : w.fPins.length ≤ 1048576) (hs : w.fStrokes.length ≤ 1048576) (h0 : 0 ≤ n) (h1 : n ≤ 1000000) (hv : livB v = true) (hu : livB u = true) (r : Int × Int × Int) (hr : spec_CheapestLives f w 2 3 n [v, u, ⟨30, 50⟩] = some r) :
    loop (laws_FnParts.l_77 f w v n u r r) 0 = some (.inr ()) := by
  have hh1 := h.fr.h1
  have hvs : ∀ x ∈ [v, u, (⟨30, 50⟩ : GLives)], livB x = true := by
    intro x hx
    simp only [List.mem_cons, List.not_mem_nil, or_false] at hx
    rcases hx with rfl | rfl | rfl
    · exact hv
    · exact hu
    · decide
  have hc := cheap_val (vs := [v, u, (⟨30, 50⟩ : GLives)]) h hp hs h0 h1 rfl hvs
  rw [hr] at hc
  have er := Option.some.inj hc
  obtain ⟨g1, g2⟩ := foldC_spec (fitC f w n [v, u, (⟨30, 50⟩ : GLives)]) (priceC f w n [v, u, (⟨30, 50⟩ : GLives)]) 3
  have htu : tuB n = true := by unfold tuB; simpa using ⟨h0, h1⟩
  have := loop_seq (f := laws_FnParts.l_77 f w v n u r r) 3 (fun k => (k : Int)) (.inr ()) (fun k hk => by
    have hk2 : k < [v, u, (⟨30, 50⟩ : GLives)].length := by simpa using hk
    have hvk := hvs _ (List.getElem_mem hk2)
    obtain ⟨b1, b2, b3, b4⟩ := partsV_bd h hp hvk h0 h1
    have hpr := (price_w64 ⟨b1, b2⟩ ⟨b3, b4⟩ hk).2
    have eF : fitC f w n [v, u, (⟨30, 50⟩ : GLives)] k = ((partsV f w ([v, u, (⟨30, 50⟩ : GLives)][k]) n).2.2 == 0) := by unfold fitC; rw [List.getElem?_eq_getElem hk2]
    have eQ : priceC f w n [v, u, (⟨30, 50⟩ : GLives)] k = (2 * (partsV f w ([v, u, (⟨30, 50⟩ : GLives)][k]) n).1 + 3 * (partsV f w ([v, u, (⟨30, 50⟩ : GLives)][k]) n).2.1) * ((k : Int) + 1) := by unfold priceC; rw [List.getElem?_eq_getElem hk2]
    have ek : w64 ((k : Int) + 1) = ((k + 1 : Nat) : Int) := by rw [w64_in (by omega) (by omega)]; omega
    rw [ek] at hpr
    simp only [laws_FnParts.l_77, ix_lt hk2, Option.bind_some, partsFor_is hi hw (show f.fHammers.length ≤ 1048576 by omega) hp hs, if_pos (And.intro (wearB_of h) hvk), if_pos htu, hpr, laws_FnParts.k_82, ek]
    rw [if_pos (by rw [decide_eq_true_eq]; omega)]
    by_cases c1 : ((partsV f w ([v, u, (⟨30, 50⟩ : GLives)][k]) n).2.2 == 0) = true
    · rw [if_pos c1, ← eQ]
      obtain ⟨q1, q2⟩ := g1 k hk (eF.trans c1)
      rw [if_neg (by omega)] at er
      rw [er]
      simp only [bne_self_eq_false, Bool.false_or, decide_eq_true_eq]
      rw [if_neg (by omega)]
      have : ¬ ((((k : Int) == (foldC (fitC f w n [v, u, (⟨30, 50⟩ : GLives)]) (priceC f w n [v, u, (⟨30, 50⟩ : GLives)]) 3).1) && (priceC f w n [v, u, (⟨30, 50⟩ : GLives)] k != (foldC (fitC f w n [v, u, (⟨30, 50⟩ : GLives)]) (priceC f w n [v, u, (⟨30, 50⟩ : GLives)]) 3).2)) = true) := by
        intro hh
        rw [Bool.and_eq_true, beq_iff_eq, bne_iff_ne] at hh
        obtain ⟨e1, e2⟩ := hh
        rcases g2 with g2 | ⟨j, _, g3, _, g4⟩
        · omega
        · have : j = k := by omega
          subst this
          exact e2 g4.symm
      rw [if_neg this]
    · rw [if_neg c1, if_neg (by simp)]) (by
    simp only [laws_FnParts.l_77]
    rw [if_neg (by simp)])
  exact this

end Go.Proofs.YtfkjghkjimcmdaaGreat
