/- The parts of a wear: what they are, which are worn out, and how many turns they can make; the program's answers are the reference's. -/
import Derived.Test.YtilackblefjgdaaGreatM0
import Derived.Test.YtilackblefjgdaaGreatM1
import Derived.Test.YtilackblefjgdaaGreatM2
import Derived.Test.YtilackblefjgdaaGreatPFrame
import Derived.Test.YtilackblefjgdaaGreatPDrum
import Derived.Test.YtilackblefjgdaaGreatPWear
import Derived.Test.YtilackblefjgdaaGreatPPut
import Derived.Test.YtilackblefjgdaaGreatPWDrum
import Derived.Test.YtilackblefjgdaaGreatPEach
import Derived.Test.YtilackblefjgdaaGreatPure
namespace Go.Proofs.YtilackblefjgdaaGreat
open Eng
set_option linter.unusedVariables false
set_option linter.unusedSimpArgs false

theorem loop_take {S A T : Type} {f : A × Int → Option ((A × Int) ⊕ T)} (xs : List S) (hn : xs.length ≤ 9223372036854775807) (g : List S → A) (t : A → T)
    (h : ∀ k (hk : k < xs.length), f (g (xs.take k), (k : Int)) = some (.inl (g (xs.take k ++ [xs[k]]), w64 ((k : Int) + 1)))) (he : f (g xs, (xs.length : Int)) = some (.inr (t (g xs)))) : loop f (g [], 0) = some (t (g xs)) := by
  obtain ⟨t', ht, rfl⟩ := loop_for (f := f) xs.length hn (fun k a => a = g (xs.take k)) (fun t' => t' = t (g xs))
    (fun k a hk ha => .inl ⟨g (xs.take k ++ [xs[k]]), by subst ha; exact h k hk, by rw [List.take_succ_eq_append_getElem hk]⟩)
    (fun a ha => ⟨_, by rw [ha, List.take_length]; exact he, rfl⟩) (g []) (by simp)
  exact ht
theorem flatMap_one {A B : Type} (g : A → B) (l : List A) : l.flatMap (fun t => [g t]) = l.map g := by
  induction l with
  | nil => rfl
  | cons a l ih => simp [ih]
def stroke (w : GWear) (t : Nat) : Int := (w.fStrokes[t]?).getD 0
theorem stroke_ix {f : GFrame} {w : GWear} (h : WOk f w) {t : Nat} (ht : t < f.fHammers.length) : ix w.fStrokes (t : Int) = some (stroke w t) ∧ 0 ≤ stroke w t ∧ stroke w t ≤ 1000000 := by
  have hl : t < w.fStrokes.length := by rw [h.sl]; exact ht
  unfold stroke
  rw [ix_lt hl, List.getElem?_eq_getElem hl, Option.getD_some]
  exact ⟨rfl, h.st _ (List.getElem_mem hl)⟩
def wornPins (w : GWear) (v : GLives) : List GWornPin := w.fPins.filter fun p => decide (p.fTurns > v.fPin)
def wornHams (n : Nat) (w : GWear) (v : GLives) : List Int := ((List.range n).filter fun t => decide (stroke w t > v.fHammer)).map fun t : Nat => (t : Int)
/-! ### codes of wear and lives -/
def livB (v : GLives) : Bool := (decide (1 ≤ v.fPin) && decide (v.fPin ≤ 1000000)) && (decide (1 ≤ v.fHammer) && decide (v.fHammer ≤ 1000000))
theorem validLives_is (v : GLives) : impl_ValidLives v = some (livB v) := by
  simp only [impl_ValidLives, impl_within, Option.bind_some, livB]
  cases (decide (1 ≤ v.fPin) && decide (v.fPin ≤ 1000000)) <;> simp
theorem contains_lives (a : List GLives) (h : a.length ≤ 9223372036854775807) : slices_ContainsFunc_Lives_at_impl_wearCode_1 a = some (!(a.all livB)) := by
  obtain ⟨t, ht, hq⟩ := loop_find (f := slices_IndexFunc_Lives_at_impl_wearCode_1.l_3 a) a (fun x => !(livB x)) (by omega) (fun k hk => by
    simp only [slices_IndexFunc_Lives_at_impl_wearCode_1.l_3, ix_lt hk, Option.bind_some, impl_wearCode_1, validLives_is]
    rw [if_pos (by simpa using hk)]
    by_cases he : livB a[k] = true <;> simp [he]) (by simp [slices_IndexFunc_Lives_at_impl_wearCode_1.l_3])
  simp only [slices_ContainsFunc_Lives_at_impl_wearCode_1, slices_IndexFunc_Lives_at_impl_wearCode_1, ht, Option.bind_some]
  rcases hq with ⟨hany, k, rfl, _⟩ | ⟨hany, rfl⟩
  · rw [any_not] at hany
    rw [hany]; simp
  · rw [any_not] at hany
    rw [hany]; simp [slices_IndexFunc_Lives_at_impl_wearCode_1.k_1]
theorem wearCode_is (f : GFrame) (w : GWear) (hf : f.fHammers.length ≤ 1048576) (hp : w.fPins.length ≤ 1048576) (hs : w.fStrokes.length ≤ 1048576) (vs : List GLives) (hv : vs.length ≤ 9223372036854775807) :
    impl_wearCode f w vs = some (if wearB f w = true ∧ vs.all livB = true then 0 else 1) := by
  simp only [impl_wearCode, validWear_is f w hf hp hs, Option.bind_some]
  cases wearB f w with
  | false => simp [impl_unless]
  | true =>
    simp only [if_true, contains_lives vs hv, Option.bind_some, Bool.not_not, unless_is]
    cases vs.all livB <;> simp
theorem wearCode1 (f : GFrame) (w : GWear) (hf : f.fHammers.length ≤ 1048576) (hp : w.fPins.length ≤ 1048576) (hs : w.fStrokes.length ≤ 1048576) (v : GLives) :
    impl_wearCode f w [v] = some (if wearB f w = true ∧ livB v = true then 0 else 1) := by
  rw [wearCode_is f w hf hp hs [v] (by simp)]; simp

end Go.Proofs.YtilackblefjgdaaGreat
