/- How many strokes each hammer makes in a turn: counted over the drum's places, as the program does, and over the pins, as the reference does. -/
import Derived.Test.YtilackblefjgdaaT
import Derived.Test.YtilackblefjgdaaPFrame
import Derived.Test.YtilackblefjgdaaPDrum
import Derived.Test.YtilackblefjgdaaPWear
import Derived.Test.YtilackblefjgdaaPPut
import Derived.Test.YtilackblefjgdaaPWDrum
import Derived.Test.YtilackblefjgdaaPure
namespace Go.Proofs.Ytilackblefjgdaa
open Eng
set_option linter.unusedVariables false
set_option linter.unusedSimpArgs false

def cnt (ps : List GWornPin) (t : Nat) : Nat := ps.countP fun p => decide (p.fTrack = (t : Int))
def eachL (n : Nat) (ps : List GWornPin) : List Int := (List.range n).map fun t => (cnt ps t : Int)
theorem eachL_len (n : Nat) (ps : List GWornPin) : (eachL n ps).length = n := by simp [eachL]
theorem eachL_get (n : Nat) (ps : List GWornPin) (t : Nat) (h : t < n) : (eachL n ps)[t]? = some (cnt ps t : Int) := by
  unfold eachL
  rw [List.getElem?_map, List.getElem?_range h]; rfl
theorem cnt_le (ps : List GWornPin) (t : Nat) : cnt ps t ≤ ps.length := List.countP_le_length
theorem cnt_snoc (ps : List GWornPin) (p : GWornPin) (t : Nat) : cnt (ps ++ [p]) t = cnt ps t + if p.fTrack = (t : Int) then 1 else 0 := by
  unfold cnt
  rw [List.countP_append]
  congr 1
  by_cases h : p.fTrack = (t : Int) <;> simp [h]
/-! ### the program: over the places -/
def trk (n : Nat) (c : Nat → Nat) : List Int := (List.range n).map fun t => (c t : Int)
theorem trk_len (n : Nat) (c : Nat → Nat) : (trk n c).length = n := by simp [trk]
theorem trk_get {n : Nat} (c : Nat → Nat) {t : Nat} (h : t < n) : (trk n c)[t]? = some (c t : Int) := by
  unfold trk
  rw [List.getElem?_map, List.getElem?_range h]; rfl
theorem trk_congr {n : Nat} {c c' : Nat → Nat} (h : ∀ t, t < n → c t = c' t) : trk n c = trk n c' := by
  unfold trk
  apply List.map_congr_left
  intro t ht
  rw [h t (by simpa using ht)]
theorem countP_succ (p : Nat → Bool) (n : Nat) : (List.range (n + 1)).countP p = (List.range n).countP p + if p n = true then 1 else 0 := by
  rw [List.range_succ, List.countP_append]
  congr 1
  by_cases h : p n = true <;> simp [h]
/-! ### they are the same -/
theorem countP_or {p q : Nat → Bool} : ∀ (l : List Nat), (∀ x ∈ l, ¬ (p x = true ∧ q x = true)) → l.countP (fun x => p x || q x) = l.countP p + l.countP q := by
  intro l
  induction l with
  | nil => intro _; rfl
  | cons a l ih =>
    intro h
    rw [List.countP_cons, List.countP_cons, List.countP_cons, ih (fun x hx => h x (by simp [hx]))]
    have := h a (by simp)
    by_cases h1 : p a = true <;> by_cases h2 : q a = true <;> simp_all <;> omega
theorem countP_at (a n : Nat) (h : a < n) : (List.range n).countP (fun s => decide (a = s)) = 1 := by
  induction n with
  | zero => omega
  | succ n ih =>
    rw [countP_succ]
    by_cases e : a = n
    · subst e
      have : (List.range a).countP (fun s => decide (a = s)) = 0 := by
        rw [List.countP_eq_zero]
        intro s hs
        have : s < a := by simpa using hs
        simp; omega
      simp [this]
    · simp [ih (by omega), e]
theorem count_pins (N t : Nat) : ∀ (ps : List GWornPin), (∀ p ∈ ps, 0 ≤ p.fStep ∧ p.fStep < N) → ps.Pairwise (fun a b => befB a b = true) → (List.range N).countP (fun s => hasPin ps s t) = cnt ps t := by
  intro ps
  induction ps with
  | nil => intro _ _; simp [hasPin, cnt]
  | cons p ps ih =>
    intro h hs
    rw [List.pairwise_cons] at hs
    obtain ⟨h1, h2⟩ := hs
    have hp := h p (by simp)
    have e : (fun s : Nat => hasPin (p :: ps) s t) = fun s : Nat => (decide (p.fStep = (s : Int)) && decide (p.fTrack = (t : Int))) || hasPin ps s t := by
      funext s; simp [hasPin]
    rw [e, countP_or _ (fun s _ => ?_), ih (fun q hq => h q (by simp [hq])) h2]
    · unfold cnt
      rw [List.countP_cons, Nat.add_comm]
      congr 1
      by_cases ht : p.fTrack = (t : Int)
      · rw [if_pos (by simpa using ht)]
        rw [← countP_at p.fStep.toNat N (by omega)]
        congr 1
        funext s
        simp only [ht, decide_true, Bool.and_true]
        rw [Bool.eq_iff_iff]; simp; omega
      · rw [if_neg (by simpa using ht), List.countP_eq_zero]
        intro s _
        simp [ht]
    · rintro ⟨ha, hb⟩
      simp only [Bool.and_eq_true, decide_eq_true_eq] at ha
      unfold hasPin at hb
      rw [List.any_eq_true] at hb
      obtain ⟨q, hq, hb⟩ := hb
      simp only [Bool.and_eq_true, decide_eq_true_eq] at hb
      have := h1 q hq
      rw [befB_iff] at this
      omega
end Go.Proofs.Ytilackblefjgdaa
