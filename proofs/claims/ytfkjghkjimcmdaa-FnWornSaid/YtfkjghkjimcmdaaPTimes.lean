/- How often parts have to be made new, the program's and the reference's. -/
import Derived.Test.YtfkjghkjimcmdaaT
import Derived.Test.YtfkjghkjimcmdaaPFrame
import Derived.Test.YtfkjghkjimcmdaaPDrum
import Derived.Test.YtfkjghkjimcmdaaPCodes
import Derived.Test.YtfkjghkjimcmdaaPWear
import Derived.Test.YtfkjghkjimcmdaaPPut
import Derived.Test.YtfkjghkjimcmdaaPWDrum
import Derived.Test.YtfkjghkjimcmdaaPEach
import Derived.Test.YtfkjghkjimcmdaaPParts
import Derived.Test.YtfkjghkjimcmdaaPFirst
import Derived.Test.YtfkjghkjimcmdaaPure
namespace Go.Proofs.Ytfkjghkjimcmdaa
open Eng
set_option linter.unusedVariables false
set_option linter.unusedSimpArgs false

/-- how often a part is made new in n turns -/
def timesV (n : Int) (p : Gpart) : Int := if p.feach = 0 then 0 else if Int.tdiv (p.flife - p.fmade) p.feach + 1 ≤ n then 1 + Int.tdiv (n - (Int.tdiv (p.flife - p.fmade) p.feach + 1)) (Int.tdiv p.flife p.feach) else 0
structure Good (p : Gpart) : Prop where
  m0 : 0 ≤ p.fmade
  m1 : p.fmade ≤ p.flife
  l0 : 1 ≤ p.flife
  l1 : p.flife ≤ 1000000
  e0 : 0 ≤ p.feach
theorem tdiv_bd {a b : Int} (ha : 0 ≤ a) (hb : 0 < b) : 0 ≤ Int.tdiv a b ∧ Int.tdiv a b ≤ a := by
  rw [Int.tdiv_eq_ediv_of_nonneg ha]
  exact ⟨Int.ediv_nonneg ha (by omega), Int.ediv_le_self b ha⟩
theorem tdiv_pos {a b : Int} (hb : 0 < b) (h : b ≤ a) : 1 ≤ Int.tdiv a b := by
  rw [Int.tdiv_eq_ediv_of_nonneg (by omega)]
  exact Int.le_ediv_of_mul_le hb (by omega)
theorem times_facts {p : Gpart} (h : Good p) {n : Int} (h0 : 0 ≤ n) (h1 : n ≤ 1000000) (he : p.feach ≠ 0) (hl : p.feach ≤ p.flife) :
    (0 ≤ Int.tdiv (p.flife - p.fmade) p.feach ∧ Int.tdiv (p.flife - p.fmade) p.feach ≤ 1000000) ∧ (1 ≤ Int.tdiv p.flife p.feach ∧ Int.tdiv p.flife p.feach ≤ 1000000) ∧
    (Int.tdiv (p.flife - p.fmade) p.feach + 1 ≤ n → 0 ≤ Int.tdiv (n - (Int.tdiv (p.flife - p.fmade) p.feach + 1)) (Int.tdiv p.flife p.feach) ∧ Int.tdiv (n - (Int.tdiv (p.flife - p.fmade) p.feach + 1)) (Int.tdiv p.flife p.feach) ≤ 1000000) := by
  obtain ⟨a, b, c, d, e⟩ := h
  have t1 := tdiv_bd (a := p.flife - p.fmade) (b := p.feach) (by omega) (by omega)
  have t2 := tdiv_bd (a := p.flife) (b := p.feach) (by omega) (by omega)
  have t3 := tdiv_pos (a := p.flife) (b := p.feach) (by omega) hl
  refine ⟨⟨t1.1, by omega⟩, ⟨t3, by omega⟩, fun hle => ?_⟩
  have t4 := tdiv_bd (a := n - (Int.tdiv (p.flife - p.fmade) p.feach + 1)) (b := Int.tdiv p.flife p.feach) (by omega) (by omega)
  exact ⟨t4.1, by omega⟩
theorem timesV_bd {p : Gpart} (h : Good p) {n : Int} (h0 : 0 ≤ n) (h1 : n ≤ 1000000) (hl : p.feach ≤ p.flife) : 0 ≤ timesV n p ∧ timesV n p ≤ 1000001 := by
  unfold timesV
  by_cases he : p.feach = 0
  · rw [if_pos he]; omega
  · obtain ⟨t1, t2, t3⟩ := times_facts h h0 h1 he hl
    rw [if_neg he]
    by_cases hle : Int.tdiv (p.flife - p.fmade) p.feach + 1 ≤ n
    · rw [if_pos hle]; have := t3 hle; omega
    · rw [if_neg hle]; omega
def sumT (n : Int) (ps : List Gpart) : Int := (ps.map (timesV n)).sum
theorem sumT_snoc (n : Int) (ps : List Gpart) (p : Gpart) : sumT n (ps ++ [p]) = sumT n ps + timesV n p := by unfold sumT; simp
theorem sumT_bd {n : Int} (h0 : 0 ≤ n) (h1 : n ≤ 1000000) : ∀ ps : List Gpart, (∀ p ∈ ps, Good p ∧ p.feach ≤ p.flife) → 0 ≤ sumT n ps ∧ sumT n ps ≤ 1000001 * ps.length := by
  intro ps
  induction ps with
  | nil => intro _; simp [sumT]
  | cons p ps ih =>
    intro h
    have hp := h p (by simp)
    have := ih (fun q hq => h q (by simp [hq]))
    have hb := timesV_bd hp.1 h0 h1 hp.2
    have e : sumT n (p :: ps) = timesV n p + sumT n ps := by unfold sumT; simp
    rw [e, List.length_cons]
    omega
theorem take_good {ps : List Gpart} (h : ∀ p ∈ ps, Good p ∧ p.feach ≤ p.flife) (k : Nat) : ∀ p ∈ ps.take k, Good p ∧ p.feach ≤ p.flife := fun p hp => h p (List.mem_of_mem_take hp)
/-! ### the program -/
def badB (p : Gpart) : Bool := wornB p || decide (p.feach > p.flife)
def pinL (w : GWear) (v : GLives) : List Gpart := w.fPins.map (pinPart v)
def hamL (f : GFrame) (w : GWear) (v : GLives) : List Gpart := (List.range f.fHammers.length).map (hamPart w v)
theorem good_parts {f : GFrame} {w : GWear} {v : GLives} (h : WOk f w) (hv : livB v = true) (hb : (partsL f w v).any badB = false) : ∀ p ∈ partsL f w v, Good p ∧ p.feach ≤ p.flife := by
  intro p hp
  have hbad : badB p = false := by
    cases hx : badB p with
    | false => rfl
    | true => have := List.any_eq_true.2 ⟨p, hp, hx⟩; rw [hb] at this; cases this
  unfold badB wornB at hbad
  simp only [Bool.or_eq_false_iff, decide_eq_false_iff_not] at hbad
  unfold livB at hv
  simp only [Bool.and_eq_true, decide_eq_true_eq] at hv
  unfold partsL at hp
  rcases List.mem_append.1 hp with hp | hp
  · obtain ⟨q, hq, rfl⟩ := List.mem_map.1 hp
    have := (h.pl q hq).2.2
    simp only [pinPart] at hbad ⊢
    exact ⟨⟨by simp only; omega, by simp only; omega, by simp only; omega, by simp only; omega, by simp only; omega⟩, by omega⟩
  · obtain ⟨t, ht, rfl⟩ := List.mem_map.1 hp
    have := (stroke_ix h (show t < f.fHammers.length by simpa using ht)).2
    simp only [hamPart] at hbad ⊢
    exact ⟨⟨by simp only; omega, by simp only; omega, by simp only; omega, by simp only; omega, by simp only; omega⟩, by omega⟩
/-- both -/
def partsV (f : GFrame) (w : GWear) (v : GLives) (n : Int) : Int × Int × Int := if (partsL f w v).any badB = true then (0, 0, 4) else (sumT n (pinL w v), sumT n (hamL f w v), 0)
end Go.Proofs.Ytfkjghkjimcmdaa
