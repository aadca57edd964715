/- Trees of least cost are those whose edges are not dearer than the pairs they connect. -/
import Derived.Test.YtolfkfjjifdmeaaT
import Derived.Test.YtolfkfjjifdmeaaPStab
import Derived.Test.YtolfkfjjifdmeaaPPairs
import Derived.Test.YtolfkfjjifdmeaaPJoined
import Derived.Test.YtolfkfjjifdmeaaPKruskal
import Derived.Test.YtolfkfjjifdmeaaPComps
import Derived.Test.YtolfkfjjifdmeaaPure
namespace Go.Proofs.Ytolfkfjjifdmeaa
open Eng
set_option linter.unusedVariables false
set_option linter.unusedSimpArgs false

def cwP (c : Nat → Nat → Nat) (x : Arr 2 Int) : Nat := c (pa0 x) (pa1 x)
def wS (c : Nat → Nat → Nat) (A : List (Arr 2 Int)) : Nat := (A.map (cwP c)).sum
def leF (c : Nat → Nat → Nat) (t : Nat) (A : List (Arr 2 Int)) : List (Arr 2 Int) := A.filter fun e => decide (cwP c e ≤ t)
/-- every pair's ends are connected by edges that are not dearer -/
def PathLaw (n : Nat) (c : Nat → Nat → Nat) (A : List (Arr 2 Int)) : Prop := ∀ p, IsP n p → Cn (leF c (cwP c p) A) (pa0 p) (pa1 p)
theorem leF_sub {c : Nat → Nat → Nat} {t : Nat} {A : List (Arr 2 Int)} : ∀ e ∈ leF c t A, e ∈ A := fun e he => (List.mem_filter.1 he).1
theorem leF_mono {c : Nat → Nat → Nat} {s t : Nat} (h : s ≤ t) {A : List (Arr 2 Int)} {a b : Nat} (hc : Cn (leF c s A) a b) : Cn (leF c t A) a b :=
  hc.mono fun e he => by
    obtain ⟨h1, h2⟩ := List.mem_filter.1 he
    exact List.mem_filter.2 ⟨h1, by simp only [decide_eq_true_eq] at h2 ⊢; omega⟩
/-- with the law, what dear edges of any pairs connect is connected -/
theorem PathLaw.cover {n : Nat} {c : Nat → Nat → Nat} {A B : List (Arr 2 Int)} (hA : PathLaw n c A) (hB : ∀ e ∈ B, IsP n e) (t : Nat) {a b : Nat} (h : Cn (leF c t B) a b) : Cn (leF c t A) a b := by
  induction h with
  | refl => exact .refl _
  | step _ he ih =>
    obtain ⟨e, he, ht⟩ := he
    obtain ⟨h1, h2⟩ := List.mem_filter.1 he
    have h3 := leF_mono (t := t) (by simpa using h2) (hA e (hB e h1))
    refine ih.trans ?_
    rcases ht with ⟨rfl, rfl⟩ | ⟨rfl, rfl⟩
    · exact h3
    · exact h3.symm
theorem PathLaw.count {n : Nat} {c : Nat → Nat → Nat} {A B : List (Arr 2 Int)} (hA : PathLaw n c A) (hAp : ∀ e ∈ A, IsP n e) (hAf : Forest n A) (hB : ∀ e ∈ B, IsP n e) (hBf : Forest n B) (t : Nat) : (leF c t B).length ≤ (leF c t A).length := by
  have h1 := hAf.filter hAp (fun e => decide (cwP c e ≤ t))
  have h2 := hBf.filter hB (fun e => decide (cwP c e ≤ t))
  have h3 : comps n (leF c t A) ≤ comps n (leF c t B) := comps_mono fun a b h => hA.cover hB t h
  unfold leF at *
  omega
/-! a sum by layers -/
def lay (c : Nat → Nat → Nat) (M : Nat) (A : List (Arr 2 Int)) : Nat := ((List.range M).map fun t => (leF c t A).length).sum
theorem sum_lt (x : Nat) : ∀ M, ((List.range M).map fun t => if x ≤ t then 1 else 0).sum = M - x
  | 0 => by simp
  | M + 1 => by
    rw [List.range_succ, List.map_append, List.sum_append, sum_lt x M]
    simp only [List.map_cons, List.map_nil, List.sum_cons, List.sum_nil]
    split <;> omega
theorem sum_add (f g : Nat → Nat) : ∀ M, ((List.range M).map fun t => f t + g t).sum = ((List.range M).map f).sum + ((List.range M).map g).sum
  | 0 => by simp
  | M + 1 => by
    rw [List.range_succ, List.map_append, List.map_append, List.map_append, List.sum_append, List.sum_append, List.sum_append, sum_add f g M]
    simp only [List.map_cons, List.map_nil, List.sum_cons, List.sum_nil]
    omega
theorem sum_zero : ∀ M, ((List.range M).map fun _ => 0).sum = 0
  | 0 => by simp
  | M + 1 => by rw [List.range_succ, List.map_append, List.sum_append, sum_zero M]; simp
theorem lay_is (c : Nat → Nat → Nat) (M : Nat) : ∀ A : List (Arr 2 Int), (∀ e ∈ A, cwP c e ≤ M) → lay c M A + wS c A = A.length * M := by
  intro A
  induction A with
  | nil => intro _; simp only [lay, leF, wS, List.filter_nil, List.length_nil, List.map_nil, List.sum_nil, sum_zero]; omega
  | cons e A ih =>
    intro h
    have h1 := ih (fun x hx => h x (by simp [hx]))
    have h2 := h e (by simp)
    have h3 : lay c M (e :: A) = (M - cwP c e) + lay c M A := by
      unfold lay
      rw [← sum_lt, ← sum_add]
      congr 1
      refine List.map_congr_left fun t _ => ?_
      unfold leF
      rw [List.filter_cons]
      by_cases hle : cwP c e ≤ t
      · simp [hle]; omega
      · simp [hle]
    rw [h3]
    simp only [wS, List.map_cons, List.sum_cons, List.length_cons]
    unfold wS at h1
    rw [Nat.succ_mul]
    omega
theorem sum_le {f g : Nat → Nat} : ∀ {M : Nat}, (∀ t, t < M → f t ≤ g t) → ((List.range M).map f).sum ≤ ((List.range M).map g).sum
  | 0, _ => by simp
  | M + 1, h => by
    rw [List.range_succ, List.map_append, List.map_append, List.sum_append, List.sum_append]
    have := sum_le (f := f) (g := g) (M := M) (fun t ht => h t (by omega))
    have := h M (by omega)
    simp only [List.map_cons, List.map_nil, List.sum_cons, List.sum_nil]
    omega
theorem sum_same {f g : Nat → Nat} : ∀ {M : Nat}, (∀ t, t < M → f t ≤ g t) → ((List.range M).map f).sum = ((List.range M).map g).sum → ∀ t, t < M → f t = g t
  | 0, _, _ => fun t ht => absurd ht (by omega)
  | M + 1, h, he => by
    rw [List.range_succ, List.map_append, List.map_append, List.sum_append, List.sum_append] at he
    have h1 := sum_le (f := f) (g := g) (M := M) (fun t ht => h t (by omega))
    have h2 := h M (by omega)
    simp only [List.map_cons, List.map_nil, List.sum_cons, List.sum_nil] at he
    intro t ht
    by_cases e : t = M
    · subst e; omega
    · exact sum_same (f := f) (g := g) (M := M) (fun t ht => h t (by omega)) (by omega) t (by omega)
/-- with the law it costs no more than any other one -/
theorem PathLaw.least {n : Nat} {c : Nat → Nat → Nat} (hbd : ∀ i k, c i k ≤ 1000000) {A B : List (Arr 2 Int)} (hA : PathLaw n c A) (hAp : ∀ e ∈ A, IsP n e) (hAf : Forest n A) (hB : ∀ e ∈ B, IsP n e) (hBf : Forest n B) (hl : A.length = B.length) : wS c A ≤ wS c B := by
  have a := lay_is c 1000000 A (fun e _ => hbd _ _)
  have b := lay_is c 1000000 B (fun e _ => hbd _ _)
  have : lay c 1000000 B ≤ lay c 1000000 A := sum_le fun t _ => hA.count hAp hAf hB hBf t
  rw [hl] at a
  omega
/-- what costs no more has the law -/
theorem PathLaw.of_same {n : Nat} {c : Nat → Nat → Nat} (hbd : ∀ i k, c i k ≤ 1000000) {A B : List (Arr 2 Int)} (hA : PathLaw n c A) (hAp : ∀ e ∈ A, IsP n e) (hAf : Forest n A) (hB : ∀ e ∈ B, IsP n e) (hBf : Forest n B) (hl : A.length = B.length) (hw : wS c A = wS c B) : PathLaw n c B := by
  have a := lay_is c 1000001 A (fun e _ => Nat.le_succ_of_le (hbd _ _))
  have b := lay_is c 1000001 B (fun e _ => Nat.le_succ_of_le (hbd _ _))
  have hsame := sum_same (M := 1000001) (fun t _ => hA.count hAp hAf hB hBf t) (by unfold lay at a b; rw [hl] at a; omega)
  intro p hp
  have ht : cwP c p < 1000001 := Nat.lt_succ_of_le (hbd _ _)
  have h0 := hsame _ ht
  have h1 := hAf.filter hAp (fun e => decide (cwP c e ≤ cwP c p))
  have h2 := hBf.filter hB (fun e => decide (cwP c e ≤ cwP c p))
  refine Classical.byContradiction fun hno => ?_
  obtain ⟨i, k, rfl, hik, hk⟩ := hp
  rw [pa0_is, pa1_is] at hno
  have h3 := comps_cons_lt (n := n) (by omega) hk hno
  have h4 : comps n (leF c (cwP c (prA i k)) A) ≤ comps n (prA i k :: leF c (cwP c (prA i k)) B) := comps_mono fun a b h => by
    have hpk := hA (prA i k) ⟨i, k, rfl, hik, hk⟩
    rw [pa0_is, pa1_is] at hpk
    have hm : ∀ {a b : Nat}, Cn (leF c (cwP c (prA i k)) B) a b → Cn (leF c (cwP c (prA i k)) A) a b := fun h => hA.cover hB _ h
    rcases cn_cons.1 h with h | ⟨h5, h6⟩ | ⟨h5, h6⟩
    · exact hm h
    · exact ((hm h5).trans hpk).trans (hm h6)
    · exact ((hm h5).trans hpk.symm).trans (hm h6)
  unfold leF at *
  omega
/-- in a forest: what is connected without each of some edges is connected without all of them -/
theorem forest_less {n : Nat} {E : List (Arr 2 Int)} (hE : ∀ e ∈ E, IsP n e) (hf : ∀ e ∈ E, ∀ F : List (Arr 2 Int), (∀ x ∈ F, x ∈ E) → (∀ x ∈ E, x = e ∨ x ∈ F) → e ∉ F → ¬ Cn F (pa0 e) (pa1 e)) {x y : Nat} :
    ∀ (R : List (Arr 2 Int)), (∀ e ∈ R, e ∈ E) → (∀ e ∈ R, Cn (E.filter fun z => decide (z ≠ e)) x y) → Cn E x y → Cn (E.filter fun z => decide (z ∉ R)) x y := by
  intro R
  induction R with
  | nil => intro _ _ h; exact h.mono fun e he => by simp [he]
  | cons e R ih =>
    intro hR hC hxy
    have h1 := ih (fun z hz => hR z (by simp [hz])) (fun z hz => hC z (by simp [hz])) hxy
    refine Classical.byContradiction fun hno => ?_
    obtain ⟨i, k, rfl, hik, hk⟩ := hE e (hR e (by simp))
    obtain ⟨F, hF⟩ : ∃ F, F = E.filter (fun z => decide (z ∉ prA i k :: R)) := ⟨_, rfl⟩
    rw [← hF] at hno
    have h2 : Cn (prA i k :: F) x y := h1.mono fun z hz => by
      obtain ⟨z1, z2⟩ := List.mem_filter.1 hz
      simp only [decide_eq_true_eq] at z2
      by_cases e : z = prA i k
      · simp [e]
      · refine List.mem_cons_of_mem _ ?_
        rw [hF]
        exact List.mem_filter.2 ⟨z1, by simp [e, z2]⟩
    have hFG : ∀ {a b : Nat}, Cn F a b → Cn (E.filter fun z => decide (z ≠ prA i k)) a b := fun h => h.mono fun z hz => by
      rw [hF] at hz
      obtain ⟨z1, z2⟩ := List.mem_filter.1 hz
      simp only [List.mem_cons, not_or, decide_eq_true_eq] at z2
      exact List.mem_filter.2 ⟨z1, by simp [z2.1]⟩
    have hG := hC (prA i k) (by simp)
    have hbad := hf (prA i k) (hR _ (by simp)) (E.filter fun z => decide (z ≠ prA i k)) (fun z hz => (List.mem_filter.1 hz).1) (fun z hz => by
      by_cases e : z = prA i k
      · exact .inl e
      · exact .inr (List.mem_filter.2 ⟨hz, by simp [e]⟩)) (by simp)
    rw [pa0_is, pa1_is] at hbad
    rcases cn_cons.1 h2 with h | ⟨h3, h4⟩ | ⟨h3, h4⟩
    · exact hno h
    · exact hbad (((hFG h3).symm.trans hG).trans (hFG h4).symm)
    · exact hbad (((hFG h4).trans hG.symm).trans (hFG h3))

end Go.Proofs.Ytolfkfjjifdmeaa
