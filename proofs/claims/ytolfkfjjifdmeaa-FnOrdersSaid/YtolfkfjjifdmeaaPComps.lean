/- How many parts pairs leave, and what trees of least cost have in common. -/
import Derived.Test.YtolfkfjjifdmeaaT
import Derived.Test.YtolfkfjjifdmeaaPStab
import Derived.Test.YtolfkfjjifdmeaaPPairs
import Derived.Test.YtolfkfjjifdmeaaPJoined
import Derived.Test.YtolfkfjjifdmeaaPKruskal
import Derived.Test.YtolfkfjjifdmeaaPure
namespace Go.Proofs.Ytolfkfjjifdmeaa
open Eng
set_option linter.unusedVariables false
set_option linter.unusedSimpArgs false

/-- the least of what it is connected with -/
def IsMin (E : List (Arr 2 Int)) (v : Nat) : Prop := ∀ u, Cn E u v → v ≤ u
open Classical in
noncomputable def comps (n : Nat) (E : List (Arr 2 Int)) : Nat := (List.range n).countP (fun v => decide (IsMin E v))
theorem min_of (E : List (Arr 2 Int)) (v : Nat) : ∃ m, Cn E m v ∧ IsMin E m ∧ m ≤ v := by
  have key : ∀ k u : Nat, u ≤ k → Cn E u v → ∃ m, Cn E m v ∧ ∀ x, Cn E x v → m ≤ x := by
    intro k
    induction k with
    | zero => intro u hu hc; exact ⟨u, hc, fun x _ => by omega⟩
    | succ k ih =>
      intro u hu hc
      by_cases hx : ∃ x, Cn E x v ∧ x < u
      · obtain ⟨x, hx, hxu⟩ := hx; exact ih x (by omega) hx
      · exact ⟨u, hc, fun x hxc => by
          rcases Nat.lt_or_ge x u with c | c
          · exact absurd ⟨x, hxc, c⟩ hx
          · exact c⟩
  obtain ⟨m, h1, h2⟩ := key v v (Nat.le_refl _) (.refl v)
  exact ⟨m, h1, fun u hu => h2 u (hu.trans h1), h2 v (.refl v)⟩
theorem min_same {E : List (Arr 2 Int)} {a b : Nat} (ha : IsMin E a) (hb : IsMin E b) (h : Cn E a b) : a = b := Nat.le_antisymm (ha b h.symm) (hb a h)
open Classical in
theorem comps_mono {n : Nat} {E F : List (Arr 2 Int)} (h : ∀ a b, Cn E a b → Cn F a b) : comps n F ≤ comps n E :=
  List.countP_mono_left fun v _ hv => by
    simp only [decide_eq_true_eq] at hv ⊢
    exact fun u hu => hv u (h u v hu)
theorem comps_eq {n : Nat} {E F : List (Arr 2 Int)} (h : ∀ e, e ∈ E ↔ e ∈ F) : comps n E = comps n F :=
  Nat.le_antisymm (comps_mono fun _ _ hc => hc.mono fun e he => (h e).2 he) (comps_mono fun _ _ hc => hc.mono fun e he => (h e).1 he)
open Classical in
theorem comps_nil (n : Nat) : comps n [] = n := by
  unfold comps
  rw [List.countP_eq_length.2]
  · simp
  · intro v _
    rw [decide_eq_true_eq]
    intro u hu
    cases hu with
    | refl => exact Nat.le_refl _
    | step _ e => obtain ⟨e, he, _⟩ := e; simp at he
/-- one pair more -/
theorem cn_cons {E : List (Arr 2 Int)} {i k a b : Nat} : Cn (prA i k :: E) a b ↔ Cn E a b ∨ (Cn E a i ∧ Cn E k b) ∨ (Cn E a k ∧ Cn E i b) := by
  have hT : Cn (prA i k :: E) i k := Cn.one ⟨prA i k, by simp, .inl ⟨pa0_is i k, pa1_is i k⟩⟩
  have hm : ∀ {a b : Nat}, Cn E a b → Cn (prA i k :: E) a b := fun h => h.mono (fun e he => by simp [he])
  constructor
  · intro h
    induction h with
    | refl => exact .inl (.refl _)
    | @step b c _ he ih =>
      obtain ⟨e, he, ht⟩ := he
      rcases List.mem_cons.1 he with rfl | he
      · unfold Touch at ht
        rw [pa0_is, pa1_is] at ht
        rcases ht with ⟨rfl, rfl⟩ | ⟨rfl, rfl⟩
        · rcases ih with h | ⟨h1, h2⟩ | ⟨h1, h2⟩
          · exact .inr (.inl ⟨h, .refl _⟩)
          · exact .inr (.inl ⟨h1, .refl _⟩)
          · exact .inl h1
        · rcases ih with h | ⟨h1, h2⟩ | ⟨h1, h2⟩
          · exact .inr (.inr ⟨h, .refl _⟩)
          · exact .inl h1
          · exact .inr (.inr ⟨h1, .refl _⟩)
      · have h1 : Cn E b c := Cn.one ⟨e, he, ht⟩
        rcases ih with h | ⟨h2, h3⟩ | ⟨h2, h3⟩
        · exact .inl (h.trans h1)
        · exact .inr (.inl ⟨h2, h3.trans h1⟩)
        · exact .inr (.inr ⟨h2, h3.trans h1⟩)
  · rintro (h | ⟨h1, h2⟩ | ⟨h1, h2⟩)
    · exact hm h
    · exact ((hm h1).trans hT).trans (hm h2)
    · exact ((hm h1).trans hT.symm).trans (hm h2)
open Classical in
theorem countP_lost {p q : Nat → Prop} {z : Nat} : ∀ {L : List Nat}, L.Nodup → (∀ v ∈ L, p v → ¬ q v → v = z) → L.countP (fun v => decide (p v)) ≤ L.countP (fun v => decide (q v)) + 1 := by
  intro L
  induction L with
  | nil => intro _ _; simp
  | cons x L ih =>
    intro hd h
    obtain ⟨h1, h2⟩ := List.nodup_cons.1 hd
    rw [List.countP_cons, List.countP_cons]
    by_cases hx : p x ∧ ¬ q x
    · have hz := h x (by simp) hx.1 hx.2
      have : L.countP (fun v => decide (p v)) ≤ L.countP (fun v => decide (q v)) := List.countP_mono_left fun v hv hpv => by
        simp only [decide_eq_true_eq] at hpv ⊢
        refine Classical.byContradiction fun hq => h1 ?_
        rw [hz, ← h v (by simp [hv]) hpv hq]; exact hv
      simp [hx.1, hx.2]; omega
    · have := ih h2 (fun v hv => h v (by simp [hv]))
      by_cases hp : p x
      · have hq : q x := Classical.byContradiction fun hq => hx ⟨hp, hq⟩
        simp [hp, hq]; omega
      · simp [hp]; split <;> omega
theorem comps_cons_le {n : Nat} (E : List (Arr 2 Int)) (i k : Nat) : comps n E ≤ comps n (prA i k :: E) + 1 := by
  obtain ⟨mi, a1, a2, _⟩ := min_of E i
  obtain ⟨mk, b1, b2, _⟩ := min_of E k
  refine countP_lost (z := max mi mk) List.nodup_range ?_
  intro v _ hv hnv
  obtain ⟨u, hu⟩ := Classical.not_forall.1 hnv
  have ⟨hc, hlt⟩ : Cn (prA i k :: E) u v ∧ ¬ v ≤ u := Classical.not_imp.1 hu
  rcases cn_cons.1 hc with h | ⟨h1, h2⟩ | ⟨h1, h2⟩
  · exact absurd (hv u h) hlt
  · have e1 : mk = v := min_same b2 hv (b1.trans h2)
    have e2 : mi ≤ u := a2 u (h1.trans a1.symm)
    omega
  · have e1 : mi = v := min_same a2 hv (a1.trans h2)
    have e2 : mk ≤ u := b2 u (h1.trans b1.symm)
    omega
theorem comps_cons_lt {n : Nat} {E : List (Arr 2 Int)} {i k : Nat} (hi : i < n) (hk : k < n) (h : ¬ Cn E i k) : comps n (prA i k :: E) + 1 ≤ comps n E := by
  obtain ⟨mi, a1, a2, a3⟩ := min_of E i
  obtain ⟨mk, b1, b2, b3⟩ := min_of E k
  have hne : mi ≠ mk := fun e => h (a1.symm.trans (e ▸ b1))
  have hik : Cn (prA i k :: E) mi mk := cn_cons.2 (.inr (.inl ⟨a1, b1.symm⟩))
  have hall : ∀ v ∈ List.range n, IsMin (prA i k :: E) v → IsMin E v := fun v _ hv u hu => hv u (cn_cons.2 (.inl hu))
  rcases Nat.lt_or_gt_of_ne hne with hlt | hlt
  · exact countP_lt (e := mk) hall (List.mem_range.2 (by omega)) (fun hm => by have := hm mi hik; omega) b2
  · exact countP_lt (e := mi) hall (List.mem_range.2 (by omega)) (fun hm => by have := hm mk hik.symm; omega) a2
theorem comps_cons_same {n : Nat} {E : List (Arr 2 Int)} {i k : Nat} (h : Cn E i k) : comps n (prA i k :: E) = comps n E := by
  refine Nat.le_antisymm (comps_mono fun a b hab => cn_cons.2 (.inl hab)) (comps_mono fun a b hab => ?_)
  rcases cn_cons.1 hab with h1 | ⟨h1, h2⟩ | ⟨h1, h2⟩
  · exact h1
  · exact (h1.trans h).trans h2
  · exact (h1.trans h.symm).trans h2
/-- a part of pairs leaves no more parts than it lacks pairs -/
theorem comps_app {n : Nat} {S : List (Arr 2 Int)} : ∀ (R : List (Arr 2 Int)), (∀ e ∈ R, IsP n e) → comps n S ≤ comps n (R ++ S) + R.length := by
  intro R
  induction R with
  | nil => intro _; simp
  | cons e R ih =>
    intro h
    obtain ⟨i, k, rfl, _, _⟩ := h e (by simp)
    have h1 := ih (fun x hx => h x (by simp [hx]))
    have h2 := comps_cons_le (n := n) (R ++ S) i k
    simp only [List.cons_append, List.length_cons]
    omega
theorem comps_ge {n : Nat} {E : List (Arr 2 Int)} (h : ∀ e ∈ E, IsP n e) : n ≤ comps n E + E.length := by
  have := comps_app (n := n) (S := []) E h
  rw [comps_nil, List.append_nil] at this
  exact this
/-- no pair is needless -/
def Forest (n : Nat) (E : List (Arr 2 Int)) : Prop := comps n E + E.length = n
theorem Forest.filter {n : Nat} {E : List (Arr 2 Int)} (h : Forest n E) (hE : ∀ e ∈ E, IsP n e) (p : Arr 2 Int → Bool) : comps n (E.filter p) + (E.filter p).length = n := by
  have hge := comps_ge (n := n) (E := E.filter p) (fun e he => hE e (List.mem_filter.1 he).1)
  have hle := comps_app (n := n) (S := E.filter p) (E.filter (fun e => !p e)) (fun e he => hE e (List.mem_filter.1 he).1)
  have heq : comps n (E.filter (fun e => !p e) ++ E.filter p) = comps n E := comps_eq fun e => by
    simp only [List.mem_append, List.mem_filter]
    cases p e <;> simp
  have hlen : (E.filter p).length + (E.filter (fun e => !p e)).length = E.length := by
    have := List.length_eq_countP_add_countP p (l := E)
    rw [List.countP_eq_length_filter, List.countP_eq_length_filter] at this
    rw [this]
    congr 2
    apply List.filter_congr; intro x _; cases p x <;> rfl
  unfold Forest at h
  rw [heq] at hle
  omega

end Go.Proofs.Ytolfkfjjifdmeaa
