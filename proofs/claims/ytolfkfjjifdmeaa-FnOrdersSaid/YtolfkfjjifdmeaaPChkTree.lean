/- What makes a tree one of least cost: the program's test and the reference's are one, in words of connections. -/
import Derived.Test.YtolfkfjjifdmeaaT
import Derived.Test.YtolfkfjjifdmeaaPStab
import Derived.Test.YtolfkfjjifdmeaaPPairs
import Derived.Test.YtolfkfjjifdmeaaPJoined
import Derived.Test.YtolfkfjjifdmeaaPKruskal
import Derived.Test.YtolfkfjjifdmeaaPComps
import Derived.Test.YtolfkfjjifdmeaaPMst
import Derived.Test.YtolfkfjjifdmeaaPKPath
import Derived.Test.YtolfkfjjifdmeaaPure
namespace Go.Proofs.Ytolfkfjjifdmeaa
open Eng
set_option linter.unusedVariables false
set_option linter.unusedSimpArgs false

/-- all is one part -/
def Whole (n : Nat) (E : List (Arr 2 Int)) : Prop := ∀ v, v < n → Cn E v 0
theorem Whole.one {n : Nat} {E : List (Arr 2 Int)} (h : Whole n E) (hn : 1 ≤ n) : comps n E ≤ 1 := by
  classical
  have := countP_lost (p := fun v => IsMin E v) (q := fun _ => False) (z := 0) (L := List.range n) List.nodup_range (fun v hv hm _ => by
    have := hm 0 (h v (List.mem_range.1 hv)).symm
    omega)
  simpa [comps] using this
theorem whole_of {n : Nat} {E : List (Arr 2 Int)} (hE : ∀ e ∈ E, IsP n e) (h : Forest n E) (hl : E.length + 1 = n) : Whole n E := by
  intro v hv
  refine Classical.byContradiction fun hno => ?_
  have h1 := comps_cons_lt (n := n) (E := E) hv (show 0 < n by omega) hno
  have h2 : 1 ≤ comps n (prA v 0 :: E) := by
    obtain ⟨m, _, m2, m3⟩ := min_of (prA v 0 :: E) 0
    classical
    unfold comps
    refine List.countP_pos_iff.2 ⟨m, List.mem_range.2 (by omega), by simpa using m2⟩
  unfold Forest at h
  omega
theorem forest_of {n : Nat} {E : List (Arr 2 Int)} (hE : ∀ e ∈ E, IsP n e) (h : Whole n E) (hl : E.length + 1 = n) : Forest n E := by
  have h1 := h.one (by omega)
  have h2 := comps_ge hE
  unfold Forest
  omega
/-- in a forest every pair is needed -/
theorem Forest.needs {n : Nat} {E : List (Arr 2 Int)} (h : Forest n E) (hE : ∀ e ∈ E, IsP n e) {i k : Nat} {F : List (Arr 2 Int)} (hk : k < n) (hik : i < k) (hperm : ∀ x, x ∈ E ↔ x = prA i k ∨ x ∈ F) (hF : F.length + 1 = E.length) : ¬ Cn F i k := by
  intro hc
  have h1 := comps_cons_same (n := n) hc
  have h2 : comps n (prA i k :: F) = comps n E := comps_eq fun e => by rw [List.mem_cons, hperm]
  have h3 := comps_ge (n := n) (E := F) (fun e he => hE e ((hperm e).2 (.inr he)))
  unfold Forest at h
  omega
/-- one edge after the other: none joins what is joined -/
theorem forest_seq {n : Nat} {E : List (Arr 2 Int)} (hE : ∀ e ∈ E, IsP n e) : (∀ (i : Nat) (h : i < E.length), ¬ Cn (E.take i) (pa0 E[i]) (pa1 E[i])) ↔ Forest n E := by
  constructor
  · intro h
    have key : ∀ i, i ≤ E.length → Forest n (E.take i) := by
      intro i
      induction i with
      | zero => intro _; exact Forest.nil n
      | succ i ih =>
        intro hi
        have h1 := ih (by omega)
        have hlt : i < E.length := by omega
        obtain ⟨a, b, he, hab, hb⟩ := hE E[i] (List.getElem_mem hlt)
        have h2 := h i hlt
        rw [he, pa0_is, pa1_is] at h2
        have h3 := h1.step (fun e he => hE e (List.mem_of_mem_take he)) hab hb h2
        rw [List.take_add_one, List.getElem?_eq_getElem hlt, he]
        exact h3
    have := key E.length (Nat.le_refl _)
    rwa [List.take_length] at this
  · intro h i hi hc
    obtain ⟨a, b, he, hab, hb⟩ := hE E[i] (List.getElem_mem hi)
    rw [he, pa0_is, pa1_is] at hc
    have hsp : E = E.take i ++ prA a b :: E.drop (i + 1) := by
      rw [← he]
      exact (List.take_append_drop i E).symm.trans (by rw [List.drop_eq_getElem_cons hi])
    refine h.needs hE (F := E.take i ++ E.drop (i + 1)) hb hab (fun x => ?_) (by simp; omega) (hc.mono fun e he => by simp [he])
    conv => lhs; rw [hsp]
    simp only [List.mem_append, List.mem_cons]
    constructor
    · rintro (h1 | h1 | h1)
      · exact .inr (.inl h1)
      · exact .inl h1
      · exact .inr (.inr h1)
    · rintro (h1 | h1 | h1)
      · exact .inr (.inl h1)
      · exact .inl h1
      · exact .inr (.inr h1)
/-- the program's test: no pair over a cut is cheaper than the edge there -/
def CutLaw (n : Nat) (c : Nat → Nat → Nat) (E : List (Arr 2 Int)) : Prop := ∀ (k : Nat) (h : k < E.length), ∀ p, IsP n p → ¬ Cn (E.take k ++ E.drop (k + 1)) (pa0 p) (pa1 p) → cwP c E[k] ≤ cwP c p
theorem cut_mem {E : List (Arr 2 Int)} {k : Nat} (h : k < E.length) (x : Arr 2 Int) : x ∈ E ↔ x = E[k] ∨ x ∈ E.take k ++ E.drop (k + 1) := by
  have hsp : E = E.take k ++ E[k] :: E.drop (k + 1) := (List.take_append_drop k E).symm.trans (by rw [List.drop_eq_getElem_cons h])
  conv => lhs; rw [hsp]
  simp only [List.mem_append, List.mem_cons]
  constructor
  · rintro (h1 | h1 | h1)
    · exact .inr (.inl h1)
    · exact .inl h1
    · exact .inr (.inr h1)
  · rintro (h1 | h1 | h1)
    · exact .inr (.inl h1)
    · exact .inl h1
    · exact .inr (.inr h1)
theorem cut_iff {n : Nat} {c : Nat → Nat → Nat} {E : List (Arr 2 Int)} (hE : ∀ e ∈ E, IsP n e) (hf : Forest n E) (hw : Whole n E) : CutLaw n c E ↔ PathLaw n c E := by
  have hneed : ∀ (k : Nat) (h : k < E.length), ¬ Cn (E.take k ++ E.drop (k + 1)) (pa0 E[k]) (pa1 E[k]) := by
    intro k h
    obtain ⟨a, b, he, hab, hb⟩ := hE E[k] (List.getElem_mem h)
    rw [he, pa0_is, pa1_is]
    exact hf.needs hE hb hab (fun x => by rw [cut_mem h x, he]) (by simp; omega)
  constructor
  · intro hc p hp
    have hall : Cn E (pa0 p) (pa1 p) := by
      obtain ⟨i, k, rfl, h1, h2⟩ := hp
      rw [pa0_is, pa1_is]
      exact (hw i (by omega)).trans (hw k h2).symm
    have hless := forest_less (n := n) hE (fun e he F hFE hEF heF => by
      obtain ⟨k, hk, rfl⟩ := List.mem_iff_getElem.1 he
      intro hcF
      refine hneed k hk (hcF.mono fun x hx => ?_)
      rcases (cut_mem hk x).1 (hFE x hx) with h1 | h1
      · exact absurd (h1 ▸ hx) heF
      · exact h1) (x := pa0 p) (y := pa1 p) (E.filter fun e => decide (¬ cwP c e ≤ cwP c p)) (fun e he => (List.mem_filter.1 he).1) (fun e he => by
      obtain ⟨h1, h2⟩ := List.mem_filter.1 he
      obtain ⟨k, hk, rfl⟩ := List.mem_iff_getElem.1 h1
      simp only [decide_eq_true_eq] at h2
      have h3 : Cn (E.take k ++ E.drop (k + 1)) (pa0 p) (pa1 p) := Classical.byContradiction fun hno => h2 (hc k hk p hp hno)
      refine h3.mono fun x hx => List.mem_filter.2 ⟨(cut_mem hk x).2 (.inr hx), ?_⟩
      rw [decide_eq_true_eq]
      intro hxe
      obtain ⟨a, b, he2, hab, hb⟩ := hE E[k] (List.getElem_mem hk)
      refine hneed k hk (Cn.one ⟨E[k], hxe ▸ hx, .inl ⟨rfl, rfl⟩⟩)) hall
    refine hless.mono fun x hx => ?_
    obtain ⟨h1, h2⟩ := List.mem_filter.1 hx
    refine List.mem_filter.2 ⟨h1, ?_⟩
    simp only [List.mem_filter, decide_eq_true_eq, not_and, Classical.not_not] at h2 ⊢
    exact h2 h1
  · intro hp k hk p hpp hno
    refine Classical.byContradiction fun hlt => hno ?_
    refine (hp p hpp).mono fun x hx => ?_
    obtain ⟨h1, h2⟩ := List.mem_filter.1 hx
    rcases (cut_mem hk x).1 h1 with h3 | h3
    · simp only [decide_eq_true_eq] at h2
      rw [h3] at h2
      exact absurd h2 hlt
    · exact h3
/-- the law is to cost as little as a tree that has it -/
theorem path_iff {n : Nat} {c : Nat → Nat → Nat} (hbd : ∀ i k, c i k ≤ 1000000) {K E : List (Arr 2 Int)} (hK : PathLaw n c K) (hKp : ∀ e ∈ K, IsP n e) (hKf : Forest n K) (hE : ∀ e ∈ E, IsP n e) (hEf : Forest n E) (hl : K.length = E.length) : PathLaw n c E ↔ wS c E = wS c K :=
  ⟨fun h => Nat.le_antisymm (h.least hbd hE hEf hKp hKf hl.symm) (hK.least hbd hKp hKf hE hEf hl), fun h => hK.of_same hbd hKp hKf hE hEf hl h.symm⟩

end Go.Proofs.Ytolfkfjjifdmeaa
