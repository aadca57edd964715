/- What pairs connect, and that the program's names tell it. -/
import Derived.Test.YtolfkfjjifdmeaaM1
import Derived.Test.YtolfkfjjifdmeaaPStab
import Derived.Test.YtolfkfjjifdmeaaPPairs
import Derived.Test.YtolfkfjjifdmeaaPure
namespace Go.Proofs.Ytolfkfjjifdmeaa
open Eng
set_option linter.unusedVariables false
set_option linter.unusedSimpArgs false

def Touch (e : Arr 2 Int) (b c : Nat) : Prop := (pa0 e = b ∧ pa1 e = c) ∨ (pa0 e = c ∧ pa1 e = b)
/-- what is connected by pairs -/
inductive Cn (E : List (Arr 2 Int)) : Nat → Nat → Prop
  | refl (a : Nat) : Cn E a a
  | step {a b c : Nat} : Cn E a b → (∃ e ∈ E, Touch e b c) → Cn E a c
theorem Touch.symm {e : Arr 2 Int} {b c : Nat} (h : Touch e b c) : Touch e c b := by
  rcases h with ⟨h1, h2⟩ | ⟨h1, h2⟩
  · exact .inr ⟨h1, h2⟩
  · exact .inl ⟨h1, h2⟩
theorem Cn.trans {E : List (Arr 2 Int)} {a b c : Nat} (h : Cn E a b) (k : Cn E b c) : Cn E a c := by
  induction k with
  | refl => exact h
  | step _ e ih => exact .step ih e
theorem Cn.one {E : List (Arr 2 Int)} {b c : Nat} (h : ∃ e ∈ E, Touch e b c) : Cn E b c := .step (.refl b) h
theorem Cn.symm {E : List (Arr 2 Int)} {a b : Nat} (h : Cn E a b) : Cn E b a := by
  induction h with
  | refl => exact .refl _
  | step _ e ih => obtain ⟨e, he, ht⟩ := e; exact (Cn.one ⟨e, he, ht.symm⟩).trans ih
theorem Cn.mono {E F : List (Arr 2 Int)} {a b : Nat} (h : Cn E a b) (hs : ∀ e ∈ E, e ∈ F) : Cn F a b := by
  induction h with
  | refl => exact .refl _
  | step _ e ih => obtain ⟨e, he, ht⟩ := e; exact .step ih ⟨e, hs e he, ht⟩
/-- the pairs are of numbers below n -/
def IsE (n : Nat) (E : List (Arr 2 Int)) : Prop := ∀ e ∈ E, ∃ i k, e = prA i k ∧ i < n ∧ k < n
theorem Cn.lt {n : Nat} {E : List (Arr 2 Int)} (hE : IsE n E) {a b : Nat} (h : Cn E a b) (ha : a < n) : b < n := by
  induction h with
  | refl => exact ha
  | step _ e ih =>
    obtain ⟨e, he, ht⟩ := e
    obtain ⟨i, k, rfl, h1, h2⟩ := hE e he
    unfold Touch at ht
    rw [pa0_is, pa1_is] at ht
    omega
/-! names -/
def upd (g : Nat → Nat) (i m : Nat) : Nat → Nat := fun v => if v = i then m else g v
def labL (n : Nat) (g : Nat → Nat) : List Int := (List.range n).map fun v => ((g v : Nat) : Int)
theorem labL_len (n : Nat) (g : Nat → Nat) : (labL n g).length = n := by simp [labL]
theorem labL_ix {n : Nat} {g : Nat → Nat} {v : Nat} (h : v < n) : ix (labL n g) (v : Int) = some ((g v : Nat) : Int) := by
  rw [ix_lt (by rw [labL_len]; exact h)]; simp [labL]
theorem labL_set {n : Nat} {g : Nat → Nat} {i : Nat} (m : Nat) : (labL n g).set i ((m : Nat) : Int) = labL n (upd g i m) := by
  apply List.ext_getElem?
  intro v
  rw [List.getElem?_set]
  simp only [labL, List.length_map, List.length_range, List.getElem?_map, upd]
  by_cases h : v < n
  · rw [List.getElem?_range h]
    by_cases e : i = v
    · subst e; simp [h]
    · simp [e, Ne.symm e]
  · rw [List.getElem?_eq_none (by simpa using h)]
    by_cases e : i = v
    · subst e; simp [h]
    · simp [e]
/-- a pair's ends get the least of both names -/
def relE (g : Nat → Nat) (e : Arr 2 Int) : Nat → Nat := upd (upd g (pa0 e) (min (g (pa0 e)) (g (pa1 e)))) (pa1 e) (min (g (pa0 e)) (g (pa1 e)))
theorem relE_le (g : Nat → Nat) (e : Arr 2 Int) (v : Nat) : relE g e v ≤ g v := by
  unfold relE upd
  split
  · rename_i h; subst h; exact Nat.min_le_right _ _
  · split
    · rename_i h; subst h; exact Nat.min_le_left _ _
    · exact Nat.le_refl _
theorem relE_0 (g : Nat → Nat) (e : Arr 2 Int) : relE g e (pa0 e) = min (g (pa0 e)) (g (pa1 e)) := by
  unfold relE upd; split <;> simp
theorem relE_1 (g : Nat → Nat) (e : Arr 2 Int) : relE g e (pa1 e) = min (g (pa0 e)) (g (pa1 e)) := by
  unfold relE upd; simp
theorem fold_le (E : List (Arr 2 Int)) : ∀ (g : Nat → Nat) (v : Nat), E.foldl relE g v ≤ g v := by
  induction E with
  | nil => intro g v; exact Nat.le_refl _
  | cons e E ih => intro g v; exact Nat.le_trans (ih _ v) (relE_le g e v)
/-- names are names of what is connected -/
def OkG (E : List (Arr 2 Int)) (g : Nat → Nat) : Prop := ∀ v, Cn E v (g v) ∧ g v ≤ v
theorem OkG.rel {E : List (Arr 2 Int)} {g : Nat → Nat} (h : OkG E g) {e : Arr 2 Int} (he : e ∈ E) : OkG E (relE g e) := by
  intro v
  refine ⟨?_, Nat.le_trans (relE_le g e v) (h v).2⟩
  have hm : Cn E (pa0 e) (min (g (pa0 e)) (g (pa1 e))) := by
    rcases Nat.le_total (g (pa0 e)) (g (pa1 e)) with h1 | h1
    · rw [Nat.min_eq_left h1]; exact (h _).1
    · rw [Nat.min_eq_right h1]; exact (Cn.one ⟨e, he, .inl ⟨rfl, rfl⟩⟩).trans (h _).1
  unfold relE upd
  split
  · rename_i hv; subst hv; exact (Cn.one ⟨e, he, .inr ⟨rfl, rfl⟩⟩).trans hm
  · split
    · rename_i hv; subst hv; exact hm
    · exact (h v).1
theorem OkG.fold {E : List (Arr 2 Int)} : ∀ (F : List (Arr 2 Int)) {g : Nat → Nat}, OkG E g → (∀ e ∈ F, e ∈ E) → OkG E (F.foldl relE g) := by
  intro F
  induction F with
  | nil => intro g h _; exact h
  | cons e F ih => intro g h hs; exact ih (h.rel (hs e (by simp))) (fun x hx => hs x (by simp [hx]))
/-- a name that is the least there is -/
def FinG (E : List (Arr 2 Int)) (g : Nat → Nat) (v : Nat) : Prop := ∀ u, Cn E u v → g v ≤ u
theorem FinG.mono {E : List (Arr 2 Int)} {g g' : Nat → Nat} {v : Nat} (h : FinG E g v) (hle : g' v ≤ g v) : FinG E g' v := fun u hu => Nat.le_trans hle (h u hu)
theorem FinG.over {E : List (Arr 2 Int)} {g : Nat → Nat} {e : Arr 2 Int} (he : e ∈ E) (h : FinG E g (pa0 e) ∨ FinG E g (pa1 e)) : FinG E (relE g e) (pa0 e) ∧ FinG E (relE g e) (pa1 e) := by
  have c01 : Cn E (pa0 e) (pa1 e) := Cn.one ⟨e, he, .inl ⟨rfl, rfl⟩⟩
  rcases h with h | h
  · have hm : ∀ u, Cn E u (pa0 e) → min (g (pa0 e)) (g (pa1 e)) ≤ u := fun u hu => Nat.le_trans (Nat.min_le_left _ _) (h u hu)
    exact ⟨fun u hu => by rw [relE_0]; exact hm u hu, fun u hu => by rw [relE_1]; exact hm u (hu.trans c01.symm)⟩
  · have hm : ∀ u, Cn E u (pa1 e) → min (g (pa0 e)) (g (pa1 e)) ≤ u := fun u hu => Nat.le_trans (Nat.min_le_right _ _) (h u hu)
    exact ⟨fun u hu => by rw [relE_0]; exact hm u (hu.trans c01), fun u hu => by rw [relE_1]; exact hm u hu⟩
def SetG (E : List (Arr 2 Int)) (g : Nat → Nat) (e : Arr 2 Int) : Prop := FinG E g (pa0 e) ∧ FinG E g (pa1 e)
theorem SetG.round {E : List (Arr 2 Int)} {g : Nat → Nat} {e : Arr 2 Int} (he : e ∈ E) (h : FinG E g (pa0 e) ∨ FinG E g (pa1 e)) : SetG E (E.foldl relE g) e := by
  obtain ⟨E1, E2, hEE⟩ := List.append_of_mem he
  have hf : E.foldl relE g = E2.foldl relE (relE (E1.foldl relE g) e) := by rw [hEE, List.foldl_append, List.foldl_cons]
  have h1 := FinG.over he (g := E1.foldl relE g) (h.imp (fun h => h.mono (fold_le E1 g _)) (fun h => h.mono (fold_le E1 g _)))
  rw [hf]
  exact ⟨h1.1.mono (fold_le E2 _ _), h1.2.mono (fold_le E2 _ _)⟩
open Classical in
theorem countP_lt {S : Type} {p q : S → Prop} : ∀ {E : List S} {e : S}, (∀ x ∈ E, p x → q x) → e ∈ E → ¬ p e → q e → E.countP (fun x => decide (p x)) + 1 ≤ E.countP (fun x => decide (q x)) := by
  intro E
  induction E with
  | nil => intro e _ h; simp at h
  | cons x E ih =>
    intro e hpq he hp hq
    have hle : E.countP (fun x => decide (p x)) ≤ E.countP (fun x => decide (q x)) := List.countP_mono_left (fun y hy h => by
      simp only [decide_eq_true_eq] at h ⊢; exact hpq y (by simp [hy]) h)
    rw [List.countP_cons, List.countP_cons]
    rcases List.mem_cons.1 he with rfl | he
    · simp [hp, hq]; omega
    · have := ih (fun y hy => hpq y (by simp [hy])) he hp hq
      by_cases hx : p x
      · have := hpq x (by simp) hx
        simp [hx, this]; omega
      · simp [hx]; split <;> omega
/-- between what has its name and what has not there is a pair -/
theorem cross {E : List (Arr 2 Int)} {g : Nat → Nat} (hg : OkG E g) {v : Nat} (h : ¬ FinG E g v) : ∃ e ∈ E, ¬ SetG E g e ∧ (FinG E g (pa0 e) ∨ FinG E g (pa1 e)) := by
  have hmin : ∀ k u : Nat, u ≤ k → Cn E u v → ∃ u0, Cn E u0 v ∧ ∀ x, Cn E x v → u0 ≤ x := by
    intro k
    induction k with
    | zero => intro u hu hc; exact ⟨u, hc, fun x _ => by omega⟩
    | succ k ih =>
      intro u hu hc
      by_cases hx : ∃ x, Cn E x v ∧ x < u
      · obtain ⟨x, hx, hxu⟩ := hx; exact ih x (by omega) hx
      · exact ⟨u, hc, fun x hxc => by
          rcases Nat.lt_or_ge x u with c | c
          · exact absurd ⟨x, hxc, c⟩ hx
          · exact c⟩
  obtain ⟨u0, h1, h2⟩ := hmin v v (Nat.le_refl _) (.refl v)
  have hu0 : FinG E g u0 := fun u hu => Nat.le_trans (hg u0).2 (h2 u (hu.trans h1))
  have key : ∀ w, Cn E u0 w → FinG E g w ∨ ∃ e ∈ E, ¬ SetG E g e ∧ (FinG E g (pa0 e) ∨ FinG E g (pa1 e)) := by
    intro w hw
    induction hw with
    | refl => exact .inl hu0
    | @step b c _ he ih =>
      rcases ih with ih | ih
      · by_cases hc : FinG E g c
        · exact .inl hc
        · obtain ⟨e, he, ht⟩ := he
          rcases ht with ⟨t1, t2⟩ | ⟨t1, t2⟩
          · exact .inr ⟨e, he, fun hs => hc (t2 ▸ hs.2), .inl (t1 ▸ ih)⟩
          · exact .inr ⟨e, he, fun hs => hc (t1 ▸ hs.1), .inr (t2 ▸ ih)⟩
      · exact .inr ih
  rcases key v h1 with h3 | h3
  · exact absurd h3 h
  · exact h3
def rounds (E : List (Arr 2 Int)) : Nat → Nat → Nat
  | 0 => id
  | r + 1 => E.foldl relE (rounds E r)
theorem rounds_ok (E : List (Arr 2 Int)) : ∀ r, OkG E (rounds E r)
  | 0 => fun v => ⟨.refl v, Nat.le_refl v⟩
  | r + 1 => (rounds_ok E r).fold E (fun _ h => h)
open Classical in
theorem rounds_fin (E : List (Arr 2 Int)) : ∀ r, (∀ v, FinG E (rounds E r) v) ∨ r ≤ E.countP (fun e => decide (SetG E (rounds E r) e)) := by
  intro r
  induction r with
  | zero => exact .inr (Nat.zero_le _)
  | succ r ih =>
    by_cases hall : ∀ v, FinG E (rounds E r) v
    · exact .inl fun v => (hall v).mono (fold_le E _ v)
    · rcases ih with ih | ih
      · exact absurd ih hall
      · obtain ⟨v, hv⟩ := Classical.not_forall.1 hall
        obtain ⟨e, he, h1, h2⟩ := cross (rounds_ok E r) hv
        right
        have := countP_lt (p := fun e => SetG E (rounds E r) e) (q := fun e => SetG E (rounds E (r + 1)) e) (fun x hx h => SetG.round hx (.inl h.1)) he h1 (SetG.round he h2)
        omega
open Classical in
theorem rounds_all (E : List (Arr 2 Int)) : ∀ v, FinG E (rounds E E.length) v := by
  rcases rounds_fin E E.length with h | h
  · exact h
  · intro v
    refine Classical.byContradiction fun hv => ?_
    obtain ⟨e, he, h1, _⟩ := cross (rounds_ok E E.length) hv
    have hle := List.countP_le_length (p := fun e => decide (SetG E (rounds E E.length) e)) (l := E)
    have heq := List.countP_eq_length.1 (Nat.le_antisymm hle h)
    exact h1 (by simpa using heq e he)
theorem rounds_same (E : List (Arr 2 Int)) (a b : Nat) : rounds E E.length a = rounds E E.length b ↔ Cn E a b := by
  have hok := rounds_ok E E.length
  have hf := rounds_all E
  constructor
  · intro h
    have h2 := (hok b).1
    rw [← h] at h2
    exact (hok a).1.trans h2.symm
  · intro h
    refine Nat.le_antisymm (hf a _ ?_) (hf b _ ?_)
    · exact (hok b).1.symm.trans h.symm
    · exact (hok a).1.symm.trans h
theorem joined_is {n : Nat} {E : List (Arr 2 Int)} (hE : IsE n E) (hn : n ≤ 1000) (hl : E.length ≤ 1000000) : impl_joined (n : Int) E = some (labL n (rounds E E.length)) := by
  have h0 : loop (impl_joined.l_26 (n : Int)) ([], 0) = some (labL n (rounds E 0)) := by
    have := loop_seq (f := impl_joined.l_26 (n : Int)) n (fun k => (labL k id, (k : Int))) (labL n id) (fun k hk => by
      simp only [impl_joined.l_26]
      rw [if_pos (by rw [decide_eq_true_eq]; omega), if_pos (by rw [labL_len]; simp; omega), w64_in (by omega) (by omega)]
      simp [labL, List.range_succ]) (by
      simp only [impl_joined.l_26]
      rw [if_neg (by simp)])
    simpa [labL, rounds] using this
  have inner : ∀ g, loop (impl_joined.l_13 E) (labL n g, 0) = some (labL n (E.foldl relE g)) := by
    intro g
    have := loop_seq (f := impl_joined.l_13 E) E.length (fun k => (labL n ((E.take k).foldl relE g), (k : Int))) (labL n (E.foldl relE g)) (fun k hk => by
      generalize hg : (E.take k).foldl relE g = g1
      have hg2 : (E.take (k + 1)).foldl relE g = relE g1 E[k] := by
        rw [List.take_add_one, List.getElem?_eq_getElem hk, Option.toList_some, List.foldl_append, hg]; rfl
      rw [hg2]
      obtain ⟨i, j, he, hi, hj⟩ := hE E[k] (List.getElem_mem hk)
      have hmin : (if ((g1 j : Nat) : Int) < ((g1 i : Nat) : Int) then ((g1 j : Nat) : Int) else ((g1 i : Nat) : Int)) = ((min (g1 i) (g1 j) : Nat) : Int) := by
        split <;> omega
      simp only [impl_joined.l_13, ix_lt hk, Option.bind_some, he, prA_0, prA_1, labL_ix hi, labL_ix hj, hmin, Int.toNat_natCast, labL_set]
      rw [if_pos (by rw [decide_eq_true_eq]; omega), w64_in (by omega) (by omega)]
      simp [relE, pa0_is, pa1_is]) (by
      simp only [impl_joined.l_13]
      rw [if_neg (by simp), List.take_length])
    simpa using this
  have h1 : loop (impl_joined.l_7 E) (labL n (rounds E 0), 0) = some (labL n (rounds E E.length)) := by
    have := loop_seq (f := impl_joined.l_7 E) E.length (fun k => (labL n (rounds E k), (k : Int))) (labL n (rounds E E.length)) (fun k hk => by
      simp only [impl_joined.l_7, inner, Option.bind_some, impl_joined.k_10]
      rw [if_pos (by rw [decide_eq_true_eq]; omega), w64_in (by omega) (by omega)]
      rfl) (by
      simp only [impl_joined.l_7]
      rw [if_neg (by simp)])
    simpa using this
  simp only [impl_joined, h0, Option.bind_some, impl_joined.k_2, h1, impl_joined.k_4]

end Go.Proofs.Ytolfkfjjifdmeaa
