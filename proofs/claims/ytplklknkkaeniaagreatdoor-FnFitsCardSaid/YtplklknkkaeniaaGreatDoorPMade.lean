/- Notes put in order, each once: the program sorts and takes out what is twice, the reference puts one after the other; they come to one list. -/
import Derived.Test.YtplklknkkaeniaaGreatDoorM0
import Derived.Test.YtplklknkkaeniaaGreatDoorM1
import Derived.Test.YtplklknkkaeniaaGreatDoorM2
import Derived.Test.YtplklknkkaeniaaGreatDoorPFrame
import Derived.Test.YtplklknkkaeniaaGreatDoorPDrum
import Derived.Test.YtplklknkkaeniaaGreatDoorPTune
import Derived.Test.YtplklknkkaeniaaGreatDoorPure
namespace Go.Proofs.YtplklknkkaeniaaGreatDoor
open Eng
set_option linter.unusedVariables false
set_option linter.unusedSimpArgs false

/-! ### the order -/
theorem befN_asymm {a b : GNote} (h1 : befN a b = true) (h2 : befN b a = true) : False := by
  rw [befN_iff] at h1 h2; omega
theorem befN_trans {a b c : GNote} (h1 : befN a b = true) (h2 : befN b c = true) : befN a c = true := by
  rw [befN_iff] at h1 h2 ⊢; omega
theorem note_ext {a b : GNote} (h1 : a.fAt = b.fAt) (h2 : a.fPitch = b.fPitch) : a = b := by
  cases a; cases b; simp_all
theorem befN_total {a b : GNote} (h1 : ¬ befN a b = true) (h2 : a ≠ b) : befN b a = true := by
  rw [befN_iff] at h1 ⊢
  have : ¬ (a.fAt = b.fAt ∧ a.fPitch = b.fPitch) := fun h => h2 (note_ext h.1 h.2)
  omega
theorem befN_irrefl (a : GNote) : ¬ befN a a = true := by rw [befN_iff]; omega
abbrev Strict (l : List GNote) : Prop := l.Pairwise fun x y => befN x y = true
theorem strict_eq : ∀ (a b : List GNote), Strict a → Strict b → (∀ x, x ∈ a ↔ x ∈ b) → a = b := by
  intro a
  induction a with
  | nil =>
    intro b _ _ h
    cases b with
    | nil => rfl
    | cons y b => exact absurd ((h y).2 (by simp)) (by simp)
  | cons x a ih =>
    intro b ha hb h
    cases b with
    | nil => exact absurd ((h x).1 (by simp)) (by simp)
    | cons y b =>
      unfold Strict at ha hb
      rw [List.pairwise_cons] at ha hb
      have hxy : x = y := by
        refine Classical.byContradiction fun e => ?_
        have h1 : x ∈ b := by
          rcases List.mem_cons.1 ((h x).1 (by simp)) with h1 | h1
          · exact absurd h1 e
          · exact h1
        have h2 : y ∈ a := by
          rcases List.mem_cons.1 ((h y).2 (by simp)) with h2 | h2
          · exact absurd h2.symm e
          · exact h2
        exact befN_asymm (ha.1 y h2) (hb.1 x h1)
      subst hxy
      rw [ih b ha.2 hb.2 fun z => ?_]
      constructor
      · intro hz
        rcases List.mem_cons.1 ((h z).1 (List.mem_cons_of_mem _ hz)) with e | e
        · subst e; exact absurd (ha.1 z hz) (befN_irrefl z)
        · exact e
      · intro hz
        rcases List.mem_cons.1 ((h z).2 (List.mem_cons_of_mem _ hz)) with e | e
        · subst e; exact absurd (hb.1 z hz) (befN_irrefl z)
        · exact e
theorem eqN (a b : GNote) : ((a.fAt == b.fAt) && (a.fPitch == b.fPitch)) = decide (a = b) := by
  rw [Bool.eq_iff_iff, decide_eq_true_eq]
  simp only [Bool.and_eq_true, beq_iff_eq]
  constructor
  · rintro ⟨h1, h2⟩; exact note_ext h1 h2
  · rintro rfl; exact ⟨rfl, rfl⟩
/-! ### the reference: one after the other -/
theorem place_is (list xs : List GNote) (hx : xs.length ≤ 1000000) {i : Nat} (hi : i < list.length) : ∃ j, j ≤ xs.length ∧ loop (spec_l01Sorted.l_14 list xs (i : Int)) 0 = some (j : Int) ∧ (∀ (m : Nat) (hm : m < xs.length), m < j → befN xs[m] list[i] = true) ∧ (∀ hj : j < xs.length, ¬ befN xs[j] list[i] = true) := by
  obtain ⟨r, hr, k, rfl, hk, h1, h2⟩ := loop_inv (f := spec_l01Sorted.l_14 list xs (i : Int)) (fun s => ∃ k : Nat, k ≤ xs.length ∧ s = (k : Int) ∧ ∀ (m : Nat) (hm : m < xs.length), m < k → befN xs[m] list[i] = true) (fun s => xs.length - s.toNat)
    (fun r => ∃ k : Nat, r = (k : Int) ∧ k ≤ xs.length ∧ (∀ (m : Nat) (hm : m < xs.length), m < k → befN xs[m] list[i] = true) ∧ (∀ hj : k < xs.length, ¬ befN xs[k] list[i] = true)) (by
    rintro _ ⟨k, hk, rfl, h⟩
    by_cases hlt : k < xs.length
    · simp only [spec_l01Sorted.l_14, ix_lt hlt, ix_lt hi, Option.bind_some, l01Before_is]
      rw [if_pos (by simpa using hlt)]
      cases hb : befN xs[k] list[i] with
      | true =>
        left
        refine ⟨((k + 1 : Nat) : Int), by rw [w64_in (n := (k : Int) + 1) (by omega) (by omega)]; simp, ⟨k + 1, by omega, rfl, fun m hm hmk => ?_⟩, by omega⟩
        by_cases e : m = k
        · subst e; exact hb
        · exact h m hm (by omega)
      | false =>
        right
        exact ⟨_, by simp, k, rfl, hk, h, fun _ => by rw [hb]; simp⟩
    · right
      simp only [spec_l01Sorted.l_14]
      rw [if_neg (by simpa using hlt)]
      exact ⟨_, rfl, k, rfl, hk, h, fun h' => absurd h' hlt⟩) 0 ⟨0, by omega, rfl, fun m _ h => by omega⟩
  exact ⟨k, hk, hr, h1, h2⟩
theorem insert_strict {xs : List GNote} {x : GNote} (hs : Strict xs) {j : Nat} (h1 : ∀ (m : Nat) (hm : m < xs.length), m < j → befN xs[m] x = true) (h2 : ∀ hj : j < xs.length, befN x xs[j] = true) : Strict (xs.take j ++ x :: xs.drop j) := by
  have hlow : ∀ a ∈ xs.take j, befN a x = true := by
    intro a ha
    obtain ⟨i, hi, rfl⟩ := List.mem_iff_getElem.1 ha
    rw [List.length_take] at hi
    rw [List.getElem_take]
    exact h1 i (by omega) (by omega)
  have hhigh : ∀ b ∈ xs.drop j, befN x b = true := by
    intro b hb
    obtain ⟨i, hi, rfl⟩ := List.mem_iff_getElem.1 hb
    rw [List.length_drop] at hi
    rw [List.getElem_drop]
    have hj : j < xs.length := by omega
    cases i with
    | zero => simpa using h2 hj
    | succ i => exact befN_trans (h2 hj) (List.pairwise_iff_getElem.1 hs j (j + (i + 1)) hj (by omega) (by omega))
  unfold Strict
  rw [List.pairwise_append]
  refine ⟨hs.sublist (List.take_sublist _ _), ?_, ?_⟩
  · rw [List.pairwise_cons]
    exact ⟨hhigh, hs.sublist (List.drop_sublist _ _)⟩
  · intro a ha b hb
    rcases List.mem_cons.1 hb with rfl | hb
    · exact hlow a ha
    · exact befN_trans (hlow a ha) (hhigh b hb)
theorem insert_mem (xs : List GNote) (x : GNote) (j : Nat) (y : GNote) : y ∈ xs.take j ++ x :: xs.drop j ↔ y = x ∨ y ∈ xs := by
  have : y ∈ xs ↔ y ∈ xs.take j ∨ y ∈ xs.drop j := by
    rw [← List.mem_append, List.take_append_drop]
  rw [this, List.mem_append, List.mem_cons]
  constructor
  · rintro (h | h | h)
    · exact .inr (.inl h)
    · exact .inl h
    · exact .inr (.inr h)
  · rintro (h | h | h)
    · exact .inr (.inl h)
    · exact .inl h
    · exact .inr (.inr h)
theorem l01Sorted_is (list : List GNote) (hl : list.length ≤ 1000000) : ∃ r, spec_l01Sorted list = some r ∧ Strict r ∧ (∀ x, x ∈ r ↔ x ∈ list) ∧ r.length ≤ list.length := by
  obtain ⟨r, hr, h1, h2, h3⟩ := loop_for (f := spec_l01Sorted.l_5 list) list.length (by omega) (fun k xs => Strict xs ∧ (∀ x, x ∈ xs ↔ x ∈ list.take k) ∧ xs.length ≤ k) (fun r => Strict r ∧ (∀ x, x ∈ r ↔ x ∈ list) ∧ r.length ≤ list.length)
    (fun k xs hk hi => by
      obtain ⟨g1, g2, g3⟩ := hi
      left
      obtain ⟨j, hj, e1, e2, e3⟩ := place_is list xs (by omega) hk
      have hmem : ∀ x, x ∈ list.take (k + 1) ↔ x ∈ list.take k ∨ x = list[k] := by
        intro x
        rw [List.take_succ_eq_append_getElem hk, List.mem_append, List.mem_singleton]
      have ins : (∀ hj : j < xs.length, xs[j] ≠ list[k]) → ∃ a', spec_l01Sorted.k_9 list xs (k : Int) (j : Int) = some (.inl (a', w64 ((k : Int) + 1))) ∧ (Strict a' ∧ (∀ x, x ∈ a' ↔ x ∈ list.take (k + 1)) ∧ a'.length ≤ k + 1) := by
        intro hne
        refine ⟨xs.take j ++ list[k] :: xs.drop j, ?_, insert_strict g1 e2 (fun hj' => befN_total (e3 hj') (hne hj')), fun x => ?_, ?_⟩
        · simp only [spec_l01Sorted.k_9, ix_lt hk, Option.bind_some, Int.toNat_natCast, List.nil_append, List.length_nil]
          rw [if_pos (by omega), if_pos (by simp only [List.length_drop]; omega), if_pos (by omega), if_pos (by simp only [List.length_cons, List.length_nil]; omega), if_pos (by simp only [List.length_append, List.length_take, List.length_drop, List.length_cons, List.length_nil]; omega)]
          simp
        · rw [insert_mem, hmem, g2]
          exact or_comm
        · simp only [List.length_append, List.length_take, List.length_drop, List.length_cons]; omega
      simp only [spec_l01Sorted.l_5, e1, Option.bind_some, spec_l01Sorted.k_8]
      rw [if_pos (by simpa using hk)]
      by_cases hjl : j < xs.length
      · rw [if_pos (by simpa using hjl)]
        simp only [ix_lt hjl, ix_lt hk, Option.bind_some, eqN]
        by_cases e : xs[j] = list[k]
        · rw [if_pos (by simpa using e)]
          refine ⟨xs, rfl, g1, fun x => ?_, by omega⟩
          rw [hmem, g2]
          constructor
          · exact .inl
          · rintro (h | h)
            · exact h
            · rw [h, ← e]; exact (g2 _).1 (List.getElem_mem hjl)
        · rw [if_neg (by simpa using e)]
          exact ins fun _ => e
      · rw [if_neg (by simpa using hjl)]
        exact ins fun h => absurd h hjl)
    (fun xs hi => by
      obtain ⟨g1, g2, g3⟩ := hi
      rw [List.take_length] at g2
      exact ⟨xs, by simp [spec_l01Sorted.l_5], g1, g2, g3⟩) [] ⟨by simp, by simp, by simp⟩
  exact ⟨r, by simp only [spec_l01Sorted, hr, Option.bind_some, spec_l01Sorted.k_2], h1, h2, h3⟩
/-! ### the program: sorted, and what is twice taken out -/
def Weak (l : List GNote) : Prop := ∀ i j : Nat, i < j → (hj : j < l.length) → (hi : i < l.length) → ¬ befN l[j] l[i] = true
theorem weak_strict {l : List GNote} (h : Weak l) {p : Nat} (hp : p ≤ l.length) (hne : ∀ k : Nat, 1 ≤ k → k < p → (hk : k < l.length) → l[k] ≠ l[k - 1]) : Strict (l.take p) := by
  have adj : ∀ k : Nat, 1 ≤ k → k < p → (hk : k < l.length) → befN l[k - 1] l[k] = true := fun k h1 h2 hk => befN_total (h (k - 1) k (by omega) hk (by omega)) (hne k h1 h2 hk)
  have far : ∀ (d i : Nat), i + d + 1 < p → (hj : i + d + 1 < l.length) → (hi : i < l.length) → befN l[i] l[i + d + 1] = true := by
    intro d
    induction d with
    | zero => intro i h1 hj hi; exact adj (i + 1) (by omega) (by omega) hj
    | succ d ih =>
      intro i h1 hj hi
      have a := ih i (by omega) (by omega) hi
      have b := adj (i + d + 2) (by omega) (by omega) (by omega)
      exact befN_trans a b
  unfold Strict
  rw [List.pairwise_iff_getElem]
  intro i j hi hj hij
  rw [List.length_take] at hi hj
  rw [List.getElem_take, List.getElem_take]
  have := far (j - i - 1) i (by omega) (by omega) (by omega)
  have e : i + (j - i - 1) + 1 = j := by omega
  simpa only [e] using this
theorem take_snoc_set {S : Type} {xs : List S} {i : Nat} (h : i < xs.length) (v : S) : (xs.set i v).take (i + 1) = xs.take i ++ [v] := by
  rw [List.take_succ_eq_append_getElem (by simpa using h), List.take_set, List.set_eq_of_length_le (by rw [List.length_take]; omega)]
  simp
theorem compact_is (s : List GNote) (hl : s.length ≤ 1000000) (hw : Weak s) : ∃ r, slices_Compact_Note s = some r ∧ Strict r ∧ (∀ x, x ∈ r ↔ x ∈ s) := by
  by_cases h2 : s.length < 2
  · refine ⟨s, by simp only [slices_Compact_Note]; rw [if_pos (by rw [decide_eq_true_eq]; omega)], ?_, fun _ => Iff.rfl⟩
    have := weak_strict hw (p := s.length) (Nat.le_refl _) (fun k h1 h2 hk => by omega)
    rwa [List.take_length] at this
  · have hq : ∃ t, loop (slices_Compact_Note.l_3 s) 1 = some t ∧ ((∃ r, t = .inl r ∧ Strict r ∧ ∀ x, x ∈ r ↔ x ∈ s) ∨ (t = .inr () ∧ Strict s)) := by
      refine loop_inv (f := slices_Compact_Note.l_3 s) (fun i => ∃ p : Nat, 1 ≤ p ∧ p ≤ s.length ∧ i = (p : Int) ∧ ∀ k : Nat, 1 ≤ k → k < p → (hk : k < s.length) → s[k] ≠ s[k - 1]) (fun i => s.length - i.toNat) _ ?_ 1 ⟨1, by omega, by omega, rfl, fun k h1 h2 => by omega⟩
      rintro _ ⟨p, hp1, hp2, rfl, hne⟩
      by_cases hlt : p < s.length
      · have e1 : w64 ((p : Int) - 1) = ((p - 1 : Nat) : Int) := by rw [w64_in (by omega) (by omega)]; omega
        simp only [slices_Compact_Note.l_3, ix_lt hlt, e1, ix_lt (show p - 1 < s.length by omega), Option.bind_some, eqN, Int.toNat_natCast]
        rw [if_pos (by rw [decide_eq_true_eq]; omega)]
        by_cases e : s[p] = s[p - 1]
        · right
          rw [if_pos (by simpa using e), if_pos (by omega)]
          obtain ⟨⟨ys, _⟩, hr, i, rfl, g1, g2, g3, g4⟩ := loop_inv (f := slices_Compact_Note.l_13 s (p : Int)) (fun st => ∃ (i m : Nat), st.2.1 = (i : Int) ∧ st.2.2 = ((m - p : Nat) : Int) ∧ p + 1 ≤ m ∧ m ≤ s.length ∧ i + 1 ≤ m ∧ st.1.length = s.length ∧ Strict (st.1.take i) ∧ (∀ x, x ∈ st.1.take i ↔ x ∈ s.take m) ∧ ∀ j, i ≤ j → st.1[j]? = s[j]?) (fun st => s.length - p - st.2.2.toNat)
            (fun r => ∃ i : Nat, r.2 = (i : Int) ∧ i ≤ r.1.length ∧ r.1.length = s.length ∧ Strict (r.1.take i) ∧ ∀ x, x ∈ r.1.take i ↔ x ∈ s) (by
            rintro ⟨xs, _, _⟩ ⟨i, m, rfl, rfl, m1, m2, m3, xl, st, mem, un⟩
            simp only at xl st mem un
            by_cases hm : m < s.length
            · have hget : ∀ j, i ≤ j → (hj : j < s.length) → ix (xs.drop p) ((j - p : Nat) : Int) = if p ≤ j then some s[j] else ix (xs.drop p) ((j - p : Nat) : Int) := by
                intro j hij hj
                by_cases hpj : p ≤ j
                · rw [if_pos hpj]
                  refine ix_get ?_
                  rw [List.getElem?_drop, show p + (j - p) = j by omega, un j hij, List.getElem?_eq_getElem hj]
                · rw [if_neg hpj]
              have f1 := hget m (by omega) hm
              have f2 := hget (m - 1) (by omega) (by omega)
              rw [if_pos (by omega)] at f1 f2
              have e2 : w64 (((m - p : Nat) : Int) - 1) = ((m - 1 - p : Nat) : Int) := by rw [w64_in (by omega) (by omega)]; omega
              have e3 : w64 (((m - p : Nat) : Int) + 1) = ((m + 1 - p : Nat) : Int) := by rw [w64_in (by omega) (by omega)]; omega
              have hi : i < xs.length := by omega
              simp only [slices_Compact_Note.l_13, Int.toNat_natCast, f1, e2, f2, e3, Option.bind_some, eqN]
              rw [if_pos (by rw [decide_eq_true_eq]; omega)]
              left
              have htk : s.take (m + 1) = s.take m ++ [s[m]] := List.take_succ_eq_append_getElem hm
              have hin : s[m - 1] ∈ s.take m := by
                rw [List.mem_iff_getElem]
                exact ⟨m - 1, by rw [List.length_take]; omega, by rw [List.getElem_take]⟩
              by_cases e4 : s[m] = s[m - 1]
              · rw [if_neg (by simp [e4])]
                refine ⟨_, rfl, ⟨i, m + 1, rfl, rfl, by omega, by omega, by omega, xl, st, fun x => ?_, un⟩, by simp only; omega⟩
                rw [htk, List.mem_append, List.mem_singleton, mem]
                constructor
                · exact .inl
                · rintro (h | h)
                  · exact h
                  · rw [h, e4]; exact hin
              · rw [if_pos (by simp [e4])]
                simp only [ix_lt hi, Option.bind_some]
                rw [w64_in (n := (i : Int) + 1) (by omega) (by omega)]
                refine ⟨_, rfl, ⟨i + 1, m + 1, rfl, rfl, by omega, by omega, by omega, by simpa using xl, ?_, fun x => ?_, fun j hj => ?_⟩, by simp only; omega⟩
                · simp only
                  rw [take_snoc_set hi]
                  unfold Strict
                  rw [List.pairwise_append]
                  refine ⟨st, by simp, fun a ha b hb => ?_⟩
                  rw [List.mem_singleton] at hb
                  subst hb
                  have ha' := (mem a).1 ha
                  obtain ⟨q, hq, rfl⟩ := List.mem_iff_getElem.1 ha'
                  rw [List.length_take] at hq
                  rw [List.getElem_take]
                  have hlast : befN s[m - 1] s[m] = true := befN_total (hw (m - 1) m (by omega) hm (by omega)) e4
                  by_cases hqm : q = m - 1
                  · subst hqm; exact hlast
                  · by_cases hqe : s[q] = s[m - 1]
                    · rw [hqe]; exact hlast
                    · exact befN_trans (befN_total (hw q (m - 1) (by omega) (by omega) (by omega)) (fun h => hqe h.symm)) hlast
                · simp only
                  rw [take_snoc_set hi, htk, List.mem_append, List.mem_append, List.mem_singleton, mem]
                · simp only
                  rw [List.getElem?_set_ne (by omega)]
                  exact un j (by omega)
            · right
              simp only [slices_Compact_Note.l_13, Int.toNat_natCast]
              rw [if_neg (by rw [decide_eq_true_eq]; omega)]
              refine ⟨_, rfl, i, rfl, by simp only; omega, xl, st, fun x => ?_⟩
              rw [mem, List.take_of_length_le (by omega)]) (s, (p : Int), 1) ⟨p, p + 1, rfl, by simp, by omega, by omega, by omega, rfl, weak_strict hw (by omega) hne, fun x => by
                rw [List.take_succ_eq_append_getElem hlt, List.mem_append, List.mem_singleton]
                constructor
                · exact .inl
                · rintro (h | h)
                  · exact h
                  · rw [h, e, List.mem_iff_getElem]
                    exact ⟨p - 1, by rw [List.length_take]; show p - 1 < min p s.length; omega, by rw [List.getElem_take]⟩, fun j _ => rfl⟩
          simp only at g1 g2 g3 g4
          simp only [hr, Option.bind_some, slices_Compact_Note.k_9, Int.toNat_natCast]
          rw [if_pos (by omega)]
          exact ⟨_, rfl, .inl ⟨_, rfl, g3, g4⟩⟩
        · left
          rw [if_neg (by simpa using e), w64_in (n := (p : Int) + 1) (by omega) (by omega)]
          refine ⟨_, rfl, ⟨p + 1, by omega, by omega, by simp, fun k k1 k2 hk => ?_⟩, by omega⟩
          by_cases ek : k = p
          · subst ek; exact e
          · exact hne k k1 (by omega) hk
      · right
        simp only [slices_Compact_Note.l_3]
        rw [if_neg (by rw [decide_eq_true_eq]; omega)]
        refine ⟨_, rfl, .inr ⟨rfl, ?_⟩⟩
        have := weak_strict hw (p := s.length) (Nat.le_refl _) (fun k k1 k2 hk => hne k k1 (by omega) hk)
        rwa [List.take_length] at this
    obtain ⟨t, ht, hq⟩ := hq
    simp only [slices_Compact_Note]
    rw [if_neg (by rw [decide_eq_true_eq]; omega)]
    simp only [ht, Option.bind_some]
    rcases hq with ⟨r, rfl, g1, g2⟩ | ⟨rfl, g1⟩
    · exact ⟨r, rfl, g1, g2⟩
    · exact ⟨s, rfl, g1, fun _ => Iff.rfl⟩
theorem cmpV_befN (a b : GNote) : cmpV (fun a b => impl_compareNotes a b) a b < 0 ↔ befN a b = true := by
  show ((impl_compareNotes a b).getD 0) < 0 ↔ _
  rw [compareNotes_is]
  have := cmpN_ge a b
  simp only [Option.getD_some]
  cases h : befN a b with
  | true =>
    rw [h] at this
    have h2 : ¬ cmpN a b ≥ 0 := by simpa using this
    simp; omega
  | false =>
    rw [h] at this
    have h2 : cmpN a b ≥ 0 := by simpa using this
    simp; omega
theorem ltOf_befN (a b : GNote) : Go.Proofs.ltOf (cmpV (fun a b => impl_compareNotes a b)) a b = befN a b := by
  unfold Go.Proofs.ltOf
  rw [Bool.eq_iff_iff, decide_eq_true_eq]
  exact cmpV_befN a b
theorem befN_swo : Go.Sort.SWO (Go.Proofs.ltOf (cmpV (fun a b : GNote => impl_compareNotes a b))) where
  irrefl x := by
    rw [ltOf_befN, ← Bool.not_eq_true]; exact befN_irrefl x
  trans x y z h1 h2 := by
    rw [ltOf_befN] at h1 h2 ⊢; exact befN_trans h1 h2
  ntrans x y z h1 h2 := by
    rw [ltOf_befN, ← Bool.not_eq_true, befN_iff] at h1 h2 ⊢; omega
theorem made_is (list : List GNote) (hl : list.length ≤ 1000000) : ∃ r, impl_made list = some r ∧ spec_l01Sorted list = some r ∧ r.length ≤ list.length := by
  obtain ⟨r, h1, h2, h3, h4⟩ := l01Sorted_is list hl
  obtain ⟨u, hu⟩ := sortF_some (cmp := fun a b => impl_compareNotes a b) (xs := list) (fun a b => by rw [compareNotes_is]; rfl) befN_swo (by omega)
  obtain ⟨g1, g2, g3⟩ := sortF_sorts hu
  obtain ⟨v, k1, k2, k3⟩ := compact_is u (by omega) (fun i j hij hj hi h => g3 i j hij hj hi ((cmpV_befN _ _).2 h))
  have : v = r := strict_eq v r k2 h2 fun x => by rw [k3, h3]; exact g1.mem_iff
  subst this
  refine ⟨v, ?_, h1, h4⟩
  simp only [impl_made, slices_Clone_Note, List.nil_append, List.length_nil]
  rw [if_pos (by omega)]
  simp only [Option.bind_some, slices_SortFunc_Note_at_impl_compareNotes, hu, k1]

end Go.Proofs.YtplklknkkaeniaaGreatDoor
