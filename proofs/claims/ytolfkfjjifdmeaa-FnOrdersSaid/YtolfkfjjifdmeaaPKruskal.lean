/- The tree of least cost: the program's, by sorted pairs, and the reference's, by least pairs, are one. -/
import Derived.Test.YtolfkfjjifdmeaaM1
import Derived.Test.YtolfkfjjifdmeaaM2
import Derived.Test.YtolfkfjjifdmeaaPStab
import Derived.Test.YtolfkfjjifdmeaaPPairs
import Derived.Test.YtolfkfjjifdmeaaPJoined
import Derived.Test.YtolfkfjjifdmeaaPure
namespace Go.Proofs.Ytolfkfjjifdmeaa
open Eng
set_option linter.unusedVariables false
set_option linter.unusedSimpArgs false

/-- two groups become one -/
def mergeG (g : Nat → Nat) (a b : Nat) : Nat → Nat := fun v => if g v = g b then g a else g v
theorem count_one {p : Nat → Bool} {z : Nat} : ∀ {L : List Nat}, L.Nodup → z ∈ L → p z = true → L.countP p = L.countP (fun v => p v && v != z) + 1 := by
  intro L
  induction L with
  | nil => intro _ h; simp at h
  | cons x L ih =>
    intro hd hz hp
    obtain ⟨h1, h2⟩ := List.nodup_cons.1 hd
    rw [List.countP_cons, List.countP_cons]
    rcases List.mem_cons.1 hz with rfl | hz
    · have : L.countP p = L.countP (fun v => p v && v != z) := by
        refine List.countP_congr fun v hv => ?_
        have : v ≠ z := fun e => h1 (e ▸ hv)
        simp [this]
      simp [hp, this]
    · have hx : x ≠ z := fun e => h1 (e ▸ hz)
      rw [ih h2 hz hp]
      by_cases hpx : p x = true <;> simp [hpx, hx]
theorem count_none {p : Nat → Bool} {L : List Nat} (h : ∀ v ∈ L, p v = false) : L.countP p = 0 := by
  rw [List.countP_eq_zero]; intro v hv; simp [h v hv]
/-- groups and the pairs chosen so far -/
structure KInv (n : Nat) (g : Nat → Nat) (out : List (Arr 2 Int)) : Prop where
  isp : ∀ e ∈ out, IsP n e
  same : ∀ a b, a < n → b < n → (g a = g b ↔ Cn out a b)
  lt : ∀ v, v < n → g v < n
  idem : ∀ v, v < n → g (g v) = g v
  cnt : (List.range n).countP (fun v => g v == v) + out.length = n
theorem KInv.start (n : Nat) : KInv n id [] := by
  refine ⟨by simp, fun a b _ _ => ⟨fun h => by have h : a = b := h; subst h; exact .refl a, fun h => ?_⟩, fun v h => h, fun v _ => rfl, ?_⟩
  · cases h with
    | refl => rfl
    | step _ e => obtain ⟨e, he, _⟩ := e; simp at he
  · rw [List.countP_eq_length.2 (by simp)]; simp
theorem IsP.isE {n : Nat} {E : List (Arr 2 Int)} (h : ∀ e ∈ E, IsP n e) : IsE n E := by
  intro e he
  obtain ⟨i, k, h1, h2, h3⟩ := h e he
  exact ⟨i, k, h1, by omega, h3⟩
theorem KInv.step {n : Nat} {g : Nat → Nat} {out : List (Arr 2 Int)} (h : KInv n g out) {i k : Nat} (hik : i < k) (hk : k < n) (hne : g i ≠ g k) : KInv n (mergeG g i k) (out ++ [prA i k]) := by
  have hi : i < n := by omega
  have hT : ∃ e ∈ out ++ [prA i k], Touch e i k := ⟨prA i k, by simp, .inl ⟨pa0_is i k, pa1_is i k⟩⟩
  have hmono : ∀ {a b : Nat}, Cn out a b → Cn (out ++ [prA i k]) a b := fun h => h.mono (fun e he => by simp [he])
  refine ⟨?_, ?_, ?_, ?_, ?_⟩
  · intro e he
    rcases List.mem_append.1 he with he | he
    · exact h.isp e he
    · simp at he; subst he; exact ⟨i, k, rfl, hik, hk⟩
  · intro a b ha hb
    constructor
    · intro hab
      unfold mergeG at hab
      split at hab <;> split at hab
      · rename_i h1 h2; exact hmono ((h.same a b ha hb).1 (h1.trans h2.symm))
      · rename_i h1 h2
        have c1 := hmono ((h.same a k ha hk).1 h1)
        have c2 := hmono ((h.same i b hi hb).1 hab)
        exact (c1.trans (Cn.one hT).symm).trans c2
      · rename_i h1 h2
        have c1 := hmono ((h.same a i ha hi).1 hab)
        have c2 := hmono ((h.same b k hb hk).1 h2)
        exact (c1.trans (Cn.one hT)).trans c2.symm
      · exact hmono ((h.same a b ha hb).1 hab)
    · intro hc
      have hE : IsE n (out ++ [prA i k]) := IsP.isE (fun e he => by
        rcases List.mem_append.1 he with he | he
        · exact h.isp e he
        · simp at he; subst he; exact ⟨i, k, rfl, hik, hk⟩)
      clear hb
      induction hc with
      | refl => rfl
      | @step b c hab he ih =>
        have hb : b < n := hab.lt hE ha
        rw [ih]
        obtain ⟨e, he, ht⟩ := he
        rcases List.mem_append.1 he with he | he
        · have hc : c < n := (Cn.step (.refl b) ⟨e, he, ht⟩ : Cn out b c).lt (IsP.isE h.isp) hb
          have := (h.same b c hb hc).2 (Cn.one ⟨e, he, ht⟩)
          unfold mergeG; rw [this]
        · simp at he; subst he
          unfold Touch at ht
          rw [pa0_is, pa1_is] at ht
          have e1 : mergeG g i k i = g i := by unfold mergeG; rw [if_neg hne]
          have e2 : mergeG g i k k = g i := by unfold mergeG; rw [if_pos rfl]
          rcases ht with ⟨rfl, rfl⟩ | ⟨rfl, rfl⟩
          · rw [e1, e2]
          · rw [e1, e2]
  · intro v hv
    unfold mergeG
    split
    · exact h.lt i hi
    · exact h.lt v hv
  · intro v hv
    unfold mergeG
    by_cases h1 : g v = g k
    · rw [if_pos h1, h.idem i hi, if_neg hne]
    · rw [if_neg h1, h.idem v hv, if_neg h1]
  · have hc := count_one (p := fun v => g v == v) (z := g k) List.nodup_range (List.mem_range.2 (h.lt k hk)) (by simp [h.idem k hk])
    have he : (List.range n).countP (fun v => mergeG g i k v == v) = (List.range n).countP (fun v => (g v == v) && v != g k) := by
      refine List.countP_congr fun v hv => ?_
      have hv := List.mem_range.1 hv
      simp only [beq_iff_eq, Bool.and_eq_true, bne_iff_ne]
      unfold mergeG
      constructor
      · intro hm
        split at hm
        · rename_i h1
          exfalso
          have := h.idem i hi
          rw [hm] at this
          exact hne (by rw [hm, ← this]; exact h1)
        · rename_i h1
          exact ⟨hm, fun e => h1 (by rw [e]; exact h.idem k hk)⟩
      · rintro ⟨h1, h2⟩
        rw [if_neg (fun e => h2 (h1.symm.trans e))]; exact h1
    have := h.cnt
    rw [he, List.length_append]
    simp only [List.length_cons, List.length_nil]
    omega
/-- the pair joins two groups -/
def DiffP (g : Nat → Nat) (x : Arr 2 Int) : Prop := g (pa0 x) ≠ g (pa1 x)
instance (g : Nat → Nat) (x : Arr 2 Int) : Decidable (DiffP g x) := inferInstanceAs (Decidable (g (pa0 x) ≠ g (pa1 x)))
theorem KInv.more {n : Nat} {g : Nat → Nat} {out : List (Arr 2 Int)} (h : KInv n g out) (hn : 1 ≤ n) : out.length + 1 < n ↔ ∃ x, IsP n x ∧ DiffP g x := by
  have hc := h.cnt
  have one := count_one (p := fun v => g v == v) (z := g 0) List.nodup_range (List.mem_range.2 (h.lt 0 hn)) (by simp [h.idem 0 hn])
  constructor
  · intro hlt
    refine Classical.byContradiction fun hno => ?_
    have hall : ∀ a b, a < b → b < n → g a = g b := fun a b hab hb => Classical.byContradiction fun hd => hno ⟨prA a b, ⟨a, b, rfl, hab, hb⟩, by unfold DiffP; rw [pa0_is, pa1_is]; exact hd⟩
    have h0 : ∀ v, v < n → g v = g 0 := fun v hv => by
      rcases Nat.eq_zero_or_pos v with e | e
      · rw [e]
      · exact (hall 0 v e hv).symm
    have : (List.range n).countP (fun v => (g v == v) && v != g 0) = 0 := count_none (fun v hv => by
      have hv := List.mem_range.1 hv
      have := h0 v hv
      by_cases hg : g v = v
      · simp [hg, ← this]
      · simp [hg])
    omega
  · rintro ⟨x, ⟨i, k, rfl, hik, hk⟩, hd⟩
    unfold DiffP at hd
    rw [pa0_is, pa1_is] at hd
    have hi : i < n := by omega
    have two : ∀ z, z < n → g z ≠ g 0 → 2 ≤ (List.range n).countP (fun v => g v == v) := by
      intro z hz hne
      have := count_one (p := fun v => (g v == v) && v != g 0) (z := g z) List.nodup_range (List.mem_range.2 (h.lt z hz)) (by simp [h.idem z hz, hne])
      omega
    have : 2 ≤ (List.range n).countP (fun v => g v == v) := by
      by_cases h1 : g i = g 0
      · exact two k hk (fun e => hd (h1.trans e.symm))
      · exact two i hi h1
    omega
/-! the reference's search for the least pair -/
def selP (g : Nat → Nat) (c : Nat → Nat → Nat) (best : Option (Arr 2 Int)) (x : Arr 2 Int) : Option (Arr 2 Int) :=
  if DiffP g x then (match best with | none => some x | some y => if keyP c x < keyP c y then some x else best) else best
def encB : Option (Arr 2 Int) → Int × Int
  | none => (-1, -1)
  | some x => ((pa0 x : Int), (pa1 x : Int))
theorem sel_least {n : Nat} {g : Nat → Nat} {c : Nat → Nat → Nat} : ∀ (L2 L1 : List (Arr 2 Int)) (b : Option (Arr 2 Int)), (L1 ++ L2).Pairwise (fun x y => numP n x < numP n y) →
    ((b = none ∧ ∀ q ∈ L1, ¬ DiffP g q) ∨ (∃ p, b = some p ∧ p ∈ L1 ∧ DiffP g p ∧ ∀ q ∈ L1, DiffP g q → q = p ∨ ltK (keyP c) (numP n) p q)) →
    ((L2.foldl (selP g c) b = none ∧ ∀ q ∈ L1 ++ L2, ¬ DiffP g q) ∨ (∃ p, L2.foldl (selP g c) b = some p ∧ p ∈ L1 ++ L2 ∧ DiffP g p ∧ ∀ q ∈ L1 ++ L2, DiffP g q → q = p ∨ ltK (keyP c) (numP n) p q)) := by
  intro L2
  induction L2 with
  | nil => intro L1 b _ h; simpa using h
  | cons x L2 ih =>
    intro L1 b hp h
    have hp2 : (L1 ++ [x] ++ L2).Pairwise (fun x y => numP n x < numP n y) := by simpa using hp
    have hx : ∀ q ∈ L1, numP n q < numP n x := fun q hq => (List.pairwise_append.1 hp).2.2 q hq x (by simp)
    have := ih (L1 ++ [x]) (selP g c b x) hp2 ?_
    · simpa using this
    · unfold selP
      by_cases hd : DiffP g x
      · rw [if_pos hd]
        right
        rcases h with ⟨rfl, h⟩ | ⟨p, rfl, h1, h2, h3⟩
        · exact ⟨x, rfl, by simp, hd, fun q hq hdq => by
            rcases List.mem_append.1 hq with hq | hq
            · exact absurd hdq (h q hq)
            · simp at hq; exact .inl hq⟩
        · simp only
          by_cases hk : keyP c x < keyP c p
          · rw [if_pos hk]
            refine ⟨x, rfl, by simp, hd, fun q hq hdq => ?_⟩
            rcases List.mem_append.1 hq with hq | hq
            · rcases h3 q hq hdq with rfl | h4
              · exact .inr (.inl hk)
              · exact .inr ((ltK.of_less hk).trans h4)
            · simp at hq; exact .inl hq
          · rw [if_neg hk]
            refine ⟨p, rfl, by simp [h1], h2, fun q hq hdq => ?_⟩
            rcases List.mem_append.1 hq with hq | hq
            · exact h3 q hq hdq
            · simp at hq; subst hq; exact .inr (ltK.of_not hk (hx p h1))
      · rw [if_neg hd]
        rcases h with ⟨rfl, h⟩ | ⟨p, rfl, h1, h2, h3⟩
        · exact .inl ⟨rfl, fun q hq => by
            rcases List.mem_append.1 hq with hq | hq
            · exact h q hq
            · simp at hq; subst hq; exact hd⟩
        · exact .inr ⟨p, rfl, by simp [h1], h2, fun q hq hdq => by
            rcases List.mem_append.1 hq with hq | hq
            · exact h3 q hq hdq
            · simp at hq; subst hq; exact absurd hdq hd⟩
/-! the reference's loops -/
theorem scan_is {T : List (List Int)} {n : Nat} {c : Nat → Nat → Nat} (hT : TbC T n c) (g : Nat → Nat) : loop (spec_l05Tree.l_30 T (labL n g)) (-1, -1, 0) = some (encB ((allP n).foldl (selP g c) none)) := by
  have hn := hT.n_le
  -- one row
  have hrow : ∀ (i : Nat), i < n → ∀ b : Option (Arr 2 Int), (∀ x, b = some x → IsP n x) →
      loop (spec_l05Tree.l_38 T (labL n g) (i : Int)) ((encB b).1, (encB b).2, ((i + 1 : Nat) : Int)) = some (encB (((List.range (n - (i + 1))).map fun d => prA i (i + 1 + d)).foldl (selP g c) b)) := by
    intro i hi b hb
    have hstay : ∀ d, d ≤ n - (i + 1) → ∀ x, (((List.range d).map fun d => prA i (i + 1 + d)).foldl (selP g c) b) = some x → IsP n x := by
      intro d
      induction d with
      | zero => intro _ x hx; exact hb x (by simpa using hx)
      | succ d ih =>
        intro hd x hx
        rw [List.range_succ, List.map_append, List.foldl_append] at hx
        simp only [List.map_cons, List.map_nil, List.foldl_cons, List.foldl_nil] at hx
        have hnew : IsP n (prA i (i + 1 + d)) := ⟨i, i + 1 + d, rfl, by omega, by omega⟩
        unfold selP at hx
        split at hx
        · split at hx
          · cases hx; exact hnew
          · rename_i y hy
            split at hx
            · cases hx; exact hnew
            · exact ih (by omega) x hx
        · exact ih (by omega) x hx
    have := loop_seq (f := spec_l05Tree.l_38 T (labL n g) (i : Int)) (n - (i + 1)) (fun d => ((encB (((List.range d).map fun d => prA i (i + 1 + d)).foldl (selP g c) b)).1, (encB (((List.range d).map fun d => prA i (i + 1 + d)).foldl (selP g c) b)).2, ((i + 1 + d : Nat) : Int)))
      (encB (((List.range (n - (i + 1))).map fun d => prA i (i + 1 + d)).foldl (selP g c) b)) (fun d hd => by
        have hst := hstay d (by omega)
        rw [List.range_succ, List.map_append, List.foldl_append]
        generalize hb1 : ((List.range d).map fun d => prA i (i + 1 + d)).foldl (selP g c) b = b1 at *
        simp only [List.map_cons, List.map_nil, List.foldl_cons, List.foldl_nil]
        have hk : i + 1 + d < n := by omega
        have hw : w64 (((i + 1 + d : Nat) : Int) + 1) = ((i + 1 + (d + 1) : Nat) : Int) := by rw [w64_in (by omega) (by omega)]; omega
        obtain ⟨r, r1, r2⟩ := hT.at_ i (i + 1 + d) hi hk
        simp only [spec_l05Tree.l_38, hT.len, labL_ix hi, labL_ix hk, Option.bind_some]
        rw [if_pos (by rw [decide_eq_true_eq]; omega)]
        have hdf : DiffP g (prA i (i + 1 + d)) ↔ g i ≠ g (i + 1 + d) := by unfold DiffP; rw [pa0_is, pa1_is]
        by_cases hd1 : g i = g (i + 1 + d)
        · have : ¬ DiffP g (prA i (i + 1 + d)) := fun h => hdf.1 h hd1
          rw [if_neg (by simp [hd1])]
          simp only [spec_l05Tree.k_41, Bool.false_eq_true, if_false, hw, selP, if_neg this]
        · have hdd : DiffP g (prA i (i + 1 + d)) := hdf.2 hd1
          rw [if_pos (by simp only [bne_iff_ne, ne_eq]; omega)]
          cases b1 with
          | none =>
            simp only [encB, spec_l05Tree.k_41, hw, selP, if_pos hdd, pa0_is, pa1_is]
            simp
          | some y =>
            obtain ⟨j, l, rfl, h1, h2⟩ := hst y rfl
            obtain ⟨s, s1, s2⟩ := hT.at_ j l (by omega) h2
            simp only [encB, pa0_is, pa1_is, r1, r2, s1, s2, Option.bind_some, spec_l05Tree.k_41, hw, selP, if_pos hdd, keyP]
            rw [if_neg (by rw [decide_eq_true_eq]; omega)]
            by_cases hlt : ((c i (i + 1 + d) : Nat) : Int) < ((c j l : Nat) : Int)
            · simp [hlt, encB, pa0_is, pa1_is]
            · simp [hlt, encB, pa0_is, pa1_is]) (by
        simp only [spec_l05Tree.l_38, hT.len]
        rw [if_neg (by rw [decide_eq_true_eq]; omega)])
    simpa using this
  have hall : ∀ i, i ≤ n → ∀ x, ((((List.range i).flatMap fun i => (List.range (n - (i + 1))).map fun d => prA i (i + 1 + d)).foldl (selP g c) none) = some x → IsP n x) := by
    intro i hi x hx
    have gen : ∀ (L : List (Arr 2 Int)) (b : Option (Arr 2 Int)), (∀ y ∈ L, IsP n y) → (∀ y, b = some y → IsP n y) → ∀ x, L.foldl (selP g c) b = some x → IsP n x := by
      intro L
      induction L with
      | nil => intro b _ hb x hx; exact hb x hx
      | cons y L ih =>
        intro b hL hb x hx
        refine ih _ (fun z hz => hL z (by simp [hz])) ?_ x hx
        intro z hz
        unfold selP at hz
        split at hz
        · split at hz
          · cases hz; exact hL _ (by simp)
          · split at hz
            · cases hz; exact hL _ (by simp)
            · exact hb z hz
        · exact hb z hz
    refine gen _ none (fun y hy => ?_) (fun y h => by cases h) x hx
    simp only [List.mem_flatMap, List.mem_range, List.mem_map] at hy
    obtain ⟨j, hj, d, hd, rfl⟩ := hy
    exact ⟨j, j + 1 + d, rfl, by omega, by omega⟩
  have := loop_seq (f := spec_l05Tree.l_30 T (labL n g)) n (fun i => ((encB (((List.range i).flatMap fun i => (List.range (n - (i + 1))).map fun d => prA i (i + 1 + d)).foldl (selP g c) none)).1, (encB (((List.range i).flatMap fun i => (List.range (n - (i + 1))).map fun d => prA i (i + 1 + d)).foldl (selP g c) none)).2, (i : Int)))
    (encB ((allP n).foldl (selP g c) none)) (fun i hi => by
      have hw : w64 ((i : Int) + 1) = ((i + 1 : Nat) : Int) := by rw [w64_in (by omega) (by omega)]; omega
      simp only [spec_l05Tree.l_30, hT.len]
      rw [if_pos (by rw [decide_eq_true_eq]; omega), hw, hrow i hi _ (hall i (by omega))]
      simp only [Option.bind_some, spec_l05Tree.k_34, hw]
      rw [List.range_succ, List.flatMap_append, List.foldl_append]
      simp) (by
      simp only [spec_l05Tree.l_30, hT.len]
      rw [if_neg (by simp)]
      rfl)
  simpa [encB] using this
theorem relabel_is {T : List (List Int)} {n : Nat} (hTl : T.length = n) (hn : n ≤ 1000) (g : Nat → Nat) (a b : Nat) (hab : g a ≠ g b) : loop (spec_l05Tree.l_23 T ((g b : Nat) : Int) ((g a : Nat) : Int)) (labL n g, 0) = some (labL n (mergeG g a b)) := by
  have := loop_seq (f := spec_l05Tree.l_23 T ((g b : Nat) : Int) ((g a : Nat) : Int)) n (fun k => (labL n (fun v => if v < k then mergeG g a b v else g v), (k : Int))) (labL n (mergeG g a b)) (fun k hk => by
    have hw : w64 ((k : Int) + 1) = ((k + 1 : Nat) : Int) := by rw [w64_in (by omega) (by omega)]; omega
    simp only [spec_l05Tree.l_23, hTl, labL_ix hk, Option.bind_some, hw, Int.toNat_natCast, labL_set]
    rw [if_pos (by rw [decide_eq_true_eq]; omega)]
    have e : ∀ u : Nat → Nat, (∀ v, v < n → u v = if v < k + 1 then mergeG g a b v else g v) → labL n u = labL n (fun v => if v < k + 1 then mergeG g a b v else g v) := fun u hu => List.map_congr_left fun v hv => by rw [hu v (List.mem_range.1 hv)]
    simp only [Nat.lt_irrefl, if_false]
    by_cases hgk : g k = g b
    · rw [if_pos (by simp [hgk])]
      rw [e]
      intro v hv
      unfold upd
      by_cases hvk : v = k
      · subst hvk; simp [mergeG, hgk]
      · rw [if_neg hvk]
        by_cases h1 : v < k
        · simp only [if_pos h1, if_pos (show v < k + 1 by omega)]
        · simp only [if_neg h1, if_neg (show ¬ v < k + 1 by omega)]
    · rw [if_neg (by simp only [beq_iff_eq]; omega)]
      rw [e]
      intro v hv
      by_cases h1 : v < k
      · rw [if_pos h1, if_pos (by omega)]
      · rw [if_neg h1]
        by_cases hvk : v = k
        · subst hvk; simp [mergeG, hgk]
        · rw [if_neg (by omega)]) (by
    simp only [spec_l05Tree.l_23, hTl]
    rw [if_neg (by simp)]
    congr 2
    refine List.map_congr_left fun v hv => ?_
    simp only [if_pos (List.mem_range.1 hv)])
  simpa using this
/-- the two searches side by side -/
theorem tree_loop {T : List (List Int)} {n : Nat} {c : Nat → Nat → Nat} (hT : TbC T n c) (hn1 : 1 ≤ n) (ds : List (Arr 96 Int)) (hds : ds.length = n) (Y : List (Arr 2 Int)) (hY : Y.length ≤ 1000000) : ∀ (Y2 Y1 : List (Arr 2 Int)) (g : Nat → Nat) (out : List (Arr 2 Int)) (sum : Int), Y = Y1 ++ Y2 → KInv n g out →
    Y2.Pairwise (ltK (keyP c) (numP n)) → (∀ x ∈ Y2, IsP n x) → (∀ x, IsP n x → x ∉ Y2 → ¬ DiffP g x) →
    ∃ g' out' sum', KInv n g' out' ∧ (∀ x, IsP n x → ¬ DiffP g' x) ∧ loop (spec_l05Tree.l_10 T) (labL n g, out, sum) = some (labL n g', out', sum') ∧ loop (impl_TreeOf.l_10 ds T Y) (out, sum, (Y1.length : Int)) = some (out', sum') := by
  have hn := hT.n_le
  intro Y2
  induction Y2 with
  | nil =>
    intro Y1 g out sum hYe hK _ _ hno
    have hnod : ∀ x, IsP n x → ¬ DiffP g x := fun x hx => hno x hx (by simp)
    have hge : ¬ out.length + 1 < n := fun h => by
      obtain ⟨x, h1, h2⟩ := (hK.more hn1).1 h
      exact hnod x h1 h2
    refine ⟨g, out, sum, hK, hnod, ?_, ?_⟩
    · have := hK.cnt
      rw [loop_eq]
      simp only [spec_l05Tree.l_10, hT.len]
      rw [w64_in (by omega) (by omega), if_neg (by rw [decide_eq_true_eq]; omega)]
    · rw [loop_eq]
      simp only [impl_TreeOf.l_10]
      rw [if_neg (by rw [hYe]; simp)]
  | cons p Y2 ih =>
    intro Y1 g out sum hYe hK hp hP hno
    obtain ⟨hp1, hp2⟩ := List.pairwise_cons.1 hp
    obtain ⟨i, k, rfl, hik, hk⟩ := hP p (by simp)
    have hi : i < n := by omega
    have hol := hK.cnt
    have hix : ix Y (Y1.length : Int) = some (prA i k) := by rw [hYe]; exact ix_mid rfl
    have hYl : Y.length = Y1.length + (Y2.length + 1) := by rw [hYe]; simp
    have hw : w64 ((Y1.length : Int) + 1) = ((Y1 ++ [prA i k]).length : Int) := by rw [w64_in (by omega) (by omega)]; simp
    have hj := joined_is (n := n) (E := out) (IsP.isE hK.isp) hn (by omega)
    have hsame := rounds_same out i k
    have himpl : loop (impl_TreeOf.l_10 ds T Y) (out, sum, (Y1.length : Int)) = (if g i = g k then loop (impl_TreeOf.l_10 ds T Y) (out, sum, ((Y1 ++ [prA i k]).length : Int)) else loop (impl_TreeOf.l_10 ds T Y) (out ++ [prA i k], w64 (sum + ((c i k : Nat) : Int)), ((Y1 ++ [prA i k]).length : Int))) := by
      rw [loop_eq]
      obtain ⟨r, r1, r2⟩ := hT.at_ i k hi hk
      simp only [impl_TreeOf.l_10, hix, hds, hj, Option.bind_some, prA_0, prA_1, labL_ix hi, labL_ix hk, r1, r2, hw]
      rw [if_pos (by rw [decide_eq_true_eq]; omega)]
      by_cases he : g i = g k
      · have h1 : rounds out out.length i = rounds out out.length k := hsame.2 ((hK.same i k hi hk).1 he)
        rw [if_neg (by simp [h1]), if_pos he]
      · have h1 : rounds out out.length i ≠ rounds out out.length k := fun h => he ((hK.same i k hi hk).2 (hsame.1 h))
        rw [if_pos (by simp only [bne_iff_ne, ne_eq]; omega), if_pos (by simp; omega), if_neg he]
    by_cases he : g i = g k
    · obtain ⟨g', out', sum', q1, q2, q3, q4⟩ := ih (Y1 ++ [prA i k]) g out sum (by rw [hYe]; simp) hK hp2 (fun x hx => hP x (by simp [hx])) (fun x hx hnx => by
        by_cases hxp : x = prA i k
        · subst hxp; unfold DiffP; rw [pa0_is, pa1_is]; exact fun h => h he
        · exact hno x hx (by simp [hxp, hnx]))
      exact ⟨g', out', sum', q1, q2, q3, by rw [himpl, if_pos he]; exact q4⟩
    · have hd : DiffP g (prA i k) := by unfold DiffP; rw [pa0_is, pa1_is]; exact he
      have hlt := (hK.more hn1).2 ⟨_, ⟨i, k, rfl, hik, hk⟩, hd⟩
      -- the least pair is this one
      have hsel : (allP n).foldl (selP g c) none = some (prA i k) := by
        rcases sel_least (n := n) (g := g) (c := c) (allP n) [] none (by simpa using allP_num n) (.inl ⟨rfl, by simp⟩) with ⟨_, h2⟩ | ⟨x, h1, h2, h3, h4⟩
        · exact absurd hd (h2 _ (by simpa using mem_allP.2 ⟨i, k, rfl, hik, hk⟩))
        · simp only [List.nil_append] at h2 h4
          have hx : x ∈ prA i k :: Y2 := Classical.byContradiction fun h => hno x (mem_allP.1 h2) h h3
          rcases h4 _ (mem_allP.2 ⟨i, k, rfl, hik, hk⟩) hd with h5 | h5
          · rw [h1, h5]
          · rcases List.mem_cons.1 hx with rfl | hx
            · exact h1
            · have h6 := hp1 x hx
              unfold ltK at h5 h6; omega
      have hK2 := hK.step hik hk he
      obtain ⟨g', out', sum', q1, q2, q3, q4⟩ := ih (Y1 ++ [prA i k]) (mergeG g i k) (out ++ [prA i k]) (w64 (sum + ((c i k : Nat) : Int))) (by rw [hYe]; simp) hK2 hp2 (fun x hx => hP x (by simp [hx])) (fun x hx hnx => by
        by_cases hxp : x = prA i k
        · subst hxp; unfold DiffP mergeG; rw [pa0_is, pa1_is]; simp [he]
        · have h1 := hno x hx (by simp [hxp, hnx])
          unfold DiffP at h1 ⊢
          simp only [ne_eq, Decidable.not_not] at h1 ⊢
          unfold mergeG; rw [h1])
      refine ⟨g', out', sum', q1, q2, ?_, by rw [himpl, if_neg he]; exact q4⟩
      rw [loop_eq]
      obtain ⟨r, r1, r2⟩ := hT.at_ i k hi hk
      have hrl := relabel_is hT.len hn g i k he
      simp only [spec_l05Tree.l_10, hT.len, scan_is hT g, hsel, encB, pa0_is, pa1_is, Option.bind_some, spec_l05Tree.k_14, r1, r2, labL_ix hi, labL_ix hk, prA_set]
      rw [w64_in (by omega) (by omega), if_pos (by rw [decide_eq_true_eq]; omega), if_pos (by simp; omega), hrl]
      simp only [Option.bind_some, spec_l05Tree.k_20, prA_set]
      exact q3
theorem tree_is {T : List (List Int)} {n : Nat} {c : Nat → Nat → Nat} (hT : TbC T n c) (hn1 : 1 ≤ n) (ds : List (Arr 96 Int)) (hds : ds.length = n) :
    ∃ Y g out sum, impl_pairsOf T = some Y ∧ Y.Perm (allP n) ∧ Y.Pairwise (ltK (keyP c) (numP n)) ∧ KInv n g out ∧ (∀ x, IsP n x → ¬ DiffP g x) ∧ spec_l05Tree T = some (out, sum) ∧ loop (impl_TreeOf.l_10 ds T Y) ([], 0, 0) = some (out, sum) := by
  have hn := hT.n_le
  obtain ⟨Y, y1, y2, y3⟩ := pairs_is hT
  have hl : Y.length ≤ 1000000 := by
    rw [y2.length_eq]
    have := allP_len n
    have : n * n ≤ 1000 * 1000 := Nat.mul_le_mul hn hn
    omega
  obtain ⟨g, out, sum, q1, q2, q3, q4⟩ := tree_loop hT hn1 ds hds Y hl Y [] id [] 0 rfl (KInv.start n) y3 (fun x hx => mem_allP.1 (y2.mem_iff.1 hx)) (fun x hx hnx => absurd (y2.mem_iff.2 (mem_allP.2 hx)) hnx)
  have h0 : loop (spec_l05Tree.l_50 T) ([], 0) = some (labL n id) := by
    have := loop_seq (f := spec_l05Tree.l_50 T) n (fun k => (labL k id, (k : Int))) (labL n id) (fun k hk => by
      simp only [spec_l05Tree.l_50, hT.len]
      rw [if_pos (by rw [decide_eq_true_eq]; omega), if_pos (by rw [labL_len]; simp; omega), w64_in (by omega) (by omega)]
      simp [labL, List.range_succ]) (by
      simp only [spec_l05Tree.l_50, hT.len]
      rw [if_neg (by simp)])
    simpa [labL] using this
  refine ⟨Y, g, out, sum, y1, y2, y3, q1, q2, ?_, by simpa using q4⟩
  simp only [spec_l05Tree, h0, Option.bind_some, spec_l05Tree.k_2, q3, spec_l05Tree.k_6]

end Go.Proofs.Ytolfkfjjifdmeaa
