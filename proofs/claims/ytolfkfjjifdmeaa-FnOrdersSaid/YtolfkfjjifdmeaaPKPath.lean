/- The reference's tree is one of least cost. -/
import Derived.Test.YtolfkfjjifdmeaaM2
import Derived.Test.YtolfkfjjifdmeaaPStab
import Derived.Test.YtolfkfjjifdmeaaPPairs
import Derived.Test.YtolfkfjjifdmeaaPJoined
import Derived.Test.YtolfkfjjifdmeaaPKruskal
import Derived.Test.YtolfkfjjifdmeaaPComps
import Derived.Test.YtolfkfjjifdmeaaPMst
import Derived.Test.YtolfkfjjifdmeaaPure
namespace Go.Proofs.Ytolfkfjjifdmeaa
open Eng
set_option linter.unusedVariables false
set_option linter.unusedSimpArgs false

theorem wS_snoc (c : Nat → Nat → Nat) (A : List (Arr 2 Int)) (x : Arr 2 Int) : wS c (A ++ [x]) = wS c A + cwP c x := by simp [wS]
theorem wS_le {c : Nat → Nat → Nat} (h : ∀ i k, c i k ≤ 1000000) (A : List (Arr 2 Int)) : wS c A ≤ A.length * 1000000 := by
  induction A with
  | nil => simp [wS]
  | cons e A ih =>
    have := h (pa0 e) (pa1 e)
    simp only [wS, List.map_cons, List.sum_cons, List.length_cons] at ih ⊢
    unfold cwP at *
    omega
theorem keyP_le {c : Nat → Nat → Nat} {n : Nat} {x y : Arr 2 Int} (h : ltK (keyP c) (numP n) x y) : cwP c x ≤ cwP c y := by
  unfold ltK keyP at h
  unfold cwP
  omega
/-- a forest, built pair by pair -/
theorem Forest.step {n : Nat} {out : List (Arr 2 Int)} (h : Forest n out) (hout : ∀ e ∈ out, IsP n e) {i k : Nat} (hik : i < k) (hk : k < n) (hne : ¬ Cn out i k) : Forest n (out ++ [prA i k]) := by
  have h1 := comps_cons_lt (n := n) (show i < n by omega) hk hne
  have h2 : comps n (out ++ [prA i k]) = comps n (prA i k :: out) := comps_eq fun e => by simp [or_comm]
  have h3 := comps_ge (n := n) (E := out ++ [prA i k]) (fun e he => by
    rcases List.mem_append.1 he with he | he
    · exact hout e he
    · simp at he; subst he; exact ⟨i, k, rfl, hik, hk⟩)
  unfold Forest at h ⊢
  simp only [List.length_append, List.length_cons, List.length_nil] at h3 ⊢
  omega
theorem Forest.nil (n : Nat) : Forest n [] := by unfold Forest; rw [comps_nil]; rfl
/-- the reference's search: its tree has the law -/
theorem path_loop {T : List (List Int)} {n : Nat} {c : Nat → Nat → Nat} (hT : TbC T n c) (hn1 : 1 ≤ n) : ∀ (Y2 Y1 : List (Arr 2 Int)) (g : Nat → Nat) (out : List (Arr 2 Int)), KInv n g out → Forest n out →
    Y2.Pairwise (ltK (keyP c) (numP n)) → (∀ x ∈ Y2, IsP n x) → (∀ x, IsP n x → x ∉ Y2 → ¬ DiffP g x) → (∀ e ∈ out, ∀ y ∈ Y2, cwP c e ≤ cwP c y) → (∀ x ∈ Y1, Cn (leF c (cwP c x) out) (pa0 x) (pa1 x)) →
    ∃ g' out', KInv n g' out' ∧ Forest n out' ∧ (∀ x, IsP n x → ¬ DiffP g' x) ∧ (∀ x, x ∈ Y1 ∨ x ∈ Y2 → Cn (leF c (cwP c x) out') (pa0 x) (pa1 x)) ∧ loop (spec_l05Tree.l_10 T) (labL n g, out, ((wS c out : Nat) : Int)) = some (labL n g', out', ((wS c out' : Nat) : Int)) := by
  have hn := hT.n_le
  intro Y2
  induction Y2 with
  | nil =>
    intro Y1 g out hK hF _ _ hno _ hpl
    have hnod : ∀ x, IsP n x → ¬ DiffP g x := fun x hx => hno x hx (by simp)
    have hge : ¬ out.length + 1 < n := fun h => by
      obtain ⟨x, h1, h2⟩ := (hK.more hn1).1 h
      exact hnod x h1 h2
    refine ⟨g, out, hK, hF, hnod, fun x hx => hpl x (by simpa using hx), ?_⟩
    have := hK.cnt
    rw [loop_eq]
    simp only [spec_l05Tree.l_10, hT.len]
    rw [w64_in (by omega) (by omega), if_neg (by rw [decide_eq_true_eq]; omega)]
  | cons p Y2 ih =>
    intro Y1 g out hK hF hp hP hno hle hpl
    obtain ⟨hp1, hp2⟩ := List.pairwise_cons.1 hp
    obtain ⟨i, k, rfl, hik, hk⟩ := hP p (by simp)
    have hi : i < n := by omega
    have hol := hK.cnt
    by_cases he : g i = g k
    · obtain ⟨g', out', q1, q2, q3, q4, q5⟩ := ih (prA i k :: Y1) g out hK hF hp2 (fun x hx => hP x (by simp [hx])) (fun x hx hnx => by
        by_cases hxp : x = prA i k
        · subst hxp; unfold DiffP; rw [pa0_is, pa1_is]; exact fun h => h he
        · exact hno x hx (by simp [hxp, hnx])) (fun e he y hy => hle e he y (by simp [hy])) (fun x hx => by
        rcases List.mem_cons.1 hx with rfl | hx
        · rw [pa0_is, pa1_is]
          exact ((hK.same i k hi hk).1 he).mono fun e he => List.mem_filter.2 ⟨he, by simpa using hle e he _ (by simp)⟩
        · exact hpl x hx)
      exact ⟨g', out', q1, q2, q3, fun x hx => q4 x (by
        rcases hx with hx | hx
        · exact .inl (by simp [hx])
        · rcases List.mem_cons.1 hx with rfl | hx
          · exact .inl (by simp)
          · exact .inr hx), q5⟩
    · have hd : DiffP g (prA i k) := by unfold DiffP; rw [pa0_is, pa1_is]; exact he
      have hlt := (hK.more hn1).2 ⟨_, ⟨i, k, rfl, hik, hk⟩, hd⟩
      have hsel : (allP n).foldl (selP g c) none = some (prA i k) := by
        rcases sel_least (n := n) (g := g) (c := c) (allP n) [] none (by simpa using allP_num n) (.inl ⟨rfl, by simp⟩) with ⟨_, h2⟩ | ⟨x, h1, h2, h3, h4⟩
        · exact absurd hd (h2 _ (by simpa using mem_allP.2 ⟨i, k, rfl, hik, hk⟩))
        · simp only [List.nil_append] at h2 h4
          have hx : x ∈ prA i k :: Y2 := Classical.byContradiction fun h => hno x (mem_allP.1 h2) h h3
          rcases h4 _ (mem_allP.2 ⟨i, k, rfl, hik, hk⟩) hd with h5 | h5
          · rw [h1, h5]
          · rcases List.mem_cons.1 hx with rfl | hx
            · exact h1
            · have h6 := hp1 x hx
              unfold ltK at h5 h6; omega
      have hK2 := hK.step hik hk he
      have hF2 := hF.step hK.isp hik hk (fun h => he ((hK.same i k hi hk).2 h))
      have hcw : cwP c (prA i k) = c i k := by unfold cwP; rw [pa0_is, pa1_is]
      obtain ⟨g', out', q1, q2, q3, q4, q5⟩ := ih (prA i k :: Y1) (mergeG g i k) (out ++ [prA i k]) hK2 hF2 hp2 (fun x hx => hP x (by simp [hx])) (fun x hx hnx => by
        by_cases hxp : x = prA i k
        · subst hxp; unfold DiffP mergeG; rw [pa0_is, pa1_is]; simp [he]
        · have h1 := hno x hx (by simp [hxp, hnx])
          unfold DiffP at h1 ⊢
          simp only [ne_eq, Decidable.not_not] at h1 ⊢
          unfold mergeG; rw [h1]) (fun e he y hy => by
        rcases List.mem_append.1 he with he | he
        · exact hle e he y (by simp [hy])
        · simp at he; subst he; exact keyP_le (hp1 y hy)) (fun x hx => by
        rcases List.mem_cons.1 hx with rfl | hx
        · exact Cn.one ⟨prA i k, List.mem_filter.2 ⟨by simp, by simp⟩, .inl ⟨rfl, rfl⟩⟩
        · exact (hpl x hx).mono fun e he => by
            obtain ⟨h1, h2⟩ := List.mem_filter.1 he
            exact List.mem_filter.2 ⟨by simp [h1], h2⟩)
      refine ⟨g', out', q1, q2, q3, fun x hx => q4 x (by
        rcases hx with hx | hx
        · exact .inl (by simp [hx])
        · rcases List.mem_cons.1 hx with rfl | hx
          · exact .inl (by simp)
          · exact .inr hx), ?_⟩
      rw [loop_eq]
      obtain ⟨r, r1, r2⟩ := hT.at_ i k hi hk
      have hrl := relabel_is hT.len hn g i k he
      have hws := wS_le hT.bd out
      have hci := hT.bd i k
      have hsum : w64 (((wS c out : Nat) : Int) + ((c i k : Nat) : Int)) = ((wS c (out ++ [prA i k]) : Nat) : Int) := by
        rw [wS_snoc, hcw, w64_in (by omega) (by omega)]; omega
      simp only [spec_l05Tree.l_10, hT.len, scan_is hT g, hsel, encB, pa0_is, pa1_is, Option.bind_some, spec_l05Tree.k_14, r1, r2, labL_ix hi, labL_ix hk, prA_set]
      rw [w64_in (by omega) (by omega), if_pos (by rw [decide_eq_true_eq]; omega), if_pos (by simp; omega), hrl]
      simp only [Option.bind_some, spec_l05Tree.k_20, prA_set, hsum]
      exact q5
/-- the reference's tree: a forest with the law, and its cost -/
theorem specTree_is {T : List (List Int)} {n : Nat} {c : Nat → Nat → Nat} (hT : TbC T n c) (hn1 : 1 ≤ n) :
    ∃ out, spec_l05Tree T = some (out, ((wS c out : Nat) : Int)) ∧ (∀ e ∈ out, IsP n e) ∧ Forest n out ∧ PathLaw n c out ∧ out.length + 1 = n := by
  have hn := hT.n_le
  obtain ⟨Y, y1, y2, y3⟩ := pairs_is hT
  obtain ⟨g, out, q1, q2, q3, q4, q5⟩ := path_loop hT hn1 Y [] id [] (KInv.start n) (Forest.nil n) y3 (fun x hx => mem_allP.1 (y2.mem_iff.1 hx)) (fun x hx hnx => absurd (y2.mem_iff.2 (mem_allP.2 hx)) hnx) (by simp) (by simp)
  have h0 : loop (spec_l05Tree.l_50 T) ([], 0) = some (labL n id) := by
    have := loop_seq (f := spec_l05Tree.l_50 T) n (fun k => (labL k id, (k : Int))) (labL n id) (fun k hk => by
      simp only [spec_l05Tree.l_50, hT.len]
      rw [if_pos (by rw [decide_eq_true_eq]; omega), if_pos (by rw [labL_len]; simp; omega), w64_in (by omega) (by omega)]
      simp [labL, List.range_succ]) (by
      simp only [spec_l05Tree.l_50, hT.len]
      rw [if_neg (by simp)])
    simpa [labL] using this
  have q5 : loop (spec_l05Tree.l_10 T) (labL n id, [], 0) = some (labL n g, out, ((wS c out : Nat) : Int)) := q5
  refine ⟨out, ?_, q1.isp, q2, fun p hp => q4 p (.inr (y2.mem_iff.2 (mem_allP.2 hp))), ?_⟩
  · simp only [spec_l05Tree, h0, Option.bind_some, spec_l05Tree.k_2, q5, spec_l05Tree.k_6]
  · have h1 : ¬ out.length + 1 < n := fun h => by
      obtain ⟨x, h1, h2⟩ := (q1.more hn1).1 h
      exact q3 x h1 h2
    have h2 := q1.cnt
    have h3 : 1 ≤ (List.range n).countP (fun v => g v == v) := by
      have := count_one (p := fun v => g v == v) (z := g 0) List.nodup_range (List.mem_range.2 (q1.lt 0 hn1)) (by simp [q1.idem 0 hn1])
      omega
    omega

end Go.Proofs.Ytolfkfjjifdmeaa
