/- The law of arrangements that are found: its plain function answers true at every input. -/
import Derived.Test.YtolfkfjjifdmeaaGreatM0
import Derived.Test.YtolfkfjjifdmeaaGreatM2
import Derived.Test.YtolfkfjjifdmeaaGreatM3
import Derived.Test.YtolfkfjjifdmeaaGreatPStab
import Derived.Test.YtolfkfjjifdmeaaGreatPFrame
import Derived.Test.YtolfkfjjifdmeaaGreatPDrum
import Derived.Test.YtolfkfjjifdmeaaGreatPCodes
import Derived.Test.YtolfkfjjifdmeaaGreatPPut
import Derived.Test.YtolfkfjjifdmeaaGreatPTune
import Derived.Test.YtolfkfjjifdmeaaGreatPMadeS
import Derived.Test.YtolfkfjjifdmeaaGreatPChoices
import Derived.Test.YtolfkfjjifdmeaaGreatPCosts
import Derived.Test.YtolfkfjjifdmeaaGreatPLeast
import Derived.Test.YtolfkfjjifdmeaaGreatPBound
import Derived.Test.YtolfkfjjifdmeaaGreatPFit
import Derived.Test.YtolfkfjjifdmeaaGreatPSearch
import Derived.Test.YtolfkfjjifdmeaaGreatPChSort
import Derived.Test.YtolfkfjjifdmeaaGreatPArr
import Derived.Test.YtolfkfjjifdmeaaGreatPBestArr
import Derived.Test.YtolfkfjjifdmeaaGreatPGreedyL
import Derived.Test.YtolfkfjjifdmeaaGreatPDraw
import Derived.Test.YtolfkfjjifdmeaaGreatPDrawShort
import Derived.Test.YtolfkfjjifdmeaaGreatPure
import Derived.Test.YtolfkfjjifdmeaaGreatSFnArranged
namespace Go.Proofs.YtolfkfjjifdmeaaGreat
open Eng
set_option linter.unusedVariables false
set_option linter.unusedSimpArgs false

theorem sameChoices_refl (t : List GChoice) (h : t.length ≤ 1000000) : spec_A2SameChoices t t = some true := by
  have h0 : loop (spec_A2SameChoices.l_3 t t) 0 = some (.inr ()) := loop_seq (f := spec_A2SameChoices.l_3 t t) t.length (fun k => (k : Int)) (.inr ()) (fun k hk => by
    simp only [spec_A2SameChoices.l_3, ix_lt hk, Option.bind_some]
    rw [if_pos (by simpa using hk), if_neg (by simp), w64_in (n := (k : Int) + 1) (by omega) (by omega)]
    simp) (by simp [spec_A2SameChoices.l_3])
  simp [spec_A2SameChoices, h0, spec_A2SameChoices.k_1]
theorem same_refl (t : List Int) (h : t.length ≤ 1000000) : spec_A2Same t t = some true := by
  have h0 : loop (spec_l00Same.l_3 t t) 0 = some (.inr ()) := loop_seq (f := spec_l00Same.l_3 t t) t.length (fun k => (k : Int)) (.inr ()) (fun k hk => by
    simp only [spec_l00Same.l_3, ix_lt hk, Option.bind_some]
    rw [if_pos (by simpa using hk), if_neg (by simp), w64_in (n := (k : Int) + 1) (by omega) (by omega)]
    simp) (by simp [spec_l00Same.l_3])
  simp [spec_A2Same, spec_l00Same, h0, spec_l00Same.k_1]
theorem choiceB_in {f : GFrame} (hf : FOk f) {n : GNote} (ha : 0 ≤ n.fAt ∧ n.fAt ≤ 199) (hp : 0 ≤ n.fPitch ∧ n.fPitch ≤ 47) {x : GChoice} (hx : x ∈ allFor f n) : choiceB x = true := by
  have hh1 := hf.h1
  rcases (mem_allFor hf ha hp x).1 hx with rfl | ⟨h1, h2, h3, h4, k, h5, h6, h7⟩
  · rfl
  · unfold choiceB
    rw [h1]
    simp only [Bool.false_eq_true, if_false, Bool.and_eq_true, decide_eq_true_eq]
    rw [w64_in (n := x.fLate) (by omega) (by omega), w64_in (n := x.fOctave) (by omega) (by omega), w64_in (n := x.fTrack) (by omega) (by omega)]
    omega
theorem a2Costs_is (code : List Int) (hc : ∀ y ∈ code, 0 ≤ y ∧ y ≤ 255) : ∃ c, spec_A2Costs code = some c ∧ COk c ∧ CIn c := by
  obtain ⟨e, h⟩ := from_is code hc
  obtain ⟨x1, s1, e1, p1, q1, o1, c1⟩ := pick_is h (by omega) (n := 12) (by omega)
  obtain ⟨x2, s2, e2, p2, q2, o2, c2⟩ := pick_is o1 (by omega) (n := 6) (by omega)
  obtain ⟨x3, s3, e3, p3, q3, o3, c3⟩ := pick_is o2 (by omega) (n := 4) (by omega)
  have q1 := q1 (by omega); have q2 := q2 (by omega); have q3 := q3 (by omega)
  have c1' : s1.fcode = code := c1
  have c2' : s2.fcode = code := c2.trans c1
  simp only [spec_A2Costs, e, Option.bind_some, spec_l07CostsDrawn, e1, src_eta c1', e2, src_eta c2', e3]
  rw [w16_in (n := x1) (by omega) (by omega), w16_in (n := x2) (by omega) (by omega), w16_in (n := x3) (by omega) (by omega)]
  exact ⟨_, rfl, ⟨by simp only; omega, by simp only; omega, by simp only; omega⟩, ⟨by simp only; omega, by simp only; omega, by simp only; omega⟩⟩
theorem costsB_of {c : GCosts} (h : COk c) : costsB c = true := by
  have h1 := h.a; have h2 := h.o; have h3 := h.s
  unfold costsB
  simp only [Bool.and_eq_true, decide_eq_true_eq]
  omega
/-- a list of choices that fit -/
structure FitL (f : GFrame) (t : List GNote) (l : List GChoice) : Prop where
  len : l.length = t.length
  fit : fitsAt f t l 0 (Arr.rep 96 0) t.length
theorem fits_mem {f : GFrame} {t : List GNote} : ∀ (r list : List GChoice) (d : Arr 96 Int), list.length + r.length = t.length → fitsAt f t (list ++ r) list.length d r.length → ∀ x ∈ r, ∃ n ∈ t, x ∈ allFor f n := by
  intro r
  induction r with
  | nil => intro _ _ _ _ x hx; cases hx
  | cons y r ih =>
    intro list d hl h x hx
    simp only [List.length_cons] at hl h
    have hk : list.length < t.length := by omega
    obtain ⟨h1, d', _, h3⟩ := fits_step (List.getElem?_eq_getElem hk) h
    rcases List.mem_cons.1 hx with rfl | hx
    · exact ⟨t[list.length], List.getElem_mem hk, h1⟩
    · exact ih (list ++ [y]) d' (by simp; omega) (by simpa using h3) x hx
section
variable {f : GFrame} {t : List GNote} {l : List GChoice}
theorem FitL.mem (h : FitL f t l) : ∀ x ∈ l, ∃ n ∈ t, x ∈ allFor f n := fits_mem l [] (Arr.rep 96 0) (by simpa using h.len) (by rw [h.len]; simpa using h.fit)
theorem FitL.cb (h : FitL f t l) (hf : FOk f) (ht : TOk t) : l.all choiceB = true := by
  rw [List.all_eq_true]
  intro x hx
  obtain ⟨n, hn, hm⟩ := h.mem x hx
  have := ht.nt n hn
  exact choiceB_in hf (n := n) (by omega) (by omega) hm
theorem FitL.small (h : FitL f t l) (hf : FOk f) (ht : TOk t) : ∀ x ∈ l, small3 x := by
  intro x hx
  obtain ⟨n, hn, hm⟩ := h.mem x hx
  have := ht.nt n hn
  exact all_small hf (n := n) (by omega) (by omega) hm
theorem FitL.asked (h : FitL f t l) (hf : FOk f) (ht : TOk t) : askedB f t l = 0 := by
  unfold askedB; rw [if_pos ⟨frameB_of hf, tuneB_of ht, h.cb hf ht⟩, if_pos h.len]
theorem FitL.check (h : FitL f t l) (hf : FOk f) (ht : TOk t) (hi : FIn f) (hn : ∀ n ∈ t, NIn n) : impl_CheckChoices f t l = some (true, 0) := by
  have hh1 := hf.h1; have htl := ht.len; have hll := h.len
  obtain ⟨e, he⟩ := h.fit
  have hv : fitV f t l = .inl e := he
  have hfit := fitted_is hi (show f.fHammers.length ≤ 9223372036854775807 by omega) (show t.length ≤ 9223372036854775807 by omega) hn (show l.length ≤ 9223372036854775807 by omega)
  rw [if_pos (h.asked hf ht), hv] at hfit
  simp [impl_CheckChoices, hfit]
theorem FitL.kept (h : FitL f t l) (hf : FOk f) (ht : TOk t) (hi : FIn f) (hn : ∀ n ∈ t, NIn n) : spec_KeptNotes f t l = some (((l.countP fun x => !x.fAway : Nat) : Int), 0) := by
  have hh1 := hf.h1; have htl := ht.len; have hll := h.len
  obtain ⟨e, he⟩ := h.fit
  have hv : fitV f t l = .inl e := he
  have hdr := l07Drum_is hi (show f.fHammers.length ≤ 9223372036854775807 by omega) (show t.length ≤ 9223372036854775807 by omega) hn (show l.length ≤ 9223372036854775807 by omega)
  unfold drumV at hdr
  rw [if_pos (h.asked hf ht), hv] at hdr
  have h2 := loop_seq (f := spec_KeptNotes.l_6 l) l.length (fun k => (((l.take k).countP (fun x => !x.fAway) : Nat), (k : Int))) (((l.countP fun x => !x.fAway : Nat) : Int)) (fun k hk => by
    have hcl : (l.take k).countP (fun x => !x.fAway) ≤ k := by have := List.countP_le_length (p := fun x : GChoice => !x.fAway) (l := l.take k); rw [List.length_take] at this; omega
    have hs : (l.take (k + 1)).countP (fun x => !x.fAway) = (l.take k).countP (fun x => !x.fAway) + (if (!l[k].fAway) = true then 1 else 0) := by
      rw [List.take_succ_eq_append_getElem hk, List.countP_append, List.countP_cons, List.countP_nil]; simp
    simp only [spec_KeptNotes.l_6, ix_lt hk, Option.bind_some]
    rw [if_pos (by simpa using hk), w64_in (n := (k : Int) + 1) (by omega) (by omega), hs]
    cases hw : (!l[k].fAway) with
    | true =>
      rw [if_pos rfl, w64_in (n := _ + 1) (by omega) (by omega), if_pos rfl]
      simp
    | false => simp) (by simp [spec_KeptNotes.l_6])
  have h3 : loop (spec_KeptNotes.l_6 l) (0, 0) = some (((l.countP fun x => !x.fAway : Nat) : Int)) := by simpa using h2
  simp [spec_KeptNotes, hdr, h3, spec_KeptNotes.k_3]
theorem sumC_le {c : GCosts} (hc : COk c) : ∀ (l : List GChoice), (∀ x ∈ l, small3 x) → 0 ≤ sumC c l ∧ sumC c l ≤ 4000 * (l.length : Int) := by
  intro l
  induction l with
  | nil => intro _; simp [sumC, sumL]
  | cons x l ih =>
    intro h
    have h1 := ih (fun y hy => h y (by simp [hy]))
    have h2 := costV_le hc (h x (by simp))
    rw [sumC_cons, List.length_cons]
    omega
theorem FitL.cost (h : FitL f t l) (hf : FOk f) (ht : TOk t) {c : GCosts} (hc : COk c) (hci : CIn c) : impl_CostOf c l = some (sumC c l, 0) := by
  have htl := ht.len; have hll := h.len
  have hsm := h.small hf ht
  have h2 := loop_seq (f := impl_CostOf.l_10 c l) l.length (fun k => (sumC c (l.take k), (k : Int))) (sumC c l) (fun k hk => by
    have hs : sumC c (l.take (k + 1)) = sumC c (l.take k) + costV c l[k] := by rw [List.take_succ_eq_append_getElem hk, sumC_app]; simp [sumC, sumL]
    have hb := sumC_le hc (l.take (k + 1)) (fun x hx => hsm x (List.mem_of_mem_take hx))
    have hb2 : (l.take (k + 1)).length ≤ 120 := by rw [List.length_take]; omega
    simp only [impl_CostOf.l_10, ix_lt hk, Option.bind_some, of_is hc (hsm _ (List.getElem_mem hk))]
    rw [if_pos (by simpa using hk), ← hs, w64_in (n := sumC c (l.take (k + 1))) (by omega) (by omega), w64_in (n := (k : Int) + 1) (by omega) (by omega)]
    rfl) (by simp [impl_CostOf.l_10])
  have h3 : loop (impl_CostOf.l_10 c l) (0, 0) = some (sumC c l) := by simpa [sumC, sumL] using h2
  have hd : decide ((l.length : Int) ≤ 120) = true := by rw [decide_eq_true_eq]; omega
  simp only [impl_CostOf, validCosts_is hci, costsB_of hc, choicesCode_is l (show l.length ≤ 9223372036854775807 by omega), h.cb hf ht, unless_is, firstOf3, Option.bind_some, if_true, h3, impl_CostOf.k_7, hd]
  simp
theorem FitL.ge (h : FitL f t l) (hf : FOk f) (ht : TOk t) {c : GCosts} (hc : COk c) : suf (t.map (leastC f c)) 0 ≤ sumC c l := by
  have := rest_ge hf ht hc l [] (Arr.rep 96 0) (by simpa using h.len) (by rw [h.len]; simpa using h.fit)
  simpa using this
end
theorem kept_sum : ∀ (l : List GChoice), (∀ x ∈ l, small3 x) → sumC ⟨1, 0, 0⟩ l + ((l.countP fun x => !x.fAway : Nat) : Int) = (l.length : Int) := by
  intro l
  induction l with
  | nil => intro _; rfl
  | cons x l ih =>
    intro h
    have h1 := ih (fun y hy => h y (by simp [hy]))
    rw [sumC_cons, List.countP_cons, List.length_cons]
    cases hw : x.fAway with
    | true => simp [costV, hw]; omega
    | false => simp [costV, hw]; omega
theorem greedy_fit {f : GFrame} {t : List GNote} (c : GCosts) (hf : FOk f) (ht : TOk t) : FitL f t (gSt f t c t.length).1 := by
  have key : ∀ k, k ≤ t.length → (gSt f t c k).1.length = k ∧ Ctx f t c (gSt f t c k).2 (gSt f t c k).1 (sumC c (gSt f t c k).1) := by
    intro k
    induction k with
    | zero => intro _; exact ⟨rfl, rfl, fun rest => rfl⟩
    | succ k ih =>
      intro hk
      obtain ⟨h1, h2⟩ := ih (by omega)
      have hkt : k < t.length := by omega
      obtain ⟨p1, d', p2⟩ := gPick_ok f c t[k] (gSt f t c k).2
      simp only [gSt, List.getElem?_eq_getElem hkt, p2]
      have hn : t[(gSt f t c k).1.length]? = some t[k] := by rw [h1]; exact List.getElem?_eq_getElem hkt
      have h3 := ctx_step h2 hn p1 p2
      refine ⟨by simp [h1], ?_⟩
      have e : sumC c (gSt f t c k).1 + costV c (gPick f c t[k] (gSt f t c k).2) = sumC c ((gSt f t c k).1 ++ [gPick f c t[k] (gSt f t c k).2]) := by rw [sumC_app]; simp [sumC, sumL]
      rw [e] at h3
      exact h3
  obtain ⟨h1, h2⟩ := key t.length (Nat.le_refl _)
  refine ⟨h1, (gSt f t c t.length).2, ?_⟩
  have := h2.fit []
  rw [h1, Nat.sub_self, List.append_nil] at this
  exact this
theorem boundFrom_val {f : GFrame} {t : List GNote} {c : GCosts} (hf : FOk f) (ht : TOk t) (hc : COk c) (hi : FIn f) (hn : ∀ n ∈ t, NIn n) (hci : CIn c) {i : Nat} (hik : i ≤ t.length) :
    impl_BoundFrom f t c (i : Int) = some (suf (t.map (leastC f c)) i, 0) := by
  have hh1 := hf.h1; have htl := ht.len
  have hb := bst_at (t.map (leastC f c)) t.length (i := i) (by rw [List.length_map]; omega)
  rw [if_pos (by rw [List.length_map]; omega)] at hb
  have e : (decide ((i : Int) ≥ 0) && decide ((i : Int) ≤ (t.length : Int))) = true := by simp only [Bool.and_eq_true, decide_eq_true_eq]; omega
  simp only [impl_BoundFrom, arrangeCode_is hi (show f.fHammers.length ≤ 1048576 by omega) (show t.length ≤ 1048576 by omega) hn hci, frameB_of hf, tuneB_of ht, costsB_of hc, impl_size_Note, impl_within, unless_is, firstOf2, Option.bind_some, bounds_is hf hc ht]
  simp [e, hb]
  intro hh; omega
theorem FnArranged_ok (code0 more1 : List Int) (o0 : (code0.length ≤ 9223372036854775807 ∧ ∀ y ∈ code0, (0 ≤ y ∧ y ≤ 255))) (o1 : (more1.length ≤ 9223372036854775807 ∧ ∀ y ∈ more1, (0 ≤ y ∧ y ≤ 255))) : laws_FnArranged code0 more1 = some true := by
  simp only [laws_FnArranged, laws_a2Long, Option.bind_some]
  cases hlong : (decide ((code0.length : Int) > 3000)) || (decide ((more1.length : Int) > 3000)) with
  | true => rfl
  | false =>
    obtain ⟨f, t, e1, hs⟩ := a2Short_is code0 o0.2
    obtain ⟨other, d, e2, hol, _, hov⟩ := a2Choices_is more1 o1.2 hs
    obtain ⟨c, e3, hc, hci⟩ := a2Costs_is more1 o1.2
    have hf := hs.fr; have ht := hs.tn
    have hh1 := hf.h1; have hs0 := hf.s0; have hs1 := hf.s1; have htl := ht.len
    have hi : FIn f := ⟨by omega, fun y hy => by have := hf.hp y hy; omega⟩
    have hn : ∀ n ∈ t, NIn n := fun n hn => by have := ht.nt n hn; exact ⟨by omega, by omega⟩
    have hall : frameB f = true ∧ tuneB t = true ∧ costsB c = true := ⟨frameB_of hf, tuneB_of ht, costsB_of hc⟩
    obtain ⟨a1, a2, _⟩ := arrange_is (c := c) 20000 hi (show f.fHammers.length ≤ 1048576 by omega) (show t.length ≤ 1048576 by omega) hn hci
    have a3 : spec_Arrange f t c 20000 = some (arrangeV f t c 20000) := by simp only [spec_Arrange, a2, Option.bind_some]
    obtain ⟨g, g1, g2, _, g4⟩ := greedy_all f t c hi hn hci (by omega) (by omega)
    obtain rfl := g4 hall
    have gf := greedy_fit c hf ht
    have lE : impl_LeastEach f t c = some (t.map (leastC f c), 0) := by
      simp [impl_LeastEach, arrangeCode_is hi (show f.fHammers.length ≤ 1048576 by omega) (show t.length ≤ 1048576 by omega) hn hci, hall, leastEach_is hf hc ht]
    have lS : spec_LeastEach f t c = some (t.map (leastC f c), 0) := by
      simp [spec_LeastEach, given_is hi (show f.fHammers.length ≤ 1048576 by omega) (show t.length ≤ 1048576 by omega) hn hci, hall, specLeastEach hf hc ht, spec_LeastEach.k_3]
    have b0 : impl_BoundFrom f t c 0 = some (suf (t.map (leastC f c)) 0, 0) := boundFrom_val hf ht hc hi hn hci (i := 0) (by omega)
    have of_ : FitL f t other := ⟨hol, d, hov⟩
    have hc1 : COk ⟨1, 0, 0⟩ := ⟨by simp, by simp, by simp⟩
    have hci1 : CIn ⟨1, 0, 0⟩ := by unfold CIn; simp
    obtain ⟨m1, m2, _⟩ := arrange_is (c := ⟨1, 0, 0⟩) 20000 hi (show f.fHammers.length ≤ 1048576 by omega) (show t.length ≤ 1048576 by omega) hn hci1
    have hall1 : frameB f = true ∧ tuneB t = true ∧ costsB ⟨1, 0, 0⟩ = true := ⟨frameB_of hf, tuneB_of ht, costsB_of hc1⟩
    have hv1 : arrangeV f t ⟨1, 0, 0⟩ 20000 = if (arrV f t ⟨1, 0, 0⟩ 20000).over = true then ([], 0, 7) else ((arrV f t ⟨1, 0, 0⟩ 20000).best, (arrV f t ⟨1, 0, 0⟩ 20000).least, 0) := by
      unfold arrangeV; rw [if_neg (by simp [hall1]), if_neg (by omega)]
    have hv : arrangeV f t c 20000 = if (arrV f t c 20000).over = true then ([], 0, 7) else ((arrV f t c 20000).best, (arrV f t c 20000).least, 0) := by
      unfold arrangeV; rw [if_neg (by simp [hall]), if_neg (by omega)]
    obtain ⟨mk, mkc, hmI, hmS, hmk⟩ : ∃ mk mkc : Int, impl_MostKept f t 20000 = some (mk, mkc) ∧ spec_MostKept f t 20000 = some (mk, mkc) ∧ (mkc = 7 ∨ (mkc = 0 ∧ ((other.countP fun x => !x.fAway : Nat) : Int) ≤ mk ∧ mk ≤ (t.length : Int))) := by
      simp only [impl_MostKept, spec_MostKept, m1, m2, Option.bind_some, impl_size_Note, hv1]
      cases ho : (arrV f t ⟨1, 0, 0⟩ 20000).over with
      | true => exact ⟨0, 7, by simp, by simp, .inl rfl⟩
      | false =>
        obtain ⟨v1, v2, v3, v4, v5⟩ := arrV_best hf hc1 ht 20000 ho
        have h5 := v5 other hol of_.fit
        have h6 := kept_sum other (of_.small hf ht)
        have h7 := (sumC_le hc1 _ ((⟨v2, v3⟩ : FitL f t _).small hf ht)).2
        have hw : w64 ((t.length : Int) - (arrV f t ⟨1, 0, 0⟩ 20000).least) = (t.length : Int) - (arrV f t ⟨1, 0, 0⟩ 20000).least := w64_in (by omega) (by omega)
        refine ⟨(t.length : Int) - (arrV f t ⟨1, 0, 0⟩ 20000).least, 0, by simp [hw], by simp [hw], .inr ⟨rfl, by omega, by omega⟩⟩
    have hxs : ∀ x ∈ t.map (leastC f c), 0 ≤ x ∧ x ≤ 4000 := by
      intro x hx
      obtain ⟨n, hn', rfl⟩ := List.mem_map.1 hx
      have := ht.nt n hn'
      exact leastC_le hf hc (by omega) (by omega)
    have hloop := loop_seq (f := laws_FnArranged.l_28 (f, t) c (t.map (leastC f c), 0)) t.length (fun k => (suf (t.map (leastC f c)) (t.length - k), (t.length : Int) - 1 - (k : Int))) (.inr (suf (t.map (leastC f c)) 0)) (fun k hk => by
      have hk2 : t.length - 1 - k < (t.map (leastC f c)).length := by rw [List.length_map]; omega
      have ei : (t.length : Int) - 1 - (k : Int) = ((t.length - 1 - k : Nat) : Int) := by omega
      have hst := suf_step hk2
      have hle := suf_le hxs (by simpa using htl) (t.length - 1 - k)
      have es : suf (t.map (leastC f c)) (t.length - k) + (t.map (leastC f c))[t.length - 1 - k] = suf (t.map (leastC f c)) (t.length - 1 - k) := by
        rw [hst, show t.length - 1 - k + 1 = t.length - k by omega]; omega
      simp only [laws_FnArranged.l_28, ei, ix_lt hk2, Option.bind_some, boundFrom_val hf ht hc hi hn hci (show t.length - 1 - k ≤ t.length by omega), es]
      rw [if_pos (by rw [decide_eq_true_eq]; omega), w64_in (n := suf (t.map (leastC f c)) (t.length - 1 - k)) (by omega) (by omega), if_neg (by simp), w64_in (by omega) (by omega), show t.length - (k + 1) = t.length - 1 - k by omega]
      congr 3
      omega) (by
      simp only [laws_FnArranged.l_28]
      rw [if_neg (by rw [decide_eq_true_eq]; omega), Nat.sub_self])
    have hloop' : loop (laws_FnArranged.l_28 (f, t) c (t.map (leastC f c), 0)) (0, w64 ((t.length : Int) - 1)) = some (.inr (suf (t.map (leastC f c)) 0)) := by
      rw [w64_in (by omega) (by omega)]
      have e0 : suf (t.map (leastC f c)) t.length = 0 := by unfold suf; rw [List.drop_of_length_le (by simp)]; rfl
      simpa [e0] using hloop
    have hgc := gf.cost hf ht hc hci
    have hgk := gf.check hf ht hi hn
    have hoc := of_.cost hf ht hc hci
    have hok := of_.kept hf ht hi hn
    have hgge := gf.ge hf ht hc
    have hoge := of_.ge hf ht hc
    have hal : (arrangeV f t c 20000).1.length ≤ 1000000 := by
      rw [hv]
      cases ho : (arrV f t c 20000).over with
      | true => simp
      | false => have := (arrV_best hf hc ht 20000 ho).2.1; simp; omega
    have hgl := gf.len
    have last : ∀ q, q = false → laws_FnArranged.k_23 (f, t) c (arrangeV f t c 20000) (arrangeV f t c 20000) (suf (t.map (leastC f c)) 0, 0) (sumC c (gSt f t c t.length).1, 0) (sumC c other, 0) q = some true := by
      rintro _ rfl
      simp only [laws_FnArranged.k_23, hv]
      cases ho : (arrV f t c 20000).over with
      | true => simp
      | false =>
        obtain ⟨v1, v2, v3, v4, v5⟩ := arrV_best hf hc ht 20000 ho
        have vf : FitL f t (arrV f t c 20000).best := ⟨v2, v3⟩
        have h1 := vf.cost hf ht hc hci
        have h2 := vf.check hf ht hi hn
        have h3 := vf.ge hf ht hc
        have h4 := v5 _ gf.len gf.fit
        have h5 := v5 other hol of_.fit
        simp [h1, h2, v4]
        omega
    simp only [e1, e3, a1, a3, g1, g2, lE, lS, b0, Option.bind_some, sameChoices_refl _ hal, sameChoices_refl (gSt f t c t.length).1 (by omega), same_refl (t.map (leastC f c)) (by simp; omega), List.length_map, validCosts_is hci, costsB_of hc, laws_FnArranged.k_12, hloop', laws_FnArranged.k_14, hgc, hgk, e2, hoc, hok, hmI, hmS, bne_self_eq_false, Bool.not_true, Bool.or_self, Bool.false_eq_true, if_false]
    have d1 : decide (sumC c (gSt f t c t.length).1 < suf (t.map (leastC f c)) 0) = false := by simp; omega
    have d2 : decide (sumC c other < suf (t.map (leastC f c)) 0) = false := by simp; omega
    simp only [d1, d2, Bool.or_self, Bool.false_eq_true, if_false]
    rcases hmk with rfl | ⟨rfl, hm1, hm2⟩
    · simp only [show ((7 : Int) == 0) = false from rfl, Bool.false_eq_true, if_false]
      exact last _ rfl
    · have d3 : decide (((other.countP fun x => !x.fAway : Nat) : Int) > mk) = false := by simp; omega
      have d4 : decide (mk > (t.length : Int)) = false := by simp; omega
      simp only [d3, d4, Bool.or_self, Bool.false_eq_true, if_false, beq_self_eq_true, if_true]
      exact last _ rfl

end Go.Proofs.YtolfkfjjifdmeaaGreat
