/- A frame and a tune drawn for a search, and choices drawn that fit, are valid. -/
import Derived.Test.YtplklknkkaeniaaGreatDoorM0
import Derived.Test.YtplklknkkaeniaaGreatDoorPFrame
import Derived.Test.YtplklknkkaeniaaGreatDoorPDrum
import Derived.Test.YtplklknkkaeniaaGreatDoorPPut
import Derived.Test.YtplklknkkaeniaaGreatDoorPTune
import Derived.Test.YtplklknkkaeniaaGreatDoorPMade
import Derived.Test.YtplklknkkaeniaaGreatDoorPChoices
import Derived.Test.YtplklknkkaeniaaGreatDoorPFit
import Derived.Test.YtplklknkkaeniaaGreatDoorPDraw
import Derived.Test.YtplklknkkaeniaaGreatDoorPure
namespace Go.Proofs.YtplklknkkaeniaaGreatDoor
open Eng
set_option linter.unusedVariables false
set_option linter.unusedSimpArgs false

theorem among_is {s : Gl00Src} {b : Nat} (h : SOk s b) (hb : b ≤ 900000) {list : List Int} (h1 : 1 ≤ list.length) (hn : list.length ≤ 200) : ∃ x s', spec_l00Src_among s list = some (x, s') ∧ x ∈ list ∧ SOk s' (b + 1) ∧ s'.fcode = s.fcode := by
  obtain ⟨x, s', e, p, q, o, c⟩ := pick_is h hb (n := (list.length : Int)) (by omega)
  have q := q (by omega)
  obtain ⟨k, rfl⟩ : ∃ k : Nat, x = (k : Int) := ⟨x.toNat, by omega⟩
  refine ⟨list[k]'(by omega), s', ?_, List.getElem_mem _, o, c⟩
  simp only [spec_l00Src_among, e, Option.bind_some, ix_lt (show k < list.length by omega)]
  rw [src_eta c]
theorem five_in {x : Int} (h : x ∈ [(22 : Int), 23, 24, 34, 35]) : 22 ≤ x ∧ x ≤ 35 := by
  simp only [List.mem_cons, List.not_mem_nil, or_false] at h
  omega
theorem six_in {x : Int} (h : x ∈ [(22 : Int), 23, 24, 34, 35, 12]) : 12 ≤ x ∧ x ≤ 35 := by
  simp only [List.mem_cons, List.not_mem_nil, or_false] at h
  omega
structure ShortOk (f : GFrame) (t : List GNote) : Prop where
  fr : FOk f
  tn : TOk t
  st : f.fSteps ≤ 13
  hm : f.fHammers.length ≤ 3
  tl : t.length ≤ 4
theorem short_hams {s : Gl00Src} {b : Nat} (h : SOk s b) (hb : b ≤ 100) {m : Int} (hm : 1 ≤ m ∧ m ≤ 3) {i j : Int} (hi : (⟨s.fcode, i, j⟩ : Gl00Src) = s) :
    ∃ i' j' xs, loop (spec_l07Short.l_25 s) (i, j, [], m) = some (i', j', xs) ∧ xs.length = m.toNat ∧ (∀ y ∈ xs, (22 ≤ y.fPitch ∧ y.fPitch ≤ 35) ∧ (1 ≤ y.fReady ∧ y.fReady ≤ 4)) ∧ SOk ⟨s.fcode, i', j'⟩ (b + 6) := by
  obtain ⟨⟨a3, a4, hs⟩, hr, g1, g2, g3⟩ := loop_inv (f := spec_l07Short.l_25 s) (fun st => ∃ k : Nat, k ≤ 3 ∧ st.2.2.2 = (k : Int) ∧ st.2.2.1.length + k = m.toNat ∧ (∀ y ∈ st.2.2.1, (22 ≤ y.fPitch ∧ y.fPitch ≤ 35) ∧ (1 ≤ y.fReady ∧ y.fReady ≤ 4)) ∧ SOk ⟨s.fcode, st.1, st.2.1⟩ (b + 2 * st.2.2.1.length)) (fun st => st.2.2.2.toNat)
    (fun r => r.2.2.length = m.toNat ∧ (∀ y ∈ r.2.2, (22 ≤ y.fPitch ∧ y.fPitch ≤ 35) ∧ (1 ≤ y.fReady ∧ y.fReady ≤ 4)) ∧ SOk ⟨s.fcode, r.1, r.2.1⟩ (b + 6)) (by
    rintro ⟨i, j, xs, _⟩ ⟨k, hk, rfl, hl, hx, ho⟩
    simp only at hl hx ho
    by_cases c : k = 0
    · right
      subst c
      simp only [spec_l07Short.l_25]
      rw [if_neg (by decide)]
      exact ⟨_, rfl, by simp only; omega, hx, ⟨ho.by_, ho.a0, by have := ho.a1; simp only at this ⊢; omega⟩⟩
    · left
      obtain ⟨y1, t1, e3, p3, o3, c3⟩ := among_is ho (by omega) (list := [22, 23, 24, 34, 35]) (by simp) (by simp)
      obtain ⟨y2, t2, e4, p4, q4, o4, c4⟩ := pick_is o3 (by omega) (n := 4) (by omega)
      have q4 := q4 (by omega)
      have p3 := five_in p3
      have c3' : t1.fcode = s.fcode := c3
      have c4' : t2.fcode = s.fcode := c4.trans c3
      simp only [spec_l07Short.l_25, e3, Option.bind_some, src_eta c3', e4]
      rw [if_pos (by rw [decide_eq_true_eq]; omega), if_pos (by simp only [List.length_cons, List.length_nil]; omega)]
      rw [w8_in (n := y1) (by omega) (by omega), w64_in (n := 1 + y2) (by omega) (by omega), w8_in (n := 1 + y2) (by omega) (by omega), w64_in (n := (k : Int) - 1) (by omega) (by omega)]
      refine ⟨_, rfl, ⟨k - 1, by omega, by simp only; omega, by simp only [List.length_append, List.length_cons, List.length_nil]; omega, ?_, ?_⟩, by simp only; omega⟩
      · intro y hy
        rcases List.mem_append.1 hy with hy | hy
        · exact hx y hy
        · rw [List.mem_singleton] at hy; subst hy; simp only; omega
      · have e5 := src_eta c4'
        simp only [List.length_append, List.length_cons, List.length_nil]
        rw [e5]
        exact ⟨o4.by_, o4.a0, by have := o4.a1; omega⟩) (i, j, [], m) ⟨m.toNat, by omega, by simp only; omega, by simp, by simp, by
      simp only [List.length_nil]
      rw [hi]
      exact ⟨h.by_, h.a0, by have := h.a1; omega⟩⟩
  exact ⟨_, _, _, hr, g1, g2, g3⟩
theorem short_notes {s : Gl00Src} {b : Nat} (h : SOk s b) (hb : b ≤ 100) {t1 : Int × Gl00Src} (ht : 0 ≤ t1.1 ∧ t1.1 ≤ 7) {m : Int} (hm : 0 ≤ m ∧ m ≤ 4) {i j : Int} (hi : SOk ⟨s.fcode, i, j⟩ b) :
    ∃ xs i' j', loop (spec_l07Short.l_17 s t1) ([], i, j, m) = some (xs, i', j') ∧ xs.length ≤ 4 ∧ ∀ y ∈ xs, (0 ≤ y.fAt ∧ y.fAt ≤ 13) ∧ (12 ≤ y.fPitch ∧ y.fPitch ≤ 35) := by
  obtain ⟨⟨xs, a3, a4⟩, hr, g1, g2⟩ := loop_inv (f := spec_l07Short.l_17 s t1) (fun st => ∃ k : Nat, k ≤ 4 ∧ st.2.2.2 = (k : Int) ∧ st.1.length + k ≤ 4 ∧ (∀ y ∈ st.1, (0 ≤ y.fAt ∧ y.fAt ≤ 13) ∧ (12 ≤ y.fPitch ∧ y.fPitch ≤ 35)) ∧ SOk ⟨s.fcode, st.2.1, st.2.2.1⟩ (b + 2 * st.1.length)) (fun st => st.2.2.2.toNat)
    (fun r => r.1.length ≤ 4 ∧ ∀ y ∈ r.1, (0 ≤ y.fAt ∧ y.fAt ≤ 13) ∧ (12 ≤ y.fPitch ∧ y.fPitch ≤ 35)) (by
    rintro ⟨xs, i, j, _⟩ ⟨k, hk, rfl, hl, hx, ho⟩
    simp only at hl hx ho
    by_cases c : k = 0
    · right
      subst c
      simp only [spec_l07Short.l_17]
      rw [if_neg (by decide)]
      exact ⟨_, rfl, by simp only; omega, hx⟩
    · left
      have e0 : w64 (w16 (w64 (6 + t1.1))) = 6 + t1.1 := by
        rw [w64_in (n := 6 + t1.1) (by omega) (by omega), w16_in (by omega) (by omega), w64_in (by omega) (by omega)]
      obtain ⟨y1, s1, e3, p3, q3, o3, c3⟩ := pick_is ho (by omega) (n := 6 + t1.1) (by omega)
      have q3 := q3 (by omega)
      obtain ⟨y2, s2, e4, p4, o4, c4⟩ := among_is o3 (by omega) (list := [22, 23, 24, 34, 35, 12]) (by simp) (by simp)
      have p4 := six_in p4
      have c3' : s1.fcode = s.fcode := c3
      have c4' : s2.fcode = s.fcode := c4.trans c3
      simp only [spec_l07Short.l_17, e0, e3, Option.bind_some, src_eta c3', e4]
      rw [if_pos (by rw [decide_eq_true_eq]; omega), if_pos (by simp only [List.length_cons, List.length_nil]; omega)]
      rw [w16_in (n := y1) (by omega) (by omega), w8_in (n := y2) (by omega) (by omega), w64_in (n := (k : Int) - 1) (by omega) (by omega)]
      refine ⟨_, rfl, ⟨k - 1, by omega, by simp only; omega, by simp only [List.length_append, List.length_cons, List.length_nil]; omega, ?_, ?_⟩, by simp only; omega⟩
      · intro y hy
        rcases List.mem_append.1 hy with hy | hy
        · exact hx y hy
        · rw [List.mem_singleton] at hy; subst hy; simp only; omega
      · have e5 := src_eta c4'
        simp only [List.length_append, List.length_cons, List.length_nil]
        rw [e5]
        exact ⟨o4.by_, o4.a0, by have := o4.a1; omega⟩) ([], i, j, m) ⟨m.toNat, by omega, by simp only; omega, by simp only [List.length_nil]; omega, by simp, by
      simp only [List.length_nil]; exact hi⟩
  exact ⟨_, _, _, hr, g1, g2⟩
theorem a2Short_is (code : List Int) (hc : ∀ y ∈ code, 0 ≤ y ∧ y ≤ 255) : ∃ f t, spec_A2Short code = some (f, t) ∧ ShortOk f t := by
  obtain ⟨e, h⟩ := from_is code hc
  obtain ⟨x1, s1, e1, p1, q1, o1, c1⟩ := pick_is h (by omega) (n := 8) (by omega)
  obtain ⟨x2, s2, e2, p2, q2, o2, c2⟩ := pick_is o1 (by omega) (n := 3) (by omega)
  have q1 := q1 (by omega); have q2 := q2 (by omega)
  have c1' : s1.fcode = code := c1
  have c2' : s2.fcode = code := c2.trans c1
  simp only [spec_A2Short, e, Option.bind_some, spec_l07Short, e1, src_eta c1', e2]
  have hs0 : SOk ⟨code, 0, 0⟩ 0 := h
  have key : ∃ i' j' xs, loop (spec_l07Short.l_25 ⟨code, 0, 0⟩) (s2.fat, s2.fseed, [], w64 (1 + x2)) = some (i', j', xs) ∧ xs.length = (1 + x2).toNat ∧ (∀ y ∈ xs, (22 ≤ y.fPitch ∧ y.fPitch ≤ 35) ∧ (1 ≤ y.fReady ∧ y.fReady ≤ 4)) ∧ SOk ⟨code, i', j'⟩ 8 := by
    rw [w64_in (n := 1 + x2) (by omega) (by omega)]
    obtain ⟨i', j', xs, h1, h2, h3, h4⟩ := short_hams (s := s2) o2 (by omega) (m := 1 + x2) (by omega) (i := s2.fat) (j := s2.fseed) (by cases s2; rfl)
    rw [c2'] at h4
    have hf : spec_l07Short.l_25 s2 = spec_l07Short.l_25 ⟨code, 0, 0⟩ := by
      funext st
      obtain ⟨a, b, c, d⟩ := st
      simp only [spec_l07Short.l_25, c2']
    rw [hf] at h1
    exact ⟨i', j', xs, h1, h2, h3, h4⟩
  obtain ⟨i', j', xs, h1, h2, h3, h4⟩ := key
  simp only [h1, Option.bind_some, spec_l07Short.k_6]
  obtain ⟨x3, s3, e3, p3, q3, o3, c3⟩ := pick_is h4 (by omega) (n := 5) (by omega)
  have q3 := q3 (by omega)
  have c3' : s3.fcode = code := c3
  have hk : SOk ⟨code, s3.fat, s3.fseed⟩ 9 := by rw [src_eta c3']; exact o3
  obtain ⟨ns, i2, j2, n1, n2, n3⟩ := short_notes (s := ⟨code, 0, 0⟩) (b := 9) ⟨hs0.by_, hs0.a0, by have := hs0.a1; omega⟩ (by omega) (t1 := (x1, s1)) (by simp only; omega) (m := x3) (by omega) (i := s3.fat) (j := s3.fseed) hk
  obtain ⟨r, r1, r2, r3, r4⟩ := l01Sorted_is ns (by omega)
  simp only [e3, Option.bind_some, n1, spec_l07Short.k_11, r1]
  have e0 : w16 (w64 (6 + x1)) = 6 + x1 := by
    rw [w64_in (n := 6 + x1) (by omega) (by omega), w16_in (by omega) (by omega)]
  rw [e0]
  refine ⟨_, _, rfl, ⟨⟨by simp only; omega, by simp only; omega, by simp only; omega, by simp only; omega, fun y hy => ?_⟩, ⟨by omega, fun y hy => ?_, r2⟩, by simp only; omega, by simp only; omega, by omega⟩⟩
  · have := h3 y hy
    simp only
    omega
  · have := n3 y ((r3 y).1 hy)
    omega
/-! ### choices that fit -/
theorem la_small (f : GFrame) (n : GNote) (i : Nat) (hf : f.fHammers.length ≤ 3) : (la f n i).length ≤ 9 := by
  unfold la
  split
  · split
    · rename_i l _ _
      have := app_len 3 3 (oc f n l) (fun k _ => by
        unfold oc
        split
        · rename_i o _; have := tk_len f n l o; omega
        · simp)
      omega
    · simp
  · simp
theorem a2Choices_is (code : List Int) (hc : ∀ y ∈ code, 0 ≤ y ∧ y ≤ 255) {f : GFrame} {t : List GNote} (hs : ShortOk f t) :
    ∃ list d, spec_A2Choices code f t = some list ∧ list.length = t.length ∧ (∀ (k : Nat) (h1 : k < list.length) (h2 : k < t.length), list[k] ∈ allFor f t[k]) ∧ fitV f t list = .inl d := by
  obtain ⟨e, h⟩ := from_is code hc
  have hf := hs.fr; have htl := hs.tl; have hh := hs.hm
  simp only [spec_A2Choices, e, Option.bind_some]
  have key : ∃ r : List GChoice × Arr 96 Int × Int × Int, loop (spec_A2Choices.l_12 code f t) ([], Arr.rep 96 0, 0, 0, 0) = some r ∧ (r.1.length = t.length ∧ (∀ (k : Nat) (h1 : k < r.1.length) (h2 : k < t.length), r.1[k] ∈ allFor f t[k]) ∧ tryN (fitP f t r.1) 0 (Arr.rep 96 0) t.length = .inl r.2.1) := by
    refine loop_inv (f := spec_A2Choices.l_12 code f t) (fun st => ∃ k : Nat, k ≤ t.length ∧ st.2.2.2.2 = (k : Int) ∧ st.1.length = k ∧ DIn st.2.1 ∧ (∀ (j : Nat) (h1 : j < st.1.length) (h2 : j < t.length), st.1[j] ∈ allFor f t[j]) ∧ SOk ⟨code, st.2.2.1, st.2.2.2.1⟩ (2 * k) ∧ ∀ rest, tryN (fitP f t (st.1 ++ rest)) 0 (Arr.rep 96 0) t.length = tryN (fitP f t (st.1 ++ rest)) k st.2.1 (t.length - k)) (fun st => (t.length : Nat) - st.2.2.2.2.toNat) _ ?_ _ ⟨0, by omega, rfl, rfl, DIn_rep, by simp, h, fun rest => rfl⟩
    rintro ⟨xs, a, i, j, _⟩ ⟨k, hk, rfl, hl, hd, hx, ho, htr⟩
    simp only at hl hd hx ho htr
    by_cases c : k = t.length
    · right
      subst c
      simp only [spec_A2Choices.l_12]
      rw [if_neg (by simp)]
      refine ⟨_, rfl, hl, hx, ?_⟩
      have := htr []
      simpa [tryN] using this
    · left
      have hkt : k < t.length := by omega
      have hn := hs.tn.nt _ (List.getElem_mem hkt)
      have hal := allFor_len f t[k] hf.h1
      have hne : 1 ≤ (allFor f t[k]).length := by unfold allFor; simp
      have hbd : (allFor f t[k]).length ≤ 200 := by
        have h1 : ∀ i, (la f t[k] i).length ≤ 9 := fun i => la_small f t[k] i hh
        have := app_len 7 9 (la f t[k]) (fun k _ => h1 k)
        simp only [allFor, List.length_append, List.length_cons, List.length_nil]
        omega
      obtain ⟨y1, s1, e3, p3, q3, o3, c3⟩ := pick_is ho (by omega) (n := ((allFor f t[k]).length : Int)) (by omega)
      have q3 := q3 (by omega)
      obtain ⟨m, rfl⟩ : ∃ m : Nat, y1 = (m : Int) := ⟨y1.toNat, by omega⟩
      have hm : m < (allFor f t[k]).length := by omega
      have hmem : (allFor f t[k])[m] ∈ allFor f t[k] := List.getElem_mem hm
      have c3' : s1.fcode = code := c3
      have haway : (⟨true, 0, 0, 0⟩ : GChoice) ∈ allFor f t[k] := by unfold allFor; simp
      have ho' : SOk ⟨code, s1.fat, s1.fseed⟩ (2 * (k + 1)) := by rw [src_eta c3']; exact ⟨o3.by_, o3.a0, by have := o3.a1; omega⟩
      have hw : w64 ((k : Int) + 1) = ((k + 1 : Nat) : Int) := by rw [w64_in (by omega) (by omega)]; omega
      have fin : ∀ (x : GChoice) (d' : Arr 96 Int), x ∈ allFor f t[k] → putV f t[k] x a = some d' → ∃ s', spec_A2Choices.k_23 xs (k : Int) ((m : Int), s1) d' x.fAway x.fLate x.fOctave x.fTrack = some (.inl s') ∧ (∃ k' : Nat, k' ≤ t.length ∧ s'.2.2.2.2 = (k' : Int) ∧ s'.1.length = k' ∧ DIn s'.2.1 ∧ (∀ (j : Nat) (h1 : j < s'.1.length) (h2 : j < t.length), s'.1[j] ∈ allFor f t[j]) ∧ SOk ⟨code, s'.2.2.1, s'.2.2.2.1⟩ (2 * k') ∧ ∀ rest, tryN (fitP f t (s'.1 ++ rest)) 0 (Arr.rep 96 0) t.length = tryN (fitP f t (s'.1 ++ rest)) k' s'.2.1 (t.length - k')) ∧ (t.length : Nat) - s'.2.2.2.2.toNat < t.length - (k : Int).toNat := by
        intro x d' hxm hp
        simp only [spec_A2Choices.k_23, hw]
        rw [if_pos (by simp only [List.length_cons, List.length_nil]; omega)]
        refine ⟨_, rfl, ⟨k + 1, by omega, rfl, by simp [hl], putV_in hf (show 0 ≤ t[k].fAt ∧ t[k].fAt ≤ 199 by omega) (by omega) hxm hd hp, ?_, ho', ?_⟩, by simp only; omega⟩
        · intro j h1 h2
          simp only [List.length_append, List.length_cons, List.length_nil] at h1
          by_cases cj : j < xs.length
          · simp only [List.getElem_append_left cj]
            exact hx j cj h2
          · obtain rfl : j = k := by omega
            have : (xs ++ [x])[j]'(by simp; omega) = x := by rw [List.getElem_append_right (by omega)]; simp
            show (xs ++ [x])[j]'(by simp; omega) ∈ allFor f t[j]
            rw [this]
            exact hxm
        · intro rest
          have h1 := htr (x :: rest)
          have e1 : (xs ++ [x]) ++ rest = xs ++ x :: rest := by simp
          show tryN (fitP f t ((xs ++ [x]) ++ rest)) 0 (Arr.rep 96 0) t.length = tryN (fitP f t ((xs ++ [x]) ++ rest)) (k + 1) d' (t.length - (k + 1))
          rw [e1, h1, show t.length - k = (t.length - (k + 1)) + 1 by omega]
          have hfp : fitP f t (xs ++ x :: rest) k a = some d' := by
            unfold fitP
            rw [List.getElem?_eq_getElem hkt, List.getElem?_append_right (by omega), hl]
            simp only [Nat.sub_self, List.getElem?_cons_zero]
            rw [if_pos hxm, hp]
          simp only [tryN, hfp]
      simp only [spec_A2Choices.l_12, ix_lt hkt, Option.bind_some, l07For_is hf, e3, ix_lt hm, l07Put_is hf (show 0 ≤ t[k].fAt ∧ t[k].fAt ≤ 199 by omega) (show 0 ≤ t[k].fPitch ∧ t[k].fPitch ≤ 47 by omega) hmem hd]
      rw [if_pos (by simpa using hkt)]
      cases hp : putV f t[k] (allFor f t[k])[m] a with
      | none =>
        simp only [Bool.not_false, if_true]
        exact fin ⟨true, 0, 0, 0⟩ a haway (by simp [putV])
      | some d' =>
        simp only [Bool.not_true, Bool.false_eq_true, if_false]
        exact fin _ d' hmem hp
  obtain ⟨r, hr, g1, g2, g3⟩ := key
  have e0 : (loop (spec_A2Choices.l_12 code f t) (([] : List GChoice), (Arr.rep 96 0), (⟨code, 0, 0⟩ : Gl00Src).fat, (⟨code, 0, 0⟩ : Gl00Src).fseed, 0)) = some r := hr
  simp only [e0, Option.bind_some, spec_A2Choices.k_6]
  exact ⟨_, _, rfl, g1, g2, g3⟩

end Go.Proofs.YtplklknkkaeniaaGreatDoor
