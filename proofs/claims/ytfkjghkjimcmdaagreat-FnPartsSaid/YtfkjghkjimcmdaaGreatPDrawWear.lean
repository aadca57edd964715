/- Drums and wears drawn from bytes are valid, and what is turned in them is small. -/
import Derived.Test.YtfkjghkjimcmdaaGreatM0
import Derived.Test.YtfkjghkjimcmdaaGreatPFrame
import Derived.Test.YtfkjghkjimcmdaaGreatPDrum
import Derived.Test.YtfkjghkjimcmdaaGreatPCodes
import Derived.Test.YtfkjghkjimcmdaaGreatPPut
import Derived.Test.YtfkjghkjimcmdaaGreatPWear
import Derived.Test.YtfkjghkjimcmdaaGreatPFit
import Derived.Test.YtfkjghkjimcmdaaGreatPFresh
import Derived.Test.YtfkjghkjimcmdaaGreatPDraw
import Derived.Test.YtfkjghkjimcmdaaGreatPure
namespace Go.Proofs.YtfkjghkjimcmdaaGreat
open Eng
set_option linter.unusedVariables false
set_option linter.unusedSimpArgs false

theorem drumDrawn_is {f : GFrame} (hf : FOk f) {s : Gl00Src} {b : Nat} (h : SOk s b) (hb : b ≤ 1000) : ∃ d s', spec_l02Drawn s f = some (d, s') ∧ DIn d ∧ (∀ i t, pin d i t = true → (i : Int) < f.fSteps ∧ t < f.fHammers.length) ∧ SOk s' (b + 40) ∧ s'.fcode = s.fcode := by
  have hs0 := hf.s0; have hs1 := hf.s1; have hh0 := hf.h0; have hh1 := hf.h1
  obtain ⟨x1, s1, e1, p1, q1, o1, c1⟩ := pick_is h (by omega) (n := 4) (by omega)
  obtain ⟨x2, s2, e2, p2, q2, o2, c2⟩ := pick_is o1 (by omega) (n := 12) (by omega)
  have q2 := q2 (by omega)
  have c2' : s2.fcode = s.fcode := c2.trans c1
  have hw : w64 f.fSteps = f.fSteps := w64_in (by omega) (by omega)
  simp only [spec_l02Drawn, spec_l00Src_one, e1, Option.bind_some, src_eta c1, e2]
  obtain ⟨⟨a3, i3, j3⟩, hr, g1, g2, g3⟩ := loop_inv (f := spec_l02Drawn.l_11 s f (decide (x1 = 0), s1)) (fun st => ∃ k m : Nat, k + m ≤ 11 ∧ st.2.2.2 = (k : Int) ∧ DIn st.1 ∧ (∀ i t, pin st.1 i t = true → (i : Int) < f.fSteps ∧ t < f.fHammers.length) ∧ SOk ⟨s.fcode, st.2.1, st.2.2.1⟩ (b + 2 + 2 * m)) (fun st => st.2.2.2.toNat)
    (fun r => DIn r.1 ∧ (∀ i t, pin r.1 i t = true → (i : Int) < f.fSteps ∧ t < f.fHammers.length) ∧ SOk ⟨s.fcode, r.2.1, r.2.2⟩ (b + 40)) (by
    rintro ⟨a, i, j, _⟩ ⟨k, m, hk, rfl, hd, hp, ho⟩
    simp only at hd hp ho
    by_cases c : k = 0
    · right
      subst c
      simp only [spec_l02Drawn.l_11]
      rw [if_neg (by decide)]
      exact ⟨_, rfl, hd, hp, ⟨ho.by_, ho.a0, by have := ho.a1; simp only at this ⊢; omega⟩⟩
    · left
      obtain ⟨y1, t1, e3, p3, q3, o3, c3⟩ := pick_is ho (by omega) (n := f.fSteps) (by omega)
      obtain ⟨y2, t2, e4, p4, q4, o4, c4⟩ := pick_is o3 (by omega) (n := (f.fHammers.length : Int)) (by omega)
      have q3 := q3 (by omega); have q4 := q4 (by omega)
      have c3' : t1.fcode = s.fcode := c3
      have c4' : t2.fcode = s.fcode := c4.trans c3
      obtain ⟨n1, rfl⟩ : ∃ n1 : Nat, y1 = (n1 : Int) := ⟨y1.toNat, by omega⟩
      obtain ⟨n2, rfl⟩ : ∃ n2 : Nat, y2 = (n2 : Int) := ⟨y2.toNat, by omega⟩
      have hk1 : w64 ((k : Int) - 1) = ((k - 1 : Nat) : Int) := by rw [w64_in (by omega) (by omega)]; omega
      have ho' : SOk ⟨s.fcode, t2.fat, t2.fseed⟩ (b + 2 + 2 * (m + 1)) := by
        rw [src_eta c4']; exact ⟨o4.by_, o4.a0, by have := o4.a1; omega⟩
      have key : ∀ q : Bool, ∃ st', spec_l02Drawn.k_16 a (k : Int) ((n1 : Int), t1) ((n2 : Int), t2) q = some (.inl st') ∧ (∃ k' m' : Nat, k' + m' ≤ 11 ∧ st'.2.2.2 = (k' : Int) ∧ DIn st'.1 ∧ (∀ i t, pin st'.1 i t = true → (i : Int) < f.fSteps ∧ t < f.fHammers.length) ∧ SOk ⟨s.fcode, st'.2.1, st'.2.2.1⟩ (b + 2 + 2 * m')) ∧ st'.2.2.2.toNat < k := by
        intro q
        simp only [spec_l02Drawn.k_16, hk1]
        cases q with
        | false =>
          refine ⟨_, rfl, ⟨k - 1, m + 1, by omega, rfl, hd, hp, ho'⟩, by simp only; omega⟩
        | true =>
          have hn2 : u64 (n2 : Int) = (n2 : Int) := u64_in (by omega) (by omega)
          obtain ⟨h5, h6⟩ := or_pin hd (show n1 < 96 by omega) (show n2 < 32 by omega)
          simp only [if_true, ix_row hd (show n1 < 96 by omega), Option.bind_some, hn2]
          rw [if_pos (by omega)]
          refine ⟨_, rfl, ⟨k - 1, m + 1, by omega, rfl, h5, fun i t hit => ?_, ho'⟩, by simp only; omega⟩
          have h6' := h6 i t
          simp only at hit
          rw [h6'] at hit
          simp only [Bool.or_eq_true, Bool.and_eq_true, decide_eq_true_eq] at hit
          rcases hit with hit | ⟨rfl, rfl⟩
          · exact hp i t hit
          · omega
      simp only [spec_l02Drawn.l_11, hw, e3, Option.bind_some, src_eta c3', e4]
      rw [if_pos (by rw [decide_eq_true_eq]; omega)]
      by_cases hx : decide (x1 = 0) = true
      · rw [if_pos hx]
        obtain ⟨st', r1, r2, r3⟩ := key true
        exact ⟨st', r1, r2, by show st'.2.2.2.toNat < ((k : Nat) : Int).toNat; omega⟩
      · rw [if_neg hx]
        rw [l02Free_is hf hd (show (n1 : Int) < f.fSteps by omega) (show n2 < f.fHammers.length by omega)]
        simp only [Option.bind_some]
        obtain ⟨st', r1, r2, r3⟩ := key (freeB f a n1 n2)
        exact ⟨st', r1, r2, by show st'.2.2.2.toNat < ((k : Nat) : Int).toNat; omega⟩) (Arr.rep 96 0, s2.fat, s2.fseed, x2) ⟨x2.toNat, 0, by omega, by simp only; omega, DIn_rep, fun i t hit => (by rw [pin_rep] at hit; cases hit), by
      rw [src_eta c2']; exact ⟨o2.by_, o2.a0, by have := o2.a1; omega⟩⟩
  have ed : (x1 == 0) = decide (x1 = 0) := by rw [Bool.eq_iff_iff]; simp
  rw [ed, hr]
  simp only [Option.bind_some, spec_l02Drawn.k_6]
  exact ⟨_, _, rfl, g1, g2, g3, rfl⟩
/-! ### a fresh wear is valid -/
theorem fpins_mem {f : GFrame} (hf : FOk f) {d : Arr 96 Int} {p : GWornPin} (hp : p ∈ fpins f d) : ∃ s t : Nat, (s : Int) < f.fSteps ∧ t < f.fHammers.length ∧ p = ⟨(s : Int), (t : Int), 0⟩ ∧ pin d s t = true := by
  have hs0 := hf.s0
  unfold fpins at hp
  obtain ⟨s, hs, hp⟩ := List.mem_flatMap.1 hp
  unfold fr at hp
  obtain ⟨t, ht, hp⟩ := List.mem_flatMap.1 hp
  rw [List.mem_range] at hs ht
  unfold fp at hp
  by_cases c : pin d s t = true
  · rw [if_pos c, List.mem_singleton] at hp
    exact ⟨s, t, by omega, ht, hp, c⟩
  · rw [if_neg c] at hp; cases hp
theorem fp_mem {d : Arr 96 Int} {s t : Nat} {p : GWornPin} (hp : p ∈ fp d s t) : p = ⟨(s : Int), (t : Int), 0⟩ := by
  unfold fp at hp
  by_cases c : pin d s t = true
  · rw [if_pos c, List.mem_singleton] at hp; exact hp
  · rw [if_neg c] at hp; cases hp
theorem fpins_sorted (f : GFrame) (d : Arr 96 Int) : (fpins f d).Pairwise (fun a b => befB a b = true) := by
  unfold fpins
  rw [List.pairwise_flatMap]
  constructor
  · intro s _
    unfold fr
    rw [List.pairwise_flatMap]
    constructor
    · intro t _
      unfold fp
      split <;> simp
    · refine List.Pairwise.imp ?_ List.pairwise_lt_range
      intro t1 t2 h12 x hx y hy
      rw [fp_mem hx, fp_mem hy, befB_iff]
      exact .inr ⟨rfl, by simp only; omega⟩
  · refine List.Pairwise.imp ?_ List.pairwise_lt_range
    intro s1 s2 h12 x hx y hy
    unfold fr at hx hy
    obtain ⟨t1, _, hx⟩ := List.mem_flatMap.1 hx
    obtain ⟨t2, _, hy⟩ := List.mem_flatMap.1 hy
    rw [fp_mem hx, fp_mem hy, befB_iff]
    simp only; omega
theorem fresh_wok {f : GFrame} (hf : FOk f) (d : Arr 96 Int) : WOk f ⟨fpins f d, List.replicate f.fHammers.length 0⟩ := by
  refine ⟨hf, by simp, fun p hp => ?_, fpins_sorted f d, fun s hs => ?_⟩
  · obtain ⟨s, t, h1, h2, rfl, _⟩ := fpins_mem hf hp
    simp only; omega
  · have := List.eq_of_mem_replicate hs; omega
/-! ### a wear whose numbers are drawn -/
def smallW (w : GWear) : Prop := (∀ p ∈ w.fPins, 0 ≤ p.fTurns ∧ p.fTurns ≤ 11) ∧ ∀ s ∈ w.fStrokes, 0 ≤ s ∧ s ≤ 11
theorem wearDrawn_is {f : GFrame} (hi : FIn f) (hf : FOk f) {s : Gl00Src} (h : SOk s 0) : ∃ w s', spec_l06Drawn s f = some (w, s') ∧ WOk f w ∧ smallW w := by
  have hs0 := hf.s0; have hs1 := hf.s1; have hh0 := hf.h0; have hh1 := hf.h1
  obtain ⟨d, s1, e1, g1, g2, g3, g4⟩ := drumDrawn_is hf h (by omega)
  have r2 : spec_FreshWear f d = some (⟨fpins f d, List.replicate f.fHammers.length 0⟩, 0) := by
    have hb : frameB f = true ∧ drumB f d = true := ⟨frameB_of hf, drumB_of g2⟩
    simp only [spec_FreshWear, l02Asked_is f hi (by omega) d g1, Option.bind_some, if_pos hb, bne_self_eq_false, Bool.false_eq_true, if_false]
    rw [if_pos (by omega)]
    simp only [specOut hf g1, Option.bind_some, spec_FreshWear.k_3]
    simp
  have hw := fresh_wok hf d
  have hpl := fpins_len hf d
  simp only [spec_l06Drawn, e1, Option.bind_some, r2, spec_l06Drawn.k_4]
  generalize hps : fpins f d = ps at hw hpl
  have ini1 : ∀ i (h1 : i < ps.length) (h2 : i < ps.length), ps[i].fStep = ps[i].fStep ∧ ps[i].fTrack = ps[i].fTrack ∧ 0 ≤ ps[i].fTurns ∧ ps[i].fTurns ≤ 11 := by
    intro i h1 h2
    refine ⟨rfl, rfl, ?_⟩
    have hm : ps[i] ∈ fpins f d := by rw [hps]; exact List.getElem_mem h2
    obtain ⟨a, b, _, _, e, _⟩ := fpins_mem hf hm
    rw [e]; simp
  have ini2 : SOk ⟨s.fcode, s1.fat, s1.fseed⟩ (40 + 0) := by
    rw [src_eta g4]
    exact ⟨g3.by_, g3.a0, by have := g3.a1; omega⟩
  obtain ⟨⟨qs, i3, j3⟩, hq, q1, q2, q3⟩ := loop_inv (f := spec_l06Drawn.l_25 s ps) (fun st => ∃ k : Nat, k ≤ ps.length ∧ st.2.2.2 = (k : Int) ∧ st.1.length = ps.length ∧ (∀ i (h1 : i < st.1.length) (h2 : i < ps.length), st.1[i].fStep = ps[i].fStep ∧ st.1[i].fTrack = ps[i].fTrack ∧ 0 ≤ st.1[i].fTurns ∧ st.1[i].fTurns ≤ 11) ∧ SOk ⟨s.fcode, st.2.1, st.2.2.1⟩ (40 + k)) (fun st => ps.length - st.2.2.2.toNat)
    (fun r => r.1.length = ps.length ∧ (∀ i (h1 : i < r.1.length) (h2 : i < ps.length), r.1[i].fStep = ps[i].fStep ∧ r.1[i].fTrack = ps[i].fTrack ∧ 0 ≤ r.1[i].fTurns ∧ r.1[i].fTurns ≤ 11) ∧ SOk ⟨s.fcode, r.2.1, r.2.2⟩ 5000) (by
    rintro ⟨xs, i, j, _⟩ ⟨k, hk, rfl, hl, hx, ho⟩
    simp only at hl hx ho
    by_cases c : k < ps.length
    · left
      obtain ⟨y, t, e3, p3, q3, o3, c3⟩ := pick_is ho (by omega) (n := 12) (by omega)
      have q3 := q3 (by omega)
      have hkx : k < xs.length := by omega
      simp only [spec_l06Drawn.l_25, e3, Option.bind_some, ix_lt hkx, Int.toNat_natCast]
      rw [if_pos (by simpa using c), w64_in (n := (k : Int) + 1) (by omega) (by omega)]
      refine ⟨_, rfl, ⟨k + 1, by omega, by simp, by simpa using hl, fun i h1 h2 => ?_, ?_⟩, by simp only; omega⟩
      · simp only at h1 ⊢
        rw [List.getElem_set]
        have h3 : i < xs.length := by simpa using h1
        by_cases e : k = i
        · subst e
          rw [if_pos rfl]
          have := hx k h3 h2
          exact ⟨this.1, this.2.1, p3, by simp only; omega⟩
        · rw [if_neg e]; exact hx i h3 h2
      · simp only
        rw [src_eta c3]
        exact ⟨o3.by_, o3.a0, by have := o3.a1; omega⟩
    · right
      simp only [spec_l06Drawn.l_25]
      rw [if_neg (by simpa using c)]
      exact ⟨_, rfl, hl, hx, ⟨ho.by_, ho.a0, by have := ho.a1; simp only at this ⊢; omega⟩⟩) (ps, s1.fat, s1.fseed, 0) ⟨0, by omega, rfl, rfl, ini1, ini2⟩
  simp only at q1 q2 q3
  simp only [hq, Option.bind_some, spec_l06Drawn.k_8]
  obtain ⟨⟨ys, i4, j4⟩, hz, z1, z2⟩ := loop_inv (f := spec_l06Drawn.l_17 s (List.replicate f.fHammers.length 0)) (fun st => ∃ k : Nat, k ≤ f.fHammers.length ∧ st.2.2.2 = (k : Int) ∧ st.1.length = f.fHammers.length ∧ (∀ y ∈ st.1, 0 ≤ y ∧ y ≤ 11) ∧ SOk ⟨s.fcode, st.2.1, st.2.2.1⟩ (5000 + k)) (fun st => f.fHammers.length - st.2.2.2.toNat)
    (fun r => r.1.length = f.fHammers.length ∧ ∀ y ∈ r.1, 0 ≤ y ∧ y ≤ 11) (by
    rintro ⟨xs, i, j, _⟩ ⟨k, hk, rfl, hl, hx, ho⟩
    simp only at hl hx ho
    by_cases c : k < f.fHammers.length
    · left
      obtain ⟨y, t, e3, p3, q3, o3, c3⟩ := pick_is ho (by omega) (n := 12) (by omega)
      have q3 := q3 (by omega)
      have hkx : k < xs.length := by omega
      simp only [spec_l06Drawn.l_17, e3, Option.bind_some, ix_lt hkx, Int.toNat_natCast, List.length_replicate]
      rw [if_pos (by simpa using c), w64_in (n := (k : Int) + 1) (by omega) (by omega)]
      refine ⟨_, rfl, ⟨k + 1, by omega, by simp, by simpa using hl, fun z hz => ?_, ?_⟩, by simp only; omega⟩
      · rcases List.mem_or_eq_of_mem_set hz with h | rfl
        · exact hx z h
        · omega
      · simp only
        rw [src_eta c3]
        exact ⟨o3.by_, o3.a0, by have := o3.a1; omega⟩
    · right
      simp only [spec_l06Drawn.l_17, List.length_replicate]
      rw [if_neg (by simpa using c)]
      exact ⟨_, rfl, hl, hx⟩) (List.replicate f.fHammers.length 0, i3, j3, 0) ⟨0, by omega, rfl, by simp, fun y hy => by have := List.eq_of_mem_replicate hy; omega, q3⟩
  simp only at z1 z2
  simp only [hz, Option.bind_some, spec_l06Drawn.k_12]
  refine ⟨_, _, rfl, ⟨hf, z1, fun p hp => ?_, ?_, fun y hy => by have := z2 y hy; omega⟩, fun p hp => ?_, z2⟩
  · obtain ⟨i, h1, rfl⟩ := List.mem_iff_getElem.1 hp
    have h2 : i < ps.length := by have h1' : i < qs.length := h1; omega
    obtain ⟨a, b, c, e⟩ := q2 i h1 h2
    have := hw.pl ps[i] (List.getElem_mem h2)
    rw [a, b]; simp only at this ⊢; omega
  · rw [List.pairwise_iff_getElem]
    intro i j h1 h2 hij
    have h3 : i < ps.length := by simp only at h1; omega
    have h4 : j < ps.length := by simp only at h2; omega
    have := List.pairwise_iff_getElem.1 hw.so i j h3 h4 hij
    obtain ⟨a, b, _⟩ := q2 i h1 h3
    obtain ⟨a', b', _⟩ := q2 j h2 h4
    rw [befB_iff] at this ⊢
    simp only at this ⊢
    rw [a, b, a', b']; exact this
  · obtain ⟨i, h1, rfl⟩ := List.mem_iff_getElem.1 hp
    exact (q2 i h1 (by have h1' : i < qs.length := h1; omega)).2.2
theorem p6Wear_is {f : GFrame} (hi : FIn f) (hf : FOk f) (code : List Int) (hc : ∀ y ∈ code, 0 ≤ y ∧ y ≤ 255) : ∃ w, spec_P6Wear code f = some w ∧ WOk f w ∧ smallW w := by
  obtain ⟨h1, h2⟩ := from_is code hc
  obtain ⟨w, s', e, g1, g2⟩ := wearDrawn_is hi hf h2
  simp only [spec_P6Wear, h1, Option.bind_some, e]
  exact ⟨w, rfl, g1, g2⟩

end Go.Proofs.YtfkjghkjimcmdaaGreat
