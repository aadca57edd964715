/- Changes made, undone, and the first one that cannot be made. -/
import Derived.Test.YtgmmeokkgcbkdaaGreatDoorM0
import Derived.Test.YtgmmeokkgcbkdaaGreatDoorM1
import Derived.Test.YtgmmeokkgcbkdaaGreatDoorPFrame
import Derived.Test.YtgmmeokkgcbkdaaGreatDoorPDrum
import Derived.Test.YtgmmeokkgcbkdaaGreatDoorPCodes
import Derived.Test.YtgmmeokkgcbkdaaGreatDoorPPut
import Derived.Test.YtgmmeokkgcbkdaaGreatDoorPBits
import Derived.Test.YtgmmeokkgcbkdaaGreatDoorPCost
import Derived.Test.YtgmmeokkgcbkdaaGreatDoorPChList
import Derived.Test.YtgmmeokkgcbkdaaGreatDoorPPlcW
import Derived.Test.YtgmmeokkgcbkdaaGreatDoorPure
namespace Go.Proofs.YtgmmeokkgcbkdaaGreatDoor
open Eng
set_option linter.unusedVariables false
set_option linter.unusedSimpArgs false

def cS (c : GChange) : Nat := c.fStep.toNat
def cT (c : GChange) : Nat := c.fTrack.toNat
structure OkC (f : GFrame) (c : GChange) : Prop where
  s : 0 ≤ c.fStep ∧ c.fStep < f.fSteps
  t : 0 ≤ c.fTrack ∧ c.fTrack < f.fHammers.length
theorem put_bit {d : Arr 96 Int} (hd : DIn d) {s t : Nat} (hs : s < 96) (ht : t < 32) (on : Bool) : ∃ d', impl_Drum_put d (s : Int) (t : Int) on = some d' ∧ DIn d' ∧ ∀ a b, pin d' a b = if a = s ∧ b = t then on else pin d a b := by
  cases on with
  | true =>
    obtain ⟨d', h1, h2, h3⟩ := put_on hd hs ht
    refine ⟨d', h1, h2, fun a b => ?_⟩
    rw [h3]
    by_cases c : a = s ∧ b = t
    · rw [if_pos c]; simp [c.1, c.2]
    · rw [if_neg c]
      have : (decide (a = s) && decide (b = t)) = false := by
        rw [Bool.eq_false_iff]; simp only [ne_eq, Bool.and_eq_true, decide_eq_true_eq]; exact c
      rw [this, Bool.or_false]
  | false =>
    obtain ⟨d', h1, h2, h3⟩ := put_off hd hs ht
    refine ⟨d', h1, h2, fun a b => ?_⟩
    rw [h3]
    by_cases c : a = s ∧ b = t
    · rw [if_pos c]; simp [c.1, c.2]
    · rw [if_neg c]
      have : (decide (a = s) && decide (b = t)) = false := by
        rw [Bool.eq_false_iff]; simp only [ne_eq, Bool.and_eq_true, decide_eq_true_eq]; exact c
      rw [this]; simp
theorem withPut_is {f : GFrame} (hf : FOk f) {d : Arr 96 Int} (hd : VD f d) {c : GChange} (hc : OkC f c) :
    (pin d (cS c) (cT c) = c.fPut → impl_withPut f d (w64 c.fStep) (w64 c.fTrack) c.fPut = some (Arr.rep 96 0, 4)) ∧
    (pin d (cS c) (cT c) = !c.fPut → ∃ d', impl_withPut f d (w64 c.fStep) (w64 c.fTrack) c.fPut = some (d', 0) ∧ VD f d' ∧ ∀ a b, pin d' a b = if a = cS c ∧ b = cT c then c.fPut else pin d a b) := by
  have hh1 := hf.h1; have hs1 := hf.s1; have hs0 := hf.s0
  have hi : FIn f := ⟨by omega, fun y hy => by have := hf.hp y hy; omega⟩
  have h1 := hc.s; have h2 := hc.t
  have e1 : w64 c.fStep = (cS c : Int) := by rw [w64_in (by omega) (by omega)]; unfold cS; omega
  have e2 : w64 c.fTrack = (cT c : Int) := by rw [w64_in (by omega) (by omega)]; unfold cT; omega
  have l1 : cS c < 96 := by unfold cS; omega
  have l2 : cT c < 32 := by unfold cT; omega
  have hpl : plB f (cS c : Int) (cT c : Int) = true := (plB_ok hf _ _).2 (by unfold cS cT; omega)
  have hcode := placeCode_is f hi (show f.fHammers.length ≤ 9223372036854775807 by omega) d hd.din (cS c : Int) (cT c : Int)
  rw [if_pos ⟨frameB_of hf, drumB_of hd.in_⟩, if_pos hpl] at hcode
  constructor
  · intro h
    simp only [impl_withPut, e1, e2, hcode, has_is hd.din l1 (show cT c ≤ 32 by omega), Option.bind_some, h, impl_withPut.k_3]
    simp
  · intro h
    obtain ⟨d', h3, h4, h5⟩ := put_bit hd.din l1 l2 c.fPut
    refine ⟨d', ?_, ⟨h4, fun a b hab => ?_⟩, h5⟩
    · simp only [impl_withPut, e1, e2, hcode, has_is hd.din l1 (show cT c ≤ 32 by omega), Option.bind_some, h, impl_withPut.k_3, h3]
      cases c.fPut <;> simp
    · rw [h5] at hab
      split at hab
      · rename_i e
        rw [e.1, e.2]
        unfold cS cT
        omega
      · exact hd.in_ a b hab
/-- what the changes of a list, one after the other, make of a drum -/
structure Made (seg : List GChange) (d d' : Arr 96 Int) : Prop where
  at_ : ∀ c ∈ seg, pin d' (cS c) (cT c) = c.fPut
  else_ : ∀ a b, (∀ c ∈ seg, ¬ (a = cS c ∧ b = cT c)) → pin d' a b = pin d a b
theorem make_run {f : GFrame} (hf : FOk f) {l : List GChange} (hl : l.length ≤ 100000) : ∀ (m k : Nat) (d : Arr 96 Int), k + m ≤ l.length → VD f d → (∀ c ∈ (l.drop k).take m, OkC f c ∧ pin d (cS c) (cT c) = !c.fPut) →
    ((l.drop k).take m).Pairwise (fun x y => ¬ (cS x = cS y ∧ cT x = cT y)) →
    ∃ d', loop (impl_makeChanges.l_5 f l) (d, (k : Int)) = loop (impl_makeChanges.l_5 f l) (d', ((k + m : Nat) : Int)) ∧ VD f d' ∧ Made ((l.drop k).take m) d d'
  | 0, k, d, _, hd, _, _ => ⟨d, rfl, hd, by simp, fun _ _ _ => rfl⟩
  | m + 1, k, d, hk, hd, hv, hp => by
    have hkl : k < l.length := by omega
    have hsp : (l.drop k).take (m + 1) = l[k] :: (l.drop (k + 1)).take m := by rw [List.drop_eq_getElem_cons hkl, List.take_succ_cons]
    rw [hsp] at hv hp ⊢
    rw [List.pairwise_cons] at hp
    obtain ⟨hc, hpin⟩ := hv l[k] (by simp)
    obtain ⟨d1, h1, h2, h3⟩ := (withPut_is hf hd hc).2 hpin
    obtain ⟨d', h4, h5, h6⟩ := make_run hf hl m (k + 1) d1 (by omega) h2 (fun c hcm => by
      obtain ⟨a1, a2⟩ := hv c (by simp [hcm])
      refine ⟨a1, ?_⟩
      rw [h3, if_neg (fun e => hp.1 c hcm ⟨e.1.symm, e.2.symm⟩)]
      exact a2) hp.2
    refine ⟨d', ?_, h5, ?_, ?_⟩
    · rw [loop_eq]
      simp only [impl_makeChanges.l_5, ix_lt hkl, h1, Option.bind_some]
      rw [if_pos (by simpa using hkl), if_neg (by simp), w64_in (n := (k : Int) + 1) (by omega) (by omega)]
      simp only
      rw [show (k : Int) + 1 = ((k + 1 : Nat) : Int) by omega, h4, show k + 1 + m = k + (m + 1) by omega]
    · intro c hcm
      rcases List.mem_cons.1 hcm with rfl | hcm
      · rw [h6.else_ _ _ (fun c' hc' e => hp.1 c' hc' e), h3, if_pos ⟨rfl, rfl⟩]
      · exact h6.at_ c hcm
    · intro a b hab
      rw [h6.else_ a b (fun c hc' => hab c (by simp [hc'])), h3, if_neg (hab l[k] (by simp))]
theorem make_all {f : GFrame} (hf : FOk f) {l : List GChange} (hl : l.length ≤ 100000) {d : Arr 96 Int} (hd : VD f d) (hv : ∀ c ∈ l, OkC f c ∧ pin d (cS c) (cT c) = !c.fPut) (hp : l.Pairwise (fun x y => ¬ (cS x = cS y ∧ cT x = cT y))) :
    ∃ d', impl_makeChanges f d l = some (d', 0, 0) ∧ VD f d' ∧ Made l d d' := by
  have e : (l.drop 0).take l.length = l := by simp
  obtain ⟨d', h1, h2, h3⟩ := make_run hf hl l.length 0 d (by omega) hd (by rw [e]; exact hv) (by rw [e]; exact hp)
  rw [e] at h3
  refine ⟨d', ?_, h2, h3⟩
  have hend : loop (impl_makeChanges.l_5 f l) (d', ((0 + l.length : Nat) : Int)) = some (.inr d') := by
    rw [loop_eq]
    simp [impl_makeChanges.l_5]
  have h0 : loop (impl_makeChanges.l_5 f l) (d, 0) = some (.inr d') := by rw [← hend]; exact h1
  simp [impl_makeChanges, h0, impl_makeChanges.k_2]
theorem changesCode_is' {f : GFrame} (hf : FOk f) {d : Arr 96 Int} (hd : VD f d) {l : List GChange} (hl : l.length ≤ 2400) : impl_changesCode f d l = some 0 := by
  have hh1 := hf.h1; have hs1 := hf.s1; have hs0 := hf.s0
  have hi : FIn f := ⟨by omega, fun y hy => by have := hf.hp y hy; omega⟩
  have h1 := drumCode1 f hi (show f.fHammers.length ≤ 9223372036854775807 by omega) d hd.din
  rw [if_pos ⟨frameB_of hf, drumB_of hd.in_⟩] at h1
  simp only [impl_changesCode, h1, unless_is, firstOf2, Option.bind_some]
  rw [decide_eq_true (by omega)]
  simp
theorem okC_place {f : GFrame} {x y : GChange} (hx : OkC f x) (hy : OkC f y) (h : ¬ sameP x y) : ¬ (cS x = cS y ∧ cT x = cT y) := by
  have h1 := hx.s; have h2 := hx.t; have h3 := hy.s; have h4 := hy.t
  intro e
  apply h
  unfold cS cT at e
  exact ⟨by omega, by omega⟩
theorem apart_places {f : GFrame} {l : List GChange} (h : l.Pairwise fun x y => ¬ sameP x y) (hv : ∀ c ∈ l, OkC f c) : l.Pairwise (fun x y => ¬ (cS x = cS y ∧ cT x = cT y)) :=
  List.Pairwise.imp_of_mem (fun hx hy h => okC_place (hv _ hx) (hv _ hy) h) h
/-! ### from a to b, and back -/
theorem due_ok {f : GFrame} {a b : Arr 96 Int} (ha : VD f a) (hb : VD f b) {c : GChange} (h : c ∈ dueL a b) : OkC f c ∧ pin a (cS c) (cT c) = (!c.fPut) ∧ pin b (cS c) (cT c) = c.fPut := by
  unfold dueL at h
  rcases List.mem_append.1 h with h | h
  · obtain ⟨s, t, _, _, h1, h2, rfl⟩ := ch_mem h
    obtain ⟨h3, h4⟩ := ha.in_ s t h1
    exact ⟨⟨by simp only; omega, by simp only; omega⟩, h1, h2⟩
  · obtain ⟨s, t, _, _, h1, h2, rfl⟩ := ch_mem h
    obtain ⟨h3, h4⟩ := hb.in_ s t h1
    exact ⟨⟨by simp only; omega, by simp only; omega⟩, h2, h1⟩
theorem due_covers {f : GFrame} (hf : FOk f) {a b : Arr 96 Int} (ha : VD f a) (hb : VD f b) {s t : Nat} (h : ∀ c ∈ dueL a b, ¬ (s = cS c ∧ t = cT c)) : pin a s t = pin b s t := by
  have hh1 := hf.h1; have hs1 := hf.s1
  cases h1 : pin a s t with
  | true =>
    cases h2 : pin b s t with
    | true => rfl
    | false =>
      have := ha.in_ s t h1
      exact absurd ⟨rfl, rfl⟩ (h ⟨(s : Int), (t : Int), false⟩ (List.mem_append_left _ (ch_mem_of (by omega) (by omega) h1 h2)))
  | false =>
    cases h2 : pin b s t with
    | false => rfl
    | true =>
      have := hb.in_ s t h2
      exact absurd ⟨rfl, rfl⟩ (h ⟨(s : Int), (t : Int), true⟩ (List.mem_append_right _ (ch_mem_of (by omega) (by omega) h2 h1)))
theorem vd_eq {f : GFrame} {a b : Arr 96 Int} (ha : VD f a) (hb : VD f b) (h : ∀ s t, pin a s t = pin b s t) : a = b := drum_eq ha.din hb.din fun s t _ _ => h s t
theorem made_due {f : GFrame} (hf : FOk f) {a b : Arr 96 Int} (ha : VD f a) (hb : VD f b) (hl : (dueL a b).length ≤ 2400) : impl_MakeChanges f a (dueL a b) = some (b, 0) := by
  obtain ⟨d', h1, h2, h3⟩ := make_all hf (l := dueL a b) (by omega) ha (fun c hc => ⟨(due_ok ha hb hc).1, (due_ok ha hb hc).2.1⟩) (apart_places (due_apart a b) fun c hc => (due_ok ha hb hc).1)
  have e : d' = b := vd_eq h2 hb fun s t => by
    by_cases c : ∃ c ∈ dueL a b, s = cS c ∧ t = cT c
    · obtain ⟨c, hc, rfl, rfl⟩ := c
      rw [h3.at_ c hc, (due_ok ha hb hc).2.2]
    · have hn : ∀ c ∈ dueL a b, ¬ (s = cS c ∧ t = cT c) := fun x hx e => c ⟨x, hx, e⟩
      rw [h3.else_ s t hn]
      exact due_covers hf ha hb hn
  simp [impl_MakeChanges, changesCode_is' hf ha hl, h1, e]
def flipC (c : GChange) : GChange := ⟨c.fStep, c.fTrack, !c.fPut⟩
theorem made_back {f : GFrame} (hf : FOk f) {a b : Arr 96 Int} (ha : VD f a) (hb : VD f b) (hl : (dueL a b).length ≤ 2400) : impl_MakeChanges f b ((dueL a b).reverse.map flipC) = some (a, 0) := by
  have hm : ∀ c ∈ (dueL a b).reverse.map flipC, ∃ x ∈ dueL a b, c = flipC x := fun c hc => by
    obtain ⟨x, hx, rfl⟩ := List.mem_map.1 hc
    exact ⟨x, List.mem_reverse.1 hx, rfl⟩
  have hok : ∀ c ∈ (dueL a b).reverse.map flipC, OkC f c := fun c hc => by
    obtain ⟨x, hx, rfl⟩ := hm c hc
    have := (due_ok ha hb hx).1
    exact ⟨this.s, this.t⟩
  have hap : ((dueL a b).reverse.map flipC).Pairwise fun x y => ¬ sameP x y := by
    rw [List.pairwise_map, List.pairwise_reverse]
    exact (due_apart a b).imp fun h e => h ⟨e.1.symm, e.2.symm⟩
  obtain ⟨d', h1, h2, h3⟩ := make_all hf (l := (dueL a b).reverse.map flipC) (by simp; omega) hb (fun c hc => ⟨hok c hc, by
    obtain ⟨x, hx, rfl⟩ := hm c hc
    have := (due_ok ha hb hx).2.2
    show pin b (cS x) (cT x) = !(!x.fPut)
    rw [this]; simp⟩) (apart_places hap hok)
  have e : d' = a := vd_eq h2 ha fun s t => by
    by_cases c : ∃ c ∈ dueL a b, s = cS c ∧ t = cT c
    · obtain ⟨c, hc, rfl, rfl⟩ := c
      have := h3.at_ (flipC c) (List.mem_map.2 ⟨c, List.mem_reverse.2 hc, rfl⟩)
      have e2 : pin d' (cS c) (cT c) = !c.fPut := this
      rw [e2, (due_ok ha hb hc).2.1]
    · have hn : ∀ c ∈ dueL a b, ¬ (s = cS c ∧ t = cT c) := fun x hx e => c ⟨x, hx, e⟩
      have hn2 : ∀ c ∈ (dueL a b).reverse.map flipC, ¬ (s = cS c ∧ t = cT c) := fun x hx e => by
        obtain ⟨y, hy, rfl⟩ := hm x hx
        exact hn y hy e
      rw [h3.else_ s t hn2]
      exact (due_covers hf ha hb hn).symm
  simp only [impl_MakeChanges, changesCode_is' hf hb (show ((dueL a b).reverse.map flipC).length ≤ 2400 by simpa using hl), Option.bind_some, h1, e]
  rw [if_neg (by decide)]
/-! ### one change twice -/
theorem twice_bad {f : GFrame} (hf : FOk f) {a b : Arr 96 Int} (ha : VD f a) (hb : VD f b) {k : Nat} (hk : k < (dueL a b).length) (hl : (dueL a b).length + 1 ≤ 2400) :
    impl_makeChanges f a ((dueL a b).take (k + 1) ++ (dueL a b).drop k) = some (Arr.rep 96 0, ((k + 1 : Nat) : Int), 4) := by
  have hlen : ((dueL a b).take (k + 1)).length = k + 1 := by rw [List.length_take]; omega
  have hL : ((dueL a b).take (k + 1) ++ (dueL a b).drop k).length = (dueL a b).length + 1 := by rw [List.length_append, hlen, List.length_drop]; omega
  have e : (((dueL a b).take (k + 1) ++ (dueL a b).drop k).drop 0).take (k + 1) = (dueL a b).take (k + 1) := by
    rw [List.drop_zero, List.take_append_of_le_length (by omega), List.take_of_length_le (by omega)]
  obtain ⟨d', h1, h2, h3⟩ := make_run hf (l := (dueL a b).take (k + 1) ++ (dueL a b).drop k) (by omega) (k + 1) 0 a (by omega) ha (by
    rw [e]
    intro c hc
    have := List.mem_of_mem_take hc
    exact ⟨(due_ok ha hb this).1, (due_ok ha hb this).2.1⟩) (by
    rw [e]
    exact (apart_places (due_apart a b) fun c hc => (due_ok ha hb hc).1).sublist (List.take_sublist _ _))
  rw [e] at h3
  have hmem : (dueL a b)[k] ∈ (dueL a b).take (k + 1) := by
    rw [List.take_succ_eq_append_getElem hk]; exact List.mem_append_right _ (List.mem_singleton.2 rfl)
  have hat := h3.at_ _ hmem
  have hok := (due_ok ha hb (List.getElem_mem hk)).1
  have hkL : k + 1 < ((dueL a b).take (k + 1) ++ (dueL a b).drop k).length := by omega
  have hg : ((dueL a b).take (k + 1) ++ (dueL a b).drop k)[k + 1] = (dueL a b)[k] := by
    rw [List.getElem_append_right (by omega)]
    simp [hlen]
  have hend : loop (impl_makeChanges.l_5 f ((dueL a b).take (k + 1) ++ (dueL a b).drop k)) (d', ((0 + (k + 1) : Nat) : Int)) = some (.inl (Arr.rep 96 0, ((k + 1 : Nat) : Int), 4)) := by
    rw [loop_eq, show 0 + (k + 1) = k + 1 by omega]
    simp only [impl_makeChanges.l_5, ix_lt hkL, hg, (withPut_is hf h2 hok).1 hat, Option.bind_some]
    rw [if_pos (by rw [decide_eq_true_eq]; omega), if_pos (by simp)]
  have h0 : loop (impl_makeChanges.l_5 f ((dueL a b).take (k + 1) ++ (dueL a b).drop k)) (a, 0) = some (.inl (Arr.rep 96 0, ((k + 1 : Nat) : Int), 4)) := by rw [← hend]; exact h1
  simp [impl_makeChanges, h0]

end Go.Proofs.YtgmmeokkgcbkdaaGreatDoor
