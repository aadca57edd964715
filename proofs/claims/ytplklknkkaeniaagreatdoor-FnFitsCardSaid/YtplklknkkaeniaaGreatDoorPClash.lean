/- A drum made of choices that fit has no clash, its pins lie in the frame, and it has as many pins as notes that are kept. -/
import Derived.Test.YtplklknkkaeniaaGreatDoorM2
import Derived.Test.YtplklknkkaeniaaGreatDoorPFrame
import Derived.Test.YtplklknkkaeniaaGreatDoorPDrum
import Derived.Test.YtplklknkkaeniaaGreatDoorPPut
import Derived.Test.YtplklknkkaeniaaGreatDoorPTune
import Derived.Test.YtplklknkkaeniaaGreatDoorPChoices
import Derived.Test.YtplklknkkaeniaaGreatDoorPFit
import Derived.Test.YtplklknkkaeniaaGreatDoorPBits
import Derived.Test.YtplklknkkaeniaaGreatDoorPure
namespace Go.Proofs.YtplklknkkaeniaaGreatDoor
open Eng
set_option linter.unusedVariables false
set_option linter.unusedSimpArgs false

structure DG (f : GFrame) (d : Arr 96 Int) : Prop where
  din : DIn d
  in_ : ∀ s t, pin d s t = true → (s : Int) < f.fSteps ∧ t < f.fHammers.length
  clear : ∀ s t, pin d s t = true → clearB (fwd f d s t) (readyN f t) = true
theorem dg_rep (f : GFrame) : DG f (Arr.rep 96 0) := ⟨DIn_rep, fun s t h => (by rw [pin_rep] at h; cases h), fun s t h => (by rw [pin_rep] at h; cases h)⟩
theorem pin_setP {d : Arr 96 Int} (hd : DIn d) {s t : Nat} (hs : s < 96) (ht : t < 32) (a b : Nat) : pin (setP d s t) a b = (pin d a b || (decide (a = s) && decide (b = t))) := (or_pin hd hs ht).2 a b
theorem mod_two {a i n : Nat} (ha : a < n) (hi : i < n) : (a + i) % n = if a + i < n then a + i else a + i - n := by
  split
  · rename_i h; exact Nat.mod_eq_of_lt h
  · rename_i h; rw [Nat.mod_eq_sub_mod (by omega), Nat.mod_eq_of_lt (by omega)]
theorem dg_set {f : GFrame} (hf : FOk f) {d : Arr 96 Int} (h : DG f d) {s t : Nat} (hs : (s : Int) < f.fSteps) (ht : t < f.fHammers.length) (hfree : freeB f d s t = true) : DG f (setP d s t) := by
  have hs0 := hf.s0; have hs1 := hf.s1; have hh1 := hf.h1
  have hp := pin_setP h.din (show s < 96 by omega) (show t < 32 by omega)
  unfold freeB at hfree
  simp only [Bool.and_eq_true, Bool.not_eq_true'] at hfree
  obtain ⟨f1, f2, f3⟩ := hfree
  rw [clearB_iff] at f2 f3
  obtain ⟨_, _, _, _, hr⟩ := ham_at hf ht
  refine ⟨DIn_setP h.din (by omega) (by omega), fun a b hab => ?_, fun a b hab => ?_⟩
  · rw [hp] at hab
    simp only [Bool.or_eq_true, Bool.and_eq_true, decide_eq_true_eq] at hab
    rcases hab with hab | ⟨rfl, rfl⟩
    · exact h.in_ a b hab
    · exact ⟨hs, ht⟩
  · rw [clearB_iff]
    intro i h1 h2
    unfold fwd
    rw [hp]
    by_cases hb : b = t
    · subst hb
      by_cases ha : a = s
      · subst ha
        have := f2 i h1 h2
        unfold fwd at this
        rw [this, mod_two (show a < f.fSteps.toNat by omega) (show i < f.fSteps.toNat by omega)]
        have h3 : ¬ (if a + i < f.fSteps.toNat then a + i else a + i - f.fSteps.toNat) = a := by split <;> omega
        rw [decide_eq_false h3]
        rfl
      · rw [hp] at hab
        have hab : pin d a b = true := by simpa [ha] using hab
        have ha2 := h.in_ a b hab
        have := h.clear a b hab
        rw [clearB_iff] at this
        have := this i h1 h2
        unfold fwd at this
        rw [this]
        have hne : ¬ (a + i) % f.fSteps.toNat = s := by
          intro e
          have hbw := f3 i h1 h2
          unfold bwd at hbw
          have e2 : (s + f.fSteps.toNat - i) % f.fSteps.toNat = a := by
            rw [mod_two (show a < f.fSteps.toNat by omega) (show i < f.fSteps.toNat by omega)] at e
            split at e
            · rw [show s + f.fSteps.toNat - i = a + f.fSteps.toNat by omega, Nat.add_mod_right, Nat.mod_eq_of_lt (by omega)]
            · rw [show s + f.fSteps.toNat - i = a by omega, Nat.mod_eq_of_lt (by omega)]
          rw [e2, hab] at hbw
          cases hbw
        simp [hne]
    · rw [hp] at hab
      have hab : pin d a b = true := by simpa [hb] using hab
      have := h.clear a b hab
      rw [clearB_iff] at this
      have := this i h1 h2
      unfold fwd at this
      rw [this]
      simp [hb]
theorem cnt_setP {d : Arr 96 Int} (hd : DIn d) {s t : Nat} (hs : s < 96) (ht : t < 32) (h0 : pin d s t = false) : cntD (setP d s t) = cntD d + 1 := by
  have hp := pin_setP hd hs ht
  refine sR_one (s := s) ?_ ?_ 96 hs
  · rw [← cR_put (p := fun b => pin d s b) h0 32 ht]
    exact cR_ext 32 fun i _ => by rw [hp]; simp
  · intro a ha
    exact cR_ext 32 fun i _ => by rw [hp]; simp [ha]
theorem cnt_rep : cntD (Arr.rep 96 0) = 0 := by
  have h : ∀ n, sR (fun s => cR (fun t => pin (Arr.rep 96 0) s t) 32) n = 0 := by
    intro n
    induction n with
    | zero => rfl
    | succ n ih => unfold sR; rw [ih, cR_none 32 (fun i _ => pin_rep n i)]
  exact h 96
theorem fit_dg {f : GFrame} (hf : FOk f) {t : List GNote} (ht : TOk t) {list : List GChoice} (hl : list.length = t.length) : ∀ (m k : Nat) (a d : Arr 96 Int), k + m = t.length → DG f a → tryN (fitP f t list) k a m = .inl d → DG f d ∧ cntD d = cntD a + (list.drop k).countP (fun x => !x.fAway) := by
  intro m
  induction m with
  | zero =>
    intro k a d hk ha h
    simp only [tryN] at h
    cases h
    refine ⟨ha, ?_⟩
    rw [List.drop_of_length_le (by omega)]
    simp
  | succ m ih =>
    intro k a d hk ha h
    have hkt : k < t.length := by omega
    have hkl : k < list.length := by omega
    have hn := ht.nt _ (List.getElem_mem hkt)
    simp only [tryN] at h
    cases hp : fitP f t list k a with
    | none => rw [hp] at h; cases h
    | some a' =>
      rw [hp] at h
      simp only at h
      unfold fitP at hp
      rw [List.getElem?_eq_getElem hkt, List.getElem?_eq_getElem hkl] at hp
      simp only at hp
      split at hp
      · rename_i hm
        have key : DG f a' ∧ cntD a' = cntD a + (if list[k].fAway = true then 0 else 1) := by
          unfold putV at hp
          cases hw : list[k].fAway with
          | true =>
            rw [hw] at hp
            simp only [if_true, Option.some.injEq] at hp
            subst hp
            exact ⟨ha, by simp⟩
          | false =>
            have pl := place_of hf (show 0 ≤ t[k].fAt ∧ t[k].fAt ≤ 199 by omega) (show 0 ≤ t[k].fPitch ∧ t[k].fPitch ≤ 47 by omega) hm hw
            have hs1 := hf.s1; have hh1 := hf.h1; have h1 := pl.hs; have h2 := pl.ht
            rw [hw] at hp
            simp only [Bool.false_eq_true, if_false] at hp
            split at hp
            · rename_i hfree
              simp only [Option.some.injEq] at hp
              subst hp
              refine ⟨dg_set hf ha pl.hs pl.ht hfree, ?_⟩
              rw [cnt_setP ha.din (by omega) (by omega) (by
                unfold freeB at hfree
                simp only [Bool.and_eq_true, Bool.not_eq_true'] at hfree
                exact hfree.1)]
              simp
            · cases hp
        obtain ⟨g1, g2⟩ := ih (k + 1) a' d (by omega) key.1 h
        refine ⟨g1, ?_⟩
        rw [g2, key.2, List.drop_eq_getElem_cons hkl, List.countP_cons]
        cases list[k].fAway <;> simp <;> omega
      · cases hp
theorem fitV_dg {f : GFrame} (hf : FOk f) {t : List GNote} (ht : TOk t) {list : List GChoice} (hl : list.length = t.length) {d : Arr 96 Int} (h : fitV f t list = .inl d) : DG f d ∧ cntD d = list.countP (fun x => !x.fAway) := by
  obtain ⟨h1, h2⟩ := fit_dg hf ht hl t.length 0 _ d (by omega) (dg_rep f) h
  exact ⟨h1, by rw [h2, cnt_rep]; simp⟩
/-! ### no clash -/
theorem clashes_no {f : GFrame} (hf : FOk f) {d : Arr 96 Int} (h : DG f d) {s t : Nat} (hp : pin d s t = true) : impl_Frame_clashes f d (s : Int) (t : Int) = some false := by
  have hs0 := hf.s0; have hs1 := hf.s1; have hh1 := hf.h1
  obtain ⟨hs, ht⟩ := h.in_ s t hp
  obtain ⟨h1, h2, h3, h4, h5⟩ := ham_at hf ht
  have e : w64 f.fSteps = (f.fSteps.toNat : Int) := by rw [w64_in (by omega) (by omega)]; omega
  obtain ⟨b1, hb1, c1⟩ := behind_is hf h.din (s := s) (t := t) 1 (fun i => (s + i) % f.fSteps.toNat) (by omega) (fun i hi0 hi => by
    have := Nat.mod_lt (s + i) (show 0 < f.fSteps.toNat by omega)
    rw [e, w64_in (n := 1 * (i : Int)) (by omega) (by omega), w64_in (n := (s : Int) + 1 * (i : Int)) (by omega) (by omega), w64_in (n := (s : Int) + 1 * (i : Int) + (f.fSteps.toNat : Int)) (by omega) (by omega), show (s : Int) + 1 * (i : Int) + (f.fSteps.toNat : Int) = ((s + i + f.fSteps.toNat : Nat) : Int) by omega, tmod_nat, Nat.add_mod_right]
    exact ⟨rfl, by omega⟩) h5
  have hc := h.clear s t hp
  have eF : clearB (fun i => pin d ((s + i) % f.fSteps.toNat) t) (readyN f t) = clearB (fwd f d s t) (readyN f t) := rfl
  rw [eF, hc, decide_eq_true_eq] at c1
  simp only [impl_Frame_clashes, h1, Option.bind_some, hb1, h2]
  rw [decide_eq_false (by omega)]
theorem noClash_in {f : GFrame} (hf : FOk f) {d : Arr 96 Int} (h : DG f d) (s : Nat) (hs : s < 96) : loop (impl_Frame_pins_at_impl_Frame_allClashes_1.l_12 d f d (s : Int) (f.fHammers.length : Int)) (([] : List (Arr 2 Int)), 0) = some [] := by
  have hh1 := hf.h1
  exact loop_seq (f := impl_Frame_pins_at_impl_Frame_allClashes_1.l_12 d f d (s : Int) (f.fHammers.length : Int)) f.fHammers.length (fun k => (([] : List (Arr 2 Int)), (k : Int))) [] (fun k hk => by
    simp only [impl_Frame_pins_at_impl_Frame_allClashes_1.l_12, has_is h.din hs (t := k) (by omega), Option.bind_some]
    rw [if_pos (by simpa using hk), w64_in (n := (k : Int) + 1) (by omega) (by omega)]
    cases hp : pin d s k with
    | true =>
      simp only [if_true, impl_Frame_allClashes_1, clashes_no hf h hp, Option.bind_some, Bool.false_eq_true, if_false]
      simp
    | false => simp) (by simp [impl_Frame_pins_at_impl_Frame_allClashes_1.l_12])
theorem allClashes_no {f : GFrame} (hf : FOk f) {d : Arr 96 Int} (h : DG f d) : impl_Frame_allClashes f d = some [] := by
  have hs0 := hf.s0; have hs1 := hf.s1
  have e : w64 f.fSteps = (f.fSteps.toNat : Int) := by rw [w64_in (by omega) (by omega)]; omega
  have := loop_seq (f := impl_Frame_pins_at_impl_Frame_allClashes_1.l_5 f d f d) f.fSteps.toNat (fun k => (([] : List (Arr 2 Int)), (k : Int))) [] (fun k hk => by
    simp only [impl_Frame_pins_at_impl_Frame_allClashes_1.l_5, size_is, Option.bind_some, noClash_in hf h k (by omega), impl_Frame_pins_at_impl_Frame_allClashes_1.k_9]
    rw [if_pos (by rw [e, decide_eq_true_eq]; omega), w64_in (n := (k : Int) + 1) (by omega) (by omega)]
    simp) (by simp [impl_Frame_pins_at_impl_Frame_allClashes_1.l_5, e])
  have h0 : loop (impl_Frame_pins_at_impl_Frame_allClashes_1.l_5 f d f d) (([] : List (Arr 2 Int)), 0) = some [] := this
  simp only [impl_Frame_allClashes, impl_Frame_pins_at_impl_Frame_allClashes_1, h0]
  rfl

end Go.Proofs.YtplklknkkaeniaaGreatDoor
