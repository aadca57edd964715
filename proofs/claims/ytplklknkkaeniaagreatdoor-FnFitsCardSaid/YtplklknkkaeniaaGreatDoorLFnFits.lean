/- The law of arrangements that fit: its plain function answers true at every input. -/
import Derived.Test.YtplklknkkaeniaaGreatDoorM0
import Derived.Test.YtplklknkkaeniaaGreatDoorM1
import Derived.Test.YtplklknkkaeniaaGreatDoorM2
import Derived.Test.YtplklknkkaeniaaGreatDoorM3
import Derived.Test.YtplklknkkaeniaaGreatDoorPFrame
import Derived.Test.YtplklknkkaeniaaGreatDoorPDrum
import Derived.Test.YtplklknkkaeniaaGreatDoorPCodes
import Derived.Test.YtplklknkkaeniaaGreatDoorPPut
import Derived.Test.YtplklknkkaeniaaGreatDoorPTune
import Derived.Test.YtplklknkkaeniaaGreatDoorPMade
import Derived.Test.YtplklknkkaeniaaGreatDoorPChoices
import Derived.Test.YtplklknkkaeniaaGreatDoorPFit
import Derived.Test.YtplklknkkaeniaaGreatDoorPHeard
import Derived.Test.YtplklknkkaeniaaGreatDoorPDraw
import Derived.Test.YtplklknkkaeniaaGreatDoorPTxt
import Derived.Test.YtplklknkkaeniaaGreatDoorPJoin
import Derived.Test.YtplklknkkaeniaaGreatDoorPChText
import Derived.Test.YtplklknkkaeniaaGreatDoorPNum
import Derived.Test.YtplklknkkaeniaaGreatDoorPSpl
import Derived.Test.YtplklknkkaeniaaGreatDoorPSigned
import Derived.Test.YtplklknkkaeniaaGreatDoorPMapO
import Derived.Test.YtplklknkkaeniaaGreatDoorPReadCh
import Derived.Test.YtplklknkkaeniaaGreatDoorPReadBack
import Derived.Test.YtplklknkkaeniaaGreatDoorPDrawShort
import Derived.Test.YtplklknkkaeniaaGreatDoorPBits
import Derived.Test.YtplklknkkaeniaaGreatDoorPClash
import Derived.Test.YtplklknkkaeniaaGreatDoorPure
import Derived.Test.YtplklknkkaeniaaGreatDoorSFnFits
namespace Go.Proofs.YtplklknkkaeniaaGreatDoor
open Eng
set_option linter.unusedVariables false
set_option linter.unusedSimpArgs false

theorem sameTune_refl (t : List GNote) (h : t.length ≤ 1000000) : spec_SameTune t t = some true := by
  have h0 : loop (spec_l01Same.l_3 t t) 0 = some (.inr ()) := loop_seq (f := spec_l01Same.l_3 t t) t.length (fun k => (k : Int)) (.inr ()) (fun k hk => by
    simp only [spec_l01Same.l_3, ix_lt hk, Option.bind_some]
    rw [if_pos (by simpa using hk), if_neg (by simp), w64_in (n := (k : Int) + 1) (by omega) (by omega)]
    simp) (by simp [spec_l01Same.l_3])
  simp [spec_SameTune, spec_l01Same, h0, spec_l01Same.k_1]
theorem sameChoices_refl (t : List GChoice) (h : t.length ≤ 1000000) : spec_A2SameChoices t t = some true := by
  have h0 : loop (spec_A2SameChoices.l_3 t t) 0 = some (.inr ()) := loop_seq (f := spec_A2SameChoices.l_3 t t) t.length (fun k => (k : Int)) (.inr ()) (fun k hk => by
    simp only [spec_A2SameChoices.l_3, ix_lt hk, Option.bind_some]
    rw [if_pos (by simpa using hk), if_neg (by simp), w64_in (n := (k : Int) + 1) (by omega) (by omega)]
    simp) (by simp [spec_A2SameChoices.l_3])
  simp [spec_A2SameChoices, h0, spec_A2SameChoices.k_1]
theorem noteB_of {n : GNote} (ha : 0 ≤ n.fAt ∧ n.fAt ≤ 199) (hp : 0 ≤ n.fPitch ∧ n.fPitch ≤ 47) : noteB n = true := by
  unfold noteB
  simp only [Bool.and_eq_true, decide_eq_true_eq]
  omega
theorem choicesFor_val {f : GFrame} (hf : FOk f) {n : GNote} (ha : 0 ≤ n.fAt ∧ n.fAt ≤ 199) (hp : 0 ≤ n.fPitch ∧ n.fPitch ≤ 47) : impl_ChoicesFor f n = some (allFor f n, 0) ∧ spec_ChoicesFor f n = some (allFor f n, 0) := by
  have hh1 := hf.h1
  have hn : NIn n := ⟨by omega, by omega⟩
  have hnb := noteB_of ha hp
  simp only [impl_ChoicesFor, spec_ChoicesFor, validFrame_is f (by omega), l02Frame_is f (by omega), frameB_of hf, isNote_is hn, l01Note_is hn, hnb, Option.bind_some, Bool.not_true, Bool.false_eq_true, if_false, impl_ChoicesFor.k_2, spec_ChoicesFor.k_2, choices_is hf hp.1 hp.2, l07For_is hf]
  exact ⟨trivial, trivial⟩
theorem choice_in {f : GFrame} (hf : FOk f) {n : GNote} (ha : 0 ≤ n.fAt ∧ n.fAt ≤ 199) (hp : 0 ≤ n.fPitch ∧ n.fPitch ≤ 47) {x : GChoice} (hx : x ∈ allFor f n) : choiceB x = true ∧ In8 x ∧ (x.fAway = true → x = ⟨true, 0, 0, 0⟩) := by
  have hh1 := hf.h1
  rcases (mem_allFor hf ha hp x).1 hx with rfl | ⟨h1, h2, h3, h4, k, h5, h6, h7⟩
  · exact ⟨rfl, by unfold In8; simp only; omega, fun _ => rfl⟩
  · refine ⟨?_, by unfold In8; omega, fun h => by rw [h1] at h; cases h⟩
    unfold choiceB
    rw [h1]
    simp only [Bool.false_eq_true, if_false, Bool.and_eq_true, decide_eq_true_eq]
    rw [w64_in (n := x.fLate) (by omega) (by omega), w64_in (n := x.fOctave) (by omega) (by omega), w64_in (n := x.fTrack) (by omega) (by omega)]
    omega
theorem note_ok {f : GFrame} (hf : FOk f) {n : GNote} (ha : 0 ≤ n.fAt ∧ n.fAt ≤ 199) (hp : 0 ≤ n.fPitch ∧ n.fPitch ≤ 47) {x : GChoice} (hx : x ∈ allFor f n) :
    (x.fAway = true ∧ impl_NoteOf n x = some (⟨0, 0⟩, 4)) ∨ (x.fAway = false ∧ ∃ (p : GNote) (h : GHammer), impl_NoteOf n x = some (p, 0) ∧ ix f.fHammers x.fTrack = some h ∧ p.fPitch = h.fPitch ∧ 0 ≤ p.fAt ∧ p.fAt < f.fSteps) := by
  have hn : NIn n := ⟨by omega, by omega⟩
  have hnb := noteB_of ha hp
  have hs1 := hf.s1
  obtain ⟨c1, c2, c3⟩ := choice_in hf ha hp hx
  rcases (mem_allFor hf ha hp x).1 hx with rfl | ⟨h1, h2, h3, h4, k, h5, h6, h7⟩
  · left
    refine ⟨rfl, ?_⟩
    simp only [impl_NoteOf, isNote_is hn, hnb, Option.bind_some, Bool.not_true, Bool.false_eq_true, if_false, validChoice_is, c1, impl_NoteOf.k_2]
    simp
  · right
    refine ⟨h1, ?_⟩
    rw [List.getElem?_eq_getElem h5, Option.map_some, Option.some.injEq] at h7
    have hk := hf.hp _ (List.getElem_mem h5)
    simp only [impl_NoteOf, isNote_is hn, hnb, Option.bind_some, Bool.not_true, Bool.false_eq_true, if_false, validChoice_is, c1, impl_NoteOf.k_2, h1]
    rw [w16_in (n := x.fLate) (by omega) (by omega), w16_in (n := n.fAt + x.fLate) (by omega) (by omega), w8_in (n := 12 * x.fOctave) (by omega) (by omega), w8_in (n := n.fPitch + 12 * x.fOctave) (by omega) (by omega)]
    exact ⟨_, f.fHammers[k], rfl, by rw [h6, ix_lt h5], h7.symm, h4.1, h4.2⟩
theorem k36_ok {f : GFrame} (hf : FOk f) {t : List GNote} {i k : Nat} (hi : i < t.length) (ha : 0 ≤ t[i].fAt ∧ t[i].fAt ≤ 199) (hp : 0 ≤ t[i].fPitch ∧ t[i].fPitch ≤ 47) (hk : k < (allFor f t[i]).length) (q : Bool) :
    laws_FnFits.k_36 (f, t) (i : Int) (allFor f t[i], 0) (k : Int) q = some (.inl (q, w64 ((k : Int) + 1))) := by
  have hm : (allFor f t[i])[k] ∈ allFor f t[i] := List.getElem_mem hk
  obtain ⟨c1, c2, c3⟩ := choice_in hf ha hp hm
  simp only [laws_FnFits.k_36, ix_lt hi, ix_lt hk, Option.bind_some]
  rcases note_ok hf ha hp hm with ⟨h1, h2⟩ | ⟨h1, p, h, h2, h3, h4, h5, h6⟩
  · simp only [h2, Option.bind_some, laws_FnFits.k_40, ix_lt hk, validChoice_is, c1, Bool.not_true, Bool.false_eq_true, if_false, h1, laws_FnFits.k_42, laws_FnFits.k_44]
    simp
  · simp only [h2, Option.bind_some, laws_FnFits.k_40, ix_lt hk, validChoice_is, c1, Bool.not_true, Bool.false_eq_true, if_false, h1, laws_FnFits.k_42, h3, laws_FnFits.k_44]
    have e1 : (p.fPitch != h.fPitch) = false := by simp [h4]
    have e2 : decide (p.fAt < 0) = false := decide_eq_false (by omega)
    have e3 : decide (p.fAt ≥ f.fSteps) = false := decide_eq_false (by omega)
    rw [e1, e2, e3]
    simp
theorem model_loop {f : GFrame} (hf : FOk f) {t : List GNote} {list : List GChoice} {i : Nat} (hi : i < t.length) (hil : i < list.length) (ha : 0 ≤ t[i].fAt ∧ t[i].fAt ≤ 199) (hp : 0 ≤ t[i].fPitch ∧ t[i].fPitch ≤ 47) (hm : list[i] ∈ allFor f t[i]) :
    loop (laws_FnFits.l_33 (f, t) list (i : Int) (allFor f t[i], 0)) (false, 0) = some (.inr true) := by
  have hal := allFor_len f t[i] hf.h1
  have hq : ∀ k, (hk : k < (allFor f t[i]).length) → decide (list[i] ∈ (allFor f t[i]).take (k + 1)) = (decide (list[i] ∈ (allFor f t[i]).take k) || eqC (allFor f t[i])[k] list[i]) := by
    intro k hk
    rw [Bool.eq_iff_iff, List.take_succ_eq_append_getElem hk]
    simp only [List.mem_append, List.mem_singleton, decide_eq_true_eq, Bool.or_eq_true, eqC_iff]
    constructor
    · rintro (h | h)
      · exact .inl h
      · exact .inr h.symm
    · rintro (h | h)
      · exact .inl h
      · exact .inr h.symm
  have := loop_seq (f := laws_FnFits.l_33 (f, t) list (i : Int) (allFor f t[i], 0)) (allFor f t[i]).length (fun k => (decide (list[i] ∈ (allFor f t[i]).take k), (k : Int))) (.inr (decide (list[i] ∈ allFor f t[i]))) (fun k hk => by
    simp only [laws_FnFits.l_33]
    rw [if_pos (by simpa using hk), hq k hk]
    have hw : w64 ((k : Int) + 1) = ((k + 1 : Nat) : Int) := by rw [w64_in (by omega) (by omega)]; omega
    cases hd : decide (list[i] ∈ (allFor f t[i]).take k) with
    | true =>
      simp only [if_true, Bool.true_or]
      rw [k36_ok hf hi ha hp hk, hw]
    | false =>
      simp only [Bool.false_eq_true, if_false, ix_lt hk, ix_lt hil, Option.bind_some, Bool.false_or]
      rw [k36_ok hf hi ha hp hk, hw]
      rfl) (by simp [laws_FnFits.l_33])
  rw [decide_eq_true hm] at this
  have e : (decide (list[i] ∈ (allFor f t[i]).take 0), ((0 : Nat) : Int)) = (false, 0) := by simp
  rw [← e]
  exact this
theorem each_loop {f : GFrame} (hf : FOk f) {t : List GNote} (ht : TOk t) {list : List GChoice} (hl : list.length = t.length) (hm : ∀ (k : Nat) (h1 : k < list.length) (h2 : k < t.length), list[k] ∈ allFor f t[k]) :
    loop (laws_FnFits.l_21 (f, t) list) 0 = some (.inr ()) := by
  have htl := ht.len
  exact loop_seq (f := laws_FnFits.l_21 (f, t) list) t.length (fun k => (k : Int)) (.inr ()) (fun k hk => by
    have hn := ht.nt _ (List.getElem_mem hk)
    obtain ⟨c1, c2⟩ := choicesFor_val hf (n := t[k]) (by omega) (by omega)
    have hal := allFor_len f t[k] hf.h1
    obtain ⟨X, hX⟩ : ∃ X, allFor f t[k] = X ++ [⟨true, 0, 0, 0⟩] := ⟨_, rfl⟩
    have hlen : (allFor f t[k]).length = X.length + 1 := by rw [hX]; simp
    have hlast : ix (allFor f t[k]) (w64 (((allFor f t[k]).length : Int) - 1)) = some ⟨true, 0, 0, 0⟩ := by
      rw [w64_in (by omega) (by omega), show ((allFor f t[k]).length : Int) - 1 = (X.length : Int) by omega, ix_lt (show X.length < (allFor f t[k]).length by omega)]
      simp [hX]
    have hz : (((allFor f t[k]).length : Int) == 0) = false := by rw [beq_eq_false_iff_ne]; omega
    simp only [laws_FnFits.l_21, ix_lt hk, c1, c2, Option.bind_some, bne_self_eq_false, Bool.or_self, Bool.false_eq_true, if_false, sameChoices_refl _ (show (allFor f t[k]).length ≤ 1000000 by omega), Bool.not_true, hz, hlast, laws_FnFits.k_28, model_loop hf hk (show k < list.length by omega) (show 0 ≤ t[k].fAt ∧ t[k].fAt ≤ 199 by omega) (show 0 ≤ t[k].fPitch ∧ t[k].fPitch ≤ 47 by omega) (hm k (by omega) hk), laws_FnFits.k_30]
    rw [if_pos (by simpa using hk), w64_in (n := (k : Int) + 1) (by omega) (by omega)]
    simp) (by simp [laws_FnFits.l_21])
theorem kept_loop (l : List GChoice) (hl : l.length ≤ 1048576) : loop (impl_KeptNotes.l_6 l) (0, 0) = some ((l.countP fun x => !x.fAway : Nat) : Int) := by
  have h2 := loop_seq (f := impl_KeptNotes.l_6 l) l.length (fun k => (((l.take k).countP fun x => !x.fAway : Nat), (k : Int))) ((l.countP fun x => !x.fAway : Nat) : Int) (fun k hk => by
    have hc : (l.take k).countP (fun x => !x.fAway) ≤ k := Nat.le_trans List.countP_le_length (by rw [List.length_take]; omega)
    have hb : impl_bit (!l[k].fAway) = some (if l[k].fAway = true then 0 else 1) := by cases l[k].fAway <;> rfl
    simp only [impl_KeptNotes.l_6, ix_lt hk, hb, Option.bind_some]
    rw [if_pos (by simpa using hk), List.take_succ_eq_append_getElem hk, List.countP_append, w64_in (n := (k : Int) + 1) (by omega) (by omega)]
    cases h : l[k].fAway
    · simp only [Bool.false_eq_true, if_false]
      rw [w64_in (by omega) (by omega)]
      simp [h]
    · simp only [if_true]
      rw [w64_in (by omega) (by omega)]
      simp [h]) (by simp [impl_KeptNotes.l_6])
  simpa using h2
theorem FnFits_ok (code0 more1 : List Int) (o0 : (code0.length ≤ 9223372036854775807 ∧ ∀ y ∈ code0, (0 ≤ y ∧ y ≤ 255))) (o1 : (more1.length ≤ 9223372036854775807 ∧ ∀ y ∈ more1, (0 ≤ y ∧ y ≤ 255))) : laws_FnFits code0 more1 = some true := by
  simp only [laws_FnFits, laws_a2Long, Option.bind_some]
  cases hlong : (decide ((code0.length : Int) > 3000)) || (decide ((more1.length : Int) > 3000)) with
  | true => rfl
  | false =>
    obtain ⟨f, t, e1, hs⟩ := a2Short_is code0 o0.2
    obtain ⟨list, d, e2, hl, hm, hv⟩ := a2Choices_is more1 o1.2 hs
    have hf := hs.fr; have ht := hs.tn
    have hh1 := hf.h1; have hs0 := hf.s0; have hs1 := hf.s1; have htl := ht.len
    have hi : FIn f := ⟨by omega, fun y hy => by have := hf.hp y hy; omega⟩
    have hn : ∀ n ∈ t, NIn n := fun n hn => by have := ht.nt n hn; exact ⟨by omega, by omega⟩
    have hall : ∀ x ∈ list, choiceB x = true ∧ In8 x ∧ (x.fAway = true → x = ⟨true, 0, 0, 0⟩) := by
      intro x hx
      obtain ⟨k, hk, rfl⟩ := List.getElem_of_mem hx
      have hkt : k < t.length := by omega
      have := ht.nt _ (List.getElem_mem hkt)
      exact choice_in hf (n := t[k]) (by omega) (by omega) (hm k hk hkt)
    have hca : list.all choiceB = true := by rw [List.all_eq_true]; exact fun x hx => (hall x hx).1
    obtain ⟨s, b1, b2⟩ := readBack hca (fun x hx => (hall x hx).2.1) (fun x hx => (hall x hx).2.2) (by omega)
    have hask : askedB f t list = 0 := by unfold askedB; rw [if_pos ⟨frameB_of hf, tuneB_of ht, hca⟩, if_pos hl]
    have hfit := fitted_is hi (show f.fHammers.length ≤ 9223372036854775807 by omega) (show t.length ≤ 9223372036854775807 by omega) hn (show list.length ≤ 9223372036854775807 by omega)
    rw [if_pos hask, hv] at hfit
    have hdr := l07Drum_is hi (show f.fHammers.length ≤ 9223372036854775807 by omega) (show t.length ≤ 9223372036854775807 by omega) hn (show list.length ≤ 9223372036854775807 by omega)
    unfold drumV at hdr
    rw [if_pos hask, hv] at hdr
    obtain ⟨dg, hcnt⟩ := fitV_dg hf ht hl hv
    have hdB : drumB f d = true := drumB_of dg.in_
    have hdc := drumCode1 f hi (show f.fHammers.length ≤ 9223372036854775807 by omega) d dg.din
    have hda := l02Asked_is f hi (show f.fHammers.length ≤ 9223372036854775807 by omega) d dg.din
    rw [if_pos ⟨frameB_of hf, hdB⟩] at hdc hda
    have hnl : (nall f d).length ≤ 39 := by
      have h3 := hs.hm; have h4 := hs.st
      have := app_len f.fSteps.toNat 3 (nr f d) (fun k _ => by have := nr_len f d k; omega)
      unfold nall
      omega
    obtain ⟨r, m1, m2, m3⟩ := made_is (nall f d) (by omega)
    have hdf : impl_DrumFor f t list = some (d, 0) := by simp [impl_DrumFor, hfit]
    have hsd : spec_DrumFor f t list = some (d, 0) := by simp [spec_DrumFor, hdr]
    have hck : impl_CheckChoices f t list = some (true, 0) := by simp [impl_CheckChoices, hfit]
    have hfu : impl_FirstUnfit f t list = some (0, 6) := by simp [impl_FirstUnfit, hfit]
    have hpl : impl_IsPlayable f d = some (true, 0) := by simp [impl_IsPlayable, impl_ClashesOf, hdc, allClashes_no hf dg]
    have hhd : impl_HeardTune f t list = some (r, 0) := by simp [impl_HeardTune, hdf, played_is hf dg.din, m1]
    have hto : spec_TuneOf f d = some (r, 0) := by
      simp only [spec_TuneOf, hda, l02Tune_is hf dg.din, m2, Option.bind_some]
      rw [if_neg (by simp), if_neg (by rw [decide_eq_true_eq]; omega)]
    have hkn : impl_KeptNotes f t list = some (((list.countP fun x => !x.fAway : Nat) : Int), 0) := by simp [impl_KeptNotes, hfit, kept_loop list (by omega), impl_KeptNotes.k_3]
    have hcp : impl_CountPins f d = some (((list.countP fun x => !x.fAway : Nat) : Int), 0) := by simp [impl_CountPins, hdc, count_is dg.din, hcnt]
    have hwr : askedB f t (list ++ [⟨true, 0, 0, 0⟩]) = 2 := by
      unfold askedB
      rw [if_pos ⟨frameB_of hf, tuneB_of ht, by rw [List.all_append, hca]; rfl⟩, if_neg (by simp; omega)]
    have hwf := fitted_is hi (show f.fHammers.length ≤ 9223372036854775807 by omega) (show t.length ≤ 9223372036854775807 by omega) hn (list := list ++ [⟨true, 0, 0, 0⟩]) (by simp; omega)
    rw [hwr] at hwf
    have hwc : impl_CheckChoices f t (list ++ [⟨true, 0, 0, 0⟩]) = some (false, 0) := by simp [impl_CheckChoices, hwf]
    have hwd : impl_DrumFor f t (list ++ [⟨true, 0, 0, 0⟩]) = some (Arr.rep 96 0, 2) := by simp [impl_DrumFor, hwf]
    have h17 : laws_FnFits.k_17 (f, t) list = some true := by
      simp only [laws_FnFits.k_17, List.nil_append, hwc, hwd, Option.bind_some]
      rw [if_pos (by simp; omega), if_pos (by simp; omega)]
      simp
    have h16 : laws_FnFits.k_16 (f, t) list false = some true := by
      simp only [laws_FnFits.k_16, Bool.false_eq_true, if_false, each_loop hf ht hl hm, Option.bind_some, h17]
    simp only [Bool.false_eq_true, if_false, e1, e2, b1, b2, hdf, hsd, hck, hfu, hpl, hhd, hto, hkn, hcp, Option.bind_some, bne_self_eq_false, sameChoices_refl list (show list.length ≤ 1000000 by omega), Bool.not_true, Bool.or_self, beq_self_eq_true, sameTune_refl r (show r.length ≤ 1000000 by omega), h16]

end Go.Proofs.YtplklknkkaeniaaGreatDoor
