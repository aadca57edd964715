/- The law of repinning: its plain function answers true at every input. -/
import Derived.Test.YtojndiidhgdjcaaGreatDoorM0
import Derived.Test.YtojndiidhgdjcaaGreatDoorM2
import Derived.Test.YtojndiidhgdjcaaGreatDoorPFrame
import Derived.Test.YtojndiidhgdjcaaGreatDoorPDrum
import Derived.Test.YtojndiidhgdjcaaGreatDoorPCodes
import Derived.Test.YtojndiidhgdjcaaGreatDoorPPut
import Derived.Test.YtojndiidhgdjcaaGreatDoorPTune
import Derived.Test.YtojndiidhgdjcaaGreatDoorPMadeS
import Derived.Test.YtojndiidhgdjcaaGreatDoorPMade
import Derived.Test.YtojndiidhgdjcaaGreatDoorPChoices
import Derived.Test.YtojndiidhgdjcaaGreatDoorPFit
import Derived.Test.YtojndiidhgdjcaaGreatDoorPPlc
import Derived.Test.YtojndiidhgdjcaaGreatDoorPByTr
import Derived.Test.YtojndiidhgdjcaaGreatDoorPWithout
import Derived.Test.YtojndiidhgdjcaaGreatDoorPPins
import Derived.Test.YtojndiidhgdjcaaGreatDoorPPinRun
import Derived.Test.YtojndiidhgdjcaaGreatDoorPPinTune
import Derived.Test.YtojndiidhgdjcaaGreatDoorPPinLaw
import Derived.Test.YtojndiidhgdjcaaGreatDoorPPinLk
import Derived.Test.YtojndiidhgdjcaaGreatDoorPBits
import Derived.Test.YtojndiidhgdjcaaGreatDoorPClash
import Derived.Test.YtojndiidhgdjcaaGreatDoorPCost
import Derived.Test.YtojndiidhgdjcaaGreatDoorPPinned
import Derived.Test.YtojndiidhgdjcaaGreatDoorPChList
import Derived.Test.YtojndiidhgdjcaaGreatDoorPHeard
import Derived.Test.YtojndiidhgdjcaaGreatDoorPBells
import Derived.Test.YtojndiidhgdjcaaGreatDoorPTracks
import Derived.Test.YtojndiidhgdjcaaGreatDoorPMoveL
import Derived.Test.YtojndiidhgdjcaaGreatDoorPMoves
import Derived.Test.YtojndiidhgdjcaaGreatDoorPSkipT
import Derived.Test.YtojndiidhgdjcaaGreatDoorPSpare
import Derived.Test.YtojndiidhgdjcaaGreatDoorPTxt
import Derived.Test.YtojndiidhgdjcaaGreatDoorPFrText
import Derived.Test.YtojndiidhgdjcaaGreatDoorPDraw
import Derived.Test.YtojndiidhgdjcaaGreatDoorPDrawDrum
import Derived.Test.YtojndiidhgdjcaaGreatDoorPDrawD
import Derived.Test.YtojndiidhgdjcaaGreatDoorPDrawTune
import Derived.Test.YtojndiidhgdjcaaGreatDoorPure
import Derived.Test.YtojndiidhgdjcaaGreatDoorSFnRepinned
namespace Go.Proofs.YtojndiidhgdjcaaGreatDoor
open Eng
set_option linter.unusedVariables false
set_option linter.unusedSimpArgs false

theorem sameTune_self (t : List GNote) (h : t.length ≤ 1000000) : spec_SameTune t t = some true := by
  have h0 : loop (spec_l01Same.l_3 t t) 0 = some (.inr ()) := loop_seq (f := spec_l01Same.l_3 t t) t.length (fun k => (k : Int)) (.inr ()) (fun k hk => by
    simp only [spec_l01Same.l_3, ix_lt hk, Option.bind_some]
    rw [if_pos (by simpa using hk), if_neg (by simp), w64_in (n := (k : Int) + 1) (by omega) (by omega)]
    simp) (by simp [spec_l01Same.l_3])
  simp [spec_SameTune, spec_l01Same, h0, spec_l01Same.k_1]
/-- the tracks of the old drum -/
theorem rep_tracks {f : GFrame} (hf : FOk f) (hi : FIn f) (f1 : f.fSteps ≤ 17) (f2 : f.fHammers.length ≤ 5) {d : Arr 96 Int} (hd : DIn d) (hB : drumB f d = true) : laws_FnRepinned.k_10 f d = some true := by
  have hh0 := hf.h0; have hh1 := hf.h1; have hs0 := hf.s0
  obtain ⟨a1, a2, a3⟩ := spare_is hf hi hd hB
  have hsl := spare_len f d
  have hnl : (nall f d).length ≤ 120 := by
    have := app_len f.fSteps.toNat 5 (nr f d) (fun k _ => by have := nr_len f d k; omega)
    unfold nall
    omega
  obtain ⟨r, m1, _, m3, _⟩ := made_tune hf (d := d) hnl
  have hrl := m3.len
  have hloop : loop (laws_FnRepinned.l_18 f d (cstN (spareL f d), 0) (trk f.fHammers.length (cntT f d), 0)) 0 = some (.inr ()) :=
    loop_seq (f := laws_FnRepinned.l_18 f d (cstN (spareL f d), 0) (trk f.fHammers.length (cntT f d), 0)) f.fHammers.length (fun k => (k : Int)) (.inr ()) (fun k hk => by
      obtain ⟨b1, b2⟩ := withoutTrack_val hf hi hd hB hk
      simp only [laws_FnRepinned.l_18, b1, b2, Option.bind_some, ix_get (trk_get (cntT f d) hk), has_num (spareL f d) (by omega) k, spare_mem hk, cntT_zero hf hd hB]
      rw [if_pos (by simpa using hk), if_neg (by simp)]
      have hw : w64 ((k : Int) + 1) = ((k + 1 : Nat) : Int) := by rw [w64_in (by omega) (by omega)]; omega
      by_cases c : f.fHammers.length = 1 ∨ usesB d k = true
      · simp only [if_pos c, noFrame_text.1, noFrame_text.2, Option.bind_some]
        have e : ((!usesB d k) && decide ((f.fHammers.length : Int) > 1)) = false := by
          rcases c with c | c
          · rw [c]; simp
          · rw [c]; simp
        rw [if_neg (by simp), if_neg (by simp), e]
        simp [laws_FnRepinned.k_23, hw]
      · simp only [if_neg c]
        have c1 : f.fHammers.length ≠ 1 := fun e => c (.inl e)
        have c2 : usesB d k = false := by
          cases hu : usesB d k with
          | false => rfl
          | true => exact absurd (.inr hu) c
        have hfo := lessF_ok hf hk c1
        have hio : FIn (lessF f k) := ⟨by have := hfo.s0; have := hfo.s1; omega, fun y hy => by have := hfo.hp y hy; omega⟩
        obtain ⟨x, x1, x2⟩ := frameText_is hfo
        have t1 := tuneOf_of hf hi hd hB m1 m3
        have t2 := tuneOf_of hfo hio (DIn_upD hd k 96) (less_drum hd hB hk) (r := r) (by rw [nall_less hf hk c2]; exact m1) m3
        simp only [x1, x2, Option.bind_some]
        rw [if_neg (by simp), if_neg (by simp), c2]
        have e : decide ((f.fHammers.length : Int) > 1) = true := by rw [decide_eq_true_eq]; omega
        simp [laws_FnRepinned.k_23, laws_FnRepinned.k_27, e, t1, t2, sameTune_self r (by omega), hw]) (by simp [laws_FnRepinned.l_18])
  simp only [laws_FnRepinned.k_10, a1, a2, a3, Option.bind_some]
  rw [if_neg (by simp)]
  simp [sameNumbers_refl (cstN (spareL f d)) (by rw [cstN_len]; omega), trk_len, laws_FnRepinned.k_15, hloop, laws_FnRepinned.k_16]
theorem rep_rest {f : GFrame} {t : List GNote} (h : Gv f t) (f1 : f.fSteps ≤ 17) (f2 : f.fHammers.length ≤ 5) {old : Arr 96 Int} (ho : DIn old) (hB : drumB f old = true) {V : Arr 96 Int × Int × Int × Int} (hV : likeV f t old 20000 = V) :
    laws_FnRepinned.k_9 f t old V V false = some true := by
  have hk10 := rep_tracks h.hf h.fi f1 f2 ho hB
  simp only [laws_FnRepinned.k_9, Bool.false_eq_true, if_false]
  by_cases h0 : V.2.2.2 = 0
  · rw [if_pos (by simpa using h0)]
    unfold likeV at hV
    cases hov : (pinV f t old true 20000).over with
    | true => rw [hov, if_pos rfl] at hV; subst hV; cases h0
    | false =>
      cases hfo : (pinV f t old true 20000).found with
      | false => rw [hov, hfo, if_neg (by simp), if_pos rfl] at hV; subst hV; cases h0
      | true =>
        rw [hov, hfo, if_neg (by simp), if_neg (by simp)] at hV
        subst hV
        have hns := len_all h.ht h.len
        have hw := pinV_way hfo
        obtain ⟨p1, p2⟩ := way_pinned h.hf h.ht hns hw
        generalize hbst : (pinV f t old true 20000).best = due at *
        have hvo : VD f old := ⟨ho, fun s t h => ⟨(drumB_pin hB ho h).1, (drumB_pin hB ho h).2.1⟩⟩
        have hvd : VD f due := ⟨p1.dg.din, p1.dg.in_⟩
        obtain ⟨d, e, hd, he, mv1, mv2, ml1, ml2, ml3⟩ := movesB h.hf hvo hvd
        have hap := apply_is h.hf hvo hvd hd he
        have hck := checkPin_is h p1
        have hpt := pinTuneS_is (f := f) (t := t) 20000 h.fi h.hl h.tl h.ni
        have hoth : VD f (pinTuneV f t 20000).1 ∧ ((pinTuneV f t 20000).2.2 = 0 → (pinV f t old true 20000).most ≤ (beyond (pinTuneV f t 20000).1 old : Nat)) := by
          have hvr : VD f (Arr.rep 96 0) := ⟨DIn_rep, (dg_rep f).in_⟩
          unfold pinTuneV
          rw [if_pos (h.fits (by omega))]
          cases ho2 : (pinV f t (Arr.rep 96 0) false 20000).over with
          | true => exact ⟨hvr, fun e => by cases e⟩
          | false =>
            cases hf2 : (pinV f t (Arr.rep 96 0) false 20000).found with
            | false => exact ⟨hvr, fun e => by cases e⟩
            | true =>
              have hw2 := pinV_way hf2
              obtain ⟨q1, _⟩ := way_pinned h.hf h.ht hns hw2
              refine ⟨⟨q1.dg.din, q1.dg.in_⟩, fun _ => ?_⟩
              obtain ⟨c', hw3⟩ := way_old (old' := old) t _ _ 0 _ _ hw2
              obtain ⟨_, q2⟩ := way_pinned h.hf h.ht hns hw3
              have := (pinV_least hov hw3).2
              rw [q2] at this
              exact this
        obtain ⟨ov1, ov2⟩ := hoth
        obtain ⟨d2, e2, _, _, _, mw2, _, _, mw3⟩ := movesB h.hf hvo ov1
        obtain ⟨hl2, _⟩ := pinLike_is h hvd.din (drumB_of hvd.in_) (budget := 20000) (by omega)
        have hk42 : laws_FnRepinned.k_42 f t old (due, (pinV f t old true 20000).most, (pinV f t old true 20000).tries, 0) false = some true := by
          simp only [laws_FnRepinned.k_42, Bool.false_eq_true, if_false, hl2, Option.bind_some]
          unfold likeV
          cases ho3 : (pinV f t due true 20000).over with
          | true => simp [laws_FnRepinned.k_45, hk10]
          | false =>
            cases hf3 : (pinV f t due true 20000).found with
            | false => simp [laws_FnRepinned.k_45, hk10]
            | true =>
              obtain ⟨r1, r2⟩ := way_pinned h.hf h.ht hns (pinV_way hf3)
              obtain ⟨c', hw4⟩ := way_old (old' := due) t _ _ 0 _ _ hw
              obtain ⟨_, r3⟩ := way_pinned h.hf h.ht hns hw4
              have r4 := (pinV_least ho3 hw4).2
              rw [r3, beyond_self] at r4
              have r5 : beyond (pinV f t due true 20000).best due = 0 := by omega
              have r6 : (pinV f t due true 20000).best = due := same_sub r1.dg.din p1.dg.din r5 (by rw [r1.cnt, p1.cnt])
              have r7 : (pinV f t due true 20000).most = 0 := by omega
              simp [laws_FnRepinned.k_45, hk10, r6, r7]
        have hcm : ((prL f e).length : Int) = (pinV f t old true 20000).most := by rw [ml3, p2]
        simp only [hck, mv1, mv2, hap, hpt, mw2, Option.bind_some, sameSpots_refl (prL f d) (by omega), sameSpots_refl (prL f e) (by omega), hcm]
        rw [if_neg (by simp), if_neg (by simp), if_neg (by simp), if_neg (by simp)]
        by_cases c5 : (pinTuneV f t 20000).2.2 = 0
        · rw [if_pos (by simpa using c5)]
          have := ov2 c5
          rw [mw3, decide_eq_false (by omega)]
          exact hk42
        · rw [if_neg (by simpa using c5)]
          exact hk42
  · rw [if_neg (by simpa using h0)]
    exact hk10
theorem FnRepinned_ok (code0 more1 : List Int) (o0 : (code0.length ≤ 9223372036854775807 ∧ ∀ y ∈ code0, (0 ≤ y ∧ y ≤ 255))) (o1 : (more1.length ≤ 9223372036854775807 ∧ ∀ y ∈ more1, (0 ≤ y ∧ y ≤ 255))) : laws_FnRepinned code0 more1 = some true := by
  have main : laws_FnRepinned.k_2 code0 more1 false = some true := by
    obtain ⟨f, e1, hf, f1, f2⟩ := p6Frame_is code0 o0.2
    obtain ⟨t, e2, ht, htl, hts⟩ := p6Tune_is hf more1 o1.2
    obtain ⟨old, e3, ho, hB⟩ := p6Drum_is hf more1 o1.2
    have hs0 := hf.s0
    have h : Gv f t := ⟨hf, ht, lenV_le (by omega) hts⟩
    obtain ⟨l1, l2⟩ := pinLike_is h ho hB (budget := 20000) (by omega)
    have hr := rep_rest h f1 f2 ho hB rfl
    have hc : ((((likeV f t old 20000).2.2.2 != 0) && ((likeV f t old 20000).2.2.2 != 6)) && ((likeV f t old 20000).2.2.2 != 7)) = false := by
      unfold likeV
      split
      · rfl
      · split <;> rfl
    simp only [laws_FnRepinned.k_2, Bool.false_eq_true, if_false, e1, e2, e3, l1, l2, Option.bind_some]
    rw [if_neg (by simp), if_neg (by simp), hc]
    exact hr
  have b1 : ∀ c : List Int, laws_f6big c = some (decide ((c.length : Int) > 4096)) := fun c => rfl
  simp only [laws_FnRepinned, b1, Option.bind_some]
  have top : ∀ q, laws_FnRepinned.k_2 code0 more1 q = some true := fun q => by
    cases q with
    | true => rfl
    | false => exact main
  cases decide ((code0.length : Int) > 4096) <;> simp [top]

end Go.Proofs.YtojndiidhgdjcaaGreatDoor
