/- The law of changes: its plain function answers true at every input. -/
import Derived.Test.YtgmmeokkgcbkdaaGreatDoorM0
import Derived.Test.YtgmmeokkgcbkdaaGreatDoorM1
import Derived.Test.YtgmmeokkgcbkdaaGreatDoorPFrame
import Derived.Test.YtgmmeokkgcbkdaaGreatDoorPDrum
import Derived.Test.YtgmmeokkgcbkdaaGreatDoorPCodes
import Derived.Test.YtgmmeokkgcbkdaaGreatDoorPPut
import Derived.Test.YtgmmeokkgcbkdaaGreatDoorPBits
import Derived.Test.YtgmmeokkgcbkdaaGreatDoorPCost
import Derived.Test.YtgmmeokkgcbkdaaGreatDoorPChList
import Derived.Test.YtgmmeokkgcbkdaaGreatDoorPPlcW
import Derived.Test.YtgmmeokkgcbkdaaGreatDoorPMakeCh
import Derived.Test.YtgmmeokkgcbkdaaGreatDoorPUndoC
import Derived.Test.YtgmmeokkgcbkdaaGreatDoorPTurnC
import Derived.Test.YtgmmeokkgcbkdaaGreatDoorPDraw
import Derived.Test.YtgmmeokkgcbkdaaGreatDoorPDrawWear
import Derived.Test.YtgmmeokkgcbkdaaGreatDoorPTxt
import Derived.Test.YtgmmeokkgcbkdaaGreatDoorPJoin
import Derived.Test.YtgmmeokkgcbkdaaGreatDoorPNum
import Derived.Test.YtgmmeokkgcbkdaaGreatDoorPSpl
import Derived.Test.YtgmmeokkgcbkdaaGreatDoorPSigned
import Derived.Test.YtgmmeokkgcbkdaaGreatDoorPMapO
import Derived.Test.YtgmmeokkgcbkdaaGreatDoorPReadCg
import Derived.Test.YtgmmeokkgcbkdaaGreatDoorPReadBack
import Derived.Test.YtgmmeokkgcbkdaaGreatDoorPReadBackC
import Derived.Test.YtgmmeokkgcbkdaaGreatDoorPure
import Derived.Test.YtgmmeokkgcbkdaaGreatDoorSFnChanged
namespace Go.Proofs.YtgmmeokkgcbkdaaGreatDoor
open Eng
set_option linter.unusedVariables false
set_option linter.unusedSimpArgs false

theorem sameC_refl (t : List GChange) (h : t.length ≤ 1000000) : spec_A2SameChanges t t = some true := by
  have h0 : loop (spec_A2SameChanges.l_3 t t) 0 = some (.inr ()) := loop_seq (f := spec_A2SameChanges.l_3 t t) t.length (fun k => (k : Int)) (.inr ()) (fun k hk => by
    simp only [spec_A2SameChanges.l_3, ix_lt hk, Option.bind_some]
    rw [if_pos (by simpa using hk), if_neg (by simp), w64_in (n := (k : Int) + 1) (by omega) (by omega)]
    simp) (by simp [spec_A2SameChanges.l_3])
  simp [spec_A2SameChanges, h0, spec_A2SameChanges.k_1]
theorem a2Frame_is (code : List Int) (hc : ∀ y ∈ code, 0 ≤ y ∧ y ≤ 255) : ∃ f, spec_A2Frame code = some f ∧ FOk f ∧ f.fSteps ≤ 17 ∧ f.fHammers.length ≤ 5 := by
  obtain ⟨e, h⟩ := from_is code hc
  obtain ⟨f, s', e1, h1, h2, h3, _⟩ := frameDrawn_is h (by omega)
  exact ⟨f, by simp only [spec_A2Frame, e, e1, Option.bind_some], h1, h2, h3⟩
theorem a2Drum_is {f : GFrame} (hf : FOk f) (code : List Int) (hc : ∀ y ∈ code, 0 ≤ y ∧ y ≤ 255) : ∃ d, spec_A2Drum code f = some d ∧ VD f d := by
  obtain ⟨e, h⟩ := from_is code hc
  obtain ⟨d, s', e1, h1, h2, _⟩ := drumDrawn_is hf h (by omega)
  exact ⟨d, by simp only [spec_A2Drum, e, e1, Option.bind_some], h1, h2⟩
theorem beyond_small {f : GFrame} (hf : FOk f) (h1 : f.fSteps ≤ 17) (h2 : f.fHammers.length ≤ 5) {a b : Arr 96 Int} (ha : VD f a) (hb : VD f b) : beyond b a ≤ 85 := by
  have hs0 := hf.s0
  obtain ⟨d, _, _, h3⟩ := lessD_is hb.din ha.din
  have e := list_eq hf hb h3 true
  have l1 : (prL f d).length ≤ 85 := by
    have := app_len f.fSteps.toNat 5 (prRow f.fHammers.length d) (fun k _ => by have := prRow_len f.fHammers.length d k; omega)
    unfold prL
    omega
  have l2 := congrArg List.length e
  rw [List.length_map, chL_count hf hb true] at l2
  omega
theorem changeCost_is {f : GFrame} (hf : FOk f) {a b : Arr 96 Int} (ha : VD f a) (hb : VD f b) : impl_ChangeCost f a b = some (((distD a b : Nat) : Int), 0) := by
  simp [impl_ChangeCost, (both_is hf ha hb).1, cost_val ha.din hb.din]
theorem a2At_is {more : List Int} (hc : ∀ y ∈ more, 0 ≤ y ∧ y ≤ 255) {n : Nat} (h1 : 1 ≤ n) (h2 : n ≤ 1000000) : ∃ k : Nat, k < n ∧ laws_a2At more 0 (n : Int) = some (k : Int) := by
  simp only [laws_a2At]
  by_cases c : more.length = 0
  · refine ⟨0, by omega, ?_⟩
    rw [if_pos (by simp [c])]; rfl
  · have h0 : 0 < more.length := by omega
    have hx := hc _ (List.getElem_mem h0)
    have hix : ix more 0 = some more[0] := ix_lt h0
    obtain ⟨x, hxx⟩ : ∃ x : Nat, more[0] = (x : Int) := ⟨more[0].toNat, by omega⟩
    rw [hxx] at hix hx
    refine ⟨x % n, Nat.mod_lt _ (by omega), ?_⟩
    rw [if_neg (by simp only [Bool.or_eq_true, decide_eq_true_eq]; omega)]
    simp only [hix, Option.bind_some]
    rw [if_pos (by omega), w64_in (by omega) (by omega), tmod_nat]
theorem FnChanged_ok (code0 more1 : List Int) (o0 : (code0.length ≤ 9223372036854775807 ∧ ∀ y ∈ code0, (0 ≤ y ∧ y ≤ 255))) (o1 : (more1.length ≤ 9223372036854775807 ∧ ∀ y ∈ more1, (0 ≤ y ∧ y ≤ 255))) : laws_FnChanged code0 more1 = some true := by
  simp only [laws_FnChanged, laws_a2Long, Option.bind_some]
  cases hlong : (decide ((code0.length : Int) > 3000)) || (decide ((more1.length : Int) > 3000)) with
  | true => rfl
  | false =>
    have hml : more1.length ≤ 3000 := by
      simp only [Bool.or_eq_false_iff, decide_eq_false_iff_not] at hlong
      omega
    obtain ⟨f, e1, hf, f1, f2⟩ := a2Frame_is code0 o0.2
    have hs0 := hf.s0; have hs1 := hf.s1; have hh0 := hf.h0; have hh1 := hf.h1
    have hi : FIn f := ⟨by omega, fun y hy => by have := hf.hp y hy; omega⟩
    obtain ⟨a, e2, ha⟩ := a2Drum_is hf more1 o1.2
    obtain ⟨b, e3, hb⟩ := a2Drum_is hf ([3] ++ more1) (by
      intro y hy
      rcases List.mem_append.1 hy with h | h
      · rw [List.mem_singleton] at h; omega
      · exact o1.2 y h)
    obtain ⟨c, e4, hc⟩ := a2Drum_is hf ([5] ++ more1) (by
      intro y hy
      rcases List.mem_append.1 hy with h | h
      · rw [List.mem_singleton] at h; omega
      · exact o1.2 y h)
    have hd1 := beyond_small hf f1 f2 ha hb
    have hd2 := beyond_small hf f1 f2 hb ha
    have hdist : distD a b ≤ 170 := by unfold distD; omega
    have hlen := due_len hf ha hb
    have hl : (dueL a b).length ≤ 170 := by omega
    have hin : ∀ x ∈ dueL a b, InC x := by
      intro x hx
      unfold dueL at hx
      rcases List.mem_append.1 hx with h | h
      · obtain ⟨s, t, h1, h2, _, _, rfl⟩ := ch_mem h
        unfold InC; simp only; omega
      · obtain ⟨s, t, h1, h2, _, _, rfl⟩ := ch_mem h
        unfold InC; simp only; omega
    obtain ⟨s, t1, t2⟩ := readBackC hin (by omega)
    have hmk := made_due hf ha hb (by omega)
    have hun := implUndo (l := dueL a b) (by omega)
    have hus := specUndo (l := dueL a b) (by omega)
    have hbk := made_back hf ha hb (by omega)
    have hcab := changeCost_is hf ha hb
    have hcba := changeCost_is hf hb ha
    rw [distD_comm b a] at hcba
    have hpm : impl_PinsToMove f a b = some (((beyond b a : Nat) : Int), ((beyond a b : Nat) : Int), 0) := by
      obtain ⟨d, g1, g2⟩ := count_less hb.din ha.din
      obtain ⟨d', g3, g4⟩ := count_less ha.din hb.din
      simp [impl_PinsToMove, (both_is hf ha hb).1, g1, g2, g3, g4]
    have hcode := changesCode_is' hf ha (show (dueL a b).length ≤ 2400 by omega)
    have hfb : impl_FirstBadChange f a (dueL a b) = some (0, 6) := by
      obtain ⟨d', g1, _, _⟩ := make_all hf (l := dueL a b) (by omega) ha (fun c hc => ⟨(due_ok ha hb hc).1, (due_ok ha hb hc).2.1⟩) (apart_places (due_apart a b) fun c hc => (due_ok ha hb hc).1)
      simp [impl_FirstBadChange, hcode, g1]
    obtain ⟨k, k1, k2, k3⟩ := leastT_spec (fun k => distD a (turnV f b k)) f.fSteps.toNat (by omega)
    obtain ⟨q1, q2⟩ := implTurned hf ha hb
    rw [k2] at q1 q2
    simp only at q1 q2
    obtain ⟨v1, v2, _⟩ := turnV_is hf hb (show k < 96 by omega)
    obtain ⟨_, _, v3⟩ := turnV_is hf hb (show 0 < 96 by omega)
    have hk0 := k3 0 (by omega)
    rw [v3 rfl] at hk0
    have htd : impl_TurnDrum f b (k : Int) = some (turnV f b k, 0) := by
      have hpl : plB f (k : Int) 0 = true := (plB_ok hf _ _).2 (by omega)
      have hpc := placeCode_is f hi (show f.fHammers.length ≤ 9223372036854775807 by omega) b hb.din (k : Int) 0
      rw [if_pos ⟨frameB_of hf, drumB_of hb.in_⟩, if_pos hpl] at hpc
      simp [impl_TurnDrum, hpc, impl_Frame_turned, v1, impl_Frame_turned.k_2]
    have hct := changeCost_is hf ha v2
    have hcac := changeCost_is hf ha hc
    have hccb := changeCost_is hf hc hb
    have htri := distD_tri a c b
    have hda := distD_le a c; have hdc := distD_le c b
    have h28 : ∀ (m : Nat), laws_FnChanged.k_28 f a b (((distD a b : Nat) : Int), 0) (m : Int) (w64 ((m : Int) + 1), 0) (Arr.rep 96 0, 4) c = some true := by
      intro m
      simp only [laws_FnChanged.k_28, hcac, hccb, Option.bind_some]
      rw [w64_in (n := ((distD a c : Nat) : Int) + ((distD c b : Nat) : Int)) (by omega) (by omega)]
      simp
      omega
    have h19 : laws_FnChanged.k_19 more1 f a b (dueL a b, 0) (((distD a b : Nat) : Int), 0) false = some true := by
      simp only [laws_FnChanged.k_19, Bool.false_eq_true, if_false, q1, q2, htd, hct, Option.bind_some, bne_self_eq_false, Bool.or_self, Bool.or_false]
      rw [decide_eq_false (show ¬ ((distD a (turnV f b k) : Nat) : Int) > ((distD a b : Nat) : Int) by omega)]
      simp only [Bool.or_self, Bool.false_eq_true, if_false]
      by_cases hz : (dueL a b).length = 0
      · rw [if_pos (by simp [hz])]
      · rw [if_neg (by simp; exact fun e => hz (by rw [e]; rfl))]
        obtain ⟨m, m1, m2⟩ := a2At_is o1.2 (n := (dueL a b).length) (by omega) (by omega)
        have hw : w64 ((m : Int) + 1) = ((m + 1 : Nat) : Int) := by rw [w64_in (by omega) (by omega)]; omega
        have htw := twice_bad hf ha hb m1 (by omega)
        have hlt : ((dueL a b).take (m + 1) ++ (dueL a b).drop m).length ≤ 2400 := by rw [List.length_append, List.length_take, List.length_drop]; omega
        have hcd := changesCode_is' hf ha hlt
        have h25 : impl_FirstBadChange f a ((dueL a b).take (m + 1) ++ (dueL a b).drop m) = some (((m + 1 : Nat) : Int), 0) := by
          simp only [impl_FirstBadChange, hcd, Option.bind_some, htw]
          rw [if_neg (by decide), if_neg (by decide)]
        have h26 : impl_MakeChanges f a ((dueL a b).take (m + 1) ++ (dueL a b).drop m) = some (Arr.rep 96 0, 4) := by
          simp only [impl_MakeChanges, hcd, Option.bind_some, htw]
          rw [if_neg (by decide)]
        simp only [m2, Option.bind_some, hw, Int.toNat_natCast, List.nil_append, h25, h26, e4]
        rw [if_pos (by omega), if_pos (by omega), if_pos (by simp only [List.length_nil, List.length_take]; omega), if_pos (by simp only [List.length_take, List.length_drop]; omega), if_pos (by simp only [List.length_cons, List.length_nil]; omega)]
        have := h28 m
        rw [hw] at this
        exact this
    have hzero : ((((distD a b : Nat) : Int) == 0) != (a.1 == b.1)) = false := by
      have hz := distD_zero ha.din hb.din
      by_cases hab : a = b
      · have h0 := hz.2 hab
        rw [h0, hab]; simp
      · have h0 : distD a b ≠ 0 := fun h => hab (hz.1 h)
        have h1 : (((distD a b : Nat) : Int) == 0) = false := by rw [beq_eq_false_iff_ne]; omega
        have h2 : (a.1 == b.1) = false := by rw [beq_eq_false_iff_ne]; exact fun h => hab (Subtype.ext h)
        rw [h1, h2]; rfl
    have hsum : w64 (((beyond b a : Nat) : Int) + ((beyond a b : Nat) : Int)) = ((distD a b : Nat) : Int) := by
      rw [w64_in (by omega) (by omega)]; unfold distD; omega
    have h5 : laws_FnChanged.k_5 more1 f a b = some true := by
      simp only [laws_FnChanged.k_5, implChanges hf ha hb, specChangesB hf ha hb, t1, t2, hmk, hun, hus, hbk, hcab, hcba, hpm, hfb, Option.bind_some, bne_self_eq_false, Bool.or_self, Bool.false_eq_true, if_false, sameC_refl _ (show (dueL a b).length ≤ 1000000 by omega), sameC_refl _ (show ((dueL a b).reverse.map flipC).length ≤ 1000000 by simp; omega), Bool.not_true, beq_self_eq_true, hlen, hsum, hzero, h19]
    simp only [Bool.false_eq_true, if_false, e1, e2, Option.bind_some]
    rw [if_pos (by simp; omega), e3]
    exact h5

end Go.Proofs.YtgmmeokkgcbkdaaGreatDoor
