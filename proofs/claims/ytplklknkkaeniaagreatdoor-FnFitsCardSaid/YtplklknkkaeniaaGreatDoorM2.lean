/- Functions of the program that the laws reach: a plain function each, and that the call comes to its answer if the plain function has one. Printed by a program. -/
import Derived.Test.YtplklknkkaeniaaGreatDoorT
import Derived.Test.YtplklknkkaeniaaGreatDoorSort
import Derived.Test.YtplklknkkaeniaaGreatDoorM0
import Derived.Test.YtplklknkkaeniaaGreatDoorM1
namespace Go.Proofs.YtplklknkkaeniaaGreatDoor
open Eng
set_option linter.unusedVariables false

set_option linter.unusedSectionVars false
variable [dsW : DrwS]

/-! ### spec.l07Fit -/
noncomputable def spec_l07Fit.k_2 (a_1 : Arr 96 Int) : Option ((Arr 96 Int) × Int) := some (a_1, (-1))
noncomputable def spec_l07Fit.k_13 (i_4 : Int) (a_11 : Arr 96 Int) (q_12 : Bool) : Option (((Arr 96 Int) × Int) ⊕ (((Arr 96 Int) × Int) ⊕ (Arr 96 Int))) := (if q_12 = true then some (.inr (.inl ((Arr.rep 96 0), i_4))) else some (.inl (a_11, (w64 (i_4 + 1)))))
noncomputable def spec_l07Fit.k_10 (f0 : GFrame) (t1 : List GNote) (list2 : List GChoice) (a_3 : Arr 96 Int) (i_4 : Int) (q_9 : Bool) : Option (((Arr 96 Int) × Int) ⊕ (((Arr 96 Int) × Int) ⊕ (Arr 96 Int))) := (if (!q_9) = true then spec_l07Fit.k_13 i_4 a_3 true else (ix t1 i_4).bind fun x_14 => (ix list2 i_4).bind fun x_15 => (spec_l07Put f0 a_3 x_14 x_15).bind fun t_16 => spec_l07Fit.k_13 i_4 t_16.2 (!t_16.1))
noncomputable def spec_l07Fit.l_19 (list2 : List GChoice) (i_4 : Int) (t_8 : (List GChoice)) : (Bool × Int) → Option ((Bool × Int) ⊕ (Bool))
  | (q_17, i_18) => (if (decide (i_18 < (t_8.length : Int))) = true then (if q_17 = true then some (.inl (true, (w64 (i_18 + 1)))) else (ix t_8 i_18).bind fun x_21 => (ix list2 i_4).bind fun x_22 => some (.inl (((x_21.fAway == x_22.fAway) && ((x_21.fLate == x_22.fLate) && ((x_21.fOctave == x_22.fOctave) && (x_21.fTrack == x_22.fTrack)))), (w64 (i_18 + 1))))) else some (.inr q_17))
noncomputable def spec_l07Fit.l_5 (f0 : GFrame) (t1 : List GNote) (list2 : List GChoice) : ((Arr 96 Int) × Int) → Option (((Arr 96 Int) × Int) ⊕ (((Arr 96 Int) × Int) ⊕ (Arr 96 Int)))
  | (a_3, i_4) => (if (decide (i_4 < (t1.length : Int))) = true then (ix t1 i_4).bind fun x_7 => (spec_l07For f0 x_7).bind fun t_8 => (loop (spec_l07Fit.l_19 list2 i_4 t_8) (false, 0)).bind fun t_20 => spec_l07Fit.k_10 f0 t1 list2 a_3 i_4 t_20 else some (.inr (.inr a_3)))
noncomputable def spec_l07Fit (f0 : GFrame) (t1 : List GNote) (list2 : List GChoice) : Option ((Arr 96 Int) × Int) := (loop (spec_l07Fit.l_5 f0 t1 list2) ((Arr.rep 96 0), 0)).bind fun t_6 => match t_6 with | .inl p => some p | .inr p => spec_l07Fit.k_2 p
set_option maxRecDepth 100000 in
theorem spec_l07Fit.calls (f0 : GFrame) (t1 : List GNote) (list2 : List GChoice) (w : World) (r : (Arr 96 Int) × Int) (f0_fHammers_a : Option Addr) (f0_fHammers_an : Nat) (f0_fHammers_c : Nat) (f0_fHammers_h : Rw w f0_fHammers_a 2 encGHammer f0.fHammers) (f0_fHammers_hn : f0.fHammers.length = f0_fHammers_an) (t1_a : Option Addr) (t1_an : Nat) (t1_c : Nat) (t1_h : Rw w t1_a 2 encGNote t1) (t1_hn : t1.length = t1_an) (list2_a : Option Addr) (list2_an : Nat) (list2_c : Nat) (list2_h : Rw w list2_a 4 encGChoice list2) (list2_hn : list2.length = list2_an) (f0_b : Nat) (hm0 : Mem w (bs [some f0_b]) [⟨some f0_b, 27, [(.int .i16 f0.fSteps), (.slice f0_fHammers_a f0_fHammers_an f0_fHammers_c)]⟩] w) (f0_fHammers_ha : f0.fHammers ≠ [] → aB f0_fHammers_a ∉ bs [some f0_b]) (t1_ha : t1 ≠ [] → aB t1_a ∉ bs [some f0_b]) (list2_ha : list2 ≠ [] → aB list2_a ∉ bs [some f0_b]) (h : spec_l07Fit f0 t1 list2 = some r) :
    Calls Tryz.prog 71 #[(.pointer (some ⟨f0_b, 0, none⟩)), (.slice t1_a t1_an t1_c), (.slice list2_a list2_an list2_c)] w fun e w' => ∃ v, e = .returned v ∧ (v = .tuple #[(.agg (row encU32 r.1.1 []).toArray), (.int .i64 r.2)] ∧ Mem w (bs [some f0_b]) [⟨some f0_b, 27, [(.int .i16 f0.fSteps), (.slice f0_fHammers_a f0_fHammers_an f0_fHammers_c)]⟩] w') := by
  subst f0_fHammers_hn t1_hn list2_hn
  rw [spec_l07Fit] at h
  refine enter (args := [(.pointer (some ⟨f0_b, 0, none⟩)), (.slice t1_a t1.length t1_c), (.slice list2_a list2.length list2_c)]) Tryz.func71 rfl Tryz.ntmps71 (by kernel_rfl) (L := [⟨some f0_b, 27, [(.int .i16 f0.fSteps), (.slice f0_fHammers_a f0.fHammers.length f0_fHammers_c)]⟩]) (W := bs [some f0_b]) hm0 ?_
  refine jc_seq ?_
  refine jc_region ?_
  refine toO (by kernel_rfl) (p_a 0 [0] (by kernel_rfl) (fun b => by kernel_rfl) (fun b_1 => jkO ?_))
  refine jo_f [(0, 0)] (by kernel_rfl) ?_
  refine jo_end (by kernel_rfl) ?_
  refine jx_then ?_
  refine jc_seq ?_
  refine jc_region ?_
  refine jo_f [(0, 0)] (by kernel_rfl) ?_
  refine toO (by kernel_rfl) (p_a 0 [0] (by kernel_rfl) (fun b => by kernel_rfl) (fun b_2 => jkO ?_))
  refine toO (by kernel_rfl) (p_sA 0 2 b_2 96 1 39 encU32 (Arr.rep 96 0) (Arr.rep 96 0) (by kernel_rfl) (by kernel_rfl) (by kernel_rfl) encU32_len encU32_cell (by kernel_rfl) (jkO ?_))
  refine jo_end (by kernel_rfl) ?_
  refine jx_then ?_
  refine jc_seq ?_
  refine jc_seq ?_
  refine jc_region ?_
  refine jo_f [(0, 0)] (by kernel_rfl) ?_
  refine jo_end (by kernel_rfl) ?_
  refine jx_then ?_
  refine jc_meet (fun (j : (Arr 96 Int)) => match j with | a_1 => spec_l07Fit.k_2 a_1 = some r) (fun (j : (Arr 96 Int)) => match j with | a_1 => [(6, [], (.pointer (some ⟨b_1, 0, none⟩))), (7, [], (.int .i64 0)), (8, [], (.pointer (some ⟨b_2, 0, none⟩)))]) (fun (j : (Arr 96 Int)) => match j with | a_1 => [⟨some f0_b, 27, [(.int .i16 f0.fSteps), (.slice f0_fHammers_a f0.fHammers.length f0_fHammers_c)]⟩, ⟨(some b_1), 39, row encU32 ((Arr.rep 96 0).1) []⟩, ⟨(some b_2), 39, row encU32 a_1.1 []⟩]) ?_ ?_
  · refine jc_block ?_
    obtain ⟨t_6, ht_1174, hr_1074⟩ := bd h
    refine jc_loop (fun (s : (Arr 96 Int) × Int) (x : Unit) => match s, x with | ⟨a_3, i_4⟩, _ => True) (fun (s : (Arr 96 Int) × Int) (x : Unit) => match s, x with | ⟨a_3, i_4⟩, _ => [(0, [], (.pointer (some ⟨f0_b, 0, none⟩))), (1, [], (.slice t1_a t1.length t1_c)), (2, [], (.slice list2_a list2.length list2_c)), (6, [], (.pointer (some ⟨b_1, 0, none⟩))), (7, [], (.int .i64 0)), (8, [], (.pointer (some ⟨b_2, 0, none⟩))), (9, [], (.int .i64 i_4))]) (fun (s : (Arr 96 Int) × Int) (x : Unit) => match s, x with | ⟨a_3, i_4⟩, _ => [⟨some f0_b, 27, [(.int .i16 f0.fSteps), (.slice f0_fHammers_a f0.fHammers.length f0_fHammers_c)]⟩, ⟨(some b_1), 39, row encU32 ((Arr.rep 96 0).1) []⟩, ⟨(some b_2), 39, row encU32 a_3.1 []⟩]) ht_1174 () trivial (by kernel_rfl) [0, 1, 2] (by kernel_rfl) (by kernel_rfl) ?_
    rintro ⟨a_3, i_4⟩ _ y_1075 _ h
    rw [spec_l07Fit.l_5] at h
    refine jc_seq ?_
    refine jc_seq ?_
    refine jc_region ?_
    refine jo_f [(0, 0), (0, 0), (0, 0), (0, 0)] (by kernel_rfl) ?_
    refine jo_end (by kernel_rfl) ?_
    refine jx_then ?_
    refine jc_cond (decide (i_4 < (t1.length : Int))) (by kernel_rfl) (fun hc_1077 => ?_) (fun hc_1077 => ?_)
    · replace h := ifT hc_1077 h
      refine jc_skip ?_
      refine jx_then ?_
      refine jc_seq ?_
      refine jc_block ?_
      refine jc_seq ?_
      refine jc_region ?_
      refine jo_f [(0, 0), (0, 0), (0, 0)] (by kernel_rfl) ?_
      obtain ⟨x_7, hx_1078, h⟩ := bd h
      refine toO (by kernel_rfl) (p_idx 0 t1_a t1.length i_4 2 (by kernel_rfl) (by kernel_rfl) (ix_some hx_1078).1 (ltn hx_1078 rfl) (t1_h.sp hx_1078) (jkO ?_))
      refine toO (by kernel_rfl) (p_ld 0 (aB t1_a) (aO t1_a + i_4.toNat * 2) true (encGNote x_7) (by kernel_rfl) (by kernel_rfl) (by kernel_rfl) (fun w hm => ((hm.exRowW t1_h t1_ha).at hx_1078)) (jkO ?_))
      obtain ⟨t_8, ht_1079, h⟩ := bd h
      refine toO (by kernel_rfl) (p_call 0 26 #[(.pointer (some ⟨f0_b, 0, none⟩)), (.agg #[(.int .i16 x_7.fAt), (.int .i8 x_7.fPitch)])] (by kernel_rfl) (by kernel_rfl) (fun w hm => spec_l07For.calls f0 x_7 w _ f0_fHammers_a f0.fHammers.length f0_fHammers_c (hm.exRowW f0_fHammers_h f0_fHammers_ha) rfl f0_b (hm.pass (N := [⟨some f0_b, 27, [(.int .i16 f0.fSteps), (.slice f0_fHammers_a f0.fHammers.length f0_fHammers_c)]⟩]) [0] (by kernel_rfl) (by kernel_rfl)) (hm.exApart (N := [⟨some f0_b, 27, [(.int .i16 f0.fSteps), (.slice f0_fHammers_a f0.fHammers.length f0_fHammers_c)]⟩]) f0_fHammers_h f0_fHammers_ha [0] (by kernel_rfl)) ht_1079) ?_)
      rintro w v w' hm ⟨o_1080, cap_1081, sp_1082, _, rfl, hs_1083, ho_1084, rfl, hm'⟩
      refine ⟨_, hm.appW (ps := [(0, ⟨some f0_b, 27, [(.int .i16 f0.fSteps), (.slice f0_fHammers_a f0.fHammers.length f0_fHammers_c)]⟩)]) (N := [⟨o_1080, 58, row encGChoice t_8 sp_1082⟩]) hm' (by kernel_rfl) (by kernel_rfl), jkO ?_⟩
      clear hm hm'
      refine jo_f [(0, 0)] (by kernel_rfl) ?_
      refine jo_end (by kernel_rfl) ?_
      refine jx_then ?_
      refine jc_seq ?_
      refine jc_region ?_
      refine jo_f [(0, 0)] (by kernel_rfl) ?_
      refine jo_end (by kernel_rfl) ?_
      refine jx_then ?_
      refine jc_seq ?_
      refine jc_seq ?_
      refine jc_region ?_
      refine jo_f [(0, 0)] (by kernel_rfl) ?_
      refine jo_end (by kernel_rfl) ?_
      refine jx_then ?_
      refine jc_meet (fun (j : Bool) => match j with | q_9 => spec_l07Fit.k_10 f0 t1 list2 a_3 i_4 q_9 = some y_1075) (fun (j : Bool) => match j with | q_9 => [(0, [], (.pointer (some ⟨f0_b, 0, none⟩))), (1, [], (.slice t1_a t1.length t1_c)), (2, [], (.slice list2_a list2.length list2_c)), (6, [], (.pointer (some ⟨b_1, 0, none⟩))), (7, [], (.int .i64 0)), (8, [], (.pointer (some ⟨b_2, 0, none⟩))), (9, [], (.int .i64 i_4)), (11, [], (.bool q_9))]) (fun (j : Bool) => match j with | q_9 => [⟨some f0_b, 27, [(.int .i16 f0.fSteps), (.slice f0_fHammers_a f0.fHammers.length f0_fHammers_c)]⟩, ⟨(some b_1), 39, row encU32 ((Arr.rep 96 0).1) []⟩, ⟨(some b_2), 39, row encU32 a_3.1 []⟩, ⟨o_1080, 58, row encGChoice t_8 sp_1082⟩]) ?_ ?_
      · refine jc_block ?_
        obtain ⟨t_20, ht_1172, hr_1164⟩ := bd h
        refine jc_loop (fun (s : Bool × Int) (x : Unit) => match s, x with | ⟨q_17, i_18⟩, _ => True) (fun (s : Bool × Int) (x : Unit) => match s, x with | ⟨q_17, i_18⟩, _ => [(0, [], (.pointer (some ⟨f0_b, 0, none⟩))), (1, [], (.slice t1_a t1.length t1_c)), (2, [], (.slice list2_a list2.length list2_c)), (6, [], (.pointer (some ⟨b_1, 0, none⟩))), (7, [], (.int .i64 0)), (8, [], (.pointer (some ⟨b_2, 0, none⟩))), (9, [], (.int .i64 i_4)), (10, [], (.slice (o_1080.map fun b => ⟨b, 0, none⟩) t_8.length cap_1081)), (11, [], (.bool q_17)), (12, [], (.int .i64 i_18))]) (fun (s : Bool × Int) (x : Unit) => match s, x with | ⟨q_17, i_18⟩, _ => [⟨some f0_b, 27, [(.int .i16 f0.fSteps), (.slice f0_fHammers_a f0.fHammers.length f0_fHammers_c)]⟩, ⟨(some b_1), 39, row encU32 ((Arr.rep 96 0).1) []⟩, ⟨(some b_2), 39, row encU32 a_3.1 []⟩, ⟨o_1080, 58, row encGChoice t_8 sp_1082⟩]) ht_1172 () trivial (by kernel_rfl) [0, 1, 2, 3] (by kernel_rfl) (by kernel_rfl) ?_
        rintro ⟨q_17, i_18⟩ _ y_1165 _ h
        rw [spec_l07Fit.l_19] at h
        refine jc_seq ?_
        refine jc_seq ?_
        refine jc_region ?_
        refine jo_f [(0, 0), (0, 0), (0, 0), (0, 0)] (by kernel_rfl) ?_
        refine jo_end (by kernel_rfl) ?_
        refine jx_then ?_
        refine jc_cond (decide (i_18 < (t_8.length : Int))) (by kernel_rfl) (fun hc_1167 => ?_) (fun hc_1167 => ?_)
        · replace h := ifT hc_1167 h
          refine jc_skip ?_
          refine jx_then ?_
          refine jc_seq ?_
          refine jc_block ?_
          refine jc_draw [⟨some f0_b, 27, [(.int .i16 f0.fSteps), (.slice f0_fHammers_a f0.fHammers.length f0_fHammers_c)]⟩, ⟨(some b_1), 39, row encU32 ((Arr.rep 96 0).1) []⟩, ⟨(some b_2), 39, row encU32 a_3.1 []⟩, ⟨o_1080, 58, row encGChoice t_8 sp_1082⟩] 13 (by kernel_rfl) (by kernel_rfl) ?_
          refine jd_f [⟨0, 0, 0⟩, ⟨1, 0, 0⟩, ⟨2, 0, 1⟩, ⟨3, 0, 1⟩, ⟨6, 0, 1⟩, ⟨7, 0, 1⟩] 7 (by kernel_rfl) (by kernel_rfl) (fun w h => h.pick [0, 1, 2, 3] (by kernel_rfl) (by kernel_rfl)) (by kernel_rfl) (by kernel_rfl) ?_
          refine jd_split 33 q_17 (by kernel_rfl) (fun hc_1168 => ?_) (fun hc_1168 => ?_)
          · replace h := ifT hc_1168 h
            refine jd_f [⟨4, 0, 3⟩, ⟨5, 0, 3⟩, ⟨8, 0, 3⟩, ⟨9, 0, 3⟩, ⟨10, 0, 3⟩, ⟨11, 0, 4⟩, ⟨12, 0, 0⟩] 0 (by kernel_rfl) (by kernel_rfl) (fun w h => h.pick [0, 1, 2, 3] (by kernel_rfl) (by kernel_rfl)) (by kernel_rfl) (by kernel_rfl) ?_
            refine jd_end (by kernel_rfl) ?_
            refine jx_inn ?_
            refine jx_then ?_
            refine jc_region ?_
            refine jo_f [(0, 0), (0, 0), (0, 0)] (by kernel_rfl) ?_
            refine jo_end (by kernel_rfl) ?_
            exact jx_back (true, (w64 (i_18 + 1))) () (Option.some.inj h).symm trivial [0, 1, 2, 3] (by kernel_rfl) (by kernel_rfl) (by kernel_rfl)
          · replace h := ifF hc_1168 h
            obtain ⟨x_21, hx_1169, h⟩ := bd h
            refine jd_v 4 2 (by kernel_rfl) (fun w h => h.pick [0, 1, 2, 3] (by kernel_rfl) (by kernel_rfl)) (by kernel_rfl) (by kernel_rfl) _ (fun w hm => idx_run (a := (o_1080.map fun b => ⟨b, 0, none⟩)) (len := t_8.length) (s := 4) (j := i_18) (by kernel_rfl) (ix_some hx_1169).1 (ltn hx_1169 rfl) (spo ho_1084 hx_1169)) ?_
            refine jd_v 5 2 (by kernel_rfl) (fun w h => h.pick [0, 1, 2, 3] (by kernel_rfl) (by kernel_rfl)) (by kernel_rfl) (by kernel_rfl) _ (fun w hm => ld_run (b := aB (o_1080.map fun b => ⟨b, 0, none⟩)) (off := (aO (o_1080.map fun b => ⟨b, 0, none⟩) + i_18.toNat * 4)) (s := 4) (agg := true) (vs := (encGChoice x_21)) (by kernel_rfl) (by kernel_rfl) (.inl rfl) ((hm.ownRow (hh := 3) (o := o_1080) (T := 58) (enc := encGChoice) (xs := t_8) (sp := sp_1082) (by kernel_rfl) (fun e => (ho_1084 e).1) encGChoice_len).at hx_1169)) ?_
            obtain ⟨x_22, hx_1170, h⟩ := bd h
            refine jd_v 8 2 (by kernel_rfl) (fun w h => h.pick [0, 1, 2, 3] (by kernel_rfl) (by kernel_rfl)) (by kernel_rfl) (by kernel_rfl) _ (fun w hm => idx_run (a := list2_a) (len := list2.length) (s := 4) (j := i_4) (by kernel_rfl) (ix_some hx_1170).1 (ltn hx_1170 rfl) (list2_h.sp hx_1170)) ?_
            refine jd_v 9 2 (by kernel_rfl) (fun w h => h.pick [0, 1, 2, 3] (by kernel_rfl) (by kernel_rfl)) (by kernel_rfl) (by kernel_rfl) _ (fun w hm => ld_run (b := aB list2_a) (off := (aO list2_a + i_4.toNat * 4)) (s := 4) (agg := true) (vs := (encGChoice x_22)) (by kernel_rfl) (by kernel_rfl) (.inl rfl) ((hm.exRowW list2_h list2_ha).at hx_1170)) ?_
            refine jd_f [⟨10, 0, 2⟩, ⟨11, 0, 5⟩, ⟨12, 0, 0⟩] 0 (by kernel_rfl) (by kernel_rfl) (fun w h => h.pick [0, 1, 2, 3] (by kernel_rfl) (by kernel_rfl)) (by kernel_rfl) (by kernel_rfl) ?_
            refine jd_end (by kernel_rfl) ?_
            refine jx_inn ?_
            refine jx_then ?_
            refine jc_region ?_
            refine jo_f [(0, 0), (0, 0), (0, 0)] (by kernel_rfl) ?_
            refine jo_end (by kernel_rfl) ?_
            exact jx_back (((x_21.fAway == x_22.fAway) && ((x_21.fLate == x_22.fLate) && ((x_21.fOctave == x_22.fOctave) && (x_21.fTrack == x_22.fTrack)))), (w64 (i_18 + 1))) () (Option.some.inj h).symm trivial [0, 1, 2, 3] (by kernel_rfl) (by kernel_rfl) (by kernel_rfl)
        · replace h := ifF hc_1167 h
          refine jc_exit ?_
          refine jx_thenx ?_
          refine jx_leave q_17 (Option.some.inj h).symm (fun e_1171 => ?_)
          subst e_1171
          refine jx_ine ?_
          exact jx_meet q_17 hr_1164 (by kernel_rfl) [0, 1, 2, 3] (by kernel_rfl) (by kernel_rfl)
      · rintro q_9 h
        replace h : spec_l07Fit.k_10 f0 t1 list2 a_3 i_4 q_9 = some y_1075 := h
        rw [spec_l07Fit.k_10] at h
        refine jx_then ?_
        refine jc_seq ?_
        refine jc_meet (fun (j : (Arr 96 Int) × Bool) => match j with | ⟨a_11, q_12⟩ => spec_l07Fit.k_13 i_4 a_11 q_12 = some y_1075) (fun (j : (Arr 96 Int) × Bool) => match j with | ⟨a_11, q_12⟩ => [(0, [], (.pointer (some ⟨f0_b, 0, none⟩))), (1, [], (.slice t1_a t1.length t1_c)), (2, [], (.slice list2_a list2.length list2_c)), (6, [], (.pointer (some ⟨b_1, 0, none⟩))), (7, [], (.int .i64 0)), (8, [], (.pointer (some ⟨b_2, 0, none⟩))), (9, [], (.int .i64 i_4)), (58, [], (.bool q_12))]) (fun (j : (Arr 96 Int) × Bool) => match j with | ⟨a_11, q_12⟩ => [⟨some f0_b, 27, [(.int .i16 f0.fSteps), (.slice f0_fHammers_a f0.fHammers.length f0_fHammers_c)]⟩, ⟨(some b_1), 39, row encU32 ((Arr.rep 96 0).1) []⟩, ⟨(some b_2), 39, row encU32 a_11.1 []⟩, ⟨o_1080, 58, row encGChoice t_8 sp_1082⟩]) ?_ ?_
        · refine jc_draw [⟨some f0_b, 27, [(.int .i16 f0.fSteps), (.slice f0_fHammers_a f0.fHammers.length f0_fHammers_c)]⟩, ⟨(some b_1), 39, row encU32 ((Arr.rep 96 0).1) []⟩, ⟨o_1080, 58, row encGChoice t_8 sp_1082⟩] 15 (by kernel_rfl) (by kernel_rfl) ?_
          refine jd_f [⟨0, 0, 0⟩, ⟨1, 0, 0⟩, ⟨2, 0, 0⟩, ⟨3, 0, 1⟩, ⟨4, 0, 1⟩, ⟨5, 0, 1⟩, ⟨8, 0, 1⟩, ⟨9, 0, 1⟩] 7 (by kernel_rfl) (by kernel_rfl) (fun w h => h.pick [0, 1, 3] (by kernel_rfl) (by kernel_rfl)) (by kernel_rfl) (by kernel_rfl) ?_
          refine jd_split 46 (!q_9) (by kernel_rfl) (fun hc_1151 => ?_) (fun hc_1151 => ?_)
          · replace h := ifT hc_1151 h
            refine jd_f [⟨6, 0, 3⟩, ⟨7, 0, 3⟩, ⟨10, 0, 3⟩, ⟨11, 0, 3⟩, ⟨12, 0, 3⟩, ⟨13, 0, 3⟩, ⟨14, 0, 4⟩] 0 (by kernel_rfl) (by kernel_rfl) (fun w h => h.pick [0, 1, 3] (by kernel_rfl) (by kernel_rfl)) (by kernel_rfl) (by kernel_rfl) ?_
            refine jd_end (by kernel_rfl) ?_
            exact jx_meet ⟨a_3, true⟩ h (by kernel_rfl) [0, 1, 2, 3] (by kernel_rfl) (by kernel_rfl)
          · replace h := ifF hc_1151 h
            obtain ⟨x_14, hx_1152, h⟩ := bd h
            refine jd_v 6 2 (by kernel_rfl) (fun w h => h.pick [0, 1, 3] (by kernel_rfl) (by kernel_rfl)) (by kernel_rfl) (by kernel_rfl) _ (fun w hm => idx_run (a := t1_a) (len := t1.length) (s := 2) (j := i_4) (by kernel_rfl) (ix_some hx_1152).1 (ltn hx_1152 rfl) (t1_h.sp hx_1152)) ?_
            refine jd_v 7 2 (by kernel_rfl) (fun w h => h.pick [0, 1, 3] (by kernel_rfl) (by kernel_rfl)) (by kernel_rfl) (by kernel_rfl) _ (fun w hm => ld_run (b := aB t1_a) (off := (aO t1_a + i_4.toNat * 2)) (s := 2) (agg := true) (vs := (encGNote x_14)) (by kernel_rfl) (by kernel_rfl) (.inl rfl) ((hm.exRowW t1_h t1_ha).at hx_1152)) ?_
            obtain ⟨x_15, hx_1153, h⟩ := bd h
            refine jd_v 10 2 (by kernel_rfl) (fun w h => h.pick [0, 1, 3] (by kernel_rfl) (by kernel_rfl)) (by kernel_rfl) (by kernel_rfl) _ (fun w hm => idx_run (a := list2_a) (len := list2.length) (s := 4) (j := i_4) (by kernel_rfl) (ix_some hx_1153).1 (ltn hx_1153 rfl) (list2_h.sp hx_1153)) ?_
            refine jd_v 11 2 (by kernel_rfl) (fun w h => h.pick [0, 1, 3] (by kernel_rfl) (by kernel_rfl)) (by kernel_rfl) (by kernel_rfl) _ (fun w hm => ld_run (b := aB list2_a) (off := (aO list2_a + i_4.toNat * 4)) (s := 4) (agg := true) (vs := (encGChoice x_15)) (by kernel_rfl) (by kernel_rfl) (.inl rfl) ((hm.exRowW list2_h list2_ha).at hx_1153)) ?_
            obtain ⟨t_16, ht_1154, h⟩ := bd h
            refine toD 12 (by kernel_rfl) (p_call 2 28 #[(.pointer (some ⟨f0_b, 0, none⟩)), (.pointer (some ⟨b_2, 0, none⟩)), (.agg #[(.int .i16 x_14.fAt), (.int .i8 x_14.fPitch)]), (.agg #[(.bool x_15.fAway), (.int .i8 x_15.fLate), (.int .i8 x_15.fOctave), (.int .i8 x_15.fTrack)])] (by kernel_rfl) (by kernel_rfl) (fun w hm => spec_l07Put.calls f0 a_3 x_14 x_15 w _ f0_fHammers_a f0.fHammers.length f0_fHammers_c (hm.exRowW f0_fHammers_h f0_fHammers_ha) rfl f0_b b_2 (hm.pass (N := [⟨some f0_b, 27, [(.int .i16 f0.fSteps), (.slice f0_fHammers_a f0.fHammers.length f0_fHammers_c)]⟩, ⟨(some b_2), 39, row encU32 a_3.1 []⟩]) [0, 2] (by kernel_rfl) (by kernel_rfl)) (hm.exApart (N := [⟨some f0_b, 27, [(.int .i16 f0.fSteps), (.slice f0_fHammers_a f0.fHammers.length f0_fHammers_c)]⟩, ⟨(some b_2), 39, row encU32 a_3.1 []⟩]) f0_fHammers_h f0_fHammers_ha [0, 2] (by kernel_rfl)) ht_1154) ?_)
            rintro w v w' hm ⟨rfl, hm'⟩
            refine ⟨_, hm.appW (ps := [(0, ⟨some f0_b, 27, [(.int .i16 f0.fSteps), (.slice f0_fHammers_a f0.fHammers.length f0_fHammers_c)]⟩), (2, ⟨(some b_2), 39, row encU32 t_16.2.1 []⟩)]) (N := []) hm' (by kernel_rfl) (by kernel_rfl), jkD (fun w h => h.pick [0, 1, 3] (by kernel_rfl) (by kernel_rfl)) ?_⟩
            clear hm hm'
            refine jd_f [⟨13, 0, 2⟩, ⟨14, 0, 5⟩] 0 (by kernel_rfl) (by kernel_rfl) (fun w h => h.pick [0, 1, 3] (by kernel_rfl) (by kernel_rfl)) (by kernel_rfl) (by kernel_rfl) ?_
            refine jd_end (by kernel_rfl) ?_
            exact jx_meet ⟨t_16.2, (!t_16.1)⟩ h (by kernel_rfl) [0, 1, 2, 3] (by kernel_rfl) (by kernel_rfl)
        · rintro ⟨a_11, q_12⟩ h
          replace h : spec_l07Fit.k_13 i_4 a_11 q_12 = some y_1075 := h
          rw [spec_l07Fit.k_13] at h
          refine jx_then ?_
          refine jc_cond q_12 (by kernel_rfl) (fun hc_1146 => ?_) (fun hc_1146 => ?_)
          · replace h := ifT hc_1146 h
            refine jc_seq ?_
            refine jc_region ?_
            refine jo_f [(0, 0), (0, 0)] (by kernel_rfl) ?_
            refine toO (by kernel_rfl) (p_sA 0 1 b_1 96 1 39 encU32 (Arr.rep 96 0) (Arr.rep 96 0) (by kernel_rfl) (by kernel_rfl) (by kernel_rfl) encU32_len encU32_cell (by kernel_rfl) (jkO ?_))
            refine jo_f [(0, 0)] (by kernel_rfl) ?_
            refine jo_end (by kernel_rfl) ?_
            refine jx_then ?_
            refine jc_ret ?_
            refine jx_inr ?_
            refine jx_thenr ?_
            refine jx_leaver (.inl ((Arr.rep 96 0), i_4)) (Option.some.inj h).symm (fun e_1147 => ?_)
            subst e_1147
            refine jx_inr ?_
            refine jx_thenr ?_
            refine jx_thenr ?_
            obtain rfl := Option.some.inj hr_1074
            exact jx_retV rfl (rq_arr (b := b_1) (T' := 39) (hh := 1) (mm := 1) encU32 (Arr.rep 96 0) (by kernel_rfl) (by kernel_rfl) encU32_len (by kernel_rfl) (rq_tmp (by kernel_rfl) rq_nil)) (fun w hm => ⟨rfl, hm.pick [0] (by kernel_rfl) (by kernel_rfl)⟩)
          · replace h := ifF hc_1146 h
            refine jc_skip ?_
            refine jx_inn ?_
            refine jx_then ?_
            refine jc_region ?_
            refine jo_f [(0, 0), (0, 0), (0, 0)] (by kernel_rfl) ?_
            refine jo_end (by kernel_rfl) ?_
            exact jx_back (a_11, (w64 (i_4 + 1))) () (Option.some.inj h).symm trivial [0, 1, 2] (by kernel_rfl) (by kernel_rfl) (by kernel_rfl)
    · replace h := ifF hc_1077 h
      refine jc_exit ?_
      refine jx_thenx ?_
      refine jx_leave (.inr a_3) (Option.some.inj h).symm (fun e_1173 => ?_)
      subst e_1173
      refine jx_ine ?_
      exact jx_meet a_3 hr_1074 (by kernel_rfl) [0, 1, 2] (by kernel_rfl) (by kernel_rfl)
  · rintro a_1 h
    replace h : spec_l07Fit.k_2 a_1 = some r := h
    rw [spec_l07Fit.k_2] at h
    refine jx_then ?_
    refine jc_seq ?_
    refine jc_region ?_
    refine toO (by kernel_rfl) (p_ldA 0 2 b_2 96 1 39 encU32 a_1 (by kernel_rfl) (by kernel_rfl) (by kernel_rfl) encU32_len (by kernel_rfl) (jkO ?_))
    refine toO (by kernel_rfl) (p_sA 0 1 b_1 96 1 39 encU32 (Arr.rep 96 0) a_1 (by kernel_rfl) (by kernel_rfl) (by kernel_rfl) encU32_len encU32_cell (by kernel_rfl) (jkO ?_))
    refine jo_f [(0, 0)] (by kernel_rfl) ?_
    refine jo_end (by kernel_rfl) ?_
    refine jx_then ?_
    refine jc_ret ?_
    obtain rfl := Option.some.inj h
    exact jx_retV rfl (rq_arr (b := b_1) (T' := 39) (hh := 1) (mm := 1) encU32 a_1 (by kernel_rfl) (by kernel_rfl) encU32_len (by kernel_rfl) (rq_tmp (by kernel_rfl) rq_nil)) (fun w hm => ⟨rfl, hm.pick [0] (by kernel_rfl) (by kernel_rfl)⟩)

/-! ### spec.l07Drum -/
noncomputable def spec_l07Drum (f0 : GFrame) (t1 : List GNote) (list2 : List GChoice) : Option ((Arr 96 Int) × Int) := (spec_l07Asked f0 t1 list2).bind fun t_1 => (if (t_1 != 0) = true then some ((Arr.rep 96 0), t_1) else (spec_l07Fit f0 t1 list2).bind fun t_2 => (if (decide (t_2.2 ≥ 0)) = true then some ((Arr.rep 96 0), 4) else some (t_2.1, 0)))
set_option maxRecDepth 100000 in
theorem spec_l07Drum.calls (f0 : GFrame) (t1 : List GNote) (list2 : List GChoice) (w : World) (r : (Arr 96 Int) × Int) (f0_fHammers_a : Option Addr) (f0_fHammers_an : Nat) (f0_fHammers_c : Nat) (f0_fHammers_h : Rw w f0_fHammers_a 2 encGHammer f0.fHammers) (f0_fHammers_hn : f0.fHammers.length = f0_fHammers_an) (t1_a : Option Addr) (t1_an : Nat) (t1_c : Nat) (t1_h : Rw w t1_a 2 encGNote t1) (t1_hn : t1.length = t1_an) (list2_a : Option Addr) (list2_an : Nat) (list2_c : Nat) (list2_h : Rw w list2_a 4 encGChoice list2) (list2_hn : list2.length = list2_an) (f0_b : Nat) (hm0 : Mem w (bs [some f0_b]) [⟨some f0_b, 27, [(.int .i16 f0.fSteps), (.slice f0_fHammers_a f0_fHammers_an f0_fHammers_c)]⟩] w) (f0_fHammers_ha : f0.fHammers ≠ [] → aB f0_fHammers_a ∉ bs [some f0_b]) (t1_ha : t1 ≠ [] → aB t1_a ∉ bs [some f0_b]) (list2_ha : list2 ≠ [] → aB list2_a ∉ bs [some f0_b]) (h : spec_l07Drum f0 t1 list2 = some r) :
    Calls Tryz.prog 36 #[(.pointer (some ⟨f0_b, 0, none⟩)), (.slice t1_a t1_an t1_c), (.slice list2_a list2_an list2_c)] w fun e w' => ∃ v, e = .returned v ∧ (v = .tuple #[(.agg (row encU32 r.1.1 []).toArray), (.int .i64 r.2)] ∧ Mem w (bs [some f0_b]) [⟨some f0_b, 27, [(.int .i16 f0.fSteps), (.slice f0_fHammers_a f0_fHammers_an f0_fHammers_c)]⟩] w') := by
  subst f0_fHammers_hn t1_hn list2_hn
  rw [spec_l07Drum] at h
  refine enter (args := [(.pointer (some ⟨f0_b, 0, none⟩)), (.slice t1_a t1.length t1_c), (.slice list2_a list2.length list2_c)]) Tryz.func36 rfl Tryz.ntmps36 (by kernel_rfl) (L := [⟨some f0_b, 27, [(.int .i16 f0.fSteps), (.slice f0_fHammers_a f0.fHammers.length f0_fHammers_c)]⟩]) (W := bs [some f0_b]) hm0 ?_
  refine jc_seq ?_
  refine jc_region ?_
  refine toO (by kernel_rfl) (p_a 0 [0] (by kernel_rfl) (fun b => by kernel_rfl) (fun b_1 => jkO ?_))
  refine jo_f [(0, 0)] (by kernel_rfl) ?_
  refine jo_end (by kernel_rfl) ?_
  refine jx_then ?_
  refine jc_seq ?_
  refine jc_seq ?_
  refine jc_region ?_
  refine jo_f [(0, 0), (0, 0), (0, 0)] (by kernel_rfl) ?_
  obtain ⟨t_1, ht_4, h⟩ := bd h
  refine toO (by kernel_rfl) (p_call 0 70 #[(.pointer (some ⟨f0_b, 0, none⟩)), (.slice t1_a t1.length t1_c), (.slice list2_a list2.length list2_c)] (by kernel_rfl) (by kernel_rfl) (fun w hm => spec_l07Asked.calls f0 t1 list2 w _ f0_fHammers_a f0.fHammers.length f0_fHammers_c (hm.exRowW f0_fHammers_h f0_fHammers_ha) rfl t1_a t1.length t1_c (hm.exRowW t1_h t1_ha) rfl list2_a list2.length list2_c (hm.exRowW list2_h list2_ha) rfl f0_b (hm.pass (N := [⟨some f0_b, 27, [(.int .i16 f0.fSteps), (.slice f0_fHammers_a f0.fHammers.length f0_fHammers_c)]⟩]) [0] (by kernel_rfl) (by kernel_rfl)) (hm.exApart (N := [⟨some f0_b, 27, [(.int .i16 f0.fSteps), (.slice f0_fHammers_a f0.fHammers.length f0_fHammers_c)]⟩]) f0_fHammers_h f0_fHammers_ha [0] (by kernel_rfl)) (hm.exApart (N := [⟨some f0_b, 27, [(.int .i16 f0.fSteps), (.slice f0_fHammers_a f0.fHammers.length f0_fHammers_c)]⟩]) t1_h t1_ha [0] (by kernel_rfl)) (hm.exApart (N := [⟨some f0_b, 27, [(.int .i16 f0.fSteps), (.slice f0_fHammers_a f0.fHammers.length f0_fHammers_c)]⟩]) list2_h list2_ha [0] (by kernel_rfl)) ht_4) ?_)
  rintro w v w' hm ⟨rfl, hm'⟩
  refine ⟨_, hm.appW (ps := [(0, ⟨some f0_b, 27, [(.int .i16 f0.fSteps), (.slice f0_fHammers_a f0.fHammers.length f0_fHammers_c)]⟩)]) (N := []) hm' (by kernel_rfl) (by kernel_rfl), jkO ?_⟩
  clear hm hm'
  refine jo_f [(0, 0)] (by kernel_rfl) ?_
  refine jo_end (by kernel_rfl) ?_
  refine jx_then ?_
  refine jc_seq ?_
  refine jc_region ?_
  refine jo_f [(0, 0), (0, 0)] (by kernel_rfl) ?_
  refine jo_end (by kernel_rfl) ?_
  refine jx_then ?_
  refine jc_cond (t_1 != 0) (by kernel_rfl) (fun hc_5 => ?_) (fun hc_5 => ?_)
  · replace h := ifT hc_5 h
    refine jc_seq ?_
    refine jc_region ?_
    refine jo_f [(0, 0), (0, 0)] (by kernel_rfl) ?_
    refine toO (by kernel_rfl) (p_sA 0 1 b_1 96 1 39 encU32 (Arr.rep 96 0) (Arr.rep 96 0) (by kernel_rfl) (by kernel_rfl) (by kernel_rfl) encU32_len encU32_cell (by kernel_rfl) (jkO ?_))
    refine jo_f [(0, 0)] (by kernel_rfl) ?_
    refine jo_end (by kernel_rfl) ?_
    refine jx_then ?_
    refine jc_ret ?_
    refine jx_thenr ?_
    obtain rfl := Option.some.inj h
    exact jx_retV rfl (rq_arr (b := b_1) (T' := 39) (hh := 1) (mm := 1) encU32 (Arr.rep 96 0) (by kernel_rfl) (by kernel_rfl) encU32_len (by kernel_rfl) (rq_tmp (by kernel_rfl) rq_nil)) (fun w hm => ⟨rfl, hm.pick [0] (by kernel_rfl) (by kernel_rfl)⟩)
  · replace h := ifF hc_5 h
    refine jc_skip ?_
    refine jx_then ?_
    refine jc_seq ?_
    refine jc_region ?_
    refine jo_f [(0, 0), (0, 0), (0, 0)] (by kernel_rfl) ?_
    obtain ⟨t_2, ht_6, h⟩ := bd h
    refine toO (by kernel_rfl) (p_call 0 71 #[(.pointer (some ⟨f0_b, 0, none⟩)), (.slice t1_a t1.length t1_c), (.slice list2_a list2.length list2_c)] (by kernel_rfl) (by kernel_rfl) (fun w hm => spec_l07Fit.calls f0 t1 list2 w _ f0_fHammers_a f0.fHammers.length f0_fHammers_c (hm.exRowW f0_fHammers_h f0_fHammers_ha) rfl t1_a t1.length t1_c (hm.exRowW t1_h t1_ha) rfl list2_a list2.length list2_c (hm.exRowW list2_h list2_ha) rfl f0_b (hm.pass (N := [⟨some f0_b, 27, [(.int .i16 f0.fSteps), (.slice f0_fHammers_a f0.fHammers.length f0_fHammers_c)]⟩]) [0] (by kernel_rfl) (by kernel_rfl)) (hm.exApart (N := [⟨some f0_b, 27, [(.int .i16 f0.fSteps), (.slice f0_fHammers_a f0.fHammers.length f0_fHammers_c)]⟩]) f0_fHammers_h f0_fHammers_ha [0] (by kernel_rfl)) (hm.exApart (N := [⟨some f0_b, 27, [(.int .i16 f0.fSteps), (.slice f0_fHammers_a f0.fHammers.length f0_fHammers_c)]⟩]) t1_h t1_ha [0] (by kernel_rfl)) (hm.exApart (N := [⟨some f0_b, 27, [(.int .i16 f0.fSteps), (.slice f0_fHammers_a f0.fHammers.length f0_fHammers_c)]⟩]) list2_h list2_ha [0] (by kernel_rfl)) ht_6) ?_)
    rintro w v w' hm ⟨rfl, hm'⟩
    refine ⟨_, hm.appW (ps := [(0, ⟨some f0_b, 27, [(.int .i16 f0.fSteps), (.slice f0_fHammers_a f0.fHammers.length f0_fHammers_c)]⟩)]) (N := []) hm' (by kernel_rfl) (by kernel_rfl), jkO ?_⟩
    clear hm hm'
    refine jo_f [(0, 0), (0, 0), (0, 0)] (by kernel_rfl) ?_
    refine toO (by kernel_rfl) (p_a 0 [0] (by kernel_rfl) (fun b => by kernel_rfl) (fun b_7 => jkO ?_))
    refine toO (by kernel_rfl) (p_sA 0 2 b_7 96 1 39 encU32 (Arr.rep 96 0) t_2.1 (by kernel_rfl) (by kernel_rfl) (by kernel_rfl) encU32_len encU32_cell (by kernel_rfl) (jkO ?_))
    refine jo_f [(0, 0)] (by kernel_rfl) ?_
    refine jo_end (by kernel_rfl) ?_
    refine jx_then ?_
    refine jc_seq ?_
    refine jc_seq ?_
    refine jc_region ?_
    refine jo_f [(0, 0), (0, 0)] (by kernel_rfl) ?_
    refine jo_end (by kernel_rfl) ?_
    refine jx_then ?_
    refine jc_cond (decide (t_2.2 ≥ 0)) (by kernel_rfl) (fun hc_9 => ?_) (fun hc_9 => ?_)
    · replace h := ifT hc_9 h
      refine jc_seq ?_
      refine jc_region ?_
      refine jo_f [(0, 0)] (by kernel_rfl) ?_
      refine toO (by kernel_rfl) (p_sA 0 1 b_1 96 1 39 encU32 (Arr.rep 96 0) (Arr.rep 96 0) (by kernel_rfl) (by kernel_rfl) (by kernel_rfl) encU32_len encU32_cell (by kernel_rfl) (jkO ?_))
      refine jo_f [(0, 0)] (by kernel_rfl) ?_
      refine jo_end (by kernel_rfl) ?_
      refine jx_then ?_
      refine jc_ret ?_
      refine jx_thenr ?_
      obtain rfl := Option.some.inj h
      exact jx_retV rfl (rq_arr (b := b_1) (T' := 39) (hh := 1) (mm := 1) encU32 (Arr.rep 96 0) (by kernel_rfl) (by kernel_rfl) encU32_len (by kernel_rfl) (rq_tmp (by kernel_rfl) rq_nil)) (fun w hm => ⟨rfl, hm.pick [0] (by kernel_rfl) (by kernel_rfl)⟩)
    · replace h := ifF hc_9 h
      refine jc_skip ?_
      refine jx_then ?_
      refine jc_seq ?_
      refine jc_region ?_
      refine toO (by kernel_rfl) (p_ldA 0 2 b_7 96 1 39 encU32 t_2.1 (by kernel_rfl) (by kernel_rfl) (by kernel_rfl) encU32_len (by kernel_rfl) (jkO ?_))
      refine toO (by kernel_rfl) (p_sA 0 1 b_1 96 1 39 encU32 (Arr.rep 96 0) t_2.1 (by kernel_rfl) (by kernel_rfl) (by kernel_rfl) encU32_len encU32_cell (by kernel_rfl) (jkO ?_))
      refine jo_f [(0, 0)] (by kernel_rfl) ?_
      refine jo_end (by kernel_rfl) ?_
      refine jx_then ?_
      refine jc_ret ?_
      obtain rfl := Option.some.inj h
      exact jx_retV rfl (rq_arr (b := b_1) (T' := 39) (hh := 1) (mm := 1) encU32 t_2.1 (by kernel_rfl) (by kernel_rfl) encU32_len (by kernel_rfl) (rq_tmp (by kernel_rfl) rq_nil)) (fun w hm => ⟨rfl, hm.pick [0] (by kernel_rfl) (by kernel_rfl)⟩)

/-! ### spec.DrumFor -/
noncomputable def spec_DrumFor (f0 : GFrame) (t1 : List GNote) (list2 : List GChoice) : Option ((Arr 96 Int) × Int) := (spec_l07Drum f0 t1 list2).bind fun t_1 => some (t_1.1, t_1.2)
set_option maxRecDepth 100000 in
theorem spec_DrumFor.calls (f0 : GFrame) (t1 : List GNote) (list2 : List GChoice) (w : World) (r : (Arr 96 Int) × Int) (f0_fHammers_a : Option Addr) (f0_fHammers_an : Nat) (f0_fHammers_c : Nat) (f0_fHammers_h : Rw w f0_fHammers_a 2 encGHammer f0.fHammers) (f0_fHammers_hn : f0.fHammers.length = f0_fHammers_an) (t1_a : Option Addr) (t1_an : Nat) (t1_c : Nat) (t1_h : Rw w t1_a 2 encGNote t1) (t1_hn : t1.length = t1_an) (list2_a : Option Addr) (list2_an : Nat) (list2_c : Nat) (list2_h : Rw w list2_a 4 encGChoice list2) (list2_hn : list2.length = list2_an) (h : spec_DrumFor f0 t1 list2 = some r) :
    Calls Tryz.prog 10 #[(.agg #[(.int .i16 f0.fSteps), (.slice f0_fHammers_a f0_fHammers_an f0_fHammers_c)]), (.slice t1_a t1_an t1_c), (.slice list2_a list2_an list2_c)] w fun e w' => ∃ v, e = .returned v ∧ (v = .tuple #[(.agg (row encU32 r.1.1 []).toArray), (.int .i64 r.2)] ∧ Mem w [] [] w') := by
  subst f0_fHammers_hn t1_hn list2_hn
  rw [spec_DrumFor] at h
  refine enter (args := [(.agg #[(.int .i16 f0.fSteps), (.slice f0_fHammers_a f0.fHammers.length f0_fHammers_c)]), (.slice t1_a t1.length t1_c), (.slice list2_a list2.length list2_c)]) Tryz.func10 rfl Tryz.ntmps10 (by kernel_rfl) (L := []) (W := []) (Mem.start w) ?_
  refine jc_seq ?_
  refine jc_region ?_
  refine toO (by kernel_rfl) (p_a 0 [0] (by kernel_rfl) (fun b => by kernel_rfl) (fun b_1 => jkO ?_))
  refine toO (by kernel_rfl) (p_a 0 [0] (by kernel_rfl) (fun b => by kernel_rfl) (fun b_2 => jkO ?_))
  refine jo_f [(0, 0)] (by kernel_rfl) ?_
  refine jo_end (by kernel_rfl) ?_
  refine jx_then ?_
  refine jc_seq ?_
  refine jc_region ?_
  refine jo_f [(0, 0), (0, 0)] (by kernel_rfl) ?_
  obtain ⟨t_1, ht_3, h⟩ := bd h
  refine toO (by kernel_rfl) (p_call 0 36 #[(.pointer (some ⟨b_1, 0, none⟩)), (.slice t1_a t1.length t1_c), (.slice list2_a list2.length list2_c)] (by kernel_rfl) (by kernel_rfl) (fun w hm => spec_l07Drum.calls f0 t1 list2 w _ f0_fHammers_a f0.fHammers.length f0_fHammers_c (hm.exRow f0_fHammers_h List.not_mem_nil) rfl t1_a t1.length t1_c (hm.exRow t1_h List.not_mem_nil) rfl list2_a list2.length list2_c (hm.exRow list2_h List.not_mem_nil) rfl b_1 (hm.pass (N := [⟨some b_1, 27, [(.int .i16 f0.fSteps), (.slice f0_fHammers_a f0.fHammers.length f0_fHammers_c)]⟩]) [0] (by kernel_rfl) (by kernel_rfl)) (hm.exApart (N := [⟨some b_1, 27, [(.int .i16 f0.fSteps), (.slice f0_fHammers_a f0.fHammers.length f0_fHammers_c)]⟩]) f0_fHammers_h (fun _ => List.not_mem_nil) [0] (by kernel_rfl)) (hm.exApart (N := [⟨some b_1, 27, [(.int .i16 f0.fSteps), (.slice f0_fHammers_a f0.fHammers.length f0_fHammers_c)]⟩]) t1_h (fun _ => List.not_mem_nil) [0] (by kernel_rfl)) (hm.exApart (N := [⟨some b_1, 27, [(.int .i16 f0.fSteps), (.slice f0_fHammers_a f0.fHammers.length f0_fHammers_c)]⟩]) list2_h (fun _ => List.not_mem_nil) [0] (by kernel_rfl)) ht_3) ?_)
  rintro w v w' hm ⟨rfl, hm'⟩
  refine ⟨_, hm.appW (ps := [(0, ⟨some b_1, 27, [(.int .i16 f0.fSteps), (.slice f0_fHammers_a f0.fHammers.length f0_fHammers_c)]⟩)]) (N := []) hm' (by kernel_rfl) (by kernel_rfl), jkO ?_⟩
  clear hm hm'
  refine jo_f [(0, 0), (0, 0)] (by kernel_rfl) ?_
  refine toO (by kernel_rfl) (p_sA 0 1 b_2 96 1 39 encU32 (Arr.rep 96 0) t_1.1 (by kernel_rfl) (by kernel_rfl) (by kernel_rfl) encU32_len encU32_cell (by kernel_rfl) (jkO ?_))
  refine jo_f [(0, 0)] (by kernel_rfl) ?_
  refine jo_end (by kernel_rfl) ?_
  refine jx_then ?_
  refine jc_ret ?_
  obtain rfl := Option.some.inj h
  exact jx_retV rfl (rq_arr (b := b_2) (T' := 39) (hh := 1) (mm := 1) encU32 t_1.1 (by kernel_rfl) (by kernel_rfl) encU32_len (by kernel_rfl) (rq_tmp (by kernel_rfl) rq_nil)) (fun w hm => ⟨rfl, hm.pick [] (by kernel_rfl) (by kernel_rfl)⟩)

/-! ### impl.CheckChoices -/
noncomputable def impl_CheckChoices (f0 : GFrame) (t1 : List GNote) (list2 : List GChoice) : Option (Bool × Int) := (impl_fitted f0 t1 list2).bind fun t_1 => (if (t_1.2.2 == 1) = true then some (false, t_1.2.2) else some ((t_1.2.2 == 0), 0))
set_option maxRecDepth 100000 in
theorem impl_CheckChoices.calls (f0 : GFrame) (t1 : List GNote) (list2 : List GChoice) (w : World) (r : Bool × Int) (f0_fHammers_a : Option Addr) (f0_fHammers_an : Nat) (f0_fHammers_c : Nat) (f0_fHammers_h : Rw w f0_fHammers_a 2 encGHammer f0.fHammers) (f0_fHammers_hn : f0.fHammers.length = f0_fHammers_an) (t1_a : Option Addr) (t1_an : Nat) (t1_c : Nat) (t1_h : Rw w t1_a 2 encGNote t1) (t1_hn : t1.length = t1_an) (list2_a : Option Addr) (list2_an : Nat) (list2_c : Nat) (list2_h : Rw w list2_a 4 encGChoice list2) (list2_hn : list2.length = list2_an) (h : impl_CheckChoices f0 t1 list2 = some r) :
    Calls Tryz.prog 11 #[(.agg #[(.int .i16 f0.fSteps), (.slice f0_fHammers_a f0_fHammers_an f0_fHammers_c)]), (.slice t1_a t1_an t1_c), (.slice list2_a list2_an list2_c)] w fun e w' => ∃ v, e = .returned v ∧ (v = .tuple #[(.bool r.1), (.int .i64 r.2)] ∧ Mem w [] [] w') := by
  subst f0_fHammers_hn t1_hn list2_hn
  rw [impl_CheckChoices] at h
  refine enter (args := [(.agg #[(.int .i16 f0.fSteps), (.slice f0_fHammers_a f0.fHammers.length f0_fHammers_c)]), (.slice t1_a t1.length t1_c), (.slice list2_a list2.length list2_c)]) Tryz.func11 rfl Tryz.ntmps11 (by kernel_rfl) (L := []) (W := []) (Mem.start w) ?_
  refine jc_seq ?_
  refine jc_region ?_
  refine toO (by kernel_rfl) (p_a 0 [0] (by kernel_rfl) (fun b => by kernel_rfl) (fun b_1 => jkO ?_))
  refine jo_f [(0, 0), (0, 0)] (by kernel_rfl) ?_
  refine jo_end (by kernel_rfl) ?_
  refine jx_then ?_
  refine jc_seq ?_
  refine jc_region ?_
  refine jo_f [(0, 0), (0, 0), (0, 0)] (by kernel_rfl) ?_
  obtain ⟨t_1, ht_2, h⟩ := bd h
  refine toO (by kernel_rfl) (p_call 0 35 #[(.agg #[(.int .i16 f0.fSteps), (.slice f0_fHammers_a f0.fHammers.length f0_fHammers_c)]), (.slice t1_a t1.length t1_c), (.slice list2_a list2.length list2_c)] (by kernel_rfl) (by kernel_rfl) (fun w hm => impl_fitted.calls f0 t1 list2 w _ f0_fHammers_a f0.fHammers.length f0_fHammers_c (hm.exRow f0_fHammers_h List.not_mem_nil) rfl t1_a t1.length t1_c (hm.exRow t1_h List.not_mem_nil) rfl list2_a list2.length list2_c (hm.exRow list2_h List.not_mem_nil) rfl ht_2) ?_)
  rintro w v w' hm ⟨rfl, hm'⟩
  refine ⟨_, hm.app hm', jkO ?_⟩
  clear hm hm'
  refine jo_f [(0, 0), (0, 0), (0, 0), (0, 0)] (by kernel_rfl) ?_
  refine toO (by kernel_rfl) (p_a 0 [0] (by kernel_rfl) (fun b => by kernel_rfl) (fun b_3 => jkO ?_))
  refine toO (by kernel_rfl) (p_sA 0 1 b_3 96 1 39 encU32 (Arr.rep 96 0) t_1.1 (by kernel_rfl) (by kernel_rfl) (by kernel_rfl) encU32_len encU32_cell (by kernel_rfl) (jkO ?_))
  refine jo_f [(0, 0), (0, 0)] (by kernel_rfl) ?_
  refine jo_end (by kernel_rfl) ?_
  refine jx_then ?_
  refine jc_seq ?_
  refine jc_seq ?_
  refine jc_region ?_
  refine jo_f [(0, 0), (0, 0)] (by kernel_rfl) ?_
  refine jo_end (by kernel_rfl) ?_
  refine jx_then ?_
  refine jc_cond (t_1.2.2 == 1) (by kernel_rfl) (fun hc_5 => ?_) (fun hc_5 => ?_)
  · replace h := ifT hc_5 h
    refine jc_seq ?_
    refine jc_region ?_
    refine jo_f [(0, 0), (0, 0), (0, 0)] (by kernel_rfl) ?_
    refine jo_end (by kernel_rfl) ?_
    refine jx_then ?_
    refine jc_ret ?_
    refine jx_thenr ?_
    obtain rfl := Option.some.inj h
    exact jx_ret [] (.tuple #[(.bool false), (.int .i64 t_1.2.2)]) [] rfl (by kernel_rfl) (by kernel_rfl) (fun w hm => ⟨rfl, hm.pick [] (by kernel_rfl) (by kernel_rfl)⟩)
  · replace h := ifF hc_5 h
    refine jc_skip ?_
    refine jx_then ?_
    refine jc_seq ?_
    refine jc_region ?_
    refine jo_f [(0, 0), (0, 0), (0, 0), (0, 0)] (by kernel_rfl) ?_
    refine jo_end (by kernel_rfl) ?_
    refine jx_then ?_
    refine jc_ret ?_
    obtain rfl := Option.some.inj h
    exact jx_ret [] (.tuple #[(.bool (t_1.2.2 == 0)), (.int .i64 0)]) [] rfl (by kernel_rfl) (by kernel_rfl) (fun w hm => ⟨rfl, hm.pick [] (by kernel_rfl) (by kernel_rfl)⟩)

/-! ### impl.FirstUnfit -/
noncomputable def impl_FirstUnfit (f0 : GFrame) (t1 : List GNote) (list2 : List GChoice) : Option (Int × Int) := (impl_fitted f0 t1 list2).bind fun t_1 => (if (t_1.2.2 == 0) = true then some (0, 6) else (if (t_1.2.2 == 4) = true then some (t_1.2.1, 0) else some (0, t_1.2.2)))
set_option maxRecDepth 100000 in
theorem impl_FirstUnfit.calls (f0 : GFrame) (t1 : List GNote) (list2 : List GChoice) (w : World) (r : Int × Int) (f0_fHammers_a : Option Addr) (f0_fHammers_an : Nat) (f0_fHammers_c : Nat) (f0_fHammers_h : Rw w f0_fHammers_a 2 encGHammer f0.fHammers) (f0_fHammers_hn : f0.fHammers.length = f0_fHammers_an) (t1_a : Option Addr) (t1_an : Nat) (t1_c : Nat) (t1_h : Rw w t1_a 2 encGNote t1) (t1_hn : t1.length = t1_an) (list2_a : Option Addr) (list2_an : Nat) (list2_c : Nat) (list2_h : Rw w list2_a 4 encGChoice list2) (list2_hn : list2.length = list2_an) (h : impl_FirstUnfit f0 t1 list2 = some r) :
    Calls Tryz.prog 12 #[(.agg #[(.int .i16 f0.fSteps), (.slice f0_fHammers_a f0_fHammers_an f0_fHammers_c)]), (.slice t1_a t1_an t1_c), (.slice list2_a list2_an list2_c)] w fun e w' => ∃ v, e = .returned v ∧ (v = .tuple #[(.int .i64 r.1), (.int .i64 r.2)] ∧ Mem w [] [] w') := by
  subst f0_fHammers_hn t1_hn list2_hn
  rw [impl_FirstUnfit] at h
  refine enter (args := [(.agg #[(.int .i16 f0.fSteps), (.slice f0_fHammers_a f0.fHammers.length f0_fHammers_c)]), (.slice t1_a t1.length t1_c), (.slice list2_a list2.length list2_c)]) Tryz.func12 rfl Tryz.ntmps12 (by kernel_rfl) (L := []) (W := []) (Mem.start w) ?_
  refine jc_seq ?_
  refine jc_region ?_
  refine toO (by kernel_rfl) (p_a 0 [0] (by kernel_rfl) (fun b => by kernel_rfl) (fun b_1 => jkO ?_))
  refine jo_f [(0, 0), (0, 0)] (by kernel_rfl) ?_
  refine jo_end (by kernel_rfl) ?_
  refine jx_then ?_
  refine jc_seq ?_
  refine jc_region ?_
  refine jo_f [(0, 0), (0, 0), (0, 0)] (by kernel_rfl) ?_
  obtain ⟨t_1, ht_2, h⟩ := bd h
  refine toO (by kernel_rfl) (p_call 0 35 #[(.agg #[(.int .i16 f0.fSteps), (.slice f0_fHammers_a f0.fHammers.length f0_fHammers_c)]), (.slice t1_a t1.length t1_c), (.slice list2_a list2.length list2_c)] (by kernel_rfl) (by kernel_rfl) (fun w hm => impl_fitted.calls f0 t1 list2 w _ f0_fHammers_a f0.fHammers.length f0_fHammers_c (hm.exRow f0_fHammers_h List.not_mem_nil) rfl t1_a t1.length t1_c (hm.exRow t1_h List.not_mem_nil) rfl list2_a list2.length list2_c (hm.exRow list2_h List.not_mem_nil) rfl ht_2) ?_)
  rintro w v w' hm ⟨rfl, hm'⟩
  refine ⟨_, hm.app hm', jkO ?_⟩
  clear hm hm'
  refine jo_f [(0, 0), (0, 0), (0, 0), (0, 0)] (by kernel_rfl) ?_
  refine toO (by kernel_rfl) (p_a 0 [0] (by kernel_rfl) (fun b => by kernel_rfl) (fun b_3 => jkO ?_))
  refine toO (by kernel_rfl) (p_sA 0 1 b_3 96 1 39 encU32 (Arr.rep 96 0) t_1.1 (by kernel_rfl) (by kernel_rfl) (by kernel_rfl) encU32_len encU32_cell (by kernel_rfl) (jkO ?_))
  refine jo_f [(0, 0), (0, 0)] (by kernel_rfl) ?_
  refine jo_end (by kernel_rfl) ?_
  refine jx_then ?_
  refine jc_seq ?_
  refine jc_seq ?_
  refine jc_region ?_
  refine jo_f [(0, 0)] (by kernel_rfl) ?_
  refine jo_end (by kernel_rfl) ?_
  refine jx_then ?_
  refine jc_block ?_
  refine jc_seq ?_
  refine jc_region ?_
  refine jo_f [(0, 0), (0, 0)] (by kernel_rfl) ?_
  refine jo_end (by kernel_rfl) ?_
  refine jx_then ?_
  refine jc_cond (t_1.2.2 == 0) (by kernel_rfl) (fun hc_10 => ?_) (fun hc_10 => ?_)
  · replace h := ifT hc_10 h
    refine jc_seq ?_
    refine jc_region ?_
    refine jo_f [(0, 0), (0, 0)] (by kernel_rfl) ?_
    refine jo_end (by kernel_rfl) ?_
    refine jx_then ?_
    refine jc_ret ?_
    refine jx_inr ?_
    refine jx_thenr ?_
    obtain rfl := Option.some.inj h
    exact jx_ret [] (.tuple #[(.int .i64 0), (.int .i64 6)]) [] rfl (by kernel_rfl) (by kernel_rfl) (fun w hm => ⟨rfl, hm.pick [] (by kernel_rfl) (by kernel_rfl)⟩)
  · replace h := ifF hc_10 h
    refine jc_seq ?_
    refine jc_region ?_
    refine jo_f [(0, 0), (0, 0)] (by kernel_rfl) ?_
    refine jo_end (by kernel_rfl) ?_
    refine jx_then ?_
    refine jc_cond (t_1.2.2 == 4) (by kernel_rfl) (fun hc_11 => ?_) (fun hc_11 => ?_)
    · replace h := ifT hc_11 h
      refine jc_seq ?_
      refine jc_region ?_
      refine jo_f [(0, 0), (0, 0), (0, 0)] (by kernel_rfl) ?_
      refine jo_end (by kernel_rfl) ?_
      refine jx_then ?_
      refine jc_ret ?_
      refine jx_inr ?_
      refine jx_thenr ?_
      obtain rfl := Option.some.inj h
      exact jx_ret [] (.tuple #[(.int .i64 t_1.2.1), (.int .i64 0)]) [] rfl (by kernel_rfl) (by kernel_rfl) (fun w hm => ⟨rfl, hm.pick [] (by kernel_rfl) (by kernel_rfl)⟩)
    · replace h := ifF hc_11 h
      refine jc_skip ?_
      refine jx_inn ?_
      refine jx_then ?_
      refine jc_seq ?_
      refine jc_region ?_
      refine jo_f [(0, 0), (0, 0), (0, 0)] (by kernel_rfl) ?_
      refine jo_end (by kernel_rfl) ?_
      refine jx_then ?_
      refine jc_ret ?_
      obtain rfl := Option.some.inj h
      exact jx_ret [] (.tuple #[(.int .i64 0), (.int .i64 t_1.2.2)]) [] rfl (by kernel_rfl) (by kernel_rfl) (fun w hm => ⟨rfl, hm.pick [] (by kernel_rfl) (by kernel_rfl)⟩)

/-! ### (impl.Frame).isDrum -/
noncomputable def impl_Frame_isDrum.k_1 : Option (Bool) := some true
noncomputable def impl_Frame_isDrum.k_7 (i_2 : Int) (q_6 : Bool) : Option ((Int) ⊕ (Bool ⊕ Unit)) := (if q_6 = true then some (.inr (.inl false)) else some (.inl (w64 (i_2 + 1))))
noncomputable def impl_Frame_isDrum.l_3 (f0 : GFrame) (d1 : Arr 96 Int) : Int → Option ((Int) ⊕ (Bool ⊕ Unit))
  | i_2 => (if (decide (i_2 < 96)) = true then (ix d1.1 i_2).bind fun x_5 => (if 0 ≤ (f0.fHammers.length : Int) then (if ((bShr .u32 x_5 (f0.fHammers.length : Int)) != 0) = true then impl_Frame_isDrum.k_7 i_2 true else impl_Frame_isDrum.k_7 i_2 ((decide (i_2 ≥ (w64 f0.fSteps))) && (x_5 != 0))) else none) else some (.inr (.inr ())))
noncomputable def impl_Frame_isDrum (f0 : GFrame) (d1 : Arr 96 Int) : Option (Bool) := (loop (impl_Frame_isDrum.l_3 f0 d1) 0).bind fun t_4 => match t_4 with | .inl p => some p | .inr p => impl_Frame_isDrum.k_1
set_option maxRecDepth 100000 in
theorem impl_Frame_isDrum.calls (f0 : GFrame) (d1 : Arr 96 Int) (w : World) (r : Bool) (f0_fHammers_a : Option Addr) (f0_fHammers_an : Nat) (f0_fHammers_c : Nat) (f0_fHammers_h : Rw w f0_fHammers_a 2 encGHammer f0.fHammers) (f0_fHammers_hn : f0.fHammers.length = f0_fHammers_an) (h : impl_Frame_isDrum f0 d1 = some r) :
    Calls Tryz.prog 80 #[(.agg #[(.int .i16 f0.fSteps), (.slice f0_fHammers_a f0_fHammers_an f0_fHammers_c)]), (.agg (row encU32 d1.1 []).toArray)] w fun e w' => ∃ v, e = .returned v ∧ (v = (.bool r) ∧ Mem w [] [] w') := by
  subst f0_fHammers_hn
  rw [impl_Frame_isDrum] at h
  refine enter (args := [(.agg #[(.int .i16 f0.fSteps), (.slice f0_fHammers_a f0.fHammers.length f0_fHammers_c)]), (.agg (row encU32 d1.1 []).toArray)]) Tryz.func80 rfl Tryz.ntmps80 (by kernel_rfl) (L := []) (W := []) (Mem.start w) ?_
  refine jc_seq ?_
  refine jc_region ?_
  refine toO (by kernel_rfl) (p_a 0 [0] (by kernel_rfl) (fun b => by kernel_rfl) (fun b_1 => jkO ?_))
  refine toO (by kernel_rfl) (p_a 0 [0] (by kernel_rfl) (fun b => by kernel_rfl) (fun b_2 => jkO ?_))
  refine jo_f [(0, 0)] (by kernel_rfl) ?_
  refine jo_end (by kernel_rfl) ?_
  refine jx_then ?_
  refine jc_seq ?_
  refine jc_seq ?_
  refine jc_region ?_
  refine toO (by kernel_rfl) (p_ldA 0 1 b_2 96 1 39 encU32 d1 (by kernel_rfl) (by kernel_rfl) (by kernel_rfl) encU32_len (by kernel_rfl) (jkO ?_))
  refine jo_f [(0, 0)] (by kernel_rfl) ?_
  refine jo_end (by kernel_rfl) ?_
  refine jx_then ?_
  refine jc_meet (fun (_ : Unit) => impl_Frame_isDrum.k_1 = some r) (fun (_ : Unit) => [(4, [], (.bool false))]) (fun (_ : Unit) => [⟨some b_1, 27, [(.int .i16 f0.fSteps), (.slice f0_fHammers_a f0.fHammers.length f0_fHammers_c)]⟩, ⟨(some b_2), 39, row encU32 d1.1 []⟩]) ?_ ?_
  · refine jc_block ?_
    obtain ⟨t_4, ht_60, hr_48⟩ := bd h
    refine jc_loop (fun (s : Int) (x : Unit) => match s, x with | i_2, _ => True) (fun (s : Int) (x : Unit) => match s, x with | i_2, _ => [(2, [], (.pointer (some ⟨b_1, 0, none⟩))), (4, [], (.bool false)), (7, [], (.agg (row encU32 d1.1 []).toArray)), (8, [], (.int .i64 i_2))]) (fun (s : Int) (x : Unit) => match s, x with | i_2, _ => [⟨some b_1, 27, [(.int .i16 f0.fSteps), (.slice f0_fHammers_a f0.fHammers.length f0_fHammers_c)]⟩, ⟨(some b_2), 39, row encU32 d1.1 []⟩]) ht_60 () trivial (by kernel_rfl) [0, 1] (by kernel_rfl) (by kernel_rfl) ?_
    rintro i_2 _ y_49 _ h
    rw [impl_Frame_isDrum.l_3] at h
    refine jc_seq ?_
    refine jc_region ?_
    refine jo_f [(0, 0)] (by kernel_rfl) ?_
    refine jo_end (by kernel_rfl) ?_
    refine jx_then ?_
    refine jc_seq ?_
    refine jc_cond (decide (i_2 < 96)) (by kernel_rfl) (fun hc_51 => ?_) (fun hc_51 => ?_)
    · replace h := ifT hc_51 h
      refine jc_skip ?_
      refine jx_then ?_
      refine jc_seq ?_
      refine jc_block ?_
      refine jc_seq ?_
      refine jc_region ?_
      refine jo_f [(0, 0)] (by kernel_rfl) ?_
      obtain ⟨x_5, hx_52, h⟩ := bd h
      refine toO (by kernel_rfl) (p_ixA 0 encU32 (fun x => (.int .u32 x)) d1 i_2 (by kernel_rfl) (by kernel_rfl) (fun _ => rfl) hx_52 (jkO ?_))
      refine jo_f [(0, 0), (0, 0)] (by kernel_rfl) ?_
      refine jo_end (by kernel_rfl) ?_
      refine jx_then ?_
      refine jc_seq ?_
      refine jc_meet (fun (j : Bool) => match j with | q_6 => impl_Frame_isDrum.k_7 i_2 q_6 = some y_49) (fun (j : Bool) => match j with | q_6 => [(2, [], (.pointer (some ⟨b_1, 0, none⟩))), (4, [], (.bool false)), (7, [], (.agg (row encU32 d1.1 []).toArray)), (8, [], (.int .i64 i_2)), (28, [], (.bool q_6))]) (fun (j : Bool) => match j with | q_6 => [⟨some b_1, 27, [(.int .i16 f0.fSteps), (.slice f0_fHammers_a f0.fHammers.length f0_fHammers_c)]⟩, ⟨(some b_2), 39, row encU32 d1.1 []⟩]) ?_ ?_
      · refine jc_region ?_
        refine jo_f [(0, 0), (0, 0), (0, 0), (0, 0)] (by kernel_rfl) ?_
        obtain ⟨hg_57, h⟩ := gd h
        refine toO (by kernel_rfl) (p_shr 0 .u32 x_5 .i64 (f0.fHammers.length : Int) (by kernel_rfl) (by kernel_rfl) hg_57 (jkO ?_))
        refine jo_f [(0, 0), (0, 0), (0, 1), (0, 1), (0, 1), (0, 1), (0, 1)] (by kernel_rfl) ?_
        refine jo_split 18 ((bShr .u32 x_5 (f0.fHammers.length : Int)) != 0) (by kernel_rfl) (fun hc_58 => ?_) (fun hc_58 => ?_)
        · replace h := ifT hc_58 h
          refine jo_f [(0, 3), (0, 3), (0, 3), (0, 3), (0, 4)] (by kernel_rfl) ?_
          refine jo_end (by kernel_rfl) ?_
          exact jx_meet true h (by kernel_rfl) [0, 1] (by kernel_rfl) (by kernel_rfl)
        · replace h := ifF hc_58 h
          refine jo_f [(0, 2), (0, 1), (0, 1), (0, 2), (0, 5)] (by kernel_rfl) ?_
          refine jo_end (by kernel_rfl) ?_
          exact jx_meet ((decide (i_2 ≥ (w64 f0.fSteps))) && (x_5 != 0)) h (by kernel_rfl) [0, 1] (by kernel_rfl) (by kernel_rfl)
      · rintro q_6 h
        replace h : impl_Frame_isDrum.k_7 i_2 q_6 = some y_49 := h
        rw [impl_Frame_isDrum.k_7] at h
        refine jx_then ?_
        refine jc_cond q_6 (by kernel_rfl) (fun hc_55 => ?_) (fun hc_55 => ?_)
        · replace h := ifT hc_55 h
          refine jc_seq ?_
          refine jc_region ?_
          refine jo_f [(0, 0)] (by kernel_rfl) ?_
          refine jo_end (by kernel_rfl) ?_
          refine jx_then ?_
          refine jc_ret ?_
          refine jx_inr ?_
          refine jx_thenr ?_
          refine jx_leaver (.inl false) (Option.some.inj h).symm (fun e_56 => ?_)
          subst e_56
          refine jx_inr ?_
          refine jx_thenr ?_
          refine jx_thenr ?_
          obtain rfl := Option.some.inj hr_48
          exact jx_ret [] (.bool false) [] rfl (by kernel_rfl) (by kernel_rfl) (fun w hm => ⟨rfl, hm.pick [] (by kernel_rfl) (by kernel_rfl)⟩)
        · replace h := ifF hc_55 h
          refine jc_skip ?_
          refine jx_inn ?_
          refine jx_then ?_
          refine jc_region ?_
          refine jo_f [(0, 0), (0, 0)] (by kernel_rfl) ?_
          refine jo_end (by kernel_rfl) ?_
          exact jx_back (w64 (i_2 + 1)) () (Option.some.inj h).symm trivial [0, 1] (by kernel_rfl) (by kernel_rfl) (by kernel_rfl)
    · replace h := ifF hc_51 h
      refine jc_exit ?_
      refine jx_thenx ?_
      refine jx_leave (.inr ()) (Option.some.inj h).symm (fun e_59 => ?_)
      subst e_59
      refine jx_ine ?_
      exact jx_meet () hr_48 (by kernel_rfl) [0, 1] (by kernel_rfl) (by kernel_rfl)
  · rintro _ h
    replace h : impl_Frame_isDrum.k_1 = some r := h
    rw [impl_Frame_isDrum.k_1] at h
    refine jx_then ?_
    refine jc_seq ?_
    refine jc_region ?_
    refine jo_f [(0, 0)] (by kernel_rfl) ?_
    refine jo_end (by kernel_rfl) ?_
    refine jx_then ?_
    refine jc_ret ?_
    obtain rfl := Option.some.inj h
    exact jx_ret [] (.bool true) [] rfl (by kernel_rfl) (by kernel_rfl) (fun w hm => ⟨rfl, hm.pick [] (by kernel_rfl) (by kernel_rfl)⟩)

/-! ### impl.drumCode$1 -/
noncomputable def impl_drumCode_1 (d0 : Arr 96 Int) (p1 : GFrame) : Option (Bool) := (impl_Frame_isDrum p1 d0).bind fun t_1 => some (!t_1)
set_option maxRecDepth 100000 in
theorem impl_drumCode_1.calls (d0 : Arr 96 Int) (p1 : GFrame) (w : World) (r : Bool) (p1_fHammers_a : Option Addr) (p1_fHammers_an : Nat) (p1_fHammers_c : Nat) (p1_fHammers_h : Rw w p1_fHammers_a 2 encGHammer p1.fHammers) (p1_fHammers_hn : p1.fHammers.length = p1_fHammers_an) (p1_b : Nat) (hm0 : Mem w (bs [some p1_b]) [⟨some p1_b, 27, [(.int .i16 p1.fSteps), (.slice p1_fHammers_a p1_fHammers_an p1_fHammers_c)]⟩] w) (p1_fHammers_ha : p1.fHammers ≠ [] → aB p1_fHammers_a ∉ bs [some p1_b]) (h : impl_drumCode_1 d0 p1 = some r) :
    Calls Tryz.prog 79 #[(.agg (row encU32 d0.1 []).toArray), (.pointer (some ⟨p1_b, 0, none⟩))] w fun e w' => ∃ v, e = .returned v ∧ (v = (.bool r) ∧ Mem w (bs [some p1_b]) [⟨some p1_b, 27, [(.int .i16 p1.fSteps), (.slice p1_fHammers_a p1_fHammers_an p1_fHammers_c)]⟩] w') := by
  subst p1_fHammers_hn
  rw [impl_drumCode_1] at h
  refine enter (args := [(.agg (row encU32 d0.1 []).toArray), (.pointer (some ⟨p1_b, 0, none⟩))]) Tryz.func79 rfl Tryz.ntmps79 (by kernel_rfl) (L := [⟨some p1_b, 27, [(.int .i16 p1.fSteps), (.slice p1_fHammers_a p1.fHammers.length p1_fHammers_c)]⟩]) (W := bs [some p1_b]) hm0 ?_
  refine jc_seq ?_
  refine jc_region ?_
  refine toO (by kernel_rfl) (p_a 0 [0] (by kernel_rfl) (fun b => by kernel_rfl) (fun b_1 => jkO ?_))
  refine jo_f [(0, 0)] (by kernel_rfl) ?_
  refine jo_end (by kernel_rfl) ?_
  refine jx_then ?_
  refine jc_seq ?_
  refine jc_region ?_
  refine jo_f [(0, 0)] (by kernel_rfl) ?_
  refine toO (by kernel_rfl) (p_ldA 0 1 b_1 96 1 39 encU32 d0 (by kernel_rfl) (by kernel_rfl) (by kernel_rfl) encU32_len (by kernel_rfl) (jkO ?_))
  obtain ⟨t_1, ht_2, h⟩ := bd h
  refine toO (by kernel_rfl) (p_call 0 80 #[(.agg #[(.int .i16 p1.fSteps), (.slice p1_fHammers_a p1.fHammers.length p1_fHammers_c)]), (.agg (row encU32 d0.1 []).toArray)] (by kernel_rfl) (by kernel_rfl) (fun w hm => impl_Frame_isDrum.calls p1 d0 w _ p1_fHammers_a p1.fHammers.length p1_fHammers_c (hm.exRowW p1_fHammers_h p1_fHammers_ha) rfl ht_2) ?_)
  rintro w v w' hm ⟨rfl, hm'⟩
  refine ⟨_, hm.app hm', jkO ?_⟩
  clear hm hm'
  refine jo_f [(0, 0), (0, 0)] (by kernel_rfl) ?_
  refine jo_end (by kernel_rfl) ?_
  refine jx_then ?_
  refine jc_ret ?_
  obtain rfl := Option.some.inj h
  exact jx_ret [] (.bool (!t_1)) [] rfl (by kernel_rfl) (by kernel_rfl) (fun w hm => ⟨rfl, hm.pick [0] (by kernel_rfl) (by kernel_rfl)⟩)

/-! ### slices.IndexFunc[[]impl.Drum,impl.Drum] -/
noncomputable def slices_IndexFunc_Drum_at_impl_drumCode_1.k_1 : Option (Int) := some (-1)
noncomputable def slices_IndexFunc_Drum_at_impl_drumCode_1.l_3 (s0 : List (Arr 96 Int)) (g1c0 : GFrame) : Int → Option ((Int) ⊕ (Int ⊕ Unit))
  | i_2 => (if (decide (i_2 < (s0.length : Int))) = true then (ix s0 i_2).bind fun x_5 => (impl_drumCode_1 x_5 g1c0).bind fun t_6 => (if t_6 = true then some (.inr (.inl i_2)) else some (.inl (w64 (i_2 + 1)))) else some (.inr (.inr ())))
noncomputable def slices_IndexFunc_Drum_at_impl_drumCode_1 (s0 : List (Arr 96 Int)) (g1c0 : GFrame) : Option (Int) := (loop (slices_IndexFunc_Drum_at_impl_drumCode_1.l_3 s0 g1c0) 0).bind fun t_4 => match t_4 with | .inl p => some p | .inr p => slices_IndexFunc_Drum_at_impl_drumCode_1.k_1
set_option maxRecDepth 100000 in
theorem slices_IndexFunc_Drum_at_impl_drumCode_1.calls (s0 : List (Arr 96 Int)) (g1c0 : GFrame) (w : World) (r : Int) (s0_a : Option Addr) (s0_an : Nat) (s0_c : Nat) (s0_h : Rw w s0_a 96 encA96U32 s0) (s0_hn : s0.length = s0_an) (g1c0_fHammers_a : Option Addr) (g1c0_fHammers_an : Nat) (g1c0_fHammers_c : Nat) (g1c0_fHammers_h : Rw w g1c0_fHammers_a 2 encGHammer g1c0.fHammers) (g1c0_fHammers_hn : g1c0.fHammers.length = g1c0_fHammers_an) (g1c0_b : Nat) (hm0 : Mem w (bs [some g1c0_b]) [⟨some g1c0_b, 27, [(.int .i16 g1c0.fSteps), (.slice g1c0_fHammers_a g1c0_fHammers_an g1c0_fHammers_c)]⟩] w) (s0_ha : s0 ≠ [] → aB s0_a ∉ bs [some g1c0_b]) (g1c0_fHammers_ha : g1c0.fHammers ≠ [] → aB g1c0_fHammers_a ∉ bs [some g1c0_b]) (h : slices_IndexFunc_Drum_at_impl_drumCode_1 s0 g1c0 = some r) :
    Calls Tryz.prog 112 #[(.slice s0_a s0_an s0_c), (.func (.func 79) #[] #[(.pointer (some ⟨g1c0_b, 0, none⟩))])] w fun e w' => ∃ v, e = .returned v ∧ (v = (.int .i64 r) ∧ Mem w (bs [some g1c0_b]) [⟨some g1c0_b, 27, [(.int .i16 g1c0.fSteps), (.slice g1c0_fHammers_a g1c0_fHammers_an g1c0_fHammers_c)]⟩] w') := by
  subst s0_hn g1c0_fHammers_hn
  rw [slices_IndexFunc_Drum_at_impl_drumCode_1] at h
  refine enter (args := [(.slice s0_a s0.length s0_c), (.func (.func 79) #[] #[(.pointer (some ⟨g1c0_b, 0, none⟩))])]) Tryz.func112 rfl Tryz.ntmps112 (by kernel_rfl) (L := [⟨some g1c0_b, 27, [(.int .i16 g1c0.fSteps), (.slice g1c0_fHammers_a g1c0.fHammers.length g1c0_fHammers_c)]⟩]) (W := bs [some g1c0_b]) hm0 ?_
  refine jc_seq ?_
  refine jc_region ?_
  refine jo_f [(0, 0)] (by kernel_rfl) ?_
  refine jo_end (by kernel_rfl) ?_
  refine jx_then ?_
  refine jc_seq ?_
  refine jc_seq ?_
  refine jc_region ?_
  refine jo_f [(0, 0), (0, 0), (0, 0)] (by kernel_rfl) ?_
  refine jo_end (by kernel_rfl) ?_
  refine jx_then ?_
  refine jc_meet (fun (_ : Unit) => slices_IndexFunc_Drum_at_impl_drumCode_1.k_1 = some r) (fun (_ : Unit) => [(4, [], (.int .i64 0))]) (fun (_ : Unit) => [⟨some g1c0_b, 27, [(.int .i16 g1c0.fSteps), (.slice g1c0_fHammers_a g1c0.fHammers.length g1c0_fHammers_c)]⟩]) ?_ ?_
  · refine jc_block ?_
    obtain ⟨t_4, ht_40, hr_31⟩ := bd h
    refine jc_loop (fun (s : Int) (x : Unit) => match s, x with | i_2, _ => True) (fun (s : Int) (x : Unit) => match s, x with | i_2, _ => [(0, [], (.slice s0_a s0.length s0_c)), (1, [], (.func (.func 79) #[] #[(.pointer (some ⟨g1c0_b, 0, none⟩))])), (4, [], (.int .i64 0)), (7, [], (.int .i64 (s0.length : Int))), (8, [], (.int .i64 i_2))]) (fun (s : Int) (x : Unit) => match s, x with | i_2, _ => [⟨some g1c0_b, 27, [(.int .i16 g1c0.fSteps), (.slice g1c0_fHammers_a g1c0.fHammers.length g1c0_fHammers_c)]⟩]) ht_40 () trivial (by kernel_rfl) [0] (by kernel_rfl) (by kernel_rfl) ?_
    rintro i_2 _ y_32 _ h
    rw [slices_IndexFunc_Drum_at_impl_drumCode_1.l_3] at h
    refine jc_seq ?_
    refine jc_region ?_
    refine jo_f [(0, 0)] (by kernel_rfl) ?_
    refine jo_end (by kernel_rfl) ?_
    refine jx_then ?_
    refine jc_seq ?_
    refine jc_cond (decide (i_2 < (s0.length : Int))) (by kernel_rfl) (fun hc_34 => ?_) (fun hc_34 => ?_)
    · replace h := ifT hc_34 h
      refine jc_skip ?_
      refine jx_then ?_
      refine jc_seq ?_
      refine jc_block ?_
      refine jc_seq ?_
      refine jc_region ?_
      refine jo_f [(0, 0), (0, 0)] (by kernel_rfl) ?_
      refine jo_end (by kernel_rfl) ?_
      refine jx_then ?_
      refine jc_seq ?_
      refine jc_region ?_
      refine jo_f [(0, 0), (0, 0), (0, 0)] (by kernel_rfl) ?_
      obtain ⟨x_5, hx_35, h⟩ := bd h
      refine toO (by kernel_rfl) (p_idx 0 s0_a s0.length i_2 96 (by kernel_rfl) (by kernel_rfl) (ix_some hx_35).1 (ltn hx_35 rfl) (s0_h.sp hx_35) (jkO ?_))
      refine toO (by kernel_rfl) (p_ldx 0 (aB s0_a) (aO s0_a + i_2.toNat * 96) (encA96U32 x_5) 96 (by kernel_rfl) (by kernel_rfl) (encA96U32_len x_5) (fun w hm => ((hm.exRowW s0_h s0_ha).at hx_35)) (jkO ?_))
      obtain ⟨t_6, ht_36, h⟩ := bd h
      refine toO (by kernel_rfl) (p_call 0 79 #[(.agg (row encU32 x_5.1 []).toArray), (.pointer (some ⟨g1c0_b, 0, none⟩))] (by kernel_rfl) (by kernel_rfl) (fun w hm => impl_drumCode_1.calls x_5 g1c0 w _ g1c0_fHammers_a g1c0.fHammers.length g1c0_fHammers_c (hm.exRowW g1c0_fHammers_h g1c0_fHammers_ha) rfl g1c0_b (hm.pass (N := [⟨some g1c0_b, 27, [(.int .i16 g1c0.fSteps), (.slice g1c0_fHammers_a g1c0.fHammers.length g1c0_fHammers_c)]⟩]) [0] (by kernel_rfl) (by kernel_rfl)) (hm.exApart (N := [⟨some g1c0_b, 27, [(.int .i16 g1c0.fSteps), (.slice g1c0_fHammers_a g1c0.fHammers.length g1c0_fHammers_c)]⟩]) g1c0_fHammers_h g1c0_fHammers_ha [0] (by kernel_rfl)) ht_36) ?_)
      rintro w v w' hm ⟨rfl, hm'⟩
      refine ⟨_, hm.appW (ps := [(0, ⟨some g1c0_b, 27, [(.int .i16 g1c0.fSteps), (.slice g1c0_fHammers_a g1c0.fHammers.length g1c0_fHammers_c)]⟩)]) (N := []) hm' (by kernel_rfl) (by kernel_rfl), jkO ?_⟩
      clear hm hm'
      refine jo_end (by kernel_rfl) ?_
      refine jx_then ?_
      refine jc_cond t_6 (by kernel_rfl) (fun hc_37 => ?_) (fun hc_37 => ?_)
      · replace h := ifT hc_37 h
        refine jc_seq ?_
        refine jc_region ?_
        refine jo_f [(0, 0), (0, 0)] (by kernel_rfl) ?_
        refine jo_end (by kernel_rfl) ?_
        refine jx_then ?_
        refine jc_ret ?_
        refine jx_inr ?_
        refine jx_thenr ?_
        refine jx_leaver (.inl i_2) (Option.some.inj h).symm (fun e_38 => ?_)
        subst e_38
        refine jx_inr ?_
        refine jx_thenr ?_
        refine jx_thenr ?_
        obtain rfl := Option.some.inj hr_31
        exact jx_ret [] (.int .i64 i_2) [] rfl (by kernel_rfl) (by kernel_rfl) (fun w hm => ⟨rfl, hm.pick [0] (by kernel_rfl) (by kernel_rfl)⟩)
      · replace h := ifF hc_37 h
        refine jc_skip ?_
        refine jx_inn ?_
        refine jx_then ?_
        refine jc_region ?_
        refine jo_f [(0, 0), (0, 0)] (by kernel_rfl) ?_
        refine jo_end (by kernel_rfl) ?_
        exact jx_back (w64 (i_2 + 1)) () (Option.some.inj h).symm trivial [0] (by kernel_rfl) (by kernel_rfl) (by kernel_rfl)
    · replace h := ifF hc_34 h
      refine jc_exit ?_
      refine jx_thenx ?_
      refine jx_leave (.inr ()) (Option.some.inj h).symm (fun e_39 => ?_)
      subst e_39
      refine jx_ine ?_
      exact jx_meet () hr_31 (by kernel_rfl) [0] (by kernel_rfl) (by kernel_rfl)
  · rintro _ h
    replace h : slices_IndexFunc_Drum_at_impl_drumCode_1.k_1 = some r := h
    rw [slices_IndexFunc_Drum_at_impl_drumCode_1.k_1] at h
    refine jx_then ?_
    refine jc_seq ?_
    refine jc_region ?_
    refine jo_f [(0, 0)] (by kernel_rfl) ?_
    refine jo_end (by kernel_rfl) ?_
    refine jx_then ?_
    refine jc_ret ?_
    obtain rfl := Option.some.inj h
    exact jx_ret [] (.int .i64 (-1)) [] rfl (by kernel_rfl) (by kernel_rfl) (fun w hm => ⟨rfl, hm.pick [0] (by kernel_rfl) (by kernel_rfl)⟩)

/-! ### slices.ContainsFunc[[]impl.Drum,impl.Drum] -/
noncomputable def slices_ContainsFunc_Drum_at_impl_drumCode_1 (s0 : List (Arr 96 Int)) (g1c0 : GFrame) : Option (Bool) := (slices_IndexFunc_Drum_at_impl_drumCode_1 s0 g1c0).bind fun t_1 => some (decide (t_1 ≥ 0))
set_option maxRecDepth 100000 in
theorem slices_ContainsFunc_Drum_at_impl_drumCode_1.calls (s0 : List (Arr 96 Int)) (g1c0 : GFrame) (w : World) (r : Bool) (s0_a : Option Addr) (s0_an : Nat) (s0_c : Nat) (s0_h : Rw w s0_a 96 encA96U32 s0) (s0_hn : s0.length = s0_an) (g1c0_fHammers_a : Option Addr) (g1c0_fHammers_an : Nat) (g1c0_fHammers_c : Nat) (g1c0_fHammers_h : Rw w g1c0_fHammers_a 2 encGHammer g1c0.fHammers) (g1c0_fHammers_hn : g1c0.fHammers.length = g1c0_fHammers_an) (g1c0_b : Nat) (hm0 : Mem w (bs [some g1c0_b]) [⟨some g1c0_b, 27, [(.int .i16 g1c0.fSteps), (.slice g1c0_fHammers_a g1c0_fHammers_an g1c0_fHammers_c)]⟩] w) (s0_ha : s0 ≠ [] → aB s0_a ∉ bs [some g1c0_b]) (g1c0_fHammers_ha : g1c0.fHammers ≠ [] → aB g1c0_fHammers_a ∉ bs [some g1c0_b]) (h : slices_ContainsFunc_Drum_at_impl_drumCode_1 s0 g1c0 = some r) :
    Calls Tryz.prog 78 #[(.slice s0_a s0_an s0_c), (.func (.func 79) #[] #[(.pointer (some ⟨g1c0_b, 0, none⟩))])] w fun e w' => ∃ v, e = .returned v ∧ (v = (.bool r) ∧ Mem w (bs [some g1c0_b]) [⟨some g1c0_b, 27, [(.int .i16 g1c0.fSteps), (.slice g1c0_fHammers_a g1c0_fHammers_an g1c0_fHammers_c)]⟩] w') := by
  subst s0_hn g1c0_fHammers_hn
  rw [slices_ContainsFunc_Drum_at_impl_drumCode_1] at h
  refine enter (args := [(.slice s0_a s0.length s0_c), (.func (.func 79) #[] #[(.pointer (some ⟨g1c0_b, 0, none⟩))])]) Tryz.func78 rfl Tryz.ntmps78 (by kernel_rfl) (L := [⟨some g1c0_b, 27, [(.int .i16 g1c0.fSteps), (.slice g1c0_fHammers_a g1c0.fHammers.length g1c0_fHammers_c)]⟩]) (W := bs [some g1c0_b]) hm0 ?_
  refine jc_seq ?_
  refine jc_region ?_
  refine jo_f [(0, 0)] (by kernel_rfl) ?_
  refine jo_end (by kernel_rfl) ?_
  refine jx_then ?_
  refine jc_seq ?_
  refine jc_region ?_
  refine jo_f [(0, 0), (0, 0)] (by kernel_rfl) ?_
  obtain ⟨t_1, ht_1, h⟩ := bd h
  refine toO (by kernel_rfl) (p_call 0 112 #[(.slice s0_a s0.length s0_c), (.func (.func 79) #[] #[(.pointer (some ⟨g1c0_b, 0, none⟩))])] (by kernel_rfl) (by kernel_rfl) (fun w hm => slices_IndexFunc_Drum_at_impl_drumCode_1.calls s0 g1c0 w _ s0_a s0.length s0_c (hm.exRowW s0_h s0_ha) rfl g1c0_fHammers_a g1c0.fHammers.length g1c0_fHammers_c (hm.exRowW g1c0_fHammers_h g1c0_fHammers_ha) rfl g1c0_b (hm.pass (N := [⟨some g1c0_b, 27, [(.int .i16 g1c0.fSteps), (.slice g1c0_fHammers_a g1c0.fHammers.length g1c0_fHammers_c)]⟩]) [0] (by kernel_rfl) (by kernel_rfl)) (hm.exApart (N := [⟨some g1c0_b, 27, [(.int .i16 g1c0.fSteps), (.slice g1c0_fHammers_a g1c0.fHammers.length g1c0_fHammers_c)]⟩]) s0_h s0_ha [0] (by kernel_rfl)) (hm.exApart (N := [⟨some g1c0_b, 27, [(.int .i16 g1c0.fSteps), (.slice g1c0_fHammers_a g1c0.fHammers.length g1c0_fHammers_c)]⟩]) g1c0_fHammers_h g1c0_fHammers_ha [0] (by kernel_rfl)) ht_1) ?_)
  rintro w v w' hm ⟨rfl, hm'⟩
  refine ⟨_, hm.appW (ps := [(0, ⟨some g1c0_b, 27, [(.int .i16 g1c0.fSteps), (.slice g1c0_fHammers_a g1c0.fHammers.length g1c0_fHammers_c)]⟩)]) (N := []) hm' (by kernel_rfl) (by kernel_rfl), jkO ?_⟩
  clear hm hm'
  refine jo_f [(0, 0), (0, 0)] (by kernel_rfl) ?_
  refine jo_end (by kernel_rfl) ?_
  refine jx_then ?_
  refine jc_ret ?_
  obtain rfl := Option.some.inj h
  exact jx_ret [] (.bool (decide (t_1 ≥ 0))) [] rfl (by kernel_rfl) (by kernel_rfl) (fun w hm => ⟨rfl, hm.pick [0] (by kernel_rfl) (by kernel_rfl)⟩)

/-! ### impl.drumCode -/
noncomputable def impl_drumCode (f0 : GFrame) (list1 : List (Arr 96 Int)) : Option (Int) := (impl_ValidFrame f0).bind fun t_1 => (if t_1 = true then (slices_ContainsFunc_Drum_at_impl_drumCode_1 list1 f0).bind fun t_2 => (impl_unless (!t_2) 1).bind fun t_3 => some t_3 else (impl_unless false 1).bind fun t_4 => some t_4)
set_option maxRecDepth 100000 in
theorem impl_drumCode.calls (f0 : GFrame) (list1 : List (Arr 96 Int)) (w : World) (r : Int) (f0_fHammers_a : Option Addr) (f0_fHammers_an : Nat) (f0_fHammers_c : Nat) (f0_fHammers_h : Rw w f0_fHammers_a 2 encGHammer f0.fHammers) (f0_fHammers_hn : f0.fHammers.length = f0_fHammers_an) (list1_a : Option Addr) (list1_an : Nat) (list1_c : Nat) (list1_h : Rw w list1_a 96 encA96U32 list1) (list1_hn : list1.length = list1_an) (h : impl_drumCode f0 list1 = some r) :
    Calls Tryz.prog 42 #[(.agg #[(.int .i16 f0.fSteps), (.slice f0_fHammers_a f0_fHammers_an f0_fHammers_c)]), (.slice list1_a list1_an list1_c)] w fun e w' => ∃ v, e = .returned v ∧ (v = (.int .i64 r) ∧ Mem w [] [] w') := by
  subst f0_fHammers_hn list1_hn
  rw [impl_drumCode] at h
  refine enter (args := [(.agg #[(.int .i16 f0.fSteps), (.slice f0_fHammers_a f0.fHammers.length f0_fHammers_c)]), (.slice list1_a list1.length list1_c)]) Tryz.func42 rfl Tryz.ntmps42 (by kernel_rfl) (L := []) (W := []) (Mem.start w) ?_
  refine jc_seq ?_
  refine jc_region ?_
  refine toO (by kernel_rfl) (p_a 0 [0] (by kernel_rfl) (fun b => by kernel_rfl) (fun b_1 => jkO ?_))
  refine jo_f [(0, 0)] (by kernel_rfl) ?_
  refine jo_end (by kernel_rfl) ?_
  refine jx_then ?_
  refine jc_seq ?_
  refine jc_region ?_
  refine jo_f [(0, 0)] (by kernel_rfl) ?_
  obtain ⟨t_1, ht_2, h⟩ := bd h
  refine toO (by kernel_rfl) (p_call 0 45 #[(.agg #[(.int .i16 f0.fSteps), (.slice f0_fHammers_a f0.fHammers.length f0_fHammers_c)])] (by kernel_rfl) (by kernel_rfl) (fun w hm => impl_ValidFrame.calls f0 w _ f0_fHammers_a f0.fHammers.length f0_fHammers_c (hm.exRow f0_fHammers_h List.not_mem_nil) rfl ht_2) ?_)
  rintro w v w' hm ⟨rfl, hm'⟩
  refine ⟨_, hm.app hm', jkO ?_⟩
  clear hm hm'
  refine jo_f [(0, 0), (0, 1), (0, 1)] (by kernel_rfl) ?_
  refine jo_split 7 t_1 (by kernel_rfl) (fun hc_3 => ?_) (fun hc_3 => ?_)
  · replace h := ifT hc_3 h
    obtain ⟨t_2, ht_4, h⟩ := bd h
    refine toO (by kernel_rfl) (p_call 2 78 #[(.slice list1_a list1.length list1_c), (.func (.func 79) #[] #[(.pointer (some ⟨b_1, 0, none⟩))])] (by kernel_rfl) (by kernel_rfl) (fun w hm => slices_ContainsFunc_Drum_at_impl_drumCode_1.calls list1 f0 w _ list1_a list1.length list1_c (hm.exRow list1_h List.not_mem_nil) rfl f0_fHammers_a f0.fHammers.length f0_fHammers_c (hm.exRow f0_fHammers_h List.not_mem_nil) rfl b_1 (hm.pass (N := [⟨some b_1, 27, [(.int .i16 f0.fSteps), (.slice f0_fHammers_a f0.fHammers.length f0_fHammers_c)]⟩]) [0] (by kernel_rfl) (by kernel_rfl)) (hm.exApart (N := [⟨some b_1, 27, [(.int .i16 f0.fSteps), (.slice f0_fHammers_a f0.fHammers.length f0_fHammers_c)]⟩]) list1_h (fun _ => List.not_mem_nil) [0] (by kernel_rfl)) (hm.exApart (N := [⟨some b_1, 27, [(.int .i16 f0.fSteps), (.slice f0_fHammers_a f0.fHammers.length f0_fHammers_c)]⟩]) f0_fHammers_h (fun _ => List.not_mem_nil) [0] (by kernel_rfl)) ht_4) ?_)
    rintro w v w' hm ⟨rfl, hm'⟩
    refine ⟨_, hm.appW (ps := [(0, ⟨some b_1, 27, [(.int .i16 f0.fSteps), (.slice f0_fHammers_a f0.fHammers.length f0_fHammers_c)]⟩)]) (N := []) hm' (by kernel_rfl) (by kernel_rfl), jkO ?_⟩
    clear hm hm'
    refine jo_f [(0, 2), (0, 4)] (by kernel_rfl) ?_
    obtain ⟨t_3, ht_5, h⟩ := bd h
    refine toO (by kernel_rfl) (p_call 0 60 #[(.bool (!t_2)), (.int .i64 1)] (by kernel_rfl) (by kernel_rfl) (fun w hm => impl_unless.calls (!t_2) 1 w _ ht_5) ?_)
    rintro w v w' hm ⟨rfl, hm'⟩
    refine ⟨_, hm.app hm', jkO ?_⟩
    clear hm hm'
    refine jo_f [(0, 0)] (by kernel_rfl) ?_
    refine jo_end (by kernel_rfl) ?_
    refine jx_then ?_
    refine jc_ret ?_
    obtain rfl := Option.some.inj h
    exact jx_ret [] (.int .i64 t_3) [] rfl (by kernel_rfl) (by kernel_rfl) (fun w hm => ⟨rfl, hm.pick [] (by kernel_rfl) (by kernel_rfl)⟩)
  · replace h := ifF hc_3 h
    refine jo_f [(0, 3), (0, 3), (0, 5)] (by kernel_rfl) ?_
    obtain ⟨t_4, ht_6, h⟩ := bd h
    refine toO (by kernel_rfl) (p_call 0 60 #[(.bool false), (.int .i64 1)] (by kernel_rfl) (by kernel_rfl) (fun w hm => impl_unless.calls false 1 w _ ht_6) ?_)
    rintro w v w' hm ⟨rfl, hm'⟩
    refine ⟨_, hm.app hm', jkO ?_⟩
    clear hm hm'
    refine jo_f [(0, 0)] (by kernel_rfl) ?_
    refine jo_end (by kernel_rfl) ?_
    refine jx_then ?_
    refine jc_ret ?_
    obtain rfl := Option.some.inj h
    exact jx_ret [] (.int .i64 t_4) [] rfl (by kernel_rfl) (by kernel_rfl) (fun w hm => ⟨rfl, hm.pick [] (by kernel_rfl) (by kernel_rfl)⟩)

/-! ### (impl.Frame).clashes -/
noncomputable def impl_Frame_clashes (f0 : GFrame) (d1 : Arr 96 Int) (step2 : Int) (track3 : Int) : Option (Bool) := (ix f0.fHammers track3).bind fun x_1 => (impl_Frame_behind f0 d1 step2 track3 1).bind fun t_2 => some (decide (t_2 < (w64 x_1.fReady)))
set_option maxRecDepth 100000 in
theorem impl_Frame_clashes.calls (f0 : GFrame) (d1 : Arr 96 Int) (step2 : Int) (track3 : Int) (w : World) (r : Bool) (f0_fHammers_a : Option Addr) (f0_fHammers_an : Nat) (f0_fHammers_c : Nat) (f0_fHammers_h : Rw w f0_fHammers_a 2 encGHammer f0.fHammers) (f0_fHammers_hn : f0.fHammers.length = f0_fHammers_an) (d1_b : Nat) (hm0 : Mem w (bs [some d1_b]) [⟨(some d1_b), 39, row encU32 d1.1 []⟩] w) (f0_fHammers_ha : f0.fHammers ≠ [] → aB f0_fHammers_a ∉ bs [some d1_b]) (h : impl_Frame_clashes f0 d1 step2 track3 = some r) :
    Calls Tryz.prog 106 #[(.agg #[(.int .i16 f0.fSteps), (.slice f0_fHammers_a f0_fHammers_an f0_fHammers_c)]), (.pointer (some ⟨d1_b, 0, none⟩)), (.int .i64 step2), (.int .i64 track3)] w fun e w' => ∃ v, e = .returned v ∧ (v = (.bool r) ∧ Mem w (bs [some d1_b]) [⟨(some d1_b), 39, row encU32 d1.1 []⟩] w') := by
  subst f0_fHammers_hn
  rw [impl_Frame_clashes] at h
  refine enter (args := [(.agg #[(.int .i16 f0.fSteps), (.slice f0_fHammers_a f0.fHammers.length f0_fHammers_c)]), (.pointer (some ⟨d1_b, 0, none⟩)), (.int .i64 step2), (.int .i64 track3)]) Tryz.func106 rfl Tryz.ntmps106 (by kernel_rfl) (L := [⟨(some d1_b), 39, row encU32 d1.1 []⟩]) (W := bs [some d1_b]) hm0 ?_
  refine jc_seq ?_
  refine jc_region ?_
  refine toO (by kernel_rfl) (p_a 0 [0] (by kernel_rfl) (fun b => by kernel_rfl) (fun b_1 => jkO ?_))
  refine jo_f [(0, 0)] (by kernel_rfl) ?_
  refine jo_end (by kernel_rfl) ?_
  refine jx_then ?_
  refine jc_seq ?_
  refine jc_draw [⟨(some d1_b), 39, row encU32 d1.1 []⟩, ⟨some b_1, 27, [(.int .i16 f0.fSteps), (.slice f0_fHammers_a f0.fHammers.length f0_fHammers_c)]⟩] 14 (by kernel_rfl) (by kernel_rfl) ?_
  refine jd_f [⟨0, 1, 0⟩, ⟨1, 0, 0⟩, ⟨2, 0, 0⟩, ⟨3, 0, 0⟩, ⟨5, 0, 0⟩, ⟨6, 1, 0⟩, ⟨7, 0, 0⟩] 7 (by kernel_rfl) (by kernel_rfl) (fun w h => h.pick [0, 1] (by kernel_rfl) (by kernel_rfl)) (by kernel_rfl) (by kernel_rfl) ?_
  obtain ⟨x_1, hx_2, h⟩ := bd h
  refine jd_v 8 0 (by kernel_rfl) (fun w h => h.pick [0, 1] (by kernel_rfl) (by kernel_rfl)) (by kernel_rfl) (by kernel_rfl) _ (fun w hm => idx_run (a := f0_fHammers_a) (len := f0.fHammers.length) (s := 2) (j := track3) (by kernel_rfl) (ix_some hx_2).1 (ltn hx_2 rfl) (f0_fHammers_h.sp hx_2)) ?_
  refine jd_f [⟨9, 0, 0⟩] 5 (by kernel_rfl) (by kernel_rfl) (fun w h => h.pick [0, 1] (by kernel_rfl) (by kernel_rfl)) (by kernel_rfl) (by kernel_rfl) ?_
  refine jd_v 10 0 (by kernel_rfl) (fun w h => h.pick [0, 1] (by kernel_rfl) (by kernel_rfl)) (by kernel_rfl) (by kernel_rfl) _ (fun w hm => ld_run (b := aB f0_fHammers_a) (off := (aO f0_fHammers_a + track3.toNat * 2 + 1)) (s := 1) (agg := false) (vs := (((encGHammer x_1).drop 1).take 1)) (by kernel_rfl) (by kernel_rfl) (.inr rfl) (((hm.exRowW f0_fHammers_h f0_fHammers_ha).at hx_2).sub 1 1)) ?_
  refine jd_f [⟨11, 0, 0⟩] 3 (by kernel_rfl) (by kernel_rfl) (fun w h => h.pick [0, 1] (by kernel_rfl) (by kernel_rfl)) (by kernel_rfl) (by kernel_rfl) ?_
  obtain ⟨t_2, ht_3, h⟩ := bd h
  refine toD 4 (by kernel_rfl) (p_call 0 138 #[(.agg #[(.int .i16 f0.fSteps), (.slice f0_fHammers_a f0.fHammers.length f0_fHammers_c)]), (.pointer (some ⟨d1_b, 0, none⟩)), (.int .i64 step2), (.int .i64 track3), (.int .i64 1)] (by kernel_rfl) (by kernel_rfl) (fun w hm => impl_Frame_behind.calls f0 d1 step2 track3 1 w _ f0_fHammers_a f0.fHammers.length f0_fHammers_c (hm.exRowW f0_fHammers_h f0_fHammers_ha) rfl d1_b (hm.pass (N := [⟨(some d1_b), 39, row encU32 d1.1 []⟩]) [0] (by kernel_rfl) (by kernel_rfl)) (hm.exApart (N := [⟨(some d1_b), 39, row encU32 d1.1 []⟩]) f0_fHammers_h f0_fHammers_ha [0] (by kernel_rfl)) ht_3) ?_)
  rintro w v w' hm ⟨rfl, hm'⟩
  refine ⟨_, hm.appW (ps := [(0, ⟨(some d1_b), 39, row encU32 d1.1 []⟩)]) (N := []) hm' (by kernel_rfl) (by kernel_rfl), jkD (fun w h => h.pick [0, 1] (by kernel_rfl) (by kernel_rfl)) ?_⟩
  clear hm hm'
  refine jd_f [⟨12, 0, 0⟩, ⟨13, 0, 0⟩] 0 (by kernel_rfl) (by kernel_rfl) (fun w h => h.pick [0, 1] (by kernel_rfl) (by kernel_rfl)) (by kernel_rfl) (by kernel_rfl) ?_
  refine jd_end (by kernel_rfl) ?_
  refine jx_then ?_
  refine jc_ret ?_
  obtain rfl := Option.some.inj h
  exact jx_ret [] (.bool (decide (t_2 < (w64 x_1.fReady)))) [] rfl (by kernel_rfl) (by kernel_rfl) (fun w hm => ⟨rfl, hm.pick [0] (by kernel_rfl) (by kernel_rfl)⟩)

/-! ### (impl.Frame).allClashes$1 -/
noncomputable def impl_Frame_allClashes_1 (step0 : Int) (track1 : Int) (p2 : GFrame) (p3 : Arr 96 Int) (p4 : List (Arr 2 Int)) : Option ((List (Arr 2 Int))) := (impl_Frame_clashes p2 p3 step0 track1).bind fun t_1 => (if t_1 = true then (if p4.length + [(Arr.set (Arr.set (Arr.rep 2 0) 0 step0) 1 track1)].length ≤ 4294967296 then some (p4 ++ [(Arr.set (Arr.set (Arr.rep 2 0) 0 step0) 1 track1)]) else none) else some p4)
set_option maxRecDepth 100000 in
theorem impl_Frame_allClashes_1.calls (step0 : Int) (track1 : Int) (p2 : GFrame) (p3 : Arr 96 Int) (p4 : List (Arr 2 Int)) (w : World) (r : (List (Arr 2 Int))) (p2_fHammers_a : Option Addr) (p2_fHammers_an : Nat) (p2_fHammers_c : Nat) (p2_fHammers_h : Rw w p2_fHammers_a 2 encGHammer p2.fHammers) (p2_fHammers_hn : p2.fHammers.length = p2_fHammers_an) (p2_b : Nat) (p3_b : Nat) (p4_b : Nat) (p4_o : Option Nat) (p4_on : Nat) (p4_c : Nat) (p4_sp : List Value) (p4_hn : p4.length = p4_on) (p4_hs : p4_o ≠ none → p4_on ≤ p4_c ∧ p4_sp.length = (p4_c - p4_on) * 2) (p4_ho : p4_o = none → p4 = [] ∧ p4_c = 0) (hm0 : Mem w (bs [some p2_b, some p3_b, some p4_b, p4_o]) [⟨some p2_b, 27, [(.int .i16 p2.fSteps), (.slice p2_fHammers_a p2_fHammers_an p2_fHammers_c)]⟩, ⟨(some p3_b), 39, row encU32 p3.1 []⟩, ⟨some p4_b, 82, [(.slice (p4_o.map fun b => ⟨b, 0, none⟩) p4_on p4_c)]⟩, ⟨p4_o, 155, row encA2I64 p4 p4_sp⟩] w) (p2_fHammers_ha : p2.fHammers ≠ [] → aB p2_fHammers_a ∉ bs [some p2_b, some p3_b, some p4_b, p4_o]) (h : impl_Frame_allClashes_1 step0 track1 p2 p3 p4 = some r) :
    Calls Tryz.prog 105 #[(.int .i64 step0), (.int .i64 track1), (.pointer (some ⟨p2_b, 0, none⟩)), (.pointer (some ⟨p3_b, 0, none⟩)), (.pointer (some ⟨p4_b, 0, none⟩))] w fun e w' => ∃ v, e = .returned v ∧ (∃ (mo0 : Option Nat) (mc0 : Nat) (ms0 : List Value) (mn0 : Nat), r.length = mn0 ∧ (mo0 ≠ none → mn0 ≤ mc0 ∧ ms0.length = (mc0 - mn0) * 2) ∧ (mo0 = none → r = [] ∧ mc0 = 0) ∧ v = .tuple #[] ∧ Mem w (bs [some p2_b, some p3_b, some p4_b, p4_o]) [⟨some p2_b, 27, [(.int .i16 p2.fSteps), (.slice p2_fHammers_a p2_fHammers_an p2_fHammers_c)]⟩, ⟨(some p3_b), 39, row encU32 p3.1 []⟩, ⟨some p4_b, 82, [(.slice (mo0.map fun b => ⟨b, 0, none⟩) mn0 mc0)]⟩, ⟨mo0, 155, row encA2I64 r ms0⟩] w') := by
  subst p2_fHammers_hn p4_hn
  rw [impl_Frame_allClashes_1] at h
  refine enter (args := [(.int .i64 step0), (.int .i64 track1), (.pointer (some ⟨p2_b, 0, none⟩)), (.pointer (some ⟨p3_b, 0, none⟩)), (.pointer (some ⟨p4_b, 0, none⟩))]) Tryz.func105 rfl Tryz.ntmps105 (by kernel_rfl) (L := [⟨some p2_b, 27, [(.int .i16 p2.fSteps), (.slice p2_fHammers_a p2.fHammers.length p2_fHammers_c)]⟩, ⟨(some p3_b), 39, row encU32 p3.1 []⟩, ⟨some p4_b, 82, [(.slice (p4_o.map fun b => ⟨b, 0, none⟩) p4.length p4_c)]⟩, ⟨p4_o, 155, row encA2I64 p4 p4_sp⟩]) (W := bs [some p2_b, some p3_b, some p4_b, p4_o]) hm0 ?_
  refine jc_seq ?_
  refine jc_region ?_
  refine jo_f [(0, 0), (0, 0), (0, 0)] (by kernel_rfl) ?_
  obtain ⟨t_1, ht_1, h⟩ := bd h
  refine toO (by kernel_rfl) (p_call 0 106 #[(.agg #[(.int .i16 p2.fSteps), (.slice p2_fHammers_a p2.fHammers.length p2_fHammers_c)]), (.pointer (some ⟨p3_b, 0, none⟩)), (.int .i64 step0), (.int .i64 track1)] (by kernel_rfl) (by kernel_rfl) (fun w hm => impl_Frame_clashes.calls p2 p3 step0 track1 w _ p2_fHammers_a p2.fHammers.length p2_fHammers_c (hm.exRowW p2_fHammers_h p2_fHammers_ha) rfl p3_b (hm.pass (N := [⟨(some p3_b), 39, row encU32 p3.1 []⟩]) [1] (by kernel_rfl) (by kernel_rfl)) (hm.exApart (N := [⟨(some p3_b), 39, row encU32 p3.1 []⟩]) p2_fHammers_h p2_fHammers_ha [1] (by kernel_rfl)) ht_1) ?_)
  rintro w v w' hm ⟨rfl, hm'⟩
  refine ⟨_, hm.appW (ps := [(1, ⟨(some p3_b), 39, row encU32 p3.1 []⟩)]) (N := []) hm' (by kernel_rfl) (by kernel_rfl), jkO ?_⟩
  clear hm hm'
  refine jo_end (by kernel_rfl) ?_
  refine jx_then ?_
  refine jc_cond t_1 (by kernel_rfl) (fun hc_2 => ?_) (fun hc_2 => ?_)
  · replace h := ifT hc_2 h
    refine jc_region ?_
    refine jo_f [(2, 0), (0, 0), (0, 0), (0, 0)] (by kernel_rfl) ?_
    refine toO (by kernel_rfl) (p_bs 0 155 2 1 encA2I64 [(.agg (row encI64 (Arr.set (Arr.set (Arr.rep 2 0) 0 step0) 1 track1).1 []).toArray)] [(Arr.set (Arr.set (Arr.rep 2 0) 0 step0) 1 track1)] (by kernel_rfl) (by kernel_rfl) rfl (by kernel_rfl) (by kernel_rfl) encA2I64_len (fun b_3 => jkO ?_))
    obtain ⟨hg_4, h⟩ := gd h
    refine toO (by kernel_rfl) (p_apn 0 3 p4_o 155 p4.length 1 p4_c 2 16 (some ⟨b_3, 0, none⟩) encA2I64 p4 [(Arr.set (Arr.set (Arr.rep 2 0) 0 step0) 1 track1)] p4_sp (.agg (row encI64 (Arr.rep 2 0).1 []).toArray) rfl rfl (by kernel_rfl) (by kernel_rfl) (by kernel_rfl) encA2I64_len encA2I64_cell p4_hs p4_ho (fun w hm => (hm.ownRow (hh := 4) (o := (some b_3)) (T := 155) (enc := encA2I64) (xs := [(Arr.set (Arr.set (Arr.rep 2 0) 0 step0) 1 track1)]) (sp := []) (by kernel_rfl) (fun e => nomatch e) encA2I64_len)) hg_4 (by kernel_rfl) (by kernel_rfl) (fun o_5 cap_6 sp_7 hs_8 ho_9 => jkO ?_))
    refine toO (by kernel_rfl) (p_s 0 [2] (by kernel_rfl) (by kernel_rfl) (jkO ?_))
    refine jo_end (by kernel_rfl) ?_
    refine jx_fall ?_
    obtain rfl := Option.some.inj h
    exact jx_ret [] (.tuple #[]) [] rfl (by kernel_rfl) (by kernel_rfl) (fun w hm => ⟨o_5, cap_6, sp_7, ((p4 ++ [(Arr.set (Arr.set (Arr.rep 2 0) 0 step0) 1 track1)]).length), rfl, hs_8, ho_9, rfl, hm.pick [0, 1, 2, 3] (by kernel_rfl) (by kernel_rfl)⟩)
  · replace h := ifF hc_2 h
    refine jc_skip ?_
    refine jx_fall ?_
    obtain rfl := Option.some.inj h
    exact jx_ret [] (.tuple #[]) [] rfl (by kernel_rfl) (by kernel_rfl) (fun w hm => ⟨p4_o, p4_c, p4_sp, p4.length, rfl, p4_hs, p4_ho, rfl, hm.pick [0, 1, 2, 3] (by kernel_rfl) (by kernel_rfl)⟩)

/-! ### (impl.Frame).pins -/
noncomputable def impl_Frame_pins_at_impl_Frame_allClashes_1.k_2 (xs_1 : List (Arr 2 Int)) : Option ((List (Arr 2 Int))) := some xs_1
noncomputable def impl_Frame_pins_at_impl_Frame_allClashes_1.k_9 (i_4 : Int) (xs_8 : List (Arr 2 Int)) : Option (((List (Arr 2 Int)) × Int) ⊕ ((List (Arr 2 Int)))) := some (.inl (xs_8, (w64 (i_4 + 1))))
noncomputable def impl_Frame_pins_at_impl_Frame_allClashes_1.l_12 (d1 : Arr 96 Int) (g2c0 : GFrame) (g2c1 : Arr 96 Int) (i_4 : Int) (t_7 : Int) : ((List (Arr 2 Int)) × Int) → Option (((List (Arr 2 Int)) × Int) ⊕ ((List (Arr 2 Int))))
  | (xs_10, i_11) => (if (decide (i_11 < t_7)) = true then (impl_Drum_has d1 i_4 i_11).bind fun t_14 => (if t_14 = true then (impl_Frame_allClashes_1 i_4 i_11 g2c0 g2c1 xs_10).bind fun t_15 => some (.inl (t_15, (w64 (i_11 + 1)))) else some (.inl (xs_10, (w64 (i_11 + 1))))) else some (.inr xs_10))
noncomputable def impl_Frame_pins_at_impl_Frame_allClashes_1.l_5 (f0 : GFrame) (d1 : Arr 96 Int) (g2c0 : GFrame) (g2c1 : Arr 96 Int) : ((List (Arr 2 Int)) × Int) → Option (((List (Arr 2 Int)) × Int) ⊕ ((List (Arr 2 Int))))
  | (xs_3, i_4) => (if (decide (i_4 < (w64 f0.fSteps))) = true then (impl_size_Hammer f0.fHammers).bind fun t_7 => (loop (impl_Frame_pins_at_impl_Frame_allClashes_1.l_12 d1 g2c0 g2c1 i_4 t_7) (xs_3, 0)).bind fun t_13 => impl_Frame_pins_at_impl_Frame_allClashes_1.k_9 i_4 t_13 else some (.inr xs_3))
noncomputable def impl_Frame_pins_at_impl_Frame_allClashes_1 (f0 : GFrame) (d1 : Arr 96 Int) (g2c0 : GFrame) (g2c1 : Arr 96 Int) (g2c2 : List (Arr 2 Int)) : Option ((List (Arr 2 Int))) := (loop (impl_Frame_pins_at_impl_Frame_allClashes_1.l_5 f0 d1 g2c0 g2c1) (g2c2, 0)).bind fun t_6 => impl_Frame_pins_at_impl_Frame_allClashes_1.k_2 t_6
set_option maxRecDepth 100000 in
theorem impl_Frame_pins_at_impl_Frame_allClashes_1.calls (f0 : GFrame) (d1 : Arr 96 Int) (g2c0 : GFrame) (g2c1 : Arr 96 Int) (g2c2 : List (Arr 2 Int)) (w : World) (r : (List (Arr 2 Int))) (f0_fHammers_a : Option Addr) (f0_fHammers_an : Nat) (f0_fHammers_c : Nat) (f0_fHammers_h : Rw w f0_fHammers_a 2 encGHammer f0.fHammers) (f0_fHammers_hn : f0.fHammers.length = f0_fHammers_an) (g2c0_fHammers_a : Option Addr) (g2c0_fHammers_an : Nat) (g2c0_fHammers_c : Nat) (g2c0_fHammers_h : Rw w g2c0_fHammers_a 2 encGHammer g2c0.fHammers) (g2c0_fHammers_hn : g2c0.fHammers.length = g2c0_fHammers_an) (g2c0_b : Nat) (g2c1_b : Nat) (g2c2_b : Nat) (g2c2_o : Option Nat) (g2c2_on : Nat) (g2c2_c : Nat) (g2c2_sp : List Value) (g2c2_hn : g2c2.length = g2c2_on) (g2c2_hs : g2c2_o ≠ none → g2c2_on ≤ g2c2_c ∧ g2c2_sp.length = (g2c2_c - g2c2_on) * 2) (g2c2_ho : g2c2_o = none → g2c2 = [] ∧ g2c2_c = 0) (hm0 : Mem w (bs [some g2c0_b, some g2c1_b, some g2c2_b, g2c2_o]) [⟨some g2c0_b, 27, [(.int .i16 g2c0.fSteps), (.slice g2c0_fHammers_a g2c0_fHammers_an g2c0_fHammers_c)]⟩, ⟨(some g2c1_b), 39, row encU32 g2c1.1 []⟩, ⟨some g2c2_b, 82, [(.slice (g2c2_o.map fun b => ⟨b, 0, none⟩) g2c2_on g2c2_c)]⟩, ⟨g2c2_o, 155, row encA2I64 g2c2 g2c2_sp⟩] w) (f0_fHammers_ha : f0.fHammers ≠ [] → aB f0_fHammers_a ∉ bs [some g2c0_b, some g2c1_b, some g2c2_b, g2c2_o]) (g2c0_fHammers_ha : g2c0.fHammers ≠ [] → aB g2c0_fHammers_a ∉ bs [some g2c0_b, some g2c1_b, some g2c2_b, g2c2_o]) (h : impl_Frame_pins_at_impl_Frame_allClashes_1 f0 d1 g2c0 g2c1 g2c2 = some r) :
    Calls Tryz.prog 73 #[(.agg #[(.int .i16 f0.fSteps), (.slice f0_fHammers_a f0_fHammers_an f0_fHammers_c)]), (.agg (row encU32 d1.1 []).toArray), (.func (.func 105) #[] #[(.pointer (some ⟨g2c0_b, 0, none⟩)), (.pointer (some ⟨g2c1_b, 0, none⟩)), (.pointer (some ⟨g2c2_b, 0, none⟩))])] w fun e w' => ∃ v, e = .returned v ∧ (∃ (mo0 : Option Nat) (mc0 : Nat) (ms0 : List Value) (mn0 : Nat), r.length = mn0 ∧ (mo0 ≠ none → mn0 ≤ mc0 ∧ ms0.length = (mc0 - mn0) * 2) ∧ (mo0 = none → r = [] ∧ mc0 = 0) ∧ v = .tuple #[] ∧ Mem w (bs [some g2c0_b, some g2c1_b, some g2c2_b, g2c2_o]) [⟨some g2c0_b, 27, [(.int .i16 g2c0.fSteps), (.slice g2c0_fHammers_a g2c0_fHammers_an g2c0_fHammers_c)]⟩, ⟨(some g2c1_b), 39, row encU32 g2c1.1 []⟩, ⟨some g2c2_b, 82, [(.slice (mo0.map fun b => ⟨b, 0, none⟩) mn0 mc0)]⟩, ⟨mo0, 155, row encA2I64 r ms0⟩] w') := by
  subst f0_fHammers_hn g2c0_fHammers_hn g2c2_hn
  rw [impl_Frame_pins_at_impl_Frame_allClashes_1] at h
  refine enter (args := [(.agg #[(.int .i16 f0.fSteps), (.slice f0_fHammers_a f0.fHammers.length f0_fHammers_c)]), (.agg (row encU32 d1.1 []).toArray), (.func (.func 105) #[] #[(.pointer (some ⟨g2c0_b, 0, none⟩)), (.pointer (some ⟨g2c1_b, 0, none⟩)), (.pointer (some ⟨g2c2_b, 0, none⟩))])]) Tryz.func73 rfl Tryz.ntmps73 (by kernel_rfl) (L := [⟨some g2c0_b, 27, [(.int .i16 g2c0.fSteps), (.slice g2c0_fHammers_a g2c0.fHammers.length g2c0_fHammers_c)]⟩, ⟨(some g2c1_b), 39, row encU32 g2c1.1 []⟩, ⟨some g2c2_b, 82, [(.slice (g2c2_o.map fun b => ⟨b, 0, none⟩) g2c2.length g2c2_c)]⟩, ⟨g2c2_o, 155, row encA2I64 g2c2 g2c2_sp⟩]) (W := bs [some g2c0_b, some g2c1_b, some g2c2_b, g2c2_o]) hm0 ?_
  refine jc_seq ?_
  refine jc_region ?_
  refine toO (by kernel_rfl) (p_a 0 [0] (by kernel_rfl) (fun b => by kernel_rfl) (fun b_1 => jkO ?_))
  refine toO (by kernel_rfl) (p_a 0 [0] (by kernel_rfl) (fun b => by kernel_rfl) (fun b_2 => jkO ?_))
  refine jo_end (by kernel_rfl) ?_
  refine jx_then ?_
  refine jc_seq ?_
  refine jc_region ?_
  refine jo_f [(0, 0), (4, 0), (0, 0), (0, 0)] (by kernel_rfl) ?_
  refine jo_end (by kernel_rfl) ?_
  refine jx_then ?_
  refine jc_meet (fun (j : (List (Arr 2 Int)) × (Option Nat) × Nat × (List Value) × Nat) => match j with | ⟨xs_1, o_322, cap_323, sp_324, n_325⟩ => impl_Frame_pins_at_impl_Frame_allClashes_1.k_2 xs_1 = some r ∧ (xs_1.length = n_325) ∧ ((o_322 ≠ none → n_325 ≤ cap_323 ∧ sp_324.length = (cap_323 - n_325) * 2)) ∧ ((o_322 = none → xs_1 = [] ∧ cap_323 = 0))) (fun (j : (List (Arr 2 Int)) × (Option Nat) × Nat × (List Value) × Nat) => match j with | ⟨xs_1, o_322, cap_323, sp_324, n_325⟩ => []) (fun (j : (List (Arr 2 Int)) × (Option Nat) × Nat × (List Value) × Nat) => match j with | ⟨xs_1, o_322, cap_323, sp_324, n_325⟩ => [⟨some g2c0_b, 27, [(.int .i16 g2c0.fSteps), (.slice g2c0_fHammers_a g2c0.fHammers.length g2c0_fHammers_c)]⟩, ⟨(some g2c1_b), 39, row encU32 g2c1.1 []⟩, ⟨some g2c2_b, 82, [(.slice (o_322.map fun b => ⟨b, 0, none⟩) n_325 cap_323)]⟩, ⟨o_322, 155, row encA2I64 xs_1 sp_324⟩, ⟨some b_1, 27, [(.int .i16 f0.fSteps), (.slice f0_fHammers_a f0.fHammers.length f0_fHammers_c)]⟩, ⟨(some b_2), 39, row encU32 d1.1 []⟩]) ?_ ?_
  · refine jc_block ?_
    obtain ⟨t_6, ht_646, hr_542⟩ := bd h
    refine jc_loop (fun (s : (List (Arr 2 Int)) × Int) (x : (Option Nat) × Nat × (List Value) × Nat) => match s, x with | ⟨xs_3, i_4⟩, ⟨o_536, cap_537, sp_538, n_539⟩ => (xs_3.length = n_539) ∧ ((o_536 ≠ none → n_539 ≤ cap_537 ∧ sp_538.length = (cap_537 - n_539) * 2)) ∧ ((o_536 = none → xs_3 = [] ∧ cap_537 = 0))) (fun (s : (List (Arr 2 Int)) × Int) (x : (Option Nat) × Nat × (List Value) × Nat) => match s, x with | ⟨xs_3, i_4⟩, ⟨o_536, cap_537, sp_538, n_539⟩ => [(2, [], (.func (.func 105) #[] #[(.pointer (some ⟨g2c0_b, 0, none⟩)), (.pointer (some ⟨g2c1_b, 0, none⟩)), (.pointer (some ⟨g2c2_b, 0, none⟩))])), (3, [], (.pointer (some ⟨b_1, 0, none⟩))), (4, [], (.pointer (some ⟨b_2, 0, none⟩))), (10, [], (.int .i64 (w64 f0.fSteps))), (11, [], (.int .i64 i_4))]) (fun (s : (List (Arr 2 Int)) × Int) (x : (Option Nat) × Nat × (List Value) × Nat) => match s, x with | ⟨xs_3, i_4⟩, ⟨o_536, cap_537, sp_538, n_539⟩ => [⟨some g2c0_b, 27, [(.int .i16 g2c0.fSteps), (.slice g2c0_fHammers_a g2c0.fHammers.length g2c0_fHammers_c)]⟩, ⟨(some g2c1_b), 39, row encU32 g2c1.1 []⟩, ⟨some g2c2_b, 82, [(.slice (o_536.map fun b => ⟨b, 0, none⟩) n_539 cap_537)]⟩, ⟨o_536, 155, row encA2I64 xs_3 sp_538⟩, ⟨some b_1, 27, [(.int .i16 f0.fSteps), (.slice f0_fHammers_a f0.fHammers.length f0_fHammers_c)]⟩, ⟨(some b_2), 39, row encU32 d1.1 []⟩]) ht_646 ⟨g2c2_o, g2c2_c, g2c2_sp, g2c2.length⟩ ⟨rfl, g2c2_hs, g2c2_ho⟩ (by kernel_rfl) [0, 1, 2, 3, 4, 5] (by kernel_rfl) (by kernel_rfl) ?_
    rintro ⟨xs_3, i_4⟩ ⟨o_536, cap_537, sp_538, n_539⟩ y_543 ⟨rfl, hs_540, ho_541⟩ h
    rw [impl_Frame_pins_at_impl_Frame_allClashes_1.l_5] at h
    refine jc_seq ?_
    refine jc_region ?_
    refine jo_f [(0, 0)] (by kernel_rfl) ?_
    refine jo_end (by kernel_rfl) ?_
    refine jx_then ?_
    refine jc_seq ?_
    refine jc_cond (decide (i_4 < (w64 f0.fSteps))) (by kernel_rfl) (fun hc_545 => ?_) (fun hc_545 => ?_)
    · replace h := ifT hc_545 h
      refine jc_skip ?_
      refine jx_then ?_
      refine jc_seq ?_
      refine jc_block ?_
      refine jc_seq ?_
      refine jc_region ?_
      refine jo_f [(0, 0), (0, 0)] (by kernel_rfl) ?_
      refine jo_end (by kernel_rfl) ?_
      refine jx_then ?_
      refine jc_seq ?_
      refine jc_region ?_
      refine jo_f [(0, 0), (4, 0)] (by kernel_rfl) ?_
      obtain ⟨t_7, ht_546, h⟩ := bd h
      refine toO (by kernel_rfl) (p_call 0 82 #[(.slice f0_fHammers_a f0.fHammers.length f0_fHammers_c)] (by kernel_rfl) (by kernel_rfl) (fun w hm => impl_size_Hammer.calls f0.fHammers w _ f0_fHammers_a f0.fHammers.length f0_fHammers_c (hm.exRowW f0_fHammers_h f0_fHammers_ha) rfl ht_546) ?_)
      rintro w v w' hm ⟨rfl, hm'⟩
      refine ⟨_, hm.app hm', jkO ?_⟩
      clear hm hm'
      refine jo_f [(0, 0)] (by kernel_rfl) ?_
      refine jo_end (by kernel_rfl) ?_
      refine jx_then ?_
      refine jc_meet (fun (j : (List (Arr 2 Int)) × (Option Nat) × Nat × (List Value) × Nat) => match j with | ⟨xs_8, o_593, cap_594, sp_595, n_596⟩ => impl_Frame_pins_at_impl_Frame_allClashes_1.k_9 i_4 xs_8 = some y_543 ∧ (xs_8.length = n_596) ∧ ((o_593 ≠ none → n_596 ≤ cap_594 ∧ sp_595.length = (cap_594 - n_596) * 2)) ∧ ((o_593 = none → xs_8 = [] ∧ cap_594 = 0))) (fun (j : (List (Arr 2 Int)) × (Option Nat) × Nat × (List Value) × Nat) => match j with | ⟨xs_8, o_593, cap_594, sp_595, n_596⟩ => [(2, [], (.func (.func 105) #[] #[(.pointer (some ⟨g2c0_b, 0, none⟩)), (.pointer (some ⟨g2c1_b, 0, none⟩)), (.pointer (some ⟨g2c2_b, 0, none⟩))])), (3, [], (.pointer (some ⟨b_1, 0, none⟩))), (4, [], (.pointer (some ⟨b_2, 0, none⟩))), (10, [], (.int .i64 (w64 f0.fSteps))), (11, [], (.int .i64 i_4))]) (fun (j : (List (Arr 2 Int)) × (Option Nat) × Nat × (List Value) × Nat) => match j with | ⟨xs_8, o_593, cap_594, sp_595, n_596⟩ => [⟨some g2c0_b, 27, [(.int .i16 g2c0.fSteps), (.slice g2c0_fHammers_a g2c0.fHammers.length g2c0_fHammers_c)]⟩, ⟨(some g2c1_b), 39, row encU32 g2c1.1 []⟩, ⟨some g2c2_b, 82, [(.slice (o_593.map fun b => ⟨b, 0, none⟩) n_596 cap_594)]⟩, ⟨o_593, 155, row encA2I64 xs_8 sp_595⟩, ⟨some b_1, 27, [(.int .i16 f0.fSteps), (.slice f0_fHammers_a f0.fHammers.length f0_fHammers_c)]⟩, ⟨(some b_2), 39, row encU32 d1.1 []⟩]) ?_ ?_
      · refine jc_block ?_
        obtain ⟨t_13, ht_644, hr_631⟩ := bd h
        refine jc_loop (fun (s : (List (Arr 2 Int)) × Int) (x : (Option Nat) × Nat × (List Value) × Nat) => match s, x with | ⟨xs_10, i_11⟩, ⟨o_625, cap_626, sp_627, n_628⟩ => (xs_10.length = n_628) ∧ ((o_625 ≠ none → n_628 ≤ cap_626 ∧ sp_627.length = (cap_626 - n_628) * 2)) ∧ ((o_625 = none → xs_10 = [] ∧ cap_626 = 0))) (fun (s : (List (Arr 2 Int)) × Int) (x : (Option Nat) × Nat × (List Value) × Nat) => match s, x with | ⟨xs_10, i_11⟩, ⟨o_625, cap_626, sp_627, n_628⟩ => [(2, [], (.func (.func 105) #[] #[(.pointer (some ⟨g2c0_b, 0, none⟩)), (.pointer (some ⟨g2c1_b, 0, none⟩)), (.pointer (some ⟨g2c2_b, 0, none⟩))])), (3, [], (.pointer (some ⟨b_1, 0, none⟩))), (4, [], (.pointer (some ⟨b_2, 0, none⟩))), (6, [], (.int .i64 i_4)), (10, [], (.int .i64 (w64 f0.fSteps))), (11, [], (.int .i64 i_4)), (16, [], (.int .i64 t_7)), (17, [], (.int .i64 i_11))]) (fun (s : (List (Arr 2 Int)) × Int) (x : (Option Nat) × Nat × (List Value) × Nat) => match s, x with | ⟨xs_10, i_11⟩, ⟨o_625, cap_626, sp_627, n_628⟩ => [⟨some g2c0_b, 27, [(.int .i16 g2c0.fSteps), (.slice g2c0_fHammers_a g2c0.fHammers.length g2c0_fHammers_c)]⟩, ⟨(some g2c1_b), 39, row encU32 g2c1.1 []⟩, ⟨some g2c2_b, 82, [(.slice (o_625.map fun b => ⟨b, 0, none⟩) n_628 cap_626)]⟩, ⟨o_625, 155, row encA2I64 xs_10 sp_627⟩, ⟨some b_1, 27, [(.int .i16 f0.fSteps), (.slice f0_fHammers_a f0.fHammers.length f0_fHammers_c)]⟩, ⟨(some b_2), 39, row encU32 d1.1 []⟩]) ht_644 ⟨o_536, cap_537, sp_538, xs_3.length⟩ ⟨rfl, hs_540, ho_541⟩ (by kernel_rfl) [0, 1, 2, 3, 4, 5] (by kernel_rfl) (by kernel_rfl) ?_
        rintro ⟨xs_10, i_11⟩ ⟨o_625, cap_626, sp_627, n_628⟩ y_632 ⟨rfl, hs_629, ho_630⟩ h
        rw [impl_Frame_pins_at_impl_Frame_allClashes_1.l_12] at h
        refine jc_seq ?_
        refine jc_region ?_
        refine jo_f [(0, 0)] (by kernel_rfl) ?_
        refine jo_end (by kernel_rfl) ?_
        refine jx_then ?_
        refine jc_seq ?_
        refine jc_cond (decide (i_11 < t_7)) (by kernel_rfl) (fun hc_634 => ?_) (fun hc_634 => ?_)
        · replace h := ifT hc_634 h
          refine jc_skip ?_
          refine jx_then ?_
          refine jc_seq ?_
          refine jc_block ?_
          refine jc_seq ?_
          refine jc_region ?_
          refine jo_f [(0, 0), (0, 0)] (by kernel_rfl) ?_
          refine jo_end (by kernel_rfl) ?_
          refine jx_then ?_
          refine jc_seq ?_
          refine jc_region ?_
          refine jo_f [(0, 0), (0, 0)] (by kernel_rfl) ?_
          obtain ⟨t_14, ht_635, h⟩ := bd h
          refine toO (by kernel_rfl) (p_call 0 107 #[(.pointer (some ⟨b_2, 0, none⟩)), (.int .i64 i_4), (.int .i64 i_11)] (by kernel_rfl) (by kernel_rfl) (fun w hm => impl_Drum_has.calls d1 i_4 i_11 w _ b_2 (hm.pass (N := [⟨(some b_2), 39, row encU32 d1.1 []⟩]) [5] (by kernel_rfl) (by kernel_rfl)) ht_635) ?_)
          rintro w v w' hm ⟨rfl, hm'⟩
          refine ⟨_, hm.appW (ps := [(5, ⟨(some b_2), 39, row encU32 d1.1 []⟩)]) (N := []) hm' (by kernel_rfl) (by kernel_rfl), jkO ?_⟩
          clear hm hm'
          refine jo_end (by kernel_rfl) ?_
          refine jx_then ?_
          refine jc_cond t_14 (by kernel_rfl) (fun hc_636 => ?_) (fun hc_636 => ?_)
          · replace h := ifT hc_636 h
            refine jc_region ?_
            refine jo_f [(0, 0), (0, 0), (0, 0)] (by kernel_rfl) ?_
            obtain ⟨t_15, ht_637, h⟩ := bd h
            refine toO (by kernel_rfl) (p_call 0 105 #[(.int .i64 i_4), (.int .i64 i_11), (.pointer (some ⟨g2c0_b, 0, none⟩)), (.pointer (some ⟨g2c1_b, 0, none⟩)), (.pointer (some ⟨g2c2_b, 0, none⟩))] (by kernel_rfl) (by kernel_rfl) (fun w hm => impl_Frame_allClashes_1.calls i_4 i_11 g2c0 g2c1 xs_10 w _ g2c0_fHammers_a g2c0.fHammers.length g2c0_fHammers_c (hm.exRowW g2c0_fHammers_h g2c0_fHammers_ha) rfl g2c0_b g2c1_b g2c2_b o_625 xs_10.length cap_626 sp_627 rfl hs_629 ho_630 (hm.pass (N := [⟨some g2c0_b, 27, [(.int .i16 g2c0.fSteps), (.slice g2c0_fHammers_a g2c0.fHammers.length g2c0_fHammers_c)]⟩, ⟨(some g2c1_b), 39, row encU32 g2c1.1 []⟩, ⟨some g2c2_b, 82, [(.slice (o_625.map fun b => ⟨b, 0, none⟩) xs_10.length cap_626)]⟩, ⟨o_625, 155, row encA2I64 xs_10 sp_627⟩]) [0, 1, 2, 3] (by kernel_rfl) (by kernel_rfl)) (hm.exApart (N := [⟨some g2c0_b, 27, [(.int .i16 g2c0.fSteps), (.slice g2c0_fHammers_a g2c0.fHammers.length g2c0_fHammers_c)]⟩, ⟨(some g2c1_b), 39, row encU32 g2c1.1 []⟩, ⟨some g2c2_b, 82, [(.slice (o_625.map fun b => ⟨b, 0, none⟩) xs_10.length cap_626)]⟩, ⟨o_625, 155, row encA2I64 xs_10 sp_627⟩]) g2c0_fHammers_h g2c0_fHammers_ha [0, 1, 2, 3] (by kernel_rfl)) ht_637) ?_)
            rintro w v w' hm ⟨o_638, cap_639, sp_640, _, rfl, hs_641, ho_642, rfl, hm'⟩
            refine ⟨_, Mem.pick (hm.appP (ps := [(0, ⟨some g2c0_b, 27, [(.int .i16 g2c0.fSteps), (.slice g2c0_fHammers_a g2c0.fHammers.length g2c0_fHammers_c)]⟩), (1, ⟨(some g2c1_b), 39, row encU32 g2c1.1 []⟩), (2, ⟨some g2c2_b, 82, [(.slice (o_638.map fun b => ⟨b, 0, none⟩) t_15.length cap_639)]⟩)]) (ds := [3]) (N := [⟨o_638, 155, row encA2I64 t_15 sp_640⟩]) hm' [0, 1, 2, 3] (by kernel_rfl) (by kernel_rfl) (by kernel_rfl)) (N := [⟨some g2c0_b, 27, [(.int .i16 g2c0.fSteps), (.slice g2c0_fHammers_a g2c0.fHammers.length g2c0_fHammers_c)]⟩, ⟨(some g2c1_b), 39, row encU32 g2c1.1 []⟩, ⟨some g2c2_b, 82, [(.slice (o_638.map fun b => ⟨b, 0, none⟩) t_15.length cap_639)]⟩, ⟨o_638, 155, row encA2I64 t_15 sp_640⟩, ⟨some b_1, 27, [(.int .i16 f0.fSteps), (.slice f0_fHammers_a f0.fHammers.length f0_fHammers_c)]⟩, ⟨(some b_2), 39, row encU32 d1.1 []⟩]) [0, 1, 2, 6, 4, 5] (by kernel_rfl) (by kernel_rfl), jkO ?_⟩
            clear hm hm'
            refine jo_end (by kernel_rfl) ?_
            refine jx_inn ?_
            refine jx_then ?_
            refine jc_region ?_
            refine jo_f [(0, 0), (0, 0)] (by kernel_rfl) ?_
            refine jo_end (by kernel_rfl) ?_
            exact jx_back (t_15, (w64 (i_11 + 1))) ⟨o_638, cap_639, sp_640, t_15.length⟩ (Option.some.inj h).symm ⟨rfl, hs_641, ho_642⟩ [0, 1, 2, 3, 4, 5] (by kernel_rfl) (by kernel_rfl) (by kernel_rfl)
          · replace h := ifF hc_636 h
            refine jc_skip ?_
            refine jx_inn ?_
            refine jx_then ?_
            refine jc_region ?_
            refine jo_f [(0, 0), (0, 0)] (by kernel_rfl) ?_
            refine jo_end (by kernel_rfl) ?_
            exact jx_back (xs_10, (w64 (i_11 + 1))) ⟨o_625, cap_626, sp_627, xs_10.length⟩ (Option.some.inj h).symm ⟨rfl, hs_629, ho_630⟩ [0, 1, 2, 3, 4, 5] (by kernel_rfl) (by kernel_rfl) (by kernel_rfl)
        · replace h := ifF hc_634 h
          refine jc_exit ?_
          refine jx_thenx ?_
          refine jx_leave xs_10 (Option.some.inj h).symm (fun e_643 => ?_)
          subst e_643
          refine jx_ine ?_
          exact jx_meet ⟨xs_10, o_625, cap_626, sp_627, xs_10.length⟩ ⟨hr_631, rfl, hs_629, ho_630⟩ (by kernel_rfl) [0, 1, 2, 3, 4, 5] (by kernel_rfl) (by kernel_rfl)
      · rintro ⟨xs_8, o_593, cap_594, sp_595, n_596⟩ ⟨h, rfl, hs_597, ho_598⟩
        replace h : impl_Frame_pins_at_impl_Frame_allClashes_1.k_9 i_4 xs_8 = some y_543 := h
        rw [impl_Frame_pins_at_impl_Frame_allClashes_1.k_9] at h
        refine jx_inn ?_
        refine jx_then ?_
        refine jc_region ?_
        refine jo_f [(0, 0), (0, 0)] (by kernel_rfl) ?_
        refine jo_end (by kernel_rfl) ?_
        exact jx_back (xs_8, (w64 (i_4 + 1))) ⟨o_593, cap_594, sp_595, xs_8.length⟩ (Option.some.inj h).symm ⟨rfl, hs_597, ho_598⟩ [0, 1, 2, 3, 4, 5] (by kernel_rfl) (by kernel_rfl) (by kernel_rfl)
    · replace h := ifF hc_545 h
      refine jc_exit ?_
      refine jx_thenx ?_
      refine jx_leave xs_3 (Option.some.inj h).symm (fun e_645 => ?_)
      subst e_645
      refine jx_ine ?_
      exact jx_meet ⟨xs_3, o_536, cap_537, sp_538, xs_3.length⟩ ⟨hr_542, rfl, hs_540, ho_541⟩ (by kernel_rfl) [0, 1, 2, 3, 4, 5] (by kernel_rfl) (by kernel_rfl)
  · rintro ⟨xs_1, o_322, cap_323, sp_324, n_325⟩ ⟨h, rfl, hs_326, ho_327⟩
    replace h : impl_Frame_pins_at_impl_Frame_allClashes_1.k_2 xs_1 = some r := h
    rw [impl_Frame_pins_at_impl_Frame_allClashes_1.k_2] at h
    refine jx_fall ?_
    obtain rfl := Option.some.inj h
    exact jx_ret [] (.tuple #[]) [] rfl (by kernel_rfl) (by kernel_rfl) (fun w hm => ⟨o_322, cap_323, sp_324, xs_1.length, rfl, hs_326, ho_327, rfl, hm.pick [0, 1, 2, 3] (by kernel_rfl) (by kernel_rfl)⟩)

/-! ### (impl.Frame).allClashes -/
noncomputable def impl_Frame_allClashes (f0 : GFrame) (d1 : Arr 96 Int) : Option ((List (Arr 2 Int))) := (impl_Frame_pins_at_impl_Frame_allClashes_1 f0 d1 f0 d1 ([] : List (Arr 2 Int))).bind fun t_1 => some t_1
set_option maxRecDepth 100000 in
theorem impl_Frame_allClashes.calls (f0 : GFrame) (d1 : Arr 96 Int) (w : World) (r : (List (Arr 2 Int))) (f0_fHammers_a : Option Addr) (f0_fHammers_an : Nat) (f0_fHammers_c : Nat) (f0_fHammers_h : Rw w f0_fHammers_a 2 encGHammer f0.fHammers) (f0_fHammers_hn : f0.fHammers.length = f0_fHammers_an) (h : impl_Frame_allClashes f0 d1 = some r) :
    Calls Tryz.prog 72 #[(.agg #[(.int .i16 f0.fSteps), (.slice f0_fHammers_a f0_fHammers_an f0_fHammers_c)]), (.agg (row encU32 d1.1 []).toArray)] w fun e w' => ∃ v, e = .returned v ∧ (∃ (o0 : Option Nat) (c0 : Nat) (s0 : List Value) (n0 : Nat), r.length = n0 ∧ (o0 ≠ none → n0 ≤ c0 ∧ s0.length = (c0 - n0) * 2) ∧ (o0 = none → r = [] ∧ c0 = 0) ∧ v = .slice (o0.map fun b => ⟨b, 0, none⟩) n0 c0 ∧ Mem w [] [⟨o0, 155, row encA2I64 r s0⟩] w') := by
  subst f0_fHammers_hn
  rw [impl_Frame_allClashes] at h
  refine enter (args := [(.agg #[(.int .i16 f0.fSteps), (.slice f0_fHammers_a f0.fHammers.length f0_fHammers_c)]), (.agg (row encU32 d1.1 []).toArray)]) Tryz.func72 rfl Tryz.ntmps72 (by kernel_rfl) (L := []) (W := []) (Mem.start w) ?_
  refine jc_seq ?_
  refine jc_region ?_
  refine toO (by kernel_rfl) (p_a 0 [0] (by kernel_rfl) (fun b => by kernel_rfl) (fun b_1 => jkO ?_))
  refine toO (by kernel_rfl) (p_a 0 [0] (by kernel_rfl) (fun b => by kernel_rfl) (fun b_2 => jkO ?_))
  refine jo_f [(0, 0)] (by kernel_rfl) ?_
  refine jo_end (by kernel_rfl) ?_
  refine jx_then ?_
  refine jc_seq ?_
  refine jc_region ?_
  refine toO (by kernel_rfl) (p_a 0 [0] (by kernel_rfl) (fun b => by kernel_rfl) (fun b_3 => jkO ?_))
  refine toO (by kernel_rfl) (p_a 0 [0] (by kernel_rfl) (fun b => by kernel_rfl) (fun b_4 => jkO ?_))
  refine toO (by kernel_rfl) (p_s 0 [3] (by kernel_rfl) (by kernel_rfl) (jkO ?_))
  refine jo_end (by kernel_rfl) ?_
  refine jx_then ?_
  refine jc_seq ?_
  refine jc_region ?_
  refine jo_f [(0, 0)] (by kernel_rfl) ?_
  refine toO (by kernel_rfl) (p_ldA 0 1 b_2 96 1 39 encU32 d1 (by kernel_rfl) (by kernel_rfl) (by kernel_rfl) encU32_len (by kernel_rfl) (jkO ?_))
  refine jo_f [(0, 0)] (by kernel_rfl) ?_
  obtain ⟨t_1, ht_5, h⟩ := bd h
  refine toO (by kernel_rfl) (p_call 0 73 #[(.agg #[(.int .i16 f0.fSteps), (.slice f0_fHammers_a f0.fHammers.length f0_fHammers_c)]), (.agg (row encU32 d1.1 []).toArray), (.func (.func 105) #[] #[(.pointer (some ⟨b_1, 0, none⟩)), (.pointer (some ⟨b_2, 0, none⟩)), (.pointer (some ⟨b_4, 0, none⟩))])] (by kernel_rfl) (by kernel_rfl) (fun w hm => impl_Frame_pins_at_impl_Frame_allClashes_1.calls f0 d1 f0 d1 ([] : List (Arr 2 Int)) w _ f0_fHammers_a f0.fHammers.length f0_fHammers_c (hm.exRow f0_fHammers_h List.not_mem_nil) rfl f0_fHammers_a f0.fHammers.length f0_fHammers_c (hm.exRow f0_fHammers_h List.not_mem_nil) rfl b_1 b_2 b_4 (some b_3) 0 0 [] rfl (fun _ => ⟨Nat.le_refl _, by simp⟩) (fun e => nomatch e) (hm.pass (N := [⟨some b_1, 27, [(.int .i16 f0.fSteps), (.slice f0_fHammers_a f0.fHammers.length f0_fHammers_c)]⟩, ⟨(some b_2), 39, row encU32 d1.1 []⟩, ⟨some b_4, 82, [(.slice (some ⟨b_3, 0, none⟩) 0 0)]⟩, ⟨(some b_3), 155, row encA2I64 ([] : List (Arr 2 Int)) []⟩]) [0, 1, 3, 2] (by kernel_rfl) (by kernel_rfl)) (hm.exApart (N := [⟨some b_1, 27, [(.int .i16 f0.fSteps), (.slice f0_fHammers_a f0.fHammers.length f0_fHammers_c)]⟩, ⟨(some b_2), 39, row encU32 d1.1 []⟩, ⟨some b_4, 82, [(.slice (some ⟨b_3, 0, none⟩) 0 0)]⟩, ⟨(some b_3), 155, row encA2I64 ([] : List (Arr 2 Int)) []⟩]) f0_fHammers_h (fun _ => List.not_mem_nil) [0, 1, 3, 2] (by kernel_rfl)) (hm.exApart (N := [⟨some b_1, 27, [(.int .i16 f0.fSteps), (.slice f0_fHammers_a f0.fHammers.length f0_fHammers_c)]⟩, ⟨(some b_2), 39, row encU32 d1.1 []⟩, ⟨some b_4, 82, [(.slice (some ⟨b_3, 0, none⟩) 0 0)]⟩, ⟨(some b_3), 155, row encA2I64 ([] : List (Arr 2 Int)) []⟩]) f0_fHammers_h (fun _ => List.not_mem_nil) [0, 1, 3, 2] (by kernel_rfl)) ht_5) ?_)
  rintro w v w' hm ⟨o_6, cap_7, sp_8, _, rfl, hs_9, ho_10, rfl, hm'⟩
  refine ⟨_, Mem.pick (hm.appP (ps := [(0, ⟨some b_1, 27, [(.int .i16 f0.fSteps), (.slice f0_fHammers_a f0.fHammers.length f0_fHammers_c)]⟩), (1, ⟨(some b_2), 39, row encU32 d1.1 []⟩), (3, ⟨some b_4, 82, [(.slice (o_6.map fun b => ⟨b, 0, none⟩) t_1.length cap_7)]⟩)]) (ds := [2]) (N := [⟨o_6, 155, row encA2I64 t_1 sp_8⟩]) hm' [0, 1, 2, 3] (by kernel_rfl) (by kernel_rfl) (by kernel_rfl)) (N := [⟨some b_1, 27, [(.int .i16 f0.fSteps), (.slice f0_fHammers_a f0.fHammers.length f0_fHammers_c)]⟩, ⟨(some b_2), 39, row encU32 d1.1 []⟩, ⟨o_6, 155, row encA2I64 t_1 sp_8⟩, ⟨some b_4, 82, [(.slice (o_6.map fun b => ⟨b, 0, none⟩) t_1.length cap_7)]⟩]) [0, 1, 4, 3] (by kernel_rfl) (by kernel_rfl), jkO ?_⟩
  clear hm hm'
  refine jo_end (by kernel_rfl) ?_
  refine jx_then ?_
  refine jc_seq ?_
  refine jc_region ?_
  refine jo_f [(3, 0), (0, 0)] (by kernel_rfl) ?_
  refine jo_end (by kernel_rfl) ?_
  refine jx_then ?_
  refine jc_ret ?_
  obtain rfl := Option.some.inj h
  exact jx_ret [] (.slice (o_6.map fun b => ⟨b, 0, none⟩) t_1.length cap_7) [] rfl (by kernel_rfl) (by kernel_rfl) (fun w hm => ⟨o_6, cap_7, sp_8, t_1.length, rfl, hs_9, ho_10, rfl, hm.pick [2] (by kernel_rfl) (by kernel_rfl)⟩)

/-! ### impl.ClashesOf -/
noncomputable def impl_ClashesOf (f0 : GFrame) (d1 : Arr 96 Int) : Option ((List (Arr 2 Int)) × Int) := (impl_drumCode f0 [d1]).bind fun t_1 => (if (t_1 != 0) = true then some ([], t_1) else (impl_Frame_allClashes f0 d1).bind fun t_2 => some (t_2, 0))
set_option maxRecDepth 100000 in
theorem impl_ClashesOf.calls (f0 : GFrame) (d1 : Arr 96 Int) (w : World) (r : (List (Arr 2 Int)) × Int) (f0_fHammers_a : Option Addr) (f0_fHammers_an : Nat) (f0_fHammers_c : Nat) (f0_fHammers_h : Rw w f0_fHammers_a 2 encGHammer f0.fHammers) (f0_fHammers_hn : f0.fHammers.length = f0_fHammers_an) (h : impl_ClashesOf f0 d1 = some r) :
    Calls Tryz.prog 37 #[(.agg #[(.int .i16 f0.fSteps), (.slice f0_fHammers_a f0_fHammers_an f0_fHammers_c)]), (.agg (row encU32 d1.1 []).toArray)] w fun e w' => ∃ v, e = .returned v ∧ (∃ (o0 : Option Nat) (c0 : Nat) (s0 : List Value) (n0 : Nat), r.1.length = n0 ∧ (o0 ≠ none → n0 ≤ c0 ∧ s0.length = (c0 - n0) * 2) ∧ (o0 = none → r.1 = [] ∧ c0 = 0) ∧ v = .tuple #[.slice (o0.map fun b => ⟨b, 0, none⟩) n0 c0, (.int .i64 r.2)] ∧ Mem w [] [⟨o0, 155, row encA2I64 r.1 s0⟩] w') := by
  subst f0_fHammers_hn
  rw [impl_ClashesOf] at h
  refine enter (args := [(.agg #[(.int .i16 f0.fSteps), (.slice f0_fHammers_a f0.fHammers.length f0_fHammers_c)]), (.agg (row encU32 d1.1 []).toArray)]) Tryz.func37 rfl Tryz.ntmps37 (by kernel_rfl) (L := []) (W := []) (Mem.start w) ?_
  refine jc_seq ?_
  refine jc_region ?_
  refine toO (by kernel_rfl) (p_a 0 [0] (by kernel_rfl) (fun b => by kernel_rfl) (fun b_1 => jkO ?_))
  refine toO (by kernel_rfl) (p_a 0 [0] (by kernel_rfl) (fun b => by kernel_rfl) (fun b_2 => jkO ?_))
  refine jo_f [(0, 0), (0, 0)] (by kernel_rfl) ?_
  refine jo_end (by kernel_rfl) ?_
  refine jx_then ?_
  refine jc_seq ?_
  refine jc_seq ?_
  refine jc_region ?_
  refine jo_f [(0, 0)] (by kernel_rfl) ?_
  refine toO (by kernel_rfl) (p_ldA 0 1 b_2 96 1 39 encU32 d1 (by kernel_rfl) (by kernel_rfl) (by kernel_rfl) encU32_len (by kernel_rfl) (jkO ?_))
  refine toO (by kernel_rfl) (p_bs 0 39 96 1 encA96U32 [(.agg (row encU32 d1.1 []).toArray)] [d1] (by kernel_rfl) (by kernel_rfl) rfl (by kernel_rfl) (by kernel_rfl) encA96U32_len (fun b_6 => jkO ?_))
  obtain ⟨t_1, ht_7, h⟩ := bd h
  refine toO (by kernel_rfl) (p_call 0 42 #[(.agg #[(.int .i16 f0.fSteps), (.slice f0_fHammers_a f0.fHammers.length f0_fHammers_c)]), (.slice (some ⟨b_6, 0, none⟩) 1 1)] (by kernel_rfl) (by kernel_rfl) (fun w hm => impl_drumCode.calls f0 [d1] w _ f0_fHammers_a f0.fHammers.length f0_fHammers_c (hm.exRow f0_fHammers_h List.not_mem_nil) rfl (some ⟨b_6, 0, none⟩) 1 1 (hm.ownRow (hh := 2) (o := (some b_6)) (T := 39) (enc := encA96U32) (xs := [d1]) (sp := []) (by kernel_rfl) (fun e => nomatch e) encA96U32_len) rfl ht_7) ?_)
  rintro w v w' hm ⟨rfl, hm'⟩
  refine ⟨_, hm.app hm', jkO ?_⟩
  clear hm hm'
  refine jo_f [(0, 0)] (by kernel_rfl) ?_
  refine jo_end (by kernel_rfl) ?_
  refine jx_then ?_
  refine jc_seq ?_
  refine jc_region ?_
  refine jo_f [(0, 0), (0, 0)] (by kernel_rfl) ?_
  refine jo_end (by kernel_rfl) ?_
  refine jx_then ?_
  refine jc_cond (t_1 != 0) (by kernel_rfl) (fun hc_8 => ?_) (fun hc_8 => ?_)
  · replace h := ifT hc_8 h
    refine jc_seq ?_
    refine jc_region ?_
    refine jo_f [(0, 0), (0, 0), (0, 0)] (by kernel_rfl) ?_
    refine jo_end (by kernel_rfl) ?_
    refine jx_then ?_
    refine jc_ret ?_
    refine jx_thenr ?_
    obtain rfl := Option.some.inj h
    refine jx_ghost 155 encA2I64 ?_
    exact jx_ret [] (.tuple #[(.slice none 0 0), (.int .i64 t_1)]) [] rfl (by kernel_rfl) (by kernel_rfl) (fun w hm => ⟨none, 0, [], 0, rfl, (fun e => absurd rfl e), (fun _ => ⟨rfl, rfl⟩), rfl, hm.pick [3] (by kernel_rfl) (by kernel_rfl)⟩)
  · replace h := ifF hc_8 h
    refine jc_skip ?_
    refine jx_then ?_
    refine jc_seq ?_
    refine jc_region ?_
    refine jo_f [(0, 0)] (by kernel_rfl) ?_
    refine toO (by kernel_rfl) (p_ldA 0 1 b_2 96 1 39 encU32 d1 (by kernel_rfl) (by kernel_rfl) (by kernel_rfl) encU32_len (by kernel_rfl) (jkO ?_))
    obtain ⟨t_2, ht_9, h⟩ := bd h
    refine toO (by kernel_rfl) (p_call 0 72 #[(.agg #[(.int .i16 f0.fSteps), (.slice f0_fHammers_a f0.fHammers.length f0_fHammers_c)]), (.agg (row encU32 d1.1 []).toArray)] (by kernel_rfl) (by kernel_rfl) (fun w hm => impl_Frame_allClashes.calls f0 d1 w _ f0_fHammers_a f0.fHammers.length f0_fHammers_c (hm.exRow f0_fHammers_h List.not_mem_nil) rfl ht_9) ?_)
    rintro w v w' hm ⟨o_10, cap_11, sp_12, _, rfl, hs_13, ho_14, rfl, hm'⟩
    refine ⟨_, hm.app hm', jkO ?_⟩
    clear hm hm'
    refine jo_f [(0, 0), (0, 0)] (by kernel_rfl) ?_
    refine jo_end (by kernel_rfl) ?_
    refine jx_then ?_
    refine jc_ret ?_
    obtain rfl := Option.some.inj h
    exact jx_ret [] (.tuple #[(.slice (o_10.map fun b => ⟨b, 0, none⟩) t_2.length cap_11), (.int .i64 0)]) [] rfl (by kernel_rfl) (by kernel_rfl) (fun w hm => ⟨o_10, cap_11, sp_12, t_2.length, rfl, hs_13, ho_14, rfl, hm.pick [3] (by kernel_rfl) (by kernel_rfl)⟩)

/-! ### impl.IsPlayable -/
noncomputable def impl_IsPlayable (f0 : GFrame) (d1 : Arr 96 Int) : Option (Bool × Int) := (impl_ClashesOf f0 d1).bind fun t_1 => some (((t_1.2 == 0) && ((t_1.1.length : Int) == 0)), t_1.2)
set_option maxRecDepth 100000 in
theorem impl_IsPlayable.calls (f0 : GFrame) (d1 : Arr 96 Int) (w : World) (r : Bool × Int) (f0_fHammers_a : Option Addr) (f0_fHammers_an : Nat) (f0_fHammers_c : Nat) (f0_fHammers_h : Rw w f0_fHammers_a 2 encGHammer f0.fHammers) (f0_fHammers_hn : f0.fHammers.length = f0_fHammers_an) (h : impl_IsPlayable f0 d1 = some r) :
    Calls Tryz.prog 13 #[(.agg #[(.int .i16 f0.fSteps), (.slice f0_fHammers_a f0_fHammers_an f0_fHammers_c)]), (.agg (row encU32 d1.1 []).toArray)] w fun e w' => ∃ v, e = .returned v ∧ (v = .tuple #[(.bool r.1), (.int .i64 r.2)] ∧ Mem w [] [] w') := by
  subst f0_fHammers_hn
  rw [impl_IsPlayable] at h
  refine enter (args := [(.agg #[(.int .i16 f0.fSteps), (.slice f0_fHammers_a f0.fHammers.length f0_fHammers_c)]), (.agg (row encU32 d1.1 []).toArray)]) Tryz.func13 rfl Tryz.ntmps13 (by kernel_rfl) (L := []) (W := []) (Mem.start w) ?_
  refine jc_seq ?_
  refine jc_region ?_
  refine toO (by kernel_rfl) (p_a 0 [0] (by kernel_rfl) (fun b => by kernel_rfl) (fun b_1 => jkO ?_))
  refine toO (by kernel_rfl) (p_a 0 [0] (by kernel_rfl) (fun b => by kernel_rfl) (fun b_2 => jkO ?_))
  refine jo_f [(0, 0), (0, 0)] (by kernel_rfl) ?_
  refine jo_end (by kernel_rfl) ?_
  refine jx_then ?_
  refine jc_seq ?_
  refine jc_region ?_
  refine jo_f [(0, 0)] (by kernel_rfl) ?_
  refine toO (by kernel_rfl) (p_ldA 0 1 b_2 96 1 39 encU32 d1 (by kernel_rfl) (by kernel_rfl) (by kernel_rfl) encU32_len (by kernel_rfl) (jkO ?_))
  obtain ⟨t_1, ht_3, h⟩ := bd h
  refine toO (by kernel_rfl) (p_call 0 37 #[(.agg #[(.int .i16 f0.fSteps), (.slice f0_fHammers_a f0.fHammers.length f0_fHammers_c)]), (.agg (row encU32 d1.1 []).toArray)] (by kernel_rfl) (by kernel_rfl) (fun w hm => impl_ClashesOf.calls f0 d1 w _ f0_fHammers_a f0.fHammers.length f0_fHammers_c (hm.exRow f0_fHammers_h List.not_mem_nil) rfl ht_3) ?_)
  rintro w v w' hm ⟨o_4, cap_5, sp_6, _, rfl, hs_7, ho_8, rfl, hm'⟩
  refine ⟨_, hm.app hm', jkO ?_⟩
  clear hm hm'
  refine jo_f [(0, 0), (0, 0), (0, 0), (0, 0), (0, 0)] (by kernel_rfl) ?_
  refine jo_end (by kernel_rfl) ?_
  refine jx_then ?_
  refine jc_seq ?_
  refine jc_region ?_
  refine jo_f [(0, 0), (0, 0), (0, 0), (0, 1), (0, 1), (0, 1), (0, 0), (0, 0), (0, 0), (0, 0)] (by kernel_rfl) ?_
  refine jo_end (by kernel_rfl) ?_
  refine jx_then ?_
  refine jc_ret ?_
  obtain rfl := Option.some.inj h
  exact jx_ret [] (.tuple #[(.bool ((t_1.2 == 0) && ((t_1.1.length : Int) == 0))), (.int .i64 t_1.2)]) [] rfl (by kernel_rfl) (by kernel_rfl) (fun w hm => ⟨rfl, hm.pick [] (by kernel_rfl) (by kernel_rfl)⟩)

/-! ### (impl.Frame).played$1 -/
noncomputable def impl_Frame_played_1 (step0 : Int) (track1 : Int) (p2 : Int) (p3 : Int) (p4 : List GNote) (p5 : GFrame) : Option ((List GNote)) := (impl_within step0 p2 (w64 ((w64 (p2 + p3)) - 1))).bind fun t_1 => (if t_1 = true then (ix p5.fHammers track1).bind fun x_2 => (if p4.length + [(⟨(w16 (w64 (step0 - p2))), x_2.fPitch⟩ : GNote)].length ≤ 4294967296 then some (p4 ++ [(⟨(w16 (w64 (step0 - p2))), x_2.fPitch⟩ : GNote)]) else none) else some p4)
set_option maxRecDepth 100000 in
theorem impl_Frame_played_1.calls (step0 : Int) (track1 : Int) (p2 : Int) (p3 : Int) (p4 : List GNote) (p5 : GFrame) (w : World) (r : (List GNote)) (p5_fHammers_a : Option Addr) (p5_fHammers_an : Nat) (p5_fHammers_c : Nat) (p5_fHammers_h : Rw w p5_fHammers_a 2 encGHammer p5.fHammers) (p5_fHammers_hn : p5.fHammers.length = p5_fHammers_an) (p2_b : Nat) (p3_b : Nat) (p4_b : Nat) (p4_o : Option Nat) (p4_on : Nat) (p4_c : Nat) (p4_sp : List Value) (p4_hn : p4.length = p4_on) (p4_hs : p4_o ≠ none → p4_on ≤ p4_c ∧ p4_sp.length = (p4_c - p4_on) * 2) (p4_ho : p4_o = none → p4 = [] ∧ p4_c = 0) (p5_b : Nat) (hm0 : Mem w (bs [some p2_b, some p3_b, some p4_b, p4_o, some p5_b]) [⟨some p2_b, 2, [(.int .i64 p2)]⟩, ⟨some p3_b, 2, [(.int .i64 p3)]⟩, ⟨some p4_b, 28, [(.slice (p4_o.map fun b => ⟨b, 0, none⟩) p4_on p4_c)]⟩, ⟨p4_o, 56, row encGNote p4 p4_sp⟩, ⟨some p5_b, 27, [(.int .i16 p5.fSteps), (.slice p5_fHammers_a p5_fHammers_an p5_fHammers_c)]⟩] w) (p5_fHammers_ha : p5.fHammers ≠ [] → aB p5_fHammers_a ∉ bs [some p2_b, some p3_b, some p4_b, p4_o, some p5_b]) (h : impl_Frame_played_1 step0 track1 p2 p3 p4 p5 = some r) :
    Calls Tryz.prog 74 #[(.int .i64 step0), (.int .i64 track1), (.pointer (some ⟨p2_b, 0, none⟩)), (.pointer (some ⟨p3_b, 0, none⟩)), (.pointer (some ⟨p4_b, 0, none⟩)), (.pointer (some ⟨p5_b, 0, none⟩))] w fun e w' => ∃ v, e = .returned v ∧ (∃ (mo0 : Option Nat) (mc0 : Nat) (ms0 : List Value) (mn0 : Nat), r.length = mn0 ∧ (mo0 ≠ none → mn0 ≤ mc0 ∧ ms0.length = (mc0 - mn0) * 2) ∧ (mo0 = none → r = [] ∧ mc0 = 0) ∧ v = .tuple #[] ∧ Mem w (bs [some p2_b, some p3_b, some p4_b, p4_o, some p5_b]) [⟨some p2_b, 2, [(.int .i64 p2)]⟩, ⟨some p3_b, 2, [(.int .i64 p3)]⟩, ⟨some p4_b, 28, [(.slice (mo0.map fun b => ⟨b, 0, none⟩) mn0 mc0)]⟩, ⟨some p5_b, 27, [(.int .i16 p5.fSteps), (.slice p5_fHammers_a p5_fHammers_an p5_fHammers_c)]⟩, ⟨mo0, 56, row encGNote r ms0⟩] w') := by
  subst p5_fHammers_hn p4_hn
  rw [impl_Frame_played_1] at h
  refine enter (args := [(.int .i64 step0), (.int .i64 track1), (.pointer (some ⟨p2_b, 0, none⟩)), (.pointer (some ⟨p3_b, 0, none⟩)), (.pointer (some ⟨p4_b, 0, none⟩)), (.pointer (some ⟨p5_b, 0, none⟩))]) Tryz.func74 rfl Tryz.ntmps74 (by kernel_rfl) (L := [⟨some p2_b, 2, [(.int .i64 p2)]⟩, ⟨some p3_b, 2, [(.int .i64 p3)]⟩, ⟨some p4_b, 28, [(.slice (p4_o.map fun b => ⟨b, 0, none⟩) p4.length p4_c)]⟩, ⟨p4_o, 56, row encGNote p4 p4_sp⟩, ⟨some p5_b, 27, [(.int .i16 p5.fSteps), (.slice p5_fHammers_a p5.fHammers.length p5_fHammers_c)]⟩]) (W := bs [some p2_b, some p3_b, some p4_b, p4_o, some p5_b]) hm0 ?_
  refine jc_seq ?_
  refine jc_region ?_
  refine jo_f [(0, 0), (0, 0), (0, 0), (1, 0), (0, 0), (0, 0)] (by kernel_rfl) ?_
  obtain ⟨t_1, ht_1, h⟩ := bd h
  refine toO (by kernel_rfl) (p_call 0 50 #[(.int .i64 step0), (.int .i64 p2), (.int .i64 (w64 ((w64 (p2 + p3)) - 1)))] (by kernel_rfl) (by kernel_rfl) (fun w hm => impl_within.calls step0 p2 (w64 ((w64 (p2 + p3)) - 1)) w _ ht_1) ?_)
  rintro w v w' hm ⟨rfl, hm'⟩
  refine ⟨_, hm.app hm', jkO ?_⟩
  clear hm hm'
  refine jo_end (by kernel_rfl) ?_
  refine jx_then ?_
  refine jc_cond t_1 (by kernel_rfl) (fun hc_2 => ?_) (fun hc_2 => ?_)
  · replace h := ifT hc_2 h
    refine jc_draw [⟨some p2_b, 2, [(.int .i64 p2)]⟩, ⟨some p3_b, 2, [(.int .i64 p3)]⟩, ⟨some p5_b, 27, [(.int .i16 p5.fSteps), (.slice p5_fHammers_a p5.fHammers.length p5_fHammers_c)]⟩] 15 (by kernel_rfl) (by kernel_rfl) ?_
    refine jd_f [⟨1, 0, 0⟩, ⟨2, 0, 0⟩, ⟨3, 0, 0⟩, ⟨4, 0, 0⟩, ⟨5, 0, 0⟩, ⟨6, 2, 0⟩, ⟨7, 0, 0⟩] 8 (by kernel_rfl) (by kernel_rfl) (fun w h => h.pick [0, 1, 4] (by kernel_rfl) (by kernel_rfl)) (by kernel_rfl) (by kernel_rfl) ?_
    obtain ⟨x_2, hx_13, h⟩ := bd h
    refine jd_v 8 0 (by kernel_rfl) (fun w h => h.pick [0, 1, 4] (by kernel_rfl) (by kernel_rfl)) (by kernel_rfl) (by kernel_rfl) _ (fun w hm => idx_run (a := p5_fHammers_a) (len := p5.fHammers.length) (s := 2) (j := track1) (by kernel_rfl) (ix_some hx_13).1 (ltn hx_13 rfl) (p5_fHammers_h.sp hx_13)) ?_
    refine jd_f [⟨9, 0, 0⟩] 6 (by kernel_rfl) (by kernel_rfl) (fun w h => h.pick [0, 1, 4] (by kernel_rfl) (by kernel_rfl)) (by kernel_rfl) (by kernel_rfl) ?_
    refine jd_v 10 0 (by kernel_rfl) (fun w h => h.pick [0, 1, 4] (by kernel_rfl) (by kernel_rfl)) (by kernel_rfl) (by kernel_rfl) _ (fun w hm => ld_run (b := aB p5_fHammers_a) (off := (aO p5_fHammers_a + track1.toNat * 2)) (s := 1) (agg := false) (vs := (((encGHammer x_2).drop 0).take 1)) (by kernel_rfl) (by kernel_rfl) (.inr rfl) (((hm.exRowW p5_fHammers_h p5_fHammers_ha).at hx_13).sub 0 1)) ?_
    refine jd_f [⟨11, 0, 0⟩] 4 (by kernel_rfl) (by kernel_rfl) (fun w h => h.pick [0, 1, 4] (by kernel_rfl) (by kernel_rfl)) (by kernel_rfl) (by kernel_rfl) ?_
    refine toD2 0 12 (by kernel_rfl) ?_ ?_
    · refine p_s 0 [2] (by kernel_rfl) (by kernel_rfl) (jkD (fun w h => h.pick [0, 1, 4] (by kernel_rfl) (by kernel_rfl)) ?_)
      refine toD 12 (by kernel_rfl) (p_a 0 [0] (by kernel_rfl) (fun b => by kernel_rfl) (fun b_14 => jkD (fun w h => h.pick [0, 1, 4] (by kernel_rfl) (by kernel_rfl)) ?_))
      obtain ⟨hg_15, h⟩ := gd h
      refine toD 13 (by kernel_rfl) (p_apn 0 3 p4_o 56 p4.length 1 p4_c 2 4 (some ⟨b_14, 0, none⟩) encGNote p4 [(⟨(w16 (w64 (step0 - p2))), x_2.fPitch⟩ : GNote)] p4_sp (.agg #[(.int .i16 0), (.int .i8 0)]) rfl rfl (by kernel_rfl) (by kernel_rfl) (by kernel_rfl) encGNote_len encGNote_cell p4_hs p4_ho (fun w hm => (hm.ownRow (hh := 5) (o := (some b_14)) (T := 56) (enc := encGNote) (xs := [(⟨(w16 (w64 (step0 - p2))), x_2.fPitch⟩ : GNote)]) (sp := []) (by kernel_rfl) (fun e => nomatch e) encGNote_len)) hg_15 (by kernel_rfl) (by kernel_rfl) (fun o_16 cap_17 sp_18 hs_19 ho_20 => jkD (fun w h => h.pick [0, 1, 4] (by kernel_rfl) (by kernel_rfl)) ?_))
      refine toD 14 (by kernel_rfl) (p_s 0 [2] (by kernel_rfl) (by kernel_rfl) (jkD (fun w h => h.pick [0, 1, 4] (by kernel_rfl) (by kernel_rfl)) ?_))
      refine jd_end (by kernel_rfl) ?_
      refine jx_fall ?_
      obtain rfl := Option.some.inj h
      exact jx_ret [] (.tuple #[]) [] rfl (by kernel_rfl) (by kernel_rfl) (fun w hm => ⟨o_16, cap_17, sp_18, ((p4 ++ [(⟨(w16 (w64 (step0 - p2))), x_2.fPitch⟩ : GNote)]).length), rfl, hs_19, ho_20, rfl, hm.pick [0, 1, 2, 4, 3] (by kernel_rfl) (by kernel_rfl)⟩)
    · refine p_a 0 [0] (by kernel_rfl) (fun b => by kernel_rfl) (fun b_21 => jkD (fun w h => h.pick [0, 1, 4] (by kernel_rfl) (by kernel_rfl)) ?_)
      refine toD 0 (by kernel_rfl) (p_s 0 [2] (by kernel_rfl) (by kernel_rfl) (jkD (fun w h => h.pick [0, 1, 4] (by kernel_rfl) (by kernel_rfl)) ?_))
      obtain ⟨hg_22, h⟩ := gd h
      refine toD 13 (by kernel_rfl) (p_apn 0 3 p4_o 56 p4.length 1 p4_c 2 4 (some ⟨b_21, 0, none⟩) encGNote p4 [(⟨(w16 (w64 (step0 - p2))), x_2.fPitch⟩ : GNote)] p4_sp (.agg #[(.int .i16 0), (.int .i8 0)]) rfl rfl (by kernel_rfl) (by kernel_rfl) (by kernel_rfl) encGNote_len encGNote_cell p4_hs p4_ho (fun w hm => (hm.ownRow (hh := 5) (o := (some b_21)) (T := 56) (enc := encGNote) (xs := [(⟨(w16 (w64 (step0 - p2))), x_2.fPitch⟩ : GNote)]) (sp := []) (by kernel_rfl) (fun e => nomatch e) encGNote_len)) hg_22 (by kernel_rfl) (by kernel_rfl) (fun o_23 cap_24 sp_25 hs_26 ho_27 => jkD (fun w h => h.pick [0, 1, 4] (by kernel_rfl) (by kernel_rfl)) ?_))
      refine toD 14 (by kernel_rfl) (p_s 0 [2] (by kernel_rfl) (by kernel_rfl) (jkD (fun w h => h.pick [0, 1, 4] (by kernel_rfl) (by kernel_rfl)) ?_))
      refine jd_end (by kernel_rfl) ?_
      refine jx_fall ?_
      obtain rfl := Option.some.inj h
      exact jx_ret [] (.tuple #[]) [] rfl (by kernel_rfl) (by kernel_rfl) (fun w hm => ⟨o_23, cap_24, sp_25, ((p4 ++ [(⟨(w16 (w64 (step0 - p2))), x_2.fPitch⟩ : GNote)]).length), rfl, hs_26, ho_27, rfl, hm.pick [0, 1, 2, 4, 3] (by kernel_rfl) (by kernel_rfl)⟩)
  · replace h := ifF hc_2 h
    refine jc_skip ?_
    refine jx_fall ?_
    obtain rfl := Option.some.inj h
    exact jx_ret [] (.tuple #[]) [] rfl (by kernel_rfl) (by kernel_rfl) (fun w hm => ⟨p4_o, p4_c, p4_sp, p4.length, rfl, p4_hs, p4_ho, rfl, hm.pick [0, 1, 2, 4, 3] (by kernel_rfl) (by kernel_rfl)⟩)

/-! ### (impl.Frame).pins -/
noncomputable def impl_Frame_pins_at_impl_Frame_played_1.k_2 (xs_1 : List GNote) : Option ((List GNote)) := some xs_1
noncomputable def impl_Frame_pins_at_impl_Frame_played_1.k_9 (i_4 : Int) (xs_8 : List GNote) : Option (((List GNote) × Int) ⊕ ((List GNote))) := some (.inl (xs_8, (w64 (i_4 + 1))))
noncomputable def impl_Frame_pins_at_impl_Frame_played_1.l_12 (d1 : Arr 96 Int) (g2c0 : Int) (g2c1 : Int) (g2c3 : GFrame) (i_4 : Int) (t_7 : Int) : ((List GNote) × Int) → Option (((List GNote) × Int) ⊕ ((List GNote)))
  | (xs_10, i_11) => (if (decide (i_11 < t_7)) = true then (impl_Drum_has d1 i_4 i_11).bind fun t_14 => (if t_14 = true then (impl_Frame_played_1 i_4 i_11 g2c0 g2c1 xs_10 g2c3).bind fun t_15 => some (.inl (t_15, (w64 (i_11 + 1)))) else some (.inl (xs_10, (w64 (i_11 + 1))))) else some (.inr xs_10))
noncomputable def impl_Frame_pins_at_impl_Frame_played_1.l_5 (f0 : GFrame) (d1 : Arr 96 Int) (g2c0 : Int) (g2c1 : Int) (g2c3 : GFrame) : ((List GNote) × Int) → Option (((List GNote) × Int) ⊕ ((List GNote)))
  | (xs_3, i_4) => (if (decide (i_4 < (w64 f0.fSteps))) = true then (impl_size_Hammer f0.fHammers).bind fun t_7 => (loop (impl_Frame_pins_at_impl_Frame_played_1.l_12 d1 g2c0 g2c1 g2c3 i_4 t_7) (xs_3, 0)).bind fun t_13 => impl_Frame_pins_at_impl_Frame_played_1.k_9 i_4 t_13 else some (.inr xs_3))
noncomputable def impl_Frame_pins_at_impl_Frame_played_1 (f0 : GFrame) (d1 : Arr 96 Int) (g2c0 : Int) (g2c1 : Int) (g2c2 : List GNote) (g2c3 : GFrame) : Option ((List GNote)) := (loop (impl_Frame_pins_at_impl_Frame_played_1.l_5 f0 d1 g2c0 g2c1 g2c3) (g2c2, 0)).bind fun t_6 => impl_Frame_pins_at_impl_Frame_played_1.k_2 t_6
set_option maxRecDepth 100000 in
theorem impl_Frame_pins_at_impl_Frame_played_1.calls (f0 : GFrame) (d1 : Arr 96 Int) (g2c0 : Int) (g2c1 : Int) (g2c2 : List GNote) (g2c3 : GFrame) (w : World) (r : (List GNote)) (f0_fHammers_a : Option Addr) (f0_fHammers_an : Nat) (f0_fHammers_c : Nat) (f0_fHammers_h : Rw w f0_fHammers_a 2 encGHammer f0.fHammers) (f0_fHammers_hn : f0.fHammers.length = f0_fHammers_an) (g2c3_fHammers_a : Option Addr) (g2c3_fHammers_an : Nat) (g2c3_fHammers_c : Nat) (g2c3_fHammers_h : Rw w g2c3_fHammers_a 2 encGHammer g2c3.fHammers) (g2c3_fHammers_hn : g2c3.fHammers.length = g2c3_fHammers_an) (g2c0_b : Nat) (g2c1_b : Nat) (g2c2_b : Nat) (g2c2_o : Option Nat) (g2c2_on : Nat) (g2c2_c : Nat) (g2c2_sp : List Value) (g2c2_hn : g2c2.length = g2c2_on) (g2c2_hs : g2c2_o ≠ none → g2c2_on ≤ g2c2_c ∧ g2c2_sp.length = (g2c2_c - g2c2_on) * 2) (g2c2_ho : g2c2_o = none → g2c2 = [] ∧ g2c2_c = 0) (g2c3_b : Nat) (hm0 : Mem w (bs [some g2c0_b, some g2c1_b, some g2c2_b, g2c2_o, some g2c3_b]) [⟨some g2c0_b, 2, [(.int .i64 g2c0)]⟩, ⟨some g2c1_b, 2, [(.int .i64 g2c1)]⟩, ⟨some g2c2_b, 28, [(.slice (g2c2_o.map fun b => ⟨b, 0, none⟩) g2c2_on g2c2_c)]⟩, ⟨g2c2_o, 56, row encGNote g2c2 g2c2_sp⟩, ⟨some g2c3_b, 27, [(.int .i16 g2c3.fSteps), (.slice g2c3_fHammers_a g2c3_fHammers_an g2c3_fHammers_c)]⟩] w) (f0_fHammers_ha : f0.fHammers ≠ [] → aB f0_fHammers_a ∉ bs [some g2c0_b, some g2c1_b, some g2c2_b, g2c2_o, some g2c3_b]) (g2c3_fHammers_ha : g2c3.fHammers ≠ [] → aB g2c3_fHammers_a ∉ bs [some g2c0_b, some g2c1_b, some g2c2_b, g2c2_o, some g2c3_b]) (h : impl_Frame_pins_at_impl_Frame_played_1 f0 d1 g2c0 g2c1 g2c2 g2c3 = some r) :
    Calls Tryz.prog 73 #[(.agg #[(.int .i16 f0.fSteps), (.slice f0_fHammers_a f0_fHammers_an f0_fHammers_c)]), (.agg (row encU32 d1.1 []).toArray), (.func (.func 74) #[] #[(.pointer (some ⟨g2c0_b, 0, none⟩)), (.pointer (some ⟨g2c1_b, 0, none⟩)), (.pointer (some ⟨g2c2_b, 0, none⟩)), (.pointer (some ⟨g2c3_b, 0, none⟩))])] w fun e w' => ∃ v, e = .returned v ∧ (∃ (mo0 : Option Nat) (mc0 : Nat) (ms0 : List Value) (mn0 : Nat), r.length = mn0 ∧ (mo0 ≠ none → mn0 ≤ mc0 ∧ ms0.length = (mc0 - mn0) * 2) ∧ (mo0 = none → r = [] ∧ mc0 = 0) ∧ v = .tuple #[] ∧ Mem w (bs [some g2c0_b, some g2c1_b, some g2c2_b, g2c2_o, some g2c3_b]) [⟨some g2c0_b, 2, [(.int .i64 g2c0)]⟩, ⟨some g2c1_b, 2, [(.int .i64 g2c1)]⟩, ⟨some g2c2_b, 28, [(.slice (mo0.map fun b => ⟨b, 0, none⟩) mn0 mc0)]⟩, ⟨some g2c3_b, 27, [(.int .i16 g2c3.fSteps), (.slice g2c3_fHammers_a g2c3_fHammers_an g2c3_fHammers_c)]⟩, ⟨mo0, 56, row encGNote r ms0⟩] w') := by
  subst f0_fHammers_hn g2c3_fHammers_hn g2c2_hn
  rw [impl_Frame_pins_at_impl_Frame_played_1] at h
  refine enter (args := [(.agg #[(.int .i16 f0.fSteps), (.slice f0_fHammers_a f0.fHammers.length f0_fHammers_c)]), (.agg (row encU32 d1.1 []).toArray), (.func (.func 74) #[] #[(.pointer (some ⟨g2c0_b, 0, none⟩)), (.pointer (some ⟨g2c1_b, 0, none⟩)), (.pointer (some ⟨g2c2_b, 0, none⟩)), (.pointer (some ⟨g2c3_b, 0, none⟩))])]) Tryz.func73 rfl Tryz.ntmps73 (by kernel_rfl) (L := [⟨some g2c0_b, 2, [(.int .i64 g2c0)]⟩, ⟨some g2c1_b, 2, [(.int .i64 g2c1)]⟩, ⟨some g2c2_b, 28, [(.slice (g2c2_o.map fun b => ⟨b, 0, none⟩) g2c2.length g2c2_c)]⟩, ⟨g2c2_o, 56, row encGNote g2c2 g2c2_sp⟩, ⟨some g2c3_b, 27, [(.int .i16 g2c3.fSteps), (.slice g2c3_fHammers_a g2c3.fHammers.length g2c3_fHammers_c)]⟩]) (W := bs [some g2c0_b, some g2c1_b, some g2c2_b, g2c2_o, some g2c3_b]) hm0 ?_
  refine jc_seq ?_
  refine jc_region ?_
  refine toO (by kernel_rfl) (p_a 0 [0] (by kernel_rfl) (fun b => by kernel_rfl) (fun b_1 => jkO ?_))
  refine toO (by kernel_rfl) (p_a 0 [0] (by kernel_rfl) (fun b => by kernel_rfl) (fun b_2 => jkO ?_))
  refine jo_end (by kernel_rfl) ?_
  refine jx_then ?_
  refine jc_seq ?_
  refine jc_region ?_
  refine jo_f [(0, 0), (5, 0), (0, 0), (0, 0)] (by kernel_rfl) ?_
  refine jo_end (by kernel_rfl) ?_
  refine jx_then ?_
  refine jc_meet (fun (j : (List GNote) × (Option Nat) × Nat × (List Value) × Nat) => match j with | ⟨xs_1, o_322, cap_323, sp_324, n_325⟩ => impl_Frame_pins_at_impl_Frame_played_1.k_2 xs_1 = some r ∧ (xs_1.length = n_325) ∧ ((o_322 ≠ none → n_325 ≤ cap_323 ∧ sp_324.length = (cap_323 - n_325) * 2)) ∧ ((o_322 = none → xs_1 = [] ∧ cap_323 = 0))) (fun (j : (List GNote) × (Option Nat) × Nat × (List Value) × Nat) => match j with | ⟨xs_1, o_322, cap_323, sp_324, n_325⟩ => []) (fun (j : (List GNote) × (Option Nat) × Nat × (List Value) × Nat) => match j with | ⟨xs_1, o_322, cap_323, sp_324, n_325⟩ => [⟨some g2c0_b, 2, [(.int .i64 g2c0)]⟩, ⟨some g2c1_b, 2, [(.int .i64 g2c1)]⟩, ⟨some g2c2_b, 28, [(.slice (o_322.map fun b => ⟨b, 0, none⟩) n_325 cap_323)]⟩, ⟨o_322, 56, row encGNote xs_1 sp_324⟩, ⟨some g2c3_b, 27, [(.int .i16 g2c3.fSteps), (.slice g2c3_fHammers_a g2c3.fHammers.length g2c3_fHammers_c)]⟩, ⟨some b_1, 27, [(.int .i16 f0.fSteps), (.slice f0_fHammers_a f0.fHammers.length f0_fHammers_c)]⟩, ⟨(some b_2), 39, row encU32 d1.1 []⟩]) ?_ ?_
  · refine jc_block ?_
    obtain ⟨t_6, ht_646, hr_542⟩ := bd h
    refine jc_loop (fun (s : (List GNote) × Int) (x : (Option Nat) × Nat × (List Value) × Nat) => match s, x with | ⟨xs_3, i_4⟩, ⟨o_536, cap_537, sp_538, n_539⟩ => (xs_3.length = n_539) ∧ ((o_536 ≠ none → n_539 ≤ cap_537 ∧ sp_538.length = (cap_537 - n_539) * 2)) ∧ ((o_536 = none → xs_3 = [] ∧ cap_537 = 0))) (fun (s : (List GNote) × Int) (x : (Option Nat) × Nat × (List Value) × Nat) => match s, x with | ⟨xs_3, i_4⟩, ⟨o_536, cap_537, sp_538, n_539⟩ => [(2, [], (.func (.func 74) #[] #[(.pointer (some ⟨g2c0_b, 0, none⟩)), (.pointer (some ⟨g2c1_b, 0, none⟩)), (.pointer (some ⟨g2c2_b, 0, none⟩)), (.pointer (some ⟨g2c3_b, 0, none⟩))])), (3, [], (.pointer (some ⟨b_1, 0, none⟩))), (4, [], (.pointer (some ⟨b_2, 0, none⟩))), (10, [], (.int .i64 (w64 f0.fSteps))), (11, [], (.int .i64 i_4))]) (fun (s : (List GNote) × Int) (x : (Option Nat) × Nat × (List Value) × Nat) => match s, x with | ⟨xs_3, i_4⟩, ⟨o_536, cap_537, sp_538, n_539⟩ => [⟨some g2c0_b, 2, [(.int .i64 g2c0)]⟩, ⟨some g2c1_b, 2, [(.int .i64 g2c1)]⟩, ⟨some g2c2_b, 28, [(.slice (o_536.map fun b => ⟨b, 0, none⟩) n_539 cap_537)]⟩, ⟨o_536, 56, row encGNote xs_3 sp_538⟩, ⟨some g2c3_b, 27, [(.int .i16 g2c3.fSteps), (.slice g2c3_fHammers_a g2c3.fHammers.length g2c3_fHammers_c)]⟩, ⟨some b_1, 27, [(.int .i16 f0.fSteps), (.slice f0_fHammers_a f0.fHammers.length f0_fHammers_c)]⟩, ⟨(some b_2), 39, row encU32 d1.1 []⟩]) ht_646 ⟨g2c2_o, g2c2_c, g2c2_sp, g2c2.length⟩ ⟨rfl, g2c2_hs, g2c2_ho⟩ (by kernel_rfl) [0, 1, 2, 3, 4, 5, 6] (by kernel_rfl) (by kernel_rfl) ?_
    rintro ⟨xs_3, i_4⟩ ⟨o_536, cap_537, sp_538, n_539⟩ y_543 ⟨rfl, hs_540, ho_541⟩ h
    rw [impl_Frame_pins_at_impl_Frame_played_1.l_5] at h
    refine jc_seq ?_
    refine jc_region ?_
    refine jo_f [(0, 0)] (by kernel_rfl) ?_
    refine jo_end (by kernel_rfl) ?_
    refine jx_then ?_
    refine jc_seq ?_
    refine jc_cond (decide (i_4 < (w64 f0.fSteps))) (by kernel_rfl) (fun hc_545 => ?_) (fun hc_545 => ?_)
    · replace h := ifT hc_545 h
      refine jc_skip ?_
      refine jx_then ?_
      refine jc_seq ?_
      refine jc_block ?_
      refine jc_seq ?_
      refine jc_region ?_
      refine jo_f [(0, 0), (0, 0)] (by kernel_rfl) ?_
      refine jo_end (by kernel_rfl) ?_
      refine jx_then ?_
      refine jc_seq ?_
      refine jc_region ?_
      refine jo_f [(0, 0), (5, 0)] (by kernel_rfl) ?_
      obtain ⟨t_7, ht_546, h⟩ := bd h
      refine toO (by kernel_rfl) (p_call 0 82 #[(.slice f0_fHammers_a f0.fHammers.length f0_fHammers_c)] (by kernel_rfl) (by kernel_rfl) (fun w hm => impl_size_Hammer.calls f0.fHammers w _ f0_fHammers_a f0.fHammers.length f0_fHammers_c (hm.exRowW f0_fHammers_h f0_fHammers_ha) rfl ht_546) ?_)
      rintro w v w' hm ⟨rfl, hm'⟩
      refine ⟨_, hm.app hm', jkO ?_⟩
      clear hm hm'
      refine jo_f [(0, 0)] (by kernel_rfl) ?_
      refine jo_end (by kernel_rfl) ?_
      refine jx_then ?_
      refine jc_meet (fun (j : (List GNote) × (Option Nat) × Nat × (List Value) × Nat) => match j with | ⟨xs_8, o_593, cap_594, sp_595, n_596⟩ => impl_Frame_pins_at_impl_Frame_played_1.k_9 i_4 xs_8 = some y_543 ∧ (xs_8.length = n_596) ∧ ((o_593 ≠ none → n_596 ≤ cap_594 ∧ sp_595.length = (cap_594 - n_596) * 2)) ∧ ((o_593 = none → xs_8 = [] ∧ cap_594 = 0))) (fun (j : (List GNote) × (Option Nat) × Nat × (List Value) × Nat) => match j with | ⟨xs_8, o_593, cap_594, sp_595, n_596⟩ => [(2, [], (.func (.func 74) #[] #[(.pointer (some ⟨g2c0_b, 0, none⟩)), (.pointer (some ⟨g2c1_b, 0, none⟩)), (.pointer (some ⟨g2c2_b, 0, none⟩)), (.pointer (some ⟨g2c3_b, 0, none⟩))])), (3, [], (.pointer (some ⟨b_1, 0, none⟩))), (4, [], (.pointer (some ⟨b_2, 0, none⟩))), (10, [], (.int .i64 (w64 f0.fSteps))), (11, [], (.int .i64 i_4))]) (fun (j : (List GNote) × (Option Nat) × Nat × (List Value) × Nat) => match j with | ⟨xs_8, o_593, cap_594, sp_595, n_596⟩ => [⟨some g2c0_b, 2, [(.int .i64 g2c0)]⟩, ⟨some g2c1_b, 2, [(.int .i64 g2c1)]⟩, ⟨some g2c2_b, 28, [(.slice (o_593.map fun b => ⟨b, 0, none⟩) n_596 cap_594)]⟩, ⟨o_593, 56, row encGNote xs_8 sp_595⟩, ⟨some g2c3_b, 27, [(.int .i16 g2c3.fSteps), (.slice g2c3_fHammers_a g2c3.fHammers.length g2c3_fHammers_c)]⟩, ⟨some b_1, 27, [(.int .i16 f0.fSteps), (.slice f0_fHammers_a f0.fHammers.length f0_fHammers_c)]⟩, ⟨(some b_2), 39, row encU32 d1.1 []⟩]) ?_ ?_
      · refine jc_block ?_
        obtain ⟨t_13, ht_644, hr_631⟩ := bd h
        refine jc_loop (fun (s : (List GNote) × Int) (x : (Option Nat) × Nat × (List Value) × Nat) => match s, x with | ⟨xs_10, i_11⟩, ⟨o_625, cap_626, sp_627, n_628⟩ => (xs_10.length = n_628) ∧ ((o_625 ≠ none → n_628 ≤ cap_626 ∧ sp_627.length = (cap_626 - n_628) * 2)) ∧ ((o_625 = none → xs_10 = [] ∧ cap_626 = 0))) (fun (s : (List GNote) × Int) (x : (Option Nat) × Nat × (List Value) × Nat) => match s, x with | ⟨xs_10, i_11⟩, ⟨o_625, cap_626, sp_627, n_628⟩ => [(2, [], (.func (.func 74) #[] #[(.pointer (some ⟨g2c0_b, 0, none⟩)), (.pointer (some ⟨g2c1_b, 0, none⟩)), (.pointer (some ⟨g2c2_b, 0, none⟩)), (.pointer (some ⟨g2c3_b, 0, none⟩))])), (3, [], (.pointer (some ⟨b_1, 0, none⟩))), (4, [], (.pointer (some ⟨b_2, 0, none⟩))), (6, [], (.int .i64 i_4)), (10, [], (.int .i64 (w64 f0.fSteps))), (11, [], (.int .i64 i_4)), (16, [], (.int .i64 t_7)), (17, [], (.int .i64 i_11))]) (fun (s : (List GNote) × Int) (x : (Option Nat) × Nat × (List Value) × Nat) => match s, x with | ⟨xs_10, i_11⟩, ⟨o_625, cap_626, sp_627, n_628⟩ => [⟨some g2c0_b, 2, [(.int .i64 g2c0)]⟩, ⟨some g2c1_b, 2, [(.int .i64 g2c1)]⟩, ⟨some g2c2_b, 28, [(.slice (o_625.map fun b => ⟨b, 0, none⟩) n_628 cap_626)]⟩, ⟨o_625, 56, row encGNote xs_10 sp_627⟩, ⟨some g2c3_b, 27, [(.int .i16 g2c3.fSteps), (.slice g2c3_fHammers_a g2c3.fHammers.length g2c3_fHammers_c)]⟩, ⟨some b_1, 27, [(.int .i16 f0.fSteps), (.slice f0_fHammers_a f0.fHammers.length f0_fHammers_c)]⟩, ⟨(some b_2), 39, row encU32 d1.1 []⟩]) ht_644 ⟨o_536, cap_537, sp_538, xs_3.length⟩ ⟨rfl, hs_540, ho_541⟩ (by kernel_rfl) [0, 1, 2, 3, 4, 5, 6] (by kernel_rfl) (by kernel_rfl) ?_
        rintro ⟨xs_10, i_11⟩ ⟨o_625, cap_626, sp_627, n_628⟩ y_632 ⟨rfl, hs_629, ho_630⟩ h
        rw [impl_Frame_pins_at_impl_Frame_played_1.l_12] at h
        refine jc_seq ?_
        refine jc_region ?_
        refine jo_f [(0, 0)] (by kernel_rfl) ?_
        refine jo_end (by kernel_rfl) ?_
        refine jx_then ?_
        refine jc_seq ?_
        refine jc_cond (decide (i_11 < t_7)) (by kernel_rfl) (fun hc_634 => ?_) (fun hc_634 => ?_)
        · replace h := ifT hc_634 h
          refine jc_skip ?_
          refine jx_then ?_
          refine jc_seq ?_
          refine jc_block ?_
          refine jc_seq ?_
          refine jc_region ?_
          refine jo_f [(0, 0), (0, 0)] (by kernel_rfl) ?_
          refine jo_end (by kernel_rfl) ?_
          refine jx_then ?_
          refine jc_seq ?_
          refine jc_region ?_
          refine jo_f [(0, 0), (0, 0)] (by kernel_rfl) ?_
          obtain ⟨t_14, ht_635, h⟩ := bd h
          refine toO (by kernel_rfl) (p_call 0 107 #[(.pointer (some ⟨b_2, 0, none⟩)), (.int .i64 i_4), (.int .i64 i_11)] (by kernel_rfl) (by kernel_rfl) (fun w hm => impl_Drum_has.calls d1 i_4 i_11 w _ b_2 (hm.pass (N := [⟨(some b_2), 39, row encU32 d1.1 []⟩]) [6] (by kernel_rfl) (by kernel_rfl)) ht_635) ?_)
          rintro w v w' hm ⟨rfl, hm'⟩
          refine ⟨_, hm.appW (ps := [(6, ⟨(some b_2), 39, row encU32 d1.1 []⟩)]) (N := []) hm' (by kernel_rfl) (by kernel_rfl), jkO ?_⟩
          clear hm hm'
          refine jo_end (by kernel_rfl) ?_
          refine jx_then ?_
          refine jc_cond t_14 (by kernel_rfl) (fun hc_636 => ?_) (fun hc_636 => ?_)
          · replace h := ifT hc_636 h
            refine jc_region ?_
            refine jo_f [(0, 0), (0, 0), (0, 0)] (by kernel_rfl) ?_
            obtain ⟨t_15, ht_637, h⟩ := bd h
            refine toO (by kernel_rfl) (p_call 0 74 #[(.int .i64 i_4), (.int .i64 i_11), (.pointer (some ⟨g2c0_b, 0, none⟩)), (.pointer (some ⟨g2c1_b, 0, none⟩)), (.pointer (some ⟨g2c2_b, 0, none⟩)), (.pointer (some ⟨g2c3_b, 0, none⟩))] (by kernel_rfl) (by kernel_rfl) (fun w hm => impl_Frame_played_1.calls i_4 i_11 g2c0 g2c1 xs_10 g2c3 w _ g2c3_fHammers_a g2c3.fHammers.length g2c3_fHammers_c (hm.exRowW g2c3_fHammers_h g2c3_fHammers_ha) rfl g2c0_b g2c1_b g2c2_b o_625 xs_10.length cap_626 sp_627 rfl hs_629 ho_630 g2c3_b (hm.pass (N := [⟨some g2c0_b, 2, [(.int .i64 g2c0)]⟩, ⟨some g2c1_b, 2, [(.int .i64 g2c1)]⟩, ⟨some g2c2_b, 28, [(.slice (o_625.map fun b => ⟨b, 0, none⟩) xs_10.length cap_626)]⟩, ⟨o_625, 56, row encGNote xs_10 sp_627⟩, ⟨some g2c3_b, 27, [(.int .i16 g2c3.fSteps), (.slice g2c3_fHammers_a g2c3.fHammers.length g2c3_fHammers_c)]⟩]) [0, 1, 2, 3, 4] (by kernel_rfl) (by kernel_rfl)) (hm.exApart (N := [⟨some g2c0_b, 2, [(.int .i64 g2c0)]⟩, ⟨some g2c1_b, 2, [(.int .i64 g2c1)]⟩, ⟨some g2c2_b, 28, [(.slice (o_625.map fun b => ⟨b, 0, none⟩) xs_10.length cap_626)]⟩, ⟨o_625, 56, row encGNote xs_10 sp_627⟩, ⟨some g2c3_b, 27, [(.int .i16 g2c3.fSteps), (.slice g2c3_fHammers_a g2c3.fHammers.length g2c3_fHammers_c)]⟩]) g2c3_fHammers_h g2c3_fHammers_ha [0, 1, 2, 3, 4] (by kernel_rfl)) ht_637) ?_)
            rintro w v w' hm ⟨o_638, cap_639, sp_640, _, rfl, hs_641, ho_642, rfl, hm'⟩
            refine ⟨_, Mem.pick (hm.appP (ps := [(0, ⟨some g2c0_b, 2, [(.int .i64 g2c0)]⟩), (1, ⟨some g2c1_b, 2, [(.int .i64 g2c1)]⟩), (2, ⟨some g2c2_b, 28, [(.slice (o_638.map fun b => ⟨b, 0, none⟩) t_15.length cap_639)]⟩), (4, ⟨some g2c3_b, 27, [(.int .i16 g2c3.fSteps), (.slice g2c3_fHammers_a g2c3.fHammers.length g2c3_fHammers_c)]⟩)]) (ds := [3]) (N := [⟨o_638, 56, row encGNote t_15 sp_640⟩]) hm' [0, 1, 2, 4, 3] (by kernel_rfl) (by kernel_rfl) (by kernel_rfl)) (N := [⟨some g2c0_b, 2, [(.int .i64 g2c0)]⟩, ⟨some g2c1_b, 2, [(.int .i64 g2c1)]⟩, ⟨some g2c2_b, 28, [(.slice (o_638.map fun b => ⟨b, 0, none⟩) t_15.length cap_639)]⟩, ⟨o_638, 56, row encGNote t_15 sp_640⟩, ⟨some g2c3_b, 27, [(.int .i16 g2c3.fSteps), (.slice g2c3_fHammers_a g2c3.fHammers.length g2c3_fHammers_c)]⟩, ⟨some b_1, 27, [(.int .i16 f0.fSteps), (.slice f0_fHammers_a f0.fHammers.length f0_fHammers_c)]⟩, ⟨(some b_2), 39, row encU32 d1.1 []⟩]) [0, 1, 2, 7, 4, 5, 6] (by kernel_rfl) (by kernel_rfl), jkO ?_⟩
            clear hm hm'
            refine jo_end (by kernel_rfl) ?_
            refine jx_inn ?_
            refine jx_then ?_
            refine jc_region ?_
            refine jo_f [(0, 0), (0, 0)] (by kernel_rfl) ?_
            refine jo_end (by kernel_rfl) ?_
            exact jx_back (t_15, (w64 (i_11 + 1))) ⟨o_638, cap_639, sp_640, t_15.length⟩ (Option.some.inj h).symm ⟨rfl, hs_641, ho_642⟩ [0, 1, 2, 3, 4, 5, 6] (by kernel_rfl) (by kernel_rfl) (by kernel_rfl)
          · replace h := ifF hc_636 h
            refine jc_skip ?_
            refine jx_inn ?_
            refine jx_then ?_
            refine jc_region ?_
            refine jo_f [(0, 0), (0, 0)] (by kernel_rfl) ?_
            refine jo_end (by kernel_rfl) ?_
            exact jx_back (xs_10, (w64 (i_11 + 1))) ⟨o_625, cap_626, sp_627, xs_10.length⟩ (Option.some.inj h).symm ⟨rfl, hs_629, ho_630⟩ [0, 1, 2, 3, 4, 5, 6] (by kernel_rfl) (by kernel_rfl) (by kernel_rfl)
        · replace h := ifF hc_634 h
          refine jc_exit ?_
          refine jx_thenx ?_
          refine jx_leave xs_10 (Option.some.inj h).symm (fun e_643 => ?_)
          subst e_643
          refine jx_ine ?_
          exact jx_meet ⟨xs_10, o_625, cap_626, sp_627, xs_10.length⟩ ⟨hr_631, rfl, hs_629, ho_630⟩ (by kernel_rfl) [0, 1, 2, 3, 4, 5, 6] (by kernel_rfl) (by kernel_rfl)
      · rintro ⟨xs_8, o_593, cap_594, sp_595, n_596⟩ ⟨h, rfl, hs_597, ho_598⟩
        replace h : impl_Frame_pins_at_impl_Frame_played_1.k_9 i_4 xs_8 = some y_543 := h
        rw [impl_Frame_pins_at_impl_Frame_played_1.k_9] at h
        refine jx_inn ?_
        refine jx_then ?_
        refine jc_region ?_
        refine jo_f [(0, 0), (0, 0)] (by kernel_rfl) ?_
        refine jo_end (by kernel_rfl) ?_
        exact jx_back (xs_8, (w64 (i_4 + 1))) ⟨o_593, cap_594, sp_595, xs_8.length⟩ (Option.some.inj h).symm ⟨rfl, hs_597, ho_598⟩ [0, 1, 2, 3, 4, 5, 6] (by kernel_rfl) (by kernel_rfl) (by kernel_rfl)
    · replace h := ifF hc_545 h
      refine jc_exit ?_
      refine jx_thenx ?_
      refine jx_leave xs_3 (Option.some.inj h).symm (fun e_645 => ?_)
      subst e_645
      refine jx_ine ?_
      exact jx_meet ⟨xs_3, o_536, cap_537, sp_538, xs_3.length⟩ ⟨hr_542, rfl, hs_540, ho_541⟩ (by kernel_rfl) [0, 1, 2, 3, 4, 5, 6] (by kernel_rfl) (by kernel_rfl)
  · rintro ⟨xs_1, o_322, cap_323, sp_324, n_325⟩ ⟨h, rfl, hs_326, ho_327⟩
    replace h : impl_Frame_pins_at_impl_Frame_played_1.k_2 xs_1 = some r := h
    rw [impl_Frame_pins_at_impl_Frame_played_1.k_2] at h
    refine jx_fall ?_
    obtain rfl := Option.some.inj h
    exact jx_ret [] (.tuple #[]) [] rfl (by kernel_rfl) (by kernel_rfl) (fun w hm => ⟨o_322, cap_323, sp_324, xs_1.length, rfl, hs_326, ho_327, rfl, hm.pick [0, 1, 2, 4, 3] (by kernel_rfl) (by kernel_rfl)⟩)

/-! ### slices.Clone[[]impl.Note,impl.Note] -/
noncomputable def slices_Clone_Note (s0 : List GNote) : Option ((List GNote)) := (if ([] : List GNote).length + s0.length ≤ 4294967296 then some (([] : List GNote) ++ s0) else none)
set_option maxRecDepth 100000 in
theorem slices_Clone_Note.calls (s0 : List GNote) (w : World) (r : (List GNote)) (s0_a : Option Addr) (s0_an : Nat) (s0_c : Nat) (s0_h : Rw w s0_a 2 encGNote s0) (s0_hn : s0.length = s0_an) (h : slices_Clone_Note s0 = some r) :
    Calls Tryz.prog 108 #[(.slice s0_a s0_an s0_c)] w fun e w' => ∃ v, e = .returned v ∧ (∃ (o0 : Option Nat) (c0 : Nat) (s0 : List Value) (n0 : Nat), r.length = n0 ∧ (o0 ≠ none → n0 ≤ c0 ∧ s0.length = (c0 - n0) * 2) ∧ (o0 = none → r = [] ∧ c0 = 0) ∧ v = .slice (o0.map fun b => ⟨b, 0, none⟩) n0 c0 ∧ Mem w [] [⟨o0, 56, row encGNote r s0⟩] w') := by
  subst s0_hn
  rw [slices_Clone_Note] at h
  refine enter (args := [(.slice s0_a s0.length s0_c)]) Tryz.func108 rfl Tryz.ntmps108 (by kernel_rfl) (L := []) (W := []) (Mem.start w) ?_
  refine jc_seq ?_
  refine jc_region ?_
  refine jo_f [(0, 0)] (by kernel_rfl) ?_
  refine jo_end (by kernel_rfl) ?_
  refine jx_then ?_
  refine jc_seq ?_
  refine jc_seq ?_
  refine jc_region ?_
  refine jo_f [(0, 0)] (by kernel_rfl) ?_
  by_cases hn_4 : s0_a = none
  · have hx0 : s0 = [] := (nil_of s0_h hn_4)
    replace h : some [] = some r := by simpa [hx0] using h
    refine toO (by kernel_rfl) (p_nil 0 s0_a true true (by kernel_rfl) (by kernel_rfl) (by rw [hn_4]; rfl) (jkO ?_))
    refine jo_end (by kernel_rfl) ?_
    refine jx_then ?_
    refine jc_cond true (by kernel_rfl) (fun hc_5 => ?_) (fun hc_5 => nomatch hc_5)
    refine jc_seq ?_
    refine jc_region ?_
    refine jo_f [(0, 0)] (by kernel_rfl) ?_
    refine jo_end (by kernel_rfl) ?_
    refine jx_then ?_
    refine jc_ret ?_
    refine jx_thenr ?_
    obtain rfl := Option.some.inj h
    refine jx_ghost 56 encGNote ?_
    exact jx_ret [] (.slice none 0 0) [] rfl (by kernel_rfl) (by kernel_rfl) (fun w hm => ⟨none, 0, [], 0, rfl, (fun e => absurd rfl e), (fun _ => ⟨rfl, rfl⟩), rfl, hm.pick [0] (by kernel_rfl) (by kernel_rfl)⟩)
  · refine toO (by kernel_rfl) (p_nil 0 s0_a true false (by kernel_rfl) (by kernel_rfl) (by rw [Option.isNone_eq_false_iff.2 (Option.ne_none_iff_isSome.1 hn_4)]; rfl) (jkO ?_))
    refine jo_end (by kernel_rfl) ?_
    refine jx_then ?_
    refine jc_cond false (by kernel_rfl) (fun hc_6 => nomatch hc_6) (fun hc_6 => ?_)
    refine jc_skip ?_
    refine jx_then ?_
    refine jc_seq ?_
    refine jc_region ?_
    refine toO (by kernel_rfl) (p_a 0 [0] (by kernel_rfl) (fun b => by kernel_rfl) (fun b_7 => jkO ?_))
    refine jo_f [(0, 0)] (by kernel_rfl) ?_
    obtain ⟨hg_8, h⟩ := gd h
    refine toO (by kernel_rfl) (p_apn 0 0 (some b_7) 56 0 s0.length 0 2 4 s0_a encGNote ([] : List GNote) s0 [] (.agg #[(.int .i16 0), (.int .i8 0)]) rfl rfl (by kernel_rfl) (by kernel_rfl) (by kernel_rfl) encGNote_len encGNote_cell (fun _ => ⟨Nat.le_refl _, by simp⟩) (fun e => nomatch e) (fun w hm => (hm.exRow s0_h List.not_mem_nil)) hg_8 (by kernel_rfl) (by kernel_rfl) (fun o_9 cap_10 sp_11 hs_12 ho_13 => jkO ?_))
    refine jo_f [(0, 0)] (by kernel_rfl) ?_
    refine jo_end (by kernel_rfl) ?_
    refine jx_then ?_
    refine jc_ret ?_
    obtain rfl := Option.some.inj h
    exact jx_ret [] (.slice (o_9.map fun b => ⟨b, 0, none⟩) ((([] : List GNote) ++ s0).length) cap_10) [] rfl (by kernel_rfl) (by kernel_rfl) (fun w hm => ⟨o_9, cap_10, sp_11, ((([] : List GNote) ++ s0).length), rfl, hs_12, ho_13, rfl, hm.pick [0] (by kernel_rfl) (by kernel_rfl)⟩)

def lay_slices_SortFunc_Note_at_impl_compareNotes_ren : Go.Shelf.Ren := ⟨fun | 6 => 109 | 15 => 140 | 14 => 139 | 28 => 168 | 29 => 155 | 20 => 160 | 21 => 161 | 22 => 162 | 23 => 163 | 24 => 164 | 25 => 165 | 26 => 166 | 27 => 167 | 46 => 176 | 47 => 177 | 48 => 178 | 49 => 179 | 50 => 180 | 57 => 181 | n => n, fun | 22 => 28 | 24 => 56 | 25 => 159 | 3 => 3 | 39 => 105 | 0 => 0 | 53 => 37 | 55 => 99 | 4 => 4 | 46 => 207 | 45 => 206 | 50 => 211 | 5 => 5 | 9 => 9 | 66 => 225 | 70 => 229 | 76 => 233 | 77 => 234 | n => n, fun | n => n⟩
theorem lay_slices_SortFunc_Note_at_impl_compareNotes : Go.Proofs.SlLaysF0.n6 Tryz.prog lay_slices_SortFunc_Note_at_impl_compareNotes_ren where
  mixed := by kernel_rfl
  f6 := ⟨ "slices.SortFunc[[]loop.example/g01311/impl.Note,loop.example/g01311/impl.Note]", by decide, Tryz.func109.trans (congrArg some (by kernel_rfl))⟩
  f14 := ⟨ "slices.pdqsortCmpFunc[loop.example/g01311/impl.Note]", by decide, Tryz.func139.trans (congrArg some (by kernel_rfl))⟩
  f15 := Tryz.func140.trans (congrArg some (by kernel_rfl))
  f20 := ⟨ "slices.insertionSortCmpFunc[loop.example/g01311/impl.Note]", by decide, Tryz.func160.trans (congrArg some (by kernel_rfl))⟩
  f21 := ⟨ "slices.heapSortCmpFunc[loop.example/g01311/impl.Note]", by decide, Tryz.func161.trans (congrArg some (by kernel_rfl))⟩
  f22 := ⟨ "slices.breakPatternsCmpFunc[loop.example/g01311/impl.Note]", by decide, Tryz.func162.trans (congrArg some (by kernel_rfl))⟩
  f23 := ⟨ "slices.choosePivotCmpFunc[loop.example/g01311/impl.Note]", by decide, Tryz.func163.trans (congrArg some (by kernel_rfl))⟩
  f24 := ⟨ "slices.reverseRangeCmpFunc[loop.example/g01311/impl.Note]", by decide, Tryz.func164.trans (congrArg some (by kernel_rfl))⟩
  f25 := ⟨ "slices.partialInsertionSortCmpFunc[loop.example/g01311/impl.Note]", by decide, Tryz.func165.trans (congrArg some (by kernel_rfl))⟩
  f26 := ⟨ "slices.partitionEqualCmpFunc[loop.example/g01311/impl.Note]", by decide, Tryz.func166.trans (congrArg some (by kernel_rfl))⟩
  f27 := ⟨ "slices.partitionCmpFunc[loop.example/g01311/impl.Note]", by decide, Tryz.func167.trans (congrArg some (by kernel_rfl))⟩
  f28 := Tryz.func168.trans (congrArg some (by kernel_rfl))
  f29 := Tryz.func155.trans (congrArg some (by kernel_rfl))
  f46 := ⟨ "slices.siftDownCmpFunc[loop.example/g01311/impl.Note]", by decide, Tryz.func176.trans (congrArg some (by kernel_rfl))⟩
  f47 := Tryz.func177.trans (congrArg some (by kernel_rfl))
  f48 := Tryz.func178.trans (congrArg some (by kernel_rfl))
  f49 := ⟨ "slices.medianAdjacentCmpFunc[loop.example/g01311/impl.Note]", by decide, Tryz.func179.trans (congrArg some (by kernel_rfl))⟩
  f50 := ⟨ "slices.medianCmpFunc[loop.example/g01311/impl.Note]", by decide, Tryz.func180.trans (congrArg some (by kernel_rfl))⟩
  f57 := ⟨ "slices.order2CmpFunc[loop.example/g01311/impl.Note]", by decide, Tryz.func181.trans (congrArg some (by kernel_rfl))⟩
  t0 := Tryz.underlying0
  a0 := Tryz.isAgg0
  z0 := Tryz.sizeOf0
  v0 := Tryz.zeroValue0
  t3 := Tryz.underlying3
  a3 := Tryz.isAgg3
  z3 := Tryz.sizeOf3
  v3 := Tryz.zeroValue3
  t4 := Tryz.underlying4
  a4 := Tryz.isAgg4
  z4 := Tryz.sizeOf4
  v4 := Tryz.zeroValue4
  t5 := Tryz.underlying5
  a5 := Tryz.isAgg5
  z5 := Tryz.sizeOf5
  v5 := Tryz.zeroValue5
  t9 := Tryz.underlying9
  a9 := Tryz.isAgg9
  z9 := Tryz.sizeOf9
  v9 := Tryz.zeroValue9
  t22 := Tryz.underlying28
  a22 := Tryz.isAgg28
  z22 := Tryz.sizeOf28
  v22 := Tryz.zeroValue28
  t25 := Tryz.underlying159
  a25 := Tryz.isAgg159
  z25 := Tryz.sizeOf159
  v25 := Tryz.zeroValue159
  t39 := Tryz.underlying105
  a39 := Tryz.isAgg105
  z39 := Tryz.sizeOf105
  v39 := Tryz.zeroValue105
  t45 := Tryz.underlying206
  a45 := Tryz.isAgg206
  z45 := Tryz.sizeOf206
  v45 := Tryz.zeroValue206
  t46 := Tryz.underlying207
  a46 := Tryz.isAgg207
  z46 := Tryz.sizeOf207
  v46 := Tryz.zeroValue207
  t50 := Tryz.underlying211
  a50 := Tryz.isAgg211
  z50 := Tryz.sizeOf211
  v50 := Tryz.zeroValue211
  t53 := Tryz.underlying37
  a53 := Tryz.isAgg37
  z53 := Tryz.sizeOf37
  v53 := Tryz.zeroValue37
  t55 := Tryz.underlying99
  a55 := Tryz.isAgg99
  z55 := Tryz.sizeOf99
  v55 := Tryz.zeroValue99
  t66 := Tryz.underlying225
  a66 := Tryz.isAgg225
  z66 := Tryz.sizeOf225
  v66 := Tryz.zeroValue225
  t70 := Tryz.underlying229
  a70 := Tryz.isAgg229
  z70 := Tryz.sizeOf229
  v70 := Tryz.zeroValue229
  t76 := Tryz.underlying233
  a76 := Tryz.isAgg233
  z76 := Tryz.sizeOf233
  v76 := Tryz.zeroValue233
  t77 := Tryz.underlying234
  a77 := Tryz.isAgg234
  z77 := Tryz.sizeOf234
  v77 := Tryz.zeroValue234
/-! ### slices.SortFunc[[]impl.Note,impl.Note] -/
noncomputable def slices_SortFunc_Note_at_impl_compareNotes (x0 : List GNote) : Option ((List GNote)) := sortF (fun a b => impl_compareNotes a b) x0
set_option maxRecDepth 100000 in
theorem slices_SortFunc_Note_at_impl_compareNotes.calls (x0 : List GNote) (w : World) (r : (List GNote)) (x0_o : Option Nat) (x0_on : Nat) (x0_c : Nat) (x0_sp : List Value) (x0_hn : x0.length = x0_on) (x0_hs : x0_o ≠ none → x0_on ≤ x0_c ∧ x0_sp.length = (x0_c - x0_on) * 2) (x0_ho : x0_o = none → x0 = [] ∧ x0_c = 0) (hm0 : Mem w (bs [x0_o]) [⟨x0_o, 56, row encGNote x0 x0_sp⟩] w) (h : slices_SortFunc_Note_at_impl_compareNotes x0 = some r) :
    Calls Tryz.prog 109 #[(.slice (x0_o.map fun b => ⟨b, 0, none⟩) x0_on x0_c), (.func (.func 110) #[] #[])] w fun e w' => ∃ v, e = .returned v ∧ (r.length = x0_on ∧ (x0_o = none → r = [] ∧ x0_c = 0) ∧ v = .tuple #[] ∧ Mem w (bs [x0_o]) [⟨x0_o, 56, row encGNote r x0_sp⟩] w') := by
  exact sort_calls lay_slices_SortFunc_Note_at_impl_compareNotes 2 Tryz.isAgg56 Tryz.sizeOf56 encGNote encGNote_len (fun x v hv => by simp [encGNote] at hv; rcases hv with rfl | rfl <;> rfl) (fun a b => impl_compareNotes a b) 110 (enters_of Tryz.func110 (by kernel_rfl) rfl) (fun x y r w hxy => impl_compareNotes.calls (dsW := ⟨True⟩) x y w r hxy) 56 x0 w r x0_o x0_on x0_c x0_sp x0_hn x0_hs x0_ho hm0 (by rw [slices_SortFunc_Note_at_impl_compareNotes] at h; exact h)

/-! ### slices.Compact[[]impl.Note,impl.Note] -/
noncomputable def slices_Compact_Note.k_1 (s0 : List GNote) : Option ((List GNote)) := some s0
noncomputable def slices_Compact_Note.k_9 (xs_7 : List GNote) (i_8 : Int) : Option ((Int) ⊕ ((List GNote) ⊕ Unit)) := (if 0 ≤ i_8 ∧ i_8 ≤ (xs_7.length : Int) then some (.inr (.inl (xs_7.take i_8.toNat))) else none)
noncomputable def slices_Compact_Note.l_13 (s0 : List GNote) (i_2 : Int) : ((List GNote) × Int × Int) → Option (((List GNote) × Int × Int) ⊕ (((List GNote) × Int)))
  | (xs_10, i_11, i_12) => (if (decide (i_12 < (((s0.length - i_2.toNat) : Nat) : Int))) = true then (ix (xs_10.drop i_2.toNat) i_12).bind fun x_15 => (ix (xs_10.drop i_2.toNat) (w64 (i_12 - 1))).bind fun x_16 => (if (!((x_15.fAt == x_16.fAt) && (x_15.fPitch == x_16.fPitch))) = true then (ix (xs_10.drop i_2.toNat) i_12).bind fun x_17 => (ix xs_10 i_11).bind fun x_18 => some (.inl ((xs_10.set i_11.toNat x_17), (w64 (i_11 + 1)), (w64 (i_12 + 1)))) else some (.inl (xs_10, i_11, (w64 (i_12 + 1))))) else some (.inr (xs_10, i_11)))
noncomputable def slices_Compact_Note.l_3 (s0 : List GNote) : Int → Option ((Int) ⊕ ((List GNote) ⊕ Unit))
  | i_2 => (if (decide (i_2 < (s0.length : Int))) = true then (ix s0 i_2).bind fun x_5 => (ix s0 (w64 (i_2 - 1))).bind fun x_6 => (if ((x_5.fAt == x_6.fAt) && (x_5.fPitch == x_6.fPitch)) = true then (if 0 ≤ i_2 ∧ i_2 ≤ (s0.length : Int) then (loop (slices_Compact_Note.l_13 s0 i_2) (s0, i_2, 1)).bind fun t_14 => slices_Compact_Note.k_9 t_14.1 t_14.2 else none) else some (.inl (w64 (i_2 + 1)))) else some (.inr (.inr ())))
noncomputable def slices_Compact_Note (s0 : List GNote) : Option ((List GNote)) := (if (decide ((s0.length : Int) < 2)) = true then some s0 else (loop (slices_Compact_Note.l_3 s0) 1).bind fun t_4 => match t_4 with | .inl p => some p | .inr p => slices_Compact_Note.k_1 s0)
set_option maxRecDepth 100000 in
theorem slices_Compact_Note.calls (s0 : List GNote) (w : World) (r : (List GNote)) (s0_o : Option Nat) (s0_on : Nat) (s0_c : Nat) (s0_sp : List Value) (s0_hn : s0.length = s0_on) (s0_hs : s0_o ≠ none → s0_on ≤ s0_c ∧ s0_sp.length = (s0_c - s0_on) * 2) (s0_ho : s0_o = none → s0 = [] ∧ s0_c = 0) (hm0 : Mem w (bs [s0_o]) [⟨s0_o, 56, row encGNote s0 s0_sp⟩] w) (h : slices_Compact_Note s0 = some r) :
    Calls Tryz.prog 111 #[(.slice (s0_o.map fun b => ⟨b, 0, none⟩) s0_on s0_c)] w fun e w' => ∃ v, e = .returned v ∧ (∃ (o0 : Option Nat) (c0 : Nat) (s0 : List Value) (n0 : Nat), r.length = n0 ∧ (o0 ≠ none → n0 ≤ c0 ∧ s0.length = (c0 - n0) * 2) ∧ (o0 = none → r = [] ∧ c0 = 0) ∧ v = .slice (o0.map fun b => ⟨b, 0, none⟩) n0 c0 ∧ Mem w (bs [s0_o]) [⟨o0, 56, row encGNote r s0⟩] w') := by
  subst s0_hn
  rw [slices_Compact_Note] at h
  refine enter (args := [(.slice (s0_o.map fun b => ⟨b, 0, none⟩) s0.length s0_c)]) Tryz.func111 rfl Tryz.ntmps111 (by kernel_rfl) (L := [⟨s0_o, 56, row encGNote s0 s0_sp⟩]) (W := bs [s0_o]) hm0 ?_
  refine jc_seq ?_
  refine jc_region ?_
  refine jo_f [(0, 0)] (by kernel_rfl) ?_
  refine jo_end (by kernel_rfl) ?_
  refine jx_then ?_
  refine jc_seq ?_
  refine jc_seq ?_
  refine jc_region ?_
  refine jo_f [(0, 0), (0, 0), (0, 0)] (by kernel_rfl) ?_
  refine jo_end (by kernel_rfl) ?_
  refine jx_then ?_
  refine jc_cond (decide ((s0.length : Int) < 2)) (by kernel_rfl) (fun hc_2 => ?_) (fun hc_2 => ?_)
  · replace h := ifT hc_2 h
    refine jc_seq ?_
    refine jc_region ?_
    refine jo_f [(0, 0), (0, 0)] (by kernel_rfl) ?_
    refine jo_end (by kernel_rfl) ?_
    refine jx_then ?_
    refine jc_ret ?_
    refine jx_thenr ?_
    obtain rfl := Option.some.inj h
    exact jx_ret [] (.slice (s0_o.map fun b => ⟨b, 0, none⟩) s0.length s0_c) [] rfl (by kernel_rfl) (by kernel_rfl) (fun w hm => ⟨s0_o, s0_c, s0_sp, s0.length, rfl, s0_hs, s0_ho, rfl, hm.pick [0] (by kernel_rfl) (by kernel_rfl)⟩)
  · replace h := ifF hc_2 h
    refine jc_skip ?_
    refine jx_then ?_
    refine jc_seq ?_
    refine jc_seq ?_
    refine jc_region ?_
    refine jo_f [(0, 0)] (by kernel_rfl) ?_
    refine jo_end (by kernel_rfl) ?_
    refine jx_then ?_
    refine jc_meet (fun (_ : Unit) => slices_Compact_Note.k_1 s0 = some r) (fun (_ : Unit) => [(0, [], (.slice (s0_o.map fun b => ⟨b, 0, none⟩) s0.length s0_c)), (2, [], (.slice none 0 0))]) (fun (_ : Unit) => [⟨s0_o, 56, row encGNote s0 s0_sp⟩]) ?_ ?_
    · refine jc_block ?_
      obtain ⟨t_4, ht_1582, hr_1448⟩ := bd h
      refine jc_loop (fun (s : Int) (x : Unit) => match s, x with | i_2, _ => True) (fun (s : Int) (x : Unit) => match s, x with | i_2, _ => [(0, [], (.slice (s0_o.map fun b => ⟨b, 0, none⟩) s0.length s0_c)), (2, [], (.slice none 0 0)), (3, [], (.int .i64 i_2))]) (fun (s : Int) (x : Unit) => match s, x with | i_2, _ => [⟨s0_o, 56, row encGNote s0 s0_sp⟩]) ht_1582 () trivial (by kernel_rfl) [0] (by kernel_rfl) (by kernel_rfl) ?_
      rintro i_2 _ y_1449 _ h
      rw [slices_Compact_Note.l_3] at h
      refine jc_seq ?_
      refine jc_seq ?_
      refine jc_region ?_
      refine jo_f [(0, 0), (0, 0), (0, 0), (0, 0)] (by kernel_rfl) ?_
      refine jo_end (by kernel_rfl) ?_
      refine jx_then ?_
      refine jc_cond (decide (i_2 < (s0.length : Int))) (by kernel_rfl) (fun hc_1451 => ?_) (fun hc_1451 => ?_)
      · replace h := ifT hc_1451 h
        refine jc_skip ?_
        refine jx_then ?_
        refine jc_seq ?_
        refine jc_block ?_
        refine jc_seq ?_
        refine jc_draw [⟨s0_o, 56, row encGNote s0 s0_sp⟩] 10 (by kernel_rfl) (by kernel_rfl) ?_
        refine jd_f [⟨0, 0, 0⟩, ⟨1, 0, 0⟩, ⟨4, 0, 0⟩, ⟨5, 0, 0⟩, ⟨6, 0, 0⟩] 5 (by kernel_rfl) (by kernel_rfl) (fun w h => h.pick [0] (by kernel_rfl) (by kernel_rfl)) (by kernel_rfl) (by kernel_rfl) ?_
        obtain ⟨x_5, hx_1452, h⟩ := bd h
        refine jd_v 2 0 (by kernel_rfl) (fun w h => h.pick [0] (by kernel_rfl) (by kernel_rfl)) (by kernel_rfl) (by kernel_rfl) _ (fun w hm => idx_run (a := (s0_o.map fun b => ⟨b, 0, none⟩)) (len := s0.length) (s := 2) (j := i_2) (by kernel_rfl) (ix_some hx_1452).1 (ltn hx_1452 rfl) (spo s0_ho hx_1452)) ?_
        refine jd_v 3 0 (by kernel_rfl) (fun w h => h.pick [0] (by kernel_rfl) (by kernel_rfl)) (by kernel_rfl) (by kernel_rfl) _ (fun w hm => ld_run (b := aB (s0_o.map fun b => ⟨b, 0, none⟩)) (off := (aO (s0_o.map fun b => ⟨b, 0, none⟩) + i_2.toNat * 2)) (s := 2) (agg := true) (vs := (encGNote x_5)) (by kernel_rfl) (by kernel_rfl) (.inl rfl) ((hm.ownRow (hh := 0) (o := s0_o) (T := 56) (enc := encGNote) (xs := s0) (sp := s0_sp) (by kernel_rfl) (fun e => (s0_ho e).1) encGNote_len).at hx_1452)) ?_
        obtain ⟨x_6, hx_1453, h⟩ := bd h
        refine jd_v 7 0 (by kernel_rfl) (fun w h => h.pick [0] (by kernel_rfl) (by kernel_rfl)) (by kernel_rfl) (by kernel_rfl) _ (fun w hm => idx_run (a := (s0_o.map fun b => ⟨b, 0, none⟩)) (len := s0.length) (s := 2) (j := (w64 (i_2 - 1))) (by kernel_rfl) (ix_some hx_1453).1 (ltn hx_1453 rfl) (spo s0_ho hx_1453)) ?_
        refine jd_v 8 0 (by kernel_rfl) (fun w h => h.pick [0] (by kernel_rfl) (by kernel_rfl)) (by kernel_rfl) (by kernel_rfl) _ (fun w hm => ld_run (b := aB (s0_o.map fun b => ⟨b, 0, none⟩)) (off := (aO (s0_o.map fun b => ⟨b, 0, none⟩) + (w64 (i_2 - 1)).toNat * 2)) (s := 2) (agg := true) (vs := (encGNote x_6)) (by kernel_rfl) (by kernel_rfl) (.inl rfl) ((hm.ownRow (hh := 0) (o := s0_o) (T := 56) (enc := encGNote) (xs := s0) (sp := s0_sp) (by kernel_rfl) (fun e => (s0_ho e).1) encGNote_len).at hx_1453)) ?_
        refine jd_f [⟨9, 0, 0⟩] 0 (by kernel_rfl) (by kernel_rfl) (fun w h => h.pick [0] (by kernel_rfl) (by kernel_rfl)) (by kernel_rfl) (by kernel_rfl) ?_
        refine jd_end (by kernel_rfl) ?_
        refine jx_then ?_
        refine jc_cond ((x_5.fAt == x_6.fAt) && (x_5.fPitch == x_6.fPitch)) (by kernel_rfl) (fun hc_1454 => ?_) (fun hc_1454 => ?_)
        · replace h := ifT hc_1454 h
          refine jc_seq ?_
          refine jc_region ?_
          refine jo_f [(0, 0), (0, 0)] (by kernel_rfl) ?_
          obtain ⟨hg_1455, h⟩ := gd h
          refine toO (by kernel_rfl) (p_slL 0 (s0_o.map fun b => ⟨b, 0, none⟩) s0.length s0_c 2 i_2 (by kernel_rfl) (by kernel_rfl) hg_1455.1 (Int.le_trans hg_1455.2 (Int.ofNat_le.2 (Nat.le_of_eq rfl))) (jkO ?_))
          refine jo_f [(0, 0)] (by kernel_rfl) ?_
          refine jo_end (by kernel_rfl) ?_
          refine jx_then ?_
          refine jc_seq ?_
          refine jc_seq ?_
          refine jc_region ?_
          refine jo_f [(0, 0)] (by kernel_rfl) ?_
          refine jo_end (by kernel_rfl) ?_
          refine jx_then ?_
          refine jc_meet (fun (j : (List GNote) × Int) => match j with | ⟨xs_7, i_8⟩ => slices_Compact_Note.k_9 xs_7 i_8 = some y_1449 ∧ (xs_7.length = s0.length) ∧ ((s0_o = none → xs_7 = [] ∧ s0_c = 0))) (fun (j : (List GNote) × Int) => match j with | ⟨xs_7, i_8⟩ => [(0, [], (.slice (s0_o.map fun b => ⟨b, 0, none⟩) s0.length s0_c)), (2, [], (.slice none 0 0)), (3, [], (.int .i64 i_8))]) (fun (j : (List GNote) × Int) => match j with | ⟨xs_7, i_8⟩ => [⟨s0_o, 56, row encGNote xs_7 s0_sp⟩]) ?_ ?_
          · refine jc_block ?_
            obtain ⟨t_14, ht_1580, hr_1570⟩ := bd h
            refine jc_loop (fun (s : (List GNote) × Int × Int) (x : Unit) => match s, x with | ⟨xs_10, i_11, i_12⟩, _ => (xs_10.length = s0.length) ∧ ((s0_o = none → xs_10 = [] ∧ s0_c = 0))) (fun (s : (List GNote) × Int × Int) (x : Unit) => match s, x with | ⟨xs_10, i_11, i_12⟩, _ => [(0, [], (.slice (s0_o.map fun b => ⟨b, 0, none⟩) s0.length s0_c)), (2, [], (.slice none 0 0)), (3, [], (.int .i64 i_11)), (4, [], (.slice (pa (s0_o.map fun b => ⟨b, 0, none⟩) i_2.toNat s0_c 2) (s0.length - i_2.toNat) (s0_c - i_2.toNat))), (5, [], (.int .i64 i_12))]) (fun (s : (List GNote) × Int × Int) (x : Unit) => match s, x with | ⟨xs_10, i_11, i_12⟩, _ => [⟨s0_o, 56, row encGNote xs_10 s0_sp⟩]) ht_1580 () ⟨rfl, s0_ho⟩ (by kernel_rfl) [0] (by kernel_rfl) (by kernel_rfl) ?_
            rintro ⟨xs_10, i_11, i_12⟩ _ y_1571 ⟨hn_1569, ho_1568⟩ h
            rw [slices_Compact_Note.l_13] at h
            refine jc_seq ?_
            refine jc_seq ?_
            refine jc_region ?_
            refine jo_f [(0, 0), (0, 0), (0, 0), (0, 0)] (by kernel_rfl) ?_
            refine jo_end (by kernel_rfl) ?_
            refine jx_then ?_
            refine jc_cond (decide (i_12 < (((s0.length - i_2.toNat) : Nat) : Int))) (by kernel_rfl) (fun hc_1573 => ?_) (fun hc_1573 => ?_)
            · replace h := ifT hc_1573 h
              refine jc_skip ?_
              refine jx_then ?_
              refine jc_seq ?_
              refine jc_block ?_
              refine jc_seq ?_
              refine jc_draw [⟨s0_o, 56, row encGNote xs_10 s0_sp⟩] 10 (by kernel_rfl) (by kernel_rfl) ?_
              refine jd_f [⟨0, 0, 0⟩, ⟨1, 0, 0⟩, ⟨4, 0, 0⟩, ⟨5, 0, 0⟩, ⟨6, 0, 0⟩] 5 (by kernel_rfl) (by kernel_rfl) (fun w h => h.pick [0] (by kernel_rfl) (by kernel_rfl)) (by kernel_rfl) (by kernel_rfl) ?_
              obtain ⟨x_15, hx_1574, h⟩ := bd h
              refine jd_v 2 0 (by kernel_rfl) (fun w h => h.pick [0] (by kernel_rfl) (by kernel_rfl)) (by kernel_rfl) (by kernel_rfl) _ (fun w hm => idx_run (a := (pa (s0_o.map fun b => ⟨b, 0, none⟩) i_2.toNat s0_c 2)) (len := (s0.length - i_2.toNat)) (s := 2) (j := i_12) (by kernel_rfl) (ix_some hx_1574).1 (ltn hx_1574 (tl_len hn_1569 (i_2))) (spo_tl (o := s0_o) (m := 2) ho_1568 hx_1574)) ?_
              refine jd_v 3 0 (by kernel_rfl) (fun w h => h.pick [0] (by kernel_rfl) (by kernel_rfl)) (by kernel_rfl) (by kernel_rfl) _ (fun w hm => ld_run (b := aB (pa (s0_o.map fun b => ⟨b, 0, none⟩) i_2.toNat s0_c 2)) (off := (aO (pa (s0_o.map fun b => ⟨b, 0, none⟩) i_2.toNat s0_c 2) + i_12.toNat * 2)) (s := 2) (agg := true) (vs := (encGNote x_15)) (by kernel_rfl) (by kernel_rfl) (.inl rfl) (((hm.ownRow (hh := 0) (o := s0_o) (T := 56) (enc := encGNote) (xs := xs_10) (sp := s0_sp) (by kernel_rfl) (fun e => (ho_1568 e).1) encGNote_len).tl i_2.toNat s0_c (cap_le hn_1569 s0_hs ho_1568)).at hx_1574)) ?_
              obtain ⟨x_16, hx_1575, h⟩ := bd h
              refine jd_v 7 0 (by kernel_rfl) (fun w h => h.pick [0] (by kernel_rfl) (by kernel_rfl)) (by kernel_rfl) (by kernel_rfl) _ (fun w hm => idx_run (a := (pa (s0_o.map fun b => ⟨b, 0, none⟩) i_2.toNat s0_c 2)) (len := (s0.length - i_2.toNat)) (s := 2) (j := (w64 (i_12 - 1))) (by kernel_rfl) (ix_some hx_1575).1 (ltn hx_1575 (tl_len hn_1569 (i_2))) (spo_tl (o := s0_o) (m := 2) ho_1568 hx_1575)) ?_
              refine jd_v 8 0 (by kernel_rfl) (fun w h => h.pick [0] (by kernel_rfl) (by kernel_rfl)) (by kernel_rfl) (by kernel_rfl) _ (fun w hm => ld_run (b := aB (pa (s0_o.map fun b => ⟨b, 0, none⟩) i_2.toNat s0_c 2)) (off := (aO (pa (s0_o.map fun b => ⟨b, 0, none⟩) i_2.toNat s0_c 2) + (w64 (i_12 - 1)).toNat * 2)) (s := 2) (agg := true) (vs := (encGNote x_16)) (by kernel_rfl) (by kernel_rfl) (.inl rfl) (((hm.ownRow (hh := 0) (o := s0_o) (T := 56) (enc := encGNote) (xs := xs_10) (sp := s0_sp) (by kernel_rfl) (fun e => (ho_1568 e).1) encGNote_len).tl i_2.toNat s0_c (cap_le hn_1569 s0_hs ho_1568)).at hx_1575)) ?_
              refine jd_f [⟨9, 0, 0⟩] 0 (by kernel_rfl) (by kernel_rfl) (fun w h => h.pick [0] (by kernel_rfl) (by kernel_rfl)) (by kernel_rfl) (by kernel_rfl) ?_
              refine jd_end (by kernel_rfl) ?_
              refine jx_then ?_
              refine jc_cond (!((x_15.fAt == x_16.fAt) && (x_15.fPitch == x_16.fPitch))) (by kernel_rfl) (fun hc_1576 => ?_) (fun hc_1576 => ?_)
              · replace h := ifT hc_1576 h
                refine jc_seq ?_
                refine jc_region ?_
                refine jo_f [(0, 0), (0, 0), (0, 0), (0, 0)] (by kernel_rfl) ?_
                obtain ⟨x_17, hx_1577, h⟩ := bd h
                refine toO (by kernel_rfl) (p_idx 0 (pa (s0_o.map fun b => ⟨b, 0, none⟩) i_2.toNat s0_c 2) (s0.length - i_2.toNat) i_12 2 (by kernel_rfl) (by kernel_rfl) (ix_some hx_1577).1 (ltn hx_1577 (tl_len hn_1569 (i_2))) (spo_tl (o := s0_o) (m := 2) ho_1568 hx_1577) (jkO ?_))
                refine toO (by kernel_rfl) (p_ld 0 (aB (pa (s0_o.map fun b => ⟨b, 0, none⟩) i_2.toNat s0_c 2)) (aO (pa (s0_o.map fun b => ⟨b, 0, none⟩) i_2.toNat s0_c 2) + i_12.toNat * 2) true (encGNote x_17) (by kernel_rfl) (by kernel_rfl) (by kernel_rfl) (fun w hm => (((hm.ownRow (hh := 0) (o := s0_o) (T := 56) (enc := encGNote) (xs := xs_10) (sp := s0_sp) (by kernel_rfl) (fun e => (ho_1568 e).1) encGNote_len).tl i_2.toNat s0_c (cap_le hn_1569 s0_hs ho_1568)).at hx_1577)) (jkO ?_))
                obtain ⟨x_18, hx_1578, h⟩ := bd h
                refine toO (by kernel_rfl) (p_idx 0 (s0_o.map fun b => ⟨b, 0, none⟩) s0.length i_11 2 (by kernel_rfl) (by kernel_rfl) (ix_some hx_1578).1 (ltn hx_1578 hn_1569) (spo ho_1568 hx_1578) (jkO ?_))
                refine toO (by kernel_rfl) (p_strO 0 0 s0_o 56 encGNote xs_10 s0_sp i_11 x_17 2 0 [(.int .i16 x_17.fAt), (.int .i8 x_17.fPitch)] (by kernel_rfl) (by kernel_rfl) (by kernel_rfl) (fun e => (ho_1568 e).1) encGNote_len hx_1578 (by kernel_rfl) (by kernel_rfl) (jkO ?_))
                refine jo_end (by kernel_rfl) ?_
                refine jx_then ?_
                refine jc_region ?_
                refine jo_f [(0, 0), (0, 0), (0, 0)] (by kernel_rfl) ?_
                refine jo_end (by kernel_rfl) ?_
                refine jx_inn ?_
                refine jx_then ?_
                refine jc_region ?_
                refine jo_f [(0, 0), (0, 0), (0, 0)] (by kernel_rfl) ?_
                refine jo_end (by kernel_rfl) ?_
                exact jx_back ((xs_10.set i_11.toNat x_17), (w64 (i_11 + 1)), (w64 (i_12 + 1))) () (Option.some.inj h).symm ⟨(List.length_set.trans hn_1569), (set_ho ho_1568)⟩ [0] (by kernel_rfl) (by kernel_rfl) (by kernel_rfl)
              · replace h := ifF hc_1576 h
                refine jc_skip ?_
                refine jx_inn ?_
                refine jx_then ?_
                refine jc_region ?_
                refine jo_f [(0, 0), (0, 0), (0, 0)] (by kernel_rfl) ?_
                refine jo_end (by kernel_rfl) ?_
                exact jx_back (xs_10, i_11, (w64 (i_12 + 1))) () (Option.some.inj h).symm ⟨hn_1569, ho_1568⟩ [0] (by kernel_rfl) (by kernel_rfl) (by kernel_rfl)
            · replace h := ifF hc_1573 h
              refine jc_exit ?_
              refine jx_thenx ?_
              refine jx_leave (xs_10, i_11) (Option.some.inj h).symm (fun e_1579 => ?_)
              subst e_1579
              refine jx_ine ?_
              exact jx_meet ⟨xs_10, i_11⟩ ⟨hr_1570, hn_1569, ho_1568⟩ (by kernel_rfl) [0] (by kernel_rfl) (by kernel_rfl)
          · rintro ⟨xs_7, i_8⟩ ⟨h, hn_1546, ho_1545⟩
            replace h : slices_Compact_Note.k_9 xs_7 i_8 = some y_1449 := h
            rw [slices_Compact_Note.k_9] at h
            refine jx_then ?_
            refine jc_seq ?_
            refine jc_region ?_
            refine jo_f [(0, 0), (0, 0)] (by kernel_rfl) ?_
            obtain ⟨hg_1547, h⟩ := gd h
            refine toO (by kernel_rfl) (p_slL 0 (s0_o.map fun b => ⟨b, 0, none⟩) s0.length s0_c 2 i_8 (by kernel_rfl) (by kernel_rfl) hg_1547.1 (Int.le_trans hg_1547.2 (Int.ofNat_le.2 (Nat.le_of_eq hn_1546))) (jkO ?_))
            refine toO (by kernel_rfl) (jp_cut (hh := 0) (o := s0_o) (T := 56) (enc := encGNote) (xs := xs_7) (sp := s0_sp) i_8.toNat (by kernel_rfl) (p_clr 0 0 s0_o 56 i_8.toNat i_8.toNat (s0.length - i_8.toNat) s0_c 2 [(.int .i16 0), (.int .i8 0)] encGNote (xs_7.take i_8.toNat) ((xs_7.drop i_8.toNat).flatMap encGNote ++ s0_sp) (hd_len hg_1547) rfl (by kernel_rfl) (by kernel_rfl) (by kernel_rfl) encGNote_len (by kernel_rfl) (cut_hs encGNote_len (show i_8.toNat ≤ xs_7.length by have := hg_1547; omega) hn_1546 s0_hs) (cut_ho i_8.toNat ho_1545) (by have := (cap_le hn_1546 s0_hs ho_1545); have : xs_7.length = s0.length := hn_1546; omega) (fun sp_1548 hl_1549 => jkO ?_)))
            refine jo_end (by kernel_rfl) ?_
            refine jx_then ?_
            refine jc_seq ?_
            refine jc_region ?_
            refine jo_f [(0, 0), (0, 0)] (by kernel_rfl) ?_
            refine toO (by kernel_rfl) (p_slH 0 (s0_o.map fun b => ⟨b, 0, none⟩) s0.length s0_c 2 i_8 (by kernel_rfl) (by kernel_rfl) hg_1547.1 (by have h1 := (cap_le (hd_len hg_1547) (fun e => ⟨((cut_hs encGNote_len (show i_8.toNat ≤ xs_7.length by have := hg_1547; omega) hn_1546 s0_hs) e).1, hl_1549.trans ((cut_hs encGNote_len (show i_8.toNat ≤ xs_7.length by have := hg_1547; omega) hn_1546 s0_hs) e).2⟩) (cut_ho i_8.toNat ho_1545)); have h2 := (hd_len hg_1547); omega) (jkO ?_))
            refine jo_f [(0, 0)] (by kernel_rfl) ?_
            refine jo_end (by kernel_rfl) ?_
            refine jx_then ?_
            refine jc_ret ?_
            refine jx_inr ?_
            refine jx_thenr ?_
            refine jx_leaver (.inl (xs_7.take i_8.toNat)) (Option.some.inj h).symm (fun e_1551 => ?_)
            subst e_1551
            refine jx_inr ?_
            refine jx_thenr ?_
            refine jx_thenr ?_
            obtain rfl := Option.some.inj hr_1448
            exact jx_ret [] (.slice (s0_o.map fun b => ⟨b, 0, none⟩) i_8.toNat s0_c) [] rfl (by kernel_rfl) (by kernel_rfl) (fun w hm => ⟨s0_o, s0_c, sp_1548, i_8.toNat, (hd_len hg_1547), (fun e => ⟨((cut_hs encGNote_len (show i_8.toNat ≤ xs_7.length by have := hg_1547; omega) hn_1546 s0_hs) e).1, hl_1549.trans ((cut_hs encGNote_len (show i_8.toNat ≤ xs_7.length by have := hg_1547; omega) hn_1546 s0_hs) e).2⟩), (cut_ho i_8.toNat ho_1545), rfl, hm.pick [0] (by kernel_rfl) (by kernel_rfl)⟩)
        · replace h := ifF hc_1454 h
          refine jc_skip ?_
          refine jx_inn ?_
          refine jx_then ?_
          refine jc_region ?_
          refine jo_f [(0, 0), (0, 0), (0, 0)] (by kernel_rfl) ?_
          refine jo_end (by kernel_rfl) ?_
          exact jx_back (w64 (i_2 + 1)) () (Option.some.inj h).symm trivial [0] (by kernel_rfl) (by kernel_rfl) (by kernel_rfl)
      · replace h := ifF hc_1451 h
        refine jc_exit ?_
        refine jx_thenx ?_
        refine jx_leave (.inr ()) (Option.some.inj h).symm (fun e_1581 => ?_)
        subst e_1581
        refine jx_ine ?_
        exact jx_meet () hr_1448 (by kernel_rfl) [0] (by kernel_rfl) (by kernel_rfl)
    · rintro _ h
      replace h : slices_Compact_Note.k_1 s0 = some r := h
      rw [slices_Compact_Note.k_1] at h
      refine jx_then ?_
      refine jc_seq ?_
      refine jc_region ?_
      refine jo_f [(0, 0), (0, 0)] (by kernel_rfl) ?_
      refine jo_end (by kernel_rfl) ?_
      refine jx_then ?_
      refine jc_ret ?_
      obtain rfl := Option.some.inj h
      exact jx_ret [] (.slice (s0_o.map fun b => ⟨b, 0, none⟩) s0.length s0_c) [] rfl (by kernel_rfl) (by kernel_rfl) (fun w hm => ⟨s0_o, s0_c, s0_sp, s0.length, rfl, s0_hs, s0_ho, rfl, hm.pick [0] (by kernel_rfl) (by kernel_rfl)⟩)

/-! ### impl.made -/
noncomputable def impl_made (list0 : List GNote) : Option ((List GNote)) := (slices_Clone_Note list0).bind fun t_1 => (slices_SortFunc_Note_at_impl_compareNotes t_1).bind fun t_2 => (slices_Compact_Note t_2).bind fun t_3 => some t_3
set_option maxRecDepth 100000 in
theorem impl_made.calls (list0 : List GNote) (w : World) (r : (List GNote)) (list0_a : Option Addr) (list0_an : Nat) (list0_c : Nat) (list0_h : Rw w list0_a 2 encGNote list0) (list0_hn : list0.length = list0_an) (h : impl_made list0 = some r) :
    Calls Tryz.prog 75 #[(.slice list0_a list0_an list0_c)] w fun e w' => ∃ v, e = .returned v ∧ (∃ (o0 : Option Nat) (c0 : Nat) (s0 : List Value) (n0 : Nat), r.length = n0 ∧ (o0 ≠ none → n0 ≤ c0 ∧ s0.length = (c0 - n0) * 2) ∧ (o0 = none → r = [] ∧ c0 = 0) ∧ v = .slice (o0.map fun b => ⟨b, 0, none⟩) n0 c0 ∧ Mem w [] [⟨o0, 56, row encGNote r s0⟩] w') := by
  subst list0_hn
  rw [impl_made] at h
  refine enter (args := [(.slice list0_a list0.length list0_c)]) Tryz.func75 rfl Tryz.ntmps75 (by kernel_rfl) (L := []) (W := []) (Mem.start w) ?_
  refine jc_seq ?_
  refine jc_region ?_
  refine jo_f [(0, 0)] (by kernel_rfl) ?_
  refine jo_end (by kernel_rfl) ?_
  refine jx_then ?_
  refine jc_seq ?_
  refine jc_region ?_
  refine jo_f [(0, 0)] (by kernel_rfl) ?_
  obtain ⟨t_1, ht_1, h⟩ := bd h
  refine toO (by kernel_rfl) (p_call 0 108 #[(.slice list0_a list0.length list0_c)] (by kernel_rfl) (by kernel_rfl) (fun w hm => slices_Clone_Note.calls list0 w _ list0_a list0.length list0_c (hm.exRow list0_h List.not_mem_nil) rfl ht_1) ?_)
  rintro w v w' hm ⟨o_2, cap_3, sp_4, _, rfl, hs_5, ho_6, rfl, hm'⟩
  refine ⟨_, hm.app hm', jkO ?_⟩
  clear hm hm'
  refine jo_f [(0, 0)] (by kernel_rfl) ?_
  refine jo_end (by kernel_rfl) ?_
  refine jx_then ?_
  refine jc_seq ?_
  refine jc_region ?_
  refine jo_f [(0, 0)] (by kernel_rfl) ?_
  obtain ⟨t_2, ht_7, h⟩ := bd h
  refine toO (by kernel_rfl) (p_call 0 109 #[(.slice (o_2.map fun b => ⟨b, 0, none⟩) t_1.length cap_3), (.func (.func 110) #[] #[])] (by kernel_rfl) (by kernel_rfl) (fun w hm => slices_SortFunc_Note_at_impl_compareNotes.calls t_1 w _ o_2 t_1.length cap_3 sp_4 rfl hs_5 ho_6 (hm.pass (N := [⟨o_2, 56, row encGNote t_1 sp_4⟩]) [0] (by kernel_rfl) (by kernel_rfl)) ht_7) ?_)
  rintro w v w' hm ⟨hn_8, ho_9, rfl, hm'⟩
  refine ⟨_, hm.appW (ps := [(0, ⟨o_2, 56, row encGNote t_2 sp_4⟩)]) (N := []) hm' (by kernel_rfl) (by kernel_rfl), jkO ?_⟩
  clear hm hm'
  refine jo_end (by kernel_rfl) ?_
  refine jx_then ?_
  refine jc_seq ?_
  refine jc_region ?_
  refine jo_f [(0, 0)] (by kernel_rfl) ?_
  obtain ⟨t_3, ht_10, h⟩ := bd h
  refine toO (by kernel_rfl) (p_call 0 111 #[(.slice (o_2.map fun b => ⟨b, 0, none⟩) t_1.length cap_3)] (by kernel_rfl) (by kernel_rfl) (fun w hm => slices_Compact_Note.calls t_2 w _ o_2 t_1.length cap_3 sp_4 hn_8 hs_5 ho_9 (hm.pass (N := [⟨o_2, 56, row encGNote t_2 sp_4⟩]) [0] (by kernel_rfl) (by kernel_rfl)) ht_10) ?_)
  rintro w v w' hm ⟨o_11, cap_12, sp_13, _, rfl, hs_14, ho_15, rfl, hm'⟩
  refine ⟨_, hm.appP (ps := []) (ds := [0]) (N := [⟨o_11, 56, row encGNote t_3 sp_13⟩]) hm' [0] (by kernel_rfl) (by kernel_rfl) (by kernel_rfl), jkO ?_⟩
  clear hm hm'
  refine jo_f [(0, 0)] (by kernel_rfl) ?_
  refine jo_end (by kernel_rfl) ?_
  refine jx_then ?_
  refine jc_ret ?_
  obtain rfl := Option.some.inj h
  exact jx_ret [] (.slice (o_11.map fun b => ⟨b, 0, none⟩) t_3.length cap_12) [] rfl (by kernel_rfl) (by kernel_rfl) (fun w hm => ⟨o_11, cap_12, sp_13, t_3.length, rfl, hs_14, ho_15, rfl, hm.pick [1] (by kernel_rfl) (by kernel_rfl)⟩)

/-! ### (impl.Frame).played -/
noncomputable def impl_Frame_played (f0 : GFrame) (d1 : Arr 96 Int) (from2 : Int) (steps3 : Int) : Option ((List GNote)) := (impl_Frame_pins_at_impl_Frame_played_1 f0 d1 from2 steps3 ([] : List GNote) f0).bind fun t_1 => (impl_made t_1).bind fun t_2 => some t_2
set_option maxRecDepth 100000 in
theorem impl_Frame_played.calls (f0 : GFrame) (d1 : Arr 96 Int) (from2 : Int) (steps3 : Int) (w : World) (r : (List GNote)) (f0_fHammers_a : Option Addr) (f0_fHammers_an : Nat) (f0_fHammers_c : Nat) (f0_fHammers_h : Rw w f0_fHammers_a 2 encGHammer f0.fHammers) (f0_fHammers_hn : f0.fHammers.length = f0_fHammers_an) (h : impl_Frame_played f0 d1 from2 steps3 = some r) :
    Calls Tryz.prog 38 #[(.agg #[(.int .i16 f0.fSteps), (.slice f0_fHammers_a f0_fHammers_an f0_fHammers_c)]), (.agg (row encU32 d1.1 []).toArray), (.int .i64 from2), (.int .i64 steps3)] w fun e w' => ∃ v, e = .returned v ∧ (∃ (o0 : Option Nat) (c0 : Nat) (s0 : List Value) (n0 : Nat), r.length = n0 ∧ (o0 ≠ none → n0 ≤ c0 ∧ s0.length = (c0 - n0) * 2) ∧ (o0 = none → r = [] ∧ c0 = 0) ∧ v = .slice (o0.map fun b => ⟨b, 0, none⟩) n0 c0 ∧ Mem w [] [⟨o0, 56, row encGNote r s0⟩] w') := by
  subst f0_fHammers_hn
  rw [impl_Frame_played] at h
  refine enter (args := [(.agg #[(.int .i16 f0.fSteps), (.slice f0_fHammers_a f0.fHammers.length f0_fHammers_c)]), (.agg (row encU32 d1.1 []).toArray), (.int .i64 from2), (.int .i64 steps3)]) Tryz.func38 rfl Tryz.ntmps38 (by kernel_rfl) (L := []) (W := []) (Mem.start w) ?_
  refine jc_seq ?_
  refine jc_region ?_
  refine toO (by kernel_rfl) (p_a 0 [0] (by kernel_rfl) (fun b => by kernel_rfl) (fun b_1 => jkO ?_))
  refine toO (by kernel_rfl) (p_a 0 [0] (by kernel_rfl) (fun b => by kernel_rfl) (fun b_2 => jkO ?_))
  refine toO (by kernel_rfl) (p_a 0 [0] (by kernel_rfl) (fun b => by kernel_rfl) (fun b_3 => jkO ?_))
  refine toO (by kernel_rfl) (p_a 0 [0] (by kernel_rfl) (fun b => by kernel_rfl) (fun b_4 => jkO ?_))
  refine jo_f [(0, 0)] (by kernel_rfl) ?_
  refine jo_end (by kernel_rfl) ?_
  refine jx_then ?_
  refine jc_seq ?_
  refine jc_region ?_
  refine toO (by kernel_rfl) (p_a 0 [0] (by kernel_rfl) (fun b => by kernel_rfl) (fun b_5 => jkO ?_))
  refine toO (by kernel_rfl) (p_a 0 [0] (by kernel_rfl) (fun b => by kernel_rfl) (fun b_6 => jkO ?_))
  refine toO (by kernel_rfl) (p_s 0 [5] (by kernel_rfl) (by kernel_rfl) (jkO ?_))
  refine jo_end (by kernel_rfl) ?_
  refine jx_then ?_
  refine jc_seq ?_
  refine jc_region ?_
  refine jo_f [(0, 0)] (by kernel_rfl) ?_
  refine toO (by kernel_rfl) (p_ldA 0 1 b_2 96 1 39 encU32 d1 (by kernel_rfl) (by kernel_rfl) (by kernel_rfl) encU32_len (by kernel_rfl) (jkO ?_))
  refine jo_f [(0, 0)] (by kernel_rfl) ?_
  obtain ⟨t_1, ht_7, h⟩ := bd h
  refine toO (by kernel_rfl) (p_call 0 73 #[(.agg #[(.int .i16 f0.fSteps), (.slice f0_fHammers_a f0.fHammers.length f0_fHammers_c)]), (.agg (row encU32 d1.1 []).toArray), (.func (.func 74) #[] #[(.pointer (some ⟨b_3, 0, none⟩)), (.pointer (some ⟨b_4, 0, none⟩)), (.pointer (some ⟨b_6, 0, none⟩)), (.pointer (some ⟨b_1, 0, none⟩))])] (by kernel_rfl) (by kernel_rfl) (fun w hm => impl_Frame_pins_at_impl_Frame_played_1.calls f0 d1 from2 steps3 ([] : List GNote) f0 w _ f0_fHammers_a f0.fHammers.length f0_fHammers_c (hm.exRow f0_fHammers_h List.not_mem_nil) rfl f0_fHammers_a f0.fHammers.length f0_fHammers_c (hm.exRow f0_fHammers_h List.not_mem_nil) rfl b_3 b_4 b_6 (some b_5) 0 0 [] rfl (fun _ => ⟨Nat.le_refl _, by simp⟩) (fun e => nomatch e) b_1 (hm.pass (N := [⟨some b_3, 2, [(.int .i64 from2)]⟩, ⟨some b_4, 2, [(.int .i64 steps3)]⟩, ⟨some b_6, 28, [(.slice (some ⟨b_5, 0, none⟩) 0 0)]⟩, ⟨(some b_5), 56, row encGNote ([] : List GNote) []⟩, ⟨some b_1, 27, [(.int .i16 f0.fSteps), (.slice f0_fHammers_a f0.fHammers.length f0_fHammers_c)]⟩]) [2, 3, 5, 4, 0] (by kernel_rfl) (by kernel_rfl)) (hm.exApart (N := [⟨some b_3, 2, [(.int .i64 from2)]⟩, ⟨some b_4, 2, [(.int .i64 steps3)]⟩, ⟨some b_6, 28, [(.slice (some ⟨b_5, 0, none⟩) 0 0)]⟩, ⟨(some b_5), 56, row encGNote ([] : List GNote) []⟩, ⟨some b_1, 27, [(.int .i16 f0.fSteps), (.slice f0_fHammers_a f0.fHammers.length f0_fHammers_c)]⟩]) f0_fHammers_h (fun _ => List.not_mem_nil) [2, 3, 5, 4, 0] (by kernel_rfl)) (hm.exApart (N := [⟨some b_3, 2, [(.int .i64 from2)]⟩, ⟨some b_4, 2, [(.int .i64 steps3)]⟩, ⟨some b_6, 28, [(.slice (some ⟨b_5, 0, none⟩) 0 0)]⟩, ⟨(some b_5), 56, row encGNote ([] : List GNote) []⟩, ⟨some b_1, 27, [(.int .i16 f0.fSteps), (.slice f0_fHammers_a f0.fHammers.length f0_fHammers_c)]⟩]) f0_fHammers_h (fun _ => List.not_mem_nil) [2, 3, 5, 4, 0] (by kernel_rfl)) ht_7) ?_)
  rintro w v w' hm ⟨o_8, cap_9, sp_10, _, rfl, hs_11, ho_12, rfl, hm'⟩
  refine ⟨_, Mem.pick (hm.appP (ps := [(2, ⟨some b_3, 2, [(.int .i64 from2)]⟩), (3, ⟨some b_4, 2, [(.int .i64 steps3)]⟩), (5, ⟨some b_6, 28, [(.slice (o_8.map fun b => ⟨b, 0, none⟩) t_1.length cap_9)]⟩), (0, ⟨some b_1, 27, [(.int .i16 f0.fSteps), (.slice f0_fHammers_a f0.fHammers.length f0_fHammers_c)]⟩)]) (ds := [4]) (N := [⟨o_8, 56, row encGNote t_1 sp_10⟩]) hm' [0, 1, 2, 4, 3] (by kernel_rfl) (by kernel_rfl) (by kernel_rfl)) (N := [⟨some b_1, 27, [(.int .i16 f0.fSteps), (.slice f0_fHammers_a f0.fHammers.length f0_fHammers_c)]⟩, ⟨(some b_2), 39, row encU32 d1.1 []⟩, ⟨some b_3, 2, [(.int .i64 from2)]⟩, ⟨some b_4, 2, [(.int .i64 steps3)]⟩, ⟨o_8, 56, row encGNote t_1 sp_10⟩, ⟨some b_6, 28, [(.slice (o_8.map fun b => ⟨b, 0, none⟩) t_1.length cap_9)]⟩]) [0, 1, 2, 3, 6, 5] (by kernel_rfl) (by kernel_rfl), jkO ?_⟩
  clear hm hm'
  refine jo_end (by kernel_rfl) ?_
  refine jx_then ?_
  refine jc_seq ?_
  refine jc_region ?_
  refine jo_f [(5, 0)] (by kernel_rfl) ?_
  obtain ⟨t_2, ht_13, h⟩ := bd h
  refine toO (by kernel_rfl) (p_call 0 75 #[(.slice (o_8.map fun b => ⟨b, 0, none⟩) t_1.length cap_9)] (by kernel_rfl) (by kernel_rfl) (fun w hm => impl_made.calls t_1 w _ (o_8.map fun b => ⟨b, 0, none⟩) t_1.length cap_9 (hm.ownRow (hh := 4) (o := o_8) (T := 56) (enc := encGNote) (xs := t_1) (sp := sp_10) (by kernel_rfl) (fun e => (ho_12 e).1) encGNote_len) rfl ht_13) ?_)
  rintro w v w' hm ⟨o_14, cap_15, sp_16, _, rfl, hs_17, ho_18, rfl, hm'⟩
  refine ⟨_, hm.app hm', jkO ?_⟩
  clear hm hm'
  refine jo_f [(0, 0)] (by kernel_rfl) ?_
  refine jo_end (by kernel_rfl) ?_
  refine jx_then ?_
  refine jc_ret ?_
  obtain rfl := Option.some.inj h
  exact jx_ret [] (.slice (o_14.map fun b => ⟨b, 0, none⟩) t_2.length cap_15) [] rfl (by kernel_rfl) (by kernel_rfl) (fun w hm => ⟨o_14, cap_15, sp_16, t_2.length, rfl, hs_17, ho_18, rfl, hm.pick [6] (by kernel_rfl) (by kernel_rfl)⟩)

/-! ### impl.HeardTune -/
noncomputable def impl_HeardTune (f0 : GFrame) (t1 : List GNote) (list2 : List GChoice) : Option ((List GNote) × Int) := (impl_DrumFor f0 t1 list2).bind fun t_1 => (if (t_1.2 != 0) = true then some ([], t_1.2) else (impl_Frame_played f0 t_1.1 0 (w64 f0.fSteps)).bind fun t_2 => some (t_2, 0))
set_option maxRecDepth 100000 in
theorem impl_HeardTune.calls (f0 : GFrame) (t1 : List GNote) (list2 : List GChoice) (w : World) (r : (List GNote) × Int) (f0_fHammers_a : Option Addr) (f0_fHammers_an : Nat) (f0_fHammers_c : Nat) (f0_fHammers_h : Rw w f0_fHammers_a 2 encGHammer f0.fHammers) (f0_fHammers_hn : f0.fHammers.length = f0_fHammers_an) (t1_a : Option Addr) (t1_an : Nat) (t1_c : Nat) (t1_h : Rw w t1_a 2 encGNote t1) (t1_hn : t1.length = t1_an) (list2_a : Option Addr) (list2_an : Nat) (list2_c : Nat) (list2_h : Rw w list2_a 4 encGChoice list2) (list2_hn : list2.length = list2_an) (h : impl_HeardTune f0 t1 list2 = some r) :
    Calls Tryz.prog 14 #[(.agg #[(.int .i16 f0.fSteps), (.slice f0_fHammers_a f0_fHammers_an f0_fHammers_c)]), (.slice t1_a t1_an t1_c), (.slice list2_a list2_an list2_c)] w fun e w' => ∃ v, e = .returned v ∧ (∃ (o0 : Option Nat) (c0 : Nat) (s0 : List Value) (n0 : Nat), r.1.length = n0 ∧ (o0 ≠ none → n0 ≤ c0 ∧ s0.length = (c0 - n0) * 2) ∧ (o0 = none → r.1 = [] ∧ c0 = 0) ∧ v = .tuple #[.slice (o0.map fun b => ⟨b, 0, none⟩) n0 c0, (.int .i64 r.2)] ∧ Mem w [] [⟨o0, 56, row encGNote r.1 s0⟩] w') := by
  subst f0_fHammers_hn t1_hn list2_hn
  rw [impl_HeardTune] at h
  refine enter (args := [(.agg #[(.int .i16 f0.fSteps), (.slice f0_fHammers_a f0.fHammers.length f0_fHammers_c)]), (.slice t1_a t1.length t1_c), (.slice list2_a list2.length list2_c)]) Tryz.func14 rfl Tryz.ntmps14 (by kernel_rfl) (L := []) (W := []) (Mem.start w) ?_
  refine jc_seq ?_
  refine jc_region ?_
  refine toO (by kernel_rfl) (p_a 0 [0] (by kernel_rfl) (fun b => by kernel_rfl) (fun b_1 => jkO ?_))
  refine jo_f [(0, 0), (0, 0)] (by kernel_rfl) ?_
  refine jo_end (by kernel_rfl) ?_
  refine jx_then ?_
  refine jc_seq ?_
  refine jc_region ?_
  refine jo_f [(0, 0), (0, 0), (0, 0)] (by kernel_rfl) ?_
  obtain ⟨t_1, ht_2, h⟩ := bd h
  refine toO (by kernel_rfl) (p_call 0 9 #[(.agg #[(.int .i16 f0.fSteps), (.slice f0_fHammers_a f0.fHammers.length f0_fHammers_c)]), (.slice t1_a t1.length t1_c), (.slice list2_a list2.length list2_c)] (by kernel_rfl) (by kernel_rfl) (fun w hm => impl_DrumFor.calls f0 t1 list2 w _ f0_fHammers_a f0.fHammers.length f0_fHammers_c (hm.exRow f0_fHammers_h List.not_mem_nil) rfl t1_a t1.length t1_c (hm.exRow t1_h List.not_mem_nil) rfl list2_a list2.length list2_c (hm.exRow list2_h List.not_mem_nil) rfl ht_2) ?_)
  rintro w v w' hm ⟨rfl, hm'⟩
  refine ⟨_, hm.app hm', jkO ?_⟩
  clear hm hm'
  refine jo_f [(0, 0), (0, 0), (0, 0)] (by kernel_rfl) ?_
  refine toO (by kernel_rfl) (p_a 0 [0] (by kernel_rfl) (fun b => by kernel_rfl) (fun b_3 => jkO ?_))
  refine toO (by kernel_rfl) (p_sA 0 1 b_3 96 1 39 encU32 (Arr.rep 96 0) t_1.1 (by kernel_rfl) (by kernel_rfl) (by kernel_rfl) encU32_len encU32_cell (by kernel_rfl) (jkO ?_))
  refine jo_f [(0, 0)] (by kernel_rfl) ?_
  refine jo_end (by kernel_rfl) ?_
  refine jx_then ?_
  refine jc_seq ?_
  refine jc_seq ?_
  refine jc_region ?_
  refine jo_f [(0, 0), (0, 0)] (by kernel_rfl) ?_
  refine jo_end (by kernel_rfl) ?_
  refine jx_then ?_
  refine jc_cond (t_1.2 != 0) (by kernel_rfl) (fun hc_5 => ?_) (fun hc_5 => ?_)
  · replace h := ifT hc_5 h
    refine jc_seq ?_
    refine jc_region ?_
    refine jo_f [(0, 0), (0, 0), (0, 0)] (by kernel_rfl) ?_
    refine jo_end (by kernel_rfl) ?_
    refine jx_then ?_
    refine jc_ret ?_
    refine jx_thenr ?_
    obtain rfl := Option.some.inj h
    refine jx_ghost 56 encGNote ?_
    exact jx_ret [] (.tuple #[(.slice none 0 0), (.int .i64 t_1.2)]) [] rfl (by kernel_rfl) (by kernel_rfl) (fun w hm => ⟨none, 0, [], 0, rfl, (fun e => absurd rfl e), (fun _ => ⟨rfl, rfl⟩), rfl, hm.pick [2] (by kernel_rfl) (by kernel_rfl)⟩)
  · replace h := ifF hc_5 h
    refine jc_skip ?_
    refine jx_then ?_
    refine jc_seq ?_
    refine jc_region ?_
    refine jo_f [(0, 0)] (by kernel_rfl) ?_
    refine toO (by kernel_rfl) (p_ldA 0 1 b_3 96 1 39 encU32 t_1.1 (by kernel_rfl) (by kernel_rfl) (by kernel_rfl) encU32_len (by kernel_rfl) (jkO ?_))
    refine jo_f [(0, 0), (0, 0), (0, 0)] (by kernel_rfl) ?_
    obtain ⟨t_2, ht_6, h⟩ := bd h
    refine toO (by kernel_rfl) (p_call 0 38 #[(.agg #[(.int .i16 f0.fSteps), (.slice f0_fHammers_a f0.fHammers.length f0_fHammers_c)]), (.agg (row encU32 t_1.1.1 []).toArray), (.int .i64 0), (.int .i64 (w64 f0.fSteps))] (by kernel_rfl) (by kernel_rfl) (fun w hm => impl_Frame_played.calls f0 t_1.1 0 (w64 f0.fSteps) w _ f0_fHammers_a f0.fHammers.length f0_fHammers_c (hm.exRow f0_fHammers_h List.not_mem_nil) rfl ht_6) ?_)
    rintro w v w' hm ⟨o_7, cap_8, sp_9, _, rfl, hs_10, ho_11, rfl, hm'⟩
    refine ⟨_, hm.app hm', jkO ?_⟩
    clear hm hm'
    refine jo_f [(0, 0), (0, 0)] (by kernel_rfl) ?_
    refine jo_end (by kernel_rfl) ?_
    refine jx_then ?_
    refine jc_ret ?_
    obtain rfl := Option.some.inj h
    exact jx_ret [] (.tuple #[(.slice (o_7.map fun b => ⟨b, 0, none⟩) t_2.length cap_8), (.int .i64 0)]) [] rfl (by kernel_rfl) (by kernel_rfl) (fun w hm => ⟨o_7, cap_8, sp_9, t_2.length, rfl, hs_10, ho_11, rfl, hm.pick [2] (by kernel_rfl) (by kernel_rfl)⟩)

/-! ### spec.l02Drum -/
noncomputable def spec_l02Drum.k_1 : Option (Bool) := some true
noncomputable def spec_l02Drum.k_6 (i_2 : Int) (q_5 : Bool) : Option ((Int) ⊕ (Bool ⊕ Unit)) := (if q_5 = true then some (.inr (.inl false)) else some (.inl (w64 (i_2 + 1))))
noncomputable def spec_l02Drum.l_3 (f0 : GFrame) (d1 : Arr 96 Int) : Int → Option ((Int) ⊕ (Bool ⊕ Unit))
  | i_2 => (if (decide (i_2 < 96)) = true then (ix d1.1 i_2).bind fun x_7 => (if 0 ≤ (u64 (f0.fHammers.length : Int)) then (if ((bShr .u32 x_7 (u64 (f0.fHammers.length : Int))) != 0) = true then spec_l02Drum.k_6 i_2 true else (if (decide (i_2 ≥ (w64 f0.fSteps))) = true then (ix d1.1 i_2).bind fun x_8 => spec_l02Drum.k_6 i_2 (x_8 != 0) else spec_l02Drum.k_6 i_2 false)) else none) else some (.inr (.inr ())))
noncomputable def spec_l02Drum (f0 : GFrame) (d1 : Arr 96 Int) : Option (Bool) := (loop (spec_l02Drum.l_3 f0 d1) 0).bind fun t_4 => match t_4 with | .inl p => some p | .inr p => spec_l02Drum.k_1
set_option maxRecDepth 100000 in
theorem spec_l02Drum.calls (f0 : GFrame) (d1 : Arr 96 Int) (w : World) (r : Bool) (f0_fHammers_a : Option Addr) (f0_fHammers_an : Nat) (f0_fHammers_c : Nat) (f0_fHammers_h : Rw w f0_fHammers_a 2 encGHammer f0.fHammers) (f0_fHammers_hn : f0.fHammers.length = f0_fHammers_an) (f0_b : Nat) (d1_b : Nat) (hm0 : Mem w (bs [some f0_b, some d1_b]) [⟨some f0_b, 27, [(.int .i16 f0.fSteps), (.slice f0_fHammers_a f0_fHammers_an f0_fHammers_c)]⟩, ⟨(some d1_b), 39, row encU32 d1.1 []⟩] w) (f0_fHammers_ha : f0.fHammers ≠ [] → aB f0_fHammers_a ∉ bs [some f0_b, some d1_b]) (h : spec_l02Drum f0 d1 = some r) :
    Calls Tryz.prog 76 #[(.pointer (some ⟨f0_b, 0, none⟩)), (.pointer (some ⟨d1_b, 0, none⟩))] w fun e w' => ∃ v, e = .returned v ∧ (v = (.bool r) ∧ Mem w (bs [some f0_b, some d1_b]) [⟨some f0_b, 27, [(.int .i16 f0.fSteps), (.slice f0_fHammers_a f0_fHammers_an f0_fHammers_c)]⟩, ⟨(some d1_b), 39, row encU32 d1.1 []⟩] w') := by
  subst f0_fHammers_hn
  rw [spec_l02Drum] at h
  refine enter (args := [(.pointer (some ⟨f0_b, 0, none⟩)), (.pointer (some ⟨d1_b, 0, none⟩))]) Tryz.func76 rfl Tryz.ntmps76 (by kernel_rfl) (L := [⟨some f0_b, 27, [(.int .i16 f0.fSteps), (.slice f0_fHammers_a f0.fHammers.length f0_fHammers_c)]⟩, ⟨(some d1_b), 39, row encU32 d1.1 []⟩]) (W := bs [some f0_b, some d1_b]) hm0 ?_
  refine jc_seq ?_
  refine jc_region ?_
  refine jo_f [(0, 0)] (by kernel_rfl) ?_
  refine jo_end (by kernel_rfl) ?_
  refine jx_then ?_
  refine jc_seq ?_
  refine jc_seq ?_
  refine jc_region ?_
  refine jo_f [(0, 0)] (by kernel_rfl) ?_
  refine jo_end (by kernel_rfl) ?_
  refine jx_then ?_
  refine jc_meet (fun (_ : Unit) => spec_l02Drum.k_1 = some r) (fun (_ : Unit) => [(4, [], (.bool false))]) (fun (_ : Unit) => [⟨some f0_b, 27, [(.int .i16 f0.fSteps), (.slice f0_fHammers_a f0.fHammers.length f0_fHammers_c)]⟩, ⟨(some d1_b), 39, row encU32 d1.1 []⟩]) ?_ ?_
  · refine jc_block ?_
    obtain ⟨t_4, ht_88, hr_71⟩ := bd h
    refine jc_loop (fun (s : Int) (x : Unit) => match s, x with | i_2, _ => True) (fun (s : Int) (x : Unit) => match s, x with | i_2, _ => [(0, [], (.pointer (some ⟨f0_b, 0, none⟩))), (1, [], (.pointer (some ⟨d1_b, 0, none⟩))), (4, [], (.bool false)), (5, [], (.int .i64 i_2))]) (fun (s : Int) (x : Unit) => match s, x with | i_2, _ => [⟨some f0_b, 27, [(.int .i16 f0.fSteps), (.slice f0_fHammers_a f0.fHammers.length f0_fHammers_c)]⟩, ⟨(some d1_b), 39, row encU32 d1.1 []⟩]) ht_88 () trivial (by kernel_rfl) [0, 1] (by kernel_rfl) (by kernel_rfl) ?_
    rintro i_2 _ y_72 _ h
    rw [spec_l02Drum.l_3] at h
    refine jc_seq ?_
    refine jc_seq ?_
    refine jc_region ?_
    refine jo_f [(0, 0), (0, 0)] (by kernel_rfl) ?_
    refine jo_end (by kernel_rfl) ?_
    refine jx_then ?_
    refine jc_cond (decide (i_2 < 96)) (by kernel_rfl) (fun hc_74 => ?_) (fun hc_74 => ?_)
    · replace h := ifT hc_74 h
      refine jc_skip ?_
      refine jx_then ?_
      refine jc_seq ?_
      refine jc_block ?_
      refine jc_seq ?_
      refine jc_meet (fun (j : Bool) => match j with | q_5 => spec_l02Drum.k_6 i_2 q_5 = some y_72) (fun (j : Bool) => match j with | q_5 => [(0, [], (.pointer (some ⟨f0_b, 0, none⟩))), (1, [], (.pointer (some ⟨d1_b, 0, none⟩))), (4, [], (.bool false)), (5, [], (.int .i64 i_2)), (39, [], (.bool q_5))]) (fun (j : Bool) => match j with | q_5 => [⟨some f0_b, 27, [(.int .i16 f0.fSteps), (.slice f0_fHammers_a f0.fHammers.length f0_fHammers_c)]⟩, ⟨(some d1_b), 39, row encU32 d1.1 []⟩]) ?_ ?_
      · refine jc_draw [⟨some f0_b, 27, [(.int .i16 f0.fSteps), (.slice f0_fHammers_a f0.fHammers.length f0_fHammers_c)]⟩, ⟨(some d1_b), 39, row encU32 d1.1 []⟩] 30 (by kernel_rfl) (by kernel_rfl) ?_
        refine jd_f [⟨0, 0, 0⟩, ⟨1, 0, 0⟩, ⟨2, 0, 0⟩, ⟨5, 0, 0⟩, ⟨6, 0, 0⟩, ⟨7, 0, 0⟩, ⟨8, 0, 0⟩, ⟨9, 0, 0⟩, ⟨10, 0, 0⟩] 21 (by kernel_rfl) (by kernel_rfl) (fun w h => h.pick [0, 1] (by kernel_rfl) (by kernel_rfl)) (by kernel_rfl) (by kernel_rfl) ?_
        obtain ⟨x_7, hx_82, h⟩ := bd h
        refine jd_v 3 0 (by kernel_rfl) (fun w h => h.pick [0, 1] (by kernel_rfl) (by kernel_rfl)) (by kernel_rfl) (by kernel_rfl) _ (fun w hm => idx_run (a := (some ⟨d1_b, 0, none⟩)) (len := 96) (s := 1) (j := i_2) (by kernel_rfl) (ix_some hx_82).1 (ltn hx_82 d1.2) rfl) ?_
        refine jd_v 4 0 (by kernel_rfl) (fun w h => h.pick [0, 1] (by kernel_rfl) (by kernel_rfl)) (by kernel_rfl) (by kernel_rfl) _ (fun w hm => ld_run (b := aB (some ⟨d1_b, 0, none⟩)) (off := (aO (some ⟨d1_b, 0, none⟩) + i_2.toNat * 1)) (s := 1) (agg := false) (vs := (encU32 x_7)) (by kernel_rfl) (by kernel_rfl) (.inr rfl) ((hm.ownRow (hh := 1) (o := (some d1_b)) (T := 39) (enc := encU32) (xs := d1.1) (sp := []) (by kernel_rfl) (fun e => nomatch e) encU32_len).at hx_82)) ?_
        obtain ⟨hg_83, h⟩ := gd h
        refine toD 11 (by kernel_rfl) (p_shr 0 .u32 x_7 .u64 (u64 (f0.fHammers.length : Int)) (by kernel_rfl) (by kernel_rfl) hg_83 (jkD (fun w h => h.pick [0, 1] (by kernel_rfl) (by kernel_rfl)) ?_))
        refine jd_f [⟨12, 0, 0⟩, ⟨13, 0, 0⟩, ⟨14, 0, 1⟩, ⟨15, 0, 1⟩, ⟨16, 0, 1⟩, ⟨17, 0, 1⟩, ⟨18, 0, 1⟩, ⟨19, 0, 1⟩, ⟨20, 0, 1⟩] 9 (by kernel_rfl) (by kernel_rfl) (fun w h => h.pick [0, 1] (by kernel_rfl) (by kernel_rfl)) (by kernel_rfl) (by kernel_rfl) ?_
        refine jd_split 23 ((bShr .u32 x_7 (u64 (f0.fHammers.length : Int))) != 0) (by kernel_rfl) (fun hc_84 => ?_) (fun hc_84 => ?_)
        · replace h := ifT hc_84 h
          refine jd_f [⟨21, 0, 3⟩, ⟨22, 0, 3⟩, ⟨23, 0, 3⟩, ⟨24, 0, 3⟩, ⟨25, 0, 3⟩, ⟨26, 0, 3⟩, ⟨27, 0, 3⟩, ⟨28, 0, 3⟩, ⟨29, 0, 4⟩] 0 (by kernel_rfl) (by kernel_rfl) (fun w h => h.pick [0, 1] (by kernel_rfl) (by kernel_rfl)) (by kernel_rfl) (by kernel_rfl) ?_
          refine jd_end (by kernel_rfl) ?_
          exact jx_meet true h (by kernel_rfl) [0, 1] (by kernel_rfl) (by kernel_rfl)
        · replace h := ifF hc_84 h
          refine jd_f [⟨21, 0, 2⟩, ⟨22, 0, 1⟩, ⟨23, 0, 1⟩, ⟨24, 0, 1⟩] 5 (by kernel_rfl) (by kernel_rfl) (fun w h => h.pick [0, 1] (by kernel_rfl) (by kernel_rfl)) (by kernel_rfl) (by kernel_rfl) ?_
          refine jd_split 31 (decide (i_2 ≥ (w64 f0.fSteps))) (by kernel_rfl) (fun hc_85 => ?_) (fun hc_85 => ?_)
          · replace h := ifT hc_85 h
            obtain ⟨x_8, hx_86, h⟩ := bd h
            refine jd_v 25 2 (by kernel_rfl) (fun w h => h.pick [0, 1] (by kernel_rfl) (by kernel_rfl)) (by kernel_rfl) (by kernel_rfl) _ (fun w hm => idx_run (a := (some ⟨d1_b, 0, none⟩)) (len := 96) (s := 1) (j := i_2) (by kernel_rfl) (ix_some hx_86).1 (ltn hx_86 d1.2) rfl) ?_
            refine jd_v 26 2 (by kernel_rfl) (fun w h => h.pick [0, 1] (by kernel_rfl) (by kernel_rfl)) (by kernel_rfl) (by kernel_rfl) _ (fun w hm => ld_run (b := aB (some ⟨d1_b, 0, none⟩)) (off := (aO (some ⟨d1_b, 0, none⟩) + i_2.toNat * 1)) (s := 1) (agg := false) (vs := (encU32 x_8)) (by kernel_rfl) (by kernel_rfl) (.inr rfl) ((hm.ownRow (hh := 1) (o := (some d1_b)) (T := 39) (enc := encU32) (xs := d1.1) (sp := []) (by kernel_rfl) (fun e => nomatch e) encU32_len).at hx_86)) ?_
            refine jd_f [⟨27, 0, 2⟩, ⟨28, 0, 4⟩, ⟨29, 0, 5⟩] 0 (by kernel_rfl) (by kernel_rfl) (fun w h => h.pick [0, 1] (by kernel_rfl) (by kernel_rfl)) (by kernel_rfl) (by kernel_rfl) ?_
            refine jd_end (by kernel_rfl) ?_
            exact jx_meet (x_8 != 0) h (by kernel_rfl) [0, 1] (by kernel_rfl) (by kernel_rfl)
          · replace h := ifF hc_85 h
            refine jd_f [⟨25, 0, 3⟩, ⟨26, 0, 3⟩, ⟨27, 0, 3⟩, ⟨28, 0, 5⟩, ⟨29, 0, 5⟩] 0 (by kernel_rfl) (by kernel_rfl) (fun w h => h.pick [0, 1] (by kernel_rfl) (by kernel_rfl)) (by kernel_rfl) (by kernel_rfl) ?_
            refine jd_end (by kernel_rfl) ?_
            exact jx_meet false h (by kernel_rfl) [0, 1] (by kernel_rfl) (by kernel_rfl)
      · rintro q_5 h
        replace h : spec_l02Drum.k_6 i_2 q_5 = some y_72 := h
        rw [spec_l02Drum.k_6] at h
        refine jx_then ?_
        refine jc_cond q_5 (by kernel_rfl) (fun hc_80 => ?_) (fun hc_80 => ?_)
        · replace h := ifT hc_80 h
          refine jc_seq ?_
          refine jc_region ?_
          refine jo_f [(0, 0)] (by kernel_rfl) ?_
          refine jo_end (by kernel_rfl) ?_
          refine jx_then ?_
          refine jc_ret ?_
          refine jx_inr ?_
          refine jx_thenr ?_
          refine jx_leaver (.inl false) (Option.some.inj h).symm (fun e_81 => ?_)
          subst e_81
          refine jx_inr ?_
          refine jx_thenr ?_
          refine jx_thenr ?_
          obtain rfl := Option.some.inj hr_71
          exact jx_ret [] (.bool false) [] rfl (by kernel_rfl) (by kernel_rfl) (fun w hm => ⟨rfl, hm.pick [0, 1] (by kernel_rfl) (by kernel_rfl)⟩)
        · replace h := ifF hc_80 h
          refine jc_skip ?_
          refine jx_inn ?_
          refine jx_then ?_
          refine jc_region ?_
          refine jo_f [(0, 0), (0, 0), (0, 0)] (by kernel_rfl) ?_
          refine jo_end (by kernel_rfl) ?_
          exact jx_back (w64 (i_2 + 1)) () (Option.some.inj h).symm trivial [0, 1] (by kernel_rfl) (by kernel_rfl) (by kernel_rfl)
    · replace h := ifF hc_74 h
      refine jc_exit ?_
      refine jx_thenx ?_
      refine jx_leave (.inr ()) (Option.some.inj h).symm (fun e_87 => ?_)
      subst e_87
      refine jx_ine ?_
      exact jx_meet () hr_71 (by kernel_rfl) [0, 1] (by kernel_rfl) (by kernel_rfl)
  · rintro _ h
    replace h : spec_l02Drum.k_1 = some r := h
    rw [spec_l02Drum.k_1] at h
    refine jx_then ?_
    refine jc_seq ?_
    refine jc_region ?_
    refine jo_f [(0, 0)] (by kernel_rfl) ?_
    refine jo_end (by kernel_rfl) ?_
    refine jx_then ?_
    refine jc_ret ?_
    obtain rfl := Option.some.inj h
    exact jx_ret [] (.bool true) [] rfl (by kernel_rfl) (by kernel_rfl) (fun w hm => ⟨rfl, hm.pick [0, 1] (by kernel_rfl) (by kernel_rfl)⟩)

/-! ### spec.l02Asked -/
noncomputable def spec_l02Asked.k_2 (q_1 : Bool) : Option (Int) := (if q_1 = true then some 1 else some 0)
noncomputable def spec_l02Asked (f0 : GFrame) (d1 : Arr 96 Int) : Option (Int) := (spec_l02Frame f0).bind fun t_3 => (if (!t_3) = true then spec_l02Asked.k_2 true else (spec_l02Drum f0 d1).bind fun t_4 => spec_l02Asked.k_2 (!t_4))
set_option maxRecDepth 100000 in
theorem spec_l02Asked.calls (f0 : GFrame) (d1 : Arr 96 Int) (w : World) (r : Int) (f0_fHammers_a : Option Addr) (f0_fHammers_an : Nat) (f0_fHammers_c : Nat) (f0_fHammers_h : Rw w f0_fHammers_a 2 encGHammer f0.fHammers) (f0_fHammers_hn : f0.fHammers.length = f0_fHammers_an) (f0_b : Nat) (d1_b : Nat) (hm0 : Mem w (bs [some f0_b, some d1_b]) [⟨some f0_b, 27, [(.int .i16 f0.fSteps), (.slice f0_fHammers_a f0_fHammers_an f0_fHammers_c)]⟩, ⟨(some d1_b), 39, row encU32 d1.1 []⟩] w) (f0_fHammers_ha : f0.fHammers ≠ [] → aB f0_fHammers_a ∉ bs [some f0_b, some d1_b]) (h : spec_l02Asked f0 d1 = some r) :
    Calls Tryz.prog 39 #[(.pointer (some ⟨f0_b, 0, none⟩)), (.pointer (some ⟨d1_b, 0, none⟩))] w fun e w' => ∃ v, e = .returned v ∧ (v = (.int .i64 r) ∧ Mem w (bs [some f0_b, some d1_b]) [⟨some f0_b, 27, [(.int .i16 f0.fSteps), (.slice f0_fHammers_a f0_fHammers_an f0_fHammers_c)]⟩, ⟨(some d1_b), 39, row encU32 d1.1 []⟩] w') := by
  subst f0_fHammers_hn
  rw [spec_l02Asked] at h
  refine enter (args := [(.pointer (some ⟨f0_b, 0, none⟩)), (.pointer (some ⟨d1_b, 0, none⟩))]) Tryz.func39 rfl Tryz.ntmps39 (by kernel_rfl) (L := [⟨some f0_b, 27, [(.int .i16 f0.fSteps), (.slice f0_fHammers_a f0.fHammers.length f0_fHammers_c)]⟩, ⟨(some d1_b), 39, row encU32 d1.1 []⟩]) (W := bs [some f0_b, some d1_b]) hm0 ?_
  refine jc_seq ?_
  refine jc_region ?_
  refine jo_f [(0, 0)] (by kernel_rfl) ?_
  refine jo_end (by kernel_rfl) ?_
  refine jx_then ?_
  refine jc_seq ?_
  refine jc_seq ?_
  refine jc_meet (fun (j : Bool) => match j with | q_1 => spec_l02Asked.k_2 q_1 = some r) (fun (j : Bool) => match j with | q_1 => [(4, [], (.int .i64 0)), (13, [], (.bool q_1))]) (fun (j : Bool) => match j with | q_1 => [⟨some f0_b, 27, [(.int .i16 f0.fSteps), (.slice f0_fHammers_a f0.fHammers.length f0_fHammers_c)]⟩, ⟨(some d1_b), 39, row encU32 d1.1 []⟩]) ?_ ?_
  · refine jc_region ?_
    refine jo_f [(0, 0)] (by kernel_rfl) ?_
    obtain ⟨t_3, ht_5, h⟩ := bd h
    refine toO (by kernel_rfl) (p_call 0 48 #[(.pointer (some ⟨f0_b, 0, none⟩))] (by kernel_rfl) (by kernel_rfl) (fun w hm => spec_l02Frame.calls f0 w _ f0_fHammers_a f0.fHammers.length f0_fHammers_c (hm.exRowW f0_fHammers_h f0_fHammers_ha) rfl f0_b (hm.pass (N := [⟨some f0_b, 27, [(.int .i16 f0.fSteps), (.slice f0_fHammers_a f0.fHammers.length f0_fHammers_c)]⟩]) [0] (by kernel_rfl) (by kernel_rfl)) (hm.exApart (N := [⟨some f0_b, 27, [(.int .i16 f0.fSteps), (.slice f0_fHammers_a f0.fHammers.length f0_fHammers_c)]⟩]) f0_fHammers_h f0_fHammers_ha [0] (by kernel_rfl)) ht_5) ?_)
    rintro w v w' hm ⟨rfl, hm'⟩
    refine ⟨_, hm.appW (ps := [(0, ⟨some f0_b, 27, [(.int .i16 f0.fSteps), (.slice f0_fHammers_a f0.fHammers.length f0_fHammers_c)]⟩)]) (N := []) hm' (by kernel_rfl) (by kernel_rfl), jkO ?_⟩
    clear hm hm'
    refine jo_f [(0, 0), (0, 0), (0, 1), (0, 1)] (by kernel_rfl) ?_
    refine jo_split 8 (!t_3) (by kernel_rfl) (fun hc_6 => ?_) (fun hc_6 => ?_)
    · replace h := ifT hc_6 h
      refine jo_f [(0, 3), (0, 3), (0, 4)] (by kernel_rfl) ?_
      refine jo_end (by kernel_rfl) ?_
      exact jx_meet true h (by kernel_rfl) [0, 1] (by kernel_rfl) (by kernel_rfl)
    · replace h := ifF hc_6 h
      obtain ⟨t_4, ht_7, h⟩ := bd h
      refine toO (by kernel_rfl) (p_call 2 76 #[(.pointer (some ⟨f0_b, 0, none⟩)), (.pointer (some ⟨d1_b, 0, none⟩))] (by kernel_rfl) (by kernel_rfl) (fun w hm => spec_l02Drum.calls f0 d1 w _ f0_fHammers_a f0.fHammers.length f0_fHammers_c (hm.exRowW f0_fHammers_h f0_fHammers_ha) rfl f0_b d1_b (hm.pass (N := [⟨some f0_b, 27, [(.int .i16 f0.fSteps), (.slice f0_fHammers_a f0.fHammers.length f0_fHammers_c)]⟩, ⟨(some d1_b), 39, row encU32 d1.1 []⟩]) [0, 1] (by kernel_rfl) (by kernel_rfl)) (hm.exApart (N := [⟨some f0_b, 27, [(.int .i16 f0.fSteps), (.slice f0_fHammers_a f0.fHammers.length f0_fHammers_c)]⟩, ⟨(some d1_b), 39, row encU32 d1.1 []⟩]) f0_fHammers_h f0_fHammers_ha [0, 1] (by kernel_rfl)) ht_7) ?_)
      rintro w v w' hm ⟨rfl, hm'⟩
      refine ⟨_, hm.appW (ps := [(0, ⟨some f0_b, 27, [(.int .i16 f0.fSteps), (.slice f0_fHammers_a f0.fHammers.length f0_fHammers_c)]⟩), (1, ⟨(some d1_b), 39, row encU32 d1.1 []⟩)]) (N := []) hm' (by kernel_rfl) (by kernel_rfl), jkO ?_⟩
      clear hm hm'
      refine jo_f [(0, 2), (0, 5)] (by kernel_rfl) ?_
      refine jo_end (by kernel_rfl) ?_
      exact jx_meet (!t_4) h (by kernel_rfl) [0, 1] (by kernel_rfl) (by kernel_rfl)
  · rintro q_1 h
    replace h : spec_l02Asked.k_2 q_1 = some r := h
    rw [spec_l02Asked.k_2] at h
    refine jx_then ?_
    refine jc_cond q_1 (by kernel_rfl) (fun hc_4 => ?_) (fun hc_4 => ?_)
    · replace h := ifT hc_4 h
      refine jc_seq ?_
      refine jc_region ?_
      refine jo_f [(0, 0)] (by kernel_rfl) ?_
      refine jo_end (by kernel_rfl) ?_
      refine jx_then ?_
      refine jc_ret ?_
      refine jx_thenr ?_
      obtain rfl := Option.some.inj h
      exact jx_ret [] (.int .i64 1) [] rfl (by kernel_rfl) (by kernel_rfl) (fun w hm => ⟨rfl, hm.pick [0, 1] (by kernel_rfl) (by kernel_rfl)⟩)
    · replace h := ifF hc_4 h
      refine jc_skip ?_
      refine jx_then ?_
      refine jc_seq ?_
      refine jc_region ?_
      refine jo_f [(0, 0)] (by kernel_rfl) ?_
      refine jo_end (by kernel_rfl) ?_
      refine jx_then ?_
      refine jc_ret ?_
      obtain rfl := Option.some.inj h
      exact jx_ret [] (.int .i64 0) [] rfl (by kernel_rfl) (by kernel_rfl) (fun w hm => ⟨rfl, hm.pick [0, 1] (by kernel_rfl) (by kernel_rfl)⟩)

/-! ### spec.l02Tune -/
noncomputable def spec_l02Tune.k_2 (xs_1 : List GNote) : Option ((List GNote)) := (spec_l01Sorted xs_1).bind fun t_3 => some t_3
noncomputable def spec_l02Tune.k_9 (i_5 : Int) (xs_8 : List GNote) : Option (((List GNote) × Int) ⊕ ((List GNote))) := some (.inl (xs_8, (w64 (i_5 + 1))))
noncomputable def spec_l02Tune.l_12 (f0 : GFrame) (d1 : Arr 96 Int) (i_5 : Int) : ((List GNote) × Int) → Option (((List GNote) × Int) ⊕ ((List GNote)))
  | (xs_10, i_11) => (if (decide (i_11 < (f0.fHammers.length : Int))) = true then (spec_l02Pin d1 i_5 i_11).bind fun t_14 => (if t_14 = true then (ix f0.fHammers i_11).bind fun x_15 => (if xs_10.length + [(⟨(w16 i_5), x_15.fPitch⟩ : GNote)].length ≤ 4294967296 then some (.inl ((xs_10 ++ [(⟨(w16 i_5), x_15.fPitch⟩ : GNote)]), (w64 (i_11 + 1)))) else none) else some (.inl (xs_10, (w64 (i_11 + 1))))) else some (.inr xs_10))
noncomputable def spec_l02Tune.l_6 (f0 : GFrame) (d1 : Arr 96 Int) : ((List GNote) × Int) → Option (((List GNote) × Int) ⊕ ((List GNote)))
  | (xs_4, i_5) => (if (decide (i_5 < (w64 f0.fSteps))) = true then (loop (spec_l02Tune.l_12 f0 d1 i_5) (xs_4, 0)).bind fun t_13 => spec_l02Tune.k_9 i_5 t_13 else some (.inr xs_4))
noncomputable def spec_l02Tune (f0 : GFrame) (d1 : Arr 96 Int) : Option ((List GNote)) := (loop (spec_l02Tune.l_6 f0 d1) (([] : List GNote), 0)).bind fun t_7 => spec_l02Tune.k_2 t_7
set_option maxRecDepth 100000 in
theorem spec_l02Tune.calls (f0 : GFrame) (d1 : Arr 96 Int) (w : World) (r : (List GNote)) (f0_fHammers_a : Option Addr) (f0_fHammers_an : Nat) (f0_fHammers_c : Nat) (f0_fHammers_h : Rw w f0_fHammers_a 2 encGHammer f0.fHammers) (f0_fHammers_hn : f0.fHammers.length = f0_fHammers_an) (f0_b : Nat) (d1_b : Nat) (hm0 : Mem w (bs [some f0_b, some d1_b]) [⟨some f0_b, 27, [(.int .i16 f0.fSteps), (.slice f0_fHammers_a f0_fHammers_an f0_fHammers_c)]⟩, ⟨(some d1_b), 39, row encU32 d1.1 []⟩] w) (f0_fHammers_ha : f0.fHammers ≠ [] → aB f0_fHammers_a ∉ bs [some f0_b, some d1_b]) (h : spec_l02Tune f0 d1 = some r) :
    Calls Tryz.prog 40 #[(.pointer (some ⟨f0_b, 0, none⟩)), (.pointer (some ⟨d1_b, 0, none⟩))] w fun e w' => ∃ v, e = .returned v ∧ (∃ (o0 : Option Nat) (c0 : Nat) (s0 : List Value) (n0 : Nat), r.length = n0 ∧ (o0 ≠ none → n0 ≤ c0 ∧ s0.length = (c0 - n0) * 2) ∧ (o0 = none → r = [] ∧ c0 = 0) ∧ v = .slice (o0.map fun b => ⟨b, 0, none⟩) n0 c0 ∧ Mem w (bs [some f0_b, some d1_b]) [⟨some f0_b, 27, [(.int .i16 f0.fSteps), (.slice f0_fHammers_a f0_fHammers_an f0_fHammers_c)]⟩, ⟨(some d1_b), 39, row encU32 d1.1 []⟩, ⟨o0, 56, row encGNote r s0⟩] w') := by
  subst f0_fHammers_hn
  rw [spec_l02Tune] at h
  refine enter (args := [(.pointer (some ⟨f0_b, 0, none⟩)), (.pointer (some ⟨d1_b, 0, none⟩))]) Tryz.func40 rfl Tryz.ntmps40 (by kernel_rfl) (L := [⟨some f0_b, 27, [(.int .i16 f0.fSteps), (.slice f0_fHammers_a f0.fHammers.length f0_fHammers_c)]⟩, ⟨(some d1_b), 39, row encU32 d1.1 []⟩]) (W := bs [some f0_b, some d1_b]) hm0 ?_
  refine jc_seq ?_
  refine jc_region ?_
  refine jo_f [(0, 0)] (by kernel_rfl) ?_
  refine jo_end (by kernel_rfl) ?_
  refine jx_then ?_
  refine jc_seq ?_
  refine jc_region ?_
  refine toO (by kernel_rfl) (p_a 0 [0] (by kernel_rfl) (fun b => by kernel_rfl) (fun b_1 => jkO ?_))
  refine jo_f [(0, 0)] (by kernel_rfl) ?_
  refine jo_end (by kernel_rfl) ?_
  refine jx_then ?_
  refine jc_seq ?_
  refine jc_seq ?_
  refine jc_region ?_
  refine jo_f [(0, 0)] (by kernel_rfl) ?_
  refine jo_end (by kernel_rfl) ?_
  refine jx_then ?_
  refine jc_meet (fun (j : (List GNote) × (Option Nat) × Nat × (List Value) × Nat) => match j with | ⟨xs_1, o_1064, cap_1065, sp_1066, n_1067⟩ => spec_l02Tune.k_2 xs_1 = some r ∧ (xs_1.length = n_1067) ∧ ((o_1064 ≠ none → n_1067 ≤ cap_1065 ∧ sp_1066.length = (cap_1065 - n_1067) * 2)) ∧ ((o_1064 = none → xs_1 = [] ∧ cap_1065 = 0))) (fun (j : (List GNote) × (Option Nat) × Nat × (List Value) × Nat) => match j with | ⟨xs_1, o_1064, cap_1065, sp_1066, n_1067⟩ => [(4, [], (.slice none 0 0)), (5, [], (.slice (o_1064.map fun b => ⟨b, 0, none⟩) n_1067 cap_1065))]) (fun (j : (List GNote) × (Option Nat) × Nat × (List Value) × Nat) => match j with | ⟨xs_1, o_1064, cap_1065, sp_1066, n_1067⟩ => [⟨some f0_b, 27, [(.int .i16 f0.fSteps), (.slice f0_fHammers_a f0.fHammers.length f0_fHammers_c)]⟩, ⟨(some d1_b), 39, row encU32 d1.1 []⟩, ⟨o_1064, 56, row encGNote xs_1 sp_1066⟩]) ?_ ?_
  · refine jc_block ?_
    obtain ⟨t_7, ht_1427, hr_1312⟩ := bd h
    refine jc_loop (fun (s : (List GNote) × Int) (x : (Option Nat) × Nat × (List Value) × Nat) => match s, x with | ⟨xs_4, i_5⟩, ⟨o_1306, cap_1307, sp_1308, n_1309⟩ => (xs_4.length = n_1309) ∧ ((o_1306 ≠ none → n_1309 ≤ cap_1307 ∧ sp_1308.length = (cap_1307 - n_1309) * 2)) ∧ ((o_1306 = none → xs_4 = [] ∧ cap_1307 = 0))) (fun (s : (List GNote) × Int) (x : (Option Nat) × Nat × (List Value) × Nat) => match s, x with | ⟨xs_4, i_5⟩, ⟨o_1306, cap_1307, sp_1308, n_1309⟩ => [(0, [], (.pointer (some ⟨f0_b, 0, none⟩))), (1, [], (.pointer (some ⟨d1_b, 0, none⟩))), (4, [], (.slice none 0 0)), (5, [], (.slice (o_1306.map fun b => ⟨b, 0, none⟩) n_1309 cap_1307)), (6, [], (.int .i64 i_5))]) (fun (s : (List GNote) × Int) (x : (Option Nat) × Nat × (List Value) × Nat) => match s, x with | ⟨xs_4, i_5⟩, ⟨o_1306, cap_1307, sp_1308, n_1309⟩ => [⟨some f0_b, 27, [(.int .i16 f0.fSteps), (.slice f0_fHammers_a f0.fHammers.length f0_fHammers_c)]⟩, ⟨(some d1_b), 39, row encU32 d1.1 []⟩, ⟨o_1306, 56, row encGNote xs_4 sp_1308⟩]) ht_1427 ⟨(some b_1), 0, [], 0⟩ ⟨rfl, (fun _ => ⟨Nat.le_refl _, by simp⟩), (fun e => nomatch e)⟩ (by kernel_rfl) [0, 1, 2] (by kernel_rfl) (by kernel_rfl) ?_
    rintro ⟨xs_4, i_5⟩ ⟨o_1306, cap_1307, sp_1308, n_1309⟩ y_1313 ⟨rfl, hs_1310, ho_1311⟩ h
    rw [spec_l02Tune.l_6] at h
    refine jc_seq ?_
    refine jc_seq ?_
    refine jc_region ?_
    refine jo_f [(0, 0), (0, 0), (0, 0), (0, 0), (0, 0), (0, 0), (0, 0)] (by kernel_rfl) ?_
    refine jo_end (by kernel_rfl) ?_
    refine jx_then ?_
    refine jc_cond (decide (i_5 < (w64 f0.fSteps))) (by kernel_rfl) (fun hc_1315 => ?_) (fun hc_1315 => ?_)
    · replace h := ifT hc_1315 h
      refine jc_skip ?_
      refine jx_then ?_
      refine jc_seq ?_
      refine jc_block ?_
      refine jc_seq ?_
      refine jc_region ?_
      refine jo_f [(0, 0)] (by kernel_rfl) ?_
      refine jo_end (by kernel_rfl) ?_
      refine jx_then ?_
      refine jc_meet (fun (j : (List GNote) × (Option Nat) × Nat × (List Value) × Nat) => match j with | ⟨xs_8, o_1368, cap_1369, sp_1370, n_1371⟩ => spec_l02Tune.k_9 i_5 xs_8 = some y_1313 ∧ (xs_8.length = n_1371) ∧ ((o_1368 ≠ none → n_1371 ≤ cap_1369 ∧ sp_1370.length = (cap_1369 - n_1371) * 2)) ∧ ((o_1368 = none → xs_8 = [] ∧ cap_1369 = 0))) (fun (j : (List GNote) × (Option Nat) × Nat × (List Value) × Nat) => match j with | ⟨xs_8, o_1368, cap_1369, sp_1370, n_1371⟩ => [(0, [], (.pointer (some ⟨f0_b, 0, none⟩))), (1, [], (.pointer (some ⟨d1_b, 0, none⟩))), (4, [], (.slice none 0 0)), (5, [], (.slice (o_1368.map fun b => ⟨b, 0, none⟩) n_1371 cap_1369)), (6, [], (.int .i64 i_5))]) (fun (j : (List GNote) × (Option Nat) × Nat × (List Value) × Nat) => match j with | ⟨xs_8, o_1368, cap_1369, sp_1370, n_1371⟩ => [⟨some f0_b, 27, [(.int .i16 f0.fSteps), (.slice f0_fHammers_a f0.fHammers.length f0_fHammers_c)]⟩, ⟨(some d1_b), 39, row encU32 d1.1 []⟩, ⟨o_1368, 56, row encGNote xs_8 sp_1370⟩]) ?_ ?_
      · refine jc_block ?_
        obtain ⟨t_13, ht_1425, hr_1410⟩ := bd h
        refine jc_loop (fun (s : (List GNote) × Int) (x : (Option Nat) × Nat × (List Value) × Nat) => match s, x with | ⟨xs_10, i_11⟩, ⟨o_1404, cap_1405, sp_1406, n_1407⟩ => (xs_10.length = n_1407) ∧ ((o_1404 ≠ none → n_1407 ≤ cap_1405 ∧ sp_1406.length = (cap_1405 - n_1407) * 2)) ∧ ((o_1404 = none → xs_10 = [] ∧ cap_1405 = 0))) (fun (s : (List GNote) × Int) (x : (Option Nat) × Nat × (List Value) × Nat) => match s, x with | ⟨xs_10, i_11⟩, ⟨o_1404, cap_1405, sp_1406, n_1407⟩ => [(0, [], (.pointer (some ⟨f0_b, 0, none⟩))), (1, [], (.pointer (some ⟨d1_b, 0, none⟩))), (4, [], (.slice none 0 0)), (5, [], (.slice (o_1404.map fun b => ⟨b, 0, none⟩) n_1407 cap_1405)), (6, [], (.int .i64 i_5)), (7, [], (.int .i64 i_11))]) (fun (s : (List GNote) × Int) (x : (Option Nat) × Nat × (List Value) × Nat) => match s, x with | ⟨xs_10, i_11⟩, ⟨o_1404, cap_1405, sp_1406, n_1407⟩ => [⟨some f0_b, 27, [(.int .i16 f0.fSteps), (.slice f0_fHammers_a f0.fHammers.length f0_fHammers_c)]⟩, ⟨(some d1_b), 39, row encU32 d1.1 []⟩, ⟨o_1404, 56, row encGNote xs_10 sp_1406⟩]) ht_1425 ⟨o_1306, cap_1307, sp_1308, xs_4.length⟩ ⟨rfl, hs_1310, ho_1311⟩ (by kernel_rfl) [0, 1, 2] (by kernel_rfl) (by kernel_rfl) ?_
        rintro ⟨xs_10, i_11⟩ ⟨o_1404, cap_1405, sp_1406, n_1407⟩ y_1411 ⟨rfl, hs_1408, ho_1409⟩ h
        rw [spec_l02Tune.l_12] at h
        refine jc_seq ?_
        refine jc_seq ?_
        refine jc_region ?_
        refine jo_f [(0, 0), (0, 0), (0, 0), (0, 0), (0, 0), (0, 0), (0, 0)] (by kernel_rfl) ?_
        refine jo_end (by kernel_rfl) ?_
        refine jx_then ?_
        refine jc_cond (decide (i_11 < (f0.fHammers.length : Int))) (by kernel_rfl) (fun hc_1413 => ?_) (fun hc_1413 => ?_)
        · replace h := ifT hc_1413 h
          refine jc_skip ?_
          refine jx_then ?_
          refine jc_seq ?_
          refine jc_block ?_
          refine jc_seq ?_
          refine jc_region ?_
          refine jo_f [(0, 0), (0, 0), (0, 0)] (by kernel_rfl) ?_
          obtain ⟨t_14, ht_1414, h⟩ := bd h
          refine toO (by kernel_rfl) (p_call 0 77 #[(.pointer (some ⟨d1_b, 0, none⟩)), (.int .i64 i_5), (.int .i64 i_11)] (by kernel_rfl) (by kernel_rfl) (fun w hm => spec_l02Pin.calls d1 i_5 i_11 w _ d1_b (hm.pass (N := [⟨(some d1_b), 39, row encU32 d1.1 []⟩]) [1] (by kernel_rfl) (by kernel_rfl)) ht_1414) ?_)
          rintro w v w' hm ⟨rfl, hm'⟩
          refine ⟨_, hm.appW (ps := [(1, ⟨(some d1_b), 39, row encU32 d1.1 []⟩)]) (N := []) hm' (by kernel_rfl) (by kernel_rfl), jkO ?_⟩
          clear hm hm'
          refine jo_end (by kernel_rfl) ?_
          refine jx_then ?_
          refine jc_cond t_14 (by kernel_rfl) (fun hc_1415 => ?_) (fun hc_1415 => ?_)
          · replace h := ifT hc_1415 h
            refine jc_region ?_
            refine jo_f [(0, 0), (0, 0), (0, 0), (0, 0), (0, 0), (0, 0), (0, 0), (0, 0)] (by kernel_rfl) ?_
            obtain ⟨x_15, hx_1416, h⟩ := bd h
            refine toO (by kernel_rfl) (p_idx 0 f0_fHammers_a f0.fHammers.length i_11 2 (by kernel_rfl) (by kernel_rfl) (ix_some hx_1416).1 (ltn hx_1416 rfl) (f0_fHammers_h.sp hx_1416) (jkO ?_))
            refine jo_f [(0, 0)] (by kernel_rfl) ?_
            refine toO (by kernel_rfl) (p_ld 0 (aB f0_fHammers_a) (aO f0_fHammers_a + i_11.toNat * 2) false (((encGHammer x_15).drop 0).take 1) (by kernel_rfl) (by kernel_rfl) (by kernel_rfl) (fun w hm => (((hm.exRowW f0_fHammers_h f0_fHammers_ha).at hx_1416).sub 0 1)) (jkO ?_))
            refine jo_f [(0, 0)] (by kernel_rfl) ?_
            refine toO (by kernel_rfl) (p_a 0 [0] (by kernel_rfl) (fun b => by kernel_rfl) (fun b_1417 => jkO ?_))
            obtain ⟨hg_1418, h⟩ := gd h
            refine toO (by kernel_rfl) (p_apn 0 2 o_1404 56 xs_10.length 1 cap_1405 2 4 (some ⟨b_1417, 0, none⟩) encGNote xs_10 [(⟨(w16 i_5), x_15.fPitch⟩ : GNote)] sp_1406 (.agg #[(.int .i16 0), (.int .i8 0)]) rfl rfl (by kernel_rfl) (by kernel_rfl) (by kernel_rfl) encGNote_len encGNote_cell hs_1408 ho_1409 (fun w hm => (hm.ownRow (hh := 3) (o := (some b_1417)) (T := 56) (enc := encGNote) (xs := [(⟨(w16 i_5), x_15.fPitch⟩ : GNote)]) (sp := []) (by kernel_rfl) (fun e => nomatch e) encGNote_len)) hg_1418 (by kernel_rfl) (by kernel_rfl) (fun o_1419 cap_1420 sp_1421 hs_1422 ho_1423 => jkO ?_))
            refine jo_f [(0, 0)] (by kernel_rfl) ?_
            refine jo_end (by kernel_rfl) ?_
            refine jx_inn ?_
            refine jx_then ?_
            refine jc_region ?_
            refine jo_f [(0, 0), (0, 0), (0, 0)] (by kernel_rfl) ?_
            refine jo_end (by kernel_rfl) ?_
            exact jx_back ((xs_10 ++ [(⟨(w16 i_5), x_15.fPitch⟩ : GNote)]), (w64 (i_11 + 1))) ⟨o_1419, cap_1420, sp_1421, (xs_10 ++ [(⟨(w16 i_5), x_15.fPitch⟩ : GNote)]).length⟩ (Option.some.inj h).symm ⟨rfl, hs_1422, ho_1423⟩ [0, 1, 2] (by kernel_rfl) (by kernel_rfl) (by kernel_rfl)
          · replace h := ifF hc_1415 h
            refine jc_skip ?_
            refine jx_inn ?_
            refine jx_then ?_
            refine jc_region ?_
            refine jo_f [(0, 0), (0, 0), (0, 0)] (by kernel_rfl) ?_
            refine jo_end (by kernel_rfl) ?_
            exact jx_back (xs_10, (w64 (i_11 + 1))) ⟨o_1404, cap_1405, sp_1406, xs_10.length⟩ (Option.some.inj h).symm ⟨rfl, hs_1408, ho_1409⟩ [0, 1, 2] (by kernel_rfl) (by kernel_rfl) (by kernel_rfl)
        · replace h := ifF hc_1413 h
          refine jc_exit ?_
          refine jx_thenx ?_
          refine jx_leave xs_10 (Option.some.inj h).symm (fun e_1424 => ?_)
          subst e_1424
          refine jx_ine ?_
          exact jx_meet ⟨xs_10, o_1404, cap_1405, sp_1406, xs_10.length⟩ ⟨hr_1410, rfl, hs_1408, ho_1409⟩ (by kernel_rfl) [0, 1, 2] (by kernel_rfl) (by kernel_rfl)
      · rintro ⟨xs_8, o_1368, cap_1369, sp_1370, n_1371⟩ ⟨h, rfl, hs_1372, ho_1373⟩
        replace h : spec_l02Tune.k_9 i_5 xs_8 = some y_1313 := h
        rw [spec_l02Tune.k_9] at h
        refine jx_inn ?_
        refine jx_then ?_
        refine jc_region ?_
        refine jo_f [(0, 0), (0, 0), (0, 0)] (by kernel_rfl) ?_
        refine jo_end (by kernel_rfl) ?_
        exact jx_back (xs_8, (w64 (i_5 + 1))) ⟨o_1368, cap_1369, sp_1370, xs_8.length⟩ (Option.some.inj h).symm ⟨rfl, hs_1372, ho_1373⟩ [0, 1, 2] (by kernel_rfl) (by kernel_rfl) (by kernel_rfl)
    · replace h := ifF hc_1315 h
      refine jc_exit ?_
      refine jx_thenx ?_
      refine jx_leave xs_4 (Option.some.inj h).symm (fun e_1426 => ?_)
      subst e_1426
      refine jx_ine ?_
      exact jx_meet ⟨xs_4, o_1306, cap_1307, sp_1308, xs_4.length⟩ ⟨hr_1312, rfl, hs_1310, ho_1311⟩ (by kernel_rfl) [0, 1, 2] (by kernel_rfl) (by kernel_rfl)
  · rintro ⟨xs_1, o_1064, cap_1065, sp_1066, n_1067⟩ ⟨h, rfl, hs_1068, ho_1069⟩
    replace h : spec_l02Tune.k_2 xs_1 = some r := h
    rw [spec_l02Tune.k_2] at h
    refine jx_then ?_
    refine jc_seq ?_
    refine jc_region ?_
    refine jo_f [(0, 0)] (by kernel_rfl) ?_
    obtain ⟨t_3, ht_1070, h⟩ := bd h
    refine toO (by kernel_rfl) (p_call 0 52 #[(.slice (o_1064.map fun b => ⟨b, 0, none⟩) xs_1.length cap_1065)] (by kernel_rfl) (by kernel_rfl) (fun w hm => spec_l01Sorted.calls xs_1 w _ (o_1064.map fun b => ⟨b, 0, none⟩) xs_1.length cap_1065 (hm.ownRow (hh := 2) (o := o_1064) (T := 56) (enc := encGNote) (xs := xs_1) (sp := sp_1066) (by kernel_rfl) (fun e => (ho_1069 e).1) encGNote_len) rfl ht_1070) ?_)
    rintro w v w' hm ⟨o_1071, cap_1072, sp_1073, _, rfl, hs_1074, ho_1075, rfl, hm'⟩
    refine ⟨_, hm.app hm', jkO ?_⟩
    clear hm hm'
    refine jo_f [(0, 0)] (by kernel_rfl) ?_
    refine jo_end (by kernel_rfl) ?_
    refine jx_then ?_
    refine jc_ret ?_
    obtain rfl := Option.some.inj h
    exact jx_ret [] (.slice (o_1071.map fun b => ⟨b, 0, none⟩) t_3.length cap_1072) [] rfl (by kernel_rfl) (by kernel_rfl) (fun w hm => ⟨o_1071, cap_1072, sp_1073, t_3.length, rfl, hs_1074, ho_1075, rfl, hm.pick [0, 1, 3] (by kernel_rfl) (by kernel_rfl)⟩)

/-! ### spec.TuneOf -/
noncomputable def spec_TuneOf (f0 : GFrame) (d1 : Arr 96 Int) : Option ((List GNote) × Int) := (spec_l02Asked f0 d1).bind fun t_1 => (if (t_1 != 0) = true then some (([] : List GNote), t_1) else (spec_l02Tune f0 d1).bind fun t_2 => (if (decide ((t_2.length : Int) > 120)) = true then some (([] : List GNote), 3) else some (t_2, 0)))
set_option maxRecDepth 100000 in
theorem spec_TuneOf.calls (f0 : GFrame) (d1 : Arr 96 Int) (w : World) (r : (List GNote) × Int) (f0_fHammers_a : Option Addr) (f0_fHammers_an : Nat) (f0_fHammers_c : Nat) (f0_fHammers_h : Rw w f0_fHammers_a 2 encGHammer f0.fHammers) (f0_fHammers_hn : f0.fHammers.length = f0_fHammers_an) (h : spec_TuneOf f0 d1 = some r) :
    Calls Tryz.prog 15 #[(.agg #[(.int .i16 f0.fSteps), (.slice f0_fHammers_a f0_fHammers_an f0_fHammers_c)]), (.agg (row encU32 d1.1 []).toArray)] w fun e w' => ∃ v, e = .returned v ∧ (∃ (o0 : Option Nat) (c0 : Nat) (s0 : List Value) (n0 : Nat), r.1.length = n0 ∧ (o0 ≠ none → n0 ≤ c0 ∧ s0.length = (c0 - n0) * 2) ∧ (o0 = none → r.1 = [] ∧ c0 = 0) ∧ v = .tuple #[.slice (o0.map fun b => ⟨b, 0, none⟩) n0 c0, (.int .i64 r.2)] ∧ Mem w [] [⟨o0, 56, row encGNote r.1 s0⟩] w') := by
  subst f0_fHammers_hn
  rw [spec_TuneOf] at h
  refine enter (args := [(.agg #[(.int .i16 f0.fSteps), (.slice f0_fHammers_a f0.fHammers.length f0_fHammers_c)]), (.agg (row encU32 d1.1 []).toArray)]) Tryz.func15 rfl Tryz.ntmps15 (by kernel_rfl) (L := []) (W := []) (Mem.start w) ?_
  refine jc_seq ?_
  refine jc_region ?_
  refine toO (by kernel_rfl) (p_a 0 [0] (by kernel_rfl) (fun b => by kernel_rfl) (fun b_1 => jkO ?_))
  refine toO (by kernel_rfl) (p_a 0 [0] (by kernel_rfl) (fun b => by kernel_rfl) (fun b_2 => jkO ?_))
  refine jo_f [(0, 0), (0, 0)] (by kernel_rfl) ?_
  refine jo_end (by kernel_rfl) ?_
  refine jx_then ?_
  refine jc_seq ?_
  refine jc_seq ?_
  refine jc_region ?_
  obtain ⟨t_1, ht_6, h⟩ := bd h
  refine toO (by kernel_rfl) (p_call 0 39 #[(.pointer (some ⟨b_1, 0, none⟩)), (.pointer (some ⟨b_2, 0, none⟩))] (by kernel_rfl) (by kernel_rfl) (fun w hm => spec_l02Asked.calls f0 d1 w _ f0_fHammers_a f0.fHammers.length f0_fHammers_c (hm.exRow f0_fHammers_h List.not_mem_nil) rfl b_1 b_2 (hm.pass (N := [⟨some b_1, 27, [(.int .i16 f0.fSteps), (.slice f0_fHammers_a f0.fHammers.length f0_fHammers_c)]⟩, ⟨(some b_2), 39, row encU32 d1.1 []⟩]) [0, 1] (by kernel_rfl) (by kernel_rfl)) (hm.exApart (N := [⟨some b_1, 27, [(.int .i16 f0.fSteps), (.slice f0_fHammers_a f0.fHammers.length f0_fHammers_c)]⟩, ⟨(some b_2), 39, row encU32 d1.1 []⟩]) f0_fHammers_h (fun _ => List.not_mem_nil) [0, 1] (by kernel_rfl)) ht_6) ?_)
  rintro w v w' hm ⟨rfl, hm'⟩
  refine ⟨_, hm.appW (ps := [(0, ⟨some b_1, 27, [(.int .i16 f0.fSteps), (.slice f0_fHammers_a f0.fHammers.length f0_fHammers_c)]⟩), (1, ⟨(some b_2), 39, row encU32 d1.1 []⟩)]) (N := []) hm' (by kernel_rfl) (by kernel_rfl), jkO ?_⟩
  clear hm hm'
  refine jo_f [(0, 0)] (by kernel_rfl) ?_
  refine jo_end (by kernel_rfl) ?_
  refine jx_then ?_
  refine jc_seq ?_
  refine jc_region ?_
  refine jo_f [(0, 0), (0, 0)] (by kernel_rfl) ?_
  refine jo_end (by kernel_rfl) ?_
  refine jx_then ?_
  refine jc_cond (t_1 != 0) (by kernel_rfl) (fun hc_7 => ?_) (fun hc_7 => ?_)
  · replace h := ifT hc_7 h
    refine jc_seq ?_
    refine jc_region ?_
    refine toO (by kernel_rfl) (p_a 0 [0] (by kernel_rfl) (fun b => by kernel_rfl) (fun b_8 => jkO ?_))
    refine jo_f [(0, 0), (0, 0), (0, 0)] (by kernel_rfl) ?_
    refine jo_end (by kernel_rfl) ?_
    refine jx_then ?_
    refine jc_ret ?_
    refine jx_thenr ?_
    obtain rfl := Option.some.inj h
    exact jx_ret [] (.tuple #[(.slice (some ⟨b_8, 0, none⟩) 0 0), (.int .i64 t_1)]) [] rfl (by kernel_rfl) (by kernel_rfl) (fun w hm => ⟨(some b_8), 0, [], 0, rfl, (fun _ => ⟨Nat.le_refl _, by simp⟩), (fun e => nomatch e), rfl, hm.pick [2] (by kernel_rfl) (by kernel_rfl)⟩)
  · replace h := ifF hc_7 h
    refine jc_skip ?_
    refine jx_then ?_
    refine jc_seq ?_
    refine jc_region ?_
    obtain ⟨t_2, ht_9, h⟩ := bd h
    refine toO (by kernel_rfl) (p_call 0 40 #[(.pointer (some ⟨b_1, 0, none⟩)), (.pointer (some ⟨b_2, 0, none⟩))] (by kernel_rfl) (by kernel_rfl) (fun w hm => spec_l02Tune.calls f0 d1 w _ f0_fHammers_a f0.fHammers.length f0_fHammers_c (hm.exRow f0_fHammers_h List.not_mem_nil) rfl b_1 b_2 (hm.pass (N := [⟨some b_1, 27, [(.int .i16 f0.fSteps), (.slice f0_fHammers_a f0.fHammers.length f0_fHammers_c)]⟩, ⟨(some b_2), 39, row encU32 d1.1 []⟩]) [0, 1] (by kernel_rfl) (by kernel_rfl)) (hm.exApart (N := [⟨some b_1, 27, [(.int .i16 f0.fSteps), (.slice f0_fHammers_a f0.fHammers.length f0_fHammers_c)]⟩, ⟨(some b_2), 39, row encU32 d1.1 []⟩]) f0_fHammers_h (fun _ => List.not_mem_nil) [0, 1] (by kernel_rfl)) ht_9) ?_)
    rintro w v w' hm ⟨o_10, cap_11, sp_12, _, rfl, hs_13, ho_14, rfl, hm'⟩
    refine ⟨_, hm.appW (ps := [(0, ⟨some b_1, 27, [(.int .i16 f0.fSteps), (.slice f0_fHammers_a f0.fHammers.length f0_fHammers_c)]⟩), (1, ⟨(some b_2), 39, row encU32 d1.1 []⟩)]) (N := [⟨o_10, 56, row encGNote t_2 sp_12⟩]) hm' (by kernel_rfl) (by kernel_rfl), jkO ?_⟩
    clear hm hm'
    refine jo_f [(0, 0)] (by kernel_rfl) ?_
    refine jo_end (by kernel_rfl) ?_
    refine jx_then ?_
    refine jc_seq ?_
    refine jc_seq ?_
    refine jc_region ?_
    refine jo_f [(0, 0), (0, 0), (0, 0)] (by kernel_rfl) ?_
    refine jo_end (by kernel_rfl) ?_
    refine jx_then ?_
    refine jc_cond (decide ((t_2.length : Int) > 120)) (by kernel_rfl) (fun hc_17 => ?_) (fun hc_17 => ?_)
    · replace h := ifT hc_17 h
      refine jc_seq ?_
      refine jc_region ?_
      refine toO (by kernel_rfl) (p_a 0 [0] (by kernel_rfl) (fun b => by kernel_rfl) (fun b_18 => jkO ?_))
      refine jo_f [(0, 0), (0, 0)] (by kernel_rfl) ?_
      refine jo_end (by kernel_rfl) ?_
      refine jx_then ?_
      refine jc_ret ?_
      refine jx_thenr ?_
      obtain rfl := Option.some.inj h
      exact jx_ret [] (.tuple #[(.slice (some ⟨b_18, 0, none⟩) 0 0), (.int .i64 3)]) [] rfl (by kernel_rfl) (by kernel_rfl) (fun w hm => ⟨(some b_18), 0, [], 0, rfl, (fun _ => ⟨Nat.le_refl _, by simp⟩), (fun e => nomatch e), rfl, hm.pick [3] (by kernel_rfl) (by kernel_rfl)⟩)
    · replace h := ifF hc_17 h
      refine jc_skip ?_
      refine jx_then ?_
      refine jc_seq ?_
      refine jc_region ?_
      refine jo_f [(0, 0), (0, 0), (0, 0)] (by kernel_rfl) ?_
      refine jo_end (by kernel_rfl) ?_
      refine jx_then ?_
      refine jc_ret ?_
      obtain rfl := Option.some.inj h
      exact jx_ret [] (.tuple #[(.slice (o_10.map fun b => ⟨b, 0, none⟩) t_2.length cap_11), (.int .i64 0)]) [] rfl (by kernel_rfl) (by kernel_rfl) (fun w hm => ⟨o_10, cap_11, sp_12, t_2.length, rfl, hs_13, ho_14, rfl, hm.pick [2] (by kernel_rfl) (by kernel_rfl)⟩)

/-! ### impl.bit -/
noncomputable def impl_bit (b0 : Bool) : Option (Int) := (if b0 = true then some 1 else some 0)
set_option maxRecDepth 100000 in
theorem impl_bit.calls (b0 : Bool) (w : World) (r : Int) (h : impl_bit b0 = some r) :
    Calls Tryz.prog 41 #[(.bool b0)] w fun e w' => ∃ v, e = .returned v ∧ (v = (.int .i64 r) ∧ Mem w [] [] w') := by
  rw [impl_bit] at h
  refine enter (args := [(.bool b0)]) Tryz.func41 rfl Tryz.ntmps41 (by kernel_rfl) (L := []) (W := []) (Mem.start w) ?_
  refine jc_seq ?_
  refine jc_region ?_
  refine jo_f [(0, 0)] (by kernel_rfl) ?_
  refine jo_end (by kernel_rfl) ?_
  refine jx_then ?_
  refine jc_seq ?_
  refine jc_seq ?_
  refine jc_region ?_
  refine jo_f [(0, 0)] (by kernel_rfl) ?_
  refine jo_end (by kernel_rfl) ?_
  refine jx_then ?_
  refine jc_cond b0 (by kernel_rfl) (fun hc_1 => ?_) (fun hc_1 => ?_)
  · replace h := ifT hc_1 h
    refine jc_seq ?_
    refine jc_region ?_
    refine jo_f [(0, 0)] (by kernel_rfl) ?_
    refine jo_end (by kernel_rfl) ?_
    refine jx_then ?_
    refine jc_ret ?_
    refine jx_thenr ?_
    obtain rfl := Option.some.inj h
    exact jx_ret [] (.int .i64 1) [] rfl (by kernel_rfl) (by kernel_rfl) (fun w hm => ⟨rfl, hm.pick [] (by kernel_rfl) (by kernel_rfl)⟩)
  · replace h := ifF hc_1 h
    refine jc_skip ?_
    refine jx_then ?_
    refine jc_seq ?_
    refine jc_region ?_
    refine jo_f [(0, 0)] (by kernel_rfl) ?_
    refine jo_end (by kernel_rfl) ?_
    refine jx_then ?_
    refine jc_ret ?_
    obtain rfl := Option.some.inj h
    exact jx_ret [] (.int .i64 0) [] rfl (by kernel_rfl) (by kernel_rfl) (fun w hm => ⟨rfl, hm.pick [] (by kernel_rfl) (by kernel_rfl)⟩)

/-! ### impl.KeptNotes -/
noncomputable def impl_KeptNotes.k_3 (i_2 : Int) : Option (Int × Int) := some (i_2, 0)
noncomputable def impl_KeptNotes.l_6 (list2 : List GChoice) : (Int × Int) → Option ((Int × Int) ⊕ (Int))
  | (i_4, i_5) => (if (decide (i_5 < (list2.length : Int))) = true then (ix list2 i_5).bind fun x_8 => (impl_bit (!x_8.fAway)).bind fun t_9 => some (.inl ((w64 (i_4 + t_9)), (w64 (i_5 + 1)))) else some (.inr i_4))
noncomputable def impl_KeptNotes (f0 : GFrame) (t1 : List GNote) (list2 : List GChoice) : Option (Int × Int) := (impl_fitted f0 t1 list2).bind fun t_1 => (if (t_1.2.2 != 0) = true then some (0, t_1.2.2) else (loop (impl_KeptNotes.l_6 list2) (0, 0)).bind fun t_7 => impl_KeptNotes.k_3 t_7)
set_option maxRecDepth 100000 in
theorem impl_KeptNotes.calls (f0 : GFrame) (t1 : List GNote) (list2 : List GChoice) (w : World) (r : Int × Int) (f0_fHammers_a : Option Addr) (f0_fHammers_an : Nat) (f0_fHammers_c : Nat) (f0_fHammers_h : Rw w f0_fHammers_a 2 encGHammer f0.fHammers) (f0_fHammers_hn : f0.fHammers.length = f0_fHammers_an) (t1_a : Option Addr) (t1_an : Nat) (t1_c : Nat) (t1_h : Rw w t1_a 2 encGNote t1) (t1_hn : t1.length = t1_an) (list2_a : Option Addr) (list2_an : Nat) (list2_c : Nat) (list2_h : Rw w list2_a 4 encGChoice list2) (list2_hn : list2.length = list2_an) (h : impl_KeptNotes f0 t1 list2 = some r) :
    Calls Tryz.prog 16 #[(.agg #[(.int .i16 f0.fSteps), (.slice f0_fHammers_a f0_fHammers_an f0_fHammers_c)]), (.slice t1_a t1_an t1_c), (.slice list2_a list2_an list2_c)] w fun e w' => ∃ v, e = .returned v ∧ (v = .tuple #[(.int .i64 r.1), (.int .i64 r.2)] ∧ Mem w [] [] w') := by
  subst f0_fHammers_hn t1_hn list2_hn
  rw [impl_KeptNotes] at h
  refine enter (args := [(.agg #[(.int .i16 f0.fSteps), (.slice f0_fHammers_a f0.fHammers.length f0_fHammers_c)]), (.slice t1_a t1.length t1_c), (.slice list2_a list2.length list2_c)]) Tryz.func16 rfl Tryz.ntmps16 (by kernel_rfl) (L := []) (W := []) (Mem.start w) ?_
  refine jc_seq ?_
  refine jc_region ?_
  refine toO (by kernel_rfl) (p_a 0 [0] (by kernel_rfl) (fun b => by kernel_rfl) (fun b_1 => jkO ?_))
  refine jo_f [(0, 0), (0, 0)] (by kernel_rfl) ?_
  refine jo_end (by kernel_rfl) ?_
  refine jx_then ?_
  refine jc_seq ?_
  refine jc_seq ?_
  refine jc_region ?_
  refine jo_f [(0, 0), (0, 0), (0, 0)] (by kernel_rfl) ?_
  obtain ⟨t_1, ht_5, h⟩ := bd h
  refine toO (by kernel_rfl) (p_call 0 35 #[(.agg #[(.int .i16 f0.fSteps), (.slice f0_fHammers_a f0.fHammers.length f0_fHammers_c)]), (.slice t1_a t1.length t1_c), (.slice list2_a list2.length list2_c)] (by kernel_rfl) (by kernel_rfl) (fun w hm => impl_fitted.calls f0 t1 list2 w _ f0_fHammers_a f0.fHammers.length f0_fHammers_c (hm.exRow f0_fHammers_h List.not_mem_nil) rfl t1_a t1.length t1_c (hm.exRow t1_h List.not_mem_nil) rfl list2_a list2.length list2_c (hm.exRow list2_h List.not_mem_nil) rfl ht_5) ?_)
  rintro w v w' hm ⟨rfl, hm'⟩
  refine ⟨_, hm.app hm', jkO ?_⟩
  clear hm hm'
  refine jo_f [(0, 0), (0, 0), (0, 0), (0, 0)] (by kernel_rfl) ?_
  refine toO (by kernel_rfl) (p_a 0 [0] (by kernel_rfl) (fun b => by kernel_rfl) (fun b_6 => jkO ?_))
  refine toO (by kernel_rfl) (p_sA 0 1 b_6 96 1 39 encU32 (Arr.rep 96 0) t_1.1 (by kernel_rfl) (by kernel_rfl) (by kernel_rfl) encU32_len encU32_cell (by kernel_rfl) (jkO ?_))
  refine jo_f [(0, 0), (0, 0)] (by kernel_rfl) ?_
  refine jo_end (by kernel_rfl) ?_
  refine jx_then ?_
  refine jc_seq ?_
  refine jc_region ?_
  refine jo_f [(0, 0), (0, 0)] (by kernel_rfl) ?_
  refine jo_end (by kernel_rfl) ?_
  refine jx_then ?_
  refine jc_cond (t_1.2.2 != 0) (by kernel_rfl) (fun hc_7 => ?_) (fun hc_7 => ?_)
  · replace h := ifT hc_7 h
    refine jc_seq ?_
    refine jc_region ?_
    refine jo_f [(0, 0), (0, 0), (0, 0)] (by kernel_rfl) ?_
    refine jo_end (by kernel_rfl) ?_
    refine jx_then ?_
    refine jc_ret ?_
    refine jx_thenr ?_
    obtain rfl := Option.some.inj h
    exact jx_ret [] (.tuple #[(.int .i64 0), (.int .i64 t_1.2.2)]) [] rfl (by kernel_rfl) (by kernel_rfl) (fun w hm => ⟨rfl, hm.pick [] (by kernel_rfl) (by kernel_rfl)⟩)
  · replace h := ifF hc_7 h
    refine jc_skip ?_
    refine jx_then ?_
    refine jc_seq ?_
    refine jc_region ?_
    refine jo_f [(0, 0)] (by kernel_rfl) ?_
    refine jo_end (by kernel_rfl) ?_
    refine jx_then ?_
    refine jc_seq ?_
    refine jc_seq ?_
    refine jc_region ?_
    refine jo_f [(0, 0), (0, 0), (0, 0)] (by kernel_rfl) ?_
    refine jo_end (by kernel_rfl) ?_
    refine jx_then ?_
    refine jc_meet (fun (j : Int) => match j with | i_2 => impl_KeptNotes.k_3 i_2 = some r) (fun (j : Int) => match j with | i_2 => [(6, [], (.int .i64 0)), (7, [], (.int .i64 0)), (11, [], (.int .i64 i_2))]) (fun (j : Int) => match j with | i_2 => [⟨some b_1, 27, [(.int .i16 f0.fSteps), (.slice f0_fHammers_a f0.fHammers.length f0_fHammers_c)]⟩, ⟨(some b_6), 39, row encU32 t_1.1.1 []⟩]) ?_ ?_
    · refine jc_block ?_
      obtain ⟨t_7, ht_83, hr_75⟩ := bd h
      refine jc_loop (fun (s : Int × Int) (x : Unit) => match s, x with | ⟨i_4, i_5⟩, _ => True) (fun (s : Int × Int) (x : Unit) => match s, x with | ⟨i_4, i_5⟩, _ => [(6, [], (.int .i64 0)), (7, [], (.int .i64 0)), (11, [], (.int .i64 i_4)), (25, [], (.slice list2_a list2.length list2_c)), (26, [], (.int .i64 (list2.length : Int))), (27, [], (.int .i64 i_5))]) (fun (s : Int × Int) (x : Unit) => match s, x with | ⟨i_4, i_5⟩, _ => [⟨some b_1, 27, [(.int .i16 f0.fSteps), (.slice f0_fHammers_a f0.fHammers.length f0_fHammers_c)]⟩, ⟨(some b_6), 39, row encU32 t_1.1.1 []⟩]) ht_83 () trivial (by kernel_rfl) [0, 1] (by kernel_rfl) (by kernel_rfl) ?_
      rintro ⟨i_4, i_5⟩ _ y_76 _ h
      rw [impl_KeptNotes.l_6] at h
      refine jc_seq ?_
      refine jc_region ?_
      refine jo_f [(0, 0)] (by kernel_rfl) ?_
      refine jo_end (by kernel_rfl) ?_
      refine jx_then ?_
      refine jc_seq ?_
      refine jc_cond (decide (i_5 < (list2.length : Int))) (by kernel_rfl) (fun hc_78 => ?_) (fun hc_78 => ?_)
      · replace h := ifT hc_78 h
        refine jc_skip ?_
        refine jx_then ?_
        refine jc_seq ?_
        refine jc_block ?_
        refine jc_seq ?_
        refine jc_region ?_
        obtain ⟨x_8, hx_79, h⟩ := bd h
        refine toO (by kernel_rfl) (p_idx 0 list2_a list2.length i_5 4 (by kernel_rfl) (by kernel_rfl) (ix_some hx_79).1 (ltn hx_79 rfl) (list2_h.sp hx_79) (jkO ?_))
        refine toO (by kernel_rfl) (p_ld 0 (aB list2_a) (aO list2_a + i_5.toNat * 4) true (encGChoice x_8) (by kernel_rfl) (by kernel_rfl) (by kernel_rfl) (fun w hm => ((hm.exRow list2_h List.not_mem_nil).at hx_79)) (jkO ?_))
        refine toO (by kernel_rfl) (p_a 0 [0] (by kernel_rfl) (fun b => by kernel_rfl) (fun b_80 => jkO ?_))
        refine toO (by kernel_rfl) (p_s 0 [2] (by kernel_rfl) (by kernel_rfl) (jkO ?_))
        refine jo_end (by kernel_rfl) ?_
        refine jx_then ?_
        refine jc_region ?_
        refine jo_f [(0, 0), (0, 0), (2, 0), (0, 0)] (by kernel_rfl) ?_
        obtain ⟨t_9, ht_81, h⟩ := bd h
        refine toO (by kernel_rfl) (p_call 0 41 #[(.bool (!x_8.fAway))] (by kernel_rfl) (by kernel_rfl) (fun w hm => impl_bit.calls (!x_8.fAway) w _ ht_81) ?_)
        rintro w v w' hm ⟨rfl, hm'⟩
        refine ⟨_, hm.app hm', jkO ?_⟩
        clear hm hm'
        refine jo_f [(0, 0), (0, 0)] (by kernel_rfl) ?_
        refine jo_end (by kernel_rfl) ?_
        refine jx_inn ?_
        refine jx_then ?_
        refine jc_region ?_
        refine jo_f [(0, 0), (0, 0)] (by kernel_rfl) ?_
        refine jo_end (by kernel_rfl) ?_
        exact jx_back ((w64 (i_4 + t_9)), (w64 (i_5 + 1))) () (Option.some.inj h).symm trivial [0, 1] (by kernel_rfl) (by kernel_rfl) (by kernel_rfl)
      · replace h := ifF hc_78 h
        refine jc_exit ?_
        refine jx_thenx ?_
        refine jx_leave i_4 (Option.some.inj h).symm (fun e_82 => ?_)
        subst e_82
        refine jx_ine ?_
        exact jx_meet i_4 hr_75 (by kernel_rfl) [0, 1] (by kernel_rfl) (by kernel_rfl)
    · rintro i_2 h
      replace h : impl_KeptNotes.k_3 i_2 = some r := h
      rw [impl_KeptNotes.k_3] at h
      refine jx_then ?_
      refine jc_seq ?_
      refine jc_region ?_
      refine jo_f [(0, 0), (0, 0), (0, 0)] (by kernel_rfl) ?_
      refine jo_end (by kernel_rfl) ?_
      refine jx_then ?_
      refine jc_ret ?_
      obtain rfl := Option.some.inj h
      exact jx_ret [] (.tuple #[(.int .i64 i_2), (.int .i64 0)]) [] rfl (by kernel_rfl) (by kernel_rfl) (fun w hm => ⟨rfl, hm.pick [] (by kernel_rfl) (by kernel_rfl)⟩)

/-! ### math/bits.OnesCount32 -/
noncomputable def math_bits_OnesCount32 (x0 : Int) : Option (Int) := (sIx (ByteArray.mk #[0, 1, 1, 2, 1, 2, 2, 3, 1, 2, 2, 3, 2, 3, 3, 4, 1, 2, 2, 3, 2, 3, 3, 4, 2, 3, 3, 4, 3, 4, 4, 5, 1, 2, 2, 3, 2, 3, 3, 4, 2, 3, 3, 4, 3, 4, 4, 5, 2, 3, 3, 4, 3, 4, 4, 5, 3, 4, 4, 5, 4, 5, 5, 6, 1, 2, 2, 3, 2, 3, 3, 4, 2, 3, 3, 4, 3, 4, 4, 5, 2, 3, 3, 4, 3, 4, 4, 5, 3, 4, 4, 5, 4, 5, 5, 6, 2, 3, 3, 4, 3, 4, 4, 5, 3, 4, 4, 5, 4, 5, 5, 6, 3, 4, 4, 5, 4, 5, 5, 6, 4, 5, 5, 6, 5, 6, 6, 7, 1, 2, 2, 3, 2, 3, 3, 4, 2, 3, 3, 4, 3, 4, 4, 5, 2, 3, 3, 4, 3, 4, 4, 5, 3, 4, 4, 5, 4, 5, 5, 6, 2, 3, 3, 4, 3, 4, 4, 5, 3, 4, 4, 5, 4, 5, 5, 6, 3, 4, 4, 5, 4, 5, 5, 6, 4, 5, 5, 6, 5, 6, 6, 7, 2, 3, 3, 4, 3, 4, 4, 5, 3, 4, 4, 5, 4, 5, 5, 6, 3, 4, 4, 5, 4, 5, 5, 6, 4, 5, 5, 6, 5, 6, 6, 7, 3, 4, 4, 5, 4, 5, 5, 6, 4, 5, 5, 6, 5, 6, 6, 7, 4, 5, 5, 6, 5, 6, 6, 7, 5, 6, 6, 7, 6, 7, 7, 8]) (bShr .u32 x0 24)).bind fun x_1 => (sIx (ByteArray.mk #[0, 1, 1, 2, 1, 2, 2, 3, 1, 2, 2, 3, 2, 3, 3, 4, 1, 2, 2, 3, 2, 3, 3, 4, 2, 3, 3, 4, 3, 4, 4, 5, 1, 2, 2, 3, 2, 3, 3, 4, 2, 3, 3, 4, 3, 4, 4, 5, 2, 3, 3, 4, 3, 4, 4, 5, 3, 4, 4, 5, 4, 5, 5, 6, 1, 2, 2, 3, 2, 3, 3, 4, 2, 3, 3, 4, 3, 4, 4, 5, 2, 3, 3, 4, 3, 4, 4, 5, 3, 4, 4, 5, 4, 5, 5, 6, 2, 3, 3, 4, 3, 4, 4, 5, 3, 4, 4, 5, 4, 5, 5, 6, 3, 4, 4, 5, 4, 5, 5, 6, 4, 5, 5, 6, 5, 6, 6, 7, 1, 2, 2, 3, 2, 3, 3, 4, 2, 3, 3, 4, 3, 4, 4, 5, 2, 3, 3, 4, 3, 4, 4, 5, 3, 4, 4, 5, 4, 5, 5, 6, 2, 3, 3, 4, 3, 4, 4, 5, 3, 4, 4, 5, 4, 5, 5, 6, 3, 4, 4, 5, 4, 5, 5, 6, 4, 5, 5, 6, 5, 6, 6, 7, 2, 3, 3, 4, 3, 4, 4, 5, 3, 4, 4, 5, 4, 5, 5, 6, 3, 4, 4, 5, 4, 5, 5, 6, 4, 5, 5, 6, 5, 6, 6, 7, 3, 4, 4, 5, 4, 5, 5, 6, 4, 5, 5, 6, 5, 6, 6, 7, 4, 5, 5, 6, 5, 6, 6, 7, 5, 6, 6, 7, 6, 7, 7, 8]) (bAnd .u32 (bShr .u32 x0 16) 255)).bind fun x_2 => (sIx (ByteArray.mk #[0, 1, 1, 2, 1, 2, 2, 3, 1, 2, 2, 3, 2, 3, 3, 4, 1, 2, 2, 3, 2, 3, 3, 4, 2, 3, 3, 4, 3, 4, 4, 5, 1, 2, 2, 3, 2, 3, 3, 4, 2, 3, 3, 4, 3, 4, 4, 5, 2, 3, 3, 4, 3, 4, 4, 5, 3, 4, 4, 5, 4, 5, 5, 6, 1, 2, 2, 3, 2, 3, 3, 4, 2, 3, 3, 4, 3, 4, 4, 5, 2, 3, 3, 4, 3, 4, 4, 5, 3, 4, 4, 5, 4, 5, 5, 6, 2, 3, 3, 4, 3, 4, 4, 5, 3, 4, 4, 5, 4, 5, 5, 6, 3, 4, 4, 5, 4, 5, 5, 6, 4, 5, 5, 6, 5, 6, 6, 7, 1, 2, 2, 3, 2, 3, 3, 4, 2, 3, 3, 4, 3, 4, 4, 5, 2, 3, 3, 4, 3, 4, 4, 5, 3, 4, 4, 5, 4, 5, 5, 6, 2, 3, 3, 4, 3, 4, 4, 5, 3, 4, 4, 5, 4, 5, 5, 6, 3, 4, 4, 5, 4, 5, 5, 6, 4, 5, 5, 6, 5, 6, 6, 7, 2, 3, 3, 4, 3, 4, 4, 5, 3, 4, 4, 5, 4, 5, 5, 6, 3, 4, 4, 5, 4, 5, 5, 6, 4, 5, 5, 6, 5, 6, 6, 7, 3, 4, 4, 5, 4, 5, 5, 6, 4, 5, 5, 6, 5, 6, 6, 7, 4, 5, 5, 6, 5, 6, 6, 7, 5, 6, 6, 7, 6, 7, 7, 8]) (bAnd .u32 (bShr .u32 x0 8) 255)).bind fun x_3 => (sIx (ByteArray.mk #[0, 1, 1, 2, 1, 2, 2, 3, 1, 2, 2, 3, 2, 3, 3, 4, 1, 2, 2, 3, 2, 3, 3, 4, 2, 3, 3, 4, 3, 4, 4, 5, 1, 2, 2, 3, 2, 3, 3, 4, 2, 3, 3, 4, 3, 4, 4, 5, 2, 3, 3, 4, 3, 4, 4, 5, 3, 4, 4, 5, 4, 5, 5, 6, 1, 2, 2, 3, 2, 3, 3, 4, 2, 3, 3, 4, 3, 4, 4, 5, 2, 3, 3, 4, 3, 4, 4, 5, 3, 4, 4, 5, 4, 5, 5, 6, 2, 3, 3, 4, 3, 4, 4, 5, 3, 4, 4, 5, 4, 5, 5, 6, 3, 4, 4, 5, 4, 5, 5, 6, 4, 5, 5, 6, 5, 6, 6, 7, 1, 2, 2, 3, 2, 3, 3, 4, 2, 3, 3, 4, 3, 4, 4, 5, 2, 3, 3, 4, 3, 4, 4, 5, 3, 4, 4, 5, 4, 5, 5, 6, 2, 3, 3, 4, 3, 4, 4, 5, 3, 4, 4, 5, 4, 5, 5, 6, 3, 4, 4, 5, 4, 5, 5, 6, 4, 5, 5, 6, 5, 6, 6, 7, 2, 3, 3, 4, 3, 4, 4, 5, 3, 4, 4, 5, 4, 5, 5, 6, 3, 4, 4, 5, 4, 5, 5, 6, 4, 5, 5, 6, 5, 6, 6, 7, 3, 4, 4, 5, 4, 5, 5, 6, 4, 5, 5, 6, 5, 6, 6, 7, 4, 5, 5, 6, 5, 6, 6, 7, 5, 6, 6, 7, 6, 7, 7, 8]) (bAnd .u32 x0 255)).bind fun x_4 => some (w64 (u8 ((u8 ((u8 (x_1 + x_2)) + x_3)) + x_4)))
set_option maxRecDepth 100000 in
theorem math_bits_OnesCount32.calls (x0 : Int) (w : World) (r : Int) (h : math_bits_OnesCount32 x0 = some r) :
    Calls Tryz.prog 113 #[(.int .u32 x0)] w fun e w' => ∃ v, e = .returned v ∧ (v = (.int .i64 r) ∧ Mem w [] [] w') := by
  rw [math_bits_OnesCount32] at h
  refine enter (args := [(.int .u32 x0)]) Tryz.func113 rfl Tryz.ntmps113 (by kernel_rfl) (L := []) (W := []) (Mem.start w) ?_
  refine jc_seq ?_
  refine jc_region ?_
  refine jo_f [(0, 0)] (by kernel_rfl) ?_
  refine jo_end (by kernel_rfl) ?_
  refine jx_then ?_
  refine jc_seq ?_
  refine jc_draw [] 19 (by kernel_rfl) (by kernel_rfl) ?_
  refine jd_f [⟨0, 0, 0⟩, ⟨1, 0, 0⟩, ⟨3, 0, 0⟩, ⟨4, 0, 0⟩, ⟨5, 0, 0⟩, ⟨8, 0, 0⟩, ⟨9, 0, 0⟩, ⟨10, 0, 0⟩, ⟨13, 0, 0⟩, ⟨14, 0, 0⟩] 9 (by kernel_rfl) (by kernel_rfl) (fun w h => h.pick [] (by kernel_rfl) (by kernel_rfl)) (by kernel_rfl) (by kernel_rfl) ?_
  obtain ⟨x_1, hx_1, h⟩ := bd h
  refine jd_v 2 0 (by kernel_rfl) (fun w h => h.pick [] (by kernel_rfl) (by kernel_rfl)) (by kernel_rfl) (by kernel_rfl) _ (fun w hm => six_run (s := (ByteArray.mk #[0, 1, 1, 2, 1, 2, 2, 3, 1, 2, 2, 3, 2, 3, 3, 4, 1, 2, 2, 3, 2, 3, 3, 4, 2, 3, 3, 4, 3, 4, 4, 5, 1, 2, 2, 3, 2, 3, 3, 4, 2, 3, 3, 4, 3, 4, 4, 5, 2, 3, 3, 4, 3, 4, 4, 5, 3, 4, 4, 5, 4, 5, 5, 6, 1, 2, 2, 3, 2, 3, 3, 4, 2, 3, 3, 4, 3, 4, 4, 5, 2, 3, 3, 4, 3, 4, 4, 5, 3, 4, 4, 5, 4, 5, 5, 6, 2, 3, 3, 4, 3, 4, 4, 5, 3, 4, 4, 5, 4, 5, 5, 6, 3, 4, 4, 5, 4, 5, 5, 6, 4, 5, 5, 6, 5, 6, 6, 7, 1, 2, 2, 3, 2, 3, 3, 4, 2, 3, 3, 4, 3, 4, 4, 5, 2, 3, 3, 4, 3, 4, 4, 5, 3, 4, 4, 5, 4, 5, 5, 6, 2, 3, 3, 4, 3, 4, 4, 5, 3, 4, 4, 5, 4, 5, 5, 6, 3, 4, 4, 5, 4, 5, 5, 6, 4, 5, 5, 6, 5, 6, 6, 7, 2, 3, 3, 4, 3, 4, 4, 5, 3, 4, 4, 5, 4, 5, 5, 6, 3, 4, 4, 5, 4, 5, 5, 6, 4, 5, 5, 6, 5, 6, 6, 7, 3, 4, 4, 5, 4, 5, 5, 6, 4, 5, 5, 6, 5, 6, 6, 7, 4, 5, 5, 6, 5, 6, 6, 7, 5, 6, 6, 7, 6, 7, 7, 8])) (j := (bShr .u32 x0 24)) (by kernel_rfl) hx_1) ?_
  obtain ⟨x_2, hx_2, h⟩ := bd h
  refine jd_v 6 0 (by kernel_rfl) (fun w h => h.pick [] (by kernel_rfl) (by kernel_rfl)) (by kernel_rfl) (by kernel_rfl) _ (fun w hm => six_run (s := (ByteArray.mk #[0, 1, 1, 2, 1, 2, 2, 3, 1, 2, 2, 3, 2, 3, 3, 4, 1, 2, 2, 3, 2, 3, 3, 4, 2, 3, 3, 4, 3, 4, 4, 5, 1, 2, 2, 3, 2, 3, 3, 4, 2, 3, 3, 4, 3, 4, 4, 5, 2, 3, 3, 4, 3, 4, 4, 5, 3, 4, 4, 5, 4, 5, 5, 6, 1, 2, 2, 3, 2, 3, 3, 4, 2, 3, 3, 4, 3, 4, 4, 5, 2, 3, 3, 4, 3, 4, 4, 5, 3, 4, 4, 5, 4, 5, 5, 6, 2, 3, 3, 4, 3, 4, 4, 5, 3, 4, 4, 5, 4, 5, 5, 6, 3, 4, 4, 5, 4, 5, 5, 6, 4, 5, 5, 6, 5, 6, 6, 7, 1, 2, 2, 3, 2, 3, 3, 4, 2, 3, 3, 4, 3, 4, 4, 5, 2, 3, 3, 4, 3, 4, 4, 5, 3, 4, 4, 5, 4, 5, 5, 6, 2, 3, 3, 4, 3, 4, 4, 5, 3, 4, 4, 5, 4, 5, 5, 6, 3, 4, 4, 5, 4, 5, 5, 6, 4, 5, 5, 6, 5, 6, 6, 7, 2, 3, 3, 4, 3, 4, 4, 5, 3, 4, 4, 5, 4, 5, 5, 6, 3, 4, 4, 5, 4, 5, 5, 6, 4, 5, 5, 6, 5, 6, 6, 7, 3, 4, 4, 5, 4, 5, 5, 6, 4, 5, 5, 6, 5, 6, 6, 7, 4, 5, 5, 6, 5, 6, 6, 7, 5, 6, 6, 7, 6, 7, 7, 8])) (j := (bAnd .u32 (bShr .u32 x0 16) 255)) (by kernel_rfl) hx_2) ?_
  refine jd_f [⟨7, 0, 0⟩] 6 (by kernel_rfl) (by kernel_rfl) (fun w h => h.pick [] (by kernel_rfl) (by kernel_rfl)) (by kernel_rfl) (by kernel_rfl) ?_
  obtain ⟨x_3, hx_3, h⟩ := bd h
  refine jd_v 11 0 (by kernel_rfl) (fun w h => h.pick [] (by kernel_rfl) (by kernel_rfl)) (by kernel_rfl) (by kernel_rfl) _ (fun w hm => six_run (s := (ByteArray.mk #[0, 1, 1, 2, 1, 2, 2, 3, 1, 2, 2, 3, 2, 3, 3, 4, 1, 2, 2, 3, 2, 3, 3, 4, 2, 3, 3, 4, 3, 4, 4, 5, 1, 2, 2, 3, 2, 3, 3, 4, 2, 3, 3, 4, 3, 4, 4, 5, 2, 3, 3, 4, 3, 4, 4, 5, 3, 4, 4, 5, 4, 5, 5, 6, 1, 2, 2, 3, 2, 3, 3, 4, 2, 3, 3, 4, 3, 4, 4, 5, 2, 3, 3, 4, 3, 4, 4, 5, 3, 4, 4, 5, 4, 5, 5, 6, 2, 3, 3, 4, 3, 4, 4, 5, 3, 4, 4, 5, 4, 5, 5, 6, 3, 4, 4, 5, 4, 5, 5, 6, 4, 5, 5, 6, 5, 6, 6, 7, 1, 2, 2, 3, 2, 3, 3, 4, 2, 3, 3, 4, 3, 4, 4, 5, 2, 3, 3, 4, 3, 4, 4, 5, 3, 4, 4, 5, 4, 5, 5, 6, 2, 3, 3, 4, 3, 4, 4, 5, 3, 4, 4, 5, 4, 5, 5, 6, 3, 4, 4, 5, 4, 5, 5, 6, 4, 5, 5, 6, 5, 6, 6, 7, 2, 3, 3, 4, 3, 4, 4, 5, 3, 4, 4, 5, 4, 5, 5, 6, 3, 4, 4, 5, 4, 5, 5, 6, 4, 5, 5, 6, 5, 6, 6, 7, 3, 4, 4, 5, 4, 5, 5, 6, 4, 5, 5, 6, 5, 6, 6, 7, 4, 5, 5, 6, 5, 6, 6, 7, 5, 6, 6, 7, 6, 7, 7, 8])) (j := (bAnd .u32 (bShr .u32 x0 8) 255)) (by kernel_rfl) hx_3) ?_
  refine jd_f [⟨12, 0, 0⟩] 4 (by kernel_rfl) (by kernel_rfl) (fun w h => h.pick [] (by kernel_rfl) (by kernel_rfl)) (by kernel_rfl) (by kernel_rfl) ?_
  obtain ⟨x_4, hx_4, h⟩ := bd h
  refine jd_v 15 0 (by kernel_rfl) (fun w h => h.pick [] (by kernel_rfl) (by kernel_rfl)) (by kernel_rfl) (by kernel_rfl) _ (fun w hm => six_run (s := (ByteArray.mk #[0, 1, 1, 2, 1, 2, 2, 3, 1, 2, 2, 3, 2, 3, 3, 4, 1, 2, 2, 3, 2, 3, 3, 4, 2, 3, 3, 4, 3, 4, 4, 5, 1, 2, 2, 3, 2, 3, 3, 4, 2, 3, 3, 4, 3, 4, 4, 5, 2, 3, 3, 4, 3, 4, 4, 5, 3, 4, 4, 5, 4, 5, 5, 6, 1, 2, 2, 3, 2, 3, 3, 4, 2, 3, 3, 4, 3, 4, 4, 5, 2, 3, 3, 4, 3, 4, 4, 5, 3, 4, 4, 5, 4, 5, 5, 6, 2, 3, 3, 4, 3, 4, 4, 5, 3, 4, 4, 5, 4, 5, 5, 6, 3, 4, 4, 5, 4, 5, 5, 6, 4, 5, 5, 6, 5, 6, 6, 7, 1, 2, 2, 3, 2, 3, 3, 4, 2, 3, 3, 4, 3, 4, 4, 5, 2, 3, 3, 4, 3, 4, 4, 5, 3, 4, 4, 5, 4, 5, 5, 6, 2, 3, 3, 4, 3, 4, 4, 5, 3, 4, 4, 5, 4, 5, 5, 6, 3, 4, 4, 5, 4, 5, 5, 6, 4, 5, 5, 6, 5, 6, 6, 7, 2, 3, 3, 4, 3, 4, 4, 5, 3, 4, 4, 5, 4, 5, 5, 6, 3, 4, 4, 5, 4, 5, 5, 6, 4, 5, 5, 6, 5, 6, 6, 7, 3, 4, 4, 5, 4, 5, 5, 6, 4, 5, 5, 6, 5, 6, 6, 7, 4, 5, 5, 6, 5, 6, 6, 7, 5, 6, 6, 7, 6, 7, 7, 8])) (j := (bAnd .u32 x0 255)) (by kernel_rfl) hx_4) ?_
  refine jd_f [⟨16, 0, 0⟩, ⟨17, 0, 0⟩, ⟨18, 0, 0⟩] 0 (by kernel_rfl) (by kernel_rfl) (fun w h => h.pick [] (by kernel_rfl) (by kernel_rfl)) (by kernel_rfl) (by kernel_rfl) ?_
  refine jd_end (by kernel_rfl) ?_
  refine jx_then ?_
  refine jc_ret ?_
  obtain rfl := Option.some.inj h
  exact jx_ret [] (.int .i64 (w64 (u8 ((u8 ((u8 (x_1 + x_2)) + x_3)) + x_4)))) [] rfl (by kernel_rfl) (by kernel_rfl) (fun w hm => ⟨rfl, hm.pick [] (by kernel_rfl) (by kernel_rfl)⟩)

/-! ### impl.countBits -/
noncomputable def impl_countBits (n0 : Int) : Option (Int) := (math_bits_OnesCount32 n0).bind fun t_1 => some t_1
set_option maxRecDepth 100000 in
theorem impl_countBits.calls (n0 : Int) (w : World) (r : Int) (h : impl_countBits n0 = some r) :
    Calls Tryz.prog 81 #[(.int .u32 n0)] w fun e w' => ∃ v, e = .returned v ∧ (v = (.int .i64 r) ∧ Mem w [] [] w') := by
  rw [impl_countBits] at h
  refine enter (args := [(.int .u32 n0)]) Tryz.func81 rfl Tryz.ntmps81 (by kernel_rfl) (L := []) (W := []) (Mem.start w) ?_
  refine jc_seq ?_
  refine jc_region ?_
  refine jo_f [(0, 0)] (by kernel_rfl) ?_
  refine jo_end (by kernel_rfl) ?_
  refine jx_then ?_
  refine jc_seq ?_
  refine jc_region ?_
  refine jo_f [(0, 0)] (by kernel_rfl) ?_
  obtain ⟨t_1, ht_1, h⟩ := bd h
  refine toO (by kernel_rfl) (p_call 0 113 #[(.int .u32 n0)] (by kernel_rfl) (by kernel_rfl) (fun w hm => math_bits_OnesCount32.calls n0 w _ ht_1) ?_)
  rintro w v w' hm ⟨rfl, hm'⟩
  refine ⟨_, hm.app hm', jkO ?_⟩
  clear hm hm'
  refine jo_f [(0, 0)] (by kernel_rfl) ?_
  refine jo_end (by kernel_rfl) ?_
  refine jx_then ?_
  refine jc_ret ?_
  obtain rfl := Option.some.inj h
  exact jx_ret [] (.int .i64 t_1) [] rfl (by kernel_rfl) (by kernel_rfl) (fun w hm => ⟨rfl, hm.pick [] (by kernel_rfl) (by kernel_rfl)⟩)
end Go.Proofs.YtplklknkkaeniaaGreatDoor
