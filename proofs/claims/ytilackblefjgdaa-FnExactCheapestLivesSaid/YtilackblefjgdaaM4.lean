/- Functions of the program that the laws reach: a plain function each, and that the call comes to its answer if the plain function has one. Printed by a program. -/
import Derived.Test.YtilackblefjgdaaT
import Derived.Test.YtilackblefjgdaaM0
import Derived.Test.YtilackblefjgdaaM3
namespace Go.Proofs.Ytilackblefjgdaa
open Eng
set_option linter.unusedVariables false

/-! ### impl.PartsFor -/
noncomputable def impl_PartsFor.k_9 (i_7 : Int) (i_8 : Int) : Option (Int × Int × Int) := some (i_7, i_8, 0)
noncomputable def impl_PartsFor.k_17 (i_10 : Int) (i_11 : Int) (i_12 : Int) (x_15 : Gpart) (i_16 : Int) : Option ((Int × Int × Int) ⊕ ((Int × Int))) := (if (decide (x_15.fstep < 0)) = true then some (.inl (i_10, (w64 (i_11 + i_16)), (w64 (i_12 + 1)))) else some (.inl ((w64 (i_10 + i_16)), i_11, (w64 (i_12 + 1)))))
noncomputable def impl_PartsFor.l_13 (turns3 : Int) (t_5 : (List Gpart)) : (Int × Int × Int) → Option ((Int × Int × Int) ⊕ ((Int × Int)))
  | (i_10, i_11, i_12) => (if (decide (i_12 < (t_5.length : Int))) = true then (ix t_5 i_12).bind fun x_15 => (if (x_15.feach == 0) = true then some (.inl (i_10, i_11, (w64 (i_12 + 1)))) else (if x_15.feach ≠ 0 then (if (decide ((w64 ((w64 (Int.tdiv (w64 (x_15.flife - x_15.fmade)) x_15.feach)) + 1)) ≤ turns3)) = true then (if x_15.feach ≠ 0 then (if (w64 (Int.tdiv x_15.flife x_15.feach)) ≠ 0 then impl_PartsFor.k_17 i_10 i_11 i_12 x_15 (w64 (1 + (w64 (Int.tdiv (w64 (turns3 - (w64 ((w64 (Int.tdiv (w64 (x_15.flife - x_15.fmade)) x_15.feach)) + 1)))) (w64 (Int.tdiv x_15.flife x_15.feach)))))) else none) else none) else impl_PartsFor.k_17 i_10 i_11 i_12 x_15 0) else none)) else some (.inr (i_10, i_11)))
noncomputable def impl_PartsFor (f0 : GFrame) (w1 : GWear) (v2 : GLives) (turns3 : Int) : Option (Int × Int × Int) := (impl_wearCode f0 w1 [v2]).bind fun t_1 => (impl_isMade turns3).bind fun t_2 => (impl_unless t_2 2).bind fun t_3 => (impl_firstOf [t_1, t_3]).bind fun t_4 => (if (t_4 != 0) = true then some (0, 0, t_4) else (impl_Wear_parts w1 f0 v2).bind fun t_5 => (slices_ContainsFunc_part_at_impl_PartsFor_1 t_5).bind fun t_6 => (if t_6 = true then some (0, 0, 4) else (loop (impl_PartsFor.l_13 turns3 t_5) (0, 0, 0)).bind fun t_14 => impl_PartsFor.k_9 t_14.1 t_14.2))
set_option maxRecDepth 100000 in
theorem impl_PartsFor.calls (f0 : GFrame) (w1 : GWear) (v2 : GLives) (turns3 : Int) (w : World) (r : Int × Int × Int) (f0_fHammers_a : Option Addr) (f0_fHammers_an : Nat) (f0_fHammers_c : Nat) (f0_fHammers_h : Rw w f0_fHammers_a 2 encGHammer f0.fHammers) (f0_fHammers_hn : f0.fHammers.length = f0_fHammers_an) (w1_fPins_a : Option Addr) (w1_fPins_an : Nat) (w1_fPins_c : Nat) (w1_fPins_h : Rw w w1_fPins_a 3 encGWornPin w1.fPins) (w1_fPins_hn : w1.fPins.length = w1_fPins_an) (w1_fStrokes_a : Option Addr) (w1_fStrokes_an : Nat) (w1_fStrokes_c : Nat) (w1_fStrokes_h : Rw w w1_fStrokes_a 1 encI64 w1.fStrokes) (w1_fStrokes_hn : w1.fStrokes.length = w1_fStrokes_an) (h : impl_PartsFor f0 w1 v2 turns3 = some r) :
    Calls Try.prog 19 #[(.agg #[(.int .i16 f0.fSteps), (.slice f0_fHammers_a f0_fHammers_an f0_fHammers_c)]), (.agg #[(.slice w1_fPins_a w1_fPins_an w1_fPins_c), (.slice w1_fStrokes_a w1_fStrokes_an w1_fStrokes_c)]), (.agg #[(.int .i64 v2.fPin), (.int .i64 v2.fHammer)]), (.int .i64 turns3)] w fun e w' => ∃ v, e = .returned v ∧ (v = .tuple #[(.int .i64 r.1), (.int .i64 r.2.1), (.int .i64 r.2.2)] ∧ Mem w [] [] w') := by
  subst f0_fHammers_hn w1_fPins_hn w1_fStrokes_hn
  rw [impl_PartsFor] at h
  refine enter (args := [(.agg #[(.int .i16 f0.fSteps), (.slice f0_fHammers_a f0.fHammers.length f0_fHammers_c)]), (.agg #[(.slice w1_fPins_a w1.fPins.length w1_fPins_c), (.slice w1_fStrokes_a w1.fStrokes.length w1_fStrokes_c)]), (.agg #[(.int .i64 v2.fPin), (.int .i64 v2.fHammer)]), (.int .i64 turns3)]) Try.func19 rfl Try.ntmps19 (by kernel_rfl) (L := []) (W := []) (Mem.start w) ?_
  refine jc_seq ?_
  refine jc_region ?_
  refine toO (by kernel_rfl) (p_a 0 [0] (by kernel_rfl) (fun b => by kernel_rfl) (fun b_1 => jkO ?_))
  refine toO (by kernel_rfl) (p_a 0 [0] (by kernel_rfl) (fun b => by kernel_rfl) (fun b_2 => jkO ?_))
  refine toO (by kernel_rfl) (p_a 0 [0] (by kernel_rfl) (fun b => by kernel_rfl) (fun b_3 => jkO ?_))
  refine jo_f [(0, 0), (0, 0), (0, 0)] (by kernel_rfl) ?_
  refine jo_end (by kernel_rfl) ?_
  refine jx_then ?_
  refine jc_seq ?_
  refine jc_seq ?_
  refine jc_region ?_
  refine jo_f [(0, 0), (1, 0), (2, 0)] (by kernel_rfl) ?_
  refine toO (by kernel_rfl) (p_a 0 [0] (by kernel_rfl) (fun b => by kernel_rfl) (fun b_11 => jkO ?_))
  obtain ⟨t_1, ht_12, h⟩ := bd h
  refine toO (by kernel_rfl) (p_call 0 70 #[(.agg #[(.int .i16 f0.fSteps), (.slice f0_fHammers_a f0.fHammers.length f0_fHammers_c)]), (.agg #[(.slice w1_fPins_a w1.fPins.length w1_fPins_c), (.slice w1_fStrokes_a w1.fStrokes.length w1_fStrokes_c)]), (.slice (some ⟨b_11, 0, none⟩) 1 1)] (by kernel_rfl) (by kernel_rfl) (fun w hm => impl_wearCode.calls f0 w1 [v2] w _ f0_fHammers_a f0.fHammers.length f0_fHammers_c (hm.exRow f0_fHammers_h List.not_mem_nil) rfl w1_fPins_a w1.fPins.length w1_fPins_c (hm.exRow w1_fPins_h List.not_mem_nil) rfl w1_fStrokes_a w1.fStrokes.length w1_fStrokes_c (hm.exRow w1_fStrokes_h List.not_mem_nil) rfl (some ⟨b_11, 0, none⟩) 1 1 (hm.ownRow (hh := 3) (o := (some b_11)) (T := 44) (enc := encGLives) (xs := [v2]) (sp := []) (by kernel_rfl) (fun e => nomatch e) encGLives_len) rfl ht_12) ?_)
  rintro w v w' hm ⟨rfl, hm'⟩
  refine ⟨_, hm.app hm', jkO ?_⟩
  clear hm hm'
  refine jo_f [(0, 0)] (by kernel_rfl) ?_
  obtain ⟨t_2, ht_13, h⟩ := bd h
  refine toO (by kernel_rfl) (p_call 0 72 #[(.int .i64 turns3)] (by kernel_rfl) (by kernel_rfl) (fun w hm => impl_isMade.calls turns3 w _ ht_13) ?_)
  rintro w v w' hm ⟨rfl, hm'⟩
  refine ⟨_, hm.app hm', jkO ?_⟩
  clear hm hm'
  obtain ⟨t_3, ht_14, h⟩ := bd h
  refine toO (by kernel_rfl) (p_call 0 71 #[(.bool t_2), (.int .i64 2)] (by kernel_rfl) (by kernel_rfl) (fun w hm => impl_unless.calls t_2 2 w _ ht_14) ?_)
  rintro w v w' hm ⟨rfl, hm'⟩
  refine ⟨_, hm.app hm', jkO ?_⟩
  clear hm hm'
  refine toO (by kernel_rfl) (p_a 0 [0] (by kernel_rfl) (fun b => by kernel_rfl) (fun b_15 => jkO ?_))
  obtain ⟨t_4, ht_16, h⟩ := bd h
  refine toO (by kernel_rfl) (p_call 0 69 #[(.slice (some ⟨b_15, 0, none⟩) 2 2)] (by kernel_rfl) (by kernel_rfl) (fun w hm => impl_firstOf.calls [t_1, t_3] w _ (some ⟨b_15, 0, none⟩) 2 2 (hm.ownRow (hh := 4) (o := (some b_15)) (T := 2) (enc := encI64) (xs := [t_1, t_3]) (sp := []) (by kernel_rfl) (fun e => nomatch e) encI64_len) rfl ht_16) ?_)
  rintro w v w' hm ⟨rfl, hm'⟩
  refine ⟨_, hm.app hm', jkO ?_⟩
  clear hm hm'
  refine jo_f [(0, 0)] (by kernel_rfl) ?_
  refine jo_end (by kernel_rfl) ?_
  refine jx_then ?_
  refine jc_seq ?_
  refine jc_region ?_
  refine jo_f [(0, 0), (0, 0)] (by kernel_rfl) ?_
  refine jo_end (by kernel_rfl) ?_
  refine jx_then ?_
  refine jc_cond (t_4 != 0) (by kernel_rfl) (fun hc_17 => ?_) (fun hc_17 => ?_)
  · replace h := ifT hc_17 h
    refine jc_seq ?_
    refine jc_region ?_
    refine jo_f [(0, 0), (0, 0), (0, 0), (0, 0)] (by kernel_rfl) ?_
    refine jo_end (by kernel_rfl) ?_
    refine jx_then ?_
    refine jc_ret ?_
    refine jx_thenr ?_
    obtain rfl := Option.some.inj h
    exact jx_ret [] (.tuple #[(.int .i64 0), (.int .i64 0), (.int .i64 t_4)]) [] rfl (by kernel_rfl) (by kernel_rfl) (fun w hm => ⟨rfl, hm.pick [] (by kernel_rfl) (by kernel_rfl)⟩)
  · replace h := ifF hc_17 h
    refine jc_skip ?_
    refine jx_then ?_
    refine jc_seq ?_
    refine jc_region ?_
    refine jo_f [(1, 0), (0, 0), (2, 0)] (by kernel_rfl) ?_
    obtain ⟨t_5, ht_18, h⟩ := bd h
    refine toO (by kernel_rfl) (p_call 0 73 #[(.agg #[(.slice w1_fPins_a w1.fPins.length w1_fPins_c), (.slice w1_fStrokes_a w1.fStrokes.length w1_fStrokes_c)]), (.agg #[(.int .i16 f0.fSteps), (.slice f0_fHammers_a f0.fHammers.length f0_fHammers_c)]), (.agg #[(.int .i64 v2.fPin), (.int .i64 v2.fHammer)])] (by kernel_rfl) (by kernel_rfl) (fun w hm => impl_Wear_parts.calls w1 f0 v2 w _ w1_fPins_a w1.fPins.length w1_fPins_c (hm.exRow w1_fPins_h List.not_mem_nil) rfl w1_fStrokes_a w1.fStrokes.length w1_fStrokes_c (hm.exRow w1_fStrokes_h List.not_mem_nil) rfl f0_fHammers_a f0.fHammers.length f0_fHammers_c (hm.exRow f0_fHammers_h List.not_mem_nil) rfl ht_18) ?_)
    rintro w v w' hm ⟨o_19, cap_20, sp_21, _, rfl, hs_22, ho_23, rfl, hm'⟩
    refine ⟨_, hm.app hm', jkO ?_⟩
    clear hm hm'
    refine jo_f [(0, 0)] (by kernel_rfl) ?_
    refine jo_end (by kernel_rfl) ?_
    refine jx_then ?_
    refine jc_seq ?_
    refine jc_seq ?_
    refine jc_region ?_
    refine jo_f [(0, 0)] (by kernel_rfl) ?_
    obtain ⟨t_6, ht_26, h⟩ := bd h
    refine toO (by kernel_rfl) (p_call 0 74 #[(.slice (o_19.map fun b => ⟨b, 0, none⟩) t_5.length cap_20), (.func (.func 75) #[] #[])] (by kernel_rfl) (by kernel_rfl) (fun w hm => slices_ContainsFunc_part_at_impl_PartsFor_1.calls t_5 w _ (o_19.map fun b => ⟨b, 0, none⟩) t_5.length cap_20 (hm.ownRow (hh := 5) (o := o_19) (T := 116) (enc := encGpart) (xs := t_5) (sp := sp_21) (by kernel_rfl) (fun e => (ho_23 e).1) encGpart_len) rfl ht_26) ?_)
    rintro w v w' hm ⟨rfl, hm'⟩
    refine ⟨_, hm.app hm', jkO ?_⟩
    clear hm hm'
    refine jo_end (by kernel_rfl) ?_
    refine jx_then ?_
    refine jc_cond t_6 (by kernel_rfl) (fun hc_27 => ?_) (fun hc_27 => ?_)
    · replace h := ifT hc_27 h
      refine jc_seq ?_
      refine jc_region ?_
      refine jo_f [(0, 0), (0, 0), (0, 0)] (by kernel_rfl) ?_
      refine jo_end (by kernel_rfl) ?_
      refine jx_then ?_
      refine jc_ret ?_
      refine jx_thenr ?_
      obtain rfl := Option.some.inj h
      exact jx_ret [] (.tuple #[(.int .i64 0), (.int .i64 0), (.int .i64 4)]) [] rfl (by kernel_rfl) (by kernel_rfl) (fun w hm => ⟨rfl, hm.pick [] (by kernel_rfl) (by kernel_rfl)⟩)
    · replace h := ifF hc_27 h
      refine jc_skip ?_
      refine jx_then ?_
      refine jc_seq ?_
      refine jc_region ?_
      refine jo_f [(0, 0), (0, 0)] (by kernel_rfl) ?_
      refine jo_end (by kernel_rfl) ?_
      refine jx_then ?_
      refine jc_seq ?_
      refine jc_seq ?_
      refine jc_region ?_
      refine jo_f [(0, 0), (0, 0), (0, 0)] (by kernel_rfl) ?_
      refine jo_end (by kernel_rfl) ?_
      refine jx_then ?_
      refine jc_meet (fun (j : Int × Int) => match j with | ⟨i_7, i_8⟩ => impl_PartsFor.k_9 i_7 i_8 = some r) (fun (j : Int × Int) => match j with | ⟨i_7, i_8⟩ => [(8, [], (.int .i64 0)), (9, [], (.int .i64 0)), (10, [], (.int .i64 0)), (13, [], (.int .i64 i_7)), (14, [], (.int .i64 i_8))]) (fun (j : Int × Int) => match j with | ⟨i_7, i_8⟩ => [⟨some b_1, 38, [(.int .i16 f0.fSteps), (.slice f0_fHammers_a f0.fHammers.length f0_fHammers_c)]⟩, ⟨some b_2, 42, [(.slice w1_fPins_a w1.fPins.length w1_fPins_c), (.slice w1_fStrokes_a w1.fStrokes.length w1_fStrokes_c)]⟩, ⟨some b_3, 44, [(.int .i64 v2.fPin), (.int .i64 v2.fHammer)]⟩, ⟨(some b_11), 44, row encGLives [v2] []⟩, ⟨(some b_15), 2, row encI64 [t_1, t_3] []⟩, ⟨o_19, 116, row encGpart t_5 sp_21⟩]) ?_ ?_
      · refine jc_block ?_
        obtain ⟨t_14, ht_211, hr_194⟩ := bd h
        refine jc_loop (fun (s : Int × Int × Int) (x : Unit) => match s, x with | ⟨i_10, i_11, i_12⟩, _ => True) (fun (s : Int × Int × Int) (x : Unit) => match s, x with | ⟨i_10, i_11, i_12⟩, _ => [(3, [], (.int .i64 turns3)), (8, [], (.int .i64 0)), (9, [], (.int .i64 0)), (10, [], (.int .i64 0)), (13, [], (.int .i64 i_10)), (14, [], (.int .i64 i_11)), (38, [], (.slice (o_19.map fun b => ⟨b, 0, none⟩) t_5.length cap_20)), (39, [], (.int .i64 (t_5.length : Int))), (40, [], (.int .i64 i_12))]) (fun (s : Int × Int × Int) (x : Unit) => match s, x with | ⟨i_10, i_11, i_12⟩, _ => [⟨some b_1, 38, [(.int .i16 f0.fSteps), (.slice f0_fHammers_a f0.fHammers.length f0_fHammers_c)]⟩, ⟨some b_2, 42, [(.slice w1_fPins_a w1.fPins.length w1_fPins_c), (.slice w1_fStrokes_a w1.fStrokes.length w1_fStrokes_c)]⟩, ⟨some b_3, 44, [(.int .i64 v2.fPin), (.int .i64 v2.fHammer)]⟩, ⟨(some b_11), 44, row encGLives [v2] []⟩, ⟨(some b_15), 2, row encI64 [t_1, t_3] []⟩, ⟨o_19, 116, row encGpart t_5 sp_21⟩]) ht_211 () trivial (by kernel_rfl) [0, 1, 2, 3, 4, 5] (by kernel_rfl) (by kernel_rfl) ?_
        rintro ⟨i_10, i_11, i_12⟩ _ y_195 _ h
        rw [impl_PartsFor.l_13] at h
        refine jc_seq ?_
        refine jc_region ?_
        refine jo_f [(0, 0)] (by kernel_rfl) ?_
        refine jo_end (by kernel_rfl) ?_
        refine jx_then ?_
        refine jc_seq ?_
        refine jc_cond (decide (i_12 < (t_5.length : Int))) (by kernel_rfl) (fun hc_197 => ?_) (fun hc_197 => ?_)
        · replace h := ifT hc_197 h
          refine jc_skip ?_
          refine jx_then ?_
          refine jc_seq ?_
          refine jc_block ?_
          refine jc_seq ?_
          refine jc_region ?_
          obtain ⟨x_15, hx_198, h⟩ := bd h
          refine toO (by kernel_rfl) (p_idx 0 (o_19.map fun b => ⟨b, 0, none⟩) t_5.length i_12 5 (by kernel_rfl) (by kernel_rfl) (ix_some hx_198).1 (ltn hx_198 rfl) (spo ho_23 hx_198) (jkO ?_))
          refine toO (by kernel_rfl) (p_ld 0 (aB (o_19.map fun b => ⟨b, 0, none⟩)) (aO (o_19.map fun b => ⟨b, 0, none⟩) + i_12.toNat * 5) true (encGpart x_15) (by kernel_rfl) (by kernel_rfl) (by kernel_rfl) (fun w hm => ((hm.ownRow (hh := 5) (o := o_19) (T := 116) (enc := encGpart) (xs := t_5) (sp := sp_21) (by kernel_rfl) (fun e => (ho_23 e).1) encGpart_len).at hx_198)) (jkO ?_))
          refine toO (by kernel_rfl) (p_a 0 [0] (by kernel_rfl) (fun b => by kernel_rfl) (fun b_199 => jkO ?_))
          refine toO (by kernel_rfl) (p_s 0 [6] (by kernel_rfl) (by kernel_rfl) (jkO ?_))
          refine jo_end (by kernel_rfl) ?_
          refine jx_then ?_
          refine jc_seq ?_
          refine jc_seq ?_
          refine jc_region ?_
          refine jo_f [(0, 0), (6, 0), (0, 0)] (by kernel_rfl) ?_
          refine jo_end (by kernel_rfl) ?_
          refine jx_then ?_
          refine jc_cond (x_15.feach == 0) (by kernel_rfl) (fun hc_201 => ?_) (fun hc_201 => ?_)
          · replace h := ifT hc_201 h
            refine jc_exit ?_
            refine jx_thenx ?_
            refine jx_ine ?_
            refine jx_then ?_
            refine jc_region ?_
            refine jo_f [(0, 0), (0, 0)] (by kernel_rfl) ?_
            refine jo_end (by kernel_rfl) ?_
            exact jx_back (i_10, i_11, (w64 (i_12 + 1))) () (Option.some.inj h).symm trivial [0, 1, 2, 3, 4, 5] (by kernel_rfl) (by kernel_rfl) (by kernel_rfl)
          · replace h := ifF hc_201 h
            refine jc_skip ?_
            refine jx_then ?_
            refine jc_seq ?_
            refine jc_draw [⟨some b_1, 38, [(.int .i16 f0.fSteps), (.slice f0_fHammers_a f0.fHammers.length f0_fHammers_c)]⟩, ⟨some b_2, 42, [(.slice w1_fPins_a w1.fPins.length w1_fPins_c), (.slice w1_fStrokes_a w1.fStrokes.length w1_fStrokes_c)]⟩, ⟨some b_3, 44, [(.int .i64 v2.fPin), (.int .i64 v2.fHammer)]⟩, ⟨(some b_11), 44, row encGLives [v2] []⟩, ⟨(some b_15), 2, row encI64 [t_1, t_3] []⟩, ⟨o_19, 116, row encGpart t_5 sp_21⟩, ⟨some b_199, 116, [(.int .i64 x_15.fmade), (.int .i64 x_15.feach), (.int .i64 x_15.flife), (.int .i64 x_15.fstep), (.int .i64 x_15.ftrack)]⟩] 11 (by kernel_rfl) (by kernel_rfl) ?_
            refine jd_f [⟨0, 0, 0⟩, ⟨1, 6, 0⟩, ⟨2, 0, 0⟩, ⟨3, 6, 0⟩, ⟨4, 0, 0⟩, ⟨5, 0, 0⟩, ⟨6, 6, 0⟩, ⟨9, 0, 0⟩] 3 (by kernel_rfl) (by kernel_rfl) (fun w h => h.pick [0, 1, 2, 3, 4, 5, 6] (by kernel_rfl) (by kernel_rfl)) (by kernel_rfl) (by kernel_rfl) ?_
            obtain ⟨hg_202, h⟩ := gd h
            refine toD 7 (by kernel_rfl) (p_quo 0 .i64 (w64 (x_15.flife - x_15.fmade)) x_15.feach (by kernel_rfl) (by kernel_rfl) hg_202 (jkD (fun w h => h.pick [0, 1, 2, 3, 4, 5, 6] (by kernel_rfl) (by kernel_rfl)) ?_))
            refine jd_f [⟨8, 0, 0⟩, ⟨10, 0, 0⟩] 0 (by kernel_rfl) (by kernel_rfl) (fun w h => h.pick [0, 1, 2, 3, 4, 5, 6] (by kernel_rfl) (by kernel_rfl)) (by kernel_rfl) (by kernel_rfl) ?_
            refine jd_end (by kernel_rfl) ?_
            refine jx_then ?_
            refine jc_seq ?_
            refine jc_meet (fun (j : Int) => match j with | i_16 => impl_PartsFor.k_17 i_10 i_11 i_12 x_15 i_16 = some y_195) (fun (j : Int) => match j with | i_16 => [(3, [], (.int .i64 turns3)), (8, [], (.int .i64 0)), (9, [], (.int .i64 0)), (10, [], (.int .i64 0)), (13, [], (.int .i64 i_10)), (14, [], (.int .i64 i_11)), (16, [], (.pointer (some ⟨b_199, 0, none⟩))), (17, [], (.int .i64 i_16)), (38, [], (.slice (o_19.map fun b => ⟨b, 0, none⟩) t_5.length cap_20)), (39, [], (.int .i64 (t_5.length : Int))), (40, [], (.int .i64 i_12))]) (fun (j : Int) => match j with | i_16 => [⟨some b_1, 38, [(.int .i16 f0.fSteps), (.slice f0_fHammers_a f0.fHammers.length f0_fHammers_c)]⟩, ⟨some b_2, 42, [(.slice w1_fPins_a w1.fPins.length w1_fPins_c), (.slice w1_fStrokes_a w1.fStrokes.length w1_fStrokes_c)]⟩, ⟨some b_3, 44, [(.int .i64 v2.fPin), (.int .i64 v2.fHammer)]⟩, ⟨(some b_11), 44, row encGLives [v2] []⟩, ⟨(some b_15), 2, row encI64 [t_1, t_3] []⟩, ⟨o_19, 116, row encGpart t_5 sp_21⟩, ⟨some b_199, 116, [(.int .i64 x_15.fmade), (.int .i64 x_15.feach), (.int .i64 x_15.flife), (.int .i64 x_15.fstep), (.int .i64 x_15.ftrack)]⟩]) ?_ ?_
            · refine jc_seq ?_
              refine jc_region ?_
              refine jo_f [(0, 0), (0, 0), (0, 0)] (by kernel_rfl) ?_
              refine jo_end (by kernel_rfl) ?_
              refine jx_then ?_
              refine jc_cond (decide ((w64 ((w64 (Int.tdiv (w64 (x_15.flife - x_15.fmade)) x_15.feach)) + 1)) ≤ turns3)) (by kernel_rfl) (fun hc_207 => ?_) (fun hc_207 => ?_)
              · replace h := ifT hc_207 h
                refine jc_region ?_
                refine jo_f [(0, 0), (0, 0), (0, 0), (0, 0), (6, 0), (0, 0), (6, 0)] (by kernel_rfl) ?_
                obtain ⟨hg_208, h⟩ := gd h
                refine toO (by kernel_rfl) (p_quo 0 .i64 x_15.flife x_15.feach (by kernel_rfl) (by kernel_rfl) hg_208 (jkO ?_))
                obtain ⟨hg_209, h⟩ := gd h
                refine toO (by kernel_rfl) (p_quo 0 .i64 (w64 (turns3 - (w64 ((w64 (Int.tdiv (w64 (x_15.flife - x_15.fmade)) x_15.feach)) + 1)))) (w64 (Int.tdiv x_15.flife x_15.feach)) (by kernel_rfl) (by kernel_rfl) hg_209 (jkO ?_))
                refine jo_f [(0, 0), (0, 0)] (by kernel_rfl) ?_
                refine jo_end (by kernel_rfl) ?_
                exact jx_meet (w64 (1 + (w64 (Int.tdiv (w64 (turns3 - (w64 ((w64 (Int.tdiv (w64 (x_15.flife - x_15.fmade)) x_15.feach)) + 1)))) (w64 (Int.tdiv x_15.flife x_15.feach)))))) h (by kernel_rfl) [0, 1, 2, 3, 4, 5, 6] (by kernel_rfl) (by kernel_rfl)
              · replace h := ifF hc_207 h
                refine jc_skip ?_
                exact jx_meet 0 h (by kernel_rfl) [0, 1, 2, 3, 4, 5, 6] (by kernel_rfl) (by kernel_rfl)
            · rintro i_16 h
              replace h : impl_PartsFor.k_17 i_10 i_11 i_12 x_15 i_16 = some y_195 := h
              rw [impl_PartsFor.k_17] at h
              refine jx_then ?_
              refine jc_seq ?_
              refine jc_region ?_
              refine jo_f [(0, 0), (6, 0), (0, 0)] (by kernel_rfl) ?_
              refine jo_end (by kernel_rfl) ?_
              refine jx_then ?_
              refine jc_cond (decide (x_15.fstep < 0)) (by kernel_rfl) (fun hc_206 => ?_) (fun hc_206 => ?_)
              · replace h := ifT hc_206 h
                refine jc_region ?_
                refine jo_f [(0, 0), (0, 0), (0, 0), (0, 0)] (by kernel_rfl) ?_
                refine jo_end (by kernel_rfl) ?_
                refine jx_inn ?_
                refine jx_then ?_
                refine jc_region ?_
                refine jo_f [(0, 0), (0, 0)] (by kernel_rfl) ?_
                refine jo_end (by kernel_rfl) ?_
                exact jx_back (i_10, (w64 (i_11 + i_16)), (w64 (i_12 + 1))) () (Option.some.inj h).symm trivial [0, 1, 2, 3, 4, 5] (by kernel_rfl) (by kernel_rfl) (by kernel_rfl)
              · replace h := ifF hc_206 h
                refine jc_region ?_
                refine jo_f [(0, 0), (0, 0), (0, 0), (0, 0)] (by kernel_rfl) ?_
                refine jo_end (by kernel_rfl) ?_
                refine jx_inn ?_
                refine jx_then ?_
                refine jc_region ?_
                refine jo_f [(0, 0), (0, 0)] (by kernel_rfl) ?_
                refine jo_end (by kernel_rfl) ?_
                exact jx_back ((w64 (i_10 + i_16)), i_11, (w64 (i_12 + 1))) () (Option.some.inj h).symm trivial [0, 1, 2, 3, 4, 5] (by kernel_rfl) (by kernel_rfl) (by kernel_rfl)
        · replace h := ifF hc_197 h
          refine jc_exit ?_
          refine jx_thenx ?_
          refine jx_leave (i_10, i_11) (Option.some.inj h).symm (fun e_210 => ?_)
          subst e_210
          refine jx_ine ?_
          exact jx_meet ⟨i_10, i_11⟩ hr_194 (by kernel_rfl) [0, 1, 2, 3, 4, 5] (by kernel_rfl) (by kernel_rfl)
      · rintro ⟨i_7, i_8⟩ h
        replace h : impl_PartsFor.k_9 i_7 i_8 = some r := h
        rw [impl_PartsFor.k_9] at h
        refine jx_then ?_
        refine jc_seq ?_
        refine jc_region ?_
        refine jo_f [(0, 0), (0, 0), (0, 0), (0, 0), (0, 0)] (by kernel_rfl) ?_
        refine jo_end (by kernel_rfl) ?_
        refine jx_then ?_
        refine jc_ret ?_
        obtain rfl := Option.some.inj h
        exact jx_ret [] (.tuple #[(.int .i64 i_7), (.int .i64 i_8), (.int .i64 0)]) [] rfl (by kernel_rfl) (by kernel_rfl) (fun w hm => ⟨rfl, hm.pick [] (by kernel_rfl) (by kernel_rfl)⟩)

/-! ### laws.eqWornPin -/
noncomputable def laws_eqWornPin (a0 : GWornPin) (b1 : GWornPin) : Option (Bool) := (if (a0.fStep != b1.fStep) = true then some false else (if (a0.fTrack != b1.fTrack) = true then some false else (if (a0.fTurns != b1.fTurns) = true then some false else some true)))
set_option maxRecDepth 100000 in
theorem laws_eqWornPin.calls (a0 : GWornPin) (b1 : GWornPin) (w : World) (r : Bool) (h : laws_eqWornPin a0 b1 = some r) :
    Calls Try.prog 139 #[(.agg #[(.int .i8 a0.fStep), (.int .i8 a0.fTrack), (.int .i64 a0.fTurns)]), (.agg #[(.int .i8 b1.fStep), (.int .i8 b1.fTrack), (.int .i64 b1.fTurns)])] w fun e w' => ∃ v, e = .returned v ∧ (v = (.bool r) ∧ Mem w [] [] w') := by
  rw [laws_eqWornPin] at h
  refine enter (args := [(.agg #[(.int .i8 a0.fStep), (.int .i8 a0.fTrack), (.int .i64 a0.fTurns)]), (.agg #[(.int .i8 b1.fStep), (.int .i8 b1.fTrack), (.int .i64 b1.fTurns)])]) Try.func139 rfl Try.ntmps139 (by kernel_rfl) (L := []) (W := []) (Mem.start w) ?_
  refine jc_seq ?_
  refine jc_region ?_
  refine toO (by kernel_rfl) (p_a 0 [0] (by kernel_rfl) (fun b => by kernel_rfl) (fun b_1 => jkO ?_))
  refine toO (by kernel_rfl) (p_a 0 [0] (by kernel_rfl) (fun b => by kernel_rfl) (fun b_2 => jkO ?_))
  refine jo_f [(0, 0)] (by kernel_rfl) ?_
  refine jo_end (by kernel_rfl) ?_
  refine jx_then ?_
  refine jc_seq ?_
  refine jc_seq ?_
  refine jc_region ?_
  refine jo_f [(0, 0), (0, 0), (0, 0), (1, 0), (0, 0)] (by kernel_rfl) ?_
  refine jo_end (by kernel_rfl) ?_
  refine jx_then ?_
  refine jc_cond (a0.fStep != b1.fStep) (by kernel_rfl) (fun hc_4 => ?_) (fun hc_4 => ?_)
  · replace h := ifT hc_4 h
    refine jc_seq ?_
    refine jc_region ?_
    refine jo_f [(0, 0)] (by kernel_rfl) ?_
    refine jo_end (by kernel_rfl) ?_
    refine jx_then ?_
    refine jc_ret ?_
    refine jx_thenr ?_
    obtain rfl := Option.some.inj h
    exact jx_ret [] (.bool false) [] rfl (by kernel_rfl) (by kernel_rfl) (fun w hm => ⟨rfl, hm.pick [] (by kernel_rfl) (by kernel_rfl)⟩)
  · replace h := ifF hc_4 h
    refine jc_skip ?_
    refine jx_then ?_
    refine jc_seq ?_
    refine jc_seq ?_
    refine jc_region ?_
    refine jo_f [(0, 0), (0, 0), (0, 0), (1, 0), (0, 0)] (by kernel_rfl) ?_
    refine jo_end (by kernel_rfl) ?_
    refine jx_then ?_
    refine jc_cond (a0.fTrack != b1.fTrack) (by kernel_rfl) (fun hc_6 => ?_) (fun hc_6 => ?_)
    · replace h := ifT hc_6 h
      refine jc_seq ?_
      refine jc_region ?_
      refine jo_f [(0, 0)] (by kernel_rfl) ?_
      refine jo_end (by kernel_rfl) ?_
      refine jx_then ?_
      refine jc_ret ?_
      refine jx_thenr ?_
      obtain rfl := Option.some.inj h
      exact jx_ret [] (.bool false) [] rfl (by kernel_rfl) (by kernel_rfl) (fun w hm => ⟨rfl, hm.pick [] (by kernel_rfl) (by kernel_rfl)⟩)
    · replace h := ifF hc_6 h
      refine jc_skip ?_
      refine jx_then ?_
      refine jc_seq ?_
      refine jc_seq ?_
      refine jc_region ?_
      refine jo_f [(0, 0), (0, 0), (0, 0), (1, 0), (0, 0)] (by kernel_rfl) ?_
      refine jo_end (by kernel_rfl) ?_
      refine jx_then ?_
      refine jc_cond (a0.fTurns != b1.fTurns) (by kernel_rfl) (fun hc_7 => ?_) (fun hc_7 => ?_)
      · replace h := ifT hc_7 h
        refine jc_seq ?_
        refine jc_region ?_
        refine jo_f [(0, 0)] (by kernel_rfl) ?_
        refine jo_end (by kernel_rfl) ?_
        refine jx_then ?_
        refine jc_ret ?_
        refine jx_thenr ?_
        obtain rfl := Option.some.inj h
        exact jx_ret [] (.bool false) [] rfl (by kernel_rfl) (by kernel_rfl) (fun w hm => ⟨rfl, hm.pick [] (by kernel_rfl) (by kernel_rfl)⟩)
      · replace h := ifF hc_7 h
        refine jc_skip ?_
        refine jx_then ?_
        refine jc_seq ?_
        refine jc_region ?_
        refine jo_f [(0, 0)] (by kernel_rfl) ?_
        refine jo_end (by kernel_rfl) ?_
        refine jx_then ?_
        refine jc_ret ?_
        obtain rfl := Option.some.inj h
        exact jx_ret [] (.bool true) [] rfl (by kernel_rfl) (by kernel_rfl) (fun w hm => ⟨rfl, hm.pick [] (by kernel_rfl) (by kernel_rfl)⟩)

/-! ### laws.eqWornPinS -/
noncomputable def laws_eqWornPinS.k_1 : Option (Bool) := some true
noncomputable def laws_eqWornPinS.l_3 (a0 : List GWornPin) (b1 : List GWornPin) : Int → Option ((Int) ⊕ (Bool ⊕ Unit))
  | i_2 => (if (decide (i_2 < (a0.length : Int))) = true then (ix a0 i_2).bind fun x_5 => (ix b1 i_2).bind fun x_6 => (laws_eqWornPin x_5 x_6).bind fun t_7 => (if (!t_7) = true then some (.inr (.inl false)) else some (.inl (w64 (i_2 + 1)))) else some (.inr (.inr ())))
noncomputable def laws_eqWornPinS (a0 : List GWornPin) (b1 : List GWornPin) : Option (Bool) := (if ((a0.length : Int) != (b1.length : Int)) = true then some false else (loop (laws_eqWornPinS.l_3 a0 b1) 0).bind fun t_4 => match t_4 with | .inl p => some p | .inr p => laws_eqWornPinS.k_1)
set_option maxRecDepth 100000 in
theorem laws_eqWornPinS.calls (a0 : List GWornPin) (b1 : List GWornPin) (w : World) (r : Bool) (a0_a : Option Addr) (a0_an : Nat) (a0_c : Nat) (a0_h : Rw w a0_a 3 encGWornPin a0) (a0_hn : a0.length = a0_an) (b1_a : Option Addr) (b1_an : Nat) (b1_c : Nat) (b1_h : Rw w b1_a 3 encGWornPin b1) (b1_hn : b1.length = b1_an) (h : laws_eqWornPinS a0 b1 = some r) :
    Calls Try.prog 78 #[(.slice a0_a a0_an a0_c), (.slice b1_a b1_an b1_c)] w fun e w' => ∃ v, e = .returned v ∧ (v = (.bool r) ∧ Mem w [] [] w') := by
  subst a0_hn b1_hn
  rw [laws_eqWornPinS] at h
  refine enter (args := [(.slice a0_a a0.length a0_c), (.slice b1_a b1.length b1_c)]) Try.func78 rfl Try.ntmps78 (by kernel_rfl) (L := []) (W := []) (Mem.start w) ?_
  refine jc_seq ?_
  refine jc_region ?_
  refine jo_f [(0, 0)] (by kernel_rfl) ?_
  refine jo_end (by kernel_rfl) ?_
  refine jx_then ?_
  refine jc_seq ?_
  refine jc_seq ?_
  refine jc_region ?_
  refine jo_f [(0, 0), (0, 0), (0, 0), (0, 0), (0, 0)] (by kernel_rfl) ?_
  refine jo_end (by kernel_rfl) ?_
  refine jx_then ?_
  refine jc_cond ((a0.length : Int) != (b1.length : Int)) (by kernel_rfl) (fun hc_2 => ?_) (fun hc_2 => ?_)
  · replace h := ifT hc_2 h
    refine jc_seq ?_
    refine jc_region ?_
    refine jo_f [(0, 0)] (by kernel_rfl) ?_
    refine jo_end (by kernel_rfl) ?_
    refine jx_then ?_
    refine jc_ret ?_
    refine jx_thenr ?_
    obtain rfl := Option.some.inj h
    exact jx_ret [] (.bool false) [] rfl (by kernel_rfl) (by kernel_rfl) (fun w hm => ⟨rfl, hm.pick [] (by kernel_rfl) (by kernel_rfl)⟩)
  · replace h := ifF hc_2 h
    refine jc_skip ?_
    refine jx_then ?_
    refine jc_seq ?_
    refine jc_seq ?_
    refine jc_region ?_
    refine jo_f [(0, 0)] (by kernel_rfl) ?_
    refine jo_end (by kernel_rfl) ?_
    refine jx_then ?_
    refine jc_meet (fun (_ : Unit) => laws_eqWornPinS.k_1 = some r) (fun (_ : Unit) => [(4, [], (.bool false))]) (fun (_ : Unit) => []) ?_ ?_
    · refine jc_block ?_
      obtain ⟨t_4, ht_48, hr_38⟩ := bd h
      refine jc_loop (fun (s : Int) (x : Unit) => match s, x with | i_2, _ => True) (fun (s : Int) (x : Unit) => match s, x with | i_2, _ => [(0, [], (.slice a0_a a0.length a0_c)), (1, [], (.slice b1_a b1.length b1_c)), (4, [], (.bool false)), (5, [], (.int .i64 i_2))]) (fun (s : Int) (x : Unit) => match s, x with | i_2, _ => []) ht_48 () trivial (by kernel_rfl) [] (by kernel_rfl) (by kernel_rfl) ?_
      rintro i_2 _ y_39 _ h
      rw [laws_eqWornPinS.l_3] at h
      refine jc_seq ?_
      refine jc_seq ?_
      refine jc_region ?_
      refine jo_f [(0, 0), (0, 0), (0, 0), (0, 0)] (by kernel_rfl) ?_
      refine jo_end (by kernel_rfl) ?_
      refine jx_then ?_
      refine jc_cond (decide (i_2 < (a0.length : Int))) (by kernel_rfl) (fun hc_41 => ?_) (fun hc_41 => ?_)
      · replace h := ifT hc_41 h
        refine jc_skip ?_
        refine jx_then ?_
        refine jc_seq ?_
        refine jc_block ?_
        refine jc_seq ?_
        refine jc_draw [] 10 (by kernel_rfl) (by kernel_rfl) ?_
        refine jd_f [⟨0, 0, 0⟩, ⟨1, 0, 0⟩, ⟨4, 0, 0⟩, ⟨5, 0, 0⟩] 6 (by kernel_rfl) (by kernel_rfl) (fun w h => h.pick [] (by kernel_rfl) (by kernel_rfl)) (by kernel_rfl) (by kernel_rfl) ?_
        obtain ⟨x_5, hx_42, h⟩ := bd h
        refine jd_v 2 0 (by kernel_rfl) (fun w h => h.pick [] (by kernel_rfl) (by kernel_rfl)) (by kernel_rfl) (by kernel_rfl) _ (fun w hm => idx_run (a := a0_a) (len := a0.length) (s := 3) (j := i_2) (by kernel_rfl) (ix_some hx_42).1 (ltn hx_42 rfl) (a0_h.sp hx_42)) ?_
        refine jd_v 3 0 (by kernel_rfl) (fun w h => h.pick [] (by kernel_rfl) (by kernel_rfl)) (by kernel_rfl) (by kernel_rfl) _ (fun w hm => ld_run (b := aB a0_a) (off := (aO a0_a + i_2.toNat * 3)) (s := 3) (agg := true) (vs := (encGWornPin x_5)) (by kernel_rfl) (by kernel_rfl) (.inl rfl) ((hm.exRow a0_h List.not_mem_nil).at hx_42)) ?_
        obtain ⟨x_6, hx_43, h⟩ := bd h
        refine jd_v 6 0 (by kernel_rfl) (fun w h => h.pick [] (by kernel_rfl) (by kernel_rfl)) (by kernel_rfl) (by kernel_rfl) _ (fun w hm => idx_run (a := b1_a) (len := b1.length) (s := 3) (j := i_2) (by kernel_rfl) (ix_some hx_43).1 (ltn hx_43 rfl) (b1_h.sp hx_43)) ?_
        refine jd_v 7 0 (by kernel_rfl) (fun w h => h.pick [] (by kernel_rfl) (by kernel_rfl)) (by kernel_rfl) (by kernel_rfl) _ (fun w hm => ld_run (b := aB b1_a) (off := (aO b1_a + i_2.toNat * 3)) (s := 3) (agg := true) (vs := (encGWornPin x_6)) (by kernel_rfl) (by kernel_rfl) (.inl rfl) ((hm.exRow b1_h List.not_mem_nil).at hx_43)) ?_
        obtain ⟨t_7, ht_44, h⟩ := bd h
        refine toD 8 (by kernel_rfl) (p_call 0 139 #[(.agg #[(.int .i8 x_5.fStep), (.int .i8 x_5.fTrack), (.int .i64 x_5.fTurns)]), (.agg #[(.int .i8 x_6.fStep), (.int .i8 x_6.fTrack), (.int .i64 x_6.fTurns)])] (by kernel_rfl) (by kernel_rfl) (fun w hm => laws_eqWornPin.calls x_5 x_6 w _ ht_44) ?_)
        rintro w v w' hm ⟨rfl, hm'⟩
        refine ⟨_, hm.app hm', jkD (fun w h => h.pick [] (by kernel_rfl) (by kernel_rfl)) ?_⟩
        clear hm hm'
        refine jd_f [⟨9, 0, 0⟩] 0 (by kernel_rfl) (by kernel_rfl) (fun w h => h.pick [] (by kernel_rfl) (by kernel_rfl)) (by kernel_rfl) (by kernel_rfl) ?_
        refine jd_end (by kernel_rfl) ?_
        refine jx_then ?_
        refine jc_cond (!t_7) (by kernel_rfl) (fun hc_45 => ?_) (fun hc_45 => ?_)
        · replace h := ifT hc_45 h
          refine jc_seq ?_
          refine jc_region ?_
          refine jo_f [(0, 0)] (by kernel_rfl) ?_
          refine jo_end (by kernel_rfl) ?_
          refine jx_then ?_
          refine jc_ret ?_
          refine jx_inr ?_
          refine jx_thenr ?_
          refine jx_leaver (.inl false) (Option.some.inj h).symm (fun e_46 => ?_)
          subst e_46
          refine jx_inr ?_
          refine jx_thenr ?_
          refine jx_thenr ?_
          obtain rfl := Option.some.inj hr_38
          exact jx_ret [] (.bool false) [] rfl (by kernel_rfl) (by kernel_rfl) (fun w hm => ⟨rfl, hm.pick [] (by kernel_rfl) (by kernel_rfl)⟩)
        · replace h := ifF hc_45 h
          refine jc_skip ?_
          refine jx_inn ?_
          refine jx_then ?_
          refine jc_region ?_
          refine jo_f [(0, 0), (0, 0), (0, 0)] (by kernel_rfl) ?_
          refine jo_end (by kernel_rfl) ?_
          exact jx_back (w64 (i_2 + 1)) () (Option.some.inj h).symm trivial [] (by kernel_rfl) (by kernel_rfl) (by kernel_rfl)
      · replace h := ifF hc_41 h
        refine jc_exit ?_
        refine jx_thenx ?_
        refine jx_leave (.inr ()) (Option.some.inj h).symm (fun e_47 => ?_)
        subst e_47
        refine jx_ine ?_
        exact jx_meet () hr_38 (by kernel_rfl) [] (by kernel_rfl) (by kernel_rfl)
    · rintro _ h
      replace h : laws_eqWornPinS.k_1 = some r := h
      rw [laws_eqWornPinS.k_1] at h
      refine jx_then ?_
      refine jc_seq ?_
      refine jc_region ?_
      refine jo_f [(0, 0)] (by kernel_rfl) ?_
      refine jo_end (by kernel_rfl) ?_
      refine jx_then ?_
      refine jc_ret ?_
      obtain rfl := Option.some.inj h
      exact jx_ret [] (.bool true) [] rfl (by kernel_rfl) (by kernel_rfl) (fun w hm => ⟨rfl, hm.pick [] (by kernel_rfl) (by kernel_rfl)⟩)

/-! ### laws.eqInt64S -/
noncomputable def laws_eqInt64S.k_1 : Option (Bool) := some true
noncomputable def laws_eqInt64S.l_3 (a0 : List Int) (b1 : List Int) : Int → Option ((Int) ⊕ (Bool ⊕ Unit))
  | i_2 => (if (decide (i_2 < (a0.length : Int))) = true then (ix a0 i_2).bind fun x_5 => (ix b1 i_2).bind fun x_6 => (if (x_5 != x_6) = true then some (.inr (.inl false)) else some (.inl (w64 (i_2 + 1)))) else some (.inr (.inr ())))
noncomputable def laws_eqInt64S (a0 : List Int) (b1 : List Int) : Option (Bool) := (if ((a0.length : Int) != (b1.length : Int)) = true then some false else (loop (laws_eqInt64S.l_3 a0 b1) 0).bind fun t_4 => match t_4 with | .inl p => some p | .inr p => laws_eqInt64S.k_1)
set_option maxRecDepth 100000 in
theorem laws_eqInt64S.calls (a0 : List Int) (b1 : List Int) (w : World) (r : Bool) (a0_a : Option Addr) (a0_an : Nat) (a0_c : Nat) (a0_h : Rw w a0_a 1 encI64 a0) (a0_hn : a0.length = a0_an) (b1_a : Option Addr) (b1_an : Nat) (b1_c : Nat) (b1_h : Rw w b1_a 1 encI64 b1) (b1_hn : b1.length = b1_an) (h : laws_eqInt64S a0 b1 = some r) :
    Calls Try.prog 57 #[(.slice a0_a a0_an a0_c), (.slice b1_a b1_an b1_c)] w fun e w' => ∃ v, e = .returned v ∧ (v = (.bool r) ∧ Mem w [] [] w') := by
  subst a0_hn b1_hn
  rw [laws_eqInt64S] at h
  refine enter (args := [(.slice a0_a a0.length a0_c), (.slice b1_a b1.length b1_c)]) Try.func57 rfl Try.ntmps57 (by kernel_rfl) (L := []) (W := []) (Mem.start w) ?_
  refine jc_seq ?_
  refine jc_region ?_
  refine jo_f [(0, 0)] (by kernel_rfl) ?_
  refine jo_end (by kernel_rfl) ?_
  refine jx_then ?_
  refine jc_seq ?_
  refine jc_seq ?_
  refine jc_region ?_
  refine jo_f [(0, 0), (0, 0), (0, 0), (0, 0), (0, 0)] (by kernel_rfl) ?_
  refine jo_end (by kernel_rfl) ?_
  refine jx_then ?_
  refine jc_cond ((a0.length : Int) != (b1.length : Int)) (by kernel_rfl) (fun hc_2 => ?_) (fun hc_2 => ?_)
  · replace h := ifT hc_2 h
    refine jc_seq ?_
    refine jc_region ?_
    refine jo_f [(0, 0)] (by kernel_rfl) ?_
    refine jo_end (by kernel_rfl) ?_
    refine jx_then ?_
    refine jc_ret ?_
    refine jx_thenr ?_
    obtain rfl := Option.some.inj h
    exact jx_ret [] (.bool false) [] rfl (by kernel_rfl) (by kernel_rfl) (fun w hm => ⟨rfl, hm.pick [] (by kernel_rfl) (by kernel_rfl)⟩)
  · replace h := ifF hc_2 h
    refine jc_skip ?_
    refine jx_then ?_
    refine jc_seq ?_
    refine jc_seq ?_
    refine jc_region ?_
    refine jo_f [(0, 0)] (by kernel_rfl) ?_
    refine jo_end (by kernel_rfl) ?_
    refine jx_then ?_
    refine jc_meet (fun (_ : Unit) => laws_eqInt64S.k_1 = some r) (fun (_ : Unit) => [(4, [], (.bool false))]) (fun (_ : Unit) => []) ?_ ?_
    · refine jc_block ?_
      obtain ⟨t_4, ht_42, hr_33⟩ := bd h
      refine jc_loop (fun (s : Int) (x : Unit) => match s, x with | i_2, _ => True) (fun (s : Int) (x : Unit) => match s, x with | i_2, _ => [(0, [], (.slice a0_a a0.length a0_c)), (1, [], (.slice b1_a b1.length b1_c)), (4, [], (.bool false)), (5, [], (.int .i64 i_2))]) (fun (s : Int) (x : Unit) => match s, x with | i_2, _ => []) ht_42 () trivial (by kernel_rfl) [] (by kernel_rfl) (by kernel_rfl) ?_
      rintro i_2 _ y_34 _ h
      rw [laws_eqInt64S.l_3] at h
      refine jc_seq ?_
      refine jc_seq ?_
      refine jc_region ?_
      refine jo_f [(0, 0), (0, 0), (0, 0), (0, 0)] (by kernel_rfl) ?_
      refine jo_end (by kernel_rfl) ?_
      refine jx_then ?_
      refine jc_cond (decide (i_2 < (a0.length : Int))) (by kernel_rfl) (fun hc_36 => ?_) (fun hc_36 => ?_)
      · replace h := ifT hc_36 h
        refine jc_skip ?_
        refine jx_then ?_
        refine jc_seq ?_
        refine jc_block ?_
        refine jc_seq ?_
        refine jc_draw [] 9 (by kernel_rfl) (by kernel_rfl) ?_
        refine jd_f [⟨0, 0, 0⟩, ⟨1, 0, 0⟩, ⟨4, 0, 0⟩, ⟨5, 0, 0⟩] 5 (by kernel_rfl) (by kernel_rfl) (fun w h => h.pick [] (by kernel_rfl) (by kernel_rfl)) (by kernel_rfl) (by kernel_rfl) ?_
        obtain ⟨x_5, hx_37, h⟩ := bd h
        refine jd_v 2 0 (by kernel_rfl) (fun w h => h.pick [] (by kernel_rfl) (by kernel_rfl)) (by kernel_rfl) (by kernel_rfl) _ (fun w hm => idx_run (a := a0_a) (len := a0.length) (s := 1) (j := i_2) (by kernel_rfl) (ix_some hx_37).1 (ltn hx_37 rfl) (a0_h.sp hx_37)) ?_
        refine jd_v 3 0 (by kernel_rfl) (fun w h => h.pick [] (by kernel_rfl) (by kernel_rfl)) (by kernel_rfl) (by kernel_rfl) _ (fun w hm => ld_run (b := aB a0_a) (off := (aO a0_a + i_2.toNat * 1)) (s := 1) (agg := false) (vs := (encI64 x_5)) (by kernel_rfl) (by kernel_rfl) (.inr rfl) ((hm.exRow a0_h List.not_mem_nil).at hx_37)) ?_
        obtain ⟨x_6, hx_38, h⟩ := bd h
        refine jd_v 6 0 (by kernel_rfl) (fun w h => h.pick [] (by kernel_rfl) (by kernel_rfl)) (by kernel_rfl) (by kernel_rfl) _ (fun w hm => idx_run (a := b1_a) (len := b1.length) (s := 1) (j := i_2) (by kernel_rfl) (ix_some hx_38).1 (ltn hx_38 rfl) (b1_h.sp hx_38)) ?_
        refine jd_v 7 0 (by kernel_rfl) (fun w h => h.pick [] (by kernel_rfl) (by kernel_rfl)) (by kernel_rfl) (by kernel_rfl) _ (fun w hm => ld_run (b := aB b1_a) (off := (aO b1_a + i_2.toNat * 1)) (s := 1) (agg := false) (vs := (encI64 x_6)) (by kernel_rfl) (by kernel_rfl) (.inr rfl) ((hm.exRow b1_h List.not_mem_nil).at hx_38)) ?_
        refine jd_f [⟨8, 0, 0⟩] 0 (by kernel_rfl) (by kernel_rfl) (fun w h => h.pick [] (by kernel_rfl) (by kernel_rfl)) (by kernel_rfl) (by kernel_rfl) ?_
        refine jd_end (by kernel_rfl) ?_
        refine jx_then ?_
        refine jc_cond (x_5 != x_6) (by kernel_rfl) (fun hc_39 => ?_) (fun hc_39 => ?_)
        · replace h := ifT hc_39 h
          refine jc_seq ?_
          refine jc_region ?_
          refine jo_f [(0, 0)] (by kernel_rfl) ?_
          refine jo_end (by kernel_rfl) ?_
          refine jx_then ?_
          refine jc_ret ?_
          refine jx_inr ?_
          refine jx_thenr ?_
          refine jx_leaver (.inl false) (Option.some.inj h).symm (fun e_40 => ?_)
          subst e_40
          refine jx_inr ?_
          refine jx_thenr ?_
          refine jx_thenr ?_
          obtain rfl := Option.some.inj hr_33
          exact jx_ret [] (.bool false) [] rfl (by kernel_rfl) (by kernel_rfl) (fun w hm => ⟨rfl, hm.pick [] (by kernel_rfl) (by kernel_rfl)⟩)
        · replace h := ifF hc_39 h
          refine jc_skip ?_
          refine jx_inn ?_
          refine jx_then ?_
          refine jc_region ?_
          refine jo_f [(0, 0), (0, 0), (0, 0)] (by kernel_rfl) ?_
          refine jo_end (by kernel_rfl) ?_
          exact jx_back (w64 (i_2 + 1)) () (Option.some.inj h).symm trivial [] (by kernel_rfl) (by kernel_rfl) (by kernel_rfl)
      · replace h := ifF hc_36 h
        refine jc_exit ?_
        refine jx_thenx ?_
        refine jx_leave (.inr ()) (Option.some.inj h).symm (fun e_41 => ?_)
        subst e_41
        refine jx_ine ?_
        exact jx_meet () hr_33 (by kernel_rfl) [] (by kernel_rfl) (by kernel_rfl)
    · rintro _ h
      replace h : laws_eqInt64S.k_1 = some r := h
      rw [laws_eqInt64S.k_1] at h
      refine jx_then ?_
      refine jc_seq ?_
      refine jc_region ?_
      refine jo_f [(0, 0)] (by kernel_rfl) ?_
      refine jo_end (by kernel_rfl) ?_
      refine jx_then ?_
      refine jc_ret ?_
      obtain rfl := Option.some.inj h
      exact jx_ret [] (.bool true) [] rfl (by kernel_rfl) (by kernel_rfl) (fun w hm => ⟨rfl, hm.pick [] (by kernel_rfl) (by kernel_rfl)⟩)

/-! ### laws.eqWear -/
noncomputable def laws_eqWear (a0 : GWear) (b1 : GWear) : Option (Bool) := (laws_eqWornPinS a0.fPins b1.fPins).bind fun t_1 => (if (!t_1) = true then some false else (laws_eqInt64S a0.fStrokes b1.fStrokes).bind fun t_2 => (if (!t_2) = true then some false else some true))
set_option maxRecDepth 100000 in
theorem laws_eqWear.calls (a0 : GWear) (b1 : GWear) (w : World) (r : Bool) (a0_fPins_a : Option Addr) (a0_fPins_an : Nat) (a0_fPins_c : Nat) (a0_fPins_h : Rw w a0_fPins_a 3 encGWornPin a0.fPins) (a0_fPins_hn : a0.fPins.length = a0_fPins_an) (a0_fStrokes_a : Option Addr) (a0_fStrokes_an : Nat) (a0_fStrokes_c : Nat) (a0_fStrokes_h : Rw w a0_fStrokes_a 1 encI64 a0.fStrokes) (a0_fStrokes_hn : a0.fStrokes.length = a0_fStrokes_an) (b1_fPins_a : Option Addr) (b1_fPins_an : Nat) (b1_fPins_c : Nat) (b1_fPins_h : Rw w b1_fPins_a 3 encGWornPin b1.fPins) (b1_fPins_hn : b1.fPins.length = b1_fPins_an) (b1_fStrokes_a : Option Addr) (b1_fStrokes_an : Nat) (b1_fStrokes_c : Nat) (b1_fStrokes_h : Rw w b1_fStrokes_a 1 encI64 b1.fStrokes) (b1_fStrokes_hn : b1.fStrokes.length = b1_fStrokes_an) (h : laws_eqWear a0 b1 = some r) :
    Calls Try.prog 21 #[(.agg #[(.slice a0_fPins_a a0_fPins_an a0_fPins_c), (.slice a0_fStrokes_a a0_fStrokes_an a0_fStrokes_c)]), (.agg #[(.slice b1_fPins_a b1_fPins_an b1_fPins_c), (.slice b1_fStrokes_a b1_fStrokes_an b1_fStrokes_c)])] w fun e w' => ∃ v, e = .returned v ∧ (v = (.bool r) ∧ Mem w [] [] w') := by
  subst a0_fPins_hn a0_fStrokes_hn b1_fPins_hn b1_fStrokes_hn
  rw [laws_eqWear] at h
  refine enter (args := [(.agg #[(.slice a0_fPins_a a0.fPins.length a0_fPins_c), (.slice a0_fStrokes_a a0.fStrokes.length a0_fStrokes_c)]), (.agg #[(.slice b1_fPins_a b1.fPins.length b1_fPins_c), (.slice b1_fStrokes_a b1.fStrokes.length b1_fStrokes_c)])]) Try.func21 rfl Try.ntmps21 (by kernel_rfl) (L := []) (W := []) (Mem.start w) ?_
  refine jc_seq ?_
  refine jc_region ?_
  refine toO (by kernel_rfl) (p_a 0 [0] (by kernel_rfl) (fun b => by kernel_rfl) (fun b_1 => jkO ?_))
  refine toO (by kernel_rfl) (p_a 0 [0] (by kernel_rfl) (fun b => by kernel_rfl) (fun b_2 => jkO ?_))
  refine jo_f [(0, 0)] (by kernel_rfl) ?_
  refine jo_end (by kernel_rfl) ?_
  refine jx_then ?_
  refine jc_seq ?_
  refine jc_seq ?_
  refine jc_region ?_
  refine jo_f [(0, 0), (0, 0), (0, 0), (1, 0)] (by kernel_rfl) ?_
  obtain ⟨t_1, ht_5, h⟩ := bd h
  refine toO (by kernel_rfl) (p_call 0 78 #[(.slice a0_fPins_a a0.fPins.length a0_fPins_c), (.slice b1_fPins_a b1.fPins.length b1_fPins_c)] (by kernel_rfl) (by kernel_rfl) (fun w hm => laws_eqWornPinS.calls a0.fPins b1.fPins w _ a0_fPins_a a0.fPins.length a0_fPins_c (hm.exRow a0_fPins_h List.not_mem_nil) rfl b1_fPins_a b1.fPins.length b1_fPins_c (hm.exRow b1_fPins_h List.not_mem_nil) rfl ht_5) ?_)
  rintro w v w' hm ⟨rfl, hm'⟩
  refine ⟨_, hm.app hm', jkO ?_⟩
  clear hm hm'
  refine jo_f [(0, 0)] (by kernel_rfl) ?_
  refine jo_end (by kernel_rfl) ?_
  refine jx_then ?_
  refine jc_cond (!t_1) (by kernel_rfl) (fun hc_6 => ?_) (fun hc_6 => ?_)
  · replace h := ifT hc_6 h
    refine jc_seq ?_
    refine jc_region ?_
    refine jo_f [(0, 0)] (by kernel_rfl) ?_
    refine jo_end (by kernel_rfl) ?_
    refine jx_then ?_
    refine jc_ret ?_
    refine jx_thenr ?_
    obtain rfl := Option.some.inj h
    exact jx_ret [] (.bool false) [] rfl (by kernel_rfl) (by kernel_rfl) (fun w hm => ⟨rfl, hm.pick [] (by kernel_rfl) (by kernel_rfl)⟩)
  · replace h := ifF hc_6 h
    refine jc_skip ?_
    refine jx_then ?_
    refine jc_seq ?_
    refine jc_seq ?_
    refine jc_region ?_
    refine jo_f [(0, 0), (0, 0), (0, 0), (1, 0)] (by kernel_rfl) ?_
    obtain ⟨t_2, ht_7, h⟩ := bd h
    refine toO (by kernel_rfl) (p_call 0 57 #[(.slice a0_fStrokes_a a0.fStrokes.length a0_fStrokes_c), (.slice b1_fStrokes_a b1.fStrokes.length b1_fStrokes_c)] (by kernel_rfl) (by kernel_rfl) (fun w hm => laws_eqInt64S.calls a0.fStrokes b1.fStrokes w _ a0_fStrokes_a a0.fStrokes.length a0_fStrokes_c (hm.exRow a0_fStrokes_h List.not_mem_nil) rfl b1_fStrokes_a b1.fStrokes.length b1_fStrokes_c (hm.exRow b1_fStrokes_h List.not_mem_nil) rfl ht_7) ?_)
    rintro w v w' hm ⟨rfl, hm'⟩
    refine ⟨_, hm.app hm', jkO ?_⟩
    clear hm hm'
    refine jo_f [(0, 0)] (by kernel_rfl) ?_
    refine jo_end (by kernel_rfl) ?_
    refine jx_then ?_
    refine jc_cond (!t_2) (by kernel_rfl) (fun hc_8 => ?_) (fun hc_8 => ?_)
    · replace h := ifT hc_8 h
      refine jc_seq ?_
      refine jc_region ?_
      refine jo_f [(0, 0)] (by kernel_rfl) ?_
      refine jo_end (by kernel_rfl) ?_
      refine jx_then ?_
      refine jc_ret ?_
      refine jx_thenr ?_
      obtain rfl := Option.some.inj h
      exact jx_ret [] (.bool false) [] rfl (by kernel_rfl) (by kernel_rfl) (fun w hm => ⟨rfl, hm.pick [] (by kernel_rfl) (by kernel_rfl)⟩)
    · replace h := ifF hc_8 h
      refine jc_skip ?_
      refine jx_then ?_
      refine jc_seq ?_
      refine jc_region ?_
      refine jo_f [(0, 0)] (by kernel_rfl) ?_
      refine jo_end (by kernel_rfl) ?_
      refine jx_then ?_
      refine jc_ret ?_
      obtain rfl := Option.some.inj h
      exact jx_ret [] (.bool true) [] rfl (by kernel_rfl) (by kernel_rfl) (fun w hm => ⟨rfl, hm.pick [] (by kernel_rfl) (by kernel_rfl)⟩)
end Go.Proofs.Ytilackblefjgdaa
