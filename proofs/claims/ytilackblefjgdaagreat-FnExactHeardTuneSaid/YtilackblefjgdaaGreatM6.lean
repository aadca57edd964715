/- Functions of the program that the laws reach: a plain function each, and that the call comes to its answer if the plain function has one. Printed by a program. -/
import Derived.Test.YtilackblefjgdaaGreatT
import Derived.Test.YtilackblefjgdaaGreatM0
import Derived.Test.YtilackblefjgdaaGreatM4
import Derived.Test.YtilackblefjgdaaGreatM5
namespace Go.Proofs.YtilackblefjgdaaGreat
open Eng
set_option linter.unusedVariables false

/-! ### laws.FnExactHeardTune -/
noncomputable def laws_FnExactHeardTune.k_23 (aF0 : GFrame) (aT1 : List GNote) (aList2 : List GChoice) (t_7 : (List GNote) × Int) (t_11 : (List GNote) × Int) (q_22 : Bool) : Option (Bool) := (if q_22 = true then some false else (laws_markTune t_11.1 1).bind fun t_24 => (laws_heldTune t_24.2 1).bind fun t_25 => (if (decide (t_25 < 0)) = true then some false else (if (t_25 != t_24.1) = true then some false else (laws_toFrame aF0).bind fun t_26 => (laws_toTune aT1).bind fun t_27 => (laws_toChoiceS aList2).bind fun t_28 => (impl_HeardTune t_26 t_27 t_28).bind fun t_29 => (laws_eqTune t_29.1 t_7.1).bind fun t_30 => (if ((!t_30) || (t_29.2 != t_7.2)) = true then some false else (laws_heldTune t_24.2 1).bind fun t_31 => (if (decide (t_31 < 0)) = true then some false else (if (t_31 != t_24.1) = true then some false else some true))))))
noncomputable def laws_FnExactHeardTune (aF0 : GFrame) (aT1 : List GNote) (aList2 : List GChoice) : Option (Bool) := (laws_szFrame aF0 1048576).bind fun t_1 => (if (decide (t_1 < 0)) = true then some true else (laws_szTune aT1 t_1).bind fun t_2 => (if (decide (t_2 < 0)) = true then some true else (laws_szChoiceS aList2 t_2).bind fun t_3 => (if (decide (t_3 < 0)) = true then some true else (laws_toFrame aF0).bind fun t_4 => (laws_toTune aT1).bind fun t_5 => (laws_toChoiceS aList2).bind fun t_6 => (spec_HeardTune t_4 t_5 t_6).bind fun t_7 => (laws_toFrame aF0).bind fun t_8 => (laws_toTune aT1).bind fun t_9 => (laws_toChoiceS aList2).bind fun t_10 => (impl_HeardTune t_8 t_9 t_10).bind fun t_11 => (laws_eqTune t_11.1 t_7.1).bind fun t_12 => (if ((!t_12) || (t_11.2 != t_7.2)) = true then some false else (laws_toFrame aF0).bind fun t_13 => (laws_eqFrame t_8 t_13).bind fun t_14 => (if (!t_14) = true then some false else (laws_toTune aT1).bind fun t_15 => (laws_eqTune t_9 t_15).bind fun t_16 => (if (!t_16) = true then some false else (laws_toChoiceS aList2).bind fun t_17 => (laws_eqChoiceS t_10 t_17).bind fun t_18 => (if (!t_18) = true then some false else (laws_markFrame t_8 1).bind fun t_19 => (laws_markTune t_9 t_19.1).bind fun t_20 => (laws_markChoiceS t_10 t_20.1).bind fun t_21 => (if (decide (t_21.1 < 0)) = true then laws_FnExactHeardTune.k_23 aF0 aT1 aList2 t_7 t_11 true else (laws_eqTune t_11.1 t_7.1).bind fun t_32 => laws_FnExactHeardTune.k_23 aF0 aT1 aList2 t_7 t_11 ((!t_32) || (t_11.2 != t_7.2))))))))))
set_option maxRecDepth 100000 in
set_option maxHeartbeats 8000000 in
theorem laws_FnExactHeardTune.calls (aF0 : GFrame) (aT1 : List GNote) (aList2 : List GChoice) (w : World) (r : Bool) (aF0_fHammers_a : Option Addr) (aF0_fHammers_an : Nat) (aF0_fHammers_c : Nat) (aF0_fHammers_h : Rw w aF0_fHammers_a 2 encGHammer aF0.fHammers) (aF0_fHammers_hn : aF0.fHammers.length = aF0_fHammers_an) (aT1_a : Option Addr) (aT1_an : Nat) (aT1_c : Nat) (aT1_h : Rw w aT1_a 2 encGNote aT1) (aT1_hn : aT1.length = aT1_an) (aList2_a : Option Addr) (aList2_an : Nat) (aList2_c : Nat) (aList2_h : Rw w aList2_a 4 encGChoice aList2) (aList2_hn : aList2.length = aList2_an) (h : laws_FnExactHeardTune aF0 aT1 aList2 = some r) :
    Calls Tryz.prog 4 #[(.agg #[(.int .i16 aF0.fSteps), (.slice aF0_fHammers_a aF0_fHammers_an aF0_fHammers_c)]), (.slice aT1_a aT1_an aT1_c), (.slice aList2_a aList2_an aList2_c)] w fun e w' => ∃ v, e = .returned v ∧ (v = (.bool r) ∧ Mem w [] [] w') := by
  subst aF0_fHammers_hn aT1_hn aList2_hn
  rw [laws_FnExactHeardTune] at h
  refine enter (args := [(.agg #[(.int .i16 aF0.fSteps), (.slice aF0_fHammers_a aF0.fHammers.length aF0_fHammers_c)]), (.slice aT1_a aT1.length aT1_c), (.slice aList2_a aList2.length aList2_c)]) Tryz.func4 rfl Tryz.ntmps4 (by kernel_rfl) (L := []) (W := []) (Mem.start w) ?_
  refine jc_seq ?_
  refine jc_region ?_
  refine toO (by kernel_rfl) (p_a 0 [0] (by kernel_rfl) (fun b => by kernel_rfl) (fun b_1 => jkO ?_))
  refine jo_f [(0, 0)] (by kernel_rfl) ?_
  refine jo_end (by kernel_rfl) ?_
  refine jx_then ?_
  refine jc_seq ?_
  refine jc_region ?_
  refine jo_f [(0, 0)] (by kernel_rfl) ?_
  refine jo_end (by kernel_rfl) ?_
  refine jx_then ?_
  refine jc_seq ?_
  refine jc_region ?_
  refine jo_f [(0, 0), (0, 0)] (by kernel_rfl) ?_
  obtain ⟨t_1, ht_2, h⟩ := bd h
  refine toO (by kernel_rfl) (p_call 0 5 #[(.agg #[(.int .i16 aF0.fSteps), (.slice aF0_fHammers_a aF0.fHammers.length aF0_fHammers_c)]), (.int .i64 1048576)] (by kernel_rfl) (by kernel_rfl) (fun w hm => laws_szFrame.calls aF0 1048576 w _ aF0_fHammers_a aF0.fHammers.length aF0_fHammers_c (hm.exRow aF0_fHammers_h List.not_mem_nil) rfl ht_2) ?_)
  rintro w v w' hm ⟨rfl, hm'⟩
  refine ⟨_, hm.app hm', jkO ?_⟩
  clear hm hm'
  refine jo_f [(0, 0)] (by kernel_rfl) ?_
  refine jo_end (by kernel_rfl) ?_
  refine jx_then ?_
  refine jc_seq ?_
  refine jc_seq ?_
  refine jc_region ?_
  refine jo_f [(0, 0), (0, 0)] (by kernel_rfl) ?_
  refine jo_end (by kernel_rfl) ?_
  refine jx_then ?_
  refine jc_cond (decide (t_1 < 0)) (by kernel_rfl) (fun hc_4 => ?_) (fun hc_4 => ?_)
  · replace h := ifT hc_4 h
    refine jc_seq ?_
    refine jc_region ?_
    refine jo_f [(0, 0)] (by kernel_rfl) ?_
    refine jo_end (by kernel_rfl) ?_
    refine jx_then ?_
    refine jc_ret ?_
    refine jx_thenr ?_
    obtain rfl := Option.some.inj h
    exact jx_ret [] (.bool true) [] rfl (by kernel_rfl) (by kernel_rfl) (fun w hm => ⟨rfl, hm.pick [] (by kernel_rfl) (by kernel_rfl)⟩)
  · replace h := ifF hc_4 h
    refine jc_skip ?_
    refine jx_then ?_
    refine jc_seq ?_
    refine jc_region ?_
    refine jo_f [(0, 0), (0, 0)] (by kernel_rfl) ?_
    obtain ⟨t_2, ht_5, h⟩ := bd h
    refine toO (by kernel_rfl) (p_call 0 17 #[(.slice aT1_a aT1.length aT1_c), (.int .i64 t_1)] (by kernel_rfl) (by kernel_rfl) (fun w hm => laws_szTune.calls aT1 t_1 w _ aT1_a aT1.length aT1_c (hm.exRow aT1_h List.not_mem_nil) rfl ht_5) ?_)
    rintro w v w' hm ⟨rfl, hm'⟩
    refine ⟨_, hm.app hm', jkO ?_⟩
    clear hm hm'
    refine jo_f [(0, 0)] (by kernel_rfl) ?_
    refine jo_end (by kernel_rfl) ?_
    refine jx_then ?_
    refine jc_seq ?_
    refine jc_seq ?_
    refine jc_region ?_
    refine jo_f [(0, 0), (0, 0)] (by kernel_rfl) ?_
    refine jo_end (by kernel_rfl) ?_
    refine jx_then ?_
    refine jc_cond (decide (t_2 < 0)) (by kernel_rfl) (fun hc_7 => ?_) (fun hc_7 => ?_)
    · replace h := ifT hc_7 h
      refine jc_seq ?_
      refine jc_region ?_
      refine jo_f [(0, 0)] (by kernel_rfl) ?_
      refine jo_end (by kernel_rfl) ?_
      refine jx_then ?_
      refine jc_ret ?_
      refine jx_thenr ?_
      obtain rfl := Option.some.inj h
      exact jx_ret [] (.bool true) [] rfl (by kernel_rfl) (by kernel_rfl) (fun w hm => ⟨rfl, hm.pick [] (by kernel_rfl) (by kernel_rfl)⟩)
    · replace h := ifF hc_7 h
      refine jc_skip ?_
      refine jx_then ?_
      refine jc_seq ?_
      refine jc_region ?_
      refine jo_f [(0, 0), (0, 0)] (by kernel_rfl) ?_
      obtain ⟨t_3, ht_8, h⟩ := bd h
      refine toO (by kernel_rfl) (p_call 0 18 #[(.slice aList2_a aList2.length aList2_c), (.int .i64 t_2)] (by kernel_rfl) (by kernel_rfl) (fun w hm => laws_szChoiceS.calls aList2 t_2 w _ aList2_a aList2.length aList2_c (hm.exRow aList2_h List.not_mem_nil) rfl ht_8) ?_)
      rintro w v w' hm ⟨rfl, hm'⟩
      refine ⟨_, hm.app hm', jkO ?_⟩
      clear hm hm'
      refine jo_f [(0, 0)] (by kernel_rfl) ?_
      refine jo_end (by kernel_rfl) ?_
      refine jx_then ?_
      refine jc_seq ?_
      refine jc_seq ?_
      refine jc_region ?_
      refine jo_f [(0, 0), (0, 0)] (by kernel_rfl) ?_
      refine jo_end (by kernel_rfl) ?_
      refine jx_then ?_
      refine jc_cond (decide (t_3 < 0)) (by kernel_rfl) (fun hc_10 => ?_) (fun hc_10 => ?_)
      · replace h := ifT hc_10 h
        refine jc_seq ?_
        refine jc_region ?_
        refine jo_f [(0, 0)] (by kernel_rfl) ?_
        refine jo_end (by kernel_rfl) ?_
        refine jx_then ?_
        refine jc_ret ?_
        refine jx_thenr ?_
        obtain rfl := Option.some.inj h
        exact jx_ret [] (.bool true) [] rfl (by kernel_rfl) (by kernel_rfl) (fun w hm => ⟨rfl, hm.pick [] (by kernel_rfl) (by kernel_rfl)⟩)
      · replace h := ifF hc_10 h
        refine jc_skip ?_
        refine jx_then ?_
        refine jc_seq ?_
        refine jc_region ?_
        refine jo_f [(0, 0)] (by kernel_rfl) ?_
        obtain ⟨t_4, ht_11, h⟩ := bd h
        refine toO (by kernel_rfl) (p_call 0 8 #[(.agg #[(.int .i16 aF0.fSteps), (.slice aF0_fHammers_a aF0.fHammers.length aF0_fHammers_c)])] (by kernel_rfl) (by kernel_rfl) (fun w hm => laws_toFrame.calls aF0 w _ aF0_fHammers_a aF0.fHammers.length aF0_fHammers_c (hm.exRow aF0_fHammers_h List.not_mem_nil) rfl ht_11) ?_)
        rintro w v w' hm ⟨o_12, cap_13, sp_14, _, rfl, hs_15, ho_16, rfl, hm'⟩
        refine ⟨_, hm.app hm', jkO ?_⟩
        clear hm hm'
        refine jo_f [(0, 0)] (by kernel_rfl) ?_
        obtain ⟨t_5, ht_17, h⟩ := bd h
        refine toO (by kernel_rfl) (p_call 0 20 #[(.slice aT1_a aT1.length aT1_c)] (by kernel_rfl) (by kernel_rfl) (fun w hm => laws_toTune.calls aT1 w _ aT1_a aT1.length aT1_c (hm.exRow aT1_h List.not_mem_nil) rfl ht_17) ?_)
        rintro w v w' hm ⟨o_18, cap_19, sp_20, _, rfl, hs_21, ho_22, rfl, hm'⟩
        refine ⟨_, hm.app hm', jkO ?_⟩
        clear hm hm'
        refine jo_f [(0, 0)] (by kernel_rfl) ?_
        obtain ⟨t_6, ht_23, h⟩ := bd h
        refine toO (by kernel_rfl) (p_call 0 21 #[(.slice aList2_a aList2.length aList2_c)] (by kernel_rfl) (by kernel_rfl) (fun w hm => laws_toChoiceS.calls aList2 w _ aList2_a aList2.length aList2_c (hm.exRow aList2_h List.not_mem_nil) rfl ht_23) ?_)
        rintro w v w' hm ⟨o_24, cap_25, sp_26, _, rfl, hs_27, ho_28, rfl, hm'⟩
        refine ⟨_, hm.app hm', jkO ?_⟩
        clear hm hm'
        obtain ⟨t_7, ht_29, h⟩ := bd h
        refine toO (by kernel_rfl) (p_call 0 19 #[(.agg #[(.int .i16 t_4.fSteps), (.slice (o_12.map fun b => ⟨b, 0, none⟩) t_4.fHammers.length cap_13)]), (.slice (o_18.map fun b => ⟨b, 0, none⟩) t_5.length cap_19), (.slice (o_24.map fun b => ⟨b, 0, none⟩) t_6.length cap_25)] (by kernel_rfl) (by kernel_rfl) (fun w hm => spec_HeardTune.calls t_4 t_5 t_6 w _ (o_12.map fun b => ⟨b, 0, none⟩) t_4.fHammers.length cap_13 (hm.ownRow (hh := 1) (o := o_12) (T := 119) (enc := encGHammer) (xs := t_4.fHammers) (sp := sp_14) (by kernel_rfl) (fun e => (ho_16 e).1) encGHammer_len) rfl (o_18.map fun b => ⟨b, 0, none⟩) t_5.length cap_19 (hm.ownRow (hh := 2) (o := o_18) (T := 95) (enc := encGNote) (xs := t_5) (sp := sp_20) (by kernel_rfl) (fun e => (ho_22 e).1) encGNote_len) rfl (o_24.map fun b => ⟨b, 0, none⟩) t_6.length cap_25 (hm.ownRow (hh := 3) (o := o_24) (T := 99) (enc := encGChoice) (xs := t_6) (sp := sp_26) (by kernel_rfl) (fun e => (ho_28 e).1) encGChoice_len) rfl ht_29) ?_)
        rintro w v w' hm ⟨o_30, cap_31, sp_32, _, rfl, hs_33, ho_34, rfl, hm'⟩
        refine ⟨_, hm.app hm', jkO ?_⟩
        clear hm hm'
        refine jo_f [(0, 0), (0, 0), (0, 0), (0, 0), (0, 0)] (by kernel_rfl) ?_
        refine jo_end (by kernel_rfl) ?_
        refine jx_then ?_
        refine jc_seq ?_
        refine jc_region ?_
        refine jo_f [(0, 0)] (by kernel_rfl) ?_
        obtain ⟨t_8, ht_35, h⟩ := bd h
        refine toO (by kernel_rfl) (p_call 0 8 #[(.agg #[(.int .i16 aF0.fSteps), (.slice aF0_fHammers_a aF0.fHammers.length aF0_fHammers_c)])] (by kernel_rfl) (by kernel_rfl) (fun w hm => laws_toFrame.calls aF0 w _ aF0_fHammers_a aF0.fHammers.length aF0_fHammers_c (hm.exRow aF0_fHammers_h List.not_mem_nil) rfl ht_35) ?_)
        rintro w v w' hm ⟨o_36, cap_37, sp_38, _, rfl, hs_39, ho_40, rfl, hm'⟩
        refine ⟨_, hm.app hm', jkO ?_⟩
        clear hm hm'
        refine toO (by kernel_rfl) (p_a 0 [0] (by kernel_rfl) (fun b => by kernel_rfl) (fun b_41 => jkO ?_))
        refine toO (by kernel_rfl) (p_s 0 [6] (by kernel_rfl) (by kernel_rfl) (jkO ?_))
        refine jo_end (by kernel_rfl) ?_
        refine jx_then ?_
        refine jc_seq ?_
        refine jc_region ?_
        refine jo_f [(0, 0)] (by kernel_rfl) ?_
        obtain ⟨t_9, ht_42, h⟩ := bd h
        refine toO (by kernel_rfl) (p_call 0 20 #[(.slice aT1_a aT1.length aT1_c)] (by kernel_rfl) (by kernel_rfl) (fun w hm => laws_toTune.calls aT1 w _ aT1_a aT1.length aT1_c (hm.exRow aT1_h List.not_mem_nil) rfl ht_42) ?_)
        rintro w v w' hm ⟨o_43, cap_44, sp_45, _, rfl, hs_46, ho_47, rfl, hm'⟩
        refine ⟨_, hm.app hm', jkO ?_⟩
        clear hm hm'
        refine jo_f [(0, 0)] (by kernel_rfl) ?_
        refine jo_end (by kernel_rfl) ?_
        refine jx_then ?_
        refine jc_seq ?_
        refine jc_region ?_
        refine jo_f [(0, 0)] (by kernel_rfl) ?_
        obtain ⟨t_10, ht_48, h⟩ := bd h
        refine toO (by kernel_rfl) (p_call 0 21 #[(.slice aList2_a aList2.length aList2_c)] (by kernel_rfl) (by kernel_rfl) (fun w hm => laws_toChoiceS.calls aList2 w _ aList2_a aList2.length aList2_c (hm.exRow aList2_h List.not_mem_nil) rfl ht_48) ?_)
        rintro w v w' hm ⟨o_49, cap_50, sp_51, _, rfl, hs_52, ho_53, rfl, hm'⟩
        refine ⟨_, hm.app hm', jkO ?_⟩
        clear hm hm'
        refine jo_f [(0, 0)] (by kernel_rfl) ?_
        refine jo_end (by kernel_rfl) ?_
        refine jx_then ?_
        refine jc_seq ?_
        refine jc_region ?_
        refine jo_f [(6, 0), (0, 0), (0, 0)] (by kernel_rfl) ?_
        obtain ⟨t_11, ht_54, h⟩ := bd h
        refine toO (by kernel_rfl) (p_call 0 22 #[(.agg #[(.int .i16 t_8.fSteps), (.slice (o_36.map fun b => ⟨b, 0, none⟩) t_8.fHammers.length cap_37)]), (.slice (o_43.map fun b => ⟨b, 0, none⟩) t_9.length cap_44), (.slice (o_49.map fun b => ⟨b, 0, none⟩) t_10.length cap_50)] (by kernel_rfl) (by kernel_rfl) (fun w hm => impl_HeardTune.calls t_8 t_9 t_10 w _ (o_36.map fun b => ⟨b, 0, none⟩) t_8.fHammers.length cap_37 (hm.ownRow (hh := 5) (o := o_36) (T := 119) (enc := encGHammer) (xs := t_8.fHammers) (sp := sp_38) (by kernel_rfl) (fun e => (ho_40 e).1) encGHammer_len) rfl (o_43.map fun b => ⟨b, 0, none⟩) t_9.length cap_44 (hm.ownRow (hh := 7) (o := o_43) (T := 95) (enc := encGNote) (xs := t_9) (sp := sp_45) (by kernel_rfl) (fun e => (ho_47 e).1) encGNote_len) rfl (o_49.map fun b => ⟨b, 0, none⟩) t_10.length cap_50 (hm.ownRow (hh := 8) (o := o_49) (T := 99) (enc := encGChoice) (xs := t_10) (sp := sp_51) (by kernel_rfl) (fun e => (ho_53 e).1) encGChoice_len) rfl ht_54) ?_)
        rintro w v w' hm ⟨o_55, cap_56, sp_57, _, rfl, hs_58, ho_59, rfl, hm'⟩
        refine ⟨_, hm.app hm', jkO ?_⟩
        clear hm hm'
        refine jo_f [(0, 0), (0, 0), (0, 0), (0, 0), (0, 0)] (by kernel_rfl) ?_
        refine jo_end (by kernel_rfl) ?_
        refine jx_then ?_
        refine jc_seq ?_
        refine jc_seq ?_
        refine jc_region ?_
        refine jo_f [(0, 0), (0, 0)] (by kernel_rfl) ?_
        obtain ⟨t_12, ht_64, h⟩ := bd h
        refine toO (by kernel_rfl) (p_call 0 23 #[(.slice (o_55.map fun b => ⟨b, 0, none⟩) t_11.1.length cap_56), (.slice (o_30.map fun b => ⟨b, 0, none⟩) t_7.1.length cap_31)] (by kernel_rfl) (by kernel_rfl) (fun w hm => laws_eqTune.calls t_11.1 t_7.1 w _ (o_55.map fun b => ⟨b, 0, none⟩) t_11.1.length cap_56 (hm.ownRow (hh := 9) (o := o_55) (T := 95) (enc := encGNote) (xs := t_11.1) (sp := sp_57) (by kernel_rfl) (fun e => (ho_59 e).1) encGNote_len) rfl (o_30.map fun b => ⟨b, 0, none⟩) t_7.1.length cap_31 (hm.ownRow (hh := 4) (o := o_30) (T := 95) (enc := encGNote) (xs := t_7.1) (sp := sp_32) (by kernel_rfl) (fun e => (ho_34 e).1) encGNote_len) rfl ht_64) ?_)
        rintro w v w' hm ⟨rfl, hm'⟩
        refine ⟨_, hm.app hm', jkO ?_⟩
        clear hm hm'
        refine jo_f [(0, 0), (0, 0), (0, 1), (0, 1), (0, 1), (0, 0)] (by kernel_rfl) ?_
        refine jo_end (by kernel_rfl) ?_
        refine jx_then ?_
        refine jc_cond ((!t_12) || (t_11.2 != t_7.2)) (by kernel_rfl) (fun hc_65 => ?_) (fun hc_65 => ?_)
        · replace h := ifT hc_65 h
          refine jc_seq ?_
          refine jc_region ?_
          refine jo_f [(0, 0)] (by kernel_rfl) ?_
          refine jo_end (by kernel_rfl) ?_
          refine jx_then ?_
          refine jc_ret ?_
          refine jx_thenr ?_
          obtain rfl := Option.some.inj h
          exact jx_ret [] (.bool false) [] rfl (by kernel_rfl) (by kernel_rfl) (fun w hm => ⟨rfl, hm.pick [] (by kernel_rfl) (by kernel_rfl)⟩)
        · replace h := ifF hc_65 h
          refine jc_skip ?_
          refine jx_then ?_
          refine jc_seq ?_
          refine jc_seq ?_
          refine jc_draw [⟨some b_1, 25, [(.int .i16 aF0.fSteps), (.slice aF0_fHammers_a aF0.fHammers.length aF0_fHammers_c)]⟩, ⟨o_12, 119, row encGHammer t_4.fHammers sp_14⟩, ⟨o_18, 95, row encGNote t_5 sp_20⟩, ⟨o_24, 99, row encGChoice t_6 sp_26⟩, ⟨o_30, 95, row encGNote t_7.1 sp_32⟩, ⟨some b_41, 42, [(.int .i16 t_8.fSteps), (.slice (o_36.map fun b => ⟨b, 0, none⟩) t_8.fHammers.length cap_37)]⟩] 5 (by kernel_rfl) (by kernel_rfl) ?_
          refine jd_f [⟨0, 5, 0⟩, ⟨1, 0, 0⟩] 3 (by kernel_rfl) (by kernel_rfl) (fun w h => h.pick [0, 1, 2, 3, 4, 6] (by kernel_rfl) (by kernel_rfl)) (by kernel_rfl) (by kernel_rfl) ?_
          obtain ⟨t_13, ht_274, h⟩ := bd h
          refine toD 2 (by kernel_rfl) (p_call 0 8 #[(.agg #[(.int .i16 aF0.fSteps), (.slice aF0_fHammers_a aF0.fHammers.length aF0_fHammers_c)])] (by kernel_rfl) (by kernel_rfl) (fun w hm => laws_toFrame.calls aF0 w _ aF0_fHammers_a aF0.fHammers.length aF0_fHammers_c (hm.exRow aF0_fHammers_h List.not_mem_nil) rfl ht_274) ?_)
          rintro w v w' hm ⟨o_275, cap_276, sp_277, _, rfl, hs_278, ho_279, rfl, hm'⟩
          refine ⟨_, hm.app hm', jkD (fun w h => h.pick [0, 1, 2, 3, 4, 6] (by kernel_rfl) (by kernel_rfl)) ?_⟩
          clear hm hm'
          obtain ⟨t_14, ht_280, h⟩ := bd h
          refine toD 3 (by kernel_rfl) (p_call 0 13 #[(.agg #[(.int .i16 t_8.fSteps), (.slice (o_36.map fun b => ⟨b, 0, none⟩) t_8.fHammers.length cap_37)]), (.agg #[(.int .i16 t_13.fSteps), (.slice (o_275.map fun b => ⟨b, 0, none⟩) t_13.fHammers.length cap_276)])] (by kernel_rfl) (by kernel_rfl) (fun w hm => laws_eqFrame.calls t_8 t_13 w _ (o_36.map fun b => ⟨b, 0, none⟩) t_8.fHammers.length cap_37 (hm.ownRow (hh := 5) (o := o_36) (T := 119) (enc := encGHammer) (xs := t_8.fHammers) (sp := sp_38) (by kernel_rfl) (fun e => (ho_40 e).1) encGHammer_len) rfl (o_275.map fun b => ⟨b, 0, none⟩) t_13.fHammers.length cap_276 (hm.ownRow (hh := 10) (o := o_275) (T := 119) (enc := encGHammer) (xs := t_13.fHammers) (sp := sp_277) (by kernel_rfl) (fun e => (ho_279 e).1) encGHammer_len) rfl ht_280) ?_)
          rintro w v w' hm ⟨rfl, hm'⟩
          refine ⟨_, hm.app hm', jkD (fun w h => h.pick [0, 1, 2, 3, 4, 6] (by kernel_rfl) (by kernel_rfl)) ?_⟩
          clear hm hm'
          refine jd_f [⟨4, 0, 0⟩] 0 (by kernel_rfl) (by kernel_rfl) (fun w h => h.pick [0, 1, 2, 3, 4, 6] (by kernel_rfl) (by kernel_rfl)) (by kernel_rfl) (by kernel_rfl) ?_
          refine jd_end (by kernel_rfl) ?_
          refine jx_then ?_
          refine jc_cond (!t_14) (by kernel_rfl) (fun hc_281 => ?_) (fun hc_281 => ?_)
          · replace h := ifT hc_281 h
            refine jc_seq ?_
            refine jc_region ?_
            refine jo_f [(0, 0)] (by kernel_rfl) ?_
            refine jo_end (by kernel_rfl) ?_
            refine jx_then ?_
            refine jc_ret ?_
            refine jx_thenr ?_
            obtain rfl := Option.some.inj h
            exact jx_ret [] (.bool false) [] rfl (by kernel_rfl) (by kernel_rfl) (fun w hm => ⟨rfl, hm.pick [] (by kernel_rfl) (by kernel_rfl)⟩)
          · replace h := ifF hc_281 h
            refine jc_skip ?_
            refine jx_then ?_
            refine jc_seq ?_
            refine jc_seq ?_
            refine jc_region ?_
            refine jo_f [(0, 0), (0, 0)] (by kernel_rfl) ?_
            obtain ⟨t_15, ht_290, h⟩ := bd h
            refine toO (by kernel_rfl) (p_call 0 20 #[(.slice aT1_a aT1.length aT1_c)] (by kernel_rfl) (by kernel_rfl) (fun w hm => laws_toTune.calls aT1 w _ aT1_a aT1.length aT1_c (hm.exRow aT1_h List.not_mem_nil) rfl ht_290) ?_)
            rintro w v w' hm ⟨o_291, cap_292, sp_293, _, rfl, hs_294, ho_295, rfl, hm'⟩
            refine ⟨_, hm.app hm', jkO ?_⟩
            clear hm hm'
            obtain ⟨t_16, ht_296, h⟩ := bd h
            refine toO (by kernel_rfl) (p_call 0 23 #[(.slice (o_43.map fun b => ⟨b, 0, none⟩) t_9.length cap_44), (.slice (o_291.map fun b => ⟨b, 0, none⟩) t_15.length cap_292)] (by kernel_rfl) (by kernel_rfl) (fun w hm => laws_eqTune.calls t_9 t_15 w _ (o_43.map fun b => ⟨b, 0, none⟩) t_9.length cap_44 (hm.ownRow (hh := 7) (o := o_43) (T := 95) (enc := encGNote) (xs := t_9) (sp := sp_45) (by kernel_rfl) (fun e => (ho_47 e).1) encGNote_len) rfl (o_291.map fun b => ⟨b, 0, none⟩) t_15.length cap_292 (hm.ownRow (hh := 11) (o := o_291) (T := 95) (enc := encGNote) (xs := t_15) (sp := sp_293) (by kernel_rfl) (fun e => (ho_295 e).1) encGNote_len) rfl ht_296) ?_)
            rintro w v w' hm ⟨rfl, hm'⟩
            refine ⟨_, hm.app hm', jkO ?_⟩
            clear hm hm'
            refine jo_f [(0, 0)] (by kernel_rfl) ?_
            refine jo_end (by kernel_rfl) ?_
            refine jx_then ?_
            refine jc_cond (!t_16) (by kernel_rfl) (fun hc_297 => ?_) (fun hc_297 => ?_)
            · replace h := ifT hc_297 h
              refine jc_seq ?_
              refine jc_region ?_
              refine jo_f [(0, 0)] (by kernel_rfl) ?_
              refine jo_end (by kernel_rfl) ?_
              refine jx_then ?_
              refine jc_ret ?_
              refine jx_thenr ?_
              obtain rfl := Option.some.inj h
              exact jx_ret [] (.bool false) [] rfl (by kernel_rfl) (by kernel_rfl) (fun w hm => ⟨rfl, hm.pick [] (by kernel_rfl) (by kernel_rfl)⟩)
            · replace h := ifF hc_297 h
              refine jc_skip ?_
              refine jx_then ?_
              refine jc_seq ?_
              refine jc_seq ?_
              refine jc_region ?_
              refine jo_f [(0, 0), (0, 0)] (by kernel_rfl) ?_
              obtain ⟨t_17, ht_306, h⟩ := bd h
              refine toO (by kernel_rfl) (p_call 0 21 #[(.slice aList2_a aList2.length aList2_c)] (by kernel_rfl) (by kernel_rfl) (fun w hm => laws_toChoiceS.calls aList2 w _ aList2_a aList2.length aList2_c (hm.exRow aList2_h List.not_mem_nil) rfl ht_306) ?_)
              rintro w v w' hm ⟨o_307, cap_308, sp_309, _, rfl, hs_310, ho_311, rfl, hm'⟩
              refine ⟨_, hm.app hm', jkO ?_⟩
              clear hm hm'
              obtain ⟨t_18, ht_312, h⟩ := bd h
              refine toO (by kernel_rfl) (p_call 0 24 #[(.slice (o_49.map fun b => ⟨b, 0, none⟩) t_10.length cap_50), (.slice (o_307.map fun b => ⟨b, 0, none⟩) t_17.length cap_308)] (by kernel_rfl) (by kernel_rfl) (fun w hm => laws_eqChoiceS.calls t_10 t_17 w _ (o_49.map fun b => ⟨b, 0, none⟩) t_10.length cap_50 (hm.ownRow (hh := 8) (o := o_49) (T := 99) (enc := encGChoice) (xs := t_10) (sp := sp_51) (by kernel_rfl) (fun e => (ho_53 e).1) encGChoice_len) rfl (o_307.map fun b => ⟨b, 0, none⟩) t_17.length cap_308 (hm.ownRow (hh := 12) (o := o_307) (T := 99) (enc := encGChoice) (xs := t_17) (sp := sp_309) (by kernel_rfl) (fun e => (ho_311 e).1) encGChoice_len) rfl ht_312) ?_)
              rintro w v w' hm ⟨rfl, hm'⟩
              refine ⟨_, hm.app hm', jkO ?_⟩
              clear hm hm'
              refine jo_f [(0, 0)] (by kernel_rfl) ?_
              refine jo_end (by kernel_rfl) ?_
              refine jx_then ?_
              refine jc_cond (!t_18) (by kernel_rfl) (fun hc_313 => ?_) (fun hc_313 => ?_)
              · replace h := ifT hc_313 h
                refine jc_seq ?_
                refine jc_region ?_
                refine jo_f [(0, 0)] (by kernel_rfl) ?_
                refine jo_end (by kernel_rfl) ?_
                refine jx_then ?_
                refine jc_ret ?_
                refine jx_thenr ?_
                obtain rfl := Option.some.inj h
                exact jx_ret [] (.bool false) [] rfl (by kernel_rfl) (by kernel_rfl) (fun w hm => ⟨rfl, hm.pick [] (by kernel_rfl) (by kernel_rfl)⟩)
              · replace h := ifF hc_313 h
                refine jc_skip ?_
                refine jx_then ?_
                refine jc_seq ?_
                refine jc_region ?_
                refine jo_f [(0, 0)] (by kernel_rfl) ?_
                refine jo_end (by kernel_rfl) ?_
                refine jx_then ?_
                refine jc_seq ?_
                refine jc_region ?_
                refine jo_f [(6, 0), (0, 0)] (by kernel_rfl) ?_
                obtain ⟨t_19, ht_314, h⟩ := bd h
                refine toO (by kernel_rfl) (p_call 0 14 #[(.agg #[(.int .i16 t_8.fSteps), (.slice (o_36.map fun b => ⟨b, 0, none⟩) t_8.fHammers.length cap_37)]), (.int .i64 1)] (by kernel_rfl) (by kernel_rfl) (fun w hm => laws_markFrame.calls t_8 1 w _ o_36 t_8.fHammers.length cap_37 sp_38 rfl hs_39 ho_40 (hm.pass (N := [⟨o_36, 119, row encGHammer t_8.fHammers sp_38⟩]) [5] (by kernel_rfl) (by kernel_rfl)) ht_314) ?_)
                rintro w v w' hm ⟨hn_315, ho_316, rfl, hm'⟩
                refine ⟨_, hm.appW (ps := [(5, ⟨o_36, 119, row encGHammer t_19.2 sp_38⟩)]) (N := []) hm' (by kernel_rfl) (by kernel_rfl), jkO ?_⟩
                clear hm hm'
                refine jo_f [(0, 0)] (by kernel_rfl) ?_
                refine jo_end (by kernel_rfl) ?_
                refine jx_then ?_
                refine jc_seq ?_
                refine jc_region ?_
                refine jo_f [(0, 0), (0, 0)] (by kernel_rfl) ?_
                obtain ⟨t_20, ht_317, h⟩ := bd h
                refine toO (by kernel_rfl) (p_call 0 25 #[(.slice (o_43.map fun b => ⟨b, 0, none⟩) t_9.length cap_44), (.int .i64 t_19.1)] (by kernel_rfl) (by kernel_rfl) (fun w hm => laws_markTune.calls t_9 t_19.1 w _ o_43 t_9.length cap_44 sp_45 rfl hs_46 ho_47 (hm.pass (N := [⟨o_43, 95, row encGNote t_9 sp_45⟩]) [7] (by kernel_rfl) (by kernel_rfl)) ht_317) ?_)
                rintro w v w' hm ⟨hn_318, ho_319, rfl, hm'⟩
                refine ⟨_, hm.appW (ps := [(7, ⟨o_43, 95, row encGNote t_20.2 sp_45⟩)]) (N := []) hm' (by kernel_rfl) (by kernel_rfl), jkO ?_⟩
                clear hm hm'
                refine jo_f [(0, 0)] (by kernel_rfl) ?_
                refine jo_end (by kernel_rfl) ?_
                refine jx_then ?_
                refine jc_seq ?_
                refine jc_region ?_
                refine jo_f [(0, 0), (0, 0)] (by kernel_rfl) ?_
                obtain ⟨t_21, ht_320, h⟩ := bd h
                refine toO (by kernel_rfl) (p_call 0 26 #[(.slice (o_49.map fun b => ⟨b, 0, none⟩) t_10.length cap_50), (.int .i64 t_20.1)] (by kernel_rfl) (by kernel_rfl) (fun w hm => laws_markChoiceS.calls t_10 t_20.1 w _ o_49 t_10.length cap_50 sp_51 rfl hs_52 ho_53 (hm.pass (N := [⟨o_49, 99, row encGChoice t_10 sp_51⟩]) [8] (by kernel_rfl) (by kernel_rfl)) ht_320) ?_)
                rintro w v w' hm ⟨hn_321, ho_322, rfl, hm'⟩
                refine ⟨_, hm.appW (ps := [(8, ⟨o_49, 99, row encGChoice t_21.2 sp_51⟩)]) (N := []) hm' (by kernel_rfl) (by kernel_rfl), jkO ?_⟩
                clear hm hm'
                refine jo_f [(0, 0)] (by kernel_rfl) ?_
                refine jo_end (by kernel_rfl) ?_
                refine jx_then ?_
                refine jc_seq ?_
                refine jc_seq ?_
                refine jc_meet (fun (j : Bool) => match j with | q_22 => laws_FnExactHeardTune.k_23 aF0 aT1 aList2 t_7 t_11 q_22 = some r) (fun (j : Bool) => match j with | q_22 => [(1, [], (.slice aT1_a aT1.length aT1_c)), (2, [], (.slice aList2_a aList2.length aList2_c)), (3, [], (.pointer (some ⟨b_1, 0, none⟩))), (6, [], (.bool false)), (8, [], (.slice (o_30.map fun b => ⟨b, 0, none⟩) t_7.1.length cap_31)), (9, [], (.int .i64 t_7.2)), (13, [], (.slice (o_55.map fun b => ⟨b, 0, none⟩) t_11.1.length cap_56)), (103, [], (.bool q_22))]) (fun (j : Bool) => match j with | q_22 => [⟨some b_1, 25, [(.int .i16 aF0.fSteps), (.slice aF0_fHammers_a aF0.fHammers.length aF0_fHammers_c)]⟩, ⟨o_12, 119, row encGHammer t_4.fHammers sp_14⟩, ⟨o_18, 95, row encGNote t_5 sp_20⟩, ⟨o_24, 99, row encGChoice t_6 sp_26⟩, ⟨o_30, 95, row encGNote t_7.1 sp_32⟩, ⟨o_36, 119, row encGHammer t_19.2 sp_38⟩, ⟨some b_41, 42, [(.int .i16 t_8.fSteps), (.slice (o_36.map fun b => ⟨b, 0, none⟩) t_8.fHammers.length cap_37)]⟩, ⟨o_43, 95, row encGNote t_20.2 sp_45⟩, ⟨o_49, 99, row encGChoice t_21.2 sp_51⟩, ⟨o_55, 95, row encGNote t_11.1 sp_57⟩, ⟨o_275, 119, row encGHammer t_13.fHammers sp_277⟩, ⟨o_291, 95, row encGNote t_15 sp_293⟩, ⟨o_307, 99, row encGChoice t_17 sp_309⟩]) ?_ ?_
                · refine jc_region ?_
                  refine jo_f [(0, 0), (0, 0), (0, 0), (0, 1), (0, 1)] (by kernel_rfl) ?_
                  refine jo_split 93 (decide (t_21.1 < 0)) (by kernel_rfl) (fun hc_373 => ?_) (fun hc_373 => ?_)
                  · replace h := ifT hc_373 h
                    refine jo_f [(0, 3), (0, 3), (0, 4), (0, 0), (0, 3), (0, 3), (0, 3), (0, 4)] (by kernel_rfl) ?_
                    refine jo_end (by kernel_rfl) ?_
                    exact jx_meet true h (by kernel_rfl) [0, 1, 2, 3, 4, 5, 6, 7, 8, 9, 10, 11, 12] (by kernel_rfl) (by kernel_rfl)
                  · replace h := ifF hc_373 h
                    obtain ⟨t_32, ht_374, h⟩ := bd h
                    refine toO (by kernel_rfl) (p_call 2 23 #[(.slice (o_55.map fun b => ⟨b, 0, none⟩) t_11.1.length cap_56), (.slice (o_30.map fun b => ⟨b, 0, none⟩) t_7.1.length cap_31)] (by kernel_rfl) (by kernel_rfl) (fun w hm => laws_eqTune.calls t_11.1 t_7.1 w _ (o_55.map fun b => ⟨b, 0, none⟩) t_11.1.length cap_56 (hm.ownRow (hh := 9) (o := o_55) (T := 95) (enc := encGNote) (xs := t_11.1) (sp := sp_57) (by kernel_rfl) (fun e => (ho_59 e).1) encGNote_len) rfl (o_30.map fun b => ⟨b, 0, none⟩) t_7.1.length cap_31 (hm.ownRow (hh := 4) (o := o_30) (T := 95) (enc := encGNote) (xs := t_7.1) (sp := sp_32) (by kernel_rfl) (fun e => (ho_34 e).1) encGNote_len) rfl ht_374) ?_)
                    rintro w v w' hm ⟨rfl, hm'⟩
                    refine ⟨_, hm.app hm', jkO ?_⟩
                    clear hm hm'
                    refine jo_f [(0, 2), (0, 5), (0, 0), (0, 1), (0, 1), (0, 1), (0, 0)] (by kernel_rfl) ?_
                    refine jo_end (by kernel_rfl) ?_
                    exact jx_meet ((!t_32) || (t_11.2 != t_7.2)) h (by kernel_rfl) [0, 1, 2, 3, 4, 5, 6, 7, 8, 9, 10, 11, 12] (by kernel_rfl) (by kernel_rfl)
                · rintro q_22 h
                  replace h : laws_FnExactHeardTune.k_23 aF0 aT1 aList2 t_7 t_11 q_22 = some r := h
                  rw [laws_FnExactHeardTune.k_23] at h
                  refine jx_then ?_
                  refine jc_cond q_22 (by kernel_rfl) (fun hc_330 => ?_) (fun hc_330 => ?_)
                  · replace h := ifT hc_330 h
                    refine jc_seq ?_
                    refine jc_region ?_
                    refine jo_f [(0, 0)] (by kernel_rfl) ?_
                    refine jo_end (by kernel_rfl) ?_
                    refine jx_then ?_
                    refine jc_ret ?_
                    refine jx_thenr ?_
                    obtain rfl := Option.some.inj h
                    exact jx_ret [] (.bool false) [] rfl (by kernel_rfl) (by kernel_rfl) (fun w hm => ⟨rfl, hm.pick [] (by kernel_rfl) (by kernel_rfl)⟩)
                  · replace h := ifF hc_330 h
                    refine jc_skip ?_
                    refine jx_then ?_
                    refine jc_seq ?_
                    refine jc_region ?_
                    refine jo_f [(0, 0)] (by kernel_rfl) ?_
                    refine jo_end (by kernel_rfl) ?_
                    refine jx_then ?_
                    refine jc_seq ?_
                    refine jc_region ?_
                    refine jo_f [(0, 0), (0, 0)] (by kernel_rfl) ?_
                    obtain ⟨t_24, ht_331, h⟩ := bd h
                    refine toO (by kernel_rfl) (p_call 0 25 #[(.slice (o_55.map fun b => ⟨b, 0, none⟩) t_11.1.length cap_56), (.int .i64 1)] (by kernel_rfl) (by kernel_rfl) (fun w hm => laws_markTune.calls t_11.1 1 w _ o_55 t_11.1.length cap_56 sp_57 rfl hs_58 ho_59 (hm.pass (N := [⟨o_55, 95, row encGNote t_11.1 sp_57⟩]) [9] (by kernel_rfl) (by kernel_rfl)) ht_331) ?_)
                    rintro w v w' hm ⟨hn_332, ho_333, rfl, hm'⟩
                    refine ⟨_, hm.appW (ps := [(9, ⟨o_55, 95, row encGNote t_24.2 sp_57⟩)]) (N := []) hm' (by kernel_rfl) (by kernel_rfl), jkO ?_⟩
                    clear hm hm'
                    refine jo_f [(0, 0)] (by kernel_rfl) ?_
                    refine jo_end (by kernel_rfl) ?_
                    refine jx_then ?_
                    refine jc_seq ?_
                    refine jc_region ?_
                    refine jo_f [(0, 0)] (by kernel_rfl) ?_
                    refine jo_end (by kernel_rfl) ?_
                    refine jx_then ?_
                    refine jc_seq ?_
                    refine jc_region ?_
                    refine jo_f [(0, 0), (0, 0)] (by kernel_rfl) ?_
                    obtain ⟨t_25, ht_334, h⟩ := bd h
                    refine toO (by kernel_rfl) (p_call 0 27 #[(.slice (o_55.map fun b => ⟨b, 0, none⟩) t_11.1.length cap_56), (.int .i64 1)] (by kernel_rfl) (by kernel_rfl) (fun w hm => laws_heldTune.calls t_24.2 1 w _ (o_55.map fun b => ⟨b, 0, none⟩) t_11.1.length cap_56 (hm.ownRow (hh := 9) (o := o_55) (T := 95) (enc := encGNote) (xs := t_24.2) (sp := sp_57) (by kernel_rfl) (fun e => (ho_333 e).1) encGNote_len) hn_332 ht_334) ?_)
                    rintro w v w' hm ⟨rfl, hm'⟩
                    refine ⟨_, hm.app hm', jkO ?_⟩
                    clear hm hm'
                    refine jo_f [(0, 0)] (by kernel_rfl) ?_
                    refine jo_end (by kernel_rfl) ?_
                    refine jx_then ?_
                    refine jc_seq ?_
                    refine jc_seq ?_
                    refine jc_region ?_
                    refine jo_f [(0, 0), (0, 0)] (by kernel_rfl) ?_
                    refine jo_end (by kernel_rfl) ?_
                    refine jx_then ?_
                    refine jc_cond (decide (t_25 < 0)) (by kernel_rfl) (fun hc_336 => ?_) (fun hc_336 => ?_)
                    · replace h := ifT hc_336 h
                      refine jc_seq ?_
                      refine jc_region ?_
                      refine jo_f [(0, 0)] (by kernel_rfl) ?_
                      refine jo_end (by kernel_rfl) ?_
                      refine jx_then ?_
                      refine jc_ret ?_
                      refine jx_thenr ?_
                      obtain rfl := Option.some.inj h
                      exact jx_ret [] (.bool false) [] rfl (by kernel_rfl) (by kernel_rfl) (fun w hm => ⟨rfl, hm.pick [] (by kernel_rfl) (by kernel_rfl)⟩)
                    · replace h := ifF hc_336 h
                      refine jc_skip ?_
                      refine jx_then ?_
                      refine jc_seq ?_
                      refine jc_seq ?_
                      refine jc_region ?_
                      refine jo_f [(0, 0), (0, 0), (0, 0)] (by kernel_rfl) ?_
                      refine jo_end (by kernel_rfl) ?_
                      refine jx_then ?_
                      refine jc_cond (t_25 != t_24.1) (by kernel_rfl) (fun hc_338 => ?_) (fun hc_338 => ?_)
                      · replace h := ifT hc_338 h
                        refine jc_seq ?_
                        refine jc_region ?_
                        refine jo_f [(0, 0)] (by kernel_rfl) ?_
                        refine jo_end (by kernel_rfl) ?_
                        refine jx_then ?_
                        refine jc_ret ?_
                        refine jx_thenr ?_
                        obtain rfl := Option.some.inj h
                        exact jx_ret [] (.bool false) [] rfl (by kernel_rfl) (by kernel_rfl) (fun w hm => ⟨rfl, hm.pick [] (by kernel_rfl) (by kernel_rfl)⟩)
                      · replace h := ifF hc_338 h
                        refine jc_skip ?_
                        refine jx_then ?_
                        refine jc_seq ?_
                        refine jc_region ?_
                        refine jo_f [(0, 0)] (by kernel_rfl) ?_
                        obtain ⟨t_26, ht_339, h⟩ := bd h
                        refine toO (by kernel_rfl) (p_call 0 8 #[(.agg #[(.int .i16 aF0.fSteps), (.slice aF0_fHammers_a aF0.fHammers.length aF0_fHammers_c)])] (by kernel_rfl) (by kernel_rfl) (fun w hm => laws_toFrame.calls aF0 w _ aF0_fHammers_a aF0.fHammers.length aF0_fHammers_c (hm.exRow aF0_fHammers_h List.not_mem_nil) rfl ht_339) ?_)
                        rintro w v w' hm ⟨o_340, cap_341, sp_342, _, rfl, hs_343, ho_344, rfl, hm'⟩
                        refine ⟨_, hm.app hm', jkO ?_⟩
                        clear hm hm'
                        refine jo_f [(0, 0)] (by kernel_rfl) ?_
                        obtain ⟨t_27, ht_345, h⟩ := bd h
                        refine toO (by kernel_rfl) (p_call 0 20 #[(.slice aT1_a aT1.length aT1_c)] (by kernel_rfl) (by kernel_rfl) (fun w hm => laws_toTune.calls aT1 w _ aT1_a aT1.length aT1_c (hm.exRow aT1_h List.not_mem_nil) rfl ht_345) ?_)
                        rintro w v w' hm ⟨o_346, cap_347, sp_348, _, rfl, hs_349, ho_350, rfl, hm'⟩
                        refine ⟨_, hm.app hm', jkO ?_⟩
                        clear hm hm'
                        refine jo_f [(0, 0)] (by kernel_rfl) ?_
                        obtain ⟨t_28, ht_351, h⟩ := bd h
                        refine toO (by kernel_rfl) (p_call 0 21 #[(.slice aList2_a aList2.length aList2_c)] (by kernel_rfl) (by kernel_rfl) (fun w hm => laws_toChoiceS.calls aList2 w _ aList2_a aList2.length aList2_c (hm.exRow aList2_h List.not_mem_nil) rfl ht_351) ?_)
                        rintro w v w' hm ⟨o_352, cap_353, sp_354, _, rfl, hs_355, ho_356, rfl, hm'⟩
                        refine ⟨_, hm.app hm', jkO ?_⟩
                        clear hm hm'
                        obtain ⟨t_29, ht_357, h⟩ := bd h
                        refine toO (by kernel_rfl) (p_call 0 22 #[(.agg #[(.int .i16 t_26.fSteps), (.slice (o_340.map fun b => ⟨b, 0, none⟩) t_26.fHammers.length cap_341)]), (.slice (o_346.map fun b => ⟨b, 0, none⟩) t_27.length cap_347), (.slice (o_352.map fun b => ⟨b, 0, none⟩) t_28.length cap_353)] (by kernel_rfl) (by kernel_rfl) (fun w hm => impl_HeardTune.calls t_26 t_27 t_28 w _ (o_340.map fun b => ⟨b, 0, none⟩) t_26.fHammers.length cap_341 (hm.ownRow (hh := 13) (o := o_340) (T := 119) (enc := encGHammer) (xs := t_26.fHammers) (sp := sp_342) (by kernel_rfl) (fun e => (ho_344 e).1) encGHammer_len) rfl (o_346.map fun b => ⟨b, 0, none⟩) t_27.length cap_347 (hm.ownRow (hh := 14) (o := o_346) (T := 95) (enc := encGNote) (xs := t_27) (sp := sp_348) (by kernel_rfl) (fun e => (ho_350 e).1) encGNote_len) rfl (o_352.map fun b => ⟨b, 0, none⟩) t_28.length cap_353 (hm.ownRow (hh := 15) (o := o_352) (T := 99) (enc := encGChoice) (xs := t_28) (sp := sp_354) (by kernel_rfl) (fun e => (ho_356 e).1) encGChoice_len) rfl ht_357) ?_)
                        rintro w v w' hm ⟨o_358, cap_359, sp_360, _, rfl, hs_361, ho_362, rfl, hm'⟩
                        refine ⟨_, hm.app hm', jkO ?_⟩
                        clear hm hm'
                        refine jo_f [(0, 0), (0, 0), (0, 0), (0, 0), (0, 0)] (by kernel_rfl) ?_
                        refine jo_end (by kernel_rfl) ?_
                        refine jx_then ?_
                        refine jc_seq ?_
                        refine jc_seq ?_
                        refine jc_region ?_
                        refine jo_f [(0, 0), (0, 0)] (by kernel_rfl) ?_
                        obtain ⟨t_30, ht_367, h⟩ := bd h
                        refine toO (by kernel_rfl) (p_call 0 23 #[(.slice (o_358.map fun b => ⟨b, 0, none⟩) t_29.1.length cap_359), (.slice (o_30.map fun b => ⟨b, 0, none⟩) t_7.1.length cap_31)] (by kernel_rfl) (by kernel_rfl) (fun w hm => laws_eqTune.calls t_29.1 t_7.1 w _ (o_358.map fun b => ⟨b, 0, none⟩) t_29.1.length cap_359 (hm.ownRow (hh := 16) (o := o_358) (T := 95) (enc := encGNote) (xs := t_29.1) (sp := sp_360) (by kernel_rfl) (fun e => (ho_362 e).1) encGNote_len) rfl (o_30.map fun b => ⟨b, 0, none⟩) t_7.1.length cap_31 (hm.ownRow (hh := 4) (o := o_30) (T := 95) (enc := encGNote) (xs := t_7.1) (sp := sp_32) (by kernel_rfl) (fun e => (ho_34 e).1) encGNote_len) rfl ht_367) ?_)
                        rintro w v w' hm ⟨rfl, hm'⟩
                        refine ⟨_, hm.app hm', jkO ?_⟩
                        clear hm hm'
                        refine jo_f [(0, 0), (0, 0), (0, 1), (0, 1), (0, 1), (0, 0)] (by kernel_rfl) ?_
                        refine jo_end (by kernel_rfl) ?_
                        refine jx_then ?_
                        refine jc_cond ((!t_30) || (t_29.2 != t_7.2)) (by kernel_rfl) (fun hc_368 => ?_) (fun hc_368 => ?_)
                        · replace h := ifT hc_368 h
                          refine jc_seq ?_
                          refine jc_region ?_
                          refine jo_f [(0, 0)] (by kernel_rfl) ?_
                          refine jo_end (by kernel_rfl) ?_
                          refine jx_then ?_
                          refine jc_ret ?_
                          refine jx_thenr ?_
                          obtain rfl := Option.some.inj h
                          exact jx_ret [] (.bool false) [] rfl (by kernel_rfl) (by kernel_rfl) (fun w hm => ⟨rfl, hm.pick [] (by kernel_rfl) (by kernel_rfl)⟩)
                        · replace h := ifF hc_368 h
                          refine jc_skip ?_
                          refine jx_then ?_
                          refine jc_seq ?_
                          refine jc_region ?_
                          refine jo_f [(0, 0)] (by kernel_rfl) ?_
                          refine jo_end (by kernel_rfl) ?_
                          refine jx_then ?_
                          refine jc_seq ?_
                          refine jc_region ?_
                          refine jo_f [(0, 0), (0, 0)] (by kernel_rfl) ?_
                          obtain ⟨t_31, ht_369, h⟩ := bd h
                          refine toO (by kernel_rfl) (p_call 0 27 #[(.slice (o_55.map fun b => ⟨b, 0, none⟩) t_11.1.length cap_56), (.int .i64 1)] (by kernel_rfl) (by kernel_rfl) (fun w hm => laws_heldTune.calls t_24.2 1 w _ (o_55.map fun b => ⟨b, 0, none⟩) t_11.1.length cap_56 (hm.ownRow (hh := 9) (o := o_55) (T := 95) (enc := encGNote) (xs := t_24.2) (sp := sp_57) (by kernel_rfl) (fun e => (ho_333 e).1) encGNote_len) hn_332 ht_369) ?_)
                          rintro w v w' hm ⟨rfl, hm'⟩
                          refine ⟨_, hm.app hm', jkO ?_⟩
                          clear hm hm'
                          refine jo_f [(0, 0)] (by kernel_rfl) ?_
                          refine jo_end (by kernel_rfl) ?_
                          refine jx_then ?_
                          refine jc_seq ?_
                          refine jc_seq ?_
                          refine jc_region ?_
                          refine jo_f [(0, 0), (0, 0)] (by kernel_rfl) ?_
                          refine jo_end (by kernel_rfl) ?_
                          refine jx_then ?_
                          refine jc_cond (decide (t_31 < 0)) (by kernel_rfl) (fun hc_371 => ?_) (fun hc_371 => ?_)
                          · replace h := ifT hc_371 h
                            refine jc_seq ?_
                            refine jc_region ?_
                            refine jo_f [(0, 0)] (by kernel_rfl) ?_
                            refine jo_end (by kernel_rfl) ?_
                            refine jx_then ?_
                            refine jc_ret ?_
                            refine jx_thenr ?_
                            obtain rfl := Option.some.inj h
                            exact jx_ret [] (.bool false) [] rfl (by kernel_rfl) (by kernel_rfl) (fun w hm => ⟨rfl, hm.pick [] (by kernel_rfl) (by kernel_rfl)⟩)
                          · replace h := ifF hc_371 h
                            refine jc_skip ?_
                            refine jx_then ?_
                            refine jc_seq ?_
                            refine jc_seq ?_
                            refine jc_region ?_
                            refine jo_f [(0, 0), (0, 0), (0, 0)] (by kernel_rfl) ?_
                            refine jo_end (by kernel_rfl) ?_
                            refine jx_then ?_
                            refine jc_cond (t_31 != t_24.1) (by kernel_rfl) (fun hc_372 => ?_) (fun hc_372 => ?_)
                            · replace h := ifT hc_372 h
                              refine jc_seq ?_
                              refine jc_region ?_
                              refine jo_f [(0, 0)] (by kernel_rfl) ?_
                              refine jo_end (by kernel_rfl) ?_
                              refine jx_then ?_
                              refine jc_ret ?_
                              refine jx_thenr ?_
                              obtain rfl := Option.some.inj h
                              exact jx_ret [] (.bool false) [] rfl (by kernel_rfl) (by kernel_rfl) (fun w hm => ⟨rfl, hm.pick [] (by kernel_rfl) (by kernel_rfl)⟩)
                            · replace h := ifF hc_372 h
                              refine jc_skip ?_
                              refine jx_then ?_
                              refine jc_seq ?_
                              refine jc_region ?_
                              refine jo_f [(0, 0)] (by kernel_rfl) ?_
                              refine jo_end (by kernel_rfl) ?_
                              refine jx_then ?_
                              refine jc_ret ?_
                              obtain rfl := Option.some.inj h
                              exact jx_ret [] (.bool true) [] rfl (by kernel_rfl) (by kernel_rfl) (fun w hm => ⟨rfl, hm.pick [] (by kernel_rfl) (by kernel_rfl)⟩)
end Go.Proofs.YtilackblefjgdaaGreat
