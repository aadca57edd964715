/- Functions of the program that the laws reach: a plain function each, and that the call comes to its answer if the plain function has one. Printed by a program. -/
import Derived.Test.YtdnkjgmncfhejaaT
import Derived.Test.YtdnkjgmncfhejaaM0
import Derived.Test.YtdnkjgmncfhejaaM1
import Derived.Test.YtdnkjgmncfhejaaM6
import Derived.Test.YtdnkjgmncfhejaaM9
import Derived.Test.YtdnkjgmncfhejaaM25
namespace Go.Proofs.Ytdnkjgmncfhejaa
open Eng
set_option linter.unusedVariables false

/-! ### laws.FnExactLeastEach -/
noncomputable def laws_FnExactLeastEach.k_19 (aF0 : GFrame) (aT1 : List GNote) (aC2 : GCosts) (t_6 : (List Int) × Int) (t_10 : (List Int) × Int) (q_18 : Bool) : Option (Bool) := (if q_18 = true then some false else (laws_markInt64S t_10.1 1).bind fun t_20 => (laws_heldInt64S t_20.2 1).bind fun t_21 => (if (decide (t_21 < 0)) = true then some false else (if (t_21 != t_20.1) = true then some false else (laws_toFrame aF0).bind fun t_22 => (laws_toTune aT1).bind fun t_23 => (laws_toCosts aC2).bind fun t_24 => (impl_LeastEach t_22 t_23 t_24).bind fun t_25 => (laws_eqInt64S t_25.1 t_6.1).bind fun t_26 => (if ((!t_26) || (t_25.2 != t_6.2)) = true then some false else (laws_heldInt64S t_20.2 1).bind fun t_27 => (if (decide (t_27 < 0)) = true then some false else (if (t_27 != t_20.1) = true then some false else some true))))))
noncomputable def laws_FnExactLeastEach (aF0 : GFrame) (aT1 : List GNote) (aC2 : GCosts) : Option (Bool) := (laws_szFrame aF0 1048576).bind fun t_1 => (if (decide (t_1 < 0)) = true then some true else (laws_szTune aT1 t_1).bind fun t_2 => (if (decide (t_2 < 0)) = true then some true else (laws_toFrame aF0).bind fun t_3 => (laws_toTune aT1).bind fun t_4 => (laws_toCosts aC2).bind fun t_5 => (spec_LeastEach t_3 t_4 t_5).bind fun t_6 => (laws_toFrame aF0).bind fun t_7 => (laws_toTune aT1).bind fun t_8 => (laws_toCosts aC2).bind fun t_9 => (impl_LeastEach t_7 t_8 t_9).bind fun t_10 => (laws_eqInt64S t_10.1 t_6.1).bind fun t_11 => (if ((!t_11) || (t_10.2 != t_6.2)) = true then some false else (laws_toFrame aF0).bind fun t_12 => (laws_eqFrame t_7 t_12).bind fun t_13 => (if (!t_13) = true then some false else (laws_toTune aT1).bind fun t_14 => (laws_eqTune t_8 t_14).bind fun t_15 => (if (!t_15) = true then some false else (laws_markFrame t_7 1).bind fun t_16 => (laws_markTune t_8 t_16.1).bind fun t_17 => (if (decide (t_17.1 < 0)) = true then laws_FnExactLeastEach.k_19 aF0 aT1 aC2 t_6 t_10 true else (laws_eqInt64S t_10.1 t_6.1).bind fun t_28 => laws_FnExactLeastEach.k_19 aF0 aT1 aC2 t_6 t_10 ((!t_28) || (t_10.2 != t_6.2))))))))
set_option maxRecDepth 100000 in
set_option maxHeartbeats 8000000 in
theorem laws_FnExactLeastEach.calls (aF0 : GFrame) (aT1 : List GNote) (aC2 : GCosts) (w : World) (r : Bool) (aF0_fHammers_a : Option Addr) (aF0_fHammers_an : Nat) (aF0_fHammers_c : Nat) (aF0_fHammers_h : Rw w aF0_fHammers_a 2 encGHammer aF0.fHammers) (aF0_fHammers_hn : aF0.fHammers.length = aF0_fHammers_an) (aT1_a : Option Addr) (aT1_an : Nat) (aT1_c : Nat) (aT1_h : Rw w aT1_a 2 encGNote aT1) (aT1_hn : aT1.length = aT1_an) (h : laws_FnExactLeastEach aF0 aT1 aC2 = some r) :
    Calls Try.prog 10 #[(.agg #[(.int .i16 aF0.fSteps), (.slice aF0_fHammers_a aF0_fHammers_an aF0_fHammers_c)]), (.slice aT1_a aT1_an aT1_c), (.agg #[(.int .i16 aC2.fAway), (.int .i16 aC2.fOctave), (.int .i16 aC2.fStep)])] w fun e w' => ∃ v, e = .returned v ∧ (v = (.bool r) ∧ Mem w [] [] w') := by
  subst aF0_fHammers_hn aT1_hn
  rw [laws_FnExactLeastEach] at h
  refine enter (args := [(.agg #[(.int .i16 aF0.fSteps), (.slice aF0_fHammers_a aF0.fHammers.length aF0_fHammers_c)]), (.slice aT1_a aT1.length aT1_c), (.agg #[(.int .i16 aC2.fAway), (.int .i16 aC2.fOctave), (.int .i16 aC2.fStep)])]) Try.func10 rfl Try.ntmps10 (by kernel_rfl) (L := []) (W := []) (Mem.start w) ?_
  refine jc_seq ?_
  refine jc_region ?_
  refine toO (by kernel_rfl) (p_a 0 [0] (by kernel_rfl) (fun b => by kernel_rfl) (fun b_1 => jkO ?_))
  refine toO (by kernel_rfl) (p_a 0 [0] (by kernel_rfl) (fun b => by kernel_rfl) (fun b_2 => jkO ?_))
  refine jo_f [(0, 0)] (by kernel_rfl) ?_
  refine jo_end (by kernel_rfl) ?_
  refine jx_then ?_
  refine jc_seq ?_
  refine jc_region ?_
  refine jo_f [(0, 0)] (by kernel_rfl) ?_
  refine jo_end (by kernel_rfl) ?_
  refine jx_then ?_
  refine jc_seq ?_
  refine jc_region ?_
  refine jo_f [(0, 0), (0, 0)] (by kernel_rfl) ?_
  obtain ⟨t_1, ht_3, h⟩ := bd h
  refine toO (by kernel_rfl) (p_call 0 15 #[(.agg #[(.int .i16 aF0.fSteps), (.slice aF0_fHammers_a aF0.fHammers.length aF0_fHammers_c)]), (.int .i64 1048576)] (by kernel_rfl) (by kernel_rfl) (fun w hm => laws_szFrame.calls aF0 1048576 w _ aF0_fHammers_a aF0.fHammers.length aF0_fHammers_c (hm.exRow aF0_fHammers_h List.not_mem_nil) rfl ht_3) ?_)
  rintro w v w' hm ⟨rfl, hm'⟩
  refine ⟨_, hm.app hm', jkO ?_⟩
  clear hm hm'
  refine jo_f [(0, 0)] (by kernel_rfl) ?_
  refine jo_end (by kernel_rfl) ?_
  refine jx_then ?_
  refine jc_seq ?_
  refine jc_seq ?_
  refine jc_region ?_
  refine jo_f [(0, 0), (0, 0)] (by kernel_rfl) ?_
  refine jo_end (by kernel_rfl) ?_
  refine jx_then ?_
  refine jc_cond (decide (t_1 < 0)) (by kernel_rfl) (fun hc_5 => ?_) (fun hc_5 => ?_)
  · replace h := ifT hc_5 h
    refine jc_seq ?_
    refine jc_region ?_
    refine jo_f [(0, 0)] (by kernel_rfl) ?_
    refine jo_end (by kernel_rfl) ?_
    refine jx_then ?_
    refine jc_ret ?_
    refine jx_thenr ?_
    obtain rfl := Option.some.inj h
    exact jx_ret [] (.bool true) [] rfl (by kernel_rfl) (by kernel_rfl) (fun w hm => ⟨rfl, hm.pick [] (by kernel_rfl) (by kernel_rfl)⟩)
  · replace h := ifF hc_5 h
    refine jc_skip ?_
    refine jx_then ?_
    refine jc_seq ?_
    refine jc_region ?_
    refine jo_f [(0, 0), (0, 0)] (by kernel_rfl) ?_
    obtain ⟨t_2, ht_6, h⟩ := bd h
    refine toO (by kernel_rfl) (p_call 0 41 #[(.slice aT1_a aT1.length aT1_c), (.int .i64 t_1)] (by kernel_rfl) (by kernel_rfl) (fun w hm => laws_szTune.calls aT1 t_1 w _ aT1_a aT1.length aT1_c (hm.exRow aT1_h List.not_mem_nil) rfl ht_6) ?_)
    rintro w v w' hm ⟨rfl, hm'⟩
    refine ⟨_, hm.app hm', jkO ?_⟩
    clear hm hm'
    refine jo_f [(0, 0)] (by kernel_rfl) ?_
    refine jo_end (by kernel_rfl) ?_
    refine jx_then ?_
    refine jc_seq ?_
    refine jc_seq ?_
    refine jc_region ?_
    refine jo_f [(0, 0), (0, 0)] (by kernel_rfl) ?_
    refine jo_end (by kernel_rfl) ?_
    refine jx_then ?_
    refine jc_cond (decide (t_2 < 0)) (by kernel_rfl) (fun hc_8 => ?_) (fun hc_8 => ?_)
    · replace h := ifT hc_8 h
      refine jc_seq ?_
      refine jc_region ?_
      refine jo_f [(0, 0)] (by kernel_rfl) ?_
      refine jo_end (by kernel_rfl) ?_
      refine jx_then ?_
      refine jc_ret ?_
      refine jx_thenr ?_
      obtain rfl := Option.some.inj h
      exact jx_ret [] (.bool true) [] rfl (by kernel_rfl) (by kernel_rfl) (fun w hm => ⟨rfl, hm.pick [] (by kernel_rfl) (by kernel_rfl)⟩)
    · replace h := ifF hc_8 h
      refine jc_skip ?_
      refine jx_then ?_
      refine jc_seq ?_
      refine jc_draw [⟨some b_1, 25, [(.int .i16 aF0.fSteps), (.slice aF0_fHammers_a aF0.fHammers.length aF0_fHammers_c)]⟩, ⟨some b_2, 72, [(.int .i16 aC2.fAway), (.int .i16 aC2.fOctave), (.int .i16 aC2.fStep)]⟩] 12 (by kernel_rfl) (by kernel_rfl) ?_
      refine jd_f [⟨0, 0, 0⟩, ⟨2, 0, 0⟩, ⟨4, 1, 0⟩] 9 (by kernel_rfl) (by kernel_rfl) (fun w h => h.pick [0, 1] (by kernel_rfl) (by kernel_rfl)) (by kernel_rfl) (by kernel_rfl) ?_
      obtain ⟨t_3, ht_28, h⟩ := bd h
      refine toD 1 (by kernel_rfl) (p_call 0 17 #[(.agg #[(.int .i16 aF0.fSteps), (.slice aF0_fHammers_a aF0.fHammers.length aF0_fHammers_c)])] (by kernel_rfl) (by kernel_rfl) (fun w hm => laws_toFrame.calls aF0 w _ aF0_fHammers_a aF0.fHammers.length aF0_fHammers_c (hm.exRow aF0_fHammers_h List.not_mem_nil) rfl ht_28) ?_)
      rintro w v w' hm ⟨o_29, cap_30, sp_31, _, rfl, hs_32, ho_33, rfl, hm'⟩
      refine ⟨_, hm.app hm', jkD (fun w h => h.pick [0, 1] (by kernel_rfl) (by kernel_rfl)) ?_⟩
      clear hm hm'
      obtain ⟨t_4, ht_34, h⟩ := bd h
      refine toD 3 (by kernel_rfl) (p_call 0 43 #[(.slice aT1_a aT1.length aT1_c)] (by kernel_rfl) (by kernel_rfl) (fun w hm => laws_toTune.calls aT1 w _ aT1_a aT1.length aT1_c (hm.exRow aT1_h List.not_mem_nil) rfl ht_34) ?_)
      rintro w v w' hm ⟨o_35, cap_36, sp_37, _, rfl, hs_38, ho_39, rfl, hm'⟩
      refine ⟨_, hm.app hm', jkD (fun w h => h.pick [0, 1] (by kernel_rfl) (by kernel_rfl)) ?_⟩
      clear hm hm'
      obtain ⟨t_5, ht_40, h⟩ := bd h
      refine toD 5 (by kernel_rfl) (p_call 0 44 #[(.agg #[(.int .i16 aC2.fAway), (.int .i16 aC2.fOctave), (.int .i16 aC2.fStep)])] (by kernel_rfl) (by kernel_rfl) (fun w hm => laws_toCosts.calls aC2 w _ ht_40) ?_)
      rintro w v w' hm ⟨rfl, hm'⟩
      refine ⟨_, hm.app hm', jkD (fun w h => h.pick [0, 1] (by kernel_rfl) (by kernel_rfl)) ?_⟩
      clear hm hm'
      obtain ⟨t_6, ht_41, h⟩ := bd h
      refine toD 6 (by kernel_rfl) (p_call 0 49 #[(.agg #[(.int .i16 t_3.fSteps), (.slice (o_29.map fun b => ⟨b, 0, none⟩) t_3.fHammers.length cap_30)]), (.slice (o_35.map fun b => ⟨b, 0, none⟩) t_4.length cap_36), (.agg #[(.int .i16 t_5.fAway), (.int .i16 t_5.fOctave), (.int .i16 t_5.fStep)])] (by kernel_rfl) (by kernel_rfl) (fun w hm => spec_LeastEach.calls t_3 t_4 t_5 w _ (o_29.map fun b => ⟨b, 0, none⟩) t_3.fHammers.length cap_30 (hm.ownRow (hh := 2) (o := o_29) (T := 176) (enc := encGHammer) (xs := t_3.fHammers) (sp := sp_31) (by kernel_rfl) (fun e => (ho_33 e).1) encGHammer_len) rfl (o_35.map fun b => ⟨b, 0, none⟩) t_4.length cap_36 (hm.ownRow (hh := 3) (o := o_35) (T := 37) (enc := encGNote) (xs := t_4) (sp := sp_37) (by kernel_rfl) (fun e => (ho_39 e).1) encGNote_len) rfl ht_41) ?_)
      rintro w v w' hm ⟨o_42, cap_43, sp_44, _, rfl, hs_45, ho_46, rfl, hm'⟩
      refine ⟨_, hm.app hm', jkD (fun w h => h.pick [0, 1] (by kernel_rfl) (by kernel_rfl)) ?_⟩
      clear hm hm'
      refine jd_f [⟨7, 0, 0⟩, ⟨8, 0, 0⟩, ⟨9, 0, 0⟩, ⟨10, 0, 0⟩, ⟨11, 0, 0⟩] 0 (by kernel_rfl) (by kernel_rfl) (fun w h => h.pick [0, 1] (by kernel_rfl) (by kernel_rfl)) (by kernel_rfl) (by kernel_rfl) ?_
      refine jd_end (by kernel_rfl) ?_
      refine jx_then ?_
      refine jc_seq ?_
      refine jc_region ?_
      refine jo_f [(0, 0)] (by kernel_rfl) ?_
      obtain ⟨t_7, ht_47, h⟩ := bd h
      refine toO (by kernel_rfl) (p_call 0 17 #[(.agg #[(.int .i16 aF0.fSteps), (.slice aF0_fHammers_a aF0.fHammers.length aF0_fHammers_c)])] (by kernel_rfl) (by kernel_rfl) (fun w hm => laws_toFrame.calls aF0 w _ aF0_fHammers_a aF0.fHammers.length aF0_fHammers_c (hm.exRow aF0_fHammers_h List.not_mem_nil) rfl ht_47) ?_)
      rintro w v w' hm ⟨o_48, cap_49, sp_50, _, rfl, hs_51, ho_52, rfl, hm'⟩
      refine ⟨_, hm.app hm', jkO ?_⟩
      clear hm hm'
      refine toO (by kernel_rfl) (p_a 0 [0] (by kernel_rfl) (fun b => by kernel_rfl) (fun b_53 => jkO ?_))
      refine toO (by kernel_rfl) (p_s 0 [6] (by kernel_rfl) (by kernel_rfl) (jkO ?_))
      refine jo_end (by kernel_rfl) ?_
      refine jx_then ?_
      refine jc_seq ?_
      refine jc_region ?_
      refine jo_f [(0, 0)] (by kernel_rfl) ?_
      obtain ⟨t_8, ht_54, h⟩ := bd h
      refine toO (by kernel_rfl) (p_call 0 43 #[(.slice aT1_a aT1.length aT1_c)] (by kernel_rfl) (by kernel_rfl) (fun w hm => laws_toTune.calls aT1 w _ aT1_a aT1.length aT1_c (hm.exRow aT1_h List.not_mem_nil) rfl ht_54) ?_)
      rintro w v w' hm ⟨o_55, cap_56, sp_57, _, rfl, hs_58, ho_59, rfl, hm'⟩
      refine ⟨_, hm.app hm', jkO ?_⟩
      clear hm hm'
      refine jo_f [(0, 0)] (by kernel_rfl) ?_
      refine jo_end (by kernel_rfl) ?_
      refine jx_then ?_
      refine jc_seq ?_
      refine jc_draw [⟨some b_1, 25, [(.int .i16 aF0.fSteps), (.slice aF0_fHammers_a aF0.fHammers.length aF0_fHammers_c)]⟩, ⟨some b_2, 72, [(.int .i16 aC2.fAway), (.int .i16 aC2.fOctave), (.int .i16 aC2.fStep)]⟩, ⟨o_29, 176, row encGHammer t_3.fHammers sp_31⟩, ⟨o_35, 37, row encGNote t_4 sp_37⟩, ⟨o_42, 2, row encI64 t_6.1 sp_44⟩, ⟨o_48, 176, row encGHammer t_7.fHammers sp_50⟩, ⟨some b_53, 35, [(.int .i16 t_7.fSteps), (.slice (o_48.map fun b => ⟨b, 0, none⟩) t_7.fHammers.length cap_49)]⟩, ⟨o_55, 37, row encGNote t_8 sp_57⟩] 10 (by kernel_rfl) (by kernel_rfl) ?_
      refine jd_f [⟨0, 6, 0⟩, ⟨1, 0, 0⟩, ⟨2, 1, 0⟩] 7 (by kernel_rfl) (by kernel_rfl) (fun w h => h.pick [0, 1, 2, 3, 4, 5, 6, 7] (by kernel_rfl) (by kernel_rfl)) (by kernel_rfl) (by kernel_rfl) ?_
      obtain ⟨t_9, ht_67, h⟩ := bd h
      refine toD 3 (by kernel_rfl) (p_call 0 44 #[(.agg #[(.int .i16 aC2.fAway), (.int .i16 aC2.fOctave), (.int .i16 aC2.fStep)])] (by kernel_rfl) (by kernel_rfl) (fun w hm => laws_toCosts.calls aC2 w _ ht_67) ?_)
      rintro w v w' hm ⟨rfl, hm'⟩
      refine ⟨_, hm.app hm', jkD (fun w h => h.pick [0, 1, 2, 3, 4, 5, 6, 7] (by kernel_rfl) (by kernel_rfl)) ?_⟩
      clear hm hm'
      obtain ⟨t_10, ht_68, h⟩ := bd h
      refine toD 4 (by kernel_rfl) (p_call 0 50 #[(.agg #[(.int .i16 t_7.fSteps), (.slice (o_48.map fun b => ⟨b, 0, none⟩) t_7.fHammers.length cap_49)]), (.slice (o_55.map fun b => ⟨b, 0, none⟩) t_8.length cap_56), (.agg #[(.int .i16 t_9.fAway), (.int .i16 t_9.fOctave), (.int .i16 t_9.fStep)])] (by kernel_rfl) (by kernel_rfl) (fun w hm => impl_LeastEach.calls t_7 t_8 t_9 w _ (o_48.map fun b => ⟨b, 0, none⟩) t_7.fHammers.length cap_49 (hm.ownRow (hh := 5) (o := o_48) (T := 176) (enc := encGHammer) (xs := t_7.fHammers) (sp := sp_50) (by kernel_rfl) (fun e => (ho_52 e).1) encGHammer_len) rfl (o_55.map fun b => ⟨b, 0, none⟩) t_8.length cap_56 (hm.ownRow (hh := 7) (o := o_55) (T := 37) (enc := encGNote) (xs := t_8) (sp := sp_57) (by kernel_rfl) (fun e => (ho_59 e).1) encGNote_len) rfl ht_68) ?_)
      rintro w v w' hm ⟨o_69, cap_70, sp_71, _, rfl, hs_72, ho_73, rfl, hm'⟩
      refine ⟨_, hm.app hm', jkD (fun w h => h.pick [0, 1, 2, 3, 4, 5, 6, 7] (by kernel_rfl) (by kernel_rfl)) ?_⟩
      clear hm hm'
      refine jd_f [⟨5, 0, 0⟩, ⟨6, 0, 0⟩, ⟨7, 0, 0⟩, ⟨8, 0, 0⟩, ⟨9, 0, 0⟩] 0 (by kernel_rfl) (by kernel_rfl) (fun w h => h.pick [0, 1, 2, 3, 4, 5, 6, 7] (by kernel_rfl) (by kernel_rfl)) (by kernel_rfl) (by kernel_rfl) ?_
      refine jd_end (by kernel_rfl) ?_
      refine jx_then ?_
      refine jc_seq ?_
      refine jc_seq ?_
      refine jc_region ?_
      refine jo_f [(0, 0), (0, 0)] (by kernel_rfl) ?_
      obtain ⟨t_11, ht_78, h⟩ := bd h
      refine toO (by kernel_rfl) (p_call 0 51 #[(.slice (o_69.map fun b => ⟨b, 0, none⟩) t_10.1.length cap_70), (.slice (o_42.map fun b => ⟨b, 0, none⟩) t_6.1.length cap_43)] (by kernel_rfl) (by kernel_rfl) (fun w hm => laws_eqInt64S.calls t_10.1 t_6.1 w _ (o_69.map fun b => ⟨b, 0, none⟩) t_10.1.length cap_70 (hm.ownRow (hh := 8) (o := o_69) (T := 2) (enc := encI64) (xs := t_10.1) (sp := sp_71) (by kernel_rfl) (fun e => (ho_73 e).1) encI64_len) rfl (o_42.map fun b => ⟨b, 0, none⟩) t_6.1.length cap_43 (hm.ownRow (hh := 4) (o := o_42) (T := 2) (enc := encI64) (xs := t_6.1) (sp := sp_44) (by kernel_rfl) (fun e => (ho_46 e).1) encI64_len) rfl ht_78) ?_)
      rintro w v w' hm ⟨rfl, hm'⟩
      refine ⟨_, hm.app hm', jkO ?_⟩
      clear hm hm'
      refine jo_f [(0, 0), (0, 0), (0, 1), (0, 1), (0, 1), (0, 0)] (by kernel_rfl) ?_
      refine jo_end (by kernel_rfl) ?_
      refine jx_then ?_
      refine jc_cond ((!t_11) || (t_10.2 != t_6.2)) (by kernel_rfl) (fun hc_79 => ?_) (fun hc_79 => ?_)
      · replace h := ifT hc_79 h
        refine jc_seq ?_
        refine jc_region ?_
        refine jo_f [(0, 0)] (by kernel_rfl) ?_
        refine jo_end (by kernel_rfl) ?_
        refine jx_then ?_
        refine jc_ret ?_
        refine jx_thenr ?_
        obtain rfl := Option.some.inj h
        exact jx_ret [] (.bool false) [] rfl (by kernel_rfl) (by kernel_rfl) (fun w hm => ⟨rfl, hm.pick [] (by kernel_rfl) (by kernel_rfl)⟩)
      · replace h := ifF hc_79 h
        refine jc_skip ?_
        refine jx_then ?_
        refine jc_seq ?_
        refine jc_seq ?_
        refine jc_draw [⟨some b_1, 25, [(.int .i16 aF0.fSteps), (.slice aF0_fHammers_a aF0.fHammers.length aF0_fHammers_c)]⟩, ⟨some b_2, 72, [(.int .i16 aC2.fAway), (.int .i16 aC2.fOctave), (.int .i16 aC2.fStep)]⟩, ⟨o_29, 176, row encGHammer t_3.fHammers sp_31⟩, ⟨o_35, 37, row encGNote t_4 sp_37⟩, ⟨o_42, 2, row encI64 t_6.1 sp_44⟩, ⟨some b_53, 35, [(.int .i16 t_7.fSteps), (.slice (o_48.map fun b => ⟨b, 0, none⟩) t_7.fHammers.length cap_49)]⟩] 5 (by kernel_rfl) (by kernel_rfl) ?_
        refine jd_f [⟨0, 5, 0⟩, ⟨1, 0, 0⟩] 3 (by kernel_rfl) (by kernel_rfl) (fun w h => h.pick [0, 1, 2, 3, 4, 6] (by kernel_rfl) (by kernel_rfl)) (by kernel_rfl) (by kernel_rfl) ?_
        obtain ⟨t_12, ht_191, h⟩ := bd h
        refine toD 2 (by kernel_rfl) (p_call 0 17 #[(.agg #[(.int .i16 aF0.fSteps), (.slice aF0_fHammers_a aF0.fHammers.length aF0_fHammers_c)])] (by kernel_rfl) (by kernel_rfl) (fun w hm => laws_toFrame.calls aF0 w _ aF0_fHammers_a aF0.fHammers.length aF0_fHammers_c (hm.exRow aF0_fHammers_h List.not_mem_nil) rfl ht_191) ?_)
        rintro w v w' hm ⟨o_192, cap_193, sp_194, _, rfl, hs_195, ho_196, rfl, hm'⟩
        refine ⟨_, hm.app hm', jkD (fun w h => h.pick [0, 1, 2, 3, 4, 6] (by kernel_rfl) (by kernel_rfl)) ?_⟩
        clear hm hm'
        obtain ⟨t_13, ht_197, h⟩ := bd h
        refine toD 3 (by kernel_rfl) (p_call 0 21 #[(.agg #[(.int .i16 t_7.fSteps), (.slice (o_48.map fun b => ⟨b, 0, none⟩) t_7.fHammers.length cap_49)]), (.agg #[(.int .i16 t_12.fSteps), (.slice (o_192.map fun b => ⟨b, 0, none⟩) t_12.fHammers.length cap_193)])] (by kernel_rfl) (by kernel_rfl) (fun w hm => laws_eqFrame.calls t_7 t_12 w _ (o_48.map fun b => ⟨b, 0, none⟩) t_7.fHammers.length cap_49 (hm.ownRow (hh := 5) (o := o_48) (T := 176) (enc := encGHammer) (xs := t_7.fHammers) (sp := sp_50) (by kernel_rfl) (fun e => (ho_52 e).1) encGHammer_len) rfl (o_192.map fun b => ⟨b, 0, none⟩) t_12.fHammers.length cap_193 (hm.ownRow (hh := 9) (o := o_192) (T := 176) (enc := encGHammer) (xs := t_12.fHammers) (sp := sp_194) (by kernel_rfl) (fun e => (ho_196 e).1) encGHammer_len) rfl ht_197) ?_)
        rintro w v w' hm ⟨rfl, hm'⟩
        refine ⟨_, hm.app hm', jkD (fun w h => h.pick [0, 1, 2, 3, 4, 6] (by kernel_rfl) (by kernel_rfl)) ?_⟩
        clear hm hm'
        refine jd_f [⟨4, 0, 0⟩] 0 (by kernel_rfl) (by kernel_rfl) (fun w h => h.pick [0, 1, 2, 3, 4, 6] (by kernel_rfl) (by kernel_rfl)) (by kernel_rfl) (by kernel_rfl) ?_
        refine jd_end (by kernel_rfl) ?_
        refine jx_then ?_
        refine jc_cond (!t_13) (by kernel_rfl) (fun hc_198 => ?_) (fun hc_198 => ?_)
        · replace h := ifT hc_198 h
          refine jc_seq ?_
          refine jc_region ?_
          refine jo_f [(0, 0)] (by kernel_rfl) ?_
          refine jo_end (by kernel_rfl) ?_
          refine jx_then ?_
          refine jc_ret ?_
          refine jx_thenr ?_
          obtain rfl := Option.some.inj h
          exact jx_ret [] (.bool false) [] rfl (by kernel_rfl) (by kernel_rfl) (fun w hm => ⟨rfl, hm.pick [] (by kernel_rfl) (by kernel_rfl)⟩)
        · replace h := ifF hc_198 h
          refine jc_skip ?_
          refine jx_then ?_
          refine jc_seq ?_
          refine jc_seq ?_
          refine jc_region ?_
          refine jo_f [(0, 0), (0, 0)] (by kernel_rfl) ?_
          obtain ⟨t_14, ht_207, h⟩ := bd h
          refine toO (by kernel_rfl) (p_call 0 43 #[(.slice aT1_a aT1.length aT1_c)] (by kernel_rfl) (by kernel_rfl) (fun w hm => laws_toTune.calls aT1 w _ aT1_a aT1.length aT1_c (hm.exRow aT1_h List.not_mem_nil) rfl ht_207) ?_)
          rintro w v w' hm ⟨o_208, cap_209, sp_210, _, rfl, hs_211, ho_212, rfl, hm'⟩
          refine ⟨_, hm.app hm', jkO ?_⟩
          clear hm hm'
          obtain ⟨t_15, ht_213, h⟩ := bd h
          refine toO (by kernel_rfl) (p_call 0 46 #[(.slice (o_55.map fun b => ⟨b, 0, none⟩) t_8.length cap_56), (.slice (o_208.map fun b => ⟨b, 0, none⟩) t_14.length cap_209)] (by kernel_rfl) (by kernel_rfl) (fun w hm => laws_eqTune.calls t_8 t_14 w _ (o_55.map fun b => ⟨b, 0, none⟩) t_8.length cap_56 (hm.ownRow (hh := 7) (o := o_55) (T := 37) (enc := encGNote) (xs := t_8) (sp := sp_57) (by kernel_rfl) (fun e => (ho_59 e).1) encGNote_len) rfl (o_208.map fun b => ⟨b, 0, none⟩) t_14.length cap_209 (hm.ownRow (hh := 10) (o := o_208) (T := 37) (enc := encGNote) (xs := t_14) (sp := sp_210) (by kernel_rfl) (fun e => (ho_212 e).1) encGNote_len) rfl ht_213) ?_)
          rintro w v w' hm ⟨rfl, hm'⟩
          refine ⟨_, hm.app hm', jkO ?_⟩
          clear hm hm'
          refine jo_f [(0, 0)] (by kernel_rfl) ?_
          refine jo_end (by kernel_rfl) ?_
          refine jx_then ?_
          refine jc_cond (!t_15) (by kernel_rfl) (fun hc_214 => ?_) (fun hc_214 => ?_)
          · replace h := ifT hc_214 h
            refine jc_seq ?_
            refine jc_region ?_
            refine jo_f [(0, 0)] (by kernel_rfl) ?_
            refine jo_end (by kernel_rfl) ?_
            refine jx_then ?_
            refine jc_ret ?_
            refine jx_thenr ?_
            obtain rfl := Option.some.inj h
            exact jx_ret [] (.bool false) [] rfl (by kernel_rfl) (by kernel_rfl) (fun w hm => ⟨rfl, hm.pick [] (by kernel_rfl) (by kernel_rfl)⟩)
          · replace h := ifF hc_214 h
            refine jc_skip ?_
            refine jx_then ?_
            refine jc_seq ?_
            refine jc_region ?_
            refine jo_f [(0, 0)] (by kernel_rfl) ?_
            refine jo_end (by kernel_rfl) ?_
            refine jx_then ?_
            refine jc_seq ?_
            refine jc_region ?_
            refine jo_f [(6, 0), (0, 0)] (by kernel_rfl) ?_
            obtain ⟨t_16, ht_215, h⟩ := bd h
            refine toO (by kernel_rfl) (p_call 0 22 #[(.agg #[(.int .i16 t_7.fSteps), (.slice (o_48.map fun b => ⟨b, 0, none⟩) t_7.fHammers.length cap_49)]), (.int .i64 1)] (by kernel_rfl) (by kernel_rfl) (fun w hm => laws_markFrame.calls t_7 1 w _ o_48 t_7.fHammers.length cap_49 sp_50 rfl hs_51 ho_52 (hm.pass (N := [⟨o_48, 176, row encGHammer t_7.fHammers sp_50⟩]) [5] (by kernel_rfl) (by kernel_rfl)) ht_215) ?_)
            rintro w v w' hm ⟨hn_216, ho_217, rfl, hm'⟩
            refine ⟨_, hm.appW (ps := [(5, ⟨o_48, 176, row encGHammer t_16.2 sp_50⟩)]) (N := []) hm' (by kernel_rfl) (by kernel_rfl), jkO ?_⟩
            clear hm hm'
            refine jo_f [(0, 0)] (by kernel_rfl) ?_
            refine jo_end (by kernel_rfl) ?_
            refine jx_then ?_
            refine jc_seq ?_
            refine jc_region ?_
            refine jo_f [(0, 0), (0, 0)] (by kernel_rfl) ?_
            obtain ⟨t_17, ht_218, h⟩ := bd h
            refine toO (by kernel_rfl) (p_call 0 52 #[(.slice (o_55.map fun b => ⟨b, 0, none⟩) t_8.length cap_56), (.int .i64 t_16.1)] (by kernel_rfl) (by kernel_rfl) (fun w hm => laws_markTune.calls t_8 t_16.1 w _ o_55 t_8.length cap_56 sp_57 rfl hs_58 ho_59 (hm.pass (N := [⟨o_55, 37, row encGNote t_8 sp_57⟩]) [7] (by kernel_rfl) (by kernel_rfl)) ht_218) ?_)
            rintro w v w' hm ⟨hn_219, ho_220, rfl, hm'⟩
            refine ⟨_, hm.appW (ps := [(7, ⟨o_55, 37, row encGNote t_17.2 sp_57⟩)]) (N := []) hm' (by kernel_rfl) (by kernel_rfl), jkO ?_⟩
            clear hm hm'
            refine jo_f [(0, 0)] (by kernel_rfl) ?_
            refine jo_end (by kernel_rfl) ?_
            refine jx_then ?_
            refine jc_seq ?_
            refine jc_seq ?_
            refine jc_meet (fun (j : Bool) => match j with | q_18 => laws_FnExactLeastEach.k_19 aF0 aT1 aC2 t_6 t_10 q_18 = some r) (fun (j : Bool) => match j with | q_18 => [(1, [], (.slice aT1_a aT1.length aT1_c)), (3, [], (.pointer (some ⟨b_1, 0, none⟩))), (5, [], (.pointer (some ⟨b_2, 0, none⟩))), (6, [], (.bool false)), (8, [], (.slice (o_42.map fun b => ⟨b, 0, none⟩) t_6.1.length cap_43)), (9, [], (.int .i64 t_6.2)), (12, [], (.slice (o_69.map fun b => ⟨b, 0, none⟩) t_10.1.length cap_70)), (88, [], (.bool q_18))]) (fun (j : Bool) => match j with | q_18 => [⟨some b_1, 25, [(.int .i16 aF0.fSteps), (.slice aF0_fHammers_a aF0.fHammers.length aF0_fHammers_c)]⟩, ⟨some b_2, 72, [(.int .i16 aC2.fAway), (.int .i16 aC2.fOctave), (.int .i16 aC2.fStep)]⟩, ⟨o_29, 176, row encGHammer t_3.fHammers sp_31⟩, ⟨o_35, 37, row encGNote t_4 sp_37⟩, ⟨o_42, 2, row encI64 t_6.1 sp_44⟩, ⟨o_48, 176, row encGHammer t_16.2 sp_50⟩, ⟨some b_53, 35, [(.int .i16 t_7.fSteps), (.slice (o_48.map fun b => ⟨b, 0, none⟩) t_7.fHammers.length cap_49)]⟩, ⟨o_55, 37, row encGNote t_17.2 sp_57⟩, ⟨o_69, 2, row encI64 t_10.1 sp_71⟩, ⟨o_192, 176, row encGHammer t_12.fHammers sp_194⟩, ⟨o_208, 37, row encGNote t_14 sp_210⟩]) ?_ ?_
            · refine jc_region ?_
              refine jo_f [(0, 0), (0, 0), (0, 0), (0, 1), (0, 1)] (by kernel_rfl) ?_
              refine jo_split 78 (decide (t_17.1 < 0)) (by kernel_rfl) (fun hc_285 => ?_) (fun hc_285 => ?_)
              · replace h := ifT hc_285 h
                refine jo_f [(0, 3), (0, 3), (0, 4), (0, 0), (0, 3), (0, 3), (0, 3), (0, 4)] (by kernel_rfl) ?_
                refine jo_end (by kernel_rfl) ?_
                exact jx_meet true h (by kernel_rfl) [0, 1, 2, 3, 4, 5, 6, 7, 8, 9, 10] (by kernel_rfl) (by kernel_rfl)
              · replace h := ifF hc_285 h
                obtain ⟨t_28, ht_286, h⟩ := bd h
                refine toO (by kernel_rfl) (p_call 2 51 #[(.slice (o_69.map fun b => ⟨b, 0, none⟩) t_10.1.length cap_70), (.slice (o_42.map fun b => ⟨b, 0, none⟩) t_6.1.length cap_43)] (by kernel_rfl) (by kernel_rfl) (fun w hm => laws_eqInt64S.calls t_10.1 t_6.1 w _ (o_69.map fun b => ⟨b, 0, none⟩) t_10.1.length cap_70 (hm.ownRow (hh := 8) (o := o_69) (T := 2) (enc := encI64) (xs := t_10.1) (sp := sp_71) (by kernel_rfl) (fun e => (ho_73 e).1) encI64_len) rfl (o_42.map fun b => ⟨b, 0, none⟩) t_6.1.length cap_43 (hm.ownRow (hh := 4) (o := o_42) (T := 2) (enc := encI64) (xs := t_6.1) (sp := sp_44) (by kernel_rfl) (fun e => (ho_46 e).1) encI64_len) rfl ht_286) ?_)
                rintro w v w' hm ⟨rfl, hm'⟩
                refine ⟨_, hm.app hm', jkO ?_⟩
                clear hm hm'
                refine jo_f [(0, 2), (0, 5), (0, 0), (0, 1), (0, 1), (0, 1), (0, 0)] (by kernel_rfl) ?_
                refine jo_end (by kernel_rfl) ?_
                exact jx_meet ((!t_28) || (t_10.2 != t_6.2)) h (by kernel_rfl) [0, 1, 2, 3, 4, 5, 6, 7, 8, 9, 10] (by kernel_rfl) (by kernel_rfl)
            · rintro q_18 h
              replace h : laws_FnExactLeastEach.k_19 aF0 aT1 aC2 t_6 t_10 q_18 = some r := h
              rw [laws_FnExactLeastEach.k_19] at h
              refine jx_then ?_
              refine jc_cond q_18 (by kernel_rfl) (fun hc_228 => ?_) (fun hc_228 => ?_)
              · replace h := ifT hc_228 h
                refine jc_seq ?_
                refine jc_region ?_
                refine jo_f [(0, 0)] (by kernel_rfl) ?_
                refine jo_end (by kernel_rfl) ?_
                refine jx_then ?_
                refine jc_ret ?_
                refine jx_thenr ?_
                obtain rfl := Option.some.inj h
                exact jx_ret [] (.bool false) [] rfl (by kernel_rfl) (by kernel_rfl) (fun w hm => ⟨rfl, hm.pick [] (by kernel_rfl) (by kernel_rfl)⟩)
              · replace h := ifF hc_228 h
                refine jc_skip ?_
                refine jx_then ?_
                refine jc_seq ?_
                refine jc_region ?_
                refine jo_f [(0, 0)] (by kernel_rfl) ?_
                refine jo_end (by kernel_rfl) ?_
                refine jx_then ?_
                refine jc_seq ?_
                refine jc_region ?_
                refine jo_f [(0, 0), (0, 0)] (by kernel_rfl) ?_
                obtain ⟨t_20, ht_229, h⟩ := bd h
                refine toO (by kernel_rfl) (p_call 0 53 #[(.slice (o_69.map fun b => ⟨b, 0, none⟩) t_10.1.length cap_70), (.int .i64 1)] (by kernel_rfl) (by kernel_rfl) (fun w hm => laws_markInt64S.calls t_10.1 1 w _ o_69 t_10.1.length cap_70 sp_71 rfl hs_72 ho_73 (hm.pass (N := [⟨o_69, 2, row encI64 t_10.1 sp_71⟩]) [8] (by kernel_rfl) (by kernel_rfl)) ht_229) ?_)
                rintro w v w' hm ⟨hn_230, ho_231, rfl, hm'⟩
                refine ⟨_, hm.appW (ps := [(8, ⟨o_69, 2, row encI64 t_20.2 sp_71⟩)]) (N := []) hm' (by kernel_rfl) (by kernel_rfl), jkO ?_⟩
                clear hm hm'
                refine jo_f [(0, 0)] (by kernel_rfl) ?_
                refine jo_end (by kernel_rfl) ?_
                refine jx_then ?_
                refine jc_seq ?_
                refine jc_region ?_
                refine jo_f [(0, 0)] (by kernel_rfl) ?_
                refine jo_end (by kernel_rfl) ?_
                refine jx_then ?_
                refine jc_seq ?_
                refine jc_region ?_
                refine jo_f [(0, 0), (0, 0)] (by kernel_rfl) ?_
                obtain ⟨t_21, ht_232, h⟩ := bd h
                refine toO (by kernel_rfl) (p_call 0 54 #[(.slice (o_69.map fun b => ⟨b, 0, none⟩) t_10.1.length cap_70), (.int .i64 1)] (by kernel_rfl) (by kernel_rfl) (fun w hm => laws_heldInt64S.calls t_20.2 1 w _ (o_69.map fun b => ⟨b, 0, none⟩) t_10.1.length cap_70 (hm.ownRow (hh := 8) (o := o_69) (T := 2) (enc := encI64) (xs := t_20.2) (sp := sp_71) (by kernel_rfl) (fun e => (ho_231 e).1) encI64_len) hn_230 ht_232) ?_)
                rintro w v w' hm ⟨rfl, hm'⟩
                refine ⟨_, hm.app hm', jkO ?_⟩
                clear hm hm'
                refine jo_f [(0, 0)] (by kernel_rfl) ?_
                refine jo_end (by kernel_rfl) ?_
                refine jx_then ?_
                refine jc_seq ?_
                refine jc_seq ?_
                refine jc_region ?_
                refine jo_f [(0, 0), (0, 0)] (by kernel_rfl) ?_
                refine jo_end (by kernel_rfl) ?_
                refine jx_then ?_
                refine jc_cond (decide (t_21 < 0)) (by kernel_rfl) (fun hc_234 => ?_) (fun hc_234 => ?_)
                · replace h := ifT hc_234 h
                  refine jc_seq ?_
                  refine jc_region ?_
                  refine jo_f [(0, 0)] (by kernel_rfl) ?_
                  refine jo_end (by kernel_rfl) ?_
                  refine jx_then ?_
                  refine jc_ret ?_
                  refine jx_thenr ?_
                  obtain rfl := Option.some.inj h
                  exact jx_ret [] (.bool false) [] rfl (by kernel_rfl) (by kernel_rfl) (fun w hm => ⟨rfl, hm.pick [] (by kernel_rfl) (by kernel_rfl)⟩)
                · replace h := ifF hc_234 h
                  refine jc_skip ?_
                  refine jx_then ?_
                  refine jc_seq ?_
                  refine jc_seq ?_
                  refine jc_region ?_
                  refine jo_f [(0, 0), (0, 0), (0, 0)] (by kernel_rfl) ?_
                  refine jo_end (by kernel_rfl) ?_
                  refine jx_then ?_
                  refine jc_cond (t_21 != t_20.1) (by kernel_rfl) (fun hc_236 => ?_) (fun hc_236 => ?_)
                  · replace h := ifT hc_236 h
                    refine jc_seq ?_
                    refine jc_region ?_
                    refine jo_f [(0, 0)] (by kernel_rfl) ?_
                    refine jo_end (by kernel_rfl) ?_
                    refine jx_then ?_
                    refine jc_ret ?_
                    refine jx_thenr ?_
                    obtain rfl := Option.some.inj h
                    exact jx_ret [] (.bool false) [] rfl (by kernel_rfl) (by kernel_rfl) (fun w hm => ⟨rfl, hm.pick [] (by kernel_rfl) (by kernel_rfl)⟩)
                  · replace h := ifF hc_236 h
                    refine jc_skip ?_
                    refine jx_then ?_
                    refine jc_seq ?_
                    refine jc_draw [⟨some b_1, 25, [(.int .i16 aF0.fSteps), (.slice aF0_fHammers_a aF0.fHammers.length aF0_fHammers_c)]⟩, ⟨some b_2, 72, [(.int .i16 aC2.fAway), (.int .i16 aC2.fOctave), (.int .i16 aC2.fStep)]⟩, ⟨o_29, 176, row encGHammer t_3.fHammers sp_31⟩, ⟨o_35, 37, row encGNote t_4 sp_37⟩, ⟨o_42, 2, row encI64 t_6.1 sp_44⟩, ⟨o_48, 176, row encGHammer t_16.2 sp_50⟩, ⟨some b_53, 35, [(.int .i16 t_7.fSteps), (.slice (o_48.map fun b => ⟨b, 0, none⟩) t_7.fHammers.length cap_49)]⟩, ⟨o_55, 37, row encGNote t_17.2 sp_57⟩, ⟨o_69, 2, row encI64 t_20.2 sp_71⟩, ⟨o_192, 176, row encGHammer t_12.fHammers sp_194⟩, ⟨o_208, 37, row encGNote t_14 sp_210⟩] 12 (by kernel_rfl) (by kernel_rfl) ?_
                    refine jd_f [⟨0, 0, 0⟩, ⟨2, 0, 0⟩, ⟨4, 1, 0⟩] 9 (by kernel_rfl) (by kernel_rfl) (fun w h => h.pick [0, 1, 2, 3, 4, 5, 6, 7, 8, 9, 10] (by kernel_rfl) (by kernel_rfl)) (by kernel_rfl) (by kernel_rfl) ?_
                    obtain ⟨t_22, ht_256, h⟩ := bd h
                    refine toD 1 (by kernel_rfl) (p_call 0 17 #[(.agg #[(.int .i16 aF0.fSteps), (.slice aF0_fHammers_a aF0.fHammers.length aF0_fHammers_c)])] (by kernel_rfl) (by kernel_rfl) (fun w hm => laws_toFrame.calls aF0 w _ aF0_fHammers_a aF0.fHammers.length aF0_fHammers_c (hm.exRow aF0_fHammers_h List.not_mem_nil) rfl ht_256) ?_)
                    rintro w v w' hm ⟨o_257, cap_258, sp_259, _, rfl, hs_260, ho_261, rfl, hm'⟩
                    refine ⟨_, hm.app hm', jkD (fun w h => h.pick [0, 1, 2, 3, 4, 5, 6, 7, 8, 9, 10] (by kernel_rfl) (by kernel_rfl)) ?_⟩
                    clear hm hm'
                    obtain ⟨t_23, ht_262, h⟩ := bd h
                    refine toD 3 (by kernel_rfl) (p_call 0 43 #[(.slice aT1_a aT1.length aT1_c)] (by kernel_rfl) (by kernel_rfl) (fun w hm => laws_toTune.calls aT1 w _ aT1_a aT1.length aT1_c (hm.exRow aT1_h List.not_mem_nil) rfl ht_262) ?_)
                    rintro w v w' hm ⟨o_263, cap_264, sp_265, _, rfl, hs_266, ho_267, rfl, hm'⟩
                    refine ⟨_, hm.app hm', jkD (fun w h => h.pick [0, 1, 2, 3, 4, 5, 6, 7, 8, 9, 10] (by kernel_rfl) (by kernel_rfl)) ?_⟩
                    clear hm hm'
                    obtain ⟨t_24, ht_268, h⟩ := bd h
                    refine toD 5 (by kernel_rfl) (p_call 0 44 #[(.agg #[(.int .i16 aC2.fAway), (.int .i16 aC2.fOctave), (.int .i16 aC2.fStep)])] (by kernel_rfl) (by kernel_rfl) (fun w hm => laws_toCosts.calls aC2 w _ ht_268) ?_)
                    rintro w v w' hm ⟨rfl, hm'⟩
                    refine ⟨_, hm.app hm', jkD (fun w h => h.pick [0, 1, 2, 3, 4, 5, 6, 7, 8, 9, 10] (by kernel_rfl) (by kernel_rfl)) ?_⟩
                    clear hm hm'
                    obtain ⟨t_25, ht_269, h⟩ := bd h
                    refine toD 6 (by kernel_rfl) (p_call 0 50 #[(.agg #[(.int .i16 t_22.fSteps), (.slice (o_257.map fun b => ⟨b, 0, none⟩) t_22.fHammers.length cap_258)]), (.slice (o_263.map fun b => ⟨b, 0, none⟩) t_23.length cap_264), (.agg #[(.int .i16 t_24.fAway), (.int .i16 t_24.fOctave), (.int .i16 t_24.fStep)])] (by kernel_rfl) (by kernel_rfl) (fun w hm => impl_LeastEach.calls t_22 t_23 t_24 w _ (o_257.map fun b => ⟨b, 0, none⟩) t_22.fHammers.length cap_258 (hm.ownRow (hh := 11) (o := o_257) (T := 176) (enc := encGHammer) (xs := t_22.fHammers) (sp := sp_259) (by kernel_rfl) (fun e => (ho_261 e).1) encGHammer_len) rfl (o_263.map fun b => ⟨b, 0, none⟩) t_23.length cap_264 (hm.ownRow (hh := 12) (o := o_263) (T := 37) (enc := encGNote) (xs := t_23) (sp := sp_265) (by kernel_rfl) (fun e => (ho_267 e).1) encGNote_len) rfl ht_269) ?_)
                    rintro w v w' hm ⟨o_270, cap_271, sp_272, _, rfl, hs_273, ho_274, rfl, hm'⟩
                    refine ⟨_, hm.app hm', jkD (fun w h => h.pick [0, 1, 2, 3, 4, 5, 6, 7, 8, 9, 10] (by kernel_rfl) (by kernel_rfl)) ?_⟩
                    clear hm hm'
                    refine jd_f [⟨7, 0, 0⟩, ⟨8, 0, 0⟩, ⟨9, 0, 0⟩, ⟨10, 0, 0⟩, ⟨11, 0, 0⟩] 0 (by kernel_rfl) (by kernel_rfl) (fun w h => h.pick [0, 1, 2, 3, 4, 5, 6, 7, 8, 9, 10] (by kernel_rfl) (by kernel_rfl)) (by kernel_rfl) (by kernel_rfl) ?_
                    refine jd_end (by kernel_rfl) ?_
                    refine jx_then ?_
                    refine jc_seq ?_
                    refine jc_seq ?_
                    refine jc_region ?_
                    refine jo_f [(0, 0), (0, 0)] (by kernel_rfl) ?_
                    obtain ⟨t_26, ht_279, h⟩ := bd h
                    refine toO (by kernel_rfl) (p_call 0 51 #[(.slice (o_270.map fun b => ⟨b, 0, none⟩) t_25.1.length cap_271), (.slice (o_42.map fun b => ⟨b, 0, none⟩) t_6.1.length cap_43)] (by kernel_rfl) (by kernel_rfl) (fun w hm => laws_eqInt64S.calls t_25.1 t_6.1 w _ (o_270.map fun b => ⟨b, 0, none⟩) t_25.1.length cap_271 (hm.ownRow (hh := 13) (o := o_270) (T := 2) (enc := encI64) (xs := t_25.1) (sp := sp_272) (by kernel_rfl) (fun e => (ho_274 e).1) encI64_len) rfl (o_42.map fun b => ⟨b, 0, none⟩) t_6.1.length cap_43 (hm.ownRow (hh := 4) (o := o_42) (T := 2) (enc := encI64) (xs := t_6.1) (sp := sp_44) (by kernel_rfl) (fun e => (ho_46 e).1) encI64_len) rfl ht_279) ?_)
                    rintro w v w' hm ⟨rfl, hm'⟩
                    refine ⟨_, hm.app hm', jkO ?_⟩
                    clear hm hm'
                    refine jo_f [(0, 0), (0, 0), (0, 1), (0, 1), (0, 1), (0, 0)] (by kernel_rfl) ?_
                    refine jo_end (by kernel_rfl) ?_
                    refine jx_then ?_
                    refine jc_cond ((!t_26) || (t_25.2 != t_6.2)) (by kernel_rfl) (fun hc_280 => ?_) (fun hc_280 => ?_)
                    · replace h := ifT hc_280 h
                      refine jc_seq ?_
                      refine jc_region ?_
                      refine jo_f [(0, 0)] (by kernel_rfl) ?_
                      refine jo_end (by kernel_rfl) ?_
                      refine jx_then ?_
                      refine jc_ret ?_
                      refine jx_thenr ?_
                      obtain rfl := Option.some.inj h
                      exact jx_ret [] (.bool false) [] rfl (by kernel_rfl) (by kernel_rfl) (fun w hm => ⟨rfl, hm.pick [] (by kernel_rfl) (by kernel_rfl)⟩)
                    · replace h := ifF hc_280 h
                      refine jc_skip ?_
                      refine jx_then ?_
                      refine jc_seq ?_
                      refine jc_region ?_
                      refine jo_f [(0, 0)] (by kernel_rfl) ?_
                      refine jo_end (by kernel_rfl) ?_
                      refine jx_then ?_
                      refine jc_seq ?_
                      refine jc_region ?_
                      refine jo_f [(0, 0), (0, 0)] (by kernel_rfl) ?_
                      obtain ⟨t_27, ht_281, h⟩ := bd h
                      refine toO (by kernel_rfl) (p_call 0 54 #[(.slice (o_69.map fun b => ⟨b, 0, none⟩) t_10.1.length cap_70), (.int .i64 1)] (by kernel_rfl) (by kernel_rfl) (fun w hm => laws_heldInt64S.calls t_20.2 1 w _ (o_69.map fun b => ⟨b, 0, none⟩) t_10.1.length cap_70 (hm.ownRow (hh := 8) (o := o_69) (T := 2) (enc := encI64) (xs := t_20.2) (sp := sp_71) (by kernel_rfl) (fun e => (ho_231 e).1) encI64_len) hn_230 ht_281) ?_)
                      rintro w v w' hm ⟨rfl, hm'⟩
                      refine ⟨_, hm.app hm', jkO ?_⟩
                      clear hm hm'
                      refine jo_f [(0, 0)] (by kernel_rfl) ?_
                      refine jo_end (by kernel_rfl) ?_
                      refine jx_then ?_
                      refine jc_seq ?_
                      refine jc_seq ?_
                      refine jc_region ?_
                      refine jo_f [(0, 0), (0, 0)] (by kernel_rfl) ?_
                      refine jo_end (by kernel_rfl) ?_
                      refine jx_then ?_
                      refine jc_cond (decide (t_27 < 0)) (by kernel_rfl) (fun hc_283 => ?_) (fun hc_283 => ?_)
                      · replace h := ifT hc_283 h
                        refine jc_seq ?_
                        refine jc_region ?_
                        refine jo_f [(0, 0)] (by kernel_rfl) ?_
                        refine jo_end (by kernel_rfl) ?_
                        refine jx_then ?_
                        refine jc_ret ?_
                        refine jx_thenr ?_
                        obtain rfl := Option.some.inj h
                        exact jx_ret [] (.bool false) [] rfl (by kernel_rfl) (by kernel_rfl) (fun w hm => ⟨rfl, hm.pick [] (by kernel_rfl) (by kernel_rfl)⟩)
                      · replace h := ifF hc_283 h
                        refine jc_skip ?_
                        refine jx_then ?_
                        refine jc_seq ?_
                        refine jc_seq ?_
                        refine jc_region ?_
                        refine jo_f [(0, 0), (0, 0), (0, 0)] (by kernel_rfl) ?_
                        refine jo_end (by kernel_rfl) ?_
                        refine jx_then ?_
                        refine jc_cond (t_27 != t_20.1) (by kernel_rfl) (fun hc_284 => ?_) (fun hc_284 => ?_)
                        · replace h := ifT hc_284 h
                          refine jc_seq ?_
                          refine jc_region ?_
                          refine jo_f [(0, 0)] (by kernel_rfl) ?_
                          refine jo_end (by kernel_rfl) ?_
                          refine jx_then ?_
                          refine jc_ret ?_
                          refine jx_thenr ?_
                          obtain rfl := Option.some.inj h
                          exact jx_ret [] (.bool false) [] rfl (by kernel_rfl) (by kernel_rfl) (fun w hm => ⟨rfl, hm.pick [] (by kernel_rfl) (by kernel_rfl)⟩)
                        · replace h := ifF hc_284 h
                          refine jc_skip ?_
                          refine jx_then ?_
                          refine jc_seq ?_
                          refine jc_region ?_
                          refine jo_f [(0, 0)] (by kernel_rfl) ?_
                          refine jo_end (by kernel_rfl) ?_
                          refine jx_then ?_
                          refine jc_ret ?_
                          obtain rfl := Option.some.inj h
                          exact jx_ret [] (.bool true) [] rfl (by kernel_rfl) (by kernel_rfl) (fun w hm => ⟨rfl, hm.pick [] (by kernel_rfl) (by kernel_rfl)⟩)
end Go.Proofs.Ytdnkjgmncfhejaa
