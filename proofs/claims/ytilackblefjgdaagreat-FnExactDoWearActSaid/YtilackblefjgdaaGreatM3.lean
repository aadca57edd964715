/- Functions of the program that the laws reach: a plain function each, and that the call comes to its answer if the plain function has one. Printed by a program. -/
import Derived.Test.YtilackblefjgdaaGreatT
import Derived.Test.YtilackblefjgdaaGreatM0
import Derived.Test.YtilackblefjgdaaGreatM1
import Derived.Test.YtilackblefjgdaaGreatM2
namespace Go.Proofs.YtilackblefjgdaaGreat
open Eng
set_option linter.unusedVariables false

/-! ### laws.FnExactDoWearAct -/
noncomputable def laws_FnExactDoWearAct.k_27 (xs_3 : List GWornPin) (xs_4 : List Int) (i_5 : Int) (t_22 : Int × (List GWornPin) × (List Int)) (xs_24 : List GWornPin) (xs_25 : List Int) (i_26 : Int) : Option (Bool) := (laws_eqWear (⟨xs_24, xs_25⟩ : GWear) (⟨xs_3, xs_4⟩ : GWear)).bind fun t_28 => (if ((!t_28) || (i_26 != i_5)) = true then some false else (laws_heldWear (⟨t_22.2.1, t_22.2.2⟩ : GWear) 1).bind fun t_29 => (if (decide (t_29 < 0)) = true then some false else (if (t_29 != t_22.1) = true then some false else some true)))
noncomputable def laws_FnExactDoWearAct.k_21 (aF0 : GFrame) (aW1 : GWear) (aA2 : GAct) (xs_3 : List GWornPin) (xs_4 : List Int) (i_5 : Int) (xs_9 : List GWornPin) (xs_10 : List Int) (q_20 : Bool) : Option (Bool) := (if q_20 = true then some false else (laws_markWear (⟨xs_9, xs_10⟩ : GWear) 1).bind fun t_22 => (laws_heldWear (⟨t_22.2.1, t_22.2.2⟩ : GWear) 1).bind fun t_23 => (if (decide (t_23 < 0)) = true then some false else (if (t_23 != t_22.1) = true then some false else (laws_toFrame aF0).bind fun t_30 => (laws_toWear aW1).bind fun t_31 => (laws_toAct aA2).bind fun t_32 => (impl_DoWearAct t_30 t_31 t_32).bind fun t_33 => laws_FnExactDoWearAct.k_27 xs_3 xs_4 i_5 t_22 t_33.1.fPins t_33.1.fStrokes t_33.2)))
noncomputable def laws_FnExactDoWearAct.k_12 (aF0 : GFrame) (aW1 : GWear) (aA2 : GAct) (xs_3 : List GWornPin) (xs_4 : List Int) (i_5 : Int) (t_7 : GFrame) (t_8 : GWear) (xs_9 : List GWornPin) (xs_10 : List Int) (i_11 : Int) : Option (Bool) := (laws_eqWear (⟨xs_9, xs_10⟩ : GWear) (⟨xs_3, xs_4⟩ : GWear)).bind fun t_13 => (if ((!t_13) || (i_11 != i_5)) = true then some false else (laws_toFrame aF0).bind fun t_14 => (laws_eqFrame t_7 t_14).bind fun t_15 => (if (!t_15) = true then some false else (laws_toWear aW1).bind fun t_16 => (laws_eqWear t_8 t_16).bind fun t_17 => (if (!t_17) = true then some false else (laws_markFrame t_7 1).bind fun t_18 => (laws_markWear t_8 t_18.1).bind fun t_19 => (if (decide (t_19.1 < 0)) = true then laws_FnExactDoWearAct.k_21 aF0 aW1 aA2 xs_3 xs_4 i_5 xs_9 xs_10 true else (laws_eqWear (⟨xs_9, xs_10⟩ : GWear) (⟨xs_3, xs_4⟩ : GWear)).bind fun t_34 => laws_FnExactDoWearAct.k_21 aF0 aW1 aA2 xs_3 xs_4 i_5 xs_9 xs_10 ((!t_34) || (i_11 != i_5))))))
noncomputable def laws_FnExactDoWearAct.k_6 (aF0 : GFrame) (aW1 : GWear) (aA2 : GAct) (xs_3 : List GWornPin) (xs_4 : List Int) (i_5 : Int) : Option (Bool) := (laws_toFrame aF0).bind fun t_7 => (laws_toWear aW1).bind fun t_8 => (laws_toAct aA2).bind fun t_35 => (impl_DoWearAct t_7 t_8 t_35).bind fun t_36 => laws_FnExactDoWearAct.k_12 aF0 aW1 aA2 xs_3 xs_4 i_5 t_7 t_8 t_36.1.fPins t_36.1.fStrokes t_36.2
noncomputable def laws_FnExactDoWearAct (aF0 : GFrame) (aW1 : GWear) (aA2 : GAct) : Option (Bool) := (laws_szFrame aF0 1048576).bind fun t_1 => (if (decide (t_1 < 0)) = true then some true else (laws_szWear aW1 t_1).bind fun t_2 => (if (decide (t_2 < 0)) = true then some true else (laws_toFrame aF0).bind fun t_37 => (laws_toWear aW1).bind fun t_38 => (laws_toAct aA2).bind fun t_39 => (spec_DoWearAct t_37 t_38 t_39).bind fun t_40 => laws_FnExactDoWearAct.k_6 aF0 aW1 aA2 t_40.1.fPins t_40.1.fStrokes t_40.2))
set_option maxRecDepth 100000 in
set_option maxHeartbeats 8000000 in
theorem laws_FnExactDoWearAct.calls (aF0 : GFrame) (aW1 : GWear) (aA2 : GAct) (w : World) (r : Bool) (aF0_fHammers_a : Option Addr) (aF0_fHammers_an : Nat) (aF0_fHammers_c : Nat) (aF0_fHammers_h : Rw w aF0_fHammers_a 2 encGHammer aF0.fHammers) (aF0_fHammers_hn : aF0.fHammers.length = aF0_fHammers_an) (aW1_fPins_a : Option Addr) (aW1_fPins_an : Nat) (aW1_fPins_c : Nat) (aW1_fPins_h : Rw w aW1_fPins_a 3 encGWornPin aW1.fPins) (aW1_fPins_hn : aW1.fPins.length = aW1_fPins_an) (aW1_fStrokes_a : Option Addr) (aW1_fStrokes_an : Nat) (aW1_fStrokes_c : Nat) (aW1_fStrokes_h : Rw w aW1_fStrokes_a 1 encI64 aW1.fStrokes) (aW1_fStrokes_hn : aW1.fStrokes.length = aW1_fStrokes_an) (h : laws_FnExactDoWearAct aF0 aW1 aA2 = some r) :
    Calls Tryz.prog 3 #[(.agg #[(.int .i16 aF0.fSteps), (.slice aF0_fHammers_a aF0_fHammers_an aF0_fHammers_c)]), (.agg #[(.slice aW1_fPins_a aW1_fPins_an aW1_fPins_c), (.slice aW1_fStrokes_a aW1_fStrokes_an aW1_fStrokes_c)]), (.agg #[(.int .i8 aA2.fKind), (.int .i64 aA2.fA), (.int .i64 aA2.fB), (.int .i64 aA2.fC), (.int .i64 aA2.fD)])] w fun e w' => ∃ v, e = .returned v ∧ (v = (.bool r) ∧ Mem w [] [] w') := by
  subst aF0_fHammers_hn aW1_fPins_hn aW1_fStrokes_hn
  rw [laws_FnExactDoWearAct] at h
  refine enter (args := [(.agg #[(.int .i16 aF0.fSteps), (.slice aF0_fHammers_a aF0.fHammers.length aF0_fHammers_c)]), (.agg #[(.slice aW1_fPins_a aW1.fPins.length aW1_fPins_c), (.slice aW1_fStrokes_a aW1.fStrokes.length aW1_fStrokes_c)]), (.agg #[(.int .i8 aA2.fKind), (.int .i64 aA2.fA), (.int .i64 aA2.fB), (.int .i64 aA2.fC), (.int .i64 aA2.fD)])]) Tryz.func3 rfl Tryz.ntmps3 (by kernel_rfl) (L := []) (W := []) (Mem.start w) ?_
  refine jc_seq ?_
  refine jc_region ?_
  refine toO (by kernel_rfl) (p_a 0 [0] (by kernel_rfl) (fun b => by kernel_rfl) (fun b_1 => jkO ?_))
  refine toO (by kernel_rfl) (p_a 0 [0] (by kernel_rfl) (fun b => by kernel_rfl) (fun b_2 => jkO ?_))
  refine toO (by kernel_rfl) (p_a 0 [0] (by kernel_rfl) (fun b => by kernel_rfl) (fun b_3 => jkO ?_))
  refine jo_f [(0, 0)] (by kernel_rfl) ?_
  refine jo_end (by kernel_rfl) ?_
  refine jx_then ?_
  refine jc_seq ?_
  refine jc_region ?_
  refine jo_f [(0, 0)] (by kernel_rfl) ?_
  refine jo_end (by kernel_rfl) ?_
  refine jx_then ?_
  refine jc_seq ?_
  refine jc_region ?_
  refine jo_f [(0, 0), (0, 0)] (by kernel_rfl) ?_
  obtain ⟨t_1, ht_4, h⟩ := bd h
  refine toO (by kernel_rfl) (p_call 0 5 #[(.agg #[(.int .i16 aF0.fSteps), (.slice aF0_fHammers_a aF0.fHammers.length aF0_fHammers_c)]), (.int .i64 1048576)] (by kernel_rfl) (by kernel_rfl) (fun w hm => laws_szFrame.calls aF0 1048576 w _ aF0_fHammers_a aF0.fHammers.length aF0_fHammers_c (hm.exRow aF0_fHammers_h List.not_mem_nil) rfl ht_4) ?_)
  rintro w v w' hm ⟨rfl, hm'⟩
  refine ⟨_, hm.app hm', jkO ?_⟩
  clear hm hm'
  refine jo_f [(0, 0)] (by kernel_rfl) ?_
  refine jo_end (by kernel_rfl) ?_
  refine jx_then ?_
  refine jc_seq ?_
  refine jc_seq ?_
  refine jc_region ?_
  refine jo_f [(0, 0), (0, 0)] (by kernel_rfl) ?_
  refine jo_end (by kernel_rfl) ?_
  refine jx_then ?_
  refine jc_cond (decide (t_1 < 0)) (by kernel_rfl) (fun hc_6 => ?_) (fun hc_6 => ?_)
  · replace h := ifT hc_6 h
    refine jc_seq ?_
    refine jc_region ?_
    refine jo_f [(0, 0)] (by kernel_rfl) ?_
    refine jo_end (by kernel_rfl) ?_
    refine jx_then ?_
    refine jc_ret ?_
    refine jx_thenr ?_
    obtain rfl := Option.some.inj h
    exact jx_ret [] (.bool true) [] rfl (by kernel_rfl) (by kernel_rfl) (fun w hm => ⟨rfl, hm.pick [] (by kernel_rfl) (by kernel_rfl)⟩)
  · replace h := ifF hc_6 h
    refine jc_skip ?_
    refine jx_then ?_
    refine jc_seq ?_
    refine jc_region ?_
    refine jo_f [(1, 0), (0, 0)] (by kernel_rfl) ?_
    obtain ⟨t_2, ht_7, h⟩ := bd h
    refine toO (by kernel_rfl) (p_call 0 6 #[(.agg #[(.slice aW1_fPins_a aW1.fPins.length aW1_fPins_c), (.slice aW1_fStrokes_a aW1.fStrokes.length aW1_fStrokes_c)]), (.int .i64 t_1)] (by kernel_rfl) (by kernel_rfl) (fun w hm => laws_szWear.calls aW1 t_1 w _ aW1_fPins_a aW1.fPins.length aW1_fPins_c (hm.exRow aW1_fPins_h List.not_mem_nil) rfl aW1_fStrokes_a aW1.fStrokes.length aW1_fStrokes_c (hm.exRow aW1_fStrokes_h List.not_mem_nil) rfl ht_7) ?_)
    rintro w v w' hm ⟨rfl, hm'⟩
    refine ⟨_, hm.app hm', jkO ?_⟩
    clear hm hm'
    refine jo_f [(0, 0)] (by kernel_rfl) ?_
    refine jo_end (by kernel_rfl) ?_
    refine jx_then ?_
    refine jc_seq ?_
    refine jc_seq ?_
    refine jc_region ?_
    refine jo_f [(0, 0), (0, 0)] (by kernel_rfl) ?_
    refine jo_end (by kernel_rfl) ?_
    refine jx_then ?_
    refine jc_cond (decide (t_2 < 0)) (by kernel_rfl) (fun hc_9 => ?_) (fun hc_9 => ?_)
    · replace h := ifT hc_9 h
      refine jc_seq ?_
      refine jc_region ?_
      refine jo_f [(0, 0)] (by kernel_rfl) ?_
      refine jo_end (by kernel_rfl) ?_
      refine jx_then ?_
      refine jc_ret ?_
      refine jx_thenr ?_
      obtain rfl := Option.some.inj h
      exact jx_ret [] (.bool true) [] rfl (by kernel_rfl) (by kernel_rfl) (fun w hm => ⟨rfl, hm.pick [] (by kernel_rfl) (by kernel_rfl)⟩)
    · replace h := ifF hc_9 h
      refine jc_skip ?_
      refine jx_then ?_
      refine jc_seq ?_
      refine jc_meet (fun (j : (List GWornPin) × (List Int) × Int × Nat × (Option Nat) × Nat × (List Value) × Nat × (Option Nat) × Nat × (List Value) × Nat) => match j with | ⟨xs_3, xs_4, i_5, b_119, o_120, cap_121, sp_122, n_123, o_126, cap_127, sp_128, n_129⟩ => laws_FnExactDoWearAct.k_6 aF0 aW1 aA2 xs_3 xs_4 i_5 = some r ∧ (xs_3.length = n_123) ∧ ((o_120 ≠ none → n_123 ≤ cap_121 ∧ sp_122.length = (cap_121 - n_123) * 3)) ∧ ((o_120 = none → xs_3 = [] ∧ cap_121 = 0)) ∧ (xs_4.length = n_129) ∧ ((o_126 ≠ none → n_129 ≤ cap_127 ∧ sp_128.length = (cap_127 - n_129) * 1)) ∧ ((o_126 = none → xs_4 = [] ∧ cap_127 = 0))) (fun (j : (List GWornPin) × (List Int) × Int × Nat × (Option Nat) × Nat × (List Value) × Nat × (Option Nat) × Nat × (List Value) × Nat) => match j with | ⟨xs_3, xs_4, i_5, b_119, o_120, cap_121, sp_122, n_123, o_126, cap_127, sp_128, n_129⟩ => [(3, [], (.pointer (some ⟨b_1, 0, none⟩))), (4, [], (.pointer (some ⟨b_2, 0, none⟩))), (5, [], (.pointer (some ⟨b_3, 0, none⟩))), (6, [], (.bool false)), (8, [], (.pointer (some ⟨b_119, 0, none⟩))), (9, [], (.int .i64 i_5))]) (fun (j : (List GWornPin) × (List Int) × Int × Nat × (Option Nat) × Nat × (List Value) × Nat × (Option Nat) × Nat × (List Value) × Nat) => match j with | ⟨xs_3, xs_4, i_5, b_119, o_120, cap_121, sp_122, n_123, o_126, cap_127, sp_128, n_129⟩ => [⟨some b_1, 25, [(.int .i16 aF0.fSteps), (.slice aF0_fHammers_a aF0.fHammers.length aF0_fHammers_c)]⟩, ⟨some b_2, 29, [(.slice aW1_fPins_a aW1.fPins.length aW1_fPins_c), (.slice aW1_fStrokes_a aW1.fStrokes.length aW1_fStrokes_c)]⟩, ⟨some b_3, 32, [(.int .i8 aA2.fKind), (.int .i64 aA2.fA), (.int .i64 aA2.fB), (.int .i64 aA2.fC), (.int .i64 aA2.fD)]⟩, ⟨some b_119, 37, [(.slice (o_120.map fun b => ⟨b, 0, none⟩) n_123 cap_121), (.slice (o_126.map fun b => ⟨b, 0, none⟩) n_129 cap_127)]⟩, ⟨o_120, 108, row encGWornPin xs_3 sp_122⟩, ⟨o_126, 2, row encI64 xs_4 sp_128⟩]) ?_ ?_
      · refine jc_draw [⟨some b_1, 25, [(.int .i16 aF0.fSteps), (.slice aF0_fHammers_a aF0.fHammers.length aF0_fHammers_c)]⟩, ⟨some b_2, 29, [(.slice aW1_fPins_a aW1.fPins.length aW1_fPins_c), (.slice aW1_fStrokes_a aW1.fStrokes.length aW1_fStrokes_c)]⟩, ⟨some b_3, 32, [(.int .i8 aA2.fKind), (.int .i64 aA2.fA), (.int .i64 aA2.fB), (.int .i64 aA2.fC), (.int .i64 aA2.fD)]⟩] 13 (by kernel_rfl) (by kernel_rfl) ?_
        refine jd_f [⟨0, 0, 0⟩, ⟨2, 1, 0⟩, ⟨4, 2, 0⟩] 10 (by kernel_rfl) (by kernel_rfl) (fun w h => h.pick [0, 1, 2] (by kernel_rfl) (by kernel_rfl)) (by kernel_rfl) (by kernel_rfl) ?_
        refine toD2 1 10 (by kernel_rfl) ?_ ?_
        · obtain ⟨t_37, ht_698, h⟩ := bd h
          refine p_call 0 8 #[(.agg #[(.int .i16 aF0.fSteps), (.slice aF0_fHammers_a aF0.fHammers.length aF0_fHammers_c)])] (by kernel_rfl) (by kernel_rfl) (fun w hm => laws_toFrame.calls aF0 w _ aF0_fHammers_a aF0.fHammers.length aF0_fHammers_c (hm.exRow aF0_fHammers_h List.not_mem_nil) rfl ht_698) ?_
          rintro w v w' hm ⟨o_699, cap_700, sp_701, _, rfl, hs_702, ho_703, rfl, hm'⟩
          refine ⟨_, hm.app hm', jkD (fun w h => h.pick [0, 1, 2] (by kernel_rfl) (by kernel_rfl)) ?_⟩
          clear hm hm'
          refine toD2 3 10 (by kernel_rfl) ?_ ?_
          · obtain ⟨t_38, ht_704, h⟩ := bd h
            refine p_call 0 9 #[(.agg #[(.slice aW1_fPins_a aW1.fPins.length aW1_fPins_c), (.slice aW1_fStrokes_a aW1.fStrokes.length aW1_fStrokes_c)])] (by kernel_rfl) (by kernel_rfl) (fun w hm => laws_toWear.calls aW1 w _ aW1_fPins_a aW1.fPins.length aW1_fPins_c (hm.exRow aW1_fPins_h List.not_mem_nil) rfl aW1_fStrokes_a aW1.fStrokes.length aW1_fStrokes_c (hm.exRow aW1_fStrokes_h List.not_mem_nil) rfl ht_704) ?_
            rintro w v w' hm ⟨o_705, cap_706, sp_707, _, rfl, hs_708, ho_709, o_710, cap_711, sp_712, _, rfl, hs_713, ho_714, rfl, hm'⟩
            refine ⟨_, hm.app hm', jkD (fun w h => h.pick [0, 1, 2] (by kernel_rfl) (by kernel_rfl)) ?_⟩
            clear hm hm'
            refine toD2 5 10 (by kernel_rfl) ?_ ?_
            · obtain ⟨t_39, ht_715, h⟩ := bd h
              refine p_call 0 10 #[(.agg #[(.int .i8 aA2.fKind), (.int .i64 aA2.fA), (.int .i64 aA2.fB), (.int .i64 aA2.fC), (.int .i64 aA2.fD)])] (by kernel_rfl) (by kernel_rfl) (fun w hm => laws_toAct.calls aA2 w _ ht_715) ?_
              rintro w v w' hm ⟨rfl, hm'⟩
              refine ⟨_, hm.app hm', jkD (fun w h => h.pick [0, 1, 2] (by kernel_rfl) (by kernel_rfl)) ?_⟩
              clear hm hm'
              refine toD2 6 10 (by kernel_rfl) ?_ ?_
              · obtain ⟨t_40, ht_716, h⟩ := bd h
                refine p_call 0 7 #[(.agg #[(.int .i16 t_37.fSteps), (.slice (o_699.map fun b => ⟨b, 0, none⟩) t_37.fHammers.length cap_700)]), (.agg #[(.slice (o_705.map fun b => ⟨b, 0, none⟩) t_38.fPins.length cap_706), (.slice (o_710.map fun b => ⟨b, 0, none⟩) t_38.fStrokes.length cap_711)]), (.agg #[(.int .i8 t_39.fKind), (.int .i64 t_39.fA), (.int .i64 t_39.fB), (.int .i64 t_39.fC), (.int .i64 t_39.fD)])] (by kernel_rfl) (by kernel_rfl) (fun w hm => spec_DoWearAct.calls t_37 t_38 t_39 w _ (o_699.map fun b => ⟨b, 0, none⟩) t_37.fHammers.length cap_700 (hm.ownRow (hh := 3) (o := o_699) (T := 119) (enc := encGHammer) (xs := t_37.fHammers) (sp := sp_701) (by kernel_rfl) (fun e => (ho_703 e).1) encGHammer_len) rfl (o_705.map fun b => ⟨b, 0, none⟩) t_38.fPins.length cap_706 (hm.ownRow (hh := 4) (o := o_705) (T := 108) (enc := encGWornPin) (xs := t_38.fPins) (sp := sp_707) (by kernel_rfl) (fun e => (ho_709 e).1) encGWornPin_len) rfl (o_710.map fun b => ⟨b, 0, none⟩) t_38.fStrokes.length cap_711 (hm.ownRow (hh := 5) (o := o_710) (T := 2) (enc := encI64) (xs := t_38.fStrokes) (sp := sp_712) (by kernel_rfl) (fun e => (ho_714 e).1) encI64_len) rfl ht_716) ?_
                rintro w v w' hm ⟨o_717, cap_718, sp_719, _, rfl, hs_720, ho_721, o_722, cap_723, sp_724, _, rfl, hs_725, ho_726, rfl, hm'⟩
                refine ⟨_, hm.app hm', jkD (fun w h => h.pick [0, 1, 2] (by kernel_rfl) (by kernel_rfl)) ?_⟩
                clear hm hm'
                refine jd_f [⟨7, 0, 0⟩, ⟨8, 0, 0⟩, ⟨9, 0, 0⟩] 3 (by kernel_rfl) (by kernel_rfl) (fun w h => h.pick [0, 1, 2] (by kernel_rfl) (by kernel_rfl)) (by kernel_rfl) (by kernel_rfl) ?_
                refine toD 10 (by kernel_rfl) (p_a 0 [0] (by kernel_rfl) (fun b => by kernel_rfl) (fun b_727 => jkD (fun w h => h.pick [0, 1, 2] (by kernel_rfl) (by kernel_rfl)) ?_))
                refine toD 11 (by kernel_rfl) (p_s 0 [8] (by kernel_rfl) (by kernel_rfl) (jkD (fun w h => h.pick [0, 1, 2] (by kernel_rfl) (by kernel_rfl)) ?_))
                refine jd_f [⟨12, 0, 0⟩] 0 (by kernel_rfl) (by kernel_rfl) (fun w h => h.pick [0, 1, 2] (by kernel_rfl) (by kernel_rfl)) (by kernel_rfl) (by kernel_rfl) ?_
                refine jd_end (by kernel_rfl) ?_
                exact jx_meet ⟨t_40.1.fPins, t_40.1.fStrokes, t_40.2, b_727, o_717, cap_718, sp_719, t_40.1.fPins.length, o_722, cap_723, sp_724, t_40.1.fStrokes.length⟩ ⟨h, rfl, hs_720, ho_721, rfl, hs_725, ho_726⟩ (by kernel_rfl) [0, 1, 2, 8, 6, 7] (by kernel_rfl) (by kernel_rfl)
              · refine p_a 0 [0] (by kernel_rfl) (fun b => by kernel_rfl) (fun b_728 => jkD (fun w h => h.pick [0, 1, 2] (by kernel_rfl) (by kernel_rfl)) ?_)
                obtain ⟨t_40, ht_729, h⟩ := bd h
                refine toD 6 (by kernel_rfl) (p_call 0 7 #[(.agg #[(.int .i16 t_37.fSteps), (.slice (o_699.map fun b => ⟨b, 0, none⟩) t_37.fHammers.length cap_700)]), (.agg #[(.slice (o_705.map fun b => ⟨b, 0, none⟩) t_38.fPins.length cap_706), (.slice (o_710.map fun b => ⟨b, 0, none⟩) t_38.fStrokes.length cap_711)]), (.agg #[(.int .i8 t_39.fKind), (.int .i64 t_39.fA), (.int .i64 t_39.fB), (.int .i64 t_39.fC), (.int .i64 t_39.fD)])] (by kernel_rfl) (by kernel_rfl) (fun w hm => spec_DoWearAct.calls t_37 t_38 t_39 w _ (o_699.map fun b => ⟨b, 0, none⟩) t_37.fHammers.length cap_700 (hm.ownRow (hh := 3) (o := o_699) (T := 119) (enc := encGHammer) (xs := t_37.fHammers) (sp := sp_701) (by kernel_rfl) (fun e => (ho_703 e).1) encGHammer_len) rfl (o_705.map fun b => ⟨b, 0, none⟩) t_38.fPins.length cap_706 (hm.ownRow (hh := 4) (o := o_705) (T := 108) (enc := encGWornPin) (xs := t_38.fPins) (sp := sp_707) (by kernel_rfl) (fun e => (ho_709 e).1) encGWornPin_len) rfl (o_710.map fun b => ⟨b, 0, none⟩) t_38.fStrokes.length cap_711 (hm.ownRow (hh := 5) (o := o_710) (T := 2) (enc := encI64) (xs := t_38.fStrokes) (sp := sp_712) (by kernel_rfl) (fun e => (ho_714 e).1) encI64_len) rfl ht_729) ?_)
                rintro w v w' hm ⟨o_730, cap_731, sp_732, _, rfl, hs_733, ho_734, o_735, cap_736, sp_737, _, rfl, hs_738, ho_739, rfl, hm'⟩
                refine ⟨_, hm.app hm', jkD (fun w h => h.pick [0, 1, 2] (by kernel_rfl) (by kernel_rfl)) ?_⟩
                clear hm hm'
                refine jd_f [⟨7, 0, 0⟩, ⟨8, 0, 0⟩, ⟨9, 0, 0⟩] 2 (by kernel_rfl) (by kernel_rfl) (fun w h => h.pick [0, 1, 2] (by kernel_rfl) (by kernel_rfl)) (by kernel_rfl) (by kernel_rfl) ?_
                refine toD 11 (by kernel_rfl) (p_s 0 [6] (by kernel_rfl) (by kernel_rfl) (jkD (fun w h => h.pick [0, 1, 2] (by kernel_rfl) (by kernel_rfl)) ?_))
                refine jd_f [⟨12, 0, 0⟩] 0 (by kernel_rfl) (by kernel_rfl) (fun w h => h.pick [0, 1, 2] (by kernel_rfl) (by kernel_rfl)) (by kernel_rfl) (by kernel_rfl) ?_
                refine jd_end (by kernel_rfl) ?_
                exact jx_meet ⟨t_40.1.fPins, t_40.1.fStrokes, t_40.2, b_728, o_730, cap_731, sp_732, t_40.1.fPins.length, o_735, cap_736, sp_737, t_40.1.fStrokes.length⟩ ⟨h, rfl, hs_733, ho_734, rfl, hs_738, ho_739⟩ (by kernel_rfl) [0, 1, 2, 6, 7, 8] (by kernel_rfl) (by kernel_rfl)
            · refine p_a 0 [0] (by kernel_rfl) (fun b => by kernel_rfl) (fun b_740 => jkD (fun w h => h.pick [0, 1, 2] (by kernel_rfl) (by kernel_rfl)) ?_)
              obtain ⟨t_39, ht_741, h⟩ := bd h
              refine toD 5 (by kernel_rfl) (p_call 0 10 #[(.agg #[(.int .i8 aA2.fKind), (.int .i64 aA2.fA), (.int .i64 aA2.fB), (.int .i64 aA2.fC), (.int .i64 aA2.fD)])] (by kernel_rfl) (by kernel_rfl) (fun w hm => laws_toAct.calls aA2 w _ ht_741) ?_)
              rintro w v w' hm ⟨rfl, hm'⟩
              refine ⟨_, hm.app hm', jkD (fun w h => h.pick [0, 1, 2] (by kernel_rfl) (by kernel_rfl)) ?_⟩
              clear hm hm'
              obtain ⟨t_40, ht_742, h⟩ := bd h
              refine toD 6 (by kernel_rfl) (p_call 0 7 #[(.agg #[(.int .i16 t_37.fSteps), (.slice (o_699.map fun b => ⟨b, 0, none⟩) t_37.fHammers.length cap_700)]), (.agg #[(.slice (o_705.map fun b => ⟨b, 0, none⟩) t_38.fPins.length cap_706), (.slice (o_710.map fun b => ⟨b, 0, none⟩) t_38.fStrokes.length cap_711)]), (.agg #[(.int .i8 t_39.fKind), (.int .i64 t_39.fA), (.int .i64 t_39.fB), (.int .i64 t_39.fC), (.int .i64 t_39.fD)])] (by kernel_rfl) (by kernel_rfl) (fun w hm => spec_DoWearAct.calls t_37 t_38 t_39 w _ (o_699.map fun b => ⟨b, 0, none⟩) t_37.fHammers.length cap_700 (hm.ownRow (hh := 3) (o := o_699) (T := 119) (enc := encGHammer) (xs := t_37.fHammers) (sp := sp_701) (by kernel_rfl) (fun e => (ho_703 e).1) encGHammer_len) rfl (o_705.map fun b => ⟨b, 0, none⟩) t_38.fPins.length cap_706 (hm.ownRow (hh := 4) (o := o_705) (T := 108) (enc := encGWornPin) (xs := t_38.fPins) (sp := sp_707) (by kernel_rfl) (fun e => (ho_709 e).1) encGWornPin_len) rfl (o_710.map fun b => ⟨b, 0, none⟩) t_38.fStrokes.length cap_711 (hm.ownRow (hh := 5) (o := o_710) (T := 2) (enc := encI64) (xs := t_38.fStrokes) (sp := sp_712) (by kernel_rfl) (fun e => (ho_714 e).1) encI64_len) rfl ht_742) ?_)
              rintro w v w' hm ⟨o_743, cap_744, sp_745, _, rfl, hs_746, ho_747, o_748, cap_749, sp_750, _, rfl, hs_751, ho_752, rfl, hm'⟩
              refine ⟨_, hm.app hm', jkD (fun w h => h.pick [0, 1, 2] (by kernel_rfl) (by kernel_rfl)) ?_⟩
              clear hm hm'
              refine jd_f [⟨7, 0, 0⟩, ⟨8, 0, 0⟩, ⟨9, 0, 0⟩] 2 (by kernel_rfl) (by kernel_rfl) (fun w h => h.pick [0, 1, 2] (by kernel_rfl) (by kernel_rfl)) (by kernel_rfl) (by kernel_rfl) ?_
              refine toD 11 (by kernel_rfl) (p_s 0 [6] (by kernel_rfl) (by kernel_rfl) (jkD (fun w h => h.pick [0, 1, 2] (by kernel_rfl) (by kernel_rfl)) ?_))
              refine jd_f [⟨12, 0, 0⟩] 0 (by kernel_rfl) (by kernel_rfl) (fun w h => h.pick [0, 1, 2] (by kernel_rfl) (by kernel_rfl)) (by kernel_rfl) (by kernel_rfl) ?_
              refine jd_end (by kernel_rfl) ?_
              exact jx_meet ⟨t_40.1.fPins, t_40.1.fStrokes, t_40.2, b_740, o_743, cap_744, sp_745, t_40.1.fPins.length, o_748, cap_749, sp_750, t_40.1.fStrokes.length⟩ ⟨h, rfl, hs_746, ho_747, rfl, hs_751, ho_752⟩ (by kernel_rfl) [0, 1, 2, 6, 7, 8] (by kernel_rfl) (by kernel_rfl)
          · refine p_a 0 [0] (by kernel_rfl) (fun b => by kernel_rfl) (fun b_753 => jkD (fun w h => h.pick [0, 1, 2] (by kernel_rfl) (by kernel_rfl)) ?_)
            obtain ⟨t_38, ht_754, h⟩ := bd h
            refine toD 3 (by kernel_rfl) (p_call 0 9 #[(.agg #[(.slice aW1_fPins_a aW1.fPins.length aW1_fPins_c), (.slice aW1_fStrokes_a aW1.fStrokes.length aW1_fStrokes_c)])] (by kernel_rfl) (by kernel_rfl) (fun w hm => laws_toWear.calls aW1 w _ aW1_fPins_a aW1.fPins.length aW1_fPins_c (hm.exRow aW1_fPins_h List.not_mem_nil) rfl aW1_fStrokes_a aW1.fStrokes.length aW1_fStrokes_c (hm.exRow aW1_fStrokes_h List.not_mem_nil) rfl ht_754) ?_)
            rintro w v w' hm ⟨o_755, cap_756, sp_757, _, rfl, hs_758, ho_759, o_760, cap_761, sp_762, _, rfl, hs_763, ho_764, rfl, hm'⟩
            refine ⟨_, hm.app hm', jkD (fun w h => h.pick [0, 1, 2] (by kernel_rfl) (by kernel_rfl)) ?_⟩
            clear hm hm'
            obtain ⟨t_39, ht_765, h⟩ := bd h
            refine toD 5 (by kernel_rfl) (p_call 0 10 #[(.agg #[(.int .i8 aA2.fKind), (.int .i64 aA2.fA), (.int .i64 aA2.fB), (.int .i64 aA2.fC), (.int .i64 aA2.fD)])] (by kernel_rfl) (by kernel_rfl) (fun w hm => laws_toAct.calls aA2 w _ ht_765) ?_)
            rintro w v w' hm ⟨rfl, hm'⟩
            refine ⟨_, hm.app hm', jkD (fun w h => h.pick [0, 1, 2] (by kernel_rfl) (by kernel_rfl)) ?_⟩
            clear hm hm'
            obtain ⟨t_40, ht_766, h⟩ := bd h
            refine toD 6 (by kernel_rfl) (p_call 0 7 #[(.agg #[(.int .i16 t_37.fSteps), (.slice (o_699.map fun b => ⟨b, 0, none⟩) t_37.fHammers.length cap_700)]), (.agg #[(.slice (o_755.map fun b => ⟨b, 0, none⟩) t_38.fPins.length cap_756), (.slice (o_760.map fun b => ⟨b, 0, none⟩) t_38.fStrokes.length cap_761)]), (.agg #[(.int .i8 t_39.fKind), (.int .i64 t_39.fA), (.int .i64 t_39.fB), (.int .i64 t_39.fC), (.int .i64 t_39.fD)])] (by kernel_rfl) (by kernel_rfl) (fun w hm => spec_DoWearAct.calls t_37 t_38 t_39 w _ (o_699.map fun b => ⟨b, 0, none⟩) t_37.fHammers.length cap_700 (hm.ownRow (hh := 3) (o := o_699) (T := 119) (enc := encGHammer) (xs := t_37.fHammers) (sp := sp_701) (by kernel_rfl) (fun e => (ho_703 e).1) encGHammer_len) rfl (o_755.map fun b => ⟨b, 0, none⟩) t_38.fPins.length cap_756 (hm.ownRow (hh := 5) (o := o_755) (T := 108) (enc := encGWornPin) (xs := t_38.fPins) (sp := sp_757) (by kernel_rfl) (fun e => (ho_759 e).1) encGWornPin_len) rfl (o_760.map fun b => ⟨b, 0, none⟩) t_38.fStrokes.length cap_761 (hm.ownRow (hh := 6) (o := o_760) (T := 2) (enc := encI64) (xs := t_38.fStrokes) (sp := sp_762) (by kernel_rfl) (fun e => (ho_764 e).1) encI64_len) rfl ht_766) ?_)
            rintro w v w' hm ⟨o_767, cap_768, sp_769, _, rfl, hs_770, ho_771, o_772, cap_773, sp_774, _, rfl, hs_775, ho_776, rfl, hm'⟩
            refine ⟨_, hm.app hm', jkD (fun w h => h.pick [0, 1, 2] (by kernel_rfl) (by kernel_rfl)) ?_⟩
            clear hm hm'
            refine jd_f [⟨7, 0, 0⟩, ⟨8, 0, 0⟩, ⟨9, 0, 0⟩] 2 (by kernel_rfl) (by kernel_rfl) (fun w h => h.pick [0, 1, 2] (by kernel_rfl) (by kernel_rfl)) (by kernel_rfl) (by kernel_rfl) ?_
            refine toD 11 (by kernel_rfl) (p_s 0 [4] (by kernel_rfl) (by kernel_rfl) (jkD (fun w h => h.pick [0, 1, 2] (by kernel_rfl) (by kernel_rfl)) ?_))
            refine jd_f [⟨12, 0, 0⟩] 0 (by kernel_rfl) (by kernel_rfl) (fun w h => h.pick [0, 1, 2] (by kernel_rfl) (by kernel_rfl)) (by kernel_rfl) (by kernel_rfl) ?_
            refine jd_end (by kernel_rfl) ?_
            exact jx_meet ⟨t_40.1.fPins, t_40.1.fStrokes, t_40.2, b_753, o_767, cap_768, sp_769, t_40.1.fPins.length, o_772, cap_773, sp_774, t_40.1.fStrokes.length⟩ ⟨h, rfl, hs_770, ho_771, rfl, hs_775, ho_776⟩ (by kernel_rfl) [0, 1, 2, 4, 7, 8] (by kernel_rfl) (by kernel_rfl)
        · refine p_a 0 [0] (by kernel_rfl) (fun b => by kernel_rfl) (fun b_777 => jkD (fun w h => h.pick [0, 1, 2] (by kernel_rfl) (by kernel_rfl)) ?_)
          obtain ⟨t_37, ht_778, h⟩ := bd h
          refine toD 1 (by kernel_rfl) (p_call 0 8 #[(.agg #[(.int .i16 aF0.fSteps), (.slice aF0_fHammers_a aF0.fHammers.length aF0_fHammers_c)])] (by kernel_rfl) (by kernel_rfl) (fun w hm => laws_toFrame.calls aF0 w _ aF0_fHammers_a aF0.fHammers.length aF0_fHammers_c (hm.exRow aF0_fHammers_h List.not_mem_nil) rfl ht_778) ?_)
          rintro w v w' hm ⟨o_779, cap_780, sp_781, _, rfl, hs_782, ho_783, rfl, hm'⟩
          refine ⟨_, hm.app hm', jkD (fun w h => h.pick [0, 1, 2] (by kernel_rfl) (by kernel_rfl)) ?_⟩
          clear hm hm'
          obtain ⟨t_38, ht_784, h⟩ := bd h
          refine toD 3 (by kernel_rfl) (p_call 0 9 #[(.agg #[(.slice aW1_fPins_a aW1.fPins.length aW1_fPins_c), (.slice aW1_fStrokes_a aW1.fStrokes.length aW1_fStrokes_c)])] (by kernel_rfl) (by kernel_rfl) (fun w hm => laws_toWear.calls aW1 w _ aW1_fPins_a aW1.fPins.length aW1_fPins_c (hm.exRow aW1_fPins_h List.not_mem_nil) rfl aW1_fStrokes_a aW1.fStrokes.length aW1_fStrokes_c (hm.exRow aW1_fStrokes_h List.not_mem_nil) rfl ht_784) ?_)
          rintro w v w' hm ⟨o_785, cap_786, sp_787, _, rfl, hs_788, ho_789, o_790, cap_791, sp_792, _, rfl, hs_793, ho_794, rfl, hm'⟩
          refine ⟨_, hm.app hm', jkD (fun w h => h.pick [0, 1, 2] (by kernel_rfl) (by kernel_rfl)) ?_⟩
          clear hm hm'
          obtain ⟨t_39, ht_795, h⟩ := bd h
          refine toD 5 (by kernel_rfl) (p_call 0 10 #[(.agg #[(.int .i8 aA2.fKind), (.int .i64 aA2.fA), (.int .i64 aA2.fB), (.int .i64 aA2.fC), (.int .i64 aA2.fD)])] (by kernel_rfl) (by kernel_rfl) (fun w hm => laws_toAct.calls aA2 w _ ht_795) ?_)
          rintro w v w' hm ⟨rfl, hm'⟩
          refine ⟨_, hm.app hm', jkD (fun w h => h.pick [0, 1, 2] (by kernel_rfl) (by kernel_rfl)) ?_⟩
          clear hm hm'
          obtain ⟨t_40, ht_796, h⟩ := bd h
          refine toD 6 (by kernel_rfl) (p_call 0 7 #[(.agg #[(.int .i16 t_37.fSteps), (.slice (o_779.map fun b => ⟨b, 0, none⟩) t_37.fHammers.length cap_780)]), (.agg #[(.slice (o_785.map fun b => ⟨b, 0, none⟩) t_38.fPins.length cap_786), (.slice (o_790.map fun b => ⟨b, 0, none⟩) t_38.fStrokes.length cap_791)]), (.agg #[(.int .i8 t_39.fKind), (.int .i64 t_39.fA), (.int .i64 t_39.fB), (.int .i64 t_39.fC), (.int .i64 t_39.fD)])] (by kernel_rfl) (by kernel_rfl) (fun w hm => spec_DoWearAct.calls t_37 t_38 t_39 w _ (o_779.map fun b => ⟨b, 0, none⟩) t_37.fHammers.length cap_780 (hm.ownRow (hh := 4) (o := o_779) (T := 119) (enc := encGHammer) (xs := t_37.fHammers) (sp := sp_781) (by kernel_rfl) (fun e => (ho_783 e).1) encGHammer_len) rfl (o_785.map fun b => ⟨b, 0, none⟩) t_38.fPins.length cap_786 (hm.ownRow (hh := 5) (o := o_785) (T := 108) (enc := encGWornPin) (xs := t_38.fPins) (sp := sp_787) (by kernel_rfl) (fun e => (ho_789 e).1) encGWornPin_len) rfl (o_790.map fun b => ⟨b, 0, none⟩) t_38.fStrokes.length cap_791 (hm.ownRow (hh := 6) (o := o_790) (T := 2) (enc := encI64) (xs := t_38.fStrokes) (sp := sp_792) (by kernel_rfl) (fun e => (ho_794 e).1) encI64_len) rfl ht_796) ?_)
          rintro w v w' hm ⟨o_797, cap_798, sp_799, _, rfl, hs_800, ho_801, o_802, cap_803, sp_804, _, rfl, hs_805, ho_806, rfl, hm'⟩
          refine ⟨_, hm.app hm', jkD (fun w h => h.pick [0, 1, 2] (by kernel_rfl) (by kernel_rfl)) ?_⟩
          clear hm hm'
          refine jd_f [⟨7, 0, 0⟩, ⟨8, 0, 0⟩, ⟨9, 0, 0⟩] 2 (by kernel_rfl) (by kernel_rfl) (fun w h => h.pick [0, 1, 2] (by kernel_rfl) (by kernel_rfl)) (by kernel_rfl) (by kernel_rfl) ?_
          refine toD 11 (by kernel_rfl) (p_s 0 [3] (by kernel_rfl) (by kernel_rfl) (jkD (fun w h => h.pick [0, 1, 2] (by kernel_rfl) (by kernel_rfl)) ?_))
          refine jd_f [⟨12, 0, 0⟩] 0 (by kernel_rfl) (by kernel_rfl) (fun w h => h.pick [0, 1, 2] (by kernel_rfl) (by kernel_rfl)) (by kernel_rfl) (by kernel_rfl) ?_
          refine jd_end (by kernel_rfl) ?_
          exact jx_meet ⟨t_40.1.fPins, t_40.1.fStrokes, t_40.2, b_777, o_797, cap_798, sp_799, t_40.1.fPins.length, o_802, cap_803, sp_804, t_40.1.fStrokes.length⟩ ⟨h, rfl, hs_800, ho_801, rfl, hs_805, ho_806⟩ (by kernel_rfl) [0, 1, 2, 3, 7, 8] (by kernel_rfl) (by kernel_rfl)
      · rintro ⟨xs_3, xs_4, i_5, b_119, o_120, cap_121, sp_122, n_123, o_126, cap_127, sp_128, n_129⟩ ⟨h, rfl, hs_124, ho_125, rfl, hs_130, ho_131⟩
        replace h : laws_FnExactDoWearAct.k_6 aF0 aW1 aA2 xs_3 xs_4 i_5 = some r := h
        rw [laws_FnExactDoWearAct.k_6] at h
        refine jx_then ?_
        refine jc_seq ?_
        refine jc_region ?_
        refine jo_f [(0, 0)] (by kernel_rfl) ?_
        obtain ⟨t_7, ht_132, h⟩ := bd h
        refine toO (by kernel_rfl) (p_call 0 8 #[(.agg #[(.int .i16 aF0.fSteps), (.slice aF0_fHammers_a aF0.fHammers.length aF0_fHammers_c)])] (by kernel_rfl) (by kernel_rfl) (fun w hm => laws_toFrame.calls aF0 w _ aF0_fHammers_a aF0.fHammers.length aF0_fHammers_c (hm.exRow aF0_fHammers_h List.not_mem_nil) rfl ht_132) ?_)
        rintro w v w' hm ⟨o_133, cap_134, sp_135, _, rfl, hs_136, ho_137, rfl, hm'⟩
        refine ⟨_, hm.app hm', jkO ?_⟩
        clear hm hm'
        refine toO (by kernel_rfl) (p_a 0 [0] (by kernel_rfl) (fun b => by kernel_rfl) (fun b_138 => jkO ?_))
        refine toO (by kernel_rfl) (p_s 0 [7] (by kernel_rfl) (by kernel_rfl) (jkO ?_))
        refine jo_end (by kernel_rfl) ?_
        refine jx_then ?_
        refine jc_seq ?_
        refine jc_region ?_
        refine jo_f [(1, 0)] (by kernel_rfl) ?_
        obtain ⟨t_8, ht_139, h⟩ := bd h
        refine toO (by kernel_rfl) (p_call 0 9 #[(.agg #[(.slice aW1_fPins_a aW1.fPins.length aW1_fPins_c), (.slice aW1_fStrokes_a aW1.fStrokes.length aW1_fStrokes_c)])] (by kernel_rfl) (by kernel_rfl) (fun w hm => laws_toWear.calls aW1 w _ aW1_fPins_a aW1.fPins.length aW1_fPins_c (hm.exRow aW1_fPins_h List.not_mem_nil) rfl aW1_fStrokes_a aW1.fStrokes.length aW1_fStrokes_c (hm.exRow aW1_fStrokes_h List.not_mem_nil) rfl ht_139) ?_)
        rintro w v w' hm ⟨o_140, cap_141, sp_142, _, rfl, hs_143, ho_144, o_145, cap_146, sp_147, _, rfl, hs_148, ho_149, rfl, hm'⟩
        refine ⟨_, hm.app hm', jkO ?_⟩
        clear hm hm'
        refine toO (by kernel_rfl) (p_a 0 [0] (by kernel_rfl) (fun b => by kernel_rfl) (fun b_150 => jkO ?_))
        refine toO (by kernel_rfl) (p_s 0 [10] (by kernel_rfl) (by kernel_rfl) (jkO ?_))
        refine jo_end (by kernel_rfl) ?_
        refine jx_then ?_
        refine jc_seq ?_
        refine jc_meet (fun (j : (List GWornPin) × (List Int) × Int × Nat × (Option Nat) × Nat × (List Value) × Nat × (Option Nat) × Nat × (List Value) × Nat) => match j with | ⟨xs_9, xs_10, i_11, b_189, o_190, cap_191, sp_192, n_193, o_196, cap_197, sp_198, n_199⟩ => laws_FnExactDoWearAct.k_12 aF0 aW1 aA2 xs_3 xs_4 i_5 t_7 t_8 xs_9 xs_10 i_11 = some r ∧ (xs_9.length = n_193) ∧ ((o_190 ≠ none → n_193 ≤ cap_191 ∧ sp_192.length = (cap_191 - n_193) * 3)) ∧ ((o_190 = none → xs_9 = [] ∧ cap_191 = 0)) ∧ (xs_10.length = n_199) ∧ ((o_196 ≠ none → n_199 ≤ cap_197 ∧ sp_198.length = (cap_197 - n_199) * 1)) ∧ ((o_196 = none → xs_10 = [] ∧ cap_197 = 0))) (fun (j : (List GWornPin) × (List Int) × Int × Nat × (Option Nat) × Nat × (List Value) × Nat × (Option Nat) × Nat × (List Value) × Nat) => match j with | ⟨xs_9, xs_10, i_11, b_189, o_190, cap_191, sp_192, n_193, o_196, cap_197, sp_198, n_199⟩ => [(3, [], (.pointer (some ⟨b_1, 0, none⟩))), (4, [], (.pointer (some ⟨b_2, 0, none⟩))), (5, [], (.pointer (some ⟨b_3, 0, none⟩))), (6, [], (.bool false)), (8, [], (.pointer (some ⟨b_119, 0, none⟩))), (9, [], (.int .i64 i_5)), (10, [], (.pointer (some ⟨b_138, 0, none⟩))), (11, [], (.pointer (some ⟨b_150, 0, none⟩))), (12, [], (.pointer (some ⟨b_189, 0, none⟩))), (13, [], (.int .i64 i_11))]) (fun (j : (List GWornPin) × (List Int) × Int × Nat × (Option Nat) × Nat × (List Value) × Nat × (Option Nat) × Nat × (List Value) × Nat) => match j with | ⟨xs_9, xs_10, i_11, b_189, o_190, cap_191, sp_192, n_193, o_196, cap_197, sp_198, n_199⟩ => [⟨some b_1, 25, [(.int .i16 aF0.fSteps), (.slice aF0_fHammers_a aF0.fHammers.length aF0_fHammers_c)]⟩, ⟨some b_2, 29, [(.slice aW1_fPins_a aW1.fPins.length aW1_fPins_c), (.slice aW1_fStrokes_a aW1.fStrokes.length aW1_fStrokes_c)]⟩, ⟨some b_3, 32, [(.int .i8 aA2.fKind), (.int .i64 aA2.fA), (.int .i64 aA2.fB), (.int .i64 aA2.fC), (.int .i64 aA2.fD)]⟩, ⟨some b_119, 37, [(.slice (o_120.map fun b => ⟨b, 0, none⟩) xs_3.length cap_121), (.slice (o_126.map fun b => ⟨b, 0, none⟩) xs_4.length cap_127)]⟩, ⟨o_120, 108, row encGWornPin xs_3 sp_122⟩, ⟨o_126, 2, row encI64 xs_4 sp_128⟩, ⟨o_133, 119, row encGHammer t_7.fHammers sp_135⟩, ⟨some b_138, 42, [(.int .i16 t_7.fSteps), (.slice (o_133.map fun b => ⟨b, 0, none⟩) t_7.fHammers.length cap_134)]⟩, ⟨o_140, 108, row encGWornPin t_8.fPins sp_142⟩, ⟨o_145, 2, row encI64 t_8.fStrokes sp_147⟩, ⟨some b_150, 37, [(.slice (o_140.map fun b => ⟨b, 0, none⟩) t_8.fPins.length cap_141), (.slice (o_145.map fun b => ⟨b, 0, none⟩) t_8.fStrokes.length cap_146)]⟩, ⟨some b_189, 37, [(.slice (o_190.map fun b => ⟨b, 0, none⟩) n_193 cap_191), (.slice (o_196.map fun b => ⟨b, 0, none⟩) n_199 cap_197)]⟩, ⟨o_190, 108, row encGWornPin xs_9 sp_192⟩, ⟨o_196, 2, row encI64 xs_10 sp_198⟩]) ?_ ?_
        · refine jc_draw [⟨some b_1, 25, [(.int .i16 aF0.fSteps), (.slice aF0_fHammers_a aF0.fHammers.length aF0_fHammers_c)]⟩, ⟨some b_2, 29, [(.slice aW1_fPins_a aW1.fPins.length aW1_fPins_c), (.slice aW1_fStrokes_a aW1.fStrokes.length aW1_fStrokes_c)]⟩, ⟨some b_3, 32, [(.int .i8 aA2.fKind), (.int .i64 aA2.fA), (.int .i64 aA2.fB), (.int .i64 aA2.fC), (.int .i64 aA2.fD)]⟩, ⟨some b_119, 37, [(.slice (o_120.map fun b => ⟨b, 0, none⟩) xs_3.length cap_121), (.slice (o_126.map fun b => ⟨b, 0, none⟩) xs_4.length cap_127)]⟩, ⟨o_120, 108, row encGWornPin xs_3 sp_122⟩, ⟨o_126, 2, row encI64 xs_4 sp_128⟩, ⟨o_133, 119, row encGHammer t_7.fHammers sp_135⟩, ⟨some b_138, 42, [(.int .i16 t_7.fSteps), (.slice (o_133.map fun b => ⟨b, 0, none⟩) t_7.fHammers.length cap_134)]⟩, ⟨o_140, 108, row encGWornPin t_8.fPins sp_142⟩, ⟨o_145, 2, row encI64 t_8.fStrokes sp_147⟩, ⟨some b_150, 37, [(.slice (o_140.map fun b => ⟨b, 0, none⟩) t_8.fPins.length cap_141), (.slice (o_145.map fun b => ⟨b, 0, none⟩) t_8.fStrokes.length cap_146)]⟩] 11 (by kernel_rfl) (by kernel_rfl) ?_
          refine jd_f [⟨0, 7, 0⟩, ⟨1, 10, 0⟩, ⟨2, 2, 0⟩] 8 (by kernel_rfl) (by kernel_rfl) (fun w h => h.pick [0, 1, 2, 3, 4, 5, 6, 7, 8, 9, 10] (by kernel_rfl) (by kernel_rfl)) (by kernel_rfl) (by kernel_rfl) ?_
          refine toD2 3 8 (by kernel_rfl) ?_ ?_
          · obtain ⟨t_35, ht_660, h⟩ := bd h
            refine p_call 0 10 #[(.agg #[(.int .i8 aA2.fKind), (.int .i64 aA2.fA), (.int .i64 aA2.fB), (.int .i64 aA2.fC), (.int .i64 aA2.fD)])] (by kernel_rfl) (by kernel_rfl) (fun w hm => laws_toAct.calls aA2 w _ ht_660) ?_
            rintro w v w' hm ⟨rfl, hm'⟩
            refine ⟨_, hm.app hm', jkD (fun w h => h.pick [0, 1, 2, 3, 4, 5, 6, 7, 8, 9, 10] (by kernel_rfl) (by kernel_rfl)) ?_⟩
            clear hm hm'
            refine toD2 4 8 (by kernel_rfl) ?_ ?_
            · obtain ⟨t_36, ht_661, h⟩ := bd h
              refine p_call 0 11 #[(.agg #[(.int .i16 t_7.fSteps), (.slice (o_133.map fun b => ⟨b, 0, none⟩) t_7.fHammers.length cap_134)]), (.agg #[(.slice (o_140.map fun b => ⟨b, 0, none⟩) t_8.fPins.length cap_141), (.slice (o_145.map fun b => ⟨b, 0, none⟩) t_8.fStrokes.length cap_146)]), (.agg #[(.int .i8 t_35.fKind), (.int .i64 t_35.fA), (.int .i64 t_35.fB), (.int .i64 t_35.fC), (.int .i64 t_35.fD)])] (by kernel_rfl) (by kernel_rfl) (fun w hm => impl_DoWearAct.calls t_7 t_8 t_35 w _ (o_133.map fun b => ⟨b, 0, none⟩) t_7.fHammers.length cap_134 (hm.ownRow (hh := 6) (o := o_133) (T := 119) (enc := encGHammer) (xs := t_7.fHammers) (sp := sp_135) (by kernel_rfl) (fun e => (ho_137 e).1) encGHammer_len) rfl (o_140.map fun b => ⟨b, 0, none⟩) t_8.fPins.length cap_141 (hm.ownRow (hh := 8) (o := o_140) (T := 108) (enc := encGWornPin) (xs := t_8.fPins) (sp := sp_142) (by kernel_rfl) (fun e => (ho_144 e).1) encGWornPin_len) rfl (o_145.map fun b => ⟨b, 0, none⟩) t_8.fStrokes.length cap_146 (hm.ownRow (hh := 9) (o := o_145) (T := 2) (enc := encI64) (xs := t_8.fStrokes) (sp := sp_147) (by kernel_rfl) (fun e => (ho_149 e).1) encI64_len) rfl ht_661) ?_
              rintro w v w' hm ⟨o_662, cap_663, sp_664, _, rfl, hs_665, ho_666, o_667, cap_668, sp_669, _, rfl, hs_670, ho_671, rfl, hm'⟩
              refine ⟨_, hm.app hm', jkD (fun w h => h.pick [0, 1, 2, 3, 4, 5, 6, 7, 8, 9, 10] (by kernel_rfl) (by kernel_rfl)) ?_⟩
              clear hm hm'
              refine jd_f [⟨5, 0, 0⟩, ⟨6, 0, 0⟩, ⟨7, 0, 0⟩] 3 (by kernel_rfl) (by kernel_rfl) (fun w h => h.pick [0, 1, 2, 3, 4, 5, 6, 7, 8, 9, 10] (by kernel_rfl) (by kernel_rfl)) (by kernel_rfl) (by kernel_rfl) ?_
              refine toD 8 (by kernel_rfl) (p_a 0 [0] (by kernel_rfl) (fun b => by kernel_rfl) (fun b_672 => jkD (fun w h => h.pick [0, 1, 2, 3, 4, 5, 6, 7, 8, 9, 10] (by kernel_rfl) (by kernel_rfl)) ?_))
              refine toD 9 (by kernel_rfl) (p_s 0 [13] (by kernel_rfl) (by kernel_rfl) (jkD (fun w h => h.pick [0, 1, 2, 3, 4, 5, 6, 7, 8, 9, 10] (by kernel_rfl) (by kernel_rfl)) ?_))
              refine jd_f [⟨10, 0, 0⟩] 0 (by kernel_rfl) (by kernel_rfl) (fun w h => h.pick [0, 1, 2, 3, 4, 5, 6, 7, 8, 9, 10] (by kernel_rfl) (by kernel_rfl)) (by kernel_rfl) (by kernel_rfl) ?_
              refine jd_end (by kernel_rfl) ?_
              exact jx_meet ⟨t_36.1.fPins, t_36.1.fStrokes, t_36.2, b_672, o_662, cap_663, sp_664, t_36.1.fPins.length, o_667, cap_668, sp_669, t_36.1.fStrokes.length⟩ ⟨h, rfl, hs_665, ho_666, rfl, hs_670, ho_671⟩ (by kernel_rfl) [0, 1, 2, 3, 4, 5, 6, 7, 8, 9, 10, 13, 11, 12] (by kernel_rfl) (by kernel_rfl)
            · refine p_a 0 [0] (by kernel_rfl) (fun b => by kernel_rfl) (fun b_673 => jkD (fun w h => h.pick [0, 1, 2, 3, 4, 5, 6, 7, 8, 9, 10] (by kernel_rfl) (by kernel_rfl)) ?_)
              obtain ⟨t_36, ht_674, h⟩ := bd h
              refine toD 4 (by kernel_rfl) (p_call 0 11 #[(.agg #[(.int .i16 t_7.fSteps), (.slice (o_133.map fun b => ⟨b, 0, none⟩) t_7.fHammers.length cap_134)]), (.agg #[(.slice (o_140.map fun b => ⟨b, 0, none⟩) t_8.fPins.length cap_141), (.slice (o_145.map fun b => ⟨b, 0, none⟩) t_8.fStrokes.length cap_146)]), (.agg #[(.int .i8 t_35.fKind), (.int .i64 t_35.fA), (.int .i64 t_35.fB), (.int .i64 t_35.fC), (.int .i64 t_35.fD)])] (by kernel_rfl) (by kernel_rfl) (fun w hm => impl_DoWearAct.calls t_7 t_8 t_35 w _ (o_133.map fun b => ⟨b, 0, none⟩) t_7.fHammers.length cap_134 (hm.ownRow (hh := 6) (o := o_133) (T := 119) (enc := encGHammer) (xs := t_7.fHammers) (sp := sp_135) (by kernel_rfl) (fun e => (ho_137 e).1) encGHammer_len) rfl (o_140.map fun b => ⟨b, 0, none⟩) t_8.fPins.length cap_141 (hm.ownRow (hh := 8) (o := o_140) (T := 108) (enc := encGWornPin) (xs := t_8.fPins) (sp := sp_142) (by kernel_rfl) (fun e => (ho_144 e).1) encGWornPin_len) rfl (o_145.map fun b => ⟨b, 0, none⟩) t_8.fStrokes.length cap_146 (hm.ownRow (hh := 9) (o := o_145) (T := 2) (enc := encI64) (xs := t_8.fStrokes) (sp := sp_147) (by kernel_rfl) (fun e => (ho_149 e).1) encI64_len) rfl ht_674) ?_)
              rintro w v w' hm ⟨o_675, cap_676, sp_677, _, rfl, hs_678, ho_679, o_680, cap_681, sp_682, _, rfl, hs_683, ho_684, rfl, hm'⟩
              refine ⟨_, hm.app hm', jkD (fun w h => h.pick [0, 1, 2, 3, 4, 5, 6, 7, 8, 9, 10] (by kernel_rfl) (by kernel_rfl)) ?_⟩
              clear hm hm'
              refine jd_f [⟨5, 0, 0⟩, ⟨6, 0, 0⟩, ⟨7, 0, 0⟩] 2 (by kernel_rfl) (by kernel_rfl) (fun w h => h.pick [0, 1, 2, 3, 4, 5, 6, 7, 8, 9, 10] (by kernel_rfl) (by kernel_rfl)) (by kernel_rfl) (by kernel_rfl) ?_
              refine toD 9 (by kernel_rfl) (p_s 0 [11] (by kernel_rfl) (by kernel_rfl) (jkD (fun w h => h.pick [0, 1, 2, 3, 4, 5, 6, 7, 8, 9, 10] (by kernel_rfl) (by kernel_rfl)) ?_))
              refine jd_f [⟨10, 0, 0⟩] 0 (by kernel_rfl) (by kernel_rfl) (fun w h => h.pick [0, 1, 2, 3, 4, 5, 6, 7, 8, 9, 10] (by kernel_rfl) (by kernel_rfl)) (by kernel_rfl) (by kernel_rfl) ?_
              refine jd_end (by kernel_rfl) ?_
              exact jx_meet ⟨t_36.1.fPins, t_36.1.fStrokes, t_36.2, b_673, o_675, cap_676, sp_677, t_36.1.fPins.length, o_680, cap_681, sp_682, t_36.1.fStrokes.length⟩ ⟨h, rfl, hs_678, ho_679, rfl, hs_683, ho_684⟩ (by kernel_rfl) [0, 1, 2, 3, 4, 5, 6, 7, 8, 9, 10, 11, 12, 13] (by kernel_rfl) (by kernel_rfl)
          · refine p_a 0 [0] (by kernel_rfl) (fun b => by kernel_rfl) (fun b_685 => jkD (fun w h => h.pick [0, 1, 2, 3, 4, 5, 6, 7, 8, 9, 10] (by kernel_rfl) (by kernel_rfl)) ?_)
            obtain ⟨t_35, ht_686, h⟩ := bd h
            refine toD 3 (by kernel_rfl) (p_call 0 10 #[(.agg #[(.int .i8 aA2.fKind), (.int .i64 aA2.fA), (.int .i64 aA2.fB), (.int .i64 aA2.fC), (.int .i64 aA2.fD)])] (by kernel_rfl) (by kernel_rfl) (fun w hm => laws_toAct.calls aA2 w _ ht_686) ?_)
            rintro w v w' hm ⟨rfl, hm'⟩
            refine ⟨_, hm.app hm', jkD (fun w h => h.pick [0, 1, 2, 3, 4, 5, 6, 7, 8, 9, 10] (by kernel_rfl) (by kernel_rfl)) ?_⟩
            clear hm hm'
            obtain ⟨t_36, ht_687, h⟩ := bd h
            refine toD 4 (by kernel_rfl) (p_call 0 11 #[(.agg #[(.int .i16 t_7.fSteps), (.slice (o_133.map fun b => ⟨b, 0, none⟩) t_7.fHammers.length cap_134)]), (.agg #[(.slice (o_140.map fun b => ⟨b, 0, none⟩) t_8.fPins.length cap_141), (.slice (o_145.map fun b => ⟨b, 0, none⟩) t_8.fStrokes.length cap_146)]), (.agg #[(.int .i8 t_35.fKind), (.int .i64 t_35.fA), (.int .i64 t_35.fB), (.int .i64 t_35.fC), (.int .i64 t_35.fD)])] (by kernel_rfl) (by kernel_rfl) (fun w hm => impl_DoWearAct.calls t_7 t_8 t_35 w _ (o_133.map fun b => ⟨b, 0, none⟩) t_7.fHammers.length cap_134 (hm.ownRow (hh := 6) (o := o_133) (T := 119) (enc := encGHammer) (xs := t_7.fHammers) (sp := sp_135) (by kernel_rfl) (fun e => (ho_137 e).1) encGHammer_len) rfl (o_140.map fun b => ⟨b, 0, none⟩) t_8.fPins.length cap_141 (hm.ownRow (hh := 8) (o := o_140) (T := 108) (enc := encGWornPin) (xs := t_8.fPins) (sp := sp_142) (by kernel_rfl) (fun e => (ho_144 e).1) encGWornPin_len) rfl (o_145.map fun b => ⟨b, 0, none⟩) t_8.fStrokes.length cap_146 (hm.ownRow (hh := 9) (o := o_145) (T := 2) (enc := encI64) (xs := t_8.fStrokes) (sp := sp_147) (by kernel_rfl) (fun e => (ho_149 e).1) encI64_len) rfl ht_687) ?_)
            rintro w v w' hm ⟨o_688, cap_689, sp_690, _, rfl, hs_691, ho_692, o_693, cap_694, sp_695, _, rfl, hs_696, ho_697, rfl, hm'⟩
            refine ⟨_, hm.app hm', jkD (fun w h => h.pick [0, 1, 2, 3, 4, 5, 6, 7, 8, 9, 10] (by kernel_rfl) (by kernel_rfl)) ?_⟩
            clear hm hm'
            refine jd_f [⟨5, 0, 0⟩, ⟨6, 0, 0⟩, ⟨7, 0, 0⟩] 2 (by kernel_rfl) (by kernel_rfl) (fun w h => h.pick [0, 1, 2, 3, 4, 5, 6, 7, 8, 9, 10] (by kernel_rfl) (by kernel_rfl)) (by kernel_rfl) (by kernel_rfl) ?_
            refine toD 9 (by kernel_rfl) (p_s 0 [11] (by kernel_rfl) (by kernel_rfl) (jkD (fun w h => h.pick [0, 1, 2, 3, 4, 5, 6, 7, 8, 9, 10] (by kernel_rfl) (by kernel_rfl)) ?_))
            refine jd_f [⟨10, 0, 0⟩] 0 (by kernel_rfl) (by kernel_rfl) (fun w h => h.pick [0, 1, 2, 3, 4, 5, 6, 7, 8, 9, 10] (by kernel_rfl) (by kernel_rfl)) (by kernel_rfl) (by kernel_rfl) ?_
            refine jd_end (by kernel_rfl) ?_
            exact jx_meet ⟨t_36.1.fPins, t_36.1.fStrokes, t_36.2, b_685, o_688, cap_689, sp_690, t_36.1.fPins.length, o_693, cap_694, sp_695, t_36.1.fStrokes.length⟩ ⟨h, rfl, hs_691, ho_692, rfl, hs_696, ho_697⟩ (by kernel_rfl) [0, 1, 2, 3, 4, 5, 6, 7, 8, 9, 10, 11, 12, 13] (by kernel_rfl) (by kernel_rfl)
        · rintro ⟨xs_9, xs_10, i_11, b_189, o_190, cap_191, sp_192, n_193, o_196, cap_197, sp_198, n_199⟩ ⟨h, rfl, hs_194, ho_195, rfl, hs_200, ho_201⟩
          replace h : laws_FnExactDoWearAct.k_12 aF0 aW1 aA2 xs_3 xs_4 i_5 t_7 t_8 xs_9 xs_10 i_11 = some r := h
          rw [laws_FnExactDoWearAct.k_12] at h
          refine jx_then ?_
          refine jc_seq ?_
          refine jc_seq ?_
          refine jc_region ?_
          refine jo_f [(11, 0), (3, 0)] (by kernel_rfl) ?_
          obtain ⟨t_13, ht_206, h⟩ := bd h
          refine toO (by kernel_rfl) (p_call 0 12 #[(.agg #[(.slice (o_190.map fun b => ⟨b, 0, none⟩) xs_9.length cap_191), (.slice (o_196.map fun b => ⟨b, 0, none⟩) xs_10.length cap_197)]), (.agg #[(.slice (o_120.map fun b => ⟨b, 0, none⟩) xs_3.length cap_121), (.slice (o_126.map fun b => ⟨b, 0, none⟩) xs_4.length cap_127)])] (by kernel_rfl) (by kernel_rfl) (fun w hm => laws_eqWear.calls (⟨xs_9, xs_10⟩ : GWear) (⟨xs_3, xs_4⟩ : GWear) w _ (o_190.map fun b => ⟨b, 0, none⟩) xs_9.length cap_191 (hm.ownRow (hh := 12) (o := o_190) (T := 108) (enc := encGWornPin) (xs := xs_9) (sp := sp_192) (by kernel_rfl) (fun e => (ho_195 e).1) encGWornPin_len) rfl (o_196.map fun b => ⟨b, 0, none⟩) xs_10.length cap_197 (hm.ownRow (hh := 13) (o := o_196) (T := 2) (enc := encI64) (xs := xs_10) (sp := sp_198) (by kernel_rfl) (fun e => (ho_201 e).1) encI64_len) rfl (o_120.map fun b => ⟨b, 0, none⟩) xs_3.length cap_121 (hm.ownRow (hh := 4) (o := o_120) (T := 108) (enc := encGWornPin) (xs := xs_3) (sp := sp_122) (by kernel_rfl) (fun e => (ho_125 e).1) encGWornPin_len) rfl (o_126.map fun b => ⟨b, 0, none⟩) xs_4.length cap_127 (hm.ownRow (hh := 5) (o := o_126) (T := 2) (enc := encI64) (xs := xs_4) (sp := sp_128) (by kernel_rfl) (fun e => (ho_131 e).1) encI64_len) rfl ht_206) ?_)
          rintro w v w' hm ⟨rfl, hm'⟩
          refine ⟨_, hm.app hm', jkO ?_⟩
          clear hm hm'
          refine jo_f [(0, 0), (0, 0), (0, 1), (0, 1), (0, 1), (0, 0)] (by kernel_rfl) ?_
          refine jo_end (by kernel_rfl) ?_
          refine jx_then ?_
          refine jc_cond ((!t_13) || (i_11 != i_5)) (by kernel_rfl) (fun hc_207 => ?_) (fun hc_207 => ?_)
          · replace h := ifT hc_207 h
            refine jc_seq ?_
            refine jc_region ?_
            refine jo_f [(0, 0)] (by kernel_rfl) ?_
            refine jo_end (by kernel_rfl) ?_
            refine jx_then ?_
            refine jc_ret ?_
            refine jx_thenr ?_
            obtain rfl := Option.some.inj h
            exact jx_ret [] (.bool false) [] rfl (by kernel_rfl) (by kernel_rfl) (fun w hm => ⟨rfl, hm.pick [] (by kernel_rfl) (by kernel_rfl)⟩)
          · replace h := ifF hc_207 h
            refine jc_skip ?_
            refine jx_then ?_
            refine jc_seq ?_
            refine jc_seq ?_
            refine jc_draw [⟨some b_1, 25, [(.int .i16 aF0.fSteps), (.slice aF0_fHammers_a aF0.fHammers.length aF0_fHammers_c)]⟩, ⟨some b_2, 29, [(.slice aW1_fPins_a aW1.fPins.length aW1_fPins_c), (.slice aW1_fStrokes_a aW1.fStrokes.length aW1_fStrokes_c)]⟩, ⟨some b_3, 32, [(.int .i8 aA2.fKind), (.int .i64 aA2.fA), (.int .i64 aA2.fB), (.int .i64 aA2.fC), (.int .i64 aA2.fD)]⟩, ⟨some b_119, 37, [(.slice (o_120.map fun b => ⟨b, 0, none⟩) xs_3.length cap_121), (.slice (o_126.map fun b => ⟨b, 0, none⟩) xs_4.length cap_127)]⟩, ⟨o_120, 108, row encGWornPin xs_3 sp_122⟩, ⟨o_126, 2, row encI64 xs_4 sp_128⟩, ⟨o_133, 119, row encGHammer t_7.fHammers sp_135⟩, ⟨some b_138, 42, [(.int .i16 t_7.fSteps), (.slice (o_133.map fun b => ⟨b, 0, none⟩) t_7.fHammers.length cap_134)]⟩, ⟨o_140, 108, row encGWornPin t_8.fPins sp_142⟩, ⟨o_145, 2, row encI64 t_8.fStrokes sp_147⟩, ⟨some b_150, 37, [(.slice (o_140.map fun b => ⟨b, 0, none⟩) t_8.fPins.length cap_141), (.slice (o_145.map fun b => ⟨b, 0, none⟩) t_8.fStrokes.length cap_146)]⟩, ⟨some b_189, 37, [(.slice (o_190.map fun b => ⟨b, 0, none⟩) xs_9.length cap_191), (.slice (o_196.map fun b => ⟨b, 0, none⟩) xs_10.length cap_197)]⟩, ⟨o_190, 108, row encGWornPin xs_9 sp_192⟩, ⟨o_196, 2, row encI64 xs_10 sp_198⟩] 5 (by kernel_rfl) (by kernel_rfl) ?_
            refine jd_f [⟨0, 7, 0⟩, ⟨1, 0, 0⟩] 3 (by kernel_rfl) (by kernel_rfl) (fun w h => h.pick [0, 1, 2, 3, 4, 5, 6, 7, 8, 9, 10, 11, 12, 13] (by kernel_rfl) (by kernel_rfl)) (by kernel_rfl) (by kernel_rfl) ?_
            obtain ⟨t_14, ht_230, h⟩ := bd h
            refine toD 2 (by kernel_rfl) (p_call 0 8 #[(.agg #[(.int .i16 aF0.fSteps), (.slice aF0_fHammers_a aF0.fHammers.length aF0_fHammers_c)])] (by kernel_rfl) (by kernel_rfl) (fun w hm => laws_toFrame.calls aF0 w _ aF0_fHammers_a aF0.fHammers.length aF0_fHammers_c (hm.exRow aF0_fHammers_h List.not_mem_nil) rfl ht_230) ?_)
            rintro w v w' hm ⟨o_231, cap_232, sp_233, _, rfl, hs_234, ho_235, rfl, hm'⟩
            refine ⟨_, hm.app hm', jkD (fun w h => h.pick [0, 1, 2, 3, 4, 5, 6, 7, 8, 9, 10, 11, 12, 13] (by kernel_rfl) (by kernel_rfl)) ?_⟩
            clear hm hm'
            obtain ⟨t_15, ht_236, h⟩ := bd h
            refine toD 3 (by kernel_rfl) (p_call 0 13 #[(.agg #[(.int .i16 t_7.fSteps), (.slice (o_133.map fun b => ⟨b, 0, none⟩) t_7.fHammers.length cap_134)]), (.agg #[(.int .i16 t_14.fSteps), (.slice (o_231.map fun b => ⟨b, 0, none⟩) t_14.fHammers.length cap_232)])] (by kernel_rfl) (by kernel_rfl) (fun w hm => laws_eqFrame.calls t_7 t_14 w _ (o_133.map fun b => ⟨b, 0, none⟩) t_7.fHammers.length cap_134 (hm.ownRow (hh := 6) (o := o_133) (T := 119) (enc := encGHammer) (xs := t_7.fHammers) (sp := sp_135) (by kernel_rfl) (fun e => (ho_137 e).1) encGHammer_len) rfl (o_231.map fun b => ⟨b, 0, none⟩) t_14.fHammers.length cap_232 (hm.ownRow (hh := 14) (o := o_231) (T := 119) (enc := encGHammer) (xs := t_14.fHammers) (sp := sp_233) (by kernel_rfl) (fun e => (ho_235 e).1) encGHammer_len) rfl ht_236) ?_)
            rintro w v w' hm ⟨rfl, hm'⟩
            refine ⟨_, hm.app hm', jkD (fun w h => h.pick [0, 1, 2, 3, 4, 5, 6, 7, 8, 9, 10, 11, 12, 13] (by kernel_rfl) (by kernel_rfl)) ?_⟩
            clear hm hm'
            refine jd_f [⟨4, 0, 0⟩] 0 (by kernel_rfl) (by kernel_rfl) (fun w h => h.pick [0, 1, 2, 3, 4, 5, 6, 7, 8, 9, 10, 11, 12, 13] (by kernel_rfl) (by kernel_rfl)) (by kernel_rfl) (by kernel_rfl) ?_
            refine jd_end (by kernel_rfl) ?_
            refine jx_then ?_
            refine jc_cond (!t_15) (by kernel_rfl) (fun hc_237 => ?_) (fun hc_237 => ?_)
            · replace h := ifT hc_237 h
              refine jc_seq ?_
              refine jc_region ?_
              refine jo_f [(0, 0)] (by kernel_rfl) ?_
              refine jo_end (by kernel_rfl) ?_
              refine jx_then ?_
              refine jc_ret ?_
              refine jx_thenr ?_
              obtain rfl := Option.some.inj h
              exact jx_ret [] (.bool false) [] rfl (by kernel_rfl) (by kernel_rfl) (fun w hm => ⟨rfl, hm.pick [] (by kernel_rfl) (by kernel_rfl)⟩)
            · replace h := ifF hc_237 h
              refine jc_skip ?_
              refine jx_then ?_
              refine jc_seq ?_
              refine jc_seq ?_
              refine jc_draw [⟨some b_1, 25, [(.int .i16 aF0.fSteps), (.slice aF0_fHammers_a aF0.fHammers.length aF0_fHammers_c)]⟩, ⟨some b_2, 29, [(.slice aW1_fPins_a aW1.fPins.length aW1_fPins_c), (.slice aW1_fStrokes_a aW1.fStrokes.length aW1_fStrokes_c)]⟩, ⟨some b_3, 32, [(.int .i8 aA2.fKind), (.int .i64 aA2.fA), (.int .i64 aA2.fB), (.int .i64 aA2.fC), (.int .i64 aA2.fD)]⟩, ⟨some b_119, 37, [(.slice (o_120.map fun b => ⟨b, 0, none⟩) xs_3.length cap_121), (.slice (o_126.map fun b => ⟨b, 0, none⟩) xs_4.length cap_127)]⟩, ⟨o_120, 108, row encGWornPin xs_3 sp_122⟩, ⟨o_126, 2, row encI64 xs_4 sp_128⟩, ⟨some b_138, 42, [(.int .i16 t_7.fSteps), (.slice (o_133.map fun b => ⟨b, 0, none⟩) t_7.fHammers.length cap_134)]⟩, ⟨some b_150, 37, [(.slice (o_140.map fun b => ⟨b, 0, none⟩) t_8.fPins.length cap_141), (.slice (o_145.map fun b => ⟨b, 0, none⟩) t_8.fStrokes.length cap_146)]⟩, ⟨some b_189, 37, [(.slice (o_190.map fun b => ⟨b, 0, none⟩) xs_9.length cap_191), (.slice (o_196.map fun b => ⟨b, 0, none⟩) xs_10.length cap_197)]⟩, ⟨o_231, 119, row encGHammer t_14.fHammers sp_233⟩] 5 (by kernel_rfl) (by kernel_rfl) ?_
              refine jd_f [⟨0, 7, 0⟩, ⟨1, 1, 0⟩] 3 (by kernel_rfl) (by kernel_rfl) (fun w h => h.pick [0, 1, 2, 3, 4, 5, 7, 10, 11, 14] (by kernel_rfl) (by kernel_rfl)) (by kernel_rfl) (by kernel_rfl) ?_
              obtain ⟨t_16, ht_378, h⟩ := bd h
              refine toD 2 (by kernel_rfl) (p_call 0 9 #[(.agg #[(.slice aW1_fPins_a aW1.fPins.length aW1_fPins_c), (.slice aW1_fStrokes_a aW1.fStrokes.length aW1_fStrokes_c)])] (by kernel_rfl) (by kernel_rfl) (fun w hm => laws_toWear.calls aW1 w _ aW1_fPins_a aW1.fPins.length aW1_fPins_c (hm.exRow aW1_fPins_h List.not_mem_nil) rfl aW1_fStrokes_a aW1.fStrokes.length aW1_fStrokes_c (hm.exRow aW1_fStrokes_h List.not_mem_nil) rfl ht_378) ?_)
              rintro w v w' hm ⟨o_379, cap_380, sp_381, _, rfl, hs_382, ho_383, o_384, cap_385, sp_386, _, rfl, hs_387, ho_388, rfl, hm'⟩
              refine ⟨_, hm.app hm', jkD (fun w h => h.pick [0, 1, 2, 3, 4, 5, 7, 10, 11, 14] (by kernel_rfl) (by kernel_rfl)) ?_⟩
              clear hm hm'
              obtain ⟨t_17, ht_389, h⟩ := bd h
              refine toD 3 (by kernel_rfl) (p_call 0 12 #[(.agg #[(.slice (o_140.map fun b => ⟨b, 0, none⟩) t_8.fPins.length cap_141), (.slice (o_145.map fun b => ⟨b, 0, none⟩) t_8.fStrokes.length cap_146)]), (.agg #[(.slice (o_379.map fun b => ⟨b, 0, none⟩) t_16.fPins.length cap_380), (.slice (o_384.map fun b => ⟨b, 0, none⟩) t_16.fStrokes.length cap_385)])] (by kernel_rfl) (by kernel_rfl) (fun w hm => laws_eqWear.calls t_8 t_16 w _ (o_140.map fun b => ⟨b, 0, none⟩) t_8.fPins.length cap_141 (hm.ownRow (hh := 8) (o := o_140) (T := 108) (enc := encGWornPin) (xs := t_8.fPins) (sp := sp_142) (by kernel_rfl) (fun e => (ho_144 e).1) encGWornPin_len) rfl (o_145.map fun b => ⟨b, 0, none⟩) t_8.fStrokes.length cap_146 (hm.ownRow (hh := 9) (o := o_145) (T := 2) (enc := encI64) (xs := t_8.fStrokes) (sp := sp_147) (by kernel_rfl) (fun e => (ho_149 e).1) encI64_len) rfl (o_379.map fun b => ⟨b, 0, none⟩) t_16.fPins.length cap_380 (hm.ownRow (hh := 15) (o := o_379) (T := 108) (enc := encGWornPin) (xs := t_16.fPins) (sp := sp_381) (by kernel_rfl) (fun e => (ho_383 e).1) encGWornPin_len) rfl (o_384.map fun b => ⟨b, 0, none⟩) t_16.fStrokes.length cap_385 (hm.ownRow (hh := 16) (o := o_384) (T := 2) (enc := encI64) (xs := t_16.fStrokes) (sp := sp_386) (by kernel_rfl) (fun e => (ho_388 e).1) encI64_len) rfl ht_389) ?_)
              rintro w v w' hm ⟨rfl, hm'⟩
              refine ⟨_, hm.app hm', jkD (fun w h => h.pick [0, 1, 2, 3, 4, 5, 7, 10, 11, 14] (by kernel_rfl) (by kernel_rfl)) ?_⟩
              clear hm hm'
              refine jd_f [⟨4, 0, 0⟩] 0 (by kernel_rfl) (by kernel_rfl) (fun w h => h.pick [0, 1, 2, 3, 4, 5, 7, 10, 11, 14] (by kernel_rfl) (by kernel_rfl)) (by kernel_rfl) (by kernel_rfl) ?_
              refine jd_end (by kernel_rfl) ?_
              refine jx_then ?_
              refine jc_cond (!t_17) (by kernel_rfl) (fun hc_390 => ?_) (fun hc_390 => ?_)
              · replace h := ifT hc_390 h
                refine jc_seq ?_
                refine jc_region ?_
                refine jo_f [(0, 0)] (by kernel_rfl) ?_
                refine jo_end (by kernel_rfl) ?_
                refine jx_then ?_
                refine jc_ret ?_
                refine jx_thenr ?_
                obtain rfl := Option.some.inj h
                exact jx_ret [] (.bool false) [] rfl (by kernel_rfl) (by kernel_rfl) (fun w hm => ⟨rfl, hm.pick [] (by kernel_rfl) (by kernel_rfl)⟩)
              · replace h := ifF hc_390 h
                refine jc_skip ?_
                refine jx_then ?_
                refine jc_seq ?_
                refine jc_region ?_
                refine jo_f [(0, 0)] (by kernel_rfl) ?_
                refine jo_end (by kernel_rfl) ?_
                refine jx_then ?_
                refine jc_seq ?_
                refine jc_region ?_
                refine jo_f [(7, 0), (0, 0)] (by kernel_rfl) ?_
                obtain ⟨t_18, ht_391, h⟩ := bd h
                refine toO (by kernel_rfl) (p_call 0 14 #[(.agg #[(.int .i16 t_7.fSteps), (.slice (o_133.map fun b => ⟨b, 0, none⟩) t_7.fHammers.length cap_134)]), (.int .i64 1)] (by kernel_rfl) (by kernel_rfl) (fun w hm => laws_markFrame.calls t_7 1 w _ o_133 t_7.fHammers.length cap_134 sp_135 rfl hs_136 ho_137 (hm.pass (N := [⟨o_133, 119, row encGHammer t_7.fHammers sp_135⟩]) [6] (by kernel_rfl) (by kernel_rfl)) ht_391) ?_)
                rintro w v w' hm ⟨hn_392, ho_393, rfl, hm'⟩
                refine ⟨_, hm.appW (ps := [(6, ⟨o_133, 119, row encGHammer t_18.2 sp_135⟩)]) (N := []) hm' (by kernel_rfl) (by kernel_rfl), jkO ?_⟩
                clear hm hm'
                refine jo_f [(0, 0)] (by kernel_rfl) ?_
                refine jo_end (by kernel_rfl) ?_
                refine jx_then ?_
                refine jc_seq ?_
                refine jc_region ?_
                refine jo_f [(10, 0), (0, 0)] (by kernel_rfl) ?_
                obtain ⟨t_19, ht_394, h⟩ := bd h
                refine toO (by kernel_rfl) (p_call 0 15 #[(.agg #[(.slice (o_140.map fun b => ⟨b, 0, none⟩) t_8.fPins.length cap_141), (.slice (o_145.map fun b => ⟨b, 0, none⟩) t_8.fStrokes.length cap_146)]), (.int .i64 t_18.1)] (by kernel_rfl) (by kernel_rfl) (fun w hm => laws_markWear.calls t_8 t_18.1 w _ o_140 t_8.fPins.length cap_141 sp_142 rfl hs_143 ho_144 o_145 t_8.fStrokes.length cap_146 sp_147 rfl hs_148 ho_149 (hm.pass (N := [⟨o_140, 108, row encGWornPin t_8.fPins sp_142⟩, ⟨o_145, 2, row encI64 t_8.fStrokes sp_147⟩]) [8, 9] (by kernel_rfl) (by kernel_rfl)) ht_394) ?_)
                rintro w v w' hm ⟨hn_395, ho_396, hn_397, ho_398, rfl, hm'⟩
                refine ⟨_, hm.appW (ps := [(8, ⟨o_140, 108, row encGWornPin t_19.2.1 sp_142⟩), (9, ⟨o_145, 2, row encI64 t_19.2.2 sp_147⟩)]) (N := []) hm' (by kernel_rfl) (by kernel_rfl), jkO ?_⟩
                clear hm hm'
                refine jo_f [(0, 0)] (by kernel_rfl) ?_
                refine jo_end (by kernel_rfl) ?_
                refine jx_then ?_
                refine jc_seq ?_
                refine jc_seq ?_
                refine jc_meet (fun (j : Bool) => match j with | q_20 => laws_FnExactDoWearAct.k_21 aF0 aW1 aA2 xs_3 xs_4 i_5 xs_9 xs_10 q_20 = some r) (fun (j : Bool) => match j with | q_20 => [(3, [], (.pointer (some ⟨b_1, 0, none⟩))), (4, [], (.pointer (some ⟨b_2, 0, none⟩))), (5, [], (.pointer (some ⟨b_3, 0, none⟩))), (6, [], (.bool false)), (8, [], (.pointer (some ⟨b_119, 0, none⟩))), (9, [], (.int .i64 i_5)), (12, [], (.pointer (some ⟨b_189, 0, none⟩))), (88, [], (.bool q_20))]) (fun (j : Bool) => match j with | q_20 => [⟨some b_1, 25, [(.int .i16 aF0.fSteps), (.slice aF0_fHammers_a aF0.fHammers.length aF0_fHammers_c)]⟩, ⟨some b_2, 29, [(.slice aW1_fPins_a aW1.fPins.length aW1_fPins_c), (.slice aW1_fStrokes_a aW1.fStrokes.length aW1_fStrokes_c)]⟩, ⟨some b_3, 32, [(.int .i8 aA2.fKind), (.int .i64 aA2.fA), (.int .i64 aA2.fB), (.int .i64 aA2.fC), (.int .i64 aA2.fD)]⟩, ⟨some b_119, 37, [(.slice (o_120.map fun b => ⟨b, 0, none⟩) xs_3.length cap_121), (.slice (o_126.map fun b => ⟨b, 0, none⟩) xs_4.length cap_127)]⟩, ⟨o_120, 108, row encGWornPin xs_3 sp_122⟩, ⟨o_126, 2, row encI64 xs_4 sp_128⟩, ⟨o_133, 119, row encGHammer t_18.2 sp_135⟩, ⟨some b_138, 42, [(.int .i16 t_7.fSteps), (.slice (o_133.map fun b => ⟨b, 0, none⟩) t_7.fHammers.length cap_134)]⟩, ⟨o_140, 108, row encGWornPin t_19.2.1 sp_142⟩, ⟨o_145, 2, row encI64 t_19.2.2 sp_147⟩, ⟨some b_150, 37, [(.slice (o_140.map fun b => ⟨b, 0, none⟩) t_8.fPins.length cap_141), (.slice (o_145.map fun b => ⟨b, 0, none⟩) t_8.fStrokes.length cap_146)]⟩, ⟨some b_189, 37, [(.slice (o_190.map fun b => ⟨b, 0, none⟩) xs_9.length cap_191), (.slice (o_196.map fun b => ⟨b, 0, none⟩) xs_10.length cap_197)]⟩, ⟨o_190, 108, row encGWornPin xs_9 sp_192⟩, ⟨o_196, 2, row encI64 xs_10 sp_198⟩, ⟨o_231, 119, row encGHammer t_14.fHammers sp_233⟩, ⟨o_379, 108, row encGWornPin t_16.fPins sp_381⟩, ⟨o_384, 2, row encI64 t_16.fStrokes sp_386⟩]) ?_ ?_
                · refine jc_region ?_
                  refine jo_f [(0, 0), (0, 0), (0, 0), (11, 1), (3, 1)] (by kernel_rfl) ?_
                  refine jo_split 78 (decide (t_19.1 < 0)) (by kernel_rfl) (fun hc_658 => ?_) (fun hc_658 => ?_)
                  · replace h := ifT hc_658 h
                    refine jo_f [(0, 3), (0, 3), (0, 4), (0, 0), (0, 3), (0, 3), (0, 3), (0, 4)] (by kernel_rfl) ?_
                    refine jo_end (by kernel_rfl) ?_
                    exact jx_meet true h (by kernel_rfl) [0, 1, 2, 3, 4, 5, 6, 7, 8, 9, 10, 11, 12, 13, 14, 15, 16] (by kernel_rfl) (by kernel_rfl)
                  · replace h := ifF hc_658 h
                    obtain ⟨t_34, ht_659, h⟩ := bd h
                    refine toO (by kernel_rfl) (p_call 2 12 #[(.agg #[(.slice (o_190.map fun b => ⟨b, 0, none⟩) xs_9.length cap_191), (.slice (o_196.map fun b => ⟨b, 0, none⟩) xs_10.length cap_197)]), (.agg #[(.slice (o_120.map fun b => ⟨b, 0, none⟩) xs_3.length cap_121), (.slice (o_126.map fun b => ⟨b, 0, none⟩) xs_4.length cap_127)])] (by kernel_rfl) (by kernel_rfl) (fun w hm => laws_eqWear.calls (⟨xs_9, xs_10⟩ : GWear) (⟨xs_3, xs_4⟩ : GWear) w _ (o_190.map fun b => ⟨b, 0, none⟩) xs_9.length cap_191 (hm.ownRow (hh := 12) (o := o_190) (T := 108) (enc := encGWornPin) (xs := xs_9) (sp := sp_192) (by kernel_rfl) (fun e => (ho_195 e).1) encGWornPin_len) rfl (o_196.map fun b => ⟨b, 0, none⟩) xs_10.length cap_197 (hm.ownRow (hh := 13) (o := o_196) (T := 2) (enc := encI64) (xs := xs_10) (sp := sp_198) (by kernel_rfl) (fun e => (ho_201 e).1) encI64_len) rfl (o_120.map fun b => ⟨b, 0, none⟩) xs_3.length cap_121 (hm.ownRow (hh := 4) (o := o_120) (T := 108) (enc := encGWornPin) (xs := xs_3) (sp := sp_122) (by kernel_rfl) (fun e => (ho_125 e).1) encGWornPin_len) rfl (o_126.map fun b => ⟨b, 0, none⟩) xs_4.length cap_127 (hm.ownRow (hh := 5) (o := o_126) (T := 2) (enc := encI64) (xs := xs_4) (sp := sp_128) (by kernel_rfl) (fun e => (ho_131 e).1) encI64_len) rfl ht_659) ?_)
                    rintro w v w' hm ⟨rfl, hm'⟩
                    refine ⟨_, hm.app hm', jkO ?_⟩
                    clear hm hm'
                    refine jo_f [(0, 2), (0, 5), (0, 0), (0, 1), (0, 1), (0, 1), (0, 0)] (by kernel_rfl) ?_
                    refine jo_end (by kernel_rfl) ?_
                    exact jx_meet ((!t_34) || (i_11 != i_5)) h (by kernel_rfl) [0, 1, 2, 3, 4, 5, 6, 7, 8, 9, 10, 11, 12, 13, 14, 15, 16] (by kernel_rfl) (by kernel_rfl)
                · rintro q_20 h
                  replace h : laws_FnExactDoWearAct.k_21 aF0 aW1 aA2 xs_3 xs_4 i_5 xs_9 xs_10 q_20 = some r := h
                  rw [laws_FnExactDoWearAct.k_21] at h
                  refine jx_then ?_
                  refine jc_cond q_20 (by kernel_rfl) (fun hc_406 => ?_) (fun hc_406 => ?_)
                  · replace h := ifT hc_406 h
                    refine jc_seq ?_
                    refine jc_region ?_
                    refine jo_f [(0, 0)] (by kernel_rfl) ?_
                    refine jo_end (by kernel_rfl) ?_
                    refine jx_then ?_
                    refine jc_ret ?_
                    refine jx_thenr ?_
                    obtain rfl := Option.some.inj h
                    exact jx_ret [] (.bool false) [] rfl (by kernel_rfl) (by kernel_rfl) (fun w hm => ⟨rfl, hm.pick [] (by kernel_rfl) (by kernel_rfl)⟩)
                  · replace h := ifF hc_406 h
                    refine jc_skip ?_
                    refine jx_then ?_
                    refine jc_seq ?_
                    refine jc_region ?_
                    refine jo_f [(0, 0)] (by kernel_rfl) ?_
                    refine jo_end (by kernel_rfl) ?_
                    refine jx_then ?_
                    refine jc_seq ?_
                    refine jc_region ?_
                    refine jo_f [(11, 0), (0, 0)] (by kernel_rfl) ?_
                    obtain ⟨t_22, ht_407, h⟩ := bd h
                    refine toO (by kernel_rfl) (p_call 0 15 #[(.agg #[(.slice (o_190.map fun b => ⟨b, 0, none⟩) xs_9.length cap_191), (.slice (o_196.map fun b => ⟨b, 0, none⟩) xs_10.length cap_197)]), (.int .i64 1)] (by kernel_rfl) (by kernel_rfl) (fun w hm => laws_markWear.calls (⟨xs_9, xs_10⟩ : GWear) 1 w _ o_190 xs_9.length cap_191 sp_192 rfl hs_194 ho_195 o_196 xs_10.length cap_197 sp_198 rfl hs_200 ho_201 (hm.pass (N := [⟨o_190, 108, row encGWornPin xs_9 sp_192⟩, ⟨o_196, 2, row encI64 xs_10 sp_198⟩]) [12, 13] (by kernel_rfl) (by kernel_rfl)) ht_407) ?_)
                    rintro w v w' hm ⟨hn_408, ho_409, hn_410, ho_411, rfl, hm'⟩
                    refine ⟨_, hm.appW (ps := [(12, ⟨o_190, 108, row encGWornPin t_22.2.1 sp_192⟩), (13, ⟨o_196, 2, row encI64 t_22.2.2 sp_198⟩)]) (N := []) hm' (by kernel_rfl) (by kernel_rfl), jkO ?_⟩
                    clear hm hm'
                    refine jo_f [(0, 0)] (by kernel_rfl) ?_
                    refine jo_end (by kernel_rfl) ?_
                    refine jx_then ?_
                    refine jc_seq ?_
                    refine jc_region ?_
                    refine jo_f [(0, 0)] (by kernel_rfl) ?_
                    refine jo_end (by kernel_rfl) ?_
                    refine jx_then ?_
                    refine jc_seq ?_
                    refine jc_region ?_
                    refine jo_f [(11, 0), (0, 0)] (by kernel_rfl) ?_
                    obtain ⟨t_23, ht_412, h⟩ := bd h
                    refine toO (by kernel_rfl) (p_call 0 16 #[(.agg #[(.slice (o_190.map fun b => ⟨b, 0, none⟩) xs_9.length cap_191), (.slice (o_196.map fun b => ⟨b, 0, none⟩) xs_10.length cap_197)]), (.int .i64 1)] (by kernel_rfl) (by kernel_rfl) (fun w hm => laws_heldWear.calls (⟨t_22.2.1, t_22.2.2⟩ : GWear) 1 w _ (o_190.map fun b => ⟨b, 0, none⟩) xs_9.length cap_191 (hm.ownRow (hh := 12) (o := o_190) (T := 108) (enc := encGWornPin) (xs := t_22.2.1) (sp := sp_192) (by kernel_rfl) (fun e => (ho_409 e).1) encGWornPin_len) hn_408 (o_196.map fun b => ⟨b, 0, none⟩) xs_10.length cap_197 (hm.ownRow (hh := 13) (o := o_196) (T := 2) (enc := encI64) (xs := t_22.2.2) (sp := sp_198) (by kernel_rfl) (fun e => (ho_411 e).1) encI64_len) hn_410 ht_412) ?_)
                    rintro w v w' hm ⟨rfl, hm'⟩
                    refine ⟨_, hm.app hm', jkO ?_⟩
                    clear hm hm'
                    refine jo_f [(0, 0)] (by kernel_rfl) ?_
                    refine jo_end (by kernel_rfl) ?_
                    refine jx_then ?_
                    refine jc_seq ?_
                    refine jc_seq ?_
                    refine jc_region ?_
                    refine jo_f [(0, 0), (0, 0)] (by kernel_rfl) ?_
                    refine jo_end (by kernel_rfl) ?_
                    refine jx_then ?_
                    refine jc_cond (decide (t_23 < 0)) (by kernel_rfl) (fun hc_414 => ?_) (fun hc_414 => ?_)
                    · replace h := ifT hc_414 h
                      refine jc_seq ?_
                      refine jc_region ?_
                      refine jo_f [(0, 0)] (by kernel_rfl) ?_
                      refine jo_end (by kernel_rfl) ?_
                      refine jx_then ?_
                      refine jc_ret ?_
                      refine jx_thenr ?_
                      obtain rfl := Option.some.inj h
                      exact jx_ret [] (.bool false) [] rfl (by kernel_rfl) (by kernel_rfl) (fun w hm => ⟨rfl, hm.pick [] (by kernel_rfl) (by kernel_rfl)⟩)
                    · replace h := ifF hc_414 h
                      refine jc_skip ?_
                      refine jx_then ?_
                      refine jc_seq ?_
                      refine jc_seq ?_
                      refine jc_region ?_
                      refine jo_f [(0, 0), (0, 0), (0, 0)] (by kernel_rfl) ?_
                      refine jo_end (by kernel_rfl) ?_
                      refine jx_then ?_
                      refine jc_cond (t_23 != t_22.1) (by kernel_rfl) (fun hc_416 => ?_) (fun hc_416 => ?_)
                      · replace h := ifT hc_416 h
                        refine jc_seq ?_
                        refine jc_region ?_
                        refine jo_f [(0, 0)] (by kernel_rfl) ?_
                        refine jo_end (by kernel_rfl) ?_
                        refine jx_then ?_
                        refine jc_ret ?_
                        refine jx_thenr ?_
                        obtain rfl := Option.some.inj h
                        exact jx_ret [] (.bool false) [] rfl (by kernel_rfl) (by kernel_rfl) (fun w hm => ⟨rfl, hm.pick [] (by kernel_rfl) (by kernel_rfl)⟩)
                      · replace h := ifF hc_416 h
                        refine jc_skip ?_
                        refine jx_then ?_
                        refine jc_seq ?_
                        refine jc_meet (fun (j : (List GWornPin) × (List Int) × Int × Nat × (Option Nat) × Nat × (List Value) × Nat × (Option Nat) × Nat × (List Value) × Nat) => match j with | ⟨xs_24, xs_25, i_26, b_526, o_527, cap_528, sp_529, n_530, o_533, cap_534, sp_535, n_536⟩ => laws_FnExactDoWearAct.k_27 xs_3 xs_4 i_5 t_22 xs_24 xs_25 i_26 = some r ∧ (xs_24.length = n_530) ∧ ((o_527 ≠ none → n_530 ≤ cap_528 ∧ sp_529.length = (cap_528 - n_530) * 3)) ∧ ((o_527 = none → xs_24 = [] ∧ cap_528 = 0)) ∧ (xs_25.length = n_536) ∧ ((o_533 ≠ none → n_536 ≤ cap_534 ∧ sp_535.length = (cap_534 - n_536) * 1)) ∧ ((o_533 = none → xs_25 = [] ∧ cap_534 = 0))) (fun (j : (List GWornPin) × (List Int) × Int × Nat × (Option Nat) × Nat × (List Value) × Nat × (Option Nat) × Nat × (List Value) × Nat) => match j with | ⟨xs_24, xs_25, i_26, b_526, o_527, cap_528, sp_529, n_530, o_533, cap_534, sp_535, n_536⟩ => [(6, [], (.bool false)), (8, [], (.pointer (some ⟨b_119, 0, none⟩))), (9, [], (.int .i64 i_5)), (12, [], (.pointer (some ⟨b_189, 0, none⟩))), (15, [], (.int .i64 t_22.1)), (16, [], (.int .i64 t_23)), (17, [], (.pointer (some ⟨b_526, 0, none⟩))), (18, [], (.int .i64 i_26))]) (fun (j : (List GWornPin) × (List Int) × Int × Nat × (Option Nat) × Nat × (List Value) × Nat × (Option Nat) × Nat × (List Value) × Nat) => match j with | ⟨xs_24, xs_25, i_26, b_526, o_527, cap_528, sp_529, n_530, o_533, cap_534, sp_535, n_536⟩ => [⟨some b_1, 25, [(.int .i16 aF0.fSteps), (.slice aF0_fHammers_a aF0.fHammers.length aF0_fHammers_c)]⟩, ⟨some b_2, 29, [(.slice aW1_fPins_a aW1.fPins.length aW1_fPins_c), (.slice aW1_fStrokes_a aW1.fStrokes.length aW1_fStrokes_c)]⟩, ⟨some b_3, 32, [(.int .i8 aA2.fKind), (.int .i64 aA2.fA), (.int .i64 aA2.fB), (.int .i64 aA2.fC), (.int .i64 aA2.fD)]⟩, ⟨some b_119, 37, [(.slice (o_120.map fun b => ⟨b, 0, none⟩) xs_3.length cap_121), (.slice (o_126.map fun b => ⟨b, 0, none⟩) xs_4.length cap_127)]⟩, ⟨o_120, 108, row encGWornPin xs_3 sp_122⟩, ⟨o_126, 2, row encI64 xs_4 sp_128⟩, ⟨o_133, 119, row encGHammer t_18.2 sp_135⟩, ⟨some b_138, 42, [(.int .i16 t_7.fSteps), (.slice (o_133.map fun b => ⟨b, 0, none⟩) t_7.fHammers.length cap_134)]⟩, ⟨o_140, 108, row encGWornPin t_19.2.1 sp_142⟩, ⟨o_145, 2, row encI64 t_19.2.2 sp_147⟩, ⟨some b_150, 37, [(.slice (o_140.map fun b => ⟨b, 0, none⟩) t_8.fPins.length cap_141), (.slice (o_145.map fun b => ⟨b, 0, none⟩) t_8.fStrokes.length cap_146)]⟩, ⟨some b_189, 37, [(.slice (o_190.map fun b => ⟨b, 0, none⟩) xs_9.length cap_191), (.slice (o_196.map fun b => ⟨b, 0, none⟩) xs_10.length cap_197)]⟩, ⟨o_190, 108, row encGWornPin t_22.2.1 sp_192⟩, ⟨o_196, 2, row encI64 t_22.2.2 sp_198⟩, ⟨o_231, 119, row encGHammer t_14.fHammers sp_233⟩, ⟨o_379, 108, row encGWornPin t_16.fPins sp_381⟩, ⟨o_384, 2, row encI64 t_16.fStrokes sp_386⟩, ⟨some b_526, 37, [(.slice (o_527.map fun b => ⟨b, 0, none⟩) n_530 cap_528), (.slice (o_533.map fun b => ⟨b, 0, none⟩) n_536 cap_534)]⟩, ⟨o_527, 108, row encGWornPin xs_24 sp_529⟩, ⟨o_533, 2, row encI64 xs_25 sp_535⟩]) ?_ ?_
                        · refine jc_draw [⟨some b_1, 25, [(.int .i16 aF0.fSteps), (.slice aF0_fHammers_a aF0.fHammers.length aF0_fHammers_c)]⟩, ⟨some b_2, 29, [(.slice aW1_fPins_a aW1.fPins.length aW1_fPins_c), (.slice aW1_fStrokes_a aW1.fStrokes.length aW1_fStrokes_c)]⟩, ⟨some b_3, 32, [(.int .i8 aA2.fKind), (.int .i64 aA2.fA), (.int .i64 aA2.fB), (.int .i64 aA2.fC), (.int .i64 aA2.fD)]⟩, ⟨some b_119, 37, [(.slice (o_120.map fun b => ⟨b, 0, none⟩) xs_3.length cap_121), (.slice (o_126.map fun b => ⟨b, 0, none⟩) xs_4.length cap_127)]⟩, ⟨o_120, 108, row encGWornPin xs_3 sp_122⟩, ⟨o_126, 2, row encI64 xs_4 sp_128⟩, ⟨o_133, 119, row encGHammer t_18.2 sp_135⟩, ⟨some b_138, 42, [(.int .i16 t_7.fSteps), (.slice (o_133.map fun b => ⟨b, 0, none⟩) t_7.fHammers.length cap_134)]⟩, ⟨o_140, 108, row encGWornPin t_19.2.1 sp_142⟩, ⟨o_145, 2, row encI64 t_19.2.2 sp_147⟩, ⟨some b_150, 37, [(.slice (o_140.map fun b => ⟨b, 0, none⟩) t_8.fPins.length cap_141), (.slice (o_145.map fun b => ⟨b, 0, none⟩) t_8.fStrokes.length cap_146)]⟩, ⟨some b_189, 37, [(.slice (o_190.map fun b => ⟨b, 0, none⟩) xs_9.length cap_191), (.slice (o_196.map fun b => ⟨b, 0, none⟩) xs_10.length cap_197)]⟩, ⟨o_190, 108, row encGWornPin t_22.2.1 sp_192⟩, ⟨o_196, 2, row encI64 t_22.2.2 sp_198⟩, ⟨o_231, 119, row encGHammer t_14.fHammers sp_233⟩, ⟨o_379, 108, row encGWornPin t_16.fPins sp_381⟩, ⟨o_384, 2, row encI64 t_16.fStrokes sp_386⟩] 13 (by kernel_rfl) (by kernel_rfl) ?_
                          refine jd_f [⟨0, 0, 0⟩, ⟨2, 1, 0⟩, ⟨4, 2, 0⟩] 10 (by kernel_rfl) (by kernel_rfl) (fun w h => h.pick [0, 1, 2, 3, 4, 5, 6, 7, 8, 9, 10, 11, 12, 13, 14, 15, 16] (by kernel_rfl) (by kernel_rfl)) (by kernel_rfl) (by kernel_rfl) ?_
                          refine toD2 1 10 (by kernel_rfl) ?_ ?_
                          · obtain ⟨t_30, ht_549, h⟩ := bd h
                            refine p_call 0 8 #[(.agg #[(.int .i16 aF0.fSteps), (.slice aF0_fHammers_a aF0.fHammers.length aF0_fHammers_c)])] (by kernel_rfl) (by kernel_rfl) (fun w hm => laws_toFrame.calls aF0 w _ aF0_fHammers_a aF0.fHammers.length aF0_fHammers_c (hm.exRow aF0_fHammers_h List.not_mem_nil) rfl ht_549) ?_
                            rintro w v w' hm ⟨o_550, cap_551, sp_552, _, rfl, hs_553, ho_554, rfl, hm'⟩
                            refine ⟨_, hm.app hm', jkD (fun w h => h.pick [0, 1, 2, 3, 4, 5, 6, 7, 8, 9, 10, 11, 12, 13, 14, 15, 16] (by kernel_rfl) (by kernel_rfl)) ?_⟩
                            clear hm hm'
                            refine toD2 3 10 (by kernel_rfl) ?_ ?_
                            · obtain ⟨t_31, ht_555, h⟩ := bd h
                              refine p_call 0 9 #[(.agg #[(.slice aW1_fPins_a aW1.fPins.length aW1_fPins_c), (.slice aW1_fStrokes_a aW1.fStrokes.length aW1_fStrokes_c)])] (by kernel_rfl) (by kernel_rfl) (fun w hm => laws_toWear.calls aW1 w _ aW1_fPins_a aW1.fPins.length aW1_fPins_c (hm.exRow aW1_fPins_h List.not_mem_nil) rfl aW1_fStrokes_a aW1.fStrokes.length aW1_fStrokes_c (hm.exRow aW1_fStrokes_h List.not_mem_nil) rfl ht_555) ?_
                              rintro w v w' hm ⟨o_556, cap_557, sp_558, _, rfl, hs_559, ho_560, o_561, cap_562, sp_563, _, rfl, hs_564, ho_565, rfl, hm'⟩
                              refine ⟨_, hm.app hm', jkD (fun w h => h.pick [0, 1, 2, 3, 4, 5, 6, 7, 8, 9, 10, 11, 12, 13, 14, 15, 16] (by kernel_rfl) (by kernel_rfl)) ?_⟩
                              clear hm hm'
                              refine toD2 5 10 (by kernel_rfl) ?_ ?_
                              · obtain ⟨t_32, ht_566, h⟩ := bd h
                                refine p_call 0 10 #[(.agg #[(.int .i8 aA2.fKind), (.int .i64 aA2.fA), (.int .i64 aA2.fB), (.int .i64 aA2.fC), (.int .i64 aA2.fD)])] (by kernel_rfl) (by kernel_rfl) (fun w hm => laws_toAct.calls aA2 w _ ht_566) ?_
                                rintro w v w' hm ⟨rfl, hm'⟩
                                refine ⟨_, hm.app hm', jkD (fun w h => h.pick [0, 1, 2, 3, 4, 5, 6, 7, 8, 9, 10, 11, 12, 13, 14, 15, 16] (by kernel_rfl) (by kernel_rfl)) ?_⟩
                                clear hm hm'
                                refine toD2 6 10 (by kernel_rfl) ?_ ?_
                                · obtain ⟨t_33, ht_567, h⟩ := bd h
                                  refine p_call 0 11 #[(.agg #[(.int .i16 t_30.fSteps), (.slice (o_550.map fun b => ⟨b, 0, none⟩) t_30.fHammers.length cap_551)]), (.agg #[(.slice (o_556.map fun b => ⟨b, 0, none⟩) t_31.fPins.length cap_557), (.slice (o_561.map fun b => ⟨b, 0, none⟩) t_31.fStrokes.length cap_562)]), (.agg #[(.int .i8 t_32.fKind), (.int .i64 t_32.fA), (.int .i64 t_32.fB), (.int .i64 t_32.fC), (.int .i64 t_32.fD)])] (by kernel_rfl) (by kernel_rfl) (fun w hm => impl_DoWearAct.calls t_30 t_31 t_32 w _ (o_550.map fun b => ⟨b, 0, none⟩) t_30.fHammers.length cap_551 (hm.ownRow (hh := 17) (o := o_550) (T := 119) (enc := encGHammer) (xs := t_30.fHammers) (sp := sp_552) (by kernel_rfl) (fun e => (ho_554 e).1) encGHammer_len) rfl (o_556.map fun b => ⟨b, 0, none⟩) t_31.fPins.length cap_557 (hm.ownRow (hh := 18) (o := o_556) (T := 108) (enc := encGWornPin) (xs := t_31.fPins) (sp := sp_558) (by kernel_rfl) (fun e => (ho_560 e).1) encGWornPin_len) rfl (o_561.map fun b => ⟨b, 0, none⟩) t_31.fStrokes.length cap_562 (hm.ownRow (hh := 19) (o := o_561) (T := 2) (enc := encI64) (xs := t_31.fStrokes) (sp := sp_563) (by kernel_rfl) (fun e => (ho_565 e).1) encI64_len) rfl ht_567) ?_
                                  rintro w v w' hm ⟨o_568, cap_569, sp_570, _, rfl, hs_571, ho_572, o_573, cap_574, sp_575, _, rfl, hs_576, ho_577, rfl, hm'⟩
                                  refine ⟨_, hm.app hm', jkD (fun w h => h.pick [0, 1, 2, 3, 4, 5, 6, 7, 8, 9, 10, 11, 12, 13, 14, 15, 16] (by kernel_rfl) (by kernel_rfl)) ?_⟩
                                  clear hm hm'
                                  refine jd_f [⟨7, 0, 0⟩, ⟨8, 0, 0⟩, ⟨9, 0, 0⟩] 3 (by kernel_rfl) (by kernel_rfl) (fun w h => h.pick [0, 1, 2, 3, 4, 5, 6, 7, 8, 9, 10, 11, 12, 13, 14, 15, 16] (by kernel_rfl) (by kernel_rfl)) (by kernel_rfl) (by kernel_rfl) ?_
                                  refine toD 10 (by kernel_rfl) (p_a 0 [0] (by kernel_rfl) (fun b => by kernel_rfl) (fun b_578 => jkD (fun w h => h.pick [0, 1, 2, 3, 4, 5, 6, 7, 8, 9, 10, 11, 12, 13, 14, 15, 16] (by kernel_rfl) (by kernel_rfl)) ?_))
                                  refine toD 11 (by kernel_rfl) (p_s 0 [22] (by kernel_rfl) (by kernel_rfl) (jkD (fun w h => h.pick [0, 1, 2, 3, 4, 5, 6, 7, 8, 9, 10, 11, 12, 13, 14, 15, 16] (by kernel_rfl) (by kernel_rfl)) ?_))
                                  refine jd_f [⟨12, 0, 0⟩] 0 (by kernel_rfl) (by kernel_rfl) (fun w h => h.pick [0, 1, 2, 3, 4, 5, 6, 7, 8, 9, 10, 11, 12, 13, 14, 15, 16] (by kernel_rfl) (by kernel_rfl)) (by kernel_rfl) (by kernel_rfl) ?_
                                  refine jd_end (by kernel_rfl) ?_
                                  exact jx_meet ⟨t_33.1.fPins, t_33.1.fStrokes, t_33.2, b_578, o_568, cap_569, sp_570, t_33.1.fPins.length, o_573, cap_574, sp_575, t_33.1.fStrokes.length⟩ ⟨h, rfl, hs_571, ho_572, rfl, hs_576, ho_577⟩ (by kernel_rfl) [0, 1, 2, 3, 4, 5, 6, 7, 8, 9, 10, 11, 12, 13, 14, 15, 16, 22, 20, 21] (by kernel_rfl) (by kernel_rfl)
                                · refine p_a 0 [0] (by kernel_rfl) (fun b => by kernel_rfl) (fun b_579 => jkD (fun w h => h.pick [0, 1, 2, 3, 4, 5, 6, 7, 8, 9, 10, 11, 12, 13, 14, 15, 16] (by kernel_rfl) (by kernel_rfl)) ?_)
                                  obtain ⟨t_33, ht_580, h⟩ := bd h
                                  refine toD 6 (by kernel_rfl) (p_call 0 11 #[(.agg #[(.int .i16 t_30.fSteps), (.slice (o_550.map fun b => ⟨b, 0, none⟩) t_30.fHammers.length cap_551)]), (.agg #[(.slice (o_556.map fun b => ⟨b, 0, none⟩) t_31.fPins.length cap_557), (.slice (o_561.map fun b => ⟨b, 0, none⟩) t_31.fStrokes.length cap_562)]), (.agg #[(.int .i8 t_32.fKind), (.int .i64 t_32.fA), (.int .i64 t_32.fB), (.int .i64 t_32.fC), (.int .i64 t_32.fD)])] (by kernel_rfl) (by kernel_rfl) (fun w hm => impl_DoWearAct.calls t_30 t_31 t_32 w _ (o_550.map fun b => ⟨b, 0, none⟩) t_30.fHammers.length cap_551 (hm.ownRow (hh := 17) (o := o_550) (T := 119) (enc := encGHammer) (xs := t_30.fHammers) (sp := sp_552) (by kernel_rfl) (fun e => (ho_554 e).1) encGHammer_len) rfl (o_556.map fun b => ⟨b, 0, none⟩) t_31.fPins.length cap_557 (hm.ownRow (hh := 18) (o := o_556) (T := 108) (enc := encGWornPin) (xs := t_31.fPins) (sp := sp_558) (by kernel_rfl) (fun e => (ho_560 e).1) encGWornPin_len) rfl (o_561.map fun b => ⟨b, 0, none⟩) t_31.fStrokes.length cap_562 (hm.ownRow (hh := 19) (o := o_561) (T := 2) (enc := encI64) (xs := t_31.fStrokes) (sp := sp_563) (by kernel_rfl) (fun e => (ho_565 e).1) encI64_len) rfl ht_580) ?_)
                                  rintro w v w' hm ⟨o_581, cap_582, sp_583, _, rfl, hs_584, ho_585, o_586, cap_587, sp_588, _, rfl, hs_589, ho_590, rfl, hm'⟩
                                  refine ⟨_, hm.app hm', jkD (fun w h => h.pick [0, 1, 2, 3, 4, 5, 6, 7, 8, 9, 10, 11, 12, 13, 14, 15, 16] (by kernel_rfl) (by kernel_rfl)) ?_⟩
                                  clear hm hm'
                                  refine jd_f [⟨7, 0, 0⟩, ⟨8, 0, 0⟩, ⟨9, 0, 0⟩] 2 (by kernel_rfl) (by kernel_rfl) (fun w h => h.pick [0, 1, 2, 3, 4, 5, 6, 7, 8, 9, 10, 11, 12, 13, 14, 15, 16] (by kernel_rfl) (by kernel_rfl)) (by kernel_rfl) (by kernel_rfl) ?_
                                  refine toD 11 (by kernel_rfl) (p_s 0 [20] (by kernel_rfl) (by kernel_rfl) (jkD (fun w h => h.pick [0, 1, 2, 3, 4, 5, 6, 7, 8, 9, 10, 11, 12, 13, 14, 15, 16] (by kernel_rfl) (by kernel_rfl)) ?_))
                                  refine jd_f [⟨12, 0, 0⟩] 0 (by kernel_rfl) (by kernel_rfl) (fun w h => h.pick [0, 1, 2, 3, 4, 5, 6, 7, 8, 9, 10, 11, 12, 13, 14, 15, 16] (by kernel_rfl) (by kernel_rfl)) (by kernel_rfl) (by kernel_rfl) ?_
                                  refine jd_end (by kernel_rfl) ?_
                                  exact jx_meet ⟨t_33.1.fPins, t_33.1.fStrokes, t_33.2, b_579, o_581, cap_582, sp_583, t_33.1.fPins.length, o_586, cap_587, sp_588, t_33.1.fStrokes.length⟩ ⟨h, rfl, hs_584, ho_585, rfl, hs_589, ho_590⟩ (by kernel_rfl) [0, 1, 2, 3, 4, 5, 6, 7, 8, 9, 10, 11, 12, 13, 14, 15, 16, 20, 21, 22] (by kernel_rfl) (by kernel_rfl)
                              · refine p_a 0 [0] (by kernel_rfl) (fun b => by kernel_rfl) (fun b_591 => jkD (fun w h => h.pick [0, 1, 2, 3, 4, 5, 6, 7, 8, 9, 10, 11, 12, 13, 14, 15, 16] (by kernel_rfl) (by kernel_rfl)) ?_)
                                obtain ⟨t_32, ht_592, h⟩ := bd h
                                refine toD 5 (by kernel_rfl) (p_call 0 10 #[(.agg #[(.int .i8 aA2.fKind), (.int .i64 aA2.fA), (.int .i64 aA2.fB), (.int .i64 aA2.fC), (.int .i64 aA2.fD)])] (by kernel_rfl) (by kernel_rfl) (fun w hm => laws_toAct.calls aA2 w _ ht_592) ?_)
                                rintro w v w' hm ⟨rfl, hm'⟩
                                refine ⟨_, hm.app hm', jkD (fun w h => h.pick [0, 1, 2, 3, 4, 5, 6, 7, 8, 9, 10, 11, 12, 13, 14, 15, 16] (by kernel_rfl) (by kernel_rfl)) ?_⟩
                                clear hm hm'
                                obtain ⟨t_33, ht_593, h⟩ := bd h
                                refine toD 6 (by kernel_rfl) (p_call 0 11 #[(.agg #[(.int .i16 t_30.fSteps), (.slice (o_550.map fun b => ⟨b, 0, none⟩) t_30.fHammers.length cap_551)]), (.agg #[(.slice (o_556.map fun b => ⟨b, 0, none⟩) t_31.fPins.length cap_557), (.slice (o_561.map fun b => ⟨b, 0, none⟩) t_31.fStrokes.length cap_562)]), (.agg #[(.int .i8 t_32.fKind), (.int .i64 t_32.fA), (.int .i64 t_32.fB), (.int .i64 t_32.fC), (.int .i64 t_32.fD)])] (by kernel_rfl) (by kernel_rfl) (fun w hm => impl_DoWearAct.calls t_30 t_31 t_32 w _ (o_550.map fun b => ⟨b, 0, none⟩) t_30.fHammers.length cap_551 (hm.ownRow (hh := 17) (o := o_550) (T := 119) (enc := encGHammer) (xs := t_30.fHammers) (sp := sp_552) (by kernel_rfl) (fun e => (ho_554 e).1) encGHammer_len) rfl (o_556.map fun b => ⟨b, 0, none⟩) t_31.fPins.length cap_557 (hm.ownRow (hh := 18) (o := o_556) (T := 108) (enc := encGWornPin) (xs := t_31.fPins) (sp := sp_558) (by kernel_rfl) (fun e => (ho_560 e).1) encGWornPin_len) rfl (o_561.map fun b => ⟨b, 0, none⟩) t_31.fStrokes.length cap_562 (hm.ownRow (hh := 19) (o := o_561) (T := 2) (enc := encI64) (xs := t_31.fStrokes) (sp := sp_563) (by kernel_rfl) (fun e => (ho_565 e).1) encI64_len) rfl ht_593) ?_)
                                rintro w v w' hm ⟨o_594, cap_595, sp_596, _, rfl, hs_597, ho_598, o_599, cap_600, sp_601, _, rfl, hs_602, ho_603, rfl, hm'⟩
                                refine ⟨_, hm.app hm', jkD (fun w h => h.pick [0, 1, 2, 3, 4, 5, 6, 7, 8, 9, 10, 11, 12, 13, 14, 15, 16] (by kernel_rfl) (by kernel_rfl)) ?_⟩
                                clear hm hm'
                                refine jd_f [⟨7, 0, 0⟩, ⟨8, 0, 0⟩, ⟨9, 0, 0⟩] 2 (by kernel_rfl) (by kernel_rfl) (fun w h => h.pick [0, 1, 2, 3, 4, 5, 6, 7, 8, 9, 10, 11, 12, 13, 14, 15, 16] (by kernel_rfl) (by kernel_rfl)) (by kernel_rfl) (by kernel_rfl) ?_
                                refine toD 11 (by kernel_rfl) (p_s 0 [20] (by kernel_rfl) (by kernel_rfl) (jkD (fun w h => h.pick [0, 1, 2, 3, 4, 5, 6, 7, 8, 9, 10, 11, 12, 13, 14, 15, 16] (by kernel_rfl) (by kernel_rfl)) ?_))
                                refine jd_f [⟨12, 0, 0⟩] 0 (by kernel_rfl) (by kernel_rfl) (fun w h => h.pick [0, 1, 2, 3, 4, 5, 6, 7, 8, 9, 10, 11, 12, 13, 14, 15, 16] (by kernel_rfl) (by kernel_rfl)) (by kernel_rfl) (by kernel_rfl) ?_
                                refine jd_end (by kernel_rfl) ?_
                                exact jx_meet ⟨t_33.1.fPins, t_33.1.fStrokes, t_33.2, b_591, o_594, cap_595, sp_596, t_33.1.fPins.length, o_599, cap_600, sp_601, t_33.1.fStrokes.length⟩ ⟨h, rfl, hs_597, ho_598, rfl, hs_602, ho_603⟩ (by kernel_rfl) [0, 1, 2, 3, 4, 5, 6, 7, 8, 9, 10, 11, 12, 13, 14, 15, 16, 20, 21, 22] (by kernel_rfl) (by kernel_rfl)
                            · refine p_a 0 [0] (by kernel_rfl) (fun b => by kernel_rfl) (fun b_604 => jkD (fun w h => h.pick [0, 1, 2, 3, 4, 5, 6, 7, 8, 9, 10, 11, 12, 13, 14, 15, 16] (by kernel_rfl) (by kernel_rfl)) ?_)
                              obtain ⟨t_31, ht_605, h⟩ := bd h
                              refine toD 3 (by kernel_rfl) (p_call 0 9 #[(.agg #[(.slice aW1_fPins_a aW1.fPins.length aW1_fPins_c), (.slice aW1_fStrokes_a aW1.fStrokes.length aW1_fStrokes_c)])] (by kernel_rfl) (by kernel_rfl) (fun w hm => laws_toWear.calls aW1 w _ aW1_fPins_a aW1.fPins.length aW1_fPins_c (hm.exRow aW1_fPins_h List.not_mem_nil) rfl aW1_fStrokes_a aW1.fStrokes.length aW1_fStrokes_c (hm.exRow aW1_fStrokes_h List.not_mem_nil) rfl ht_605) ?_)
                              rintro w v w' hm ⟨o_606, cap_607, sp_608, _, rfl, hs_609, ho_610, o_611, cap_612, sp_613, _, rfl, hs_614, ho_615, rfl, hm'⟩
                              refine ⟨_, hm.app hm', jkD (fun w h => h.pick [0, 1, 2, 3, 4, 5, 6, 7, 8, 9, 10, 11, 12, 13, 14, 15, 16] (by kernel_rfl) (by kernel_rfl)) ?_⟩
                              clear hm hm'
                              obtain ⟨t_32, ht_616, h⟩ := bd h
                              refine toD 5 (by kernel_rfl) (p_call 0 10 #[(.agg #[(.int .i8 aA2.fKind), (.int .i64 aA2.fA), (.int .i64 aA2.fB), (.int .i64 aA2.fC), (.int .i64 aA2.fD)])] (by kernel_rfl) (by kernel_rfl) (fun w hm => laws_toAct.calls aA2 w _ ht_616) ?_)
                              rintro w v w' hm ⟨rfl, hm'⟩
                              refine ⟨_, hm.app hm', jkD (fun w h => h.pick [0, 1, 2, 3, 4, 5, 6, 7, 8, 9, 10, 11, 12, 13, 14, 15, 16] (by kernel_rfl) (by kernel_rfl)) ?_⟩
                              clear hm hm'
                              obtain ⟨t_33, ht_617, h⟩ := bd h
                              refine toD 6 (by kernel_rfl) (p_call 0 11 #[(.agg #[(.int .i16 t_30.fSteps), (.slice (o_550.map fun b => ⟨b, 0, none⟩) t_30.fHammers.length cap_551)]), (.agg #[(.slice (o_606.map fun b => ⟨b, 0, none⟩) t_31.fPins.length cap_607), (.slice (o_611.map fun b => ⟨b, 0, none⟩) t_31.fStrokes.length cap_612)]), (.agg #[(.int .i8 t_32.fKind), (.int .i64 t_32.fA), (.int .i64 t_32.fB), (.int .i64 t_32.fC), (.int .i64 t_32.fD)])] (by kernel_rfl) (by kernel_rfl) (fun w hm => impl_DoWearAct.calls t_30 t_31 t_32 w _ (o_550.map fun b => ⟨b, 0, none⟩) t_30.fHammers.length cap_551 (hm.ownRow (hh := 17) (o := o_550) (T := 119) (enc := encGHammer) (xs := t_30.fHammers) (sp := sp_552) (by kernel_rfl) (fun e => (ho_554 e).1) encGHammer_len) rfl (o_606.map fun b => ⟨b, 0, none⟩) t_31.fPins.length cap_607 (hm.ownRow (hh := 19) (o := o_606) (T := 108) (enc := encGWornPin) (xs := t_31.fPins) (sp := sp_608) (by kernel_rfl) (fun e => (ho_610 e).1) encGWornPin_len) rfl (o_611.map fun b => ⟨b, 0, none⟩) t_31.fStrokes.length cap_612 (hm.ownRow (hh := 20) (o := o_611) (T := 2) (enc := encI64) (xs := t_31.fStrokes) (sp := sp_613) (by kernel_rfl) (fun e => (ho_615 e).1) encI64_len) rfl ht_617) ?_)
                              rintro w v w' hm ⟨o_618, cap_619, sp_620, _, rfl, hs_621, ho_622, o_623, cap_624, sp_625, _, rfl, hs_626, ho_627, rfl, hm'⟩
                              refine ⟨_, hm.app hm', jkD (fun w h => h.pick [0, 1, 2, 3, 4, 5, 6, 7, 8, 9, 10, 11, 12, 13, 14, 15, 16] (by kernel_rfl) (by kernel_rfl)) ?_⟩
                              clear hm hm'
                              refine jd_f [⟨7, 0, 0⟩, ⟨8, 0, 0⟩, ⟨9, 0, 0⟩] 2 (by kernel_rfl) (by kernel_rfl) (fun w h => h.pick [0, 1, 2, 3, 4, 5, 6, 7, 8, 9, 10, 11, 12, 13, 14, 15, 16] (by kernel_rfl) (by kernel_rfl)) (by kernel_rfl) (by kernel_rfl) ?_
                              refine toD 11 (by kernel_rfl) (p_s 0 [18] (by kernel_rfl) (by kernel_rfl) (jkD (fun w h => h.pick [0, 1, 2, 3, 4, 5, 6, 7, 8, 9, 10, 11, 12, 13, 14, 15, 16] (by kernel_rfl) (by kernel_rfl)) ?_))
                              refine jd_f [⟨12, 0, 0⟩] 0 (by kernel_rfl) (by kernel_rfl) (fun w h => h.pick [0, 1, 2, 3, 4, 5, 6, 7, 8, 9, 10, 11, 12, 13, 14, 15, 16] (by kernel_rfl) (by kernel_rfl)) (by kernel_rfl) (by kernel_rfl) ?_
                              refine jd_end (by kernel_rfl) ?_
                              exact jx_meet ⟨t_33.1.fPins, t_33.1.fStrokes, t_33.2, b_604, o_618, cap_619, sp_620, t_33.1.fPins.length, o_623, cap_624, sp_625, t_33.1.fStrokes.length⟩ ⟨h, rfl, hs_621, ho_622, rfl, hs_626, ho_627⟩ (by kernel_rfl) [0, 1, 2, 3, 4, 5, 6, 7, 8, 9, 10, 11, 12, 13, 14, 15, 16, 18, 21, 22] (by kernel_rfl) (by kernel_rfl)
                          · refine p_a 0 [0] (by kernel_rfl) (fun b => by kernel_rfl) (fun b_628 => jkD (fun w h => h.pick [0, 1, 2, 3, 4, 5, 6, 7, 8, 9, 10, 11, 12, 13, 14, 15, 16] (by kernel_rfl) (by kernel_rfl)) ?_)
                            obtain ⟨t_30, ht_629, h⟩ := bd h
                            refine toD 1 (by kernel_rfl) (p_call 0 8 #[(.agg #[(.int .i16 aF0.fSteps), (.slice aF0_fHammers_a aF0.fHammers.length aF0_fHammers_c)])] (by kernel_rfl) (by kernel_rfl) (fun w hm => laws_toFrame.calls aF0 w _ aF0_fHammers_a aF0.fHammers.length aF0_fHammers_c (hm.exRow aF0_fHammers_h List.not_mem_nil) rfl ht_629) ?_)
                            rintro w v w' hm ⟨o_630, cap_631, sp_632, _, rfl, hs_633, ho_634, rfl, hm'⟩
                            refine ⟨_, hm.app hm', jkD (fun w h => h.pick [0, 1, 2, 3, 4, 5, 6, 7, 8, 9, 10, 11, 12, 13, 14, 15, 16] (by kernel_rfl) (by kernel_rfl)) ?_⟩
                            clear hm hm'
                            obtain ⟨t_31, ht_635, h⟩ := bd h
                            refine toD 3 (by kernel_rfl) (p_call 0 9 #[(.agg #[(.slice aW1_fPins_a aW1.fPins.length aW1_fPins_c), (.slice aW1_fStrokes_a aW1.fStrokes.length aW1_fStrokes_c)])] (by kernel_rfl) (by kernel_rfl) (fun w hm => laws_toWear.calls aW1 w _ aW1_fPins_a aW1.fPins.length aW1_fPins_c (hm.exRow aW1_fPins_h List.not_mem_nil) rfl aW1_fStrokes_a aW1.fStrokes.length aW1_fStrokes_c (hm.exRow aW1_fStrokes_h List.not_mem_nil) rfl ht_635) ?_)
                            rintro w v w' hm ⟨o_636, cap_637, sp_638, _, rfl, hs_639, ho_640, o_641, cap_642, sp_643, _, rfl, hs_644, ho_645, rfl, hm'⟩
                            refine ⟨_, hm.app hm', jkD (fun w h => h.pick [0, 1, 2, 3, 4, 5, 6, 7, 8, 9, 10, 11, 12, 13, 14, 15, 16] (by kernel_rfl) (by kernel_rfl)) ?_⟩
                            clear hm hm'
                            obtain ⟨t_32, ht_646, h⟩ := bd h
                            refine toD 5 (by kernel_rfl) (p_call 0 10 #[(.agg #[(.int .i8 aA2.fKind), (.int .i64 aA2.fA), (.int .i64 aA2.fB), (.int .i64 aA2.fC), (.int .i64 aA2.fD)])] (by kernel_rfl) (by kernel_rfl) (fun w hm => laws_toAct.calls aA2 w _ ht_646) ?_)
                            rintro w v w' hm ⟨rfl, hm'⟩
                            refine ⟨_, hm.app hm', jkD (fun w h => h.pick [0, 1, 2, 3, 4, 5, 6, 7, 8, 9, 10, 11, 12, 13, 14, 15, 16] (by kernel_rfl) (by kernel_rfl)) ?_⟩
                            clear hm hm'
                            obtain ⟨t_33, ht_647, h⟩ := bd h
                            refine toD 6 (by kernel_rfl) (p_call 0 11 #[(.agg #[(.int .i16 t_30.fSteps), (.slice (o_630.map fun b => ⟨b, 0, none⟩) t_30.fHammers.length cap_631)]), (.agg #[(.slice (o_636.map fun b => ⟨b, 0, none⟩) t_31.fPins.length cap_637), (.slice (o_641.map fun b => ⟨b, 0, none⟩) t_31.fStrokes.length cap_642)]), (.agg #[(.int .i8 t_32.fKind), (.int .i64 t_32.fA), (.int .i64 t_32.fB), (.int .i64 t_32.fC), (.int .i64 t_32.fD)])] (by kernel_rfl) (by kernel_rfl) (fun w hm => impl_DoWearAct.calls t_30 t_31 t_32 w _ (o_630.map fun b => ⟨b, 0, none⟩) t_30.fHammers.length cap_631 (hm.ownRow (hh := 18) (o := o_630) (T := 119) (enc := encGHammer) (xs := t_30.fHammers) (sp := sp_632) (by kernel_rfl) (fun e => (ho_634 e).1) encGHammer_len) rfl (o_636.map fun b => ⟨b, 0, none⟩) t_31.fPins.length cap_637 (hm.ownRow (hh := 19) (o := o_636) (T := 108) (enc := encGWornPin) (xs := t_31.fPins) (sp := sp_638) (by kernel_rfl) (fun e => (ho_640 e).1) encGWornPin_len) rfl (o_641.map fun b => ⟨b, 0, none⟩) t_31.fStrokes.length cap_642 (hm.ownRow (hh := 20) (o := o_641) (T := 2) (enc := encI64) (xs := t_31.fStrokes) (sp := sp_643) (by kernel_rfl) (fun e => (ho_645 e).1) encI64_len) rfl ht_647) ?_)
                            rintro w v w' hm ⟨o_648, cap_649, sp_650, _, rfl, hs_651, ho_652, o_653, cap_654, sp_655, _, rfl, hs_656, ho_657, rfl, hm'⟩
                            refine ⟨_, hm.app hm', jkD (fun w h => h.pick [0, 1, 2, 3, 4, 5, 6, 7, 8, 9, 10, 11, 12, 13, 14, 15, 16] (by kernel_rfl) (by kernel_rfl)) ?_⟩
                            clear hm hm'
                            refine jd_f [⟨7, 0, 0⟩, ⟨8, 0, 0⟩, ⟨9, 0, 0⟩] 2 (by kernel_rfl) (by kernel_rfl) (fun w h => h.pick [0, 1, 2, 3, 4, 5, 6, 7, 8, 9, 10, 11, 12, 13, 14, 15, 16] (by kernel_rfl) (by kernel_rfl)) (by kernel_rfl) (by kernel_rfl) ?_
                            refine toD 11 (by kernel_rfl) (p_s 0 [17] (by kernel_rfl) (by kernel_rfl) (jkD (fun w h => h.pick [0, 1, 2, 3, 4, 5, 6, 7, 8, 9, 10, 11, 12, 13, 14, 15, 16] (by kernel_rfl) (by kernel_rfl)) ?_))
                            refine jd_f [⟨12, 0, 0⟩] 0 (by kernel_rfl) (by kernel_rfl) (fun w h => h.pick [0, 1, 2, 3, 4, 5, 6, 7, 8, 9, 10, 11, 12, 13, 14, 15, 16] (by kernel_rfl) (by kernel_rfl)) (by kernel_rfl) (by kernel_rfl) ?_
                            refine jd_end (by kernel_rfl) ?_
                            exact jx_meet ⟨t_33.1.fPins, t_33.1.fStrokes, t_33.2, b_628, o_648, cap_649, sp_650, t_33.1.fPins.length, o_653, cap_654, sp_655, t_33.1.fStrokes.length⟩ ⟨h, rfl, hs_651, ho_652, rfl, hs_656, ho_657⟩ (by kernel_rfl) [0, 1, 2, 3, 4, 5, 6, 7, 8, 9, 10, 11, 12, 13, 14, 15, 16, 17, 21, 22] (by kernel_rfl) (by kernel_rfl)
                        · rintro ⟨xs_24, xs_25, i_26, b_526, o_527, cap_528, sp_529, n_530, o_533, cap_534, sp_535, n_536⟩ ⟨h, rfl, hs_531, ho_532, rfl, hs_537, ho_538⟩
                          replace h : laws_FnExactDoWearAct.k_27 xs_3 xs_4 i_5 t_22 xs_24 xs_25 i_26 = some r := h
                          rw [laws_FnExactDoWearAct.k_27] at h
                          refine jx_then ?_
                          refine jc_seq ?_
                          refine jc_seq ?_
                          refine jc_region ?_
                          refine jo_f [(17, 0), (3, 0)] (by kernel_rfl) ?_
                          obtain ⟨t_28, ht_543, h⟩ := bd h
                          refine toO (by kernel_rfl) (p_call 0 12 #[(.agg #[(.slice (o_527.map fun b => ⟨b, 0, none⟩) xs_24.length cap_528), (.slice (o_533.map fun b => ⟨b, 0, none⟩) xs_25.length cap_534)]), (.agg #[(.slice (o_120.map fun b => ⟨b, 0, none⟩) xs_3.length cap_121), (.slice (o_126.map fun b => ⟨b, 0, none⟩) xs_4.length cap_127)])] (by kernel_rfl) (by kernel_rfl) (fun w hm => laws_eqWear.calls (⟨xs_24, xs_25⟩ : GWear) (⟨xs_3, xs_4⟩ : GWear) w _ (o_527.map fun b => ⟨b, 0, none⟩) xs_24.length cap_528 (hm.ownRow (hh := 18) (o := o_527) (T := 108) (enc := encGWornPin) (xs := xs_24) (sp := sp_529) (by kernel_rfl) (fun e => (ho_532 e).1) encGWornPin_len) rfl (o_533.map fun b => ⟨b, 0, none⟩) xs_25.length cap_534 (hm.ownRow (hh := 19) (o := o_533) (T := 2) (enc := encI64) (xs := xs_25) (sp := sp_535) (by kernel_rfl) (fun e => (ho_538 e).1) encI64_len) rfl (o_120.map fun b => ⟨b, 0, none⟩) xs_3.length cap_121 (hm.ownRow (hh := 4) (o := o_120) (T := 108) (enc := encGWornPin) (xs := xs_3) (sp := sp_122) (by kernel_rfl) (fun e => (ho_125 e).1) encGWornPin_len) rfl (o_126.map fun b => ⟨b, 0, none⟩) xs_4.length cap_127 (hm.ownRow (hh := 5) (o := o_126) (T := 2) (enc := encI64) (xs := xs_4) (sp := sp_128) (by kernel_rfl) (fun e => (ho_131 e).1) encI64_len) rfl ht_543) ?_)
                          rintro w v w' hm ⟨rfl, hm'⟩
                          refine ⟨_, hm.app hm', jkO ?_⟩
                          clear hm hm'
                          refine jo_f [(0, 0), (0, 0), (0, 1), (0, 1), (0, 1), (0, 0)] (by kernel_rfl) ?_
                          refine jo_end (by kernel_rfl) ?_
                          refine jx_then ?_
                          refine jc_cond ((!t_28) || (i_26 != i_5)) (by kernel_rfl) (fun hc_544 => ?_) (fun hc_544 => ?_)
                          · replace h := ifT hc_544 h
                            refine jc_seq ?_
                            refine jc_region ?_
                            refine jo_f [(0, 0)] (by kernel_rfl) ?_
                            refine jo_end (by kernel_rfl) ?_
                            refine jx_then ?_
                            refine jc_ret ?_
                            refine jx_thenr ?_
                            obtain rfl := Option.some.inj h
                            exact jx_ret [] (.bool false) [] rfl (by kernel_rfl) (by kernel_rfl) (fun w hm => ⟨rfl, hm.pick [] (by kernel_rfl) (by kernel_rfl)⟩)
                          · replace h := ifF hc_544 h
                            refine jc_skip ?_
                            refine jx_then ?_
                            refine jc_seq ?_
                            refine jc_region ?_
                            refine jo_f [(0, 0)] (by kernel_rfl) ?_
                            refine jo_end (by kernel_rfl) ?_
                            refine jx_then ?_
                            refine jc_seq ?_
                            refine jc_region ?_
                            refine jo_f [(11, 0), (0, 0)] (by kernel_rfl) ?_
                            obtain ⟨t_29, ht_545, h⟩ := bd h
                            refine toO (by kernel_rfl) (p_call 0 16 #[(.agg #[(.slice (o_190.map fun b => ⟨b, 0, none⟩) xs_9.length cap_191), (.slice (o_196.map fun b => ⟨b, 0, none⟩) xs_10.length cap_197)]), (.int .i64 1)] (by kernel_rfl) (by kernel_rfl) (fun w hm => laws_heldWear.calls (⟨t_22.2.1, t_22.2.2⟩ : GWear) 1 w _ (o_190.map fun b => ⟨b, 0, none⟩) xs_9.length cap_191 (hm.ownRow (hh := 12) (o := o_190) (T := 108) (enc := encGWornPin) (xs := t_22.2.1) (sp := sp_192) (by kernel_rfl) (fun e => (ho_409 e).1) encGWornPin_len) hn_408 (o_196.map fun b => ⟨b, 0, none⟩) xs_10.length cap_197 (hm.ownRow (hh := 13) (o := o_196) (T := 2) (enc := encI64) (xs := t_22.2.2) (sp := sp_198) (by kernel_rfl) (fun e => (ho_411 e).1) encI64_len) hn_410 ht_545) ?_)
                            rintro w v w' hm ⟨rfl, hm'⟩
                            refine ⟨_, hm.app hm', jkO ?_⟩
                            clear hm hm'
                            refine jo_f [(0, 0)] (by kernel_rfl) ?_
                            refine jo_end (by kernel_rfl) ?_
                            refine jx_then ?_
                            refine jc_seq ?_
                            refine jc_seq ?_
                            refine jc_region ?_
                            refine jo_f [(0, 0), (0, 0)] (by kernel_rfl) ?_
                            refine jo_end (by kernel_rfl) ?_
                            refine jx_then ?_
                            refine jc_cond (decide (t_29 < 0)) (by kernel_rfl) (fun hc_547 => ?_) (fun hc_547 => ?_)
                            · replace h := ifT hc_547 h
                              refine jc_seq ?_
                              refine jc_region ?_
                              refine jo_f [(0, 0)] (by kernel_rfl) ?_
                              refine jo_end (by kernel_rfl) ?_
                              refine jx_then ?_
                              refine jc_ret ?_
                              refine jx_thenr ?_
                              obtain rfl := Option.some.inj h
                              exact jx_ret [] (.bool false) [] rfl (by kernel_rfl) (by kernel_rfl) (fun w hm => ⟨rfl, hm.pick [] (by kernel_rfl) (by kernel_rfl)⟩)
                            · replace h := ifF hc_547 h
                              refine jc_skip ?_
                              refine jx_then ?_
                              refine jc_seq ?_
                              refine jc_seq ?_
                              refine jc_region ?_
                              refine jo_f [(0, 0), (0, 0), (0, 0)] (by kernel_rfl) ?_
                              refine jo_end (by kernel_rfl) ?_
                              refine jx_then ?_
                              refine jc_cond (t_29 != t_22.1) (by kernel_rfl) (fun hc_548 => ?_) (fun hc_548 => ?_)
                              · replace h := ifT hc_548 h
                                refine jc_seq ?_
                                refine jc_region ?_
                                refine jo_f [(0, 0)] (by kernel_rfl) ?_
                                refine jo_end (by kernel_rfl) ?_
                                refine jx_then ?_
                                refine jc_ret ?_
                                refine jx_thenr ?_
                                obtain rfl := Option.some.inj h
                                exact jx_ret [] (.bool false) [] rfl (by kernel_rfl) (by kernel_rfl) (fun w hm => ⟨rfl, hm.pick [] (by kernel_rfl) (by kernel_rfl)⟩)
                              · replace h := ifF hc_548 h
                                refine jc_skip ?_
                                refine jx_then ?_
                                refine jc_seq ?_
                                refine jc_region ?_
                                refine jo_f [(0, 0)] (by kernel_rfl) ?_
                                refine jo_end (by kernel_rfl) ?_
                                refine jx_then ?_
                                refine jc_ret ?_
                                obtain rfl := Option.some.inj h
                                exact jx_ret [] (.bool true) [] rfl (by kernel_rfl) (by kernel_rfl) (fun w hm => ⟨rfl, hm.pick [] (by kernel_rfl) (by kernel_rfl)⟩)
end Go.Proofs.YtilackblefjgdaaGreat
