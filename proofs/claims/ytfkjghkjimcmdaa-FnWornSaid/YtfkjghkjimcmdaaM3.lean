/- Functions of the program that the laws reach: a plain function each, and that the call comes to its answer if the plain function has one. Printed by a program. -/
import Derived.Test.YtfkjghkjimcmdaaT
import Derived.Test.YtfkjghkjimcmdaaM0
import Derived.Test.YtfkjghkjimcmdaaM1
import Derived.Test.YtfkjghkjimcmdaaM2
namespace Go.Proofs.Ytfkjghkjimcmdaa
open Eng
set_option linter.unusedVariables false

/-! ### laws.FnWorn -/
noncomputable def laws_FnWorn.k_25 (t_3 : GFrame) (t_4 : GWear) (t_5 : GLives) (t_17 : Int × Int) (t_18 : Int × Int) (t_19 : Int × Int × Int × Int) (t_20 : Int × Int × Int × Int) (q_24 : Bool) : Option (Bool) := (if q_24 = true then some false else (if (t_17.2 != 0) = true then some true else (if (t_19.2.2.2 != 0) = true then some ((t_19.2.2.2 == 6) && (t_18.1 == 1000000)) else (if (t_20.1 != (w64 (t_18.1 + 1))) = true then some false else (impl_TurnWear t_3 t_4 t_18.1).bind fun t_26 => (impl_WornOut t_3 t_26.1 t_5).bind fun t_27 => (impl_TurnWear t_3 t_4 (w64 (t_18.1 + 1))).bind fun t_28 => (impl_WornOut t_3 t_28.1 t_5).bind fun t_29 => (if ((((((t_26.2 != 0) || (t_27.2.2 != 0)) || ((t_27.1.length : Int) != 0)) || ((t_27.2.1.length : Int) != 0)) || (t_28.2 != 0)) || (t_29.2.2 != 0)) = true then some false else (if (decide (t_20.2.1 ≥ 0)) = true then (if (decide ((t_29.1.length : Int) > 0)) = true then (ix t_29.1 0).bind fun x_30 => (if ((w64 x_30.fStep) == t_20.2.1) = true then (ix t_29.1 0).bind fun x_31 => some ((w64 x_31.fTrack) == t_20.2.2.1) else some false) else some false) else (if (((t_20.2.1 == (-1)) && ((t_29.1.length : Int) == 0)) && (decide ((t_29.2.1.length : Int) > 0))) = true then (ix t_29.2.1 0).bind fun x_32 => some (x_32 == t_20.2.2.1) else some false)))))))
noncomputable def laws_FnWorn.k_22 (t_3 : GFrame) (t_4 : GWear) (t_5 : GLives) (t_17 : Int × Int) (t_18 : Int × Int) (t_19 : Int × Int × Int × Int) (t_20 : Int × Int × Int × Int) (q_21 : Bool) : Option (Bool) := (if q_21 = true then some false else (impl_WornOut t_3 t_4 t_5).bind fun t_23 => (if ((t_23.2.2 != 0) || ((t_17.2 == 0) == ((decide ((t_23.1.length : Int) > 0)) || (decide ((t_23.2.1.length : Int) > 0))))) = true then laws_FnWorn.k_25 t_3 t_4 t_5 t_17 t_18 t_19 t_20 true else (if ((decide ((t_23.1.length : Int) > 0)) || (decide ((t_23.2.1.length : Int) > 0))) = true then laws_FnWorn.k_25 t_3 t_4 t_5 t_17 t_18 t_19 t_20 ((t_17.2 != 4) || (t_19.2.2.2 != 4)) else laws_FnWorn.k_25 t_3 t_4 t_5 t_17 t_18 t_19 t_20 false)))
noncomputable def laws_FnWorn.k_13 (code0 : List Int) (t_3 : GFrame) (t_4 : GWear) (t_5 : GLives) (t_7 : GWear × Int) (t_8 : GWear × Int) (xs_9 : List GWornPin) (xs_11 : List Int) : Option (Bool) := (spec_P6Drum code0 t_3).bind fun t_14 => (impl_FreshWear t_3 t_14).bind fun t_15 => (impl_DrumOfWear t_3 t_15.1).bind fun t_16 => (impl_TurnsLeft t_3 t_4 t_5).bind fun t_17 => (spec_TurnsLeft t_3 t_4 t_5).bind fun t_18 => (impl_FirstWorn t_3 t_4 t_5).bind fun t_19 => (spec_FirstWorn t_3 t_4 t_5).bind fun t_20 => (if ((t_7.2 != t_8.2) || (t_7.2 != 0)) = true then laws_FnWorn.k_22 t_3 t_4 t_5 t_17 t_18 t_19 t_20 true else (spec_SameWear t_7.1 t_8.1).bind fun t_33 => (if (!t_33) = true then laws_FnWorn.k_22 t_3 t_4 t_5 t_17 t_18 t_19 t_20 true else (spec_SameWear (⟨xs_9, xs_11⟩ : GWear) t_8.1).bind fun t_34 => (if (!t_34) = true then laws_FnWorn.k_22 t_3 t_4 t_5 t_17 t_18 t_19 t_20 true else (impl_SameWear (⟨xs_9, xs_11⟩ : GWear) t_8.1).bind fun t_35 => (if (!t_35) = true then laws_FnWorn.k_22 t_3 t_4 t_5 t_17 t_18 t_19 t_20 true else (impl_ValidWear t_3 t_8.1).bind fun t_36 => (if (!t_36) = true then laws_FnWorn.k_22 t_3 t_4 t_5 t_17 t_18 t_19 t_20 true else (impl_ValidLives t_5).bind fun t_37 => (if (((!t_37) || (t_15.2 != 0)) || (t_16.2 != 0)) = true then laws_FnWorn.k_22 t_3 t_4 t_5 t_17 t_18 t_19 t_20 true else laws_FnWorn.k_22 t_3 t_4 t_5 t_17 t_18 t_19 t_20 (((((((!(t_16.1.1 == t_14.1)) || (t_17.2 != t_18.2)) || (t_17.1 != t_18.1)) || (t_19.2.2.2 != t_20.2.2.2)) || (t_19.1 != t_20.1)) || (t_19.2.1 != t_20.2.1)) || (t_19.2.2.1 != t_20.2.2.1))))))))
noncomputable def laws_FnWorn.l_43 (t_3 : GFrame) (t_6 : Int) : ((List GWornPin) × (List Int) × Int) → Option (((List GWornPin) × (List Int) × Int) ⊕ (Bool ⊕ ((List GWornPin) × (List Int))))
  | (xs_38, xs_40, i_42) => (if (decide (i_42 < t_6)) = true then (impl_TurnWear t_3 (⟨xs_38, xs_40⟩ : GWear) 1).bind fun t_45 => (if (t_45.2 != 0) = true then some (.inr (.inl false)) else some (.inl (t_45.1.fPins, t_45.1.fStrokes, (w64 (i_42 + 1))))) else some (.inr (.inr (xs_38, xs_40))))
noncomputable def laws_FnWorn.k_2 (code0 : List Int) (more1 : List Int) (q_1 : Bool) : Option (Bool) := (if q_1 = true then some true else (spec_P6Frame code0).bind fun t_3 => (spec_P6Wear more1 t_3).bind fun t_4 => (spec_P6Lives more1).bind fun t_5 => (spec_P6Pick code0 6).bind fun t_6 => (impl_TurnWear t_3 t_4 t_6).bind fun t_7 => (spec_TurnWear t_3 t_4 t_6).bind fun t_8 => (loop (laws_FnWorn.l_43 t_3 t_6) (t_4.fPins, t_4.fStrokes, 0)).bind fun t_44 => match t_44 with | .inl p => some p | .inr p => laws_FnWorn.k_13 code0 t_3 t_4 t_5 t_7 t_8 p.1 p.2)
noncomputable def laws_FnWorn (code0 : List Int) (more1 : List Int) : Option (Bool) := (laws_f6big code0).bind fun t_46 => (if t_46 = true then laws_FnWorn.k_2 code0 more1 true else (laws_f6big more1).bind fun t_47 => laws_FnWorn.k_2 code0 more1 t_47)
set_option maxRecDepth 100000 in
set_option maxHeartbeats 8000000 in
theorem laws_FnWorn.calls (code0 : List Int) (more1 : List Int) (w : World) (r : Bool) (code0_a : Option Addr) (code0_an : Nat) (code0_c : Nat) (code0_h : Rw w code0_a 1 encU8 code0) (code0_hn : code0.length = code0_an) (more1_a : Option Addr) (more1_an : Nat) (more1_c : Nat) (more1_h : Rw w more1_a 1 encU8 more1) (more1_hn : more1.length = more1_an) (h : laws_FnWorn code0 more1 = some r) :
    Calls Try.prog 3 #[(.slice code0_a code0_an code0_c), (.slice more1_a more1_an more1_c)] w fun e w' => ∃ v, e = .returned v ∧ (v = (.bool r) ∧ Mem w [] [] w') := by
  subst code0_hn more1_hn
  rw [laws_FnWorn] at h
  refine enter (args := [(.slice code0_a code0.length code0_c), (.slice more1_a more1.length more1_c)]) Try.func3 rfl Try.ntmps3 (by kernel_rfl) (L := []) (W := []) (Mem.start w) ?_
  refine jc_seq ?_
  refine jc_region ?_
  refine jo_f [(0, 0)] (by kernel_rfl) ?_
  refine jo_end (by kernel_rfl) ?_
  refine jx_then ?_
  refine jc_seq ?_
  refine jc_seq ?_
  refine jc_meet (fun (j : Bool) => match j with | q_1 => laws_FnWorn.k_2 code0 more1 q_1 = some r) (fun (j : Bool) => match j with | q_1 => [(0, [], (.slice code0_a code0.length code0_c)), (1, [], (.slice more1_a more1.length more1_c)), (4, [], (.bool false)), (53, [], (.bool q_1))]) (fun (j : Bool) => match j with | q_1 => []) ?_ ?_
  · refine jc_region ?_
    refine jo_f [(0, 0)] (by kernel_rfl) ?_
    obtain ⟨t_46, ht_748, h⟩ := bd h
    refine toO (by kernel_rfl) (p_call 0 4 #[(.slice code0_a code0.length code0_c)] (by kernel_rfl) (by kernel_rfl) (fun w hm => laws_f6big.calls code0 w _ code0_a code0.length code0_c (hm.exRow code0_h List.not_mem_nil) rfl ht_748) ?_)
    rintro w v w' hm ⟨rfl, hm'⟩
    refine ⟨_, hm.app hm', jkO ?_⟩
    clear hm hm'
    refine jo_f [(0, 0), (0, 1)] (by kernel_rfl) ?_
    refine jo_split 50 t_46 (by kernel_rfl) (fun hc_749 => ?_) (fun hc_749 => ?_)
    · replace h := ifT hc_749 h
      refine jo_f [(0, 3), (0, 4)] (by kernel_rfl) ?_
      refine jo_end (by kernel_rfl) ?_
      exact jx_meet true h (by kernel_rfl) [] (by kernel_rfl) (by kernel_rfl)
    · replace h := ifF hc_749 h
      obtain ⟨t_47, ht_750, h⟩ := bd h
      refine toO (by kernel_rfl) (p_call 2 4 #[(.slice more1_a more1.length more1_c)] (by kernel_rfl) (by kernel_rfl) (fun w hm => laws_f6big.calls more1 w _ more1_a more1.length more1_c (hm.exRow more1_h List.not_mem_nil) rfl ht_750) ?_)
      rintro w v w' hm ⟨rfl, hm'⟩
      refine ⟨_, hm.app hm', jkO ?_⟩
      clear hm hm'
      refine jo_f [(0, 5)] (by kernel_rfl) ?_
      refine jo_end (by kernel_rfl) ?_
      exact jx_meet t_47 h (by kernel_rfl) [] (by kernel_rfl) (by kernel_rfl)
  · rintro q_1 h
    replace h : laws_FnWorn.k_2 code0 more1 q_1 = some r := h
    rw [laws_FnWorn.k_2] at h
    refine jx_then ?_
    refine jc_cond q_1 (by kernel_rfl) (fun hc_11 => ?_) (fun hc_11 => ?_)
    · replace h := ifT hc_11 h
      refine jc_seq ?_
      refine jc_region ?_
      refine jo_f [(0, 0)] (by kernel_rfl) ?_
      refine jo_end (by kernel_rfl) ?_
      refine jx_then ?_
      refine jc_ret ?_
      refine jx_thenr ?_
      obtain rfl := Option.some.inj h
      exact jx_ret [] (.bool true) [] rfl (by kernel_rfl) (by kernel_rfl) (fun w hm => ⟨rfl, hm.pick [] (by kernel_rfl) (by kernel_rfl)⟩)
    · replace h := ifF hc_11 h
      refine jc_skip ?_
      refine jx_then ?_
      refine jc_seq ?_
      refine jc_region ?_
      refine jo_f [(0, 0)] (by kernel_rfl) ?_
      obtain ⟨t_3, ht_12, h⟩ := bd h
      refine toO (by kernel_rfl) (p_call 0 5 #[(.slice code0_a code0.length code0_c)] (by kernel_rfl) (by kernel_rfl) (fun w hm => spec_P6Frame.calls code0 w _ code0_a code0.length code0_c (hm.exRow code0_h List.not_mem_nil) rfl ht_12) ?_)
      rintro w v w' hm ⟨o_13, cap_14, sp_15, _, rfl, hs_16, ho_17, rfl, hm'⟩
      refine ⟨_, hm.app hm', jkO ?_⟩
      clear hm hm'
      refine toO (by kernel_rfl) (p_a 0 [0] (by kernel_rfl) (fun b => by kernel_rfl) (fun b_18 => jkO ?_))
      refine toO (by kernel_rfl) (p_s 0 [1] (by kernel_rfl) (by kernel_rfl) (jkO ?_))
      refine jo_end (by kernel_rfl) ?_
      refine jx_then ?_
      refine jc_seq ?_
      refine jc_region ?_
      refine jo_f [(0, 0), (1, 0)] (by kernel_rfl) ?_
      obtain ⟨t_4, ht_19, h⟩ := bd h
      refine toO (by kernel_rfl) (p_call 0 6 #[(.slice more1_a more1.length more1_c), (.agg #[(.int .i16 t_3.fSteps), (.slice (o_13.map fun b => ⟨b, 0, none⟩) t_3.fHammers.length cap_14)])] (by kernel_rfl) (by kernel_rfl) (fun w hm => spec_P6Wear.calls more1 t_3 w _ more1_a more1.length more1_c (hm.exRow more1_h List.not_mem_nil) rfl (o_13.map fun b => ⟨b, 0, none⟩) t_3.fHammers.length cap_14 (hm.ownRow (hh := 0) (o := o_13) (T := 102) (enc := encGHammer) (xs := t_3.fHammers) (sp := sp_15) (by kernel_rfl) (fun e => (ho_17 e).1) encGHammer_len) rfl ht_19) ?_)
      rintro w v w' hm ⟨o_20, cap_21, sp_22, _, rfl, hs_23, ho_24, o_25, cap_26, sp_27, _, rfl, hs_28, ho_29, rfl, hm'⟩
      refine ⟨_, hm.app hm', jkO ?_⟩
      clear hm hm'
      refine toO (by kernel_rfl) (p_a 0 [0] (by kernel_rfl) (fun b => by kernel_rfl) (fun b_30 => jkO ?_))
      refine toO (by kernel_rfl) (p_s 0 [4] (by kernel_rfl) (by kernel_rfl) (jkO ?_))
      refine jo_end (by kernel_rfl) ?_
      refine jx_then ?_
      refine jc_seq ?_
      refine jc_region ?_
      refine jo_f [(0, 0)] (by kernel_rfl) ?_
      obtain ⟨t_5, ht_31, h⟩ := bd h
      refine toO (by kernel_rfl) (p_call 0 7 #[(.slice more1_a more1.length more1_c)] (by kernel_rfl) (by kernel_rfl) (fun w hm => spec_P6Lives.calls more1 w _ more1_a more1.length more1_c (hm.exRow more1_h List.not_mem_nil) rfl ht_31) ?_)
      rintro w v w' hm ⟨rfl, hm'⟩
      refine ⟨_, hm.app hm', jkO ?_⟩
      clear hm hm'
      refine toO (by kernel_rfl) (p_a 0 [0] (by kernel_rfl) (fun b => by kernel_rfl) (fun b_32 => jkO ?_))
      refine toO (by kernel_rfl) (p_s 0 [5] (by kernel_rfl) (by kernel_rfl) (jkO ?_))
      refine jo_end (by kernel_rfl) ?_
      refine jx_then ?_
      refine jc_seq ?_
      refine jc_region ?_
      refine jo_f [(0, 0)] (by kernel_rfl) ?_
      obtain ⟨t_6, ht_33, h⟩ := bd h
      refine toO (by kernel_rfl) (p_call 0 8 #[(.slice code0_a code0.length code0_c), (.int .i64 6)] (by kernel_rfl) (by kernel_rfl) (fun w hm => spec_P6Pick.calls code0 6 w _ code0_a code0.length code0_c (hm.exRow code0_h List.not_mem_nil) rfl ht_33) ?_)
      rintro w v w' hm ⟨rfl, hm'⟩
      refine ⟨_, hm.app hm', jkO ?_⟩
      clear hm hm'
      refine jo_f [(0, 0)] (by kernel_rfl) ?_
      refine jo_end (by kernel_rfl) ?_
      refine jx_then ?_
      refine jc_seq ?_
      refine jc_region ?_
      refine jo_f [(1, 0), (4, 0), (0, 0)] (by kernel_rfl) ?_
      obtain ⟨t_7, ht_34, h⟩ := bd h
      refine toO (by kernel_rfl) (p_call 0 9 #[(.agg #[(.int .i16 t_3.fSteps), (.slice (o_13.map fun b => ⟨b, 0, none⟩) t_3.fHammers.length cap_14)]), (.agg #[(.slice (o_20.map fun b => ⟨b, 0, none⟩) t_4.fPins.length cap_21), (.slice (o_25.map fun b => ⟨b, 0, none⟩) t_4.fStrokes.length cap_26)]), (.int .i64 t_6)] (by kernel_rfl) (by kernel_rfl) (fun w hm => impl_TurnWear.calls t_3 t_4 t_6 w _ (o_13.map fun b => ⟨b, 0, none⟩) t_3.fHammers.length cap_14 (hm.ownRow (hh := 0) (o := o_13) (T := 102) (enc := encGHammer) (xs := t_3.fHammers) (sp := sp_15) (by kernel_rfl) (fun e => (ho_17 e).1) encGHammer_len) rfl (o_20.map fun b => ⟨b, 0, none⟩) t_4.fPins.length cap_21 (hm.ownRow (hh := 2) (o := o_20) (T := 58) (enc := encGWornPin) (xs := t_4.fPins) (sp := sp_22) (by kernel_rfl) (fun e => (ho_24 e).1) encGWornPin_len) rfl (o_25.map fun b => ⟨b, 0, none⟩) t_4.fStrokes.length cap_26 (hm.ownRow (hh := 3) (o := o_25) (T := 2) (enc := encI64) (xs := t_4.fStrokes) (sp := sp_27) (by kernel_rfl) (fun e => (ho_29 e).1) encI64_len) rfl ht_34) ?_)
      rintro w v w' hm ⟨o_35, cap_36, sp_37, _, rfl, hs_38, ho_39, o_40, cap_41, sp_42, _, rfl, hs_43, ho_44, rfl, hm'⟩
      refine ⟨_, hm.app hm', jkO ?_⟩
      clear hm hm'
      refine jo_f [(0, 0), (0, 0), (0, 0)] (by kernel_rfl) ?_
      refine toO (by kernel_rfl) (p_a 0 [0] (by kernel_rfl) (fun b => by kernel_rfl) (fun b_45 => jkO ?_))
      refine toO (by kernel_rfl) (p_s 0 [8] (by kernel_rfl) (by kernel_rfl) (jkO ?_))
      refine jo_f [(0, 0)] (by kernel_rfl) ?_
      refine jo_end (by kernel_rfl) ?_
      refine jx_then ?_
      refine jc_seq ?_
      refine jc_region ?_
      refine jo_f [(1, 0), (4, 0), (0, 0)] (by kernel_rfl) ?_
      obtain ⟨t_8, ht_46, h⟩ := bd h
      refine toO (by kernel_rfl) (p_call 0 10 #[(.agg #[(.int .i16 t_3.fSteps), (.slice (o_13.map fun b => ⟨b, 0, none⟩) t_3.fHammers.length cap_14)]), (.agg #[(.slice (o_20.map fun b => ⟨b, 0, none⟩) t_4.fPins.length cap_21), (.slice (o_25.map fun b => ⟨b, 0, none⟩) t_4.fStrokes.length cap_26)]), (.int .i64 t_6)] (by kernel_rfl) (by kernel_rfl) (fun w hm => spec_TurnWear.calls t_3 t_4 t_6 w _ (o_13.map fun b => ⟨b, 0, none⟩) t_3.fHammers.length cap_14 (hm.ownRow (hh := 0) (o := o_13) (T := 102) (enc := encGHammer) (xs := t_3.fHammers) (sp := sp_15) (by kernel_rfl) (fun e => (ho_17 e).1) encGHammer_len) rfl (o_20.map fun b => ⟨b, 0, none⟩) t_4.fPins.length cap_21 (hm.ownRow (hh := 2) (o := o_20) (T := 58) (enc := encGWornPin) (xs := t_4.fPins) (sp := sp_22) (by kernel_rfl) (fun e => (ho_24 e).1) encGWornPin_len) rfl (o_25.map fun b => ⟨b, 0, none⟩) t_4.fStrokes.length cap_26 (hm.ownRow (hh := 3) (o := o_25) (T := 2) (enc := encI64) (xs := t_4.fStrokes) (sp := sp_27) (by kernel_rfl) (fun e => (ho_29 e).1) encI64_len) rfl ht_46) ?_)
      rintro w v w' hm ⟨o_47, cap_48, sp_49, _, rfl, hs_50, ho_51, o_52, cap_53, sp_54, _, rfl, hs_55, ho_56, rfl, hm'⟩
      refine ⟨_, hm.app hm', jkO ?_⟩
      clear hm hm'
      refine jo_f [(0, 0), (0, 0), (0, 0)] (by kernel_rfl) ?_
      refine toO (by kernel_rfl) (p_a 0 [0] (by kernel_rfl) (fun b => by kernel_rfl) (fun b_57 => jkO ?_))
      refine toO (by kernel_rfl) (p_s 0 [11] (by kernel_rfl) (by kernel_rfl) (jkO ?_))
      refine jo_f [(0, 0)] (by kernel_rfl) ?_
      refine jo_end (by kernel_rfl) ?_
      refine jx_then ?_
      refine jc_seq ?_
      refine jc_region ?_
      refine jo_f [(4, 0)] (by kernel_rfl) ?_
      refine toO (by kernel_rfl) (p_a 0 [0] (by kernel_rfl) (fun b => by kernel_rfl) (fun b_58 => jkO ?_))
      refine toO (by kernel_rfl) (p_s 0 [12] (by kernel_rfl) (by kernel_rfl) (jkO ?_))
      refine jo_end (by kernel_rfl) ?_
      refine jx_then ?_
      refine jc_seq ?_
      refine jc_seq ?_
      refine jc_region ?_
      refine jo_f [(0, 0)] (by kernel_rfl) ?_
      refine jo_end (by kernel_rfl) ?_
      refine jx_then ?_
      refine jc_meet (fun (j : (List GWornPin) × (List Int) × (Option Nat) × Nat × (List Value) × Nat × (Option Addr) × (Option Nat) × Nat × (List Value) × Nat × (Option Addr)) => match j with | ⟨xs_9, xs_11, o_455, cap_456, sp_457, n_458, a_10, o_461, cap_462, sp_463, n_464, a_12⟩ => laws_FnWorn.k_13 code0 t_3 t_4 t_5 t_7 t_8 xs_9 xs_11 = some r ∧ (xs_9.length = n_458) ∧ (EiA o_455 a_10 xs_9 (o_20.map fun b => ⟨b, 0, none⟩) t_4.fPins) ∧ (xs_11.length = n_464) ∧ (EiA o_461 a_12 xs_11 (o_25.map fun b => ⟨b, 0, none⟩) t_4.fStrokes)) (fun (j : (List GWornPin) × (List Int) × (Option Nat) × Nat × (List Value) × Nat × (Option Addr) × (Option Nat) × Nat × (List Value) × Nat × (Option Addr)) => match j with | ⟨xs_9, xs_11, o_455, cap_456, sp_457, n_458, a_10, o_461, cap_462, sp_463, n_464, a_12⟩ => [(0, [], (.slice code0_a code0.length code0_c)), (4, [], (.bool false)), (5, [], (.pointer (some ⟨b_18, 0, none⟩))), (6, [], (.pointer (some ⟨b_30, 0, none⟩))), (7, [], (.pointer (some ⟨b_32, 0, none⟩))), (9, [], (.pointer (some ⟨b_45, 0, none⟩))), (10, [], (.int .i64 t_7.2)), (11, [], (.pointer (some ⟨b_57, 0, none⟩))), (12, [], (.int .i64 t_8.2)), (13, [], (.pointer (some ⟨b_58, 0, none⟩)))]) (fun (j : (List GWornPin) × (List Int) × (Option Nat) × Nat × (List Value) × Nat × (Option Addr) × (Option Nat) × Nat × (List Value) × Nat × (Option Addr)) => match j with | ⟨xs_9, xs_11, o_455, cap_456, sp_457, n_458, a_10, o_461, cap_462, sp_463, n_464, a_12⟩ => [⟨o_13, 102, row encGHammer t_3.fHammers sp_15⟩, ⟨some b_18, 27, [(.int .i16 t_3.fSteps), (.slice (o_13.map fun b => ⟨b, 0, none⟩) t_3.fHammers.length cap_14)]⟩, ⟨o_20, 58, row encGWornPin t_4.fPins sp_22⟩, ⟨o_25, 2, row encI64 t_4.fStrokes sp_27⟩, ⟨some b_30, 32, [(.slice (o_20.map fun b => ⟨b, 0, none⟩) t_4.fPins.length cap_21), (.slice (o_25.map fun b => ⟨b, 0, none⟩) t_4.fStrokes.length cap_26)]⟩, ⟨some b_32, 35, [(.int .i64 t_5.fPin), (.int .i64 t_5.fHammer)]⟩, ⟨o_35, 58, row encGWornPin t_7.1.fPins sp_37⟩, ⟨o_40, 2, row encI64 t_7.1.fStrokes sp_42⟩, ⟨some b_45, 32, [(.slice (o_35.map fun b => ⟨b, 0, none⟩) t_7.1.fPins.length cap_36), (.slice (o_40.map fun b => ⟨b, 0, none⟩) t_7.1.fStrokes.length cap_41)]⟩, ⟨o_47, 58, row encGWornPin t_8.1.fPins sp_49⟩, ⟨o_52, 2, row encI64 t_8.1.fStrokes sp_54⟩, ⟨some b_57, 32, [(.slice (o_47.map fun b => ⟨b, 0, none⟩) t_8.1.fPins.length cap_48), (.slice (o_52.map fun b => ⟨b, 0, none⟩) t_8.1.fStrokes.length cap_53)]⟩, ⟨some b_58, 32, [(.slice a_10 n_458 cap_456), (.slice a_12 n_464 cap_462)]⟩, ⟨o_455, 58, row encGWornPin xs_9 sp_457⟩, ⟨o_461, 2, row encI64 xs_11 sp_463⟩]) ?_ ?_
      · refine jc_block ?_
        obtain ⟨t_44, ht_747, hr_728⟩ := bd h
        refine jc_ghostX 58 encGWornPin t_4.fPins ?_
        refine jc_ghostX 2 encI64 t_4.fStrokes ?_
        refine jc_loop (fun (s : (List GWornPin) × (List Int) × Int) (x : (Option Nat) × Nat × (List Value) × Nat × (Option Addr) × (Option Nat) × Nat × (List Value) × Nat × (Option Addr)) => match s, x with | ⟨xs_38, xs_40, i_42⟩, ⟨o_716, cap_717, sp_718, n_719, a_39, o_722, cap_723, sp_724, n_725, a_41⟩ => (xs_38.length = n_719) ∧ (EiA o_716 a_39 xs_38 (o_20.map fun b => ⟨b, 0, none⟩) t_4.fPins) ∧ (xs_40.length = n_725) ∧ (EiA o_722 a_41 xs_40 (o_25.map fun b => ⟨b, 0, none⟩) t_4.fStrokes)) (fun (s : (List GWornPin) × (List Int) × Int) (x : (Option Nat) × Nat × (List Value) × Nat × (Option Addr) × (Option Nat) × Nat × (List Value) × Nat × (Option Addr)) => match s, x with | ⟨xs_38, xs_40, i_42⟩, ⟨o_716, cap_717, sp_718, n_719, a_39, o_722, cap_723, sp_724, n_725, a_41⟩ => [(0, [], (.slice code0_a code0.length code0_c)), (4, [], (.bool false)), (5, [], (.pointer (some ⟨b_18, 0, none⟩))), (6, [], (.pointer (some ⟨b_30, 0, none⟩))), (7, [], (.pointer (some ⟨b_32, 0, none⟩))), (8, [], (.int .i64 t_6)), (9, [], (.pointer (some ⟨b_45, 0, none⟩))), (10, [], (.int .i64 t_7.2)), (11, [], (.pointer (some ⟨b_57, 0, none⟩))), (12, [], (.int .i64 t_8.2)), (13, [], (.pointer (some ⟨b_58, 0, none⟩))), (14, [], (.int .i64 i_42))]) (fun (s : (List GWornPin) × (List Int) × Int) (x : (Option Nat) × Nat × (List Value) × Nat × (Option Addr) × (Option Nat) × Nat × (List Value) × Nat × (Option Addr)) => match s, x with | ⟨xs_38, xs_40, i_42⟩, ⟨o_716, cap_717, sp_718, n_719, a_39, o_722, cap_723, sp_724, n_725, a_41⟩ => [⟨o_13, 102, row encGHammer t_3.fHammers sp_15⟩, ⟨some b_18, 27, [(.int .i16 t_3.fSteps), (.slice (o_13.map fun b => ⟨b, 0, none⟩) t_3.fHammers.length cap_14)]⟩, ⟨o_20, 58, row encGWornPin t_4.fPins sp_22⟩, ⟨o_25, 2, row encI64 t_4.fStrokes sp_27⟩, ⟨some b_30, 32, [(.slice (o_20.map fun b => ⟨b, 0, none⟩) t_4.fPins.length cap_21), (.slice (o_25.map fun b => ⟨b, 0, none⟩) t_4.fStrokes.length cap_26)]⟩, ⟨some b_32, 35, [(.int .i64 t_5.fPin), (.int .i64 t_5.fHammer)]⟩, ⟨o_35, 58, row encGWornPin t_7.1.fPins sp_37⟩, ⟨o_40, 2, row encI64 t_7.1.fStrokes sp_42⟩, ⟨some b_45, 32, [(.slice (o_35.map fun b => ⟨b, 0, none⟩) t_7.1.fPins.length cap_36), (.slice (o_40.map fun b => ⟨b, 0, none⟩) t_7.1.fStrokes.length cap_41)]⟩, ⟨o_47, 58, row encGWornPin t_8.1.fPins sp_49⟩, ⟨o_52, 2, row encI64 t_8.1.fStrokes sp_54⟩, ⟨some b_57, 32, [(.slice (o_47.map fun b => ⟨b, 0, none⟩) t_8.1.fPins.length cap_48), (.slice (o_52.map fun b => ⟨b, 0, none⟩) t_8.1.fStrokes.length cap_53)]⟩, ⟨some b_58, 32, [(.slice a_39 n_719 cap_717), (.slice a_41 n_725 cap_723)]⟩, ⟨o_716, 58, row encGWornPin xs_38 sp_718⟩, ⟨o_722, 2, row encI64 xs_40 sp_724⟩]) ht_747 ⟨(none : Option Nat), cap_21, ([] : List Value), t_4.fPins.length, (o_20.map fun b => ⟨b, 0, none⟩), (none : Option Nat), cap_26, ([] : List Value), t_4.fStrokes.length, (o_25.map fun b => ⟨b, 0, none⟩)⟩ ⟨rfl, (.inr ⟨rfl, rfl, rfl⟩), rfl, (.inr ⟨rfl, rfl, rfl⟩)⟩ (by kernel_rfl) [0, 1, 2, 3, 4, 5, 6, 7, 8, 9, 10, 11, 12, 13, 14] (by kernel_rfl) (by kernel_rfl) ?_
        rintro ⟨xs_38, xs_40, i_42⟩ ⟨o_716, cap_717, sp_718, n_719, a_39, o_722, cap_723, sp_724, n_725, a_41⟩ y_729 ⟨hn_721, he_720, hn_727, he_726⟩ h
        rw [laws_FnWorn.l_43] at h
        refine jc_seq ?_
        refine jc_seq ?_
        refine jc_region ?_
        refine jo_f [(0, 0), (0, 0), (0, 0)] (by kernel_rfl) ?_
        refine jo_end (by kernel_rfl) ?_
        refine jx_then ?_
        refine jc_cond (decide (i_42 < t_6)) (by kernel_rfl) (fun hc_731 => ?_) (fun hc_731 => ?_)
        · replace h := ifT hc_731 h
          refine jc_skip ?_
          refine jx_then ?_
          refine jc_seq ?_
          refine jc_block ?_
          refine jc_seq ?_
          refine jc_region ?_
          refine jo_f [(1, 0), (12, 0)] (by kernel_rfl) ?_
          obtain ⟨t_45, ht_732, h⟩ := bd h
          refine toO (by kernel_rfl) (p_call 0 9 #[(.agg #[(.int .i16 t_3.fSteps), (.slice (o_13.map fun b => ⟨b, 0, none⟩) t_3.fHammers.length cap_14)]), (.agg #[(.slice a_39 n_719 cap_717), (.slice a_41 n_725 cap_723)]), (.int .i64 1)] (by kernel_rfl) (by kernel_rfl) (fun w hm => impl_TurnWear.calls t_3 (⟨xs_38, xs_40⟩ : GWear) 1 w _ (o_13.map fun b => ⟨b, 0, none⟩) t_3.fHammers.length cap_14 (hm.ownRow (hh := 0) (o := o_13) (T := 102) (enc := encGHammer) (xs := t_3.fHammers) (sp := sp_15) (by kernel_rfl) (fun e => (ho_17 e).1) encGHammer_len) rfl a_39 n_719 cap_717 (hm.eiRowA (hh := 13) (o := o_716) (T := 58) (enc := encGWornPin) (xs := xs_38) (sp := sp_718) (by kernel_rfl) he_720 (hm.ownRow (hh := 2) (o := o_20) (T := 58) (enc := encGWornPin) (xs := t_4.fPins) (sp := sp_22) (by kernel_rfl) (fun e => (ho_24 e).1) encGWornPin_len) encGWornPin_len) hn_721 a_41 n_725 cap_723 (hm.eiRowA (hh := 14) (o := o_722) (T := 2) (enc := encI64) (xs := xs_40) (sp := sp_724) (by kernel_rfl) he_726 (hm.ownRow (hh := 3) (o := o_25) (T := 2) (enc := encI64) (xs := t_4.fStrokes) (sp := sp_27) (by kernel_rfl) (fun e => (ho_29 e).1) encI64_len) encI64_len) hn_727 ht_732) ?_)
          rintro w v w' hm ⟨o_733, cap_734, sp_735, _, rfl, hs_736, ho_737, o_738, cap_739, sp_740, _, rfl, hs_741, ho_742, rfl, hm'⟩
          refine ⟨_, hm.app hm', jkO ?_⟩
          clear hm hm'
          refine jo_f [(0, 0), (0, 0), (0, 0)] (by kernel_rfl) ?_
          refine toO (by kernel_rfl) (p_a 0 [0] (by kernel_rfl) (fun b => by kernel_rfl) (fun b_743 => jkO ?_))
          refine toO (by kernel_rfl) (p_s 0 [17] (by kernel_rfl) (by kernel_rfl) (jkO ?_))
          refine jo_f [(0, 0)] (by kernel_rfl) ?_
          refine jo_end (by kernel_rfl) ?_
          refine jx_then ?_
          refine jc_seq ?_
          refine jc_seq ?_
          refine jc_region ?_
          refine jo_f [(0, 0), (0, 0)] (by kernel_rfl) ?_
          refine jo_end (by kernel_rfl) ?_
          refine jx_then ?_
          refine jc_cond (t_45.2 != 0) (by kernel_rfl) (fun hc_744 => ?_) (fun hc_744 => ?_)
          · replace h := ifT hc_744 h
            refine jc_seq ?_
            refine jc_region ?_
            refine jo_f [(0, 0)] (by kernel_rfl) ?_
            refine jo_end (by kernel_rfl) ?_
            refine jx_then ?_
            refine jc_ret ?_
            refine jx_thenr ?_
            refine jx_inr ?_
            refine jx_thenr ?_
            refine jx_leaver (.inl false) (Option.some.inj h).symm (fun e_745 => ?_)
            subst e_745
            refine jx_inr ?_
            refine jx_thenr ?_
            refine jx_thenr ?_
            obtain rfl := Option.some.inj hr_728
            exact jx_ret [] (.bool false) [] rfl (by kernel_rfl) (by kernel_rfl) (fun w hm => ⟨rfl, hm.pick [] (by kernel_rfl) (by kernel_rfl)⟩)
          · replace h := ifF hc_744 h
            refine jc_skip ?_
            refine jx_then ?_
            refine jc_region ?_
            refine jo_f [(17, 0)] (by kernel_rfl) ?_
            refine toO (by kernel_rfl) (p_s 0 [12] (by kernel_rfl) (by kernel_rfl) (jkO ?_))
            refine jo_end (by kernel_rfl) ?_
            refine jx_inn ?_
            refine jx_then ?_
            refine jc_region ?_
            refine jo_f [(0, 0), (0, 0), (0, 0)] (by kernel_rfl) ?_
            refine jo_end (by kernel_rfl) ?_
            exact jx_back (t_45.1.fPins, t_45.1.fStrokes, (w64 (i_42 + 1))) ⟨o_733, cap_734, sp_735, t_45.1.fPins.length, (o_733.map fun b => ⟨b, 0, none⟩), o_738, cap_739, sp_740, t_45.1.fStrokes.length, (o_738.map fun b => ⟨b, 0, none⟩)⟩ (Option.some.inj h).symm ⟨rfl, (.inl ⟨rfl, (fun e => (ho_737 e).1)⟩), rfl, (.inl ⟨rfl, (fun e => (ho_742 e).1)⟩)⟩ [0, 1, 2, 3, 4, 5, 6, 7, 8, 9, 10, 11, 12, 15, 16] (by kernel_rfl) (by kernel_rfl) (by kernel_rfl)
        · replace h := ifF hc_731 h
          refine jc_exit ?_
          refine jx_thenx ?_
          refine jx_leave (.inr (xs_38, xs_40)) (Option.some.inj h).symm (fun e_746 => ?_)
          subst e_746
          refine jx_ine ?_
          exact jx_meet ⟨xs_38, xs_40, o_716, cap_717, sp_718, n_719, a_39, o_722, cap_723, sp_724, n_725, a_41⟩ ⟨hr_728, hn_721, he_720, hn_727, he_726⟩ (by kernel_rfl) [0, 1, 2, 3, 4, 5, 6, 7, 8, 9, 10, 11, 12, 13, 14] (by kernel_rfl) (by kernel_rfl)
      · rintro ⟨xs_9, xs_11, o_455, cap_456, sp_457, n_458, a_10, o_461, cap_462, sp_463, n_464, a_12⟩ ⟨h, hn_460, he_459, hn_466, he_465⟩
        replace h : laws_FnWorn.k_13 code0 t_3 t_4 t_5 t_7 t_8 xs_9 xs_11 = some r := h
        rw [laws_FnWorn.k_13] at h
        refine jx_then ?_
        refine jc_seq ?_
        refine jc_region ?_
        refine jo_f [(0, 0), (1, 0)] (by kernel_rfl) ?_
        obtain ⟨t_14, ht_467, h⟩ := bd h
        refine toO (by kernel_rfl) (p_call 0 11 #[(.slice code0_a code0.length code0_c), (.agg #[(.int .i16 t_3.fSteps), (.slice (o_13.map fun b => ⟨b, 0, none⟩) t_3.fHammers.length cap_14)])] (by kernel_rfl) (by kernel_rfl) (fun w hm => spec_P6Drum.calls code0 t_3 w _ code0_a code0.length code0_c (hm.exRow code0_h List.not_mem_nil) rfl (o_13.map fun b => ⟨b, 0, none⟩) t_3.fHammers.length cap_14 (hm.ownRow (hh := 0) (o := o_13) (T := 102) (enc := encGHammer) (xs := t_3.fHammers) (sp := sp_15) (by kernel_rfl) (fun e => (ho_17 e).1) encGHammer_len) rfl ht_467) ?_)
        rintro w v w' hm ⟨rfl, hm'⟩
        refine ⟨_, hm.app hm', jkO ?_⟩
        clear hm hm'
        refine toO (by kernel_rfl) (p_a 0 [0] (by kernel_rfl) (fun b => by kernel_rfl) (fun b_468 => jkO ?_))
        refine toO (by kernel_rfl) (p_sA 0 15 b_468 96 1 42 encU32 (Arr.rep 96 0) t_14 (by kernel_rfl) (by kernel_rfl) (by kernel_rfl) encU32_len encU32_cell (by kernel_rfl) (jkO ?_))
        refine jo_end (by kernel_rfl) ?_
        refine jx_then ?_
        refine jc_seq ?_
        refine jc_region ?_
        refine jo_f [(1, 0)] (by kernel_rfl) ?_
        refine toO (by kernel_rfl) (p_ldA 0 15 b_468 96 1 42 encU32 t_14 (by kernel_rfl) (by kernel_rfl) (by kernel_rfl) encU32_len (by kernel_rfl) (jkO ?_))
        obtain ⟨t_15, ht_469, h⟩ := bd h
        refine toO (by kernel_rfl) (p_call 0 12 #[(.agg #[(.int .i16 t_3.fSteps), (.slice (o_13.map fun b => ⟨b, 0, none⟩) t_3.fHammers.length cap_14)]), (.agg (row encU32 t_14.1 []).toArray)] (by kernel_rfl) (by kernel_rfl) (fun w hm => impl_FreshWear.calls t_3 t_14 w _ (o_13.map fun b => ⟨b, 0, none⟩) t_3.fHammers.length cap_14 (hm.ownRow (hh := 0) (o := o_13) (T := 102) (enc := encGHammer) (xs := t_3.fHammers) (sp := sp_15) (by kernel_rfl) (fun e => (ho_17 e).1) encGHammer_len) rfl ht_469) ?_)
        rintro w v w' hm ⟨o_470, cap_471, sp_472, _, rfl, hs_473, ho_474, o_475, cap_476, sp_477, _, rfl, hs_478, ho_479, rfl, hm'⟩
        refine ⟨_, hm.app hm', jkO ?_⟩
        clear hm hm'
        refine jo_f [(0, 0), (0, 0), (0, 0)] (by kernel_rfl) ?_
        refine toO (by kernel_rfl) (p_a 0 [0] (by kernel_rfl) (fun b => by kernel_rfl) (fun b_480 => jkO ?_))
        refine toO (by kernel_rfl) (p_s 0 [18] (by kernel_rfl) (by kernel_rfl) (jkO ?_))
        refine jo_f [(0, 0)] (by kernel_rfl) ?_
        refine jo_end (by kernel_rfl) ?_
        refine jx_then ?_
        refine jc_seq ?_
        refine jc_region ?_
        refine jo_f [(1, 0), (18, 0)] (by kernel_rfl) ?_
        obtain ⟨t_16, ht_481, h⟩ := bd h
        refine toO (by kernel_rfl) (p_call 0 13 #[(.agg #[(.int .i16 t_3.fSteps), (.slice (o_13.map fun b => ⟨b, 0, none⟩) t_3.fHammers.length cap_14)]), (.agg #[(.slice (o_470.map fun b => ⟨b, 0, none⟩) t_15.1.fPins.length cap_471), (.slice (o_475.map fun b => ⟨b, 0, none⟩) t_15.1.fStrokes.length cap_476)])] (by kernel_rfl) (by kernel_rfl) (fun w hm => impl_DrumOfWear.calls t_3 t_15.1 w _ (o_13.map fun b => ⟨b, 0, none⟩) t_3.fHammers.length cap_14 (hm.ownRow (hh := 0) (o := o_13) (T := 102) (enc := encGHammer) (xs := t_3.fHammers) (sp := sp_15) (by kernel_rfl) (fun e => (ho_17 e).1) encGHammer_len) rfl (o_470.map fun b => ⟨b, 0, none⟩) t_15.1.fPins.length cap_471 (hm.ownRow (hh := 16) (o := o_470) (T := 58) (enc := encGWornPin) (xs := t_15.1.fPins) (sp := sp_472) (by kernel_rfl) (fun e => (ho_474 e).1) encGWornPin_len) rfl (o_475.map fun b => ⟨b, 0, none⟩) t_15.1.fStrokes.length cap_476 (hm.ownRow (hh := 17) (o := o_475) (T := 2) (enc := encI64) (xs := t_15.1.fStrokes) (sp := sp_477) (by kernel_rfl) (fun e => (ho_479 e).1) encI64_len) rfl ht_481) ?_)
        rintro w v w' hm ⟨rfl, hm'⟩
        refine ⟨_, hm.app hm', jkO ?_⟩
        clear hm hm'
        refine jo_f [(0, 0), (0, 0), (0, 0)] (by kernel_rfl) ?_
        refine toO (by kernel_rfl) (p_a 0 [0] (by kernel_rfl) (fun b => by kernel_rfl) (fun b_482 => jkO ?_))
        refine toO (by kernel_rfl) (p_sA 0 19 b_482 96 1 42 encU32 (Arr.rep 96 0) t_16.1 (by kernel_rfl) (by kernel_rfl) (by kernel_rfl) encU32_len encU32_cell (by kernel_rfl) (jkO ?_))
        refine jo_f [(0, 0)] (by kernel_rfl) ?_
        refine jo_end (by kernel_rfl) ?_
        refine jx_then ?_
        refine jc_seq ?_
        refine jc_region ?_
        refine jo_f [(1, 0), (4, 0), (5, 0)] (by kernel_rfl) ?_
        obtain ⟨t_17, ht_483, h⟩ := bd h
        refine toO (by kernel_rfl) (p_call 0 14 #[(.agg #[(.int .i16 t_3.fSteps), (.slice (o_13.map fun b => ⟨b, 0, none⟩) t_3.fHammers.length cap_14)]), (.agg #[(.slice (o_20.map fun b => ⟨b, 0, none⟩) t_4.fPins.length cap_21), (.slice (o_25.map fun b => ⟨b, 0, none⟩) t_4.fStrokes.length cap_26)]), (.agg #[(.int .i64 t_5.fPin), (.int .i64 t_5.fHammer)])] (by kernel_rfl) (by kernel_rfl) (fun w hm => impl_TurnsLeft.calls t_3 t_4 t_5 w _ (o_13.map fun b => ⟨b, 0, none⟩) t_3.fHammers.length cap_14 (hm.ownRow (hh := 0) (o := o_13) (T := 102) (enc := encGHammer) (xs := t_3.fHammers) (sp := sp_15) (by kernel_rfl) (fun e => (ho_17 e).1) encGHammer_len) rfl (o_20.map fun b => ⟨b, 0, none⟩) t_4.fPins.length cap_21 (hm.ownRow (hh := 2) (o := o_20) (T := 58) (enc := encGWornPin) (xs := t_4.fPins) (sp := sp_22) (by kernel_rfl) (fun e => (ho_24 e).1) encGWornPin_len) rfl (o_25.map fun b => ⟨b, 0, none⟩) t_4.fStrokes.length cap_26 (hm.ownRow (hh := 3) (o := o_25) (T := 2) (enc := encI64) (xs := t_4.fStrokes) (sp := sp_27) (by kernel_rfl) (fun e => (ho_29 e).1) encI64_len) rfl ht_483) ?_)
        rintro w v w' hm ⟨rfl, hm'⟩
        refine ⟨_, hm.app hm', jkO ?_⟩
        clear hm hm'
        refine jo_f [(0, 0), (0, 0), (0, 0), (0, 0), (0, 0)] (by kernel_rfl) ?_
        refine jo_end (by kernel_rfl) ?_
        refine jx_then ?_
        refine jc_seq ?_
        refine jc_region ?_
        refine jo_f [(1, 0), (4, 0), (5, 0)] (by kernel_rfl) ?_
        obtain ⟨t_18, ht_484, h⟩ := bd h
        refine toO (by kernel_rfl) (p_call 0 15 #[(.agg #[(.int .i16 t_3.fSteps), (.slice (o_13.map fun b => ⟨b, 0, none⟩) t_3.fHammers.length cap_14)]), (.agg #[(.slice (o_20.map fun b => ⟨b, 0, none⟩) t_4.fPins.length cap_21), (.slice (o_25.map fun b => ⟨b, 0, none⟩) t_4.fStrokes.length cap_26)]), (.agg #[(.int .i64 t_5.fPin), (.int .i64 t_5.fHammer)])] (by kernel_rfl) (by kernel_rfl) (fun w hm => spec_TurnsLeft.calls t_3 t_4 t_5 w _ (o_13.map fun b => ⟨b, 0, none⟩) t_3.fHammers.length cap_14 (hm.ownRow (hh := 0) (o := o_13) (T := 102) (enc := encGHammer) (xs := t_3.fHammers) (sp := sp_15) (by kernel_rfl) (fun e => (ho_17 e).1) encGHammer_len) rfl (o_20.map fun b => ⟨b, 0, none⟩) t_4.fPins.length cap_21 (hm.ownRow (hh := 2) (o := o_20) (T := 58) (enc := encGWornPin) (xs := t_4.fPins) (sp := sp_22) (by kernel_rfl) (fun e => (ho_24 e).1) encGWornPin_len) rfl (o_25.map fun b => ⟨b, 0, none⟩) t_4.fStrokes.length cap_26 (hm.ownRow (hh := 3) (o := o_25) (T := 2) (enc := encI64) (xs := t_4.fStrokes) (sp := sp_27) (by kernel_rfl) (fun e => (ho_29 e).1) encI64_len) rfl ht_484) ?_)
        rintro w v w' hm ⟨rfl, hm'⟩
        refine ⟨_, hm.app hm', jkO ?_⟩
        clear hm hm'
        refine jo_f [(0, 0), (0, 0), (0, 0), (0, 0), (0, 0)] (by kernel_rfl) ?_
        refine jo_end (by kernel_rfl) ?_
        refine jx_then ?_
        refine jc_seq ?_
        refine jc_region ?_
        refine jo_f [(1, 0), (4, 0), (5, 0)] (by kernel_rfl) ?_
        obtain ⟨t_19, ht_485, h⟩ := bd h
        refine toO (by kernel_rfl) (p_call 0 16 #[(.agg #[(.int .i16 t_3.fSteps), (.slice (o_13.map fun b => ⟨b, 0, none⟩) t_3.fHammers.length cap_14)]), (.agg #[(.slice (o_20.map fun b => ⟨b, 0, none⟩) t_4.fPins.length cap_21), (.slice (o_25.map fun b => ⟨b, 0, none⟩) t_4.fStrokes.length cap_26)]), (.agg #[(.int .i64 t_5.fPin), (.int .i64 t_5.fHammer)])] (by kernel_rfl) (by kernel_rfl) (fun w hm => impl_FirstWorn.calls t_3 t_4 t_5 w _ (o_13.map fun b => ⟨b, 0, none⟩) t_3.fHammers.length cap_14 (hm.ownRow (hh := 0) (o := o_13) (T := 102) (enc := encGHammer) (xs := t_3.fHammers) (sp := sp_15) (by kernel_rfl) (fun e => (ho_17 e).1) encGHammer_len) rfl (o_20.map fun b => ⟨b, 0, none⟩) t_4.fPins.length cap_21 (hm.ownRow (hh := 2) (o := o_20) (T := 58) (enc := encGWornPin) (xs := t_4.fPins) (sp := sp_22) (by kernel_rfl) (fun e => (ho_24 e).1) encGWornPin_len) rfl (o_25.map fun b => ⟨b, 0, none⟩) t_4.fStrokes.length cap_26 (hm.ownRow (hh := 3) (o := o_25) (T := 2) (enc := encI64) (xs := t_4.fStrokes) (sp := sp_27) (by kernel_rfl) (fun e => (ho_29 e).1) encI64_len) rfl ht_485) ?_)
        rintro w v w' hm ⟨rfl, hm'⟩
        refine ⟨_, hm.app hm', jkO ?_⟩
        clear hm hm'
        refine jo_f [(0, 0), (0, 0), (0, 0), (0, 0), (0, 0), (0, 0), (0, 0), (0, 0), (0, 0)] (by kernel_rfl) ?_
        refine jo_end (by kernel_rfl) ?_
        refine jx_then ?_
        refine jc_seq ?_
        refine jc_region ?_
        refine jo_f [(1, 0), (4, 0), (5, 0)] (by kernel_rfl) ?_
        obtain ⟨t_20, ht_486, h⟩ := bd h
        refine toO (by kernel_rfl) (p_call 0 17 #[(.agg #[(.int .i16 t_3.fSteps), (.slice (o_13.map fun b => ⟨b, 0, none⟩) t_3.fHammers.length cap_14)]), (.agg #[(.slice (o_20.map fun b => ⟨b, 0, none⟩) t_4.fPins.length cap_21), (.slice (o_25.map fun b => ⟨b, 0, none⟩) t_4.fStrokes.length cap_26)]), (.agg #[(.int .i64 t_5.fPin), (.int .i64 t_5.fHammer)])] (by kernel_rfl) (by kernel_rfl) (fun w hm => spec_FirstWorn.calls t_3 t_4 t_5 w _ (o_13.map fun b => ⟨b, 0, none⟩) t_3.fHammers.length cap_14 (hm.ownRow (hh := 0) (o := o_13) (T := 102) (enc := encGHammer) (xs := t_3.fHammers) (sp := sp_15) (by kernel_rfl) (fun e => (ho_17 e).1) encGHammer_len) rfl (o_20.map fun b => ⟨b, 0, none⟩) t_4.fPins.length cap_21 (hm.ownRow (hh := 2) (o := o_20) (T := 58) (enc := encGWornPin) (xs := t_4.fPins) (sp := sp_22) (by kernel_rfl) (fun e => (ho_24 e).1) encGWornPin_len) rfl (o_25.map fun b => ⟨b, 0, none⟩) t_4.fStrokes.length cap_26 (hm.ownRow (hh := 3) (o := o_25) (T := 2) (enc := encI64) (xs := t_4.fStrokes) (sp := sp_27) (by kernel_rfl) (fun e => (ho_29 e).1) encI64_len) rfl ht_486) ?_)
        rintro w v w' hm ⟨rfl, hm'⟩
        refine ⟨_, hm.app hm', jkO ?_⟩
        clear hm hm'
        refine jo_f [(0, 0), (0, 0), (0, 0), (0, 0), (0, 0), (0, 0), (0, 0), (0, 0), (0, 0)] (by kernel_rfl) ?_
        refine jo_end (by kernel_rfl) ?_
        refine jx_then ?_
        refine jc_seq ?_
        refine jc_seq ?_
        refine jc_meet (fun (j : Bool) => match j with | q_21 => laws_FnWorn.k_22 t_3 t_4 t_5 t_17 t_18 t_19 t_20 q_21 = some r) (fun (j : Bool) => match j with | q_21 => [(4, [], (.bool false)), (5, [], (.pointer (some ⟨b_18, 0, none⟩))), (6, [], (.pointer (some ⟨b_30, 0, none⟩))), (7, [], (.pointer (some ⟨b_32, 0, none⟩))), (23, [], (.int .i64 t_17.2)), (24, [], (.int .i64 t_18.1)), (29, [], (.int .i64 t_19.2.2.2)), (30, [], (.int .i64 t_20.1)), (31, [], (.int .i64 t_20.2.1)), (32, [], (.int .i64 t_20.2.2.1)), (217, [], (.bool q_21))]) (fun (j : Bool) => match j with | q_21 => [⟨o_13, 102, row encGHammer t_3.fHammers sp_15⟩, ⟨some b_18, 27, [(.int .i16 t_3.fSteps), (.slice (o_13.map fun b => ⟨b, 0, none⟩) t_3.fHammers.length cap_14)]⟩, ⟨o_20, 58, row encGWornPin t_4.fPins sp_22⟩, ⟨o_25, 2, row encI64 t_4.fStrokes sp_27⟩, ⟨some b_30, 32, [(.slice (o_20.map fun b => ⟨b, 0, none⟩) t_4.fPins.length cap_21), (.slice (o_25.map fun b => ⟨b, 0, none⟩) t_4.fStrokes.length cap_26)]⟩, ⟨some b_32, 35, [(.int .i64 t_5.fPin), (.int .i64 t_5.fHammer)]⟩, ⟨o_35, 58, row encGWornPin t_7.1.fPins sp_37⟩, ⟨o_40, 2, row encI64 t_7.1.fStrokes sp_42⟩, ⟨some b_45, 32, [(.slice (o_35.map fun b => ⟨b, 0, none⟩) t_7.1.fPins.length cap_36), (.slice (o_40.map fun b => ⟨b, 0, none⟩) t_7.1.fStrokes.length cap_41)]⟩, ⟨o_47, 58, row encGWornPin t_8.1.fPins sp_49⟩, ⟨o_52, 2, row encI64 t_8.1.fStrokes sp_54⟩, ⟨some b_57, 32, [(.slice (o_47.map fun b => ⟨b, 0, none⟩) t_8.1.fPins.length cap_48), (.slice (o_52.map fun b => ⟨b, 0, none⟩) t_8.1.fStrokes.length cap_53)]⟩, ⟨some b_58, 32, [(.slice a_10 n_458 cap_456), (.slice a_12 n_464 cap_462)]⟩, ⟨o_455, 58, row encGWornPin xs_9 sp_457⟩, ⟨o_461, 2, row encI64 xs_11 sp_463⟩, ⟨(some b_468), 42, row encU32 t_14.1 []⟩, ⟨o_470, 58, row encGWornPin t_15.1.fPins sp_472⟩, ⟨o_475, 2, row encI64 t_15.1.fStrokes sp_477⟩, ⟨some b_480, 32, [(.slice (o_470.map fun b => ⟨b, 0, none⟩) t_15.1.fPins.length cap_471), (.slice (o_475.map fun b => ⟨b, 0, none⟩) t_15.1.fStrokes.length cap_476)]⟩, ⟨(some b_482), 42, row encU32 t_16.1.1 []⟩]) ?_ ?_
        · refine jc_region ?_
          refine jo_f [(0, 0), (0, 0), (0, 0), (0, 0), (0, 1), (0, 1), (0, 0), (0, 0), (8, 1), (11, 1)] (by kernel_rfl) ?_
          refine jo_split 146 ((t_7.2 != t_8.2) || (t_7.2 != 0)) (by kernel_rfl) (fun hc_609 => ?_) (fun hc_609 => ?_)
          · replace h := ifT hc_609 h
            refine jo_f [(0, 3), (0, 3), (0, 4), (0, 0), (0, 3), (0, 3), (0, 3), (0, 3), (0, 4), (0, 0), (0, 3), (0, 3), (0, 3), (0, 3), (0, 4), (0, 0), (0, 3), (0, 3), (0, 3), (0, 3), (0, 4), (0, 0), (0, 3), (0, 3), (0, 3), (0, 4), (0, 0), (0, 3), (0, 3), (0, 4), (0, 0), (0, 3), (0, 3), (0, 4), (0, 0), (0, 3), (0, 3), (0, 3), (0, 4), (0, 0), (0, 3), (0, 3), (0, 3), (0, 4), (0, 0), (0, 3), (0, 3), (0, 3), (0, 4), (0, 0), (0, 3), (0, 3), (0, 3), (0, 4), (0, 0), (0, 3), (0, 3), (0, 3), (0, 4), (0, 0), (0, 3), (0, 3), (0, 3), (0, 4), (0, 0), (0, 3), (0, 3), (0, 3), (0, 4)] (by kernel_rfl) ?_
            refine jo_end (by kernel_rfl) ?_
            exact jx_meet true h (by kernel_rfl) [0, 1, 2, 3, 4, 5, 6, 7, 8, 9, 10, 11, 12, 13, 14, 15, 16, 17, 18, 19] (by kernel_rfl) (by kernel_rfl)
          · replace h := ifF hc_609 h
            obtain ⟨t_33, ht_610, h⟩ := bd h
            refine toO (by kernel_rfl) (p_call 2 18 #[(.agg #[(.slice (o_35.map fun b => ⟨b, 0, none⟩) t_7.1.fPins.length cap_36), (.slice (o_40.map fun b => ⟨b, 0, none⟩) t_7.1.fStrokes.length cap_41)]), (.agg #[(.slice (o_47.map fun b => ⟨b, 0, none⟩) t_8.1.fPins.length cap_48), (.slice (o_52.map fun b => ⟨b, 0, none⟩) t_8.1.fStrokes.length cap_53)])] (by kernel_rfl) (by kernel_rfl) (fun w hm => spec_SameWear.calls t_7.1 t_8.1 w _ (o_35.map fun b => ⟨b, 0, none⟩) t_7.1.fPins.length cap_36 (hm.ownRow (hh := 6) (o := o_35) (T := 58) (enc := encGWornPin) (xs := t_7.1.fPins) (sp := sp_37) (by kernel_rfl) (fun e => (ho_39 e).1) encGWornPin_len) rfl (o_40.map fun b => ⟨b, 0, none⟩) t_7.1.fStrokes.length cap_41 (hm.ownRow (hh := 7) (o := o_40) (T := 2) (enc := encI64) (xs := t_7.1.fStrokes) (sp := sp_42) (by kernel_rfl) (fun e => (ho_44 e).1) encI64_len) rfl (o_47.map fun b => ⟨b, 0, none⟩) t_8.1.fPins.length cap_48 (hm.ownRow (hh := 9) (o := o_47) (T := 58) (enc := encGWornPin) (xs := t_8.1.fPins) (sp := sp_49) (by kernel_rfl) (fun e => (ho_51 e).1) encGWornPin_len) rfl (o_52.map fun b => ⟨b, 0, none⟩) t_8.1.fStrokes.length cap_53 (hm.ownRow (hh := 10) (o := o_52) (T := 2) (enc := encI64) (xs := t_8.1.fStrokes) (sp := sp_54) (by kernel_rfl) (fun e => (ho_56 e).1) encI64_len) rfl ht_610) ?_)
            rintro w v w' hm ⟨rfl, hm'⟩
            refine ⟨_, hm.app hm', jkO ?_⟩
            clear hm hm'
            refine jo_f [(0, 2), (0, 5), (0, 0), (12, 1), (11, 1)] (by kernel_rfl) ?_
            refine jo_split 152 (!t_33) (by kernel_rfl) (fun hc_611 => ?_) (fun hc_611 => ?_)
            · replace h := ifT hc_611 h
              refine jo_f [(0, 3), (0, 3), (0, 4), (0, 0), (0, 3), (0, 3), (0, 3), (0, 3), (0, 4), (0, 0), (0, 3), (0, 3), (0, 3), (0, 3), (0, 4), (0, 0), (0, 3), (0, 3), (0, 3), (0, 4), (0, 0), (0, 3), (0, 3), (0, 4), (0, 0), (0, 3), (0, 3), (0, 4), (0, 0), (0, 3), (0, 3), (0, 3), (0, 4), (0, 0), (0, 3), (0, 3), (0, 3), (0, 4), (0, 0), (0, 3), (0, 3), (0, 3), (0, 4), (0, 0), (0, 3), (0, 3), (0, 3), (0, 4), (0, 0), (0, 3), (0, 3), (0, 3), (0, 4), (0, 0), (0, 3), (0, 3), (0, 3), (0, 4), (0, 0), (0, 3), (0, 3), (0, 3), (0, 4)] (by kernel_rfl) ?_
              refine jo_end (by kernel_rfl) ?_
              exact jx_meet true h (by kernel_rfl) [0, 1, 2, 3, 4, 5, 6, 7, 8, 9, 10, 11, 12, 13, 14, 15, 16, 17, 18, 19] (by kernel_rfl) (by kernel_rfl)
            · replace h := ifF hc_611 h
              obtain ⟨t_34, ht_612, h⟩ := bd h
              refine toO (by kernel_rfl) (p_call 2 18 #[(.agg #[(.slice a_10 n_458 cap_456), (.slice a_12 n_464 cap_462)]), (.agg #[(.slice (o_47.map fun b => ⟨b, 0, none⟩) t_8.1.fPins.length cap_48), (.slice (o_52.map fun b => ⟨b, 0, none⟩) t_8.1.fStrokes.length cap_53)])] (by kernel_rfl) (by kernel_rfl) (fun w hm => spec_SameWear.calls (⟨xs_9, xs_11⟩ : GWear) t_8.1 w _ a_10 n_458 cap_456 (hm.eiRowA (hh := 13) (o := o_455) (T := 58) (enc := encGWornPin) (xs := xs_9) (sp := sp_457) (by kernel_rfl) he_459 (hm.ownRow (hh := 2) (o := o_20) (T := 58) (enc := encGWornPin) (xs := t_4.fPins) (sp := sp_22) (by kernel_rfl) (fun e => (ho_24 e).1) encGWornPin_len) encGWornPin_len) hn_460 a_12 n_464 cap_462 (hm.eiRowA (hh := 14) (o := o_461) (T := 2) (enc := encI64) (xs := xs_11) (sp := sp_463) (by kernel_rfl) he_465 (hm.ownRow (hh := 3) (o := o_25) (T := 2) (enc := encI64) (xs := t_4.fStrokes) (sp := sp_27) (by kernel_rfl) (fun e => (ho_29 e).1) encI64_len) encI64_len) hn_466 (o_47.map fun b => ⟨b, 0, none⟩) t_8.1.fPins.length cap_48 (hm.ownRow (hh := 9) (o := o_47) (T := 58) (enc := encGWornPin) (xs := t_8.1.fPins) (sp := sp_49) (by kernel_rfl) (fun e => (ho_51 e).1) encGWornPin_len) rfl (o_52.map fun b => ⟨b, 0, none⟩) t_8.1.fStrokes.length cap_53 (hm.ownRow (hh := 10) (o := o_52) (T := 2) (enc := encI64) (xs := t_8.1.fStrokes) (sp := sp_54) (by kernel_rfl) (fun e => (ho_56 e).1) encI64_len) rfl ht_612) ?_)
              rintro w v w' hm ⟨rfl, hm'⟩
              refine ⟨_, hm.app hm', jkO ?_⟩
              clear hm hm'
              refine jo_f [(0, 2), (0, 5), (0, 0), (12, 1), (11, 1)] (by kernel_rfl) ?_
              refine jo_split 158 (!t_34) (by kernel_rfl) (fun hc_613 => ?_) (fun hc_613 => ?_)
              · replace h := ifT hc_613 h
                refine jo_f [(0, 3), (0, 3), (0, 4), (0, 0), (0, 3), (0, 3), (0, 3), (0, 3), (0, 4), (0, 0), (0, 3), (0, 3), (0, 3), (0, 4), (0, 0), (0, 3), (0, 3), (0, 4), (0, 0), (0, 3), (0, 3), (0, 4), (0, 0), (0, 3), (0, 3), (0, 3), (0, 4), (0, 0), (0, 3), (0, 3), (0, 3), (0, 4), (0, 0), (0, 3), (0, 3), (0, 3), (0, 4), (0, 0), (0, 3), (0, 3), (0, 3), (0, 4), (0, 0), (0, 3), (0, 3), (0, 3), (0, 4), (0, 0), (0, 3), (0, 3), (0, 3), (0, 4), (0, 0), (0, 3), (0, 3), (0, 3), (0, 4)] (by kernel_rfl) ?_
                refine jo_end (by kernel_rfl) ?_
                exact jx_meet true h (by kernel_rfl) [0, 1, 2, 3, 4, 5, 6, 7, 8, 9, 10, 11, 12, 13, 14, 15, 16, 17, 18, 19] (by kernel_rfl) (by kernel_rfl)
              · replace h := ifF hc_613 h
                obtain ⟨t_35, ht_614, h⟩ := bd h
                refine toO (by kernel_rfl) (p_call 2 19 #[(.agg #[(.slice a_10 n_458 cap_456), (.slice a_12 n_464 cap_462)]), (.agg #[(.slice (o_47.map fun b => ⟨b, 0, none⟩) t_8.1.fPins.length cap_48), (.slice (o_52.map fun b => ⟨b, 0, none⟩) t_8.1.fStrokes.length cap_53)])] (by kernel_rfl) (by kernel_rfl) (fun w hm => impl_SameWear.calls (⟨xs_9, xs_11⟩ : GWear) t_8.1 w _ a_10 n_458 cap_456 (hm.eiRowA (hh := 13) (o := o_455) (T := 58) (enc := encGWornPin) (xs := xs_9) (sp := sp_457) (by kernel_rfl) he_459 (hm.ownRow (hh := 2) (o := o_20) (T := 58) (enc := encGWornPin) (xs := t_4.fPins) (sp := sp_22) (by kernel_rfl) (fun e => (ho_24 e).1) encGWornPin_len) encGWornPin_len) hn_460 a_12 n_464 cap_462 (hm.eiRowA (hh := 14) (o := o_461) (T := 2) (enc := encI64) (xs := xs_11) (sp := sp_463) (by kernel_rfl) he_465 (hm.ownRow (hh := 3) (o := o_25) (T := 2) (enc := encI64) (xs := t_4.fStrokes) (sp := sp_27) (by kernel_rfl) (fun e => (ho_29 e).1) encI64_len) encI64_len) hn_466 (o_47.map fun b => ⟨b, 0, none⟩) t_8.1.fPins.length cap_48 (hm.ownRow (hh := 9) (o := o_47) (T := 58) (enc := encGWornPin) (xs := t_8.1.fPins) (sp := sp_49) (by kernel_rfl) (fun e => (ho_51 e).1) encGWornPin_len) rfl (o_52.map fun b => ⟨b, 0, none⟩) t_8.1.fStrokes.length cap_53 (hm.ownRow (hh := 10) (o := o_52) (T := 2) (enc := encI64) (xs := t_8.1.fStrokes) (sp := sp_54) (by kernel_rfl) (fun e => (ho_56 e).1) encI64_len) rfl ht_614) ?_)
                rintro w v w' hm ⟨rfl, hm'⟩
                refine ⟨_, hm.app hm', jkO ?_⟩
                clear hm hm'
                refine jo_f [(0, 2), (0, 5), (0, 0), (1, 1), (11, 1)] (by kernel_rfl) ?_
                refine jo_split 164 (!t_35) (by kernel_rfl) (fun hc_615 => ?_) (fun hc_615 => ?_)
                · replace h := ifT hc_615 h
                  refine jo_f [(0, 3), (0, 3), (0, 4), (0, 0), (0, 3), (0, 3), (0, 3), (0, 4), (0, 0), (0, 3), (0, 3), (0, 4), (0, 0), (0, 3), (0, 3), (0, 4), (0, 0), (0, 3), (0, 3), (0, 3), (0, 4), (0, 0), (0, 3), (0, 3), (0, 3), (0, 4), (0, 0), (0, 3), (0, 3), (0, 3), (0, 4), (0, 0), (0, 3), (0, 3), (0, 3), (0, 4), (0, 0), (0, 3), (0, 3), (0, 3), (0, 4), (0, 0), (0, 3), (0, 3), (0, 3), (0, 4), (0, 0), (0, 3), (0, 3), (0, 3), (0, 4)] (by kernel_rfl) ?_
                  refine jo_end (by kernel_rfl) ?_
                  exact jx_meet true h (by kernel_rfl) [0, 1, 2, 3, 4, 5, 6, 7, 8, 9, 10, 11, 12, 13, 14, 15, 16, 17, 18, 19] (by kernel_rfl) (by kernel_rfl)
                · replace h := ifF hc_615 h
                  obtain ⟨t_36, ht_616, h⟩ := bd h
                  refine toO (by kernel_rfl) (p_call 2 20 #[(.agg #[(.int .i16 t_3.fSteps), (.slice (o_13.map fun b => ⟨b, 0, none⟩) t_3.fHammers.length cap_14)]), (.agg #[(.slice (o_47.map fun b => ⟨b, 0, none⟩) t_8.1.fPins.length cap_48), (.slice (o_52.map fun b => ⟨b, 0, none⟩) t_8.1.fStrokes.length cap_53)])] (by kernel_rfl) (by kernel_rfl) (fun w hm => impl_ValidWear.calls t_3 t_8.1 w _ (o_13.map fun b => ⟨b, 0, none⟩) t_3.fHammers.length cap_14 (hm.ownRow (hh := 0) (o := o_13) (T := 102) (enc := encGHammer) (xs := t_3.fHammers) (sp := sp_15) (by kernel_rfl) (fun e => (ho_17 e).1) encGHammer_len) rfl (o_47.map fun b => ⟨b, 0, none⟩) t_8.1.fPins.length cap_48 (hm.ownRow (hh := 9) (o := o_47) (T := 58) (enc := encGWornPin) (xs := t_8.1.fPins) (sp := sp_49) (by kernel_rfl) (fun e => (ho_51 e).1) encGWornPin_len) rfl (o_52.map fun b => ⟨b, 0, none⟩) t_8.1.fStrokes.length cap_53 (hm.ownRow (hh := 10) (o := o_52) (T := 2) (enc := encI64) (xs := t_8.1.fStrokes) (sp := sp_54) (by kernel_rfl) (fun e => (ho_56 e).1) encI64_len) rfl ht_616) ?_)
                  rintro w v w' hm ⟨rfl, hm'⟩
                  refine ⟨_, hm.app hm', jkO ?_⟩
                  clear hm hm'
                  refine jo_f [(0, 2), (0, 5), (0, 0), (5, 1)] (by kernel_rfl) ?_
                  refine jo_split 170 (!t_36) (by kernel_rfl) (fun hc_617 => ?_) (fun hc_617 => ?_)
                  · replace h := ifT hc_617 h
                    refine jo_f [(0, 3), (0, 3), (0, 4), (0, 0), (0, 3), (0, 3), (0, 4), (0, 0), (0, 3), (0, 3), (0, 4), (0, 0), (0, 3), (0, 3), (0, 3), (0, 4), (0, 0), (0, 3), (0, 3), (0, 3), (0, 4), (0, 0), (0, 3), (0, 3), (0, 3), (0, 4), (0, 0), (0, 3), (0, 3), (0, 3), (0, 4), (0, 0), (0, 3), (0, 3), (0, 3), (0, 4), (0, 0), (0, 3), (0, 3), (0, 3), (0, 4), (0, 0), (0, 3), (0, 3), (0, 3), (0, 4)] (by kernel_rfl) ?_
                    refine jo_end (by kernel_rfl) ?_
                    exact jx_meet true h (by kernel_rfl) [0, 1, 2, 3, 4, 5, 6, 7, 8, 9, 10, 11, 12, 13, 14, 15, 16, 17, 18, 19] (by kernel_rfl) (by kernel_rfl)
                  · replace h := ifF hc_617 h
                    obtain ⟨t_37, ht_618, h⟩ := bd h
                    refine toO (by kernel_rfl) (p_call 2 21 #[(.agg #[(.int .i64 t_5.fPin), (.int .i64 t_5.fHammer)])] (by kernel_rfl) (by kernel_rfl) (fun w hm => impl_ValidLives.calls t_5 w _ ht_618) ?_)
                    rintro w v w' hm ⟨rfl, hm'⟩
                    refine ⟨_, hm.app hm', jkO ?_⟩
                    clear hm hm'
                    refine jo_f [(0, 2), (0, 5), (0, 0), (0, 1), (0, 1), (0, 0), (0, 0), (0, 1), (0, 1), (0, 0), (0, 0)] (by kernel_rfl) ?_
                    refine jo_split 183 (((!t_37) || (t_15.2 != 0)) || (t_16.2 != 0)) (by kernel_rfl) (fun hc_619 => ?_) (fun hc_619 => ?_)
                    · replace h := ifT hc_619 h
                      refine jo_f [(0, 3), (0, 3), (0, 3), (0, 4), (0, 0), (0, 3), (0, 3), (0, 3), (0, 4), (0, 0), (0, 3), (0, 3), (0, 3), (0, 4), (0, 0), (0, 3), (0, 3), (0, 3), (0, 4), (0, 0), (0, 3), (0, 3), (0, 3), (0, 4), (0, 0), (0, 3), (0, 3), (0, 3), (0, 4), (0, 0), (0, 3), (0, 3), (0, 3), (0, 4)] (by kernel_rfl) ?_
                      refine jo_end (by kernel_rfl) ?_
                      exact jx_meet true h (by kernel_rfl) [0, 1, 2, 3, 4, 5, 6, 7, 8, 9, 10, 11, 12, 13, 14, 15, 16, 17, 18, 19] (by kernel_rfl) (by kernel_rfl)
                    · replace h := ifF hc_619 h
                      refine toO (by kernel_rfl) (p_ldA 2 19 b_482 96 1 42 encU32 t_16.1 (by kernel_rfl) (by kernel_rfl) (by kernel_rfl) encU32_len (by kernel_rfl) (jkO ?_))
                      refine toO (by kernel_rfl) (p_ldA 2 15 b_468 96 1 42 encU32 t_14 (by kernel_rfl) (by kernel_rfl) (by kernel_rfl) encU32_len (by kernel_rfl) (jkO ?_))
                      refine toO (by kernel_rfl) (p_eqA 2 true 42 40 96 .u32 encU32 t_16.1 t_14 (by kernel_rfl) (by kernel_rfl) Try.underlying42 Try.underlying40 (fun w => Try.sizeOf40 w) (fun w => Try.isAgg40 w) (fun _ => rfl) (!(t_16.1.1 == t_14.1)) rfl (jkO ?_))
                      refine jo_f [(0, 5), (0, 0), (0, 1), (0, 1), (0, 1), (0, 0), (0, 0), (0, 1), (0, 1), (0, 1), (0, 0), (0, 0), (0, 1), (0, 1), (0, 1), (0, 0), (0, 0), (0, 1), (0, 1), (0, 1), (0, 0), (0, 0), (0, 1), (0, 1), (0, 1), (0, 0), (0, 0), (0, 1), (0, 1), (0, 1), (0, 0)] (by kernel_rfl) ?_
                      refine jo_end (by kernel_rfl) ?_
                      exact jx_meet (((((((!(t_16.1.1 == t_14.1)) || (t_17.2 != t_18.2)) || (t_17.1 != t_18.1)) || (t_19.2.2.2 != t_20.2.2.2)) || (t_19.1 != t_20.1)) || (t_19.2.1 != t_20.2.1)) || (t_19.2.2.1 != t_20.2.2.1)) h (by kernel_rfl) [0, 1, 2, 3, 4, 5, 6, 7, 8, 9, 10, 11, 12, 13, 14, 15, 16, 17, 18, 19] (by kernel_rfl) (by kernel_rfl)
        · rintro q_21 h
          replace h : laws_FnWorn.k_22 t_3 t_4 t_5 t_17 t_18 t_19 t_20 q_21 = some r := h
          rw [laws_FnWorn.k_22] at h
          refine jx_then ?_
          refine jc_cond q_21 (by kernel_rfl) (fun hc_521 => ?_) (fun hc_521 => ?_)
          · replace h := ifT hc_521 h
            refine jc_seq ?_
            refine jc_region ?_
            refine jo_f [(0, 0)] (by kernel_rfl) ?_
            refine jo_end (by kernel_rfl) ?_
            refine jx_then ?_
            refine jc_ret ?_
            refine jx_thenr ?_
            obtain rfl := Option.some.inj h
            exact jx_ret [] (.bool false) [] rfl (by kernel_rfl) (by kernel_rfl) (fun w hm => ⟨rfl, hm.pick [] (by kernel_rfl) (by kernel_rfl)⟩)
          · replace h := ifF hc_521 h
            refine jc_skip ?_
            refine jx_then ?_
            refine jc_seq ?_
            refine jc_region ?_
            refine jo_f [(1, 0), (4, 0), (5, 0)] (by kernel_rfl) ?_
            obtain ⟨t_23, ht_522, h⟩ := bd h
            refine toO (by kernel_rfl) (p_call 0 22 #[(.agg #[(.int .i16 t_3.fSteps), (.slice (o_13.map fun b => ⟨b, 0, none⟩) t_3.fHammers.length cap_14)]), (.agg #[(.slice (o_20.map fun b => ⟨b, 0, none⟩) t_4.fPins.length cap_21), (.slice (o_25.map fun b => ⟨b, 0, none⟩) t_4.fStrokes.length cap_26)]), (.agg #[(.int .i64 t_5.fPin), (.int .i64 t_5.fHammer)])] (by kernel_rfl) (by kernel_rfl) (fun w hm => impl_WornOut.calls t_3 t_4 t_5 w _ (o_13.map fun b => ⟨b, 0, none⟩) t_3.fHammers.length cap_14 (hm.ownRow (hh := 0) (o := o_13) (T := 102) (enc := encGHammer) (xs := t_3.fHammers) (sp := sp_15) (by kernel_rfl) (fun e => (ho_17 e).1) encGHammer_len) rfl (o_20.map fun b => ⟨b, 0, none⟩) t_4.fPins.length cap_21 (hm.ownRow (hh := 2) (o := o_20) (T := 58) (enc := encGWornPin) (xs := t_4.fPins) (sp := sp_22) (by kernel_rfl) (fun e => (ho_24 e).1) encGWornPin_len) rfl (o_25.map fun b => ⟨b, 0, none⟩) t_4.fStrokes.length cap_26 (hm.ownRow (hh := 3) (o := o_25) (T := 2) (enc := encI64) (xs := t_4.fStrokes) (sp := sp_27) (by kernel_rfl) (fun e => (ho_29 e).1) encI64_len) rfl ht_522) ?_)
            rintro w v w' hm ⟨o_523, cap_524, sp_525, _, rfl, hs_526, ho_527, o_528, cap_529, sp_530, _, rfl, hs_531, ho_532, rfl, hm'⟩
            refine ⟨_, hm.app hm', jkO ?_⟩
            clear hm hm'
            refine jo_f [(0, 0), (0, 0), (0, 0), (0, 0), (0, 0), (0, 0), (0, 0)] (by kernel_rfl) ?_
            refine jo_end (by kernel_rfl) ?_
            refine jx_then ?_
            refine jc_seq ?_
            refine jc_region ?_
            refine jo_f [(0, 0), (0, 0), (0, 0), (0, 0), (0, 1), (0, 1), (0, 1), (0, 0), (0, 0)] (by kernel_rfl) ?_
            refine jo_end (by kernel_rfl) ?_
            refine jx_then ?_
            refine jc_seq ?_
            refine jc_seq ?_
            refine jc_meet (fun (j : Bool) => match j with | q_24 => laws_FnWorn.k_25 t_3 t_4 t_5 t_17 t_18 t_19 t_20 q_24 = some r) (fun (j : Bool) => match j with | q_24 => [(4, [], (.bool false)), (5, [], (.pointer (some ⟨b_18, 0, none⟩))), (6, [], (.pointer (some ⟨b_30, 0, none⟩))), (7, [], (.pointer (some ⟨b_32, 0, none⟩))), (23, [], (.int .i64 t_17.2)), (24, [], (.int .i64 t_18.1)), (29, [], (.int .i64 t_19.2.2.2)), (30, [], (.int .i64 t_20.1)), (31, [], (.int .i64 t_20.2.1)), (32, [], (.int .i64 t_20.2.2.1)), (252, [], (.bool q_24))]) (fun (j : Bool) => match j with | q_24 => [⟨o_13, 102, row encGHammer t_3.fHammers sp_15⟩, ⟨some b_18, 27, [(.int .i16 t_3.fSteps), (.slice (o_13.map fun b => ⟨b, 0, none⟩) t_3.fHammers.length cap_14)]⟩, ⟨o_20, 58, row encGWornPin t_4.fPins sp_22⟩, ⟨o_25, 2, row encI64 t_4.fStrokes sp_27⟩, ⟨some b_30, 32, [(.slice (o_20.map fun b => ⟨b, 0, none⟩) t_4.fPins.length cap_21), (.slice (o_25.map fun b => ⟨b, 0, none⟩) t_4.fStrokes.length cap_26)]⟩, ⟨some b_32, 35, [(.int .i64 t_5.fPin), (.int .i64 t_5.fHammer)]⟩, ⟨o_35, 58, row encGWornPin t_7.1.fPins sp_37⟩, ⟨o_40, 2, row encI64 t_7.1.fStrokes sp_42⟩, ⟨some b_45, 32, [(.slice (o_35.map fun b => ⟨b, 0, none⟩) t_7.1.fPins.length cap_36), (.slice (o_40.map fun b => ⟨b, 0, none⟩) t_7.1.fStrokes.length cap_41)]⟩, ⟨o_47, 58, row encGWornPin t_8.1.fPins sp_49⟩, ⟨o_52, 2, row encI64 t_8.1.fStrokes sp_54⟩, ⟨some b_57, 32, [(.slice (o_47.map fun b => ⟨b, 0, none⟩) t_8.1.fPins.length cap_48), (.slice (o_52.map fun b => ⟨b, 0, none⟩) t_8.1.fStrokes.length cap_53)]⟩, ⟨some b_58, 32, [(.slice a_10 n_458 cap_456), (.slice a_12 n_464 cap_462)]⟩, ⟨o_455, 58, row encGWornPin xs_9 sp_457⟩, ⟨o_461, 2, row encI64 xs_11 sp_463⟩, ⟨(some b_468), 42, row encU32 t_14.1 []⟩, ⟨o_470, 58, row encGWornPin t_15.1.fPins sp_472⟩, ⟨o_475, 2, row encI64 t_15.1.fStrokes sp_477⟩, ⟨some b_480, 32, [(.slice (o_470.map fun b => ⟨b, 0, none⟩) t_15.1.fPins.length cap_471), (.slice (o_475.map fun b => ⟨b, 0, none⟩) t_15.1.fStrokes.length cap_476)]⟩, ⟨(some b_482), 42, row encU32 t_16.1.1 []⟩, ⟨o_523, 58, row encGWornPin t_23.1 sp_525⟩, ⟨o_528, 2, row encI64 t_23.2.1 sp_530⟩]) ?_ ?_
            · refine jc_region ?_
              refine jo_f [(0, 0), (0, 0), (0, 0), (0, 1), (0, 1), (0, 1), (0, 1), (0, 0), (0, 0), (0, 1)] (by kernel_rfl) ?_
              refine jo_split 242 ((t_23.2.2 != 0) || ((t_17.2 == 0) == ((decide ((t_23.1.length : Int) > 0)) || (decide ((t_23.2.1.length : Int) > 0))))) (by kernel_rfl) (fun hc_607 => ?_) (fun hc_607 => ?_)
              · replace h := ifT hc_607 h
                refine jo_f [(0, 3), (0, 3), (0, 3), (0, 3), (0, 3), (0, 3), (0, 3), (0, 3), (0, 4)] (by kernel_rfl) ?_
                refine jo_end (by kernel_rfl) ?_
                exact jx_meet true h (by kernel_rfl) [0, 1, 2, 3, 4, 5, 6, 7, 8, 9, 10, 11, 12, 13, 14, 15, 16, 17, 18, 19, 20, 21] (by kernel_rfl) (by kernel_rfl)
              · replace h := ifF hc_607 h
                refine jo_f [(0, 2), (0, 1), (0, 1)] (by kernel_rfl) ?_
                refine jo_split 244 ((decide ((t_23.1.length : Int) > 0)) || (decide ((t_23.2.1.length : Int) > 0))) (by kernel_rfl) (fun hc_608 => ?_) (fun hc_608 => ?_)
                · replace h := ifT hc_608 h
                  refine jo_f [(0, 2), (0, 1), (0, 1), (0, 2), (0, 4), (0, 5)] (by kernel_rfl) ?_
                  refine jo_end (by kernel_rfl) ?_
                  exact jx_meet ((t_17.2 != 4) || (t_19.2.2.2 != 4)) h (by kernel_rfl) [0, 1, 2, 3, 4, 5, 6, 7, 8, 9, 10, 11, 12, 13, 14, 15, 16, 17, 18, 19, 20, 21] (by kernel_rfl) (by kernel_rfl)
                · replace h := ifF hc_608 h
                  refine jo_f [(0, 3), (0, 3), (0, 3), (0, 3), (0, 5), (0, 5)] (by kernel_rfl) ?_
                  refine jo_end (by kernel_rfl) ?_
                  exact jx_meet false h (by kernel_rfl) [0, 1, 2, 3, 4, 5, 6, 7, 8, 9, 10, 11, 12, 13, 14, 15, 16, 17, 18, 19, 20, 21] (by kernel_rfl) (by kernel_rfl)
            · rintro q_24 h
              replace h : laws_FnWorn.k_25 t_3 t_4 t_5 t_17 t_18 t_19 t_20 q_24 = some r := h
              rw [laws_FnWorn.k_25] at h
              refine jx_then ?_
              refine jc_cond q_24 (by kernel_rfl) (fun hc_540 => ?_) (fun hc_540 => ?_)
              · replace h := ifT hc_540 h
                refine jc_seq ?_
                refine jc_region ?_
                refine jo_f [(0, 0)] (by kernel_rfl) ?_
                refine jo_end (by kernel_rfl) ?_
                refine jx_then ?_
                refine jc_ret ?_
                refine jx_thenr ?_
                obtain rfl := Option.some.inj h
                exact jx_ret [] (.bool false) [] rfl (by kernel_rfl) (by kernel_rfl) (fun w hm => ⟨rfl, hm.pick [] (by kernel_rfl) (by kernel_rfl)⟩)
              · replace h := ifF hc_540 h
                refine jc_skip ?_
                refine jx_then ?_
                refine jc_seq ?_
                refine jc_seq ?_
                refine jc_region ?_
                refine jo_f [(0, 0), (0, 0)] (by kernel_rfl) ?_
                refine jo_end (by kernel_rfl) ?_
                refine jx_then ?_
                refine jc_cond (t_17.2 != 0) (by kernel_rfl) (fun hc_542 => ?_) (fun hc_542 => ?_)
                · replace h := ifT hc_542 h
                  refine jc_seq ?_
                  refine jc_region ?_
                  refine jo_f [(0, 0)] (by kernel_rfl) ?_
                  refine jo_end (by kernel_rfl) ?_
                  refine jx_then ?_
                  refine jc_ret ?_
                  refine jx_thenr ?_
                  obtain rfl := Option.some.inj h
                  exact jx_ret [] (.bool true) [] rfl (by kernel_rfl) (by kernel_rfl) (fun w hm => ⟨rfl, hm.pick [] (by kernel_rfl) (by kernel_rfl)⟩)
                · replace h := ifF hc_542 h
                  refine jc_skip ?_
                  refine jx_then ?_
                  refine jc_seq ?_
                  refine jc_seq ?_
                  refine jc_region ?_
                  refine jo_f [(0, 0), (0, 0)] (by kernel_rfl) ?_
                  refine jo_end (by kernel_rfl) ?_
                  refine jx_then ?_
                  refine jc_cond (t_19.2.2.2 != 0) (by kernel_rfl) (fun hc_544 => ?_) (fun hc_544 => ?_)
                  · replace h := ifT hc_544 h
                    refine jc_seq ?_
                    refine jc_region ?_
                    refine jo_f [(0, 0), (0, 0), (0, 0), (0, 1), (0, 1), (0, 0), (0, 0)] (by kernel_rfl) ?_
                    refine jo_end (by kernel_rfl) ?_
                    refine jx_then ?_
                    refine jc_ret ?_
                    refine jx_thenr ?_
                    obtain rfl := Option.some.inj h
                    exact jx_ret [] (.bool ((t_19.2.2.2 == 6) && (t_18.1 == 1000000))) [] rfl (by kernel_rfl) (by kernel_rfl) (fun w hm => ⟨rfl, hm.pick [] (by kernel_rfl) (by kernel_rfl)⟩)
                  · replace h := ifF hc_544 h
                    refine jc_skip ?_
                    refine jx_then ?_
                    refine jc_seq ?_
                    refine jc_seq ?_
                    refine jc_region ?_
                    refine jo_f [(0, 0), (0, 0), (0, 0), (0, 0)] (by kernel_rfl) ?_
                    refine jo_end (by kernel_rfl) ?_
                    refine jx_then ?_
                    refine jc_cond (t_20.1 != (w64 (t_18.1 + 1))) (by kernel_rfl) (fun hc_546 => ?_) (fun hc_546 => ?_)
                    · replace h := ifT hc_546 h
                      refine jc_seq ?_
                      refine jc_region ?_
                      refine jo_f [(0, 0)] (by kernel_rfl) ?_
                      refine jo_end (by kernel_rfl) ?_
                      refine jx_then ?_
                      refine jc_ret ?_
                      refine jx_thenr ?_
                      obtain rfl := Option.some.inj h
                      exact jx_ret [] (.bool false) [] rfl (by kernel_rfl) (by kernel_rfl) (fun w hm => ⟨rfl, hm.pick [] (by kernel_rfl) (by kernel_rfl)⟩)
                    · replace h := ifF hc_546 h
                      refine jc_skip ?_
                      refine jx_then ?_
                      refine jc_seq ?_
                      refine jc_region ?_
                      refine jo_f [(1, 0), (4, 0), (0, 0)] (by kernel_rfl) ?_
                      obtain ⟨t_26, ht_547, h⟩ := bd h
                      refine toO (by kernel_rfl) (p_call 0 9 #[(.agg #[(.int .i16 t_3.fSteps), (.slice (o_13.map fun b => ⟨b, 0, none⟩) t_3.fHammers.length cap_14)]), (.agg #[(.slice (o_20.map fun b => ⟨b, 0, none⟩) t_4.fPins.length cap_21), (.slice (o_25.map fun b => ⟨b, 0, none⟩) t_4.fStrokes.length cap_26)]), (.int .i64 t_18.1)] (by kernel_rfl) (by kernel_rfl) (fun w hm => impl_TurnWear.calls t_3 t_4 t_18.1 w _ (o_13.map fun b => ⟨b, 0, none⟩) t_3.fHammers.length cap_14 (hm.ownRow (hh := 0) (o := o_13) (T := 102) (enc := encGHammer) (xs := t_3.fHammers) (sp := sp_15) (by kernel_rfl) (fun e => (ho_17 e).1) encGHammer_len) rfl (o_20.map fun b => ⟨b, 0, none⟩) t_4.fPins.length cap_21 (hm.ownRow (hh := 2) (o := o_20) (T := 58) (enc := encGWornPin) (xs := t_4.fPins) (sp := sp_22) (by kernel_rfl) (fun e => (ho_24 e).1) encGWornPin_len) rfl (o_25.map fun b => ⟨b, 0, none⟩) t_4.fStrokes.length cap_26 (hm.ownRow (hh := 3) (o := o_25) (T := 2) (enc := encI64) (xs := t_4.fStrokes) (sp := sp_27) (by kernel_rfl) (fun e => (ho_29 e).1) encI64_len) rfl ht_547) ?_)
                      rintro w v w' hm ⟨o_548, cap_549, sp_550, _, rfl, hs_551, ho_552, o_553, cap_554, sp_555, _, rfl, hs_556, ho_557, rfl, hm'⟩
                      refine ⟨_, hm.app hm', jkO ?_⟩
                      clear hm hm'
                      refine jo_f [(0, 0), (0, 0), (0, 0)] (by kernel_rfl) ?_
                      refine toO (by kernel_rfl) (p_a 0 [0] (by kernel_rfl) (fun b => by kernel_rfl) (fun b_558 => jkO ?_))
                      refine toO (by kernel_rfl) (p_s 0 [24] (by kernel_rfl) (by kernel_rfl) (jkO ?_))
                      refine jo_f [(0, 0)] (by kernel_rfl) ?_
                      refine jo_end (by kernel_rfl) ?_
                      refine jx_then ?_
                      refine jc_seq ?_
                      refine jc_region ?_
                      refine jo_f [(1, 0), (24, 0), (5, 0)] (by kernel_rfl) ?_
                      obtain ⟨t_27, ht_559, h⟩ := bd h
                      refine toO (by kernel_rfl) (p_call 0 22 #[(.agg #[(.int .i16 t_3.fSteps), (.slice (o_13.map fun b => ⟨b, 0, none⟩) t_3.fHammers.length cap_14)]), (.agg #[(.slice (o_548.map fun b => ⟨b, 0, none⟩) t_26.1.fPins.length cap_549), (.slice (o_553.map fun b => ⟨b, 0, none⟩) t_26.1.fStrokes.length cap_554)]), (.agg #[(.int .i64 t_5.fPin), (.int .i64 t_5.fHammer)])] (by kernel_rfl) (by kernel_rfl) (fun w hm => impl_WornOut.calls t_3 t_26.1 t_5 w _ (o_13.map fun b => ⟨b, 0, none⟩) t_3.fHammers.length cap_14 (hm.ownRow (hh := 0) (o := o_13) (T := 102) (enc := encGHammer) (xs := t_3.fHammers) (sp := sp_15) (by kernel_rfl) (fun e => (ho_17 e).1) encGHammer_len) rfl (o_548.map fun b => ⟨b, 0, none⟩) t_26.1.fPins.length cap_549 (hm.ownRow (hh := 22) (o := o_548) (T := 58) (enc := encGWornPin) (xs := t_26.1.fPins) (sp := sp_550) (by kernel_rfl) (fun e => (ho_552 e).1) encGWornPin_len) rfl (o_553.map fun b => ⟨b, 0, none⟩) t_26.1.fStrokes.length cap_554 (hm.ownRow (hh := 23) (o := o_553) (T := 2) (enc := encI64) (xs := t_26.1.fStrokes) (sp := sp_555) (by kernel_rfl) (fun e => (ho_557 e).1) encI64_len) rfl ht_559) ?_)
                      rintro w v w' hm ⟨o_560, cap_561, sp_562, _, rfl, hs_563, ho_564, o_565, cap_566, sp_567, _, rfl, hs_568, ho_569, rfl, hm'⟩
                      refine ⟨_, hm.app hm', jkO ?_⟩
                      clear hm hm'
                      refine jo_f [(0, 0), (0, 0), (0, 0), (0, 0), (0, 0), (0, 0), (0, 0)] (by kernel_rfl) ?_
                      refine jo_end (by kernel_rfl) ?_
                      refine jx_then ?_
                      refine jc_seq ?_
                      refine jc_region ?_
                      refine jo_f [(1, 0), (4, 0), (0, 0), (0, 0)] (by kernel_rfl) ?_
                      obtain ⟨t_28, ht_570, h⟩ := bd h
                      refine toO (by kernel_rfl) (p_call 0 9 #[(.agg #[(.int .i16 t_3.fSteps), (.slice (o_13.map fun b => ⟨b, 0, none⟩) t_3.fHammers.length cap_14)]), (.agg #[(.slice (o_20.map fun b => ⟨b, 0, none⟩) t_4.fPins.length cap_21), (.slice (o_25.map fun b => ⟨b, 0, none⟩) t_4.fStrokes.length cap_26)]), (.int .i64 (w64 (t_18.1 + 1)))] (by kernel_rfl) (by kernel_rfl) (fun w hm => impl_TurnWear.calls t_3 t_4 (w64 (t_18.1 + 1)) w _ (o_13.map fun b => ⟨b, 0, none⟩) t_3.fHammers.length cap_14 (hm.ownRow (hh := 0) (o := o_13) (T := 102) (enc := encGHammer) (xs := t_3.fHammers) (sp := sp_15) (by kernel_rfl) (fun e => (ho_17 e).1) encGHammer_len) rfl (o_20.map fun b => ⟨b, 0, none⟩) t_4.fPins.length cap_21 (hm.ownRow (hh := 2) (o := o_20) (T := 58) (enc := encGWornPin) (xs := t_4.fPins) (sp := sp_22) (by kernel_rfl) (fun e => (ho_24 e).1) encGWornPin_len) rfl (o_25.map fun b => ⟨b, 0, none⟩) t_4.fStrokes.length cap_26 (hm.ownRow (hh := 3) (o := o_25) (T := 2) (enc := encI64) (xs := t_4.fStrokes) (sp := sp_27) (by kernel_rfl) (fun e => (ho_29 e).1) encI64_len) rfl ht_570) ?_)
                      rintro w v w' hm ⟨o_571, cap_572, sp_573, _, rfl, hs_574, ho_575, o_576, cap_577, sp_578, _, rfl, hs_579, ho_580, rfl, hm'⟩
                      refine ⟨_, hm.app hm', jkO ?_⟩
                      clear hm hm'
                      refine jo_f [(0, 0), (0, 0), (0, 0)] (by kernel_rfl) ?_
                      refine toO (by kernel_rfl) (p_a 0 [0] (by kernel_rfl) (fun b => by kernel_rfl) (fun b_581 => jkO ?_))
                      refine toO (by kernel_rfl) (p_s 0 [29] (by kernel_rfl) (by kernel_rfl) (jkO ?_))
                      refine jo_f [(0, 0)] (by kernel_rfl) ?_
                      refine jo_end (by kernel_rfl) ?_
                      refine jx_then ?_
                      refine jc_seq ?_
                      refine jc_region ?_
                      refine jo_f [(1, 0), (29, 0), (5, 0)] (by kernel_rfl) ?_
                      obtain ⟨t_29, ht_582, h⟩ := bd h
                      refine toO (by kernel_rfl) (p_call 0 22 #[(.agg #[(.int .i16 t_3.fSteps), (.slice (o_13.map fun b => ⟨b, 0, none⟩) t_3.fHammers.length cap_14)]), (.agg #[(.slice (o_571.map fun b => ⟨b, 0, none⟩) t_28.1.fPins.length cap_572), (.slice (o_576.map fun b => ⟨b, 0, none⟩) t_28.1.fStrokes.length cap_577)]), (.agg #[(.int .i64 t_5.fPin), (.int .i64 t_5.fHammer)])] (by kernel_rfl) (by kernel_rfl) (fun w hm => impl_WornOut.calls t_3 t_28.1 t_5 w _ (o_13.map fun b => ⟨b, 0, none⟩) t_3.fHammers.length cap_14 (hm.ownRow (hh := 0) (o := o_13) (T := 102) (enc := encGHammer) (xs := t_3.fHammers) (sp := sp_15) (by kernel_rfl) (fun e => (ho_17 e).1) encGHammer_len) rfl (o_571.map fun b => ⟨b, 0, none⟩) t_28.1.fPins.length cap_572 (hm.ownRow (hh := 27) (o := o_571) (T := 58) (enc := encGWornPin) (xs := t_28.1.fPins) (sp := sp_573) (by kernel_rfl) (fun e => (ho_575 e).1) encGWornPin_len) rfl (o_576.map fun b => ⟨b, 0, none⟩) t_28.1.fStrokes.length cap_577 (hm.ownRow (hh := 28) (o := o_576) (T := 2) (enc := encI64) (xs := t_28.1.fStrokes) (sp := sp_578) (by kernel_rfl) (fun e => (ho_580 e).1) encI64_len) rfl ht_582) ?_)
                      rintro w v w' hm ⟨o_583, cap_584, sp_585, _, rfl, hs_586, ho_587, o_588, cap_589, sp_590, _, rfl, hs_591, ho_592, rfl, hm'⟩
                      refine ⟨_, hm.app hm', jkO ?_⟩
                      clear hm hm'
                      refine jo_f [(0, 0), (0, 0), (0, 0), (0, 0), (0, 0), (0, 0), (0, 0)] (by kernel_rfl) ?_
                      refine jo_end (by kernel_rfl) ?_
                      refine jx_then ?_
                      refine jc_seq ?_
                      refine jc_seq ?_
                      refine jc_region ?_
                      refine jo_f [(0, 0), (0, 0), (0, 0), (0, 1), (0, 1), (0, 0), (0, 0), (0, 1), (0, 1), (0, 1), (0, 0), (0, 0), (0, 1), (0, 1), (0, 1), (0, 0), (0, 0), (0, 1), (0, 1), (0, 0), (0, 0), (0, 1), (0, 1), (0, 0)] (by kernel_rfl) ?_
                      refine jo_end (by kernel_rfl) ?_
                      refine jx_then ?_
                      refine jc_cond ((((((t_26.2 != 0) || (t_27.2.2 != 0)) || ((t_27.1.length : Int) != 0)) || ((t_27.2.1.length : Int) != 0)) || (t_28.2 != 0)) || (t_29.2.2 != 0)) (by kernel_rfl) (fun hc_594 => ?_) (fun hc_594 => ?_)
                      · replace h := ifT hc_594 h
                        refine jc_seq ?_
                        refine jc_region ?_
                        refine jo_f [(0, 0)] (by kernel_rfl) ?_
                        refine jo_end (by kernel_rfl) ?_
                        refine jx_then ?_
                        refine jc_ret ?_
                        refine jx_thenr ?_
                        obtain rfl := Option.some.inj h
                        exact jx_ret [] (.bool false) [] rfl (by kernel_rfl) (by kernel_rfl) (fun w hm => ⟨rfl, hm.pick [] (by kernel_rfl) (by kernel_rfl)⟩)
                      · replace h := ifF hc_594 h
                        refine jc_skip ?_
                        refine jx_then ?_
                        refine jc_seq ?_
                        refine jc_seq ?_
                        refine jc_region ?_
                        refine jo_f [(0, 0), (0, 0)] (by kernel_rfl) ?_
                        refine jo_end (by kernel_rfl) ?_
                        refine jx_then ?_
                        refine jc_cond (decide (t_20.2.1 ≥ 0)) (by kernel_rfl) (fun hc_600 => ?_) (fun hc_600 => ?_)
                        · replace h := ifT hc_600 h
                          refine jc_seq ?_
                          refine jc_region ?_
                          refine jo_f [(0, 0), (0, 0), (0, 0), (0, 0), (0, 1)] (by kernel_rfl) ?_
                          refine jo_split 327 (decide ((t_29.1.length : Int) > 0)) (by kernel_rfl) (fun hc_601 => ?_) (fun hc_601 => ?_)
                          · replace h := ifT hc_601 h
                            obtain ⟨x_30, hx_602, h⟩ := bd h
                            refine toO (by kernel_rfl) (p_idx 2 (o_583.map fun b => ⟨b, 0, none⟩) t_29.1.length 0 3 (by kernel_rfl) (by kernel_rfl) (ix_some hx_602).1 (ltn hx_602 rfl) (spo ho_587 hx_602) (jkO ?_))
                            refine jo_f [(0, 2)] (by kernel_rfl) ?_
                            refine toO (by kernel_rfl) (p_ld 2 (aB (o_583.map fun b => ⟨b, 0, none⟩)) (aO (o_583.map fun b => ⟨b, 0, none⟩) + (0 : Int).toNat * 3) false (((encGWornPin x_30).drop 0).take 1) (by kernel_rfl) (by kernel_rfl) (by kernel_rfl) (fun w hm => (((hm.ownRow (hh := 30) (o := o_583) (T := 58) (enc := encGWornPin) (xs := t_29.1) (sp := sp_585) (by kernel_rfl) (fun e => (ho_587 e).1) encGWornPin_len).at hx_602).sub 0 1)) (jkO ?_))
                            refine jo_f [(0, 2), (0, 2), (0, 2), (0, 4), (0, 0), (0, 1)] (by kernel_rfl) ?_
                            refine jo_split 336 ((w64 x_30.fStep) == t_20.2.1) (by kernel_rfl) (fun hc_603 => ?_) (fun hc_603 => ?_)
                            · replace h := ifT hc_603 h
                              obtain ⟨x_31, hx_604, h⟩ := bd h
                              refine toO (by kernel_rfl) (p_idx 2 (o_583.map fun b => ⟨b, 0, none⟩) t_29.1.length 0 3 (by kernel_rfl) (by kernel_rfl) (ix_some hx_604).1 (ltn hx_604 rfl) (spo ho_587 hx_604) (jkO ?_))
                              refine jo_f [(0, 2)] (by kernel_rfl) ?_
                              refine toO (by kernel_rfl) (p_ld 2 (aB (o_583.map fun b => ⟨b, 0, none⟩)) (aO (o_583.map fun b => ⟨b, 0, none⟩) + (0 : Int).toNat * 3 + 1) false (((encGWornPin x_31).drop 1).take 1) (by kernel_rfl) (by kernel_rfl) (by kernel_rfl) (fun w hm => (((hm.ownRow (hh := 30) (o := o_583) (T := 58) (enc := encGWornPin) (xs := t_29.1) (sp := sp_585) (by kernel_rfl) (fun e => (ho_587 e).1) encGWornPin_len).at hx_604).sub 1 1)) (jkO ?_))
                              refine jo_f [(0, 2), (0, 2), (0, 2), (0, 4), (0, 0)] (by kernel_rfl) ?_
                              refine jo_end (by kernel_rfl) ?_
                              refine jx_then ?_
                              refine jc_ret ?_
                              refine jx_thenr ?_
                              obtain rfl := Option.some.inj h
                              exact jx_ret [] (.bool ((w64 x_31.fTrack) == t_20.2.2.1)) [] rfl (by kernel_rfl) (by kernel_rfl) (fun w hm => ⟨rfl, hm.pick [] (by kernel_rfl) (by kernel_rfl)⟩)
                            · replace h := ifF hc_603 h
                              refine jo_f [(0, 3), (0, 3), (0, 3), (0, 3), (0, 3), (0, 3), (0, 5), (0, 0)] (by kernel_rfl) ?_
                              refine jo_end (by kernel_rfl) ?_
                              refine jx_then ?_
                              refine jc_ret ?_
                              refine jx_thenr ?_
                              obtain rfl := Option.some.inj h
                              exact jx_ret [] (.bool false) [] rfl (by kernel_rfl) (by kernel_rfl) (fun w hm => ⟨rfl, hm.pick [] (by kernel_rfl) (by kernel_rfl)⟩)
                          · replace h := ifF hc_601 h
                            refine jo_f [(0, 3), (0, 3), (0, 3), (0, 3), (0, 3), (0, 3), (0, 5), (0, 0), (0, 3), (0, 3), (0, 3), (0, 3), (0, 3), (0, 3), (0, 3), (0, 5), (0, 0)] (by kernel_rfl) ?_
                            refine jo_end (by kernel_rfl) ?_
                            refine jx_then ?_
                            refine jc_ret ?_
                            refine jx_thenr ?_
                            obtain rfl := Option.some.inj h
                            exact jx_ret [] (.bool false) [] rfl (by kernel_rfl) (by kernel_rfl) (fun w hm => ⟨rfl, hm.pick [] (by kernel_rfl) (by kernel_rfl)⟩)
                        · replace h := ifF hc_600 h
                          refine jc_skip ?_
                          refine jx_then ?_
                          refine jc_seq ?_
                          refine jc_region ?_
                          refine jo_f [(0, 0), (0, 0), (0, 0), (0, 1), (0, 1), (0, 1), (0, 0), (0, 0), (0, 1), (0, 1), (0, 1), (0, 0), (0, 0), (0, 1)] (by kernel_rfl) ?_
                          refine jo_split 357 (((t_20.2.1 == (-1)) && ((t_29.1.length : Int) == 0)) && (decide ((t_29.2.1.length : Int) > 0))) (by kernel_rfl) (fun hc_605 => ?_) (fun hc_605 => ?_)
                          · replace h := ifT hc_605 h
                            obtain ⟨x_32, hx_606, h⟩ := bd h
                            refine toO (by kernel_rfl) (p_idx 2 (o_588.map fun b => ⟨b, 0, none⟩) t_29.2.1.length 0 1 (by kernel_rfl) (by kernel_rfl) (ix_some hx_606).1 (ltn hx_606 rfl) (spo ho_592 hx_606) (jkO ?_))
                            refine toO (by kernel_rfl) (p_ld 2 (aB (o_588.map fun b => ⟨b, 0, none⟩)) (aO (o_588.map fun b => ⟨b, 0, none⟩) + (0 : Int).toNat * 1) false (encI64 x_32) (by kernel_rfl) (by kernel_rfl) (by kernel_rfl) (fun w hm => ((hm.ownRow (hh := 31) (o := o_588) (T := 2) (enc := encI64) (xs := t_29.2.1) (sp := sp_590) (by kernel_rfl) (fun e => (ho_592 e).1) encI64_len).at hx_606)) (jkO ?_))
                            refine jo_f [(0, 2), (0, 2), (0, 4), (0, 0)] (by kernel_rfl) ?_
                            refine jo_end (by kernel_rfl) ?_
                            refine jx_then ?_
                            refine jc_ret ?_
                            obtain rfl := Option.some.inj h
                            exact jx_ret [] (.bool (x_32 == t_20.2.2.1)) [] rfl (by kernel_rfl) (by kernel_rfl) (fun w hm => ⟨rfl, hm.pick [] (by kernel_rfl) (by kernel_rfl)⟩)
                          · replace h := ifF hc_605 h
                            refine jo_f [(0, 3), (0, 3), (0, 3), (0, 3), (0, 5), (0, 0)] (by kernel_rfl) ?_
                            refine jo_end (by kernel_rfl) ?_
                            refine jx_then ?_
                            refine jc_ret ?_
                            obtain rfl := Option.some.inj h
                            exact jx_ret [] (.bool false) [] rfl (by kernel_rfl) (by kernel_rfl) (fun w hm => ⟨rfl, hm.pick [] (by kernel_rfl) (by kernel_rfl)⟩)
end Go.Proofs.Ytfkjghkjimcmdaa
