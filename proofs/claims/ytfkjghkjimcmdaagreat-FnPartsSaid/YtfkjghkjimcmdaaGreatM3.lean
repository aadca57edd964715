/- Functions of the program that the laws reach: a plain function each, and that the call comes to its answer if the plain function has one. Printed by a program. -/
import Derived.Test.YtfkjghkjimcmdaaGreatT
import Derived.Test.YtfkjghkjimcmdaaGreatM0
import Derived.Test.YtfkjghkjimcmdaaGreatM1
import Derived.Test.YtfkjghkjimcmdaaGreatM2
namespace Go.Proofs.YtfkjghkjimcmdaaGreat
open Eng
set_option linter.unusedVariables false

/-! ### laws.FnParts -/
noncomputable def laws_FnParts.k_21 (t_3 : GFrame) (t_5 : GLives) (t_8 : Int × Int × Int) (xs_15 : List GWornPin) (xs_17 : List Int) (i_19 : Int) (i_20 : Int) : Option (Bool) := (impl_WornOut t_3 (⟨xs_15, xs_17⟩ : GWear) t_5).bind fun t_22 => some (((((t_22.2.2 == 0) && ((t_22.1.length : Int) == 0)) && ((t_22.2.1.length : Int) == 0)) && (i_19 == t_8.1)) && (i_20 == t_8.2.1))
noncomputable def laws_FnParts.k_45 (t_3 : GFrame) (i_29 : Int) (i_38 : Int) (xs_40 : List GWornPin) (xs_42 : List Int) (i_44 : Int) : Option (((List GWornPin) × (List Int) × Int × Int × Int) ⊕ (Bool ⊕ ((List GWornPin) × (List Int) × Int × Int))) := (spec_TurnWear t_3 (⟨xs_40, xs_42⟩ : GWear) 1).bind fun t_46 => (if (t_46.2 != 0) = true then some (.inr (.inl false)) else some (.inl (t_46.1.fPins, t_46.1.fStrokes, i_38, i_44, (w64 (i_29 + 1)))))
noncomputable def laws_FnParts.k_58 (i_51 : Int) (i_52 : Int) (xs_55 : List GWornPin) (xs_56 : List Int) (i_57 : Int) : Option (((List GWornPin) × (List Int) × Int × Int) ⊕ (Bool ⊕ ((List GWornPin) × (List Int) × Int))) := (if (i_57 != 0) = true then some (.inr (.inl false)) else some (.inl (xs_55, xs_56, (w64 (i_51 + 1)), (w64 (i_52 + 1)))))
noncomputable def laws_FnParts.l_53 (t_3 : GFrame) (t_33 : (List GWornPin) × (List Int) × Int) : ((List GWornPin) × (List Int) × Int × Int) → Option (((List GWornPin) × (List Int) × Int × Int) ⊕ (Bool ⊕ ((List GWornPin) × (List Int) × Int)))
  | (xs_47, xs_49, i_51, i_52) => (if (decide (i_52 < (t_33.2.1.length : Int))) = true then (ix t_33.2.1 i_52).bind fun x_59 => (impl_NewHammer t_3 (⟨xs_47, xs_49⟩ : GWear) x_59).bind fun t_60 => laws_FnParts.k_58 i_51 i_52 t_60.1.fPins t_60.1.fStrokes t_60.2 else some (.inr (.inr (xs_47, xs_49, i_51))))
noncomputable def laws_FnParts.k_39 (t_3 : GFrame) (i_28 : Int) (i_29 : Int) (t_33 : (List GWornPin) × (List Int) × Int) (xs_34 : List GWornPin) (xs_36 : List Int) (i_38 : Int) : Option (((List GWornPin) × (List Int) × Int × Int × Int) ⊕ (Bool ⊕ ((List GWornPin) × (List Int) × Int × Int))) := (loop (laws_FnParts.l_53 t_3 t_33) (xs_34, xs_36, i_28, 0)).bind fun t_54 => match t_54 with | .inl p => some (.inr (.inl p)) | .inr p => laws_FnParts.k_45 t_3 i_29 i_38 p.1 p.2.1 p.2.2
noncomputable def laws_FnParts.k_72 (i_65 : Int) (i_66 : Int) (xs_69 : List GWornPin) (xs_70 : List Int) (i_71 : Int) : Option (((List GWornPin) × (List Int) × Int × Int) ⊕ (Bool ⊕ ((List GWornPin) × (List Int) × Int))) := (if (i_71 != 0) = true then some (.inr (.inl false)) else some (.inl (xs_69, xs_70, (w64 (i_65 + 1)), (w64 (i_66 + 1)))))
noncomputable def laws_FnParts.l_67 (t_3 : GFrame) (t_33 : (List GWornPin) × (List Int) × Int) : ((List GWornPin) × (List Int) × Int × Int) → Option (((List GWornPin) × (List Int) × Int × Int) ⊕ (Bool ⊕ ((List GWornPin) × (List Int) × Int)))
  | (xs_61, xs_63, i_65, i_66) => (if (decide (i_66 < (t_33.1.length : Int))) = true then (ix t_33.1 i_66).bind fun x_73 => (ix t_33.1 i_66).bind fun x_74 => (impl_NewPin t_3 (⟨xs_61, xs_63⟩ : GWear) (w64 x_73.fStep) (w64 x_74.fTrack)).bind fun t_75 => laws_FnParts.k_72 i_65 i_66 t_75.1.fPins t_75.1.fStrokes t_75.2 else some (.inr (.inr (xs_61, xs_63, i_65))))
noncomputable def laws_FnParts.l_30 (t_3 : GFrame) (t_5 : GLives) (t_6 : Int) : ((List GWornPin) × (List Int) × Int × Int × Int) → Option (((List GWornPin) × (List Int) × Int × Int × Int) ⊕ (Bool ⊕ ((List GWornPin) × (List Int) × Int × Int)))
  | (xs_23, xs_25, i_27, i_28, i_29) => (if (decide (i_29 < t_6)) = true then (spec_TurnWear t_3 (⟨xs_23, xs_25⟩ : GWear) 1).bind fun t_32 => (spec_WornOut t_3 t_32.1 t_5).bind fun t_33 => (if ((t_32.2 != 0) || (t_33.2.2 != 0)) = true then some (.inr (.inl false)) else (loop (laws_FnParts.l_67 t_3 t_33) (xs_23, xs_25, i_27, 0)).bind fun t_68 => match t_68 with | .inl p => some (.inr (.inl p)) | .inr p => laws_FnParts.k_39 t_3 i_28 i_29 t_33 p.1 p.2.1 p.2.2) else some (.inr (.inr (xs_23, xs_25, i_27, i_28))))
noncomputable def laws_FnParts.k_14 (t_3 : GFrame) (t_4 : GWear) (t_5 : GLives) (t_6 : Int) (t_7 : Int × Int × Int) (t_8 : Int × Int × Int) : Option (Bool) := (if (t_7.2.2 != 0) = true then some true else (loop (laws_FnParts.l_30 t_3 t_5 t_6) (t_4.fPins, t_4.fStrokes, 0, 0, 0)).bind fun t_31 => match t_31 with | .inl p => some p | .inr p => laws_FnParts.k_21 t_3 t_5 t_8 p.1 p.2.1 p.2.2.1 p.2.2.2)
noncomputable def laws_FnParts.k_82 (i_76 : Int) (q_81 : Bool) : Option ((Int) ⊕ (Bool ⊕ Unit)) := (if q_81 = true then some (.inr (.inl false)) else some (.inl (w64 (i_76 + 1))))
noncomputable def laws_FnParts.l_77 (t_3 : GFrame) (t_4 : GWear) (t_5 : GLives) (t_6 : Int) (t_11 : GLives) (t_12 : Int × Int × Int) (t_13 : Int × Int × Int) : Int → Option ((Int) ⊕ (Bool ⊕ Unit))
  | i_76 => (if (decide (i_76 < 3)) = true then (ix [t_5, t_11, (⟨30, 50⟩ : GLives)] i_76).bind fun x_79 => (impl_PartsFor t_3 t_4 x_79 t_6).bind fun t_80 => (if (t_80.2.2 == 0) = true then (if ((t_12.2.2 != 0) || (decide ((w64 ((w64 ((w64 (2 * t_80.1)) + (w64 (3 * t_80.2.1)))) * (w64 (i_76 + 1)))) < t_13.2.1))) = true then laws_FnParts.k_82 i_76 true else laws_FnParts.k_82 i_76 ((i_76 == t_13.1) && ((w64 ((w64 ((w64 (2 * t_80.1)) + (w64 (3 * t_80.2.1)))) * (w64 (i_76 + 1)))) != t_13.2.1))) else laws_FnParts.k_82 i_76 false) else some (.inr (.inr ())))
noncomputable def laws_FnParts.k_10 (code0 : List Int) (t_3 : GFrame) (t_4 : GWear) (t_5 : GLives) (t_6 : Int) (t_7 : Int × Int × Int) (t_8 : Int × Int × Int) (q_9 : Bool) : Option (Bool) := (if q_9 = true then some false else (spec_P6Lives code0).bind fun t_11 => (impl_CheapestLives t_3 t_4 2 3 t_6 [t_5, t_11, (⟨30, 50⟩ : GLives)]).bind fun t_12 => (spec_CheapestLives t_3 t_4 2 3 t_6 [t_5, t_11, (⟨30, 50⟩ : GLives)]).bind fun t_13 => (if (((t_12.2.2 != t_13.2.2) || (t_12.1 != t_13.1)) || (t_12.2.1 != t_13.2.1)) = true then some false else (loop (laws_FnParts.l_77 t_3 t_4 t_5 t_6 t_11 t_12 t_13) 0).bind fun t_78 => match t_78 with | .inl p => some p | .inr p => laws_FnParts.k_14 t_3 t_4 t_5 t_6 t_7 t_8))
noncomputable def laws_FnParts.k_2 (code0 : List Int) (more1 : List Int) (q_1 : Bool) : Option (Bool) := (if q_1 = true then some true else (spec_P6Frame code0).bind fun t_3 => (spec_P6Wear more1 t_3).bind fun t_4 => (spec_P6Lives more1).bind fun t_5 => (spec_P6Pick code0 60).bind fun t_6 => (impl_PartsFor t_3 t_4 t_5 t_6).bind fun t_7 => (spec_PartsFor t_3 t_4 t_5 t_6).bind fun t_8 => (if (((t_7.2.2 != t_8.2.2) || (t_7.1 != t_8.1)) || (t_7.2.1 != t_8.2.1)) = true then laws_FnParts.k_10 code0 t_3 t_4 t_5 t_6 t_7 t_8 true else laws_FnParts.k_10 code0 t_3 t_4 t_5 t_6 t_7 t_8 ((t_7.2.2 != 0) && (t_7.2.2 != 4))))
noncomputable def laws_FnParts (code0 : List Int) (more1 : List Int) : Option (Bool) := (laws_f6big code0).bind fun t_83 => (if t_83 = true then laws_FnParts.k_2 code0 more1 true else (laws_f6big more1).bind fun t_84 => laws_FnParts.k_2 code0 more1 t_84)
set_option maxRecDepth 100000 in
set_option maxHeartbeats 8000000 in
theorem laws_FnParts.calls (code0 : List Int) (more1 : List Int) (w : World) (r : Bool) (code0_a : Option Addr) (code0_an : Nat) (code0_c : Nat) (code0_h : Rw w code0_a 1 encU8 code0) (code0_hn : code0.length = code0_an) (more1_a : Option Addr) (more1_an : Nat) (more1_c : Nat) (more1_h : Rw w more1_a 1 encU8 more1) (more1_hn : more1.length = more1_an) (h : laws_FnParts code0 more1 = some r) :
    Calls Tryz.prog 5 #[(.slice code0_a code0_an code0_c), (.slice more1_a more1_an more1_c)] w fun e w' => ∃ v, e = .returned v ∧ (v = (.bool r) ∧ Mem w [] [] w') := by
  subst code0_hn more1_hn
  rw [laws_FnParts] at h
  refine enter (args := [(.slice code0_a code0.length code0_c), (.slice more1_a more1.length more1_c)]) Tryz.func5 rfl Tryz.ntmps5 (by kernel_rfl) (L := []) (W := []) (Mem.start w) ?_
  refine jc_seq ?_
  refine jc_region ?_
  refine jo_f [(0, 0)] (by kernel_rfl) ?_
  refine jo_end (by kernel_rfl) ?_
  refine jx_then ?_
  refine jc_seq ?_
  refine jc_seq ?_
  refine jc_meet (fun (j : Bool) => match j with | q_1 => laws_FnParts.k_2 code0 more1 q_1 = some r) (fun (j : Bool) => match j with | q_1 => [(0, [], (.slice code0_a code0.length code0_c)), (1, [], (.slice more1_a more1.length more1_c)), (4, [], (.bool false)), (51, [], (.bool q_1))]) (fun (j : Bool) => match j with | q_1 => []) ?_ ?_
  · refine jc_region ?_
    refine jo_f [(0, 0)] (by kernel_rfl) ?_
    obtain ⟨t_83, ht_47256, h⟩ := bd h
    refine toO (by kernel_rfl) (p_call 0 24 #[(.slice code0_a code0.length code0_c)] (by kernel_rfl) (by kernel_rfl) (fun w hm => laws_f6big.calls code0 w _ code0_a code0.length code0_c (hm.exRow code0_h List.not_mem_nil) rfl ht_47256) ?_)
    rintro w v w' hm ⟨rfl, hm'⟩
    refine ⟨_, hm.app hm', jkO ?_⟩
    clear hm hm'
    refine jo_f [(0, 0), (0, 1)] (by kernel_rfl) ?_
    refine jo_split 48 t_83 (by kernel_rfl) (fun hc_47257 => ?_) (fun hc_47257 => ?_)
    · replace h := ifT hc_47257 h
      refine jo_f [(0, 3), (0, 4)] (by kernel_rfl) ?_
      refine jo_end (by kernel_rfl) ?_
      exact jx_meet true h (by kernel_rfl) [] (by kernel_rfl) (by kernel_rfl)
    · replace h := ifF hc_47257 h
      obtain ⟨t_84, ht_47258, h⟩ := bd h
      refine toO (by kernel_rfl) (p_call 2 24 #[(.slice more1_a more1.length more1_c)] (by kernel_rfl) (by kernel_rfl) (fun w hm => laws_f6big.calls more1 w _ more1_a more1.length more1_c (hm.exRow more1_h List.not_mem_nil) rfl ht_47258) ?_)
      rintro w v w' hm ⟨rfl, hm'⟩
      refine ⟨_, hm.app hm', jkO ?_⟩
      clear hm hm'
      refine jo_f [(0, 5)] (by kernel_rfl) ?_
      refine jo_end (by kernel_rfl) ?_
      exact jx_meet t_84 h (by kernel_rfl) [] (by kernel_rfl) (by kernel_rfl)
  · rintro q_1 h
    replace h : laws_FnParts.k_2 code0 more1 q_1 = some r := h
    rw [laws_FnParts.k_2] at h
    refine jx_then ?_
    refine jc_cond q_1 (by kernel_rfl) (fun hc_11 => ?_) (fun hc_11 => ?_)
    · replace h := ifT hc_11 h
      refine jc_seq ?_
      refine jc_region ?_
      refine jo_f [(0, 0)] (by kernel_rfl) ?_
      refine jo_end (by kernel_rfl) ?_
      refine jx_then ?_
      refine jc_ret ?_
      refine jx_thenr ?_
      obtain rfl := Option.some.inj h
      exact jx_ret [] (.bool true) [] rfl (by kernel_rfl) (by kernel_rfl) (fun w hm => ⟨rfl, hm.pick [] (by kernel_rfl) (by kernel_rfl)⟩)
    · replace h := ifF hc_11 h
      refine jc_skip ?_
      refine jx_then ?_
      refine jc_seq ?_
      refine jc_region ?_
      refine jo_f [(0, 0)] (by kernel_rfl) ?_
      obtain ⟨t_3, ht_12, h⟩ := bd h
      refine toO (by kernel_rfl) (p_call 0 25 #[(.slice code0_a code0.length code0_c)] (by kernel_rfl) (by kernel_rfl) (fun w hm => spec_P6Frame.calls code0 w _ code0_a code0.length code0_c (hm.exRow code0_h List.not_mem_nil) rfl ht_12) ?_)
      rintro w v w' hm ⟨o_13, cap_14, sp_15, _, rfl, hs_16, ho_17, rfl, hm'⟩
      refine ⟨_, hm.app hm', jkO ?_⟩
      clear hm hm'
      refine toO (by kernel_rfl) (p_a 0 [0] (by kernel_rfl) (fun b => by kernel_rfl) (fun b_18 => jkO ?_))
      refine toO (by kernel_rfl) (p_s 0 [1] (by kernel_rfl) (by kernel_rfl) (jkO ?_))
      refine jo_end (by kernel_rfl) ?_
      refine jx_then ?_
      refine jc_seq ?_
      refine jc_region ?_
      refine jo_f [(0, 0), (1, 0)] (by kernel_rfl) ?_
      obtain ⟨t_4, ht_19, h⟩ := bd h
      refine toO (by kernel_rfl) (p_call 0 26 #[(.slice more1_a more1.length more1_c), (.agg #[(.int .i16 t_3.fSteps), (.slice (o_13.map fun b => ⟨b, 0, none⟩) t_3.fHammers.length cap_14)])] (by kernel_rfl) (by kernel_rfl) (fun w hm => spec_P6Wear.calls more1 t_3 w _ more1_a more1.length more1_c (hm.exRow more1_h List.not_mem_nil) rfl (o_13.map fun b => ⟨b, 0, none⟩) t_3.fHammers.length cap_14 (hm.ownRow (hh := 0) (o := o_13) (T := 137) (enc := encGHammer) (xs := t_3.fHammers) (sp := sp_15) (by kernel_rfl) (fun e => (ho_17 e).1) encGHammer_len) rfl ht_19) ?_)
      rintro w v w' hm ⟨o_20, cap_21, sp_22, _, rfl, hs_23, ho_24, o_25, cap_26, sp_27, _, rfl, hs_28, ho_29, rfl, hm'⟩
      refine ⟨_, hm.app hm', jkO ?_⟩
      clear hm hm'
      refine toO (by kernel_rfl) (p_a 0 [0] (by kernel_rfl) (fun b => by kernel_rfl) (fun b_30 => jkO ?_))
      refine toO (by kernel_rfl) (p_s 0 [4] (by kernel_rfl) (by kernel_rfl) (jkO ?_))
      refine jo_end (by kernel_rfl) ?_
      refine jx_then ?_
      refine jc_seq ?_
      refine jc_region ?_
      refine jo_f [(0, 0)] (by kernel_rfl) ?_
      obtain ⟨t_5, ht_31, h⟩ := bd h
      refine toO (by kernel_rfl) (p_call 0 27 #[(.slice more1_a more1.length more1_c)] (by kernel_rfl) (by kernel_rfl) (fun w hm => spec_P6Lives.calls more1 w _ more1_a more1.length more1_c (hm.exRow more1_h List.not_mem_nil) rfl ht_31) ?_)
      rintro w v w' hm ⟨rfl, hm'⟩
      refine ⟨_, hm.app hm', jkO ?_⟩
      clear hm hm'
      refine toO (by kernel_rfl) (p_a 0 [0] (by kernel_rfl) (fun b => by kernel_rfl) (fun b_32 => jkO ?_))
      refine toO (by kernel_rfl) (p_s 0 [5] (by kernel_rfl) (by kernel_rfl) (jkO ?_))
      refine jo_end (by kernel_rfl) ?_
      refine jx_then ?_
      refine jc_seq ?_
      refine jc_region ?_
      refine jo_f [(0, 0)] (by kernel_rfl) ?_
      obtain ⟨t_6, ht_33, h⟩ := bd h
      refine toO (by kernel_rfl) (p_call 0 28 #[(.slice code0_a code0.length code0_c), (.int .i64 60)] (by kernel_rfl) (by kernel_rfl) (fun w hm => spec_P6Pick.calls code0 60 w _ code0_a code0.length code0_c (hm.exRow code0_h List.not_mem_nil) rfl ht_33) ?_)
      rintro w v w' hm ⟨rfl, hm'⟩
      refine ⟨_, hm.app hm', jkO ?_⟩
      clear hm hm'
      refine jo_f [(0, 0)] (by kernel_rfl) ?_
      refine jo_end (by kernel_rfl) ?_
      refine jx_then ?_
      refine jc_seq ?_
      refine jc_region ?_
      refine jo_f [(1, 0), (4, 0), (5, 0), (0, 0)] (by kernel_rfl) ?_
      obtain ⟨t_7, ht_34, h⟩ := bd h
      refine toO (by kernel_rfl) (p_call 0 29 #[(.agg #[(.int .i16 t_3.fSteps), (.slice (o_13.map fun b => ⟨b, 0, none⟩) t_3.fHammers.length cap_14)]), (.agg #[(.slice (o_20.map fun b => ⟨b, 0, none⟩) t_4.fPins.length cap_21), (.slice (o_25.map fun b => ⟨b, 0, none⟩) t_4.fStrokes.length cap_26)]), (.agg #[(.int .i64 t_5.fPin), (.int .i64 t_5.fHammer)]), (.int .i64 t_6)] (by kernel_rfl) (by kernel_rfl) (fun w hm => impl_PartsFor.calls t_3 t_4 t_5 t_6 w _ (o_13.map fun b => ⟨b, 0, none⟩) t_3.fHammers.length cap_14 (hm.ownRow (hh := 0) (o := o_13) (T := 137) (enc := encGHammer) (xs := t_3.fHammers) (sp := sp_15) (by kernel_rfl) (fun e => (ho_17 e).1) encGHammer_len) rfl (o_20.map fun b => ⟨b, 0, none⟩) t_4.fPins.length cap_21 (hm.ownRow (hh := 2) (o := o_20) (T := 75) (enc := encGWornPin) (xs := t_4.fPins) (sp := sp_22) (by kernel_rfl) (fun e => (ho_24 e).1) encGWornPin_len) rfl (o_25.map fun b => ⟨b, 0, none⟩) t_4.fStrokes.length cap_26 (hm.ownRow (hh := 3) (o := o_25) (T := 2) (enc := encI64) (xs := t_4.fStrokes) (sp := sp_27) (by kernel_rfl) (fun e => (ho_29 e).1) encI64_len) rfl ht_34) ?_)
      rintro w v w' hm ⟨rfl, hm'⟩
      refine ⟨_, hm.app hm', jkO ?_⟩
      clear hm hm'
      refine jo_f [(0, 0), (0, 0), (0, 0), (0, 0), (0, 0), (0, 0), (0, 0)] (by kernel_rfl) ?_
      refine jo_end (by kernel_rfl) ?_
      refine jx_then ?_
      refine jc_seq ?_
      refine jc_region ?_
      refine jo_f [(1, 0), (4, 0), (5, 0), (0, 0)] (by kernel_rfl) ?_
      obtain ⟨t_8, ht_35, h⟩ := bd h
      refine toO (by kernel_rfl) (p_call 0 30 #[(.agg #[(.int .i16 t_3.fSteps), (.slice (o_13.map fun b => ⟨b, 0, none⟩) t_3.fHammers.length cap_14)]), (.agg #[(.slice (o_20.map fun b => ⟨b, 0, none⟩) t_4.fPins.length cap_21), (.slice (o_25.map fun b => ⟨b, 0, none⟩) t_4.fStrokes.length cap_26)]), (.agg #[(.int .i64 t_5.fPin), (.int .i64 t_5.fHammer)]), (.int .i64 t_6)] (by kernel_rfl) (by kernel_rfl) (fun w hm => spec_PartsFor.calls t_3 t_4 t_5 t_6 w _ (o_13.map fun b => ⟨b, 0, none⟩) t_3.fHammers.length cap_14 (hm.ownRow (hh := 0) (o := o_13) (T := 137) (enc := encGHammer) (xs := t_3.fHammers) (sp := sp_15) (by kernel_rfl) (fun e => (ho_17 e).1) encGHammer_len) rfl (o_20.map fun b => ⟨b, 0, none⟩) t_4.fPins.length cap_21 (hm.ownRow (hh := 2) (o := o_20) (T := 75) (enc := encGWornPin) (xs := t_4.fPins) (sp := sp_22) (by kernel_rfl) (fun e => (ho_24 e).1) encGWornPin_len) rfl (o_25.map fun b => ⟨b, 0, none⟩) t_4.fStrokes.length cap_26 (hm.ownRow (hh := 3) (o := o_25) (T := 2) (enc := encI64) (xs := t_4.fStrokes) (sp := sp_27) (by kernel_rfl) (fun e => (ho_29 e).1) encI64_len) rfl ht_35) ?_)
      rintro w v w' hm ⟨rfl, hm'⟩
      refine ⟨_, hm.app hm', jkO ?_⟩
      clear hm hm'
      refine jo_f [(0, 0), (0, 0), (0, 0), (0, 0), (0, 0), (0, 0), (0, 0)] (by kernel_rfl) ?_
      refine jo_end (by kernel_rfl) ?_
      refine jx_then ?_
      refine jc_seq ?_
      refine jc_seq ?_
      refine jc_meet (fun (j : Bool) => match j with | q_9 => laws_FnParts.k_10 code0 t_3 t_4 t_5 t_6 t_7 t_8 q_9 = some r) (fun (j : Bool) => match j with | q_9 => [(0, [], (.slice code0_a code0.length code0_c)), (4, [], (.bool false)), (5, [], (.pointer (some ⟨b_18, 0, none⟩))), (6, [], (.pointer (some ⟨b_30, 0, none⟩))), (7, [], (.pointer (some ⟨b_32, 0, none⟩))), (8, [], (.int .i64 t_6)), (11, [], (.int .i64 t_7.2.2)), (12, [], (.int .i64 t_8.1)), (13, [], (.int .i64 t_8.2.1)), (99, [], (.bool q_9))]) (fun (j : Bool) => match j with | q_9 => [⟨o_13, 137, row encGHammer t_3.fHammers sp_15⟩, ⟨some b_18, 43, [(.int .i16 t_3.fSteps), (.slice (o_13.map fun b => ⟨b, 0, none⟩) t_3.fHammers.length cap_14)]⟩, ⟨o_20, 75, row encGWornPin t_4.fPins sp_22⟩, ⟨o_25, 2, row encI64 t_4.fStrokes sp_27⟩, ⟨some b_30, 38, [(.slice (o_20.map fun b => ⟨b, 0, none⟩) t_4.fPins.length cap_21), (.slice (o_25.map fun b => ⟨b, 0, none⟩) t_4.fStrokes.length cap_26)]⟩, ⟨some b_32, 46, [(.int .i64 t_5.fPin), (.int .i64 t_5.fHammer)]⟩]) ?_ ?_
      · refine jc_region ?_
        refine jo_f [(0, 0), (0, 0), (0, 0), (0, 0), (0, 1), (0, 1), (0, 1), (0, 0), (0, 0), (0, 1), (0, 1), (0, 1), (0, 0), (0, 0), (0, 1), (0, 1)] (by kernel_rfl) ?_
        refine jo_split 92 (((t_7.2.2 != t_8.2.2) || (t_7.1 != t_8.1)) || (t_7.2.1 != t_8.2.1)) (by kernel_rfl) (fun hc_47255 => ?_) (fun hc_47255 => ?_)
        · replace h := ifT hc_47255 h
          refine jo_f [(0, 3), (0, 3), (0, 3), (0, 3), (0, 4)] (by kernel_rfl) ?_
          refine jo_end (by kernel_rfl) ?_
          exact jx_meet true h (by kernel_rfl) [0, 1, 2, 3, 4, 5] (by kernel_rfl) (by kernel_rfl)
        · replace h := ifF hc_47255 h
          refine jo_f [(0, 2), (0, 1), (0, 1), (0, 2), (0, 5)] (by kernel_rfl) ?_
          refine jo_end (by kernel_rfl) ?_
          exact jx_meet ((t_7.2.2 != 0) && (t_7.2.2 != 4)) h (by kernel_rfl) [0, 1, 2, 3, 4, 5] (by kernel_rfl) (by kernel_rfl)
      · rintro q_9 h
        replace h : laws_FnParts.k_10 code0 t_3 t_4 t_5 t_6 t_7 t_8 q_9 = some r := h
        rw [laws_FnParts.k_10] at h
        refine jx_then ?_
        refine jc_cond q_9 (by kernel_rfl) (fun hc_40 => ?_) (fun hc_40 => ?_)
        · replace h := ifT hc_40 h
          refine jc_seq ?_
          refine jc_region ?_
          refine jo_f [(0, 0)] (by kernel_rfl) ?_
          refine jo_end (by kernel_rfl) ?_
          refine jx_then ?_
          refine jc_ret ?_
          refine jx_thenr ?_
          obtain rfl := Option.some.inj h
          exact jx_ret [] (.bool false) [] rfl (by kernel_rfl) (by kernel_rfl) (fun w hm => ⟨rfl, hm.pick [] (by kernel_rfl) (by kernel_rfl)⟩)
        · replace h := ifF hc_40 h
          refine jc_skip ?_
          refine jx_then ?_
          refine jc_seq ?_
          refine jc_draw [⟨o_13, 137, row encGHammer t_3.fHammers sp_15⟩, ⟨some b_18, 43, [(.int .i16 t_3.fSteps), (.slice (o_13.map fun b => ⟨b, 0, none⟩) t_3.fHammers.length cap_14)]⟩, ⟨o_20, 75, row encGWornPin t_4.fPins sp_22⟩, ⟨o_25, 2, row encI64 t_4.fStrokes sp_27⟩, ⟨some b_30, 38, [(.slice (o_20.map fun b => ⟨b, 0, none⟩) t_4.fPins.length cap_21), (.slice (o_25.map fun b => ⟨b, 0, none⟩) t_4.fStrokes.length cap_26)]⟩, ⟨some b_32, 46, [(.int .i64 t_5.fPin), (.int .i64 t_5.fHammer)]⟩] 6 (by kernel_rfl) (by kernel_rfl) ?_
          refine jd_f [⟨0, 5, 0⟩, ⟨1, 0, 0⟩, ⟨3, 0, 0⟩] 3 (by kernel_rfl) (by kernel_rfl) (fun w h => h.pick [0, 1, 2, 3, 4, 5] (by kernel_rfl) (by kernel_rfl)) (by kernel_rfl) (by kernel_rfl) ?_
          obtain ⟨t_11, ht_43, h⟩ := bd h
          refine toD 2 (by kernel_rfl) (p_call 0 27 #[(.slice code0_a code0.length code0_c)] (by kernel_rfl) (by kernel_rfl) (fun w hm => spec_P6Lives.calls code0 w _ code0_a code0.length code0_c (hm.exRow code0_h List.not_mem_nil) rfl ht_43) ?_)
          rintro w v w' hm ⟨rfl, hm'⟩
          refine ⟨_, hm.app hm', jkD (fun w h => h.pick [0, 1, 2, 3, 4, 5] (by kernel_rfl) (by kernel_rfl)) ?_⟩
          clear hm hm'
          refine toD 4 (by kernel_rfl) (p_a 0 [0] (by kernel_rfl) (fun b => by kernel_rfl) (fun b_44 => jkD (fun w h => h.pick [0, 1, 2, 3, 4, 5] (by kernel_rfl) (by kernel_rfl)) ?_))
          refine jd_f [⟨5, 0, 0⟩] 0 (by kernel_rfl) (by kernel_rfl) (fun w h => h.pick [0, 1, 2, 3, 4, 5] (by kernel_rfl) (by kernel_rfl)) (by kernel_rfl) (by kernel_rfl) ?_
          refine jd_end (by kernel_rfl) ?_
          refine jx_then ?_
          refine jc_seq ?_
          refine jc_region ?_
          refine jo_f [(1, 0), (4, 0), (0, 0), (0, 0)] (by kernel_rfl) ?_
          obtain ⟨t_12, ht_45, h⟩ := bd h
          refine toO (by kernel_rfl) (p_call 0 31 #[(.agg #[(.int .i16 t_3.fSteps), (.slice (o_13.map fun b => ⟨b, 0, none⟩) t_3.fHammers.length cap_14)]), (.agg #[(.slice (o_20.map fun b => ⟨b, 0, none⟩) t_4.fPins.length cap_21), (.slice (o_25.map fun b => ⟨b, 0, none⟩) t_4.fStrokes.length cap_26)]), (.int .i64 2), (.int .i64 3), (.int .i64 t_6), (.slice (some ⟨b_44, 0, none⟩) 3 3)] (by kernel_rfl) (by kernel_rfl) (fun w hm => impl_CheapestLives.calls t_3 t_4 2 3 t_6 [t_5, t_11, (⟨30, 50⟩ : GLives)] w _ (o_13.map fun b => ⟨b, 0, none⟩) t_3.fHammers.length cap_14 (hm.ownRow (hh := 0) (o := o_13) (T := 137) (enc := encGHammer) (xs := t_3.fHammers) (sp := sp_15) (by kernel_rfl) (fun e => (ho_17 e).1) encGHammer_len) rfl (o_20.map fun b => ⟨b, 0, none⟩) t_4.fPins.length cap_21 (hm.ownRow (hh := 2) (o := o_20) (T := 75) (enc := encGWornPin) (xs := t_4.fPins) (sp := sp_22) (by kernel_rfl) (fun e => (ho_24 e).1) encGWornPin_len) rfl (o_25.map fun b => ⟨b, 0, none⟩) t_4.fStrokes.length cap_26 (hm.ownRow (hh := 3) (o := o_25) (T := 2) (enc := encI64) (xs := t_4.fStrokes) (sp := sp_27) (by kernel_rfl) (fun e => (ho_29 e).1) encI64_len) rfl (some ⟨b_44, 0, none⟩) 3 3 (hm.ownRow (hh := 6) (o := (some b_44)) (T := 46) (enc := encGLives) (xs := [t_5, t_11, (⟨30, 50⟩ : GLives)]) (sp := []) (by kernel_rfl) (fun e => nomatch e) encGLives_len) rfl ht_45) ?_)
          rintro w v w' hm ⟨rfl, hm'⟩
          refine ⟨_, hm.app hm', jkO ?_⟩
          clear hm hm'
          refine jo_f [(0, 0), (0, 0), (0, 0), (0, 0), (0, 0), (0, 0), (0, 0)] (by kernel_rfl) ?_
          refine jo_end (by kernel_rfl) ?_
          refine jx_then ?_
          refine jc_seq ?_
          refine jc_region ?_
          refine jo_f [(1, 0), (4, 0), (0, 0), (0, 0)] (by kernel_rfl) ?_
          obtain ⟨t_13, ht_46, h⟩ := bd h
          refine toO (by kernel_rfl) (p_call 0 32 #[(.agg #[(.int .i16 t_3.fSteps), (.slice (o_13.map fun b => ⟨b, 0, none⟩) t_3.fHammers.length cap_14)]), (.agg #[(.slice (o_20.map fun b => ⟨b, 0, none⟩) t_4.fPins.length cap_21), (.slice (o_25.map fun b => ⟨b, 0, none⟩) t_4.fStrokes.length cap_26)]), (.int .i64 2), (.int .i64 3), (.int .i64 t_6), (.slice (some ⟨b_44, 0, none⟩) 3 3)] (by kernel_rfl) (by kernel_rfl) (fun w hm => spec_CheapestLives.calls t_3 t_4 2 3 t_6 [t_5, t_11, (⟨30, 50⟩ : GLives)] w _ (o_13.map fun b => ⟨b, 0, none⟩) t_3.fHammers.length cap_14 (hm.ownRow (hh := 0) (o := o_13) (T := 137) (enc := encGHammer) (xs := t_3.fHammers) (sp := sp_15) (by kernel_rfl) (fun e => (ho_17 e).1) encGHammer_len) rfl (o_20.map fun b => ⟨b, 0, none⟩) t_4.fPins.length cap_21 (hm.ownRow (hh := 2) (o := o_20) (T := 75) (enc := encGWornPin) (xs := t_4.fPins) (sp := sp_22) (by kernel_rfl) (fun e => (ho_24 e).1) encGWornPin_len) rfl (o_25.map fun b => ⟨b, 0, none⟩) t_4.fStrokes.length cap_26 (hm.ownRow (hh := 3) (o := o_25) (T := 2) (enc := encI64) (xs := t_4.fStrokes) (sp := sp_27) (by kernel_rfl) (fun e => (ho_29 e).1) encI64_len) rfl (some ⟨b_44, 0, none⟩) 3 3 (hm.ownRow (hh := 6) (o := (some b_44)) (T := 46) (enc := encGLives) (xs := [t_5, t_11, (⟨30, 50⟩ : GLives)]) (sp := []) (by kernel_rfl) (fun e => nomatch e) encGLives_len) rfl ht_46) ?_)
          rintro w v w' hm ⟨rfl, hm'⟩
          refine ⟨_, hm.app hm', jkO ?_⟩
          clear hm hm'
          refine jo_f [(0, 0), (0, 0), (0, 0), (0, 0), (0, 0), (0, 0), (0, 0)] (by kernel_rfl) ?_
          refine jo_end (by kernel_rfl) ?_
          refine jx_then ?_
          refine jc_seq ?_
          refine jc_seq ?_
          refine jc_region ?_
          refine jo_f [(0, 0), (0, 0), (0, 0), (0, 0), (0, 1), (0, 1), (0, 1), (0, 0), (0, 0), (0, 1), (0, 1), (0, 1), (0, 0)] (by kernel_rfl) ?_
          refine jo_end (by kernel_rfl) ?_
          refine jx_then ?_
          refine jc_cond (((t_12.2.2 != t_13.2.2) || (t_12.1 != t_13.1)) || (t_12.2.1 != t_13.2.1)) (by kernel_rfl) (fun hc_48 => ?_) (fun hc_48 => ?_)
          · replace h := ifT hc_48 h
            refine jc_seq ?_
            refine jc_region ?_
            refine jo_f [(0, 0)] (by kernel_rfl) ?_
            refine jo_end (by kernel_rfl) ?_
            refine jx_then ?_
            refine jc_ret ?_
            refine jx_thenr ?_
            obtain rfl := Option.some.inj h
            exact jx_ret [] (.bool false) [] rfl (by kernel_rfl) (by kernel_rfl) (fun w hm => ⟨rfl, hm.pick [] (by kernel_rfl) (by kernel_rfl)⟩)
          · replace h := ifF hc_48 h
            refine jc_skip ?_
            refine jx_then ?_
            refine jc_seq ?_
            refine jc_seq ?_
            refine jc_region ?_
            refine jo_f [(0, 0)] (by kernel_rfl) ?_
            refine jo_end (by kernel_rfl) ?_
            refine jx_then ?_
            refine jc_meet (fun (_ : Unit) => laws_FnParts.k_14 t_3 t_4 t_5 t_6 t_7 t_8 = some r) (fun (_ : Unit) => [(4, [], (.bool false)), (5, [], (.pointer (some ⟨b_18, 0, none⟩))), (6, [], (.pointer (some ⟨b_30, 0, none⟩))), (7, [], (.pointer (some ⟨b_32, 0, none⟩))), (8, [], (.int .i64 t_6)), (11, [], (.int .i64 t_7.2.2)), (12, [], (.int .i64 t_8.1)), (13, [], (.int .i64 t_8.2.1))]) (fun (_ : Unit) => [⟨o_13, 137, row encGHammer t_3.fHammers sp_15⟩, ⟨some b_18, 43, [(.int .i16 t_3.fSteps), (.slice (o_13.map fun b => ⟨b, 0, none⟩) t_3.fHammers.length cap_14)]⟩, ⟨o_20, 75, row encGWornPin t_4.fPins sp_22⟩, ⟨o_25, 2, row encI64 t_4.fStrokes sp_27⟩, ⟨some b_30, 38, [(.slice (o_20.map fun b => ⟨b, 0, none⟩) t_4.fPins.length cap_21), (.slice (o_25.map fun b => ⟨b, 0, none⟩) t_4.fStrokes.length cap_26)]⟩, ⟨some b_32, 46, [(.int .i64 t_5.fPin), (.int .i64 t_5.fHammer)]⟩, ⟨(some b_44), 46, row encGLives [t_5, t_11, (⟨30, 50⟩ : GLives)] []⟩]) ?_ ?_
            · refine jc_block ?_
              obtain ⟨t_78, ht_47254, hr_47241⟩ := bd h
              refine jc_loop (fun (s : Int) (x : Unit) => match s, x with | i_76, _ => True) (fun (s : Int) (x : Unit) => match s, x with | i_76, _ => [(4, [], (.bool false)), (5, [], (.pointer (some ⟨b_18, 0, none⟩))), (6, [], (.pointer (some ⟨b_30, 0, none⟩))), (7, [], (.pointer (some ⟨b_32, 0, none⟩))), (8, [], (.int .i64 t_6)), (11, [], (.int .i64 t_7.2.2)), (12, [], (.int .i64 t_8.1)), (13, [], (.int .i64 t_8.2.1)), (15, [], (.slice (some ⟨b_44, 0, none⟩) 3 3)), (18, [], (.int .i64 t_12.2.2)), (19, [], (.int .i64 t_13.1)), (20, [], (.int .i64 t_13.2.1)), (22, [], (.int .i64 i_76))]) (fun (s : Int) (x : Unit) => match s, x with | i_76, _ => [⟨o_13, 137, row encGHammer t_3.fHammers sp_15⟩, ⟨some b_18, 43, [(.int .i16 t_3.fSteps), (.slice (o_13.map fun b => ⟨b, 0, none⟩) t_3.fHammers.length cap_14)]⟩, ⟨o_20, 75, row encGWornPin t_4.fPins sp_22⟩, ⟨o_25, 2, row encI64 t_4.fStrokes sp_27⟩, ⟨some b_30, 38, [(.slice (o_20.map fun b => ⟨b, 0, none⟩) t_4.fPins.length cap_21), (.slice (o_25.map fun b => ⟨b, 0, none⟩) t_4.fStrokes.length cap_26)]⟩, ⟨some b_32, 46, [(.int .i64 t_5.fPin), (.int .i64 t_5.fHammer)]⟩, ⟨(some b_44), 46, row encGLives [t_5, t_11, (⟨30, 50⟩ : GLives)] []⟩]) ht_47254 () trivial (by kernel_rfl) [0, 1, 2, 3, 4, 5, 6] (by kernel_rfl) (by kernel_rfl) ?_
              rintro i_76 _ y_47242 _ h
              rw [laws_FnParts.l_77] at h
              refine jc_seq ?_
              refine jc_seq ?_
              refine jc_region ?_
              refine jo_f [(0, 0), (0, 0)] (by kernel_rfl) ?_
              refine jo_end (by kernel_rfl) ?_
              refine jx_then ?_
              refine jc_cond (decide (i_76 < 3)) (by kernel_rfl) (fun hc_47244 => ?_) (fun hc_47244 => ?_)
              · replace h := ifT hc_47244 h
                refine jc_skip ?_
                refine jx_then ?_
                refine jc_seq ?_
                refine jc_block ?_
                refine jc_seq ?_
                refine jc_draw [⟨o_13, 137, row encGHammer t_3.fHammers sp_15⟩, ⟨some b_18, 43, [(.int .i16 t_3.fSteps), (.slice (o_13.map fun b => ⟨b, 0, none⟩) t_3.fHammers.length cap_14)]⟩, ⟨o_20, 75, row encGWornPin t_4.fPins sp_22⟩, ⟨o_25, 2, row encI64 t_4.fStrokes sp_27⟩, ⟨some b_30, 38, [(.slice (o_20.map fun b => ⟨b, 0, none⟩) t_4.fPins.length cap_21), (.slice (o_25.map fun b => ⟨b, 0, none⟩) t_4.fStrokes.length cap_26)]⟩, ⟨some b_32, 46, [(.int .i64 t_5.fPin), (.int .i64 t_5.fHammer)]⟩, ⟨(some b_44), 46, row encGLives [t_5, t_11, (⟨30, 50⟩ : GLives)] []⟩] 15 (by kernel_rfl) (by kernel_rfl) ?_
                refine jd_f [⟨0, 1, 0⟩, ⟨1, 4, 0⟩, ⟨2, 0, 0⟩, ⟨3, 0, 0⟩, ⟨6, 0, 0⟩] 10 (by kernel_rfl) (by kernel_rfl) (fun w h => h.pick [0, 1, 2, 3, 4, 5, 6] (by kernel_rfl) (by kernel_rfl)) (by kernel_rfl) (by kernel_rfl) ?_
                obtain ⟨x_79, hx_47245, h⟩ := bd h
                refine jd_v 4 0 (by kernel_rfl) (fun w h => h.pick [0, 1, 2, 3, 4, 5, 6] (by kernel_rfl) (by kernel_rfl)) (by kernel_rfl) (by kernel_rfl) _ (fun w hm => idx_run (a := (some ⟨b_44, 0, none⟩)) (len := 3) (s := 2) (j := i_76) (by kernel_rfl) (ix_some hx_47245).1 (ltn hx_47245 rfl) rfl) ?_
                refine jd_v 5 0 (by kernel_rfl) (fun w h => h.pick [0, 1, 2, 3, 4, 5, 6] (by kernel_rfl) (by kernel_rfl)) (by kernel_rfl) (by kernel_rfl) _ (fun w hm => ld_run (b := aB (some ⟨b_44, 0, none⟩)) (off := (aO (some ⟨b_44, 0, none⟩) + i_76.toNat * 2)) (s := 2) (agg := true) (vs := (encGLives x_79)) (by kernel_rfl) (by kernel_rfl) (.inl rfl) ((hm.ownRow (hh := 6) (o := (some b_44)) (T := 46) (enc := encGLives) (xs := [t_5, t_11, (⟨30, 50⟩ : GLives)]) (sp := []) (by kernel_rfl) (fun e => nomatch e) encGLives_len).at hx_47245)) ?_
                obtain ⟨t_80, ht_47246, h⟩ := bd h
                refine toD 7 (by kernel_rfl) (p_call 0 29 #[(.agg #[(.int .i16 t_3.fSteps), (.slice (o_13.map fun b => ⟨b, 0, none⟩) t_3.fHammers.length cap_14)]), (.agg #[(.slice (o_20.map fun b => ⟨b, 0, none⟩) t_4.fPins.length cap_21), (.slice (o_25.map fun b => ⟨b, 0, none⟩) t_4.fStrokes.length cap_26)]), (.agg #[(.int .i64 x_79.fPin), (.int .i64 x_79.fHammer)]), (.int .i64 t_6)] (by kernel_rfl) (by kernel_rfl) (fun w hm => impl_PartsFor.calls t_3 t_4 x_79 t_6 w _ (o_13.map fun b => ⟨b, 0, none⟩) t_3.fHammers.length cap_14 (hm.ownRow (hh := 0) (o := o_13) (T := 137) (enc := encGHammer) (xs := t_3.fHammers) (sp := sp_15) (by kernel_rfl) (fun e => (ho_17 e).1) encGHammer_len) rfl (o_20.map fun b => ⟨b, 0, none⟩) t_4.fPins.length cap_21 (hm.ownRow (hh := 2) (o := o_20) (T := 75) (enc := encGWornPin) (xs := t_4.fPins) (sp := sp_22) (by kernel_rfl) (fun e => (ho_24 e).1) encGWornPin_len) rfl (o_25.map fun b => ⟨b, 0, none⟩) t_4.fStrokes.length cap_26 (hm.ownRow (hh := 3) (o := o_25) (T := 2) (enc := encI64) (xs := t_4.fStrokes) (sp := sp_27) (by kernel_rfl) (fun e => (ho_29 e).1) encI64_len) rfl ht_47246) ?_)
                rintro w v w' hm ⟨rfl, hm'⟩
                refine ⟨_, hm.app hm', jkD (fun w h => h.pick [0, 1, 2, 3, 4, 5, 6] (by kernel_rfl) (by kernel_rfl)) ?_⟩
                clear hm hm'
                refine jd_f [⟨8, 0, 0⟩, ⟨9, 0, 0⟩, ⟨10, 0, 0⟩, ⟨11, 0, 0⟩, ⟨12, 0, 0⟩, ⟨13, 0, 0⟩, ⟨14, 0, 0⟩] 0 (by kernel_rfl) (by kernel_rfl) (fun w h => h.pick [0, 1, 2, 3, 4, 5, 6] (by kernel_rfl) (by kernel_rfl)) (by kernel_rfl) (by kernel_rfl) ?_
                refine jd_end (by kernel_rfl) ?_
                refine jx_then ?_
                refine jc_seq ?_
                refine jc_meet (fun (j : Bool) => match j with | q_81 => laws_FnParts.k_82 i_76 q_81 = some y_47242) (fun (j : Bool) => match j with | q_81 => [(4, [], (.bool false)), (5, [], (.pointer (some ⟨b_18, 0, none⟩))), (6, [], (.pointer (some ⟨b_30, 0, none⟩))), (7, [], (.pointer (some ⟨b_32, 0, none⟩))), (8, [], (.int .i64 t_6)), (11, [], (.int .i64 t_7.2.2)), (12, [], (.int .i64 t_8.1)), (13, [], (.int .i64 t_8.2.1)), (15, [], (.slice (some ⟨b_44, 0, none⟩) 3 3)), (18, [], (.int .i64 t_12.2.2)), (19, [], (.int .i64 t_13.1)), (20, [], (.int .i64 t_13.2.1)), (22, [], (.int .i64 i_76)), (186, [], (.bool q_81))]) (fun (j : Bool) => match j with | q_81 => [⟨o_13, 137, row encGHammer t_3.fHammers sp_15⟩, ⟨some b_18, 43, [(.int .i16 t_3.fSteps), (.slice (o_13.map fun b => ⟨b, 0, none⟩) t_3.fHammers.length cap_14)]⟩, ⟨o_20, 75, row encGWornPin t_4.fPins sp_22⟩, ⟨o_25, 2, row encI64 t_4.fStrokes sp_27⟩, ⟨some b_30, 38, [(.slice (o_20.map fun b => ⟨b, 0, none⟩) t_4.fPins.length cap_21), (.slice (o_25.map fun b => ⟨b, 0, none⟩) t_4.fStrokes.length cap_26)]⟩, ⟨some b_32, 46, [(.int .i64 t_5.fPin), (.int .i64 t_5.fHammer)]⟩, ⟨(some b_44), 46, row encGLives [t_5, t_11, (⟨30, 50⟩ : GLives)] []⟩]) ?_ ?_
                · refine jc_region ?_
                  refine jo_f [(0, 0), (0, 0), (0, 0), (0, 1), (0, 1)] (by kernel_rfl) ?_
                  refine jo_split 154 (t_80.2.2 == 0) (by kernel_rfl) (fun hc_47251 => ?_) (fun hc_47251 => ?_)
                  · replace h := ifT hc_47251 h
                    refine jo_f [(0, 2), (0, 1), (0, 1), (0, 1), (0, 1), (0, 1), (0, 1), (0, 1), (0, 1), (0, 1), (0, 1), (0, 2), (0, 2), (0, 1), (0, 1), (0, 1)] (by kernel_rfl) ?_
                    refine jo_split 169 ((t_12.2.2 != 0) || (decide ((w64 ((w64 ((w64 (2 * t_80.1)) + (w64 (3 * t_80.2.1)))) * (w64 (i_76 + 1)))) < t_13.2.1))) (by kernel_rfl) (fun hc_47252 => ?_) (fun hc_47252 => ?_)
                    · replace h := ifT hc_47252 h
                      refine jo_f [(0, 3), (0, 3), (0, 3), (0, 3), (0, 3), (0, 3), (0, 3), (0, 3), (0, 3), (0, 3), (0, 3), (0, 3), (0, 4), (0, 4)] (by kernel_rfl) ?_
                      refine jo_end (by kernel_rfl) ?_
                      exact jx_meet true h (by kernel_rfl) [0, 1, 2, 3, 4, 5, 6] (by kernel_rfl) (by kernel_rfl)
                    · replace h := ifF hc_47252 h
                      refine jo_f [(0, 2), (0, 1), (0, 1), (0, 1), (0, 1), (0, 1), (0, 1), (0, 1), (0, 1), (0, 1), (0, 1), (0, 2), (0, 5), (0, 4)] (by kernel_rfl) ?_
                      refine jo_end (by kernel_rfl) ?_
                      exact jx_meet ((i_76 == t_13.1) && ((w64 ((w64 ((w64 (2 * t_80.1)) + (w64 (3 * t_80.2.1)))) * (w64 (i_76 + 1)))) != t_13.2.1)) h (by kernel_rfl) [0, 1, 2, 3, 4, 5, 6] (by kernel_rfl) (by kernel_rfl)
                  · replace h := ifF hc_47251 h
                    refine jo_f [(0, 3), (0, 3), (0, 3), (0, 3), (0, 3), (0, 3), (0, 3), (0, 3), (0, 3), (0, 3), (0, 3), (0, 3), (0, 3), (0, 3), (0, 3), (0, 3), (0, 3), (0, 3), (0, 3), (0, 3), (0, 3), (0, 3), (0, 3), (0, 3), (0, 3), (0, 3), (0, 3), (0, 3), (0, 3), (0, 5)] (by kernel_rfl) ?_
                    refine jo_end (by kernel_rfl) ?_
                    exact jx_meet false h (by kernel_rfl) [0, 1, 2, 3, 4, 5, 6] (by kernel_rfl) (by kernel_rfl)
                · rintro q_81 h
                  replace h : laws_FnParts.k_82 i_76 q_81 = some y_47242 := h
                  rw [laws_FnParts.k_82] at h
                  refine jx_then ?_
                  refine jc_cond q_81 (by kernel_rfl) (fun hc_47249 => ?_) (fun hc_47249 => ?_)
                  · replace h := ifT hc_47249 h
                    refine jc_seq ?_
                    refine jc_region ?_
                    refine jo_f [(0, 0)] (by kernel_rfl) ?_
                    refine jo_end (by kernel_rfl) ?_
                    refine jx_then ?_
                    refine jc_ret ?_
                    refine jx_inr ?_
                    refine jx_thenr ?_
                    refine jx_leaver (.inl false) (Option.some.inj h).symm (fun e_47250 => ?_)
                    subst e_47250
                    refine jx_inr ?_
                    refine jx_thenr ?_
                    refine jx_thenr ?_
                    obtain rfl := Option.some.inj hr_47241
                    exact jx_ret [] (.bool false) [] rfl (by kernel_rfl) (by kernel_rfl) (fun w hm => ⟨rfl, hm.pick [] (by kernel_rfl) (by kernel_rfl)⟩)
                  · replace h := ifF hc_47249 h
                    refine jc_skip ?_
                    refine jx_inn ?_
                    refine jx_then ?_
                    refine jc_region ?_
                    refine jo_f [(0, 0), (0, 0), (0, 0)] (by kernel_rfl) ?_
                    refine jo_end (by kernel_rfl) ?_
                    exact jx_back (w64 (i_76 + 1)) () (Option.some.inj h).symm trivial [0, 1, 2, 3, 4, 5, 6] (by kernel_rfl) (by kernel_rfl) (by kernel_rfl)
              · replace h := ifF hc_47244 h
                refine jc_exit ?_
                refine jx_thenx ?_
                refine jx_leave (.inr ()) (Option.some.inj h).symm (fun e_47253 => ?_)
                subst e_47253
                refine jx_ine ?_
                exact jx_meet () hr_47241 (by kernel_rfl) [0, 1, 2, 3, 4, 5, 6] (by kernel_rfl) (by kernel_rfl)
            · rintro _ h
              replace h : laws_FnParts.k_14 t_3 t_4 t_5 t_6 t_7 t_8 = some r := h
              rw [laws_FnParts.k_14] at h
              refine jx_then ?_
              refine jc_seq ?_
              refine jc_seq ?_
              refine jc_region ?_
              refine jo_f [(0, 0), (0, 0)] (by kernel_rfl) ?_
              refine jo_end (by kernel_rfl) ?_
              refine jx_then ?_
              refine jc_cond (t_7.2.2 != 0) (by kernel_rfl) (fun hc_146 => ?_) (fun hc_146 => ?_)
              · replace h := ifT hc_146 h
                refine jc_seq ?_
                refine jc_region ?_
                refine jo_f [(0, 0)] (by kernel_rfl) ?_
                refine jo_end (by kernel_rfl) ?_
                refine jx_then ?_
                refine jc_ret ?_
                refine jx_thenr ?_
                obtain rfl := Option.some.inj h
                exact jx_ret [] (.bool true) [] rfl (by kernel_rfl) (by kernel_rfl) (fun w hm => ⟨rfl, hm.pick [] (by kernel_rfl) (by kernel_rfl)⟩)
              · replace h := ifF hc_146 h
                refine jc_skip ?_
                refine jx_then ?_
                refine jc_seq ?_
                refine jc_region ?_
                refine jo_f [(4, 0)] (by kernel_rfl) ?_
                refine toO (by kernel_rfl) (p_a 0 [0] (by kernel_rfl) (fun b => by kernel_rfl) (fun b_147 => jkO ?_))
                refine toO (by kernel_rfl) (p_s 0 [7] (by kernel_rfl) (by kernel_rfl) (jkO ?_))
                refine jo_end (by kernel_rfl) ?_
                refine jx_then ?_
                refine jc_seq ?_
                refine jc_region ?_
                refine jo_f [(0, 0)] (by kernel_rfl) ?_
                refine jo_end (by kernel_rfl) ?_
                refine jx_then ?_
                refine jc_seq ?_
                refine jc_region ?_
                refine jo_f [(0, 0)] (by kernel_rfl) ?_
                refine jo_end (by kernel_rfl) ?_
                refine jx_then ?_
                refine jc_seq ?_
                refine jc_seq ?_
                refine jc_region ?_
                refine jo_f [(0, 0)] (by kernel_rfl) ?_
                refine jo_end (by kernel_rfl) ?_
                refine jx_then ?_
                refine jc_meet (fun (j : (List GWornPin) × (List Int) × Int × Int × (Option Nat) × Nat × (List Value) × Nat × (Option Addr) × (Option Nat) × Nat × (List Value) × Nat × (Option Addr)) => match j with | ⟨xs_15, xs_17, i_19, i_20, o_35440, cap_35441, sp_35442, n_35443, a_16, o_35446, cap_35447, sp_35448, n_35449, a_18⟩ => laws_FnParts.k_21 t_3 t_5 t_8 xs_15 xs_17 i_19 i_20 = some r ∧ (xs_15.length = n_35443) ∧ (EiA o_35440 a_16 xs_15 (o_20.map fun b => ⟨b, 0, none⟩) t_4.fPins) ∧ (xs_17.length = n_35449) ∧ (EiA o_35446 a_18 xs_17 (o_25.map fun b => ⟨b, 0, none⟩) t_4.fStrokes)) (fun (j : (List GWornPin) × (List Int) × Int × Int × (Option Nat) × Nat × (List Value) × Nat × (Option Addr) × (Option Nat) × Nat × (List Value) × Nat × (Option Addr)) => match j with | ⟨xs_15, xs_17, i_19, i_20, o_35440, cap_35441, sp_35442, n_35443, a_16, o_35446, cap_35447, sp_35448, n_35449, a_18⟩ => [(4, [], (.bool false)), (5, [], (.pointer (some ⟨b_18, 0, none⟩))), (7, [], (.pointer (some ⟨b_32, 0, none⟩))), (12, [], (.int .i64 t_8.1)), (13, [], (.int .i64 t_8.2.1)), (26, [], (.pointer (some ⟨b_147, 0, none⟩))), (27, [], (.int .i64 i_19)), (28, [], (.int .i64 i_20))]) (fun (j : (List GWornPin) × (List Int) × Int × Int × (Option Nat) × Nat × (List Value) × Nat × (Option Addr) × (Option Nat) × Nat × (List Value) × Nat × (Option Addr)) => match j with | ⟨xs_15, xs_17, i_19, i_20, o_35440, cap_35441, sp_35442, n_35443, a_16, o_35446, cap_35447, sp_35448, n_35449, a_18⟩ => [⟨o_13, 137, row encGHammer t_3.fHammers sp_15⟩, ⟨some b_18, 43, [(.int .i16 t_3.fSteps), (.slice (o_13.map fun b => ⟨b, 0, none⟩) t_3.fHammers.length cap_14)]⟩, ⟨o_20, 75, row encGWornPin t_4.fPins sp_22⟩, ⟨o_25, 2, row encI64 t_4.fStrokes sp_27⟩, ⟨some b_30, 38, [(.slice (o_20.map fun b => ⟨b, 0, none⟩) t_4.fPins.length cap_21), (.slice (o_25.map fun b => ⟨b, 0, none⟩) t_4.fStrokes.length cap_26)]⟩, ⟨some b_32, 46, [(.int .i64 t_5.fPin), (.int .i64 t_5.fHammer)]⟩, ⟨(some b_44), 46, row encGLives [t_5, t_11, (⟨30, 50⟩ : GLives)] []⟩, ⟨some b_147, 38, [(.slice a_16 n_35443 cap_35441), (.slice a_18 n_35449 cap_35447)]⟩, ⟨o_35440, 75, row encGWornPin xs_15 sp_35442⟩, ⟨o_35446, 2, row encI64 xs_17 sp_35448⟩]) ?_ ?_
                · refine jc_block ?_
                  obtain ⟨t_31, ht_47222, hr_45263⟩ := bd h
                  refine jc_ghostX 75 encGWornPin t_4.fPins ?_
                  refine jc_ghostX 2 encI64 t_4.fStrokes ?_
                  refine jc_loop (fun (s : (List GWornPin) × (List Int) × Int × Int × Int) (x : (Option Nat) × Nat × (List Value) × Nat × (Option Addr) × (Option Nat) × Nat × (List Value) × Nat × (Option Addr)) => match s, x with | ⟨xs_23, xs_25, i_27, i_28, i_29⟩, ⟨o_45251, cap_45252, sp_45253, n_45254, a_24, o_45257, cap_45258, sp_45259, n_45260, a_26⟩ => (xs_23.length = n_45254) ∧ (EiA o_45251 a_24 xs_23 (o_20.map fun b => ⟨b, 0, none⟩) t_4.fPins) ∧ (xs_25.length = n_45260) ∧ (EiA o_45257 a_26 xs_25 (o_25.map fun b => ⟨b, 0, none⟩) t_4.fStrokes)) (fun (s : (List GWornPin) × (List Int) × Int × Int × Int) (x : (Option Nat) × Nat × (List Value) × Nat × (Option Addr) × (Option Nat) × Nat × (List Value) × Nat × (Option Addr)) => match s, x with | ⟨xs_23, xs_25, i_27, i_28, i_29⟩, ⟨o_45251, cap_45252, sp_45253, n_45254, a_24, o_45257, cap_45258, sp_45259, n_45260, a_26⟩ => [(4, [], (.bool false)), (5, [], (.pointer (some ⟨b_18, 0, none⟩))), (7, [], (.pointer (some ⟨b_32, 0, none⟩))), (8, [], (.int .i64 t_6)), (12, [], (.int .i64 t_8.1)), (13, [], (.int .i64 t_8.2.1)), (26, [], (.pointer (some ⟨b_147, 0, none⟩))), (27, [], (.int .i64 i_27)), (28, [], (.int .i64 i_28)), (29, [], (.int .i64 i_29))]) (fun (s : (List GWornPin) × (List Int) × Int × Int × Int) (x : (Option Nat) × Nat × (List Value) × Nat × (Option Addr) × (Option Nat) × Nat × (List Value) × Nat × (Option Addr)) => match s, x with | ⟨xs_23, xs_25, i_27, i_28, i_29⟩, ⟨o_45251, cap_45252, sp_45253, n_45254, a_24, o_45257, cap_45258, sp_45259, n_45260, a_26⟩ => [⟨o_13, 137, row encGHammer t_3.fHammers sp_15⟩, ⟨some b_18, 43, [(.int .i16 t_3.fSteps), (.slice (o_13.map fun b => ⟨b, 0, none⟩) t_3.fHammers.length cap_14)]⟩, ⟨o_20, 75, row encGWornPin t_4.fPins sp_22⟩, ⟨o_25, 2, row encI64 t_4.fStrokes sp_27⟩, ⟨some b_30, 38, [(.slice (o_20.map fun b => ⟨b, 0, none⟩) t_4.fPins.length cap_21), (.slice (o_25.map fun b => ⟨b, 0, none⟩) t_4.fStrokes.length cap_26)]⟩, ⟨some b_32, 46, [(.int .i64 t_5.fPin), (.int .i64 t_5.fHammer)]⟩, ⟨(some b_44), 46, row encGLives [t_5, t_11, (⟨30, 50⟩ : GLives)] []⟩, ⟨some b_147, 38, [(.slice a_24 n_45254 cap_45252), (.slice a_26 n_45260 cap_45258)]⟩, ⟨o_45251, 75, row encGWornPin xs_23 sp_45253⟩, ⟨o_45257, 2, row encI64 xs_25 sp_45259⟩]) ht_47222 ⟨(none : Option Nat), cap_21, ([] : List Value), t_4.fPins.length, (o_20.map fun b => ⟨b, 0, none⟩), (none : Option Nat), cap_26, ([] : List Value), t_4.fStrokes.length, (o_25.map fun b => ⟨b, 0, none⟩)⟩ ⟨rfl, (.inr ⟨rfl, rfl, rfl⟩), rfl, (.inr ⟨rfl, rfl, rfl⟩)⟩ (by kernel_rfl) [0, 1, 2, 3, 4, 5, 6, 7, 8, 9] (by kernel_rfl) (by kernel_rfl) ?_
                  rintro ⟨xs_23, xs_25, i_27, i_28, i_29⟩ ⟨o_45251, cap_45252, sp_45253, n_45254, a_24, o_45257, cap_45258, sp_45259, n_45260, a_26⟩ y_45264 ⟨hn_45256, he_45255, hn_45262, he_45261⟩ h
                  rw [laws_FnParts.l_30] at h
                  refine jc_seq ?_
                  refine jc_seq ?_
                  refine jc_region ?_
                  refine jo_f [(0, 0), (0, 0), (0, 0)] (by kernel_rfl) ?_
                  refine jo_end (by kernel_rfl) ?_
                  refine jx_then ?_
                  refine jc_cond (decide (i_29 < t_6)) (by kernel_rfl) (fun hc_45266 => ?_) (fun hc_45266 => ?_)
                  · replace h := ifT hc_45266 h
                    refine jc_skip ?_
                    refine jx_then ?_
                    refine jc_seq ?_
                    refine jc_block ?_
                    refine jc_seq ?_
                    refine jc_region ?_
                    refine jo_f [(1, 0), (7, 0)] (by kernel_rfl) ?_
                    obtain ⟨t_32, ht_45267, h⟩ := bd h
                    refine toO (by kernel_rfl) (p_call 0 33 #[(.agg #[(.int .i16 t_3.fSteps), (.slice (o_13.map fun b => ⟨b, 0, none⟩) t_3.fHammers.length cap_14)]), (.agg #[(.slice a_24 n_45254 cap_45252), (.slice a_26 n_45260 cap_45258)]), (.int .i64 1)] (by kernel_rfl) (by kernel_rfl) (fun w hm => spec_TurnWear.calls t_3 (⟨xs_23, xs_25⟩ : GWear) 1 w _ (o_13.map fun b => ⟨b, 0, none⟩) t_3.fHammers.length cap_14 (hm.ownRow (hh := 0) (o := o_13) (T := 137) (enc := encGHammer) (xs := t_3.fHammers) (sp := sp_15) (by kernel_rfl) (fun e => (ho_17 e).1) encGHammer_len) rfl a_24 n_45254 cap_45252 (hm.eiRowA (hh := 8) (o := o_45251) (T := 75) (enc := encGWornPin) (xs := xs_23) (sp := sp_45253) (by kernel_rfl) he_45255 (hm.ownRow (hh := 2) (o := o_20) (T := 75) (enc := encGWornPin) (xs := t_4.fPins) (sp := sp_22) (by kernel_rfl) (fun e => (ho_24 e).1) encGWornPin_len) encGWornPin_len) hn_45256 a_26 n_45260 cap_45258 (hm.eiRowA (hh := 9) (o := o_45257) (T := 2) (enc := encI64) (xs := xs_25) (sp := sp_45259) (by kernel_rfl) he_45261 (hm.ownRow (hh := 3) (o := o_25) (T := 2) (enc := encI64) (xs := t_4.fStrokes) (sp := sp_27) (by kernel_rfl) (fun e => (ho_29 e).1) encI64_len) encI64_len) hn_45262 ht_45267) ?_)
                    rintro w v w' hm ⟨o_45268, cap_45269, sp_45270, _, rfl, hs_45271, ho_45272, o_45273, cap_45274, sp_45275, _, rfl, hs_45276, ho_45277, rfl, hm'⟩
                    refine ⟨_, hm.app hm', jkO ?_⟩
                    clear hm hm'
                    refine jo_f [(0, 0), (0, 0), (0, 0)] (by kernel_rfl) ?_
                    refine toO (by kernel_rfl) (p_a 0 [0] (by kernel_rfl) (fun b => by kernel_rfl) (fun b_45278 => jkO ?_))
                    refine toO (by kernel_rfl) (p_s 0 [12] (by kernel_rfl) (by kernel_rfl) (jkO ?_))
                    refine jo_f [(0, 0)] (by kernel_rfl) ?_
                    refine jo_end (by kernel_rfl) ?_
                    refine jx_then ?_
                    refine jc_seq ?_
                    refine jc_region ?_
                    refine jo_f [(1, 0), (12, 0), (5, 0)] (by kernel_rfl) ?_
                    obtain ⟨t_33, ht_45279, h⟩ := bd h
                    refine toO (by kernel_rfl) (p_call 0 34 #[(.agg #[(.int .i16 t_3.fSteps), (.slice (o_13.map fun b => ⟨b, 0, none⟩) t_3.fHammers.length cap_14)]), (.agg #[(.slice (o_45268.map fun b => ⟨b, 0, none⟩) t_32.1.fPins.length cap_45269), (.slice (o_45273.map fun b => ⟨b, 0, none⟩) t_32.1.fStrokes.length cap_45274)]), (.agg #[(.int .i64 t_5.fPin), (.int .i64 t_5.fHammer)])] (by kernel_rfl) (by kernel_rfl) (fun w hm => spec_WornOut.calls t_3 t_32.1 t_5 w _ (o_13.map fun b => ⟨b, 0, none⟩) t_3.fHammers.length cap_14 (hm.ownRow (hh := 0) (o := o_13) (T := 137) (enc := encGHammer) (xs := t_3.fHammers) (sp := sp_15) (by kernel_rfl) (fun e => (ho_17 e).1) encGHammer_len) rfl (o_45268.map fun b => ⟨b, 0, none⟩) t_32.1.fPins.length cap_45269 (hm.ownRow (hh := 10) (o := o_45268) (T := 75) (enc := encGWornPin) (xs := t_32.1.fPins) (sp := sp_45270) (by kernel_rfl) (fun e => (ho_45272 e).1) encGWornPin_len) rfl (o_45273.map fun b => ⟨b, 0, none⟩) t_32.1.fStrokes.length cap_45274 (hm.ownRow (hh := 11) (o := o_45273) (T := 2) (enc := encI64) (xs := t_32.1.fStrokes) (sp := sp_45275) (by kernel_rfl) (fun e => (ho_45277 e).1) encI64_len) rfl ht_45279) ?_)
                    rintro w v w' hm ⟨o_45280, cap_45281, sp_45282, _, rfl, hs_45283, ho_45284, o_45285, cap_45286, sp_45287, _, rfl, hs_45288, ho_45289, rfl, hm'⟩
                    refine ⟨_, hm.app hm', jkO ?_⟩
                    clear hm hm'
                    refine jo_f [(0, 0), (0, 0), (0, 0), (0, 0), (0, 0), (0, 0), (0, 0)] (by kernel_rfl) ?_
                    refine jo_end (by kernel_rfl) ?_
                    refine jx_then ?_
                    refine jc_seq ?_
                    refine jc_seq ?_
                    refine jc_region ?_
                    refine jo_f [(0, 0), (0, 0), (0, 0), (0, 1), (0, 1), (0, 0)] (by kernel_rfl) ?_
                    refine jo_end (by kernel_rfl) ?_
                    refine jx_then ?_
                    refine jc_cond ((t_32.2 != 0) || (t_33.2.2 != 0)) (by kernel_rfl) (fun hc_45291 => ?_) (fun hc_45291 => ?_)
                    · replace h := ifT hc_45291 h
                      refine jc_seq ?_
                      refine jc_region ?_
                      refine jo_f [(0, 0)] (by kernel_rfl) ?_
                      refine jo_end (by kernel_rfl) ?_
                      refine jx_then ?_
                      refine jc_ret ?_
                      refine jx_thenr ?_
                      refine jx_inr ?_
                      refine jx_thenr ?_
                      refine jx_leaver (.inl false) (Option.some.inj h).symm (fun e_45292 => ?_)
                      subst e_45292
                      refine jx_inr ?_
                      refine jx_thenr ?_
                      refine jx_thenr ?_
                      obtain rfl := Option.some.inj hr_45263
                      exact jx_ret [] (.bool false) [] rfl (by kernel_rfl) (by kernel_rfl) (fun w hm => ⟨rfl, hm.pick [] (by kernel_rfl) (by kernel_rfl)⟩)
                    · replace h := ifF hc_45291 h
                      refine jc_skip ?_
                      refine jx_then ?_
                      refine jc_seq ?_
                      refine jc_seq ?_
                      refine jc_region ?_
                      refine jo_f [(0, 0)] (by kernel_rfl) ?_
                      refine jo_end (by kernel_rfl) ?_
                      refine jx_then ?_
                      refine jc_meet (fun (j : (List GWornPin) × (List Int) × Int × (Option Nat) × Nat × (List Value) × Nat × (Option Addr) × (Option Nat) × Nat × (List Value) × Nat × (Option Addr)) => match j with | ⟨xs_34, xs_36, i_38, o_46013, cap_46014, sp_46015, n_46016, a_35, o_46019, cap_46020, sp_46021, n_46022, a_37⟩ => laws_FnParts.k_39 t_3 i_28 i_29 t_33 xs_34 xs_36 i_38 = some y_45264 ∧ (xs_34.length = n_46016) ∧ (EiA o_46013 a_35 xs_34 (o_20.map fun b => ⟨b, 0, none⟩) t_4.fPins) ∧ (xs_36.length = n_46022) ∧ (EiA o_46019 a_37 xs_36 (o_25.map fun b => ⟨b, 0, none⟩) t_4.fStrokes)) (fun (j : (List GWornPin) × (List Int) × Int × (Option Nat) × Nat × (List Value) × Nat × (Option Addr) × (Option Nat) × Nat × (List Value) × Nat × (Option Addr)) => match j with | ⟨xs_34, xs_36, i_38, o_46013, cap_46014, sp_46015, n_46016, a_35, o_46019, cap_46020, sp_46021, n_46022, a_37⟩ => [(4, [], (.bool false)), (5, [], (.pointer (some ⟨b_18, 0, none⟩))), (7, [], (.pointer (some ⟨b_32, 0, none⟩))), (8, [], (.int .i64 t_6)), (12, [], (.int .i64 t_8.1)), (13, [], (.int .i64 t_8.2.1)), (26, [], (.pointer (some ⟨b_147, 0, none⟩))), (27, [], (.int .i64 i_38)), (28, [], (.int .i64 i_28)), (29, [], (.int .i64 i_29)), (33, [], (.slice (o_45285.map fun b => ⟨b, 0, none⟩) t_33.2.1.length cap_45286))]) (fun (j : (List GWornPin) × (List Int) × Int × (Option Nat) × Nat × (List Value) × Nat × (Option Addr) × (Option Nat) × Nat × (List Value) × Nat × (Option Addr)) => match j with | ⟨xs_34, xs_36, i_38, o_46013, cap_46014, sp_46015, n_46016, a_35, o_46019, cap_46020, sp_46021, n_46022, a_37⟩ => [⟨o_13, 137, row encGHammer t_3.fHammers sp_15⟩, ⟨some b_18, 43, [(.int .i16 t_3.fSteps), (.slice (o_13.map fun b => ⟨b, 0, none⟩) t_3.fHammers.length cap_14)]⟩, ⟨o_20, 75, row encGWornPin t_4.fPins sp_22⟩, ⟨o_25, 2, row encI64 t_4.fStrokes sp_27⟩, ⟨some b_30, 38, [(.slice (o_20.map fun b => ⟨b, 0, none⟩) t_4.fPins.length cap_21), (.slice (o_25.map fun b => ⟨b, 0, none⟩) t_4.fStrokes.length cap_26)]⟩, ⟨some b_32, 46, [(.int .i64 t_5.fPin), (.int .i64 t_5.fHammer)]⟩, ⟨(some b_44), 46, row encGLives [t_5, t_11, (⟨30, 50⟩ : GLives)] []⟩, ⟨some b_147, 38, [(.slice a_35 n_46016 cap_46014), (.slice a_37 n_46022 cap_46020)]⟩, ⟨none, 0, []⟩, ⟨none, 0, []⟩, ⟨o_45268, 75, row encGWornPin t_32.1.fPins sp_45270⟩, ⟨o_45273, 2, row encI64 t_32.1.fStrokes sp_45275⟩, ⟨some b_45278, 38, [(.slice (o_45268.map fun b => ⟨b, 0, none⟩) t_32.1.fPins.length cap_45269), (.slice (o_45273.map fun b => ⟨b, 0, none⟩) t_32.1.fStrokes.length cap_45274)]⟩, ⟨o_45280, 75, row encGWornPin t_33.1 sp_45282⟩, ⟨o_45285, 2, row encI64 t_33.2.1 sp_45287⟩, ⟨o_46013, 75, row encGWornPin xs_34 sp_46015⟩, ⟨o_46019, 2, row encI64 xs_36 sp_46021⟩]) ?_ ?_
                      · refine jc_block ?_
                        obtain ⟨t_68, ht_47220, hr_47146⟩ := bd h
                        refine jc_ghost 0 (fun (_ : Unit) => ([] : List Value)) ?_
                        refine jc_ghost 0 (fun (_ : Unit) => ([] : List Value)) ?_
                        refine jc_loop (fun (s : (List GWornPin) × (List Int) × Int × Int) (x : (Option Nat) × Nat × (List Value) × Nat × (Option Addr) × (Option Nat) × Nat × (List Value) × Nat × (Option Addr)) => match s, x with | ⟨xs_61, xs_63, i_65, i_66⟩, ⟨o_47134, cap_47135, sp_47136, n_47137, a_62, o_47140, cap_47141, sp_47142, n_47143, a_64⟩ => (xs_61.length = n_47137) ∧ (EiA o_47134 a_62 xs_61 (o_20.map fun b => ⟨b, 0, none⟩) t_4.fPins) ∧ (xs_63.length = n_47143) ∧ (EiA o_47140 a_64 xs_63 (o_25.map fun b => ⟨b, 0, none⟩) t_4.fStrokes)) (fun (s : (List GWornPin) × (List Int) × Int × Int) (x : (Option Nat) × Nat × (List Value) × Nat × (Option Addr) × (Option Nat) × Nat × (List Value) × Nat × (Option Addr)) => match s, x with | ⟨xs_61, xs_63, i_65, i_66⟩, ⟨o_47134, cap_47135, sp_47136, n_47137, a_62, o_47140, cap_47141, sp_47142, n_47143, a_64⟩ => [(4, [], (.bool false)), (5, [], (.pointer (some ⟨b_18, 0, none⟩))), (7, [], (.pointer (some ⟨b_32, 0, none⟩))), (8, [], (.int .i64 t_6)), (12, [], (.int .i64 t_8.1)), (13, [], (.int .i64 t_8.2.1)), (26, [], (.pointer (some ⟨b_147, 0, none⟩))), (27, [], (.int .i64 i_65)), (28, [], (.int .i64 i_28)), (29, [], (.int .i64 i_29)), (32, [], (.slice (o_45280.map fun b => ⟨b, 0, none⟩) t_33.1.length cap_45281)), (33, [], (.slice (o_45285.map fun b => ⟨b, 0, none⟩) t_33.2.1.length cap_45286)), (35, [], (.int .i64 i_66))]) (fun (s : (List GWornPin) × (List Int) × Int × Int) (x : (Option Nat) × Nat × (List Value) × Nat × (Option Addr) × (Option Nat) × Nat × (List Value) × Nat × (Option Addr)) => match s, x with | ⟨xs_61, xs_63, i_65, i_66⟩, ⟨o_47134, cap_47135, sp_47136, n_47137, a_62, o_47140, cap_47141, sp_47142, n_47143, a_64⟩ => [⟨o_13, 137, row encGHammer t_3.fHammers sp_15⟩, ⟨some b_18, 43, [(.int .i16 t_3.fSteps), (.slice (o_13.map fun b => ⟨b, 0, none⟩) t_3.fHammers.length cap_14)]⟩, ⟨o_20, 75, row encGWornPin t_4.fPins sp_22⟩, ⟨o_25, 2, row encI64 t_4.fStrokes sp_27⟩, ⟨some b_30, 38, [(.slice (o_20.map fun b => ⟨b, 0, none⟩) t_4.fPins.length cap_21), (.slice (o_25.map fun b => ⟨b, 0, none⟩) t_4.fStrokes.length cap_26)]⟩, ⟨some b_32, 46, [(.int .i64 t_5.fPin), (.int .i64 t_5.fHammer)]⟩, ⟨(some b_44), 46, row encGLives [t_5, t_11, (⟨30, 50⟩ : GLives)] []⟩, ⟨some b_147, 38, [(.slice a_62 n_47137 cap_47135), (.slice a_64 n_47143 cap_47141)]⟩, ⟨none, 0, []⟩, ⟨none, 0, []⟩, ⟨o_45268, 75, row encGWornPin t_32.1.fPins sp_45270⟩, ⟨o_45273, 2, row encI64 t_32.1.fStrokes sp_45275⟩, ⟨some b_45278, 38, [(.slice (o_45268.map fun b => ⟨b, 0, none⟩) t_32.1.fPins.length cap_45269), (.slice (o_45273.map fun b => ⟨b, 0, none⟩) t_32.1.fStrokes.length cap_45274)]⟩, ⟨o_45280, 75, row encGWornPin t_33.1 sp_45282⟩, ⟨o_45285, 2, row encI64 t_33.2.1 sp_45287⟩, ⟨o_47134, 75, row encGWornPin xs_61 sp_47136⟩, ⟨o_47140, 2, row encI64 xs_63 sp_47142⟩]) ht_47220 ⟨o_45251, cap_45252, sp_45253, n_45254, a_24, o_45257, cap_45258, sp_45259, n_45260, a_26⟩ ⟨hn_45256, he_45255, hn_45262, he_45261⟩ (by kernel_rfl) [0, 1, 2, 3, 4, 5, 6, 7, 15, 16, 10, 11, 12, 13, 14, 8, 9] (by kernel_rfl) (by kernel_rfl) ?_
                        rintro ⟨xs_61, xs_63, i_65, i_66⟩ ⟨o_47134, cap_47135, sp_47136, n_47137, a_62, o_47140, cap_47141, sp_47142, n_47143, a_64⟩ y_47147 ⟨hn_47139, he_47138, hn_47145, he_47144⟩ h
                        rw [laws_FnParts.l_67] at h
                        refine jc_seq ?_
                        refine jc_seq ?_
                        refine jc_region ?_
                        refine jo_f [(0, 0), (0, 0), (0, 0), (0, 0)] (by kernel_rfl) ?_
                        refine jo_end (by kernel_rfl) ?_
                        refine jx_then ?_
                        refine jc_cond (decide (i_66 < (t_33.1.length : Int))) (by kernel_rfl) (fun hc_47149 => ?_) (fun hc_47149 => ?_)
                        · replace h := ifT hc_47149 h
                          refine jc_skip ?_
                          refine jx_then ?_
                          refine jc_seq ?_
                          refine jc_block ?_
                          refine jc_seq ?_
                          refine jc_meet (fun (j : (List GWornPin) × (List Int) × Int × Nat × (Option Nat) × Nat × (List Value) × Nat × (Option Nat) × Nat × (List Value) × Nat) => match j with | ⟨xs_69, xs_70, i_71, b_47176, o_47177, cap_47178, sp_47179, n_47180, o_47183, cap_47184, sp_47185, n_47186⟩ => laws_FnParts.k_72 i_65 i_66 xs_69 xs_70 i_71 = some y_47147 ∧ (xs_69.length = n_47180) ∧ ((o_47177 ≠ none → n_47180 ≤ cap_47178 ∧ sp_47179.length = (cap_47178 - n_47180) * 3)) ∧ ((o_47177 = none → xs_69 = [] ∧ cap_47178 = 0)) ∧ (xs_70.length = n_47186) ∧ ((o_47183 ≠ none → n_47186 ≤ cap_47184 ∧ sp_47185.length = (cap_47184 - n_47186) * 1)) ∧ ((o_47183 = none → xs_70 = [] ∧ cap_47184 = 0))) (fun (j : (List GWornPin) × (List Int) × Int × Nat × (Option Nat) × Nat × (List Value) × Nat × (Option Nat) × Nat × (List Value) × Nat) => match j with | ⟨xs_69, xs_70, i_71, b_47176, o_47177, cap_47178, sp_47179, n_47180, o_47183, cap_47184, sp_47185, n_47186⟩ => [(4, [], (.bool false)), (5, [], (.pointer (some ⟨b_18, 0, none⟩))), (7, [], (.pointer (some ⟨b_32, 0, none⟩))), (8, [], (.int .i64 t_6)), (12, [], (.int .i64 t_8.1)), (13, [], (.int .i64 t_8.2.1)), (26, [], (.pointer (some ⟨b_147, 0, none⟩))), (27, [], (.int .i64 i_65)), (28, [], (.int .i64 i_28)), (29, [], (.int .i64 i_29)), (32, [], (.slice (o_45280.map fun b => ⟨b, 0, none⟩) t_33.1.length cap_45281)), (33, [], (.slice (o_45285.map fun b => ⟨b, 0, none⟩) t_33.2.1.length cap_45286)), (35, [], (.int .i64 i_66)), (36, [], (.pointer (some ⟨b_47176, 0, none⟩))), (37, [], (.int .i64 i_71))]) (fun (j : (List GWornPin) × (List Int) × Int × Nat × (Option Nat) × Nat × (List Value) × Nat × (Option Nat) × Nat × (List Value) × Nat) => match j with | ⟨xs_69, xs_70, i_71, b_47176, o_47177, cap_47178, sp_47179, n_47180, o_47183, cap_47184, sp_47185, n_47186⟩ => [⟨o_13, 137, row encGHammer t_3.fHammers sp_15⟩, ⟨some b_18, 43, [(.int .i16 t_3.fSteps), (.slice (o_13.map fun b => ⟨b, 0, none⟩) t_3.fHammers.length cap_14)]⟩, ⟨o_20, 75, row encGWornPin t_4.fPins sp_22⟩, ⟨o_25, 2, row encI64 t_4.fStrokes sp_27⟩, ⟨some b_30, 38, [(.slice (o_20.map fun b => ⟨b, 0, none⟩) t_4.fPins.length cap_21), (.slice (o_25.map fun b => ⟨b, 0, none⟩) t_4.fStrokes.length cap_26)]⟩, ⟨some b_32, 46, [(.int .i64 t_5.fPin), (.int .i64 t_5.fHammer)]⟩, ⟨(some b_44), 46, row encGLives [t_5, t_11, (⟨30, 50⟩ : GLives)] []⟩, ⟨some b_147, 38, [(.slice a_62 n_47137 cap_47135), (.slice a_64 n_47143 cap_47141)]⟩, ⟨none, 0, []⟩, ⟨none, 0, []⟩, ⟨o_45268, 75, row encGWornPin t_32.1.fPins sp_45270⟩, ⟨o_45273, 2, row encI64 t_32.1.fStrokes sp_45275⟩, ⟨some b_45278, 38, [(.slice (o_45268.map fun b => ⟨b, 0, none⟩) t_32.1.fPins.length cap_45269), (.slice (o_45273.map fun b => ⟨b, 0, none⟩) t_32.1.fStrokes.length cap_45274)]⟩, ⟨o_45280, 75, row encGWornPin t_33.1 sp_45282⟩, ⟨o_45285, 2, row encI64 t_33.2.1 sp_45287⟩, ⟨o_47134, 75, row encGWornPin xs_61 sp_47136⟩, ⟨o_47140, 2, row encI64 xs_63 sp_47142⟩, ⟨some b_47176, 38, [(.slice (o_47177.map fun b => ⟨b, 0, none⟩) n_47180 cap_47178), (.slice (o_47183.map fun b => ⟨b, 0, none⟩) n_47186 cap_47184)]⟩, ⟨o_47177, 75, row encGWornPin xs_69 sp_47179⟩, ⟨o_47183, 2, row encI64 xs_70 sp_47185⟩]) ?_ ?_
                          · refine jc_draw [⟨o_13, 137, row encGHammer t_3.fHammers sp_15⟩, ⟨some b_18, 43, [(.int .i16 t_3.fSteps), (.slice (o_13.map fun b => ⟨b, 0, none⟩) t_3.fHammers.length cap_14)]⟩, ⟨o_20, 75, row encGWornPin t_4.fPins sp_22⟩, ⟨o_25, 2, row encI64 t_4.fStrokes sp_27⟩, ⟨some b_30, 38, [(.slice (o_20.map fun b => ⟨b, 0, none⟩) t_4.fPins.length cap_21), (.slice (o_25.map fun b => ⟨b, 0, none⟩) t_4.fStrokes.length cap_26)]⟩, ⟨some b_32, 46, [(.int .i64 t_5.fPin), (.int .i64 t_5.fHammer)]⟩, ⟨(some b_44), 46, row encGLives [t_5, t_11, (⟨30, 50⟩ : GLives)] []⟩, ⟨some b_147, 38, [(.slice a_62 n_47137 cap_47135), (.slice a_64 n_47143 cap_47141)]⟩, ⟨none, 0, []⟩, ⟨none, 0, []⟩, ⟨o_45268, 75, row encGWornPin t_32.1.fPins sp_45270⟩, ⟨o_45273, 2, row encI64 t_32.1.fStrokes sp_45275⟩, ⟨some b_45278, 38, [(.slice (o_45268.map fun b => ⟨b, 0, none⟩) t_32.1.fPins.length cap_45269), (.slice (o_45273.map fun b => ⟨b, 0, none⟩) t_32.1.fStrokes.length cap_45274)]⟩, ⟨o_45280, 75, row encGWornPin t_33.1 sp_45282⟩, ⟨o_45285, 2, row encI64 t_33.2.1 sp_45287⟩, ⟨o_47134, 75, row encGWornPin xs_61 sp_47136⟩, ⟨o_47140, 2, row encI64 xs_63 sp_47142⟩] 21 (by kernel_rfl) (by kernel_rfl) ?_
                            refine jd_f [⟨0, 1, 0⟩, ⟨1, 7, 0⟩, ⟨2, 0, 0⟩, ⟨3, 0, 0⟩, ⟨8, 0, 0⟩, ⟨9, 0, 0⟩] 15 (by kernel_rfl) (by kernel_rfl) (fun w h => h.pick [0, 1, 2, 3, 4, 5, 6, 7, 8, 9, 10, 11, 12, 13, 14, 15, 16] (by kernel_rfl) (by kernel_rfl)) (by kernel_rfl) (by kernel_rfl) ?_
                            obtain ⟨x_73, hx_47193, h⟩ := bd h
                            refine jd_v 4 0 (by kernel_rfl) (fun w h => h.pick [0, 1, 2, 3, 4, 5, 6, 7, 8, 9, 10, 11, 12, 13, 14, 15, 16] (by kernel_rfl) (by kernel_rfl)) (by kernel_rfl) (by kernel_rfl) _ (fun w hm => idx_run (a := (o_45280.map fun b => ⟨b, 0, none⟩)) (len := t_33.1.length) (s := 3) (j := i_66) (by kernel_rfl) (ix_some hx_47193).1 (ltn hx_47193 rfl) (spo ho_45284 hx_47193)) ?_
                            refine jd_f [⟨5, 0, 0⟩] 13 (by kernel_rfl) (by kernel_rfl) (fun w h => h.pick [0, 1, 2, 3, 4, 5, 6, 7, 8, 9, 10, 11, 12, 13, 14, 15, 16] (by kernel_rfl) (by kernel_rfl)) (by kernel_rfl) (by kernel_rfl) ?_
                            refine jd_v 6 0 (by kernel_rfl) (fun w h => h.pick [0, 1, 2, 3, 4, 5, 6, 7, 8, 9, 10, 11, 12, 13, 14, 15, 16] (by kernel_rfl) (by kernel_rfl)) (by kernel_rfl) (by kernel_rfl) _ (fun w hm => ld_run (b := aB (o_45280.map fun b => ⟨b, 0, none⟩)) (off := (aO (o_45280.map fun b => ⟨b, 0, none⟩) + i_66.toNat * 3)) (s := 1) (agg := false) (vs := (((encGWornPin x_73).drop 0).take 1)) (by kernel_rfl) (by kernel_rfl) (.inr rfl) (((hm.ownRow (hh := 13) (o := o_45280) (T := 75) (enc := encGWornPin) (xs := t_33.1) (sp := sp_45282) (by kernel_rfl) (fun e => (ho_45284 e).1) encGWornPin_len).at hx_47193).sub 0 1)) ?_
                            refine jd_f [⟨7, 0, 0⟩] 11 (by kernel_rfl) (by kernel_rfl) (fun w h => h.pick [0, 1, 2, 3, 4, 5, 6, 7, 8, 9, 10, 11, 12, 13, 14, 15, 16] (by kernel_rfl) (by kernel_rfl)) (by kernel_rfl) (by kernel_rfl) ?_
                            obtain ⟨x_74, hx_47194, h⟩ := bd h
                            refine jd_v 10 0 (by kernel_rfl) (fun w h => h.pick [0, 1, 2, 3, 4, 5, 6, 7, 8, 9, 10, 11, 12, 13, 14, 15, 16] (by kernel_rfl) (by kernel_rfl)) (by kernel_rfl) (by kernel_rfl) _ (fun w hm => idx_run (a := (o_45280.map fun b => ⟨b, 0, none⟩)) (len := t_33.1.length) (s := 3) (j := i_66) (by kernel_rfl) (ix_some hx_47194).1 (ltn hx_47194 rfl) (spo ho_45284 hx_47194)) ?_
                            refine jd_f [⟨11, 0, 0⟩] 9 (by kernel_rfl) (by kernel_rfl) (fun w h => h.pick [0, 1, 2, 3, 4, 5, 6, 7, 8, 9, 10, 11, 12, 13, 14, 15, 16] (by kernel_rfl) (by kernel_rfl)) (by kernel_rfl) (by kernel_rfl) ?_
                            refine jd_v 12 0 (by kernel_rfl) (fun w h => h.pick [0, 1, 2, 3, 4, 5, 6, 7, 8, 9, 10, 11, 12, 13, 14, 15, 16] (by kernel_rfl) (by kernel_rfl)) (by kernel_rfl) (by kernel_rfl) _ (fun w hm => ld_run (b := aB (o_45280.map fun b => ⟨b, 0, none⟩)) (off := (aO (o_45280.map fun b => ⟨b, 0, none⟩) + i_66.toNat * 3 + 1)) (s := 1) (agg := false) (vs := (((encGWornPin x_74).drop 1).take 1)) (by kernel_rfl) (by kernel_rfl) (.inr rfl) (((hm.ownRow (hh := 13) (o := o_45280) (T := 75) (enc := encGWornPin) (xs := t_33.1) (sp := sp_45282) (by kernel_rfl) (fun e => (ho_45284 e).1) encGWornPin_len).at hx_47194).sub 1 1)) ?_
                            refine jd_f [⟨13, 0, 0⟩] 7 (by kernel_rfl) (by kernel_rfl) (fun w h => h.pick [0, 1, 2, 3, 4, 5, 6, 7, 8, 9, 10, 11, 12, 13, 14, 15, 16] (by kernel_rfl) (by kernel_rfl)) (by kernel_rfl) (by kernel_rfl) ?_
                            refine toD2 14 18 (by kernel_rfl) ?_ ?_
                            · obtain ⟨t_75, ht_47195, h⟩ := bd h
                              refine p_call 0 35 #[(.agg #[(.int .i16 t_3.fSteps), (.slice (o_13.map fun b => ⟨b, 0, none⟩) t_3.fHammers.length cap_14)]), (.agg #[(.slice a_62 n_47137 cap_47135), (.slice a_64 n_47143 cap_47141)]), (.int .i64 (w64 x_73.fStep)), (.int .i64 (w64 x_74.fTrack))] (by kernel_rfl) (by kernel_rfl) (fun w hm => impl_NewPin.calls t_3 (⟨xs_61, xs_63⟩ : GWear) (w64 x_73.fStep) (w64 x_74.fTrack) w _ (o_13.map fun b => ⟨b, 0, none⟩) t_3.fHammers.length cap_14 (hm.ownRow (hh := 0) (o := o_13) (T := 137) (enc := encGHammer) (xs := t_3.fHammers) (sp := sp_15) (by kernel_rfl) (fun e => (ho_17 e).1) encGHammer_len) rfl a_62 n_47137 cap_47135 (hm.eiRowA (hh := 15) (o := o_47134) (T := 75) (enc := encGWornPin) (xs := xs_61) (sp := sp_47136) (by kernel_rfl) he_47138 (hm.ownRow (hh := 2) (o := o_20) (T := 75) (enc := encGWornPin) (xs := t_4.fPins) (sp := sp_22) (by kernel_rfl) (fun e => (ho_24 e).1) encGWornPin_len) encGWornPin_len) hn_47139 a_64 n_47143 cap_47141 (hm.eiRowA (hh := 16) (o := o_47140) (T := 2) (enc := encI64) (xs := xs_63) (sp := sp_47142) (by kernel_rfl) he_47144 (hm.ownRow (hh := 3) (o := o_25) (T := 2) (enc := encI64) (xs := t_4.fStrokes) (sp := sp_27) (by kernel_rfl) (fun e => (ho_29 e).1) encI64_len) encI64_len) hn_47145 ht_47195) ?_
                              rintro w v w' hm ⟨o_47196, cap_47197, sp_47198, _, rfl, hs_47199, ho_47200, o_47201, cap_47202, sp_47203, _, rfl, hs_47204, ho_47205, rfl, hm'⟩
                              refine ⟨_, hm.app hm', jkD (fun w h => h.pick [0, 1, 2, 3, 4, 5, 6, 7, 8, 9, 10, 11, 12, 13, 14, 15, 16] (by kernel_rfl) (by kernel_rfl)) ?_⟩
                              clear hm hm'
                              refine jd_f [⟨15, 0, 0⟩, ⟨16, 0, 0⟩, ⟨17, 0, 0⟩] 3 (by kernel_rfl) (by kernel_rfl) (fun w h => h.pick [0, 1, 2, 3, 4, 5, 6, 7, 8, 9, 10, 11, 12, 13, 14, 15, 16] (by kernel_rfl) (by kernel_rfl)) (by kernel_rfl) (by kernel_rfl) ?_
                              refine toD 18 (by kernel_rfl) (p_a 0 [0] (by kernel_rfl) (fun b => by kernel_rfl) (fun b_47206 => jkD (fun w h => h.pick [0, 1, 2, 3, 4, 5, 6, 7, 8, 9, 10, 11, 12, 13, 14, 15, 16] (by kernel_rfl) (by kernel_rfl)) ?_))
                              refine toD 19 (by kernel_rfl) (p_s 0 [19] (by kernel_rfl) (by kernel_rfl) (jkD (fun w h => h.pick [0, 1, 2, 3, 4, 5, 6, 7, 8, 9, 10, 11, 12, 13, 14, 15, 16] (by kernel_rfl) (by kernel_rfl)) ?_))
                              refine jd_f [⟨20, 0, 0⟩] 0 (by kernel_rfl) (by kernel_rfl) (fun w h => h.pick [0, 1, 2, 3, 4, 5, 6, 7, 8, 9, 10, 11, 12, 13, 14, 15, 16] (by kernel_rfl) (by kernel_rfl)) (by kernel_rfl) (by kernel_rfl) ?_
                              refine jd_end (by kernel_rfl) ?_
                              exact jx_meet ⟨t_75.1.fPins, t_75.1.fStrokes, t_75.2, b_47206, o_47196, cap_47197, sp_47198, t_75.1.fPins.length, o_47201, cap_47202, sp_47203, t_75.1.fStrokes.length⟩ ⟨h, rfl, hs_47199, ho_47200, rfl, hs_47204, ho_47205⟩ (by kernel_rfl) [0, 1, 2, 3, 4, 5, 6, 7, 8, 9, 10, 11, 12, 13, 14, 15, 16, 19, 17, 18] (by kernel_rfl) (by kernel_rfl)
                            · refine p_a 0 [0] (by kernel_rfl) (fun b => by kernel_rfl) (fun b_47207 => jkD (fun w h => h.pick [0, 1, 2, 3, 4, 5, 6, 7, 8, 9, 10, 11, 12, 13, 14, 15, 16] (by kernel_rfl) (by kernel_rfl)) ?_)
                              obtain ⟨t_75, ht_47208, h⟩ := bd h
                              refine toD 14 (by kernel_rfl) (p_call 0 35 #[(.agg #[(.int .i16 t_3.fSteps), (.slice (o_13.map fun b => ⟨b, 0, none⟩) t_3.fHammers.length cap_14)]), (.agg #[(.slice a_62 n_47137 cap_47135), (.slice a_64 n_47143 cap_47141)]), (.int .i64 (w64 x_73.fStep)), (.int .i64 (w64 x_74.fTrack))] (by kernel_rfl) (by kernel_rfl) (fun w hm => impl_NewPin.calls t_3 (⟨xs_61, xs_63⟩ : GWear) (w64 x_73.fStep) (w64 x_74.fTrack) w _ (o_13.map fun b => ⟨b, 0, none⟩) t_3.fHammers.length cap_14 (hm.ownRow (hh := 0) (o := o_13) (T := 137) (enc := encGHammer) (xs := t_3.fHammers) (sp := sp_15) (by kernel_rfl) (fun e => (ho_17 e).1) encGHammer_len) rfl a_62 n_47137 cap_47135 (hm.eiRowA (hh := 15) (o := o_47134) (T := 75) (enc := encGWornPin) (xs := xs_61) (sp := sp_47136) (by kernel_rfl) he_47138 (hm.ownRow (hh := 2) (o := o_20) (T := 75) (enc := encGWornPin) (xs := t_4.fPins) (sp := sp_22) (by kernel_rfl) (fun e => (ho_24 e).1) encGWornPin_len) encGWornPin_len) hn_47139 a_64 n_47143 cap_47141 (hm.eiRowA (hh := 16) (o := o_47140) (T := 2) (enc := encI64) (xs := xs_63) (sp := sp_47142) (by kernel_rfl) he_47144 (hm.ownRow (hh := 3) (o := o_25) (T := 2) (enc := encI64) (xs := t_4.fStrokes) (sp := sp_27) (by kernel_rfl) (fun e => (ho_29 e).1) encI64_len) encI64_len) hn_47145 ht_47208) ?_)
                              rintro w v w' hm ⟨o_47209, cap_47210, sp_47211, _, rfl, hs_47212, ho_47213, o_47214, cap_47215, sp_47216, _, rfl, hs_47217, ho_47218, rfl, hm'⟩
                              refine ⟨_, hm.app hm', jkD (fun w h => h.pick [0, 1, 2, 3, 4, 5, 6, 7, 8, 9, 10, 11, 12, 13, 14, 15, 16] (by kernel_rfl) (by kernel_rfl)) ?_⟩
                              clear hm hm'
                              refine jd_f [⟨15, 0, 0⟩, ⟨16, 0, 0⟩, ⟨17, 0, 0⟩] 2 (by kernel_rfl) (by kernel_rfl) (fun w h => h.pick [0, 1, 2, 3, 4, 5, 6, 7, 8, 9, 10, 11, 12, 13, 14, 15, 16] (by kernel_rfl) (by kernel_rfl)) (by kernel_rfl) (by kernel_rfl) ?_
                              refine toD 19 (by kernel_rfl) (p_s 0 [17] (by kernel_rfl) (by kernel_rfl) (jkD (fun w h => h.pick [0, 1, 2, 3, 4, 5, 6, 7, 8, 9, 10, 11, 12, 13, 14, 15, 16] (by kernel_rfl) (by kernel_rfl)) ?_))
                              refine jd_f [⟨20, 0, 0⟩] 0 (by kernel_rfl) (by kernel_rfl) (fun w h => h.pick [0, 1, 2, 3, 4, 5, 6, 7, 8, 9, 10, 11, 12, 13, 14, 15, 16] (by kernel_rfl) (by kernel_rfl)) (by kernel_rfl) (by kernel_rfl) ?_
                              refine jd_end (by kernel_rfl) ?_
                              exact jx_meet ⟨t_75.1.fPins, t_75.1.fStrokes, t_75.2, b_47207, o_47209, cap_47210, sp_47211, t_75.1.fPins.length, o_47214, cap_47215, sp_47216, t_75.1.fStrokes.length⟩ ⟨h, rfl, hs_47212, ho_47213, rfl, hs_47217, ho_47218⟩ (by kernel_rfl) [0, 1, 2, 3, 4, 5, 6, 7, 8, 9, 10, 11, 12, 13, 14, 15, 16, 17, 18, 19] (by kernel_rfl) (by kernel_rfl)
                          · rintro ⟨xs_69, xs_70, i_71, b_47176, o_47177, cap_47178, sp_47179, n_47180, o_47183, cap_47184, sp_47185, n_47186⟩ ⟨h, rfl, hs_47181, ho_47182, rfl, hs_47187, ho_47188⟩
                            replace h : laws_FnParts.k_72 i_65 i_66 xs_69 xs_70 i_71 = some y_47147 := h
                            rw [laws_FnParts.k_72] at h
                            refine jx_then ?_
                            refine jc_seq ?_
                            refine jc_seq ?_
                            refine jc_region ?_
                            refine jo_f [(0, 0), (0, 0)] (by kernel_rfl) ?_
                            refine jo_end (by kernel_rfl) ?_
                            refine jx_then ?_
                            refine jc_cond (i_71 != 0) (by kernel_rfl) (fun hc_47190 => ?_) (fun hc_47190 => ?_)
                            · replace h := ifT hc_47190 h
                              refine jc_seq ?_
                              refine jc_region ?_
                              refine jo_f [(0, 0)] (by kernel_rfl) ?_
                              refine jo_end (by kernel_rfl) ?_
                              refine jx_then ?_
                              refine jc_ret ?_
                              refine jx_thenr ?_
                              refine jx_inr ?_
                              refine jx_thenr ?_
                              refine jx_leaver (.inl false) (Option.some.inj h).symm (fun e_47192 => ?_)
                              subst e_47192
                              refine jx_inr ?_
                              refine jx_thenr ?_
                              refine jx_thenr ?_
                              refine jx_inr ?_
                              refine jx_thenr ?_
                              refine jx_leaver (.inl false) (Option.some.inj hr_47146).symm (fun e_47191 => ?_)
                              subst e_47191
                              refine jx_inr ?_
                              refine jx_thenr ?_
                              refine jx_thenr ?_
                              obtain rfl := Option.some.inj hr_45263
                              exact jx_ret [] (.bool false) [] rfl (by kernel_rfl) (by kernel_rfl) (fun w hm => ⟨rfl, hm.pick [] (by kernel_rfl) (by kernel_rfl)⟩)
                            · replace h := ifF hc_47190 h
                              refine jc_skip ?_
                              refine jx_then ?_
                              refine jc_seq ?_
                              refine jc_region ?_
                              refine jo_f [(17, 0)] (by kernel_rfl) ?_
                              refine toO (by kernel_rfl) (p_s 0 [7] (by kernel_rfl) (by kernel_rfl) (jkO ?_))
                              refine jo_end (by kernel_rfl) ?_
                              refine jx_then ?_
                              refine jc_region ?_
                              refine jo_f [(0, 0), (0, 0), (0, 0)] (by kernel_rfl) ?_
                              refine jo_end (by kernel_rfl) ?_
                              refine jx_inn ?_
                              refine jx_then ?_
                              refine jc_region ?_
                              refine jo_f [(0, 0), (0, 0), (0, 0)] (by kernel_rfl) ?_
                              refine jo_end (by kernel_rfl) ?_
                              exact jx_back (xs_69, xs_70, (w64 (i_65 + 1)), (w64 (i_66 + 1))) ⟨o_47177, cap_47178, sp_47179, xs_69.length, (o_47177.map fun b => ⟨b, 0, none⟩), o_47183, cap_47184, sp_47185, xs_70.length, (o_47183.map fun b => ⟨b, 0, none⟩)⟩ (Option.some.inj h).symm ⟨rfl, (.inl ⟨rfl, (fun e => (ho_47182 e).1)⟩), rfl, (.inl ⟨rfl, (fun e => (ho_47188 e).1)⟩)⟩ [0, 1, 2, 3, 4, 5, 6, 7, 8, 9, 10, 11, 12, 13, 14, 18, 19] (by kernel_rfl) (by kernel_rfl) (by kernel_rfl)
                        · replace h := ifF hc_47149 h
                          refine jc_exit ?_
                          refine jx_thenx ?_
                          refine jx_leave (.inr (xs_61, xs_63, i_65)) (Option.some.inj h).symm (fun e_47219 => ?_)
                          subst e_47219
                          refine jx_ine ?_
                          exact jx_meet ⟨xs_61, xs_63, i_65, o_47134, cap_47135, sp_47136, n_47137, a_62, o_47140, cap_47141, sp_47142, n_47143, a_64⟩ ⟨hr_47146, hn_47139, he_47138, hn_47145, he_47144⟩ (by kernel_rfl) [0, 1, 2, 3, 4, 5, 6, 7, 8, 9, 10, 11, 12, 13, 14, 15, 16] (by kernel_rfl) (by kernel_rfl)
                      · rintro ⟨xs_34, xs_36, i_38, o_46013, cap_46014, sp_46015, n_46016, a_35, o_46019, cap_46020, sp_46021, n_46022, a_37⟩ ⟨h, hn_46018, he_46017, hn_46024, he_46023⟩
                        replace h : laws_FnParts.k_39 t_3 i_28 i_29 t_33 xs_34 xs_36 i_38 = some y_45264 := h
                        rw [laws_FnParts.k_39] at h
                        refine jx_then ?_
                        refine jc_seq ?_
                        refine jc_seq ?_
                        refine jc_region ?_
                        refine jo_f [(0, 0)] (by kernel_rfl) ?_
                        refine jo_end (by kernel_rfl) ?_
                        refine jx_then ?_
                        refine jc_meet (fun (j : (List GWornPin) × (List Int) × Int × (Option Nat) × Nat × (List Value) × Nat × (Option Addr) × (Option Nat) × Nat × (List Value) × Nat × (Option Addr)) => match j with | ⟨xs_40, xs_42, i_44, o_46727, cap_46728, sp_46729, n_46730, a_41, o_46733, cap_46734, sp_46735, n_46736, a_43⟩ => laws_FnParts.k_45 t_3 i_29 i_38 xs_40 xs_42 i_44 = some y_45264 ∧ (xs_40.length = n_46730) ∧ (EiA o_46727 a_41 xs_40 (o_20.map fun b => ⟨b, 0, none⟩) t_4.fPins) ∧ (xs_42.length = n_46736) ∧ (EiA o_46733 a_43 xs_42 (o_25.map fun b => ⟨b, 0, none⟩) t_4.fStrokes)) (fun (j : (List GWornPin) × (List Int) × Int × (Option Nat) × Nat × (List Value) × Nat × (Option Addr) × (Option Nat) × Nat × (List Value) × Nat × (Option Addr)) => match j with | ⟨xs_40, xs_42, i_44, o_46727, cap_46728, sp_46729, n_46730, a_41, o_46733, cap_46734, sp_46735, n_46736, a_43⟩ => [(4, [], (.bool false)), (5, [], (.pointer (some ⟨b_18, 0, none⟩))), (7, [], (.pointer (some ⟨b_32, 0, none⟩))), (8, [], (.int .i64 t_6)), (12, [], (.int .i64 t_8.1)), (13, [], (.int .i64 t_8.2.1)), (26, [], (.pointer (some ⟨b_147, 0, none⟩))), (27, [], (.int .i64 i_38)), (28, [], (.int .i64 i_44)), (29, [], (.int .i64 i_29))]) (fun (j : (List GWornPin) × (List Int) × Int × (Option Nat) × Nat × (List Value) × Nat × (Option Addr) × (Option Nat) × Nat × (List Value) × Nat × (Option Addr)) => match j with | ⟨xs_40, xs_42, i_44, o_46727, cap_46728, sp_46729, n_46730, a_41, o_46733, cap_46734, sp_46735, n_46736, a_43⟩ => [⟨o_13, 137, row encGHammer t_3.fHammers sp_15⟩, ⟨some b_18, 43, [(.int .i16 t_3.fSteps), (.slice (o_13.map fun b => ⟨b, 0, none⟩) t_3.fHammers.length cap_14)]⟩, ⟨o_20, 75, row encGWornPin t_4.fPins sp_22⟩, ⟨o_25, 2, row encI64 t_4.fStrokes sp_27⟩, ⟨some b_30, 38, [(.slice (o_20.map fun b => ⟨b, 0, none⟩) t_4.fPins.length cap_21), (.slice (o_25.map fun b => ⟨b, 0, none⟩) t_4.fStrokes.length cap_26)]⟩, ⟨some b_32, 46, [(.int .i64 t_5.fPin), (.int .i64 t_5.fHammer)]⟩, ⟨(some b_44), 46, row encGLives [t_5, t_11, (⟨30, 50⟩ : GLives)] []⟩, ⟨some b_147, 38, [(.slice a_41 n_46730 cap_46728), (.slice a_43 n_46736 cap_46734)]⟩, ⟨none, 0, []⟩, ⟨none, 0, []⟩, ⟨o_45268, 75, row encGWornPin t_32.1.fPins sp_45270⟩, ⟨o_45273, 2, row encI64 t_32.1.fStrokes sp_45275⟩, ⟨some b_45278, 38, [(.slice (o_45268.map fun b => ⟨b, 0, none⟩) t_32.1.fPins.length cap_45269), (.slice (o_45273.map fun b => ⟨b, 0, none⟩) t_32.1.fStrokes.length cap_45274)]⟩, ⟨o_45280, 75, row encGWornPin t_33.1 sp_45282⟩, ⟨o_45285, 2, row encI64 t_33.2.1 sp_45287⟩, ⟨none, 0, []⟩, ⟨none, 0, []⟩, ⟨o_46727, 75, row encGWornPin xs_40 sp_46729⟩, ⟨o_46733, 2, row encI64 xs_42 sp_46735⟩]) ?_ ?_
                        · refine jc_block ?_
                          obtain ⟨t_54, ht_46983, hr_46911⟩ := bd h
                          refine jc_ghost 0 (fun (_ : Unit) => ([] : List Value)) ?_
                          refine jc_ghost 0 (fun (_ : Unit) => ([] : List Value)) ?_
                          refine jc_loop (fun (s : (List GWornPin) × (List Int) × Int × Int) (x : (Option Nat) × Nat × (List Value) × Nat × (Option Addr) × (Option Nat) × Nat × (List Value) × Nat × (Option Addr)) => match s, x with | ⟨xs_47, xs_49, i_51, i_52⟩, ⟨o_46899, cap_46900, sp_46901, n_46902, a_48, o_46905, cap_46906, sp_46907, n_46908, a_50⟩ => (xs_47.length = n_46902) ∧ (EiA o_46899 a_48 xs_47 (o_20.map fun b => ⟨b, 0, none⟩) t_4.fPins) ∧ (xs_49.length = n_46908) ∧ (EiA o_46905 a_50 xs_49 (o_25.map fun b => ⟨b, 0, none⟩) t_4.fStrokes)) (fun (s : (List GWornPin) × (List Int) × Int × Int) (x : (Option Nat) × Nat × (List Value) × Nat × (Option Addr) × (Option Nat) × Nat × (List Value) × Nat × (Option Addr)) => match s, x with | ⟨xs_47, xs_49, i_51, i_52⟩, ⟨o_46899, cap_46900, sp_46901, n_46902, a_48, o_46905, cap_46906, sp_46907, n_46908, a_50⟩ => [(4, [], (.bool false)), (5, [], (.pointer (some ⟨b_18, 0, none⟩))), (7, [], (.pointer (some ⟨b_32, 0, none⟩))), (8, [], (.int .i64 t_6)), (12, [], (.int .i64 t_8.1)), (13, [], (.int .i64 t_8.2.1)), (26, [], (.pointer (some ⟨b_147, 0, none⟩))), (27, [], (.int .i64 i_38)), (28, [], (.int .i64 i_51)), (29, [], (.int .i64 i_29)), (33, [], (.slice (o_45285.map fun b => ⟨b, 0, none⟩) t_33.2.1.length cap_45286)), (38, [], (.int .i64 i_52))]) (fun (s : (List GWornPin) × (List Int) × Int × Int) (x : (Option Nat) × Nat × (List Value) × Nat × (Option Addr) × (Option Nat) × Nat × (List Value) × Nat × (Option Addr)) => match s, x with | ⟨xs_47, xs_49, i_51, i_52⟩, ⟨o_46899, cap_46900, sp_46901, n_46902, a_48, o_46905, cap_46906, sp_46907, n_46908, a_50⟩ => [⟨o_13, 137, row encGHammer t_3.fHammers sp_15⟩, ⟨some b_18, 43, [(.int .i16 t_3.fSteps), (.slice (o_13.map fun b => ⟨b, 0, none⟩) t_3.fHammers.length cap_14)]⟩, ⟨o_20, 75, row encGWornPin t_4.fPins sp_22⟩, ⟨o_25, 2, row encI64 t_4.fStrokes sp_27⟩, ⟨some b_30, 38, [(.slice (o_20.map fun b => ⟨b, 0, none⟩) t_4.fPins.length cap_21), (.slice (o_25.map fun b => ⟨b, 0, none⟩) t_4.fStrokes.length cap_26)]⟩, ⟨some b_32, 46, [(.int .i64 t_5.fPin), (.int .i64 t_5.fHammer)]⟩, ⟨(some b_44), 46, row encGLives [t_5, t_11, (⟨30, 50⟩ : GLives)] []⟩, ⟨some b_147, 38, [(.slice a_48 n_46902 cap_46900), (.slice a_50 n_46908 cap_46906)]⟩, ⟨none, 0, []⟩, ⟨none, 0, []⟩, ⟨o_45268, 75, row encGWornPin t_32.1.fPins sp_45270⟩, ⟨o_45273, 2, row encI64 t_32.1.fStrokes sp_45275⟩, ⟨some b_45278, 38, [(.slice (o_45268.map fun b => ⟨b, 0, none⟩) t_32.1.fPins.length cap_45269), (.slice (o_45273.map fun b => ⟨b, 0, none⟩) t_32.1.fStrokes.length cap_45274)]⟩, ⟨o_45280, 75, row encGWornPin t_33.1 sp_45282⟩, ⟨o_45285, 2, row encI64 t_33.2.1 sp_45287⟩, ⟨none, 0, []⟩, ⟨none, 0, []⟩, ⟨o_46899, 75, row encGWornPin xs_47 sp_46901⟩, ⟨o_46905, 2, row encI64 xs_49 sp_46907⟩]) ht_46983 ⟨o_46013, cap_46014, sp_46015, n_46016, a_35, o_46019, cap_46020, sp_46021, n_46022, a_37⟩ ⟨hn_46018, he_46017, hn_46024, he_46023⟩ (by kernel_rfl) [0, 1, 2, 3, 4, 5, 6, 7, 8, 9, 10, 11, 12, 13, 14, 17, 18, 15, 16] (by kernel_rfl) (by kernel_rfl) ?_
                          rintro ⟨xs_47, xs_49, i_51, i_52⟩ ⟨o_46899, cap_46900, sp_46901, n_46902, a_48, o_46905, cap_46906, sp_46907, n_46908, a_50⟩ y_46912 ⟨hn_46904, he_46903, hn_46910, he_46909⟩ h
                          rw [laws_FnParts.l_53] at h
                          refine jc_seq ?_
                          refine jc_seq ?_
                          refine jc_region ?_
                          refine jo_f [(0, 0), (0, 0), (0, 0), (0, 0)] (by kernel_rfl) ?_
                          refine jo_end (by kernel_rfl) ?_
                          refine jx_then ?_
                          refine jc_cond (decide (i_52 < (t_33.2.1.length : Int))) (by kernel_rfl) (fun hc_46914 => ?_) (fun hc_46914 => ?_)
                          · replace h := ifT hc_46914 h
                            refine jc_skip ?_
                            refine jx_then ?_
                            refine jc_seq ?_
                            refine jc_block ?_
                            refine jc_seq ?_
                            refine jc_meet (fun (j : (List GWornPin) × (List Int) × Int × Nat × (Option Nat) × Nat × (List Value) × Nat × (Option Nat) × Nat × (List Value) × Nat) => match j with | ⟨xs_55, xs_56, i_57, b_46940, o_46941, cap_46942, sp_46943, n_46944, o_46947, cap_46948, sp_46949, n_46950⟩ => laws_FnParts.k_58 i_51 i_52 xs_55 xs_56 i_57 = some y_46912 ∧ (xs_55.length = n_46944) ∧ ((o_46941 ≠ none → n_46944 ≤ cap_46942 ∧ sp_46943.length = (cap_46942 - n_46944) * 3)) ∧ ((o_46941 = none → xs_55 = [] ∧ cap_46942 = 0)) ∧ (xs_56.length = n_46950) ∧ ((o_46947 ≠ none → n_46950 ≤ cap_46948 ∧ sp_46949.length = (cap_46948 - n_46950) * 1)) ∧ ((o_46947 = none → xs_56 = [] ∧ cap_46948 = 0))) (fun (j : (List GWornPin) × (List Int) × Int × Nat × (Option Nat) × Nat × (List Value) × Nat × (Option Nat) × Nat × (List Value) × Nat) => match j with | ⟨xs_55, xs_56, i_57, b_46940, o_46941, cap_46942, sp_46943, n_46944, o_46947, cap_46948, sp_46949, n_46950⟩ => [(4, [], (.bool false)), (5, [], (.pointer (some ⟨b_18, 0, none⟩))), (7, [], (.pointer (some ⟨b_32, 0, none⟩))), (8, [], (.int .i64 t_6)), (12, [], (.int .i64 t_8.1)), (13, [], (.int .i64 t_8.2.1)), (26, [], (.pointer (some ⟨b_147, 0, none⟩))), (27, [], (.int .i64 i_38)), (28, [], (.int .i64 i_51)), (29, [], (.int .i64 i_29)), (33, [], (.slice (o_45285.map fun b => ⟨b, 0, none⟩) t_33.2.1.length cap_45286)), (38, [], (.int .i64 i_52)), (39, [], (.pointer (some ⟨b_46940, 0, none⟩))), (40, [], (.int .i64 i_57))]) (fun (j : (List GWornPin) × (List Int) × Int × Nat × (Option Nat) × Nat × (List Value) × Nat × (Option Nat) × Nat × (List Value) × Nat) => match j with | ⟨xs_55, xs_56, i_57, b_46940, o_46941, cap_46942, sp_46943, n_46944, o_46947, cap_46948, sp_46949, n_46950⟩ => [⟨o_13, 137, row encGHammer t_3.fHammers sp_15⟩, ⟨some b_18, 43, [(.int .i16 t_3.fSteps), (.slice (o_13.map fun b => ⟨b, 0, none⟩) t_3.fHammers.length cap_14)]⟩, ⟨o_20, 75, row encGWornPin t_4.fPins sp_22⟩, ⟨o_25, 2, row encI64 t_4.fStrokes sp_27⟩, ⟨some b_30, 38, [(.slice (o_20.map fun b => ⟨b, 0, none⟩) t_4.fPins.length cap_21), (.slice (o_25.map fun b => ⟨b, 0, none⟩) t_4.fStrokes.length cap_26)]⟩, ⟨some b_32, 46, [(.int .i64 t_5.fPin), (.int .i64 t_5.fHammer)]⟩, ⟨(some b_44), 46, row encGLives [t_5, t_11, (⟨30, 50⟩ : GLives)] []⟩, ⟨some b_147, 38, [(.slice a_48 n_46902 cap_46900), (.slice a_50 n_46908 cap_46906)]⟩, ⟨none, 0, []⟩, ⟨none, 0, []⟩, ⟨o_45268, 75, row encGWornPin t_32.1.fPins sp_45270⟩, ⟨o_45273, 2, row encI64 t_32.1.fStrokes sp_45275⟩, ⟨some b_45278, 38, [(.slice (o_45268.map fun b => ⟨b, 0, none⟩) t_32.1.fPins.length cap_45269), (.slice (o_45273.map fun b => ⟨b, 0, none⟩) t_32.1.fStrokes.length cap_45274)]⟩, ⟨o_45280, 75, row encGWornPin t_33.1 sp_45282⟩, ⟨o_45285, 2, row encI64 t_33.2.1 sp_45287⟩, ⟨none, 0, []⟩, ⟨none, 0, []⟩, ⟨o_46899, 75, row encGWornPin xs_47 sp_46901⟩, ⟨o_46905, 2, row encI64 xs_49 sp_46907⟩, ⟨some b_46940, 38, [(.slice (o_46941.map fun b => ⟨b, 0, none⟩) n_46944 cap_46942), (.slice (o_46947.map fun b => ⟨b, 0, none⟩) n_46950 cap_46948)]⟩, ⟨o_46941, 75, row encGWornPin xs_55 sp_46943⟩, ⟨o_46947, 2, row encI64 xs_56 sp_46949⟩]) ?_ ?_
                            · refine jc_draw [⟨o_13, 137, row encGHammer t_3.fHammers sp_15⟩, ⟨some b_18, 43, [(.int .i16 t_3.fSteps), (.slice (o_13.map fun b => ⟨b, 0, none⟩) t_3.fHammers.length cap_14)]⟩, ⟨o_20, 75, row encGWornPin t_4.fPins sp_22⟩, ⟨o_25, 2, row encI64 t_4.fStrokes sp_27⟩, ⟨some b_30, 38, [(.slice (o_20.map fun b => ⟨b, 0, none⟩) t_4.fPins.length cap_21), (.slice (o_25.map fun b => ⟨b, 0, none⟩) t_4.fStrokes.length cap_26)]⟩, ⟨some b_32, 46, [(.int .i64 t_5.fPin), (.int .i64 t_5.fHammer)]⟩, ⟨(some b_44), 46, row encGLives [t_5, t_11, (⟨30, 50⟩ : GLives)] []⟩, ⟨some b_147, 38, [(.slice a_48 n_46902 cap_46900), (.slice a_50 n_46908 cap_46906)]⟩, ⟨none, 0, []⟩, ⟨none, 0, []⟩, ⟨o_45268, 75, row encGWornPin t_32.1.fPins sp_45270⟩, ⟨o_45273, 2, row encI64 t_32.1.fStrokes sp_45275⟩, ⟨some b_45278, 38, [(.slice (o_45268.map fun b => ⟨b, 0, none⟩) t_32.1.fPins.length cap_45269), (.slice (o_45273.map fun b => ⟨b, 0, none⟩) t_32.1.fStrokes.length cap_45274)]⟩, ⟨o_45280, 75, row encGWornPin t_33.1 sp_45282⟩, ⟨o_45285, 2, row encI64 t_33.2.1 sp_45287⟩, ⟨none, 0, []⟩, ⟨none, 0, []⟩, ⟨o_46899, 75, row encGWornPin xs_47 sp_46901⟩, ⟨o_46905, 2, row encI64 xs_49 sp_46907⟩] 13 (by kernel_rfl) (by kernel_rfl) ?_
                              refine jd_f [⟨0, 1, 0⟩, ⟨1, 7, 0⟩, ⟨2, 0, 0⟩, ⟨3, 0, 0⟩] 9 (by kernel_rfl) (by kernel_rfl) (fun w h => h.pick [0, 1, 2, 3, 4, 5, 6, 7, 8, 9, 10, 11, 12, 13, 14, 15, 16, 17, 18] (by kernel_rfl) (by kernel_rfl)) (by kernel_rfl) (by kernel_rfl) ?_
                              obtain ⟨x_59, hx_46957, h⟩ := bd h
                              refine jd_v 4 0 (by kernel_rfl) (fun w h => h.pick [0, 1, 2, 3, 4, 5, 6, 7, 8, 9, 10, 11, 12, 13, 14, 15, 16, 17, 18] (by kernel_rfl) (by kernel_rfl)) (by kernel_rfl) (by kernel_rfl) _ (fun w hm => idx_run (a := (o_45285.map fun b => ⟨b, 0, none⟩)) (len := t_33.2.1.length) (s := 1) (j := i_52) (by kernel_rfl) (ix_some hx_46957).1 (ltn hx_46957 rfl) (spo ho_45289 hx_46957)) ?_
                              refine jd_v 5 0 (by kernel_rfl) (fun w h => h.pick [0, 1, 2, 3, 4, 5, 6, 7, 8, 9, 10, 11, 12, 13, 14, 15, 16, 17, 18] (by kernel_rfl) (by kernel_rfl)) (by kernel_rfl) (by kernel_rfl) _ (fun w hm => ld_run (b := aB (o_45285.map fun b => ⟨b, 0, none⟩)) (off := (aO (o_45285.map fun b => ⟨b, 0, none⟩) + i_52.toNat * 1)) (s := 1) (agg := false) (vs := (encI64 x_59)) (by kernel_rfl) (by kernel_rfl) (.inr rfl) ((hm.ownRow (hh := 14) (o := o_45285) (T := 2) (enc := encI64) (xs := t_33.2.1) (sp := sp_45287) (by kernel_rfl) (fun e => (ho_45289 e).1) encI64_len).at hx_46957)) ?_
                              refine toD2 6 10 (by kernel_rfl) ?_ ?_
                              · obtain ⟨t_60, ht_46958, h⟩ := bd h
                                refine p_call 0 36 #[(.agg #[(.int .i16 t_3.fSteps), (.slice (o_13.map fun b => ⟨b, 0, none⟩) t_3.fHammers.length cap_14)]), (.agg #[(.slice a_48 n_46902 cap_46900), (.slice a_50 n_46908 cap_46906)]), (.int .i64 x_59)] (by kernel_rfl) (by kernel_rfl) (fun w hm => impl_NewHammer.calls t_3 (⟨xs_47, xs_49⟩ : GWear) x_59 w _ (o_13.map fun b => ⟨b, 0, none⟩) t_3.fHammers.length cap_14 (hm.ownRow (hh := 0) (o := o_13) (T := 137) (enc := encGHammer) (xs := t_3.fHammers) (sp := sp_15) (by kernel_rfl) (fun e => (ho_17 e).1) encGHammer_len) rfl a_48 n_46902 cap_46900 (hm.eiRowA (hh := 17) (o := o_46899) (T := 75) (enc := encGWornPin) (xs := xs_47) (sp := sp_46901) (by kernel_rfl) he_46903 (hm.ownRow (hh := 2) (o := o_20) (T := 75) (enc := encGWornPin) (xs := t_4.fPins) (sp := sp_22) (by kernel_rfl) (fun e => (ho_24 e).1) encGWornPin_len) encGWornPin_len) hn_46904 a_50 n_46908 cap_46906 (hm.eiRowA (hh := 18) (o := o_46905) (T := 2) (enc := encI64) (xs := xs_49) (sp := sp_46907) (by kernel_rfl) he_46909 (hm.ownRow (hh := 3) (o := o_25) (T := 2) (enc := encI64) (xs := t_4.fStrokes) (sp := sp_27) (by kernel_rfl) (fun e => (ho_29 e).1) encI64_len) encI64_len) hn_46910 ht_46958) ?_
                                rintro w v w' hm ⟨o_46959, cap_46960, sp_46961, _, rfl, hs_46962, ho_46963, o_46964, cap_46965, sp_46966, _, rfl, hs_46967, ho_46968, rfl, hm'⟩
                                refine ⟨_, hm.app hm', jkD (fun w h => h.pick [0, 1, 2, 3, 4, 5, 6, 7, 8, 9, 10, 11, 12, 13, 14, 15, 16, 17, 18] (by kernel_rfl) (by kernel_rfl)) ?_⟩
                                clear hm hm'
                                refine jd_f [⟨7, 0, 0⟩, ⟨8, 0, 0⟩, ⟨9, 0, 0⟩] 3 (by kernel_rfl) (by kernel_rfl) (fun w h => h.pick [0, 1, 2, 3, 4, 5, 6, 7, 8, 9, 10, 11, 12, 13, 14, 15, 16, 17, 18] (by kernel_rfl) (by kernel_rfl)) (by kernel_rfl) (by kernel_rfl) ?_
                                refine toD 10 (by kernel_rfl) (p_a 0 [0] (by kernel_rfl) (fun b => by kernel_rfl) (fun b_46969 => jkD (fun w h => h.pick [0, 1, 2, 3, 4, 5, 6, 7, 8, 9, 10, 11, 12, 13, 14, 15, 16, 17, 18] (by kernel_rfl) (by kernel_rfl)) ?_))
                                refine toD 11 (by kernel_rfl) (p_s 0 [21] (by kernel_rfl) (by kernel_rfl) (jkD (fun w h => h.pick [0, 1, 2, 3, 4, 5, 6, 7, 8, 9, 10, 11, 12, 13, 14, 15, 16, 17, 18] (by kernel_rfl) (by kernel_rfl)) ?_))
                                refine jd_f [⟨12, 0, 0⟩] 0 (by kernel_rfl) (by kernel_rfl) (fun w h => h.pick [0, 1, 2, 3, 4, 5, 6, 7, 8, 9, 10, 11, 12, 13, 14, 15, 16, 17, 18] (by kernel_rfl) (by kernel_rfl)) (by kernel_rfl) (by kernel_rfl) ?_
                                refine jd_end (by kernel_rfl) ?_
                                exact jx_meet ⟨t_60.1.fPins, t_60.1.fStrokes, t_60.2, b_46969, o_46959, cap_46960, sp_46961, t_60.1.fPins.length, o_46964, cap_46965, sp_46966, t_60.1.fStrokes.length⟩ ⟨h, rfl, hs_46962, ho_46963, rfl, hs_46967, ho_46968⟩ (by kernel_rfl) [0, 1, 2, 3, 4, 5, 6, 7, 8, 9, 10, 11, 12, 13, 14, 15, 16, 17, 18, 21, 19, 20] (by kernel_rfl) (by kernel_rfl)
                              · refine p_a 0 [0] (by kernel_rfl) (fun b => by kernel_rfl) (fun b_46970 => jkD (fun w h => h.pick [0, 1, 2, 3, 4, 5, 6, 7, 8, 9, 10, 11, 12, 13, 14, 15, 16, 17, 18] (by kernel_rfl) (by kernel_rfl)) ?_)
                                obtain ⟨t_60, ht_46971, h⟩ := bd h
                                refine toD 6 (by kernel_rfl) (p_call 0 36 #[(.agg #[(.int .i16 t_3.fSteps), (.slice (o_13.map fun b => ⟨b, 0, none⟩) t_3.fHammers.length cap_14)]), (.agg #[(.slice a_48 n_46902 cap_46900), (.slice a_50 n_46908 cap_46906)]), (.int .i64 x_59)] (by kernel_rfl) (by kernel_rfl) (fun w hm => impl_NewHammer.calls t_3 (⟨xs_47, xs_49⟩ : GWear) x_59 w _ (o_13.map fun b => ⟨b, 0, none⟩) t_3.fHammers.length cap_14 (hm.ownRow (hh := 0) (o := o_13) (T := 137) (enc := encGHammer) (xs := t_3.fHammers) (sp := sp_15) (by kernel_rfl) (fun e => (ho_17 e).1) encGHammer_len) rfl a_48 n_46902 cap_46900 (hm.eiRowA (hh := 17) (o := o_46899) (T := 75) (enc := encGWornPin) (xs := xs_47) (sp := sp_46901) (by kernel_rfl) he_46903 (hm.ownRow (hh := 2) (o := o_20) (T := 75) (enc := encGWornPin) (xs := t_4.fPins) (sp := sp_22) (by kernel_rfl) (fun e => (ho_24 e).1) encGWornPin_len) encGWornPin_len) hn_46904 a_50 n_46908 cap_46906 (hm.eiRowA (hh := 18) (o := o_46905) (T := 2) (enc := encI64) (xs := xs_49) (sp := sp_46907) (by kernel_rfl) he_46909 (hm.ownRow (hh := 3) (o := o_25) (T := 2) (enc := encI64) (xs := t_4.fStrokes) (sp := sp_27) (by kernel_rfl) (fun e => (ho_29 e).1) encI64_len) encI64_len) hn_46910 ht_46971) ?_)
                                rintro w v w' hm ⟨o_46972, cap_46973, sp_46974, _, rfl, hs_46975, ho_46976, o_46977, cap_46978, sp_46979, _, rfl, hs_46980, ho_46981, rfl, hm'⟩
                                refine ⟨_, hm.app hm', jkD (fun w h => h.pick [0, 1, 2, 3, 4, 5, 6, 7, 8, 9, 10, 11, 12, 13, 14, 15, 16, 17, 18] (by kernel_rfl) (by kernel_rfl)) ?_⟩
                                clear hm hm'
                                refine jd_f [⟨7, 0, 0⟩, ⟨8, 0, 0⟩, ⟨9, 0, 0⟩] 2 (by kernel_rfl) (by kernel_rfl) (fun w h => h.pick [0, 1, 2, 3, 4, 5, 6, 7, 8, 9, 10, 11, 12, 13, 14, 15, 16, 17, 18] (by kernel_rfl) (by kernel_rfl)) (by kernel_rfl) (by kernel_rfl) ?_
                                refine toD 11 (by kernel_rfl) (p_s 0 [19] (by kernel_rfl) (by kernel_rfl) (jkD (fun w h => h.pick [0, 1, 2, 3, 4, 5, 6, 7, 8, 9, 10, 11, 12, 13, 14, 15, 16, 17, 18] (by kernel_rfl) (by kernel_rfl)) ?_))
                                refine jd_f [⟨12, 0, 0⟩] 0 (by kernel_rfl) (by kernel_rfl) (fun w h => h.pick [0, 1, 2, 3, 4, 5, 6, 7, 8, 9, 10, 11, 12, 13, 14, 15, 16, 17, 18] (by kernel_rfl) (by kernel_rfl)) (by kernel_rfl) (by kernel_rfl) ?_
                                refine jd_end (by kernel_rfl) ?_
                                exact jx_meet ⟨t_60.1.fPins, t_60.1.fStrokes, t_60.2, b_46970, o_46972, cap_46973, sp_46974, t_60.1.fPins.length, o_46977, cap_46978, sp_46979, t_60.1.fStrokes.length⟩ ⟨h, rfl, hs_46975, ho_46976, rfl, hs_46980, ho_46981⟩ (by kernel_rfl) [0, 1, 2, 3, 4, 5, 6, 7, 8, 9, 10, 11, 12, 13, 14, 15, 16, 17, 18, 19, 20, 21] (by kernel_rfl) (by kernel_rfl)
                            · rintro ⟨xs_55, xs_56, i_57, b_46940, o_46941, cap_46942, sp_46943, n_46944, o_46947, cap_46948, sp_46949, n_46950⟩ ⟨h, rfl, hs_46945, ho_46946, rfl, hs_46951, ho_46952⟩
                              replace h : laws_FnParts.k_58 i_51 i_52 xs_55 xs_56 i_57 = some y_46912 := h
                              rw [laws_FnParts.k_58] at h
                              refine jx_then ?_
                              refine jc_seq ?_
                              refine jc_seq ?_
                              refine jc_region ?_
                              refine jo_f [(0, 0), (0, 0)] (by kernel_rfl) ?_
                              refine jo_end (by kernel_rfl) ?_
                              refine jx_then ?_
                              refine jc_cond (i_57 != 0) (by kernel_rfl) (fun hc_46954 => ?_) (fun hc_46954 => ?_)
                              · replace h := ifT hc_46954 h
                                refine jc_seq ?_
                                refine jc_region ?_
                                refine jo_f [(0, 0)] (by kernel_rfl) ?_
                                refine jo_end (by kernel_rfl) ?_
                                refine jx_then ?_
                                refine jc_ret ?_
                                refine jx_thenr ?_
                                refine jx_inr ?_
                                refine jx_thenr ?_
                                refine jx_leaver (.inl false) (Option.some.inj h).symm (fun e_46956 => ?_)
                                subst e_46956
                                refine jx_inr ?_
                                refine jx_thenr ?_
                                refine jx_thenr ?_
                                refine jx_inr ?_
                                refine jx_thenr ?_
                                refine jx_leaver (.inl false) (Option.some.inj hr_46911).symm (fun e_46955 => ?_)
                                subst e_46955
                                refine jx_inr ?_
                                refine jx_thenr ?_
                                refine jx_thenr ?_
                                obtain rfl := Option.some.inj hr_45263
                                exact jx_ret [] (.bool false) [] rfl (by kernel_rfl) (by kernel_rfl) (fun w hm => ⟨rfl, hm.pick [] (by kernel_rfl) (by kernel_rfl)⟩)
                              · replace h := ifF hc_46954 h
                                refine jc_skip ?_
                                refine jx_then ?_
                                refine jc_seq ?_
                                refine jc_region ?_
                                refine jo_f [(19, 0)] (by kernel_rfl) ?_
                                refine toO (by kernel_rfl) (p_s 0 [7] (by kernel_rfl) (by kernel_rfl) (jkO ?_))
                                refine jo_end (by kernel_rfl) ?_
                                refine jx_then ?_
                                refine jc_region ?_
                                refine jo_f [(0, 0), (0, 0), (0, 0)] (by kernel_rfl) ?_
                                refine jo_end (by kernel_rfl) ?_
                                refine jx_inn ?_
                                refine jx_then ?_
                                refine jc_region ?_
                                refine jo_f [(0, 0), (0, 0), (0, 0)] (by kernel_rfl) ?_
                                refine jo_end (by kernel_rfl) ?_
                                exact jx_back (xs_55, xs_56, (w64 (i_51 + 1)), (w64 (i_52 + 1))) ⟨o_46941, cap_46942, sp_46943, xs_55.length, (o_46941.map fun b => ⟨b, 0, none⟩), o_46947, cap_46948, sp_46949, xs_56.length, (o_46947.map fun b => ⟨b, 0, none⟩)⟩ (Option.some.inj h).symm ⟨rfl, (.inl ⟨rfl, (fun e => (ho_46946 e).1)⟩), rfl, (.inl ⟨rfl, (fun e => (ho_46952 e).1)⟩)⟩ [0, 1, 2, 3, 4, 5, 6, 7, 8, 9, 10, 11, 12, 13, 14, 15, 16, 20, 21] (by kernel_rfl) (by kernel_rfl) (by kernel_rfl)
                          · replace h := ifF hc_46914 h
                            refine jc_exit ?_
                            refine jx_thenx ?_
                            refine jx_leave (.inr (xs_47, xs_49, i_51)) (Option.some.inj h).symm (fun e_46982 => ?_)
                            subst e_46982
                            refine jx_ine ?_
                            exact jx_meet ⟨xs_47, xs_49, i_51, o_46899, cap_46900, sp_46901, n_46902, a_48, o_46905, cap_46906, sp_46907, n_46908, a_50⟩ ⟨hr_46911, hn_46904, he_46903, hn_46910, he_46909⟩ (by kernel_rfl) [0, 1, 2, 3, 4, 5, 6, 7, 8, 9, 10, 11, 12, 13, 14, 15, 16, 17, 18] (by kernel_rfl) (by kernel_rfl)
                        · rintro ⟨xs_40, xs_42, i_44, o_46727, cap_46728, sp_46729, n_46730, a_41, o_46733, cap_46734, sp_46735, n_46736, a_43⟩ ⟨h, hn_46732, he_46731, hn_46738, he_46737⟩
                          replace h : laws_FnParts.k_45 t_3 i_29 i_38 xs_40 xs_42 i_44 = some y_45264 := h
                          rw [laws_FnParts.k_45] at h
                          refine jx_then ?_
                          refine jc_seq ?_
                          refine jc_region ?_
                          refine jo_f [(1, 0), (7, 0)] (by kernel_rfl) ?_
                          obtain ⟨t_46, ht_46739, h⟩ := bd h
                          refine toO (by kernel_rfl) (p_call 0 33 #[(.agg #[(.int .i16 t_3.fSteps), (.slice (o_13.map fun b => ⟨b, 0, none⟩) t_3.fHammers.length cap_14)]), (.agg #[(.slice a_41 n_46730 cap_46728), (.slice a_43 n_46736 cap_46734)]), (.int .i64 1)] (by kernel_rfl) (by kernel_rfl) (fun w hm => spec_TurnWear.calls t_3 (⟨xs_40, xs_42⟩ : GWear) 1 w _ (o_13.map fun b => ⟨b, 0, none⟩) t_3.fHammers.length cap_14 (hm.ownRow (hh := 0) (o := o_13) (T := 137) (enc := encGHammer) (xs := t_3.fHammers) (sp := sp_15) (by kernel_rfl) (fun e => (ho_17 e).1) encGHammer_len) rfl a_41 n_46730 cap_46728 (hm.eiRowA (hh := 17) (o := o_46727) (T := 75) (enc := encGWornPin) (xs := xs_40) (sp := sp_46729) (by kernel_rfl) he_46731 (hm.ownRow (hh := 2) (o := o_20) (T := 75) (enc := encGWornPin) (xs := t_4.fPins) (sp := sp_22) (by kernel_rfl) (fun e => (ho_24 e).1) encGWornPin_len) encGWornPin_len) hn_46732 a_43 n_46736 cap_46734 (hm.eiRowA (hh := 18) (o := o_46733) (T := 2) (enc := encI64) (xs := xs_42) (sp := sp_46735) (by kernel_rfl) he_46737 (hm.ownRow (hh := 3) (o := o_25) (T := 2) (enc := encI64) (xs := t_4.fStrokes) (sp := sp_27) (by kernel_rfl) (fun e => (ho_29 e).1) encI64_len) encI64_len) hn_46738 ht_46739) ?_)
                          rintro w v w' hm ⟨o_46740, cap_46741, sp_46742, _, rfl, hs_46743, ho_46744, o_46745, cap_46746, sp_46747, _, rfl, hs_46748, ho_46749, rfl, hm'⟩
                          refine ⟨_, hm.app hm', jkO ?_⟩
                          clear hm hm'
                          refine jo_f [(0, 0), (0, 0), (0, 0)] (by kernel_rfl) ?_
                          refine toO (by kernel_rfl) (p_a 0 [0] (by kernel_rfl) (fun b => by kernel_rfl) (fun b_46750 => jkO ?_))
                          refine toO (by kernel_rfl) (p_s 0 [21] (by kernel_rfl) (by kernel_rfl) (jkO ?_))
                          refine jo_f [(0, 0)] (by kernel_rfl) ?_
                          refine jo_end (by kernel_rfl) ?_
                          refine jx_then ?_
                          refine jc_seq ?_
                          refine jc_seq ?_
                          refine jc_region ?_
                          refine jo_f [(0, 0), (0, 0)] (by kernel_rfl) ?_
                          refine jo_end (by kernel_rfl) ?_
                          refine jx_then ?_
                          refine jc_cond (t_46.2 != 0) (by kernel_rfl) (fun hc_46751 => ?_) (fun hc_46751 => ?_)
                          · replace h := ifT hc_46751 h
                            refine jc_seq ?_
                            refine jc_region ?_
                            refine jo_f [(0, 0)] (by kernel_rfl) ?_
                            refine jo_end (by kernel_rfl) ?_
                            refine jx_then ?_
                            refine jc_ret ?_
                            refine jx_thenr ?_
                            refine jx_inr ?_
                            refine jx_thenr ?_
                            refine jx_leaver (.inl false) (Option.some.inj h).symm (fun e_46752 => ?_)
                            subst e_46752
                            refine jx_inr ?_
                            refine jx_thenr ?_
                            refine jx_thenr ?_
                            obtain rfl := Option.some.inj hr_45263
                            exact jx_ret [] (.bool false) [] rfl (by kernel_rfl) (by kernel_rfl) (fun w hm => ⟨rfl, hm.pick [] (by kernel_rfl) (by kernel_rfl)⟩)
                          · replace h := ifF hc_46751 h
                            refine jc_skip ?_
                            refine jx_then ?_
                            refine jc_region ?_
                            refine jo_f [(21, 0)] (by kernel_rfl) ?_
                            refine toO (by kernel_rfl) (p_s 0 [7] (by kernel_rfl) (by kernel_rfl) (jkO ?_))
                            refine jo_end (by kernel_rfl) ?_
                            refine jx_inn ?_
                            refine jx_then ?_
                            refine jc_region ?_
                            refine jo_f [(0, 0), (0, 0), (0, 0)] (by kernel_rfl) ?_
                            refine jo_end (by kernel_rfl) ?_
                            exact jx_back (t_46.1.fPins, t_46.1.fStrokes, i_38, i_44, (w64 (i_29 + 1))) ⟨o_46740, cap_46741, sp_46742, t_46.1.fPins.length, (o_46740.map fun b => ⟨b, 0, none⟩), o_46745, cap_46746, sp_46747, t_46.1.fStrokes.length, (o_46745.map fun b => ⟨b, 0, none⟩)⟩ (Option.some.inj h).symm ⟨rfl, (.inl ⟨rfl, (fun e => (ho_46744 e).1)⟩), rfl, (.inl ⟨rfl, (fun e => (ho_46749 e).1)⟩)⟩ [0, 1, 2, 3, 4, 5, 6, 7, 19, 20] (by kernel_rfl) (by kernel_rfl) (by kernel_rfl)
                  · replace h := ifF hc_45266 h
                    refine jc_exit ?_
                    refine jx_thenx ?_
                    refine jx_leave (.inr (xs_23, xs_25, i_27, i_28)) (Option.some.inj h).symm (fun e_47221 => ?_)
                    subst e_47221
                    refine jx_ine ?_
                    exact jx_meet ⟨xs_23, xs_25, i_27, i_28, o_45251, cap_45252, sp_45253, n_45254, a_24, o_45257, cap_45258, sp_45259, n_45260, a_26⟩ ⟨hr_45263, hn_45256, he_45255, hn_45262, he_45261⟩ (by kernel_rfl) [0, 1, 2, 3, 4, 5, 6, 7, 8, 9] (by kernel_rfl) (by kernel_rfl)
                · rintro ⟨xs_15, xs_17, i_19, i_20, o_35440, cap_35441, sp_35442, n_35443, a_16, o_35446, cap_35447, sp_35448, n_35449, a_18⟩ ⟨h, hn_35445, he_35444, hn_35451, he_35450⟩
                  replace h : laws_FnParts.k_21 t_3 t_5 t_8 xs_15 xs_17 i_19 i_20 = some r := h
                  rw [laws_FnParts.k_21] at h
                  refine jx_then ?_
                  refine jc_seq ?_
                  refine jc_region ?_
                  refine jo_f [(1, 0), (7, 0), (5, 0)] (by kernel_rfl) ?_
                  obtain ⟨t_22, ht_35452, h⟩ := bd h
                  refine toO (by kernel_rfl) (p_call 0 37 #[(.agg #[(.int .i16 t_3.fSteps), (.slice (o_13.map fun b => ⟨b, 0, none⟩) t_3.fHammers.length cap_14)]), (.agg #[(.slice a_16 n_35443 cap_35441), (.slice a_18 n_35449 cap_35447)]), (.agg #[(.int .i64 t_5.fPin), (.int .i64 t_5.fHammer)])] (by kernel_rfl) (by kernel_rfl) (fun w hm => impl_WornOut.calls t_3 (⟨xs_15, xs_17⟩ : GWear) t_5 w _ (o_13.map fun b => ⟨b, 0, none⟩) t_3.fHammers.length cap_14 (hm.ownRow (hh := 0) (o := o_13) (T := 137) (enc := encGHammer) (xs := t_3.fHammers) (sp := sp_15) (by kernel_rfl) (fun e => (ho_17 e).1) encGHammer_len) rfl a_16 n_35443 cap_35441 (hm.eiRowA (hh := 8) (o := o_35440) (T := 75) (enc := encGWornPin) (xs := xs_15) (sp := sp_35442) (by kernel_rfl) he_35444 (hm.ownRow (hh := 2) (o := o_20) (T := 75) (enc := encGWornPin) (xs := t_4.fPins) (sp := sp_22) (by kernel_rfl) (fun e => (ho_24 e).1) encGWornPin_len) encGWornPin_len) hn_35445 a_18 n_35449 cap_35447 (hm.eiRowA (hh := 9) (o := o_35446) (T := 2) (enc := encI64) (xs := xs_17) (sp := sp_35448) (by kernel_rfl) he_35450 (hm.ownRow (hh := 3) (o := o_25) (T := 2) (enc := encI64) (xs := t_4.fStrokes) (sp := sp_27) (by kernel_rfl) (fun e => (ho_29 e).1) encI64_len) encI64_len) hn_35451 ht_35452) ?_)
                  rintro w v w' hm ⟨o_35453, cap_35454, sp_35455, _, rfl, hs_35456, ho_35457, o_35458, cap_35459, sp_35460, _, rfl, hs_35461, ho_35462, rfl, hm'⟩
                  refine ⟨_, hm.app hm', jkO ?_⟩
                  clear hm hm'
                  refine jo_f [(0, 0), (0, 0), (0, 0), (0, 0), (0, 0), (0, 0), (0, 0)] (by kernel_rfl) ?_
                  refine jo_end (by kernel_rfl) ?_
                  refine jx_then ?_
                  refine jc_seq ?_
                  refine jc_region ?_
                  refine jo_f [(0, 0), (0, 0), (0, 0), (0, 1), (0, 1), (0, 1), (0, 0), (0, 0), (0, 1), (0, 1), (0, 1), (0, 0), (0, 0), (0, 1), (0, 1), (0, 1), (0, 0), (0, 0), (0, 1), (0, 1), (0, 1), (0, 0), (0, 0)] (by kernel_rfl) ?_
                  refine jo_end (by kernel_rfl) ?_
                  refine jx_then ?_
                  refine jc_ret ?_
                  obtain rfl := Option.some.inj h
                  exact jx_ret [] (.bool (((((t_22.2.2 == 0) && ((t_22.1.length : Int) == 0)) && ((t_22.2.1.length : Int) == 0)) && (i_19 == t_8.1)) && (i_20 == t_8.2.1))) [] rfl (by kernel_rfl) (by kernel_rfl) (fun w hm => ⟨rfl, hm.pick [] (by kernel_rfl) (by kernel_rfl)⟩)
end Go.Proofs.YtfkjghkjimcmdaaGreat
