/- Functions of the program that the laws reach: a plain function each, and that the call comes to its answer if the plain function has one. Printed by a program. -/
import Derived.Test.YtolfkfjjifdmeaaGreatDoorT
import Derived.Test.YtolfkfjjifdmeaaGreatDoorM0
import Derived.Test.YtolfkfjjifdmeaaGreatDoorM1
import Derived.Test.YtolfkfjjifdmeaaGreatDoorM2
namespace Go.Proofs.YtolfkfjjifdmeaaGreatDoor
open Eng
set_option linter.unusedVariables false

set_option linter.unusedSectionVars false
set_option maxRecDepth 100000
variable [dsW : DrwS]
noncomputable section
/-! ### laws.FnWearActs -/
def laws_FnWearActs.k_17 (t_6 : (List GAct)) (t_8 : GWear × Int) (t_9 : Int × Int) (xs_13 : List GWornPin) (xs_15 : List Int) : Option (Bool) := (spec_ActsText t_6).bind fun t_18 => (if ((t_18.toList == (ByteArray.mk #[]).toList) && (decide ((t_6.length : Int) > 0))) = true then (if (t_9.2 == 6) = true then (spec_SameWear (⟨xs_13, xs_15⟩ : GWear) t_8.1).bind fun t_19 => some t_19 else some false) else (impl_ReadActs t_18).bind fun t_20 => (if (t_9.2 == 6) = true then (spec_SameWear (⟨xs_13, xs_15⟩ : GWear) t_8.1).bind fun t_21 => (if t_21 = true then (impl_ActsText t_6).bind fun t_22 => (if ((t_22.toList == t_18.toList) && (t_20.2 == 0)) = true then (spec_SameActs t_20.1 t_6).bind fun t_23 => some t_23 else some false) else some false) else some false))
def laws_FnWearActs.k_40 (t_3 : GFrame) (t_5 : GLives) (t_7 : GWear × Int) (t_9 : Int × Int) (t_10 : Int × Int) (i_28 : Int) (i_33 : Int) (xs_35 : List GWornPin) (xs_36 : List Int) (q_39 : Bool) : Option (((List GWornPin) × (List Int) × Int) ⊕ (Bool ⊕ ((List GWornPin) × (List Int)))) := (if q_39 = true then some (.inr (.inl false)) else (if (i_33 == 0) = true then (impl_WornOut t_3 (⟨xs_35, xs_36⟩ : GWear) t_5).bind fun t_41 => (if (t_41.2.2 != 0) = true then some (.inr (.inl false)) else (if ((decide ((t_41.1.length : Int) > 0)) || (decide ((t_41.2.1.length : Int) > 0))) = true then some (.inr (.inl (((t_9.2 == 0) && (t_10.1 == i_28)) && (t_7.2 == 8)))) else some (.inl (xs_35, xs_36, (w64 (i_28 + 1)))))) else some (.inr (.inl (((t_9.2 == 0) && (t_10.1 == i_28)) && (t_7.2 == i_33))))))
def laws_FnWearActs.k_38 (t_3 : GFrame) (t_5 : GLives) (t_7 : GWear × Int) (t_9 : Int × Int) (t_10 : Int × Int) (i_28 : Int) (xs_31 : List GWornPin) (xs_32 : List Int) (i_33 : Int) (xs_35 : List GWornPin) (xs_36 : List Int) (i_37 : Int) : Option (((List GWornPin) × (List Int) × Int) ⊕ (Bool ⊕ ((List GWornPin) × (List Int)))) := (if (i_33 != i_37) = true then laws_FnWearActs.k_40 t_3 t_5 t_7 t_9 t_10 i_28 i_33 xs_35 xs_36 true else (spec_SameWear (⟨xs_31, xs_32⟩ : GWear) (⟨xs_35, xs_36⟩ : GWear)).bind fun t_42 => laws_FnWearActs.k_40 t_3 t_5 t_7 t_9 t_10 i_28 i_33 xs_35 xs_36 (!t_42))
def laws_FnWearActs.k_34 (t_3 : GFrame) (t_5 : GLives) (t_6 : (List GAct)) (t_7 : GWear × Int) (t_9 : Int × Int) (t_10 : Int × Int) (xs_24 : List GWornPin) (xs_26 : List Int) (i_28 : Int) (xs_31 : List GWornPin) (xs_32 : List Int) (i_33 : Int) : Option (((List GWornPin) × (List Int) × Int) ⊕ (Bool ⊕ ((List GWornPin) × (List Int)))) := (ix t_6 i_28).bind fun x_43 => (spec_DoWearAct t_3 (⟨xs_24, xs_26⟩ : GWear) x_43).bind fun t_44 => laws_FnWearActs.k_38 t_3 t_5 t_7 t_9 t_10 i_28 xs_31 xs_32 i_33 t_44.1.fPins t_44.1.fStrokes t_44.2
def laws_FnWearActs.l_29 (t_3 : GFrame) (t_5 : GLives) (t_6 : (List GAct)) (t_7 : GWear × Int) (t_9 : Int × Int) (t_10 : Int × Int) : ((List GWornPin) × (List Int) × Int) → Option (((List GWornPin) × (List Int) × Int) ⊕ (Bool ⊕ ((List GWornPin) × (List Int))))
  | (xs_24, xs_26, i_28) => (if (decide (i_28 < (t_6.length : Int))) = true then (ix t_6 i_28).bind fun x_45 => (impl_DoWearAct t_3 (⟨xs_24, xs_26⟩ : GWear) x_45).bind fun t_46 => laws_FnWearActs.k_34 t_3 t_5 t_6 t_7 t_9 t_10 xs_24 xs_26 i_28 t_46.1.fPins t_46.1.fStrokes t_46.2 else some (.inr (.inr (xs_24, xs_26))))
def laws_FnWearActs.k_12 (t_3 : GFrame) (t_4 : GWear) (t_5 : GLives) (t_6 : (List GAct)) (t_7 : GWear × Int) (t_8 : GWear × Int) (t_9 : Int × Int) (t_10 : Int × Int) (q_11 : Bool) : Option (Bool) := (if q_11 = true then some false else (loop (laws_FnWearActs.l_29 t_3 t_5 t_6 t_7 t_9 t_10) (t_4.fPins, t_4.fStrokes, 0)).bind fun t_30 => match t_30 with | .inl p => some p | .inr p => laws_FnWearActs.k_17 t_6 t_8 t_9 p.1 p.2)
def laws_FnWearActs.k_2 (code0 : List Int) (more1 : List Int) (q_1 : Bool) : Option (Bool) := (if q_1 = true then some true else (spec_P6Frame code0).bind fun t_3 => (spec_P6Wear more1 t_3).bind fun t_4 => (spec_P6Lives code0).bind fun t_5 => (spec_P6Acts more1 t_3 t_4).bind fun t_6 => (impl_DoWearActs t_3 t_4 t_5 t_6).bind fun t_7 => (spec_DoWearActs t_3 t_4 t_5 t_6).bind fun t_8 => (impl_FirstBreak t_3 t_4 t_5 t_6).bind fun t_9 => (spec_FirstBreak t_3 t_4 t_5 t_6).bind fun t_10 => (if (t_7.2 != t_8.2) = true then laws_FnWearActs.k_12 t_3 t_4 t_5 t_6 t_7 t_8 t_9 t_10 true else (spec_SameWear t_7.1 t_8.1).bind fun t_47 => laws_FnWearActs.k_12 t_3 t_4 t_5 t_6 t_7 t_8 t_9 t_10 ((((!t_47) || (t_9.2 != t_10.2)) || (t_9.1 != t_10.1)) || ((t_7.2 == 0) != (t_9.2 == 6)))))
def laws_FnWearActs (code0 : List Int) (more1 : List Int) : Option (Bool) := (laws_f6big code0).bind fun t_48 => (if t_48 = true then laws_FnWearActs.k_2 code0 more1 true else (laws_f6big more1).bind fun t_49 => laws_FnWearActs.k_2 code0 more1 t_49)
set_option maxHeartbeats 8000000 in
theorem laws_FnWearActs.calls (code0 : List Int) (more1 : List Int) (w : World) (r : Bool) (g_er : Gler w) (g_lo : Gllo w) (g_ml : Glml w) (g_pw : Glpw w) {A_a : Option Addr} {A_an : Nat} (A_c : Nat) (A_h : Rw w A_a 1 encU8 code0) (A_hn : code0.length = A_an) {B_a : Option Addr} {B_an : Nat} (B_c : Nat) (B_h : Rw w B_a 1 encU8 more1) (B_hn : more1.length = B_an) (h : laws_FnWearActs code0 more1 = some r) :
    Calls Tryz.prog 4 #[(.slice A_a A_an A_c), (.slice B_a B_an B_c)] w fun e w' => ∃ v, e = .returned v ∧ (v = (.bool r) ∧ Mem w [] [] w') := by
  subst A_hn B_hn
  rw [laws_FnWearActs] at h
  refine enter (args := [(.slice A_a code0.length A_c), (.slice B_a more1.length B_c)]) Tryz.func4 rfl Tryz.ntmps4 (by kernel_rfl) (L := []) (W := []) (Mem.start w) ?_
  refine jc_seq (jc_region (qh [0] (qe (jx_then (jc_seq (jc_seq (jc_meet (fun (j : Bool) => match j with | q_1 => laws_FnWearActs.k_2 code0 more1 q_1 = some r) (fun (j : Bool) => match j with | q_1 => [(0, [], (.slice A_a code0.length A_c)), (1, [], (.slice B_a more1.length B_c)), (4, [], (.bool false)), (34, [], (.bool q_1))]) (fun (j : Bool) => match j with | q_1 => []) ?_ ?_)))))))
  ·refine jc_region (qh [0] ?_)
   obtain ⟨t_48, ht_3403, h⟩ := bd h
   refine tO (pc 0 (fun w hm => laws_f6big.calls code0 w _ A_c (hm.xr A_h) rfl ht_3403) ?_)
   rintro w v w' hm ⟨rfl, hm'⟩
   refine ⟨_, hm.app hm', jkO ?_⟩
   clear hm hm'
   refine qf [(0, 0), (0, 1)] (qp 31 h (fun h => ?_) (fun h => ?_))
   ·exact qf [(0, 3), (0, 4)] (qe (qm true h []))
   ·obtain ⟨t_49, ht_3405, h⟩ := bd h
    refine tO (pc 2 (fun w hm => laws_f6big.calls more1 w _ B_c (hm.xr B_h) rfl ht_3405) ?_)
    rintro w v w' hm ⟨rfl, hm'⟩
    refine ⟨_, hm.app hm', jkO ?_⟩
    clear hm hm'
    exact qf [(0, 5)] (qe (qm t_49 h []))
  ·rintro q_1 h
   replace h : laws_FnWearActs.k_2 code0 more1 q_1 = some r := h
   rw [laws_FnWearActs.k_2] at h
   refine jx_then (qi h (fun h => ?_) (fun h => ?_))
   ·refine jc_seq (jc_region (qh [0] (qe (jx_then (jc_ret (jx_thenr ?_))))))
    obtain rfl := Option.some.inj h
    exact qr [] (fun w hm => ⟨rfl, hm.pk []⟩)
   ·refine jc_skip (jx_then (jc_seq (jc_region (qh [0] ?_))))
    obtain ⟨t_3, ht_12, h⟩ := bd h
    refine tO (pc 0 (fun w hm => spec_P6Frame.calls code0 w _ A_c (hm.xr A_h) rfl ht_12) ?_)
    rintro w v w' hm ⟨o_13, cap_14, sp_15, _, rfl, hs_16, ho_17, rfl, hm'⟩
    refine ⟨_, hm.app hm', jkO ?_⟩
    clear hm hm'
    refine tO (qa 0 (fun b_18 => jkO (tO (qs 0 [1] (jkO (qe (jx_then (jc_seq (jc_region (qh [0,1] ?_))))))))))
    obtain ⟨t_4, ht_19, h⟩ := bd h
    refine tO (pc 0 (fun w hm => spec_P6Wear.calls more1 t_3 w _ B_c (hm.xr B_h) rfl cap_14 (hm.ow 0 o_13 89 t_3.fHammers sp_15 (fun e => (ho_17 e).1) encGHammer_len) rfl ht_19) ?_)
    rintro w v w' hm ⟨o_20, cap_21, sp_22, _, rfl, hs_23, ho_24, o_25, cap_26, sp_27, _, rfl, hs_28, ho_29, rfl, hm'⟩
    refine ⟨_, hm.app hm', jkO ?_⟩
    clear hm hm'
    refine tO (qa 0 (fun b_30 => jkO (tO (qs 0 [4] (jkO (qe (jx_then (jc_seq (jc_region (qh [0] ?_))))))))))
    obtain ⟨t_5, ht_31, h⟩ := bd h
    refine tO (pc 0 (fun w hm => spec_P6Lives.calls code0 w _ A_c (hm.xr A_h) rfl ht_31) ?_)
    rintro w v w' hm ⟨rfl, hm'⟩
    refine ⟨_, hm.app hm', jkO ?_⟩
    clear hm hm'
    refine tO (qa 0 (fun b_32 => jkO (tO (qs 0 [5] (jkO (qe (jx_then (jc_seq (jc_region (qh [0,1,4] ?_))))))))))
    obtain ⟨t_6, ht_33, h⟩ := bd h
    refine tO (pc 0 (fun w hm => spec_P6Acts.calls more1 t_3 t_4 w _ B_c (hm.xr B_h) rfl cap_14 (hm.ow 0 o_13 89 t_3.fHammers sp_15 (fun e => (ho_17 e).1) encGHammer_len) rfl cap_21 (hm.ow 2 o_20 147 t_4.fPins sp_22 (fun e => (ho_24 e).1) encGWornPin_len) rfl cap_26 (hm.ow 3 o_25 2 t_4.fStrokes sp_27 (fun e => (ho_29 e).1) encI64_len) rfl ht_33) ?_)
    rintro w v w' hm ⟨o_34, cap_35, sp_36, _, rfl, hs_37, ho_38, rfl, hm'⟩
    refine ⟨_, hm.app hm', jkO ?_⟩
    clear hm hm'
    refine qh [0] (qe (jx_then (jc_seq (jc_region (qh [1,4,5,0] ?_)))))
    obtain ⟨t_7, ht_39, h⟩ := bd h
    refine tO (pc 0 (fun w hm => impl_DoWearActs.calls t_3 t_4 t_5 t_6 w _ cap_14 (hm.ow 0 o_13 89 t_3.fHammers sp_15 (fun e => (ho_17 e).1) encGHammer_len) rfl cap_21 (hm.ow 2 o_20 147 t_4.fPins sp_22 (fun e => (ho_24 e).1) encGWornPin_len) rfl cap_26 (hm.ow 3 o_25 2 t_4.fStrokes sp_27 (fun e => (ho_29 e).1) encI64_len) rfl cap_35 (hm.ow 6 o_34 77 t_6 sp_36 (fun e => (ho_38 e).1) encGAct_len) rfl ht_39) ?_)
    rintro w v w' hm ⟨o_40, cap_41, sp_42, _, rfl, hs_43, ho_44, o_45, cap_46, sp_47, _, rfl, hs_48, ho_49, rfl, hm'⟩
    refine ⟨_, hm.app hm', jkO ?_⟩
    clear hm hm'
    refine qh [0,0,0] (tO (qa 0 (fun b_50 => jkO (tO (qs 0 [9] (jkO (qh [0] (qe (jx_then (jc_seq (jc_region (qh [1,4,5,0] ?_))))))))))))
    obtain ⟨t_8, ht_51, h⟩ := bd h
    refine tO (pc 0 (fun w hm => spec_DoWearActs.calls t_3 t_4 t_5 t_6 w _ cap_14 (hm.ow 0 o_13 89 t_3.fHammers sp_15 (fun e => (ho_17 e).1) encGHammer_len) rfl cap_21 (hm.ow 2 o_20 147 t_4.fPins sp_22 (fun e => (ho_24 e).1) encGWornPin_len) rfl cap_26 (hm.ow 3 o_25 2 t_4.fStrokes sp_27 (fun e => (ho_29 e).1) encI64_len) rfl cap_35 (hm.ow 6 o_34 77 t_6 sp_36 (fun e => (ho_38 e).1) encGAct_len) rfl ht_51) ?_)
    rintro w v w' hm ⟨o_52, cap_53, sp_54, _, rfl, hs_55, ho_56, o_57, cap_58, sp_59, _, rfl, hs_60, ho_61, rfl, hm'⟩
    refine ⟨_, hm.app hm', jkO ?_⟩
    clear hm hm'
    refine qh [0,0,0] (tO (qa 0 (fun b_62 => jkO (tO (qs 0 [12] (jkO (qh [0] (qe (jx_then (jc_seq (jc_region (qh [1,4,5,0] ?_))))))))))))
    obtain ⟨t_9, ht_63, h⟩ := bd h
    refine tO (pc 0 (fun w hm => impl_FirstBreak.calls t_3 t_4 t_5 t_6 w _ cap_14 (hm.ow 0 o_13 89 t_3.fHammers sp_15 (fun e => (ho_17 e).1) encGHammer_len) rfl cap_21 (hm.ow 2 o_20 147 t_4.fPins sp_22 (fun e => (ho_24 e).1) encGWornPin_len) rfl cap_26 (hm.ow 3 o_25 2 t_4.fStrokes sp_27 (fun e => (ho_29 e).1) encI64_len) rfl cap_35 (hm.ow 6 o_34 77 t_6 sp_36 (fun e => (ho_38 e).1) encGAct_len) rfl ht_63) ?_)
    rintro w v w' hm ⟨rfl, hm'⟩
    refine ⟨_, hm.app hm', jkO ?_⟩
    clear hm hm'
    refine qh [0,0,0,0,0] (qe (jx_then (jc_seq (jc_region (qh [1,4,5,0] ?_)))))
    obtain ⟨t_10, ht_64, h⟩ := bd h
    refine tO (pc 0 (fun w hm => spec_FirstBreak.calls t_3 t_4 t_5 t_6 w _ cap_14 (hm.ow 0 o_13 89 t_3.fHammers sp_15 (fun e => (ho_17 e).1) encGHammer_len) rfl cap_21 (hm.ow 2 o_20 147 t_4.fPins sp_22 (fun e => (ho_24 e).1) encGWornPin_len) rfl cap_26 (hm.ow 3 o_25 2 t_4.fStrokes sp_27 (fun e => (ho_29 e).1) encI64_len) rfl cap_35 (hm.ow 6 o_34 77 t_6 sp_36 (fun e => (ho_38 e).1) encGAct_len) rfl ht_64) ?_)
    rintro w v w' hm ⟨rfl, hm'⟩
    refine ⟨_, hm.app hm', jkO ?_⟩
    clear hm hm'
    refine qh [0,0,0,0,0] (qe (jx_then (jc_seq (jc_seq (jc_meet (fun (j : Bool) => match j with | q_11 => laws_FnWearActs.k_12 t_3 t_4 t_5 t_6 t_7 t_8 t_9 t_10 q_11 = some r) (fun (j : Bool) => match j with | q_11 => [(4, [], (.bool false)), (5, [], (.pointer (some ⟨b_18, 0, none⟩))), (6, [], (.pointer (some ⟨b_30, 0, none⟩))), (7, [], (.pointer (some ⟨b_32, 0, none⟩))), (8, [], (.slice (o_34.map fun b => ⟨b, 0, none⟩) t_6.length cap_35)), (10, [], (.int .i64 t_7.2)), (11, [], (.pointer (some ⟨b_62, 0, none⟩))), (14, [], (.int .i64 t_9.2)), (15, [], (.int .i64 t_10.1)), (103, [], (.bool q_11))]) (fun (j : Bool) => match j with | q_11 => [⟨o_13, 89, row encGHammer t_3.fHammers sp_15⟩, ⟨some b_18, 27, [(.int .i16 t_3.fSteps), (.slice (o_13.map fun b => ⟨b, 0, none⟩) t_3.fHammers.length cap_14)]⟩, ⟨o_20, 147, row encGWornPin t_4.fPins sp_22⟩, ⟨o_25, 2, row encI64 t_4.fStrokes sp_27⟩, ⟨some b_30, 62, [(.slice (o_20.map fun b => ⟨b, 0, none⟩) t_4.fPins.length cap_21), (.slice (o_25.map fun b => ⟨b, 0, none⟩) t_4.fStrokes.length cap_26)]⟩, ⟨some b_32, 65, [(.int .i64 t_5.fPin), (.int .i64 t_5.fHammer)]⟩, ⟨o_34, 77, row encGAct t_6 sp_36⟩, ⟨o_40, 147, row encGWornPin t_7.1.fPins sp_42⟩, ⟨o_45, 2, row encI64 t_7.1.fStrokes sp_47⟩, ⟨some b_50, 62, [(.slice (o_40.map fun b => ⟨b, 0, none⟩) t_7.1.fPins.length cap_41), (.slice (o_45.map fun b => ⟨b, 0, none⟩) t_7.1.fStrokes.length cap_46)]⟩, ⟨o_52, 147, row encGWornPin t_8.1.fPins sp_54⟩, ⟨o_57, 2, row encI64 t_8.1.fStrokes sp_59⟩, ⟨some b_62, 62, [(.slice (o_52.map fun b => ⟨b, 0, none⟩) t_8.1.fPins.length cap_53), (.slice (o_57.map fun b => ⟨b, 0, none⟩) t_8.1.fStrokes.length cap_58)]⟩]) ?_ ?_)))))
    ·refine jc_region (qf [(0, 0), (0, 0), (0, 0), (0, 0), (9, 1), (12, 1)] (qp 81 h (fun h => ?_) (fun h => ?_)))
     ·exact qf [(0, 3), (0, 3), (0, 4), (0, 0), (0, 3), (0, 3), (0, 3), (0, 4), (0, 0), (0, 3), (0, 3), (0, 3), (0, 4), (0, 0), (0, 3), (0, 3), (0, 3), (0, 3), (0, 3), (0, 4)] (qe (qm true h [0, 1, 2, 3, 4, 5, 6, 7, 8, 9, 10, 11, 12]))
     ·obtain ⟨t_47, ht_3402, h⟩ := bd h
      refine tO (pc 2 (fun w hm => spec_SameWear.calls t_7.1 t_8.1 w _ cap_41 (hm.ow 7 o_40 147 t_7.1.fPins sp_42 (fun e => (ho_44 e).1) encGWornPin_len) rfl cap_46 (hm.ow 8 o_45 2 t_7.1.fStrokes sp_47 (fun e => (ho_49 e).1) encI64_len) rfl cap_53 (hm.ow 10 o_52 147 t_8.1.fPins sp_54 (fun e => (ho_56 e).1) encGWornPin_len) rfl cap_58 (hm.ow 11 o_57 2 t_8.1.fStrokes sp_59 (fun e => (ho_61 e).1) encI64_len) rfl ht_3402) ?_)
      rintro w v w' hm ⟨rfl, hm'⟩
      refine ⟨_, hm.app hm', jkO ?_⟩
      clear hm hm'
      exact qf [(0, 2), (0, 5), (0, 0), (0, 1), (0, 1), (0, 1), (0, 0), (0, 0), (0, 1), (0, 1), (0, 1), (0, 0), (0, 0), (0, 1), (0, 1), (0, 1), (0, 1), (0, 1), (0, 0)] (qe (qm ((((!t_47) || (t_9.2 != t_10.2)) || (t_9.1 != t_10.1)) || ((t_7.2 == 0) != (t_9.2 == 6))) h [0, 1, 2, 3, 4, 5, 6, 7, 8, 9, 10, 11, 12]))
    ·rintro q_11 h
     replace h : laws_FnWearActs.k_12 t_3 t_4 t_5 t_6 t_7 t_8 t_9 t_10 q_11 = some r := h
     rw [laws_FnWearActs.k_12] at h
     refine jx_then (qi h (fun h => ?_) (fun h => ?_))
     ·refine jc_seq (jc_region (qh [0] (qe (jx_then (jc_ret (jx_thenr ?_))))))
      obtain rfl := Option.some.inj h
      exact qr [] (fun w hm => ⟨rfl, hm.pk []⟩)
     ·refine jc_skip (jx_then (jc_seq (jc_region (qh [4] (tO (qa 0 (fun b_73 => jkO (tO (qs 0 [13] (jkO (qe (jx_then (jc_seq (jc_seq (jc_region (qh [0] (qe (jx_then (jc_meet (fun (j : (List GWornPin) × (List Int) × (Option Nat) × Nat × (List Value) × Nat × (Option Addr) × (Option Nat) × Nat × (List Value) × Nat × (Option Addr)) => match j with | ⟨xs_13, xs_15, o_2549, cap_2550, sp_2551, n_2552, a_14, o_2555, cap_2556, sp_2557, n_2558, a_16⟩ => laws_FnWearActs.k_17 t_6 t_8 t_9 xs_13 xs_15 = some r ∧ (xs_13.length = n_2552) ∧ (EiA o_2549 a_14 xs_13 (o_20.map fun b => ⟨b, 0, none⟩) t_4.fPins) ∧ (xs_15.length = n_2558) ∧ (EiA o_2555 a_16 xs_15 (o_25.map fun b => ⟨b, 0, none⟩) t_4.fStrokes)) (fun (j : (List GWornPin) × (List Int) × (Option Nat) × Nat × (List Value) × Nat × (Option Addr) × (Option Nat) × Nat × (List Value) × Nat × (Option Addr)) => match j with | ⟨xs_13, xs_15, o_2549, cap_2550, sp_2551, n_2552, a_14, o_2555, cap_2556, sp_2557, n_2558, a_16⟩ => [(4, [], (.bool false)), (8, [], (.slice (o_34.map fun b => ⟨b, 0, none⟩) t_6.length cap_35)), (11, [], (.pointer (some ⟨b_62, 0, none⟩))), (14, [], (.int .i64 t_9.2)), (17, [], (.pointer (some ⟨b_73, 0, none⟩)))]) (fun (j : (List GWornPin) × (List Int) × (Option Nat) × Nat × (List Value) × Nat × (Option Addr) × (Option Nat) × Nat × (List Value) × Nat × (Option Addr)) => match j with | ⟨xs_13, xs_15, o_2549, cap_2550, sp_2551, n_2552, a_14, o_2555, cap_2556, sp_2557, n_2558, a_16⟩ => [⟨o_13, 89, row encGHammer t_3.fHammers sp_15⟩, ⟨some b_18, 27, [(.int .i16 t_3.fSteps), (.slice (o_13.map fun b => ⟨b, 0, none⟩) t_3.fHammers.length cap_14)]⟩, ⟨o_20, 147, row encGWornPin t_4.fPins sp_22⟩, ⟨o_25, 2, row encI64 t_4.fStrokes sp_27⟩, ⟨some b_30, 62, [(.slice (o_20.map fun b => ⟨b, 0, none⟩) t_4.fPins.length cap_21), (.slice (o_25.map fun b => ⟨b, 0, none⟩) t_4.fStrokes.length cap_26)]⟩, ⟨some b_32, 65, [(.int .i64 t_5.fPin), (.int .i64 t_5.fHammer)]⟩, ⟨o_34, 77, row encGAct t_6 sp_36⟩, ⟨o_40, 147, row encGWornPin t_7.1.fPins sp_42⟩, ⟨o_45, 2, row encI64 t_7.1.fStrokes sp_47⟩, ⟨some b_50, 62, [(.slice (o_40.map fun b => ⟨b, 0, none⟩) t_7.1.fPins.length cap_41), (.slice (o_45.map fun b => ⟨b, 0, none⟩) t_7.1.fStrokes.length cap_46)]⟩, ⟨o_52, 147, row encGWornPin t_8.1.fPins sp_54⟩, ⟨o_57, 2, row encI64 t_8.1.fStrokes sp_59⟩, ⟨some b_62, 62, [(.slice (o_52.map fun b => ⟨b, 0, none⟩) t_8.1.fPins.length cap_53), (.slice (o_57.map fun b => ⟨b, 0, none⟩) t_8.1.fStrokes.length cap_58)]⟩, ⟨some b_73, 62, [(.slice a_14 n_2552 cap_2550), (.slice a_16 n_2558 cap_2556)]⟩, ⟨o_2549, 147, row encGWornPin xs_13 sp_2551⟩, ⟨o_2555, 2, row encI64 xs_15 sp_2557⟩]) ?_ ?_)))))))))))))))))))
      ·refine jc_block ?_
       obtain ⟨t_30, ht_3400, hr_3240⟩ := bd h
       refine jc_ghostX 147 encGWornPin t_4.fPins (jc_ghostX 2 encI64 t_4.fStrokes (jc_loop (fun (s : (List GWornPin) × (List Int) × Int) (x : (Option Nat) × Nat × (List Value) × Nat × (Option Addr) × (Option Nat) × Nat × (List Value) × Nat × (Option Addr)) => match s, x with | ⟨xs_24, xs_26, i_28⟩, ⟨o_3228, cap_3229, sp_3230, n_3231, a_25, o_3234, cap_3235, sp_3236, n_3237, a_27⟩ => (xs_24.length = n_3231) ∧ (EiA o_3228 a_25 xs_24 (o_20.map fun b => ⟨b, 0, none⟩) t_4.fPins) ∧ (xs_26.length = n_3237) ∧ (EiA o_3234 a_27 xs_26 (o_25.map fun b => ⟨b, 0, none⟩) t_4.fStrokes)) (fun (s : (List GWornPin) × (List Int) × Int) (x : (Option Nat) × Nat × (List Value) × Nat × (Option Addr) × (Option Nat) × Nat × (List Value) × Nat × (Option Addr)) => match s, x with | ⟨xs_24, xs_26, i_28⟩, ⟨o_3228, cap_3229, sp_3230, n_3231, a_25, o_3234, cap_3235, sp_3236, n_3237, a_27⟩ => [(4, [], (.bool false)), (5, [], (.pointer (some ⟨b_18, 0, none⟩))), (7, [], (.pointer (some ⟨b_32, 0, none⟩))), (8, [], (.slice (o_34.map fun b => ⟨b, 0, none⟩) t_6.length cap_35)), (10, [], (.int .i64 t_7.2)), (11, [], (.pointer (some ⟨b_62, 0, none⟩))), (14, [], (.int .i64 t_9.2)), (15, [], (.int .i64 t_10.1)), (17, [], (.pointer (some ⟨b_73, 0, none⟩))), (18, [], (.int .i64 i_28))]) (fun (s : (List GWornPin) × (List Int) × Int) (x : (Option Nat) × Nat × (List Value) × Nat × (Option Addr) × (Option Nat) × Nat × (List Value) × Nat × (Option Addr)) => match s, x with | ⟨xs_24, xs_26, i_28⟩, ⟨o_3228, cap_3229, sp_3230, n_3231, a_25, o_3234, cap_3235, sp_3236, n_3237, a_27⟩ => [⟨o_13, 89, row encGHammer t_3.fHammers sp_15⟩, ⟨some b_18, 27, [(.int .i16 t_3.fSteps), (.slice (o_13.map fun b => ⟨b, 0, none⟩) t_3.fHammers.length cap_14)]⟩, ⟨o_20, 147, row encGWornPin t_4.fPins sp_22⟩, ⟨o_25, 2, row encI64 t_4.fStrokes sp_27⟩, ⟨some b_30, 62, [(.slice (o_20.map fun b => ⟨b, 0, none⟩) t_4.fPins.length cap_21), (.slice (o_25.map fun b => ⟨b, 0, none⟩) t_4.fStrokes.length cap_26)]⟩, ⟨some b_32, 65, [(.int .i64 t_5.fPin), (.int .i64 t_5.fHammer)]⟩, ⟨o_34, 77, row encGAct t_6 sp_36⟩, ⟨o_40, 147, row encGWornPin t_7.1.fPins sp_42⟩, ⟨o_45, 2, row encI64 t_7.1.fStrokes sp_47⟩, ⟨some b_50, 62, [(.slice (o_40.map fun b => ⟨b, 0, none⟩) t_7.1.fPins.length cap_41), (.slice (o_45.map fun b => ⟨b, 0, none⟩) t_7.1.fStrokes.length cap_46)]⟩, ⟨o_52, 147, row encGWornPin t_8.1.fPins sp_54⟩, ⟨o_57, 2, row encI64 t_8.1.fStrokes sp_59⟩, ⟨some b_62, 62, [(.slice (o_52.map fun b => ⟨b, 0, none⟩) t_8.1.fPins.length cap_53), (.slice (o_57.map fun b => ⟨b, 0, none⟩) t_8.1.fStrokes.length cap_58)]⟩, ⟨some b_73, 62, [(.slice a_25 n_3231 cap_3229), (.slice a_27 n_3237 cap_3235)]⟩, ⟨o_3228, 147, row encGWornPin xs_24 sp_3230⟩, ⟨o_3234, 2, row encI64 xs_26 sp_3236⟩]) ht_3400 ⟨(none : Option Nat), cap_21, ([] : List Value), t_4.fPins.length, (o_20.map fun b => ⟨b, 0, none⟩), (none : Option Nat), cap_26, ([] : List Value), t_4.fStrokes.length, (o_25.map fun b => ⟨b, 0, none⟩)⟩ ⟨rfl, (.inr ⟨rfl, rfl, rfl⟩), rfl, (.inr ⟨rfl, rfl, rfl⟩)⟩ (by kernel_rfl) [0, 1, 2, 3, 4, 5, 6, 7, 8, 9, 10, 11, 12, 13, 14, 15] (by kernel_rfl) (by kernel_rfl) ?_))
       rintro ⟨xs_24, xs_26, i_28⟩ ⟨o_3228, cap_3229, sp_3230, n_3231, a_25, o_3234, cap_3235, sp_3236, n_3237, a_27⟩ y_3241 ⟨hn_3233, he_3232, hn_3239, he_3238⟩ h
       rw [laws_FnWearActs.l_29] at h
       refine jc_seq (jc_seq (jc_region (qh [0,0,0,0] (qe (jx_then (qi h (fun h => ?_) (fun h => ?_)))))))
       ·refine jc_skip (jx_then (jc_seq (jc_block (jc_seq (jc_meet (fun (j : (List GWornPin) × (List Int) × Int × Nat × (Option Nat) × Nat × (List Value) × Nat × (Option Nat) × Nat × (List Value) × Nat) => match j with | ⟨xs_31, xs_32, i_33, b_3269, o_3270, cap_3271, sp_3272, n_3273, o_3276, cap_3277, sp_3278, n_3279⟩ => laws_FnWearActs.k_34 t_3 t_5 t_6 t_7 t_9 t_10 xs_24 xs_26 i_28 xs_31 xs_32 i_33 = some y_3241 ∧ (xs_31.length = n_3273) ∧ ((o_3270 ≠ none → n_3273 ≤ cap_3271 ∧ sp_3272.length = (cap_3271 - n_3273) * 3)) ∧ ((o_3270 = none → xs_31 = [] ∧ cap_3271 = 0)) ∧ (xs_32.length = n_3279) ∧ ((o_3276 ≠ none → n_3279 ≤ cap_3277 ∧ sp_3278.length = (cap_3277 - n_3279) * 1)) ∧ ((o_3276 = none → xs_32 = [] ∧ cap_3277 = 0))) (fun (j : (List GWornPin) × (List Int) × Int × Nat × (Option Nat) × Nat × (List Value) × Nat × (Option Nat) × Nat × (List Value) × Nat) => match j with | ⟨xs_31, xs_32, i_33, b_3269, o_3270, cap_3271, sp_3272, n_3273, o_3276, cap_3277, sp_3278, n_3279⟩ => [(4, [], (.bool false)), (5, [], (.pointer (some ⟨b_18, 0, none⟩))), (7, [], (.pointer (some ⟨b_32, 0, none⟩))), (8, [], (.slice (o_34.map fun b => ⟨b, 0, none⟩) t_6.length cap_35)), (10, [], (.int .i64 t_7.2)), (11, [], (.pointer (some ⟨b_62, 0, none⟩))), (14, [], (.int .i64 t_9.2)), (15, [], (.int .i64 t_10.1)), (17, [], (.pointer (some ⟨b_73, 0, none⟩))), (18, [], (.int .i64 i_28)), (19, [], (.pointer (some ⟨b_3269, 0, none⟩))), (20, [], (.int .i64 i_33))]) (fun (j : (List GWornPin) × (List Int) × Int × Nat × (Option Nat) × Nat × (List Value) × Nat × (Option Nat) × Nat × (List Value) × Nat) => match j with | ⟨xs_31, xs_32, i_33, b_3269, o_3270, cap_3271, sp_3272, n_3273, o_3276, cap_3277, sp_3278, n_3279⟩ => [⟨o_13, 89, row encGHammer t_3.fHammers sp_15⟩, ⟨some b_18, 27, [(.int .i16 t_3.fSteps), (.slice (o_13.map fun b => ⟨b, 0, none⟩) t_3.fHammers.length cap_14)]⟩, ⟨o_20, 147, row encGWornPin t_4.fPins sp_22⟩, ⟨o_25, 2, row encI64 t_4.fStrokes sp_27⟩, ⟨some b_30, 62, [(.slice (o_20.map fun b => ⟨b, 0, none⟩) t_4.fPins.length cap_21), (.slice (o_25.map fun b => ⟨b, 0, none⟩) t_4.fStrokes.length cap_26)]⟩, ⟨some b_32, 65, [(.int .i64 t_5.fPin), (.int .i64 t_5.fHammer)]⟩, ⟨o_34, 77, row encGAct t_6 sp_36⟩, ⟨o_40, 147, row encGWornPin t_7.1.fPins sp_42⟩, ⟨o_45, 2, row encI64 t_7.1.fStrokes sp_47⟩, ⟨some b_50, 62, [(.slice (o_40.map fun b => ⟨b, 0, none⟩) t_7.1.fPins.length cap_41), (.slice (o_45.map fun b => ⟨b, 0, none⟩) t_7.1.fStrokes.length cap_46)]⟩, ⟨o_52, 147, row encGWornPin t_8.1.fPins sp_54⟩, ⟨o_57, 2, row encI64 t_8.1.fStrokes sp_59⟩, ⟨some b_62, 62, [(.slice (o_52.map fun b => ⟨b, 0, none⟩) t_8.1.fPins.length cap_53), (.slice (o_57.map fun b => ⟨b, 0, none⟩) t_8.1.fStrokes.length cap_58)]⟩, ⟨some b_73, 62, [(.slice a_25 n_3231 cap_3229), (.slice a_27 n_3237 cap_3235)]⟩, ⟨o_3228, 147, row encGWornPin xs_24 sp_3230⟩, ⟨o_3234, 2, row encI64 xs_26 sp_3236⟩, ⟨some b_3269, 62, [(.slice (o_3270.map fun b => ⟨b, 0, none⟩) n_3273 cap_3271), (.slice (o_3276.map fun b => ⟨b, 0, none⟩) n_3279 cap_3277)]⟩, ⟨o_3270, 147, row encGWornPin xs_31 sp_3272⟩, ⟨o_3276, 2, row encI64 xs_32 sp_3278⟩]) ?_ ?_)))))
        ·refine qg [⟨o_13, 89, row encGHammer t_3.fHammers sp_15⟩, ⟨some b_18, 27, [(.int .i16 t_3.fSteps), (.slice (o_13.map fun b => ⟨b, 0, none⟩) t_3.fHammers.length cap_14)]⟩, ⟨o_20, 147, row encGWornPin t_4.fPins sp_22⟩, ⟨o_25, 2, row encI64 t_4.fStrokes sp_27⟩, ⟨some b_30, 62, [(.slice (o_20.map fun b => ⟨b, 0, none⟩) t_4.fPins.length cap_21), (.slice (o_25.map fun b => ⟨b, 0, none⟩) t_4.fStrokes.length cap_26)]⟩, ⟨some b_32, 65, [(.int .i64 t_5.fPin), (.int .i64 t_5.fHammer)]⟩, ⟨o_34, 77, row encGAct t_6 sp_36⟩, ⟨o_40, 147, row encGWornPin t_7.1.fPins sp_42⟩, ⟨o_45, 2, row encI64 t_7.1.fStrokes sp_47⟩, ⟨some b_50, 62, [(.slice (o_40.map fun b => ⟨b, 0, none⟩) t_7.1.fPins.length cap_41), (.slice (o_45.map fun b => ⟨b, 0, none⟩) t_7.1.fStrokes.length cap_46)]⟩, ⟨o_52, 147, row encGWornPin t_8.1.fPins sp_54⟩, ⟨o_57, 2, row encI64 t_8.1.fStrokes sp_59⟩, ⟨some b_62, 62, [(.slice (o_52.map fun b => ⟨b, 0, none⟩) t_8.1.fPins.length cap_53), (.slice (o_57.map fun b => ⟨b, 0, none⟩) t_8.1.fStrokes.length cap_58)]⟩, ⟨some b_73, 62, [(.slice a_25 n_3231 cap_3229), (.slice a_27 n_3237 cap_3235)]⟩, ⟨o_3228, 147, row encGWornPin xs_24 sp_3230⟩, ⟨o_3234, 2, row encI64 xs_26 sp_3236⟩] 13 (qd [⟨0, 1, 0⟩,⟨1, 13, 0⟩,⟨2, 0, 0⟩,⟨3, 0, 0⟩] 9 [0, 1, 2, 3, 4, 5, 6, 7, 8, 9, 10, 11, 12, 13, 14, 15] ?_)
         obtain ⟨x_45, hx_3374, h⟩ := bd h
         refine qv 4 0 [0, 1, 2, 3, 4, 5, 6, 7, 8, 9, 10, 11, 12, 13, 14, 15] (fun w hm => idx_run (a := (o_34.map fun b => ⟨b, 0, none⟩)) (len := t_6.length) (s := 5) (j := i_28) (by kernel_rfl) (ix_some hx_3374).1 (ltn hx_3374 rfl) (spo ho_38 hx_3374)) (qv 5 0 [0, 1, 2, 3, 4, 5, 6, 7, 8, 9, 10, 11, 12, 13, 14, 15] (fun w hm => ld_run (b := aB (o_34.map fun b => ⟨b, 0, none⟩)) (off := (aO (o_34.map fun b => ⟨b, 0, none⟩) + i_28.toNat * 5)) (s := 5) (agg := true) (vs := (encGAct x_45)) (by kernel_rfl) (by kernel_rfl) (.inl rfl) ((hm.ow 6 o_34 77 t_6 sp_36 (fun e => (ho_38 e).1) encGAct_len).at hx_3374)) (toD2 6 10 (by kernel_rfl) ?_ ?_))
         ·obtain ⟨t_46, ht_3375, h⟩ := bd h
          refine pc 0 (fun w hm => impl_DoWearAct.calls t_3 (⟨xs_24, xs_26⟩ : GWear) x_45 w _ cap_14 (hm.ow 0 o_13 89 t_3.fHammers sp_15 (fun e => (ho_17 e).1) encGHammer_len) rfl cap_3229 (hm.eiRowA (hh := 14) (o := o_3228) (T := 147) (enc := encGWornPin) (xs := xs_24) (sp := sp_3230) (by kernel_rfl) he_3232 (hm.ow 2 o_20 147 t_4.fPins sp_22 (fun e => (ho_24 e).1) encGWornPin_len) encGWornPin_len) hn_3233 cap_3235 (hm.eiRowA (hh := 15) (o := o_3234) (T := 2) (enc := encI64) (xs := xs_26) (sp := sp_3236) (by kernel_rfl) he_3238 (hm.ow 3 o_25 2 t_4.fStrokes sp_27 (fun e => (ho_29 e).1) encI64_len) encI64_len) hn_3239 ht_3375) ?_
          rintro w v w' hm ⟨o_3376, cap_3377, sp_3378, _, rfl, hs_3379, ho_3380, o_3381, cap_3382, sp_3383, _, rfl, hs_3384, ho_3385, rfl, hm'⟩
          refine ⟨_, hm.app hm', kD [0, 1, 2, 3, 4, 5, 6, 7, 8, 9, 10, 11, 12, 13, 14, 15] ?_⟩
          clear hm hm'
          exact qd [⟨7, 0, 0⟩,⟨8, 0, 0⟩,⟨9, 0, 0⟩] 3 [0, 1, 2, 3, 4, 5, 6, 7, 8, 9, 10, 11, 12, 13, 14, 15] (tD 10 (qa 0 (fun b_3386 => kD [0, 1, 2, 3, 4, 5, 6, 7, 8, 9, 10, 11, 12, 13, 14, 15] (tD 11 (qs 0 [18] (kD [0, 1, 2, 3, 4, 5, 6, 7, 8, 9, 10, 11, 12, 13, 14, 15] (qd [⟨12, 0, 0⟩] 0 [0, 1, 2, 3, 4, 5, 6, 7, 8, 9, 10, 11, 12, 13, 14, 15] (qz (qm ⟨t_46.1.fPins, t_46.1.fStrokes, t_46.2, b_3386, o_3376, cap_3377, sp_3378, t_46.1.fPins.length, o_3381, cap_3382, sp_3383, t_46.1.fStrokes.length⟩ ⟨h, rfl, hs_3379, ho_3380, rfl, hs_3384, ho_3385⟩ [0, 1, 2, 3, 4, 5, 6, 7, 8, 9, 10, 11, 12, 13, 14, 15, 18, 16, 17])))))))))
         ·refine qa 0 (fun b_3387 => kD [0, 1, 2, 3, 4, 5, 6, 7, 8, 9, 10, 11, 12, 13, 14, 15] ?_)
          obtain ⟨t_46, ht_3388, h⟩ := bd h
          refine tD 6 (pc 0 (fun w hm => impl_DoWearAct.calls t_3 (⟨xs_24, xs_26⟩ : GWear) x_45 w _ cap_14 (hm.ow 0 o_13 89 t_3.fHammers sp_15 (fun e => (ho_17 e).1) encGHammer_len) rfl cap_3229 (hm.eiRowA (hh := 14) (o := o_3228) (T := 147) (enc := encGWornPin) (xs := xs_24) (sp := sp_3230) (by kernel_rfl) he_3232 (hm.ow 2 o_20 147 t_4.fPins sp_22 (fun e => (ho_24 e).1) encGWornPin_len) encGWornPin_len) hn_3233 cap_3235 (hm.eiRowA (hh := 15) (o := o_3234) (T := 2) (enc := encI64) (xs := xs_26) (sp := sp_3236) (by kernel_rfl) he_3238 (hm.ow 3 o_25 2 t_4.fStrokes sp_27 (fun e => (ho_29 e).1) encI64_len) encI64_len) hn_3239 ht_3388) ?_)
          rintro w v w' hm ⟨o_3389, cap_3390, sp_3391, _, rfl, hs_3392, ho_3393, o_3394, cap_3395, sp_3396, _, rfl, hs_3397, ho_3398, rfl, hm'⟩
          refine ⟨_, hm.app hm', kD [0, 1, 2, 3, 4, 5, 6, 7, 8, 9, 10, 11, 12, 13, 14, 15] ?_⟩
          clear hm hm'
          exact qd [⟨7, 0, 0⟩,⟨8, 0, 0⟩,⟨9, 0, 0⟩] 2 [0, 1, 2, 3, 4, 5, 6, 7, 8, 9, 10, 11, 12, 13, 14, 15] (tD 11 (qs 0 [16] (kD [0, 1, 2, 3, 4, 5, 6, 7, 8, 9, 10, 11, 12, 13, 14, 15] (qd [⟨12, 0, 0⟩] 0 [0, 1, 2, 3, 4, 5, 6, 7, 8, 9, 10, 11, 12, 13, 14, 15] (qz (qm ⟨t_46.1.fPins, t_46.1.fStrokes, t_46.2, b_3387, o_3389, cap_3390, sp_3391, t_46.1.fPins.length, o_3394, cap_3395, sp_3396, t_46.1.fStrokes.length⟩ ⟨h, rfl, hs_3392, ho_3393, rfl, hs_3397, ho_3398⟩ [0, 1, 2, 3, 4, 5, 6, 7, 8, 9, 10, 11, 12, 13, 14, 15, 16, 17, 18]))))))
        ·rintro ⟨xs_31, xs_32, i_33, b_3269, o_3270, cap_3271, sp_3272, n_3273, o_3276, cap_3277, sp_3278, n_3279⟩ ⟨h, rfl, hs_3274, ho_3275, rfl, hs_3280, ho_3281⟩
         replace h : laws_FnWearActs.k_34 t_3 t_5 t_6 t_7 t_9 t_10 xs_24 xs_26 i_28 xs_31 xs_32 i_33 = some y_3241 := h
         rw [laws_FnWearActs.k_34] at h
         refine jx_then (jc_seq (jc_meet (fun (j : (List GWornPin) × (List Int) × Int × Nat × (Option Nat) × Nat × (List Value) × Nat × (Option Nat) × Nat × (List Value) × Nat) => match j with | ⟨xs_35, xs_36, i_37, b_3307, o_3308, cap_3309, sp_3310, n_3311, o_3314, cap_3315, sp_3316, n_3317⟩ => laws_FnWearActs.k_38 t_3 t_5 t_7 t_9 t_10 i_28 xs_31 xs_32 i_33 xs_35 xs_36 i_37 = some y_3241 ∧ (xs_35.length = n_3311) ∧ ((o_3308 ≠ none → n_3311 ≤ cap_3309 ∧ sp_3310.length = (cap_3309 - n_3311) * 3)) ∧ ((o_3308 = none → xs_35 = [] ∧ cap_3309 = 0)) ∧ (xs_36.length = n_3317) ∧ ((o_3314 ≠ none → n_3317 ≤ cap_3315 ∧ sp_3316.length = (cap_3315 - n_3317) * 1)) ∧ ((o_3314 = none → xs_36 = [] ∧ cap_3315 = 0))) (fun (j : (List GWornPin) × (List Int) × Int × Nat × (Option Nat) × Nat × (List Value) × Nat × (Option Nat) × Nat × (List Value) × Nat) => match j with | ⟨xs_35, xs_36, i_37, b_3307, o_3308, cap_3309, sp_3310, n_3311, o_3314, cap_3315, sp_3316, n_3317⟩ => [(4, [], (.bool false)), (5, [], (.pointer (some ⟨b_18, 0, none⟩))), (7, [], (.pointer (some ⟨b_32, 0, none⟩))), (8, [], (.slice (o_34.map fun b => ⟨b, 0, none⟩) t_6.length cap_35)), (10, [], (.int .i64 t_7.2)), (11, [], (.pointer (some ⟨b_62, 0, none⟩))), (14, [], (.int .i64 t_9.2)), (15, [], (.int .i64 t_10.1)), (17, [], (.pointer (some ⟨b_73, 0, none⟩))), (18, [], (.int .i64 i_28)), (19, [], (.pointer (some ⟨b_3269, 0, none⟩))), (20, [], (.int .i64 i_33)), (21, [], (.pointer (some ⟨b_3307, 0, none⟩))), (22, [], (.int .i64 i_37))]) (fun (j : (List GWornPin) × (List Int) × Int × Nat × (Option Nat) × Nat × (List Value) × Nat × (Option Nat) × Nat × (List Value) × Nat) => match j with | ⟨xs_35, xs_36, i_37, b_3307, o_3308, cap_3309, sp_3310, n_3311, o_3314, cap_3315, sp_3316, n_3317⟩ => [⟨o_13, 89, row encGHammer t_3.fHammers sp_15⟩, ⟨some b_18, 27, [(.int .i16 t_3.fSteps), (.slice (o_13.map fun b => ⟨b, 0, none⟩) t_3.fHammers.length cap_14)]⟩, ⟨o_20, 147, row encGWornPin t_4.fPins sp_22⟩, ⟨o_25, 2, row encI64 t_4.fStrokes sp_27⟩, ⟨some b_30, 62, [(.slice (o_20.map fun b => ⟨b, 0, none⟩) t_4.fPins.length cap_21), (.slice (o_25.map fun b => ⟨b, 0, none⟩) t_4.fStrokes.length cap_26)]⟩, ⟨some b_32, 65, [(.int .i64 t_5.fPin), (.int .i64 t_5.fHammer)]⟩, ⟨o_34, 77, row encGAct t_6 sp_36⟩, ⟨o_40, 147, row encGWornPin t_7.1.fPins sp_42⟩, ⟨o_45, 2, row encI64 t_7.1.fStrokes sp_47⟩, ⟨some b_50, 62, [(.slice (o_40.map fun b => ⟨b, 0, none⟩) t_7.1.fPins.length cap_41), (.slice (o_45.map fun b => ⟨b, 0, none⟩) t_7.1.fStrokes.length cap_46)]⟩, ⟨o_52, 147, row encGWornPin t_8.1.fPins sp_54⟩, ⟨o_57, 2, row encI64 t_8.1.fStrokes sp_59⟩, ⟨some b_62, 62, [(.slice (o_52.map fun b => ⟨b, 0, none⟩) t_8.1.fPins.length cap_53), (.slice (o_57.map fun b => ⟨b, 0, none⟩) t_8.1.fStrokes.length cap_58)]⟩, ⟨some b_73, 62, [(.slice a_25 n_3231 cap_3229), (.slice a_27 n_3237 cap_3235)]⟩, ⟨o_3228, 147, row encGWornPin xs_24 sp_3230⟩, ⟨o_3234, 2, row encI64 xs_26 sp_3236⟩, ⟨some b_3269, 62, [(.slice (o_3270.map fun b => ⟨b, 0, none⟩) xs_31.length cap_3271), (.slice (o_3276.map fun b => ⟨b, 0, none⟩) xs_32.length cap_3277)]⟩, ⟨o_3270, 147, row encGWornPin xs_31 sp_3272⟩, ⟨o_3276, 2, row encI64 xs_32 sp_3278⟩, ⟨some b_3307, 62, [(.slice (o_3308.map fun b => ⟨b, 0, none⟩) n_3311 cap_3309), (.slice (o_3314.map fun b => ⟨b, 0, none⟩) n_3317 cap_3315)]⟩, ⟨o_3308, 147, row encGWornPin xs_35 sp_3310⟩, ⟨o_3314, 2, row encI64 xs_36 sp_3316⟩]) ?_ ?_))
         ·refine qg [⟨o_13, 89, row encGHammer t_3.fHammers sp_15⟩, ⟨some b_18, 27, [(.int .i16 t_3.fSteps), (.slice (o_13.map fun b => ⟨b, 0, none⟩) t_3.fHammers.length cap_14)]⟩, ⟨o_20, 147, row encGWornPin t_4.fPins sp_22⟩, ⟨o_25, 2, row encI64 t_4.fStrokes sp_27⟩, ⟨some b_30, 62, [(.slice (o_20.map fun b => ⟨b, 0, none⟩) t_4.fPins.length cap_21), (.slice (o_25.map fun b => ⟨b, 0, none⟩) t_4.fStrokes.length cap_26)]⟩, ⟨some b_32, 65, [(.int .i64 t_5.fPin), (.int .i64 t_5.fHammer)]⟩, ⟨o_34, 77, row encGAct t_6 sp_36⟩, ⟨o_40, 147, row encGWornPin t_7.1.fPins sp_42⟩, ⟨o_45, 2, row encI64 t_7.1.fStrokes sp_47⟩, ⟨some b_50, 62, [(.slice (o_40.map fun b => ⟨b, 0, none⟩) t_7.1.fPins.length cap_41), (.slice (o_45.map fun b => ⟨b, 0, none⟩) t_7.1.fStrokes.length cap_46)]⟩, ⟨o_52, 147, row encGWornPin t_8.1.fPins sp_54⟩, ⟨o_57, 2, row encI64 t_8.1.fStrokes sp_59⟩, ⟨some b_62, 62, [(.slice (o_52.map fun b => ⟨b, 0, none⟩) t_8.1.fPins.length cap_53), (.slice (o_57.map fun b => ⟨b, 0, none⟩) t_8.1.fStrokes.length cap_58)]⟩, ⟨some b_73, 62, [(.slice a_25 n_3231 cap_3229), (.slice a_27 n_3237 cap_3235)]⟩, ⟨o_3228, 147, row encGWornPin xs_24 sp_3230⟩, ⟨o_3234, 2, row encI64 xs_26 sp_3236⟩, ⟨some b_3269, 62, [(.slice (o_3270.map fun b => ⟨b, 0, none⟩) xs_31.length cap_3271), (.slice (o_3276.map fun b => ⟨b, 0, none⟩) xs_32.length cap_3277)]⟩, ⟨o_3270, 147, row encGWornPin xs_31 sp_3272⟩, ⟨o_3276, 2, row encI64 xs_32 sp_3278⟩] 13 (qd [⟨0, 1, 0⟩,⟨1, 13, 0⟩,⟨2, 0, 0⟩,⟨3, 0, 0⟩] 9 [0, 1, 2, 3, 4, 5, 6, 7, 8, 9, 10, 11, 12, 13, 14, 15, 16, 17, 18] ?_)
          obtain ⟨x_43, hx_3349, h⟩ := bd h
          refine qv 4 0 [0, 1, 2, 3, 4, 5, 6, 7, 8, 9, 10, 11, 12, 13, 14, 15, 16, 17, 18] (fun w hm => idx_run (a := (o_34.map fun b => ⟨b, 0, none⟩)) (len := t_6.length) (s := 5) (j := i_28) (by kernel_rfl) (ix_some hx_3349).1 (ltn hx_3349 rfl) (spo ho_38 hx_3349)) (qv 5 0 [0, 1, 2, 3, 4, 5, 6, 7, 8, 9, 10, 11, 12, 13, 14, 15, 16, 17, 18] (fun w hm => ld_run (b := aB (o_34.map fun b => ⟨b, 0, none⟩)) (off := (aO (o_34.map fun b => ⟨b, 0, none⟩) + i_28.toNat * 5)) (s := 5) (agg := true) (vs := (encGAct x_43)) (by kernel_rfl) (by kernel_rfl) (.inl rfl) ((hm.ow 6 o_34 77 t_6 sp_36 (fun e => (ho_38 e).1) encGAct_len).at hx_3349)) (toD2 6 10 (by kernel_rfl) ?_ ?_))
          ·obtain ⟨t_44, ht_3350, h⟩ := bd h
           refine pc 0 (fun w hm => spec_DoWearAct.calls t_3 (⟨xs_24, xs_26⟩ : GWear) x_43 w _ cap_14 (hm.ow 0 o_13 89 t_3.fHammers sp_15 (fun e => (ho_17 e).1) encGHammer_len) rfl cap_3229 (hm.eiRowA (hh := 14) (o := o_3228) (T := 147) (enc := encGWornPin) (xs := xs_24) (sp := sp_3230) (by kernel_rfl) he_3232 (hm.ow 2 o_20 147 t_4.fPins sp_22 (fun e => (ho_24 e).1) encGWornPin_len) encGWornPin_len) hn_3233 cap_3235 (hm.eiRowA (hh := 15) (o := o_3234) (T := 2) (enc := encI64) (xs := xs_26) (sp := sp_3236) (by kernel_rfl) he_3238 (hm.ow 3 o_25 2 t_4.fStrokes sp_27 (fun e => (ho_29 e).1) encI64_len) encI64_len) hn_3239 ht_3350) ?_
           rintro w v w' hm ⟨o_3351, cap_3352, sp_3353, _, rfl, hs_3354, ho_3355, o_3356, cap_3357, sp_3358, _, rfl, hs_3359, ho_3360, rfl, hm'⟩
           refine ⟨_, hm.app hm', kD [0, 1, 2, 3, 4, 5, 6, 7, 8, 9, 10, 11, 12, 13, 14, 15, 16, 17, 18] ?_⟩
           clear hm hm'
           exact qd [⟨7, 0, 0⟩,⟨8, 0, 0⟩,⟨9, 0, 0⟩] 3 [0, 1, 2, 3, 4, 5, 6, 7, 8, 9, 10, 11, 12, 13, 14, 15, 16, 17, 18] (tD 10 (qa 0 (fun b_3361 => kD [0, 1, 2, 3, 4, 5, 6, 7, 8, 9, 10, 11, 12, 13, 14, 15, 16, 17, 18] (tD 11 (qs 0 [21] (kD [0, 1, 2, 3, 4, 5, 6, 7, 8, 9, 10, 11, 12, 13, 14, 15, 16, 17, 18] (qd [⟨12, 0, 0⟩] 0 [0, 1, 2, 3, 4, 5, 6, 7, 8, 9, 10, 11, 12, 13, 14, 15, 16, 17, 18] (qz (qm ⟨t_44.1.fPins, t_44.1.fStrokes, t_44.2, b_3361, o_3351, cap_3352, sp_3353, t_44.1.fPins.length, o_3356, cap_3357, sp_3358, t_44.1.fStrokes.length⟩ ⟨h, rfl, hs_3354, ho_3355, rfl, hs_3359, ho_3360⟩ [0, 1, 2, 3, 4, 5, 6, 7, 8, 9, 10, 11, 12, 13, 14, 15, 16, 17, 18, 21, 19, 20])))))))))
          ·refine qa 0 (fun b_3362 => kD [0, 1, 2, 3, 4, 5, 6, 7, 8, 9, 10, 11, 12, 13, 14, 15, 16, 17, 18] ?_)
           obtain ⟨t_44, ht_3363, h⟩ := bd h
           refine tD 6 (pc 0 (fun w hm => spec_DoWearAct.calls t_3 (⟨xs_24, xs_26⟩ : GWear) x_43 w _ cap_14 (hm.ow 0 o_13 89 t_3.fHammers sp_15 (fun e => (ho_17 e).1) encGHammer_len) rfl cap_3229 (hm.eiRowA (hh := 14) (o := o_3228) (T := 147) (enc := encGWornPin) (xs := xs_24) (sp := sp_3230) (by kernel_rfl) he_3232 (hm.ow 2 o_20 147 t_4.fPins sp_22 (fun e => (ho_24 e).1) encGWornPin_len) encGWornPin_len) hn_3233 cap_3235 (hm.eiRowA (hh := 15) (o := o_3234) (T := 2) (enc := encI64) (xs := xs_26) (sp := sp_3236) (by kernel_rfl) he_3238 (hm.ow 3 o_25 2 t_4.fStrokes sp_27 (fun e => (ho_29 e).1) encI64_len) encI64_len) hn_3239 ht_3363) ?_)
           rintro w v w' hm ⟨o_3364, cap_3365, sp_3366, _, rfl, hs_3367, ho_3368, o_3369, cap_3370, sp_3371, _, rfl, hs_3372, ho_3373, rfl, hm'⟩
           refine ⟨_, hm.app hm', kD [0, 1, 2, 3, 4, 5, 6, 7, 8, 9, 10, 11, 12, 13, 14, 15, 16, 17, 18] ?_⟩
           clear hm hm'
           exact qd [⟨7, 0, 0⟩,⟨8, 0, 0⟩,⟨9, 0, 0⟩] 2 [0, 1, 2, 3, 4, 5, 6, 7, 8, 9, 10, 11, 12, 13, 14, 15, 16, 17, 18] (tD 11 (qs 0 [19] (kD [0, 1, 2, 3, 4, 5, 6, 7, 8, 9, 10, 11, 12, 13, 14, 15, 16, 17, 18] (qd [⟨12, 0, 0⟩] 0 [0, 1, 2, 3, 4, 5, 6, 7, 8, 9, 10, 11, 12, 13, 14, 15, 16, 17, 18] (qz (qm ⟨t_44.1.fPins, t_44.1.fStrokes, t_44.2, b_3362, o_3364, cap_3365, sp_3366, t_44.1.fPins.length, o_3369, cap_3370, sp_3371, t_44.1.fStrokes.length⟩ ⟨h, rfl, hs_3367, ho_3368, rfl, hs_3372, ho_3373⟩ [0, 1, 2, 3, 4, 5, 6, 7, 8, 9, 10, 11, 12, 13, 14, 15, 16, 17, 18, 19, 20, 21]))))))
         ·rintro ⟨xs_35, xs_36, i_37, b_3307, o_3308, cap_3309, sp_3310, n_3311, o_3314, cap_3315, sp_3316, n_3317⟩ ⟨h, rfl, hs_3312, ho_3313, rfl, hs_3318, ho_3319⟩
          replace h : laws_FnWearActs.k_38 t_3 t_5 t_7 t_9 t_10 i_28 xs_31 xs_32 i_33 xs_35 xs_36 i_37 = some y_3241 := h
          rw [laws_FnWearActs.k_38] at h
          refine jx_then (jc_seq (jc_seq (jc_meet (fun (j : Bool) => match j with | q_39 => laws_FnWearActs.k_40 t_3 t_5 t_7 t_9 t_10 i_28 i_33 xs_35 xs_36 q_39 = some y_3241) (fun (j : Bool) => match j with | q_39 => [(4, [], (.bool false)), (5, [], (.pointer (some ⟨b_18, 0, none⟩))), (7, [], (.pointer (some ⟨b_32, 0, none⟩))), (8, [], (.slice (o_34.map fun b => ⟨b, 0, none⟩) t_6.length cap_35)), (10, [], (.int .i64 t_7.2)), (11, [], (.pointer (some ⟨b_62, 0, none⟩))), (14, [], (.int .i64 t_9.2)), (15, [], (.int .i64 t_10.1)), (17, [], (.pointer (some ⟨b_73, 0, none⟩))), (18, [], (.int .i64 i_28)), (20, [], (.int .i64 i_33)), (21, [], (.pointer (some ⟨b_3307, 0, none⟩))), (139, [], (.bool q_39))]) (fun (j : Bool) => match j with | q_39 => [⟨o_13, 89, row encGHammer t_3.fHammers sp_15⟩, ⟨some b_18, 27, [(.int .i16 t_3.fSteps), (.slice (o_13.map fun b => ⟨b, 0, none⟩) t_3.fHammers.length cap_14)]⟩, ⟨o_20, 147, row encGWornPin t_4.fPins sp_22⟩, ⟨o_25, 2, row encI64 t_4.fStrokes sp_27⟩, ⟨some b_30, 62, [(.slice (o_20.map fun b => ⟨b, 0, none⟩) t_4.fPins.length cap_21), (.slice (o_25.map fun b => ⟨b, 0, none⟩) t_4.fStrokes.length cap_26)]⟩, ⟨some b_32, 65, [(.int .i64 t_5.fPin), (.int .i64 t_5.fHammer)]⟩, ⟨o_34, 77, row encGAct t_6 sp_36⟩, ⟨o_40, 147, row encGWornPin t_7.1.fPins sp_42⟩, ⟨o_45, 2, row encI64 t_7.1.fStrokes sp_47⟩, ⟨some b_50, 62, [(.slice (o_40.map fun b => ⟨b, 0, none⟩) t_7.1.fPins.length cap_41), (.slice (o_45.map fun b => ⟨b, 0, none⟩) t_7.1.fStrokes.length cap_46)]⟩, ⟨o_52, 147, row encGWornPin t_8.1.fPins sp_54⟩, ⟨o_57, 2, row encI64 t_8.1.fStrokes sp_59⟩, ⟨some b_62, 62, [(.slice (o_52.map fun b => ⟨b, 0, none⟩) t_8.1.fPins.length cap_53), (.slice (o_57.map fun b => ⟨b, 0, none⟩) t_8.1.fStrokes.length cap_58)]⟩, ⟨some b_73, 62, [(.slice a_25 n_3231 cap_3229), (.slice a_27 n_3237 cap_3235)]⟩, ⟨o_3228, 147, row encGWornPin xs_24 sp_3230⟩, ⟨o_3234, 2, row encI64 xs_26 sp_3236⟩, ⟨some b_3269, 62, [(.slice (o_3270.map fun b => ⟨b, 0, none⟩) xs_31.length cap_3271), (.slice (o_3276.map fun b => ⟨b, 0, none⟩) xs_32.length cap_3277)]⟩, ⟨o_3270, 147, row encGWornPin xs_31 sp_3272⟩, ⟨o_3276, 2, row encI64 xs_32 sp_3278⟩, ⟨some b_3307, 62, [(.slice (o_3308.map fun b => ⟨b, 0, none⟩) xs_35.length cap_3309), (.slice (o_3314.map fun b => ⟨b, 0, none⟩) xs_36.length cap_3315)]⟩, ⟨o_3308, 147, row encGWornPin xs_35 sp_3310⟩, ⟨o_3314, 2, row encI64 xs_36 sp_3316⟩]) ?_ ?_)))
          ·refine jc_region (qf [(0, 0), (0, 0), (0, 0), (0, 0), (16, 1), (19, 1)] (qp 134 h (fun h => ?_) (fun h => ?_)))
           ·exact qf [(0, 3), (0, 3), (0, 4)] (qe (qm true h [0, 1, 2, 3, 4, 5, 6, 7, 8, 9, 10, 11, 12, 13, 14, 15, 16, 17, 18, 19, 20, 21]))
           ·obtain ⟨t_42, ht_3348, h⟩ := bd h
            refine tO (pc 2 (fun w hm => spec_SameWear.calls (⟨xs_31, xs_32⟩ : GWear) (⟨xs_35, xs_36⟩ : GWear) w _ cap_3271 (hm.ow 17 o_3270 147 xs_31 sp_3272 (fun e => (ho_3275 e).1) encGWornPin_len) rfl cap_3277 (hm.ow 18 o_3276 2 xs_32 sp_3278 (fun e => (ho_3281 e).1) encI64_len) rfl cap_3309 (hm.ow 20 o_3308 147 xs_35 sp_3310 (fun e => (ho_3313 e).1) encGWornPin_len) rfl cap_3315 (hm.ow 21 o_3314 2 xs_36 sp_3316 (fun e => (ho_3319 e).1) encI64_len) rfl ht_3348) ?_)
            rintro w v w' hm ⟨rfl, hm'⟩
            refine ⟨_, hm.app hm', jkO ?_⟩
            clear hm hm'
            exact qf [(0, 2), (0, 5)] (qe (qm (!t_42) h [0, 1, 2, 3, 4, 5, 6, 7, 8, 9, 10, 11, 12, 13, 14, 15, 16, 17, 18, 19, 20, 21]))
          ·rintro q_39 h
           replace h : laws_FnWearActs.k_40 t_3 t_5 t_7 t_9 t_10 i_28 i_33 xs_35 xs_36 q_39 = some y_3241 := h
           rw [laws_FnWearActs.k_40] at h
           refine jx_then (qi h (fun h => ?_) (fun h => ?_))
           ·refine jc_seq (jc_region (qh [0] (qe (jx_then (jc_ret (jx_thenr (jx_inr (jx_thenr (jx_leaver (.inl false) (Option.some.inj h).symm (fun e_3328 => ?_))))))))))
            subst e_3328
            refine jx_inr (jx_thenr (jx_thenr ?_))
            obtain rfl := Option.some.inj hr_3240
            exact qr [] (fun w hm => ⟨rfl, hm.pk []⟩)
           ·refine jc_skip (jx_then (jc_seq (jc_seq (jc_region (qh [0,0] (qe (jx_then (qi h (fun h => ?_) (fun h => ?_)))))))))
            ·refine jc_seq (jc_region (qh [1,19,5] ?_))
             obtain ⟨t_41, ht_3330, h⟩ := bd h
             refine tO (pc 0 (fun w hm => impl_WornOut.calls t_3 (⟨xs_35, xs_36⟩ : GWear) t_5 w _ cap_14 (hm.ow 0 o_13 89 t_3.fHammers sp_15 (fun e => (ho_17 e).1) encGHammer_len) rfl cap_3309 (hm.ow 20 o_3308 147 xs_35 sp_3310 (fun e => (ho_3313 e).1) encGWornPin_len) rfl cap_3315 (hm.ow 21 o_3314 2 xs_36 sp_3316 (fun e => (ho_3319 e).1) encI64_len) rfl ht_3330) ?_)
             rintro w v w' hm ⟨o_3331, cap_3332, sp_3333, _, rfl, hs_3334, ho_3335, o_3336, cap_3337, sp_3338, _, rfl, hs_3339, ho_3340, rfl, hm'⟩
             refine ⟨_, hm.app hm', jkO ?_⟩
             clear hm hm'
             refine qh [0,0,0,0,0,0,0] (qe (jx_then (jc_seq (jc_seq (jc_region (qh [0,0] (qe (jx_then (qi h (fun h => ?_) (fun h => ?_))))))))))
             ·refine jc_seq (jc_region (qh [0] (qe (jx_then (jc_ret (jx_thenr (jx_thenr (jx_inr (jx_thenr (jx_leaver (.inl false) (Option.some.inj h).symm (fun e_3343 => ?_)))))))))))
              subst e_3343
              refine jx_inr (jx_thenr (jx_thenr ?_))
              obtain rfl := Option.some.inj hr_3240
              exact qr [] (fun w hm => ⟨rfl, hm.pk []⟩)
             ·refine jc_skip (jx_then (jc_seq (jc_region (qf [(0, 0), (0, 0), (0, 0), (0, 0), (0, 1), (0, 1), (0, 1), (0, 0)] (qe (jx_then (qi h (fun h => ?_) (fun h => ?_))))))))
              ·refine jc_seq (jc_region (qf [(0, 0), (0, 0), (0, 0), (0, 1), (0, 1), (0, 1), (0, 0), (0, 0), (0, 1), (0, 1), (0, 0), (0, 0)] (qe (jx_then (jc_ret (jx_thenr (jx_inr (jx_thenr (jx_leaver (.inl (((t_9.2 == 0) && (t_10.1 == i_28)) && (t_7.2 == 8))) (Option.some.inj h).symm (fun e_3345 => ?_))))))))))
               subst e_3345
               refine jx_inr (jx_thenr (jx_thenr ?_))
               obtain rfl := Option.some.inj hr_3240
               exact qr [] (fun w hm => ⟨rfl, hm.pk []⟩)
              ·exact jc_skip (jx_then (jc_region (qh [19] (tO (qs 0 [13] (jkO (qe (jx_inn (jx_then (jc_region (qh [0,0,0] (qe (qb (xs_35, xs_36, (w64 (i_28 + 1))) ⟨o_3308, cap_3309, sp_3310, xs_35.length, (o_3308.map fun b => ⟨b, 0, none⟩), o_3314, cap_3315, sp_3316, xs_36.length, (o_3314.map fun b => ⟨b, 0, none⟩)⟩ h ⟨rfl, (.inl ⟨rfl, (fun e => (ho_3313 e).1)⟩), rfl, (.inl ⟨rfl, (fun e => (ho_3319 e).1)⟩)⟩ [0, 1, 2, 3, 4, 5, 6, 7, 8, 9, 10, 11, 12, 13, 20, 21])))))))))))))
            ·refine jc_seq (jc_region (qf [(0, 0), (0, 0), (0, 0), (0, 1), (0, 1), (0, 1), (0, 0), (0, 0), (0, 1), (0, 1), (0, 1), (0, 0), (0, 0)] (qe (jx_then (jc_ret (jx_thenr (jx_inr (jx_thenr (jx_leaver (.inl (((t_9.2 == 0) && (t_10.1 == i_28)) && (t_7.2 == i_33))) (Option.some.inj h).symm (fun e_3346 => ?_))))))))))
             subst e_3346
             refine jx_inr (jx_thenr (jx_thenr ?_))
             obtain rfl := Option.some.inj hr_3240
             exact qr [] (fun w hm => ⟨rfl, hm.pk []⟩)
       ·refine jc_exit (jx_thenx (jx_leave (.inr (xs_24, xs_26)) (Option.some.inj h).symm (fun e_3399 => ?_)))
        subst e_3399
        exact jx_ine (qm ⟨xs_24, xs_26, o_3228, cap_3229, sp_3230, n_3231, a_25, o_3234, cap_3235, sp_3236, n_3237, a_27⟩ ⟨hr_3240, hn_3233, he_3232, hn_3239, he_3238⟩ [0, 1, 2, 3, 4, 5, 6, 7, 8, 9, 10, 11, 12, 13, 14, 15])
      ·rintro ⟨xs_13, xs_15, o_2549, cap_2550, sp_2551, n_2552, a_14, o_2555, cap_2556, sp_2557, n_2558, a_16⟩ ⟨h, hn_2554, he_2553, hn_2560, he_2559⟩
       replace h : laws_FnWearActs.k_17 t_6 t_8 t_9 xs_13 xs_15 = some r := h
       rw [laws_FnWearActs.k_17] at h
       refine jx_then (jc_seq (jc_region (qh [0] ?_)))
       obtain ⟨t_18, ht_2561, h⟩ := bd h
       refine tO (pc 0 (fun w hm => spec_ActsText.calls t_6 w _ cap_35 (hm.ow 6 o_34 77 t_6 sp_36 (fun e => (ho_38 e).1) encGAct_len) rfl ht_2561) ?_)
       rintro w v w' hm ⟨rfl, hm'⟩
       refine ⟨_, hm.app hm', jkO ?_⟩
       clear hm hm'
       refine qh [0] (qe (jx_then (jc_seq (jc_seq (jc_region (qf [(0, 0), (0, 0), (0, 0), (0, 1), (0, 1), (0, 1), (0, 0)] (qe (jx_then (qi h (fun h => ?_) (fun h => ?_))))))))))
       ·refine jc_seq (jc_region (qf [(0, 0), (0, 0), (0, 0), (13, 1), (12, 1)] (qp 195 h (fun h => ?_) (fun h => ?_))))
        ·obtain ⟨t_19, ht_2567, h⟩ := bd h
         refine tO (pc 2 (fun w hm => spec_SameWear.calls (⟨xs_13, xs_15⟩ : GWear) t_8.1 w _ cap_2550 (hm.eiRowA (hh := 14) (o := o_2549) (T := 147) (enc := encGWornPin) (xs := xs_13) (sp := sp_2551) (by kernel_rfl) he_2553 (hm.ow 2 o_20 147 t_4.fPins sp_22 (fun e => (ho_24 e).1) encGWornPin_len) encGWornPin_len) hn_2554 cap_2556 (hm.eiRowA (hh := 15) (o := o_2555) (T := 2) (enc := encI64) (xs := xs_15) (sp := sp_2557) (by kernel_rfl) he_2559 (hm.ow 3 o_25 2 t_4.fStrokes sp_27 (fun e => (ho_29 e).1) encI64_len) encI64_len) hn_2560 cap_53 (hm.ow 10 o_52 147 t_8.1.fPins sp_54 (fun e => (ho_56 e).1) encGWornPin_len) rfl cap_58 (hm.ow 11 o_57 2 t_8.1.fStrokes sp_59 (fun e => (ho_61 e).1) encI64_len) rfl ht_2567) ?_)
         rintro w v w' hm ⟨rfl, hm'⟩
         refine ⟨_, hm.app hm', jkO ?_⟩
         clear hm hm'
         refine qf [(0, 4), (0, 0)] (qe (jx_then (jc_ret (jx_thenr ?_))))
         obtain rfl := Option.some.inj h
         exact qr [] (fun w hm => ⟨rfl, hm.pk []⟩)
        ·refine qf [(0, 3), (0, 5), (0, 0)] (qe (jx_then (jc_ret (jx_thenr ?_))))
         obtain rfl := Option.some.inj h
         exact qr [] (fun w hm => ⟨rfl, hm.pk []⟩)
       ·refine jc_skip (jx_then (jc_seq (jc_region (qh [0] ?_))))
        obtain ⟨t_20, ht_2568, h⟩ := bd h
        refine tO (pc 0 (fun w hm => impl_ReadActs.calls t_18 w _ (g_er.keep hm) (g_lo.keep hm) (g_ml.keep hm) (g_pw.keep hm) ht_2568) ?_)
        rintro w v w' hm ⟨o_2569, cap_2570, sp_2571, _, rfl, hs_2572, ho_2573, rfl, hm'⟩
        refine ⟨_, hm.app hm', jkO ?_⟩
        clear hm hm'
        refine qh [0,0,0,0,0] (qe (jx_then (jc_seq (jc_region (qf [(0, 0), (0, 0), (0, 0), (13, 1), (12, 1)] (qp 207 h (fun h => ?_) (fun h => ?_)))))))
        ·obtain ⟨t_21, ht_2575, h⟩ := bd h
         refine tO (pc 2 (fun w hm => spec_SameWear.calls (⟨xs_13, xs_15⟩ : GWear) t_8.1 w _ cap_2550 (hm.eiRowA (hh := 14) (o := o_2549) (T := 147) (enc := encGWornPin) (xs := xs_13) (sp := sp_2551) (by kernel_rfl) he_2553 (hm.ow 2 o_20 147 t_4.fPins sp_22 (fun e => (ho_24 e).1) encGWornPin_len) encGWornPin_len) hn_2554 cap_2556 (hm.eiRowA (hh := 15) (o := o_2555) (T := 2) (enc := encI64) (xs := xs_15) (sp := sp_2557) (by kernel_rfl) he_2559 (hm.ow 3 o_25 2 t_4.fStrokes sp_27 (fun e => (ho_29 e).1) encI64_len) encI64_len) hn_2560 cap_53 (hm.ow 10 o_52 147 t_8.1.fPins sp_54 (fun e => (ho_56 e).1) encGWornPin_len) rfl cap_58 (hm.ow 11 o_57 2 t_8.1.fStrokes sp_59 (fun e => (ho_61 e).1) encI64_len) rfl ht_2575) ?_)
         rintro w v w' hm ⟨rfl, hm'⟩
         refine ⟨_, hm.app hm', jkO ?_⟩
         clear hm hm'
         refine qf [(0, 4), (0, 0), (0, 1)] (qp 212 h (fun h => ?_) (fun h => ?_))
         ·obtain ⟨t_22, ht_2577, h⟩ := bd h
          refine tO (pc 2 (fun w hm => impl_ActsText.calls t_6 w _ (g_lo.keep hm) (g_pw.keep hm) cap_35 (hm.ow 6 o_34 77 t_6 sp_36 (fun e => (ho_38 e).1) encGAct_len) rfl ht_2577) ?_)
          rintro w v w' hm ⟨rfl, hm'⟩
          refine ⟨_, hm.app hm', jkO ?_⟩
          clear hm hm'
          refine qf [(0, 2), (0, 2), (0, 4), (0, 0), (0, 1), (0, 1), (0, 0), (0, 0), (0, 1), (0, 1)] (qp 222 h (fun h => ?_) (fun h => ?_))
          ·obtain ⟨t_23, ht_2579, h⟩ := bd h
           refine tO (pc 2 (fun w hm => spec_SameActs.calls t_20.1 t_6 w _ cap_2570 (hm.ow 16 o_2569 77 t_20.1 sp_2571 (fun e => (ho_2573 e).1) encGAct_len) rfl cap_35 (hm.ow 6 o_34 77 t_6 sp_36 (fun e => (ho_38 e).1) encGAct_len) rfl ht_2579) ?_)
           rintro w v w' hm ⟨rfl, hm'⟩
           refine ⟨_, hm.app hm', jkO ?_⟩
           clear hm hm'
           refine qf [(0, 4), (0, 0)] (qe (jx_then (jc_ret ?_)))
           obtain rfl := Option.some.inj h
           exact qr [] (fun w hm => ⟨rfl, hm.pk []⟩)
          ·refine qf [(0, 3), (0, 5), (0, 0)] (qe (jx_then (jc_ret ?_)))
           obtain rfl := Option.some.inj h
           exact qr [] (fun w hm => ⟨rfl, hm.pk []⟩)
         ·refine qf [(0, 3), (0, 3), (0, 3), (0, 5), (0, 0), (0, 3), (0, 3), (0, 5), (0, 0), (0, 3), (0, 3), (0, 3), (0, 5), (0, 0)] (qe (jx_then (jc_ret ?_)))
          obtain rfl := Option.some.inj h
          exact qr [] (fun w hm => ⟨rfl, hm.pk []⟩)
        ·refine qf [(0, 3), (0, 5), (0, 0), (0, 3), (0, 3), (0, 3), (0, 3), (0, 5), (0, 0), (0, 3), (0, 3), (0, 5), (0, 0), (0, 3), (0, 3), (0, 3), (0, 5), (0, 0)] (qe (jx_then (jc_ret ?_)))
         obtain rfl := Option.some.inj h
         exact qr [] (fun w hm => ⟨rfl, hm.pk []⟩)
end

end Go.Proofs.YtolfkfjjifdmeaaGreatDoor
