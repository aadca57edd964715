/- Functions of the program that the laws reach: a plain function each, and that the call comes to its answer if the plain function has one. Printed by a program. -/
import Derived.Test.YtolfkfjjifdmeaaGreatT
import Derived.Test.YtolfkfjjifdmeaaGreatTab
import Derived.Test.YtolfkfjjifdmeaaGreatM0
namespace Go.Proofs.YtolfkfjjifdmeaaGreat
open Eng
set_option linter.unusedVariables false

set_option linter.unusedSectionVars false
set_option maxRecDepth 100000
variable [dsW : DrwS]
noncomputable section
/-! ### slices.symMergeCmpFunc[impl.Choice] -/
def slices_symMergeCmpFunc_Choice_at_impl_Arrange_1.k_4 (xs_3 : List GChoice) : Option ((List GChoice)) := some xs_3
def slices_symMergeCmpFunc_Choice_at_impl_Arrange_1.l_7 (i_1 : Int) : ((List GChoice) × Int) → Option (((List GChoice) × Int) ⊕ ((List GChoice)))
  | (xs_5, i_6) => (if (decide (i_6 < (w64 (i_1 - 1)))) = true then (ix xs_5 (w64 (i_6 + 1))).bind fun x_9 => (ix xs_5 i_6).bind fun x_10 => (ix xs_5 i_6).bind fun x_11 => (ix (xs_5.set i_6.toNat x_9) (w64 (i_6 + 1))).bind fun x_12 => some (.inl (((xs_5.set i_6.toNat x_9).set (w64 (i_6 + 1)).toNat x_10), (w64 (i_6 + 1)))) else some (.inr xs_5))
def slices_symMergeCmpFunc_Choice_at_impl_Arrange_1.k_2 (data0 : List GChoice) (a1 : Int) (i_1 : Int) : Option ((List GChoice)) := (loop (slices_symMergeCmpFunc_Choice_at_impl_Arrange_1.l_7 i_1) (data0, a1)).bind fun t_8 => slices_symMergeCmpFunc_Choice_at_impl_Arrange_1.k_4 t_8
def slices_symMergeCmpFunc_Choice_at_impl_Arrange_1.k_19 (i_17 : Int) (i_18 : Int) : Option ((Int × Int) ⊕ (Int)) := some (.inl (i_17, i_18))
def slices_symMergeCmpFunc_Choice_at_impl_Arrange_1.l_15 (data0 : List GChoice) (a1 : Int) (g4c0 : GCosts) : (Int × Int) → Option ((Int × Int) ⊕ (Int))
  | (i_13, i_14) => (if (decide (i_13 < i_14)) = true then (ix data0 (w64 (bShr .u64 (u64 (w64 (i_13 + i_14))) 1))).bind fun x_20 => (ix data0 a1).bind fun x_21 => (impl_Arrange_1 x_20 x_21 g4c0).bind fun t_22 => (if (decide (t_22 < 0)) = true then slices_symMergeCmpFunc_Choice_at_impl_Arrange_1.k_19 (w64 ((w64 (bShr .u64 (u64 (w64 (i_13 + i_14))) 1)) + 1)) i_14 else slices_symMergeCmpFunc_Choice_at_impl_Arrange_1.k_19 i_13 (w64 (bShr .u64 (u64 (w64 (i_13 + i_14))) 1))) else some (.inr i_13))
def slices_symMergeCmpFunc_Choice_at_impl_Arrange_1.k_26 (xs_25 : List GChoice) : Option ((List GChoice)) := some xs_25
def slices_symMergeCmpFunc_Choice_at_impl_Arrange_1.l_29 (i_23 : Int) : ((List GChoice) × Int) → Option (((List GChoice) × Int) ⊕ ((List GChoice)))
  | (xs_27, i_28) => (if (decide (i_28 > i_23)) = true then (ix xs_27 (w64 (i_28 - 1))).bind fun x_31 => (ix xs_27 i_28).bind fun x_32 => (ix xs_27 i_28).bind fun x_33 => (ix (xs_27.set i_28.toNat x_31) (w64 (i_28 - 1))).bind fun x_34 => some (.inl (((xs_27.set i_28.toNat x_31).set (w64 (i_28 - 1)).toNat x_32), (w64 (i_28 - 1)))) else some (.inr xs_27))
def slices_symMergeCmpFunc_Choice_at_impl_Arrange_1.k_24 (data0 : List GChoice) (m2 : Int) (i_23 : Int) : Option ((List GChoice)) := (loop (slices_symMergeCmpFunc_Choice_at_impl_Arrange_1.l_29 i_23) (data0, m2)).bind fun t_30 => slices_symMergeCmpFunc_Choice_at_impl_Arrange_1.k_26 t_30
def slices_symMergeCmpFunc_Choice_at_impl_Arrange_1.k_41 (i_39 : Int) (i_40 : Int) : Option ((Int × Int) ⊕ (Int)) := some (.inl (i_39, i_40))
def slices_symMergeCmpFunc_Choice_at_impl_Arrange_1.l_37 (data0 : List GChoice) (m2 : Int) (g4c0 : GCosts) : (Int × Int) → Option ((Int × Int) ⊕ (Int))
  | (i_35, i_36) => (if (decide (i_35 < i_36)) = true then (ix data0 m2).bind fun x_42 => (ix data0 (w64 (bShr .u64 (u64 (w64 (i_35 + i_36))) 1))).bind fun x_43 => (impl_Arrange_1 x_42 x_43 g4c0).bind fun t_44 => (if (!(decide (t_44 < 0))) = true then slices_symMergeCmpFunc_Choice_at_impl_Arrange_1.k_41 (w64 ((w64 (bShr .u64 (u64 (w64 (i_35 + i_36))) 1)) + 1)) i_36 else slices_symMergeCmpFunc_Choice_at_impl_Arrange_1.k_41 i_35 (w64 (bShr .u64 (u64 (w64 (i_35 + i_36))) 1))) else some (.inr i_35))
def slices_symMergeCmpFunc_Choice_at_impl_Arrange_1.k_53 (self_ : (List GChoice) → Int → Int → Int → GCosts → Option ((List GChoice))) (a1 : Int) (m2 : Int) (b3 : Int) (g4c0 : GCosts) (i_48 : Int) (xs_52 : List GChoice) : Option ((List GChoice)) := (if ((decide ((w64 (bShr .u64 (u64 (w64 (a1 + b3))) 1)) < (w64 ((w64 ((w64 (bShr .u64 (u64 (w64 (a1 + b3))) 1)) + m2)) - i_48)))) && (decide ((w64 ((w64 ((w64 (bShr .u64 (u64 (w64 (a1 + b3))) 1)) + m2)) - i_48)) < b3))) = true then (self_ xs_52 (w64 (bShr .u64 (u64 (w64 (a1 + b3))) 1)) (w64 ((w64 ((w64 (bShr .u64 (u64 (w64 (a1 + b3))) 1)) + m2)) - i_48)) b3 g4c0).bind fun t_54 => some t_54 else some xs_52)
def slices_symMergeCmpFunc_Choice_at_impl_Arrange_1.k_51 (self_ : (List GChoice) → Int → Int → Int → GCosts → Option ((List GChoice))) (a1 : Int) (m2 : Int) (b3 : Int) (g4c0 : GCosts) (i_48 : Int) (xs_50 : List GChoice) : Option ((List GChoice)) := (if ((decide (a1 < i_48)) && (decide (i_48 < (w64 (bShr .u64 (u64 (w64 (a1 + b3))) 1))))) = true then (self_ xs_50 a1 i_48 (w64 (bShr .u64 (u64 (w64 (a1 + b3))) 1)) g4c0).bind fun t_55 => slices_symMergeCmpFunc_Choice_at_impl_Arrange_1.k_53 self_ a1 m2 b3 g4c0 i_48 t_55 else slices_symMergeCmpFunc_Choice_at_impl_Arrange_1.k_53 self_ a1 m2 b3 g4c0 i_48 xs_50)
def slices_symMergeCmpFunc_Choice_at_impl_Arrange_1.k_49 (self_ : (List GChoice) → Int → Int → Int → GCosts → Option ((List GChoice))) (data0 : List GChoice) (a1 : Int) (m2 : Int) (b3 : Int) (g4c0 : GCosts) (i_48 : Int) : Option ((List GChoice)) := (if ((decide (i_48 < m2)) && (decide (m2 < (w64 ((w64 ((w64 (bShr .u64 (u64 (w64 (a1 + b3))) 1)) + m2)) - i_48))))) = true then (slices_rotateCmpFunc_Choice_at_impl_Arrange_1 data0 i_48 m2 (w64 ((w64 ((w64 (bShr .u64 (u64 (w64 (a1 + b3))) 1)) + m2)) - i_48)) g4c0).bind fun t_56 => slices_symMergeCmpFunc_Choice_at_impl_Arrange_1.k_51 self_ a1 m2 b3 g4c0 i_48 t_56 else slices_symMergeCmpFunc_Choice_at_impl_Arrange_1.k_51 self_ a1 m2 b3 g4c0 i_48 data0)
def slices_symMergeCmpFunc_Choice_at_impl_Arrange_1.k_63 (i_61 : Int) (i_62 : Int) : Option ((Int × Int) ⊕ (Int)) := some (.inl (i_61, i_62))
def slices_symMergeCmpFunc_Choice_at_impl_Arrange_1.l_59 (data0 : List GChoice) (a1 : Int) (m2 : Int) (b3 : Int) (g4c0 : GCosts) : (Int × Int) → Option ((Int × Int) ⊕ (Int))
  | (i_57, i_58) => (if (decide (i_57 < i_58)) = true then (ix data0 (w64 ((w64 ((w64 ((w64 (bShr .u64 (u64 (w64 (a1 + b3))) 1)) + m2)) - 1)) - (w64 (bShr .u64 (u64 (w64 (i_57 + i_58))) 1))))).bind fun x_64 => (ix data0 (w64 (bShr .u64 (u64 (w64 (i_57 + i_58))) 1))).bind fun x_65 => (impl_Arrange_1 x_64 x_65 g4c0).bind fun t_66 => (if (!(decide (t_66 < 0))) = true then slices_symMergeCmpFunc_Choice_at_impl_Arrange_1.k_63 (w64 ((w64 (bShr .u64 (u64 (w64 (i_57 + i_58))) 1)) + 1)) i_58 else slices_symMergeCmpFunc_Choice_at_impl_Arrange_1.k_63 i_57 (w64 (bShr .u64 (u64 (w64 (i_57 + i_58))) 1))) else some (.inr i_57))
def slices_symMergeCmpFunc_Choice_at_impl_Arrange_1.k_47 (self_ : (List GChoice) → Int → Int → Int → GCosts → Option ((List GChoice))) (data0 : List GChoice) (a1 : Int) (m2 : Int) (b3 : Int) (g4c0 : GCosts) (i_45 : Int) (i_46 : Int) : Option ((List GChoice)) := (loop (slices_symMergeCmpFunc_Choice_at_impl_Arrange_1.l_59 data0 a1 m2 b3 g4c0) (i_45, i_46)).bind fun t_60 => slices_symMergeCmpFunc_Choice_at_impl_Arrange_1.k_49 self_ data0 a1 m2 b3 g4c0 t_60
def slices_symMergeCmpFunc_Choice_at_impl_Arrange_1.step (self_ : (List GChoice) → Int → Int → Int → GCosts → Option ((List GChoice))) (data0 : List GChoice) (a1 : Int) (m2 : Int) (b3 : Int) (g4c0 : GCosts) : Option ((List GChoice)) := (if ((w64 (m2 - a1)) == 1) = true then (loop (slices_symMergeCmpFunc_Choice_at_impl_Arrange_1.l_15 data0 a1 g4c0) (m2, b3)).bind fun t_16 => slices_symMergeCmpFunc_Choice_at_impl_Arrange_1.k_2 data0 a1 t_16 else (if ((w64 (b3 - m2)) == 1) = true then (loop (slices_symMergeCmpFunc_Choice_at_impl_Arrange_1.l_37 data0 m2 g4c0) (a1, m2)).bind fun t_38 => slices_symMergeCmpFunc_Choice_at_impl_Arrange_1.k_24 data0 m2 t_38 else (if (decide (m2 > (w64 (bShr .u64 (u64 (w64 (a1 + b3))) 1)))) = true then slices_symMergeCmpFunc_Choice_at_impl_Arrange_1.k_47 self_ data0 a1 m2 b3 g4c0 (w64 ((w64 ((w64 (bShr .u64 (u64 (w64 (a1 + b3))) 1)) + m2)) - b3)) (w64 (bShr .u64 (u64 (w64 (a1 + b3))) 1)) else slices_symMergeCmpFunc_Choice_at_impl_Arrange_1.k_47 self_ data0 a1 m2 b3 g4c0 a1 m2)))
def slices_symMergeCmpFunc_Choice_at_impl_Arrange_1.rec_ : Nat → (List GChoice) → Int → Int → Int → GCosts → Option ((List GChoice))
  | 0 => fun data0 a1 m2 b3 g4c0 => none
  | fu + 1 => slices_symMergeCmpFunc_Choice_at_impl_Arrange_1.step (slices_symMergeCmpFunc_Choice_at_impl_Arrange_1.rec_ fu)
def slices_symMergeCmpFunc_Choice_at_impl_Arrange_1 (data0 : List GChoice) (a1 : Int) (m2 : Int) (b3 : Int) (g4c0 : GCosts) : Option ((List GChoice)) := slices_symMergeCmpFunc_Choice_at_impl_Arrange_1.rec_ 200 data0 a1 m2 b3 g4c0
set_option maxHeartbeats 8000000 in
theorem slices_symMergeCmpFunc_Choice_at_impl_Arrange_1.step_calls (self_ : (List GChoice) → Int → Int → Int → GCosts → Option ((List GChoice))) (hself : ∀ (data0 : List GChoice) (a1 : Int) (m2 : Int) (b3 : Int) (g4c0 : GCosts) (w : World) (r : (List GChoice)) (A_o : Option Nat) {A_on : Nat} {A_c : Nat} {A_sp : List Value} (A_hn : data0.length = A_on) (A_hs : A_o ≠ none → A_on ≤ A_c ∧ A_sp.length = (A_c - A_on) * 4) (A_ho : A_o = none → data0 = [] ∧ A_c = 0) (E_b : Nat) (hm0 : Mem w (bs [A_o, some E_b]) [⟨A_o, 104, row encGChoice data0 A_sp⟩, ⟨some E_b, 33, [(.int .i16 g4c0.fAway), (.int .i16 g4c0.fOctave), (.int .i16 g4c0.fStep)]⟩] w) (h : self_ data0 a1 m2 b3 g4c0 = some r),
    Calls Tryz.prog 211 #[(.slice (A_o.map fun b => ⟨b, 0, none⟩) A_on A_c), (.int .i64 a1), (.int .i64 m2), (.int .i64 b3), (.func (.func 89) #[] #[(.pointer (some ⟨E_b, 0, none⟩))])] w fun e w' => ∃ v, e = .returned v ∧ (r.length = A_on ∧ (A_o = none → r = [] ∧ A_c = 0) ∧ v = .tuple #[] ∧ Mem w (bs [A_o, some E_b]) [⟨A_o, 104, row encGChoice r A_sp⟩, ⟨some E_b, 33, [(.int .i16 g4c0.fAway), (.int .i16 g4c0.fOctave), (.int .i16 g4c0.fStep)]⟩] w')) (data0 : List GChoice) (a1 : Int) (m2 : Int) (b3 : Int) (g4c0 : GCosts) (w : World) (r : (List GChoice)) (A_o : Option Nat) {A_on : Nat} {A_c : Nat} {A_sp : List Value} (A_hn : data0.length = A_on) (A_hs : A_o ≠ none → A_on ≤ A_c ∧ A_sp.length = (A_c - A_on) * 4) (A_ho : A_o = none → data0 = [] ∧ A_c = 0) (E_b : Nat) (hm0 : Mem w (bs [A_o, some E_b]) [⟨A_o, 104, row encGChoice data0 A_sp⟩, ⟨some E_b, 33, [(.int .i16 g4c0.fAway), (.int .i16 g4c0.fOctave), (.int .i16 g4c0.fStep)]⟩] w) (h : slices_symMergeCmpFunc_Choice_at_impl_Arrange_1.step self_ data0 a1 m2 b3 g4c0 = some r) :
    Calls Tryz.prog 211 #[(.slice (A_o.map fun b => ⟨b, 0, none⟩) A_on A_c), (.int .i64 a1), (.int .i64 m2), (.int .i64 b3), (.func (.func 89) #[] #[(.pointer (some ⟨E_b, 0, none⟩))])] w fun e w' => ∃ v, e = .returned v ∧ (r.length = A_on ∧ (A_o = none → r = [] ∧ A_c = 0) ∧ v = .tuple #[] ∧ Mem w (bs [A_o, some E_b]) [⟨A_o, 104, row encGChoice r A_sp⟩, ⟨some E_b, 33, [(.int .i16 g4c0.fAway), (.int .i16 g4c0.fOctave), (.int .i16 g4c0.fStep)]⟩] w') := by
  subst A_hn
  rw [slices_symMergeCmpFunc_Choice_at_impl_Arrange_1.step] at h
  refine enter (args := [(.slice (A_o.map fun b => ⟨b, 0, none⟩) data0.length A_c), (.int .i64 a1), (.int .i64 m2), (.int .i64 b3), (.func (.func 89) #[] #[(.pointer (some ⟨E_b, 0, none⟩))])]) Tryz.func211 rfl Tryz.ntmps211 (by kernel_rfl) (L := [⟨A_o, 104, row encGChoice data0 A_sp⟩, ⟨some E_b, 33, [(.int .i16 g4c0.fAway), (.int .i16 g4c0.fOctave), (.int .i16 g4c0.fStep)]⟩]) (W := bs [A_o, some E_b]) hm0 ?_
  refine jc_seq (jc_seq (jc_region (qh [0,0,0,0] (qe (jx_then (qi h (fun h => ?_) (fun h => ?_)))))))
  ·refine jc_seq (jc_region (qh [0,0] (qe (jx_then (jc_seq (jc_region (qh [0,0] (qe (jx_then (jc_seq (jc_meet (fun (j : Int) => match j with | i_1 => slices_symMergeCmpFunc_Choice_at_impl_Arrange_1.k_2 data0 a1 i_1 = some r) (fun (j : Int) => match j with | i_1 => [(0, [], (.slice (A_o.map fun b => ⟨b, 0, none⟩) data0.length A_c)), (1, [], (.int .i64 a1)), (2, [], (.int .i64 m2)), (3, [], (.int .i64 b3)), (4, [], (.func (.func 89) #[] #[(.pointer (some ⟨E_b, 0, none⟩))])), (10, [], (.int .i64 i_1))]) (fun (j : Int) => match j with | i_1 => [⟨A_o, 104, row encGChoice data0 A_sp⟩, ⟨some E_b, 33, [(.int .i16 g4c0.fAway), (.int .i16 g4c0.fOctave), (.int .i16 g4c0.fStep)]⟩]) ?_ ?_)))))))))))
   ·refine jc_block ?_
    obtain ⟨t_16, ht_306, hr_293⟩ := bd h
    refine jc_loop (fun (s : Int × Int) (x : Unit) => match s, x with | ⟨i_13, i_14⟩, _ => True) (fun (s : Int × Int) (x : Unit) => match s, x with | ⟨i_13, i_14⟩, _ => [(0, [], (.slice (A_o.map fun b => ⟨b, 0, none⟩) data0.length A_c)), (1, [], (.int .i64 a1)), (2, [], (.int .i64 m2)), (3, [], (.int .i64 b3)), (4, [], (.func (.func 89) #[] #[(.pointer (some ⟨E_b, 0, none⟩))])), (10, [], (.int .i64 i_13)), (11, [], (.int .i64 i_14))]) (fun (s : Int × Int) (x : Unit) => match s, x with | ⟨i_13, i_14⟩, _ => [⟨A_o, 104, row encGChoice data0 A_sp⟩, ⟨some E_b, 33, [(.int .i16 g4c0.fAway), (.int .i16 g4c0.fOctave), (.int .i16 g4c0.fStep)]⟩]) ht_306 () trivial (by kernel_rfl) [0, 1] (by kernel_rfl) (by kernel_rfl) ?_
    rintro ⟨i_13, i_14⟩ _ y_294 _ h
    rw [slices_symMergeCmpFunc_Choice_at_impl_Arrange_1.l_15] at h
    refine jc_seq (jc_seq (jc_region (qh [0,0,0] (qe (jx_then (qi h (fun h => ?_) (fun h => ?_)))))))
    ·refine jc_skip (jx_then (jc_meet (fun (j : Int × Int) => match j with | ⟨i_17, i_18⟩ => slices_symMergeCmpFunc_Choice_at_impl_Arrange_1.k_19 i_17 i_18 = some y_294) (fun (j : Int × Int) => match j with | ⟨i_17, i_18⟩ => [(0, [], (.slice (A_o.map fun b => ⟨b, 0, none⟩) data0.length A_c)), (1, [], (.int .i64 a1)), (2, [], (.int .i64 m2)), (3, [], (.int .i64 b3)), (4, [], (.func (.func 89) #[] #[(.pointer (some ⟨E_b, 0, none⟩))])), (10, [], (.int .i64 i_17)), (11, [], (.int .i64 i_18))]) (fun (j : Int × Int) => match j with | ⟨i_17, i_18⟩ => [⟨A_o, 104, row encGChoice data0 A_sp⟩, ⟨some E_b, 33, [(.int .i16 g4c0.fAway), (.int .i16 g4c0.fOctave), (.int .i16 g4c0.fStep)]⟩]) ?_ ?_))
     ·refine jc_block (jc_seq (jc_region (qh [0,0,0,0,0,0,0] (qe (jx_then (jc_seq (qg [⟨A_o, 104, row encGChoice data0 A_sp⟩, ⟨some E_b, 33, [(.int .i16 g4c0.fAway), (.int .i16 g4c0.fOctave), (.int .i16 g4c0.fStep)]⟩] 11 (qd [⟨0, 0, 0⟩,⟨1, 0, 0⟩,⟨2, 0, 0⟩,⟨5, 0, 0⟩,⟨6, 0, 0⟩] 6 [0, 1] ?_))))))))
      obtain ⟨x_20, hx_301, h⟩ := bd h
      refine qv 3 0 [0, 1] (fun w hm => idx_run (a := (A_o.map fun b => ⟨b, 0, none⟩)) (len := data0.length) (s := 4) (j := (w64 (bShr .u64 (u64 (w64 (i_13 + i_14))) 1))) (by kernel_rfl) (ix_some hx_301).1 (ltn hx_301 rfl) (spo A_ho hx_301)) (qv 4 0 [0, 1] (fun w hm => ld_run (b := aB (A_o.map fun b => ⟨b, 0, none⟩)) (off := (aO (A_o.map fun b => ⟨b, 0, none⟩) + (w64 (bShr .u64 (u64 (w64 (i_13 + i_14))) 1)).toNat * 4)) (s := 4) (agg := true) (vs := (encGChoice x_20)) (by kernel_rfl) (by kernel_rfl) (.inl rfl) ((hm.ow 0 A_o 104 data0 A_sp (fun e => (A_ho e).1) encGChoice_len).at hx_301)) ?_)
      obtain ⟨x_21, hx_302, h⟩ := bd h
      refine qv 7 0 [0, 1] (fun w hm => idx_run (a := (A_o.map fun b => ⟨b, 0, none⟩)) (len := data0.length) (s := 4) (j := a1) (by kernel_rfl) (ix_some hx_302).1 (ltn hx_302 rfl) (spo A_ho hx_302)) (qv 8 0 [0, 1] (fun w hm => ld_run (b := aB (A_o.map fun b => ⟨b, 0, none⟩)) (off := (aO (A_o.map fun b => ⟨b, 0, none⟩) + a1.toNat * 4)) (s := 4) (agg := true) (vs := (encGChoice x_21)) (by kernel_rfl) (by kernel_rfl) (.inl rfl) ((hm.ow 0 A_o 104 data0 A_sp (fun e => (A_ho e).1) encGChoice_len).at hx_302)) ?_)
      obtain ⟨t_22, ht_303, h⟩ := bd h
      refine tD 9 (pc 0 (fun w hm => impl_Arrange_1.calls x_20 x_21 g4c0 w _ E_b (hm.pass (N := [⟨some E_b, 33, [(.int .i16 g4c0.fAway), (.int .i16 g4c0.fOctave), (.int .i16 g4c0.fStep)]⟩]) [1] (by kernel_rfl) (by kernel_rfl)) ht_303) ?_)
      rintro w v w' hm ⟨rfl, hm'⟩
      refine ⟨_, hm.appW (ps := [(1, ⟨some E_b, 33, [(.int .i16 g4c0.fAway), (.int .i16 g4c0.fOctave), (.int .i16 g4c0.fStep)]⟩)]) (N := []) hm' (by kernel_rfl) (by kernel_rfl), kD [0, 1] ?_⟩
      clear hm hm'
      refine qd [⟨10, 0, 0⟩] 0 [0, 1] (qz (jx_then (qi h (fun h => ?_) (fun h => ?_))))
      ·exact jc_region (qh [0,0,0] (qe (jx_inn (qm ⟨(w64 ((w64 (bShr .u64 (u64 (w64 (i_13 + i_14))) 1)) + 1)), i_14⟩ h [0, 1]))))
      ·exact jc_region (qh [0,0] (qe (jx_inn (qm ⟨i_13, (w64 (bShr .u64 (u64 (w64 (i_13 + i_14))) 1))⟩ h [0, 1]))))
     ·rintro ⟨i_17, i_18⟩ h
      replace h : slices_symMergeCmpFunc_Choice_at_impl_Arrange_1.k_19 i_17 i_18 = some y_294 := h
      rw [slices_symMergeCmpFunc_Choice_at_impl_Arrange_1.k_19] at h
      exact qb (i_17, i_18) () h trivial [0, 1]
    ·refine jc_exit (jx_thenx (jx_leave i_13 (Option.some.inj h).symm (fun e_305 => ?_)))
     subst e_305
     exact jx_ine (qm i_13 hr_293 [0, 1])
   ·rintro i_1 h
    replace h : slices_symMergeCmpFunc_Choice_at_impl_Arrange_1.k_2 data0 a1 i_1 = some r := h
    rw [slices_symMergeCmpFunc_Choice_at_impl_Arrange_1.k_2] at h
    refine jx_then (jc_seq (jc_seq (jc_region (qh [0,0] (qe (jx_then (jc_meet (fun (j : (List GChoice)) => match j with | xs_3 => slices_symMergeCmpFunc_Choice_at_impl_Arrange_1.k_4 xs_3 = some r ∧ (xs_3.length = data0.length) ∧ ((A_o = none → xs_3 = [] ∧ A_c = 0))) (fun (j : (List GChoice)) => match j with | xs_3 => [(0, [], (.slice (A_o.map fun b => ⟨b, 0, none⟩) data0.length A_c)), (1, [], (.int .i64 a1)), (2, [], (.int .i64 m2)), (3, [], (.int .i64 b3)), (4, [], (.func (.func 89) #[] #[(.pointer (some ⟨E_b, 0, none⟩))]))]) (fun (j : (List GChoice)) => match j with | xs_3 => [⟨A_o, 104, row encGChoice xs_3 A_sp⟩, ⟨some E_b, 33, [(.int .i16 g4c0.fAway), (.int .i16 g4c0.fOctave), (.int .i16 g4c0.fStep)]⟩]) ?_ ?_)))))))
    ·refine jc_block ?_
     obtain ⟨t_8, ht_272, hr_258⟩ := bd h
     refine jc_loop (fun (s : (List GChoice) × Int) (x : Unit) => match s, x with | ⟨xs_5, i_6⟩, _ => (xs_5.length = data0.length) ∧ ((A_o = none → xs_5 = [] ∧ A_c = 0))) (fun (s : (List GChoice) × Int) (x : Unit) => match s, x with | ⟨xs_5, i_6⟩, _ => [(0, [], (.slice (A_o.map fun b => ⟨b, 0, none⟩) data0.length A_c)), (1, [], (.int .i64 a1)), (2, [], (.int .i64 m2)), (3, [], (.int .i64 b3)), (4, [], (.func (.func 89) #[] #[(.pointer (some ⟨E_b, 0, none⟩))])), (10, [], (.int .i64 i_1)), (13, [], (.int .i64 i_6))]) (fun (s : (List GChoice) × Int) (x : Unit) => match s, x with | ⟨xs_5, i_6⟩, _ => [⟨A_o, 104, row encGChoice xs_5 A_sp⟩, ⟨some E_b, 33, [(.int .i16 g4c0.fAway), (.int .i16 g4c0.fOctave), (.int .i16 g4c0.fStep)]⟩]) ht_272 () ⟨rfl, A_ho⟩ (by kernel_rfl) [0, 1] (by kernel_rfl) (by kernel_rfl) ?_
     rintro ⟨xs_5, i_6⟩ _ y_259 ⟨hn_257, ho_256⟩ h
     rw [slices_symMergeCmpFunc_Choice_at_impl_Arrange_1.l_7] at h
     refine jc_seq (jc_seq (jc_region (qh [0,0,0,0] (qe (jx_then (qi h (fun h => ?_) (fun h => ?_)))))))
     ·refine jc_skip (jx_then (jc_seq (jc_block (qg [⟨some E_b, 33, [(.int .i16 g4c0.fAway), (.int .i16 g4c0.fOctave), (.int .i16 g4c0.fStep)]⟩] 18 (qd [⟨0, 0, 0⟩,⟨1, 0, 0⟩,⟨2, 0, 0⟩,⟨3, 0, 0⟩,⟨4, 0, 0⟩,⟨5, 0, 0⟩,⟨6, 0, 0⟩,⟨7, 0, 0⟩,⟨10, 0, 0⟩,⟨11, 0, 0⟩] 8 [1] ?_)))))
      obtain ⟨x_9, hx_265, h⟩ := bd h
      refine qv 8 0 [1] (fun w hm => idx_run (a := (A_o.map fun b => ⟨b, 0, none⟩)) (len := data0.length) (s := 4) (j := (w64 (i_6 + 1))) (by kernel_rfl) (ix_some hx_265).1 (ltn hx_265 hn_257) (spo ho_256 hx_265)) ?_
      obtain ⟨x_10, hx_266, h⟩ := bd h
      refine qv 12 0 [1] (fun w hm => idx_run (a := (A_o.map fun b => ⟨b, 0, none⟩)) (len := data0.length) (s := 4) (j := i_6) (by kernel_rfl) (ix_some hx_266).1 (ltn hx_266 hn_257) (spo ho_256 hx_266)) (toD2 9 13 (by kernel_rfl) ?_ ?_)
      ·refine ql 0 true (fun w hm => ((hm.ow 0 A_o 104 xs_5 A_sp (fun e => (ho_256 e).1) encGChoice_len).at hx_265)) (kD [1] (tD 13 (ql 0 true (fun w hm => ((hm.ow 0 A_o 104 xs_5 A_sp (fun e => (ho_256 e).1) encGChoice_len).at hx_266)) (kD [1] ?_))))
       obtain ⟨x_11, hx_267, h⟩ := bd h
       refine qv 14 0 [1] (fun w hm => idx_run (a := (A_o.map fun b => ⟨b, 0, none⟩)) (len := data0.length) (s := 4) (j := i_6) (by kernel_rfl) (ix_some hx_267).1 (ltn hx_267 hn_257) (spo ho_256 hx_267)) (tD 15 (p_strO 0 0 A_o 104 encGChoice xs_5 A_sp i_6 x_9 4 0 [(.bool x_9.fAway), (.int .i8 x_9.fLate), (.int .i8 x_9.fOctave), (.int .i8 x_9.fTrack)] (by kernel_rfl) (by kernel_rfl) (by kernel_rfl) (fun e => (ho_256 e).1) encGChoice_len hx_267 (by kernel_rfl) (by kernel_rfl) (kD [1] ?_)))
       obtain ⟨x_12, hx_268, h⟩ := bd h
       exact qv 16 0 [1] (fun w hm => idx_run (a := (A_o.map fun b => ⟨b, 0, none⟩)) (len := data0.length) (s := 4) (j := (w64 (i_6 + 1))) (by kernel_rfl) (ix_some hx_268).1 (ltn hx_268 (List.length_set.trans hn_257)) (spo (set_ho ho_256) hx_268)) (tD 17 (p_strO 0 0 A_o 104 encGChoice (xs_5.set i_6.toNat x_9) A_sp (w64 (i_6 + 1)) x_10 4 0 [(.bool x_10.fAway), (.int .i8 x_10.fLate), (.int .i8 x_10.fOctave), (.int .i8 x_10.fTrack)] (by kernel_rfl) (by kernel_rfl) (by kernel_rfl) (fun e => ((set_ho ho_256) e).1) encGChoice_len hx_268 (by kernel_rfl) (by kernel_rfl) (kD [1] (qz (jx_inn (jx_then (jc_region (qh [0,0,0] (qe (qb (((xs_5.set i_6.toNat x_9).set (w64 (i_6 + 1)).toNat x_10), (w64 (i_6 + 1))) () h ⟨(List.length_set.trans (List.length_set.trans hn_257)), (set_ho (set_ho ho_256))⟩ [0, 1]))))))))))
      ·refine ql 0 true (fun w hm => ((hm.ow 0 A_o 104 xs_5 A_sp (fun e => (ho_256 e).1) encGChoice_len).at hx_266)) (kD [1] (tD 9 (ql 0 true (fun w hm => ((hm.ow 0 A_o 104 xs_5 A_sp (fun e => (ho_256 e).1) encGChoice_len).at hx_265)) (kD [1] ?_))))
       obtain ⟨x_11, hx_269, h⟩ := bd h
       refine qv 14 0 [1] (fun w hm => idx_run (a := (A_o.map fun b => ⟨b, 0, none⟩)) (len := data0.length) (s := 4) (j := i_6) (by kernel_rfl) (ix_some hx_269).1 (ltn hx_269 hn_257) (spo ho_256 hx_269)) (tD 15 (p_strO 0 0 A_o 104 encGChoice xs_5 A_sp i_6 x_9 4 0 [(.bool x_9.fAway), (.int .i8 x_9.fLate), (.int .i8 x_9.fOctave), (.int .i8 x_9.fTrack)] (by kernel_rfl) (by kernel_rfl) (by kernel_rfl) (fun e => (ho_256 e).1) encGChoice_len hx_269 (by kernel_rfl) (by kernel_rfl) (kD [1] ?_)))
       obtain ⟨x_12, hx_270, h⟩ := bd h
       exact qv 16 0 [1] (fun w hm => idx_run (a := (A_o.map fun b => ⟨b, 0, none⟩)) (len := data0.length) (s := 4) (j := (w64 (i_6 + 1))) (by kernel_rfl) (ix_some hx_270).1 (ltn hx_270 (List.length_set.trans hn_257)) (spo (set_ho ho_256) hx_270)) (tD 17 (p_strO 0 0 A_o 104 encGChoice (xs_5.set i_6.toNat x_9) A_sp (w64 (i_6 + 1)) x_10 4 0 [(.bool x_10.fAway), (.int .i8 x_10.fLate), (.int .i8 x_10.fOctave), (.int .i8 x_10.fTrack)] (by kernel_rfl) (by kernel_rfl) (by kernel_rfl) (fun e => ((set_ho ho_256) e).1) encGChoice_len hx_270 (by kernel_rfl) (by kernel_rfl) (kD [1] (qz (jx_inn (jx_then (jc_region (qh [0,0,0] (qe (qb (((xs_5.set i_6.toNat x_9).set (w64 (i_6 + 1)).toNat x_10), (w64 (i_6 + 1))) () h ⟨(List.length_set.trans (List.length_set.trans hn_257)), (set_ho (set_ho ho_256))⟩ [0, 1]))))))))))
     ·refine jc_exit (jx_thenx (jx_leave xs_5 (Option.some.inj h).symm (fun e_271 => ?_)))
      subst e_271
      exact jx_ine (qm xs_5 ⟨hr_258, hn_257, ho_256⟩ [0, 1])
    ·rintro xs_3 ⟨h, hn_231, ho_230⟩
     replace h : slices_symMergeCmpFunc_Choice_at_impl_Arrange_1.k_4 xs_3 = some r := h
     rw [slices_symMergeCmpFunc_Choice_at_impl_Arrange_1.k_4] at h
     refine jx_then (jc_ret (jx_thenr ?_))
     obtain rfl := Option.some.inj h
     exact qr [] (fun w hm => ⟨hn_231, ho_230, rfl, hm.pk [0, 1]⟩)
  ·refine jc_skip (jx_then (jc_seq (jc_seq (jc_region (qh [0,0,0,0] (qe (jx_then (qi h (fun h => ?_) (fun h => ?_)))))))))
   ·refine jc_seq (jc_region (qh [0,0] (qe (jx_then (jc_seq (jc_region (qh [0,0] (qe (jx_then (jc_seq (jc_meet (fun (j : Int) => match j with | i_23 => slices_symMergeCmpFunc_Choice_at_impl_Arrange_1.k_24 data0 m2 i_23 = some r) (fun (j : Int) => match j with | i_23 => [(0, [], (.slice (A_o.map fun b => ⟨b, 0, none⟩) data0.length A_c)), (1, [], (.int .i64 a1)), (2, [], (.int .i64 m2)), (3, [], (.int .i64 b3)), (4, [], (.func (.func 89) #[] #[(.pointer (some ⟨E_b, 0, none⟩))])), (14, [], (.int .i64 i_23))]) (fun (j : Int) => match j with | i_23 => [⟨A_o, 104, row encGChoice data0 A_sp⟩, ⟨some E_b, 33, [(.int .i16 g4c0.fAway), (.int .i16 g4c0.fOctave), (.int .i16 g4c0.fStep)]⟩]) ?_ ?_)))))))))))
    ·refine jc_block ?_
     obtain ⟨t_38, ht_612, hr_599⟩ := bd h
     refine jc_loop (fun (s : Int × Int) (x : Unit) => match s, x with | ⟨i_35, i_36⟩, _ => True) (fun (s : Int × Int) (x : Unit) => match s, x with | ⟨i_35, i_36⟩, _ => [(0, [], (.slice (A_o.map fun b => ⟨b, 0, none⟩) data0.length A_c)), (1, [], (.int .i64 a1)), (2, [], (.int .i64 m2)), (3, [], (.int .i64 b3)), (4, [], (.func (.func 89) #[] #[(.pointer (some ⟨E_b, 0, none⟩))])), (14, [], (.int .i64 i_35)), (15, [], (.int .i64 i_36))]) (fun (s : Int × Int) (x : Unit) => match s, x with | ⟨i_35, i_36⟩, _ => [⟨A_o, 104, row encGChoice data0 A_sp⟩, ⟨some E_b, 33, [(.int .i16 g4c0.fAway), (.int .i16 g4c0.fOctave), (.int .i16 g4c0.fStep)]⟩]) ht_612 () trivial (by kernel_rfl) [0, 1] (by kernel_rfl) (by kernel_rfl) ?_
     rintro ⟨i_35, i_36⟩ _ y_600 _ h
     rw [slices_symMergeCmpFunc_Choice_at_impl_Arrange_1.l_37] at h
     refine jc_seq (jc_seq (jc_region (qh [0,0,0] (qe (jx_then (qi h (fun h => ?_) (fun h => ?_)))))))
     ·refine jc_skip (jx_then (jc_meet (fun (j : Int × Int) => match j with | ⟨i_39, i_40⟩ => slices_symMergeCmpFunc_Choice_at_impl_Arrange_1.k_41 i_39 i_40 = some y_600) (fun (j : Int × Int) => match j with | ⟨i_39, i_40⟩ => [(0, [], (.slice (A_o.map fun b => ⟨b, 0, none⟩) data0.length A_c)), (1, [], (.int .i64 a1)), (2, [], (.int .i64 m2)), (3, [], (.int .i64 b3)), (4, [], (.func (.func 89) #[] #[(.pointer (some ⟨E_b, 0, none⟩))])), (14, [], (.int .i64 i_39)), (15, [], (.int .i64 i_40))]) (fun (j : Int × Int) => match j with | ⟨i_39, i_40⟩ => [⟨A_o, 104, row encGChoice data0 A_sp⟩, ⟨some E_b, 33, [(.int .i16 g4c0.fAway), (.int .i16 g4c0.fOctave), (.int .i16 g4c0.fStep)]⟩]) ?_ ?_))
      ·refine jc_block (jc_seq (jc_region (qh [0,0,0,0,0,0,0] (qe (jx_then (jc_seq (qg [⟨A_o, 104, row encGChoice data0 A_sp⟩, ⟨some E_b, 33, [(.int .i16 g4c0.fAway), (.int .i16 g4c0.fOctave), (.int .i16 g4c0.fStep)]⟩] 12 (qd [⟨0, 0, 0⟩,⟨1, 0, 0⟩,⟨2, 0, 0⟩,⟨5, 0, 0⟩,⟨6, 0, 0⟩] 7 [0, 1] ?_))))))))
       obtain ⟨x_42, hx_607, h⟩ := bd h
       refine qv 3 0 [0, 1] (fun w hm => idx_run (a := (A_o.map fun b => ⟨b, 0, none⟩)) (len := data0.length) (s := 4) (j := m2) (by kernel_rfl) (ix_some hx_607).1 (ltn hx_607 rfl) (spo A_ho hx_607)) (qv 4 0 [0, 1] (fun w hm => ld_run (b := aB (A_o.map fun b => ⟨b, 0, none⟩)) (off := (aO (A_o.map fun b => ⟨b, 0, none⟩) + m2.toNat * 4)) (s := 4) (agg := true) (vs := (encGChoice x_42)) (by kernel_rfl) (by kernel_rfl) (.inl rfl) ((hm.ow 0 A_o 104 data0 A_sp (fun e => (A_ho e).1) encGChoice_len).at hx_607)) ?_)
       obtain ⟨x_43, hx_608, h⟩ := bd h
       refine qv 7 0 [0, 1] (fun w hm => idx_run (a := (A_o.map fun b => ⟨b, 0, none⟩)) (len := data0.length) (s := 4) (j := (w64 (bShr .u64 (u64 (w64 (i_35 + i_36))) 1))) (by kernel_rfl) (ix_some hx_608).1 (ltn hx_608 rfl) (spo A_ho hx_608)) (qv 8 0 [0, 1] (fun w hm => ld_run (b := aB (A_o.map fun b => ⟨b, 0, none⟩)) (off := (aO (A_o.map fun b => ⟨b, 0, none⟩) + (w64 (bShr .u64 (u64 (w64 (i_35 + i_36))) 1)).toNat * 4)) (s := 4) (agg := true) (vs := (encGChoice x_43)) (by kernel_rfl) (by kernel_rfl) (.inl rfl) ((hm.ow 0 A_o 104 data0 A_sp (fun e => (A_ho e).1) encGChoice_len).at hx_608)) ?_)
       obtain ⟨t_44, ht_609, h⟩ := bd h
       refine tD 9 (pc 0 (fun w hm => impl_Arrange_1.calls x_42 x_43 g4c0 w _ E_b (hm.pass (N := [⟨some E_b, 33, [(.int .i16 g4c0.fAway), (.int .i16 g4c0.fOctave), (.int .i16 g4c0.fStep)]⟩]) [1] (by kernel_rfl) (by kernel_rfl)) ht_609) ?_)
       rintro w v w' hm ⟨rfl, hm'⟩
       refine ⟨_, hm.appW (ps := [(1, ⟨some E_b, 33, [(.int .i16 g4c0.fAway), (.int .i16 g4c0.fOctave), (.int .i16 g4c0.fStep)]⟩)]) (N := []) hm' (by kernel_rfl) (by kernel_rfl), kD [0, 1] ?_⟩
       clear hm hm'
       refine qd [⟨10, 0, 0⟩,⟨11, 0, 0⟩] 0 [0, 1] (qz (jx_then (qi h (fun h => ?_) (fun h => ?_))))
       ·exact jc_region (qh [0,0,0] (qe (jx_inn (qm ⟨(w64 ((w64 (bShr .u64 (u64 (w64 (i_35 + i_36))) 1)) + 1)), i_36⟩ h [0, 1]))))
       ·exact jc_region (qh [0,0] (qe (jx_inn (qm ⟨i_35, (w64 (bShr .u64 (u64 (w64 (i_35 + i_36))) 1))⟩ h [0, 1]))))
      ·rintro ⟨i_39, i_40⟩ h
       replace h : slices_symMergeCmpFunc_Choice_at_impl_Arrange_1.k_41 i_39 i_40 = some y_600 := h
       rw [slices_symMergeCmpFunc_Choice_at_impl_Arrange_1.k_41] at h
       exact qb (i_39, i_40) () h trivial [0, 1]
     ·refine jc_exit (jx_thenx (jx_leave i_35 (Option.some.inj h).symm (fun e_611 => ?_)))
      subst e_611
      exact jx_ine (qm i_35 hr_599 [0, 1])
    ·rintro i_23 h
     replace h : slices_symMergeCmpFunc_Choice_at_impl_Arrange_1.k_24 data0 m2 i_23 = some r := h
     rw [slices_symMergeCmpFunc_Choice_at_impl_Arrange_1.k_24] at h
     refine jx_then (jc_seq (jc_seq (jc_region (qh [0,0] (qe (jx_then (jc_meet (fun (j : (List GChoice)) => match j with | xs_25 => slices_symMergeCmpFunc_Choice_at_impl_Arrange_1.k_26 xs_25 = some r ∧ (xs_25.length = data0.length) ∧ ((A_o = none → xs_25 = [] ∧ A_c = 0))) (fun (j : (List GChoice)) => match j with | xs_25 => [(0, [], (.slice (A_o.map fun b => ⟨b, 0, none⟩) data0.length A_c)), (1, [], (.int .i64 a1)), (2, [], (.int .i64 m2)), (3, [], (.int .i64 b3)), (4, [], (.func (.func 89) #[] #[(.pointer (some ⟨E_b, 0, none⟩))]))]) (fun (j : (List GChoice)) => match j with | xs_25 => [⟨A_o, 104, row encGChoice xs_25 A_sp⟩, ⟨some E_b, 33, [(.int .i16 g4c0.fAway), (.int .i16 g4c0.fOctave), (.int .i16 g4c0.fStep)]⟩]) ?_ ?_)))))))
     ·refine jc_block ?_
      obtain ⟨t_30, ht_578, hr_564⟩ := bd h
      refine jc_loop (fun (s : (List GChoice) × Int) (x : Unit) => match s, x with | ⟨xs_27, i_28⟩, _ => (xs_27.length = data0.length) ∧ ((A_o = none → xs_27 = [] ∧ A_c = 0))) (fun (s : (List GChoice) × Int) (x : Unit) => match s, x with | ⟨xs_27, i_28⟩, _ => [(0, [], (.slice (A_o.map fun b => ⟨b, 0, none⟩) data0.length A_c)), (1, [], (.int .i64 a1)), (2, [], (.int .i64 m2)), (3, [], (.int .i64 b3)), (4, [], (.func (.func 89) #[] #[(.pointer (some ⟨E_b, 0, none⟩))])), (14, [], (.int .i64 i_23)), (17, [], (.int .i64 i_28))]) (fun (s : (List GChoice) × Int) (x : Unit) => match s, x with | ⟨xs_27, i_28⟩, _ => [⟨A_o, 104, row encGChoice xs_27 A_sp⟩, ⟨some E_b, 33, [(.int .i16 g4c0.fAway), (.int .i16 g4c0.fOctave), (.int .i16 g4c0.fStep)]⟩]) ht_578 () ⟨rfl, A_ho⟩ (by kernel_rfl) [0, 1] (by kernel_rfl) (by kernel_rfl) ?_
      rintro ⟨xs_27, i_28⟩ _ y_565 ⟨hn_563, ho_562⟩ h
      rw [slices_symMergeCmpFunc_Choice_at_impl_Arrange_1.l_29] at h
      refine jc_seq (jc_seq (jc_region (qh [0,0,0] (qe (jx_then (qi h (fun h => ?_) (fun h => ?_)))))))
      ·refine jc_skip (jx_then (jc_seq (jc_block (qg [⟨some E_b, 33, [(.int .i16 g4c0.fAway), (.int .i16 g4c0.fOctave), (.int .i16 g4c0.fStep)]⟩] 18 (qd [⟨0, 0, 0⟩,⟨1, 0, 0⟩,⟨2, 0, 0⟩,⟨3, 0, 0⟩,⟨4, 0, 0⟩,⟨5, 0, 0⟩,⟨6, 0, 0⟩,⟨7, 0, 0⟩,⟨10, 0, 0⟩,⟨11, 0, 0⟩] 8 [1] ?_)))))
       obtain ⟨x_31, hx_571, h⟩ := bd h
       refine qv 8 0 [1] (fun w hm => idx_run (a := (A_o.map fun b => ⟨b, 0, none⟩)) (len := data0.length) (s := 4) (j := (w64 (i_28 - 1))) (by kernel_rfl) (ix_some hx_571).1 (ltn hx_571 hn_563) (spo ho_562 hx_571)) ?_
       obtain ⟨x_32, hx_572, h⟩ := bd h
       refine qv 12 0 [1] (fun w hm => idx_run (a := (A_o.map fun b => ⟨b, 0, none⟩)) (len := data0.length) (s := 4) (j := i_28) (by kernel_rfl) (ix_some hx_572).1 (ltn hx_572 hn_563) (spo ho_562 hx_572)) (toD2 9 13 (by kernel_rfl) ?_ ?_)
       ·refine ql 0 true (fun w hm => ((hm.ow 0 A_o 104 xs_27 A_sp (fun e => (ho_562 e).1) encGChoice_len).at hx_571)) (kD [1] (tD 13 (ql 0 true (fun w hm => ((hm.ow 0 A_o 104 xs_27 A_sp (fun e => (ho_562 e).1) encGChoice_len).at hx_572)) (kD [1] ?_))))
        obtain ⟨x_33, hx_573, h⟩ := bd h
        refine qv 14 0 [1] (fun w hm => idx_run (a := (A_o.map fun b => ⟨b, 0, none⟩)) (len := data0.length) (s := 4) (j := i_28) (by kernel_rfl) (ix_some hx_573).1 (ltn hx_573 hn_563) (spo ho_562 hx_573)) (tD 15 (p_strO 0 0 A_o 104 encGChoice xs_27 A_sp i_28 x_31 4 0 [(.bool x_31.fAway), (.int .i8 x_31.fLate), (.int .i8 x_31.fOctave), (.int .i8 x_31.fTrack)] (by kernel_rfl) (by kernel_rfl) (by kernel_rfl) (fun e => (ho_562 e).1) encGChoice_len hx_573 (by kernel_rfl) (by kernel_rfl) (kD [1] ?_)))
        obtain ⟨x_34, hx_574, h⟩ := bd h
        exact qv 16 0 [1] (fun w hm => idx_run (a := (A_o.map fun b => ⟨b, 0, none⟩)) (len := data0.length) (s := 4) (j := (w64 (i_28 - 1))) (by kernel_rfl) (ix_some hx_574).1 (ltn hx_574 (List.length_set.trans hn_563)) (spo (set_ho ho_562) hx_574)) (tD 17 (p_strO 0 0 A_o 104 encGChoice (xs_27.set i_28.toNat x_31) A_sp (w64 (i_28 - 1)) x_32 4 0 [(.bool x_32.fAway), (.int .i8 x_32.fLate), (.int .i8 x_32.fOctave), (.int .i8 x_32.fTrack)] (by kernel_rfl) (by kernel_rfl) (by kernel_rfl) (fun e => ((set_ho ho_562) e).1) encGChoice_len hx_574 (by kernel_rfl) (by kernel_rfl) (kD [1] (qz (jx_inn (jx_then (jc_region (qh [0,0,0] (qe (qb (((xs_27.set i_28.toNat x_31).set (w64 (i_28 - 1)).toNat x_32), (w64 (i_28 - 1))) () h ⟨(List.length_set.trans (List.length_set.trans hn_563)), (set_ho (set_ho ho_562))⟩ [0, 1]))))))))))
       ·refine ql 0 true (fun w hm => ((hm.ow 0 A_o 104 xs_27 A_sp (fun e => (ho_562 e).1) encGChoice_len).at hx_572)) (kD [1] (tD 9 (ql 0 true (fun w hm => ((hm.ow 0 A_o 104 xs_27 A_sp (fun e => (ho_562 e).1) encGChoice_len).at hx_571)) (kD [1] ?_))))
        obtain ⟨x_33, hx_575, h⟩ := bd h
        refine qv 14 0 [1] (fun w hm => idx_run (a := (A_o.map fun b => ⟨b, 0, none⟩)) (len := data0.length) (s := 4) (j := i_28) (by kernel_rfl) (ix_some hx_575).1 (ltn hx_575 hn_563) (spo ho_562 hx_575)) (tD 15 (p_strO 0 0 A_o 104 encGChoice xs_27 A_sp i_28 x_31 4 0 [(.bool x_31.fAway), (.int .i8 x_31.fLate), (.int .i8 x_31.fOctave), (.int .i8 x_31.fTrack)] (by kernel_rfl) (by kernel_rfl) (by kernel_rfl) (fun e => (ho_562 e).1) encGChoice_len hx_575 (by kernel_rfl) (by kernel_rfl) (kD [1] ?_)))
        obtain ⟨x_34, hx_576, h⟩ := bd h
        exact qv 16 0 [1] (fun w hm => idx_run (a := (A_o.map fun b => ⟨b, 0, none⟩)) (len := data0.length) (s := 4) (j := (w64 (i_28 - 1))) (by kernel_rfl) (ix_some hx_576).1 (ltn hx_576 (List.length_set.trans hn_563)) (spo (set_ho ho_562) hx_576)) (tD 17 (p_strO 0 0 A_o 104 encGChoice (xs_27.set i_28.toNat x_31) A_sp (w64 (i_28 - 1)) x_32 4 0 [(.bool x_32.fAway), (.int .i8 x_32.fLate), (.int .i8 x_32.fOctave), (.int .i8 x_32.fTrack)] (by kernel_rfl) (by kernel_rfl) (by kernel_rfl) (fun e => ((set_ho ho_562) e).1) encGChoice_len hx_576 (by kernel_rfl) (by kernel_rfl) (kD [1] (qz (jx_inn (jx_then (jc_region (qh [0,0,0] (qe (qb (((xs_27.set i_28.toNat x_31).set (w64 (i_28 - 1)).toNat x_32), (w64 (i_28 - 1))) () h ⟨(List.length_set.trans (List.length_set.trans hn_563)), (set_ho (set_ho ho_562))⟩ [0, 1]))))))))))
      ·refine jc_exit (jx_thenx (jx_leave xs_27 (Option.some.inj h).symm (fun e_577 => ?_)))
       subst e_577
       exact jx_ine (qm xs_27 ⟨hr_564, hn_563, ho_562⟩ [0, 1])
     ·rintro xs_25 ⟨h, hn_537, ho_536⟩
      replace h : slices_symMergeCmpFunc_Choice_at_impl_Arrange_1.k_26 xs_25 = some r := h
      rw [slices_symMergeCmpFunc_Choice_at_impl_Arrange_1.k_26] at h
      refine jx_then (jc_ret (jx_thenr ?_))
      obtain rfl := Option.some.inj h
      exact qr [] (fun w hm => ⟨hn_537, ho_536, rfl, hm.pk [0, 1]⟩)
   ·refine jc_skip (jx_then (jc_seq (jc_region (qh [0,0,0,0,0,0,0] (qe (jx_then (jc_seq (jc_region (qh [0,0,0,0] (qe (jx_then (jc_seq (jc_region (qh [0,0] (qe (jx_then (jc_seq (jc_meet (fun (j : Int × Int) => match j with | ⟨i_45, i_46⟩ => slices_symMergeCmpFunc_Choice_at_impl_Arrange_1.k_47 self_ data0 a1 m2 b3 g4c0 i_45 i_46 = some r) (fun (j : Int × Int) => match j with | ⟨i_45, i_46⟩ => [(0, [], (.slice (A_o.map fun b => ⟨b, 0, none⟩) data0.length A_c)), (1, [], (.int .i64 a1)), (2, [], (.int .i64 m2)), (3, [], (.int .i64 b3)), (4, [], (.func (.func 89) #[] #[(.pointer (some ⟨E_b, 0, none⟩))])), (18, [], (.int .i64 (w64 (bShr .u64 (u64 (w64 (a1 + b3))) 1)))), (19, [], (.int .i64 (w64 ((w64 (bShr .u64 (u64 (w64 (a1 + b3))) 1)) + m2)))), (20, [], (.int .i64 i_45)), (21, [], (.int .i64 i_46))]) (fun (j : Int × Int) => match j with | ⟨i_45, i_46⟩ => [⟨A_o, 104, row encGChoice data0 A_sp⟩, ⟨some E_b, 33, [(.int .i16 g4c0.fAway), (.int .i16 g4c0.fOctave), (.int .i16 g4c0.fStep)]⟩]) ?_ ?_))))))))))))))))))
    ·refine jc_seq (jc_region (qh [0,0,0] (qe (jx_then (qi h (fun h => ?_) (fun h => ?_))))))
     ·exact jc_seq (jc_region (qh [0,0,0,0] (qe (jx_then (jc_region (qh [0,0] (qe (qm ⟨(w64 ((w64 ((w64 (bShr .u64 (u64 (w64 (a1 + b3))) 1)) + m2)) - b3)), (w64 (bShr .u64 (u64 (w64 (a1 + b3))) 1))⟩ h [0, 1]))))))))
     ·exact jc_seq (jc_region (qh [0,0] (qe (jx_then (jc_region (qh [0,0] (qe (qm ⟨a1, m2⟩ h [0, 1]))))))))
    ·rintro ⟨i_45, i_46⟩ h
     replace h : slices_symMergeCmpFunc_Choice_at_impl_Arrange_1.k_47 self_ data0 a1 m2 b3 g4c0 i_45 i_46 = some r := h
     rw [slices_symMergeCmpFunc_Choice_at_impl_Arrange_1.k_47] at h
     refine jx_then (jc_seq (jc_region (qh [0,0,0] (qe (jx_then (jc_seq (jc_meet (fun (j : Int) => match j with | i_48 => slices_symMergeCmpFunc_Choice_at_impl_Arrange_1.k_49 self_ data0 a1 m2 b3 g4c0 i_48 = some r) (fun (j : Int) => match j with | i_48 => [(0, [], (.slice (A_o.map fun b => ⟨b, 0, none⟩) data0.length A_c)), (1, [], (.int .i64 a1)), (2, [], (.int .i64 m2)), (3, [], (.int .i64 b3)), (4, [], (.func (.func 89) #[] #[(.pointer (some ⟨E_b, 0, none⟩))])), (18, [], (.int .i64 (w64 (bShr .u64 (u64 (w64 (a1 + b3))) 1)))), (19, [], (.int .i64 (w64 ((w64 (bShr .u64 (u64 (w64 (a1 + b3))) 1)) + m2)))), (20, [], (.int .i64 i_48))]) (fun (j : Int) => match j with | i_48 => [⟨A_o, 104, row encGChoice data0 A_sp⟩, ⟨some E_b, 33, [(.int .i16 g4c0.fAway), (.int .i16 g4c0.fOctave), (.int .i16 g4c0.fStep)]⟩]) ?_ ?_)))))))
     ·refine jc_block ?_
      obtain ⟨t_60, ht_705, hr_692⟩ := bd h
      refine jc_loop (fun (s : Int × Int) (x : Unit) => match s, x with | ⟨i_57, i_58⟩, _ => True) (fun (s : Int × Int) (x : Unit) => match s, x with | ⟨i_57, i_58⟩, _ => [(0, [], (.slice (A_o.map fun b => ⟨b, 0, none⟩) data0.length A_c)), (1, [], (.int .i64 a1)), (2, [], (.int .i64 m2)), (3, [], (.int .i64 b3)), (4, [], (.func (.func 89) #[] #[(.pointer (some ⟨E_b, 0, none⟩))])), (18, [], (.int .i64 (w64 (bShr .u64 (u64 (w64 (a1 + b3))) 1)))), (19, [], (.int .i64 (w64 ((w64 (bShr .u64 (u64 (w64 (a1 + b3))) 1)) + m2)))), (20, [], (.int .i64 i_57)), (21, [], (.int .i64 i_58)), (22, [], (.int .i64 (w64 ((w64 ((w64 (bShr .u64 (u64 (w64 (a1 + b3))) 1)) + m2)) - 1))))]) (fun (s : Int × Int) (x : Unit) => match s, x with | ⟨i_57, i_58⟩, _ => [⟨A_o, 104, row encGChoice data0 A_sp⟩, ⟨some E_b, 33, [(.int .i16 g4c0.fAway), (.int .i16 g4c0.fOctave), (.int .i16 g4c0.fStep)]⟩]) ht_705 () trivial (by kernel_rfl) [0, 1] (by kernel_rfl) (by kernel_rfl) ?_
      rintro ⟨i_57, i_58⟩ _ y_693 _ h
      rw [slices_symMergeCmpFunc_Choice_at_impl_Arrange_1.l_59] at h
      refine jc_seq (jc_seq (jc_region (qh [0,0,0] (qe (jx_then (qi h (fun h => ?_) (fun h => ?_)))))))
      ·refine jc_skip (jx_then (jc_meet (fun (j : Int × Int) => match j with | ⟨i_61, i_62⟩ => slices_symMergeCmpFunc_Choice_at_impl_Arrange_1.k_63 i_61 i_62 = some y_693) (fun (j : Int × Int) => match j with | ⟨i_61, i_62⟩ => [(0, [], (.slice (A_o.map fun b => ⟨b, 0, none⟩) data0.length A_c)), (1, [], (.int .i64 a1)), (2, [], (.int .i64 m2)), (3, [], (.int .i64 b3)), (4, [], (.func (.func 89) #[] #[(.pointer (some ⟨E_b, 0, none⟩))])), (18, [], (.int .i64 (w64 (bShr .u64 (u64 (w64 (a1 + b3))) 1)))), (19, [], (.int .i64 (w64 ((w64 (bShr .u64 (u64 (w64 (a1 + b3))) 1)) + m2)))), (20, [], (.int .i64 i_61)), (21, [], (.int .i64 i_62)), (22, [], (.int .i64 (w64 ((w64 ((w64 (bShr .u64 (u64 (w64 (a1 + b3))) 1)) + m2)) - 1))))]) (fun (j : Int × Int) => match j with | ⟨i_61, i_62⟩ => [⟨A_o, 104, row encGChoice data0 A_sp⟩, ⟨some E_b, 33, [(.int .i16 g4c0.fAway), (.int .i16 g4c0.fOctave), (.int .i16 g4c0.fStep)]⟩]) ?_ ?_))
       ·refine jc_block (jc_seq (jc_region (qh [0,0,0,0,0,0,0] (qe (jx_then (jc_seq (qg [⟨A_o, 104, row encGChoice data0 A_sp⟩, ⟨some E_b, 33, [(.int .i16 g4c0.fAway), (.int .i16 g4c0.fOctave), (.int .i16 g4c0.fStep)]⟩] 14 (qd [⟨0, 0, 0⟩,⟨1, 0, 0⟩,⟨2, 0, 0⟩,⟨3, 0, 0⟩,⟨4, 0, 0⟩,⟨7, 0, 0⟩,⟨8, 0, 0⟩] 7 [0, 1] ?_))))))))
        obtain ⟨x_64, hx_700, h⟩ := bd h
        refine qv 5 0 [0, 1] (fun w hm => idx_run (a := (A_o.map fun b => ⟨b, 0, none⟩)) (len := data0.length) (s := 4) (j := (w64 ((w64 ((w64 ((w64 (bShr .u64 (u64 (w64 (a1 + b3))) 1)) + m2)) - 1)) - (w64 (bShr .u64 (u64 (w64 (i_57 + i_58))) 1))))) (by kernel_rfl) (ix_some hx_700).1 (ltn hx_700 rfl) (spo A_ho hx_700)) (qv 6 0 [0, 1] (fun w hm => ld_run (b := aB (A_o.map fun b => ⟨b, 0, none⟩)) (off := (aO (A_o.map fun b => ⟨b, 0, none⟩) + (w64 ((w64 ((w64 ((w64 (bShr .u64 (u64 (w64 (a1 + b3))) 1)) + m2)) - 1)) - (w64 (bShr .u64 (u64 (w64 (i_57 + i_58))) 1)))).toNat * 4)) (s := 4) (agg := true) (vs := (encGChoice x_64)) (by kernel_rfl) (by kernel_rfl) (.inl rfl) ((hm.ow 0 A_o 104 data0 A_sp (fun e => (A_ho e).1) encGChoice_len).at hx_700)) ?_)
        obtain ⟨x_65, hx_701, h⟩ := bd h
        refine qv 9 0 [0, 1] (fun w hm => idx_run (a := (A_o.map fun b => ⟨b, 0, none⟩)) (len := data0.length) (s := 4) (j := (w64 (bShr .u64 (u64 (w64 (i_57 + i_58))) 1))) (by kernel_rfl) (ix_some hx_701).1 (ltn hx_701 rfl) (spo A_ho hx_701)) (qv 10 0 [0, 1] (fun w hm => ld_run (b := aB (A_o.map fun b => ⟨b, 0, none⟩)) (off := (aO (A_o.map fun b => ⟨b, 0, none⟩) + (w64 (bShr .u64 (u64 (w64 (i_57 + i_58))) 1)).toNat * 4)) (s := 4) (agg := true) (vs := (encGChoice x_65)) (by kernel_rfl) (by kernel_rfl) (.inl rfl) ((hm.ow 0 A_o 104 data0 A_sp (fun e => (A_ho e).1) encGChoice_len).at hx_701)) ?_)
        obtain ⟨t_66, ht_702, h⟩ := bd h
        refine tD 11 (pc 0 (fun w hm => impl_Arrange_1.calls x_64 x_65 g4c0 w _ E_b (hm.pass (N := [⟨some E_b, 33, [(.int .i16 g4c0.fAway), (.int .i16 g4c0.fOctave), (.int .i16 g4c0.fStep)]⟩]) [1] (by kernel_rfl) (by kernel_rfl)) ht_702) ?_)
        rintro w v w' hm ⟨rfl, hm'⟩
        refine ⟨_, hm.appW (ps := [(1, ⟨some E_b, 33, [(.int .i16 g4c0.fAway), (.int .i16 g4c0.fOctave), (.int .i16 g4c0.fStep)]⟩)]) (N := []) hm' (by kernel_rfl) (by kernel_rfl), kD [0, 1] ?_⟩
        clear hm hm'
        refine qd [⟨12, 0, 0⟩,⟨13, 0, 0⟩] 0 [0, 1] (qz (jx_then (qi h (fun h => ?_) (fun h => ?_))))
        ·exact jc_region (qh [0,0,0] (qe (jx_inn (qm ⟨(w64 ((w64 (bShr .u64 (u64 (w64 (i_57 + i_58))) 1)) + 1)), i_58⟩ h [0, 1]))))
        ·exact jc_region (qh [0,0] (qe (jx_inn (qm ⟨i_57, (w64 (bShr .u64 (u64 (w64 (i_57 + i_58))) 1))⟩ h [0, 1]))))
       ·rintro ⟨i_61, i_62⟩ h
        replace h : slices_symMergeCmpFunc_Choice_at_impl_Arrange_1.k_63 i_61 i_62 = some y_693 := h
        rw [slices_symMergeCmpFunc_Choice_at_impl_Arrange_1.k_63] at h
        exact qb (i_61, i_62) () h trivial [0, 1]
      ·refine jc_exit (jx_thenx (jx_leave i_57 (Option.some.inj h).symm (fun e_704 => ?_)))
       subst e_704
       exact jx_ine (qm i_57 hr_692 [0, 1])
     ·rintro i_48 h
      replace h : slices_symMergeCmpFunc_Choice_at_impl_Arrange_1.k_49 self_ data0 a1 m2 b3 g4c0 i_48 = some r := h
      rw [slices_symMergeCmpFunc_Choice_at_impl_Arrange_1.k_49] at h
      refine jx_then (jc_seq (jc_region (qh [0,0,0,0] (qe (jx_then (jc_seq (jc_meet (fun (j : (List GChoice)) => match j with | xs_50 => slices_symMergeCmpFunc_Choice_at_impl_Arrange_1.k_51 self_ a1 m2 b3 g4c0 i_48 xs_50 = some r ∧ (xs_50.length = data0.length) ∧ ((A_o = none → xs_50 = [] ∧ A_c = 0))) (fun (j : (List GChoice)) => match j with | xs_50 => [(0, [], (.slice (A_o.map fun b => ⟨b, 0, none⟩) data0.length A_c)), (1, [], (.int .i64 a1)), (3, [], (.int .i64 b3)), (4, [], (.func (.func 89) #[] #[(.pointer (some ⟨E_b, 0, none⟩))])), (18, [], (.int .i64 (w64 (bShr .u64 (u64 (w64 (a1 + b3))) 1)))), (20, [], (.int .i64 i_48)), (24, [], (.int .i64 (w64 ((w64 ((w64 (bShr .u64 (u64 (w64 (a1 + b3))) 1)) + m2)) - i_48))))]) (fun (j : (List GChoice)) => match j with | xs_50 => [⟨A_o, 104, row encGChoice xs_50 A_sp⟩, ⟨some E_b, 33, [(.int .i16 g4c0.fAway), (.int .i16 g4c0.fOctave), (.int .i16 g4c0.fStep)]⟩]) ?_ ?_)))))))
      ·refine jc_seq (jc_region (qf [(0, 0), (0, 0), (0, 0), (0, 0), (0, 1), (0, 1), (0, 1), (0, 0)] (qe (jx_then (qi h (fun h => ?_) (fun h => ?_))))))
       ·refine jc_region (qh [0,0,0,0,0] ?_)
        obtain ⟨t_56, ht_669, h⟩ := bd h
        refine tO (pc 0 (fun w hm => slices_rotateCmpFunc_Choice_at_impl_Arrange_1.calls data0 i_48 m2 (w64 ((w64 ((w64 (bShr .u64 (u64 (w64 (a1 + b3))) 1)) + m2)) - i_48)) g4c0 w _ A_o rfl A_hs A_ho E_b (hm.pass (N := [⟨A_o, 104, row encGChoice data0 A_sp⟩, ⟨some E_b, 33, [(.int .i16 g4c0.fAway), (.int .i16 g4c0.fOctave), (.int .i16 g4c0.fStep)]⟩]) [0, 1] (by kernel_rfl) (by kernel_rfl)) ht_669) ?_)
        rintro w v w' hm ⟨hn_670, ho_671, rfl, hm'⟩
        refine ⟨_, hm.appW (ps := [(0, ⟨A_o, 104, row encGChoice t_56 A_sp⟩), (1, ⟨some E_b, 33, [(.int .i16 g4c0.fAway), (.int .i16 g4c0.fOctave), (.int .i16 g4c0.fStep)]⟩)]) (N := []) hm' (by kernel_rfl) (by kernel_rfl), jkO ?_⟩
        clear hm hm'
        exact qe (qm t_56 ⟨h, hn_670, ho_671⟩ [0, 1])
       ·exact jc_skip (qm data0 ⟨h, rfl, A_ho⟩ [0, 1])
      ·rintro xs_50 ⟨h, hn_653, ho_652⟩
       replace h : slices_symMergeCmpFunc_Choice_at_impl_Arrange_1.k_51 self_ a1 m2 b3 g4c0 i_48 xs_50 = some r := h
       rw [slices_symMergeCmpFunc_Choice_at_impl_Arrange_1.k_51] at h
       refine jx_then (jc_seq (jc_meet (fun (j : (List GChoice)) => match j with | xs_52 => slices_symMergeCmpFunc_Choice_at_impl_Arrange_1.k_53 self_ a1 m2 b3 g4c0 i_48 xs_52 = some r ∧ (xs_52.length = data0.length) ∧ ((A_o = none → xs_52 = [] ∧ A_c = 0))) (fun (j : (List GChoice)) => match j with | xs_52 => [(0, [], (.slice (A_o.map fun b => ⟨b, 0, none⟩) data0.length A_c)), (3, [], (.int .i64 b3)), (4, [], (.func (.func 89) #[] #[(.pointer (some ⟨E_b, 0, none⟩))])), (18, [], (.int .i64 (w64 (bShr .u64 (u64 (w64 (a1 + b3))) 1)))), (24, [], (.int .i64 (w64 ((w64 ((w64 (bShr .u64 (u64 (w64 (a1 + b3))) 1)) + m2)) - i_48))))]) (fun (j : (List GChoice)) => match j with | xs_52 => [⟨A_o, 104, row encGChoice xs_52 A_sp⟩, ⟨some E_b, 33, [(.int .i16 g4c0.fAway), (.int .i16 g4c0.fOctave), (.int .i16 g4c0.fStep)]⟩]) ?_ ?_))
       ·refine jc_seq (jc_region (qf [(0, 0), (0, 0), (0, 0), (0, 0), (0, 1), (0, 1), (0, 1), (0, 0)] (qe (jx_then (qi h (fun h => ?_) (fun h => ?_))))))
        ·refine jc_region (qh [0,0,0,0,0] ?_)
         obtain ⟨t_55, ht_665, h⟩ := bd h
         refine tO (pc 0 (fun w hm => hself xs_50 a1 i_48 (w64 (bShr .u64 (u64 (w64 (a1 + b3))) 1)) g4c0 w _ A_o hn_653 A_hs ho_652 E_b (hm.pass (N := [⟨A_o, 104, row encGChoice xs_50 A_sp⟩, ⟨some E_b, 33, [(.int .i16 g4c0.fAway), (.int .i16 g4c0.fOctave), (.int .i16 g4c0.fStep)]⟩]) [0, 1] (by kernel_rfl) (by kernel_rfl)) ht_665) ?_)
         rintro w v w' hm ⟨hn_666, ho_667, rfl, hm'⟩
         refine ⟨_, hm.appW (ps := [(0, ⟨A_o, 104, row encGChoice t_55 A_sp⟩), (1, ⟨some E_b, 33, [(.int .i16 g4c0.fAway), (.int .i16 g4c0.fOctave), (.int .i16 g4c0.fStep)]⟩)]) (N := []) hm' (by kernel_rfl) (by kernel_rfl), jkO ?_⟩
         clear hm hm'
         exact qe (qm t_55 ⟨h, hn_666, ho_667⟩ [0, 1])
        ·exact jc_skip (qm xs_50 ⟨h, hn_653, ho_652⟩ [0, 1])
       ·rintro xs_52 ⟨h, hn_659, ho_658⟩
        replace h : slices_symMergeCmpFunc_Choice_at_impl_Arrange_1.k_53 self_ a1 m2 b3 g4c0 i_48 xs_52 = some r := h
        rw [slices_symMergeCmpFunc_Choice_at_impl_Arrange_1.k_53] at h
        refine jx_then (jc_seq (jc_region (qf [(0, 0), (0, 0), (0, 0), (0, 0), (0, 1), (0, 1), (0, 1), (0, 0)] (qe (jx_then (qi h (fun h => ?_) (fun h => ?_)))))))
        ·refine jc_region (qh [0,0,0,0,0] ?_)
         obtain ⟨t_54, ht_661, h⟩ := bd h
         refine tO (pc 0 (fun w hm => hself xs_52 (w64 (bShr .u64 (u64 (w64 (a1 + b3))) 1)) (w64 ((w64 ((w64 (bShr .u64 (u64 (w64 (a1 + b3))) 1)) + m2)) - i_48)) b3 g4c0 w _ A_o hn_659 A_hs ho_658 E_b (hm.pass (N := [⟨A_o, 104, row encGChoice xs_52 A_sp⟩, ⟨some E_b, 33, [(.int .i16 g4c0.fAway), (.int .i16 g4c0.fOctave), (.int .i16 g4c0.fStep)]⟩]) [0, 1] (by kernel_rfl) (by kernel_rfl)) ht_661) ?_)
         rintro w v w' hm ⟨hn_662, ho_663, rfl, hm'⟩
         refine ⟨_, hm.appW (ps := [(0, ⟨A_o, 104, row encGChoice t_54 A_sp⟩), (1, ⟨some E_b, 33, [(.int .i16 g4c0.fAway), (.int .i16 g4c0.fOctave), (.int .i16 g4c0.fStep)]⟩)]) (N := []) hm' (by kernel_rfl) (by kernel_rfl), jkO ?_⟩
         clear hm hm'
         refine qe (jx_fall ?_)
         obtain rfl := Option.some.inj h
         exact qr [] (fun w hm => ⟨hn_662, ho_663, rfl, hm.pk [0, 1]⟩)
        ·refine jc_skip (jx_fall ?_)
         obtain rfl := Option.some.inj h
         exact qr [] (fun w hm => ⟨hn_659, ho_658, rfl, hm.pk [0, 1]⟩)
theorem slices_symMergeCmpFunc_Choice_at_impl_Arrange_1.rec_calls (fu : Nat) : ∀ (data0 : List GChoice) (a1 : Int) (m2 : Int) (b3 : Int) (g4c0 : GCosts) (w : World) (r : (List GChoice)) (A_o : Option Nat) {A_on : Nat} {A_c : Nat} {A_sp : List Value} (A_hn : data0.length = A_on) (A_hs : A_o ≠ none → A_on ≤ A_c ∧ A_sp.length = (A_c - A_on) * 4) (A_ho : A_o = none → data0 = [] ∧ A_c = 0) (E_b : Nat) (hm0 : Mem w (bs [A_o, some E_b]) [⟨A_o, 104, row encGChoice data0 A_sp⟩, ⟨some E_b, 33, [(.int .i16 g4c0.fAway), (.int .i16 g4c0.fOctave), (.int .i16 g4c0.fStep)]⟩] w) (h : slices_symMergeCmpFunc_Choice_at_impl_Arrange_1.rec_ fu data0 a1 m2 b3 g4c0 = some r),
    Calls Tryz.prog 211 #[(.slice (A_o.map fun b => ⟨b, 0, none⟩) A_on A_c), (.int .i64 a1), (.int .i64 m2), (.int .i64 b3), (.func (.func 89) #[] #[(.pointer (some ⟨E_b, 0, none⟩))])] w fun e w' => ∃ v, e = .returned v ∧ (r.length = A_on ∧ (A_o = none → r = [] ∧ A_c = 0) ∧ v = .tuple #[] ∧ Mem w (bs [A_o, some E_b]) [⟨A_o, 104, row encGChoice r A_sp⟩, ⟨some E_b, 33, [(.int .i16 g4c0.fAway), (.int .i16 g4c0.fOctave), (.int .i16 g4c0.fStep)]⟩] w') := by
  induction fu with
  | zero => intros; rename_i h; cases h
  | succ fu ih => exact @slices_symMergeCmpFunc_Choice_at_impl_Arrange_1.step_calls _ (slices_symMergeCmpFunc_Choice_at_impl_Arrange_1.rec_ fu) @ih
theorem slices_symMergeCmpFunc_Choice_at_impl_Arrange_1.calls (data0 : List GChoice) (a1 : Int) (m2 : Int) (b3 : Int) (g4c0 : GCosts) (w : World) (r : (List GChoice)) (A_o : Option Nat) {A_on : Nat} {A_c : Nat} {A_sp : List Value} (A_hn : data0.length = A_on) (A_hs : A_o ≠ none → A_on ≤ A_c ∧ A_sp.length = (A_c - A_on) * 4) (A_ho : A_o = none → data0 = [] ∧ A_c = 0) (E_b : Nat) (hm0 : Mem w (bs [A_o, some E_b]) [⟨A_o, 104, row encGChoice data0 A_sp⟩, ⟨some E_b, 33, [(.int .i16 g4c0.fAway), (.int .i16 g4c0.fOctave), (.int .i16 g4c0.fStep)]⟩] w) (h : slices_symMergeCmpFunc_Choice_at_impl_Arrange_1 data0 a1 m2 b3 g4c0 = some r) :
    Calls Tryz.prog 211 #[(.slice (A_o.map fun b => ⟨b, 0, none⟩) A_on A_c), (.int .i64 a1), (.int .i64 m2), (.int .i64 b3), (.func (.func 89) #[] #[(.pointer (some ⟨E_b, 0, none⟩))])] w fun e w' => ∃ v, e = .returned v ∧ (r.length = A_on ∧ (A_o = none → r = [] ∧ A_c = 0) ∧ v = .tuple #[] ∧ Mem w (bs [A_o, some E_b]) [⟨A_o, 104, row encGChoice r A_sp⟩, ⟨some E_b, 33, [(.int .i16 g4c0.fAway), (.int .i16 g4c0.fOctave), (.int .i16 g4c0.fStep)]⟩] w') :=
  slices_symMergeCmpFunc_Choice_at_impl_Arrange_1.rec_calls 200 data0 a1 m2 b3 g4c0 w r A_o A_hn A_hs A_ho E_b hm0 h
/-! ### slices.stableCmpFunc[impl.Choice] -/
def slices_stableCmpFunc_Choice_at_impl_Arrange_1.k_7 (xs_6 : List GChoice) : Option ((List GChoice)) := some xs_6
def slices_stableCmpFunc_Choice_at_impl_Arrange_1.k_13 (i_9 : Int) (xs_12 : List GChoice) : Option (((List GChoice) × Int) ⊕ ((List GChoice))) := some (.inl (xs_12, (w64 (i_9 * 2))))
def slices_stableCmpFunc_Choice_at_impl_Arrange_1.k_16 (n1 : Int) (g2c0 : GCosts) (i_9 : Int) (xs_14 : List GChoice) (i_15 : Int) : Option (((List GChoice) × Int) ⊕ ((List GChoice))) := (if (decide ((w64 (i_15 + i_9)) < n1)) = true then (slices_symMergeCmpFunc_Choice_at_impl_Arrange_1 xs_14 i_15 (w64 (i_15 + i_9)) n1 g2c0).bind fun t_17 => slices_stableCmpFunc_Choice_at_impl_Arrange_1.k_13 i_9 t_17 else slices_stableCmpFunc_Choice_at_impl_Arrange_1.k_13 i_9 xs_14)
def slices_stableCmpFunc_Choice_at_impl_Arrange_1.l_21 (n1 : Int) (g2c0 : GCosts) (i_9 : Int) : ((List GChoice) × Int × Int) → Option (((List GChoice) × Int × Int) ⊕ (((List GChoice) × Int)))
  | (xs_18, i_19, i_20) => (if (decide (i_20 ≤ n1)) = true then (slices_symMergeCmpFunc_Choice_at_impl_Arrange_1 xs_18 i_19 (w64 (i_19 + i_9)) i_20 g2c0).bind fun t_23 => some (.inl (t_23, i_20, (w64 (i_20 + (w64 (2 * i_9)))))) else some (.inr (xs_18, i_19)))
def slices_stableCmpFunc_Choice_at_impl_Arrange_1.l_10 (n1 : Int) (g2c0 : GCosts) : ((List GChoice) × Int) → Option (((List GChoice) × Int) ⊕ ((List GChoice)))
  | (xs_8, i_9) => (if (decide (i_9 < n1)) = true then (loop (slices_stableCmpFunc_Choice_at_impl_Arrange_1.l_21 n1 g2c0 i_9) (xs_8, 0, (w64 (2 * i_9)))).bind fun t_22 => slices_stableCmpFunc_Choice_at_impl_Arrange_1.k_16 n1 g2c0 i_9 t_22.1 t_22.2 else some (.inr xs_8))
def slices_stableCmpFunc_Choice_at_impl_Arrange_1.k_4 (n1 : Int) (g2c0 : GCosts) (xs_1 : List GChoice) (i_2 : Int) (i_3 : Int) : Option ((List GChoice)) := (slices_insertionSortCmpFunc_Choice_at_impl_Arrange_1 xs_1 i_2 n1 g2c0).bind fun t_5 => (loop (slices_stableCmpFunc_Choice_at_impl_Arrange_1.l_10 n1 g2c0) (t_5, 20)).bind fun t_11 => slices_stableCmpFunc_Choice_at_impl_Arrange_1.k_7 t_11
def slices_stableCmpFunc_Choice_at_impl_Arrange_1.l_27 (n1 : Int) (g2c0 : GCosts) : ((List GChoice) × Int × Int) → Option (((List GChoice) × Int × Int) ⊕ (((List GChoice) × Int × Int)))
  | (xs_24, i_25, i_26) => (if (decide (i_26 ≤ n1)) = true then (slices_insertionSortCmpFunc_Choice_at_impl_Arrange_1 xs_24 i_25 i_26 g2c0).bind fun t_29 => some (.inl (t_29, i_26, (w64 (i_26 + 20)))) else some (.inr (xs_24, i_25, i_26)))
def slices_stableCmpFunc_Choice_at_impl_Arrange_1 (data0 : List GChoice) (n1 : Int) (g2c0 : GCosts) : Option ((List GChoice)) := (loop (slices_stableCmpFunc_Choice_at_impl_Arrange_1.l_27 n1 g2c0) (data0, 0, 20)).bind fun t_28 => slices_stableCmpFunc_Choice_at_impl_Arrange_1.k_4 n1 g2c0 t_28.1 t_28.2.1 t_28.2.2
theorem slices_stableCmpFunc_Choice_at_impl_Arrange_1.calls (data0 : List GChoice) (n1 : Int) (g2c0 : GCosts) (w : World) (r : (List GChoice)) (A_o : Option Nat) {A_on : Nat} {A_c : Nat} {A_sp : List Value} (A_hn : data0.length = A_on) (A_hs : A_o ≠ none → A_on ≤ A_c ∧ A_sp.length = (A_c - A_on) * 4) (A_ho : A_o = none → data0 = [] ∧ A_c = 0) (C_b : Nat) (hm0 : Mem w (bs [A_o, some C_b]) [⟨A_o, 104, row encGChoice data0 A_sp⟩, ⟨some C_b, 33, [(.int .i16 g2c0.fAway), (.int .i16 g2c0.fOctave), (.int .i16 g2c0.fStep)]⟩] w) (h : slices_stableCmpFunc_Choice_at_impl_Arrange_1 data0 n1 g2c0 = some r) :
    Calls Tryz.prog 161 #[(.slice (A_o.map fun b => ⟨b, 0, none⟩) A_on A_c), (.int .i64 n1), (.func (.func 89) #[] #[(.pointer (some ⟨C_b, 0, none⟩))])] w fun e w' => ∃ v, e = .returned v ∧ (r.length = A_on ∧ (A_o = none → r = [] ∧ A_c = 0) ∧ v = .tuple #[] ∧ Mem w (bs [A_o, some C_b]) [⟨A_o, 104, row encGChoice r A_sp⟩, ⟨some C_b, 33, [(.int .i16 g2c0.fAway), (.int .i16 g2c0.fOctave), (.int .i16 g2c0.fStep)]⟩] w') := by
  subst A_hn
  rw [slices_stableCmpFunc_Choice_at_impl_Arrange_1] at h
  refine enter (args := [(.slice (A_o.map fun b => ⟨b, 0, none⟩) data0.length A_c), (.int .i64 n1), (.func (.func 89) #[] #[(.pointer (some ⟨C_b, 0, none⟩))])]) Tryz.func161 rfl Tryz.ntmps161 (by kernel_rfl) (L := [⟨A_o, 104, row encGChoice data0 A_sp⟩, ⟨some C_b, 33, [(.int .i16 g2c0.fAway), (.int .i16 g2c0.fOctave), (.int .i16 g2c0.fStep)]⟩]) (W := bs [A_o, some C_b]) hm0 ?_
  refine jc_seq (jc_region (qh [0] (qe (jx_then (jc_seq (jc_region (qh [0,0,0] (qe (jx_then (jc_seq (jc_meet (fun (j : (List GChoice) × Int × Int) => match j with | ⟨xs_1, i_2, i_3⟩ => slices_stableCmpFunc_Choice_at_impl_Arrange_1.k_4 n1 g2c0 xs_1 i_2 i_3 = some r ∧ (xs_1.length = data0.length) ∧ ((A_o = none → xs_1 = [] ∧ A_c = 0))) (fun (j : (List GChoice) × Int × Int) => match j with | ⟨xs_1, i_2, i_3⟩ => [(0, [], (.slice (A_o.map fun b => ⟨b, 0, none⟩) data0.length A_c)), (1, [], (.int .i64 n1)), (2, [], (.func (.func 89) #[] #[(.pointer (some ⟨C_b, 0, none⟩))])), (6, [], (.int .i64 20)), (7, [], (.int .i64 i_2)), (8, [], (.int .i64 i_3))]) (fun (j : (List GChoice) × Int × Int) => match j with | ⟨xs_1, i_2, i_3⟩ => [⟨A_o, 104, row encGChoice xs_1 A_sp⟩, ⟨some C_b, 33, [(.int .i16 g2c0.fAway), (.int .i16 g2c0.fOctave), (.int .i16 g2c0.fStep)]⟩]) ?_ ?_)))))))))))
  ·refine jc_block ?_
   obtain ⟨t_28, ht_717, hr_709⟩ := bd h
   refine jc_loop (fun (s : (List GChoice) × Int × Int) (x : Unit) => match s, x with | ⟨xs_24, i_25, i_26⟩, _ => (xs_24.length = data0.length) ∧ ((A_o = none → xs_24 = [] ∧ A_c = 0))) (fun (s : (List GChoice) × Int × Int) (x : Unit) => match s, x with | ⟨xs_24, i_25, i_26⟩, _ => [(0, [], (.slice (A_o.map fun b => ⟨b, 0, none⟩) data0.length A_c)), (1, [], (.int .i64 n1)), (2, [], (.func (.func 89) #[] #[(.pointer (some ⟨C_b, 0, none⟩))])), (6, [], (.int .i64 20)), (7, [], (.int .i64 i_25)), (8, [], (.int .i64 i_26))]) (fun (s : (List GChoice) × Int × Int) (x : Unit) => match s, x with | ⟨xs_24, i_25, i_26⟩, _ => [⟨A_o, 104, row encGChoice xs_24 A_sp⟩, ⟨some C_b, 33, [(.int .i16 g2c0.fAway), (.int .i16 g2c0.fOctave), (.int .i16 g2c0.fStep)]⟩]) ht_717 () ⟨rfl, A_ho⟩ (by kernel_rfl) [0, 1] (by kernel_rfl) (by kernel_rfl) ?_
   rintro ⟨xs_24, i_25, i_26⟩ _ y_710 ⟨hn_708, ho_707⟩ h
   rw [slices_stableCmpFunc_Choice_at_impl_Arrange_1.l_27] at h
   refine jc_seq (jc_seq (jc_region (qh [0,0,0] (qe (jx_then (qi h (fun h => ?_) (fun h => ?_)))))))
   ·refine jc_skip (jx_then (jc_block (jc_seq (jc_region (qh [0,0,0,0] ?_)))))
    obtain ⟨t_29, ht_713, h⟩ := bd h
    refine tO (pc 0 (fun w hm => slices_insertionSortCmpFunc_Choice_at_impl_Arrange_1.calls xs_24 i_25 i_26 g2c0 w _ A_o hn_708 A_hs ho_707 C_b (hm.pass (N := [⟨A_o, 104, row encGChoice xs_24 A_sp⟩, ⟨some C_b, 33, [(.int .i16 g2c0.fAway), (.int .i16 g2c0.fOctave), (.int .i16 g2c0.fStep)]⟩]) [0, 1] (by kernel_rfl) (by kernel_rfl)) ht_713) ?_)
    rintro w v w' hm ⟨hn_714, ho_715, rfl, hm'⟩
    refine ⟨_, hm.appW (ps := [(0, ⟨A_o, 104, row encGChoice t_29 A_sp⟩), (1, ⟨some C_b, 33, [(.int .i16 g2c0.fAway), (.int .i16 g2c0.fOctave), (.int .i16 g2c0.fStep)]⟩)]) (N := []) hm' (by kernel_rfl) (by kernel_rfl), jkO ?_⟩
    clear hm hm'
    exact qe (jx_then (jc_seq (jc_region (qh [0,0] (qe (jx_then (jc_region (qh [0,0,0,0] (qe (jx_inn (qb (t_29, i_26, (w64 (i_26 + 20))) () h ⟨hn_714, ho_715⟩ [0, 1])))))))))))
   ·refine jc_exit (jx_thenx (jx_leave (xs_24, i_25, i_26) (Option.some.inj h).symm (fun e_716 => ?_)))
    subst e_716
    exact jx_ine (qm ⟨xs_24, i_25, i_26⟩ ⟨hr_709, hn_708, ho_707⟩ [0, 1])
  ·rintro ⟨xs_1, i_2, i_3⟩ ⟨h, hn_25, ho_24⟩
   replace h : slices_stableCmpFunc_Choice_at_impl_Arrange_1.k_4 n1 g2c0 xs_1 i_2 i_3 = some r := h
   rw [slices_stableCmpFunc_Choice_at_impl_Arrange_1.k_4] at h
   refine jx_then (jc_seq (jc_region (qh [0,0,0,0] ?_)))
   obtain ⟨t_5, ht_26, h⟩ := bd h
   refine tO (pc 0 (fun w hm => slices_insertionSortCmpFunc_Choice_at_impl_Arrange_1.calls xs_1 i_2 n1 g2c0 w _ A_o hn_25 A_hs ho_24 C_b (hm.pass (N := [⟨A_o, 104, row encGChoice xs_1 A_sp⟩, ⟨some C_b, 33, [(.int .i16 g2c0.fAway), (.int .i16 g2c0.fOctave), (.int .i16 g2c0.fStep)]⟩]) [0, 1] (by kernel_rfl) (by kernel_rfl)) ht_26) ?_)
   rintro w v w' hm ⟨hn_27, ho_28, rfl, hm'⟩
   refine ⟨_, hm.appW (ps := [(0, ⟨A_o, 104, row encGChoice t_5 A_sp⟩), (1, ⟨some C_b, 33, [(.int .i16 g2c0.fAway), (.int .i16 g2c0.fOctave), (.int .i16 g2c0.fStep)]⟩)]) (N := []) hm' (by kernel_rfl) (by kernel_rfl), jkO ?_⟩
   clear hm hm'
   refine qe (jx_then (jc_meet (fun (j : (List GChoice)) => match j with | xs_6 => slices_stableCmpFunc_Choice_at_impl_Arrange_1.k_7 xs_6 = some r ∧ (xs_6.length = data0.length) ∧ ((A_o = none → xs_6 = [] ∧ A_c = 0))) (fun (j : (List GChoice)) => match j with | xs_6 => []) (fun (j : (List GChoice)) => match j with | xs_6 => [⟨A_o, 104, row encGChoice xs_6 A_sp⟩, ⟨some C_b, 33, [(.int .i16 g2c0.fAway), (.int .i16 g2c0.fOctave), (.int .i16 g2c0.fStep)]⟩]) ?_ ?_))
   ·refine jc_block ?_
    obtain ⟨t_11, ht_694, hr_583⟩ := bd h
    refine jc_loop (fun (s : (List GChoice) × Int) (x : Unit) => match s, x with | ⟨xs_8, i_9⟩, _ => (xs_8.length = data0.length) ∧ ((A_o = none → xs_8 = [] ∧ A_c = 0))) (fun (s : (List GChoice) × Int) (x : Unit) => match s, x with | ⟨xs_8, i_9⟩, _ => [(0, [], (.slice (A_o.map fun b => ⟨b, 0, none⟩) data0.length A_c)), (1, [], (.int .i64 n1)), (2, [], (.func (.func 89) #[] #[(.pointer (some ⟨C_b, 0, none⟩))])), (6, [], (.int .i64 i_9))]) (fun (s : (List GChoice) × Int) (x : Unit) => match s, x with | ⟨xs_8, i_9⟩, _ => [⟨A_o, 104, row encGChoice xs_8 A_sp⟩, ⟨some C_b, 33, [(.int .i16 g2c0.fAway), (.int .i16 g2c0.fOctave), (.int .i16 g2c0.fStep)]⟩]) ht_694 () ⟨hn_27, ho_28⟩ (by kernel_rfl) [0, 1] (by kernel_rfl) (by kernel_rfl) ?_
    rintro ⟨xs_8, i_9⟩ _ y_584 ⟨hn_582, ho_581⟩ h
    rw [slices_stableCmpFunc_Choice_at_impl_Arrange_1.l_10] at h
    refine jc_seq (jc_seq (jc_region (qh [0,0,0] (qe (jx_then (qi h (fun h => ?_) (fun h => ?_)))))))
    ·refine jc_skip (jx_then (jc_meet (fun (j : (List GChoice)) => match j with | xs_12 => slices_stableCmpFunc_Choice_at_impl_Arrange_1.k_13 i_9 xs_12 = some y_584 ∧ (xs_12.length = data0.length) ∧ ((A_o = none → xs_12 = [] ∧ A_c = 0))) (fun (j : (List GChoice)) => match j with | xs_12 => [(0, [], (.slice (A_o.map fun b => ⟨b, 0, none⟩) data0.length A_c)), (1, [], (.int .i64 n1)), (2, [], (.func (.func 89) #[] #[(.pointer (some ⟨C_b, 0, none⟩))])), (6, [], (.int .i64 (w64 (i_9 * 2))))]) (fun (j : (List GChoice)) => match j with | xs_12 => [⟨A_o, 104, row encGChoice xs_12 A_sp⟩, ⟨some C_b, 33, [(.int .i16 g2c0.fAway), (.int .i16 g2c0.fOctave), (.int .i16 g2c0.fStep)]⟩]) ?_ ?_))
     ·refine jc_block (jc_seq (jc_region (qh [0,0,0,0] (qe (jx_then (jc_seq (jc_meet (fun (j : (List GChoice) × Int) => match j with | ⟨xs_14, i_15⟩ => slices_stableCmpFunc_Choice_at_impl_Arrange_1.k_16 n1 g2c0 i_9 xs_14 i_15 = some y_584 ∧ (xs_14.length = data0.length) ∧ ((A_o = none → xs_14 = [] ∧ A_c = 0))) (fun (j : (List GChoice) × Int) => match j with | ⟨xs_14, i_15⟩ => [(0, [], (.slice (A_o.map fun b => ⟨b, 0, none⟩) data0.length A_c)), (1, [], (.int .i64 n1)), (2, [], (.func (.func 89) #[] #[(.pointer (some ⟨C_b, 0, none⟩))])), (6, [], (.int .i64 i_9)), (7, [], (.int .i64 i_15))]) (fun (j : (List GChoice) × Int) => match j with | ⟨xs_14, i_15⟩ => [⟨A_o, 104, row encGChoice xs_14 A_sp⟩, ⟨some C_b, 33, [(.int .i16 g2c0.fAway), (.int .i16 g2c0.fOctave), (.int .i16 g2c0.fStep)]⟩]) ?_ ?_)))))))
      ·refine jc_block ?_
       obtain ⟨t_22, ht_692, hr_684⟩ := bd h
       refine jc_loop (fun (s : (List GChoice) × Int × Int) (x : Unit) => match s, x with | ⟨xs_18, i_19, i_20⟩, _ => (xs_18.length = data0.length) ∧ ((A_o = none → xs_18 = [] ∧ A_c = 0))) (fun (s : (List GChoice) × Int × Int) (x : Unit) => match s, x with | ⟨xs_18, i_19, i_20⟩, _ => [(0, [], (.slice (A_o.map fun b => ⟨b, 0, none⟩) data0.length A_c)), (1, [], (.int .i64 n1)), (2, [], (.func (.func 89) #[] #[(.pointer (some ⟨C_b, 0, none⟩))])), (6, [], (.int .i64 i_9)), (7, [], (.int .i64 i_19)), (8, [], (.int .i64 i_20))]) (fun (s : (List GChoice) × Int × Int) (x : Unit) => match s, x with | ⟨xs_18, i_19, i_20⟩, _ => [⟨A_o, 104, row encGChoice xs_18 A_sp⟩, ⟨some C_b, 33, [(.int .i16 g2c0.fAway), (.int .i16 g2c0.fOctave), (.int .i16 g2c0.fStep)]⟩]) ht_692 () ⟨hn_582, ho_581⟩ (by kernel_rfl) [0, 1] (by kernel_rfl) (by kernel_rfl) ?_
       rintro ⟨xs_18, i_19, i_20⟩ _ y_685 ⟨hn_683, ho_682⟩ h
       rw [slices_stableCmpFunc_Choice_at_impl_Arrange_1.l_21] at h
       refine jc_seq (jc_seq (jc_region (qh [0,0,0] (qe (jx_then (qi h (fun h => ?_) (fun h => ?_)))))))
       ·refine jc_skip (jx_then (jc_block (jc_seq (jc_region (qh [0,0,0,0,0,0,0] ?_)))))
        obtain ⟨t_23, ht_688, h⟩ := bd h
        refine tO (pc 0 (fun w hm => slices_symMergeCmpFunc_Choice_at_impl_Arrange_1.calls xs_18 i_19 (w64 (i_19 + i_9)) i_20 g2c0 w _ A_o hn_683 A_hs ho_682 C_b (hm.pass (N := [⟨A_o, 104, row encGChoice xs_18 A_sp⟩, ⟨some C_b, 33, [(.int .i16 g2c0.fAway), (.int .i16 g2c0.fOctave), (.int .i16 g2c0.fStep)]⟩]) [0, 1] (by kernel_rfl) (by kernel_rfl)) ht_688) ?_)
        rintro w v w' hm ⟨hn_689, ho_690, rfl, hm'⟩
        refine ⟨_, hm.appW (ps := [(0, ⟨A_o, 104, row encGChoice t_23 A_sp⟩), (1, ⟨some C_b, 33, [(.int .i16 g2c0.fAway), (.int .i16 g2c0.fOctave), (.int .i16 g2c0.fStep)]⟩)]) (N := []) hm' (by kernel_rfl) (by kernel_rfl), jkO ?_⟩
        clear hm hm'
        exact qe (jx_then (jc_seq (jc_region (qh [0,0] (qe (jx_then (jc_region (qh [0,0,0,0,0] (qe (jx_inn (qb (t_23, i_20, (w64 (i_20 + (w64 (2 * i_9))))) () h ⟨hn_689, ho_690⟩ [0, 1])))))))))))
       ·refine jc_exit (jx_thenx (jx_leave (xs_18, i_19) (Option.some.inj h).symm (fun e_691 => ?_)))
        subst e_691
        exact jx_ine (qm ⟨xs_18, i_19⟩ ⟨hr_684, hn_683, ho_682⟩ [0, 1])
      ·rintro ⟨xs_14, i_15⟩ ⟨h, hn_665, ho_664⟩
       replace h : slices_stableCmpFunc_Choice_at_impl_Arrange_1.k_16 n1 g2c0 i_9 xs_14 i_15 = some y_584 := h
       rw [slices_stableCmpFunc_Choice_at_impl_Arrange_1.k_16] at h
       refine jx_then (jc_seq (jc_seq (jc_region (qh [0,0,0,0] (qe (jx_then (jc_seq (jc_region (qh [0,0,0] (qe (jx_then (qi h (fun h => ?_) (fun h => ?_)))))))))))))
       ·refine jc_region (qh [0,0,0,0,0] ?_)
        obtain ⟨t_17, ht_667, h⟩ := bd h
        refine tO (pc 0 (fun w hm => slices_symMergeCmpFunc_Choice_at_impl_Arrange_1.calls xs_14 i_15 (w64 (i_15 + i_9)) n1 g2c0 w _ A_o hn_665 A_hs ho_664 C_b (hm.pass (N := [⟨A_o, 104, row encGChoice xs_14 A_sp⟩, ⟨some C_b, 33, [(.int .i16 g2c0.fAway), (.int .i16 g2c0.fOctave), (.int .i16 g2c0.fStep)]⟩]) [0, 1] (by kernel_rfl) (by kernel_rfl)) ht_667) ?_)
        rintro w v w' hm ⟨hn_668, ho_669, rfl, hm'⟩
        refine ⟨_, hm.appW (ps := [(0, ⟨A_o, 104, row encGChoice t_17 A_sp⟩), (1, ⟨some C_b, 33, [(.int .i16 g2c0.fAway), (.int .i16 g2c0.fOctave), (.int .i16 g2c0.fStep)]⟩)]) (N := []) hm' (by kernel_rfl) (by kernel_rfl), jkO ?_⟩
        clear hm hm'
        exact qe (jx_then (jc_region (qh [0,0,0] (qe (jx_inn (qm t_17 ⟨h, hn_668, ho_669⟩ [0, 1]))))))
       ·exact jc_skip (jx_then (jc_region (qh [0,0,0] (qe (jx_inn (qm xs_14 ⟨h, hn_665, ho_664⟩ [0, 1]))))))
     ·rintro xs_12 ⟨h, hn_640, ho_639⟩
      replace h : slices_stableCmpFunc_Choice_at_impl_Arrange_1.k_13 i_9 xs_12 = some y_584 := h
      rw [slices_stableCmpFunc_Choice_at_impl_Arrange_1.k_13] at h
      exact qb (xs_12, (w64 (i_9 * 2))) () h ⟨hn_640, ho_639⟩ [0, 1]
    ·refine jc_exit (jx_thenx (jx_leave xs_8 (Option.some.inj h).symm (fun e_693 => ?_)))
     subst e_693
     exact jx_ine (qm xs_8 ⟨hr_583, hn_582, ho_581⟩ [0, 1])
   ·rintro xs_6 ⟨h, hn_362, ho_361⟩
    replace h : slices_stableCmpFunc_Choice_at_impl_Arrange_1.k_7 xs_6 = some r := h
    rw [slices_stableCmpFunc_Choice_at_impl_Arrange_1.k_7] at h
    refine jx_fall ?_
    obtain rfl := Option.some.inj h
    exact qr [] (fun w hm => ⟨hn_362, ho_361, rfl, hm.pk [0, 1]⟩)
/-! ### slices.SortStableFunc[[]impl.Choice,impl.Choice] -/
def slices_SortStableFunc_Choice_at_impl_Arrange_1 (x0 : List GChoice) (g1c0 : GCosts) : Option ((List GChoice)) := (slices_stableCmpFunc_Choice_at_impl_Arrange_1 x0 (x0.length : Int) g1c0).bind fun t_1 => some t_1
theorem slices_SortStableFunc_Choice_at_impl_Arrange_1.calls (x0 : List GChoice) (g1c0 : GCosts) (w : World) (r : (List GChoice)) (A_o : Option Nat) {A_on : Nat} {A_c : Nat} {A_sp : List Value} (A_hn : x0.length = A_on) (A_hs : A_o ≠ none → A_on ≤ A_c ∧ A_sp.length = (A_c - A_on) * 4) (A_ho : A_o = none → x0 = [] ∧ A_c = 0) (B_b : Nat) (hm0 : Mem w (bs [A_o, some B_b]) [⟨A_o, 104, row encGChoice x0 A_sp⟩, ⟨some B_b, 33, [(.int .i16 g1c0.fAway), (.int .i16 g1c0.fOctave), (.int .i16 g1c0.fStep)]⟩] w) (h : slices_SortStableFunc_Choice_at_impl_Arrange_1 x0 g1c0 = some r) :
    Calls Tryz.prog 88 #[(.slice (A_o.map fun b => ⟨b, 0, none⟩) A_on A_c), (.func (.func 89) #[] #[(.pointer (some ⟨B_b, 0, none⟩))])] w fun e w' => ∃ v, e = .returned v ∧ (r.length = A_on ∧ (A_o = none → r = [] ∧ A_c = 0) ∧ v = .tuple #[] ∧ Mem w (bs [A_o, some B_b]) [⟨A_o, 104, row encGChoice r A_sp⟩, ⟨some B_b, 33, [(.int .i16 g1c0.fAway), (.int .i16 g1c0.fOctave), (.int .i16 g1c0.fStep)]⟩] w') := by
  subst A_hn
  rw [slices_SortStableFunc_Choice_at_impl_Arrange_1] at h
  refine enter (args := [(.slice (A_o.map fun b => ⟨b, 0, none⟩) x0.length A_c), (.func (.func 89) #[] #[(.pointer (some ⟨B_b, 0, none⟩))])]) Tryz.func88 rfl Tryz.ntmps88 (by kernel_rfl) (L := [⟨A_o, 104, row encGChoice x0 A_sp⟩, ⟨some B_b, 33, [(.int .i16 g1c0.fAway), (.int .i16 g1c0.fOctave), (.int .i16 g1c0.fStep)]⟩]) (W := bs [A_o, some B_b]) hm0 ?_
  refine jc_region (qh [0,0,0,0] ?_)
  obtain ⟨t_1, ht_1, h⟩ := bd h
  refine tO (pc 0 (fun w hm => slices_stableCmpFunc_Choice_at_impl_Arrange_1.calls x0 (x0.length : Int) g1c0 w _ A_o rfl A_hs A_ho B_b (hm.pass (N := [⟨A_o, 104, row encGChoice x0 A_sp⟩, ⟨some B_b, 33, [(.int .i16 g1c0.fAway), (.int .i16 g1c0.fOctave), (.int .i16 g1c0.fStep)]⟩]) [0, 1] (by kernel_rfl) (by kernel_rfl)) ht_1) ?_)
  rintro w v w' hm ⟨hn_2, ho_3, rfl, hm'⟩
  refine ⟨_, hm.appW (ps := [(0, ⟨A_o, 104, row encGChoice t_1 A_sp⟩), (1, ⟨some B_b, 33, [(.int .i16 g1c0.fAway), (.int .i16 g1c0.fOctave), (.int .i16 g1c0.fStep)]⟩)]) (N := []) hm' (by kernel_rfl) (by kernel_rfl), jkO ?_⟩
  clear hm hm'
  refine qe (jx_fall ?_)
  obtain rfl := Option.some.inj h
  exact qr [] (fun w hm => ⟨hn_2, ho_3, rfl, hm.pk [0, 1]⟩)
/-! ### (*impl.Drum).has -/
def impl_Drum_has (d0 : Arr 96 Int) (step1 : Int) (track2 : Int) : Option (Bool) := (ix d0.1 step1).bind fun x_1 => (if 0 ≤ track2 then some ((bAnd .u32 (bShr .u32 x_1 track2) 1) == 1) else none)
theorem impl_Drum_has.calls (d0 : Arr 96 Int) (step1 : Int) (track2 : Int) (w : World) (r : Bool) {A_b A_q : Nat} (A_h : Rw w (some ⟨A_b, A_q, none⟩) 1 encU32 d0.1) (h : impl_Drum_has d0 step1 track2 = some r) :
    Calls Tryz.prog 193 #[(.pointer (some ⟨A_b, A_q, none⟩)), (.int .i64 step1), (.int .i64 track2)] w fun e w' => ∃ v, e = .returned v ∧ (v = (.bool r) ∧ Mem w [] [] w') := by
  rw [impl_Drum_has] at h
  refine enter (args := [(.pointer (some ⟨A_b, A_q, none⟩)), (.int .i64 step1), (.int .i64 track2)]) Tryz.func193 rfl Tryz.ntmps193 (by kernel_rfl) (L := []) (W := []) (Mem.start w) ?_
  refine jc_seq (jc_region (qh [0] (qe (jx_then (jc_seq (jc_region (qh [0,0,0] ?_)))))))
  obtain ⟨x_1, hx_1, h⟩ := bd h
  refine tO (qx 0 (some ⟨A_b, A_q, none⟩) 1 hx_1 d0.2 (A_h.sp hx_1) (jkO (tO (ql 0 false (fun w hm => ((hm.xr A_h).at hx_1)) (jkO (qh [0] ?_))))))
  obtain ⟨hg_2, h⟩ := gd h
  refine tO (p_shr 0 .u32 x_1 .i64 track2 (by kernel_rfl) (by kernel_rfl) hg_2 (jkO (qh [0,0,0] (qe (jx_then (jc_ret ?_))))))
  obtain rfl := Option.some.inj h
  exact qr [] (fun w hm => ⟨rfl, hm.pk []⟩)
/-! ### (impl.Frame).behind -/
def impl_Frame_behind.k_1 (f0 : GFrame) : Option (Int) := some (w64 f0.fSteps)
def impl_Frame_behind.l_3 (f0 : GFrame) (d1 : Arr 96 Int) (step2 : Int) (track3 : Int) (way4 : Int) : Int → Option ((Int) ⊕ (Int ⊕ Unit))
  | i_2 => (if (decide (i_2 < (w64 f0.fSteps))) = true then (if (w64 f0.fSteps) ≠ 0 then (impl_Drum_has d1 (Int.tmod (w64 ((w64 (step2 + (w64 (way4 * i_2)))) + (w64 f0.fSteps))) (w64 f0.fSteps)) track3).bind fun t_5 => (if t_5 = true then some (.inr (.inl i_2)) else some (.inl (w64 (i_2 + 1)))) else none) else some (.inr (.inr ())))
def impl_Frame_behind (f0 : GFrame) (d1 : Arr 96 Int) (step2 : Int) (track3 : Int) (way4 : Int) : Option (Int) := (loop (impl_Frame_behind.l_3 f0 d1 step2 track3 way4) 1).bind fun t_4 => match t_4 with | .inl p => some p | .inr p => impl_Frame_behind.k_1 f0
theorem impl_Frame_behind.calls (f0 : GFrame) (d1 : Arr 96 Int) (step2 : Int) (track3 : Int) (way4 : Int) (w : World) (r : Int) {C_a : Option Addr} {C_an : Nat} (C_c : Nat) (C_h : Rw w C_a 2 encGHammer f0.fHammers) (C_hn : f0.fHammers.length = C_an) {D_b D_q : Nat} (D_h : Rw w (some ⟨D_b, D_q, none⟩) 1 encU32 d1.1) (h : impl_Frame_behind f0 d1 step2 track3 way4 = some r) :
    Calls Tryz.prog 194 #[(.agg #[(.int .i16 f0.fSteps), (.slice C_a C_an C_c)]), (.pointer (some ⟨D_b, D_q, none⟩)), (.int .i64 step2), (.int .i64 track3), (.int .i64 way4)] w fun e w' => ∃ v, e = .returned v ∧ (v = (.int .i64 r) ∧ Mem w [] [] w') := by
  subst C_hn
  rw [impl_Frame_behind] at h
  refine enter (args := [(.agg #[(.int .i16 f0.fSteps), (.slice C_a f0.fHammers.length C_c)]), (.pointer (some ⟨D_b, D_q, none⟩)), (.int .i64 step2), (.int .i64 track3), (.int .i64 way4)]) Tryz.func194 rfl Tryz.ntmps194 (by kernel_rfl) (L := []) (W := []) (Mem.start w) ?_
  refine jc_seq (jc_region (tO (qa 0 (fun b_1 => jkO (qh [0] (qe (jx_then (jc_seq (jc_region (qh [0,0,0,0] (qe (jx_then (jc_seq (jc_seq (jc_region (qh [0] (qe (jx_then (jc_meet (fun (_ : Unit) => impl_Frame_behind.k_1 f0 = some r) (fun (_ : Unit) => [(10, [], (.int .i64 0)), (11, [], (.int .i64 (w64 f0.fSteps)))]) (fun (_ : Unit) => [⟨some b_1, 27, [(.int .i16 f0.fSteps), (.slice C_a f0.fHammers.length C_c)]⟩]) ?_ ?_)))))))))))))))))))
  ·refine jc_block ?_
   obtain ⟨t_4, ht_81, hr_72⟩ := bd h
   refine jc_loop (fun (s : Int) (x : Unit) => match s, x with | i_2, _ => True) (fun (s : Int) (x : Unit) => match s, x with | i_2, _ => [(1, [], (.pointer (some ⟨D_b, D_q, none⟩))), (2, [], (.int .i64 step2)), (3, [], (.int .i64 track3)), (4, [], (.int .i64 way4)), (10, [], (.int .i64 0)), (11, [], (.int .i64 (w64 f0.fSteps))), (12, [], (.int .i64 i_2))]) (fun (s : Int) (x : Unit) => match s, x with | i_2, _ => [⟨some b_1, 27, [(.int .i16 f0.fSteps), (.slice C_a f0.fHammers.length C_c)]⟩]) ht_81 () trivial (by kernel_rfl) [0] (by kernel_rfl) (by kernel_rfl) ?_
   rintro i_2 _ y_73 _ h
   rw [impl_Frame_behind.l_3] at h
   refine jc_seq (jc_seq (jc_region (qh [0,0,0] (qe (jx_then (qi h (fun h => ?_) (fun h => ?_)))))))
   ·refine jc_skip (jx_then (jc_seq (jc_block (jc_seq (jc_region (qh [0,0,0,0,0,0,0,0,0] ?_))))))
    obtain ⟨hg_76, h⟩ := gd h
    refine tO (p_rem 0 .i64 (w64 ((w64 (step2 + (w64 (way4 * i_2)))) + (w64 f0.fSteps))) (w64 f0.fSteps) (by kernel_rfl) (by kernel_rfl) hg_76 (jkO (qh [0] ?_)))
    obtain ⟨t_5, ht_77, h⟩ := bd h
    refine tO (pc 0 (fun w hm => impl_Drum_has.calls d1 (Int.tmod (w64 ((w64 (step2 + (w64 (way4 * i_2)))) + (w64 f0.fSteps))) (w64 f0.fSteps)) track3 w _ (hm.xr D_h) ht_77) ?_)
    rintro w v w' hm ⟨rfl, hm'⟩
    refine ⟨_, hm.app hm', jkO ?_⟩
    clear hm hm'
    refine qe (jx_then (qi h (fun h => ?_) (fun h => ?_)))
    ·refine jc_seq (jc_region (qh [0,0] (qe (jx_then (jc_ret (jx_inr (jx_thenr (jx_leaver (.inl i_2) (Option.some.inj h).symm (fun e_79 => ?_)))))))))
     subst e_79
     refine jx_inr (jx_thenr (jx_thenr ?_))
     obtain rfl := Option.some.inj hr_72
     exact qr [] (fun w hm => ⟨rfl, hm.pk []⟩)
    ·exact jc_skip (jx_inn (jx_then (jc_region (qh [0,0,0] (qe (qb (w64 (i_2 + 1)) () h trivial [0]))))))
   ·refine jc_exit (jx_thenx (jx_leave (.inr ()) (Option.some.inj h).symm (fun e_80 => ?_)))
    subst e_80
    exact jx_ine (qm () hr_72 [0])
  ·rintro _ h
   replace h : impl_Frame_behind.k_1 f0 = some r := h
   rw [impl_Frame_behind.k_1] at h
   refine jx_then (jc_seq (jc_region (qh [0,0] (qe (jx_then (jc_ret ?_))))))
   obtain rfl := Option.some.inj h
   exact qr [] (fun w hm => ⟨rfl, hm.pk []⟩)
/-! ### (impl.Frame).isFree -/
def impl_Frame_isFree (f0 : GFrame) (d1 : Arr 96 Int) (step2 : Int) (track3 : Int) : Option (Bool) := (ix f0.fHammers track3).bind fun x_1 => (impl_Drum_has d1 step2 track3).bind fun t_2 => (if (!t_2) = true then (impl_Frame_behind f0 d1 step2 track3 1).bind fun t_3 => (if (decide (t_3 ≥ (w64 x_1.fReady))) = true then (impl_Frame_behind f0 d1 step2 track3 (-1)).bind fun t_4 => some (decide (t_4 ≥ (w64 x_1.fReady))) else some false) else some false)
theorem impl_Frame_isFree.calls (f0 : GFrame) (d1 : Arr 96 Int) (step2 : Int) (track3 : Int) (w : World) (r : Bool) {C_a : Option Addr} {C_an : Nat} (C_c : Nat) (C_h : Rw w C_a 2 encGHammer f0.fHammers) (C_hn : f0.fHammers.length = C_an) {D_b D_q : Nat} (D_h : Rw w (some ⟨D_b, D_q, none⟩) 1 encU32 d1.1) (h : impl_Frame_isFree f0 d1 step2 track3 = some r) :
    Calls Tryz.prog 131 #[(.agg #[(.int .i16 f0.fSteps), (.slice C_a C_an C_c)]), (.pointer (some ⟨D_b, D_q, none⟩)), (.int .i64 step2), (.int .i64 track3)] w fun e w' => ∃ v, e = .returned v ∧ (v = (.bool r) ∧ Mem w [] [] w') := by
  subst C_hn
  rw [impl_Frame_isFree] at h
  refine enter (args := [(.agg #[(.int .i16 f0.fSteps), (.slice C_a f0.fHammers.length C_c)]), (.pointer (some ⟨D_b, D_q, none⟩)), (.int .i64 step2), (.int .i64 track3)]) Tryz.func131 rfl Tryz.ntmps131 (by kernel_rfl) (L := []) (W := []) (Mem.start w) ?_
  refine jc_seq (jc_region (tO (qa 0 (fun b_1 => jkO (qh [0] (qe (jx_then (jc_seq (jc_region (qh [0,0,0] ?_))))))))))
  obtain ⟨x_1, hx_2, h⟩ := bd h
  refine tO (qx 0 C_a 2 hx_2 rfl (C_h.sp hx_2) (jkO (qh [0] (tO (ql 0 false (fun w hm => (((hm.xr C_h).at hx_2).sub 1 1)) (jkO (qh [0,0] (qe (jx_then (jc_seq (jc_region (qh [0,0,0] ?_))))))))))))
  obtain ⟨t_2, ht_3, h⟩ := bd h
  refine tO (pc 0 (fun w hm => impl_Drum_has.calls d1 step2 track3 w _ (hm.xr D_h) ht_3) ?_)
  rintro w v w' hm ⟨rfl, hm'⟩
  refine ⟨_, hm.app hm', jkO ?_⟩
  clear hm hm'
  refine qf [(0, 0), (0, 0), (0, 1), (0, 1), (0, 1), (0, 1)] (qp 22 h (fun h => ?_) (fun h => ?_))
  ·obtain ⟨t_3, ht_5, h⟩ := bd h
   refine tO (pc 2 (fun w hm => impl_Frame_behind.calls f0 d1 step2 track3 1 w _ C_c (hm.xr C_h) rfl (hm.xr D_h) ht_5) ?_)
   rintro w v w' hm ⟨rfl, hm'⟩
   refine ⟨_, hm.app hm', jkO ?_⟩
   clear hm hm'
   refine qf [(0, 2), (0, 2), (0, 4), (0, 0), (0, 1), (0, 1), (0, 1), (0, 1)] (qp 31 h (fun h => ?_) (fun h => ?_))
   ·obtain ⟨t_4, ht_7, h⟩ := bd h
    refine tO (pc 2 (fun w hm => impl_Frame_behind.calls f0 d1 step2 track3 (-1) w _ C_c (hm.xr C_h) rfl (hm.xr D_h) ht_7) ?_)
    rintro w v w' hm ⟨rfl, hm'⟩
    refine ⟨_, hm.app hm', jkO ?_⟩
    clear hm hm'
    refine qf [(0, 2), (0, 2), (0, 4), (0, 0)] (qe (jx_then (jc_ret ?_)))
    obtain rfl := Option.some.inj h
    exact qr [] (fun w hm => ⟨rfl, hm.pk []⟩)
   ·refine qf [(0, 3), (0, 3), (0, 3), (0, 5), (0, 0)] (qe (jx_then (jc_ret ?_)))
    obtain rfl := Option.some.inj h
    exact qr [] (fun w hm => ⟨rfl, hm.pk []⟩)
  ·refine qf [(0, 3), (0, 3), (0, 3), (0, 5), (0, 0), (0, 3), (0, 3), (0, 3), (0, 3), (0, 3), (0, 3), (0, 3), (0, 5), (0, 0)] (qe (jx_then (jc_ret ?_)))
   obtain rfl := Option.some.inj h
   exact qr [] (fun w hm => ⟨rfl, hm.pk []⟩)
/-! ### (impl.Frame).canPut -/
def impl_Frame_canPut (f0 : GFrame) (d1 : Arr 96 Int) (n2 : GNote) (x3 : GChoice) : Option (Bool) := (if x3.fAway = true then some true else (impl_Frame_isFree f0 d1 (w64 ((w64 n2.fAt) + (w64 x3.fLate))) (w64 x3.fTrack)).bind fun t_1 => some t_1)
theorem impl_Frame_canPut.calls (f0 : GFrame) (d1 : Arr 96 Int) (n2 : GNote) (x3 : GChoice) (w : World) (r : Bool) {C_a : Option Addr} {C_an : Nat} (C_c : Nat) (C_h : Rw w C_a 2 encGHammer f0.fHammers) (C_hn : f0.fHammers.length = C_an) {D_b D_q : Nat} (D_h : Rw w (some ⟨D_b, D_q, none⟩) 1 encU32 d1.1) (h : impl_Frame_canPut f0 d1 n2 x3 = some r) :
    Calls Tryz.prog 63 #[(.agg #[(.int .i16 f0.fSteps), (.slice C_a C_an C_c)]), (.pointer (some ⟨D_b, D_q, none⟩)), (.agg #[(.int .i16 n2.fAt), (.int .i8 n2.fPitch)]), (.agg #[(.bool x3.fAway), (.int .i8 x3.fLate), (.int .i8 x3.fOctave), (.int .i8 x3.fTrack)])] w fun e w' => ∃ v, e = .returned v ∧ (v = (.bool r) ∧ Mem w [] [] w') := by
  subst C_hn
  rw [impl_Frame_canPut] at h
  refine enter (args := [(.agg #[(.int .i16 f0.fSteps), (.slice C_a f0.fHammers.length C_c)]), (.pointer (some ⟨D_b, D_q, none⟩)), (.agg #[(.int .i16 n2.fAt), (.int .i8 n2.fPitch)]), (.agg #[(.bool x3.fAway), (.int .i8 x3.fLate), (.int .i8 x3.fOctave), (.int .i8 x3.fTrack)])]) Tryz.func63 rfl Tryz.ntmps63 (by kernel_rfl) (L := []) (W := []) (Mem.start w) ?_
  refine jc_seq (jc_region (tO (qa 0 (fun b_1 => jkO (tO (qa 0 (fun b_2 => jkO (tO (qa 0 (fun b_3 => jkO (qh [0] (qe (jx_then (jc_seq (jc_region (qf [(0, 0), (2, 0), (0, 0), (0, 1), (0, 1), (0, 1), (1, 1), (0, 1), (0, 1), (2, 1), (0, 1), (0, 1), (0, 1), (2, 1), (0, 1)] (qp 11 h (fun h => ?_) (fun h => ?_))))))))))))))))))
  ·refine qf [(0, 3), (0, 4), (0, 0)] (qe (jx_then (jc_ret ?_)))
   obtain rfl := Option.some.inj h
   exact qr [] (fun w hm => ⟨rfl, hm.pk []⟩)
  ·obtain ⟨t_1, ht_5, h⟩ := bd h
   refine tO (pc 2 (fun w hm => impl_Frame_isFree.calls f0 d1 (w64 ((w64 n2.fAt) + (w64 x3.fLate))) (w64 x3.fTrack) w _ C_c (hm.xr C_h) rfl (hm.xr D_h) ht_5) ?_)
   rintro w v w' hm ⟨rfl, hm'⟩
   refine ⟨_, hm.app hm', jkO ?_⟩
   clear hm hm'
   refine qf [(0, 5), (0, 0)] (qe (jx_then (jc_ret ?_)))
   obtain rfl := Option.some.inj h
   exact qr [] (fun w hm => ⟨rfl, hm.pk []⟩)
/-! ### (*impl.Drum).put -/
def impl_Drum_put (d0 : Arr 96 Int) (step1 : Int) (track2 : Int) (on3 : Bool) : Option ((Arr 96 Int)) := (ix d0.1 step1).bind fun x_1 => (if 0 ≤ track2 then (ix d0.1 step1).bind fun x_2 => (if on3 = true then (ix ((Arr.set d0 step1 (bClr .u32 x_1 (bShl .u32 1 track2))).1) step1).bind fun x_3 => (if 0 ≤ track2 then (ix ((Arr.set d0 step1 (bClr .u32 x_1 (bShl .u32 1 track2))).1) step1).bind fun x_4 => some (Arr.set (Arr.set d0 step1 (bClr .u32 x_1 (bShl .u32 1 track2))) step1 (bOr .u32 x_3 (bShl .u32 1 track2))) else none) else some (Arr.set d0 step1 (bClr .u32 x_1 (bShl .u32 1 track2)))) else none)
theorem impl_Drum_put.calls (d0 : Arr 96 Int) (step1 : Int) (track2 : Int) (on3 : Bool) (w : World) (r : (Arr 96 Int)) (A_b : Nat) (hm0 : Mem w (bs [some A_b]) [⟨(some A_b), 40, row encU32 d0.1 []⟩] w) (h : impl_Drum_put d0 step1 track2 on3 = some r) :
    Calls Tryz.prog 134 #[(.pointer (some ⟨A_b, 0, none⟩)), (.int .i64 step1), (.int .i64 track2), (.bool on3)] w fun e w' => ∃ v, e = .returned v ∧ (v = .tuple #[] ∧ Mem w (bs [some A_b]) [⟨(some A_b), 40, row encU32 r.1 []⟩] w') := by
  rw [impl_Drum_put] at h
  refine enter (args := [(.pointer (some ⟨A_b, 0, none⟩)), (.int .i64 step1), (.int .i64 track2), (.bool on3)]) Tryz.func134 rfl Tryz.ntmps134 (by kernel_rfl) (L := [⟨(some A_b), 40, row encU32 d0.1 []⟩]) (W := bs [some A_b]) hm0 ?_
  refine jc_seq (qg [] 11 (qd [⟨0, 0, 0⟩,⟨1, 0, 0⟩,⟨2, 0, 0⟩,⟨5, 0, 0⟩,⟨8, 0, 0⟩] 6 [] ?_))
  obtain ⟨x_1, hx_4, h⟩ := bd h
  refine qv 3 0 [] (fun w hm => idx_run (a := (some ⟨A_b, 0, none⟩)) (len := 96) (s := 1) (j := step1) (by kernel_rfl) (ix_some hx_4).1 (ltn hx_4 d0.2) rfl) (toD2 4 6 (by kernel_rfl) ?_ ?_)
  ·refine ql 0 false (fun w hm => ((hm.ow 0 (some A_b) 40 d0.1 [] (fun e => nomatch e) encU32_len).at hx_4)) (kD [] ?_)
   obtain ⟨hg_5, h⟩ := gd h
   refine tD 6 (p_shl 0 .u32 1 .i64 track2 (by kernel_rfl) (by kernel_rfl) hg_5 (kD [] (qd [⟨7, 0, 0⟩] 2 [] ?_)))
   obtain ⟨x_2, hx_6, h⟩ := bd h
   refine qv 9 0 [] (fun w hm => idx_run (a := (some ⟨A_b, 0, none⟩)) (len := 96) (s := 1) (j := step1) (by kernel_rfl) (ix_some hx_6).1 (ltn hx_6 d0.2) rfl) (tD 10 (p_str 0 0 A_b 40 encU32 d0.1 [] step1 (bClr .u32 x_1 (bShl .u32 1 track2)) 1 0 [(.int .u32 (bClr .u32 x_1 (bShl .u32 1 track2)))] (by kernel_rfl) (by kernel_rfl) (by kernel_rfl) encU32_len hx_6 (by kernel_rfl) (by kernel_rfl) (kD [] (qz (jx_then (jc_seq (jc_region (qh [0] (qe (jx_then (qi h (fun h => ?_) (fun h => ?_))))))))))))
   ·refine qg [] 11 (qd [⟨0, 0, 0⟩,⟨1, 0, 0⟩,⟨2, 0, 0⟩,⟨5, 0, 0⟩,⟨8, 0, 0⟩] 6 [] ?_)
    obtain ⟨x_3, hx_11, h⟩ := bd h
    refine qv 3 0 [] (fun w hm => idx_run (a := (some ⟨A_b, 0, none⟩)) (len := 96) (s := 1) (j := step1) (by kernel_rfl) (ix_some hx_11).1 (ltn hx_11 (Arr.set d0 step1 (bClr .u32 x_1 (bShl .u32 1 track2))).2) rfl) (toD2 4 6 (by kernel_rfl) ?_ ?_)
    ·refine ql 0 false (fun w hm => ((hm.ow 0 (some A_b) 40 ((Arr.set d0 step1 (bClr .u32 x_1 (bShl .u32 1 track2))).1) [] (fun e => nomatch e) encU32_len).at hx_11)) (kD [] ?_)
     obtain ⟨hg_12, h⟩ := gd h
     refine tD 6 (p_shl 0 .u32 1 .i64 track2 (by kernel_rfl) (by kernel_rfl) hg_12 (kD [] (qd [⟨7, 0, 0⟩] 2 [] ?_)))
     obtain ⟨x_4, hx_13, h⟩ := bd h
     refine qv 9 0 [] (fun w hm => idx_run (a := (some ⟨A_b, 0, none⟩)) (len := 96) (s := 1) (j := step1) (by kernel_rfl) (ix_some hx_13).1 (ltn hx_13 (Arr.set d0 step1 (bClr .u32 x_1 (bShl .u32 1 track2))).2) rfl) (tD 10 (p_str 0 0 A_b 40 encU32 ((Arr.set d0 step1 (bClr .u32 x_1 (bShl .u32 1 track2))).1) [] step1 (bOr .u32 x_3 (bShl .u32 1 track2)) 1 0 [(.int .u32 (bOr .u32 x_3 (bShl .u32 1 track2)))] (by kernel_rfl) (by kernel_rfl) (by kernel_rfl) encU32_len hx_13 (by kernel_rfl) (by kernel_rfl) (kD [] (qz (jx_fall ?_)))))
     obtain rfl := Option.some.inj h
     exact qr [] (fun w hm => ⟨rfl, hm.pk [0]⟩)
    ·obtain ⟨hg_14, h⟩ := gd h
     refine p_shl 0 .u32 1 .i64 track2 (by kernel_rfl) (by kernel_rfl) hg_14 (kD [] (tD 4 (ql 0 false (fun w hm => ((hm.ow 0 (some A_b) 40 ((Arr.set d0 step1 (bClr .u32 x_1 (bShl .u32 1 track2))).1) [] (fun e => nomatch e) encU32_len).at hx_11)) (kD [] (qd [⟨7, 0, 0⟩] 2 [] ?_)))))
     obtain ⟨x_4, hx_15, h⟩ := bd h
     refine qv 9 0 [] (fun w hm => idx_run (a := (some ⟨A_b, 0, none⟩)) (len := 96) (s := 1) (j := step1) (by kernel_rfl) (ix_some hx_15).1 (ltn hx_15 (Arr.set d0 step1 (bClr .u32 x_1 (bShl .u32 1 track2))).2) rfl) (tD 10 (p_str 0 0 A_b 40 encU32 ((Arr.set d0 step1 (bClr .u32 x_1 (bShl .u32 1 track2))).1) [] step1 (bOr .u32 x_3 (bShl .u32 1 track2)) 1 0 [(.int .u32 (bOr .u32 x_3 (bShl .u32 1 track2)))] (by kernel_rfl) (by kernel_rfl) (by kernel_rfl) encU32_len hx_15 (by kernel_rfl) (by kernel_rfl) (kD [] (qz (jx_fall ?_)))))
     obtain rfl := Option.some.inj h
     exact qr [] (fun w hm => ⟨rfl, hm.pk [0]⟩)
   ·refine jc_skip (jx_fall ?_)
    obtain rfl := Option.some.inj h
    exact qr [] (fun w hm => ⟨rfl, hm.pk [0]⟩)
  ·obtain ⟨hg_16, h⟩ := gd h
   refine p_shl 0 .u32 1 .i64 track2 (by kernel_rfl) (by kernel_rfl) hg_16 (kD [] (tD 4 (ql 0 false (fun w hm => ((hm.ow 0 (some A_b) 40 d0.1 [] (fun e => nomatch e) encU32_len).at hx_4)) (kD [] (qd [⟨7, 0, 0⟩] 2 [] ?_)))))
   obtain ⟨x_2, hx_17, h⟩ := bd h
   refine qv 9 0 [] (fun w hm => idx_run (a := (some ⟨A_b, 0, none⟩)) (len := 96) (s := 1) (j := step1) (by kernel_rfl) (ix_some hx_17).1 (ltn hx_17 d0.2) rfl) (tD 10 (p_str 0 0 A_b 40 encU32 d0.1 [] step1 (bClr .u32 x_1 (bShl .u32 1 track2)) 1 0 [(.int .u32 (bClr .u32 x_1 (bShl .u32 1 track2)))] (by kernel_rfl) (by kernel_rfl) (by kernel_rfl) encU32_len hx_17 (by kernel_rfl) (by kernel_rfl) (kD [] (qz (jx_then (jc_seq (jc_region (qh [0] (qe (jx_then (qi h (fun h => ?_) (fun h => ?_))))))))))))
   ·refine qg [] 11 (qd [⟨0, 0, 0⟩,⟨1, 0, 0⟩,⟨2, 0, 0⟩,⟨5, 0, 0⟩,⟨8, 0, 0⟩] 6 [] ?_)
    obtain ⟨x_3, hx_22, h⟩ := bd h
    refine qv 3 0 [] (fun w hm => idx_run (a := (some ⟨A_b, 0, none⟩)) (len := 96) (s := 1) (j := step1) (by kernel_rfl) (ix_some hx_22).1 (ltn hx_22 (Arr.set d0 step1 (bClr .u32 x_1 (bShl .u32 1 track2))).2) rfl) (toD2 4 6 (by kernel_rfl) ?_ ?_)
    ·refine ql 0 false (fun w hm => ((hm.ow 0 (some A_b) 40 ((Arr.set d0 step1 (bClr .u32 x_1 (bShl .u32 1 track2))).1) [] (fun e => nomatch e) encU32_len).at hx_22)) (kD [] ?_)
     obtain ⟨hg_23, h⟩ := gd h
     refine tD 6 (p_shl 0 .u32 1 .i64 track2 (by kernel_rfl) (by kernel_rfl) hg_23 (kD [] (qd [⟨7, 0, 0⟩] 2 [] ?_)))
     obtain ⟨x_4, hx_24, h⟩ := bd h
     refine qv 9 0 [] (fun w hm => idx_run (a := (some ⟨A_b, 0, none⟩)) (len := 96) (s := 1) (j := step1) (by kernel_rfl) (ix_some hx_24).1 (ltn hx_24 (Arr.set d0 step1 (bClr .u32 x_1 (bShl .u32 1 track2))).2) rfl) (tD 10 (p_str 0 0 A_b 40 encU32 ((Arr.set d0 step1 (bClr .u32 x_1 (bShl .u32 1 track2))).1) [] step1 (bOr .u32 x_3 (bShl .u32 1 track2)) 1 0 [(.int .u32 (bOr .u32 x_3 (bShl .u32 1 track2)))] (by kernel_rfl) (by kernel_rfl) (by kernel_rfl) encU32_len hx_24 (by kernel_rfl) (by kernel_rfl) (kD [] (qz (jx_fall ?_)))))
     obtain rfl := Option.some.inj h
     exact qr [] (fun w hm => ⟨rfl, hm.pk [0]⟩)
    ·obtain ⟨hg_25, h⟩ := gd h
     refine p_shl 0 .u32 1 .i64 track2 (by kernel_rfl) (by kernel_rfl) hg_25 (kD [] (tD 4 (ql 0 false (fun w hm => ((hm.ow 0 (some A_b) 40 ((Arr.set d0 step1 (bClr .u32 x_1 (bShl .u32 1 track2))).1) [] (fun e => nomatch e) encU32_len).at hx_22)) (kD [] (qd [⟨7, 0, 0⟩] 2 [] ?_)))))
     obtain ⟨x_4, hx_26, h⟩ := bd h
     refine qv 9 0 [] (fun w hm => idx_run (a := (some ⟨A_b, 0, none⟩)) (len := 96) (s := 1) (j := step1) (by kernel_rfl) (ix_some hx_26).1 (ltn hx_26 (Arr.set d0 step1 (bClr .u32 x_1 (bShl .u32 1 track2))).2) rfl) (tD 10 (p_str 0 0 A_b 40 encU32 ((Arr.set d0 step1 (bClr .u32 x_1 (bShl .u32 1 track2))).1) [] step1 (bOr .u32 x_3 (bShl .u32 1 track2)) 1 0 [(.int .u32 (bOr .u32 x_3 (bShl .u32 1 track2)))] (by kernel_rfl) (by kernel_rfl) (by kernel_rfl) encU32_len hx_26 (by kernel_rfl) (by kernel_rfl) (kD [] (qz (jx_fall ?_)))))
     obtain rfl := Option.some.inj h
     exact qr [] (fun w hm => ⟨rfl, hm.pk [0]⟩)
   ·refine jc_skip (jx_fall ?_)
    obtain rfl := Option.some.inj h
    exact qr [] (fun w hm => ⟨rfl, hm.pk [0]⟩)
/-! ### (*impl.Drum).puts -/
def impl_Drum_puts (d0 : Arr 96 Int) (n1 : GNote) (x2 : GChoice) : Option ((Arr 96 Int)) := (if (!x2.fAway) = true then (impl_Drum_put d0 (w64 ((w64 n1.fAt) + (w64 x2.fLate))) (w64 x2.fTrack) true).bind fun t_1 => some t_1 else some d0)
theorem impl_Drum_puts.calls (d0 : Arr 96 Int) (n1 : GNote) (x2 : GChoice) (w : World) (r : (Arr 96 Int)) (A_b : Nat) (hm0 : Mem w (bs [some A_b]) [⟨(some A_b), 40, row encU32 d0.1 []⟩] w) (h : impl_Drum_puts d0 n1 x2 = some r) :
    Calls Tryz.prog 68 #[(.pointer (some ⟨A_b, 0, none⟩)), (.agg #[(.int .i16 n1.fAt), (.int .i8 n1.fPitch)]), (.agg #[(.bool x2.fAway), (.int .i8 x2.fLate), (.int .i8 x2.fOctave), (.int .i8 x2.fTrack)])] w fun e w' => ∃ v, e = .returned v ∧ (v = .tuple #[] ∧ Mem w (bs [some A_b]) [⟨(some A_b), 40, row encU32 r.1 []⟩] w') := by
  rw [impl_Drum_puts] at h
  refine enter (args := [(.pointer (some ⟨A_b, 0, none⟩)), (.agg #[(.int .i16 n1.fAt), (.int .i8 n1.fPitch)]), (.agg #[(.bool x2.fAway), (.int .i8 x2.fLate), (.int .i8 x2.fOctave), (.int .i8 x2.fTrack)])]) Tryz.func68 rfl Tryz.ntmps68 (by kernel_rfl) (L := [⟨(some A_b), 40, row encU32 d0.1 []⟩]) (W := bs [some A_b]) hm0 ?_
  refine jc_seq (jc_region (tO (qa 0 (fun b_1 => jkO (tO (qa 0 (fun b_2 => jkO (qe (jx_then (jc_seq (jc_region (qh [0,2,0] (qe (jx_then (qi h (fun h => ?_) (fun h => ?_))))))))))))))))
  ·refine jc_region (qh [0,0,1,0,0,2,0,0,0,2,0] ?_)
   obtain ⟨t_1, ht_4, h⟩ := bd h
   refine tO (pc 0 (fun w hm => impl_Drum_put.calls d0 (w64 ((w64 n1.fAt) + (w64 x2.fLate))) (w64 x2.fTrack) true w _ A_b (hm.pass (N := [⟨(some A_b), 40, row encU32 d0.1 []⟩]) [0] (by kernel_rfl) (by kernel_rfl)) ht_4) ?_)
   rintro w v w' hm ⟨rfl, hm'⟩
   refine ⟨_, hm.appW (ps := [(0, ⟨(some A_b), 40, row encU32 t_1.1 []⟩)]) (N := []) hm' (by kernel_rfl) (by kernel_rfl), jkO ?_⟩
   clear hm hm'
   refine qe (jx_fall ?_)
   obtain rfl := Option.some.inj h
   exact qr [] (fun w hm => ⟨rfl, hm.pk [0]⟩)
  ·refine jc_skip (jx_fall ?_)
   obtain rfl := Option.some.inj h
   exact qr [] (fun w hm => ⟨rfl, hm.pk [0]⟩)
/-! ### slices.Clone[[]impl.Choice,impl.Choice] -/
def slices_Clone_Choice (s0 : List GChoice) : Option ((List GChoice)) := (if ([] : List GChoice).length + s0.length ≤ 4294967296 then some (([] : List GChoice) ++ s0) else none)
theorem slices_Clone_Choice.calls (s0 : List GChoice) (w : World) (r : (List GChoice)) {A_a : Option Addr} {A_an : Nat} (A_c : Nat) (A_h : Rw w A_a 4 encGChoice s0) (A_hn : s0.length = A_an) (h : slices_Clone_Choice s0 = some r) :
    Calls Tryz.prog 162 #[(.slice A_a A_an A_c)] w fun e w' => ∃ v, e = .returned v ∧ (∃ (o0 : Option Nat) (c0 : Nat) (s0 : List Value) (n0 : Nat), r.length = n0 ∧ (o0 ≠ none → n0 ≤ c0 ∧ s0.length = (c0 - n0) * 4) ∧ (o0 = none → r = [] ∧ c0 = 0) ∧ v = .slice (o0.map fun b => ⟨b, 0, none⟩) n0 c0 ∧ Mem w [] [⟨o0, 104, row encGChoice r s0⟩] w') := by
  subst A_hn
  rw [slices_Clone_Choice] at h
  refine enter (args := [(.slice A_a s0.length A_c)]) Tryz.func162 rfl Tryz.ntmps162 (by kernel_rfl) (L := []) (W := []) (Mem.start w) ?_
  refine jc_seq (jc_region (qh [0] (qe (jx_then (jc_seq (jc_seq (jc_region (qh [0] ?_))))))))
  by_cases hn_4 : A_a = none
  ·have hx0 : s0 = [] := (nil_of A_h hn_4)
   replace h : some [] = some r := by simpa [hx0] using h
   refine tO (p_nil 0 A_a true true (by kernel_rfl) (by kernel_rfl) (by rw [hn_4]; rfl) (jkO (qe (jx_then (jc_cond true (by kernel_rfl) (fun hc_5 => (jc_seq (jc_region (qh [0] (qe (jx_then (jc_ret (jx_thenr ?_)))))))) (fun hc_5 => nomatch hc_5))))))
   obtain rfl := Option.some.inj h
   exact jx_ghost 104 encGChoice (qr [] (fun w hm => ⟨none, 0, [], 0, rfl, (fun e => absurd rfl e), (fun _ => ⟨rfl, rfl⟩), rfl, hm.pk [0]⟩))
  ·refine tO (p_nil 0 A_a true false (by kernel_rfl) (by kernel_rfl) (by rw [Option.isNone_eq_false_iff.2 (Option.ne_none_iff_isSome.1 hn_4)]; rfl) (jkO (qe (jx_then (jc_cond false (by kernel_rfl) (fun hc_6 => nomatch hc_6) (fun hc_6 => (jc_skip (jx_then (jc_seq (jc_region (tO (qa 0 (fun b_7 => jkO (qh [0] ?_))))))))))))))
   obtain ⟨hg_8, h⟩ := gd h
   refine tO (p_apn 0 0 (some b_7) 104 0 s0.length 0 4 4 A_a encGChoice ([] : List GChoice) s0 [] (.agg #[(.bool false), (.int .i8 0), (.int .i8 0), (.int .i8 0)]) rfl rfl (by kernel_rfl) (by kernel_rfl) (by kernel_rfl) encGChoice_len encGChoice_cell (fun _ => ⟨Nat.le_refl _, by simp⟩) (fun e => nomatch e) (fun w hm => (hm.xr A_h)) hg_8 (by kernel_rfl) (by kernel_rfl) (fun o_9 cap_10 sp_11 hs_12 ho_13 => jkO (qh [0] (qe (jx_then (jc_ret ?_))))))
   obtain rfl := Option.some.inj h
   exact qr [] (fun w hm => ⟨o_9, cap_10, sp_11, ((([] : List GChoice) ++ s0).length), rfl, hs_12, ho_13, rfl, hm.pk [0]⟩)
/-! ### (*impl.arranger).look -/
def impl_arranger_look.k_12 (a0 : Garranger) (xs_2 : List GChoice) (i_4 : Int) (i_5 : Int) (i_6 : Int) (i_7 : Int) (i_8 : Int) (i_9 : Int) (q_10 : Bool) (i_11 : Int) : Option (Garranger) := some (⟨(⟨i_4, a0.ff.fHammers⟩ : GFrame), a0.ft, (⟨i_5, i_6, i_7⟩ : GCosts), a0.fchoices, a0.fbounds, i_8, i_9, q_10, xs_2, i_11⟩ : Garranger)
def impl_arranger_look.k_41 (a0 : Garranger) (i_23 : Int) (xs_31 : List GChoice) (i_33 : Int) (i_34 : Int) (i_35 : Int) (i_36 : Int) (i_37 : Int) (i_38 : Int) (q_39 : Bool) (i_40 : Int) : Option (((List GChoice) × Int × Int × Int × Int × Int × Int × Bool × Int × Int) ⊕ (Garranger ⊕ ((List GChoice) × Int × Int × Int × Int × Int × Int × Bool × Int))) := (if q_39 = true then some (.inr (.inl (⟨(⟨i_33, a0.ff.fHammers⟩ : GFrame), a0.ft, (⟨i_34, i_35, i_36⟩ : GCosts), a0.fchoices, a0.fbounds, i_37, i_38, q_39, xs_31, i_40⟩ : Garranger))) else some (.inl (xs_31, i_33, i_34, i_35, i_36, i_37, i_38, q_39, i_40, (w64 (i_23 + 1)))))
def impl_arranger_look.k_28 (self_ : Garranger → (Arr 96 Int) → (List GChoice) → Int → Option (Garranger)) (a0 : Garranger) (d1 : Arr 96 Int) (list2 : List GChoice) (cost3 : Int) (xs_13 : List GChoice) (i_15 : Int) (i_16 : Int) (i_17 : Int) (i_18 : Int) (i_19 : Int) (i_20 : Int) (q_21 : Bool) (i_22 : Int) (i_23 : Int) (x_26 : GChoice) (t_27 : Int) : Option (((List GChoice) × Int × Int × Int × Int × Int × Int × Bool × Int × Int) ⊕ (Garranger ⊕ ((List GChoice) × Int × Int × Int × Int × Int × Int × Bool × Int))) := (if (i_20 == i_19) = true then some (.inr (.inl (⟨(⟨i_15, a0.ff.fHammers⟩ : GFrame), a0.ft, (⟨i_16, i_17, i_18⟩ : GCosts), a0.fchoices, a0.fbounds, i_19, i_20, true, xs_13, i_22⟩ : Garranger))) else (ix a0.ft (list2.length : Int)).bind fun x_29 => (impl_Drum_puts d1 x_29 x_26).bind fun t_30 => (slices_Clone_Choice list2).bind fun t_42 => (if t_42.length + ([x_26] : List GChoice).length ≤ 4294967296 then (self_ (⟨(⟨i_15, a0.ff.fHammers⟩ : GFrame), a0.ft, (⟨i_16, i_17, i_18⟩ : GCosts), a0.fchoices, a0.fbounds, i_19, (w64 (i_20 + 1)), q_21, xs_13, i_22⟩ : Garranger) t_30 (t_42 ++ ([x_26] : List GChoice)) (w64 (cost3 + t_27))).bind fun t_43 => impl_arranger_look.k_41 a0 i_23 t_43.fbest t_43.ff.fSteps t_43.fc.fAway t_43.fc.fOctave t_43.fc.fStep t_43.fbudget t_43.flooks t_43.fover t_43.fleast else none))
def impl_arranger_look.l_24 (self_ : Garranger → (Arr 96 Int) → (List GChoice) → Int → Option (Garranger)) (a0 : Garranger) (d1 : Arr 96 Int) (list2 : List GChoice) (cost3 : Int) (x_1 : List GChoice) : ((List GChoice) × Int × Int × Int × Int × Int × Int × Bool × Int × Int) → Option (((List GChoice) × Int × Int × Int × Int × Int × Int × Bool × Int × Int) ⊕ (Garranger ⊕ ((List GChoice) × Int × Int × Int × Int × Int × Int × Bool × Int)))
  | (xs_13, i_15, i_16, i_17, i_18, i_19, i_20, q_21, i_22, i_23) => (if (decide (i_23 < (x_1.length : Int))) = true then (ix x_1 i_23).bind fun x_26 => (impl_Costs_of (⟨i_16, i_17, i_18⟩ : GCosts) x_26).bind fun t_27 => (ix a0.ft (list2.length : Int)).bind fun x_45 => (impl_Frame_canPut (⟨i_15, a0.ff.fHammers⟩ : GFrame) d1 x_45 x_26).bind fun t_46 => (if (!t_46) = true then some (.inl (xs_13, i_15, i_16, i_17, i_18, i_19, i_20, q_21, i_22, (w64 (i_23 + 1)))) else (if (decide (i_22 ≥ 0)) = true then (ix a0.fbounds (w64 ((list2.length : Int) + 1))).bind fun x_47 => (if (decide ((w64 ((w64 (cost3 + t_27)) + x_47)) ≥ i_22)) = true then some (.inl (xs_13, i_15, i_16, i_17, i_18, i_19, i_20, q_21, i_22, (w64 (i_23 + 1)))) else impl_arranger_look.k_28 self_ a0 d1 list2 cost3 xs_13 i_15 i_16 i_17 i_18 i_19 i_20 q_21 i_22 i_23 x_26 t_27) else impl_arranger_look.k_28 self_ a0 d1 list2 cost3 xs_13 i_15 i_16 i_17 i_18 i_19 i_20 q_21 i_22 i_23 x_26 t_27)) else some (.inr (.inr (xs_13, i_15, i_16, i_17, i_18, i_19, i_20, q_21, i_22))))
def impl_arranger_look.step (self_ : Garranger → (Arr 96 Int) → (List GChoice) → Int → Option (Garranger)) (a0 : Garranger) (d1 : Arr 96 Int) (list2 : List GChoice) (cost3 : Int) : Option (Garranger) := (if ((list2.length : Int) == (a0.ft.length : Int)) = true then some (⟨(⟨a0.ff.fSteps, a0.ff.fHammers⟩ : GFrame), a0.ft, (⟨a0.fc.fAway, a0.fc.fOctave, a0.fc.fStep⟩ : GCosts), a0.fchoices, a0.fbounds, a0.fbudget, a0.flooks, a0.fover, list2, cost3⟩ : Garranger) else (ix a0.fchoices (list2.length : Int)).bind fun x_1 => (loop (impl_arranger_look.l_24 self_ a0 d1 list2 cost3 x_1) (a0.fbest, a0.ff.fSteps, a0.fc.fAway, a0.fc.fOctave, a0.fc.fStep, a0.fbudget, a0.flooks, a0.fover, a0.fleast, 0)).bind fun t_25 => match t_25 with | .inl p => some p | .inr p => impl_arranger_look.k_12 a0 p.1 p.2.1 p.2.2.1 p.2.2.2.1 p.2.2.2.2.1 p.2.2.2.2.2.1 p.2.2.2.2.2.2.1 p.2.2.2.2.2.2.2.1 p.2.2.2.2.2.2.2.2)
def impl_arranger_look.rec_ : Nat → Garranger → (Arr 96 Int) → (List GChoice) → Int → Option (Garranger)
  | 0 => fun a0 d1 list2 cost3 => none
  | fu + 1 => impl_arranger_look.step (impl_arranger_look.rec_ fu)
def impl_arranger_look (a0 : Garranger) (d1 : Arr 96 Int) (list2 : List GChoice) (cost3 : Int) : Option (Garranger) := impl_arranger_look.rec_ 200 a0 d1 list2 cost3
set_option maxHeartbeats 8000000 in
theorem impl_arranger_look.step_calls (self_ : Garranger → (Arr 96 Int) → (List GChoice) → Int → Option (Garranger)) (hself : ∀ (a0 : Garranger) (d1 : Arr 96 Int) (list2 : List GChoice) (cost3 : Int) (w : World) (r : Garranger) {D_a : Option Addr} {D_an : Nat} (D_c : Nat) (D_h : Rw w D_a 2 encGHammer a0.ff.fHammers) (D_hn : a0.ff.fHammers.length = D_an) {E_a : Option Addr} {E_an : Nat} (E_c : Nat) (E_h : Rw w E_a 2 encGNote a0.ft) (E_hn : a0.ft.length = E_an) {J_a : Option Addr} {J_an : Nat} (J_c : Nat) {J_hs : List Hd} (J_h : Rw w J_a 1 encHd J_hs) (J_hn : a0.fchoices.length = J_an) {K_a : Option Addr} {K_an : Nat} (K_c : Nat) (K_h : Rw w K_a 1 encI64 a0.fbounds) (K_hn : a0.fbounds.length = K_an) {O_a : Option Addr} {O_an : Nat} (O_c : Nat) (O_hn : a0.fbest.length = O_an) {R_a : Option Addr} {R_an : Nat} (R_c : Nat) (R_h : Rw w R_a 4 encGChoice list2) (R_hn : list2.length = R_an) (A_b : Nat) (hm0 : Mem w (bs [some A_b]) [⟨some A_b, 141, [(.int .i16 a0.ff.fSteps), (.slice D_a D_an D_c), (.slice E_a E_an E_c), (.int .i16 a0.fc.fAway), (.int .i16 a0.fc.fOctave), (.int .i16 a0.fc.fStep), (.slice J_a J_an J_c), (.slice K_a K_an K_c), (.int .i64 a0.fbudget), (.int .i64 a0.flooks), (.bool a0.fover), (.slice O_a O_an O_c), (.int .i64 a0.fleast)]⟩] w) (D_ha : a0.ff.fHammers ≠ [] → aB D_a ∉ bs [some A_b]) (E_ha : a0.ft ≠ [] → aB E_a ∉ bs [some A_b]) (J_ha : J_hs ≠ [] → aB J_a ∉ bs [some A_b]) (J_i : Inn w (bs [some A_b]) 4 encGChoice J_hs a0.fchoices) (K_ha : a0.fbounds ≠ [] → aB K_a ∉ bs [some A_b]) (R_ha : list2 ≠ [] → aB R_a ∉ bs [some A_b]) (h : self_ a0 d1 list2 cost3 = some r),
    Calls Tryz.prog 90 #[(.pointer (some ⟨A_b, 0, none⟩)), (.agg (row encU32 d1.1 []).toArray), (.slice R_a R_an R_c), (.int .i64 cost3)] w fun e w' => ∃ v, e = .returned v ∧ (∃ (lo : Option Nat) (la : Option Addr) (lc : Nat) (lsp : List Value) (ln : Nat), r.fbest.length = ln ∧ LsB lo la lc lsp ln r.fbest 4 [(O_a, O_c, a0.fbest), (R_a, R_c, list2)] ∧ v = .tuple #[] ∧ Mem w (bs [some A_b]) [⟨some A_b, 141, [(.int .i16 r.ff.fSteps), (.slice D_a D_an D_c), (.slice E_a E_an E_c), (.int .i16 r.fc.fAway), (.int .i16 r.fc.fOctave), (.int .i16 r.fc.fStep), (.slice J_a J_an J_c), (.slice K_a K_an K_c), (.int .i64 r.fbudget), (.int .i64 r.flooks), (.bool r.fover), (.slice la ln lc), (.int .i64 r.fleast)]⟩, ⟨lo, 104, row encGChoice r.fbest lsp⟩] w')) (a0 : Garranger) (d1 : Arr 96 Int) (list2 : List GChoice) (cost3 : Int) (w : World) (r : Garranger) {D_a : Option Addr} {D_an : Nat} (D_c : Nat) (D_h : Rw w D_a 2 encGHammer a0.ff.fHammers) (D_hn : a0.ff.fHammers.length = D_an) {E_a : Option Addr} {E_an : Nat} (E_c : Nat) (E_h : Rw w E_a 2 encGNote a0.ft) (E_hn : a0.ft.length = E_an) {J_a : Option Addr} {J_an : Nat} (J_c : Nat) {J_hs : List Hd} (J_h : Rw w J_a 1 encHd J_hs) (J_hn : a0.fchoices.length = J_an) {K_a : Option Addr} {K_an : Nat} (K_c : Nat) (K_h : Rw w K_a 1 encI64 a0.fbounds) (K_hn : a0.fbounds.length = K_an) {O_a : Option Addr} {O_an : Nat} (O_c : Nat) (O_hn : a0.fbest.length = O_an) {R_a : Option Addr} {R_an : Nat} (R_c : Nat) (R_h : Rw w R_a 4 encGChoice list2) (R_hn : list2.length = R_an) (A_b : Nat) (hm0 : Mem w (bs [some A_b]) [⟨some A_b, 141, [(.int .i16 a0.ff.fSteps), (.slice D_a D_an D_c), (.slice E_a E_an E_c), (.int .i16 a0.fc.fAway), (.int .i16 a0.fc.fOctave), (.int .i16 a0.fc.fStep), (.slice J_a J_an J_c), (.slice K_a K_an K_c), (.int .i64 a0.fbudget), (.int .i64 a0.flooks), (.bool a0.fover), (.slice O_a O_an O_c), (.int .i64 a0.fleast)]⟩] w) (D_ha : a0.ff.fHammers ≠ [] → aB D_a ∉ bs [some A_b]) (E_ha : a0.ft ≠ [] → aB E_a ∉ bs [some A_b]) (J_ha : J_hs ≠ [] → aB J_a ∉ bs [some A_b]) (J_i : Inn w (bs [some A_b]) 4 encGChoice J_hs a0.fchoices) (K_ha : a0.fbounds ≠ [] → aB K_a ∉ bs [some A_b]) (R_ha : list2 ≠ [] → aB R_a ∉ bs [some A_b]) (h : impl_arranger_look.step self_ a0 d1 list2 cost3 = some r) :
    Calls Tryz.prog 90 #[(.pointer (some ⟨A_b, 0, none⟩)), (.agg (row encU32 d1.1 []).toArray), (.slice R_a R_an R_c), (.int .i64 cost3)] w fun e w' => ∃ v, e = .returned v ∧ (∃ (lo : Option Nat) (la : Option Addr) (lc : Nat) (lsp : List Value) (ln : Nat), r.fbest.length = ln ∧ LsB lo la lc lsp ln r.fbest 4 [(O_a, O_c, a0.fbest), (R_a, R_c, list2)] ∧ v = .tuple #[] ∧ Mem w (bs [some A_b]) [⟨some A_b, 141, [(.int .i16 r.ff.fSteps), (.slice D_a D_an D_c), (.slice E_a E_an E_c), (.int .i16 r.fc.fAway), (.int .i16 r.fc.fOctave), (.int .i16 r.fc.fStep), (.slice J_a J_an J_c), (.slice K_a K_an K_c), (.int .i64 r.fbudget), (.int .i64 r.flooks), (.bool r.fover), (.slice la ln lc), (.int .i64 r.fleast)]⟩, ⟨lo, 104, row encGChoice r.fbest lsp⟩] w') := by
  subst D_hn E_hn J_hn K_hn O_hn R_hn
  rw [impl_arranger_look.step] at h
  refine enter (args := [(.pointer (some ⟨A_b, 0, none⟩)), (.agg (row encU32 d1.1 []).toArray), (.slice R_a list2.length R_c), (.int .i64 cost3)]) Tryz.func90 rfl Tryz.ntmps90 (by kernel_rfl) (L := [⟨some A_b, 141, [(.int .i16 a0.ff.fSteps), (.slice D_a a0.ff.fHammers.length D_c), (.slice E_a a0.ft.length E_c), (.int .i16 a0.fc.fAway), (.int .i16 a0.fc.fOctave), (.int .i16 a0.fc.fStep), (.slice J_a a0.fchoices.length J_c), (.slice K_a a0.fbounds.length K_c), (.int .i64 a0.fbudget), (.int .i64 a0.flooks), (.bool a0.fover), (.slice O_a a0.fbest.length O_c), (.int .i64 a0.fleast)]⟩]) (W := bs [some A_b]) hm0 ?_
  refine jc_ghostX 104 encGChoice a0.fbest ?_
  refine jc_seq (jc_region (tO (qa 0 (fun b_1 => jkO (qe (jx_then (jc_seq (jc_region (qh [0,0,0] (qe (jx_then (jc_seq (jc_seq (jc_region (qh [0,0,0,0,0,0,0] (qe (jx_then (qi h (fun h => ?_) (fun h => ?_)))))))))))))))))))
  ·refine jc_seq (jc_region (qh [0,0,0,0,0,0] (tO (qs 0 [0] (jk_lsN 1 104 encGChoice list2 (jkO (qh [0,0] (tO (qs 0 [0] (jkO (qe (jx_then (jc_ret (jx_thenr ?_))))))))))))))
   obtain rfl := Option.some.inj h
   exact qr [] (fun w hm => ⟨(none : Option Nat), R_a, R_c, [], list2.length, rfl, ls1, rfl, hm.pk [0, 1]⟩)
  ·refine jc_skip (jx_then (jc_seq (jc_region (qh [0,0,0,0,0] ?_))))
   obtain ⟨x_1, hx_4, h⟩ := bd h
   refine tO (qx 0 J_a 1 hx_4 rfl (J_h.sp (J_i.ixh hx_4)) (jkO (tO (ql 0 false (fun w hm => ((hm.exRowW J_h J_ha).at (J_i.ixh hx_4))) (jkO (tO (p_val 0 (.int .i64 (((hd J_hs (list2.length : Int)).n : Nat) : Int)) (.int .i64 (x_1.length : Int)) (by kernel_rfl) (by kernel_rfl) (congrArg (fun z : Nat => Value.int .i64 (z : Int)) (Eq.symm (J_i.get hx_4).2.1)) (jkO (qh [0] (qe (jx_then (jc_meet (fun (j : (List GChoice) × Int × Int × Int × Int × Int × Int × Bool × Int × (Option Nat) × (Option Addr) × Nat × (List Value) × Nat) => match j with | ⟨xs_2, i_4, i_5, i_6, i_7, i_8, i_9, q_10, i_11, o_594, a_3, cap_595, sp_596, n_597⟩ => impl_arranger_look.k_12 a0 xs_2 i_4 i_5 i_6 i_7 i_8 i_9 q_10 i_11 = some r ∧ (xs_2.length = n_597) ∧ (LsB o_594 a_3 cap_595 sp_596 n_597 xs_2 4 [(O_a, O_c, a0.fbest), (R_a, R_c, list2)])) (fun (j : (List GChoice) × Int × Int × Int × Int × Int × Int × Bool × Int × (Option Nat) × (Option Addr) × Nat × (List Value) × Nat) => match j with | ⟨xs_2, i_4, i_5, i_6, i_7, i_8, i_9, q_10, i_11, o_594, a_3, cap_595, sp_596, n_597⟩ => []) (fun (j : (List GChoice) × Int × Int × Int × Int × Int × Int × Bool × Int × (Option Nat) × (Option Addr) × Nat × (List Value) × Nat) => match j with | ⟨xs_2, i_4, i_5, i_6, i_7, i_8, i_9, q_10, i_11, o_594, a_3, cap_595, sp_596, n_597⟩ => [⟨some A_b, 141, [(.int .i16 i_4), (.slice D_a a0.ff.fHammers.length D_c), (.slice E_a a0.ft.length E_c), (.int .i16 i_5), (.int .i16 i_6), (.int .i16 i_7), (.slice J_a a0.fchoices.length J_c), (.slice K_a a0.fbounds.length K_c), (.int .i64 i_8), (.int .i64 i_9), (.bool q_10), (.slice a_3 n_597 cap_595), (.int .i64 i_11)]⟩, ⟨o_594, 104, row encGChoice xs_2 sp_596⟩, ⟨(some b_1), 40, row encU32 d1.1 []⟩]) ?_ ?_))))))))))))
   ·refine jc_block ?_
    obtain ⟨t_25, ht_1187, hr_991⟩ := bd h
    refine jc_loop (fun (s : (List GChoice) × Int × Int × Int × Int × Int × Int × Bool × Int × Int) (x : (Option Nat) × (Option Addr) × Nat × (List Value) × Nat) => match s, x with | ⟨xs_13, i_15, i_16, i_17, i_18, i_19, i_20, q_21, i_22, i_23⟩, ⟨o_986, a_14, cap_987, sp_988, n_989⟩ => (xs_13.length = n_989) ∧ (LsB o_986 a_14 cap_987 sp_988 n_989 xs_13 4 [(O_a, O_c, a0.fbest), (R_a, R_c, list2)])) (fun (s : (List GChoice) × Int × Int × Int × Int × Int × Int × Bool × Int × Int) (x : (Option Nat) × (Option Addr) × Nat × (List Value) × Nat) => match s, x with | ⟨xs_13, i_15, i_16, i_17, i_18, i_19, i_20, q_21, i_22, i_23⟩, ⟨o_986, a_14, cap_987, sp_988, n_989⟩ => [(0, [], (.pointer (some ⟨A_b, 0, none⟩))), (2, [], (.slice R_a list2.length R_c)), (3, [], (.int .i64 cost3)), (5, [], (.pointer (some ⟨b_1, 0, none⟩))), (8, [], (.int .i64 (list2.length : Int))), (36, [], (.slice (hd J_hs (list2.length : Int)).a ((hd J_hs (list2.length : Int)).n) ((hd J_hs (list2.length : Int)).c))), (37, [], (.int .i64 (x_1.length : Int))), (38, [], (.int .i64 i_23))]) (fun (s : (List GChoice) × Int × Int × Int × Int × Int × Int × Bool × Int × Int) (x : (Option Nat) × (Option Addr) × Nat × (List Value) × Nat) => match s, x with | ⟨xs_13, i_15, i_16, i_17, i_18, i_19, i_20, q_21, i_22, i_23⟩, ⟨o_986, a_14, cap_987, sp_988, n_989⟩ => [⟨some A_b, 141, [(.int .i16 i_15), (.slice D_a a0.ff.fHammers.length D_c), (.slice E_a a0.ft.length E_c), (.int .i16 i_16), (.int .i16 i_17), (.int .i16 i_18), (.slice J_a a0.fchoices.length J_c), (.slice K_a a0.fbounds.length K_c), (.int .i64 i_19), (.int .i64 i_20), (.bool q_21), (.slice a_14 n_989 cap_987), (.int .i64 i_22)]⟩, ⟨o_986, 104, row encGChoice xs_13 sp_988⟩, ⟨(some b_1), 40, row encU32 d1.1 []⟩]) ht_1187 ⟨(none : Option Nat), O_a, O_c, [], a0.fbest.length⟩ ⟨rfl, ls0⟩ (by kernel_rfl) [0, 1, 2] (by kernel_rfl) (by kernel_rfl) ?_
    rintro ⟨xs_13, i_15, i_16, i_17, i_18, i_19, i_20, q_21, i_22, i_23⟩ ⟨o_986, a_14, cap_987, sp_988, n_989⟩ y_992 ⟨rfl, hl_990⟩ h
    rw [impl_arranger_look.l_24] at h
    refine jc_seq (jc_region (qh [0] (qe (jx_then (jc_seq (qi h (fun h => ?_) (fun h => ?_)))))))
    ·refine jc_skip (jx_then (jc_seq (jc_block (jc_seq (jc_region ?_)))))
     obtain ⟨x_26, hx_995, h⟩ := bd h
     refine tO (qx 0 (hd J_hs (list2.length : Int)).a 4 hx_995 (J_i.get hx_4).2.1 ((J_i.get hx_4).1.sp hx_995) (jkO (tO (ql 0 true (fun w hm => ((hm.exRowW (J_i.get hx_4).1 (J_i.get hx_4).2.2).at hx_995)) (jkO (tO (qa 0 (fun b_996 => jkO (tO (qs 0 [3] (jkO (qe (jx_then (jc_seq (qg [⟨some A_b, 141, [(.int .i16 i_15), (.slice D_a a0.ff.fHammers.length D_c), (.slice E_a a0.ft.length E_c), (.int .i16 i_16), (.int .i16 i_17), (.int .i16 i_18), (.slice J_a a0.fchoices.length J_c), (.slice K_a a0.fbounds.length K_c), (.int .i64 i_19), (.int .i64 i_20), (.bool q_21), (.slice a_14 xs_13.length cap_987), (.int .i64 i_22)]⟩, ⟨o_986, 104, row encGChoice xs_13 sp_988⟩, ⟨(some b_1), 40, row encU32 d1.1 []⟩, ⟨some b_996, 104, [(.bool x_26.fAway), (.int .i8 x_26.fLate), (.int .i8 x_26.fOctave), (.int .i8 x_26.fTrack)]⟩] 9 (qd [⟨0, 0, 0⟩,⟨1, 0, 0⟩,⟨2, 0, 0⟩,⟨3, 0, 0⟩,⟨4, 0, 0⟩,⟨5, 3, 0⟩] 3 [0, 1, 2, 3] ?_))))))))))))))))
     obtain ⟨t_27, ht_997, h⟩ := bd h
     refine tD 6 (pc 0 (fun w hm => impl_Costs_of.calls (⟨i_16, i_17, i_18⟩ : GCosts) x_26 w _ ht_997) ?_)
     rintro w v w' hm ⟨rfl, hm'⟩
     refine ⟨_, hm.app hm', kD [0, 1, 2, 3] ?_⟩
     clear hm hm'
     refine qd [⟨7, 0, 0⟩,⟨8, 0, 0⟩] 0 [0, 1, 2, 3] (qz (jx_then (jc_seq (jc_meet (fun (_ : Unit) => impl_arranger_look.k_28 self_ a0 d1 list2 cost3 xs_13 i_15 i_16 i_17 i_18 i_19 i_20 q_21 i_22 i_23 x_26 t_27 = some y_992) (fun (_ : Unit) => [(0, [], (.pointer (some ⟨A_b, 0, none⟩))), (2, [], (.slice R_a list2.length R_c)), (3, [], (.int .i64 cost3)), (5, [], (.pointer (some ⟨b_1, 0, none⟩))), (8, [], (.int .i64 (list2.length : Int))), (10, [], (.pointer (some ⟨b_996, 0, none⟩))), (11, [], (.int .i64 (w64 (cost3 + t_27)))), (36, [], (.slice (hd J_hs (list2.length : Int)).a ((hd J_hs (list2.length : Int)).n) ((hd J_hs (list2.length : Int)).c))), (37, [], (.int .i64 (x_1.length : Int))), (38, [], (.int .i64 i_23))]) (fun (_ : Unit) => [⟨some A_b, 141, [(.int .i16 i_15), (.slice D_a a0.ff.fHammers.length D_c), (.slice E_a a0.ft.length E_c), (.int .i16 i_16), (.int .i16 i_17), (.int .i16 i_18), (.slice J_a a0.fchoices.length J_c), (.slice K_a a0.fbounds.length K_c), (.int .i64 i_19), (.int .i64 i_20), (.bool q_21), (.slice a_14 xs_13.length cap_987), (.int .i64 i_22)]⟩, ⟨o_986, 104, row encGChoice xs_13 sp_988⟩, ⟨(some b_1), 40, row encU32 d1.1 []⟩, ⟨some b_996, 104, [(.bool x_26.fAway), (.int .i8 x_26.fLate), (.int .i8 x_26.fOctave), (.int .i8 x_26.fTrack)]⟩]) ?_ ?_))))
     ·refine jc_seq (qg [⟨some A_b, 141, [(.int .i16 i_15), (.slice D_a a0.ff.fHammers.length D_c), (.slice E_a a0.ft.length E_c), (.int .i16 i_16), (.int .i16 i_17), (.int .i16 i_18), (.slice J_a a0.fchoices.length J_c), (.slice K_a a0.fbounds.length K_c), (.int .i64 i_19), (.int .i64 i_20), (.bool q_21), (.slice a_14 xs_13.length cap_987), (.int .i64 i_22)]⟩, ⟨o_986, 104, row encGChoice xs_13 sp_988⟩, ⟨(some b_1), 40, row encU32 d1.1 []⟩, ⟨some b_996, 104, [(.bool x_26.fAway), (.int .i8 x_26.fLate), (.int .i8 x_26.fOctave), (.int .i8 x_26.fTrack)]⟩] 38 (qd [⟨0, 0, 0⟩,⟨1, 0, 0⟩,⟨2, 0, 0⟩,⟨3, 0, 0⟩,⟨4, 0, 0⟩,⟨5, 0, 0⟩,⟨6, 0, 0⟩,⟨7, 0, 0⟩,⟨8, 0, 0⟩,⟨11, 3, 0⟩] 28 [0, 1, 2, 3] ?_))
      obtain ⟨x_45, hx_1178, h⟩ := bd h
      refine qv 9 0 [0, 1, 2, 3] (fun w hm => idx_run (a := E_a) (len := a0.ft.length) (s := 2) (j := (list2.length : Int)) (by kernel_rfl) (ix_some hx_1178).1 (ltn hx_1178 rfl) (E_h.sp hx_1178)) (qv 10 0 [0, 1, 2, 3] (fun w hm => ld_run (b := aB E_a) (off := (aO E_a + (list2.length : Int).toNat * 2)) (s := 2) (agg := true) (vs := (encGNote x_45)) (by kernel_rfl) (by kernel_rfl) (.inl rfl) ((hm.exRowW E_h E_ha).at hx_1178)) ?_)
      obtain ⟨t_46, ht_1179, h⟩ := bd h
      refine tD 12 (pc 0 (fun w hm => impl_Frame_canPut.calls (⟨i_15, a0.ff.fHammers⟩ : GFrame) d1 x_45 x_26 w _ D_c (hm.exRowW D_h D_ha) rfl (hm.ow 2 (some b_1) 40 d1.1 [] (fun e => nomatch e) encU32_len) ht_1179) ?_)
      rintro w v w' hm ⟨rfl, hm'⟩
      refine ⟨_, hm.app hm', kD [0, 1, 2, 3] ?_⟩
      clear hm hm'
      refine qd [⟨13, 0, 0⟩,⟨14, 0, 0⟩,⟨15, 0, 1⟩,⟨16, 0, 1⟩,⟨17, 0, 1⟩,⟨18, 0, 1⟩,⟨19, 0, 1⟩] 18 [0, 1, 2, 3] (jd_split 64 (!t_46) (by kernel_rfl) (fun hc_1180 => ?_) (fun hc_1180 => ?_))
      ·replace h := ifT hc_1180 h
       exact qd [⟨20, 0, 3⟩,⟨21, 0, 3⟩,⟨22, 0, 3⟩,⟨23, 0, 3⟩,⟨24, 0, 3⟩,⟨25, 0, 3⟩,⟨26, 0, 3⟩,⟨27, 0, 3⟩,⟨28, 0, 3⟩,⟨29, 0, 3⟩,⟨30, 0, 3⟩,⟨31, 0, 3⟩,⟨32, 0, 3⟩,⟨33, 0, 3⟩,⟨34, 0, 3⟩,⟨35, 0, 3⟩,⟨36, 0, 3⟩,⟨37, 0, 4⟩] 0 [0, 1, 2, 3] (qz (jx_then (jc_cond true (by kernel_rfl) (fun hc_1181 => (jc_exit (jx_thenx (jx_thenx (jx_ine (jx_then (jc_region (qh [0,0] (qe (qb (xs_13, i_15, i_16, i_17, i_18, i_19, i_20, q_21, i_22, (w64 (i_23 + 1))) ⟨o_986, a_14, cap_987, sp_988, xs_13.length⟩ h ⟨rfl, hl_990⟩ [0, 1, 2])))))))))) (fun hc_1181 => nomatch hc_1181))))
      ·replace h := ifF hc_1180 h
       refine qd [⟨20, 0, 2⟩,⟨21, 0, 1⟩,⟨22, 0, 1⟩,⟨23, 0, 1⟩,⟨24, 0, 1⟩,⟨25, 0, 1⟩,⟨26, 0, 1⟩,⟨27, 0, 1⟩,⟨31, 0, 1⟩,⟨32, 0, 1⟩,⟨33, 0, 1⟩,⟨34, 0, 1⟩] 6 [0, 1, 2, 3] (jd_split 70 (decide (i_22 ≥ 0)) (by kernel_rfl) (fun hc_1182 => ?_) (fun hc_1182 => ?_))
       ·replace h := ifT hc_1182 h
        obtain ⟨x_47, hx_1183, h⟩ := bd h
        refine qv 28 2 [0, 1, 2, 3] (fun w hm => idx_run (a := K_a) (len := a0.fbounds.length) (s := 1) (j := (w64 ((list2.length : Int) + 1))) (by kernel_rfl) (ix_some hx_1183).1 (ltn hx_1183 rfl) (K_h.sp hx_1183)) (qv 29 2 [0, 1, 2, 3] (fun w hm => ld_run (b := aB K_a) (off := (aO K_a + (w64 ((list2.length : Int) + 1)).toNat * 1)) (s := 1) (agg := false) (vs := (encI64 x_47)) (by kernel_rfl) (by kernel_rfl) (.inr rfl) ((hm.exRowW K_h K_ha).at hx_1183)) (qd [⟨30, 0, 2⟩,⟨35, 0, 2⟩,⟨36, 0, 4⟩,⟨37, 0, 5⟩] 0 [0, 1, 2, 3] (qz (jx_then (qi h (fun h => ?_) (fun h => ?_))))))
        ·exact jc_exit (jx_thenx (jx_thenx (jx_ine (jx_then (jc_region (qh [0,0] (qe (qb (xs_13, i_15, i_16, i_17, i_18, i_19, i_20, q_21, i_22, (w64 (i_23 + 1))) ⟨o_986, a_14, cap_987, sp_988, xs_13.length⟩ h ⟨rfl, hl_990⟩ [0, 1, 2]))))))))
        ·exact jc_skip (qm () h [0, 1, 2, 3])
       ·replace h := ifF hc_1182 h
        exact qd [⟨28, 0, 3⟩,⟨29, 0, 3⟩,⟨30, 0, 3⟩,⟨35, 0, 3⟩,⟨36, 0, 5⟩,⟨37, 0, 5⟩] 0 [0, 1, 2, 3] (qz (jx_then (jc_cond false (by kernel_rfl) (fun hc_1185 => nomatch hc_1185) (fun hc_1185 => (jc_skip (qm () h [0, 1, 2, 3]))))))
     ·rintro _ h
      replace h : impl_arranger_look.k_28 self_ a0 d1 list2 cost3 xs_13 i_15 i_16 i_17 i_18 i_19 i_20 q_21 i_22 i_23 x_26 t_27 = some y_992 := h
      rw [impl_arranger_look.k_28] at h
      refine jx_then (jc_seq (jc_seq (qg [⟨some A_b, 141, [(.int .i16 i_15), (.slice D_a a0.ff.fHammers.length D_c), (.slice E_a a0.ft.length E_c), (.int .i16 i_16), (.int .i16 i_17), (.int .i16 i_18), (.slice J_a a0.fchoices.length J_c), (.slice K_a a0.fbounds.length K_c), (.int .i64 i_19), (.int .i64 i_20), (.bool q_21), (.slice a_14 xs_13.length cap_987), (.int .i64 i_22)]⟩, ⟨o_986, 104, row encGChoice xs_13 sp_988⟩, ⟨(some b_1), 40, row encU32 d1.1 []⟩, ⟨some b_996, 104, [(.bool x_26.fAway), (.int .i8 x_26.fLate), (.int .i8 x_26.fOctave), (.int .i8 x_26.fTrack)]⟩] 9 (qd [⟨0, 0, 0⟩,⟨1, 0, 0⟩,⟨2, 0, 0⟩,⟨3, 0, 0⟩,⟨4, 0, 0⟩,⟨5, 0, 0⟩,⟨6, 0, 0⟩,⟨7, 0, 0⟩,⟨8, 0, 0⟩] 0 [0, 1, 2, 3] (qz (jx_then (qi h (fun h => ?_) (fun h => ?_))))))))
      ·refine jc_seq (jc_region (qh [0,0,0] (tO (qs 0 [0] (jkO (qe (jx_then (jc_ret (jx_thenr (jx_inr (jx_thenr (jx_leaver (.inl (⟨(⟨i_15, a0.ff.fHammers⟩ : GFrame), a0.ft, (⟨i_16, i_17, i_18⟩ : GCosts), a0.fchoices, a0.fbounds, i_19, i_20, true, xs_13, i_22⟩ : Garranger)) (Option.some.inj h).symm (fun e_1008 => ?_)))))))))))))
       subst e_1008
       refine jx_inr (jx_thenr ?_)
       obtain rfl := Option.some.inj hr_991
       exact qr [] (fun w hm => ⟨o_986, a_14, cap_987, sp_988, xs_13.length, rfl, hl_990, rfl, hm.pk [0, 1]⟩)
      ·refine jc_skip (jx_then (jc_seq (jc_region (qh [0,0,0,0,0,0,0] (tO (qs 0 [0] (jkO (qe (jx_then (jc_seq (jc_region (tO (p_ldA 0 2 b_1 96 1 40 encU32 d1 (by kernel_rfl) (by kernel_rfl) (by kernel_rfl) encU32_len (by kernel_rfl) (jkO (tO (qa 0 (fun b_1009 => jkO (tO (p_sA 0 4 b_1009 96 1 40 encU32 (Arr.rep 96 0) d1 (by kernel_rfl) (by kernel_rfl) (by kernel_rfl) encU32_len encU32_cell (by kernel_rfl) (jkO (qe (jx_then (jc_seq (qg [⟨some A_b, 141, [(.int .i16 i_15), (.slice D_a a0.ff.fHammers.length D_c), (.slice E_a a0.ft.length E_c), (.int .i16 i_16), (.int .i16 i_17), (.int .i16 i_18), (.slice J_a a0.fchoices.length J_c), (.slice K_a a0.fbounds.length K_c), (.int .i64 i_19), (.int .i64 (w64 (i_20 + 1))), (.bool q_21), (.slice a_14 xs_13.length cap_987), (.int .i64 i_22)]⟩, ⟨o_986, 104, row encGChoice xs_13 sp_988⟩, ⟨(some b_1), 40, row encU32 d1.1 []⟩, ⟨some b_996, 104, [(.bool x_26.fAway), (.int .i8 x_26.fLate), (.int .i8 x_26.fOctave), (.int .i8 x_26.fTrack)]⟩] 9 (qd [⟨0, 0, 0⟩,⟨1, 0, 0⟩,⟨2, 0, 0⟩,⟨3, 0, 0⟩,⟨4, 0, 0⟩,⟨7, 3, 0⟩] 3 [0, 1, 2, 3] ?_)))))))))))))))))))))))))
       obtain ⟨x_29, hx_1011, h⟩ := bd h
       refine qv 5 0 [0, 1, 2, 3] (fun w hm => idx_run (a := E_a) (len := a0.ft.length) (s := 2) (j := (list2.length : Int)) (by kernel_rfl) (ix_some hx_1011).1 (ltn hx_1011 rfl) (E_h.sp hx_1011)) (qv 6 0 [0, 1, 2, 3] (fun w hm => ld_run (b := aB E_a) (off := (aO E_a + (list2.length : Int).toNat * 2)) (s := 2) (agg := true) (vs := (encGNote x_29)) (by kernel_rfl) (by kernel_rfl) (.inl rfl) ((hm.exRowW E_h E_ha).at hx_1011)) ?_)
       obtain ⟨t_30, ht_1012, h⟩ := bd h
       refine tD 8 (pc 0 (fun w hm => impl_Drum_puts.calls d1 x_29 x_26 w _ b_1009 (hm.pass (N := [⟨(some b_1009), 40, row encU32 d1.1 []⟩]) [4] (by kernel_rfl) (by kernel_rfl)) ht_1012) ?_)
       rintro w v w' hm ⟨rfl, hm'⟩
       refine ⟨_, hm.appW (ps := [(4, ⟨(some b_1009), 40, row encU32 t_30.1 []⟩)]) (N := []) hm' (by kernel_rfl) (by kernel_rfl), kD [0, 1, 2, 3] ?_⟩
       clear hm hm'
       refine qz (jx_then (jc_seq (jc_meet (fun (j : (List GChoice) × Int × Int × Int × Int × Int × Int × Bool × Int × (Option Nat) × (Option Addr) × Nat × (List Value) × Nat) => match j with | ⟨xs_31, i_33, i_34, i_35, i_36, i_37, i_38, q_39, i_40, o_1092, a_32, cap_1093, sp_1094, n_1095⟩ => impl_arranger_look.k_41 a0 i_23 xs_31 i_33 i_34 i_35 i_36 i_37 i_38 q_39 i_40 = some y_992 ∧ (xs_31.length = n_1095) ∧ (LsB o_1092 a_32 cap_1093 sp_1094 n_1095 xs_31 4 [(O_a, O_c, a0.fbest), (R_a, R_c, list2)])) (fun (j : (List GChoice) × Int × Int × Int × Int × Int × Int × Bool × Int × (Option Nat) × (Option Addr) × Nat × (List Value) × Nat) => match j with | ⟨xs_31, i_33, i_34, i_35, i_36, i_37, i_38, q_39, i_40, o_1092, a_32, cap_1093, sp_1094, n_1095⟩ => [(0, [], (.pointer (some ⟨A_b, 0, none⟩))), (2, [], (.slice R_a list2.length R_c)), (3, [], (.int .i64 cost3)), (5, [], (.pointer (some ⟨b_1, 0, none⟩))), (8, [], (.int .i64 (list2.length : Int))), (36, [], (.slice (hd J_hs (list2.length : Int)).a ((hd J_hs (list2.length : Int)).n) ((hd J_hs (list2.length : Int)).c))), (37, [], (.int .i64 (x_1.length : Int))), (38, [], (.int .i64 i_23))]) (fun (j : (List GChoice) × Int × Int × Int × Int × Int × Int × Bool × Int × (Option Nat) × (Option Addr) × Nat × (List Value) × Nat) => match j with | ⟨xs_31, i_33, i_34, i_35, i_36, i_37, i_38, q_39, i_40, o_1092, a_32, cap_1093, sp_1094, n_1095⟩ => [⟨some A_b, 141, [(.int .i16 i_33), (.slice D_a a0.ff.fHammers.length D_c), (.slice E_a a0.ft.length E_c), (.int .i16 i_34), (.int .i16 i_35), (.int .i16 i_36), (.slice J_a a0.fchoices.length J_c), (.slice K_a a0.fbounds.length K_c), (.int .i64 i_37), (.int .i64 i_38), (.bool q_39), (.slice a_32 n_1095 cap_1093), (.int .i64 i_40)]⟩, ⟨o_1092, 104, row encGChoice xs_31 sp_1094⟩, ⟨(some b_1), 40, row encU32 d1.1 []⟩, ⟨some b_996, 104, [(.bool x_26.fAway), (.int .i8 x_26.fLate), (.int .i8 x_26.fOctave), (.int .i8 x_26.fTrack)]⟩, ⟨(some b_1009), 40, row encU32 t_30.1 []⟩]) ?_ ?_)))
       ·refine qg [⟨(some b_1), 40, row encU32 d1.1 []⟩, ⟨some b_996, 104, [(.bool x_26.fAway), (.int .i8 x_26.fLate), (.int .i8 x_26.fOctave), (.int .i8 x_26.fTrack)]⟩, ⟨(some b_1009), 40, row encU32 t_30.1 []⟩] 9 (qd [⟨0, 0, 0⟩,⟨2, 0, 0⟩,⟨4, 1, 0⟩,⟨7, 0, 0⟩] 5 [2, 3, 4] (qv 1 0 [2, 3, 4] (fun w hm => ld_run (b := b_1009) (off := 0) (s := 96) (agg := true) (vs := row encU32 t_30.1 []) (by kernel_rfl) ((row_len encU32_len t_30).trans rfl) (.inl rfl) (hm.all (hh := 2) (T := 40) (by kernel_rfl))) (toD2 3 5 (by kernel_rfl) ?_ ?_)))
        ·obtain ⟨t_42, ht_1134, h⟩ := bd h
         refine pc 0 (fun w hm => slices_Clone_Choice.calls list2 w _ R_c (hm.exRowW R_h R_ha) rfl ht_1134) ?_
         rintro w v w' hm ⟨o_1135, cap_1136, sp_1137, _, rfl, hs_1138, ho_1139, rfl, hm'⟩
         refine ⟨_, hm.app hm', kD [2, 3, 4] ?_⟩
         clear hm hm'
         refine tD 5 (qa 0 (fun b_1140 => kD [2, 3, 4] ?_))
         obtain ⟨hg_1141, h⟩ := gd h
         refine tD 6 (p_apn 0 5 o_1135 104 t_42.length 1 cap_1136 4 4 (some ⟨b_1140, 0, none⟩) encGChoice t_42 ([x_26] : List GChoice) sp_1137 (.agg #[(.bool false), (.int .i8 0), (.int .i8 0), (.int .i8 0)]) rfl rfl (by kernel_rfl) (by kernel_rfl) (by kernel_rfl) encGChoice_len encGChoice_cell hs_1138 ho_1139 (fun w hm => (hm.ow 6 (some b_1140) 104 ([x_26] : List GChoice) [] (fun e => nomatch e) encGChoice_len)) hg_1141 (by kernel_rfl) (by kernel_rfl) (fun o_1142 cap_1143 sp_1144 hs_1145 ho_1146 => kD [2, 3, 4] ?_))
         obtain ⟨t_43, ht_1147, h⟩ := bd h
         refine tD 8 (pc 0 (fun w hm => hself (⟨(⟨i_15, a0.ff.fHammers⟩ : GFrame), a0.ft, (⟨i_16, i_17, i_18⟩ : GCosts), a0.fchoices, a0.fbounds, i_19, (w64 (i_20 + 1)), q_21, xs_13, i_22⟩ : Garranger) t_30 (t_42 ++ ([x_26] : List GChoice)) (w64 (cost3 + t_27)) w _ D_c (hm.exRowW D_h D_ha) rfl E_c (hm.exRowW E_h E_ha) rfl J_c (hm.exRowW J_h J_ha) rfl K_c (hm.exRowW K_h K_ha) rfl cap_987 rfl cap_1143 (hm.ow 5 o_1142 104 (t_42 ++ ([x_26] : List GChoice)) sp_1144 (fun e => (ho_1146 e).1) encGChoice_len) rfl A_b (hm.pass (N := [⟨some A_b, 141, [(.int .i16 i_15), (.slice D_a a0.ff.fHammers.length D_c), (.slice E_a a0.ft.length E_c), (.int .i16 i_16), (.int .i16 i_17), (.int .i16 i_18), (.slice J_a a0.fchoices.length J_c), (.slice K_a a0.fbounds.length K_c), (.int .i64 i_19), (.int .i64 (w64 (i_20 + 1))), (.bool q_21), (.slice a_14 xs_13.length cap_987), (.int .i64 i_22)]⟩]) [0] (by kernel_rfl) (by kernel_rfl)) (hm.exApart (N := [⟨some A_b, 141, [(.int .i16 i_15), (.slice D_a a0.ff.fHammers.length D_c), (.slice E_a a0.ft.length E_c), (.int .i16 i_16), (.int .i16 i_17), (.int .i16 i_18), (.slice J_a a0.fchoices.length J_c), (.slice K_a a0.fbounds.length K_c), (.int .i64 i_19), (.int .i64 (w64 (i_20 + 1))), (.bool q_21), (.slice a_14 xs_13.length cap_987), (.int .i64 i_22)]⟩]) D_h D_ha [0] (by kernel_rfl)) (hm.exApart (N := [⟨some A_b, 141, [(.int .i16 i_15), (.slice D_a a0.ff.fHammers.length D_c), (.slice E_a a0.ft.length E_c), (.int .i16 i_16), (.int .i16 i_17), (.int .i16 i_18), (.slice J_a a0.fchoices.length J_c), (.slice K_a a0.fbounds.length K_c), (.int .i64 i_19), (.int .i64 (w64 (i_20 + 1))), (.bool q_21), (.slice a_14 xs_13.length cap_987), (.int .i64 i_22)]⟩]) E_h E_ha [0] (by kernel_rfl)) (hm.exApart (N := [⟨some A_b, 141, [(.int .i16 i_15), (.slice D_a a0.ff.fHammers.length D_c), (.slice E_a a0.ft.length E_c), (.int .i16 i_16), (.int .i16 i_17), (.int .i16 i_18), (.slice J_a a0.fchoices.length J_c), (.slice K_a a0.fbounds.length K_c), (.int .i64 i_19), (.int .i64 (w64 (i_20 + 1))), (.bool q_21), (.slice a_14 xs_13.length cap_987), (.int .i64 i_22)]⟩]) J_h J_ha [0] (by kernel_rfl)) (hm.innPass (N := [⟨some A_b, 141, [(.int .i16 i_15), (.slice D_a a0.ff.fHammers.length D_c), (.slice E_a a0.ft.length E_c), (.int .i16 i_16), (.int .i16 i_17), (.int .i16 i_18), (.slice J_a a0.fchoices.length J_c), (.slice K_a a0.fbounds.length K_c), (.int .i64 i_19), (.int .i64 (w64 (i_20 + 1))), (.bool q_21), (.slice a_14 xs_13.length cap_987), (.int .i64 i_22)]⟩]) J_i [0] (by kernel_rfl)) (hm.exApart (N := [⟨some A_b, 141, [(.int .i16 i_15), (.slice D_a a0.ff.fHammers.length D_c), (.slice E_a a0.ft.length E_c), (.int .i16 i_16), (.int .i16 i_17), (.int .i16 i_18), (.slice J_a a0.fchoices.length J_c), (.slice K_a a0.fbounds.length K_c), (.int .i64 i_19), (.int .i64 (w64 (i_20 + 1))), (.bool q_21), (.slice a_14 xs_13.length cap_987), (.int .i64 i_22)]⟩]) K_h K_ha [0] (by kernel_rfl)) (hm.ownApart (S := GChoice) (N := [⟨some A_b, 141, [(.int .i16 i_15), (.slice D_a a0.ff.fHammers.length D_c), (.slice E_a a0.ft.length E_c), (.int .i16 i_16), (.int .i16 i_17), (.int .i16 i_18), (.slice J_a a0.fchoices.length J_c), (.slice K_a a0.fbounds.length K_c), (.int .i64 i_19), (.int .i64 (w64 (i_20 + 1))), (.bool q_21), (.slice a_14 xs_13.length cap_987), (.int .i64 i_22)]⟩]) (hh := 5) (o := o_1142) (T := 104) (cs := row encGChoice (t_42 ++ ([x_26] : List GChoice)) sp_1144) (xs := (t_42 ++ ([x_26] : List GChoice))) (by kernel_rfl) (fun e => (ho_1146 e).1) [0] (by kernel_rfl) (by kernel_rfl)) ht_1147) ?_)
         rintro w v w' hm ⟨o_1148, a_44, cap_1149, sp_1150, _, rfl, hl_1151, rfl, hm'⟩
         obtain ⟨o_1152, sp_1153, hl_1154, hM_1155⟩ := Mem.ls3 (T := 104) (enc := encGChoice) (o1 := o_986) (sp1 := sp_988) (xs1 := xs_13) (o := o_1148) (sp := sp_1150) (xs := t_43.fbest) (F := [(O_a, O_c, a0.fbest), (R_a, R_c, list2)]) (o2 := o_1142) (sp2 := sp_1144) (xs2 := (t_42 ++ ([x_26] : List GChoice))) (hm.appW (ps := [(0, ⟨some A_b, 141, [(.int .i16 t_43.ff.fSteps), (.slice D_a a0.ff.fHammers.length D_c), (.slice E_a a0.ft.length E_c), (.int .i16 t_43.fc.fAway), (.int .i16 t_43.fc.fOctave), (.int .i16 t_43.fc.fStep), (.slice J_a a0.fchoices.length J_c), (.slice K_a a0.fbounds.length K_c), (.int .i64 t_43.fbudget), (.int .i64 t_43.flooks), (.bool t_43.fover), (.slice a_44 t_43.fbest.length cap_1149), (.int .i64 t_43.fleast)]⟩)]) (N := [⟨o_1148, 104, row encGChoice t_43.fbest sp_1150⟩]) hm' (by kernel_rfl) (by kernel_rfl)) 1 5 7 (by kernel_rfl) (by kernel_rfl) (by kernel_rfl) (by kernel_rfl) hl_990 rfl hs_1145 ho_1146 rfl rfl hl_1151
         refine ⟨_, Mem.pick hM_1155 (N := [⟨some A_b, 141, [(.int .i16 t_43.ff.fSteps), (.slice D_a a0.ff.fHammers.length D_c), (.slice E_a a0.ft.length E_c), (.int .i16 t_43.fc.fAway), (.int .i16 t_43.fc.fOctave), (.int .i16 t_43.fc.fStep), (.slice J_a a0.fchoices.length J_c), (.slice K_a a0.fbounds.length K_c), (.int .i64 t_43.fbudget), (.int .i64 t_43.flooks), (.bool t_43.fover), (.slice a_44 t_43.fbest.length cap_1149), (.int .i64 t_43.fleast)]⟩, ⟨o_1152, 104, row encGChoice t_43.fbest sp_1153⟩, ⟨(some b_1), 40, row encU32 d1.1 []⟩, ⟨some b_996, 104, [(.bool x_26.fAway), (.int .i8 x_26.fLate), (.int .i8 x_26.fOctave), (.int .i8 x_26.fTrack)]⟩, ⟨(some b_1009), 40, row encU32 t_30.1 []⟩, ⟨none, 0, []⟩, ⟨(some b_1140), 104, row encGChoice ([x_26] : List GChoice) []⟩]) [0, 1, 2, 3, 4, 5, 6] (by kernel_rfl) (by kernel_rfl), kD [2, 3, 4] ?_⟩
         clear hm hm' hM_1155
         exact qz (qm ⟨t_43.fbest, t_43.ff.fSteps, t_43.fc.fAway, t_43.fc.fOctave, t_43.fc.fStep, t_43.fbudget, t_43.flooks, t_43.fover, t_43.fleast, o_1152, a_44, cap_1149, sp_1153, t_43.fbest.length⟩ ⟨h, rfl, hl_1154⟩ [0, 1, 2, 3, 4])
        ·refine qa 0 (fun b_1156 => kD [2, 3, 4] ?_)
         obtain ⟨t_42, ht_1157, h⟩ := bd h
         refine tD 3 (pc 0 (fun w hm => slices_Clone_Choice.calls list2 w _ R_c (hm.exRowW R_h R_ha) rfl ht_1157) ?_)
         rintro w v w' hm ⟨o_1158, cap_1159, sp_1160, _, rfl, hs_1161, ho_1162, rfl, hm'⟩
         refine ⟨_, hm.app hm', kD [2, 3, 4] ?_⟩
         clear hm hm'
         obtain ⟨hg_1163, h⟩ := gd h
         refine tD 6 (p_apn 0 6 o_1158 104 t_42.length 1 cap_1159 4 4 (some ⟨b_1156, 0, none⟩) encGChoice t_42 ([x_26] : List GChoice) sp_1160 (.agg #[(.bool false), (.int .i8 0), (.int .i8 0), (.int .i8 0)]) rfl rfl (by kernel_rfl) (by kernel_rfl) (by kernel_rfl) encGChoice_len encGChoice_cell hs_1161 ho_1162 (fun w hm => (hm.ow 5 (some b_1156) 104 ([x_26] : List GChoice) [] (fun e => nomatch e) encGChoice_len)) hg_1163 (by kernel_rfl) (by kernel_rfl) (fun o_1164 cap_1165 sp_1166 hs_1167 ho_1168 => kD [2, 3, 4] ?_))
         obtain ⟨t_43, ht_1169, h⟩ := bd h
         refine tD 8 (pc 0 (fun w hm => hself (⟨(⟨i_15, a0.ff.fHammers⟩ : GFrame), a0.ft, (⟨i_16, i_17, i_18⟩ : GCosts), a0.fchoices, a0.fbounds, i_19, (w64 (i_20 + 1)), q_21, xs_13, i_22⟩ : Garranger) t_30 (t_42 ++ ([x_26] : List GChoice)) (w64 (cost3 + t_27)) w _ D_c (hm.exRowW D_h D_ha) rfl E_c (hm.exRowW E_h E_ha) rfl J_c (hm.exRowW J_h J_ha) rfl K_c (hm.exRowW K_h K_ha) rfl cap_987 rfl cap_1165 (hm.ow 6 o_1164 104 (t_42 ++ ([x_26] : List GChoice)) sp_1166 (fun e => (ho_1168 e).1) encGChoice_len) rfl A_b (hm.pass (N := [⟨some A_b, 141, [(.int .i16 i_15), (.slice D_a a0.ff.fHammers.length D_c), (.slice E_a a0.ft.length E_c), (.int .i16 i_16), (.int .i16 i_17), (.int .i16 i_18), (.slice J_a a0.fchoices.length J_c), (.slice K_a a0.fbounds.length K_c), (.int .i64 i_19), (.int .i64 (w64 (i_20 + 1))), (.bool q_21), (.slice a_14 xs_13.length cap_987), (.int .i64 i_22)]⟩]) [0] (by kernel_rfl) (by kernel_rfl)) (hm.exApart (N := [⟨some A_b, 141, [(.int .i16 i_15), (.slice D_a a0.ff.fHammers.length D_c), (.slice E_a a0.ft.length E_c), (.int .i16 i_16), (.int .i16 i_17), (.int .i16 i_18), (.slice J_a a0.fchoices.length J_c), (.slice K_a a0.fbounds.length K_c), (.int .i64 i_19), (.int .i64 (w64 (i_20 + 1))), (.bool q_21), (.slice a_14 xs_13.length cap_987), (.int .i64 i_22)]⟩]) D_h D_ha [0] (by kernel_rfl)) (hm.exApart (N := [⟨some A_b, 141, [(.int .i16 i_15), (.slice D_a a0.ff.fHammers.length D_c), (.slice E_a a0.ft.length E_c), (.int .i16 i_16), (.int .i16 i_17), (.int .i16 i_18), (.slice J_a a0.fchoices.length J_c), (.slice K_a a0.fbounds.length K_c), (.int .i64 i_19), (.int .i64 (w64 (i_20 + 1))), (.bool q_21), (.slice a_14 xs_13.length cap_987), (.int .i64 i_22)]⟩]) E_h E_ha [0] (by kernel_rfl)) (hm.exApart (N := [⟨some A_b, 141, [(.int .i16 i_15), (.slice D_a a0.ff.fHammers.length D_c), (.slice E_a a0.ft.length E_c), (.int .i16 i_16), (.int .i16 i_17), (.int .i16 i_18), (.slice J_a a0.fchoices.length J_c), (.slice K_a a0.fbounds.length K_c), (.int .i64 i_19), (.int .i64 (w64 (i_20 + 1))), (.bool q_21), (.slice a_14 xs_13.length cap_987), (.int .i64 i_22)]⟩]) J_h J_ha [0] (by kernel_rfl)) (hm.innPass (N := [⟨some A_b, 141, [(.int .i16 i_15), (.slice D_a a0.ff.fHammers.length D_c), (.slice E_a a0.ft.length E_c), (.int .i16 i_16), (.int .i16 i_17), (.int .i16 i_18), (.slice J_a a0.fchoices.length J_c), (.slice K_a a0.fbounds.length K_c), (.int .i64 i_19), (.int .i64 (w64 (i_20 + 1))), (.bool q_21), (.slice a_14 xs_13.length cap_987), (.int .i64 i_22)]⟩]) J_i [0] (by kernel_rfl)) (hm.exApart (N := [⟨some A_b, 141, [(.int .i16 i_15), (.slice D_a a0.ff.fHammers.length D_c), (.slice E_a a0.ft.length E_c), (.int .i16 i_16), (.int .i16 i_17), (.int .i16 i_18), (.slice J_a a0.fchoices.length J_c), (.slice K_a a0.fbounds.length K_c), (.int .i64 i_19), (.int .i64 (w64 (i_20 + 1))), (.bool q_21), (.slice a_14 xs_13.length cap_987), (.int .i64 i_22)]⟩]) K_h K_ha [0] (by kernel_rfl)) (hm.ownApart (S := GChoice) (N := [⟨some A_b, 141, [(.int .i16 i_15), (.slice D_a a0.ff.fHammers.length D_c), (.slice E_a a0.ft.length E_c), (.int .i16 i_16), (.int .i16 i_17), (.int .i16 i_18), (.slice J_a a0.fchoices.length J_c), (.slice K_a a0.fbounds.length K_c), (.int .i64 i_19), (.int .i64 (w64 (i_20 + 1))), (.bool q_21), (.slice a_14 xs_13.length cap_987), (.int .i64 i_22)]⟩]) (hh := 6) (o := o_1164) (T := 104) (cs := row encGChoice (t_42 ++ ([x_26] : List GChoice)) sp_1166) (xs := (t_42 ++ ([x_26] : List GChoice))) (by kernel_rfl) (fun e => (ho_1168 e).1) [0] (by kernel_rfl) (by kernel_rfl)) ht_1169) ?_)
         rintro w v w' hm ⟨o_1170, a_44, cap_1171, sp_1172, _, rfl, hl_1173, rfl, hm'⟩
         obtain ⟨o_1174, sp_1175, hl_1176, hM_1177⟩ := Mem.ls3 (T := 104) (enc := encGChoice) (o1 := o_986) (sp1 := sp_988) (xs1 := xs_13) (o := o_1170) (sp := sp_1172) (xs := t_43.fbest) (F := [(O_a, O_c, a0.fbest), (R_a, R_c, list2)]) (o2 := o_1164) (sp2 := sp_1166) (xs2 := (t_42 ++ ([x_26] : List GChoice))) (hm.appW (ps := [(0, ⟨some A_b, 141, [(.int .i16 t_43.ff.fSteps), (.slice D_a a0.ff.fHammers.length D_c), (.slice E_a a0.ft.length E_c), (.int .i16 t_43.fc.fAway), (.int .i16 t_43.fc.fOctave), (.int .i16 t_43.fc.fStep), (.slice J_a a0.fchoices.length J_c), (.slice K_a a0.fbounds.length K_c), (.int .i64 t_43.fbudget), (.int .i64 t_43.flooks), (.bool t_43.fover), (.slice a_44 t_43.fbest.length cap_1171), (.int .i64 t_43.fleast)]⟩)]) (N := [⟨o_1170, 104, row encGChoice t_43.fbest sp_1172⟩]) hm' (by kernel_rfl) (by kernel_rfl)) 1 6 7 (by kernel_rfl) (by kernel_rfl) (by kernel_rfl) (by kernel_rfl) hl_990 rfl hs_1167 ho_1168 rfl rfl hl_1173
         refine ⟨_, Mem.pick hM_1177 (N := [⟨some A_b, 141, [(.int .i16 t_43.ff.fSteps), (.slice D_a a0.ff.fHammers.length D_c), (.slice E_a a0.ft.length E_c), (.int .i16 t_43.fc.fAway), (.int .i16 t_43.fc.fOctave), (.int .i16 t_43.fc.fStep), (.slice J_a a0.fchoices.length J_c), (.slice K_a a0.fbounds.length K_c), (.int .i64 t_43.fbudget), (.int .i64 t_43.flooks), (.bool t_43.fover), (.slice a_44 t_43.fbest.length cap_1171), (.int .i64 t_43.fleast)]⟩, ⟨o_1174, 104, row encGChoice t_43.fbest sp_1175⟩, ⟨(some b_1), 40, row encU32 d1.1 []⟩, ⟨some b_996, 104, [(.bool x_26.fAway), (.int .i8 x_26.fLate), (.int .i8 x_26.fOctave), (.int .i8 x_26.fTrack)]⟩, ⟨(some b_1009), 40, row encU32 t_30.1 []⟩, ⟨(some b_1156), 104, row encGChoice ([x_26] : List GChoice) []⟩, ⟨none, 0, []⟩]) [0, 1, 2, 3, 4, 5, 6] (by kernel_rfl) (by kernel_rfl), kD [2, 3, 4] ?_⟩
         clear hm hm' hM_1177
         exact qz (qm ⟨t_43.fbest, t_43.ff.fSteps, t_43.fc.fAway, t_43.fc.fOctave, t_43.fc.fStep, t_43.fbudget, t_43.flooks, t_43.fover, t_43.fleast, o_1174, a_44, cap_1171, sp_1175, t_43.fbest.length⟩ ⟨h, rfl, hl_1176⟩ [0, 1, 2, 3, 4])
       ·rintro ⟨xs_31, i_33, i_34, i_35, i_36, i_37, i_38, q_39, i_40, o_1092, a_32, cap_1093, sp_1094, n_1095⟩ ⟨h, rfl, hl_1096⟩
        replace h : impl_arranger_look.k_41 a0 i_23 xs_31 i_33 i_34 i_35 i_36 i_37 i_38 q_39 i_40 = some y_992 := h
        rw [impl_arranger_look.k_41] at h
        refine jx_then (jc_seq (jc_region (qh [0,0,0,0] (qe (jx_then (qi h (fun h => ?_) (fun h => ?_)))))))
        ·refine jc_ret (jx_inr (jx_thenr (jx_leaver (.inl (⟨(⟨i_33, a0.ff.fHammers⟩ : GFrame), a0.ft, (⟨i_34, i_35, i_36⟩ : GCosts), a0.fchoices, a0.fbounds, i_37, i_38, q_39, xs_31, i_40⟩ : Garranger)) (Option.some.inj h).symm (fun e_1098 => ?_))))
         subst e_1098
         refine jx_inr (jx_thenr ?_)
         obtain rfl := Option.some.inj hr_991
         exact qr [] (fun w hm => ⟨o_1092, a_32, cap_1093, sp_1094, xs_31.length, rfl, hl_1096, rfl, hm.pk [0, 1]⟩)
        ·exact jc_skip (jx_inn (jx_then (jc_region (qh [0,0] (qe (qb (xs_31, i_33, i_34, i_35, i_36, i_37, i_38, q_39, i_40, (w64 (i_23 + 1))) ⟨o_1092, a_32, cap_1093, sp_1094, xs_31.length⟩ h ⟨rfl, hl_1096⟩ [0, 1, 2]))))))
    ·refine jc_exit (jx_thenx (jx_leave (.inr (xs_13, i_15, i_16, i_17, i_18, i_19, i_20, q_21, i_22)) (Option.some.inj h).symm (fun e_1186 => ?_)))
     subst e_1186
     exact jx_ine (qm ⟨xs_13, i_15, i_16, i_17, i_18, i_19, i_20, q_21, i_22, o_986, a_14, cap_987, sp_988, xs_13.length⟩ ⟨hr_991, rfl, hl_990⟩ [0, 1, 2])
   ·rintro ⟨xs_2, i_4, i_5, i_6, i_7, i_8, i_9, q_10, i_11, o_594, a_3, cap_595, sp_596, n_597⟩ ⟨h, rfl, hl_598⟩
    replace h : impl_arranger_look.k_12 a0 xs_2 i_4 i_5 i_6 i_7 i_8 i_9 q_10 i_11 = some r := h
    rw [impl_arranger_look.k_12] at h
    refine jx_fall ?_
    obtain rfl := Option.some.inj h
    exact qr [] (fun w hm => ⟨o_594, a_3, cap_595, sp_596, xs_2.length, rfl, hl_598, rfl, hm.pk [0, 1]⟩)
theorem impl_arranger_look.rec_calls (fu : Nat) : ∀ (a0 : Garranger) (d1 : Arr 96 Int) (list2 : List GChoice) (cost3 : Int) (w : World) (r : Garranger) {D_a : Option Addr} {D_an : Nat} (D_c : Nat) (D_h : Rw w D_a 2 encGHammer a0.ff.fHammers) (D_hn : a0.ff.fHammers.length = D_an) {E_a : Option Addr} {E_an : Nat} (E_c : Nat) (E_h : Rw w E_a 2 encGNote a0.ft) (E_hn : a0.ft.length = E_an) {J_a : Option Addr} {J_an : Nat} (J_c : Nat) {J_hs : List Hd} (J_h : Rw w J_a 1 encHd J_hs) (J_hn : a0.fchoices.length = J_an) {K_a : Option Addr} {K_an : Nat} (K_c : Nat) (K_h : Rw w K_a 1 encI64 a0.fbounds) (K_hn : a0.fbounds.length = K_an) {O_a : Option Addr} {O_an : Nat} (O_c : Nat) (O_hn : a0.fbest.length = O_an) {R_a : Option Addr} {R_an : Nat} (R_c : Nat) (R_h : Rw w R_a 4 encGChoice list2) (R_hn : list2.length = R_an) (A_b : Nat) (hm0 : Mem w (bs [some A_b]) [⟨some A_b, 141, [(.int .i16 a0.ff.fSteps), (.slice D_a D_an D_c), (.slice E_a E_an E_c), (.int .i16 a0.fc.fAway), (.int .i16 a0.fc.fOctave), (.int .i16 a0.fc.fStep), (.slice J_a J_an J_c), (.slice K_a K_an K_c), (.int .i64 a0.fbudget), (.int .i64 a0.flooks), (.bool a0.fover), (.slice O_a O_an O_c), (.int .i64 a0.fleast)]⟩] w) (D_ha : a0.ff.fHammers ≠ [] → aB D_a ∉ bs [some A_b]) (E_ha : a0.ft ≠ [] → aB E_a ∉ bs [some A_b]) (J_ha : J_hs ≠ [] → aB J_a ∉ bs [some A_b]) (J_i : Inn w (bs [some A_b]) 4 encGChoice J_hs a0.fchoices) (K_ha : a0.fbounds ≠ [] → aB K_a ∉ bs [some A_b]) (R_ha : list2 ≠ [] → aB R_a ∉ bs [some A_b]) (h : impl_arranger_look.rec_ fu a0 d1 list2 cost3 = some r),
    Calls Tryz.prog 90 #[(.pointer (some ⟨A_b, 0, none⟩)), (.agg (row encU32 d1.1 []).toArray), (.slice R_a R_an R_c), (.int .i64 cost3)] w fun e w' => ∃ v, e = .returned v ∧ (∃ (lo : Option Nat) (la : Option Addr) (lc : Nat) (lsp : List Value) (ln : Nat), r.fbest.length = ln ∧ LsB lo la lc lsp ln r.fbest 4 [(O_a, O_c, a0.fbest), (R_a, R_c, list2)] ∧ v = .tuple #[] ∧ Mem w (bs [some A_b]) [⟨some A_b, 141, [(.int .i16 r.ff.fSteps), (.slice D_a D_an D_c), (.slice E_a E_an E_c), (.int .i16 r.fc.fAway), (.int .i16 r.fc.fOctave), (.int .i16 r.fc.fStep), (.slice J_a J_an J_c), (.slice K_a K_an K_c), (.int .i64 r.fbudget), (.int .i64 r.flooks), (.bool r.fover), (.slice la ln lc), (.int .i64 r.fleast)]⟩, ⟨lo, 104, row encGChoice r.fbest lsp⟩] w') := by
  induction fu with
  | zero => intros; rename_i h; cases h
  | succ fu ih => exact @impl_arranger_look.step_calls _ (impl_arranger_look.rec_ fu) @ih
theorem impl_arranger_look.calls (a0 : Garranger) (d1 : Arr 96 Int) (list2 : List GChoice) (cost3 : Int) (w : World) (r : Garranger) {D_a : Option Addr} {D_an : Nat} (D_c : Nat) (D_h : Rw w D_a 2 encGHammer a0.ff.fHammers) (D_hn : a0.ff.fHammers.length = D_an) {E_a : Option Addr} {E_an : Nat} (E_c : Nat) (E_h : Rw w E_a 2 encGNote a0.ft) (E_hn : a0.ft.length = E_an) {J_a : Option Addr} {J_an : Nat} (J_c : Nat) {J_hs : List Hd} (J_h : Rw w J_a 1 encHd J_hs) (J_hn : a0.fchoices.length = J_an) {K_a : Option Addr} {K_an : Nat} (K_c : Nat) (K_h : Rw w K_a 1 encI64 a0.fbounds) (K_hn : a0.fbounds.length = K_an) {O_a : Option Addr} {O_an : Nat} (O_c : Nat) (O_hn : a0.fbest.length = O_an) {R_a : Option Addr} {R_an : Nat} (R_c : Nat) (R_h : Rw w R_a 4 encGChoice list2) (R_hn : list2.length = R_an) (A_b : Nat) (hm0 : Mem w (bs [some A_b]) [⟨some A_b, 141, [(.int .i16 a0.ff.fSteps), (.slice D_a D_an D_c), (.slice E_a E_an E_c), (.int .i16 a0.fc.fAway), (.int .i16 a0.fc.fOctave), (.int .i16 a0.fc.fStep), (.slice J_a J_an J_c), (.slice K_a K_an K_c), (.int .i64 a0.fbudget), (.int .i64 a0.flooks), (.bool a0.fover), (.slice O_a O_an O_c), (.int .i64 a0.fleast)]⟩] w) (D_ha : a0.ff.fHammers ≠ [] → aB D_a ∉ bs [some A_b]) (E_ha : a0.ft ≠ [] → aB E_a ∉ bs [some A_b]) (J_ha : J_hs ≠ [] → aB J_a ∉ bs [some A_b]) (J_i : Inn w (bs [some A_b]) 4 encGChoice J_hs a0.fchoices) (K_ha : a0.fbounds ≠ [] → aB K_a ∉ bs [some A_b]) (R_ha : list2 ≠ [] → aB R_a ∉ bs [some A_b]) (h : impl_arranger_look a0 d1 list2 cost3 = some r) :
    Calls Tryz.prog 90 #[(.pointer (some ⟨A_b, 0, none⟩)), (.agg (row encU32 d1.1 []).toArray), (.slice R_a R_an R_c), (.int .i64 cost3)] w fun e w' => ∃ v, e = .returned v ∧ (∃ (lo : Option Nat) (la : Option Addr) (lc : Nat) (lsp : List Value) (ln : Nat), r.fbest.length = ln ∧ LsB lo la lc lsp ln r.fbest 4 [(O_a, O_c, a0.fbest), (R_a, R_c, list2)] ∧ v = .tuple #[] ∧ Mem w (bs [some A_b]) [⟨some A_b, 141, [(.int .i16 r.ff.fSteps), (.slice D_a D_an D_c), (.slice E_a E_an E_c), (.int .i16 r.fc.fAway), (.int .i16 r.fc.fOctave), (.int .i16 r.fc.fStep), (.slice J_a J_an J_c), (.slice K_a K_an K_c), (.int .i64 r.fbudget), (.int .i64 r.flooks), (.bool r.fover), (.slice la ln lc), (.int .i64 r.fleast)]⟩, ⟨lo, 104, row encGChoice r.fbest lsp⟩] w') :=
  impl_arranger_look.rec_calls 200 a0 d1 list2 cost3 w r D_c D_h D_hn E_c E_h E_hn J_c J_h J_hn K_c K_h K_hn O_c O_hn R_c R_h R_hn A_b hm0 D_ha E_ha J_ha J_i K_ha R_ha h
/-! ### impl.Arrange -/
def impl_Arrange.k_6 (f0 : GFrame) (t1 : List GNote) (c2 : GCosts) (budget3 : Int) (t_5 : (List Int)) (xt_284 : List (List GChoice)) : Option ((List GChoice) × Int × Int) := (impl_arranger_look (⟨f0, t1, c2, xt_284, t_5, budget3, 0, false, ([] : List GChoice), (-1)⟩ : Garranger) (Arr.rep 96 0) [] 0).bind fun t_7 => (if t_7.fover = true then some ([], 0, 7) else some (t_7.fbest, t_7.fleast, 0))
def impl_Arrange.l_10 (f0 : GFrame) (t1 : List GNote) (c2 : GCosts) : ((List (List GChoice)) × Int) → Option (((List (List GChoice)) × Int) ⊕ ((List (List GChoice))))
  | (xt_355, i_9) => (if (decide (i_9 < (t1.length : Int))) = true then (ix t1 i_9).bind fun x_12 => (impl_Frame_choices f0 x_12).bind fun t_13 => (slices_SortStableFunc_Choice_at_impl_Arrange_1 t_13 c2).bind fun t_14 => (if xt_355.length + 1 ≤ 4294967296 then some (.inl ((xt_355 ++ [t_14]), (w64 (i_9 + 1)))) else none) else some (.inr xt_355))
def impl_Arrange (f0 : GFrame) (t1 : List GNote) (c2 : GCosts) (budget3 : Int) : Option ((List GChoice) × Int × Int) := (impl_arrangeCode f0 t1 c2).bind fun t_1 => (impl_within budget3 0 20000).bind fun t_2 => (impl_unless t_2 2).bind fun t_3 => (impl_firstOf ([t_1, t_3] : List Int)).bind fun t_4 => (if (t_4 != 0) = true then some ([], 0, t_4) else (impl_bounds f0 t1 c2).bind fun t_5 => (loop (impl_Arrange.l_10 f0 t1 c2) (([] : List (List GChoice)), 0)).bind fun t_11 => impl_Arrange.k_6 f0 t1 c2 budget3 t_5 t_11)
theorem impl_Arrange.calls (f0 : GFrame) (t1 : List GNote) (c2 : GCosts) (budget3 : Int) (w : World) (r : (List GChoice) × Int × Int) {C_a : Option Addr} {C_an : Nat} (C_c : Nat) (C_h : Rw w C_a 2 encGHammer f0.fHammers) (C_hn : f0.fHammers.length = C_an) {D_a : Option Addr} {D_an : Nat} (D_c : Nat) (D_h : Rw w D_a 2 encGNote t1) (D_hn : t1.length = D_an) (h : impl_Arrange f0 t1 c2 budget3 = some r) :
    Calls Tryz.prog 21 #[(.agg #[(.int .i16 f0.fSteps), (.slice C_a C_an C_c)]), (.slice D_a D_an D_c), (.agg #[(.int .i16 c2.fAway), (.int .i16 c2.fOctave), (.int .i16 c2.fStep)]), (.int .i64 budget3)] w fun e w' => ∃ v, e = .returned v ∧ (∃ (o0 : Option Nat) (c0 : Nat) (s0 : List Value) (n0 : Nat), r.1.length = n0 ∧ (o0 ≠ none → n0 ≤ c0 ∧ s0.length = (c0 - n0) * 4) ∧ (o0 = none → r.1 = [] ∧ c0 = 0) ∧ v = .tuple #[.slice (o0.map fun b => ⟨b, 0, none⟩) n0 c0, (.int .i64 r.2.1), (.int .i64 r.2.2)] ∧ Mem w [] [⟨o0, 104, row encGChoice r.1 s0⟩] w') := by
  subst C_hn D_hn
  rw [impl_Arrange] at h
  refine enter (args := [(.agg #[(.int .i16 f0.fSteps), (.slice C_a f0.fHammers.length C_c)]), (.slice D_a t1.length D_c), (.agg #[(.int .i16 c2.fAway), (.int .i16 c2.fOctave), (.int .i16 c2.fStep)]), (.int .i64 budget3)]) Tryz.func21 rfl Tryz.ntmps21 (by kernel_rfl) (L := []) (W := []) (Mem.start w) ?_
  refine jc_seq (jc_region (tO (qa 0 (fun b_1 => jkO (tO (qa 0 (fun b_2 => jkO (qh [0,0,0] (qe (jx_then (jc_seq (jc_seq (jc_region (qh [0,0,1] ?_))))))))))))))
  obtain ⟨t_1, ht_9, h⟩ := bd h
  refine tO (pc 0 (fun w hm => impl_arrangeCode.calls f0 t1 c2 w _ C_c (hm.xr C_h) rfl D_c (hm.xr D_h) rfl ht_9) ?_)
  rintro w v w' hm ⟨rfl, hm'⟩
  refine ⟨_, hm.app hm', jkO ?_⟩
  clear hm hm'
  refine qh [0] ?_
  obtain ⟨t_2, ht_10, h⟩ := bd h
  refine tO (pc 0 (fun w hm => impl_within.calls budget3 0 20000 w _ ht_10) ?_)
  rintro w v w' hm ⟨rfl, hm'⟩
  refine ⟨_, hm.app hm', jkO ?_⟩
  clear hm hm'
  obtain ⟨t_3, ht_11, h⟩ := bd h
  refine tO (pc 0 (fun w hm => impl_unless.calls t_2 2 w _ ht_11) ?_)
  rintro w v w' hm ⟨rfl, hm'⟩
  refine ⟨_, hm.app hm', jkO ?_⟩
  clear hm hm'
  refine tO (qa 0 (fun b_12 => jkO ?_))
  obtain ⟨t_4, ht_13, h⟩ := bd h
  refine tO (pc 0 (fun w hm => impl_firstOf.calls ([t_1, t_3] : List Int) w _ 2 (hm.ow 2 (some b_12) 2 ([t_1, t_3] : List Int) [] (fun e => nomatch e) encI64_len) rfl ht_13) ?_)
  rintro w v w' hm ⟨rfl, hm'⟩
  refine ⟨_, hm.app hm', jkO ?_⟩
  clear hm hm'
  refine qh [0] (qe (jx_then (jc_seq (jc_region (qh [0,0] (qe (jx_then (qi h (fun h => ?_) (fun h => ?_)))))))))
  ·refine jc_seq (jc_region (qh [0,0,0,0] (qe (jx_then (jc_ret (jx_thenr ?_))))))
   obtain rfl := Option.some.inj h
   exact jx_ghost 104 encGChoice (qr [] (fun w hm => ⟨none, 0, [], 0, rfl, (fun e => absurd rfl e), (fun _ => ⟨rfl, rfl⟩), rfl, hm.pk [3]⟩))
  ·refine jc_skip (jx_then (jc_seq (qg [⟨some b_1, 27, [(.int .i16 f0.fSteps), (.slice C_a f0.fHammers.length C_c)]⟩, ⟨some b_2, 33, [(.int .i16 c2.fAway), (.int .i16 c2.fOctave), (.int .i16 c2.fStep)]⟩, ⟨(some b_12), 2, row encI64 ([t_1, t_3] : List Int) []⟩] 11 (qd [⟨0, 0, 0⟩,⟨1, 0, 0⟩,⟨2, 1, 0⟩,⟨3, 0, 0⟩,⟨4, 0, 0⟩,⟨5, 1, 0⟩,⟨7, 0, 0⟩] 4 [0, 1, 2] ?_))))
   obtain ⟨t_5, ht_22, h⟩ := bd h
   refine tD 6 (pc 0 (fun w hm => impl_bounds.calls f0 t1 c2 w _ C_c (hm.xr C_h) rfl D_c (hm.xr D_h) rfl ht_22) ?_)
   rintro w v w' hm ⟨o_23, cap_24, sp_25, _, rfl, hs_26, ho_27, rfl, hm'⟩
   refine ⟨_, hm.app hm', kD [0, 1, 2] ?_⟩
   clear hm hm'
   refine qd [⟨8, 0, 0⟩] 2 [0, 1, 2] (tD 9 (qa 0 (fun b_28 => jk_ghost 35 encHd (jk_clu encGChoice (kD [0, 1, 2] (qd [⟨10, 0, 0⟩] 0 [0, 1, 2] (qz (jx_then (jc_seq (jc_seq (jc_region (qh [0,0,0] (qe (jx_then (jc_meet (fun (j : (List (List GChoice)) × (List Hd) × (Option Nat) × Nat × (List Value) × Nat) => match j with | ⟨xt_284, hh_285, o_286, cap_287, sp_288, n_289⟩ => impl_Arrange.k_6 f0 t1 c2 budget3 t_5 xt_284 = some r ∧ (hh_285.length = n_289) ∧ ((o_286 ≠ none → n_289 ≤ cap_287 ∧ sp_288.length = (cap_287 - n_289) * 1)) ∧ ((o_286 = none → hh_285 = [] ∧ cap_287 = 0)) ∧ (InP hh_285 xt_284)) (fun (j : (List (List GChoice)) × (List Hd) × (Option Nat) × Nat × (List Value) × Nat) => match j with | ⟨xt_284, hh_285, o_286, cap_287, sp_288, n_289⟩ => [(8, [], (.slice none 0 0)), (9, [], (.int .i64 0)), (10, [], (.int .i64 0)), (12, [], (.pointer (some ⟨b_28, 0, none⟩)))]) (fun (j : (List (List GChoice)) × (List Hd) × (Option Nat) × Nat × (List Value) × Nat) => match j with | ⟨xt_284, hh_285, o_286, cap_287, sp_288, n_289⟩ => [⟨some b_1, 27, [(.int .i16 f0.fSteps), (.slice C_a f0.fHammers.length C_c)]⟩, ⟨some b_2, 33, [(.int .i16 c2.fAway), (.int .i16 c2.fOctave), (.int .i16 c2.fStep)]⟩, ⟨(some b_12), 2, row encI64 ([t_1, t_3] : List Int) []⟩, ⟨o_23, 2, row encI64 t_5 sp_25⟩, ⟨some b_28, 141, [(.int .i16 f0.fSteps), (.slice C_a f0.fHammers.length C_c), (.slice D_a t1.length D_c), (.int .i16 c2.fAway), (.int .i16 c2.fOctave), (.int .i16 c2.fStep), (.slice (o_286.map fun b => ⟨b, 0, none⟩) n_289 cap_287), (.slice (o_23.map fun b => ⟨b, 0, none⟩) t_5.length cap_24), (.int .i64 budget3), (.int .i64 0), (.bool false), (.slice none 0 0), (.int .i64 (-1))]⟩, ⟨o_286, 35, row encHd hh_285 sp_288⟩, ⟨none, CLU, cluC encGChoice hh_285 xt_284⟩]) ?_ ?_)))))))))))))))
   ·refine jc_block ?_
    obtain ⟨t_11, ht_387, hr_364⟩ := bd h
    refine jc_loop (fun (s : (List (List GChoice)) × Int) (x : (List Hd) × (Option Nat) × Nat × (List Value) × Nat) => match s, x with | ⟨xt_355, i_9⟩, ⟨hh_356, o_357, cap_358, sp_359, n_360⟩ => (hh_356.length = n_360) ∧ ((o_357 ≠ none → n_360 ≤ cap_358 ∧ sp_359.length = (cap_358 - n_360) * 1)) ∧ ((o_357 = none → hh_356 = [] ∧ cap_358 = 0)) ∧ (InP hh_356 xt_355)) (fun (s : (List (List GChoice)) × Int) (x : (List Hd) × (Option Nat) × Nat × (List Value) × Nat) => match s, x with | ⟨xt_355, i_9⟩, ⟨hh_356, o_357, cap_358, sp_359, n_360⟩ => [(4, [], (.pointer (some ⟨b_1, 0, none⟩))), (6, [], (.pointer (some ⟨b_2, 0, none⟩))), (8, [], (.slice none 0 0)), (9, [], (.int .i64 0)), (10, [], (.int .i64 0)), (12, [], (.pointer (some ⟨b_28, 0, none⟩))), (38, [], (.slice D_a t1.length D_c)), (39, [], (.int .i64 (t1.length : Int))), (40, [], (.int .i64 i_9))]) (fun (s : (List (List GChoice)) × Int) (x : (List Hd) × (Option Nat) × Nat × (List Value) × Nat) => match s, x with | ⟨xt_355, i_9⟩, ⟨hh_356, o_357, cap_358, sp_359, n_360⟩ => [⟨some b_1, 27, [(.int .i16 f0.fSteps), (.slice C_a f0.fHammers.length C_c)]⟩, ⟨some b_2, 33, [(.int .i16 c2.fAway), (.int .i16 c2.fOctave), (.int .i16 c2.fStep)]⟩, ⟨(some b_12), 2, row encI64 ([t_1, t_3] : List Int) []⟩, ⟨o_23, 2, row encI64 t_5 sp_25⟩, ⟨some b_28, 141, [(.int .i16 f0.fSteps), (.slice C_a f0.fHammers.length C_c), (.slice D_a t1.length D_c), (.int .i16 c2.fAway), (.int .i16 c2.fOctave), (.int .i16 c2.fStep), (.slice (o_357.map fun b => ⟨b, 0, none⟩) n_360 cap_358), (.slice (o_23.map fun b => ⟨b, 0, none⟩) t_5.length cap_24), (.int .i64 budget3), (.int .i64 0), (.bool false), (.slice none 0 0), (.int .i64 (-1))]⟩, ⟨o_357, 35, row encHd hh_356 sp_359⟩, ⟨none, CLU, cluC encGChoice hh_356 xt_355⟩]) ht_387 ⟨([] : List Hd), (none : Option Nat), 0, [], 0⟩ ⟨rfl, (fun e => absurd rfl e), (fun _ => ⟨rfl, rfl⟩), InP.nil⟩ (by kernel_rfl) [0, 1, 2, 3, 4, 5, 6] (by kernel_rfl) (by kernel_rfl) ?_
    rintro ⟨xt_355, i_9⟩ ⟨hh_356, o_357, cap_358, sp_359, n_360⟩ y_365 ⟨rfl, hs_361, ho_362, hI_363⟩ h
    rw [impl_Arrange.l_10] at h
    refine jc_seq (jc_region (qh [0] (qe (jx_then (jc_seq (qi h (fun h => ?_) (fun h => ?_)))))))
    ·refine jc_skip (jx_then (jc_seq (jc_block (jc_seq (jc_region ?_)))))
     obtain ⟨x_12, hx_368, h⟩ := bd h
     refine tO (qx 0 D_a 2 hx_368 rfl (D_h.sp hx_368) (jkO (tO (ql 0 true (fun w hm => ((hm.xr D_h).at hx_368)) (jkO (tO (qa 0 (fun b_369 => jkO (tO (qs 0 [7] (jkO (qe (jx_then (jc_seq (jc_region (qh [0,7] ?_))))))))))))))))
     obtain ⟨t_13, ht_370, h⟩ := bd h
     refine tO (pc 0 (fun w hm => impl_Frame_choices.calls f0 x_12 w _ C_c (hm.xr C_h) rfl ht_370) ?_)
     rintro w v w' hm ⟨o_371, cap_372, sp_373, _, rfl, hs_374, ho_375, rfl, hm'⟩
     refine ⟨_, hm.app hm', jkO ?_⟩
     clear hm hm'
     refine qh [0] (qe (jx_then (jc_seq (jc_region (qh [0,0] ?_)))))
     obtain ⟨t_14, ht_376, h⟩ := bd h
     refine tO (pc 0 (fun w hm => slices_SortStableFunc_Choice_at_impl_Arrange_1.calls t_13 c2 w _ o_371 rfl hs_374 ho_375 b_2 (hm.pass (N := [⟨o_371, 104, row encGChoice t_13 sp_373⟩, ⟨some b_2, 33, [(.int .i16 c2.fAway), (.int .i16 c2.fOctave), (.int .i16 c2.fStep)]⟩]) [8, 1] (by kernel_rfl) (by kernel_rfl)) ht_376) ?_)
     rintro w v w' hm ⟨hn_377, ho_378, rfl, hm'⟩
     refine ⟨_, hm.appW (ps := [(8, ⟨o_371, 104, row encGChoice t_14 sp_373⟩), (1, ⟨some b_2, 33, [(.int .i16 c2.fAway), (.int .i16 c2.fOctave), (.int .i16 c2.fStep)]⟩)]) (N := []) hm' (by kernel_rfl) (by kernel_rfl), jkO ?_⟩
     clear hm hm'
     refine qe (jx_then (jc_region (qh [0,0,0,0,4,0] (tO (qa 0 (fun b_379 => jkO ?_))))))
     obtain ⟨hg_380, h⟩ := gd h
     exact tO (p_apn 0 5 o_357 35 hh_356.length 1 cap_358 1 24 (some ⟨b_379, 0, none⟩) encHd hh_356 [(Hd.mk (o_371.map fun b => ⟨b, 0, none⟩) t_13.length cap_372)] sp_359 (.slice none 0 0) rfl rfl (by kernel_rfl) (by kernel_rfl) (by kernel_rfl) encHd_len encHd_cell hs_361 ho_362 (fun w hm => (hm.ow 9 (some b_379) 35 ([(Hd.mk (o_371.map fun b => ⟨b, 0, none⟩) t_13.length cap_372)]) [] (fun e => nomatch e) encHd_len)) (tabbig hI_363 hg_380) (by kernel_rfl) (by kernel_rfl) (fun o_381 cap_382 sp_383 hs_384 ho_385 => jk_frz (enc := encGChoice) (hs := hh_356) (xss := xt_355) (o := o_371) (T := 104) (xs := t_14) (sp := sp_373) 6 8 t_13.length cap_372 hI_363 (jkO (qh [0,0] (tO (qs 0 [4] (jkO (qe (jx_inn (jx_then (jc_region (qh [0,0] (qe (qb ((xt_355 ++ [t_14]), (w64 (i_9 + 1))) ⟨(hh_356 ++ [(Hd.mk (o_371.map fun b => ⟨b, 0, none⟩) t_13.length cap_372)]), o_381, cap_382, sp_383, (hh_356 ++ [(Hd.mk (o_371.map fun b => ⟨b, 0, none⟩) t_13.length cap_372)]).length⟩ h ⟨rfl, hs_384, ho_385, (hI_363.snoc hn_377 (fun e => (ho_378 e).1))⟩ [0, 1, 2, 3, 4, 5, 6]))))))))))))))
    ·refine jc_exit (jx_thenx (jx_leave xt_355 (Option.some.inj h).symm (fun e_386 => ?_)))
     subst e_386
     exact jx_ine (qm ⟨xt_355, hh_356, o_357, cap_358, sp_359, hh_356.length⟩ ⟨hr_364, rfl, hs_361, ho_362, hI_363⟩ [0, 1, 2, 3, 4, 5, 6])
   ·rintro ⟨xt_284, hh_285, o_286, cap_287, sp_288, n_289⟩ ⟨h, rfl, hs_290, ho_291, hI_292⟩
    replace h : impl_Arrange.k_6 f0 t1 c2 budget3 t_5 xt_284 = some r := h
    rw [impl_Arrange.k_6] at h
    refine jx_then (jc_seq (jc_region (qh [0,0] ?_)))
    obtain ⟨t_7, ht_293, h⟩ := bd h
    refine tO (jp_ghost 104 encGChoice (pc 0 (fun w hm => impl_arranger_look.calls (⟨f0, t1, c2, xt_284, t_5, budget3, 0, false, ([] : List GChoice), (-1)⟩ : Garranger) (Arr.rep 96 0) [] 0 w _ C_c (hm.xr C_h) rfl D_c (hm.xr D_h) rfl cap_287 (hm.ow 5 o_286 35 hh_285 sp_288 (fun e => (ho_291 e).1) encHd_len) (hI_292.1.symm.trans rfl) cap_24 (hm.ow 3 o_23 2 t_5 sp_25 (fun e => (ho_27 e).1) encI64_len) rfl 0 rfl 0 Rw.nil rfl b_28 (hm.pass (N := [⟨some b_28, 141, [(.int .i16 f0.fSteps), (.slice C_a f0.fHammers.length C_c), (.slice D_a t1.length D_c), (.int .i16 c2.fAway), (.int .i16 c2.fOctave), (.int .i16 c2.fStep), (.slice (o_286.map fun b => ⟨b, 0, none⟩) hh_285.length cap_287), (.slice (o_23.map fun b => ⟨b, 0, none⟩) t_5.length cap_24), (.int .i64 budget3), (.int .i64 0), (.bool false), (.slice ((none : Option Nat).map fun b => ⟨b, 0, none⟩) 0 0), (.int .i64 (-1))]⟩]) [4] (by kernel_rfl) (by kernel_rfl)) (hm.exApart (N := [⟨some b_28, 141, [(.int .i16 f0.fSteps), (.slice C_a f0.fHammers.length C_c), (.slice D_a t1.length D_c), (.int .i16 c2.fAway), (.int .i16 c2.fOctave), (.int .i16 c2.fStep), (.slice (o_286.map fun b => ⟨b, 0, none⟩) hh_285.length cap_287), (.slice (o_23.map fun b => ⟨b, 0, none⟩) t_5.length cap_24), (.int .i64 budget3), (.int .i64 0), (.bool false), (.slice ((none : Option Nat).map fun b => ⟨b, 0, none⟩) 0 0), (.int .i64 (-1))]⟩]) C_h (fun _ => List.not_mem_nil) [4] (by kernel_rfl)) (hm.exApart (N := [⟨some b_28, 141, [(.int .i16 f0.fSteps), (.slice C_a f0.fHammers.length C_c), (.slice D_a t1.length D_c), (.int .i16 c2.fAway), (.int .i16 c2.fOctave), (.int .i16 c2.fStep), (.slice (o_286.map fun b => ⟨b, 0, none⟩) hh_285.length cap_287), (.slice (o_23.map fun b => ⟨b, 0, none⟩) t_5.length cap_24), (.int .i64 budget3), (.int .i64 0), (.bool false), (.slice ((none : Option Nat).map fun b => ⟨b, 0, none⟩) 0 0), (.int .i64 (-1))]⟩]) D_h (fun _ => List.not_mem_nil) [4] (by kernel_rfl)) (hm.ownApart (S := Hd) (N := [⟨some b_28, 141, [(.int .i16 f0.fSteps), (.slice C_a f0.fHammers.length C_c), (.slice D_a t1.length D_c), (.int .i16 c2.fAway), (.int .i16 c2.fOctave), (.int .i16 c2.fStep), (.slice (o_286.map fun b => ⟨b, 0, none⟩) hh_285.length cap_287), (.slice (o_23.map fun b => ⟨b, 0, none⟩) t_5.length cap_24), (.int .i64 budget3), (.int .i64 0), (.bool false), (.slice ((none : Option Nat).map fun b => ⟨b, 0, none⟩) 0 0), (.int .i64 (-1))]⟩]) (hh := 5) (o := o_286) (T := 35) (cs := row encHd hh_285 sp_288) (xs := hh_285) (by kernel_rfl) (fun e => (ho_291 e).1) [4] (by kernel_rfl) (by kernel_rfl)) (hm.cluPass (N := [⟨some b_28, 141, [(.int .i16 f0.fSteps), (.slice C_a f0.fHammers.length C_c), (.slice D_a t1.length D_c), (.int .i16 c2.fAway), (.int .i16 c2.fOctave), (.int .i16 c2.fStep), (.slice (o_286.map fun b => ⟨b, 0, none⟩) hh_285.length cap_287), (.slice (o_23.map fun b => ⟨b, 0, none⟩) t_5.length cap_24), (.int .i64 budget3), (.int .i64 0), (.bool false), (.slice ((none : Option Nat).map fun b => ⟨b, 0, none⟩) 0 0), (.int .i64 (-1))]⟩]) 6 hI_292 encGChoice_len [4]) (hm.ownApart (S := Int) (N := [⟨some b_28, 141, [(.int .i16 f0.fSteps), (.slice C_a f0.fHammers.length C_c), (.slice D_a t1.length D_c), (.int .i16 c2.fAway), (.int .i16 c2.fOctave), (.int .i16 c2.fStep), (.slice (o_286.map fun b => ⟨b, 0, none⟩) hh_285.length cap_287), (.slice (o_23.map fun b => ⟨b, 0, none⟩) t_5.length cap_24), (.int .i64 budget3), (.int .i64 0), (.bool false), (.slice ((none : Option Nat).map fun b => ⟨b, 0, none⟩) 0 0), (.int .i64 (-1))]⟩]) (hh := 3) (o := o_23) (T := 2) (cs := row encI64 t_5 sp_25) (xs := t_5) (by kernel_rfl) (fun e => (ho_27 e).1) [4] (by kernel_rfl) (by kernel_rfl)) (fun e => absurd rfl e) ht_293) ?_))
    rintro w v w' hm ⟨o_294, a_8, cap_295, sp_296, _, rfl, hl_297, rfl, hm'⟩
    obtain ⟨o_298, sp_299, hl_300, hM_301⟩ := Mem.ls2 (T := 104) (enc := encGChoice) (o1 := (none : Option Nat)) (sp1 := []) (xs1 := ([] : List GChoice)) (o := o_294) (sp := sp_296) (xs := t_7.fbest) (F := []) (hm.appW (ps := [(4, ⟨some b_28, 141, [(.int .i16 t_7.ff.fSteps), (.slice C_a f0.fHammers.length C_c), (.slice D_a t1.length D_c), (.int .i16 t_7.fc.fAway), (.int .i16 t_7.fc.fOctave), (.int .i16 t_7.fc.fStep), (.slice (o_286.map fun b => ⟨b, 0, none⟩) hh_285.length cap_287), (.slice (o_23.map fun b => ⟨b, 0, none⟩) t_5.length cap_24), (.int .i64 t_7.fbudget), (.int .i64 t_7.flooks), (.bool t_7.fover), (.slice a_8 t_7.fbest.length cap_295), (.int .i64 t_7.fleast)]⟩)]) (N := [⟨o_294, 104, row encGChoice t_7.fbest sp_296⟩]) hm' (by kernel_rfl) (by kernel_rfl)) 7 8 (by kernel_rfl) (by kernel_rfl) (by kernel_rfl) (lsO (fun e => absurd rfl e) (fun _ => ⟨rfl, rfl⟩)) rfl (.inr ⟨rfl, rfl, rfl⟩) rfl hl_297
    obtain ⟨rfl, hs_302, ho_303⟩ := hl_300.own
    refine ⟨_, Mem.pick hM_301 (N := [⟨some b_1, 27, [(.int .i16 f0.fSteps), (.slice C_a f0.fHammers.length C_c)]⟩, ⟨some b_2, 33, [(.int .i16 c2.fAway), (.int .i16 c2.fOctave), (.int .i16 c2.fStep)]⟩, ⟨(some b_12), 2, row encI64 ([t_1, t_3] : List Int) []⟩, ⟨o_23, 2, row encI64 t_5 sp_25⟩, ⟨some b_28, 141, [(.int .i16 t_7.ff.fSteps), (.slice C_a f0.fHammers.length C_c), (.slice D_a t1.length D_c), (.int .i16 t_7.fc.fAway), (.int .i16 t_7.fc.fOctave), (.int .i16 t_7.fc.fStep), (.slice (o_286.map fun b => ⟨b, 0, none⟩) hh_285.length cap_287), (.slice (o_23.map fun b => ⟨b, 0, none⟩) t_5.length cap_24), (.int .i64 t_7.fbudget), (.int .i64 t_7.flooks), (.bool t_7.fover), (.slice (o_298.map fun b => ⟨b, 0, none⟩) t_7.fbest.length cap_295), (.int .i64 t_7.fleast)]⟩, ⟨o_286, 35, row encHd hh_285 sp_288⟩, ⟨none, CLU, cluC encGChoice hh_285 xt_284⟩, ⟨o_298, 104, row encGChoice t_7.fbest sp_299⟩]) [0, 1, 2, 3, 4, 5, 6, 7] (by kernel_rfl) (by kernel_rfl), jkO ?_⟩
    clear hm hm' hM_301
    refine qe (jx_then (jc_seq (jc_seq (jc_region (qh [0,0,0,4] (qe (jx_then (qi h (fun h => ?_) (fun h => ?_)))))))))
    ·refine jc_seq (jc_region (qh [0,0,0] (qe (jx_then (jc_ret (jx_thenr ?_))))))
     obtain rfl := Option.some.inj h
     exact jx_ghost 104 encGChoice (qr [] (fun w hm => ⟨none, 0, [], 0, rfl, (fun e => absurd rfl e), (fun _ => ⟨rfl, rfl⟩), rfl, hm.pk [8]⟩))
    ·refine jc_skip (jx_then (jc_seq (qg [⟨some b_1, 27, [(.int .i16 f0.fSteps), (.slice C_a f0.fHammers.length C_c)]⟩, ⟨some b_2, 33, [(.int .i16 c2.fAway), (.int .i16 c2.fOctave), (.int .i16 c2.fStep)]⟩, ⟨(some b_12), 2, row encI64 ([t_1, t_3] : List Int) []⟩, ⟨o_23, 2, row encI64 t_5 sp_25⟩, ⟨some b_28, 141, [(.int .i16 t_7.ff.fSteps), (.slice C_a f0.fHammers.length C_c), (.slice D_a t1.length D_c), (.int .i16 t_7.fc.fAway), (.int .i16 t_7.fc.fOctave), (.int .i16 t_7.fc.fStep), (.slice (o_286.map fun b => ⟨b, 0, none⟩) hh_285.length cap_287), (.slice (o_23.map fun b => ⟨b, 0, none⟩) t_5.length cap_24), (.int .i64 t_7.fbudget), (.int .i64 t_7.flooks), (.bool t_7.fover), (.slice (o_298.map fun b => ⟨b, 0, none⟩) t_7.fbest.length cap_295), (.int .i64 t_7.fleast)]⟩, ⟨o_286, 35, row encHd hh_285 sp_288⟩, ⟨none, CLU, cluC encGChoice hh_285 xt_284⟩, ⟨o_298, 104, row encGChoice t_7.fbest sp_299⟩] 11 (qd [⟨0, 0, 0⟩,⟨1, 0, 0⟩,⟨2, 0, 0⟩,⟨3, 4, 0⟩,⟨4, 0, 0⟩,⟨5, 0, 0⟩,⟨6, 0, 0⟩,⟨7, 4, 0⟩,⟨8, 0, 0⟩,⟨9, 0, 0⟩,⟨10, 0, 0⟩] 0 [0, 1, 2, 3, 4, 5, 6, 7] (qz (jx_then (jc_ret ?_)))))))
     obtain rfl := Option.some.inj h
     exact qr [] (fun w hm => ⟨o_298, cap_295, sp_299, t_7.fbest.length, rfl, hs_302, ho_303, rfl, hm.pk [7]⟩)
/-! ### spec.l00In -/
def spec_l00In (n0 : Int) (low1 : Int) (high2 : Int) : Option (Bool) := some ((decide (n0 ≥ low1)) && (decide (n0 ≤ high2)))
theorem spec_l00In.calls (n0 : Int) (low1 : Int) (high2 : Int) (w : World) (r : Bool) (h : spec_l00In n0 low1 high2 = some r) :
    Calls Tryz.prog 139 #[(.int .i64 n0), (.int .i64 low1), (.int .i64 high2)] w fun e w' => ∃ v, e = .returned v ∧ (v = (.bool r) ∧ Mem w [] [] w') := by
  rw [spec_l00In] at h
  refine enter (args := [(.int .i64 n0), (.int .i64 low1), (.int .i64 high2)]) Tryz.func139 rfl Tryz.ntmps139 (by kernel_rfl) (L := []) (W := []) (Mem.start w) ?_
  refine jc_seq (jc_region (qh [0] (qe (jx_then (jc_seq (jc_region (qf [(0, 0), (0, 0), (0, 0), (0, 0), (0, 1), (0, 1), (0, 1), (0, 0), (0, 0)] (qe (jx_then (jc_ret ?_))))))))))
  obtain rfl := Option.some.inj h
  exact qr [] (fun w hm => ⟨rfl, hm.pk []⟩)
/-! ### spec.l00Min -/
def spec_l00Min (a0 : Int) (b1 : Int) : Option (Int) := (if (decide (a0 < b1)) = true then some a0 else some b1)
theorem spec_l00Min.calls (a0 : Int) (b1 : Int) (w : World) (r : Int) (h : spec_l00Min a0 b1 = some r) :
    Calls Tryz.prog 175 #[(.int .i64 a0), (.int .i64 b1)] w fun e w' => ∃ v, e = .returned v ∧ (v = (.int .i64 r) ∧ Mem w [] [] w') := by
  rw [spec_l00Min] at h
  refine enter (args := [(.int .i64 a0), (.int .i64 b1)]) Tryz.func175 rfl Tryz.ntmps175 (by kernel_rfl) (L := []) (W := []) (Mem.start w) ?_
  refine jc_seq (jc_region (qh [0] (qe (jx_then (jc_seq (jc_seq (jc_region (qh [0,0,0] (qe (jx_then (qi h (fun h => ?_) (fun h => ?_))))))))))))
  ·refine jc_seq (jc_region (qh [0,0] (qe (jx_then (jc_ret (jx_thenr ?_))))))
   obtain rfl := Option.some.inj h
   exact qr [] (fun w hm => ⟨rfl, hm.pk []⟩)
  ·refine jc_skip (jx_then (jc_seq (jc_region (qh [0,0] (qe (jx_then (jc_ret ?_)))))))
   obtain rfl := Option.some.inj h
   exact qr [] (fun w hm => ⟨rfl, hm.pk []⟩)
/-! ### spec.l02Frame -/
def spec_l02Frame.k_3 : Option (Bool) := some true
def spec_l02Frame.k_9 (i_4 : Int) (q_8 : Bool) : Option ((Int) ⊕ (Bool ⊕ Unit)) := (if q_8 = true then some (.inr (.inl false)) else some (.inl (w64 (i_4 + 1))))
def spec_l02Frame.l_5 (f0 : GFrame) : Int → Option ((Int) ⊕ (Bool ⊕ Unit))
  | i_4 => (if (decide (i_4 < (f0.fHammers.length : Int))) = true then (ix f0.fHammers i_4).bind fun x_7 => (spec_l00In (w64 x_7.fPitch) 0 47).bind fun t_10 => (if (!t_10) = true then spec_l02Frame.k_9 i_4 true else (spec_l00Min 20 (w64 f0.fSteps)).bind fun t_11 => (spec_l00In (w64 x_7.fReady) 1 t_11).bind fun t_12 => spec_l02Frame.k_9 i_4 (!t_12)) else some (.inr (.inr ())))
def spec_l02Frame.k_2 (f0 : GFrame) (q_1 : Bool) : Option (Bool) := (if q_1 = true then some false else (loop (spec_l02Frame.l_5 f0) 0).bind fun t_6 => match t_6 with | .inl p => some p | .inr p => spec_l02Frame.k_3)
def spec_l02Frame (f0 : GFrame) : Option (Bool) := (spec_l00In (w64 f0.fSteps) 2 96).bind fun t_13 => (if (!t_13) = true then spec_l02Frame.k_2 f0 true else (spec_l00In (f0.fHammers.length : Int) 1 24).bind fun t_14 => spec_l02Frame.k_2 f0 (!t_14))
theorem spec_l02Frame.calls (f0 : GFrame) (w : World) (r : Bool) {C_a : Option Addr} {C_an : Nat} (C_c : Nat) (C_h : Rw w C_a 2 encGHammer f0.fHammers) (C_hn : f0.fHammers.length = C_an) (A_b : Nat) (hm0 : Mem w (bs [some A_b]) [⟨some A_b, 27, [(.int .i16 f0.fSteps), (.slice C_a C_an C_c)]⟩] w) (C_ha : f0.fHammers ≠ [] → aB C_a ∉ bs [some A_b]) (h : spec_l02Frame f0 = some r) :
    Calls Tryz.prog 135 #[(.pointer (some ⟨A_b, 0, none⟩))] w fun e w' => ∃ v, e = .returned v ∧ (v = (.bool r) ∧ Mem w (bs [some A_b]) [⟨some A_b, 27, [(.int .i16 f0.fSteps), (.slice C_a C_an C_c)]⟩] w') := by
  subst C_hn
  rw [spec_l02Frame] at h
  refine enter (args := [(.pointer (some ⟨A_b, 0, none⟩))]) Tryz.func135 rfl Tryz.ntmps135 (by kernel_rfl) (L := [⟨some A_b, 27, [(.int .i16 f0.fSteps), (.slice C_a f0.fHammers.length C_c)]⟩]) (W := bs [some A_b]) hm0 ?_
  refine jc_seq (jc_region (qh [0] (qe (jx_then (jc_seq (jc_seq (jc_meet (fun (j : Bool) => match j with | q_1 => spec_l02Frame.k_2 f0 q_1 = some r) (fun (j : Bool) => match j with | q_1 => [(0, [], (.pointer (some ⟨A_b, 0, none⟩))), (2, [], (.bool false)), (20, [], (.bool q_1))]) (fun (j : Bool) => match j with | q_1 => [⟨some A_b, 27, [(.int .i16 f0.fSteps), (.slice C_a f0.fHammers.length C_c)]⟩]) ?_ ?_)))))))
  ·refine jc_region (qh [0,0,0,0,0] ?_)
   obtain ⟨t_13, ht_100, h⟩ := bd h
   refine tO (pc 0 (fun w hm => spec_l00In.calls (w64 f0.fSteps) 2 96 w _ ht_100) ?_)
   rintro w v w' hm ⟨rfl, hm'⟩
   refine ⟨_, hm.app hm', jkO ?_⟩
   clear hm hm'
   refine qf [(0, 0), (0, 0), (0, 1), (0, 1), (0, 1), (0, 1), (0, 1)] (qp 12 h (fun h => ?_) (fun h => ?_))
   ·exact qf [(0, 3), (0, 3), (0, 4)] (qe (qm true h [0]))
   ·obtain ⟨t_14, ht_102, h⟩ := bd h
    refine tO (pc 2 (fun w hm => spec_l00In.calls (f0.fHammers.length : Int) 1 24 w _ ht_102) ?_)
    rintro w v w' hm ⟨rfl, hm'⟩
    refine ⟨_, hm.app hm', jkO ?_⟩
    clear hm hm'
    exact qf [(0, 2), (0, 5)] (qe (qm (!t_14) h [0]))
  ·rintro q_1 h
   replace h : spec_l02Frame.k_2 f0 q_1 = some r := h
   rw [spec_l02Frame.k_2] at h
   refine jx_then (qi h (fun h => ?_) (fun h => ?_))
   ·refine jc_seq (jc_region (qh [0] (qe (jx_then (jc_ret (jx_thenr ?_))))))
    obtain rfl := Option.some.inj h
    exact qr [] (fun w hm => ⟨rfl, hm.pk [0]⟩)
   ·refine jc_skip (jx_then (jc_seq (jc_seq (jc_region (qh [0] (qe (jx_then (jc_meet (fun (_ : Unit) => spec_l02Frame.k_3 = some r) (fun (_ : Unit) => [(2, [], (.bool false))]) (fun (_ : Unit) => [⟨some A_b, 27, [(.int .i16 f0.fSteps), (.slice C_a f0.fHammers.length C_c)]⟩]) ?_ ?_))))))))
    ·refine jc_block ?_
     obtain ⟨t_6, ht_99, hr_82⟩ := bd h
     refine jc_loop (fun (s : Int) (x : Unit) => match s, x with | i_4, _ => True) (fun (s : Int) (x : Unit) => match s, x with | i_4, _ => [(0, [], (.pointer (some ⟨A_b, 0, none⟩))), (2, [], (.bool false)), (3, [], (.int .i64 i_4))]) (fun (s : Int) (x : Unit) => match s, x with | i_4, _ => [⟨some A_b, 27, [(.int .i16 f0.fSteps), (.slice C_a f0.fHammers.length C_c)]⟩]) ht_99 () trivial (by kernel_rfl) [0] (by kernel_rfl) (by kernel_rfl) ?_
     rintro i_4 _ y_83 _ h
     rw [spec_l02Frame.l_5] at h
     refine jc_seq (jc_seq (jc_region (qh [0,0,0,0,0,0,0] (qe (jx_then (qi h (fun h => ?_) (fun h => ?_)))))))
     ·refine jc_skip (jx_then (jc_seq (jc_block (jc_seq (jc_region (qh [0,0,0,0,0] ?_))))))
      obtain ⟨x_7, hx_86, h⟩ := bd h
      refine tO (qx 0 C_a 2 hx_86 rfl (C_h.sp hx_86) (jkO (tO (ql 0 true (fun w hm => ((hm.exRowW C_h C_ha).at hx_86)) (jkO (tO (qa 0 (fun b_87 => jkO (tO (qs 0 [1] (jkO (qe (jx_then (jc_seq (jc_meet (fun (j : Bool) => match j with | q_8 => spec_l02Frame.k_9 i_4 q_8 = some y_83) (fun (j : Bool) => match j with | q_8 => [(0, [], (.pointer (some ⟨A_b, 0, none⟩))), (2, [], (.bool false)), (3, [], (.int .i64 i_4)), (54, [], (.bool q_8))]) (fun (j : Bool) => match j with | q_8 => [⟨some A_b, 27, [(.int .i16 f0.fSteps), (.slice C_a f0.fHammers.length C_c)]⟩, ⟨some b_87, 132, [(.int .i8 x_7.fPitch), (.int .i8 x_7.fReady)]⟩]) ?_ ?_)))))))))))))))
      ·refine qg [⟨some A_b, 27, [(.int .i16 f0.fSteps), (.slice C_a f0.fHammers.length C_c)]⟩, ⟨some b_87, 132, [(.int .i8 x_7.fPitch), (.int .i8 x_7.fReady)]⟩] 18 (qd [⟨0, 0, 0⟩,⟨1, 1, 0⟩,⟨2, 0, 0⟩] 15 [0, 1] ?_)
       obtain ⟨t_10, ht_94, h⟩ := bd h
       refine tD 3 (pc 0 (fun w hm => spec_l00In.calls (w64 x_7.fPitch) 0 47 w _ ht_94) ?_)
       rintro w v w' hm ⟨rfl, hm'⟩
       refine ⟨_, hm.app hm', kD [0, 1] ?_⟩
       clear hm hm'
       refine qd [⟨4, 0, 0⟩,⟨5, 0, 0⟩,⟨6, 0, 1⟩,⟨7, 1, 1⟩,⟨8, 0, 1⟩,⟨9, 0, 1⟩,⟨10, 0, 1⟩,⟨11, 0, 1⟩,⟨12, 0, 1⟩,⟨13, 0, 1⟩] 4 [0, 1] (jd_split 42 (!t_10) (by kernel_rfl) (fun hc_95 => ?_) (fun hc_95 => ?_))
       ·replace h := ifT hc_95 h
        exact qd [⟨14, 0, 3⟩,⟨15, 0, 3⟩,⟨16, 0, 3⟩,⟨17, 0, 4⟩] 0 [0, 1] (qz (qm true h [0, 1]))
       ·replace h := ifF hc_95 h
        obtain ⟨t_11, ht_96, h⟩ := bd h
        refine tD 14 (pc 2 (fun w hm => spec_l00Min.calls 20 (w64 f0.fSteps) w _ ht_96) ?_)
        rintro w v w' hm ⟨rfl, hm'⟩
        refine ⟨_, hm.app hm', kD [0, 1] ?_⟩
        clear hm hm'
        obtain ⟨t_12, ht_97, h⟩ := bd h
        refine tD 15 (pc 2 (fun w hm => spec_l00In.calls (w64 x_7.fReady) 1 t_11 w _ ht_97) ?_)
        rintro w v w' hm ⟨rfl, hm'⟩
        refine ⟨_, hm.app hm', kD [0, 1] ?_⟩
        clear hm hm'
        exact qd [⟨16, 0, 2⟩,⟨17, 0, 5⟩] 0 [0, 1] (qz (qm (!t_12) h [0, 1]))
      ·rintro q_8 h
       replace h : spec_l02Frame.k_9 i_4 q_8 = some y_83 := h
       rw [spec_l02Frame.k_9] at h
       refine jx_then (qi h (fun h => ?_) (fun h => ?_))
       ·refine jc_seq (jc_region (qh [0] (qe (jx_then (jc_ret (jx_inr (jx_thenr (jx_leaver (.inl false) (Option.some.inj h).symm (fun e_93 => ?_)))))))))
        subst e_93
        refine jx_inr (jx_thenr (jx_thenr ?_))
        obtain rfl := Option.some.inj hr_82
        exact qr [] (fun w hm => ⟨rfl, hm.pk [0]⟩)
       ·exact jc_skip (jx_inn (jx_then (jc_region (qh [0,0,0] (qe (qb (w64 (i_4 + 1)) () h trivial [0]))))))
     ·refine jc_exit (jx_thenx (jx_leave (.inr ()) (Option.some.inj h).symm (fun e_98 => ?_)))
      subst e_98
      exact jx_ine (qm () hr_82 [0])
    ·rintro _ h
     replace h : spec_l02Frame.k_3 = some r := h
     rw [spec_l02Frame.k_3] at h
     refine jx_then (jc_seq (jc_region (qh [0] (qe (jx_then (jc_ret ?_))))))
     obtain rfl := Option.some.inj h
     exact qr [] (fun w hm => ⟨rfl, hm.pk [0]⟩)
/-! ### spec.l01Note -/
def spec_l01Note (n0 : GNote) : Option (Bool) := (spec_l00In (w64 n0.fAt) 0 199).bind fun t_1 => (if t_1 = true then (spec_l00In (w64 n0.fPitch) 0 47).bind fun t_2 => some t_2 else some false)
theorem spec_l01Note.calls (n0 : GNote) (w : World) (r : Bool) (h : spec_l01Note n0 = some r) :
    Calls Tryz.prog 195 #[(.agg #[(.int .i16 n0.fAt), (.int .i8 n0.fPitch)])] w fun e w' => ∃ v, e = .returned v ∧ (v = (.bool r) ∧ Mem w [] [] w') := by
  rw [spec_l01Note] at h
  refine enter (args := [(.agg #[(.int .i16 n0.fAt), (.int .i8 n0.fPitch)])]) Tryz.func195 rfl Tryz.ntmps195 (by kernel_rfl) (L := []) (W := []) (Mem.start w) ?_
  refine jc_seq (jc_region (tO (qa 0 (fun b_1 => jkO (qh [0] (qe (jx_then (jc_seq (jc_region (qh [0,0,0] ?_))))))))))
  obtain ⟨t_1, ht_2, h⟩ := bd h
  refine tO (pc 0 (fun w hm => spec_l00In.calls (w64 n0.fAt) 0 199 w _ ht_2) ?_)
  rintro w v w' hm ⟨rfl, hm'⟩
  refine ⟨_, hm.app hm', jkO ?_⟩
  clear hm hm'
  refine qf [(0, 0), (0, 1), (0, 1), (0, 1)] (qp 7 h (fun h => ?_) (fun h => ?_))
  ·obtain ⟨t_2, ht_4, h⟩ := bd h
   refine tO (pc 2 (fun w hm => spec_l00In.calls (w64 n0.fPitch) 0 47 w _ ht_4) ?_)
   rintro w v w' hm ⟨rfl, hm'⟩
   refine ⟨_, hm.app hm', jkO ?_⟩
   clear hm hm'
   refine qf [(0, 4), (0, 0)] (qe (jx_then (jc_ret ?_)))
   obtain rfl := Option.some.inj h
   exact qr [] (fun w hm => ⟨rfl, hm.pk []⟩)
  ·refine qf [(0, 3), (0, 5), (0, 0)] (qe (jx_then (jc_ret ?_)))
   obtain rfl := Option.some.inj h
   exact qr [] (fun w hm => ⟨rfl, hm.pk []⟩)
/-! ### spec.l01Ok -/
def spec_l01Ok.k_1 (t0 : List GNote) : Option (Bool) := some (decide ((t0.length : Int) ≤ 120))
def spec_l01Ok.k_6 (i_2 : Int) (q_5 : Bool) : Option ((Int) ⊕ (Bool ⊕ Unit)) := (if q_5 = true then some (.inr (.inl false)) else some (.inl (w64 (i_2 + 1))))
def spec_l01Ok.l_3 (t0 : List GNote) : Int → Option ((Int) ⊕ (Bool ⊕ Unit))
  | i_2 => (if (decide (i_2 < (t0.length : Int))) = true then (ix t0 i_2).bind fun x_7 => (spec_l01Note x_7).bind fun t_8 => (if (!t_8) = true then spec_l01Ok.k_6 i_2 true else (if (decide (i_2 > 0)) = true then (ix t0 (w64 (i_2 - 1))).bind fun x_9 => (ix t0 i_2).bind fun x_10 => (spec_l01Before x_9 x_10).bind fun t_11 => spec_l01Ok.k_6 i_2 (!t_11) else spec_l01Ok.k_6 i_2 false)) else some (.inr (.inr ())))
def spec_l01Ok (t0 : List GNote) : Option (Bool) := (loop (spec_l01Ok.l_3 t0) 0).bind fun t_4 => match t_4 with | .inl p => some p | .inr p => spec_l01Ok.k_1 t0
theorem spec_l01Ok.calls (t0 : List GNote) (w : World) (r : Bool) {A_a : Option Addr} {A_an : Nat} (A_c : Nat) (A_h : Rw w A_a 2 encGNote t0) (A_hn : t0.length = A_an) (h : spec_l01Ok t0 = some r) :
    Calls Tryz.prog 136 #[(.slice A_a A_an A_c)] w fun e w' => ∃ v, e = .returned v ∧ (v = (.bool r) ∧ Mem w [] [] w') := by
  subst A_hn
  rw [spec_l01Ok] at h
  refine enter (args := [(.slice A_a t0.length A_c)]) Tryz.func136 rfl Tryz.ntmps136 (by kernel_rfl) (L := []) (W := []) (Mem.start w) ?_
  refine jc_seq (jc_region (qh [0] (qe (jx_then (jc_seq (jc_seq (jc_region (qh [0] (qe (jx_then (jc_meet (fun (_ : Unit) => spec_l01Ok.k_1 t0 = some r) (fun (_ : Unit) => [(0, [], (.slice A_a t0.length A_c)), (2, [], (.bool false))]) (fun (_ : Unit) => []) ?_ ?_)))))))))))
  ·refine jc_block ?_
   obtain ⟨t_4, ht_224, hr_203⟩ := bd h
   refine jc_loop (fun (s : Int) (x : Unit) => match s, x with | i_2, _ => True) (fun (s : Int) (x : Unit) => match s, x with | i_2, _ => [(0, [], (.slice A_a t0.length A_c)), (2, [], (.bool false)), (3, [], (.int .i64 i_2))]) (fun (s : Int) (x : Unit) => match s, x with | i_2, _ => []) ht_224 () trivial (by kernel_rfl) [] (by kernel_rfl) (by kernel_rfl) ?_
   rintro i_2 _ y_204 _ h
   rw [spec_l01Ok.l_3] at h
   refine jc_seq (jc_seq (jc_region (qh [0,0,0,0] (qe (jx_then (qi h (fun h => ?_) (fun h => ?_)))))))
   ·refine jc_skip (jx_then (jc_seq (jc_block (jc_seq (jc_meet (fun (j : Bool) => match j with | q_5 => spec_l01Ok.k_6 i_2 q_5 = some y_204) (fun (j : Bool) => match j with | q_5 => [(0, [], (.slice A_a t0.length A_c)), (2, [], (.bool false)), (3, [], (.int .i64 i_2)), (32, [], (.bool q_5))]) (fun (j : Bool) => match j with | q_5 => []) ?_ ?_)))))
    ·refine qg [] 23 (qd [⟨0, 0, 0⟩,⟨1, 0, 0⟩] 21 [] ?_)
     obtain ⟨x_7, hx_216, h⟩ := bd h
     refine qv 2 0 [] (fun w hm => idx_run (a := A_a) (len := t0.length) (s := 2) (j := i_2) (by kernel_rfl) (ix_some hx_216).1 (ltn hx_216 rfl) (A_h.sp hx_216)) (qv 3 0 [] (fun w hm => ld_run (b := aB A_a) (off := (aO A_a + i_2.toNat * 2)) (s := 2) (agg := true) (vs := (encGNote x_7)) (by kernel_rfl) (by kernel_rfl) (.inl rfl) ((hm.xr A_h).at hx_216)) ?_)
     obtain ⟨t_8, ht_217, h⟩ := bd h
     refine tD 4 (pc 0 (fun w hm => spec_l01Note.calls x_7 w _ ht_217) ?_)
     rintro w v w' hm ⟨rfl, hm'⟩
     refine ⟨_, hm.app hm', kD [] ?_⟩
     clear hm hm'
     refine qd [⟨5, 0, 0⟩,⟨6, 0, 0⟩,⟨7, 0, 1⟩,⟨8, 0, 1⟩] 14 [] (jd_split 16 (!t_8) (by kernel_rfl) (fun hc_218 => ?_) (fun hc_218 => ?_))
     ·replace h := ifT hc_218 h
      exact qd [⟨9, 0, 3⟩,⟨10, 0, 3⟩,⟨11, 0, 3⟩,⟨12, 0, 3⟩,⟨13, 0, 3⟩,⟨14, 0, 3⟩,⟨15, 0, 3⟩,⟨16, 0, 3⟩,⟨17, 0, 3⟩,⟨18, 0, 3⟩,⟨19, 0, 3⟩,⟨20, 0, 3⟩,⟨21, 0, 3⟩,⟨22, 0, 4⟩] 0 [] (qz (qm true h []))
     ·replace h := ifF hc_218 h
      refine qd [⟨9, 0, 2⟩,⟨10, 0, 1⟩,⟨11, 0, 1⟩,⟨12, 0, 1⟩,⟨15, 0, 1⟩,⟨16, 0, 1⟩] 8 [] (jd_split 19 (decide (i_2 > 0)) (by kernel_rfl) (fun hc_219 => ?_) (fun hc_219 => ?_))
      ·replace h := ifT hc_219 h
       obtain ⟨x_9, hx_220, h⟩ := bd h
       refine qv 13 2 [] (fun w hm => idx_run (a := A_a) (len := t0.length) (s := 2) (j := (w64 (i_2 - 1))) (by kernel_rfl) (ix_some hx_220).1 (ltn hx_220 rfl) (A_h.sp hx_220)) (qv 14 2 [] (fun w hm => ld_run (b := aB A_a) (off := (aO A_a + (w64 (i_2 - 1)).toNat * 2)) (s := 2) (agg := true) (vs := (encGNote x_9)) (by kernel_rfl) (by kernel_rfl) (.inl rfl) ((hm.xr A_h).at hx_220)) ?_)
       obtain ⟨x_10, hx_221, h⟩ := bd h
       refine qv 17 2 [] (fun w hm => idx_run (a := A_a) (len := t0.length) (s := 2) (j := i_2) (by kernel_rfl) (ix_some hx_221).1 (ltn hx_221 rfl) (A_h.sp hx_221)) (qv 18 2 [] (fun w hm => ld_run (b := aB A_a) (off := (aO A_a + i_2.toNat * 2)) (s := 2) (agg := true) (vs := (encGNote x_10)) (by kernel_rfl) (by kernel_rfl) (.inl rfl) ((hm.xr A_h).at hx_221)) ?_)
       obtain ⟨t_11, ht_222, h⟩ := bd h
       refine tD 19 (pc 2 (fun w hm => spec_l01Before.calls x_9 x_10 w _ ht_222) ?_)
       rintro w v w' hm ⟨rfl, hm'⟩
       refine ⟨_, hm.app hm', kD [] ?_⟩
       clear hm hm'
       exact qd [⟨20, 0, 2⟩,⟨21, 0, 4⟩,⟨22, 0, 5⟩] 0 [] (qz (qm (!t_11) h []))
      ·replace h := ifF hc_219 h
       exact qd [⟨13, 0, 3⟩,⟨14, 0, 3⟩,⟨17, 0, 3⟩,⟨18, 0, 3⟩,⟨19, 0, 3⟩,⟨20, 0, 3⟩,⟨21, 0, 5⟩,⟨22, 0, 5⟩] 0 [] (qz (qm false h []))
    ·rintro q_5 h
     replace h : spec_l01Ok.k_6 i_2 q_5 = some y_204 := h
     rw [spec_l01Ok.k_6] at h
     refine jx_then (qi h (fun h => ?_) (fun h => ?_))
     ·refine jc_seq (jc_region (qh [0] (qe (jx_then (jc_ret (jx_inr (jx_thenr (jx_leaver (.inl false) (Option.some.inj h).symm (fun e_215 => ?_)))))))))
      subst e_215
      refine jx_inr (jx_thenr (jx_thenr ?_))
      obtain rfl := Option.some.inj hr_203
      exact qr [] (fun w hm => ⟨rfl, hm.pk []⟩)
     ·exact jc_skip (jx_inn (jx_then (jc_region (qh [0,0,0] (qe (qb (w64 (i_2 + 1)) () h trivial []))))))
   ·refine jc_exit (jx_thenx (jx_leave (.inr ()) (Option.some.inj h).symm (fun e_223 => ?_)))
    subst e_223
    exact jx_ine (qm () hr_203 [])
  ·rintro _ h
   replace h : spec_l01Ok.k_1 t0 = some r := h
   rw [spec_l01Ok.k_1] at h
   refine jx_then (jc_seq (jc_region (qh [0,0,0,0] (qe (jx_then (jc_ret ?_))))))
   obtain rfl := Option.some.inj h
   exact qr [] (fun w hm => ⟨rfl, hm.pk []⟩)
/-! ### spec.l07Costs -/
def spec_l07Costs (c0 : GCosts) : Option (Bool) := (spec_l00In (w64 c0.fAway) 0 1000).bind fun t_1 => (if t_1 = true then (spec_l00In (w64 c0.fOctave) 0 1000).bind fun t_2 => (if t_2 = true then (spec_l00In (w64 c0.fStep) 0 1000).bind fun t_3 => some t_3 else some false) else some false)
theorem spec_l07Costs.calls (c0 : GCosts) (w : World) (r : Bool) (h : spec_l07Costs c0 = some r) :
    Calls Tryz.prog 137 #[(.agg #[(.int .i16 c0.fAway), (.int .i16 c0.fOctave), (.int .i16 c0.fStep)])] w fun e w' => ∃ v, e = .returned v ∧ (v = (.bool r) ∧ Mem w [] [] w') := by
  rw [spec_l07Costs] at h
  refine enter (args := [(.agg #[(.int .i16 c0.fAway), (.int .i16 c0.fOctave), (.int .i16 c0.fStep)])]) Tryz.func137 rfl Tryz.ntmps137 (by kernel_rfl) (L := []) (W := []) (Mem.start w) ?_
  refine jc_seq (jc_region (tO (qa 0 (fun b_1 => jkO (qh [0] (qe (jx_then (jc_seq (jc_region (qh [0,0,0] ?_))))))))))
  obtain ⟨t_1, ht_2, h⟩ := bd h
  refine tO (pc 0 (fun w hm => spec_l00In.calls (w64 c0.fAway) 0 1000 w _ ht_2) ?_)
  rintro w v w' hm ⟨rfl, hm'⟩
  refine ⟨_, hm.app hm', jkO ?_⟩
  clear hm hm'
  refine qf [(0, 0), (0, 1), (0, 1), (0, 1)] (qp 7 h (fun h => ?_) (fun h => ?_))
  ·obtain ⟨t_2, ht_4, h⟩ := bd h
   refine tO (pc 2 (fun w hm => spec_l00In.calls (w64 c0.fOctave) 0 1000 w _ ht_4) ?_)
   rintro w v w' hm ⟨rfl, hm'⟩
   refine ⟨_, hm.app hm', jkO ?_⟩
   clear hm hm'
   refine qf [(0, 4), (0, 0), (0, 1), (0, 1), (0, 1)] (qp 13 h (fun h => ?_) (fun h => ?_))
   ·obtain ⟨t_3, ht_6, h⟩ := bd h
    refine tO (pc 2 (fun w hm => spec_l00In.calls (w64 c0.fStep) 0 1000 w _ ht_6) ?_)
    rintro w v w' hm ⟨rfl, hm'⟩
    refine ⟨_, hm.app hm', jkO ?_⟩
    clear hm hm'
    refine qf [(0, 4), (0, 0)] (qe (jx_then (jc_ret ?_)))
    obtain rfl := Option.some.inj h
    exact qr [] (fun w hm => ⟨rfl, hm.pk []⟩)
   ·refine qf [(0, 3), (0, 5), (0, 0)] (qe (jx_then (jc_ret ?_)))
    obtain rfl := Option.some.inj h
    exact qr [] (fun w hm => ⟨rfl, hm.pk []⟩)
  ·refine qf [(0, 3), (0, 5), (0, 0), (0, 3), (0, 3), (0, 3), (0, 3), (0, 5), (0, 0)] (qe (jx_then (jc_ret ?_)))
   obtain rfl := Option.some.inj h
   exact qr [] (fun w hm => ⟨rfl, hm.pk []⟩)
/-! ### spec.l07Given -/
def spec_l07Given.k_2 (q_1 : Bool) : Option (Int) := (if q_1 = true then some 1 else some 0)
def spec_l07Given (f0 : GFrame) (t1 : List GNote) (c2 : GCosts) : Option (Int) := (spec_l02Frame f0).bind fun t_3 => (if (!t_3) = true then spec_l07Given.k_2 true else (spec_l01Ok t1).bind fun t_4 => (if (!t_4) = true then spec_l07Given.k_2 true else (spec_l07Costs c2).bind fun t_5 => spec_l07Given.k_2 (!t_5)))
theorem spec_l07Given.calls (f0 : GFrame) (t1 : List GNote) (c2 : GCosts) (w : World) (r : Int) {C_a : Option Addr} {C_an : Nat} (C_c : Nat) (C_h : Rw w C_a 2 encGHammer f0.fHammers) (C_hn : f0.fHammers.length = C_an) {D_a : Option Addr} {D_an : Nat} (D_c : Nat) (D_h : Rw w D_a 2 encGNote t1) (D_hn : t1.length = D_an) (A_b : Nat) (hm0 : Mem w (bs [some A_b]) [⟨some A_b, 27, [(.int .i16 f0.fSteps), (.slice C_a C_an C_c)]⟩] w) (C_ha : f0.fHammers ≠ [] → aB C_a ∉ bs [some A_b]) (D_ha : t1 ≠ [] → aB D_a ∉ bs [some A_b]) (h : spec_l07Given f0 t1 c2 = some r) :
    Calls Tryz.prog 69 #[(.pointer (some ⟨A_b, 0, none⟩)), (.slice D_a D_an D_c), (.agg #[(.int .i16 c2.fAway), (.int .i16 c2.fOctave), (.int .i16 c2.fStep)])] w fun e w' => ∃ v, e = .returned v ∧ (v = (.int .i64 r) ∧ Mem w (bs [some A_b]) [⟨some A_b, 27, [(.int .i16 f0.fSteps), (.slice C_a C_an C_c)]⟩] w') := by
  subst C_hn D_hn
  rw [spec_l07Given] at h
  refine enter (args := [(.pointer (some ⟨A_b, 0, none⟩)), (.slice D_a t1.length D_c), (.agg #[(.int .i16 c2.fAway), (.int .i16 c2.fOctave), (.int .i16 c2.fStep)])]) Tryz.func69 rfl Tryz.ntmps69 (by kernel_rfl) (L := [⟨some A_b, 27, [(.int .i16 f0.fSteps), (.slice C_a f0.fHammers.length C_c)]⟩]) (W := bs [some A_b]) hm0 ?_
  refine jc_seq (jc_region (tO (qa 0 (fun b_1 => jkO (qh [0] (qe (jx_then (jc_seq (jc_seq (jc_meet (fun (j : Bool) => match j with | q_1 => spec_l07Given.k_2 q_1 = some r) (fun (j : Bool) => match j with | q_1 => [(6, [], (.int .i64 0)), (19, [], (.bool q_1))]) (fun (j : Bool) => match j with | q_1 => [⟨some A_b, 27, [(.int .i16 f0.fSteps), (.slice C_a f0.fHammers.length C_c)]⟩, ⟨some b_1, 33, [(.int .i16 c2.fAway), (.int .i16 c2.fOctave), (.int .i16 c2.fStep)]⟩]) ?_ ?_))))))))))
  ·refine jc_region (qh [0] ?_)
   obtain ⟨t_3, ht_8, h⟩ := bd h
   refine tO (pc 0 (fun w hm => spec_l02Frame.calls f0 w _ C_c (hm.exRowW C_h C_ha) rfl A_b (hm.pass (N := [⟨some A_b, 27, [(.int .i16 f0.fSteps), (.slice C_a f0.fHammers.length C_c)]⟩]) [0] (by kernel_rfl) (by kernel_rfl)) (hm.exApart (N := [⟨some A_b, 27, [(.int .i16 f0.fSteps), (.slice C_a f0.fHammers.length C_c)]⟩]) C_h C_ha [0] (by kernel_rfl)) ht_8) ?_)
   rintro w v w' hm ⟨rfl, hm'⟩
   refine ⟨_, hm.appW (ps := [(0, ⟨some A_b, 27, [(.int .i16 f0.fSteps), (.slice C_a f0.fHammers.length C_c)]⟩)]) (N := []) hm' (by kernel_rfl) (by kernel_rfl), jkO ?_⟩
   clear hm hm'
   refine qf [(0, 0), (0, 0), (0, 1)] (qp 10 h (fun h => ?_) (fun h => ?_))
   ·exact qf [(0, 3), (0, 3), (0, 4), (0, 0), (0, 3), (0, 3), (0, 3), (0, 4)] (qe (qm true h [0, 1]))
   ·obtain ⟨t_4, ht_10, h⟩ := bd h
    refine tO (pc 2 (fun w hm => spec_l01Ok.calls t1 w _ D_c (hm.exRowW D_h D_ha) rfl ht_10) ?_)
    rintro w v w' hm ⟨rfl, hm'⟩
    refine ⟨_, hm.app hm', jkO ?_⟩
    clear hm hm'
    refine qf [(0, 2), (0, 5), (0, 0), (1, 1)] (qp 15 h (fun h => ?_) (fun h => ?_))
    ·exact qf [(0, 3), (0, 3), (0, 4)] (qe (qm true h [0, 1]))
    ·obtain ⟨t_5, ht_12, h⟩ := bd h
     refine tO (pc 2 (fun w hm => spec_l07Costs.calls c2 w _ ht_12) ?_)
     rintro w v w' hm ⟨rfl, hm'⟩
     refine ⟨_, hm.app hm', jkO ?_⟩
     clear hm hm'
     exact qf [(0, 2), (0, 5)] (qe (qm (!t_5) h [0, 1]))
  ·rintro q_1 h
   replace h : spec_l07Given.k_2 q_1 = some r := h
   rw [spec_l07Given.k_2] at h
   refine jx_then (qi h (fun h => ?_) (fun h => ?_))
   ·refine jc_seq (jc_region (qh [0] (qe (jx_then (jc_ret (jx_thenr ?_))))))
    obtain rfl := Option.some.inj h
    exact qr [] (fun w hm => ⟨rfl, hm.pk [0]⟩)
   ·refine jc_skip (jx_then (jc_seq (jc_region (qh [0] (qe (jx_then (jc_ret ?_)))))))
    obtain rfl := Option.some.inj h
    exact qr [] (fun w hm => ⟨rfl, hm.pk [0]⟩)
/-! ### spec.l07Signed -/
def spec_l07Signed.k_2 (xs_1 : List Int) : Option ((List Int)) := some xs_1
def spec_l07Signed.l_5 (most0 : Int) : ((List Int) × Int) → Option (((List Int) × Int) ⊕ ((List Int)))
  | (xs_3, i_4) => (if (decide (i_4 ≤ most0)) = true then (if xs_3.length + ([(w8 (0 - i_4)), i_4] : List Int).length ≤ 4294967296 then some (.inl ((xs_3 ++ ([(w8 (0 - i_4)), i_4] : List Int)), (w8 (i_4 + 1)))) else none) else some (.inr xs_3))
def spec_l07Signed (most0 : Int) : Option ((List Int)) := (loop (spec_l07Signed.l_5 most0) (([0] : List Int), 1)).bind fun t_6 => spec_l07Signed.k_2 t_6
theorem spec_l07Signed.calls (most0 : Int) (w : World) (r : (List Int)) (h : spec_l07Signed most0 = some r) :
    Calls Tryz.prog 138 #[(.int .i8 most0)] w fun e w' => ∃ v, e = .returned v ∧ (∃ (o0 : Option Nat) (c0 : Nat) (s0 : List Value) (n0 : Nat), r.length = n0 ∧ (o0 ≠ none → n0 ≤ c0 ∧ s0.length = (c0 - n0) * 1) ∧ (o0 = none → r = [] ∧ c0 = 0) ∧ v = .slice (o0.map fun b => ⟨b, 0, none⟩) n0 c0 ∧ Mem w [] [⟨o0, 99, row encI8 r s0⟩] w') := by
  rw [spec_l07Signed] at h
  refine enter (args := [(.int .i8 most0)]) Tryz.func138 rfl Tryz.ntmps138 (by kernel_rfl) (L := []) (W := []) (Mem.start w) ?_
  refine jc_seq (jc_region (qh [0] (qe (jx_then (jc_seq (jc_region (tO (qa 0 (fun b_1 => jkO (qh [0] (qe (jx_then (jc_seq (jc_seq (jc_region (qh [0] (qe (jx_then (jc_meet (fun (j : (List Int) × (Option Nat) × Nat × (List Value) × Nat) => match j with | ⟨xs_1, o_137, cap_138, sp_139, n_140⟩ => spec_l07Signed.k_2 xs_1 = some r ∧ (xs_1.length = n_140) ∧ ((o_137 ≠ none → n_140 ≤ cap_138 ∧ sp_139.length = (cap_138 - n_140) * 1)) ∧ ((o_137 = none → xs_1 = [] ∧ cap_138 = 0))) (fun (j : (List Int) × (Option Nat) × Nat × (List Value) × Nat) => match j with | ⟨xs_1, o_137, cap_138, sp_139, n_140⟩ => [(2, [], (.slice none 0 0)), (3, [], (.slice (o_137.map fun b => ⟨b, 0, none⟩) n_140 cap_138))]) (fun (j : (List Int) × (Option Nat) × Nat × (List Value) × Nat) => match j with | ⟨xs_1, o_137, cap_138, sp_139, n_140⟩ => [⟨o_137, 99, row encI8 xs_1 sp_139⟩]) ?_ ?_)))))))))))))))))))
  ·refine jc_block ?_
   obtain ⟨t_6, ht_185, hr_173⟩ := bd h
   refine jc_loop (fun (s : (List Int) × Int) (x : (Option Nat) × Nat × (List Value) × Nat) => match s, x with | ⟨xs_3, i_4⟩, ⟨o_167, cap_168, sp_169, n_170⟩ => (xs_3.length = n_170) ∧ ((o_167 ≠ none → n_170 ≤ cap_168 ∧ sp_169.length = (cap_168 - n_170) * 1)) ∧ ((o_167 = none → xs_3 = [] ∧ cap_168 = 0))) (fun (s : (List Int) × Int) (x : (Option Nat) × Nat × (List Value) × Nat) => match s, x with | ⟨xs_3, i_4⟩, ⟨o_167, cap_168, sp_169, n_170⟩ => [(0, [], (.int .i8 most0)), (2, [], (.slice none 0 0)), (3, [], (.slice (o_167.map fun b => ⟨b, 0, none⟩) n_170 cap_168)), (4, [], (.int .i8 i_4))]) (fun (s : (List Int) × Int) (x : (Option Nat) × Nat × (List Value) × Nat) => match s, x with | ⟨xs_3, i_4⟩, ⟨o_167, cap_168, sp_169, n_170⟩ => [⟨o_167, 99, row encI8 xs_3 sp_169⟩]) ht_185 ⟨(some b_1), 1, [], 1⟩ ⟨rfl, (fun _ => ⟨Nat.le_refl _, by simp⟩), (fun e => nomatch e)⟩ (by kernel_rfl) [0] (by kernel_rfl) (by kernel_rfl) ?_
   rintro ⟨xs_3, i_4⟩ ⟨o_167, cap_168, sp_169, n_170⟩ y_174 ⟨rfl, hs_171, ho_172⟩ h
   rw [spec_l07Signed.l_5] at h
   refine jc_seq (jc_seq (jc_region (qh [0,0,0] (qe (jx_then (qi h (fun h => ?_) (fun h => ?_)))))))
   ·refine jc_skip (jx_then (jc_seq (jc_block (jc_region (qh [0,0,0,0] (tO (qa 0 (fun b_177 => jkO ?_))))))))
    obtain ⟨hg_178, h⟩ := gd h
    exact tO (p_apn 0 0 o_167 99 xs_3.length 2 cap_168 1 1 (some ⟨b_177, 0, none⟩) encI8 xs_3 ([(w8 (0 - i_4)), i_4] : List Int) sp_169 (.int .i8 0) rfl rfl (by kernel_rfl) (by kernel_rfl) (by kernel_rfl) encI8_len encI8_cell hs_171 ho_172 (fun w hm => (hm.ow 1 (some b_177) 99 ([(w8 (0 - i_4)), i_4] : List Int) [] (fun e => nomatch e) encI8_len)) hg_178 (by kernel_rfl) (by kernel_rfl) (fun o_179 cap_180 sp_181 hs_182 ho_183 => jkO (qh [0] (qe (jx_inn (jx_then (jc_region (qh [0,0,0] (qe (qb ((xs_3 ++ ([(w8 (0 - i_4)), i_4] : List Int)), (w8 (i_4 + 1))) ⟨o_179, cap_180, sp_181, (xs_3 ++ ([(w8 (0 - i_4)), i_4] : List Int)).length⟩ h ⟨rfl, hs_182, ho_183⟩ [0]))))))))))
   ·refine jc_exit (jx_thenx (jx_leave xs_3 (Option.some.inj h).symm (fun e_184 => ?_)))
    subst e_184
    exact jx_ine (qm ⟨xs_3, o_167, cap_168, sp_169, xs_3.length⟩ ⟨hr_173, rfl, hs_171, ho_172⟩ [0])
  ·rintro ⟨xs_1, o_137, cap_138, sp_139, n_140⟩ ⟨h, rfl, hs_141, ho_142⟩
   replace h : spec_l07Signed.k_2 xs_1 = some r := h
   rw [spec_l07Signed.k_2] at h
   refine jx_then (jc_seq (jc_region (qh [0,0] (qe (jx_then (jc_ret ?_))))))
   obtain rfl := Option.some.inj h
   exact qr [] (fun w hm => ⟨o_137, cap_138, sp_139, xs_1.length, rfl, hs_141, ho_142, rfl, hm.pk [0]⟩)
/-! ### spec.l07For -/
def spec_l07For.k_4 (xs_3 : List GChoice) : Option ((List GChoice)) := (if xs_3.length + ([(⟨true, 0, 0, 0⟩ : GChoice)] : List GChoice).length ≤ 4294967296 then some (xs_3 ++ ([(⟨true, 0, 0, 0⟩ : GChoice)] : List GChoice)) else none)
def spec_l07For.k_12 (i_6 : Int) (xs_11 : List GChoice) : Option (((List GChoice) × Int) ⊕ ((List GChoice))) := some (.inl (xs_11, (w64 (i_6 + 1))))
def spec_l07For.k_18 (i_14 : Int) (xs_17 : List GChoice) : Option (((List GChoice) × Int) ⊕ ((List GChoice))) := some (.inl (xs_17, (w64 (i_14 + 1))))
def spec_l07For.l_21 (f0 : GFrame) (n1 : GNote) (t_1 : (List Int)) (t_2 : (List Int)) (i_6 : Int) (i_14 : Int) : ((List GChoice) × Int) → Option (((List GChoice) × Int) ⊕ ((List GChoice)))
  | (xs_19, i_20) => (if (decide (i_20 < (f0.fHammers.length : Int))) = true then (ix f0.fHammers i_20).bind fun x_23 => (ix t_2 i_14).bind fun x_24 => (if (x_23.fPitch == (w8 (n1.fPitch + (w8 (12 * x_24))))) = true then (ix t_1 i_6).bind fun x_25 => (ix t_2 i_14).bind fun x_26 => (if xs_19.length + ([(⟨false, x_25, x_26, (w8 i_20)⟩ : GChoice)] : List GChoice).length ≤ 4294967296 then some (.inl ((xs_19 ++ ([(⟨false, x_25, x_26, (w8 i_20)⟩ : GChoice)] : List GChoice)), (w64 (i_20 + 1)))) else none) else some (.inl (xs_19, (w64 (i_20 + 1))))) else some (.inr xs_19))
def spec_l07For.l_15 (f0 : GFrame) (n1 : GNote) (t_1 : (List Int)) (t_2 : (List Int)) (i_6 : Int) : ((List GChoice) × Int) → Option (((List GChoice) × Int) ⊕ ((List GChoice)))
  | (xs_13, i_14) => (if (decide (i_14 < (t_2.length : Int))) = true then (loop (spec_l07For.l_21 f0 n1 t_1 t_2 i_6 i_14) (xs_13, 0)).bind fun t_22 => spec_l07For.k_18 i_14 t_22 else some (.inr xs_13))
def spec_l07For.l_7 (f0 : GFrame) (n1 : GNote) (t_1 : (List Int)) (t_2 : (List Int)) : ((List GChoice) × Int) → Option (((List GChoice) × Int) ⊕ ((List GChoice)))
  | (xs_5, i_6) => (if (decide (i_6 < (t_1.length : Int))) = true then (ix t_1 i_6).bind fun x_9 => (spec_l00In (w64 ((w64 n1.fAt) + (w64 x_9))) 0 (w64 ((w64 f0.fSteps) - 1))).bind fun t_10 => (if (!t_10) = true then some (.inl (xs_5, (w64 (i_6 + 1)))) else (loop (spec_l07For.l_15 f0 n1 t_1 t_2 i_6) (xs_5, 0)).bind fun t_16 => spec_l07For.k_12 i_6 t_16) else some (.inr xs_5))
def spec_l07For (f0 : GFrame) (n1 : GNote) : Option ((List GChoice)) := (spec_l07Signed 3).bind fun t_1 => (spec_l07Signed 1).bind fun t_2 => (loop (spec_l07For.l_7 f0 n1 t_1 t_2) (([] : List GChoice), 0)).bind fun t_8 => spec_l07For.k_4 t_8
theorem spec_l07For.calls (f0 : GFrame) (n1 : GNote) (w : World) (r : (List GChoice)) {C_a : Option Addr} {C_an : Nat} (C_c : Nat) (C_h : Rw w C_a 2 encGHammer f0.fHammers) (C_hn : f0.fHammers.length = C_an) (A_b : Nat) (hm0 : Mem w (bs [some A_b]) [⟨some A_b, 27, [(.int .i16 f0.fSteps), (.slice C_a C_an C_c)]⟩] w) (C_ha : f0.fHammers ≠ [] → aB C_a ∉ bs [some A_b]) (h : spec_l07For f0 n1 = some r) :
    Calls Tryz.prog 70 #[(.pointer (some ⟨A_b, 0, none⟩)), (.agg #[(.int .i16 n1.fAt), (.int .i8 n1.fPitch)])] w fun e w' => ∃ v, e = .returned v ∧ (∃ (o0 : Option Nat) (c0 : Nat) (s0 : List Value) (n0 : Nat), r.length = n0 ∧ (o0 ≠ none → n0 ≤ c0 ∧ s0.length = (c0 - n0) * 4) ∧ (o0 = none → r = [] ∧ c0 = 0) ∧ v = .slice (o0.map fun b => ⟨b, 0, none⟩) n0 c0 ∧ Mem w (bs [some A_b]) [⟨some A_b, 27, [(.int .i16 f0.fSteps), (.slice C_a C_an C_c)]⟩, ⟨o0, 104, row encGChoice r s0⟩] w') := by
  subst C_hn
  rw [spec_l07For] at h
  refine enter (args := [(.pointer (some ⟨A_b, 0, none⟩)), (.agg #[(.int .i16 n1.fAt), (.int .i8 n1.fPitch)])]) Tryz.func70 rfl Tryz.ntmps70 (by kernel_rfl) (L := [⟨some A_b, 27, [(.int .i16 f0.fSteps), (.slice C_a f0.fHammers.length C_c)]⟩]) (W := bs [some A_b]) hm0 ?_
  refine jc_seq (jc_region (tO (qa 0 (fun b_1 => jkO (qh [0] (qe (jx_then (jc_seq (jc_region (tO (qa 0 (fun b_2 => jkO (qh [0] (qe (jx_then (jc_seq (jc_region ?_)))))))))))))))))
  obtain ⟨t_1, ht_3, h⟩ := bd h
  refine tO (pc 0 (fun w hm => spec_l07Signed.calls 3 w _ ht_3) ?_)
  rintro w v w' hm ⟨o_4, cap_5, sp_6, _, rfl, hs_7, ho_8, rfl, hm'⟩
  refine ⟨_, hm.app hm', jkO ?_⟩
  clear hm hm'
  refine qh [0] (qe (jx_then (jc_seq (jc_region ?_))))
  obtain ⟨t_2, ht_9, h⟩ := bd h
  refine tO (pc 0 (fun w hm => spec_l07Signed.calls 1 w _ ht_9) ?_)
  rintro w v w' hm ⟨o_10, cap_11, sp_12, _, rfl, hs_13, ho_14, rfl, hm'⟩
  refine ⟨_, hm.app hm', jkO ?_⟩
  clear hm hm'
  refine qh [0] (qe (jx_then (jc_seq (jc_seq (jc_region (qh [0] (qe (jx_then (jc_meet (fun (j : (List GChoice) × (Option Nat) × Nat × (List Value) × Nat) => match j with | ⟨xs_3, o_8151, cap_8152, sp_8153, n_8154⟩ => spec_l07For.k_4 xs_3 = some r ∧ (xs_3.length = n_8154) ∧ ((o_8151 ≠ none → n_8154 ≤ cap_8152 ∧ sp_8153.length = (cap_8152 - n_8154) * 4)) ∧ ((o_8151 = none → xs_3 = [] ∧ cap_8152 = 0))) (fun (j : (List GChoice) × (Option Nat) × Nat × (List Value) × Nat) => match j with | ⟨xs_3, o_8151, cap_8152, sp_8153, n_8154⟩ => [(4, [], (.slice none 0 0)), (5, [], (.slice (o_8151.map fun b => ⟨b, 0, none⟩) n_8154 cap_8152))]) (fun (j : (List GChoice) × (Option Nat) × Nat × (List Value) × Nat) => match j with | ⟨xs_3, o_8151, cap_8152, sp_8153, n_8154⟩ => [⟨some A_b, 27, [(.int .i16 f0.fSteps), (.slice C_a f0.fHammers.length C_c)]⟩, ⟨some b_1, 101, [(.int .i16 n1.fAt), (.int .i8 n1.fPitch)]⟩, ⟨o_8151, 104, row encGChoice xs_3 sp_8153⟩, ⟨o_4, 99, row encI8 t_1 sp_6⟩, ⟨o_10, 99, row encI8 t_2 sp_12⟩]) ?_ ?_)))))))))
  ·refine jc_block ?_
   obtain ⟨t_8, ht_10873, hr_9972⟩ := bd h
   refine jc_loop (fun (s : (List GChoice) × Int) (x : (Option Nat) × Nat × (List Value) × Nat) => match s, x with | ⟨xs_5, i_6⟩, ⟨o_9966, cap_9967, sp_9968, n_9969⟩ => (xs_5.length = n_9969) ∧ ((o_9966 ≠ none → n_9969 ≤ cap_9967 ∧ sp_9968.length = (cap_9967 - n_9969) * 4)) ∧ ((o_9966 = none → xs_5 = [] ∧ cap_9967 = 0))) (fun (s : (List GChoice) × Int) (x : (Option Nat) × Nat × (List Value) × Nat) => match s, x with | ⟨xs_5, i_6⟩, ⟨o_9966, cap_9967, sp_9968, n_9969⟩ => [(0, [], (.pointer (some ⟨A_b, 0, none⟩))), (3, [], (.pointer (some ⟨b_1, 0, none⟩))), (4, [], (.slice none 0 0)), (5, [], (.slice (o_9966.map fun b => ⟨b, 0, none⟩) n_9969 cap_9967)), (6, [], (.slice (o_4.map fun b => ⟨b, 0, none⟩) t_1.length cap_5)), (7, [], (.slice (o_10.map fun b => ⟨b, 0, none⟩) t_2.length cap_11)), (8, [], (.int .i64 i_6))]) (fun (s : (List GChoice) × Int) (x : (Option Nat) × Nat × (List Value) × Nat) => match s, x with | ⟨xs_5, i_6⟩, ⟨o_9966, cap_9967, sp_9968, n_9969⟩ => [⟨some A_b, 27, [(.int .i16 f0.fSteps), (.slice C_a f0.fHammers.length C_c)]⟩, ⟨some b_1, 101, [(.int .i16 n1.fAt), (.int .i8 n1.fPitch)]⟩, ⟨o_9966, 104, row encGChoice xs_5 sp_9968⟩, ⟨o_4, 99, row encI8 t_1 sp_6⟩, ⟨o_10, 99, row encI8 t_2 sp_12⟩]) ht_10873 ⟨(some b_2), 0, [], 0⟩ ⟨rfl, (fun _ => ⟨Nat.le_refl _, by simp⟩), (fun e => nomatch e)⟩ (by kernel_rfl) [0, 1, 2, 3, 4] (by kernel_rfl) (by kernel_rfl) ?_
   rintro ⟨xs_5, i_6⟩ ⟨o_9966, cap_9967, sp_9968, n_9969⟩ y_9973 ⟨rfl, hs_9970, ho_9971⟩ h
   rw [spec_l07For.l_7] at h
   refine jc_seq (jc_seq (jc_region (qh [0,0,0,0] (qe (jx_then (qi h (fun h => ?_) (fun h => ?_)))))))
   ·refine jc_skip (jx_then (jc_seq (jc_block (jc_seq (jc_seq (qg [⟨some A_b, 27, [(.int .i16 f0.fSteps), (.slice C_a f0.fHammers.length C_c)]⟩, ⟨some b_1, 101, [(.int .i16 n1.fAt), (.int .i8 n1.fPitch)]⟩, ⟨o_9966, 104, row encGChoice xs_5 sp_9968⟩, ⟨o_4, 99, row encI8 t_1 sp_6⟩, ⟨o_10, 99, row encI8 t_2 sp_12⟩] 17 (qd [⟨0, 0, 0⟩,⟨1, 1, 0⟩,⟨2, 0, 0⟩,⟨3, 0, 0⟩,⟨4, 0, 0⟩,⟨9, 0, 0⟩,⟨10, 0, 0⟩,⟨11, 0, 0⟩,⟨12, 0, 0⟩,⟨13, 0, 0⟩,⟨14, 0, 0⟩] 6 [0, 1, 2, 3, 4] ?_)))))))
    obtain ⟨x_9, hx_9979, h⟩ := bd h
    refine qv 5 0 [0, 1, 2, 3, 4] (fun w hm => idx_run (a := (o_4.map fun b => ⟨b, 0, none⟩)) (len := t_1.length) (s := 1) (j := i_6) (by kernel_rfl) (ix_some hx_9979).1 (ltn hx_9979 rfl) (spo ho_8 hx_9979)) (qv 6 0 [0, 1, 2, 3, 4] (fun w hm => ld_run (b := aB (o_4.map fun b => ⟨b, 0, none⟩)) (off := (aO (o_4.map fun b => ⟨b, 0, none⟩) + i_6.toNat * 1)) (s := 1) (agg := false) (vs := (encI8 x_9)) (by kernel_rfl) (by kernel_rfl) (.inr rfl) ((hm.ow 3 o_4 99 t_1 sp_6 (fun e => (ho_8 e).1) encI8_len).at hx_9979)) (qd [⟨7, 0, 0⟩,⟨8, 0, 0⟩] 2 [0, 1, 2, 3, 4] ?_))
    obtain ⟨t_10, ht_9980, h⟩ := bd h
    refine tD 15 (pc 0 (fun w hm => spec_l00In.calls (w64 ((w64 n1.fAt) + (w64 x_9))) 0 (w64 ((w64 f0.fSteps) - 1)) w _ ht_9980) ?_)
    rintro w v w' hm ⟨rfl, hm'⟩
    refine ⟨_, hm.app hm', kD [0, 1, 2, 3, 4] ?_⟩
    clear hm hm'
    refine qd [⟨16, 0, 0⟩] 0 [0, 1, 2, 3, 4] (qz (jx_then (qi h (fun h => ?_) (fun h => ?_))))
    ·exact jc_exit (jx_thenx (jx_ine (jx_then (jc_region (qh [0,0,0] (qe (qb (xs_5, (w64 (i_6 + 1))) ⟨o_9966, cap_9967, sp_9968, xs_5.length⟩ h ⟨rfl, hs_9970, ho_9971⟩ [0, 1, 2, 3, 4])))))))
    ·refine jc_skip (jx_then (jc_seq (jc_region (qh [0] (qe (jx_then (jc_meet (fun (j : (List GChoice) × (Option Nat) × Nat × (List Value) × Nat) => match j with | ⟨xs_11, o_10424, cap_10425, sp_10426, n_10427⟩ => spec_l07For.k_12 i_6 xs_11 = some y_9973 ∧ (xs_11.length = n_10427) ∧ ((o_10424 ≠ none → n_10427 ≤ cap_10425 ∧ sp_10426.length = (cap_10425 - n_10427) * 4)) ∧ ((o_10424 = none → xs_11 = [] ∧ cap_10425 = 0))) (fun (j : (List GChoice) × (Option Nat) × Nat × (List Value) × Nat) => match j with | ⟨xs_11, o_10424, cap_10425, sp_10426, n_10427⟩ => [(0, [], (.pointer (some ⟨A_b, 0, none⟩))), (3, [], (.pointer (some ⟨b_1, 0, none⟩))), (4, [], (.slice none 0 0)), (5, [], (.slice (o_10424.map fun b => ⟨b, 0, none⟩) n_10427 cap_10425)), (6, [], (.slice (o_4.map fun b => ⟨b, 0, none⟩) t_1.length cap_5)), (7, [], (.slice (o_10.map fun b => ⟨b, 0, none⟩) t_2.length cap_11)), (8, [], (.int .i64 i_6))]) (fun (j : (List GChoice) × (Option Nat) × Nat × (List Value) × Nat) => match j with | ⟨xs_11, o_10424, cap_10425, sp_10426, n_10427⟩ => [⟨some A_b, 27, [(.int .i16 f0.fSteps), (.slice C_a f0.fHammers.length C_c)]⟩, ⟨some b_1, 101, [(.int .i16 n1.fAt), (.int .i8 n1.fPitch)]⟩, ⟨o_10424, 104, row encGChoice xs_11 sp_10426⟩, ⟨o_4, 99, row encI8 t_1 sp_6⟩, ⟨o_10, 99, row encI8 t_2 sp_12⟩]) ?_ ?_)))))))
     ·refine jc_block ?_
      obtain ⟨t_16, ht_10871, hr_10726⟩ := bd h
      refine jc_loop (fun (s : (List GChoice) × Int) (x : (Option Nat) × Nat × (List Value) × Nat) => match s, x with | ⟨xs_13, i_14⟩, ⟨o_10720, cap_10721, sp_10722, n_10723⟩ => (xs_13.length = n_10723) ∧ ((o_10720 ≠ none → n_10723 ≤ cap_10721 ∧ sp_10722.length = (cap_10721 - n_10723) * 4)) ∧ ((o_10720 = none → xs_13 = [] ∧ cap_10721 = 0))) (fun (s : (List GChoice) × Int) (x : (Option Nat) × Nat × (List Value) × Nat) => match s, x with | ⟨xs_13, i_14⟩, ⟨o_10720, cap_10721, sp_10722, n_10723⟩ => [(0, [], (.pointer (some ⟨A_b, 0, none⟩))), (3, [], (.pointer (some ⟨b_1, 0, none⟩))), (4, [], (.slice none 0 0)), (5, [], (.slice (o_10720.map fun b => ⟨b, 0, none⟩) n_10723 cap_10721)), (6, [], (.slice (o_4.map fun b => ⟨b, 0, none⟩) t_1.length cap_5)), (7, [], (.slice (o_10.map fun b => ⟨b, 0, none⟩) t_2.length cap_11)), (8, [], (.int .i64 i_6)), (9, [], (.int .i64 i_14))]) (fun (s : (List GChoice) × Int) (x : (Option Nat) × Nat × (List Value) × Nat) => match s, x with | ⟨xs_13, i_14⟩, ⟨o_10720, cap_10721, sp_10722, n_10723⟩ => [⟨some A_b, 27, [(.int .i16 f0.fSteps), (.slice C_a f0.fHammers.length C_c)]⟩, ⟨some b_1, 101, [(.int .i16 n1.fAt), (.int .i8 n1.fPitch)]⟩, ⟨o_10720, 104, row encGChoice xs_13 sp_10722⟩, ⟨o_4, 99, row encI8 t_1 sp_6⟩, ⟨o_10, 99, row encI8 t_2 sp_12⟩]) ht_10871 ⟨o_9966, cap_9967, sp_9968, xs_5.length⟩ ⟨rfl, hs_9970, ho_9971⟩ (by kernel_rfl) [0, 1, 2, 3, 4] (by kernel_rfl) (by kernel_rfl) ?_
      rintro ⟨xs_13, i_14⟩ ⟨o_10720, cap_10721, sp_10722, n_10723⟩ y_10727 ⟨rfl, hs_10724, ho_10725⟩ h
      rw [spec_l07For.l_15] at h
      refine jc_seq (jc_seq (jc_region (qh [0,0,0,0] (qe (jx_then (qi h (fun h => ?_) (fun h => ?_)))))))
      ·refine jc_skip (jx_then (jc_seq (jc_block (jc_seq (jc_region (qh [0] (qe (jx_then (jc_meet (fun (j : (List GChoice) × (Option Nat) × Nat × (List Value) × Nat) => match j with | ⟨xs_17, o_10797, cap_10798, sp_10799, n_10800⟩ => spec_l07For.k_18 i_14 xs_17 = some y_10727 ∧ (xs_17.length = n_10800) ∧ ((o_10797 ≠ none → n_10800 ≤ cap_10798 ∧ sp_10799.length = (cap_10798 - n_10800) * 4)) ∧ ((o_10797 = none → xs_17 = [] ∧ cap_10798 = 0))) (fun (j : (List GChoice) × (Option Nat) × Nat × (List Value) × Nat) => match j with | ⟨xs_17, o_10797, cap_10798, sp_10799, n_10800⟩ => [(0, [], (.pointer (some ⟨A_b, 0, none⟩))), (3, [], (.pointer (some ⟨b_1, 0, none⟩))), (4, [], (.slice none 0 0)), (5, [], (.slice (o_10797.map fun b => ⟨b, 0, none⟩) n_10800 cap_10798)), (6, [], (.slice (o_4.map fun b => ⟨b, 0, none⟩) t_1.length cap_5)), (7, [], (.slice (o_10.map fun b => ⟨b, 0, none⟩) t_2.length cap_11)), (8, [], (.int .i64 i_6)), (9, [], (.int .i64 i_14))]) (fun (j : (List GChoice) × (Option Nat) × Nat × (List Value) × Nat) => match j with | ⟨xs_17, o_10797, cap_10798, sp_10799, n_10800⟩ => [⟨some A_b, 27, [(.int .i16 f0.fSteps), (.slice C_a f0.fHammers.length C_c)]⟩, ⟨some b_1, 101, [(.int .i16 n1.fAt), (.int .i8 n1.fPitch)]⟩, ⟨o_10797, 104, row encGChoice xs_17 sp_10799⟩, ⟨o_4, 99, row encI8 t_1 sp_6⟩, ⟨o_10, 99, row encI8 t_2 sp_12⟩]) ?_ ?_)))))))))
       ·refine jc_block ?_
        obtain ⟨t_22, ht_10869, hr_10849⟩ := bd h
        refine jc_loop (fun (s : (List GChoice) × Int) (x : (Option Nat) × Nat × (List Value) × Nat) => match s, x with | ⟨xs_19, i_20⟩, ⟨o_10843, cap_10844, sp_10845, n_10846⟩ => (xs_19.length = n_10846) ∧ ((o_10843 ≠ none → n_10846 ≤ cap_10844 ∧ sp_10845.length = (cap_10844 - n_10846) * 4)) ∧ ((o_10843 = none → xs_19 = [] ∧ cap_10844 = 0))) (fun (s : (List GChoice) × Int) (x : (Option Nat) × Nat × (List Value) × Nat) => match s, x with | ⟨xs_19, i_20⟩, ⟨o_10843, cap_10844, sp_10845, n_10846⟩ => [(0, [], (.pointer (some ⟨A_b, 0, none⟩))), (3, [], (.pointer (some ⟨b_1, 0, none⟩))), (4, [], (.slice none 0 0)), (5, [], (.slice (o_10843.map fun b => ⟨b, 0, none⟩) n_10846 cap_10844)), (6, [], (.slice (o_4.map fun b => ⟨b, 0, none⟩) t_1.length cap_5)), (7, [], (.slice (o_10.map fun b => ⟨b, 0, none⟩) t_2.length cap_11)), (8, [], (.int .i64 i_6)), (9, [], (.int .i64 i_14)), (10, [], (.int .i64 i_20))]) (fun (s : (List GChoice) × Int) (x : (Option Nat) × Nat × (List Value) × Nat) => match s, x with | ⟨xs_19, i_20⟩, ⟨o_10843, cap_10844, sp_10845, n_10846⟩ => [⟨some A_b, 27, [(.int .i16 f0.fSteps), (.slice C_a f0.fHammers.length C_c)]⟩, ⟨some b_1, 101, [(.int .i16 n1.fAt), (.int .i8 n1.fPitch)]⟩, ⟨o_10843, 104, row encGChoice xs_19 sp_10845⟩, ⟨o_4, 99, row encI8 t_1 sp_6⟩, ⟨o_10, 99, row encI8 t_2 sp_12⟩]) ht_10869 ⟨o_10720, cap_10721, sp_10722, xs_13.length⟩ ⟨rfl, hs_10724, ho_10725⟩ (by kernel_rfl) [0, 1, 2, 3, 4] (by kernel_rfl) (by kernel_rfl) ?_
        rintro ⟨xs_19, i_20⟩ ⟨o_10843, cap_10844, sp_10845, n_10846⟩ y_10850 ⟨rfl, hs_10847, ho_10848⟩ h
        rw [spec_l07For.l_21] at h
        refine jc_seq (jc_seq (jc_region (qh [0,0,0,0,0,0,0] (qe (jx_then (qi h (fun h => ?_) (fun h => ?_)))))))
        ·refine jc_skip (jx_then (jc_seq (jc_block (jc_seq (qg [⟨some A_b, 27, [(.int .i16 f0.fSteps), (.slice C_a f0.fHammers.length C_c)]⟩, ⟨some b_1, 101, [(.int .i16 n1.fAt), (.int .i8 n1.fPitch)]⟩, ⟨o_10843, 104, row encGChoice xs_19 sp_10845⟩, ⟨o_4, 99, row encI8 t_1 sp_6⟩, ⟨o_10, 99, row encI8 t_2 sp_12⟩] 17 (qd [⟨0, 0, 0⟩,⟨1, 0, 0⟩,⟨2, 0, 0⟩,⟨3, 0, 0⟩,⟨4, 0, 0⟩,⟨8, 0, 0⟩,⟨9, 1, 0⟩,⟨10, 0, 0⟩,⟨11, 0, 0⟩] 8 [0, 1, 2, 3, 4] ?_))))))
         obtain ⟨x_23, hx_10853, h⟩ := bd h
         refine qv 5 0 [0, 1, 2, 3, 4] (fun w hm => idx_run (a := C_a) (len := f0.fHammers.length) (s := 2) (j := i_20) (by kernel_rfl) (ix_some hx_10853).1 (ltn hx_10853 rfl) (C_h.sp hx_10853)) (qd [⟨6, 0, 0⟩] 6 [0, 1, 2, 3, 4] (qv 7 0 [0, 1, 2, 3, 4] (fun w hm => ld_run (b := aB C_a) (off := (aO C_a + i_20.toNat * 2)) (s := 1) (agg := false) (vs := (((encGHammer x_23).drop 0).take 1)) (by kernel_rfl) (by kernel_rfl) (.inr rfl) (((hm.exRowW C_h C_ha).at hx_10853).sub 0 1)) ?_))
         obtain ⟨x_24, hx_10854, h⟩ := bd h
         refine qv 12 0 [0, 1, 2, 3, 4] (fun w hm => idx_run (a := (o_10.map fun b => ⟨b, 0, none⟩)) (len := t_2.length) (s := 1) (j := i_14) (by kernel_rfl) (ix_some hx_10854).1 (ltn hx_10854 rfl) (spo ho_14 hx_10854)) (qv 13 0 [0, 1, 2, 3, 4] (fun w hm => ld_run (b := aB (o_10.map fun b => ⟨b, 0, none⟩)) (off := (aO (o_10.map fun b => ⟨b, 0, none⟩) + i_14.toNat * 1)) (s := 1) (agg := false) (vs := (encI8 x_24)) (by kernel_rfl) (by kernel_rfl) (.inr rfl) ((hm.ow 4 o_10 99 t_2 sp_12 (fun e => (ho_14 e).1) encI8_len).at hx_10854)) (qd [⟨14, 0, 0⟩,⟨15, 0, 0⟩,⟨16, 0, 0⟩] 0 [0, 1, 2, 3, 4] (qz (jx_then (qi h (fun h => ?_) (fun h => ?_))))))
         ·refine qg [⟨some A_b, 27, [(.int .i16 f0.fSteps), (.slice C_a f0.fHammers.length C_c)]⟩, ⟨some b_1, 101, [(.int .i16 n1.fAt), (.int .i8 n1.fPitch)]⟩, ⟨o_4, 99, row encI8 t_1 sp_6⟩, ⟨o_10, 99, row encI8 t_2 sp_12⟩] 15 (qd [⟨0, 0, 0⟩,⟨1, 0, 0⟩,⟨2, 0, 0⟩,⟨5, 0, 0⟩,⟨6, 0, 0⟩,⟨9, 0, 0⟩,⟨10, 0, 0⟩] 8 [0, 1, 3, 4] ?_)
          obtain ⟨x_25, hx_10859, h⟩ := bd h
          refine qv 3 0 [0, 1, 3, 4] (fun w hm => idx_run (a := (o_4.map fun b => ⟨b, 0, none⟩)) (len := t_1.length) (s := 1) (j := i_6) (by kernel_rfl) (ix_some hx_10859).1 (ltn hx_10859 rfl) (spo ho_8 hx_10859)) (qv 4 0 [0, 1, 3, 4] (fun w hm => ld_run (b := aB (o_4.map fun b => ⟨b, 0, none⟩)) (off := (aO (o_4.map fun b => ⟨b, 0, none⟩) + i_6.toNat * 1)) (s := 1) (agg := false) (vs := (encI8 x_25)) (by kernel_rfl) (by kernel_rfl) (.inr rfl) ((hm.ow 2 o_4 99 t_1 sp_6 (fun e => (ho_8 e).1) encI8_len).at hx_10859)) ?_)
          obtain ⟨x_26, hx_10860, h⟩ := bd h
          refine qv 7 0 [0, 1, 3, 4] (fun w hm => idx_run (a := (o_10.map fun b => ⟨b, 0, none⟩)) (len := t_2.length) (s := 1) (j := i_14) (by kernel_rfl) (ix_some hx_10860).1 (ltn hx_10860 rfl) (spo ho_14 hx_10860)) (qv 8 0 [0, 1, 3, 4] (fun w hm => ld_run (b := aB (o_10.map fun b => ⟨b, 0, none⟩)) (off := (aO (o_10.map fun b => ⟨b, 0, none⟩) + i_14.toNat * 1)) (s := 1) (agg := false) (vs := (encI8 x_26)) (by kernel_rfl) (by kernel_rfl) (.inr rfl) ((hm.ow 3 o_10 99 t_2 sp_12 (fun e => (ho_14 e).1) encI8_len).at hx_10860)) (qd [⟨11, 0, 0⟩] 3 [0, 1, 3, 4] (tD 12 (qa 0 (fun b_10861 => kD [0, 1, 3, 4] ?_)))))
          obtain ⟨hg_10862, h⟩ := gd h
          exact tD 13 (p_apn 0 2 o_10843 104 xs_19.length 1 cap_10844 4 4 (some ⟨b_10861, 0, none⟩) encGChoice xs_19 ([(⟨false, x_25, x_26, (w8 i_20)⟩ : GChoice)] : List GChoice) sp_10845 (.agg #[(.bool false), (.int .i8 0), (.int .i8 0), (.int .i8 0)]) rfl rfl (by kernel_rfl) (by kernel_rfl) (by kernel_rfl) encGChoice_len encGChoice_cell hs_10847 ho_10848 (fun w hm => (hm.ow 5 (some b_10861) 104 ([(⟨false, x_25, x_26, (w8 i_20)⟩ : GChoice)] : List GChoice) [] (fun e => nomatch e) encGChoice_len)) hg_10862 (by kernel_rfl) (by kernel_rfl) (fun o_10863 cap_10864 sp_10865 hs_10866 ho_10867 => kD [0, 1, 3, 4] (qd [⟨14, 0, 0⟩] 0 [0, 1, 3, 4] (qz (jx_inn (jx_then (jc_region (qh [0,0,0] (qe (qb ((xs_19 ++ ([(⟨false, x_25, x_26, (w8 i_20)⟩ : GChoice)] : List GChoice)), (w64 (i_20 + 1))) ⟨o_10863, cap_10864, sp_10865, (xs_19 ++ ([(⟨false, x_25, x_26, (w8 i_20)⟩ : GChoice)] : List GChoice)).length⟩ h ⟨rfl, hs_10866, ho_10867⟩ [0, 1, 2, 3, 4]))))))))))
         ·exact jc_skip (jx_inn (jx_then (jc_region (qh [0,0,0] (qe (qb (xs_19, (w64 (i_20 + 1))) ⟨o_10843, cap_10844, sp_10845, xs_19.length⟩ h ⟨rfl, hs_10847, ho_10848⟩ [0, 1, 2, 3, 4]))))))
        ·refine jc_exit (jx_thenx (jx_leave xs_19 (Option.some.inj h).symm (fun e_10868 => ?_)))
         subst e_10868
         exact jx_ine (qm ⟨xs_19, o_10843, cap_10844, sp_10845, xs_19.length⟩ ⟨hr_10849, rfl, hs_10847, ho_10848⟩ [0, 1, 2, 3, 4])
       ·rintro ⟨xs_17, o_10797, cap_10798, sp_10799, n_10800⟩ ⟨h, rfl, hs_10801, ho_10802⟩
        replace h : spec_l07For.k_18 i_14 xs_17 = some y_10727 := h
        rw [spec_l07For.k_18] at h
        exact jx_inn (jx_then (jc_region (qh [0,0,0] (qe (qb (xs_17, (w64 (i_14 + 1))) ⟨o_10797, cap_10798, sp_10799, xs_17.length⟩ h ⟨rfl, hs_10801, ho_10802⟩ [0, 1, 2, 3, 4])))))
      ·refine jc_exit (jx_thenx (jx_leave xs_13 (Option.some.inj h).symm (fun e_10870 => ?_)))
       subst e_10870
       exact jx_ine (qm ⟨xs_13, o_10720, cap_10721, sp_10722, xs_13.length⟩ ⟨hr_10726, rfl, hs_10724, ho_10725⟩ [0, 1, 2, 3, 4])
     ·rintro ⟨xs_11, o_10424, cap_10425, sp_10426, n_10427⟩ ⟨h, rfl, hs_10428, ho_10429⟩
      replace h : spec_l07For.k_12 i_6 xs_11 = some y_9973 := h
      rw [spec_l07For.k_12] at h
      exact jx_inn (jx_then (jc_region (qh [0,0,0] (qe (qb (xs_11, (w64 (i_6 + 1))) ⟨o_10424, cap_10425, sp_10426, xs_11.length⟩ h ⟨rfl, hs_10428, ho_10429⟩ [0, 1, 2, 3, 4])))))
   ·refine jc_exit (jx_thenx (jx_leave xs_5 (Option.some.inj h).symm (fun e_10872 => ?_)))
    subst e_10872
    exact jx_ine (qm ⟨xs_5, o_9966, cap_9967, sp_9968, xs_5.length⟩ ⟨hr_9972, rfl, hs_9970, ho_9971⟩ [0, 1, 2, 3, 4])
  ·rintro ⟨xs_3, o_8151, cap_8152, sp_8153, n_8154⟩ ⟨h, rfl, hs_8155, ho_8156⟩
   replace h : spec_l07For.k_4 xs_3 = some r := h
   rw [spec_l07For.k_4] at h
   refine jx_then (jc_seq (jc_region (qh [0,0] (tO (qa 0 (fun b_8157 => jkO ?_))))))
   obtain ⟨hg_8158, h⟩ := gd h
   refine tO (p_apn 0 2 o_8151 104 xs_3.length 1 cap_8152 4 4 (some ⟨b_8157, 0, none⟩) encGChoice xs_3 ([(⟨true, 0, 0, 0⟩ : GChoice)] : List GChoice) sp_8153 (.agg #[(.bool false), (.int .i8 0), (.int .i8 0), (.int .i8 0)]) rfl rfl (by kernel_rfl) (by kernel_rfl) (by kernel_rfl) encGChoice_len encGChoice_cell hs_8155 ho_8156 (fun w hm => (hm.ow 5 (some b_8157) 104 ([(⟨true, 0, 0, 0⟩ : GChoice)] : List GChoice) [] (fun e => nomatch e) encGChoice_len)) hg_8158 (by kernel_rfl) (by kernel_rfl) (fun o_8159 cap_8160 sp_8161 hs_8162 ho_8163 => jkO (qh [0] (qe (jx_then (jc_ret ?_))))))
   obtain rfl := Option.some.inj h
   exact qr [] (fun w hm => ⟨o_8159, cap_8160, sp_8161, ((xs_3 ++ ([(⟨true, 0, 0, 0⟩ : GChoice)] : List GChoice)).length), rfl, hs_8162, ho_8163, rfl, hm.pk [0, 2]⟩)
/-! ### spec.l07Cost -/
def spec_l07Cost.k_4 (i_3 : Int) : Option (Int) := some i_3
def spec_l07Cost.k_2 (c0 : GCosts) (x1 : GChoice) (i_1 : Int) : Option (Int) := (if (x1.fOctave != 0) = true then spec_l07Cost.k_4 (w64 ((w64 ((w64 c0.fStep) * i_1)) + (w64 c0.fOctave))) else spec_l07Cost.k_4 (w64 ((w64 c0.fStep) * i_1)))
def spec_l07Cost (c0 : GCosts) (x1 : GChoice) : Option (Int) := (if x1.fAway = true then some (w64 c0.fAway) else (if (decide ((w64 x1.fLate) < 0)) = true then spec_l07Cost.k_2 c0 x1 (w64 (0 - (w64 x1.fLate))) else spec_l07Cost.k_2 c0 x1 (w64 x1.fLate)))
theorem spec_l07Cost.calls (c0 : GCosts) (x1 : GChoice) (w : World) (r : Int) (h : spec_l07Cost c0 x1 = some r) :
    Calls Tryz.prog 72 #[(.agg #[(.int .i16 c0.fAway), (.int .i16 c0.fOctave), (.int .i16 c0.fStep)]), (.agg #[(.bool x1.fAway), (.int .i8 x1.fLate), (.int .i8 x1.fOctave), (.int .i8 x1.fTrack)])] w fun e w' => ∃ v, e = .returned v ∧ (v = (.int .i64 r) ∧ Mem w [] [] w') := by
  rw [spec_l07Cost] at h
  refine enter (args := [(.agg #[(.int .i16 c0.fAway), (.int .i16 c0.fOctave), (.int .i16 c0.fStep)]), (.agg #[(.bool x1.fAway), (.int .i8 x1.fLate), (.int .i8 x1.fOctave), (.int .i8 x1.fTrack)])]) Tryz.func72 rfl Tryz.ntmps72 (by kernel_rfl) (L := []) (W := []) (Mem.start w) ?_
  refine jc_seq (jc_region (tO (qa 0 (fun b_1 => jkO (tO (qa 0 (fun b_2 => jkO (qh [0] (qe (jx_then (jc_seq (jc_seq (jc_region (qh [0,1] (qe (jx_then (qi h (fun h => ?_) (fun h => ?_))))))))))))))))))
  ·refine jc_seq (jc_region (qh [0,0,0,0] (qe (jx_then (jc_ret (jx_thenr ?_))))))
   obtain rfl := Option.some.inj h
   exact qr [] (fun w hm => ⟨rfl, hm.pk []⟩)
  ·refine jc_skip (jx_then (jc_seq (jc_region (qh [0,1,0,0] (qe (jx_then (jc_seq (jc_meet (fun (j : Int) => match j with | i_1 => spec_l07Cost.k_2 c0 x1 i_1 = some r) (fun (j : Int) => match j with | i_1 => [(2, [], (.pointer (some ⟨b_1, 0, none⟩))), (3, [], (.pointer (some ⟨b_2, 0, none⟩))), (4, [], (.int .i64 0)), (5, [], (.int .i64 i_1))]) (fun (j : Int) => match j with | i_1 => [⟨some b_1, 33, [(.int .i16 c0.fAway), (.int .i16 c0.fOctave), (.int .i16 c0.fStep)]⟩, ⟨some b_2, 104, [(.bool x1.fAway), (.int .i8 x1.fLate), (.int .i8 x1.fOctave), (.int .i8 x1.fTrack)]⟩]) ?_ ?_))))))))
   ·refine jc_seq (jc_region (qh [0,0] (qe (jx_then (qi h (fun h => ?_) (fun h => ?_))))))
    ·exact jc_region (qh [0,0,0] (qe (qm (w64 (0 - (w64 x1.fLate))) h [0, 1])))
    ·exact jc_skip (qm (w64 x1.fLate) h [0, 1])
   ·rintro i_1 h
    replace h : spec_l07Cost.k_2 c0 x1 i_1 = some r := h
    rw [spec_l07Cost.k_2] at h
    refine jx_then (jc_seq (jc_region (qh [0,0,0,0,0,0] (qe (jx_then (jc_seq (jc_meet (fun (j : Int) => match j with | i_3 => spec_l07Cost.k_4 i_3 = some r) (fun (j : Int) => match j with | i_3 => [(4, [], (.int .i64 0)), (6, [], (.int .i64 i_3))]) (fun (j : Int) => match j with | i_3 => [⟨some b_1, 33, [(.int .i16 c0.fAway), (.int .i16 c0.fOctave), (.int .i16 c0.fStep)]⟩, ⟨some b_2, 104, [(.bool x1.fAway), (.int .i8 x1.fLate), (.int .i8 x1.fOctave), (.int .i8 x1.fTrack)]⟩]) ?_ ?_)))))))
    ·refine jc_seq (jc_region (qh [0,1,0] (qe (jx_then (qi h (fun h => ?_) (fun h => ?_))))))
     ·exact jc_region (qh [0,0,0,0,0,0] (qe (qm (w64 ((w64 ((w64 c0.fStep) * i_1)) + (w64 c0.fOctave))) h [0, 1])))
     ·exact jc_skip (qm (w64 ((w64 c0.fStep) * i_1)) h [0, 1])
    ·rintro i_3 h
     replace h : spec_l07Cost.k_4 i_3 = some r := h
     rw [spec_l07Cost.k_4] at h
     refine jx_then (jc_seq (jc_region (qh [0,0] (qe (jx_then (jc_ret ?_))))))
     obtain rfl := Option.some.inj h
     exact qr [] (fun w hm => ⟨rfl, hm.pk []⟩)
/-! ### spec.l07Ordered -/
def spec_l07Ordered.k_3 (xs_2 : List GChoice) : Option ((List GChoice)) := some xs_2
def spec_l07Ordered.k_9 (i_5 : Int) (xs_8 : List GChoice) : Option (((List GChoice) × Int) ⊕ ((List GChoice))) := some (.inl (xs_8, (w64 (i_5 + 1))))
def spec_l07Ordered.l_12 (c2 : GCosts) : ((List GChoice) × Int) → Option (((List GChoice) × Int) ⊕ ((List GChoice)))
  | (xs_10, i_11) => (if (decide (i_11 > 0)) = true then (ix xs_10 i_11).bind fun x_14 => (ix xs_10 (w64 (i_11 - 1))).bind fun x_15 => (spec_l07Cost c2 x_14).bind fun t_16 => (spec_l07Cost c2 x_15).bind fun t_17 => (if (decide (t_16 < t_17)) = true then (ix xs_10 i_11).bind fun x_18 => (ix xs_10 (w64 (i_11 - 1))).bind fun x_19 => (ix xs_10 i_11).bind fun x_20 => (ix (xs_10.set i_11.toNat x_19) (w64 (i_11 - 1))).bind fun x_21 => some (.inl (((xs_10.set i_11.toNat x_19).set (w64 (i_11 - 1)).toNat x_18), (w64 (i_11 - 1)))) else some (.inr xs_10)) else some (.inr xs_10))
def spec_l07Ordered.l_6 (c2 : GCosts) (t_1 : (List GChoice)) : ((List GChoice) × Int) → Option (((List GChoice) × Int) ⊕ ((List GChoice)))
  | (xs_4, i_5) => (if (decide (i_5 < (t_1.length : Int))) = true then (loop (spec_l07Ordered.l_12 c2) (xs_4, i_5)).bind fun t_13 => spec_l07Ordered.k_9 i_5 t_13 else some (.inr xs_4))
def spec_l07Ordered (f0 : GFrame) (n1 : GNote) (c2 : GCosts) : Option ((List GChoice)) := (spec_l07For f0 n1).bind fun t_1 => (loop (spec_l07Ordered.l_6 c2 t_1) (t_1, 1)).bind fun t_7 => spec_l07Ordered.k_3 t_7
theorem spec_l07Ordered.calls (f0 : GFrame) (n1 : GNote) (c2 : GCosts) (w : World) (r : (List GChoice)) {C_a : Option Addr} {C_an : Nat} (C_c : Nat) (C_h : Rw w C_a 2 encGHammer f0.fHammers) (C_hn : f0.fHammers.length = C_an) (A_b : Nat) (hm0 : Mem w (bs [some A_b]) [⟨some A_b, 27, [(.int .i16 f0.fSteps), (.slice C_a C_an C_c)]⟩] w) (C_ha : f0.fHammers ≠ [] → aB C_a ∉ bs [some A_b]) (h : spec_l07Ordered f0 n1 c2 = some r) :
    Calls Tryz.prog 163 #[(.pointer (some ⟨A_b, 0, none⟩)), (.agg #[(.int .i16 n1.fAt), (.int .i8 n1.fPitch)]), (.agg #[(.int .i16 c2.fAway), (.int .i16 c2.fOctave), (.int .i16 c2.fStep)])] w fun e w' => ∃ v, e = .returned v ∧ (∃ (o0 : Option Nat) (c0 : Nat) (s0 : List Value) (n0 : Nat), r.length = n0 ∧ (o0 ≠ none → n0 ≤ c0 ∧ s0.length = (c0 - n0) * 4) ∧ (o0 = none → r = [] ∧ c0 = 0) ∧ v = .slice (o0.map fun b => ⟨b, 0, none⟩) n0 c0 ∧ Mem w (bs [some A_b]) [⟨some A_b, 27, [(.int .i16 f0.fSteps), (.slice C_a C_an C_c)]⟩, ⟨o0, 104, row encGChoice r s0⟩] w') := by
  subst C_hn
  rw [spec_l07Ordered] at h
  refine enter (args := [(.pointer (some ⟨A_b, 0, none⟩)), (.agg #[(.int .i16 n1.fAt), (.int .i8 n1.fPitch)]), (.agg #[(.int .i16 c2.fAway), (.int .i16 c2.fOctave), (.int .i16 c2.fStep)])]) Tryz.func163 rfl Tryz.ntmps163 (by kernel_rfl) (L := [⟨some A_b, 27, [(.int .i16 f0.fSteps), (.slice C_a f0.fHammers.length C_c)]⟩]) (W := bs [some A_b]) hm0 ?_
  refine jc_seq (jc_region (tO (qa 0 (fun b_1 => jkO (tO (qa 0 (fun b_2 => jkO (qh [0] (qe (jx_then (jc_seq (jc_region (qh [0,1] ?_)))))))))))))
  obtain ⟨t_1, ht_3, h⟩ := bd h
  refine tO (pc 0 (fun w hm => spec_l07For.calls f0 n1 w _ C_c (hm.exRowW C_h C_ha) rfl A_b (hm.pass (N := [⟨some A_b, 27, [(.int .i16 f0.fSteps), (.slice C_a f0.fHammers.length C_c)]⟩]) [0] (by kernel_rfl) (by kernel_rfl)) (hm.exApart (N := [⟨some A_b, 27, [(.int .i16 f0.fSteps), (.slice C_a f0.fHammers.length C_c)]⟩]) C_h C_ha [0] (by kernel_rfl)) ht_3) ?_)
  rintro w v w' hm ⟨o_4, cap_5, sp_6, _, rfl, hs_7, ho_8, rfl, hm'⟩
  refine ⟨_, hm.appW (ps := [(0, ⟨some A_b, 27, [(.int .i16 f0.fSteps), (.slice C_a f0.fHammers.length C_c)]⟩)]) (N := [⟨o_4, 104, row encGChoice t_1 sp_6⟩]) hm' (by kernel_rfl) (by kernel_rfl), jkO ?_⟩
  clear hm hm'
  refine qh [0] (qe (jx_then (jc_seq (jc_seq (jc_region (qh [0] (qe (jx_then (jc_meet (fun (j : (List GChoice)) => match j with | xs_2 => spec_l07Ordered.k_3 xs_2 = some r ∧ (xs_2.length = t_1.length) ∧ ((o_4 = none → xs_2 = [] ∧ cap_5 = 0))) (fun (j : (List GChoice)) => match j with | xs_2 => [(6, [], (.slice none 0 0)), (7, [], (.slice (o_4.map fun b => ⟨b, 0, none⟩) t_1.length cap_5))]) (fun (j : (List GChoice)) => match j with | xs_2 => [⟨some A_b, 27, [(.int .i16 f0.fSteps), (.slice C_a f0.fHammers.length C_c)]⟩, ⟨some b_1, 101, [(.int .i16 n1.fAt), (.int .i8 n1.fPitch)]⟩, ⟨some b_2, 33, [(.int .i16 c2.fAway), (.int .i16 c2.fOctave), (.int .i16 c2.fStep)]⟩, ⟨o_4, 104, row encGChoice xs_2 sp_6⟩]) ?_ ?_)))))))))
  ·refine jc_block ?_
   obtain ⟨t_7, ht_1676, hr_1537⟩ := bd h
   refine jc_loop (fun (s : (List GChoice) × Int) (x : Unit) => match s, x with | ⟨xs_4, i_5⟩, _ => (xs_4.length = t_1.length) ∧ ((o_4 = none → xs_4 = [] ∧ cap_5 = 0))) (fun (s : (List GChoice) × Int) (x : Unit) => match s, x with | ⟨xs_4, i_5⟩, _ => [(5, [], (.pointer (some ⟨b_2, 0, none⟩))), (6, [], (.slice none 0 0)), (7, [], (.slice (o_4.map fun b => ⟨b, 0, none⟩) t_1.length cap_5)), (8, [], (.int .i64 i_5))]) (fun (s : (List GChoice) × Int) (x : Unit) => match s, x with | ⟨xs_4, i_5⟩, _ => [⟨some A_b, 27, [(.int .i16 f0.fSteps), (.slice C_a f0.fHammers.length C_c)]⟩, ⟨some b_1, 101, [(.int .i16 n1.fAt), (.int .i8 n1.fPitch)]⟩, ⟨some b_2, 33, [(.int .i16 c2.fAway), (.int .i16 c2.fOctave), (.int .i16 c2.fStep)]⟩, ⟨o_4, 104, row encGChoice xs_4 sp_6⟩]) ht_1676 () ⟨rfl, ho_8⟩ (by kernel_rfl) [0, 1, 2, 3] (by kernel_rfl) (by kernel_rfl) ?_
   rintro ⟨xs_4, i_5⟩ _ y_1538 ⟨hn_1536, ho_1535⟩ h
   rw [spec_l07Ordered.l_6] at h
   refine jc_seq (jc_seq (jc_region (qh [0,0,0,0] (qe (jx_then (qi h (fun h => ?_) (fun h => ?_)))))))
   ·refine jc_skip (jx_then (jc_seq (jc_block (jc_seq (jc_region (qh [0,0] (qe (jx_then (jc_meet (fun (j : (List GChoice)) => match j with | xs_8 => spec_l07Ordered.k_9 i_5 xs_8 = some y_1538 ∧ (xs_8.length = t_1.length) ∧ ((o_4 = none → xs_8 = [] ∧ cap_5 = 0))) (fun (j : (List GChoice)) => match j with | xs_8 => [(5, [], (.pointer (some ⟨b_2, 0, none⟩))), (6, [], (.slice none 0 0)), (7, [], (.slice (o_4.map fun b => ⟨b, 0, none⟩) t_1.length cap_5)), (8, [], (.int .i64 i_5))]) (fun (j : (List GChoice)) => match j with | xs_8 => [⟨some A_b, 27, [(.int .i16 f0.fSteps), (.slice C_a f0.fHammers.length C_c)]⟩, ⟨some b_1, 101, [(.int .i16 n1.fAt), (.int .i8 n1.fPitch)]⟩, ⟨some b_2, 33, [(.int .i16 c2.fAway), (.int .i16 c2.fOctave), (.int .i16 c2.fStep)]⟩, ⟨o_4, 104, row encGChoice xs_8 sp_6⟩]) ?_ ?_)))))))))
    ·refine jc_block ?_
     obtain ⟨t_13, ht_1674, hr_1651⟩ := bd h
     refine jc_loop (fun (s : (List GChoice) × Int) (x : Unit) => match s, x with | ⟨xs_10, i_11⟩, _ => (xs_10.length = t_1.length) ∧ ((o_4 = none → xs_10 = [] ∧ cap_5 = 0))) (fun (s : (List GChoice) × Int) (x : Unit) => match s, x with | ⟨xs_10, i_11⟩, _ => [(5, [], (.pointer (some ⟨b_2, 0, none⟩))), (6, [], (.slice none 0 0)), (7, [], (.slice (o_4.map fun b => ⟨b, 0, none⟩) t_1.length cap_5)), (8, [], (.int .i64 i_5)), (9, [], (.int .i64 i_11))]) (fun (s : (List GChoice) × Int) (x : Unit) => match s, x with | ⟨xs_10, i_11⟩, _ => [⟨some A_b, 27, [(.int .i16 f0.fSteps), (.slice C_a f0.fHammers.length C_c)]⟩, ⟨some b_1, 101, [(.int .i16 n1.fAt), (.int .i8 n1.fPitch)]⟩, ⟨some b_2, 33, [(.int .i16 c2.fAway), (.int .i16 c2.fOctave), (.int .i16 c2.fStep)]⟩, ⟨o_4, 104, row encGChoice xs_10 sp_6⟩]) ht_1674 () ⟨hn_1536, ho_1535⟩ (by kernel_rfl) [0, 1, 2, 3] (by kernel_rfl) (by kernel_rfl) ?_
     rintro ⟨xs_10, i_11⟩ _ y_1652 ⟨hn_1650, ho_1649⟩ h
     rw [spec_l07Ordered.l_12] at h
     refine jc_seq (jc_seq (qg [⟨some A_b, 27, [(.int .i16 f0.fSteps), (.slice C_a f0.fHammers.length C_c)]⟩, ⟨some b_1, 101, [(.int .i16 n1.fAt), (.int .i8 n1.fPitch)]⟩, ⟨some b_2, 33, [(.int .i16 c2.fAway), (.int .i16 c2.fOctave), (.int .i16 c2.fStep)]⟩, ⟨o_4, 104, row encGChoice xs_10 sp_6⟩] 18 (qd [⟨0, 0, 0⟩,⟨1, 0, 0⟩,⟨2, 0, 0⟩,⟨3, 2, 1⟩,⟨4, 0, 1⟩,⟨5, 0, 1⟩,⟨9, 2, 1⟩,⟨10, 0, 1⟩,⟨11, 0, 1⟩,⟨12, 0, 1⟩] 8 [0, 1, 2, 3] (jd_split 23 (decide (i_11 > 0)) (by kernel_rfl) (fun hc_1660 => ?_) (fun hc_1660 => ?_)))))
     ·replace h := ifT hc_1660 h
      obtain ⟨x_14, hx_1661, h⟩ := bd h
      refine qv 6 2 [0, 1, 2, 3] (fun w hm => idx_run (a := (o_4.map fun b => ⟨b, 0, none⟩)) (len := t_1.length) (s := 4) (j := i_11) (by kernel_rfl) (ix_some hx_1661).1 (ltn hx_1661 hn_1650) (spo ho_1649 hx_1661)) (qv 7 2 [0, 1, 2, 3] (fun w hm => ld_run (b := aB (o_4.map fun b => ⟨b, 0, none⟩)) (off := (aO (o_4.map fun b => ⟨b, 0, none⟩) + i_11.toNat * 4)) (s := 4) (agg := true) (vs := (encGChoice x_14)) (by kernel_rfl) (by kernel_rfl) (.inl rfl) ((hm.ow 3 o_4 104 xs_10 sp_6 (fun e => (ho_1649 e).1) encGChoice_len).at hx_1661)) ?_)
      obtain ⟨x_15, hx_1662, h⟩ := bd h
      refine qv 13 2 [0, 1, 2, 3] (fun w hm => idx_run (a := (o_4.map fun b => ⟨b, 0, none⟩)) (len := t_1.length) (s := 4) (j := (w64 (i_11 - 1))) (by kernel_rfl) (ix_some hx_1662).1 (ltn hx_1662 hn_1650) (spo ho_1649 hx_1662)) (qv 14 2 [0, 1, 2, 3] (fun w hm => ld_run (b := aB (o_4.map fun b => ⟨b, 0, none⟩)) (off := (aO (o_4.map fun b => ⟨b, 0, none⟩) + (w64 (i_11 - 1)).toNat * 4)) (s := 4) (agg := true) (vs := (encGChoice x_15)) (by kernel_rfl) (by kernel_rfl) (.inl rfl) ((hm.ow 3 o_4 104 xs_10 sp_6 (fun e => (ho_1649 e).1) encGChoice_len).at hx_1662)) ?_)
      obtain ⟨t_16, ht_1663, h⟩ := bd h
      refine tD 8 (pc 2 (fun w hm => spec_l07Cost.calls c2 x_14 w _ ht_1663) ?_)
      rintro w v w' hm ⟨rfl, hm'⟩
      refine ⟨_, hm.app hm', kD [0, 1, 2, 3] ?_⟩
      clear hm hm'
      obtain ⟨t_17, ht_1664, h⟩ := bd h
      refine tD 15 (pc 2 (fun w hm => spec_l07Cost.calls c2 x_15 w _ ht_1664) ?_)
      rintro w v w' hm ⟨rfl, hm'⟩
      refine ⟨_, hm.app hm', kD [0, 1, 2, 3] ?_⟩
      clear hm hm'
      refine qd [⟨16, 0, 2⟩,⟨17, 0, 4⟩] 0 [0, 1, 2, 3] (qz (jx_then (qi h (fun h => ?_) (fun h => ?_))))
      ·refine jc_skip (jx_then (jc_seq (jc_block (jc_seq (jc_region (qh [0,0] ?_))))))
       obtain ⟨x_18, hx_1666, h⟩ := bd h
       refine tO (qx 0 (o_4.map fun b => ⟨b, 0, none⟩) 4 hx_1666 hn_1650 (spo ho_1649 hx_1666) (jkO (tO (ql 0 true (fun w hm => ((hm.ow 3 o_4 104 xs_10 sp_6 (fun e => (ho_1649 e).1) encGChoice_len).at hx_1666)) (jkO (tO (qa 0 (fun b_1667 => jkO (tO (qs 0 [4] (jkO (qe (jx_then (jc_seq (jc_region (qh [0,0,0,0,0] ?_))))))))))))))))
       obtain ⟨x_19, hx_1668, h⟩ := bd h
       refine tO (qx 0 (o_4.map fun b => ⟨b, 0, none⟩) 4 hx_1668 hn_1650 (spo ho_1649 hx_1668) (jkO (tO (ql 0 true (fun w hm => ((hm.ow 3 o_4 104 xs_10 sp_6 (fun e => (ho_1649 e).1) encGChoice_len).at hx_1668)) (jkO ?_)))))
       obtain ⟨x_20, hx_1669, h⟩ := bd h
       refine tO (qx 0 (o_4.map fun b => ⟨b, 0, none⟩) 4 hx_1669 hn_1650 (spo ho_1649 hx_1669) (jkO (tO (p_strO 0 3 o_4 104 encGChoice xs_10 sp_6 i_11 x_19 4 0 [(.bool x_19.fAway), (.int .i8 x_19.fLate), (.int .i8 x_19.fOctave), (.int .i8 x_19.fTrack)] (by kernel_rfl) (by kernel_rfl) (by kernel_rfl) (fun e => (ho_1649 e).1) encGChoice_len hx_1669 (by kernel_rfl) (by kernel_rfl) (jkO (qe (jx_then (jc_region (qh [0,0,0,4] ?_)))))))))
       obtain ⟨x_21, hx_1670, h⟩ := bd h
       exact tO (qx 0 (o_4.map fun b => ⟨b, 0, none⟩) 4 hx_1670 (List.length_set.trans hn_1650) (spo (set_ho ho_1649) hx_1670) (jkO (tO (p_strO 0 3 o_4 104 encGChoice (xs_10.set i_11.toNat x_19) sp_6 (w64 (i_11 - 1)) x_18 4 0 [(.bool x_18.fAway), (.int .i8 x_18.fLate), (.int .i8 x_18.fOctave), (.int .i8 x_18.fTrack)] (by kernel_rfl) (by kernel_rfl) (by kernel_rfl) (fun e => ((set_ho ho_1649) e).1) encGChoice_len hx_1670 (by kernel_rfl) (by kernel_rfl) (jkO (qe (jx_inn (jx_then (jc_region (qh [0,0,0] (qe (qb (((xs_10.set i_11.toNat x_19).set (w64 (i_11 - 1)).toNat x_18), (w64 (i_11 - 1))) () h ⟨(List.length_set.trans (List.length_set.trans hn_1650)), (set_ho (set_ho ho_1649))⟩ [0, 1, 2, 3]))))))))))))
      ·refine jc_exit (jx_thenx (jx_leave xs_10 (Option.some.inj h).symm (fun e_1671 => ?_)))
       subst e_1671
       exact jx_ine (qm xs_10 ⟨hr_1651, hn_1650, ho_1649⟩ [0, 1, 2, 3])
     ·replace h := ifF hc_1660 h
      refine qd [⟨6, 0, 3⟩,⟨7, 0, 3⟩,⟨8, 0, 3⟩,⟨13, 0, 3⟩,⟨14, 0, 3⟩,⟨15, 0, 3⟩,⟨16, 0, 3⟩,⟨17, 0, 5⟩] 0 [0, 1, 2, 3] (qz (jx_then (jc_cond false (by kernel_rfl) (fun hc_1672 => nomatch hc_1672) (fun hc_1672 => (jc_exit (jx_thenx (jx_leave xs_10 (Option.some.inj h).symm (fun e_1673 => ?_))))))))
      subst e_1673
      exact jx_ine (qm xs_10 ⟨hr_1651, hn_1650, ho_1649⟩ [0, 1, 2, 3])
    ·rintro xs_8 ⟨h, hn_1608, ho_1607⟩
     replace h : spec_l07Ordered.k_9 i_5 xs_8 = some y_1538 := h
     rw [spec_l07Ordered.k_9] at h
     exact jx_inn (jx_then (jc_region (qh [0,0,0] (qe (qb (xs_8, (w64 (i_5 + 1))) () h ⟨hn_1608, ho_1607⟩ [0, 1, 2, 3])))))
   ·refine jc_exit (jx_thenx (jx_leave xs_4 (Option.some.inj h).symm (fun e_1675 => ?_)))
    subst e_1675
    exact jx_ine (qm xs_4 ⟨hr_1537, hn_1536, ho_1535⟩ [0, 1, 2, 3])
  ·rintro xs_2 ⟨h, hn_1260, ho_1259⟩
   replace h : spec_l07Ordered.k_3 xs_2 = some r := h
   rw [spec_l07Ordered.k_3] at h
   refine jx_then (jc_seq (jc_region (qh [0,0] (qe (jx_then (jc_ret ?_))))))
   obtain rfl := Option.some.inj h
   exact qr [] (fun w hm => ⟨o_4, cap_5, sp_6, t_1.length, hn_1260, hs_7, ho_1259, rfl, hm.pk [0, 3]⟩)
/-! ### spec.l07Least -/
def spec_l07Least.k_5 (i_4 : Int) : Option (Int) := some i_4
def spec_l07Least.l_8 (c2 : GCosts) (t_1 : (List GChoice)) : (Int × Int) → Option ((Int × Int) ⊕ (Int))
  | (i_6, i_7) => (if (decide (i_7 < (t_1.length : Int))) = true then (ix t_1 i_7).bind fun x_10 => (spec_l07Cost c2 x_10).bind fun t_11 => (spec_l00Min i_6 t_11).bind fun t_12 => some (.inl (t_12, (w64 (i_7 + 1)))) else some (.inr i_6))
def spec_l07Least (f0 : GFrame) (n1 : GNote) (c2 : GCosts) : Option (Int) := (spec_l07For f0 n1).bind fun t_1 => (ix t_1 0).bind fun x_2 => (spec_l07Cost c2 x_2).bind fun t_3 => (loop (spec_l07Least.l_8 c2 t_1) (t_3, 1)).bind fun t_9 => spec_l07Least.k_5 t_9
theorem spec_l07Least.calls (f0 : GFrame) (n1 : GNote) (c2 : GCosts) (w : World) (r : Int) {C_a : Option Addr} {C_an : Nat} (C_c : Nat) (C_h : Rw w C_a 2 encGHammer f0.fHammers) (C_hn : f0.fHammers.length = C_an) (A_b : Nat) (hm0 : Mem w (bs [some A_b]) [⟨some A_b, 27, [(.int .i16 f0.fSteps), (.slice C_a C_an C_c)]⟩] w) (C_ha : f0.fHammers ≠ [] → aB C_a ∉ bs [some A_b]) (h : spec_l07Least f0 n1 c2 = some r) :
    Calls Tryz.prog 108 #[(.pointer (some ⟨A_b, 0, none⟩)), (.agg #[(.int .i16 n1.fAt), (.int .i8 n1.fPitch)]), (.agg #[(.int .i16 c2.fAway), (.int .i16 c2.fOctave), (.int .i16 c2.fStep)])] w fun e w' => ∃ v, e = .returned v ∧ (v = (.int .i64 r) ∧ Mem w (bs [some A_b]) [⟨some A_b, 27, [(.int .i16 f0.fSteps), (.slice C_a C_an C_c)]⟩] w') := by
  subst C_hn
  rw [spec_l07Least] at h
  refine enter (args := [(.pointer (some ⟨A_b, 0, none⟩)), (.agg #[(.int .i16 n1.fAt), (.int .i8 n1.fPitch)]), (.agg #[(.int .i16 c2.fAway), (.int .i16 c2.fOctave), (.int .i16 c2.fStep)])]) Tryz.func108 rfl Tryz.ntmps108 (by kernel_rfl) (L := [⟨some A_b, 27, [(.int .i16 f0.fSteps), (.slice C_a f0.fHammers.length C_c)]⟩]) (W := bs [some A_b]) hm0 ?_
  refine jc_seq (jc_region (tO (qa 0 (fun b_1 => jkO (tO (qa 0 (fun b_2 => jkO (qh [0] (qe (jx_then (jc_seq (jc_region (qh [0,1] ?_)))))))))))))
  obtain ⟨t_1, ht_3, h⟩ := bd h
  refine tO (pc 0 (fun w hm => spec_l07For.calls f0 n1 w _ C_c (hm.exRowW C_h C_ha) rfl A_b (hm.pass (N := [⟨some A_b, 27, [(.int .i16 f0.fSteps), (.slice C_a f0.fHammers.length C_c)]⟩]) [0] (by kernel_rfl) (by kernel_rfl)) (hm.exApart (N := [⟨some A_b, 27, [(.int .i16 f0.fSteps), (.slice C_a f0.fHammers.length C_c)]⟩]) C_h C_ha [0] (by kernel_rfl)) ht_3) ?_)
  rintro w v w' hm ⟨o_4, cap_5, sp_6, _, rfl, hs_7, ho_8, rfl, hm'⟩
  refine ⟨_, hm.appW (ps := [(0, ⟨some A_b, 27, [(.int .i16 f0.fSteps), (.slice C_a f0.fHammers.length C_c)]⟩)]) (N := [⟨o_4, 104, row encGChoice t_1 sp_6⟩]) hm' (by kernel_rfl) (by kernel_rfl), jkO ?_⟩
  clear hm hm'
  refine qh [0] (qe (jx_then (jc_seq (qg [⟨some A_b, 27, [(.int .i16 f0.fSteps), (.slice C_a f0.fHammers.length C_c)]⟩, ⟨some b_1, 101, [(.int .i16 n1.fAt), (.int .i8 n1.fPitch)]⟩, ⟨some b_2, 33, [(.int .i16 c2.fAway), (.int .i16 c2.fOctave), (.int .i16 c2.fStep)]⟩, ⟨o_4, 104, row encGChoice t_1 sp_6⟩] 6 (qd [⟨0, 2, 0⟩,⟨1, 0, 0⟩] 4 [0, 1, 2, 3] ?_)))))
  obtain ⟨x_2, hx_9, h⟩ := bd h
  refine qv 2 0 [0, 1, 2, 3] (fun w hm => idx_run (a := (o_4.map fun b => ⟨b, 0, none⟩)) (len := t_1.length) (s := 4) (j := 0) (by kernel_rfl) (ix_some hx_9).1 (ltn hx_9 rfl) (spo ho_8 hx_9)) (qv 3 0 [0, 1, 2, 3] (fun w hm => ld_run (b := aB (o_4.map fun b => ⟨b, 0, none⟩)) (off := (aO (o_4.map fun b => ⟨b, 0, none⟩) + (0 : Int).toNat * 4)) (s := 4) (agg := true) (vs := (encGChoice x_2)) (by kernel_rfl) (by kernel_rfl) (.inl rfl) ((hm.ow 3 o_4 104 t_1 sp_6 (fun e => (ho_8 e).1) encGChoice_len).at hx_9)) ?_)
  obtain ⟨t_3, ht_10, h⟩ := bd h
  refine tD 4 (pc 0 (fun w hm => spec_l07Cost.calls c2 x_2 w _ ht_10) ?_)
  rintro w v w' hm ⟨rfl, hm'⟩
  refine ⟨_, hm.app hm', kD [0, 1, 2, 3] ?_⟩
  clear hm hm'
  refine qd [⟨5, 0, 0⟩] 0 [0, 1, 2, 3] (qz (jx_then (jc_seq (jc_seq (jc_region (qh [0] (qe (jx_then (jc_meet (fun (j : Int) => match j with | i_4 => spec_l07Least.k_5 i_4 = some r) (fun (j : Int) => match j with | i_4 => [(6, [], (.int .i64 0)), (8, [], (.int .i64 i_4))]) (fun (j : Int) => match j with | i_4 => [⟨some A_b, 27, [(.int .i16 f0.fSteps), (.slice C_a f0.fHammers.length C_c)]⟩, ⟨some b_1, 101, [(.int .i16 n1.fAt), (.int .i8 n1.fPitch)]⟩, ⟨some b_2, 33, [(.int .i16 c2.fAway), (.int .i16 c2.fOctave), (.int .i16 c2.fStep)]⟩, ⟨o_4, 104, row encGChoice t_1 sp_6⟩]) ?_ ?_)))))))))
  ·refine jc_block ?_
   obtain ⟨t_9, ht_86, hr_78⟩ := bd h
   refine jc_loop (fun (s : Int × Int) (x : Unit) => match s, x with | ⟨i_6, i_7⟩, _ => True) (fun (s : Int × Int) (x : Unit) => match s, x with | ⟨i_6, i_7⟩, _ => [(5, [], (.pointer (some ⟨b_2, 0, none⟩))), (6, [], (.int .i64 0)), (7, [], (.slice (o_4.map fun b => ⟨b, 0, none⟩) t_1.length cap_5)), (8, [], (.int .i64 i_6)), (9, [], (.int .i64 i_7))]) (fun (s : Int × Int) (x : Unit) => match s, x with | ⟨i_6, i_7⟩, _ => [⟨some A_b, 27, [(.int .i16 f0.fSteps), (.slice C_a f0.fHammers.length C_c)]⟩, ⟨some b_1, 101, [(.int .i16 n1.fAt), (.int .i8 n1.fPitch)]⟩, ⟨some b_2, 33, [(.int .i16 c2.fAway), (.int .i16 c2.fOctave), (.int .i16 c2.fStep)]⟩, ⟨o_4, 104, row encGChoice t_1 sp_6⟩]) ht_86 () trivial (by kernel_rfl) [0, 1, 2, 3] (by kernel_rfl) (by kernel_rfl) ?_
   rintro ⟨i_6, i_7⟩ _ y_79 _ h
   rw [spec_l07Least.l_8] at h
   refine jc_seq (jc_seq (jc_region (qh [0,0,0,0] (qe (jx_then (qi h (fun h => ?_) (fun h => ?_)))))))
   ·refine jc_skip (jx_then (jc_seq (jc_block (qg [⟨some A_b, 27, [(.int .i16 f0.fSteps), (.slice C_a f0.fHammers.length C_c)]⟩, ⟨some b_1, 101, [(.int .i16 n1.fAt), (.int .i8 n1.fPitch)]⟩, ⟨some b_2, 33, [(.int .i16 c2.fAway), (.int .i16 c2.fOctave), (.int .i16 c2.fStep)]⟩, ⟨o_4, 104, row encGChoice t_1 sp_6⟩] 9 (qd [⟨0, 0, 0⟩,⟨1, 2, 0⟩,⟨2, 0, 0⟩,⟨3, 0, 0⟩] 5 [0, 1, 2, 3] ?_)))))
    obtain ⟨x_10, hx_82, h⟩ := bd h
    refine qv 4 0 [0, 1, 2, 3] (fun w hm => idx_run (a := (o_4.map fun b => ⟨b, 0, none⟩)) (len := t_1.length) (s := 4) (j := i_7) (by kernel_rfl) (ix_some hx_82).1 (ltn hx_82 rfl) (spo ho_8 hx_82)) (qv 5 0 [0, 1, 2, 3] (fun w hm => ld_run (b := aB (o_4.map fun b => ⟨b, 0, none⟩)) (off := (aO (o_4.map fun b => ⟨b, 0, none⟩) + i_7.toNat * 4)) (s := 4) (agg := true) (vs := (encGChoice x_10)) (by kernel_rfl) (by kernel_rfl) (.inl rfl) ((hm.ow 3 o_4 104 t_1 sp_6 (fun e => (ho_8 e).1) encGChoice_len).at hx_82)) ?_)
    obtain ⟨t_11, ht_83, h⟩ := bd h
    refine tD 6 (pc 0 (fun w hm => spec_l07Cost.calls c2 x_10 w _ ht_83) ?_)
    rintro w v w' hm ⟨rfl, hm'⟩
    refine ⟨_, hm.app hm', kD [0, 1, 2, 3] ?_⟩
    clear hm hm'
    obtain ⟨t_12, ht_84, h⟩ := bd h
    refine tD 7 (pc 0 (fun w hm => spec_l00Min.calls i_6 t_11 w _ ht_84) ?_)
    rintro w v w' hm ⟨rfl, hm'⟩
    refine ⟨_, hm.app hm', kD [0, 1, 2, 3] ?_⟩
    clear hm hm'
    exact qd [⟨8, 0, 0⟩] 0 [0, 1, 2, 3] (qz (jx_inn (jx_then (jc_region (qh [0,0,0] (qe (qb (t_12, (w64 (i_7 + 1))) () h trivial [0, 1, 2, 3])))))))
   ·refine jc_exit (jx_thenx (jx_leave i_6 (Option.some.inj h).symm (fun e_85 => ?_)))
    subst e_85
    exact jx_ine (qm i_6 hr_78 [0, 1, 2, 3])
  ·rintro i_4 h
   replace h : spec_l07Least.k_5 i_4 = some r := h
   rw [spec_l07Least.k_5] at h
   refine jx_then (jc_seq (jc_region (qh [0,0] (qe (jx_then (jc_ret ?_))))))
   obtain rfl := Option.some.inj h
   exact qr [] (fun w hm => ⟨rfl, hm.pk [0]⟩)
/-! ### spec.l07Bound -/
def spec_l07Bound.k_2 (i_1 : Int) : Option (Int) := some i_1
def spec_l07Bound.l_5 (f0 : GFrame) (t1 : List GNote) (c2 : GCosts) : (Int × Int) → Option ((Int × Int) ⊕ (Int))
  | (i_3, i_4) => (if (decide (i_4 < (t1.length : Int))) = true then (ix t1 i_4).bind fun x_7 => (spec_l07Least f0 x_7 c2).bind fun t_8 => some (.inl ((w64 (i_3 + t_8)), (w64 (i_4 + 1)))) else some (.inr i_3))
def spec_l07Bound (f0 : GFrame) (t1 : List GNote) (c2 : GCosts) (from3 : Int) : Option (Int) := (loop (spec_l07Bound.l_5 f0 t1 c2) (0, from3)).bind fun t_6 => spec_l07Bound.k_2 t_6
theorem spec_l07Bound.calls (f0 : GFrame) (t1 : List GNote) (c2 : GCosts) (from3 : Int) (w : World) (r : Int) {C_a : Option Addr} {C_an : Nat} (C_c : Nat) (C_h : Rw w C_a 2 encGHammer f0.fHammers) (C_hn : f0.fHammers.length = C_an) {D_a : Option Addr} {D_an : Nat} (D_c : Nat) (D_h : Rw w D_a 2 encGNote t1) (D_hn : t1.length = D_an) (A_b : Nat) (hm0 : Mem w (bs [some A_b]) [⟨some A_b, 27, [(.int .i16 f0.fSteps), (.slice C_a C_an C_c)]⟩] w) (C_ha : f0.fHammers ≠ [] → aB C_a ∉ bs [some A_b]) (D_ha : t1 ≠ [] → aB D_a ∉ bs [some A_b]) (h : spec_l07Bound f0 t1 c2 from3 = some r) :
    Calls Tryz.prog 164 #[(.pointer (some ⟨A_b, 0, none⟩)), (.slice D_a D_an D_c), (.agg #[(.int .i16 c2.fAway), (.int .i16 c2.fOctave), (.int .i16 c2.fStep)]), (.int .i64 from3)] w fun e w' => ∃ v, e = .returned v ∧ (v = (.int .i64 r) ∧ Mem w (bs [some A_b]) [⟨some A_b, 27, [(.int .i16 f0.fSteps), (.slice C_a C_an C_c)]⟩] w') := by
  subst C_hn D_hn
  rw [spec_l07Bound] at h
  refine enter (args := [(.pointer (some ⟨A_b, 0, none⟩)), (.slice D_a t1.length D_c), (.agg #[(.int .i16 c2.fAway), (.int .i16 c2.fOctave), (.int .i16 c2.fStep)]), (.int .i64 from3)]) Tryz.func164 rfl Tryz.ntmps164 (by kernel_rfl) (L := [⟨some A_b, 27, [(.int .i16 f0.fSteps), (.slice C_a f0.fHammers.length C_c)]⟩]) (W := bs [some A_b]) hm0 ?_
  refine jc_seq (jc_region (tO (qa 0 (fun b_1 => jkO (qh [0] (qe (jx_then (jc_seq (jc_region (qh [0] (qe (jx_then (jc_seq (jc_seq (jc_region (qh [0,0] (qe (jx_then (jc_meet (fun (j : Int) => match j with | i_1 => spec_l07Bound.k_2 i_1 = some r) (fun (j : Int) => match j with | i_1 => [(8, [], (.int .i64 0)), (9, [], (.int .i64 i_1))]) (fun (j : Int) => match j with | i_1 => [⟨some A_b, 27, [(.int .i16 f0.fSteps), (.slice C_a f0.fHammers.length C_c)]⟩, ⟨some b_1, 33, [(.int .i16 c2.fAway), (.int .i16 c2.fOctave), (.int .i16 c2.fStep)]⟩]) ?_ ?_)))))))))))))))))))
  ·refine jc_block ?_
   obtain ⟨t_6, ht_65, hr_58⟩ := bd h
   refine jc_loop (fun (s : Int × Int) (x : Unit) => match s, x with | ⟨i_3, i_4⟩, _ => True) (fun (s : Int × Int) (x : Unit) => match s, x with | ⟨i_3, i_4⟩, _ => [(0, [], (.pointer (some ⟨A_b, 0, none⟩))), (1, [], (.slice D_a t1.length D_c)), (6, [], (.pointer (some ⟨b_1, 0, none⟩))), (8, [], (.int .i64 0)), (9, [], (.int .i64 i_3)), (10, [], (.int .i64 i_4))]) (fun (s : Int × Int) (x : Unit) => match s, x with | ⟨i_3, i_4⟩, _ => [⟨some A_b, 27, [(.int .i16 f0.fSteps), (.slice C_a f0.fHammers.length C_c)]⟩, ⟨some b_1, 33, [(.int .i16 c2.fAway), (.int .i16 c2.fOctave), (.int .i16 c2.fStep)]⟩]) ht_65 () trivial (by kernel_rfl) [0, 1] (by kernel_rfl) (by kernel_rfl) ?_
   rintro ⟨i_3, i_4⟩ _ y_59 _ h
   rw [spec_l07Bound.l_5] at h
   refine jc_seq (jc_seq (jc_region (qh [0,0,0,0] (qe (jx_then (qi h (fun h => ?_) (fun h => ?_)))))))
   ·refine jc_skip (jx_then (jc_seq (jc_block (qg [⟨some A_b, 27, [(.int .i16 f0.fSteps), (.slice C_a f0.fHammers.length C_c)]⟩, ⟨some b_1, 33, [(.int .i16 c2.fAway), (.int .i16 c2.fOctave), (.int .i16 c2.fStep)]⟩] 10 (qd [⟨0, 0, 0⟩,⟨1, 0, 0⟩,⟨2, 0, 0⟩,⟨3, 0, 0⟩,⟨6, 1, 0⟩] 5 [0, 1] ?_)))))
    obtain ⟨x_7, hx_62, h⟩ := bd h
    refine qv 4 0 [0, 1] (fun w hm => idx_run (a := D_a) (len := t1.length) (s := 2) (j := i_4) (by kernel_rfl) (ix_some hx_62).1 (ltn hx_62 rfl) (D_h.sp hx_62)) (qv 5 0 [0, 1] (fun w hm => ld_run (b := aB D_a) (off := (aO D_a + i_4.toNat * 2)) (s := 2) (agg := true) (vs := (encGNote x_7)) (by kernel_rfl) (by kernel_rfl) (.inl rfl) ((hm.exRowW D_h D_ha).at hx_62)) ?_)
    obtain ⟨t_8, ht_63, h⟩ := bd h
    refine tD 7 (pc 0 (fun w hm => spec_l07Least.calls f0 x_7 c2 w _ C_c (hm.exRowW C_h C_ha) rfl A_b (hm.pass (N := [⟨some A_b, 27, [(.int .i16 f0.fSteps), (.slice C_a f0.fHammers.length C_c)]⟩]) [0] (by kernel_rfl) (by kernel_rfl)) (hm.exApart (N := [⟨some A_b, 27, [(.int .i16 f0.fSteps), (.slice C_a f0.fHammers.length C_c)]⟩]) C_h C_ha [0] (by kernel_rfl)) ht_63) ?_)
    rintro w v w' hm ⟨rfl, hm'⟩
    refine ⟨_, hm.appW (ps := [(0, ⟨some A_b, 27, [(.int .i16 f0.fSteps), (.slice C_a f0.fHammers.length C_c)]⟩)]) (N := []) hm' (by kernel_rfl) (by kernel_rfl), kD [0, 1] ?_⟩
    clear hm hm'
    exact qd [⟨8, 0, 0⟩,⟨9, 0, 0⟩] 0 [0, 1] (qz (jx_inn (jx_then (jc_region (qh [0,0,0] (qe (qb ((w64 (i_3 + t_8)), (w64 (i_4 + 1))) () h trivial [0, 1])))))))
   ·refine jc_exit (jx_thenx (jx_leave i_3 (Option.some.inj h).symm (fun e_64 => ?_)))
    subst e_64
    exact jx_ine (qm i_3 hr_58 [0, 1])
  ·rintro i_1 h
   replace h : spec_l07Bound.k_2 i_1 = some r := h
   rw [spec_l07Bound.k_2] at h
   refine jx_then (jc_seq (jc_region (qh [0,0] (qe (jx_then (jc_ret ?_))))))
   obtain rfl := Option.some.inj h
   exact qr [] (fun w hm => ⟨rfl, hm.pk [0]⟩)
end

end Go.Proofs.YtolfkfjjifdmeaaGreat
