/- Functions of the program that the laws reach: a plain function each, and that the call comes to its answer if the plain function has one. Printed by a program. -/
import Derived.Test.YtbclghgbnnlbjaaT
import Derived.Test.YtbclghgbnnlbjaaM0
namespace Go.Proofs.Ytbclghgbnnlbjaa
open Eng
set_option linter.unusedVariables false

set_option linter.unusedSectionVars false
set_option maxRecDepth 100000
variable [dsW : DrwS]
noncomputable section
/-! ### slices.symMergeCmpFunc[[2]int64] -/
def slices_symMergeCmpFunc_2int64_at_impl_pairsOf_1.k_4 (xs_3 : List (Arr 2 Int)) : Option ((List (Arr 2 Int))) := some xs_3
def slices_symMergeCmpFunc_2int64_at_impl_pairsOf_1.l_7 (i_1 : Int) : ((List (Arr 2 Int)) × Int) → Option (((List (Arr 2 Int)) × Int) ⊕ ((List (Arr 2 Int))))
  | (xs_5, i_6) => (if (decide (i_6 < (w64 (i_1 - 1)))) = true then (ix xs_5 (w64 (i_6 + 1))).bind fun x_9 => (ix xs_5 i_6).bind fun x_10 => (ix xs_5 i_6).bind fun x_11 => (ix (xs_5.set i_6.toNat x_9) (w64 (i_6 + 1))).bind fun x_12 => some (.inl (((xs_5.set i_6.toNat x_9).set (w64 (i_6 + 1)).toNat x_10), (w64 (i_6 + 1)))) else some (.inr xs_5))
def slices_symMergeCmpFunc_2int64_at_impl_pairsOf_1.k_2 (data0 : List (Arr 2 Int)) (a1 : Int) (i_1 : Int) : Option ((List (Arr 2 Int))) := (loop (slices_symMergeCmpFunc_2int64_at_impl_pairsOf_1.l_7 i_1) (data0, a1)).bind fun t_8 => slices_symMergeCmpFunc_2int64_at_impl_pairsOf_1.k_4 t_8
def slices_symMergeCmpFunc_2int64_at_impl_pairsOf_1.k_19 (i_17 : Int) (i_18 : Int) : Option ((Int × Int) ⊕ (Int)) := some (.inl (i_17, i_18))
def slices_symMergeCmpFunc_2int64_at_impl_pairsOf_1.l_15 (data0 : List (Arr 2 Int)) (a1 : Int) (g4c0 : List (List Int)) : (Int × Int) → Option ((Int × Int) ⊕ (Int))
  | (i_13, i_14) => (if (decide (i_13 < i_14)) = true then (ix data0 (w64 (bShr .u64 (u64 (w64 (i_13 + i_14))) 1))).bind fun x_20 => (ix data0 a1).bind fun x_21 => (impl_pairsOf_1 x_20 x_21 g4c0).bind fun t_22 => (if (decide (t_22 < 0)) = true then slices_symMergeCmpFunc_2int64_at_impl_pairsOf_1.k_19 (w64 ((w64 (bShr .u64 (u64 (w64 (i_13 + i_14))) 1)) + 1)) i_14 else slices_symMergeCmpFunc_2int64_at_impl_pairsOf_1.k_19 i_13 (w64 (bShr .u64 (u64 (w64 (i_13 + i_14))) 1))) else some (.inr i_13))
def slices_symMergeCmpFunc_2int64_at_impl_pairsOf_1.k_26 (xs_25 : List (Arr 2 Int)) : Option ((List (Arr 2 Int))) := some xs_25
def slices_symMergeCmpFunc_2int64_at_impl_pairsOf_1.l_29 (i_23 : Int) : ((List (Arr 2 Int)) × Int) → Option (((List (Arr 2 Int)) × Int) ⊕ ((List (Arr 2 Int))))
  | (xs_27, i_28) => (if (decide (i_28 > i_23)) = true then (ix xs_27 (w64 (i_28 - 1))).bind fun x_31 => (ix xs_27 i_28).bind fun x_32 => (ix xs_27 i_28).bind fun x_33 => (ix (xs_27.set i_28.toNat x_31) (w64 (i_28 - 1))).bind fun x_34 => some (.inl (((xs_27.set i_28.toNat x_31).set (w64 (i_28 - 1)).toNat x_32), (w64 (i_28 - 1)))) else some (.inr xs_27))
def slices_symMergeCmpFunc_2int64_at_impl_pairsOf_1.k_24 (data0 : List (Arr 2 Int)) (m2 : Int) (i_23 : Int) : Option ((List (Arr 2 Int))) := (loop (slices_symMergeCmpFunc_2int64_at_impl_pairsOf_1.l_29 i_23) (data0, m2)).bind fun t_30 => slices_symMergeCmpFunc_2int64_at_impl_pairsOf_1.k_26 t_30
def slices_symMergeCmpFunc_2int64_at_impl_pairsOf_1.k_41 (i_39 : Int) (i_40 : Int) : Option ((Int × Int) ⊕ (Int)) := some (.inl (i_39, i_40))
def slices_symMergeCmpFunc_2int64_at_impl_pairsOf_1.l_37 (data0 : List (Arr 2 Int)) (m2 : Int) (g4c0 : List (List Int)) : (Int × Int) → Option ((Int × Int) ⊕ (Int))
  | (i_35, i_36) => (if (decide (i_35 < i_36)) = true then (ix data0 m2).bind fun x_42 => (ix data0 (w64 (bShr .u64 (u64 (w64 (i_35 + i_36))) 1))).bind fun x_43 => (impl_pairsOf_1 x_42 x_43 g4c0).bind fun t_44 => (if (!(decide (t_44 < 0))) = true then slices_symMergeCmpFunc_2int64_at_impl_pairsOf_1.k_41 (w64 ((w64 (bShr .u64 (u64 (w64 (i_35 + i_36))) 1)) + 1)) i_36 else slices_symMergeCmpFunc_2int64_at_impl_pairsOf_1.k_41 i_35 (w64 (bShr .u64 (u64 (w64 (i_35 + i_36))) 1))) else some (.inr i_35))
def slices_symMergeCmpFunc_2int64_at_impl_pairsOf_1.k_53 (self_ : (List (Arr 2 Int)) → Int → Int → Int → (List (List Int)) → Option ((List (Arr 2 Int)))) (a1 : Int) (m2 : Int) (b3 : Int) (g4c0 : List (List Int)) (i_48 : Int) (xs_52 : List (Arr 2 Int)) : Option ((List (Arr 2 Int))) := (if ((decide ((w64 (bShr .u64 (u64 (w64 (a1 + b3))) 1)) < (w64 ((w64 ((w64 (bShr .u64 (u64 (w64 (a1 + b3))) 1)) + m2)) - i_48)))) && (decide ((w64 ((w64 ((w64 (bShr .u64 (u64 (w64 (a1 + b3))) 1)) + m2)) - i_48)) < b3))) = true then (self_ xs_52 (w64 (bShr .u64 (u64 (w64 (a1 + b3))) 1)) (w64 ((w64 ((w64 (bShr .u64 (u64 (w64 (a1 + b3))) 1)) + m2)) - i_48)) b3 g4c0).bind fun t_54 => some t_54 else some xs_52)
def slices_symMergeCmpFunc_2int64_at_impl_pairsOf_1.k_51 (self_ : (List (Arr 2 Int)) → Int → Int → Int → (List (List Int)) → Option ((List (Arr 2 Int)))) (a1 : Int) (m2 : Int) (b3 : Int) (g4c0 : List (List Int)) (i_48 : Int) (xs_50 : List (Arr 2 Int)) : Option ((List (Arr 2 Int))) := (if ((decide (a1 < i_48)) && (decide (i_48 < (w64 (bShr .u64 (u64 (w64 (a1 + b3))) 1))))) = true then (self_ xs_50 a1 i_48 (w64 (bShr .u64 (u64 (w64 (a1 + b3))) 1)) g4c0).bind fun t_55 => slices_symMergeCmpFunc_2int64_at_impl_pairsOf_1.k_53 self_ a1 m2 b3 g4c0 i_48 t_55 else slices_symMergeCmpFunc_2int64_at_impl_pairsOf_1.k_53 self_ a1 m2 b3 g4c0 i_48 xs_50)
def slices_symMergeCmpFunc_2int64_at_impl_pairsOf_1.k_49 (self_ : (List (Arr 2 Int)) → Int → Int → Int → (List (List Int)) → Option ((List (Arr 2 Int)))) (data0 : List (Arr 2 Int)) (a1 : Int) (m2 : Int) (b3 : Int) (g4c0 : List (List Int)) (i_48 : Int) : Option ((List (Arr 2 Int))) := (if ((decide (i_48 < m2)) && (decide (m2 < (w64 ((w64 ((w64 (bShr .u64 (u64 (w64 (a1 + b3))) 1)) + m2)) - i_48))))) = true then (slices_rotateCmpFunc_2int64_at_impl_pairsOf_1 data0 i_48 m2 (w64 ((w64 ((w64 (bShr .u64 (u64 (w64 (a1 + b3))) 1)) + m2)) - i_48)) g4c0).bind fun t_56 => slices_symMergeCmpFunc_2int64_at_impl_pairsOf_1.k_51 self_ a1 m2 b3 g4c0 i_48 t_56 else slices_symMergeCmpFunc_2int64_at_impl_pairsOf_1.k_51 self_ a1 m2 b3 g4c0 i_48 data0)
def slices_symMergeCmpFunc_2int64_at_impl_pairsOf_1.k_63 (i_61 : Int) (i_62 : Int) : Option ((Int × Int) ⊕ (Int)) := some (.inl (i_61, i_62))
def slices_symMergeCmpFunc_2int64_at_impl_pairsOf_1.l_59 (data0 : List (Arr 2 Int)) (a1 : Int) (m2 : Int) (b3 : Int) (g4c0 : List (List Int)) : (Int × Int) → Option ((Int × Int) ⊕ (Int))
  | (i_57, i_58) => (if (decide (i_57 < i_58)) = true then (ix data0 (w64 ((w64 ((w64 ((w64 (bShr .u64 (u64 (w64 (a1 + b3))) 1)) + m2)) - 1)) - (w64 (bShr .u64 (u64 (w64 (i_57 + i_58))) 1))))).bind fun x_64 => (ix data0 (w64 (bShr .u64 (u64 (w64 (i_57 + i_58))) 1))).bind fun x_65 => (impl_pairsOf_1 x_64 x_65 g4c0).bind fun t_66 => (if (!(decide (t_66 < 0))) = true then slices_symMergeCmpFunc_2int64_at_impl_pairsOf_1.k_63 (w64 ((w64 (bShr .u64 (u64 (w64 (i_57 + i_58))) 1)) + 1)) i_58 else slices_symMergeCmpFunc_2int64_at_impl_pairsOf_1.k_63 i_57 (w64 (bShr .u64 (u64 (w64 (i_57 + i_58))) 1))) else some (.inr i_57))
def slices_symMergeCmpFunc_2int64_at_impl_pairsOf_1.k_47 (self_ : (List (Arr 2 Int)) → Int → Int → Int → (List (List Int)) → Option ((List (Arr 2 Int)))) (data0 : List (Arr 2 Int)) (a1 : Int) (m2 : Int) (b3 : Int) (g4c0 : List (List Int)) (i_45 : Int) (i_46 : Int) : Option ((List (Arr 2 Int))) := (loop (slices_symMergeCmpFunc_2int64_at_impl_pairsOf_1.l_59 data0 a1 m2 b3 g4c0) (i_45, i_46)).bind fun t_60 => slices_symMergeCmpFunc_2int64_at_impl_pairsOf_1.k_49 self_ data0 a1 m2 b3 g4c0 t_60
def slices_symMergeCmpFunc_2int64_at_impl_pairsOf_1.step (self_ : (List (Arr 2 Int)) → Int → Int → Int → (List (List Int)) → Option ((List (Arr 2 Int)))) (data0 : List (Arr 2 Int)) (a1 : Int) (m2 : Int) (b3 : Int) (g4c0 : List (List Int)) : Option ((List (Arr 2 Int))) := (if ((w64 (m2 - a1)) == 1) = true then (loop (slices_symMergeCmpFunc_2int64_at_impl_pairsOf_1.l_15 data0 a1 g4c0) (m2, b3)).bind fun t_16 => slices_symMergeCmpFunc_2int64_at_impl_pairsOf_1.k_2 data0 a1 t_16 else (if ((w64 (b3 - m2)) == 1) = true then (loop (slices_symMergeCmpFunc_2int64_at_impl_pairsOf_1.l_37 data0 m2 g4c0) (a1, m2)).bind fun t_38 => slices_symMergeCmpFunc_2int64_at_impl_pairsOf_1.k_24 data0 m2 t_38 else (if (decide (m2 > (w64 (bShr .u64 (u64 (w64 (a1 + b3))) 1)))) = true then slices_symMergeCmpFunc_2int64_at_impl_pairsOf_1.k_47 self_ data0 a1 m2 b3 g4c0 (w64 ((w64 ((w64 (bShr .u64 (u64 (w64 (a1 + b3))) 1)) + m2)) - b3)) (w64 (bShr .u64 (u64 (w64 (a1 + b3))) 1)) else slices_symMergeCmpFunc_2int64_at_impl_pairsOf_1.k_47 self_ data0 a1 m2 b3 g4c0 a1 m2)))
def slices_symMergeCmpFunc_2int64_at_impl_pairsOf_1.rec_ : Nat → (List (Arr 2 Int)) → Int → Int → Int → (List (List Int)) → Option ((List (Arr 2 Int)))
  | 0 => fun data0 a1 m2 b3 g4c0 => none
  | fu + 1 => slices_symMergeCmpFunc_2int64_at_impl_pairsOf_1.step (slices_symMergeCmpFunc_2int64_at_impl_pairsOf_1.rec_ fu)
def slices_symMergeCmpFunc_2int64_at_impl_pairsOf_1 (data0 : List (Arr 2 Int)) (a1 : Int) (m2 : Int) (b3 : Int) (g4c0 : List (List Int)) : Option ((List (Arr 2 Int))) := slices_symMergeCmpFunc_2int64_at_impl_pairsOf_1.rec_ 200 data0 a1 m2 b3 g4c0
set_option maxHeartbeats 8000000 in
theorem slices_symMergeCmpFunc_2int64_at_impl_pairsOf_1.step_calls (self_ : (List (Arr 2 Int)) → Int → Int → Int → (List (List Int)) → Option ((List (Arr 2 Int)))) (hself : ∀ (data0 : List (Arr 2 Int)) (a1 : Int) (m2 : Int) (b3 : Int) (g4c0 : List (List Int)) (w : World) (r : (List (Arr 2 Int))) {E_a : Option Addr} {E_an : Nat} (E_c : Nat) {E_hs : List Hd} (E_h : Rw w E_a 1 encHd E_hs) (E_hn : g4c0.length = E_an) (A_o : Option Nat) {A_on : Nat} {A_c : Nat} {A_sp : List Value} (A_hn : data0.length = A_on) (A_hs : A_o ≠ none → A_on ≤ A_c ∧ A_sp.length = (A_c - A_on) * 2) (A_ho : A_o = none → data0 = [] ∧ A_c = 0) (E_b : Nat) (hm0 : Mem w (bs [A_o, some E_b]) [⟨A_o, 93, row encA2I64 data0 A_sp⟩, ⟨some E_b, 84, [(.slice E_a E_an E_c)]⟩] w) (E_ha : E_hs ≠ [] → aB E_a ∉ bs [A_o, some E_b]) (E_i : Inn w (bs [A_o, some E_b]) 1 encI64 E_hs g4c0) (h : self_ data0 a1 m2 b3 g4c0 = some r),
    Calls Try.prog 175 #[(.slice (A_o.map fun b => ⟨b, 0, none⟩) A_on A_c), (.int .i64 a1), (.int .i64 m2), (.int .i64 b3), (.func (.func 108) #[] #[(.pointer (some ⟨E_b, 0, none⟩))])] w fun e w' => ∃ v, e = .returned v ∧ (r.length = A_on ∧ (A_o = none → r = [] ∧ A_c = 0) ∧ v = .tuple #[] ∧ Mem w (bs [A_o, some E_b]) [⟨A_o, 93, row encA2I64 r A_sp⟩, ⟨some E_b, 84, [(.slice E_a E_an E_c)]⟩] w')) (data0 : List (Arr 2 Int)) (a1 : Int) (m2 : Int) (b3 : Int) (g4c0 : List (List Int)) (w : World) (r : (List (Arr 2 Int))) {E_a : Option Addr} {E_an : Nat} (E_c : Nat) {E_hs : List Hd} (E_h : Rw w E_a 1 encHd E_hs) (E_hn : g4c0.length = E_an) (A_o : Option Nat) {A_on : Nat} {A_c : Nat} {A_sp : List Value} (A_hn : data0.length = A_on) (A_hs : A_o ≠ none → A_on ≤ A_c ∧ A_sp.length = (A_c - A_on) * 2) (A_ho : A_o = none → data0 = [] ∧ A_c = 0) (E_b : Nat) (hm0 : Mem w (bs [A_o, some E_b]) [⟨A_o, 93, row encA2I64 data0 A_sp⟩, ⟨some E_b, 84, [(.slice E_a E_an E_c)]⟩] w) (E_ha : E_hs ≠ [] → aB E_a ∉ bs [A_o, some E_b]) (E_i : Inn w (bs [A_o, some E_b]) 1 encI64 E_hs g4c0) (h : slices_symMergeCmpFunc_2int64_at_impl_pairsOf_1.step self_ data0 a1 m2 b3 g4c0 = some r) :
    Calls Try.prog 175 #[(.slice (A_o.map fun b => ⟨b, 0, none⟩) A_on A_c), (.int .i64 a1), (.int .i64 m2), (.int .i64 b3), (.func (.func 108) #[] #[(.pointer (some ⟨E_b, 0, none⟩))])] w fun e w' => ∃ v, e = .returned v ∧ (r.length = A_on ∧ (A_o = none → r = [] ∧ A_c = 0) ∧ v = .tuple #[] ∧ Mem w (bs [A_o, some E_b]) [⟨A_o, 93, row encA2I64 r A_sp⟩, ⟨some E_b, 84, [(.slice E_a E_an E_c)]⟩] w') := by
  subst E_hn A_hn
  rw [slices_symMergeCmpFunc_2int64_at_impl_pairsOf_1.step] at h
  refine enter (args := [(.slice (A_o.map fun b => ⟨b, 0, none⟩) data0.length A_c), (.int .i64 a1), (.int .i64 m2), (.int .i64 b3), (.func (.func 108) #[] #[(.pointer (some ⟨E_b, 0, none⟩))])]) Try.func175 rfl Try.ntmps175 (by kernel_rfl) (L := [⟨A_o, 93, row encA2I64 data0 A_sp⟩, ⟨some E_b, 84, [(.slice E_a g4c0.length E_c)]⟩]) (W := bs [A_o, some E_b]) hm0 ?_
  refine jc_seq (jc_seq (jc_region (qh [0,0,0,0] (qe (jx_then (qi h (fun h => ?_) (fun h => ?_)))))))
  ·refine jc_seq (jc_region (qh [0,0] (qe (jx_then (jc_seq (jc_region (qh [0,0] (qe (jx_then (jc_seq (jc_meet (fun (j : Int) => match j with | i_1 => slices_symMergeCmpFunc_2int64_at_impl_pairsOf_1.k_2 data0 a1 i_1 = some r) (fun (j : Int) => match j with | i_1 => [(0, [], (.slice (A_o.map fun b => ⟨b, 0, none⟩) data0.length A_c)), (1, [], (.int .i64 a1)), (2, [], (.int .i64 m2)), (3, [], (.int .i64 b3)), (4, [], (.func (.func 108) #[] #[(.pointer (some ⟨E_b, 0, none⟩))])), (10, [], (.int .i64 i_1))]) (fun (j : Int) => match j with | i_1 => [⟨A_o, 93, row encA2I64 data0 A_sp⟩, ⟨some E_b, 84, [(.slice E_a g4c0.length E_c)]⟩]) ?_ ?_)))))))))))
   ·refine jc_block ?_
    obtain ⟨t_16, ht_306, hr_293⟩ := bd h
    refine jc_loop (fun (s : Int × Int) (x : Unit) => match s, x with | ⟨i_13, i_14⟩, _ => True) (fun (s : Int × Int) (x : Unit) => match s, x with | ⟨i_13, i_14⟩, _ => [(0, [], (.slice (A_o.map fun b => ⟨b, 0, none⟩) data0.length A_c)), (1, [], (.int .i64 a1)), (2, [], (.int .i64 m2)), (3, [], (.int .i64 b3)), (4, [], (.func (.func 108) #[] #[(.pointer (some ⟨E_b, 0, none⟩))])), (10, [], (.int .i64 i_13)), (11, [], (.int .i64 i_14))]) (fun (s : Int × Int) (x : Unit) => match s, x with | ⟨i_13, i_14⟩, _ => [⟨A_o, 93, row encA2I64 data0 A_sp⟩, ⟨some E_b, 84, [(.slice E_a g4c0.length E_c)]⟩]) ht_306 () trivial (by kernel_rfl) [0, 1] (by kernel_rfl) (by kernel_rfl) ?_
    rintro ⟨i_13, i_14⟩ _ y_294 _ h
    rw [slices_symMergeCmpFunc_2int64_at_impl_pairsOf_1.l_15] at h
    refine jc_seq (jc_seq (jc_region (qh [0,0,0] (qe (jx_then (qi h (fun h => ?_) (fun h => ?_)))))))
    ·refine jc_skip (jx_then (jc_meet (fun (j : Int × Int) => match j with | ⟨i_17, i_18⟩ => slices_symMergeCmpFunc_2int64_at_impl_pairsOf_1.k_19 i_17 i_18 = some y_294) (fun (j : Int × Int) => match j with | ⟨i_17, i_18⟩ => [(0, [], (.slice (A_o.map fun b => ⟨b, 0, none⟩) data0.length A_c)), (1, [], (.int .i64 a1)), (2, [], (.int .i64 m2)), (3, [], (.int .i64 b3)), (4, [], (.func (.func 108) #[] #[(.pointer (some ⟨E_b, 0, none⟩))])), (10, [], (.int .i64 i_17)), (11, [], (.int .i64 i_18))]) (fun (j : Int × Int) => match j with | ⟨i_17, i_18⟩ => [⟨A_o, 93, row encA2I64 data0 A_sp⟩, ⟨some E_b, 84, [(.slice E_a g4c0.length E_c)]⟩]) ?_ ?_))
     ·refine jc_block (jc_seq (jc_region (qh [0,0,0,0,0,0,0] (qe (jx_then (jc_seq (qg [⟨A_o, 93, row encA2I64 data0 A_sp⟩, ⟨some E_b, 84, [(.slice E_a g4c0.length E_c)]⟩] 11 (qd [⟨0, 0, 0⟩,⟨1, 0, 0⟩,⟨2, 0, 0⟩,⟨5, 0, 0⟩,⟨6, 0, 0⟩] 6 [0, 1] ?_))))))))
      obtain ⟨x_20, hx_301, h⟩ := bd h
      refine qv 3 0 [0, 1] (fun w hm => idx_run (a := (A_o.map fun b => ⟨b, 0, none⟩)) (len := data0.length) (s := 2) (j := (w64 (bShr .u64 (u64 (w64 (i_13 + i_14))) 1))) (by kernel_rfl) (ix_some hx_301).1 (ltn hx_301 rfl) (spo A_ho hx_301)) (qv 4 0 [0, 1] (fun w hm => ld_run (b := aB (A_o.map fun b => ⟨b, 0, none⟩)) (off := (aO (A_o.map fun b => ⟨b, 0, none⟩) + (w64 (bShr .u64 (u64 (w64 (i_13 + i_14))) 1)).toNat * 2)) (s := 2) (agg := true) (vs := (encA2I64 x_20)) (by kernel_rfl) (encA2I64_len x_20) (.inl rfl) ((hm.ow 0 A_o 93 data0 A_sp (fun e => (A_ho e).1) encA2I64_len).at hx_301)) ?_)
      obtain ⟨x_21, hx_302, h⟩ := bd h
      refine qv 7 0 [0, 1] (fun w hm => idx_run (a := (A_o.map fun b => ⟨b, 0, none⟩)) (len := data0.length) (s := 2) (j := a1) (by kernel_rfl) (ix_some hx_302).1 (ltn hx_302 rfl) (spo A_ho hx_302)) (qv 8 0 [0, 1] (fun w hm => ld_run (b := aB (A_o.map fun b => ⟨b, 0, none⟩)) (off := (aO (A_o.map fun b => ⟨b, 0, none⟩) + a1.toNat * 2)) (s := 2) (agg := true) (vs := (encA2I64 x_21)) (by kernel_rfl) (encA2I64_len x_21) (.inl rfl) ((hm.ow 0 A_o 93 data0 A_sp (fun e => (A_ho e).1) encA2I64_len).at hx_302)) ?_)
      obtain ⟨t_22, ht_303, h⟩ := bd h
      refine tD 9 (pc 0 (fun w hm => impl_pairsOf_1.calls x_20 x_21 g4c0 w _ E_c (hm.exRowW E_h E_ha) rfl E_b (hm.pass (N := [⟨some E_b, 84, [(.slice E_a g4c0.length E_c)]⟩]) [1] (by kernel_rfl) (by kernel_rfl)) (hm.exApart (N := [⟨some E_b, 84, [(.slice E_a g4c0.length E_c)]⟩]) E_h E_ha [1] (by kernel_rfl)) (hm.innPass (N := [⟨some E_b, 84, [(.slice E_a g4c0.length E_c)]⟩]) E_i [1] (by kernel_rfl)) ht_303) ?_)
      rintro w v w' hm ⟨rfl, hm'⟩
      refine ⟨_, hm.appW (ps := [(1, ⟨some E_b, 84, [(.slice E_a g4c0.length E_c)]⟩)]) (N := []) hm' (by kernel_rfl) (by kernel_rfl), kD [0, 1] ?_⟩
      clear hm hm'
      refine qd [⟨10, 0, 0⟩] 0 [0, 1] (qz (jx_then (qi h (fun h => ?_) (fun h => ?_))))
      ·exact jc_region (qh [0,0,0] (qe (jx_inn (qm ⟨(w64 ((w64 (bShr .u64 (u64 (w64 (i_13 + i_14))) 1)) + 1)), i_14⟩ h [0, 1]))))
      ·exact jc_region (qh [0,0] (qe (jx_inn (qm ⟨i_13, (w64 (bShr .u64 (u64 (w64 (i_13 + i_14))) 1))⟩ h [0, 1]))))
     ·rintro ⟨i_17, i_18⟩ h
      replace h : slices_symMergeCmpFunc_2int64_at_impl_pairsOf_1.k_19 i_17 i_18 = some y_294 := h
      rw [slices_symMergeCmpFunc_2int64_at_impl_pairsOf_1.k_19] at h
      exact qb (i_17, i_18) () h trivial [0, 1]
    ·refine jc_exit (jx_thenx (jx_leave i_13 (Option.some.inj h).symm (fun e_305 => ?_)))
     subst e_305
     exact jx_ine (qm i_13 hr_293 [0, 1])
   ·rintro i_1 h
    replace h : slices_symMergeCmpFunc_2int64_at_impl_pairsOf_1.k_2 data0 a1 i_1 = some r := h
    rw [slices_symMergeCmpFunc_2int64_at_impl_pairsOf_1.k_2] at h
    refine jx_then (jc_seq (jc_seq (jc_region (qh [0,0] (qe (jx_then (jc_meet (fun (j : (List (Arr 2 Int))) => match j with | xs_3 => slices_symMergeCmpFunc_2int64_at_impl_pairsOf_1.k_4 xs_3 = some r ∧ (xs_3.length = data0.length) ∧ ((A_o = none → xs_3 = [] ∧ A_c = 0))) (fun (j : (List (Arr 2 Int))) => match j with | xs_3 => [(0, [], (.slice (A_o.map fun b => ⟨b, 0, none⟩) data0.length A_c)), (1, [], (.int .i64 a1)), (2, [], (.int .i64 m2)), (3, [], (.int .i64 b3)), (4, [], (.func (.func 108) #[] #[(.pointer (some ⟨E_b, 0, none⟩))]))]) (fun (j : (List (Arr 2 Int))) => match j with | xs_3 => [⟨A_o, 93, row encA2I64 xs_3 A_sp⟩, ⟨some E_b, 84, [(.slice E_a g4c0.length E_c)]⟩]) ?_ ?_)))))))
    ·refine jc_block ?_
     obtain ⟨t_8, ht_272, hr_258⟩ := bd h
     refine jc_loop (fun (s : (List (Arr 2 Int)) × Int) (x : Unit) => match s, x with | ⟨xs_5, i_6⟩, _ => (xs_5.length = data0.length) ∧ ((A_o = none → xs_5 = [] ∧ A_c = 0))) (fun (s : (List (Arr 2 Int)) × Int) (x : Unit) => match s, x with | ⟨xs_5, i_6⟩, _ => [(0, [], (.slice (A_o.map fun b => ⟨b, 0, none⟩) data0.length A_c)), (1, [], (.int .i64 a1)), (2, [], (.int .i64 m2)), (3, [], (.int .i64 b3)), (4, [], (.func (.func 108) #[] #[(.pointer (some ⟨E_b, 0, none⟩))])), (10, [], (.int .i64 i_1)), (13, [], (.int .i64 i_6))]) (fun (s : (List (Arr 2 Int)) × Int) (x : Unit) => match s, x with | ⟨xs_5, i_6⟩, _ => [⟨A_o, 93, row encA2I64 xs_5 A_sp⟩, ⟨some E_b, 84, [(.slice E_a g4c0.length E_c)]⟩]) ht_272 () ⟨rfl, A_ho⟩ (by kernel_rfl) [0, 1] (by kernel_rfl) (by kernel_rfl) ?_
     rintro ⟨xs_5, i_6⟩ _ y_259 ⟨hn_257, ho_256⟩ h
     rw [slices_symMergeCmpFunc_2int64_at_impl_pairsOf_1.l_7] at h
     refine jc_seq (jc_seq (jc_region (qh [0,0,0,0] (qe (jx_then (qi h (fun h => ?_) (fun h => ?_)))))))
     ·refine jc_skip (jx_then (jc_seq (jc_block (qg [⟨some E_b, 84, [(.slice E_a g4c0.length E_c)]⟩] 18 (qd [⟨0, 0, 0⟩,⟨1, 0, 0⟩,⟨2, 0, 0⟩,⟨3, 0, 0⟩,⟨4, 0, 0⟩,⟨5, 0, 0⟩,⟨6, 0, 0⟩,⟨7, 0, 0⟩,⟨10, 0, 0⟩,⟨11, 0, 0⟩] 8 [1] ?_)))))
      obtain ⟨x_9, hx_265, h⟩ := bd h
      refine qv 8 0 [1] (fun w hm => idx_run (a := (A_o.map fun b => ⟨b, 0, none⟩)) (len := data0.length) (s := 2) (j := (w64 (i_6 + 1))) (by kernel_rfl) (ix_some hx_265).1 (ltn hx_265 hn_257) (spo ho_256 hx_265)) ?_
      obtain ⟨x_10, hx_266, h⟩ := bd h
      refine qv 12 0 [1] (fun w hm => idx_run (a := (A_o.map fun b => ⟨b, 0, none⟩)) (len := data0.length) (s := 2) (j := i_6) (by kernel_rfl) (ix_some hx_266).1 (ltn hx_266 hn_257) (spo ho_256 hx_266)) (toD2 9 13 (by kernel_rfl) ?_ ?_)
      ·refine p_ldx 0 (aB (A_o.map fun b => ⟨b, 0, none⟩)) (aO (A_o.map fun b => ⟨b, 0, none⟩) + (w64 (i_6 + 1)).toNat * 2) (encA2I64 x_9) 2 (by kernel_rfl) (by kernel_rfl) (encA2I64_len x_9) (fun w hm => ((hm.ow 0 A_o 93 xs_5 A_sp (fun e => (ho_256 e).1) encA2I64_len).at hx_265)) (kD [1] (tD 13 (p_ldx 0 (aB (A_o.map fun b => ⟨b, 0, none⟩)) (aO (A_o.map fun b => ⟨b, 0, none⟩) + i_6.toNat * 2) (encA2I64 x_10) 2 (by kernel_rfl) (by kernel_rfl) (encA2I64_len x_10) (fun w hm => ((hm.ow 0 A_o 93 xs_5 A_sp (fun e => (ho_256 e).1) encA2I64_len).at hx_266)) (kD [1] ?_))))
       obtain ⟨x_11, hx_267, h⟩ := bd h
       refine qv 14 0 [1] (fun w hm => idx_run (a := (A_o.map fun b => ⟨b, 0, none⟩)) (len := data0.length) (s := 2) (j := i_6) (by kernel_rfl) (ix_some hx_267).1 (ltn hx_267 hn_257) (spo ho_256 hx_267)) (tD 15 (p_strWO 0 0 A_o 93 encA2I64 xs_5 A_sp i_6 x_9 2 (by kernel_rfl) (by kernel_rfl) (by kernel_rfl) (fun e => (ho_256 e).1) encA2I64_len encA2I64_cell hx_267 (kD [1] ?_)))
       obtain ⟨x_12, hx_268, h⟩ := bd h
       exact qv 16 0 [1] (fun w hm => idx_run (a := (A_o.map fun b => ⟨b, 0, none⟩)) (len := data0.length) (s := 2) (j := (w64 (i_6 + 1))) (by kernel_rfl) (ix_some hx_268).1 (ltn hx_268 (List.length_set.trans hn_257)) (spo (set_ho ho_256) hx_268)) (tD 17 (p_strWO 0 0 A_o 93 encA2I64 (xs_5.set i_6.toNat x_9) A_sp (w64 (i_6 + 1)) x_10 2 (by kernel_rfl) (by kernel_rfl) (by kernel_rfl) (fun e => ((set_ho ho_256) e).1) encA2I64_len encA2I64_cell hx_268 (kD [1] (qz (jx_inn (jx_then (jc_region (qh [0,0,0] (qe (qb (((xs_5.set i_6.toNat x_9).set (w64 (i_6 + 1)).toNat x_10), (w64 (i_6 + 1))) () h ⟨(List.length_set.trans (List.length_set.trans hn_257)), (set_ho (set_ho ho_256))⟩ [0, 1]))))))))))
      ·refine p_ldx 0 (aB (A_o.map fun b => ⟨b, 0, none⟩)) (aO (A_o.map fun b => ⟨b, 0, none⟩) + i_6.toNat * 2) (encA2I64 x_10) 2 (by kernel_rfl) (by kernel_rfl) (encA2I64_len x_10) (fun w hm => ((hm.ow 0 A_o 93 xs_5 A_sp (fun e => (ho_256 e).1) encA2I64_len).at hx_266)) (kD [1] (tD 9 (p_ldx 0 (aB (A_o.map fun b => ⟨b, 0, none⟩)) (aO (A_o.map fun b => ⟨b, 0, none⟩) + (w64 (i_6 + 1)).toNat * 2) (encA2I64 x_9) 2 (by kernel_rfl) (by kernel_rfl) (encA2I64_len x_9) (fun w hm => ((hm.ow 0 A_o 93 xs_5 A_sp (fun e => (ho_256 e).1) encA2I64_len).at hx_265)) (kD [1] ?_))))
       obtain ⟨x_11, hx_269, h⟩ := bd h
       refine qv 14 0 [1] (fun w hm => idx_run (a := (A_o.map fun b => ⟨b, 0, none⟩)) (len := data0.length) (s := 2) (j := i_6) (by kernel_rfl) (ix_some hx_269).1 (ltn hx_269 hn_257) (spo ho_256 hx_269)) (tD 15 (p_strWO 0 0 A_o 93 encA2I64 xs_5 A_sp i_6 x_9 2 (by kernel_rfl) (by kernel_rfl) (by kernel_rfl) (fun e => (ho_256 e).1) encA2I64_len encA2I64_cell hx_269 (kD [1] ?_)))
       obtain ⟨x_12, hx_270, h⟩ := bd h
       exact qv 16 0 [1] (fun w hm => idx_run (a := (A_o.map fun b => ⟨b, 0, none⟩)) (len := data0.length) (s := 2) (j := (w64 (i_6 + 1))) (by kernel_rfl) (ix_some hx_270).1 (ltn hx_270 (List.length_set.trans hn_257)) (spo (set_ho ho_256) hx_270)) (tD 17 (p_strWO 0 0 A_o 93 encA2I64 (xs_5.set i_6.toNat x_9) A_sp (w64 (i_6 + 1)) x_10 2 (by kernel_rfl) (by kernel_rfl) (by kernel_rfl) (fun e => ((set_ho ho_256) e).1) encA2I64_len encA2I64_cell hx_270 (kD [1] (qz (jx_inn (jx_then (jc_region (qh [0,0,0] (qe (qb (((xs_5.set i_6.toNat x_9).set (w64 (i_6 + 1)).toNat x_10), (w64 (i_6 + 1))) () h ⟨(List.length_set.trans (List.length_set.trans hn_257)), (set_ho (set_ho ho_256))⟩ [0, 1]))))))))))
     ·refine jc_exit (jx_thenx (jx_leave xs_5 (Option.some.inj h).symm (fun e_271 => ?_)))
      subst e_271
      exact jx_ine (qm xs_5 ⟨hr_258, hn_257, ho_256⟩ [0, 1])
    ·rintro xs_3 ⟨h, hn_231, ho_230⟩
     replace h : slices_symMergeCmpFunc_2int64_at_impl_pairsOf_1.k_4 xs_3 = some r := h
     rw [slices_symMergeCmpFunc_2int64_at_impl_pairsOf_1.k_4] at h
     refine jx_then (jc_ret (jx_thenr ?_))
     obtain rfl := Option.some.inj h
     exact qr [] (fun w hm => ⟨hn_231, ho_230, rfl, hm.pk [0, 1]⟩)
  ·refine jc_skip (jx_then (jc_seq (jc_seq (jc_region (qh [0,0,0,0] (qe (jx_then (qi h (fun h => ?_) (fun h => ?_)))))))))
   ·refine jc_seq (jc_region (qh [0,0] (qe (jx_then (jc_seq (jc_region (qh [0,0] (qe (jx_then (jc_seq (jc_meet (fun (j : Int) => match j with | i_23 => slices_symMergeCmpFunc_2int64_at_impl_pairsOf_1.k_24 data0 m2 i_23 = some r) (fun (j : Int) => match j with | i_23 => [(0, [], (.slice (A_o.map fun b => ⟨b, 0, none⟩) data0.length A_c)), (1, [], (.int .i64 a1)), (2, [], (.int .i64 m2)), (3, [], (.int .i64 b3)), (4, [], (.func (.func 108) #[] #[(.pointer (some ⟨E_b, 0, none⟩))])), (14, [], (.int .i64 i_23))]) (fun (j : Int) => match j with | i_23 => [⟨A_o, 93, row encA2I64 data0 A_sp⟩, ⟨some E_b, 84, [(.slice E_a g4c0.length E_c)]⟩]) ?_ ?_)))))))))))
    ·refine jc_block ?_
     obtain ⟨t_38, ht_612, hr_599⟩ := bd h
     refine jc_loop (fun (s : Int × Int) (x : Unit) => match s, x with | ⟨i_35, i_36⟩, _ => True) (fun (s : Int × Int) (x : Unit) => match s, x with | ⟨i_35, i_36⟩, _ => [(0, [], (.slice (A_o.map fun b => ⟨b, 0, none⟩) data0.length A_c)), (1, [], (.int .i64 a1)), (2, [], (.int .i64 m2)), (3, [], (.int .i64 b3)), (4, [], (.func (.func 108) #[] #[(.pointer (some ⟨E_b, 0, none⟩))])), (14, [], (.int .i64 i_35)), (15, [], (.int .i64 i_36))]) (fun (s : Int × Int) (x : Unit) => match s, x with | ⟨i_35, i_36⟩, _ => [⟨A_o, 93, row encA2I64 data0 A_sp⟩, ⟨some E_b, 84, [(.slice E_a g4c0.length E_c)]⟩]) ht_612 () trivial (by kernel_rfl) [0, 1] (by kernel_rfl) (by kernel_rfl) ?_
     rintro ⟨i_35, i_36⟩ _ y_600 _ h
     rw [slices_symMergeCmpFunc_2int64_at_impl_pairsOf_1.l_37] at h
     refine jc_seq (jc_seq (jc_region (qh [0,0,0] (qe (jx_then (qi h (fun h => ?_) (fun h => ?_)))))))
     ·refine jc_skip (jx_then (jc_meet (fun (j : Int × Int) => match j with | ⟨i_39, i_40⟩ => slices_symMergeCmpFunc_2int64_at_impl_pairsOf_1.k_41 i_39 i_40 = some y_600) (fun (j : Int × Int) => match j with | ⟨i_39, i_40⟩ => [(0, [], (.slice (A_o.map fun b => ⟨b, 0, none⟩) data0.length A_c)), (1, [], (.int .i64 a1)), (2, [], (.int .i64 m2)), (3, [], (.int .i64 b3)), (4, [], (.func (.func 108) #[] #[(.pointer (some ⟨E_b, 0, none⟩))])), (14, [], (.int .i64 i_39)), (15, [], (.int .i64 i_40))]) (fun (j : Int × Int) => match j with | ⟨i_39, i_40⟩ => [⟨A_o, 93, row encA2I64 data0 A_sp⟩, ⟨some E_b, 84, [(.slice E_a g4c0.length E_c)]⟩]) ?_ ?_))
      ·refine jc_block (jc_seq (jc_region (qh [0,0,0,0,0,0,0] (qe (jx_then (jc_seq (qg [⟨A_o, 93, row encA2I64 data0 A_sp⟩, ⟨some E_b, 84, [(.slice E_a g4c0.length E_c)]⟩] 12 (qd [⟨0, 0, 0⟩,⟨1, 0, 0⟩,⟨2, 0, 0⟩,⟨5, 0, 0⟩,⟨6, 0, 0⟩] 7 [0, 1] ?_))))))))
       obtain ⟨x_42, hx_607, h⟩ := bd h
       refine qv 3 0 [0, 1] (fun w hm => idx_run (a := (A_o.map fun b => ⟨b, 0, none⟩)) (len := data0.length) (s := 2) (j := m2) (by kernel_rfl) (ix_some hx_607).1 (ltn hx_607 rfl) (spo A_ho hx_607)) (qv 4 0 [0, 1] (fun w hm => ld_run (b := aB (A_o.map fun b => ⟨b, 0, none⟩)) (off := (aO (A_o.map fun b => ⟨b, 0, none⟩) + m2.toNat * 2)) (s := 2) (agg := true) (vs := (encA2I64 x_42)) (by kernel_rfl) (encA2I64_len x_42) (.inl rfl) ((hm.ow 0 A_o 93 data0 A_sp (fun e => (A_ho e).1) encA2I64_len).at hx_607)) ?_)
       obtain ⟨x_43, hx_608, h⟩ := bd h
       refine qv 7 0 [0, 1] (fun w hm => idx_run (a := (A_o.map fun b => ⟨b, 0, none⟩)) (len := data0.length) (s := 2) (j := (w64 (bShr .u64 (u64 (w64 (i_35 + i_36))) 1))) (by kernel_rfl) (ix_some hx_608).1 (ltn hx_608 rfl) (spo A_ho hx_608)) (qv 8 0 [0, 1] (fun w hm => ld_run (b := aB (A_o.map fun b => ⟨b, 0, none⟩)) (off := (aO (A_o.map fun b => ⟨b, 0, none⟩) + (w64 (bShr .u64 (u64 (w64 (i_35 + i_36))) 1)).toNat * 2)) (s := 2) (agg := true) (vs := (encA2I64 x_43)) (by kernel_rfl) (encA2I64_len x_43) (.inl rfl) ((hm.ow 0 A_o 93 data0 A_sp (fun e => (A_ho e).1) encA2I64_len).at hx_608)) ?_)
       obtain ⟨t_44, ht_609, h⟩ := bd h
       refine tD 9 (pc 0 (fun w hm => impl_pairsOf_1.calls x_42 x_43 g4c0 w _ E_c (hm.exRowW E_h E_ha) rfl E_b (hm.pass (N := [⟨some E_b, 84, [(.slice E_a g4c0.length E_c)]⟩]) [1] (by kernel_rfl) (by kernel_rfl)) (hm.exApart (N := [⟨some E_b, 84, [(.slice E_a g4c0.length E_c)]⟩]) E_h E_ha [1] (by kernel_rfl)) (hm.innPass (N := [⟨some E_b, 84, [(.slice E_a g4c0.length E_c)]⟩]) E_i [1] (by kernel_rfl)) ht_609) ?_)
       rintro w v w' hm ⟨rfl, hm'⟩
       refine ⟨_, hm.appW (ps := [(1, ⟨some E_b, 84, [(.slice E_a g4c0.length E_c)]⟩)]) (N := []) hm' (by kernel_rfl) (by kernel_rfl), kD [0, 1] ?_⟩
       clear hm hm'
       refine qd [⟨10, 0, 0⟩,⟨11, 0, 0⟩] 0 [0, 1] (qz (jx_then (qi h (fun h => ?_) (fun h => ?_))))
       ·exact jc_region (qh [0,0,0] (qe (jx_inn (qm ⟨(w64 ((w64 (bShr .u64 (u64 (w64 (i_35 + i_36))) 1)) + 1)), i_36⟩ h [0, 1]))))
       ·exact jc_region (qh [0,0] (qe (jx_inn (qm ⟨i_35, (w64 (bShr .u64 (u64 (w64 (i_35 + i_36))) 1))⟩ h [0, 1]))))
      ·rintro ⟨i_39, i_40⟩ h
       replace h : slices_symMergeCmpFunc_2int64_at_impl_pairsOf_1.k_41 i_39 i_40 = some y_600 := h
       rw [slices_symMergeCmpFunc_2int64_at_impl_pairsOf_1.k_41] at h
       exact qb (i_39, i_40) () h trivial [0, 1]
     ·refine jc_exit (jx_thenx (jx_leave i_35 (Option.some.inj h).symm (fun e_611 => ?_)))
      subst e_611
      exact jx_ine (qm i_35 hr_599 [0, 1])
    ·rintro i_23 h
     replace h : slices_symMergeCmpFunc_2int64_at_impl_pairsOf_1.k_24 data0 m2 i_23 = some r := h
     rw [slices_symMergeCmpFunc_2int64_at_impl_pairsOf_1.k_24] at h
     refine jx_then (jc_seq (jc_seq (jc_region (qh [0,0] (qe (jx_then (jc_meet (fun (j : (List (Arr 2 Int))) => match j with | xs_25 => slices_symMergeCmpFunc_2int64_at_impl_pairsOf_1.k_26 xs_25 = some r ∧ (xs_25.length = data0.length) ∧ ((A_o = none → xs_25 = [] ∧ A_c = 0))) (fun (j : (List (Arr 2 Int))) => match j with | xs_25 => [(0, [], (.slice (A_o.map fun b => ⟨b, 0, none⟩) data0.length A_c)), (1, [], (.int .i64 a1)), (2, [], (.int .i64 m2)), (3, [], (.int .i64 b3)), (4, [], (.func (.func 108) #[] #[(.pointer (some ⟨E_b, 0, none⟩))]))]) (fun (j : (List (Arr 2 Int))) => match j with | xs_25 => [⟨A_o, 93, row encA2I64 xs_25 A_sp⟩, ⟨some E_b, 84, [(.slice E_a g4c0.length E_c)]⟩]) ?_ ?_)))))))
     ·refine jc_block ?_
      obtain ⟨t_30, ht_578, hr_564⟩ := bd h
      refine jc_loop (fun (s : (List (Arr 2 Int)) × Int) (x : Unit) => match s, x with | ⟨xs_27, i_28⟩, _ => (xs_27.length = data0.length) ∧ ((A_o = none → xs_27 = [] ∧ A_c = 0))) (fun (s : (List (Arr 2 Int)) × Int) (x : Unit) => match s, x with | ⟨xs_27, i_28⟩, _ => [(0, [], (.slice (A_o.map fun b => ⟨b, 0, none⟩) data0.length A_c)), (1, [], (.int .i64 a1)), (2, [], (.int .i64 m2)), (3, [], (.int .i64 b3)), (4, [], (.func (.func 108) #[] #[(.pointer (some ⟨E_b, 0, none⟩))])), (14, [], (.int .i64 i_23)), (17, [], (.int .i64 i_28))]) (fun (s : (List (Arr 2 Int)) × Int) (x : Unit) => match s, x with | ⟨xs_27, i_28⟩, _ => [⟨A_o, 93, row encA2I64 xs_27 A_sp⟩, ⟨some E_b, 84, [(.slice E_a g4c0.length E_c)]⟩]) ht_578 () ⟨rfl, A_ho⟩ (by kernel_rfl) [0, 1] (by kernel_rfl) (by kernel_rfl) ?_
      rintro ⟨xs_27, i_28⟩ _ y_565 ⟨hn_563, ho_562⟩ h
      rw [slices_symMergeCmpFunc_2int64_at_impl_pairsOf_1.l_29] at h
      refine jc_seq (jc_seq (jc_region (qh [0,0,0] (qe (jx_then (qi h (fun h => ?_) (fun h => ?_)))))))
      ·refine jc_skip (jx_then (jc_seq (jc_block (qg [⟨some E_b, 84, [(.slice E_a g4c0.length E_c)]⟩] 18 (qd [⟨0, 0, 0⟩,⟨1, 0, 0⟩,⟨2, 0, 0⟩,⟨3, 0, 0⟩,⟨4, 0, 0⟩,⟨5, 0, 0⟩,⟨6, 0, 0⟩,⟨7, 0, 0⟩,⟨10, 0, 0⟩,⟨11, 0, 0⟩] 8 [1] ?_)))))
       obtain ⟨x_31, hx_571, h⟩ := bd h
       refine qv 8 0 [1] (fun w hm => idx_run (a := (A_o.map fun b => ⟨b, 0, none⟩)) (len := data0.length) (s := 2) (j := (w64 (i_28 - 1))) (by kernel_rfl) (ix_some hx_571).1 (ltn hx_571 hn_563) (spo ho_562 hx_571)) ?_
       obtain ⟨x_32, hx_572, h⟩ := bd h
       refine qv 12 0 [1] (fun w hm => idx_run (a := (A_o.map fun b => ⟨b, 0, none⟩)) (len := data0.length) (s := 2) (j := i_28) (by kernel_rfl) (ix_some hx_572).1 (ltn hx_572 hn_563) (spo ho_562 hx_572)) (toD2 9 13 (by kernel_rfl) ?_ ?_)
       ·refine p_ldx 0 (aB (A_o.map fun b => ⟨b, 0, none⟩)) (aO (A_o.map fun b => ⟨b, 0, none⟩) + (w64 (i_28 - 1)).toNat * 2) (encA2I64 x_31) 2 (by kernel_rfl) (by kernel_rfl) (encA2I64_len x_31) (fun w hm => ((hm.ow 0 A_o 93 xs_27 A_sp (fun e => (ho_562 e).1) encA2I64_len).at hx_571)) (kD [1] (tD 13 (p_ldx 0 (aB (A_o.map fun b => ⟨b, 0, none⟩)) (aO (A_o.map fun b => ⟨b, 0, none⟩) + i_28.toNat * 2) (encA2I64 x_32) 2 (by kernel_rfl) (by kernel_rfl) (encA2I64_len x_32) (fun w hm => ((hm.ow 0 A_o 93 xs_27 A_sp (fun e => (ho_562 e).1) encA2I64_len).at hx_572)) (kD [1] ?_))))
        obtain ⟨x_33, hx_573, h⟩ := bd h
        refine qv 14 0 [1] (fun w hm => idx_run (a := (A_o.map fun b => ⟨b, 0, none⟩)) (len := data0.length) (s := 2) (j := i_28) (by kernel_rfl) (ix_some hx_573).1 (ltn hx_573 hn_563) (spo ho_562 hx_573)) (tD 15 (p_strWO 0 0 A_o 93 encA2I64 xs_27 A_sp i_28 x_31 2 (by kernel_rfl) (by kernel_rfl) (by kernel_rfl) (fun e => (ho_562 e).1) encA2I64_len encA2I64_cell hx_573 (kD [1] ?_)))
        obtain ⟨x_34, hx_574, h⟩ := bd h
        exact qv 16 0 [1] (fun w hm => idx_run (a := (A_o.map fun b => ⟨b, 0, none⟩)) (len := data0.length) (s := 2) (j := (w64 (i_28 - 1))) (by kernel_rfl) (ix_some hx_574).1 (ltn hx_574 (List.length_set.trans hn_563)) (spo (set_ho ho_562) hx_574)) (tD 17 (p_strWO 0 0 A_o 93 encA2I64 (xs_27.set i_28.toNat x_31) A_sp (w64 (i_28 - 1)) x_32 2 (by kernel_rfl) (by kernel_rfl) (by kernel_rfl) (fun e => ((set_ho ho_562) e).1) encA2I64_len encA2I64_cell hx_574 (kD [1] (qz (jx_inn (jx_then (jc_region (qh [0,0,0] (qe (qb (((xs_27.set i_28.toNat x_31).set (w64 (i_28 - 1)).toNat x_32), (w64 (i_28 - 1))) () h ⟨(List.length_set.trans (List.length_set.trans hn_563)), (set_ho (set_ho ho_562))⟩ [0, 1]))))))))))
       ·refine p_ldx 0 (aB (A_o.map fun b => ⟨b, 0, none⟩)) (aO (A_o.map fun b => ⟨b, 0, none⟩) + i_28.toNat * 2) (encA2I64 x_32) 2 (by kernel_rfl) (by kernel_rfl) (encA2I64_len x_32) (fun w hm => ((hm.ow 0 A_o 93 xs_27 A_sp (fun e => (ho_562 e).1) encA2I64_len).at hx_572)) (kD [1] (tD 9 (p_ldx 0 (aB (A_o.map fun b => ⟨b, 0, none⟩)) (aO (A_o.map fun b => ⟨b, 0, none⟩) + (w64 (i_28 - 1)).toNat * 2) (encA2I64 x_31) 2 (by kernel_rfl) (by kernel_rfl) (encA2I64_len x_31) (fun w hm => ((hm.ow 0 A_o 93 xs_27 A_sp (fun e => (ho_562 e).1) encA2I64_len).at hx_571)) (kD [1] ?_))))
        obtain ⟨x_33, hx_575, h⟩ := bd h
        refine qv 14 0 [1] (fun w hm => idx_run (a := (A_o.map fun b => ⟨b, 0, none⟩)) (len := data0.length) (s := 2) (j := i_28) (by kernel_rfl) (ix_some hx_575).1 (ltn hx_575 hn_563) (spo ho_562 hx_575)) (tD 15 (p_strWO 0 0 A_o 93 encA2I64 xs_27 A_sp i_28 x_31 2 (by kernel_rfl) (by kernel_rfl) (by kernel_rfl) (fun e => (ho_562 e).1) encA2I64_len encA2I64_cell hx_575 (kD [1] ?_)))
        obtain ⟨x_34, hx_576, h⟩ := bd h
        exact qv 16 0 [1] (fun w hm => idx_run (a := (A_o.map fun b => ⟨b, 0, none⟩)) (len := data0.length) (s := 2) (j := (w64 (i_28 - 1))) (by kernel_rfl) (ix_some hx_576).1 (ltn hx_576 (List.length_set.trans hn_563)) (spo (set_ho ho_562) hx_576)) (tD 17 (p_strWO 0 0 A_o 93 encA2I64 (xs_27.set i_28.toNat x_31) A_sp (w64 (i_28 - 1)) x_32 2 (by kernel_rfl) (by kernel_rfl) (by kernel_rfl) (fun e => ((set_ho ho_562) e).1) encA2I64_len encA2I64_cell hx_576 (kD [1] (qz (jx_inn (jx_then (jc_region (qh [0,0,0] (qe (qb (((xs_27.set i_28.toNat x_31).set (w64 (i_28 - 1)).toNat x_32), (w64 (i_28 - 1))) () h ⟨(List.length_set.trans (List.length_set.trans hn_563)), (set_ho (set_ho ho_562))⟩ [0, 1]))))))))))
      ·refine jc_exit (jx_thenx (jx_leave xs_27 (Option.some.inj h).symm (fun e_577 => ?_)))
       subst e_577
       exact jx_ine (qm xs_27 ⟨hr_564, hn_563, ho_562⟩ [0, 1])
     ·rintro xs_25 ⟨h, hn_537, ho_536⟩
      replace h : slices_symMergeCmpFunc_2int64_at_impl_pairsOf_1.k_26 xs_25 = some r := h
      rw [slices_symMergeCmpFunc_2int64_at_impl_pairsOf_1.k_26] at h
      refine jx_then (jc_ret (jx_thenr ?_))
      obtain rfl := Option.some.inj h
      exact qr [] (fun w hm => ⟨hn_537, ho_536, rfl, hm.pk [0, 1]⟩)
   ·refine jc_skip (jx_then (jc_seq (jc_region (qh [0,0,0,0,0,0,0] (qe (jx_then (jc_seq (jc_region (qh [0,0,0,0] (qe (jx_then (jc_seq (jc_region (qh [0,0] (qe (jx_then (jc_seq (jc_meet (fun (j : Int × Int) => match j with | ⟨i_45, i_46⟩ => slices_symMergeCmpFunc_2int64_at_impl_pairsOf_1.k_47 self_ data0 a1 m2 b3 g4c0 i_45 i_46 = some r) (fun (j : Int × Int) => match j with | ⟨i_45, i_46⟩ => [(0, [], (.slice (A_o.map fun b => ⟨b, 0, none⟩) data0.length A_c)), (1, [], (.int .i64 a1)), (2, [], (.int .i64 m2)), (3, [], (.int .i64 b3)), (4, [], (.func (.func 108) #[] #[(.pointer (some ⟨E_b, 0, none⟩))])), (18, [], (.int .i64 (w64 (bShr .u64 (u64 (w64 (a1 + b3))) 1)))), (19, [], (.int .i64 (w64 ((w64 (bShr .u64 (u64 (w64 (a1 + b3))) 1)) + m2)))), (20, [], (.int .i64 i_45)), (21, [], (.int .i64 i_46))]) (fun (j : Int × Int) => match j with | ⟨i_45, i_46⟩ => [⟨A_o, 93, row encA2I64 data0 A_sp⟩, ⟨some E_b, 84, [(.slice E_a g4c0.length E_c)]⟩]) ?_ ?_))))))))))))))))))
    ·refine jc_seq (jc_region (qh [0,0,0] (qe (jx_then (qi h (fun h => ?_) (fun h => ?_))))))
     ·exact jc_seq (jc_region (qh [0,0,0,0] (qe (jx_then (jc_region (qh [0,0] (qe (qm ⟨(w64 ((w64 ((w64 (bShr .u64 (u64 (w64 (a1 + b3))) 1)) + m2)) - b3)), (w64 (bShr .u64 (u64 (w64 (a1 + b3))) 1))⟩ h [0, 1]))))))))
     ·exact jc_seq (jc_region (qh [0,0] (qe (jx_then (jc_region (qh [0,0] (qe (qm ⟨a1, m2⟩ h [0, 1]))))))))
    ·rintro ⟨i_45, i_46⟩ h
     replace h : slices_symMergeCmpFunc_2int64_at_impl_pairsOf_1.k_47 self_ data0 a1 m2 b3 g4c0 i_45 i_46 = some r := h
     rw [slices_symMergeCmpFunc_2int64_at_impl_pairsOf_1.k_47] at h
     refine jx_then (jc_seq (jc_region (qh [0,0,0] (qe (jx_then (jc_seq (jc_meet (fun (j : Int) => match j with | i_48 => slices_symMergeCmpFunc_2int64_at_impl_pairsOf_1.k_49 self_ data0 a1 m2 b3 g4c0 i_48 = some r) (fun (j : Int) => match j with | i_48 => [(0, [], (.slice (A_o.map fun b => ⟨b, 0, none⟩) data0.length A_c)), (1, [], (.int .i64 a1)), (2, [], (.int .i64 m2)), (3, [], (.int .i64 b3)), (4, [], (.func (.func 108) #[] #[(.pointer (some ⟨E_b, 0, none⟩))])), (18, [], (.int .i64 (w64 (bShr .u64 (u64 (w64 (a1 + b3))) 1)))), (19, [], (.int .i64 (w64 ((w64 (bShr .u64 (u64 (w64 (a1 + b3))) 1)) + m2)))), (20, [], (.int .i64 i_48))]) (fun (j : Int) => match j with | i_48 => [⟨A_o, 93, row encA2I64 data0 A_sp⟩, ⟨some E_b, 84, [(.slice E_a g4c0.length E_c)]⟩]) ?_ ?_)))))))
     ·refine jc_block ?_
      obtain ⟨t_60, ht_705, hr_692⟩ := bd h
      refine jc_loop (fun (s : Int × Int) (x : Unit) => match s, x with | ⟨i_57, i_58⟩, _ => True) (fun (s : Int × Int) (x : Unit) => match s, x with | ⟨i_57, i_58⟩, _ => [(0, [], (.slice (A_o.map fun b => ⟨b, 0, none⟩) data0.length A_c)), (1, [], (.int .i64 a1)), (2, [], (.int .i64 m2)), (3, [], (.int .i64 b3)), (4, [], (.func (.func 108) #[] #[(.pointer (some ⟨E_b, 0, none⟩))])), (18, [], (.int .i64 (w64 (bShr .u64 (u64 (w64 (a1 + b3))) 1)))), (19, [], (.int .i64 (w64 ((w64 (bShr .u64 (u64 (w64 (a1 + b3))) 1)) + m2)))), (20, [], (.int .i64 i_57)), (21, [], (.int .i64 i_58)), (22, [], (.int .i64 (w64 ((w64 ((w64 (bShr .u64 (u64 (w64 (a1 + b3))) 1)) + m2)) - 1))))]) (fun (s : Int × Int) (x : Unit) => match s, x with | ⟨i_57, i_58⟩, _ => [⟨A_o, 93, row encA2I64 data0 A_sp⟩, ⟨some E_b, 84, [(.slice E_a g4c0.length E_c)]⟩]) ht_705 () trivial (by kernel_rfl) [0, 1] (by kernel_rfl) (by kernel_rfl) ?_
      rintro ⟨i_57, i_58⟩ _ y_693 _ h
      rw [slices_symMergeCmpFunc_2int64_at_impl_pairsOf_1.l_59] at h
      refine jc_seq (jc_seq (jc_region (qh [0,0,0] (qe (jx_then (qi h (fun h => ?_) (fun h => ?_)))))))
      ·refine jc_skip (jx_then (jc_meet (fun (j : Int × Int) => match j with | ⟨i_61, i_62⟩ => slices_symMergeCmpFunc_2int64_at_impl_pairsOf_1.k_63 i_61 i_62 = some y_693) (fun (j : Int × Int) => match j with | ⟨i_61, i_62⟩ => [(0, [], (.slice (A_o.map fun b => ⟨b, 0, none⟩) data0.length A_c)), (1, [], (.int .i64 a1)), (2, [], (.int .i64 m2)), (3, [], (.int .i64 b3)), (4, [], (.func (.func 108) #[] #[(.pointer (some ⟨E_b, 0, none⟩))])), (18, [], (.int .i64 (w64 (bShr .u64 (u64 (w64 (a1 + b3))) 1)))), (19, [], (.int .i64 (w64 ((w64 (bShr .u64 (u64 (w64 (a1 + b3))) 1)) + m2)))), (20, [], (.int .i64 i_61)), (21, [], (.int .i64 i_62)), (22, [], (.int .i64 (w64 ((w64 ((w64 (bShr .u64 (u64 (w64 (a1 + b3))) 1)) + m2)) - 1))))]) (fun (j : Int × Int) => match j with | ⟨i_61, i_62⟩ => [⟨A_o, 93, row encA2I64 data0 A_sp⟩, ⟨some E_b, 84, [(.slice E_a g4c0.length E_c)]⟩]) ?_ ?_))
       ·refine jc_block (jc_seq (jc_region (qh [0,0,0,0,0,0,0] (qe (jx_then (jc_seq (qg [⟨A_o, 93, row encA2I64 data0 A_sp⟩, ⟨some E_b, 84, [(.slice E_a g4c0.length E_c)]⟩] 14 (qd [⟨0, 0, 0⟩,⟨1, 0, 0⟩,⟨2, 0, 0⟩,⟨3, 0, 0⟩,⟨4, 0, 0⟩,⟨7, 0, 0⟩,⟨8, 0, 0⟩] 7 [0, 1] ?_))))))))
        obtain ⟨x_64, hx_700, h⟩ := bd h
        refine qv 5 0 [0, 1] (fun w hm => idx_run (a := (A_o.map fun b => ⟨b, 0, none⟩)) (len := data0.length) (s := 2) (j := (w64 ((w64 ((w64 ((w64 (bShr .u64 (u64 (w64 (a1 + b3))) 1)) + m2)) - 1)) - (w64 (bShr .u64 (u64 (w64 (i_57 + i_58))) 1))))) (by kernel_rfl) (ix_some hx_700).1 (ltn hx_700 rfl) (spo A_ho hx_700)) (qv 6 0 [0, 1] (fun w hm => ld_run (b := aB (A_o.map fun b => ⟨b, 0, none⟩)) (off := (aO (A_o.map fun b => ⟨b, 0, none⟩) + (w64 ((w64 ((w64 ((w64 (bShr .u64 (u64 (w64 (a1 + b3))) 1)) + m2)) - 1)) - (w64 (bShr .u64 (u64 (w64 (i_57 + i_58))) 1)))).toNat * 2)) (s := 2) (agg := true) (vs := (encA2I64 x_64)) (by kernel_rfl) (encA2I64_len x_64) (.inl rfl) ((hm.ow 0 A_o 93 data0 A_sp (fun e => (A_ho e).1) encA2I64_len).at hx_700)) ?_)
        obtain ⟨x_65, hx_701, h⟩ := bd h
        refine qv 9 0 [0, 1] (fun w hm => idx_run (a := (A_o.map fun b => ⟨b, 0, none⟩)) (len := data0.length) (s := 2) (j := (w64 (bShr .u64 (u64 (w64 (i_57 + i_58))) 1))) (by kernel_rfl) (ix_some hx_701).1 (ltn hx_701 rfl) (spo A_ho hx_701)) (qv 10 0 [0, 1] (fun w hm => ld_run (b := aB (A_o.map fun b => ⟨b, 0, none⟩)) (off := (aO (A_o.map fun b => ⟨b, 0, none⟩) + (w64 (bShr .u64 (u64 (w64 (i_57 + i_58))) 1)).toNat * 2)) (s := 2) (agg := true) (vs := (encA2I64 x_65)) (by kernel_rfl) (encA2I64_len x_65) (.inl rfl) ((hm.ow 0 A_o 93 data0 A_sp (fun e => (A_ho e).1) encA2I64_len).at hx_701)) ?_)
        obtain ⟨t_66, ht_702, h⟩ := bd h
        refine tD 11 (pc 0 (fun w hm => impl_pairsOf_1.calls x_64 x_65 g4c0 w _ E_c (hm.exRowW E_h E_ha) rfl E_b (hm.pass (N := [⟨some E_b, 84, [(.slice E_a g4c0.length E_c)]⟩]) [1] (by kernel_rfl) (by kernel_rfl)) (hm.exApart (N := [⟨some E_b, 84, [(.slice E_a g4c0.length E_c)]⟩]) E_h E_ha [1] (by kernel_rfl)) (hm.innPass (N := [⟨some E_b, 84, [(.slice E_a g4c0.length E_c)]⟩]) E_i [1] (by kernel_rfl)) ht_702) ?_)
        rintro w v w' hm ⟨rfl, hm'⟩
        refine ⟨_, hm.appW (ps := [(1, ⟨some E_b, 84, [(.slice E_a g4c0.length E_c)]⟩)]) (N := []) hm' (by kernel_rfl) (by kernel_rfl), kD [0, 1] ?_⟩
        clear hm hm'
        refine qd [⟨12, 0, 0⟩,⟨13, 0, 0⟩] 0 [0, 1] (qz (jx_then (qi h (fun h => ?_) (fun h => ?_))))
        ·exact jc_region (qh [0,0,0] (qe (jx_inn (qm ⟨(w64 ((w64 (bShr .u64 (u64 (w64 (i_57 + i_58))) 1)) + 1)), i_58⟩ h [0, 1]))))
        ·exact jc_region (qh [0,0] (qe (jx_inn (qm ⟨i_57, (w64 (bShr .u64 (u64 (w64 (i_57 + i_58))) 1))⟩ h [0, 1]))))
       ·rintro ⟨i_61, i_62⟩ h
        replace h : slices_symMergeCmpFunc_2int64_at_impl_pairsOf_1.k_63 i_61 i_62 = some y_693 := h
        rw [slices_symMergeCmpFunc_2int64_at_impl_pairsOf_1.k_63] at h
        exact qb (i_61, i_62) () h trivial [0, 1]
      ·refine jc_exit (jx_thenx (jx_leave i_57 (Option.some.inj h).symm (fun e_704 => ?_)))
       subst e_704
       exact jx_ine (qm i_57 hr_692 [0, 1])
     ·rintro i_48 h
      replace h : slices_symMergeCmpFunc_2int64_at_impl_pairsOf_1.k_49 self_ data0 a1 m2 b3 g4c0 i_48 = some r := h
      rw [slices_symMergeCmpFunc_2int64_at_impl_pairsOf_1.k_49] at h
      refine jx_then (jc_seq (jc_region (qh [0,0,0,0] (qe (jx_then (jc_seq (jc_meet (fun (j : (List (Arr 2 Int))) => match j with | xs_50 => slices_symMergeCmpFunc_2int64_at_impl_pairsOf_1.k_51 self_ a1 m2 b3 g4c0 i_48 xs_50 = some r ∧ (xs_50.length = data0.length) ∧ ((A_o = none → xs_50 = [] ∧ A_c = 0))) (fun (j : (List (Arr 2 Int))) => match j with | xs_50 => [(0, [], (.slice (A_o.map fun b => ⟨b, 0, none⟩) data0.length A_c)), (1, [], (.int .i64 a1)), (3, [], (.int .i64 b3)), (4, [], (.func (.func 108) #[] #[(.pointer (some ⟨E_b, 0, none⟩))])), (18, [], (.int .i64 (w64 (bShr .u64 (u64 (w64 (a1 + b3))) 1)))), (20, [], (.int .i64 i_48)), (24, [], (.int .i64 (w64 ((w64 ((w64 (bShr .u64 (u64 (w64 (a1 + b3))) 1)) + m2)) - i_48))))]) (fun (j : (List (Arr 2 Int))) => match j with | xs_50 => [⟨A_o, 93, row encA2I64 xs_50 A_sp⟩, ⟨some E_b, 84, [(.slice E_a g4c0.length E_c)]⟩]) ?_ ?_)))))))
      ·refine jc_seq (jc_region (qf [(0, 0), (0, 0), (0, 0), (0, 0), (0, 1), (0, 1), (0, 1), (0, 0)] (qe (jx_then (qi h (fun h => ?_) (fun h => ?_))))))
       ·refine jc_region (qh [0,0,0,0,0] ?_)
        obtain ⟨t_56, ht_669, h⟩ := bd h
        refine tO (pc 0 (fun w hm => slices_rotateCmpFunc_2int64_at_impl_pairsOf_1.calls data0 i_48 m2 (w64 ((w64 ((w64 (bShr .u64 (u64 (w64 (a1 + b3))) 1)) + m2)) - i_48)) g4c0 w _ E_c (hm.exRowW E_h E_ha) rfl A_o rfl A_hs A_ho E_b (hm.pass (N := [⟨A_o, 93, row encA2I64 data0 A_sp⟩, ⟨some E_b, 84, [(.slice E_a g4c0.length E_c)]⟩]) [0, 1] (by kernel_rfl) (by kernel_rfl)) (hm.exApart (N := [⟨A_o, 93, row encA2I64 data0 A_sp⟩, ⟨some E_b, 84, [(.slice E_a g4c0.length E_c)]⟩]) E_h E_ha [0, 1] (by kernel_rfl)) (hm.innPass (N := [⟨A_o, 93, row encA2I64 data0 A_sp⟩, ⟨some E_b, 84, [(.slice E_a g4c0.length E_c)]⟩]) E_i [0, 1] (by kernel_rfl)) ht_669) ?_)
        rintro w v w' hm ⟨hn_670, ho_671, rfl, hm'⟩
        refine ⟨_, hm.appW (ps := [(0, ⟨A_o, 93, row encA2I64 t_56 A_sp⟩), (1, ⟨some E_b, 84, [(.slice E_a g4c0.length E_c)]⟩)]) (N := []) hm' (by kernel_rfl) (by kernel_rfl), jkO ?_⟩
        clear hm hm'
        exact qe (qm t_56 ⟨h, hn_670, ho_671⟩ [0, 1])
       ·exact jc_skip (qm data0 ⟨h, rfl, A_ho⟩ [0, 1])
      ·rintro xs_50 ⟨h, hn_653, ho_652⟩
       replace h : slices_symMergeCmpFunc_2int64_at_impl_pairsOf_1.k_51 self_ a1 m2 b3 g4c0 i_48 xs_50 = some r := h
       rw [slices_symMergeCmpFunc_2int64_at_impl_pairsOf_1.k_51] at h
       refine jx_then (jc_seq (jc_meet (fun (j : (List (Arr 2 Int))) => match j with | xs_52 => slices_symMergeCmpFunc_2int64_at_impl_pairsOf_1.k_53 self_ a1 m2 b3 g4c0 i_48 xs_52 = some r ∧ (xs_52.length = data0.length) ∧ ((A_o = none → xs_52 = [] ∧ A_c = 0))) (fun (j : (List (Arr 2 Int))) => match j with | xs_52 => [(0, [], (.slice (A_o.map fun b => ⟨b, 0, none⟩) data0.length A_c)), (3, [], (.int .i64 b3)), (4, [], (.func (.func 108) #[] #[(.pointer (some ⟨E_b, 0, none⟩))])), (18, [], (.int .i64 (w64 (bShr .u64 (u64 (w64 (a1 + b3))) 1)))), (24, [], (.int .i64 (w64 ((w64 ((w64 (bShr .u64 (u64 (w64 (a1 + b3))) 1)) + m2)) - i_48))))]) (fun (j : (List (Arr 2 Int))) => match j with | xs_52 => [⟨A_o, 93, row encA2I64 xs_52 A_sp⟩, ⟨some E_b, 84, [(.slice E_a g4c0.length E_c)]⟩]) ?_ ?_))
       ·refine jc_seq (jc_region (qf [(0, 0), (0, 0), (0, 0), (0, 0), (0, 1), (0, 1), (0, 1), (0, 0)] (qe (jx_then (qi h (fun h => ?_) (fun h => ?_))))))
        ·refine jc_region (qh [0,0,0,0,0] ?_)
         obtain ⟨t_55, ht_665, h⟩ := bd h
         refine tO (pc 0 (fun w hm => hself xs_50 a1 i_48 (w64 (bShr .u64 (u64 (w64 (a1 + b3))) 1)) g4c0 w _ E_c (hm.exRowW E_h E_ha) rfl A_o hn_653 A_hs ho_652 E_b (hm.pass (N := [⟨A_o, 93, row encA2I64 xs_50 A_sp⟩, ⟨some E_b, 84, [(.slice E_a g4c0.length E_c)]⟩]) [0, 1] (by kernel_rfl) (by kernel_rfl)) (hm.exApart (N := [⟨A_o, 93, row encA2I64 xs_50 A_sp⟩, ⟨some E_b, 84, [(.slice E_a g4c0.length E_c)]⟩]) E_h E_ha [0, 1] (by kernel_rfl)) (hm.innPass (N := [⟨A_o, 93, row encA2I64 xs_50 A_sp⟩, ⟨some E_b, 84, [(.slice E_a g4c0.length E_c)]⟩]) E_i [0, 1] (by kernel_rfl)) ht_665) ?_)
         rintro w v w' hm ⟨hn_666, ho_667, rfl, hm'⟩
         refine ⟨_, hm.appW (ps := [(0, ⟨A_o, 93, row encA2I64 t_55 A_sp⟩), (1, ⟨some E_b, 84, [(.slice E_a g4c0.length E_c)]⟩)]) (N := []) hm' (by kernel_rfl) (by kernel_rfl), jkO ?_⟩
         clear hm hm'
         exact qe (qm t_55 ⟨h, hn_666, ho_667⟩ [0, 1])
        ·exact jc_skip (qm xs_50 ⟨h, hn_653, ho_652⟩ [0, 1])
       ·rintro xs_52 ⟨h, hn_659, ho_658⟩
        replace h : slices_symMergeCmpFunc_2int64_at_impl_pairsOf_1.k_53 self_ a1 m2 b3 g4c0 i_48 xs_52 = some r := h
        rw [slices_symMergeCmpFunc_2int64_at_impl_pairsOf_1.k_53] at h
        refine jx_then (jc_seq (jc_region (qf [(0, 0), (0, 0), (0, 0), (0, 0), (0, 1), (0, 1), (0, 1), (0, 0)] (qe (jx_then (qi h (fun h => ?_) (fun h => ?_)))))))
        ·refine jc_region (qh [0,0,0,0,0] ?_)
         obtain ⟨t_54, ht_661, h⟩ := bd h
         refine tO (pc 0 (fun w hm => hself xs_52 (w64 (bShr .u64 (u64 (w64 (a1 + b3))) 1)) (w64 ((w64 ((w64 (bShr .u64 (u64 (w64 (a1 + b3))) 1)) + m2)) - i_48)) b3 g4c0 w _ E_c (hm.exRowW E_h E_ha) rfl A_o hn_659 A_hs ho_658 E_b (hm.pass (N := [⟨A_o, 93, row encA2I64 xs_52 A_sp⟩, ⟨some E_b, 84, [(.slice E_a g4c0.length E_c)]⟩]) [0, 1] (by kernel_rfl) (by kernel_rfl)) (hm.exApart (N := [⟨A_o, 93, row encA2I64 xs_52 A_sp⟩, ⟨some E_b, 84, [(.slice E_a g4c0.length E_c)]⟩]) E_h E_ha [0, 1] (by kernel_rfl)) (hm.innPass (N := [⟨A_o, 93, row encA2I64 xs_52 A_sp⟩, ⟨some E_b, 84, [(.slice E_a g4c0.length E_c)]⟩]) E_i [0, 1] (by kernel_rfl)) ht_661) ?_)
         rintro w v w' hm ⟨hn_662, ho_663, rfl, hm'⟩
         refine ⟨_, hm.appW (ps := [(0, ⟨A_o, 93, row encA2I64 t_54 A_sp⟩), (1, ⟨some E_b, 84, [(.slice E_a g4c0.length E_c)]⟩)]) (N := []) hm' (by kernel_rfl) (by kernel_rfl), jkO ?_⟩
         clear hm hm'
         refine qe (jx_fall ?_)
         obtain rfl := Option.some.inj h
         exact qr [] (fun w hm => ⟨hn_662, ho_663, rfl, hm.pk [0, 1]⟩)
        ·refine jc_skip (jx_fall ?_)
         obtain rfl := Option.some.inj h
         exact qr [] (fun w hm => ⟨hn_659, ho_658, rfl, hm.pk [0, 1]⟩)
theorem slices_symMergeCmpFunc_2int64_at_impl_pairsOf_1.rec_calls (fu : Nat) : ∀ (data0 : List (Arr 2 Int)) (a1 : Int) (m2 : Int) (b3 : Int) (g4c0 : List (List Int)) (w : World) (r : (List (Arr 2 Int))) {E_a : Option Addr} {E_an : Nat} (E_c : Nat) {E_hs : List Hd} (E_h : Rw w E_a 1 encHd E_hs) (E_hn : g4c0.length = E_an) (A_o : Option Nat) {A_on : Nat} {A_c : Nat} {A_sp : List Value} (A_hn : data0.length = A_on) (A_hs : A_o ≠ none → A_on ≤ A_c ∧ A_sp.length = (A_c - A_on) * 2) (A_ho : A_o = none → data0 = [] ∧ A_c = 0) (E_b : Nat) (hm0 : Mem w (bs [A_o, some E_b]) [⟨A_o, 93, row encA2I64 data0 A_sp⟩, ⟨some E_b, 84, [(.slice E_a E_an E_c)]⟩] w) (E_ha : E_hs ≠ [] → aB E_a ∉ bs [A_o, some E_b]) (E_i : Inn w (bs [A_o, some E_b]) 1 encI64 E_hs g4c0) (h : slices_symMergeCmpFunc_2int64_at_impl_pairsOf_1.rec_ fu data0 a1 m2 b3 g4c0 = some r),
    Calls Try.prog 175 #[(.slice (A_o.map fun b => ⟨b, 0, none⟩) A_on A_c), (.int .i64 a1), (.int .i64 m2), (.int .i64 b3), (.func (.func 108) #[] #[(.pointer (some ⟨E_b, 0, none⟩))])] w fun e w' => ∃ v, e = .returned v ∧ (r.length = A_on ∧ (A_o = none → r = [] ∧ A_c = 0) ∧ v = .tuple #[] ∧ Mem w (bs [A_o, some E_b]) [⟨A_o, 93, row encA2I64 r A_sp⟩, ⟨some E_b, 84, [(.slice E_a E_an E_c)]⟩] w') := by
  induction fu with
  | zero => intros; rename_i h; cases h
  | succ fu ih => exact @slices_symMergeCmpFunc_2int64_at_impl_pairsOf_1.step_calls _ (slices_symMergeCmpFunc_2int64_at_impl_pairsOf_1.rec_ fu) @ih
theorem slices_symMergeCmpFunc_2int64_at_impl_pairsOf_1.calls (data0 : List (Arr 2 Int)) (a1 : Int) (m2 : Int) (b3 : Int) (g4c0 : List (List Int)) (w : World) (r : (List (Arr 2 Int))) {E_a : Option Addr} {E_an : Nat} (E_c : Nat) {E_hs : List Hd} (E_h : Rw w E_a 1 encHd E_hs) (E_hn : g4c0.length = E_an) (A_o : Option Nat) {A_on : Nat} {A_c : Nat} {A_sp : List Value} (A_hn : data0.length = A_on) (A_hs : A_o ≠ none → A_on ≤ A_c ∧ A_sp.length = (A_c - A_on) * 2) (A_ho : A_o = none → data0 = [] ∧ A_c = 0) (E_b : Nat) (hm0 : Mem w (bs [A_o, some E_b]) [⟨A_o, 93, row encA2I64 data0 A_sp⟩, ⟨some E_b, 84, [(.slice E_a E_an E_c)]⟩] w) (E_ha : E_hs ≠ [] → aB E_a ∉ bs [A_o, some E_b]) (E_i : Inn w (bs [A_o, some E_b]) 1 encI64 E_hs g4c0) (h : slices_symMergeCmpFunc_2int64_at_impl_pairsOf_1 data0 a1 m2 b3 g4c0 = some r) :
    Calls Try.prog 175 #[(.slice (A_o.map fun b => ⟨b, 0, none⟩) A_on A_c), (.int .i64 a1), (.int .i64 m2), (.int .i64 b3), (.func (.func 108) #[] #[(.pointer (some ⟨E_b, 0, none⟩))])] w fun e w' => ∃ v, e = .returned v ∧ (r.length = A_on ∧ (A_o = none → r = [] ∧ A_c = 0) ∧ v = .tuple #[] ∧ Mem w (bs [A_o, some E_b]) [⟨A_o, 93, row encA2I64 r A_sp⟩, ⟨some E_b, 84, [(.slice E_a E_an E_c)]⟩] w') :=
  slices_symMergeCmpFunc_2int64_at_impl_pairsOf_1.rec_calls 200 data0 a1 m2 b3 g4c0 w r E_c E_h E_hn A_o A_hn A_hs A_ho E_b hm0 E_ha E_i h
/-! ### slices.stableCmpFunc[[2]int64] -/
def slices_stableCmpFunc_2int64_at_impl_pairsOf_1.k_7 (xs_6 : List (Arr 2 Int)) : Option ((List (Arr 2 Int))) := some xs_6
def slices_stableCmpFunc_2int64_at_impl_pairsOf_1.k_13 (i_9 : Int) (xs_12 : List (Arr 2 Int)) : Option (((List (Arr 2 Int)) × Int) ⊕ ((List (Arr 2 Int)))) := some (.inl (xs_12, (w64 (i_9 * 2))))
def slices_stableCmpFunc_2int64_at_impl_pairsOf_1.k_16 (n1 : Int) (g2c0 : List (List Int)) (i_9 : Int) (xs_14 : List (Arr 2 Int)) (i_15 : Int) : Option (((List (Arr 2 Int)) × Int) ⊕ ((List (Arr 2 Int)))) := (if (decide ((w64 (i_15 + i_9)) < n1)) = true then (slices_symMergeCmpFunc_2int64_at_impl_pairsOf_1 xs_14 i_15 (w64 (i_15 + i_9)) n1 g2c0).bind fun t_17 => slices_stableCmpFunc_2int64_at_impl_pairsOf_1.k_13 i_9 t_17 else slices_stableCmpFunc_2int64_at_impl_pairsOf_1.k_13 i_9 xs_14)
def slices_stableCmpFunc_2int64_at_impl_pairsOf_1.l_21 (n1 : Int) (g2c0 : List (List Int)) (i_9 : Int) : ((List (Arr 2 Int)) × Int × Int) → Option (((List (Arr 2 Int)) × Int × Int) ⊕ (((List (Arr 2 Int)) × Int)))
  | (xs_18, i_19, i_20) => (if (decide (i_20 ≤ n1)) = true then (slices_symMergeCmpFunc_2int64_at_impl_pairsOf_1 xs_18 i_19 (w64 (i_19 + i_9)) i_20 g2c0).bind fun t_23 => some (.inl (t_23, i_20, (w64 (i_20 + (w64 (2 * i_9)))))) else some (.inr (xs_18, i_19)))
def slices_stableCmpFunc_2int64_at_impl_pairsOf_1.l_10 (n1 : Int) (g2c0 : List (List Int)) : ((List (Arr 2 Int)) × Int) → Option (((List (Arr 2 Int)) × Int) ⊕ ((List (Arr 2 Int))))
  | (xs_8, i_9) => (if (decide (i_9 < n1)) = true then (loop (slices_stableCmpFunc_2int64_at_impl_pairsOf_1.l_21 n1 g2c0 i_9) (xs_8, 0, (w64 (2 * i_9)))).bind fun t_22 => slices_stableCmpFunc_2int64_at_impl_pairsOf_1.k_16 n1 g2c0 i_9 t_22.1 t_22.2 else some (.inr xs_8))
def slices_stableCmpFunc_2int64_at_impl_pairsOf_1.k_4 (n1 : Int) (g2c0 : List (List Int)) (xs_1 : List (Arr 2 Int)) (i_2 : Int) (i_3 : Int) : Option ((List (Arr 2 Int))) := (slices_insertionSortCmpFunc_2int64_at_impl_pairsOf_1 xs_1 i_2 n1 g2c0).bind fun t_5 => (loop (slices_stableCmpFunc_2int64_at_impl_pairsOf_1.l_10 n1 g2c0) (t_5, 20)).bind fun t_11 => slices_stableCmpFunc_2int64_at_impl_pairsOf_1.k_7 t_11
def slices_stableCmpFunc_2int64_at_impl_pairsOf_1.l_27 (n1 : Int) (g2c0 : List (List Int)) : ((List (Arr 2 Int)) × Int × Int) → Option (((List (Arr 2 Int)) × Int × Int) ⊕ (((List (Arr 2 Int)) × Int × Int)))
  | (xs_24, i_25, i_26) => (if (decide (i_26 ≤ n1)) = true then (slices_insertionSortCmpFunc_2int64_at_impl_pairsOf_1 xs_24 i_25 i_26 g2c0).bind fun t_29 => some (.inl (t_29, i_26, (w64 (i_26 + 20)))) else some (.inr (xs_24, i_25, i_26)))
def slices_stableCmpFunc_2int64_at_impl_pairsOf_1 (data0 : List (Arr 2 Int)) (n1 : Int) (g2c0 : List (List Int)) : Option ((List (Arr 2 Int))) := (loop (slices_stableCmpFunc_2int64_at_impl_pairsOf_1.l_27 n1 g2c0) (data0, 0, 20)).bind fun t_28 => slices_stableCmpFunc_2int64_at_impl_pairsOf_1.k_4 n1 g2c0 t_28.1 t_28.2.1 t_28.2.2
theorem slices_stableCmpFunc_2int64_at_impl_pairsOf_1.calls (data0 : List (Arr 2 Int)) (n1 : Int) (g2c0 : List (List Int)) (w : World) (r : (List (Arr 2 Int))) {C_a : Option Addr} {C_an : Nat} (C_c : Nat) {C_hs : List Hd} (C_h : Rw w C_a 1 encHd C_hs) (C_hn : g2c0.length = C_an) (A_o : Option Nat) {A_on : Nat} {A_c : Nat} {A_sp : List Value} (A_hn : data0.length = A_on) (A_hs : A_o ≠ none → A_on ≤ A_c ∧ A_sp.length = (A_c - A_on) * 2) (A_ho : A_o = none → data0 = [] ∧ A_c = 0) (C_b : Nat) (hm0 : Mem w (bs [A_o, some C_b]) [⟨A_o, 93, row encA2I64 data0 A_sp⟩, ⟨some C_b, 84, [(.slice C_a C_an C_c)]⟩] w) (C_ha : C_hs ≠ [] → aB C_a ∉ bs [A_o, some C_b]) (C_i : Inn w (bs [A_o, some C_b]) 1 encI64 C_hs g2c0) (h : slices_stableCmpFunc_2int64_at_impl_pairsOf_1 data0 n1 g2c0 = some r) :
    Calls Try.prog 145 #[(.slice (A_o.map fun b => ⟨b, 0, none⟩) A_on A_c), (.int .i64 n1), (.func (.func 108) #[] #[(.pointer (some ⟨C_b, 0, none⟩))])] w fun e w' => ∃ v, e = .returned v ∧ (r.length = A_on ∧ (A_o = none → r = [] ∧ A_c = 0) ∧ v = .tuple #[] ∧ Mem w (bs [A_o, some C_b]) [⟨A_o, 93, row encA2I64 r A_sp⟩, ⟨some C_b, 84, [(.slice C_a C_an C_c)]⟩] w') := by
  subst C_hn A_hn
  rw [slices_stableCmpFunc_2int64_at_impl_pairsOf_1] at h
  refine enter (args := [(.slice (A_o.map fun b => ⟨b, 0, none⟩) data0.length A_c), (.int .i64 n1), (.func (.func 108) #[] #[(.pointer (some ⟨C_b, 0, none⟩))])]) Try.func145 rfl Try.ntmps145 (by kernel_rfl) (L := [⟨A_o, 93, row encA2I64 data0 A_sp⟩, ⟨some C_b, 84, [(.slice C_a g2c0.length C_c)]⟩]) (W := bs [A_o, some C_b]) hm0 ?_
  refine jc_seq (jc_region (qh [0] (qe (jx_then (jc_seq (jc_region (qh [0,0,0] (qe (jx_then (jc_seq (jc_meet (fun (j : (List (Arr 2 Int)) × Int × Int) => match j with | ⟨xs_1, i_2, i_3⟩ => slices_stableCmpFunc_2int64_at_impl_pairsOf_1.k_4 n1 g2c0 xs_1 i_2 i_3 = some r ∧ (xs_1.length = data0.length) ∧ ((A_o = none → xs_1 = [] ∧ A_c = 0))) (fun (j : (List (Arr 2 Int)) × Int × Int) => match j with | ⟨xs_1, i_2, i_3⟩ => [(0, [], (.slice (A_o.map fun b => ⟨b, 0, none⟩) data0.length A_c)), (1, [], (.int .i64 n1)), (2, [], (.func (.func 108) #[] #[(.pointer (some ⟨C_b, 0, none⟩))])), (6, [], (.int .i64 20)), (7, [], (.int .i64 i_2)), (8, [], (.int .i64 i_3))]) (fun (j : (List (Arr 2 Int)) × Int × Int) => match j with | ⟨xs_1, i_2, i_3⟩ => [⟨A_o, 93, row encA2I64 xs_1 A_sp⟩, ⟨some C_b, 84, [(.slice C_a g2c0.length C_c)]⟩]) ?_ ?_)))))))))))
  ·refine jc_block ?_
   obtain ⟨t_28, ht_717, hr_709⟩ := bd h
   refine jc_loop (fun (s : (List (Arr 2 Int)) × Int × Int) (x : Unit) => match s, x with | ⟨xs_24, i_25, i_26⟩, _ => (xs_24.length = data0.length) ∧ ((A_o = none → xs_24 = [] ∧ A_c = 0))) (fun (s : (List (Arr 2 Int)) × Int × Int) (x : Unit) => match s, x with | ⟨xs_24, i_25, i_26⟩, _ => [(0, [], (.slice (A_o.map fun b => ⟨b, 0, none⟩) data0.length A_c)), (1, [], (.int .i64 n1)), (2, [], (.func (.func 108) #[] #[(.pointer (some ⟨C_b, 0, none⟩))])), (6, [], (.int .i64 20)), (7, [], (.int .i64 i_25)), (8, [], (.int .i64 i_26))]) (fun (s : (List (Arr 2 Int)) × Int × Int) (x : Unit) => match s, x with | ⟨xs_24, i_25, i_26⟩, _ => [⟨A_o, 93, row encA2I64 xs_24 A_sp⟩, ⟨some C_b, 84, [(.slice C_a g2c0.length C_c)]⟩]) ht_717 () ⟨rfl, A_ho⟩ (by kernel_rfl) [0, 1] (by kernel_rfl) (by kernel_rfl) ?_
   rintro ⟨xs_24, i_25, i_26⟩ _ y_710 ⟨hn_708, ho_707⟩ h
   rw [slices_stableCmpFunc_2int64_at_impl_pairsOf_1.l_27] at h
   refine jc_seq (jc_seq (jc_region (qh [0,0,0] (qe (jx_then (qi h (fun h => ?_) (fun h => ?_)))))))
   ·refine jc_skip (jx_then (jc_block (jc_seq (jc_region (qh [0,0,0,0] ?_)))))
    obtain ⟨t_29, ht_713, h⟩ := bd h
    refine tO (pc 0 (fun w hm => slices_insertionSortCmpFunc_2int64_at_impl_pairsOf_1.calls xs_24 i_25 i_26 g2c0 w _ C_c (hm.exRowW C_h C_ha) rfl A_o hn_708 A_hs ho_707 C_b (hm.pass (N := [⟨A_o, 93, row encA2I64 xs_24 A_sp⟩, ⟨some C_b, 84, [(.slice C_a g2c0.length C_c)]⟩]) [0, 1] (by kernel_rfl) (by kernel_rfl)) (hm.exApart (N := [⟨A_o, 93, row encA2I64 xs_24 A_sp⟩, ⟨some C_b, 84, [(.slice C_a g2c0.length C_c)]⟩]) C_h C_ha [0, 1] (by kernel_rfl)) (hm.innPass (N := [⟨A_o, 93, row encA2I64 xs_24 A_sp⟩, ⟨some C_b, 84, [(.slice C_a g2c0.length C_c)]⟩]) C_i [0, 1] (by kernel_rfl)) ht_713) ?_)
    rintro w v w' hm ⟨hn_714, ho_715, rfl, hm'⟩
    refine ⟨_, hm.appW (ps := [(0, ⟨A_o, 93, row encA2I64 t_29 A_sp⟩), (1, ⟨some C_b, 84, [(.slice C_a g2c0.length C_c)]⟩)]) (N := []) hm' (by kernel_rfl) (by kernel_rfl), jkO ?_⟩
    clear hm hm'
    exact qe (jx_then (jc_seq (jc_region (qh [0,0] (qe (jx_then (jc_region (qh [0,0,0,0] (qe (jx_inn (qb (t_29, i_26, (w64 (i_26 + 20))) () h ⟨hn_714, ho_715⟩ [0, 1])))))))))))
   ·refine jc_exit (jx_thenx (jx_leave (xs_24, i_25, i_26) (Option.some.inj h).symm (fun e_716 => ?_)))
    subst e_716
    exact jx_ine (qm ⟨xs_24, i_25, i_26⟩ ⟨hr_709, hn_708, ho_707⟩ [0, 1])
  ·rintro ⟨xs_1, i_2, i_3⟩ ⟨h, hn_25, ho_24⟩
   replace h : slices_stableCmpFunc_2int64_at_impl_pairsOf_1.k_4 n1 g2c0 xs_1 i_2 i_3 = some r := h
   rw [slices_stableCmpFunc_2int64_at_impl_pairsOf_1.k_4] at h
   refine jx_then (jc_seq (jc_region (qh [0,0,0,0] ?_)))
   obtain ⟨t_5, ht_26, h⟩ := bd h
   refine tO (pc 0 (fun w hm => slices_insertionSortCmpFunc_2int64_at_impl_pairsOf_1.calls xs_1 i_2 n1 g2c0 w _ C_c (hm.exRowW C_h C_ha) rfl A_o hn_25 A_hs ho_24 C_b (hm.pass (N := [⟨A_o, 93, row encA2I64 xs_1 A_sp⟩, ⟨some C_b, 84, [(.slice C_a g2c0.length C_c)]⟩]) [0, 1] (by kernel_rfl) (by kernel_rfl)) (hm.exApart (N := [⟨A_o, 93, row encA2I64 xs_1 A_sp⟩, ⟨some C_b, 84, [(.slice C_a g2c0.length C_c)]⟩]) C_h C_ha [0, 1] (by kernel_rfl)) (hm.innPass (N := [⟨A_o, 93, row encA2I64 xs_1 A_sp⟩, ⟨some C_b, 84, [(.slice C_a g2c0.length C_c)]⟩]) C_i [0, 1] (by kernel_rfl)) ht_26) ?_)
   rintro w v w' hm ⟨hn_27, ho_28, rfl, hm'⟩
   refine ⟨_, hm.appW (ps := [(0, ⟨A_o, 93, row encA2I64 t_5 A_sp⟩), (1, ⟨some C_b, 84, [(.slice C_a g2c0.length C_c)]⟩)]) (N := []) hm' (by kernel_rfl) (by kernel_rfl), jkO ?_⟩
   clear hm hm'
   refine qe (jx_then (jc_meet (fun (j : (List (Arr 2 Int))) => match j with | xs_6 => slices_stableCmpFunc_2int64_at_impl_pairsOf_1.k_7 xs_6 = some r ∧ (xs_6.length = data0.length) ∧ ((A_o = none → xs_6 = [] ∧ A_c = 0))) (fun (j : (List (Arr 2 Int))) => match j with | xs_6 => []) (fun (j : (List (Arr 2 Int))) => match j with | xs_6 => [⟨A_o, 93, row encA2I64 xs_6 A_sp⟩, ⟨some C_b, 84, [(.slice C_a g2c0.length C_c)]⟩]) ?_ ?_))
   ·refine jc_block ?_
    obtain ⟨t_11, ht_694, hr_583⟩ := bd h
    refine jc_loop (fun (s : (List (Arr 2 Int)) × Int) (x : Unit) => match s, x with | ⟨xs_8, i_9⟩, _ => (xs_8.length = data0.length) ∧ ((A_o = none → xs_8 = [] ∧ A_c = 0))) (fun (s : (List (Arr 2 Int)) × Int) (x : Unit) => match s, x with | ⟨xs_8, i_9⟩, _ => [(0, [], (.slice (A_o.map fun b => ⟨b, 0, none⟩) data0.length A_c)), (1, [], (.int .i64 n1)), (2, [], (.func (.func 108) #[] #[(.pointer (some ⟨C_b, 0, none⟩))])), (6, [], (.int .i64 i_9))]) (fun (s : (List (Arr 2 Int)) × Int) (x : Unit) => match s, x with | ⟨xs_8, i_9⟩, _ => [⟨A_o, 93, row encA2I64 xs_8 A_sp⟩, ⟨some C_b, 84, [(.slice C_a g2c0.length C_c)]⟩]) ht_694 () ⟨hn_27, ho_28⟩ (by kernel_rfl) [0, 1] (by kernel_rfl) (by kernel_rfl) ?_
    rintro ⟨xs_8, i_9⟩ _ y_584 ⟨hn_582, ho_581⟩ h
    rw [slices_stableCmpFunc_2int64_at_impl_pairsOf_1.l_10] at h
    refine jc_seq (jc_seq (jc_region (qh [0,0,0] (qe (jx_then (qi h (fun h => ?_) (fun h => ?_)))))))
    ·refine jc_skip (jx_then (jc_meet (fun (j : (List (Arr 2 Int))) => match j with | xs_12 => slices_stableCmpFunc_2int64_at_impl_pairsOf_1.k_13 i_9 xs_12 = some y_584 ∧ (xs_12.length = data0.length) ∧ ((A_o = none → xs_12 = [] ∧ A_c = 0))) (fun (j : (List (Arr 2 Int))) => match j with | xs_12 => [(0, [], (.slice (A_o.map fun b => ⟨b, 0, none⟩) data0.length A_c)), (1, [], (.int .i64 n1)), (2, [], (.func (.func 108) #[] #[(.pointer (some ⟨C_b, 0, none⟩))])), (6, [], (.int .i64 (w64 (i_9 * 2))))]) (fun (j : (List (Arr 2 Int))) => match j with | xs_12 => [⟨A_o, 93, row encA2I64 xs_12 A_sp⟩, ⟨some C_b, 84, [(.slice C_a g2c0.length C_c)]⟩]) ?_ ?_))
     ·refine jc_block (jc_seq (jc_region (qh [0,0,0,0] (qe (jx_then (jc_seq (jc_meet (fun (j : (List (Arr 2 Int)) × Int) => match j with | ⟨xs_14, i_15⟩ => slices_stableCmpFunc_2int64_at_impl_pairsOf_1.k_16 n1 g2c0 i_9 xs_14 i_15 = some y_584 ∧ (xs_14.length = data0.length) ∧ ((A_o = none → xs_14 = [] ∧ A_c = 0))) (fun (j : (List (Arr 2 Int)) × Int) => match j with | ⟨xs_14, i_15⟩ => [(0, [], (.slice (A_o.map fun b => ⟨b, 0, none⟩) data0.length A_c)), (1, [], (.int .i64 n1)), (2, [], (.func (.func 108) #[] #[(.pointer (some ⟨C_b, 0, none⟩))])), (6, [], (.int .i64 i_9)), (7, [], (.int .i64 i_15))]) (fun (j : (List (Arr 2 Int)) × Int) => match j with | ⟨xs_14, i_15⟩ => [⟨A_o, 93, row encA2I64 xs_14 A_sp⟩, ⟨some C_b, 84, [(.slice C_a g2c0.length C_c)]⟩]) ?_ ?_)))))))
      ·refine jc_block ?_
       obtain ⟨t_22, ht_692, hr_684⟩ := bd h
       refine jc_loop (fun (s : (List (Arr 2 Int)) × Int × Int) (x : Unit) => match s, x with | ⟨xs_18, i_19, i_20⟩, _ => (xs_18.length = data0.length) ∧ ((A_o = none → xs_18 = [] ∧ A_c = 0))) (fun (s : (List (Arr 2 Int)) × Int × Int) (x : Unit) => match s, x with | ⟨xs_18, i_19, i_20⟩, _ => [(0, [], (.slice (A_o.map fun b => ⟨b, 0, none⟩) data0.length A_c)), (1, [], (.int .i64 n1)), (2, [], (.func (.func 108) #[] #[(.pointer (some ⟨C_b, 0, none⟩))])), (6, [], (.int .i64 i_9)), (7, [], (.int .i64 i_19)), (8, [], (.int .i64 i_20))]) (fun (s : (List (Arr 2 Int)) × Int × Int) (x : Unit) => match s, x with | ⟨xs_18, i_19, i_20⟩, _ => [⟨A_o, 93, row encA2I64 xs_18 A_sp⟩, ⟨some C_b, 84, [(.slice C_a g2c0.length C_c)]⟩]) ht_692 () ⟨hn_582, ho_581⟩ (by kernel_rfl) [0, 1] (by kernel_rfl) (by kernel_rfl) ?_
       rintro ⟨xs_18, i_19, i_20⟩ _ y_685 ⟨hn_683, ho_682⟩ h
       rw [slices_stableCmpFunc_2int64_at_impl_pairsOf_1.l_21] at h
       refine jc_seq (jc_seq (jc_region (qh [0,0,0] (qe (jx_then (qi h (fun h => ?_) (fun h => ?_)))))))
       ·refine jc_skip (jx_then (jc_block (jc_seq (jc_region (qh [0,0,0,0,0,0,0] ?_)))))
        obtain ⟨t_23, ht_688, h⟩ := bd h
        refine tO (pc 0 (fun w hm => slices_symMergeCmpFunc_2int64_at_impl_pairsOf_1.calls xs_18 i_19 (w64 (i_19 + i_9)) i_20 g2c0 w _ C_c (hm.exRowW C_h C_ha) rfl A_o hn_683 A_hs ho_682 C_b (hm.pass (N := [⟨A_o, 93, row encA2I64 xs_18 A_sp⟩, ⟨some C_b, 84, [(.slice C_a g2c0.length C_c)]⟩]) [0, 1] (by kernel_rfl) (by kernel_rfl)) (hm.exApart (N := [⟨A_o, 93, row encA2I64 xs_18 A_sp⟩, ⟨some C_b, 84, [(.slice C_a g2c0.length C_c)]⟩]) C_h C_ha [0, 1] (by kernel_rfl)) (hm.innPass (N := [⟨A_o, 93, row encA2I64 xs_18 A_sp⟩, ⟨some C_b, 84, [(.slice C_a g2c0.length C_c)]⟩]) C_i [0, 1] (by kernel_rfl)) ht_688) ?_)
        rintro w v w' hm ⟨hn_689, ho_690, rfl, hm'⟩
        refine ⟨_, hm.appW (ps := [(0, ⟨A_o, 93, row encA2I64 t_23 A_sp⟩), (1, ⟨some C_b, 84, [(.slice C_a g2c0.length C_c)]⟩)]) (N := []) hm' (by kernel_rfl) (by kernel_rfl), jkO ?_⟩
        clear hm hm'
        exact qe (jx_then (jc_seq (jc_region (qh [0,0] (qe (jx_then (jc_region (qh [0,0,0,0,0] (qe (jx_inn (qb (t_23, i_20, (w64 (i_20 + (w64 (2 * i_9))))) () h ⟨hn_689, ho_690⟩ [0, 1])))))))))))
       ·refine jc_exit (jx_thenx (jx_leave (xs_18, i_19) (Option.some.inj h).symm (fun e_691 => ?_)))
        subst e_691
        exact jx_ine (qm ⟨xs_18, i_19⟩ ⟨hr_684, hn_683, ho_682⟩ [0, 1])
      ·rintro ⟨xs_14, i_15⟩ ⟨h, hn_665, ho_664⟩
       replace h : slices_stableCmpFunc_2int64_at_impl_pairsOf_1.k_16 n1 g2c0 i_9 xs_14 i_15 = some y_584 := h
       rw [slices_stableCmpFunc_2int64_at_impl_pairsOf_1.k_16] at h
       refine jx_then (jc_seq (jc_seq (jc_region (qh [0,0,0,0] (qe (jx_then (jc_seq (jc_region (qh [0,0,0] (qe (jx_then (qi h (fun h => ?_) (fun h => ?_)))))))))))))
       ·refine jc_region (qh [0,0,0,0,0] ?_)
        obtain ⟨t_17, ht_667, h⟩ := bd h
        refine tO (pc 0 (fun w hm => slices_symMergeCmpFunc_2int64_at_impl_pairsOf_1.calls xs_14 i_15 (w64 (i_15 + i_9)) n1 g2c0 w _ C_c (hm.exRowW C_h C_ha) rfl A_o hn_665 A_hs ho_664 C_b (hm.pass (N := [⟨A_o, 93, row encA2I64 xs_14 A_sp⟩, ⟨some C_b, 84, [(.slice C_a g2c0.length C_c)]⟩]) [0, 1] (by kernel_rfl) (by kernel_rfl)) (hm.exApart (N := [⟨A_o, 93, row encA2I64 xs_14 A_sp⟩, ⟨some C_b, 84, [(.slice C_a g2c0.length C_c)]⟩]) C_h C_ha [0, 1] (by kernel_rfl)) (hm.innPass (N := [⟨A_o, 93, row encA2I64 xs_14 A_sp⟩, ⟨some C_b, 84, [(.slice C_a g2c0.length C_c)]⟩]) C_i [0, 1] (by kernel_rfl)) ht_667) ?_)
        rintro w v w' hm ⟨hn_668, ho_669, rfl, hm'⟩
        refine ⟨_, hm.appW (ps := [(0, ⟨A_o, 93, row encA2I64 t_17 A_sp⟩), (1, ⟨some C_b, 84, [(.slice C_a g2c0.length C_c)]⟩)]) (N := []) hm' (by kernel_rfl) (by kernel_rfl), jkO ?_⟩
        clear hm hm'
        exact qe (jx_then (jc_region (qh [0,0,0] (qe (jx_inn (qm t_17 ⟨h, hn_668, ho_669⟩ [0, 1]))))))
       ·exact jc_skip (jx_then (jc_region (qh [0,0,0] (qe (jx_inn (qm xs_14 ⟨h, hn_665, ho_664⟩ [0, 1]))))))
     ·rintro xs_12 ⟨h, hn_640, ho_639⟩
      replace h : slices_stableCmpFunc_2int64_at_impl_pairsOf_1.k_13 i_9 xs_12 = some y_584 := h
      rw [slices_stableCmpFunc_2int64_at_impl_pairsOf_1.k_13] at h
      exact qb (xs_12, (w64 (i_9 * 2))) () h ⟨hn_640, ho_639⟩ [0, 1]
    ·refine jc_exit (jx_thenx (jx_leave xs_8 (Option.some.inj h).symm (fun e_693 => ?_)))
     subst e_693
     exact jx_ine (qm xs_8 ⟨hr_583, hn_582, ho_581⟩ [0, 1])
   ·rintro xs_6 ⟨h, hn_362, ho_361⟩
    replace h : slices_stableCmpFunc_2int64_at_impl_pairsOf_1.k_7 xs_6 = some r := h
    rw [slices_stableCmpFunc_2int64_at_impl_pairsOf_1.k_7] at h
    refine jx_fall ?_
    obtain rfl := Option.some.inj h
    exact qr [] (fun w hm => ⟨hn_362, ho_361, rfl, hm.pk [0, 1]⟩)
/-! ### slices.SortStableFunc[[][2]int64,[2]int64] -/
def slices_SortStableFunc_2int64_at_impl_pairsOf_1 (x0 : List (Arr 2 Int)) (g1c0 : List (List Int)) : Option ((List (Arr 2 Int))) := (slices_stableCmpFunc_2int64_at_impl_pairsOf_1 x0 (x0.length : Int) g1c0).bind fun t_1 => some t_1
theorem slices_SortStableFunc_2int64_at_impl_pairsOf_1.calls (x0 : List (Arr 2 Int)) (g1c0 : List (List Int)) (w : World) (r : (List (Arr 2 Int))) {B_a : Option Addr} {B_an : Nat} (B_c : Nat) {B_hs : List Hd} (B_h : Rw w B_a 1 encHd B_hs) (B_hn : g1c0.length = B_an) (A_o : Option Nat) {A_on : Nat} {A_c : Nat} {A_sp : List Value} (A_hn : x0.length = A_on) (A_hs : A_o ≠ none → A_on ≤ A_c ∧ A_sp.length = (A_c - A_on) * 2) (A_ho : A_o = none → x0 = [] ∧ A_c = 0) (B_b : Nat) (hm0 : Mem w (bs [A_o, some B_b]) [⟨A_o, 93, row encA2I64 x0 A_sp⟩, ⟨some B_b, 84, [(.slice B_a B_an B_c)]⟩] w) (B_ha : B_hs ≠ [] → aB B_a ∉ bs [A_o, some B_b]) (B_i : Inn w (bs [A_o, some B_b]) 1 encI64 B_hs g1c0) (h : slices_SortStableFunc_2int64_at_impl_pairsOf_1 x0 g1c0 = some r) :
    Calls Try.prog 107 #[(.slice (A_o.map fun b => ⟨b, 0, none⟩) A_on A_c), (.func (.func 108) #[] #[(.pointer (some ⟨B_b, 0, none⟩))])] w fun e w' => ∃ v, e = .returned v ∧ (r.length = A_on ∧ (A_o = none → r = [] ∧ A_c = 0) ∧ v = .tuple #[] ∧ Mem w (bs [A_o, some B_b]) [⟨A_o, 93, row encA2I64 r A_sp⟩, ⟨some B_b, 84, [(.slice B_a B_an B_c)]⟩] w') := by
  subst B_hn A_hn
  rw [slices_SortStableFunc_2int64_at_impl_pairsOf_1] at h
  refine enter (args := [(.slice (A_o.map fun b => ⟨b, 0, none⟩) x0.length A_c), (.func (.func 108) #[] #[(.pointer (some ⟨B_b, 0, none⟩))])]) Try.func107 rfl Try.ntmps107 (by kernel_rfl) (L := [⟨A_o, 93, row encA2I64 x0 A_sp⟩, ⟨some B_b, 84, [(.slice B_a g1c0.length B_c)]⟩]) (W := bs [A_o, some B_b]) hm0 ?_
  refine jc_region (qh [0,0,0,0] ?_)
  obtain ⟨t_1, ht_1, h⟩ := bd h
  refine tO (pc 0 (fun w hm => slices_stableCmpFunc_2int64_at_impl_pairsOf_1.calls x0 (x0.length : Int) g1c0 w _ B_c (hm.exRowW B_h B_ha) rfl A_o rfl A_hs A_ho B_b (hm.pass (N := [⟨A_o, 93, row encA2I64 x0 A_sp⟩, ⟨some B_b, 84, [(.slice B_a g1c0.length B_c)]⟩]) [0, 1] (by kernel_rfl) (by kernel_rfl)) (hm.exApart (N := [⟨A_o, 93, row encA2I64 x0 A_sp⟩, ⟨some B_b, 84, [(.slice B_a g1c0.length B_c)]⟩]) B_h B_ha [0, 1] (by kernel_rfl)) (hm.innPass (N := [⟨A_o, 93, row encA2I64 x0 A_sp⟩, ⟨some B_b, 84, [(.slice B_a g1c0.length B_c)]⟩]) B_i [0, 1] (by kernel_rfl)) ht_1) ?_)
  rintro w v w' hm ⟨hn_2, ho_3, rfl, hm'⟩
  refine ⟨_, hm.appW (ps := [(0, ⟨A_o, 93, row encA2I64 t_1 A_sp⟩), (1, ⟨some B_b, 84, [(.slice B_a g1c0.length B_c)]⟩)]) (N := []) hm' (by kernel_rfl) (by kernel_rfl), jkO ?_⟩
  clear hm hm'
  refine qe (jx_fall ?_)
  obtain rfl := Option.some.inj h
  exact qr [] (fun w hm => ⟨hn_2, ho_3, rfl, hm.pk [0, 1]⟩)
/-! ### impl.pairsOf -/
def impl_pairsOf.k_3 (table0 : List (List Int)) (xs_2 : List (Arr 2 Int)) : Option ((List (Arr 2 Int))) := (slices_SortStableFunc_2int64_at_impl_pairsOf_1 xs_2 table0).bind fun t_4 => some t_4
def impl_pairsOf.k_10 (i_6 : Int) (xs_9 : List (Arr 2 Int)) : Option (((List (Arr 2 Int)) × Int) ⊕ ((List (Arr 2 Int)))) := some (.inl (xs_9, (w64 (i_6 + 1))))
def impl_pairsOf.l_13 (table0 : List (List Int)) (i_6 : Int) : ((List (Arr 2 Int)) × Int) → Option (((List (Arr 2 Int)) × Int) ⊕ ((List (Arr 2 Int))))
  | (xs_11, i_12) => (impl_size_int64 table0).bind fun t_15 => (if (decide (i_12 < t_15)) = true then (if xs_11.length + ([(Arr.set (Arr.set (Arr.rep 2 0) 0 i_6) 1 i_12)] : List (Arr 2 Int)).length ≤ 4294967296 then some (.inl ((xs_11 ++ ([(Arr.set (Arr.set (Arr.rep 2 0) 0 i_6) 1 i_12)] : List (Arr 2 Int))), (w64 (i_12 + 1)))) else none) else some (.inr xs_11))
def impl_pairsOf.l_7 (table0 : List (List Int)) (t_1 : Int) : ((List (Arr 2 Int)) × Int) → Option (((List (Arr 2 Int)) × Int) ⊕ ((List (Arr 2 Int))))
  | (xs_5, i_6) => (if (decide (i_6 < t_1)) = true then (loop (impl_pairsOf.l_13 table0 i_6) (xs_5, (w64 (i_6 + 1)))).bind fun t_14 => impl_pairsOf.k_10 i_6 t_14 else some (.inr xs_5))
def impl_pairsOf (table0 : List (List Int)) : Option ((List (Arr 2 Int))) := (impl_size_int64 table0).bind fun t_1 => (loop (impl_pairsOf.l_7 table0 t_1) (([] : List (Arr 2 Int)), 0)).bind fun t_8 => impl_pairsOf.k_3 table0 t_8
theorem impl_pairsOf.calls (table0 : List (List Int)) (w : World) (r : (List (Arr 2 Int))) {A_a : Option Addr} {A_an : Nat} (A_c : Nat) {A_hs : List Hd} (A_h : Rw w A_a 1 encHd A_hs) (A_hn : table0.length = A_an) (A_i : Inn w [] 1 encI64 A_hs table0) (h : impl_pairsOf table0 = some r) :
    Calls Try.prog 56 #[(.slice A_a A_an A_c)] w fun e w' => ∃ v, e = .returned v ∧ (∃ (o0 : Option Nat) (c0 : Nat) (s0 : List Value) (n0 : Nat), r.length = n0 ∧ (o0 ≠ none → n0 ≤ c0 ∧ s0.length = (c0 - n0) * 2) ∧ (o0 = none → r = [] ∧ c0 = 0) ∧ v = .slice (o0.map fun b => ⟨b, 0, none⟩) n0 c0 ∧ Mem w [] [⟨o0, 93, row encA2I64 r s0⟩] w') := by
  subst A_hn
  rw [impl_pairsOf] at h
  refine enter (args := [(.slice A_a table0.length A_c)]) Try.func56 rfl Try.ntmps56 (by kernel_rfl) (L := []) (W := []) (Mem.start w) ?_
  refine jc_seq (jc_region (tO (qa 0 (fun b_1 => jkO (qh [0] (qe (jx_then (jc_seq (jc_region (tO (qa 0 (fun b_2 => jkO (qh [0] (qe (jx_then (jc_seq (jc_seq (jc_region (qh [0] ?_)))))))))))))))))))
  obtain ⟨t_1, ht_678, h⟩ := bd h
  refine tO (pc 0 (fun w hm => impl_size_int64.calls table0 w _ A_c (hm.xr A_h) rfl (hm.innPass (N := []) A_i [] (by kernel_rfl)) ht_678) ?_)
  rintro w v w' hm ⟨rfl, hm'⟩
  refine ⟨_, hm.app hm', jkO ?_⟩
  clear hm hm'
  refine qh [0] (qe (jx_then (jc_meet (fun (j : (List (Arr 2 Int)) × (Option Nat) × Nat × (List Value) × Nat) => match j with | ⟨xs_2, o_1013, cap_1014, sp_1015, n_1016⟩ => impl_pairsOf.k_3 table0 xs_2 = some r ∧ (xs_2.length = n_1016) ∧ ((o_1013 ≠ none → n_1016 ≤ cap_1014 ∧ sp_1015.length = (cap_1014 - n_1016) * 2)) ∧ ((o_1013 = none → xs_2 = [] ∧ cap_1014 = 0))) (fun (j : (List (Arr 2 Int)) × (Option Nat) × Nat × (List Value) × Nat) => match j with | ⟨xs_2, o_1013, cap_1014, sp_1015, n_1016⟩ => [(1, [], (.pointer (some ⟨b_1, 0, none⟩))), (2, [], (.slice none 0 0)), (3, [], (.slice (o_1013.map fun b => ⟨b, 0, none⟩) n_1016 cap_1014))]) (fun (j : (List (Arr 2 Int)) × (Option Nat) × Nat × (List Value) × Nat) => match j with | ⟨xs_2, o_1013, cap_1014, sp_1015, n_1016⟩ => [⟨some b_1, 84, [(.slice A_a table0.length A_c)]⟩, ⟨o_1013, 93, row encA2I64 xs_2 sp_1015⟩]) ?_ ?_)))
  ·refine jc_block ?_
   obtain ⟨t_8, ht_1355, hr_1246⟩ := bd h
   refine jc_loop (fun (s : (List (Arr 2 Int)) × Int) (x : (Option Nat) × Nat × (List Value) × Nat) => match s, x with | ⟨xs_5, i_6⟩, ⟨o_1240, cap_1241, sp_1242, n_1243⟩ => (xs_5.length = n_1243) ∧ ((o_1240 ≠ none → n_1243 ≤ cap_1241 ∧ sp_1242.length = (cap_1241 - n_1243) * 2)) ∧ ((o_1240 = none → xs_5 = [] ∧ cap_1241 = 0))) (fun (s : (List (Arr 2 Int)) × Int) (x : (Option Nat) × Nat × (List Value) × Nat) => match s, x with | ⟨xs_5, i_6⟩, ⟨o_1240, cap_1241, sp_1242, n_1243⟩ => [(1, [], (.pointer (some ⟨b_1, 0, none⟩))), (2, [], (.slice none 0 0)), (3, [], (.slice (o_1240.map fun b => ⟨b, 0, none⟩) n_1243 cap_1241)), (8, [], (.int .i64 t_1)), (9, [], (.int .i64 i_6))]) (fun (s : (List (Arr 2 Int)) × Int) (x : (Option Nat) × Nat × (List Value) × Nat) => match s, x with | ⟨xs_5, i_6⟩, ⟨o_1240, cap_1241, sp_1242, n_1243⟩ => [⟨some b_1, 84, [(.slice A_a table0.length A_c)]⟩, ⟨o_1240, 93, row encA2I64 xs_5 sp_1242⟩]) ht_1355 ⟨(some b_2), 0, [], 0⟩ ⟨rfl, (fun _ => ⟨Nat.le_refl _, by simp⟩), (fun e => nomatch e)⟩ (by kernel_rfl) [0, 1] (by kernel_rfl) (by kernel_rfl) ?_
   rintro ⟨xs_5, i_6⟩ ⟨o_1240, cap_1241, sp_1242, n_1243⟩ y_1247 ⟨rfl, hs_1244, ho_1245⟩ h
   rw [impl_pairsOf.l_7] at h
   refine jc_seq (jc_region (qh [0] (qe (jx_then (jc_seq (qi h (fun h => ?_) (fun h => ?_)))))))
   ·refine jc_skip (jx_then (jc_seq (jc_block (jc_seq (jc_region (qh [0,0] (qe (jx_then (jc_seq (jc_region (qh [0,0,0] (qe (jx_then (jc_meet (fun (j : (List (Arr 2 Int)) × (Option Nat) × Nat × (List Value) × Nat) => match j with | ⟨xs_9, o_1299, cap_1300, sp_1301, n_1302⟩ => impl_pairsOf.k_10 i_6 xs_9 = some y_1247 ∧ (xs_9.length = n_1302) ∧ ((o_1299 ≠ none → n_1302 ≤ cap_1300 ∧ sp_1301.length = (cap_1300 - n_1302) * 2)) ∧ ((o_1299 = none → xs_9 = [] ∧ cap_1300 = 0))) (fun (j : (List (Arr 2 Int)) × (Option Nat) × Nat × (List Value) × Nat) => match j with | ⟨xs_9, o_1299, cap_1300, sp_1301, n_1302⟩ => [(1, [], (.pointer (some ⟨b_1, 0, none⟩))), (2, [], (.slice none 0 0)), (3, [], (.slice (o_1299.map fun b => ⟨b, 0, none⟩) n_1302 cap_1300)), (8, [], (.int .i64 t_1)), (9, [], (.int .i64 i_6))]) (fun (j : (List (Arr 2 Int)) × (Option Nat) × Nat × (List Value) × Nat) => match j with | ⟨xs_9, o_1299, cap_1300, sp_1301, n_1302⟩ => [⟨some b_1, 84, [(.slice A_a table0.length A_c)]⟩, ⟨o_1299, 93, row encA2I64 xs_9 sp_1301⟩]) ?_ ?_))))))))))))))
    ·refine jc_block ?_
     obtain ⟨t_14, ht_1353, hr_1339⟩ := bd h
     refine jc_loop (fun (s : (List (Arr 2 Int)) × Int) (x : (Option Nat) × Nat × (List Value) × Nat) => match s, x with | ⟨xs_11, i_12⟩, ⟨o_1333, cap_1334, sp_1335, n_1336⟩ => (xs_11.length = n_1336) ∧ ((o_1333 ≠ none → n_1336 ≤ cap_1334 ∧ sp_1335.length = (cap_1334 - n_1336) * 2)) ∧ ((o_1333 = none → xs_11 = [] ∧ cap_1334 = 0))) (fun (s : (List (Arr 2 Int)) × Int) (x : (Option Nat) × Nat × (List Value) × Nat) => match s, x with | ⟨xs_11, i_12⟩, ⟨o_1333, cap_1334, sp_1335, n_1336⟩ => [(1, [], (.pointer (some ⟨b_1, 0, none⟩))), (2, [], (.slice none 0 0)), (3, [], (.slice (o_1333.map fun b => ⟨b, 0, none⟩) n_1336 cap_1334)), (4, [], (.int .i64 i_6)), (5, [], (.int .i64 i_12)), (8, [], (.int .i64 t_1)), (9, [], (.int .i64 i_6))]) (fun (s : (List (Arr 2 Int)) × Int) (x : (Option Nat) × Nat × (List Value) × Nat) => match s, x with | ⟨xs_11, i_12⟩, ⟨o_1333, cap_1334, sp_1335, n_1336⟩ => [⟨some b_1, 84, [(.slice A_a table0.length A_c)]⟩, ⟨o_1333, 93, row encA2I64 xs_11 sp_1335⟩]) ht_1353 ⟨o_1240, cap_1241, sp_1242, xs_5.length⟩ ⟨rfl, hs_1244, ho_1245⟩ (by kernel_rfl) [0, 1] (by kernel_rfl) (by kernel_rfl) ?_
     rintro ⟨xs_11, i_12⟩ ⟨o_1333, cap_1334, sp_1335, n_1336⟩ y_1340 ⟨rfl, hs_1337, ho_1338⟩ h
     rw [impl_pairsOf.l_13] at h
     refine jc_seq (jc_seq (jc_region (qh [0,0] ?_)))
     obtain ⟨t_15, ht_1343, h⟩ := bd h
     refine tO (pc 0 (fun w hm => impl_size_int64.calls table0 w _ A_c (hm.xr A_h) rfl (hm.innPass (N := []) A_i [] (by kernel_rfl)) ht_1343) ?_)
     rintro w v w' hm ⟨rfl, hm'⟩
     refine ⟨_, hm.app hm', jkO ?_⟩
     clear hm hm'
     refine qh [0] (qe (jx_then (qi h (fun h => ?_) (fun h => ?_))))
     ·refine jc_skip (jx_then (jc_seq (jc_block (jc_region (qh [0,0,0,0] (tO (p_bs 0 93 2 1 encA2I64 [(.agg (row encI64 (Arr.set (Arr.set (Arr.rep 2 0) 0 i_6) 1 i_12).1 []).toArray)] [(Arr.set (Arr.set (Arr.rep 2 0) 0 i_6) 1 i_12)] (by kernel_rfl) (by kernel_rfl) rfl (by kernel_rfl) (by kernel_rfl) encA2I64_len (fun b_1345 => jkO ?_))))))))
      obtain ⟨hg_1346, h⟩ := gd h
      exact tO (p_apn 0 1 o_1333 93 xs_11.length 1 cap_1334 2 16 (some ⟨b_1345, 0, none⟩) encA2I64 xs_11 ([(Arr.set (Arr.set (Arr.rep 2 0) 0 i_6) 1 i_12)] : List (Arr 2 Int)) sp_1335 (.agg (row encI64 (Arr.rep 2 0).1 []).toArray) rfl rfl (by kernel_rfl) (by kernel_rfl) (by kernel_rfl) encA2I64_len encA2I64_cell hs_1337 ho_1338 (fun w hm => (hm.ow 2 (some b_1345) 93 ([(Arr.set (Arr.set (Arr.rep 2 0) 0 i_6) 1 i_12)] : List (Arr 2 Int)) [] (fun e => nomatch e) encA2I64_len)) hg_1346 (by kernel_rfl) (by kernel_rfl) (fun o_1347 cap_1348 sp_1349 hs_1350 ho_1351 => jkO (qh [0] (qe (jx_inn (jx_then (jc_region (qh [0,0,0] (qe (qb ((xs_11 ++ ([(Arr.set (Arr.set (Arr.rep 2 0) 0 i_6) 1 i_12)] : List (Arr 2 Int))), (w64 (i_12 + 1))) ⟨o_1347, cap_1348, sp_1349, (xs_11 ++ ([(Arr.set (Arr.set (Arr.rep 2 0) 0 i_6) 1 i_12)] : List (Arr 2 Int))).length⟩ h ⟨rfl, hs_1350, ho_1351⟩ [0, 1]))))))))))
     ·refine jc_exit (jx_thenx (jx_leave xs_11 (Option.some.inj h).symm (fun e_1352 => ?_)))
      subst e_1352
      exact jx_ine (qm ⟨xs_11, o_1333, cap_1334, sp_1335, xs_11.length⟩ ⟨hr_1339, rfl, hs_1337, ho_1338⟩ [0, 1])
    ·rintro ⟨xs_9, o_1299, cap_1300, sp_1301, n_1302⟩ ⟨h, rfl, hs_1303, ho_1304⟩
     replace h : impl_pairsOf.k_10 i_6 xs_9 = some y_1247 := h
     rw [impl_pairsOf.k_10] at h
     exact jx_inn (jx_then (jc_region (qh [0,0] (qe (qb (xs_9, (w64 (i_6 + 1))) ⟨o_1299, cap_1300, sp_1301, xs_9.length⟩ h ⟨rfl, hs_1303, ho_1304⟩ [0, 1])))))
   ·refine jc_exit (jx_thenx (jx_leave xs_5 (Option.some.inj h).symm (fun e_1354 => ?_)))
    subst e_1354
    exact jx_ine (qm ⟨xs_5, o_1240, cap_1241, sp_1242, xs_5.length⟩ ⟨hr_1246, rfl, hs_1244, ho_1245⟩ [0, 1])
  ·rintro ⟨xs_2, o_1013, cap_1014, sp_1015, n_1016⟩ ⟨h, rfl, hs_1017, ho_1018⟩
   replace h : impl_pairsOf.k_3 table0 xs_2 = some r := h
   rw [impl_pairsOf.k_3] at h
   refine jx_then (jc_seq (jc_region (qh [0,0] ?_)))
   obtain ⟨t_4, ht_1019, h⟩ := bd h
   refine tO (pc 0 (fun w hm => slices_SortStableFunc_2int64_at_impl_pairsOf_1.calls xs_2 table0 w _ A_c (hm.xr A_h) rfl o_1013 rfl hs_1017 ho_1018 b_1 (hm.pass (N := [⟨o_1013, 93, row encA2I64 xs_2 sp_1015⟩, ⟨some b_1, 84, [(.slice A_a table0.length A_c)]⟩]) [1, 0] (by kernel_rfl) (by kernel_rfl)) (hm.exApart (N := [⟨o_1013, 93, row encA2I64 xs_2 sp_1015⟩, ⟨some b_1, 84, [(.slice A_a table0.length A_c)]⟩]) A_h (fun _ => List.not_mem_nil) [1, 0] (by kernel_rfl)) (hm.innPass (N := [⟨o_1013, 93, row encA2I64 xs_2 sp_1015⟩, ⟨some b_1, 84, [(.slice A_a table0.length A_c)]⟩]) A_i [1, 0] (by kernel_rfl)) ht_1019) ?_)
   rintro w v w' hm ⟨hn_1020, ho_1021, rfl, hm'⟩
   refine ⟨_, hm.appW (ps := [(1, ⟨o_1013, 93, row encA2I64 t_4 sp_1015⟩), (0, ⟨some b_1, 84, [(.slice A_a table0.length A_c)]⟩)]) (N := []) hm' (by kernel_rfl) (by kernel_rfl), jkO ?_⟩
   clear hm hm'
   refine qe (jx_then (jc_seq (jc_region (qh [0,0] (qe (jx_then (jc_ret ?_)))))))
   obtain rfl := Option.some.inj h
   exact qr [] (fun w hm => ⟨o_1013, cap_1014, sp_1015, xs_2.length, hn_1020, hs_1017, ho_1021, rfl, hm.pk [1]⟩)
/-! ### impl.joined -/
def impl_joined.k_4 (xs_3 : List Int) : Option ((List Int)) := some xs_3
def impl_joined.k_10 (i_6 : Int) (xs_9 : List Int) : Option (((List Int) × Int) ⊕ ((List Int))) := some (.inl (xs_9, (w64 (i_6 + 1))))
def impl_joined.l_13 (pairs1 : List (Arr 2 Int)) : ((List Int) × Int) → Option (((List Int) × Int) ⊕ ((List Int)))
  | (xs_11, i_12) => (if (decide (i_12 < (pairs1.length : Int))) = true then (ix pairs1 i_12).bind fun x_15 => (ix x_15.1 0).bind fun x_16 => (ix xs_11 x_16).bind fun x_17 => (ix x_15.1 1).bind fun x_18 => (ix xs_11 x_18).bind fun x_19 => (ix x_15.1 0).bind fun x_20 => (ix x_15.1 1).bind fun x_21 => (ix xs_11 x_20).bind fun x_22 => (ix (xs_11.set x_20.toNat (if x_19 < x_17 then x_19 else x_17)) x_21).bind fun x_23 => some (.inl (((xs_11.set x_20.toNat (if x_19 < x_17 then x_19 else x_17)).set x_21.toNat (if x_19 < x_17 then x_19 else x_17)), (w64 (i_12 + 1)))) else some (.inr xs_11))
def impl_joined.l_7 (pairs1 : List (Arr 2 Int)) : ((List Int) × Int) → Option (((List Int) × Int) ⊕ ((List Int)))
  | (xs_5, i_6) => (if (decide (i_6 < (pairs1.length : Int))) = true then (loop (impl_joined.l_13 pairs1) (xs_5, 0)).bind fun t_14 => impl_joined.k_10 i_6 t_14 else some (.inr xs_5))
def impl_joined.k_2 (pairs1 : List (Arr 2 Int)) (xs_1 : List Int) : Option ((List Int)) := (loop (impl_joined.l_7 pairs1) (xs_1, 0)).bind fun t_8 => impl_joined.k_4 t_8
def impl_joined.l_26 (n0 : Int) : ((List Int) × Int) → Option (((List Int) × Int) ⊕ ((List Int)))
  | (xs_24, i_25) => (if (decide (i_25 < n0)) = true then (if xs_24.length + ([i_25] : List Int).length ≤ 4294967296 then some (.inl ((xs_24 ++ ([i_25] : List Int)), (w64 (i_25 + 1)))) else none) else some (.inr xs_24))
def impl_joined (n0 : Int) (pairs1 : List (Arr 2 Int)) : Option ((List Int)) := (loop (impl_joined.l_26 n0) (([] : List Int), 0)).bind fun t_27 => impl_joined.k_2 pairs1 t_27
theorem impl_joined.calls (n0 : Int) (pairs1 : List (Arr 2 Int)) (w : World) (r : (List Int)) {B_a : Option Addr} {B_an : Nat} (B_c : Nat) (B_h : Rw w B_a 2 encA2I64 pairs1) (B_hn : pairs1.length = B_an) (h : impl_joined n0 pairs1 = some r) :
    Calls Try.prog 57 #[(.int .i64 n0), (.slice B_a B_an B_c)] w fun e w' => ∃ v, e = .returned v ∧ (∃ (o0 : Option Nat) (c0 : Nat) (s0 : List Value) (n0 : Nat), r.length = n0 ∧ (o0 ≠ none → n0 ≤ c0 ∧ s0.length = (c0 - n0) * 1) ∧ (o0 = none → r = [] ∧ c0 = 0) ∧ v = .slice (o0.map fun b => ⟨b, 0, none⟩) n0 c0 ∧ Mem w [] [⟨o0, 2, row encI64 r s0⟩] w') := by
  subst B_hn
  rw [impl_joined] at h
  refine enter (args := [(.int .i64 n0), (.slice B_a pairs1.length B_c)]) Try.func57 rfl Try.ntmps57 (by kernel_rfl) (L := []) (W := []) (Mem.start w) ?_
  refine jc_seq (jc_region (qh [0] (qe (jx_then (jc_seq (jc_region (tO (qa 0 (fun b_1 => jkO (qh [0] (qe (jx_then (jc_seq (jc_seq (jc_region (qh [0,0] (qe (jx_then (jc_meet (fun (j : (List Int) × (Option Nat) × Nat × (List Value) × Nat) => match j with | ⟨xs_1, o_137, cap_138, sp_139, n_140⟩ => impl_joined.k_2 pairs1 xs_1 = some r ∧ (xs_1.length = n_140) ∧ ((o_137 ≠ none → n_140 ≤ cap_138 ∧ sp_139.length = (cap_138 - n_140) * 1)) ∧ ((o_137 = none → xs_1 = [] ∧ cap_138 = 0))) (fun (j : (List Int) × (Option Nat) × Nat × (List Value) × Nat) => match j with | ⟨xs_1, o_137, cap_138, sp_139, n_140⟩ => [(1, [], (.slice B_a pairs1.length B_c)), (4, [], (.slice none 0 0)), (5, [], (.slice (o_137.map fun b => ⟨b, 0, none⟩) n_140 cap_138))]) (fun (j : (List Int) × (Option Nat) × Nat × (List Value) × Nat) => match j with | ⟨xs_1, o_137, cap_138, sp_139, n_140⟩ => [⟨o_137, 2, row encI64 xs_1 sp_139⟩]) ?_ ?_)))))))))))))))))))
  ·refine jc_block ?_
   obtain ⟨t_27, ht_1541, hr_1529⟩ := bd h
   refine jc_loop (fun (s : (List Int) × Int) (x : (Option Nat) × Nat × (List Value) × Nat) => match s, x with | ⟨xs_24, i_25⟩, ⟨o_1523, cap_1524, sp_1525, n_1526⟩ => (xs_24.length = n_1526) ∧ ((o_1523 ≠ none → n_1526 ≤ cap_1524 ∧ sp_1525.length = (cap_1524 - n_1526) * 1)) ∧ ((o_1523 = none → xs_24 = [] ∧ cap_1524 = 0))) (fun (s : (List Int) × Int) (x : (Option Nat) × Nat × (List Value) × Nat) => match s, x with | ⟨xs_24, i_25⟩, ⟨o_1523, cap_1524, sp_1525, n_1526⟩ => [(1, [], (.slice B_a pairs1.length B_c)), (4, [], (.slice none 0 0)), (5, [], (.slice (o_1523.map fun b => ⟨b, 0, none⟩) n_1526 cap_1524)), (11, [], (.int .i64 n0)), (12, [], (.int .i64 i_25))]) (fun (s : (List Int) × Int) (x : (Option Nat) × Nat × (List Value) × Nat) => match s, x with | ⟨xs_24, i_25⟩, ⟨o_1523, cap_1524, sp_1525, n_1526⟩ => [⟨o_1523, 2, row encI64 xs_24 sp_1525⟩]) ht_1541 ⟨(some b_1), 0, [], 0⟩ ⟨rfl, (fun _ => ⟨Nat.le_refl _, by simp⟩), (fun e => nomatch e)⟩ (by kernel_rfl) [0] (by kernel_rfl) (by kernel_rfl) ?_
   rintro ⟨xs_24, i_25⟩ ⟨o_1523, cap_1524, sp_1525, n_1526⟩ y_1530 ⟨rfl, hs_1527, ho_1528⟩ h
   rw [impl_joined.l_26] at h
   refine jc_seq (jc_region (qh [0] (qe (jx_then (jc_seq (qi h (fun h => ?_) (fun h => ?_)))))))
   ·refine jc_skip (jx_then (jc_seq (jc_block (jc_seq (jc_region (qh [0,0] (qe (jx_then (jc_region (qh [0,0] (tO (qa 0 (fun b_1533 => jkO ?_)))))))))))))
    obtain ⟨hg_1534, h⟩ := gd h
    exact tO (p_apn 0 0 o_1523 2 xs_24.length 1 cap_1524 1 8 (some ⟨b_1533, 0, none⟩) encI64 xs_24 ([i_25] : List Int) sp_1525 (.int .i64 0) rfl rfl (by kernel_rfl) (by kernel_rfl) (by kernel_rfl) encI64_len encI64_cell hs_1527 ho_1528 (fun w hm => (hm.ow 1 (some b_1533) 2 ([i_25] : List Int) [] (fun e => nomatch e) encI64_len)) hg_1534 (by kernel_rfl) (by kernel_rfl) (fun o_1535 cap_1536 sp_1537 hs_1538 ho_1539 => jkO (qh [0] (qe (jx_inn (jx_then (jc_region (qh [0,0] (qe (qb ((xs_24 ++ ([i_25] : List Int)), (w64 (i_25 + 1))) ⟨o_1535, cap_1536, sp_1537, (xs_24 ++ ([i_25] : List Int)).length⟩ h ⟨rfl, hs_1538, ho_1539⟩ [0]))))))))))
   ·refine jc_exit (jx_thenx (jx_leave xs_24 (Option.some.inj h).symm (fun e_1540 => ?_)))
    subst e_1540
    exact jx_ine (qm ⟨xs_24, o_1523, cap_1524, sp_1525, xs_24.length⟩ ⟨hr_1529, rfl, hs_1527, ho_1528⟩ [0])
  ·rintro ⟨xs_1, o_137, cap_138, sp_139, n_140⟩ ⟨h, rfl, hs_141, ho_142⟩
   replace h : impl_joined.k_2 pairs1 xs_1 = some r := h
   rw [impl_joined.k_2] at h
   refine jx_then (jc_seq (jc_seq (jc_region (qh [0,0,0] (qe (jx_then (jc_meet (fun (j : (List Int)) => match j with | xs_3 => impl_joined.k_4 xs_3 = some r ∧ (xs_3.length = xs_1.length) ∧ ((o_137 = none → xs_3 = [] ∧ cap_138 = 0))) (fun (j : (List Int)) => match j with | xs_3 => [(4, [], (.slice none 0 0)), (5, [], (.slice (o_137.map fun b => ⟨b, 0, none⟩) xs_1.length cap_138))]) (fun (j : (List Int)) => match j with | xs_3 => [⟨o_137, 2, row encI64 xs_3 sp_139⟩]) ?_ ?_)))))))
   ·refine jc_block ?_
    obtain ⟨t_8, ht_1498, hr_1385⟩ := bd h
    refine jc_loop (fun (s : (List Int) × Int) (x : Unit) => match s, x with | ⟨xs_5, i_6⟩, _ => (xs_5.length = xs_1.length) ∧ ((o_137 = none → xs_5 = [] ∧ cap_138 = 0))) (fun (s : (List Int) × Int) (x : Unit) => match s, x with | ⟨xs_5, i_6⟩, _ => [(1, [], (.slice B_a pairs1.length B_c)), (4, [], (.slice none 0 0)), (5, [], (.slice (o_137.map fun b => ⟨b, 0, none⟩) xs_1.length cap_138)), (21, [], (.int .i64 (pairs1.length : Int))), (22, [], (.int .i64 i_6))]) (fun (s : (List Int) × Int) (x : Unit) => match s, x with | ⟨xs_5, i_6⟩, _ => [⟨o_137, 2, row encI64 xs_5 sp_139⟩]) ht_1498 () ⟨rfl, ho_142⟩ (by kernel_rfl) [0] (by kernel_rfl) (by kernel_rfl) ?_
    rintro ⟨xs_5, i_6⟩ _ y_1386 ⟨hn_1384, ho_1383⟩ h
    rw [impl_joined.l_7] at h
    refine jc_seq (jc_region (qh [0] (qe (jx_then (jc_seq (qi h (fun h => ?_) (fun h => ?_)))))))
    ·refine jc_skip (jx_then (jc_seq (jc_block (jc_seq (jc_region (qh [0,0,0] (qe (jx_then (jc_meet (fun (j : (List Int)) => match j with | xs_9 => impl_joined.k_10 i_6 xs_9 = some y_1386 ∧ (xs_9.length = xs_1.length) ∧ ((o_137 = none → xs_9 = [] ∧ cap_138 = 0))) (fun (j : (List Int)) => match j with | xs_9 => [(1, [], (.slice B_a pairs1.length B_c)), (4, [], (.slice none 0 0)), (5, [], (.slice (o_137.map fun b => ⟨b, 0, none⟩) xs_1.length cap_138)), (21, [], (.int .i64 (pairs1.length : Int))), (22, [], (.int .i64 i_6))]) (fun (j : (List Int)) => match j with | xs_9 => [⟨o_137, 2, row encI64 xs_9 sp_139⟩]) ?_ ?_)))))))))
     ·refine jc_block ?_
      obtain ⟨t_14, ht_1496, hr_1478⟩ := bd h
      refine jc_loop (fun (s : (List Int) × Int) (x : Unit) => match s, x with | ⟨xs_11, i_12⟩, _ => (xs_11.length = xs_1.length) ∧ ((o_137 = none → xs_11 = [] ∧ cap_138 = 0))) (fun (s : (List Int) × Int) (x : Unit) => match s, x with | ⟨xs_11, i_12⟩, _ => [(1, [], (.slice B_a pairs1.length B_c)), (4, [], (.slice none 0 0)), (5, [], (.slice (o_137.map fun b => ⟨b, 0, none⟩) xs_1.length cap_138)), (21, [], (.int .i64 (pairs1.length : Int))), (22, [], (.int .i64 i_6)), (24, [], (.slice B_a pairs1.length B_c)), (25, [], (.int .i64 (pairs1.length : Int))), (26, [], (.int .i64 i_12))]) (fun (s : (List Int) × Int) (x : Unit) => match s, x with | ⟨xs_11, i_12⟩, _ => [⟨o_137, 2, row encI64 xs_11 sp_139⟩]) ht_1496 () ⟨hn_1384, ho_1383⟩ (by kernel_rfl) [0] (by kernel_rfl) (by kernel_rfl) ?_
      rintro ⟨xs_11, i_12⟩ _ y_1479 ⟨hn_1477, ho_1476⟩ h
      rw [impl_joined.l_13] at h
      refine jc_seq (jc_region (qh [0] (qe (jx_then (jc_seq (qi h (fun h => ?_) (fun h => ?_)))))))
      ·refine jc_skip (jx_then (jc_seq (jc_block (jc_seq (jc_region ?_)))))
       obtain ⟨x_15, hx_1482, h⟩ := bd h
       refine tO (qx 0 B_a 2 hx_1482 rfl (B_h.sp hx_1482) (jkO (tO (p_ldx 0 (aB B_a) (aO B_a + i_12.toNat * 2) (encA2I64 x_15) 2 (by kernel_rfl) (by kernel_rfl) (encA2I64_len x_15) (fun w hm => ((hm.xr B_h).at hx_1482)) (jkO (tO (qa 0 (fun b_1483 => jkO (tO (p_sA 0 1 b_1483 2 1 93 encI64 (Arr.rep 2 0) x_15 (by kernel_rfl) (by kernel_rfl) (by kernel_rfl) encI64_len encI64_cell (by kernel_rfl) (jkO (qe (jx_then (jc_seq (qg [⟨o_137, 2, row encI64 xs_11 sp_139⟩, ⟨(some b_1483), 93, row encI64 x_15.1 []⟩] 12 (qd [⟨0, 0, 0⟩,⟨5, 0, 0⟩] 10 [0, 1] ?_))))))))))))))))
       obtain ⟨x_16, hx_1484, h⟩ := bd h
       refine qv 1 0 [0, 1] (fun w hm => idx_run (a := (some ⟨b_1483, 0, none⟩)) (len := 2) (s := 1) (j := 0) (by kernel_rfl) (ix_some hx_1484).1 (ltn hx_1484 x_15.2) rfl) (qv 2 0 [0, 1] (fun w hm => ld_run (b := aB (some ⟨b_1483, 0, none⟩)) (off := (aO (some ⟨b_1483, 0, none⟩) + (0 : Int).toNat * 1)) (s := 1) (agg := false) (vs := (encI64 x_16)) (by kernel_rfl) (by kernel_rfl) (.inr rfl) ((hm.ow 1 (some b_1483) 93 x_15.1 [] (fun e => nomatch e) encI64_len).at hx_1484)) ?_)
       obtain ⟨x_17, hx_1485, h⟩ := bd h
       refine qv 3 0 [0, 1] (fun w hm => idx_run (a := (o_137.map fun b => ⟨b, 0, none⟩)) (len := xs_1.length) (s := 1) (j := x_16) (by kernel_rfl) (ix_some hx_1485).1 (ltn hx_1485 hn_1477) (spo ho_1476 hx_1485)) (qv 4 0 [0, 1] (fun w hm => ld_run (b := aB (o_137.map fun b => ⟨b, 0, none⟩)) (off := (aO (o_137.map fun b => ⟨b, 0, none⟩) + x_16.toNat * 1)) (s := 1) (agg := false) (vs := (encI64 x_17)) (by kernel_rfl) (by kernel_rfl) (.inr rfl) ((hm.ow 0 o_137 2 xs_11 sp_139 (fun e => (ho_1476 e).1) encI64_len).at hx_1485)) ?_)
       obtain ⟨x_18, hx_1486, h⟩ := bd h
       refine qv 6 0 [0, 1] (fun w hm => idx_run (a := (some ⟨b_1483, 0, none⟩)) (len := 2) (s := 1) (j := 1) (by kernel_rfl) (ix_some hx_1486).1 (ltn hx_1486 x_15.2) rfl) (qv 7 0 [0, 1] (fun w hm => ld_run (b := aB (some ⟨b_1483, 0, none⟩)) (off := (aO (some ⟨b_1483, 0, none⟩) + (1 : Int).toNat * 1)) (s := 1) (agg := false) (vs := (encI64 x_18)) (by kernel_rfl) (by kernel_rfl) (.inr rfl) ((hm.ow 1 (some b_1483) 93 x_15.1 [] (fun e => nomatch e) encI64_len).at hx_1486)) ?_)
       obtain ⟨x_19, hx_1487, h⟩ := bd h
       refine qv 8 0 [0, 1] (fun w hm => idx_run (a := (o_137.map fun b => ⟨b, 0, none⟩)) (len := xs_1.length) (s := 1) (j := x_18) (by kernel_rfl) (ix_some hx_1487).1 (ltn hx_1487 hn_1477) (spo ho_1476 hx_1487)) (qv 9 0 [0, 1] (fun w hm => ld_run (b := aB (o_137.map fun b => ⟨b, 0, none⟩)) (off := (aO (o_137.map fun b => ⟨b, 0, none⟩) + x_18.toNat * 1)) (s := 1) (agg := false) (vs := (encI64 x_19)) (by kernel_rfl) (by kernel_rfl) (.inr rfl) ((hm.ow 0 o_137 2 xs_11 sp_139 (fun e => (ho_1476 e).1) encI64_len).at hx_1487)) (qd [⟨10, 0, 0⟩,⟨11, 0, 0⟩] 0 [0, 1] (qz (jx_then (qg [⟨(some b_1483), 93, row encI64 x_15.1 []⟩] 12 (qd [⟨0, 0, 0⟩,⟨3, 0, 0⟩,⟨6, 0, 0⟩,⟨7, 0, 0⟩] 8 [1] ?_))))))
       obtain ⟨x_20, hx_1491, h⟩ := bd h
       refine qv 1 0 [1] (fun w hm => idx_run (a := (some ⟨b_1483, 0, none⟩)) (len := 2) (s := 1) (j := 0) (by kernel_rfl) (ix_some hx_1491).1 (ltn hx_1491 x_15.2) rfl) (qv 2 0 [1] (fun w hm => ld_run (b := aB (some ⟨b_1483, 0, none⟩)) (off := (aO (some ⟨b_1483, 0, none⟩) + (0 : Int).toNat * 1)) (s := 1) (agg := false) (vs := (encI64 x_20)) (by kernel_rfl) (by kernel_rfl) (.inr rfl) ((hm.ow 0 (some b_1483) 93 x_15.1 [] (fun e => nomatch e) encI64_len).at hx_1491)) ?_)
       obtain ⟨x_21, hx_1492, h⟩ := bd h
       refine qv 4 0 [1] (fun w hm => idx_run (a := (some ⟨b_1483, 0, none⟩)) (len := 2) (s := 1) (j := 1) (by kernel_rfl) (ix_some hx_1492).1 (ltn hx_1492 x_15.2) rfl) (qv 5 0 [1] (fun w hm => ld_run (b := aB (some ⟨b_1483, 0, none⟩)) (off := (aO (some ⟨b_1483, 0, none⟩) + (1 : Int).toNat * 1)) (s := 1) (agg := false) (vs := (encI64 x_21)) (by kernel_rfl) (by kernel_rfl) (.inr rfl) ((hm.ow 0 (some b_1483) 93 x_15.1 [] (fun e => nomatch e) encI64_len).at hx_1492)) ?_)
       obtain ⟨x_22, hx_1493, h⟩ := bd h
       refine qv 8 0 [1] (fun w hm => idx_run (a := (o_137.map fun b => ⟨b, 0, none⟩)) (len := xs_1.length) (s := 1) (j := x_20) (by kernel_rfl) (ix_some hx_1493).1 (ltn hx_1493 hn_1477) (spo ho_1476 hx_1493)) (tD 9 (p_strO 0 0 o_137 2 encI64 xs_11 sp_139 x_20 (if x_19 < x_17 then x_19 else x_17) 1 0 [(.int .i64 (if x_19 < x_17 then x_19 else x_17))] (by kernel_rfl) (by kernel_rfl) (by kernel_rfl) (fun e => (ho_1476 e).1) encI64_len hx_1493 (by kernel_rfl) (by kernel_rfl) (kD [1] ?_)))
       obtain ⟨x_23, hx_1494, h⟩ := bd h
       exact qv 10 0 [1] (fun w hm => idx_run (a := (o_137.map fun b => ⟨b, 0, none⟩)) (len := xs_1.length) (s := 1) (j := x_21) (by kernel_rfl) (ix_some hx_1494).1 (ltn hx_1494 (List.length_set.trans hn_1477)) (spo (set_ho ho_1476) hx_1494)) (tD 11 (p_strO 0 0 o_137 2 encI64 (xs_11.set x_20.toNat (if x_19 < x_17 then x_19 else x_17)) sp_139 x_21 (if x_19 < x_17 then x_19 else x_17) 1 0 [(.int .i64 (if x_19 < x_17 then x_19 else x_17))] (by kernel_rfl) (by kernel_rfl) (by kernel_rfl) (fun e => ((set_ho ho_1476) e).1) encI64_len hx_1494 (by kernel_rfl) (by kernel_rfl) (kD [1] (qz (jx_inn (jx_then (jc_region (qh [0,0] (qe (qb (((xs_11.set x_20.toNat (if x_19 < x_17 then x_19 else x_17)).set x_21.toNat (if x_19 < x_17 then x_19 else x_17)), (w64 (i_12 + 1))) () h ⟨(List.length_set.trans (List.length_set.trans hn_1477)), (set_ho (set_ho ho_1476))⟩ [0]))))))))))
      ·refine jc_exit (jx_thenx (jx_leave xs_11 (Option.some.inj h).symm (fun e_1495 => ?_)))
       subst e_1495
       exact jx_ine (qm xs_11 ⟨hr_1478, hn_1477, ho_1476⟩ [0])
     ·rintro xs_9 ⟨h, hn_1443, ho_1442⟩
      replace h : impl_joined.k_10 i_6 xs_9 = some y_1386 := h
      rw [impl_joined.k_10] at h
      exact jx_inn (jx_then (jc_region (qh [0,0] (qe (qb (xs_9, (w64 (i_6 + 1))) () h ⟨hn_1443, ho_1442⟩ [0])))))
    ·refine jc_exit (jx_thenx (jx_leave xs_5 (Option.some.inj h).symm (fun e_1497 => ?_)))
     subst e_1497
     exact jx_ine (qm xs_5 ⟨hr_1385, hn_1384, ho_1383⟩ [0])
   ·rintro xs_3 ⟨h, hn_1160, ho_1159⟩
    replace h : impl_joined.k_4 xs_3 = some r := h
    rw [impl_joined.k_4] at h
    refine jx_then (jc_seq (jc_region (qh [0,0] (qe (jx_then (jc_ret ?_))))))
    obtain rfl := Option.some.inj h
    exact qr [] (fun w hm => ⟨o_137, cap_138, sp_139, xs_1.length, hn_1160, hs_141, ho_1159, rfl, hm.pk [0]⟩)
/-! ### laws.eqInt64A2 -/
def laws_eqInt64A2.k_1 : Option (Bool) := some true
def laws_eqInt64A2.l_3 (a0 : Arr 2 Int) (b1 : Arr 2 Int) : Int → Option ((Int) ⊕ (Bool ⊕ Unit))
  | i_2 => (if (decide (i_2 < 2)) = true then (ix a0.1 i_2).bind fun x_5 => (ix b1.1 i_2).bind fun x_6 => (if (x_5 != x_6) = true then some (.inr (.inl false)) else some (.inl (w64 (i_2 + 1)))) else some (.inr (.inr ())))
def laws_eqInt64A2 (a0 : Arr 2 Int) (b1 : Arr 2 Int) : Option (Bool) := (loop (laws_eqInt64A2.l_3 a0 b1) 0).bind fun t_4 => match t_4 with | .inl p => some p | .inr p => laws_eqInt64A2.k_1
theorem laws_eqInt64A2.calls (a0 : Arr 2 Int) (b1 : Arr 2 Int) (w : World) (r : Bool) (h : laws_eqInt64A2 a0 b1 = some r) :
    Calls Try.prog 58 #[(.agg (row encI64 a0.1 []).toArray), (.agg (row encI64 b1.1 []).toArray)] w fun e w' => ∃ v, e = .returned v ∧ (v = (.bool r) ∧ Mem w [] [] w') := by
  rw [laws_eqInt64A2] at h
  refine enter (args := [(.agg (row encI64 a0.1 []).toArray), (.agg (row encI64 b1.1 []).toArray)]) Try.func58 rfl Try.ntmps58 (by kernel_rfl) (L := []) (W := []) (Mem.start w) ?_
  refine jc_seq (jc_region (tO (qa 0 (fun b_1 => jkO (tO (qa 0 (fun b_2 => jkO (qh [0] (qe (jx_then (jc_seq (jc_seq (jc_region (qh [0] (qe (jx_then (jc_meet (fun (_ : Unit) => laws_eqInt64A2.k_1 = some r) (fun (_ : Unit) => [(4, [], (.bool false))]) (fun (_ : Unit) => [⟨(some b_1), 93, row encI64 a0.1 []⟩, ⟨(some b_2), 93, row encI64 b1.1 []⟩]) ?_ ?_)))))))))))))))))
  ·refine jc_block ?_
   obtain ⟨t_4, ht_42, hr_33⟩ := bd h
   refine jc_loop (fun (s : Int) (x : Unit) => match s, x with | i_2, _ => True) (fun (s : Int) (x : Unit) => match s, x with | i_2, _ => [(2, [], (.pointer (some ⟨b_1, 0, none⟩))), (3, [], (.pointer (some ⟨b_2, 0, none⟩))), (4, [], (.bool false)), (5, [], (.int .i64 i_2))]) (fun (s : Int) (x : Unit) => match s, x with | i_2, _ => [⟨(some b_1), 93, row encI64 a0.1 []⟩, ⟨(some b_2), 93, row encI64 b1.1 []⟩]) ht_42 () trivial (by kernel_rfl) [0, 1] (by kernel_rfl) (by kernel_rfl) ?_
   rintro i_2 _ y_34 _ h
   rw [laws_eqInt64A2.l_3] at h
   refine jc_seq (jc_seq (jc_region (qh [0,0] (qe (jx_then (qi h (fun h => ?_) (fun h => ?_)))))))
   ·refine jc_skip (jx_then (jc_seq (jc_block (jc_seq (qg [⟨(some b_1), 93, row encI64 a0.1 []⟩, ⟨(some b_2), 93, row encI64 b1.1 []⟩] 7 (qd [⟨0, 0, 0⟩,⟨3, 0, 0⟩] 5 [0, 1] ?_))))))
    obtain ⟨x_5, hx_37, h⟩ := bd h
    refine qv 1 0 [0, 1] (fun w hm => idx_run (a := (some ⟨b_1, 0, none⟩)) (len := 2) (s := 1) (j := i_2) (by kernel_rfl) (ix_some hx_37).1 (ltn hx_37 a0.2) rfl) (qv 2 0 [0, 1] (fun w hm => ld_run (b := aB (some ⟨b_1, 0, none⟩)) (off := (aO (some ⟨b_1, 0, none⟩) + i_2.toNat * 1)) (s := 1) (agg := false) (vs := (encI64 x_5)) (by kernel_rfl) (by kernel_rfl) (.inr rfl) ((hm.ow 0 (some b_1) 93 a0.1 [] (fun e => nomatch e) encI64_len).at hx_37)) ?_)
    obtain ⟨x_6, hx_38, h⟩ := bd h
    refine qv 4 0 [0, 1] (fun w hm => idx_run (a := (some ⟨b_2, 0, none⟩)) (len := 2) (s := 1) (j := i_2) (by kernel_rfl) (ix_some hx_38).1 (ltn hx_38 b1.2) rfl) (qv 5 0 [0, 1] (fun w hm => ld_run (b := aB (some ⟨b_2, 0, none⟩)) (off := (aO (some ⟨b_2, 0, none⟩) + i_2.toNat * 1)) (s := 1) (agg := false) (vs := (encI64 x_6)) (by kernel_rfl) (by kernel_rfl) (.inr rfl) ((hm.ow 1 (some b_2) 93 b1.1 [] (fun e => nomatch e) encI64_len).at hx_38)) (qd [⟨6, 0, 0⟩] 0 [0, 1] (qz (jx_then (qi h (fun h => ?_) (fun h => ?_))))))
    ·refine jc_seq (jc_region (qh [0] (qe (jx_then (jc_ret (jx_inr (jx_thenr (jx_leaver (.inl false) (Option.some.inj h).symm (fun e_40 => ?_)))))))))
     subst e_40
     refine jx_inr (jx_thenr (jx_thenr ?_))
     obtain rfl := Option.some.inj hr_33
     exact qr [] (fun w hm => ⟨rfl, hm.pk []⟩)
    ·exact jc_skip (jx_inn (jx_then (jc_region (qh [0,0,0] (qe (qb (w64 (i_2 + 1)) () h trivial [0, 1]))))))
   ·refine jc_exit (jx_thenx (jx_leave (.inr ()) (Option.some.inj h).symm (fun e_41 => ?_)))
    subst e_41
    exact jx_ine (qm () hr_33 [0, 1])
  ·rintro _ h
   replace h : laws_eqInt64A2.k_1 = some r := h
   rw [laws_eqInt64A2.k_1] at h
   refine jx_then (jc_seq (jc_region (qh [0] (qe (jx_then (jc_ret ?_))))))
   obtain rfl := Option.some.inj h
   exact qr [] (fun w hm => ⟨rfl, hm.pk []⟩)
/-! ### laws.eqInt64A2S -/
def laws_eqInt64A2S.k_1 : Option (Bool) := some true
def laws_eqInt64A2S.l_3 (a0 : List (Arr 2 Int)) (b1 : List (Arr 2 Int)) : Int → Option ((Int) ⊕ (Bool ⊕ Unit))
  | i_2 => (if (decide (i_2 < (a0.length : Int))) = true then (ix a0 i_2).bind fun x_5 => (ix b1 i_2).bind fun x_6 => (laws_eqInt64A2 x_5 x_6).bind fun t_7 => (if (!t_7) = true then some (.inr (.inl false)) else some (.inl (w64 (i_2 + 1)))) else some (.inr (.inr ())))
def laws_eqInt64A2S (a0 : List (Arr 2 Int)) (b1 : List (Arr 2 Int)) : Option (Bool) := (if ((a0.length : Int) != (b1.length : Int)) = true then some false else (loop (laws_eqInt64A2S.l_3 a0 b1) 0).bind fun t_4 => match t_4 with | .inl p => some p | .inr p => laws_eqInt64A2S.k_1)
theorem laws_eqInt64A2S.calls (a0 : List (Arr 2 Int)) (b1 : List (Arr 2 Int)) (w : World) (r : Bool) {A_a : Option Addr} {A_an : Nat} (A_c : Nat) (A_h : Rw w A_a 2 encA2I64 a0) (A_hn : a0.length = A_an) {B_a : Option Addr} {B_an : Nat} (B_c : Nat) (B_h : Rw w B_a 2 encA2I64 b1) (B_hn : b1.length = B_an) (h : laws_eqInt64A2S a0 b1 = some r) :
    Calls Try.prog 16 #[(.slice A_a A_an A_c), (.slice B_a B_an B_c)] w fun e w' => ∃ v, e = .returned v ∧ (v = (.bool r) ∧ Mem w [] [] w') := by
  subst A_hn B_hn
  rw [laws_eqInt64A2S] at h
  refine enter (args := [(.slice A_a a0.length A_c), (.slice B_a b1.length B_c)]) Try.func16 rfl Try.ntmps16 (by kernel_rfl) (L := []) (W := []) (Mem.start w) ?_
  refine jc_seq (jc_region (qh [0] (qe (jx_then (jc_seq (jc_seq (jc_region (qh [0,0,0,0,0] (qe (jx_then (qi h (fun h => ?_) (fun h => ?_))))))))))))
  ·refine jc_seq (jc_region (qh [0] (qe (jx_then (jc_ret (jx_thenr ?_))))))
   obtain rfl := Option.some.inj h
   exact qr [] (fun w hm => ⟨rfl, hm.pk []⟩)
  ·refine jc_skip (jx_then (jc_seq (jc_seq (jc_region (qh [0] (qe (jx_then (jc_meet (fun (_ : Unit) => laws_eqInt64A2S.k_1 = some r) (fun (_ : Unit) => [(4, [], (.bool false))]) (fun (_ : Unit) => []) ?_ ?_))))))))
   ·refine jc_block ?_
    obtain ⟨t_4, ht_48, hr_38⟩ := bd h
    refine jc_loop (fun (s : Int) (x : Unit) => match s, x with | i_2, _ => True) (fun (s : Int) (x : Unit) => match s, x with | i_2, _ => [(0, [], (.slice A_a a0.length A_c)), (1, [], (.slice B_a b1.length B_c)), (4, [], (.bool false)), (5, [], (.int .i64 i_2))]) (fun (s : Int) (x : Unit) => match s, x with | i_2, _ => []) ht_48 () trivial (by kernel_rfl) [] (by kernel_rfl) (by kernel_rfl) ?_
    rintro i_2 _ y_39 _ h
    rw [laws_eqInt64A2S.l_3] at h
    refine jc_seq (jc_seq (jc_region (qh [0,0,0,0] (qe (jx_then (qi h (fun h => ?_) (fun h => ?_)))))))
    ·refine jc_skip (jx_then (jc_seq (jc_block (jc_seq (qg [] 10 (qd [⟨0, 0, 0⟩,⟨1, 0, 0⟩,⟨4, 0, 0⟩,⟨5, 0, 0⟩] 6 [] ?_))))))
     obtain ⟨x_5, hx_42, h⟩ := bd h
     refine qv 2 0 [] (fun w hm => idx_run (a := A_a) (len := a0.length) (s := 2) (j := i_2) (by kernel_rfl) (ix_some hx_42).1 (ltn hx_42 rfl) (A_h.sp hx_42)) (qv 3 0 [] (fun w hm => ld_run (b := aB A_a) (off := (aO A_a + i_2.toNat * 2)) (s := 2) (agg := true) (vs := (encA2I64 x_5)) (by kernel_rfl) (encA2I64_len x_5) (.inl rfl) ((hm.xr A_h).at hx_42)) ?_)
     obtain ⟨x_6, hx_43, h⟩ := bd h
     refine qv 6 0 [] (fun w hm => idx_run (a := B_a) (len := b1.length) (s := 2) (j := i_2) (by kernel_rfl) (ix_some hx_43).1 (ltn hx_43 rfl) (B_h.sp hx_43)) (qv 7 0 [] (fun w hm => ld_run (b := aB B_a) (off := (aO B_a + i_2.toNat * 2)) (s := 2) (agg := true) (vs := (encA2I64 x_6)) (by kernel_rfl) (encA2I64_len x_6) (.inl rfl) ((hm.xr B_h).at hx_43)) ?_)
     obtain ⟨t_7, ht_44, h⟩ := bd h
     refine tD 8 (pc 0 (fun w hm => laws_eqInt64A2.calls x_5 x_6 w _ ht_44) ?_)
     rintro w v w' hm ⟨rfl, hm'⟩
     refine ⟨_, hm.app hm', kD [] ?_⟩
     clear hm hm'
     refine qd [⟨9, 0, 0⟩] 0 [] (qz (jx_then (qi h (fun h => ?_) (fun h => ?_))))
     ·refine jc_seq (jc_region (qh [0] (qe (jx_then (jc_ret (jx_inr (jx_thenr (jx_leaver (.inl false) (Option.some.inj h).symm (fun e_46 => ?_)))))))))
      subst e_46
      refine jx_inr (jx_thenr (jx_thenr ?_))
      obtain rfl := Option.some.inj hr_38
      exact qr [] (fun w hm => ⟨rfl, hm.pk []⟩)
     ·exact jc_skip (jx_inn (jx_then (jc_region (qh [0,0,0] (qe (qb (w64 (i_2 + 1)) () h trivial []))))))
    ·refine jc_exit (jx_thenx (jx_leave (.inr ()) (Option.some.inj h).symm (fun e_47 => ?_)))
     subst e_47
     exact jx_ine (qm () hr_38 [])
   ·rintro _ h
    replace h : laws_eqInt64A2S.k_1 = some r := h
    rw [laws_eqInt64A2S.k_1] at h
    refine jx_then (jc_seq (jc_region (qh [0] (qe (jx_then (jc_ret ?_))))))
    obtain rfl := Option.some.inj h
    exact qr [] (fun w hm => ⟨rfl, hm.pk []⟩)
/-! ### laws.eqHammer -/
def laws_eqHammer (a0 : GHammer) (b1 : GHammer) : Option (Bool) := (if (a0.fPitch != b1.fPitch) = true then some false else (if (a0.fReady != b1.fReady) = true then some false else some true))
theorem laws_eqHammer.calls (a0 : GHammer) (b1 : GHammer) (w : World) (r : Bool) (h : laws_eqHammer a0 b1 = some r) :
    Calls Try.prog 109 #[(.agg #[(.int .i8 a0.fPitch), (.int .i8 a0.fReady)]), (.agg #[(.int .i8 b1.fPitch), (.int .i8 b1.fReady)])] w fun e w' => ∃ v, e = .returned v ∧ (v = (.bool r) ∧ Mem w [] [] w') := by
  rw [laws_eqHammer] at h
  refine enter (args := [(.agg #[(.int .i8 a0.fPitch), (.int .i8 a0.fReady)]), (.agg #[(.int .i8 b1.fPitch), (.int .i8 b1.fReady)])]) Try.func109 rfl Try.ntmps109 (by kernel_rfl) (L := []) (W := []) (Mem.start w) ?_
  refine jc_seq (jc_region (tO (qa 0 (fun b_1 => jkO (tO (qa 0 (fun b_2 => jkO (qh [0] (qe (jx_then (jc_seq (jc_seq (jc_region (qh [0,0,0,1,0] (qe (jx_then (qi h (fun h => ?_) (fun h => ?_))))))))))))))))))
  ·refine jc_seq (jc_region (qh [0] (qe (jx_then (jc_ret (jx_thenr ?_))))))
   obtain rfl := Option.some.inj h
   exact qr [] (fun w hm => ⟨rfl, hm.pk []⟩)
  ·refine jc_skip (jx_then (jc_seq (jc_seq (jc_region (qh [0,0,0,1,0] (qe (jx_then (qi h (fun h => ?_) (fun h => ?_)))))))))
   ·refine jc_seq (jc_region (qh [0] (qe (jx_then (jc_ret (jx_thenr ?_))))))
    obtain rfl := Option.some.inj h
    exact qr [] (fun w hm => ⟨rfl, hm.pk []⟩)
   ·refine jc_skip (jx_then (jc_seq (jc_region (qh [0] (qe (jx_then (jc_ret ?_)))))))
    obtain rfl := Option.some.inj h
    exact qr [] (fun w hm => ⟨rfl, hm.pk []⟩)
/-! ### laws.eqHammerS -/
def laws_eqHammerS.k_1 : Option (Bool) := some true
def laws_eqHammerS.l_3 (a0 : List GHammer) (b1 : List GHammer) : Int → Option ((Int) ⊕ (Bool ⊕ Unit))
  | i_2 => (if (decide (i_2 < (a0.length : Int))) = true then (ix a0 i_2).bind fun x_5 => (ix b1 i_2).bind fun x_6 => (laws_eqHammer x_5 x_6).bind fun t_7 => (if (!t_7) = true then some (.inr (.inl false)) else some (.inl (w64 (i_2 + 1)))) else some (.inr (.inr ())))
def laws_eqHammerS (a0 : List GHammer) (b1 : List GHammer) : Option (Bool) := (if ((a0.length : Int) != (b1.length : Int)) = true then some false else (loop (laws_eqHammerS.l_3 a0 b1) 0).bind fun t_4 => match t_4 with | .inl p => some p | .inr p => laws_eqHammerS.k_1)
theorem laws_eqHammerS.calls (a0 : List GHammer) (b1 : List GHammer) (w : World) (r : Bool) {A_a : Option Addr} {A_an : Nat} (A_c : Nat) (A_h : Rw w A_a 2 encGHammer a0) (A_hn : a0.length = A_an) {B_a : Option Addr} {B_an : Nat} (B_c : Nat) (B_h : Rw w B_a 2 encGHammer b1) (B_hn : b1.length = B_an) (h : laws_eqHammerS a0 b1 = some r) :
    Calls Try.prog 59 #[(.slice A_a A_an A_c), (.slice B_a B_an B_c)] w fun e w' => ∃ v, e = .returned v ∧ (v = (.bool r) ∧ Mem w [] [] w') := by
  subst A_hn B_hn
  rw [laws_eqHammerS] at h
  refine enter (args := [(.slice A_a a0.length A_c), (.slice B_a b1.length B_c)]) Try.func59 rfl Try.ntmps59 (by kernel_rfl) (L := []) (W := []) (Mem.start w) ?_
  refine jc_seq (jc_region (qh [0] (qe (jx_then (jc_seq (jc_seq (jc_region (qh [0,0,0,0,0] (qe (jx_then (qi h (fun h => ?_) (fun h => ?_))))))))))))
  ·refine jc_seq (jc_region (qh [0] (qe (jx_then (jc_ret (jx_thenr ?_))))))
   obtain rfl := Option.some.inj h
   exact qr [] (fun w hm => ⟨rfl, hm.pk []⟩)
  ·refine jc_skip (jx_then (jc_seq (jc_seq (jc_region (qh [0] (qe (jx_then (jc_meet (fun (_ : Unit) => laws_eqHammerS.k_1 = some r) (fun (_ : Unit) => [(4, [], (.bool false))]) (fun (_ : Unit) => []) ?_ ?_))))))))
   ·refine jc_block ?_
    obtain ⟨t_4, ht_48, hr_38⟩ := bd h
    refine jc_loop (fun (s : Int) (x : Unit) => match s, x with | i_2, _ => True) (fun (s : Int) (x : Unit) => match s, x with | i_2, _ => [(0, [], (.slice A_a a0.length A_c)), (1, [], (.slice B_a b1.length B_c)), (4, [], (.bool false)), (5, [], (.int .i64 i_2))]) (fun (s : Int) (x : Unit) => match s, x with | i_2, _ => []) ht_48 () trivial (by kernel_rfl) [] (by kernel_rfl) (by kernel_rfl) ?_
    rintro i_2 _ y_39 _ h
    rw [laws_eqHammerS.l_3] at h
    refine jc_seq (jc_seq (jc_region (qh [0,0,0,0] (qe (jx_then (qi h (fun h => ?_) (fun h => ?_)))))))
    ·refine jc_skip (jx_then (jc_seq (jc_block (jc_seq (qg [] 10 (qd [⟨0, 0, 0⟩,⟨1, 0, 0⟩,⟨4, 0, 0⟩,⟨5, 0, 0⟩] 6 [] ?_))))))
     obtain ⟨x_5, hx_42, h⟩ := bd h
     refine qv 2 0 [] (fun w hm => idx_run (a := A_a) (len := a0.length) (s := 2) (j := i_2) (by kernel_rfl) (ix_some hx_42).1 (ltn hx_42 rfl) (A_h.sp hx_42)) (qv 3 0 [] (fun w hm => ld_run (b := aB A_a) (off := (aO A_a + i_2.toNat * 2)) (s := 2) (agg := true) (vs := (encGHammer x_5)) (by kernel_rfl) (by kernel_rfl) (.inl rfl) ((hm.xr A_h).at hx_42)) ?_)
     obtain ⟨x_6, hx_43, h⟩ := bd h
     refine qv 6 0 [] (fun w hm => idx_run (a := B_a) (len := b1.length) (s := 2) (j := i_2) (by kernel_rfl) (ix_some hx_43).1 (ltn hx_43 rfl) (B_h.sp hx_43)) (qv 7 0 [] (fun w hm => ld_run (b := aB B_a) (off := (aO B_a + i_2.toNat * 2)) (s := 2) (agg := true) (vs := (encGHammer x_6)) (by kernel_rfl) (by kernel_rfl) (.inl rfl) ((hm.xr B_h).at hx_43)) ?_)
     obtain ⟨t_7, ht_44, h⟩ := bd h
     refine tD 8 (pc 0 (fun w hm => laws_eqHammer.calls x_5 x_6 w _ ht_44) ?_)
     rintro w v w' hm ⟨rfl, hm'⟩
     refine ⟨_, hm.app hm', kD [] ?_⟩
     clear hm hm'
     refine qd [⟨9, 0, 0⟩] 0 [] (qz (jx_then (qi h (fun h => ?_) (fun h => ?_))))
     ·refine jc_seq (jc_region (qh [0] (qe (jx_then (jc_ret (jx_inr (jx_thenr (jx_leaver (.inl false) (Option.some.inj h).symm (fun e_46 => ?_)))))))))
      subst e_46
      refine jx_inr (jx_thenr (jx_thenr ?_))
      obtain rfl := Option.some.inj hr_38
      exact qr [] (fun w hm => ⟨rfl, hm.pk []⟩)
     ·exact jc_skip (jx_inn (jx_then (jc_region (qh [0,0,0] (qe (qb (w64 (i_2 + 1)) () h trivial []))))))
    ·refine jc_exit (jx_thenx (jx_leave (.inr ()) (Option.some.inj h).symm (fun e_47 => ?_)))
     subst e_47
     exact jx_ine (qm () hr_38 [])
   ·rintro _ h
    replace h : laws_eqHammerS.k_1 = some r := h
    rw [laws_eqHammerS.k_1] at h
    refine jx_then (jc_seq (jc_region (qh [0] (qe (jx_then (jc_ret ?_))))))
    obtain rfl := Option.some.inj h
    exact qr [] (fun w hm => ⟨rfl, hm.pk []⟩)
/-! ### laws.eqFrame -/
def laws_eqFrame (a0 : GFrame) (b1 : GFrame) : Option (Bool) := (if (a0.fSteps != b1.fSteps) = true then some false else (laws_eqHammerS a0.fHammers b1.fHammers).bind fun t_1 => (if (!t_1) = true then some false else some true))
theorem laws_eqFrame.calls (a0 : GFrame) (b1 : GFrame) (w : World) (r : Bool) {C_a : Option Addr} {C_an : Nat} (C_c : Nat) (C_h : Rw w C_a 2 encGHammer a0.fHammers) (C_hn : a0.fHammers.length = C_an) {F_a : Option Addr} {F_an : Nat} (F_c : Nat) (F_h : Rw w F_a 2 encGHammer b1.fHammers) (F_hn : b1.fHammers.length = F_an) (h : laws_eqFrame a0 b1 = some r) :
    Calls Try.prog 17 #[(.agg #[(.int .i16 a0.fSteps), (.slice C_a C_an C_c)]), (.agg #[(.int .i16 b1.fSteps), (.slice F_a F_an F_c)])] w fun e w' => ∃ v, e = .returned v ∧ (v = (.bool r) ∧ Mem w [] [] w') := by
  subst C_hn F_hn
  rw [laws_eqFrame] at h
  refine enter (args := [(.agg #[(.int .i16 a0.fSteps), (.slice C_a a0.fHammers.length C_c)]), (.agg #[(.int .i16 b1.fSteps), (.slice F_a b1.fHammers.length F_c)])]) Try.func17 rfl Try.ntmps17 (by kernel_rfl) (L := []) (W := []) (Mem.start w) ?_
  refine jc_seq (jc_region (tO (qa 0 (fun b_1 => jkO (tO (qa 0 (fun b_2 => jkO (qh [0] (qe (jx_then (jc_seq (jc_seq (jc_region (qh [0,0,0,1,0] (qe (jx_then (qi h (fun h => ?_) (fun h => ?_))))))))))))))))))
  ·refine jc_seq (jc_region (qh [0] (qe (jx_then (jc_ret (jx_thenr ?_))))))
   obtain rfl := Option.some.inj h
   exact qr [] (fun w hm => ⟨rfl, hm.pk []⟩)
  ·refine jc_skip (jx_then (jc_seq (jc_seq (jc_region (qh [0,0,0,1] ?_)))))
   obtain ⟨t_1, ht_5, h⟩ := bd h
   refine tO (pc 0 (fun w hm => laws_eqHammerS.calls a0.fHammers b1.fHammers w _ C_c (hm.xr C_h) rfl F_c (hm.xr F_h) rfl ht_5) ?_)
   rintro w v w' hm ⟨rfl, hm'⟩
   refine ⟨_, hm.app hm', jkO ?_⟩
   clear hm hm'
   refine qh [0] (qe (jx_then (qi h (fun h => ?_) (fun h => ?_))))
   ·refine jc_seq (jc_region (qh [0] (qe (jx_then (jc_ret (jx_thenr ?_))))))
    obtain rfl := Option.some.inj h
    exact qr [] (fun w hm => ⟨rfl, hm.pk []⟩)
   ·refine jc_skip (jx_then (jc_seq (jc_region (qh [0] (qe (jx_then (jc_ret ?_)))))))
    obtain rfl := Option.some.inj h
    exact qr [] (fun w hm => ⟨rfl, hm.pk []⟩)
/-! ### laws.eqDrum -/
def laws_eqDrum.k_1 : Option (Bool) := some true
def laws_eqDrum.l_3 (a0 : Arr 96 Int) (b1 : Arr 96 Int) : Int → Option ((Int) ⊕ (Bool ⊕ Unit))
  | i_2 => (if (decide (i_2 < 96)) = true then (ix a0.1 i_2).bind fun x_5 => (ix b1.1 i_2).bind fun x_6 => (if (x_5 != x_6) = true then some (.inr (.inl false)) else some (.inl (w64 (i_2 + 1)))) else some (.inr (.inr ())))
def laws_eqDrum (a0 : Arr 96 Int) (b1 : Arr 96 Int) : Option (Bool) := (loop (laws_eqDrum.l_3 a0 b1) 0).bind fun t_4 => match t_4 with | .inl p => some p | .inr p => laws_eqDrum.k_1
theorem laws_eqDrum.calls (a0 : Arr 96 Int) (b1 : Arr 96 Int) (w : World) (r : Bool) (h : laws_eqDrum a0 b1 = some r) :
    Calls Try.prog 60 #[(.agg (row encU32 a0.1 []).toArray), (.agg (row encU32 b1.1 []).toArray)] w fun e w' => ∃ v, e = .returned v ∧ (v = (.bool r) ∧ Mem w [] [] w') := by
  rw [laws_eqDrum] at h
  refine enter (args := [(.agg (row encU32 a0.1 []).toArray), (.agg (row encU32 b1.1 []).toArray)]) Try.func60 rfl Try.ntmps60 (by kernel_rfl) (L := []) (W := []) (Mem.start w) ?_
  refine jc_seq (jc_region (tO (qa 0 (fun b_1 => jkO (tO (qa 0 (fun b_2 => jkO (qh [0] (qe (jx_then (jc_seq (jc_seq (jc_region (qh [0] (qe (jx_then (jc_meet (fun (_ : Unit) => laws_eqDrum.k_1 = some r) (fun (_ : Unit) => [(4, [], (.bool false))]) (fun (_ : Unit) => [⟨(some b_1), 89, row encU32 a0.1 []⟩, ⟨(some b_2), 89, row encU32 b1.1 []⟩]) ?_ ?_)))))))))))))))))
  ·refine jc_block ?_
   obtain ⟨t_4, ht_42, hr_33⟩ := bd h
   refine jc_loop (fun (s : Int) (x : Unit) => match s, x with | i_2, _ => True) (fun (s : Int) (x : Unit) => match s, x with | i_2, _ => [(2, [], (.pointer (some ⟨b_1, 0, none⟩))), (3, [], (.pointer (some ⟨b_2, 0, none⟩))), (4, [], (.bool false)), (5, [], (.int .i64 i_2))]) (fun (s : Int) (x : Unit) => match s, x with | i_2, _ => [⟨(some b_1), 89, row encU32 a0.1 []⟩, ⟨(some b_2), 89, row encU32 b1.1 []⟩]) ht_42 () trivial (by kernel_rfl) [0, 1] (by kernel_rfl) (by kernel_rfl) ?_
   rintro i_2 _ y_34 _ h
   rw [laws_eqDrum.l_3] at h
   refine jc_seq (jc_seq (jc_region (qh [0,0] (qe (jx_then (qi h (fun h => ?_) (fun h => ?_)))))))
   ·refine jc_skip (jx_then (jc_seq (jc_block (jc_seq (qg [⟨(some b_1), 89, row encU32 a0.1 []⟩, ⟨(some b_2), 89, row encU32 b1.1 []⟩] 7 (qd [⟨0, 0, 0⟩,⟨3, 0, 0⟩] 5 [0, 1] ?_))))))
    obtain ⟨x_5, hx_37, h⟩ := bd h
    refine qv 1 0 [0, 1] (fun w hm => idx_run (a := (some ⟨b_1, 0, none⟩)) (len := 96) (s := 1) (j := i_2) (by kernel_rfl) (ix_some hx_37).1 (ltn hx_37 a0.2) rfl) (qv 2 0 [0, 1] (fun w hm => ld_run (b := aB (some ⟨b_1, 0, none⟩)) (off := (aO (some ⟨b_1, 0, none⟩) + i_2.toNat * 1)) (s := 1) (agg := false) (vs := (encU32 x_5)) (by kernel_rfl) (by kernel_rfl) (.inr rfl) ((hm.ow 0 (some b_1) 89 a0.1 [] (fun e => nomatch e) encU32_len).at hx_37)) ?_)
    obtain ⟨x_6, hx_38, h⟩ := bd h
    refine qv 4 0 [0, 1] (fun w hm => idx_run (a := (some ⟨b_2, 0, none⟩)) (len := 96) (s := 1) (j := i_2) (by kernel_rfl) (ix_some hx_38).1 (ltn hx_38 b1.2) rfl) (qv 5 0 [0, 1] (fun w hm => ld_run (b := aB (some ⟨b_2, 0, none⟩)) (off := (aO (some ⟨b_2, 0, none⟩) + i_2.toNat * 1)) (s := 1) (agg := false) (vs := (encU32 x_6)) (by kernel_rfl) (by kernel_rfl) (.inr rfl) ((hm.ow 1 (some b_2) 89 b1.1 [] (fun e => nomatch e) encU32_len).at hx_38)) (qd [⟨6, 0, 0⟩] 0 [0, 1] (qz (jx_then (qi h (fun h => ?_) (fun h => ?_))))))
    ·refine jc_seq (jc_region (qh [0] (qe (jx_then (jc_ret (jx_inr (jx_thenr (jx_leaver (.inl false) (Option.some.inj h).symm (fun e_40 => ?_)))))))))
     subst e_40
     refine jx_inr (jx_thenr (jx_thenr ?_))
     obtain rfl := Option.some.inj hr_33
     exact qr [] (fun w hm => ⟨rfl, hm.pk []⟩)
    ·exact jc_skip (jx_inn (jx_then (jc_region (qh [0,0,0] (qe (qb (w64 (i_2 + 1)) () h trivial [0, 1]))))))
   ·refine jc_exit (jx_thenx (jx_leave (.inr ()) (Option.some.inj h).symm (fun e_41 => ?_)))
    subst e_41
    exact jx_ine (qm () hr_33 [0, 1])
  ·rintro _ h
   replace h : laws_eqDrum.k_1 = some r := h
   rw [laws_eqDrum.k_1] at h
   refine jx_then (jc_seq (jc_region (qh [0] (qe (jx_then (jc_ret ?_))))))
   obtain rfl := Option.some.inj h
   exact qr [] (fun w hm => ⟨rfl, hm.pk []⟩)
/-! ### laws.eqDrumS -/
def laws_eqDrumS.k_1 : Option (Bool) := some true
def laws_eqDrumS.l_3 (a0 : List (Arr 96 Int)) (b1 : List (Arr 96 Int)) : Int → Option ((Int) ⊕ (Bool ⊕ Unit))
  | i_2 => (if (decide (i_2 < (a0.length : Int))) = true then (ix a0 i_2).bind fun x_5 => (ix b1 i_2).bind fun x_6 => (laws_eqDrum x_5 x_6).bind fun t_7 => (if (!t_7) = true then some (.inr (.inl false)) else some (.inl (w64 (i_2 + 1)))) else some (.inr (.inr ())))
def laws_eqDrumS (a0 : List (Arr 96 Int)) (b1 : List (Arr 96 Int)) : Option (Bool) := (if ((a0.length : Int) != (b1.length : Int)) = true then some false else (loop (laws_eqDrumS.l_3 a0 b1) 0).bind fun t_4 => match t_4 with | .inl p => some p | .inr p => laws_eqDrumS.k_1)
theorem laws_eqDrumS.calls (a0 : List (Arr 96 Int)) (b1 : List (Arr 96 Int)) (w : World) (r : Bool) {A_a : Option Addr} {A_an : Nat} (A_c : Nat) (A_h : Rw w A_a 96 encA96U32 a0) (A_hn : a0.length = A_an) {B_a : Option Addr} {B_an : Nat} (B_c : Nat) (B_h : Rw w B_a 96 encA96U32 b1) (B_hn : b1.length = B_an) (h : laws_eqDrumS a0 b1 = some r) :
    Calls Try.prog 18 #[(.slice A_a A_an A_c), (.slice B_a B_an B_c)] w fun e w' => ∃ v, e = .returned v ∧ (v = (.bool r) ∧ Mem w [] [] w') := by
  subst A_hn B_hn
  rw [laws_eqDrumS] at h
  refine enter (args := [(.slice A_a a0.length A_c), (.slice B_a b1.length B_c)]) Try.func18 rfl Try.ntmps18 (by kernel_rfl) (L := []) (W := []) (Mem.start w) ?_
  refine jc_seq (jc_region (qh [0] (qe (jx_then (jc_seq (jc_seq (jc_region (qh [0,0,0,0,0] (qe (jx_then (qi h (fun h => ?_) (fun h => ?_))))))))))))
  ·refine jc_seq (jc_region (qh [0] (qe (jx_then (jc_ret (jx_thenr ?_))))))
   obtain rfl := Option.some.inj h
   exact qr [] (fun w hm => ⟨rfl, hm.pk []⟩)
  ·refine jc_skip (jx_then (jc_seq (jc_seq (jc_region (qh [0] (qe (jx_then (jc_meet (fun (_ : Unit) => laws_eqDrumS.k_1 = some r) (fun (_ : Unit) => [(4, [], (.bool false))]) (fun (_ : Unit) => []) ?_ ?_))))))))
   ·refine jc_block ?_
    obtain ⟨t_4, ht_48, hr_38⟩ := bd h
    refine jc_loop (fun (s : Int) (x : Unit) => match s, x with | i_2, _ => True) (fun (s : Int) (x : Unit) => match s, x with | i_2, _ => [(0, [], (.slice A_a a0.length A_c)), (1, [], (.slice B_a b1.length B_c)), (4, [], (.bool false)), (5, [], (.int .i64 i_2))]) (fun (s : Int) (x : Unit) => match s, x with | i_2, _ => []) ht_48 () trivial (by kernel_rfl) [] (by kernel_rfl) (by kernel_rfl) ?_
    rintro i_2 _ y_39 _ h
    rw [laws_eqDrumS.l_3] at h
    refine jc_seq (jc_seq (jc_region (qh [0,0,0,0] (qe (jx_then (qi h (fun h => ?_) (fun h => ?_)))))))
    ·refine jc_skip (jx_then (jc_seq (jc_block (jc_seq (qg [] 10 (qd [⟨0, 0, 0⟩,⟨1, 0, 0⟩,⟨4, 0, 0⟩,⟨5, 0, 0⟩] 6 [] ?_))))))
     obtain ⟨x_5, hx_42, h⟩ := bd h
     refine qv 2 0 [] (fun w hm => idx_run (a := A_a) (len := a0.length) (s := 96) (j := i_2) (by kernel_rfl) (ix_some hx_42).1 (ltn hx_42 rfl) (A_h.sp hx_42)) (qv 3 0 [] (fun w hm => ld_run (b := aB A_a) (off := (aO A_a + i_2.toNat * 96)) (s := 96) (agg := true) (vs := (encA96U32 x_5)) (by kernel_rfl) (encA96U32_len x_5) (.inl rfl) ((hm.xr A_h).at hx_42)) ?_)
     obtain ⟨x_6, hx_43, h⟩ := bd h
     refine qv 6 0 [] (fun w hm => idx_run (a := B_a) (len := b1.length) (s := 96) (j := i_2) (by kernel_rfl) (ix_some hx_43).1 (ltn hx_43 rfl) (B_h.sp hx_43)) (qv 7 0 [] (fun w hm => ld_run (b := aB B_a) (off := (aO B_a + i_2.toNat * 96)) (s := 96) (agg := true) (vs := (encA96U32 x_6)) (by kernel_rfl) (encA96U32_len x_6) (.inl rfl) ((hm.xr B_h).at hx_43)) ?_)
     obtain ⟨t_7, ht_44, h⟩ := bd h
     refine tD 8 (pc 0 (fun w hm => laws_eqDrum.calls x_5 x_6 w _ ht_44) ?_)
     rintro w v w' hm ⟨rfl, hm'⟩
     refine ⟨_, hm.app hm', kD [] ?_⟩
     clear hm hm'
     refine qd [⟨9, 0, 0⟩] 0 [] (qz (jx_then (qi h (fun h => ?_) (fun h => ?_))))
     ·refine jc_seq (jc_region (qh [0] (qe (jx_then (jc_ret (jx_inr (jx_thenr (jx_leaver (.inl false) (Option.some.inj h).symm (fun e_46 => ?_)))))))))
      subst e_46
      refine jx_inr (jx_thenr (jx_thenr ?_))
      obtain rfl := Option.some.inj hr_38
      exact qr [] (fun w hm => ⟨rfl, hm.pk []⟩)
     ·exact jc_skip (jx_inn (jx_then (jc_region (qh [0,0,0] (qe (qb (w64 (i_2 + 1)) () h trivial []))))))
    ·refine jc_exit (jx_thenx (jx_leave (.inr ()) (Option.some.inj h).symm (fun e_47 => ?_)))
     subst e_47
     exact jx_ine (qm () hr_38 [])
   ·rintro _ h
    replace h : laws_eqDrumS.k_1 = some r := h
    rw [laws_eqDrumS.k_1] at h
    refine jx_then (jc_seq (jc_region (qh [0] (qe (jx_then (jc_ret ?_))))))
    obtain rfl := Option.some.inj h
    exact qr [] (fun w hm => ⟨rfl, hm.pk []⟩)
end

end Go.Proofs.Ytbclghgbnnlbjaa
