/- Functions of the program that the laws reach: a plain function each, and that the call comes to its answer if the plain function has one. Printed by a program. -/
import Derived.Test.YteedohcicmgkaaaT
import Derived.Test.YteedohcicmgkaaaSeg
import Derived.Test.YteedohcicmgkaaaM0
namespace Go.Proofs.Yteedohcicmgkaaa
open Eng
set_option linter.unusedVariables false

set_option linter.unusedSectionVars false
set_option maxRecDepth 100000
variable [dsW : DrwS]
noncomputable section
/-! ### (*impl.pinner).pin -/
def impl_pinner_pin.k_12 (p0 : Gpinner) (i_3 : Int) (a_4 : Arr 96 Int) (i_5 : Int) (i_6 : Int) (q_7 : Bool) (q_8 : Bool) (i_9 : Int) (a_10 : Arr 96 Int) (q_11 : Bool) : Option (Gpinner) := some (⟨(⟨i_3, p0.ff.fHammers⟩ : GFrame), p0.ft, a_4, i_5, i_6, q_7, q_8, i_9, a_10, q_11⟩ : Gpinner)
def impl_pinner_pin.k_28 (self_ : Gpinner → (Arr 96 Int) → Int → Int → Option (Gpinner)) (p0 : Gpinner) (k2 : Int) (x_1 : GNote) (i_13 : Int) (a_14 : Arr 96 Int) (i_15 : Int) (i_16 : Int) (q_17 : Bool) (q_18 : Bool) (i_19 : Int) (a_20 : Arr 96 Int) (q_21 : Bool) (i_22 : Int) (x_25 : Int) (a_26 : Arr 96 Int) (i_27 : Int) : Option ((Int × (Arr 96 Int) × Int × Int × Bool × Bool × Int × (Arr 96 Int) × Bool × Int) ⊕ (Gpinner ⊕ (Int × (Arr 96 Int) × Int × Int × Bool × Bool × Int × (Arr 96 Int) × Bool))) := (impl_Drum_put a_26 (w64 x_1.fAt) x_25 true).bind fun t_29 => (if ((q_21 && q_18) && (decide (i_27 ≥ i_19))) = true then some (.inl (i_13, a_14, i_15, (w64 (i_16 + 1)), q_17, q_18, i_19, a_20, q_21, (w64 (i_22 + 1)))) else (self_ (⟨(⟨i_13, p0.ff.fHammers⟩ : GFrame), p0.ft, a_14, i_15, (w64 (i_16 + 1)), q_17, q_18, i_19, a_20, q_21⟩ : Gpinner) t_29 (w64 (k2 + 1)) i_27).bind fun t_30 => (if t_30.fover = true then some (.inr (.inl (⟨(⟨t_30.ff.fSteps, p0.ff.fHammers⟩ : GFrame), p0.ft, t_30.fold, t_30.fbudget, t_30.ftries, t_30.fover, t_30.ffound, t_30.fmost, t_30.fbest, t_30.fall⟩ : Gpinner))) else (if (t_30.ffound && (!t_30.fall)) = true then some (.inr (.inl (⟨(⟨t_30.ff.fSteps, p0.ff.fHammers⟩ : GFrame), p0.ft, t_30.fold, t_30.fbudget, t_30.ftries, t_30.fover, t_30.ffound, t_30.fmost, t_30.fbest, t_30.fall⟩ : Gpinner))) else some (.inl (t_30.ff.fSteps, t_30.fold, t_30.fbudget, t_30.ftries, t_30.fover, t_30.ffound, t_30.fmost, t_30.fbest, t_30.fall, (w64 (i_22 + 1)))))))
def impl_pinner_pin.l_23 (self_ : Gpinner → (Arr 96 Int) → Int → Int → Option (Gpinner)) (p0 : Gpinner) (d1 : Arr 96 Int) (k2 : Int) (fresh3 : Int) (x_1 : GNote) (t_2 : (List Int)) : (Int × (Arr 96 Int) × Int × Int × Bool × Bool × Int × (Arr 96 Int) × Bool × Int) → Option ((Int × (Arr 96 Int) × Int × Int × Bool × Bool × Int × (Arr 96 Int) × Bool × Int) ⊕ (Gpinner ⊕ (Int × (Arr 96 Int) × Int × Int × Bool × Bool × Int × (Arr 96 Int) × Bool)))
  | (i_13, a_14, i_15, i_16, q_17, q_18, i_19, a_20, q_21, i_22) => (if (decide (i_22 < (t_2.length : Int))) = true then (ix t_2 i_22).bind fun x_25 => (if (i_16 == i_15) = true then some (.inr (.inl (⟨(⟨i_13, p0.ff.fHammers⟩ : GFrame), p0.ft, a_14, i_15, i_16, true, q_18, i_19, a_20, q_21⟩ : Gpinner))) else (impl_Drum_has a_14 (w64 x_1.fAt) x_25).bind fun t_31 => (impl_bit (!t_31)).bind fun t_32 => impl_pinner_pin.k_28 self_ p0 k2 x_1 i_13 a_14 i_15 i_16 q_17 q_18 i_19 a_20 q_21 i_22 x_25 d1 (w64 (fresh3 + t_32))) else some (.inr (.inr (i_13, a_14, i_15, i_16, q_17, q_18, i_19, a_20, q_21))))
def impl_pinner_pin.step (self_ : Gpinner → (Arr 96 Int) → Int → Int → Option (Gpinner)) (p0 : Gpinner) (d1 : Arr 96 Int) (k2 : Int) (fresh3 : Int) : Option (Gpinner) := (if (k2 == (p0.ft.length : Int)) = true then some (⟨(⟨p0.ff.fSteps, p0.ff.fHammers⟩ : GFrame), p0.ft, p0.fold, p0.fbudget, p0.ftries, p0.fover, true, fresh3, d1, p0.fall⟩ : Gpinner) else (ix p0.ft k2).bind fun x_1 => (impl_Frame_freeTracks (⟨p0.ff.fSteps, p0.ff.fHammers⟩ : GFrame) d1 (w64 x_1.fAt) (w64 x_1.fPitch)).bind fun t_2 => (loop (impl_pinner_pin.l_23 self_ p0 d1 k2 fresh3 x_1 t_2) (p0.ff.fSteps, p0.fold, p0.fbudget, p0.ftries, p0.fover, p0.ffound, p0.fmost, p0.fbest, p0.fall, 0)).bind fun t_24 => match t_24 with | .inl p => some p | .inr p => impl_pinner_pin.k_12 p0 p.1 p.2.1 p.2.2.1 p.2.2.2.1 p.2.2.2.2.1 p.2.2.2.2.2.1 p.2.2.2.2.2.2.1 p.2.2.2.2.2.2.2.1 p.2.2.2.2.2.2.2.2)
def impl_pinner_pin.rec_ : Nat → Gpinner → (Arr 96 Int) → Int → Int → Option (Gpinner)
  | 0 => fun p0 d1 k2 fresh3 => none
  | fu + 1 => impl_pinner_pin.step (impl_pinner_pin.rec_ fu)
def impl_pinner_pin (p0 : Gpinner) (d1 : Arr 96 Int) (k2 : Int) (fresh3 : Int) : Option (Gpinner) := impl_pinner_pin.rec_ 200 p0 d1 k2 fresh3
set_option maxHeartbeats 8000000 in
theorem impl_pinner_pin.step_calls (self_ : Gpinner → (Arr 96 Int) → Int → Int → Option (Gpinner)) (hself : ∀ (p0 : Gpinner) (d1 : Arr 96 Int) (k2 : Int) (fresh3 : Int) (w : World) (r : Gpinner) {D_a : Option Addr} {D_an : Nat} (D_c : Nat) (D_h : Rw w D_a 2 encGHammer p0.ff.fHammers) (D_hn : p0.ff.fHammers.length = D_an) {E_a : Option Addr} {E_an : Nat} (E_c : Nat) (E_h : Rw w E_a 2 encGNote p0.ft) (E_hn : p0.ft.length = E_an) (A_b : Nat) (hm0 : Mem w (bs [some A_b]) [⟨some A_b, 172, ((.int .i16 p0.ff.fSteps) :: (.slice D_a D_an D_c) :: (.slice E_a E_an E_c) :: (seg (Value.int .u32) 96 p0.fold.1 ((.int .i64 p0.fbudget) :: (.int .i64 p0.ftries) :: (.bool p0.fover) :: (.bool p0.ffound) :: (.int .i64 p0.fmost) :: (seg (Value.int .u32) 96 p0.fbest.1 [(.bool p0.fall)]))))⟩] w) (D_ha : p0.ff.fHammers ≠ [] → aB D_a ∉ bs [some A_b]) (E_ha : p0.ft ≠ [] → aB E_a ∉ bs [some A_b]) (h : self_ p0 d1 k2 fresh3 = some r),
    Calls Try.prog 117 #[(.pointer (some ⟨A_b, 0, none⟩)), (.agg (row encU32 d1.1 []).toArray), (.int .i64 k2), (.int .i64 fresh3)] w fun e w' => ∃ v, e = .returned v ∧ (v = .tuple #[] ∧ Mem w (bs [some A_b]) [⟨some A_b, 172, ((.int .i16 r.ff.fSteps) :: (.slice D_a D_an D_c) :: (.slice E_a E_an E_c) :: (seg (Value.int .u32) 96 r.fold.1 ((.int .i64 r.fbudget) :: (.int .i64 r.ftries) :: (.bool r.fover) :: (.bool r.ffound) :: (.int .i64 r.fmost) :: (seg (Value.int .u32) 96 r.fbest.1 [(.bool r.fall)]))))⟩] w')) (p0 : Gpinner) (d1 : Arr 96 Int) (k2 : Int) (fresh3 : Int) (w : World) (r : Gpinner) {D_a : Option Addr} {D_an : Nat} (D_c : Nat) (D_h : Rw w D_a 2 encGHammer p0.ff.fHammers) (D_hn : p0.ff.fHammers.length = D_an) {E_a : Option Addr} {E_an : Nat} (E_c : Nat) (E_h : Rw w E_a 2 encGNote p0.ft) (E_hn : p0.ft.length = E_an) (A_b : Nat) (hm0 : Mem w (bs [some A_b]) [⟨some A_b, 172, ((.int .i16 p0.ff.fSteps) :: (.slice D_a D_an D_c) :: (.slice E_a E_an E_c) :: (seg (Value.int .u32) 96 p0.fold.1 ((.int .i64 p0.fbudget) :: (.int .i64 p0.ftries) :: (.bool p0.fover) :: (.bool p0.ffound) :: (.int .i64 p0.fmost) :: (seg (Value.int .u32) 96 p0.fbest.1 [(.bool p0.fall)]))))⟩] w) (D_ha : p0.ff.fHammers ≠ [] → aB D_a ∉ bs [some A_b]) (E_ha : p0.ft ≠ [] → aB E_a ∉ bs [some A_b]) (h : impl_pinner_pin.step self_ p0 d1 k2 fresh3 = some r) :
    Calls Try.prog 117 #[(.pointer (some ⟨A_b, 0, none⟩)), (.agg (row encU32 d1.1 []).toArray), (.int .i64 k2), (.int .i64 fresh3)] w fun e w' => ∃ v, e = .returned v ∧ (v = .tuple #[] ∧ Mem w (bs [some A_b]) [⟨some A_b, 172, ((.int .i16 r.ff.fSteps) :: (.slice D_a D_an D_c) :: (.slice E_a E_an E_c) :: (seg (Value.int .u32) 96 r.fold.1 ((.int .i64 r.fbudget) :: (.int .i64 r.ftries) :: (.bool r.fover) :: (.bool r.ffound) :: (.int .i64 r.fmost) :: (seg (Value.int .u32) 96 r.fbest.1 [(.bool r.fall)]))))⟩] w') := by
  subst D_hn E_hn
  rw [impl_pinner_pin.step] at h
  refine enter (args := [(.pointer (some ⟨A_b, 0, none⟩)), (.agg (row encU32 d1.1 []).toArray), (.int .i64 k2), (.int .i64 fresh3)]) Try.func117 rfl Try.ntmps117 (by kernel_rfl) (L := [⟨some A_b, 172, ((.int .i16 p0.ff.fSteps) :: (.slice D_a p0.ff.fHammers.length D_c) :: (.slice E_a p0.ft.length E_c) :: (seg (Value.int .u32) 96 p0.fold.1 ((.int .i64 p0.fbudget) :: (.int .i64 p0.ftries) :: (.bool p0.fover) :: (.bool p0.ffound) :: (.int .i64 p0.fmost) :: (seg (Value.int .u32) 96 p0.fbest.1 [(.bool p0.fall)]))))⟩]) (W := bs [some A_b]) hm0 ?_
  refine jc_seq (jc_region (tO (qa 0 (fun b_1 => jkO (qe (jx_then (jc_seq (jc_seq (jc_region (qh [0,0,0,0,0,0,0] (qe (jx_then (qi h (fun h => ?_) (fun h => ?_))))))))))))))
  ·refine jc_seq (jc_region (qh [0,0,0] (tO (p_ldA 0 1 b_1 96 1 88 encU32 d1 (by kernel_rfl) (by kernel_rfl) (by kernel_rfl) encU32_len (by kernel_rfl) (jkO (qh [0,0,0] (tO (p_stS 0 0 A_b 104 (Value.int .u32) (enc := encU32) (fun _ => rfl) encU32_cell p0.fbest d1 (jkO (qh [0,0] (tO (qs 0 [0] (jkO (qh [0,0] (tO (qs 0 [0] (jkO (qe (jx_then (jc_ret (jx_thenr ?_)))))))))))))))))))))
   obtain rfl := Option.some.inj h
   exact qr [] (fun w hm => ⟨rfl, hm.pk [0]⟩)
  ·refine jc_skip (jx_then (jc_seq (jc_region (qh [0,0,0,0,0] ?_))))
   obtain ⟨x_1, hx_4, h⟩ := bd h
   refine tO (qx 0 E_a 2 hx_4 rfl (E_h.sp hx_4) (jkO (tO (ql 0 true (fun w hm => ((hm.exRowW E_h E_ha).at hx_4)) (jkO (tO (qa 0 (fun b_5 => jkO (tO (qs 0 [2] (jkO (qe (jx_then (jc_seq (qg [⟨some A_b, 172, ((.int .i16 p0.ff.fSteps) :: (.slice D_a p0.ff.fHammers.length D_c) :: (.slice E_a p0.ft.length E_c) :: (seg (Value.int .u32) 96 p0.fold.1 ((.int .i64 p0.fbudget) :: (.int .i64 p0.ftries) :: (.bool p0.fover) :: (.bool p0.ffound) :: (.int .i64 p0.fmost) :: (seg (Value.int .u32) 96 p0.fbest.1 [(.bool p0.fall)]))))⟩, ⟨(some b_1), 88, row encU32 d1.1 []⟩, ⟨some b_5, 104, [(.int .i16 x_1.fAt), (.int .i8 x_1.fPitch)]⟩] 13 (qd [⟨0, 0, 0⟩,⟨1, 0, 0⟩,⟨2, 0, 0⟩,⟨3, 0, 0⟩,⟨4, 0, 0⟩,⟨5, 2, 0⟩,⟨6, 0, 0⟩,⟨7, 0, 0⟩,⟨8, 2, 0⟩,⟨9, 0, 0⟩,⟨12, 0, 0⟩] 2 [0, 1, 2] ?_))))))))))))))))
   obtain ⟨t_2, ht_6, h⟩ := bd h
   refine tD 10 (pc 0 (fun w hm => impl_Frame_freeTracks.calls (⟨p0.ff.fSteps, p0.ff.fHammers⟩ : GFrame) d1 (w64 x_1.fAt) (w64 x_1.fPitch) w _ D_c (hm.exRowW D_h D_ha) rfl (hm.ow 1 (some b_1) 88 d1.1 [] (fun e => nomatch e) encU32_len) ht_6) ?_)
   rintro w v w' hm ⟨o_7, cap_8, sp_9, _, rfl, hs_10, ho_11, rfl, hm'⟩
   refine ⟨_, hm.app hm', kD [0, 1, 2] ?_⟩
   clear hm hm'
   refine qd [⟨11, 0, 0⟩] 0 [0, 1, 2] (qz (jx_then (jc_meet (fun (j : Int × (Arr 96 Int) × Int × Int × Bool × Bool × Int × (Arr 96 Int) × Bool) => match j with | ⟨i_3, a_4, i_5, i_6, q_7, q_8, i_9, a_10, q_11⟩ => impl_pinner_pin.k_12 p0 i_3 a_4 i_5 i_6 q_7 q_8 i_9 a_10 q_11 = some r) (fun (j : Int × (Arr 96 Int) × Int × Int × Bool × Bool × Int × (Arr 96 Int) × Bool) => match j with | ⟨i_3, a_4, i_5, i_6, q_7, q_8, i_9, a_10, q_11⟩ => []) (fun (j : Int × (Arr 96 Int) × Int × Int × Bool × Bool × Int × (Arr 96 Int) × Bool) => match j with | ⟨i_3, a_4, i_5, i_6, q_7, q_8, i_9, a_10, q_11⟩ => [⟨some A_b, 172, ((.int .i16 i_3) :: (.slice D_a p0.ff.fHammers.length D_c) :: (.slice E_a p0.ft.length E_c) :: (seg (Value.int .u32) 96 a_4.1 ((.int .i64 i_5) :: (.int .i64 i_6) :: (.bool q_7) :: (.bool q_8) :: (.int .i64 i_9) :: (seg (Value.int .u32) 96 a_10.1 [(.bool q_11)]))))⟩, ⟨(some b_1), 88, row encU32 d1.1 []⟩, ⟨some b_5, 104, [(.int .i16 x_1.fAt), (.int .i8 x_1.fPitch)]⟩, ⟨o_7, 2, row encI64 t_2 sp_9⟩]) ?_ ?_)))
   ·refine jc_block ?_
    obtain ⟨t_24, ht_199, hr_164⟩ := bd h
    refine jc_loop (fun (s : Int × (Arr 96 Int) × Int × Int × Bool × Bool × Int × (Arr 96 Int) × Bool × Int) (x : Unit) => match s, x with | ⟨i_13, a_14, i_15, i_16, q_17, q_18, i_19, a_20, q_21, i_22⟩, _ => True) (fun (s : Int × (Arr 96 Int) × Int × Int × Bool × Bool × Int × (Arr 96 Int) × Bool × Int) (x : Unit) => match s, x with | ⟨i_13, a_14, i_15, i_16, q_17, q_18, i_19, a_20, q_21, i_22⟩, _ => [(0, [], (.pointer (some ⟨A_b, 0, none⟩))), (2, [], (.int .i64 k2)), (3, [], (.int .i64 fresh3)), (5, [], (.pointer (some ⟨b_1, 0, none⟩))), (8, [], (.pointer (some ⟨b_5, 0, none⟩))), (48, [], (.slice (o_7.map fun b => ⟨b, 0, none⟩) t_2.length cap_8)), (49, [], (.int .i64 (t_2.length : Int))), (50, [], (.int .i64 i_22))]) (fun (s : Int × (Arr 96 Int) × Int × Int × Bool × Bool × Int × (Arr 96 Int) × Bool × Int) (x : Unit) => match s, x with | ⟨i_13, a_14, i_15, i_16, q_17, q_18, i_19, a_20, q_21, i_22⟩, _ => [⟨some A_b, 172, ((.int .i16 i_13) :: (.slice D_a p0.ff.fHammers.length D_c) :: (.slice E_a p0.ft.length E_c) :: (seg (Value.int .u32) 96 a_14.1 ((.int .i64 i_15) :: (.int .i64 i_16) :: (.bool q_17) :: (.bool q_18) :: (.int .i64 i_19) :: (seg (Value.int .u32) 96 a_20.1 [(.bool q_21)]))))⟩, ⟨(some b_1), 88, row encU32 d1.1 []⟩, ⟨some b_5, 104, [(.int .i16 x_1.fAt), (.int .i8 x_1.fPitch)]⟩, ⟨o_7, 2, row encI64 t_2 sp_9⟩]) ht_199 () trivial (by kernel_rfl) [0, 1, 2, 3] (by kernel_rfl) (by kernel_rfl) ?_
    rintro ⟨i_13, a_14, i_15, i_16, q_17, q_18, i_19, a_20, q_21, i_22⟩ _ y_165 _ h
    rw [impl_pinner_pin.l_23] at h
    refine jc_seq (jc_region (qh [0] (qe (jx_then (jc_seq (qi h (fun h => ?_) (fun h => ?_)))))))
    ·refine jc_skip (jx_then (jc_seq (jc_block (jc_seq (jc_region ?_)))))
     obtain ⟨x_25, hx_168, h⟩ := bd h
     refine tO (qx 0 (o_7.map fun b => ⟨b, 0, none⟩) 1 hx_168 rfl (spo ho_11 hx_168) (jkO (tO (ql 0 false (fun w hm => ((hm.ow 3 o_7 2 t_2 sp_9 (fun e => (ho_11 e).1) encI64_len).at hx_168)) (jkO (qh [0] (qe (jx_then (jc_seq (jc_seq (qg [⟨some A_b, 172, ((.int .i16 i_13) :: (.slice D_a p0.ff.fHammers.length D_c) :: (.slice E_a p0.ft.length E_c) :: (seg (Value.int .u32) 96 a_14.1 ((.int .i64 i_15) :: (.int .i64 i_16) :: (.bool q_17) :: (.bool q_18) :: (.int .i64 i_19) :: (seg (Value.int .u32) 96 a_20.1 [(.bool q_21)]))))⟩, ⟨(some b_1), 88, row encU32 d1.1 []⟩, ⟨some b_5, 104, [(.int .i16 x_1.fAt), (.int .i8 x_1.fPitch)]⟩, ⟨o_7, 2, row encI64 t_2 sp_9⟩] 9 (qd [⟨0, 0, 0⟩,⟨1, 0, 0⟩,⟨2, 0, 0⟩,⟨3, 0, 0⟩,⟨4, 0, 0⟩,⟨5, 0, 0⟩,⟨6, 0, 0⟩,⟨7, 0, 0⟩,⟨8, 0, 0⟩] 0 [0, 1, 2, 3] (qz (jx_then (qi h (fun h => ?_) (fun h => ?_))))))))))))))))
     ·refine jc_seq (jc_region (qh [0,0,0] (tO (qs 0 [0] (jkO (qe (jx_then (jc_ret (jx_thenr (jx_inr (jx_thenr (jx_leaver (.inl (⟨(⟨i_13, p0.ff.fHammers⟩ : GFrame), p0.ft, a_14, i_15, i_16, true, q_18, i_19, a_20, q_21⟩ : Gpinner)) (Option.some.inj h).symm (fun e_171 => ?_)))))))))))))
      subst e_171
      refine jx_inr (jx_thenr ?_)
      obtain rfl := Option.some.inj hr_164
      exact qr [] (fun w hm => ⟨rfl, hm.pk [0]⟩)
     ·refine jc_skip (jx_then (jc_seq (jc_region (qh [0,0,0,0,0,0,0] (tO (qs 0 [0] (jkO (qe (jx_then (jc_seq (jc_meet (fun (j : (Arr 96 Int) × Int × Nat) => match j with | ⟨a_26, i_27, b_180⟩ => impl_pinner_pin.k_28 self_ p0 k2 x_1 i_13 a_14 i_15 i_16 q_17 q_18 i_19 a_20 q_21 i_22 x_25 a_26 i_27 = some y_165) (fun (j : (Arr 96 Int) × Int × Nat) => match j with | ⟨a_26, i_27, b_180⟩ => [(0, [], (.pointer (some ⟨A_b, 0, none⟩))), (2, [], (.int .i64 k2)), (3, [], (.int .i64 fresh3)), (5, [], (.pointer (some ⟨b_1, 0, none⟩))), (8, [], (.pointer (some ⟨b_5, 0, none⟩))), (10, [], (.int .i64 x_25)), (11, [], (.pointer (some ⟨b_180, 0, none⟩))), (12, [], (.int .i64 i_27)), (48, [], (.slice (o_7.map fun b => ⟨b, 0, none⟩) t_2.length cap_8)), (49, [], (.int .i64 (t_2.length : Int))), (50, [], (.int .i64 i_22))]) (fun (j : (Arr 96 Int) × Int × Nat) => match j with | ⟨a_26, i_27, b_180⟩ => [⟨some A_b, 172, ((.int .i16 i_13) :: (.slice D_a p0.ff.fHammers.length D_c) :: (.slice E_a p0.ft.length E_c) :: (seg (Value.int .u32) 96 a_14.1 ((.int .i64 i_15) :: (.int .i64 (w64 (i_16 + 1))) :: (.bool q_17) :: (.bool q_18) :: (.int .i64 i_19) :: (seg (Value.int .u32) 96 a_20.1 [(.bool q_21)]))))⟩, ⟨(some b_1), 88, row encU32 d1.1 []⟩, ⟨some b_5, 104, [(.int .i16 x_1.fAt), (.int .i8 x_1.fPitch)]⟩, ⟨o_7, 2, row encI64 t_2 sp_9⟩, ⟨(some b_180), 88, row encU32 a_26.1 []⟩]) ?_ ?_)))))))))))
      ·refine qg [⟨some A_b, 172, ((.int .i16 i_13) :: (.slice D_a p0.ff.fHammers.length D_c) :: (.slice E_a p0.ft.length E_c) :: (seg (Value.int .u32) 96 a_14.1 ((.int .i64 i_15) :: (.int .i64 (w64 (i_16 + 1))) :: (.bool q_17) :: (.bool q_18) :: (.int .i64 i_19) :: (seg (Value.int .u32) 96 a_20.1 [(.bool q_21)]))))⟩, ⟨(some b_1), 88, row encU32 d1.1 []⟩, ⟨some b_5, 104, [(.int .i16 x_1.fAt), (.int .i8 x_1.fPitch)]⟩, ⟨o_7, 2, row encI64 t_2 sp_9⟩] 16 (qd [⟨1, 0, 0⟩,⟨2, 0, 0⟩,⟨3, 0, 0⟩,⟨4, 0, 0⟩,⟨5, 0, 0⟩,⟨6, 2, 0⟩,⟨7, 0, 0⟩,⟨8, 0, 0⟩] 8 [0, 1, 2, 3] (qv 0 0 [0, 1, 2, 3] (fun w hm => ld_run (b := b_1) (off := 0) (s := 96) (agg := true) (vs := row encU32 d1.1 []) (by kernel_rfl) ((row_len encU32_len d1).trans rfl) (.inl rfl) (hm.all (hh := 1) (T := 88) (by kernel_rfl))) (toD2 9 13 (by kernel_rfl) ?_ ?_)))
       ·obtain ⟨t_31, ht_190, h⟩ := bd h
        refine pc 0 (fun w hm => impl_Drum_has.calls a_14 (w64 x_1.fAt) x_25 w _ (hm.segRow 0 A_b 3 (Value.int .u32) (enc := encU32) (fun _ => rfl) a_14) ht_190) ?_
        rintro w v w' hm ⟨rfl, hm'⟩
        refine ⟨_, hm.app hm', kD [0, 1, 2, 3] ?_⟩
        clear hm hm'
        refine qd [⟨10, 0, 0⟩] 5 [0, 1, 2, 3] (toD2 11 13 (by kernel_rfl) ?_ ?_)
        ·obtain ⟨t_32, ht_191, h⟩ := bd h
         refine pc 0 (fun w hm => impl_bit.calls (!t_31) w _ ht_191) ?_
         rintro w v w' hm ⟨rfl, hm'⟩
         refine ⟨_, hm.app hm', kD [0, 1, 2, 3] ?_⟩
         clear hm hm'
         exact qd [⟨12, 0, 0⟩] 3 [0, 1, 2, 3] (tD 13 (qa 0 (fun b_192 => kD [0, 1, 2, 3] (tD 14 (p_sA 0 4 b_192 96 1 88 encU32 (Arr.rep 96 0) d1 (by kernel_rfl) (by kernel_rfl) (by kernel_rfl) encU32_len encU32_cell (by kernel_rfl) (kD [0, 1, 2, 3] (qd [⟨15, 0, 0⟩] 0 [0, 1, 2, 3] (qz (qm ⟨d1, (w64 (fresh3 + t_32)), b_192⟩ h [0, 1, 2, 3, 4])))))))))
        ·refine qa 0 (fun b_193 => kD [0, 1, 2, 3] ?_)
         obtain ⟨t_32, ht_194, h⟩ := bd h
         refine tD 11 (pc 0 (fun w hm => impl_bit.calls (!t_31) w _ ht_194) ?_)
         rintro w v w' hm ⟨rfl, hm'⟩
         refine ⟨_, hm.app hm', kD [0, 1, 2, 3] ?_⟩
         clear hm hm'
         exact qd [⟨12, 0, 0⟩] 2 [0, 1, 2, 3] (tD 14 (p_sA 0 4 b_193 96 1 88 encU32 (Arr.rep 96 0) d1 (by kernel_rfl) (by kernel_rfl) (by kernel_rfl) encU32_len encU32_cell (by kernel_rfl) (kD [0, 1, 2, 3] (qd [⟨15, 0, 0⟩] 0 [0, 1, 2, 3] (qz (qm ⟨d1, (w64 (fresh3 + t_32)), b_193⟩ h [0, 1, 2, 3, 4]))))))
       ·refine qa 0 (fun b_195 => kD [0, 1, 2, 3] ?_)
        obtain ⟨t_31, ht_196, h⟩ := bd h
        refine tD 9 (pc 0 (fun w hm => impl_Drum_has.calls a_14 (w64 x_1.fAt) x_25 w _ (hm.segRow 0 A_b 3 (Value.int .u32) (enc := encU32) (fun _ => rfl) a_14) ht_196) ?_)
        rintro w v w' hm ⟨rfl, hm'⟩
        refine ⟨_, hm.app hm', kD [0, 1, 2, 3] ?_⟩
        clear hm hm'
        refine qd [⟨10, 0, 0⟩] 4 [0, 1, 2, 3] ?_
        obtain ⟨t_32, ht_197, h⟩ := bd h
        refine tD 11 (pc 0 (fun w hm => impl_bit.calls (!t_31) w _ ht_197) ?_)
        rintro w v w' hm ⟨rfl, hm'⟩
        refine ⟨_, hm.app hm', kD [0, 1, 2, 3] ?_⟩
        clear hm hm'
        exact qd [⟨12, 0, 0⟩] 2 [0, 1, 2, 3] (tD 14 (p_sA 0 4 b_195 96 1 88 encU32 (Arr.rep 96 0) d1 (by kernel_rfl) (by kernel_rfl) (by kernel_rfl) encU32_len encU32_cell (by kernel_rfl) (kD [0, 1, 2, 3] (qd [⟨15, 0, 0⟩] 0 [0, 1, 2, 3] (qz (qm ⟨d1, (w64 (fresh3 + t_32)), b_195⟩ h [0, 1, 2, 3, 4]))))))
      ·rintro ⟨a_26, i_27, b_180⟩ h
       replace h : impl_pinner_pin.k_28 self_ p0 k2 x_1 i_13 a_14 i_15 i_16 q_17 q_18 i_19 a_20 q_21 i_22 x_25 a_26 i_27 = some y_165 := h
       rw [impl_pinner_pin.k_28] at h
       refine jx_then (jc_seq (jc_region (qh [0,2,0,0] ?_)))
       obtain ⟨t_29, ht_181, h⟩ := bd h
       refine tO (pc 0 (fun w hm => impl_Drum_put.calls a_26 (w64 x_1.fAt) x_25 true w _ b_180 (hm.pass (N := [⟨(some b_180), 88, row encU32 a_26.1 []⟩]) [4] (by kernel_rfl) (by kernel_rfl)) ht_181) ?_)
       rintro w v w' hm ⟨rfl, hm'⟩
       refine ⟨_, hm.appW (ps := [(4, ⟨(some b_180), 88, row encU32 t_29.1 []⟩)]) (N := []) hm' (by kernel_rfl) (by kernel_rfl), jkO ?_⟩
       clear hm hm'
       refine qe (jx_then (jc_seq (jc_seq (jc_region (qf [(0, 0), (0, 0), (0, 0), (0, 0), (0, 0), (0, 1), (0, 1), (0, 1), (0, 1), (0, 0), (0, 0), (0, 1), (0, 1), (0, 1), (0, 1), (0, 1), (0, 1), (0, 0)] (qe (jx_then (qi h (fun h => ?_) (fun h => ?_)))))))))
       ·exact jc_exit (jx_thenx (jx_ine (jx_then (jc_region (qh [0,0] (qe (qb (i_13, a_14, i_15, (w64 (i_16 + 1)), q_17, q_18, i_19, a_20, q_21, (w64 (i_22 + 1))) () h trivial [0, 1, 2, 3])))))))
       ·refine jc_skip (jx_then (jc_seq (jc_region (qh [0] (tO (p_ldA 0 4 b_180 96 1 88 encU32 t_29 (by kernel_rfl) (by kernel_rfl) (by kernel_rfl) encU32_len (by kernel_rfl) (jkO (qh [0,0,0] ?_))))))))
        obtain ⟨t_30, ht_184, h⟩ := bd h
        refine tO (pc 0 (fun w hm => hself (⟨(⟨i_13, p0.ff.fHammers⟩ : GFrame), p0.ft, a_14, i_15, (w64 (i_16 + 1)), q_17, q_18, i_19, a_20, q_21⟩ : Gpinner) t_29 (w64 (k2 + 1)) i_27 w _ D_c (hm.exRowW D_h D_ha) rfl E_c (hm.exRowW E_h E_ha) rfl A_b (hm.pass (N := [⟨some A_b, 172, ((.int .i16 i_13) :: (.slice D_a p0.ff.fHammers.length D_c) :: (.slice E_a p0.ft.length E_c) :: (seg (Value.int .u32) 96 a_14.1 ((.int .i64 i_15) :: (.int .i64 (w64 (i_16 + 1))) :: (.bool q_17) :: (.bool q_18) :: (.int .i64 i_19) :: (seg (Value.int .u32) 96 a_20.1 [(.bool q_21)]))))⟩]) [0] (by kernel_rfl) (by kernel_rfl)) (hm.exApart (N := [⟨some A_b, 172, ((.int .i16 i_13) :: (.slice D_a p0.ff.fHammers.length D_c) :: (.slice E_a p0.ft.length E_c) :: (seg (Value.int .u32) 96 a_14.1 ((.int .i64 i_15) :: (.int .i64 (w64 (i_16 + 1))) :: (.bool q_17) :: (.bool q_18) :: (.int .i64 i_19) :: (seg (Value.int .u32) 96 a_20.1 [(.bool q_21)]))))⟩]) D_h D_ha [0] (by kernel_rfl)) (hm.exApart (N := [⟨some A_b, 172, ((.int .i16 i_13) :: (.slice D_a p0.ff.fHammers.length D_c) :: (.slice E_a p0.ft.length E_c) :: (seg (Value.int .u32) 96 a_14.1 ((.int .i64 i_15) :: (.int .i64 (w64 (i_16 + 1))) :: (.bool q_17) :: (.bool q_18) :: (.int .i64 i_19) :: (seg (Value.int .u32) 96 a_20.1 [(.bool q_21)]))))⟩]) E_h E_ha [0] (by kernel_rfl)) ht_184) ?_)
        rintro w v w' hm ⟨rfl, hm'⟩
        refine ⟨_, hm.appW (ps := [(0, ⟨some A_b, 172, ((.int .i16 t_30.ff.fSteps) :: (.slice D_a p0.ff.fHammers.length D_c) :: (.slice E_a p0.ft.length E_c) :: (seg (Value.int .u32) 96 t_30.fold.1 ((.int .i64 t_30.fbudget) :: (.int .i64 t_30.ftries) :: (.bool t_30.fover) :: (.bool t_30.ffound) :: (.int .i64 t_30.fmost) :: (seg (Value.int .u32) 96 t_30.fbest.1 [(.bool t_30.fall)]))))⟩)]) (N := []) hm' (by kernel_rfl) (by kernel_rfl), jkO ?_⟩
        clear hm hm'
        refine qe (jx_then (jc_seq (jc_region (qf [(0, 0), (0, 0), (0, 0), (0, 0), (0, 0), (0, 1), (0, 1), (0, 1), (0, 1)] (qp 119 h (fun h => ?_) (fun h => ?_))))))
        ·refine qf [(0, 3), (0, 3), (0, 3), (0, 3), (0, 3), (0, 3), (0, 3), (0, 4)] (qe (jx_then (jc_cond true (by kernel_rfl) (fun hc_186 => (jc_ret (jx_inr (jx_thenr (jx_leaver (.inl (⟨(⟨t_30.ff.fSteps, p0.ff.fHammers⟩ : GFrame), p0.ft, t_30.fold, t_30.fbudget, t_30.ftries, t_30.fover, t_30.ffound, t_30.fmost, t_30.fbest, t_30.fall⟩ : Gpinner)) (Option.some.inj h).symm (fun e_187 => ?_)))))) (fun hc_186 => nomatch hc_186))))
         subst e_187
         refine jx_inr (jx_thenr ?_)
         obtain rfl := Option.some.inj hr_164
         exact qr [] (fun w hm => ⟨rfl, hm.pk [0]⟩)
        ·refine qf [(0, 2), (0, 1), (0, 1), (0, 1), (0, 1), (0, 1), (0, 2), (0, 5)] (qe (jx_then (qi h (fun h => ?_) (fun h => ?_))))
         ·refine jc_ret (jx_inr (jx_thenr (jx_leaver (.inl (⟨(⟨t_30.ff.fSteps, p0.ff.fHammers⟩ : GFrame), p0.ft, t_30.fold, t_30.fbudget, t_30.ftries, t_30.fover, t_30.ffound, t_30.fmost, t_30.fbest, t_30.fall⟩ : Gpinner)) (Option.some.inj h).symm (fun e_189 => ?_))))
          subst e_189
          refine jx_inr (jx_thenr ?_)
          obtain rfl := Option.some.inj hr_164
          exact qr [] (fun w hm => ⟨rfl, hm.pk [0]⟩)
         ·exact jc_skip (jx_inn (jx_then (jc_region (qh [0,0] (qe (qb (t_30.ff.fSteps, t_30.fold, t_30.fbudget, t_30.ftries, t_30.fover, t_30.ffound, t_30.fmost, t_30.fbest, t_30.fall, (w64 (i_22 + 1))) () h trivial [0, 1, 2, 3]))))))
    ·refine jc_exit (jx_thenx (jx_leave (.inr (i_13, a_14, i_15, i_16, q_17, q_18, i_19, a_20, q_21)) (Option.some.inj h).symm (fun e_198 => ?_)))
     subst e_198
     exact jx_ine (qm ⟨i_13, a_14, i_15, i_16, q_17, q_18, i_19, a_20, q_21⟩ hr_164 [0, 1, 2, 3])
   ·rintro ⟨i_3, a_4, i_5, i_6, q_7, q_8, i_9, a_10, q_11⟩ h
    replace h : impl_pinner_pin.k_12 p0 i_3 a_4 i_5 i_6 q_7 q_8 i_9 a_10 q_11 = some r := h
    rw [impl_pinner_pin.k_12] at h
    refine jx_fall ?_
    obtain rfl := Option.some.inj h
    exact qr [] (fun w hm => ⟨rfl, hm.pk [0]⟩)
theorem impl_pinner_pin.rec_calls (fu : Nat) : ∀ (p0 : Gpinner) (d1 : Arr 96 Int) (k2 : Int) (fresh3 : Int) (w : World) (r : Gpinner) {D_a : Option Addr} {D_an : Nat} (D_c : Nat) (D_h : Rw w D_a 2 encGHammer p0.ff.fHammers) (D_hn : p0.ff.fHammers.length = D_an) {E_a : Option Addr} {E_an : Nat} (E_c : Nat) (E_h : Rw w E_a 2 encGNote p0.ft) (E_hn : p0.ft.length = E_an) (A_b : Nat) (hm0 : Mem w (bs [some A_b]) [⟨some A_b, 172, ((.int .i16 p0.ff.fSteps) :: (.slice D_a D_an D_c) :: (.slice E_a E_an E_c) :: (seg (Value.int .u32) 96 p0.fold.1 ((.int .i64 p0.fbudget) :: (.int .i64 p0.ftries) :: (.bool p0.fover) :: (.bool p0.ffound) :: (.int .i64 p0.fmost) :: (seg (Value.int .u32) 96 p0.fbest.1 [(.bool p0.fall)]))))⟩] w) (D_ha : p0.ff.fHammers ≠ [] → aB D_a ∉ bs [some A_b]) (E_ha : p0.ft ≠ [] → aB E_a ∉ bs [some A_b]) (h : impl_pinner_pin.rec_ fu p0 d1 k2 fresh3 = some r),
    Calls Try.prog 117 #[(.pointer (some ⟨A_b, 0, none⟩)), (.agg (row encU32 d1.1 []).toArray), (.int .i64 k2), (.int .i64 fresh3)] w fun e w' => ∃ v, e = .returned v ∧ (v = .tuple #[] ∧ Mem w (bs [some A_b]) [⟨some A_b, 172, ((.int .i16 r.ff.fSteps) :: (.slice D_a D_an D_c) :: (.slice E_a E_an E_c) :: (seg (Value.int .u32) 96 r.fold.1 ((.int .i64 r.fbudget) :: (.int .i64 r.ftries) :: (.bool r.fover) :: (.bool r.ffound) :: (.int .i64 r.fmost) :: (seg (Value.int .u32) 96 r.fbest.1 [(.bool r.fall)]))))⟩] w') := by
  induction fu with
  | zero => intros; rename_i h; cases h
  | succ fu ih => exact @impl_pinner_pin.step_calls _ (impl_pinner_pin.rec_ fu) @ih
theorem impl_pinner_pin.calls (p0 : Gpinner) (d1 : Arr 96 Int) (k2 : Int) (fresh3 : Int) (w : World) (r : Gpinner) {D_a : Option Addr} {D_an : Nat} (D_c : Nat) (D_h : Rw w D_a 2 encGHammer p0.ff.fHammers) (D_hn : p0.ff.fHammers.length = D_an) {E_a : Option Addr} {E_an : Nat} (E_c : Nat) (E_h : Rw w E_a 2 encGNote p0.ft) (E_hn : p0.ft.length = E_an) (A_b : Nat) (hm0 : Mem w (bs [some A_b]) [⟨some A_b, 172, ((.int .i16 p0.ff.fSteps) :: (.slice D_a D_an D_c) :: (.slice E_a E_an E_c) :: (seg (Value.int .u32) 96 p0.fold.1 ((.int .i64 p0.fbudget) :: (.int .i64 p0.ftries) :: (.bool p0.fover) :: (.bool p0.ffound) :: (.int .i64 p0.fmost) :: (seg (Value.int .u32) 96 p0.fbest.1 [(.bool p0.fall)]))))⟩] w) (D_ha : p0.ff.fHammers ≠ [] → aB D_a ∉ bs [some A_b]) (E_ha : p0.ft ≠ [] → aB E_a ∉ bs [some A_b]) (h : impl_pinner_pin p0 d1 k2 fresh3 = some r) :
    Calls Try.prog 117 #[(.pointer (some ⟨A_b, 0, none⟩)), (.agg (row encU32 d1.1 []).toArray), (.int .i64 k2), (.int .i64 fresh3)] w fun e w' => ∃ v, e = .returned v ∧ (v = .tuple #[] ∧ Mem w (bs [some A_b]) [⟨some A_b, 172, ((.int .i16 r.ff.fSteps) :: (.slice D_a D_an D_c) :: (.slice E_a E_an E_c) :: (seg (Value.int .u32) 96 r.fold.1 ((.int .i64 r.fbudget) :: (.int .i64 r.ftries) :: (.bool r.fover) :: (.bool r.ffound) :: (.int .i64 r.fmost) :: (seg (Value.int .u32) 96 r.fbest.1 [(.bool r.fall)]))))⟩] w') :=
  impl_pinner_pin.rec_calls 200 p0 d1 k2 fresh3 w r D_c D_h D_hn E_c E_h E_hn A_b hm0 D_ha E_ha h
/-! ### (*impl.pinner).code -/
def impl_pinner_code (p0 : Gpinner) : Option (Int) := (if p0.fover = true then some 7 else (if (!p0.ffound) = true then some 6 else some 0))
theorem impl_pinner_code.calls (p0 : Gpinner) (w : World) (r : Int) {D_a : Option Addr} {D_an : Nat} (D_c : Nat) (D_h : Rw w D_a 2 encGHammer p0.ff.fHammers) (D_hn : p0.ff.fHammers.length = D_an) {E_a : Option Addr} {E_an : Nat} (E_c : Nat) (E_h : Rw w E_a 2 encGNote p0.ft) (E_hn : p0.ft.length = E_an) (A_b : Nat) (hm0 : Mem w (bs [some A_b]) [⟨some A_b, 172, ((.int .i16 p0.ff.fSteps) :: (.slice D_a D_an D_c) :: (.slice E_a E_an E_c) :: (seg (Value.int .u32) 96 p0.fold.1 ((.int .i64 p0.fbudget) :: (.int .i64 p0.ftries) :: (.bool p0.fover) :: (.bool p0.ffound) :: (.int .i64 p0.fmost) :: (seg (Value.int .u32) 96 p0.fbest.1 [(.bool p0.fall)]))))⟩] w) (D_ha : p0.ff.fHammers ≠ [] → aB D_a ∉ bs [some A_b]) (E_ha : p0.ft ≠ [] → aB E_a ∉ bs [some A_b]) (h : impl_pinner_code p0 = some r) :
    Calls Try.prog 118 #[(.pointer (some ⟨A_b, 0, none⟩))] w fun e w' => ∃ v, e = .returned v ∧ (v = (.int .i64 r) ∧ Mem w (bs [some A_b]) [⟨some A_b, 172, ((.int .i16 p0.ff.fSteps) :: (.slice D_a D_an D_c) :: (.slice E_a E_an E_c) :: (seg (Value.int .u32) 96 p0.fold.1 ((.int .i64 p0.fbudget) :: (.int .i64 p0.ftries) :: (.bool p0.fover) :: (.bool p0.ffound) :: (.int .i64 p0.fmost) :: (seg (Value.int .u32) 96 p0.fbest.1 [(.bool p0.fall)]))))⟩] w') := by
  subst D_hn E_hn
  rw [impl_pinner_code] at h
  refine enter (args := [(.pointer (some ⟨A_b, 0, none⟩))]) Try.func118 rfl Try.ntmps118 (by kernel_rfl) (L := [⟨some A_b, 172, ((.int .i16 p0.ff.fSteps) :: (.slice D_a p0.ff.fHammers.length D_c) :: (.slice E_a p0.ft.length E_c) :: (seg (Value.int .u32) 96 p0.fold.1 ((.int .i64 p0.fbudget) :: (.int .i64 p0.ftries) :: (.bool p0.fover) :: (.bool p0.ffound) :: (.int .i64 p0.fmost) :: (seg (Value.int .u32) 96 p0.fbest.1 [(.bool p0.fall)]))))⟩]) (W := bs [some A_b]) hm0 ?_
  refine jc_seq (jc_region (qh [0] (qe (jx_then (jc_seq (jc_block (jc_seq (jc_region (qh [0,0,0,0,0] (qe (jx_then (qi h (fun h => ?_) (fun h => ?_)))))))))))))
  ·refine jc_seq (jc_region (qh [0] (qe (jx_then (jc_ret (jx_inr (jx_thenr ?_)))))))
   obtain rfl := Option.some.inj h
   exact qr [] (fun w hm => ⟨rfl, hm.pk [0]⟩)
  ·refine jc_seq (jc_region (qh [0,0,0,0,0,0] (qe (jx_then (qi h (fun h => ?_) (fun h => ?_))))))
   ·refine jc_seq (jc_region (qh [0] (qe (jx_then (jc_ret (jx_inr (jx_thenr ?_)))))))
    obtain rfl := Option.some.inj h
    exact qr [] (fun w hm => ⟨rfl, hm.pk [0]⟩)
   ·refine jc_skip (jx_inn (jx_then (jc_seq (jc_region (qh [0] (qe (jx_then (jc_ret ?_))))))))
    obtain rfl := Option.some.inj h
    exact qr [] (fun w hm => ⟨rfl, hm.pk [0]⟩)
/-! ### impl.PinTune -/
def impl_PinTune (f0 : GFrame) (t1 : List GNote) (budget2 : Int) : Option ((Arr 96 Int) × Int × Int) := (impl_tuneOnCode f0 t1 budget2 []).bind fun t_1 => (if (t_1 != 0) = true then some ((Arr.rep 96 0), 0, t_1) else (impl_pinner_pin (⟨f0, t1, (Arr.rep 96 0), budget2, 0, false, false, 0, (Arr.rep 96 0), false⟩ : Gpinner) (Arr.rep 96 0) 0 0).bind fun t_2 => (impl_pinner_code (⟨(⟨t_2.ff.fSteps, f0.fHammers⟩ : GFrame), t1, t_2.fold, t_2.fbudget, t_2.ftries, t_2.fover, t_2.ffound, t_2.fmost, t_2.fbest, t_2.fall⟩ : Gpinner)).bind fun t_3 => (if (t_3 != 0) = true then some ((Arr.rep 96 0), 0, t_3) else some (t_2.fbest, t_2.ftries, 0)))
theorem impl_PinTune.calls (f0 : GFrame) (t1 : List GNote) (budget2 : Int) (w : World) (r : (Arr 96 Int) × Int × Int) {C_a : Option Addr} {C_an : Nat} (C_c : Nat) (C_h : Rw w C_a 2 encGHammer f0.fHammers) (C_hn : f0.fHammers.length = C_an) {D_a : Option Addr} {D_an : Nat} (D_c : Nat) (D_h : Rw w D_a 2 encGNote t1) (D_hn : t1.length = D_an) (h : impl_PinTune f0 t1 budget2 = some r) :
    Calls Try.prog 70 #[(.agg #[(.int .i16 f0.fSteps), (.slice C_a C_an C_c)]), (.slice D_a D_an D_c), (.int .i64 budget2)] w fun e w' => ∃ v, e = .returned v ∧ (v = .tuple #[(.agg (row encU32 r.1.1 []).toArray), (.int .i64 r.2.1), (.int .i64 r.2.2)] ∧ Mem w [] [] w') := by
  subst C_hn D_hn
  rw [impl_PinTune] at h
  refine enter (args := [(.agg #[(.int .i16 f0.fSteps), (.slice C_a f0.fHammers.length C_c)]), (.slice D_a t1.length D_c), (.int .i64 budget2)]) Try.func70 rfl Try.ntmps70 (by kernel_rfl) (L := []) (W := []) (Mem.start w) ?_
  refine jc_seq (jc_region (tO (qa 0 (fun b_1 => jkO (tO (qa 0 (fun b_2 => jkO (qh [0,0] (qe (jx_then (jc_seq (jc_seq (jc_region (qh [0,0,0] ?_))))))))))))))
  obtain ⟨t_1, ht_5, h⟩ := bd h
  refine tO (pc 0 (fun w hm => impl_tuneOnCode.calls f0 t1 budget2 [] w _ C_c (hm.xr C_h) rfl D_c (hm.xr D_h) rfl 0 Rw.nil rfl ht_5) ?_)
  rintro w v w' hm ⟨rfl, hm'⟩
  refine ⟨_, hm.app hm', jkO ?_⟩
  clear hm hm'
  refine qh [0] (qe (jx_then (jc_seq (jc_region (qh [0,0] (qe (jx_then (qi h (fun h => ?_) (fun h => ?_)))))))))
  ·refine jc_seq (jc_region (qh [0,0] (tO (p_sA 0 1 b_2 96 1 88 encU32 (Arr.rep 96 0) (Arr.rep 96 0) (by kernel_rfl) (by kernel_rfl) (by kernel_rfl) encU32_len encU32_cell (by kernel_rfl) (jkO (qh [0,0] (qe (jx_then (jc_ret (jx_thenr ?_))))))))))
   obtain rfl := Option.some.inj h
   exact jx_retV rfl (rq_arr (b := b_2) (T' := 88) (hh := 1) (mm := 1) encU32 (Arr.rep 96 0) (by kernel_rfl) (by kernel_rfl) encU32_len (by kernel_rfl) (rq_tmp (by kernel_rfl) (rq_tmp (by kernel_rfl) rq_nil))) (fun w hm => ⟨rfl, hm.pk []⟩)
  ·refine jc_skip (jx_then (jc_seq (jc_region (qh [0,0,0,0] (tO (qa 0 (fun b_7 => jkO (qh [0] (qe (jx_then (jc_seq (jc_region (qh [0,0] ?_)))))))))))))
   obtain ⟨t_2, ht_8, h⟩ := bd h
   refine tO (pc 0 (fun w hm => impl_pinner_pin.calls (⟨f0, t1, (Arr.rep 96 0), budget2, 0, false, false, 0, (Arr.rep 96 0), false⟩ : Gpinner) (Arr.rep 96 0) 0 0 w _ C_c (hm.xr C_h) rfl D_c (hm.xr D_h) rfl b_7 (hm.pass (N := [⟨some b_7, 172, ((.int .i16 f0.fSteps) :: (.slice C_a f0.fHammers.length C_c) :: (.slice D_a t1.length D_c) :: (seg (Value.int .u32) 96 (Arr.rep 96 0).1 ((.int .i64 budget2) :: (.int .i64 0) :: (.bool false) :: (.bool false) :: (.int .i64 0) :: (seg (Value.int .u32) 96 (Arr.rep 96 0).1 [(.bool false)]))))⟩]) [2] (by kernel_rfl) (by kernel_rfl)) (hm.exApart (N := [⟨some b_7, 172, ((.int .i16 f0.fSteps) :: (.slice C_a f0.fHammers.length C_c) :: (.slice D_a t1.length D_c) :: (seg (Value.int .u32) 96 (Arr.rep 96 0).1 ((.int .i64 budget2) :: (.int .i64 0) :: (.bool false) :: (.bool false) :: (.int .i64 0) :: (seg (Value.int .u32) 96 (Arr.rep 96 0).1 [(.bool false)]))))⟩]) C_h (fun _ => List.not_mem_nil) [2] (by kernel_rfl)) (hm.exApart (N := [⟨some b_7, 172, ((.int .i16 f0.fSteps) :: (.slice C_a f0.fHammers.length C_c) :: (.slice D_a t1.length D_c) :: (seg (Value.int .u32) 96 (Arr.rep 96 0).1 ((.int .i64 budget2) :: (.int .i64 0) :: (.bool false) :: (.bool false) :: (.int .i64 0) :: (seg (Value.int .u32) 96 (Arr.rep 96 0).1 [(.bool false)]))))⟩]) D_h (fun _ => List.not_mem_nil) [2] (by kernel_rfl)) ht_8) ?_)
   rintro w v w' hm ⟨rfl, hm'⟩
   refine ⟨_, hm.appW (ps := [(2, ⟨some b_7, 172, ((.int .i16 t_2.ff.fSteps) :: (.slice C_a f0.fHammers.length C_c) :: (.slice D_a t1.length D_c) :: (seg (Value.int .u32) 96 t_2.fold.1 ((.int .i64 t_2.fbudget) :: (.int .i64 t_2.ftries) :: (.bool t_2.fover) :: (.bool t_2.ffound) :: (.int .i64 t_2.fmost) :: (seg (Value.int .u32) 96 t_2.fbest.1 [(.bool t_2.fall)]))))⟩)]) (N := []) hm' (by kernel_rfl) (by kernel_rfl), jkO ?_⟩
   clear hm hm'
   refine qe (jx_then (jc_seq (jc_seq (jc_region (qh [0] ?_)))))
   obtain ⟨t_3, ht_11, h⟩ := bd h
   refine tO (pc 0 (fun w hm => impl_pinner_code.calls (⟨(⟨t_2.ff.fSteps, f0.fHammers⟩ : GFrame), t1, t_2.fold, t_2.fbudget, t_2.ftries, t_2.fover, t_2.ffound, t_2.fmost, t_2.fbest, t_2.fall⟩ : Gpinner) w _ C_c (hm.xr C_h) rfl D_c (hm.xr D_h) rfl b_7 (hm.pass (N := [⟨some b_7, 172, ((.int .i16 t_2.ff.fSteps) :: (.slice C_a f0.fHammers.length C_c) :: (.slice D_a t1.length D_c) :: (seg (Value.int .u32) 96 t_2.fold.1 ((.int .i64 t_2.fbudget) :: (.int .i64 t_2.ftries) :: (.bool t_2.fover) :: (.bool t_2.ffound) :: (.int .i64 t_2.fmost) :: (seg (Value.int .u32) 96 t_2.fbest.1 [(.bool t_2.fall)]))))⟩]) [2] (by kernel_rfl) (by kernel_rfl)) (hm.exApart (N := [⟨some b_7, 172, ((.int .i16 t_2.ff.fSteps) :: (.slice C_a f0.fHammers.length C_c) :: (.slice D_a t1.length D_c) :: (seg (Value.int .u32) 96 t_2.fold.1 ((.int .i64 t_2.fbudget) :: (.int .i64 t_2.ftries) :: (.bool t_2.fover) :: (.bool t_2.ffound) :: (.int .i64 t_2.fmost) :: (seg (Value.int .u32) 96 t_2.fbest.1 [(.bool t_2.fall)]))))⟩]) C_h (fun _ => List.not_mem_nil) [2] (by kernel_rfl)) (hm.exApart (N := [⟨some b_7, 172, ((.int .i16 t_2.ff.fSteps) :: (.slice C_a f0.fHammers.length C_c) :: (.slice D_a t1.length D_c) :: (seg (Value.int .u32) 96 t_2.fold.1 ((.int .i64 t_2.fbudget) :: (.int .i64 t_2.ftries) :: (.bool t_2.fover) :: (.bool t_2.ffound) :: (.int .i64 t_2.fmost) :: (seg (Value.int .u32) 96 t_2.fbest.1 [(.bool t_2.fall)]))))⟩]) D_h (fun _ => List.not_mem_nil) [2] (by kernel_rfl)) ht_11) ?_)
   rintro w v w' hm ⟨rfl, hm'⟩
   refine ⟨_, hm.appW (ps := [(2, ⟨some b_7, 172, ((.int .i16 t_2.ff.fSteps) :: (.slice C_a f0.fHammers.length C_c) :: (.slice D_a t1.length D_c) :: (seg (Value.int .u32) 96 t_2.fold.1 ((.int .i64 t_2.fbudget) :: (.int .i64 t_2.ftries) :: (.bool t_2.fover) :: (.bool t_2.ffound) :: (.int .i64 t_2.fmost) :: (seg (Value.int .u32) 96 t_2.fbest.1 [(.bool t_2.fall)]))))⟩)]) (N := []) hm' (by kernel_rfl) (by kernel_rfl), jkO ?_⟩
   clear hm hm'
   refine qh [0] (qe (jx_then (jc_seq (jc_region (qh [0,0] (qe (jx_then (qi h (fun h => ?_) (fun h => ?_)))))))))
   ·refine jc_seq (jc_region (qh [0,0] (tO (p_sA 0 1 b_2 96 1 88 encU32 (Arr.rep 96 0) (Arr.rep 96 0) (by kernel_rfl) (by kernel_rfl) (by kernel_rfl) encU32_len encU32_cell (by kernel_rfl) (jkO (qh [0,0] (qe (jx_then (jc_ret (jx_thenr ?_))))))))))
    obtain rfl := Option.some.inj h
    exact jx_retV rfl (rq_arr (b := b_2) (T' := 88) (hh := 1) (mm := 1) encU32 (Arr.rep 96 0) (by kernel_rfl) (by kernel_rfl) encU32_len (by kernel_rfl) (rq_tmp (by kernel_rfl) (rq_tmp (by kernel_rfl) rq_nil))) (fun w hm => ⟨rfl, hm.pk []⟩)
   ·refine jc_skip (jx_then (jc_seq (qg [⟨some b_1, 34, [(.int .i16 f0.fSteps), (.slice C_a f0.fHammers.length C_c)]⟩, ⟨some b_7, 172, ((.int .i16 t_2.ff.fSteps) :: (.slice C_a f0.fHammers.length C_c) :: (.slice D_a t1.length D_c) :: (seg (Value.int .u32) 96 t_2.fold.1 ((.int .i64 t_2.fbudget) :: (.int .i64 t_2.ftries) :: (.bool t_2.fover) :: (.bool t_2.ffound) :: (.int .i64 t_2.fmost) :: (seg (Value.int .u32) 96 t_2.fbest.1 [(.bool t_2.fall)]))))⟩] 11 (qd [⟨0, 0, 0⟩,⟨1, 0, 0⟩,⟨2, 0, 0⟩,⟨4, 0, 0⟩,⟨5, 0, 0⟩,⟨6, 0, 0⟩,⟨7, 1, 0⟩] 4 [0, 2] (qv 3 0 [0, 2] (fun w hm => ld_run (b := b_7) (off := 104) (s := 96) (agg := true) (vs := row encU32 t_2.fbest.1 []) (by kernel_rfl) ((row_len encU32_len t_2.fbest).trans rfl) (.inl rfl) (hm.segAt 1 b_7 104 (Value.int .u32) (fun _ => rfl) t_2.fbest)) (tD 8 (p_sA 0 1 b_2 96 1 88 encU32 (Arr.rep 96 0) t_2.fbest (by kernel_rfl) (by kernel_rfl) (by kernel_rfl) encU32_len encU32_cell (by kernel_rfl) (kD [0, 2] (qd [⟨9, 0, 0⟩,⟨10, 0, 0⟩] 0 [0, 2] (qz (jx_then (jc_ret ?_))))))))))))
    obtain rfl := Option.some.inj h
    exact jx_retV rfl (rq_arr (b := b_2) (T' := 88) (hh := 1) (mm := 1) encU32 t_2.fbest (by kernel_rfl) (by kernel_rfl) encU32_len (by kernel_rfl) (rq_tmp (by kernel_rfl) (rq_tmp (by kernel_rfl) rq_nil))) (fun w hm => ⟨rfl, hm.pk []⟩)
/-! ### impl.NeedlessTracks -/
def impl_NeedlessTracks.k_4 (xs_3 : List Int) : Option ((List Int) × Int) := some (xs_3, 0)
def impl_NeedlessTracks.l_7 (f0 : GFrame) (t1 : List GNote) (t_2 : Int) : ((List Int) × Int) → Option (((List Int) × Int) ⊕ ((List Int)))
  | (xs_5, i_6) => (if (decide (i_6 < t_2)) = true then (impl_Frame_without f0 i_6).bind fun t_9 => (impl_PinTune t_9 t1 20000).bind fun t_10 => (if (t_10.2.2 == 0) = true then (if xs_5.length + ([i_6] : List Int).length ≤ 4294967296 then some (.inl ((xs_5 ++ ([i_6] : List Int)), (w64 (i_6 + 1)))) else none) else some (.inl (xs_5, (w64 (i_6 + 1))))) else some (.inr xs_5))
def impl_NeedlessTracks (f0 : GFrame) (t1 : List GNote) : Option ((List Int) × Int) := (impl_tuneOnCode f0 t1 0 []).bind fun t_1 => (if (t_1 != 0) = true then some ([], t_1) else (impl_size_Hammer f0.fHammers).bind fun t_2 => (loop (impl_NeedlessTracks.l_7 f0 t1 t_2) (([] : List Int), 0)).bind fun t_8 => impl_NeedlessTracks.k_4 t_8)
theorem impl_NeedlessTracks.calls (f0 : GFrame) (t1 : List GNote) (w : World) (r : (List Int) × Int) {C_a : Option Addr} {C_an : Nat} (C_c : Nat) (C_h : Rw w C_a 2 encGHammer f0.fHammers) (C_hn : f0.fHammers.length = C_an) {D_a : Option Addr} {D_an : Nat} (D_c : Nat) (D_h : Rw w D_a 2 encGNote t1) (D_hn : t1.length = D_an) (h : impl_NeedlessTracks f0 t1 = some r) :
    Calls Try.prog 28 #[(.agg #[(.int .i16 f0.fSteps), (.slice C_a C_an C_c)]), (.slice D_a D_an D_c)] w fun e w' => ∃ v, e = .returned v ∧ (∃ (o0 : Option Nat) (c0 : Nat) (s0 : List Value) (n0 : Nat), r.1.length = n0 ∧ (o0 ≠ none → n0 ≤ c0 ∧ s0.length = (c0 - n0) * 1) ∧ (o0 = none → r.1 = [] ∧ c0 = 0) ∧ v = .tuple #[.slice (o0.map fun b => ⟨b, 0, none⟩) n0 c0, (.int .i64 r.2)] ∧ Mem w [] [⟨o0, 2, row encI64 r.1 s0⟩] w') := by
  subst C_hn D_hn
  rw [impl_NeedlessTracks] at h
  refine enter (args := [(.agg #[(.int .i16 f0.fSteps), (.slice C_a f0.fHammers.length C_c)]), (.slice D_a t1.length D_c)]) Try.func28 rfl Try.ntmps28 (by kernel_rfl) (L := []) (W := []) (Mem.start w) ?_
  refine jc_seq (jc_region (tO (qa 0 (fun b_1 => jkO (qh [0,0] (qe (jx_then (jc_seq (jc_seq (jc_region (qh [0,0] ?_)))))))))))
  obtain ⟨t_1, ht_4, h⟩ := bd h
  refine tO (pc 0 (fun w hm => impl_tuneOnCode.calls f0 t1 0 [] w _ C_c (hm.xr C_h) rfl D_c (hm.xr D_h) rfl 0 Rw.nil rfl ht_4) ?_)
  rintro w v w' hm ⟨rfl, hm'⟩
  refine ⟨_, hm.app hm', jkO ?_⟩
  clear hm hm'
  refine qh [0] (qe (jx_then (jc_seq (jc_region (qh [0,0] (qe (jx_then (qi h (fun h => ?_) (fun h => ?_)))))))))
  ·refine jc_seq (jc_region (qh [0,0,0] (qe (jx_then (jc_ret (jx_thenr ?_))))))
   obtain rfl := Option.some.inj h
   exact jx_ghost 2 encI64 (qr [] (fun w hm => ⟨none, 0, [], 0, rfl, (fun e => absurd rfl e), (fun _ => ⟨rfl, rfl⟩), rfl, hm.pk [1]⟩))
  ·refine jc_skip (jx_then (jc_seq (jc_region (tO (qa 0 (fun b_6 => jkO (qh [0] (qe (jx_then (jc_seq (jc_seq (jc_region (qh [0,0] ?_)))))))))))))
   obtain ⟨t_2, ht_154, h⟩ := bd h
   refine tO (pc 0 (fun w hm => impl_size_Hammer.calls f0.fHammers w _ C_c (hm.xr C_h) rfl ht_154) ?_)
   rintro w v w' hm ⟨rfl, hm'⟩
   refine ⟨_, hm.app hm', jkO ?_⟩
   clear hm hm'
   refine qh [0] (qe (jx_then (jc_meet (fun (j : (List Int) × (Option Nat) × Nat × (List Value) × Nat) => match j with | ⟨xs_3, o_225, cap_226, sp_227, n_228⟩ => impl_NeedlessTracks.k_4 xs_3 = some r ∧ (xs_3.length = n_228) ∧ ((o_225 ≠ none → n_228 ≤ cap_226 ∧ sp_227.length = (cap_226 - n_228) * 1)) ∧ ((o_225 = none → xs_3 = [] ∧ cap_226 = 0))) (fun (j : (List Int) × (Option Nat) × Nat × (List Value) × Nat) => match j with | ⟨xs_3, o_225, cap_226, sp_227, n_228⟩ => [(4, [], (.slice none 0 0)), (5, [], (.int .i64 0)), (7, [], (.slice (o_225.map fun b => ⟨b, 0, none⟩) n_228 cap_226))]) (fun (j : (List Int) × (Option Nat) × Nat × (List Value) × Nat) => match j with | ⟨xs_3, o_225, cap_226, sp_227, n_228⟩ => [⟨some b_1, 34, [(.int .i16 f0.fSteps), (.slice C_a f0.fHammers.length C_c)]⟩, ⟨o_225, 2, row encI64 xs_3 sp_227⟩]) ?_ ?_)))
   ·refine jc_block ?_
    obtain ⟨t_8, ht_300, hr_279⟩ := bd h
    refine jc_loop (fun (s : (List Int) × Int) (x : (Option Nat) × Nat × (List Value) × Nat) => match s, x with | ⟨xs_5, i_6⟩, ⟨o_273, cap_274, sp_275, n_276⟩ => (xs_5.length = n_276) ∧ ((o_273 ≠ none → n_276 ≤ cap_274 ∧ sp_275.length = (cap_274 - n_276) * 1)) ∧ ((o_273 = none → xs_5 = [] ∧ cap_274 = 0))) (fun (s : (List Int) × Int) (x : (Option Nat) × Nat × (List Value) × Nat) => match s, x with | ⟨xs_5, i_6⟩, ⟨o_273, cap_274, sp_275, n_276⟩ => [(1, [], (.slice D_a t1.length D_c)), (2, [], (.pointer (some ⟨b_1, 0, none⟩))), (4, [], (.slice none 0 0)), (5, [], (.int .i64 0)), (7, [], (.slice (o_273.map fun b => ⟨b, 0, none⟩) n_276 cap_274)), (21, [], (.int .i64 t_2)), (22, [], (.int .i64 i_6))]) (fun (s : (List Int) × Int) (x : (Option Nat) × Nat × (List Value) × Nat) => match s, x with | ⟨xs_5, i_6⟩, ⟨o_273, cap_274, sp_275, n_276⟩ => [⟨some b_1, 34, [(.int .i16 f0.fSteps), (.slice C_a f0.fHammers.length C_c)]⟩, ⟨o_273, 2, row encI64 xs_5 sp_275⟩]) ht_300 ⟨(some b_6), 0, [], 0⟩ ⟨rfl, (fun _ => ⟨Nat.le_refl _, by simp⟩), (fun e => nomatch e)⟩ (by kernel_rfl) [0, 1] (by kernel_rfl) (by kernel_rfl) ?_
    rintro ⟨xs_5, i_6⟩ ⟨o_273, cap_274, sp_275, n_276⟩ y_280 ⟨rfl, hs_277, ho_278⟩ h
    rw [impl_NeedlessTracks.l_7] at h
    refine jc_seq (jc_region (qh [0] (qe (jx_then (jc_seq (qi h (fun h => ?_) (fun h => ?_)))))))
    ·refine jc_skip (jx_then (jc_seq (jc_block (jc_seq (jc_region (qh [0,0] (qe (jx_then (jc_seq (jc_region (qh [0,0] ?_)))))))))))
     obtain ⟨t_9, ht_283, h⟩ := bd h
     refine tO (pc 0 (fun w hm => impl_Frame_without.calls f0 i_6 w _ C_c (hm.xr C_h) rfl ht_283) ?_)
     rintro w v w' hm ⟨o_284, cap_285, sp_286, _, rfl, hs_287, ho_288, rfl, hm'⟩
     refine ⟨_, hm.app hm', jkO ?_⟩
     clear hm hm'
     refine qh [0] ?_
     obtain ⟨t_10, ht_289, h⟩ := bd h
     refine tO (pc 0 (fun w hm => impl_PinTune.calls t_9 t1 20000 w _ cap_285 (hm.ow 2 o_284 110 t_9.fHammers sp_286 (fun e => (ho_288 e).1) encGHammer_len) rfl D_c (hm.xr D_h) rfl ht_289) ?_)
     rintro w v w' hm ⟨rfl, hm'⟩
     refine ⟨_, hm.app hm', jkO ?_⟩
     clear hm hm'
     refine qh [0,0,0,0] (tO (qa 0 (fun b_290 => jkO (tO (p_sA 0 3 b_290 96 1 88 encU32 (Arr.rep 96 0) t_10.1 (by kernel_rfl) (by kernel_rfl) (by kernel_rfl) encU32_len encU32_cell (by kernel_rfl) (jkO (qh [0,0] (qe (jx_then (jc_seq (jc_region (qh [0,0] (qe (jx_then (qi h (fun h => ?_) (fun h => ?_))))))))))))))))
     ·refine jc_region (qh [0,0] (tO (qa 0 (fun b_292 => jkO ?_))))
      obtain ⟨hg_293, h⟩ := gd h
      exact tO (p_apn 0 1 o_273 2 xs_5.length 1 cap_274 1 8 (some ⟨b_292, 0, none⟩) encI64 xs_5 ([i_6] : List Int) sp_275 (.int .i64 0) rfl rfl (by kernel_rfl) (by kernel_rfl) (by kernel_rfl) encI64_len encI64_cell hs_277 ho_278 (fun w hm => (hm.ow 4 (some b_292) 2 ([i_6] : List Int) [] (fun e => nomatch e) encI64_len)) hg_293 (by kernel_rfl) (by kernel_rfl) (fun o_294 cap_295 sp_296 hs_297 ho_298 => jkO (qh [0] (qe (jx_inn (jx_then (jc_region (qh [0,0] (qe (qb ((xs_5 ++ ([i_6] : List Int)), (w64 (i_6 + 1))) ⟨o_294, cap_295, sp_296, (xs_5 ++ ([i_6] : List Int)).length⟩ h ⟨rfl, hs_297, ho_298⟩ [0, 1]))))))))))
     ·exact jc_skip (jx_inn (jx_then (jc_region (qh [0,0] (qe (qb (xs_5, (w64 (i_6 + 1))) ⟨o_273, cap_274, sp_275, xs_5.length⟩ h ⟨rfl, hs_277, ho_278⟩ [0, 1]))))))
    ·refine jc_exit (jx_thenx (jx_leave xs_5 (Option.some.inj h).symm (fun e_299 => ?_)))
     subst e_299
     exact jx_ine (qm ⟨xs_5, o_273, cap_274, sp_275, xs_5.length⟩ ⟨hr_279, rfl, hs_277, ho_278⟩ [0, 1])
   ·rintro ⟨xs_3, o_225, cap_226, sp_227, n_228⟩ ⟨h, rfl, hs_229, ho_230⟩
    replace h : impl_NeedlessTracks.k_4 xs_3 = some r := h
    rw [impl_NeedlessTracks.k_4] at h
    refine jx_then (jc_seq (jc_region (qh [0,0,0] (qe (jx_then (jc_ret ?_))))))
    obtain rfl := Option.some.inj h
    exact qr [] (fun w hm => ⟨o_225, cap_226, sp_227, xs_3.length, rfl, hs_229, ho_230, rfl, hm.pk [1]⟩)
/-! ### laws.eqInt64S -/
def laws_eqInt64S.k_1 : Option (Bool) := some true
def laws_eqInt64S.l_3 (a0 : List Int) (b1 : List Int) : Int → Option ((Int) ⊕ (Bool ⊕ Unit))
  | i_2 => (if (decide (i_2 < (a0.length : Int))) = true then (ix a0 i_2).bind fun x_5 => (ix b1 i_2).bind fun x_6 => (if (x_5 != x_6) = true then some (.inr (.inl false)) else some (.inl (w64 (i_2 + 1)))) else some (.inr (.inr ())))
def laws_eqInt64S (a0 : List Int) (b1 : List Int) : Option (Bool) := (if ((a0.length : Int) != (b1.length : Int)) = true then some false else (loop (laws_eqInt64S.l_3 a0 b1) 0).bind fun t_4 => match t_4 with | .inl p => some p | .inr p => laws_eqInt64S.k_1)
theorem laws_eqInt64S.calls (a0 : List Int) (b1 : List Int) (w : World) (r : Bool) {A_a : Option Addr} {A_an : Nat} (A_c : Nat) (A_h : Rw w A_a 1 encI64 a0) (A_hn : a0.length = A_an) {B_a : Option Addr} {B_an : Nat} (B_c : Nat) (B_h : Rw w B_a 1 encI64 b1) (B_hn : b1.length = B_an) (h : laws_eqInt64S a0 b1 = some r) :
    Calls Try.prog 16 #[(.slice A_a A_an A_c), (.slice B_a B_an B_c)] w fun e w' => ∃ v, e = .returned v ∧ (v = (.bool r) ∧ Mem w [] [] w') := by
  subst A_hn B_hn
  rw [laws_eqInt64S] at h
  refine enter (args := [(.slice A_a a0.length A_c), (.slice B_a b1.length B_c)]) Try.func16 rfl Try.ntmps16 (by kernel_rfl) (L := []) (W := []) (Mem.start w) ?_
  refine jc_seq (jc_region (qh [0] (qe (jx_then (jc_seq (jc_seq (jc_region (qh [0,0,0,0,0] (qe (jx_then (qi h (fun h => ?_) (fun h => ?_))))))))))))
  ·refine jc_seq (jc_region (qh [0] (qe (jx_then (jc_ret (jx_thenr ?_))))))
   obtain rfl := Option.some.inj h
   exact qr [] (fun w hm => ⟨rfl, hm.pk []⟩)
  ·refine jc_skip (jx_then (jc_seq (jc_seq (jc_region (qh [0] (qe (jx_then (jc_meet (fun (_ : Unit) => laws_eqInt64S.k_1 = some r) (fun (_ : Unit) => [(4, [], (.bool false))]) (fun (_ : Unit) => []) ?_ ?_))))))))
   ·refine jc_block ?_
    obtain ⟨t_4, ht_42, hr_33⟩ := bd h
    refine jc_loop (fun (s : Int) (x : Unit) => match s, x with | i_2, _ => True) (fun (s : Int) (x : Unit) => match s, x with | i_2, _ => [(0, [], (.slice A_a a0.length A_c)), (1, [], (.slice B_a b1.length B_c)), (4, [], (.bool false)), (5, [], (.int .i64 i_2))]) (fun (s : Int) (x : Unit) => match s, x with | i_2, _ => []) ht_42 () trivial (by kernel_rfl) [] (by kernel_rfl) (by kernel_rfl) ?_
    rintro i_2 _ y_34 _ h
    rw [laws_eqInt64S.l_3] at h
    refine jc_seq (jc_seq (jc_region (qh [0,0,0,0] (qe (jx_then (qi h (fun h => ?_) (fun h => ?_)))))))
    ·refine jc_skip (jx_then (jc_seq (jc_block (jc_seq (qg [] 9 (qd [⟨0, 0, 0⟩,⟨1, 0, 0⟩,⟨4, 0, 0⟩,⟨5, 0, 0⟩] 5 [] ?_))))))
     obtain ⟨x_5, hx_37, h⟩ := bd h
     refine qv 2 0 [] (fun w hm => idx_run (a := A_a) (len := a0.length) (s := 1) (j := i_2) (by kernel_rfl) (ix_some hx_37).1 (ltn hx_37 rfl) (A_h.sp hx_37)) (qv 3 0 [] (fun w hm => ld_run (b := aB A_a) (off := (aO A_a + i_2.toNat * 1)) (s := 1) (agg := false) (vs := (encI64 x_5)) (by kernel_rfl) (by kernel_rfl) (.inr rfl) ((hm.xr A_h).at hx_37)) ?_)
     obtain ⟨x_6, hx_38, h⟩ := bd h
     refine qv 6 0 [] (fun w hm => idx_run (a := B_a) (len := b1.length) (s := 1) (j := i_2) (by kernel_rfl) (ix_some hx_38).1 (ltn hx_38 rfl) (B_h.sp hx_38)) (qv 7 0 [] (fun w hm => ld_run (b := aB B_a) (off := (aO B_a + i_2.toNat * 1)) (s := 1) (agg := false) (vs := (encI64 x_6)) (by kernel_rfl) (by kernel_rfl) (.inr rfl) ((hm.xr B_h).at hx_38)) (qd [⟨8, 0, 0⟩] 0 [] (qz (jx_then (qi h (fun h => ?_) (fun h => ?_))))))
     ·refine jc_seq (jc_region (qh [0] (qe (jx_then (jc_ret (jx_inr (jx_thenr (jx_leaver (.inl false) (Option.some.inj h).symm (fun e_40 => ?_)))))))))
      subst e_40
      refine jx_inr (jx_thenr (jx_thenr ?_))
      obtain rfl := Option.some.inj hr_33
      exact qr [] (fun w hm => ⟨rfl, hm.pk []⟩)
     ·exact jc_skip (jx_inn (jx_then (jc_region (qh [0,0,0] (qe (qb (w64 (i_2 + 1)) () h trivial []))))))
    ·refine jc_exit (jx_thenx (jx_leave (.inr ()) (Option.some.inj h).symm (fun e_41 => ?_)))
     subst e_41
     exact jx_ine (qm () hr_33 [])
   ·rintro _ h
    replace h : laws_eqInt64S.k_1 = some r := h
    rw [laws_eqInt64S.k_1] at h
    refine jx_then (jc_seq (jc_region (qh [0] (qe (jx_then (jc_ret ?_))))))
    obtain rfl := Option.some.inj h
    exact qr [] (fun w hm => ⟨rfl, hm.pk []⟩)
/-! ### laws.eqHammer -/
def laws_eqHammer (a0 : GHammer) (b1 : GHammer) : Option (Bool) := (if (a0.fPitch != b1.fPitch) = true then some false else (if (a0.fReady != b1.fReady) = true then some false else some true))
theorem laws_eqHammer.calls (a0 : GHammer) (b1 : GHammer) (w : World) (r : Bool) (h : laws_eqHammer a0 b1 = some r) :
    Calls Try.prog 109 #[(.agg #[(.int .i8 a0.fPitch), (.int .i8 a0.fReady)]), (.agg #[(.int .i8 b1.fPitch), (.int .i8 b1.fReady)])] w fun e w' => ∃ v, e = .returned v ∧ (v = (.bool r) ∧ Mem w [] [] w') := by
  rw [laws_eqHammer] at h
  refine enter (args := [(.agg #[(.int .i8 a0.fPitch), (.int .i8 a0.fReady)]), (.agg #[(.int .i8 b1.fPitch), (.int .i8 b1.fReady)])]) Try.func109 rfl Try.ntmps109 (by kernel_rfl) (L := []) (W := []) (Mem.start w) ?_
  refine jc_seq (jc_region (tO (qa 0 (fun b_1 => jkO (tO (qa 0 (fun b_2 => jkO (qh [0] (qe (jx_then (jc_seq (jc_seq (jc_region (qh [0,0,0,1,0] (qe (jx_then (qi h (fun h => ?_) (fun h => ?_))))))))))))))))))
  ·refine jc_seq (jc_region (qh [0] (qe (jx_then (jc_ret (jx_thenr ?_))))))
   obtain rfl := Option.some.inj h
   exact qr [] (fun w hm => ⟨rfl, hm.pk []⟩)
  ·refine jc_skip (jx_then (jc_seq (jc_seq (jc_region (qh [0,0,0,1,0] (qe (jx_then (qi h (fun h => ?_) (fun h => ?_)))))))))
   ·refine jc_seq (jc_region (qh [0] (qe (jx_then (jc_ret (jx_thenr ?_))))))
    obtain rfl := Option.some.inj h
    exact qr [] (fun w hm => ⟨rfl, hm.pk []⟩)
   ·refine jc_skip (jx_then (jc_seq (jc_region (qh [0] (qe (jx_then (jc_ret ?_)))))))
    obtain rfl := Option.some.inj h
    exact qr [] (fun w hm => ⟨rfl, hm.pk []⟩)
/-! ### laws.eqHammerS -/
def laws_eqHammerS.k_1 : Option (Bool) := some true
def laws_eqHammerS.l_3 (a0 : List GHammer) (b1 : List GHammer) : Int → Option ((Int) ⊕ (Bool ⊕ Unit))
  | i_2 => (if (decide (i_2 < (a0.length : Int))) = true then (ix a0 i_2).bind fun x_5 => (ix b1 i_2).bind fun x_6 => (laws_eqHammer x_5 x_6).bind fun t_7 => (if (!t_7) = true then some (.inr (.inl false)) else some (.inl (w64 (i_2 + 1)))) else some (.inr (.inr ())))
def laws_eqHammerS (a0 : List GHammer) (b1 : List GHammer) : Option (Bool) := (if ((a0.length : Int) != (b1.length : Int)) = true then some false else (loop (laws_eqHammerS.l_3 a0 b1) 0).bind fun t_4 => match t_4 with | .inl p => some p | .inr p => laws_eqHammerS.k_1)
theorem laws_eqHammerS.calls (a0 : List GHammer) (b1 : List GHammer) (w : World) (r : Bool) {A_a : Option Addr} {A_an : Nat} (A_c : Nat) (A_h : Rw w A_a 2 encGHammer a0) (A_hn : a0.length = A_an) {B_a : Option Addr} {B_an : Nat} (B_c : Nat) (B_h : Rw w B_a 2 encGHammer b1) (B_hn : b1.length = B_an) (h : laws_eqHammerS a0 b1 = some r) :
    Calls Try.prog 60 #[(.slice A_a A_an A_c), (.slice B_a B_an B_c)] w fun e w' => ∃ v, e = .returned v ∧ (v = (.bool r) ∧ Mem w [] [] w') := by
  subst A_hn B_hn
  rw [laws_eqHammerS] at h
  refine enter (args := [(.slice A_a a0.length A_c), (.slice B_a b1.length B_c)]) Try.func60 rfl Try.ntmps60 (by kernel_rfl) (L := []) (W := []) (Mem.start w) ?_
  refine jc_seq (jc_region (qh [0] (qe (jx_then (jc_seq (jc_seq (jc_region (qh [0,0,0,0,0] (qe (jx_then (qi h (fun h => ?_) (fun h => ?_))))))))))))
  ·refine jc_seq (jc_region (qh [0] (qe (jx_then (jc_ret (jx_thenr ?_))))))
   obtain rfl := Option.some.inj h
   exact qr [] (fun w hm => ⟨rfl, hm.pk []⟩)
  ·refine jc_skip (jx_then (jc_seq (jc_seq (jc_region (qh [0] (qe (jx_then (jc_meet (fun (_ : Unit) => laws_eqHammerS.k_1 = some r) (fun (_ : Unit) => [(4, [], (.bool false))]) (fun (_ : Unit) => []) ?_ ?_))))))))
   ·refine jc_block ?_
    obtain ⟨t_4, ht_48, hr_38⟩ := bd h
    refine jc_loop (fun (s : Int) (x : Unit) => match s, x with | i_2, _ => True) (fun (s : Int) (x : Unit) => match s, x with | i_2, _ => [(0, [], (.slice A_a a0.length A_c)), (1, [], (.slice B_a b1.length B_c)), (4, [], (.bool false)), (5, [], (.int .i64 i_2))]) (fun (s : Int) (x : Unit) => match s, x with | i_2, _ => []) ht_48 () trivial (by kernel_rfl) [] (by kernel_rfl) (by kernel_rfl) ?_
    rintro i_2 _ y_39 _ h
    rw [laws_eqHammerS.l_3] at h
    refine jc_seq (jc_seq (jc_region (qh [0,0,0,0] (qe (jx_then (qi h (fun h => ?_) (fun h => ?_)))))))
    ·refine jc_skip (jx_then (jc_seq (jc_block (jc_seq (qg [] 10 (qd [⟨0, 0, 0⟩,⟨1, 0, 0⟩,⟨4, 0, 0⟩,⟨5, 0, 0⟩] 6 [] ?_))))))
     obtain ⟨x_5, hx_42, h⟩ := bd h
     refine qv 2 0 [] (fun w hm => idx_run (a := A_a) (len := a0.length) (s := 2) (j := i_2) (by kernel_rfl) (ix_some hx_42).1 (ltn hx_42 rfl) (A_h.sp hx_42)) (qv 3 0 [] (fun w hm => ld_run (b := aB A_a) (off := (aO A_a + i_2.toNat * 2)) (s := 2) (agg := true) (vs := (encGHammer x_5)) (by kernel_rfl) (by kernel_rfl) (.inl rfl) ((hm.xr A_h).at hx_42)) ?_)
     obtain ⟨x_6, hx_43, h⟩ := bd h
     refine qv 6 0 [] (fun w hm => idx_run (a := B_a) (len := b1.length) (s := 2) (j := i_2) (by kernel_rfl) (ix_some hx_43).1 (ltn hx_43 rfl) (B_h.sp hx_43)) (qv 7 0 [] (fun w hm => ld_run (b := aB B_a) (off := (aO B_a + i_2.toNat * 2)) (s := 2) (agg := true) (vs := (encGHammer x_6)) (by kernel_rfl) (by kernel_rfl) (.inl rfl) ((hm.xr B_h).at hx_43)) ?_)
     obtain ⟨t_7, ht_44, h⟩ := bd h
     refine tD 8 (pc 0 (fun w hm => laws_eqHammer.calls x_5 x_6 w _ ht_44) ?_)
     rintro w v w' hm ⟨rfl, hm'⟩
     refine ⟨_, hm.app hm', kD [] ?_⟩
     clear hm hm'
     refine qd [⟨9, 0, 0⟩] 0 [] (qz (jx_then (qi h (fun h => ?_) (fun h => ?_))))
     ·refine jc_seq (jc_region (qh [0] (qe (jx_then (jc_ret (jx_inr (jx_thenr (jx_leaver (.inl false) (Option.some.inj h).symm (fun e_46 => ?_)))))))))
      subst e_46
      refine jx_inr (jx_thenr (jx_thenr ?_))
      obtain rfl := Option.some.inj hr_38
      exact qr [] (fun w hm => ⟨rfl, hm.pk []⟩)
     ·exact jc_skip (jx_inn (jx_then (jc_region (qh [0,0,0] (qe (qb (w64 (i_2 + 1)) () h trivial []))))))
    ·refine jc_exit (jx_thenx (jx_leave (.inr ()) (Option.some.inj h).symm (fun e_47 => ?_)))
     subst e_47
     exact jx_ine (qm () hr_38 [])
   ·rintro _ h
    replace h : laws_eqHammerS.k_1 = some r := h
    rw [laws_eqHammerS.k_1] at h
    refine jx_then (jc_seq (jc_region (qh [0] (qe (jx_then (jc_ret ?_))))))
    obtain rfl := Option.some.inj h
    exact qr [] (fun w hm => ⟨rfl, hm.pk []⟩)
/-! ### laws.eqFrame -/
def laws_eqFrame (a0 : GFrame) (b1 : GFrame) : Option (Bool) := (if (a0.fSteps != b1.fSteps) = true then some false else (laws_eqHammerS a0.fHammers b1.fHammers).bind fun t_1 => (if (!t_1) = true then some false else some true))
theorem laws_eqFrame.calls (a0 : GFrame) (b1 : GFrame) (w : World) (r : Bool) {C_a : Option Addr} {C_an : Nat} (C_c : Nat) (C_h : Rw w C_a 2 encGHammer a0.fHammers) (C_hn : a0.fHammers.length = C_an) {F_a : Option Addr} {F_an : Nat} (F_c : Nat) (F_h : Rw w F_a 2 encGHammer b1.fHammers) (F_hn : b1.fHammers.length = F_an) (h : laws_eqFrame a0 b1 = some r) :
    Calls Try.prog 17 #[(.agg #[(.int .i16 a0.fSteps), (.slice C_a C_an C_c)]), (.agg #[(.int .i16 b1.fSteps), (.slice F_a F_an F_c)])] w fun e w' => ∃ v, e = .returned v ∧ (v = (.bool r) ∧ Mem w [] [] w') := by
  subst C_hn F_hn
  rw [laws_eqFrame] at h
  refine enter (args := [(.agg #[(.int .i16 a0.fSteps), (.slice C_a a0.fHammers.length C_c)]), (.agg #[(.int .i16 b1.fSteps), (.slice F_a b1.fHammers.length F_c)])]) Try.func17 rfl Try.ntmps17 (by kernel_rfl) (L := []) (W := []) (Mem.start w) ?_
  refine jc_seq (jc_region (tO (qa 0 (fun b_1 => jkO (tO (qa 0 (fun b_2 => jkO (qh [0] (qe (jx_then (jc_seq (jc_seq (jc_region (qh [0,0,0,1,0] (qe (jx_then (qi h (fun h => ?_) (fun h => ?_))))))))))))))))))
  ·refine jc_seq (jc_region (qh [0] (qe (jx_then (jc_ret (jx_thenr ?_))))))
   obtain rfl := Option.some.inj h
   exact qr [] (fun w hm => ⟨rfl, hm.pk []⟩)
  ·refine jc_skip (jx_then (jc_seq (jc_seq (jc_region (qh [0,0,0,1] ?_)))))
   obtain ⟨t_1, ht_5, h⟩ := bd h
   refine tO (pc 0 (fun w hm => laws_eqHammerS.calls a0.fHammers b1.fHammers w _ C_c (hm.xr C_h) rfl F_c (hm.xr F_h) rfl ht_5) ?_)
   rintro w v w' hm ⟨rfl, hm'⟩
   refine ⟨_, hm.app hm', jkO ?_⟩
   clear hm hm'
   refine qh [0] (qe (jx_then (qi h (fun h => ?_) (fun h => ?_))))
   ·refine jc_seq (jc_region (qh [0] (qe (jx_then (jc_ret (jx_thenr ?_))))))
    obtain rfl := Option.some.inj h
    exact qr [] (fun w hm => ⟨rfl, hm.pk []⟩)
   ·refine jc_skip (jx_then (jc_seq (jc_region (qh [0] (qe (jx_then (jc_ret ?_)))))))
    obtain rfl := Option.some.inj h
    exact qr [] (fun w hm => ⟨rfl, hm.pk []⟩)
/-! ### laws.eqNote -/
def laws_eqNote (a0 : GNote) (b1 : GNote) : Option (Bool) := (if (a0.fAt != b1.fAt) = true then some false else (if (a0.fPitch != b1.fPitch) = true then some false else some true))
theorem laws_eqNote.calls (a0 : GNote) (b1 : GNote) (w : World) (r : Bool) (h : laws_eqNote a0 b1 = some r) :
    Calls Try.prog 72 #[(.agg #[(.int .i16 a0.fAt), (.int .i8 a0.fPitch)]), (.agg #[(.int .i16 b1.fAt), (.int .i8 b1.fPitch)])] w fun e w' => ∃ v, e = .returned v ∧ (v = (.bool r) ∧ Mem w [] [] w') := by
  rw [laws_eqNote] at h
  refine enter (args := [(.agg #[(.int .i16 a0.fAt), (.int .i8 a0.fPitch)]), (.agg #[(.int .i16 b1.fAt), (.int .i8 b1.fPitch)])]) Try.func72 rfl Try.ntmps72 (by kernel_rfl) (L := []) (W := []) (Mem.start w) ?_
  refine jc_seq (jc_region (tO (qa 0 (fun b_1 => jkO (tO (qa 0 (fun b_2 => jkO (qh [0] (qe (jx_then (jc_seq (jc_seq (jc_region (qh [0,0,0,1,0] (qe (jx_then (qi h (fun h => ?_) (fun h => ?_))))))))))))))))))
  ·refine jc_seq (jc_region (qh [0] (qe (jx_then (jc_ret (jx_thenr ?_))))))
   obtain rfl := Option.some.inj h
   exact qr [] (fun w hm => ⟨rfl, hm.pk []⟩)
  ·refine jc_skip (jx_then (jc_seq (jc_seq (jc_region (qh [0,0,0,1,0] (qe (jx_then (qi h (fun h => ?_) (fun h => ?_)))))))))
   ·refine jc_seq (jc_region (qh [0] (qe (jx_then (jc_ret (jx_thenr ?_))))))
    obtain rfl := Option.some.inj h
    exact qr [] (fun w hm => ⟨rfl, hm.pk []⟩)
   ·refine jc_skip (jx_then (jc_seq (jc_region (qh [0] (qe (jx_then (jc_ret ?_)))))))
    obtain rfl := Option.some.inj h
    exact qr [] (fun w hm => ⟨rfl, hm.pk []⟩)
/-! ### laws.eqTune -/
def laws_eqTune.k_1 : Option (Bool) := some true
def laws_eqTune.l_3 (a0 : List GNote) (b1 : List GNote) : Int → Option ((Int) ⊕ (Bool ⊕ Unit))
  | i_2 => (if (decide (i_2 < (a0.length : Int))) = true then (ix a0 i_2).bind fun x_5 => (ix b1 i_2).bind fun x_6 => (laws_eqNote x_5 x_6).bind fun t_7 => (if (!t_7) = true then some (.inr (.inl false)) else some (.inl (w64 (i_2 + 1)))) else some (.inr (.inr ())))
def laws_eqTune (a0 : List GNote) (b1 : List GNote) : Option (Bool) := (if ((a0.length : Int) != (b1.length : Int)) = true then some false else (loop (laws_eqTune.l_3 a0 b1) 0).bind fun t_4 => match t_4 with | .inl p => some p | .inr p => laws_eqTune.k_1)
theorem laws_eqTune.calls (a0 : List GNote) (b1 : List GNote) (w : World) (r : Bool) {A_a : Option Addr} {A_an : Nat} (A_c : Nat) (A_h : Rw w A_a 2 encGNote a0) (A_hn : a0.length = A_an) {B_a : Option Addr} {B_an : Nat} (B_c : Nat) (B_h : Rw w B_a 2 encGNote b1) (B_hn : b1.length = B_an) (h : laws_eqTune a0 b1 = some r) :
    Calls Try.prog 29 #[(.slice A_a A_an A_c), (.slice B_a B_an B_c)] w fun e w' => ∃ v, e = .returned v ∧ (v = (.bool r) ∧ Mem w [] [] w') := by
  subst A_hn B_hn
  rw [laws_eqTune] at h
  refine enter (args := [(.slice A_a a0.length A_c), (.slice B_a b1.length B_c)]) Try.func29 rfl Try.ntmps29 (by kernel_rfl) (L := []) (W := []) (Mem.start w) ?_
  refine jc_seq (jc_region (qh [0] (qe (jx_then (jc_seq (jc_seq (jc_region (qh [0,0,0,0,0] (qe (jx_then (qi h (fun h => ?_) (fun h => ?_))))))))))))
  ·refine jc_seq (jc_region (qh [0] (qe (jx_then (jc_ret (jx_thenr ?_))))))
   obtain rfl := Option.some.inj h
   exact qr [] (fun w hm => ⟨rfl, hm.pk []⟩)
  ·refine jc_skip (jx_then (jc_seq (jc_seq (jc_region (qh [0] (qe (jx_then (jc_meet (fun (_ : Unit) => laws_eqTune.k_1 = some r) (fun (_ : Unit) => [(4, [], (.bool false))]) (fun (_ : Unit) => []) ?_ ?_))))))))
   ·refine jc_block ?_
    obtain ⟨t_4, ht_48, hr_38⟩ := bd h
    refine jc_loop (fun (s : Int) (x : Unit) => match s, x with | i_2, _ => True) (fun (s : Int) (x : Unit) => match s, x with | i_2, _ => [(0, [], (.slice A_a a0.length A_c)), (1, [], (.slice B_a b1.length B_c)), (4, [], (.bool false)), (5, [], (.int .i64 i_2))]) (fun (s : Int) (x : Unit) => match s, x with | i_2, _ => []) ht_48 () trivial (by kernel_rfl) [] (by kernel_rfl) (by kernel_rfl) ?_
    rintro i_2 _ y_39 _ h
    rw [laws_eqTune.l_3] at h
    refine jc_seq (jc_seq (jc_region (qh [0,0,0,0] (qe (jx_then (qi h (fun h => ?_) (fun h => ?_)))))))
    ·refine jc_skip (jx_then (jc_seq (jc_block (jc_seq (qg [] 10 (qd [⟨0, 0, 0⟩,⟨1, 0, 0⟩,⟨4, 0, 0⟩,⟨5, 0, 0⟩] 6 [] ?_))))))
     obtain ⟨x_5, hx_42, h⟩ := bd h
     refine qv 2 0 [] (fun w hm => idx_run (a := A_a) (len := a0.length) (s := 2) (j := i_2) (by kernel_rfl) (ix_some hx_42).1 (ltn hx_42 rfl) (A_h.sp hx_42)) (qv 3 0 [] (fun w hm => ld_run (b := aB A_a) (off := (aO A_a + i_2.toNat * 2)) (s := 2) (agg := true) (vs := (encGNote x_5)) (by kernel_rfl) (by kernel_rfl) (.inl rfl) ((hm.xr A_h).at hx_42)) ?_)
     obtain ⟨x_6, hx_43, h⟩ := bd h
     refine qv 6 0 [] (fun w hm => idx_run (a := B_a) (len := b1.length) (s := 2) (j := i_2) (by kernel_rfl) (ix_some hx_43).1 (ltn hx_43 rfl) (B_h.sp hx_43)) (qv 7 0 [] (fun w hm => ld_run (b := aB B_a) (off := (aO B_a + i_2.toNat * 2)) (s := 2) (agg := true) (vs := (encGNote x_6)) (by kernel_rfl) (by kernel_rfl) (.inl rfl) ((hm.xr B_h).at hx_43)) ?_)
     obtain ⟨t_7, ht_44, h⟩ := bd h
     refine tD 8 (pc 0 (fun w hm => laws_eqNote.calls x_5 x_6 w _ ht_44) ?_)
     rintro w v w' hm ⟨rfl, hm'⟩
     refine ⟨_, hm.app hm', kD [] ?_⟩
     clear hm hm'
     refine qd [⟨9, 0, 0⟩] 0 [] (qz (jx_then (qi h (fun h => ?_) (fun h => ?_))))
     ·refine jc_seq (jc_region (qh [0] (qe (jx_then (jc_ret (jx_inr (jx_thenr (jx_leaver (.inl false) (Option.some.inj h).symm (fun e_46 => ?_)))))))))
      subst e_46
      refine jx_inr (jx_thenr (jx_thenr ?_))
      obtain rfl := Option.some.inj hr_38
      exact qr [] (fun w hm => ⟨rfl, hm.pk []⟩)
     ·exact jc_skip (jx_inn (jx_then (jc_region (qh [0,0,0] (qe (qb (w64 (i_2 + 1)) () h trivial []))))))
    ·refine jc_exit (jx_thenx (jx_leave (.inr ()) (Option.some.inj h).symm (fun e_47 => ?_)))
     subst e_47
     exact jx_ine (qm () hr_38 [])
   ·rintro _ h
    replace h : laws_eqTune.k_1 = some r := h
    rw [laws_eqTune.k_1] at h
    refine jx_then (jc_seq (jc_region (qh [0] (qe (jx_then (jc_ret ?_))))))
    obtain rfl := Option.some.inj h
    exact qr [] (fun w hm => ⟨rfl, hm.pk []⟩)
/-! ### laws.markHammerS -/
def laws_markHammerS.k_3 (xs_1 : List GHammer) (i_2 : Int) : Option (Int × (List GHammer)) := some (i_2, xs_1)
def laws_markHammerS.l_7 (a0 : List GHammer) : ((List GHammer) × Int × Int) → Option (((List GHammer) × Int × Int) ⊕ (((List GHammer) × Int)))
  | (xs_4, i_5, i_6) => (if (decide (i_6 < (a0.length : Int))) = true then (ix xs_4 i_6).bind fun x_9 => (ix (xs_4.set i_6.toNat (⟨(w8 i_5), x_9.fReady⟩ : GHammer)) i_6).bind fun x_10 => some (.inl (((xs_4.set i_6.toNat (⟨(w8 i_5), x_9.fReady⟩ : GHammer)).set i_6.toNat (⟨x_10.fPitch, (w8 (w64 (i_5 + 1)))⟩ : GHammer)), (w64 ((w64 (i_5 + 1)) + 1)), (w64 (i_6 + 1)))) else some (.inr (xs_4, i_5)))
def laws_markHammerS (a0 : List GHammer) (k1 : Int) : Option (Int × (List GHammer)) := (loop (laws_markHammerS.l_7 a0) (a0, k1, 0)).bind fun t_8 => laws_markHammerS.k_3 t_8.1 t_8.2
theorem laws_markHammerS.calls (a0 : List GHammer) (k1 : Int) (w : World) (r : Int × (List GHammer)) (A_o : Option Nat) {A_on : Nat} {A_c : Nat} {A_sp : List Value} (A_hn : a0.length = A_on) (A_hs : A_o ≠ none → A_on ≤ A_c ∧ A_sp.length = (A_c - A_on) * 2) (A_ho : A_o = none → a0 = [] ∧ A_c = 0) (hm0 : Mem w (bs [A_o]) [⟨A_o, 110, row encGHammer a0 A_sp⟩] w) (h : laws_markHammerS a0 k1 = some r) :
    Calls Try.prog 62 #[(.slice (A_o.map fun b => ⟨b, 0, none⟩) A_on A_c), (.int .i64 k1)] w fun e w' => ∃ v, e = .returned v ∧ (r.2.length = A_on ∧ (A_o = none → r.2 = [] ∧ A_c = 0) ∧ v = (.int .i64 r.1) ∧ Mem w (bs [A_o]) [⟨A_o, 110, row encGHammer r.2 A_sp⟩] w') := by
  subst A_hn
  rw [laws_markHammerS] at h
  refine enter (args := [(.slice (A_o.map fun b => ⟨b, 0, none⟩) a0.length A_c), (.int .i64 k1)]) Try.func62 rfl Try.ntmps62 (by kernel_rfl) (L := [⟨A_o, 110, row encGHammer a0 A_sp⟩]) (W := bs [A_o]) hm0 ?_
  refine jc_seq (jc_region (qh [0] (qe (jx_then (jc_seq (jc_seq (jc_region (qh [0] (qe (jx_then (jc_meet (fun (j : (List GHammer) × Int) => match j with | ⟨xs_1, i_2⟩ => laws_markHammerS.k_3 xs_1 i_2 = some r ∧ (xs_1.length = a0.length) ∧ ((A_o = none → xs_1 = [] ∧ A_c = 0))) (fun (j : (List GHammer) × Int) => match j with | ⟨xs_1, i_2⟩ => [(1, [], (.int .i64 i_2)), (4, [], (.int .i64 0))]) (fun (j : (List GHammer) × Int) => match j with | ⟨xs_1, i_2⟩ => [⟨A_o, 110, row encGHammer xs_1 A_sp⟩]) ?_ ?_)))))))))))
  ·refine jc_block ?_
   obtain ⟨t_8, ht_84, hr_77⟩ := bd h
   refine jc_loop (fun (s : (List GHammer) × Int × Int) (x : Unit) => match s, x with | ⟨xs_4, i_5, i_6⟩, _ => (xs_4.length = a0.length) ∧ ((A_o = none → xs_4 = [] ∧ A_c = 0))) (fun (s : (List GHammer) × Int × Int) (x : Unit) => match s, x with | ⟨xs_4, i_5, i_6⟩, _ => [(0, [], (.slice (A_o.map fun b => ⟨b, 0, none⟩) a0.length A_c)), (1, [], (.int .i64 i_5)), (4, [], (.int .i64 0)), (5, [], (.int .i64 i_6))]) (fun (s : (List GHammer) × Int × Int) (x : Unit) => match s, x with | ⟨xs_4, i_5, i_6⟩, _ => [⟨A_o, 110, row encGHammer xs_4 A_sp⟩]) ht_84 () ⟨rfl, A_ho⟩ (by kernel_rfl) [0] (by kernel_rfl) (by kernel_rfl) ?_
   rintro ⟨xs_4, i_5, i_6⟩ _ y_78 ⟨hn_76, ho_75⟩ h
   rw [laws_markHammerS.l_7] at h
   refine jc_seq (jc_seq (jc_region (qh [0,0,0,0] (qe (jx_then (qi h (fun h => ?_) (fun h => ?_)))))))
   ·refine jc_skip (jx_then (jc_seq (jc_block (jc_seq (jc_region (qh [0,0,0,0] ?_))))))
    obtain ⟨x_9, hx_81, h⟩ := bd h
    refine tO (qx 0 (A_o.map fun b => ⟨b, 0, none⟩) 2 hx_81 hn_76 (spo ho_75 hx_81) (jkO (qh [0] (tO (p_strO 0 0 A_o 110 encGHammer xs_4 A_sp i_6 (⟨(w8 i_5), x_9.fReady⟩ : GHammer) 2 0 [(.int .i8 (w8 i_5))] (by kernel_rfl) (by kernel_rfl) (by kernel_rfl) (fun e => (ho_75 e).1) encGHammer_len hx_81 (by kernel_rfl) (by kernel_rfl) (jkO (qe (jx_then (jc_seq (jc_region (qh [0,0,0] (qe (jx_then (jc_seq (jc_region (qh [0,0,0,0] ?_))))))))))))))))
    obtain ⟨x_10, hx_82, h⟩ := bd h
    exact tO (qx 0 (A_o.map fun b => ⟨b, 0, none⟩) 2 hx_82 (List.length_set.trans hn_76) (spo (set_ho ho_75) hx_82) (jkO (qh [0] (tO (p_strO 0 0 A_o 110 encGHammer (xs_4.set i_6.toNat (⟨(w8 i_5), x_9.fReady⟩ : GHammer)) A_sp i_6 (⟨x_10.fPitch, (w8 (w64 (i_5 + 1)))⟩ : GHammer) 2 1 [(.int .i8 (w8 (w64 (i_5 + 1))))] (by kernel_rfl) (by kernel_rfl) (by kernel_rfl) (fun e => ((set_ho ho_75) e).1) encGHammer_len hx_82 (by kernel_rfl) (by kernel_rfl) (jkO (qe (jx_then (jc_region (qh [0,0,0] (qe (jx_inn (jx_then (jc_region (qh [0,0,0] (qe (qb (((xs_4.set i_6.toNat (⟨(w8 i_5), x_9.fReady⟩ : GHammer)).set i_6.toNat (⟨x_10.fPitch, (w8 (w64 (i_5 + 1)))⟩ : GHammer)), (w64 ((w64 (i_5 + 1)) + 1)), (w64 (i_6 + 1))) () h ⟨(List.length_set.trans (List.length_set.trans hn_76)), (set_ho (set_ho ho_75))⟩ [0])))))))))))))))))
   ·refine jc_exit (jx_thenx (jx_leave (xs_4, i_5) (Option.some.inj h).symm (fun e_83 => ?_)))
    subst e_83
    exact jx_ine (qm ⟨xs_4, i_5⟩ ⟨hr_77, hn_76, ho_75⟩ [0])
  ·rintro ⟨xs_1, i_2⟩ ⟨h, hn_64, ho_63⟩
   replace h : laws_markHammerS.k_3 xs_1 i_2 = some r := h
   rw [laws_markHammerS.k_3] at h
   refine jx_then (jc_seq (jc_region (qh [0,0] (qe (jx_then (jc_ret ?_))))))
   obtain rfl := Option.some.inj h
   exact qr [] (fun w hm => ⟨hn_64, ho_63, rfl, hm.pk [0]⟩)
/-! ### laws.markFrame -/
def laws_markFrame (a0 : GFrame) (k1 : Int) : Option (Int × (List GHammer)) := (laws_markHammerS a0.fHammers k1).bind fun t_1 => some (t_1.1, t_1.2)
theorem laws_markFrame.calls (a0 : GFrame) (k1 : Int) (w : World) (r : Int × (List GHammer)) (C_o : Option Nat) {C_on : Nat} {C_c : Nat} {C_sp : List Value} (C_hn : a0.fHammers.length = C_on) (C_hs : C_o ≠ none → C_on ≤ C_c ∧ C_sp.length = (C_c - C_on) * 2) (C_ho : C_o = none → a0.fHammers = [] ∧ C_c = 0) (hm0 : Mem w (bs [C_o]) [⟨C_o, 110, row encGHammer a0.fHammers C_sp⟩] w) (h : laws_markFrame a0 k1 = some r) :
    Calls Try.prog 19 #[(.agg #[(.int .i16 a0.fSteps), (.slice (C_o.map fun b => ⟨b, 0, none⟩) C_on C_c)]), (.int .i64 k1)] w fun e w' => ∃ v, e = .returned v ∧ (r.2.length = C_on ∧ (C_o = none → r.2 = [] ∧ C_c = 0) ∧ v = (.int .i64 r.1) ∧ Mem w (bs [C_o]) [⟨C_o, 110, row encGHammer r.2 C_sp⟩] w') := by
  subst C_hn
  rw [laws_markFrame] at h
  refine enter (args := [(.agg #[(.int .i16 a0.fSteps), (.slice (C_o.map fun b => ⟨b, 0, none⟩) a0.fHammers.length C_c)]), (.int .i64 k1)]) Try.func19 rfl Try.ntmps19 (by kernel_rfl) (L := [⟨C_o, 110, row encGHammer a0.fHammers C_sp⟩]) (W := bs [C_o]) hm0 ?_
  refine jc_seq (jc_region (tO (qa 0 (fun b_1 => jkO (qh [0] (qe (jx_then (jc_seq (jc_region (qh [0,1,0] ?_))))))))))
  obtain ⟨t_1, ht_2, h⟩ := bd h
  refine tO (pc 0 (fun w hm => laws_markHammerS.calls a0.fHammers k1 w _ C_o rfl C_hs C_ho (hm.pass (N := [⟨C_o, 110, row encGHammer a0.fHammers C_sp⟩]) [0] (by kernel_rfl) (by kernel_rfl)) ht_2) ?_)
  rintro w v w' hm ⟨hn_3, ho_4, rfl, hm'⟩
  refine ⟨_, hm.appW (ps := [(0, ⟨C_o, 110, row encGHammer t_1.2 C_sp⟩)]) (N := []) hm' (by kernel_rfl) (by kernel_rfl), jkO ?_⟩
  clear hm hm'
  refine qh [0] (qe (jx_then (jc_seq (jc_region (qh [0,0] (qe (jx_then (jc_ret ?_))))))))
  obtain rfl := Option.some.inj h
  exact qr [] (fun w hm => ⟨hn_3, ho_4, rfl, hm.pk [0]⟩)
/-! ### laws.markTune -/
def laws_markTune.k_3 (xs_1 : List GNote) (i_2 : Int) : Option (Int × (List GNote)) := some (i_2, xs_1)
def laws_markTune.l_7 (a0 : List GNote) : ((List GNote) × Int × Int) → Option (((List GNote) × Int × Int) ⊕ (((List GNote) × Int)))
  | (xs_4, i_5, i_6) => (if (decide (i_6 < (a0.length : Int))) = true then (ix xs_4 i_6).bind fun x_9 => (ix (xs_4.set i_6.toNat (⟨(w16 i_5), x_9.fPitch⟩ : GNote)) i_6).bind fun x_10 => some (.inl (((xs_4.set i_6.toNat (⟨(w16 i_5), x_9.fPitch⟩ : GNote)).set i_6.toNat (⟨x_10.fAt, (w8 (w64 (i_5 + 1)))⟩ : GNote)), (w64 ((w64 (i_5 + 1)) + 1)), (w64 (i_6 + 1)))) else some (.inr (xs_4, i_5)))
def laws_markTune (a0 : List GNote) (k1 : Int) : Option (Int × (List GNote)) := (loop (laws_markTune.l_7 a0) (a0, k1, 0)).bind fun t_8 => laws_markTune.k_3 t_8.1 t_8.2
theorem laws_markTune.calls (a0 : List GNote) (k1 : Int) (w : World) (r : Int × (List GNote)) (A_o : Option Nat) {A_on : Nat} {A_c : Nat} {A_sp : List Value} (A_hn : a0.length = A_on) (A_hs : A_o ≠ none → A_on ≤ A_c ∧ A_sp.length = (A_c - A_on) * 2) (A_ho : A_o = none → a0 = [] ∧ A_c = 0) (hm0 : Mem w (bs [A_o]) [⟨A_o, 104, row encGNote a0 A_sp⟩] w) (h : laws_markTune a0 k1 = some r) :
    Calls Try.prog 30 #[(.slice (A_o.map fun b => ⟨b, 0, none⟩) A_on A_c), (.int .i64 k1)] w fun e w' => ∃ v, e = .returned v ∧ (r.2.length = A_on ∧ (A_o = none → r.2 = [] ∧ A_c = 0) ∧ v = (.int .i64 r.1) ∧ Mem w (bs [A_o]) [⟨A_o, 104, row encGNote r.2 A_sp⟩] w') := by
  subst A_hn
  rw [laws_markTune] at h
  refine enter (args := [(.slice (A_o.map fun b => ⟨b, 0, none⟩) a0.length A_c), (.int .i64 k1)]) Try.func30 rfl Try.ntmps30 (by kernel_rfl) (L := [⟨A_o, 104, row encGNote a0 A_sp⟩]) (W := bs [A_o]) hm0 ?_
  refine jc_seq (jc_region (qh [0] (qe (jx_then (jc_seq (jc_seq (jc_region (qh [0] (qe (jx_then (jc_meet (fun (j : (List GNote) × Int) => match j with | ⟨xs_1, i_2⟩ => laws_markTune.k_3 xs_1 i_2 = some r ∧ (xs_1.length = a0.length) ∧ ((A_o = none → xs_1 = [] ∧ A_c = 0))) (fun (j : (List GNote) × Int) => match j with | ⟨xs_1, i_2⟩ => [(1, [], (.int .i64 i_2)), (4, [], (.int .i64 0))]) (fun (j : (List GNote) × Int) => match j with | ⟨xs_1, i_2⟩ => [⟨A_o, 104, row encGNote xs_1 A_sp⟩]) ?_ ?_)))))))))))
  ·refine jc_block ?_
   obtain ⟨t_8, ht_84, hr_77⟩ := bd h
   refine jc_loop (fun (s : (List GNote) × Int × Int) (x : Unit) => match s, x with | ⟨xs_4, i_5, i_6⟩, _ => (xs_4.length = a0.length) ∧ ((A_o = none → xs_4 = [] ∧ A_c = 0))) (fun (s : (List GNote) × Int × Int) (x : Unit) => match s, x with | ⟨xs_4, i_5, i_6⟩, _ => [(0, [], (.slice (A_o.map fun b => ⟨b, 0, none⟩) a0.length A_c)), (1, [], (.int .i64 i_5)), (4, [], (.int .i64 0)), (5, [], (.int .i64 i_6))]) (fun (s : (List GNote) × Int × Int) (x : Unit) => match s, x with | ⟨xs_4, i_5, i_6⟩, _ => [⟨A_o, 104, row encGNote xs_4 A_sp⟩]) ht_84 () ⟨rfl, A_ho⟩ (by kernel_rfl) [0] (by kernel_rfl) (by kernel_rfl) ?_
   rintro ⟨xs_4, i_5, i_6⟩ _ y_78 ⟨hn_76, ho_75⟩ h
   rw [laws_markTune.l_7] at h
   refine jc_seq (jc_seq (jc_region (qh [0,0,0,0] (qe (jx_then (qi h (fun h => ?_) (fun h => ?_)))))))
   ·refine jc_skip (jx_then (jc_seq (jc_block (jc_seq (jc_region (qh [0,0,0,0] ?_))))))
    obtain ⟨x_9, hx_81, h⟩ := bd h
    refine tO (qx 0 (A_o.map fun b => ⟨b, 0, none⟩) 2 hx_81 hn_76 (spo ho_75 hx_81) (jkO (qh [0] (tO (p_strO 0 0 A_o 104 encGNote xs_4 A_sp i_6 (⟨(w16 i_5), x_9.fPitch⟩ : GNote) 2 0 [(.int .i16 (w16 i_5))] (by kernel_rfl) (by kernel_rfl) (by kernel_rfl) (fun e => (ho_75 e).1) encGNote_len hx_81 (by kernel_rfl) (by kernel_rfl) (jkO (qe (jx_then (jc_seq (jc_region (qh [0,0,0] (qe (jx_then (jc_seq (jc_region (qh [0,0,0,0] ?_))))))))))))))))
    obtain ⟨x_10, hx_82, h⟩ := bd h
    exact tO (qx 0 (A_o.map fun b => ⟨b, 0, none⟩) 2 hx_82 (List.length_set.trans hn_76) (spo (set_ho ho_75) hx_82) (jkO (qh [0] (tO (p_strO 0 0 A_o 104 encGNote (xs_4.set i_6.toNat (⟨(w16 i_5), x_9.fPitch⟩ : GNote)) A_sp i_6 (⟨x_10.fAt, (w8 (w64 (i_5 + 1)))⟩ : GNote) 2 1 [(.int .i8 (w8 (w64 (i_5 + 1))))] (by kernel_rfl) (by kernel_rfl) (by kernel_rfl) (fun e => ((set_ho ho_75) e).1) encGNote_len hx_82 (by kernel_rfl) (by kernel_rfl) (jkO (qe (jx_then (jc_region (qh [0,0,0] (qe (jx_inn (jx_then (jc_region (qh [0,0,0] (qe (qb (((xs_4.set i_6.toNat (⟨(w16 i_5), x_9.fPitch⟩ : GNote)).set i_6.toNat (⟨x_10.fAt, (w8 (w64 (i_5 + 1)))⟩ : GNote)), (w64 ((w64 (i_5 + 1)) + 1)), (w64 (i_6 + 1))) () h ⟨(List.length_set.trans (List.length_set.trans hn_76)), (set_ho (set_ho ho_75))⟩ [0])))))))))))))))))
   ·refine jc_exit (jx_thenx (jx_leave (xs_4, i_5) (Option.some.inj h).symm (fun e_83 => ?_)))
    subst e_83
    exact jx_ine (qm ⟨xs_4, i_5⟩ ⟨hr_77, hn_76, ho_75⟩ [0])
  ·rintro ⟨xs_1, i_2⟩ ⟨h, hn_64, ho_63⟩
   replace h : laws_markTune.k_3 xs_1 i_2 = some r := h
   rw [laws_markTune.k_3] at h
   refine jx_then (jc_seq (jc_region (qh [0,0] (qe (jx_then (jc_ret ?_))))))
   obtain rfl := Option.some.inj h
   exact qr [] (fun w hm => ⟨hn_64, ho_63, rfl, hm.pk [0]⟩)
/-! ### laws.markInt64S -/
def laws_markInt64S.k_3 (xs_1 : List Int) (i_2 : Int) : Option (Int × (List Int)) := some (i_2, xs_1)
def laws_markInt64S.l_7 (a0 : List Int) : ((List Int) × Int × Int) → Option (((List Int) × Int × Int) ⊕ (((List Int) × Int)))
  | (xs_4, i_5, i_6) => (if (decide (i_6 < (a0.length : Int))) = true then (ix xs_4 i_6).bind fun x_9 => some (.inl ((xs_4.set i_6.toNat i_5), (w64 (i_5 + 1)), (w64 (i_6 + 1)))) else some (.inr (xs_4, i_5)))
def laws_markInt64S (a0 : List Int) (k1 : Int) : Option (Int × (List Int)) := (loop (laws_markInt64S.l_7 a0) (a0, k1, 0)).bind fun t_8 => laws_markInt64S.k_3 t_8.1 t_8.2
theorem laws_markInt64S.calls (a0 : List Int) (k1 : Int) (w : World) (r : Int × (List Int)) (A_o : Option Nat) {A_on : Nat} {A_c : Nat} {A_sp : List Value} (A_hn : a0.length = A_on) (A_hs : A_o ≠ none → A_on ≤ A_c ∧ A_sp.length = (A_c - A_on) * 1) (A_ho : A_o = none → a0 = [] ∧ A_c = 0) (hm0 : Mem w (bs [A_o]) [⟨A_o, 2, row encI64 a0 A_sp⟩] w) (h : laws_markInt64S a0 k1 = some r) :
    Calls Try.prog 21 #[(.slice (A_o.map fun b => ⟨b, 0, none⟩) A_on A_c), (.int .i64 k1)] w fun e w' => ∃ v, e = .returned v ∧ (r.2.length = A_on ∧ (A_o = none → r.2 = [] ∧ A_c = 0) ∧ v = (.int .i64 r.1) ∧ Mem w (bs [A_o]) [⟨A_o, 2, row encI64 r.2 A_sp⟩] w') := by
  subst A_hn
  rw [laws_markInt64S] at h
  refine enter (args := [(.slice (A_o.map fun b => ⟨b, 0, none⟩) a0.length A_c), (.int .i64 k1)]) Try.func21 rfl Try.ntmps21 (by kernel_rfl) (L := [⟨A_o, 2, row encI64 a0 A_sp⟩]) (W := bs [A_o]) hm0 ?_
  refine jc_seq (jc_region (qh [0] (qe (jx_then (jc_seq (jc_seq (jc_region (qh [0] (qe (jx_then (jc_meet (fun (j : (List Int) × Int) => match j with | ⟨xs_1, i_2⟩ => laws_markInt64S.k_3 xs_1 i_2 = some r ∧ (xs_1.length = a0.length) ∧ ((A_o = none → xs_1 = [] ∧ A_c = 0))) (fun (j : (List Int) × Int) => match j with | ⟨xs_1, i_2⟩ => [(1, [], (.int .i64 i_2)), (4, [], (.int .i64 0))]) (fun (j : (List Int) × Int) => match j with | ⟨xs_1, i_2⟩ => [⟨A_o, 2, row encI64 xs_1 A_sp⟩]) ?_ ?_)))))))))))
  ·refine jc_block ?_
   obtain ⟨t_8, ht_72, hr_66⟩ := bd h
   refine jc_loop (fun (s : (List Int) × Int × Int) (x : Unit) => match s, x with | ⟨xs_4, i_5, i_6⟩, _ => (xs_4.length = a0.length) ∧ ((A_o = none → xs_4 = [] ∧ A_c = 0))) (fun (s : (List Int) × Int × Int) (x : Unit) => match s, x with | ⟨xs_4, i_5, i_6⟩, _ => [(0, [], (.slice (A_o.map fun b => ⟨b, 0, none⟩) a0.length A_c)), (1, [], (.int .i64 i_5)), (4, [], (.int .i64 0)), (5, [], (.int .i64 i_6))]) (fun (s : (List Int) × Int × Int) (x : Unit) => match s, x with | ⟨xs_4, i_5, i_6⟩, _ => [⟨A_o, 2, row encI64 xs_4 A_sp⟩]) ht_72 () ⟨rfl, A_ho⟩ (by kernel_rfl) [0] (by kernel_rfl) (by kernel_rfl) ?_
   rintro ⟨xs_4, i_5, i_6⟩ _ y_67 ⟨hn_65, ho_64⟩ h
   rw [laws_markInt64S.l_7] at h
   refine jc_seq (jc_seq (jc_region (qh [0,0,0,0] (qe (jx_then (qi h (fun h => ?_) (fun h => ?_)))))))
   ·refine jc_skip (jx_then (jc_seq (jc_block (jc_seq (jc_region (qh [0,0,0] ?_))))))
    obtain ⟨x_9, hx_70, h⟩ := bd h
    exact tO (qx 0 (A_o.map fun b => ⟨b, 0, none⟩) 1 hx_70 hn_65 (spo ho_64 hx_70) (jkO (tO (p_strO 0 0 A_o 2 encI64 xs_4 A_sp i_6 i_5 1 0 [(.int .i64 i_5)] (by kernel_rfl) (by kernel_rfl) (by kernel_rfl) (fun e => (ho_64 e).1) encI64_len hx_70 (by kernel_rfl) (by kernel_rfl) (jkO (qe (jx_then (jc_region (qh [0,0,0] (qe (jx_inn (jx_then (jc_region (qh [0,0,0] (qe (qb ((xs_4.set i_6.toNat i_5), (w64 (i_5 + 1)), (w64 (i_6 + 1))) () h ⟨(List.length_set.trans hn_65), (set_ho ho_64)⟩ [0]))))))))))))))))
   ·refine jc_exit (jx_thenx (jx_leave (xs_4, i_5) (Option.some.inj h).symm (fun e_71 => ?_)))
    subst e_71
    exact jx_ine (qm ⟨xs_4, i_5⟩ ⟨hr_66, hn_65, ho_64⟩ [0])
  ·rintro ⟨xs_1, i_2⟩ ⟨h, hn_55, ho_54⟩
   replace h : laws_markInt64S.k_3 xs_1 i_2 = some r := h
   rw [laws_markInt64S.k_3] at h
   refine jx_then (jc_seq (jc_region (qh [0,0] (qe (jx_then (jc_ret ?_))))))
   obtain rfl := Option.some.inj h
   exact qr [] (fun w hm => ⟨hn_55, ho_54, rfl, hm.pk [0]⟩)
/-! ### laws.heldInt64S -/
def laws_heldInt64S.k_2 (i_1 : Int) : Option (Int) := some i_1
def laws_heldInt64S.l_5 (a0 : List Int) : (Int × Int) → Option ((Int × Int) ⊕ (Int ⊕ Int))
  | (i_3, i_4) => (if (decide (i_4 < (a0.length : Int))) = true then (ix a0 i_4).bind fun x_7 => (if (x_7 != i_3) = true then some (.inr (.inl (-1))) else some (.inl ((w64 (i_3 + 1)), (w64 (i_4 + 1))))) else some (.inr (.inr i_3)))
def laws_heldInt64S (a0 : List Int) (k1 : Int) : Option (Int) := (loop (laws_heldInt64S.l_5 a0) (k1, 0)).bind fun t_6 => match t_6 with | .inl p => some p | .inr p => laws_heldInt64S.k_2 p
theorem laws_heldInt64S.calls (a0 : List Int) (k1 : Int) (w : World) (r : Int) {A_a : Option Addr} {A_an : Nat} (A_c : Nat) (A_h : Rw w A_a 1 encI64 a0) (A_hn : a0.length = A_an) (h : laws_heldInt64S a0 k1 = some r) :
    Calls Try.prog 22 #[(.slice A_a A_an A_c), (.int .i64 k1)] w fun e w' => ∃ v, e = .returned v ∧ (v = (.int .i64 r) ∧ Mem w [] [] w') := by
  subst A_hn
  rw [laws_heldInt64S] at h
  refine enter (args := [(.slice A_a a0.length A_c), (.int .i64 k1)]) Try.func22 rfl Try.ntmps22 (by kernel_rfl) (L := []) (W := []) (Mem.start w) ?_
  refine jc_seq (jc_region (qh [0] (qe (jx_then (jc_seq (jc_seq (jc_region (qh [0] (qe (jx_then (jc_meet (fun (j : Int) => match j with | i_1 => laws_heldInt64S.k_2 i_1 = some r) (fun (j : Int) => match j with | i_1 => [(1, [], (.int .i64 i_1)), (4, [], (.int .i64 0))]) (fun (j : Int) => match j with | i_1 => []) ?_ ?_)))))))))))
  ·refine jc_block ?_
   obtain ⟨t_6, ht_68, hr_60⟩ := bd h
   refine jc_loop (fun (s : Int × Int) (x : Unit) => match s, x with | ⟨i_3, i_4⟩, _ => True) (fun (s : Int × Int) (x : Unit) => match s, x with | ⟨i_3, i_4⟩, _ => [(0, [], (.slice A_a a0.length A_c)), (1, [], (.int .i64 i_3)), (4, [], (.int .i64 0)), (5, [], (.int .i64 i_4))]) (fun (s : Int × Int) (x : Unit) => match s, x with | ⟨i_3, i_4⟩, _ => []) ht_68 () trivial (by kernel_rfl) [] (by kernel_rfl) (by kernel_rfl) ?_
   rintro ⟨i_3, i_4⟩ _ y_61 _ h
   rw [laws_heldInt64S.l_5] at h
   refine jc_seq (jc_seq (jc_region (qh [0,0,0,0] (qe (jx_then (qi h (fun h => ?_) (fun h => ?_)))))))
   ·refine jc_skip (jx_then (jc_seq (jc_block (jc_seq (jc_seq (jc_region (qh [0,0] ?_)))))))
    obtain ⟨x_7, hx_64, h⟩ := bd h
    refine tO (qx 0 A_a 1 hx_64 rfl (A_h.sp hx_64) (jkO (tO (ql 0 false (fun w hm => ((hm.xr A_h).at hx_64)) (jkO (qh [0,0] (qe (jx_then (qi h (fun h => ?_) (fun h => ?_))))))))))
    ·refine jc_seq (jc_region (qh [0] (qe (jx_then (jc_ret (jx_thenr (jx_inr (jx_thenr (jx_leaver (.inl (-1)) (Option.some.inj h).symm (fun e_66 => ?_))))))))))
     subst e_66
     refine jx_inr (jx_thenr (jx_thenr ?_))
     obtain rfl := Option.some.inj hr_60
     exact qr [] (fun w hm => ⟨rfl, hm.pk []⟩)
    ·exact jc_skip (jx_then (jc_region (qh [0,0,0] (qe (jx_inn (jx_then (jc_region (qh [0,0,0] (qe (qb ((w64 (i_3 + 1)), (w64 (i_4 + 1))) () h trivial []))))))))))
   ·refine jc_exit (jx_thenx (jx_leave (.inr i_3) (Option.some.inj h).symm (fun e_67 => ?_)))
    subst e_67
    exact jx_ine (qm i_3 hr_60 [])
  ·rintro i_1 h
   replace h : laws_heldInt64S.k_2 i_1 = some r := h
   rw [laws_heldInt64S.k_2] at h
   refine jx_then (jc_seq (jc_region (qh [0,0] (qe (jx_then (jc_ret ?_))))))
   obtain rfl := Option.some.inj h
   exact qr [] (fun w hm => ⟨rfl, hm.pk []⟩)
/-! ### laws.FnExactNeedlessTracks -/
def laws_FnExactNeedlessTracks.k_17 (aF0 : GFrame) (aT1 : List GNote) (t_5 : (List Int) × Int) (t_8 : (List Int) × Int) (q_16 : Bool) : Option (Bool) := (if q_16 = true then some false else (laws_markInt64S t_8.1 1).bind fun t_18 => (laws_heldInt64S t_18.2 1).bind fun t_19 => (if (decide (t_19 < 0)) = true then some false else (if (t_19 != t_18.1) = true then some false else (laws_toFrame aF0).bind fun t_20 => (laws_toTune aT1).bind fun t_21 => (impl_NeedlessTracks t_20 t_21).bind fun t_22 => (laws_eqInt64S t_22.1 t_5.1).bind fun t_23 => (if ((!t_23) || (t_22.2 != t_5.2)) = true then some false else (laws_heldInt64S t_18.2 1).bind fun t_24 => (if (decide (t_24 < 0)) = true then some false else (if (t_24 != t_18.1) = true then some false else some true))))))
def laws_FnExactNeedlessTracks (aF0 : GFrame) (aT1 : List GNote) : Option (Bool) := (laws_szFrame aF0 1048576).bind fun t_1 => (if (decide (t_1 < 0)) = true then some true else (laws_szTune aT1 t_1).bind fun t_2 => (if (decide (t_2 < 0)) = true then some true else (laws_toFrame aF0).bind fun t_3 => (laws_toTune aT1).bind fun t_4 => (spec_NeedlessTracks t_3 t_4).bind fun t_5 => (laws_toFrame aF0).bind fun t_6 => (laws_toTune aT1).bind fun t_7 => (impl_NeedlessTracks t_6 t_7).bind fun t_8 => (laws_eqInt64S t_8.1 t_5.1).bind fun t_9 => (if ((!t_9) || (t_8.2 != t_5.2)) = true then some false else (laws_toFrame aF0).bind fun t_10 => (laws_eqFrame t_6 t_10).bind fun t_11 => (if (!t_11) = true then some false else (laws_toTune aT1).bind fun t_12 => (laws_eqTune t_7 t_12).bind fun t_13 => (if (!t_13) = true then some false else (laws_markFrame t_6 1).bind fun t_14 => (laws_markTune t_7 t_14.1).bind fun t_15 => (if (decide (t_15.1 < 0)) = true then laws_FnExactNeedlessTracks.k_17 aF0 aT1 t_5 t_8 true else (laws_eqInt64S t_8.1 t_5.1).bind fun t_25 => laws_FnExactNeedlessTracks.k_17 aF0 aT1 t_5 t_8 ((!t_25) || (t_8.2 != t_5.2))))))))
set_option maxHeartbeats 8000000 in
theorem laws_FnExactNeedlessTracks.calls (aF0 : GFrame) (aT1 : List GNote) (w : World) (r : Bool) {C_a : Option Addr} {C_an : Nat} (C_c : Nat) (C_h : Rw w C_a 2 encGHammer aF0.fHammers) (C_hn : aF0.fHammers.length = C_an) {D_a : Option Addr} {D_an : Nat} (D_c : Nat) (D_h : Rw w D_a 2 encGNote aT1) (D_hn : aT1.length = D_an) (h : laws_FnExactNeedlessTracks aF0 aT1 = some r) :
    Calls Try.prog 5 #[(.agg #[(.int .i16 aF0.fSteps), (.slice C_a C_an C_c)]), (.slice D_a D_an D_c)] w fun e w' => ∃ v, e = .returned v ∧ (v = (.bool r) ∧ Mem w [] [] w') := by
  subst C_hn D_hn
  rw [laws_FnExactNeedlessTracks] at h
  refine enter (args := [(.agg #[(.int .i16 aF0.fSteps), (.slice C_a aF0.fHammers.length C_c)]), (.slice D_a aT1.length D_c)]) Try.func5 rfl Try.ntmps5 (by kernel_rfl) (L := []) (W := []) (Mem.start w) ?_
  refine jc_seq (jc_region (tO (qa 0 (fun b_1 => jkO (qh [0] (qe (jx_then (jc_seq (jc_region (qh [0] (qe (jx_then (jc_seq (jc_region (qh [0,0] ?_)))))))))))))))
  obtain ⟨t_1, ht_2, h⟩ := bd h
  refine tO (pc 0 (fun w hm => laws_szFrame.calls aF0 1048576 w _ C_c (hm.xr C_h) rfl ht_2) ?_)
  rintro w v w' hm ⟨rfl, hm'⟩
  refine ⟨_, hm.app hm', jkO ?_⟩
  clear hm hm'
  refine qh [0] (qe (jx_then (jc_seq (jc_seq (jc_region (qh [0,0] (qe (jx_then (qi h (fun h => ?_) (fun h => ?_))))))))))
  ·refine jc_seq (jc_region (qh [0] (qe (jx_then (jc_ret (jx_thenr ?_))))))
   obtain rfl := Option.some.inj h
   exact qr [] (fun w hm => ⟨rfl, hm.pk []⟩)
  ·refine jc_skip (jx_then (jc_seq (jc_region (qh [0,0] ?_))))
   obtain ⟨t_2, ht_5, h⟩ := bd h
   refine tO (pc 0 (fun w hm => laws_szTune.calls aT1 t_1 w _ D_c (hm.xr D_h) rfl ht_5) ?_)
   rintro w v w' hm ⟨rfl, hm'⟩
   refine ⟨_, hm.app hm', jkO ?_⟩
   clear hm hm'
   refine qh [0] (qe (jx_then (jc_seq (jc_seq (jc_region (qh [0,0] (qe (jx_then (qi h (fun h => ?_) (fun h => ?_))))))))))
   ·refine jc_seq (jc_region (qh [0] (qe (jx_then (jc_ret (jx_thenr ?_))))))
    obtain rfl := Option.some.inj h
    exact qr [] (fun w hm => ⟨rfl, hm.pk []⟩)
   ·refine jc_skip (jx_then (jc_seq (jc_region (qh [0] ?_))))
    obtain ⟨t_3, ht_8, h⟩ := bd h
    refine tO (pc 0 (fun w hm => laws_toFrame.calls aF0 w _ C_c (hm.xr C_h) rfl ht_8) ?_)
    rintro w v w' hm ⟨o_9, cap_10, sp_11, _, rfl, hs_12, ho_13, rfl, hm'⟩
    refine ⟨_, hm.app hm', jkO ?_⟩
    clear hm hm'
    refine qh [0] ?_
    obtain ⟨t_4, ht_14, h⟩ := bd h
    refine tO (pc 0 (fun w hm => laws_toTune.calls aT1 w _ D_c (hm.xr D_h) rfl ht_14) ?_)
    rintro w v w' hm ⟨o_15, cap_16, sp_17, _, rfl, hs_18, ho_19, rfl, hm'⟩
    refine ⟨_, hm.app hm', jkO ?_⟩
    clear hm hm'
    obtain ⟨t_5, ht_20, h⟩ := bd h
    refine tO (pc 0 (fun w hm => spec_NeedlessTracks.calls t_3 t_4 w _ cap_16 (hm.ow 2 o_15 104 t_4 sp_17 (fun e => (ho_19 e).1) encGNote_len) rfl o_9 rfl hs_12 ho_13 (hm.pass (N := [⟨o_9, 110, row encGHammer t_3.fHammers sp_11⟩]) [1] (by kernel_rfl) (by kernel_rfl)) (hm.ownApart (S := GNote) (N := [⟨o_9, 110, row encGHammer t_3.fHammers sp_11⟩]) (hh := 2) (o := o_15) (T := 104) (cs := row encGNote t_4 sp_17) (xs := t_4) (by kernel_rfl) (fun e => (ho_19 e).1) [1] (by kernel_rfl) (by kernel_rfl)) ht_20) ?_)
    rintro w v w' hm ⟨o_21, cap_22, sp_23, _, rfl, hs_24, ho_25, rfl, hm'⟩
    refine ⟨_, hm.appW (ps := [(1, ⟨o_9, 110, row encGHammer t_3.fHammers sp_11⟩)]) (N := [⟨o_21, 2, row encI64 t_5.1 sp_23⟩]) hm' (by kernel_rfl) (by kernel_rfl), jkO ?_⟩
    clear hm hm'
    refine qh [0,0,0,0,0] (qe (jx_then (jc_seq (jc_region (qh [0] ?_)))))
    obtain ⟨t_6, ht_26, h⟩ := bd h
    refine tO (pc 0 (fun w hm => laws_toFrame.calls aF0 w _ C_c (hm.xr C_h) rfl ht_26) ?_)
    rintro w v w' hm ⟨o_27, cap_28, sp_29, _, rfl, hs_30, ho_31, rfl, hm'⟩
    refine ⟨_, hm.app hm', jkO ?_⟩
    clear hm hm'
    refine tO (qa 0 (fun b_32 => jkO (tO (qs 0 [5] (jkO (qe (jx_then (jc_seq (jc_region (qh [0] ?_))))))))))
    obtain ⟨t_7, ht_33, h⟩ := bd h
    refine tO (pc 0 (fun w hm => laws_toTune.calls aT1 w _ D_c (hm.xr D_h) rfl ht_33) ?_)
    rintro w v w' hm ⟨o_34, cap_35, sp_36, _, rfl, hs_37, ho_38, rfl, hm'⟩
    refine ⟨_, hm.app hm', jkO ?_⟩
    clear hm hm'
    refine qh [0] (qe (jx_then (jc_seq (jc_region (qh [5,0] ?_)))))
    obtain ⟨t_8, ht_39, h⟩ := bd h
    refine tO (pc 0 (fun w hm => impl_NeedlessTracks.calls t_6 t_7 w _ cap_28 (hm.ow 4 o_27 110 t_6.fHammers sp_29 (fun e => (ho_31 e).1) encGHammer_len) rfl cap_35 (hm.ow 6 o_34 104 t_7 sp_36 (fun e => (ho_38 e).1) encGNote_len) rfl ht_39) ?_)
    rintro w v w' hm ⟨o_40, cap_41, sp_42, _, rfl, hs_43, ho_44, rfl, hm'⟩
    refine ⟨_, hm.app hm', jkO ?_⟩
    clear hm hm'
    refine qh [0,0,0,0,0] (qe (jx_then (jc_seq (jc_seq (jc_region (qh [0,0] ?_))))))
    obtain ⟨t_9, ht_49, h⟩ := bd h
    refine tO (pc 0 (fun w hm => laws_eqInt64S.calls t_8.1 t_5.1 w _ cap_41 (hm.ow 7 o_40 2 t_8.1 sp_42 (fun e => (ho_44 e).1) encI64_len) rfl cap_22 (hm.ow 3 o_21 2 t_5.1 sp_23 (fun e => (ho_25 e).1) encI64_len) rfl ht_49) ?_)
    rintro w v w' hm ⟨rfl, hm'⟩
    refine ⟨_, hm.app hm', jkO ?_⟩
    clear hm hm'
    refine qf [(0, 0), (0, 0), (0, 1), (0, 1), (0, 1), (0, 0)] (qe (jx_then (qi h (fun h => ?_) (fun h => ?_))))
    ·refine jc_seq (jc_region (qh [0] (qe (jx_then (jc_ret (jx_thenr ?_))))))
     obtain rfl := Option.some.inj h
     exact qr [] (fun w hm => ⟨rfl, hm.pk []⟩)
    ·refine jc_skip (jx_then (jc_seq (jc_seq (qg [⟨some b_1, 25, [(.int .i16 aF0.fSteps), (.slice C_a aF0.fHammers.length C_c)]⟩, ⟨o_9, 110, row encGHammer t_3.fHammers sp_11⟩, ⟨o_15, 104, row encGNote t_4 sp_17⟩, ⟨o_21, 2, row encI64 t_5.1 sp_23⟩, ⟨o_27, 110, row encGHammer t_6.fHammers sp_29⟩, ⟨some b_32, 34, [(.int .i16 t_6.fSteps), (.slice (o_27.map fun b => ⟨b, 0, none⟩) t_6.fHammers.length cap_28)]⟩, ⟨o_34, 104, row encGNote t_7 sp_36⟩, ⟨o_40, 2, row encI64 t_8.1 sp_42⟩] 5 (qd [⟨0, 5, 0⟩,⟨1, 0, 0⟩] 3 [0, 1, 2, 3, 4, 5, 6, 7] ?_)))))
     obtain ⟨t_10, ht_73, h⟩ := bd h
     refine tD 2 (pc 0 (fun w hm => laws_toFrame.calls aF0 w _ C_c (hm.xr C_h) rfl ht_73) ?_)
     rintro w v w' hm ⟨o_74, cap_75, sp_76, _, rfl, hs_77, ho_78, rfl, hm'⟩
     refine ⟨_, hm.app hm', kD [0, 1, 2, 3, 4, 5, 6, 7] ?_⟩
     clear hm hm'
     obtain ⟨t_11, ht_79, h⟩ := bd h
     refine tD 3 (pc 0 (fun w hm => laws_eqFrame.calls t_6 t_10 w _ cap_28 (hm.ow 4 o_27 110 t_6.fHammers sp_29 (fun e => (ho_31 e).1) encGHammer_len) rfl cap_75 (hm.ow 8 o_74 110 t_10.fHammers sp_76 (fun e => (ho_78 e).1) encGHammer_len) rfl ht_79) ?_)
     rintro w v w' hm ⟨rfl, hm'⟩
     refine ⟨_, hm.app hm', kD [0, 1, 2, 3, 4, 5, 6, 7] ?_⟩
     clear hm hm'
     refine qd [⟨4, 0, 0⟩] 0 [0, 1, 2, 3, 4, 5, 6, 7] (qz (jx_then (qi h (fun h => ?_) (fun h => ?_))))
     ·refine jc_seq (jc_region (qh [0] (qe (jx_then (jc_ret (jx_thenr ?_))))))
      obtain rfl := Option.some.inj h
      exact qr [] (fun w hm => ⟨rfl, hm.pk []⟩)
     ·refine jc_skip (jx_then (jc_seq (jc_seq (jc_region (qh [0,0] ?_)))))
      obtain ⟨t_12, ht_89, h⟩ := bd h
      refine tO (pc 0 (fun w hm => laws_toTune.calls aT1 w _ D_c (hm.xr D_h) rfl ht_89) ?_)
      rintro w v w' hm ⟨o_90, cap_91, sp_92, _, rfl, hs_93, ho_94, rfl, hm'⟩
      refine ⟨_, hm.app hm', jkO ?_⟩
      clear hm hm'
      obtain ⟨t_13, ht_95, h⟩ := bd h
      refine tO (pc 0 (fun w hm => laws_eqTune.calls t_7 t_12 w _ cap_35 (hm.ow 6 o_34 104 t_7 sp_36 (fun e => (ho_38 e).1) encGNote_len) rfl cap_91 (hm.ow 9 o_90 104 t_12 sp_92 (fun e => (ho_94 e).1) encGNote_len) rfl ht_95) ?_)
      rintro w v w' hm ⟨rfl, hm'⟩
      refine ⟨_, hm.app hm', jkO ?_⟩
      clear hm hm'
      refine qh [0] (qe (jx_then (qi h (fun h => ?_) (fun h => ?_))))
      ·refine jc_seq (jc_region (qh [0] (qe (jx_then (jc_ret (jx_thenr ?_))))))
       obtain rfl := Option.some.inj h
       exact qr [] (fun w hm => ⟨rfl, hm.pk []⟩)
      ·refine jc_skip (jx_then (jc_seq (jc_region (qh [0] (qe (jx_then (jc_seq (jc_region (qh [5,0] ?_)))))))))
       obtain ⟨t_14, ht_97, h⟩ := bd h
       refine tO (pc 0 (fun w hm => laws_markFrame.calls t_6 1 w _ o_27 rfl hs_30 ho_31 (hm.pass (N := [⟨o_27, 110, row encGHammer t_6.fHammers sp_29⟩]) [4] (by kernel_rfl) (by kernel_rfl)) ht_97) ?_)
       rintro w v w' hm ⟨hn_98, ho_99, rfl, hm'⟩
       refine ⟨_, hm.appW (ps := [(4, ⟨o_27, 110, row encGHammer t_14.2 sp_29⟩)]) (N := []) hm' (by kernel_rfl) (by kernel_rfl), jkO ?_⟩
       clear hm hm'
       refine qh [0] (qe (jx_then (jc_seq (jc_region (qh [0,0] ?_)))))
       obtain ⟨t_15, ht_100, h⟩ := bd h
       refine tO (pc 0 (fun w hm => laws_markTune.calls t_7 t_14.1 w _ o_34 rfl hs_37 ho_38 (hm.pass (N := [⟨o_34, 104, row encGNote t_7 sp_36⟩]) [6] (by kernel_rfl) (by kernel_rfl)) ht_100) ?_)
       rintro w v w' hm ⟨hn_101, ho_102, rfl, hm'⟩
       refine ⟨_, hm.appW (ps := [(6, ⟨o_34, 104, row encGNote t_15.2 sp_36⟩)]) (N := []) hm' (by kernel_rfl) (by kernel_rfl), jkO ?_⟩
       clear hm hm'
       refine qh [0] (qe (jx_then (jc_seq (jc_seq (jc_meet (fun (j : Bool) => match j with | q_16 => laws_FnExactNeedlessTracks.k_17 aF0 aT1 t_5 t_8 q_16 = some r) (fun (j : Bool) => match j with | q_16 => [(1, [], (.slice D_a aT1.length D_c)), (2, [], (.pointer (some ⟨b_1, 0, none⟩))), (4, [], (.bool false)), (6, [], (.slice (o_21.map fun b => ⟨b, 0, none⟩) t_5.1.length cap_22)), (7, [], (.int .i64 t_5.2)), (10, [], (.slice (o_40.map fun b => ⟨b, 0, none⟩) t_8.1.length cap_41)), (82, [], (.bool q_16))]) (fun (j : Bool) => match j with | q_16 => [⟨some b_1, 25, [(.int .i16 aF0.fSteps), (.slice C_a aF0.fHammers.length C_c)]⟩, ⟨o_9, 110, row encGHammer t_3.fHammers sp_11⟩, ⟨o_15, 104, row encGNote t_4 sp_17⟩, ⟨o_21, 2, row encI64 t_5.1 sp_23⟩, ⟨o_27, 110, row encGHammer t_14.2 sp_29⟩, ⟨some b_32, 34, [(.int .i16 t_6.fSteps), (.slice (o_27.map fun b => ⟨b, 0, none⟩) t_6.fHammers.length cap_28)]⟩, ⟨o_34, 104, row encGNote t_15.2 sp_36⟩, ⟨o_40, 2, row encI64 t_8.1 sp_42⟩, ⟨o_74, 110, row encGHammer t_10.fHammers sp_76⟩, ⟨o_90, 104, row encGNote t_12 sp_92⟩]) ?_ ?_)))))
       ·refine jc_region (qf [(0, 0), (0, 0), (0, 0), (0, 1), (0, 1)] (qp 72 h (fun h => ?_) (fun h => ?_)))
        ·exact qf [(0, 3), (0, 3), (0, 4), (0, 0), (0, 3), (0, 3), (0, 3), (0, 4)] (qe (qm true h [0, 1, 2, 3, 4, 5, 6, 7, 8, 9]))
        ·obtain ⟨t_25, ht_148, h⟩ := bd h
         refine tO (pc 2 (fun w hm => laws_eqInt64S.calls t_8.1 t_5.1 w _ cap_41 (hm.ow 7 o_40 2 t_8.1 sp_42 (fun e => (ho_44 e).1) encI64_len) rfl cap_22 (hm.ow 3 o_21 2 t_5.1 sp_23 (fun e => (ho_25 e).1) encI64_len) rfl ht_148) ?_)
         rintro w v w' hm ⟨rfl, hm'⟩
         refine ⟨_, hm.app hm', jkO ?_⟩
         clear hm hm'
         exact qf [(0, 2), (0, 5), (0, 0), (0, 1), (0, 1), (0, 1), (0, 0)] (qe (qm ((!t_25) || (t_8.2 != t_5.2)) h [0, 1, 2, 3, 4, 5, 6, 7, 8, 9]))
       ·rintro q_16 h
        replace h : laws_FnExactNeedlessTracks.k_17 aF0 aT1 t_5 t_8 q_16 = some r := h
        rw [laws_FnExactNeedlessTracks.k_17] at h
        refine jx_then (qi h (fun h => ?_) (fun h => ?_))
        ·refine jc_seq (jc_region (qh [0] (qe (jx_then (jc_ret (jx_thenr ?_))))))
         obtain rfl := Option.some.inj h
         exact qr [] (fun w hm => ⟨rfl, hm.pk []⟩)
        ·refine jc_skip (jx_then (jc_seq (jc_region (qh [0] (qe (jx_then (jc_seq (jc_region (qh [0,0] ?_)))))))))
         obtain ⟨t_18, ht_111, h⟩ := bd h
         refine tO (pc 0 (fun w hm => laws_markInt64S.calls t_8.1 1 w _ o_40 rfl hs_43 ho_44 (hm.pass (N := [⟨o_40, 2, row encI64 t_8.1 sp_42⟩]) [7] (by kernel_rfl) (by kernel_rfl)) ht_111) ?_)
         rintro w v w' hm ⟨hn_112, ho_113, rfl, hm'⟩
         refine ⟨_, hm.appW (ps := [(7, ⟨o_40, 2, row encI64 t_18.2 sp_42⟩)]) (N := []) hm' (by kernel_rfl) (by kernel_rfl), jkO ?_⟩
         clear hm hm'
         refine qh [0] (qe (jx_then (jc_seq (jc_region (qh [0] (qe (jx_then (jc_seq (jc_region (qh [0,0] ?_))))))))))
         obtain ⟨t_19, ht_114, h⟩ := bd h
         refine tO (pc 0 (fun w hm => laws_heldInt64S.calls t_18.2 1 w _ cap_41 (hm.ow 7 o_40 2 t_18.2 sp_42 (fun e => (ho_113 e).1) encI64_len) hn_112 ht_114) ?_)
         rintro w v w' hm ⟨rfl, hm'⟩
         refine ⟨_, hm.app hm', jkO ?_⟩
         clear hm hm'
         refine qh [0] (qe (jx_then (jc_seq (jc_seq (jc_region (qh [0,0] (qe (jx_then (qi h (fun h => ?_) (fun h => ?_))))))))))
         ·refine jc_seq (jc_region (qh [0] (qe (jx_then (jc_ret (jx_thenr ?_))))))
          obtain rfl := Option.some.inj h
          exact qr [] (fun w hm => ⟨rfl, hm.pk []⟩)
         ·refine jc_skip (jx_then (jc_seq (jc_seq (jc_region (qh [0,0,0] (qe (jx_then (qi h (fun h => ?_) (fun h => ?_)))))))))
          ·refine jc_seq (jc_region (qh [0] (qe (jx_then (jc_ret (jx_thenr ?_))))))
           obtain rfl := Option.some.inj h
           exact qr [] (fun w hm => ⟨rfl, hm.pk []⟩)
          ·refine jc_skip (jx_then (jc_seq (jc_region (qh [0] ?_))))
           obtain ⟨t_20, ht_119, h⟩ := bd h
           refine tO (pc 0 (fun w hm => laws_toFrame.calls aF0 w _ C_c (hm.xr C_h) rfl ht_119) ?_)
           rintro w v w' hm ⟨o_120, cap_121, sp_122, _, rfl, hs_123, ho_124, rfl, hm'⟩
           refine ⟨_, hm.app hm', jkO ?_⟩
           clear hm hm'
           refine qh [0] ?_
           obtain ⟨t_21, ht_125, h⟩ := bd h
           refine tO (pc 0 (fun w hm => laws_toTune.calls aT1 w _ D_c (hm.xr D_h) rfl ht_125) ?_)
           rintro w v w' hm ⟨o_126, cap_127, sp_128, _, rfl, hs_129, ho_130, rfl, hm'⟩
           refine ⟨_, hm.app hm', jkO ?_⟩
           clear hm hm'
           obtain ⟨t_22, ht_131, h⟩ := bd h
           refine tO (pc 0 (fun w hm => impl_NeedlessTracks.calls t_20 t_21 w _ cap_121 (hm.ow 10 o_120 110 t_20.fHammers sp_122 (fun e => (ho_124 e).1) encGHammer_len) rfl cap_127 (hm.ow 11 o_126 104 t_21 sp_128 (fun e => (ho_130 e).1) encGNote_len) rfl ht_131) ?_)
           rintro w v w' hm ⟨o_132, cap_133, sp_134, _, rfl, hs_135, ho_136, rfl, hm'⟩
           refine ⟨_, hm.app hm', jkO ?_⟩
           clear hm hm'
           refine qh [0,0,0,0,0] (qe (jx_then (jc_seq (jc_seq (jc_region (qh [0,0] ?_))))))
           obtain ⟨t_23, ht_141, h⟩ := bd h
           refine tO (pc 0 (fun w hm => laws_eqInt64S.calls t_22.1 t_5.1 w _ cap_133 (hm.ow 12 o_132 2 t_22.1 sp_134 (fun e => (ho_136 e).1) encI64_len) rfl cap_22 (hm.ow 3 o_21 2 t_5.1 sp_23 (fun e => (ho_25 e).1) encI64_len) rfl ht_141) ?_)
           rintro w v w' hm ⟨rfl, hm'⟩
           refine ⟨_, hm.app hm', jkO ?_⟩
           clear hm hm'
           refine qf [(0, 0), (0, 0), (0, 1), (0, 1), (0, 1), (0, 0)] (qe (jx_then (qi h (fun h => ?_) (fun h => ?_))))
           ·refine jc_seq (jc_region (qh [0] (qe (jx_then (jc_ret (jx_thenr ?_))))))
            obtain rfl := Option.some.inj h
            exact qr [] (fun w hm => ⟨rfl, hm.pk []⟩)
           ·refine jc_skip (jx_then (jc_seq (jc_region (qh [0] (qe (jx_then (jc_seq (jc_region (qh [0,0] ?_)))))))))
            obtain ⟨t_24, ht_143, h⟩ := bd h
            refine tO (pc 0 (fun w hm => laws_heldInt64S.calls t_18.2 1 w _ cap_41 (hm.ow 7 o_40 2 t_18.2 sp_42 (fun e => (ho_113 e).1) encI64_len) hn_112 ht_143) ?_)
            rintro w v w' hm ⟨rfl, hm'⟩
            refine ⟨_, hm.app hm', jkO ?_⟩
            clear hm hm'
            refine qh [0] (qe (jx_then (jc_seq (jc_seq (jc_region (qh [0,0] (qe (jx_then (qi h (fun h => ?_) (fun h => ?_))))))))))
            ·refine jc_seq (jc_region (qh [0] (qe (jx_then (jc_ret (jx_thenr ?_))))))
             obtain rfl := Option.some.inj h
             exact qr [] (fun w hm => ⟨rfl, hm.pk []⟩)
            ·refine jc_skip (jx_then (jc_seq (jc_seq (jc_region (qh [0,0,0] (qe (jx_then (qi h (fun h => ?_) (fun h => ?_)))))))))
             ·refine jc_seq (jc_region (qh [0] (qe (jx_then (jc_ret (jx_thenr ?_))))))
              obtain rfl := Option.some.inj h
              exact qr [] (fun w hm => ⟨rfl, hm.pk []⟩)
             ·refine jc_skip (jx_then (jc_seq (jc_region (qh [0] (qe (jx_then (jc_ret ?_)))))))
              obtain rfl := Option.some.inj h
              exact qr [] (fun w hm => ⟨rfl, hm.pk []⟩)
end

end Go.Proofs.Yteedohcicmgkaaa
