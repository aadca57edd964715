/- Functions of the program that the laws reach: a plain function each, and that the call comes to its answer if the plain function has one. Printed by a program. -/
import Derived.Test.YtojndiidhgdjcaaGreatDoorT
import Derived.Test.YtojndiidhgdjcaaGreatDoorSeg
import Derived.Test.YtojndiidhgdjcaaGreatDoorM0
import Derived.Test.YtojndiidhgdjcaaGreatDoorM1
namespace Go.Proofs.YtojndiidhgdjcaaGreatDoor
open Eng
set_option linter.unusedVariables false

set_option linter.unusedSectionVars false
set_option maxRecDepth 100000
variable [dsW : DrwS]
noncomputable section
/-! ### impl.ApplyMoves -/
def impl_ApplyMoves.k_6 (a_5 : Arr 96 Int) : Option ((Arr 96 Int) × Int) := some (a_5, 0)
def impl_ApplyMoves.l_9 (out2 : List (Arr 2 Int)) (t_4 : (List (Arr 2 Int))) : ((Arr 96 Int) × Int) → Option (((Arr 96 Int) × Int) ⊕ (((Arr 96 Int) × Int) ⊕ (Arr 96 Int)))
  | (a_7, i_8) => (if (decide (i_8 < (t_4.length : Int))) = true then (ix t_4 i_8).bind fun x_11 => (ix x_11.1 0).bind fun x_12 => (ix x_11.1 1).bind fun x_13 => (impl_Drum_has a_7 x_12 x_13).bind fun t_14 => (if (t_14 == (decide (i_8 ≥ (out2.length : Int)))) = true then some (.inr (.inl ((Arr.rep 96 0), 4))) else (ix x_11.1 0).bind fun x_15 => (ix x_11.1 1).bind fun x_16 => (impl_Drum_put a_7 x_15 x_16 (decide (i_8 ≥ (out2.length : Int)))).bind fun t_17 => some (.inl (t_17, (w64 (i_8 + 1))))) else some (.inr (.inr a_7)))
def impl_ApplyMoves (f0 : GFrame) (d1 : Arr 96 Int) (out2 : List (Arr 2 Int)) (in3 : List (Arr 2 Int)) : Option ((Arr 96 Int) × Int) := (impl_drumCode f0 ([d1] : List (Arr 96 Int))).bind fun t_1 => (if (t_1 != 0) = true then some ((Arr.rep 96 0), t_1) else (slices_Concat_2int64 [out2, in3]).bind fun t_2 => (slices_ContainsFunc_2int64_at_impl_ApplyMoves_1 t_2 f0).bind fun t_3 => (if t_3 = true then some ((Arr.rep 96 0), 2) else (slices_Concat_2int64 [out2, in3]).bind fun t_4 => (loop (impl_ApplyMoves.l_9 out2 t_4) (d1, 0)).bind fun t_10 => match t_10 with | .inl p => some p | .inr p => impl_ApplyMoves.k_6 p))
theorem impl_ApplyMoves.calls (f0 : GFrame) (d1 : Arr 96 Int) (out2 : List (Arr 2 Int)) (in3 : List (Arr 2 Int)) (w : World) (r : (Arr 96 Int) × Int) {C_a : Option Addr} {C_an : Nat} (C_c : Nat) (C_h : Rw w C_a 2 encGHammer f0.fHammers) (C_hn : f0.fHammers.length = C_an) {E_a : Option Addr} {E_an : Nat} (E_c : Nat) (E_h : Rw w E_a 2 encA2I64 out2) (E_hn : out2.length = E_an) {F_a : Option Addr} {F_an : Nat} (F_c : Nat) (F_h : Rw w F_a 2 encA2I64 in3) (F_hn : in3.length = F_an) (h : impl_ApplyMoves f0 d1 out2 in3 = some r) :
    Calls Tryz.prog 13 #[(.agg #[(.int .i16 f0.fSteps), (.slice C_a C_an C_c)]), (.agg (row encU32 d1.1 []).toArray), (.slice E_a E_an E_c), (.slice F_a F_an F_c)] w fun e w' => ∃ v, e = .returned v ∧ (v = .tuple #[(.agg (row encU32 r.1.1 []).toArray), (.int .i64 r.2)] ∧ Mem w [] [] w') := by
  subst C_hn E_hn F_hn
  rw [impl_ApplyMoves] at h
  refine enter (args := [(.agg #[(.int .i16 f0.fSteps), (.slice C_a f0.fHammers.length C_c)]), (.agg (row encU32 d1.1 []).toArray), (.slice E_a out2.length E_c), (.slice F_a in3.length F_c)]) Tryz.func13 rfl Tryz.ntmps13 (by kernel_rfl) (L := []) (W := []) (Mem.start w) ?_
  refine jc_seq (jc_region (tO (qa 0 (fun b_1 => jkO (tO (qa 0 (fun b_2 => jkO (tO (qa 0 (fun b_3 => jkO (qh [0] (qe (jx_then (jc_seq (jc_seq (jc_region (qh [0] (tO (p_ldA 0 1 b_2 96 1 34 encU32 d1 (by kernel_rfl) (by kernel_rfl) (by kernel_rfl) encU32_len (by kernel_rfl) (jkO (tO (p_bs 0 34 96 1 encA96U32 [(.agg (row encU32 d1.1 []).toArray)] [d1] (by kernel_rfl) (by kernel_rfl) rfl (by kernel_rfl) (by kernel_rfl) encA96U32_len (fun b_7 => jkO ?_)))))))))))))))))))))))
  obtain ⟨t_1, ht_8, h⟩ := bd h
  refine tO (pc 0 (fun w hm => impl_drumCode.calls f0 ([d1] : List (Arr 96 Int)) w _ C_c (hm.xr C_h) rfl 1 (hm.ow 3 (some b_7) 34 ([d1] : List (Arr 96 Int)) [] (fun e => nomatch e) encA96U32_len) rfl ht_8) ?_)
  rintro w v w' hm ⟨rfl, hm'⟩
  refine ⟨_, hm.app hm', jkO ?_⟩
  clear hm hm'
  refine qh [0] (qe (jx_then (jc_seq (jc_region (qh [0,0] (qe (jx_then (qi h (fun h => ?_) (fun h => ?_)))))))))
  ·refine jc_seq (jc_region (qh [0,0] (tO (p_sA 0 2 b_3 96 1 34 encU32 (Arr.rep 96 0) (Arr.rep 96 0) (by kernel_rfl) (by kernel_rfl) (by kernel_rfl) encU32_len encU32_cell (by kernel_rfl) (jkO (qh [0] (qe (jx_then (jc_ret (jx_thenr ?_))))))))))
   obtain rfl := Option.some.inj h
   exact jx_retV rfl (rq_arr (b := b_3) (T' := 34) (hh := 2) (mm := 1) encU32 (Arr.rep 96 0) (by kernel_rfl) (by kernel_rfl) encU32_len (by kernel_rfl) (rq_tmp (by kernel_rfl) rq_nil)) (fun w hm => ⟨rfl, hm.pk []⟩)
  ·refine jc_skip (jx_then (jc_seq (jc_seq (jc_region (qh [0,0] (tO (qa 0 (fun b_19 => jkO ?_))))))))
   obtain ⟨t_2, ht_20, h⟩ := bd h
   refine tO (pc 0 (fun w hm => slices_Concat_2int64.calls [out2, in3] w _ 2 (hm.ow 4 (some b_19) 40 ([(Hd.mk E_a out2.length E_c), (Hd.mk F_a in3.length F_c)]) [] (fun e => nomatch e) encHd_len) rfl (Inn.cons (hm.xr E_h) rfl (fun _ => List.not_mem_nil) (Inn.cons (hm.xr F_h) rfl (fun _ => List.not_mem_nil) Inn.nil)) ht_20) ?_)
   rintro w v w' hm ⟨o_21, cap_22, sp_23, _, rfl, hs_24, ho_25, rfl, hm'⟩
   refine ⟨_, hm.app hm', jkO ?_⟩
   clear hm hm'
   refine qh [0] ?_
   obtain ⟨t_3, ht_26, h⟩ := bd h
   refine tO (pc 0 (fun w hm => slices_ContainsFunc_2int64_at_impl_ApplyMoves_1.calls t_2 f0 w _ cap_22 (hm.ow 5 o_21 94 t_2 sp_23 (fun e => (ho_25 e).1) encA2I64_len) rfl C_c (hm.xr C_h) rfl b_1 (hm.pass (N := [⟨some b_1, 27, [(.int .i16 f0.fSteps), (.slice C_a f0.fHammers.length C_c)]⟩]) [0] (by kernel_rfl) (by kernel_rfl)) (hm.ownApart (S := Arr 2 Int) (N := [⟨some b_1, 27, [(.int .i16 f0.fSteps), (.slice C_a f0.fHammers.length C_c)]⟩]) (hh := 5) (o := o_21) (T := 94) (cs := row encA2I64 t_2 sp_23) (xs := t_2) (by kernel_rfl) (fun e => (ho_25 e).1) [0] (by kernel_rfl) (by kernel_rfl)) (hm.exApart (N := [⟨some b_1, 27, [(.int .i16 f0.fSteps), (.slice C_a f0.fHammers.length C_c)]⟩]) C_h (fun _ => List.not_mem_nil) [0] (by kernel_rfl)) ht_26) ?_)
   rintro w v w' hm ⟨rfl, hm'⟩
   refine ⟨_, hm.appW (ps := [(0, ⟨some b_1, 27, [(.int .i16 f0.fSteps), (.slice C_a f0.fHammers.length C_c)]⟩)]) (N := []) hm' (by kernel_rfl) (by kernel_rfl), jkO ?_⟩
   clear hm hm'
   refine qe (jx_then (qi h (fun h => ?_) (fun h => ?_)))
   ·refine jc_seq (jc_region (qh [0] (tO (p_sA 0 2 b_3 96 1 34 encU32 (Arr.rep 96 0) (Arr.rep 96 0) (by kernel_rfl) (by kernel_rfl) (by kernel_rfl) encU32_len encU32_cell (by kernel_rfl) (jkO (qh [0] (qe (jx_then (jc_ret (jx_thenr ?_))))))))))
    obtain rfl := Option.some.inj h
    exact jx_retV rfl (rq_arr (b := b_3) (T' := 34) (hh := 2) (mm := 1) encU32 (Arr.rep 96 0) (by kernel_rfl) (by kernel_rfl) encU32_len (by kernel_rfl) (rq_tmp (by kernel_rfl) rq_nil)) (fun w hm => ⟨rfl, hm.pk []⟩)
   ·refine jc_skip (jx_then (jc_seq (jc_seq (jc_region (qh [0,0] (tO (qa 0 (fun b_135 => jkO ?_))))))))
    obtain ⟨t_4, ht_136, h⟩ := bd h
    refine tO (pc 0 (fun w hm => slices_Concat_2int64.calls [out2, in3] w _ 2 (hm.ow 6 (some b_135) 40 ([(Hd.mk E_a out2.length E_c), (Hd.mk F_a in3.length F_c)]) [] (fun e => nomatch e) encHd_len) rfl (Inn.cons (hm.xr E_h) rfl (fun _ => List.not_mem_nil) (Inn.cons (hm.xr F_h) rfl (fun _ => List.not_mem_nil) Inn.nil)) ht_136) ?_)
    rintro w v w' hm ⟨o_137, cap_138, sp_139, _, rfl, hs_140, ho_141, rfl, hm'⟩
    refine ⟨_, hm.app hm', jkO ?_⟩
    clear hm hm'
    refine qh [0,0] (qe (jx_then (jc_meet (fun (j : (Arr 96 Int)) => match j with | a_5 => impl_ApplyMoves.k_6 a_5 = some r) (fun (j : (Arr 96 Int)) => match j with | a_5 => [(5, [], (.pointer (some ⟨b_2, 0, none⟩))), (8, [], (.pointer (some ⟨b_3, 0, none⟩))), (9, [], (.int .i64 0))]) (fun (j : (Arr 96 Int)) => match j with | a_5 => [⟨some b_1, 27, [(.int .i16 f0.fSteps), (.slice C_a f0.fHammers.length C_c)]⟩, ⟨(some b_2), 34, row encU32 a_5.1 []⟩, ⟨(some b_3), 34, row encU32 ((Arr.rep 96 0).1) []⟩, ⟨(some b_7), 34, row encA96U32 ([d1] : List (Arr 96 Int)) []⟩, ⟨(some b_19), 40, row encHd [(Hd.mk E_a out2.length E_c), (Hd.mk F_a in3.length F_c)] []⟩, ⟨o_21, 94, row encA2I64 t_2 sp_23⟩, ⟨(some b_135), 40, row encHd [(Hd.mk E_a out2.length E_c), (Hd.mk F_a in3.length F_c)] []⟩, ⟨o_137, 94, row encA2I64 t_4 sp_139⟩]) ?_ ?_)))
    ·refine jc_block ?_
     obtain ⟨t_10, ht_241, hr_222⟩ := bd h
     refine jc_loop (fun (s : (Arr 96 Int) × Int) (x : Unit) => match s, x with | ⟨a_7, i_8⟩, _ => True) (fun (s : (Arr 96 Int) × Int) (x : Unit) => match s, x with | ⟨a_7, i_8⟩, _ => [(2, [], (.slice E_a out2.length E_c)), (5, [], (.pointer (some ⟨b_2, 0, none⟩))), (8, [], (.pointer (some ⟨b_3, 0, none⟩))), (9, [], (.int .i64 0)), (32, [], (.slice (o_137.map fun b => ⟨b, 0, none⟩) t_4.length cap_138)), (33, [], (.int .i64 (t_4.length : Int))), (34, [], (.int .i64 i_8))]) (fun (s : (Arr 96 Int) × Int) (x : Unit) => match s, x with | ⟨a_7, i_8⟩, _ => [⟨some b_1, 27, [(.int .i16 f0.fSteps), (.slice C_a f0.fHammers.length C_c)]⟩, ⟨(some b_2), 34, row encU32 a_7.1 []⟩, ⟨(some b_3), 34, row encU32 ((Arr.rep 96 0).1) []⟩, ⟨(some b_7), 34, row encA96U32 ([d1] : List (Arr 96 Int)) []⟩, ⟨(some b_19), 40, row encHd [(Hd.mk E_a out2.length E_c), (Hd.mk F_a in3.length F_c)] []⟩, ⟨o_21, 94, row encA2I64 t_2 sp_23⟩, ⟨(some b_135), 40, row encHd [(Hd.mk E_a out2.length E_c), (Hd.mk F_a in3.length F_c)] []⟩, ⟨o_137, 94, row encA2I64 t_4 sp_139⟩]) ht_241 () trivial (by kernel_rfl) [0, 1, 2, 3, 4, 5, 6, 7] (by kernel_rfl) (by kernel_rfl) ?_
     rintro ⟨a_7, i_8⟩ _ y_223 _ h
     rw [impl_ApplyMoves.l_9] at h
     refine jc_seq (jc_region (qh [0] (qe (jx_then (jc_seq (qi h (fun h => ?_) (fun h => ?_)))))))
     ·refine jc_skip (jx_then (jc_seq (jc_block (jc_seq (jc_region (qh [0] ?_))))))
      obtain ⟨x_11, hx_226, h⟩ := bd h
      refine tO (qx 0 (o_137.map fun b => ⟨b, 0, none⟩) 2 hx_226 rfl (spo ho_141 hx_226) (jkO (tO (p_ldx 0 (aB (o_137.map fun b => ⟨b, 0, none⟩)) (aO (o_137.map fun b => ⟨b, 0, none⟩) + i_8.toNat * 2) (encA2I64 x_11) 2 (by kernel_rfl) (by kernel_rfl) (encA2I64_len x_11) (fun w hm => ((hm.ow 7 o_137 94 t_4 sp_139 (fun e => (ho_141 e).1) encA2I64_len).at hx_226)) (jkO (tO (qa 0 (fun b_227 => jkO (qh [0] (tO (p_sA 0 8 b_227 2 1 94 encI64 (Arr.rep 2 0) x_11 (by kernel_rfl) (by kernel_rfl) (by kernel_rfl) encI64_len encI64_cell (by kernel_rfl) (jkO (qe (jx_then (jc_seq (jc_region (qh [0,0,0,0,0] (qe (jx_then (jc_seq (jc_seq (jc_region ?_))))))))))))))))))))))
      obtain ⟨x_12, hx_232, h⟩ := bd h
      refine tO (qx 0 (some ⟨b_227, 0, none⟩) 1 hx_232 x_11.2 rfl (jkO (tO (ql 0 false (fun w hm => ((hm.ow 8 (some b_227) 94 x_11.1 [] (fun e => nomatch e) encI64_len).at hx_232)) (jkO ?_)))))
      obtain ⟨x_13, hx_233, h⟩ := bd h
      refine tO (qx 0 (some ⟨b_227, 0, none⟩) 1 hx_233 x_11.2 rfl (jkO (tO (ql 0 false (fun w hm => ((hm.ow 8 (some b_227) 94 x_11.1 [] (fun e => nomatch e) encI64_len).at hx_233)) (jkO ?_)))))
      obtain ⟨t_14, ht_234, h⟩ := bd h
      refine tO (pc 0 (fun w hm => impl_Drum_has.calls a_7 x_12 x_13 w _ (hm.ow 1 (some b_2) 34 a_7.1 [] (fun e => nomatch e) encU32_len) ht_234) ?_)
      rintro w v w' hm ⟨rfl, hm'⟩
      refine ⟨_, hm.app hm', jkO ?_⟩
      clear hm hm'
      refine qh [0,0] (qe (jx_then (qi h (fun h => ?_) (fun h => ?_))))
      ·refine jc_seq (jc_region (qh [0] (tO (p_sA 0 2 b_3 96 1 34 encU32 (Arr.rep 96 0) (Arr.rep 96 0) (by kernel_rfl) (by kernel_rfl) (by kernel_rfl) encU32_len encU32_cell (by kernel_rfl) (jkO (qh [0] (qe (jx_then (jc_ret (jx_thenr (jx_inr (jx_thenr (jx_leaver (.inl ((Arr.rep 96 0), 4)) (Option.some.inj h).symm (fun e_236 => ?_))))))))))))))
       subst e_236
       refine jx_inr (jx_thenr (jx_thenr ?_))
       obtain rfl := Option.some.inj hr_222
       exact jx_retV rfl (rq_arr (b := b_3) (T' := 34) (hh := 2) (mm := 1) encU32 (Arr.rep 96 0) (by kernel_rfl) (by kernel_rfl) encU32_len (by kernel_rfl) (rq_tmp (by kernel_rfl) rq_nil)) (fun w hm => ⟨rfl, hm.pk []⟩)
      ·refine jc_skip (jx_then (jc_region ?_))
       obtain ⟨x_15, hx_237, h⟩ := bd h
       refine tO (qx 0 (some ⟨b_227, 0, none⟩) 1 hx_237 x_11.2 rfl (jkO (tO (ql 0 false (fun w hm => ((hm.ow 8 (some b_227) 94 x_11.1 [] (fun e => nomatch e) encI64_len).at hx_237)) (jkO ?_)))))
       obtain ⟨x_16, hx_238, h⟩ := bd h
       refine tO (qx 0 (some ⟨b_227, 0, none⟩) 1 hx_238 x_11.2 rfl (jkO (tO (ql 0 false (fun w hm => ((hm.ow 8 (some b_227) 94 x_11.1 [] (fun e => nomatch e) encI64_len).at hx_238)) (jkO (qh [0] ?_))))))
       obtain ⟨t_17, ht_239, h⟩ := bd h
       refine tO (pc 0 (fun w hm => impl_Drum_put.calls a_7 x_15 x_16 (decide (i_8 ≥ (out2.length : Int))) w _ b_2 (hm.pass (N := [⟨(some b_2), 34, row encU32 a_7.1 []⟩]) [1] (by kernel_rfl) (by kernel_rfl)) ht_239) ?_)
       rintro w v w' hm ⟨rfl, hm'⟩
       refine ⟨_, hm.appW (ps := [(1, ⟨(some b_2), 34, row encU32 t_17.1 []⟩)]) (N := []) hm' (by kernel_rfl) (by kernel_rfl), jkO ?_⟩
       clear hm hm'
       exact qe (jx_inn (jx_then (jc_region (qh [0,0] (qe (qb (t_17, (w64 (i_8 + 1))) () h trivial [0, 1, 2, 3, 4, 5, 6, 7]))))))
     ·refine jc_exit (jx_thenx (jx_leave (.inr a_7) (Option.some.inj h).symm (fun e_240 => ?_)))
      subst e_240
      exact jx_ine (qm a_7 hr_222 [0, 1, 2, 3, 4, 5, 6, 7])
    ·rintro a_5 h
     replace h : impl_ApplyMoves.k_6 a_5 = some r := h
     rw [impl_ApplyMoves.k_6] at h
     refine jx_then (jc_seq (jc_region (tO (p_ldA 0 1 b_2 96 1 34 encU32 a_5 (by kernel_rfl) (by kernel_rfl) (by kernel_rfl) encU32_len (by kernel_rfl) (jkO (tO (p_sA 0 2 b_3 96 1 34 encU32 (Arr.rep 96 0) a_5 (by kernel_rfl) (by kernel_rfl) (by kernel_rfl) encU32_len encU32_cell (by kernel_rfl) (jkO (qh [0] (qe (jx_then (jc_ret ?_))))))))))))
     obtain rfl := Option.some.inj h
     exact jx_retV rfl (rq_arr (b := b_3) (T' := 34) (hh := 2) (mm := 1) encU32 a_5 (by kernel_rfl) (by kernel_rfl) encU32_len (by kernel_rfl) (rq_tmp (by kernel_rfl) rq_nil)) (fun w hm => ⟨rfl, hm.pk []⟩)
/-! ### spec.PinTune -/
def spec_PinTune (f0 : GFrame) (t1 : List GNote) (budget2 : Int) : Option ((Arr 96 Int) × Int × Int) := (spec_l03Fits f0 t1 budget2).bind fun t_1 => (if (t_1 != 0) = true then some ((Arr.rep 96 0), 0, t_1) else (spec_l03Pinner_from (⟨f0, t1, (Arr.rep 96 0), false, budget2, 0, false, (Arr.rep 96 0), false, (Arr.rep 96 0), 0⟩ : Gl03Pinner) 0 0).bind fun t_2 => (if t_2.2.fover = true then some ((Arr.rep 96 0), 0, 7) else (if (!t_2.2.ffound) = true then some ((Arr.rep 96 0), 0, 6) else some (t_2.2.fbest, t_2.2.ftries, 0))))
theorem spec_PinTune.calls (f0 : GFrame) (t1 : List GNote) (budget2 : Int) (w : World) (r : (Arr 96 Int) × Int × Int) {C_a : Option Addr} {C_an : Nat} (C_c : Nat) (C_h : Rw w C_a 2 encGHammer f0.fHammers) (C_hn : f0.fHammers.length = C_an) {D_a : Option Addr} {D_an : Nat} (D_c : Nat) (D_h : Rw w D_a 2 encGNote t1) (D_hn : t1.length = D_an) (h : spec_PinTune f0 t1 budget2 = some r) :
    Calls Tryz.prog 14 #[(.agg #[(.int .i16 f0.fSteps), (.slice C_a C_an C_c)]), (.slice D_a D_an D_c), (.int .i64 budget2)] w fun e w' => ∃ v, e = .returned v ∧ (v = .tuple #[(.agg (row encU32 r.1.1 []).toArray), (.int .i64 r.2.1), (.int .i64 r.2.2)] ∧ Mem w [] [] w') := by
  subst C_hn D_hn
  rw [spec_PinTune] at h
  refine enter (args := [(.agg #[(.int .i16 f0.fSteps), (.slice C_a f0.fHammers.length C_c)]), (.slice D_a t1.length D_c), (.int .i64 budget2)]) Tryz.func14 rfl Tryz.ntmps14 (by kernel_rfl) (L := []) (W := []) (Mem.start w) ?_
  refine jc_seq (jc_region (tO (qa 0 (fun b_1 => jkO (tO (qa 0 (fun b_2 => jkO (qh [0,0] (qe (jx_then (jc_seq (jc_seq (jc_region (qh [0,0] ?_))))))))))))))
  obtain ⟨t_1, ht_5, h⟩ := bd h
  refine tO (pc 0 (fun w hm => spec_l03Fits.calls f0 t1 budget2 w _ C_c (hm.xr C_h) rfl D_c (hm.xr D_h) rfl b_1 (hm.pass (N := [⟨some b_1, 27, [(.int .i16 f0.fSteps), (.slice C_a f0.fHammers.length C_c)]⟩]) [0] (by kernel_rfl) (by kernel_rfl)) (hm.exApart (N := [⟨some b_1, 27, [(.int .i16 f0.fSteps), (.slice C_a f0.fHammers.length C_c)]⟩]) C_h (fun _ => List.not_mem_nil) [0] (by kernel_rfl)) (hm.exApart (N := [⟨some b_1, 27, [(.int .i16 f0.fSteps), (.slice C_a f0.fHammers.length C_c)]⟩]) D_h (fun _ => List.not_mem_nil) [0] (by kernel_rfl)) ht_5) ?_)
  rintro w v w' hm ⟨rfl, hm'⟩
  refine ⟨_, hm.appW (ps := [(0, ⟨some b_1, 27, [(.int .i16 f0.fSteps), (.slice C_a f0.fHammers.length C_c)]⟩)]) (N := []) hm' (by kernel_rfl) (by kernel_rfl), jkO ?_⟩
  clear hm hm'
  refine qh [0] (qe (jx_then (jc_seq (jc_region (qh [0,0] (qe (jx_then (qi h (fun h => ?_) (fun h => ?_)))))))))
  ·refine jc_seq (jc_region (qh [0,0] (tO (p_sA 0 1 b_2 96 1 34 encU32 (Arr.rep 96 0) (Arr.rep 96 0) (by kernel_rfl) (by kernel_rfl) (by kernel_rfl) encU32_len encU32_cell (by kernel_rfl) (jkO (qh [0,0] (qe (jx_then (jc_ret (jx_thenr ?_))))))))))
   obtain rfl := Option.some.inj h
   exact jx_retV rfl (rq_arr (b := b_2) (T' := 34) (hh := 1) (mm := 1) encU32 (Arr.rep 96 0) (by kernel_rfl) (by kernel_rfl) encU32_len (by kernel_rfl) (rq_tmp (by kernel_rfl) (rq_tmp (by kernel_rfl) rq_nil))) (fun w hm => ⟨rfl, hm.pk []⟩)
  ·refine jc_skip (jx_then (jc_seq (jc_region (qh [0,0,0] (tO (qa 0 (fun b_7 => jkO (qh [0] (qe (jx_then (jc_seq (jc_region (qh [0] ?_)))))))))))))
   obtain ⟨t_2, ht_8, h⟩ := bd h
   refine tO (pc 0 (fun w hm => spec_l03Pinner_from.calls (⟨f0, t1, (Arr.rep 96 0), false, budget2, 0, false, (Arr.rep 96 0), false, (Arr.rep 96 0), 0⟩ : Gl03Pinner) 0 0 w _ C_c (hm.xr C_h) rfl D_c (hm.xr D_h) rfl b_7 b_1 (hm.pass (N := [⟨some b_7, 83, ((.pointer (some ⟨b_1, 0, none⟩)) :: (.slice D_a t1.length D_c) :: (seg (Value.int .u32) 96 (Arr.rep 96 0).1 ((.bool false) :: (.int .i64 budget2) :: (.int .i64 0) :: (.bool false) :: (seg (Value.int .u32) 96 (Arr.rep 96 0).1 ((.bool false) :: (seg (Value.int .u32) 96 (Arr.rep 96 0).1 [(.int .i64 0)]))))))⟩, ⟨some b_1, 27, [(.int .i16 f0.fSteps), (.slice C_a f0.fHammers.length C_c)]⟩]) [2, 0] (by kernel_rfl) (by kernel_rfl)) (hm.exApart (N := [⟨some b_7, 83, ((.pointer (some ⟨b_1, 0, none⟩)) :: (.slice D_a t1.length D_c) :: (seg (Value.int .u32) 96 (Arr.rep 96 0).1 ((.bool false) :: (.int .i64 budget2) :: (.int .i64 0) :: (.bool false) :: (seg (Value.int .u32) 96 (Arr.rep 96 0).1 ((.bool false) :: (seg (Value.int .u32) 96 (Arr.rep 96 0).1 [(.int .i64 0)]))))))⟩, ⟨some b_1, 27, [(.int .i16 f0.fSteps), (.slice C_a f0.fHammers.length C_c)]⟩]) C_h (fun _ => List.not_mem_nil) [2, 0] (by kernel_rfl)) (hm.exApart (N := [⟨some b_7, 83, ((.pointer (some ⟨b_1, 0, none⟩)) :: (.slice D_a t1.length D_c) :: (seg (Value.int .u32) 96 (Arr.rep 96 0).1 ((.bool false) :: (.int .i64 budget2) :: (.int .i64 0) :: (.bool false) :: (seg (Value.int .u32) 96 (Arr.rep 96 0).1 ((.bool false) :: (seg (Value.int .u32) 96 (Arr.rep 96 0).1 [(.int .i64 0)]))))))⟩, ⟨some b_1, 27, [(.int .i16 f0.fSteps), (.slice C_a f0.fHammers.length C_c)]⟩]) D_h (fun _ => List.not_mem_nil) [2, 0] (by kernel_rfl)) ht_8) ?_)
   rintro w v w' hm ⟨rfl, hm'⟩
   refine ⟨_, hm.appW (ps := [(2, ⟨some b_7, 83, ((.pointer (some ⟨b_1, 0, none⟩)) :: (.slice D_a t1.length D_c) :: (seg (Value.int .u32) 96 t_2.2.fold.1 ((.bool t_2.2.flike) :: (.int .i64 t_2.2.fbudget) :: (.int .i64 t_2.2.ftries) :: (.bool t_2.2.fover) :: (seg (Value.int .u32) 96 t_2.2.fdrum.1 ((.bool t_2.2.ffound) :: (seg (Value.int .u32) 96 t_2.2.fbest.1 [(.int .i64 t_2.2.fleast)]))))))⟩), (0, ⟨some b_1, 27, [(.int .i16 f0.fSteps), (.slice C_a f0.fHammers.length C_c)]⟩)]) (N := []) hm' (by kernel_rfl) (by kernel_rfl), jkO ?_⟩
   clear hm hm'
   refine qe (jx_then (jc_seq (jc_seq (jc_region (qh [0,0,0,2] (qe (jx_then (qi h (fun h => ?_) (fun h => ?_)))))))))
   ·refine jc_seq (jc_region (qh [0] (tO (p_sA 0 1 b_2 96 1 34 encU32 (Arr.rep 96 0) (Arr.rep 96 0) (by kernel_rfl) (by kernel_rfl) (by kernel_rfl) encU32_len encU32_cell (by kernel_rfl) (jkO (qh [0,0] (qe (jx_then (jc_ret (jx_thenr ?_))))))))))
    obtain rfl := Option.some.inj h
    exact jx_retV rfl (rq_arr (b := b_2) (T' := 34) (hh := 1) (mm := 1) encU32 (Arr.rep 96 0) (by kernel_rfl) (by kernel_rfl) encU32_len (by kernel_rfl) (rq_tmp (by kernel_rfl) (rq_tmp (by kernel_rfl) rq_nil))) (fun w hm => ⟨rfl, hm.pk []⟩)
   ·refine jc_skip (jx_then (jc_seq (jc_seq (jc_region (qh [0,0,0,2,0] (qe (jx_then (qi h (fun h => ?_) (fun h => ?_)))))))))
    ·refine jc_seq (jc_region (qh [0] (tO (p_sA 0 1 b_2 96 1 34 encU32 (Arr.rep 96 0) (Arr.rep 96 0) (by kernel_rfl) (by kernel_rfl) (by kernel_rfl) encU32_len encU32_cell (by kernel_rfl) (jkO (qh [0,0] (qe (jx_then (jc_ret (jx_thenr ?_))))))))))
     obtain rfl := Option.some.inj h
     exact jx_retV rfl (rq_arr (b := b_2) (T' := 34) (hh := 1) (mm := 1) encU32 (Arr.rep 96 0) (by kernel_rfl) (by kernel_rfl) encU32_len (by kernel_rfl) (rq_tmp (by kernel_rfl) (rq_tmp (by kernel_rfl) rq_nil))) (fun w hm => ⟨rfl, hm.pk []⟩)
    ·refine jc_skip (jx_then (jc_seq (qg [⟨some b_1, 27, [(.int .i16 f0.fSteps), (.slice C_a f0.fHammers.length C_c)]⟩, ⟨some b_7, 83, ((.pointer (some ⟨b_1, 0, none⟩)) :: (.slice D_a t1.length D_c) :: (seg (Value.int .u32) 96 t_2.2.fold.1 ((.bool t_2.2.flike) :: (.int .i64 t_2.2.fbudget) :: (.int .i64 t_2.2.ftries) :: (.bool t_2.2.fover) :: (seg (Value.int .u32) 96 t_2.2.fdrum.1 ((.bool t_2.2.ffound) :: (seg (Value.int .u32) 96 t_2.2.fbest.1 [(.int .i64 t_2.2.fleast)]))))))⟩] 11 (qd [⟨0, 0, 0⟩,⟨1, 0, 0⟩,⟨2, 0, 0⟩,⟨4, 0, 0⟩,⟨5, 0, 0⟩,⟨6, 0, 0⟩,⟨7, 1, 0⟩] 4 [0, 2] (qv 3 0 [0, 2] (fun w hm => ld_run (b := b_7) (off := 199) (s := 96) (agg := true) (vs := row encU32 t_2.2.fbest.1 []) (by kernel_rfl) ((row_len encU32_len t_2.2.fbest).trans rfl) (.inl rfl) (hm.segAt 1 b_7 199 (Value.int .u32) (fun _ => rfl) t_2.2.fbest)) (tD 8 (p_sA 0 1 b_2 96 1 34 encU32 (Arr.rep 96 0) t_2.2.fbest (by kernel_rfl) (by kernel_rfl) (by kernel_rfl) encU32_len encU32_cell (by kernel_rfl) (kD [0, 2] (qd [⟨9, 0, 0⟩,⟨10, 0, 0⟩] 0 [0, 2] (qz (jx_then (jc_ret ?_))))))))))))
     obtain rfl := Option.some.inj h
     exact jx_retV rfl (rq_arr (b := b_2) (T' := 34) (hh := 1) (mm := 1) encU32 t_2.2.fbest (by kernel_rfl) (by kernel_rfl) encU32_len (by kernel_rfl) (rq_tmp (by kernel_rfl) (rq_tmp (by kernel_rfl) rq_nil))) (fun w hm => ⟨rfl, hm.pk []⟩)
/-! ### spec.SameSpots -/
def spec_SameSpots.k_1 : Option (Bool) := some true
def spec_SameSpots.l_3 (a0 : List (Arr 2 Int)) (b1 : List (Arr 2 Int)) : Int → Option ((Int) ⊕ (Bool ⊕ Unit))
  | i_2 => (if (decide (i_2 < (a0.length : Int))) = true then (ix a0 i_2).bind fun x_5 => (ix b1 i_2).bind fun x_6 => (if (!(x_5.1 == x_6.1)) = true then some (.inr (.inl false)) else some (.inl (w64 (i_2 + 1)))) else some (.inr (.inr ())))
def spec_SameSpots (a0 : List (Arr 2 Int)) (b1 : List (Arr 2 Int)) : Option (Bool) := (if ((a0.length : Int) != (b1.length : Int)) = true then some false else (loop (spec_SameSpots.l_3 a0 b1) 0).bind fun t_4 => match t_4 with | .inl p => some p | .inr p => spec_SameSpots.k_1)
theorem spec_SameSpots.calls (a0 : List (Arr 2 Int)) (b1 : List (Arr 2 Int)) (w : World) (r : Bool) {A_a : Option Addr} {A_an : Nat} (A_c : Nat) (A_h : Rw w A_a 2 encA2I64 a0) (A_hn : a0.length = A_an) {B_a : Option Addr} {B_an : Nat} (B_c : Nat) (B_h : Rw w B_a 2 encA2I64 b1) (B_hn : b1.length = B_an) (h : spec_SameSpots a0 b1 = some r) :
    Calls Tryz.prog 15 #[(.slice A_a A_an A_c), (.slice B_a B_an B_c)] w fun e w' => ∃ v, e = .returned v ∧ (v = (.bool r) ∧ Mem w [] [] w') := by
  subst A_hn B_hn
  rw [spec_SameSpots] at h
  refine enter (args := [(.slice A_a a0.length A_c), (.slice B_a b1.length B_c)]) Tryz.func15 rfl Tryz.ntmps15 (by kernel_rfl) (L := []) (W := []) (Mem.start w) ?_
  refine jc_seq (jc_region (qh [0] (qe (jx_then (jc_seq (jc_seq (jc_region (qh [0,0,0,0,0] (qe (jx_then (qi h (fun h => ?_) (fun h => ?_))))))))))))
  ·refine jc_seq (jc_region (qh [0] (qe (jx_then (jc_ret (jx_thenr ?_))))))
   obtain rfl := Option.some.inj h
   exact qr [] (fun w hm => ⟨rfl, hm.pk []⟩)
  ·refine jc_skip (jx_then (jc_seq (jc_seq (jc_region (qh [0] (qe (jx_then (jc_meet (fun (_ : Unit) => spec_SameSpots.k_1 = some r) (fun (_ : Unit) => [(4, [], (.bool false))]) (fun (_ : Unit) => []) ?_ ?_))))))))
   ·refine jc_block ?_
    obtain ⟨t_4, ht_42, hr_33⟩ := bd h
    refine jc_loop (fun (s : Int) (x : Unit) => match s, x with | i_2, _ => True) (fun (s : Int) (x : Unit) => match s, x with | i_2, _ => [(0, [], (.slice A_a a0.length A_c)), (1, [], (.slice B_a b1.length B_c)), (4, [], (.bool false)), (5, [], (.int .i64 i_2))]) (fun (s : Int) (x : Unit) => match s, x with | i_2, _ => []) ht_42 () trivial (by kernel_rfl) [] (by kernel_rfl) (by kernel_rfl) ?_
    rintro i_2 _ y_34 _ h
    rw [spec_SameSpots.l_3] at h
    refine jc_seq (jc_seq (jc_region (qh [0,0,0,0] (qe (jx_then (qi h (fun h => ?_) (fun h => ?_)))))))
    ·refine jc_skip (jx_then (jc_seq (jc_block (jc_seq (qg [] 9 (qd [⟨0, 0, 0⟩,⟨1, 0, 0⟩,⟨4, 0, 0⟩,⟨5, 0, 0⟩] 5 [] ?_))))))
     obtain ⟨x_5, hx_37, h⟩ := bd h
     refine qv 2 0 [] (fun w hm => idx_run (a := A_a) (len := a0.length) (s := 2) (j := i_2) (by kernel_rfl) (ix_some hx_37).1 (ltn hx_37 rfl) (A_h.sp hx_37)) (qv 3 0 [] (fun w hm => ld_run (b := aB A_a) (off := (aO A_a + i_2.toNat * 2)) (s := 2) (agg := true) (vs := (encA2I64 x_5)) (by kernel_rfl) (encA2I64_len x_5) (.inl rfl) ((hm.xr A_h).at hx_37)) ?_)
     obtain ⟨x_6, hx_38, h⟩ := bd h
     refine qv 6 0 [] (fun w hm => idx_run (a := B_a) (len := b1.length) (s := 2) (j := i_2) (by kernel_rfl) (ix_some hx_38).1 (ltn hx_38 rfl) (B_h.sp hx_38)) (qv 7 0 [] (fun w hm => ld_run (b := aB B_a) (off := (aO B_a + i_2.toNat * 2)) (s := 2) (agg := true) (vs := (encA2I64 x_6)) (by kernel_rfl) (encA2I64_len x_6) (.inl rfl) ((hm.xr B_h).at hx_38)) (tD 8 (p_eqA 0 true 94 2 2 .i64 encI64 x_5 x_6 (by kernel_rfl) (by kernel_rfl) Tryz.underlying94 Tryz.underlying2 (fun w => Tryz.sizeOf2 w) (fun w => Tryz.isAgg2 w) (fun _ => rfl) (!(x_5.1 == x_6.1)) rfl (kD [] (qz (jx_then (qi h (fun h => ?_) (fun h => ?_))))))))
     ·refine jc_seq (jc_region (qh [0] (qe (jx_then (jc_ret (jx_inr (jx_thenr (jx_leaver (.inl false) (Option.some.inj h).symm (fun e_40 => ?_)))))))))
      subst e_40
      refine jx_inr (jx_thenr (jx_thenr ?_))
      obtain rfl := Option.some.inj hr_33
      exact qr [] (fun w hm => ⟨rfl, hm.pk []⟩)
     ·exact jc_skip (jx_inn (jx_then (jc_region (qh [0,0,0] (qe (qb (w64 (i_2 + 1)) () h trivial []))))))
    ·refine jc_exit (jx_thenx (jx_leave (.inr ()) (Option.some.inj h).symm (fun e_41 => ?_)))
     subst e_41
     exact jx_ine (qm () hr_33 [])
   ·rintro _ h
    replace h : spec_SameSpots.k_1 = some r := h
    rw [spec_SameSpots.k_1] at h
    refine jx_then (jc_seq (jc_region (qh [0] (qe (jx_then (jc_ret ?_))))))
    obtain rfl := Option.some.inj h
    exact qr [] (fun w hm => ⟨rfl, hm.pk []⟩)
/-! ### (impl.Frame).byTrack$1 -/
def impl_Frame_byTrack_1 (p_0 : Int) (track1 : Int) (p2 : List Int) : Option ((List Int)) := (ix p2 track1).bind fun x_1 => (ix p2 track1).bind fun x_2 => some (p2.set track1.toNat (w64 (x_1 + 1)))
theorem impl_Frame_byTrack_1.calls (p_0 : Int) (track1 : Int) (p2 : List Int) (w : World) (r : (List Int)) (C_b : Nat) (C_o : Option Nat) {C_on : Nat} {C_c : Nat} {C_sp : List Value} (C_hn : p2.length = C_on) (C_hs : C_o ≠ none → C_on ≤ C_c ∧ C_sp.length = (C_c - C_on) * 1) (C_ho : C_o = none → p2 = [] ∧ C_c = 0) (hm0 : Mem w (bs [some C_b, C_o]) [⟨some C_b, 48, [(.slice (C_o.map fun b => ⟨b, 0, none⟩) C_on C_c)]⟩, ⟨C_o, 2, row encI64 p2 C_sp⟩] w) (h : impl_Frame_byTrack_1 p_0 track1 p2 = some r) :
    Calls Tryz.prog 97 #[(.int .i64 p_0), (.int .i64 track1), (.pointer (some ⟨C_b, 0, none⟩))] w fun e w' => ∃ v, e = .returned v ∧ (r.length = C_on ∧ (C_o = none → r = [] ∧ C_c = 0) ∧ v = .tuple #[] ∧ Mem w (bs [some C_b, C_o]) [⟨some C_b, 48, [(.slice (C_o.map fun b => ⟨b, 0, none⟩) C_on C_c)]⟩, ⟨C_o, 2, row encI64 r C_sp⟩] w') := by
  subst C_hn
  rw [impl_Frame_byTrack_1] at h
  refine enter (args := [(.int .i64 p_0), (.int .i64 track1), (.pointer (some ⟨C_b, 0, none⟩))]) Tryz.func97 rfl Tryz.ntmps97 (by kernel_rfl) (L := [⟨some C_b, 48, [(.slice (C_o.map fun b => ⟨b, 0, none⟩) p2.length C_c)]⟩, ⟨C_o, 2, row encI64 p2 C_sp⟩]) (W := bs [some C_b, C_o]) hm0 ?_
  refine jc_region (qh [0,0] ?_)
  obtain ⟨x_1, hx_1, h⟩ := bd h
  refine tO (qx 0 (C_o.map fun b => ⟨b, 0, none⟩) 1 hx_1 rfl (spo C_ho hx_1) (jkO (tO (ql 0 false (fun w hm => ((hm.ow 1 C_o 2 p2 C_sp (fun e => (C_ho e).1) encI64_len).at hx_1)) (jkO (qh [0] ?_))))))
  obtain ⟨x_2, hx_2, h⟩ := bd h
  refine tO (qx 0 (C_o.map fun b => ⟨b, 0, none⟩) 1 hx_2 rfl (spo C_ho hx_2) (jkO (tO (p_strO 0 1 C_o 2 encI64 p2 C_sp track1 (w64 (x_1 + 1)) 1 0 [(.int .i64 (w64 (x_1 + 1)))] (by kernel_rfl) (by kernel_rfl) (by kernel_rfl) (fun e => (C_ho e).1) encI64_len hx_2 (by kernel_rfl) (by kernel_rfl) (jkO (qe (jx_fall ?_)))))))
  obtain rfl := Option.some.inj h
  exact qr [] (fun w hm => ⟨(List.length_set.trans rfl), (set_ho C_ho), rfl, hm.pk [0, 1]⟩)
/-! ### (impl.Frame).pins -/
def impl_Frame_pins_at_impl_Frame_byTrack_1.k_2 (xs_1 : List Int) : Option ((List Int)) := some xs_1
def impl_Frame_pins_at_impl_Frame_byTrack_1.k_9 (i_4 : Int) (xs_8 : List Int) : Option (((List Int) × Int) ⊕ ((List Int))) := some (.inl (xs_8, (w64 (i_4 + 1))))
def impl_Frame_pins_at_impl_Frame_byTrack_1.l_12 (d1 : Arr 96 Int) (i_4 : Int) (t_7 : Int) : ((List Int) × Int) → Option (((List Int) × Int) ⊕ ((List Int)))
  | (xs_10, i_11) => (if (decide (i_11 < t_7)) = true then (impl_Drum_has d1 i_4 i_11).bind fun t_14 => (if t_14 = true then (impl_Frame_byTrack_1 i_4 i_11 xs_10).bind fun t_15 => some (.inl (t_15, (w64 (i_11 + 1)))) else some (.inl (xs_10, (w64 (i_11 + 1))))) else some (.inr xs_10))
def impl_Frame_pins_at_impl_Frame_byTrack_1.l_5 (f0 : GFrame) (d1 : Arr 96 Int) : ((List Int) × Int) → Option (((List Int) × Int) ⊕ ((List Int)))
  | (xs_3, i_4) => (if (decide (i_4 < (w64 f0.fSteps))) = true then (impl_size_Hammer f0.fHammers).bind fun t_7 => (loop (impl_Frame_pins_at_impl_Frame_byTrack_1.l_12 d1 i_4 t_7) (xs_3, 0)).bind fun t_13 => impl_Frame_pins_at_impl_Frame_byTrack_1.k_9 i_4 t_13 else some (.inr xs_3))
def impl_Frame_pins_at_impl_Frame_byTrack_1 (f0 : GFrame) (d1 : Arr 96 Int) (g2c0 : List Int) : Option ((List Int)) := (loop (impl_Frame_pins_at_impl_Frame_byTrack_1.l_5 f0 d1) (g2c0, 0)).bind fun t_6 => impl_Frame_pins_at_impl_Frame_byTrack_1.k_2 t_6
theorem impl_Frame_pins_at_impl_Frame_byTrack_1.calls (f0 : GFrame) (d1 : Arr 96 Int) (g2c0 : List Int) (w : World) (r : (List Int)) {C_a : Option Addr} {C_an : Nat} (C_c : Nat) (C_h : Rw w C_a 2 encGHammer f0.fHammers) (C_hn : f0.fHammers.length = C_an) (E_b : Nat) (E_o : Option Nat) {E_on : Nat} {E_c : Nat} {E_sp : List Value} (E_hn : g2c0.length = E_on) (E_hs : E_o ≠ none → E_on ≤ E_c ∧ E_sp.length = (E_c - E_on) * 1) (E_ho : E_o = none → g2c0 = [] ∧ E_c = 0) (hm0 : Mem w (bs [some E_b, E_o]) [⟨some E_b, 48, [(.slice (E_o.map fun b => ⟨b, 0, none⟩) E_on E_c)]⟩, ⟨E_o, 2, row encI64 g2c0 E_sp⟩] w) (C_ha : f0.fHammers ≠ [] → aB C_a ∉ bs [some E_b, E_o]) (h : impl_Frame_pins_at_impl_Frame_byTrack_1 f0 d1 g2c0 = some r) :
    Calls Tryz.prog 91 #[(.agg #[(.int .i16 f0.fSteps), (.slice C_a C_an C_c)]), (.agg (row encU32 d1.1 []).toArray), (.func (.func 97) #[] #[(.pointer (some ⟨E_b, 0, none⟩))])] w fun e w' => ∃ v, e = .returned v ∧ (r.length = E_on ∧ (E_o = none → r = [] ∧ E_c = 0) ∧ v = .tuple #[] ∧ Mem w (bs [some E_b, E_o]) [⟨some E_b, 48, [(.slice (E_o.map fun b => ⟨b, 0, none⟩) E_on E_c)]⟩, ⟨E_o, 2, row encI64 r E_sp⟩] w') := by
  subst C_hn E_hn
  rw [impl_Frame_pins_at_impl_Frame_byTrack_1] at h
  refine enter (args := [(.agg #[(.int .i16 f0.fSteps), (.slice C_a f0.fHammers.length C_c)]), (.agg (row encU32 d1.1 []).toArray), (.func (.func 97) #[] #[(.pointer (some ⟨E_b, 0, none⟩))])]) Tryz.func91 rfl Tryz.ntmps91 (by kernel_rfl) (L := [⟨some E_b, 48, [(.slice (E_o.map fun b => ⟨b, 0, none⟩) g2c0.length E_c)]⟩, ⟨E_o, 2, row encI64 g2c0 E_sp⟩]) (W := bs [some E_b, E_o]) hm0 ?_
  refine jc_seq (jc_region (tO (qa 0 (fun b_1 => jkO (tO (qa 0 (fun b_2 => jkO (qe (jx_then (jc_seq (jc_region (qh [0,2,0,0] (qe (jx_then (jc_meet (fun (j : (List Int)) => match j with | xs_1 => impl_Frame_pins_at_impl_Frame_byTrack_1.k_2 xs_1 = some r ∧ (xs_1.length = g2c0.length) ∧ ((E_o = none → xs_1 = [] ∧ E_c = 0))) (fun (j : (List Int)) => match j with | xs_1 => []) (fun (j : (List Int)) => match j with | xs_1 => [⟨some E_b, 48, [(.slice (E_o.map fun b => ⟨b, 0, none⟩) g2c0.length E_c)]⟩, ⟨E_o, 2, row encI64 xs_1 E_sp⟩, ⟨some b_1, 27, [(.int .i16 f0.fSteps), (.slice C_a f0.fHammers.length C_c)]⟩, ⟨(some b_2), 34, row encU32 d1.1 []⟩]) ?_ ?_)))))))))))))))
  ·refine jc_block ?_
   obtain ⟨t_6, ht_398, hr_332⟩ := bd h
   refine jc_loop (fun (s : (List Int) × Int) (x : Unit) => match s, x with | ⟨xs_3, i_4⟩, _ => (xs_3.length = g2c0.length) ∧ ((E_o = none → xs_3 = [] ∧ E_c = 0))) (fun (s : (List Int) × Int) (x : Unit) => match s, x with | ⟨xs_3, i_4⟩, _ => [(2, [], (.func (.func 97) #[] #[(.pointer (some ⟨E_b, 0, none⟩))])), (3, [], (.pointer (some ⟨b_1, 0, none⟩))), (4, [], (.pointer (some ⟨b_2, 0, none⟩))), (10, [], (.int .i64 (w64 f0.fSteps))), (11, [], (.int .i64 i_4))]) (fun (s : (List Int) × Int) (x : Unit) => match s, x with | ⟨xs_3, i_4⟩, _ => [⟨some E_b, 48, [(.slice (E_o.map fun b => ⟨b, 0, none⟩) g2c0.length E_c)]⟩, ⟨E_o, 2, row encI64 xs_3 E_sp⟩, ⟨some b_1, 27, [(.int .i16 f0.fSteps), (.slice C_a f0.fHammers.length C_c)]⟩, ⟨(some b_2), 34, row encU32 d1.1 []⟩]) ht_398 () ⟨rfl, E_ho⟩ (by kernel_rfl) [0, 1, 2, 3] (by kernel_rfl) (by kernel_rfl) ?_
   rintro ⟨xs_3, i_4⟩ _ y_333 ⟨hn_331, ho_330⟩ h
   rw [impl_Frame_pins_at_impl_Frame_byTrack_1.l_5] at h
   refine jc_seq (jc_region (qh [0] (qe (jx_then (jc_seq (qi h (fun h => ?_) (fun h => ?_)))))))
   ·refine jc_skip (jx_then (jc_seq (jc_block (jc_seq (jc_region (qh [0,0] (qe (jx_then (jc_seq (jc_region (qh [0,2] ?_)))))))))))
    obtain ⟨t_7, ht_336, h⟩ := bd h
    refine tO (pc 0 (fun w hm => impl_size_Hammer.calls f0.fHammers w _ C_c (hm.exRowW C_h C_ha) rfl ht_336) ?_)
    rintro w v w' hm ⟨rfl, hm'⟩
    refine ⟨_, hm.app hm', jkO ?_⟩
    clear hm hm'
    refine qh [0] (qe (jx_then (jc_meet (fun (j : (List Int)) => match j with | xs_8 => impl_Frame_pins_at_impl_Frame_byTrack_1.k_9 i_4 xs_8 = some y_333 ∧ (xs_8.length = g2c0.length) ∧ ((E_o = none → xs_8 = [] ∧ E_c = 0))) (fun (j : (List Int)) => match j with | xs_8 => [(2, [], (.func (.func 97) #[] #[(.pointer (some ⟨E_b, 0, none⟩))])), (3, [], (.pointer (some ⟨b_1, 0, none⟩))), (4, [], (.pointer (some ⟨b_2, 0, none⟩))), (10, [], (.int .i64 (w64 f0.fSteps))), (11, [], (.int .i64 i_4))]) (fun (j : (List Int)) => match j with | xs_8 => [⟨some E_b, 48, [(.slice (E_o.map fun b => ⟨b, 0, none⟩) g2c0.length E_c)]⟩, ⟨E_o, 2, row encI64 xs_8 E_sp⟩, ⟨some b_1, 27, [(.int .i16 f0.fSteps), (.slice C_a f0.fHammers.length C_c)]⟩, ⟨(some b_2), 34, row encU32 d1.1 []⟩]) ?_ ?_)))
    ·refine jc_block ?_
     obtain ⟨t_13, ht_396, hr_386⟩ := bd h
     refine jc_loop (fun (s : (List Int) × Int) (x : Unit) => match s, x with | ⟨xs_10, i_11⟩, _ => (xs_10.length = g2c0.length) ∧ ((E_o = none → xs_10 = [] ∧ E_c = 0))) (fun (s : (List Int) × Int) (x : Unit) => match s, x with | ⟨xs_10, i_11⟩, _ => [(2, [], (.func (.func 97) #[] #[(.pointer (some ⟨E_b, 0, none⟩))])), (3, [], (.pointer (some ⟨b_1, 0, none⟩))), (4, [], (.pointer (some ⟨b_2, 0, none⟩))), (6, [], (.int .i64 i_4)), (10, [], (.int .i64 (w64 f0.fSteps))), (11, [], (.int .i64 i_4)), (16, [], (.int .i64 t_7)), (17, [], (.int .i64 i_11))]) (fun (s : (List Int) × Int) (x : Unit) => match s, x with | ⟨xs_10, i_11⟩, _ => [⟨some E_b, 48, [(.slice (E_o.map fun b => ⟨b, 0, none⟩) g2c0.length E_c)]⟩, ⟨E_o, 2, row encI64 xs_10 E_sp⟩, ⟨some b_1, 27, [(.int .i16 f0.fSteps), (.slice C_a f0.fHammers.length C_c)]⟩, ⟨(some b_2), 34, row encU32 d1.1 []⟩]) ht_396 () ⟨hn_331, ho_330⟩ (by kernel_rfl) [0, 1, 2, 3] (by kernel_rfl) (by kernel_rfl) ?_
     rintro ⟨xs_10, i_11⟩ _ y_387 ⟨hn_385, ho_384⟩ h
     rw [impl_Frame_pins_at_impl_Frame_byTrack_1.l_12] at h
     refine jc_seq (jc_region (qh [0] (qe (jx_then (jc_seq (qi h (fun h => ?_) (fun h => ?_)))))))
     ·refine jc_skip (jx_then (jc_seq (jc_block (jc_seq (jc_region (qh [0,0] (qe (jx_then (jc_seq (jc_region (qh [0,0] ?_)))))))))))
      obtain ⟨t_14, ht_390, h⟩ := bd h
      refine tO (pc 0 (fun w hm => impl_Drum_has.calls d1 i_4 i_11 w _ (hm.ow 3 (some b_2) 34 d1.1 [] (fun e => nomatch e) encU32_len) ht_390) ?_)
      rintro w v w' hm ⟨rfl, hm'⟩
      refine ⟨_, hm.app hm', jkO ?_⟩
      clear hm hm'
      refine qe (jx_then (qi h (fun h => ?_) (fun h => ?_)))
      ·refine jc_region (qh [0,0,0] ?_)
       obtain ⟨t_15, ht_392, h⟩ := bd h
       refine tO (pc 0 (fun w hm => impl_Frame_byTrack_1.calls i_4 i_11 xs_10 w _ E_b E_o hn_385 E_hs ho_384 (hm.pass (N := [⟨some E_b, 48, [(.slice (E_o.map fun b => ⟨b, 0, none⟩) g2c0.length E_c)]⟩, ⟨E_o, 2, row encI64 xs_10 E_sp⟩]) [0, 1] (by kernel_rfl) (by kernel_rfl)) ht_392) ?_)
       rintro w v w' hm ⟨hn_393, ho_394, rfl, hm'⟩
       refine ⟨_, hm.appW (ps := [(0, ⟨some E_b, 48, [(.slice (E_o.map fun b => ⟨b, 0, none⟩) g2c0.length E_c)]⟩), (1, ⟨E_o, 2, row encI64 t_15 E_sp⟩)]) (N := []) hm' (by kernel_rfl) (by kernel_rfl), jkO ?_⟩
       clear hm hm'
       exact qe (jx_inn (jx_then (jc_region (qh [0,0] (qe (qb (t_15, (w64 (i_11 + 1))) () h ⟨hn_393, ho_394⟩ [0, 1, 2, 3]))))))
      ·exact jc_skip (jx_inn (jx_then (jc_region (qh [0,0] (qe (qb (xs_10, (w64 (i_11 + 1))) () h ⟨hn_385, ho_384⟩ [0, 1, 2, 3]))))))
     ·refine jc_exit (jx_thenx (jx_leave xs_10 (Option.some.inj h).symm (fun e_395 => ?_)))
      subst e_395
      exact jx_ine (qm xs_10 ⟨hr_386, hn_385, ho_384⟩ [0, 1, 2, 3])
    ·rintro xs_8 ⟨h, hn_367, ho_366⟩
     replace h : impl_Frame_pins_at_impl_Frame_byTrack_1.k_9 i_4 xs_8 = some y_333 := h
     rw [impl_Frame_pins_at_impl_Frame_byTrack_1.k_9] at h
     exact jx_inn (jx_then (jc_region (qh [0,0] (qe (qb (xs_8, (w64 (i_4 + 1))) () h ⟨hn_367, ho_366⟩ [0, 1, 2, 3])))))
   ·refine jc_exit (jx_thenx (jx_leave xs_3 (Option.some.inj h).symm (fun e_397 => ?_)))
    subst e_397
    exact jx_ine (qm xs_3 ⟨hr_332, hn_331, ho_330⟩ [0, 1, 2, 3])
  ·rintro xs_1 ⟨h, hn_201, ho_200⟩
   replace h : impl_Frame_pins_at_impl_Frame_byTrack_1.k_2 xs_1 = some r := h
   rw [impl_Frame_pins_at_impl_Frame_byTrack_1.k_2] at h
   refine jx_fall ?_
   obtain rfl := Option.some.inj h
   exact qr [] (fun w hm => ⟨hn_201, ho_200, rfl, hm.pk [0, 1]⟩)
/-! ### (impl.Frame).byTrack -/
def impl_Frame_byTrack (f0 : GFrame) (d1 : Arr 96 Int) : Option ((List Int)) := (if 0 ≤ (f0.fHammers.length : Int) ∧ (f0.fHammers.length : Int) ≤ 17592186044416 then (impl_Frame_pins_at_impl_Frame_byTrack_1 f0 d1 (List.replicate (f0.fHammers.length : Int).toNat 0)).bind fun t_1 => some t_1 else none)
theorem impl_Frame_byTrack.calls (f0 : GFrame) (d1 : Arr 96 Int) (w : World) (r : (List Int)) {C_a : Option Addr} {C_an : Nat} (C_c : Nat) (C_h : Rw w C_a 2 encGHammer f0.fHammers) (C_hn : f0.fHammers.length = C_an) (h : impl_Frame_byTrack f0 d1 = some r) :
    Calls Tryz.prog 51 #[(.agg #[(.int .i16 f0.fSteps), (.slice C_a C_an C_c)]), (.agg (row encU32 d1.1 []).toArray)] w fun e w' => ∃ v, e = .returned v ∧ (∃ (o0 : Option Nat) (c0 : Nat) (s0 : List Value) (n0 : Nat), r.length = n0 ∧ (o0 ≠ none → n0 ≤ c0 ∧ s0.length = (c0 - n0) * 1) ∧ (o0 = none → r = [] ∧ c0 = 0) ∧ v = .slice (o0.map fun b => ⟨b, 0, none⟩) n0 c0 ∧ Mem w [] [⟨o0, 2, row encI64 r s0⟩] w') := by
  subst C_hn
  rw [impl_Frame_byTrack] at h
  refine enter (args := [(.agg #[(.int .i16 f0.fSteps), (.slice C_a f0.fHammers.length C_c)]), (.agg (row encU32 d1.1 []).toArray)]) Tryz.func51 rfl Tryz.ntmps51 (by kernel_rfl) (L := []) (W := []) (Mem.start w) ?_
  refine jc_seq (jc_region (tO (qa 0 (fun b_1 => jkO (tO (qa 0 (fun b_2 => jkO (qh [0] (qe (jx_then (jc_seq (jc_region (qh [0,0,0] ?_)))))))))))))
  obtain ⟨hg_8, h⟩ := gd h
  refine tO (p_mk 0 2 (f0.fHammers.length : Int) 1 8 encI64 0 (by kernel_rfl) (by kernel_rfl) hg_8.1 (by omega) (by kernel_rfl) (fun b_3 => jkO (tO (qa 0 (fun b_4 => jkO (tO (qs 0 [3] (jkO (qe (jx_then (jc_seq (jc_region (qh [0] (tO (p_ldA 0 1 b_2 96 1 34 encU32 d1 (by kernel_rfl) (by kernel_rfl) (by kernel_rfl) encU32_len (by kernel_rfl) (jkO (qh [0] ?_)))))))))))))))))
  obtain ⟨t_1, ht_5, h⟩ := bd h
  refine tO (pc 0 (fun w hm => impl_Frame_pins_at_impl_Frame_byTrack_1.calls f0 d1 (List.replicate (f0.fHammers.length : Int).toNat 0) w _ C_c (hm.xr C_h) rfl b_4 (some b_3) List.length_replicate (fun _ => ⟨Nat.le_refl _, by simp⟩) (fun e => nomatch e) (hm.pass (N := [⟨some b_4, 48, [(.slice (some ⟨b_3, 0, none⟩) ((f0.fHammers.length : Int).toNat) ((f0.fHammers.length : Int).toNat))]⟩, ⟨(some b_3), 2, row encI64 (List.replicate (f0.fHammers.length : Int).toNat 0) []⟩]) [3, 2] (by kernel_rfl) (by kernel_rfl)) (hm.exApart (N := [⟨some b_4, 48, [(.slice (some ⟨b_3, 0, none⟩) ((f0.fHammers.length : Int).toNat) ((f0.fHammers.length : Int).toNat))]⟩, ⟨(some b_3), 2, row encI64 (List.replicate (f0.fHammers.length : Int).toNat 0) []⟩]) C_h (fun _ => List.not_mem_nil) [3, 2] (by kernel_rfl)) ht_5) ?_)
  rintro w v w' hm ⟨hn_6, ho_7, rfl, hm'⟩
  refine ⟨_, hm.appW (ps := [(3, ⟨some b_4, 48, [(.slice (some ⟨b_3, 0, none⟩) ((f0.fHammers.length : Int).toNat) ((f0.fHammers.length : Int).toNat))]⟩), (2, ⟨(some b_3), 2, row encI64 t_1 []⟩)]) (N := []) hm' (by kernel_rfl) (by kernel_rfl), jkO ?_⟩
  clear hm hm'
  refine qe (jx_then (jc_seq (jc_region (qh [3,0] (qe (jx_then (jc_ret ?_)))))))
  obtain rfl := Option.some.inj h
  exact qr [] (fun w hm => ⟨(some b_3), ((f0.fHammers.length : Int).toNat), [], ((f0.fHammers.length : Int).toNat), hn_6, (fun _ => ⟨Nat.le_refl _, by simp⟩), (fun e => nomatch e), rfl, hm.pk [2]⟩)
/-! ### impl.SpareTracks -/
def impl_SpareTracks.k_4 (xs_3 : List Int) : Option ((List Int) × Int) := some (xs_3, 0)
def impl_SpareTracks.l_7 (t_2 : (List Int)) : ((List Int) × Int) → Option (((List Int) × Int) ⊕ ((List Int)))
  | (xs_5, i_6) => (if (decide (i_6 < (t_2.length : Int))) = true then (ix t_2 i_6).bind fun x_9 => (if (x_9 == 0) = true then (if xs_5.length + ([i_6] : List Int).length ≤ 4294967296 then some (.inl ((xs_5 ++ ([i_6] : List Int)), (w64 (i_6 + 1)))) else none) else some (.inl (xs_5, (w64 (i_6 + 1))))) else some (.inr xs_5))
def impl_SpareTracks (f0 : GFrame) (d1 : Arr 96 Int) : Option ((List Int) × Int) := (impl_drumCode f0 ([d1] : List (Arr 96 Int))).bind fun t_1 => (if (t_1 != 0) = true then some ([], t_1) else (impl_Frame_byTrack f0 d1).bind fun t_2 => (loop (impl_SpareTracks.l_7 t_2) (([] : List Int), 0)).bind fun t_8 => impl_SpareTracks.k_4 t_8)
theorem impl_SpareTracks.calls (f0 : GFrame) (d1 : Arr 96 Int) (w : World) (r : (List Int) × Int) {C_a : Option Addr} {C_an : Nat} (C_c : Nat) (C_h : Rw w C_a 2 encGHammer f0.fHammers) (C_hn : f0.fHammers.length = C_an) (h : impl_SpareTracks f0 d1 = some r) :
    Calls Tryz.prog 16 #[(.agg #[(.int .i16 f0.fSteps), (.slice C_a C_an C_c)]), (.agg (row encU32 d1.1 []).toArray)] w fun e w' => ∃ v, e = .returned v ∧ (∃ (o0 : Option Nat) (c0 : Nat) (s0 : List Value) (n0 : Nat), r.1.length = n0 ∧ (o0 ≠ none → n0 ≤ c0 ∧ s0.length = (c0 - n0) * 1) ∧ (o0 = none → r.1 = [] ∧ c0 = 0) ∧ v = .tuple #[.slice (o0.map fun b => ⟨b, 0, none⟩) n0 c0, (.int .i64 r.2)] ∧ Mem w [] [⟨o0, 2, row encI64 r.1 s0⟩] w') := by
  subst C_hn
  rw [impl_SpareTracks] at h
  refine enter (args := [(.agg #[(.int .i16 f0.fSteps), (.slice C_a f0.fHammers.length C_c)]), (.agg (row encU32 d1.1 []).toArray)]) Tryz.func16 rfl Tryz.ntmps16 (by kernel_rfl) (L := []) (W := []) (Mem.start w) ?_
  refine jc_seq (jc_region (tO (qa 0 (fun b_1 => jkO (tO (qa 0 (fun b_2 => jkO (qh [0,0] (qe (jx_then (jc_seq (jc_seq (jc_region (qh [0] (tO (p_ldA 0 1 b_2 96 1 34 encU32 d1 (by kernel_rfl) (by kernel_rfl) (by kernel_rfl) encU32_len (by kernel_rfl) (jkO (tO (p_bs 0 34 96 1 encA96U32 [(.agg (row encU32 d1.1 []).toArray)] [d1] (by kernel_rfl) (by kernel_rfl) rfl (by kernel_rfl) (by kernel_rfl) encA96U32_len (fun b_6 => jkO ?_))))))))))))))))))))
  obtain ⟨t_1, ht_7, h⟩ := bd h
  refine tO (pc 0 (fun w hm => impl_drumCode.calls f0 ([d1] : List (Arr 96 Int)) w _ C_c (hm.xr C_h) rfl 1 (hm.ow 2 (some b_6) 34 ([d1] : List (Arr 96 Int)) [] (fun e => nomatch e) encA96U32_len) rfl ht_7) ?_)
  rintro w v w' hm ⟨rfl, hm'⟩
  refine ⟨_, hm.app hm', jkO ?_⟩
  clear hm hm'
  refine qh [0] (qe (jx_then (jc_seq (jc_region (qh [0,0] (qe (jx_then (qi h (fun h => ?_) (fun h => ?_)))))))))
  ·refine jc_seq (jc_region (qh [0,0,0] (qe (jx_then (jc_ret (jx_thenr ?_))))))
   obtain rfl := Option.some.inj h
   exact jx_ghost 2 encI64 (qr [] (fun w hm => ⟨none, 0, [], 0, rfl, (fun e => absurd rfl e), (fun _ => ⟨rfl, rfl⟩), rfl, hm.pk [3]⟩))
  ·refine jc_skip (jx_then (jc_seq (jc_region (tO (qa 0 (fun b_9 => jkO (qh [0] (qe (jx_then (jc_seq (jc_seq (jc_region (qh [0] (tO (p_ldA 0 1 b_2 96 1 34 encU32 d1 (by kernel_rfl) (by kernel_rfl) (by kernel_rfl) encU32_len (by kernel_rfl) (jkO ?_))))))))))))))))
   obtain ⟨t_2, ht_120, h⟩ := bd h
   refine tO (pc 0 (fun w hm => impl_Frame_byTrack.calls f0 d1 w _ C_c (hm.xr C_h) rfl ht_120) ?_)
   rintro w v w' hm ⟨o_121, cap_122, sp_123, _, rfl, hs_124, ho_125, rfl, hm'⟩
   refine ⟨_, hm.app hm', jkO ?_⟩
   clear hm hm'
   refine qh [0,0] (qe (jx_then (jc_meet (fun (j : (List Int) × (Option Nat) × Nat × (List Value) × Nat) => match j with | ⟨xs_3, o_175, cap_176, sp_177, n_178⟩ => impl_SpareTracks.k_4 xs_3 = some r ∧ (xs_3.length = n_178) ∧ ((o_175 ≠ none → n_178 ≤ cap_176 ∧ sp_177.length = (cap_176 - n_178) * 1)) ∧ ((o_175 = none → xs_3 = [] ∧ cap_176 = 0))) (fun (j : (List Int) × (Option Nat) × Nat × (List Value) × Nat) => match j with | ⟨xs_3, o_175, cap_176, sp_177, n_178⟩ => [(4, [], (.slice none 0 0)), (5, [], (.int .i64 0)), (7, [], (.slice (o_175.map fun b => ⟨b, 0, none⟩) n_178 cap_176))]) (fun (j : (List Int) × (Option Nat) × Nat × (List Value) × Nat) => match j with | ⟨xs_3, o_175, cap_176, sp_177, n_178⟩ => [⟨some b_1, 27, [(.int .i16 f0.fSteps), (.slice C_a f0.fHammers.length C_c)]⟩, ⟨(some b_2), 34, row encU32 d1.1 []⟩, ⟨(some b_6), 34, row encA96U32 ([d1] : List (Arr 96 Int)) []⟩, ⟨o_175, 2, row encI64 xs_3 sp_177⟩, ⟨o_121, 2, row encI64 t_2 sp_123⟩]) ?_ ?_)))
   ·refine jc_block ?_
    obtain ⟨t_8, ht_229, hr_215⟩ := bd h
    refine jc_loop (fun (s : (List Int) × Int) (x : (Option Nat) × Nat × (List Value) × Nat) => match s, x with | ⟨xs_5, i_6⟩, ⟨o_209, cap_210, sp_211, n_212⟩ => (xs_5.length = n_212) ∧ ((o_209 ≠ none → n_212 ≤ cap_210 ∧ sp_211.length = (cap_210 - n_212) * 1)) ∧ ((o_209 = none → xs_5 = [] ∧ cap_210 = 0))) (fun (s : (List Int) × Int) (x : (Option Nat) × Nat × (List Value) × Nat) => match s, x with | ⟨xs_5, i_6⟩, ⟨o_209, cap_210, sp_211, n_212⟩ => [(4, [], (.slice none 0 0)), (5, [], (.int .i64 0)), (7, [], (.slice (o_209.map fun b => ⟨b, 0, none⟩) n_212 cap_210)), (20, [], (.slice (o_121.map fun b => ⟨b, 0, none⟩) t_2.length cap_122)), (21, [], (.int .i64 (t_2.length : Int))), (22, [], (.int .i64 i_6))]) (fun (s : (List Int) × Int) (x : (Option Nat) × Nat × (List Value) × Nat) => match s, x with | ⟨xs_5, i_6⟩, ⟨o_209, cap_210, sp_211, n_212⟩ => [⟨some b_1, 27, [(.int .i16 f0.fSteps), (.slice C_a f0.fHammers.length C_c)]⟩, ⟨(some b_2), 34, row encU32 d1.1 []⟩, ⟨(some b_6), 34, row encA96U32 ([d1] : List (Arr 96 Int)) []⟩, ⟨o_209, 2, row encI64 xs_5 sp_211⟩, ⟨o_121, 2, row encI64 t_2 sp_123⟩]) ht_229 ⟨(some b_9), 0, [], 0⟩ ⟨rfl, (fun _ => ⟨Nat.le_refl _, by simp⟩), (fun e => nomatch e)⟩ (by kernel_rfl) [0, 1, 2, 3, 4] (by kernel_rfl) (by kernel_rfl) ?_
    rintro ⟨xs_5, i_6⟩ ⟨o_209, cap_210, sp_211, n_212⟩ y_216 ⟨rfl, hs_213, ho_214⟩ h
    rw [impl_SpareTracks.l_7] at h
    refine jc_seq (jc_region (qh [0] (qe (jx_then (jc_seq (qi h (fun h => ?_) (fun h => ?_)))))))
    ·refine jc_skip (jx_then (jc_seq (jc_block (jc_seq (jc_region (qh [0] ?_))))))
     obtain ⟨x_9, hx_219, h⟩ := bd h
     refine tO (qx 0 (o_121.map fun b => ⟨b, 0, none⟩) 1 hx_219 rfl (spo ho_125 hx_219) (jkO (tO (ql 0 false (fun w hm => ((hm.ow 4 o_121 2 t_2 sp_123 (fun e => (ho_125 e).1) encI64_len).at hx_219)) (jkO (qh [0,0] (qe (jx_then (jc_seq (jc_region (qh [0,0] (qe (jx_then (qi h (fun h => ?_) (fun h => ?_)))))))))))))))
     ·refine jc_region (qh [0,0] (tO (qa 0 (fun b_221 => jkO ?_))))
      obtain ⟨hg_222, h⟩ := gd h
      exact tO (p_apn 0 3 o_209 2 xs_5.length 1 cap_210 1 8 (some ⟨b_221, 0, none⟩) encI64 xs_5 ([i_6] : List Int) sp_211 (.int .i64 0) rfl rfl (by kernel_rfl) (by kernel_rfl) (by kernel_rfl) encI64_len encI64_cell hs_213 ho_214 (fun w hm => (hm.ow 5 (some b_221) 2 ([i_6] : List Int) [] (fun e => nomatch e) encI64_len)) hg_222 (by kernel_rfl) (by kernel_rfl) (fun o_223 cap_224 sp_225 hs_226 ho_227 => jkO (qh [0] (qe (jx_inn (jx_then (jc_region (qh [0,0] (qe (qb ((xs_5 ++ ([i_6] : List Int)), (w64 (i_6 + 1))) ⟨o_223, cap_224, sp_225, (xs_5 ++ ([i_6] : List Int)).length⟩ h ⟨rfl, hs_226, ho_227⟩ [0, 1, 2, 3, 4]))))))))))
     ·exact jc_skip (jx_inn (jx_then (jc_region (qh [0,0] (qe (qb (xs_5, (w64 (i_6 + 1))) ⟨o_209, cap_210, sp_211, xs_5.length⟩ h ⟨rfl, hs_213, ho_214⟩ [0, 1, 2, 3, 4]))))))
    ·refine jc_exit (jx_thenx (jx_leave xs_5 (Option.some.inj h).symm (fun e_228 => ?_)))
     subst e_228
     exact jx_ine (qm ⟨xs_5, o_209, cap_210, sp_211, xs_5.length⟩ ⟨hr_215, rfl, hs_213, ho_214⟩ [0, 1, 2, 3, 4])
   ·rintro ⟨xs_3, o_175, cap_176, sp_177, n_178⟩ ⟨h, rfl, hs_179, ho_180⟩
    replace h : impl_SpareTracks.k_4 xs_3 = some r := h
    rw [impl_SpareTracks.k_4] at h
    refine jx_then (jc_seq (jc_region (qh [0,0,0] (qe (jx_then (jc_ret ?_))))))
    obtain rfl := Option.some.inj h
    exact qr [] (fun w hm => ⟨o_175, cap_176, sp_177, xs_3.length, rfl, hs_179, ho_180, rfl, hm.pk [3]⟩)
/-! ### spec.l02Asked -/
def spec_l02Asked.k_2 (q_1 : Bool) : Option (Int) := (if q_1 = true then some 1 else some 0)
def spec_l02Asked (f0 : GFrame) (d1 : Arr 96 Int) : Option (Int) := (spec_l02Frame f0).bind fun t_3 => (if (!t_3) = true then spec_l02Asked.k_2 true else (spec_l02Drum f0 d1).bind fun t_4 => spec_l02Asked.k_2 (!t_4))
theorem spec_l02Asked.calls (f0 : GFrame) (d1 : Arr 96 Int) (w : World) (r : Int) {C_a : Option Addr} {C_an : Nat} (C_c : Nat) (C_h : Rw w C_a 2 encGHammer f0.fHammers) (C_hn : f0.fHammers.length = C_an) {D_b D_q : Nat} (D_h : Rw w (some ⟨D_b, D_q, none⟩) 1 encU32 d1.1) (A_b : Nat) (hm0 : Mem w (bs [some A_b]) [⟨some A_b, 27, [(.int .i16 f0.fSteps), (.slice C_a C_an C_c)]⟩] w) (C_ha : f0.fHammers ≠ [] → aB C_a ∉ bs [some A_b]) (D_ha : d1.1 ≠ [] → aB (some ⟨D_b, D_q, none⟩) ∉ bs [some A_b]) (h : spec_l02Asked f0 d1 = some r) :
    Calls Tryz.prog 52 #[(.pointer (some ⟨A_b, 0, none⟩)), (.pointer (some ⟨D_b, D_q, none⟩))] w fun e w' => ∃ v, e = .returned v ∧ (v = (.int .i64 r) ∧ Mem w (bs [some A_b]) [⟨some A_b, 27, [(.int .i16 f0.fSteps), (.slice C_a C_an C_c)]⟩] w') := by
  subst C_hn
  rw [spec_l02Asked] at h
  refine enter (args := [(.pointer (some ⟨A_b, 0, none⟩)), (.pointer (some ⟨D_b, D_q, none⟩))]) Tryz.func52 rfl Tryz.ntmps52 (by kernel_rfl) (L := [⟨some A_b, 27, [(.int .i16 f0.fSteps), (.slice C_a f0.fHammers.length C_c)]⟩]) (W := bs [some A_b]) hm0 ?_
  refine jc_seq (jc_region (qh [0] (qe (jx_then (jc_seq (jc_seq (jc_meet (fun (j : Bool) => match j with | q_1 => spec_l02Asked.k_2 q_1 = some r) (fun (j : Bool) => match j with | q_1 => [(4, [], (.int .i64 0)), (13, [], (.bool q_1))]) (fun (j : Bool) => match j with | q_1 => [⟨some A_b, 27, [(.int .i16 f0.fSteps), (.slice C_a f0.fHammers.length C_c)]⟩]) ?_ ?_)))))))
  ·refine jc_region (qh [0] ?_)
   obtain ⟨t_3, ht_5, h⟩ := bd h
   refine tO (pc 0 (fun w hm => spec_l02Frame.calls f0 w _ C_c (hm.exRowW C_h C_ha) rfl A_b (hm.pass (N := [⟨some A_b, 27, [(.int .i16 f0.fSteps), (.slice C_a f0.fHammers.length C_c)]⟩]) [0] (by kernel_rfl) (by kernel_rfl)) (hm.exApart (N := [⟨some A_b, 27, [(.int .i16 f0.fSteps), (.slice C_a f0.fHammers.length C_c)]⟩]) C_h C_ha [0] (by kernel_rfl)) ht_5) ?_)
   rintro w v w' hm ⟨rfl, hm'⟩
   refine ⟨_, hm.appW (ps := [(0, ⟨some A_b, 27, [(.int .i16 f0.fSteps), (.slice C_a f0.fHammers.length C_c)]⟩)]) (N := []) hm' (by kernel_rfl) (by kernel_rfl), jkO ?_⟩
   clear hm hm'
   refine qf [(0, 0), (0, 0), (0, 1), (0, 1)] (qp 8 h (fun h => ?_) (fun h => ?_))
   ·exact qf [(0, 3), (0, 3), (0, 4)] (qe (qm true h [0]))
   ·obtain ⟨t_4, ht_7, h⟩ := bd h
    refine tO (pc 2 (fun w hm => spec_l02Drum.calls f0 d1 w _ C_c (hm.exRowW C_h C_ha) rfl (hm.exRowW D_h D_ha) A_b (hm.pass (N := [⟨some A_b, 27, [(.int .i16 f0.fSteps), (.slice C_a f0.fHammers.length C_c)]⟩]) [0] (by kernel_rfl) (by kernel_rfl)) (hm.exApart (N := [⟨some A_b, 27, [(.int .i16 f0.fSteps), (.slice C_a f0.fHammers.length C_c)]⟩]) C_h C_ha [0] (by kernel_rfl)) (hm.exApart (N := [⟨some A_b, 27, [(.int .i16 f0.fSteps), (.slice C_a f0.fHammers.length C_c)]⟩]) D_h D_ha [0] (by kernel_rfl)) ht_7) ?_)
    rintro w v w' hm ⟨rfl, hm'⟩
    refine ⟨_, hm.appW (ps := [(0, ⟨some A_b, 27, [(.int .i16 f0.fSteps), (.slice C_a f0.fHammers.length C_c)]⟩)]) (N := []) hm' (by kernel_rfl) (by kernel_rfl), jkO ?_⟩
    clear hm hm'
    exact qf [(0, 2), (0, 5)] (qe (qm (!t_4) h [0]))
  ·rintro q_1 h
   replace h : spec_l02Asked.k_2 q_1 = some r := h
   rw [spec_l02Asked.k_2] at h
   refine jx_then (qi h (fun h => ?_) (fun h => ?_))
   ·refine jc_seq (jc_region (qh [0] (qe (jx_then (jc_ret (jx_thenr ?_))))))
    obtain rfl := Option.some.inj h
    exact qr [] (fun w hm => ⟨rfl, hm.pk [0]⟩)
   ·refine jc_skip (jx_then (jc_seq (jc_region (qh [0] (qe (jx_then (jc_ret ?_)))))))
    obtain rfl := Option.some.inj h
    exact qr [] (fun w hm => ⟨rfl, hm.pk [0]⟩)
/-! ### spec.l03Uses -/
def spec_l03Uses.k_1 : Option (Bool) := some false
def spec_l03Uses.l_3 (d0 : Arr 96 Int) (track1 : Int) : Int → Option ((Int) ⊕ (Bool ⊕ Unit))
  | i_2 => (if (decide (i_2 < 96)) = true then (ix d0.1 i_2).bind fun x_5 => (spec_l03Bit track1).bind fun t_6 => (if ((bAnd .u32 x_5 t_6) != 0) = true then some (.inr (.inl true)) else some (.inl (w64 (i_2 + 1)))) else some (.inr (.inr ())))
def spec_l03Uses (d0 : Arr 96 Int) (track1 : Int) : Option (Bool) := (loop (spec_l03Uses.l_3 d0 track1) 0).bind fun t_4 => match t_4 with | .inl p => some p | .inr p => spec_l03Uses.k_1
theorem spec_l03Uses.calls (d0 : Arr 96 Int) (track1 : Int) (w : World) (r : Bool) {A_b A_q : Nat} (A_h : Rw w (some ⟨A_b, A_q, none⟩) 1 encU32 d0.1) (h : spec_l03Uses d0 track1 = some r) :
    Calls Tryz.prog 53 #[(.pointer (some ⟨A_b, A_q, none⟩)), (.int .i64 track1)] w fun e w' => ∃ v, e = .returned v ∧ (v = (.bool r) ∧ Mem w [] [] w') := by
  rw [spec_l03Uses] at h
  refine enter (args := [(.pointer (some ⟨A_b, A_q, none⟩)), (.int .i64 track1)]) Tryz.func53 rfl Tryz.ntmps53 (by kernel_rfl) (L := []) (W := []) (Mem.start w) ?_
  refine jc_seq (jc_region (qh [0] (qe (jx_then (jc_seq (jc_seq (jc_region (qh [0] (qe (jx_then (jc_meet (fun (_ : Unit) => spec_l03Uses.k_1 = some r) (fun (_ : Unit) => [(4, [], (.bool false))]) (fun (_ : Unit) => []) ?_ ?_)))))))))))
  ·refine jc_block ?_
   obtain ⟨t_4, ht_40, hr_31⟩ := bd h
   refine jc_loop (fun (s : Int) (x : Unit) => match s, x with | i_2, _ => True) (fun (s : Int) (x : Unit) => match s, x with | i_2, _ => [(0, [], (.pointer (some ⟨A_b, A_q, none⟩))), (1, [], (.int .i64 track1)), (4, [], (.bool false)), (5, [], (.int .i64 i_2))]) (fun (s : Int) (x : Unit) => match s, x with | i_2, _ => []) ht_40 () trivial (by kernel_rfl) [] (by kernel_rfl) (by kernel_rfl) ?_
   rintro i_2 _ y_32 _ h
   rw [spec_l03Uses.l_3] at h
   refine jc_seq (jc_seq (jc_region (qh [0,0] (qe (jx_then (qi h (fun h => ?_) (fun h => ?_)))))))
   ·refine jc_skip (jx_then (jc_seq (jc_block (jc_seq (qg [] 9 (qd [⟨0, 0, 0⟩,⟨1, 0, 0⟩,⟨2, 0, 0⟩,⟨5, 0, 0⟩] 5 [] ?_))))))
    obtain ⟨x_5, hx_35, h⟩ := bd h
    refine qv 3 0 [] (fun w hm => idx_run (a := (some ⟨A_b, A_q, none⟩)) (len := 96) (s := 1) (j := i_2) (by kernel_rfl) (ix_some hx_35).1 (ltn hx_35 d0.2) (A_h.sp hx_35)) (qv 4 0 [] (fun w hm => ld_run (b := aB (some ⟨A_b, A_q, none⟩)) (off := (aO (some ⟨A_b, A_q, none⟩) + i_2.toNat * 1)) (s := 1) (agg := false) (vs := (encU32 x_5)) (by kernel_rfl) (by kernel_rfl) (.inr rfl) ((hm.xr A_h).at hx_35)) ?_)
    obtain ⟨t_6, ht_36, h⟩ := bd h
    refine tD 6 (pc 0 (fun w hm => spec_l03Bit.calls track1 w _ ht_36) ?_)
    rintro w v w' hm ⟨rfl, hm'⟩
    refine ⟨_, hm.app hm', kD [] ?_⟩
    clear hm hm'
    refine qd [⟨7, 0, 0⟩,⟨8, 0, 0⟩] 0 [] (qz (jx_then (qi h (fun h => ?_) (fun h => ?_))))
    ·refine jc_seq (jc_region (qh [0] (qe (jx_then (jc_ret (jx_inr (jx_thenr (jx_leaver (.inl true) (Option.some.inj h).symm (fun e_38 => ?_)))))))))
     subst e_38
     refine jx_inr (jx_thenr (jx_thenr ?_))
     obtain rfl := Option.some.inj hr_31
     exact qr [] (fun w hm => ⟨rfl, hm.pk []⟩)
    ·exact jc_skip (jx_inn (jx_then (jc_region (qh [0,0,0] (qe (qb (w64 (i_2 + 1)) () h trivial []))))))
   ·refine jc_exit (jx_thenx (jx_leave (.inr ()) (Option.some.inj h).symm (fun e_39 => ?_)))
    subst e_39
    exact jx_ine (qm () hr_31 [])
  ·rintro _ h
   replace h : spec_l03Uses.k_1 = some r := h
   rw [spec_l03Uses.k_1] at h
   refine jx_then (jc_seq (jc_region (qh [0] (qe (jx_then (jc_ret ?_))))))
   obtain rfl := Option.some.inj h
   exact qr [] (fun w hm => ⟨rfl, hm.pk []⟩)
/-! ### spec.SpareTracks -/
def spec_SpareTracks.k_3 (xs_2 : List Int) : Option ((List Int) × Int) := some (xs_2, 0)
def spec_SpareTracks.l_6 (f0 : GFrame) (d1 : Arr 96 Int) : ((List Int) × Int) → Option (((List Int) × Int) ⊕ ((List Int)))
  | (xs_4, i_5) => (if (decide (i_5 < (f0.fHammers.length : Int))) = true then (spec_l03Uses d1 i_5).bind fun t_8 => (if (!t_8) = true then (if xs_4.length + ([i_5] : List Int).length ≤ 4294967296 then some (.inl ((xs_4 ++ ([i_5] : List Int)), (w64 (i_5 + 1)))) else none) else some (.inl (xs_4, (w64 (i_5 + 1))))) else some (.inr xs_4))
def spec_SpareTracks (f0 : GFrame) (d1 : Arr 96 Int) : Option ((List Int) × Int) := (spec_l02Asked f0 d1).bind fun t_1 => (if (t_1 != 0) = true then some (([] : List Int), t_1) else (loop (spec_SpareTracks.l_6 f0 d1) (([] : List Int), 0)).bind fun t_7 => spec_SpareTracks.k_3 t_7)
theorem spec_SpareTracks.calls (f0 : GFrame) (d1 : Arr 96 Int) (w : World) (r : (List Int) × Int) {C_a : Option Addr} {C_an : Nat} (C_c : Nat) (C_h : Rw w C_a 2 encGHammer f0.fHammers) (C_hn : f0.fHammers.length = C_an) (h : spec_SpareTracks f0 d1 = some r) :
    Calls Tryz.prog 17 #[(.agg #[(.int .i16 f0.fSteps), (.slice C_a C_an C_c)]), (.agg (row encU32 d1.1 []).toArray)] w fun e w' => ∃ v, e = .returned v ∧ (∃ (o0 : Option Nat) (c0 : Nat) (s0 : List Value) (n0 : Nat), r.1.length = n0 ∧ (o0 ≠ none → n0 ≤ c0 ∧ s0.length = (c0 - n0) * 1) ∧ (o0 = none → r.1 = [] ∧ c0 = 0) ∧ v = .tuple #[.slice (o0.map fun b => ⟨b, 0, none⟩) n0 c0, (.int .i64 r.2)] ∧ Mem w [] [⟨o0, 2, row encI64 r.1 s0⟩] w') := by
  subst C_hn
  rw [spec_SpareTracks] at h
  refine enter (args := [(.agg #[(.int .i16 f0.fSteps), (.slice C_a f0.fHammers.length C_c)]), (.agg (row encU32 d1.1 []).toArray)]) Tryz.func17 rfl Tryz.ntmps17 (by kernel_rfl) (L := []) (W := []) (Mem.start w) ?_
  refine jc_seq (jc_region (tO (qa 0 (fun b_1 => jkO (tO (qa 0 (fun b_2 => jkO (qh [0,0] (qe (jx_then (jc_seq (jc_seq (jc_region ?_)))))))))))))
  obtain ⟨t_1, ht_6, h⟩ := bd h
  refine tO (pc 0 (fun w hm => spec_l02Asked.calls f0 d1 w _ C_c (hm.xr C_h) rfl (hm.ow 1 (some b_2) 34 d1.1 [] (fun e => nomatch e) encU32_len) b_1 (hm.pass (N := [⟨some b_1, 27, [(.int .i16 f0.fSteps), (.slice C_a f0.fHammers.length C_c)]⟩]) [0] (by kernel_rfl) (by kernel_rfl)) (hm.exApart (N := [⟨some b_1, 27, [(.int .i16 f0.fSteps), (.slice C_a f0.fHammers.length C_c)]⟩]) C_h (fun _ => List.not_mem_nil) [0] (by kernel_rfl)) (hm.ownApart (S := Int) (N := [⟨some b_1, 27, [(.int .i16 f0.fSteps), (.slice C_a f0.fHammers.length C_c)]⟩]) (hh := 1) (o := (some b_2)) (T := 34) (cs := row encU32 d1.1 []) (xs := d1.1) (by kernel_rfl) (fun e => nomatch e) [0] (by kernel_rfl) (by kernel_rfl)) ht_6) ?_)
  rintro w v w' hm ⟨rfl, hm'⟩
  refine ⟨_, hm.appW (ps := [(0, ⟨some b_1, 27, [(.int .i16 f0.fSteps), (.slice C_a f0.fHammers.length C_c)]⟩)]) (N := []) hm' (by kernel_rfl) (by kernel_rfl), jkO ?_⟩
  clear hm hm'
  refine qh [0] (qe (jx_then (jc_seq (jc_region (qh [0,0] (qe (jx_then (qi h (fun h => ?_) (fun h => ?_)))))))))
  ·refine jc_seq (jc_region (tO (qa 0 (fun b_8 => jkO (qh [0,0,0] (qe (jx_then (jc_ret (jx_thenr ?_)))))))))
   obtain rfl := Option.some.inj h
   exact qr [] (fun w hm => ⟨(some b_8), 0, [], 0, rfl, (fun _ => ⟨Nat.le_refl _, by simp⟩), (fun e => nomatch e), rfl, hm.pk [2]⟩)
  ·refine jc_skip (jx_then (jc_seq (jc_region (tO (qa 0 (fun b_9 => jkO (qh [0] (qe (jx_then (jc_seq (jc_seq (jc_region (qh [0] (qe (jx_then (jc_meet (fun (j : (List Int) × (Option Nat) × Nat × (List Value) × Nat) => match j with | ⟨xs_2, o_163, cap_164, sp_165, n_166⟩ => spec_SpareTracks.k_3 xs_2 = some r ∧ (xs_2.length = n_166) ∧ ((o_163 ≠ none → n_166 ≤ cap_164 ∧ sp_165.length = (cap_164 - n_166) * 1)) ∧ ((o_163 = none → xs_2 = [] ∧ cap_164 = 0))) (fun (j : (List Int) × (Option Nat) × Nat × (List Value) × Nat) => match j with | ⟨xs_2, o_163, cap_164, sp_165, n_166⟩ => [(4, [], (.slice none 0 0)), (5, [], (.int .i64 0)), (7, [], (.slice (o_163.map fun b => ⟨b, 0, none⟩) n_166 cap_164))]) (fun (j : (List Int) × (Option Nat) × Nat × (List Value) × Nat) => match j with | ⟨xs_2, o_163, cap_164, sp_165, n_166⟩ => [⟨some b_1, 27, [(.int .i16 f0.fSteps), (.slice C_a f0.fHammers.length C_c)]⟩, ⟨(some b_2), 34, row encU32 d1.1 []⟩, ⟨o_163, 2, row encI64 xs_2 sp_165⟩]) ?_ ?_))))))))))))))))
   ·refine jc_block ?_
    obtain ⟨t_7, ht_217, hr_203⟩ := bd h
    refine jc_loop (fun (s : (List Int) × Int) (x : (Option Nat) × Nat × (List Value) × Nat) => match s, x with | ⟨xs_4, i_5⟩, ⟨o_197, cap_198, sp_199, n_200⟩ => (xs_4.length = n_200) ∧ ((o_197 ≠ none → n_200 ≤ cap_198 ∧ sp_199.length = (cap_198 - n_200) * 1)) ∧ ((o_197 = none → xs_4 = [] ∧ cap_198 = 0))) (fun (s : (List Int) × Int) (x : (Option Nat) × Nat × (List Value) × Nat) => match s, x with | ⟨xs_4, i_5⟩, ⟨o_197, cap_198, sp_199, n_200⟩ => [(2, [], (.pointer (some ⟨b_1, 0, none⟩))), (3, [], (.pointer (some ⟨b_2, 0, none⟩))), (4, [], (.slice none 0 0)), (5, [], (.int .i64 0)), (7, [], (.slice (o_197.map fun b => ⟨b, 0, none⟩) n_200 cap_198)), (8, [], (.int .i64 i_5))]) (fun (s : (List Int) × Int) (x : (Option Nat) × Nat × (List Value) × Nat) => match s, x with | ⟨xs_4, i_5⟩, ⟨o_197, cap_198, sp_199, n_200⟩ => [⟨some b_1, 27, [(.int .i16 f0.fSteps), (.slice C_a f0.fHammers.length C_c)]⟩, ⟨(some b_2), 34, row encU32 d1.1 []⟩, ⟨o_197, 2, row encI64 xs_4 sp_199⟩]) ht_217 ⟨(some b_9), 0, [], 0⟩ ⟨rfl, (fun _ => ⟨Nat.le_refl _, by simp⟩), (fun e => nomatch e)⟩ (by kernel_rfl) [0, 1, 2] (by kernel_rfl) (by kernel_rfl) ?_
    rintro ⟨xs_4, i_5⟩ ⟨o_197, cap_198, sp_199, n_200⟩ y_204 ⟨rfl, hs_201, ho_202⟩ h
    rw [spec_SpareTracks.l_6] at h
    refine jc_seq (jc_seq (jc_region (qh [0,0,0,0,0] (qe (jx_then (qi h (fun h => ?_) (fun h => ?_)))))))
    ·refine jc_skip (jx_then (jc_seq (jc_block (jc_seq (jc_region (qh [0] ?_))))))
     obtain ⟨t_8, ht_207, h⟩ := bd h
     refine tO (pc 0 (fun w hm => spec_l03Uses.calls d1 i_5 w _ (hm.ow 1 (some b_2) 34 d1.1 [] (fun e => nomatch e) encU32_len) ht_207) ?_)
     rintro w v w' hm ⟨rfl, hm'⟩
     refine ⟨_, hm.app hm', jkO ?_⟩
     clear hm hm'
     refine qh [0] (qe (jx_then (qi h (fun h => ?_) (fun h => ?_))))
     ·refine jc_region (qh [0,0] (tO (qa 0 (fun b_209 => jkO ?_))))
      obtain ⟨hg_210, h⟩ := gd h
      exact tO (p_apn 0 2 o_197 2 xs_4.length 1 cap_198 1 8 (some ⟨b_209, 0, none⟩) encI64 xs_4 ([i_5] : List Int) sp_199 (.int .i64 0) rfl rfl (by kernel_rfl) (by kernel_rfl) (by kernel_rfl) encI64_len encI64_cell hs_201 ho_202 (fun w hm => (hm.ow 3 (some b_209) 2 ([i_5] : List Int) [] (fun e => nomatch e) encI64_len)) hg_210 (by kernel_rfl) (by kernel_rfl) (fun o_211 cap_212 sp_213 hs_214 ho_215 => jkO (qh [0] (qe (jx_inn (jx_then (jc_region (qh [0,0,0] (qe (qb ((xs_4 ++ ([i_5] : List Int)), (w64 (i_5 + 1))) ⟨o_211, cap_212, sp_213, (xs_4 ++ ([i_5] : List Int)).length⟩ h ⟨rfl, hs_214, ho_215⟩ [0, 1, 2]))))))))))
     ·exact jc_skip (jx_inn (jx_then (jc_region (qh [0,0,0] (qe (qb (xs_4, (w64 (i_5 + 1))) ⟨o_197, cap_198, sp_199, xs_4.length⟩ h ⟨rfl, hs_201, ho_202⟩ [0, 1, 2]))))))
    ·refine jc_exit (jx_thenx (jx_leave xs_4 (Option.some.inj h).symm (fun e_216 => ?_)))
     subst e_216
     exact jx_ine (qm ⟨xs_4, o_197, cap_198, sp_199, xs_4.length⟩ ⟨hr_203, rfl, hs_201, ho_202⟩ [0, 1, 2])
   ·rintro ⟨xs_2, o_163, cap_164, sp_165, n_166⟩ ⟨h, rfl, hs_167, ho_168⟩
    replace h : spec_SpareTracks.k_3 xs_2 = some r := h
    rw [spec_SpareTracks.k_3] at h
    refine jx_then (jc_seq (jc_region (qh [0,0,0] (qe (jx_then (jc_ret ?_))))))
    obtain rfl := Option.some.inj h
    exact qr [] (fun w hm => ⟨o_163, cap_164, sp_165, xs_2.length, rfl, hs_167, ho_168, rfl, hm.pk [2]⟩)
/-! ### impl.PinsByTrack -/
def impl_PinsByTrack (f0 : GFrame) (d1 : Arr 96 Int) : Option ((List Int) × Int) := (impl_drumCode f0 ([d1] : List (Arr 96 Int))).bind fun t_1 => (if (t_1 != 0) = true then some ([], t_1) else (impl_Frame_byTrack f0 d1).bind fun t_2 => some (t_2, 0))
theorem impl_PinsByTrack.calls (f0 : GFrame) (d1 : Arr 96 Int) (w : World) (r : (List Int) × Int) {C_a : Option Addr} {C_an : Nat} (C_c : Nat) (C_h : Rw w C_a 2 encGHammer f0.fHammers) (C_hn : f0.fHammers.length = C_an) (h : impl_PinsByTrack f0 d1 = some r) :
    Calls Tryz.prog 18 #[(.agg #[(.int .i16 f0.fSteps), (.slice C_a C_an C_c)]), (.agg (row encU32 d1.1 []).toArray)] w fun e w' => ∃ v, e = .returned v ∧ (∃ (o0 : Option Nat) (c0 : Nat) (s0 : List Value) (n0 : Nat), r.1.length = n0 ∧ (o0 ≠ none → n0 ≤ c0 ∧ s0.length = (c0 - n0) * 1) ∧ (o0 = none → r.1 = [] ∧ c0 = 0) ∧ v = .tuple #[.slice (o0.map fun b => ⟨b, 0, none⟩) n0 c0, (.int .i64 r.2)] ∧ Mem w [] [⟨o0, 2, row encI64 r.1 s0⟩] w') := by
  subst C_hn
  rw [impl_PinsByTrack] at h
  refine enter (args := [(.agg #[(.int .i16 f0.fSteps), (.slice C_a f0.fHammers.length C_c)]), (.agg (row encU32 d1.1 []).toArray)]) Tryz.func18 rfl Tryz.ntmps18 (by kernel_rfl) (L := []) (W := []) (Mem.start w) ?_
  refine jc_seq (jc_region (tO (qa 0 (fun b_1 => jkO (tO (qa 0 (fun b_2 => jkO (qh [0,0] (qe (jx_then (jc_seq (jc_seq (jc_region (qh [0] (tO (p_ldA 0 1 b_2 96 1 34 encU32 d1 (by kernel_rfl) (by kernel_rfl) (by kernel_rfl) encU32_len (by kernel_rfl) (jkO (tO (p_bs 0 34 96 1 encA96U32 [(.agg (row encU32 d1.1 []).toArray)] [d1] (by kernel_rfl) (by kernel_rfl) rfl (by kernel_rfl) (by kernel_rfl) encA96U32_len (fun b_6 => jkO ?_))))))))))))))))))))
  obtain ⟨t_1, ht_7, h⟩ := bd h
  refine tO (pc 0 (fun w hm => impl_drumCode.calls f0 ([d1] : List (Arr 96 Int)) w _ C_c (hm.xr C_h) rfl 1 (hm.ow 2 (some b_6) 34 ([d1] : List (Arr 96 Int)) [] (fun e => nomatch e) encA96U32_len) rfl ht_7) ?_)
  rintro w v w' hm ⟨rfl, hm'⟩
  refine ⟨_, hm.app hm', jkO ?_⟩
  clear hm hm'
  refine qh [0] (qe (jx_then (jc_seq (jc_region (qh [0,0] (qe (jx_then (qi h (fun h => ?_) (fun h => ?_)))))))))
  ·refine jc_seq (jc_region (qh [0,0,0] (qe (jx_then (jc_ret (jx_thenr ?_))))))
   obtain rfl := Option.some.inj h
   exact jx_ghost 2 encI64 (qr [] (fun w hm => ⟨none, 0, [], 0, rfl, (fun e => absurd rfl e), (fun _ => ⟨rfl, rfl⟩), rfl, hm.pk [3]⟩))
  ·refine jc_skip (jx_then (jc_seq (jc_region (qh [0] (tO (p_ldA 0 1 b_2 96 1 34 encU32 d1 (by kernel_rfl) (by kernel_rfl) (by kernel_rfl) encU32_len (by kernel_rfl) (jkO ?_)))))))
   obtain ⟨t_2, ht_9, h⟩ := bd h
   refine tO (pc 0 (fun w hm => impl_Frame_byTrack.calls f0 d1 w _ C_c (hm.xr C_h) rfl ht_9) ?_)
   rintro w v w' hm ⟨o_10, cap_11, sp_12, _, rfl, hs_13, ho_14, rfl, hm'⟩
   refine ⟨_, hm.app hm', jkO ?_⟩
   clear hm hm'
   refine qh [0,0] (qe (jx_then (jc_ret ?_)))
   obtain rfl := Option.some.inj h
   exact qr [] (fun w hm => ⟨o_10, cap_11, sp_12, t_2.length, rfl, hs_13, ho_14, rfl, hm.pk [3]⟩)
/-! ### spec.l00Same -/
def spec_l00Same.k_1 : Option (Bool) := some true
def spec_l00Same.l_3 (a0 : List Int) (b1 : List Int) : Int → Option ((Int) ⊕ (Bool ⊕ Unit))
  | i_2 => (if (decide (i_2 < (a0.length : Int))) = true then (ix a0 i_2).bind fun x_5 => (ix b1 i_2).bind fun x_6 => (if (x_5 != x_6) = true then some (.inr (.inl false)) else some (.inl (w64 (i_2 + 1)))) else some (.inr (.inr ())))
def spec_l00Same (a0 : List Int) (b1 : List Int) : Option (Bool) := (if ((a0.length : Int) != (b1.length : Int)) = true then some false else (loop (spec_l00Same.l_3 a0 b1) 0).bind fun t_4 => match t_4 with | .inl p => some p | .inr p => spec_l00Same.k_1)
theorem spec_l00Same.calls (a0 : List Int) (b1 : List Int) (w : World) (r : Bool) {A_a : Option Addr} {A_an : Nat} (A_c : Nat) (A_h : Rw w A_a 1 encI64 a0) (A_hn : a0.length = A_an) {B_a : Option Addr} {B_an : Nat} (B_c : Nat) (B_h : Rw w B_a 1 encI64 b1) (B_hn : b1.length = B_an) (h : spec_l00Same a0 b1 = some r) :
    Calls Tryz.prog 54 #[(.slice A_a A_an A_c), (.slice B_a B_an B_c)] w fun e w' => ∃ v, e = .returned v ∧ (v = (.bool r) ∧ Mem w [] [] w') := by
  subst A_hn B_hn
  rw [spec_l00Same] at h
  refine enter (args := [(.slice A_a a0.length A_c), (.slice B_a b1.length B_c)]) Tryz.func54 rfl Tryz.ntmps54 (by kernel_rfl) (L := []) (W := []) (Mem.start w) ?_
  refine jc_seq (jc_region (qh [0] (qe (jx_then (jc_seq (jc_seq (jc_region (qh [0,0,0,0,0] (qe (jx_then (qi h (fun h => ?_) (fun h => ?_))))))))))))
  ·refine jc_seq (jc_region (qh [0] (qe (jx_then (jc_ret (jx_thenr ?_))))))
   obtain rfl := Option.some.inj h
   exact qr [] (fun w hm => ⟨rfl, hm.pk []⟩)
  ·refine jc_skip (jx_then (jc_seq (jc_seq (jc_region (qh [0] (qe (jx_then (jc_meet (fun (_ : Unit) => spec_l00Same.k_1 = some r) (fun (_ : Unit) => [(4, [], (.bool false))]) (fun (_ : Unit) => []) ?_ ?_))))))))
   ·refine jc_block ?_
    obtain ⟨t_4, ht_42, hr_33⟩ := bd h
    refine jc_loop (fun (s : Int) (x : Unit) => match s, x with | i_2, _ => True) (fun (s : Int) (x : Unit) => match s, x with | i_2, _ => [(0, [], (.slice A_a a0.length A_c)), (1, [], (.slice B_a b1.length B_c)), (4, [], (.bool false)), (5, [], (.int .i64 i_2))]) (fun (s : Int) (x : Unit) => match s, x with | i_2, _ => []) ht_42 () trivial (by kernel_rfl) [] (by kernel_rfl) (by kernel_rfl) ?_
    rintro i_2 _ y_34 _ h
    rw [spec_l00Same.l_3] at h
    refine jc_seq (jc_seq (jc_region (qh [0,0,0,0] (qe (jx_then (qi h (fun h => ?_) (fun h => ?_)))))))
    ·refine jc_skip (jx_then (jc_seq (jc_block (jc_seq (qg [] 9 (qd [⟨0, 0, 0⟩,⟨1, 0, 0⟩,⟨4, 0, 0⟩,⟨5, 0, 0⟩] 5 [] ?_))))))
     obtain ⟨x_5, hx_37, h⟩ := bd h
     refine qv 2 0 [] (fun w hm => idx_run (a := A_a) (len := a0.length) (s := 1) (j := i_2) (by kernel_rfl) (ix_some hx_37).1 (ltn hx_37 rfl) (A_h.sp hx_37)) (qv 3 0 [] (fun w hm => ld_run (b := aB A_a) (off := (aO A_a + i_2.toNat * 1)) (s := 1) (agg := false) (vs := (encI64 x_5)) (by kernel_rfl) (by kernel_rfl) (.inr rfl) ((hm.xr A_h).at hx_37)) ?_)
     obtain ⟨x_6, hx_38, h⟩ := bd h
     refine qv 6 0 [] (fun w hm => idx_run (a := B_a) (len := b1.length) (s := 1) (j := i_2) (by kernel_rfl) (ix_some hx_38).1 (ltn hx_38 rfl) (B_h.sp hx_38)) (qv 7 0 [] (fun w hm => ld_run (b := aB B_a) (off := (aO B_a + i_2.toNat * 1)) (s := 1) (agg := false) (vs := (encI64 x_6)) (by kernel_rfl) (by kernel_rfl) (.inr rfl) ((hm.xr B_h).at hx_38)) (qd [⟨8, 0, 0⟩] 0 [] (qz (jx_then (qi h (fun h => ?_) (fun h => ?_))))))
     ·refine jc_seq (jc_region (qh [0] (qe (jx_then (jc_ret (jx_inr (jx_thenr (jx_leaver (.inl false) (Option.some.inj h).symm (fun e_40 => ?_)))))))))
      subst e_40
      refine jx_inr (jx_thenr (jx_thenr ?_))
      obtain rfl := Option.some.inj hr_33
      exact qr [] (fun w hm => ⟨rfl, hm.pk []⟩)
     ·exact jc_skip (jx_inn (jx_then (jc_region (qh [0,0,0] (qe (qb (w64 (i_2 + 1)) () h trivial []))))))
    ·refine jc_exit (jx_thenx (jx_leave (.inr ()) (Option.some.inj h).symm (fun e_41 => ?_)))
     subst e_41
     exact jx_ine (qm () hr_33 [])
   ·rintro _ h
    replace h : spec_l00Same.k_1 = some r := h
    rw [spec_l00Same.k_1] at h
    refine jx_then (jc_seq (jc_region (qh [0] (qe (jx_then (jc_ret ?_))))))
    obtain rfl := Option.some.inj h
    exact qr [] (fun w hm => ⟨rfl, hm.pk []⟩)
/-! ### spec.SameNumbers -/
def spec_SameNumbers (a0 : List Int) (b1 : List Int) : Option (Bool) := (spec_l00Same a0 b1).bind fun t_1 => some t_1
theorem spec_SameNumbers.calls (a0 : List Int) (b1 : List Int) (w : World) (r : Bool) {A_a : Option Addr} {A_an : Nat} (A_c : Nat) (A_h : Rw w A_a 1 encI64 a0) (A_hn : a0.length = A_an) {B_a : Option Addr} {B_an : Nat} (B_c : Nat) (B_h : Rw w B_a 1 encI64 b1) (B_hn : b1.length = B_an) (h : spec_SameNumbers a0 b1 = some r) :
    Calls Tryz.prog 19 #[(.slice A_a A_an A_c), (.slice B_a B_an B_c)] w fun e w' => ∃ v, e = .returned v ∧ (v = (.bool r) ∧ Mem w [] [] w') := by
  subst A_hn B_hn
  rw [spec_SameNumbers] at h
  refine enter (args := [(.slice A_a a0.length A_c), (.slice B_a b1.length B_c)]) Tryz.func19 rfl Tryz.ntmps19 (by kernel_rfl) (L := []) (W := []) (Mem.start w) ?_
  refine jc_seq (jc_region (qh [0] (qe (jx_then (jc_seq (jc_region (qh [0,0] ?_)))))))
  obtain ⟨t_1, ht_1, h⟩ := bd h
  refine tO (pc 0 (fun w hm => spec_l00Same.calls a0 b1 w _ A_c (hm.xr A_h) rfl B_c (hm.xr B_h) rfl ht_1) ?_)
  rintro w v w' hm ⟨rfl, hm'⟩
  refine ⟨_, hm.app hm', jkO ?_⟩
  clear hm hm'
  refine qh [0] (qe (jx_then (jc_ret ?_)))
  obtain rfl := Option.some.inj h
  exact qr [] (fun w hm => ⟨rfl, hm.pk []⟩)
/-! ### impl.placeCode -/
def impl_placeCode (f0 : GFrame) (d1 : Arr 96 Int) (step2 : Int) (track3 : Int) : Option (Int) := (impl_drumCode f0 ([d1] : List (Arr 96 Int))).bind fun t_1 => (impl_Frame_isPlace f0 step2 track3).bind fun t_2 => (impl_unless t_2 2).bind fun t_3 => (impl_firstOf ([t_1, t_3] : List Int)).bind fun t_4 => some t_4
theorem impl_placeCode.calls (f0 : GFrame) (d1 : Arr 96 Int) (step2 : Int) (track3 : Int) (w : World) (r : Int) {C_a : Option Addr} {C_an : Nat} (C_c : Nat) (C_h : Rw w C_a 2 encGHammer f0.fHammers) (C_hn : f0.fHammers.length = C_an) (h : impl_placeCode f0 d1 step2 track3 = some r) :
    Calls Tryz.prog 55 #[(.agg #[(.int .i16 f0.fSteps), (.slice C_a C_an C_c)]), (.agg (row encU32 d1.1 []).toArray), (.int .i64 step2), (.int .i64 track3)] w fun e w' => ∃ v, e = .returned v ∧ (v = (.int .i64 r) ∧ Mem w [] [] w') := by
  subst C_hn
  rw [impl_placeCode] at h
  refine enter (args := [(.agg #[(.int .i16 f0.fSteps), (.slice C_a f0.fHammers.length C_c)]), (.agg (row encU32 d1.1 []).toArray), (.int .i64 step2), (.int .i64 track3)]) Tryz.func55 rfl Tryz.ntmps55 (by kernel_rfl) (L := []) (W := []) (Mem.start w) ?_
  refine jc_seq (jc_region (tO (qa 0 (fun b_1 => jkO (tO (qa 0 (fun b_2 => jkO (qh [0] (qe (jx_then (jc_seq (qg [⟨some b_1, 27, [(.int .i16 f0.fSteps), (.slice C_a f0.fHammers.length C_c)]⟩, ⟨(some b_2), 34, row encU32 d1.1 []⟩] 12 (qd [⟨0, 0, 0⟩,⟨4, 0, 0⟩,⟨5, 0, 0⟩,⟨6, 0, 0⟩] 8 [0, 1] (qv 1 0 [0, 1] (fun w hm => ld_run (b := b_2) (off := 0) (s := 96) (agg := true) (vs := row encU32 d1.1 []) (by kernel_rfl) ((row_len encU32_len d1).trans rfl) (.inl rfl) (hm.all (hh := 1) (T := 34) (by kernel_rfl))) (tD 2 (p_bs 0 34 96 1 encA96U32 [(.agg (row encU32 d1.1 []).toArray)] [d1] (by kernel_rfl) (by kernel_rfl) rfl (by kernel_rfl) (by kernel_rfl) encA96U32_len (fun b_3 => kD [0, 1] ?_)))))))))))))))))
  obtain ⟨t_1, ht_4, h⟩ := bd h
  refine tD 3 (pc 0 (fun w hm => impl_drumCode.calls f0 ([d1] : List (Arr 96 Int)) w _ C_c (hm.xr C_h) rfl 1 (hm.ow 2 (some b_3) 34 ([d1] : List (Arr 96 Int)) [] (fun e => nomatch e) encA96U32_len) rfl ht_4) ?_)
  rintro w v w' hm ⟨rfl, hm'⟩
  refine ⟨_, hm.app hm', kD [0, 1] ?_⟩
  clear hm hm'
  obtain ⟨t_2, ht_5, h⟩ := bd h
  refine tD 7 (pc 0 (fun w hm => impl_Frame_isPlace.calls f0 step2 track3 w _ C_c (hm.xr C_h) rfl ht_5) ?_)
  rintro w v w' hm ⟨rfl, hm'⟩
  refine ⟨_, hm.app hm', kD [0, 1] ?_⟩
  clear hm hm'
  obtain ⟨t_3, ht_6, h⟩ := bd h
  refine tD 8 (pc 0 (fun w hm => impl_unless.calls t_2 2 w _ ht_6) ?_)
  rintro w v w' hm ⟨rfl, hm'⟩
  refine ⟨_, hm.app hm', kD [0, 1] ?_⟩
  clear hm hm'
  refine tD 9 (qa 0 (fun b_7 => kD [0, 1] ?_))
  obtain ⟨t_4, ht_8, h⟩ := bd h
  refine tD 10 (pc 0 (fun w hm => impl_firstOf.calls ([t_1, t_3] : List Int) w _ 2 (hm.ow 3 (some b_7) 2 ([t_1, t_3] : List Int) [] (fun e => nomatch e) encI64_len) rfl ht_8) ?_)
  rintro w v w' hm ⟨rfl, hm'⟩
  refine ⟨_, hm.app hm', kD [0, 1] ?_⟩
  clear hm hm'
  refine qd [⟨11, 0, 0⟩] 0 [0, 1] (qz (jx_then (jc_ret ?_)))
  obtain rfl := Option.some.inj h
  exact qr [] (fun w hm => ⟨rfl, hm.pk []⟩)
/-! ### slices.Clone[[]impl.Hammer,impl.Hammer] -/
def slices_Clone_Hammer (s0 : List GHammer) : Option ((List GHammer)) := (if ([] : List GHammer).length + s0.length ≤ 4294967296 then some (([] : List GHammer) ++ s0) else none)
theorem slices_Clone_Hammer.calls (s0 : List GHammer) (w : World) (r : (List GHammer)) {A_a : Option Addr} {A_an : Nat} (A_c : Nat) (A_h : Rw w A_a 2 encGHammer s0) (A_hn : s0.length = A_an) (h : slices_Clone_Hammer s0 = some r) :
    Calls Tryz.prog 99 #[(.slice A_a A_an A_c)] w fun e w' => ∃ v, e = .returned v ∧ (∃ (o0 : Option Nat) (c0 : Nat) (s0 : List Value) (n0 : Nat), r.length = n0 ∧ (o0 ≠ none → n0 ≤ c0 ∧ s0.length = (c0 - n0) * 2) ∧ (o0 = none → r = [] ∧ c0 = 0) ∧ v = .slice (o0.map fun b => ⟨b, 0, none⟩) n0 c0 ∧ Mem w [] [⟨o0, 66, row encGHammer r s0⟩] w') := by
  subst A_hn
  rw [slices_Clone_Hammer] at h
  refine enter (args := [(.slice A_a s0.length A_c)]) Tryz.func99 rfl Tryz.ntmps99 (by kernel_rfl) (L := []) (W := []) (Mem.start w) ?_
  refine jc_seq (jc_region (qh [0] (qe (jx_then (jc_seq (jc_seq (jc_region (qh [0] ?_))))))))
  by_cases hn_4 : A_a = none
  ·have hx0 : s0 = [] := (nil_of A_h hn_4)
   replace h : some [] = some r := by simpa [hx0] using h
   refine tO (p_nil 0 A_a true true (by kernel_rfl) (by kernel_rfl) (by rw [hn_4]; rfl) (jkO (qe (jx_then (jc_cond true (by kernel_rfl) (fun hc_5 => (jc_seq (jc_region (qh [0] (qe (jx_then (jc_ret (jx_thenr ?_)))))))) (fun hc_5 => nomatch hc_5))))))
   obtain rfl := Option.some.inj h
   exact jx_ghost 66 encGHammer (qr [] (fun w hm => ⟨none, 0, [], 0, rfl, (fun e => absurd rfl e), (fun _ => ⟨rfl, rfl⟩), rfl, hm.pk [0]⟩))
  ·refine tO (p_nil 0 A_a true false (by kernel_rfl) (by kernel_rfl) (by rw [Option.isNone_eq_false_iff.2 (Option.ne_none_iff_isSome.1 hn_4)]; rfl) (jkO (qe (jx_then (jc_cond false (by kernel_rfl) (fun hc_6 => nomatch hc_6) (fun hc_6 => (jc_skip (jx_then (jc_seq (jc_region (tO (qa 0 (fun b_7 => jkO (qh [0] ?_))))))))))))))
   obtain ⟨hg_8, h⟩ := gd h
   refine tO (p_apn 0 0 (some b_7) 66 0 s0.length 0 2 2 A_a encGHammer ([] : List GHammer) s0 [] (.agg #[(.int .i8 0), (.int .i8 0)]) rfl rfl (by kernel_rfl) (by kernel_rfl) (by kernel_rfl) encGHammer_len encGHammer_cell (fun _ => ⟨Nat.le_refl _, by simp⟩) (fun e => nomatch e) (fun w hm => (hm.xr A_h)) hg_8 (by kernel_rfl) (by kernel_rfl) (fun o_9 cap_10 sp_11 hs_12 ho_13 => jkO (qh [0] (qe (jx_then (jc_ret ?_))))))
   obtain rfl := Option.some.inj h
   exact qr [] (fun w hm => ⟨o_9, cap_10, sp_11, ((([] : List GHammer) ++ s0).length), rfl, hs_12, ho_13, rfl, hm.pk [0]⟩)
/-! ### slices.Delete[[]impl.Hammer,impl.Hammer] -/
def slices_Delete_Hammer (s0 : List GHammer) (i1 : Int) (j2 : Int) : Option ((List GHammer)) := (if 0 ≤ i1 ∧ i1 ≤ j2 ∧ j2 ≤ (s0.length : Int) ∧ (s0.length : Int) ≤ (s0.length : Int) then (if (i1 == j2) = true then some s0 else (if 0 ≤ i1 ∧ i1 ≤ (s0.length : Int) then (if 0 ≤ j2 ∧ j2 ≤ (s0.length : Int) then (if i1.toNat + (s0.drop j2.toNat).length ≤ s0.length then some (s0.take i1.toNat ++ (s0.drop j2.toNat)) else none) else none) else none)) else none)
theorem slices_Delete_Hammer.calls (s0 : List GHammer) (i1 : Int) (j2 : Int) (w : World) (r : (List GHammer)) (A_o : Option Nat) {A_on : Nat} {A_c : Nat} {A_sp : List Value} (A_hn : s0.length = A_on) (A_hs : A_o ≠ none → A_on ≤ A_c ∧ A_sp.length = (A_c - A_on) * 2) (A_ho : A_o = none → s0 = [] ∧ A_c = 0) (hm0 : Mem w (bs [A_o]) [⟨A_o, 66, row encGHammer s0 A_sp⟩] w) (h : slices_Delete_Hammer s0 i1 j2 = some r) :
    Calls Tryz.prog 98 #[(.slice (A_o.map fun b => ⟨b, 0, none⟩) A_on A_c), (.int .i64 i1), (.int .i64 j2)] w fun e w' => ∃ v, e = .returned v ∧ (∃ (o0 : Option Nat) (c0 : Nat) (s0 : List Value) (n0 : Nat), r.length = n0 ∧ (o0 ≠ none → n0 ≤ c0 ∧ s0.length = (c0 - n0) * 2) ∧ (o0 = none → r = [] ∧ c0 = 0) ∧ v = .slice (o0.map fun b => ⟨b, 0, none⟩) n0 c0 ∧ Mem w (bs [A_o]) [⟨o0, 66, row encGHammer r s0⟩] w') := by
  subst A_hn
  rw [slices_Delete_Hammer] at h
  refine enter (args := [(.slice (A_o.map fun b => ⟨b, 0, none⟩) s0.length A_c), (.int .i64 i1), (.int .i64 j2)]) Tryz.func98 rfl Tryz.ntmps98 (by kernel_rfl) (L := [⟨A_o, 66, row encGHammer s0 A_sp⟩]) (W := bs [A_o]) hm0 ?_
  refine jc_seq (jc_region (qh [0] (qe (jx_then (jc_seq (jc_region (qh [0,0,0,0,0] ?_)))))))
  obtain ⟨hg_1, h⟩ := gd h
  refine tO (p_slM 0 (A_o.map fun b => ⟨b, 0, none⟩) s0.length A_c 2 i1 j2 (s0.length : Int) (by kernel_rfl) (by kernel_rfl) hg_1.1 hg_1.2.1 hg_1.2.2.1 (Int.le_trans hg_1.2.2.2 (Int.ofNat_le.2 (cap_le rfl A_hs A_ho))) (jkO (qe (jx_then (jc_seq (jc_seq (jc_region (qh [0,0,0] (qe (jx_then (qi h (fun h => ?_) (fun h => ?_))))))))))))
  ·refine jc_seq (jc_region (qh [0,0] (qe (jx_then (jc_ret (jx_thenr ?_))))))
   obtain rfl := Option.some.inj h
   exact qr [] (fun w hm => ⟨A_o, A_c, A_sp, s0.length, rfl, A_hs, A_ho, rfl, hm.pk [0]⟩)
  ·refine jc_skip (jx_then (jc_seq (jc_region (qh [0,0,0] (qe (jx_then (jc_seq (qg [] 8 (qd [⟨0, 0, 0⟩,⟨1, 0, 0⟩,⟨3, 0, 0⟩,⟨4, 0, 0⟩] 4 [] ?_)))))))))
   obtain ⟨hg_6, h⟩ := gd h
   refine qv 2 0 [] (fun w hm => slH_run (a := (A_o.map fun b => ⟨b, 0, none⟩)) (len := s0.length) (cap := A_c) (size := 2) (h := i1) (by kernel_rfl) hg_6.1 (Int.le_trans hg_6.2 (Int.ofNat_le.2 (cap_le rfl A_hs A_ho)))) ?_
   obtain ⟨hg_7, h⟩ := gd h
   refine qv 5 0 [] (fun w hm => slL_run (a := (A_o.map fun b => ⟨b, 0, none⟩)) (len := s0.length) (cap := A_c) (size := 2) (l := j2) (by kernel_rfl) hg_7.1 (Int.le_trans hg_7.2 (Int.ofNat_le.2 (Nat.le_of_eq rfl)))) ?_
   obtain ⟨hg_8, h⟩ := gd h
   refine tD 6 (p_apN 0 0 A_o 66 i1.toNat s0.length (s0.length - j2.toNat) A_c 2 2 (pa (A_o.map fun b => ⟨b, 0, none⟩) j2.toNat A_c 2) encGHammer s0 (s0.drop j2.toNat) A_sp hg_8 rfl (tl_len rfl j2) (by kernel_rfl) (by kernel_rfl) (by kernel_rfl) encGHammer_len encGHammer_cell A_hs A_ho (fun w hm => ((hm.ow 0 A_o 66 s0 A_sp (fun e => (A_ho e).1) encGHammer_len).tl j2.toNat A_c (cap_le rfl A_hs A_ho))) (fun sp_11 hs_12 ho_13 => kD [] (qd [⟨7, 0, 0⟩] 0 [] (qz (jx_then (jc_seq (jc_region (qh [0,0,0,0] (tO (p_slLH 0 (A_o.map fun b => ⟨b, 0, none⟩) ((s0.take i1.toNat ++ (s0.drop j2.toNat)).length) A_c 2 (((s0.take i1.toNat ++ (s0.drop j2.toNat)).length) : Int) (s0.length : Int) (by kernel_rfl) (by kernel_rfl) (by omega) (Int.ofNat_le.2 (Nat.le_trans (apn_le hg_8) (Nat.le_of_eq rfl))) (Int.ofNat_le.2 (show s0.length ≤ A_c by have := (cap_le rfl A_hs A_ho); have : s0.length = s0.length := rfl; omega)) (jkO (tO (p_clr 0 0 A_o 66 ((((s0.take i1.toNat ++ (s0.drop j2.toNat)).length) : Int).toNat) ((s0.take i1.toNat ++ (s0.drop j2.toNat)).length) ((s0.length : Int).toNat - (((s0.take i1.toNat ++ (s0.drop j2.toNat)).length) : Int).toNat) A_c 2 [(.int .i8 0), (.int .i8 0)] encGHammer (s0.take i1.toNat ++ (s0.drop j2.toNat)) sp_11 rfl (by omega) (by kernel_rfl) (by kernel_rfl) (by kernel_rfl) encGHammer_len (by kernel_rfl) hs_12 ho_13 (by have := (show s0.length ≤ A_c by have := (cap_le rfl A_hs A_ho); have : s0.length = s0.length := rfl; omega); have := (Nat.le_trans (apn_le hg_8) (Nat.le_of_eq rfl)); omega) (fun sp_15 hl_16 => jkO (qe (jx_then (jc_seq (jc_region (qh [0,0] (qe (jx_then (jc_ret ?_))))))))))))))))))))))
   obtain rfl := Option.some.inj h
   exact qr [] (fun w hm => ⟨A_o, A_c, sp_15, ((s0.take i1.toNat ++ (s0.drop j2.toNat)).length), rfl, (fun e => ⟨(hs_12 e).1, hl_16.trans (hs_12 e).2⟩), ho_13, rfl, hm.pk [0]⟩)
/-! ### (impl.Frame).without -/
def impl_Frame_without (f0 : GFrame) (track1 : Int) : Option (GFrame) := (slices_Clone_Hammer f0.fHammers).bind fun t_1 => (slices_Delete_Hammer t_1 track1 (w64 (track1 + 1))).bind fun t_2 => some (⟨f0.fSteps, t_2⟩ : GFrame)
theorem impl_Frame_without.calls (f0 : GFrame) (track1 : Int) (w : World) (r : GFrame) {C_a : Option Addr} {C_an : Nat} (C_c : Nat) (C_h : Rw w C_a 2 encGHammer f0.fHammers) (C_hn : f0.fHammers.length = C_an) (h : impl_Frame_without f0 track1 = some r) :
    Calls Tryz.prog 56 #[(.agg #[(.int .i16 f0.fSteps), (.slice C_a C_an C_c)]), (.int .i64 track1)] w fun e w' => ∃ v, e = .returned v ∧ (∃ (o0 : Option Nat) (c0 : Nat) (s0 : List Value) (n0 : Nat), r.fHammers.length = n0 ∧ (o0 ≠ none → n0 ≤ c0 ∧ s0.length = (c0 - n0) * 2) ∧ (o0 = none → r.fHammers = [] ∧ c0 = 0) ∧ v = .agg #[(.int .i16 r.fSteps), .slice (o0.map fun b => ⟨b, 0, none⟩) n0 c0] ∧ Mem w [] [⟨o0, 66, row encGHammer r.fHammers s0⟩] w') := by
  subst C_hn
  rw [impl_Frame_without] at h
  refine enter (args := [(.agg #[(.int .i16 f0.fSteps), (.slice C_a f0.fHammers.length C_c)]), (.int .i64 track1)]) Tryz.func56 rfl Tryz.ntmps56 (by kernel_rfl) (L := []) (W := []) (Mem.start w) ?_
  refine jc_seq (jc_region (tO (qa 0 (fun b_1 => jkO (tO (qa 0 (fun b_2 => jkO (qe (jx_then (jc_seq (qg [⟨some b_1, 27, [(.int .i16 f0.fSteps), (.slice C_a f0.fHammers.length C_c)]⟩] 11 (qd [⟨0, 0, 0⟩,⟨1, 0, 0⟩,⟨2, 0, 0⟩,⟨3, 0, 0⟩,⟨5, 0, 0⟩,⟨6, 0, 0⟩,⟨7, 0, 0⟩] 4 [0] ?_))))))))))))
  obtain ⟨t_1, ht_15, h⟩ := bd h
  refine tD 4 (pc 0 (fun w hm => slices_Clone_Hammer.calls f0.fHammers w _ C_c (hm.xr C_h) rfl ht_15) ?_)
  rintro w v w' hm ⟨o_16, cap_17, sp_18, _, rfl, hs_19, ho_20, rfl, hm'⟩
  refine ⟨_, hm.app hm', kD [0] ?_⟩
  clear hm hm'
  obtain ⟨t_2, ht_21, h⟩ := bd h
  refine tD 8 (pc 0 (fun w hm => slices_Delete_Hammer.calls t_1 track1 (w64 (track1 + 1)) w _ o_16 rfl hs_19 ho_20 (hm.pass (N := [⟨o_16, 66, row encGHammer t_1 sp_18⟩]) [2] (by kernel_rfl) (by kernel_rfl)) ht_21) ?_)
  rintro w v w' hm ⟨o_22, cap_23, sp_24, _, rfl, hs_25, ho_26, rfl, hm'⟩
  refine ⟨_, hm.appP (ps := []) (ds := [2]) (N := [⟨o_22, 66, row encGHammer t_2 sp_24⟩]) hm' [0] (by kernel_rfl) (by kernel_rfl) (by kernel_rfl), kD [0] ?_⟩
  clear hm hm'
  refine qd [⟨9, 0, 0⟩] 1 [0] (tD 10 (qs 0 [1] (kD [0] (qz (jx_then (jc_ret ?_))))))
  obtain rfl := Option.some.inj h
  exact qr [1] (fun w hm => ⟨o_22, cap_23, sp_24, t_2.length, rfl, hs_25, ho_26, rfl, hm.pk [3]⟩)
/-! ### impl.WithoutTrack -/
def impl_WithoutTrack.k_5 (f0 : GFrame) (track2 : Int) (a_4 : Arr 96 Int) : Option (GFrame × (Arr 96 Int) × Int) := (impl_Frame_without f0 track2).bind fun t_6 => some (t_6, a_4, 0)
def impl_WithoutTrack.l_9 (d1 : Arr 96 Int) (track2 : Int) : ((Arr 96 Int) × Int) → Option (((Arr 96 Int) × Int) ⊕ ((Arr 96 Int)))
  | (a_7, i_8) => (if (decide (i_8 < 96)) = true then (ix d1.1 i_8).bind fun x_11 => (if 0 ≤ track2 then (ix a_7.1 i_8).bind fun x_12 => some (.inl ((Arr.set a_7 i_8 (bOr .u32 (bAnd .u32 x_11 (u32 ((bShl .u32 1 track2) - 1))) (bShr .u32 (bClr .u32 x_11 (bAnd .u32 x_11 (u32 ((bShl .u32 1 track2) - 1)))) 1))), (w64 (i_8 + 1)))) else none) else some (.inr a_7))
def impl_WithoutTrack.k_3 (f0 : GFrame) (d1 : Arr 96 Int) (track2 : Int) (q_2 : Bool) : Option (GFrame × (Arr 96 Int) × Int) := (if q_2 = true then some ((⟨0, []⟩ : GFrame), (Arr.rep 96 0), 4) else (loop (impl_WithoutTrack.l_9 d1 track2) (d1, 0)).bind fun t_10 => impl_WithoutTrack.k_5 f0 track2 t_10)
def impl_WithoutTrack (f0 : GFrame) (d1 : Arr 96 Int) (track2 : Int) : Option (GFrame × (Arr 96 Int) × Int) := (impl_placeCode f0 d1 0 track2).bind fun t_1 => (if (t_1 != 0) = true then some ((⟨0, []⟩ : GFrame), (Arr.rep 96 0), t_1) else (if ((f0.fHammers.length : Int) == 1) = true then impl_WithoutTrack.k_3 f0 d1 track2 true else (impl_Frame_byTrack f0 d1).bind fun t_13 => (ix t_13 track2).bind fun x_14 => impl_WithoutTrack.k_3 f0 d1 track2 (decide (x_14 > 0))))
theorem impl_WithoutTrack.calls (f0 : GFrame) (d1 : Arr 96 Int) (track2 : Int) (w : World) (r : GFrame × (Arr 96 Int) × Int) {C_a : Option Addr} {C_an : Nat} (C_c : Nat) (C_h : Rw w C_a 2 encGHammer f0.fHammers) (C_hn : f0.fHammers.length = C_an) (h : impl_WithoutTrack f0 d1 track2 = some r) :
    Calls Tryz.prog 20 #[(.agg #[(.int .i16 f0.fSteps), (.slice C_a C_an C_c)]), (.agg (row encU32 d1.1 []).toArray), (.int .i64 track2)] w fun e w' => ∃ v, e = .returned v ∧ (∃ (o0 : Option Nat) (c0 : Nat) (s0 : List Value) (n0 : Nat), r.1.fHammers.length = n0 ∧ (o0 ≠ none → n0 ≤ c0 ∧ s0.length = (c0 - n0) * 2) ∧ (o0 = none → r.1.fHammers = [] ∧ c0 = 0) ∧ v = .tuple #[.agg #[(.int .i16 r.1.fSteps), .slice (o0.map fun b => ⟨b, 0, none⟩) n0 c0], (.agg (row encU32 r.2.1.1 []).toArray), (.int .i64 r.2.2)] ∧ Mem w [] [⟨o0, 66, row encGHammer r.1.fHammers s0⟩] w') := by
  subst C_hn
  rw [impl_WithoutTrack] at h
  refine enter (args := [(.agg #[(.int .i16 f0.fSteps), (.slice C_a f0.fHammers.length C_c)]), (.agg (row encU32 d1.1 []).toArray), (.int .i64 track2)]) Tryz.func20 rfl Tryz.ntmps20 (by kernel_rfl) (L := []) (W := []) (Mem.start w) ?_
  refine jc_seq (jc_region (tO (qa 0 (fun b_1 => jkO (tO (qa 0 (fun b_2 => jkO (tO (qa 0 (fun b_3 => jkO (tO (qa 0 (fun b_4 => jkO (qh [0] (qe (jx_then (jc_seq (jc_seq (jc_region (qh [0] (tO (p_ldA 0 1 b_2 96 1 34 encU32 d1 (by kernel_rfl) (by kernel_rfl) (by kernel_rfl) encU32_len (by kernel_rfl) (jkO (qh [0] ?_))))))))))))))))))))))))
  obtain ⟨t_1, ht_7, h⟩ := bd h
  refine tO (pc 0 (fun w hm => impl_placeCode.calls f0 d1 0 track2 w _ C_c (hm.xr C_h) rfl ht_7) ?_)
  rintro w v w' hm ⟨rfl, hm'⟩
  refine ⟨_, hm.app hm', jkO ?_⟩
  clear hm hm'
  refine qh [0] (qe (jx_then (jc_seq (jc_region (qh [0,0] (qe (jx_then (qi h (fun h => ?_) (fun h => ?_)))))))))
  ·refine jc_seq (jc_region (qh [0,0,0] (tO (qs 0 [2] (jkO (tO (p_sA 0 3 b_4 96 1 34 encU32 (Arr.rep 96 0) (Arr.rep 96 0) (by kernel_rfl) (by kernel_rfl) (by kernel_rfl) encU32_len encU32_cell (by kernel_rfl) (jkO (qh [0] (qe (jx_then (jc_ret (jx_thenr ?_)))))))))))))
   obtain rfl := Option.some.inj h
   exact jx_ghost 66 encGHammer (jx_retV rfl (rq_cell (v := (.agg #[(.int .i16 0), (.slice none 0 0)])) [2] [(b_3, b_3), (b_3, b_3)] (by kernel_rfl) (by kernel_rfl) (rq_arr (b := b_4) (T' := 34) (hh := 3) (mm := 1) encU32 (Arr.rep 96 0) (by kernel_rfl) (by kernel_rfl) encU32_len (by kernel_rfl) (rq_tmp (by kernel_rfl) rq_nil))) (fun w hm => ⟨none, 0, [], 0, rfl, (fun e => absurd rfl e), (fun _ => ⟨rfl, rfl⟩), rfl, hm.pk [4]⟩))
  ·refine jc_skip (jx_then (jc_seq (jc_seq (jc_meet (fun (j : Bool) => match j with | q_2 => impl_WithoutTrack.k_3 f0 d1 track2 q_2 = some r) (fun (j : Bool) => match j with | q_2 => [(2, [], (.int .i64 track2)), (3, [], (.pointer (some ⟨b_1, 0, none⟩))), (4, [], (.pointer (some ⟨b_2, 0, none⟩))), (6, [], (.pointer (some ⟨b_3, 0, none⟩))), (7, [], (.pointer (some ⟨b_4, 0, none⟩))), (8, [], (.int .i64 0)), (34, [], (.bool q_2))]) (fun (j : Bool) => match j with | q_2 => [⟨some b_1, 27, [(.int .i16 f0.fSteps), (.slice C_a f0.fHammers.length C_c)]⟩, ⟨(some b_2), 34, row encU32 d1.1 []⟩, ⟨some b_3, 27, [(.int .i16 0), (.slice none 0 0)]⟩, ⟨(some b_4), 34, row encU32 ((Arr.rep 96 0).1) []⟩]) ?_ ?_))))
   ·refine jc_region (qf [(0, 0), (0, 0), (0, 0), (0, 0), (0, 0), (0, 1)] (qp 26 h (fun h => ?_) (fun h => ?_)))
    ·exact qf [(0, 3), (0, 3), (0, 3), (0, 3), (0, 3), (0, 3), (0, 4)] (qe (qm true h [0, 1, 2, 3]))
    ·refine tO (p_ldA 2 1 b_2 96 1 34 encU32 d1 (by kernel_rfl) (by kernel_rfl) (by kernel_rfl) encU32_len (by kernel_rfl) (jkO ?_))
     obtain ⟨t_13, ht_130, h⟩ := bd h
     refine tO (pc 2 (fun w hm => impl_Frame_byTrack.calls f0 d1 w _ C_c (hm.xr C_h) rfl ht_130) ?_)
     rintro w v w' hm ⟨o_131, cap_132, sp_133, _, rfl, hs_134, ho_135, rfl, hm'⟩
     refine ⟨_, hm.app hm', jkO ?_⟩
     clear hm hm'
     refine qf [(0, 2)] ?_
     obtain ⟨x_14, hx_136, h⟩ := bd h
     exact tO (qx 2 (o_131.map fun b => ⟨b, 0, none⟩) 1 hx_136 rfl (spo ho_135 hx_136) (jkO (tO (ql 2 false (fun w hm => ((hm.ow 4 o_131 2 t_13 sp_133 (fun e => (ho_135 e).1) encI64_len).at hx_136)) (jkO (qf [(0, 2), (0, 5)] (qe (qm (decide (x_14 > 0)) h [0, 1, 2, 3]))))))))
   ·rintro q_2 h
    replace h : impl_WithoutTrack.k_3 f0 d1 track2 q_2 = some r := h
    rw [impl_WithoutTrack.k_3] at h
    refine jx_then (qi h (fun h => ?_) (fun h => ?_))
    ·refine jc_seq (jc_region (qh [0,0] (tO (qs 0 [2] (jkO (tO (p_sA 0 3 b_4 96 1 34 encU32 (Arr.rep 96 0) (Arr.rep 96 0) (by kernel_rfl) (by kernel_rfl) (by kernel_rfl) encU32_len encU32_cell (by kernel_rfl) (jkO (qh [0] (qe (jx_then (jc_ret (jx_thenr ?_)))))))))))))
     obtain rfl := Option.some.inj h
     exact jx_ghost 66 encGHammer (jx_retV rfl (rq_cell (v := (.agg #[(.int .i16 0), (.slice none 0 0)])) [2] [(b_3, b_3), (b_3, b_3)] (by kernel_rfl) (by kernel_rfl) (rq_arr (b := b_4) (T' := 34) (hh := 3) (mm := 1) encU32 (Arr.rep 96 0) (by kernel_rfl) (by kernel_rfl) encU32_len (by kernel_rfl) (rq_tmp (by kernel_rfl) rq_nil))) (fun w hm => ⟨none, 0, [], 0, rfl, (fun e => absurd rfl e), (fun _ => ⟨rfl, rfl⟩), rfl, hm.pk [4]⟩))
    ·refine jc_skip (jx_then (jc_seq (jc_seq (jc_region (tO (p_ldA 0 1 b_2 96 1 34 encU32 d1 (by kernel_rfl) (by kernel_rfl) (by kernel_rfl) encU32_len (by kernel_rfl) (jkO (qh [0] (qe (jx_then (jc_meet (fun (j : (Arr 96 Int)) => match j with | a_4 => impl_WithoutTrack.k_5 f0 track2 a_4 = some r) (fun (j : (Arr 96 Int)) => match j with | a_4 => [(2, [], (.int .i64 track2)), (3, [], (.pointer (some ⟨b_1, 0, none⟩))), (4, [], (.pointer (some ⟨b_2, 0, none⟩))), (6, [], (.pointer (some ⟨b_3, 0, none⟩))), (7, [], (.pointer (some ⟨b_4, 0, none⟩))), (8, [], (.int .i64 0))]) (fun (j : (Arr 96 Int)) => match j with | a_4 => [⟨some b_1, 27, [(.int .i16 f0.fSteps), (.slice C_a f0.fHammers.length C_c)]⟩, ⟨(some b_2), 34, row encU32 a_4.1 []⟩, ⟨some b_3, 27, [(.int .i16 0), (.slice none 0 0)]⟩, ⟨(some b_4), 34, row encU32 ((Arr.rep 96 0).1) []⟩]) ?_ ?_)))))))))))
     ·refine jc_block ?_
      obtain ⟨t_10, ht_128, hr_120⟩ := bd h
      refine jc_loop (fun (s : (Arr 96 Int) × Int) (x : Unit) => match s, x with | ⟨a_7, i_8⟩, _ => True) (fun (s : (Arr 96 Int) × Int) (x : Unit) => match s, x with | ⟨a_7, i_8⟩, _ => [(2, [], (.int .i64 track2)), (3, [], (.pointer (some ⟨b_1, 0, none⟩))), (4, [], (.pointer (some ⟨b_2, 0, none⟩))), (6, [], (.pointer (some ⟨b_3, 0, none⟩))), (7, [], (.pointer (some ⟨b_4, 0, none⟩))), (8, [], (.int .i64 0)), (37, [], (.agg (row encU32 d1.1 []).toArray)), (38, [], (.int .i64 i_8))]) (fun (s : (Arr 96 Int) × Int) (x : Unit) => match s, x with | ⟨a_7, i_8⟩, _ => [⟨some b_1, 27, [(.int .i16 f0.fSteps), (.slice C_a f0.fHammers.length C_c)]⟩, ⟨(some b_2), 34, row encU32 a_7.1 []⟩, ⟨some b_3, 27, [(.int .i16 0), (.slice none 0 0)]⟩, ⟨(some b_4), 34, row encU32 ((Arr.rep 96 0).1) []⟩]) ht_128 () trivial (by kernel_rfl) [0, 1, 2, 3] (by kernel_rfl) (by kernel_rfl) ?_
      rintro ⟨a_7, i_8⟩ _ y_121 _ h
      rw [impl_WithoutTrack.l_9] at h
      refine jc_seq (jc_region (qh [0] (qe (jx_then (jc_seq (qi h (fun h => ?_) (fun h => ?_)))))))
      ·refine jc_skip (jx_then (jc_seq (jc_block (jc_seq (jc_region (qh [0] ?_))))))
       obtain ⟨x_11, hx_124, h⟩ := bd h
       refine tO (p_ixA 0 encU32 (fun x => (.int .u32 x)) d1 i_8 (by kernel_rfl) (by kernel_rfl) (fun _ => rfl) hx_124 (jkO (qh [0,0] (qe (jx_then (jc_seq (jc_region (qh [0,0] ?_))))))))
       obtain ⟨hg_125, h⟩ := gd h
       refine tO (p_shl 0 .u32 1 .i64 track2 (by kernel_rfl) (by kernel_rfl) hg_125 (jkO (qh [0,0,0] (qe (jx_then (jc_region (qh [0,0,0,0,0,0,0] ?_)))))))
       obtain ⟨x_12, hx_126, h⟩ := bd h
       exact tO (qx 0 (some ⟨b_2, 0, none⟩) 1 hx_126 a_7.2 rfl (jkO (tO (p_str 0 1 b_2 34 encU32 a_7.1 [] i_8 (bOr .u32 (bAnd .u32 x_11 (u32 ((bShl .u32 1 track2) - 1))) (bShr .u32 (bClr .u32 x_11 (bAnd .u32 x_11 (u32 ((bShl .u32 1 track2) - 1)))) 1)) 1 0 [(.int .u32 (bOr .u32 (bAnd .u32 x_11 (u32 ((bShl .u32 1 track2) - 1))) (bShr .u32 (bClr .u32 x_11 (bAnd .u32 x_11 (u32 ((bShl .u32 1 track2) - 1)))) 1)))] (by kernel_rfl) (by kernel_rfl) (by kernel_rfl) encU32_len hx_126 (by kernel_rfl) (by kernel_rfl) (jkO (qe (jx_inn (jx_then (jc_region (qh [0,0] (qe (qb ((Arr.set a_7 i_8 (bOr .u32 (bAnd .u32 x_11 (u32 ((bShl .u32 1 track2) - 1))) (bShr .u32 (bClr .u32 x_11 (bAnd .u32 x_11 (u32 ((bShl .u32 1 track2) - 1)))) 1))), (w64 (i_8 + 1))) () h trivial [0, 1, 2, 3]))))))))))))
      ·refine jc_exit (jx_thenx (jx_leave a_7 (Option.some.inj h).symm (fun e_127 => ?_)))
       subst e_127
       exact jx_ine (qm a_7 hr_120 [0, 1, 2, 3])
     ·rintro a_4 h
      replace h : impl_WithoutTrack.k_5 f0 track2 a_4 = some r := h
      rw [impl_WithoutTrack.k_5] at h
      refine jx_then (jc_seq (qg [⟨some b_1, 27, [(.int .i16 f0.fSteps), (.slice C_a f0.fHammers.length C_c)]⟩, ⟨(some b_2), 34, row encU32 a_4.1 []⟩] 7 (qd [⟨0, 0, 0⟩,⟨1, 0, 0⟩] 5 [0, 1] (qv 3 0 [0, 1] (fun w hm => ld_run (b := b_2) (off := 0) (s := 96) (agg := true) (vs := row encU32 a_4.1 []) (by kernel_rfl) ((row_len encU32_len a_4).trans rfl) (.inl rfl) (hm.all (hh := 1) (T := 34) (by kernel_rfl))) ?_))))
      obtain ⟨t_6, ht_104, h⟩ := bd h
      refine tD 2 (pc 0 (fun w hm => impl_Frame_without.calls f0 track2 w _ C_c (hm.xr C_h) rfl ht_104) ?_)
      rintro w v w' hm ⟨o_105, cap_106, sp_107, _, rfl, hs_108, ho_109, rfl, hm'⟩
      refine ⟨_, hm.app hm', kD [0, 1] ?_⟩
      clear hm hm'
      refine tD 4 (qs 0 [2] (kD [0, 1] (tD 5 (p_sA 0 3 b_4 96 1 34 encU32 (Arr.rep 96 0) a_4 (by kernel_rfl) (by kernel_rfl) (by kernel_rfl) encU32_len encU32_cell (by kernel_rfl) (kD [0, 1] (qd [⟨6, 0, 0⟩] 0 [0, 1] (qz (jx_then (jc_ret ?_)))))))))
      obtain rfl := Option.some.inj h
      exact jx_retV rfl (rq_cell (v := (.agg #[(.int .i16 t_6.fSteps), (.slice (o_105.map fun b => ⟨b, 0, none⟩) t_6.fHammers.length cap_106)])) [2] [(b_3, b_3), (b_3, b_3)] (by kernel_rfl) (by kernel_rfl) (rq_arr (b := b_4) (T' := 34) (hh := 3) (mm := 1) encU32 a_4 (by kernel_rfl) (by kernel_rfl) encU32_len (by kernel_rfl) (rq_tmp (by kernel_rfl) rq_nil))) (fun w hm => ⟨o_105, cap_106, sp_107, t_6.fHammers.length, rfl, hs_108, ho_109, rfl, hm.pk [4]⟩)
/-! ### spec.l02Place -/
def spec_l02Place.k_3 (i_2 : Int) : Option (Int) := some i_2
def spec_l02Place (f0 : GFrame) (d1 : Arr 96 Int) (step2 : Int) (track3 : Int) : Option (Int) := (spec_l02Asked f0 d1).bind fun t_1 => (if (t_1 == 0) = true then (spec_l00In step2 0 (w64 ((w64 f0.fSteps) - 1))).bind fun t_4 => (if (!t_4) = true then spec_l02Place.k_3 2 else (spec_l00In track3 0 (w64 ((f0.fHammers.length : Int) - 1))).bind fun t_5 => (if (!t_5) = true then spec_l02Place.k_3 2 else spec_l02Place.k_3 t_1)) else spec_l02Place.k_3 t_1)
theorem spec_l02Place.calls (f0 : GFrame) (d1 : Arr 96 Int) (step2 : Int) (track3 : Int) (w : World) (r : Int) {C_a : Option Addr} {C_an : Nat} (C_c : Nat) (C_h : Rw w C_a 2 encGHammer f0.fHammers) (C_hn : f0.fHammers.length = C_an) {D_b D_q : Nat} (D_h : Rw w (some ⟨D_b, D_q, none⟩) 1 encU32 d1.1) (A_b : Nat) (hm0 : Mem w (bs [some A_b]) [⟨some A_b, 27, [(.int .i16 f0.fSteps), (.slice C_a C_an C_c)]⟩] w) (C_ha : f0.fHammers ≠ [] → aB C_a ∉ bs [some A_b]) (D_ha : d1.1 ≠ [] → aB (some ⟨D_b, D_q, none⟩) ∉ bs [some A_b]) (h : spec_l02Place f0 d1 step2 track3 = some r) :
    Calls Tryz.prog 57 #[(.pointer (some ⟨A_b, 0, none⟩)), (.pointer (some ⟨D_b, D_q, none⟩)), (.int .i64 step2), (.int .i64 track3)] w fun e w' => ∃ v, e = .returned v ∧ (v = (.int .i64 r) ∧ Mem w (bs [some A_b]) [⟨some A_b, 27, [(.int .i16 f0.fSteps), (.slice C_a C_an C_c)]⟩] w') := by
  subst C_hn
  rw [spec_l02Place] at h
  refine enter (args := [(.pointer (some ⟨A_b, 0, none⟩)), (.pointer (some ⟨D_b, D_q, none⟩)), (.int .i64 step2), (.int .i64 track3)]) Tryz.func57 rfl Tryz.ntmps57 (by kernel_rfl) (L := [⟨some A_b, 27, [(.int .i16 f0.fSteps), (.slice C_a f0.fHammers.length C_c)]⟩]) (W := bs [some A_b]) hm0 ?_
  refine jc_seq (jc_region (qh [0] (qe (jx_then (jc_seq (jc_region (qh [0,0] ?_)))))))
  obtain ⟨t_1, ht_1, h⟩ := bd h
  refine tO (pc 0 (fun w hm => spec_l02Asked.calls f0 d1 w _ C_c (hm.exRowW C_h C_ha) rfl (hm.exRowW D_h D_ha) A_b (hm.pass (N := [⟨some A_b, 27, [(.int .i16 f0.fSteps), (.slice C_a f0.fHammers.length C_c)]⟩]) [0] (by kernel_rfl) (by kernel_rfl)) (hm.exApart (N := [⟨some A_b, 27, [(.int .i16 f0.fSteps), (.slice C_a f0.fHammers.length C_c)]⟩]) C_h C_ha [0] (by kernel_rfl)) (hm.exApart (N := [⟨some A_b, 27, [(.int .i16 f0.fSteps), (.slice C_a f0.fHammers.length C_c)]⟩]) D_h D_ha [0] (by kernel_rfl)) ht_1) ?_)
  rintro w v w' hm ⟨rfl, hm'⟩
  refine ⟨_, hm.appW (ps := [(0, ⟨some A_b, 27, [(.int .i16 f0.fSteps), (.slice C_a f0.fHammers.length C_c)]⟩)]) (N := []) hm' (by kernel_rfl) (by kernel_rfl), jkO ?_⟩
  clear hm hm'
  refine qh [0] (qe (jx_then (jc_seq (jc_meet (fun (j : Int) => match j with | i_2 => spec_l02Place.k_3 i_2 = some r) (fun (j : Int) => match j with | i_2 => [(8, [], (.int .i64 0)), (9, [], (.int .i64 i_2))]) (fun (j : Int) => match j with | i_2 => [⟨some A_b, 27, [(.int .i16 f0.fSteps), (.slice C_a f0.fHammers.length C_c)]⟩]) ?_ ?_))))
  ·refine jc_seq (jc_region (qf [(0, 0), (0, 0), (0, 0), (0, 1), (0, 1), (0, 1), (0, 1), (0, 1), (0, 1), (0, 1)] (qp 15 h (fun h => ?_) (fun h => ?_))))
   ·obtain ⟨t_4, ht_10, h⟩ := bd h
    refine tO (pc 2 (fun w hm => spec_l00In.calls step2 0 (w64 ((w64 f0.fSteps) - 1)) w _ ht_10) ?_)
    rintro w v w' hm ⟨rfl, hm'⟩
    refine ⟨_, hm.app hm', jkO ?_⟩
    clear hm hm'
    refine qf [(0, 2), (0, 2), (0, 1), (0, 1), (0, 1), (0, 1), (0, 1), (0, 1), (0, 1)] (qp 25 h (fun h => ?_) (fun h => ?_))
    ·exact qf [(0, 3), (0, 3), (0, 4), (0, 4)] (qe (jx_then (jc_cond true (by kernel_rfl) (fun hc_12 => (jc_region (qh [0] (qe (qm 2 h [0]))))) (fun hc_12 => nomatch hc_12))))
    ·obtain ⟨t_5, ht_13, h⟩ := bd h
     refine tO (pc 2 (fun w hm => spec_l00In.calls track3 0 (w64 ((f0.fHammers.length : Int) - 1)) w _ ht_13) ?_)
     rintro w v w' hm ⟨rfl, hm'⟩
     refine ⟨_, hm.app hm', jkO ?_⟩
     clear hm hm'
     refine qf [(0, 2), (0, 5), (0, 4)] (qe (jx_then (qi h (fun h => ?_) (fun h => ?_))))
     ·exact jc_region (qh [0] (qe (qm 2 h [0])))
     ·exact jc_skip (qm t_1 h [0])
   ·exact qf [(0, 3), (0, 3), (0, 3), (0, 3), (0, 3), (0, 3), (0, 3), (0, 3), (0, 3), (0, 3), (0, 3), (0, 3), (0, 3), (0, 5)] (qe (jx_then (jc_cond false (by kernel_rfl) (fun hc_15 => nomatch hc_15) (fun hc_15 => (jc_skip (qm t_1 h [0]))))))
  ·rintro i_2 h
   replace h : spec_l02Place.k_3 i_2 = some r := h
   rw [spec_l02Place.k_3] at h
   refine jx_then (jc_seq (jc_region (qh [0,0] (qe (jx_then (jc_ret ?_))))))
   obtain rfl := Option.some.inj h
   exact qr [] (fun w hm => ⟨rfl, hm.pk [0]⟩)
/-! ### spec.l03Less -/
def spec_l03Less (f0 : GFrame) (track1 : Int) : Option (GFrame) := (if 0 ≤ track1 ∧ track1 ≤ (f0.fHammers.length : Int) then (if 0 ≤ (w64 (track1 + 1)) ∧ (w64 (track1 + 1)) ≤ (f0.fHammers.length : Int) then (if ([] : List GHammer).length + (f0.fHammers.take track1.toNat).length ≤ 4294967296 then (if (([] : List GHammer) ++ (f0.fHammers.take track1.toNat)).length + (f0.fHammers.drop (w64 (track1 + 1)).toNat).length ≤ 4294967296 then some (⟨f0.fSteps, ((([] : List GHammer) ++ (f0.fHammers.take track1.toNat)) ++ (f0.fHammers.drop (w64 (track1 + 1)).toNat))⟩ : GFrame) else none) else none) else none) else none)
theorem spec_l03Less.calls (f0 : GFrame) (track1 : Int) (w : World) (r : GFrame) (A_b : Nat) (C_o : Option Nat) {C_on : Nat} {C_c : Nat} {C_sp : List Value} (C_hn : f0.fHammers.length = C_on) (C_hs : C_o ≠ none → C_on ≤ C_c ∧ C_sp.length = (C_c - C_on) * 2) (C_ho : C_o = none → f0.fHammers = [] ∧ C_c = 0) (hm0 : Mem w (bs [some A_b, C_o]) [⟨some A_b, 27, [(.int .i16 f0.fSteps), (.slice (C_o.map fun b => ⟨b, 0, none⟩) C_on C_c)]⟩, ⟨C_o, 66, row encGHammer f0.fHammers C_sp⟩] w) (h : spec_l03Less f0 track1 = some r) :
    Calls Tryz.prog 59 #[(.pointer (some ⟨A_b, 0, none⟩)), (.int .i64 track1)] w fun e w' => ∃ v, e = .returned v ∧ (∃ (o0 : Option Nat) (c0 : Nat) (s0 : List Value) (n0 : Nat), r.fHammers.length = n0 ∧ (o0 ≠ none → n0 ≤ c0 ∧ s0.length = (c0 - n0) * 2) ∧ (o0 = none → r.fHammers = [] ∧ c0 = 0) ∧ v = .agg #[(.int .i16 r.fSteps), .slice (o0.map fun b => ⟨b, 0, none⟩) n0 c0] ∧ Mem w (bs [some A_b, C_o]) [⟨some A_b, 27, [(.int .i16 f0.fSteps), (.slice (C_o.map fun b => ⟨b, 0, none⟩) C_on C_c)]⟩, ⟨C_o, 66, row encGHammer f0.fHammers C_sp⟩, ⟨o0, 66, row encGHammer r.fHammers s0⟩] w') := by
  subst C_hn
  rw [spec_l03Less] at h
  refine enter (args := [(.pointer (some ⟨A_b, 0, none⟩)), (.int .i64 track1)]) Tryz.func59 rfl Tryz.ntmps59 (by kernel_rfl) (L := [⟨some A_b, 27, [(.int .i16 f0.fSteps), (.slice (C_o.map fun b => ⟨b, 0, none⟩) f0.fHammers.length C_c)]⟩, ⟨C_o, 66, row encGHammer f0.fHammers C_sp⟩]) (W := bs [some A_b, C_o]) hm0 ?_
  refine jc_seq (jc_region (tO (qa 0 (fun b_1 => jkO (qe (jx_then (jc_seq (qg [⟨some A_b, 27, [(.int .i16 f0.fSteps), (.slice (C_o.map fun b => ⟨b, 0, none⟩) f0.fHammers.length C_c)]⟩, ⟨C_o, 66, row encGHammer f0.fHammers C_sp⟩, ⟨some b_1, 27, [(.int .i16 0), (.slice none 0 0)]⟩] 17 (qd [⟨1, 0, 0⟩,⟨2, 0, 0⟩,⟨3, 0, 0⟩,⟨4, 0, 0⟩,⟨5, 0, 0⟩,⟨8, 0, 0⟩,⟨9, 0, 0⟩,⟨10, 0, 0⟩,⟨11, 0, 0⟩,⟨12, 0, 0⟩,⟨13, 0, 0⟩] 6 [0, 1, 2] ?_)))))))))
  obtain ⟨hg_2, h⟩ := gd h
  refine qv 6 0 [0, 1, 2] (fun w hm => slH_run (a := (C_o.map fun b => ⟨b, 0, none⟩)) (len := f0.fHammers.length) (cap := C_c) (size := 2) (h := track1) (by kernel_rfl) hg_2.1 (Int.le_trans hg_2.2 (Int.ofNat_le.2 (cap_le rfl C_hs C_ho)))) ?_
  obtain ⟨hg_3, h⟩ := gd h
  refine qv 14 0 [0, 1, 2] (fun w hm => slL_run (a := (C_o.map fun b => ⟨b, 0, none⟩)) (len := f0.fHammers.length) (cap := C_c) (size := 2) (l := (w64 (track1 + 1))) (by kernel_rfl) hg_3.1 (Int.le_trans hg_3.2 (Int.ofNat_le.2 (Nat.le_of_eq rfl)))) (tD 0 (qa 0 (fun b_4 => kD [0, 1, 2] ?_)))
  obtain ⟨hg_5, h⟩ := gd h
  refine tD 7 (p_apn 0 3 (some b_4) 66 0 track1.toNat 0 2 2 (C_o.map fun b => ⟨b, 0, none⟩) encGHammer ([] : List GHammer) (f0.fHammers.take track1.toNat) [] (.agg #[(.int .i8 0), (.int .i8 0)]) rfl (hd_len hg_2) (by kernel_rfl) (by kernel_rfl) (by kernel_rfl) encGHammer_len encGHammer_cell (fun _ => ⟨Nat.le_refl _, by simp⟩) (fun e => nomatch e) (fun w hm => ((hm.ow 1 C_o 66 f0.fHammers C_sp (fun e => (C_ho e).1) encGHammer_len).hd track1.toNat)) hg_5 (by kernel_rfl) (by kernel_rfl) (fun o_6 cap_7 sp_8 hs_9 ho_10 => kD [0, 1, 2] ?_))
  obtain ⟨hg_11, h⟩ := gd h
  refine tD 15 (p_apn 0 3 o_6 66 ((([] : List GHammer) ++ (f0.fHammers.take track1.toNat)).length) (f0.fHammers.length - (w64 (track1 + 1)).toNat) cap_7 2 2 (pa (C_o.map fun b => ⟨b, 0, none⟩) (w64 (track1 + 1)).toNat C_c 2) encGHammer (([] : List GHammer) ++ (f0.fHammers.take track1.toNat)) (f0.fHammers.drop (w64 (track1 + 1)).toNat) sp_8 (.agg #[(.int .i8 0), (.int .i8 0)]) rfl (tl_len rfl (w64 (track1 + 1))) (by kernel_rfl) (by kernel_rfl) (by kernel_rfl) encGHammer_len encGHammer_cell hs_9 ho_10 (fun w hm => ((hm.ow 1 C_o 66 f0.fHammers C_sp (fun e => (C_ho e).1) encGHammer_len).tl ((w64 (track1 + 1)).toNat) C_c (cap_le rfl C_hs C_ho))) hg_11 (by kernel_rfl) (by kernel_rfl) (fun o_12 cap_13 sp_14 hs_15 ho_16 => kD [0, 1, 2] (qd [⟨16, 0, 0⟩] 0 [0, 1, 2] (qz (jx_then (jc_seq (jc_region (qh [0,0,0,0,0,0] (tO (qs 0 [2] (jkO (qe (jx_then (jc_ret ?_))))))))))))))
  obtain rfl := Option.some.inj h
  exact qr [2] (fun w hm => ⟨o_12, cap_13, sp_14, (((([] : List GHammer) ++ (f0.fHammers.take track1.toNat)) ++ (f0.fHammers.drop (w64 (track1 + 1)).toNat)).length), rfl, hs_15, ho_16, rfl, hm.pk [0, 1, 3]⟩)
/-! ### spec.WithoutTrack -/
def spec_WithoutTrack.k_5 (f0 : GFrame) (track2 : Int) (a_4 : Arr 96 Int) : Option (GFrame × (Arr 96 Int) × Int) := (spec_l03Less f0 track2).bind fun t_6 => some (t_6, a_4, 0)
def spec_WithoutTrack.l_9 (t_3 : Int) : ((Arr 96 Int) × Int) → Option (((Arr 96 Int) × Int) ⊕ ((Arr 96 Int)))
  | (a_7, i_8) => (if (decide (i_8 < 96)) = true then (ix a_7.1 i_8).bind fun x_11 => (ix a_7.1 i_8).bind fun x_12 => (ix a_7.1 i_8).bind fun x_13 => some (.inl ((Arr.set a_7 i_8 (bOr .u32 (bAnd .u32 x_11 (u32 (t_3 - 1))) (bClr .u32 (bShr .u32 x_12 1) (u32 (t_3 - 1))))), (w64 (i_8 + 1)))) else some (.inr a_7))
def spec_WithoutTrack (f0 : GFrame) (d1 : Arr 96 Int) (track2 : Int) : Option (GFrame × (Arr 96 Int) × Int) := (spec_l02Place f0 d1 0 track2).bind fun t_1 => (if (t_1 != 0) = true then some ((⟨0, []⟩ : GFrame), (Arr.rep 96 0), t_1) else (spec_l03Uses d1 track2).bind fun t_2 => (if (t_2 || ((f0.fHammers.length : Int) == 1)) = true then some ((⟨0, []⟩ : GFrame), (Arr.rep 96 0), 4) else (spec_l03Bit track2).bind fun t_3 => (loop (spec_WithoutTrack.l_9 t_3) (d1, 0)).bind fun t_10 => spec_WithoutTrack.k_5 f0 track2 t_10))
theorem spec_WithoutTrack.calls (f0 : GFrame) (d1 : Arr 96 Int) (track2 : Int) (w : World) (r : GFrame × (Arr 96 Int) × Int) (C_o : Option Nat) {C_on : Nat} {C_c : Nat} {C_sp : List Value} (C_hn : f0.fHammers.length = C_on) (C_hs : C_o ≠ none → C_on ≤ C_c ∧ C_sp.length = (C_c - C_on) * 2) (C_ho : C_o = none → f0.fHammers = [] ∧ C_c = 0) (hm0 : Mem w (bs [C_o]) [⟨C_o, 66, row encGHammer f0.fHammers C_sp⟩] w) (h : spec_WithoutTrack f0 d1 track2 = some r) :
    Calls Tryz.prog 21 #[(.agg #[(.int .i16 f0.fSteps), (.slice (C_o.map fun b => ⟨b, 0, none⟩) C_on C_c)]), (.agg (row encU32 d1.1 []).toArray), (.int .i64 track2)] w fun e w' => ∃ v, e = .returned v ∧ (∃ (o0 : Option Nat) (c0 : Nat) (s0 : List Value) (n0 : Nat), r.1.fHammers.length = n0 ∧ (o0 ≠ none → n0 ≤ c0 ∧ s0.length = (c0 - n0) * 2) ∧ (o0 = none → r.1.fHammers = [] ∧ c0 = 0) ∧ v = .tuple #[.agg #[(.int .i16 r.1.fSteps), .slice (o0.map fun b => ⟨b, 0, none⟩) n0 c0], (.agg (row encU32 r.2.1.1 []).toArray), (.int .i64 r.2.2)] ∧ Mem w (bs [C_o]) [⟨C_o, 66, row encGHammer f0.fHammers C_sp⟩, ⟨o0, 66, row encGHammer r.1.fHammers s0⟩] w') := by
  subst C_hn
  rw [spec_WithoutTrack] at h
  refine enter (args := [(.agg #[(.int .i16 f0.fSteps), (.slice (C_o.map fun b => ⟨b, 0, none⟩) f0.fHammers.length C_c)]), (.agg (row encU32 d1.1 []).toArray), (.int .i64 track2)]) Tryz.func21 rfl Tryz.ntmps21 (by kernel_rfl) (L := [⟨C_o, 66, row encGHammer f0.fHammers C_sp⟩]) (W := bs [C_o]) hm0 ?_
  refine jc_seq (jc_region (tO (qa 0 (fun b_1 => jkO (tO (qa 0 (fun b_2 => jkO (tO (qa 0 (fun b_3 => jkO (tO (qa 0 (fun b_4 => jkO (qh [0] (qe (jx_then (jc_seq (jc_seq (jc_region (qh [0] ?_))))))))))))))))))))
  obtain ⟨t_1, ht_7, h⟩ := bd h
  refine tO (pc 0 (fun w hm => spec_l02Place.calls f0 d1 0 track2 w _ C_c (hm.ow 0 C_o 66 f0.fHammers C_sp (fun e => (C_ho e).1) encGHammer_len) rfl (hm.ow 2 (some b_2) 34 d1.1 [] (fun e => nomatch e) encU32_len) b_1 (hm.pass (N := [⟨some b_1, 27, [(.int .i16 f0.fSteps), (.slice (C_o.map fun b => ⟨b, 0, none⟩) f0.fHammers.length C_c)]⟩]) [1] (by kernel_rfl) (by kernel_rfl)) (hm.ownApart (S := GHammer) (N := [⟨some b_1, 27, [(.int .i16 f0.fSteps), (.slice (C_o.map fun b => ⟨b, 0, none⟩) f0.fHammers.length C_c)]⟩]) (hh := 0) (o := C_o) (T := 66) (cs := row encGHammer f0.fHammers C_sp) (xs := f0.fHammers) (by kernel_rfl) (fun e => (C_ho e).1) [1] (by kernel_rfl) (by kernel_rfl)) (hm.ownApart (S := Int) (N := [⟨some b_1, 27, [(.int .i16 f0.fSteps), (.slice (C_o.map fun b => ⟨b, 0, none⟩) f0.fHammers.length C_c)]⟩]) (hh := 2) (o := (some b_2)) (T := 34) (cs := row encU32 d1.1 []) (xs := d1.1) (by kernel_rfl) (fun e => nomatch e) [1] (by kernel_rfl) (by kernel_rfl)) ht_7) ?_)
  rintro w v w' hm ⟨rfl, hm'⟩
  refine ⟨_, hm.appW (ps := [(1, ⟨some b_1, 27, [(.int .i16 f0.fSteps), (.slice (C_o.map fun b => ⟨b, 0, none⟩) f0.fHammers.length C_c)]⟩)]) (N := []) hm' (by kernel_rfl) (by kernel_rfl), jkO ?_⟩
  clear hm hm'
  refine qh [0] (qe (jx_then (jc_seq (jc_region (qh [0,0] (qe (jx_then (qi h (fun h => ?_) (fun h => ?_)))))))))
  ·refine jc_seq (jc_region (qh [0,0,0] (tO (qs 0 [3] (jkO (tO (p_sA 0 4 b_4 96 1 34 encU32 (Arr.rep 96 0) (Arr.rep 96 0) (by kernel_rfl) (by kernel_rfl) (by kernel_rfl) encU32_len encU32_cell (by kernel_rfl) (jkO (qh [0] (qe (jx_then (jc_ret (jx_thenr ?_)))))))))))))
   obtain rfl := Option.some.inj h
   exact jx_ghost 66 encGHammer (jx_retV rfl (rq_cell (v := (.agg #[(.int .i16 0), (.slice none 0 0)])) [3] [(b_3, b_3), (b_3, b_3)] (by kernel_rfl) (by kernel_rfl) (rq_arr (b := b_4) (T' := 34) (hh := 4) (mm := 1) encU32 (Arr.rep 96 0) (by kernel_rfl) (by kernel_rfl) encU32_len (by kernel_rfl) (rq_tmp (by kernel_rfl) rq_nil))) (fun w hm => ⟨none, 0, [], 0, rfl, (fun e => absurd rfl e), (fun _ => ⟨rfl, rfl⟩), rfl, hm.pk [0, 5]⟩))
  ·refine jc_skip (jx_then (jc_seq (jc_seq (jc_region (qh [0] ?_)))))
   obtain ⟨t_2, ht_13, h⟩ := bd h
   refine tO (pc 0 (fun w hm => spec_l03Uses.calls d1 track2 w _ (hm.ow 2 (some b_2) 34 d1.1 [] (fun e => nomatch e) encU32_len) ht_13) ?_)
   rintro w v w' hm ⟨rfl, hm'⟩
   refine ⟨_, hm.app hm', jkO ?_⟩
   clear hm hm'
   refine qf [(0, 0), (0, 1), (1, 1), (0, 1), (0, 1), (0, 0)] (qe (jx_then (qi h (fun h => ?_) (fun h => ?_))))
   ·refine jc_seq (jc_region (qh [0,0] (tO (qs 0 [3] (jkO (tO (p_sA 0 4 b_4 96 1 34 encU32 (Arr.rep 96 0) (Arr.rep 96 0) (by kernel_rfl) (by kernel_rfl) (by kernel_rfl) encU32_len encU32_cell (by kernel_rfl) (jkO (qh [0] (qe (jx_then (jc_ret (jx_thenr ?_)))))))))))))
    obtain rfl := Option.some.inj h
    exact jx_ghost 66 encGHammer (jx_retV rfl (rq_cell (v := (.agg #[(.int .i16 0), (.slice none 0 0)])) [3] [(b_3, b_3), (b_3, b_3)] (by kernel_rfl) (by kernel_rfl) (rq_arr (b := b_4) (T' := 34) (hh := 4) (mm := 1) encU32 (Arr.rep 96 0) (by kernel_rfl) (by kernel_rfl) encU32_len (by kernel_rfl) (rq_tmp (by kernel_rfl) rq_nil))) (fun w hm => ⟨none, 0, [], 0, rfl, (fun e => absurd rfl e), (fun _ => ⟨rfl, rfl⟩), rfl, hm.pk [0, 5]⟩))
   ·refine jc_skip (jx_then (jc_seq (jc_region (qh [0] ?_))))
    obtain ⟨t_3, ht_15, h⟩ := bd h
    refine tO (pc 0 (fun w hm => spec_l03Bit.calls track2 w _ ht_15) ?_)
    rintro w v w' hm ⟨rfl, hm'⟩
    refine ⟨_, hm.app hm', jkO ?_⟩
    clear hm hm'
    refine qh [0,0] (qe (jx_then (jc_seq (jc_seq (jc_region (qh [0] (qe (jx_then (jc_meet (fun (j : (Arr 96 Int)) => match j with | a_4 => spec_WithoutTrack.k_5 f0 track2 a_4 = some r) (fun (j : (Arr 96 Int)) => match j with | a_4 => [(2, [], (.int .i64 track2)), (3, [], (.pointer (some ⟨b_1, 0, none⟩))), (4, [], (.pointer (some ⟨b_2, 0, none⟩))), (6, [], (.pointer (some ⟨b_3, 0, none⟩))), (7, [], (.pointer (some ⟨b_4, 0, none⟩))), (8, [], (.int .i64 0))]) (fun (j : (Arr 96 Int)) => match j with | a_4 => [⟨C_o, 66, row encGHammer f0.fHammers C_sp⟩, ⟨some b_1, 27, [(.int .i16 f0.fSteps), (.slice (C_o.map fun b => ⟨b, 0, none⟩) f0.fHammers.length C_c)]⟩, ⟨(some b_2), 34, row encU32 a_4.1 []⟩, ⟨some b_3, 27, [(.int .i16 0), (.slice none 0 0)]⟩, ⟨(some b_4), 34, row encU32 ((Arr.rep 96 0).1) []⟩]) ?_ ?_)))))))))
    ·refine jc_block ?_
     obtain ⟨t_10, ht_157, hr_145⟩ := bd h
     refine jc_loop (fun (s : (Arr 96 Int) × Int) (x : Unit) => match s, x with | ⟨a_7, i_8⟩, _ => True) (fun (s : (Arr 96 Int) × Int) (x : Unit) => match s, x with | ⟨a_7, i_8⟩, _ => [(2, [], (.int .i64 track2)), (3, [], (.pointer (some ⟨b_1, 0, none⟩))), (4, [], (.pointer (some ⟨b_2, 0, none⟩))), (6, [], (.pointer (some ⟨b_3, 0, none⟩))), (7, [], (.pointer (some ⟨b_4, 0, none⟩))), (8, [], (.int .i64 0)), (10, [], (.int .u32 (u32 (t_3 - 1)))), (11, [], (.int .i64 i_8))]) (fun (s : (Arr 96 Int) × Int) (x : Unit) => match s, x with | ⟨a_7, i_8⟩, _ => [⟨C_o, 66, row encGHammer f0.fHammers C_sp⟩, ⟨some b_1, 27, [(.int .i16 f0.fSteps), (.slice (C_o.map fun b => ⟨b, 0, none⟩) f0.fHammers.length C_c)]⟩, ⟨(some b_2), 34, row encU32 a_7.1 []⟩, ⟨some b_3, 27, [(.int .i16 0), (.slice none 0 0)]⟩, ⟨(some b_4), 34, row encU32 ((Arr.rep 96 0).1) []⟩]) ht_157 () trivial (by kernel_rfl) [0, 1, 2, 3, 4] (by kernel_rfl) (by kernel_rfl) ?_
     rintro ⟨a_7, i_8⟩ _ y_146 _ h
     rw [spec_WithoutTrack.l_9] at h
     refine jc_seq (jc_seq (jc_region (qh [0,0] (qe (jx_then (qi h (fun h => ?_) (fun h => ?_)))))))
     ·refine jc_skip (jx_then (jc_seq (jc_block (qg [⟨C_o, 66, row encGHammer f0.fHammers C_sp⟩, ⟨some b_1, 27, [(.int .i16 f0.fSteps), (.slice (C_o.map fun b => ⟨b, 0, none⟩) f0.fHammers.length C_c)]⟩, ⟨some b_3, 27, [(.int .i16 0), (.slice none 0 0)]⟩, ⟨(some b_4), 34, row encU32 ((Arr.rep 96 0).1) []⟩] 15 (qd [⟨0, 0, 0⟩,⟨1, 0, 0⟩,⟨4, 0, 0⟩,⟨6, 0, 0⟩,⟨10, 0, 0⟩] 10 [0, 1, 3, 4] ?_)))))
      obtain ⟨x_11, hx_152, h⟩ := bd h
      refine qv 2 0 [0, 1, 3, 4] (fun w hm => idx_run (a := (some ⟨b_2, 0, none⟩)) (len := 96) (s := 1) (j := i_8) (by kernel_rfl) (ix_some hx_152).1 (ltn hx_152 a_7.2) rfl) ?_
      obtain ⟨x_12, hx_153, h⟩ := bd h
      refine qv 7 0 [0, 1, 3, 4] (fun w hm => idx_run (a := (some ⟨b_2, 0, none⟩)) (len := 96) (s := 1) (j := i_8) (by kernel_rfl) (ix_some hx_153).1 (ltn hx_153 a_7.2) rfl) (toD2 3 8 (by kernel_rfl) ?_ ?_)
      ·refine ql 0 false (fun w hm => ((hm.ow 2 (some b_2) 34 a_7.1 [] (fun e => nomatch e) encU32_len).at hx_152)) (kD [0, 1, 3, 4] (qd [⟨5, 0, 0⟩] 6 [0, 1, 3, 4] (tD 8 (ql 0 false (fun w hm => ((hm.ow 2 (some b_2) 34 a_7.1 [] (fun e => nomatch e) encU32_len).at hx_153)) (kD [0, 1, 3, 4] (qd [⟨9, 0, 0⟩,⟨11, 0, 0⟩,⟨12, 0, 0⟩] 2 [0, 1, 3, 4] ?_))))))
       obtain ⟨x_13, hx_154, h⟩ := bd h
       exact qv 13 0 [0, 1, 3, 4] (fun w hm => idx_run (a := (some ⟨b_2, 0, none⟩)) (len := 96) (s := 1) (j := i_8) (by kernel_rfl) (ix_some hx_154).1 (ltn hx_154 a_7.2) rfl) (tD 14 (p_str 0 2 b_2 34 encU32 a_7.1 [] i_8 (bOr .u32 (bAnd .u32 x_11 (u32 (t_3 - 1))) (bClr .u32 (bShr .u32 x_12 1) (u32 (t_3 - 1)))) 1 0 [(.int .u32 (bOr .u32 (bAnd .u32 x_11 (u32 (t_3 - 1))) (bClr .u32 (bShr .u32 x_12 1) (u32 (t_3 - 1)))))] (by kernel_rfl) (by kernel_rfl) (by kernel_rfl) encU32_len hx_154 (by kernel_rfl) (by kernel_rfl) (kD [0, 1, 3, 4] (qz (jx_inn (jx_then (jc_region (qh [0,0,0] (qe (qb ((Arr.set a_7 i_8 (bOr .u32 (bAnd .u32 x_11 (u32 (t_3 - 1))) (bClr .u32 (bShr .u32 x_12 1) (u32 (t_3 - 1))))), (w64 (i_8 + 1))) () h trivial [0, 1, 2, 3, 4]))))))))))
      ·refine ql 0 false (fun w hm => ((hm.ow 2 (some b_2) 34 a_7.1 [] (fun e => nomatch e) encU32_len).at hx_153)) (kD [0, 1, 3, 4] (qd [⟨9, 0, 0⟩,⟨11, 0, 0⟩] 5 [0, 1, 3, 4] (tD 3 (ql 0 false (fun w hm => ((hm.ow 2 (some b_2) 34 a_7.1 [] (fun e => nomatch e) encU32_len).at hx_152)) (kD [0, 1, 3, 4] (qd [⟨5, 0, 0⟩,⟨12, 0, 0⟩] 2 [0, 1, 3, 4] ?_))))))
       obtain ⟨x_13, hx_155, h⟩ := bd h
       exact qv 13 0 [0, 1, 3, 4] (fun w hm => idx_run (a := (some ⟨b_2, 0, none⟩)) (len := 96) (s := 1) (j := i_8) (by kernel_rfl) (ix_some hx_155).1 (ltn hx_155 a_7.2) rfl) (tD 14 (p_str 0 2 b_2 34 encU32 a_7.1 [] i_8 (bOr .u32 (bAnd .u32 x_11 (u32 (t_3 - 1))) (bClr .u32 (bShr .u32 x_12 1) (u32 (t_3 - 1)))) 1 0 [(.int .u32 (bOr .u32 (bAnd .u32 x_11 (u32 (t_3 - 1))) (bClr .u32 (bShr .u32 x_12 1) (u32 (t_3 - 1)))))] (by kernel_rfl) (by kernel_rfl) (by kernel_rfl) encU32_len hx_155 (by kernel_rfl) (by kernel_rfl) (kD [0, 1, 3, 4] (qz (jx_inn (jx_then (jc_region (qh [0,0,0] (qe (qb ((Arr.set a_7 i_8 (bOr .u32 (bAnd .u32 x_11 (u32 (t_3 - 1))) (bClr .u32 (bShr .u32 x_12 1) (u32 (t_3 - 1))))), (w64 (i_8 + 1))) () h trivial [0, 1, 2, 3, 4]))))))))))
     ·refine jc_exit (jx_thenx (jx_leave a_7 (Option.some.inj h).symm (fun e_156 => ?_)))
      subst e_156
      exact jx_ine (qm a_7 hr_145 [0, 1, 2, 3, 4])
    ·rintro a_4 h
     replace h : spec_WithoutTrack.k_5 f0 track2 a_4 = some r := h
     rw [spec_WithoutTrack.k_5] at h
     refine jx_then (jc_seq (qg [⟨C_o, 66, row encGHammer f0.fHammers C_sp⟩, ⟨some b_1, 27, [(.int .i16 f0.fSteps), (.slice (C_o.map fun b => ⟨b, 0, none⟩) f0.fHammers.length C_c)]⟩, ⟨(some b_2), 34, row encU32 a_4.1 []⟩] 6 (qd [⟨0, 0, 0⟩] 5 [0, 1, 2] (qv 2 0 [0, 1, 2] (fun w hm => ld_run (b := b_2) (off := 0) (s := 96) (agg := true) (vs := row encU32 a_4.1 []) (by kernel_rfl) ((row_len encU32_len a_4).trans rfl) (.inl rfl) (hm.all (hh := 2) (T := 34) (by kernel_rfl))) ?_))))
     obtain ⟨t_6, ht_121, h⟩ := bd h
     refine tD 1 (pc 0 (fun w hm => spec_l03Less.calls f0 track2 w _ b_1 C_o rfl C_hs C_ho (hm.pass (N := [⟨some b_1, 27, [(.int .i16 f0.fSteps), (.slice (C_o.map fun b => ⟨b, 0, none⟩) f0.fHammers.length C_c)]⟩, ⟨C_o, 66, row encGHammer f0.fHammers C_sp⟩]) [1, 0] (by kernel_rfl) (by kernel_rfl)) ht_121) ?_)
     rintro w v w' hm ⟨o_122, cap_123, sp_124, _, rfl, hs_125, ho_126, rfl, hm'⟩
     refine ⟨_, hm.appW (ps := [(1, ⟨some b_1, 27, [(.int .i16 f0.fSteps), (.slice (C_o.map fun b => ⟨b, 0, none⟩) f0.fHammers.length C_c)]⟩), (0, ⟨C_o, 66, row encGHammer f0.fHammers C_sp⟩)]) (N := [⟨o_122, 66, row encGHammer t_6.fHammers sp_124⟩]) hm' (by kernel_rfl) (by kernel_rfl), kD [0, 1, 2] ?_⟩
     clear hm hm'
     refine tD 3 (qs 0 [3] (kD [0, 1, 2] (tD 4 (p_sA 0 4 b_4 96 1 34 encU32 (Arr.rep 96 0) a_4 (by kernel_rfl) (by kernel_rfl) (by kernel_rfl) encU32_len encU32_cell (by kernel_rfl) (kD [0, 1, 2] (qd [⟨5, 0, 0⟩] 0 [0, 1, 2] (qz (jx_then (jc_ret ?_)))))))))
     obtain rfl := Option.some.inj h
     exact jx_retV rfl (rq_cell (v := (.agg #[(.int .i16 t_6.fSteps), (.slice (o_122.map fun b => ⟨b, 0, none⟩) t_6.fHammers.length cap_123)])) [3] [(b_3, b_3), (b_3, b_3)] (by kernel_rfl) (by kernel_rfl) (rq_arr (b := b_4) (T' := 34) (hh := 4) (mm := 1) encU32 a_4 (by kernel_rfl) (by kernel_rfl) encU32_len (by kernel_rfl) (rq_tmp (by kernel_rfl) rq_nil))) (fun w hm => ⟨o_122, cap_123, sp_124, t_6.fHammers.length, rfl, hs_125, ho_126, rfl, hm.pk [0, 5]⟩)
/-! ### spec.l00Has -/
def spec_l00Has.k_1 : Option (Bool) := some false
def spec_l00Has.l_3 (list0 : List Int) (n1 : Int) : Int → Option ((Int) ⊕ (Bool ⊕ Unit))
  | i_2 => (if (decide (i_2 < (list0.length : Int))) = true then (ix list0 i_2).bind fun x_5 => (if (x_5 == n1) = true then some (.inr (.inl true)) else some (.inl (w64 (i_2 + 1)))) else some (.inr (.inr ())))
def spec_l00Has (list0 : List Int) (n1 : Int) : Option (Bool) := (loop (spec_l00Has.l_3 list0 n1) 0).bind fun t_4 => match t_4 with | .inl p => some p | .inr p => spec_l00Has.k_1
theorem spec_l00Has.calls (list0 : List Int) (n1 : Int) (w : World) (r : Bool) {A_a : Option Addr} {A_an : Nat} (A_c : Nat) (A_h : Rw w A_a 1 encI64 list0) (A_hn : list0.length = A_an) (h : spec_l00Has list0 n1 = some r) :
    Calls Tryz.prog 60 #[(.slice A_a A_an A_c), (.int .i64 n1)] w fun e w' => ∃ v, e = .returned v ∧ (v = (.bool r) ∧ Mem w [] [] w') := by
  subst A_hn
  rw [spec_l00Has] at h
  refine enter (args := [(.slice A_a list0.length A_c), (.int .i64 n1)]) Tryz.func60 rfl Tryz.ntmps60 (by kernel_rfl) (L := []) (W := []) (Mem.start w) ?_
  refine jc_seq (jc_region (qh [0] (qe (jx_then (jc_seq (jc_seq (jc_region (qh [0] (qe (jx_then (jc_meet (fun (_ : Unit) => spec_l00Has.k_1 = some r) (fun (_ : Unit) => [(4, [], (.bool false))]) (fun (_ : Unit) => []) ?_ ?_)))))))))))
  ·refine jc_block ?_
   obtain ⟨t_4, ht_34, hr_26⟩ := bd h
   refine jc_loop (fun (s : Int) (x : Unit) => match s, x with | i_2, _ => True) (fun (s : Int) (x : Unit) => match s, x with | i_2, _ => [(0, [], (.slice A_a list0.length A_c)), (1, [], (.int .i64 n1)), (4, [], (.bool false)), (5, [], (.int .i64 i_2))]) (fun (s : Int) (x : Unit) => match s, x with | i_2, _ => []) ht_34 () trivial (by kernel_rfl) [] (by kernel_rfl) (by kernel_rfl) ?_
   rintro i_2 _ y_27 _ h
   rw [spec_l00Has.l_3] at h
   refine jc_seq (jc_seq (jc_region (qh [0,0,0,0] (qe (jx_then (qi h (fun h => ?_) (fun h => ?_)))))))
   ·refine jc_skip (jx_then (jc_seq (jc_block (jc_seq (jc_region (qh [0,0] ?_))))))
    obtain ⟨x_5, hx_30, h⟩ := bd h
    refine tO (qx 0 A_a 1 hx_30 rfl (A_h.sp hx_30) (jkO (tO (ql 0 false (fun w hm => ((hm.xr A_h).at hx_30)) (jkO (qh [0,0] (qe (jx_then (qi h (fun h => ?_) (fun h => ?_))))))))))
    ·refine jc_seq (jc_region (qh [0] (qe (jx_then (jc_ret (jx_inr (jx_thenr (jx_leaver (.inl true) (Option.some.inj h).symm (fun e_32 => ?_)))))))))
     subst e_32
     refine jx_inr (jx_thenr (jx_thenr ?_))
     obtain rfl := Option.some.inj hr_26
     exact qr [] (fun w hm => ⟨rfl, hm.pk []⟩)
    ·exact jc_skip (jx_inn (jx_then (jc_region (qh [0,0,0] (qe (qb (w64 (i_2 + 1)) () h trivial []))))))
   ·refine jc_exit (jx_thenx (jx_leave (.inr ()) (Option.some.inj h).symm (fun e_33 => ?_)))
    subst e_33
    exact jx_ine (qm () hr_26 [])
  ·rintro _ h
   replace h : spec_l00Has.k_1 = some r := h
   rw [spec_l00Has.k_1] at h
   refine jx_then (jc_seq (jc_region (qh [0] (qe (jx_then (jc_ret ?_))))))
   obtain rfl := Option.some.inj h
   exact qr [] (fun w hm => ⟨rfl, hm.pk []⟩)
/-! ### spec.HasNumber -/
def spec_HasNumber (list0 : List Int) (n1 : Int) : Option (Bool) := (spec_l00Has list0 n1).bind fun t_1 => some t_1
theorem spec_HasNumber.calls (list0 : List Int) (n1 : Int) (w : World) (r : Bool) {A_a : Option Addr} {A_an : Nat} (A_c : Nat) (A_h : Rw w A_a 1 encI64 list0) (A_hn : list0.length = A_an) (h : spec_HasNumber list0 n1 = some r) :
    Calls Tryz.prog 22 #[(.slice A_a A_an A_c), (.int .i64 n1)] w fun e w' => ∃ v, e = .returned v ∧ (v = (.bool r) ∧ Mem w [] [] w') := by
  subst A_hn
  rw [spec_HasNumber] at h
  refine enter (args := [(.slice A_a list0.length A_c), (.int .i64 n1)]) Tryz.func22 rfl Tryz.ntmps22 (by kernel_rfl) (L := []) (W := []) (Mem.start w) ?_
  refine jc_seq (jc_region (qh [0] (qe (jx_then (jc_seq (jc_region (qh [0,0] ?_)))))))
  obtain ⟨t_1, ht_1, h⟩ := bd h
  refine tO (pc 0 (fun w hm => spec_l00Has.calls list0 n1 w _ A_c (hm.xr A_h) rfl ht_1) ?_)
  rintro w v w' hm ⟨rfl, hm'⟩
  refine ⟨_, hm.app hm', jkO ?_⟩
  clear hm hm'
  refine qh [0] (qe (jx_then (jc_ret ?_)))
  obtain rfl := Option.some.inj h
  exact qr [] (fun w hm => ⟨rfl, hm.pk []⟩)
def lay_strconv_FormatInt_ren : Go.Shelf.Ren := ⟨fun | 173 => 103 | 246 => 119 | 283 => 128 | 284 => 129 | 285 => 130 | 286 => 131 | 129 => 138 | 317 => 137 | 318 => 139 | 319 => 140 | 320 => 141 | 337 => 153 | 338 => 154 | n => n, fun | 2 => 2 | 3 => 3 | 9 => 9 | 4 => 4 | 171 => 159 | 0 => 0 | 53 => 113 | 37 => 22 | 5 => 5 | 173 => 162 | 212 => 171 | 51 => 32 | 20 => 20 | 213 => 172 | 46 => 103 | 232 => 191 | 233 => 192 | n => n, fun | 17 => 0 | 18 => 1 | 19 => 2 | n => n⟩
theorem lay_strconv_FormatInt : Go.Proofs.LaysM.n173 Tryz.prog lay_strconv_FormatInt_ren where
  mixed := by kernel_rfl
  f129 := Tryz.func138.trans (congrArg some (by kernel_rfl))
  f173 := Tryz.func103.trans (congrArg some (by kernel_rfl))
  f246 := Tryz.func119.trans (congrArg some (by kernel_rfl))
  f283 := Tryz.func128.trans (congrArg some (by kernel_rfl))
  f284 := Tryz.func129.trans (congrArg some (by kernel_rfl))
  f285 := Tryz.func130.trans (congrArg some (by kernel_rfl))
  f286 := Tryz.func131.trans (congrArg some (by kernel_rfl))
  f317 := Tryz.func137.trans (congrArg some (by kernel_rfl))
  f318 := Tryz.func139.trans (congrArg some (by kernel_rfl))
  f319 := Tryz.func140.trans (congrArg some (by kernel_rfl))
  f320 := Tryz.func141.trans (congrArg some (by kernel_rfl))
  f337 := Tryz.func153.trans (congrArg some (by kernel_rfl))
  f338 := Tryz.func154.trans (congrArg some (by kernel_rfl))
  t0 := Tryz.underlying0
  a0 := Tryz.isAgg0
  z0 := Tryz.sizeOf0
  v0 := Tryz.zeroValue0
  t2 := Tryz.underlying2
  a2 := Tryz.isAgg2
  z2 := Tryz.sizeOf2
  v2 := Tryz.zeroValue2
  t3 := Tryz.underlying3
  a3 := Tryz.isAgg3
  z3 := Tryz.sizeOf3
  v3 := Tryz.zeroValue3
  t4 := Tryz.underlying4
  a4 := Tryz.isAgg4
  z4 := Tryz.sizeOf4
  v4 := Tryz.zeroValue4
  t5 := Tryz.underlying5
  a5 := Tryz.isAgg5
  z5 := Tryz.sizeOf5
  v5 := Tryz.zeroValue5
  t9 := Tryz.underlying9
  a9 := Tryz.isAgg9
  z9 := Tryz.sizeOf9
  v9 := Tryz.zeroValue9
  t20 := Tryz.underlying20
  a20 := Tryz.isAgg20
  z20 := Tryz.sizeOf20
  v20 := Tryz.zeroValue20
  t37 := Tryz.underlying22
  a37 := Tryz.isAgg22
  z37 := Tryz.sizeOf22
  v37 := Tryz.zeroValue22
  t46 := Tryz.underlying103
  a46 := Tryz.isAgg103
  z46 := Tryz.sizeOf103
  v46 := Tryz.zeroValue103
  t51 := Tryz.underlying32
  a51 := Tryz.isAgg32
  z51 := Tryz.sizeOf32
  v51 := Tryz.zeroValue32
  t53 := Tryz.underlying113
  a53 := Tryz.isAgg113
  z53 := Tryz.sizeOf113
  v53 := Tryz.zeroValue113
  t171 := Tryz.underlying159
  a171 := Tryz.isAgg159
  z171 := Tryz.sizeOf159
  v171 := Tryz.zeroValue159
  t173 := Tryz.underlying162
  a173 := Tryz.isAgg162
  z173 := Tryz.sizeOf162
  v173 := Tryz.zeroValue162
  t212 := Tryz.underlying171
  a212 := Tryz.isAgg171
  z212 := Tryz.sizeOf171
  v212 := Tryz.zeroValue171
  t213 := Tryz.underlying172
  a213 := Tryz.isAgg172
  z213 := Tryz.sizeOf172
  t232 := Tryz.underlying191
  a232 := Tryz.isAgg191
  z232 := Tryz.sizeOf191
  v232 := Tryz.zeroValue191
  t233 := Tryz.underlying192
  a233 := Tryz.isAgg192
  z233 := Tryz.sizeOf192
  v233 := Tryz.zeroValue192
  g17 := by kernel_rfl
  g18 := by kernel_rfl
  g19 := by kernel_rfl
  i0 := by kernel_rfl
  i2 := by kernel_rfl
  i3 := by kernel_rfl
  i4 := by kernel_rfl
  i5 := by kernel_rfl
  i9 := by kernel_rfl
  i20 := by kernel_rfl
  i37 := by kernel_rfl
  i46 := by kernel_rfl
  i51 := by kernel_rfl
  i53 := by kernel_rfl
  i171 := by kernel_rfl
  i173 := by kernel_rfl
  i212 := by kernel_rfl
  i232 := by kernel_rfl
  i233 := by kernel_rfl
  m17 := by kernel_rfl
  m18 := by kernel_rfl
  m19 := by kernel_rfl
/-! ### strconv.FormatInt -/
def strconv_FormatInt (i0 : Int) (base1 : Int) : Option (ByteArray) := fmtF i0 base1
theorem strconv_FormatInt.calls (i0 : Int) (base1 : Int) (w : World) (r : ByteArray) (g_pw : Glpw w) (h : strconv_FormatInt i0 base1 = some r) :
    Calls Tryz.prog 103 #[(.int .i64 i0), (.int .i64 base1)] w fun e w' => ∃ v, e = .returned v ∧ (v = (.string r) ∧ Mem w [] [] w') := by
  rw [strconv_FormatInt] at h
  exact fmt_calls lay_strconv_FormatInt i0 base1 w r g_pw.pw h
/-! ### impl.decimal -/
def impl_decimal (n0 : Int) : Option (ByteArray) := (strconv_FormatInt n0 10).bind fun t_1 => some t_1
theorem impl_decimal.calls (n0 : Int) (w : World) (r : ByteArray) (g_pw : Glpw w) (h : impl_decimal n0 = some r) :
    Calls Tryz.prog 62 #[(.int .i64 n0)] w fun e w' => ∃ v, e = .returned v ∧ (v = (.string r) ∧ Mem w [] [] w') := by
  rw [impl_decimal] at h
  refine enter (args := [(.int .i64 n0)]) Tryz.func62 rfl Tryz.ntmps62 (by kernel_rfl) (L := []) (W := []) (Mem.start w) ?_
  refine jc_seq (jc_region (qh [0] (qe (jx_then (jc_seq (jc_region (qh [0] ?_)))))))
  obtain ⟨t_1, ht_1, h⟩ := bd h
  refine tO (pc 0 (fun w hm => strconv_FormatInt.calls n0 10 w _ (g_pw.keep hm) ht_1) ?_)
  rintro w v w' hm ⟨rfl, hm'⟩
  refine ⟨_, hm.app hm', jkO ?_⟩
  clear hm hm'
  refine qh [0] (qe (jx_then (jc_ret ?_)))
  obtain rfl := Option.some.inj h
  exact qr [] (fun w hm => ⟨rfl, hm.pk []⟩)
/-! ### impl.PitchName -/
def impl_PitchName (pitch0 : Int) : Option (ByteArray) := (impl_isPitch pitch0).bind fun t_1 => (if (!t_1) = true then some (ByteArray.mk #[]) else (ix ([(ByteArray.mk #[99]), (ByteArray.mk #[99, 35]), (ByteArray.mk #[100]), (ByteArray.mk #[100, 35]), (ByteArray.mk #[101]), (ByteArray.mk #[102]), (ByteArray.mk #[102, 35]), (ByteArray.mk #[103]), (ByteArray.mk #[103, 35]), (ByteArray.mk #[97]), (ByteArray.mk #[97, 35]), (ByteArray.mk #[98])] : List ByteArray) (Int.tmod pitch0 12)).bind fun x_2 => (impl_decimal (w64 (Int.tdiv pitch0 12))).bind fun t_3 => (if x_2.size + t_3.size ≤ 9223372036854775807 then some (x_2 ++ t_3) else none))
theorem impl_PitchName.calls (pitch0 : Int) (w : World) (r : ByteArray) (g_pw : Glpw w) (h : impl_PitchName pitch0 = some r) :
    Calls Tryz.prog 63 #[(.int .i64 pitch0)] w fun e w' => ∃ v, e = .returned v ∧ (v = (.string r) ∧ Mem w [] [] w') := by
  rw [impl_PitchName] at h
  refine enter (args := [(.int .i64 pitch0)]) Tryz.func63 rfl Tryz.ntmps63 (by kernel_rfl) (L := []) (W := []) (Mem.start w) ?_
  refine jc_seq (jc_region (qh [0] (qe (jx_then (jc_seq (jc_seq (jc_region (qh [0] ?_))))))))
  obtain ⟨t_1, ht_3, h⟩ := bd h
  refine tO (pc 0 (fun w hm => impl_isPitch.calls pitch0 w _ ht_3) ?_)
  rintro w v w' hm ⟨rfl, hm'⟩
  refine ⟨_, hm.app hm', jkO ?_⟩
  clear hm hm'
  refine qh [0] (qe (jx_then (qi h (fun h => ?_) (fun h => ?_))))
  ·refine jc_seq (jc_region (qh [0] (qe (jx_then (jc_ret (jx_thenr ?_))))))
   obtain rfl := Option.some.inj h
   exact qr [] (fun w hm => ⟨rfl, hm.pk []⟩)
  ·refine jc_skip (jx_then (jc_seq (jc_region (tO (qa 0 (fun b_5 => jkO (qh [0] (qe (jx_then (jc_seq (qg [⟨(some b_5), 9, row encStr ([(ByteArray.mk #[99]), (ByteArray.mk #[99, 35]), (ByteArray.mk #[100]), (ByteArray.mk #[100, 35]), (ByteArray.mk #[101]), (ByteArray.mk #[102]), (ByteArray.mk #[102, 35]), (ByteArray.mk #[103]), (ByteArray.mk #[103, 35]), (ByteArray.mk #[97]), (ByteArray.mk #[97, 35]), (ByteArray.mk #[98])] : List ByteArray) []⟩] 10 (qd [⟨0, 0, 0⟩,⟨1, 0, 0⟩,⟨2, 0, 0⟩,⟨5, 0, 0⟩,⟨6, 0, 0⟩] 5 [0] ?_))))))))))))
   obtain ⟨x_2, hx_6, h⟩ := bd h
   refine qv 3 0 [0] (fun w hm => idx_run (a := (some ⟨b_5, 0, none⟩)) (len := 12) (s := 1) (j := (Int.tmod pitch0 12)) (by kernel_rfl) (ix_some hx_6).1 (ltn hx_6 rfl) rfl) (qv 4 0 [0] (fun w hm => ld_run (b := aB (some ⟨b_5, 0, none⟩)) (off := (aO (some ⟨b_5, 0, none⟩) + (Int.tmod pitch0 12).toNat * 1)) (s := 1) (agg := false) (vs := (encStr x_2)) (by kernel_rfl) (by kernel_rfl) (.inr rfl) ((hm.ow 0 (some b_5) 9 ([(ByteArray.mk #[99]), (ByteArray.mk #[99, 35]), (ByteArray.mk #[100]), (ByteArray.mk #[100, 35]), (ByteArray.mk #[101]), (ByteArray.mk #[102]), (ByteArray.mk #[102, 35]), (ByteArray.mk #[103]), (ByteArray.mk #[103, 35]), (ByteArray.mk #[97]), (ByteArray.mk #[97, 35]), (ByteArray.mk #[98])] : List ByteArray) [] (fun e => nomatch e) encStr_len).at hx_6)) ?_)
   obtain ⟨t_3, ht_7, h⟩ := bd h
   refine tD 7 (pc 0 (fun w hm => impl_decimal.calls (w64 (Int.tdiv pitch0 12)) w _ (g_pw.keep hm) ht_7) ?_)
   rintro w v w' hm ⟨rfl, hm'⟩
   refine ⟨_, hm.app hm', kD [0] ?_⟩
   clear hm hm'
   obtain ⟨hg_8, h⟩ := gd h
   refine qv 8 0 [0] (fun w hm => cat_run (a := x_2) (b := t_3) (by kernel_rfl) hg_8) (qd [⟨9, 0, 0⟩] 0 [0] (qz (jx_then (jc_ret ?_))))
   obtain rfl := Option.some.inj h
   exact qr [] (fun w hm => ⟨rfl, hm.pk []⟩)
/-! ### impl.FrameText -/
def impl_FrameText.k_4 (s_3 : ByteArray) : Option (ByteArray) := some s_3
def impl_FrameText.l_7 (f0 : GFrame) : (ByteArray × Int) → Option ((ByteArray × Int) ⊕ (ByteArray))
  | (s_5, i_6) => (if (decide (i_6 < (f0.fHammers.length : Int))) = true then (ix f0.fHammers i_6).bind fun x_9 => (impl_PitchName (w64 x_9.fPitch)).bind fun t_10 => (if (ByteArray.mk #[32]).size + t_10.size ≤ 9223372036854775807 then (if ((ByteArray.mk #[32]) ++ t_10).size + (ByteArray.mk #[47]).size ≤ 9223372036854775807 then (impl_decimal (w64 x_9.fReady)).bind fun t_11 => (if (((ByteArray.mk #[32]) ++ t_10) ++ (ByteArray.mk #[47])).size + t_11.size ≤ 9223372036854775807 then (if s_5.size + ((((ByteArray.mk #[32]) ++ t_10) ++ (ByteArray.mk #[47])) ++ t_11).size ≤ 9223372036854775807 then some (.inl ((s_5 ++ ((((ByteArray.mk #[32]) ++ t_10) ++ (ByteArray.mk #[47])) ++ t_11)), (w64 (i_6 + 1)))) else none) else none) else none) else none) else some (.inr s_5))
def impl_FrameText (f0 : GFrame) : Option (ByteArray) := (impl_ValidFrame f0).bind fun t_1 => (if (!t_1) = true then some (ByteArray.mk #[]) else (impl_decimal (w64 f0.fSteps)).bind fun t_2 => (loop (impl_FrameText.l_7 f0) (t_2, 0)).bind fun t_8 => impl_FrameText.k_4 t_8)
theorem impl_FrameText.calls (f0 : GFrame) (w : World) (r : ByteArray) (g_pw : Glpw w) {C_a : Option Addr} {C_an : Nat} (C_c : Nat) (C_h : Rw w C_a 2 encGHammer f0.fHammers) (C_hn : f0.fHammers.length = C_an) (h : impl_FrameText f0 = some r) :
    Calls Tryz.prog 23 #[(.agg #[(.int .i16 f0.fSteps), (.slice C_a C_an C_c)])] w fun e w' => ∃ v, e = .returned v ∧ (v = (.string r) ∧ Mem w [] [] w') := by
  subst C_hn
  rw [impl_FrameText] at h
  refine enter (args := [(.agg #[(.int .i16 f0.fSteps), (.slice C_a f0.fHammers.length C_c)])]) Tryz.func23 rfl Tryz.ntmps23 (by kernel_rfl) (L := []) (W := []) (Mem.start w) ?_
  refine jc_seq (jc_region (tO (qa 0 (fun b_1 => jkO (qh [0] (qe (jx_then (jc_seq (jc_seq (jc_region (qh [0] ?_)))))))))))
  obtain ⟨t_1, ht_4, h⟩ := bd h
  refine tO (pc 0 (fun w hm => impl_ValidFrame.calls f0 w _ C_c (hm.xr C_h) rfl ht_4) ?_)
  rintro w v w' hm ⟨rfl, hm'⟩
  refine ⟨_, hm.app hm', jkO ?_⟩
  clear hm hm'
  refine qh [0] (qe (jx_then (qi h (fun h => ?_) (fun h => ?_))))
  ·refine jc_seq (jc_region (qh [0] (qe (jx_then (jc_ret (jx_thenr ?_))))))
   obtain rfl := Option.some.inj h
   exact qr [] (fun w hm => ⟨rfl, hm.pk []⟩)
  ·refine jc_skip (jx_then (jc_seq (jc_region (qh [0,0,0] ?_))))
   obtain ⟨t_2, ht_6, h⟩ := bd h
   refine tO (pc 0 (fun w hm => impl_decimal.calls (w64 f0.fSteps) w _ (g_pw.keep hm) ht_6) ?_)
   rintro w v w' hm ⟨rfl, hm'⟩
   refine ⟨_, hm.app hm', jkO ?_⟩
   clear hm hm'
   refine qh [0] (qe (jx_then (jc_seq (jc_seq (jc_region (qh [0,0,0,0] (qe (jx_then (jc_meet (fun (j : ByteArray) => match j with | s_3 => impl_FrameText.k_4 s_3 = some r) (fun (j : ByteArray) => match j with | s_3 => [(2, [], (.string (ByteArray.mk #[]))), (3, [], (.string s_3))]) (fun (j : ByteArray) => match j with | s_3 => [⟨some b_1, 27, [(.int .i16 f0.fSteps), (.slice C_a f0.fHammers.length C_c)]⟩]) ?_ ?_)))))))))
   ·refine jc_block ?_
    obtain ⟨t_8, ht_142, hr_129⟩ := bd h
    refine jc_loop (fun (s : ByteArray × Int) (x : Unit) => match s, x with | ⟨s_5, i_6⟩, _ => True) (fun (s : ByteArray × Int) (x : Unit) => match s, x with | ⟨s_5, i_6⟩, _ => [(2, [], (.string (ByteArray.mk #[]))), (3, [], (.string s_5)), (14, [], (.slice C_a f0.fHammers.length C_c)), (15, [], (.int .i64 (f0.fHammers.length : Int))), (16, [], (.int .i64 i_6))]) (fun (s : ByteArray × Int) (x : Unit) => match s, x with | ⟨s_5, i_6⟩, _ => [⟨some b_1, 27, [(.int .i16 f0.fSteps), (.slice C_a f0.fHammers.length C_c)]⟩]) ht_142 () trivial (by kernel_rfl) [0] (by kernel_rfl) (by kernel_rfl) ?_
    rintro ⟨s_5, i_6⟩ _ y_130 _ h
    rw [impl_FrameText.l_7] at h
    refine jc_seq (jc_region (qh [0] (qe (jx_then (jc_seq (qi h (fun h => ?_) (fun h => ?_)))))))
    ·refine jc_skip (jx_then (jc_seq (jc_block (jc_seq (jc_region ?_)))))
     obtain ⟨x_9, hx_133, h⟩ := bd h
     refine tO (qx 0 C_a 2 hx_133 rfl (C_h.sp hx_133) (jkO (tO (ql 0 true (fun w hm => ((hm.xr C_h).at hx_133)) (jkO (tO (qa 0 (fun b_134 => jkO (tO (qs 0 [1] (jkO (qe (jx_then (qg [⟨some b_1, 27, [(.int .i16 f0.fSteps), (.slice C_a f0.fHammers.length C_c)]⟩, ⟨some b_134, 66, [(.int .i8 x_9.fPitch), (.int .i8 x_9.fReady)]⟩] 14 (qd [⟨0, 0, 0⟩,⟨1, 0, 0⟩,⟨2, 1, 0⟩,⟨3, 0, 0⟩,⟨7, 0, 0⟩,⟨8, 1, 0⟩,⟨9, 0, 0⟩] 7 [0, 1] ?_)))))))))))))))
     obtain ⟨t_10, ht_135, h⟩ := bd h
     refine tD 4 (pc 0 (fun w hm => impl_PitchName.calls (w64 x_9.fPitch) w _ (g_pw.keep hm) ht_135) ?_)
     rintro w v w' hm ⟨rfl, hm'⟩
     refine ⟨_, hm.app hm', kD [0, 1] ?_⟩
     clear hm hm'
     obtain ⟨hg_136, h⟩ := gd h
     refine qv 5 0 [0, 1] (fun w hm => cat_run (a := (ByteArray.mk #[32])) (b := t_10) (by kernel_rfl) hg_136) ?_
     obtain ⟨hg_137, h⟩ := gd h
     refine qv 6 0 [0, 1] (fun w hm => cat_run (a := ((ByteArray.mk #[32]) ++ t_10)) (b := (ByteArray.mk #[47])) (by kernel_rfl) hg_137) ?_
     obtain ⟨t_11, ht_138, h⟩ := bd h
     refine tD 10 (pc 0 (fun w hm => impl_decimal.calls (w64 x_9.fReady) w _ (g_pw.keep hm) ht_138) ?_)
     rintro w v w' hm ⟨rfl, hm'⟩
     refine ⟨_, hm.app hm', kD [0, 1] ?_⟩
     clear hm hm'
     obtain ⟨hg_139, h⟩ := gd h
     refine qv 11 0 [0, 1] (fun w hm => cat_run (a := (((ByteArray.mk #[32]) ++ t_10) ++ (ByteArray.mk #[47]))) (b := t_11) (by kernel_rfl) hg_139) ?_
     obtain ⟨hg_140, h⟩ := gd h
     exact qv 12 0 [0, 1] (fun w hm => cat_run (a := s_5) (b := ((((ByteArray.mk #[32]) ++ t_10) ++ (ByteArray.mk #[47])) ++ t_11)) (by kernel_rfl) hg_140) (qd [⟨13, 0, 0⟩] 0 [0, 1] (qz (jx_inn (jx_then (jc_region (qh [0,0] (qe (qb ((s_5 ++ ((((ByteArray.mk #[32]) ++ t_10) ++ (ByteArray.mk #[47])) ++ t_11)), (w64 (i_6 + 1))) () h trivial [0]))))))))
    ·refine jc_exit (jx_thenx (jx_leave s_5 (Option.some.inj h).symm (fun e_141 => ?_)))
     subst e_141
     exact jx_ine (qm s_5 hr_129 [0])
   ·rintro s_3 h
    replace h : impl_FrameText.k_4 s_3 = some r := h
    rw [impl_FrameText.k_4] at h
    refine jx_then (jc_seq (jc_region (qh [0,0] (qe (jx_then (jc_ret ?_))))))
    obtain rfl := Option.some.inj h
    exact qr [] (fun w hm => ⟨rfl, hm.pk []⟩)
/-! ### spec.Decimal -/
def spec_Decimal.step (self_ : Int → Option (ByteArray)) (n0 : Int) : Option (ByteArray) := (if (decide (n0 < 10)) = true then some (ByteArray.empty.push (UInt8.ofNat (u8 (w64 (48 + (Int.tmod n0 10)))).toNat)) else (self_ (w64 (Int.tdiv n0 10))).bind fun t_1 => (if t_1.size + (ByteArray.empty.push (UInt8.ofNat (u8 (w64 (48 + (Int.tmod n0 10)))).toNat)).size ≤ 9223372036854775807 then some (t_1 ++ (ByteArray.empty.push (UInt8.ofNat (u8 (w64 (48 + (Int.tmod n0 10)))).toNat))) else none))
def spec_Decimal.rec_ : Nat → Int → Option (ByteArray)
  | 0 => fun n0 => none
  | fu + 1 => spec_Decimal.step (spec_Decimal.rec_ fu)
def spec_Decimal (n0 : Int) : Option (ByteArray) := spec_Decimal.rec_ 20 n0
theorem spec_Decimal.step_calls (self_ : Int → Option (ByteArray)) (hself : ∀ (n0 : Int) (w : World) (r : ByteArray) (h : self_ n0 = some r),
    Calls Tryz.prog 104 #[(.int .i64 n0)] w fun e w' => ∃ v, e = .returned v ∧ (v = (.string r) ∧ Mem w [] [] w')) (n0 : Int) (w : World) (r : ByteArray) (h : spec_Decimal.step self_ n0 = some r) :
    Calls Tryz.prog 104 #[(.int .i64 n0)] w fun e w' => ∃ v, e = .returned v ∧ (v = (.string r) ∧ Mem w [] [] w') := by
  rw [spec_Decimal.step] at h
  refine enter (args := [(.int .i64 n0)]) Tryz.func104 rfl Tryz.ntmps104 (by kernel_rfl) (L := []) (W := []) (Mem.start w) ?_
  refine jc_seq (jc_region (qh [0] (qe (jx_then (jc_seq (jc_seq (jc_region (qh [0,0] (qe (jx_then (qi h (fun h => ?_) (fun h => ?_))))))))))))
  ·refine jc_seq (jc_region (qh [0,0,0,0] (tO (qa 0 (fun b_4 => jkO (tO (qs 0 [0] (jkO (qh [0] (qe (jx_then (jc_ret (jx_thenr ?_)))))))))))))
   obtain rfl := Option.some.inj h
   exact qr [] (fun w hm => ⟨rfl, hm.pk []⟩)
  ·refine jc_skip (jx_then (jc_seq (qg [] 11 (qd [⟨0, 0, 0⟩,⟨1, 0, 0⟩,⟨3, 0, 0⟩,⟨4, 0, 0⟩,⟨5, 0, 0⟩,⟨6, 0, 0⟩] 5 [] (toD2 2 7 (by kernel_rfl) ?_ ?_)))))
   ·obtain ⟨t_1, ht_5, h⟩ := bd h
    refine pc 0 (fun w hm => hself (w64 (Int.tdiv n0 10)) w _ ht_5) ?_
    rintro w v w' hm ⟨rfl, hm'⟩
    refine ⟨_, hm.app hm', kD [] ?_⟩
    clear hm hm'
    refine tD 7 (qa 0 (fun b_6 => kD [] (tD 8 (qs 0 [0] (kD [] ?_)))))
    obtain ⟨hg_7, h⟩ := gd h
    refine qv 9 0 [] (fun w hm => cat_run (a := t_1) (b := (ByteArray.empty.push (UInt8.ofNat (u8 (w64 (48 + (Int.tmod n0 10)))).toNat))) (by kernel_rfl) hg_7) (qd [⟨10, 0, 0⟩] 0 [] (qz (jx_then (jc_ret ?_))))
    obtain rfl := Option.some.inj h
    exact qr [] (fun w hm => ⟨rfl, hm.pk []⟩)
   ·refine qa 0 (fun b_8 => kD [] (toD2 2 8 (by kernel_rfl) ?_ ?_))
    ·obtain ⟨t_1, ht_9, h⟩ := bd h
     refine pc 0 (fun w hm => hself (w64 (Int.tdiv n0 10)) w _ ht_9) ?_
     rintro w v w' hm ⟨rfl, hm'⟩
     refine ⟨_, hm.app hm', kD [] ?_⟩
     clear hm hm'
     refine tD 8 (qs 0 [0] (kD [] ?_))
     obtain ⟨hg_10, h⟩ := gd h
     refine qv 9 0 [] (fun w hm => cat_run (a := t_1) (b := (ByteArray.empty.push (UInt8.ofNat (u8 (w64 (48 + (Int.tmod n0 10)))).toNat))) (by kernel_rfl) hg_10) (qd [⟨10, 0, 0⟩] 0 [] (qz (jx_then (jc_ret ?_))))
     obtain rfl := Option.some.inj h
     exact qr [] (fun w hm => ⟨rfl, hm.pk []⟩)
    ·refine qs 0 [0] (kD [] ?_)
     obtain ⟨t_1, ht_11, h⟩ := bd h
     refine tD 2 (pc 0 (fun w hm => hself (w64 (Int.tdiv n0 10)) w _ ht_11) ?_)
     rintro w v w' hm ⟨rfl, hm'⟩
     refine ⟨_, hm.app hm', kD [] ?_⟩
     clear hm hm'
     obtain ⟨hg_12, h⟩ := gd h
     refine qv 9 0 [] (fun w hm => cat_run (a := t_1) (b := (ByteArray.empty.push (UInt8.ofNat (u8 (w64 (48 + (Int.tmod n0 10)))).toNat))) (by kernel_rfl) hg_12) (qd [⟨10, 0, 0⟩] 0 [] (qz (jx_then (jc_ret ?_))))
     obtain rfl := Option.some.inj h
     exact qr [] (fun w hm => ⟨rfl, hm.pk []⟩)
theorem spec_Decimal.rec_calls (fu : Nat) : ∀ (n0 : Int) (w : World) (r : ByteArray) (h : spec_Decimal.rec_ fu n0 = some r),
    Calls Tryz.prog 104 #[(.int .i64 n0)] w fun e w' => ∃ v, e = .returned v ∧ (v = (.string r) ∧ Mem w [] [] w') := by
  induction fu with
  | zero => intros; rename_i h; cases h
  | succ fu ih => exact @spec_Decimal.step_calls _ (spec_Decimal.rec_ fu) @ih
theorem spec_Decimal.calls (n0 : Int) (w : World) (r : ByteArray) (h : spec_Decimal n0 = some r) :
    Calls Tryz.prog 104 #[(.int .i64 n0)] w fun e w' => ∃ v, e = .returned v ∧ (v = (.string r) ∧ Mem w [] [] w') :=
  spec_Decimal.rec_calls 20 n0 w r h
/-! ### spec.l01Name -/
def spec_l01Name (pitch0 : Int) : Option (ByteArray) := (ix ([(ByteArray.mk #[99]), (ByteArray.mk #[99, 35]), (ByteArray.mk #[100]), (ByteArray.mk #[100, 35]), (ByteArray.mk #[101]), (ByteArray.mk #[102]), (ByteArray.mk #[102, 35]), (ByteArray.mk #[103]), (ByteArray.mk #[103, 35]), (ByteArray.mk #[97]), (ByteArray.mk #[97, 35]), (ByteArray.mk #[98])] : List ByteArray) (Int.tmod pitch0 12)).bind fun x_1 => (spec_Decimal (w64 (Int.tdiv pitch0 12))).bind fun t_2 => (if x_1.size + t_2.size ≤ 9223372036854775807 then some (x_1 ++ t_2) else none)
theorem spec_l01Name.calls (pitch0 : Int) (w : World) (r : ByteArray) (h : spec_l01Name pitch0 = some r) :
    Calls Tryz.prog 105 #[(.int .i64 pitch0)] w fun e w' => ∃ v, e = .returned v ∧ (v = (.string r) ∧ Mem w [] [] w') := by
  rw [spec_l01Name] at h
  refine enter (args := [(.int .i64 pitch0)]) Tryz.func105 rfl Tryz.ntmps105 (by kernel_rfl) (L := []) (W := []) (Mem.start w) ?_
  refine jc_seq (jc_region (qh [0] (qe (jx_then (jc_seq (jc_region (tO (qa 0 (fun b_1 => jkO (qh [0] (qe (jx_then (jc_seq (qg [⟨(some b_1), 9, row encStr ([(ByteArray.mk #[99]), (ByteArray.mk #[99, 35]), (ByteArray.mk #[100]), (ByteArray.mk #[100, 35]), (ByteArray.mk #[101]), (ByteArray.mk #[102]), (ByteArray.mk #[102, 35]), (ByteArray.mk #[103]), (ByteArray.mk #[103, 35]), (ByteArray.mk #[97]), (ByteArray.mk #[97, 35]), (ByteArray.mk #[98])] : List ByteArray) []⟩] 10 (qd [⟨0, 0, 0⟩,⟨1, 0, 0⟩,⟨2, 0, 0⟩,⟨5, 0, 0⟩,⟨6, 0, 0⟩] 5 [0] ?_)))))))))))))))
  obtain ⟨x_1, hx_2, h⟩ := bd h
  refine qv 3 0 [0] (fun w hm => idx_run (a := (some ⟨b_1, 0, none⟩)) (len := 12) (s := 1) (j := (Int.tmod pitch0 12)) (by kernel_rfl) (ix_some hx_2).1 (ltn hx_2 rfl) rfl) (qv 4 0 [0] (fun w hm => ld_run (b := aB (some ⟨b_1, 0, none⟩)) (off := (aO (some ⟨b_1, 0, none⟩) + (Int.tmod pitch0 12).toNat * 1)) (s := 1) (agg := false) (vs := (encStr x_1)) (by kernel_rfl) (by kernel_rfl) (.inr rfl) ((hm.ow 0 (some b_1) 9 ([(ByteArray.mk #[99]), (ByteArray.mk #[99, 35]), (ByteArray.mk #[100]), (ByteArray.mk #[100, 35]), (ByteArray.mk #[101]), (ByteArray.mk #[102]), (ByteArray.mk #[102, 35]), (ByteArray.mk #[103]), (ByteArray.mk #[103, 35]), (ByteArray.mk #[97]), (ByteArray.mk #[97, 35]), (ByteArray.mk #[98])] : List ByteArray) [] (fun e => nomatch e) encStr_len).at hx_2)) ?_)
  obtain ⟨t_2, ht_3, h⟩ := bd h
  refine tD 7 (pc 0 (fun w hm => spec_Decimal.calls (w64 (Int.tdiv pitch0 12)) w _ ht_3) ?_)
  rintro w v w' hm ⟨rfl, hm'⟩
  refine ⟨_, hm.app hm', kD [0] ?_⟩
  clear hm hm'
  obtain ⟨hg_4, h⟩ := gd h
  refine qv 8 0 [0] (fun w hm => cat_run (a := x_1) (b := t_2) (by kernel_rfl) hg_4) (qd [⟨9, 0, 0⟩] 0 [0] (qz (jx_then (jc_ret ?_))))
  obtain rfl := Option.some.inj h
  exact qr [] (fun w hm => ⟨rfl, hm.pk []⟩)
/-! ### spec.l02Text -/
def spec_l02Text.k_3 (s_2 : ByteArray) : Option (ByteArray) := some s_2
def spec_l02Text.l_6 (f0 : GFrame) : (ByteArray × Int) → Option ((ByteArray × Int) ⊕ (ByteArray))
  | (s_4, i_5) => (if (decide (i_5 < (f0.fHammers.length : Int))) = true then (ix f0.fHammers i_5).bind fun x_8 => (ix f0.fHammers i_5).bind fun x_9 => (spec_l01Name (w64 x_8.fPitch)).bind fun t_10 => (if (ByteArray.mk #[32]).size + t_10.size ≤ 9223372036854775807 then (if ((ByteArray.mk #[32]) ++ t_10).size + (ByteArray.mk #[47]).size ≤ 9223372036854775807 then (spec_Decimal (w64 x_9.fReady)).bind fun t_11 => (if (((ByteArray.mk #[32]) ++ t_10) ++ (ByteArray.mk #[47])).size + t_11.size ≤ 9223372036854775807 then (if s_4.size + ((((ByteArray.mk #[32]) ++ t_10) ++ (ByteArray.mk #[47])) ++ t_11).size ≤ 9223372036854775807 then some (.inl ((s_4 ++ ((((ByteArray.mk #[32]) ++ t_10) ++ (ByteArray.mk #[47])) ++ t_11)), (w64 (i_5 + 1)))) else none) else none) else none) else none) else some (.inr s_4))
def spec_l02Text (f0 : GFrame) : Option (ByteArray) := (spec_Decimal (w64 f0.fSteps)).bind fun t_1 => (loop (spec_l02Text.l_6 f0) (t_1, 0)).bind fun t_7 => spec_l02Text.k_3 t_7
theorem spec_l02Text.calls (f0 : GFrame) (w : World) (r : ByteArray) {C_a : Option Addr} {C_an : Nat} (C_c : Nat) (C_h : Rw w C_a 2 encGHammer f0.fHammers) (C_hn : f0.fHammers.length = C_an) (A_b : Nat) (hm0 : Mem w (bs [some A_b]) [⟨some A_b, 27, [(.int .i16 f0.fSteps), (.slice C_a C_an C_c)]⟩] w) (C_ha : f0.fHammers ≠ [] → aB C_a ∉ bs [some A_b]) (h : spec_l02Text f0 = some r) :
    Calls Tryz.prog 64 #[(.pointer (some ⟨A_b, 0, none⟩))] w fun e w' => ∃ v, e = .returned v ∧ (v = (.string r) ∧ Mem w (bs [some A_b]) [⟨some A_b, 27, [(.int .i16 f0.fSteps), (.slice C_a C_an C_c)]⟩] w') := by
  subst C_hn
  rw [spec_l02Text] at h
  refine enter (args := [(.pointer (some ⟨A_b, 0, none⟩))]) Tryz.func64 rfl Tryz.ntmps64 (by kernel_rfl) (L := [⟨some A_b, 27, [(.int .i16 f0.fSteps), (.slice C_a f0.fHammers.length C_c)]⟩]) (W := bs [some A_b]) hm0 ?_
  refine jc_seq (jc_region (qh [0] (qe (jx_then (jc_seq (jc_region (qh [0,0,0,0,0] ?_)))))))
  obtain ⟨t_1, ht_1, h⟩ := bd h
  refine tO (pc 0 (fun w hm => spec_Decimal.calls (w64 f0.fSteps) w _ ht_1) ?_)
  rintro w v w' hm ⟨rfl, hm'⟩
  refine ⟨_, hm.app hm', jkO ?_⟩
  clear hm hm'
  refine qh [0] (qe (jx_then (jc_seq (jc_seq (jc_region (qh [0] (qe (jx_then (jc_meet (fun (j : ByteArray) => match j with | s_2 => spec_l02Text.k_3 s_2 = some r) (fun (j : ByteArray) => match j with | s_2 => [(2, [], (.string (ByteArray.mk #[]))), (3, [], (.string s_2))]) (fun (j : ByteArray) => match j with | s_2 => [⟨some A_b, 27, [(.int .i16 f0.fSteps), (.slice C_a f0.fHammers.length C_c)]⟩]) ?_ ?_)))))))))
  ·refine jc_block ?_
   obtain ⟨t_7, ht_137, hr_124⟩ := bd h
   refine jc_loop (fun (s : ByteArray × Int) (x : Unit) => match s, x with | ⟨s_4, i_5⟩, _ => True) (fun (s : ByteArray × Int) (x : Unit) => match s, x with | ⟨s_4, i_5⟩, _ => [(0, [], (.pointer (some ⟨A_b, 0, none⟩))), (2, [], (.string (ByteArray.mk #[]))), (3, [], (.string s_4)), (4, [], (.int .i64 i_5))]) (fun (s : ByteArray × Int) (x : Unit) => match s, x with | ⟨s_4, i_5⟩, _ => [⟨some A_b, 27, [(.int .i16 f0.fSteps), (.slice C_a f0.fHammers.length C_c)]⟩]) ht_137 () trivial (by kernel_rfl) [0] (by kernel_rfl) (by kernel_rfl) ?_
   rintro ⟨s_4, i_5⟩ _ y_125 _ h
   rw [spec_l02Text.l_6] at h
   refine jc_seq (jc_seq (jc_region (qh [0,0,0,0,0,0,0] (qe (jx_then (qi h (fun h => ?_) (fun h => ?_)))))))
   ·refine jc_skip (jx_then (jc_seq (jc_block (qg [⟨some A_b, 27, [(.int .i16 f0.fSteps), (.slice C_a f0.fHammers.length C_c)]⟩] 26 (qd [⟨0, 0, 0⟩,⟨1, 0, 0⟩,⟨2, 0, 0⟩,⟨3, 0, 0⟩,⟨4, 0, 0⟩,⟨5, 0, 0⟩,⟨13, 0, 0⟩,⟨14, 0, 0⟩,⟨15, 0, 0⟩,⟨16, 0, 0⟩,⟨17, 0, 0⟩] 15 [0] ?_)))))
    obtain ⟨x_8, hx_128, h⟩ := bd h
    refine qv 6 0 [0] (fun w hm => idx_run (a := C_a) (len := f0.fHammers.length) (s := 2) (j := i_5) (by kernel_rfl) (ix_some hx_128).1 (ltn hx_128 rfl) (C_h.sp hx_128)) (qd [⟨7, 0, 0⟩] 13 [0] (qv 8 0 [0] (fun w hm => ld_run (b := aB C_a) (off := (aO C_a + i_5.toNat * 2)) (s := 1) (agg := false) (vs := (((encGHammer x_8).drop 0).take 1)) (by kernel_rfl) (by kernel_rfl) (.inr rfl) (((hm.exRowW C_h C_ha).at hx_128).sub 0 1)) (qd [⟨9, 0, 0⟩] 11 [0] ?_)))
    obtain ⟨x_9, hx_129, h⟩ := bd h
    refine qv 18 0 [0] (fun w hm => idx_run (a := C_a) (len := f0.fHammers.length) (s := 2) (j := i_5) (by kernel_rfl) (ix_some hx_129).1 (ltn hx_129 rfl) (C_h.sp hx_129)) (qd [⟨19, 0, 0⟩] 9 [0] (qv 20 0 [0] (fun w hm => ld_run (b := aB C_a) (off := (aO C_a + i_5.toNat * 2 + 1)) (s := 1) (agg := false) (vs := (((encGHammer x_9).drop 1).take 1)) (by kernel_rfl) (by kernel_rfl) (.inr rfl) (((hm.exRowW C_h C_ha).at hx_129).sub 1 1)) (qd [⟨21, 0, 0⟩] 7 [0] ?_)))
    obtain ⟨t_10, ht_130, h⟩ := bd h
    refine tD 10 (pc 0 (fun w hm => spec_l01Name.calls (w64 x_8.fPitch) w _ ht_130) ?_)
    rintro w v w' hm ⟨rfl, hm'⟩
    refine ⟨_, hm.app hm', kD [0] ?_⟩
    clear hm hm'
    obtain ⟨hg_131, h⟩ := gd h
    refine qv 11 0 [0] (fun w hm => cat_run (a := (ByteArray.mk #[32])) (b := t_10) (by kernel_rfl) hg_131) ?_
    obtain ⟨hg_132, h⟩ := gd h
    refine qv 12 0 [0] (fun w hm => cat_run (a := ((ByteArray.mk #[32]) ++ t_10)) (b := (ByteArray.mk #[47])) (by kernel_rfl) hg_132) ?_
    obtain ⟨t_11, ht_133, h⟩ := bd h
    refine tD 22 (pc 0 (fun w hm => spec_Decimal.calls (w64 x_9.fReady) w _ ht_133) ?_)
    rintro w v w' hm ⟨rfl, hm'⟩
    refine ⟨_, hm.app hm', kD [0] ?_⟩
    clear hm hm'
    obtain ⟨hg_134, h⟩ := gd h
    refine qv 23 0 [0] (fun w hm => cat_run (a := (((ByteArray.mk #[32]) ++ t_10) ++ (ByteArray.mk #[47]))) (b := t_11) (by kernel_rfl) hg_134) ?_
    obtain ⟨hg_135, h⟩ := gd h
    exact qv 24 0 [0] (fun w hm => cat_run (a := s_4) (b := ((((ByteArray.mk #[32]) ++ t_10) ++ (ByteArray.mk #[47])) ++ t_11)) (by kernel_rfl) hg_135) (qd [⟨25, 0, 0⟩] 0 [0] (qz (jx_inn (jx_then (jc_region (qh [0,0,0] (qe (qb ((s_4 ++ ((((ByteArray.mk #[32]) ++ t_10) ++ (ByteArray.mk #[47])) ++ t_11)), (w64 (i_5 + 1))) () h trivial [0]))))))))
   ·refine jc_exit (jx_thenx (jx_leave s_4 (Option.some.inj h).symm (fun e_136 => ?_)))
    subst e_136
    exact jx_ine (qm s_4 hr_124 [0])
  ·rintro s_2 h
   replace h : spec_l02Text.k_3 s_2 = some r := h
   rw [spec_l02Text.k_3] at h
   refine jx_then (jc_seq (jc_region (qh [0,0] (qe (jx_then (jc_ret ?_))))))
   obtain rfl := Option.some.inj h
   exact qr [] (fun w hm => ⟨rfl, hm.pk [0]⟩)
/-! ### spec.FrameText -/
def spec_FrameText (f0 : GFrame) : Option (ByteArray) := (spec_l02Frame f0).bind fun t_1 => (if (!t_1) = true then some (ByteArray.mk #[]) else (spec_l02Text f0).bind fun t_2 => some t_2)
theorem spec_FrameText.calls (f0 : GFrame) (w : World) (r : ByteArray) {C_a : Option Addr} {C_an : Nat} (C_c : Nat) (C_h : Rw w C_a 2 encGHammer f0.fHammers) (C_hn : f0.fHammers.length = C_an) (h : spec_FrameText f0 = some r) :
    Calls Tryz.prog 24 #[(.agg #[(.int .i16 f0.fSteps), (.slice C_a C_an C_c)])] w fun e w' => ∃ v, e = .returned v ∧ (v = (.string r) ∧ Mem w [] [] w') := by
  subst C_hn
  rw [spec_FrameText] at h
  refine enter (args := [(.agg #[(.int .i16 f0.fSteps), (.slice C_a f0.fHammers.length C_c)])]) Tryz.func24 rfl Tryz.ntmps24 (by kernel_rfl) (L := []) (W := []) (Mem.start w) ?_
  refine jc_seq (jc_region (tO (qa 0 (fun b_1 => jkO (qh [0] (qe (jx_then (jc_seq (jc_seq (jc_region ?_))))))))))
  obtain ⟨t_1, ht_4, h⟩ := bd h
  refine tO (pc 0 (fun w hm => spec_l02Frame.calls f0 w _ C_c (hm.xr C_h) rfl b_1 (hm.pass (N := [⟨some b_1, 27, [(.int .i16 f0.fSteps), (.slice C_a f0.fHammers.length C_c)]⟩]) [0] (by kernel_rfl) (by kernel_rfl)) (hm.exApart (N := [⟨some b_1, 27, [(.int .i16 f0.fSteps), (.slice C_a f0.fHammers.length C_c)]⟩]) C_h (fun _ => List.not_mem_nil) [0] (by kernel_rfl)) ht_4) ?_)
  rintro w v w' hm ⟨rfl, hm'⟩
  refine ⟨_, hm.appW (ps := [(0, ⟨some b_1, 27, [(.int .i16 f0.fSteps), (.slice C_a f0.fHammers.length C_c)]⟩)]) (N := []) hm' (by kernel_rfl) (by kernel_rfl), jkO ?_⟩
  clear hm hm'
  refine qh [0] (qe (jx_then (qi h (fun h => ?_) (fun h => ?_))))
  ·refine jc_seq (jc_region (qh [0] (qe (jx_then (jc_ret (jx_thenr ?_))))))
   obtain rfl := Option.some.inj h
   exact qr [] (fun w hm => ⟨rfl, hm.pk []⟩)
  ·refine jc_skip (jx_then (jc_seq (jc_region ?_)))
   obtain ⟨t_2, ht_6, h⟩ := bd h
   refine tO (pc 0 (fun w hm => spec_l02Text.calls f0 w _ C_c (hm.xr C_h) rfl b_1 (hm.pass (N := [⟨some b_1, 27, [(.int .i16 f0.fSteps), (.slice C_a f0.fHammers.length C_c)]⟩]) [0] (by kernel_rfl) (by kernel_rfl)) (hm.exApart (N := [⟨some b_1, 27, [(.int .i16 f0.fSteps), (.slice C_a f0.fHammers.length C_c)]⟩]) C_h (fun _ => List.not_mem_nil) [0] (by kernel_rfl)) ht_6) ?_)
   rintro w v w' hm ⟨rfl, hm'⟩
   refine ⟨_, hm.appW (ps := [(0, ⟨some b_1, 27, [(.int .i16 f0.fSteps), (.slice C_a f0.fHammers.length C_c)]⟩)]) (N := []) hm' (by kernel_rfl) (by kernel_rfl), jkO ?_⟩
   clear hm hm'
   refine qh [0] (qe (jx_then (jc_ret ?_)))
   obtain rfl := Option.some.inj h
   exact qr [] (fun w hm => ⟨rfl, hm.pk []⟩)
/-! ### impl.checked -/
def impl_checked (t0 : List GNote) (code1 : Int) : Option ((List GNote) × Int) := (impl_ValidTune t0).bind fun t_1 => (if (!t_1) = true then some ([], code1) else some (t0, 0))
theorem impl_checked.calls (t0 : List GNote) (code1 : Int) (w : World) (r : (List GNote) × Int) (A_o : Option Nat) {A_on : Nat} {A_c : Nat} {A_sp : List Value} (A_hn : t0.length = A_on) (A_hs : A_o ≠ none → A_on ≤ A_c ∧ A_sp.length = (A_c - A_on) * 2) (A_ho : A_o = none → t0 = [] ∧ A_c = 0) (hm0 : Mem w (bs [A_o]) [⟨A_o, 68, row encGNote t0 A_sp⟩] w) (h : impl_checked t0 code1 = some r) :
    Calls Tryz.prog 65 #[(.slice (A_o.map fun b => ⟨b, 0, none⟩) A_on A_c), (.int .i64 code1)] w fun e w' => ∃ v, e = .returned v ∧ (∃ (o0 : Option Nat) (c0 : Nat) (s0 : List Value) (n0 : Nat), r.1.length = n0 ∧ (o0 ≠ none → n0 ≤ c0 ∧ s0.length = (c0 - n0) * 2) ∧ (o0 = none → r.1 = [] ∧ c0 = 0) ∧ v = .tuple #[.slice (o0.map fun b => ⟨b, 0, none⟩) n0 c0, (.int .i64 r.2)] ∧ Mem w (bs [A_o]) [⟨o0, 68, row encGNote r.1 s0⟩] w') := by
  subst A_hn
  rw [impl_checked] at h
  refine enter (args := [(.slice (A_o.map fun b => ⟨b, 0, none⟩) t0.length A_c), (.int .i64 code1)]) Tryz.func65 rfl Tryz.ntmps65 (by kernel_rfl) (L := [⟨A_o, 68, row encGNote t0 A_sp⟩]) (W := bs [A_o]) hm0 ?_
  refine jc_seq (jc_region (qh [0,0] (qe (jx_then (jc_seq (jc_seq (jc_region (qh [0] ?_))))))))
  obtain ⟨t_1, ht_3, h⟩ := bd h
  refine tO (pc 0 (fun w hm => impl_ValidTune.calls t0 w _ A_c (hm.ow 0 A_o 68 t0 A_sp (fun e => (A_ho e).1) encGNote_len) rfl ht_3) ?_)
  rintro w v w' hm ⟨rfl, hm'⟩
  refine ⟨_, hm.app hm', jkO ?_⟩
  clear hm hm'
  refine qh [0] (qe (jx_then (qi h (fun h => ?_) (fun h => ?_))))
  ·refine jc_seq (jc_region (qh [0,0,0] (qe (jx_then (jc_ret (jx_thenr ?_))))))
   obtain rfl := Option.some.inj h
   exact jx_ghost 68 encGNote (qr [] (fun w hm => ⟨none, 0, [], 0, rfl, (fun e => absurd rfl e), (fun _ => ⟨rfl, rfl⟩), rfl, hm.pk [1]⟩))
  ·refine jc_skip (jx_then (jc_seq (jc_region (qh [0,0,0] (qe (jx_then (jc_ret ?_)))))))
   obtain rfl := Option.some.inj h
   exact qr [] (fun w hm => ⟨A_o, A_c, A_sp, t0.length, rfl, A_hs, A_ho, rfl, hm.pk [0]⟩)
/-! ### impl.TuneOf -/
def impl_TuneOf (f0 : GFrame) (d1 : Arr 96 Int) : Option ((List GNote) × Int) := (impl_drumCode f0 ([d1] : List (Arr 96 Int))).bind fun t_1 => (if (t_1 != 0) = true then some ([], t_1) else (impl_Frame_played f0 d1 0 (w64 f0.fSteps)).bind fun t_2 => (impl_checked t_2 3).bind fun t_3 => some (t_3.1, t_3.2))
theorem impl_TuneOf.calls (f0 : GFrame) (d1 : Arr 96 Int) (w : World) (r : (List GNote) × Int) {C_a : Option Addr} {C_an : Nat} (C_c : Nat) (C_h : Rw w C_a 2 encGHammer f0.fHammers) (C_hn : f0.fHammers.length = C_an) (h : impl_TuneOf f0 d1 = some r) :
    Calls Tryz.prog 25 #[(.agg #[(.int .i16 f0.fSteps), (.slice C_a C_an C_c)]), (.agg (row encU32 d1.1 []).toArray)] w fun e w' => ∃ v, e = .returned v ∧ (∃ (o0 : Option Nat) (c0 : Nat) (s0 : List Value) (n0 : Nat), r.1.length = n0 ∧ (o0 ≠ none → n0 ≤ c0 ∧ s0.length = (c0 - n0) * 2) ∧ (o0 = none → r.1 = [] ∧ c0 = 0) ∧ v = .tuple #[.slice (o0.map fun b => ⟨b, 0, none⟩) n0 c0, (.int .i64 r.2)] ∧ Mem w [] [⟨o0, 68, row encGNote r.1 s0⟩] w') := by
  subst C_hn
  rw [impl_TuneOf] at h
  refine enter (args := [(.agg #[(.int .i16 f0.fSteps), (.slice C_a f0.fHammers.length C_c)]), (.agg (row encU32 d1.1 []).toArray)]) Tryz.func25 rfl Tryz.ntmps25 (by kernel_rfl) (L := []) (W := []) (Mem.start w) ?_
  refine jc_seq (jc_region (tO (qa 0 (fun b_1 => jkO (tO (qa 0 (fun b_2 => jkO (qh [0,0] (qe (jx_then (jc_seq (jc_seq (jc_region (qh [0] (tO (p_ldA 0 1 b_2 96 1 34 encU32 d1 (by kernel_rfl) (by kernel_rfl) (by kernel_rfl) encU32_len (by kernel_rfl) (jkO (tO (p_bs 0 34 96 1 encA96U32 [(.agg (row encU32 d1.1 []).toArray)] [d1] (by kernel_rfl) (by kernel_rfl) rfl (by kernel_rfl) (by kernel_rfl) encA96U32_len (fun b_6 => jkO ?_))))))))))))))))))))
  obtain ⟨t_1, ht_7, h⟩ := bd h
  refine tO (pc 0 (fun w hm => impl_drumCode.calls f0 ([d1] : List (Arr 96 Int)) w _ C_c (hm.xr C_h) rfl 1 (hm.ow 2 (some b_6) 34 ([d1] : List (Arr 96 Int)) [] (fun e => nomatch e) encA96U32_len) rfl ht_7) ?_)
  rintro w v w' hm ⟨rfl, hm'⟩
  refine ⟨_, hm.app hm', jkO ?_⟩
  clear hm hm'
  refine qh [0] (qe (jx_then (jc_seq (jc_region (qh [0,0] (qe (jx_then (qi h (fun h => ?_) (fun h => ?_)))))))))
  ·refine jc_seq (jc_region (qh [0,0,0] (qe (jx_then (jc_ret (jx_thenr ?_))))))
   obtain rfl := Option.some.inj h
   exact jx_ghost 68 encGNote (qr [] (fun w hm => ⟨none, 0, [], 0, rfl, (fun e => absurd rfl e), (fun _ => ⟨rfl, rfl⟩), rfl, hm.pk [3]⟩))
  ·refine jc_skip (jx_then (jc_seq (jc_region (qh [0] (tO (p_ldA 0 1 b_2 96 1 34 encU32 d1 (by kernel_rfl) (by kernel_rfl) (by kernel_rfl) encU32_len (by kernel_rfl) (jkO (qh [0,0,0] ?_))))))))
   obtain ⟨t_2, ht_9, h⟩ := bd h
   refine tO (pc 0 (fun w hm => impl_Frame_played.calls f0 d1 0 (w64 f0.fSteps) w _ C_c (hm.xr C_h) rfl ht_9) ?_)
   rintro w v w' hm ⟨o_10, cap_11, sp_12, _, rfl, hs_13, ho_14, rfl, hm'⟩
   refine ⟨_, hm.app hm', jkO ?_⟩
   clear hm hm'
   obtain ⟨t_3, ht_15, h⟩ := bd h
   refine tO (pc 0 (fun w hm => impl_checked.calls t_2 3 w _ o_10 rfl hs_13 ho_14 (hm.pass (N := [⟨o_10, 68, row encGNote t_2 sp_12⟩]) [3] (by kernel_rfl) (by kernel_rfl)) ht_15) ?_)
   rintro w v w' hm ⟨o_16, cap_17, sp_18, _, rfl, hs_19, ho_20, rfl, hm'⟩
   refine ⟨_, hm.appP (ps := []) (ds := [3]) (N := [⟨o_16, 68, row encGNote t_3.1 sp_18⟩]) hm' [0] (by kernel_rfl) (by kernel_rfl) (by kernel_rfl), jkO ?_⟩
   clear hm hm'
   refine qh [0,0,0,0] (qe (jx_then (jc_ret ?_)))
   obtain rfl := Option.some.inj h
   exact qr [] (fun w hm => ⟨o_16, cap_17, sp_18, t_3.1.length, rfl, hs_19, ho_20, rfl, hm.pk [4]⟩)
/-! ### spec.l01Same -/
def spec_l01Same.k_1 : Option (Bool) := some true
def spec_l01Same.l_3 (a0 : List GNote) (b1 : List GNote) : Int → Option ((Int) ⊕ (Bool ⊕ Unit))
  | i_2 => (if (decide (i_2 < (a0.length : Int))) = true then (ix a0 i_2).bind fun x_5 => (ix b1 i_2).bind fun x_6 => (if (!((x_5.fAt == x_6.fAt) && (x_5.fPitch == x_6.fPitch))) = true then some (.inr (.inl false)) else some (.inl (w64 (i_2 + 1)))) else some (.inr (.inr ())))
def spec_l01Same (a0 : List GNote) (b1 : List GNote) : Option (Bool) := (if ((a0.length : Int) != (b1.length : Int)) = true then some false else (loop (spec_l01Same.l_3 a0 b1) 0).bind fun t_4 => match t_4 with | .inl p => some p | .inr p => spec_l01Same.k_1)
theorem spec_l01Same.calls (a0 : List GNote) (b1 : List GNote) (w : World) (r : Bool) {A_a : Option Addr} {A_an : Nat} (A_c : Nat) (A_h : Rw w A_a 2 encGNote a0) (A_hn : a0.length = A_an) {B_a : Option Addr} {B_an : Nat} (B_c : Nat) (B_h : Rw w B_a 2 encGNote b1) (B_hn : b1.length = B_an) (h : spec_l01Same a0 b1 = some r) :
    Calls Tryz.prog 67 #[(.slice A_a A_an A_c), (.slice B_a B_an B_c)] w fun e w' => ∃ v, e = .returned v ∧ (v = (.bool r) ∧ Mem w [] [] w') := by
  subst A_hn B_hn
  rw [spec_l01Same] at h
  refine enter (args := [(.slice A_a a0.length A_c), (.slice B_a b1.length B_c)]) Tryz.func67 rfl Tryz.ntmps67 (by kernel_rfl) (L := []) (W := []) (Mem.start w) ?_
  refine jc_seq (jc_region (qh [0] (qe (jx_then (jc_seq (jc_seq (jc_region (qh [0,0,0,0,0] (qe (jx_then (qi h (fun h => ?_) (fun h => ?_))))))))))))
  ·refine jc_seq (jc_region (qh [0] (qe (jx_then (jc_ret (jx_thenr ?_))))))
   obtain rfl := Option.some.inj h
   exact qr [] (fun w hm => ⟨rfl, hm.pk []⟩)
  ·refine jc_skip (jx_then (jc_seq (jc_seq (jc_region (qh [0] (qe (jx_then (jc_meet (fun (_ : Unit) => spec_l01Same.k_1 = some r) (fun (_ : Unit) => [(4, [], (.bool false))]) (fun (_ : Unit) => []) ?_ ?_))))))))
   ·refine jc_block ?_
    obtain ⟨t_4, ht_42, hr_33⟩ := bd h
    refine jc_loop (fun (s : Int) (x : Unit) => match s, x with | i_2, _ => True) (fun (s : Int) (x : Unit) => match s, x with | i_2, _ => [(0, [], (.slice A_a a0.length A_c)), (1, [], (.slice B_a b1.length B_c)), (4, [], (.bool false)), (5, [], (.int .i64 i_2))]) (fun (s : Int) (x : Unit) => match s, x with | i_2, _ => []) ht_42 () trivial (by kernel_rfl) [] (by kernel_rfl) (by kernel_rfl) ?_
    rintro i_2 _ y_34 _ h
    rw [spec_l01Same.l_3] at h
    refine jc_seq (jc_seq (jc_region (qh [0,0,0,0] (qe (jx_then (qi h (fun h => ?_) (fun h => ?_)))))))
    ·refine jc_skip (jx_then (jc_seq (jc_block (jc_seq (qg [] 9 (qd [⟨0, 0, 0⟩,⟨1, 0, 0⟩,⟨4, 0, 0⟩,⟨5, 0, 0⟩] 5 [] ?_))))))
     obtain ⟨x_5, hx_37, h⟩ := bd h
     refine qv 2 0 [] (fun w hm => idx_run (a := A_a) (len := a0.length) (s := 2) (j := i_2) (by kernel_rfl) (ix_some hx_37).1 (ltn hx_37 rfl) (A_h.sp hx_37)) (qv 3 0 [] (fun w hm => ld_run (b := aB A_a) (off := (aO A_a + i_2.toNat * 2)) (s := 2) (agg := true) (vs := (encGNote x_5)) (by kernel_rfl) (by kernel_rfl) (.inl rfl) ((hm.xr A_h).at hx_37)) ?_)
     obtain ⟨x_6, hx_38, h⟩ := bd h
     refine qv 6 0 [] (fun w hm => idx_run (a := B_a) (len := b1.length) (s := 2) (j := i_2) (by kernel_rfl) (ix_some hx_38).1 (ltn hx_38 rfl) (B_h.sp hx_38)) (qv 7 0 [] (fun w hm => ld_run (b := aB B_a) (off := (aO B_a + i_2.toNat * 2)) (s := 2) (agg := true) (vs := (encGNote x_6)) (by kernel_rfl) (by kernel_rfl) (.inl rfl) ((hm.xr B_h).at hx_38)) (qd [⟨8, 0, 0⟩] 0 [] (qz (jx_then (qi h (fun h => ?_) (fun h => ?_))))))
     ·refine jc_seq (jc_region (qh [0] (qe (jx_then (jc_ret (jx_inr (jx_thenr (jx_leaver (.inl false) (Option.some.inj h).symm (fun e_40 => ?_)))))))))
      subst e_40
      refine jx_inr (jx_thenr (jx_thenr ?_))
      obtain rfl := Option.some.inj hr_33
      exact qr [] (fun w hm => ⟨rfl, hm.pk []⟩)
     ·exact jc_skip (jx_inn (jx_then (jc_region (qh [0,0,0] (qe (qb (w64 (i_2 + 1)) () h trivial []))))))
    ·refine jc_exit (jx_thenx (jx_leave (.inr ()) (Option.some.inj h).symm (fun e_41 => ?_)))
     subst e_41
     exact jx_ine (qm () hr_33 [])
   ·rintro _ h
    replace h : spec_l01Same.k_1 = some r := h
    rw [spec_l01Same.k_1] at h
    refine jx_then (jc_seq (jc_region (qh [0] (qe (jx_then (jc_ret ?_))))))
    obtain rfl := Option.some.inj h
    exact qr [] (fun w hm => ⟨rfl, hm.pk []⟩)
/-! ### spec.SameTune -/
def spec_SameTune (a0 : List GNote) (b1 : List GNote) : Option (Bool) := (spec_l01Same a0 b1).bind fun t_1 => some t_1
theorem spec_SameTune.calls (a0 : List GNote) (b1 : List GNote) (w : World) (r : Bool) {A_a : Option Addr} {A_an : Nat} (A_c : Nat) (A_h : Rw w A_a 2 encGNote a0) (A_hn : a0.length = A_an) {B_a : Option Addr} {B_an : Nat} (B_c : Nat) (B_h : Rw w B_a 2 encGNote b1) (B_hn : b1.length = B_an) (h : spec_SameTune a0 b1 = some r) :
    Calls Tryz.prog 26 #[(.slice A_a A_an A_c), (.slice B_a B_an B_c)] w fun e w' => ∃ v, e = .returned v ∧ (v = (.bool r) ∧ Mem w [] [] w') := by
  subst A_hn B_hn
  rw [spec_SameTune] at h
  refine enter (args := [(.slice A_a a0.length A_c), (.slice B_a b1.length B_c)]) Tryz.func26 rfl Tryz.ntmps26 (by kernel_rfl) (L := []) (W := []) (Mem.start w) ?_
  refine jc_seq (jc_region (qh [0] (qe (jx_then (jc_seq (jc_region (qh [0,0] ?_)))))))
  obtain ⟨t_1, ht_1, h⟩ := bd h
  refine tO (pc 0 (fun w hm => spec_l01Same.calls a0 b1 w _ A_c (hm.xr A_h) rfl B_c (hm.xr B_h) rfl ht_1) ?_)
  rintro w v w' hm ⟨rfl, hm'⟩
  refine ⟨_, hm.app hm', jkO ?_⟩
  clear hm hm'
  refine qh [0] (qe (jx_then (jc_ret ?_)))
  obtain rfl := Option.some.inj h
  exact qr [] (fun w hm => ⟨rfl, hm.pk []⟩)
/-! ### laws.FnRepinned -/
def laws_FnRepinned.k_16 : Option (Bool) := some true
def laws_FnRepinned.k_27 (i_17 : Int) (q_26 : Bool) : Option ((Int) ⊕ (Bool ⊕ Unit)) := (if q_26 = true then some (.inr (.inl false)) else some (.inl (w64 (i_17 + 1))))
def laws_FnRepinned.k_23 (t_3 : GFrame) (t_5 : (Arr 96 Int)) (i_17 : Int) (t_20 : GFrame × (Arr 96 Int) × Int) (t_21 : GFrame × (Arr 96 Int) × Int) (q_22 : Bool) : Option ((Int) ⊕ (Bool ⊕ Unit)) := (if q_22 = true then some (.inr (.inl false)) else (if (t_20.2.2 == 0) = true then (impl_TuneOf t_3 t_5).bind fun t_24 => (impl_TuneOf t_21.1 t_21.2.1).bind fun t_25 => (if (t_24.2 != t_25.2) = true then laws_FnRepinned.k_27 i_17 true else (spec_SameTune t_24.1 t_25.1).bind fun t_28 => laws_FnRepinned.k_27 i_17 (!t_28)) else some (.inl (w64 (i_17 + 1)))))
def laws_FnRepinned.l_18 (t_3 : GFrame) (t_5 : (Arr 96 Int)) (t_12 : (List Int) × Int) (t_13 : (List Int) × Int) : Int → Option ((Int) ⊕ (Bool ⊕ Unit))
  | i_17 => (if (decide (i_17 < (t_3.fHammers.length : Int))) = true then (impl_WithoutTrack t_3 t_5 i_17).bind fun t_20 => (spec_WithoutTrack t_3 t_5 i_17).bind fun t_21 => (ix t_13.1 i_17).bind fun x_29 => (spec_HasNumber t_12.1 i_17).bind fun t_30 => (if ((t_30 != (x_29 == 0)) || (t_20.2.2 != t_21.2.2)) = true then laws_FnRepinned.k_23 t_3 t_5 i_17 t_20 t_21 true else (impl_FrameText t_20.1).bind fun t_31 => (spec_FrameText t_21.1).bind fun t_32 => (if (!(t_31.toList == t_32.toList)) = true then laws_FnRepinned.k_23 t_3 t_5 i_17 t_20 t_21 true else (if (!(t_20.2.1.1 == t_21.2.1.1)) = true then laws_FnRepinned.k_23 t_3 t_5 i_17 t_20 t_21 true else (ix t_13.1 i_17).bind fun x_33 => laws_FnRepinned.k_23 t_3 t_5 i_17 t_20 t_21 ((t_20.2.2 == 0) != ((x_33 == 0) && (decide ((t_3.fHammers.length : Int) > 1))))))) else some (.inr (.inr ())))
def laws_FnRepinned.k_15 (t_3 : GFrame) (t_5 : (Arr 96 Int)) (t_12 : (List Int) × Int) (t_13 : (List Int) × Int) (q_14 : Bool) : Option (Bool) := (if q_14 = true then some false else (loop (laws_FnRepinned.l_18 t_3 t_5 t_12 t_13) 0).bind fun t_19 => match t_19 with | .inl p => some p | .inr p => laws_FnRepinned.k_16)
def laws_FnRepinned.k_10 (t_3 : GFrame) (t_5 : (Arr 96 Int)) : Option (Bool) := (impl_SpareTracks t_3 t_5).bind fun t_11 => (spec_SpareTracks t_3 t_5).bind fun t_12 => (impl_PinsByTrack t_3 t_5).bind fun t_13 => (if ((t_11.2 != t_12.2) || (t_11.2 != 0)) = true then laws_FnRepinned.k_15 t_3 t_5 t_12 t_13 true else (spec_SameNumbers t_11.1 t_12.1).bind fun t_34 => laws_FnRepinned.k_15 t_3 t_5 t_12 t_13 (((!t_34) || (t_13.2 != 0)) || ((t_13.1.length : Int) != (t_3.fHammers.length : Int))))
def laws_FnRepinned.k_45 (t_3 : GFrame) (t_5 : (Arr 96 Int)) (q_44 : Bool) : Option (Bool) := (if q_44 = true then some false else laws_FnRepinned.k_10 t_3 t_5)
def laws_FnRepinned.k_42 (t_3 : GFrame) (t_4 : (List GNote)) (t_5 : (Arr 96 Int)) (t_7 : (Arr 96 Int) × Int × Int × Int) (q_41 : Bool) : Option (Bool) := (if q_41 = true then some false else (impl_PinLike t_3 t_7.1 t_4 20000).bind fun t_43 => (if (t_43.2.2.2 == 0) = true then laws_FnRepinned.k_45 t_3 t_5 ((!(t_43.1.1 == t_7.1.1)) || (t_43.2.1 != 0)) else laws_FnRepinned.k_45 t_3 t_5 false))
def laws_FnRepinned.k_9 (t_3 : GFrame) (t_4 : (List GNote)) (t_5 : (Arr 96 Int)) (t_6 : (Arr 96 Int) × Int × Int × Int) (t_7 : (Arr 96 Int) × Int × Int × Int) (q_8 : Bool) : Option (Bool) := (if q_8 = true then some false else (if (t_6.2.2.2 == 0) = true then (impl_CheckPinning t_3 t_4 t_7.1).bind fun t_35 => (impl_MovesBetween t_3 t_5 t_7.1).bind fun t_36 => (spec_MovesBetween t_3 t_5 t_7.1).bind fun t_37 => (impl_ApplyMoves t_3 t_5 t_37.1 t_37.2.1).bind fun t_38 => (spec_PinTune t_3 t_4 20000).bind fun t_39 => (spec_MovesBetween t_3 t_5 t_39.1).bind fun t_40 => (if ((((t_35.2 != 0) || (!t_35.1)) || (t_36.2.2 != t_37.2.2)) || (t_36.2.2 != 0)) = true then laws_FnRepinned.k_42 t_3 t_4 t_5 t_7 true else (spec_SameSpots t_36.1 t_37.1).bind fun t_46 => (if (!t_46) = true then laws_FnRepinned.k_42 t_3 t_4 t_5 t_7 true else (spec_SameSpots t_36.2.1 t_37.2.1).bind fun t_47 => (if ((!t_47) || (t_38.2 != 0)) = true then laws_FnRepinned.k_42 t_3 t_4 t_5 t_7 true else (if ((!(t_38.1.1 == t_7.1.1)) || ((t_37.2.1.length : Int) != t_7.2.1)) = true then laws_FnRepinned.k_42 t_3 t_4 t_5 t_7 true else (if (t_39.2.2 == 0) = true then laws_FnRepinned.k_42 t_3 t_4 t_5 t_7 ((t_40.2.2 != 0) || (decide ((t_40.2.1.length : Int) < t_7.2.1))) else laws_FnRepinned.k_42 t_3 t_4 t_5 t_7 false))))) else laws_FnRepinned.k_10 t_3 t_5))
def laws_FnRepinned.k_2 (code0 : List Int) (more1 : List Int) (q_1 : Bool) : Option (Bool) := (if q_1 = true then some true else (spec_P6Frame code0).bind fun t_3 => (spec_P6Tune more1 t_3 6).bind fun t_4 => (spec_P6Drum more1 t_3).bind fun t_5 => (impl_PinLike t_3 t_5 t_4 20000).bind fun t_6 => (spec_PinLike t_3 t_5 t_4 20000).bind fun t_7 => (if (t_6.2.2.2 != t_7.2.2.2) = true then laws_FnRepinned.k_9 t_3 t_4 t_5 t_6 t_7 true else (if (((!(t_6.1.1 == t_7.1.1)) || (t_6.2.1 != t_7.2.1)) || (t_6.2.2.1 != t_7.2.2.1)) = true then laws_FnRepinned.k_9 t_3 t_4 t_5 t_6 t_7 true else laws_FnRepinned.k_9 t_3 t_4 t_5 t_6 t_7 (((t_6.2.2.2 != 0) && (t_6.2.2.2 != 6)) && (t_6.2.2.2 != 7)))))
def laws_FnRepinned (code0 : List Int) (more1 : List Int) : Option (Bool) := (laws_f6big code0).bind fun t_48 => (if t_48 = true then laws_FnRepinned.k_2 code0 more1 true else (laws_f6big more1).bind fun t_49 => laws_FnRepinned.k_2 code0 more1 t_49)
set_option maxHeartbeats 8000000 in
theorem laws_FnRepinned.calls (code0 : List Int) (more1 : List Int) (w : World) (r : Bool) (g_pw : Glpw w) {A_a : Option Addr} {A_an : Nat} (A_c : Nat) (A_h : Rw w A_a 1 encU8 code0) (A_hn : code0.length = A_an) {B_a : Option Addr} {B_an : Nat} (B_c : Nat) (B_h : Rw w B_a 1 encU8 more1) (B_hn : more1.length = B_an) (h : laws_FnRepinned code0 more1 = some r) :
    Calls Tryz.prog 3 #[(.slice A_a A_an A_c), (.slice B_a B_an B_c)] w fun e w' => ∃ v, e = .returned v ∧ (v = (.bool r) ∧ Mem w [] [] w') := by
  subst A_hn B_hn
  rw [laws_FnRepinned] at h
  refine enter (args := [(.slice A_a code0.length A_c), (.slice B_a more1.length B_c)]) Tryz.func3 rfl Tryz.ntmps3 (by kernel_rfl) (L := []) (W := []) (Mem.start w) ?_
  refine jc_seq (jc_region (qh [0] (qe (jx_then (jc_seq (jc_seq (jc_meet (fun (j : Bool) => match j with | q_1 => laws_FnRepinned.k_2 code0 more1 q_1 = some r) (fun (j : Bool) => match j with | q_1 => [(0, [], (.slice A_a code0.length A_c)), (1, [], (.slice B_a more1.length B_c)), (4, [], (.bool false)), (58, [], (.bool q_1))]) (fun (j : Bool) => match j with | q_1 => []) ?_ ?_)))))))
  ·refine jc_region (qh [0] ?_)
   obtain ⟨t_48, ht_649, h⟩ := bd h
   refine tO (pc 0 (fun w hm => laws_f6big.calls code0 w _ A_c (hm.xr A_h) rfl ht_649) ?_)
   rintro w v w' hm ⟨rfl, hm'⟩
   refine ⟨_, hm.app hm', jkO ?_⟩
   clear hm hm'
   refine qf [(0, 0), (0, 1)] (qp 55 h (fun h => ?_) (fun h => ?_))
   ·exact qf [(0, 3), (0, 4)] (qe (qm true h []))
   ·obtain ⟨t_49, ht_651, h⟩ := bd h
    refine tO (pc 2 (fun w hm => laws_f6big.calls more1 w _ B_c (hm.xr B_h) rfl ht_651) ?_)
    rintro w v w' hm ⟨rfl, hm'⟩
    refine ⟨_, hm.app hm', jkO ?_⟩
    clear hm hm'
    exact qf [(0, 5)] (qe (qm t_49 h []))
  ·rintro q_1 h
   replace h : laws_FnRepinned.k_2 code0 more1 q_1 = some r := h
   rw [laws_FnRepinned.k_2] at h
   refine jx_then (qi h (fun h => ?_) (fun h => ?_))
   ·refine jc_seq (jc_region (qh [0] (qe (jx_then (jc_ret (jx_thenr ?_))))))
    obtain rfl := Option.some.inj h
    exact qr [] (fun w hm => ⟨rfl, hm.pk []⟩)
   ·refine jc_skip (jx_then (jc_seq (jc_region (qh [0] ?_))))
    obtain ⟨t_3, ht_12, h⟩ := bd h
    refine tO (pc 0 (fun w hm => spec_P6Frame.calls code0 w _ A_c (hm.xr A_h) rfl ht_12) ?_)
    rintro w v w' hm ⟨o_13, cap_14, sp_15, _, rfl, hs_16, ho_17, rfl, hm'⟩
    refine ⟨_, hm.app hm', jkO ?_⟩
    clear hm hm'
    refine tO (qa 0 (fun b_18 => jkO (tO (qs 0 [1] (jkO (qe (jx_then (jc_seq (jc_region (qh [0,1] ?_))))))))))
    obtain ⟨t_4, ht_19, h⟩ := bd h
    refine tO (pc 0 (fun w hm => spec_P6Tune.calls more1 t_3 6 w _ B_c (hm.xr B_h) rfl cap_14 (hm.ow 0 o_13 66 t_3.fHammers sp_15 (fun e => (ho_17 e).1) encGHammer_len) rfl ht_19) ?_)
    rintro w v w' hm ⟨o_20, cap_21, sp_22, _, rfl, hs_23, ho_24, rfl, hm'⟩
    refine ⟨_, hm.app hm', jkO ?_⟩
    clear hm hm'
    refine qh [0] (qe (jx_then (jc_seq (jc_region (qh [0,1] ?_)))))
    obtain ⟨t_5, ht_25, h⟩ := bd h
    refine tO (pc 0 (fun w hm => spec_P6Drum.calls more1 t_3 w _ B_c (hm.xr B_h) rfl cap_14 (hm.ow 0 o_13 66 t_3.fHammers sp_15 (fun e => (ho_17 e).1) encGHammer_len) rfl ht_25) ?_)
    rintro w v w' hm ⟨rfl, hm'⟩
    refine ⟨_, hm.app hm', jkO ?_⟩
    clear hm hm'
    refine tO (qa 0 (fun b_26 => jkO (tO (p_sA 0 3 b_26 96 1 34 encU32 (Arr.rep 96 0) t_5 (by kernel_rfl) (by kernel_rfl) (by kernel_rfl) encU32_len encU32_cell (by kernel_rfl) (jkO (qe (jx_then (jc_seq (jc_region (qh [1] (tO (p_ldA 0 3 b_26 96 1 34 encU32 t_5 (by kernel_rfl) (by kernel_rfl) (by kernel_rfl) encU32_len (by kernel_rfl) (jkO (qh [0] ?_))))))))))))))
    obtain ⟨t_6, ht_27, h⟩ := bd h
    refine tO (pc 0 (fun w hm => impl_PinLike.calls t_3 t_5 t_4 20000 w _ cap_14 (hm.ow 0 o_13 66 t_3.fHammers sp_15 (fun e => (ho_17 e).1) encGHammer_len) rfl cap_21 (hm.ow 2 o_20 68 t_4 sp_22 (fun e => (ho_24 e).1) encGNote_len) rfl ht_27) ?_)
    rintro w v w' hm ⟨rfl, hm'⟩
    refine ⟨_, hm.app hm', jkO ?_⟩
    clear hm hm'
    refine qh [0,0,0,0,0] (tO (qa 0 (fun b_28 => jkO (tO (p_sA 0 4 b_28 96 1 34 encU32 (Arr.rep 96 0) t_6.1 (by kernel_rfl) (by kernel_rfl) (by kernel_rfl) encU32_len encU32_cell (by kernel_rfl) (jkO (qh [0,0,0] (qe (jx_then (jc_seq (jc_region (qh [1] (tO (p_ldA 0 3 b_26 96 1 34 encU32 t_5 (by kernel_rfl) (by kernel_rfl) (by kernel_rfl) encU32_len (by kernel_rfl) (jkO (qh [0] ?_))))))))))))))))
    obtain ⟨t_7, ht_29, h⟩ := bd h
    refine tO (pc 0 (fun w hm => spec_PinLike.calls t_3 t_5 t_4 20000 w _ cap_14 (hm.ow 0 o_13 66 t_3.fHammers sp_15 (fun e => (ho_17 e).1) encGHammer_len) rfl cap_21 (hm.ow 2 o_20 68 t_4 sp_22 (fun e => (ho_24 e).1) encGNote_len) rfl ht_29) ?_)
    rintro w v w' hm ⟨rfl, hm'⟩
    refine ⟨_, hm.app hm', jkO ?_⟩
    clear hm hm'
    refine qh [0,0,0,0,0] (tO (qa 0 (fun b_30 => jkO (tO (p_sA 0 5 b_30 96 1 34 encU32 (Arr.rep 96 0) t_7.1 (by kernel_rfl) (by kernel_rfl) (by kernel_rfl) encU32_len encU32_cell (by kernel_rfl) (jkO (qh [0,0,0] (qe (jx_then (jc_seq (jc_seq (jc_meet (fun (j : Bool) => match j with | q_8 => laws_FnRepinned.k_9 t_3 t_4 t_5 t_6 t_7 q_8 = some r) (fun (j : Bool) => match j with | q_8 => [(4, [], (.bool false)), (5, [], (.pointer (some ⟨b_18, 0, none⟩))), (6, [], (.slice (o_20.map fun b => ⟨b, 0, none⟩) t_4.length cap_21)), (7, [], (.pointer (some ⟨b_26, 0, none⟩))), (11, [], (.int .i64 t_6.2.2.2)), (12, [], (.pointer (some ⟨b_30, 0, none⟩))), (13, [], (.int .i64 t_7.2.1)), (114, [], (.bool q_8))]) (fun (j : Bool) => match j with | q_8 => [⟨o_13, 66, row encGHammer t_3.fHammers sp_15⟩, ⟨some b_18, 27, [(.int .i16 t_3.fSteps), (.slice (o_13.map fun b => ⟨b, 0, none⟩) t_3.fHammers.length cap_14)]⟩, ⟨o_20, 68, row encGNote t_4 sp_22⟩, ⟨(some b_26), 34, row encU32 t_5.1 []⟩, ⟨(some b_28), 34, row encU32 t_6.1.1 []⟩, ⟨(some b_30), 34, row encU32 t_7.1.1 []⟩]) ?_ ?_))))))))))))
    ·refine jc_region (qh [0,0,0,0] (qp 88 h (fun h => ?_) (fun h => ?_)))
     ·exact qf [(0, 3), (0, 3), (0, 3), (0, 4), (0, 0), (0, 3), (0, 3), (0, 3), (0, 4), (0, 0), (0, 3), (0, 3), (0, 3), (0, 4), (0, 0), (0, 3), (0, 3), (0, 3), (0, 3), (0, 3), (0, 3), (0, 3), (0, 3), (0, 3), (0, 3), (0, 4)] (qe (qm true h [0, 1, 2, 3, 4, 5]))
     ·refine tO (p_ldA 2 4 b_28 96 1 34 encU32 t_6.1 (by kernel_rfl) (by kernel_rfl) (by kernel_rfl) encU32_len (by kernel_rfl) (jkO (tO (p_ldA 2 5 b_30 96 1 34 encU32 t_7.1 (by kernel_rfl) (by kernel_rfl) (by kernel_rfl) encU32_len (by kernel_rfl) (jkO (tO (p_eqA 2 true 34 32 96 .u32 encU32 t_6.1 t_7.1 (by kernel_rfl) (by kernel_rfl) Tryz.underlying34 Tryz.underlying32 (fun w => Tryz.sizeOf32 w) (fun w => Tryz.isAgg32 w) (fun _ => rfl) (!(t_6.1.1 == t_7.1.1)) rfl (jkO (qf [(0, 5), (0, 0), (0, 1), (0, 1), (0, 1), (0, 0), (0, 0), (0, 1), (0, 1), (0, 1), (0, 0), (0, 0), (0, 1), (0, 1)] (qp 103 h (fun h => ?_) (fun h => ?_)))))))))))
      ·exact qf [(0, 3), (0, 3), (0, 3), (0, 3), (0, 3), (0, 3), (0, 3), (0, 3), (0, 4)] (qe (qm true h [0, 1, 2, 3, 4, 5]))
      ·exact qf [(0, 2), (0, 1), (0, 1), (0, 2), (0, 2), (0, 1), (0, 1), (0, 2), (0, 5)] (qe (qm (((t_6.2.2.2 != 0) && (t_6.2.2.2 != 6)) && (t_6.2.2.2 != 7)) h [0, 1, 2, 3, 4, 5]))
    ·rintro q_8 h
     replace h : laws_FnRepinned.k_9 t_3 t_4 t_5 t_6 t_7 q_8 = some r := h
     rw [laws_FnRepinned.k_9] at h
     refine jx_then (qi h (fun h => ?_) (fun h => ?_))
     ·refine jc_seq (jc_region (qh [0] (qe (jx_then (jc_ret (jx_thenr ?_))))))
      obtain rfl := Option.some.inj h
      exact qr [] (fun w hm => ⟨rfl, hm.pk []⟩)
     ·refine jc_skip (jx_then (jc_seq (jc_meet (fun (_ : Unit) => laws_FnRepinned.k_10 t_3 t_5 = some r) (fun (_ : Unit) => [(4, [], (.bool false)), (5, [], (.pointer (some ⟨b_18, 0, none⟩))), (7, [], (.pointer (some ⟨b_26, 0, none⟩)))]) (fun (_ : Unit) => [⟨o_13, 66, row encGHammer t_3.fHammers sp_15⟩, ⟨some b_18, 27, [(.int .i16 t_3.fSteps), (.slice (o_13.map fun b => ⟨b, 0, none⟩) t_3.fHammers.length cap_14)]⟩, ⟨o_20, 68, row encGNote t_4 sp_22⟩, ⟨(some b_26), 34, row encU32 t_5.1 []⟩, ⟨(some b_28), 34, row encU32 t_6.1.1 []⟩, ⟨(some b_30), 34, row encU32 t_7.1.1 []⟩]) ?_ ?_)))
      ·refine jc_seq (jc_region (qh [0,0] (qe (jx_then (qi h (fun h => ?_) (fun h => ?_))))))
       ·refine jc_seq (jc_region (qh [1,0] (tO (p_ldA 0 5 b_30 96 1 34 encU32 t_7.1 (by kernel_rfl) (by kernel_rfl) (by kernel_rfl) encU32_len (by kernel_rfl) (jkO ?_)))))
        obtain ⟨t_35, ht_574, h⟩ := bd h
        refine tO (pc 0 (fun w hm => impl_CheckPinning.calls t_3 t_4 t_7.1 w _ cap_14 (hm.ow 0 o_13 66 t_3.fHammers sp_15 (fun e => (ho_17 e).1) encGHammer_len) rfl cap_21 (hm.ow 2 o_20 68 t_4 sp_22 (fun e => (ho_24 e).1) encGNote_len) rfl ht_574) ?_)
        rintro w v w' hm ⟨rfl, hm'⟩
        refine ⟨_, hm.app hm', jkO ?_⟩
        clear hm hm'
        refine qh [0,0,0,0,0] (qe (jx_then (jc_seq (jc_region (qh [1] (tO (p_ldA 0 3 b_26 96 1 34 encU32 t_5 (by kernel_rfl) (by kernel_rfl) (by kernel_rfl) encU32_len (by kernel_rfl) (jkO (tO (p_ldA 0 5 b_30 96 1 34 encU32 t_7.1 (by kernel_rfl) (by kernel_rfl) (by kernel_rfl) encU32_len (by kernel_rfl) (jkO ?_)))))))))))
        obtain ⟨t_36, ht_575, h⟩ := bd h
        refine tO (pc 0 (fun w hm => impl_MovesBetween.calls t_3 t_5 t_7.1 w _ cap_14 (hm.ow 0 o_13 66 t_3.fHammers sp_15 (fun e => (ho_17 e).1) encGHammer_len) rfl ht_575) ?_)
        rintro w v w' hm ⟨o_576, cap_577, sp_578, _, rfl, hs_579, ho_580, o_581, cap_582, sp_583, _, rfl, hs_584, ho_585, rfl, hm'⟩
        refine ⟨_, hm.app hm', jkO ?_⟩
        clear hm hm'
        refine qh [0,0,0,0,0,0,0] (qe (jx_then (jc_seq (jc_region (qh [1] (tO (p_ldA 0 3 b_26 96 1 34 encU32 t_5 (by kernel_rfl) (by kernel_rfl) (by kernel_rfl) encU32_len (by kernel_rfl) (jkO (tO (p_ldA 0 5 b_30 96 1 34 encU32 t_7.1 (by kernel_rfl) (by kernel_rfl) (by kernel_rfl) encU32_len (by kernel_rfl) (jkO ?_)))))))))))
        obtain ⟨t_37, ht_586, h⟩ := bd h
        refine tO (pc 0 (fun w hm => spec_MovesBetween.calls t_3 t_5 t_7.1 w _ cap_14 (hm.ow 0 o_13 66 t_3.fHammers sp_15 (fun e => (ho_17 e).1) encGHammer_len) rfl ht_586) ?_)
        rintro w v w' hm ⟨o_587, cap_588, sp_589, _, rfl, hs_590, ho_591, o_592, cap_593, sp_594, _, rfl, hs_595, ho_596, rfl, hm'⟩
        refine ⟨_, hm.app hm', jkO ?_⟩
        clear hm hm'
        refine qh [0,0,0,0,0,0,0] (qe (jx_then (jc_seq (jc_region (qh [1] (tO (p_ldA 0 3 b_26 96 1 34 encU32 t_5 (by kernel_rfl) (by kernel_rfl) (by kernel_rfl) encU32_len (by kernel_rfl) (jkO (qh [0,0] ?_)))))))))
        obtain ⟨t_38, ht_597, h⟩ := bd h
        refine tO (pc 0 (fun w hm => impl_ApplyMoves.calls t_3 t_5 t_37.1 t_37.2.1 w _ cap_14 (hm.ow 0 o_13 66 t_3.fHammers sp_15 (fun e => (ho_17 e).1) encGHammer_len) rfl cap_588 (hm.ow 8 o_587 94 t_37.1 sp_589 (fun e => (ho_591 e).1) encA2I64_len) rfl cap_593 (hm.ow 9 o_592 94 t_37.2.1 sp_594 (fun e => (ho_596 e).1) encA2I64_len) rfl ht_597) ?_)
        rintro w v w' hm ⟨rfl, hm'⟩
        refine ⟨_, hm.app hm', jkO ?_⟩
        clear hm hm'
        refine qh [0,0,0] (tO (qa 0 (fun b_598 => jkO (tO (p_sA 0 10 b_598 96 1 34 encU32 (Arr.rep 96 0) t_38.1 (by kernel_rfl) (by kernel_rfl) (by kernel_rfl) encU32_len encU32_cell (by kernel_rfl) (jkO (qh [0] (qe (jx_then (jc_seq (jc_region (qh [1,0] ?_))))))))))))
        obtain ⟨t_39, ht_599, h⟩ := bd h
        refine tO (pc 0 (fun w hm => spec_PinTune.calls t_3 t_4 20000 w _ cap_14 (hm.ow 0 o_13 66 t_3.fHammers sp_15 (fun e => (ho_17 e).1) encGHammer_len) rfl cap_21 (hm.ow 2 o_20 68 t_4 sp_22 (fun e => (ho_24 e).1) encGNote_len) rfl ht_599) ?_)
        rintro w v w' hm ⟨rfl, hm'⟩
        refine ⟨_, hm.app hm', jkO ?_⟩
        clear hm hm'
        refine qh [0,0,0,0] (tO (qa 0 (fun b_600 => jkO (tO (p_sA 0 11 b_600 96 1 34 encU32 (Arr.rep 96 0) t_39.1 (by kernel_rfl) (by kernel_rfl) (by kernel_rfl) encU32_len encU32_cell (by kernel_rfl) (jkO (qh [0,0] (qe (jx_then (jc_seq (jc_region (qh [1] (tO (p_ldA 0 3 b_26 96 1 34 encU32 t_5 (by kernel_rfl) (by kernel_rfl) (by kernel_rfl) encU32_len (by kernel_rfl) (jkO (tO (p_ldA 0 11 b_600 96 1 34 encU32 t_39.1 (by kernel_rfl) (by kernel_rfl) (by kernel_rfl) encU32_len (by kernel_rfl) (jkO ?_))))))))))))))))))
        obtain ⟨t_40, ht_601, h⟩ := bd h
        refine tO (pc 0 (fun w hm => spec_MovesBetween.calls t_3 t_5 t_39.1 w _ cap_14 (hm.ow 0 o_13 66 t_3.fHammers sp_15 (fun e => (ho_17 e).1) encGHammer_len) rfl ht_601) ?_)
        rintro w v w' hm ⟨o_602, cap_603, sp_604, _, rfl, hs_605, ho_606, o_607, cap_608, sp_609, _, rfl, hs_610, ho_611, rfl, hm'⟩
        refine ⟨_, hm.app hm', jkO ?_⟩
        clear hm hm'
        refine qh [0,0,0,0,0,0,0] (qe (jx_then (jc_seq (jc_seq (jc_meet (fun (j : Bool) => match j with | q_41 => laws_FnRepinned.k_42 t_3 t_4 t_5 t_7 q_41 = some r) (fun (j : Bool) => match j with | q_41 => [(4, [], (.bool false)), (5, [], (.pointer (some ⟨b_18, 0, none⟩))), (6, [], (.slice (o_20.map fun b => ⟨b, 0, none⟩) t_4.length cap_21)), (7, [], (.pointer (some ⟨b_26, 0, none⟩))), (12, [], (.pointer (some ⟨b_30, 0, none⟩))), (218, [], (.bool q_41))]) (fun (j : Bool) => match j with | q_41 => [⟨o_13, 66, row encGHammer t_3.fHammers sp_15⟩, ⟨some b_18, 27, [(.int .i16 t_3.fSteps), (.slice (o_13.map fun b => ⟨b, 0, none⟩) t_3.fHammers.length cap_14)]⟩, ⟨o_20, 68, row encGNote t_4 sp_22⟩, ⟨(some b_26), 34, row encU32 t_5.1 []⟩, ⟨(some b_28), 34, row encU32 t_6.1.1 []⟩, ⟨(some b_30), 34, row encU32 t_7.1.1 []⟩, ⟨o_576, 94, row encA2I64 t_36.1 sp_578⟩, ⟨o_581, 94, row encA2I64 t_36.2.1 sp_583⟩, ⟨o_587, 94, row encA2I64 t_37.1 sp_589⟩, ⟨o_592, 94, row encA2I64 t_37.2.1 sp_594⟩, ⟨(some b_598), 34, row encU32 t_38.1.1 []⟩, ⟨(some b_600), 34, row encU32 t_39.1.1 []⟩, ⟨o_602, 94, row encA2I64 t_40.1 sp_604⟩, ⟨o_607, 94, row encA2I64 t_40.2.1 sp_609⟩]) ?_ ?_)))))
        ·refine jc_region (qf [(0, 0), (0, 0), (0, 0), (0, 1), (0, 1), (0, 0), (0, 0), (0, 1), (0, 1), (0, 1), (0, 0), (0, 0), (0, 1), (0, 1), (0, 0), (0, 0), (0, 1), (0, 1)] (qp 178 h (fun h => ?_) (fun h => ?_)))
         ·exact qf [(0, 3), (0, 3), (0, 4), (0, 0), (0, 3), (0, 3), (0, 3), (0, 3), (0, 4), (0, 0), (0, 3), (0, 3), (0, 4), (0, 0), (0, 3), (0, 3), (0, 3), (0, 4), (0, 0), (0, 3), (0, 3), (0, 3), (0, 3), (0, 4), (0, 0), (0, 3), (0, 3), (0, 3), (0, 3), (0, 3), (0, 3), (0, 3), (0, 3), (0, 3), (0, 3), (0, 3), (0, 3), (0, 4)] (qe (qm true h [0, 1, 2, 3, 4, 5, 6, 7, 8, 9, 10, 11, 12, 13]))
         ·obtain ⟨t_46, ht_641, h⟩ := bd h
          refine tO (pc 2 (fun w hm => spec_SameSpots.calls t_36.1 t_37.1 w _ cap_577 (hm.ow 6 o_576 94 t_36.1 sp_578 (fun e => (ho_580 e).1) encA2I64_len) rfl cap_588 (hm.ow 8 o_587 94 t_37.1 sp_589 (fun e => (ho_591 e).1) encA2I64_len) rfl ht_641) ?_)
          rintro w v w' hm ⟨rfl, hm'⟩
          refine ⟨_, hm.app hm', jkO ?_⟩
          clear hm hm'
          refine qf [(0, 2), (0, 5), (0, 0), (0, 1), (0, 1)] (qp 184 h (fun h => ?_) (fun h => ?_))
          ·exact qf [(0, 3), (0, 3), (0, 4), (0, 0), (0, 3), (0, 3), (0, 4), (0, 0), (0, 3), (0, 3), (0, 3), (0, 4), (0, 0), (0, 3), (0, 3), (0, 3), (0, 3), (0, 4), (0, 0), (0, 3), (0, 3), (0, 3), (0, 3), (0, 3), (0, 3), (0, 3), (0, 3), (0, 3), (0, 3), (0, 3), (0, 3), (0, 4)] (qe (qm true h [0, 1, 2, 3, 4, 5, 6, 7, 8, 9, 10, 11, 12, 13]))
          ·obtain ⟨t_47, ht_643, h⟩ := bd h
           refine tO (pc 2 (fun w hm => spec_SameSpots.calls t_36.2.1 t_37.2.1 w _ cap_582 (hm.ow 7 o_581 94 t_36.2.1 sp_583 (fun e => (ho_585 e).1) encA2I64_len) rfl cap_593 (hm.ow 9 o_592 94 t_37.2.1 sp_594 (fun e => (ho_596 e).1) encA2I64_len) rfl ht_643) ?_)
           rintro w v w' hm ⟨rfl, hm'⟩
           refine ⟨_, hm.app hm', jkO ?_⟩
           clear hm hm'
           refine qf [(0, 2), (0, 5), (0, 0), (0, 1), (0, 1), (0, 0), (0, 0)] (qp 194 h (fun h => ?_) (fun h => ?_))
           ·exact qf [(0, 3), (0, 3), (0, 3), (0, 4), (0, 0), (0, 3), (0, 3), (0, 3), (0, 3), (0, 4), (0, 0), (0, 3), (0, 3), (0, 3), (0, 3), (0, 3), (0, 3), (0, 3), (0, 3), (0, 3), (0, 3), (0, 3), (0, 3), (0, 4)] (qe (qm true h [0, 1, 2, 3, 4, 5, 6, 7, 8, 9, 10, 11, 12, 13]))
           ·refine tO (p_ldA 2 10 b_598 96 1 34 encU32 t_38.1 (by kernel_rfl) (by kernel_rfl) (by kernel_rfl) encU32_len (by kernel_rfl) (jkO (tO (p_ldA 2 5 b_30 96 1 34 encU32 t_7.1 (by kernel_rfl) (by kernel_rfl) (by kernel_rfl) encU32_len (by kernel_rfl) (jkO (tO (p_eqA 2 true 34 32 96 .u32 encU32 t_38.1 t_7.1 (by kernel_rfl) (by kernel_rfl) Tryz.underlying34 Tryz.underlying32 (fun w => Tryz.sizeOf32 w) (fun w => Tryz.isAgg32 w) (fun _ => rfl) (!(t_38.1.1 == t_7.1.1)) rfl (jkO (qf [(0, 5), (0, 0), (0, 1), (0, 1), (0, 1), (0, 1), (0, 0), (0, 0), (0, 1), (0, 1)] (qp 205 h (fun h => ?_) (fun h => ?_)))))))))))
            ·exact qf [(0, 3), (0, 3), (0, 3), (0, 3), (0, 3), (0, 3), (0, 3), (0, 3), (0, 3), (0, 3), (0, 4)] (qe (qm true h [0, 1, 2, 3, 4, 5, 6, 7, 8, 9, 10, 11, 12, 13]))
            ·refine qf [(0, 2), (0, 1), (0, 1)] (qp 208 h (fun h => ?_) (fun h => ?_))
             ·exact qf [(0, 2), (0, 1), (0, 1), (0, 1), (0, 1), (0, 2), (0, 4), (0, 5)] (qe (qm ((t_40.2.2 != 0) || (decide ((t_40.2.1.length : Int) < t_7.2.1))) h [0, 1, 2, 3, 4, 5, 6, 7, 8, 9, 10, 11, 12, 13]))
             ·exact qf [(0, 3), (0, 3), (0, 3), (0, 3), (0, 3), (0, 3), (0, 5), (0, 5)] (qe (qm false h [0, 1, 2, 3, 4, 5, 6, 7, 8, 9, 10, 11, 12, 13]))
        ·rintro q_41 h
         replace h : laws_FnRepinned.k_42 t_3 t_4 t_5 t_7 q_41 = some r := h
         rw [laws_FnRepinned.k_42] at h
         refine jx_then (qi h (fun h => ?_) (fun h => ?_))
         ·refine jc_seq (jc_region (qh [0] (qe (jx_then (jc_ret (jx_thenr (jx_thenr (jx_thenr ?_))))))))
          obtain rfl := Option.some.inj h
          exact qr [] (fun w hm => ⟨rfl, hm.pk []⟩)
         ·refine jc_skip (jx_then (jc_seq (jc_region (qh [1] (tO (p_ldA 0 5 b_30 96 1 34 encU32 t_7.1 (by kernel_rfl) (by kernel_rfl) (by kernel_rfl) encU32_len (by kernel_rfl) (jkO (qh [0] ?_))))))))
          obtain ⟨t_43, ht_635, h⟩ := bd h
          refine tO (pc 0 (fun w hm => impl_PinLike.calls t_3 t_7.1 t_4 20000 w _ cap_14 (hm.ow 0 o_13 66 t_3.fHammers sp_15 (fun e => (ho_17 e).1) encGHammer_len) rfl cap_21 (hm.ow 2 o_20 68 t_4 sp_22 (fun e => (ho_24 e).1) encGNote_len) rfl ht_635) ?_)
          rintro w v w' hm ⟨rfl, hm'⟩
          refine ⟨_, hm.app hm', jkO ?_⟩
          clear hm hm'
          refine qh [0,0,0,0,0] (tO (qa 0 (fun b_636 => jkO (tO (p_sA 0 14 b_636 96 1 34 encU32 (Arr.rep 96 0) t_43.1 (by kernel_rfl) (by kernel_rfl) (by kernel_rfl) encU32_len encU32_cell (by kernel_rfl) (jkO (qh [0,0,0] (qe (jx_then (jc_seq (jc_meet (fun (j : Bool) => match j with | q_44 => laws_FnRepinned.k_45 t_3 t_5 q_44 = some r) (fun (j : Bool) => match j with | q_44 => [(4, [], (.bool false)), (5, [], (.pointer (some ⟨b_18, 0, none⟩))), (7, [], (.pointer (some ⟨b_26, 0, none⟩))), (238, [], (.bool q_44))]) (fun (j : Bool) => match j with | q_44 => [⟨o_13, 66, row encGHammer t_3.fHammers sp_15⟩, ⟨some b_18, 27, [(.int .i16 t_3.fSteps), (.slice (o_13.map fun b => ⟨b, 0, none⟩) t_3.fHammers.length cap_14)]⟩, ⟨o_20, 68, row encGNote t_4 sp_22⟩, ⟨(some b_26), 34, row encU32 t_5.1 []⟩, ⟨(some b_28), 34, row encU32 t_6.1.1 []⟩, ⟨(some b_30), 34, row encU32 t_7.1.1 []⟩, ⟨o_576, 94, row encA2I64 t_36.1 sp_578⟩, ⟨o_581, 94, row encA2I64 t_36.2.1 sp_583⟩, ⟨o_587, 94, row encA2I64 t_37.1 sp_589⟩, ⟨o_592, 94, row encA2I64 t_37.2.1 sp_594⟩, ⟨(some b_598), 34, row encU32 t_38.1.1 []⟩, ⟨(some b_600), 34, row encU32 t_39.1.1 []⟩, ⟨o_602, 94, row encA2I64 t_40.1 sp_604⟩, ⟨o_607, 94, row encA2I64 t_40.2.1 sp_609⟩, ⟨(some b_636), 34, row encU32 t_43.1.1 []⟩]) ?_ ?_)))))))))))
          ·refine jc_region (qh [0,0,0] (qp 230 h (fun h => ?_) (fun h => ?_)))
           ·exact tO (p_ldA 2 14 b_636 96 1 34 encU32 t_43.1 (by kernel_rfl) (by kernel_rfl) (by kernel_rfl) encU32_len (by kernel_rfl) (jkO (tO (p_ldA 2 5 b_30 96 1 34 encU32 t_7.1 (by kernel_rfl) (by kernel_rfl) (by kernel_rfl) encU32_len (by kernel_rfl) (jkO (tO (p_eqA 2 true 34 32 96 .u32 encU32 t_43.1 t_7.1 (by kernel_rfl) (by kernel_rfl) Tryz.underlying34 Tryz.underlying32 (fun w => Tryz.sizeOf32 w) (fun w => Tryz.isAgg32 w) (fun _ => rfl) (!(t_43.1.1 == t_7.1.1)) rfl (jkO (qf [(0, 2), (0, 1), (0, 1), (0, 2), (0, 4)] (qe (qm ((!(t_43.1.1 == t_7.1.1)) || (t_43.2.1 != 0)) h [0, 1, 2, 3, 4, 5, 6, 7, 8, 9, 10, 11, 12, 13, 14])))))))))))
           ·exact qf [(0, 3), (0, 3), (0, 3), (0, 3), (0, 3), (0, 3), (0, 3), (0, 5)] (qe (qm false h [0, 1, 2, 3, 4, 5, 6, 7, 8, 9, 10, 11, 12, 13, 14]))
          ·rintro q_44 h
           replace h : laws_FnRepinned.k_45 t_3 t_5 q_44 = some r := h
           rw [laws_FnRepinned.k_45] at h
           refine jx_then (qi h (fun h => ?_) (fun h => ?_))
           ·refine jc_seq (jc_region (qh [0] (qe (jx_then (jc_ret (jx_thenr (jx_thenr ?_)))))))
            obtain rfl := Option.some.inj h
            exact qr [] (fun w hm => ⟨rfl, hm.pk []⟩)
           ·exact jc_skip (qm () h [0, 1, 2, 3, 4, 5])
       ·exact jc_skip (qm () h [0, 1, 2, 3, 4, 5])
      ·rintro _ h
       replace h : laws_FnRepinned.k_10 t_3 t_5 = some r := h
       rw [laws_FnRepinned.k_10] at h
       refine jx_then (jc_seq (jc_region (qh [1] (tO (p_ldA 0 3 b_26 96 1 34 encU32 t_5 (by kernel_rfl) (by kernel_rfl) (by kernel_rfl) encU32_len (by kernel_rfl) (jkO ?_))))))
       obtain ⟨t_11, ht_113, h⟩ := bd h
       refine tO (pc 0 (fun w hm => impl_SpareTracks.calls t_3 t_5 w _ cap_14 (hm.ow 0 o_13 66 t_3.fHammers sp_15 (fun e => (ho_17 e).1) encGHammer_len) rfl ht_113) ?_)
       rintro w v w' hm ⟨o_114, cap_115, sp_116, _, rfl, hs_117, ho_118, rfl, hm'⟩
       refine ⟨_, hm.app hm', jkO ?_⟩
       clear hm hm'
       refine qh [0,0,0,0,0] (qe (jx_then (jc_seq (jc_region (qh [1] (tO (p_ldA 0 3 b_26 96 1 34 encU32 t_5 (by kernel_rfl) (by kernel_rfl) (by kernel_rfl) encU32_len (by kernel_rfl) (jkO ?_))))))))
       obtain ⟨t_12, ht_119, h⟩ := bd h
       refine tO (pc 0 (fun w hm => spec_SpareTracks.calls t_3 t_5 w _ cap_14 (hm.ow 0 o_13 66 t_3.fHammers sp_15 (fun e => (ho_17 e).1) encGHammer_len) rfl ht_119) ?_)
       rintro w v w' hm ⟨o_120, cap_121, sp_122, _, rfl, hs_123, ho_124, rfl, hm'⟩
       refine ⟨_, hm.app hm', jkO ?_⟩
       clear hm hm'
       refine qh [0,0,0,0,0] (qe (jx_then (jc_seq (jc_region (qh [1] (tO (p_ldA 0 3 b_26 96 1 34 encU32 t_5 (by kernel_rfl) (by kernel_rfl) (by kernel_rfl) encU32_len (by kernel_rfl) (jkO ?_))))))))
       obtain ⟨t_13, ht_125, h⟩ := bd h
       refine tO (pc 0 (fun w hm => impl_PinsByTrack.calls t_3 t_5 w _ cap_14 (hm.ow 0 o_13 66 t_3.fHammers sp_15 (fun e => (ho_17 e).1) encGHammer_len) rfl ht_125) ?_)
       rintro w v w' hm ⟨o_126, cap_127, sp_128, _, rfl, hs_129, ho_130, rfl, hm'⟩
       refine ⟨_, hm.app hm', jkO ?_⟩
       clear hm hm'
       refine qh [0,0,0,0,0] (qe (jx_then (jc_seq (jc_seq (jc_meet (fun (j : Bool) => match j with | q_14 => laws_FnRepinned.k_15 t_3 t_5 t_12 t_13 q_14 = some r) (fun (j : Bool) => match j with | q_14 => [(4, [], (.bool false)), (5, [], (.pointer (some ⟨b_18, 0, none⟩))), (7, [], (.pointer (some ⟨b_26, 0, none⟩))), (38, [], (.slice (o_120.map fun b => ⟨b, 0, none⟩) t_12.1.length cap_121)), (40, [], (.slice (o_126.map fun b => ⟨b, 0, none⟩) t_13.1.length cap_127)), (281, [], (.bool q_14))]) (fun (j : Bool) => match j with | q_14 => [⟨o_13, 66, row encGHammer t_3.fHammers sp_15⟩, ⟨some b_18, 27, [(.int .i16 t_3.fSteps), (.slice (o_13.map fun b => ⟨b, 0, none⟩) t_3.fHammers.length cap_14)]⟩, ⟨o_20, 68, row encGNote t_4 sp_22⟩, ⟨(some b_26), 34, row encU32 t_5.1 []⟩, ⟨(some b_28), 34, row encU32 t_6.1.1 []⟩, ⟨(some b_30), 34, row encU32 t_7.1.1 []⟩, ⟨o_114, 2, row encI64 t_11.1 sp_116⟩, ⟨o_120, 2, row encI64 t_12.1 sp_122⟩, ⟨o_126, 2, row encI64 t_13.1 sp_128⟩]) ?_ ?_)))))
       ·refine jc_region (qf [(0, 0), (0, 0), (0, 0), (0, 0), (0, 1), (0, 1), (0, 0), (0, 0), (0, 1), (0, 1)] (qp 264 h (fun h => ?_) (fun h => ?_)))
        ·exact qf [(0, 3), (0, 3), (0, 4), (0, 0), (0, 3), (0, 3), (0, 4), (0, 0), (0, 3), (0, 3), (0, 3), (0, 3), (0, 3), (0, 3), (0, 4)] (qe (qm true h [0, 1, 2, 3, 4, 5, 6, 7, 8]))
        ·obtain ⟨t_34, ht_572, h⟩ := bd h
         refine tO (pc 2 (fun w hm => spec_SameNumbers.calls t_11.1 t_12.1 w _ cap_115 (hm.ow 6 o_114 2 t_11.1 sp_116 (fun e => (ho_118 e).1) encI64_len) rfl cap_121 (hm.ow 7 o_120 2 t_12.1 sp_122 (fun e => (ho_124 e).1) encI64_len) rfl ht_572) ?_)
         rintro w v w' hm ⟨rfl, hm'⟩
         refine ⟨_, hm.app hm', jkO ?_⟩
         clear hm hm'
         exact qf [(0, 2), (0, 5), (0, 0), (0, 1), (0, 1), (0, 0), (0, 0), (0, 1), (0, 1), (0, 1), (1, 1), (0, 1), (0, 1), (0, 0)] (qe (qm (((!t_34) || (t_13.2 != 0)) || ((t_13.1.length : Int) != (t_3.fHammers.length : Int))) h [0, 1, 2, 3, 4, 5, 6, 7, 8]))
       ·rintro q_14 h
        replace h : laws_FnRepinned.k_15 t_3 t_5 t_12 t_13 q_14 = some r := h
        rw [laws_FnRepinned.k_15] at h
        refine jx_then (qi h (fun h => ?_) (fun h => ?_))
        ·refine jc_seq (jc_region (qh [0] (qe (jx_then (jc_ret (jx_thenr ?_))))))
         obtain rfl := Option.some.inj h
         exact qr [] (fun w hm => ⟨rfl, hm.pk []⟩)
        ·refine jc_skip (jx_then (jc_seq (jc_seq (jc_region (qh [0] (qe (jx_then (jc_meet (fun (_ : Unit) => laws_FnRepinned.k_16 = some r) (fun (_ : Unit) => [(4, [], (.bool false))]) (fun (_ : Unit) => [⟨o_13, 66, row encGHammer t_3.fHammers sp_15⟩, ⟨some b_18, 27, [(.int .i16 t_3.fSteps), (.slice (o_13.map fun b => ⟨b, 0, none⟩) t_3.fHammers.length cap_14)]⟩, ⟨o_20, 68, row encGNote t_4 sp_22⟩, ⟨(some b_26), 34, row encU32 t_5.1 []⟩, ⟨(some b_28), 34, row encU32 t_6.1.1 []⟩, ⟨(some b_30), 34, row encU32 t_7.1.1 []⟩, ⟨o_114, 2, row encI64 t_11.1 sp_116⟩, ⟨o_120, 2, row encI64 t_12.1 sp_122⟩, ⟨o_126, 2, row encI64 t_13.1 sp_128⟩]) ?_ ?_))))))))
         ·refine jc_block ?_
          obtain ⟨t_19, ht_570, hr_495⟩ := bd h
          refine jc_loop (fun (s : Int) (x : Unit) => match s, x with | i_17, _ => True) (fun (s : Int) (x : Unit) => match s, x with | i_17, _ => [(4, [], (.bool false)), (5, [], (.pointer (some ⟨b_18, 0, none⟩))), (7, [], (.pointer (some ⟨b_26, 0, none⟩))), (38, [], (.slice (o_120.map fun b => ⟨b, 0, none⟩) t_12.1.length cap_121)), (40, [], (.slice (o_126.map fun b => ⟨b, 0, none⟩) t_13.1.length cap_127)), (42, [], (.int .i64 i_17))]) (fun (s : Int) (x : Unit) => match s, x with | i_17, _ => [⟨o_13, 66, row encGHammer t_3.fHammers sp_15⟩, ⟨some b_18, 27, [(.int .i16 t_3.fSteps), (.slice (o_13.map fun b => ⟨b, 0, none⟩) t_3.fHammers.length cap_14)]⟩, ⟨o_20, 68, row encGNote t_4 sp_22⟩, ⟨(some b_26), 34, row encU32 t_5.1 []⟩, ⟨(some b_28), 34, row encU32 t_6.1.1 []⟩, ⟨(some b_30), 34, row encU32 t_7.1.1 []⟩, ⟨o_114, 2, row encI64 t_11.1 sp_116⟩, ⟨o_120, 2, row encI64 t_12.1 sp_122⟩, ⟨o_126, 2, row encI64 t_13.1 sp_128⟩]) ht_570 () trivial (by kernel_rfl) [0, 1, 2, 3, 4, 5, 6, 7, 8] (by kernel_rfl) (by kernel_rfl) ?_
          rintro i_17 _ y_496 _ h
          rw [laws_FnRepinned.l_18] at h
          refine jc_seq (jc_seq (jc_region (qh [0,0,1,0,0] (qe (jx_then (qi h (fun h => ?_) (fun h => ?_)))))))
          ·refine jc_skip (jx_then (jc_seq (jc_block (jc_seq (jc_region (qh [1] (tO (p_ldA 0 3 b_26 96 1 34 encU32 t_5 (by kernel_rfl) (by kernel_rfl) (by kernel_rfl) encU32_len (by kernel_rfl) (jkO (qh [0] ?_))))))))))
           obtain ⟨t_20, ht_499, h⟩ := bd h
           refine tO (pc 0 (fun w hm => impl_WithoutTrack.calls t_3 t_5 i_17 w _ cap_14 (hm.ow 0 o_13 66 t_3.fHammers sp_15 (fun e => (ho_17 e).1) encGHammer_len) rfl ht_499) ?_)
           rintro w v w' hm ⟨o_500, cap_501, sp_502, _, rfl, hs_503, ho_504, rfl, hm'⟩
           refine ⟨_, hm.app hm', jkO ?_⟩
           clear hm hm'
           refine qh [0,0,0,0] (tO (qa 0 (fun b_505 => jkO (tO (qa 0 (fun b_506 => jkO (tO (qs 0 [10] (jkO (tO (p_sA 0 11 b_506 96 1 34 encU32 (Arr.rep 96 0) t_20.2.1 (by kernel_rfl) (by kernel_rfl) (by kernel_rfl) encU32_len encU32_cell (by kernel_rfl) (jkO (qh [0] (qe (jx_then (jc_seq (jc_region (qh [1] (tO (p_ldA 0 3 b_26 96 1 34 encU32 t_5 (by kernel_rfl) (by kernel_rfl) (by kernel_rfl) encU32_len (by kernel_rfl) (jkO (qh [0] ?_))))))))))))))))))))))
           obtain ⟨t_21, ht_507, h⟩ := bd h
           refine tO (pc 0 (fun w hm => spec_WithoutTrack.calls t_3 t_5 i_17 w _ o_13 rfl hs_16 ho_17 (hm.pass (N := [⟨o_13, 66, row encGHammer t_3.fHammers sp_15⟩]) [0] (by kernel_rfl) (by kernel_rfl)) ht_507) ?_)
           rintro w v w' hm ⟨o_508, cap_509, sp_510, _, rfl, hs_511, ho_512, rfl, hm'⟩
           refine ⟨_, hm.appW (ps := [(0, ⟨o_13, 66, row encGHammer t_3.fHammers sp_15⟩)]) (N := [⟨o_508, 66, row encGHammer t_21.1.fHammers sp_510⟩]) hm' (by kernel_rfl) (by kernel_rfl), jkO ?_⟩
           clear hm hm'
           refine qh [0,0,0,0] (tO (qa 0 (fun b_513 => jkO (tO (qa 0 (fun b_514 => jkO (tO (qs 0 [13] (jkO (tO (p_sA 0 14 b_514 96 1 34 encU32 (Arr.rep 96 0) t_21.2.1 (by kernel_rfl) (by kernel_rfl) (by kernel_rfl) encU32_len encU32_cell (by kernel_rfl) (jkO (qh [0] (qe (jx_then (jc_seq (jc_seq (jc_meet (fun (j : Bool) => match j with | q_22 => laws_FnRepinned.k_23 t_3 t_5 i_17 t_20 t_21 q_22 = some y_496) (fun (j : Bool) => match j with | q_22 => [(4, [], (.bool false)), (5, [], (.pointer (some ⟨b_18, 0, none⟩))), (7, [], (.pointer (some ⟨b_26, 0, none⟩))), (38, [], (.slice (o_120.map fun b => ⟨b, 0, none⟩) t_12.1.length cap_121)), (40, [], (.slice (o_126.map fun b => ⟨b, 0, none⟩) t_13.1.length cap_127)), (42, [], (.int .i64 i_17)), (45, [], (.int .i64 t_20.2.2)), (46, [], (.pointer (some ⟨b_513, 0, none⟩))), (47, [], (.pointer (some ⟨b_514, 0, none⟩))), (346, [], (.bool q_22))]) (fun (j : Bool) => match j with | q_22 => [⟨o_13, 66, row encGHammer t_3.fHammers sp_15⟩, ⟨some b_18, 27, [(.int .i16 t_3.fSteps), (.slice (o_13.map fun b => ⟨b, 0, none⟩) t_3.fHammers.length cap_14)]⟩, ⟨o_20, 68, row encGNote t_4 sp_22⟩, ⟨(some b_26), 34, row encU32 t_5.1 []⟩, ⟨(some b_28), 34, row encU32 t_6.1.1 []⟩, ⟨(some b_30), 34, row encU32 t_7.1.1 []⟩, ⟨o_114, 2, row encI64 t_11.1 sp_116⟩, ⟨o_120, 2, row encI64 t_12.1 sp_122⟩, ⟨o_126, 2, row encI64 t_13.1 sp_128⟩, ⟨o_500, 66, row encGHammer t_20.1.fHammers sp_502⟩, ⟨some b_505, 27, [(.int .i16 t_20.1.fSteps), (.slice (o_500.map fun b => ⟨b, 0, none⟩) t_20.1.fHammers.length cap_501)]⟩, ⟨(some b_506), 34, row encU32 t_20.2.1.1 []⟩, ⟨o_508, 66, row encGHammer t_21.1.fHammers sp_510⟩, ⟨some b_513, 27, [(.int .i16 t_21.1.fSteps), (.slice (o_508.map fun b => ⟨b, 0, none⟩) t_21.1.fHammers.length cap_509)]⟩, ⟨(some b_514), 34, row encU32 t_21.2.1.1 []⟩]) ?_ ?_))))))))))))))))))
           ·refine qg [⟨o_13, 66, row encGHammer t_3.fHammers sp_15⟩, ⟨some b_18, 27, [(.int .i16 t_3.fSteps), (.slice (o_13.map fun b => ⟨b, 0, none⟩) t_3.fHammers.length cap_14)]⟩, ⟨o_20, 68, row encGNote t_4 sp_22⟩, ⟨(some b_26), 34, row encU32 t_5.1 []⟩, ⟨(some b_28), 34, row encU32 t_6.1.1 []⟩, ⟨(some b_30), 34, row encU32 t_7.1.1 []⟩, ⟨o_114, 2, row encI64 t_11.1 sp_116⟩, ⟨o_120, 2, row encI64 t_12.1 sp_122⟩, ⟨o_126, 2, row encI64 t_13.1 sp_128⟩, ⟨o_500, 66, row encGHammer t_20.1.fHammers sp_502⟩, ⟨some b_505, 27, [(.int .i16 t_20.1.fSteps), (.slice (o_500.map fun b => ⟨b, 0, none⟩) t_20.1.fHammers.length cap_501)]⟩, ⟨(some b_506), 34, row encU32 t_20.2.1.1 []⟩, ⟨o_508, 66, row encGHammer t_21.1.fHammers sp_510⟩, ⟨some b_513, 27, [(.int .i16 t_21.1.fSteps), (.slice (o_508.map fun b => ⟨b, 0, none⟩) t_21.1.fHammers.length cap_509)]⟩, ⟨(some b_514), 34, row encU32 t_21.2.1.1 []⟩] 42 (qd [⟨0, 0, 0⟩,⟨1, 0, 0⟩,⟨3, 0, 0⟩,⟨4, 0, 0⟩] 38 [0, 1, 2, 3, 4, 5, 6, 7, 8, 9, 10, 11, 12, 13, 14] ?_)
            obtain ⟨x_29, hx_561, h⟩ := bd h
            refine qv 5 0 [0, 1, 2, 3, 4, 5, 6, 7, 8, 9, 10, 11, 12, 13, 14] (fun w hm => idx_run (a := (o_126.map fun b => ⟨b, 0, none⟩)) (len := t_13.1.length) (s := 1) (j := i_17) (by kernel_rfl) (ix_some hx_561).1 (ltn hx_561 rfl) (spo ho_130 hx_561)) (qv 6 0 [0, 1, 2, 3, 4, 5, 6, 7, 8, 9, 10, 11, 12, 13, 14] (fun w hm => ld_run (b := aB (o_126.map fun b => ⟨b, 0, none⟩)) (off := (aO (o_126.map fun b => ⟨b, 0, none⟩) + i_17.toNat * 1)) (s := 1) (agg := false) (vs := (encI64 x_29)) (by kernel_rfl) (by kernel_rfl) (.inr rfl) ((hm.ow 8 o_126 2 t_13.1 sp_128 (fun e => (ho_130 e).1) encI64_len).at hx_561)) (qd [⟨7, 0, 0⟩] 35 [0, 1, 2, 3, 4, 5, 6, 7, 8, 9, 10, 11, 12, 13, 14] ?_))
            obtain ⟨t_30, ht_562, h⟩ := bd h
            refine tD 2 (pc 0 (fun w hm => spec_HasNumber.calls t_12.1 i_17 w _ cap_121 (hm.ow 7 o_120 2 t_12.1 sp_122 (fun e => (ho_124 e).1) encI64_len) rfl ht_562) ?_)
            rintro w v w' hm ⟨rfl, hm'⟩
            refine ⟨_, hm.app hm', kD [0, 1, 2, 3, 4, 5, 6, 7, 8, 9, 10, 11, 12, 13, 14] ?_⟩
            clear hm hm'
            refine qd [⟨8, 0, 0⟩,⟨9, 0, 0⟩,⟨10, 0, 1⟩,⟨11, 0, 1⟩,⟨12, 0, 1⟩,⟨13, 0, 0⟩,⟨14, 0, 0⟩,⟨15, 10, 1⟩,⟨17, 13, 1⟩] 25 [0, 1, 2, 3, 4, 5, 6, 7, 8, 9, 10, 11, 12, 13, 14] (jd_split 319 ((t_30 != (x_29 == 0)) || (t_20.2.2 != t_21.2.2)) (by kernel_rfl) (fun hc_563 => ?_) (fun hc_563 => ?_))
            ·replace h := ifT hc_563 h
             exact qd [⟨16, 0, 3⟩,⟨18, 0, 3⟩,⟨19, 0, 3⟩,⟨20, 0, 4⟩,⟨21, 0, 0⟩,⟨22, 0, 3⟩,⟨23, 0, 3⟩,⟨24, 0, 3⟩,⟨25, 0, 4⟩,⟨26, 0, 0⟩,⟨27, 0, 3⟩,⟨28, 0, 3⟩,⟨29, 0, 3⟩,⟨30, 0, 3⟩,⟨31, 0, 3⟩,⟨32, 0, 3⟩,⟨33, 0, 3⟩,⟨34, 0, 3⟩,⟨35, 0, 3⟩,⟨36, 0, 3⟩,⟨37, 0, 3⟩,⟨38, 0, 3⟩,⟨39, 0, 3⟩,⟨40, 0, 3⟩,⟨41, 0, 4⟩] 0 [0, 1, 2, 3, 4, 5, 6, 7, 8, 9, 10, 11, 12, 13, 14] (qz (qm true h [0, 1, 2, 3, 4, 5, 6, 7, 8, 9, 10, 11, 12, 13, 14]))
            ·replace h := ifF hc_563 h
             obtain ⟨t_31, ht_564, h⟩ := bd h
             refine tD 16 (pc 2 (fun w hm => impl_FrameText.calls t_20.1 w _ (g_pw.keep hm) cap_501 (hm.ow 9 o_500 66 t_20.1.fHammers sp_502 (fun e => (ho_504 e).1) encGHammer_len) rfl ht_564) ?_)
             rintro w v w' hm ⟨rfl, hm'⟩
             refine ⟨_, hm.app hm', kD [0, 1, 2, 3, 4, 5, 6, 7, 8, 9, 10, 11, 12, 13, 14] ?_⟩
             clear hm hm'
             obtain ⟨t_32, ht_565, h⟩ := bd h
             refine tD 18 (pc 2 (fun w hm => spec_FrameText.calls t_21.1 w _ cap_509 (hm.ow 12 o_508 66 t_21.1.fHammers sp_510 (fun e => (ho_512 e).1) encGHammer_len) rfl ht_565) ?_)
             rintro w v w' hm ⟨rfl, hm'⟩
             refine ⟨_, hm.app hm', kD [0, 1, 2, 3, 4, 5, 6, 7, 8, 9, 10, 11, 12, 13, 14] ?_⟩
             clear hm hm'
             refine qd [⟨19, 0, 2⟩,⟨20, 0, 5⟩,⟨21, 0, 0⟩] 20 [0, 1, 2, 3, 4, 5, 6, 7, 8, 9, 10, 11, 12, 13, 14] (jd_split 326 (!(t_31.toList == t_32.toList)) (by kernel_rfl) (fun hc_566 => ?_) (fun hc_566 => ?_))
             ·replace h := ifT hc_566 h
              exact qd [⟨22, 0, 3⟩,⟨23, 0, 3⟩,⟨24, 0, 3⟩,⟨25, 0, 4⟩,⟨26, 0, 0⟩,⟨27, 0, 3⟩,⟨28, 0, 3⟩,⟨29, 0, 3⟩,⟨30, 0, 3⟩,⟨31, 0, 3⟩,⟨32, 0, 3⟩,⟨33, 0, 3⟩,⟨34, 0, 3⟩,⟨35, 0, 3⟩,⟨36, 0, 3⟩,⟨37, 0, 3⟩,⟨38, 0, 3⟩,⟨39, 0, 3⟩,⟨40, 0, 3⟩,⟨41, 0, 4⟩] 0 [0, 1, 2, 3, 4, 5, 6, 7, 8, 9, 10, 11, 12, 13, 14] (qz (qm true h [0, 1, 2, 3, 4, 5, 6, 7, 8, 9, 10, 11, 12, 13, 14]))
             ·replace h := ifF hc_566 h
              refine qv 22 2 [0, 1, 2, 3, 4, 5, 6, 7, 8, 9, 10, 11, 12, 13, 14] (fun w hm => ld_run (b := b_506) (off := 0) (s := 96) (agg := true) (vs := row encU32 t_20.2.1.1 []) (by kernel_rfl) ((row_len encU32_len t_20.2.1).trans rfl) (.inl rfl) (hm.all (hh := 11) (T := 34) (by kernel_rfl))) (qv 23 2 [0, 1, 2, 3, 4, 5, 6, 7, 8, 9, 10, 11, 12, 13, 14] (fun w hm => ld_run (b := b_514) (off := 0) (s := 96) (agg := true) (vs := row encU32 t_21.2.1.1 []) (by kernel_rfl) ((row_len encU32_len t_21.2.1).trans rfl) (.inl rfl) (hm.all (hh := 14) (T := 34) (by kernel_rfl))) (tD 24 (p_eqA 2 true 34 32 96 .u32 encU32 t_20.2.1 t_21.2.1 (by kernel_rfl) (by kernel_rfl) Tryz.underlying34 Tryz.underlying32 (fun w => Tryz.sizeOf32 w) (fun w => Tryz.isAgg32 w) (fun _ => rfl) (!(t_20.2.1.1 == t_21.2.1.1)) rfl (kD [0, 1, 2, 3, 4, 5, 6, 7, 8, 9, 10, 11, 12, 13, 14] (qd [⟨25, 0, 5⟩,⟨26, 0, 0⟩,⟨27, 0, 1⟩,⟨28, 0, 1⟩,⟨29, 0, 1⟩,⟨30, 0, 1⟩] 11 [0, 1, 2, 3, 4, 5, 6, 7, 8, 9, 10, 11, 12, 13, 14] (jd_split 331 (!(t_20.2.1.1 == t_21.2.1.1)) (by kernel_rfl) (fun hc_567 => ?_) (fun hc_567 => ?_)))))))
              ·replace h := ifT hc_567 h
               exact qd [⟨31, 0, 3⟩,⟨32, 0, 3⟩,⟨33, 0, 3⟩,⟨34, 0, 3⟩,⟨35, 0, 3⟩,⟨36, 0, 3⟩,⟨37, 0, 3⟩,⟨38, 0, 3⟩,⟨39, 0, 3⟩,⟨40, 0, 3⟩,⟨41, 0, 4⟩] 0 [0, 1, 2, 3, 4, 5, 6, 7, 8, 9, 10, 11, 12, 13, 14] (qz (qm true h [0, 1, 2, 3, 4, 5, 6, 7, 8, 9, 10, 11, 12, 13, 14]))
              ·replace h := ifF hc_567 h
               obtain ⟨x_33, hx_568, h⟩ := bd h
               exact qv 31 2 [0, 1, 2, 3, 4, 5, 6, 7, 8, 9, 10, 11, 12, 13, 14] (fun w hm => idx_run (a := (o_126.map fun b => ⟨b, 0, none⟩)) (len := t_13.1.length) (s := 1) (j := i_17) (by kernel_rfl) (ix_some hx_568).1 (ltn hx_568 rfl) (spo ho_130 hx_568)) (qv 32 2 [0, 1, 2, 3, 4, 5, 6, 7, 8, 9, 10, 11, 12, 13, 14] (fun w hm => ld_run (b := aB (o_126.map fun b => ⟨b, 0, none⟩)) (off := (aO (o_126.map fun b => ⟨b, 0, none⟩) + i_17.toNat * 1)) (s := 1) (agg := false) (vs := (encI64 x_33)) (by kernel_rfl) (by kernel_rfl) (.inr rfl) ((hm.ow 8 o_126 2 t_13.1 sp_128 (fun e => (ho_130 e).1) encI64_len).at hx_568)) (qd [⟨33, 0, 2⟩,⟨34, 0, 2⟩,⟨35, 0, 1⟩,⟨36, 1, 1⟩,⟨37, 0, 1⟩,⟨38, 0, 1⟩,⟨39, 0, 2⟩,⟨40, 0, 2⟩,⟨41, 0, 5⟩] 0 [0, 1, 2, 3, 4, 5, 6, 7, 8, 9, 10, 11, 12, 13, 14] (qz (qm ((t_20.2.2 == 0) != ((x_33 == 0) && (decide ((t_3.fHammers.length : Int) > 1)))) h [0, 1, 2, 3, 4, 5, 6, 7, 8, 9, 10, 11, 12, 13, 14]))))
           ·rintro q_22 h
            replace h : laws_FnRepinned.k_23 t_3 t_5 i_17 t_20 t_21 q_22 = some y_496 := h
            rw [laws_FnRepinned.k_23] at h
            refine jx_then (qi h (fun h => ?_) (fun h => ?_))
            ·refine jc_seq (jc_region (qh [0] (qe (jx_then (jc_ret (jx_thenr (jx_inr (jx_thenr (jx_leaver (.inl false) (Option.some.inj h).symm (fun e_541 => ?_))))))))))
             subst e_541
             refine jx_inr (jx_thenr (jx_thenr ?_))
             obtain rfl := Option.some.inj hr_495
             exact qr [] (fun w hm => ⟨rfl, hm.pk []⟩)
            ·refine jc_skip (jx_then (jc_seq (jc_region (qh [0,0] (qe (jx_then (qi h (fun h => ?_) (fun h => ?_))))))))
             ·refine jc_seq (jc_region (qh [1] (tO (p_ldA 0 3 b_26 96 1 34 encU32 t_5 (by kernel_rfl) (by kernel_rfl) (by kernel_rfl) encU32_len (by kernel_rfl) (jkO ?_)))))
              obtain ⟨t_24, ht_543, h⟩ := bd h
              refine tO (pc 0 (fun w hm => impl_TuneOf.calls t_3 t_5 w _ cap_14 (hm.ow 0 o_13 66 t_3.fHammers sp_15 (fun e => (ho_17 e).1) encGHammer_len) rfl ht_543) ?_)
              rintro w v w' hm ⟨o_544, cap_545, sp_546, _, rfl, hs_547, ho_548, rfl, hm'⟩
              refine ⟨_, hm.app hm', jkO ?_⟩
              clear hm hm'
              refine qh [0,0,0,0,0] (qe (jx_then (jc_seq (jc_region (qh [13] (tO (p_ldA 0 14 b_514 96 1 34 encU32 t_21.2.1 (by kernel_rfl) (by kernel_rfl) (by kernel_rfl) encU32_len (by kernel_rfl) (jkO ?_))))))))
              obtain ⟨t_25, ht_549, h⟩ := bd h
              refine tO (pc 0 (fun w hm => impl_TuneOf.calls t_21.1 t_21.2.1 w _ cap_509 (hm.ow 12 o_508 66 t_21.1.fHammers sp_510 (fun e => (ho_512 e).1) encGHammer_len) rfl ht_549) ?_)
              rintro w v w' hm ⟨o_550, cap_551, sp_552, _, rfl, hs_553, ho_554, rfl, hm'⟩
              refine ⟨_, hm.app hm', jkO ?_⟩
              clear hm hm'
              refine qh [0,0,0,0,0] (qe (jx_then (jc_seq (jc_meet (fun (j : Bool) => match j with | q_26 => laws_FnRepinned.k_27 i_17 q_26 = some y_496) (fun (j : Bool) => match j with | q_26 => [(4, [], (.bool false)), (5, [], (.pointer (some ⟨b_18, 0, none⟩))), (7, [], (.pointer (some ⟨b_26, 0, none⟩))), (38, [], (.slice (o_120.map fun b => ⟨b, 0, none⟩) t_12.1.length cap_121)), (40, [], (.slice (o_126.map fun b => ⟨b, 0, none⟩) t_13.1.length cap_127)), (42, [], (.int .i64 i_17)), (369, [], (.bool q_26))]) (fun (j : Bool) => match j with | q_26 => [⟨o_13, 66, row encGHammer t_3.fHammers sp_15⟩, ⟨some b_18, 27, [(.int .i16 t_3.fSteps), (.slice (o_13.map fun b => ⟨b, 0, none⟩) t_3.fHammers.length cap_14)]⟩, ⟨o_20, 68, row encGNote t_4 sp_22⟩, ⟨(some b_26), 34, row encU32 t_5.1 []⟩, ⟨(some b_28), 34, row encU32 t_6.1.1 []⟩, ⟨(some b_30), 34, row encU32 t_7.1.1 []⟩, ⟨o_114, 2, row encI64 t_11.1 sp_116⟩, ⟨o_120, 2, row encI64 t_12.1 sp_122⟩, ⟨o_126, 2, row encI64 t_13.1 sp_128⟩, ⟨o_500, 66, row encGHammer t_20.1.fHammers sp_502⟩, ⟨some b_505, 27, [(.int .i16 t_20.1.fSteps), (.slice (o_500.map fun b => ⟨b, 0, none⟩) t_20.1.fHammers.length cap_501)]⟩, ⟨(some b_506), 34, row encU32 t_20.2.1.1 []⟩, ⟨o_508, 66, row encGHammer t_21.1.fHammers sp_510⟩, ⟨some b_513, 27, [(.int .i16 t_21.1.fSteps), (.slice (o_508.map fun b => ⟨b, 0, none⟩) t_21.1.fHammers.length cap_509)]⟩, ⟨(some b_514), 34, row encU32 t_21.2.1.1 []⟩, ⟨o_544, 68, row encGNote t_24.1 sp_546⟩, ⟨o_550, 68, row encGNote t_25.1 sp_552⟩]) ?_ ?_))))
              ·refine jc_region (qf [(0, 0), (0, 0), (0, 0), (0, 0), (0, 1), (0, 1)] (qp 364 h (fun h => ?_) (fun h => ?_)))
               ·exact qf [(0, 3), (0, 3), (0, 4)] (qe (qm true h [0, 1, 2, 3, 4, 5, 6, 7, 8, 9, 10, 11, 12, 13, 14, 15, 16]))
               ·obtain ⟨t_28, ht_560, h⟩ := bd h
                refine tO (pc 2 (fun w hm => spec_SameTune.calls t_24.1 t_25.1 w _ cap_545 (hm.ow 15 o_544 68 t_24.1 sp_546 (fun e => (ho_548 e).1) encGNote_len) rfl cap_551 (hm.ow 16 o_550 68 t_25.1 sp_552 (fun e => (ho_554 e).1) encGNote_len) rfl ht_560) ?_)
                rintro w v w' hm ⟨rfl, hm'⟩
                refine ⟨_, hm.app hm', jkO ?_⟩
                clear hm hm'
                exact qf [(0, 2), (0, 5)] (qe (qm (!t_28) h [0, 1, 2, 3, 4, 5, 6, 7, 8, 9, 10, 11, 12, 13, 14, 15, 16]))
              ·rintro q_26 h
               replace h : laws_FnRepinned.k_27 i_17 q_26 = some y_496 := h
               rw [laws_FnRepinned.k_27] at h
               refine jx_then (qi h (fun h => ?_) (fun h => ?_))
               ·refine jc_seq (jc_region (qh [0] (qe (jx_then (jc_ret (jx_inr (jx_thenr (jx_leaver (.inl false) (Option.some.inj h).symm (fun e_558 => ?_)))))))))
                subst e_558
                refine jx_inr (jx_thenr (jx_thenr ?_))
                obtain rfl := Option.some.inj hr_495
                exact qr [] (fun w hm => ⟨rfl, hm.pk []⟩)
               ·exact jc_skip (jx_inn (jx_then (jc_region (qh [0,0,0] (qe (qb (w64 (i_17 + 1)) () h trivial [0, 1, 2, 3, 4, 5, 6, 7, 8]))))))
             ·exact jc_skip (jx_inn (jx_then (jc_region (qh [0,0,0] (qe (qb (w64 (i_17 + 1)) () h trivial [0, 1, 2, 3, 4, 5, 6, 7, 8]))))))
          ·refine jc_exit (jx_thenx (jx_leave (.inr ()) (Option.some.inj h).symm (fun e_569 => ?_)))
           subst e_569
           exact jx_ine (qm () hr_495 [0, 1, 2, 3, 4, 5, 6, 7, 8])
         ·rintro _ h
          replace h : laws_FnRepinned.k_16 = some r := h
          rw [laws_FnRepinned.k_16] at h
          refine jx_then (jc_seq (jc_region (qh [0] (qe (jx_then (jc_ret ?_))))))
          obtain rfl := Option.some.inj h
          exact qr [] (fun w hm => ⟨rfl, hm.pk []⟩)
end

end Go.Proofs.YtojndiidhgdjcaaGreatDoor
