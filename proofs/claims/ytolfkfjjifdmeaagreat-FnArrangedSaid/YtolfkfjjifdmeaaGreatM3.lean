/- Functions of the program that the laws reach: a plain function each, and that the call comes to its answer if the plain function has one. Printed by a program. -/
import Derived.Test.YtolfkfjjifdmeaaGreatT
import Derived.Test.YtolfkfjjifdmeaaGreatM0
import Derived.Test.YtolfkfjjifdmeaaGreatM1
import Derived.Test.YtolfkfjjifdmeaaGreatM2
namespace Go.Proofs.YtolfkfjjifdmeaaGreat
open Eng
set_option linter.unusedVariables false

set_option linter.unusedSectionVars false
set_option maxRecDepth 100000
variable [dsW : DrwS]
noncomputable section
/-! ### spec.A2Choices -/
def spec_A2Choices.k_6 (xs_2 : List GChoice) (a_3 : Arr 96 Int) (i_4 : Int) (i_5 : Int) : Option ((List GChoice)) := some xs_2
def spec_A2Choices.k_23 (xs_7 : List GChoice) (i_11 : Int) (t_16 : Int × Gl00Src) (a_18 : Arr 96 Int) (q_19 : Bool) (i_20 : Int) (i_21 : Int) (i_22 : Int) : Option (((List GChoice) × (Arr 96 Int) × Int × Int × Int) ⊕ (((List GChoice) × (Arr 96 Int) × Int × Int))) := (if xs_7.length + ([(⟨q_19, i_20, i_21, i_22⟩ : GChoice)] : List GChoice).length ≤ 4294967296 then some (.inl ((xs_7 ++ ([(⟨q_19, i_20, i_21, i_22⟩ : GChoice)] : List GChoice)), a_18, t_16.2.fat, t_16.2.fseed, (w64 (i_11 + 1)))) else none)
def spec_A2Choices.l_12 (code0 : List Int) (f1 : GFrame) (t2 : List GNote) : ((List GChoice) × (Arr 96 Int) × Int × Int × Int) → Option (((List GChoice) × (Arr 96 Int) × Int × Int × Int) ⊕ (((List GChoice) × (Arr 96 Int) × Int × Int)))
  | (xs_7, a_8, i_9, i_10, i_11) => (if (decide (i_11 < (t2.length : Int))) = true then (ix t2 i_11).bind fun x_14 => (spec_l07For f1 x_14).bind fun t_15 => (spec_l00Src_pick (⟨code0, i_9, i_10⟩ : Gl00Src) (t_15.length : Int)).bind fun t_16 => (ix t_15 t_16.1).bind fun x_17 => (ix t2 i_11).bind fun x_24 => (spec_l07Put f1 a_8 x_24 x_17).bind fun t_25 => (if (!t_25.1) = true then spec_A2Choices.k_23 xs_7 i_11 t_16 t_25.2 true 0 0 0 else spec_A2Choices.k_23 xs_7 i_11 t_16 t_25.2 x_17.fAway x_17.fLate x_17.fOctave x_17.fTrack) else some (.inr (xs_7, a_8, i_9, i_10)))
def spec_A2Choices (code0 : List Int) (f1 : GFrame) (t2 : List GNote) : Option ((List GChoice)) := (spec_l00From code0).bind fun t_1 => (loop (spec_A2Choices.l_12 code0 f1 t2) (([] : List GChoice), (Arr.rep 96 0), t_1.fat, t_1.fseed, 0)).bind fun t_13 => spec_A2Choices.k_6 t_13.1 t_13.2.1 t_13.2.2.1 t_13.2.2.2
theorem spec_A2Choices.calls (code0 : List Int) (f1 : GFrame) (t2 : List GNote) (w : World) (r : (List GChoice)) {A_a : Option Addr} {A_an : Nat} (A_c : Nat) (A_h : Rw w A_a 1 encU8 code0) (A_hn : code0.length = A_an) {D_a : Option Addr} {D_an : Nat} (D_c : Nat) (D_h : Rw w D_a 2 encGHammer f1.fHammers) (D_hn : f1.fHammers.length = D_an) {E_a : Option Addr} {E_an : Nat} (E_c : Nat) (E_h : Rw w E_a 2 encGNote t2) (E_hn : t2.length = E_an) (h : spec_A2Choices code0 f1 t2 = some r) :
    Calls Tryz.prog 36 #[(.slice A_a A_an A_c), (.agg #[(.int .i16 f1.fSteps), (.slice D_a D_an D_c)]), (.slice E_a E_an E_c)] w fun e w' => ∃ v, e = .returned v ∧ (∃ (o0 : Option Nat) (c0 : Nat) (s0 : List Value) (n0 : Nat), r.length = n0 ∧ (o0 ≠ none → n0 ≤ c0 ∧ s0.length = (c0 - n0) * 4) ∧ (o0 = none → r = [] ∧ c0 = 0) ∧ v = .slice (o0.map fun b => ⟨b, 0, none⟩) n0 c0 ∧ Mem w [] [⟨o0, 104, row encGChoice r s0⟩] w') := by
  subst A_hn D_hn E_hn
  rw [spec_A2Choices] at h
  refine enter (args := [(.slice A_a code0.length A_c), (.agg #[(.int .i16 f1.fSteps), (.slice D_a f1.fHammers.length D_c)]), (.slice E_a t2.length E_c)]) Tryz.func36 rfl Tryz.ntmps36 (by kernel_rfl) (L := []) (W := []) (Mem.start w) ?_
  refine jc_seq (jc_region (tO (qa 0 (fun b_1 => jkO (qh [0] (qe (jx_then (jc_seq (jc_region (qh [0] ?_))))))))))
  obtain ⟨t_1, ht_2, h⟩ := bd h
  refine tO (pc 0 (fun w hm => spec_l00From.calls code0 w _ A_c (hm.xr A_h) rfl ht_2) ?_)
  rintro w v w' hm ⟨b_3, rfl, hm'⟩
  refine ⟨_, hm.app hm', jkO ?_⟩
  clear hm hm'
  refine qh [0] (qe (jx_then (jc_seq (jc_region (tO (qa 0 (fun b_4 => jkO (qh [0] (qe (jx_then (jc_seq (jc_region (qh [0] (tO (qa 0 (fun b_5 => jkO (tO (p_sA 0 3 b_5 96 1 40 encU32 (Arr.rep 96 0) (Arr.rep 96 0) (by kernel_rfl) (by kernel_rfl) (by kernel_rfl) encU32_len encU32_cell (by kernel_rfl) (jkO (qe (jx_then (jc_seq (jc_seq (jc_region (qh [0] (qe (jx_then (jc_meet (fun (j : (List GChoice) × (Arr 96 Int) × Int × Int × (Option Nat) × Nat × (List Value) × Nat) => match j with | ⟨xs_2, a_3, i_4, i_5, o_303, cap_304, sp_305, n_306⟩ => spec_A2Choices.k_6 xs_2 a_3 i_4 i_5 = some r ∧ (xs_2.length = n_306) ∧ ((o_303 ≠ none → n_306 ≤ cap_304 ∧ sp_305.length = (cap_304 - n_306) * 4)) ∧ ((o_303 = none → xs_2 = [] ∧ cap_304 = 0))) (fun (j : (List GChoice) × (Arr 96 Int) × Int × Int × (Option Nat) × Nat × (List Value) × Nat) => match j with | ⟨xs_2, a_3, i_4, i_5, o_303, cap_304, sp_305, n_306⟩ => [(6, [], (.slice none 0 0)), (8, [], (.slice (o_303.map fun b => ⟨b, 0, none⟩) n_306 cap_304))]) (fun (j : (List GChoice) × (Arr 96 Int) × Int × Int × (Option Nat) × Nat × (List Value) × Nat) => match j with | ⟨xs_2, a_3, i_4, i_5, o_303, cap_304, sp_305, n_306⟩ => [⟨some b_1, 27, [(.int .i16 f1.fSteps), (.slice D_a f1.fHammers.length D_c)]⟩, ⟨some b_3, 179, [(.slice A_a code0.length A_c), (.int .i64 i_4), (.int .u64 i_5)]⟩, ⟨o_303, 104, row encGChoice xs_2 sp_305⟩, ⟨(some b_5), 40, row encU32 a_3.1 []⟩]) ?_ ?_))))))))))))))))))))))))))))
  ·refine jc_block ?_
   obtain ⟨t_13, ht_405, hr_375⟩ := bd h
   refine jc_loop (fun (s : (List GChoice) × (Arr 96 Int) × Int × Int × Int) (x : (Option Nat) × Nat × (List Value) × Nat) => match s, x with | ⟨xs_7, a_8, i_9, i_10, i_11⟩, ⟨o_369, cap_370, sp_371, n_372⟩ => (xs_7.length = n_372) ∧ ((o_369 ≠ none → n_372 ≤ cap_370 ∧ sp_371.length = (cap_370 - n_372) * 4)) ∧ ((o_369 = none → xs_7 = [] ∧ cap_370 = 0))) (fun (s : (List GChoice) × (Arr 96 Int) × Int × Int × Int) (x : (Option Nat) × Nat × (List Value) × Nat) => match s, x with | ⟨xs_7, a_8, i_9, i_10, i_11⟩, ⟨o_369, cap_370, sp_371, n_372⟩ => [(2, [], (.slice E_a t2.length E_c)), (4, [], (.pointer (some ⟨b_1, 0, none⟩))), (6, [], (.slice none 0 0)), (7, [], (.pointer (some ⟨b_3, 0, none⟩))), (8, [], (.slice (o_369.map fun b => ⟨b, 0, none⟩) n_372 cap_370)), (9, [], (.pointer (some ⟨b_5, 0, none⟩))), (10, [], (.int .i64 i_11))]) (fun (s : (List GChoice) × (Arr 96 Int) × Int × Int × Int) (x : (Option Nat) × Nat × (List Value) × Nat) => match s, x with | ⟨xs_7, a_8, i_9, i_10, i_11⟩, ⟨o_369, cap_370, sp_371, n_372⟩ => [⟨some b_1, 27, [(.int .i16 f1.fSteps), (.slice D_a f1.fHammers.length D_c)]⟩, ⟨some b_3, 179, [(.slice A_a code0.length A_c), (.int .i64 i_9), (.int .u64 i_10)]⟩, ⟨o_369, 104, row encGChoice xs_7 sp_371⟩, ⟨(some b_5), 40, row encU32 a_8.1 []⟩]) ht_405 ⟨(some b_4), 0, [], 0⟩ ⟨rfl, (fun _ => ⟨Nat.le_refl _, by simp⟩), (fun e => nomatch e)⟩ (by kernel_rfl) [0, 1, 2, 3] (by kernel_rfl) (by kernel_rfl) ?_
   rintro ⟨xs_7, a_8, i_9, i_10, i_11⟩ ⟨o_369, cap_370, sp_371, n_372⟩ y_376 ⟨rfl, hs_373, ho_374⟩ h
   rw [spec_A2Choices.l_12] at h
   refine jc_seq (jc_seq (jc_region (qh [0,0,0,0] (qe (jx_then (qi h (fun h => ?_) (fun h => ?_)))))))
   ·refine jc_skip (jx_then (jc_seq (jc_block (jc_seq (jc_region (qh [0,0] ?_))))))
    obtain ⟨x_14, hx_379, h⟩ := bd h
    refine tO (qx 0 E_a 2 hx_379 rfl (E_h.sp hx_379) (jkO (tO (ql 0 true (fun w hm => ((hm.xr E_h).at hx_379)) (jkO ?_)))))
    obtain ⟨t_15, ht_380, h⟩ := bd h
    refine tO (pc 0 (fun w hm => spec_l07For.calls f1 x_14 w _ D_c (hm.xr D_h) rfl b_1 (hm.pass (N := [⟨some b_1, 27, [(.int .i16 f1.fSteps), (.slice D_a f1.fHammers.length D_c)]⟩]) [0] (by kernel_rfl) (by kernel_rfl)) (hm.exApart (N := [⟨some b_1, 27, [(.int .i16 f1.fSteps), (.slice D_a f1.fHammers.length D_c)]⟩]) D_h (fun _ => List.not_mem_nil) [0] (by kernel_rfl)) ht_380) ?_)
    rintro w v w' hm ⟨o_381, cap_382, sp_383, _, rfl, hs_384, ho_385, rfl, hm'⟩
    refine ⟨_, hm.appW (ps := [(0, ⟨some b_1, 27, [(.int .i16 f1.fSteps), (.slice D_a f1.fHammers.length D_c)]⟩)]) (N := [⟨o_381, 104, row encGChoice t_15 sp_383⟩]) hm' (by kernel_rfl) (by kernel_rfl), jkO ?_⟩
    clear hm hm'
    refine qh [0] (qe (jx_then (jc_seq (jc_region (qh [0,0,0,0] ?_)))))
    obtain ⟨t_16, ht_386, h⟩ := bd h
    refine tO (pc 0 (fun w hm => spec_l00Src_pick.calls (⟨code0, i_9, i_10⟩ : Gl00Src) (t_15.length : Int) w _ A_c (hm.xr A_h) rfl b_3 (hm.pass (N := [⟨some b_3, 179, [(.slice A_a code0.length A_c), (.int .i64 i_9), (.int .u64 i_10)]⟩]) [1] (by kernel_rfl) (by kernel_rfl)) (hm.exApart (N := [⟨some b_3, 179, [(.slice A_a code0.length A_c), (.int .i64 i_9), (.int .u64 i_10)]⟩]) A_h (fun _ => List.not_mem_nil) [1] (by kernel_rfl)) ht_386) ?_)
    rintro w v w' hm ⟨rfl, hm'⟩
    refine ⟨_, hm.appW (ps := [(1, ⟨some b_3, 179, [(.slice A_a code0.length A_c), (.int .i64 t_16.2.fat), (.int .u64 t_16.2.fseed)]⟩)]) (N := []) hm' (by kernel_rfl) (by kernel_rfl), jkO ?_⟩
    clear hm hm'
    obtain ⟨x_17, hx_387, h⟩ := bd h
    refine tO (qx 0 (o_381.map fun b => ⟨b, 0, none⟩) 4 hx_387 rfl (spo ho_385 hx_387) (jkO (tO (ql 0 true (fun w hm => ((hm.ow 4 o_381 104 t_15 sp_383 (fun e => (ho_385 e).1) encGChoice_len).at hx_387)) (jkO (tO (qa 0 (fun b_388 => jkO (tO (qs 0 [5] (jkO (qe (jx_then (jc_seq (jc_meet (fun (j : (Arr 96 Int) × Bool × Int × Int × Int) => match j with | ⟨a_18, q_19, i_20, i_21, i_22⟩ => spec_A2Choices.k_23 xs_7 i_11 t_16 a_18 q_19 i_20 i_21 i_22 = some y_376) (fun (j : (Arr 96 Int) × Bool × Int × Int × Int) => match j with | ⟨a_18, q_19, i_20, i_21, i_22⟩ => [(2, [], (.slice E_a t2.length E_c)), (4, [], (.pointer (some ⟨b_1, 0, none⟩))), (6, [], (.slice none 0 0)), (7, [], (.pointer (some ⟨b_3, 0, none⟩))), (8, [], (.slice (o_369.map fun b => ⟨b, 0, none⟩) xs_7.length cap_370)), (9, [], (.pointer (some ⟨b_5, 0, none⟩))), (10, [], (.int .i64 i_11)), (12, [], (.pointer (some ⟨b_388, 0, none⟩)))]) (fun (j : (Arr 96 Int) × Bool × Int × Int × Int) => match j with | ⟨a_18, q_19, i_20, i_21, i_22⟩ => [⟨some b_1, 27, [(.int .i16 f1.fSteps), (.slice D_a f1.fHammers.length D_c)]⟩, ⟨some b_3, 179, [(.slice A_a code0.length A_c), (.int .i64 t_16.2.fat), (.int .u64 t_16.2.fseed)]⟩, ⟨o_369, 104, row encGChoice xs_7 sp_371⟩, ⟨(some b_5), 40, row encU32 a_18.1 []⟩, ⟨o_381, 104, row encGChoice t_15 sp_383⟩, ⟨some b_388, 104, [(.bool q_19), (.int .i8 i_20), (.int .i8 i_21), (.int .i8 i_22)]⟩]) ?_ ?_)))))))))))))))
    ·refine jc_seq (qg [⟨some b_1, 27, [(.int .i16 f1.fSteps), (.slice D_a f1.fHammers.length D_c)]⟩, ⟨some b_3, 179, [(.slice A_a code0.length A_c), (.int .i64 t_16.2.fat), (.int .u64 t_16.2.fseed)]⟩, ⟨o_369, 104, row encGChoice xs_7 sp_371⟩, ⟨o_381, 104, row encGChoice t_15 sp_383⟩, ⟨some b_388, 104, [(.bool x_17.fAway), (.int .i8 x_17.fLate), (.int .i8 x_17.fOctave), (.int .i8 x_17.fTrack)]⟩] 7 (qd [⟨0, 0, 0⟩,⟨1, 0, 0⟩,⟨4, 4, 0⟩] 4 [0, 1, 2, 4, 5] ?_))
     obtain ⟨x_24, hx_401, h⟩ := bd h
     refine qv 2 0 [0, 1, 2, 4, 5] (fun w hm => idx_run (a := E_a) (len := t2.length) (s := 2) (j := i_11) (by kernel_rfl) (ix_some hx_401).1 (ltn hx_401 rfl) (E_h.sp hx_401)) (qv 3 0 [0, 1, 2, 4, 5] (fun w hm => ld_run (b := aB E_a) (off := (aO E_a + i_11.toNat * 2)) (s := 2) (agg := true) (vs := (encGNote x_24)) (by kernel_rfl) (by kernel_rfl) (.inl rfl) ((hm.xr E_h).at hx_401)) ?_)
     obtain ⟨t_25, ht_402, h⟩ := bd h
     refine tD 5 (pc 0 (fun w hm => spec_l07Put.calls f1 a_8 x_24 x_17 w _ D_c (hm.xr D_h) rfl b_1 b_5 (hm.pass (N := [⟨some b_1, 27, [(.int .i16 f1.fSteps), (.slice D_a f1.fHammers.length D_c)]⟩, ⟨(some b_5), 40, row encU32 a_8.1 []⟩]) [0, 3] (by kernel_rfl) (by kernel_rfl)) (hm.exApart (N := [⟨some b_1, 27, [(.int .i16 f1.fSteps), (.slice D_a f1.fHammers.length D_c)]⟩, ⟨(some b_5), 40, row encU32 a_8.1 []⟩]) D_h (fun _ => List.not_mem_nil) [0, 3] (by kernel_rfl)) ht_402) ?_)
     rintro w v w' hm ⟨rfl, hm'⟩
     refine ⟨_, hm.appW (ps := [(0, ⟨some b_1, 27, [(.int .i16 f1.fSteps), (.slice D_a f1.fHammers.length D_c)]⟩), (3, ⟨(some b_5), 40, row encU32 t_25.2.1 []⟩)]) (N := []) hm' (by kernel_rfl) (by kernel_rfl), kD [0, 1, 2, 4, 5] ?_⟩
     clear hm hm'
     refine qd [⟨6, 0, 0⟩] 0 [0, 1, 2, 4, 5] (qz (jx_then (qi h (fun h => ?_) (fun h => ?_))))
     ·exact jc_region (qh [0] (tO (qs 0 [5] (jkO (qe (qm ⟨t_25.2, true, 0, 0, 0⟩ h [0, 1, 2, 3, 4, 5]))))))
     ·exact jc_skip (qm ⟨t_25.2, x_17.fAway, x_17.fLate, x_17.fOctave, x_17.fTrack⟩ h [0, 1, 2, 3, 4, 5])
    ·rintro ⟨a_18, q_19, i_20, i_21, i_22⟩ h
     replace h : spec_A2Choices.k_23 xs_7 i_11 t_16 a_18 q_19 i_20 i_21 i_22 = some y_376 := h
     rw [spec_A2Choices.k_23] at h
     refine jx_then (jc_region (qh [0,5] (tO (qa 0 (fun b_393 => jkO ?_)))))
     obtain ⟨hg_394, h⟩ := gd h
     exact tO (p_apn 0 2 o_369 104 xs_7.length 1 cap_370 4 4 (some ⟨b_393, 0, none⟩) encGChoice xs_7 ([(⟨q_19, i_20, i_21, i_22⟩ : GChoice)] : List GChoice) sp_371 (.agg #[(.bool false), (.int .i8 0), (.int .i8 0), (.int .i8 0)]) rfl rfl (by kernel_rfl) (by kernel_rfl) (by kernel_rfl) encGChoice_len encGChoice_cell hs_373 ho_374 (fun w hm => (hm.ow 6 (some b_393) 104 ([(⟨q_19, i_20, i_21, i_22⟩ : GChoice)] : List GChoice) [] (fun e => nomatch e) encGChoice_len)) hg_394 (by kernel_rfl) (by kernel_rfl) (fun o_395 cap_396 sp_397 hs_398 ho_399 => jkO (qh [0] (qe (jx_inn (jx_then (jc_region (qh [0,0,0] (qe (qb ((xs_7 ++ ([(⟨q_19, i_20, i_21, i_22⟩ : GChoice)] : List GChoice)), a_18, t_16.2.fat, t_16.2.fseed, (w64 (i_11 + 1))) ⟨o_395, cap_396, sp_397, (xs_7 ++ ([(⟨q_19, i_20, i_21, i_22⟩ : GChoice)] : List GChoice)).length⟩ h ⟨rfl, hs_398, ho_399⟩ [0, 1, 2, 3]))))))))))
   ·refine jc_exit (jx_thenx (jx_leave (xs_7, a_8, i_9, i_10) (Option.some.inj h).symm (fun e_404 => ?_)))
    subst e_404
    exact jx_ine (qm ⟨xs_7, a_8, i_9, i_10, o_369, cap_370, sp_371, xs_7.length⟩ ⟨hr_375, rfl, hs_373, ho_374⟩ [0, 1, 2, 3])
  ·rintro ⟨xs_2, a_3, i_4, i_5, o_303, cap_304, sp_305, n_306⟩ ⟨h, rfl, hs_307, ho_308⟩
   replace h : spec_A2Choices.k_6 xs_2 a_3 i_4 i_5 = some r := h
   rw [spec_A2Choices.k_6] at h
   refine jx_then (jc_seq (jc_region (qh [0,0] (qe (jx_then (jc_ret ?_))))))
   obtain rfl := Option.some.inj h
   exact qr [] (fun w hm => ⟨o_303, cap_304, sp_305, xs_2.length, rfl, hs_307, ho_308, rfl, hm.pk [2]⟩)
/-! ### spec.l07Choice -/
def spec_l07Choice (x0 : GChoice) : Option (Bool) := (if x0.fAway = true then some ((x0.fAway == true) && ((x0.fLate == 0) && ((x0.fOctave == 0) && (x0.fTrack == 0)))) else (spec_l00In (w64 x0.fLate) (-3) 3).bind fun t_1 => (if t_1 = true then (spec_l00In (w64 x0.fOctave) (-1) 1).bind fun t_2 => (if t_2 = true then (spec_l00In (w64 x0.fTrack) 0 23).bind fun t_3 => some t_3 else some false) else some false))
theorem spec_l07Choice.calls (x0 : GChoice) (w : World) (r : Bool) (h : spec_l07Choice x0 = some r) :
    Calls Tryz.prog 223 #[(.agg #[(.bool x0.fAway), (.int .i8 x0.fLate), (.int .i8 x0.fOctave), (.int .i8 x0.fTrack)])] w fun e w' => ∃ v, e = .returned v ∧ (v = (.bool r) ∧ Mem w [] [] w') := by
  rw [spec_l07Choice] at h
  refine enter (args := [(.agg #[(.bool x0.fAway), (.int .i8 x0.fLate), (.int .i8 x0.fOctave), (.int .i8 x0.fTrack)])]) Tryz.func223 rfl Tryz.ntmps223 (by kernel_rfl) (L := []) (W := []) (Mem.start w) ?_
  refine jc_seq (jc_region (tO (qa 0 (fun b_1 => jkO (qh [0] (qe (jx_then (jc_seq (jc_seq (jc_region (qh [0,0] (qe (jx_then (qi h (fun h => ?_) (fun h => ?_)))))))))))))))
  ·refine jc_seq (jc_region (qh [0,0,0,0] (qe (jx_then (jc_ret (jx_thenr ?_))))))
   obtain rfl := Option.some.inj h
   exact qr [] (fun w hm => ⟨rfl, hm.pk []⟩)
  ·refine jc_skip (jx_then (jc_seq (jc_region (qh [0,0,0] ?_))))
   obtain ⟨t_1, ht_4, h⟩ := bd h
   refine tO (pc 0 (fun w hm => spec_l00In.calls (w64 x0.fLate) (-3) 3 w _ ht_4) ?_)
   rintro w v w' hm ⟨rfl, hm'⟩
   refine ⟨_, hm.app hm', jkO ?_⟩
   clear hm hm'
   refine qf [(0, 0), (0, 1), (0, 1), (0, 1)] (qp 12 h (fun h => ?_) (fun h => ?_))
   ·obtain ⟨t_2, ht_6, h⟩ := bd h
    refine tO (pc 2 (fun w hm => spec_l00In.calls (w64 x0.fOctave) (-1) 1 w _ ht_6) ?_)
    rintro w v w' hm ⟨rfl, hm'⟩
    refine ⟨_, hm.app hm', jkO ?_⟩
    clear hm hm'
    refine qf [(0, 4), (0, 0), (0, 1), (0, 1), (0, 1)] (qp 18 h (fun h => ?_) (fun h => ?_))
    ·obtain ⟨t_3, ht_8, h⟩ := bd h
     refine tO (pc 2 (fun w hm => spec_l00In.calls (w64 x0.fTrack) 0 23 w _ ht_8) ?_)
     rintro w v w' hm ⟨rfl, hm'⟩
     refine ⟨_, hm.app hm', jkO ?_⟩
     clear hm hm'
     refine qf [(0, 4), (0, 0)] (qe (jx_then (jc_ret ?_)))
     obtain rfl := Option.some.inj h
     exact qr [] (fun w hm => ⟨rfl, hm.pk []⟩)
    ·refine qf [(0, 3), (0, 5), (0, 0)] (qe (jx_then (jc_ret ?_)))
     obtain rfl := Option.some.inj h
     exact qr [] (fun w hm => ⟨rfl, hm.pk []⟩)
   ·refine qf [(0, 3), (0, 5), (0, 0), (0, 3), (0, 3), (0, 3), (0, 3), (0, 5), (0, 0)] (qe (jx_then (jc_ret ?_)))
    obtain rfl := Option.some.inj h
    exact qr [] (fun w hm => ⟨rfl, hm.pk []⟩)
/-! ### spec.l07Choices -/
def spec_l07Choices.k_1 : Option (Bool) := some true
def spec_l07Choices.l_3 (list0 : List GChoice) : Int → Option ((Int) ⊕ (Bool ⊕ Unit))
  | i_2 => (if (decide (i_2 < (list0.length : Int))) = true then (ix list0 i_2).bind fun x_5 => (spec_l07Choice x_5).bind fun t_6 => (if (!t_6) = true then some (.inr (.inl false)) else some (.inl (w64 (i_2 + 1)))) else some (.inr (.inr ())))
def spec_l07Choices (list0 : List GChoice) : Option (Bool) := (loop (spec_l07Choices.l_3 list0) 0).bind fun t_4 => match t_4 with | .inl p => some p | .inr p => spec_l07Choices.k_1
theorem spec_l07Choices.calls (list0 : List GChoice) (w : World) (r : Bool) {A_a : Option Addr} {A_an : Nat} (A_c : Nat) (A_h : Rw w A_a 4 encGChoice list0) (A_hn : list0.length = A_an) (h : spec_l07Choices list0 = some r) :
    Calls Tryz.prog 197 #[(.slice A_a A_an A_c)] w fun e w' => ∃ v, e = .returned v ∧ (v = (.bool r) ∧ Mem w [] [] w') := by
  subst A_hn
  rw [spec_l07Choices] at h
  refine enter (args := [(.slice A_a list0.length A_c)]) Tryz.func197 rfl Tryz.ntmps197 (by kernel_rfl) (L := []) (W := []) (Mem.start w) ?_
  refine jc_seq (jc_region (qh [0] (qe (jx_then (jc_seq (jc_seq (jc_region (qh [0] (qe (jx_then (jc_meet (fun (_ : Unit) => spec_l07Choices.k_1 = some r) (fun (_ : Unit) => [(2, [], (.bool false))]) (fun (_ : Unit) => []) ?_ ?_)))))))))))
  ·refine jc_block ?_
   obtain ⟨t_4, ht_40, hr_31⟩ := bd h
   refine jc_loop (fun (s : Int) (x : Unit) => match s, x with | i_2, _ => True) (fun (s : Int) (x : Unit) => match s, x with | i_2, _ => [(0, [], (.slice A_a list0.length A_c)), (2, [], (.bool false)), (3, [], (.int .i64 i_2))]) (fun (s : Int) (x : Unit) => match s, x with | i_2, _ => []) ht_40 () trivial (by kernel_rfl) [] (by kernel_rfl) (by kernel_rfl) ?_
   rintro i_2 _ y_32 _ h
   rw [spec_l07Choices.l_3] at h
   refine jc_seq (jc_seq (jc_region (qh [0,0,0,0] (qe (jx_then (qi h (fun h => ?_) (fun h => ?_)))))))
   ·refine jc_skip (jx_then (jc_seq (jc_block (jc_seq (jc_region (qh [0,0] ?_))))))
    obtain ⟨x_5, hx_35, h⟩ := bd h
    refine tO (qx 0 A_a 4 hx_35 rfl (A_h.sp hx_35) (jkO (tO (ql 0 true (fun w hm => ((hm.xr A_h).at hx_35)) (jkO ?_)))))
    obtain ⟨t_6, ht_36, h⟩ := bd h
    refine tO (pc 0 (fun w hm => spec_l07Choice.calls x_5 w _ ht_36) ?_)
    rintro w v w' hm ⟨rfl, hm'⟩
    refine ⟨_, hm.app hm', jkO ?_⟩
    clear hm hm'
    refine qh [0] (qe (jx_then (qi h (fun h => ?_) (fun h => ?_))))
    ·refine jc_seq (jc_region (qh [0] (qe (jx_then (jc_ret (jx_inr (jx_thenr (jx_leaver (.inl false) (Option.some.inj h).symm (fun e_38 => ?_)))))))))
     subst e_38
     refine jx_inr (jx_thenr (jx_thenr ?_))
     obtain rfl := Option.some.inj hr_31
     exact qr [] (fun w hm => ⟨rfl, hm.pk []⟩)
    ·exact jc_skip (jx_inn (jx_then (jc_region (qh [0,0,0] (qe (qb (w64 (i_2 + 1)) () h trivial []))))))
   ·refine jc_exit (jx_thenx (jx_leave (.inr ()) (Option.some.inj h).symm (fun e_39 => ?_)))
    subst e_39
    exact jx_ine (qm () hr_31 [])
  ·rintro _ h
   replace h : spec_l07Choices.k_1 = some r := h
   rw [spec_l07Choices.k_1] at h
   refine jx_then (jc_seq (jc_region (qh [0] (qe (jx_then (jc_ret ?_))))))
   obtain rfl := Option.some.inj h
   exact qr [] (fun w hm => ⟨rfl, hm.pk []⟩)
/-! ### spec.l07Asked -/
def spec_l07Asked.k_2 (t1 : List GNote) (list2 : List GChoice) (q_1 : Bool) : Option (Int) := (if q_1 = true then some 1 else (if ((list2.length : Int) != (t1.length : Int)) = true then some 2 else some 0))
def spec_l07Asked (f0 : GFrame) (t1 : List GNote) (list2 : List GChoice) : Option (Int) := (spec_l02Frame f0).bind fun t_3 => (if (!t_3) = true then spec_l07Asked.k_2 t1 list2 true else (spec_l01Ok t1).bind fun t_4 => (if (!t_4) = true then spec_l07Asked.k_2 t1 list2 true else (spec_l07Choices list2).bind fun t_5 => spec_l07Asked.k_2 t1 list2 (!t_5)))
theorem spec_l07Asked.calls (f0 : GFrame) (t1 : List GNote) (list2 : List GChoice) (w : World) (r : Int) {C_a : Option Addr} {C_an : Nat} (C_c : Nat) (C_h : Rw w C_a 2 encGHammer f0.fHammers) (C_hn : f0.fHammers.length = C_an) {D_a : Option Addr} {D_an : Nat} (D_c : Nat) (D_h : Rw w D_a 2 encGNote t1) (D_hn : t1.length = D_an) {E_a : Option Addr} {E_an : Nat} (E_c : Nat) (E_h : Rw w E_a 4 encGChoice list2) (E_hn : list2.length = E_an) (A_b : Nat) (hm0 : Mem w (bs [some A_b]) [⟨some A_b, 27, [(.int .i16 f0.fSteps), (.slice C_a C_an C_c)]⟩] w) (C_ha : f0.fHammers ≠ [] → aB C_a ∉ bs [some A_b]) (D_ha : t1 ≠ [] → aB D_a ∉ bs [some A_b]) (E_ha : list2 ≠ [] → aB E_a ∉ bs [some A_b]) (h : spec_l07Asked f0 t1 list2 = some r) :
    Calls Tryz.prog 142 #[(.pointer (some ⟨A_b, 0, none⟩)), (.slice D_a D_an D_c), (.slice E_a E_an E_c)] w fun e w' => ∃ v, e = .returned v ∧ (v = (.int .i64 r) ∧ Mem w (bs [some A_b]) [⟨some A_b, 27, [(.int .i16 f0.fSteps), (.slice C_a C_an C_c)]⟩] w') := by
  subst C_hn D_hn E_hn
  rw [spec_l07Asked] at h
  refine enter (args := [(.pointer (some ⟨A_b, 0, none⟩)), (.slice D_a t1.length D_c), (.slice E_a list2.length E_c)]) Tryz.func142 rfl Tryz.ntmps142 (by kernel_rfl) (L := [⟨some A_b, 27, [(.int .i16 f0.fSteps), (.slice C_a f0.fHammers.length C_c)]⟩]) (W := bs [some A_b]) hm0 ?_
  refine jc_seq (jc_region (qh [0] (qe (jx_then (jc_seq (jc_seq (jc_meet (fun (j : Bool) => match j with | q_1 => spec_l07Asked.k_2 t1 list2 q_1 = some r) (fun (j : Bool) => match j with | q_1 => [(1, [], (.slice D_a t1.length D_c)), (2, [], (.slice E_a list2.length E_c)), (6, [], (.int .i64 0)), (19, [], (.bool q_1))]) (fun (j : Bool) => match j with | q_1 => [⟨some A_b, 27, [(.int .i16 f0.fSteps), (.slice C_a f0.fHammers.length C_c)]⟩]) ?_ ?_)))))))
  ·refine jc_region (qh [0] ?_)
   obtain ⟨t_3, ht_19, h⟩ := bd h
   refine tO (pc 0 (fun w hm => spec_l02Frame.calls f0 w _ C_c (hm.exRowW C_h C_ha) rfl A_b (hm.pass (N := [⟨some A_b, 27, [(.int .i16 f0.fSteps), (.slice C_a f0.fHammers.length C_c)]⟩]) [0] (by kernel_rfl) (by kernel_rfl)) (hm.exApart (N := [⟨some A_b, 27, [(.int .i16 f0.fSteps), (.slice C_a f0.fHammers.length C_c)]⟩]) C_h C_ha [0] (by kernel_rfl)) ht_19) ?_)
   rintro w v w' hm ⟨rfl, hm'⟩
   refine ⟨_, hm.appW (ps := [(0, ⟨some A_b, 27, [(.int .i16 f0.fSteps), (.slice C_a f0.fHammers.length C_c)]⟩)]) (N := []) hm' (by kernel_rfl) (by kernel_rfl), jkO ?_⟩
   clear hm hm'
   refine qf [(0, 0), (0, 0), (0, 1)] (qp 10 h (fun h => ?_) (fun h => ?_))
   ·exact qf [(0, 3), (0, 3), (0, 4), (0, 0), (0, 3), (0, 3), (0, 3), (0, 4)] (qe (qm true h [0]))
   ·obtain ⟨t_4, ht_21, h⟩ := bd h
    refine tO (pc 2 (fun w hm => spec_l01Ok.calls t1 w _ D_c (hm.exRowW D_h D_ha) rfl ht_21) ?_)
    rintro w v w' hm ⟨rfl, hm'⟩
    refine ⟨_, hm.app hm', jkO ?_⟩
    clear hm hm'
    refine qf [(0, 2), (0, 5), (0, 0), (0, 1)] (qp 15 h (fun h => ?_) (fun h => ?_))
    ·exact qf [(0, 3), (0, 3), (0, 4)] (qe (qm true h [0]))
    ·obtain ⟨t_5, ht_23, h⟩ := bd h
     refine tO (pc 2 (fun w hm => spec_l07Choices.calls list2 w _ E_c (hm.exRowW E_h E_ha) rfl ht_23) ?_)
     rintro w v w' hm ⟨rfl, hm'⟩
     refine ⟨_, hm.app hm', jkO ?_⟩
     clear hm hm'
     exact qf [(0, 2), (0, 5)] (qe (qm (!t_5) h [0]))
  ·rintro q_1 h
   replace h : spec_l07Asked.k_2 t1 list2 q_1 = some r := h
   rw [spec_l07Asked.k_2] at h
   refine jx_then (qi h (fun h => ?_) (fun h => ?_))
   ·refine jc_seq (jc_region (qh [0] (qe (jx_then (jc_ret (jx_thenr ?_))))))
    obtain rfl := Option.some.inj h
    exact qr [] (fun w hm => ⟨rfl, hm.pk [0]⟩)
   ·refine jc_skip (jx_then (jc_seq (jc_seq (jc_region (qh [0,0,0,0,0] (qe (jx_then (qi h (fun h => ?_) (fun h => ?_)))))))))
    ·refine jc_seq (jc_region (qh [0] (qe (jx_then (jc_ret (jx_thenr ?_))))))
     obtain rfl := Option.some.inj h
     exact qr [] (fun w hm => ⟨rfl, hm.pk [0]⟩)
    ·refine jc_skip (jx_then (jc_seq (jc_region (qh [0] (qe (jx_then (jc_ret ?_)))))))
     obtain rfl := Option.some.inj h
     exact qr [] (fun w hm => ⟨rfl, hm.pk [0]⟩)
/-! ### spec.l07Fit -/
def spec_l07Fit.k_2 (a_1 : Arr 96 Int) : Option ((Arr 96 Int) × Int) := some (a_1, (-1))
def spec_l07Fit.k_13 (i_4 : Int) (a_11 : Arr 96 Int) (q_12 : Bool) : Option (((Arr 96 Int) × Int) ⊕ (((Arr 96 Int) × Int) ⊕ (Arr 96 Int))) := (if q_12 = true then some (.inr (.inl ((Arr.rep 96 0), i_4))) else some (.inl (a_11, (w64 (i_4 + 1)))))
def spec_l07Fit.k_10 (f0 : GFrame) (t1 : List GNote) (list2 : List GChoice) (a_3 : Arr 96 Int) (i_4 : Int) (q_9 : Bool) : Option (((Arr 96 Int) × Int) ⊕ (((Arr 96 Int) × Int) ⊕ (Arr 96 Int))) := (if (!q_9) = true then spec_l07Fit.k_13 i_4 a_3 true else (ix t1 i_4).bind fun x_14 => (ix list2 i_4).bind fun x_15 => (spec_l07Put f0 a_3 x_14 x_15).bind fun t_16 => spec_l07Fit.k_13 i_4 t_16.2 (!t_16.1))
def spec_l07Fit.l_19 (list2 : List GChoice) (i_4 : Int) (t_8 : (List GChoice)) : (Bool × Int) → Option ((Bool × Int) ⊕ (Bool))
  | (q_17, i_18) => (if (decide (i_18 < (t_8.length : Int))) = true then (if q_17 = true then some (.inl (true, (w64 (i_18 + 1)))) else (ix t_8 i_18).bind fun x_21 => (ix list2 i_4).bind fun x_22 => some (.inl (((x_21.fAway == x_22.fAway) && ((x_21.fLate == x_22.fLate) && ((x_21.fOctave == x_22.fOctave) && (x_21.fTrack == x_22.fTrack)))), (w64 (i_18 + 1))))) else some (.inr q_17))
def spec_l07Fit.l_5 (f0 : GFrame) (t1 : List GNote) (list2 : List GChoice) : ((Arr 96 Int) × Int) → Option (((Arr 96 Int) × Int) ⊕ (((Arr 96 Int) × Int) ⊕ (Arr 96 Int)))
  | (a_3, i_4) => (if (decide (i_4 < (t1.length : Int))) = true then (ix t1 i_4).bind fun x_7 => (spec_l07For f0 x_7).bind fun t_8 => (loop (spec_l07Fit.l_19 list2 i_4 t_8) (false, 0)).bind fun t_20 => spec_l07Fit.k_10 f0 t1 list2 a_3 i_4 t_20 else some (.inr (.inr a_3)))
def spec_l07Fit (f0 : GFrame) (t1 : List GNote) (list2 : List GChoice) : Option ((Arr 96 Int) × Int) := (loop (spec_l07Fit.l_5 f0 t1 list2) ((Arr.rep 96 0), 0)).bind fun t_6 => match t_6 with | .inl p => some p | .inr p => spec_l07Fit.k_2 p
theorem spec_l07Fit.calls (f0 : GFrame) (t1 : List GNote) (list2 : List GChoice) (w : World) (r : (Arr 96 Int) × Int) {C_a : Option Addr} {C_an : Nat} (C_c : Nat) (C_h : Rw w C_a 2 encGHammer f0.fHammers) (C_hn : f0.fHammers.length = C_an) {D_a : Option Addr} {D_an : Nat} (D_c : Nat) (D_h : Rw w D_a 2 encGNote t1) (D_hn : t1.length = D_an) {E_a : Option Addr} {E_an : Nat} (E_c : Nat) (E_h : Rw w E_a 4 encGChoice list2) (E_hn : list2.length = E_an) (A_b : Nat) (hm0 : Mem w (bs [some A_b]) [⟨some A_b, 27, [(.int .i16 f0.fSteps), (.slice C_a C_an C_c)]⟩] w) (C_ha : f0.fHammers ≠ [] → aB C_a ∉ bs [some A_b]) (D_ha : t1 ≠ [] → aB D_a ∉ bs [some A_b]) (E_ha : list2 ≠ [] → aB E_a ∉ bs [some A_b]) (h : spec_l07Fit f0 t1 list2 = some r) :
    Calls Tryz.prog 143 #[(.pointer (some ⟨A_b, 0, none⟩)), (.slice D_a D_an D_c), (.slice E_a E_an E_c)] w fun e w' => ∃ v, e = .returned v ∧ (v = .tuple #[(.agg (row encU32 r.1.1 []).toArray), (.int .i64 r.2)] ∧ Mem w (bs [some A_b]) [⟨some A_b, 27, [(.int .i16 f0.fSteps), (.slice C_a C_an C_c)]⟩] w') := by
  subst C_hn D_hn E_hn
  rw [spec_l07Fit] at h
  refine enter (args := [(.pointer (some ⟨A_b, 0, none⟩)), (.slice D_a t1.length D_c), (.slice E_a list2.length E_c)]) Tryz.func143 rfl Tryz.ntmps143 (by kernel_rfl) (L := [⟨some A_b, 27, [(.int .i16 f0.fSteps), (.slice C_a f0.fHammers.length C_c)]⟩]) (W := bs [some A_b]) hm0 ?_
  refine jc_seq (jc_region (tO (qa 0 (fun b_1 => jkO (qh [0] (qe (jx_then (jc_seq (jc_region (qh [0] (tO (qa 0 (fun b_2 => jkO (tO (p_sA 0 2 b_2 96 1 40 encU32 (Arr.rep 96 0) (Arr.rep 96 0) (by kernel_rfl) (by kernel_rfl) (by kernel_rfl) encU32_len encU32_cell (by kernel_rfl) (jkO (qe (jx_then (jc_seq (jc_seq (jc_region (qh [0] (qe (jx_then (jc_meet (fun (j : (Arr 96 Int)) => match j with | a_1 => spec_l07Fit.k_2 a_1 = some r) (fun (j : (Arr 96 Int)) => match j with | a_1 => [(6, [], (.pointer (some ⟨b_1, 0, none⟩))), (7, [], (.int .i64 0)), (8, [], (.pointer (some ⟨b_2, 0, none⟩)))]) (fun (j : (Arr 96 Int)) => match j with | a_1 => [⟨some A_b, 27, [(.int .i16 f0.fSteps), (.slice C_a f0.fHammers.length C_c)]⟩, ⟨(some b_1), 40, row encU32 ((Arr.rep 96 0).1) []⟩, ⟨(some b_2), 40, row encU32 a_1.1 []⟩]) ?_ ?_)))))))))))))))))))))))))
  ·refine jc_block ?_
   obtain ⟨t_6, ht_1174, hr_1074⟩ := bd h
   refine jc_loop (fun (s : (Arr 96 Int) × Int) (x : Unit) => match s, x with | ⟨a_3, i_4⟩, _ => True) (fun (s : (Arr 96 Int) × Int) (x : Unit) => match s, x with | ⟨a_3, i_4⟩, _ => [(0, [], (.pointer (some ⟨A_b, 0, none⟩))), (1, [], (.slice D_a t1.length D_c)), (2, [], (.slice E_a list2.length E_c)), (6, [], (.pointer (some ⟨b_1, 0, none⟩))), (7, [], (.int .i64 0)), (8, [], (.pointer (some ⟨b_2, 0, none⟩))), (9, [], (.int .i64 i_4))]) (fun (s : (Arr 96 Int) × Int) (x : Unit) => match s, x with | ⟨a_3, i_4⟩, _ => [⟨some A_b, 27, [(.int .i16 f0.fSteps), (.slice C_a f0.fHammers.length C_c)]⟩, ⟨(some b_1), 40, row encU32 ((Arr.rep 96 0).1) []⟩, ⟨(some b_2), 40, row encU32 a_3.1 []⟩]) ht_1174 () trivial (by kernel_rfl) [0, 1, 2] (by kernel_rfl) (by kernel_rfl) ?_
   rintro ⟨a_3, i_4⟩ _ y_1075 _ h
   rw [spec_l07Fit.l_5] at h
   refine jc_seq (jc_seq (jc_region (qh [0,0,0,0] (qe (jx_then (qi h (fun h => ?_) (fun h => ?_)))))))
   ·refine jc_skip (jx_then (jc_seq (jc_block (jc_seq (jc_region (qh [0,0,0] ?_))))))
    obtain ⟨x_7, hx_1078, h⟩ := bd h
    refine tO (qx 0 D_a 2 hx_1078 rfl (D_h.sp hx_1078) (jkO (tO (ql 0 true (fun w hm => ((hm.exRowW D_h D_ha).at hx_1078)) (jkO ?_)))))
    obtain ⟨t_8, ht_1079, h⟩ := bd h
    refine tO (pc 0 (fun w hm => spec_l07For.calls f0 x_7 w _ C_c (hm.exRowW C_h C_ha) rfl A_b (hm.pass (N := [⟨some A_b, 27, [(.int .i16 f0.fSteps), (.slice C_a f0.fHammers.length C_c)]⟩]) [0] (by kernel_rfl) (by kernel_rfl)) (hm.exApart (N := [⟨some A_b, 27, [(.int .i16 f0.fSteps), (.slice C_a f0.fHammers.length C_c)]⟩]) C_h C_ha [0] (by kernel_rfl)) ht_1079) ?_)
    rintro w v w' hm ⟨o_1080, cap_1081, sp_1082, _, rfl, hs_1083, ho_1084, rfl, hm'⟩
    refine ⟨_, hm.appW (ps := [(0, ⟨some A_b, 27, [(.int .i16 f0.fSteps), (.slice C_a f0.fHammers.length C_c)]⟩)]) (N := [⟨o_1080, 104, row encGChoice t_8 sp_1082⟩]) hm' (by kernel_rfl) (by kernel_rfl), jkO ?_⟩
    clear hm hm'
    refine qh [0] (qe (jx_then (jc_seq (jc_region (qh [0] (qe (jx_then (jc_seq (jc_seq (jc_region (qh [0] (qe (jx_then (jc_meet (fun (j : Bool) => match j with | q_9 => spec_l07Fit.k_10 f0 t1 list2 a_3 i_4 q_9 = some y_1075) (fun (j : Bool) => match j with | q_9 => [(0, [], (.pointer (some ⟨A_b, 0, none⟩))), (1, [], (.slice D_a t1.length D_c)), (2, [], (.slice E_a list2.length E_c)), (6, [], (.pointer (some ⟨b_1, 0, none⟩))), (7, [], (.int .i64 0)), (8, [], (.pointer (some ⟨b_2, 0, none⟩))), (9, [], (.int .i64 i_4)), (11, [], (.bool q_9))]) (fun (j : Bool) => match j with | q_9 => [⟨some A_b, 27, [(.int .i16 f0.fSteps), (.slice C_a f0.fHammers.length C_c)]⟩, ⟨(some b_1), 40, row encU32 ((Arr.rep 96 0).1) []⟩, ⟨(some b_2), 40, row encU32 a_3.1 []⟩, ⟨o_1080, 104, row encGChoice t_8 sp_1082⟩]) ?_ ?_))))))))))))))
    ·refine jc_block ?_
     obtain ⟨t_20, ht_1172, hr_1164⟩ := bd h
     refine jc_loop (fun (s : Bool × Int) (x : Unit) => match s, x with | ⟨q_17, i_18⟩, _ => True) (fun (s : Bool × Int) (x : Unit) => match s, x with | ⟨q_17, i_18⟩, _ => [(0, [], (.pointer (some ⟨A_b, 0, none⟩))), (1, [], (.slice D_a t1.length D_c)), (2, [], (.slice E_a list2.length E_c)), (6, [], (.pointer (some ⟨b_1, 0, none⟩))), (7, [], (.int .i64 0)), (8, [], (.pointer (some ⟨b_2, 0, none⟩))), (9, [], (.int .i64 i_4)), (10, [], (.slice (o_1080.map fun b => ⟨b, 0, none⟩) t_8.length cap_1081)), (11, [], (.bool q_17)), (12, [], (.int .i64 i_18))]) (fun (s : Bool × Int) (x : Unit) => match s, x with | ⟨q_17, i_18⟩, _ => [⟨some A_b, 27, [(.int .i16 f0.fSteps), (.slice C_a f0.fHammers.length C_c)]⟩, ⟨(some b_1), 40, row encU32 ((Arr.rep 96 0).1) []⟩, ⟨(some b_2), 40, row encU32 a_3.1 []⟩, ⟨o_1080, 104, row encGChoice t_8 sp_1082⟩]) ht_1172 () trivial (by kernel_rfl) [0, 1, 2, 3] (by kernel_rfl) (by kernel_rfl) ?_
     rintro ⟨q_17, i_18⟩ _ y_1165 _ h
     rw [spec_l07Fit.l_19] at h
     refine jc_seq (jc_seq (jc_region (qh [0,0,0,0] (qe (jx_then (qi h (fun h => ?_) (fun h => ?_)))))))
     ·refine jc_skip (jx_then (jc_seq (jc_block (qg [⟨some A_b, 27, [(.int .i16 f0.fSteps), (.slice C_a f0.fHammers.length C_c)]⟩, ⟨(some b_1), 40, row encU32 ((Arr.rep 96 0).1) []⟩, ⟨(some b_2), 40, row encU32 a_3.1 []⟩, ⟨o_1080, 104, row encGChoice t_8 sp_1082⟩] 13 (qd [⟨0, 0, 0⟩,⟨1, 0, 0⟩,⟨2, 0, 1⟩,⟨3, 0, 1⟩,⟨6, 0, 1⟩,⟨7, 0, 1⟩] 7 [0, 1, 2, 3] (jd_split 33 q_17 (by kernel_rfl) (fun hc_1168 => ?_) (fun hc_1168 => ?_)))))))
      ·replace h := ifT hc_1168 h
       exact qd [⟨4, 0, 3⟩,⟨5, 0, 3⟩,⟨8, 0, 3⟩,⟨9, 0, 3⟩,⟨10, 0, 3⟩,⟨11, 0, 4⟩,⟨12, 0, 0⟩] 0 [0, 1, 2, 3] (qz (jx_inn (jx_then (jc_region (qh [0,0,0] (qe (qb (true, (w64 (i_18 + 1))) () h trivial [0, 1, 2, 3])))))))
      ·replace h := ifF hc_1168 h
       obtain ⟨x_21, hx_1169, h⟩ := bd h
       refine qv 4 2 [0, 1, 2, 3] (fun w hm => idx_run (a := (o_1080.map fun b => ⟨b, 0, none⟩)) (len := t_8.length) (s := 4) (j := i_18) (by kernel_rfl) (ix_some hx_1169).1 (ltn hx_1169 rfl) (spo ho_1084 hx_1169)) (qv 5 2 [0, 1, 2, 3] (fun w hm => ld_run (b := aB (o_1080.map fun b => ⟨b, 0, none⟩)) (off := (aO (o_1080.map fun b => ⟨b, 0, none⟩) + i_18.toNat * 4)) (s := 4) (agg := true) (vs := (encGChoice x_21)) (by kernel_rfl) (by kernel_rfl) (.inl rfl) ((hm.ow 3 o_1080 104 t_8 sp_1082 (fun e => (ho_1084 e).1) encGChoice_len).at hx_1169)) ?_)
       obtain ⟨x_22, hx_1170, h⟩ := bd h
       exact qv 8 2 [0, 1, 2, 3] (fun w hm => idx_run (a := E_a) (len := list2.length) (s := 4) (j := i_4) (by kernel_rfl) (ix_some hx_1170).1 (ltn hx_1170 rfl) (E_h.sp hx_1170)) (qv 9 2 [0, 1, 2, 3] (fun w hm => ld_run (b := aB E_a) (off := (aO E_a + i_4.toNat * 4)) (s := 4) (agg := true) (vs := (encGChoice x_22)) (by kernel_rfl) (by kernel_rfl) (.inl rfl) ((hm.exRowW E_h E_ha).at hx_1170)) (qd [⟨10, 0, 2⟩,⟨11, 0, 5⟩,⟨12, 0, 0⟩] 0 [0, 1, 2, 3] (qz (jx_inn (jx_then (jc_region (qh [0,0,0] (qe (qb (((x_21.fAway == x_22.fAway) && ((x_21.fLate == x_22.fLate) && ((x_21.fOctave == x_22.fOctave) && (x_21.fTrack == x_22.fTrack)))), (w64 (i_18 + 1))) () h trivial [0, 1, 2, 3])))))))))
     ·refine jc_exit (jx_thenx (jx_leave q_17 (Option.some.inj h).symm (fun e_1171 => ?_)))
      subst e_1171
      exact jx_ine (qm q_17 hr_1164 [0, 1, 2, 3])
    ·rintro q_9 h
     replace h : spec_l07Fit.k_10 f0 t1 list2 a_3 i_4 q_9 = some y_1075 := h
     rw [spec_l07Fit.k_10] at h
     refine jx_then (jc_seq (jc_meet (fun (j : (Arr 96 Int) × Bool) => match j with | ⟨a_11, q_12⟩ => spec_l07Fit.k_13 i_4 a_11 q_12 = some y_1075) (fun (j : (Arr 96 Int) × Bool) => match j with | ⟨a_11, q_12⟩ => [(0, [], (.pointer (some ⟨A_b, 0, none⟩))), (1, [], (.slice D_a t1.length D_c)), (2, [], (.slice E_a list2.length E_c)), (6, [], (.pointer (some ⟨b_1, 0, none⟩))), (7, [], (.int .i64 0)), (8, [], (.pointer (some ⟨b_2, 0, none⟩))), (9, [], (.int .i64 i_4)), (58, [], (.bool q_12))]) (fun (j : (Arr 96 Int) × Bool) => match j with | ⟨a_11, q_12⟩ => [⟨some A_b, 27, [(.int .i16 f0.fSteps), (.slice C_a f0.fHammers.length C_c)]⟩, ⟨(some b_1), 40, row encU32 ((Arr.rep 96 0).1) []⟩, ⟨(some b_2), 40, row encU32 a_11.1 []⟩, ⟨o_1080, 104, row encGChoice t_8 sp_1082⟩]) ?_ ?_))
     ·refine qg [⟨some A_b, 27, [(.int .i16 f0.fSteps), (.slice C_a f0.fHammers.length C_c)]⟩, ⟨(some b_1), 40, row encU32 ((Arr.rep 96 0).1) []⟩, ⟨o_1080, 104, row encGChoice t_8 sp_1082⟩] 15 (qd [⟨0, 0, 0⟩,⟨1, 0, 0⟩,⟨2, 0, 0⟩,⟨3, 0, 1⟩,⟨4, 0, 1⟩,⟨5, 0, 1⟩,⟨8, 0, 1⟩,⟨9, 0, 1⟩] 7 [0, 1, 3] (jd_split 46 (!q_9) (by kernel_rfl) (fun hc_1151 => ?_) (fun hc_1151 => ?_)))
      ·replace h := ifT hc_1151 h
       exact qd [⟨6, 0, 3⟩,⟨7, 0, 3⟩,⟨10, 0, 3⟩,⟨11, 0, 3⟩,⟨12, 0, 3⟩,⟨13, 0, 3⟩,⟨14, 0, 4⟩] 0 [0, 1, 3] (qz (qm ⟨a_3, true⟩ h [0, 1, 2, 3]))
      ·replace h := ifF hc_1151 h
       obtain ⟨x_14, hx_1152, h⟩ := bd h
       refine qv 6 2 [0, 1, 3] (fun w hm => idx_run (a := D_a) (len := t1.length) (s := 2) (j := i_4) (by kernel_rfl) (ix_some hx_1152).1 (ltn hx_1152 rfl) (D_h.sp hx_1152)) (qv 7 2 [0, 1, 3] (fun w hm => ld_run (b := aB D_a) (off := (aO D_a + i_4.toNat * 2)) (s := 2) (agg := true) (vs := (encGNote x_14)) (by kernel_rfl) (by kernel_rfl) (.inl rfl) ((hm.exRowW D_h D_ha).at hx_1152)) ?_)
       obtain ⟨x_15, hx_1153, h⟩ := bd h
       refine qv 10 2 [0, 1, 3] (fun w hm => idx_run (a := E_a) (len := list2.length) (s := 4) (j := i_4) (by kernel_rfl) (ix_some hx_1153).1 (ltn hx_1153 rfl) (E_h.sp hx_1153)) (qv 11 2 [0, 1, 3] (fun w hm => ld_run (b := aB E_a) (off := (aO E_a + i_4.toNat * 4)) (s := 4) (agg := true) (vs := (encGChoice x_15)) (by kernel_rfl) (by kernel_rfl) (.inl rfl) ((hm.exRowW E_h E_ha).at hx_1153)) ?_)
       obtain ⟨t_16, ht_1154, h⟩ := bd h
       refine tD 12 (pc 2 (fun w hm => spec_l07Put.calls f0 a_3 x_14 x_15 w _ C_c (hm.exRowW C_h C_ha) rfl A_b b_2 (hm.pass (N := [⟨some A_b, 27, [(.int .i16 f0.fSteps), (.slice C_a f0.fHammers.length C_c)]⟩, ⟨(some b_2), 40, row encU32 a_3.1 []⟩]) [0, 2] (by kernel_rfl) (by kernel_rfl)) (hm.exApart (N := [⟨some A_b, 27, [(.int .i16 f0.fSteps), (.slice C_a f0.fHammers.length C_c)]⟩, ⟨(some b_2), 40, row encU32 a_3.1 []⟩]) C_h C_ha [0, 2] (by kernel_rfl)) ht_1154) ?_)
       rintro w v w' hm ⟨rfl, hm'⟩
       refine ⟨_, hm.appW (ps := [(0, ⟨some A_b, 27, [(.int .i16 f0.fSteps), (.slice C_a f0.fHammers.length C_c)]⟩), (2, ⟨(some b_2), 40, row encU32 t_16.2.1 []⟩)]) (N := []) hm' (by kernel_rfl) (by kernel_rfl), kD [0, 1, 3] ?_⟩
       clear hm hm'
       exact qd [⟨13, 0, 2⟩,⟨14, 0, 5⟩] 0 [0, 1, 3] (qz (qm ⟨t_16.2, (!t_16.1)⟩ h [0, 1, 2, 3]))
     ·rintro ⟨a_11, q_12⟩ h
      replace h : spec_l07Fit.k_13 i_4 a_11 q_12 = some y_1075 := h
      rw [spec_l07Fit.k_13] at h
      refine jx_then (qi h (fun h => ?_) (fun h => ?_))
      ·refine jc_seq (jc_region (qh [0,0] (tO (p_sA 0 1 b_1 96 1 40 encU32 (Arr.rep 96 0) (Arr.rep 96 0) (by kernel_rfl) (by kernel_rfl) (by kernel_rfl) encU32_len encU32_cell (by kernel_rfl) (jkO (qh [0] (qe (jx_then (jc_ret (jx_inr (jx_thenr (jx_leaver (.inl ((Arr.rep 96 0), i_4)) (Option.some.inj h).symm (fun e_1147 => ?_)))))))))))))
       subst e_1147
       refine jx_inr (jx_thenr (jx_thenr ?_))
       obtain rfl := Option.some.inj hr_1074
       exact jx_retV rfl (rq_arr (b := b_1) (T' := 40) (hh := 1) (mm := 1) encU32 (Arr.rep 96 0) (by kernel_rfl) (by kernel_rfl) encU32_len (by kernel_rfl) (rq_tmp (by kernel_rfl) rq_nil)) (fun w hm => ⟨rfl, hm.pk [0]⟩)
      ·exact jc_skip (jx_inn (jx_then (jc_region (qh [0,0,0] (qe (qb (a_11, (w64 (i_4 + 1))) () h trivial [0, 1, 2]))))))
   ·refine jc_exit (jx_thenx (jx_leave (.inr a_3) (Option.some.inj h).symm (fun e_1173 => ?_)))
    subst e_1173
    exact jx_ine (qm a_3 hr_1074 [0, 1, 2])
  ·rintro a_1 h
   replace h : spec_l07Fit.k_2 a_1 = some r := h
   rw [spec_l07Fit.k_2] at h
   refine jx_then (jc_seq (jc_region (tO (p_ldA 0 2 b_2 96 1 40 encU32 a_1 (by kernel_rfl) (by kernel_rfl) (by kernel_rfl) encU32_len (by kernel_rfl) (jkO (tO (p_sA 0 1 b_1 96 1 40 encU32 (Arr.rep 96 0) a_1 (by kernel_rfl) (by kernel_rfl) (by kernel_rfl) encU32_len encU32_cell (by kernel_rfl) (jkO (qh [0] (qe (jx_then (jc_ret ?_))))))))))))
   obtain rfl := Option.some.inj h
   exact jx_retV rfl (rq_arr (b := b_1) (T' := 40) (hh := 1) (mm := 1) encU32 a_1 (by kernel_rfl) (by kernel_rfl) encU32_len (by kernel_rfl) (rq_tmp (by kernel_rfl) rq_nil)) (fun w hm => ⟨rfl, hm.pk [0]⟩)
/-! ### spec.l07Drum -/
def spec_l07Drum (f0 : GFrame) (t1 : List GNote) (list2 : List GChoice) : Option ((Arr 96 Int) × Int) := (spec_l07Asked f0 t1 list2).bind fun t_1 => (if (t_1 != 0) = true then some ((Arr.rep 96 0), t_1) else (spec_l07Fit f0 t1 list2).bind fun t_2 => (if (decide (t_2.2 ≥ 0)) = true then some ((Arr.rep 96 0), 4) else some (t_2.1, 0)))
theorem spec_l07Drum.calls (f0 : GFrame) (t1 : List GNote) (list2 : List GChoice) (w : World) (r : (Arr 96 Int) × Int) {C_a : Option Addr} {C_an : Nat} (C_c : Nat) (C_h : Rw w C_a 2 encGHammer f0.fHammers) (C_hn : f0.fHammers.length = C_an) {D_a : Option Addr} {D_an : Nat} (D_c : Nat) (D_h : Rw w D_a 2 encGNote t1) (D_hn : t1.length = D_an) {E_a : Option Addr} {E_an : Nat} (E_c : Nat) (E_h : Rw w E_a 4 encGChoice list2) (E_hn : list2.length = E_an) (A_b : Nat) (hm0 : Mem w (bs [some A_b]) [⟨some A_b, 27, [(.int .i16 f0.fSteps), (.slice C_a C_an C_c)]⟩] w) (C_ha : f0.fHammers ≠ [] → aB C_a ∉ bs [some A_b]) (D_ha : t1 ≠ [] → aB D_a ∉ bs [some A_b]) (E_ha : list2 ≠ [] → aB E_a ∉ bs [some A_b]) (h : spec_l07Drum f0 t1 list2 = some r) :
    Calls Tryz.prog 74 #[(.pointer (some ⟨A_b, 0, none⟩)), (.slice D_a D_an D_c), (.slice E_a E_an E_c)] w fun e w' => ∃ v, e = .returned v ∧ (v = .tuple #[(.agg (row encU32 r.1.1 []).toArray), (.int .i64 r.2)] ∧ Mem w (bs [some A_b]) [⟨some A_b, 27, [(.int .i16 f0.fSteps), (.slice C_a C_an C_c)]⟩] w') := by
  subst C_hn D_hn E_hn
  rw [spec_l07Drum] at h
  refine enter (args := [(.pointer (some ⟨A_b, 0, none⟩)), (.slice D_a t1.length D_c), (.slice E_a list2.length E_c)]) Tryz.func74 rfl Tryz.ntmps74 (by kernel_rfl) (L := [⟨some A_b, 27, [(.int .i16 f0.fSteps), (.slice C_a f0.fHammers.length C_c)]⟩]) (W := bs [some A_b]) hm0 ?_
  refine jc_seq (jc_region (tO (qa 0 (fun b_1 => jkO (qh [0] (qe (jx_then (jc_seq (jc_seq (jc_region (qh [0,0,0] ?_)))))))))))
  obtain ⟨t_1, ht_4, h⟩ := bd h
  refine tO (pc 0 (fun w hm => spec_l07Asked.calls f0 t1 list2 w _ C_c (hm.exRowW C_h C_ha) rfl D_c (hm.exRowW D_h D_ha) rfl E_c (hm.exRowW E_h E_ha) rfl A_b (hm.pass (N := [⟨some A_b, 27, [(.int .i16 f0.fSteps), (.slice C_a f0.fHammers.length C_c)]⟩]) [0] (by kernel_rfl) (by kernel_rfl)) (hm.exApart (N := [⟨some A_b, 27, [(.int .i16 f0.fSteps), (.slice C_a f0.fHammers.length C_c)]⟩]) C_h C_ha [0] (by kernel_rfl)) (hm.exApart (N := [⟨some A_b, 27, [(.int .i16 f0.fSteps), (.slice C_a f0.fHammers.length C_c)]⟩]) D_h D_ha [0] (by kernel_rfl)) (hm.exApart (N := [⟨some A_b, 27, [(.int .i16 f0.fSteps), (.slice C_a f0.fHammers.length C_c)]⟩]) E_h E_ha [0] (by kernel_rfl)) ht_4) ?_)
  rintro w v w' hm ⟨rfl, hm'⟩
  refine ⟨_, hm.appW (ps := [(0, ⟨some A_b, 27, [(.int .i16 f0.fSteps), (.slice C_a f0.fHammers.length C_c)]⟩)]) (N := []) hm' (by kernel_rfl) (by kernel_rfl), jkO ?_⟩
  clear hm hm'
  refine qh [0] (qe (jx_then (jc_seq (jc_region (qh [0,0] (qe (jx_then (qi h (fun h => ?_) (fun h => ?_)))))))))
  ·refine jc_seq (jc_region (qh [0,0] (tO (p_sA 0 1 b_1 96 1 40 encU32 (Arr.rep 96 0) (Arr.rep 96 0) (by kernel_rfl) (by kernel_rfl) (by kernel_rfl) encU32_len encU32_cell (by kernel_rfl) (jkO (qh [0] (qe (jx_then (jc_ret (jx_thenr ?_))))))))))
   obtain rfl := Option.some.inj h
   exact jx_retV rfl (rq_arr (b := b_1) (T' := 40) (hh := 1) (mm := 1) encU32 (Arr.rep 96 0) (by kernel_rfl) (by kernel_rfl) encU32_len (by kernel_rfl) (rq_tmp (by kernel_rfl) rq_nil)) (fun w hm => ⟨rfl, hm.pk [0]⟩)
  ·refine jc_skip (jx_then (jc_seq (jc_region (qh [0,0,0] ?_))))
   obtain ⟨t_2, ht_6, h⟩ := bd h
   refine tO (pc 0 (fun w hm => spec_l07Fit.calls f0 t1 list2 w _ C_c (hm.exRowW C_h C_ha) rfl D_c (hm.exRowW D_h D_ha) rfl E_c (hm.exRowW E_h E_ha) rfl A_b (hm.pass (N := [⟨some A_b, 27, [(.int .i16 f0.fSteps), (.slice C_a f0.fHammers.length C_c)]⟩]) [0] (by kernel_rfl) (by kernel_rfl)) (hm.exApart (N := [⟨some A_b, 27, [(.int .i16 f0.fSteps), (.slice C_a f0.fHammers.length C_c)]⟩]) C_h C_ha [0] (by kernel_rfl)) (hm.exApart (N := [⟨some A_b, 27, [(.int .i16 f0.fSteps), (.slice C_a f0.fHammers.length C_c)]⟩]) D_h D_ha [0] (by kernel_rfl)) (hm.exApart (N := [⟨some A_b, 27, [(.int .i16 f0.fSteps), (.slice C_a f0.fHammers.length C_c)]⟩]) E_h E_ha [0] (by kernel_rfl)) ht_6) ?_)
   rintro w v w' hm ⟨rfl, hm'⟩
   refine ⟨_, hm.appW (ps := [(0, ⟨some A_b, 27, [(.int .i16 f0.fSteps), (.slice C_a f0.fHammers.length C_c)]⟩)]) (N := []) hm' (by kernel_rfl) (by kernel_rfl), jkO ?_⟩
   clear hm hm'
   refine qh [0,0,0] (tO (qa 0 (fun b_7 => jkO (tO (p_sA 0 2 b_7 96 1 40 encU32 (Arr.rep 96 0) t_2.1 (by kernel_rfl) (by kernel_rfl) (by kernel_rfl) encU32_len encU32_cell (by kernel_rfl) (jkO (qh [0] (qe (jx_then (jc_seq (jc_seq (jc_region (qh [0,0] (qe (jx_then (qi h (fun h => ?_) (fun h => ?_)))))))))))))))))
   ·refine jc_seq (jc_region (qh [0] (tO (p_sA 0 1 b_1 96 1 40 encU32 (Arr.rep 96 0) (Arr.rep 96 0) (by kernel_rfl) (by kernel_rfl) (by kernel_rfl) encU32_len encU32_cell (by kernel_rfl) (jkO (qh [0] (qe (jx_then (jc_ret (jx_thenr ?_))))))))))
    obtain rfl := Option.some.inj h
    exact jx_retV rfl (rq_arr (b := b_1) (T' := 40) (hh := 1) (mm := 1) encU32 (Arr.rep 96 0) (by kernel_rfl) (by kernel_rfl) encU32_len (by kernel_rfl) (rq_tmp (by kernel_rfl) rq_nil)) (fun w hm => ⟨rfl, hm.pk [0]⟩)
   ·refine jc_skip (jx_then (jc_seq (jc_region (tO (p_ldA 0 2 b_7 96 1 40 encU32 t_2.1 (by kernel_rfl) (by kernel_rfl) (by kernel_rfl) encU32_len (by kernel_rfl) (jkO (tO (p_sA 0 1 b_1 96 1 40 encU32 (Arr.rep 96 0) t_2.1 (by kernel_rfl) (by kernel_rfl) (by kernel_rfl) encU32_len encU32_cell (by kernel_rfl) (jkO (qh [0] (qe (jx_then (jc_ret ?_)))))))))))))
    obtain rfl := Option.some.inj h
    exact jx_retV rfl (rq_arr (b := b_1) (T' := 40) (hh := 1) (mm := 1) encU32 t_2.1 (by kernel_rfl) (by kernel_rfl) encU32_len (by kernel_rfl) (rq_tmp (by kernel_rfl) rq_nil)) (fun w hm => ⟨rfl, hm.pk [0]⟩)
/-! ### spec.KeptNotes -/
def spec_KeptNotes.k_3 (i_2 : Int) : Option (Int × Int) := some (i_2, 0)
def spec_KeptNotes.l_6 (list2 : List GChoice) : (Int × Int) → Option ((Int × Int) ⊕ (Int))
  | (i_4, i_5) => (if (decide (i_5 < (list2.length : Int))) = true then (ix list2 i_5).bind fun x_8 => (if (!x_8.fAway) = true then some (.inl ((w64 (i_4 + 1)), (w64 (i_5 + 1)))) else some (.inl (i_4, (w64 (i_5 + 1))))) else some (.inr i_4))
def spec_KeptNotes (f0 : GFrame) (t1 : List GNote) (list2 : List GChoice) : Option (Int × Int) := (spec_l07Drum f0 t1 list2).bind fun t_1 => (if (t_1.2 != 0) = true then some (0, t_1.2) else (loop (spec_KeptNotes.l_6 list2) (0, 0)).bind fun t_7 => spec_KeptNotes.k_3 t_7)
theorem spec_KeptNotes.calls (f0 : GFrame) (t1 : List GNote) (list2 : List GChoice) (w : World) (r : Int × Int) {C_a : Option Addr} {C_an : Nat} (C_c : Nat) (C_h : Rw w C_a 2 encGHammer f0.fHammers) (C_hn : f0.fHammers.length = C_an) {D_a : Option Addr} {D_an : Nat} (D_c : Nat) (D_h : Rw w D_a 2 encGNote t1) (D_hn : t1.length = D_an) {E_a : Option Addr} {E_an : Nat} (E_c : Nat) (E_h : Rw w E_a 4 encGChoice list2) (E_hn : list2.length = E_an) (h : spec_KeptNotes f0 t1 list2 = some r) :
    Calls Tryz.prog 37 #[(.agg #[(.int .i16 f0.fSteps), (.slice C_a C_an C_c)]), (.slice D_a D_an D_c), (.slice E_a E_an E_c)] w fun e w' => ∃ v, e = .returned v ∧ (v = .tuple #[(.int .i64 r.1), (.int .i64 r.2)] ∧ Mem w [] [] w') := by
  subst C_hn D_hn E_hn
  rw [spec_KeptNotes] at h
  refine enter (args := [(.agg #[(.int .i16 f0.fSteps), (.slice C_a f0.fHammers.length C_c)]), (.slice D_a t1.length D_c), (.slice E_a list2.length E_c)]) Tryz.func37 rfl Tryz.ntmps37 (by kernel_rfl) (L := []) (W := []) (Mem.start w) ?_
  refine jc_seq (jc_region (tO (qa 0 (fun b_1 => jkO (qh [0,0] (qe (jx_then (jc_seq (jc_seq (jc_region (qh [0,0] ?_)))))))))))
  obtain ⟨t_1, ht_5, h⟩ := bd h
  refine tO (pc 0 (fun w hm => spec_l07Drum.calls f0 t1 list2 w _ C_c (hm.xr C_h) rfl D_c (hm.xr D_h) rfl E_c (hm.xr E_h) rfl b_1 (hm.pass (N := [⟨some b_1, 27, [(.int .i16 f0.fSteps), (.slice C_a f0.fHammers.length C_c)]⟩]) [0] (by kernel_rfl) (by kernel_rfl)) (hm.exApart (N := [⟨some b_1, 27, [(.int .i16 f0.fSteps), (.slice C_a f0.fHammers.length C_c)]⟩]) C_h (fun _ => List.not_mem_nil) [0] (by kernel_rfl)) (hm.exApart (N := [⟨some b_1, 27, [(.int .i16 f0.fSteps), (.slice C_a f0.fHammers.length C_c)]⟩]) D_h (fun _ => List.not_mem_nil) [0] (by kernel_rfl)) (hm.exApart (N := [⟨some b_1, 27, [(.int .i16 f0.fSteps), (.slice C_a f0.fHammers.length C_c)]⟩]) E_h (fun _ => List.not_mem_nil) [0] (by kernel_rfl)) ht_5) ?_)
  rintro w v w' hm ⟨rfl, hm'⟩
  refine ⟨_, hm.appW (ps := [(0, ⟨some b_1, 27, [(.int .i16 f0.fSteps), (.slice C_a f0.fHammers.length C_c)]⟩)]) (N := []) hm' (by kernel_rfl) (by kernel_rfl), jkO ?_⟩
  clear hm hm'
  refine qh [0,0,0] (tO (qa 0 (fun b_6 => jkO (tO (p_sA 0 1 b_6 96 1 40 encU32 (Arr.rep 96 0) t_1.1 (by kernel_rfl) (by kernel_rfl) (by kernel_rfl) encU32_len encU32_cell (by kernel_rfl) (jkO (qh [0] (qe (jx_then (jc_seq (jc_region (qh [0,0] (qe (jx_then (qi h (fun h => ?_) (fun h => ?_))))))))))))))))
  ·refine jc_seq (jc_region (qh [0,0,0] (qe (jx_then (jc_ret (jx_thenr ?_))))))
   obtain rfl := Option.some.inj h
   exact qr [] (fun w hm => ⟨rfl, hm.pk []⟩)
  ·refine jc_skip (jx_then (jc_seq (jc_region (qh [0] (qe (jx_then (jc_seq (jc_seq (jc_region (qh [0] (qe (jx_then (jc_meet (fun (j : Int) => match j with | i_2 => spec_KeptNotes.k_3 i_2 = some r) (fun (j : Int) => match j with | i_2 => [(6, [], (.int .i64 0)), (7, [], (.int .i64 0)), (10, [], (.int .i64 i_2))]) (fun (j : Int) => match j with | i_2 => [⟨some b_1, 27, [(.int .i16 f0.fSteps), (.slice C_a f0.fHammers.length C_c)]⟩, ⟨(some b_6), 40, row encU32 t_1.1.1 []⟩]) ?_ ?_)))))))))))))
   ·refine jc_block ?_
    obtain ⟨t_7, ht_71, hr_64⟩ := bd h
    refine jc_loop (fun (s : Int × Int) (x : Unit) => match s, x with | ⟨i_4, i_5⟩, _ => True) (fun (s : Int × Int) (x : Unit) => match s, x with | ⟨i_4, i_5⟩, _ => [(2, [], (.slice E_a list2.length E_c)), (6, [], (.int .i64 0)), (7, [], (.int .i64 0)), (10, [], (.int .i64 i_4)), (11, [], (.int .i64 i_5))]) (fun (s : Int × Int) (x : Unit) => match s, x with | ⟨i_4, i_5⟩, _ => [⟨some b_1, 27, [(.int .i16 f0.fSteps), (.slice C_a f0.fHammers.length C_c)]⟩, ⟨(some b_6), 40, row encU32 t_1.1.1 []⟩]) ht_71 () trivial (by kernel_rfl) [0, 1] (by kernel_rfl) (by kernel_rfl) ?_
    rintro ⟨i_4, i_5⟩ _ y_65 _ h
    rw [spec_KeptNotes.l_6] at h
    refine jc_seq (jc_seq (jc_region (qh [0,0,0,0] (qe (jx_then (qi h (fun h => ?_) (fun h => ?_)))))))
    ·refine jc_skip (jx_then (jc_seq (jc_block (jc_seq (jc_region (qh [0,0] ?_))))))
     obtain ⟨x_8, hx_68, h⟩ := bd h
     refine tO (qx 0 E_a 4 hx_68 rfl (E_h.sp hx_68) (jkO (qh [0] (tO (ql 0 false (fun w hm => (((hm.xr E_h).at hx_68).sub 0 1)) (jkO (qh [0] (qe (jx_then (qi h (fun h => ?_) (fun h => ?_)))))))))))
     ·exact jc_region (qh [0,0,0] (qe (jx_inn (jx_then (jc_region (qh [0,0,0] (qe (qb ((w64 (i_4 + 1)), (w64 (i_5 + 1))) () h trivial [0, 1]))))))))
     ·exact jc_skip (jx_inn (jx_then (jc_region (qh [0,0,0] (qe (qb (i_4, (w64 (i_5 + 1))) () h trivial [0, 1]))))))
    ·refine jc_exit (jx_thenx (jx_leave i_4 (Option.some.inj h).symm (fun e_70 => ?_)))
     subst e_70
     exact jx_ine (qm i_4 hr_64 [0, 1])
   ·rintro i_2 h
    replace h : spec_KeptNotes.k_3 i_2 = some r := h
    rw [spec_KeptNotes.k_3] at h
    refine jx_then (jc_seq (jc_region (qh [0,0,0] (qe (jx_then (jc_ret ?_))))))
    obtain rfl := Option.some.inj h
    exact qr [] (fun w hm => ⟨rfl, hm.pk []⟩)
/-! ### impl.MostKept -/
def impl_MostKept (f0 : GFrame) (t1 : List GNote) (budget2 : Int) : Option (Int × Int) := (impl_Arrange f0 t1 (⟨1, 0, 0⟩ : GCosts) budget2).bind fun t_1 => (if (t_1.2.2 != 0) = true then some (0, t_1.2.2) else (impl_size_Note t1).bind fun t_2 => some ((w64 (t_2 - t_1.2.1)), 0))
theorem impl_MostKept.calls (f0 : GFrame) (t1 : List GNote) (budget2 : Int) (w : World) (r : Int × Int) {C_a : Option Addr} {C_an : Nat} (C_c : Nat) (C_h : Rw w C_a 2 encGHammer f0.fHammers) (C_hn : f0.fHammers.length = C_an) {D_a : Option Addr} {D_an : Nat} (D_c : Nat) (D_h : Rw w D_a 2 encGNote t1) (D_hn : t1.length = D_an) (h : impl_MostKept f0 t1 budget2 = some r) :
    Calls Tryz.prog 38 #[(.agg #[(.int .i16 f0.fSteps), (.slice C_a C_an C_c)]), (.slice D_a D_an D_c), (.int .i64 budget2)] w fun e w' => ∃ v, e = .returned v ∧ (v = .tuple #[(.int .i64 r.1), (.int .i64 r.2)] ∧ Mem w [] [] w') := by
  subst C_hn D_hn
  rw [impl_MostKept] at h
  refine enter (args := [(.agg #[(.int .i16 f0.fSteps), (.slice C_a f0.fHammers.length C_c)]), (.slice D_a t1.length D_c), (.int .i64 budget2)]) Tryz.func38 rfl Tryz.ntmps38 (by kernel_rfl) (L := []) (W := []) (Mem.start w) ?_
  refine jc_seq (jc_region (tO (qa 0 (fun b_1 => jkO (qh [0,0] (qe (jx_then (jc_seq (jc_region (qh [0,0,0,0] ?_))))))))))
  obtain ⟨t_1, ht_2, h⟩ := bd h
  refine tO (pc 0 (fun w hm => impl_Arrange.calls f0 t1 (⟨1, 0, 0⟩ : GCosts) budget2 w _ C_c (hm.xr C_h) rfl D_c (hm.xr D_h) rfl ht_2) ?_)
  rintro w v w' hm ⟨o_3, cap_4, sp_5, _, rfl, hs_6, ho_7, rfl, hm'⟩
  refine ⟨_, hm.app hm', jkO ?_⟩
  clear hm hm'
  refine qh [0,0,0,0,0,0,0] (qe (jx_then (jc_seq (jc_seq (jc_region (qh [0,0] (qe (jx_then (qi h (fun h => ?_) (fun h => ?_))))))))))
  ·refine jc_seq (jc_region (qh [0,0,0] (qe (jx_then (jc_ret (jx_thenr ?_))))))
   obtain rfl := Option.some.inj h
   exact qr [] (fun w hm => ⟨rfl, hm.pk []⟩)
  ·refine jc_skip (jx_then (jc_seq (jc_region (qh [0] ?_))))
   obtain ⟨t_2, ht_10, h⟩ := bd h
   refine tO (pc 0 (fun w hm => impl_size_Note.calls t1 w _ D_c (hm.xr D_h) rfl ht_10) ?_)
   rintro w v w' hm ⟨rfl, hm'⟩
   refine ⟨_, hm.app hm', jkO ?_⟩
   clear hm hm'
   refine qh [0,0,0,0] (qe (jx_then (jc_ret ?_)))
   obtain rfl := Option.some.inj h
   exact qr [] (fun w hm => ⟨rfl, hm.pk []⟩)
/-! ### spec.MostKept -/
def spec_MostKept (f0 : GFrame) (t1 : List GNote) (budget2 : Int) : Option (Int × Int) := (spec_l07Arrange f0 t1 (⟨1, 0, 0⟩ : GCosts) budget2).bind fun t_1 => (if (t_1.2.2 != 0) = true then some (0, t_1.2.2) else some ((w64 ((t1.length : Int) - t_1.2.1)), 0))
theorem spec_MostKept.calls (f0 : GFrame) (t1 : List GNote) (budget2 : Int) (w : World) (r : Int × Int) {C_a : Option Addr} {C_an : Nat} (C_c : Nat) (C_h : Rw w C_a 2 encGHammer f0.fHammers) (C_hn : f0.fHammers.length = C_an) {D_a : Option Addr} {D_an : Nat} (D_c : Nat) (D_h : Rw w D_a 2 encGNote t1) (D_hn : t1.length = D_an) (h : spec_MostKept f0 t1 budget2 = some r) :
    Calls Tryz.prog 39 #[(.agg #[(.int .i16 f0.fSteps), (.slice C_a C_an C_c)]), (.slice D_a D_an D_c), (.int .i64 budget2)] w fun e w' => ∃ v, e = .returned v ∧ (v = .tuple #[(.int .i64 r.1), (.int .i64 r.2)] ∧ Mem w [] [] w') := by
  subst C_hn D_hn
  rw [spec_MostKept] at h
  refine enter (args := [(.agg #[(.int .i16 f0.fSteps), (.slice C_a f0.fHammers.length C_c)]), (.slice D_a t1.length D_c), (.int .i64 budget2)]) Tryz.func39 rfl Tryz.ntmps39 (by kernel_rfl) (L := []) (W := []) (Mem.start w) ?_
  refine jc_seq (jc_region (tO (qa 0 (fun b_1 => jkO (qh [0,0] (qe (jx_then (jc_seq (jc_region (qh [0,0,0] ?_))))))))))
  obtain ⟨t_1, ht_2, h⟩ := bd h
  refine tO (pc 0 (fun w hm => spec_l07Arrange.calls f0 t1 (⟨1, 0, 0⟩ : GCosts) budget2 w _ C_c (hm.xr C_h) rfl D_c (hm.xr D_h) rfl b_1 (hm.pass (N := [⟨some b_1, 27, [(.int .i16 f0.fSteps), (.slice C_a f0.fHammers.length C_c)]⟩]) [0] (by kernel_rfl) (by kernel_rfl)) (hm.exApart (N := [⟨some b_1, 27, [(.int .i16 f0.fSteps), (.slice C_a f0.fHammers.length C_c)]⟩]) C_h (fun _ => List.not_mem_nil) [0] (by kernel_rfl)) (hm.exApart (N := [⟨some b_1, 27, [(.int .i16 f0.fSteps), (.slice C_a f0.fHammers.length C_c)]⟩]) D_h (fun _ => List.not_mem_nil) [0] (by kernel_rfl)) ht_2) ?_)
  rintro w v w' hm ⟨o_3, cap_4, sp_5, _, rfl, hs_6, ho_7, rfl, hm'⟩
  refine ⟨_, hm.appW (ps := [(0, ⟨some b_1, 27, [(.int .i16 f0.fSteps), (.slice C_a f0.fHammers.length C_c)]⟩)]) (N := [⟨o_3, 104, row encGChoice t_1.1 sp_5⟩]) hm' (by kernel_rfl) (by kernel_rfl), jkO ?_⟩
  clear hm hm'
  refine qh [0,0,0,0,0,0,0] (qe (jx_then (jc_seq (jc_seq (jc_region (qh [0,0] (qe (jx_then (qi h (fun h => ?_) (fun h => ?_))))))))))
  ·refine jc_seq (jc_region (qh [0,0,0] (qe (jx_then (jc_ret (jx_thenr ?_))))))
   obtain rfl := Option.some.inj h
   exact qr [] (fun w hm => ⟨rfl, hm.pk []⟩)
  ·refine jc_skip (jx_then (jc_seq (jc_region (qh [0,0,0,0,0,0] (qe (jx_then (jc_ret ?_)))))))
   obtain rfl := Option.some.inj h
   exact qr [] (fun w hm => ⟨rfl, hm.pk []⟩)
/-! ### laws.FnArranged -/
def laws_FnArranged.k_23 (t_2 : GFrame × (List GNote)) (t_3 : GCosts) (t_4 : (List GChoice) × Int × Int) (t_5 : (List GChoice) × Int × Int) (t_10 : Int × Int) (t_15 : Int × Int) (t_18 : Int × Int) (q_22 : Bool) : Option (Bool) := (if q_22 = true then some false else (if (t_4.2.2 != 0) = true then some (t_4.2.2 == 7) else (impl_CostOf t_3 t_5.1).bind fun t_24 => (impl_CheckChoices t_2.1 t_2.2 t_5.1).bind fun t_25 => some (((((((t_24.2 == 0) && (t_24.1 == t_5.2.1)) && (t_25.2 == 0)) && t_25.1) && (decide (t_5.2.1 ≥ t_10.1))) && (decide (t_5.2.1 ≤ t_15.1))) && (decide (t_5.2.1 ≤ t_18.1)))))
def laws_FnArranged.k_14 (more1 : List Int) (t_2 : GFrame × (List GNote)) (t_3 : GCosts) (t_4 : (List GChoice) × Int × Int) (t_5 : (List GChoice) × Int × Int) (t_7 : (List GChoice) × Int) (t_10 : Int × Int) (i_13 : Int) : Option (Bool) := (impl_CostOf t_3 t_7.1).bind fun t_15 => (impl_CheckChoices t_2.1 t_2.2 t_7.1).bind fun t_16 => (spec_A2Choices more1 t_2.1 t_2.2).bind fun t_17 => (impl_CostOf t_3 t_17).bind fun t_18 => (spec_KeptNotes t_2.1 t_2.2 t_17).bind fun t_19 => (impl_MostKept t_2.1 t_2.2 20000).bind fun t_20 => (spec_MostKept t_2.1 t_2.2 20000).bind fun t_21 => (if ((((((((((t_10.1 != i_13) || (t_15.2 != 0)) || (decide (t_15.1 < t_10.1))) || (t_16.2 != 0)) || (!t_16.1)) || (t_18.2 != 0)) || (decide (t_18.1 < t_10.1))) || (t_19.2 != 0)) || (t_20.2 != t_21.2)) || (t_20.1 != t_21.1)) = true then laws_FnArranged.k_23 t_2 t_3 t_4 t_5 t_10 t_15 t_18 true else (if (t_20.2 == 0) = true then (if ((decide (t_19.1 > t_21.1)) || (decide (t_21.1 > (t_2.2.length : Int)))) = true then laws_FnArranged.k_23 t_2 t_3 t_4 t_5 t_10 t_15 t_18 true else laws_FnArranged.k_23 t_2 t_3 t_4 t_5 t_10 t_15 t_18 ((t_20.2 != 0) && (t_20.2 != 7))) else laws_FnArranged.k_23 t_2 t_3 t_4 t_5 t_10 t_15 t_18 ((t_20.2 != 0) && (t_20.2 != 7))))
def laws_FnArranged.l_28 (t_2 : GFrame × (List GNote)) (t_3 : GCosts) (t_9 : (List Int) × Int) : (Int × Int) → Option ((Int × Int) ⊕ (Bool ⊕ Int))
  | (i_26, i_27) => (if (decide (i_27 ≥ 0)) = true then (ix t_9.1 i_27).bind fun x_30 => (impl_BoundFrom t_2.1 t_2.2 t_3 i_27).bind fun t_31 => (if ((t_31.2 != 0) || (t_31.1 != (w64 (i_26 + x_30)))) = true then some (.inr (.inl false)) else some (.inl ((w64 (i_26 + x_30)), (w64 (i_27 - 1))))) else some (.inr (.inr i_26)))
def laws_FnArranged.k_12 (more1 : List Int) (t_2 : GFrame × (List GNote)) (t_3 : GCosts) (t_4 : (List GChoice) × Int × Int) (t_5 : (List GChoice) × Int × Int) (t_7 : (List GChoice) × Int) (t_9 : (List Int) × Int) (t_10 : Int × Int) (q_11 : Bool) : Option (Bool) := (if q_11 = true then some false else (loop (laws_FnArranged.l_28 t_2 t_3 t_9) (0, (w64 ((t_9.1.length : Int) - 1)))).bind fun t_29 => match t_29 with | .inl p => some p | .inr p => laws_FnArranged.k_14 more1 t_2 t_3 t_4 t_5 t_7 t_10 p)
def laws_FnArranged (code0 : List Int) (more1 : List Int) : Option (Bool) := (laws_a2Long code0 more1).bind fun t_1 => (if t_1 = true then some true else (spec_A2Short code0).bind fun t_2 => (spec_A2Costs more1).bind fun t_3 => (impl_Arrange t_2.1 t_2.2 t_3 20000).bind fun t_4 => (spec_Arrange t_2.1 t_2.2 t_3 20000).bind fun t_5 => (impl_Greedy t_2.1 t_2.2 t_3).bind fun t_6 => (spec_Greedy t_2.1 t_2.2 t_3).bind fun t_7 => (impl_LeastEach t_2.1 t_2.2 t_3).bind fun t_8 => (spec_LeastEach t_2.1 t_2.2 t_3).bind fun t_9 => (impl_BoundFrom t_2.1 t_2.2 t_3 0).bind fun t_10 => (if (t_4.2.2 != t_5.2.2) = true then laws_FnArranged.k_12 more1 t_2 t_3 t_4 t_5 t_7 t_9 t_10 true else (spec_A2SameChoices t_4.1 t_5.1).bind fun t_32 => (if ((((!t_32) || (t_4.2.1 != t_5.2.1)) || (t_6.2 != t_7.2)) || (t_6.2 != 0)) = true then laws_FnArranged.k_12 more1 t_2 t_3 t_4 t_5 t_7 t_9 t_10 true else (spec_A2SameChoices t_6.1 t_7.1).bind fun t_33 => (if (((!t_33) || (t_8.2 != t_9.2)) || (t_8.2 != 0)) = true then laws_FnArranged.k_12 more1 t_2 t_3 t_4 t_5 t_7 t_9 t_10 true else (spec_A2Same t_8.1 t_9.1).bind fun t_34 => (if (((!t_34) || (t_10.2 != 0)) || ((t_9.1.length : Int) != (t_2.2.length : Int))) = true then laws_FnArranged.k_12 more1 t_2 t_3 t_4 t_5 t_7 t_9 t_10 true else (impl_ValidCosts t_3).bind fun t_35 => laws_FnArranged.k_12 more1 t_2 t_3 t_4 t_5 t_7 t_9 t_10 (!t_35))))))
set_option maxHeartbeats 8000000 in
theorem laws_FnArranged.calls (code0 : List Int) (more1 : List Int) (w : World) (r : Bool) {A_a : Option Addr} {A_an : Nat} (A_c : Nat) (A_h : Rw w A_a 1 encU8 code0) (A_hn : code0.length = A_an) {B_a : Option Addr} {B_an : Nat} (B_c : Nat) (B_h : Rw w B_a 1 encU8 more1) (B_hn : more1.length = B_an) (h : laws_FnArranged code0 more1 = some r) :
    Calls Tryz.prog 4 #[(.slice A_a A_an A_c), (.slice B_a B_an B_c)] w fun e w' => ∃ v, e = .returned v ∧ (v = (.bool r) ∧ Mem w [] [] w') := by
  subst A_hn B_hn
  rw [laws_FnArranged] at h
  refine enter (args := [(.slice A_a code0.length A_c), (.slice B_a more1.length B_c)]) Tryz.func4 rfl Tryz.ntmps4 (by kernel_rfl) (L := []) (W := []) (Mem.start w) ?_
  refine jc_seq (jc_region (qh [0] (qe (jx_then (jc_seq (jc_seq (jc_region (qh [0,0] ?_))))))))
  obtain ⟨t_1, ht_3, h⟩ := bd h
  refine tO (pc 0 (fun w hm => laws_a2Long.calls code0 more1 w _ A_c (hm.xr A_h) rfl B_c (hm.xr B_h) rfl ht_3) ?_)
  rintro w v w' hm ⟨rfl, hm'⟩
  refine ⟨_, hm.app hm', jkO ?_⟩
  clear hm hm'
  refine qe (jx_then (qi h (fun h => ?_) (fun h => ?_)))
  ·refine jc_seq (jc_region (qh [0] (qe (jx_then (jc_ret (jx_thenr ?_))))))
   obtain rfl := Option.some.inj h
   exact qr [] (fun w hm => ⟨rfl, hm.pk []⟩)
  ·refine jc_skip (jx_then (jc_seq (jc_region (qh [0] ?_))))
   obtain ⟨t_2, ht_5, h⟩ := bd h
   refine tO (pc 0 (fun w hm => spec_A2Short.calls code0 w _ A_c (hm.xr A_h) rfl ht_5) ?_)
   rintro w v w' hm ⟨o_6, cap_7, sp_8, _, rfl, hs_9, ho_10, o_11, cap_12, sp_13, _, rfl, hs_14, ho_15, rfl, hm'⟩
   refine ⟨_, hm.app hm', jkO ?_⟩
   clear hm hm'
   refine qh [0,0,0] (tO (qa 0 (fun b_16 => jkO (tO (qs 0 [2] (jkO (qh [0] (qe (jx_then (jc_seq (jc_region (qh [0] ?_))))))))))))
   obtain ⟨t_3, ht_17, h⟩ := bd h
   refine tO (pc 0 (fun w hm => spec_A2Costs.calls more1 w _ B_c (hm.xr B_h) rfl ht_17) ?_)
   rintro w v w' hm ⟨rfl, hm'⟩
   refine ⟨_, hm.app hm', jkO ?_⟩
   clear hm hm'
   refine tO (qa 0 (fun b_18 => jkO (tO (qs 0 [3] (jkO (qe (jx_then (jc_seq (jc_region (qh [2,0,3] ?_))))))))))
   obtain ⟨t_4, ht_19, h⟩ := bd h
   refine tO (pc 0 (fun w hm => impl_Arrange.calls t_2.1 t_2.2 t_3 20000 w _ cap_7 (hm.ow 0 o_6 132 t_2.1.fHammers sp_8 (fun e => (ho_10 e).1) encGHammer_len) rfl cap_12 (hm.ow 1 o_11 101 t_2.2 sp_13 (fun e => (ho_15 e).1) encGNote_len) rfl ht_19) ?_)
   rintro w v w' hm ⟨o_20, cap_21, sp_22, _, rfl, hs_23, ho_24, rfl, hm'⟩
   refine ⟨_, hm.app hm', jkO ?_⟩
   clear hm hm'
   refine qh [0,0,0,0,0,0,0] (qe (jx_then (jc_seq (jc_region (qh [2,0,3] ?_)))))
   obtain ⟨t_5, ht_25, h⟩ := bd h
   refine tO (pc 0 (fun w hm => spec_Arrange.calls t_2.1 t_2.2 t_3 20000 w _ cap_7 (hm.ow 0 o_6 132 t_2.1.fHammers sp_8 (fun e => (ho_10 e).1) encGHammer_len) rfl cap_12 (hm.ow 1 o_11 101 t_2.2 sp_13 (fun e => (ho_15 e).1) encGNote_len) rfl ht_25) ?_)
   rintro w v w' hm ⟨o_26, cap_27, sp_28, _, rfl, hs_29, ho_30, rfl, hm'⟩
   refine ⟨_, hm.app hm', jkO ?_⟩
   clear hm hm'
   refine qh [0,0,0,0,0,0,0] (qe (jx_then (jc_seq (jc_region (qh [2,0,3] ?_)))))
   obtain ⟨t_6, ht_31, h⟩ := bd h
   refine tO (pc 0 (fun w hm => impl_Greedy.calls t_2.1 t_2.2 t_3 w _ cap_7 (hm.ow 0 o_6 132 t_2.1.fHammers sp_8 (fun e => (ho_10 e).1) encGHammer_len) rfl cap_12 (hm.ow 1 o_11 101 t_2.2 sp_13 (fun e => (ho_15 e).1) encGNote_len) rfl ht_31) ?_)
   rintro w v w' hm ⟨o_32, cap_33, sp_34, _, rfl, hs_35, ho_36, rfl, hm'⟩
   refine ⟨_, hm.app hm', jkO ?_⟩
   clear hm hm'
   refine qh [0,0,0,0,0] (qe (jx_then (jc_seq (jc_region (qh [2,0,3] ?_)))))
   obtain ⟨t_7, ht_37, h⟩ := bd h
   refine tO (pc 0 (fun w hm => spec_Greedy.calls t_2.1 t_2.2 t_3 w _ cap_7 (hm.ow 0 o_6 132 t_2.1.fHammers sp_8 (fun e => (ho_10 e).1) encGHammer_len) rfl cap_12 (hm.ow 1 o_11 101 t_2.2 sp_13 (fun e => (ho_15 e).1) encGNote_len) rfl ht_37) ?_)
   rintro w v w' hm ⟨o_38, cap_39, sp_40, _, rfl, hs_41, ho_42, rfl, hm'⟩
   refine ⟨_, hm.app hm', jkO ?_⟩
   clear hm hm'
   refine qh [0,0,0,0,0] (qe (jx_then (jc_seq (jc_region (qh [2,0,3] ?_)))))
   obtain ⟨t_8, ht_43, h⟩ := bd h
   refine tO (pc 0 (fun w hm => impl_LeastEach.calls t_2.1 t_2.2 t_3 w _ cap_7 (hm.ow 0 o_6 132 t_2.1.fHammers sp_8 (fun e => (ho_10 e).1) encGHammer_len) rfl cap_12 (hm.ow 1 o_11 101 t_2.2 sp_13 (fun e => (ho_15 e).1) encGNote_len) rfl ht_43) ?_)
   rintro w v w' hm ⟨o_44, cap_45, sp_46, _, rfl, hs_47, ho_48, rfl, hm'⟩
   refine ⟨_, hm.app hm', jkO ?_⟩
   clear hm hm'
   refine qh [0,0,0,0,0] (qe (jx_then (jc_seq (jc_region (qh [2,0,3] ?_)))))
   obtain ⟨t_9, ht_49, h⟩ := bd h
   refine tO (pc 0 (fun w hm => spec_LeastEach.calls t_2.1 t_2.2 t_3 w _ cap_7 (hm.ow 0 o_6 132 t_2.1.fHammers sp_8 (fun e => (ho_10 e).1) encGHammer_len) rfl cap_12 (hm.ow 1 o_11 101 t_2.2 sp_13 (fun e => (ho_15 e).1) encGNote_len) rfl ht_49) ?_)
   rintro w v w' hm ⟨o_50, cap_51, sp_52, _, rfl, hs_53, ho_54, rfl, hm'⟩
   refine ⟨_, hm.app hm', jkO ?_⟩
   clear hm hm'
   refine qh [0,0,0,0,0] (qe (jx_then (jc_seq (jc_region (qh [2,0,3] ?_)))))
   obtain ⟨t_10, ht_55, h⟩ := bd h
   refine tO (pc 0 (fun w hm => impl_BoundFrom.calls t_2.1 t_2.2 t_3 0 w _ cap_7 (hm.ow 0 o_6 132 t_2.1.fHammers sp_8 (fun e => (ho_10 e).1) encGHammer_len) rfl cap_12 (hm.ow 1 o_11 101 t_2.2 sp_13 (fun e => (ho_15 e).1) encGNote_len) rfl ht_55) ?_)
   rintro w v w' hm ⟨rfl, hm'⟩
   refine ⟨_, hm.app hm', jkO ?_⟩
   clear hm hm'
   refine qh [0,0,0,0,0] (qe (jx_then (jc_seq (jc_seq (jc_meet (fun (j : Bool) => match j with | q_11 => laws_FnArranged.k_12 more1 t_2 t_3 t_4 t_5 t_7 t_9 t_10 q_11 = some r) (fun (j : Bool) => match j with | q_11 => [(1, [], (.slice B_a more1.length B_c)), (4, [], (.bool false)), (5, [], (.pointer (some ⟨b_16, 0, none⟩))), (6, [], (.slice (o_11.map fun b => ⟨b, 0, none⟩) t_2.2.length cap_12)), (7, [], (.pointer (some ⟨b_18, 0, none⟩))), (10, [], (.int .i64 t_4.2.2)), (11, [], (.slice (o_26.map fun b => ⟨b, 0, none⟩) t_5.1.length cap_27)), (12, [], (.int .i64 t_5.2.1)), (16, [], (.slice (o_38.map fun b => ⟨b, 0, none⟩) t_7.1.length cap_39)), (20, [], (.slice (o_50.map fun b => ⟨b, 0, none⟩) t_9.1.length cap_51)), (22, [], (.int .i64 t_10.1)), (165, [], (.bool q_11))]) (fun (j : Bool) => match j with | q_11 => [⟨o_6, 132, row encGHammer t_2.1.fHammers sp_8⟩, ⟨o_11, 101, row encGNote t_2.2 sp_13⟩, ⟨some b_16, 27, [(.int .i16 t_2.1.fSteps), (.slice (o_6.map fun b => ⟨b, 0, none⟩) t_2.1.fHammers.length cap_7)]⟩, ⟨some b_18, 33, [(.int .i16 t_3.fAway), (.int .i16 t_3.fOctave), (.int .i16 t_3.fStep)]⟩, ⟨o_20, 104, row encGChoice t_4.1 sp_22⟩, ⟨o_26, 104, row encGChoice t_5.1 sp_28⟩, ⟨o_32, 104, row encGChoice t_6.1 sp_34⟩, ⟨o_38, 104, row encGChoice t_7.1 sp_40⟩, ⟨o_44, 2, row encI64 t_8.1 sp_46⟩, ⟨o_50, 2, row encI64 t_9.1 sp_52⟩]) ?_ ?_)))))
   ·refine jc_region (qf [(0, 0), (0, 0), (0, 0), (0, 0), (0, 1), (0, 1)] (qp 109 h (fun h => ?_) (fun h => ?_)))
    ·exact qf [(0, 3), (0, 3), (0, 4), (0, 0), (0, 3), (0, 3), (0, 3), (0, 4), (0, 0), (0, 3), (0, 3), (0, 3), (0, 4), (0, 0), (0, 3), (0, 3), (0, 4), (0, 0), (0, 3), (0, 3), (0, 3), (0, 3), (0, 4), (0, 0), (0, 3), (0, 3), (0, 3), (0, 4), (0, 0), (0, 3), (0, 3), (0, 4), (0, 0), (0, 3), (0, 3), (0, 3), (0, 3), (0, 4), (0, 0), (0, 3), (0, 3), (0, 4), (0, 0), (0, 3), (0, 3), (0, 3), (0, 3), (0, 3), (0, 4), (0, 0), (0, 3), (0, 3), (0, 3), (0, 4)] (qe (qm true h [0, 1, 2, 3, 4, 5, 6, 7, 8, 9]))
    ·obtain ⟨t_32, ht_193, h⟩ := bd h
     refine tO (pc 2 (fun w hm => spec_A2SameChoices.calls t_4.1 t_5.1 w _ cap_21 (hm.ow 4 o_20 104 t_4.1 sp_22 (fun e => (ho_24 e).1) encGChoice_len) rfl cap_27 (hm.ow 5 o_26 104 t_5.1 sp_28 (fun e => (ho_30 e).1) encGChoice_len) rfl ht_193) ?_)
     rintro w v w' hm ⟨rfl, hm'⟩
     refine ⟨_, hm.app hm', jkO ?_⟩
     clear hm hm'
     refine qf [(0, 2), (0, 5), (0, 0), (0, 1), (0, 1), (0, 1), (0, 0), (0, 0), (0, 1), (0, 1), (0, 1), (0, 0), (0, 0), (0, 1), (0, 1), (0, 0), (0, 0), (0, 1), (0, 1)] (qp 129 h (fun h => ?_) (fun h => ?_))
     ·exact qf [(0, 3), (0, 3), (0, 4), (0, 0), (0, 3), (0, 3), (0, 3), (0, 4), (0, 0), (0, 3), (0, 3), (0, 4), (0, 0), (0, 3), (0, 3), (0, 3), (0, 3), (0, 4), (0, 0), (0, 3), (0, 3), (0, 4), (0, 0), (0, 3), (0, 3), (0, 3), (0, 3), (0, 3), (0, 4), (0, 0), (0, 3), (0, 3), (0, 3), (0, 4)] (qe (qm true h [0, 1, 2, 3, 4, 5, 6, 7, 8, 9]))
     ·obtain ⟨t_33, ht_195, h⟩ := bd h
      refine tO (pc 2 (fun w hm => spec_A2SameChoices.calls t_6.1 t_7.1 w _ cap_33 (hm.ow 6 o_32 104 t_6.1 sp_34 (fun e => (ho_36 e).1) encGChoice_len) rfl cap_39 (hm.ow 7 o_38 104 t_7.1 sp_40 (fun e => (ho_42 e).1) encGChoice_len) rfl ht_195) ?_)
      rintro w v w' hm ⟨rfl, hm'⟩
      refine ⟨_, hm.app hm', jkO ?_⟩
      clear hm hm'
      refine qf [(0, 2), (0, 5), (0, 0), (0, 1), (0, 1), (0, 1), (0, 0), (0, 0), (0, 1), (0, 1), (0, 0), (0, 0), (0, 1), (0, 1)] (qp 144 h (fun h => ?_) (fun h => ?_))
      ·exact qf [(0, 3), (0, 3), (0, 4), (0, 0), (0, 3), (0, 3), (0, 4), (0, 0), (0, 3), (0, 3), (0, 3), (0, 3), (0, 3), (0, 4), (0, 0), (0, 3), (0, 3), (0, 3), (0, 4)] (qe (qm true h [0, 1, 2, 3, 4, 5, 6, 7, 8, 9]))
      ·obtain ⟨t_34, ht_197, h⟩ := bd h
       refine tO (pc 2 (fun w hm => spec_A2Same.calls t_8.1 t_9.1 w _ cap_45 (hm.ow 8 o_44 2 t_8.1 sp_46 (fun e => (ho_48 e).1) encI64_len) rfl cap_51 (hm.ow 9 o_50 2 t_9.1 sp_52 (fun e => (ho_54 e).1) encI64_len) rfl ht_197) ?_)
       rintro w v w' hm ⟨rfl, hm'⟩
       refine ⟨_, hm.app hm', jkO ?_⟩
       clear hm hm'
       refine qf [(0, 2), (0, 5), (0, 0), (0, 1), (0, 1), (0, 0), (0, 0), (0, 1), (0, 1), (0, 1), (0, 1), (0, 1), (0, 0), (0, 0), (3, 1)] (qp 161 h (fun h => ?_) (fun h => ?_))
       ·exact qf [(0, 3), (0, 3), (0, 4)] (qe (qm true h [0, 1, 2, 3, 4, 5, 6, 7, 8, 9]))
       ·obtain ⟨t_35, ht_199, h⟩ := bd h
        refine tO (pc 2 (fun w hm => impl_ValidCosts.calls t_3 w _ ht_199) ?_)
        rintro w v w' hm ⟨rfl, hm'⟩
        refine ⟨_, hm.app hm', jkO ?_⟩
        clear hm hm'
        exact qf [(0, 2), (0, 5)] (qe (qm (!t_35) h [0, 1, 2, 3, 4, 5, 6, 7, 8, 9]))
   ·rintro q_11 h
    replace h : laws_FnArranged.k_12 more1 t_2 t_3 t_4 t_5 t_7 t_9 t_10 q_11 = some r := h
    rw [laws_FnArranged.k_12] at h
    refine jx_then (qi h (fun h => ?_) (fun h => ?_))
    ·refine jc_seq (jc_region (qh [0] (qe (jx_then (jc_ret (jx_thenr ?_))))))
     obtain rfl := Option.some.inj h
     exact qr [] (fun w hm => ⟨rfl, hm.pk []⟩)
    ·refine jc_skip (jx_then (jc_seq (jc_region (qh [0] (qe (jx_then (jc_seq (jc_seq (jc_region (qh [0,0,0,0] (qe (jx_then (jc_meet (fun (j : Int) => match j with | i_13 => laws_FnArranged.k_14 more1 t_2 t_3 t_4 t_5 t_7 t_10 i_13 = some r) (fun (j : Int) => match j with | i_13 => [(1, [], (.slice B_a more1.length B_c)), (4, [], (.bool false)), (5, [], (.pointer (some ⟨b_16, 0, none⟩))), (6, [], (.slice (o_11.map fun b => ⟨b, 0, none⟩) t_2.2.length cap_12)), (7, [], (.pointer (some ⟨b_18, 0, none⟩))), (10, [], (.int .i64 t_4.2.2)), (11, [], (.slice (o_26.map fun b => ⟨b, 0, none⟩) t_5.1.length cap_27)), (12, [], (.int .i64 t_5.2.1)), (16, [], (.slice (o_38.map fun b => ⟨b, 0, none⟩) t_7.1.length cap_39)), (22, [], (.int .i64 t_10.1)), (24, [], (.int .i64 i_13))]) (fun (j : Int) => match j with | i_13 => [⟨o_6, 132, row encGHammer t_2.1.fHammers sp_8⟩, ⟨o_11, 101, row encGNote t_2.2 sp_13⟩, ⟨some b_16, 27, [(.int .i16 t_2.1.fSteps), (.slice (o_6.map fun b => ⟨b, 0, none⟩) t_2.1.fHammers.length cap_7)]⟩, ⟨some b_18, 33, [(.int .i16 t_3.fAway), (.int .i16 t_3.fOctave), (.int .i16 t_3.fStep)]⟩, ⟨o_20, 104, row encGChoice t_4.1 sp_22⟩, ⟨o_26, 104, row encGChoice t_5.1 sp_28⟩, ⟨o_32, 104, row encGChoice t_6.1 sp_34⟩, ⟨o_38, 104, row encGChoice t_7.1 sp_40⟩, ⟨o_44, 2, row encI64 t_8.1 sp_46⟩, ⟨o_50, 2, row encI64 t_9.1 sp_52⟩]) ?_ ?_)))))))))))))
     ·refine jc_block ?_
      obtain ⟨t_29, ht_191, hr_182⟩ := bd h
      refine jc_loop (fun (s : Int × Int) (x : Unit) => match s, x with | ⟨i_26, i_27⟩, _ => True) (fun (s : Int × Int) (x : Unit) => match s, x with | ⟨i_26, i_27⟩, _ => [(1, [], (.slice B_a more1.length B_c)), (4, [], (.bool false)), (5, [], (.pointer (some ⟨b_16, 0, none⟩))), (6, [], (.slice (o_11.map fun b => ⟨b, 0, none⟩) t_2.2.length cap_12)), (7, [], (.pointer (some ⟨b_18, 0, none⟩))), (10, [], (.int .i64 t_4.2.2)), (11, [], (.slice (o_26.map fun b => ⟨b, 0, none⟩) t_5.1.length cap_27)), (12, [], (.int .i64 t_5.2.1)), (16, [], (.slice (o_38.map fun b => ⟨b, 0, none⟩) t_7.1.length cap_39)), (20, [], (.slice (o_50.map fun b => ⟨b, 0, none⟩) t_9.1.length cap_51)), (22, [], (.int .i64 t_10.1)), (24, [], (.int .i64 i_26)), (25, [], (.int .i64 i_27))]) (fun (s : Int × Int) (x : Unit) => match s, x with | ⟨i_26, i_27⟩, _ => [⟨o_6, 132, row encGHammer t_2.1.fHammers sp_8⟩, ⟨o_11, 101, row encGNote t_2.2 sp_13⟩, ⟨some b_16, 27, [(.int .i16 t_2.1.fSteps), (.slice (o_6.map fun b => ⟨b, 0, none⟩) t_2.1.fHammers.length cap_7)]⟩, ⟨some b_18, 33, [(.int .i16 t_3.fAway), (.int .i16 t_3.fOctave), (.int .i16 t_3.fStep)]⟩, ⟨o_20, 104, row encGChoice t_4.1 sp_22⟩, ⟨o_26, 104, row encGChoice t_5.1 sp_28⟩, ⟨o_32, 104, row encGChoice t_6.1 sp_34⟩, ⟨o_38, 104, row encGChoice t_7.1 sp_40⟩, ⟨o_44, 2, row encI64 t_8.1 sp_46⟩, ⟨o_50, 2, row encI64 t_9.1 sp_52⟩]) ht_191 () trivial (by kernel_rfl) [0, 1, 2, 3, 4, 5, 6, 7, 8, 9] (by kernel_rfl) (by kernel_rfl) ?_
      rintro ⟨i_26, i_27⟩ _ y_183 _ h
      rw [laws_FnArranged.l_28] at h
      refine jc_seq (jc_seq (jc_region (qh [0,0] (qe (jx_then (qi h (fun h => ?_) (fun h => ?_)))))))
      ·refine jc_skip (jx_then (jc_seq (jc_block (jc_seq (jc_region (qh [0,0,0] ?_))))))
       obtain ⟨x_30, hx_186, h⟩ := bd h
       refine tO (qx 0 (o_50.map fun b => ⟨b, 0, none⟩) 1 hx_186 rfl (spo ho_54 hx_186) (jkO (tO (ql 0 false (fun w hm => ((hm.ow 9 o_50 2 t_9.1 sp_52 (fun e => (ho_54 e).1) encI64_len).at hx_186)) (jkO (qh [0,0] (qe (jx_then (jc_seq (jc_region (qh [2,0,3,0] ?_)))))))))))
       obtain ⟨t_31, ht_187, h⟩ := bd h
       refine tO (pc 0 (fun w hm => impl_BoundFrom.calls t_2.1 t_2.2 t_3 i_27 w _ cap_7 (hm.ow 0 o_6 132 t_2.1.fHammers sp_8 (fun e => (ho_10 e).1) encGHammer_len) rfl cap_12 (hm.ow 1 o_11 101 t_2.2 sp_13 (fun e => (ho_15 e).1) encGNote_len) rfl ht_187) ?_)
       rintro w v w' hm ⟨rfl, hm'⟩
       refine ⟨_, hm.app hm', jkO ?_⟩
       clear hm hm'
       refine qh [0,0,0,0,0] (qe (jx_then (jc_seq (jc_region (qf [(0, 0), (0, 0), (0, 0), (0, 1), (0, 1), (0, 1), (0, 0)] (qe (jx_then (qi h (fun h => ?_) (fun h => ?_)))))))))
       ·refine jc_seq (jc_region (qh [0] (qe (jx_then (jc_ret (jx_inr (jx_thenr (jx_leaver (.inl false) (Option.some.inj h).symm (fun e_189 => ?_)))))))))
        subst e_189
        refine jx_inr (jx_thenr (jx_thenr ?_))
        obtain rfl := Option.some.inj hr_182
        exact qr [] (fun w hm => ⟨rfl, hm.pk []⟩)
       ·exact jc_skip (jx_inn (jx_then (jc_region (qh [0,0,0] (qe (qb ((w64 (i_26 + x_30)), (w64 (i_27 - 1))) () h trivial [0, 1, 2, 3, 4, 5, 6, 7, 8, 9]))))))
      ·refine jc_exit (jx_thenx (jx_leave (.inr i_26) (Option.some.inj h).symm (fun e_190 => ?_)))
       subst e_190
       exact jx_ine (qm i_26 hr_182 [0, 1, 2, 3, 4, 5, 6, 7, 8, 9])
     ·rintro i_13 h
      replace h : laws_FnArranged.k_14 more1 t_2 t_3 t_4 t_5 t_7 t_10 i_13 = some r := h
      rw [laws_FnArranged.k_14] at h
      refine jx_then (jc_seq (jc_region (qh [3,0] ?_)))
      obtain ⟨t_15, ht_142, h⟩ := bd h
      refine tO (pc 0 (fun w hm => impl_CostOf.calls t_3 t_7.1 w _ cap_39 (hm.ow 7 o_38 104 t_7.1 sp_40 (fun e => (ho_42 e).1) encGChoice_len) rfl ht_142) ?_)
      rintro w v w' hm ⟨rfl, hm'⟩
      refine ⟨_, hm.app hm', jkO ?_⟩
      clear hm hm'
      refine qh [0,0,0,0,0] (qe (jx_then (jc_seq (jc_region (qh [2,0,0] ?_)))))
      obtain ⟨t_16, ht_143, h⟩ := bd h
      refine tO (pc 0 (fun w hm => impl_CheckChoices.calls t_2.1 t_2.2 t_7.1 w _ cap_7 (hm.ow 0 o_6 132 t_2.1.fHammers sp_8 (fun e => (ho_10 e).1) encGHammer_len) rfl cap_12 (hm.ow 1 o_11 101 t_2.2 sp_13 (fun e => (ho_15 e).1) encGNote_len) rfl cap_39 (hm.ow 7 o_38 104 t_7.1 sp_40 (fun e => (ho_42 e).1) encGChoice_len) rfl ht_143) ?_)
      rintro w v w' hm ⟨rfl, hm'⟩
      refine ⟨_, hm.app hm', jkO ?_⟩
      clear hm hm'
      refine qh [0,0,0,0,0] (qe (jx_then (jc_seq (jc_region (qh [0,2,0] ?_)))))
      obtain ⟨t_17, ht_144, h⟩ := bd h
      refine tO (pc 0 (fun w hm => spec_A2Choices.calls more1 t_2.1 t_2.2 w _ B_c (hm.xr B_h) rfl cap_7 (hm.ow 0 o_6 132 t_2.1.fHammers sp_8 (fun e => (ho_10 e).1) encGHammer_len) rfl cap_12 (hm.ow 1 o_11 101 t_2.2 sp_13 (fun e => (ho_15 e).1) encGNote_len) rfl ht_144) ?_)
      rintro w v w' hm ⟨o_145, cap_146, sp_147, _, rfl, hs_148, ho_149, rfl, hm'⟩
      refine ⟨_, hm.app hm', jkO ?_⟩
      clear hm hm'
      refine qh [0] (qe (jx_then (jc_seq (jc_region (qh [3,0] ?_)))))
      obtain ⟨t_18, ht_150, h⟩ := bd h
      refine tO (pc 0 (fun w hm => impl_CostOf.calls t_3 t_17 w _ cap_146 (hm.ow 10 o_145 104 t_17 sp_147 (fun e => (ho_149 e).1) encGChoice_len) rfl ht_150) ?_)
      rintro w v w' hm ⟨rfl, hm'⟩
      refine ⟨_, hm.app hm', jkO ?_⟩
      clear hm hm'
      refine qh [0,0,0,0,0] (qe (jx_then (jc_seq (jc_region (qh [2,0,0] ?_)))))
      obtain ⟨t_19, ht_151, h⟩ := bd h
      refine tO (pc 0 (fun w hm => spec_KeptNotes.calls t_2.1 t_2.2 t_17 w _ cap_7 (hm.ow 0 o_6 132 t_2.1.fHammers sp_8 (fun e => (ho_10 e).1) encGHammer_len) rfl cap_12 (hm.ow 1 o_11 101 t_2.2 sp_13 (fun e => (ho_15 e).1) encGNote_len) rfl cap_146 (hm.ow 10 o_145 104 t_17 sp_147 (fun e => (ho_149 e).1) encGChoice_len) rfl ht_151) ?_)
      rintro w v w' hm ⟨rfl, hm'⟩
      refine ⟨_, hm.app hm', jkO ?_⟩
      clear hm hm'
      refine qh [0,0,0,0,0] (qe (jx_then (jc_seq (jc_region (qh [2,0] ?_)))))
      obtain ⟨t_20, ht_152, h⟩ := bd h
      refine tO (pc 0 (fun w hm => impl_MostKept.calls t_2.1 t_2.2 20000 w _ cap_7 (hm.ow 0 o_6 132 t_2.1.fHammers sp_8 (fun e => (ho_10 e).1) encGHammer_len) rfl cap_12 (hm.ow 1 o_11 101 t_2.2 sp_13 (fun e => (ho_15 e).1) encGNote_len) rfl ht_152) ?_)
      rintro w v w' hm ⟨rfl, hm'⟩
      refine ⟨_, hm.app hm', jkO ?_⟩
      clear hm hm'
      refine qh [0,0,0,0,0] (qe (jx_then (jc_seq (jc_region (qh [2,0] ?_)))))
      obtain ⟨t_21, ht_153, h⟩ := bd h
      refine tO (pc 0 (fun w hm => spec_MostKept.calls t_2.1 t_2.2 20000 w _ cap_7 (hm.ow 0 o_6 132 t_2.1.fHammers sp_8 (fun e => (ho_10 e).1) encGHammer_len) rfl cap_12 (hm.ow 1 o_11 101 t_2.2 sp_13 (fun e => (ho_15 e).1) encGNote_len) rfl ht_153) ?_)
      rintro w v w' hm ⟨rfl, hm'⟩
      refine ⟨_, hm.app hm', jkO ?_⟩
      clear hm hm'
      refine qh [0,0,0,0,0] (qe (jx_then (jc_seq (jc_seq (jc_meet (fun (j : Bool) => match j with | q_22 => laws_FnArranged.k_23 t_2 t_3 t_4 t_5 t_10 t_15 t_18 q_22 = some r) (fun (j : Bool) => match j with | q_22 => [(4, [], (.bool false)), (5, [], (.pointer (some ⟨b_16, 0, none⟩))), (6, [], (.slice (o_11.map fun b => ⟨b, 0, none⟩) t_2.2.length cap_12)), (7, [], (.pointer (some ⟨b_18, 0, none⟩))), (10, [], (.int .i64 t_4.2.2)), (11, [], (.slice (o_26.map fun b => ⟨b, 0, none⟩) t_5.1.length cap_27)), (12, [], (.int .i64 t_5.2.1)), (22, [], (.int .i64 t_10.1)), (28, [], (.int .i64 t_15.1)), (33, [], (.int .i64 t_18.1)), (301, [], (.bool q_22))]) (fun (j : Bool) => match j with | q_22 => [⟨o_6, 132, row encGHammer t_2.1.fHammers sp_8⟩, ⟨o_11, 101, row encGNote t_2.2 sp_13⟩, ⟨some b_16, 27, [(.int .i16 t_2.1.fSteps), (.slice (o_6.map fun b => ⟨b, 0, none⟩) t_2.1.fHammers.length cap_7)]⟩, ⟨some b_18, 33, [(.int .i16 t_3.fAway), (.int .i16 t_3.fOctave), (.int .i16 t_3.fStep)]⟩, ⟨o_20, 104, row encGChoice t_4.1 sp_22⟩, ⟨o_26, 104, row encGChoice t_5.1 sp_28⟩, ⟨o_32, 104, row encGChoice t_6.1 sp_34⟩, ⟨o_38, 104, row encGChoice t_7.1 sp_40⟩, ⟨o_44, 2, row encI64 t_8.1 sp_46⟩, ⟨o_50, 2, row encI64 t_9.1 sp_52⟩, ⟨o_145, 104, row encGChoice t_17 sp_147⟩]) ?_ ?_)))))
      ·refine jc_region (qf [(0, 0), (0, 0), (0, 0), (0, 0), (0, 1), (0, 1), (0, 0), (0, 0), (0, 1), (0, 1), (0, 1), (0, 0), (0, 0), (0, 1), (0, 1), (0, 0), (0, 0), (0, 1), (0, 1), (0, 0), (0, 0), (0, 1), (0, 1), (0, 0), (0, 0), (0, 1), (0, 1), (0, 1), (0, 0), (0, 0), (0, 1), (0, 1), (0, 0), (0, 0), (0, 1), (0, 1), (0, 1), (0, 0), (0, 0), (0, 1), (0, 1), (0, 1), (0, 0), (0, 0), (0, 1), (0, 1)] (qp 279 h (fun h => ?_) (fun h => ?_)))
       ·exact qf [(0, 3), (0, 3), (0, 3), (0, 3), (0, 3), (0, 3), (0, 3), (0, 3), (0, 3), (0, 3), (0, 3), (0, 4), (0, 0), (0, 3), (0, 3), (0, 3), (0, 3), (0, 3), (0, 3), (0, 4)] (qe (qm true h [0, 1, 2, 3, 4, 5, 6, 7, 8, 9, 10]))
       ·refine qf [(0, 2), (0, 1), (0, 1), (0, 1)] (qp 282 h (fun h => ?_) (fun h => ?_))
        ·refine qf [(0, 2), (0, 1), (0, 1), (0, 1), (0, 1), (0, 2), (0, 4), (0, 5), (0, 0), (0, 1), (0, 1)] (qp 294 h (fun h => ?_) (fun h => ?_))
         ·exact qf [(0, 3), (0, 3), (0, 3), (0, 3), (0, 4)] (qe (qm true h [0, 1, 2, 3, 4, 5, 6, 7, 8, 9, 10]))
         ·exact qf [(0, 2), (0, 1), (0, 1), (0, 2), (0, 5)] (qe (qm ((t_20.2 != 0) && (t_20.2 != 7)) h [0, 1, 2, 3, 4, 5, 6, 7, 8, 9, 10]))
        ·exact qf [(0, 3), (0, 3), (0, 3), (0, 3), (0, 3), (0, 3), (0, 5), (0, 5), (0, 0), (0, 2), (0, 2), (0, 2), (0, 1), (0, 1), (0, 2), (0, 5)] (qe (qm ((t_20.2 != 0) && (t_20.2 != 7)) h [0, 1, 2, 3, 4, 5, 6, 7, 8, 9, 10]))
      ·rintro q_22 h
       replace h : laws_FnArranged.k_23 t_2 t_3 t_4 t_5 t_10 t_15 t_18 q_22 = some r := h
       rw [laws_FnArranged.k_23] at h
       refine jx_then (qi h (fun h => ?_) (fun h => ?_))
       ·refine jc_seq (jc_region (qh [0] (qe (jx_then (jc_ret (jx_thenr ?_))))))
        obtain rfl := Option.some.inj h
        exact qr [] (fun w hm => ⟨rfl, hm.pk []⟩)
       ·refine jc_skip (jx_then (jc_seq (jc_seq (jc_region (qh [0,0] (qe (jx_then (qi h (fun h => ?_) (fun h => ?_)))))))))
        ·refine jc_seq (jc_region (qh [0,0,0] (qe (jx_then (jc_ret (jx_thenr ?_))))))
         obtain rfl := Option.some.inj h
         exact qr [] (fun w hm => ⟨rfl, hm.pk []⟩)
        ·refine jc_skip (jx_then (jc_seq (jc_region (qh [3,0] ?_))))
         obtain ⟨t_24, ht_167, h⟩ := bd h
         refine tO (pc 0 (fun w hm => impl_CostOf.calls t_3 t_5.1 w _ cap_27 (hm.ow 5 o_26 104 t_5.1 sp_28 (fun e => (ho_30 e).1) encGChoice_len) rfl ht_167) ?_)
         rintro w v w' hm ⟨rfl, hm'⟩
         refine ⟨_, hm.app hm', jkO ?_⟩
         clear hm hm'
         refine qh [0,0,0,0,0] (qe (jx_then (jc_seq (jc_region (qh [2,0,0] ?_)))))
         obtain ⟨t_25, ht_168, h⟩ := bd h
         refine tO (pc 0 (fun w hm => impl_CheckChoices.calls t_2.1 t_2.2 t_5.1 w _ cap_7 (hm.ow 0 o_6 132 t_2.1.fHammers sp_8 (fun e => (ho_10 e).1) encGHammer_len) rfl cap_12 (hm.ow 1 o_11 101 t_2.2 sp_13 (fun e => (ho_15 e).1) encGNote_len) rfl cap_27 (hm.ow 5 o_26 104 t_5.1 sp_28 (fun e => (ho_30 e).1) encGChoice_len) rfl ht_168) ?_)
         rintro w v w' hm ⟨rfl, hm'⟩
         refine ⟨_, hm.app hm', jkO ?_⟩
         clear hm hm'
         refine qh [0,0,0,0,0] (qe (jx_then (jc_seq (jc_region (qf [(0, 0), (0, 0), (0, 0), (0, 1), (0, 1), (0, 1), (0, 0), (0, 0), (0, 1), (0, 1), (0, 0), (0, 0), (0, 1), (0, 0), (0, 0), (0, 1), (0, 1), (0, 1), (0, 0), (0, 0), (0, 1), (0, 1), (0, 1), (0, 0), (0, 0), (0, 1), (0, 1), (0, 1), (0, 0), (0, 0)] (qe (jx_then (jc_ret ?_))))))))
         obtain rfl := Option.some.inj h
         exact qr [] (fun w hm => ⟨rfl, hm.pk []⟩)
end

end Go.Proofs.YtolfkfjjifdmeaaGreat
