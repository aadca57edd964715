/- Functions of the program that the laws reach: a plain function each, and that the call comes to its answer if the plain function has one. Printed by a program. -/
import Derived.Test.YtfkjghkjimcmdaaT
import Derived.Test.YtfkjghkjimcmdaaM0
import Derived.Test.YtfkjghkjimcmdaaM1
namespace Go.Proofs.Ytfkjghkjimcmdaa
open Eng
set_option linter.unusedVariables false

/-! ### (impl.Wear).parts -/
noncomputable def impl_Wear_parts.k_6 (xs_5 : List Gpart) : Option ((List Gpart)) := some xs_5
noncomputable def impl_Wear_parts.l_9 (w0 : GWear) (v2 : GLives) (t_4 : (List Int)) : ((List Gpart) × Int) → Option (((List Gpart) × Int) ⊕ ((List Gpart)))
  | (xs_7, i_8) => (if (decide (i_8 < (t_4.length : Int))) = true then (ix t_4 i_8).bind fun x_11 => (ix w0.fStrokes i_8).bind fun x_12 => (if xs_7.length + [(⟨x_12, x_11, v2.fHammer, (-1), i_8⟩ : Gpart)].length ≤ 4294967296 then some (.inl ((xs_7 ++ [(⟨x_12, x_11, v2.fHammer, (-1), i_8⟩ : Gpart)]), (w64 (i_8 + 1)))) else none) else some (.inr xs_7))
noncomputable def impl_Wear_parts.k_2 (w0 : GWear) (f1 : GFrame) (v2 : GLives) (xs_1 : List Gpart) : Option ((List Gpart)) := (impl_Wear_drum w0).bind fun t_3 => (impl_Frame_byTrack f1 t_3).bind fun t_4 => (loop (impl_Wear_parts.l_9 w0 v2 t_4) (xs_1, 0)).bind fun t_10 => impl_Wear_parts.k_6 t_10
noncomputable def impl_Wear_parts.l_15 (w0 : GWear) (v2 : GLives) : ((List Gpart) × Int) → Option (((List Gpart) × Int) ⊕ ((List Gpart)))
  | (xs_13, i_14) => (if (decide (i_14 < (w0.fPins.length : Int))) = true then (ix w0.fPins i_14).bind fun x_17 => (if xs_13.length + [(⟨x_17.fTurns, 1, v2.fPin, (w64 x_17.fStep), (w64 x_17.fTrack)⟩ : Gpart)].length ≤ 4294967296 then some (.inl ((xs_13 ++ [(⟨x_17.fTurns, 1, v2.fPin, (w64 x_17.fStep), (w64 x_17.fTrack)⟩ : Gpart)]), (w64 (i_14 + 1)))) else none) else some (.inr xs_13))
noncomputable def impl_Wear_parts (w0 : GWear) (f1 : GFrame) (v2 : GLives) : Option ((List Gpart)) := (loop (impl_Wear_parts.l_15 w0 v2) (([] : List Gpart), 0)).bind fun t_16 => impl_Wear_parts.k_2 w0 f1 v2 t_16
set_option maxRecDepth 100000 in
theorem impl_Wear_parts.calls (w0 : GWear) (f1 : GFrame) (v2 : GLives) (w : World) (r : (List Gpart)) (w0_fPins_a : Option Addr) (w0_fPins_an : Nat) (w0_fPins_c : Nat) (w0_fPins_h : Rw w w0_fPins_a 3 encGWornPin w0.fPins) (w0_fPins_hn : w0.fPins.length = w0_fPins_an) (w0_fStrokes_a : Option Addr) (w0_fStrokes_an : Nat) (w0_fStrokes_c : Nat) (w0_fStrokes_h : Rw w w0_fStrokes_a 1 encI64 w0.fStrokes) (w0_fStrokes_hn : w0.fStrokes.length = w0_fStrokes_an) (f1_fHammers_a : Option Addr) (f1_fHammers_an : Nat) (f1_fHammers_c : Nat) (f1_fHammers_h : Rw w f1_fHammers_a 2 encGHammer f1.fHammers) (f1_fHammers_hn : f1.fHammers.length = f1_fHammers_an) (h : impl_Wear_parts w0 f1 v2 = some r) :
    Calls Try.prog 57 #[(.agg #[(.slice w0_fPins_a w0_fPins_an w0_fPins_c), (.slice w0_fStrokes_a w0_fStrokes_an w0_fStrokes_c)]), (.agg #[(.int .i16 f1.fSteps), (.slice f1_fHammers_a f1_fHammers_an f1_fHammers_c)]), (.agg #[(.int .i64 v2.fPin), (.int .i64 v2.fHammer)])] w fun e w' => ∃ v, e = .returned v ∧ (∃ (o0 : Option Nat) (c0 : Nat) (s0 : List Value) (n0 : Nat), r.length = n0 ∧ (o0 ≠ none → n0 ≤ c0 ∧ s0.length = (c0 - n0) * 5) ∧ (o0 = none → r = [] ∧ c0 = 0) ∧ v = .slice (o0.map fun b => ⟨b, 0, none⟩) n0 c0 ∧ Mem w [] [⟨o0, 83, row encGpart r s0⟩] w') := by
  subst w0_fPins_hn w0_fStrokes_hn f1_fHammers_hn
  rw [impl_Wear_parts] at h
  refine enter (args := [(.agg #[(.slice w0_fPins_a w0.fPins.length w0_fPins_c), (.slice w0_fStrokes_a w0.fStrokes.length w0_fStrokes_c)]), (.agg #[(.int .i16 f1.fSteps), (.slice f1_fHammers_a f1.fHammers.length f1_fHammers_c)]), (.agg #[(.int .i64 v2.fPin), (.int .i64 v2.fHammer)])]) Try.func57 rfl Try.ntmps57 (by kernel_rfl) (L := []) (W := []) (Mem.start w) ?_
  refine jc_seq ?_
  refine jc_region ?_
  refine toO (by kernel_rfl) (p_a 0 [0] (by kernel_rfl) (fun b => by kernel_rfl) (fun b_1 => jkO ?_))
  refine toO (by kernel_rfl) (p_a 0 [0] (by kernel_rfl) (fun b => by kernel_rfl) (fun b_2 => jkO ?_))
  refine toO (by kernel_rfl) (p_a 0 [0] (by kernel_rfl) (fun b => by kernel_rfl) (fun b_3 => jkO ?_))
  refine jo_f [(0, 0)] (by kernel_rfl) ?_
  refine jo_end (by kernel_rfl) ?_
  refine jx_then ?_
  refine jc_seq ?_
  refine jc_region ?_
  refine toO (by kernel_rfl) (p_a 0 [0] (by kernel_rfl) (fun b => by kernel_rfl) (fun b_4 => jkO ?_))
  refine jo_f [(0, 0)] (by kernel_rfl) ?_
  refine jo_end (by kernel_rfl) ?_
  refine jx_then ?_
  refine jc_seq ?_
  refine jc_seq ?_
  refine jc_region ?_
  refine jo_f [(0, 0), (0, 0), (0, 0), (0, 0)] (by kernel_rfl) ?_
  refine jo_end (by kernel_rfl) ?_
  refine jx_then ?_
  refine jc_meet (fun (j : (List Gpart) × (Option Nat) × Nat × (List Value) × Nat) => match j with | ⟨xs_1, o_158, cap_159, sp_160, n_161⟩ => impl_Wear_parts.k_2 w0 f1 v2 xs_1 = some r ∧ (xs_1.length = n_161) ∧ ((o_158 ≠ none → n_161 ≤ cap_159 ∧ sp_160.length = (cap_159 - n_161) * 5)) ∧ ((o_158 = none → xs_1 = [] ∧ cap_159 = 0))) (fun (j : (List Gpart) × (Option Nat) × Nat × (List Value) × Nat) => match j with | ⟨xs_1, o_158, cap_159, sp_160, n_161⟩ => [(3, [], (.pointer (some ⟨b_1, 0, none⟩))), (4, [], (.pointer (some ⟨b_2, 0, none⟩))), (5, [], (.pointer (some ⟨b_3, 0, none⟩))), (6, [], (.slice none 0 0)), (7, [], (.slice (o_158.map fun b => ⟨b, 0, none⟩) n_161 cap_159))]) (fun (j : (List Gpart) × (Option Nat) × Nat × (List Value) × Nat) => match j with | ⟨xs_1, o_158, cap_159, sp_160, n_161⟩ => [⟨some b_1, 32, [(.slice w0_fPins_a w0.fPins.length w0_fPins_c), (.slice w0_fStrokes_a w0.fStrokes.length w0_fStrokes_c)]⟩, ⟨some b_2, 27, [(.int .i16 f1.fSteps), (.slice f1_fHammers_a f1.fHammers.length f1_fHammers_c)]⟩, ⟨some b_3, 35, [(.int .i64 v2.fPin), (.int .i64 v2.fHammer)]⟩, ⟨o_158, 83, row encGpart xs_1 sp_160⟩]) ?_ ?_
  · refine jc_block ?_
    obtain ⟨t_16, ht_472, hr_458⟩ := bd h
    refine jc_loop (fun (s : (List Gpart) × Int) (x : (Option Nat) × Nat × (List Value) × Nat) => match s, x with | ⟨xs_13, i_14⟩, ⟨o_452, cap_453, sp_454, n_455⟩ => (xs_13.length = n_455) ∧ ((o_452 ≠ none → n_455 ≤ cap_453 ∧ sp_454.length = (cap_453 - n_455) * 5)) ∧ ((o_452 = none → xs_13 = [] ∧ cap_453 = 0))) (fun (s : (List Gpart) × Int) (x : (Option Nat) × Nat × (List Value) × Nat) => match s, x with | ⟨xs_13, i_14⟩, ⟨o_452, cap_453, sp_454, n_455⟩ => [(3, [], (.pointer (some ⟨b_1, 0, none⟩))), (4, [], (.pointer (some ⟨b_2, 0, none⟩))), (5, [], (.pointer (some ⟨b_3, 0, none⟩))), (6, [], (.slice none 0 0)), (7, [], (.slice (o_452.map fun b => ⟨b, 0, none⟩) n_455 cap_453)), (14, [], (.slice w0_fPins_a w0.fPins.length w0_fPins_c)), (15, [], (.int .i64 (w0.fPins.length : Int))), (16, [], (.int .i64 i_14))]) (fun (s : (List Gpart) × Int) (x : (Option Nat) × Nat × (List Value) × Nat) => match s, x with | ⟨xs_13, i_14⟩, ⟨o_452, cap_453, sp_454, n_455⟩ => [⟨some b_1, 32, [(.slice w0_fPins_a w0.fPins.length w0_fPins_c), (.slice w0_fStrokes_a w0.fStrokes.length w0_fStrokes_c)]⟩, ⟨some b_2, 27, [(.int .i16 f1.fSteps), (.slice f1_fHammers_a f1.fHammers.length f1_fHammers_c)]⟩, ⟨some b_3, 35, [(.int .i64 v2.fPin), (.int .i64 v2.fHammer)]⟩, ⟨o_452, 83, row encGpart xs_13 sp_454⟩]) ht_472 ⟨(some b_4), 0, [], 0⟩ ⟨rfl, (fun _ => ⟨Nat.le_refl _, by simp⟩), (fun e => nomatch e)⟩ (by kernel_rfl) [0, 1, 2, 3] (by kernel_rfl) (by kernel_rfl) ?_
    rintro ⟨xs_13, i_14⟩ ⟨o_452, cap_453, sp_454, n_455⟩ y_459 ⟨rfl, hs_456, ho_457⟩ h
    rw [impl_Wear_parts.l_15] at h
    refine jc_seq ?_
    refine jc_region ?_
    refine jo_f [(0, 0)] (by kernel_rfl) ?_
    refine jo_end (by kernel_rfl) ?_
    refine jx_then ?_
    refine jc_seq ?_
    refine jc_cond (decide (i_14 < (w0.fPins.length : Int))) (by kernel_rfl) (fun hc_461 => ?_) (fun hc_461 => ?_)
    · replace h := ifT hc_461 h
      refine jc_skip ?_
      refine jx_then ?_
      refine jc_seq ?_
      refine jc_block ?_
      refine jc_seq ?_
      refine jc_region ?_
      obtain ⟨x_17, hx_462, h⟩ := bd h
      refine toO (by kernel_rfl) (p_idx 0 w0_fPins_a w0.fPins.length i_14 3 (by kernel_rfl) (by kernel_rfl) (ix_some hx_462).1 (ltn hx_462 rfl) (w0_fPins_h.sp hx_462) (jkO ?_))
      refine toO (by kernel_rfl) (p_ld 0 (aB w0_fPins_a) (aO w0_fPins_a + i_14.toNat * 3) true (encGWornPin x_17) (by kernel_rfl) (by kernel_rfl) (by kernel_rfl) (fun w hm => ((hm.exRow w0_fPins_h List.not_mem_nil).at hx_462)) (jkO ?_))
      refine toO (by kernel_rfl) (p_a 0 [0] (by kernel_rfl) (fun b => by kernel_rfl) (fun b_463 => jkO ?_))
      refine toO (by kernel_rfl) (p_s 0 [4] (by kernel_rfl) (by kernel_rfl) (jkO ?_))
      refine jo_end (by kernel_rfl) ?_
      refine jx_then ?_
      refine jc_region ?_
      refine jo_f [(0, 0), (0, 0), (4, 0), (0, 0), (2, 0), (0, 0), (4, 0), (0, 0), (0, 0), (4, 0), (0, 0), (0, 0)] (by kernel_rfl) ?_
      refine toO (by kernel_rfl) (p_a 0 [0] (by kernel_rfl) (fun b => by kernel_rfl) (fun b_464 => jkO ?_))
      obtain ⟨hg_465, h⟩ := gd h
      refine toO (by kernel_rfl) (p_apn 0 3 o_452 83 xs_13.length 1 cap_453 5 40 (some ⟨b_464, 0, none⟩) encGpart xs_13 [(⟨x_17.fTurns, 1, v2.fPin, (w64 x_17.fStep), (w64 x_17.fTrack)⟩ : Gpart)] sp_454 (.agg #[(.int .i64 0), (.int .i64 0), (.int .i64 0), (.int .i64 0), (.int .i64 0)]) rfl rfl (by kernel_rfl) (by kernel_rfl) (by kernel_rfl) encGpart_len encGpart_cell hs_456 ho_457 (fun w hm => (hm.ownRow (hh := 5) (o := (some b_464)) (T := 83) (enc := encGpart) (xs := [(⟨x_17.fTurns, 1, v2.fPin, (w64 x_17.fStep), (w64 x_17.fTrack)⟩ : Gpart)]) (sp := []) (by kernel_rfl) (fun e => nomatch e) encGpart_len)) hg_465 (by kernel_rfl) (by kernel_rfl) (fun o_466 cap_467 sp_468 hs_469 ho_470 => jkO ?_))
      refine jo_f [(0, 0)] (by kernel_rfl) ?_
      refine jo_end (by kernel_rfl) ?_
      refine jx_inn ?_
      refine jx_then ?_
      refine jc_region ?_
      refine jo_f [(0, 0), (0, 0)] (by kernel_rfl) ?_
      refine jo_end (by kernel_rfl) ?_
      exact jx_back ((xs_13 ++ [(⟨x_17.fTurns, 1, v2.fPin, (w64 x_17.fStep), (w64 x_17.fTrack)⟩ : Gpart)]), (w64 (i_14 + 1))) ⟨o_466, cap_467, sp_468, (xs_13 ++ [(⟨x_17.fTurns, 1, v2.fPin, (w64 x_17.fStep), (w64 x_17.fTrack)⟩ : Gpart)]).length⟩ (Option.some.inj h).symm ⟨rfl, hs_469, ho_470⟩ [0, 1, 2, 3] (by kernel_rfl) (by kernel_rfl) (by kernel_rfl)
    · replace h := ifF hc_461 h
      refine jc_exit ?_
      refine jx_thenx ?_
      refine jx_leave xs_13 (Option.some.inj h).symm (fun e_471 => ?_)
      subst e_471
      refine jx_ine ?_
      exact jx_meet ⟨xs_13, o_452, cap_453, sp_454, xs_13.length⟩ ⟨hr_458, rfl, hs_456, ho_457⟩ (by kernel_rfl) [0, 1, 2, 3] (by kernel_rfl) (by kernel_rfl)
  · rintro ⟨xs_1, o_158, cap_159, sp_160, n_161⟩ ⟨h, rfl, hs_162, ho_163⟩
    replace h : impl_Wear_parts.k_2 w0 f1 v2 xs_1 = some r := h
    rw [impl_Wear_parts.k_2] at h
    refine jx_then ?_
    refine jc_seq ?_
    refine jc_seq ?_
    refine jc_draw [⟨some b_1, 32, [(.slice w0_fPins_a w0.fPins.length w0_fPins_c), (.slice w0_fStrokes_a w0.fStrokes.length w0_fStrokes_c)]⟩, ⟨some b_2, 27, [(.int .i16 f1.fSteps), (.slice f1_fHammers_a f1.fHammers.length f1_fHammers_c)]⟩, ⟨some b_3, 35, [(.int .i64 v2.fPin), (.int .i64 v2.fHammer)]⟩, ⟨o_158, 83, row encGpart xs_1 sp_160⟩] 6 (by kernel_rfl) (by kernel_rfl) ?_
    refine jd_f [⟨0, 1, 0⟩, ⟨1, 0, 0⟩, ⟨5, 0, 0⟩] 3 (by kernel_rfl) (by kernel_rfl) (fun w h => h.pick [0, 1, 2, 3] (by kernel_rfl) (by kernel_rfl)) (by kernel_rfl) (by kernel_rfl) ?_
    obtain ⟨t_3, ht_301, h⟩ := bd h
    refine toD 2 (by kernel_rfl) (p_call 0 33 #[(.agg #[(.slice w0_fPins_a w0.fPins.length w0_fPins_c), (.slice w0_fStrokes_a w0.fStrokes.length w0_fStrokes_c)])] (by kernel_rfl) (by kernel_rfl) (fun w hm => impl_Wear_drum.calls w0 w _ w0_fPins_a w0.fPins.length w0_fPins_c (hm.exRow w0_fPins_h List.not_mem_nil) rfl w0_fStrokes_a w0.fStrokes.length w0_fStrokes_c (hm.exRow w0_fStrokes_h List.not_mem_nil) rfl ht_301) ?_)
    rintro w v w' hm ⟨rfl, hm'⟩
    refine ⟨_, hm.app hm', jkD (fun w h => h.pick [0, 1, 2, 3] (by kernel_rfl) (by kernel_rfl)) ?_⟩
    clear hm hm'
    obtain ⟨t_4, ht_302, h⟩ := bd h
    refine toD 3 (by kernel_rfl) (p_call 0 32 #[(.agg #[(.int .i16 f1.fSteps), (.slice f1_fHammers_a f1.fHammers.length f1_fHammers_c)]), (.agg (row encU32 t_3.1 []).toArray)] (by kernel_rfl) (by kernel_rfl) (fun w hm => impl_Frame_byTrack.calls f1 t_3 w _ f1_fHammers_a f1.fHammers.length f1_fHammers_c (hm.exRow f1_fHammers_h List.not_mem_nil) rfl ht_302) ?_)
    rintro w v w' hm ⟨o_303, cap_304, sp_305, _, rfl, hs_306, ho_307, rfl, hm'⟩
    refine ⟨_, hm.app hm', jkD (fun w h => h.pick [0, 1, 2, 3] (by kernel_rfl) (by kernel_rfl)) ?_⟩
    clear hm hm'
    refine jd_f [⟨4, 0, 0⟩] 0 (by kernel_rfl) (by kernel_rfl) (fun w h => h.pick [0, 1, 2, 3] (by kernel_rfl) (by kernel_rfl)) (by kernel_rfl) (by kernel_rfl) ?_
    refine jd_end (by kernel_rfl) ?_
    refine jx_then ?_
    refine jc_meet (fun (j : (List Gpart) × (Option Nat) × Nat × (List Value) × Nat) => match j with | ⟨xs_5, o_363, cap_364, sp_365, n_366⟩ => impl_Wear_parts.k_6 xs_5 = some r ∧ (xs_5.length = n_366) ∧ ((o_363 ≠ none → n_366 ≤ cap_364 ∧ sp_365.length = (cap_364 - n_366) * 5)) ∧ ((o_363 = none → xs_5 = [] ∧ cap_364 = 0))) (fun (j : (List Gpart) × (Option Nat) × Nat × (List Value) × Nat) => match j with | ⟨xs_5, o_363, cap_364, sp_365, n_366⟩ => [(6, [], (.slice none 0 0)), (7, [], (.slice (o_363.map fun b => ⟨b, 0, none⟩) n_366 cap_364))]) (fun (j : (List Gpart) × (Option Nat) × Nat × (List Value) × Nat) => match j with | ⟨xs_5, o_363, cap_364, sp_365, n_366⟩ => [⟨some b_1, 32, [(.slice w0_fPins_a w0.fPins.length w0_fPins_c), (.slice w0_fStrokes_a w0.fStrokes.length w0_fStrokes_c)]⟩, ⟨some b_2, 27, [(.int .i16 f1.fSteps), (.slice f1_fHammers_a f1.fHammers.length f1_fHammers_c)]⟩, ⟨some b_3, 35, [(.int .i64 v2.fPin), (.int .i64 v2.fHammer)]⟩, ⟨o_363, 83, row encGpart xs_5 sp_365⟩, ⟨o_303, 2, row encI64 t_4 sp_305⟩]) ?_ ?_
    · refine jc_block ?_
      obtain ⟨t_10, ht_423, hr_407⟩ := bd h
      refine jc_loop (fun (s : (List Gpart) × Int) (x : (Option Nat) × Nat × (List Value) × Nat) => match s, x with | ⟨xs_7, i_8⟩, ⟨o_401, cap_402, sp_403, n_404⟩ => (xs_7.length = n_404) ∧ ((o_401 ≠ none → n_404 ≤ cap_402 ∧ sp_403.length = (cap_402 - n_404) * 5)) ∧ ((o_401 = none → xs_7 = [] ∧ cap_402 = 0))) (fun (s : (List Gpart) × Int) (x : (Option Nat) × Nat × (List Value) × Nat) => match s, x with | ⟨xs_7, i_8⟩, ⟨o_401, cap_402, sp_403, n_404⟩ => [(3, [], (.pointer (some ⟨b_1, 0, none⟩))), (5, [], (.pointer (some ⟨b_3, 0, none⟩))), (6, [], (.slice none 0 0)), (7, [], (.slice (o_401.map fun b => ⟨b, 0, none⟩) n_404 cap_402)), (38, [], (.slice (o_303.map fun b => ⟨b, 0, none⟩) t_4.length cap_304)), (39, [], (.int .i64 (t_4.length : Int))), (40, [], (.int .i64 i_8))]) (fun (s : (List Gpart) × Int) (x : (Option Nat) × Nat × (List Value) × Nat) => match s, x with | ⟨xs_7, i_8⟩, ⟨o_401, cap_402, sp_403, n_404⟩ => [⟨some b_1, 32, [(.slice w0_fPins_a w0.fPins.length w0_fPins_c), (.slice w0_fStrokes_a w0.fStrokes.length w0_fStrokes_c)]⟩, ⟨some b_2, 27, [(.int .i16 f1.fSteps), (.slice f1_fHammers_a f1.fHammers.length f1_fHammers_c)]⟩, ⟨some b_3, 35, [(.int .i64 v2.fPin), (.int .i64 v2.fHammer)]⟩, ⟨o_401, 83, row encGpart xs_7 sp_403⟩, ⟨o_303, 2, row encI64 t_4 sp_305⟩]) ht_423 ⟨o_158, cap_159, sp_160, xs_1.length⟩ ⟨rfl, hs_162, ho_163⟩ (by kernel_rfl) [0, 1, 2, 3, 4] (by kernel_rfl) (by kernel_rfl) ?_
      rintro ⟨xs_7, i_8⟩ ⟨o_401, cap_402, sp_403, n_404⟩ y_408 ⟨rfl, hs_405, ho_406⟩ h
      rw [impl_Wear_parts.l_9] at h
      refine jc_seq ?_
      refine jc_region ?_
      refine jo_f [(0, 0)] (by kernel_rfl) ?_
      refine jo_end (by kernel_rfl) ?_
      refine jx_then ?_
      refine jc_seq ?_
      refine jc_cond (decide (i_8 < (t_4.length : Int))) (by kernel_rfl) (fun hc_410 => ?_) (fun hc_410 => ?_)
      · replace h := ifT hc_410 h
        refine jc_skip ?_
        refine jx_then ?_
        refine jc_seq ?_
        refine jc_block ?_
        refine jc_seq ?_
        refine jc_region ?_
        refine jo_f [(0, 0)] (by kernel_rfl) ?_
        obtain ⟨x_11, hx_411, h⟩ := bd h
        refine toO (by kernel_rfl) (p_idx 0 (o_303.map fun b => ⟨b, 0, none⟩) t_4.length i_8 1 (by kernel_rfl) (by kernel_rfl) (ix_some hx_411).1 (ltn hx_411 rfl) (spo ho_307 hx_411) (jkO ?_))
        refine toO (by kernel_rfl) (p_ld 0 (aB (o_303.map fun b => ⟨b, 0, none⟩)) (aO (o_303.map fun b => ⟨b, 0, none⟩) + i_8.toNat * 1) false (encI64 x_11) (by kernel_rfl) (by kernel_rfl) (by kernel_rfl) (fun w hm => ((hm.ownRow (hh := 4) (o := o_303) (T := 2) (enc := encI64) (xs := t_4) (sp := sp_305) (by kernel_rfl) (fun e => (ho_307 e).1) encI64_len).at hx_411)) (jkO ?_))
        refine jo_f [(0, 0), (0, 0)] (by kernel_rfl) ?_
        refine jo_end (by kernel_rfl) ?_
        refine jx_then ?_
        refine jc_draw [⟨some b_1, 32, [(.slice w0_fPins_a w0.fPins.length w0_fPins_c), (.slice w0_fStrokes_a w0.fStrokes.length w0_fStrokes_c)]⟩, ⟨some b_2, 27, [(.int .i16 f1.fSteps), (.slice f1_fHammers_a f1.fHammers.length f1_fHammers_c)]⟩, ⟨some b_3, 35, [(.int .i64 v2.fPin), (.int .i64 v2.fHammer)]⟩, ⟨o_303, 2, row encI64 t_4 sp_305⟩] 14 (by kernel_rfl) (by kernel_rfl) ?_
        refine jd_f [⟨0, 0, 0⟩, ⟨1, 0, 0⟩, ⟨2, 0, 0⟩, ⟨3, 0, 0⟩, ⟨6, 0, 0⟩, ⟨7, 0, 0⟩, ⟨8, 2, 0⟩, ⟨9, 0, 0⟩] 6 (by kernel_rfl) (by kernel_rfl) (fun w h => h.pick [0, 1, 2, 4] (by kernel_rfl) (by kernel_rfl)) (by kernel_rfl) (by kernel_rfl) ?_
        obtain ⟨x_12, hx_414, h⟩ := bd h
        refine jd_v 4 0 (by kernel_rfl) (fun w h => h.pick [0, 1, 2, 4] (by kernel_rfl) (by kernel_rfl)) (by kernel_rfl) (by kernel_rfl) _ (fun w hm => idx_run (a := w0_fStrokes_a) (len := w0.fStrokes.length) (s := 1) (j := i_8) (by kernel_rfl) (ix_some hx_414).1 (ltn hx_414 rfl) (w0_fStrokes_h.sp hx_414)) ?_
        refine jd_v 5 0 (by kernel_rfl) (fun w h => h.pick [0, 1, 2, 4] (by kernel_rfl) (by kernel_rfl)) (by kernel_rfl) (by kernel_rfl) _ (fun w hm => ld_run (b := aB w0_fStrokes_a) (off := (aO w0_fStrokes_a + i_8.toNat * 1)) (s := 1) (agg := false) (vs := (encI64 x_12)) (by kernel_rfl) (by kernel_rfl) (.inr rfl) ((hm.exRow w0_fStrokes_h List.not_mem_nil).at hx_414)) ?_
        refine jd_f [⟨10, 0, 0⟩] 3 (by kernel_rfl) (by kernel_rfl) (fun w h => h.pick [0, 1, 2, 4] (by kernel_rfl) (by kernel_rfl)) (by kernel_rfl) (by kernel_rfl) ?_
        refine toD 11 (by kernel_rfl) (p_a 0 [0] (by kernel_rfl) (fun b => by kernel_rfl) (fun b_415 => jkD (fun w h => h.pick [0, 1, 2, 4] (by kernel_rfl) (by kernel_rfl)) ?_))
        obtain ⟨hg_416, h⟩ := gd h
        refine toD 12 (by kernel_rfl) (p_apn 0 3 o_401 83 xs_7.length 1 cap_402 5 40 (some ⟨b_415, 0, none⟩) encGpart xs_7 [(⟨x_12, x_11, v2.fHammer, (-1), i_8⟩ : Gpart)] sp_403 (.agg #[(.int .i64 0), (.int .i64 0), (.int .i64 0), (.int .i64 0), (.int .i64 0)]) rfl rfl (by kernel_rfl) (by kernel_rfl) (by kernel_rfl) encGpart_len encGpart_cell hs_405 ho_406 (fun w hm => (hm.ownRow (hh := 5) (o := (some b_415)) (T := 83) (enc := encGpart) (xs := [(⟨x_12, x_11, v2.fHammer, (-1), i_8⟩ : Gpart)]) (sp := []) (by kernel_rfl) (fun e => nomatch e) encGpart_len)) hg_416 (by kernel_rfl) (by kernel_rfl) (fun o_417 cap_418 sp_419 hs_420 ho_421 => jkD (fun w h => h.pick [0, 1, 2, 4] (by kernel_rfl) (by kernel_rfl)) ?_))
        refine jd_f [⟨13, 0, 0⟩] 0 (by kernel_rfl) (by kernel_rfl) (fun w h => h.pick [0, 1, 2, 4] (by kernel_rfl) (by kernel_rfl)) (by kernel_rfl) (by kernel_rfl) ?_
        refine jd_end (by kernel_rfl) ?_
        refine jx_inn ?_
        refine jx_then ?_
        refine jc_region ?_
        refine jo_f [(0, 0), (0, 0)] (by kernel_rfl) ?_
        refine jo_end (by kernel_rfl) ?_
        exact jx_back ((xs_7 ++ [(⟨x_12, x_11, v2.fHammer, (-1), i_8⟩ : Gpart)]), (w64 (i_8 + 1))) ⟨o_417, cap_418, sp_419, (xs_7 ++ [(⟨x_12, x_11, v2.fHammer, (-1), i_8⟩ : Gpart)]).length⟩ (Option.some.inj h).symm ⟨rfl, hs_420, ho_421⟩ [0, 1, 2, 3, 4] (by kernel_rfl) (by kernel_rfl) (by kernel_rfl)
      · replace h := ifF hc_410 h
        refine jc_exit ?_
        refine jx_thenx ?_
        refine jx_leave xs_7 (Option.some.inj h).symm (fun e_422 => ?_)
        subst e_422
        refine jx_ine ?_
        exact jx_meet ⟨xs_7, o_401, cap_402, sp_403, xs_7.length⟩ ⟨hr_407, rfl, hs_405, ho_406⟩ (by kernel_rfl) [0, 1, 2, 3, 4] (by kernel_rfl) (by kernel_rfl)
    · rintro ⟨xs_5, o_363, cap_364, sp_365, n_366⟩ ⟨h, rfl, hs_367, ho_368⟩
      replace h : impl_Wear_parts.k_6 xs_5 = some r := h
      rw [impl_Wear_parts.k_6] at h
      refine jx_then ?_
      refine jc_seq ?_
      refine jc_region ?_
      refine jo_f [(0, 0), (0, 0)] (by kernel_rfl) ?_
      refine jo_end (by kernel_rfl) ?_
      refine jx_then ?_
      refine jc_ret ?_
      obtain rfl := Option.some.inj h
      exact jx_ret [] (.slice (o_363.map fun b => ⟨b, 0, none⟩) xs_5.length cap_364) [] rfl (by kernel_rfl) (by kernel_rfl) (fun w hm => ⟨o_363, cap_364, sp_365, xs_5.length, rfl, hs_367, ho_368, rfl, hm.pick [3] (by kernel_rfl) (by kernel_rfl)⟩)

/-! ### (impl.part).isWorn -/
noncomputable def impl_part_isWorn (p0 : Gpart) : Option (Bool) := some (decide (p0.fmade > p0.flife))
set_option maxRecDepth 100000 in
theorem impl_part_isWorn.calls (p0 : Gpart) (w : World) (r : Bool) (h : impl_part_isWorn p0 = some r) :
    Calls Try.prog 58 #[(.agg #[(.int .i64 p0.fmade), (.int .i64 p0.feach), (.int .i64 p0.flife), (.int .i64 p0.fstep), (.int .i64 p0.ftrack)])] w fun e w' => ∃ v, e = .returned v ∧ (v = (.bool r) ∧ Mem w [] [] w') := by
  rw [impl_part_isWorn] at h
  refine enter (args := [(.agg #[(.int .i64 p0.fmade), (.int .i64 p0.feach), (.int .i64 p0.flife), (.int .i64 p0.fstep), (.int .i64 p0.ftrack)])]) Try.func58 rfl Try.ntmps58 (by kernel_rfl) (L := []) (W := []) (Mem.start w) ?_
  refine jc_seq ?_
  refine jc_region ?_
  refine toO (by kernel_rfl) (p_a 0 [0] (by kernel_rfl) (fun b => by kernel_rfl) (fun b_1 => jkO ?_))
  refine jo_f [(0, 0)] (by kernel_rfl) ?_
  refine jo_end (by kernel_rfl) ?_
  refine jx_then ?_
  refine jc_seq ?_
  refine jc_region ?_
  refine jo_f [(0, 0), (0, 0), (0, 0), (0, 0), (0, 0), (0, 0)] (by kernel_rfl) ?_
  refine jo_end (by kernel_rfl) ?_
  refine jx_then ?_
  refine jc_ret ?_
  obtain rfl := Option.some.inj h
  exact jx_ret [] (.bool (decide (p0.fmade > p0.flife))) [] rfl (by kernel_rfl) (by kernel_rfl) (fun w hm => ⟨rfl, hm.pick [] (by kernel_rfl) (by kernel_rfl)⟩)

/-! ### slices.IndexFunc[[]impl.part,impl.part] -/
noncomputable def slices_IndexFunc_part_at_impl_part_isWorn.k_1 : Option (Int) := some (-1)
noncomputable def slices_IndexFunc_part_at_impl_part_isWorn.l_3 (s0 : List Gpart) : Int → Option ((Int) ⊕ (Int ⊕ Unit))
  | i_2 => (if (decide (i_2 < (s0.length : Int))) = true then (ix s0 i_2).bind fun x_5 => (impl_part_isWorn x_5).bind fun t_6 => (if t_6 = true then some (.inr (.inl i_2)) else some (.inl (w64 (i_2 + 1)))) else some (.inr (.inr ())))
noncomputable def slices_IndexFunc_part_at_impl_part_isWorn (s0 : List Gpart) : Option (Int) := (loop (slices_IndexFunc_part_at_impl_part_isWorn.l_3 s0) 0).bind fun t_4 => match t_4 with | .inl p => some p | .inr p => slices_IndexFunc_part_at_impl_part_isWorn.k_1
set_option maxRecDepth 100000 in
theorem slices_IndexFunc_part_at_impl_part_isWorn.calls (s0 : List Gpart) (w : World) (r : Int) (s0_a : Option Addr) (s0_an : Nat) (s0_c : Nat) (s0_h : Rw w s0_a 5 encGpart s0) (s0_hn : s0.length = s0_an) (h : slices_IndexFunc_part_at_impl_part_isWorn s0 = some r) :
    Calls Try.prog 94 #[(.slice s0_a s0_an s0_c), (.func (.func 58) #[] #[])] w fun e w' => ∃ v, e = .returned v ∧ (v = (.int .i64 r) ∧ Mem w [] [] w') := by
  subst s0_hn
  rw [slices_IndexFunc_part_at_impl_part_isWorn] at h
  refine enter (args := [(.slice s0_a s0.length s0_c), (.func (.func 58) #[] #[])]) Try.func94 rfl Try.ntmps94 (by kernel_rfl) (L := []) (W := []) (Mem.start w) ?_
  refine jc_seq ?_
  refine jc_region ?_
  refine jo_f [(0, 0)] (by kernel_rfl) ?_
  refine jo_end (by kernel_rfl) ?_
  refine jx_then ?_
  refine jc_seq ?_
  refine jc_seq ?_
  refine jc_region ?_
  refine jo_f [(0, 0), (0, 0), (0, 0)] (by kernel_rfl) ?_
  refine jo_end (by kernel_rfl) ?_
  refine jx_then ?_
  refine jc_meet (fun (_ : Unit) => slices_IndexFunc_part_at_impl_part_isWorn.k_1 = some r) (fun (_ : Unit) => [(4, [], (.int .i64 0))]) (fun (_ : Unit) => []) ?_ ?_
  · refine jc_block ?_
    obtain ⟨t_4, ht_40, hr_31⟩ := bd h
    refine jc_loop (fun (s : Int) (x : Unit) => match s, x with | i_2, _ => True) (fun (s : Int) (x : Unit) => match s, x with | i_2, _ => [(0, [], (.slice s0_a s0.length s0_c)), (1, [], (.func (.func 58) #[] #[])), (4, [], (.int .i64 0)), (7, [], (.int .i64 (s0.length : Int))), (8, [], (.int .i64 i_2))]) (fun (s : Int) (x : Unit) => match s, x with | i_2, _ => []) ht_40 () trivial (by kernel_rfl) [] (by kernel_rfl) (by kernel_rfl) ?_
    rintro i_2 _ y_32 _ h
    rw [slices_IndexFunc_part_at_impl_part_isWorn.l_3] at h
    refine jc_seq ?_
    refine jc_region ?_
    refine jo_f [(0, 0)] (by kernel_rfl) ?_
    refine jo_end (by kernel_rfl) ?_
    refine jx_then ?_
    refine jc_seq ?_
    refine jc_cond (decide (i_2 < (s0.length : Int))) (by kernel_rfl) (fun hc_34 => ?_) (fun hc_34 => ?_)
    · replace h := ifT hc_34 h
      refine jc_skip ?_
      refine jx_then ?_
      refine jc_seq ?_
      refine jc_block ?_
      refine jc_seq ?_
      refine jc_region ?_
      refine jo_f [(0, 0), (0, 0)] (by kernel_rfl) ?_
      refine jo_end (by kernel_rfl) ?_
      refine jx_then ?_
      refine jc_seq ?_
      refine jc_region ?_
      refine jo_f [(0, 0), (0, 0), (0, 0)] (by kernel_rfl) ?_
      obtain ⟨x_5, hx_35, h⟩ := bd h
      refine toO (by kernel_rfl) (p_idx 0 s0_a s0.length i_2 5 (by kernel_rfl) (by kernel_rfl) (ix_some hx_35).1 (ltn hx_35 rfl) (s0_h.sp hx_35) (jkO ?_))
      refine toO (by kernel_rfl) (p_ld 0 (aB s0_a) (aO s0_a + i_2.toNat * 5) true (encGpart x_5) (by kernel_rfl) (by kernel_rfl) (by kernel_rfl) (fun w hm => ((hm.exRow s0_h List.not_mem_nil).at hx_35)) (jkO ?_))
      obtain ⟨t_6, ht_36, h⟩ := bd h
      refine toO (by kernel_rfl) (p_call 0 58 #[(.agg #[(.int .i64 x_5.fmade), (.int .i64 x_5.feach), (.int .i64 x_5.flife), (.int .i64 x_5.fstep), (.int .i64 x_5.ftrack)])] (by kernel_rfl) (by kernel_rfl) (fun w hm => impl_part_isWorn.calls x_5 w _ ht_36) ?_)
      rintro w v w' hm ⟨rfl, hm'⟩
      refine ⟨_, hm.app hm', jkO ?_⟩
      clear hm hm'
      refine jo_end (by kernel_rfl) ?_
      refine jx_then ?_
      refine jc_cond t_6 (by kernel_rfl) (fun hc_37 => ?_) (fun hc_37 => ?_)
      · replace h := ifT hc_37 h
        refine jc_seq ?_
        refine jc_region ?_
        refine jo_f [(0, 0), (0, 0)] (by kernel_rfl) ?_
        refine jo_end (by kernel_rfl) ?_
        refine jx_then ?_
        refine jc_ret ?_
        refine jx_inr ?_
        refine jx_thenr ?_
        refine jx_leaver (.inl i_2) (Option.some.inj h).symm (fun e_38 => ?_)
        subst e_38
        refine jx_inr ?_
        refine jx_thenr ?_
        refine jx_thenr ?_
        obtain rfl := Option.some.inj hr_31
        exact jx_ret [] (.int .i64 i_2) [] rfl (by kernel_rfl) (by kernel_rfl) (fun w hm => ⟨rfl, hm.pick [] (by kernel_rfl) (by kernel_rfl)⟩)
      · replace h := ifF hc_37 h
        refine jc_skip ?_
        refine jx_inn ?_
        refine jx_then ?_
        refine jc_region ?_
        refine jo_f [(0, 0), (0, 0)] (by kernel_rfl) ?_
        refine jo_end (by kernel_rfl) ?_
        exact jx_back (w64 (i_2 + 1)) () (Option.some.inj h).symm trivial [] (by kernel_rfl) (by kernel_rfl) (by kernel_rfl)
    · replace h := ifF hc_34 h
      refine jc_exit ?_
      refine jx_thenx ?_
      refine jx_leave (.inr ()) (Option.some.inj h).symm (fun e_39 => ?_)
      subst e_39
      refine jx_ine ?_
      exact jx_meet () hr_31 (by kernel_rfl) [] (by kernel_rfl) (by kernel_rfl)
  · rintro _ h
    replace h : slices_IndexFunc_part_at_impl_part_isWorn.k_1 = some r := h
    rw [slices_IndexFunc_part_at_impl_part_isWorn.k_1] at h
    refine jx_then ?_
    refine jc_seq ?_
    refine jc_region ?_
    refine jo_f [(0, 0)] (by kernel_rfl) ?_
    refine jo_end (by kernel_rfl) ?_
    refine jx_then ?_
    refine jc_ret ?_
    obtain rfl := Option.some.inj h
    exact jx_ret [] (.int .i64 (-1)) [] rfl (by kernel_rfl) (by kernel_rfl) (fun w hm => ⟨rfl, hm.pick [] (by kernel_rfl) (by kernel_rfl)⟩)

/-! ### slices.ContainsFunc[[]impl.part,impl.part] -/
noncomputable def slices_ContainsFunc_part_at_impl_part_isWorn (s0 : List Gpart) : Option (Bool) := (slices_IndexFunc_part_at_impl_part_isWorn s0).bind fun t_1 => some (decide (t_1 ≥ 0))
set_option maxRecDepth 100000 in
theorem slices_ContainsFunc_part_at_impl_part_isWorn.calls (s0 : List Gpart) (w : World) (r : Bool) (s0_a : Option Addr) (s0_an : Nat) (s0_c : Nat) (s0_h : Rw w s0_a 5 encGpart s0) (s0_hn : s0.length = s0_an) (h : slices_ContainsFunc_part_at_impl_part_isWorn s0 = some r) :
    Calls Try.prog 79 #[(.slice s0_a s0_an s0_c), (.func (.func 58) #[] #[])] w fun e w' => ∃ v, e = .returned v ∧ (v = (.bool r) ∧ Mem w [] [] w') := by
  subst s0_hn
  rw [slices_ContainsFunc_part_at_impl_part_isWorn] at h
  refine enter (args := [(.slice s0_a s0.length s0_c), (.func (.func 58) #[] #[])]) Try.func79 rfl Try.ntmps79 (by kernel_rfl) (L := []) (W := []) (Mem.start w) ?_
  refine jc_seq ?_
  refine jc_region ?_
  refine jo_f [(0, 0)] (by kernel_rfl) ?_
  refine jo_end (by kernel_rfl) ?_
  refine jx_then ?_
  refine jc_seq ?_
  refine jc_region ?_
  refine jo_f [(0, 0), (0, 0)] (by kernel_rfl) ?_
  obtain ⟨t_1, ht_1, h⟩ := bd h
  refine toO (by kernel_rfl) (p_call 0 94 #[(.slice s0_a s0.length s0_c), (.func (.func 58) #[] #[])] (by kernel_rfl) (by kernel_rfl) (fun w hm => slices_IndexFunc_part_at_impl_part_isWorn.calls s0 w _ s0_a s0.length s0_c (hm.exRow s0_h List.not_mem_nil) rfl ht_1) ?_)
  rintro w v w' hm ⟨rfl, hm'⟩
  refine ⟨_, hm.app hm', jkO ?_⟩
  clear hm hm'
  refine jo_f [(0, 0), (0, 0)] (by kernel_rfl) ?_
  refine jo_end (by kernel_rfl) ?_
  refine jx_then ?_
  refine jc_ret ?_
  obtain rfl := Option.some.inj h
  exact jx_ret [] (.bool (decide (t_1 ≥ 0))) [] rfl (by kernel_rfl) (by kernel_rfl) (fun w hm => ⟨rfl, hm.pick [] (by kernel_rfl) (by kernel_rfl)⟩)

/-! ### impl.lifeCode -/
noncomputable def impl_lifeCode (f0 : GFrame) (w1 : GWear) (v2 : GLives) : Option (Int) := (impl_wearCode f0 w1 [v2]).bind fun t_1 => (if (t_1 != 0) = true then some t_1 else (impl_Wear_parts w1 f0 v2).bind fun t_2 => (slices_ContainsFunc_part_at_impl_part_isWorn t_2).bind fun t_3 => (impl_unless (!t_3) 4).bind fun t_4 => some t_4)
set_option maxRecDepth 100000 in
theorem impl_lifeCode.calls (f0 : GFrame) (w1 : GWear) (v2 : GLives) (w : World) (r : Int) (f0_fHammers_a : Option Addr) (f0_fHammers_an : Nat) (f0_fHammers_c : Nat) (f0_fHammers_h : Rw w f0_fHammers_a 2 encGHammer f0.fHammers) (f0_fHammers_hn : f0.fHammers.length = f0_fHammers_an) (w1_fPins_a : Option Addr) (w1_fPins_an : Nat) (w1_fPins_c : Nat) (w1_fPins_h : Rw w w1_fPins_a 3 encGWornPin w1.fPins) (w1_fPins_hn : w1.fPins.length = w1_fPins_an) (w1_fStrokes_a : Option Addr) (w1_fStrokes_an : Nat) (w1_fStrokes_c : Nat) (w1_fStrokes_h : Rw w w1_fStrokes_a 1 encI64 w1.fStrokes) (w1_fStrokes_hn : w1.fStrokes.length = w1_fStrokes_an) (h : impl_lifeCode f0 w1 v2 = some r) :
    Calls Try.prog 41 #[(.agg #[(.int .i16 f0.fSteps), (.slice f0_fHammers_a f0_fHammers_an f0_fHammers_c)]), (.agg #[(.slice w1_fPins_a w1_fPins_an w1_fPins_c), (.slice w1_fStrokes_a w1_fStrokes_an w1_fStrokes_c)]), (.agg #[(.int .i64 v2.fPin), (.int .i64 v2.fHammer)])] w fun e w' => ∃ v, e = .returned v ∧ (v = (.int .i64 r) ∧ Mem w [] [] w') := by
  subst f0_fHammers_hn w1_fPins_hn w1_fStrokes_hn
  rw [impl_lifeCode] at h
  refine enter (args := [(.agg #[(.int .i16 f0.fSteps), (.slice f0_fHammers_a f0.fHammers.length f0_fHammers_c)]), (.agg #[(.slice w1_fPins_a w1.fPins.length w1_fPins_c), (.slice w1_fStrokes_a w1.fStrokes.length w1_fStrokes_c)]), (.agg #[(.int .i64 v2.fPin), (.int .i64 v2.fHammer)])]) Try.func41 rfl Try.ntmps41 (by kernel_rfl) (L := []) (W := []) (Mem.start w) ?_
  refine jc_seq ?_
  refine jc_region ?_
  refine toO (by kernel_rfl) (p_a 0 [0] (by kernel_rfl) (fun b => by kernel_rfl) (fun b_1 => jkO ?_))
  refine toO (by kernel_rfl) (p_a 0 [0] (by kernel_rfl) (fun b => by kernel_rfl) (fun b_2 => jkO ?_))
  refine toO (by kernel_rfl) (p_a 0 [0] (by kernel_rfl) (fun b => by kernel_rfl) (fun b_3 => jkO ?_))
  refine jo_f [(0, 0)] (by kernel_rfl) ?_
  refine jo_end (by kernel_rfl) ?_
  refine jx_then ?_
  refine jc_seq ?_
  refine jc_seq ?_
  refine jc_region ?_
  refine jo_f [(0, 0), (1, 0), (2, 0)] (by kernel_rfl) ?_
  refine toO (by kernel_rfl) (p_a 0 [0] (by kernel_rfl) (fun b => by kernel_rfl) (fun b_7 => jkO ?_))
  obtain ⟨t_1, ht_8, h⟩ := bd h
  refine toO (by kernel_rfl) (p_call 0 28 #[(.agg #[(.int .i16 f0.fSteps), (.slice f0_fHammers_a f0.fHammers.length f0_fHammers_c)]), (.agg #[(.slice w1_fPins_a w1.fPins.length w1_fPins_c), (.slice w1_fStrokes_a w1.fStrokes.length w1_fStrokes_c)]), (.slice (some ⟨b_7, 0, none⟩) 1 1)] (by kernel_rfl) (by kernel_rfl) (fun w hm => impl_wearCode.calls f0 w1 [v2] w _ f0_fHammers_a f0.fHammers.length f0_fHammers_c (hm.exRow f0_fHammers_h List.not_mem_nil) rfl w1_fPins_a w1.fPins.length w1_fPins_c (hm.exRow w1_fPins_h List.not_mem_nil) rfl w1_fStrokes_a w1.fStrokes.length w1_fStrokes_c (hm.exRow w1_fStrokes_h List.not_mem_nil) rfl (some ⟨b_7, 0, none⟩) 1 1 (hm.ownRow (hh := 3) (o := (some b_7)) (T := 35) (enc := encGLives) (xs := [v2]) (sp := []) (by kernel_rfl) (fun e => nomatch e) encGLives_len) rfl ht_8) ?_)
  rintro w v w' hm ⟨rfl, hm'⟩
  refine ⟨_, hm.app hm', jkO ?_⟩
  clear hm hm'
  refine jo_f [(0, 0)] (by kernel_rfl) ?_
  refine jo_end (by kernel_rfl) ?_
  refine jx_then ?_
  refine jc_seq ?_
  refine jc_region ?_
  refine jo_f [(0, 0), (0, 0)] (by kernel_rfl) ?_
  refine jo_end (by kernel_rfl) ?_
  refine jx_then ?_
  refine jc_cond (t_1 != 0) (by kernel_rfl) (fun hc_9 => ?_) (fun hc_9 => ?_)
  · replace h := ifT hc_9 h
    refine jc_seq ?_
    refine jc_region ?_
    refine jo_f [(0, 0), (0, 0)] (by kernel_rfl) ?_
    refine jo_end (by kernel_rfl) ?_
    refine jx_then ?_
    refine jc_ret ?_
    refine jx_thenr ?_
    obtain rfl := Option.some.inj h
    exact jx_ret [] (.int .i64 t_1) [] rfl (by kernel_rfl) (by kernel_rfl) (fun w hm => ⟨rfl, hm.pick [] (by kernel_rfl) (by kernel_rfl)⟩)
  · replace h := ifF hc_9 h
    refine jc_skip ?_
    refine jx_then ?_
    refine jc_seq ?_
    refine jc_region ?_
    refine jo_f [(1, 0), (0, 0), (2, 0)] (by kernel_rfl) ?_
    obtain ⟨t_2, ht_10, h⟩ := bd h
    refine toO (by kernel_rfl) (p_call 0 57 #[(.agg #[(.slice w1_fPins_a w1.fPins.length w1_fPins_c), (.slice w1_fStrokes_a w1.fStrokes.length w1_fStrokes_c)]), (.agg #[(.int .i16 f0.fSteps), (.slice f0_fHammers_a f0.fHammers.length f0_fHammers_c)]), (.agg #[(.int .i64 v2.fPin), (.int .i64 v2.fHammer)])] (by kernel_rfl) (by kernel_rfl) (fun w hm => impl_Wear_parts.calls w1 f0 v2 w _ w1_fPins_a w1.fPins.length w1_fPins_c (hm.exRow w1_fPins_h List.not_mem_nil) rfl w1_fStrokes_a w1.fStrokes.length w1_fStrokes_c (hm.exRow w1_fStrokes_h List.not_mem_nil) rfl f0_fHammers_a f0.fHammers.length f0_fHammers_c (hm.exRow f0_fHammers_h List.not_mem_nil) rfl ht_10) ?_)
    rintro w v w' hm ⟨o_11, cap_12, sp_13, _, rfl, hs_14, ho_15, rfl, hm'⟩
    refine ⟨_, hm.app hm', jkO ?_⟩
    clear hm hm'
    obtain ⟨t_3, ht_16, h⟩ := bd h
    refine toO (by kernel_rfl) (p_call 0 79 #[(.slice (o_11.map fun b => ⟨b, 0, none⟩) t_2.length cap_12), (.func (.func 58) #[] #[])] (by kernel_rfl) (by kernel_rfl) (fun w hm => slices_ContainsFunc_part_at_impl_part_isWorn.calls t_2 w _ (o_11.map fun b => ⟨b, 0, none⟩) t_2.length cap_12 (hm.ownRow (hh := 4) (o := o_11) (T := 83) (enc := encGpart) (xs := t_2) (sp := sp_13) (by kernel_rfl) (fun e => (ho_15 e).1) encGpart_len) rfl ht_16) ?_)
    rintro w v w' hm ⟨rfl, hm'⟩
    refine ⟨_, hm.app hm', jkO ?_⟩
    clear hm hm'
    refine jo_f [(0, 0)] (by kernel_rfl) ?_
    obtain ⟨t_4, ht_17, h⟩ := bd h
    refine toO (by kernel_rfl) (p_call 0 29 #[(.bool (!t_3)), (.int .i64 4)] (by kernel_rfl) (by kernel_rfl) (fun w hm => impl_unless.calls (!t_3) 4 w _ ht_17) ?_)
    rintro w v w' hm ⟨rfl, hm'⟩
    refine ⟨_, hm.app hm', jkO ?_⟩
    clear hm hm'
    refine jo_f [(0, 0)] (by kernel_rfl) ?_
    refine jo_end (by kernel_rfl) ?_
    refine jx_then ?_
    refine jc_ret ?_
    obtain rfl := Option.some.inj h
    exact jx_ret [] (.int .i64 t_4) [] rfl (by kernel_rfl) (by kernel_rfl) (fun w hm => ⟨rfl, hm.pick [] (by kernel_rfl) (by kernel_rfl)⟩)

/-! ### (impl.part).left -/
noncomputable def impl_part_left (p0 : Gpart) : Option (Int) := (if (p0.feach == 0) = true then some 1000000 else (if p0.feach ≠ 0 then some (if 1000000 < (w64 (Int.tdiv (w64 (p0.flife - p0.fmade)) p0.feach)) then 1000000 else (w64 (Int.tdiv (w64 (p0.flife - p0.fmade)) p0.feach))) else none))
set_option maxRecDepth 100000 in
theorem impl_part_left.calls (p0 : Gpart) (w : World) (r : Int) (h : impl_part_left p0 = some r) :
    Calls Try.prog 80 #[(.agg #[(.int .i64 p0.fmade), (.int .i64 p0.feach), (.int .i64 p0.flife), (.int .i64 p0.fstep), (.int .i64 p0.ftrack)])] w fun e w' => ∃ v, e = .returned v ∧ (v = (.int .i64 r) ∧ Mem w [] [] w') := by
  rw [impl_part_left] at h
  refine enter (args := [(.agg #[(.int .i64 p0.fmade), (.int .i64 p0.feach), (.int .i64 p0.flife), (.int .i64 p0.fstep), (.int .i64 p0.ftrack)])]) Try.func80 rfl Try.ntmps80 (by kernel_rfl) (L := []) (W := []) (Mem.start w) ?_
  refine jc_seq ?_
  refine jc_region ?_
  refine toO (by kernel_rfl) (p_a 0 [0] (by kernel_rfl) (fun b => by kernel_rfl) (fun b_1 => jkO ?_))
  refine jo_f [(0, 0)] (by kernel_rfl) ?_
  refine jo_end (by kernel_rfl) ?_
  refine jx_then ?_
  refine jc_seq ?_
  refine jc_seq ?_
  refine jc_region ?_
  refine jo_f [(0, 0), (0, 0), (0, 0)] (by kernel_rfl) ?_
  refine jo_end (by kernel_rfl) ?_
  refine jx_then ?_
  refine jc_cond (p0.feach == 0) (by kernel_rfl) (fun hc_3 => ?_) (fun hc_3 => ?_)
  · replace h := ifT hc_3 h
    refine jc_seq ?_
    refine jc_region ?_
    refine jo_f [(0, 0)] (by kernel_rfl) ?_
    refine jo_end (by kernel_rfl) ?_
    refine jx_then ?_
    refine jc_ret ?_
    refine jx_thenr ?_
    obtain rfl := Option.some.inj h
    exact jx_ret [] (.int .i64 1000000) [] rfl (by kernel_rfl) (by kernel_rfl) (fun w hm => ⟨rfl, hm.pick [] (by kernel_rfl) (by kernel_rfl)⟩)
  · replace h := ifF hc_3 h
    refine jc_skip ?_
    refine jx_then ?_
    refine jc_seq ?_
    refine jc_region ?_
    refine jo_f [(0, 0), (0, 0), (0, 0), (0, 0), (0, 0), (0, 0), (0, 0)] (by kernel_rfl) ?_
    obtain ⟨hg_4, h⟩ := gd h
    refine toO (by kernel_rfl) (p_quo 0 .i64 (w64 (p0.flife - p0.fmade)) p0.feach (by kernel_rfl) (by kernel_rfl) hg_4 (jkO ?_))
    refine jo_f [(0, 0), (0, 0)] (by kernel_rfl) ?_
    refine jo_end (by kernel_rfl) ?_
    refine jx_then ?_
    refine jc_ret ?_
    obtain rfl := Option.some.inj h
    exact jx_ret [] (.int .i64 (if 1000000 < (w64 (Int.tdiv (w64 (p0.flife - p0.fmade)) p0.feach)) then 1000000 else (w64 (Int.tdiv (w64 (p0.flife - p0.fmade)) p0.feach)))) [] rfl (by kernel_rfl) (by kernel_rfl) (fun w hm => ⟨rfl, hm.pick [] (by kernel_rfl) (by kernel_rfl)⟩)

/-! ### (impl.Wear).first -/
noncomputable def impl_Wear_first.k_8 (i_2 : Int) (i_3 : Int) (i_4 : Int) (i_5 : Int) (i_6 : Int) (i_7 : Int) : Option (Gpart × Int) := some ((⟨i_2, i_3, i_4, i_5, i_6⟩ : Gpart), i_7)
noncomputable def impl_Wear_first.l_16 (t_1 : (List Gpart)) : (Int × Int × Int × Int × Int × Int × Int) → Option ((Int × Int × Int × Int × Int × Int × Int) ⊕ ((Int × Int × Int × Int × Int × Int)))
  | (i_9, i_10, i_11, i_12, i_13, i_14, i_15) => (if (decide (i_15 < (t_1.length : Int))) = true then (ix t_1 i_15).bind fun x_18 => (impl_part_left x_18).bind fun t_19 => (if (decide (t_19 < i_14)) = true then some (.inl (x_18.fmade, x_18.feach, x_18.flife, x_18.fstep, x_18.ftrack, t_19, (w64 (i_15 + 1)))) else some (.inl (i_9, i_10, i_11, i_12, i_13, i_14, (w64 (i_15 + 1))))) else some (.inr (i_9, i_10, i_11, i_12, i_13, i_14)))
noncomputable def impl_Wear_first (w0 : GWear) (f1 : GFrame) (v2 : GLives) : Option (Gpart × Int) := (impl_Wear_parts w0 f1 v2).bind fun t_1 => (loop (impl_Wear_first.l_16 t_1) (0, 0, 0, 0, 0, 1000000, 0)).bind fun t_17 => impl_Wear_first.k_8 t_17.1 t_17.2.1 t_17.2.2.1 t_17.2.2.2.1 t_17.2.2.2.2.1 t_17.2.2.2.2.2
set_option maxRecDepth 100000 in
theorem impl_Wear_first.calls (w0 : GWear) (f1 : GFrame) (v2 : GLives) (w : World) (r : Gpart × Int) (w0_fPins_a : Option Addr) (w0_fPins_an : Nat) (w0_fPins_c : Nat) (w0_fPins_h : Rw w w0_fPins_a 3 encGWornPin w0.fPins) (w0_fPins_hn : w0.fPins.length = w0_fPins_an) (w0_fStrokes_a : Option Addr) (w0_fStrokes_an : Nat) (w0_fStrokes_c : Nat) (w0_fStrokes_h : Rw w w0_fStrokes_a 1 encI64 w0.fStrokes) (w0_fStrokes_hn : w0.fStrokes.length = w0_fStrokes_an) (f1_fHammers_a : Option Addr) (f1_fHammers_an : Nat) (f1_fHammers_c : Nat) (f1_fHammers_h : Rw w f1_fHammers_a 2 encGHammer f1.fHammers) (f1_fHammers_hn : f1.fHammers.length = f1_fHammers_an) (h : impl_Wear_first w0 f1 v2 = some r) :
    Calls Try.prog 42 #[(.agg #[(.slice w0_fPins_a w0_fPins_an w0_fPins_c), (.slice w0_fStrokes_a w0_fStrokes_an w0_fStrokes_c)]), (.agg #[(.int .i16 f1.fSteps), (.slice f1_fHammers_a f1_fHammers_an f1_fHammers_c)]), (.agg #[(.int .i64 v2.fPin), (.int .i64 v2.fHammer)])] w fun e w' => ∃ v, e = .returned v ∧ (v = .tuple #[.agg #[(.int .i64 r.1.fmade), (.int .i64 r.1.feach), (.int .i64 r.1.flife), (.int .i64 r.1.fstep), (.int .i64 r.1.ftrack)], (.int .i64 r.2)] ∧ Mem w [] [] w') := by
  subst w0_fPins_hn w0_fStrokes_hn f1_fHammers_hn
  rw [impl_Wear_first] at h
  refine enter (args := [(.agg #[(.slice w0_fPins_a w0.fPins.length w0_fPins_c), (.slice w0_fStrokes_a w0.fStrokes.length w0_fStrokes_c)]), (.agg #[(.int .i16 f1.fSteps), (.slice f1_fHammers_a f1.fHammers.length f1_fHammers_c)]), (.agg #[(.int .i64 v2.fPin), (.int .i64 v2.fHammer)])]) Try.func42 rfl Try.ntmps42 (by kernel_rfl) (L := []) (W := []) (Mem.start w) ?_
  refine jc_seq ?_
  refine jc_region ?_
  refine toO (by kernel_rfl) (p_a 0 [0] (by kernel_rfl) (fun b => by kernel_rfl) (fun b_1 => jkO ?_))
  refine toO (by kernel_rfl) (p_a 0 [0] (by kernel_rfl) (fun b => by kernel_rfl) (fun b_2 => jkO ?_))
  refine toO (by kernel_rfl) (p_a 0 [0] (by kernel_rfl) (fun b => by kernel_rfl) (fun b_3 => jkO ?_))
  refine toO (by kernel_rfl) (p_a 0 [0] (by kernel_rfl) (fun b => by kernel_rfl) (fun b_4 => jkO ?_))
  refine jo_f [(0, 0)] (by kernel_rfl) ?_
  refine jo_end (by kernel_rfl) ?_
  refine jx_then ?_
  refine jc_seq ?_
  refine jc_region ?_
  refine jo_f [(0, 0)] (by kernel_rfl) ?_
  refine toO (by kernel_rfl) (p_a 0 [0] (by kernel_rfl) (fun b => by kernel_rfl) (fun b_5 => jkO ?_))
  refine toO (by kernel_rfl) (p_s 0 [4] (by kernel_rfl) (by kernel_rfl) (jkO ?_))
  refine jo_f [(0, 0)] (by kernel_rfl) ?_
  refine jo_end (by kernel_rfl) ?_
  refine jx_then ?_
  refine jc_seq ?_
  refine jc_seq ?_
  refine jc_region ?_
  refine jo_f [(0, 0), (1, 0), (2, 0)] (by kernel_rfl) ?_
  obtain ⟨t_1, ht_56, h⟩ := bd h
  refine toO (by kernel_rfl) (p_call 0 57 #[(.agg #[(.slice w0_fPins_a w0.fPins.length w0_fPins_c), (.slice w0_fStrokes_a w0.fStrokes.length w0_fStrokes_c)]), (.agg #[(.int .i16 f1.fSteps), (.slice f1_fHammers_a f1.fHammers.length f1_fHammers_c)]), (.agg #[(.int .i64 v2.fPin), (.int .i64 v2.fHammer)])] (by kernel_rfl) (by kernel_rfl) (fun w hm => impl_Wear_parts.calls w0 f1 v2 w _ w0_fPins_a w0.fPins.length w0_fPins_c (hm.exRow w0_fPins_h List.not_mem_nil) rfl w0_fStrokes_a w0.fStrokes.length w0_fStrokes_c (hm.exRow w0_fStrokes_h List.not_mem_nil) rfl f1_fHammers_a f1.fHammers.length f1_fHammers_c (hm.exRow f1_fHammers_h List.not_mem_nil) rfl ht_56) ?_)
  rintro w v w' hm ⟨o_57, cap_58, sp_59, _, rfl, hs_60, ho_61, rfl, hm'⟩
  refine ⟨_, hm.app hm', jkO ?_⟩
  clear hm hm'
  refine jo_f [(0, 0), (0, 0)] (by kernel_rfl) ?_
  refine jo_end (by kernel_rfl) ?_
  refine jx_then ?_
  refine jc_meet (fun (j : Int × Int × Int × Int × Int × Int) => match j with | ⟨i_2, i_3, i_4, i_5, i_6, i_7⟩ => impl_Wear_first.k_8 i_2 i_3 i_4 i_5 i_6 i_7 = some r) (fun (j : Int × Int × Int × Int × Int × Int) => match j with | ⟨i_2, i_3, i_4, i_5, i_6, i_7⟩ => [(6, [], (.pointer (some ⟨b_4, 0, none⟩))), (7, [], (.int .i64 0)), (8, [], (.pointer (some ⟨b_5, 0, none⟩))), (9, [], (.int .i64 i_7))]) (fun (j : Int × Int × Int × Int × Int × Int) => match j with | ⟨i_2, i_3, i_4, i_5, i_6, i_7⟩ => [⟨some b_1, 32, [(.slice w0_fPins_a w0.fPins.length w0_fPins_c), (.slice w0_fStrokes_a w0.fStrokes.length w0_fStrokes_c)]⟩, ⟨some b_2, 27, [(.int .i16 f1.fSteps), (.slice f1_fHammers_a f1.fHammers.length f1_fHammers_c)]⟩, ⟨some b_3, 35, [(.int .i64 v2.fPin), (.int .i64 v2.fHammer)]⟩, ⟨some b_4, 83, [(.int .i64 0), (.int .i64 0), (.int .i64 0), (.int .i64 0), (.int .i64 0)]⟩, ⟨some b_5, 83, [(.int .i64 i_2), (.int .i64 i_3), (.int .i64 i_4), (.int .i64 i_5), (.int .i64 i_6)]⟩, ⟨o_57, 83, row encGpart t_1 sp_59⟩]) ?_ ?_
  · refine jc_block ?_
    obtain ⟨t_17, ht_105, hr_96⟩ := bd h
    refine jc_loop (fun (s : Int × Int × Int × Int × Int × Int × Int) (x : Unit) => match s, x with | ⟨i_9, i_10, i_11, i_12, i_13, i_14, i_15⟩, _ => True) (fun (s : Int × Int × Int × Int × Int × Int × Int) (x : Unit) => match s, x with | ⟨i_9, i_10, i_11, i_12, i_13, i_14, i_15⟩, _ => [(6, [], (.pointer (some ⟨b_4, 0, none⟩))), (7, [], (.int .i64 0)), (8, [], (.pointer (some ⟨b_5, 0, none⟩))), (9, [], (.int .i64 i_14)), (17, [], (.slice (o_57.map fun b => ⟨b, 0, none⟩) t_1.length cap_58)), (18, [], (.int .i64 (t_1.length : Int))), (19, [], (.int .i64 i_15))]) (fun (s : Int × Int × Int × Int × Int × Int × Int) (x : Unit) => match s, x with | ⟨i_9, i_10, i_11, i_12, i_13, i_14, i_15⟩, _ => [⟨some b_1, 32, [(.slice w0_fPins_a w0.fPins.length w0_fPins_c), (.slice w0_fStrokes_a w0.fStrokes.length w0_fStrokes_c)]⟩, ⟨some b_2, 27, [(.int .i16 f1.fSteps), (.slice f1_fHammers_a f1.fHammers.length f1_fHammers_c)]⟩, ⟨some b_3, 35, [(.int .i64 v2.fPin), (.int .i64 v2.fHammer)]⟩, ⟨some b_4, 83, [(.int .i64 0), (.int .i64 0), (.int .i64 0), (.int .i64 0), (.int .i64 0)]⟩, ⟨some b_5, 83, [(.int .i64 i_9), (.int .i64 i_10), (.int .i64 i_11), (.int .i64 i_12), (.int .i64 i_13)]⟩, ⟨o_57, 83, row encGpart t_1 sp_59⟩]) ht_105 () trivial (by kernel_rfl) [0, 1, 2, 3, 4, 5] (by kernel_rfl) (by kernel_rfl) ?_
    rintro ⟨i_9, i_10, i_11, i_12, i_13, i_14, i_15⟩ _ y_97 _ h
    rw [impl_Wear_first.l_16] at h
    refine jc_seq ?_
    refine jc_region ?_
    refine jo_f [(0, 0)] (by kernel_rfl) ?_
    refine jo_end (by kernel_rfl) ?_
    refine jx_then ?_
    refine jc_seq ?_
    refine jc_cond (decide (i_15 < (t_1.length : Int))) (by kernel_rfl) (fun hc_99 => ?_) (fun hc_99 => ?_)
    · replace h := ifT hc_99 h
      refine jc_skip ?_
      refine jx_then ?_
      refine jc_seq ?_
      refine jc_block ?_
      refine jc_seq ?_
      refine jc_region ?_
      obtain ⟨x_18, hx_100, h⟩ := bd h
      refine toO (by kernel_rfl) (p_idx 0 (o_57.map fun b => ⟨b, 0, none⟩) t_1.length i_15 5 (by kernel_rfl) (by kernel_rfl) (ix_some hx_100).1 (ltn hx_100 rfl) (spo ho_61 hx_100) (jkO ?_))
      refine toO (by kernel_rfl) (p_ld 0 (aB (o_57.map fun b => ⟨b, 0, none⟩)) (aO (o_57.map fun b => ⟨b, 0, none⟩) + i_15.toNat * 5) true (encGpart x_18) (by kernel_rfl) (by kernel_rfl) (by kernel_rfl) (fun w hm => ((hm.ownRow (hh := 5) (o := o_57) (T := 83) (enc := encGpart) (xs := t_1) (sp := sp_59) (by kernel_rfl) (fun e => (ho_61 e).1) encGpart_len).at hx_100)) (jkO ?_))
      refine toO (by kernel_rfl) (p_a 0 [0] (by kernel_rfl) (fun b => by kernel_rfl) (fun b_101 => jkO ?_))
      refine toO (by kernel_rfl) (p_s 0 [6] (by kernel_rfl) (by kernel_rfl) (jkO ?_))
      refine jo_end (by kernel_rfl) ?_
      refine jx_then ?_
      refine jc_seq ?_
      refine jc_region ?_
      refine jo_f [(6, 0)] (by kernel_rfl) ?_
      obtain ⟨t_19, ht_102, h⟩ := bd h
      refine toO (by kernel_rfl) (p_call 0 80 #[(.agg #[(.int .i64 x_18.fmade), (.int .i64 x_18.feach), (.int .i64 x_18.flife), (.int .i64 x_18.fstep), (.int .i64 x_18.ftrack)])] (by kernel_rfl) (by kernel_rfl) (fun w hm => impl_part_left.calls x_18 w _ ht_102) ?_)
      rintro w v w' hm ⟨rfl, hm'⟩
      refine ⟨_, hm.app hm', jkO ?_⟩
      clear hm hm'
      refine jo_f [(0, 0)] (by kernel_rfl) ?_
      refine jo_end (by kernel_rfl) ?_
      refine jx_then ?_
      refine jc_seq ?_
      refine jc_region ?_
      refine jo_f [(0, 0), (0, 0), (0, 0)] (by kernel_rfl) ?_
      refine jo_end (by kernel_rfl) ?_
      refine jx_then ?_
      refine jc_cond (decide (t_19 < i_14)) (by kernel_rfl) (fun hc_103 => ?_) (fun hc_103 => ?_)
      · replace h := ifT hc_103 h
        refine jc_region ?_
        refine jo_f [(6, 0), (0, 0)] (by kernel_rfl) ?_
        refine toO (by kernel_rfl) (p_s 0 [4] (by kernel_rfl) (by kernel_rfl) (jkO ?_))
        refine jo_f [(0, 0)] (by kernel_rfl) ?_
        refine jo_end (by kernel_rfl) ?_
        refine jx_inn ?_
        refine jx_then ?_
        refine jc_region ?_
        refine jo_f [(0, 0), (0, 0)] (by kernel_rfl) ?_
        refine jo_end (by kernel_rfl) ?_
        exact jx_back (x_18.fmade, x_18.feach, x_18.flife, x_18.fstep, x_18.ftrack, t_19, (w64 (i_15 + 1))) () (Option.some.inj h).symm trivial [0, 1, 2, 3, 4, 5] (by kernel_rfl) (by kernel_rfl) (by kernel_rfl)
      · replace h := ifF hc_103 h
        refine jc_skip ?_
        refine jx_inn ?_
        refine jx_then ?_
        refine jc_region ?_
        refine jo_f [(0, 0), (0, 0)] (by kernel_rfl) ?_
        refine jo_end (by kernel_rfl) ?_
        exact jx_back (i_9, i_10, i_11, i_12, i_13, i_14, (w64 (i_15 + 1))) () (Option.some.inj h).symm trivial [0, 1, 2, 3, 4, 5] (by kernel_rfl) (by kernel_rfl) (by kernel_rfl)
    · replace h := ifF hc_99 h
      refine jc_exit ?_
      refine jx_thenx ?_
      refine jx_leave (i_9, i_10, i_11, i_12, i_13, i_14) (Option.some.inj h).symm (fun e_104 => ?_)
      subst e_104
      refine jx_ine ?_
      exact jx_meet ⟨i_9, i_10, i_11, i_12, i_13, i_14⟩ hr_96 (by kernel_rfl) [0, 1, 2, 3, 4, 5] (by kernel_rfl) (by kernel_rfl)
  · rintro ⟨i_2, i_3, i_4, i_5, i_6, i_7⟩ h
    replace h : impl_Wear_first.k_8 i_2 i_3 i_4 i_5 i_6 i_7 = some r := h
    rw [impl_Wear_first.k_8] at h
    refine jx_then ?_
    refine jc_seq ?_
    refine jc_region ?_
    refine jo_f [(4, 0), (0, 0)] (by kernel_rfl) ?_
    refine toO (by kernel_rfl) (p_s 0 [3] (by kernel_rfl) (by kernel_rfl) (jkO ?_))
    refine jo_f [(0, 0)] (by kernel_rfl) ?_
    refine jo_end (by kernel_rfl) ?_
    refine jx_then ?_
    refine jc_ret ?_
    obtain rfl := Option.some.inj h
    exact jx_ret [3] (.tuple #[(.agg #[(.int .i64 i_2), (.int .i64 i_3), (.int .i64 i_4), (.int .i64 i_5), (.int .i64 i_6)]), (.int .i64 i_7)]) [(b_4, b_4), (b_4, b_4), (b_4, b_4), (b_4, b_4), (b_4, b_4)] rfl (by kernel_rfl) (by kernel_rfl) (fun w hm => ⟨rfl, hm.pick [] (by kernel_rfl) (by kernel_rfl)⟩)

/-! ### impl.TurnsLeft -/
noncomputable def impl_TurnsLeft (f0 : GFrame) (w1 : GWear) (v2 : GLives) : Option (Int × Int) := (impl_lifeCode f0 w1 v2).bind fun t_1 => (if (t_1 != 0) = true then some (0, t_1) else (impl_Wear_first w1 f0 v2).bind fun t_2 => some (t_2.2, 0))
set_option maxRecDepth 100000 in
theorem impl_TurnsLeft.calls (f0 : GFrame) (w1 : GWear) (v2 : GLives) (w : World) (r : Int × Int) (f0_fHammers_a : Option Addr) (f0_fHammers_an : Nat) (f0_fHammers_c : Nat) (f0_fHammers_h : Rw w f0_fHammers_a 2 encGHammer f0.fHammers) (f0_fHammers_hn : f0.fHammers.length = f0_fHammers_an) (w1_fPins_a : Option Addr) (w1_fPins_an : Nat) (w1_fPins_c : Nat) (w1_fPins_h : Rw w w1_fPins_a 3 encGWornPin w1.fPins) (w1_fPins_hn : w1.fPins.length = w1_fPins_an) (w1_fStrokes_a : Option Addr) (w1_fStrokes_an : Nat) (w1_fStrokes_c : Nat) (w1_fStrokes_h : Rw w w1_fStrokes_a 1 encI64 w1.fStrokes) (w1_fStrokes_hn : w1.fStrokes.length = w1_fStrokes_an) (h : impl_TurnsLeft f0 w1 v2 = some r) :
    Calls Try.prog 14 #[(.agg #[(.int .i16 f0.fSteps), (.slice f0_fHammers_a f0_fHammers_an f0_fHammers_c)]), (.agg #[(.slice w1_fPins_a w1_fPins_an w1_fPins_c), (.slice w1_fStrokes_a w1_fStrokes_an w1_fStrokes_c)]), (.agg #[(.int .i64 v2.fPin), (.int .i64 v2.fHammer)])] w fun e w' => ∃ v, e = .returned v ∧ (v = .tuple #[(.int .i64 r.1), (.int .i64 r.2)] ∧ Mem w [] [] w') := by
  subst f0_fHammers_hn w1_fPins_hn w1_fStrokes_hn
  rw [impl_TurnsLeft] at h
  refine enter (args := [(.agg #[(.int .i16 f0.fSteps), (.slice f0_fHammers_a f0.fHammers.length f0_fHammers_c)]), (.agg #[(.slice w1_fPins_a w1.fPins.length w1_fPins_c), (.slice w1_fStrokes_a w1.fStrokes.length w1_fStrokes_c)]), (.agg #[(.int .i64 v2.fPin), (.int .i64 v2.fHammer)])]) Try.func14 rfl Try.ntmps14 (by kernel_rfl) (L := []) (W := []) (Mem.start w) ?_
  refine jc_seq ?_
  refine jc_region ?_
  refine toO (by kernel_rfl) (p_a 0 [0] (by kernel_rfl) (fun b => by kernel_rfl) (fun b_1 => jkO ?_))
  refine toO (by kernel_rfl) (p_a 0 [0] (by kernel_rfl) (fun b => by kernel_rfl) (fun b_2 => jkO ?_))
  refine toO (by kernel_rfl) (p_a 0 [0] (by kernel_rfl) (fun b => by kernel_rfl) (fun b_3 => jkO ?_))
  refine jo_f [(0, 0), (0, 0)] (by kernel_rfl) ?_
  refine jo_end (by kernel_rfl) ?_
  refine jx_then ?_
  refine jc_seq ?_
  refine jc_seq ?_
  refine jc_region ?_
  refine jo_f [(0, 0), (1, 0), (2, 0)] (by kernel_rfl) ?_
  obtain ⟨t_1, ht_6, h⟩ := bd h
  refine toO (by kernel_rfl) (p_call 0 41 #[(.agg #[(.int .i16 f0.fSteps), (.slice f0_fHammers_a f0.fHammers.length f0_fHammers_c)]), (.agg #[(.slice w1_fPins_a w1.fPins.length w1_fPins_c), (.slice w1_fStrokes_a w1.fStrokes.length w1_fStrokes_c)]), (.agg #[(.int .i64 v2.fPin), (.int .i64 v2.fHammer)])] (by kernel_rfl) (by kernel_rfl) (fun w hm => impl_lifeCode.calls f0 w1 v2 w _ f0_fHammers_a f0.fHammers.length f0_fHammers_c (hm.exRow f0_fHammers_h List.not_mem_nil) rfl w1_fPins_a w1.fPins.length w1_fPins_c (hm.exRow w1_fPins_h List.not_mem_nil) rfl w1_fStrokes_a w1.fStrokes.length w1_fStrokes_c (hm.exRow w1_fStrokes_h List.not_mem_nil) rfl ht_6) ?_)
  rintro w v w' hm ⟨rfl, hm'⟩
  refine ⟨_, hm.app hm', jkO ?_⟩
  clear hm hm'
  refine jo_f [(0, 0)] (by kernel_rfl) ?_
  refine jo_end (by kernel_rfl) ?_
  refine jx_then ?_
  refine jc_seq ?_
  refine jc_region ?_
  refine jo_f [(0, 0), (0, 0)] (by kernel_rfl) ?_
  refine jo_end (by kernel_rfl) ?_
  refine jx_then ?_
  refine jc_cond (t_1 != 0) (by kernel_rfl) (fun hc_7 => ?_) (fun hc_7 => ?_)
  · replace h := ifT hc_7 h
    refine jc_seq ?_
    refine jc_region ?_
    refine jo_f [(0, 0), (0, 0), (0, 0)] (by kernel_rfl) ?_
    refine jo_end (by kernel_rfl) ?_
    refine jx_then ?_
    refine jc_ret ?_
    refine jx_thenr ?_
    obtain rfl := Option.some.inj h
    exact jx_ret [] (.tuple #[(.int .i64 0), (.int .i64 t_1)]) [] rfl (by kernel_rfl) (by kernel_rfl) (fun w hm => ⟨rfl, hm.pick [] (by kernel_rfl) (by kernel_rfl)⟩)
  · replace h := ifF hc_7 h
    refine jc_skip ?_
    refine jx_then ?_
    refine jc_seq ?_
    refine jc_region ?_
    refine jo_f [(1, 0), (0, 0), (2, 0)] (by kernel_rfl) ?_
    obtain ⟨t_2, ht_8, h⟩ := bd h
    refine toO (by kernel_rfl) (p_call 0 42 #[(.agg #[(.slice w1_fPins_a w1.fPins.length w1_fPins_c), (.slice w1_fStrokes_a w1.fStrokes.length w1_fStrokes_c)]), (.agg #[(.int .i16 f0.fSteps), (.slice f0_fHammers_a f0.fHammers.length f0_fHammers_c)]), (.agg #[(.int .i64 v2.fPin), (.int .i64 v2.fHammer)])] (by kernel_rfl) (by kernel_rfl) (fun w hm => impl_Wear_first.calls w1 f0 v2 w _ w1_fPins_a w1.fPins.length w1_fPins_c (hm.exRow w1_fPins_h List.not_mem_nil) rfl w1_fStrokes_a w1.fStrokes.length w1_fStrokes_c (hm.exRow w1_fStrokes_h List.not_mem_nil) rfl f0_fHammers_a f0.fHammers.length f0_fHammers_c (hm.exRow f0_fHammers_h List.not_mem_nil) rfl ht_8) ?_)
    rintro w v w' hm ⟨rfl, hm'⟩
    refine ⟨_, hm.app hm', jkO ?_⟩
    clear hm hm'
    refine jo_f [(0, 0), (0, 0), (0, 0)] (by kernel_rfl) ?_
    refine toO (by kernel_rfl) (p_a 0 [0] (by kernel_rfl) (fun b => by kernel_rfl) (fun b_9 => jkO ?_))
    refine toO (by kernel_rfl) (p_s 0 [3] (by kernel_rfl) (by kernel_rfl) (jkO ?_))
    refine jo_f [(0, 0)] (by kernel_rfl) ?_
    refine jo_end (by kernel_rfl) ?_
    refine jx_then ?_
    refine jc_seq ?_
    refine jc_region ?_
    refine jo_f [(0, 0), (0, 0), (0, 0)] (by kernel_rfl) ?_
    refine jo_end (by kernel_rfl) ?_
    refine jx_then ?_
    refine jc_ret ?_
    obtain rfl := Option.some.inj h
    exact jx_ret [] (.tuple #[(.int .i64 t_2.2), (.int .i64 0)]) [] rfl (by kernel_rfl) (by kernel_rfl) (fun w hm => ⟨rfl, hm.pick [] (by kernel_rfl) (by kernel_rfl)⟩)

/-! ### spec.l06Lives -/
noncomputable def spec_l06Lives (v0 : GLives) : Option (Bool) := (spec_l00In v0.fPin 1 1000000).bind fun t_1 => (if t_1 = true then (spec_l00In v0.fHammer 1 1000000).bind fun t_2 => some t_2 else some false)
set_option maxRecDepth 100000 in
theorem spec_l06Lives.calls (v0 : GLives) (w : World) (r : Bool) (h : spec_l06Lives v0 = some r) :
    Calls Try.prog 81 #[(.agg #[(.int .i64 v0.fPin), (.int .i64 v0.fHammer)])] w fun e w' => ∃ v, e = .returned v ∧ (v = (.bool r) ∧ Mem w [] [] w') := by
  rw [spec_l06Lives] at h
  refine enter (args := [(.agg #[(.int .i64 v0.fPin), (.int .i64 v0.fHammer)])]) Try.func81 rfl Try.ntmps81 (by kernel_rfl) (L := []) (W := []) (Mem.start w) ?_
  refine jc_seq ?_
  refine jc_region ?_
  refine toO (by kernel_rfl) (p_a 0 [0] (by kernel_rfl) (fun b => by kernel_rfl) (fun b_1 => jkO ?_))
  refine jo_f [(0, 0)] (by kernel_rfl) ?_
  refine jo_end (by kernel_rfl) ?_
  refine jx_then ?_
  refine jc_seq ?_
  refine jc_region ?_
  refine jo_f [(0, 0), (0, 0)] (by kernel_rfl) ?_
  obtain ⟨t_1, ht_2, h⟩ := bd h
  refine toO (by kernel_rfl) (p_call 0 70 #[(.int .i64 v0.fPin), (.int .i64 1), (.int .i64 1000000)] (by kernel_rfl) (by kernel_rfl) (fun w hm => spec_l00In.calls v0.fPin 1 1000000 w _ ht_2) ?_)
  rintro w v w' hm ⟨rfl, hm'⟩
  refine ⟨_, hm.app hm', jkO ?_⟩
  clear hm hm'
  refine jo_f [(0, 0), (0, 1), (0, 1)] (by kernel_rfl) ?_
  refine jo_split 6 t_1 (by kernel_rfl) (fun hc_3 => ?_) (fun hc_3 => ?_)
  · replace h := ifT hc_3 h
    obtain ⟨t_2, ht_4, h⟩ := bd h
    refine toO (by kernel_rfl) (p_call 2 70 #[(.int .i64 v0.fHammer), (.int .i64 1), (.int .i64 1000000)] (by kernel_rfl) (by kernel_rfl) (fun w hm => spec_l00In.calls v0.fHammer 1 1000000 w _ ht_4) ?_)
    rintro w v w' hm ⟨rfl, hm'⟩
    refine ⟨_, hm.app hm', jkO ?_⟩
    clear hm hm'
    refine jo_f [(0, 4), (0, 0)] (by kernel_rfl) ?_
    refine jo_end (by kernel_rfl) ?_
    refine jx_then ?_
    refine jc_ret ?_
    obtain rfl := Option.some.inj h
    exact jx_ret [] (.bool t_2) [] rfl (by kernel_rfl) (by kernel_rfl) (fun w hm => ⟨rfl, hm.pick [] (by kernel_rfl) (by kernel_rfl)⟩)
  · replace h := ifF hc_3 h
    refine jo_f [(0, 3), (0, 5), (0, 0)] (by kernel_rfl) ?_
    refine jo_end (by kernel_rfl) ?_
    refine jx_then ?_
    refine jc_ret ?_
    obtain rfl := Option.some.inj h
    exact jx_ret [] (.bool false) [] rfl (by kernel_rfl) (by kernel_rfl) (fun w hm => ⟨rfl, hm.pick [] (by kernel_rfl) (by kernel_rfl)⟩)

/-! ### spec.l06Lived -/
noncomputable def spec_l06Lived.k_2 (q_1 : Bool) : Option (Int) := (if q_1 = true then some 1 else some 0)
noncomputable def spec_l06Lived (f0 : GFrame) (w1 : GWear) (v2 : GLives) : Option (Int) := (spec_l06Ok f0 w1).bind fun t_3 => (if (!t_3) = true then spec_l06Lived.k_2 true else (spec_l06Lives v2).bind fun t_4 => spec_l06Lived.k_2 (!t_4))
set_option maxRecDepth 100000 in
theorem spec_l06Lived.calls (f0 : GFrame) (w1 : GWear) (v2 : GLives) (w : World) (r : Int) (f0_fHammers_a : Option Addr) (f0_fHammers_an : Nat) (f0_fHammers_c : Nat) (f0_fHammers_h : Rw w f0_fHammers_a 2 encGHammer f0.fHammers) (f0_fHammers_hn : f0.fHammers.length = f0_fHammers_an) (w1_fPins_a : Option Addr) (w1_fPins_an : Nat) (w1_fPins_c : Nat) (w1_fPins_h : Rw w w1_fPins_a 3 encGWornPin w1.fPins) (w1_fPins_hn : w1.fPins.length = w1_fPins_an) (w1_fStrokes_a : Option Addr) (w1_fStrokes_an : Nat) (w1_fStrokes_c : Nat) (w1_fStrokes_h : Rw w w1_fStrokes_a 1 encI64 w1.fStrokes) (w1_fStrokes_hn : w1.fStrokes.length = w1_fStrokes_an) (f0_b : Nat) (w1_b : Nat) (hm0 : Mem w (bs [some f0_b, some w1_b]) [⟨some f0_b, 27, [(.int .i16 f0.fSteps), (.slice f0_fHammers_a f0_fHammers_an f0_fHammers_c)]⟩, ⟨some w1_b, 32, [(.slice w1_fPins_a w1_fPins_an w1_fPins_c), (.slice w1_fStrokes_a w1_fStrokes_an w1_fStrokes_c)]⟩] w) (f0_fHammers_ha : f0.fHammers ≠ [] → aB f0_fHammers_a ∉ bs [some f0_b, some w1_b]) (w1_fPins_ha : w1.fPins ≠ [] → aB w1_fPins_a ∉ bs [some f0_b, some w1_b]) (w1_fStrokes_ha : w1.fStrokes ≠ [] → aB w1_fStrokes_a ∉ bs [some f0_b, some w1_b]) (h : spec_l06Lived f0 w1 v2 = some r) :
    Calls Try.prog 43 #[(.pointer (some ⟨f0_b, 0, none⟩)), (.pointer (some ⟨w1_b, 0, none⟩)), (.agg #[(.int .i64 v2.fPin), (.int .i64 v2.fHammer)])] w fun e w' => ∃ v, e = .returned v ∧ (v = (.int .i64 r) ∧ Mem w (bs [some f0_b, some w1_b]) [⟨some f0_b, 27, [(.int .i16 f0.fSteps), (.slice f0_fHammers_a f0_fHammers_an f0_fHammers_c)]⟩, ⟨some w1_b, 32, [(.slice w1_fPins_a w1_fPins_an w1_fPins_c), (.slice w1_fStrokes_a w1_fStrokes_an w1_fStrokes_c)]⟩] w') := by
  subst f0_fHammers_hn w1_fPins_hn w1_fStrokes_hn
  rw [spec_l06Lived] at h
  refine enter (args := [(.pointer (some ⟨f0_b, 0, none⟩)), (.pointer (some ⟨w1_b, 0, none⟩)), (.agg #[(.int .i64 v2.fPin), (.int .i64 v2.fHammer)])]) Try.func43 rfl Try.ntmps43 (by kernel_rfl) (L := [⟨some f0_b, 27, [(.int .i16 f0.fSteps), (.slice f0_fHammers_a f0.fHammers.length f0_fHammers_c)]⟩, ⟨some w1_b, 32, [(.slice w1_fPins_a w1.fPins.length w1_fPins_c), (.slice w1_fStrokes_a w1.fStrokes.length w1_fStrokes_c)]⟩]) (W := bs [some f0_b, some w1_b]) hm0 ?_
  refine jc_seq ?_
  refine jc_region ?_
  refine toO (by kernel_rfl) (p_a 0 [0] (by kernel_rfl) (fun b => by kernel_rfl) (fun b_1 => jkO ?_))
  refine jo_f [(0, 0)] (by kernel_rfl) ?_
  refine jo_end (by kernel_rfl) ?_
  refine jx_then ?_
  refine jc_seq ?_
  refine jc_seq ?_
  refine jc_meet (fun (j : Bool) => match j with | q_1 => spec_l06Lived.k_2 q_1 = some r) (fun (j : Bool) => match j with | q_1 => [(6, [], (.int .i64 0)), (15, [], (.bool q_1))]) (fun (j : Bool) => match j with | q_1 => [⟨some f0_b, 27, [(.int .i16 f0.fSteps), (.slice f0_fHammers_a f0.fHammers.length f0_fHammers_c)]⟩, ⟨some w1_b, 32, [(.slice w1_fPins_a w1.fPins.length w1_fPins_c), (.slice w1_fStrokes_a w1.fStrokes.length w1_fStrokes_c)]⟩, ⟨some b_1, 35, [(.int .i64 v2.fPin), (.int .i64 v2.fHammer)]⟩]) ?_ ?_
  · refine jc_region ?_
    refine jo_f [(0, 0), (0, 0)] (by kernel_rfl) ?_
    obtain ⟨t_3, ht_6, h⟩ := bd h
    refine toO (by kernel_rfl) (p_call 0 34 #[(.pointer (some ⟨f0_b, 0, none⟩)), (.pointer (some ⟨w1_b, 0, none⟩))] (by kernel_rfl) (by kernel_rfl) (fun w hm => spec_l06Ok.calls f0 w1 w _ f0_fHammers_a f0.fHammers.length f0_fHammers_c (hm.exRowW f0_fHammers_h f0_fHammers_ha) rfl w1_fPins_a w1.fPins.length w1_fPins_c (hm.exRowW w1_fPins_h w1_fPins_ha) rfl w1_fStrokes_a w1.fStrokes.length w1_fStrokes_c (hm.exRowW w1_fStrokes_h w1_fStrokes_ha) rfl f0_b w1_b (hm.pass (N := [⟨some f0_b, 27, [(.int .i16 f0.fSteps), (.slice f0_fHammers_a f0.fHammers.length f0_fHammers_c)]⟩, ⟨some w1_b, 32, [(.slice w1_fPins_a w1.fPins.length w1_fPins_c), (.slice w1_fStrokes_a w1.fStrokes.length w1_fStrokes_c)]⟩]) [0, 1] (by kernel_rfl) (by kernel_rfl)) (hm.exApart (N := [⟨some f0_b, 27, [(.int .i16 f0.fSteps), (.slice f0_fHammers_a f0.fHammers.length f0_fHammers_c)]⟩, ⟨some w1_b, 32, [(.slice w1_fPins_a w1.fPins.length w1_fPins_c), (.slice w1_fStrokes_a w1.fStrokes.length w1_fStrokes_c)]⟩]) f0_fHammers_h f0_fHammers_ha [0, 1] (by kernel_rfl)) (hm.exApart (N := [⟨some f0_b, 27, [(.int .i16 f0.fSteps), (.slice f0_fHammers_a f0.fHammers.length f0_fHammers_c)]⟩, ⟨some w1_b, 32, [(.slice w1_fPins_a w1.fPins.length w1_fPins_c), (.slice w1_fStrokes_a w1.fStrokes.length w1_fStrokes_c)]⟩]) w1_fPins_h w1_fPins_ha [0, 1] (by kernel_rfl)) (hm.exApart (N := [⟨some f0_b, 27, [(.int .i16 f0.fSteps), (.slice f0_fHammers_a f0.fHammers.length f0_fHammers_c)]⟩, ⟨some w1_b, 32, [(.slice w1_fPins_a w1.fPins.length w1_fPins_c), (.slice w1_fStrokes_a w1.fStrokes.length w1_fStrokes_c)]⟩]) w1_fStrokes_h w1_fStrokes_ha [0, 1] (by kernel_rfl)) ht_6) ?_)
    rintro w v w' hm ⟨rfl, hm'⟩
    refine ⟨_, hm.appW (ps := [(0, ⟨some f0_b, 27, [(.int .i16 f0.fSteps), (.slice f0_fHammers_a f0.fHammers.length f0_fHammers_c)]⟩), (1, ⟨some w1_b, 32, [(.slice w1_fPins_a w1.fPins.length w1_fPins_c), (.slice w1_fStrokes_a w1.fStrokes.length w1_fStrokes_c)]⟩)]) (N := []) hm' (by kernel_rfl) (by kernel_rfl), jkO ?_⟩
    clear hm hm'
    refine jo_f [(0, 0), (0, 0), (2, 1)] (by kernel_rfl) ?_
    refine jo_split 11 (!t_3) (by kernel_rfl) (fun hc_7 => ?_) (fun hc_7 => ?_)
    · replace h := ifT hc_7 h
      refine jo_f [(0, 3), (0, 3), (0, 4)] (by kernel_rfl) ?_
      refine jo_end (by kernel_rfl) ?_
      exact jx_meet true h (by kernel_rfl) [0, 1, 2] (by kernel_rfl) (by kernel_rfl)
    · replace h := ifF hc_7 h
      obtain ⟨t_4, ht_8, h⟩ := bd h
      refine toO (by kernel_rfl) (p_call 2 81 #[(.agg #[(.int .i64 v2.fPin), (.int .i64 v2.fHammer)])] (by kernel_rfl) (by kernel_rfl) (fun w hm => spec_l06Lives.calls v2 w _ ht_8) ?_)
      rintro w v w' hm ⟨rfl, hm'⟩
      refine ⟨_, hm.app hm', jkO ?_⟩
      clear hm hm'
      refine jo_f [(0, 2), (0, 5)] (by kernel_rfl) ?_
      refine jo_end (by kernel_rfl) ?_
      exact jx_meet (!t_4) h (by kernel_rfl) [0, 1, 2] (by kernel_rfl) (by kernel_rfl)
  · rintro q_1 h
    replace h : spec_l06Lived.k_2 q_1 = some r := h
    rw [spec_l06Lived.k_2] at h
    refine jx_then ?_
    refine jc_cond q_1 (by kernel_rfl) (fun hc_5 => ?_) (fun hc_5 => ?_)
    · replace h := ifT hc_5 h
      refine jc_seq ?_
      refine jc_region ?_
      refine jo_f [(0, 0)] (by kernel_rfl) ?_
      refine jo_end (by kernel_rfl) ?_
      refine jx_then ?_
      refine jc_ret ?_
      refine jx_thenr ?_
      obtain rfl := Option.some.inj h
      exact jx_ret [] (.int .i64 1) [] rfl (by kernel_rfl) (by kernel_rfl) (fun w hm => ⟨rfl, hm.pick [0, 1] (by kernel_rfl) (by kernel_rfl)⟩)
    · replace h := ifF hc_5 h
      refine jc_skip ?_
      refine jx_then ?_
      refine jc_seq ?_
      refine jc_region ?_
      refine jo_f [(0, 0)] (by kernel_rfl) ?_
      refine jo_end (by kernel_rfl) ?_
      refine jx_then ?_
      refine jc_ret ?_
      obtain rfl := Option.some.inj h
      exact jx_ret [] (.int .i64 0) [] rfl (by kernel_rfl) (by kernel_rfl) (fun w hm => ⟨rfl, hm.pick [0, 1] (by kernel_rfl) (by kernel_rfl)⟩)

/-! ### spec.l06Worn -/
noncomputable def spec_l06Worn.k_4 (xs_1 : List GWornPin) (xs_3 : List Int) : Option ((List GWornPin) × (List Int)) := some (xs_1, xs_3)
noncomputable def spec_l06Worn.l_7 (w0 : GWear) (v1 : GLives) : ((List Int) × Int) → Option (((List Int) × Int) ⊕ ((List Int)))
  | (xs_5, i_6) => (if (decide (i_6 < (w0.fStrokes.length : Int))) = true then (ix w0.fStrokes i_6).bind fun x_9 => (if (decide (x_9 > v1.fHammer)) = true then (if xs_5.length + [i_6].length ≤ 4294967296 then some (.inl ((xs_5 ++ [i_6]), (w64 (i_6 + 1)))) else none) else some (.inl (xs_5, (w64 (i_6 + 1))))) else some (.inr xs_5))
noncomputable def spec_l06Worn.k_2 (w0 : GWear) (v1 : GLives) (xs_1 : List GWornPin) : Option ((List GWornPin) × (List Int)) := (loop (spec_l06Worn.l_7 w0 v1) (([] : List Int), 0)).bind fun t_8 => spec_l06Worn.k_4 xs_1 t_8
noncomputable def spec_l06Worn.l_12 (w0 : GWear) (v1 : GLives) : ((List GWornPin) × Int) → Option (((List GWornPin) × Int) ⊕ ((List GWornPin)))
  | (xs_10, i_11) => (if (decide (i_11 < (w0.fPins.length : Int))) = true then (ix w0.fPins i_11).bind fun x_14 => (if (decide (x_14.fTurns > v1.fPin)) = true then (ix w0.fPins i_11).bind fun x_15 => (if xs_10.length + [x_15].length ≤ 4294967296 then some (.inl ((xs_10 ++ [x_15]), (w64 (i_11 + 1)))) else none) else some (.inl (xs_10, (w64 (i_11 + 1))))) else some (.inr xs_10))
noncomputable def spec_l06Worn (w0 : GWear) (v1 : GLives) : Option ((List GWornPin) × (List Int)) := (loop (spec_l06Worn.l_12 w0 v1) (([] : List GWornPin), 0)).bind fun t_13 => spec_l06Worn.k_2 w0 v1 t_13
set_option maxRecDepth 100000 in
theorem spec_l06Worn.calls (w0 : GWear) (v1 : GLives) (w : World) (r : (List GWornPin) × (List Int)) (w0_fPins_a : Option Addr) (w0_fPins_an : Nat) (w0_fPins_c : Nat) (w0_fPins_h : Rw w w0_fPins_a 3 encGWornPin w0.fPins) (w0_fPins_hn : w0.fPins.length = w0_fPins_an) (w0_fStrokes_a : Option Addr) (w0_fStrokes_an : Nat) (w0_fStrokes_c : Nat) (w0_fStrokes_h : Rw w w0_fStrokes_a 1 encI64 w0.fStrokes) (w0_fStrokes_hn : w0.fStrokes.length = w0_fStrokes_an) (w0_b : Nat) (hm0 : Mem w (bs [some w0_b]) [⟨some w0_b, 32, [(.slice w0_fPins_a w0_fPins_an w0_fPins_c), (.slice w0_fStrokes_a w0_fStrokes_an w0_fStrokes_c)]⟩] w) (w0_fPins_ha : w0.fPins ≠ [] → aB w0_fPins_a ∉ bs [some w0_b]) (w0_fStrokes_ha : w0.fStrokes ≠ [] → aB w0_fStrokes_a ∉ bs [some w0_b]) (h : spec_l06Worn w0 v1 = some r) :
    Calls Try.prog 82 #[(.pointer (some ⟨w0_b, 0, none⟩)), (.agg #[(.int .i64 v1.fPin), (.int .i64 v1.fHammer)])] w fun e w' => ∃ v, e = .returned v ∧ (∃ (o0 : Option Nat) (c0 : Nat) (s0 : List Value) (n0 : Nat), r.1.length = n0 ∧ (o0 ≠ none → n0 ≤ c0 ∧ s0.length = (c0 - n0) * 3) ∧ (o0 = none → r.1 = [] ∧ c0 = 0) ∧ ∃ (o1 : Option Nat) (c1 : Nat) (s1 : List Value) (n1 : Nat), r.2.length = n1 ∧ (o1 ≠ none → n1 ≤ c1 ∧ s1.length = (c1 - n1) * 1) ∧ (o1 = none → r.2 = [] ∧ c1 = 0) ∧ v = .tuple #[.slice (o0.map fun b => ⟨b, 0, none⟩) n0 c0, .slice (o1.map fun b => ⟨b, 0, none⟩) n1 c1] ∧ Mem w (bs [some w0_b]) [⟨some w0_b, 32, [(.slice w0_fPins_a w0_fPins_an w0_fPins_c), (.slice w0_fStrokes_a w0_fStrokes_an w0_fStrokes_c)]⟩, ⟨o0, 58, row encGWornPin r.1 s0⟩, ⟨o1, 2, row encI64 r.2 s1⟩] w') := by
  subst w0_fPins_hn w0_fStrokes_hn
  rw [spec_l06Worn] at h
  refine enter (args := [(.pointer (some ⟨w0_b, 0, none⟩)), (.agg #[(.int .i64 v1.fPin), (.int .i64 v1.fHammer)])]) Try.func82 rfl Try.ntmps82 (by kernel_rfl) (L := [⟨some w0_b, 32, [(.slice w0_fPins_a w0.fPins.length w0_fPins_c), (.slice w0_fStrokes_a w0.fStrokes.length w0_fStrokes_c)]⟩]) (W := bs [some w0_b]) hm0 ?_
  refine jc_seq ?_
  refine jc_region ?_
  refine toO (by kernel_rfl) (p_a 0 [0] (by kernel_rfl) (fun b => by kernel_rfl) (fun b_1 => jkO ?_))
  refine jo_f [(0, 0), (0, 0)] (by kernel_rfl) ?_
  refine jo_end (by kernel_rfl) ?_
  refine jx_then ?_
  refine jc_seq ?_
  refine jc_region ?_
  refine toO (by kernel_rfl) (p_a 0 [0] (by kernel_rfl) (fun b => by kernel_rfl) (fun b_2 => jkO ?_))
  refine jo_f [(0, 0)] (by kernel_rfl) ?_
  refine jo_end (by kernel_rfl) ?_
  refine jx_then ?_
  refine jc_seq ?_
  refine jc_region ?_
  refine toO (by kernel_rfl) (p_a 0 [0] (by kernel_rfl) (fun b => by kernel_rfl) (fun b_3 => jkO ?_))
  refine jo_f [(0, 0)] (by kernel_rfl) ?_
  refine jo_end (by kernel_rfl) ?_
  refine jx_then ?_
  refine jc_seq ?_
  refine jc_seq ?_
  refine jc_region ?_
  refine jo_f [(0, 0)] (by kernel_rfl) ?_
  refine jo_end (by kernel_rfl) ?_
  refine jx_then ?_
  refine jc_meet (fun (j : (List GWornPin) × (Option Nat) × Nat × (List Value) × Nat) => match j with | ⟨xs_1, o_166, cap_167, sp_168, n_169⟩ => spec_l06Worn.k_2 w0 v1 xs_1 = some r ∧ (xs_1.length = n_169) ∧ ((o_166 ≠ none → n_169 ≤ cap_167 ∧ sp_168.length = (cap_167 - n_169) * 3)) ∧ ((o_166 = none → xs_1 = [] ∧ cap_167 = 0))) (fun (j : (List GWornPin) × (Option Nat) × Nat × (List Value) × Nat) => match j with | ⟨xs_1, o_166, cap_167, sp_168, n_169⟩ => [(0, [], (.pointer (some ⟨w0_b, 0, none⟩))), (3, [], (.pointer (some ⟨b_1, 0, none⟩))), (4, [], (.slice none 0 0)), (5, [], (.slice none 0 0)), (6, [], (.slice (o_166.map fun b => ⟨b, 0, none⟩) n_169 cap_167)), (7, [], (.slice (some ⟨b_3, 0, none⟩) 0 0))]) (fun (j : (List GWornPin) × (Option Nat) × Nat × (List Value) × Nat) => match j with | ⟨xs_1, o_166, cap_167, sp_168, n_169⟩ => [⟨some w0_b, 32, [(.slice w0_fPins_a w0.fPins.length w0_fPins_c), (.slice w0_fStrokes_a w0.fStrokes.length w0_fStrokes_c)]⟩, ⟨some b_1, 35, [(.int .i64 v1.fPin), (.int .i64 v1.fHammer)]⟩, ⟨o_166, 58, row encGWornPin xs_1 sp_168⟩, ⟨(some b_3), 2, row encI64 ([] : List Int) []⟩]) ?_ ?_
  · refine jc_block ?_
    obtain ⟨t_13, ht_431, hr_416⟩ := bd h
    refine jc_loop (fun (s : (List GWornPin) × Int) (x : (Option Nat) × Nat × (List Value) × Nat) => match s, x with | ⟨xs_10, i_11⟩, ⟨o_410, cap_411, sp_412, n_413⟩ => (xs_10.length = n_413) ∧ ((o_410 ≠ none → n_413 ≤ cap_411 ∧ sp_412.length = (cap_411 - n_413) * 3)) ∧ ((o_410 = none → xs_10 = [] ∧ cap_411 = 0))) (fun (s : (List GWornPin) × Int) (x : (Option Nat) × Nat × (List Value) × Nat) => match s, x with | ⟨xs_10, i_11⟩, ⟨o_410, cap_411, sp_412, n_413⟩ => [(0, [], (.pointer (some ⟨w0_b, 0, none⟩))), (3, [], (.pointer (some ⟨b_1, 0, none⟩))), (4, [], (.slice none 0 0)), (5, [], (.slice none 0 0)), (6, [], (.slice (o_410.map fun b => ⟨b, 0, none⟩) n_413 cap_411)), (7, [], (.slice (some ⟨b_3, 0, none⟩) 0 0)), (8, [], (.int .i64 i_11))]) (fun (s : (List GWornPin) × Int) (x : (Option Nat) × Nat × (List Value) × Nat) => match s, x with | ⟨xs_10, i_11⟩, ⟨o_410, cap_411, sp_412, n_413⟩ => [⟨some w0_b, 32, [(.slice w0_fPins_a w0.fPins.length w0_fPins_c), (.slice w0_fStrokes_a w0.fStrokes.length w0_fStrokes_c)]⟩, ⟨some b_1, 35, [(.int .i64 v1.fPin), (.int .i64 v1.fHammer)]⟩, ⟨o_410, 58, row encGWornPin xs_10 sp_412⟩, ⟨(some b_3), 2, row encI64 ([] : List Int) []⟩]) ht_431 ⟨(some b_2), 0, [], 0⟩ ⟨rfl, (fun _ => ⟨Nat.le_refl _, by simp⟩), (fun e => nomatch e)⟩ (by kernel_rfl) [0, 1, 2, 3] (by kernel_rfl) (by kernel_rfl) ?_
    rintro ⟨xs_10, i_11⟩ ⟨o_410, cap_411, sp_412, n_413⟩ y_417 ⟨rfl, hs_414, ho_415⟩ h
    rw [spec_l06Worn.l_12] at h
    refine jc_seq ?_
    refine jc_seq ?_
    refine jc_region ?_
    refine jo_f [(0, 0), (0, 0), (0, 0), (0, 0), (0, 0), (0, 0), (0, 0)] (by kernel_rfl) ?_
    refine jo_end (by kernel_rfl) ?_
    refine jx_then ?_
    refine jc_cond (decide (i_11 < (w0.fPins.length : Int))) (by kernel_rfl) (fun hc_419 => ?_) (fun hc_419 => ?_)
    · replace h := ifT hc_419 h
      refine jc_skip ?_
      refine jx_then ?_
      refine jc_seq ?_
      refine jc_block ?_
      refine jc_seq ?_
      refine jc_draw [⟨some w0_b, 32, [(.slice w0_fPins_a w0.fPins.length w0_fPins_c), (.slice w0_fStrokes_a w0.fStrokes.length w0_fStrokes_c)]⟩, ⟨some b_1, 35, [(.int .i64 v1.fPin), (.int .i64 v1.fHammer)]⟩, ⟨o_410, 58, row encGWornPin xs_10 sp_412⟩, ⟨(some b_3), 2, row encI64 ([] : List Int) []⟩] 11 (by kernel_rfl) (by kernel_rfl) ?_
      refine jd_f [⟨0, 0, 0⟩, ⟨1, 0, 0⟩, ⟨2, 0, 0⟩, ⟨3, 0, 0⟩, ⟨4, 0, 0⟩, ⟨8, 0, 0⟩, ⟨9, 1, 0⟩] 4 (by kernel_rfl) (by kernel_rfl) (fun w h => h.pick [0, 1, 2, 3] (by kernel_rfl) (by kernel_rfl)) (by kernel_rfl) (by kernel_rfl) ?_
      obtain ⟨x_14, hx_420, h⟩ := bd h
      refine jd_v 5 0 (by kernel_rfl) (fun w h => h.pick [0, 1, 2, 3] (by kernel_rfl) (by kernel_rfl)) (by kernel_rfl) (by kernel_rfl) _ (fun w hm => idx_run (a := w0_fPins_a) (len := w0.fPins.length) (s := 3) (j := i_11) (by kernel_rfl) (ix_some hx_420).1 (ltn hx_420 rfl) (w0_fPins_h.sp hx_420)) ?_
      refine jd_f [⟨6, 0, 0⟩] 2 (by kernel_rfl) (by kernel_rfl) (fun w h => h.pick [0, 1, 2, 3] (by kernel_rfl) (by kernel_rfl)) (by kernel_rfl) (by kernel_rfl) ?_
      refine jd_v 7 0 (by kernel_rfl) (fun w h => h.pick [0, 1, 2, 3] (by kernel_rfl) (by kernel_rfl)) (by kernel_rfl) (by kernel_rfl) _ (fun w hm => ld_run (b := aB w0_fPins_a) (off := (aO w0_fPins_a + i_11.toNat * 3 + 2)) (s := 1) (agg := false) (vs := (((encGWornPin x_14).drop 2).take 1)) (by kernel_rfl) (by kernel_rfl) (.inr rfl) (((hm.exRowW w0_fPins_h w0_fPins_ha).at hx_420).sub 2 1)) ?_
      refine jd_f [⟨10, 0, 0⟩] 0 (by kernel_rfl) (by kernel_rfl) (fun w h => h.pick [0, 1, 2, 3] (by kernel_rfl) (by kernel_rfl)) (by kernel_rfl) (by kernel_rfl) ?_
      refine jd_end (by kernel_rfl) ?_
      refine jx_then ?_
      refine jc_cond (decide (x_14.fTurns > v1.fPin)) (by kernel_rfl) (fun hc_421 => ?_) (fun hc_421 => ?_)
      · replace h := ifT hc_421 h
        refine jc_region ?_
        refine jo_f [(0, 0), (0, 0), (0, 0), (0, 0), (0, 0), (0, 0)] (by kernel_rfl) ?_
        obtain ⟨x_15, hx_422, h⟩ := bd h
        refine toO (by kernel_rfl) (p_idx 0 w0_fPins_a w0.fPins.length i_11 3 (by kernel_rfl) (by kernel_rfl) (ix_some hx_422).1 (ltn hx_422 rfl) (w0_fPins_h.sp hx_422) (jkO ?_))
        refine toO (by kernel_rfl) (p_ld 0 (aB w0_fPins_a) (aO w0_fPins_a + i_11.toNat * 3) true (encGWornPin x_15) (by kernel_rfl) (by kernel_rfl) (by kernel_rfl) (fun w hm => ((hm.exRowW w0_fPins_h w0_fPins_ha).at hx_422)) (jkO ?_))
        refine toO (by kernel_rfl) (p_a 0 [0] (by kernel_rfl) (fun b => by kernel_rfl) (fun b_423 => jkO ?_))
        obtain ⟨hg_424, h⟩ := gd h
        refine toO (by kernel_rfl) (p_apn 0 2 o_410 58 xs_10.length 1 cap_411 3 16 (some ⟨b_423, 0, none⟩) encGWornPin xs_10 [x_15] sp_412 (.agg #[(.int .i8 0), (.int .i8 0), (.int .i64 0)]) rfl rfl (by kernel_rfl) (by kernel_rfl) (by kernel_rfl) encGWornPin_len encGWornPin_cell hs_414 ho_415 (fun w hm => (hm.ownRow (hh := 4) (o := (some b_423)) (T := 58) (enc := encGWornPin) (xs := [x_15]) (sp := []) (by kernel_rfl) (fun e => nomatch e) encGWornPin_len)) hg_424 (by kernel_rfl) (by kernel_rfl) (fun o_425 cap_426 sp_427 hs_428 ho_429 => jkO ?_))
        refine jo_f [(0, 0)] (by kernel_rfl) ?_
        refine jo_end (by kernel_rfl) ?_
        refine jx_inn ?_
        refine jx_then ?_
        refine jc_region ?_
        refine jo_f [(0, 0), (0, 0), (0, 0)] (by kernel_rfl) ?_
        refine jo_end (by kernel_rfl) ?_
        exact jx_back ((xs_10 ++ [x_15]), (w64 (i_11 + 1))) ⟨o_425, cap_426, sp_427, (xs_10 ++ [x_15]).length⟩ (Option.some.inj h).symm ⟨rfl, hs_428, ho_429⟩ [0, 1, 2, 3] (by kernel_rfl) (by kernel_rfl) (by kernel_rfl)
      · replace h := ifF hc_421 h
        refine jc_skip ?_
        refine jx_inn ?_
        refine jx_then ?_
        refine jc_region ?_
        refine jo_f [(0, 0), (0, 0), (0, 0)] (by kernel_rfl) ?_
        refine jo_end (by kernel_rfl) ?_
        exact jx_back (xs_10, (w64 (i_11 + 1))) ⟨o_410, cap_411, sp_412, xs_10.length⟩ (Option.some.inj h).symm ⟨rfl, hs_414, ho_415⟩ [0, 1, 2, 3] (by kernel_rfl) (by kernel_rfl) (by kernel_rfl)
    · replace h := ifF hc_419 h
      refine jc_exit ?_
      refine jx_thenx ?_
      refine jx_leave xs_10 (Option.some.inj h).symm (fun e_430 => ?_)
      subst e_430
      refine jx_ine ?_
      exact jx_meet ⟨xs_10, o_410, cap_411, sp_412, xs_10.length⟩ ⟨hr_416, rfl, hs_414, ho_415⟩ (by kernel_rfl) [0, 1, 2, 3] (by kernel_rfl) (by kernel_rfl)
  · rintro ⟨xs_1, o_166, cap_167, sp_168, n_169⟩ ⟨h, rfl, hs_170, ho_171⟩
    replace h : spec_l06Worn.k_2 w0 v1 xs_1 = some r := h
    rw [spec_l06Worn.k_2] at h
    refine jx_then ?_
    refine jc_seq ?_
    refine jc_seq ?_
    refine jc_region ?_
    refine jo_f [(0, 0)] (by kernel_rfl) ?_
    refine jo_end (by kernel_rfl) ?_
    refine jx_then ?_
    refine jc_meet (fun (j : (List Int) × (Option Nat) × Nat × (List Value) × Nat) => match j with | ⟨xs_3, o_325, cap_326, sp_327, n_328⟩ => spec_l06Worn.k_4 xs_1 xs_3 = some r ∧ (xs_3.length = n_328) ∧ ((o_325 ≠ none → n_328 ≤ cap_326 ∧ sp_327.length = (cap_326 - n_328) * 1)) ∧ ((o_325 = none → xs_3 = [] ∧ cap_326 = 0))) (fun (j : (List Int) × (Option Nat) × Nat × (List Value) × Nat) => match j with | ⟨xs_3, o_325, cap_326, sp_327, n_328⟩ => [(4, [], (.slice none 0 0)), (5, [], (.slice none 0 0)), (6, [], (.slice (o_166.map fun b => ⟨b, 0, none⟩) xs_1.length cap_167)), (7, [], (.slice (o_325.map fun b => ⟨b, 0, none⟩) n_328 cap_326))]) (fun (j : (List Int) × (Option Nat) × Nat × (List Value) × Nat) => match j with | ⟨xs_3, o_325, cap_326, sp_327, n_328⟩ => [⟨some w0_b, 32, [(.slice w0_fPins_a w0.fPins.length w0_fPins_c), (.slice w0_fStrokes_a w0.fStrokes.length w0_fStrokes_c)]⟩, ⟨some b_1, 35, [(.int .i64 v1.fPin), (.int .i64 v1.fHammer)]⟩, ⟨o_166, 58, row encGWornPin xs_1 sp_168⟩, ⟨o_325, 2, row encI64 xs_3 sp_327⟩]) ?_ ?_
    · refine jc_block ?_
      obtain ⟨t_8, ht_379, hr_365⟩ := bd h
      refine jc_loop (fun (s : (List Int) × Int) (x : (Option Nat) × Nat × (List Value) × Nat) => match s, x with | ⟨xs_5, i_6⟩, ⟨o_359, cap_360, sp_361, n_362⟩ => (xs_5.length = n_362) ∧ ((o_359 ≠ none → n_362 ≤ cap_360 ∧ sp_361.length = (cap_360 - n_362) * 1)) ∧ ((o_359 = none → xs_5 = [] ∧ cap_360 = 0))) (fun (s : (List Int) × Int) (x : (Option Nat) × Nat × (List Value) × Nat) => match s, x with | ⟨xs_5, i_6⟩, ⟨o_359, cap_360, sp_361, n_362⟩ => [(0, [], (.pointer (some ⟨w0_b, 0, none⟩))), (3, [], (.pointer (some ⟨b_1, 0, none⟩))), (4, [], (.slice none 0 0)), (5, [], (.slice none 0 0)), (6, [], (.slice (o_166.map fun b => ⟨b, 0, none⟩) xs_1.length cap_167)), (7, [], (.slice (o_359.map fun b => ⟨b, 0, none⟩) n_362 cap_360)), (9, [], (.int .i64 i_6))]) (fun (s : (List Int) × Int) (x : (Option Nat) × Nat × (List Value) × Nat) => match s, x with | ⟨xs_5, i_6⟩, ⟨o_359, cap_360, sp_361, n_362⟩ => [⟨some w0_b, 32, [(.slice w0_fPins_a w0.fPins.length w0_fPins_c), (.slice w0_fStrokes_a w0.fStrokes.length w0_fStrokes_c)]⟩, ⟨some b_1, 35, [(.int .i64 v1.fPin), (.int .i64 v1.fHammer)]⟩, ⟨o_166, 58, row encGWornPin xs_1 sp_168⟩, ⟨o_359, 2, row encI64 xs_5 sp_361⟩]) ht_379 ⟨(some b_3), 0, [], 0⟩ ⟨rfl, (fun _ => ⟨Nat.le_refl _, by simp⟩), (fun e => nomatch e)⟩ (by kernel_rfl) [0, 1, 2, 3] (by kernel_rfl) (by kernel_rfl) ?_
      rintro ⟨xs_5, i_6⟩ ⟨o_359, cap_360, sp_361, n_362⟩ y_366 ⟨rfl, hs_363, ho_364⟩ h
      rw [spec_l06Worn.l_7] at h
      refine jc_seq ?_
      refine jc_seq ?_
      refine jc_region ?_
      refine jo_f [(0, 0), (0, 0), (0, 0), (0, 0), (0, 0), (0, 0), (0, 0)] (by kernel_rfl) ?_
      refine jo_end (by kernel_rfl) ?_
      refine jx_then ?_
      refine jc_cond (decide (i_6 < (w0.fStrokes.length : Int))) (by kernel_rfl) (fun hc_368 => ?_) (fun hc_368 => ?_)
      · replace h := ifT hc_368 h
        refine jc_skip ?_
        refine jx_then ?_
        refine jc_seq ?_
        refine jc_block ?_
        refine jc_seq ?_
        refine jc_draw [⟨some w0_b, 32, [(.slice w0_fPins_a w0.fPins.length w0_fPins_c), (.slice w0_fStrokes_a w0.fStrokes.length w0_fStrokes_c)]⟩, ⟨some b_1, 35, [(.int .i64 v1.fPin), (.int .i64 v1.fHammer)]⟩, ⟨o_166, 58, row encGWornPin xs_1 sp_168⟩, ⟨o_359, 2, row encI64 xs_5 sp_361⟩] 10 (by kernel_rfl) (by kernel_rfl) ?_
        refine jd_f [⟨0, 0, 0⟩, ⟨1, 0, 0⟩, ⟨2, 0, 0⟩, ⟨3, 0, 0⟩, ⟨4, 0, 0⟩, ⟨7, 0, 0⟩, ⟨8, 1, 0⟩] 3 (by kernel_rfl) (by kernel_rfl) (fun w h => h.pick [0, 1, 2, 3] (by kernel_rfl) (by kernel_rfl)) (by kernel_rfl) (by kernel_rfl) ?_
        obtain ⟨x_9, hx_369, h⟩ := bd h
        refine jd_v 5 0 (by kernel_rfl) (fun w h => h.pick [0, 1, 2, 3] (by kernel_rfl) (by kernel_rfl)) (by kernel_rfl) (by kernel_rfl) _ (fun w hm => idx_run (a := w0_fStrokes_a) (len := w0.fStrokes.length) (s := 1) (j := i_6) (by kernel_rfl) (ix_some hx_369).1 (ltn hx_369 rfl) (w0_fStrokes_h.sp hx_369)) ?_
        refine jd_v 6 0 (by kernel_rfl) (fun w h => h.pick [0, 1, 2, 3] (by kernel_rfl) (by kernel_rfl)) (by kernel_rfl) (by kernel_rfl) _ (fun w hm => ld_run (b := aB w0_fStrokes_a) (off := (aO w0_fStrokes_a + i_6.toNat * 1)) (s := 1) (agg := false) (vs := (encI64 x_9)) (by kernel_rfl) (by kernel_rfl) (.inr rfl) ((hm.exRowW w0_fStrokes_h w0_fStrokes_ha).at hx_369)) ?_
        refine jd_f [⟨9, 0, 0⟩] 0 (by kernel_rfl) (by kernel_rfl) (fun w h => h.pick [0, 1, 2, 3] (by kernel_rfl) (by kernel_rfl)) (by kernel_rfl) (by kernel_rfl) ?_
        refine jd_end (by kernel_rfl) ?_
        refine jx_then ?_
        refine jc_cond (decide (x_9 > v1.fHammer)) (by kernel_rfl) (fun hc_370 => ?_) (fun hc_370 => ?_)
        · replace h := ifT hc_370 h
          refine jc_region ?_
          refine jo_f [(0, 0), (0, 0)] (by kernel_rfl) ?_
          refine toO (by kernel_rfl) (p_a 0 [0] (by kernel_rfl) (fun b => by kernel_rfl) (fun b_371 => jkO ?_))
          obtain ⟨hg_372, h⟩ := gd h
          refine toO (by kernel_rfl) (p_apn 0 3 o_359 2 xs_5.length 1 cap_360 1 8 (some ⟨b_371, 0, none⟩) encI64 xs_5 [i_6] sp_361 (.int .i64 0) rfl rfl (by kernel_rfl) (by kernel_rfl) (by kernel_rfl) encI64_len encI64_cell hs_363 ho_364 (fun w hm => (hm.ownRow (hh := 4) (o := (some b_371)) (T := 2) (enc := encI64) (xs := [i_6]) (sp := []) (by kernel_rfl) (fun e => nomatch e) encI64_len)) hg_372 (by kernel_rfl) (by kernel_rfl) (fun o_373 cap_374 sp_375 hs_376 ho_377 => jkO ?_))
          refine jo_f [(0, 0)] (by kernel_rfl) ?_
          refine jo_end (by kernel_rfl) ?_
          refine jx_inn ?_
          refine jx_then ?_
          refine jc_region ?_
          refine jo_f [(0, 0), (0, 0), (0, 0)] (by kernel_rfl) ?_
          refine jo_end (by kernel_rfl) ?_
          exact jx_back ((xs_5 ++ [i_6]), (w64 (i_6 + 1))) ⟨o_373, cap_374, sp_375, (xs_5 ++ [i_6]).length⟩ (Option.some.inj h).symm ⟨rfl, hs_376, ho_377⟩ [0, 1, 2, 3] (by kernel_rfl) (by kernel_rfl) (by kernel_rfl)
        · replace h := ifF hc_370 h
          refine jc_skip ?_
          refine jx_inn ?_
          refine jx_then ?_
          refine jc_region ?_
          refine jo_f [(0, 0), (0, 0), (0, 0)] (by kernel_rfl) ?_
          refine jo_end (by kernel_rfl) ?_
          exact jx_back (xs_5, (w64 (i_6 + 1))) ⟨o_359, cap_360, sp_361, xs_5.length⟩ (Option.some.inj h).symm ⟨rfl, hs_363, ho_364⟩ [0, 1, 2, 3] (by kernel_rfl) (by kernel_rfl) (by kernel_rfl)
      · replace h := ifF hc_368 h
        refine jc_exit ?_
        refine jx_thenx ?_
        refine jx_leave xs_5 (Option.some.inj h).symm (fun e_378 => ?_)
        subst e_378
        refine jx_ine ?_
        exact jx_meet ⟨xs_5, o_359, cap_360, sp_361, xs_5.length⟩ ⟨hr_365, rfl, hs_363, ho_364⟩ (by kernel_rfl) [0, 1, 2, 3] (by kernel_rfl) (by kernel_rfl)
    · rintro ⟨xs_3, o_325, cap_326, sp_327, n_328⟩ ⟨h, rfl, hs_329, ho_330⟩
      replace h : spec_l06Worn.k_4 xs_1 xs_3 = some r := h
      rw [spec_l06Worn.k_4] at h
      refine jx_then ?_
      refine jc_seq ?_
      refine jc_region ?_
      refine jo_f [(0, 0), (0, 0), (0, 0), (0, 0)] (by kernel_rfl) ?_
      refine jo_end (by kernel_rfl) ?_
      refine jx_then ?_
      refine jc_ret ?_
      obtain rfl := Option.some.inj h
      exact jx_ret [] (.tuple #[(.slice (o_166.map fun b => ⟨b, 0, none⟩) xs_1.length cap_167), (.slice (o_325.map fun b => ⟨b, 0, none⟩) xs_3.length cap_326)]) [] rfl (by kernel_rfl) (by kernel_rfl) (fun w hm => ⟨o_166, cap_167, sp_168, xs_1.length, rfl, hs_170, ho_171, o_325, cap_326, sp_327, xs_3.length, rfl, hs_329, ho_330, rfl, hm.pick [0, 2, 3] (by kernel_rfl) (by kernel_rfl)⟩)

/-! ### spec.l06Whole -/
noncomputable def spec_l06Whole (w0 : GWear) (v1 : GLives) : Option (Bool) := (spec_l06Worn w0 v1).bind fun t_1 => some (((t_1.1.length : Int) == 0) && ((t_1.2.length : Int) == 0))
set_option maxRecDepth 100000 in
theorem spec_l06Whole.calls (w0 : GWear) (v1 : GLives) (w : World) (r : Bool) (w0_fPins_a : Option Addr) (w0_fPins_an : Nat) (w0_fPins_c : Nat) (w0_fPins_h : Rw w w0_fPins_a 3 encGWornPin w0.fPins) (w0_fPins_hn : w0.fPins.length = w0_fPins_an) (w0_fStrokes_a : Option Addr) (w0_fStrokes_an : Nat) (w0_fStrokes_c : Nat) (w0_fStrokes_h : Rw w w0_fStrokes_a 1 encI64 w0.fStrokes) (w0_fStrokes_hn : w0.fStrokes.length = w0_fStrokes_an) (w0_b : Nat) (hm0 : Mem w (bs [some w0_b]) [⟨some w0_b, 32, [(.slice w0_fPins_a w0_fPins_an w0_fPins_c), (.slice w0_fStrokes_a w0_fStrokes_an w0_fStrokes_c)]⟩] w) (w0_fPins_ha : w0.fPins ≠ [] → aB w0_fPins_a ∉ bs [some w0_b]) (w0_fStrokes_ha : w0.fStrokes ≠ [] → aB w0_fStrokes_a ∉ bs [some w0_b]) (h : spec_l06Whole w0 v1 = some r) :
    Calls Try.prog 44 #[(.pointer (some ⟨w0_b, 0, none⟩)), (.agg #[(.int .i64 v1.fPin), (.int .i64 v1.fHammer)])] w fun e w' => ∃ v, e = .returned v ∧ (v = (.bool r) ∧ Mem w (bs [some w0_b]) [⟨some w0_b, 32, [(.slice w0_fPins_a w0_fPins_an w0_fPins_c), (.slice w0_fStrokes_a w0_fStrokes_an w0_fStrokes_c)]⟩] w') := by
  subst w0_fPins_hn w0_fStrokes_hn
  rw [spec_l06Whole] at h
  refine enter (args := [(.pointer (some ⟨w0_b, 0, none⟩)), (.agg #[(.int .i64 v1.fPin), (.int .i64 v1.fHammer)])]) Try.func44 rfl Try.ntmps44 (by kernel_rfl) (L := [⟨some w0_b, 32, [(.slice w0_fPins_a w0.fPins.length w0_fPins_c), (.slice w0_fStrokes_a w0.fStrokes.length w0_fStrokes_c)]⟩]) (W := bs [some w0_b]) hm0 ?_
  refine jc_seq ?_
  refine jc_region ?_
  refine toO (by kernel_rfl) (p_a 0 [0] (by kernel_rfl) (fun b => by kernel_rfl) (fun b_1 => jkO ?_))
  refine jo_f [(0, 0)] (by kernel_rfl) ?_
  refine jo_end (by kernel_rfl) ?_
  refine jx_then ?_
  refine jc_seq ?_
  refine jc_region ?_
  refine jo_f [(0, 0), (1, 0)] (by kernel_rfl) ?_
  obtain ⟨t_1, ht_2, h⟩ := bd h
  refine toO (by kernel_rfl) (p_call 0 82 #[(.pointer (some ⟨w0_b, 0, none⟩)), (.agg #[(.int .i64 v1.fPin), (.int .i64 v1.fHammer)])] (by kernel_rfl) (by kernel_rfl) (fun w hm => spec_l06Worn.calls w0 v1 w _ w0_fPins_a w0.fPins.length w0_fPins_c (hm.exRowW w0_fPins_h w0_fPins_ha) rfl w0_fStrokes_a w0.fStrokes.length w0_fStrokes_c (hm.exRowW w0_fStrokes_h w0_fStrokes_ha) rfl w0_b (hm.pass (N := [⟨some w0_b, 32, [(.slice w0_fPins_a w0.fPins.length w0_fPins_c), (.slice w0_fStrokes_a w0.fStrokes.length w0_fStrokes_c)]⟩]) [0] (by kernel_rfl) (by kernel_rfl)) (hm.exApart (N := [⟨some w0_b, 32, [(.slice w0_fPins_a w0.fPins.length w0_fPins_c), (.slice w0_fStrokes_a w0.fStrokes.length w0_fStrokes_c)]⟩]) w0_fPins_h w0_fPins_ha [0] (by kernel_rfl)) (hm.exApart (N := [⟨some w0_b, 32, [(.slice w0_fPins_a w0.fPins.length w0_fPins_c), (.slice w0_fStrokes_a w0.fStrokes.length w0_fStrokes_c)]⟩]) w0_fStrokes_h w0_fStrokes_ha [0] (by kernel_rfl)) ht_2) ?_)
  rintro w v w' hm ⟨o_3, cap_4, sp_5, _, rfl, hs_6, ho_7, o_8, cap_9, sp_10, _, rfl, hs_11, ho_12, rfl, hm'⟩
  refine ⟨_, hm.appW (ps := [(0, ⟨some w0_b, 32, [(.slice w0_fPins_a w0.fPins.length w0_fPins_c), (.slice w0_fStrokes_a w0.fStrokes.length w0_fStrokes_c)]⟩)]) (N := [⟨o_3, 58, row encGWornPin t_1.1 sp_5⟩, ⟨o_8, 2, row encI64 t_1.2 sp_10⟩]) hm' (by kernel_rfl) (by kernel_rfl), jkO ?_⟩
  clear hm hm'
  refine jo_f [(0, 0), (0, 0), (0, 0), (0, 0), (0, 0)] (by kernel_rfl) ?_
  refine jo_end (by kernel_rfl) ?_
  refine jx_then ?_
  refine jc_seq ?_
  refine jc_region ?_
  refine jo_f [(0, 0), (0, 0), (0, 0), (0, 0), (0, 1), (0, 1), (0, 1), (0, 0), (0, 0)] (by kernel_rfl) ?_
  refine jo_end (by kernel_rfl) ?_
  refine jx_then ?_
  refine jc_ret ?_
  obtain rfl := Option.some.inj h
  exact jx_ret [] (.bool (((t_1.1.length : Int) == 0) && ((t_1.2.length : Int) == 0))) [] rfl (by kernel_rfl) (by kernel_rfl) (fun w hm => ⟨rfl, hm.pick [0] (by kernel_rfl) (by kernel_rfl)⟩)

/-! ### spec.l06Left -/
noncomputable def spec_l06Left (used0 : Int) (each1 : Int) (life2 : Int) : Option (Int) := (if (each1 == 0) = true then some 1000000 else (if each1 ≠ 0 then (spec_l00Min 1000000 (w64 (Int.tdiv (w64 (life2 - used0)) each1))).bind fun t_1 => some t_1 else none))
set_option maxRecDepth 100000 in
theorem spec_l06Left.calls (used0 : Int) (each1 : Int) (life2 : Int) (w : World) (r : Int) (h : spec_l06Left used0 each1 life2 = some r) :
    Calls Try.prog 46 #[(.int .i64 used0), (.int .i64 each1), (.int .i64 life2)] w fun e w' => ∃ v, e = .returned v ∧ (v = (.int .i64 r) ∧ Mem w [] [] w') := by
  rw [spec_l06Left] at h
  refine enter (args := [(.int .i64 used0), (.int .i64 each1), (.int .i64 life2)]) Try.func46 rfl Try.ntmps46 (by kernel_rfl) (L := []) (W := []) (Mem.start w) ?_
  refine jc_seq ?_
  refine jc_region ?_
  refine jo_f [(0, 0)] (by kernel_rfl) ?_
  refine jo_end (by kernel_rfl) ?_
  refine jx_then ?_
  refine jc_seq ?_
  refine jc_seq ?_
  refine jc_region ?_
  refine jo_f [(0, 0), (0, 0)] (by kernel_rfl) ?_
  refine jo_end (by kernel_rfl) ?_
  refine jx_then ?_
  refine jc_cond (each1 == 0) (by kernel_rfl) (fun hc_2 => ?_) (fun hc_2 => ?_)
  · replace h := ifT hc_2 h
    refine jc_seq ?_
    refine jc_region ?_
    refine jo_f [(0, 0)] (by kernel_rfl) ?_
    refine jo_end (by kernel_rfl) ?_
    refine jx_then ?_
    refine jc_ret ?_
    refine jx_thenr ?_
    obtain rfl := Option.some.inj h
    exact jx_ret [] (.int .i64 1000000) [] rfl (by kernel_rfl) (by kernel_rfl) (fun w hm => ⟨rfl, hm.pick [] (by kernel_rfl) (by kernel_rfl)⟩)
  · replace h := ifF hc_2 h
    refine jc_skip ?_
    refine jx_then ?_
    refine jc_seq ?_
    refine jc_region ?_
    refine jo_f [(0, 0), (0, 0), (0, 0), (0, 0)] (by kernel_rfl) ?_
    obtain ⟨hg_3, h⟩ := gd h
    refine toO (by kernel_rfl) (p_quo 0 .i64 (w64 (life2 - used0)) each1 (by kernel_rfl) (by kernel_rfl) hg_3 (jkO ?_))
    obtain ⟨t_1, ht_4, h⟩ := bd h
    refine toO (by kernel_rfl) (p_call 0 83 #[(.int .i64 1000000), (.int .i64 (w64 (Int.tdiv (w64 (life2 - used0)) each1)))] (by kernel_rfl) (by kernel_rfl) (fun w hm => spec_l00Min.calls 1000000 (w64 (Int.tdiv (w64 (life2 - used0)) each1)) w _ ht_4) ?_)
    rintro w v w' hm ⟨rfl, hm'⟩
    refine ⟨_, hm.app hm', jkO ?_⟩
    clear hm hm'
    refine jo_f [(0, 0)] (by kernel_rfl) ?_
    refine jo_end (by kernel_rfl) ?_
    refine jx_then ?_
    refine jc_ret ?_
    obtain rfl := Option.some.inj h
    exact jx_ret [] (.int .i64 t_1) [] rfl (by kernel_rfl) (by kernel_rfl) (fun w hm => ⟨rfl, hm.pick [] (by kernel_rfl) (by kernel_rfl)⟩)

/-! ### spec.l06Least -/
noncomputable def spec_l06Least.k_5 (i_4 : Int) : Option (Int) := some i_4
noncomputable def spec_l06Least.l_8 (w0 : GWear) (v1 : GLives) (t_1 : (List Int)) : (Int × Int) → Option ((Int × Int) ⊕ (Int))
  | (i_6, i_7) => (if (decide (i_7 < (t_1.length : Int))) = true then (ix w0.fStrokes i_7).bind fun x_10 => (ix t_1 i_7).bind fun x_11 => (spec_l06Left x_10 x_11 v1.fHammer).bind fun t_12 => (spec_l00Min i_6 t_12).bind fun t_13 => some (.inl (t_13, (w64 (i_7 + 1)))) else some (.inr i_6))
noncomputable def spec_l06Least.k_3 (w0 : GWear) (v1 : GLives) (t_1 : (List Int)) (i_2 : Int) : Option (Int) := (loop (spec_l06Least.l_8 w0 v1 t_1) (i_2, 0)).bind fun t_9 => spec_l06Least.k_5 t_9
noncomputable def spec_l06Least.l_16 (w0 : GWear) (v1 : GLives) : (Int × Int) → Option ((Int × Int) ⊕ (Int))
  | (i_14, i_15) => (if (decide (i_15 < (w0.fPins.length : Int))) = true then (ix w0.fPins i_15).bind fun x_18 => (spec_l06Left x_18.fTurns 1 v1.fPin).bind fun t_19 => (spec_l00Min i_14 t_19).bind fun t_20 => some (.inl (t_20, (w64 (i_15 + 1)))) else some (.inr i_14))
noncomputable def spec_l06Least (w0 : GWear) (v1 : GLives) : Option (Int) := (spec_l06Each w0).bind fun t_1 => (loop (spec_l06Least.l_16 w0 v1) (1000000, 0)).bind fun t_17 => spec_l06Least.k_3 w0 v1 t_1 t_17
set_option maxRecDepth 100000 in
theorem spec_l06Least.calls (w0 : GWear) (v1 : GLives) (w : World) (r : Int) (w0_fPins_a : Option Addr) (w0_fPins_an : Nat) (w0_fPins_c : Nat) (w0_fPins_h : Rw w w0_fPins_a 3 encGWornPin w0.fPins) (w0_fPins_hn : w0.fPins.length = w0_fPins_an) (w0_fStrokes_a : Option Addr) (w0_fStrokes_an : Nat) (w0_fStrokes_c : Nat) (w0_fStrokes_h : Rw w w0_fStrokes_a 1 encI64 w0.fStrokes) (w0_fStrokes_hn : w0.fStrokes.length = w0_fStrokes_an) (w0_b : Nat) (hm0 : Mem w (bs [some w0_b]) [⟨some w0_b, 32, [(.slice w0_fPins_a w0_fPins_an w0_fPins_c), (.slice w0_fStrokes_a w0_fStrokes_an w0_fStrokes_c)]⟩] w) (w0_fPins_ha : w0.fPins ≠ [] → aB w0_fPins_a ∉ bs [some w0_b]) (w0_fStrokes_ha : w0.fStrokes ≠ [] → aB w0_fStrokes_a ∉ bs [some w0_b]) (h : spec_l06Least w0 v1 = some r) :
    Calls Try.prog 45 #[(.pointer (some ⟨w0_b, 0, none⟩)), (.agg #[(.int .i64 v1.fPin), (.int .i64 v1.fHammer)])] w fun e w' => ∃ v, e = .returned v ∧ (v = (.int .i64 r) ∧ Mem w (bs [some w0_b]) [⟨some w0_b, 32, [(.slice w0_fPins_a w0_fPins_an w0_fPins_c), (.slice w0_fStrokes_a w0_fStrokes_an w0_fStrokes_c)]⟩] w') := by
  subst w0_fPins_hn w0_fStrokes_hn
  rw [spec_l06Least] at h
  refine enter (args := [(.pointer (some ⟨w0_b, 0, none⟩)), (.agg #[(.int .i64 v1.fPin), (.int .i64 v1.fHammer)])]) Try.func45 rfl Try.ntmps45 (by kernel_rfl) (L := [⟨some w0_b, 32, [(.slice w0_fPins_a w0.fPins.length w0_fPins_c), (.slice w0_fStrokes_a w0.fStrokes.length w0_fStrokes_c)]⟩]) (W := bs [some w0_b]) hm0 ?_
  refine jc_seq ?_
  refine jc_region ?_
  refine toO (by kernel_rfl) (p_a 0 [0] (by kernel_rfl) (fun b => by kernel_rfl) (fun b_1 => jkO ?_))
  refine jo_f [(0, 0)] (by kernel_rfl) ?_
  refine jo_end (by kernel_rfl) ?_
  refine jx_then ?_
  refine jc_seq ?_
  refine jc_region ?_
  refine jo_f [(0, 0)] (by kernel_rfl) ?_
  refine jo_end (by kernel_rfl) ?_
  refine jx_then ?_
  refine jc_seq ?_
  refine jc_region ?_
  refine jo_f [(0, 0)] (by kernel_rfl) ?_
  obtain ⟨t_1, ht_2, h⟩ := bd h
  refine toO (by kernel_rfl) (p_call 0 47 #[(.pointer (some ⟨w0_b, 0, none⟩))] (by kernel_rfl) (by kernel_rfl) (fun w hm => spec_l06Each.calls w0 w _ w0_fPins_a w0.fPins.length w0_fPins_c (hm.exRowW w0_fPins_h w0_fPins_ha) rfl w0_fStrokes_a w0.fStrokes.length w0_fStrokes_c (hm.exRowW w0_fStrokes_h w0_fStrokes_ha) rfl w0_b (hm.pass (N := [⟨some w0_b, 32, [(.slice w0_fPins_a w0.fPins.length w0_fPins_c), (.slice w0_fStrokes_a w0.fStrokes.length w0_fStrokes_c)]⟩]) [0] (by kernel_rfl) (by kernel_rfl)) (hm.exApart (N := [⟨some w0_b, 32, [(.slice w0_fPins_a w0.fPins.length w0_fPins_c), (.slice w0_fStrokes_a w0.fStrokes.length w0_fStrokes_c)]⟩]) w0_fPins_h w0_fPins_ha [0] (by kernel_rfl)) (hm.exApart (N := [⟨some w0_b, 32, [(.slice w0_fPins_a w0.fPins.length w0_fPins_c), (.slice w0_fStrokes_a w0.fStrokes.length w0_fStrokes_c)]⟩]) w0_fStrokes_h w0_fStrokes_ha [0] (by kernel_rfl)) ht_2) ?_)
  rintro w v w' hm ⟨o_3, cap_4, sp_5, _, rfl, hs_6, ho_7, rfl, hm'⟩
  refine ⟨_, hm.appW (ps := [(0, ⟨some w0_b, 32, [(.slice w0_fPins_a w0.fPins.length w0_fPins_c), (.slice w0_fStrokes_a w0.fStrokes.length w0_fStrokes_c)]⟩)]) (N := [⟨o_3, 2, row encI64 t_1 sp_5⟩]) hm' (by kernel_rfl) (by kernel_rfl), jkO ?_⟩
  clear hm hm'
  refine jo_f [(0, 0)] (by kernel_rfl) ?_
  refine jo_end (by kernel_rfl) ?_
  refine jx_then ?_
  refine jc_seq ?_
  refine jc_seq ?_
  refine jc_region ?_
  refine jo_f [(0, 0)] (by kernel_rfl) ?_
  refine jo_end (by kernel_rfl) ?_
  refine jx_then ?_
  refine jc_meet (fun (j : Int) => match j with | i_2 => spec_l06Least.k_3 w0 v1 t_1 i_2 = some r) (fun (j : Int) => match j with | i_2 => [(0, [], (.pointer (some ⟨w0_b, 0, none⟩))), (3, [], (.pointer (some ⟨b_1, 0, none⟩))), (4, [], (.int .i64 0)), (5, [], (.int .i64 i_2)), (6, [], (.slice (o_3.map fun b => ⟨b, 0, none⟩) t_1.length cap_4))]) (fun (j : Int) => match j with | i_2 => [⟨some w0_b, 32, [(.slice w0_fPins_a w0.fPins.length w0_fPins_c), (.slice w0_fStrokes_a w0.fStrokes.length w0_fStrokes_c)]⟩, ⟨some b_1, 35, [(.int .i64 v1.fPin), (.int .i64 v1.fHammer)]⟩, ⟨o_3, 2, row encI64 t_1 sp_5⟩]) ?_ ?_
  · refine jc_block ?_
    obtain ⟨t_17, ht_171, hr_163⟩ := bd h
    refine jc_loop (fun (s : Int × Int) (x : Unit) => match s, x with | ⟨i_14, i_15⟩, _ => True) (fun (s : Int × Int) (x : Unit) => match s, x with | ⟨i_14, i_15⟩, _ => [(0, [], (.pointer (some ⟨w0_b, 0, none⟩))), (3, [], (.pointer (some ⟨b_1, 0, none⟩))), (4, [], (.int .i64 0)), (5, [], (.int .i64 i_14)), (6, [], (.slice (o_3.map fun b => ⟨b, 0, none⟩) t_1.length cap_4)), (7, [], (.int .i64 i_15))]) (fun (s : Int × Int) (x : Unit) => match s, x with | ⟨i_14, i_15⟩, _ => [⟨some w0_b, 32, [(.slice w0_fPins_a w0.fPins.length w0_fPins_c), (.slice w0_fStrokes_a w0.fStrokes.length w0_fStrokes_c)]⟩, ⟨some b_1, 35, [(.int .i64 v1.fPin), (.int .i64 v1.fHammer)]⟩, ⟨o_3, 2, row encI64 t_1 sp_5⟩]) ht_171 () trivial (by kernel_rfl) [0, 1, 2] (by kernel_rfl) (by kernel_rfl) ?_
    rintro ⟨i_14, i_15⟩ _ y_164 _ h
    rw [spec_l06Least.l_16] at h
    refine jc_seq ?_
    refine jc_seq ?_
    refine jc_region ?_
    refine jo_f [(0, 0), (0, 0), (0, 0), (0, 0), (0, 0), (0, 0), (0, 0)] (by kernel_rfl) ?_
    refine jo_end (by kernel_rfl) ?_
    refine jx_then ?_
    refine jc_cond (decide (i_15 < (w0.fPins.length : Int))) (by kernel_rfl) (fun hc_166 => ?_) (fun hc_166 => ?_)
    · replace h := ifT hc_166 h
      refine jc_skip ?_
      refine jx_then ?_
      refine jc_seq ?_
      refine jc_block ?_
      refine jc_draw [⟨some w0_b, 32, [(.slice w0_fPins_a w0.fPins.length w0_fPins_c), (.slice w0_fStrokes_a w0.fStrokes.length w0_fStrokes_c)]⟩, ⟨some b_1, 35, [(.int .i64 v1.fPin), (.int .i64 v1.fHammer)]⟩, ⟨o_3, 2, row encI64 t_1 sp_5⟩] 14 (by kernel_rfl) (by kernel_rfl) ?_
      refine jd_f [⟨0, 0, 0⟩, ⟨1, 0, 0⟩, ⟨2, 0, 0⟩, ⟨3, 0, 0⟩, ⟨4, 0, 0⟩, ⟨5, 0, 0⟩, ⟨9, 0, 0⟩, ⟨10, 1, 0⟩] 6 (by kernel_rfl) (by kernel_rfl) (fun w h => h.pick [0, 1, 2] (by kernel_rfl) (by kernel_rfl)) (by kernel_rfl) (by kernel_rfl) ?_
      obtain ⟨x_18, hx_167, h⟩ := bd h
      refine jd_v 6 0 (by kernel_rfl) (fun w h => h.pick [0, 1, 2] (by kernel_rfl) (by kernel_rfl)) (by kernel_rfl) (by kernel_rfl) _ (fun w hm => idx_run (a := w0_fPins_a) (len := w0.fPins.length) (s := 3) (j := i_15) (by kernel_rfl) (ix_some hx_167).1 (ltn hx_167 rfl) (w0_fPins_h.sp hx_167)) ?_
      refine jd_f [⟨7, 0, 0⟩] 4 (by kernel_rfl) (by kernel_rfl) (fun w h => h.pick [0, 1, 2] (by kernel_rfl) (by kernel_rfl)) (by kernel_rfl) (by kernel_rfl) ?_
      refine jd_v 8 0 (by kernel_rfl) (fun w h => h.pick [0, 1, 2] (by kernel_rfl) (by kernel_rfl)) (by kernel_rfl) (by kernel_rfl) _ (fun w hm => ld_run (b := aB w0_fPins_a) (off := (aO w0_fPins_a + i_15.toNat * 3 + 2)) (s := 1) (agg := false) (vs := (((encGWornPin x_18).drop 2).take 1)) (by kernel_rfl) (by kernel_rfl) (.inr rfl) (((hm.exRowW w0_fPins_h w0_fPins_ha).at hx_167).sub 2 1)) ?_
      obtain ⟨t_19, ht_168, h⟩ := bd h
      refine toD 11 (by kernel_rfl) (p_call 0 46 #[(.int .i64 x_18.fTurns), (.int .i64 1), (.int .i64 v1.fPin)] (by kernel_rfl) (by kernel_rfl) (fun w hm => spec_l06Left.calls x_18.fTurns 1 v1.fPin w _ ht_168) ?_)
      rintro w v w' hm ⟨rfl, hm'⟩
      refine ⟨_, hm.app hm', jkD (fun w h => h.pick [0, 1, 2] (by kernel_rfl) (by kernel_rfl)) ?_⟩
      clear hm hm'
      obtain ⟨t_20, ht_169, h⟩ := bd h
      refine toD 12 (by kernel_rfl) (p_call 0 83 #[(.int .i64 i_14), (.int .i64 t_19)] (by kernel_rfl) (by kernel_rfl) (fun w hm => spec_l00Min.calls i_14 t_19 w _ ht_169) ?_)
      rintro w v w' hm ⟨rfl, hm'⟩
      refine ⟨_, hm.app hm', jkD (fun w h => h.pick [0, 1, 2] (by kernel_rfl) (by kernel_rfl)) ?_⟩
      clear hm hm'
      refine jd_f [⟨13, 0, 0⟩] 0 (by kernel_rfl) (by kernel_rfl) (fun w h => h.pick [0, 1, 2] (by kernel_rfl) (by kernel_rfl)) (by kernel_rfl) (by kernel_rfl) ?_
      refine jd_end (by kernel_rfl) ?_
      refine jx_inn ?_
      refine jx_then ?_
      refine jc_region ?_
      refine jo_f [(0, 0), (0, 0), (0, 0)] (by kernel_rfl) ?_
      refine jo_end (by kernel_rfl) ?_
      exact jx_back (t_20, (w64 (i_15 + 1))) () (Option.some.inj h).symm trivial [0, 1, 2] (by kernel_rfl) (by kernel_rfl) (by kernel_rfl)
    · replace h := ifF hc_166 h
      refine jc_exit ?_
      refine jx_thenx ?_
      refine jx_leave i_14 (Option.some.inj h).symm (fun e_170 => ?_)
      subst e_170
      refine jx_ine ?_
      exact jx_meet i_14 hr_163 (by kernel_rfl) [0, 1, 2] (by kernel_rfl) (by kernel_rfl)
  · rintro i_2 h
    replace h : spec_l06Least.k_3 w0 v1 t_1 i_2 = some r := h
    rw [spec_l06Least.k_3] at h
    refine jx_then ?_
    refine jc_seq ?_
    refine jc_seq ?_
    refine jc_region ?_
    refine jo_f [(0, 0)] (by kernel_rfl) ?_
    refine jo_end (by kernel_rfl) ?_
    refine jx_then ?_
    refine jc_meet (fun (j : Int) => match j with | i_4 => spec_l06Least.k_5 i_4 = some r) (fun (j : Int) => match j with | i_4 => [(4, [], (.int .i64 0)), (5, [], (.int .i64 i_4))]) (fun (j : Int) => match j with | i_4 => [⟨some w0_b, 32, [(.slice w0_fPins_a w0.fPins.length w0_fPins_c), (.slice w0_fStrokes_a w0.fStrokes.length w0_fStrokes_c)]⟩, ⟨some b_1, 35, [(.int .i64 v1.fPin), (.int .i64 v1.fHammer)]⟩, ⟨o_3, 2, row encI64 t_1 sp_5⟩]) ?_ ?_
    · refine jc_block ?_
      obtain ⟨t_9, ht_152, hr_143⟩ := bd h
      refine jc_loop (fun (s : Int × Int) (x : Unit) => match s, x with | ⟨i_6, i_7⟩, _ => True) (fun (s : Int × Int) (x : Unit) => match s, x with | ⟨i_6, i_7⟩, _ => [(0, [], (.pointer (some ⟨w0_b, 0, none⟩))), (3, [], (.pointer (some ⟨b_1, 0, none⟩))), (4, [], (.int .i64 0)), (5, [], (.int .i64 i_6)), (6, [], (.slice (o_3.map fun b => ⟨b, 0, none⟩) t_1.length cap_4)), (8, [], (.int .i64 i_7))]) (fun (s : Int × Int) (x : Unit) => match s, x with | ⟨i_6, i_7⟩, _ => [⟨some w0_b, 32, [(.slice w0_fPins_a w0.fPins.length w0_fPins_c), (.slice w0_fStrokes_a w0.fStrokes.length w0_fStrokes_c)]⟩, ⟨some b_1, 35, [(.int .i64 v1.fPin), (.int .i64 v1.fHammer)]⟩, ⟨o_3, 2, row encI64 t_1 sp_5⟩]) ht_152 () trivial (by kernel_rfl) [0, 1, 2] (by kernel_rfl) (by kernel_rfl) ?_
      rintro ⟨i_6, i_7⟩ _ y_144 _ h
      rw [spec_l06Least.l_8] at h
      refine jc_seq ?_
      refine jc_seq ?_
      refine jc_region ?_
      refine jo_f [(0, 0), (0, 0), (0, 0), (0, 0)] (by kernel_rfl) ?_
      refine jo_end (by kernel_rfl) ?_
      refine jx_then ?_
      refine jc_cond (decide (i_7 < (t_1.length : Int))) (by kernel_rfl) (fun hc_146 => ?_) (fun hc_146 => ?_)
      · replace h := ifT hc_146 h
        refine jc_skip ?_
        refine jx_then ?_
        refine jc_seq ?_
        refine jc_block ?_
        refine jc_draw [⟨some w0_b, 32, [(.slice w0_fPins_a w0.fPins.length w0_fPins_c), (.slice w0_fStrokes_a w0.fStrokes.length w0_fStrokes_c)]⟩, ⟨some b_1, 35, [(.int .i64 v1.fPin), (.int .i64 v1.fHammer)]⟩, ⟨o_3, 2, row encI64 t_1 sp_5⟩] 17 (by kernel_rfl) (by kernel_rfl) ?_
        refine jd_f [⟨0, 0, 0⟩, ⟨1, 0, 0⟩, ⟨2, 0, 0⟩, ⟨3, 0, 0⟩, ⟨4, 0, 0⟩, ⟨5, 0, 0⟩, ⟨8, 0, 0⟩, ⟨9, 0, 0⟩, ⟨12, 0, 0⟩, ⟨13, 1, 0⟩] 7 (by kernel_rfl) (by kernel_rfl) (fun w h => h.pick [0, 1, 2] (by kernel_rfl) (by kernel_rfl)) (by kernel_rfl) (by kernel_rfl) ?_
        obtain ⟨x_10, hx_147, h⟩ := bd h
        refine jd_v 6 0 (by kernel_rfl) (fun w h => h.pick [0, 1, 2] (by kernel_rfl) (by kernel_rfl)) (by kernel_rfl) (by kernel_rfl) _ (fun w hm => idx_run (a := w0_fStrokes_a) (len := w0.fStrokes.length) (s := 1) (j := i_7) (by kernel_rfl) (ix_some hx_147).1 (ltn hx_147 rfl) (w0_fStrokes_h.sp hx_147)) ?_
        refine jd_v 7 0 (by kernel_rfl) (fun w h => h.pick [0, 1, 2] (by kernel_rfl) (by kernel_rfl)) (by kernel_rfl) (by kernel_rfl) _ (fun w hm => ld_run (b := aB w0_fStrokes_a) (off := (aO w0_fStrokes_a + i_7.toNat * 1)) (s := 1) (agg := false) (vs := (encI64 x_10)) (by kernel_rfl) (by kernel_rfl) (.inr rfl) ((hm.exRowW w0_fStrokes_h w0_fStrokes_ha).at hx_147)) ?_
        obtain ⟨x_11, hx_148, h⟩ := bd h
        refine jd_v 10 0 (by kernel_rfl) (fun w h => h.pick [0, 1, 2] (by kernel_rfl) (by kernel_rfl)) (by kernel_rfl) (by kernel_rfl) _ (fun w hm => idx_run (a := (o_3.map fun b => ⟨b, 0, none⟩)) (len := t_1.length) (s := 1) (j := i_7) (by kernel_rfl) (ix_some hx_148).1 (ltn hx_148 rfl) (spo ho_7 hx_148)) ?_
        refine jd_v 11 0 (by kernel_rfl) (fun w h => h.pick [0, 1, 2] (by kernel_rfl) (by kernel_rfl)) (by kernel_rfl) (by kernel_rfl) _ (fun w hm => ld_run (b := aB (o_3.map fun b => ⟨b, 0, none⟩)) (off := (aO (o_3.map fun b => ⟨b, 0, none⟩) + i_7.toNat * 1)) (s := 1) (agg := false) (vs := (encI64 x_11)) (by kernel_rfl) (by kernel_rfl) (.inr rfl) ((hm.ownRow (hh := 2) (o := o_3) (T := 2) (enc := encI64) (xs := t_1) (sp := sp_5) (by kernel_rfl) (fun e => (ho_7 e).1) encI64_len).at hx_148)) ?_
        obtain ⟨t_12, ht_149, h⟩ := bd h
        refine toD 14 (by kernel_rfl) (p_call 0 46 #[(.int .i64 x_10), (.int .i64 x_11), (.int .i64 v1.fHammer)] (by kernel_rfl) (by kernel_rfl) (fun w hm => spec_l06Left.calls x_10 x_11 v1.fHammer w _ ht_149) ?_)
        rintro w v w' hm ⟨rfl, hm'⟩
        refine ⟨_, hm.app hm', jkD (fun w h => h.pick [0, 1, 2] (by kernel_rfl) (by kernel_rfl)) ?_⟩
        clear hm hm'
        obtain ⟨t_13, ht_150, h⟩ := bd h
        refine toD 15 (by kernel_rfl) (p_call 0 83 #[(.int .i64 i_6), (.int .i64 t_12)] (by kernel_rfl) (by kernel_rfl) (fun w hm => spec_l00Min.calls i_6 t_12 w _ ht_150) ?_)
        rintro w v w' hm ⟨rfl, hm'⟩
        refine ⟨_, hm.app hm', jkD (fun w h => h.pick [0, 1, 2] (by kernel_rfl) (by kernel_rfl)) ?_⟩
        clear hm hm'
        refine jd_f [⟨16, 0, 0⟩] 0 (by kernel_rfl) (by kernel_rfl) (fun w h => h.pick [0, 1, 2] (by kernel_rfl) (by kernel_rfl)) (by kernel_rfl) (by kernel_rfl) ?_
        refine jd_end (by kernel_rfl) ?_
        refine jx_inn ?_
        refine jx_then ?_
        refine jc_region ?_
        refine jo_f [(0, 0), (0, 0), (0, 0)] (by kernel_rfl) ?_
        refine jo_end (by kernel_rfl) ?_
        exact jx_back (t_13, (w64 (i_7 + 1))) () (Option.some.inj h).symm trivial [0, 1, 2] (by kernel_rfl) (by kernel_rfl) (by kernel_rfl)
      · replace h := ifF hc_146 h
        refine jc_exit ?_
        refine jx_thenx ?_
        refine jx_leave i_6 (Option.some.inj h).symm (fun e_151 => ?_)
        subst e_151
        refine jx_ine ?_
        exact jx_meet i_6 hr_143 (by kernel_rfl) [0, 1, 2] (by kernel_rfl) (by kernel_rfl)
    · rintro i_4 h
      replace h : spec_l06Least.k_5 i_4 = some r := h
      rw [spec_l06Least.k_5] at h
      refine jx_then ?_
      refine jc_seq ?_
      refine jc_region ?_
      refine jo_f [(0, 0), (0, 0)] (by kernel_rfl) ?_
      refine jo_end (by kernel_rfl) ?_
      refine jx_then ?_
      refine jc_ret ?_
      obtain rfl := Option.some.inj h
      exact jx_ret [] (.int .i64 i_4) [] rfl (by kernel_rfl) (by kernel_rfl) (fun w hm => ⟨rfl, hm.pick [0] (by kernel_rfl) (by kernel_rfl)⟩)

/-! ### spec.TurnsLeft -/
noncomputable def spec_TurnsLeft (f0 : GFrame) (w1 : GWear) (v2 : GLives) : Option (Int × Int) := (spec_l06Lived f0 w1 v2).bind fun t_1 => (if (t_1 != 0) = true then some (0, t_1) else (spec_l06Whole w1 v2).bind fun t_2 => (if (!t_2) = true then some (0, 4) else (spec_l06Least w1 v2).bind fun t_3 => some (t_3, 0)))
set_option maxRecDepth 100000 in
theorem spec_TurnsLeft.calls (f0 : GFrame) (w1 : GWear) (v2 : GLives) (w : World) (r : Int × Int) (f0_fHammers_a : Option Addr) (f0_fHammers_an : Nat) (f0_fHammers_c : Nat) (f0_fHammers_h : Rw w f0_fHammers_a 2 encGHammer f0.fHammers) (f0_fHammers_hn : f0.fHammers.length = f0_fHammers_an) (w1_fPins_a : Option Addr) (w1_fPins_an : Nat) (w1_fPins_c : Nat) (w1_fPins_h : Rw w w1_fPins_a 3 encGWornPin w1.fPins) (w1_fPins_hn : w1.fPins.length = w1_fPins_an) (w1_fStrokes_a : Option Addr) (w1_fStrokes_an : Nat) (w1_fStrokes_c : Nat) (w1_fStrokes_h : Rw w w1_fStrokes_a 1 encI64 w1.fStrokes) (w1_fStrokes_hn : w1.fStrokes.length = w1_fStrokes_an) (h : spec_TurnsLeft f0 w1 v2 = some r) :
    Calls Try.prog 15 #[(.agg #[(.int .i16 f0.fSteps), (.slice f0_fHammers_a f0_fHammers_an f0_fHammers_c)]), (.agg #[(.slice w1_fPins_a w1_fPins_an w1_fPins_c), (.slice w1_fStrokes_a w1_fStrokes_an w1_fStrokes_c)]), (.agg #[(.int .i64 v2.fPin), (.int .i64 v2.fHammer)])] w fun e w' => ∃ v, e = .returned v ∧ (v = .tuple #[(.int .i64 r.1), (.int .i64 r.2)] ∧ Mem w [] [] w') := by
  subst f0_fHammers_hn w1_fPins_hn w1_fStrokes_hn
  rw [spec_TurnsLeft] at h
  refine enter (args := [(.agg #[(.int .i16 f0.fSteps), (.slice f0_fHammers_a f0.fHammers.length f0_fHammers_c)]), (.agg #[(.slice w1_fPins_a w1.fPins.length w1_fPins_c), (.slice w1_fStrokes_a w1.fStrokes.length w1_fStrokes_c)]), (.agg #[(.int .i64 v2.fPin), (.int .i64 v2.fHammer)])]) Try.func15 rfl Try.ntmps15 (by kernel_rfl) (L := []) (W := []) (Mem.start w) ?_
  refine jc_seq ?_
  refine jc_region ?_
  refine toO (by kernel_rfl) (p_a 0 [0] (by kernel_rfl) (fun b => by kernel_rfl) (fun b_1 => jkO ?_))
  refine toO (by kernel_rfl) (p_a 0 [0] (by kernel_rfl) (fun b => by kernel_rfl) (fun b_2 => jkO ?_))
  refine toO (by kernel_rfl) (p_a 0 [0] (by kernel_rfl) (fun b => by kernel_rfl) (fun b_3 => jkO ?_))
  refine jo_f [(0, 0), (0, 0)] (by kernel_rfl) ?_
  refine jo_end (by kernel_rfl) ?_
  refine jx_then ?_
  refine jc_seq ?_
  refine jc_seq ?_
  refine jc_region ?_
  refine jo_f [(2, 0)] (by kernel_rfl) ?_
  obtain ⟨t_1, ht_6, h⟩ := bd h
  refine toO (by kernel_rfl) (p_call 0 43 #[(.pointer (some ⟨b_1, 0, none⟩)), (.pointer (some ⟨b_2, 0, none⟩)), (.agg #[(.int .i64 v2.fPin), (.int .i64 v2.fHammer)])] (by kernel_rfl) (by kernel_rfl) (fun w hm => spec_l06Lived.calls f0 w1 v2 w _ f0_fHammers_a f0.fHammers.length f0_fHammers_c (hm.exRow f0_fHammers_h List.not_mem_nil) rfl w1_fPins_a w1.fPins.length w1_fPins_c (hm.exRow w1_fPins_h List.not_mem_nil) rfl w1_fStrokes_a w1.fStrokes.length w1_fStrokes_c (hm.exRow w1_fStrokes_h List.not_mem_nil) rfl b_1 b_2 (hm.pass (N := [⟨some b_1, 27, [(.int .i16 f0.fSteps), (.slice f0_fHammers_a f0.fHammers.length f0_fHammers_c)]⟩, ⟨some b_2, 32, [(.slice w1_fPins_a w1.fPins.length w1_fPins_c), (.slice w1_fStrokes_a w1.fStrokes.length w1_fStrokes_c)]⟩]) [0, 1] (by kernel_rfl) (by kernel_rfl)) (hm.exApart (N := [⟨some b_1, 27, [(.int .i16 f0.fSteps), (.slice f0_fHammers_a f0.fHammers.length f0_fHammers_c)]⟩, ⟨some b_2, 32, [(.slice w1_fPins_a w1.fPins.length w1_fPins_c), (.slice w1_fStrokes_a w1.fStrokes.length w1_fStrokes_c)]⟩]) f0_fHammers_h (fun _ => List.not_mem_nil) [0, 1] (by kernel_rfl)) (hm.exApart (N := [⟨some b_1, 27, [(.int .i16 f0.fSteps), (.slice f0_fHammers_a f0.fHammers.length f0_fHammers_c)]⟩, ⟨some b_2, 32, [(.slice w1_fPins_a w1.fPins.length w1_fPins_c), (.slice w1_fStrokes_a w1.fStrokes.length w1_fStrokes_c)]⟩]) w1_fPins_h (fun _ => List.not_mem_nil) [0, 1] (by kernel_rfl)) (hm.exApart (N := [⟨some b_1, 27, [(.int .i16 f0.fSteps), (.slice f0_fHammers_a f0.fHammers.length f0_fHammers_c)]⟩, ⟨some b_2, 32, [(.slice w1_fPins_a w1.fPins.length w1_fPins_c), (.slice w1_fStrokes_a w1.fStrokes.length w1_fStrokes_c)]⟩]) w1_fStrokes_h (fun _ => List.not_mem_nil) [0, 1] (by kernel_rfl)) ht_6) ?_)
  rintro w v w' hm ⟨rfl, hm'⟩
  refine ⟨_, hm.appW (ps := [(0, ⟨some b_1, 27, [(.int .i16 f0.fSteps), (.slice f0_fHammers_a f0.fHammers.length f0_fHammers_c)]⟩), (1, ⟨some b_2, 32, [(.slice w1_fPins_a w1.fPins.length w1_fPins_c), (.slice w1_fStrokes_a w1.fStrokes.length w1_fStrokes_c)]⟩)]) (N := []) hm' (by kernel_rfl) (by kernel_rfl), jkO ?_⟩
  clear hm hm'
  refine jo_f [(0, 0)] (by kernel_rfl) ?_
  refine jo_end (by kernel_rfl) ?_
  refine jx_then ?_
  refine jc_seq ?_
  refine jc_region ?_
  refine jo_f [(0, 0), (0, 0)] (by kernel_rfl) ?_
  refine jo_end (by kernel_rfl) ?_
  refine jx_then ?_
  refine jc_cond (t_1 != 0) (by kernel_rfl) (fun hc_7 => ?_) (fun hc_7 => ?_)
  · replace h := ifT hc_7 h
    refine jc_seq ?_
    refine jc_region ?_
    refine jo_f [(0, 0), (0, 0), (0, 0)] (by kernel_rfl) ?_
    refine jo_end (by kernel_rfl) ?_
    refine jx_then ?_
    refine jc_ret ?_
    refine jx_thenr ?_
    obtain rfl := Option.some.inj h
    exact jx_ret [] (.tuple #[(.int .i64 0), (.int .i64 t_1)]) [] rfl (by kernel_rfl) (by kernel_rfl) (fun w hm => ⟨rfl, hm.pick [] (by kernel_rfl) (by kernel_rfl)⟩)
  · replace h := ifF hc_7 h
    refine jc_skip ?_
    refine jx_then ?_
    refine jc_seq ?_
    refine jc_seq ?_
    refine jc_region ?_
    refine jo_f [(2, 0)] (by kernel_rfl) ?_
    obtain ⟨t_2, ht_10, h⟩ := bd h
    refine toO (by kernel_rfl) (p_call 0 44 #[(.pointer (some ⟨b_2, 0, none⟩)), (.agg #[(.int .i64 v2.fPin), (.int .i64 v2.fHammer)])] (by kernel_rfl) (by kernel_rfl) (fun w hm => spec_l06Whole.calls w1 v2 w _ w1_fPins_a w1.fPins.length w1_fPins_c (hm.exRow w1_fPins_h List.not_mem_nil) rfl w1_fStrokes_a w1.fStrokes.length w1_fStrokes_c (hm.exRow w1_fStrokes_h List.not_mem_nil) rfl b_2 (hm.pass (N := [⟨some b_2, 32, [(.slice w1_fPins_a w1.fPins.length w1_fPins_c), (.slice w1_fStrokes_a w1.fStrokes.length w1_fStrokes_c)]⟩]) [1] (by kernel_rfl) (by kernel_rfl)) (hm.exApart (N := [⟨some b_2, 32, [(.slice w1_fPins_a w1.fPins.length w1_fPins_c), (.slice w1_fStrokes_a w1.fStrokes.length w1_fStrokes_c)]⟩]) w1_fPins_h (fun _ => List.not_mem_nil) [1] (by kernel_rfl)) (hm.exApart (N := [⟨some b_2, 32, [(.slice w1_fPins_a w1.fPins.length w1_fPins_c), (.slice w1_fStrokes_a w1.fStrokes.length w1_fStrokes_c)]⟩]) w1_fStrokes_h (fun _ => List.not_mem_nil) [1] (by kernel_rfl)) ht_10) ?_)
    rintro w v w' hm ⟨rfl, hm'⟩
    refine ⟨_, hm.appW (ps := [(1, ⟨some b_2, 32, [(.slice w1_fPins_a w1.fPins.length w1_fPins_c), (.slice w1_fStrokes_a w1.fStrokes.length w1_fStrokes_c)]⟩)]) (N := []) hm' (by kernel_rfl) (by kernel_rfl), jkO ?_⟩
    clear hm hm'
    refine jo_f [(0, 0)] (by kernel_rfl) ?_
    refine jo_end (by kernel_rfl) ?_
    refine jx_then ?_
    refine jc_cond (!t_2) (by kernel_rfl) (fun hc_11 => ?_) (fun hc_11 => ?_)
    · replace h := ifT hc_11 h
      refine jc_seq ?_
      refine jc_region ?_
      refine jo_f [(0, 0), (0, 0)] (by kernel_rfl) ?_
      refine jo_end (by kernel_rfl) ?_
      refine jx_then ?_
      refine jc_ret ?_
      refine jx_thenr ?_
      obtain rfl := Option.some.inj h
      exact jx_ret [] (.tuple #[(.int .i64 0), (.int .i64 4)]) [] rfl (by kernel_rfl) (by kernel_rfl) (fun w hm => ⟨rfl, hm.pick [] (by kernel_rfl) (by kernel_rfl)⟩)
    · replace h := ifF hc_11 h
      refine jc_skip ?_
      refine jx_then ?_
      refine jc_seq ?_
      refine jc_region ?_
      refine jo_f [(2, 0)] (by kernel_rfl) ?_
      obtain ⟨t_3, ht_12, h⟩ := bd h
      refine toO (by kernel_rfl) (p_call 0 45 #[(.pointer (some ⟨b_2, 0, none⟩)), (.agg #[(.int .i64 v2.fPin), (.int .i64 v2.fHammer)])] (by kernel_rfl) (by kernel_rfl) (fun w hm => spec_l06Least.calls w1 v2 w _ w1_fPins_a w1.fPins.length w1_fPins_c (hm.exRow w1_fPins_h List.not_mem_nil) rfl w1_fStrokes_a w1.fStrokes.length w1_fStrokes_c (hm.exRow w1_fStrokes_h List.not_mem_nil) rfl b_2 (hm.pass (N := [⟨some b_2, 32, [(.slice w1_fPins_a w1.fPins.length w1_fPins_c), (.slice w1_fStrokes_a w1.fStrokes.length w1_fStrokes_c)]⟩]) [1] (by kernel_rfl) (by kernel_rfl)) (hm.exApart (N := [⟨some b_2, 32, [(.slice w1_fPins_a w1.fPins.length w1_fPins_c), (.slice w1_fStrokes_a w1.fStrokes.length w1_fStrokes_c)]⟩]) w1_fPins_h (fun _ => List.not_mem_nil) [1] (by kernel_rfl)) (hm.exApart (N := [⟨some b_2, 32, [(.slice w1_fPins_a w1.fPins.length w1_fPins_c), (.slice w1_fStrokes_a w1.fStrokes.length w1_fStrokes_c)]⟩]) w1_fStrokes_h (fun _ => List.not_mem_nil) [1] (by kernel_rfl)) ht_12) ?_)
      rintro w v w' hm ⟨rfl, hm'⟩
      refine ⟨_, hm.appW (ps := [(1, ⟨some b_2, 32, [(.slice w1_fPins_a w1.fPins.length w1_fPins_c), (.slice w1_fStrokes_a w1.fStrokes.length w1_fStrokes_c)]⟩)]) (N := []) hm' (by kernel_rfl) (by kernel_rfl), jkO ?_⟩
      clear hm hm'
      refine jo_f [(0, 0), (0, 0)] (by kernel_rfl) ?_
      refine jo_end (by kernel_rfl) ?_
      refine jx_then ?_
      refine jc_ret ?_
      obtain rfl := Option.some.inj h
      exact jx_ret [] (.tuple #[(.int .i64 t_3), (.int .i64 0)]) [] rfl (by kernel_rfl) (by kernel_rfl) (fun w hm => ⟨rfl, hm.pick [] (by kernel_rfl) (by kernel_rfl)⟩)

/-! ### impl.FirstWorn -/
noncomputable def impl_FirstWorn (f0 : GFrame) (w1 : GWear) (v2 : GLives) : Option (Int × Int × Int × Int) := (impl_lifeCode f0 w1 v2).bind fun t_1 => (if (t_1 != 0) = true then some (0, 0, 0, t_1) else (impl_Wear_first w1 f0 v2).bind fun t_2 => (if (t_2.2 == 1000000) = true then some (0, 0, 0, 6) else some ((w64 (t_2.2 + 1)), t_2.1.fstep, t_2.1.ftrack, 0)))
set_option maxRecDepth 100000 in
theorem impl_FirstWorn.calls (f0 : GFrame) (w1 : GWear) (v2 : GLives) (w : World) (r : Int × Int × Int × Int) (f0_fHammers_a : Option Addr) (f0_fHammers_an : Nat) (f0_fHammers_c : Nat) (f0_fHammers_h : Rw w f0_fHammers_a 2 encGHammer f0.fHammers) (f0_fHammers_hn : f0.fHammers.length = f0_fHammers_an) (w1_fPins_a : Option Addr) (w1_fPins_an : Nat) (w1_fPins_c : Nat) (w1_fPins_h : Rw w w1_fPins_a 3 encGWornPin w1.fPins) (w1_fPins_hn : w1.fPins.length = w1_fPins_an) (w1_fStrokes_a : Option Addr) (w1_fStrokes_an : Nat) (w1_fStrokes_c : Nat) (w1_fStrokes_h : Rw w w1_fStrokes_a 1 encI64 w1.fStrokes) (w1_fStrokes_hn : w1.fStrokes.length = w1_fStrokes_an) (h : impl_FirstWorn f0 w1 v2 = some r) :
    Calls Try.prog 16 #[(.agg #[(.int .i16 f0.fSteps), (.slice f0_fHammers_a f0_fHammers_an f0_fHammers_c)]), (.agg #[(.slice w1_fPins_a w1_fPins_an w1_fPins_c), (.slice w1_fStrokes_a w1_fStrokes_an w1_fStrokes_c)]), (.agg #[(.int .i64 v2.fPin), (.int .i64 v2.fHammer)])] w fun e w' => ∃ v, e = .returned v ∧ (v = .tuple #[(.int .i64 r.1), (.int .i64 r.2.1), (.int .i64 r.2.2.1), (.int .i64 r.2.2.2)] ∧ Mem w [] [] w') := by
  subst f0_fHammers_hn w1_fPins_hn w1_fStrokes_hn
  rw [impl_FirstWorn] at h
  refine enter (args := [(.agg #[(.int .i16 f0.fSteps), (.slice f0_fHammers_a f0.fHammers.length f0_fHammers_c)]), (.agg #[(.slice w1_fPins_a w1.fPins.length w1_fPins_c), (.slice w1_fStrokes_a w1.fStrokes.length w1_fStrokes_c)]), (.agg #[(.int .i64 v2.fPin), (.int .i64 v2.fHammer)])]) Try.func16 rfl Try.ntmps16 (by kernel_rfl) (L := []) (W := []) (Mem.start w) ?_
  refine jc_seq ?_
  refine jc_region ?_
  refine toO (by kernel_rfl) (p_a 0 [0] (by kernel_rfl) (fun b => by kernel_rfl) (fun b_1 => jkO ?_))
  refine toO (by kernel_rfl) (p_a 0 [0] (by kernel_rfl) (fun b => by kernel_rfl) (fun b_2 => jkO ?_))
  refine toO (by kernel_rfl) (p_a 0 [0] (by kernel_rfl) (fun b => by kernel_rfl) (fun b_3 => jkO ?_))
  refine jo_f [(0, 0), (0, 0), (0, 0), (0, 0)] (by kernel_rfl) ?_
  refine jo_end (by kernel_rfl) ?_
  refine jx_then ?_
  refine jc_seq ?_
  refine jc_seq ?_
  refine jc_region ?_
  refine jo_f [(0, 0), (1, 0), (2, 0)] (by kernel_rfl) ?_
  obtain ⟨t_1, ht_6, h⟩ := bd h
  refine toO (by kernel_rfl) (p_call 0 41 #[(.agg #[(.int .i16 f0.fSteps), (.slice f0_fHammers_a f0.fHammers.length f0_fHammers_c)]), (.agg #[(.slice w1_fPins_a w1.fPins.length w1_fPins_c), (.slice w1_fStrokes_a w1.fStrokes.length w1_fStrokes_c)]), (.agg #[(.int .i64 v2.fPin), (.int .i64 v2.fHammer)])] (by kernel_rfl) (by kernel_rfl) (fun w hm => impl_lifeCode.calls f0 w1 v2 w _ f0_fHammers_a f0.fHammers.length f0_fHammers_c (hm.exRow f0_fHammers_h List.not_mem_nil) rfl w1_fPins_a w1.fPins.length w1_fPins_c (hm.exRow w1_fPins_h List.not_mem_nil) rfl w1_fStrokes_a w1.fStrokes.length w1_fStrokes_c (hm.exRow w1_fStrokes_h List.not_mem_nil) rfl ht_6) ?_)
  rintro w v w' hm ⟨rfl, hm'⟩
  refine ⟨_, hm.app hm', jkO ?_⟩
  clear hm hm'
  refine jo_f [(0, 0)] (by kernel_rfl) ?_
  refine jo_end (by kernel_rfl) ?_
  refine jx_then ?_
  refine jc_seq ?_
  refine jc_region ?_
  refine jo_f [(0, 0), (0, 0)] (by kernel_rfl) ?_
  refine jo_end (by kernel_rfl) ?_
  refine jx_then ?_
  refine jc_cond (t_1 != 0) (by kernel_rfl) (fun hc_7 => ?_) (fun hc_7 => ?_)
  · replace h := ifT hc_7 h
    refine jc_seq ?_
    refine jc_region ?_
    refine jo_f [(0, 0), (0, 0), (0, 0), (0, 0), (0, 0)] (by kernel_rfl) ?_
    refine jo_end (by kernel_rfl) ?_
    refine jx_then ?_
    refine jc_ret ?_
    refine jx_thenr ?_
    obtain rfl := Option.some.inj h
    exact jx_ret [] (.tuple #[(.int .i64 0), (.int .i64 0), (.int .i64 0), (.int .i64 t_1)]) [] rfl (by kernel_rfl) (by kernel_rfl) (fun w hm => ⟨rfl, hm.pick [] (by kernel_rfl) (by kernel_rfl)⟩)
  · replace h := ifF hc_7 h
    refine jc_skip ?_
    refine jx_then ?_
    refine jc_seq ?_
    refine jc_region ?_
    refine jo_f [(1, 0), (0, 0), (2, 0)] (by kernel_rfl) ?_
    obtain ⟨t_2, ht_8, h⟩ := bd h
    refine toO (by kernel_rfl) (p_call 0 42 #[(.agg #[(.slice w1_fPins_a w1.fPins.length w1_fPins_c), (.slice w1_fStrokes_a w1.fStrokes.length w1_fStrokes_c)]), (.agg #[(.int .i16 f0.fSteps), (.slice f0_fHammers_a f0.fHammers.length f0_fHammers_c)]), (.agg #[(.int .i64 v2.fPin), (.int .i64 v2.fHammer)])] (by kernel_rfl) (by kernel_rfl) (fun w hm => impl_Wear_first.calls w1 f0 v2 w _ w1_fPins_a w1.fPins.length w1_fPins_c (hm.exRow w1_fPins_h List.not_mem_nil) rfl w1_fStrokes_a w1.fStrokes.length w1_fStrokes_c (hm.exRow w1_fStrokes_h List.not_mem_nil) rfl f0_fHammers_a f0.fHammers.length f0_fHammers_c (hm.exRow f0_fHammers_h List.not_mem_nil) rfl ht_8) ?_)
    rintro w v w' hm ⟨rfl, hm'⟩
    refine ⟨_, hm.app hm', jkO ?_⟩
    clear hm hm'
    refine jo_f [(0, 0), (0, 0), (0, 0)] (by kernel_rfl) ?_
    refine toO (by kernel_rfl) (p_a 0 [0] (by kernel_rfl) (fun b => by kernel_rfl) (fun b_9 => jkO ?_))
    refine toO (by kernel_rfl) (p_s 0 [3] (by kernel_rfl) (by kernel_rfl) (jkO ?_))
    refine jo_f [(0, 0)] (by kernel_rfl) ?_
    refine jo_end (by kernel_rfl) ?_
    refine jx_then ?_
    refine jc_seq ?_
    refine jc_seq ?_
    refine jc_region ?_
    refine jo_f [(0, 0), (0, 0)] (by kernel_rfl) ?_
    refine jo_end (by kernel_rfl) ?_
    refine jx_then ?_
    refine jc_cond (t_2.2 == 1000000) (by kernel_rfl) (fun hc_11 => ?_) (fun hc_11 => ?_)
    · replace h := ifT hc_11 h
      refine jc_seq ?_
      refine jc_region ?_
      refine jo_f [(0, 0), (0, 0), (0, 0), (0, 0)] (by kernel_rfl) ?_
      refine jo_end (by kernel_rfl) ?_
      refine jx_then ?_
      refine jc_ret ?_
      refine jx_thenr ?_
      obtain rfl := Option.some.inj h
      exact jx_ret [] (.tuple #[(.int .i64 0), (.int .i64 0), (.int .i64 0), (.int .i64 6)]) [] rfl (by kernel_rfl) (by kernel_rfl) (fun w hm => ⟨rfl, hm.pick [] (by kernel_rfl) (by kernel_rfl)⟩)
    · replace h := ifF hc_11 h
      refine jc_skip ?_
      refine jx_then ?_
      refine jc_seq ?_
      refine jc_draw [⟨some b_1, 27, [(.int .i16 f0.fSteps), (.slice f0_fHammers_a f0.fHammers.length f0_fHammers_c)]⟩, ⟨some b_2, 32, [(.slice w1_fPins_a w1.fPins.length w1_fPins_c), (.slice w1_fStrokes_a w1.fStrokes.length w1_fStrokes_c)]⟩, ⟨some b_3, 35, [(.int .i64 v2.fPin), (.int .i64 v2.fHammer)]⟩, ⟨some b_9, 83, [(.int .i64 t_2.1.fmade), (.int .i64 t_2.1.feach), (.int .i64 t_2.1.flife), (.int .i64 t_2.1.fstep), (.int .i64 t_2.1.ftrack)]⟩] 10 (by kernel_rfl) (by kernel_rfl) ?_
      refine jd_f [⟨0, 0, 0⟩, ⟨1, 0, 0⟩, ⟨2, 0, 0⟩, ⟨3, 3, 0⟩, ⟨4, 0, 0⟩, ⟨5, 3, 0⟩, ⟨6, 0, 0⟩, ⟨7, 0, 0⟩, ⟨8, 0, 0⟩, ⟨9, 0, 0⟩] 0 (by kernel_rfl) (by kernel_rfl) (fun w h => h.pick [0, 1, 2, 3] (by kernel_rfl) (by kernel_rfl)) (by kernel_rfl) (by kernel_rfl) ?_
      refine jd_end (by kernel_rfl) ?_
      refine jx_then ?_
      refine jc_ret ?_
      obtain rfl := Option.some.inj h
      exact jx_ret [] (.tuple #[(.int .i64 (w64 (t_2.2 + 1))), (.int .i64 t_2.1.fstep), (.int .i64 t_2.1.ftrack), (.int .i64 0)]) [] rfl (by kernel_rfl) (by kernel_rfl) (fun w hm => ⟨rfl, hm.pick [] (by kernel_rfl) (by kernel_rfl)⟩)

/-! ### spec.FirstWorn -/
noncomputable def spec_FirstWorn.k_7 (t_3 : Int) (i_6 : Int) : Option (Int × Int × Int × Int) := some ((w64 (t_3 + 1)), (-1), i_6, 0)
noncomputable def spec_FirstWorn.l_9 (w1 : GWear) (v2 : GLives) (t_3 : Int) (t_5 : (List Int)) : Int → Option ((Int) ⊕ (Int))
  | i_8 => (ix w1.fStrokes i_8).bind fun x_11 => (ix t_5 i_8).bind fun x_12 => (spec_l06Left x_11 x_12 v2.fHammer).bind fun t_13 => (if (t_13 != t_3) = true then some (.inl (w64 (i_8 + 1))) else some (.inr i_8))
noncomputable def spec_FirstWorn.k_4 (w1 : GWear) (v2 : GLives) (t_3 : Int) : Option (Int × Int × Int × Int) := (spec_l06Each w1).bind fun t_5 => (loop (spec_FirstWorn.l_9 w1 v2 t_3 t_5) 0).bind fun t_10 => spec_FirstWorn.k_7 t_3 t_10
noncomputable def spec_FirstWorn.l_15 (w1 : GWear) (v2 : GLives) (t_3 : Int) : Int → Option ((Int) ⊕ ((Int × Int × Int × Int) ⊕ Unit))
  | i_14 => (if (decide (i_14 < (w1.fPins.length : Int))) = true then (ix w1.fPins i_14).bind fun x_17 => (spec_l06Left x_17.fTurns 1 v2.fPin).bind fun t_18 => (if (t_18 == t_3) = true then (ix w1.fPins i_14).bind fun x_19 => (ix w1.fPins i_14).bind fun x_20 => some (.inr (.inl ((w64 (t_3 + 1)), (w64 x_19.fStep), (w64 x_20.fTrack), 0))) else some (.inl (w64 (i_14 + 1)))) else some (.inr (.inr ())))
noncomputable def spec_FirstWorn (f0 : GFrame) (w1 : GWear) (v2 : GLives) : Option (Int × Int × Int × Int) := (spec_l06Lived f0 w1 v2).bind fun t_1 => (if (t_1 != 0) = true then some (0, 0, 0, t_1) else (spec_l06Whole w1 v2).bind fun t_2 => (if (!t_2) = true then some (0, 0, 0, 4) else (spec_l06Least w1 v2).bind fun t_3 => (if (t_3 == 1000000) = true then some (0, 0, 0, 6) else (loop (spec_FirstWorn.l_15 w1 v2 t_3) 0).bind fun t_16 => match t_16 with | .inl p => some p | .inr p => spec_FirstWorn.k_4 w1 v2 t_3)))
set_option maxRecDepth 100000 in
theorem spec_FirstWorn.calls (f0 : GFrame) (w1 : GWear) (v2 : GLives) (w : World) (r : Int × Int × Int × Int) (f0_fHammers_a : Option Addr) (f0_fHammers_an : Nat) (f0_fHammers_c : Nat) (f0_fHammers_h : Rw w f0_fHammers_a 2 encGHammer f0.fHammers) (f0_fHammers_hn : f0.fHammers.length = f0_fHammers_an) (w1_fPins_a : Option Addr) (w1_fPins_an : Nat) (w1_fPins_c : Nat) (w1_fPins_h : Rw w w1_fPins_a 3 encGWornPin w1.fPins) (w1_fPins_hn : w1.fPins.length = w1_fPins_an) (w1_fStrokes_a : Option Addr) (w1_fStrokes_an : Nat) (w1_fStrokes_c : Nat) (w1_fStrokes_h : Rw w w1_fStrokes_a 1 encI64 w1.fStrokes) (w1_fStrokes_hn : w1.fStrokes.length = w1_fStrokes_an) (h : spec_FirstWorn f0 w1 v2 = some r) :
    Calls Try.prog 17 #[(.agg #[(.int .i16 f0.fSteps), (.slice f0_fHammers_a f0_fHammers_an f0_fHammers_c)]), (.agg #[(.slice w1_fPins_a w1_fPins_an w1_fPins_c), (.slice w1_fStrokes_a w1_fStrokes_an w1_fStrokes_c)]), (.agg #[(.int .i64 v2.fPin), (.int .i64 v2.fHammer)])] w fun e w' => ∃ v, e = .returned v ∧ (v = .tuple #[(.int .i64 r.1), (.int .i64 r.2.1), (.int .i64 r.2.2.1), (.int .i64 r.2.2.2)] ∧ Mem w [] [] w') := by
  subst f0_fHammers_hn w1_fPins_hn w1_fStrokes_hn
  rw [spec_FirstWorn] at h
  refine enter (args := [(.agg #[(.int .i16 f0.fSteps), (.slice f0_fHammers_a f0.fHammers.length f0_fHammers_c)]), (.agg #[(.slice w1_fPins_a w1.fPins.length w1_fPins_c), (.slice w1_fStrokes_a w1.fStrokes.length w1_fStrokes_c)]), (.agg #[(.int .i64 v2.fPin), (.int .i64 v2.fHammer)])]) Try.func17 rfl Try.ntmps17 (by kernel_rfl) (L := []) (W := []) (Mem.start w) ?_
  refine jc_seq ?_
  refine jc_region ?_
  refine toO (by kernel_rfl) (p_a 0 [0] (by kernel_rfl) (fun b => by kernel_rfl) (fun b_1 => jkO ?_))
  refine toO (by kernel_rfl) (p_a 0 [0] (by kernel_rfl) (fun b => by kernel_rfl) (fun b_2 => jkO ?_))
  refine toO (by kernel_rfl) (p_a 0 [0] (by kernel_rfl) (fun b => by kernel_rfl) (fun b_3 => jkO ?_))
  refine jo_f [(0, 0), (0, 0), (0, 0), (0, 0)] (by kernel_rfl) ?_
  refine jo_end (by kernel_rfl) ?_
  refine jx_then ?_
  refine jc_seq ?_
  refine jc_seq ?_
  refine jc_region ?_
  refine jo_f [(2, 0)] (by kernel_rfl) ?_
  obtain ⟨t_1, ht_6, h⟩ := bd h
  refine toO (by kernel_rfl) (p_call 0 43 #[(.pointer (some ⟨b_1, 0, none⟩)), (.pointer (some ⟨b_2, 0, none⟩)), (.agg #[(.int .i64 v2.fPin), (.int .i64 v2.fHammer)])] (by kernel_rfl) (by kernel_rfl) (fun w hm => spec_l06Lived.calls f0 w1 v2 w _ f0_fHammers_a f0.fHammers.length f0_fHammers_c (hm.exRow f0_fHammers_h List.not_mem_nil) rfl w1_fPins_a w1.fPins.length w1_fPins_c (hm.exRow w1_fPins_h List.not_mem_nil) rfl w1_fStrokes_a w1.fStrokes.length w1_fStrokes_c (hm.exRow w1_fStrokes_h List.not_mem_nil) rfl b_1 b_2 (hm.pass (N := [⟨some b_1, 27, [(.int .i16 f0.fSteps), (.slice f0_fHammers_a f0.fHammers.length f0_fHammers_c)]⟩, ⟨some b_2, 32, [(.slice w1_fPins_a w1.fPins.length w1_fPins_c), (.slice w1_fStrokes_a w1.fStrokes.length w1_fStrokes_c)]⟩]) [0, 1] (by kernel_rfl) (by kernel_rfl)) (hm.exApart (N := [⟨some b_1, 27, [(.int .i16 f0.fSteps), (.slice f0_fHammers_a f0.fHammers.length f0_fHammers_c)]⟩, ⟨some b_2, 32, [(.slice w1_fPins_a w1.fPins.length w1_fPins_c), (.slice w1_fStrokes_a w1.fStrokes.length w1_fStrokes_c)]⟩]) f0_fHammers_h (fun _ => List.not_mem_nil) [0, 1] (by kernel_rfl)) (hm.exApart (N := [⟨some b_1, 27, [(.int .i16 f0.fSteps), (.slice f0_fHammers_a f0.fHammers.length f0_fHammers_c)]⟩, ⟨some b_2, 32, [(.slice w1_fPins_a w1.fPins.length w1_fPins_c), (.slice w1_fStrokes_a w1.fStrokes.length w1_fStrokes_c)]⟩]) w1_fPins_h (fun _ => List.not_mem_nil) [0, 1] (by kernel_rfl)) (hm.exApart (N := [⟨some b_1, 27, [(.int .i16 f0.fSteps), (.slice f0_fHammers_a f0.fHammers.length f0_fHammers_c)]⟩, ⟨some b_2, 32, [(.slice w1_fPins_a w1.fPins.length w1_fPins_c), (.slice w1_fStrokes_a w1.fStrokes.length w1_fStrokes_c)]⟩]) w1_fStrokes_h (fun _ => List.not_mem_nil) [0, 1] (by kernel_rfl)) ht_6) ?_)
  rintro w v w' hm ⟨rfl, hm'⟩
  refine ⟨_, hm.appW (ps := [(0, ⟨some b_1, 27, [(.int .i16 f0.fSteps), (.slice f0_fHammers_a f0.fHammers.length f0_fHammers_c)]⟩), (1, ⟨some b_2, 32, [(.slice w1_fPins_a w1.fPins.length w1_fPins_c), (.slice w1_fStrokes_a w1.fStrokes.length w1_fStrokes_c)]⟩)]) (N := []) hm' (by kernel_rfl) (by kernel_rfl), jkO ?_⟩
  clear hm hm'
  refine jo_f [(0, 0)] (by kernel_rfl) ?_
  refine jo_end (by kernel_rfl) ?_
  refine jx_then ?_
  refine jc_seq ?_
  refine jc_region ?_
  refine jo_f [(0, 0), (0, 0)] (by kernel_rfl) ?_
  refine jo_end (by kernel_rfl) ?_
  refine jx_then ?_
  refine jc_cond (t_1 != 0) (by kernel_rfl) (fun hc_7 => ?_) (fun hc_7 => ?_)
  · replace h := ifT hc_7 h
    refine jc_seq ?_
    refine jc_region ?_
    refine jo_f [(0, 0), (0, 0), (0, 0), (0, 0), (0, 0)] (by kernel_rfl) ?_
    refine jo_end (by kernel_rfl) ?_
    refine jx_then ?_
    refine jc_ret ?_
    refine jx_thenr ?_
    obtain rfl := Option.some.inj h
    exact jx_ret [] (.tuple #[(.int .i64 0), (.int .i64 0), (.int .i64 0), (.int .i64 t_1)]) [] rfl (by kernel_rfl) (by kernel_rfl) (fun w hm => ⟨rfl, hm.pick [] (by kernel_rfl) (by kernel_rfl)⟩)
  · replace h := ifF hc_7 h
    refine jc_skip ?_
    refine jx_then ?_
    refine jc_seq ?_
    refine jc_seq ?_
    refine jc_region ?_
    refine jo_f [(2, 0)] (by kernel_rfl) ?_
    obtain ⟨t_2, ht_10, h⟩ := bd h
    refine toO (by kernel_rfl) (p_call 0 44 #[(.pointer (some ⟨b_2, 0, none⟩)), (.agg #[(.int .i64 v2.fPin), (.int .i64 v2.fHammer)])] (by kernel_rfl) (by kernel_rfl) (fun w hm => spec_l06Whole.calls w1 v2 w _ w1_fPins_a w1.fPins.length w1_fPins_c (hm.exRow w1_fPins_h List.not_mem_nil) rfl w1_fStrokes_a w1.fStrokes.length w1_fStrokes_c (hm.exRow w1_fStrokes_h List.not_mem_nil) rfl b_2 (hm.pass (N := [⟨some b_2, 32, [(.slice w1_fPins_a w1.fPins.length w1_fPins_c), (.slice w1_fStrokes_a w1.fStrokes.length w1_fStrokes_c)]⟩]) [1] (by kernel_rfl) (by kernel_rfl)) (hm.exApart (N := [⟨some b_2, 32, [(.slice w1_fPins_a w1.fPins.length w1_fPins_c), (.slice w1_fStrokes_a w1.fStrokes.length w1_fStrokes_c)]⟩]) w1_fPins_h (fun _ => List.not_mem_nil) [1] (by kernel_rfl)) (hm.exApart (N := [⟨some b_2, 32, [(.slice w1_fPins_a w1.fPins.length w1_fPins_c), (.slice w1_fStrokes_a w1.fStrokes.length w1_fStrokes_c)]⟩]) w1_fStrokes_h (fun _ => List.not_mem_nil) [1] (by kernel_rfl)) ht_10) ?_)
    rintro w v w' hm ⟨rfl, hm'⟩
    refine ⟨_, hm.appW (ps := [(1, ⟨some b_2, 32, [(.slice w1_fPins_a w1.fPins.length w1_fPins_c), (.slice w1_fStrokes_a w1.fStrokes.length w1_fStrokes_c)]⟩)]) (N := []) hm' (by kernel_rfl) (by kernel_rfl), jkO ?_⟩
    clear hm hm'
    refine jo_f [(0, 0)] (by kernel_rfl) ?_
    refine jo_end (by kernel_rfl) ?_
    refine jx_then ?_
    refine jc_cond (!t_2) (by kernel_rfl) (fun hc_11 => ?_) (fun hc_11 => ?_)
    · replace h := ifT hc_11 h
      refine jc_seq ?_
      refine jc_region ?_
      refine jo_f [(0, 0), (0, 0), (0, 0), (0, 0)] (by kernel_rfl) ?_
      refine jo_end (by kernel_rfl) ?_
      refine jx_then ?_
      refine jc_ret ?_
      refine jx_thenr ?_
      obtain rfl := Option.some.inj h
      exact jx_ret [] (.tuple #[(.int .i64 0), (.int .i64 0), (.int .i64 0), (.int .i64 4)]) [] rfl (by kernel_rfl) (by kernel_rfl) (fun w hm => ⟨rfl, hm.pick [] (by kernel_rfl) (by kernel_rfl)⟩)
    · replace h := ifF hc_11 h
      refine jc_skip ?_
      refine jx_then ?_
      refine jc_seq ?_
      refine jc_region ?_
      refine jo_f [(2, 0)] (by kernel_rfl) ?_
      obtain ⟨t_3, ht_12, h⟩ := bd h
      refine toO (by kernel_rfl) (p_call 0 45 #[(.pointer (some ⟨b_2, 0, none⟩)), (.agg #[(.int .i64 v2.fPin), (.int .i64 v2.fHammer)])] (by kernel_rfl) (by kernel_rfl) (fun w hm => spec_l06Least.calls w1 v2 w _ w1_fPins_a w1.fPins.length w1_fPins_c (hm.exRow w1_fPins_h List.not_mem_nil) rfl w1_fStrokes_a w1.fStrokes.length w1_fStrokes_c (hm.exRow w1_fStrokes_h List.not_mem_nil) rfl b_2 (hm.pass (N := [⟨some b_2, 32, [(.slice w1_fPins_a w1.fPins.length w1_fPins_c), (.slice w1_fStrokes_a w1.fStrokes.length w1_fStrokes_c)]⟩]) [1] (by kernel_rfl) (by kernel_rfl)) (hm.exApart (N := [⟨some b_2, 32, [(.slice w1_fPins_a w1.fPins.length w1_fPins_c), (.slice w1_fStrokes_a w1.fStrokes.length w1_fStrokes_c)]⟩]) w1_fPins_h (fun _ => List.not_mem_nil) [1] (by kernel_rfl)) (hm.exApart (N := [⟨some b_2, 32, [(.slice w1_fPins_a w1.fPins.length w1_fPins_c), (.slice w1_fStrokes_a w1.fStrokes.length w1_fStrokes_c)]⟩]) w1_fStrokes_h (fun _ => List.not_mem_nil) [1] (by kernel_rfl)) ht_12) ?_)
      rintro w v w' hm ⟨rfl, hm'⟩
      refine ⟨_, hm.appW (ps := [(1, ⟨some b_2, 32, [(.slice w1_fPins_a w1.fPins.length w1_fPins_c), (.slice w1_fStrokes_a w1.fStrokes.length w1_fStrokes_c)]⟩)]) (N := []) hm' (by kernel_rfl) (by kernel_rfl), jkO ?_⟩
      clear hm hm'
      refine jo_f [(0, 0)] (by kernel_rfl) ?_
      refine jo_end (by kernel_rfl) ?_
      refine jx_then ?_
      refine jc_seq ?_
      refine jc_seq ?_
      refine jc_region ?_
      refine jo_f [(0, 0), (0, 0)] (by kernel_rfl) ?_
      refine jo_end (by kernel_rfl) ?_
      refine jx_then ?_
      refine jc_cond (t_3 == 1000000) (by kernel_rfl) (fun hc_14 => ?_) (fun hc_14 => ?_)
      · replace h := ifT hc_14 h
        refine jc_seq ?_
        refine jc_region ?_
        refine jo_f [(0, 0), (0, 0), (0, 0), (0, 0)] (by kernel_rfl) ?_
        refine jo_end (by kernel_rfl) ?_
        refine jx_then ?_
        refine jc_ret ?_
        refine jx_thenr ?_
        obtain rfl := Option.some.inj h
        exact jx_ret [] (.tuple #[(.int .i64 0), (.int .i64 0), (.int .i64 0), (.int .i64 6)]) [] rfl (by kernel_rfl) (by kernel_rfl) (fun w hm => ⟨rfl, hm.pick [] (by kernel_rfl) (by kernel_rfl)⟩)
      · replace h := ifF hc_14 h
        refine jc_skip ?_
        refine jx_then ?_
        refine jc_seq ?_
        refine jc_seq ?_
        refine jc_region ?_
        refine jo_f [(0, 0)] (by kernel_rfl) ?_
        refine jo_end (by kernel_rfl) ?_
        refine jx_then ?_
        refine jc_meet (fun (_ : Unit) => spec_FirstWorn.k_4 w1 v2 t_3 = some r) (fun (_ : Unit) => [(4, [], (.pointer (some ⟨b_2, 0, none⟩))), (5, [], (.pointer (some ⟨b_3, 0, none⟩))), (6, [], (.int .i64 0)), (7, [], (.int .i64 0)), (8, [], (.int .i64 0)), (9, [], (.int .i64 0)), (11, [], (.int .i64 t_3))]) (fun (_ : Unit) => [⟨some b_1, 27, [(.int .i16 f0.fSteps), (.slice f0_fHammers_a f0.fHammers.length f0_fHammers_c)]⟩, ⟨some b_2, 32, [(.slice w1_fPins_a w1.fPins.length w1_fPins_c), (.slice w1_fStrokes_a w1.fStrokes.length w1_fStrokes_c)]⟩, ⟨some b_3, 35, [(.int .i64 v2.fPin), (.int .i64 v2.fHammer)]⟩]) ?_ ?_
        · refine jc_block ?_
          obtain ⟨t_16, ht_180, hr_169⟩ := bd h
          refine jc_loop (fun (s : Int) (x : Unit) => match s, x with | i_14, _ => True) (fun (s : Int) (x : Unit) => match s, x with | i_14, _ => [(4, [], (.pointer (some ⟨b_2, 0, none⟩))), (5, [], (.pointer (some ⟨b_3, 0, none⟩))), (6, [], (.int .i64 0)), (7, [], (.int .i64 0)), (8, [], (.int .i64 0)), (9, [], (.int .i64 0)), (11, [], (.int .i64 t_3)), (12, [], (.int .i64 i_14))]) (fun (s : Int) (x : Unit) => match s, x with | i_14, _ => [⟨some b_1, 27, [(.int .i16 f0.fSteps), (.slice f0_fHammers_a f0.fHammers.length f0_fHammers_c)]⟩, ⟨some b_2, 32, [(.slice w1_fPins_a w1.fPins.length w1_fPins_c), (.slice w1_fStrokes_a w1.fStrokes.length w1_fStrokes_c)]⟩, ⟨some b_3, 35, [(.int .i64 v2.fPin), (.int .i64 v2.fHammer)]⟩]) ht_180 () trivial (by kernel_rfl) [0, 1, 2] (by kernel_rfl) (by kernel_rfl) ?_
          rintro i_14 _ y_170 _ h
          rw [spec_FirstWorn.l_15] at h
          refine jc_seq ?_
          refine jc_seq ?_
          refine jc_region ?_
          refine jo_f [(0, 0), (0, 0), (1, 0), (0, 0), (0, 0)] (by kernel_rfl) ?_
          refine jo_end (by kernel_rfl) ?_
          refine jx_then ?_
          refine jc_cond (decide (i_14 < (w1.fPins.length : Int))) (by kernel_rfl) (fun hc_172 => ?_) (fun hc_172 => ?_)
          · replace h := ifT hc_172 h
            refine jc_skip ?_
            refine jx_then ?_
            refine jc_seq ?_
            refine jc_block ?_
            refine jc_seq ?_
            refine jc_draw [⟨some b_1, 27, [(.int .i16 f0.fSteps), (.slice f0_fHammers_a f0.fHammers.length f0_fHammers_c)]⟩, ⟨some b_2, 32, [(.slice w1_fPins_a w1.fPins.length w1_fPins_c), (.slice w1_fStrokes_a w1.fStrokes.length w1_fStrokes_c)]⟩, ⟨some b_3, 35, [(.int .i64 v2.fPin), (.int .i64 v2.fHammer)]⟩] 11 (by kernel_rfl) (by kernel_rfl) ?_
            refine jd_f [⟨0, 0, 0⟩, ⟨1, 1, 0⟩, ⟨2, 0, 0⟩, ⟨6, 0, 0⟩, ⟨7, 2, 0⟩, ⟨9, 0, 0⟩] 5 (by kernel_rfl) (by kernel_rfl) (fun w h => h.pick [0, 1, 2] (by kernel_rfl) (by kernel_rfl)) (by kernel_rfl) (by kernel_rfl) ?_
            obtain ⟨x_17, hx_173, h⟩ := bd h
            refine jd_v 3 0 (by kernel_rfl) (fun w h => h.pick [0, 1, 2] (by kernel_rfl) (by kernel_rfl)) (by kernel_rfl) (by kernel_rfl) _ (fun w hm => idx_run (a := w1_fPins_a) (len := w1.fPins.length) (s := 3) (j := i_14) (by kernel_rfl) (ix_some hx_173).1 (ltn hx_173 rfl) (w1_fPins_h.sp hx_173)) ?_
            refine jd_f [⟨4, 0, 0⟩] 3 (by kernel_rfl) (by kernel_rfl) (fun w h => h.pick [0, 1, 2] (by kernel_rfl) (by kernel_rfl)) (by kernel_rfl) (by kernel_rfl) ?_
            refine jd_v 5 0 (by kernel_rfl) (fun w h => h.pick [0, 1, 2] (by kernel_rfl) (by kernel_rfl)) (by kernel_rfl) (by kernel_rfl) _ (fun w hm => ld_run (b := aB w1_fPins_a) (off := (aO w1_fPins_a + i_14.toNat * 3 + 2)) (s := 1) (agg := false) (vs := (((encGWornPin x_17).drop 2).take 1)) (by kernel_rfl) (by kernel_rfl) (.inr rfl) (((hm.exRow w1_fPins_h List.not_mem_nil).at hx_173).sub 2 1)) ?_
            obtain ⟨t_18, ht_174, h⟩ := bd h
            refine toD 8 (by kernel_rfl) (p_call 0 46 #[(.int .i64 x_17.fTurns), (.int .i64 1), (.int .i64 v2.fPin)] (by kernel_rfl) (by kernel_rfl) (fun w hm => spec_l06Left.calls x_17.fTurns 1 v2.fPin w _ ht_174) ?_)
            rintro w v w' hm ⟨rfl, hm'⟩
            refine ⟨_, hm.app hm', jkD (fun w h => h.pick [0, 1, 2] (by kernel_rfl) (by kernel_rfl)) ?_⟩
            clear hm hm'
            refine jd_f [⟨10, 0, 0⟩] 0 (by kernel_rfl) (by kernel_rfl) (fun w h => h.pick [0, 1, 2] (by kernel_rfl) (by kernel_rfl)) (by kernel_rfl) (by kernel_rfl) ?_
            refine jd_end (by kernel_rfl) ?_
            refine jx_then ?_
            refine jc_cond (t_18 == t_3) (by kernel_rfl) (fun hc_175 => ?_) (fun hc_175 => ?_)
            · replace h := ifT hc_175 h
              refine jc_seq ?_
              refine jc_draw [⟨some b_1, 27, [(.int .i16 f0.fSteps), (.slice f0_fHammers_a f0.fHammers.length f0_fHammers_c)]⟩, ⟨some b_2, 32, [(.slice w1_fPins_a w1.fPins.length w1_fPins_c), (.slice w1_fStrokes_a w1.fStrokes.length w1_fStrokes_c)]⟩, ⟨some b_3, 35, [(.int .i64 v2.fPin), (.int .i64 v2.fHammer)]⟩] 20 (by kernel_rfl) (by kernel_rfl) ?_
              refine jd_f [⟨0, 0, 0⟩, ⟨1, 0, 0⟩, ⟨2, 0, 0⟩, ⟨3, 1, 0⟩, ⟨4, 0, 0⟩, ⟨9, 0, 0⟩, ⟨10, 1, 0⟩, ⟨11, 0, 0⟩, ⟨16, 0, 0⟩] 11 (by kernel_rfl) (by kernel_rfl) (fun w h => h.pick [0, 1, 2] (by kernel_rfl) (by kernel_rfl)) (by kernel_rfl) (by kernel_rfl) ?_
              obtain ⟨x_19, hx_176, h⟩ := bd h
              refine jd_v 5 0 (by kernel_rfl) (fun w h => h.pick [0, 1, 2] (by kernel_rfl) (by kernel_rfl)) (by kernel_rfl) (by kernel_rfl) _ (fun w hm => idx_run (a := w1_fPins_a) (len := w1.fPins.length) (s := 3) (j := i_14) (by kernel_rfl) (ix_some hx_176).1 (ltn hx_176 rfl) (w1_fPins_h.sp hx_176)) ?_
              refine jd_f [⟨6, 0, 0⟩] 9 (by kernel_rfl) (by kernel_rfl) (fun w h => h.pick [0, 1, 2] (by kernel_rfl) (by kernel_rfl)) (by kernel_rfl) (by kernel_rfl) ?_
              refine jd_v 7 0 (by kernel_rfl) (fun w h => h.pick [0, 1, 2] (by kernel_rfl) (by kernel_rfl)) (by kernel_rfl) (by kernel_rfl) _ (fun w hm => ld_run (b := aB w1_fPins_a) (off := (aO w1_fPins_a + i_14.toNat * 3)) (s := 1) (agg := false) (vs := (((encGWornPin x_19).drop 0).take 1)) (by kernel_rfl) (by kernel_rfl) (.inr rfl) (((hm.exRow w1_fPins_h List.not_mem_nil).at hx_176).sub 0 1)) ?_
              refine jd_f [⟨8, 0, 0⟩, ⟨17, 0, 0⟩] 6 (by kernel_rfl) (by kernel_rfl) (fun w h => h.pick [0, 1, 2] (by kernel_rfl) (by kernel_rfl)) (by kernel_rfl) (by kernel_rfl) ?_
              obtain ⟨x_20, hx_177, h⟩ := bd h
              refine jd_v 12 0 (by kernel_rfl) (fun w h => h.pick [0, 1, 2] (by kernel_rfl) (by kernel_rfl)) (by kernel_rfl) (by kernel_rfl) _ (fun w hm => idx_run (a := w1_fPins_a) (len := w1.fPins.length) (s := 3) (j := i_14) (by kernel_rfl) (ix_some hx_177).1 (ltn hx_177 rfl) (w1_fPins_h.sp hx_177)) ?_
              refine jd_f [⟨13, 0, 0⟩] 4 (by kernel_rfl) (by kernel_rfl) (fun w h => h.pick [0, 1, 2] (by kernel_rfl) (by kernel_rfl)) (by kernel_rfl) (by kernel_rfl) ?_
              refine jd_v 14 0 (by kernel_rfl) (fun w h => h.pick [0, 1, 2] (by kernel_rfl) (by kernel_rfl)) (by kernel_rfl) (by kernel_rfl) _ (fun w hm => ld_run (b := aB w1_fPins_a) (off := (aO w1_fPins_a + i_14.toNat * 3 + 1)) (s := 1) (agg := false) (vs := (((encGWornPin x_20).drop 1).take 1)) (by kernel_rfl) (by kernel_rfl) (.inr rfl) (((hm.exRow w1_fPins_h List.not_mem_nil).at hx_177).sub 1 1)) ?_
              refine jd_f [⟨15, 0, 0⟩, ⟨18, 0, 0⟩, ⟨19, 0, 0⟩] 0 (by kernel_rfl) (by kernel_rfl) (fun w h => h.pick [0, 1, 2] (by kernel_rfl) (by kernel_rfl)) (by kernel_rfl) (by kernel_rfl) ?_
              refine jd_end (by kernel_rfl) ?_
              refine jx_then ?_
              refine jc_ret ?_
              refine jx_inr ?_
              refine jx_thenr ?_
              refine jx_leaver (.inl ((w64 (t_3 + 1)), (w64 x_19.fStep), (w64 x_20.fTrack), 0)) (Option.some.inj h).symm (fun e_178 => ?_)
              subst e_178
              refine jx_inr ?_
              refine jx_thenr ?_
              refine jx_thenr ?_
              obtain rfl := Option.some.inj hr_169
              exact jx_ret [] (.tuple #[(.int .i64 (w64 (t_3 + 1))), (.int .i64 (w64 x_19.fStep)), (.int .i64 (w64 x_20.fTrack)), (.int .i64 0)]) [] rfl (by kernel_rfl) (by kernel_rfl) (fun w hm => ⟨rfl, hm.pick [] (by kernel_rfl) (by kernel_rfl)⟩)
            · replace h := ifF hc_175 h
              refine jc_skip ?_
              refine jx_inn ?_
              refine jx_then ?_
              refine jc_region ?_
              refine jo_f [(0, 0), (0, 0), (0, 0)] (by kernel_rfl) ?_
              refine jo_end (by kernel_rfl) ?_
              exact jx_back (w64 (i_14 + 1)) () (Option.some.inj h).symm trivial [0, 1, 2] (by kernel_rfl) (by kernel_rfl) (by kernel_rfl)
          · replace h := ifF hc_172 h
            refine jc_exit ?_
            refine jx_thenx ?_
            refine jx_leave (.inr ()) (Option.some.inj h).symm (fun e_179 => ?_)
            subst e_179
            refine jx_ine ?_
            exact jx_meet () hr_169 (by kernel_rfl) [0, 1, 2] (by kernel_rfl) (by kernel_rfl)
        · rintro _ h
          replace h : spec_FirstWorn.k_4 w1 v2 t_3 = some r := h
          rw [spec_FirstWorn.k_4] at h
          refine jx_then ?_
          refine jc_seq ?_
          refine jc_region ?_
          obtain ⟨t_5, ht_93, h⟩ := bd h
          refine toO (by kernel_rfl) (p_call 0 47 #[(.pointer (some ⟨b_2, 0, none⟩))] (by kernel_rfl) (by kernel_rfl) (fun w hm => spec_l06Each.calls w1 w _ w1_fPins_a w1.fPins.length w1_fPins_c (hm.exRow w1_fPins_h List.not_mem_nil) rfl w1_fStrokes_a w1.fStrokes.length w1_fStrokes_c (hm.exRow w1_fStrokes_h List.not_mem_nil) rfl b_2 (hm.pass (N := [⟨some b_2, 32, [(.slice w1_fPins_a w1.fPins.length w1_fPins_c), (.slice w1_fStrokes_a w1.fStrokes.length w1_fStrokes_c)]⟩]) [1] (by kernel_rfl) (by kernel_rfl)) (hm.exApart (N := [⟨some b_2, 32, [(.slice w1_fPins_a w1.fPins.length w1_fPins_c), (.slice w1_fStrokes_a w1.fStrokes.length w1_fStrokes_c)]⟩]) w1_fPins_h (fun _ => List.not_mem_nil) [1] (by kernel_rfl)) (hm.exApart (N := [⟨some b_2, 32, [(.slice w1_fPins_a w1.fPins.length w1_fPins_c), (.slice w1_fStrokes_a w1.fStrokes.length w1_fStrokes_c)]⟩]) w1_fStrokes_h (fun _ => List.not_mem_nil) [1] (by kernel_rfl)) ht_93) ?_)
          rintro w v w' hm ⟨o_94, cap_95, sp_96, _, rfl, hs_97, ho_98, rfl, hm'⟩
          refine ⟨_, hm.appW (ps := [(1, ⟨some b_2, 32, [(.slice w1_fPins_a w1.fPins.length w1_fPins_c), (.slice w1_fStrokes_a w1.fStrokes.length w1_fStrokes_c)]⟩)]) (N := [⟨o_94, 2, row encI64 t_5 sp_96⟩]) hm' (by kernel_rfl) (by kernel_rfl), jkO ?_⟩
          clear hm hm'
          refine jo_f [(0, 0)] (by kernel_rfl) ?_
          refine jo_end (by kernel_rfl) ?_
          refine jx_then ?_
          refine jc_seq ?_
          refine jc_region ?_
          refine jo_f [(0, 0)] (by kernel_rfl) ?_
          refine jo_end (by kernel_rfl) ?_
          refine jx_then ?_
          refine jc_seq ?_
          refine jc_meet (fun (j : Int) => match j with | i_6 => spec_FirstWorn.k_7 t_3 i_6 = some r) (fun (j : Int) => match j with | i_6 => [(6, [], (.int .i64 0)), (7, [], (.int .i64 0)), (8, [], (.int .i64 0)), (9, [], (.int .i64 0)), (11, [], (.int .i64 t_3)), (14, [], (.int .i64 i_6))]) (fun (j : Int) => match j with | i_6 => [⟨some b_1, 27, [(.int .i16 f0.fSteps), (.slice f0_fHammers_a f0.fHammers.length f0_fHammers_c)]⟩, ⟨some b_2, 32, [(.slice w1_fPins_a w1.fPins.length w1_fPins_c), (.slice w1_fStrokes_a w1.fStrokes.length w1_fStrokes_c)]⟩, ⟨some b_3, 35, [(.int .i64 v2.fPin), (.int .i64 v2.fHammer)]⟩, ⟨o_94, 2, row encI64 t_5 sp_96⟩]) ?_ ?_
          · refine jc_block ?_
            obtain ⟨t_10, ht_154, hr_143⟩ := bd h
            refine jc_loop (fun (s : Int) (x : Unit) => match s, x with | i_8, _ => True) (fun (s : Int) (x : Unit) => match s, x with | i_8, _ => [(4, [], (.pointer (some ⟨b_2, 0, none⟩))), (5, [], (.pointer (some ⟨b_3, 0, none⟩))), (6, [], (.int .i64 0)), (7, [], (.int .i64 0)), (8, [], (.int .i64 0)), (9, [], (.int .i64 0)), (11, [], (.int .i64 t_3)), (13, [], (.slice (o_94.map fun b => ⟨b, 0, none⟩) t_5.length cap_95)), (14, [], (.int .i64 i_8))]) (fun (s : Int) (x : Unit) => match s, x with | i_8, _ => [⟨some b_1, 27, [(.int .i16 f0.fSteps), (.slice f0_fHammers_a f0.fHammers.length f0_fHammers_c)]⟩, ⟨some b_2, 32, [(.slice w1_fPins_a w1.fPins.length w1_fPins_c), (.slice w1_fStrokes_a w1.fStrokes.length w1_fStrokes_c)]⟩, ⟨some b_3, 35, [(.int .i64 v2.fPin), (.int .i64 v2.fHammer)]⟩, ⟨o_94, 2, row encI64 t_5 sp_96⟩]) ht_154 () trivial (by kernel_rfl) [0, 1, 2, 3] (by kernel_rfl) (by kernel_rfl) ?_
            rintro i_8 _ y_144 _ h
            rw [spec_FirstWorn.l_9] at h
            refine jc_seq ?_
            refine jc_seq ?_
            refine jc_draw [⟨some b_1, 27, [(.int .i16 f0.fSteps), (.slice f0_fHammers_a f0.fHammers.length f0_fHammers_c)]⟩, ⟨some b_2, 32, [(.slice w1_fPins_a w1.fPins.length w1_fPins_c), (.slice w1_fStrokes_a w1.fStrokes.length w1_fStrokes_c)]⟩, ⟨some b_3, 35, [(.int .i64 v2.fPin), (.int .i64 v2.fHammer)]⟩, ⟨o_94, 2, row encI64 t_5 sp_96⟩] 14 (by kernel_rfl) (by kernel_rfl) ?_
            refine jd_f [⟨0, 0, 0⟩, ⟨1, 1, 0⟩, ⟨2, 0, 0⟩, ⟨5, 0, 0⟩, ⟨6, 0, 0⟩, ⟨9, 0, 0⟩, ⟨10, 2, 0⟩, ⟨12, 0, 0⟩] 6 (by kernel_rfl) (by kernel_rfl) (fun w h => h.pick [0, 1, 2, 3] (by kernel_rfl) (by kernel_rfl)) (by kernel_rfl) (by kernel_rfl) ?_
            obtain ⟨x_11, hx_149, h⟩ := bd h
            refine jd_v 3 0 (by kernel_rfl) (fun w h => h.pick [0, 1, 2, 3] (by kernel_rfl) (by kernel_rfl)) (by kernel_rfl) (by kernel_rfl) _ (fun w hm => idx_run (a := w1_fStrokes_a) (len := w1.fStrokes.length) (s := 1) (j := i_8) (by kernel_rfl) (ix_some hx_149).1 (ltn hx_149 rfl) (w1_fStrokes_h.sp hx_149)) ?_
            refine jd_v 4 0 (by kernel_rfl) (fun w h => h.pick [0, 1, 2, 3] (by kernel_rfl) (by kernel_rfl)) (by kernel_rfl) (by kernel_rfl) _ (fun w hm => ld_run (b := aB w1_fStrokes_a) (off := (aO w1_fStrokes_a + i_8.toNat * 1)) (s := 1) (agg := false) (vs := (encI64 x_11)) (by kernel_rfl) (by kernel_rfl) (.inr rfl) ((hm.exRow w1_fStrokes_h List.not_mem_nil).at hx_149)) ?_
            obtain ⟨x_12, hx_150, h⟩ := bd h
            refine jd_v 7 0 (by kernel_rfl) (fun w h => h.pick [0, 1, 2, 3] (by kernel_rfl) (by kernel_rfl)) (by kernel_rfl) (by kernel_rfl) _ (fun w hm => idx_run (a := (o_94.map fun b => ⟨b, 0, none⟩)) (len := t_5.length) (s := 1) (j := i_8) (by kernel_rfl) (ix_some hx_150).1 (ltn hx_150 rfl) (spo ho_98 hx_150)) ?_
            refine jd_v 8 0 (by kernel_rfl) (fun w h => h.pick [0, 1, 2, 3] (by kernel_rfl) (by kernel_rfl)) (by kernel_rfl) (by kernel_rfl) _ (fun w hm => ld_run (b := aB (o_94.map fun b => ⟨b, 0, none⟩)) (off := (aO (o_94.map fun b => ⟨b, 0, none⟩) + i_8.toNat * 1)) (s := 1) (agg := false) (vs := (encI64 x_12)) (by kernel_rfl) (by kernel_rfl) (.inr rfl) ((hm.ownRow (hh := 3) (o := o_94) (T := 2) (enc := encI64) (xs := t_5) (sp := sp_96) (by kernel_rfl) (fun e => (ho_98 e).1) encI64_len).at hx_150)) ?_
            obtain ⟨t_13, ht_151, h⟩ := bd h
            refine toD 11 (by kernel_rfl) (p_call 0 46 #[(.int .i64 x_11), (.int .i64 x_12), (.int .i64 v2.fHammer)] (by kernel_rfl) (by kernel_rfl) (fun w hm => spec_l06Left.calls x_11 x_12 v2.fHammer w _ ht_151) ?_)
            rintro w v w' hm ⟨rfl, hm'⟩
            refine ⟨_, hm.app hm', jkD (fun w h => h.pick [0, 1, 2, 3] (by kernel_rfl) (by kernel_rfl)) ?_⟩
            clear hm hm'
            refine jd_f [⟨13, 0, 0⟩] 0 (by kernel_rfl) (by kernel_rfl) (fun w h => h.pick [0, 1, 2, 3] (by kernel_rfl) (by kernel_rfl)) (by kernel_rfl) (by kernel_rfl) ?_
            refine jd_end (by kernel_rfl) ?_
            refine jx_then ?_
            refine jc_cond (t_13 != t_3) (by kernel_rfl) (fun hc_152 => ?_) (fun hc_152 => ?_)
            · replace h := ifT hc_152 h
              refine jc_skip ?_
              refine jx_then ?_
              refine jc_block ?_
              refine jc_region ?_
              refine jo_f [(0, 0), (0, 0), (0, 0)] (by kernel_rfl) ?_
              refine jo_end (by kernel_rfl) ?_
              refine jx_inn ?_
              exact jx_back (w64 (i_8 + 1)) () (Option.some.inj h).symm trivial [0, 1, 2, 3] (by kernel_rfl) (by kernel_rfl) (by kernel_rfl)
            · replace h := ifF hc_152 h
              refine jc_exit ?_
              refine jx_thenx ?_
              refine jx_leave i_8 (Option.some.inj h).symm (fun e_153 => ?_)
              subst e_153
              refine jx_ine ?_
              exact jx_meet i_8 hr_143 (by kernel_rfl) [0, 1, 2, 3] (by kernel_rfl) (by kernel_rfl)
          · rintro i_6 h
            replace h : spec_FirstWorn.k_7 t_3 i_6 = some r := h
            rw [spec_FirstWorn.k_7] at h
            refine jx_then ?_
            refine jc_seq ?_
            refine jc_region ?_
            refine jo_f [(0, 0), (0, 0), (0, 0), (0, 0), (0, 0), (0, 0), (0, 0)] (by kernel_rfl) ?_
            refine jo_end (by kernel_rfl) ?_
            refine jx_then ?_
            refine jc_ret ?_
            obtain rfl := Option.some.inj h
            exact jx_ret [] (.tuple #[(.int .i64 (w64 (t_3 + 1))), (.int .i64 (-1)), (.int .i64 i_6), (.int .i64 0)]) [] rfl (by kernel_rfl) (by kernel_rfl) (fun w hm => ⟨rfl, hm.pick [] (by kernel_rfl) (by kernel_rfl)⟩)

/-! ### spec.l00Same -/
noncomputable def spec_l00Same.k_1 : Option (Bool) := some true
noncomputable def spec_l00Same.l_3 (a0 : List Int) (b1 : List Int) : Int → Option ((Int) ⊕ (Bool ⊕ Unit))
  | i_2 => (if (decide (i_2 < (a0.length : Int))) = true then (ix a0 i_2).bind fun x_5 => (ix b1 i_2).bind fun x_6 => (if (x_5 != x_6) = true then some (.inr (.inl false)) else some (.inl (w64 (i_2 + 1)))) else some (.inr (.inr ())))
noncomputable def spec_l00Same (a0 : List Int) (b1 : List Int) : Option (Bool) := (if ((a0.length : Int) != (b1.length : Int)) = true then some false else (loop (spec_l00Same.l_3 a0 b1) 0).bind fun t_4 => match t_4 with | .inl p => some p | .inr p => spec_l00Same.k_1)
set_option maxRecDepth 100000 in
theorem spec_l00Same.calls (a0 : List Int) (b1 : List Int) (w : World) (r : Bool) (a0_a : Option Addr) (a0_an : Nat) (a0_c : Nat) (a0_h : Rw w a0_a 1 encI64 a0) (a0_hn : a0.length = a0_an) (b1_a : Option Addr) (b1_an : Nat) (b1_c : Nat) (b1_h : Rw w b1_a 1 encI64 b1) (b1_hn : b1.length = b1_an) (h : spec_l00Same a0 b1 = some r) :
    Calls Try.prog 48 #[(.slice a0_a a0_an a0_c), (.slice b1_a b1_an b1_c)] w fun e w' => ∃ v, e = .returned v ∧ (v = (.bool r) ∧ Mem w [] [] w') := by
  subst a0_hn b1_hn
  rw [spec_l00Same] at h
  refine enter (args := [(.slice a0_a a0.length a0_c), (.slice b1_a b1.length b1_c)]) Try.func48 rfl Try.ntmps48 (by kernel_rfl) (L := []) (W := []) (Mem.start w) ?_
  refine jc_seq ?_
  refine jc_region ?_
  refine jo_f [(0, 0)] (by kernel_rfl) ?_
  refine jo_end (by kernel_rfl) ?_
  refine jx_then ?_
  refine jc_seq ?_
  refine jc_seq ?_
  refine jc_region ?_
  refine jo_f [(0, 0), (0, 0), (0, 0), (0, 0), (0, 0)] (by kernel_rfl) ?_
  refine jo_end (by kernel_rfl) ?_
  refine jx_then ?_
  refine jc_cond ((a0.length : Int) != (b1.length : Int)) (by kernel_rfl) (fun hc_2 => ?_) (fun hc_2 => ?_)
  · replace h := ifT hc_2 h
    refine jc_seq ?_
    refine jc_region ?_
    refine jo_f [(0, 0)] (by kernel_rfl) ?_
    refine jo_end (by kernel_rfl) ?_
    refine jx_then ?_
    refine jc_ret ?_
    refine jx_thenr ?_
    obtain rfl := Option.some.inj h
    exact jx_ret [] (.bool false) [] rfl (by kernel_rfl) (by kernel_rfl) (fun w hm => ⟨rfl, hm.pick [] (by kernel_rfl) (by kernel_rfl)⟩)
  · replace h := ifF hc_2 h
    refine jc_skip ?_
    refine jx_then ?_
    refine jc_seq ?_
    refine jc_seq ?_
    refine jc_region ?_
    refine jo_f [(0, 0)] (by kernel_rfl) ?_
    refine jo_end (by kernel_rfl) ?_
    refine jx_then ?_
    refine jc_meet (fun (_ : Unit) => spec_l00Same.k_1 = some r) (fun (_ : Unit) => [(4, [], (.bool false))]) (fun (_ : Unit) => []) ?_ ?_
    · refine jc_block ?_
      obtain ⟨t_4, ht_42, hr_33⟩ := bd h
      refine jc_loop (fun (s : Int) (x : Unit) => match s, x with | i_2, _ => True) (fun (s : Int) (x : Unit) => match s, x with | i_2, _ => [(0, [], (.slice a0_a a0.length a0_c)), (1, [], (.slice b1_a b1.length b1_c)), (4, [], (.bool false)), (5, [], (.int .i64 i_2))]) (fun (s : Int) (x : Unit) => match s, x with | i_2, _ => []) ht_42 () trivial (by kernel_rfl) [] (by kernel_rfl) (by kernel_rfl) ?_
      rintro i_2 _ y_34 _ h
      rw [spec_l00Same.l_3] at h
      refine jc_seq ?_
      refine jc_seq ?_
      refine jc_region ?_
      refine jo_f [(0, 0), (0, 0), (0, 0), (0, 0)] (by kernel_rfl) ?_
      refine jo_end (by kernel_rfl) ?_
      refine jx_then ?_
      refine jc_cond (decide (i_2 < (a0.length : Int))) (by kernel_rfl) (fun hc_36 => ?_) (fun hc_36 => ?_)
      · replace h := ifT hc_36 h
        refine jc_skip ?_
        refine jx_then ?_
        refine jc_seq ?_
        refine jc_block ?_
        refine jc_seq ?_
        refine jc_draw [] 9 (by kernel_rfl) (by kernel_rfl) ?_
        refine jd_f [⟨0, 0, 0⟩, ⟨1, 0, 0⟩, ⟨4, 0, 0⟩, ⟨5, 0, 0⟩] 5 (by kernel_rfl) (by kernel_rfl) (fun w h => h.pick [] (by kernel_rfl) (by kernel_rfl)) (by kernel_rfl) (by kernel_rfl) ?_
        obtain ⟨x_5, hx_37, h⟩ := bd h
        refine jd_v 2 0 (by kernel_rfl) (fun w h => h.pick [] (by kernel_rfl) (by kernel_rfl)) (by kernel_rfl) (by kernel_rfl) _ (fun w hm => idx_run (a := a0_a) (len := a0.length) (s := 1) (j := i_2) (by kernel_rfl) (ix_some hx_37).1 (ltn hx_37 rfl) (a0_h.sp hx_37)) ?_
        refine jd_v 3 0 (by kernel_rfl) (fun w h => h.pick [] (by kernel_rfl) (by kernel_rfl)) (by kernel_rfl) (by kernel_rfl) _ (fun w hm => ld_run (b := aB a0_a) (off := (aO a0_a + i_2.toNat * 1)) (s := 1) (agg := false) (vs := (encI64 x_5)) (by kernel_rfl) (by kernel_rfl) (.inr rfl) ((hm.exRow a0_h List.not_mem_nil).at hx_37)) ?_
        obtain ⟨x_6, hx_38, h⟩ := bd h
        refine jd_v 6 0 (by kernel_rfl) (fun w h => h.pick [] (by kernel_rfl) (by kernel_rfl)) (by kernel_rfl) (by kernel_rfl) _ (fun w hm => idx_run (a := b1_a) (len := b1.length) (s := 1) (j := i_2) (by kernel_rfl) (ix_some hx_38).1 (ltn hx_38 rfl) (b1_h.sp hx_38)) ?_
        refine jd_v 7 0 (by kernel_rfl) (fun w h => h.pick [] (by kernel_rfl) (by kernel_rfl)) (by kernel_rfl) (by kernel_rfl) _ (fun w hm => ld_run (b := aB b1_a) (off := (aO b1_a + i_2.toNat * 1)) (s := 1) (agg := false) (vs := (encI64 x_6)) (by kernel_rfl) (by kernel_rfl) (.inr rfl) ((hm.exRow b1_h List.not_mem_nil).at hx_38)) ?_
        refine jd_f [⟨8, 0, 0⟩] 0 (by kernel_rfl) (by kernel_rfl) (fun w h => h.pick [] (by kernel_rfl) (by kernel_rfl)) (by kernel_rfl) (by kernel_rfl) ?_
        refine jd_end (by kernel_rfl) ?_
        refine jx_then ?_
        refine jc_cond (x_5 != x_6) (by kernel_rfl) (fun hc_39 => ?_) (fun hc_39 => ?_)
        · replace h := ifT hc_39 h
          refine jc_seq ?_
          refine jc_region ?_
          refine jo_f [(0, 0)] (by kernel_rfl) ?_
          refine jo_end (by kernel_rfl) ?_
          refine jx_then ?_
          refine jc_ret ?_
          refine jx_inr ?_
          refine jx_thenr ?_
          refine jx_leaver (.inl false) (Option.some.inj h).symm (fun e_40 => ?_)
          subst e_40
          refine jx_inr ?_
          refine jx_thenr ?_
          refine jx_thenr ?_
          obtain rfl := Option.some.inj hr_33
          exact jx_ret [] (.bool false) [] rfl (by kernel_rfl) (by kernel_rfl) (fun w hm => ⟨rfl, hm.pick [] (by kernel_rfl) (by kernel_rfl)⟩)
        · replace h := ifF hc_39 h
          refine jc_skip ?_
          refine jx_inn ?_
          refine jx_then ?_
          refine jc_region ?_
          refine jo_f [(0, 0), (0, 0), (0, 0)] (by kernel_rfl) ?_
          refine jo_end (by kernel_rfl) ?_
          exact jx_back (w64 (i_2 + 1)) () (Option.some.inj h).symm trivial [] (by kernel_rfl) (by kernel_rfl) (by kernel_rfl)
      · replace h := ifF hc_36 h
        refine jc_exit ?_
        refine jx_thenx ?_
        refine jx_leave (.inr ()) (Option.some.inj h).symm (fun e_41 => ?_)
        subst e_41
        refine jx_ine ?_
        exact jx_meet () hr_33 (by kernel_rfl) [] (by kernel_rfl) (by kernel_rfl)
    · rintro _ h
      replace h : spec_l00Same.k_1 = some r := h
      rw [spec_l00Same.k_1] at h
      refine jx_then ?_
      refine jc_seq ?_
      refine jc_region ?_
      refine jo_f [(0, 0)] (by kernel_rfl) ?_
      refine jo_end (by kernel_rfl) ?_
      refine jx_then ?_
      refine jc_ret ?_
      obtain rfl := Option.some.inj h
      exact jx_ret [] (.bool true) [] rfl (by kernel_rfl) (by kernel_rfl) (fun w hm => ⟨rfl, hm.pick [] (by kernel_rfl) (by kernel_rfl)⟩)

/-! ### spec.SameWear -/
noncomputable def spec_SameWear.k_1 (a0 : GWear) (b1 : GWear) : Option (Bool) := (spec_l00Same a0.fStrokes b1.fStrokes).bind fun t_2 => some t_2
noncomputable def spec_SameWear.l_4 (a0 : GWear) (b1 : GWear) : Int → Option ((Int) ⊕ (Bool ⊕ Unit))
  | i_3 => (if (decide (i_3 < (a0.fPins.length : Int))) = true then (ix a0.fPins i_3).bind fun x_6 => (ix b1.fPins i_3).bind fun x_7 => (if (!((x_6.fStep == x_7.fStep) && ((x_6.fTrack == x_7.fTrack) && (x_6.fTurns == x_7.fTurns)))) = true then some (.inr (.inl false)) else some (.inl (w64 (i_3 + 1)))) else some (.inr (.inr ())))
noncomputable def spec_SameWear (a0 : GWear) (b1 : GWear) : Option (Bool) := (if (((a0.fPins.length : Int) != (b1.fPins.length : Int)) || ((a0.fStrokes.length : Int) != (b1.fStrokes.length : Int))) = true then some false else (loop (spec_SameWear.l_4 a0 b1) 0).bind fun t_5 => match t_5 with | .inl p => some p | .inr p => spec_SameWear.k_1 a0 b1)
set_option maxRecDepth 100000 in
theorem spec_SameWear.calls (a0 : GWear) (b1 : GWear) (w : World) (r : Bool) (a0_fPins_a : Option Addr) (a0_fPins_an : Nat) (a0_fPins_c : Nat) (a0_fPins_h : Rw w a0_fPins_a 3 encGWornPin a0.fPins) (a0_fPins_hn : a0.fPins.length = a0_fPins_an) (a0_fStrokes_a : Option Addr) (a0_fStrokes_an : Nat) (a0_fStrokes_c : Nat) (a0_fStrokes_h : Rw w a0_fStrokes_a 1 encI64 a0.fStrokes) (a0_fStrokes_hn : a0.fStrokes.length = a0_fStrokes_an) (b1_fPins_a : Option Addr) (b1_fPins_an : Nat) (b1_fPins_c : Nat) (b1_fPins_h : Rw w b1_fPins_a 3 encGWornPin b1.fPins) (b1_fPins_hn : b1.fPins.length = b1_fPins_an) (b1_fStrokes_a : Option Addr) (b1_fStrokes_an : Nat) (b1_fStrokes_c : Nat) (b1_fStrokes_h : Rw w b1_fStrokes_a 1 encI64 b1.fStrokes) (b1_fStrokes_hn : b1.fStrokes.length = b1_fStrokes_an) (h : spec_SameWear a0 b1 = some r) :
    Calls Try.prog 18 #[(.agg #[(.slice a0_fPins_a a0_fPins_an a0_fPins_c), (.slice a0_fStrokes_a a0_fStrokes_an a0_fStrokes_c)]), (.agg #[(.slice b1_fPins_a b1_fPins_an b1_fPins_c), (.slice b1_fStrokes_a b1_fStrokes_an b1_fStrokes_c)])] w fun e w' => ∃ v, e = .returned v ∧ (v = (.bool r) ∧ Mem w [] [] w') := by
  subst a0_fPins_hn a0_fStrokes_hn b1_fPins_hn b1_fStrokes_hn
  rw [spec_SameWear] at h
  refine enter (args := [(.agg #[(.slice a0_fPins_a a0.fPins.length a0_fPins_c), (.slice a0_fStrokes_a a0.fStrokes.length a0_fStrokes_c)]), (.agg #[(.slice b1_fPins_a b1.fPins.length b1_fPins_c), (.slice b1_fStrokes_a b1.fStrokes.length b1_fStrokes_c)])]) Try.func18 rfl Try.ntmps18 (by kernel_rfl) (L := []) (W := []) (Mem.start w) ?_
  refine jc_seq ?_
  refine jc_region ?_
  refine toO (by kernel_rfl) (p_a 0 [0] (by kernel_rfl) (fun b => by kernel_rfl) (fun b_1 => jkO ?_))
  refine toO (by kernel_rfl) (p_a 0 [0] (by kernel_rfl) (fun b => by kernel_rfl) (fun b_2 => jkO ?_))
  refine jo_f [(0, 0)] (by kernel_rfl) ?_
  refine jo_end (by kernel_rfl) ?_
  refine jx_then ?_
  refine jc_seq ?_
  refine jc_seq ?_
  refine jc_region ?_
  refine jo_f [(0, 0), (0, 0), (0, 0), (0, 0), (1, 0), (0, 0), (0, 0), (0, 0), (0, 1), (0, 1), (0, 1), (0, 1), (1, 1), (0, 1), (0, 1), (0, 0)] (by kernel_rfl) ?_
  refine jo_end (by kernel_rfl) ?_
  refine jx_then ?_
  refine jc_cond (((a0.fPins.length : Int) != (b1.fPins.length : Int)) || ((a0.fStrokes.length : Int) != (b1.fStrokes.length : Int))) (by kernel_rfl) (fun hc_4 => ?_) (fun hc_4 => ?_)
  · replace h := ifT hc_4 h
    refine jc_seq ?_
    refine jc_region ?_
    refine jo_f [(0, 0)] (by kernel_rfl) ?_
    refine jo_end (by kernel_rfl) ?_
    refine jx_then ?_
    refine jc_ret ?_
    refine jx_thenr ?_
    obtain rfl := Option.some.inj h
    exact jx_ret [] (.bool false) [] rfl (by kernel_rfl) (by kernel_rfl) (fun w hm => ⟨rfl, hm.pick [] (by kernel_rfl) (by kernel_rfl)⟩)
  · replace h := ifF hc_4 h
    refine jc_skip ?_
    refine jx_then ?_
    refine jc_seq ?_
    refine jc_seq ?_
    refine jc_region ?_
    refine jo_f [(0, 0)] (by kernel_rfl) ?_
    refine jo_end (by kernel_rfl) ?_
    refine jx_then ?_
    refine jc_meet (fun (_ : Unit) => spec_SameWear.k_1 a0 b1 = some r) (fun (_ : Unit) => [(2, [], (.pointer (some ⟨b_1, 0, none⟩))), (3, [], (.pointer (some ⟨b_2, 0, none⟩))), (4, [], (.bool false))]) (fun (_ : Unit) => [⟨some b_1, 32, [(.slice a0_fPins_a a0.fPins.length a0_fPins_c), (.slice a0_fStrokes_a a0.fStrokes.length a0_fStrokes_c)]⟩, ⟨some b_2, 32, [(.slice b1_fPins_a b1.fPins.length b1_fPins_c), (.slice b1_fStrokes_a b1.fStrokes.length b1_fStrokes_c)]⟩]) ?_ ?_
    · refine jc_block ?_
      obtain ⟨t_5, ht_85, hr_76⟩ := bd h
      refine jc_loop (fun (s : Int) (x : Unit) => match s, x with | i_3, _ => True) (fun (s : Int) (x : Unit) => match s, x with | i_3, _ => [(2, [], (.pointer (some ⟨b_1, 0, none⟩))), (3, [], (.pointer (some ⟨b_2, 0, none⟩))), (4, [], (.bool false)), (5, [], (.int .i64 i_3))]) (fun (s : Int) (x : Unit) => match s, x with | i_3, _ => [⟨some b_1, 32, [(.slice a0_fPins_a a0.fPins.length a0_fPins_c), (.slice a0_fStrokes_a a0.fStrokes.length a0_fStrokes_c)]⟩, ⟨some b_2, 32, [(.slice b1_fPins_a b1.fPins.length b1_fPins_c), (.slice b1_fStrokes_a b1.fStrokes.length b1_fStrokes_c)]⟩]) ht_85 () trivial (by kernel_rfl) [0, 1] (by kernel_rfl) (by kernel_rfl) ?_
      rintro i_3 _ y_77 _ h
      rw [spec_SameWear.l_4] at h
      refine jc_seq ?_
      refine jc_seq ?_
      refine jc_region ?_
      refine jo_f [(0, 0), (0, 0), (0, 0), (0, 0), (0, 0)] (by kernel_rfl) ?_
      refine jo_end (by kernel_rfl) ?_
      refine jx_then ?_
      refine jc_cond (decide (i_3 < (a0.fPins.length : Int))) (by kernel_rfl) (fun hc_79 => ?_) (fun hc_79 => ?_)
      · replace h := ifT hc_79 h
        refine jc_skip ?_
        refine jx_then ?_
        refine jc_seq ?_
        refine jc_block ?_
        refine jc_seq ?_
        refine jc_draw [⟨some b_1, 32, [(.slice a0_fPins_a a0.fPins.length a0_fPins_c), (.slice a0_fStrokes_a a0.fStrokes.length a0_fStrokes_c)]⟩, ⟨some b_2, 32, [(.slice b1_fPins_a b1.fPins.length b1_fPins_c), (.slice b1_fStrokes_a b1.fStrokes.length b1_fStrokes_c)]⟩] 11 (by kernel_rfl) (by kernel_rfl) ?_
        refine jd_f [⟨0, 0, 0⟩, ⟨1, 0, 0⟩, ⟨2, 0, 0⟩, ⟨5, 0, 0⟩, ⟨6, 1, 0⟩, ⟨7, 0, 0⟩] 5 (by kernel_rfl) (by kernel_rfl) (fun w h => h.pick [0, 1] (by kernel_rfl) (by kernel_rfl)) (by kernel_rfl) (by kernel_rfl) ?_
        obtain ⟨x_6, hx_80, h⟩ := bd h
        refine jd_v 3 0 (by kernel_rfl) (fun w h => h.pick [0, 1] (by kernel_rfl) (by kernel_rfl)) (by kernel_rfl) (by kernel_rfl) _ (fun w hm => idx_run (a := a0_fPins_a) (len := a0.fPins.length) (s := 3) (j := i_3) (by kernel_rfl) (ix_some hx_80).1 (ltn hx_80 rfl) (a0_fPins_h.sp hx_80)) ?_
        refine jd_v 4 0 (by kernel_rfl) (fun w h => h.pick [0, 1] (by kernel_rfl) (by kernel_rfl)) (by kernel_rfl) (by kernel_rfl) _ (fun w hm => ld_run (b := aB a0_fPins_a) (off := (aO a0_fPins_a + i_3.toNat * 3)) (s := 3) (agg := true) (vs := (encGWornPin x_6)) (by kernel_rfl) (by kernel_rfl) (.inl rfl) ((hm.exRow a0_fPins_h List.not_mem_nil).at hx_80)) ?_
        obtain ⟨x_7, hx_81, h⟩ := bd h
        refine jd_v 8 0 (by kernel_rfl) (fun w h => h.pick [0, 1] (by kernel_rfl) (by kernel_rfl)) (by kernel_rfl) (by kernel_rfl) _ (fun w hm => idx_run (a := b1_fPins_a) (len := b1.fPins.length) (s := 3) (j := i_3) (by kernel_rfl) (ix_some hx_81).1 (ltn hx_81 rfl) (b1_fPins_h.sp hx_81)) ?_
        refine jd_v 9 0 (by kernel_rfl) (fun w h => h.pick [0, 1] (by kernel_rfl) (by kernel_rfl)) (by kernel_rfl) (by kernel_rfl) _ (fun w hm => ld_run (b := aB b1_fPins_a) (off := (aO b1_fPins_a + i_3.toNat * 3)) (s := 3) (agg := true) (vs := (encGWornPin x_7)) (by kernel_rfl) (by kernel_rfl) (.inl rfl) ((hm.exRow b1_fPins_h List.not_mem_nil).at hx_81)) ?_
        refine jd_f [⟨10, 0, 0⟩] 0 (by kernel_rfl) (by kernel_rfl) (fun w h => h.pick [0, 1] (by kernel_rfl) (by kernel_rfl)) (by kernel_rfl) (by kernel_rfl) ?_
        refine jd_end (by kernel_rfl) ?_
        refine jx_then ?_
        refine jc_cond (!((x_6.fStep == x_7.fStep) && ((x_6.fTrack == x_7.fTrack) && (x_6.fTurns == x_7.fTurns)))) (by kernel_rfl) (fun hc_82 => ?_) (fun hc_82 => ?_)
        · replace h := ifT hc_82 h
          refine jc_seq ?_
          refine jc_region ?_
          refine jo_f [(0, 0)] (by kernel_rfl) ?_
          refine jo_end (by kernel_rfl) ?_
          refine jx_then ?_
          refine jc_ret ?_
          refine jx_inr ?_
          refine jx_thenr ?_
          refine jx_leaver (.inl false) (Option.some.inj h).symm (fun e_83 => ?_)
          subst e_83
          refine jx_inr ?_
          refine jx_thenr ?_
          refine jx_thenr ?_
          obtain rfl := Option.some.inj hr_76
          exact jx_ret [] (.bool false) [] rfl (by kernel_rfl) (by kernel_rfl) (fun w hm => ⟨rfl, hm.pick [] (by kernel_rfl) (by kernel_rfl)⟩)
        · replace h := ifF hc_82 h
          refine jc_skip ?_
          refine jx_inn ?_
          refine jx_then ?_
          refine jc_region ?_
          refine jo_f [(0, 0), (0, 0), (0, 0)] (by kernel_rfl) ?_
          refine jo_end (by kernel_rfl) ?_
          exact jx_back (w64 (i_3 + 1)) () (Option.some.inj h).symm trivial [0, 1] (by kernel_rfl) (by kernel_rfl) (by kernel_rfl)
      · replace h := ifF hc_79 h
        refine jc_exit ?_
        refine jx_thenx ?_
        refine jx_leave (.inr ()) (Option.some.inj h).symm (fun e_84 => ?_)
        subst e_84
        refine jx_ine ?_
        exact jx_meet () hr_76 (by kernel_rfl) [0, 1] (by kernel_rfl) (by kernel_rfl)
    · rintro _ h
      replace h : spec_SameWear.k_1 a0 b1 = some r := h
      rw [spec_SameWear.k_1] at h
      refine jx_then ?_
      refine jc_seq ?_
      refine jc_region ?_
      refine jo_f [(0, 0), (0, 0), (0, 0), (1, 0)] (by kernel_rfl) ?_
      obtain ⟨t_2, ht_65, h⟩ := bd h
      refine toO (by kernel_rfl) (p_call 0 48 #[(.slice a0_fStrokes_a a0.fStrokes.length a0_fStrokes_c), (.slice b1_fStrokes_a b1.fStrokes.length b1_fStrokes_c)] (by kernel_rfl) (by kernel_rfl) (fun w hm => spec_l00Same.calls a0.fStrokes b1.fStrokes w _ a0_fStrokes_a a0.fStrokes.length a0_fStrokes_c (hm.exRow a0_fStrokes_h List.not_mem_nil) rfl b1_fStrokes_a b1.fStrokes.length b1_fStrokes_c (hm.exRow b1_fStrokes_h List.not_mem_nil) rfl ht_65) ?_)
      rintro w v w' hm ⟨rfl, hm'⟩
      refine ⟨_, hm.app hm', jkO ?_⟩
      clear hm hm'
      refine jo_f [(0, 0)] (by kernel_rfl) ?_
      refine jo_end (by kernel_rfl) ?_
      refine jx_then ?_
      refine jc_ret ?_
      obtain rfl := Option.some.inj h
      exact jx_ret [] (.bool t_2) [] rfl (by kernel_rfl) (by kernel_rfl) (fun w hm => ⟨rfl, hm.pick [] (by kernel_rfl) (by kernel_rfl)⟩)

/-! ### slices.Equal[[]impl.WornPin,impl.WornPin] -/
noncomputable def slices_Equal_WornPin.k_1 : Option (Bool) := some true
noncomputable def slices_Equal_WornPin.l_3 (s10 : List GWornPin) (s21 : List GWornPin) : Int → Option ((Int) ⊕ (Bool ⊕ Unit))
  | i_2 => (if (decide (i_2 < (s10.length : Int))) = true then (ix s10 i_2).bind fun x_5 => (ix s21 i_2).bind fun x_6 => (if (!((x_5.fStep == x_6.fStep) && ((x_5.fTrack == x_6.fTrack) && (x_5.fTurns == x_6.fTurns)))) = true then some (.inr (.inl false)) else some (.inl (w64 (i_2 + 1)))) else some (.inr (.inr ())))
noncomputable def slices_Equal_WornPin (s10 : List GWornPin) (s21 : List GWornPin) : Option (Bool) := (if ((s10.length : Int) != (s21.length : Int)) = true then some false else (loop (slices_Equal_WornPin.l_3 s10 s21) 0).bind fun t_4 => match t_4 with | .inl p => some p | .inr p => slices_Equal_WornPin.k_1)
set_option maxRecDepth 100000 in
theorem slices_Equal_WornPin.calls (s10 : List GWornPin) (s21 : List GWornPin) (w : World) (r : Bool) (s10_a : Option Addr) (s10_an : Nat) (s10_c : Nat) (s10_h : Rw w s10_a 3 encGWornPin s10) (s10_hn : s10.length = s10_an) (s21_a : Option Addr) (s21_an : Nat) (s21_c : Nat) (s21_h : Rw w s21_a 3 encGWornPin s21) (s21_hn : s21.length = s21_an) (h : slices_Equal_WornPin s10 s21 = some r) :
    Calls Try.prog 49 #[(.slice s10_a s10_an s10_c), (.slice s21_a s21_an s21_c)] w fun e w' => ∃ v, e = .returned v ∧ (v = (.bool r) ∧ Mem w [] [] w') := by
  subst s10_hn s21_hn
  rw [slices_Equal_WornPin] at h
  refine enter (args := [(.slice s10_a s10.length s10_c), (.slice s21_a s21.length s21_c)]) Try.func49 rfl Try.ntmps49 (by kernel_rfl) (L := []) (W := []) (Mem.start w) ?_
  refine jc_seq ?_
  refine jc_region ?_
  refine jo_f [(0, 0)] (by kernel_rfl) ?_
  refine jo_end (by kernel_rfl) ?_
  refine jx_then ?_
  refine jc_seq ?_
  refine jc_seq ?_
  refine jc_region ?_
  refine jo_f [(0, 0), (0, 0), (0, 0), (0, 0), (0, 0)] (by kernel_rfl) ?_
  refine jo_end (by kernel_rfl) ?_
  refine jx_then ?_
  refine jc_cond ((s10.length : Int) != (s21.length : Int)) (by kernel_rfl) (fun hc_2 => ?_) (fun hc_2 => ?_)
  · replace h := ifT hc_2 h
    refine jc_seq ?_
    refine jc_region ?_
    refine jo_f [(0, 0)] (by kernel_rfl) ?_
    refine jo_end (by kernel_rfl) ?_
    refine jx_then ?_
    refine jc_ret ?_
    refine jx_thenr ?_
    obtain rfl := Option.some.inj h
    exact jx_ret [] (.bool false) [] rfl (by kernel_rfl) (by kernel_rfl) (fun w hm => ⟨rfl, hm.pick [] (by kernel_rfl) (by kernel_rfl)⟩)
  · replace h := ifF hc_2 h
    refine jc_skip ?_
    refine jx_then ?_
    refine jc_seq ?_
    refine jc_seq ?_
    refine jc_region ?_
    refine jo_f [(0, 0), (0, 0), (0, 0)] (by kernel_rfl) ?_
    refine jo_end (by kernel_rfl) ?_
    refine jx_then ?_
    refine jc_meet (fun (_ : Unit) => slices_Equal_WornPin.k_1 = some r) (fun (_ : Unit) => [(4, [], (.bool false))]) (fun (_ : Unit) => []) ?_ ?_
    · refine jc_block ?_
      obtain ⟨t_4, ht_42, hr_33⟩ := bd h
      refine jc_loop (fun (s : Int) (x : Unit) => match s, x with | i_2, _ => True) (fun (s : Int) (x : Unit) => match s, x with | i_2, _ => [(0, [], (.slice s10_a s10.length s10_c)), (1, [], (.slice s21_a s21.length s21_c)), (4, [], (.bool false)), (12, [], (.int .i64 (s10.length : Int))), (13, [], (.int .i64 i_2))]) (fun (s : Int) (x : Unit) => match s, x with | i_2, _ => []) ht_42 () trivial (by kernel_rfl) [] (by kernel_rfl) (by kernel_rfl) ?_
      rintro i_2 _ y_34 _ h
      rw [slices_Equal_WornPin.l_3] at h
      refine jc_seq ?_
      refine jc_region ?_
      refine jo_f [(0, 0)] (by kernel_rfl) ?_
      refine jo_end (by kernel_rfl) ?_
      refine jx_then ?_
      refine jc_seq ?_
      refine jc_cond (decide (i_2 < (s10.length : Int))) (by kernel_rfl) (fun hc_36 => ?_) (fun hc_36 => ?_)
      · replace h := ifT hc_36 h
        refine jc_skip ?_
        refine jx_then ?_
        refine jc_seq ?_
        refine jc_block ?_
        refine jc_seq ?_
        refine jc_region ?_
        refine jo_f [(0, 0), (0, 0)] (by kernel_rfl) ?_
        refine jo_end (by kernel_rfl) ?_
        refine jx_then ?_
        refine jc_seq ?_
        refine jc_draw [] 9 (by kernel_rfl) (by kernel_rfl) ?_
        refine jd_f [⟨0, 0, 0⟩, ⟨1, 0, 0⟩, ⟨4, 0, 0⟩, ⟨5, 0, 0⟩] 5 (by kernel_rfl) (by kernel_rfl) (fun w h => h.pick [] (by kernel_rfl) (by kernel_rfl)) (by kernel_rfl) (by kernel_rfl) ?_
        obtain ⟨x_5, hx_37, h⟩ := bd h
        refine jd_v 2 0 (by kernel_rfl) (fun w h => h.pick [] (by kernel_rfl) (by kernel_rfl)) (by kernel_rfl) (by kernel_rfl) _ (fun w hm => idx_run (a := s10_a) (len := s10.length) (s := 3) (j := i_2) (by kernel_rfl) (ix_some hx_37).1 (ltn hx_37 rfl) (s10_h.sp hx_37)) ?_
        refine jd_v 3 0 (by kernel_rfl) (fun w h => h.pick [] (by kernel_rfl) (by kernel_rfl)) (by kernel_rfl) (by kernel_rfl) _ (fun w hm => ld_run (b := aB s10_a) (off := (aO s10_a + i_2.toNat * 3)) (s := 3) (agg := true) (vs := (encGWornPin x_5)) (by kernel_rfl) (by kernel_rfl) (.inl rfl) ((hm.exRow s10_h List.not_mem_nil).at hx_37)) ?_
        obtain ⟨x_6, hx_38, h⟩ := bd h
        refine jd_v 6 0 (by kernel_rfl) (fun w h => h.pick [] (by kernel_rfl) (by kernel_rfl)) (by kernel_rfl) (by kernel_rfl) _ (fun w hm => idx_run (a := s21_a) (len := s21.length) (s := 3) (j := i_2) (by kernel_rfl) (ix_some hx_38).1 (ltn hx_38 rfl) (s21_h.sp hx_38)) ?_
        refine jd_v 7 0 (by kernel_rfl) (fun w h => h.pick [] (by kernel_rfl) (by kernel_rfl)) (by kernel_rfl) (by kernel_rfl) _ (fun w hm => ld_run (b := aB s21_a) (off := (aO s21_a + i_2.toNat * 3)) (s := 3) (agg := true) (vs := (encGWornPin x_6)) (by kernel_rfl) (by kernel_rfl) (.inl rfl) ((hm.exRow s21_h List.not_mem_nil).at hx_38)) ?_
        refine jd_f [⟨8, 0, 0⟩] 0 (by kernel_rfl) (by kernel_rfl) (fun w h => h.pick [] (by kernel_rfl) (by kernel_rfl)) (by kernel_rfl) (by kernel_rfl) ?_
        refine jd_end (by kernel_rfl) ?_
        refine jx_then ?_
        refine jc_cond (!((x_5.fStep == x_6.fStep) && ((x_5.fTrack == x_6.fTrack) && (x_5.fTurns == x_6.fTurns)))) (by kernel_rfl) (fun hc_39 => ?_) (fun hc_39 => ?_)
        · replace h := ifT hc_39 h
          refine jc_seq ?_
          refine jc_region ?_
          refine jo_f [(0, 0)] (by kernel_rfl) ?_
          refine jo_end (by kernel_rfl) ?_
          refine jx_then ?_
          refine jc_ret ?_
          refine jx_inr ?_
          refine jx_thenr ?_
          refine jx_leaver (.inl false) (Option.some.inj h).symm (fun e_40 => ?_)
          subst e_40
          refine jx_inr ?_
          refine jx_thenr ?_
          refine jx_thenr ?_
          obtain rfl := Option.some.inj hr_33
          exact jx_ret [] (.bool false) [] rfl (by kernel_rfl) (by kernel_rfl) (fun w hm => ⟨rfl, hm.pick [] (by kernel_rfl) (by kernel_rfl)⟩)
        · replace h := ifF hc_39 h
          refine jc_skip ?_
          refine jx_inn ?_
          refine jx_then ?_
          refine jc_region ?_
          refine jo_f [(0, 0), (0, 0)] (by kernel_rfl) ?_
          refine jo_end (by kernel_rfl) ?_
          exact jx_back (w64 (i_2 + 1)) () (Option.some.inj h).symm trivial [] (by kernel_rfl) (by kernel_rfl) (by kernel_rfl)
      · replace h := ifF hc_36 h
        refine jc_exit ?_
        refine jx_thenx ?_
        refine jx_leave (.inr ()) (Option.some.inj h).symm (fun e_41 => ?_)
        subst e_41
        refine jx_ine ?_
        exact jx_meet () hr_33 (by kernel_rfl) [] (by kernel_rfl) (by kernel_rfl)
    · rintro _ h
      replace h : slices_Equal_WornPin.k_1 = some r := h
      rw [slices_Equal_WornPin.k_1] at h
      refine jx_then ?_
      refine jc_seq ?_
      refine jc_region ?_
      refine jo_f [(0, 0)] (by kernel_rfl) ?_
      refine jo_end (by kernel_rfl) ?_
      refine jx_then ?_
      refine jc_ret ?_
      obtain rfl := Option.some.inj h
      exact jx_ret [] (.bool true) [] rfl (by kernel_rfl) (by kernel_rfl) (fun w hm => ⟨rfl, hm.pick [] (by kernel_rfl) (by kernel_rfl)⟩)

/-! ### slices.Equal[[]int64,int64] -/
noncomputable def slices_Equal_int64.k_1 : Option (Bool) := some true
noncomputable def slices_Equal_int64.l_3 (s10 : List Int) (s21 : List Int) : Int → Option ((Int) ⊕ (Bool ⊕ Unit))
  | i_2 => (if (decide (i_2 < (s10.length : Int))) = true then (ix s10 i_2).bind fun x_5 => (ix s21 i_2).bind fun x_6 => (if (x_5 != x_6) = true then some (.inr (.inl false)) else some (.inl (w64 (i_2 + 1)))) else some (.inr (.inr ())))
noncomputable def slices_Equal_int64 (s10 : List Int) (s21 : List Int) : Option (Bool) := (if ((s10.length : Int) != (s21.length : Int)) = true then some false else (loop (slices_Equal_int64.l_3 s10 s21) 0).bind fun t_4 => match t_4 with | .inl p => some p | .inr p => slices_Equal_int64.k_1)
set_option maxRecDepth 100000 in
theorem slices_Equal_int64.calls (s10 : List Int) (s21 : List Int) (w : World) (r : Bool) (s10_a : Option Addr) (s10_an : Nat) (s10_c : Nat) (s10_h : Rw w s10_a 1 encI64 s10) (s10_hn : s10.length = s10_an) (s21_a : Option Addr) (s21_an : Nat) (s21_c : Nat) (s21_h : Rw w s21_a 1 encI64 s21) (s21_hn : s21.length = s21_an) (h : slices_Equal_int64 s10 s21 = some r) :
    Calls Try.prog 50 #[(.slice s10_a s10_an s10_c), (.slice s21_a s21_an s21_c)] w fun e w' => ∃ v, e = .returned v ∧ (v = (.bool r) ∧ Mem w [] [] w') := by
  subst s10_hn s21_hn
  rw [slices_Equal_int64] at h
  refine enter (args := [(.slice s10_a s10.length s10_c), (.slice s21_a s21.length s21_c)]) Try.func50 rfl Try.ntmps50 (by kernel_rfl) (L := []) (W := []) (Mem.start w) ?_
  refine jc_seq ?_
  refine jc_region ?_
  refine jo_f [(0, 0)] (by kernel_rfl) ?_
  refine jo_end (by kernel_rfl) ?_
  refine jx_then ?_
  refine jc_seq ?_
  refine jc_seq ?_
  refine jc_region ?_
  refine jo_f [(0, 0), (0, 0), (0, 0), (0, 0), (0, 0)] (by kernel_rfl) ?_
  refine jo_end (by kernel_rfl) ?_
  refine jx_then ?_
  refine jc_cond ((s10.length : Int) != (s21.length : Int)) (by kernel_rfl) (fun hc_2 => ?_) (fun hc_2 => ?_)
  · replace h := ifT hc_2 h
    refine jc_seq ?_
    refine jc_region ?_
    refine jo_f [(0, 0)] (by kernel_rfl) ?_
    refine jo_end (by kernel_rfl) ?_
    refine jx_then ?_
    refine jc_ret ?_
    refine jx_thenr ?_
    obtain rfl := Option.some.inj h
    exact jx_ret [] (.bool false) [] rfl (by kernel_rfl) (by kernel_rfl) (fun w hm => ⟨rfl, hm.pick [] (by kernel_rfl) (by kernel_rfl)⟩)
  · replace h := ifF hc_2 h
    refine jc_skip ?_
    refine jx_then ?_
    refine jc_seq ?_
    refine jc_seq ?_
    refine jc_region ?_
    refine jo_f [(0, 0), (0, 0), (0, 0)] (by kernel_rfl) ?_
    refine jo_end (by kernel_rfl) ?_
    refine jx_then ?_
    refine jc_meet (fun (_ : Unit) => slices_Equal_int64.k_1 = some r) (fun (_ : Unit) => [(4, [], (.bool false))]) (fun (_ : Unit) => []) ?_ ?_
    · refine jc_block ?_
      obtain ⟨t_4, ht_42, hr_33⟩ := bd h
      refine jc_loop (fun (s : Int) (x : Unit) => match s, x with | i_2, _ => True) (fun (s : Int) (x : Unit) => match s, x with | i_2, _ => [(0, [], (.slice s10_a s10.length s10_c)), (1, [], (.slice s21_a s21.length s21_c)), (4, [], (.bool false)), (12, [], (.int .i64 (s10.length : Int))), (13, [], (.int .i64 i_2))]) (fun (s : Int) (x : Unit) => match s, x with | i_2, _ => []) ht_42 () trivial (by kernel_rfl) [] (by kernel_rfl) (by kernel_rfl) ?_
      rintro i_2 _ y_34 _ h
      rw [slices_Equal_int64.l_3] at h
      refine jc_seq ?_
      refine jc_region ?_
      refine jo_f [(0, 0)] (by kernel_rfl) ?_
      refine jo_end (by kernel_rfl) ?_
      refine jx_then ?_
      refine jc_seq ?_
      refine jc_cond (decide (i_2 < (s10.length : Int))) (by kernel_rfl) (fun hc_36 => ?_) (fun hc_36 => ?_)
      · replace h := ifT hc_36 h
        refine jc_skip ?_
        refine jx_then ?_
        refine jc_seq ?_
        refine jc_block ?_
        refine jc_seq ?_
        refine jc_region ?_
        refine jo_f [(0, 0), (0, 0)] (by kernel_rfl) ?_
        refine jo_end (by kernel_rfl) ?_
        refine jx_then ?_
        refine jc_seq ?_
        refine jc_draw [] 9 (by kernel_rfl) (by kernel_rfl) ?_
        refine jd_f [⟨0, 0, 0⟩, ⟨1, 0, 0⟩, ⟨4, 0, 0⟩, ⟨5, 0, 0⟩] 5 (by kernel_rfl) (by kernel_rfl) (fun w h => h.pick [] (by kernel_rfl) (by kernel_rfl)) (by kernel_rfl) (by kernel_rfl) ?_
        obtain ⟨x_5, hx_37, h⟩ := bd h
        refine jd_v 2 0 (by kernel_rfl) (fun w h => h.pick [] (by kernel_rfl) (by kernel_rfl)) (by kernel_rfl) (by kernel_rfl) _ (fun w hm => idx_run (a := s10_a) (len := s10.length) (s := 1) (j := i_2) (by kernel_rfl) (ix_some hx_37).1 (ltn hx_37 rfl) (s10_h.sp hx_37)) ?_
        refine jd_v 3 0 (by kernel_rfl) (fun w h => h.pick [] (by kernel_rfl) (by kernel_rfl)) (by kernel_rfl) (by kernel_rfl) _ (fun w hm => ld_run (b := aB s10_a) (off := (aO s10_a + i_2.toNat * 1)) (s := 1) (agg := false) (vs := (encI64 x_5)) (by kernel_rfl) (by kernel_rfl) (.inr rfl) ((hm.exRow s10_h List.not_mem_nil).at hx_37)) ?_
        obtain ⟨x_6, hx_38, h⟩ := bd h
        refine jd_v 6 0 (by kernel_rfl) (fun w h => h.pick [] (by kernel_rfl) (by kernel_rfl)) (by kernel_rfl) (by kernel_rfl) _ (fun w hm => idx_run (a := s21_a) (len := s21.length) (s := 1) (j := i_2) (by kernel_rfl) (ix_some hx_38).1 (ltn hx_38 rfl) (s21_h.sp hx_38)) ?_
        refine jd_v 7 0 (by kernel_rfl) (fun w h => h.pick [] (by kernel_rfl) (by kernel_rfl)) (by kernel_rfl) (by kernel_rfl) _ (fun w hm => ld_run (b := aB s21_a) (off := (aO s21_a + i_2.toNat * 1)) (s := 1) (agg := false) (vs := (encI64 x_6)) (by kernel_rfl) (by kernel_rfl) (.inr rfl) ((hm.exRow s21_h List.not_mem_nil).at hx_38)) ?_
        refine jd_f [⟨8, 0, 0⟩] 0 (by kernel_rfl) (by kernel_rfl) (fun w h => h.pick [] (by kernel_rfl) (by kernel_rfl)) (by kernel_rfl) (by kernel_rfl) ?_
        refine jd_end (by kernel_rfl) ?_
        refine jx_then ?_
        refine jc_cond (x_5 != x_6) (by kernel_rfl) (fun hc_39 => ?_) (fun hc_39 => ?_)
        · replace h := ifT hc_39 h
          refine jc_seq ?_
          refine jc_region ?_
          refine jo_f [(0, 0)] (by kernel_rfl) ?_
          refine jo_end (by kernel_rfl) ?_
          refine jx_then ?_
          refine jc_ret ?_
          refine jx_inr ?_
          refine jx_thenr ?_
          refine jx_leaver (.inl false) (Option.some.inj h).symm (fun e_40 => ?_)
          subst e_40
          refine jx_inr ?_
          refine jx_thenr ?_
          refine jx_thenr ?_
          obtain rfl := Option.some.inj hr_33
          exact jx_ret [] (.bool false) [] rfl (by kernel_rfl) (by kernel_rfl) (fun w hm => ⟨rfl, hm.pick [] (by kernel_rfl) (by kernel_rfl)⟩)
        · replace h := ifF hc_39 h
          refine jc_skip ?_
          refine jx_inn ?_
          refine jx_then ?_
          refine jc_region ?_
          refine jo_f [(0, 0), (0, 0)] (by kernel_rfl) ?_
          refine jo_end (by kernel_rfl) ?_
          exact jx_back (w64 (i_2 + 1)) () (Option.some.inj h).symm trivial [] (by kernel_rfl) (by kernel_rfl) (by kernel_rfl)
      · replace h := ifF hc_36 h
        refine jc_exit ?_
        refine jx_thenx ?_
        refine jx_leave (.inr ()) (Option.some.inj h).symm (fun e_41 => ?_)
        subst e_41
        refine jx_ine ?_
        exact jx_meet () hr_33 (by kernel_rfl) [] (by kernel_rfl) (by kernel_rfl)
    · rintro _ h
      replace h : slices_Equal_int64.k_1 = some r := h
      rw [slices_Equal_int64.k_1] at h
      refine jx_then ?_
      refine jc_seq ?_
      refine jc_region ?_
      refine jo_f [(0, 0)] (by kernel_rfl) ?_
      refine jo_end (by kernel_rfl) ?_
      refine jx_then ?_
      refine jc_ret ?_
      obtain rfl := Option.some.inj h
      exact jx_ret [] (.bool true) [] rfl (by kernel_rfl) (by kernel_rfl) (fun w hm => ⟨rfl, hm.pick [] (by kernel_rfl) (by kernel_rfl)⟩)

/-! ### impl.SameWear -/
noncomputable def impl_SameWear (a0 : GWear) (b1 : GWear) : Option (Bool) := (slices_Equal_WornPin a0.fPins b1.fPins).bind fun t_1 => (if t_1 = true then (slices_Equal_int64 a0.fStrokes b1.fStrokes).bind fun t_2 => some t_2 else some false)
set_option maxRecDepth 100000 in
theorem impl_SameWear.calls (a0 : GWear) (b1 : GWear) (w : World) (r : Bool) (a0_fPins_a : Option Addr) (a0_fPins_an : Nat) (a0_fPins_c : Nat) (a0_fPins_h : Rw w a0_fPins_a 3 encGWornPin a0.fPins) (a0_fPins_hn : a0.fPins.length = a0_fPins_an) (a0_fStrokes_a : Option Addr) (a0_fStrokes_an : Nat) (a0_fStrokes_c : Nat) (a0_fStrokes_h : Rw w a0_fStrokes_a 1 encI64 a0.fStrokes) (a0_fStrokes_hn : a0.fStrokes.length = a0_fStrokes_an) (b1_fPins_a : Option Addr) (b1_fPins_an : Nat) (b1_fPins_c : Nat) (b1_fPins_h : Rw w b1_fPins_a 3 encGWornPin b1.fPins) (b1_fPins_hn : b1.fPins.length = b1_fPins_an) (b1_fStrokes_a : Option Addr) (b1_fStrokes_an : Nat) (b1_fStrokes_c : Nat) (b1_fStrokes_h : Rw w b1_fStrokes_a 1 encI64 b1.fStrokes) (b1_fStrokes_hn : b1.fStrokes.length = b1_fStrokes_an) (h : impl_SameWear a0 b1 = some r) :
    Calls Try.prog 19 #[(.agg #[(.slice a0_fPins_a a0_fPins_an a0_fPins_c), (.slice a0_fStrokes_a a0_fStrokes_an a0_fStrokes_c)]), (.agg #[(.slice b1_fPins_a b1_fPins_an b1_fPins_c), (.slice b1_fStrokes_a b1_fStrokes_an b1_fStrokes_c)])] w fun e w' => ∃ v, e = .returned v ∧ (v = (.bool r) ∧ Mem w [] [] w') := by
  subst a0_fPins_hn a0_fStrokes_hn b1_fPins_hn b1_fStrokes_hn
  rw [impl_SameWear] at h
  refine enter (args := [(.agg #[(.slice a0_fPins_a a0.fPins.length a0_fPins_c), (.slice a0_fStrokes_a a0.fStrokes.length a0_fStrokes_c)]), (.agg #[(.slice b1_fPins_a b1.fPins.length b1_fPins_c), (.slice b1_fStrokes_a b1.fStrokes.length b1_fStrokes_c)])]) Try.func19 rfl Try.ntmps19 (by kernel_rfl) (L := []) (W := []) (Mem.start w) ?_
  refine jc_seq ?_
  refine jc_region ?_
  refine toO (by kernel_rfl) (p_a 0 [0] (by kernel_rfl) (fun b => by kernel_rfl) (fun b_1 => jkO ?_))
  refine toO (by kernel_rfl) (p_a 0 [0] (by kernel_rfl) (fun b => by kernel_rfl) (fun b_2 => jkO ?_))
  refine jo_f [(0, 0)] (by kernel_rfl) ?_
  refine jo_end (by kernel_rfl) ?_
  refine jx_then ?_
  refine jc_seq ?_
  refine jc_region ?_
  refine jo_f [(0, 0), (0, 0), (0, 0), (1, 0)] (by kernel_rfl) ?_
  obtain ⟨t_1, ht_3, h⟩ := bd h
  refine toO (by kernel_rfl) (p_call 0 49 #[(.slice a0_fPins_a a0.fPins.length a0_fPins_c), (.slice b1_fPins_a b1.fPins.length b1_fPins_c)] (by kernel_rfl) (by kernel_rfl) (fun w hm => slices_Equal_WornPin.calls a0.fPins b1.fPins w _ a0_fPins_a a0.fPins.length a0_fPins_c (hm.exRow a0_fPins_h List.not_mem_nil) rfl b1_fPins_a b1.fPins.length b1_fPins_c (hm.exRow b1_fPins_h List.not_mem_nil) rfl ht_3) ?_)
  rintro w v w' hm ⟨rfl, hm'⟩
  refine ⟨_, hm.app hm', jkO ?_⟩
  clear hm hm'
  refine jo_f [(0, 0), (0, 1), (0, 1), (0, 1), (1, 1)] (by kernel_rfl) ?_
  refine jo_split 10 t_1 (by kernel_rfl) (fun hc_4 => ?_) (fun hc_4 => ?_)
  · replace h := ifT hc_4 h
    obtain ⟨t_2, ht_5, h⟩ := bd h
    refine toO (by kernel_rfl) (p_call 2 50 #[(.slice a0_fStrokes_a a0.fStrokes.length a0_fStrokes_c), (.slice b1_fStrokes_a b1.fStrokes.length b1_fStrokes_c)] (by kernel_rfl) (by kernel_rfl) (fun w hm => slices_Equal_int64.calls a0.fStrokes b1.fStrokes w _ a0_fStrokes_a a0.fStrokes.length a0_fStrokes_c (hm.exRow a0_fStrokes_h List.not_mem_nil) rfl b1_fStrokes_a b1.fStrokes.length b1_fStrokes_c (hm.exRow b1_fStrokes_h List.not_mem_nil) rfl ht_5) ?_)
    rintro w v w' hm ⟨rfl, hm'⟩
    refine ⟨_, hm.app hm', jkO ?_⟩
    clear hm hm'
    refine jo_f [(0, 4), (0, 0)] (by kernel_rfl) ?_
    refine jo_end (by kernel_rfl) ?_
    refine jx_then ?_
    refine jc_ret ?_
    obtain rfl := Option.some.inj h
    exact jx_ret [] (.bool t_2) [] rfl (by kernel_rfl) (by kernel_rfl) (fun w hm => ⟨rfl, hm.pick [] (by kernel_rfl) (by kernel_rfl)⟩)
  · replace h := ifF hc_4 h
    refine jo_f [(0, 3), (0, 5), (0, 0)] (by kernel_rfl) ?_
    refine jo_end (by kernel_rfl) ?_
    refine jx_then ?_
    refine jc_ret ?_
    obtain rfl := Option.some.inj h
    exact jx_ret [] (.bool false) [] rfl (by kernel_rfl) (by kernel_rfl) (fun w hm => ⟨rfl, hm.pick [] (by kernel_rfl) (by kernel_rfl)⟩)

/-! ### impl.WornOut -/
noncomputable def impl_WornOut.k_5 (xs_3 : List GWornPin) (xs_4 : List Int) : Option ((List GWornPin) × (List Int) × Int) := some (xs_3, xs_4, 0)
noncomputable def impl_WornOut.k_14 (i_8 : Int) (xs_12 : List GWornPin) (xs_13 : List Int) : Option (((List GWornPin) × (List Int) × Int) ⊕ (((List GWornPin) × (List Int)))) := some (.inl (xs_12, xs_13, (w64 (i_8 + 1))))
noncomputable def impl_WornOut.l_9 (t_2 : (List Gpart)) : ((List GWornPin) × (List Int) × Int) → Option (((List GWornPin) × (List Int) × Int) ⊕ (((List GWornPin) × (List Int))))
  | (xs_6, xs_7, i_8) => (if (decide (i_8 < (t_2.length : Int))) = true then (ix t_2 i_8).bind fun x_11 => (impl_part_isWorn x_11).bind fun t_15 => (if (!t_15) = true then impl_WornOut.k_14 i_8 xs_6 xs_7 else (if (decide (x_11.fstep < 0)) = true then (if xs_7.length + [x_11.ftrack].length ≤ 4294967296 then impl_WornOut.k_14 i_8 xs_6 (xs_7 ++ [x_11.ftrack]) else none) else (if xs_6.length + [(⟨(w8 x_11.fstep), (w8 x_11.ftrack), x_11.fmade⟩ : GWornPin)].length ≤ 4294967296 then impl_WornOut.k_14 i_8 (xs_6 ++ [(⟨(w8 x_11.fstep), (w8 x_11.ftrack), x_11.fmade⟩ : GWornPin)]) xs_7 else none))) else some (.inr (xs_6, xs_7)))
noncomputable def impl_WornOut (f0 : GFrame) (w1 : GWear) (v2 : GLives) : Option ((List GWornPin) × (List Int) × Int) := (impl_wearCode f0 w1 [v2]).bind fun t_1 => (if (t_1 != 0) = true then some ([], [], t_1) else (impl_Wear_parts w1 f0 v2).bind fun t_2 => (loop (impl_WornOut.l_9 t_2) (([] : List GWornPin), ([] : List Int), 0)).bind fun t_10 => impl_WornOut.k_5 t_10.1 t_10.2)
set_option maxRecDepth 100000 in
theorem impl_WornOut.calls (f0 : GFrame) (w1 : GWear) (v2 : GLives) (w : World) (r : (List GWornPin) × (List Int) × Int) (f0_fHammers_a : Option Addr) (f0_fHammers_an : Nat) (f0_fHammers_c : Nat) (f0_fHammers_h : Rw w f0_fHammers_a 2 encGHammer f0.fHammers) (f0_fHammers_hn : f0.fHammers.length = f0_fHammers_an) (w1_fPins_a : Option Addr) (w1_fPins_an : Nat) (w1_fPins_c : Nat) (w1_fPins_h : Rw w w1_fPins_a 3 encGWornPin w1.fPins) (w1_fPins_hn : w1.fPins.length = w1_fPins_an) (w1_fStrokes_a : Option Addr) (w1_fStrokes_an : Nat) (w1_fStrokes_c : Nat) (w1_fStrokes_h : Rw w w1_fStrokes_a 1 encI64 w1.fStrokes) (w1_fStrokes_hn : w1.fStrokes.length = w1_fStrokes_an) (h : impl_WornOut f0 w1 v2 = some r) :
    Calls Try.prog 22 #[(.agg #[(.int .i16 f0.fSteps), (.slice f0_fHammers_a f0_fHammers_an f0_fHammers_c)]), (.agg #[(.slice w1_fPins_a w1_fPins_an w1_fPins_c), (.slice w1_fStrokes_a w1_fStrokes_an w1_fStrokes_c)]), (.agg #[(.int .i64 v2.fPin), (.int .i64 v2.fHammer)])] w fun e w' => ∃ v, e = .returned v ∧ (∃ (o0 : Option Nat) (c0 : Nat) (s0 : List Value) (n0 : Nat), r.1.length = n0 ∧ (o0 ≠ none → n0 ≤ c0 ∧ s0.length = (c0 - n0) * 3) ∧ (o0 = none → r.1 = [] ∧ c0 = 0) ∧ ∃ (o1 : Option Nat) (c1 : Nat) (s1 : List Value) (n1 : Nat), r.2.1.length = n1 ∧ (o1 ≠ none → n1 ≤ c1 ∧ s1.length = (c1 - n1) * 1) ∧ (o1 = none → r.2.1 = [] ∧ c1 = 0) ∧ v = .tuple #[.slice (o0.map fun b => ⟨b, 0, none⟩) n0 c0, .slice (o1.map fun b => ⟨b, 0, none⟩) n1 c1, (.int .i64 r.2.2)] ∧ Mem w [] [⟨o0, 58, row encGWornPin r.1 s0⟩, ⟨o1, 2, row encI64 r.2.1 s1⟩] w') := by
  subst f0_fHammers_hn w1_fPins_hn w1_fStrokes_hn
  rw [impl_WornOut] at h
  refine enter (args := [(.agg #[(.int .i16 f0.fSteps), (.slice f0_fHammers_a f0.fHammers.length f0_fHammers_c)]), (.agg #[(.slice w1_fPins_a w1.fPins.length w1_fPins_c), (.slice w1_fStrokes_a w1.fStrokes.length w1_fStrokes_c)]), (.agg #[(.int .i64 v2.fPin), (.int .i64 v2.fHammer)])]) Try.func22 rfl Try.ntmps22 (by kernel_rfl) (L := []) (W := []) (Mem.start w) ?_
  refine jc_seq ?_
  refine jc_region ?_
  refine toO (by kernel_rfl) (p_a 0 [0] (by kernel_rfl) (fun b => by kernel_rfl) (fun b_1 => jkO ?_))
  refine toO (by kernel_rfl) (p_a 0 [0] (by kernel_rfl) (fun b => by kernel_rfl) (fun b_2 => jkO ?_))
  refine toO (by kernel_rfl) (p_a 0 [0] (by kernel_rfl) (fun b => by kernel_rfl) (fun b_3 => jkO ?_))
  refine jo_f [(0, 0), (0, 0), (0, 0)] (by kernel_rfl) ?_
  refine jo_end (by kernel_rfl) ?_
  refine jx_then ?_
  refine jc_seq ?_
  refine jc_seq ?_
  refine jc_region ?_
  refine jo_f [(0, 0), (1, 0), (2, 0)] (by kernel_rfl) ?_
  refine toO (by kernel_rfl) (p_a 0 [0] (by kernel_rfl) (fun b => by kernel_rfl) (fun b_7 => jkO ?_))
  obtain ⟨t_1, ht_8, h⟩ := bd h
  refine toO (by kernel_rfl) (p_call 0 28 #[(.agg #[(.int .i16 f0.fSteps), (.slice f0_fHammers_a f0.fHammers.length f0_fHammers_c)]), (.agg #[(.slice w1_fPins_a w1.fPins.length w1_fPins_c), (.slice w1_fStrokes_a w1.fStrokes.length w1_fStrokes_c)]), (.slice (some ⟨b_7, 0, none⟩) 1 1)] (by kernel_rfl) (by kernel_rfl) (fun w hm => impl_wearCode.calls f0 w1 [v2] w _ f0_fHammers_a f0.fHammers.length f0_fHammers_c (hm.exRow f0_fHammers_h List.not_mem_nil) rfl w1_fPins_a w1.fPins.length w1_fPins_c (hm.exRow w1_fPins_h List.not_mem_nil) rfl w1_fStrokes_a w1.fStrokes.length w1_fStrokes_c (hm.exRow w1_fStrokes_h List.not_mem_nil) rfl (some ⟨b_7, 0, none⟩) 1 1 (hm.ownRow (hh := 3) (o := (some b_7)) (T := 35) (enc := encGLives) (xs := [v2]) (sp := []) (by kernel_rfl) (fun e => nomatch e) encGLives_len) rfl ht_8) ?_)
  rintro w v w' hm ⟨rfl, hm'⟩
  refine ⟨_, hm.app hm', jkO ?_⟩
  clear hm hm'
  refine jo_f [(0, 0)] (by kernel_rfl) ?_
  refine jo_end (by kernel_rfl) ?_
  refine jx_then ?_
  refine jc_seq ?_
  refine jc_region ?_
  refine jo_f [(0, 0), (0, 0)] (by kernel_rfl) ?_
  refine jo_end (by kernel_rfl) ?_
  refine jx_then ?_
  refine jc_cond (t_1 != 0) (by kernel_rfl) (fun hc_9 => ?_) (fun hc_9 => ?_)
  · replace h := ifT hc_9 h
    refine jc_seq ?_
    refine jc_region ?_
    refine jo_f [(0, 0), (0, 0), (0, 0), (0, 0)] (by kernel_rfl) ?_
    refine jo_end (by kernel_rfl) ?_
    refine jx_then ?_
    refine jc_ret ?_
    refine jx_thenr ?_
    obtain rfl := Option.some.inj h
    refine jx_ghost 58 encGWornPin ?_
    refine jx_ghost 2 encI64 ?_
    exact jx_ret [] (.tuple #[(.slice none 0 0), (.slice none 0 0), (.int .i64 t_1)]) [] rfl (by kernel_rfl) (by kernel_rfl) (fun w hm => ⟨none, 0, [], 0, rfl, (fun e => absurd rfl e), (fun _ => ⟨rfl, rfl⟩), none, 0, [], 0, rfl, (fun e => absurd rfl e), (fun _ => ⟨rfl, rfl⟩), rfl, hm.pick [4, 5] (by kernel_rfl) (by kernel_rfl)⟩)
  · replace h := ifF hc_9 h
    refine jc_skip ?_
    refine jx_then ?_
    refine jc_seq ?_
    refine jc_region ?_
    refine toO (by kernel_rfl) (p_a 0 [0] (by kernel_rfl) (fun b => by kernel_rfl) (fun b_10 => jkO ?_))
    refine toO (by kernel_rfl) (p_a 0 [0] (by kernel_rfl) (fun b => by kernel_rfl) (fun b_11 => jkO ?_))
    refine jo_f [(0, 0), (0, 0)] (by kernel_rfl) ?_
    refine jo_end (by kernel_rfl) ?_
    refine jx_then ?_
    refine jc_seq ?_
    refine jc_seq ?_
    refine jc_region ?_
    refine jo_f [(1, 0), (0, 0), (2, 0)] (by kernel_rfl) ?_
    obtain ⟨t_2, ht_386, h⟩ := bd h
    refine toO (by kernel_rfl) (p_call 0 57 #[(.agg #[(.slice w1_fPins_a w1.fPins.length w1_fPins_c), (.slice w1_fStrokes_a w1.fStrokes.length w1_fStrokes_c)]), (.agg #[(.int .i16 f0.fSteps), (.slice f0_fHammers_a f0.fHammers.length f0_fHammers_c)]), (.agg #[(.int .i64 v2.fPin), (.int .i64 v2.fHammer)])] (by kernel_rfl) (by kernel_rfl) (fun w hm => impl_Wear_parts.calls w1 f0 v2 w _ w1_fPins_a w1.fPins.length w1_fPins_c (hm.exRow w1_fPins_h List.not_mem_nil) rfl w1_fStrokes_a w1.fStrokes.length w1_fStrokes_c (hm.exRow w1_fStrokes_h List.not_mem_nil) rfl f0_fHammers_a f0.fHammers.length f0_fHammers_c (hm.exRow f0_fHammers_h List.not_mem_nil) rfl ht_386) ?_)
    rintro w v w' hm ⟨o_387, cap_388, sp_389, _, rfl, hs_390, ho_391, rfl, hm'⟩
    refine ⟨_, hm.app hm', jkO ?_⟩
    clear hm hm'
    refine jo_f [(0, 0), (0, 0)] (by kernel_rfl) ?_
    refine jo_end (by kernel_rfl) ?_
    refine jx_then ?_
    refine jc_meet (fun (j : (List GWornPin) × (List Int) × (Option Nat) × Nat × (List Value) × Nat × (Option Nat) × Nat × (List Value) × Nat) => match j with | ⟨xs_3, xs_4, o_570, cap_571, sp_572, n_573, o_576, cap_577, sp_578, n_579⟩ => impl_WornOut.k_5 xs_3 xs_4 = some r ∧ (xs_3.length = n_573) ∧ ((o_570 ≠ none → n_573 ≤ cap_571 ∧ sp_572.length = (cap_571 - n_573) * 3)) ∧ ((o_570 = none → xs_3 = [] ∧ cap_571 = 0)) ∧ (xs_4.length = n_579) ∧ ((o_576 ≠ none → n_579 ≤ cap_577 ∧ sp_578.length = (cap_577 - n_579) * 1)) ∧ ((o_576 = none → xs_4 = [] ∧ cap_577 = 0))) (fun (j : (List GWornPin) × (List Int) × (Option Nat) × Nat × (List Value) × Nat × (Option Nat) × Nat × (List Value) × Nat) => match j with | ⟨xs_3, xs_4, o_570, cap_571, sp_572, n_573, o_576, cap_577, sp_578, n_579⟩ => [(6, [], (.slice none 0 0)), (7, [], (.slice none 0 0)), (8, [], (.int .i64 0)), (10, [], (.slice (o_570.map fun b => ⟨b, 0, none⟩) n_573 cap_571)), (11, [], (.slice (o_576.map fun b => ⟨b, 0, none⟩) n_579 cap_577))]) (fun (j : (List GWornPin) × (List Int) × (Option Nat) × Nat × (List Value) × Nat × (Option Nat) × Nat × (List Value) × Nat) => match j with | ⟨xs_3, xs_4, o_570, cap_571, sp_572, n_573, o_576, cap_577, sp_578, n_579⟩ => [⟨some b_1, 27, [(.int .i16 f0.fSteps), (.slice f0_fHammers_a f0.fHammers.length f0_fHammers_c)]⟩, ⟨some b_2, 32, [(.slice w1_fPins_a w1.fPins.length w1_fPins_c), (.slice w1_fStrokes_a w1.fStrokes.length w1_fStrokes_c)]⟩, ⟨some b_3, 35, [(.int .i64 v2.fPin), (.int .i64 v2.fHammer)]⟩, ⟨(some b_7), 35, row encGLives [v2] []⟩, ⟨o_570, 58, row encGWornPin xs_3 sp_572⟩, ⟨o_576, 2, row encI64 xs_4 sp_578⟩, ⟨o_387, 83, row encGpart t_2 sp_389⟩]) ?_ ?_
    · refine jc_block ?_
      obtain ⟨t_10, ht_759, hr_706⟩ := bd h
      refine jc_loop (fun (s : (List GWornPin) × (List Int) × Int) (x : (Option Nat) × Nat × (List Value) × Nat × (Option Nat) × Nat × (List Value) × Nat) => match s, x with | ⟨xs_6, xs_7, i_8⟩, ⟨o_694, cap_695, sp_696, n_697, o_700, cap_701, sp_702, n_703⟩ => (xs_6.length = n_697) ∧ ((o_694 ≠ none → n_697 ≤ cap_695 ∧ sp_696.length = (cap_695 - n_697) * 3)) ∧ ((o_694 = none → xs_6 = [] ∧ cap_695 = 0)) ∧ (xs_7.length = n_703) ∧ ((o_700 ≠ none → n_703 ≤ cap_701 ∧ sp_702.length = (cap_701 - n_703) * 1)) ∧ ((o_700 = none → xs_7 = [] ∧ cap_701 = 0))) (fun (s : (List GWornPin) × (List Int) × Int) (x : (Option Nat) × Nat × (List Value) × Nat × (Option Nat) × Nat × (List Value) × Nat) => match s, x with | ⟨xs_6, xs_7, i_8⟩, ⟨o_694, cap_695, sp_696, n_697, o_700, cap_701, sp_702, n_703⟩ => [(6, [], (.slice none 0 0)), (7, [], (.slice none 0 0)), (8, [], (.int .i64 0)), (10, [], (.slice (o_694.map fun b => ⟨b, 0, none⟩) n_697 cap_695)), (11, [], (.slice (o_700.map fun b => ⟨b, 0, none⟩) n_703 cap_701)), (27, [], (.slice (o_387.map fun b => ⟨b, 0, none⟩) t_2.length cap_388)), (28, [], (.int .i64 (t_2.length : Int))), (29, [], (.int .i64 i_8))]) (fun (s : (List GWornPin) × (List Int) × Int) (x : (Option Nat) × Nat × (List Value) × Nat × (Option Nat) × Nat × (List Value) × Nat) => match s, x with | ⟨xs_6, xs_7, i_8⟩, ⟨o_694, cap_695, sp_696, n_697, o_700, cap_701, sp_702, n_703⟩ => [⟨some b_1, 27, [(.int .i16 f0.fSteps), (.slice f0_fHammers_a f0.fHammers.length f0_fHammers_c)]⟩, ⟨some b_2, 32, [(.slice w1_fPins_a w1.fPins.length w1_fPins_c), (.slice w1_fStrokes_a w1.fStrokes.length w1_fStrokes_c)]⟩, ⟨some b_3, 35, [(.int .i64 v2.fPin), (.int .i64 v2.fHammer)]⟩, ⟨(some b_7), 35, row encGLives [v2] []⟩, ⟨o_694, 58, row encGWornPin xs_6 sp_696⟩, ⟨o_700, 2, row encI64 xs_7 sp_702⟩, ⟨o_387, 83, row encGpart t_2 sp_389⟩]) ht_759 ⟨(some b_10), 0, [], 0, (some b_11), 0, [], 0⟩ ⟨rfl, (fun _ => ⟨Nat.le_refl _, by simp⟩), (fun e => nomatch e), rfl, (fun _ => ⟨Nat.le_refl _, by simp⟩), (fun e => nomatch e)⟩ (by kernel_rfl) [0, 1, 2, 3, 4, 5, 6] (by kernel_rfl) (by kernel_rfl) ?_
      rintro ⟨xs_6, xs_7, i_8⟩ ⟨o_694, cap_695, sp_696, n_697, o_700, cap_701, sp_702, n_703⟩ y_707 ⟨rfl, hs_698, ho_699, rfl, hs_704, ho_705⟩ h
      rw [impl_WornOut.l_9] at h
      refine jc_seq ?_
      refine jc_region ?_
      refine jo_f [(0, 0)] (by kernel_rfl) ?_
      refine jo_end (by kernel_rfl) ?_
      refine jx_then ?_
      refine jc_seq ?_
      refine jc_cond (decide (i_8 < (t_2.length : Int))) (by kernel_rfl) (fun hc_709 => ?_) (fun hc_709 => ?_)
      · replace h := ifT hc_709 h
        refine jc_skip ?_
        refine jx_then ?_
        refine jc_seq ?_
        refine jc_block ?_
        refine jc_seq ?_
        refine jc_region ?_
        obtain ⟨x_11, hx_710, h⟩ := bd h
        refine toO (by kernel_rfl) (p_idx 0 (o_387.map fun b => ⟨b, 0, none⟩) t_2.length i_8 5 (by kernel_rfl) (by kernel_rfl) (ix_some hx_710).1 (ltn hx_710 rfl) (spo ho_391 hx_710) (jkO ?_))
        refine toO (by kernel_rfl) (p_ld 0 (aB (o_387.map fun b => ⟨b, 0, none⟩)) (aO (o_387.map fun b => ⟨b, 0, none⟩) + i_8.toNat * 5) true (encGpart x_11) (by kernel_rfl) (by kernel_rfl) (by kernel_rfl) (fun w hm => ((hm.ownRow (hh := 6) (o := o_387) (T := 83) (enc := encGpart) (xs := t_2) (sp := sp_389) (by kernel_rfl) (fun e => (ho_391 e).1) encGpart_len).at hx_710)) (jkO ?_))
        refine toO (by kernel_rfl) (p_a 0 [0] (by kernel_rfl) (fun b => by kernel_rfl) (fun b_711 => jkO ?_))
        refine toO (by kernel_rfl) (p_s 0 [7] (by kernel_rfl) (by kernel_rfl) (jkO ?_))
        refine jo_end (by kernel_rfl) ?_
        refine jx_then ?_
        refine jc_meet (fun (j : (List GWornPin) × (List Int) × (Option Nat) × Nat × (List Value) × Nat × (Option Nat) × Nat × (List Value) × Nat) => match j with | ⟨xs_12, xs_13, o_729, cap_730, sp_731, n_732, o_735, cap_736, sp_737, n_738⟩ => impl_WornOut.k_14 i_8 xs_12 xs_13 = some y_707 ∧ (xs_12.length = n_732) ∧ ((o_729 ≠ none → n_732 ≤ cap_730 ∧ sp_731.length = (cap_730 - n_732) * 3)) ∧ ((o_729 = none → xs_12 = [] ∧ cap_730 = 0)) ∧ (xs_13.length = n_738) ∧ ((o_735 ≠ none → n_738 ≤ cap_736 ∧ sp_737.length = (cap_736 - n_738) * 1)) ∧ ((o_735 = none → xs_13 = [] ∧ cap_736 = 0))) (fun (j : (List GWornPin) × (List Int) × (Option Nat) × Nat × (List Value) × Nat × (Option Nat) × Nat × (List Value) × Nat) => match j with | ⟨xs_12, xs_13, o_729, cap_730, sp_731, n_732, o_735, cap_736, sp_737, n_738⟩ => [(6, [], (.slice none 0 0)), (7, [], (.slice none 0 0)), (8, [], (.int .i64 0)), (10, [], (.slice (o_729.map fun b => ⟨b, 0, none⟩) n_732 cap_730)), (11, [], (.slice (o_735.map fun b => ⟨b, 0, none⟩) n_738 cap_736)), (27, [], (.slice (o_387.map fun b => ⟨b, 0, none⟩) t_2.length cap_388)), (28, [], (.int .i64 (t_2.length : Int))), (29, [], (.int .i64 i_8))]) (fun (j : (List GWornPin) × (List Int) × (Option Nat) × Nat × (List Value) × Nat × (Option Nat) × Nat × (List Value) × Nat) => match j with | ⟨xs_12, xs_13, o_729, cap_730, sp_731, n_732, o_735, cap_736, sp_737, n_738⟩ => [⟨some b_1, 27, [(.int .i16 f0.fSteps), (.slice f0_fHammers_a f0.fHammers.length f0_fHammers_c)]⟩, ⟨some b_2, 32, [(.slice w1_fPins_a w1.fPins.length w1_fPins_c), (.slice w1_fStrokes_a w1.fStrokes.length w1_fStrokes_c)]⟩, ⟨some b_3, 35, [(.int .i64 v2.fPin), (.int .i64 v2.fHammer)]⟩, ⟨(some b_7), 35, row encGLives [v2] []⟩, ⟨o_729, 58, row encGWornPin xs_12 sp_731⟩, ⟨o_735, 2, row encI64 xs_13 sp_737⟩, ⟨o_387, 83, row encGpart t_2 sp_389⟩, ⟨some b_711, 83, [(.int .i64 x_11.fmade), (.int .i64 x_11.feach), (.int .i64 x_11.flife), (.int .i64 x_11.fstep), (.int .i64 x_11.ftrack)]⟩]) ?_ ?_
        · refine jc_block ?_
          refine jc_seq ?_
          refine jc_region ?_
          refine jo_f [(7, 0)] (by kernel_rfl) ?_
          obtain ⟨t_15, ht_741, h⟩ := bd h
          refine toO (by kernel_rfl) (p_call 0 58 #[(.agg #[(.int .i64 x_11.fmade), (.int .i64 x_11.feach), (.int .i64 x_11.flife), (.int .i64 x_11.fstep), (.int .i64 x_11.ftrack)])] (by kernel_rfl) (by kernel_rfl) (fun w hm => impl_part_isWorn.calls x_11 w _ ht_741) ?_)
          rintro w v w' hm ⟨rfl, hm'⟩
          refine ⟨_, hm.app hm', jkO ?_⟩
          clear hm hm'
          refine jo_f [(0, 0), (0, 0)] (by kernel_rfl) ?_
          refine jo_end (by kernel_rfl) ?_
          refine jx_then ?_
          refine jc_cond (!t_15) (by kernel_rfl) (fun hc_742 => ?_) (fun hc_742 => ?_)
          · replace h := ifT hc_742 h
            refine jc_skip ?_
            refine jx_inn ?_
            exact jx_meet ⟨xs_6, xs_7, o_694, cap_695, sp_696, xs_6.length, o_700, cap_701, sp_702, xs_7.length⟩ ⟨h, rfl, hs_698, ho_699, rfl, hs_704, ho_705⟩ (by kernel_rfl) [0, 1, 2, 3, 4, 5, 6, 7] (by kernel_rfl) (by kernel_rfl)
          · replace h := ifF hc_742 h
            refine jc_seq ?_
            refine jc_region ?_
            refine jo_f [(0, 0), (7, 0), (0, 0), (0, 0)] (by kernel_rfl) ?_
            refine jo_end (by kernel_rfl) ?_
            refine jx_then ?_
            refine jc_cond (decide (x_11.fstep < 0)) (by kernel_rfl) (fun hc_743 => ?_) (fun hc_743 => ?_)
            · replace h := ifT hc_743 h
              refine jc_region ?_
              refine jo_f [(0, 0), (0, 0), (7, 0)] (by kernel_rfl) ?_
              refine toO (by kernel_rfl) (p_a 0 [0] (by kernel_rfl) (fun b => by kernel_rfl) (fun b_744 => jkO ?_))
              obtain ⟨hg_745, h⟩ := gd h
              refine toO (by kernel_rfl) (p_apn 0 5 o_700 2 xs_7.length 1 cap_701 1 8 (some ⟨b_744, 0, none⟩) encI64 xs_7 [x_11.ftrack] sp_702 (.int .i64 0) rfl rfl (by kernel_rfl) (by kernel_rfl) (by kernel_rfl) encI64_len encI64_cell hs_704 ho_705 (fun w hm => (hm.ownRow (hh := 8) (o := (some b_744)) (T := 2) (enc := encI64) (xs := [x_11.ftrack]) (sp := []) (by kernel_rfl) (fun e => nomatch e) encI64_len)) hg_745 (by kernel_rfl) (by kernel_rfl) (fun o_746 cap_747 sp_748 hs_749 ho_750 => jkO ?_))
              refine jo_f [(0, 0)] (by kernel_rfl) ?_
              refine jo_end (by kernel_rfl) ?_
              refine jx_inn ?_
              exact jx_meet ⟨xs_6, (xs_7 ++ [x_11.ftrack]), o_694, cap_695, sp_696, xs_6.length, o_746, cap_747, sp_748, (xs_7 ++ [x_11.ftrack]).length⟩ ⟨h, rfl, hs_698, ho_699, rfl, hs_749, ho_750⟩ (by kernel_rfl) [0, 1, 2, 3, 4, 5, 6, 7] (by kernel_rfl) (by kernel_rfl)
            · replace h := ifF hc_743 h
              refine jc_region ?_
              refine jo_f [(0, 0), (0, 0), (7, 0), (0, 0), (0, 0), (7, 0), (0, 0), (0, 0), (7, 0), (0, 0)] (by kernel_rfl) ?_
              refine toO (by kernel_rfl) (p_a 0 [0] (by kernel_rfl) (fun b => by kernel_rfl) (fun b_751 => jkO ?_))
              obtain ⟨hg_752, h⟩ := gd h
              refine toO (by kernel_rfl) (p_apn 0 4 o_694 58 xs_6.length 1 cap_695 3 16 (some ⟨b_751, 0, none⟩) encGWornPin xs_6 [(⟨(w8 x_11.fstep), (w8 x_11.ftrack), x_11.fmade⟩ : GWornPin)] sp_696 (.agg #[(.int .i8 0), (.int .i8 0), (.int .i64 0)]) rfl rfl (by kernel_rfl) (by kernel_rfl) (by kernel_rfl) encGWornPin_len encGWornPin_cell hs_698 ho_699 (fun w hm => (hm.ownRow (hh := 8) (o := (some b_751)) (T := 58) (enc := encGWornPin) (xs := [(⟨(w8 x_11.fstep), (w8 x_11.ftrack), x_11.fmade⟩ : GWornPin)]) (sp := []) (by kernel_rfl) (fun e => nomatch e) encGWornPin_len)) hg_752 (by kernel_rfl) (by kernel_rfl) (fun o_753 cap_754 sp_755 hs_756 ho_757 => jkO ?_))
              refine jo_f [(0, 0)] (by kernel_rfl) ?_
              refine jo_end (by kernel_rfl) ?_
              refine jx_inn ?_
              exact jx_meet ⟨(xs_6 ++ [(⟨(w8 x_11.fstep), (w8 x_11.ftrack), x_11.fmade⟩ : GWornPin)]), xs_7, o_753, cap_754, sp_755, (xs_6 ++ [(⟨(w8 x_11.fstep), (w8 x_11.ftrack), x_11.fmade⟩ : GWornPin)]).length, o_700, cap_701, sp_702, xs_7.length⟩ ⟨h, rfl, hs_756, ho_757, rfl, hs_704, ho_705⟩ (by kernel_rfl) [0, 1, 2, 3, 4, 5, 6, 7] (by kernel_rfl) (by kernel_rfl)
        · rintro ⟨xs_12, xs_13, o_729, cap_730, sp_731, n_732, o_735, cap_736, sp_737, n_738⟩ ⟨h, rfl, hs_733, ho_734, rfl, hs_739, ho_740⟩
          replace h : impl_WornOut.k_14 i_8 xs_12 xs_13 = some y_707 := h
          rw [impl_WornOut.k_14] at h
          refine jx_inn ?_
          refine jx_then ?_
          refine jc_region ?_
          refine jo_f [(0, 0), (0, 0)] (by kernel_rfl) ?_
          refine jo_end (by kernel_rfl) ?_
          exact jx_back (xs_12, xs_13, (w64 (i_8 + 1))) ⟨o_729, cap_730, sp_731, xs_12.length, o_735, cap_736, sp_737, xs_13.length⟩ (Option.some.inj h).symm ⟨rfl, hs_733, ho_734, rfl, hs_739, ho_740⟩ [0, 1, 2, 3, 4, 5, 6] (by kernel_rfl) (by kernel_rfl) (by kernel_rfl)
      · replace h := ifF hc_709 h
        refine jc_exit ?_
        refine jx_thenx ?_
        refine jx_leave (xs_6, xs_7) (Option.some.inj h).symm (fun e_758 => ?_)
        subst e_758
        refine jx_ine ?_
        exact jx_meet ⟨xs_6, xs_7, o_694, cap_695, sp_696, xs_6.length, o_700, cap_701, sp_702, xs_7.length⟩ ⟨hr_706, rfl, hs_698, ho_699, rfl, hs_704, ho_705⟩ (by kernel_rfl) [0, 1, 2, 3, 4, 5, 6] (by kernel_rfl) (by kernel_rfl)
    · rintro ⟨xs_3, xs_4, o_570, cap_571, sp_572, n_573, o_576, cap_577, sp_578, n_579⟩ ⟨h, rfl, hs_574, ho_575, rfl, hs_580, ho_581⟩
      replace h : impl_WornOut.k_5 xs_3 xs_4 = some r := h
      rw [impl_WornOut.k_5] at h
      refine jx_then ?_
      refine jc_seq ?_
      refine jc_region ?_
      refine jo_f [(0, 0), (0, 0), (0, 0), (0, 0), (0, 0)] (by kernel_rfl) ?_
      refine jo_end (by kernel_rfl) ?_
      refine jx_then ?_
      refine jc_ret ?_
      obtain rfl := Option.some.inj h
      exact jx_ret [] (.tuple #[(.slice (o_570.map fun b => ⟨b, 0, none⟩) xs_3.length cap_571), (.slice (o_576.map fun b => ⟨b, 0, none⟩) xs_4.length cap_577), (.int .i64 0)]) [] rfl (by kernel_rfl) (by kernel_rfl) (fun w hm => ⟨o_570, cap_571, sp_572, xs_3.length, rfl, hs_574, ho_575, o_576, cap_577, sp_578, xs_4.length, rfl, hs_580, ho_581, rfl, hm.pick [4, 5] (by kernel_rfl) (by kernel_rfl)⟩)
end Go.Proofs.Ytfkjghkjimcmdaa
