/- Functions of the program that the laws reach: a plain function each, and that the call comes to its answer if the plain function has one. Printed by a program. -/
import Derived.Test.YtdnkjgmncfhejaaT
import Derived.Test.YtdnkjgmncfhejaaM0
import Derived.Test.YtdnkjgmncfhejaaM3
import Derived.Test.YtdnkjgmncfhejaaM6
import Derived.Test.YtdnkjgmncfhejaaM7
import Derived.Test.YtdnkjgmncfhejaaM8
import Derived.Test.YtdnkjgmncfhejaaM10
import Derived.Test.YtdnkjgmncfhejaaM11
import Derived.Test.YtdnkjgmncfhejaaM12
import Derived.Test.YtdnkjgmncfhejaaM13
import Derived.Test.YtdnkjgmncfhejaaM15
import Derived.Test.YtdnkjgmncfhejaaM18
namespace Go.Proofs.Ytdnkjgmncfhejaa
open Eng
set_option linter.unusedVariables false

/-! ### spec.l06Turned -/
noncomputable def spec_l06Turned.k_8 (xs_3 : List GWornPin) (xs_6 : List Int) (q_7 : Bool) : Option (GWear × Bool) := some ((⟨xs_3, xs_6⟩ : GWear), q_7)
noncomputable def spec_l06Turned.l_12 (turns1 : Int) (t_2 : (List Int)) : ((List Int) × Bool × Int) → Option (((List Int) × Bool × Int) ⊕ (((List Int) × Bool)))
  | (xs_9, q_10, i_11) => (if (decide (i_11 < (t_2.length : Int))) = true then (ix xs_9 i_11).bind fun x_14 => (ix t_2 i_11).bind fun x_15 => (ix xs_9 i_11).bind fun x_16 => (if q_10 = true then (ix (xs_9.set i_11.toNat (w64 (x_14 + (w64 (turns1 * x_15))))) i_11).bind fun x_17 => (spec_l06Turns x_17).bind fun t_18 => some (.inl ((xs_9.set i_11.toNat (w64 (x_14 + (w64 (turns1 * x_15))))), t_18, (w64 (i_11 + 1)))) else some (.inl ((xs_9.set i_11.toNat (w64 (x_14 + (w64 (turns1 * x_15))))), false, (w64 (i_11 + 1))))) else some (.inr (xs_9, q_10)))
noncomputable def spec_l06Turned.k_5 (turns1 : Int) (t_1 : GWear) (t_2 : (List Int)) (xs_3 : List GWornPin) (q_4 : Bool) : Option (GWear × Bool) := (loop (spec_l06Turned.l_12 turns1 t_2) (t_1.fStrokes, q_4, 0)).bind fun t_13 => spec_l06Turned.k_8 xs_3 t_13.1 t_13.2
noncomputable def spec_l06Turned.l_22 (turns1 : Int) (t_1 : GWear) : ((List GWornPin) × Bool × Int) → Option (((List GWornPin) × Bool × Int) ⊕ (((List GWornPin) × Bool)))
  | (xs_19, q_20, i_21) => (if (decide (i_21 < (t_1.fPins.length : Int))) = true then (ix xs_19 i_21).bind fun x_24 => (ix xs_19 i_21).bind fun x_25 => (if q_20 = true then (ix (xs_19.set i_21.toNat (⟨x_25.fStep, x_25.fTrack, (w64 (x_24.fTurns + turns1))⟩ : GWornPin)) i_21).bind fun x_26 => (spec_l06Turns x_26.fTurns).bind fun t_27 => some (.inl ((xs_19.set i_21.toNat (⟨x_25.fStep, x_25.fTrack, (w64 (x_24.fTurns + turns1))⟩ : GWornPin)), t_27, (w64 (i_21 + 1)))) else some (.inl ((xs_19.set i_21.toNat (⟨x_25.fStep, x_25.fTrack, (w64 (x_24.fTurns + turns1))⟩ : GWornPin)), false, (w64 (i_21 + 1))))) else some (.inr (xs_19, q_20)))
noncomputable def spec_l06Turned (w0 : GWear) (turns1 : Int) : Option (GWear × Bool) := (spec_l06Copy w0).bind fun t_1 => (spec_l06Each w0).bind fun t_2 => (loop (spec_l06Turned.l_22 turns1 t_1) (t_1.fPins, true, 0)).bind fun t_23 => spec_l06Turned.k_5 turns1 t_1 t_2 t_23.1 t_23.2
set_option maxRecDepth 100000 in
theorem spec_l06Turned.calls (w0 : GWear) (turns1 : Int) (w : World) (r : GWear × Bool) (w0_fPins_a : Option Addr) (w0_fPins_an : Nat) (w0_fPins_c : Nat) (w0_fPins_h : Rw w w0_fPins_a 3 encGWornPin w0.fPins) (w0_fPins_hn : w0.fPins.length = w0_fPins_an) (w0_fStrokes_a : Option Addr) (w0_fStrokes_an : Nat) (w0_fStrokes_c : Nat) (w0_fStrokes_h : Rw w w0_fStrokes_a 1 encI64 w0.fStrokes) (w0_fStrokes_hn : w0.fStrokes.length = w0_fStrokes_an) (w0_b : Nat) (hm0 : Mem w (bs [some w0_b]) [⟨some w0_b, 52, [(.slice w0_fPins_a w0_fPins_an w0_fPins_c), (.slice w0_fStrokes_a w0_fStrokes_an w0_fStrokes_c)]⟩] w) (w0_fPins_ha : w0.fPins ≠ [] → aB w0_fPins_a ∉ bs [some w0_b]) (w0_fStrokes_ha : w0.fStrokes ≠ [] → aB w0_fStrokes_a ∉ bs [some w0_b]) (h : spec_l06Turned w0 turns1 = some r) :
    Calls Try.prog 130 #[(.pointer (some ⟨w0_b, 0, none⟩)), (.int .i64 turns1)] w fun e w' => ∃ v, e = .returned v ∧ (∃ (o0 : Option Nat) (c0 : Nat) (s0 : List Value) (n0 : Nat), r.1.fPins.length = n0 ∧ (o0 ≠ none → n0 ≤ c0 ∧ s0.length = (c0 - n0) * 3) ∧ (o0 = none → r.1.fPins = [] ∧ c0 = 0) ∧ ∃ (o1 : Option Nat) (c1 : Nat) (s1 : List Value) (n1 : Nat), r.1.fStrokes.length = n1 ∧ (o1 ≠ none → n1 ≤ c1 ∧ s1.length = (c1 - n1) * 1) ∧ (o1 = none → r.1.fStrokes = [] ∧ c1 = 0) ∧ v = .tuple #[.agg #[.slice (o0.map fun b => ⟨b, 0, none⟩) n0 c0, .slice (o1.map fun b => ⟨b, 0, none⟩) n1 c1], (.bool r.2)] ∧ Mem w (bs [some w0_b]) [⟨some w0_b, 52, [(.slice w0_fPins_a w0_fPins_an w0_fPins_c), (.slice w0_fStrokes_a w0_fStrokes_an w0_fStrokes_c)]⟩, ⟨o0, 124, row encGWornPin r.1.fPins s0⟩, ⟨o1, 2, row encI64 r.1.fStrokes s1⟩] w') := by
  subst w0_fPins_hn w0_fStrokes_hn
  rw [spec_l06Turned] at h
  refine enter (args := [(.pointer (some ⟨w0_b, 0, none⟩)), (.int .i64 turns1)]) Try.func130 rfl Try.ntmps130 (by kernel_rfl) (L := [⟨some w0_b, 52, [(.slice w0_fPins_a w0.fPins.length w0_fPins_c), (.slice w0_fStrokes_a w0.fStrokes.length w0_fStrokes_c)]⟩]) (W := bs [some w0_b]) hm0 ?_
  refine jc_seq ?_
  refine jc_region ?_
  refine toO (by kernel_rfl) (p_a 0 [0] (by kernel_rfl) (fun b => by kernel_rfl) (fun b_1 => jkO ?_))
  refine jo_f [(0, 0)] (by kernel_rfl) ?_
  refine jo_end (by kernel_rfl) ?_
  refine jx_then ?_
  refine jc_seq ?_
  refine jc_region ?_
  refine jo_f [(0, 0)] (by kernel_rfl) ?_
  obtain ⟨t_1, ht_2, h⟩ := bd h
  refine toO (by kernel_rfl) (p_call 0 113 #[(.pointer (some ⟨w0_b, 0, none⟩))] (by kernel_rfl) (by kernel_rfl) (fun w hm => spec_l06Copy.calls w0 w _ w0_fPins_a w0.fPins.length w0_fPins_c (hm.exRowW w0_fPins_h w0_fPins_ha) rfl w0_fStrokes_a w0.fStrokes.length w0_fStrokes_c (hm.exRowW w0_fStrokes_h w0_fStrokes_ha) rfl w0_b (hm.pass (N := [⟨some w0_b, 52, [(.slice w0_fPins_a w0.fPins.length w0_fPins_c), (.slice w0_fStrokes_a w0.fStrokes.length w0_fStrokes_c)]⟩]) [0] (by kernel_rfl) (by kernel_rfl)) (hm.exApart (N := [⟨some w0_b, 52, [(.slice w0_fPins_a w0.fPins.length w0_fPins_c), (.slice w0_fStrokes_a w0.fStrokes.length w0_fStrokes_c)]⟩]) w0_fPins_h w0_fPins_ha [0] (by kernel_rfl)) (hm.exApart (N := [⟨some w0_b, 52, [(.slice w0_fPins_a w0.fPins.length w0_fPins_c), (.slice w0_fStrokes_a w0.fStrokes.length w0_fStrokes_c)]⟩]) w0_fStrokes_h w0_fStrokes_ha [0] (by kernel_rfl)) ht_2) ?_)
  rintro w v w' hm ⟨o_3, cap_4, sp_5, _, rfl, hs_6, ho_7, o_8, cap_9, sp_10, _, rfl, hs_11, ho_12, rfl, hm'⟩
  refine ⟨_, hm.appW (ps := [(0, ⟨some w0_b, 52, [(.slice w0_fPins_a w0.fPins.length w0_fPins_c), (.slice w0_fStrokes_a w0.fStrokes.length w0_fStrokes_c)]⟩)]) (N := [⟨o_3, 124, row encGWornPin t_1.fPins sp_5⟩, ⟨o_8, 2, row encI64 t_1.fStrokes sp_10⟩]) hm' (by kernel_rfl) (by kernel_rfl), jkO ?_⟩
  clear hm hm'
  refine toO (by kernel_rfl) (p_a 0 [0] (by kernel_rfl) (fun b => by kernel_rfl) (fun b_13 => jkO ?_))
  refine toO (by kernel_rfl) (p_s 0 [4] (by kernel_rfl) (by kernel_rfl) (jkO ?_))
  refine jo_end (by kernel_rfl) ?_
  refine jx_then ?_
  refine jc_seq ?_
  refine jc_region ?_
  refine jo_f [(0, 0)] (by kernel_rfl) ?_
  obtain ⟨t_2, ht_14, h⟩ := bd h
  refine toO (by kernel_rfl) (p_call 0 124 #[(.pointer (some ⟨w0_b, 0, none⟩))] (by kernel_rfl) (by kernel_rfl) (fun w hm => spec_l06Each.calls w0 w _ w0_fPins_a w0.fPins.length w0_fPins_c (hm.exRowW w0_fPins_h w0_fPins_ha) rfl w0_fStrokes_a w0.fStrokes.length w0_fStrokes_c (hm.exRowW w0_fStrokes_h w0_fStrokes_ha) rfl w0_b (hm.pass (N := [⟨some w0_b, 52, [(.slice w0_fPins_a w0.fPins.length w0_fPins_c), (.slice w0_fStrokes_a w0.fStrokes.length w0_fStrokes_c)]⟩]) [0] (by kernel_rfl) (by kernel_rfl)) (hm.exApart (N := [⟨some w0_b, 52, [(.slice w0_fPins_a w0.fPins.length w0_fPins_c), (.slice w0_fStrokes_a w0.fStrokes.length w0_fStrokes_c)]⟩]) w0_fPins_h w0_fPins_ha [0] (by kernel_rfl)) (hm.exApart (N := [⟨some w0_b, 52, [(.slice w0_fPins_a w0.fPins.length w0_fPins_c), (.slice w0_fStrokes_a w0.fStrokes.length w0_fStrokes_c)]⟩]) w0_fStrokes_h w0_fStrokes_ha [0] (by kernel_rfl)) ht_14) ?_)
  rintro w v w' hm ⟨o_15, cap_16, sp_17, _, rfl, hs_18, ho_19, rfl, hm'⟩
  refine ⟨_, hm.appW (ps := [(0, ⟨some w0_b, 52, [(.slice w0_fPins_a w0.fPins.length w0_fPins_c), (.slice w0_fStrokes_a w0.fStrokes.length w0_fStrokes_c)]⟩)]) (N := [⟨o_15, 2, row encI64 t_2 sp_17⟩]) hm' (by kernel_rfl) (by kernel_rfl), jkO ?_⟩
  clear hm hm'
  refine jo_f [(0, 0)] (by kernel_rfl) ?_
  refine jo_end (by kernel_rfl) ?_
  refine jx_then ?_
  refine jc_seq ?_
  refine jc_region ?_
  refine jo_f [(0, 0)] (by kernel_rfl) ?_
  refine jo_end (by kernel_rfl) ?_
  refine jx_then ?_
  refine jc_seq ?_
  refine jc_seq ?_
  refine jc_region ?_
  refine jo_f [(0, 0)] (by kernel_rfl) ?_
  refine jo_end (by kernel_rfl) ?_
  refine jx_then ?_
  refine jc_meet (fun (j : (List GWornPin) × Bool) => match j with | ⟨xs_3, q_4⟩ => spec_l06Turned.k_5 turns1 t_1 t_2 xs_3 q_4 = some r ∧ (xs_3.length = t_1.fPins.length) ∧ ((o_3 = none → xs_3 = [] ∧ cap_4 = 0))) (fun (j : (List GWornPin) × Bool) => match j with | ⟨xs_3, q_4⟩ => [(1, [], (.int .i64 turns1)), (4, [], (.pointer (some ⟨b_1, 0, none⟩))), (5, [], (.bool false)), (6, [], (.pointer (some ⟨b_13, 0, none⟩))), (7, [], (.slice (o_15.map fun b => ⟨b, 0, none⟩) t_2.length cap_16)), (8, [], (.bool q_4))]) (fun (j : (List GWornPin) × Bool) => match j with | ⟨xs_3, q_4⟩ => [⟨some w0_b, 52, [(.slice w0_fPins_a w0.fPins.length w0_fPins_c), (.slice w0_fStrokes_a w0.fStrokes.length w0_fStrokes_c)]⟩, ⟨some b_1, 52, [(.slice none 0 0), (.slice none 0 0)]⟩, ⟨o_3, 124, row encGWornPin xs_3 sp_5⟩, ⟨o_8, 2, row encI64 t_1.fStrokes sp_10⟩, ⟨some b_13, 52, [(.slice (o_3.map fun b => ⟨b, 0, none⟩) t_1.fPins.length cap_4), (.slice (o_8.map fun b => ⟨b, 0, none⟩) t_1.fStrokes.length cap_9)]⟩, ⟨o_15, 2, row encI64 t_2 sp_17⟩]) ?_ ?_
  · refine jc_block ?_
    obtain ⟨t_23, ht_303, hr_293⟩ := bd h
    refine jc_loop (fun (s : (List GWornPin) × Bool × Int) (x : Unit) => match s, x with | ⟨xs_19, q_20, i_21⟩, _ => (xs_19.length = t_1.fPins.length) ∧ ((o_3 = none → xs_19 = [] ∧ cap_4 = 0))) (fun (s : (List GWornPin) × Bool × Int) (x : Unit) => match s, x with | ⟨xs_19, q_20, i_21⟩, _ => [(1, [], (.int .i64 turns1)), (4, [], (.pointer (some ⟨b_1, 0, none⟩))), (5, [], (.bool false)), (6, [], (.pointer (some ⟨b_13, 0, none⟩))), (7, [], (.slice (o_15.map fun b => ⟨b, 0, none⟩) t_2.length cap_16)), (8, [], (.bool q_20)), (9, [], (.int .i64 i_21))]) (fun (s : (List GWornPin) × Bool × Int) (x : Unit) => match s, x with | ⟨xs_19, q_20, i_21⟩, _ => [⟨some w0_b, 52, [(.slice w0_fPins_a w0.fPins.length w0_fPins_c), (.slice w0_fStrokes_a w0.fStrokes.length w0_fStrokes_c)]⟩, ⟨some b_1, 52, [(.slice none 0 0), (.slice none 0 0)]⟩, ⟨o_3, 124, row encGWornPin xs_19 sp_5⟩, ⟨o_8, 2, row encI64 t_1.fStrokes sp_10⟩, ⟨some b_13, 52, [(.slice (o_3.map fun b => ⟨b, 0, none⟩) t_1.fPins.length cap_4), (.slice (o_8.map fun b => ⟨b, 0, none⟩) t_1.fStrokes.length cap_9)]⟩, ⟨o_15, 2, row encI64 t_2 sp_17⟩]) ht_303 () ⟨rfl, ho_7⟩ (by kernel_rfl) [0, 1, 2, 3, 4, 5] (by kernel_rfl) (by kernel_rfl) ?_
    rintro ⟨xs_19, q_20, i_21⟩ _ y_294 ⟨hn_292, ho_291⟩ h
    rw [spec_l06Turned.l_22] at h
    refine jc_seq ?_
    refine jc_seq ?_
    refine jc_region ?_
    refine jo_f [(0, 0), (0, 0), (4, 0), (0, 0), (0, 0)] (by kernel_rfl) ?_
    refine jo_end (by kernel_rfl) ?_
    refine jx_then ?_
    refine jc_cond (decide (i_21 < (t_1.fPins.length : Int))) (by kernel_rfl) (fun hc_296 => ?_) (fun hc_296 => ?_)
    · replace h := ifT hc_296 h
      refine jc_skip ?_
      refine jx_then ?_
      refine jc_seq ?_
      refine jc_block ?_
      refine jc_seq ?_
      refine jc_region ?_
      refine jo_f [(0, 0), (4, 0), (0, 0)] (by kernel_rfl) ?_
      obtain ⟨x_24, hx_297, h⟩ := bd h
      refine toO (by kernel_rfl) (p_idx 0 (o_3.map fun b => ⟨b, 0, none⟩) t_1.fPins.length i_21 3 (by kernel_rfl) (by kernel_rfl) (ix_some hx_297).1 (ltn hx_297 hn_292) (spo ho_291 hx_297) (jkO ?_))
      refine jo_f [(0, 0)] (by kernel_rfl) ?_
      refine toO (by kernel_rfl) (p_ld 0 (aB (o_3.map fun b => ⟨b, 0, none⟩)) (aO (o_3.map fun b => ⟨b, 0, none⟩) + i_21.toNat * 3 + 2) false (((encGWornPin x_24).drop 2).take 1) (by kernel_rfl) (by kernel_rfl) (by kernel_rfl) (fun w hm => (((hm.ownRow (hh := 2) (o := o_3) (T := 124) (enc := encGWornPin) (xs := xs_19) (sp := sp_5) (by kernel_rfl) (fun e => (ho_291 e).1) encGWornPin_len).at hx_297).sub 2 1)) (jkO ?_))
      refine jo_f [(0, 0), (0, 0)] (by kernel_rfl) ?_
      obtain ⟨x_25, hx_298, h⟩ := bd h
      refine toO (by kernel_rfl) (p_idx 0 (o_3.map fun b => ⟨b, 0, none⟩) t_1.fPins.length i_21 3 (by kernel_rfl) (by kernel_rfl) (ix_some hx_298).1 (ltn hx_298 hn_292) (spo ho_291 hx_298) (jkO ?_))
      refine jo_f [(0, 0)] (by kernel_rfl) ?_
      refine toO (by kernel_rfl) (p_strO 0 2 o_3 124 encGWornPin xs_19 sp_5 i_21 (⟨x_25.fStep, x_25.fTrack, (w64 (x_24.fTurns + turns1))⟩ : GWornPin) 3 2 [(.int .i64 (w64 (x_24.fTurns + turns1)))] (by kernel_rfl) (by kernel_rfl) (by kernel_rfl) (fun e => (ho_291 e).1) encGWornPin_len hx_298 (by kernel_rfl) (by kernel_rfl) (jkO ?_))
      refine jo_end (by kernel_rfl) ?_
      refine jx_then ?_
      refine jc_region ?_
      refine jo_f [(0, 0), (0, 0), (0, 1), (4, 1), (0, 1)] (by kernel_rfl) ?_
      refine jo_split 33 q_20 (by kernel_rfl) (fun hc_299 => ?_) (fun hc_299 => ?_)
      · replace h := ifT hc_299 h
        obtain ⟨x_26, hx_300, h⟩ := bd h
        refine toO (by kernel_rfl) (p_idx 2 (o_3.map fun b => ⟨b, 0, none⟩) t_1.fPins.length i_21 3 (by kernel_rfl) (by kernel_rfl) (ix_some hx_300).1 (ltn hx_300 (List.length_set.trans hn_292)) (spo (set_ho ho_291) hx_300) (jkO ?_))
        refine jo_f [(0, 2)] (by kernel_rfl) ?_
        refine toO (by kernel_rfl) (p_ld 2 (aB (o_3.map fun b => ⟨b, 0, none⟩)) (aO (o_3.map fun b => ⟨b, 0, none⟩) + i_21.toNat * 3 + 2) false (((encGWornPin x_26).drop 2).take 1) (by kernel_rfl) (by kernel_rfl) (by kernel_rfl) (fun w hm => (((hm.ownRow (hh := 2) (o := o_3) (T := 124) (enc := encGWornPin) (xs := (xs_19.set i_21.toNat (⟨x_25.fStep, x_25.fTrack, (w64 (x_24.fTurns + turns1))⟩ : GWornPin))) (sp := sp_5) (by kernel_rfl) (fun e => ((set_ho ho_291) e).1) encGWornPin_len).at hx_300).sub 2 1)) (jkO ?_))
        obtain ⟨t_27, ht_301, h⟩ := bd h
        refine toO (by kernel_rfl) (p_call 2 129 #[(.int .i64 x_26.fTurns)] (by kernel_rfl) (by kernel_rfl) (fun w hm => spec_l06Turns.calls x_26.fTurns w _ ht_301) ?_)
        rintro w v w' hm ⟨rfl, hm'⟩
        refine ⟨_, hm.app hm', jkO ?_⟩
        clear hm hm'
        refine jo_f [(0, 4), (0, 0)] (by kernel_rfl) ?_
        refine jo_end (by kernel_rfl) ?_
        refine jx_inn ?_
        refine jx_then ?_
        refine jc_region ?_
        refine jo_f [(0, 0), (0, 0), (0, 0)] (by kernel_rfl) ?_
        refine jo_end (by kernel_rfl) ?_
        exact jx_back ((xs_19.set i_21.toNat (⟨x_25.fStep, x_25.fTrack, (w64 (x_24.fTurns + turns1))⟩ : GWornPin)), t_27, (w64 (i_21 + 1))) () (Option.some.inj h).symm ⟨(List.length_set.trans hn_292), (set_ho ho_291)⟩ [0, 1, 2, 3, 4, 5] (by kernel_rfl) (by kernel_rfl) (by kernel_rfl)
      · replace h := ifF hc_299 h
        refine jo_f [(0, 3), (0, 3), (0, 3), (0, 3), (0, 5), (0, 0)] (by kernel_rfl) ?_
        refine jo_end (by kernel_rfl) ?_
        refine jx_inn ?_
        refine jx_then ?_
        refine jc_region ?_
        refine jo_f [(0, 0), (0, 0), (0, 0)] (by kernel_rfl) ?_
        refine jo_end (by kernel_rfl) ?_
        exact jx_back ((xs_19.set i_21.toNat (⟨x_25.fStep, x_25.fTrack, (w64 (x_24.fTurns + turns1))⟩ : GWornPin)), false, (w64 (i_21 + 1))) () (Option.some.inj h).symm ⟨(List.length_set.trans hn_292), (set_ho ho_291)⟩ [0, 1, 2, 3, 4, 5] (by kernel_rfl) (by kernel_rfl) (by kernel_rfl)
    · replace h := ifF hc_296 h
      refine jc_exit ?_
      refine jx_thenx ?_
      refine jx_leave (xs_19, q_20) (Option.some.inj h).symm (fun e_302 => ?_)
      subst e_302
      refine jx_ine ?_
      exact jx_meet ⟨xs_19, q_20⟩ ⟨hr_293, hn_292, ho_291⟩ (by kernel_rfl) [0, 1, 2, 3, 4, 5] (by kernel_rfl) (by kernel_rfl)
  · rintro ⟨xs_3, q_4⟩ ⟨h, hn_107, ho_106⟩
    replace h : spec_l06Turned.k_5 turns1 t_1 t_2 xs_3 q_4 = some r := h
    rw [spec_l06Turned.k_5] at h
    refine jx_then ?_
    refine jc_seq ?_
    refine jc_seq ?_
    refine jc_region ?_
    refine jo_f [(0, 0)] (by kernel_rfl) ?_
    refine jo_end (by kernel_rfl) ?_
    refine jx_then ?_
    refine jc_meet (fun (j : (List Int) × Bool) => match j with | ⟨xs_6, q_7⟩ => spec_l06Turned.k_8 xs_3 xs_6 q_7 = some r ∧ (xs_6.length = t_1.fStrokes.length) ∧ ((o_8 = none → xs_6 = [] ∧ cap_9 = 0))) (fun (j : (List Int) × Bool) => match j with | ⟨xs_6, q_7⟩ => [(4, [], (.pointer (some ⟨b_1, 0, none⟩))), (5, [], (.bool false)), (6, [], (.pointer (some ⟨b_13, 0, none⟩))), (8, [], (.bool q_7))]) (fun (j : (List Int) × Bool) => match j with | ⟨xs_6, q_7⟩ => [⟨some w0_b, 52, [(.slice w0_fPins_a w0.fPins.length w0_fPins_c), (.slice w0_fStrokes_a w0.fStrokes.length w0_fStrokes_c)]⟩, ⟨some b_1, 52, [(.slice none 0 0), (.slice none 0 0)]⟩, ⟨o_3, 124, row encGWornPin xs_3 sp_5⟩, ⟨o_8, 2, row encI64 xs_6 sp_10⟩, ⟨some b_13, 52, [(.slice (o_3.map fun b => ⟨b, 0, none⟩) t_1.fPins.length cap_4), (.slice (o_8.map fun b => ⟨b, 0, none⟩) t_1.fStrokes.length cap_9)]⟩, ⟨o_15, 2, row encI64 t_2 sp_17⟩]) ?_ ?_
    · refine jc_block ?_
      obtain ⟨t_13, ht_275, hr_261⟩ := bd h
      refine jc_loop (fun (s : (List Int) × Bool × Int) (x : Unit) => match s, x with | ⟨xs_9, q_10, i_11⟩, _ => (xs_9.length = t_1.fStrokes.length) ∧ ((o_8 = none → xs_9 = [] ∧ cap_9 = 0))) (fun (s : (List Int) × Bool × Int) (x : Unit) => match s, x with | ⟨xs_9, q_10, i_11⟩, _ => [(1, [], (.int .i64 turns1)), (4, [], (.pointer (some ⟨b_1, 0, none⟩))), (5, [], (.bool false)), (6, [], (.pointer (some ⟨b_13, 0, none⟩))), (7, [], (.slice (o_15.map fun b => ⟨b, 0, none⟩) t_2.length cap_16)), (8, [], (.bool q_10)), (10, [], (.int .i64 i_11))]) (fun (s : (List Int) × Bool × Int) (x : Unit) => match s, x with | ⟨xs_9, q_10, i_11⟩, _ => [⟨some w0_b, 52, [(.slice w0_fPins_a w0.fPins.length w0_fPins_c), (.slice w0_fStrokes_a w0.fStrokes.length w0_fStrokes_c)]⟩, ⟨some b_1, 52, [(.slice none 0 0), (.slice none 0 0)]⟩, ⟨o_3, 124, row encGWornPin xs_3 sp_5⟩, ⟨o_8, 2, row encI64 xs_9 sp_10⟩, ⟨some b_13, 52, [(.slice (o_3.map fun b => ⟨b, 0, none⟩) t_1.fPins.length cap_4), (.slice (o_8.map fun b => ⟨b, 0, none⟩) t_1.fStrokes.length cap_9)]⟩, ⟨o_15, 2, row encI64 t_2 sp_17⟩]) ht_275 () ⟨rfl, ho_12⟩ (by kernel_rfl) [0, 1, 2, 3, 4, 5] (by kernel_rfl) (by kernel_rfl) ?_
      rintro ⟨xs_9, q_10, i_11⟩ _ y_262 ⟨hn_260, ho_259⟩ h
      rw [spec_l06Turned.l_12] at h
      refine jc_seq ?_
      refine jc_seq ?_
      refine jc_region ?_
      refine jo_f [(0, 0), (0, 0), (0, 0), (0, 0)] (by kernel_rfl) ?_
      refine jo_end (by kernel_rfl) ?_
      refine jx_then ?_
      refine jc_cond (decide (i_11 < (t_2.length : Int))) (by kernel_rfl) (fun hc_264 => ?_) (fun hc_264 => ?_)
      · replace h := ifT hc_264 h
        refine jc_skip ?_
        refine jx_then ?_
        refine jc_seq ?_
        refine jc_block ?_
        refine jc_seq ?_
        refine jc_draw [⟨some w0_b, 52, [(.slice w0_fPins_a w0.fPins.length w0_fPins_c), (.slice w0_fStrokes_a w0.fStrokes.length w0_fStrokes_c)]⟩, ⟨some b_1, 52, [(.slice none 0 0), (.slice none 0 0)]⟩, ⟨o_3, 124, row encGWornPin xs_3 sp_5⟩, ⟨some b_13, 52, [(.slice (o_3.map fun b => ⟨b, 0, none⟩) t_1.fPins.length cap_4), (.slice (o_8.map fun b => ⟨b, 0, none⟩) t_1.fStrokes.length cap_9)]⟩, ⟨o_15, 2, row encI64 t_2 sp_17⟩] 14 (by kernel_rfl) (by kernel_rfl) ?_
        refine jd_f [⟨0, 0, 0⟩, ⟨1, 3, 0⟩, ⟨2, 0, 0⟩, ⟨5, 0, 0⟩, ⟨6, 0, 0⟩, ⟨7, 0, 0⟩] 8 (by kernel_rfl) (by kernel_rfl) (fun w h => h.pick [0, 1, 2, 4, 5] (by kernel_rfl) (by kernel_rfl)) (by kernel_rfl) (by kernel_rfl) ?_
        obtain ⟨x_14, hx_268, h⟩ := bd h
        refine jd_v 3 0 (by kernel_rfl) (fun w h => h.pick [0, 1, 2, 4, 5] (by kernel_rfl) (by kernel_rfl)) (by kernel_rfl) (by kernel_rfl) _ (fun w hm => idx_run (a := (o_8.map fun b => ⟨b, 0, none⟩)) (len := t_1.fStrokes.length) (s := 1) (j := i_11) (by kernel_rfl) (ix_some hx_268).1 (ltn hx_268 hn_260) (spo ho_259 hx_268)) ?_
        obtain ⟨x_15, hx_269, h⟩ := bd h
        refine jd_v 8 0 (by kernel_rfl) (fun w h => h.pick [0, 1, 2, 4, 5] (by kernel_rfl) (by kernel_rfl)) (by kernel_rfl) (by kernel_rfl) _ (fun w hm => idx_run (a := (o_15.map fun b => ⟨b, 0, none⟩)) (len := t_2.length) (s := 1) (j := i_11) (by kernel_rfl) (ix_some hx_269).1 (ltn hx_269 rfl) (spo ho_19 hx_269)) ?_
        refine jd_v 9 0 (by kernel_rfl) (fun w h => h.pick [0, 1, 2, 4, 5] (by kernel_rfl) (by kernel_rfl)) (by kernel_rfl) (by kernel_rfl) _ (fun w hm => ld_run (b := aB (o_15.map fun b => ⟨b, 0, none⟩)) (off := (aO (o_15.map fun b => ⟨b, 0, none⟩) + i_11.toNat * 1)) (s := 1) (agg := false) (vs := (encI64 x_15)) (by kernel_rfl) (by kernel_rfl) (.inr rfl) ((hm.ownRow (hh := 4) (o := o_15) (T := 2) (enc := encI64) (xs := t_2) (sp := sp_17) (by kernel_rfl) (fun e => (ho_19 e).1) encI64_len).at hx_269)) ?_
        refine jd_f [⟨10, 0, 0⟩] 4 (by kernel_rfl) (by kernel_rfl) (fun w h => h.pick [0, 1, 2, 4, 5] (by kernel_rfl) (by kernel_rfl)) (by kernel_rfl) (by kernel_rfl) ?_
        refine toD 4 (by kernel_rfl) (p_ld 0 (aB (o_8.map fun b => ⟨b, 0, none⟩)) (aO (o_8.map fun b => ⟨b, 0, none⟩) + i_11.toNat * 1) false (encI64 x_14) (by kernel_rfl) (by kernel_rfl) (by kernel_rfl) (fun w hm => ((hm.ownRow (hh := 3) (o := o_8) (T := 2) (enc := encI64) (xs := xs_9) (sp := sp_10) (by kernel_rfl) (fun e => (ho_259 e).1) encI64_len).at hx_268)) (jkD (fun w h => h.pick [0, 1, 2, 4, 5] (by kernel_rfl) (by kernel_rfl)) ?_))
        refine jd_f [⟨11, 0, 0⟩] 2 (by kernel_rfl) (by kernel_rfl) (fun w h => h.pick [0, 1, 2, 4, 5] (by kernel_rfl) (by kernel_rfl)) (by kernel_rfl) (by kernel_rfl) ?_
        obtain ⟨x_16, hx_270, h⟩ := bd h
        refine jd_v 12 0 (by kernel_rfl) (fun w h => h.pick [0, 1, 2, 4, 5] (by kernel_rfl) (by kernel_rfl)) (by kernel_rfl) (by kernel_rfl) _ (fun w hm => idx_run (a := (o_8.map fun b => ⟨b, 0, none⟩)) (len := t_1.fStrokes.length) (s := 1) (j := i_11) (by kernel_rfl) (ix_some hx_270).1 (ltn hx_270 hn_260) (spo ho_259 hx_270)) ?_
        refine toD 13 (by kernel_rfl) (p_strO 0 3 o_8 2 encI64 xs_9 sp_10 i_11 (w64 (x_14 + (w64 (turns1 * x_15)))) 1 0 [(.int .i64 (w64 (x_14 + (w64 (turns1 * x_15)))))] (by kernel_rfl) (by kernel_rfl) (by kernel_rfl) (fun e => (ho_259 e).1) encI64_len hx_270 (by kernel_rfl) (by kernel_rfl) (jkD (fun w h => h.pick [0, 1, 2, 4, 5] (by kernel_rfl) (by kernel_rfl)) ?_))
        refine jd_end (by kernel_rfl) ?_
        refine jx_then ?_
        refine jc_region ?_
        refine jo_f [(0, 0), (0, 0), (0, 1), (4, 1), (0, 1)] (by kernel_rfl) ?_
        refine jo_split 62 q_10 (by kernel_rfl) (fun hc_271 => ?_) (fun hc_271 => ?_)
        · replace h := ifT hc_271 h
          obtain ⟨x_17, hx_272, h⟩ := bd h
          refine toO (by kernel_rfl) (p_idx 2 (o_8.map fun b => ⟨b, 0, none⟩) t_1.fStrokes.length i_11 1 (by kernel_rfl) (by kernel_rfl) (ix_some hx_272).1 (ltn hx_272 (List.length_set.trans hn_260)) (spo (set_ho ho_259) hx_272) (jkO ?_))
          refine toO (by kernel_rfl) (p_ld 2 (aB (o_8.map fun b => ⟨b, 0, none⟩)) (aO (o_8.map fun b => ⟨b, 0, none⟩) + i_11.toNat * 1) false (encI64 x_17) (by kernel_rfl) (by kernel_rfl) (by kernel_rfl) (fun w hm => ((hm.ownRow (hh := 3) (o := o_8) (T := 2) (enc := encI64) (xs := (xs_9.set i_11.toNat (w64 (x_14 + (w64 (turns1 * x_15)))))) (sp := sp_10) (by kernel_rfl) (fun e => ((set_ho ho_259) e).1) encI64_len).at hx_272)) (jkO ?_))
          obtain ⟨t_18, ht_273, h⟩ := bd h
          refine toO (by kernel_rfl) (p_call 2 129 #[(.int .i64 x_17)] (by kernel_rfl) (by kernel_rfl) (fun w hm => spec_l06Turns.calls x_17 w _ ht_273) ?_)
          rintro w v w' hm ⟨rfl, hm'⟩
          refine ⟨_, hm.app hm', jkO ?_⟩
          clear hm hm'
          refine jo_f [(0, 4), (0, 0)] (by kernel_rfl) ?_
          refine jo_end (by kernel_rfl) ?_
          refine jx_inn ?_
          refine jx_then ?_
          refine jc_region ?_
          refine jo_f [(0, 0), (0, 0), (0, 0)] (by kernel_rfl) ?_
          refine jo_end (by kernel_rfl) ?_
          exact jx_back ((xs_9.set i_11.toNat (w64 (x_14 + (w64 (turns1 * x_15))))), t_18, (w64 (i_11 + 1))) () (Option.some.inj h).symm ⟨(List.length_set.trans hn_260), (set_ho ho_259)⟩ [0, 1, 2, 3, 4, 5] (by kernel_rfl) (by kernel_rfl) (by kernel_rfl)
        · replace h := ifF hc_271 h
          refine jo_f [(0, 3), (0, 3), (0, 3), (0, 5), (0, 0)] (by kernel_rfl) ?_
          refine jo_end (by kernel_rfl) ?_
          refine jx_inn ?_
          refine jx_then ?_
          refine jc_region ?_
          refine jo_f [(0, 0), (0, 0), (0, 0)] (by kernel_rfl) ?_
          refine jo_end (by kernel_rfl) ?_
          exact jx_back ((xs_9.set i_11.toNat (w64 (x_14 + (w64 (turns1 * x_15))))), false, (w64 (i_11 + 1))) () (Option.some.inj h).symm ⟨(List.length_set.trans hn_260), (set_ho ho_259)⟩ [0, 1, 2, 3, 4, 5] (by kernel_rfl) (by kernel_rfl) (by kernel_rfl)
      · replace h := ifF hc_264 h
        refine jc_exit ?_
        refine jx_thenx ?_
        refine jx_leave (xs_9, q_10) (Option.some.inj h).symm (fun e_274 => ?_)
        subst e_274
        refine jx_ine ?_
        exact jx_meet ⟨xs_9, q_10⟩ ⟨hr_261, hn_260, ho_259⟩ (by kernel_rfl) [0, 1, 2, 3, 4, 5] (by kernel_rfl) (by kernel_rfl)
    · rintro ⟨xs_6, q_7⟩ ⟨h, hn_234, ho_233⟩
      replace h : spec_l06Turned.k_8 xs_3 xs_6 q_7 = some r := h
      rw [spec_l06Turned.k_8] at h
      refine jx_then ?_
      refine jc_seq ?_
      refine jc_region ?_
      refine jo_f [(4, 0), (0, 0)] (by kernel_rfl) ?_
      refine toO (by kernel_rfl) (p_s 0 [1] (by kernel_rfl) (by kernel_rfl) (jkO ?_))
      refine jo_f [(0, 0)] (by kernel_rfl) ?_
      refine jo_end (by kernel_rfl) ?_
      refine jx_then ?_
      refine jc_ret ?_
      obtain rfl := Option.some.inj h
      exact jx_ret [1] (.tuple #[(.agg #[(.slice (o_3.map fun b => ⟨b, 0, none⟩) t_1.fPins.length cap_4), (.slice (o_8.map fun b => ⟨b, 0, none⟩) t_1.fStrokes.length cap_9)]), (.bool q_7)]) [(b_1, b_1), (b_1, b_1)] rfl (by kernel_rfl) (by kernel_rfl) (fun w hm => ⟨o_3, cap_4, sp_5, t_1.fPins.length, hn_107, hs_6, ho_106, o_8, cap_9, sp_10, t_1.fStrokes.length, hn_234, hs_11, ho_233, rfl, hm.pick [0, 2, 3] (by kernel_rfl) (by kernel_rfl)⟩)

/-! ### spec.TurnWear -/
noncomputable def spec_TurnWear (f0 : GFrame) (w1 : GWear) (turns2 : Int) : Option (GWear × Int) := (spec_l06Ok f0 w1).bind fun t_1 => (if (!t_1) = true then some ((⟨[], []⟩ : GWear), 1) else (spec_l06Turns turns2).bind fun t_2 => (if (!t_2) = true then some ((⟨[], []⟩ : GWear), 2) else (spec_l06Turned w1 turns2).bind fun t_3 => (if (!t_3.2) = true then some ((⟨[], []⟩ : GWear), 3) else some (t_3.1, 0))))
set_option maxRecDepth 100000 in
theorem spec_TurnWear.calls (f0 : GFrame) (w1 : GWear) (turns2 : Int) (w : World) (r : GWear × Int) (f0_fHammers_a : Option Addr) (f0_fHammers_an : Nat) (f0_fHammers_c : Nat) (f0_fHammers_h : Rw w f0_fHammers_a 2 encGHammer f0.fHammers) (f0_fHammers_hn : f0.fHammers.length = f0_fHammers_an) (w1_fPins_a : Option Addr) (w1_fPins_an : Nat) (w1_fPins_c : Nat) (w1_fPins_h : Rw w w1_fPins_a 3 encGWornPin w1.fPins) (w1_fPins_hn : w1.fPins.length = w1_fPins_an) (w1_fStrokes_a : Option Addr) (w1_fStrokes_an : Nat) (w1_fStrokes_c : Nat) (w1_fStrokes_h : Rw w w1_fStrokes_a 1 encI64 w1.fStrokes) (w1_fStrokes_hn : w1.fStrokes.length = w1_fStrokes_an) (h : spec_TurnWear f0 w1 turns2 = some r) :
    Calls Try.prog 65 #[(.agg #[(.int .i16 f0.fSteps), (.slice f0_fHammers_a f0_fHammers_an f0_fHammers_c)]), (.agg #[(.slice w1_fPins_a w1_fPins_an w1_fPins_c), (.slice w1_fStrokes_a w1_fStrokes_an w1_fStrokes_c)]), (.int .i64 turns2)] w fun e w' => ∃ v, e = .returned v ∧ (∃ (o0 : Option Nat) (c0 : Nat) (s0 : List Value) (n0 : Nat), r.1.fPins.length = n0 ∧ (o0 ≠ none → n0 ≤ c0 ∧ s0.length = (c0 - n0) * 3) ∧ (o0 = none → r.1.fPins = [] ∧ c0 = 0) ∧ ∃ (o1 : Option Nat) (c1 : Nat) (s1 : List Value) (n1 : Nat), r.1.fStrokes.length = n1 ∧ (o1 ≠ none → n1 ≤ c1 ∧ s1.length = (c1 - n1) * 1) ∧ (o1 = none → r.1.fStrokes = [] ∧ c1 = 0) ∧ v = .tuple #[.agg #[.slice (o0.map fun b => ⟨b, 0, none⟩) n0 c0, .slice (o1.map fun b => ⟨b, 0, none⟩) n1 c1], (.int .i64 r.2)] ∧ Mem w [] [⟨o0, 124, row encGWornPin r.1.fPins s0⟩, ⟨o1, 2, row encI64 r.1.fStrokes s1⟩] w') := by
  subst f0_fHammers_hn w1_fPins_hn w1_fStrokes_hn
  rw [spec_TurnWear] at h
  refine enter (args := [(.agg #[(.int .i16 f0.fSteps), (.slice f0_fHammers_a f0.fHammers.length f0_fHammers_c)]), (.agg #[(.slice w1_fPins_a w1.fPins.length w1_fPins_c), (.slice w1_fStrokes_a w1.fStrokes.length w1_fStrokes_c)]), (.int .i64 turns2)]) Try.func65 rfl Try.ntmps65 (by kernel_rfl) (L := []) (W := []) (Mem.start w) ?_
  refine jc_seq ?_
  refine jc_region ?_
  refine toO (by kernel_rfl) (p_a 0 [0] (by kernel_rfl) (fun b => by kernel_rfl) (fun b_1 => jkO ?_))
  refine toO (by kernel_rfl) (p_a 0 [0] (by kernel_rfl) (fun b => by kernel_rfl) (fun b_2 => jkO ?_))
  refine toO (by kernel_rfl) (p_a 0 [0] (by kernel_rfl) (fun b => by kernel_rfl) (fun b_3 => jkO ?_))
  refine jo_f [(0, 0)] (by kernel_rfl) ?_
  refine jo_end (by kernel_rfl) ?_
  refine jx_then ?_
  refine jc_seq ?_
  refine jc_seq ?_
  refine jc_region ?_
  obtain ⟨t_1, ht_6, h⟩ := bd h
  refine toO (by kernel_rfl) (p_call 0 80 #[(.pointer (some ⟨b_1, 0, none⟩)), (.pointer (some ⟨b_2, 0, none⟩))] (by kernel_rfl) (by kernel_rfl) (fun w hm => spec_l06Ok.calls f0 w1 w _ f0_fHammers_a f0.fHammers.length f0_fHammers_c (hm.exRow f0_fHammers_h List.not_mem_nil) rfl w1_fPins_a w1.fPins.length w1_fPins_c (hm.exRow w1_fPins_h List.not_mem_nil) rfl w1_fStrokes_a w1.fStrokes.length w1_fStrokes_c (hm.exRow w1_fStrokes_h List.not_mem_nil) rfl b_1 b_2 (hm.pass (N := [⟨some b_1, 35, [(.int .i16 f0.fSteps), (.slice f0_fHammers_a f0.fHammers.length f0_fHammers_c)]⟩, ⟨some b_2, 52, [(.slice w1_fPins_a w1.fPins.length w1_fPins_c), (.slice w1_fStrokes_a w1.fStrokes.length w1_fStrokes_c)]⟩]) [0, 1] (by kernel_rfl) (by kernel_rfl)) (hm.exApart (N := [⟨some b_1, 35, [(.int .i16 f0.fSteps), (.slice f0_fHammers_a f0.fHammers.length f0_fHammers_c)]⟩, ⟨some b_2, 52, [(.slice w1_fPins_a w1.fPins.length w1_fPins_c), (.slice w1_fStrokes_a w1.fStrokes.length w1_fStrokes_c)]⟩]) f0_fHammers_h (fun _ => List.not_mem_nil) [0, 1] (by kernel_rfl)) (hm.exApart (N := [⟨some b_1, 35, [(.int .i16 f0.fSteps), (.slice f0_fHammers_a f0.fHammers.length f0_fHammers_c)]⟩, ⟨some b_2, 52, [(.slice w1_fPins_a w1.fPins.length w1_fPins_c), (.slice w1_fStrokes_a w1.fStrokes.length w1_fStrokes_c)]⟩]) w1_fPins_h (fun _ => List.not_mem_nil) [0, 1] (by kernel_rfl)) (hm.exApart (N := [⟨some b_1, 35, [(.int .i16 f0.fSteps), (.slice f0_fHammers_a f0.fHammers.length f0_fHammers_c)]⟩, ⟨some b_2, 52, [(.slice w1_fPins_a w1.fPins.length w1_fPins_c), (.slice w1_fStrokes_a w1.fStrokes.length w1_fStrokes_c)]⟩]) w1_fStrokes_h (fun _ => List.not_mem_nil) [0, 1] (by kernel_rfl)) ht_6) ?_)
  rintro w v w' hm ⟨rfl, hm'⟩
  refine ⟨_, hm.appW (ps := [(0, ⟨some b_1, 35, [(.int .i16 f0.fSteps), (.slice f0_fHammers_a f0.fHammers.length f0_fHammers_c)]⟩), (1, ⟨some b_2, 52, [(.slice w1_fPins_a w1.fPins.length w1_fPins_c), (.slice w1_fStrokes_a w1.fStrokes.length w1_fStrokes_c)]⟩)]) (N := []) hm' (by kernel_rfl) (by kernel_rfl), jkO ?_⟩
  clear hm hm'
  refine jo_f [(0, 0)] (by kernel_rfl) ?_
  refine jo_end (by kernel_rfl) ?_
  refine jx_then ?_
  refine jc_cond (!t_1) (by kernel_rfl) (fun hc_7 => ?_) (fun hc_7 => ?_)
  · replace h := ifT hc_7 h
    refine jc_seq ?_
    refine jc_region ?_
    refine jo_f [(0, 0)] (by kernel_rfl) ?_
    refine toO (by kernel_rfl) (p_s 0 [2] (by kernel_rfl) (by kernel_rfl) (jkO ?_))
    refine jo_f [(0, 0)] (by kernel_rfl) ?_
    refine jo_end (by kernel_rfl) ?_
    refine jx_then ?_
    refine jc_ret ?_
    refine jx_thenr ?_
    obtain rfl := Option.some.inj h
    refine jx_ghost 124 encGWornPin ?_
    refine jx_ghost 2 encI64 ?_
    exact jx_ret [2] (.tuple #[(.agg #[(.slice none 0 0), (.slice none 0 0)]), (.int .i64 1)]) [(b_3, b_3), (b_3, b_3)] rfl (by kernel_rfl) (by kernel_rfl) (fun w hm => ⟨none, 0, [], 0, rfl, (fun e => absurd rfl e), (fun _ => ⟨rfl, rfl⟩), none, 0, [], 0, rfl, (fun e => absurd rfl e), (fun _ => ⟨rfl, rfl⟩), rfl, hm.pick [3, 4] (by kernel_rfl) (by kernel_rfl)⟩)
  · replace h := ifF hc_7 h
    refine jc_skip ?_
    refine jx_then ?_
    refine jc_seq ?_
    refine jc_seq ?_
    refine jc_region ?_
    refine jo_f [(0, 0)] (by kernel_rfl) ?_
    obtain ⟨t_2, ht_10, h⟩ := bd h
    refine toO (by kernel_rfl) (p_call 0 129 #[(.int .i64 turns2)] (by kernel_rfl) (by kernel_rfl) (fun w hm => spec_l06Turns.calls turns2 w _ ht_10) ?_)
    rintro w v w' hm ⟨rfl, hm'⟩
    refine ⟨_, hm.app hm', jkO ?_⟩
    clear hm hm'
    refine jo_f [(0, 0)] (by kernel_rfl) ?_
    refine jo_end (by kernel_rfl) ?_
    refine jx_then ?_
    refine jc_cond (!t_2) (by kernel_rfl) (fun hc_11 => ?_) (fun hc_11 => ?_)
    · replace h := ifT hc_11 h
      refine jc_seq ?_
      refine jc_region ?_
      refine jo_f [(0, 0)] (by kernel_rfl) ?_
      refine toO (by kernel_rfl) (p_s 0 [2] (by kernel_rfl) (by kernel_rfl) (jkO ?_))
      refine jo_f [(0, 0)] (by kernel_rfl) ?_
      refine jo_end (by kernel_rfl) ?_
      refine jx_then ?_
      refine jc_ret ?_
      refine jx_thenr ?_
      obtain rfl := Option.some.inj h
      refine jx_ghost 124 encGWornPin ?_
      refine jx_ghost 2 encI64 ?_
      exact jx_ret [2] (.tuple #[(.agg #[(.slice none 0 0), (.slice none 0 0)]), (.int .i64 2)]) [(b_3, b_3), (b_3, b_3)] rfl (by kernel_rfl) (by kernel_rfl) (fun w hm => ⟨none, 0, [], 0, rfl, (fun e => absurd rfl e), (fun _ => ⟨rfl, rfl⟩), none, 0, [], 0, rfl, (fun e => absurd rfl e), (fun _ => ⟨rfl, rfl⟩), rfl, hm.pick [3, 4] (by kernel_rfl) (by kernel_rfl)⟩)
    · replace h := ifF hc_11 h
      refine jc_skip ?_
      refine jx_then ?_
      refine jc_seq ?_
      refine jc_region ?_
      refine jo_f [(0, 0)] (by kernel_rfl) ?_
      obtain ⟨t_3, ht_12, h⟩ := bd h
      refine toO (by kernel_rfl) (p_call 0 130 #[(.pointer (some ⟨b_2, 0, none⟩)), (.int .i64 turns2)] (by kernel_rfl) (by kernel_rfl) (fun w hm => spec_l06Turned.calls w1 turns2 w _ w1_fPins_a w1.fPins.length w1_fPins_c (hm.exRow w1_fPins_h List.not_mem_nil) rfl w1_fStrokes_a w1.fStrokes.length w1_fStrokes_c (hm.exRow w1_fStrokes_h List.not_mem_nil) rfl b_2 (hm.pass (N := [⟨some b_2, 52, [(.slice w1_fPins_a w1.fPins.length w1_fPins_c), (.slice w1_fStrokes_a w1.fStrokes.length w1_fStrokes_c)]⟩]) [1] (by kernel_rfl) (by kernel_rfl)) (hm.exApart (N := [⟨some b_2, 52, [(.slice w1_fPins_a w1.fPins.length w1_fPins_c), (.slice w1_fStrokes_a w1.fStrokes.length w1_fStrokes_c)]⟩]) w1_fPins_h (fun _ => List.not_mem_nil) [1] (by kernel_rfl)) (hm.exApart (N := [⟨some b_2, 52, [(.slice w1_fPins_a w1.fPins.length w1_fPins_c), (.slice w1_fStrokes_a w1.fStrokes.length w1_fStrokes_c)]⟩]) w1_fStrokes_h (fun _ => List.not_mem_nil) [1] (by kernel_rfl)) ht_12) ?_)
      rintro w v w' hm ⟨o_13, cap_14, sp_15, _, rfl, hs_16, ho_17, o_18, cap_19, sp_20, _, rfl, hs_21, ho_22, rfl, hm'⟩
      refine ⟨_, hm.appW (ps := [(1, ⟨some b_2, 52, [(.slice w1_fPins_a w1.fPins.length w1_fPins_c), (.slice w1_fStrokes_a w1.fStrokes.length w1_fStrokes_c)]⟩)]) (N := [⟨o_13, 124, row encGWornPin t_3.1.fPins sp_15⟩, ⟨o_18, 2, row encI64 t_3.1.fStrokes sp_20⟩]) hm' (by kernel_rfl) (by kernel_rfl), jkO ?_⟩
      clear hm hm'
      refine jo_f [(0, 0), (0, 0), (0, 0)] (by kernel_rfl) ?_
      refine toO (by kernel_rfl) (p_a 0 [0] (by kernel_rfl) (fun b => by kernel_rfl) (fun b_23 => jkO ?_))
      refine toO (by kernel_rfl) (p_s 0 [5] (by kernel_rfl) (by kernel_rfl) (jkO ?_))
      refine jo_f [(0, 0)] (by kernel_rfl) ?_
      refine jo_end (by kernel_rfl) ?_
      refine jx_then ?_
      refine jc_seq ?_
      refine jc_seq ?_
      refine jc_region ?_
      refine jo_f [(0, 0), (0, 0)] (by kernel_rfl) ?_
      refine jo_end (by kernel_rfl) ?_
      refine jx_then ?_
      refine jc_cond (!t_3.2) (by kernel_rfl) (fun hc_25 => ?_) (fun hc_25 => ?_)
      · replace h := ifT hc_25 h
        refine jc_seq ?_
        refine jc_region ?_
        refine jo_f [(0, 0)] (by kernel_rfl) ?_
        refine toO (by kernel_rfl) (p_s 0 [2] (by kernel_rfl) (by kernel_rfl) (jkO ?_))
        refine jo_f [(0, 0)] (by kernel_rfl) ?_
        refine jo_end (by kernel_rfl) ?_
        refine jx_then ?_
        refine jc_ret ?_
        refine jx_thenr ?_
        obtain rfl := Option.some.inj h
        refine jx_ghost 124 encGWornPin ?_
        refine jx_ghost 2 encI64 ?_
        exact jx_ret [2] (.tuple #[(.agg #[(.slice none 0 0), (.slice none 0 0)]), (.int .i64 3)]) [(b_3, b_3), (b_3, b_3)] rfl (by kernel_rfl) (by kernel_rfl) (fun w hm => ⟨none, 0, [], 0, rfl, (fun e => absurd rfl e), (fun _ => ⟨rfl, rfl⟩), none, 0, [], 0, rfl, (fun e => absurd rfl e), (fun _ => ⟨rfl, rfl⟩), rfl, hm.pick [6, 7] (by kernel_rfl) (by kernel_rfl)⟩)
      · replace h := ifF hc_25 h
        refine jc_skip ?_
        refine jx_then ?_
        refine jc_seq ?_
        refine jc_region ?_
        refine jo_f [(5, 0)] (by kernel_rfl) ?_
        refine toO (by kernel_rfl) (p_s 0 [2] (by kernel_rfl) (by kernel_rfl) (jkO ?_))
        refine jo_f [(0, 0)] (by kernel_rfl) ?_
        refine jo_end (by kernel_rfl) ?_
        refine jx_then ?_
        refine jc_ret ?_
        obtain rfl := Option.some.inj h
        exact jx_ret [2] (.tuple #[(.agg #[(.slice (o_13.map fun b => ⟨b, 0, none⟩) t_3.1.fPins.length cap_14), (.slice (o_18.map fun b => ⟨b, 0, none⟩) t_3.1.fStrokes.length cap_19)]), (.int .i64 0)]) [(b_3, b_3), (b_3, b_3)] rfl (by kernel_rfl) (by kernel_rfl) (fun w hm => ⟨o_13, cap_14, sp_15, t_3.1.fPins.length, rfl, hs_16, ho_17, o_18, cap_19, sp_20, t_3.1.fStrokes.length, rfl, hs_21, ho_22, rfl, hm.pick [3, 4] (by kernel_rfl) (by kernel_rfl)⟩)

/-! ### impl.TurnWear -/
noncomputable def impl_TurnWear.k_11 (f0 : GFrame) (xs_6 : List GWornPin) (xs_10 : List Int) : Option (GWear × Int) := (impl_ValidWear f0 (⟨xs_6, xs_10⟩ : GWear)).bind fun t_12 => (if (!t_12) = true then some ((⟨[], []⟩ : GWear), 3) else some ((⟨xs_6, xs_10⟩ : GWear), 0))
noncomputable def impl_TurnWear.l_15 (turns2 : Int) (t_9 : (List Int)) : ((List Int) × Int) → Option (((List Int) × Int) ⊕ ((List Int)))
  | (xs_13, i_14) => (if (decide (i_14 < (t_9.length : Int))) = true then (ix t_9 i_14).bind fun x_17 => (ix xs_13 i_14).bind fun x_18 => (ix xs_13 i_14).bind fun x_19 => some (.inl ((xs_13.set i_14.toNat (w64 (x_18 + (w64 (x_17 * turns2))))), (w64 (i_14 + 1)))) else some (.inr xs_13))
noncomputable def impl_TurnWear.k_7 (f0 : GFrame) (w1 : GWear) (turns2 : Int) (t_5 : GWear) (xs_6 : List GWornPin) : Option (GWear × Int) := (impl_Wear_drum w1).bind fun t_8 => (impl_Frame_byTrack f0 t_8).bind fun t_9 => (loop (impl_TurnWear.l_15 turns2 t_9) (t_5.fStrokes, 0)).bind fun t_16 => impl_TurnWear.k_11 f0 xs_6 t_16
noncomputable def impl_TurnWear.l_22 (turns2 : Int) (t_5 : GWear) : ((List GWornPin) × Int) → Option (((List GWornPin) × Int) ⊕ ((List GWornPin)))
  | (xs_20, i_21) => (if (decide (i_21 < (t_5.fPins.length : Int))) = true then (ix xs_20 i_21).bind fun x_24 => (ix xs_20 i_21).bind fun x_25 => some (.inl ((xs_20.set i_21.toNat (⟨x_25.fStep, x_25.fTrack, (w64 (x_24.fTurns + turns2))⟩ : GWornPin)), (w64 (i_21 + 1)))) else some (.inr xs_20))
noncomputable def impl_TurnWear (f0 : GFrame) (w1 : GWear) (turns2 : Int) : Option (GWear × Int) := (impl_wearCode f0 w1 []).bind fun t_1 => (impl_isMade turns2).bind fun t_2 => (impl_unless t_2 2).bind fun t_3 => (impl_firstOf [t_1, t_3]).bind fun t_4 => (if (t_4 != 0) = true then some ((⟨[], []⟩ : GWear), t_4) else (impl_Wear_own w1).bind fun t_5 => (loop (impl_TurnWear.l_22 turns2 t_5) (t_5.fPins, 0)).bind fun t_23 => impl_TurnWear.k_7 f0 w1 turns2 t_5 t_23)
set_option maxRecDepth 100000 in
theorem impl_TurnWear.calls (f0 : GFrame) (w1 : GWear) (turns2 : Int) (w : World) (r : GWear × Int) (f0_fHammers_a : Option Addr) (f0_fHammers_an : Nat) (f0_fHammers_c : Nat) (f0_fHammers_h : Rw w f0_fHammers_a 2 encGHammer f0.fHammers) (f0_fHammers_hn : f0.fHammers.length = f0_fHammers_an) (w1_fPins_a : Option Addr) (w1_fPins_an : Nat) (w1_fPins_c : Nat) (w1_fPins_h : Rw w w1_fPins_a 3 encGWornPin w1.fPins) (w1_fPins_hn : w1.fPins.length = w1_fPins_an) (w1_fStrokes_a : Option Addr) (w1_fStrokes_an : Nat) (w1_fStrokes_c : Nat) (w1_fStrokes_h : Rw w w1_fStrokes_a 1 encI64 w1.fStrokes) (w1_fStrokes_hn : w1.fStrokes.length = w1_fStrokes_an) (h : impl_TurnWear f0 w1 turns2 = some r) :
    Calls Try.prog 66 #[(.agg #[(.int .i16 f0.fSteps), (.slice f0_fHammers_a f0_fHammers_an f0_fHammers_c)]), (.agg #[(.slice w1_fPins_a w1_fPins_an w1_fPins_c), (.slice w1_fStrokes_a w1_fStrokes_an w1_fStrokes_c)]), (.int .i64 turns2)] w fun e w' => ∃ v, e = .returned v ∧ (∃ (o0 : Option Nat) (c0 : Nat) (s0 : List Value) (n0 : Nat), r.1.fPins.length = n0 ∧ (o0 ≠ none → n0 ≤ c0 ∧ s0.length = (c0 - n0) * 3) ∧ (o0 = none → r.1.fPins = [] ∧ c0 = 0) ∧ ∃ (o1 : Option Nat) (c1 : Nat) (s1 : List Value) (n1 : Nat), r.1.fStrokes.length = n1 ∧ (o1 ≠ none → n1 ≤ c1 ∧ s1.length = (c1 - n1) * 1) ∧ (o1 = none → r.1.fStrokes = [] ∧ c1 = 0) ∧ v = .tuple #[.agg #[.slice (o0.map fun b => ⟨b, 0, none⟩) n0 c0, .slice (o1.map fun b => ⟨b, 0, none⟩) n1 c1], (.int .i64 r.2)] ∧ Mem w [] [⟨o0, 124, row encGWornPin r.1.fPins s0⟩, ⟨o1, 2, row encI64 r.1.fStrokes s1⟩] w') := by
  subst f0_fHammers_hn w1_fPins_hn w1_fStrokes_hn
  rw [impl_TurnWear] at h
  refine enter (args := [(.agg #[(.int .i16 f0.fSteps), (.slice f0_fHammers_a f0.fHammers.length f0_fHammers_c)]), (.agg #[(.slice w1_fPins_a w1.fPins.length w1_fPins_c), (.slice w1_fStrokes_a w1.fStrokes.length w1_fStrokes_c)]), (.int .i64 turns2)]) Try.func66 rfl Try.ntmps66 (by kernel_rfl) (L := []) (W := []) (Mem.start w) ?_
  refine jc_seq ?_
  refine jc_region ?_
  refine toO (by kernel_rfl) (p_a 0 [0] (by kernel_rfl) (fun b => by kernel_rfl) (fun b_1 => jkO ?_))
  refine toO (by kernel_rfl) (p_a 0 [0] (by kernel_rfl) (fun b => by kernel_rfl) (fun b_2 => jkO ?_))
  refine toO (by kernel_rfl) (p_a 0 [0] (by kernel_rfl) (fun b => by kernel_rfl) (fun b_3 => jkO ?_))
  refine jo_f [(0, 0)] (by kernel_rfl) ?_
  refine jo_end (by kernel_rfl) ?_
  refine jx_then ?_
  refine jc_seq ?_
  refine jc_seq ?_
  refine jc_region ?_
  refine jo_f [(0, 0), (1, 0)] (by kernel_rfl) ?_
  obtain ⟨t_1, ht_10, h⟩ := bd h
  refine toO (by kernel_rfl) (p_call 0 101 #[(.agg #[(.int .i16 f0.fSteps), (.slice f0_fHammers_a f0.fHammers.length f0_fHammers_c)]), (.agg #[(.slice w1_fPins_a w1.fPins.length w1_fPins_c), (.slice w1_fStrokes_a w1.fStrokes.length w1_fStrokes_c)]), (.slice none 0 0)] (by kernel_rfl) (by kernel_rfl) (fun w hm => impl_wearCode.calls f0 w1 [] w _ f0_fHammers_a f0.fHammers.length f0_fHammers_c (hm.exRow f0_fHammers_h List.not_mem_nil) rfl w1_fPins_a w1.fPins.length w1_fPins_c (hm.exRow w1_fPins_h List.not_mem_nil) rfl w1_fStrokes_a w1.fStrokes.length w1_fStrokes_c (hm.exRow w1_fStrokes_h List.not_mem_nil) rfl none 0 0 Rw.nil rfl ht_10) ?_)
  rintro w v w' hm ⟨rfl, hm'⟩
  refine ⟨_, hm.app hm', jkO ?_⟩
  clear hm hm'
  refine jo_f [(0, 0)] (by kernel_rfl) ?_
  obtain ⟨t_2, ht_11, h⟩ := bd h
  refine toO (by kernel_rfl) (p_call 0 85 #[(.int .i64 turns2)] (by kernel_rfl) (by kernel_rfl) (fun w hm => impl_isMade.calls turns2 w _ ht_11) ?_)
  rintro w v w' hm ⟨rfl, hm'⟩
  refine ⟨_, hm.app hm', jkO ?_⟩
  clear hm hm'
  obtain ⟨t_3, ht_12, h⟩ := bd h
  refine toO (by kernel_rfl) (p_call 0 108 #[(.bool t_2), (.int .i64 2)] (by kernel_rfl) (by kernel_rfl) (fun w hm => impl_unless.calls t_2 2 w _ ht_12) ?_)
  rintro w v w' hm ⟨rfl, hm'⟩
  refine ⟨_, hm.app hm', jkO ?_⟩
  clear hm hm'
  refine toO (by kernel_rfl) (p_a 0 [0] (by kernel_rfl) (fun b => by kernel_rfl) (fun b_13 => jkO ?_))
  obtain ⟨t_4, ht_14, h⟩ := bd h
  refine toO (by kernel_rfl) (p_call 0 106 #[(.slice (some ⟨b_13, 0, none⟩) 2 2)] (by kernel_rfl) (by kernel_rfl) (fun w hm => impl_firstOf.calls [t_1, t_3] w _ (some ⟨b_13, 0, none⟩) 2 2 (hm.ownRow (hh := 3) (o := (some b_13)) (T := 2) (enc := encI64) (xs := [t_1, t_3]) (sp := []) (by kernel_rfl) (fun e => nomatch e) encI64_len) rfl ht_14) ?_)
  rintro w v w' hm ⟨rfl, hm'⟩
  refine ⟨_, hm.app hm', jkO ?_⟩
  clear hm hm'
  refine jo_f [(0, 0)] (by kernel_rfl) ?_
  refine jo_end (by kernel_rfl) ?_
  refine jx_then ?_
  refine jc_seq ?_
  refine jc_region ?_
  refine jo_f [(0, 0), (0, 0)] (by kernel_rfl) ?_
  refine jo_end (by kernel_rfl) ?_
  refine jx_then ?_
  refine jc_cond (t_4 != 0) (by kernel_rfl) (fun hc_15 => ?_) (fun hc_15 => ?_)
  · replace h := ifT hc_15 h
    refine jc_seq ?_
    refine jc_region ?_
    refine jo_f [(0, 0), (0, 0)] (by kernel_rfl) ?_
    refine toO (by kernel_rfl) (p_s 0 [2] (by kernel_rfl) (by kernel_rfl) (jkO ?_))
    refine jo_f [(0, 0)] (by kernel_rfl) ?_
    refine jo_end (by kernel_rfl) ?_
    refine jx_then ?_
    refine jc_ret ?_
    refine jx_thenr ?_
    obtain rfl := Option.some.inj h
    refine jx_ghost 124 encGWornPin ?_
    refine jx_ghost 2 encI64 ?_
    exact jx_ret [2] (.tuple #[(.agg #[(.slice none 0 0), (.slice none 0 0)]), (.int .i64 t_4)]) [(b_3, b_3), (b_3, b_3)] rfl (by kernel_rfl) (by kernel_rfl) (fun w hm => ⟨none, 0, [], 0, rfl, (fun e => absurd rfl e), (fun _ => ⟨rfl, rfl⟩), none, 0, [], 0, rfl, (fun e => absurd rfl e), (fun _ => ⟨rfl, rfl⟩), rfl, hm.pick [4, 5] (by kernel_rfl) (by kernel_rfl)⟩)
  · replace h := ifF hc_15 h
    refine jc_skip ?_
    refine jx_then ?_
    refine jc_seq ?_
    refine jc_region ?_
    refine jo_f [(1, 0)] (by kernel_rfl) ?_
    obtain ⟨t_5, ht_16, h⟩ := bd h
    refine toO (by kernel_rfl) (p_call 0 115 #[(.agg #[(.slice w1_fPins_a w1.fPins.length w1_fPins_c), (.slice w1_fStrokes_a w1.fStrokes.length w1_fStrokes_c)])] (by kernel_rfl) (by kernel_rfl) (fun w hm => impl_Wear_own.calls w1 w _ w1_fPins_a w1.fPins.length w1_fPins_c (hm.exRow w1_fPins_h List.not_mem_nil) rfl w1_fStrokes_a w1.fStrokes.length w1_fStrokes_c (hm.exRow w1_fStrokes_h List.not_mem_nil) rfl ht_16) ?_)
    rintro w v w' hm ⟨o_17, cap_18, sp_19, _, rfl, hs_20, ho_21, o_22, cap_23, sp_24, _, rfl, hs_25, ho_26, rfl, hm'⟩
    refine ⟨_, hm.app hm', jkO ?_⟩
    clear hm hm'
    refine toO (by kernel_rfl) (p_a 0 [0] (by kernel_rfl) (fun b => by kernel_rfl) (fun b_27 => jkO ?_))
    refine toO (by kernel_rfl) (p_s 0 [6] (by kernel_rfl) (by kernel_rfl) (jkO ?_))
    refine jo_end (by kernel_rfl) ?_
    refine jx_then ?_
    refine jc_seq ?_
    refine jc_seq ?_
    refine jc_region ?_
    refine jo_f [(0, 0), (6, 0), (0, 0), (0, 0)] (by kernel_rfl) ?_
    refine jo_end (by kernel_rfl) ?_
    refine jx_then ?_
    refine jc_meet (fun (j : (List GWornPin)) => match j with | xs_6 => impl_TurnWear.k_7 f0 w1 turns2 t_5 xs_6 = some r ∧ (xs_6.length = t_5.fPins.length) ∧ ((o_17 = none → xs_6 = [] ∧ cap_18 = 0))) (fun (j : (List GWornPin)) => match j with | xs_6 => [(2, [], (.int .i64 turns2)), (3, [], (.pointer (some ⟨b_1, 0, none⟩))), (4, [], (.pointer (some ⟨b_2, 0, none⟩))), (6, [], (.pointer (some ⟨b_3, 0, none⟩))), (7, [], (.int .i64 0)), (9, [], (.pointer (some ⟨b_27, 0, none⟩)))]) (fun (j : (List GWornPin)) => match j with | xs_6 => [⟨some b_1, 35, [(.int .i16 f0.fSteps), (.slice f0_fHammers_a f0.fHammers.length f0_fHammers_c)]⟩, ⟨some b_2, 52, [(.slice w1_fPins_a w1.fPins.length w1_fPins_c), (.slice w1_fStrokes_a w1.fStrokes.length w1_fStrokes_c)]⟩, ⟨some b_3, 52, [(.slice none 0 0), (.slice none 0 0)]⟩, ⟨(some b_13), 2, row encI64 [t_1, t_3] []⟩, ⟨o_17, 124, row encGWornPin xs_6 sp_19⟩, ⟨o_22, 2, row encI64 t_5.fStrokes sp_24⟩, ⟨some b_27, 52, [(.slice (o_17.map fun b => ⟨b, 0, none⟩) t_5.fPins.length cap_18), (.slice (o_22.map fun b => ⟨b, 0, none⟩) t_5.fStrokes.length cap_23)]⟩]) ?_ ?_
    · refine jc_block ?_
      obtain ⟨t_23, ht_239, hr_232⟩ := bd h
      refine jc_loop (fun (s : (List GWornPin) × Int) (x : Unit) => match s, x with | ⟨xs_20, i_21⟩, _ => (xs_20.length = t_5.fPins.length) ∧ ((o_17 = none → xs_20 = [] ∧ cap_18 = 0))) (fun (s : (List GWornPin) × Int) (x : Unit) => match s, x with | ⟨xs_20, i_21⟩, _ => [(2, [], (.int .i64 turns2)), (3, [], (.pointer (some ⟨b_1, 0, none⟩))), (4, [], (.pointer (some ⟨b_2, 0, none⟩))), (6, [], (.pointer (some ⟨b_3, 0, none⟩))), (7, [], (.int .i64 0)), (9, [], (.pointer (some ⟨b_27, 0, none⟩))), (29, [], (.int .i64 (t_5.fPins.length : Int))), (30, [], (.int .i64 i_21))]) (fun (s : (List GWornPin) × Int) (x : Unit) => match s, x with | ⟨xs_20, i_21⟩, _ => [⟨some b_1, 35, [(.int .i16 f0.fSteps), (.slice f0_fHammers_a f0.fHammers.length f0_fHammers_c)]⟩, ⟨some b_2, 52, [(.slice w1_fPins_a w1.fPins.length w1_fPins_c), (.slice w1_fStrokes_a w1.fStrokes.length w1_fStrokes_c)]⟩, ⟨some b_3, 52, [(.slice none 0 0), (.slice none 0 0)]⟩, ⟨(some b_13), 2, row encI64 [t_1, t_3] []⟩, ⟨o_17, 124, row encGWornPin xs_20 sp_19⟩, ⟨o_22, 2, row encI64 t_5.fStrokes sp_24⟩, ⟨some b_27, 52, [(.slice (o_17.map fun b => ⟨b, 0, none⟩) t_5.fPins.length cap_18), (.slice (o_22.map fun b => ⟨b, 0, none⟩) t_5.fStrokes.length cap_23)]⟩]) ht_239 () ⟨rfl, ho_21⟩ (by kernel_rfl) [0, 1, 2, 3, 4, 5, 6] (by kernel_rfl) (by kernel_rfl) ?_
      rintro ⟨xs_20, i_21⟩ _ y_233 ⟨hn_231, ho_230⟩ h
      rw [impl_TurnWear.l_22] at h
      refine jc_seq ?_
      refine jc_region ?_
      refine jo_f [(0, 0)] (by kernel_rfl) ?_
      refine jo_end (by kernel_rfl) ?_
      refine jx_then ?_
      refine jc_seq ?_
      refine jc_cond (decide (i_21 < (t_5.fPins.length : Int))) (by kernel_rfl) (fun hc_235 => ?_) (fun hc_235 => ?_)
      · replace h := ifT hc_235 h
        refine jc_skip ?_
        refine jx_then ?_
        refine jc_seq ?_
        refine jc_block ?_
        refine jc_seq ?_
        refine jc_region ?_
        refine jo_f [(0, 0), (0, 0)] (by kernel_rfl) ?_
        refine jo_end (by kernel_rfl) ?_
        refine jx_then ?_
        refine jc_region ?_
        refine jo_f [(0, 0), (6, 0), (0, 0)] (by kernel_rfl) ?_
        obtain ⟨x_24, hx_236, h⟩ := bd h
        refine toO (by kernel_rfl) (p_idx 0 (o_17.map fun b => ⟨b, 0, none⟩) t_5.fPins.length i_21 3 (by kernel_rfl) (by kernel_rfl) (ix_some hx_236).1 (ltn hx_236 hn_231) (spo ho_230 hx_236) (jkO ?_))
        refine jo_f [(0, 0)] (by kernel_rfl) ?_
        refine toO (by kernel_rfl) (p_ld 0 (aB (o_17.map fun b => ⟨b, 0, none⟩)) (aO (o_17.map fun b => ⟨b, 0, none⟩) + i_21.toNat * 3 + 2) false (((encGWornPin x_24).drop 2).take 1) (by kernel_rfl) (by kernel_rfl) (by kernel_rfl) (fun w hm => (((hm.ownRow (hh := 4) (o := o_17) (T := 124) (enc := encGWornPin) (xs := xs_20) (sp := sp_19) (by kernel_rfl) (fun e => (ho_230 e).1) encGWornPin_len).at hx_236).sub 2 1)) (jkO ?_))
        refine jo_f [(0, 0), (0, 0)] (by kernel_rfl) ?_
        obtain ⟨x_25, hx_237, h⟩ := bd h
        refine toO (by kernel_rfl) (p_idx 0 (o_17.map fun b => ⟨b, 0, none⟩) t_5.fPins.length i_21 3 (by kernel_rfl) (by kernel_rfl) (ix_some hx_237).1 (ltn hx_237 hn_231) (spo ho_230 hx_237) (jkO ?_))
        refine jo_f [(0, 0)] (by kernel_rfl) ?_
        refine toO (by kernel_rfl) (p_strO 0 4 o_17 124 encGWornPin xs_20 sp_19 i_21 (⟨x_25.fStep, x_25.fTrack, (w64 (x_24.fTurns + turns2))⟩ : GWornPin) 3 2 [(.int .i64 (w64 (x_24.fTurns + turns2)))] (by kernel_rfl) (by kernel_rfl) (by kernel_rfl) (fun e => (ho_230 e).1) encGWornPin_len hx_237 (by kernel_rfl) (by kernel_rfl) (jkO ?_))
        refine jo_end (by kernel_rfl) ?_
        refine jx_inn ?_
        refine jx_then ?_
        refine jc_region ?_
        refine jo_f [(0, 0), (0, 0)] (by kernel_rfl) ?_
        refine jo_end (by kernel_rfl) ?_
        exact jx_back ((xs_20.set i_21.toNat (⟨x_25.fStep, x_25.fTrack, (w64 (x_24.fTurns + turns2))⟩ : GWornPin)), (w64 (i_21 + 1))) () (Option.some.inj h).symm ⟨(List.length_set.trans hn_231), (set_ho ho_230)⟩ [0, 1, 2, 3, 4, 5, 6] (by kernel_rfl) (by kernel_rfl) (by kernel_rfl)
      · replace h := ifF hc_235 h
        refine jc_exit ?_
        refine jx_thenx ?_
        refine jx_leave xs_20 (Option.some.inj h).symm (fun e_238 => ?_)
        subst e_238
        refine jx_ine ?_
        exact jx_meet xs_20 ⟨hr_232, hn_231, ho_230⟩ (by kernel_rfl) [0, 1, 2, 3, 4, 5, 6] (by kernel_rfl) (by kernel_rfl)
    · rintro xs_6 ⟨h, hn_91, ho_90⟩
      replace h : impl_TurnWear.k_7 f0 w1 turns2 t_5 xs_6 = some r := h
      rw [impl_TurnWear.k_7] at h
      refine jx_then ?_
      refine jc_seq ?_
      refine jc_seq ?_
      refine jc_draw [⟨some b_1, 35, [(.int .i16 f0.fSteps), (.slice f0_fHammers_a f0.fHammers.length f0_fHammers_c)]⟩, ⟨some b_2, 52, [(.slice w1_fPins_a w1.fPins.length w1_fPins_c), (.slice w1_fStrokes_a w1.fStrokes.length w1_fStrokes_c)]⟩, ⟨some b_3, 52, [(.slice none 0 0), (.slice none 0 0)]⟩, ⟨(some b_13), 2, row encI64 [t_1, t_3] []⟩, ⟨o_17, 124, row encGWornPin xs_6 sp_19⟩, ⟨o_22, 2, row encI64 t_5.fStrokes sp_24⟩, ⟨some b_27, 52, [(.slice (o_17.map fun b => ⟨b, 0, none⟩) t_5.fPins.length cap_18), (.slice (o_22.map fun b => ⟨b, 0, none⟩) t_5.fStrokes.length cap_23)]⟩] 6 (by kernel_rfl) (by kernel_rfl) ?_
      refine jd_f [⟨0, 0, 0⟩, ⟨1, 1, 0⟩, ⟨5, 0, 0⟩] 3 (by kernel_rfl) (by kernel_rfl) (fun w h => h.pick [0, 1, 2, 3, 4, 5, 6] (by kernel_rfl) (by kernel_rfl)) (by kernel_rfl) (by kernel_rfl) ?_
      obtain ⟨t_8, ht_161, h⟩ := bd h
      refine toD 2 (by kernel_rfl) (p_call 0 102 #[(.agg #[(.slice w1_fPins_a w1.fPins.length w1_fPins_c), (.slice w1_fStrokes_a w1.fStrokes.length w1_fStrokes_c)])] (by kernel_rfl) (by kernel_rfl) (fun w hm => impl_Wear_drum.calls w1 w _ w1_fPins_a w1.fPins.length w1_fPins_c (hm.exRow w1_fPins_h List.not_mem_nil) rfl w1_fStrokes_a w1.fStrokes.length w1_fStrokes_c (hm.exRow w1_fStrokes_h List.not_mem_nil) rfl ht_161) ?_)
      rintro w v w' hm ⟨rfl, hm'⟩
      refine ⟨_, hm.app hm', jkD (fun w h => h.pick [0, 1, 2, 3, 4, 5, 6] (by kernel_rfl) (by kernel_rfl)) ?_⟩
      clear hm hm'
      obtain ⟨t_9, ht_162, h⟩ := bd h
      refine toD 3 (by kernel_rfl) (p_call 0 93 #[(.agg #[(.int .i16 f0.fSteps), (.slice f0_fHammers_a f0.fHammers.length f0_fHammers_c)]), (.agg (row encU32 t_8.1 []).toArray)] (by kernel_rfl) (by kernel_rfl) (fun w hm => impl_Frame_byTrack.calls f0 t_8 w _ f0_fHammers_a f0.fHammers.length f0_fHammers_c (hm.exRow f0_fHammers_h List.not_mem_nil) rfl ht_162) ?_)
      rintro w v w' hm ⟨o_163, cap_164, sp_165, _, rfl, hs_166, ho_167, rfl, hm'⟩
      refine ⟨_, hm.app hm', jkD (fun w h => h.pick [0, 1, 2, 3, 4, 5, 6] (by kernel_rfl) (by kernel_rfl)) ?_⟩
      clear hm hm'
      refine jd_f [⟨4, 0, 0⟩] 0 (by kernel_rfl) (by kernel_rfl) (fun w h => h.pick [0, 1, 2, 3, 4, 5, 6] (by kernel_rfl) (by kernel_rfl)) (by kernel_rfl) (by kernel_rfl) ?_
      refine jd_end (by kernel_rfl) ?_
      refine jx_then ?_
      refine jc_meet (fun (j : (List Int)) => match j with | xs_10 => impl_TurnWear.k_11 f0 xs_6 xs_10 = some r ∧ (xs_10.length = t_5.fStrokes.length) ∧ ((o_22 = none → xs_10 = [] ∧ cap_23 = 0))) (fun (j : (List Int)) => match j with | xs_10 => [(3, [], (.pointer (some ⟨b_1, 0, none⟩))), (6, [], (.pointer (some ⟨b_3, 0, none⟩))), (7, [], (.int .i64 0)), (9, [], (.pointer (some ⟨b_27, 0, none⟩)))]) (fun (j : (List Int)) => match j with | xs_10 => [⟨some b_1, 35, [(.int .i16 f0.fSteps), (.slice f0_fHammers_a f0.fHammers.length f0_fHammers_c)]⟩, ⟨some b_2, 52, [(.slice w1_fPins_a w1.fPins.length w1_fPins_c), (.slice w1_fStrokes_a w1.fStrokes.length w1_fStrokes_c)]⟩, ⟨some b_3, 52, [(.slice none 0 0), (.slice none 0 0)]⟩, ⟨(some b_13), 2, row encI64 [t_1, t_3] []⟩, ⟨o_17, 124, row encGWornPin xs_6 sp_19⟩, ⟨o_22, 2, row encI64 xs_10 sp_24⟩, ⟨some b_27, 52, [(.slice (o_17.map fun b => ⟨b, 0, none⟩) t_5.fPins.length cap_18), (.slice (o_22.map fun b => ⟨b, 0, none⟩) t_5.fStrokes.length cap_23)]⟩, ⟨o_163, 2, row encI64 t_9 sp_165⟩]) ?_ ?_
      · refine jc_block ?_
        obtain ⟨t_16, ht_219, hr_211⟩ := bd h
        refine jc_loop (fun (s : (List Int) × Int) (x : Unit) => match s, x with | ⟨xs_13, i_14⟩, _ => (xs_13.length = t_5.fStrokes.length) ∧ ((o_22 = none → xs_13 = [] ∧ cap_23 = 0))) (fun (s : (List Int) × Int) (x : Unit) => match s, x with | ⟨xs_13, i_14⟩, _ => [(2, [], (.int .i64 turns2)), (3, [], (.pointer (some ⟨b_1, 0, none⟩))), (6, [], (.pointer (some ⟨b_3, 0, none⟩))), (7, [], (.int .i64 0)), (9, [], (.pointer (some ⟨b_27, 0, none⟩))), (47, [], (.slice (o_163.map fun b => ⟨b, 0, none⟩) t_9.length cap_164)), (48, [], (.int .i64 (t_9.length : Int))), (49, [], (.int .i64 i_14))]) (fun (s : (List Int) × Int) (x : Unit) => match s, x with | ⟨xs_13, i_14⟩, _ => [⟨some b_1, 35, [(.int .i16 f0.fSteps), (.slice f0_fHammers_a f0.fHammers.length f0_fHammers_c)]⟩, ⟨some b_2, 52, [(.slice w1_fPins_a w1.fPins.length w1_fPins_c), (.slice w1_fStrokes_a w1.fStrokes.length w1_fStrokes_c)]⟩, ⟨some b_3, 52, [(.slice none 0 0), (.slice none 0 0)]⟩, ⟨(some b_13), 2, row encI64 [t_1, t_3] []⟩, ⟨o_17, 124, row encGWornPin xs_6 sp_19⟩, ⟨o_22, 2, row encI64 xs_13 sp_24⟩, ⟨some b_27, 52, [(.slice (o_17.map fun b => ⟨b, 0, none⟩) t_5.fPins.length cap_18), (.slice (o_22.map fun b => ⟨b, 0, none⟩) t_5.fStrokes.length cap_23)]⟩, ⟨o_163, 2, row encI64 t_9 sp_165⟩]) ht_219 () ⟨rfl, ho_26⟩ (by kernel_rfl) [0, 1, 2, 3, 4, 5, 6, 7] (by kernel_rfl) (by kernel_rfl) ?_
        rintro ⟨xs_13, i_14⟩ _ y_212 ⟨hn_210, ho_209⟩ h
        rw [impl_TurnWear.l_15] at h
        refine jc_seq ?_
        refine jc_region ?_
        refine jo_f [(0, 0)] (by kernel_rfl) ?_
        refine jo_end (by kernel_rfl) ?_
        refine jx_then ?_
        refine jc_seq ?_
        refine jc_cond (decide (i_14 < (t_9.length : Int))) (by kernel_rfl) (fun hc_214 => ?_) (fun hc_214 => ?_)
        · replace h := ifT hc_214 h
          refine jc_skip ?_
          refine jx_then ?_
          refine jc_seq ?_
          refine jc_block ?_
          refine jc_seq ?_
          refine jc_region ?_
          refine jo_f [(0, 0)] (by kernel_rfl) ?_
          obtain ⟨x_17, hx_215, h⟩ := bd h
          refine toO (by kernel_rfl) (p_idx 0 (o_163.map fun b => ⟨b, 0, none⟩) t_9.length i_14 1 (by kernel_rfl) (by kernel_rfl) (ix_some hx_215).1 (ltn hx_215 rfl) (spo ho_167 hx_215) (jkO ?_))
          refine toO (by kernel_rfl) (p_ld 0 (aB (o_163.map fun b => ⟨b, 0, none⟩)) (aO (o_163.map fun b => ⟨b, 0, none⟩) + i_14.toNat * 1) false (encI64 x_17) (by kernel_rfl) (by kernel_rfl) (by kernel_rfl) (fun w hm => ((hm.ownRow (hh := 7) (o := o_163) (T := 2) (enc := encI64) (xs := t_9) (sp := sp_165) (by kernel_rfl) (fun e => (ho_167 e).1) encI64_len).at hx_215)) (jkO ?_))
          refine jo_f [(0, 0), (0, 0)] (by kernel_rfl) ?_
          refine jo_end (by kernel_rfl) ?_
          refine jx_then ?_
          refine jc_region ?_
          refine jo_f [(0, 0), (6, 0), (0, 0)] (by kernel_rfl) ?_
          obtain ⟨x_18, hx_216, h⟩ := bd h
          refine toO (by kernel_rfl) (p_idx 0 (o_22.map fun b => ⟨b, 0, none⟩) t_5.fStrokes.length i_14 1 (by kernel_rfl) (by kernel_rfl) (ix_some hx_216).1 (ltn hx_216 hn_210) (spo ho_209 hx_216) (jkO ?_))
          refine toO (by kernel_rfl) (p_ld 0 (aB (o_22.map fun b => ⟨b, 0, none⟩)) (aO (o_22.map fun b => ⟨b, 0, none⟩) + i_14.toNat * 1) false (encI64 x_18) (by kernel_rfl) (by kernel_rfl) (by kernel_rfl) (fun w hm => ((hm.ownRow (hh := 5) (o := o_22) (T := 2) (enc := encI64) (xs := xs_13) (sp := sp_24) (by kernel_rfl) (fun e => (ho_209 e).1) encI64_len).at hx_216)) (jkO ?_))
          refine jo_f [(0, 0), (0, 0), (0, 0), (0, 0)] (by kernel_rfl) ?_
          obtain ⟨x_19, hx_217, h⟩ := bd h
          refine toO (by kernel_rfl) (p_idx 0 (o_22.map fun b => ⟨b, 0, none⟩) t_5.fStrokes.length i_14 1 (by kernel_rfl) (by kernel_rfl) (ix_some hx_217).1 (ltn hx_217 hn_210) (spo ho_209 hx_217) (jkO ?_))
          refine toO (by kernel_rfl) (p_strO 0 5 o_22 2 encI64 xs_13 sp_24 i_14 (w64 (x_18 + (w64 (x_17 * turns2)))) 1 0 [(.int .i64 (w64 (x_18 + (w64 (x_17 * turns2)))))] (by kernel_rfl) (by kernel_rfl) (by kernel_rfl) (fun e => (ho_209 e).1) encI64_len hx_217 (by kernel_rfl) (by kernel_rfl) (jkO ?_))
          refine jo_end (by kernel_rfl) ?_
          refine jx_inn ?_
          refine jx_then ?_
          refine jc_region ?_
          refine jo_f [(0, 0), (0, 0)] (by kernel_rfl) ?_
          refine jo_end (by kernel_rfl) ?_
          exact jx_back ((xs_13.set i_14.toNat (w64 (x_18 + (w64 (x_17 * turns2))))), (w64 (i_14 + 1))) () (Option.some.inj h).symm ⟨(List.length_set.trans hn_210), (set_ho ho_209)⟩ [0, 1, 2, 3, 4, 5, 6, 7] (by kernel_rfl) (by kernel_rfl) (by kernel_rfl)
        · replace h := ifF hc_214 h
          refine jc_exit ?_
          refine jx_thenx ?_
          refine jx_leave xs_13 (Option.some.inj h).symm (fun e_218 => ?_)
          subst e_218
          refine jx_ine ?_
          exact jx_meet xs_13 ⟨hr_211, hn_210, ho_209⟩ (by kernel_rfl) [0, 1, 2, 3, 4, 5, 6, 7] (by kernel_rfl) (by kernel_rfl)
      · rintro xs_10 ⟨h, hn_192, ho_191⟩
        replace h : impl_TurnWear.k_11 f0 xs_6 xs_10 = some r := h
        rw [impl_TurnWear.k_11] at h
        refine jx_then ?_
        refine jc_seq ?_
        refine jc_seq ?_
        refine jc_region ?_
        refine jo_f [(0, 0), (6, 0)] (by kernel_rfl) ?_
        obtain ⟨t_12, ht_195, h⟩ := bd h
        refine toO (by kernel_rfl) (p_call 0 28 #[(.agg #[(.int .i16 f0.fSteps), (.slice f0_fHammers_a f0.fHammers.length f0_fHammers_c)]), (.agg #[(.slice (o_17.map fun b => ⟨b, 0, none⟩) t_5.fPins.length cap_18), (.slice (o_22.map fun b => ⟨b, 0, none⟩) t_5.fStrokes.length cap_23)])] (by kernel_rfl) (by kernel_rfl) (fun w hm => impl_ValidWear.calls f0 (⟨xs_6, xs_10⟩ : GWear) w _ f0_fHammers_a f0.fHammers.length f0_fHammers_c (hm.exRow f0_fHammers_h List.not_mem_nil) rfl (o_17.map fun b => ⟨b, 0, none⟩) t_5.fPins.length cap_18 (hm.ownRow (hh := 4) (o := o_17) (T := 124) (enc := encGWornPin) (xs := xs_6) (sp := sp_19) (by kernel_rfl) (fun e => (ho_90 e).1) encGWornPin_len) hn_91 (o_22.map fun b => ⟨b, 0, none⟩) t_5.fStrokes.length cap_23 (hm.ownRow (hh := 5) (o := o_22) (T := 2) (enc := encI64) (xs := xs_10) (sp := sp_24) (by kernel_rfl) (fun e => (ho_191 e).1) encI64_len) hn_192 ht_195) ?_)
        rintro w v w' hm ⟨rfl, hm'⟩
        refine ⟨_, hm.app hm', jkO ?_⟩
        clear hm hm'
        refine jo_f [(0, 0)] (by kernel_rfl) ?_
        refine jo_end (by kernel_rfl) ?_
        refine jx_then ?_
        refine jc_cond (!t_12) (by kernel_rfl) (fun hc_196 => ?_) (fun hc_196 => ?_)
        · replace h := ifT hc_196 h
          refine jc_seq ?_
          refine jc_region ?_
          refine jo_f [(0, 0)] (by kernel_rfl) ?_
          refine toO (by kernel_rfl) (p_s 0 [2] (by kernel_rfl) (by kernel_rfl) (jkO ?_))
          refine jo_f [(0, 0)] (by kernel_rfl) ?_
          refine jo_end (by kernel_rfl) ?_
          refine jx_then ?_
          refine jc_ret ?_
          refine jx_thenr ?_
          obtain rfl := Option.some.inj h
          refine jx_ghost 124 encGWornPin ?_
          refine jx_ghost 2 encI64 ?_
          exact jx_ret [2] (.tuple #[(.agg #[(.slice none 0 0), (.slice none 0 0)]), (.int .i64 3)]) [(b_3, b_3), (b_3, b_3)] rfl (by kernel_rfl) (by kernel_rfl) (fun w hm => ⟨none, 0, [], 0, rfl, (fun e => absurd rfl e), (fun _ => ⟨rfl, rfl⟩), none, 0, [], 0, rfl, (fun e => absurd rfl e), (fun _ => ⟨rfl, rfl⟩), rfl, hm.pick [8, 9] (by kernel_rfl) (by kernel_rfl)⟩)
        · replace h := ifF hc_196 h
          refine jc_skip ?_
          refine jx_then ?_
          refine jc_seq ?_
          refine jc_region ?_
          refine jo_f [(6, 0)] (by kernel_rfl) ?_
          refine toO (by kernel_rfl) (p_s 0 [2] (by kernel_rfl) (by kernel_rfl) (jkO ?_))
          refine jo_f [(0, 0)] (by kernel_rfl) ?_
          refine jo_end (by kernel_rfl) ?_
          refine jx_then ?_
          refine jc_ret ?_
          obtain rfl := Option.some.inj h
          exact jx_ret [2] (.tuple #[(.agg #[(.slice (o_17.map fun b => ⟨b, 0, none⟩) t_5.fPins.length cap_18), (.slice (o_22.map fun b => ⟨b, 0, none⟩) t_5.fStrokes.length cap_23)]), (.int .i64 0)]) [(b_3, b_3), (b_3, b_3)] rfl (by kernel_rfl) (by kernel_rfl) (fun w hm => ⟨o_17, cap_18, sp_19, t_5.fPins.length, hn_91, hs_20, ho_90, o_22, cap_23, sp_24, t_5.fStrokes.length, hn_192, hs_25, ho_191, rfl, hm.pick [4, 5] (by kernel_rfl) (by kernel_rfl)⟩)

/-! ### laws.FnExactTurnWear -/
noncomputable def laws_FnExactTurnWear.k_24 (xs_3 : List GWornPin) (xs_4 : List Int) (i_5 : Int) (t_19 : Int × (List GWornPin) × (List Int)) (xs_21 : List GWornPin) (xs_22 : List Int) (i_23 : Int) : Option (Bool) := (laws_eqWear (⟨xs_21, xs_22⟩ : GWear) (⟨xs_3, xs_4⟩ : GWear)).bind fun t_25 => (if ((!t_25) || (i_23 != i_5)) = true then some false else (laws_heldWear (⟨t_19.2.1, t_19.2.2⟩ : GWear) 1).bind fun t_26 => (if (decide (t_26 < 0)) = true then some false else (if (t_26 != t_19.1) = true then some false else some true)))
noncomputable def laws_FnExactTurnWear.k_18 (aF0 : GFrame) (aW1 : GWear) (aTurns2 : Int) (xs_3 : List GWornPin) (xs_4 : List Int) (i_5 : Int) (t_9 : GWear × Int) (q_17 : Bool) : Option (Bool) := (if q_17 = true then some false else (laws_markWear t_9.1 1).bind fun t_19 => (laws_heldWear (⟨t_19.2.1, t_19.2.2⟩ : GWear) 1).bind fun t_20 => (if (decide (t_20 < 0)) = true then some false else (if (t_20 != t_19.1) = true then some false else (laws_toFrame aF0).bind fun t_27 => (laws_toWear aW1).bind fun t_28 => (impl_TurnWear t_27 t_28 aTurns2).bind fun t_29 => laws_FnExactTurnWear.k_24 xs_3 xs_4 i_5 t_19 t_29.1.fPins t_29.1.fStrokes t_29.2)))
noncomputable def laws_FnExactTurnWear.k_6 (aF0 : GFrame) (aW1 : GWear) (aTurns2 : Int) (xs_3 : List GWornPin) (xs_4 : List Int) (i_5 : Int) : Option (Bool) := (laws_toFrame aF0).bind fun t_7 => (laws_toWear aW1).bind fun t_8 => (impl_TurnWear t_7 t_8 aTurns2).bind fun t_9 => (laws_eqWear t_9.1 (⟨xs_3, xs_4⟩ : GWear)).bind fun t_10 => (if ((!t_10) || (t_9.2 != i_5)) = true then some false else (laws_toFrame aF0).bind fun t_11 => (laws_eqFrame t_7 t_11).bind fun t_12 => (if (!t_12) = true then some false else (laws_toWear aW1).bind fun t_13 => (laws_eqWear t_8 t_13).bind fun t_14 => (if (!t_14) = true then some false else (laws_markFrame t_7 1).bind fun t_15 => (laws_markWear t_8 t_15.1).bind fun t_16 => (if (decide (t_16.1 < 0)) = true then laws_FnExactTurnWear.k_18 aF0 aW1 aTurns2 xs_3 xs_4 i_5 t_9 true else (laws_eqWear t_9.1 (⟨xs_3, xs_4⟩ : GWear)).bind fun t_30 => laws_FnExactTurnWear.k_18 aF0 aW1 aTurns2 xs_3 xs_4 i_5 t_9 ((!t_30) || (t_9.2 != i_5))))))
noncomputable def laws_FnExactTurnWear (aF0 : GFrame) (aW1 : GWear) (aTurns2 : Int) : Option (Bool) := (laws_szFrame aF0 1048576).bind fun t_1 => (if (decide (t_1 < 0)) = true then some true else (laws_szWear aW1 t_1).bind fun t_2 => (if (decide (t_2 < 0)) = true then some true else (laws_toFrame aF0).bind fun t_31 => (laws_toWear aW1).bind fun t_32 => (spec_TurnWear t_31 t_32 aTurns2).bind fun t_33 => laws_FnExactTurnWear.k_6 aF0 aW1 aTurns2 t_33.1.fPins t_33.1.fStrokes t_33.2))
set_option maxRecDepth 100000 in
set_option maxHeartbeats 8000000 in
theorem laws_FnExactTurnWear.calls (aF0 : GFrame) (aW1 : GWear) (aTurns2 : Int) (w : World) (r : Bool) (aF0_fHammers_a : Option Addr) (aF0_fHammers_an : Nat) (aF0_fHammers_c : Nat) (aF0_fHammers_h : Rw w aF0_fHammers_a 2 encGHammer aF0.fHammers) (aF0_fHammers_hn : aF0.fHammers.length = aF0_fHammers_an) (aW1_fPins_a : Option Addr) (aW1_fPins_an : Nat) (aW1_fPins_c : Nat) (aW1_fPins_h : Rw w aW1_fPins_a 3 encGWornPin aW1.fPins) (aW1_fPins_hn : aW1.fPins.length = aW1_fPins_an) (aW1_fStrokes_a : Option Addr) (aW1_fStrokes_an : Nat) (aW1_fStrokes_c : Nat) (aW1_fStrokes_h : Rw w aW1_fStrokes_a 1 encI64 aW1.fStrokes) (aW1_fStrokes_hn : aW1.fStrokes.length = aW1_fStrokes_an) (h : laws_FnExactTurnWear aF0 aW1 aTurns2 = some r) :
    Calls Try.prog 14 #[(.agg #[(.int .i16 aF0.fSteps), (.slice aF0_fHammers_a aF0_fHammers_an aF0_fHammers_c)]), (.agg #[(.slice aW1_fPins_a aW1_fPins_an aW1_fPins_c), (.slice aW1_fStrokes_a aW1_fStrokes_an aW1_fStrokes_c)]), (.int .i64 aTurns2)] w fun e w' => ∃ v, e = .returned v ∧ (v = (.bool r) ∧ Mem w [] [] w') := by
  subst aF0_fHammers_hn aW1_fPins_hn aW1_fStrokes_hn
  rw [laws_FnExactTurnWear] at h
  refine enter (args := [(.agg #[(.int .i16 aF0.fSteps), (.slice aF0_fHammers_a aF0.fHammers.length aF0_fHammers_c)]), (.agg #[(.slice aW1_fPins_a aW1.fPins.length aW1_fPins_c), (.slice aW1_fStrokes_a aW1.fStrokes.length aW1_fStrokes_c)]), (.int .i64 aTurns2)]) Try.func14 rfl Try.ntmps14 (by kernel_rfl) (L := []) (W := []) (Mem.start w) ?_
  refine jc_seq ?_
  refine jc_region ?_
  refine toO (by kernel_rfl) (p_a 0 [0] (by kernel_rfl) (fun b => by kernel_rfl) (fun b_1 => jkO ?_))
  refine toO (by kernel_rfl) (p_a 0 [0] (by kernel_rfl) (fun b => by kernel_rfl) (fun b_2 => jkO ?_))
  refine jo_f [(0, 0)] (by kernel_rfl) ?_
  refine jo_end (by kernel_rfl) ?_
  refine jx_then ?_
  refine jc_seq ?_
  refine jc_region ?_
  refine jo_f [(0, 0)] (by kernel_rfl) ?_
  refine jo_end (by kernel_rfl) ?_
  refine jx_then ?_
  refine jc_seq ?_
  refine jc_region ?_
  refine jo_f [(0, 0), (0, 0)] (by kernel_rfl) ?_
  obtain ⟨t_1, ht_3, h⟩ := bd h
  refine toO (by kernel_rfl) (p_call 0 15 #[(.agg #[(.int .i16 aF0.fSteps), (.slice aF0_fHammers_a aF0.fHammers.length aF0_fHammers_c)]), (.int .i64 1048576)] (by kernel_rfl) (by kernel_rfl) (fun w hm => laws_szFrame.calls aF0 1048576 w _ aF0_fHammers_a aF0.fHammers.length aF0_fHammers_c (hm.exRow aF0_fHammers_h List.not_mem_nil) rfl ht_3) ?_)
  rintro w v w' hm ⟨rfl, hm'⟩
  refine ⟨_, hm.app hm', jkO ?_⟩
  clear hm hm'
  refine jo_f [(0, 0)] (by kernel_rfl) ?_
  refine jo_end (by kernel_rfl) ?_
  refine jx_then ?_
  refine jc_seq ?_
  refine jc_seq ?_
  refine jc_region ?_
  refine jo_f [(0, 0), (0, 0)] (by kernel_rfl) ?_
  refine jo_end (by kernel_rfl) ?_
  refine jx_then ?_
  refine jc_cond (decide (t_1 < 0)) (by kernel_rfl) (fun hc_5 => ?_) (fun hc_5 => ?_)
  · replace h := ifT hc_5 h
    refine jc_seq ?_
    refine jc_region ?_
    refine jo_f [(0, 0)] (by kernel_rfl) ?_
    refine jo_end (by kernel_rfl) ?_
    refine jx_then ?_
    refine jc_ret ?_
    refine jx_thenr ?_
    obtain rfl := Option.some.inj h
    exact jx_ret [] (.bool true) [] rfl (by kernel_rfl) (by kernel_rfl) (fun w hm => ⟨rfl, hm.pick [] (by kernel_rfl) (by kernel_rfl)⟩)
  · replace h := ifF hc_5 h
    refine jc_skip ?_
    refine jx_then ?_
    refine jc_seq ?_
    refine jc_region ?_
    refine jo_f [(1, 0), (0, 0)] (by kernel_rfl) ?_
    obtain ⟨t_2, ht_6, h⟩ := bd h
    refine toO (by kernel_rfl) (p_call 0 25 #[(.agg #[(.slice aW1_fPins_a aW1.fPins.length aW1_fPins_c), (.slice aW1_fStrokes_a aW1.fStrokes.length aW1_fStrokes_c)]), (.int .i64 t_1)] (by kernel_rfl) (by kernel_rfl) (fun w hm => laws_szWear.calls aW1 t_1 w _ aW1_fPins_a aW1.fPins.length aW1_fPins_c (hm.exRow aW1_fPins_h List.not_mem_nil) rfl aW1_fStrokes_a aW1.fStrokes.length aW1_fStrokes_c (hm.exRow aW1_fStrokes_h List.not_mem_nil) rfl ht_6) ?_)
    rintro w v w' hm ⟨rfl, hm'⟩
    refine ⟨_, hm.app hm', jkO ?_⟩
    clear hm hm'
    refine jo_f [(0, 0)] (by kernel_rfl) ?_
    refine jo_end (by kernel_rfl) ?_
    refine jx_then ?_
    refine jc_seq ?_
    refine jc_seq ?_
    refine jc_region ?_
    refine jo_f [(0, 0), (0, 0)] (by kernel_rfl) ?_
    refine jo_end (by kernel_rfl) ?_
    refine jx_then ?_
    refine jc_cond (decide (t_2 < 0)) (by kernel_rfl) (fun hc_8 => ?_) (fun hc_8 => ?_)
    · replace h := ifT hc_8 h
      refine jc_seq ?_
      refine jc_region ?_
      refine jo_f [(0, 0)] (by kernel_rfl) ?_
      refine jo_end (by kernel_rfl) ?_
      refine jx_then ?_
      refine jc_ret ?_
      refine jx_thenr ?_
      obtain rfl := Option.some.inj h
      exact jx_ret [] (.bool true) [] rfl (by kernel_rfl) (by kernel_rfl) (fun w hm => ⟨rfl, hm.pick [] (by kernel_rfl) (by kernel_rfl)⟩)
    · replace h := ifF hc_8 h
      refine jc_skip ?_
      refine jx_then ?_
      refine jc_seq ?_
      refine jc_meet (fun (j : (List GWornPin) × (List Int) × Int × Nat × (Option Nat) × Nat × (List Value) × Nat × (Option Nat) × Nat × (List Value) × Nat) => match j with | ⟨xs_3, xs_4, i_5, b_102, o_103, cap_104, sp_105, n_106, o_109, cap_110, sp_111, n_112⟩ => laws_FnExactTurnWear.k_6 aF0 aW1 aTurns2 xs_3 xs_4 i_5 = some r ∧ (xs_3.length = n_106) ∧ ((o_103 ≠ none → n_106 ≤ cap_104 ∧ sp_105.length = (cap_104 - n_106) * 3)) ∧ ((o_103 = none → xs_3 = [] ∧ cap_104 = 0)) ∧ (xs_4.length = n_112) ∧ ((o_109 ≠ none → n_112 ≤ cap_110 ∧ sp_111.length = (cap_110 - n_112) * 1)) ∧ ((o_109 = none → xs_4 = [] ∧ cap_110 = 0))) (fun (j : (List GWornPin) × (List Int) × Int × Nat × (Option Nat) × Nat × (List Value) × Nat × (Option Nat) × Nat × (List Value) × Nat) => match j with | ⟨xs_3, xs_4, i_5, b_102, o_103, cap_104, sp_105, n_106, o_109, cap_110, sp_111, n_112⟩ => [(2, [], (.int .i64 aTurns2)), (3, [], (.pointer (some ⟨b_1, 0, none⟩))), (4, [], (.pointer (some ⟨b_2, 0, none⟩))), (6, [], (.bool false)), (8, [], (.pointer (some ⟨b_102, 0, none⟩))), (9, [], (.int .i64 i_5))]) (fun (j : (List GWornPin) × (List Int) × Int × Nat × (Option Nat) × Nat × (List Value) × Nat × (Option Nat) × Nat × (List Value) × Nat) => match j with | ⟨xs_3, xs_4, i_5, b_102, o_103, cap_104, sp_105, n_106, o_109, cap_110, sp_111, n_112⟩ => [⟨some b_1, 25, [(.int .i16 aF0.fSteps), (.slice aF0_fHammers_a aF0.fHammers.length aF0_fHammers_c)]⟩, ⟨some b_2, 47, [(.slice aW1_fPins_a aW1.fPins.length aW1_fPins_c), (.slice aW1_fStrokes_a aW1.fStrokes.length aW1_fStrokes_c)]⟩, ⟨some b_102, 52, [(.slice (o_103.map fun b => ⟨b, 0, none⟩) n_106 cap_104), (.slice (o_109.map fun b => ⟨b, 0, none⟩) n_112 cap_110)]⟩, ⟨o_103, 124, row encGWornPin xs_3 sp_105⟩, ⟨o_109, 2, row encI64 xs_4 sp_111⟩]) ?_ ?_
      · refine jc_draw [⟨some b_1, 25, [(.int .i16 aF0.fSteps), (.slice aF0_fHammers_a aF0.fHammers.length aF0_fHammers_c)]⟩, ⟨some b_2, 47, [(.slice aW1_fPins_a aW1.fPins.length aW1_fPins_c), (.slice aW1_fStrokes_a aW1.fStrokes.length aW1_fStrokes_c)]⟩] 12 (by kernel_rfl) (by kernel_rfl) ?_
        refine jd_f [⟨0, 0, 0⟩, ⟨2, 1, 0⟩, ⟨4, 0, 0⟩] 9 (by kernel_rfl) (by kernel_rfl) (fun w h => h.pick [0, 1] (by kernel_rfl) (by kernel_rfl)) (by kernel_rfl) (by kernel_rfl) ?_
        refine toD2 1 9 (by kernel_rfl) ?_ ?_
        · obtain ⟨t_31, ht_572, h⟩ := bd h
          refine p_call 0 17 #[(.agg #[(.int .i16 aF0.fSteps), (.slice aF0_fHammers_a aF0.fHammers.length aF0_fHammers_c)])] (by kernel_rfl) (by kernel_rfl) (fun w hm => laws_toFrame.calls aF0 w _ aF0_fHammers_a aF0.fHammers.length aF0_fHammers_c (hm.exRow aF0_fHammers_h List.not_mem_nil) rfl ht_572) ?_
          rintro w v w' hm ⟨o_573, cap_574, sp_575, _, rfl, hs_576, ho_577, rfl, hm'⟩
          refine ⟨_, hm.app hm', jkD (fun w h => h.pick [0, 1] (by kernel_rfl) (by kernel_rfl)) ?_⟩
          clear hm hm'
          refine toD2 3 9 (by kernel_rfl) ?_ ?_
          · obtain ⟨t_32, ht_578, h⟩ := bd h
            refine p_call 0 27 #[(.agg #[(.slice aW1_fPins_a aW1.fPins.length aW1_fPins_c), (.slice aW1_fStrokes_a aW1.fStrokes.length aW1_fStrokes_c)])] (by kernel_rfl) (by kernel_rfl) (fun w hm => laws_toWear.calls aW1 w _ aW1_fPins_a aW1.fPins.length aW1_fPins_c (hm.exRow aW1_fPins_h List.not_mem_nil) rfl aW1_fStrokes_a aW1.fStrokes.length aW1_fStrokes_c (hm.exRow aW1_fStrokes_h List.not_mem_nil) rfl ht_578) ?_
            rintro w v w' hm ⟨o_579, cap_580, sp_581, _, rfl, hs_582, ho_583, o_584, cap_585, sp_586, _, rfl, hs_587, ho_588, rfl, hm'⟩
            refine ⟨_, hm.app hm', jkD (fun w h => h.pick [0, 1] (by kernel_rfl) (by kernel_rfl)) ?_⟩
            clear hm hm'
            refine toD2 5 9 (by kernel_rfl) ?_ ?_
            · obtain ⟨t_33, ht_589, h⟩ := bd h
              refine p_call 0 65 #[(.agg #[(.int .i16 t_31.fSteps), (.slice (o_573.map fun b => ⟨b, 0, none⟩) t_31.fHammers.length cap_574)]), (.agg #[(.slice (o_579.map fun b => ⟨b, 0, none⟩) t_32.fPins.length cap_580), (.slice (o_584.map fun b => ⟨b, 0, none⟩) t_32.fStrokes.length cap_585)]), (.int .i64 aTurns2)] (by kernel_rfl) (by kernel_rfl) (fun w hm => spec_TurnWear.calls t_31 t_32 aTurns2 w _ (o_573.map fun b => ⟨b, 0, none⟩) t_31.fHammers.length cap_574 (hm.ownRow (hh := 2) (o := o_573) (T := 176) (enc := encGHammer) (xs := t_31.fHammers) (sp := sp_575) (by kernel_rfl) (fun e => (ho_577 e).1) encGHammer_len) rfl (o_579.map fun b => ⟨b, 0, none⟩) t_32.fPins.length cap_580 (hm.ownRow (hh := 3) (o := o_579) (T := 124) (enc := encGWornPin) (xs := t_32.fPins) (sp := sp_581) (by kernel_rfl) (fun e => (ho_583 e).1) encGWornPin_len) rfl (o_584.map fun b => ⟨b, 0, none⟩) t_32.fStrokes.length cap_585 (hm.ownRow (hh := 4) (o := o_584) (T := 2) (enc := encI64) (xs := t_32.fStrokes) (sp := sp_586) (by kernel_rfl) (fun e => (ho_588 e).1) encI64_len) rfl ht_589) ?_
              rintro w v w' hm ⟨o_590, cap_591, sp_592, _, rfl, hs_593, ho_594, o_595, cap_596, sp_597, _, rfl, hs_598, ho_599, rfl, hm'⟩
              refine ⟨_, hm.app hm', jkD (fun w h => h.pick [0, 1] (by kernel_rfl) (by kernel_rfl)) ?_⟩
              clear hm hm'
              refine jd_f [⟨6, 0, 0⟩, ⟨7, 0, 0⟩, ⟨8, 0, 0⟩] 3 (by kernel_rfl) (by kernel_rfl) (fun w h => h.pick [0, 1] (by kernel_rfl) (by kernel_rfl)) (by kernel_rfl) (by kernel_rfl) ?_
              refine toD 9 (by kernel_rfl) (p_a 0 [0] (by kernel_rfl) (fun b => by kernel_rfl) (fun b_600 => jkD (fun w h => h.pick [0, 1] (by kernel_rfl) (by kernel_rfl)) ?_))
              refine toD 10 (by kernel_rfl) (p_s 0 [7] (by kernel_rfl) (by kernel_rfl) (jkD (fun w h => h.pick [0, 1] (by kernel_rfl) (by kernel_rfl)) ?_))
              refine jd_f [⟨11, 0, 0⟩] 0 (by kernel_rfl) (by kernel_rfl) (fun w h => h.pick [0, 1] (by kernel_rfl) (by kernel_rfl)) (by kernel_rfl) (by kernel_rfl) ?_
              refine jd_end (by kernel_rfl) ?_
              exact jx_meet ⟨t_33.1.fPins, t_33.1.fStrokes, t_33.2, b_600, o_590, cap_591, sp_592, t_33.1.fPins.length, o_595, cap_596, sp_597, t_33.1.fStrokes.length⟩ ⟨h, rfl, hs_593, ho_594, rfl, hs_598, ho_599⟩ (by kernel_rfl) [0, 1, 7, 5, 6] (by kernel_rfl) (by kernel_rfl)
            · refine p_a 0 [0] (by kernel_rfl) (fun b => by kernel_rfl) (fun b_601 => jkD (fun w h => h.pick [0, 1] (by kernel_rfl) (by kernel_rfl)) ?_)
              obtain ⟨t_33, ht_602, h⟩ := bd h
              refine toD 5 (by kernel_rfl) (p_call 0 65 #[(.agg #[(.int .i16 t_31.fSteps), (.slice (o_573.map fun b => ⟨b, 0, none⟩) t_31.fHammers.length cap_574)]), (.agg #[(.slice (o_579.map fun b => ⟨b, 0, none⟩) t_32.fPins.length cap_580), (.slice (o_584.map fun b => ⟨b, 0, none⟩) t_32.fStrokes.length cap_585)]), (.int .i64 aTurns2)] (by kernel_rfl) (by kernel_rfl) (fun w hm => spec_TurnWear.calls t_31 t_32 aTurns2 w _ (o_573.map fun b => ⟨b, 0, none⟩) t_31.fHammers.length cap_574 (hm.ownRow (hh := 2) (o := o_573) (T := 176) (enc := encGHammer) (xs := t_31.fHammers) (sp := sp_575) (by kernel_rfl) (fun e => (ho_577 e).1) encGHammer_len) rfl (o_579.map fun b => ⟨b, 0, none⟩) t_32.fPins.length cap_580 (hm.ownRow (hh := 3) (o := o_579) (T := 124) (enc := encGWornPin) (xs := t_32.fPins) (sp := sp_581) (by kernel_rfl) (fun e => (ho_583 e).1) encGWornPin_len) rfl (o_584.map fun b => ⟨b, 0, none⟩) t_32.fStrokes.length cap_585 (hm.ownRow (hh := 4) (o := o_584) (T := 2) (enc := encI64) (xs := t_32.fStrokes) (sp := sp_586) (by kernel_rfl) (fun e => (ho_588 e).1) encI64_len) rfl ht_602) ?_)
              rintro w v w' hm ⟨o_603, cap_604, sp_605, _, rfl, hs_606, ho_607, o_608, cap_609, sp_610, _, rfl, hs_611, ho_612, rfl, hm'⟩
              refine ⟨_, hm.app hm', jkD (fun w h => h.pick [0, 1] (by kernel_rfl) (by kernel_rfl)) ?_⟩
              clear hm hm'
              refine jd_f [⟨6, 0, 0⟩, ⟨7, 0, 0⟩, ⟨8, 0, 0⟩] 2 (by kernel_rfl) (by kernel_rfl) (fun w h => h.pick [0, 1] (by kernel_rfl) (by kernel_rfl)) (by kernel_rfl) (by kernel_rfl) ?_
              refine toD 10 (by kernel_rfl) (p_s 0 [5] (by kernel_rfl) (by kernel_rfl) (jkD (fun w h => h.pick [0, 1] (by kernel_rfl) (by kernel_rfl)) ?_))
              refine jd_f [⟨11, 0, 0⟩] 0 (by kernel_rfl) (by kernel_rfl) (fun w h => h.pick [0, 1] (by kernel_rfl) (by kernel_rfl)) (by kernel_rfl) (by kernel_rfl) ?_
              refine jd_end (by kernel_rfl) ?_
              exact jx_meet ⟨t_33.1.fPins, t_33.1.fStrokes, t_33.2, b_601, o_603, cap_604, sp_605, t_33.1.fPins.length, o_608, cap_609, sp_610, t_33.1.fStrokes.length⟩ ⟨h, rfl, hs_606, ho_607, rfl, hs_611, ho_612⟩ (by kernel_rfl) [0, 1, 5, 6, 7] (by kernel_rfl) (by kernel_rfl)
          · refine p_a 0 [0] (by kernel_rfl) (fun b => by kernel_rfl) (fun b_613 => jkD (fun w h => h.pick [0, 1] (by kernel_rfl) (by kernel_rfl)) ?_)
            obtain ⟨t_32, ht_614, h⟩ := bd h
            refine toD 3 (by kernel_rfl) (p_call 0 27 #[(.agg #[(.slice aW1_fPins_a aW1.fPins.length aW1_fPins_c), (.slice aW1_fStrokes_a aW1.fStrokes.length aW1_fStrokes_c)])] (by kernel_rfl) (by kernel_rfl) (fun w hm => laws_toWear.calls aW1 w _ aW1_fPins_a aW1.fPins.length aW1_fPins_c (hm.exRow aW1_fPins_h List.not_mem_nil) rfl aW1_fStrokes_a aW1.fStrokes.length aW1_fStrokes_c (hm.exRow aW1_fStrokes_h List.not_mem_nil) rfl ht_614) ?_)
            rintro w v w' hm ⟨o_615, cap_616, sp_617, _, rfl, hs_618, ho_619, o_620, cap_621, sp_622, _, rfl, hs_623, ho_624, rfl, hm'⟩
            refine ⟨_, hm.app hm', jkD (fun w h => h.pick [0, 1] (by kernel_rfl) (by kernel_rfl)) ?_⟩
            clear hm hm'
            obtain ⟨t_33, ht_625, h⟩ := bd h
            refine toD 5 (by kernel_rfl) (p_call 0 65 #[(.agg #[(.int .i16 t_31.fSteps), (.slice (o_573.map fun b => ⟨b, 0, none⟩) t_31.fHammers.length cap_574)]), (.agg #[(.slice (o_615.map fun b => ⟨b, 0, none⟩) t_32.fPins.length cap_616), (.slice (o_620.map fun b => ⟨b, 0, none⟩) t_32.fStrokes.length cap_621)]), (.int .i64 aTurns2)] (by kernel_rfl) (by kernel_rfl) (fun w hm => spec_TurnWear.calls t_31 t_32 aTurns2 w _ (o_573.map fun b => ⟨b, 0, none⟩) t_31.fHammers.length cap_574 (hm.ownRow (hh := 2) (o := o_573) (T := 176) (enc := encGHammer) (xs := t_31.fHammers) (sp := sp_575) (by kernel_rfl) (fun e => (ho_577 e).1) encGHammer_len) rfl (o_615.map fun b => ⟨b, 0, none⟩) t_32.fPins.length cap_616 (hm.ownRow (hh := 4) (o := o_615) (T := 124) (enc := encGWornPin) (xs := t_32.fPins) (sp := sp_617) (by kernel_rfl) (fun e => (ho_619 e).1) encGWornPin_len) rfl (o_620.map fun b => ⟨b, 0, none⟩) t_32.fStrokes.length cap_621 (hm.ownRow (hh := 5) (o := o_620) (T := 2) (enc := encI64) (xs := t_32.fStrokes) (sp := sp_622) (by kernel_rfl) (fun e => (ho_624 e).1) encI64_len) rfl ht_625) ?_)
            rintro w v w' hm ⟨o_626, cap_627, sp_628, _, rfl, hs_629, ho_630, o_631, cap_632, sp_633, _, rfl, hs_634, ho_635, rfl, hm'⟩
            refine ⟨_, hm.app hm', jkD (fun w h => h.pick [0, 1] (by kernel_rfl) (by kernel_rfl)) ?_⟩
            clear hm hm'
            refine jd_f [⟨6, 0, 0⟩, ⟨7, 0, 0⟩, ⟨8, 0, 0⟩] 2 (by kernel_rfl) (by kernel_rfl) (fun w h => h.pick [0, 1] (by kernel_rfl) (by kernel_rfl)) (by kernel_rfl) (by kernel_rfl) ?_
            refine toD 10 (by kernel_rfl) (p_s 0 [3] (by kernel_rfl) (by kernel_rfl) (jkD (fun w h => h.pick [0, 1] (by kernel_rfl) (by kernel_rfl)) ?_))
            refine jd_f [⟨11, 0, 0⟩] 0 (by kernel_rfl) (by kernel_rfl) (fun w h => h.pick [0, 1] (by kernel_rfl) (by kernel_rfl)) (by kernel_rfl) (by kernel_rfl) ?_
            refine jd_end (by kernel_rfl) ?_
            exact jx_meet ⟨t_33.1.fPins, t_33.1.fStrokes, t_33.2, b_613, o_626, cap_627, sp_628, t_33.1.fPins.length, o_631, cap_632, sp_633, t_33.1.fStrokes.length⟩ ⟨h, rfl, hs_629, ho_630, rfl, hs_634, ho_635⟩ (by kernel_rfl) [0, 1, 3, 6, 7] (by kernel_rfl) (by kernel_rfl)
        · refine p_a 0 [0] (by kernel_rfl) (fun b => by kernel_rfl) (fun b_636 => jkD (fun w h => h.pick [0, 1] (by kernel_rfl) (by kernel_rfl)) ?_)
          obtain ⟨t_31, ht_637, h⟩ := bd h
          refine toD 1 (by kernel_rfl) (p_call 0 17 #[(.agg #[(.int .i16 aF0.fSteps), (.slice aF0_fHammers_a aF0.fHammers.length aF0_fHammers_c)])] (by kernel_rfl) (by kernel_rfl) (fun w hm => laws_toFrame.calls aF0 w _ aF0_fHammers_a aF0.fHammers.length aF0_fHammers_c (hm.exRow aF0_fHammers_h List.not_mem_nil) rfl ht_637) ?_)
          rintro w v w' hm ⟨o_638, cap_639, sp_640, _, rfl, hs_641, ho_642, rfl, hm'⟩
          refine ⟨_, hm.app hm', jkD (fun w h => h.pick [0, 1] (by kernel_rfl) (by kernel_rfl)) ?_⟩
          clear hm hm'
          obtain ⟨t_32, ht_643, h⟩ := bd h
          refine toD 3 (by kernel_rfl) (p_call 0 27 #[(.agg #[(.slice aW1_fPins_a aW1.fPins.length aW1_fPins_c), (.slice aW1_fStrokes_a aW1.fStrokes.length aW1_fStrokes_c)])] (by kernel_rfl) (by kernel_rfl) (fun w hm => laws_toWear.calls aW1 w _ aW1_fPins_a aW1.fPins.length aW1_fPins_c (hm.exRow aW1_fPins_h List.not_mem_nil) rfl aW1_fStrokes_a aW1.fStrokes.length aW1_fStrokes_c (hm.exRow aW1_fStrokes_h List.not_mem_nil) rfl ht_643) ?_)
          rintro w v w' hm ⟨o_644, cap_645, sp_646, _, rfl, hs_647, ho_648, o_649, cap_650, sp_651, _, rfl, hs_652, ho_653, rfl, hm'⟩
          refine ⟨_, hm.app hm', jkD (fun w h => h.pick [0, 1] (by kernel_rfl) (by kernel_rfl)) ?_⟩
          clear hm hm'
          obtain ⟨t_33, ht_654, h⟩ := bd h
          refine toD 5 (by kernel_rfl) (p_call 0 65 #[(.agg #[(.int .i16 t_31.fSteps), (.slice (o_638.map fun b => ⟨b, 0, none⟩) t_31.fHammers.length cap_639)]), (.agg #[(.slice (o_644.map fun b => ⟨b, 0, none⟩) t_32.fPins.length cap_645), (.slice (o_649.map fun b => ⟨b, 0, none⟩) t_32.fStrokes.length cap_650)]), (.int .i64 aTurns2)] (by kernel_rfl) (by kernel_rfl) (fun w hm => spec_TurnWear.calls t_31 t_32 aTurns2 w _ (o_638.map fun b => ⟨b, 0, none⟩) t_31.fHammers.length cap_639 (hm.ownRow (hh := 3) (o := o_638) (T := 176) (enc := encGHammer) (xs := t_31.fHammers) (sp := sp_640) (by kernel_rfl) (fun e => (ho_642 e).1) encGHammer_len) rfl (o_644.map fun b => ⟨b, 0, none⟩) t_32.fPins.length cap_645 (hm.ownRow (hh := 4) (o := o_644) (T := 124) (enc := encGWornPin) (xs := t_32.fPins) (sp := sp_646) (by kernel_rfl) (fun e => (ho_648 e).1) encGWornPin_len) rfl (o_649.map fun b => ⟨b, 0, none⟩) t_32.fStrokes.length cap_650 (hm.ownRow (hh := 5) (o := o_649) (T := 2) (enc := encI64) (xs := t_32.fStrokes) (sp := sp_651) (by kernel_rfl) (fun e => (ho_653 e).1) encI64_len) rfl ht_654) ?_)
          rintro w v w' hm ⟨o_655, cap_656, sp_657, _, rfl, hs_658, ho_659, o_660, cap_661, sp_662, _, rfl, hs_663, ho_664, rfl, hm'⟩
          refine ⟨_, hm.app hm', jkD (fun w h => h.pick [0, 1] (by kernel_rfl) (by kernel_rfl)) ?_⟩
          clear hm hm'
          refine jd_f [⟨6, 0, 0⟩, ⟨7, 0, 0⟩, ⟨8, 0, 0⟩] 2 (by kernel_rfl) (by kernel_rfl) (fun w h => h.pick [0, 1] (by kernel_rfl) (by kernel_rfl)) (by kernel_rfl) (by kernel_rfl) ?_
          refine toD 10 (by kernel_rfl) (p_s 0 [2] (by kernel_rfl) (by kernel_rfl) (jkD (fun w h => h.pick [0, 1] (by kernel_rfl) (by kernel_rfl)) ?_))
          refine jd_f [⟨11, 0, 0⟩] 0 (by kernel_rfl) (by kernel_rfl) (fun w h => h.pick [0, 1] (by kernel_rfl) (by kernel_rfl)) (by kernel_rfl) (by kernel_rfl) ?_
          refine jd_end (by kernel_rfl) ?_
          exact jx_meet ⟨t_33.1.fPins, t_33.1.fStrokes, t_33.2, b_636, o_655, cap_656, sp_657, t_33.1.fPins.length, o_660, cap_661, sp_662, t_33.1.fStrokes.length⟩ ⟨h, rfl, hs_658, ho_659, rfl, hs_663, ho_664⟩ (by kernel_rfl) [0, 1, 2, 6, 7] (by kernel_rfl) (by kernel_rfl)
      · rintro ⟨xs_3, xs_4, i_5, b_102, o_103, cap_104, sp_105, n_106, o_109, cap_110, sp_111, n_112⟩ ⟨h, rfl, hs_107, ho_108, rfl, hs_113, ho_114⟩
        replace h : laws_FnExactTurnWear.k_6 aF0 aW1 aTurns2 xs_3 xs_4 i_5 = some r := h
        rw [laws_FnExactTurnWear.k_6] at h
        refine jx_then ?_
        refine jc_seq ?_
        refine jc_region ?_
        refine jo_f [(0, 0)] (by kernel_rfl) ?_
        obtain ⟨t_7, ht_115, h⟩ := bd h
        refine toO (by kernel_rfl) (p_call 0 17 #[(.agg #[(.int .i16 aF0.fSteps), (.slice aF0_fHammers_a aF0.fHammers.length aF0_fHammers_c)])] (by kernel_rfl) (by kernel_rfl) (fun w hm => laws_toFrame.calls aF0 w _ aF0_fHammers_a aF0.fHammers.length aF0_fHammers_c (hm.exRow aF0_fHammers_h List.not_mem_nil) rfl ht_115) ?_)
        rintro w v w' hm ⟨o_116, cap_117, sp_118, _, rfl, hs_119, ho_120, rfl, hm'⟩
        refine ⟨_, hm.app hm', jkO ?_⟩
        clear hm hm'
        refine toO (by kernel_rfl) (p_a 0 [0] (by kernel_rfl) (fun b => by kernel_rfl) (fun b_121 => jkO ?_))
        refine toO (by kernel_rfl) (p_s 0 [6] (by kernel_rfl) (by kernel_rfl) (jkO ?_))
        refine jo_end (by kernel_rfl) ?_
        refine jx_then ?_
        refine jc_seq ?_
        refine jc_region ?_
        refine jo_f [(1, 0)] (by kernel_rfl) ?_
        obtain ⟨t_8, ht_122, h⟩ := bd h
        refine toO (by kernel_rfl) (p_call 0 27 #[(.agg #[(.slice aW1_fPins_a aW1.fPins.length aW1_fPins_c), (.slice aW1_fStrokes_a aW1.fStrokes.length aW1_fStrokes_c)])] (by kernel_rfl) (by kernel_rfl) (fun w hm => laws_toWear.calls aW1 w _ aW1_fPins_a aW1.fPins.length aW1_fPins_c (hm.exRow aW1_fPins_h List.not_mem_nil) rfl aW1_fStrokes_a aW1.fStrokes.length aW1_fStrokes_c (hm.exRow aW1_fStrokes_h List.not_mem_nil) rfl ht_122) ?_)
        rintro w v w' hm ⟨o_123, cap_124, sp_125, _, rfl, hs_126, ho_127, o_128, cap_129, sp_130, _, rfl, hs_131, ho_132, rfl, hm'⟩
        refine ⟨_, hm.app hm', jkO ?_⟩
        clear hm hm'
        refine toO (by kernel_rfl) (p_a 0 [0] (by kernel_rfl) (fun b => by kernel_rfl) (fun b_133 => jkO ?_))
        refine toO (by kernel_rfl) (p_s 0 [9] (by kernel_rfl) (by kernel_rfl) (jkO ?_))
        refine jo_end (by kernel_rfl) ?_
        refine jx_then ?_
        refine jc_seq ?_
        refine jc_region ?_
        refine jo_f [(6, 0), (9, 0), (0, 0)] (by kernel_rfl) ?_
        obtain ⟨t_9, ht_134, h⟩ := bd h
        refine toO (by kernel_rfl) (p_call 0 66 #[(.agg #[(.int .i16 t_7.fSteps), (.slice (o_116.map fun b => ⟨b, 0, none⟩) t_7.fHammers.length cap_117)]), (.agg #[(.slice (o_123.map fun b => ⟨b, 0, none⟩) t_8.fPins.length cap_124), (.slice (o_128.map fun b => ⟨b, 0, none⟩) t_8.fStrokes.length cap_129)]), (.int .i64 aTurns2)] (by kernel_rfl) (by kernel_rfl) (fun w hm => impl_TurnWear.calls t_7 t_8 aTurns2 w _ (o_116.map fun b => ⟨b, 0, none⟩) t_7.fHammers.length cap_117 (hm.ownRow (hh := 5) (o := o_116) (T := 176) (enc := encGHammer) (xs := t_7.fHammers) (sp := sp_118) (by kernel_rfl) (fun e => (ho_120 e).1) encGHammer_len) rfl (o_123.map fun b => ⟨b, 0, none⟩) t_8.fPins.length cap_124 (hm.ownRow (hh := 7) (o := o_123) (T := 124) (enc := encGWornPin) (xs := t_8.fPins) (sp := sp_125) (by kernel_rfl) (fun e => (ho_127 e).1) encGWornPin_len) rfl (o_128.map fun b => ⟨b, 0, none⟩) t_8.fStrokes.length cap_129 (hm.ownRow (hh := 8) (o := o_128) (T := 2) (enc := encI64) (xs := t_8.fStrokes) (sp := sp_130) (by kernel_rfl) (fun e => (ho_132 e).1) encI64_len) rfl ht_134) ?_)
        rintro w v w' hm ⟨o_135, cap_136, sp_137, _, rfl, hs_138, ho_139, o_140, cap_141, sp_142, _, rfl, hs_143, ho_144, rfl, hm'⟩
        refine ⟨_, hm.app hm', jkO ?_⟩
        clear hm hm'
        refine jo_f [(0, 0), (0, 0), (0, 0)] (by kernel_rfl) ?_
        refine toO (by kernel_rfl) (p_a 0 [0] (by kernel_rfl) (fun b => by kernel_rfl) (fun b_145 => jkO ?_))
        refine toO (by kernel_rfl) (p_s 0 [12] (by kernel_rfl) (by kernel_rfl) (jkO ?_))
        refine jo_f [(0, 0)] (by kernel_rfl) ?_
        refine jo_end (by kernel_rfl) ?_
        refine jx_then ?_
        refine jc_seq ?_
        refine jc_seq ?_
        refine jc_region ?_
        refine jo_f [(12, 0), (2, 0)] (by kernel_rfl) ?_
        obtain ⟨t_10, ht_150, h⟩ := bd h
        refine toO (by kernel_rfl) (p_call 0 29 #[(.agg #[(.slice (o_135.map fun b => ⟨b, 0, none⟩) t_9.1.fPins.length cap_136), (.slice (o_140.map fun b => ⟨b, 0, none⟩) t_9.1.fStrokes.length cap_141)]), (.agg #[(.slice (o_103.map fun b => ⟨b, 0, none⟩) xs_3.length cap_104), (.slice (o_109.map fun b => ⟨b, 0, none⟩) xs_4.length cap_110)])] (by kernel_rfl) (by kernel_rfl) (fun w hm => laws_eqWear.calls t_9.1 (⟨xs_3, xs_4⟩ : GWear) w _ (o_135.map fun b => ⟨b, 0, none⟩) t_9.1.fPins.length cap_136 (hm.ownRow (hh := 10) (o := o_135) (T := 124) (enc := encGWornPin) (xs := t_9.1.fPins) (sp := sp_137) (by kernel_rfl) (fun e => (ho_139 e).1) encGWornPin_len) rfl (o_140.map fun b => ⟨b, 0, none⟩) t_9.1.fStrokes.length cap_141 (hm.ownRow (hh := 11) (o := o_140) (T := 2) (enc := encI64) (xs := t_9.1.fStrokes) (sp := sp_142) (by kernel_rfl) (fun e => (ho_144 e).1) encI64_len) rfl (o_103.map fun b => ⟨b, 0, none⟩) xs_3.length cap_104 (hm.ownRow (hh := 3) (o := o_103) (T := 124) (enc := encGWornPin) (xs := xs_3) (sp := sp_105) (by kernel_rfl) (fun e => (ho_108 e).1) encGWornPin_len) rfl (o_109.map fun b => ⟨b, 0, none⟩) xs_4.length cap_110 (hm.ownRow (hh := 4) (o := o_109) (T := 2) (enc := encI64) (xs := xs_4) (sp := sp_111) (by kernel_rfl) (fun e => (ho_114 e).1) encI64_len) rfl ht_150) ?_)
        rintro w v w' hm ⟨rfl, hm'⟩
        refine ⟨_, hm.app hm', jkO ?_⟩
        clear hm hm'
        refine jo_f [(0, 0), (0, 0), (0, 1), (0, 1), (0, 1), (0, 0)] (by kernel_rfl) ?_
        refine jo_end (by kernel_rfl) ?_
        refine jx_then ?_
        refine jc_cond ((!t_10) || (t_9.2 != i_5)) (by kernel_rfl) (fun hc_151 => ?_) (fun hc_151 => ?_)
        · replace h := ifT hc_151 h
          refine jc_seq ?_
          refine jc_region ?_
          refine jo_f [(0, 0)] (by kernel_rfl) ?_
          refine jo_end (by kernel_rfl) ?_
          refine jx_then ?_
          refine jc_ret ?_
          refine jx_thenr ?_
          obtain rfl := Option.some.inj h
          exact jx_ret [] (.bool false) [] rfl (by kernel_rfl) (by kernel_rfl) (fun w hm => ⟨rfl, hm.pick [] (by kernel_rfl) (by kernel_rfl)⟩)
        · replace h := ifF hc_151 h
          refine jc_skip ?_
          refine jx_then ?_
          refine jc_seq ?_
          refine jc_seq ?_
          refine jc_draw [⟨some b_1, 25, [(.int .i16 aF0.fSteps), (.slice aF0_fHammers_a aF0.fHammers.length aF0_fHammers_c)]⟩, ⟨some b_2, 47, [(.slice aW1_fPins_a aW1.fPins.length aW1_fPins_c), (.slice aW1_fStrokes_a aW1.fStrokes.length aW1_fStrokes_c)]⟩, ⟨some b_102, 52, [(.slice (o_103.map fun b => ⟨b, 0, none⟩) xs_3.length cap_104), (.slice (o_109.map fun b => ⟨b, 0, none⟩) xs_4.length cap_110)]⟩, ⟨o_103, 124, row encGWornPin xs_3 sp_105⟩, ⟨o_109, 2, row encI64 xs_4 sp_111⟩, ⟨o_116, 176, row encGHammer t_7.fHammers sp_118⟩, ⟨some b_121, 35, [(.int .i16 t_7.fSteps), (.slice (o_116.map fun b => ⟨b, 0, none⟩) t_7.fHammers.length cap_117)]⟩, ⟨o_123, 124, row encGWornPin t_8.fPins sp_125⟩, ⟨o_128, 2, row encI64 t_8.fStrokes sp_130⟩, ⟨some b_133, 52, [(.slice (o_123.map fun b => ⟨b, 0, none⟩) t_8.fPins.length cap_124), (.slice (o_128.map fun b => ⟨b, 0, none⟩) t_8.fStrokes.length cap_129)]⟩, ⟨o_135, 124, row encGWornPin t_9.1.fPins sp_137⟩, ⟨o_140, 2, row encI64 t_9.1.fStrokes sp_142⟩, ⟨some b_145, 52, [(.slice (o_135.map fun b => ⟨b, 0, none⟩) t_9.1.fPins.length cap_136), (.slice (o_140.map fun b => ⟨b, 0, none⟩) t_9.1.fStrokes.length cap_141)]⟩] 5 (by kernel_rfl) (by kernel_rfl) ?_
          refine jd_f [⟨0, 6, 0⟩, ⟨1, 0, 0⟩] 3 (by kernel_rfl) (by kernel_rfl) (fun w h => h.pick [0, 1, 2, 3, 4, 5, 6, 7, 8, 9, 10, 11, 12] (by kernel_rfl) (by kernel_rfl)) (by kernel_rfl) (by kernel_rfl) ?_
          obtain ⟨t_11, ht_174, h⟩ := bd h
          refine toD 2 (by kernel_rfl) (p_call 0 17 #[(.agg #[(.int .i16 aF0.fSteps), (.slice aF0_fHammers_a aF0.fHammers.length aF0_fHammers_c)])] (by kernel_rfl) (by kernel_rfl) (fun w hm => laws_toFrame.calls aF0 w _ aF0_fHammers_a aF0.fHammers.length aF0_fHammers_c (hm.exRow aF0_fHammers_h List.not_mem_nil) rfl ht_174) ?_)
          rintro w v w' hm ⟨o_175, cap_176, sp_177, _, rfl, hs_178, ho_179, rfl, hm'⟩
          refine ⟨_, hm.app hm', jkD (fun w h => h.pick [0, 1, 2, 3, 4, 5, 6, 7, 8, 9, 10, 11, 12] (by kernel_rfl) (by kernel_rfl)) ?_⟩
          clear hm hm'
          obtain ⟨t_12, ht_180, h⟩ := bd h
          refine toD 3 (by kernel_rfl) (p_call 0 21 #[(.agg #[(.int .i16 t_7.fSteps), (.slice (o_116.map fun b => ⟨b, 0, none⟩) t_7.fHammers.length cap_117)]), (.agg #[(.int .i16 t_11.fSteps), (.slice (o_175.map fun b => ⟨b, 0, none⟩) t_11.fHammers.length cap_176)])] (by kernel_rfl) (by kernel_rfl) (fun w hm => laws_eqFrame.calls t_7 t_11 w _ (o_116.map fun b => ⟨b, 0, none⟩) t_7.fHammers.length cap_117 (hm.ownRow (hh := 5) (o := o_116) (T := 176) (enc := encGHammer) (xs := t_7.fHammers) (sp := sp_118) (by kernel_rfl) (fun e => (ho_120 e).1) encGHammer_len) rfl (o_175.map fun b => ⟨b, 0, none⟩) t_11.fHammers.length cap_176 (hm.ownRow (hh := 13) (o := o_175) (T := 176) (enc := encGHammer) (xs := t_11.fHammers) (sp := sp_177) (by kernel_rfl) (fun e => (ho_179 e).1) encGHammer_len) rfl ht_180) ?_)
          rintro w v w' hm ⟨rfl, hm'⟩
          refine ⟨_, hm.app hm', jkD (fun w h => h.pick [0, 1, 2, 3, 4, 5, 6, 7, 8, 9, 10, 11, 12] (by kernel_rfl) (by kernel_rfl)) ?_⟩
          clear hm hm'
          refine jd_f [⟨4, 0, 0⟩] 0 (by kernel_rfl) (by kernel_rfl) (fun w h => h.pick [0, 1, 2, 3, 4, 5, 6, 7, 8, 9, 10, 11, 12] (by kernel_rfl) (by kernel_rfl)) (by kernel_rfl) (by kernel_rfl) ?_
          refine jd_end (by kernel_rfl) ?_
          refine jx_then ?_
          refine jc_cond (!t_12) (by kernel_rfl) (fun hc_181 => ?_) (fun hc_181 => ?_)
          · replace h := ifT hc_181 h
            refine jc_seq ?_
            refine jc_region ?_
            refine jo_f [(0, 0)] (by kernel_rfl) ?_
            refine jo_end (by kernel_rfl) ?_
            refine jx_then ?_
            refine jc_ret ?_
            refine jx_thenr ?_
            obtain rfl := Option.some.inj h
            exact jx_ret [] (.bool false) [] rfl (by kernel_rfl) (by kernel_rfl) (fun w hm => ⟨rfl, hm.pick [] (by kernel_rfl) (by kernel_rfl)⟩)
          · replace h := ifF hc_181 h
            refine jc_skip ?_
            refine jx_then ?_
            refine jc_seq ?_
            refine jc_seq ?_
            refine jc_draw [⟨some b_1, 25, [(.int .i16 aF0.fSteps), (.slice aF0_fHammers_a aF0.fHammers.length aF0_fHammers_c)]⟩, ⟨some b_2, 47, [(.slice aW1_fPins_a aW1.fPins.length aW1_fPins_c), (.slice aW1_fStrokes_a aW1.fStrokes.length aW1_fStrokes_c)]⟩, ⟨some b_102, 52, [(.slice (o_103.map fun b => ⟨b, 0, none⟩) xs_3.length cap_104), (.slice (o_109.map fun b => ⟨b, 0, none⟩) xs_4.length cap_110)]⟩, ⟨o_103, 124, row encGWornPin xs_3 sp_105⟩, ⟨o_109, 2, row encI64 xs_4 sp_111⟩, ⟨some b_121, 35, [(.int .i16 t_7.fSteps), (.slice (o_116.map fun b => ⟨b, 0, none⟩) t_7.fHammers.length cap_117)]⟩, ⟨some b_133, 52, [(.slice (o_123.map fun b => ⟨b, 0, none⟩) t_8.fPins.length cap_124), (.slice (o_128.map fun b => ⟨b, 0, none⟩) t_8.fStrokes.length cap_129)]⟩, ⟨some b_145, 52, [(.slice (o_135.map fun b => ⟨b, 0, none⟩) t_9.1.fPins.length cap_136), (.slice (o_140.map fun b => ⟨b, 0, none⟩) t_9.1.fStrokes.length cap_141)]⟩, ⟨o_175, 176, row encGHammer t_11.fHammers sp_177⟩] 5 (by kernel_rfl) (by kernel_rfl) ?_
            refine jd_f [⟨0, 6, 0⟩, ⟨1, 1, 0⟩] 3 (by kernel_rfl) (by kernel_rfl) (fun w h => h.pick [0, 1, 2, 3, 4, 6, 9, 12, 13] (by kernel_rfl) (by kernel_rfl)) (by kernel_rfl) (by kernel_rfl) ?_
            obtain ⟨t_13, ht_322, h⟩ := bd h
            refine toD 2 (by kernel_rfl) (p_call 0 27 #[(.agg #[(.slice aW1_fPins_a aW1.fPins.length aW1_fPins_c), (.slice aW1_fStrokes_a aW1.fStrokes.length aW1_fStrokes_c)])] (by kernel_rfl) (by kernel_rfl) (fun w hm => laws_toWear.calls aW1 w _ aW1_fPins_a aW1.fPins.length aW1_fPins_c (hm.exRow aW1_fPins_h List.not_mem_nil) rfl aW1_fStrokes_a aW1.fStrokes.length aW1_fStrokes_c (hm.exRow aW1_fStrokes_h List.not_mem_nil) rfl ht_322) ?_)
            rintro w v w' hm ⟨o_323, cap_324, sp_325, _, rfl, hs_326, ho_327, o_328, cap_329, sp_330, _, rfl, hs_331, ho_332, rfl, hm'⟩
            refine ⟨_, hm.app hm', jkD (fun w h => h.pick [0, 1, 2, 3, 4, 6, 9, 12, 13] (by kernel_rfl) (by kernel_rfl)) ?_⟩
            clear hm hm'
            obtain ⟨t_14, ht_333, h⟩ := bd h
            refine toD 3 (by kernel_rfl) (p_call 0 29 #[(.agg #[(.slice (o_123.map fun b => ⟨b, 0, none⟩) t_8.fPins.length cap_124), (.slice (o_128.map fun b => ⟨b, 0, none⟩) t_8.fStrokes.length cap_129)]), (.agg #[(.slice (o_323.map fun b => ⟨b, 0, none⟩) t_13.fPins.length cap_324), (.slice (o_328.map fun b => ⟨b, 0, none⟩) t_13.fStrokes.length cap_329)])] (by kernel_rfl) (by kernel_rfl) (fun w hm => laws_eqWear.calls t_8 t_13 w _ (o_123.map fun b => ⟨b, 0, none⟩) t_8.fPins.length cap_124 (hm.ownRow (hh := 7) (o := o_123) (T := 124) (enc := encGWornPin) (xs := t_8.fPins) (sp := sp_125) (by kernel_rfl) (fun e => (ho_127 e).1) encGWornPin_len) rfl (o_128.map fun b => ⟨b, 0, none⟩) t_8.fStrokes.length cap_129 (hm.ownRow (hh := 8) (o := o_128) (T := 2) (enc := encI64) (xs := t_8.fStrokes) (sp := sp_130) (by kernel_rfl) (fun e => (ho_132 e).1) encI64_len) rfl (o_323.map fun b => ⟨b, 0, none⟩) t_13.fPins.length cap_324 (hm.ownRow (hh := 14) (o := o_323) (T := 124) (enc := encGWornPin) (xs := t_13.fPins) (sp := sp_325) (by kernel_rfl) (fun e => (ho_327 e).1) encGWornPin_len) rfl (o_328.map fun b => ⟨b, 0, none⟩) t_13.fStrokes.length cap_329 (hm.ownRow (hh := 15) (o := o_328) (T := 2) (enc := encI64) (xs := t_13.fStrokes) (sp := sp_330) (by kernel_rfl) (fun e => (ho_332 e).1) encI64_len) rfl ht_333) ?_)
            rintro w v w' hm ⟨rfl, hm'⟩
            refine ⟨_, hm.app hm', jkD (fun w h => h.pick [0, 1, 2, 3, 4, 6, 9, 12, 13] (by kernel_rfl) (by kernel_rfl)) ?_⟩
            clear hm hm'
            refine jd_f [⟨4, 0, 0⟩] 0 (by kernel_rfl) (by kernel_rfl) (fun w h => h.pick [0, 1, 2, 3, 4, 6, 9, 12, 13] (by kernel_rfl) (by kernel_rfl)) (by kernel_rfl) (by kernel_rfl) ?_
            refine jd_end (by kernel_rfl) ?_
            refine jx_then ?_
            refine jc_cond (!t_14) (by kernel_rfl) (fun hc_334 => ?_) (fun hc_334 => ?_)
            · replace h := ifT hc_334 h
              refine jc_seq ?_
              refine jc_region ?_
              refine jo_f [(0, 0)] (by kernel_rfl) ?_
              refine jo_end (by kernel_rfl) ?_
              refine jx_then ?_
              refine jc_ret ?_
              refine jx_thenr ?_
              obtain rfl := Option.some.inj h
              exact jx_ret [] (.bool false) [] rfl (by kernel_rfl) (by kernel_rfl) (fun w hm => ⟨rfl, hm.pick [] (by kernel_rfl) (by kernel_rfl)⟩)
            · replace h := ifF hc_334 h
              refine jc_skip ?_
              refine jx_then ?_
              refine jc_seq ?_
              refine jc_region ?_
              refine jo_f [(0, 0)] (by kernel_rfl) ?_
              refine jo_end (by kernel_rfl) ?_
              refine jx_then ?_
              refine jc_seq ?_
              refine jc_region ?_
              refine jo_f [(6, 0), (0, 0)] (by kernel_rfl) ?_
              obtain ⟨t_15, ht_335, h⟩ := bd h
              refine toO (by kernel_rfl) (p_call 0 22 #[(.agg #[(.int .i16 t_7.fSteps), (.slice (o_116.map fun b => ⟨b, 0, none⟩) t_7.fHammers.length cap_117)]), (.int .i64 1)] (by kernel_rfl) (by kernel_rfl) (fun w hm => laws_markFrame.calls t_7 1 w _ o_116 t_7.fHammers.length cap_117 sp_118 rfl hs_119 ho_120 (hm.pass (N := [⟨o_116, 176, row encGHammer t_7.fHammers sp_118⟩]) [5] (by kernel_rfl) (by kernel_rfl)) ht_335) ?_)
              rintro w v w' hm ⟨hn_336, ho_337, rfl, hm'⟩
              refine ⟨_, hm.appW (ps := [(5, ⟨o_116, 176, row encGHammer t_15.2 sp_118⟩)]) (N := []) hm' (by kernel_rfl) (by kernel_rfl), jkO ?_⟩
              clear hm hm'
              refine jo_f [(0, 0)] (by kernel_rfl) ?_
              refine jo_end (by kernel_rfl) ?_
              refine jx_then ?_
              refine jc_seq ?_
              refine jc_region ?_
              refine jo_f [(9, 0), (0, 0)] (by kernel_rfl) ?_
              obtain ⟨t_16, ht_338, h⟩ := bd h
              refine toO (by kernel_rfl) (p_call 0 37 #[(.agg #[(.slice (o_123.map fun b => ⟨b, 0, none⟩) t_8.fPins.length cap_124), (.slice (o_128.map fun b => ⟨b, 0, none⟩) t_8.fStrokes.length cap_129)]), (.int .i64 t_15.1)] (by kernel_rfl) (by kernel_rfl) (fun w hm => laws_markWear.calls t_8 t_15.1 w _ o_123 t_8.fPins.length cap_124 sp_125 rfl hs_126 ho_127 o_128 t_8.fStrokes.length cap_129 sp_130 rfl hs_131 ho_132 (hm.pass (N := [⟨o_123, 124, row encGWornPin t_8.fPins sp_125⟩, ⟨o_128, 2, row encI64 t_8.fStrokes sp_130⟩]) [7, 8] (by kernel_rfl) (by kernel_rfl)) ht_338) ?_)
              rintro w v w' hm ⟨hn_339, ho_340, hn_341, ho_342, rfl, hm'⟩
              refine ⟨_, hm.appW (ps := [(7, ⟨o_123, 124, row encGWornPin t_16.2.1 sp_125⟩), (8, ⟨o_128, 2, row encI64 t_16.2.2 sp_130⟩)]) (N := []) hm' (by kernel_rfl) (by kernel_rfl), jkO ?_⟩
              clear hm hm'
              refine jo_f [(0, 0)] (by kernel_rfl) ?_
              refine jo_end (by kernel_rfl) ?_
              refine jx_then ?_
              refine jc_seq ?_
              refine jc_seq ?_
              refine jc_meet (fun (j : Bool) => match j with | q_17 => laws_FnExactTurnWear.k_18 aF0 aW1 aTurns2 xs_3 xs_4 i_5 t_9 q_17 = some r) (fun (j : Bool) => match j with | q_17 => [(2, [], (.int .i64 aTurns2)), (3, [], (.pointer (some ⟨b_1, 0, none⟩))), (4, [], (.pointer (some ⟨b_2, 0, none⟩))), (6, [], (.bool false)), (8, [], (.pointer (some ⟨b_102, 0, none⟩))), (9, [], (.int .i64 i_5)), (12, [], (.pointer (some ⟨b_145, 0, none⟩))), (86, [], (.bool q_17))]) (fun (j : Bool) => match j with | q_17 => [⟨some b_1, 25, [(.int .i16 aF0.fSteps), (.slice aF0_fHammers_a aF0.fHammers.length aF0_fHammers_c)]⟩, ⟨some b_2, 47, [(.slice aW1_fPins_a aW1.fPins.length aW1_fPins_c), (.slice aW1_fStrokes_a aW1.fStrokes.length aW1_fStrokes_c)]⟩, ⟨some b_102, 52, [(.slice (o_103.map fun b => ⟨b, 0, none⟩) xs_3.length cap_104), (.slice (o_109.map fun b => ⟨b, 0, none⟩) xs_4.length cap_110)]⟩, ⟨o_103, 124, row encGWornPin xs_3 sp_105⟩, ⟨o_109, 2, row encI64 xs_4 sp_111⟩, ⟨o_116, 176, row encGHammer t_15.2 sp_118⟩, ⟨some b_121, 35, [(.int .i16 t_7.fSteps), (.slice (o_116.map fun b => ⟨b, 0, none⟩) t_7.fHammers.length cap_117)]⟩, ⟨o_123, 124, row encGWornPin t_16.2.1 sp_125⟩, ⟨o_128, 2, row encI64 t_16.2.2 sp_130⟩, ⟨some b_133, 52, [(.slice (o_123.map fun b => ⟨b, 0, none⟩) t_8.fPins.length cap_124), (.slice (o_128.map fun b => ⟨b, 0, none⟩) t_8.fStrokes.length cap_129)]⟩, ⟨o_135, 124, row encGWornPin t_9.1.fPins sp_137⟩, ⟨o_140, 2, row encI64 t_9.1.fStrokes sp_142⟩, ⟨some b_145, 52, [(.slice (o_135.map fun b => ⟨b, 0, none⟩) t_9.1.fPins.length cap_136), (.slice (o_140.map fun b => ⟨b, 0, none⟩) t_9.1.fStrokes.length cap_141)]⟩, ⟨o_175, 176, row encGHammer t_11.fHammers sp_177⟩, ⟨o_323, 124, row encGWornPin t_13.fPins sp_325⟩, ⟨o_328, 2, row encI64 t_13.fStrokes sp_330⟩]) ?_ ?_
              · refine jc_region ?_
                refine jo_f [(0, 0), (0, 0), (0, 0), (12, 1), (2, 1)] (by kernel_rfl) ?_
                refine jo_split 76 (decide (t_16.1 < 0)) (by kernel_rfl) (fun hc_570 => ?_) (fun hc_570 => ?_)
                · replace h := ifT hc_570 h
                  refine jo_f [(0, 3), (0, 3), (0, 4), (0, 0), (0, 3), (0, 3), (0, 3), (0, 4)] (by kernel_rfl) ?_
                  refine jo_end (by kernel_rfl) ?_
                  exact jx_meet true h (by kernel_rfl) [0, 1, 2, 3, 4, 5, 6, 7, 8, 9, 10, 11, 12, 13, 14, 15] (by kernel_rfl) (by kernel_rfl)
                · replace h := ifF hc_570 h
                  obtain ⟨t_30, ht_571, h⟩ := bd h
                  refine toO (by kernel_rfl) (p_call 2 29 #[(.agg #[(.slice (o_135.map fun b => ⟨b, 0, none⟩) t_9.1.fPins.length cap_136), (.slice (o_140.map fun b => ⟨b, 0, none⟩) t_9.1.fStrokes.length cap_141)]), (.agg #[(.slice (o_103.map fun b => ⟨b, 0, none⟩) xs_3.length cap_104), (.slice (o_109.map fun b => ⟨b, 0, none⟩) xs_4.length cap_110)])] (by kernel_rfl) (by kernel_rfl) (fun w hm => laws_eqWear.calls t_9.1 (⟨xs_3, xs_4⟩ : GWear) w _ (o_135.map fun b => ⟨b, 0, none⟩) t_9.1.fPins.length cap_136 (hm.ownRow (hh := 10) (o := o_135) (T := 124) (enc := encGWornPin) (xs := t_9.1.fPins) (sp := sp_137) (by kernel_rfl) (fun e => (ho_139 e).1) encGWornPin_len) rfl (o_140.map fun b => ⟨b, 0, none⟩) t_9.1.fStrokes.length cap_141 (hm.ownRow (hh := 11) (o := o_140) (T := 2) (enc := encI64) (xs := t_9.1.fStrokes) (sp := sp_142) (by kernel_rfl) (fun e => (ho_144 e).1) encI64_len) rfl (o_103.map fun b => ⟨b, 0, none⟩) xs_3.length cap_104 (hm.ownRow (hh := 3) (o := o_103) (T := 124) (enc := encGWornPin) (xs := xs_3) (sp := sp_105) (by kernel_rfl) (fun e => (ho_108 e).1) encGWornPin_len) rfl (o_109.map fun b => ⟨b, 0, none⟩) xs_4.length cap_110 (hm.ownRow (hh := 4) (o := o_109) (T := 2) (enc := encI64) (xs := xs_4) (sp := sp_111) (by kernel_rfl) (fun e => (ho_114 e).1) encI64_len) rfl ht_571) ?_)
                  rintro w v w' hm ⟨rfl, hm'⟩
                  refine ⟨_, hm.app hm', jkO ?_⟩
                  clear hm hm'
                  refine jo_f [(0, 2), (0, 5), (0, 0), (0, 1), (0, 1), (0, 1), (0, 0)] (by kernel_rfl) ?_
                  refine jo_end (by kernel_rfl) ?_
                  exact jx_meet ((!t_30) || (t_9.2 != i_5)) h (by kernel_rfl) [0, 1, 2, 3, 4, 5, 6, 7, 8, 9, 10, 11, 12, 13, 14, 15] (by kernel_rfl) (by kernel_rfl)
              · rintro q_17 h
                replace h : laws_FnExactTurnWear.k_18 aF0 aW1 aTurns2 xs_3 xs_4 i_5 t_9 q_17 = some r := h
                rw [laws_FnExactTurnWear.k_18] at h
                refine jx_then ?_
                refine jc_cond q_17 (by kernel_rfl) (fun hc_350 => ?_) (fun hc_350 => ?_)
                · replace h := ifT hc_350 h
                  refine jc_seq ?_
                  refine jc_region ?_
                  refine jo_f [(0, 0)] (by kernel_rfl) ?_
                  refine jo_end (by kernel_rfl) ?_
                  refine jx_then ?_
                  refine jc_ret ?_
                  refine jx_thenr ?_
                  obtain rfl := Option.some.inj h
                  exact jx_ret [] (.bool false) [] rfl (by kernel_rfl) (by kernel_rfl) (fun w hm => ⟨rfl, hm.pick [] (by kernel_rfl) (by kernel_rfl)⟩)
                · replace h := ifF hc_350 h
                  refine jc_skip ?_
                  refine jx_then ?_
                  refine jc_seq ?_
                  refine jc_region ?_
                  refine jo_f [(0, 0)] (by kernel_rfl) ?_
                  refine jo_end (by kernel_rfl) ?_
                  refine jx_then ?_
                  refine jc_seq ?_
                  refine jc_region ?_
                  refine jo_f [(12, 0), (0, 0)] (by kernel_rfl) ?_
                  obtain ⟨t_19, ht_351, h⟩ := bd h
                  refine toO (by kernel_rfl) (p_call 0 37 #[(.agg #[(.slice (o_135.map fun b => ⟨b, 0, none⟩) t_9.1.fPins.length cap_136), (.slice (o_140.map fun b => ⟨b, 0, none⟩) t_9.1.fStrokes.length cap_141)]), (.int .i64 1)] (by kernel_rfl) (by kernel_rfl) (fun w hm => laws_markWear.calls t_9.1 1 w _ o_135 t_9.1.fPins.length cap_136 sp_137 rfl hs_138 ho_139 o_140 t_9.1.fStrokes.length cap_141 sp_142 rfl hs_143 ho_144 (hm.pass (N := [⟨o_135, 124, row encGWornPin t_9.1.fPins sp_137⟩, ⟨o_140, 2, row encI64 t_9.1.fStrokes sp_142⟩]) [10, 11] (by kernel_rfl) (by kernel_rfl)) ht_351) ?_)
                  rintro w v w' hm ⟨hn_352, ho_353, hn_354, ho_355, rfl, hm'⟩
                  refine ⟨_, hm.appW (ps := [(10, ⟨o_135, 124, row encGWornPin t_19.2.1 sp_137⟩), (11, ⟨o_140, 2, row encI64 t_19.2.2 sp_142⟩)]) (N := []) hm' (by kernel_rfl) (by kernel_rfl), jkO ?_⟩
                  clear hm hm'
                  refine jo_f [(0, 0)] (by kernel_rfl) ?_
                  refine jo_end (by kernel_rfl) ?_
                  refine jx_then ?_
                  refine jc_seq ?_
                  refine jc_region ?_
                  refine jo_f [(0, 0)] (by kernel_rfl) ?_
                  refine jo_end (by kernel_rfl) ?_
                  refine jx_then ?_
                  refine jc_seq ?_
                  refine jc_region ?_
                  refine jo_f [(12, 0), (0, 0)] (by kernel_rfl) ?_
                  obtain ⟨t_20, ht_356, h⟩ := bd h
                  refine toO (by kernel_rfl) (p_call 0 38 #[(.agg #[(.slice (o_135.map fun b => ⟨b, 0, none⟩) t_9.1.fPins.length cap_136), (.slice (o_140.map fun b => ⟨b, 0, none⟩) t_9.1.fStrokes.length cap_141)]), (.int .i64 1)] (by kernel_rfl) (by kernel_rfl) (fun w hm => laws_heldWear.calls (⟨t_19.2.1, t_19.2.2⟩ : GWear) 1 w _ (o_135.map fun b => ⟨b, 0, none⟩) t_9.1.fPins.length cap_136 (hm.ownRow (hh := 10) (o := o_135) (T := 124) (enc := encGWornPin) (xs := t_19.2.1) (sp := sp_137) (by kernel_rfl) (fun e => (ho_353 e).1) encGWornPin_len) hn_352 (o_140.map fun b => ⟨b, 0, none⟩) t_9.1.fStrokes.length cap_141 (hm.ownRow (hh := 11) (o := o_140) (T := 2) (enc := encI64) (xs := t_19.2.2) (sp := sp_142) (by kernel_rfl) (fun e => (ho_355 e).1) encI64_len) hn_354 ht_356) ?_)
                  rintro w v w' hm ⟨rfl, hm'⟩
                  refine ⟨_, hm.app hm', jkO ?_⟩
                  clear hm hm'
                  refine jo_f [(0, 0)] (by kernel_rfl) ?_
                  refine jo_end (by kernel_rfl) ?_
                  refine jx_then ?_
                  refine jc_seq ?_
                  refine jc_seq ?_
                  refine jc_region ?_
                  refine jo_f [(0, 0), (0, 0)] (by kernel_rfl) ?_
                  refine jo_end (by kernel_rfl) ?_
                  refine jx_then ?_
                  refine jc_cond (decide (t_20 < 0)) (by kernel_rfl) (fun hc_358 => ?_) (fun hc_358 => ?_)
                  · replace h := ifT hc_358 h
                    refine jc_seq ?_
                    refine jc_region ?_
                    refine jo_f [(0, 0)] (by kernel_rfl) ?_
                    refine jo_end (by kernel_rfl) ?_
                    refine jx_then ?_
                    refine jc_ret ?_
                    refine jx_thenr ?_
                    obtain rfl := Option.some.inj h
                    exact jx_ret [] (.bool false) [] rfl (by kernel_rfl) (by kernel_rfl) (fun w hm => ⟨rfl, hm.pick [] (by kernel_rfl) (by kernel_rfl)⟩)
                  · replace h := ifF hc_358 h
                    refine jc_skip ?_
                    refine jx_then ?_
                    refine jc_seq ?_
                    refine jc_seq ?_
                    refine jc_region ?_
                    refine jo_f [(0, 0), (0, 0), (0, 0)] (by kernel_rfl) ?_
                    refine jo_end (by kernel_rfl) ?_
                    refine jx_then ?_
                    refine jc_cond (t_20 != t_19.1) (by kernel_rfl) (fun hc_360 => ?_) (fun hc_360 => ?_)
                    · replace h := ifT hc_360 h
                      refine jc_seq ?_
                      refine jc_region ?_
                      refine jo_f [(0, 0)] (by kernel_rfl) ?_
                      refine jo_end (by kernel_rfl) ?_
                      refine jx_then ?_
                      refine jc_ret ?_
                      refine jx_thenr ?_
                      obtain rfl := Option.some.inj h
                      exact jx_ret [] (.bool false) [] rfl (by kernel_rfl) (by kernel_rfl) (fun w hm => ⟨rfl, hm.pick [] (by kernel_rfl) (by kernel_rfl)⟩)
                    · replace h := ifF hc_360 h
                      refine jc_skip ?_
                      refine jx_then ?_
                      refine jc_seq ?_
                      refine jc_meet (fun (j : (List GWornPin) × (List Int) × Int × Nat × (Option Nat) × Nat × (List Value) × Nat × (Option Nat) × Nat × (List Value) × Nat) => match j with | ⟨xs_21, xs_22, i_23, b_454, o_455, cap_456, sp_457, n_458, o_461, cap_462, sp_463, n_464⟩ => laws_FnExactTurnWear.k_24 xs_3 xs_4 i_5 t_19 xs_21 xs_22 i_23 = some r ∧ (xs_21.length = n_458) ∧ ((o_455 ≠ none → n_458 ≤ cap_456 ∧ sp_457.length = (cap_456 - n_458) * 3)) ∧ ((o_455 = none → xs_21 = [] ∧ cap_456 = 0)) ∧ (xs_22.length = n_464) ∧ ((o_461 ≠ none → n_464 ≤ cap_462 ∧ sp_463.length = (cap_462 - n_464) * 1)) ∧ ((o_461 = none → xs_22 = [] ∧ cap_462 = 0))) (fun (j : (List GWornPin) × (List Int) × Int × Nat × (Option Nat) × Nat × (List Value) × Nat × (Option Nat) × Nat × (List Value) × Nat) => match j with | ⟨xs_21, xs_22, i_23, b_454, o_455, cap_456, sp_457, n_458, o_461, cap_462, sp_463, n_464⟩ => [(6, [], (.bool false)), (8, [], (.pointer (some ⟨b_102, 0, none⟩))), (9, [], (.int .i64 i_5)), (12, [], (.pointer (some ⟨b_145, 0, none⟩))), (15, [], (.int .i64 t_19.1)), (16, [], (.int .i64 t_20)), (17, [], (.pointer (some ⟨b_454, 0, none⟩))), (18, [], (.int .i64 i_23))]) (fun (j : (List GWornPin) × (List Int) × Int × Nat × (Option Nat) × Nat × (List Value) × Nat × (Option Nat) × Nat × (List Value) × Nat) => match j with | ⟨xs_21, xs_22, i_23, b_454, o_455, cap_456, sp_457, n_458, o_461, cap_462, sp_463, n_464⟩ => [⟨some b_1, 25, [(.int .i16 aF0.fSteps), (.slice aF0_fHammers_a aF0.fHammers.length aF0_fHammers_c)]⟩, ⟨some b_2, 47, [(.slice aW1_fPins_a aW1.fPins.length aW1_fPins_c), (.slice aW1_fStrokes_a aW1.fStrokes.length aW1_fStrokes_c)]⟩, ⟨some b_102, 52, [(.slice (o_103.map fun b => ⟨b, 0, none⟩) xs_3.length cap_104), (.slice (o_109.map fun b => ⟨b, 0, none⟩) xs_4.length cap_110)]⟩, ⟨o_103, 124, row encGWornPin xs_3 sp_105⟩, ⟨o_109, 2, row encI64 xs_4 sp_111⟩, ⟨o_116, 176, row encGHammer t_15.2 sp_118⟩, ⟨some b_121, 35, [(.int .i16 t_7.fSteps), (.slice (o_116.map fun b => ⟨b, 0, none⟩) t_7.fHammers.length cap_117)]⟩, ⟨o_123, 124, row encGWornPin t_16.2.1 sp_125⟩, ⟨o_128, 2, row encI64 t_16.2.2 sp_130⟩, ⟨some b_133, 52, [(.slice (o_123.map fun b => ⟨b, 0, none⟩) t_8.fPins.length cap_124), (.slice (o_128.map fun b => ⟨b, 0, none⟩) t_8.fStrokes.length cap_129)]⟩, ⟨o_135, 124, row encGWornPin t_19.2.1 sp_137⟩, ⟨o_140, 2, row encI64 t_19.2.2 sp_142⟩, ⟨some b_145, 52, [(.slice (o_135.map fun b => ⟨b, 0, none⟩) t_9.1.fPins.length cap_136), (.slice (o_140.map fun b => ⟨b, 0, none⟩) t_9.1.fStrokes.length cap_141)]⟩, ⟨o_175, 176, row encGHammer t_11.fHammers sp_177⟩, ⟨o_323, 124, row encGWornPin t_13.fPins sp_325⟩, ⟨o_328, 2, row encI64 t_13.fStrokes sp_330⟩, ⟨some b_454, 52, [(.slice (o_455.map fun b => ⟨b, 0, none⟩) n_458 cap_456), (.slice (o_461.map fun b => ⟨b, 0, none⟩) n_464 cap_462)]⟩, ⟨o_455, 124, row encGWornPin xs_21 sp_457⟩, ⟨o_461, 2, row encI64 xs_22 sp_463⟩]) ?_ ?_
                      · refine jc_draw [⟨some b_1, 25, [(.int .i16 aF0.fSteps), (.slice aF0_fHammers_a aF0.fHammers.length aF0_fHammers_c)]⟩, ⟨some b_2, 47, [(.slice aW1_fPins_a aW1.fPins.length aW1_fPins_c), (.slice aW1_fStrokes_a aW1.fStrokes.length aW1_fStrokes_c)]⟩, ⟨some b_102, 52, [(.slice (o_103.map fun b => ⟨b, 0, none⟩) xs_3.length cap_104), (.slice (o_109.map fun b => ⟨b, 0, none⟩) xs_4.length cap_110)]⟩, ⟨o_103, 124, row encGWornPin xs_3 sp_105⟩, ⟨o_109, 2, row encI64 xs_4 sp_111⟩, ⟨o_116, 176, row encGHammer t_15.2 sp_118⟩, ⟨some b_121, 35, [(.int .i16 t_7.fSteps), (.slice (o_116.map fun b => ⟨b, 0, none⟩) t_7.fHammers.length cap_117)]⟩, ⟨o_123, 124, row encGWornPin t_16.2.1 sp_125⟩, ⟨o_128, 2, row encI64 t_16.2.2 sp_130⟩, ⟨some b_133, 52, [(.slice (o_123.map fun b => ⟨b, 0, none⟩) t_8.fPins.length cap_124), (.slice (o_128.map fun b => ⟨b, 0, none⟩) t_8.fStrokes.length cap_129)]⟩, ⟨o_135, 124, row encGWornPin t_19.2.1 sp_137⟩, ⟨o_140, 2, row encI64 t_19.2.2 sp_142⟩, ⟨some b_145, 52, [(.slice (o_135.map fun b => ⟨b, 0, none⟩) t_9.1.fPins.length cap_136), (.slice (o_140.map fun b => ⟨b, 0, none⟩) t_9.1.fStrokes.length cap_141)]⟩, ⟨o_175, 176, row encGHammer t_11.fHammers sp_177⟩, ⟨o_323, 124, row encGWornPin t_13.fPins sp_325⟩, ⟨o_328, 2, row encI64 t_13.fStrokes sp_330⟩] 12 (by kernel_rfl) (by kernel_rfl) ?_
                        refine jd_f [⟨0, 0, 0⟩, ⟨2, 1, 0⟩, ⟨4, 0, 0⟩] 9 (by kernel_rfl) (by kernel_rfl) (fun w h => h.pick [0, 1, 2, 3, 4, 5, 6, 7, 8, 9, 10, 11, 12, 13, 14, 15] (by kernel_rfl) (by kernel_rfl)) (by kernel_rfl) (by kernel_rfl) ?_
                        refine toD2 1 9 (by kernel_rfl) ?_ ?_
                        · obtain ⟨t_27, ht_477, h⟩ := bd h
                          refine p_call 0 17 #[(.agg #[(.int .i16 aF0.fSteps), (.slice aF0_fHammers_a aF0.fHammers.length aF0_fHammers_c)])] (by kernel_rfl) (by kernel_rfl) (fun w hm => laws_toFrame.calls aF0 w _ aF0_fHammers_a aF0.fHammers.length aF0_fHammers_c (hm.exRow aF0_fHammers_h List.not_mem_nil) rfl ht_477) ?_
                          rintro w v w' hm ⟨o_478, cap_479, sp_480, _, rfl, hs_481, ho_482, rfl, hm'⟩
                          refine ⟨_, hm.app hm', jkD (fun w h => h.pick [0, 1, 2, 3, 4, 5, 6, 7, 8, 9, 10, 11, 12, 13, 14, 15] (by kernel_rfl) (by kernel_rfl)) ?_⟩
                          clear hm hm'
                          refine toD2 3 9 (by kernel_rfl) ?_ ?_
                          · obtain ⟨t_28, ht_483, h⟩ := bd h
                            refine p_call 0 27 #[(.agg #[(.slice aW1_fPins_a aW1.fPins.length aW1_fPins_c), (.slice aW1_fStrokes_a aW1.fStrokes.length aW1_fStrokes_c)])] (by kernel_rfl) (by kernel_rfl) (fun w hm => laws_toWear.calls aW1 w _ aW1_fPins_a aW1.fPins.length aW1_fPins_c (hm.exRow aW1_fPins_h List.not_mem_nil) rfl aW1_fStrokes_a aW1.fStrokes.length aW1_fStrokes_c (hm.exRow aW1_fStrokes_h List.not_mem_nil) rfl ht_483) ?_
                            rintro w v w' hm ⟨o_484, cap_485, sp_486, _, rfl, hs_487, ho_488, o_489, cap_490, sp_491, _, rfl, hs_492, ho_493, rfl, hm'⟩
                            refine ⟨_, hm.app hm', jkD (fun w h => h.pick [0, 1, 2, 3, 4, 5, 6, 7, 8, 9, 10, 11, 12, 13, 14, 15] (by kernel_rfl) (by kernel_rfl)) ?_⟩
                            clear hm hm'
                            refine toD2 5 9 (by kernel_rfl) ?_ ?_
                            · obtain ⟨t_29, ht_494, h⟩ := bd h
                              refine p_call 0 66 #[(.agg #[(.int .i16 t_27.fSteps), (.slice (o_478.map fun b => ⟨b, 0, none⟩) t_27.fHammers.length cap_479)]), (.agg #[(.slice (o_484.map fun b => ⟨b, 0, none⟩) t_28.fPins.length cap_485), (.slice (o_489.map fun b => ⟨b, 0, none⟩) t_28.fStrokes.length cap_490)]), (.int .i64 aTurns2)] (by kernel_rfl) (by kernel_rfl) (fun w hm => impl_TurnWear.calls t_27 t_28 aTurns2 w _ (o_478.map fun b => ⟨b, 0, none⟩) t_27.fHammers.length cap_479 (hm.ownRow (hh := 16) (o := o_478) (T := 176) (enc := encGHammer) (xs := t_27.fHammers) (sp := sp_480) (by kernel_rfl) (fun e => (ho_482 e).1) encGHammer_len) rfl (o_484.map fun b => ⟨b, 0, none⟩) t_28.fPins.length cap_485 (hm.ownRow (hh := 17) (o := o_484) (T := 124) (enc := encGWornPin) (xs := t_28.fPins) (sp := sp_486) (by kernel_rfl) (fun e => (ho_488 e).1) encGWornPin_len) rfl (o_489.map fun b => ⟨b, 0, none⟩) t_28.fStrokes.length cap_490 (hm.ownRow (hh := 18) (o := o_489) (T := 2) (enc := encI64) (xs := t_28.fStrokes) (sp := sp_491) (by kernel_rfl) (fun e => (ho_493 e).1) encI64_len) rfl ht_494) ?_
                              rintro w v w' hm ⟨o_495, cap_496, sp_497, _, rfl, hs_498, ho_499, o_500, cap_501, sp_502, _, rfl, hs_503, ho_504, rfl, hm'⟩
                              refine ⟨_, hm.app hm', jkD (fun w h => h.pick [0, 1, 2, 3, 4, 5, 6, 7, 8, 9, 10, 11, 12, 13, 14, 15] (by kernel_rfl) (by kernel_rfl)) ?_⟩
                              clear hm hm'
                              refine jd_f [⟨6, 0, 0⟩, ⟨7, 0, 0⟩, ⟨8, 0, 0⟩] 3 (by kernel_rfl) (by kernel_rfl) (fun w h => h.pick [0, 1, 2, 3, 4, 5, 6, 7, 8, 9, 10, 11, 12, 13, 14, 15] (by kernel_rfl) (by kernel_rfl)) (by kernel_rfl) (by kernel_rfl) ?_
                              refine toD 9 (by kernel_rfl) (p_a 0 [0] (by kernel_rfl) (fun b => by kernel_rfl) (fun b_505 => jkD (fun w h => h.pick [0, 1, 2, 3, 4, 5, 6, 7, 8, 9, 10, 11, 12, 13, 14, 15] (by kernel_rfl) (by kernel_rfl)) ?_))
                              refine toD 10 (by kernel_rfl) (p_s 0 [21] (by kernel_rfl) (by kernel_rfl) (jkD (fun w h => h.pick [0, 1, 2, 3, 4, 5, 6, 7, 8, 9, 10, 11, 12, 13, 14, 15] (by kernel_rfl) (by kernel_rfl)) ?_))
                              refine jd_f [⟨11, 0, 0⟩] 0 (by kernel_rfl) (by kernel_rfl) (fun w h => h.pick [0, 1, 2, 3, 4, 5, 6, 7, 8, 9, 10, 11, 12, 13, 14, 15] (by kernel_rfl) (by kernel_rfl)) (by kernel_rfl) (by kernel_rfl) ?_
                              refine jd_end (by kernel_rfl) ?_
                              exact jx_meet ⟨t_29.1.fPins, t_29.1.fStrokes, t_29.2, b_505, o_495, cap_496, sp_497, t_29.1.fPins.length, o_500, cap_501, sp_502, t_29.1.fStrokes.length⟩ ⟨h, rfl, hs_498, ho_499, rfl, hs_503, ho_504⟩ (by kernel_rfl) [0, 1, 2, 3, 4, 5, 6, 7, 8, 9, 10, 11, 12, 13, 14, 15, 21, 19, 20] (by kernel_rfl) (by kernel_rfl)
                            · refine p_a 0 [0] (by kernel_rfl) (fun b => by kernel_rfl) (fun b_506 => jkD (fun w h => h.pick [0, 1, 2, 3, 4, 5, 6, 7, 8, 9, 10, 11, 12, 13, 14, 15] (by kernel_rfl) (by kernel_rfl)) ?_)
                              obtain ⟨t_29, ht_507, h⟩ := bd h
                              refine toD 5 (by kernel_rfl) (p_call 0 66 #[(.agg #[(.int .i16 t_27.fSteps), (.slice (o_478.map fun b => ⟨b, 0, none⟩) t_27.fHammers.length cap_479)]), (.agg #[(.slice (o_484.map fun b => ⟨b, 0, none⟩) t_28.fPins.length cap_485), (.slice (o_489.map fun b => ⟨b, 0, none⟩) t_28.fStrokes.length cap_490)]), (.int .i64 aTurns2)] (by kernel_rfl) (by kernel_rfl) (fun w hm => impl_TurnWear.calls t_27 t_28 aTurns2 w _ (o_478.map fun b => ⟨b, 0, none⟩) t_27.fHammers.length cap_479 (hm.ownRow (hh := 16) (o := o_478) (T := 176) (enc := encGHammer) (xs := t_27.fHammers) (sp := sp_480) (by kernel_rfl) (fun e => (ho_482 e).1) encGHammer_len) rfl (o_484.map fun b => ⟨b, 0, none⟩) t_28.fPins.length cap_485 (hm.ownRow (hh := 17) (o := o_484) (T := 124) (enc := encGWornPin) (xs := t_28.fPins) (sp := sp_486) (by kernel_rfl) (fun e => (ho_488 e).1) encGWornPin_len) rfl (o_489.map fun b => ⟨b, 0, none⟩) t_28.fStrokes.length cap_490 (hm.ownRow (hh := 18) (o := o_489) (T := 2) (enc := encI64) (xs := t_28.fStrokes) (sp := sp_491) (by kernel_rfl) (fun e => (ho_493 e).1) encI64_len) rfl ht_507) ?_)
                              rintro w v w' hm ⟨o_508, cap_509, sp_510, _, rfl, hs_511, ho_512, o_513, cap_514, sp_515, _, rfl, hs_516, ho_517, rfl, hm'⟩
                              refine ⟨_, hm.app hm', jkD (fun w h => h.pick [0, 1, 2, 3, 4, 5, 6, 7, 8, 9, 10, 11, 12, 13, 14, 15] (by kernel_rfl) (by kernel_rfl)) ?_⟩
                              clear hm hm'
                              refine jd_f [⟨6, 0, 0⟩, ⟨7, 0, 0⟩, ⟨8, 0, 0⟩] 2 (by kernel_rfl) (by kernel_rfl) (fun w h => h.pick [0, 1, 2, 3, 4, 5, 6, 7, 8, 9, 10, 11, 12, 13, 14, 15] (by kernel_rfl) (by kernel_rfl)) (by kernel_rfl) (by kernel_rfl) ?_
                              refine toD 10 (by kernel_rfl) (p_s 0 [19] (by kernel_rfl) (by kernel_rfl) (jkD (fun w h => h.pick [0, 1, 2, 3, 4, 5, 6, 7, 8, 9, 10, 11, 12, 13, 14, 15] (by kernel_rfl) (by kernel_rfl)) ?_))
                              refine jd_f [⟨11, 0, 0⟩] 0 (by kernel_rfl) (by kernel_rfl) (fun w h => h.pick [0, 1, 2, 3, 4, 5, 6, 7, 8, 9, 10, 11, 12, 13, 14, 15] (by kernel_rfl) (by kernel_rfl)) (by kernel_rfl) (by kernel_rfl) ?_
                              refine jd_end (by kernel_rfl) ?_
                              exact jx_meet ⟨t_29.1.fPins, t_29.1.fStrokes, t_29.2, b_506, o_508, cap_509, sp_510, t_29.1.fPins.length, o_513, cap_514, sp_515, t_29.1.fStrokes.length⟩ ⟨h, rfl, hs_511, ho_512, rfl, hs_516, ho_517⟩ (by kernel_rfl) [0, 1, 2, 3, 4, 5, 6, 7, 8, 9, 10, 11, 12, 13, 14, 15, 19, 20, 21] (by kernel_rfl) (by kernel_rfl)
                          · refine p_a 0 [0] (by kernel_rfl) (fun b => by kernel_rfl) (fun b_518 => jkD (fun w h => h.pick [0, 1, 2, 3, 4, 5, 6, 7, 8, 9, 10, 11, 12, 13, 14, 15] (by kernel_rfl) (by kernel_rfl)) ?_)
                            obtain ⟨t_28, ht_519, h⟩ := bd h
                            refine toD 3 (by kernel_rfl) (p_call 0 27 #[(.agg #[(.slice aW1_fPins_a aW1.fPins.length aW1_fPins_c), (.slice aW1_fStrokes_a aW1.fStrokes.length aW1_fStrokes_c)])] (by kernel_rfl) (by kernel_rfl) (fun w hm => laws_toWear.calls aW1 w _ aW1_fPins_a aW1.fPins.length aW1_fPins_c (hm.exRow aW1_fPins_h List.not_mem_nil) rfl aW1_fStrokes_a aW1.fStrokes.length aW1_fStrokes_c (hm.exRow aW1_fStrokes_h List.not_mem_nil) rfl ht_519) ?_)
                            rintro w v w' hm ⟨o_520, cap_521, sp_522, _, rfl, hs_523, ho_524, o_525, cap_526, sp_527, _, rfl, hs_528, ho_529, rfl, hm'⟩
                            refine ⟨_, hm.app hm', jkD (fun w h => h.pick [0, 1, 2, 3, 4, 5, 6, 7, 8, 9, 10, 11, 12, 13, 14, 15] (by kernel_rfl) (by kernel_rfl)) ?_⟩
                            clear hm hm'
                            obtain ⟨t_29, ht_530, h⟩ := bd h
                            refine toD 5 (by kernel_rfl) (p_call 0 66 #[(.agg #[(.int .i16 t_27.fSteps), (.slice (o_478.map fun b => ⟨b, 0, none⟩) t_27.fHammers.length cap_479)]), (.agg #[(.slice (o_520.map fun b => ⟨b, 0, none⟩) t_28.fPins.length cap_521), (.slice (o_525.map fun b => ⟨b, 0, none⟩) t_28.fStrokes.length cap_526)]), (.int .i64 aTurns2)] (by kernel_rfl) (by kernel_rfl) (fun w hm => impl_TurnWear.calls t_27 t_28 aTurns2 w _ (o_478.map fun b => ⟨b, 0, none⟩) t_27.fHammers.length cap_479 (hm.ownRow (hh := 16) (o := o_478) (T := 176) (enc := encGHammer) (xs := t_27.fHammers) (sp := sp_480) (by kernel_rfl) (fun e => (ho_482 e).1) encGHammer_len) rfl (o_520.map fun b => ⟨b, 0, none⟩) t_28.fPins.length cap_521 (hm.ownRow (hh := 18) (o := o_520) (T := 124) (enc := encGWornPin) (xs := t_28.fPins) (sp := sp_522) (by kernel_rfl) (fun e => (ho_524 e).1) encGWornPin_len) rfl (o_525.map fun b => ⟨b, 0, none⟩) t_28.fStrokes.length cap_526 (hm.ownRow (hh := 19) (o := o_525) (T := 2) (enc := encI64) (xs := t_28.fStrokes) (sp := sp_527) (by kernel_rfl) (fun e => (ho_529 e).1) encI64_len) rfl ht_530) ?_)
                            rintro w v w' hm ⟨o_531, cap_532, sp_533, _, rfl, hs_534, ho_535, o_536, cap_537, sp_538, _, rfl, hs_539, ho_540, rfl, hm'⟩
                            refine ⟨_, hm.app hm', jkD (fun w h => h.pick [0, 1, 2, 3, 4, 5, 6, 7, 8, 9, 10, 11, 12, 13, 14, 15] (by kernel_rfl) (by kernel_rfl)) ?_⟩
                            clear hm hm'
                            refine jd_f [⟨6, 0, 0⟩, ⟨7, 0, 0⟩, ⟨8, 0, 0⟩] 2 (by kernel_rfl) (by kernel_rfl) (fun w h => h.pick [0, 1, 2, 3, 4, 5, 6, 7, 8, 9, 10, 11, 12, 13, 14, 15] (by kernel_rfl) (by kernel_rfl)) (by kernel_rfl) (by kernel_rfl) ?_
                            refine toD 10 (by kernel_rfl) (p_s 0 [17] (by kernel_rfl) (by kernel_rfl) (jkD (fun w h => h.pick [0, 1, 2, 3, 4, 5, 6, 7, 8, 9, 10, 11, 12, 13, 14, 15] (by kernel_rfl) (by kernel_rfl)) ?_))
                            refine jd_f [⟨11, 0, 0⟩] 0 (by kernel_rfl) (by kernel_rfl) (fun w h => h.pick [0, 1, 2, 3, 4, 5, 6, 7, 8, 9, 10, 11, 12, 13, 14, 15] (by kernel_rfl) (by kernel_rfl)) (by kernel_rfl) (by kernel_rfl) ?_
                            refine jd_end (by kernel_rfl) ?_
                            exact jx_meet ⟨t_29.1.fPins, t_29.1.fStrokes, t_29.2, b_518, o_531, cap_532, sp_533, t_29.1.fPins.length, o_536, cap_537, sp_538, t_29.1.fStrokes.length⟩ ⟨h, rfl, hs_534, ho_535, rfl, hs_539, ho_540⟩ (by kernel_rfl) [0, 1, 2, 3, 4, 5, 6, 7, 8, 9, 10, 11, 12, 13, 14, 15, 17, 20, 21] (by kernel_rfl) (by kernel_rfl)
                        · refine p_a 0 [0] (by kernel_rfl) (fun b => by kernel_rfl) (fun b_541 => jkD (fun w h => h.pick [0, 1, 2, 3, 4, 5, 6, 7, 8, 9, 10, 11, 12, 13, 14, 15] (by kernel_rfl) (by kernel_rfl)) ?_)
                          obtain ⟨t_27, ht_542, h⟩ := bd h
                          refine toD 1 (by kernel_rfl) (p_call 0 17 #[(.agg #[(.int .i16 aF0.fSteps), (.slice aF0_fHammers_a aF0.fHammers.length aF0_fHammers_c)])] (by kernel_rfl) (by kernel_rfl) (fun w hm => laws_toFrame.calls aF0 w _ aF0_fHammers_a aF0.fHammers.length aF0_fHammers_c (hm.exRow aF0_fHammers_h List.not_mem_nil) rfl ht_542) ?_)
                          rintro w v w' hm ⟨o_543, cap_544, sp_545, _, rfl, hs_546, ho_547, rfl, hm'⟩
                          refine ⟨_, hm.app hm', jkD (fun w h => h.pick [0, 1, 2, 3, 4, 5, 6, 7, 8, 9, 10, 11, 12, 13, 14, 15] (by kernel_rfl) (by kernel_rfl)) ?_⟩
                          clear hm hm'
                          obtain ⟨t_28, ht_548, h⟩ := bd h
                          refine toD 3 (by kernel_rfl) (p_call 0 27 #[(.agg #[(.slice aW1_fPins_a aW1.fPins.length aW1_fPins_c), (.slice aW1_fStrokes_a aW1.fStrokes.length aW1_fStrokes_c)])] (by kernel_rfl) (by kernel_rfl) (fun w hm => laws_toWear.calls aW1 w _ aW1_fPins_a aW1.fPins.length aW1_fPins_c (hm.exRow aW1_fPins_h List.not_mem_nil) rfl aW1_fStrokes_a aW1.fStrokes.length aW1_fStrokes_c (hm.exRow aW1_fStrokes_h List.not_mem_nil) rfl ht_548) ?_)
                          rintro w v w' hm ⟨o_549, cap_550, sp_551, _, rfl, hs_552, ho_553, o_554, cap_555, sp_556, _, rfl, hs_557, ho_558, rfl, hm'⟩
                          refine ⟨_, hm.app hm', jkD (fun w h => h.pick [0, 1, 2, 3, 4, 5, 6, 7, 8, 9, 10, 11, 12, 13, 14, 15] (by kernel_rfl) (by kernel_rfl)) ?_⟩
                          clear hm hm'
                          obtain ⟨t_29, ht_559, h⟩ := bd h
                          refine toD 5 (by kernel_rfl) (p_call 0 66 #[(.agg #[(.int .i16 t_27.fSteps), (.slice (o_543.map fun b => ⟨b, 0, none⟩) t_27.fHammers.length cap_544)]), (.agg #[(.slice (o_549.map fun b => ⟨b, 0, none⟩) t_28.fPins.length cap_550), (.slice (o_554.map fun b => ⟨b, 0, none⟩) t_28.fStrokes.length cap_555)]), (.int .i64 aTurns2)] (by kernel_rfl) (by kernel_rfl) (fun w hm => impl_TurnWear.calls t_27 t_28 aTurns2 w _ (o_543.map fun b => ⟨b, 0, none⟩) t_27.fHammers.length cap_544 (hm.ownRow (hh := 17) (o := o_543) (T := 176) (enc := encGHammer) (xs := t_27.fHammers) (sp := sp_545) (by kernel_rfl) (fun e => (ho_547 e).1) encGHammer_len) rfl (o_549.map fun b => ⟨b, 0, none⟩) t_28.fPins.length cap_550 (hm.ownRow (hh := 18) (o := o_549) (T := 124) (enc := encGWornPin) (xs := t_28.fPins) (sp := sp_551) (by kernel_rfl) (fun e => (ho_553 e).1) encGWornPin_len) rfl (o_554.map fun b => ⟨b, 0, none⟩) t_28.fStrokes.length cap_555 (hm.ownRow (hh := 19) (o := o_554) (T := 2) (enc := encI64) (xs := t_28.fStrokes) (sp := sp_556) (by kernel_rfl) (fun e => (ho_558 e).1) encI64_len) rfl ht_559) ?_)
                          rintro w v w' hm ⟨o_560, cap_561, sp_562, _, rfl, hs_563, ho_564, o_565, cap_566, sp_567, _, rfl, hs_568, ho_569, rfl, hm'⟩
                          refine ⟨_, hm.app hm', jkD (fun w h => h.pick [0, 1, 2, 3, 4, 5, 6, 7, 8, 9, 10, 11, 12, 13, 14, 15] (by kernel_rfl) (by kernel_rfl)) ?_⟩
                          clear hm hm'
                          refine jd_f [⟨6, 0, 0⟩, ⟨7, 0, 0⟩, ⟨8, 0, 0⟩] 2 (by kernel_rfl) (by kernel_rfl) (fun w h => h.pick [0, 1, 2, 3, 4, 5, 6, 7, 8, 9, 10, 11, 12, 13, 14, 15] (by kernel_rfl) (by kernel_rfl)) (by kernel_rfl) (by kernel_rfl) ?_
                          refine toD 10 (by kernel_rfl) (p_s 0 [16] (by kernel_rfl) (by kernel_rfl) (jkD (fun w h => h.pick [0, 1, 2, 3, 4, 5, 6, 7, 8, 9, 10, 11, 12, 13, 14, 15] (by kernel_rfl) (by kernel_rfl)) ?_))
                          refine jd_f [⟨11, 0, 0⟩] 0 (by kernel_rfl) (by kernel_rfl) (fun w h => h.pick [0, 1, 2, 3, 4, 5, 6, 7, 8, 9, 10, 11, 12, 13, 14, 15] (by kernel_rfl) (by kernel_rfl)) (by kernel_rfl) (by kernel_rfl) ?_
                          refine jd_end (by kernel_rfl) ?_
                          exact jx_meet ⟨t_29.1.fPins, t_29.1.fStrokes, t_29.2, b_541, o_560, cap_561, sp_562, t_29.1.fPins.length, o_565, cap_566, sp_567, t_29.1.fStrokes.length⟩ ⟨h, rfl, hs_563, ho_564, rfl, hs_568, ho_569⟩ (by kernel_rfl) [0, 1, 2, 3, 4, 5, 6, 7, 8, 9, 10, 11, 12, 13, 14, 15, 16, 20, 21] (by kernel_rfl) (by kernel_rfl)
                      · rintro ⟨xs_21, xs_22, i_23, b_454, o_455, cap_456, sp_457, n_458, o_461, cap_462, sp_463, n_464⟩ ⟨h, rfl, hs_459, ho_460, rfl, hs_465, ho_466⟩
                        replace h : laws_FnExactTurnWear.k_24 xs_3 xs_4 i_5 t_19 xs_21 xs_22 i_23 = some r := h
                        rw [laws_FnExactTurnWear.k_24] at h
                        refine jx_then ?_
                        refine jc_seq ?_
                        refine jc_seq ?_
                        refine jc_region ?_
                        refine jo_f [(16, 0), (2, 0)] (by kernel_rfl) ?_
                        obtain ⟨t_25, ht_471, h⟩ := bd h
                        refine toO (by kernel_rfl) (p_call 0 29 #[(.agg #[(.slice (o_455.map fun b => ⟨b, 0, none⟩) xs_21.length cap_456), (.slice (o_461.map fun b => ⟨b, 0, none⟩) xs_22.length cap_462)]), (.agg #[(.slice (o_103.map fun b => ⟨b, 0, none⟩) xs_3.length cap_104), (.slice (o_109.map fun b => ⟨b, 0, none⟩) xs_4.length cap_110)])] (by kernel_rfl) (by kernel_rfl) (fun w hm => laws_eqWear.calls (⟨xs_21, xs_22⟩ : GWear) (⟨xs_3, xs_4⟩ : GWear) w _ (o_455.map fun b => ⟨b, 0, none⟩) xs_21.length cap_456 (hm.ownRow (hh := 17) (o := o_455) (T := 124) (enc := encGWornPin) (xs := xs_21) (sp := sp_457) (by kernel_rfl) (fun e => (ho_460 e).1) encGWornPin_len) rfl (o_461.map fun b => ⟨b, 0, none⟩) xs_22.length cap_462 (hm.ownRow (hh := 18) (o := o_461) (T := 2) (enc := encI64) (xs := xs_22) (sp := sp_463) (by kernel_rfl) (fun e => (ho_466 e).1) encI64_len) rfl (o_103.map fun b => ⟨b, 0, none⟩) xs_3.length cap_104 (hm.ownRow (hh := 3) (o := o_103) (T := 124) (enc := encGWornPin) (xs := xs_3) (sp := sp_105) (by kernel_rfl) (fun e => (ho_108 e).1) encGWornPin_len) rfl (o_109.map fun b => ⟨b, 0, none⟩) xs_4.length cap_110 (hm.ownRow (hh := 4) (o := o_109) (T := 2) (enc := encI64) (xs := xs_4) (sp := sp_111) (by kernel_rfl) (fun e => (ho_114 e).1) encI64_len) rfl ht_471) ?_)
                        rintro w v w' hm ⟨rfl, hm'⟩
                        refine ⟨_, hm.app hm', jkO ?_⟩
                        clear hm hm'
                        refine jo_f [(0, 0), (0, 0), (0, 1), (0, 1), (0, 1), (0, 0)] (by kernel_rfl) ?_
                        refine jo_end (by kernel_rfl) ?_
                        refine jx_then ?_
                        refine jc_cond ((!t_25) || (i_23 != i_5)) (by kernel_rfl) (fun hc_472 => ?_) (fun hc_472 => ?_)
                        · replace h := ifT hc_472 h
                          refine jc_seq ?_
                          refine jc_region ?_
                          refine jo_f [(0, 0)] (by kernel_rfl) ?_
                          refine jo_end (by kernel_rfl) ?_
                          refine jx_then ?_
                          refine jc_ret ?_
                          refine jx_thenr ?_
                          obtain rfl := Option.some.inj h
                          exact jx_ret [] (.bool false) [] rfl (by kernel_rfl) (by kernel_rfl) (fun w hm => ⟨rfl, hm.pick [] (by kernel_rfl) (by kernel_rfl)⟩)
                        · replace h := ifF hc_472 h
                          refine jc_skip ?_
                          refine jx_then ?_
                          refine jc_seq ?_
                          refine jc_region ?_
                          refine jo_f [(0, 0)] (by kernel_rfl) ?_
                          refine jo_end (by kernel_rfl) ?_
                          refine jx_then ?_
                          refine jc_seq ?_
                          refine jc_region ?_
                          refine jo_f [(12, 0), (0, 0)] (by kernel_rfl) ?_
                          obtain ⟨t_26, ht_473, h⟩ := bd h
                          refine toO (by kernel_rfl) (p_call 0 38 #[(.agg #[(.slice (o_135.map fun b => ⟨b, 0, none⟩) t_9.1.fPins.length cap_136), (.slice (o_140.map fun b => ⟨b, 0, none⟩) t_9.1.fStrokes.length cap_141)]), (.int .i64 1)] (by kernel_rfl) (by kernel_rfl) (fun w hm => laws_heldWear.calls (⟨t_19.2.1, t_19.2.2⟩ : GWear) 1 w _ (o_135.map fun b => ⟨b, 0, none⟩) t_9.1.fPins.length cap_136 (hm.ownRow (hh := 10) (o := o_135) (T := 124) (enc := encGWornPin) (xs := t_19.2.1) (sp := sp_137) (by kernel_rfl) (fun e => (ho_353 e).1) encGWornPin_len) hn_352 (o_140.map fun b => ⟨b, 0, none⟩) t_9.1.fStrokes.length cap_141 (hm.ownRow (hh := 11) (o := o_140) (T := 2) (enc := encI64) (xs := t_19.2.2) (sp := sp_142) (by kernel_rfl) (fun e => (ho_355 e).1) encI64_len) hn_354 ht_473) ?_)
                          rintro w v w' hm ⟨rfl, hm'⟩
                          refine ⟨_, hm.app hm', jkO ?_⟩
                          clear hm hm'
                          refine jo_f [(0, 0)] (by kernel_rfl) ?_
                          refine jo_end (by kernel_rfl) ?_
                          refine jx_then ?_
                          refine jc_seq ?_
                          refine jc_seq ?_
                          refine jc_region ?_
                          refine jo_f [(0, 0), (0, 0)] (by kernel_rfl) ?_
                          refine jo_end (by kernel_rfl) ?_
                          refine jx_then ?_
                          refine jc_cond (decide (t_26 < 0)) (by kernel_rfl) (fun hc_475 => ?_) (fun hc_475 => ?_)
                          · replace h := ifT hc_475 h
                            refine jc_seq ?_
                            refine jc_region ?_
                            refine jo_f [(0, 0)] (by kernel_rfl) ?_
                            refine jo_end (by kernel_rfl) ?_
                            refine jx_then ?_
                            refine jc_ret ?_
                            refine jx_thenr ?_
                            obtain rfl := Option.some.inj h
                            exact jx_ret [] (.bool false) [] rfl (by kernel_rfl) (by kernel_rfl) (fun w hm => ⟨rfl, hm.pick [] (by kernel_rfl) (by kernel_rfl)⟩)
                          · replace h := ifF hc_475 h
                            refine jc_skip ?_
                            refine jx_then ?_
                            refine jc_seq ?_
                            refine jc_seq ?_
                            refine jc_region ?_
                            refine jo_f [(0, 0), (0, 0), (0, 0)] (by kernel_rfl) ?_
                            refine jo_end (by kernel_rfl) ?_
                            refine jx_then ?_
                            refine jc_cond (t_26 != t_19.1) (by kernel_rfl) (fun hc_476 => ?_) (fun hc_476 => ?_)
                            · replace h := ifT hc_476 h
                              refine jc_seq ?_
                              refine jc_region ?_
                              refine jo_f [(0, 0)] (by kernel_rfl) ?_
                              refine jo_end (by kernel_rfl) ?_
                              refine jx_then ?_
                              refine jc_ret ?_
                              refine jx_thenr ?_
                              obtain rfl := Option.some.inj h
                              exact jx_ret [] (.bool false) [] rfl (by kernel_rfl) (by kernel_rfl) (fun w hm => ⟨rfl, hm.pick [] (by kernel_rfl) (by kernel_rfl)⟩)
                            · replace h := ifF hc_476 h
                              refine jc_skip ?_
                              refine jx_then ?_
                              refine jc_seq ?_
                              refine jc_region ?_
                              refine jo_f [(0, 0)] (by kernel_rfl) ?_
                              refine jo_end (by kernel_rfl) ?_
                              refine jx_then ?_
                              refine jc_ret ?_
                              obtain rfl := Option.some.inj h
                              exact jx_ret [] (.bool true) [] rfl (by kernel_rfl) (by kernel_rfl) (fun w hm => ⟨rfl, hm.pick [] (by kernel_rfl) (by kernel_rfl)⟩)
end Go.Proofs.Ytdnkjgmncfhejaa
