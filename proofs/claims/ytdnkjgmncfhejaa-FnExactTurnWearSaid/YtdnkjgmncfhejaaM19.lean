/- Functions of the program that the laws reach: a plain function each, and that the call comes to its answer if the plain function has one. Printed by a program. -/
import Derived.Test.YtdnkjgmncfhejaaT
import Derived.Test.YtdnkjgmncfhejaaM0
import Derived.Test.YtdnkjgmncfhejaaM7
import Derived.Test.YtdnkjgmncfhejaaM14
import Derived.Test.YtdnkjgmncfhejaaM15
namespace Go.Proofs.Ytdnkjgmncfhejaa
open Eng
set_option linter.unusedVariables false

/-! ### spec.l06Whole -/
noncomputable def spec_l06Whole (w0 : GWear) (v1 : GLives) : Option (Bool) := (spec_l06Worn w0 v1).bind fun t_1 => some (((t_1.1.length : Int) == 0) && ((t_1.2.length : Int) == 0))
set_option maxRecDepth 100000 in
theorem spec_l06Whole.calls (w0 : GWear) (v1 : GLives) (w : World) (r : Bool) (w0_fPins_a : Option Addr) (w0_fPins_an : Nat) (w0_fPins_c : Nat) (w0_fPins_h : Rw w w0_fPins_a 3 encGWornPin w0.fPins) (w0_fPins_hn : w0.fPins.length = w0_fPins_an) (w0_fStrokes_a : Option Addr) (w0_fStrokes_an : Nat) (w0_fStrokes_c : Nat) (w0_fStrokes_h : Rw w w0_fStrokes_a 1 encI64 w0.fStrokes) (w0_fStrokes_hn : w0.fStrokes.length = w0_fStrokes_an) (w0_b : Nat) (hm0 : Mem w (bs [some w0_b]) [⟨some w0_b, 52, [(.slice w0_fPins_a w0_fPins_an w0_fPins_c), (.slice w0_fStrokes_a w0_fStrokes_an w0_fStrokes_c)]⟩] w) (w0_fPins_ha : w0.fPins ≠ [] → aB w0_fPins_a ∉ bs [some w0_b]) (w0_fStrokes_ha : w0.fStrokes ≠ [] → aB w0_fStrokes_a ∉ bs [some w0_b]) (h : spec_l06Whole w0 v1 = some r) :
    Calls Try.prog 119 #[(.pointer (some ⟨w0_b, 0, none⟩)), (.agg #[(.int .i64 v1.fPin), (.int .i64 v1.fHammer)])] w fun e w' => ∃ v, e = .returned v ∧ (v = (.bool r) ∧ Mem w (bs [some w0_b]) [⟨some w0_b, 52, [(.slice w0_fPins_a w0_fPins_an w0_fPins_c), (.slice w0_fStrokes_a w0_fStrokes_an w0_fStrokes_c)]⟩] w') := by
  subst w0_fPins_hn w0_fStrokes_hn
  rw [spec_l06Whole] at h
  refine enter (args := [(.pointer (some ⟨w0_b, 0, none⟩)), (.agg #[(.int .i64 v1.fPin), (.int .i64 v1.fHammer)])]) Try.func119 rfl Try.ntmps119 (by kernel_rfl) (L := [⟨some w0_b, 52, [(.slice w0_fPins_a w0.fPins.length w0_fPins_c), (.slice w0_fStrokes_a w0.fStrokes.length w0_fStrokes_c)]⟩]) (W := bs [some w0_b]) hm0 ?_
  refine jc_seq ?_
  refine jc_region ?_
  refine toO (by kernel_rfl) (p_a 0 [0] (by kernel_rfl) (fun b => by kernel_rfl) (fun b_1 => jkO ?_))
  refine jo_f [(0, 0)] (by kernel_rfl) ?_
  refine jo_end (by kernel_rfl) ?_
  refine jx_then ?_
  refine jc_seq ?_
  refine jc_region ?_
  refine jo_f [(0, 0), (1, 0)] (by kernel_rfl) ?_
  obtain ⟨t_1, ht_2, h⟩ := bd h
  refine toO (by kernel_rfl) (p_call 0 125 #[(.pointer (some ⟨w0_b, 0, none⟩)), (.agg #[(.int .i64 v1.fPin), (.int .i64 v1.fHammer)])] (by kernel_rfl) (by kernel_rfl) (fun w hm => spec_l06Worn.calls w0 v1 w _ w0_fPins_a w0.fPins.length w0_fPins_c (hm.exRowW w0_fPins_h w0_fPins_ha) rfl w0_fStrokes_a w0.fStrokes.length w0_fStrokes_c (hm.exRowW w0_fStrokes_h w0_fStrokes_ha) rfl w0_b (hm.pass (N := [⟨some w0_b, 52, [(.slice w0_fPins_a w0.fPins.length w0_fPins_c), (.slice w0_fStrokes_a w0.fStrokes.length w0_fStrokes_c)]⟩]) [0] (by kernel_rfl) (by kernel_rfl)) (hm.exApart (N := [⟨some w0_b, 52, [(.slice w0_fPins_a w0.fPins.length w0_fPins_c), (.slice w0_fStrokes_a w0.fStrokes.length w0_fStrokes_c)]⟩]) w0_fPins_h w0_fPins_ha [0] (by kernel_rfl)) (hm.exApart (N := [⟨some w0_b, 52, [(.slice w0_fPins_a w0.fPins.length w0_fPins_c), (.slice w0_fStrokes_a w0.fStrokes.length w0_fStrokes_c)]⟩]) w0_fStrokes_h w0_fStrokes_ha [0] (by kernel_rfl)) ht_2) ?_)
  rintro w v w' hm ⟨o_3, cap_4, sp_5, _, rfl, hs_6, ho_7, o_8, cap_9, sp_10, _, rfl, hs_11, ho_12, rfl, hm'⟩
  refine ⟨_, hm.appW (ps := [(0, ⟨some w0_b, 52, [(.slice w0_fPins_a w0.fPins.length w0_fPins_c), (.slice w0_fStrokes_a w0.fStrokes.length w0_fStrokes_c)]⟩)]) (N := [⟨o_3, 124, row encGWornPin t_1.1 sp_5⟩, ⟨o_8, 2, row encI64 t_1.2 sp_10⟩]) hm' (by kernel_rfl) (by kernel_rfl), jkO ?_⟩
  clear hm hm'
  refine jo_f [(0, 0), (0, 0), (0, 0), (0, 0), (0, 0)] (by kernel_rfl) ?_
  refine jo_end (by kernel_rfl) ?_
  refine jx_then ?_
  refine jc_seq ?_
  refine jc_region ?_
  refine jo_f [(0, 0), (0, 0), (0, 0), (0, 0), (0, 1), (0, 1), (0, 1), (0, 0), (0, 0)] (by kernel_rfl) ?_
  refine jo_end (by kernel_rfl) ?_
  refine jx_then ?_
  refine jc_ret ?_
  obtain rfl := Option.some.inj h
  exact jx_ret [] (.bool (((t_1.1.length : Int) == 0) && ((t_1.2.length : Int) == 0))) [] rfl (by kernel_rfl) (by kernel_rfl) (fun w hm => ⟨rfl, hm.pick [0] (by kernel_rfl) (by kernel_rfl)⟩)

/-! ### spec.l06Left -/
noncomputable def spec_l06Left (used0 : Int) (each1 : Int) (life2 : Int) : Option (Int) := (if (each1 == 0) = true then some 1000000 else (if each1 ≠ 0 then (spec_l00Min 1000000 (w64 (Int.tdiv (w64 (life2 - used0)) each1))).bind fun t_1 => some t_1 else none))
set_option maxRecDepth 100000 in
theorem spec_l06Left.calls (used0 : Int) (each1 : Int) (life2 : Int) (w : World) (r : Int) (h : spec_l06Left used0 each1 life2 = some r) :
    Calls Try.prog 123 #[(.int .i64 used0), (.int .i64 each1), (.int .i64 life2)] w fun e w' => ∃ v, e = .returned v ∧ (v = (.int .i64 r) ∧ Mem w [] [] w') := by
  rw [spec_l06Left] at h
  refine enter (args := [(.int .i64 used0), (.int .i64 each1), (.int .i64 life2)]) Try.func123 rfl Try.ntmps123 (by kernel_rfl) (L := []) (W := []) (Mem.start w) ?_
  refine jc_seq ?_
  refine jc_region ?_
  refine jo_f [(0, 0)] (by kernel_rfl) ?_
  refine jo_end (by kernel_rfl) ?_
  refine jx_then ?_
  refine jc_seq ?_
  refine jc_seq ?_
  refine jc_region ?_
  refine jo_f [(0, 0), (0, 0)] (by kernel_rfl) ?_
  refine jo_end (by kernel_rfl) ?_
  refine jx_then ?_
  refine jc_cond (each1 == 0) (by kernel_rfl) (fun hc_2 => ?_) (fun hc_2 => ?_)
  · replace h := ifT hc_2 h
    refine jc_seq ?_
    refine jc_region ?_
    refine jo_f [(0, 0)] (by kernel_rfl) ?_
    refine jo_end (by kernel_rfl) ?_
    refine jx_then ?_
    refine jc_ret ?_
    refine jx_thenr ?_
    obtain rfl := Option.some.inj h
    exact jx_ret [] (.int .i64 1000000) [] rfl (by kernel_rfl) (by kernel_rfl) (fun w hm => ⟨rfl, hm.pick [] (by kernel_rfl) (by kernel_rfl)⟩)
  · replace h := ifF hc_2 h
    refine jc_skip ?_
    refine jx_then ?_
    refine jc_seq ?_
    refine jc_region ?_
    refine jo_f [(0, 0), (0, 0), (0, 0), (0, 0)] (by kernel_rfl) ?_
    obtain ⟨hg_3, h⟩ := gd h
    refine toO (by kernel_rfl) (p_quo 0 .i64 (w64 (life2 - used0)) each1 (by kernel_rfl) (by kernel_rfl) hg_3 (jkO ?_))
    obtain ⟨t_1, ht_4, h⟩ := bd h
    refine toO (by kernel_rfl) (p_call 0 131 #[(.int .i64 1000000), (.int .i64 (w64 (Int.tdiv (w64 (life2 - used0)) each1)))] (by kernel_rfl) (by kernel_rfl) (fun w hm => spec_l00Min.calls 1000000 (w64 (Int.tdiv (w64 (life2 - used0)) each1)) w _ ht_4) ?_)
    rintro w v w' hm ⟨rfl, hm'⟩
    refine ⟨_, hm.app hm', jkO ?_⟩
    clear hm hm'
    refine jo_f [(0, 0)] (by kernel_rfl) ?_
    refine jo_end (by kernel_rfl) ?_
    refine jx_then ?_
    refine jc_ret ?_
    obtain rfl := Option.some.inj h
    exact jx_ret [] (.int .i64 t_1) [] rfl (by kernel_rfl) (by kernel_rfl) (fun w hm => ⟨rfl, hm.pick [] (by kernel_rfl) (by kernel_rfl)⟩)

/-! ### spec.l06Least -/
noncomputable def spec_l06Least.k_5 (i_4 : Int) : Option (Int) := some i_4
noncomputable def spec_l06Least.l_8 (w0 : GWear) (v1 : GLives) (t_1 : (List Int)) : (Int × Int) → Option ((Int × Int) ⊕ (Int))
  | (i_6, i_7) => (if (decide (i_7 < (t_1.length : Int))) = true then (ix w0.fStrokes i_7).bind fun x_10 => (ix t_1 i_7).bind fun x_11 => (spec_l06Left x_10 x_11 v1.fHammer).bind fun t_12 => (spec_l00Min i_6 t_12).bind fun t_13 => some (.inl (t_13, (w64 (i_7 + 1)))) else some (.inr i_6))
noncomputable def spec_l06Least.k_3 (w0 : GWear) (v1 : GLives) (t_1 : (List Int)) (i_2 : Int) : Option (Int) := (loop (spec_l06Least.l_8 w0 v1 t_1) (i_2, 0)).bind fun t_9 => spec_l06Least.k_5 t_9
noncomputable def spec_l06Least.l_16 (w0 : GWear) (v1 : GLives) : (Int × Int) → Option ((Int × Int) ⊕ (Int))
  | (i_14, i_15) => (if (decide (i_15 < (w0.fPins.length : Int))) = true then (ix w0.fPins i_15).bind fun x_18 => (spec_l06Left x_18.fTurns 1 v1.fPin).bind fun t_19 => (spec_l00Min i_14 t_19).bind fun t_20 => some (.inl (t_20, (w64 (i_15 + 1)))) else some (.inr i_14))
noncomputable def spec_l06Least (w0 : GWear) (v1 : GLives) : Option (Int) := (spec_l06Each w0).bind fun t_1 => (loop (spec_l06Least.l_16 w0 v1) (1000000, 0)).bind fun t_17 => spec_l06Least.k_3 w0 v1 t_1 t_17
set_option maxRecDepth 100000 in
theorem spec_l06Least.calls (w0 : GWear) (v1 : GLives) (w : World) (r : Int) (w0_fPins_a : Option Addr) (w0_fPins_an : Nat) (w0_fPins_c : Nat) (w0_fPins_h : Rw w w0_fPins_a 3 encGWornPin w0.fPins) (w0_fPins_hn : w0.fPins.length = w0_fPins_an) (w0_fStrokes_a : Option Addr) (w0_fStrokes_an : Nat) (w0_fStrokes_c : Nat) (w0_fStrokes_h : Rw w w0_fStrokes_a 1 encI64 w0.fStrokes) (w0_fStrokes_hn : w0.fStrokes.length = w0_fStrokes_an) (w0_b : Nat) (hm0 : Mem w (bs [some w0_b]) [⟨some w0_b, 52, [(.slice w0_fPins_a w0_fPins_an w0_fPins_c), (.slice w0_fStrokes_a w0_fStrokes_an w0_fStrokes_c)]⟩] w) (w0_fPins_ha : w0.fPins ≠ [] → aB w0_fPins_a ∉ bs [some w0_b]) (w0_fStrokes_ha : w0.fStrokes ≠ [] → aB w0_fStrokes_a ∉ bs [some w0_b]) (h : spec_l06Least w0 v1 = some r) :
    Calls Try.prog 120 #[(.pointer (some ⟨w0_b, 0, none⟩)), (.agg #[(.int .i64 v1.fPin), (.int .i64 v1.fHammer)])] w fun e w' => ∃ v, e = .returned v ∧ (v = (.int .i64 r) ∧ Mem w (bs [some w0_b]) [⟨some w0_b, 52, [(.slice w0_fPins_a w0_fPins_an w0_fPins_c), (.slice w0_fStrokes_a w0_fStrokes_an w0_fStrokes_c)]⟩] w') := by
  subst w0_fPins_hn w0_fStrokes_hn
  rw [spec_l06Least] at h
  refine enter (args := [(.pointer (some ⟨w0_b, 0, none⟩)), (.agg #[(.int .i64 v1.fPin), (.int .i64 v1.fHammer)])]) Try.func120 rfl Try.ntmps120 (by kernel_rfl) (L := [⟨some w0_b, 52, [(.slice w0_fPins_a w0.fPins.length w0_fPins_c), (.slice w0_fStrokes_a w0.fStrokes.length w0_fStrokes_c)]⟩]) (W := bs [some w0_b]) hm0 ?_
  refine jc_seq ?_
  refine jc_region ?_
  refine toO (by kernel_rfl) (p_a 0 [0] (by kernel_rfl) (fun b => by kernel_rfl) (fun b_1 => jkO ?_))
  refine jo_f [(0, 0)] (by kernel_rfl) ?_
  refine jo_end (by kernel_rfl) ?_
  refine jx_then ?_
  refine jc_seq ?_
  refine jc_region ?_
  refine jo_f [(0, 0)] (by kernel_rfl) ?_
  refine jo_end (by kernel_rfl) ?_
  refine jx_then ?_
  refine jc_seq ?_
  refine jc_region ?_
  refine jo_f [(0, 0)] (by kernel_rfl) ?_
  obtain ⟨t_1, ht_2, h⟩ := bd h
  refine toO (by kernel_rfl) (p_call 0 124 #[(.pointer (some ⟨w0_b, 0, none⟩))] (by kernel_rfl) (by kernel_rfl) (fun w hm => spec_l06Each.calls w0 w _ w0_fPins_a w0.fPins.length w0_fPins_c (hm.exRowW w0_fPins_h w0_fPins_ha) rfl w0_fStrokes_a w0.fStrokes.length w0_fStrokes_c (hm.exRowW w0_fStrokes_h w0_fStrokes_ha) rfl w0_b (hm.pass (N := [⟨some w0_b, 52, [(.slice w0_fPins_a w0.fPins.length w0_fPins_c), (.slice w0_fStrokes_a w0.fStrokes.length w0_fStrokes_c)]⟩]) [0] (by kernel_rfl) (by kernel_rfl)) (hm.exApart (N := [⟨some w0_b, 52, [(.slice w0_fPins_a w0.fPins.length w0_fPins_c), (.slice w0_fStrokes_a w0.fStrokes.length w0_fStrokes_c)]⟩]) w0_fPins_h w0_fPins_ha [0] (by kernel_rfl)) (hm.exApart (N := [⟨some w0_b, 52, [(.slice w0_fPins_a w0.fPins.length w0_fPins_c), (.slice w0_fStrokes_a w0.fStrokes.length w0_fStrokes_c)]⟩]) w0_fStrokes_h w0_fStrokes_ha [0] (by kernel_rfl)) ht_2) ?_)
  rintro w v w' hm ⟨o_3, cap_4, sp_5, _, rfl, hs_6, ho_7, rfl, hm'⟩
  refine ⟨_, hm.appW (ps := [(0, ⟨some w0_b, 52, [(.slice w0_fPins_a w0.fPins.length w0_fPins_c), (.slice w0_fStrokes_a w0.fStrokes.length w0_fStrokes_c)]⟩)]) (N := [⟨o_3, 2, row encI64 t_1 sp_5⟩]) hm' (by kernel_rfl) (by kernel_rfl), jkO ?_⟩
  clear hm hm'
  refine jo_f [(0, 0)] (by kernel_rfl) ?_
  refine jo_end (by kernel_rfl) ?_
  refine jx_then ?_
  refine jc_seq ?_
  refine jc_seq ?_
  refine jc_region ?_
  refine jo_f [(0, 0)] (by kernel_rfl) ?_
  refine jo_end (by kernel_rfl) ?_
  refine jx_then ?_
  refine jc_meet (fun (j : Int) => match j with | i_2 => spec_l06Least.k_3 w0 v1 t_1 i_2 = some r) (fun (j : Int) => match j with | i_2 => [(0, [], (.pointer (some ⟨w0_b, 0, none⟩))), (3, [], (.pointer (some ⟨b_1, 0, none⟩))), (4, [], (.int .i64 0)), (5, [], (.int .i64 i_2)), (6, [], (.slice (o_3.map fun b => ⟨b, 0, none⟩) t_1.length cap_4))]) (fun (j : Int) => match j with | i_2 => [⟨some w0_b, 52, [(.slice w0_fPins_a w0.fPins.length w0_fPins_c), (.slice w0_fStrokes_a w0.fStrokes.length w0_fStrokes_c)]⟩, ⟨some b_1, 94, [(.int .i64 v1.fPin), (.int .i64 v1.fHammer)]⟩, ⟨o_3, 2, row encI64 t_1 sp_5⟩]) ?_ ?_
  · refine jc_block ?_
    obtain ⟨t_17, ht_171, hr_163⟩ := bd h
    refine jc_loop (fun (s : Int × Int) (x : Unit) => match s, x with | ⟨i_14, i_15⟩, _ => True) (fun (s : Int × Int) (x : Unit) => match s, x with | ⟨i_14, i_15⟩, _ => [(0, [], (.pointer (some ⟨w0_b, 0, none⟩))), (3, [], (.pointer (some ⟨b_1, 0, none⟩))), (4, [], (.int .i64 0)), (5, [], (.int .i64 i_14)), (6, [], (.slice (o_3.map fun b => ⟨b, 0, none⟩) t_1.length cap_4)), (7, [], (.int .i64 i_15))]) (fun (s : Int × Int) (x : Unit) => match s, x with | ⟨i_14, i_15⟩, _ => [⟨some w0_b, 52, [(.slice w0_fPins_a w0.fPins.length w0_fPins_c), (.slice w0_fStrokes_a w0.fStrokes.length w0_fStrokes_c)]⟩, ⟨some b_1, 94, [(.int .i64 v1.fPin), (.int .i64 v1.fHammer)]⟩, ⟨o_3, 2, row encI64 t_1 sp_5⟩]) ht_171 () trivial (by kernel_rfl) [0, 1, 2] (by kernel_rfl) (by kernel_rfl) ?_
    rintro ⟨i_14, i_15⟩ _ y_164 _ h
    rw [spec_l06Least.l_16] at h
    refine jc_seq ?_
    refine jc_seq ?_
    refine jc_region ?_
    refine jo_f [(0, 0), (0, 0), (0, 0), (0, 0), (0, 0), (0, 0), (0, 0)] (by kernel_rfl) ?_
    refine jo_end (by kernel_rfl) ?_
    refine jx_then ?_
    refine jc_cond (decide (i_15 < (w0.fPins.length : Int))) (by kernel_rfl) (fun hc_166 => ?_) (fun hc_166 => ?_)
    · replace h := ifT hc_166 h
      refine jc_skip ?_
      refine jx_then ?_
      refine jc_seq ?_
      refine jc_block ?_
      refine jc_draw [⟨some w0_b, 52, [(.slice w0_fPins_a w0.fPins.length w0_fPins_c), (.slice w0_fStrokes_a w0.fStrokes.length w0_fStrokes_c)]⟩, ⟨some b_1, 94, [(.int .i64 v1.fPin), (.int .i64 v1.fHammer)]⟩, ⟨o_3, 2, row encI64 t_1 sp_5⟩] 14 (by kernel_rfl) (by kernel_rfl) ?_
      refine jd_f [⟨0, 0, 0⟩, ⟨1, 0, 0⟩, ⟨2, 0, 0⟩, ⟨3, 0, 0⟩, ⟨4, 0, 0⟩, ⟨5, 0, 0⟩, ⟨9, 0, 0⟩, ⟨10, 1, 0⟩] 6 (by kernel_rfl) (by kernel_rfl) (fun w h => h.pick [0, 1, 2] (by kernel_rfl) (by kernel_rfl)) (by kernel_rfl) (by kernel_rfl) ?_
      obtain ⟨x_18, hx_167, h⟩ := bd h
      refine jd_v 6 0 (by kernel_rfl) (fun w h => h.pick [0, 1, 2] (by kernel_rfl) (by kernel_rfl)) (by kernel_rfl) (by kernel_rfl) _ (fun w hm => idx_run (a := w0_fPins_a) (len := w0.fPins.length) (s := 3) (j := i_15) (by kernel_rfl) (ix_some hx_167).1 (ltn hx_167 rfl) (w0_fPins_h.sp hx_167)) ?_
      refine jd_f [⟨7, 0, 0⟩] 4 (by kernel_rfl) (by kernel_rfl) (fun w h => h.pick [0, 1, 2] (by kernel_rfl) (by kernel_rfl)) (by kernel_rfl) (by kernel_rfl) ?_
      refine jd_v 8 0 (by kernel_rfl) (fun w h => h.pick [0, 1, 2] (by kernel_rfl) (by kernel_rfl)) (by kernel_rfl) (by kernel_rfl) _ (fun w hm => ld_run (b := aB w0_fPins_a) (off := (aO w0_fPins_a + i_15.toNat * 3 + 2)) (s := 1) (agg := false) (vs := (((encGWornPin x_18).drop 2).take 1)) (by kernel_rfl) (by kernel_rfl) (.inr rfl) (((hm.exRowW w0_fPins_h w0_fPins_ha).at hx_167).sub 2 1)) ?_
      obtain ⟨t_19, ht_168, h⟩ := bd h
      refine toD 11 (by kernel_rfl) (p_call 0 123 #[(.int .i64 x_18.fTurns), (.int .i64 1), (.int .i64 v1.fPin)] (by kernel_rfl) (by kernel_rfl) (fun w hm => spec_l06Left.calls x_18.fTurns 1 v1.fPin w _ ht_168) ?_)
      rintro w v w' hm ⟨rfl, hm'⟩
      refine ⟨_, hm.app hm', jkD (fun w h => h.pick [0, 1, 2] (by kernel_rfl) (by kernel_rfl)) ?_⟩
      clear hm hm'
      obtain ⟨t_20, ht_169, h⟩ := bd h
      refine toD 12 (by kernel_rfl) (p_call 0 131 #[(.int .i64 i_14), (.int .i64 t_19)] (by kernel_rfl) (by kernel_rfl) (fun w hm => spec_l00Min.calls i_14 t_19 w _ ht_169) ?_)
      rintro w v w' hm ⟨rfl, hm'⟩
      refine ⟨_, hm.app hm', jkD (fun w h => h.pick [0, 1, 2] (by kernel_rfl) (by kernel_rfl)) ?_⟩
      clear hm hm'
      refine jd_f [⟨13, 0, 0⟩] 0 (by kernel_rfl) (by kernel_rfl) (fun w h => h.pick [0, 1, 2] (by kernel_rfl) (by kernel_rfl)) (by kernel_rfl) (by kernel_rfl) ?_
      refine jd_end (by kernel_rfl) ?_
      refine jx_inn ?_
      refine jx_then ?_
      refine jc_region ?_
      refine jo_f [(0, 0), (0, 0), (0, 0)] (by kernel_rfl) ?_
      refine jo_end (by kernel_rfl) ?_
      exact jx_back (t_20, (w64 (i_15 + 1))) () (Option.some.inj h).symm trivial [0, 1, 2] (by kernel_rfl) (by kernel_rfl) (by kernel_rfl)
    · replace h := ifF hc_166 h
      refine jc_exit ?_
      refine jx_thenx ?_
      refine jx_leave i_14 (Option.some.inj h).symm (fun e_170 => ?_)
      subst e_170
      refine jx_ine ?_
      exact jx_meet i_14 hr_163 (by kernel_rfl) [0, 1, 2] (by kernel_rfl) (by kernel_rfl)
  · rintro i_2 h
    replace h : spec_l06Least.k_3 w0 v1 t_1 i_2 = some r := h
    rw [spec_l06Least.k_3] at h
    refine jx_then ?_
    refine jc_seq ?_
    refine jc_seq ?_
    refine jc_region ?_
    refine jo_f [(0, 0)] (by kernel_rfl) ?_
    refine jo_end (by kernel_rfl) ?_
    refine jx_then ?_
    refine jc_meet (fun (j : Int) => match j with | i_4 => spec_l06Least.k_5 i_4 = some r) (fun (j : Int) => match j with | i_4 => [(4, [], (.int .i64 0)), (5, [], (.int .i64 i_4))]) (fun (j : Int) => match j with | i_4 => [⟨some w0_b, 52, [(.slice w0_fPins_a w0.fPins.length w0_fPins_c), (.slice w0_fStrokes_a w0.fStrokes.length w0_fStrokes_c)]⟩, ⟨some b_1, 94, [(.int .i64 v1.fPin), (.int .i64 v1.fHammer)]⟩, ⟨o_3, 2, row encI64 t_1 sp_5⟩]) ?_ ?_
    · refine jc_block ?_
      obtain ⟨t_9, ht_152, hr_143⟩ := bd h
      refine jc_loop (fun (s : Int × Int) (x : Unit) => match s, x with | ⟨i_6, i_7⟩, _ => True) (fun (s : Int × Int) (x : Unit) => match s, x with | ⟨i_6, i_7⟩, _ => [(0, [], (.pointer (some ⟨w0_b, 0, none⟩))), (3, [], (.pointer (some ⟨b_1, 0, none⟩))), (4, [], (.int .i64 0)), (5, [], (.int .i64 i_6)), (6, [], (.slice (o_3.map fun b => ⟨b, 0, none⟩) t_1.length cap_4)), (8, [], (.int .i64 i_7))]) (fun (s : Int × Int) (x : Unit) => match s, x with | ⟨i_6, i_7⟩, _ => [⟨some w0_b, 52, [(.slice w0_fPins_a w0.fPins.length w0_fPins_c), (.slice w0_fStrokes_a w0.fStrokes.length w0_fStrokes_c)]⟩, ⟨some b_1, 94, [(.int .i64 v1.fPin), (.int .i64 v1.fHammer)]⟩, ⟨o_3, 2, row encI64 t_1 sp_5⟩]) ht_152 () trivial (by kernel_rfl) [0, 1, 2] (by kernel_rfl) (by kernel_rfl) ?_
      rintro ⟨i_6, i_7⟩ _ y_144 _ h
      rw [spec_l06Least.l_8] at h
      refine jc_seq ?_
      refine jc_seq ?_
      refine jc_region ?_
      refine jo_f [(0, 0), (0, 0), (0, 0), (0, 0)] (by kernel_rfl) ?_
      refine jo_end (by kernel_rfl) ?_
      refine jx_then ?_
      refine jc_cond (decide (i_7 < (t_1.length : Int))) (by kernel_rfl) (fun hc_146 => ?_) (fun hc_146 => ?_)
      · replace h := ifT hc_146 h
        refine jc_skip ?_
        refine jx_then ?_
        refine jc_seq ?_
        refine jc_block ?_
        refine jc_draw [⟨some w0_b, 52, [(.slice w0_fPins_a w0.fPins.length w0_fPins_c), (.slice w0_fStrokes_a w0.fStrokes.length w0_fStrokes_c)]⟩, ⟨some b_1, 94, [(.int .i64 v1.fPin), (.int .i64 v1.fHammer)]⟩, ⟨o_3, 2, row encI64 t_1 sp_5⟩] 17 (by kernel_rfl) (by kernel_rfl) ?_
        refine jd_f [⟨0, 0, 0⟩, ⟨1, 0, 0⟩, ⟨2, 0, 0⟩, ⟨3, 0, 0⟩, ⟨4, 0, 0⟩, ⟨5, 0, 0⟩, ⟨8, 0, 0⟩, ⟨9, 0, 0⟩, ⟨12, 0, 0⟩, ⟨13, 1, 0⟩] 7 (by kernel_rfl) (by kernel_rfl) (fun w h => h.pick [0, 1, 2] (by kernel_rfl) (by kernel_rfl)) (by kernel_rfl) (by kernel_rfl) ?_
        obtain ⟨x_10, hx_147, h⟩ := bd h
        refine jd_v 6 0 (by kernel_rfl) (fun w h => h.pick [0, 1, 2] (by kernel_rfl) (by kernel_rfl)) (by kernel_rfl) (by kernel_rfl) _ (fun w hm => idx_run (a := w0_fStrokes_a) (len := w0.fStrokes.length) (s := 1) (j := i_7) (by kernel_rfl) (ix_some hx_147).1 (ltn hx_147 rfl) (w0_fStrokes_h.sp hx_147)) ?_
        refine jd_v 7 0 (by kernel_rfl) (fun w h => h.pick [0, 1, 2] (by kernel_rfl) (by kernel_rfl)) (by kernel_rfl) (by kernel_rfl) _ (fun w hm => ld_run (b := aB w0_fStrokes_a) (off := (aO w0_fStrokes_a + i_7.toNat * 1)) (s := 1) (agg := false) (vs := (encI64 x_10)) (by kernel_rfl) (by kernel_rfl) (.inr rfl) ((hm.exRowW w0_fStrokes_h w0_fStrokes_ha).at hx_147)) ?_
        obtain ⟨x_11, hx_148, h⟩ := bd h
        refine jd_v 10 0 (by kernel_rfl) (fun w h => h.pick [0, 1, 2] (by kernel_rfl) (by kernel_rfl)) (by kernel_rfl) (by kernel_rfl) _ (fun w hm => idx_run (a := (o_3.map fun b => ⟨b, 0, none⟩)) (len := t_1.length) (s := 1) (j := i_7) (by kernel_rfl) (ix_some hx_148).1 (ltn hx_148 rfl) (spo ho_7 hx_148)) ?_
        refine jd_v 11 0 (by kernel_rfl) (fun w h => h.pick [0, 1, 2] (by kernel_rfl) (by kernel_rfl)) (by kernel_rfl) (by kernel_rfl) _ (fun w hm => ld_run (b := aB (o_3.map fun b => ⟨b, 0, none⟩)) (off := (aO (o_3.map fun b => ⟨b, 0, none⟩) + i_7.toNat * 1)) (s := 1) (agg := false) (vs := (encI64 x_11)) (by kernel_rfl) (by kernel_rfl) (.inr rfl) ((hm.ownRow (hh := 2) (o := o_3) (T := 2) (enc := encI64) (xs := t_1) (sp := sp_5) (by kernel_rfl) (fun e => (ho_7 e).1) encI64_len).at hx_148)) ?_
        obtain ⟨t_12, ht_149, h⟩ := bd h
        refine toD 14 (by kernel_rfl) (p_call 0 123 #[(.int .i64 x_10), (.int .i64 x_11), (.int .i64 v1.fHammer)] (by kernel_rfl) (by kernel_rfl) (fun w hm => spec_l06Left.calls x_10 x_11 v1.fHammer w _ ht_149) ?_)
        rintro w v w' hm ⟨rfl, hm'⟩
        refine ⟨_, hm.app hm', jkD (fun w h => h.pick [0, 1, 2] (by kernel_rfl) (by kernel_rfl)) ?_⟩
        clear hm hm'
        obtain ⟨t_13, ht_150, h⟩ := bd h
        refine toD 15 (by kernel_rfl) (p_call 0 131 #[(.int .i64 i_6), (.int .i64 t_12)] (by kernel_rfl) (by kernel_rfl) (fun w hm => spec_l00Min.calls i_6 t_12 w _ ht_150) ?_)
        rintro w v w' hm ⟨rfl, hm'⟩
        refine ⟨_, hm.app hm', jkD (fun w h => h.pick [0, 1, 2] (by kernel_rfl) (by kernel_rfl)) ?_⟩
        clear hm hm'
        refine jd_f [⟨16, 0, 0⟩] 0 (by kernel_rfl) (by kernel_rfl) (fun w h => h.pick [0, 1, 2] (by kernel_rfl) (by kernel_rfl)) (by kernel_rfl) (by kernel_rfl) ?_
        refine jd_end (by kernel_rfl) ?_
        refine jx_inn ?_
        refine jx_then ?_
        refine jc_region ?_
        refine jo_f [(0, 0), (0, 0), (0, 0)] (by kernel_rfl) ?_
        refine jo_end (by kernel_rfl) ?_
        exact jx_back (t_13, (w64 (i_7 + 1))) () (Option.some.inj h).symm trivial [0, 1, 2] (by kernel_rfl) (by kernel_rfl) (by kernel_rfl)
      · replace h := ifF hc_146 h
        refine jc_exit ?_
        refine jx_thenx ?_
        refine jx_leave i_6 (Option.some.inj h).symm (fun e_151 => ?_)
        subst e_151
        refine jx_ine ?_
        exact jx_meet i_6 hr_143 (by kernel_rfl) [0, 1, 2] (by kernel_rfl) (by kernel_rfl)
    · rintro i_4 h
      replace h : spec_l06Least.k_5 i_4 = some r := h
      rw [spec_l06Least.k_5] at h
      refine jx_then ?_
      refine jc_seq ?_
      refine jc_region ?_
      refine jo_f [(0, 0), (0, 0)] (by kernel_rfl) ?_
      refine jo_end (by kernel_rfl) ?_
      refine jx_then ?_
      refine jc_ret ?_
      obtain rfl := Option.some.inj h
      exact jx_ret [] (.int .i64 i_4) [] rfl (by kernel_rfl) (by kernel_rfl) (fun w hm => ⟨rfl, hm.pick [0] (by kernel_rfl) (by kernel_rfl)⟩)

/-! ### slices.IndexFunc[[]impl.part,impl.part] -/
noncomputable def slices_IndexFunc_part_at_impl_part_isWorn.k_1 : Option (Int) := some (-1)
noncomputable def slices_IndexFunc_part_at_impl_part_isWorn.l_3 (s0 : List Gpart) : Int → Option ((Int) ⊕ (Int ⊕ Unit))
  | i_2 => (if (decide (i_2 < (s0.length : Int))) = true then (ix s0 i_2).bind fun x_5 => (impl_part_isWorn x_5).bind fun t_6 => (if t_6 = true then some (.inr (.inl i_2)) else some (.inl (w64 (i_2 + 1)))) else some (.inr (.inr ())))
noncomputable def slices_IndexFunc_part_at_impl_part_isWorn (s0 : List Gpart) : Option (Int) := (loop (slices_IndexFunc_part_at_impl_part_isWorn.l_3 s0) 0).bind fun t_4 => match t_4 with | .inl p => some p | .inr p => slices_IndexFunc_part_at_impl_part_isWorn.k_1
set_option maxRecDepth 100000 in
theorem slices_IndexFunc_part_at_impl_part_isWorn.calls (s0 : List Gpart) (w : World) (r : Int) (s0_a : Option Addr) (s0_an : Nat) (s0_c : Nat) (s0_h : Rw w s0_a 5 encGpart s0) (s0_hn : s0.length = s0_an) (h : slices_IndexFunc_part_at_impl_part_isWorn s0 = some r) :
    Calls Try.prog 182 #[(.slice s0_a s0_an s0_c), (.func (.func 127) #[] #[])] w fun e w' => ∃ v, e = .returned v ∧ (v = (.int .i64 r) ∧ Mem w [] [] w') := by
  subst s0_hn
  rw [slices_IndexFunc_part_at_impl_part_isWorn] at h
  refine enter (args := [(.slice s0_a s0.length s0_c), (.func (.func 127) #[] #[])]) Try.func182 rfl Try.ntmps182 (by kernel_rfl) (L := []) (W := []) (Mem.start w) ?_
  refine jc_seq ?_
  refine jc_region ?_
  refine jo_f [(0, 0)] (by kernel_rfl) ?_
  refine jo_end (by kernel_rfl) ?_
  refine jx_then ?_
  refine jc_seq ?_
  refine jc_seq ?_
  refine jc_region ?_
  refine jo_f [(0, 0), (0, 0), (0, 0)] (by kernel_rfl) ?_
  refine jo_end (by kernel_rfl) ?_
  refine jx_then ?_
  refine jc_meet (fun (_ : Unit) => slices_IndexFunc_part_at_impl_part_isWorn.k_1 = some r) (fun (_ : Unit) => [(4, [], (.int .i64 0))]) (fun (_ : Unit) => []) ?_ ?_
  · refine jc_block ?_
    obtain ⟨t_4, ht_40, hr_31⟩ := bd h
    refine jc_loop (fun (s : Int) (x : Unit) => match s, x with | i_2, _ => True) (fun (s : Int) (x : Unit) => match s, x with | i_2, _ => [(0, [], (.slice s0_a s0.length s0_c)), (1, [], (.func (.func 127) #[] #[])), (4, [], (.int .i64 0)), (7, [], (.int .i64 (s0.length : Int))), (8, [], (.int .i64 i_2))]) (fun (s : Int) (x : Unit) => match s, x with | i_2, _ => []) ht_40 () trivial (by kernel_rfl) [] (by kernel_rfl) (by kernel_rfl) ?_
    rintro i_2 _ y_32 _ h
    rw [slices_IndexFunc_part_at_impl_part_isWorn.l_3] at h
    refine jc_seq ?_
    refine jc_region ?_
    refine jo_f [(0, 0)] (by kernel_rfl) ?_
    refine jo_end (by kernel_rfl) ?_
    refine jx_then ?_
    refine jc_seq ?_
    refine jc_cond (decide (i_2 < (s0.length : Int))) (by kernel_rfl) (fun hc_34 => ?_) (fun hc_34 => ?_)
    · replace h := ifT hc_34 h
      refine jc_skip ?_
      refine jx_then ?_
      refine jc_seq ?_
      refine jc_block ?_
      refine jc_seq ?_
      refine jc_region ?_
      refine jo_f [(0, 0), (0, 0)] (by kernel_rfl) ?_
      refine jo_end (by kernel_rfl) ?_
      refine jx_then ?_
      refine jc_seq ?_
      refine jc_region ?_
      refine jo_f [(0, 0), (0, 0), (0, 0)] (by kernel_rfl) ?_
      obtain ⟨x_5, hx_35, h⟩ := bd h
      refine toO (by kernel_rfl) (p_idx 0 s0_a s0.length i_2 5 (by kernel_rfl) (by kernel_rfl) (ix_some hx_35).1 (ltn hx_35 rfl) (s0_h.sp hx_35) (jkO ?_))
      refine toO (by kernel_rfl) (p_ld 0 (aB s0_a) (aO s0_a + i_2.toNat * 5) true (encGpart x_5) (by kernel_rfl) (by kernel_rfl) (by kernel_rfl) (fun w hm => ((hm.exRow s0_h List.not_mem_nil).at hx_35)) (jkO ?_))
      obtain ⟨t_6, ht_36, h⟩ := bd h
      refine toO (by kernel_rfl) (p_call 0 127 #[(.agg #[(.int .i64 x_5.fmade), (.int .i64 x_5.feach), (.int .i64 x_5.flife), (.int .i64 x_5.fstep), (.int .i64 x_5.ftrack)])] (by kernel_rfl) (by kernel_rfl) (fun w hm => impl_part_isWorn.calls x_5 w _ ht_36) ?_)
      rintro w v w' hm ⟨rfl, hm'⟩
      refine ⟨_, hm.app hm', jkO ?_⟩
      clear hm hm'
      refine jo_end (by kernel_rfl) ?_
      refine jx_then ?_
      refine jc_cond t_6 (by kernel_rfl) (fun hc_37 => ?_) (fun hc_37 => ?_)
      · replace h := ifT hc_37 h
        refine jc_seq ?_
        refine jc_region ?_
        refine jo_f [(0, 0), (0, 0)] (by kernel_rfl) ?_
        refine jo_end (by kernel_rfl) ?_
        refine jx_then ?_
        refine jc_ret ?_
        refine jx_inr ?_
        refine jx_thenr ?_
        refine jx_leaver (.inl i_2) (Option.some.inj h).symm (fun e_38 => ?_)
        subst e_38
        refine jx_inr ?_
        refine jx_thenr ?_
        refine jx_thenr ?_
        obtain rfl := Option.some.inj hr_31
        exact jx_ret [] (.int .i64 i_2) [] rfl (by kernel_rfl) (by kernel_rfl) (fun w hm => ⟨rfl, hm.pick [] (by kernel_rfl) (by kernel_rfl)⟩)
      · replace h := ifF hc_37 h
        refine jc_skip ?_
        refine jx_inn ?_
        refine jx_then ?_
        refine jc_region ?_
        refine jo_f [(0, 0), (0, 0)] (by kernel_rfl) ?_
        refine jo_end (by kernel_rfl) ?_
        exact jx_back (w64 (i_2 + 1)) () (Option.some.inj h).symm trivial [] (by kernel_rfl) (by kernel_rfl) (by kernel_rfl)
    · replace h := ifF hc_34 h
      refine jc_exit ?_
      refine jx_thenx ?_
      refine jx_leave (.inr ()) (Option.some.inj h).symm (fun e_39 => ?_)
      subst e_39
      refine jx_ine ?_
      exact jx_meet () hr_31 (by kernel_rfl) [] (by kernel_rfl) (by kernel_rfl)
  · rintro _ h
    replace h : slices_IndexFunc_part_at_impl_part_isWorn.k_1 = some r := h
    rw [slices_IndexFunc_part_at_impl_part_isWorn.k_1] at h
    refine jx_then ?_
    refine jc_seq ?_
    refine jc_region ?_
    refine jo_f [(0, 0)] (by kernel_rfl) ?_
    refine jo_end (by kernel_rfl) ?_
    refine jx_then ?_
    refine jc_ret ?_
    obtain rfl := Option.some.inj h
    exact jx_ret [] (.int .i64 (-1)) [] rfl (by kernel_rfl) (by kernel_rfl) (fun w hm => ⟨rfl, hm.pick [] (by kernel_rfl) (by kernel_rfl)⟩)

/-! ### slices.ContainsFunc[[]impl.part,impl.part] -/
noncomputable def slices_ContainsFunc_part_at_impl_part_isWorn (s0 : List Gpart) : Option (Bool) := (slices_IndexFunc_part_at_impl_part_isWorn s0).bind fun t_1 => some (decide (t_1 ≥ 0))
set_option maxRecDepth 100000 in
theorem slices_ContainsFunc_part_at_impl_part_isWorn.calls (s0 : List Gpart) (w : World) (r : Bool) (s0_a : Option Addr) (s0_an : Nat) (s0_c : Nat) (s0_h : Rw w s0_a 5 encGpart s0) (s0_hn : s0.length = s0_an) (h : slices_ContainsFunc_part_at_impl_part_isWorn s0 = some r) :
    Calls Try.prog 170 #[(.slice s0_a s0_an s0_c), (.func (.func 127) #[] #[])] w fun e w' => ∃ v, e = .returned v ∧ (v = (.bool r) ∧ Mem w [] [] w') := by
  subst s0_hn
  rw [slices_ContainsFunc_part_at_impl_part_isWorn] at h
  refine enter (args := [(.slice s0_a s0.length s0_c), (.func (.func 127) #[] #[])]) Try.func170 rfl Try.ntmps170 (by kernel_rfl) (L := []) (W := []) (Mem.start w) ?_
  refine jc_seq ?_
  refine jc_region ?_
  refine jo_f [(0, 0)] (by kernel_rfl) ?_
  refine jo_end (by kernel_rfl) ?_
  refine jx_then ?_
  refine jc_seq ?_
  refine jc_region ?_
  refine jo_f [(0, 0), (0, 0)] (by kernel_rfl) ?_
  obtain ⟨t_1, ht_1, h⟩ := bd h
  refine toO (by kernel_rfl) (p_call 0 182 #[(.slice s0_a s0.length s0_c), (.func (.func 127) #[] #[])] (by kernel_rfl) (by kernel_rfl) (fun w hm => slices_IndexFunc_part_at_impl_part_isWorn.calls s0 w _ s0_a s0.length s0_c (hm.exRow s0_h List.not_mem_nil) rfl ht_1) ?_)
  rintro w v w' hm ⟨rfl, hm'⟩
  refine ⟨_, hm.app hm', jkO ?_⟩
  clear hm hm'
  refine jo_f [(0, 0), (0, 0)] (by kernel_rfl) ?_
  refine jo_end (by kernel_rfl) ?_
  refine jx_then ?_
  refine jc_ret ?_
  obtain rfl := Option.some.inj h
  exact jx_ret [] (.bool (decide (t_1 ≥ 0))) [] rfl (by kernel_rfl) (by kernel_rfl) (fun w hm => ⟨rfl, hm.pick [] (by kernel_rfl) (by kernel_rfl)⟩)

/-! ### impl.lifeCode -/
noncomputable def impl_lifeCode (f0 : GFrame) (w1 : GWear) (v2 : GLives) : Option (Int) := (impl_wearCode f0 w1 [v2]).bind fun t_1 => (if (t_1 != 0) = true then some t_1 else (impl_Wear_parts w1 f0 v2).bind fun t_2 => (slices_ContainsFunc_part_at_impl_part_isWorn t_2).bind fun t_3 => (impl_unless (!t_3) 4).bind fun t_4 => some t_4)
set_option maxRecDepth 100000 in
theorem impl_lifeCode.calls (f0 : GFrame) (w1 : GWear) (v2 : GLives) (w : World) (r : Int) (f0_fHammers_a : Option Addr) (f0_fHammers_an : Nat) (f0_fHammers_c : Nat) (f0_fHammers_h : Rw w f0_fHammers_a 2 encGHammer f0.fHammers) (f0_fHammers_hn : f0.fHammers.length = f0_fHammers_an) (w1_fPins_a : Option Addr) (w1_fPins_an : Nat) (w1_fPins_c : Nat) (w1_fPins_h : Rw w w1_fPins_a 3 encGWornPin w1.fPins) (w1_fPins_hn : w1.fPins.length = w1_fPins_an) (w1_fStrokes_a : Option Addr) (w1_fStrokes_an : Nat) (w1_fStrokes_c : Nat) (w1_fStrokes_h : Rw w w1_fStrokes_a 1 encI64 w1.fStrokes) (w1_fStrokes_hn : w1.fStrokes.length = w1_fStrokes_an) (h : impl_lifeCode f0 w1 v2 = some r) :
    Calls Try.prog 121 #[(.agg #[(.int .i16 f0.fSteps), (.slice f0_fHammers_a f0_fHammers_an f0_fHammers_c)]), (.agg #[(.slice w1_fPins_a w1_fPins_an w1_fPins_c), (.slice w1_fStrokes_a w1_fStrokes_an w1_fStrokes_c)]), (.agg #[(.int .i64 v2.fPin), (.int .i64 v2.fHammer)])] w fun e w' => ∃ v, e = .returned v ∧ (v = (.int .i64 r) ∧ Mem w [] [] w') := by
  subst f0_fHammers_hn w1_fPins_hn w1_fStrokes_hn
  rw [impl_lifeCode] at h
  refine enter (args := [(.agg #[(.int .i16 f0.fSteps), (.slice f0_fHammers_a f0.fHammers.length f0_fHammers_c)]), (.agg #[(.slice w1_fPins_a w1.fPins.length w1_fPins_c), (.slice w1_fStrokes_a w1.fStrokes.length w1_fStrokes_c)]), (.agg #[(.int .i64 v2.fPin), (.int .i64 v2.fHammer)])]) Try.func121 rfl Try.ntmps121 (by kernel_rfl) (L := []) (W := []) (Mem.start w) ?_
  refine jc_seq ?_
  refine jc_region ?_
  refine toO (by kernel_rfl) (p_a 0 [0] (by kernel_rfl) (fun b => by kernel_rfl) (fun b_1 => jkO ?_))
  refine toO (by kernel_rfl) (p_a 0 [0] (by kernel_rfl) (fun b => by kernel_rfl) (fun b_2 => jkO ?_))
  refine toO (by kernel_rfl) (p_a 0 [0] (by kernel_rfl) (fun b => by kernel_rfl) (fun b_3 => jkO ?_))
  refine jo_f [(0, 0)] (by kernel_rfl) ?_
  refine jo_end (by kernel_rfl) ?_
  refine jx_then ?_
  refine jc_seq ?_
  refine jc_seq ?_
  refine jc_region ?_
  refine jo_f [(0, 0), (1, 0), (2, 0)] (by kernel_rfl) ?_
  refine toO (by kernel_rfl) (p_a 0 [0] (by kernel_rfl) (fun b => by kernel_rfl) (fun b_7 => jkO ?_))
  obtain ⟨t_1, ht_8, h⟩ := bd h
  refine toO (by kernel_rfl) (p_call 0 101 #[(.agg #[(.int .i16 f0.fSteps), (.slice f0_fHammers_a f0.fHammers.length f0_fHammers_c)]), (.agg #[(.slice w1_fPins_a w1.fPins.length w1_fPins_c), (.slice w1_fStrokes_a w1.fStrokes.length w1_fStrokes_c)]), (.slice (some ⟨b_7, 0, none⟩) 1 1)] (by kernel_rfl) (by kernel_rfl) (fun w hm => impl_wearCode.calls f0 w1 [v2] w _ f0_fHammers_a f0.fHammers.length f0_fHammers_c (hm.exRow f0_fHammers_h List.not_mem_nil) rfl w1_fPins_a w1.fPins.length w1_fPins_c (hm.exRow w1_fPins_h List.not_mem_nil) rfl w1_fStrokes_a w1.fStrokes.length w1_fStrokes_c (hm.exRow w1_fStrokes_h List.not_mem_nil) rfl (some ⟨b_7, 0, none⟩) 1 1 (hm.ownRow (hh := 3) (o := (some b_7)) (T := 94) (enc := encGLives) (xs := [v2]) (sp := []) (by kernel_rfl) (fun e => nomatch e) encGLives_len) rfl ht_8) ?_)
  rintro w v w' hm ⟨rfl, hm'⟩
  refine ⟨_, hm.app hm', jkO ?_⟩
  clear hm hm'
  refine jo_f [(0, 0)] (by kernel_rfl) ?_
  refine jo_end (by kernel_rfl) ?_
  refine jx_then ?_
  refine jc_seq ?_
  refine jc_region ?_
  refine jo_f [(0, 0), (0, 0)] (by kernel_rfl) ?_
  refine jo_end (by kernel_rfl) ?_
  refine jx_then ?_
  refine jc_cond (t_1 != 0) (by kernel_rfl) (fun hc_9 => ?_) (fun hc_9 => ?_)
  · replace h := ifT hc_9 h
    refine jc_seq ?_
    refine jc_region ?_
    refine jo_f [(0, 0), (0, 0)] (by kernel_rfl) ?_
    refine jo_end (by kernel_rfl) ?_
    refine jx_then ?_
    refine jc_ret ?_
    refine jx_thenr ?_
    obtain rfl := Option.some.inj h
    exact jx_ret [] (.int .i64 t_1) [] rfl (by kernel_rfl) (by kernel_rfl) (fun w hm => ⟨rfl, hm.pick [] (by kernel_rfl) (by kernel_rfl)⟩)
  · replace h := ifF hc_9 h
    refine jc_skip ?_
    refine jx_then ?_
    refine jc_seq ?_
    refine jc_region ?_
    refine jo_f [(1, 0), (0, 0), (2, 0)] (by kernel_rfl) ?_
    obtain ⟨t_2, ht_10, h⟩ := bd h
    refine toO (by kernel_rfl) (p_call 0 126 #[(.agg #[(.slice w1_fPins_a w1.fPins.length w1_fPins_c), (.slice w1_fStrokes_a w1.fStrokes.length w1_fStrokes_c)]), (.agg #[(.int .i16 f0.fSteps), (.slice f0_fHammers_a f0.fHammers.length f0_fHammers_c)]), (.agg #[(.int .i64 v2.fPin), (.int .i64 v2.fHammer)])] (by kernel_rfl) (by kernel_rfl) (fun w hm => impl_Wear_parts.calls w1 f0 v2 w _ w1_fPins_a w1.fPins.length w1_fPins_c (hm.exRow w1_fPins_h List.not_mem_nil) rfl w1_fStrokes_a w1.fStrokes.length w1_fStrokes_c (hm.exRow w1_fStrokes_h List.not_mem_nil) rfl f0_fHammers_a f0.fHammers.length f0_fHammers_c (hm.exRow f0_fHammers_h List.not_mem_nil) rfl ht_10) ?_)
    rintro w v w' hm ⟨o_11, cap_12, sp_13, _, rfl, hs_14, ho_15, rfl, hm'⟩
    refine ⟨_, hm.app hm', jkO ?_⟩
    clear hm hm'
    obtain ⟨t_3, ht_16, h⟩ := bd h
    refine toO (by kernel_rfl) (p_call 0 170 #[(.slice (o_11.map fun b => ⟨b, 0, none⟩) t_2.length cap_12), (.func (.func 127) #[] #[])] (by kernel_rfl) (by kernel_rfl) (fun w hm => slices_ContainsFunc_part_at_impl_part_isWorn.calls t_2 w _ (o_11.map fun b => ⟨b, 0, none⟩) t_2.length cap_12 (hm.ownRow (hh := 4) (o := o_11) (T := 162) (enc := encGpart) (xs := t_2) (sp := sp_13) (by kernel_rfl) (fun e => (ho_15 e).1) encGpart_len) rfl ht_16) ?_)
    rintro w v w' hm ⟨rfl, hm'⟩
    refine ⟨_, hm.app hm', jkO ?_⟩
    clear hm hm'
    refine jo_f [(0, 0)] (by kernel_rfl) ?_
    obtain ⟨t_4, ht_17, h⟩ := bd h
    refine toO (by kernel_rfl) (p_call 0 108 #[(.bool (!t_3)), (.int .i64 4)] (by kernel_rfl) (by kernel_rfl) (fun w hm => impl_unless.calls (!t_3) 4 w _ ht_17) ?_)
    rintro w v w' hm ⟨rfl, hm'⟩
    refine ⟨_, hm.app hm', jkO ?_⟩
    clear hm hm'
    refine jo_f [(0, 0)] (by kernel_rfl) ?_
    refine jo_end (by kernel_rfl) ?_
    refine jx_then ?_
    refine jc_ret ?_
    obtain rfl := Option.some.inj h
    exact jx_ret [] (.int .i64 t_4) [] rfl (by kernel_rfl) (by kernel_rfl) (fun w hm => ⟨rfl, hm.pick [] (by kernel_rfl) (by kernel_rfl)⟩)

/-! ### (impl.part).left -/
noncomputable def impl_part_left (p0 : Gpart) : Option (Int) := (if (p0.feach == 0) = true then some 1000000 else (if p0.feach ≠ 0 then some (if 1000000 < (w64 (Int.tdiv (w64 (p0.flife - p0.fmade)) p0.feach)) then 1000000 else (w64 (Int.tdiv (w64 (p0.flife - p0.fmade)) p0.feach))) else none))
set_option maxRecDepth 100000 in
theorem impl_part_left.calls (p0 : Gpart) (w : World) (r : Int) (h : impl_part_left p0 = some r) :
    Calls Try.prog 171 #[(.agg #[(.int .i64 p0.fmade), (.int .i64 p0.feach), (.int .i64 p0.flife), (.int .i64 p0.fstep), (.int .i64 p0.ftrack)])] w fun e w' => ∃ v, e = .returned v ∧ (v = (.int .i64 r) ∧ Mem w [] [] w') := by
  rw [impl_part_left] at h
  refine enter (args := [(.agg #[(.int .i64 p0.fmade), (.int .i64 p0.feach), (.int .i64 p0.flife), (.int .i64 p0.fstep), (.int .i64 p0.ftrack)])]) Try.func171 rfl Try.ntmps171 (by kernel_rfl) (L := []) (W := []) (Mem.start w) ?_
  refine jc_seq ?_
  refine jc_region ?_
  refine toO (by kernel_rfl) (p_a 0 [0] (by kernel_rfl) (fun b => by kernel_rfl) (fun b_1 => jkO ?_))
  refine jo_f [(0, 0)] (by kernel_rfl) ?_
  refine jo_end (by kernel_rfl) ?_
  refine jx_then ?_
  refine jc_seq ?_
  refine jc_seq ?_
  refine jc_region ?_
  refine jo_f [(0, 0), (0, 0), (0, 0)] (by kernel_rfl) ?_
  refine jo_end (by kernel_rfl) ?_
  refine jx_then ?_
  refine jc_cond (p0.feach == 0) (by kernel_rfl) (fun hc_3 => ?_) (fun hc_3 => ?_)
  · replace h := ifT hc_3 h
    refine jc_seq ?_
    refine jc_region ?_
    refine jo_f [(0, 0)] (by kernel_rfl) ?_
    refine jo_end (by kernel_rfl) ?_
    refine jx_then ?_
    refine jc_ret ?_
    refine jx_thenr ?_
    obtain rfl := Option.some.inj h
    exact jx_ret [] (.int .i64 1000000) [] rfl (by kernel_rfl) (by kernel_rfl) (fun w hm => ⟨rfl, hm.pick [] (by kernel_rfl) (by kernel_rfl)⟩)
  · replace h := ifF hc_3 h
    refine jc_skip ?_
    refine jx_then ?_
    refine jc_seq ?_
    refine jc_region ?_
    refine jo_f [(0, 0), (0, 0), (0, 0), (0, 0), (0, 0), (0, 0), (0, 0)] (by kernel_rfl) ?_
    obtain ⟨hg_4, h⟩ := gd h
    refine toO (by kernel_rfl) (p_quo 0 .i64 (w64 (p0.flife - p0.fmade)) p0.feach (by kernel_rfl) (by kernel_rfl) hg_4 (jkO ?_))
    refine jo_f [(0, 0), (0, 0)] (by kernel_rfl) ?_
    refine jo_end (by kernel_rfl) ?_
    refine jx_then ?_
    refine jc_ret ?_
    obtain rfl := Option.some.inj h
    exact jx_ret [] (.int .i64 (if 1000000 < (w64 (Int.tdiv (w64 (p0.flife - p0.fmade)) p0.feach)) then 1000000 else (w64 (Int.tdiv (w64 (p0.flife - p0.fmade)) p0.feach)))) [] rfl (by kernel_rfl) (by kernel_rfl) (fun w hm => ⟨rfl, hm.pick [] (by kernel_rfl) (by kernel_rfl)⟩)

/-! ### (impl.Wear).first -/
noncomputable def impl_Wear_first.k_8 (i_2 : Int) (i_3 : Int) (i_4 : Int) (i_5 : Int) (i_6 : Int) (i_7 : Int) : Option (Gpart × Int) := some ((⟨i_2, i_3, i_4, i_5, i_6⟩ : Gpart), i_7)
noncomputable def impl_Wear_first.l_16 (t_1 : (List Gpart)) : (Int × Int × Int × Int × Int × Int × Int) → Option ((Int × Int × Int × Int × Int × Int × Int) ⊕ ((Int × Int × Int × Int × Int × Int)))
  | (i_9, i_10, i_11, i_12, i_13, i_14, i_15) => (if (decide (i_15 < (t_1.length : Int))) = true then (ix t_1 i_15).bind fun x_18 => (impl_part_left x_18).bind fun t_19 => (if (decide (t_19 < i_14)) = true then some (.inl (x_18.fmade, x_18.feach, x_18.flife, x_18.fstep, x_18.ftrack, t_19, (w64 (i_15 + 1)))) else some (.inl (i_9, i_10, i_11, i_12, i_13, i_14, (w64 (i_15 + 1))))) else some (.inr (i_9, i_10, i_11, i_12, i_13, i_14)))
noncomputable def impl_Wear_first (w0 : GWear) (f1 : GFrame) (v2 : GLives) : Option (Gpart × Int) := (impl_Wear_parts w0 f1 v2).bind fun t_1 => (loop (impl_Wear_first.l_16 t_1) (0, 0, 0, 0, 0, 1000000, 0)).bind fun t_17 => impl_Wear_first.k_8 t_17.1 t_17.2.1 t_17.2.2.1 t_17.2.2.2.1 t_17.2.2.2.2.1 t_17.2.2.2.2.2
set_option maxRecDepth 100000 in
theorem impl_Wear_first.calls (w0 : GWear) (f1 : GFrame) (v2 : GLives) (w : World) (r : Gpart × Int) (w0_fPins_a : Option Addr) (w0_fPins_an : Nat) (w0_fPins_c : Nat) (w0_fPins_h : Rw w w0_fPins_a 3 encGWornPin w0.fPins) (w0_fPins_hn : w0.fPins.length = w0_fPins_an) (w0_fStrokes_a : Option Addr) (w0_fStrokes_an : Nat) (w0_fStrokes_c : Nat) (w0_fStrokes_h : Rw w w0_fStrokes_a 1 encI64 w0.fStrokes) (w0_fStrokes_hn : w0.fStrokes.length = w0_fStrokes_an) (f1_fHammers_a : Option Addr) (f1_fHammers_an : Nat) (f1_fHammers_c : Nat) (f1_fHammers_h : Rw w f1_fHammers_a 2 encGHammer f1.fHammers) (f1_fHammers_hn : f1.fHammers.length = f1_fHammers_an) (h : impl_Wear_first w0 f1 v2 = some r) :
    Calls Try.prog 122 #[(.agg #[(.slice w0_fPins_a w0_fPins_an w0_fPins_c), (.slice w0_fStrokes_a w0_fStrokes_an w0_fStrokes_c)]), (.agg #[(.int .i16 f1.fSteps), (.slice f1_fHammers_a f1_fHammers_an f1_fHammers_c)]), (.agg #[(.int .i64 v2.fPin), (.int .i64 v2.fHammer)])] w fun e w' => ∃ v, e = .returned v ∧ (v = .tuple #[.agg #[(.int .i64 r.1.fmade), (.int .i64 r.1.feach), (.int .i64 r.1.flife), (.int .i64 r.1.fstep), (.int .i64 r.1.ftrack)], (.int .i64 r.2)] ∧ Mem w [] [] w') := by
  subst w0_fPins_hn w0_fStrokes_hn f1_fHammers_hn
  rw [impl_Wear_first] at h
  refine enter (args := [(.agg #[(.slice w0_fPins_a w0.fPins.length w0_fPins_c), (.slice w0_fStrokes_a w0.fStrokes.length w0_fStrokes_c)]), (.agg #[(.int .i16 f1.fSteps), (.slice f1_fHammers_a f1.fHammers.length f1_fHammers_c)]), (.agg #[(.int .i64 v2.fPin), (.int .i64 v2.fHammer)])]) Try.func122 rfl Try.ntmps122 (by kernel_rfl) (L := []) (W := []) (Mem.start w) ?_
  refine jc_seq ?_
  refine jc_region ?_
  refine toO (by kernel_rfl) (p_a 0 [0] (by kernel_rfl) (fun b => by kernel_rfl) (fun b_1 => jkO ?_))
  refine toO (by kernel_rfl) (p_a 0 [0] (by kernel_rfl) (fun b => by kernel_rfl) (fun b_2 => jkO ?_))
  refine toO (by kernel_rfl) (p_a 0 [0] (by kernel_rfl) (fun b => by kernel_rfl) (fun b_3 => jkO ?_))
  refine toO (by kernel_rfl) (p_a 0 [0] (by kernel_rfl) (fun b => by kernel_rfl) (fun b_4 => jkO ?_))
  refine jo_f [(0, 0)] (by kernel_rfl) ?_
  refine jo_end (by kernel_rfl) ?_
  refine jx_then ?_
  refine jc_seq ?_
  refine jc_region ?_
  refine jo_f [(0, 0)] (by kernel_rfl) ?_
  refine toO (by kernel_rfl) (p_a 0 [0] (by kernel_rfl) (fun b => by kernel_rfl) (fun b_5 => jkO ?_))
  refine toO (by kernel_rfl) (p_s 0 [4] (by kernel_rfl) (by kernel_rfl) (jkO ?_))
  refine jo_f [(0, 0)] (by kernel_rfl) ?_
  refine jo_end (by kernel_rfl) ?_
  refine jx_then ?_
  refine jc_seq ?_
  refine jc_seq ?_
  refine jc_region ?_
  refine jo_f [(0, 0), (1, 0), (2, 0)] (by kernel_rfl) ?_
  obtain ⟨t_1, ht_56, h⟩ := bd h
  refine toO (by kernel_rfl) (p_call 0 126 #[(.agg #[(.slice w0_fPins_a w0.fPins.length w0_fPins_c), (.slice w0_fStrokes_a w0.fStrokes.length w0_fStrokes_c)]), (.agg #[(.int .i16 f1.fSteps), (.slice f1_fHammers_a f1.fHammers.length f1_fHammers_c)]), (.agg #[(.int .i64 v2.fPin), (.int .i64 v2.fHammer)])] (by kernel_rfl) (by kernel_rfl) (fun w hm => impl_Wear_parts.calls w0 f1 v2 w _ w0_fPins_a w0.fPins.length w0_fPins_c (hm.exRow w0_fPins_h List.not_mem_nil) rfl w0_fStrokes_a w0.fStrokes.length w0_fStrokes_c (hm.exRow w0_fStrokes_h List.not_mem_nil) rfl f1_fHammers_a f1.fHammers.length f1_fHammers_c (hm.exRow f1_fHammers_h List.not_mem_nil) rfl ht_56) ?_)
  rintro w v w' hm ⟨o_57, cap_58, sp_59, _, rfl, hs_60, ho_61, rfl, hm'⟩
  refine ⟨_, hm.app hm', jkO ?_⟩
  clear hm hm'
  refine jo_f [(0, 0), (0, 0)] (by kernel_rfl) ?_
  refine jo_end (by kernel_rfl) ?_
  refine jx_then ?_
  refine jc_meet (fun (j : Int × Int × Int × Int × Int × Int) => match j with | ⟨i_2, i_3, i_4, i_5, i_6, i_7⟩ => impl_Wear_first.k_8 i_2 i_3 i_4 i_5 i_6 i_7 = some r) (fun (j : Int × Int × Int × Int × Int × Int) => match j with | ⟨i_2, i_3, i_4, i_5, i_6, i_7⟩ => [(6, [], (.pointer (some ⟨b_4, 0, none⟩))), (7, [], (.int .i64 0)), (8, [], (.pointer (some ⟨b_5, 0, none⟩))), (9, [], (.int .i64 i_7))]) (fun (j : Int × Int × Int × Int × Int × Int) => match j with | ⟨i_2, i_3, i_4, i_5, i_6, i_7⟩ => [⟨some b_1, 52, [(.slice w0_fPins_a w0.fPins.length w0_fPins_c), (.slice w0_fStrokes_a w0.fStrokes.length w0_fStrokes_c)]⟩, ⟨some b_2, 35, [(.int .i16 f1.fSteps), (.slice f1_fHammers_a f1.fHammers.length f1_fHammers_c)]⟩, ⟨some b_3, 94, [(.int .i64 v2.fPin), (.int .i64 v2.fHammer)]⟩, ⟨some b_4, 162, [(.int .i64 0), (.int .i64 0), (.int .i64 0), (.int .i64 0), (.int .i64 0)]⟩, ⟨some b_5, 162, [(.int .i64 i_2), (.int .i64 i_3), (.int .i64 i_4), (.int .i64 i_5), (.int .i64 i_6)]⟩, ⟨o_57, 162, row encGpart t_1 sp_59⟩]) ?_ ?_
  · refine jc_block ?_
    obtain ⟨t_17, ht_105, hr_96⟩ := bd h
    refine jc_loop (fun (s : Int × Int × Int × Int × Int × Int × Int) (x : Unit) => match s, x with | ⟨i_9, i_10, i_11, i_12, i_13, i_14, i_15⟩, _ => True) (fun (s : Int × Int × Int × Int × Int × Int × Int) (x : Unit) => match s, x with | ⟨i_9, i_10, i_11, i_12, i_13, i_14, i_15⟩, _ => [(6, [], (.pointer (some ⟨b_4, 0, none⟩))), (7, [], (.int .i64 0)), (8, [], (.pointer (some ⟨b_5, 0, none⟩))), (9, [], (.int .i64 i_14)), (17, [], (.slice (o_57.map fun b => ⟨b, 0, none⟩) t_1.length cap_58)), (18, [], (.int .i64 (t_1.length : Int))), (19, [], (.int .i64 i_15))]) (fun (s : Int × Int × Int × Int × Int × Int × Int) (x : Unit) => match s, x with | ⟨i_9, i_10, i_11, i_12, i_13, i_14, i_15⟩, _ => [⟨some b_1, 52, [(.slice w0_fPins_a w0.fPins.length w0_fPins_c), (.slice w0_fStrokes_a w0.fStrokes.length w0_fStrokes_c)]⟩, ⟨some b_2, 35, [(.int .i16 f1.fSteps), (.slice f1_fHammers_a f1.fHammers.length f1_fHammers_c)]⟩, ⟨some b_3, 94, [(.int .i64 v2.fPin), (.int .i64 v2.fHammer)]⟩, ⟨some b_4, 162, [(.int .i64 0), (.int .i64 0), (.int .i64 0), (.int .i64 0), (.int .i64 0)]⟩, ⟨some b_5, 162, [(.int .i64 i_9), (.int .i64 i_10), (.int .i64 i_11), (.int .i64 i_12), (.int .i64 i_13)]⟩, ⟨o_57, 162, row encGpart t_1 sp_59⟩]) ht_105 () trivial (by kernel_rfl) [0, 1, 2, 3, 4, 5] (by kernel_rfl) (by kernel_rfl) ?_
    rintro ⟨i_9, i_10, i_11, i_12, i_13, i_14, i_15⟩ _ y_97 _ h
    rw [impl_Wear_first.l_16] at h
    refine jc_seq ?_
    refine jc_region ?_
    refine jo_f [(0, 0)] (by kernel_rfl) ?_
    refine jo_end (by kernel_rfl) ?_
    refine jx_then ?_
    refine jc_seq ?_
    refine jc_cond (decide (i_15 < (t_1.length : Int))) (by kernel_rfl) (fun hc_99 => ?_) (fun hc_99 => ?_)
    · replace h := ifT hc_99 h
      refine jc_skip ?_
      refine jx_then ?_
      refine jc_seq ?_
      refine jc_block ?_
      refine jc_seq ?_
      refine jc_region ?_
      obtain ⟨x_18, hx_100, h⟩ := bd h
      refine toO (by kernel_rfl) (p_idx 0 (o_57.map fun b => ⟨b, 0, none⟩) t_1.length i_15 5 (by kernel_rfl) (by kernel_rfl) (ix_some hx_100).1 (ltn hx_100 rfl) (spo ho_61 hx_100) (jkO ?_))
      refine toO (by kernel_rfl) (p_ld 0 (aB (o_57.map fun b => ⟨b, 0, none⟩)) (aO (o_57.map fun b => ⟨b, 0, none⟩) + i_15.toNat * 5) true (encGpart x_18) (by kernel_rfl) (by kernel_rfl) (by kernel_rfl) (fun w hm => ((hm.ownRow (hh := 5) (o := o_57) (T := 162) (enc := encGpart) (xs := t_1) (sp := sp_59) (by kernel_rfl) (fun e => (ho_61 e).1) encGpart_len).at hx_100)) (jkO ?_))
      refine toO (by kernel_rfl) (p_a 0 [0] (by kernel_rfl) (fun b => by kernel_rfl) (fun b_101 => jkO ?_))
      refine toO (by kernel_rfl) (p_s 0 [6] (by kernel_rfl) (by kernel_rfl) (jkO ?_))
      refine jo_end (by kernel_rfl) ?_
      refine jx_then ?_
      refine jc_seq ?_
      refine jc_region ?_
      refine jo_f [(6, 0)] (by kernel_rfl) ?_
      obtain ⟨t_19, ht_102, h⟩ := bd h
      refine toO (by kernel_rfl) (p_call 0 171 #[(.agg #[(.int .i64 x_18.fmade), (.int .i64 x_18.feach), (.int .i64 x_18.flife), (.int .i64 x_18.fstep), (.int .i64 x_18.ftrack)])] (by kernel_rfl) (by kernel_rfl) (fun w hm => impl_part_left.calls x_18 w _ ht_102) ?_)
      rintro w v w' hm ⟨rfl, hm'⟩
      refine ⟨_, hm.app hm', jkO ?_⟩
      clear hm hm'
      refine jo_f [(0, 0)] (by kernel_rfl) ?_
      refine jo_end (by kernel_rfl) ?_
      refine jx_then ?_
      refine jc_seq ?_
      refine jc_region ?_
      refine jo_f [(0, 0), (0, 0), (0, 0)] (by kernel_rfl) ?_
      refine jo_end (by kernel_rfl) ?_
      refine jx_then ?_
      refine jc_cond (decide (t_19 < i_14)) (by kernel_rfl) (fun hc_103 => ?_) (fun hc_103 => ?_)
      · replace h := ifT hc_103 h
        refine jc_region ?_
        refine jo_f [(6, 0), (0, 0)] (by kernel_rfl) ?_
        refine toO (by kernel_rfl) (p_s 0 [4] (by kernel_rfl) (by kernel_rfl) (jkO ?_))
        refine jo_f [(0, 0)] (by kernel_rfl) ?_
        refine jo_end (by kernel_rfl) ?_
        refine jx_inn ?_
        refine jx_then ?_
        refine jc_region ?_
        refine jo_f [(0, 0), (0, 0)] (by kernel_rfl) ?_
        refine jo_end (by kernel_rfl) ?_
        exact jx_back (x_18.fmade, x_18.feach, x_18.flife, x_18.fstep, x_18.ftrack, t_19, (w64 (i_15 + 1))) () (Option.some.inj h).symm trivial [0, 1, 2, 3, 4, 5] (by kernel_rfl) (by kernel_rfl) (by kernel_rfl)
      · replace h := ifF hc_103 h
        refine jc_skip ?_
        refine jx_inn ?_
        refine jx_then ?_
        refine jc_region ?_
        refine jo_f [(0, 0), (0, 0)] (by kernel_rfl) ?_
        refine jo_end (by kernel_rfl) ?_
        exact jx_back (i_9, i_10, i_11, i_12, i_13, i_14, (w64 (i_15 + 1))) () (Option.some.inj h).symm trivial [0, 1, 2, 3, 4, 5] (by kernel_rfl) (by kernel_rfl) (by kernel_rfl)
    · replace h := ifF hc_99 h
      refine jc_exit ?_
      refine jx_thenx ?_
      refine jx_leave (i_9, i_10, i_11, i_12, i_13, i_14) (Option.some.inj h).symm (fun e_104 => ?_)
      subst e_104
      refine jx_ine ?_
      exact jx_meet ⟨i_9, i_10, i_11, i_12, i_13, i_14⟩ hr_96 (by kernel_rfl) [0, 1, 2, 3, 4, 5] (by kernel_rfl) (by kernel_rfl)
  · rintro ⟨i_2, i_3, i_4, i_5, i_6, i_7⟩ h
    replace h : impl_Wear_first.k_8 i_2 i_3 i_4 i_5 i_6 i_7 = some r := h
    rw [impl_Wear_first.k_8] at h
    refine jx_then ?_
    refine jc_seq ?_
    refine jc_region ?_
    refine jo_f [(4, 0), (0, 0)] (by kernel_rfl) ?_
    refine toO (by kernel_rfl) (p_s 0 [3] (by kernel_rfl) (by kernel_rfl) (jkO ?_))
    refine jo_f [(0, 0)] (by kernel_rfl) ?_
    refine jo_end (by kernel_rfl) ?_
    refine jx_then ?_
    refine jc_ret ?_
    obtain rfl := Option.some.inj h
    exact jx_ret [3] (.tuple #[(.agg #[(.int .i64 i_2), (.int .i64 i_3), (.int .i64 i_4), (.int .i64 i_5), (.int .i64 i_6)]), (.int .i64 i_7)]) [(b_4, b_4), (b_4, b_4), (b_4, b_4), (b_4, b_4), (b_4, b_4)] rfl (by kernel_rfl) (by kernel_rfl) (fun w hm => ⟨rfl, hm.pick [] (by kernel_rfl) (by kernel_rfl)⟩)
end Go.Proofs.Ytdnkjgmncfhejaa
