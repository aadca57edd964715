/- Functions of the program that the laws reach: a plain function each, and that the call comes to its answer if the plain function has one. Printed by a program. -/
import Derived.Test.YtilackblefjgdaaT
import Derived.Test.YtilackblefjgdaaM0
import Derived.Test.YtilackblefjgdaaM1
namespace Go.Proofs.Ytilackblefjgdaa
open Eng
set_option linter.unusedVariables false

/-! ### spec.NewPin -/
noncomputable def spec_NewPin (f0 : GFrame) (w1 : GWear) (step2 : Int) (track3 : Int) : Option (GWear × Int) := (spec_l06Ok f0 w1).bind fun t_1 => (if (!t_1) = true then some ((⟨[], []⟩ : GWear), 1) else (spec_l06Place f0 step2 track3).bind fun t_2 => (if (!t_2) = true then some ((⟨[], []⟩ : GWear), 2) else (spec_l06Copy w1).bind fun t_3 => (spec_l06Find w1 step2 track3).bind fun t_4 => (if (decide (t_4 ≥ 0)) = true then (ix t_3.fPins t_4).bind fun x_5 => some ((⟨(t_3.fPins.set t_4.toNat (⟨x_5.fStep, x_5.fTrack, 0⟩ : GWornPin)), t_3.fStrokes⟩ : GWear), 0) else (spec_l06Put t_3.fPins (⟨(w8 step2), (w8 track3), 0⟩ : GWornPin)).bind fun t_6 => some ((⟨t_6, t_3.fStrokes⟩ : GWear), 0))))
set_option maxRecDepth 100000 in
theorem spec_NewPin.calls (f0 : GFrame) (w1 : GWear) (step2 : Int) (track3 : Int) (w : World) (r : GWear × Int) (f0_fHammers_a : Option Addr) (f0_fHammers_an : Nat) (f0_fHammers_c : Nat) (f0_fHammers_h : Rw w f0_fHammers_a 2 encGHammer f0.fHammers) (f0_fHammers_hn : f0.fHammers.length = f0_fHammers_an) (w1_fPins_a : Option Addr) (w1_fPins_an : Nat) (w1_fPins_c : Nat) (w1_fPins_h : Rw w w1_fPins_a 3 encGWornPin w1.fPins) (w1_fPins_hn : w1.fPins.length = w1_fPins_an) (w1_fStrokes_a : Option Addr) (w1_fStrokes_an : Nat) (w1_fStrokes_c : Nat) (w1_fStrokes_h : Rw w w1_fStrokes_a 1 encI64 w1.fStrokes) (w1_fStrokes_hn : w1.fStrokes.length = w1_fStrokes_an) (h : spec_NewPin f0 w1 step2 track3 = some r) :
    Calls Try.prog 49 #[(.agg #[(.int .i16 f0.fSteps), (.slice f0_fHammers_a f0_fHammers_an f0_fHammers_c)]), (.agg #[(.slice w1_fPins_a w1_fPins_an w1_fPins_c), (.slice w1_fStrokes_a w1_fStrokes_an w1_fStrokes_c)]), (.int .i64 step2), (.int .i64 track3)] w fun e w' => ∃ v, e = .returned v ∧ (∃ (o0 : Option Nat) (c0 : Nat) (s0 : List Value) (n0 : Nat), r.1.fPins.length = n0 ∧ (o0 ≠ none → n0 ≤ c0 ∧ s0.length = (c0 - n0) * 3) ∧ (o0 = none → r.1.fPins = [] ∧ c0 = 0) ∧ ∃ (o1 : Option Nat) (c1 : Nat) (s1 : List Value) (n1 : Nat), r.1.fStrokes.length = n1 ∧ (o1 ≠ none → n1 ≤ c1 ∧ s1.length = (c1 - n1) * 1) ∧ (o1 = none → r.1.fStrokes = [] ∧ c1 = 0) ∧ v = .tuple #[.agg #[.slice (o0.map fun b => ⟨b, 0, none⟩) n0 c0, .slice (o1.map fun b => ⟨b, 0, none⟩) n1 c1], (.int .i64 r.2)] ∧ Mem w [] [⟨o0, 164, row encGWornPin r.1.fPins s0⟩, ⟨o1, 2, row encI64 r.1.fStrokes s1⟩] w') := by
  subst f0_fHammers_hn w1_fPins_hn w1_fStrokes_hn
  rw [spec_NewPin] at h
  refine enter (args := [(.agg #[(.int .i16 f0.fSteps), (.slice f0_fHammers_a f0.fHammers.length f0_fHammers_c)]), (.agg #[(.slice w1_fPins_a w1.fPins.length w1_fPins_c), (.slice w1_fStrokes_a w1.fStrokes.length w1_fStrokes_c)]), (.int .i64 step2), (.int .i64 track3)]) Try.func49 rfl Try.ntmps49 (by kernel_rfl) (L := []) (W := []) (Mem.start w) ?_
  refine jc_seq ?_
  refine jc_region ?_
  refine toO (by kernel_rfl) (p_a 0 [0] (by kernel_rfl) (fun b => by kernel_rfl) (fun b_1 => jkO ?_))
  refine toO (by kernel_rfl) (p_a 0 [0] (by kernel_rfl) (fun b => by kernel_rfl) (fun b_2 => jkO ?_))
  refine toO (by kernel_rfl) (p_a 0 [0] (by kernel_rfl) (fun b => by kernel_rfl) (fun b_3 => jkO ?_))
  refine jo_f [(0, 0)] (by kernel_rfl) ?_
  refine jo_end (by kernel_rfl) ?_
  refine jx_then ?_
  refine jc_seq ?_
  refine jc_seq ?_
  refine jc_region ?_
  obtain ⟨t_1, ht_6, h⟩ := bd h
  refine toO (by kernel_rfl) (p_call 0 88 #[(.pointer (some ⟨b_1, 0, none⟩)), (.pointer (some ⟨b_2, 0, none⟩))] (by kernel_rfl) (by kernel_rfl) (fun w hm => spec_l06Ok.calls f0 w1 w _ f0_fHammers_a f0.fHammers.length f0_fHammers_c (hm.exRow f0_fHammers_h List.not_mem_nil) rfl w1_fPins_a w1.fPins.length w1_fPins_c (hm.exRow w1_fPins_h List.not_mem_nil) rfl w1_fStrokes_a w1.fStrokes.length w1_fStrokes_c (hm.exRow w1_fStrokes_h List.not_mem_nil) rfl b_1 b_2 (hm.pass (N := [⟨some b_1, 38, [(.int .i16 f0.fSteps), (.slice f0_fHammers_a f0.fHammers.length f0_fHammers_c)]⟩, ⟨some b_2, 42, [(.slice w1_fPins_a w1.fPins.length w1_fPins_c), (.slice w1_fStrokes_a w1.fStrokes.length w1_fStrokes_c)]⟩]) [0, 1] (by kernel_rfl) (by kernel_rfl)) (hm.exApart (N := [⟨some b_1, 38, [(.int .i16 f0.fSteps), (.slice f0_fHammers_a f0.fHammers.length f0_fHammers_c)]⟩, ⟨some b_2, 42, [(.slice w1_fPins_a w1.fPins.length w1_fPins_c), (.slice w1_fStrokes_a w1.fStrokes.length w1_fStrokes_c)]⟩]) f0_fHammers_h (fun _ => List.not_mem_nil) [0, 1] (by kernel_rfl)) (hm.exApart (N := [⟨some b_1, 38, [(.int .i16 f0.fSteps), (.slice f0_fHammers_a f0.fHammers.length f0_fHammers_c)]⟩, ⟨some b_2, 42, [(.slice w1_fPins_a w1.fPins.length w1_fPins_c), (.slice w1_fStrokes_a w1.fStrokes.length w1_fStrokes_c)]⟩]) w1_fPins_h (fun _ => List.not_mem_nil) [0, 1] (by kernel_rfl)) (hm.exApart (N := [⟨some b_1, 38, [(.int .i16 f0.fSteps), (.slice f0_fHammers_a f0.fHammers.length f0_fHammers_c)]⟩, ⟨some b_2, 42, [(.slice w1_fPins_a w1.fPins.length w1_fPins_c), (.slice w1_fStrokes_a w1.fStrokes.length w1_fStrokes_c)]⟩]) w1_fStrokes_h (fun _ => List.not_mem_nil) [0, 1] (by kernel_rfl)) ht_6) ?_)
  rintro w v w' hm ⟨rfl, hm'⟩
  refine ⟨_, hm.appW (ps := [(0, ⟨some b_1, 38, [(.int .i16 f0.fSteps), (.slice f0_fHammers_a f0.fHammers.length f0_fHammers_c)]⟩), (1, ⟨some b_2, 42, [(.slice w1_fPins_a w1.fPins.length w1_fPins_c), (.slice w1_fStrokes_a w1.fStrokes.length w1_fStrokes_c)]⟩)]) (N := []) hm' (by kernel_rfl) (by kernel_rfl), jkO ?_⟩
  clear hm hm'
  refine jo_f [(0, 0)] (by kernel_rfl) ?_
  refine jo_end (by kernel_rfl) ?_
  refine jx_then ?_
  refine jc_cond (!t_1) (by kernel_rfl) (fun hc_7 => ?_) (fun hc_7 => ?_)
  · replace h := ifT hc_7 h
    refine jc_seq ?_
    refine jc_region ?_
    refine jo_f [(0, 0)] (by kernel_rfl) ?_
    refine toO (by kernel_rfl) (p_s 0 [2] (by kernel_rfl) (by kernel_rfl) (jkO ?_))
    refine jo_f [(0, 0)] (by kernel_rfl) ?_
    refine jo_end (by kernel_rfl) ?_
    refine jx_then ?_
    refine jc_ret ?_
    refine jx_thenr ?_
    obtain rfl := Option.some.inj h
    refine jx_ghost 164 encGWornPin ?_
    refine jx_ghost 2 encI64 ?_
    exact jx_ret [2] (.tuple #[(.agg #[(.slice none 0 0), (.slice none 0 0)]), (.int .i64 1)]) [(b_3, b_3), (b_3, b_3)] rfl (by kernel_rfl) (by kernel_rfl) (fun w hm => ⟨none, 0, [], 0, rfl, (fun e => absurd rfl e), (fun _ => ⟨rfl, rfl⟩), none, 0, [], 0, rfl, (fun e => absurd rfl e), (fun _ => ⟨rfl, rfl⟩), rfl, hm.pick [3, 4] (by kernel_rfl) (by kernel_rfl)⟩)
  · replace h := ifF hc_7 h
    refine jc_skip ?_
    refine jx_then ?_
    refine jc_seq ?_
    refine jc_seq ?_
    refine jc_region ?_
    refine jo_f [(0, 0), (0, 0)] (by kernel_rfl) ?_
    obtain ⟨t_2, ht_10, h⟩ := bd h
    refine toO (by kernel_rfl) (p_call 0 109 #[(.pointer (some ⟨b_1, 0, none⟩)), (.int .i64 step2), (.int .i64 track3)] (by kernel_rfl) (by kernel_rfl) (fun w hm => spec_l06Place.calls f0 step2 track3 w _ f0_fHammers_a f0.fHammers.length f0_fHammers_c (hm.exRow f0_fHammers_h List.not_mem_nil) rfl b_1 (hm.pass (N := [⟨some b_1, 38, [(.int .i16 f0.fSteps), (.slice f0_fHammers_a f0.fHammers.length f0_fHammers_c)]⟩]) [0] (by kernel_rfl) (by kernel_rfl)) (hm.exApart (N := [⟨some b_1, 38, [(.int .i16 f0.fSteps), (.slice f0_fHammers_a f0.fHammers.length f0_fHammers_c)]⟩]) f0_fHammers_h (fun _ => List.not_mem_nil) [0] (by kernel_rfl)) ht_10) ?_)
    rintro w v w' hm ⟨rfl, hm'⟩
    refine ⟨_, hm.appW (ps := [(0, ⟨some b_1, 38, [(.int .i16 f0.fSteps), (.slice f0_fHammers_a f0.fHammers.length f0_fHammers_c)]⟩)]) (N := []) hm' (by kernel_rfl) (by kernel_rfl), jkO ?_⟩
    clear hm hm'
    refine jo_f [(0, 0)] (by kernel_rfl) ?_
    refine jo_end (by kernel_rfl) ?_
    refine jx_then ?_
    refine jc_cond (!t_2) (by kernel_rfl) (fun hc_11 => ?_) (fun hc_11 => ?_)
    · replace h := ifT hc_11 h
      refine jc_seq ?_
      refine jc_region ?_
      refine jo_f [(0, 0)] (by kernel_rfl) ?_
      refine toO (by kernel_rfl) (p_s 0 [2] (by kernel_rfl) (by kernel_rfl) (jkO ?_))
      refine jo_f [(0, 0)] (by kernel_rfl) ?_
      refine jo_end (by kernel_rfl) ?_
      refine jx_then ?_
      refine jc_ret ?_
      refine jx_thenr ?_
      obtain rfl := Option.some.inj h
      refine jx_ghost 164 encGWornPin ?_
      refine jx_ghost 2 encI64 ?_
      exact jx_ret [2] (.tuple #[(.agg #[(.slice none 0 0), (.slice none 0 0)]), (.int .i64 2)]) [(b_3, b_3), (b_3, b_3)] rfl (by kernel_rfl) (by kernel_rfl) (fun w hm => ⟨none, 0, [], 0, rfl, (fun e => absurd rfl e), (fun _ => ⟨rfl, rfl⟩), none, 0, [], 0, rfl, (fun e => absurd rfl e), (fun _ => ⟨rfl, rfl⟩), rfl, hm.pick [3, 4] (by kernel_rfl) (by kernel_rfl)⟩)
    · replace h := ifF hc_11 h
      refine jc_skip ?_
      refine jx_then ?_
      refine jc_seq ?_
      refine jc_region ?_
      obtain ⟨t_3, ht_12, h⟩ := bd h
      refine toO (by kernel_rfl) (p_call 0 110 #[(.pointer (some ⟨b_2, 0, none⟩))] (by kernel_rfl) (by kernel_rfl) (fun w hm => spec_l06Copy.calls w1 w _ w1_fPins_a w1.fPins.length w1_fPins_c (hm.exRow w1_fPins_h List.not_mem_nil) rfl w1_fStrokes_a w1.fStrokes.length w1_fStrokes_c (hm.exRow w1_fStrokes_h List.not_mem_nil) rfl b_2 (hm.pass (N := [⟨some b_2, 42, [(.slice w1_fPins_a w1.fPins.length w1_fPins_c), (.slice w1_fStrokes_a w1.fStrokes.length w1_fStrokes_c)]⟩]) [1] (by kernel_rfl) (by kernel_rfl)) (hm.exApart (N := [⟨some b_2, 42, [(.slice w1_fPins_a w1.fPins.length w1_fPins_c), (.slice w1_fStrokes_a w1.fStrokes.length w1_fStrokes_c)]⟩]) w1_fPins_h (fun _ => List.not_mem_nil) [1] (by kernel_rfl)) (hm.exApart (N := [⟨some b_2, 42, [(.slice w1_fPins_a w1.fPins.length w1_fPins_c), (.slice w1_fStrokes_a w1.fStrokes.length w1_fStrokes_c)]⟩]) w1_fStrokes_h (fun _ => List.not_mem_nil) [1] (by kernel_rfl)) ht_12) ?_)
      rintro w v w' hm ⟨o_13, cap_14, sp_15, _, rfl, hs_16, ho_17, o_18, cap_19, sp_20, _, rfl, hs_21, ho_22, rfl, hm'⟩
      refine ⟨_, hm.appW (ps := [(1, ⟨some b_2, 42, [(.slice w1_fPins_a w1.fPins.length w1_fPins_c), (.slice w1_fStrokes_a w1.fStrokes.length w1_fStrokes_c)]⟩)]) (N := [⟨o_13, 164, row encGWornPin t_3.fPins sp_15⟩, ⟨o_18, 2, row encI64 t_3.fStrokes sp_20⟩]) hm' (by kernel_rfl) (by kernel_rfl), jkO ?_⟩
      clear hm hm'
      refine toO (by kernel_rfl) (p_a 0 [0] (by kernel_rfl) (fun b => by kernel_rfl) (fun b_23 => jkO ?_))
      refine toO (by kernel_rfl) (p_s 0 [5] (by kernel_rfl) (by kernel_rfl) (jkO ?_))
      refine jo_end (by kernel_rfl) ?_
      refine jx_then ?_
      refine jc_seq ?_
      refine jc_seq ?_
      refine jc_region ?_
      refine jo_f [(0, 0), (0, 0)] (by kernel_rfl) ?_
      obtain ⟨t_4, ht_27, h⟩ := bd h
      refine toO (by kernel_rfl) (p_call 0 111 #[(.pointer (some ⟨b_2, 0, none⟩)), (.int .i64 step2), (.int .i64 track3)] (by kernel_rfl) (by kernel_rfl) (fun w hm => spec_l06Find.calls w1 step2 track3 w _ w1_fPins_a w1.fPins.length w1_fPins_c (hm.exRow w1_fPins_h List.not_mem_nil) rfl w1_fStrokes_a w1.fStrokes.length w1_fStrokes_c (hm.exRow w1_fStrokes_h List.not_mem_nil) rfl b_2 (hm.pass (N := [⟨some b_2, 42, [(.slice w1_fPins_a w1.fPins.length w1_fPins_c), (.slice w1_fStrokes_a w1.fStrokes.length w1_fStrokes_c)]⟩]) [1] (by kernel_rfl) (by kernel_rfl)) (hm.exApart (N := [⟨some b_2, 42, [(.slice w1_fPins_a w1.fPins.length w1_fPins_c), (.slice w1_fStrokes_a w1.fStrokes.length w1_fStrokes_c)]⟩]) w1_fPins_h (fun _ => List.not_mem_nil) [1] (by kernel_rfl)) (hm.exApart (N := [⟨some b_2, 42, [(.slice w1_fPins_a w1.fPins.length w1_fPins_c), (.slice w1_fStrokes_a w1.fStrokes.length w1_fStrokes_c)]⟩]) w1_fStrokes_h (fun _ => List.not_mem_nil) [1] (by kernel_rfl)) ht_27) ?_)
      rintro w v w' hm ⟨rfl, hm'⟩
      refine ⟨_, hm.appW (ps := [(1, ⟨some b_2, 42, [(.slice w1_fPins_a w1.fPins.length w1_fPins_c), (.slice w1_fStrokes_a w1.fStrokes.length w1_fStrokes_c)]⟩)]) (N := []) hm' (by kernel_rfl) (by kernel_rfl), jkO ?_⟩
      clear hm hm'
      refine jo_f [(0, 0)] (by kernel_rfl) ?_
      refine jo_end (by kernel_rfl) ?_
      refine jx_then ?_
      refine jc_seq ?_
      refine jc_region ?_
      refine jo_f [(0, 0), (0, 0)] (by kernel_rfl) ?_
      refine jo_end (by kernel_rfl) ?_
      refine jx_then ?_
      refine jc_cond (decide (t_4 ≥ 0)) (by kernel_rfl) (fun hc_28 => ?_) (fun hc_28 => ?_)
      · replace h := ifT hc_28 h
        refine jc_seq ?_
        refine jc_region ?_
        refine jo_f [(0, 0), (5, 0), (0, 0)] (by kernel_rfl) ?_
        obtain ⟨x_5, hx_29, h⟩ := bd h
        refine toO (by kernel_rfl) (p_idx 0 (o_13.map fun b => ⟨b, 0, none⟩) t_3.fPins.length t_4 3 (by kernel_rfl) (by kernel_rfl) (ix_some hx_29).1 (ltn hx_29 rfl) (spo ho_17 hx_29) (jkO ?_))
        refine jo_f [(0, 0)] (by kernel_rfl) ?_
        refine toO (by kernel_rfl) (p_strO 0 3 o_13 164 encGWornPin t_3.fPins sp_15 t_4 (⟨x_5.fStep, x_5.fTrack, 0⟩ : GWornPin) 3 2 [(.int .i64 0)] (by kernel_rfl) (by kernel_rfl) (by kernel_rfl) (fun e => (ho_17 e).1) encGWornPin_len hx_29 (by kernel_rfl) (by kernel_rfl) (jkO ?_))
        refine jo_end (by kernel_rfl) ?_
        refine jx_then ?_
        refine jc_seq ?_
        refine jc_region ?_
        refine jo_f [(5, 0)] (by kernel_rfl) ?_
        refine toO (by kernel_rfl) (p_s 0 [2] (by kernel_rfl) (by kernel_rfl) (jkO ?_))
        refine jo_f [(0, 0)] (by kernel_rfl) ?_
        refine jo_end (by kernel_rfl) ?_
        refine jx_then ?_
        refine jc_ret ?_
        refine jx_thenr ?_
        obtain rfl := Option.some.inj h
        exact jx_ret [2] (.tuple #[(.agg #[(.slice (o_13.map fun b => ⟨b, 0, none⟩) t_3.fPins.length cap_14), (.slice (o_18.map fun b => ⟨b, 0, none⟩) t_3.fStrokes.length cap_19)]), (.int .i64 0)]) [(b_3, b_3), (b_3, b_3)] rfl (by kernel_rfl) (by kernel_rfl) (fun w hm => ⟨o_13, cap_14, sp_15, t_3.fPins.length, (List.length_set.trans rfl), hs_16, (set_ho ho_17), o_18, cap_19, sp_20, t_3.fStrokes.length, rfl, hs_21, ho_22, rfl, hm.pick [3, 4] (by kernel_rfl) (by kernel_rfl)⟩)
      · replace h := ifF hc_28 h
        refine jc_skip ?_
        refine jx_then ?_
        refine jc_seq ?_
        refine jc_region ?_
        refine jo_f [(0, 0), (5, 0), (0, 0), (0, 0), (0, 0), (0, 0), (0, 0)] (by kernel_rfl) ?_
        obtain ⟨t_6, ht_30, h⟩ := bd h
        refine toO (by kernel_rfl) (p_call 0 112 #[(.slice (o_13.map fun b => ⟨b, 0, none⟩) t_3.fPins.length cap_14), (.agg #[(.int .i8 (w8 step2)), (.int .i8 (w8 track3)), (.int .i64 0)])] (by kernel_rfl) (by kernel_rfl) (fun w hm => spec_l06Put.calls t_3.fPins (⟨(w8 step2), (w8 track3), 0⟩ : GWornPin) w _ o_13 t_3.fPins.length cap_14 sp_15 rfl hs_16 ho_17 (hm.pass (N := [⟨o_13, 164, row encGWornPin t_3.fPins sp_15⟩]) [3] (by kernel_rfl) (by kernel_rfl)) ht_30) ?_)
        rintro w v w' hm ⟨o_31, cap_32, sp_33, _, rfl, hs_34, ho_35, rfl, hm'⟩
        refine ⟨_, hm.appW (ps := [(3, ⟨o_13, 164, row encGWornPin t_3.fPins sp_15⟩)]) (N := [⟨o_31, 164, row encGWornPin t_6 sp_33⟩]) hm' (by kernel_rfl) (by kernel_rfl), jkO ?_⟩
        clear hm hm'
        refine jo_f [(0, 0)] (by kernel_rfl) ?_
        refine toO (by kernel_rfl) (p_s 0 [5] (by kernel_rfl) (by kernel_rfl) (jkO ?_))
        refine jo_end (by kernel_rfl) ?_
        refine jx_then ?_
        refine jc_seq ?_
        refine jc_region ?_
        refine jo_f [(5, 0)] (by kernel_rfl) ?_
        refine toO (by kernel_rfl) (p_s 0 [2] (by kernel_rfl) (by kernel_rfl) (jkO ?_))
        refine jo_f [(0, 0)] (by kernel_rfl) ?_
        refine jo_end (by kernel_rfl) ?_
        refine jx_then ?_
        refine jc_ret ?_
        obtain rfl := Option.some.inj h
        exact jx_ret [2] (.tuple #[(.agg #[(.slice (o_31.map fun b => ⟨b, 0, none⟩) t_6.length cap_32), (.slice (o_18.map fun b => ⟨b, 0, none⟩) t_3.fStrokes.length cap_19)]), (.int .i64 0)]) [(b_3, b_3), (b_3, b_3)] rfl (by kernel_rfl) (by kernel_rfl) (fun w hm => ⟨o_31, cap_32, sp_33, t_6.length, rfl, hs_34, ho_35, o_18, cap_19, sp_20, t_3.fStrokes.length, rfl, hs_21, ho_22, rfl, hm.pick [6, 4] (by kernel_rfl) (by kernel_rfl)⟩)

/-! ### impl.NewPin -/
noncomputable def impl_NewPin (f0 : GFrame) (w1 : GWear) (step2 : Int) (track3 : Int) : Option (GWear × Int) := (impl_wornPlaceCode f0 w1 [(Arr.set (Arr.set (Arr.rep 2 0) 0 step2) 1 track3)]).bind fun t_1 => (if (t_1 != 0) = true then some ((⟨[], []⟩ : GWear), t_1) else (impl_Wear_at w1 step2 track3).bind fun t_2 => (if (decide (t_2 ≥ 0)) = true then (impl_Wear_without w1 t_2).bind fun t_3 => (impl_Wear_with t_3 (⟨(w8 step2), (w8 track3), 0⟩ : GWornPin)).bind fun t_4 => some (t_4, 0) else (impl_Wear_with w1 (⟨(w8 step2), (w8 track3), 0⟩ : GWornPin)).bind fun t_5 => some (t_5, 0)))
set_option maxRecDepth 100000 in
theorem impl_NewPin.calls (f0 : GFrame) (w1 : GWear) (step2 : Int) (track3 : Int) (w : World) (r : GWear × Int) (f0_fHammers_a : Option Addr) (f0_fHammers_an : Nat) (f0_fHammers_c : Nat) (f0_fHammers_h : Rw w f0_fHammers_a 2 encGHammer f0.fHammers) (f0_fHammers_hn : f0.fHammers.length = f0_fHammers_an) (w1_fPins_a : Option Addr) (w1_fPins_an : Nat) (w1_fPins_c : Nat) (w1_fPins_h : Rw w w1_fPins_a 3 encGWornPin w1.fPins) (w1_fPins_hn : w1.fPins.length = w1_fPins_an) (w1_fStrokes_a : Option Addr) (w1_fStrokes_an : Nat) (w1_fStrokes_c : Nat) (w1_fStrokes_h : Rw w w1_fStrokes_a 1 encI64 w1.fStrokes) (w1_fStrokes_hn : w1.fStrokes.length = w1_fStrokes_an) (h : impl_NewPin f0 w1 step2 track3 = some r) :
    Calls Try.prog 50 #[(.agg #[(.int .i16 f0.fSteps), (.slice f0_fHammers_a f0_fHammers_an f0_fHammers_c)]), (.agg #[(.slice w1_fPins_a w1_fPins_an w1_fPins_c), (.slice w1_fStrokes_a w1_fStrokes_an w1_fStrokes_c)]), (.int .i64 step2), (.int .i64 track3)] w fun e w' => ∃ v, e = .returned v ∧ (∃ (o0 : Option Nat) (c0 : Nat) (s0 : List Value) (n0 : Nat), r.1.fPins.length = n0 ∧ (o0 ≠ none → n0 ≤ c0 ∧ s0.length = (c0 - n0) * 3) ∧ (o0 = none → r.1.fPins = [] ∧ c0 = 0) ∧ ∃ (o1 : Option Nat) (c1 : Nat) (s1 : List Value) (n1 : Nat), r.1.fStrokes.length = n1 ∧ (o1 ≠ none → n1 ≤ c1 ∧ s1.length = (c1 - n1) * 1) ∧ (o1 = none → r.1.fStrokes = [] ∧ c1 = 0) ∧ v = .tuple #[.agg #[.slice (o0.map fun b => ⟨b, 0, none⟩) n0 c0, .slice (o1.map fun b => ⟨b, 0, none⟩) n1 c1], (.int .i64 r.2)] ∧ Mem w [] [⟨o0, 164, row encGWornPin r.1.fPins s0⟩, ⟨o1, 2, row encI64 r.1.fStrokes s1⟩] w') := by
  subst f0_fHammers_hn w1_fPins_hn w1_fStrokes_hn
  rw [impl_NewPin] at h
  refine enter (args := [(.agg #[(.int .i16 f0.fSteps), (.slice f0_fHammers_a f0.fHammers.length f0_fHammers_c)]), (.agg #[(.slice w1_fPins_a w1.fPins.length w1_fPins_c), (.slice w1_fStrokes_a w1.fStrokes.length w1_fStrokes_c)]), (.int .i64 step2), (.int .i64 track3)]) Try.func50 rfl Try.ntmps50 (by kernel_rfl) (L := []) (W := []) (Mem.start w) ?_
  refine jc_seq ?_
  refine jc_region ?_
  refine toO (by kernel_rfl) (p_a 0 [0] (by kernel_rfl) (fun b => by kernel_rfl) (fun b_1 => jkO ?_))
  refine toO (by kernel_rfl) (p_a 0 [0] (by kernel_rfl) (fun b => by kernel_rfl) (fun b_2 => jkO ?_))
  refine toO (by kernel_rfl) (p_a 0 [0] (by kernel_rfl) (fun b => by kernel_rfl) (fun b_3 => jkO ?_))
  refine jo_f [(0, 0)] (by kernel_rfl) ?_
  refine jo_end (by kernel_rfl) ?_
  refine jx_then ?_
  refine jc_seq ?_
  refine jc_seq ?_
  refine jc_region ?_
  refine jo_f [(0, 0), (1, 0), (0, 0), (0, 0), (0, 0)] (by kernel_rfl) ?_
  refine toO (by kernel_rfl) (p_bs 0 167 2 1 encA2I64 [(.agg (row encI64 (Arr.set (Arr.set (Arr.rep 2 0) 0 step2) 1 track3).1 []).toArray)] [(Arr.set (Arr.set (Arr.rep 2 0) 0 step2) 1 track3)] (by kernel_rfl) (by kernel_rfl) rfl (by kernel_rfl) (by kernel_rfl) encA2I64_len (fun b_7 => jkO ?_))
  obtain ⟨t_1, ht_8, h⟩ := bd h
  refine toO (by kernel_rfl) (p_call 0 113 #[(.agg #[(.int .i16 f0.fSteps), (.slice f0_fHammers_a f0.fHammers.length f0_fHammers_c)]), (.agg #[(.slice w1_fPins_a w1.fPins.length w1_fPins_c), (.slice w1_fStrokes_a w1.fStrokes.length w1_fStrokes_c)]), (.slice (some ⟨b_7, 0, none⟩) 1 1)] (by kernel_rfl) (by kernel_rfl) (fun w hm => impl_wornPlaceCode.calls f0 w1 [(Arr.set (Arr.set (Arr.rep 2 0) 0 step2) 1 track3)] w _ f0_fHammers_a f0.fHammers.length f0_fHammers_c (hm.exRow f0_fHammers_h List.not_mem_nil) rfl w1_fPins_a w1.fPins.length w1_fPins_c (hm.exRow w1_fPins_h List.not_mem_nil) rfl w1_fStrokes_a w1.fStrokes.length w1_fStrokes_c (hm.exRow w1_fStrokes_h List.not_mem_nil) rfl (some ⟨b_7, 0, none⟩) 1 1 (hm.ownRow (hh := 3) (o := (some b_7)) (T := 167) (enc := encA2I64) (xs := [(Arr.set (Arr.set (Arr.rep 2 0) 0 step2) 1 track3)]) (sp := []) (by kernel_rfl) (fun e => nomatch e) encA2I64_len) rfl ht_8) ?_)
  rintro w v w' hm ⟨rfl, hm'⟩
  refine ⟨_, hm.app hm', jkO ?_⟩
  clear hm hm'
  refine jo_f [(0, 0)] (by kernel_rfl) ?_
  refine jo_end (by kernel_rfl) ?_
  refine jx_then ?_
  refine jc_seq ?_
  refine jc_region ?_
  refine jo_f [(0, 0), (0, 0)] (by kernel_rfl) ?_
  refine jo_end (by kernel_rfl) ?_
  refine jx_then ?_
  refine jc_cond (t_1 != 0) (by kernel_rfl) (fun hc_9 => ?_) (fun hc_9 => ?_)
  · replace h := ifT hc_9 h
    refine jc_seq ?_
    refine jc_region ?_
    refine jo_f [(0, 0), (0, 0)] (by kernel_rfl) ?_
    refine toO (by kernel_rfl) (p_s 0 [2] (by kernel_rfl) (by kernel_rfl) (jkO ?_))
    refine jo_f [(0, 0)] (by kernel_rfl) ?_
    refine jo_end (by kernel_rfl) ?_
    refine jx_then ?_
    refine jc_ret ?_
    refine jx_thenr ?_
    obtain rfl := Option.some.inj h
    refine jx_ghost 164 encGWornPin ?_
    refine jx_ghost 2 encI64 ?_
    exact jx_ret [2] (.tuple #[(.agg #[(.slice none 0 0), (.slice none 0 0)]), (.int .i64 t_1)]) [(b_3, b_3), (b_3, b_3)] rfl (by kernel_rfl) (by kernel_rfl) (fun w hm => ⟨none, 0, [], 0, rfl, (fun e => absurd rfl e), (fun _ => ⟨rfl, rfl⟩), none, 0, [], 0, rfl, (fun e => absurd rfl e), (fun _ => ⟨rfl, rfl⟩), rfl, hm.pick [4, 5] (by kernel_rfl) (by kernel_rfl)⟩)
  · replace h := ifF hc_9 h
    refine jc_skip ?_
    refine jx_then ?_
    refine jc_seq ?_
    refine jc_seq ?_
    refine jc_region ?_
    refine jo_f [(1, 0), (0, 0), (0, 0)] (by kernel_rfl) ?_
    obtain ⟨t_2, ht_23, h⟩ := bd h
    refine toO (by kernel_rfl) (p_call 0 114 #[(.agg #[(.slice w1_fPins_a w1.fPins.length w1_fPins_c), (.slice w1_fStrokes_a w1.fStrokes.length w1_fStrokes_c)]), (.int .i64 step2), (.int .i64 track3)] (by kernel_rfl) (by kernel_rfl) (fun w hm => impl_Wear_at.calls w1 step2 track3 w _ w1_fPins_a w1.fPins.length w1_fPins_c (hm.exRow w1_fPins_h List.not_mem_nil) rfl w1_fStrokes_a w1.fStrokes.length w1_fStrokes_c (hm.exRow w1_fStrokes_h List.not_mem_nil) rfl ht_23) ?_)
    rintro w v w' hm ⟨rfl, hm'⟩
    refine ⟨_, hm.app hm', jkO ?_⟩
    clear hm hm'
    refine jo_f [(0, 0)] (by kernel_rfl) ?_
    refine jo_end (by kernel_rfl) ?_
    refine jx_then ?_
    refine jc_seq ?_
    refine jc_region ?_
    refine jo_f [(0, 0), (0, 0)] (by kernel_rfl) ?_
    refine jo_end (by kernel_rfl) ?_
    refine jx_then ?_
    refine jc_cond (decide (t_2 ≥ 0)) (by kernel_rfl) (fun hc_24 => ?_) (fun hc_24 => ?_)
    · replace h := ifT hc_24 h
      refine jc_region ?_
      refine jo_f [(1, 0), (0, 0)] (by kernel_rfl) ?_
      obtain ⟨t_3, ht_25, h⟩ := bd h
      refine toO (by kernel_rfl) (p_call 0 115 #[(.agg #[(.slice w1_fPins_a w1.fPins.length w1_fPins_c), (.slice w1_fStrokes_a w1.fStrokes.length w1_fStrokes_c)]), (.int .i64 t_2)] (by kernel_rfl) (by kernel_rfl) (fun w hm => impl_Wear_without.calls w1 t_2 w _ w1_fPins_a w1.fPins.length w1_fPins_c (hm.exRow w1_fPins_h List.not_mem_nil) rfl w1_fStrokes_a w1.fStrokes.length w1_fStrokes_c (hm.exRow w1_fStrokes_h List.not_mem_nil) rfl ht_25) ?_)
      rintro w v w' hm ⟨o_26, cap_27, sp_28, _, rfl, hs_29, ho_30, o_31, cap_32, sp_33, _, rfl, hs_34, ho_35, rfl, hm'⟩
      refine ⟨_, hm.app hm', jkO ?_⟩
      clear hm hm'
      refine toO (by kernel_rfl) (p_s 0 [1] (by kernel_rfl) (by kernel_rfl) (jkO ?_))
      refine jo_end (by kernel_rfl) ?_
      refine jx_then ?_
      refine jc_seq ?_
      refine jc_region ?_
      refine jo_f [(1, 0), (0, 0), (0, 0), (0, 0), (0, 0), (0, 0)] (by kernel_rfl) ?_
      obtain ⟨t_4, ht_36, h⟩ := bd h
      refine toO (by kernel_rfl) (p_call 0 116 #[(.agg #[(.slice (o_26.map fun b => ⟨b, 0, none⟩) t_3.fPins.length cap_27), (.slice (o_31.map fun b => ⟨b, 0, none⟩) t_3.fStrokes.length cap_32)]), (.agg #[(.int .i8 (w8 step2)), (.int .i8 (w8 track3)), (.int .i64 0)])] (by kernel_rfl) (by kernel_rfl) (fun w hm => impl_Wear_with.calls t_3 (⟨(w8 step2), (w8 track3), 0⟩ : GWornPin) w _ (o_26.map fun b => ⟨b, 0, none⟩) t_3.fPins.length cap_27 (hm.ownRow (hh := 4) (o := o_26) (T := 164) (enc := encGWornPin) (xs := t_3.fPins) (sp := sp_28) (by kernel_rfl) (fun e => (ho_30 e).1) encGWornPin_len) rfl (o_31.map fun b => ⟨b, 0, none⟩) t_3.fStrokes.length cap_32 (hm.ownRow (hh := 5) (o := o_31) (T := 2) (enc := encI64) (xs := t_3.fStrokes) (sp := sp_33) (by kernel_rfl) (fun e => (ho_35 e).1) encI64_len) rfl ht_36) ?_)
      rintro w v w' hm ⟨o_37, cap_38, sp_39, _, rfl, hs_40, ho_41, o_42, cap_43, sp_44, _, rfl, hs_45, ho_46, rfl, hm'⟩
      refine ⟨_, hm.app hm', jkO ?_⟩
      clear hm hm'
      refine toO (by kernel_rfl) (p_s 0 [2] (by kernel_rfl) (by kernel_rfl) (jkO ?_))
      refine jo_f [(0, 0)] (by kernel_rfl) ?_
      refine jo_end (by kernel_rfl) ?_
      refine jx_then ?_
      refine jc_ret ?_
      obtain rfl := Option.some.inj h
      exact jx_ret [2] (.tuple #[(.agg #[(.slice (o_37.map fun b => ⟨b, 0, none⟩) t_4.fPins.length cap_38), (.slice (o_42.map fun b => ⟨b, 0, none⟩) t_4.fStrokes.length cap_43)]), (.int .i64 0)]) [(b_3, b_3), (b_3, b_3)] rfl (by kernel_rfl) (by kernel_rfl) (fun w hm => ⟨o_37, cap_38, sp_39, t_4.fPins.length, rfl, hs_40, ho_41, o_42, cap_43, sp_44, t_4.fStrokes.length, rfl, hs_45, ho_46, rfl, hm.pick [6, 7] (by kernel_rfl) (by kernel_rfl)⟩)
    · replace h := ifF hc_24 h
      refine jc_skip ?_
      refine jx_then ?_
      refine jc_seq ?_
      refine jc_region ?_
      refine jo_f [(1, 0), (0, 0), (0, 0), (0, 0), (0, 0), (0, 0)] (by kernel_rfl) ?_
      obtain ⟨t_5, ht_47, h⟩ := bd h
      refine toO (by kernel_rfl) (p_call 0 116 #[(.agg #[(.slice w1_fPins_a w1.fPins.length w1_fPins_c), (.slice w1_fStrokes_a w1.fStrokes.length w1_fStrokes_c)]), (.agg #[(.int .i8 (w8 step2)), (.int .i8 (w8 track3)), (.int .i64 0)])] (by kernel_rfl) (by kernel_rfl) (fun w hm => impl_Wear_with.calls w1 (⟨(w8 step2), (w8 track3), 0⟩ : GWornPin) w _ w1_fPins_a w1.fPins.length w1_fPins_c (hm.exRow w1_fPins_h List.not_mem_nil) rfl w1_fStrokes_a w1.fStrokes.length w1_fStrokes_c (hm.exRow w1_fStrokes_h List.not_mem_nil) rfl ht_47) ?_)
      rintro w v w' hm ⟨o_48, cap_49, sp_50, _, rfl, hs_51, ho_52, o_53, cap_54, sp_55, _, rfl, hs_56, ho_57, rfl, hm'⟩
      refine ⟨_, hm.app hm', jkO ?_⟩
      clear hm hm'
      refine toO (by kernel_rfl) (p_s 0 [2] (by kernel_rfl) (by kernel_rfl) (jkO ?_))
      refine jo_f [(0, 0)] (by kernel_rfl) ?_
      refine jo_end (by kernel_rfl) ?_
      refine jx_then ?_
      refine jc_ret ?_
      obtain rfl := Option.some.inj h
      exact jx_ret [2] (.tuple #[(.agg #[(.slice (o_48.map fun b => ⟨b, 0, none⟩) t_5.fPins.length cap_49), (.slice (o_53.map fun b => ⟨b, 0, none⟩) t_5.fStrokes.length cap_54)]), (.int .i64 0)]) [(b_3, b_3), (b_3, b_3)] rfl (by kernel_rfl) (by kernel_rfl) (fun w hm => ⟨o_48, cap_49, sp_50, t_5.fPins.length, rfl, hs_51, ho_52, o_53, cap_54, sp_55, t_5.fStrokes.length, rfl, hs_56, ho_57, rfl, hm.pick [4, 5] (by kernel_rfl) (by kernel_rfl)⟩)

/-! ### laws.FnExactNewPin -/
noncomputable def laws_FnExactNewPin.k_24 (xs_3 : List GWornPin) (xs_4 : List Int) (i_5 : Int) (t_19 : Int × (List GWornPin) × (List Int)) (xs_21 : List GWornPin) (xs_22 : List Int) (i_23 : Int) : Option (Bool) := (laws_eqWear (⟨xs_21, xs_22⟩ : GWear) (⟨xs_3, xs_4⟩ : GWear)).bind fun t_25 => (if ((!t_25) || (i_23 != i_5)) = true then some false else (laws_heldWear (⟨t_19.2.1, t_19.2.2⟩ : GWear) 1).bind fun t_26 => (if (decide (t_26 < 0)) = true then some false else (if (t_26 != t_19.1) = true then some false else some true)))
noncomputable def laws_FnExactNewPin.k_18 (aF0 : GFrame) (aW1 : GWear) (aStep2 : Int) (aTrack3 : Int) (xs_3 : List GWornPin) (xs_4 : List Int) (i_5 : Int) (t_9 : GWear × Int) (q_17 : Bool) : Option (Bool) := (if q_17 = true then some false else (laws_markWear t_9.1 1).bind fun t_19 => (laws_heldWear (⟨t_19.2.1, t_19.2.2⟩ : GWear) 1).bind fun t_20 => (if (decide (t_20 < 0)) = true then some false else (if (t_20 != t_19.1) = true then some false else (laws_toFrame aF0).bind fun t_27 => (laws_toWear aW1).bind fun t_28 => (impl_NewPin t_27 t_28 aStep2 aTrack3).bind fun t_29 => laws_FnExactNewPin.k_24 xs_3 xs_4 i_5 t_19 t_29.1.fPins t_29.1.fStrokes t_29.2)))
noncomputable def laws_FnExactNewPin.k_6 (aF0 : GFrame) (aW1 : GWear) (aStep2 : Int) (aTrack3 : Int) (xs_3 : List GWornPin) (xs_4 : List Int) (i_5 : Int) : Option (Bool) := (laws_toFrame aF0).bind fun t_7 => (laws_toWear aW1).bind fun t_8 => (impl_NewPin t_7 t_8 aStep2 aTrack3).bind fun t_9 => (laws_eqWear t_9.1 (⟨xs_3, xs_4⟩ : GWear)).bind fun t_10 => (if ((!t_10) || (t_9.2 != i_5)) = true then some false else (laws_toFrame aF0).bind fun t_11 => (laws_eqFrame t_7 t_11).bind fun t_12 => (if (!t_12) = true then some false else (laws_toWear aW1).bind fun t_13 => (laws_eqWear t_8 t_13).bind fun t_14 => (if (!t_14) = true then some false else (laws_markFrame t_7 1).bind fun t_15 => (laws_markWear t_8 t_15.1).bind fun t_16 => (if (decide (t_16.1 < 0)) = true then laws_FnExactNewPin.k_18 aF0 aW1 aStep2 aTrack3 xs_3 xs_4 i_5 t_9 true else (laws_eqWear t_9.1 (⟨xs_3, xs_4⟩ : GWear)).bind fun t_30 => laws_FnExactNewPin.k_18 aF0 aW1 aStep2 aTrack3 xs_3 xs_4 i_5 t_9 ((!t_30) || (t_9.2 != i_5))))))
noncomputable def laws_FnExactNewPin (aF0 : GFrame) (aW1 : GWear) (aStep2 : Int) (aTrack3 : Int) : Option (Bool) := (laws_szFrame aF0 1048576).bind fun t_1 => (if (decide (t_1 < 0)) = true then some true else (laws_szWear aW1 t_1).bind fun t_2 => (if (decide (t_2 < 0)) = true then some true else (laws_toFrame aF0).bind fun t_31 => (laws_toWear aW1).bind fun t_32 => (spec_NewPin t_31 t_32 aStep2 aTrack3).bind fun t_33 => laws_FnExactNewPin.k_6 aF0 aW1 aStep2 aTrack3 t_33.1.fPins t_33.1.fStrokes t_33.2))
set_option maxRecDepth 100000 in
set_option maxHeartbeats 8000000 in
theorem laws_FnExactNewPin.calls (aF0 : GFrame) (aW1 : GWear) (aStep2 : Int) (aTrack3 : Int) (w : World) (r : Bool) (aF0_fHammers_a : Option Addr) (aF0_fHammers_an : Nat) (aF0_fHammers_c : Nat) (aF0_fHammers_h : Rw w aF0_fHammers_a 2 encGHammer aF0.fHammers) (aF0_fHammers_hn : aF0.fHammers.length = aF0_fHammers_an) (aW1_fPins_a : Option Addr) (aW1_fPins_an : Nat) (aW1_fPins_c : Nat) (aW1_fPins_h : Rw w aW1_fPins_a 3 encGWornPin aW1.fPins) (aW1_fPins_hn : aW1.fPins.length = aW1_fPins_an) (aW1_fStrokes_a : Option Addr) (aW1_fStrokes_an : Nat) (aW1_fStrokes_c : Nat) (aW1_fStrokes_h : Rw w aW1_fStrokes_a 1 encI64 aW1.fStrokes) (aW1_fStrokes_hn : aW1.fStrokes.length = aW1_fStrokes_an) (h : laws_FnExactNewPin aF0 aW1 aStep2 aTrack3 = some r) :
    Calls Try.prog 10 #[(.agg #[(.int .i16 aF0.fSteps), (.slice aF0_fHammers_a aF0_fHammers_an aF0_fHammers_c)]), (.agg #[(.slice aW1_fPins_a aW1_fPins_an aW1_fPins_c), (.slice aW1_fStrokes_a aW1_fStrokes_an aW1_fStrokes_c)]), (.int .i64 aStep2), (.int .i64 aTrack3)] w fun e w' => ∃ v, e = .returned v ∧ (v = (.bool r) ∧ Mem w [] [] w') := by
  subst aF0_fHammers_hn aW1_fPins_hn aW1_fStrokes_hn
  rw [laws_FnExactNewPin] at h
  refine enter (args := [(.agg #[(.int .i16 aF0.fSteps), (.slice aF0_fHammers_a aF0.fHammers.length aF0_fHammers_c)]), (.agg #[(.slice aW1_fPins_a aW1.fPins.length aW1_fPins_c), (.slice aW1_fStrokes_a aW1.fStrokes.length aW1_fStrokes_c)]), (.int .i64 aStep2), (.int .i64 aTrack3)]) Try.func10 rfl Try.ntmps10 (by kernel_rfl) (L := []) (W := []) (Mem.start w) ?_
  refine jc_seq ?_
  refine jc_region ?_
  refine toO (by kernel_rfl) (p_a 0 [0] (by kernel_rfl) (fun b => by kernel_rfl) (fun b_1 => jkO ?_))
  refine toO (by kernel_rfl) (p_a 0 [0] (by kernel_rfl) (fun b => by kernel_rfl) (fun b_2 => jkO ?_))
  refine jo_f [(0, 0)] (by kernel_rfl) ?_
  refine jo_end (by kernel_rfl) ?_
  refine jx_then ?_
  refine jc_seq ?_
  refine jc_region ?_
  refine jo_f [(0, 0)] (by kernel_rfl) ?_
  refine jo_end (by kernel_rfl) ?_
  refine jx_then ?_
  refine jc_seq ?_
  refine jc_region ?_
  refine jo_f [(0, 0), (0, 0)] (by kernel_rfl) ?_
  obtain ⟨t_1, ht_3, h⟩ := bd h
  refine toO (by kernel_rfl) (p_call 0 13 #[(.agg #[(.int .i16 aF0.fSteps), (.slice aF0_fHammers_a aF0.fHammers.length aF0_fHammers_c)]), (.int .i64 1048576)] (by kernel_rfl) (by kernel_rfl) (fun w hm => laws_szFrame.calls aF0 1048576 w _ aF0_fHammers_a aF0.fHammers.length aF0_fHammers_c (hm.exRow aF0_fHammers_h List.not_mem_nil) rfl ht_3) ?_)
  rintro w v w' hm ⟨rfl, hm'⟩
  refine ⟨_, hm.app hm', jkO ?_⟩
  clear hm hm'
  refine jo_f [(0, 0)] (by kernel_rfl) ?_
  refine jo_end (by kernel_rfl) ?_
  refine jx_then ?_
  refine jc_seq ?_
  refine jc_seq ?_
  refine jc_region ?_
  refine jo_f [(0, 0), (0, 0)] (by kernel_rfl) ?_
  refine jo_end (by kernel_rfl) ?_
  refine jx_then ?_
  refine jc_cond (decide (t_1 < 0)) (by kernel_rfl) (fun hc_5 => ?_) (fun hc_5 => ?_)
  · replace h := ifT hc_5 h
    refine jc_seq ?_
    refine jc_region ?_
    refine jo_f [(0, 0)] (by kernel_rfl) ?_
    refine jo_end (by kernel_rfl) ?_
    refine jx_then ?_
    refine jc_ret ?_
    refine jx_thenr ?_
    obtain rfl := Option.some.inj h
    exact jx_ret [] (.bool true) [] rfl (by kernel_rfl) (by kernel_rfl) (fun w hm => ⟨rfl, hm.pick [] (by kernel_rfl) (by kernel_rfl)⟩)
  · replace h := ifF hc_5 h
    refine jc_skip ?_
    refine jx_then ?_
    refine jc_seq ?_
    refine jc_region ?_
    refine jo_f [(1, 0), (0, 0)] (by kernel_rfl) ?_
    obtain ⟨t_2, ht_6, h⟩ := bd h
    refine toO (by kernel_rfl) (p_call 0 14 #[(.agg #[(.slice aW1_fPins_a aW1.fPins.length aW1_fPins_c), (.slice aW1_fStrokes_a aW1.fStrokes.length aW1_fStrokes_c)]), (.int .i64 t_1)] (by kernel_rfl) (by kernel_rfl) (fun w hm => laws_szWear.calls aW1 t_1 w _ aW1_fPins_a aW1.fPins.length aW1_fPins_c (hm.exRow aW1_fPins_h List.not_mem_nil) rfl aW1_fStrokes_a aW1.fStrokes.length aW1_fStrokes_c (hm.exRow aW1_fStrokes_h List.not_mem_nil) rfl ht_6) ?_)
    rintro w v w' hm ⟨rfl, hm'⟩
    refine ⟨_, hm.app hm', jkO ?_⟩
    clear hm hm'
    refine jo_f [(0, 0)] (by kernel_rfl) ?_
    refine jo_end (by kernel_rfl) ?_
    refine jx_then ?_
    refine jc_seq ?_
    refine jc_seq ?_
    refine jc_region ?_
    refine jo_f [(0, 0), (0, 0)] (by kernel_rfl) ?_
    refine jo_end (by kernel_rfl) ?_
    refine jx_then ?_
    refine jc_cond (decide (t_2 < 0)) (by kernel_rfl) (fun hc_8 => ?_) (fun hc_8 => ?_)
    · replace h := ifT hc_8 h
      refine jc_seq ?_
      refine jc_region ?_
      refine jo_f [(0, 0)] (by kernel_rfl) ?_
      refine jo_end (by kernel_rfl) ?_
      refine jx_then ?_
      refine jc_ret ?_
      refine jx_thenr ?_
      obtain rfl := Option.some.inj h
      exact jx_ret [] (.bool true) [] rfl (by kernel_rfl) (by kernel_rfl) (fun w hm => ⟨rfl, hm.pick [] (by kernel_rfl) (by kernel_rfl)⟩)
    · replace h := ifF hc_8 h
      refine jc_skip ?_
      refine jx_then ?_
      refine jc_seq ?_
      refine jc_meet (fun (j : (List GWornPin) × (List Int) × Int × Nat × (Option Nat) × Nat × (List Value) × Nat × (Option Nat) × Nat × (List Value) × Nat) => match j with | ⟨xs_3, xs_4, i_5, b_102, o_103, cap_104, sp_105, n_106, o_109, cap_110, sp_111, n_112⟩ => laws_FnExactNewPin.k_6 aF0 aW1 aStep2 aTrack3 xs_3 xs_4 i_5 = some r ∧ (xs_3.length = n_106) ∧ ((o_103 ≠ none → n_106 ≤ cap_104 ∧ sp_105.length = (cap_104 - n_106) * 3)) ∧ ((o_103 = none → xs_3 = [] ∧ cap_104 = 0)) ∧ (xs_4.length = n_112) ∧ ((o_109 ≠ none → n_112 ≤ cap_110 ∧ sp_111.length = (cap_110 - n_112) * 1)) ∧ ((o_109 = none → xs_4 = [] ∧ cap_110 = 0))) (fun (j : (List GWornPin) × (List Int) × Int × Nat × (Option Nat) × Nat × (List Value) × Nat × (Option Nat) × Nat × (List Value) × Nat) => match j with | ⟨xs_3, xs_4, i_5, b_102, o_103, cap_104, sp_105, n_106, o_109, cap_110, sp_111, n_112⟩ => [(2, [], (.int .i64 aStep2)), (3, [], (.int .i64 aTrack3)), (4, [], (.pointer (some ⟨b_1, 0, none⟩))), (5, [], (.pointer (some ⟨b_2, 0, none⟩))), (8, [], (.bool false)), (10, [], (.pointer (some ⟨b_102, 0, none⟩))), (11, [], (.int .i64 i_5))]) (fun (j : (List GWornPin) × (List Int) × Int × Nat × (Option Nat) × Nat × (List Value) × Nat × (Option Nat) × Nat × (List Value) × Nat) => match j with | ⟨xs_3, xs_4, i_5, b_102, o_103, cap_104, sp_105, n_106, o_109, cap_110, sp_111, n_112⟩ => [⟨some b_1, 25, [(.int .i16 aF0.fSteps), (.slice aF0_fHammers_a aF0.fHammers.length aF0_fHammers_c)]⟩, ⟨some b_2, 29, [(.slice aW1_fPins_a aW1.fPins.length aW1_fPins_c), (.slice aW1_fStrokes_a aW1.fStrokes.length aW1_fStrokes_c)]⟩, ⟨some b_102, 42, [(.slice (o_103.map fun b => ⟨b, 0, none⟩) n_106 cap_104), (.slice (o_109.map fun b => ⟨b, 0, none⟩) n_112 cap_110)]⟩, ⟨o_103, 164, row encGWornPin xs_3 sp_105⟩, ⟨o_109, 2, row encI64 xs_4 sp_111⟩]) ?_ ?_
      · refine jc_draw [⟨some b_1, 25, [(.int .i16 aF0.fSteps), (.slice aF0_fHammers_a aF0.fHammers.length aF0_fHammers_c)]⟩, ⟨some b_2, 29, [(.slice aW1_fPins_a aW1.fPins.length aW1_fPins_c), (.slice aW1_fStrokes_a aW1.fStrokes.length aW1_fStrokes_c)]⟩] 13 (by kernel_rfl) (by kernel_rfl) ?_
        refine jd_f [⟨0, 0, 0⟩, ⟨2, 1, 0⟩, ⟨4, 0, 0⟩, ⟨5, 0, 0⟩] 9 (by kernel_rfl) (by kernel_rfl) (fun w h => h.pick [0, 1] (by kernel_rfl) (by kernel_rfl)) (by kernel_rfl) (by kernel_rfl) ?_
        refine toD2 1 10 (by kernel_rfl) ?_ ?_
        · obtain ⟨t_31, ht_572, h⟩ := bd h
          refine p_call 0 16 #[(.agg #[(.int .i16 aF0.fSteps), (.slice aF0_fHammers_a aF0.fHammers.length aF0_fHammers_c)])] (by kernel_rfl) (by kernel_rfl) (fun w hm => laws_toFrame.calls aF0 w _ aF0_fHammers_a aF0.fHammers.length aF0_fHammers_c (hm.exRow aF0_fHammers_h List.not_mem_nil) rfl ht_572) ?_
          rintro w v w' hm ⟨o_573, cap_574, sp_575, _, rfl, hs_576, ho_577, rfl, hm'⟩
          refine ⟨_, hm.app hm', jkD (fun w h => h.pick [0, 1] (by kernel_rfl) (by kernel_rfl)) ?_⟩
          clear hm hm'
          refine toD2 3 10 (by kernel_rfl) ?_ ?_
          · obtain ⟨t_32, ht_578, h⟩ := bd h
            refine p_call 0 17 #[(.agg #[(.slice aW1_fPins_a aW1.fPins.length aW1_fPins_c), (.slice aW1_fStrokes_a aW1.fStrokes.length aW1_fStrokes_c)])] (by kernel_rfl) (by kernel_rfl) (fun w hm => laws_toWear.calls aW1 w _ aW1_fPins_a aW1.fPins.length aW1_fPins_c (hm.exRow aW1_fPins_h List.not_mem_nil) rfl aW1_fStrokes_a aW1.fStrokes.length aW1_fStrokes_c (hm.exRow aW1_fStrokes_h List.not_mem_nil) rfl ht_578) ?_
            rintro w v w' hm ⟨o_579, cap_580, sp_581, _, rfl, hs_582, ho_583, o_584, cap_585, sp_586, _, rfl, hs_587, ho_588, rfl, hm'⟩
            refine ⟨_, hm.app hm', jkD (fun w h => h.pick [0, 1] (by kernel_rfl) (by kernel_rfl)) ?_⟩
            clear hm hm'
            refine toD2 6 10 (by kernel_rfl) ?_ ?_
            · obtain ⟨t_33, ht_589, h⟩ := bd h
              refine p_call 0 49 #[(.agg #[(.int .i16 t_31.fSteps), (.slice (o_573.map fun b => ⟨b, 0, none⟩) t_31.fHammers.length cap_574)]), (.agg #[(.slice (o_579.map fun b => ⟨b, 0, none⟩) t_32.fPins.length cap_580), (.slice (o_584.map fun b => ⟨b, 0, none⟩) t_32.fStrokes.length cap_585)]), (.int .i64 aStep2), (.int .i64 aTrack3)] (by kernel_rfl) (by kernel_rfl) (fun w hm => spec_NewPin.calls t_31 t_32 aStep2 aTrack3 w _ (o_573.map fun b => ⟨b, 0, none⟩) t_31.fHammers.length cap_574 (hm.ownRow (hh := 2) (o := o_573) (T := 178) (enc := encGHammer) (xs := t_31.fHammers) (sp := sp_575) (by kernel_rfl) (fun e => (ho_577 e).1) encGHammer_len) rfl (o_579.map fun b => ⟨b, 0, none⟩) t_32.fPins.length cap_580 (hm.ownRow (hh := 3) (o := o_579) (T := 164) (enc := encGWornPin) (xs := t_32.fPins) (sp := sp_581) (by kernel_rfl) (fun e => (ho_583 e).1) encGWornPin_len) rfl (o_584.map fun b => ⟨b, 0, none⟩) t_32.fStrokes.length cap_585 (hm.ownRow (hh := 4) (o := o_584) (T := 2) (enc := encI64) (xs := t_32.fStrokes) (sp := sp_586) (by kernel_rfl) (fun e => (ho_588 e).1) encI64_len) rfl ht_589) ?_
              rintro w v w' hm ⟨o_590, cap_591, sp_592, _, rfl, hs_593, ho_594, o_595, cap_596, sp_597, _, rfl, hs_598, ho_599, rfl, hm'⟩
              refine ⟨_, hm.app hm', jkD (fun w h => h.pick [0, 1] (by kernel_rfl) (by kernel_rfl)) ?_⟩
              clear hm hm'
              refine jd_f [⟨7, 0, 0⟩, ⟨8, 0, 0⟩, ⟨9, 0, 0⟩] 3 (by kernel_rfl) (by kernel_rfl) (fun w h => h.pick [0, 1] (by kernel_rfl) (by kernel_rfl)) (by kernel_rfl) (by kernel_rfl) ?_
              refine toD 10 (by kernel_rfl) (p_a 0 [0] (by kernel_rfl) (fun b => by kernel_rfl) (fun b_600 => jkD (fun w h => h.pick [0, 1] (by kernel_rfl) (by kernel_rfl)) ?_))
              refine toD 11 (by kernel_rfl) (p_s 0 [7] (by kernel_rfl) (by kernel_rfl) (jkD (fun w h => h.pick [0, 1] (by kernel_rfl) (by kernel_rfl)) ?_))
              refine jd_f [⟨12, 0, 0⟩] 0 (by kernel_rfl) (by kernel_rfl) (fun w h => h.pick [0, 1] (by kernel_rfl) (by kernel_rfl)) (by kernel_rfl) (by kernel_rfl) ?_
              refine jd_end (by kernel_rfl) ?_
              exact jx_meet ⟨t_33.1.fPins, t_33.1.fStrokes, t_33.2, b_600, o_590, cap_591, sp_592, t_33.1.fPins.length, o_595, cap_596, sp_597, t_33.1.fStrokes.length⟩ ⟨h, rfl, hs_593, ho_594, rfl, hs_598, ho_599⟩ (by kernel_rfl) [0, 1, 7, 5, 6] (by kernel_rfl) (by kernel_rfl)
            · refine p_a 0 [0] (by kernel_rfl) (fun b => by kernel_rfl) (fun b_601 => jkD (fun w h => h.pick [0, 1] (by kernel_rfl) (by kernel_rfl)) ?_)
              obtain ⟨t_33, ht_602, h⟩ := bd h
              refine toD 6 (by kernel_rfl) (p_call 0 49 #[(.agg #[(.int .i16 t_31.fSteps), (.slice (o_573.map fun b => ⟨b, 0, none⟩) t_31.fHammers.length cap_574)]), (.agg #[(.slice (o_579.map fun b => ⟨b, 0, none⟩) t_32.fPins.length cap_580), (.slice (o_584.map fun b => ⟨b, 0, none⟩) t_32.fStrokes.length cap_585)]), (.int .i64 aStep2), (.int .i64 aTrack3)] (by kernel_rfl) (by kernel_rfl) (fun w hm => spec_NewPin.calls t_31 t_32 aStep2 aTrack3 w _ (o_573.map fun b => ⟨b, 0, none⟩) t_31.fHammers.length cap_574 (hm.ownRow (hh := 2) (o := o_573) (T := 178) (enc := encGHammer) (xs := t_31.fHammers) (sp := sp_575) (by kernel_rfl) (fun e => (ho_577 e).1) encGHammer_len) rfl (o_579.map fun b => ⟨b, 0, none⟩) t_32.fPins.length cap_580 (hm.ownRow (hh := 3) (o := o_579) (T := 164) (enc := encGWornPin) (xs := t_32.fPins) (sp := sp_581) (by kernel_rfl) (fun e => (ho_583 e).1) encGWornPin_len) rfl (o_584.map fun b => ⟨b, 0, none⟩) t_32.fStrokes.length cap_585 (hm.ownRow (hh := 4) (o := o_584) (T := 2) (enc := encI64) (xs := t_32.fStrokes) (sp := sp_586) (by kernel_rfl) (fun e => (ho_588 e).1) encI64_len) rfl ht_602) ?_)
              rintro w v w' hm ⟨o_603, cap_604, sp_605, _, rfl, hs_606, ho_607, o_608, cap_609, sp_610, _, rfl, hs_611, ho_612, rfl, hm'⟩
              refine ⟨_, hm.app hm', jkD (fun w h => h.pick [0, 1] (by kernel_rfl) (by kernel_rfl)) ?_⟩
              clear hm hm'
              refine jd_f [⟨7, 0, 0⟩, ⟨8, 0, 0⟩, ⟨9, 0, 0⟩] 2 (by kernel_rfl) (by kernel_rfl) (fun w h => h.pick [0, 1] (by kernel_rfl) (by kernel_rfl)) (by kernel_rfl) (by kernel_rfl) ?_
              refine toD 11 (by kernel_rfl) (p_s 0 [5] (by kernel_rfl) (by kernel_rfl) (jkD (fun w h => h.pick [0, 1] (by kernel_rfl) (by kernel_rfl)) ?_))
              refine jd_f [⟨12, 0, 0⟩] 0 (by kernel_rfl) (by kernel_rfl) (fun w h => h.pick [0, 1] (by kernel_rfl) (by kernel_rfl)) (by kernel_rfl) (by kernel_rfl) ?_
              refine jd_end (by kernel_rfl) ?_
              exact jx_meet ⟨t_33.1.fPins, t_33.1.fStrokes, t_33.2, b_601, o_603, cap_604, sp_605, t_33.1.fPins.length, o_608, cap_609, sp_610, t_33.1.fStrokes.length⟩ ⟨h, rfl, hs_606, ho_607, rfl, hs_611, ho_612⟩ (by kernel_rfl) [0, 1, 5, 6, 7] (by kernel_rfl) (by kernel_rfl)
          · refine p_a 0 [0] (by kernel_rfl) (fun b => by kernel_rfl) (fun b_613 => jkD (fun w h => h.pick [0, 1] (by kernel_rfl) (by kernel_rfl)) ?_)
            obtain ⟨t_32, ht_614, h⟩ := bd h
            refine toD 3 (by kernel_rfl) (p_call 0 17 #[(.agg #[(.slice aW1_fPins_a aW1.fPins.length aW1_fPins_c), (.slice aW1_fStrokes_a aW1.fStrokes.length aW1_fStrokes_c)])] (by kernel_rfl) (by kernel_rfl) (fun w hm => laws_toWear.calls aW1 w _ aW1_fPins_a aW1.fPins.length aW1_fPins_c (hm.exRow aW1_fPins_h List.not_mem_nil) rfl aW1_fStrokes_a aW1.fStrokes.length aW1_fStrokes_c (hm.exRow aW1_fStrokes_h List.not_mem_nil) rfl ht_614) ?_)
            rintro w v w' hm ⟨o_615, cap_616, sp_617, _, rfl, hs_618, ho_619, o_620, cap_621, sp_622, _, rfl, hs_623, ho_624, rfl, hm'⟩
            refine ⟨_, hm.app hm', jkD (fun w h => h.pick [0, 1] (by kernel_rfl) (by kernel_rfl)) ?_⟩
            clear hm hm'
            obtain ⟨t_33, ht_625, h⟩ := bd h
            refine toD 6 (by kernel_rfl) (p_call 0 49 #[(.agg #[(.int .i16 t_31.fSteps), (.slice (o_573.map fun b => ⟨b, 0, none⟩) t_31.fHammers.length cap_574)]), (.agg #[(.slice (o_615.map fun b => ⟨b, 0, none⟩) t_32.fPins.length cap_616), (.slice (o_620.map fun b => ⟨b, 0, none⟩) t_32.fStrokes.length cap_621)]), (.int .i64 aStep2), (.int .i64 aTrack3)] (by kernel_rfl) (by kernel_rfl) (fun w hm => spec_NewPin.calls t_31 t_32 aStep2 aTrack3 w _ (o_573.map fun b => ⟨b, 0, none⟩) t_31.fHammers.length cap_574 (hm.ownRow (hh := 2) (o := o_573) (T := 178) (enc := encGHammer) (xs := t_31.fHammers) (sp := sp_575) (by kernel_rfl) (fun e => (ho_577 e).1) encGHammer_len) rfl (o_615.map fun b => ⟨b, 0, none⟩) t_32.fPins.length cap_616 (hm.ownRow (hh := 4) (o := o_615) (T := 164) (enc := encGWornPin) (xs := t_32.fPins) (sp := sp_617) (by kernel_rfl) (fun e => (ho_619 e).1) encGWornPin_len) rfl (o_620.map fun b => ⟨b, 0, none⟩) t_32.fStrokes.length cap_621 (hm.ownRow (hh := 5) (o := o_620) (T := 2) (enc := encI64) (xs := t_32.fStrokes) (sp := sp_622) (by kernel_rfl) (fun e => (ho_624 e).1) encI64_len) rfl ht_625) ?_)
            rintro w v w' hm ⟨o_626, cap_627, sp_628, _, rfl, hs_629, ho_630, o_631, cap_632, sp_633, _, rfl, hs_634, ho_635, rfl, hm'⟩
            refine ⟨_, hm.app hm', jkD (fun w h => h.pick [0, 1] (by kernel_rfl) (by kernel_rfl)) ?_⟩
            clear hm hm'
            refine jd_f [⟨7, 0, 0⟩, ⟨8, 0, 0⟩, ⟨9, 0, 0⟩] 2 (by kernel_rfl) (by kernel_rfl) (fun w h => h.pick [0, 1] (by kernel_rfl) (by kernel_rfl)) (by kernel_rfl) (by kernel_rfl) ?_
            refine toD 11 (by kernel_rfl) (p_s 0 [3] (by kernel_rfl) (by kernel_rfl) (jkD (fun w h => h.pick [0, 1] (by kernel_rfl) (by kernel_rfl)) ?_))
            refine jd_f [⟨12, 0, 0⟩] 0 (by kernel_rfl) (by kernel_rfl) (fun w h => h.pick [0, 1] (by kernel_rfl) (by kernel_rfl)) (by kernel_rfl) (by kernel_rfl) ?_
            refine jd_end (by kernel_rfl) ?_
            exact jx_meet ⟨t_33.1.fPins, t_33.1.fStrokes, t_33.2, b_613, o_626, cap_627, sp_628, t_33.1.fPins.length, o_631, cap_632, sp_633, t_33.1.fStrokes.length⟩ ⟨h, rfl, hs_629, ho_630, rfl, hs_634, ho_635⟩ (by kernel_rfl) [0, 1, 3, 6, 7] (by kernel_rfl) (by kernel_rfl)
        · refine p_a 0 [0] (by kernel_rfl) (fun b => by kernel_rfl) (fun b_636 => jkD (fun w h => h.pick [0, 1] (by kernel_rfl) (by kernel_rfl)) ?_)
          obtain ⟨t_31, ht_637, h⟩ := bd h
          refine toD 1 (by kernel_rfl) (p_call 0 16 #[(.agg #[(.int .i16 aF0.fSteps), (.slice aF0_fHammers_a aF0.fHammers.length aF0_fHammers_c)])] (by kernel_rfl) (by kernel_rfl) (fun w hm => laws_toFrame.calls aF0 w _ aF0_fHammers_a aF0.fHammers.length aF0_fHammers_c (hm.exRow aF0_fHammers_h List.not_mem_nil) rfl ht_637) ?_)
          rintro w v w' hm ⟨o_638, cap_639, sp_640, _, rfl, hs_641, ho_642, rfl, hm'⟩
          refine ⟨_, hm.app hm', jkD (fun w h => h.pick [0, 1] (by kernel_rfl) (by kernel_rfl)) ?_⟩
          clear hm hm'
          obtain ⟨t_32, ht_643, h⟩ := bd h
          refine toD 3 (by kernel_rfl) (p_call 0 17 #[(.agg #[(.slice aW1_fPins_a aW1.fPins.length aW1_fPins_c), (.slice aW1_fStrokes_a aW1.fStrokes.length aW1_fStrokes_c)])] (by kernel_rfl) (by kernel_rfl) (fun w hm => laws_toWear.calls aW1 w _ aW1_fPins_a aW1.fPins.length aW1_fPins_c (hm.exRow aW1_fPins_h List.not_mem_nil) rfl aW1_fStrokes_a aW1.fStrokes.length aW1_fStrokes_c (hm.exRow aW1_fStrokes_h List.not_mem_nil) rfl ht_643) ?_)
          rintro w v w' hm ⟨o_644, cap_645, sp_646, _, rfl, hs_647, ho_648, o_649, cap_650, sp_651, _, rfl, hs_652, ho_653, rfl, hm'⟩
          refine ⟨_, hm.app hm', jkD (fun w h => h.pick [0, 1] (by kernel_rfl) (by kernel_rfl)) ?_⟩
          clear hm hm'
          obtain ⟨t_33, ht_654, h⟩ := bd h
          refine toD 6 (by kernel_rfl) (p_call 0 49 #[(.agg #[(.int .i16 t_31.fSteps), (.slice (o_638.map fun b => ⟨b, 0, none⟩) t_31.fHammers.length cap_639)]), (.agg #[(.slice (o_644.map fun b => ⟨b, 0, none⟩) t_32.fPins.length cap_645), (.slice (o_649.map fun b => ⟨b, 0, none⟩) t_32.fStrokes.length cap_650)]), (.int .i64 aStep2), (.int .i64 aTrack3)] (by kernel_rfl) (by kernel_rfl) (fun w hm => spec_NewPin.calls t_31 t_32 aStep2 aTrack3 w _ (o_638.map fun b => ⟨b, 0, none⟩) t_31.fHammers.length cap_639 (hm.ownRow (hh := 3) (o := o_638) (T := 178) (enc := encGHammer) (xs := t_31.fHammers) (sp := sp_640) (by kernel_rfl) (fun e => (ho_642 e).1) encGHammer_len) rfl (o_644.map fun b => ⟨b, 0, none⟩) t_32.fPins.length cap_645 (hm.ownRow (hh := 4) (o := o_644) (T := 164) (enc := encGWornPin) (xs := t_32.fPins) (sp := sp_646) (by kernel_rfl) (fun e => (ho_648 e).1) encGWornPin_len) rfl (o_649.map fun b => ⟨b, 0, none⟩) t_32.fStrokes.length cap_650 (hm.ownRow (hh := 5) (o := o_649) (T := 2) (enc := encI64) (xs := t_32.fStrokes) (sp := sp_651) (by kernel_rfl) (fun e => (ho_653 e).1) encI64_len) rfl ht_654) ?_)
          rintro w v w' hm ⟨o_655, cap_656, sp_657, _, rfl, hs_658, ho_659, o_660, cap_661, sp_662, _, rfl, hs_663, ho_664, rfl, hm'⟩
          refine ⟨_, hm.app hm', jkD (fun w h => h.pick [0, 1] (by kernel_rfl) (by kernel_rfl)) ?_⟩
          clear hm hm'
          refine jd_f [⟨7, 0, 0⟩, ⟨8, 0, 0⟩, ⟨9, 0, 0⟩] 2 (by kernel_rfl) (by kernel_rfl) (fun w h => h.pick [0, 1] (by kernel_rfl) (by kernel_rfl)) (by kernel_rfl) (by kernel_rfl) ?_
          refine toD 11 (by kernel_rfl) (p_s 0 [2] (by kernel_rfl) (by kernel_rfl) (jkD (fun w h => h.pick [0, 1] (by kernel_rfl) (by kernel_rfl)) ?_))
          refine jd_f [⟨12, 0, 0⟩] 0 (by kernel_rfl) (by kernel_rfl) (fun w h => h.pick [0, 1] (by kernel_rfl) (by kernel_rfl)) (by kernel_rfl) (by kernel_rfl) ?_
          refine jd_end (by kernel_rfl) ?_
          exact jx_meet ⟨t_33.1.fPins, t_33.1.fStrokes, t_33.2, b_636, o_655, cap_656, sp_657, t_33.1.fPins.length, o_660, cap_661, sp_662, t_33.1.fStrokes.length⟩ ⟨h, rfl, hs_658, ho_659, rfl, hs_663, ho_664⟩ (by kernel_rfl) [0, 1, 2, 6, 7] (by kernel_rfl) (by kernel_rfl)
      · rintro ⟨xs_3, xs_4, i_5, b_102, o_103, cap_104, sp_105, n_106, o_109, cap_110, sp_111, n_112⟩ ⟨h, rfl, hs_107, ho_108, rfl, hs_113, ho_114⟩
        replace h : laws_FnExactNewPin.k_6 aF0 aW1 aStep2 aTrack3 xs_3 xs_4 i_5 = some r := h
        rw [laws_FnExactNewPin.k_6] at h
        refine jx_then ?_
        refine jc_seq ?_
        refine jc_region ?_
        refine jo_f [(0, 0)] (by kernel_rfl) ?_
        obtain ⟨t_7, ht_115, h⟩ := bd h
        refine toO (by kernel_rfl) (p_call 0 16 #[(.agg #[(.int .i16 aF0.fSteps), (.slice aF0_fHammers_a aF0.fHammers.length aF0_fHammers_c)])] (by kernel_rfl) (by kernel_rfl) (fun w hm => laws_toFrame.calls aF0 w _ aF0_fHammers_a aF0.fHammers.length aF0_fHammers_c (hm.exRow aF0_fHammers_h List.not_mem_nil) rfl ht_115) ?_)
        rintro w v w' hm ⟨o_116, cap_117, sp_118, _, rfl, hs_119, ho_120, rfl, hm'⟩
        refine ⟨_, hm.app hm', jkO ?_⟩
        clear hm hm'
        refine toO (by kernel_rfl) (p_a 0 [0] (by kernel_rfl) (fun b => by kernel_rfl) (fun b_121 => jkO ?_))
        refine toO (by kernel_rfl) (p_s 0 [6] (by kernel_rfl) (by kernel_rfl) (jkO ?_))
        refine jo_end (by kernel_rfl) ?_
        refine jx_then ?_
        refine jc_seq ?_
        refine jc_region ?_
        refine jo_f [(1, 0)] (by kernel_rfl) ?_
        obtain ⟨t_8, ht_122, h⟩ := bd h
        refine toO (by kernel_rfl) (p_call 0 17 #[(.agg #[(.slice aW1_fPins_a aW1.fPins.length aW1_fPins_c), (.slice aW1_fStrokes_a aW1.fStrokes.length aW1_fStrokes_c)])] (by kernel_rfl) (by kernel_rfl) (fun w hm => laws_toWear.calls aW1 w _ aW1_fPins_a aW1.fPins.length aW1_fPins_c (hm.exRow aW1_fPins_h List.not_mem_nil) rfl aW1_fStrokes_a aW1.fStrokes.length aW1_fStrokes_c (hm.exRow aW1_fStrokes_h List.not_mem_nil) rfl ht_122) ?_)
        rintro w v w' hm ⟨o_123, cap_124, sp_125, _, rfl, hs_126, ho_127, o_128, cap_129, sp_130, _, rfl, hs_131, ho_132, rfl, hm'⟩
        refine ⟨_, hm.app hm', jkO ?_⟩
        clear hm hm'
        refine toO (by kernel_rfl) (p_a 0 [0] (by kernel_rfl) (fun b => by kernel_rfl) (fun b_133 => jkO ?_))
        refine toO (by kernel_rfl) (p_s 0 [9] (by kernel_rfl) (by kernel_rfl) (jkO ?_))
        refine jo_end (by kernel_rfl) ?_
        refine jx_then ?_
        refine jc_seq ?_
        refine jc_region ?_
        refine jo_f [(6, 0), (9, 0), (0, 0), (0, 0)] (by kernel_rfl) ?_
        obtain ⟨t_9, ht_134, h⟩ := bd h
        refine toO (by kernel_rfl) (p_call 0 50 #[(.agg #[(.int .i16 t_7.fSteps), (.slice (o_116.map fun b => ⟨b, 0, none⟩) t_7.fHammers.length cap_117)]), (.agg #[(.slice (o_123.map fun b => ⟨b, 0, none⟩) t_8.fPins.length cap_124), (.slice (o_128.map fun b => ⟨b, 0, none⟩) t_8.fStrokes.length cap_129)]), (.int .i64 aStep2), (.int .i64 aTrack3)] (by kernel_rfl) (by kernel_rfl) (fun w hm => impl_NewPin.calls t_7 t_8 aStep2 aTrack3 w _ (o_116.map fun b => ⟨b, 0, none⟩) t_7.fHammers.length cap_117 (hm.ownRow (hh := 5) (o := o_116) (T := 178) (enc := encGHammer) (xs := t_7.fHammers) (sp := sp_118) (by kernel_rfl) (fun e => (ho_120 e).1) encGHammer_len) rfl (o_123.map fun b => ⟨b, 0, none⟩) t_8.fPins.length cap_124 (hm.ownRow (hh := 7) (o := o_123) (T := 164) (enc := encGWornPin) (xs := t_8.fPins) (sp := sp_125) (by kernel_rfl) (fun e => (ho_127 e).1) encGWornPin_len) rfl (o_128.map fun b => ⟨b, 0, none⟩) t_8.fStrokes.length cap_129 (hm.ownRow (hh := 8) (o := o_128) (T := 2) (enc := encI64) (xs := t_8.fStrokes) (sp := sp_130) (by kernel_rfl) (fun e => (ho_132 e).1) encI64_len) rfl ht_134) ?_)
        rintro w v w' hm ⟨o_135, cap_136, sp_137, _, rfl, hs_138, ho_139, o_140, cap_141, sp_142, _, rfl, hs_143, ho_144, rfl, hm'⟩
        refine ⟨_, hm.app hm', jkO ?_⟩
        clear hm hm'
        refine jo_f [(0, 0), (0, 0), (0, 0)] (by kernel_rfl) ?_
        refine toO (by kernel_rfl) (p_a 0 [0] (by kernel_rfl) (fun b => by kernel_rfl) (fun b_145 => jkO ?_))
        refine toO (by kernel_rfl) (p_s 0 [12] (by kernel_rfl) (by kernel_rfl) (jkO ?_))
        refine jo_f [(0, 0)] (by kernel_rfl) ?_
        refine jo_end (by kernel_rfl) ?_
        refine jx_then ?_
        refine jc_seq ?_
        refine jc_seq ?_
        refine jc_region ?_
        refine jo_f [(12, 0), (2, 0)] (by kernel_rfl) ?_
        obtain ⟨t_10, ht_150, h⟩ := bd h
        refine toO (by kernel_rfl) (p_call 0 21 #[(.agg #[(.slice (o_135.map fun b => ⟨b, 0, none⟩) t_9.1.fPins.length cap_136), (.slice (o_140.map fun b => ⟨b, 0, none⟩) t_9.1.fStrokes.length cap_141)]), (.agg #[(.slice (o_103.map fun b => ⟨b, 0, none⟩) xs_3.length cap_104), (.slice (o_109.map fun b => ⟨b, 0, none⟩) xs_4.length cap_110)])] (by kernel_rfl) (by kernel_rfl) (fun w hm => laws_eqWear.calls t_9.1 (⟨xs_3, xs_4⟩ : GWear) w _ (o_135.map fun b => ⟨b, 0, none⟩) t_9.1.fPins.length cap_136 (hm.ownRow (hh := 10) (o := o_135) (T := 164) (enc := encGWornPin) (xs := t_9.1.fPins) (sp := sp_137) (by kernel_rfl) (fun e => (ho_139 e).1) encGWornPin_len) rfl (o_140.map fun b => ⟨b, 0, none⟩) t_9.1.fStrokes.length cap_141 (hm.ownRow (hh := 11) (o := o_140) (T := 2) (enc := encI64) (xs := t_9.1.fStrokes) (sp := sp_142) (by kernel_rfl) (fun e => (ho_144 e).1) encI64_len) rfl (o_103.map fun b => ⟨b, 0, none⟩) xs_3.length cap_104 (hm.ownRow (hh := 3) (o := o_103) (T := 164) (enc := encGWornPin) (xs := xs_3) (sp := sp_105) (by kernel_rfl) (fun e => (ho_108 e).1) encGWornPin_len) rfl (o_109.map fun b => ⟨b, 0, none⟩) xs_4.length cap_110 (hm.ownRow (hh := 4) (o := o_109) (T := 2) (enc := encI64) (xs := xs_4) (sp := sp_111) (by kernel_rfl) (fun e => (ho_114 e).1) encI64_len) rfl ht_150) ?_)
        rintro w v w' hm ⟨rfl, hm'⟩
        refine ⟨_, hm.app hm', jkO ?_⟩
        clear hm hm'
        refine jo_f [(0, 0), (0, 0), (0, 1), (0, 1), (0, 1), (0, 0)] (by kernel_rfl) ?_
        refine jo_end (by kernel_rfl) ?_
        refine jx_then ?_
        refine jc_cond ((!t_10) || (t_9.2 != i_5)) (by kernel_rfl) (fun hc_151 => ?_) (fun hc_151 => ?_)
        · replace h := ifT hc_151 h
          refine jc_seq ?_
          refine jc_region ?_
          refine jo_f [(0, 0)] (by kernel_rfl) ?_
          refine jo_end (by kernel_rfl) ?_
          refine jx_then ?_
          refine jc_ret ?_
          refine jx_thenr ?_
          obtain rfl := Option.some.inj h
          exact jx_ret [] (.bool false) [] rfl (by kernel_rfl) (by kernel_rfl) (fun w hm => ⟨rfl, hm.pick [] (by kernel_rfl) (by kernel_rfl)⟩)
        · replace h := ifF hc_151 h
          refine jc_skip ?_
          refine jx_then ?_
          refine jc_seq ?_
          refine jc_seq ?_
          refine jc_draw [⟨some b_1, 25, [(.int .i16 aF0.fSteps), (.slice aF0_fHammers_a aF0.fHammers.length aF0_fHammers_c)]⟩, ⟨some b_2, 29, [(.slice aW1_fPins_a aW1.fPins.length aW1_fPins_c), (.slice aW1_fStrokes_a aW1.fStrokes.length aW1_fStrokes_c)]⟩, ⟨some b_102, 42, [(.slice (o_103.map fun b => ⟨b, 0, none⟩) xs_3.length cap_104), (.slice (o_109.map fun b => ⟨b, 0, none⟩) xs_4.length cap_110)]⟩, ⟨o_103, 164, row encGWornPin xs_3 sp_105⟩, ⟨o_109, 2, row encI64 xs_4 sp_111⟩, ⟨o_116, 178, row encGHammer t_7.fHammers sp_118⟩, ⟨some b_121, 38, [(.int .i16 t_7.fSteps), (.slice (o_116.map fun b => ⟨b, 0, none⟩) t_7.fHammers.length cap_117)]⟩, ⟨o_123, 164, row encGWornPin t_8.fPins sp_125⟩, ⟨o_128, 2, row encI64 t_8.fStrokes sp_130⟩, ⟨some b_133, 42, [(.slice (o_123.map fun b => ⟨b, 0, none⟩) t_8.fPins.length cap_124), (.slice (o_128.map fun b => ⟨b, 0, none⟩) t_8.fStrokes.length cap_129)]⟩, ⟨o_135, 164, row encGWornPin t_9.1.fPins sp_137⟩, ⟨o_140, 2, row encI64 t_9.1.fStrokes sp_142⟩, ⟨some b_145, 42, [(.slice (o_135.map fun b => ⟨b, 0, none⟩) t_9.1.fPins.length cap_136), (.slice (o_140.map fun b => ⟨b, 0, none⟩) t_9.1.fStrokes.length cap_141)]⟩] 5 (by kernel_rfl) (by kernel_rfl) ?_
          refine jd_f [⟨0, 6, 0⟩, ⟨1, 0, 0⟩] 3 (by kernel_rfl) (by kernel_rfl) (fun w h => h.pick [0, 1, 2, 3, 4, 5, 6, 7, 8, 9, 10, 11, 12] (by kernel_rfl) (by kernel_rfl)) (by kernel_rfl) (by kernel_rfl) ?_
          obtain ⟨t_11, ht_174, h⟩ := bd h
          refine toD 2 (by kernel_rfl) (p_call 0 16 #[(.agg #[(.int .i16 aF0.fSteps), (.slice aF0_fHammers_a aF0.fHammers.length aF0_fHammers_c)])] (by kernel_rfl) (by kernel_rfl) (fun w hm => laws_toFrame.calls aF0 w _ aF0_fHammers_a aF0.fHammers.length aF0_fHammers_c (hm.exRow aF0_fHammers_h List.not_mem_nil) rfl ht_174) ?_)
          rintro w v w' hm ⟨o_175, cap_176, sp_177, _, rfl, hs_178, ho_179, rfl, hm'⟩
          refine ⟨_, hm.app hm', jkD (fun w h => h.pick [0, 1, 2, 3, 4, 5, 6, 7, 8, 9, 10, 11, 12] (by kernel_rfl) (by kernel_rfl)) ?_⟩
          clear hm hm'
          obtain ⟨t_12, ht_180, h⟩ := bd h
          refine toD 3 (by kernel_rfl) (p_call 0 20 #[(.agg #[(.int .i16 t_7.fSteps), (.slice (o_116.map fun b => ⟨b, 0, none⟩) t_7.fHammers.length cap_117)]), (.agg #[(.int .i16 t_11.fSteps), (.slice (o_175.map fun b => ⟨b, 0, none⟩) t_11.fHammers.length cap_176)])] (by kernel_rfl) (by kernel_rfl) (fun w hm => laws_eqFrame.calls t_7 t_11 w _ (o_116.map fun b => ⟨b, 0, none⟩) t_7.fHammers.length cap_117 (hm.ownRow (hh := 5) (o := o_116) (T := 178) (enc := encGHammer) (xs := t_7.fHammers) (sp := sp_118) (by kernel_rfl) (fun e => (ho_120 e).1) encGHammer_len) rfl (o_175.map fun b => ⟨b, 0, none⟩) t_11.fHammers.length cap_176 (hm.ownRow (hh := 13) (o := o_175) (T := 178) (enc := encGHammer) (xs := t_11.fHammers) (sp := sp_177) (by kernel_rfl) (fun e => (ho_179 e).1) encGHammer_len) rfl ht_180) ?_)
          rintro w v w' hm ⟨rfl, hm'⟩
          refine ⟨_, hm.app hm', jkD (fun w h => h.pick [0, 1, 2, 3, 4, 5, 6, 7, 8, 9, 10, 11, 12] (by kernel_rfl) (by kernel_rfl)) ?_⟩
          clear hm hm'
          refine jd_f [⟨4, 0, 0⟩] 0 (by kernel_rfl) (by kernel_rfl) (fun w h => h.pick [0, 1, 2, 3, 4, 5, 6, 7, 8, 9, 10, 11, 12] (by kernel_rfl) (by kernel_rfl)) (by kernel_rfl) (by kernel_rfl) ?_
          refine jd_end (by kernel_rfl) ?_
          refine jx_then ?_
          refine jc_cond (!t_12) (by kernel_rfl) (fun hc_181 => ?_) (fun hc_181 => ?_)
          · replace h := ifT hc_181 h
            refine jc_seq ?_
            refine jc_region ?_
            refine jo_f [(0, 0)] (by kernel_rfl) ?_
            refine jo_end (by kernel_rfl) ?_
            refine jx_then ?_
            refine jc_ret ?_
            refine jx_thenr ?_
            obtain rfl := Option.some.inj h
            exact jx_ret [] (.bool false) [] rfl (by kernel_rfl) (by kernel_rfl) (fun w hm => ⟨rfl, hm.pick [] (by kernel_rfl) (by kernel_rfl)⟩)
          · replace h := ifF hc_181 h
            refine jc_skip ?_
            refine jx_then ?_
            refine jc_seq ?_
            refine jc_seq ?_
            refine jc_draw [⟨some b_1, 25, [(.int .i16 aF0.fSteps), (.slice aF0_fHammers_a aF0.fHammers.length aF0_fHammers_c)]⟩, ⟨some b_2, 29, [(.slice aW1_fPins_a aW1.fPins.length aW1_fPins_c), (.slice aW1_fStrokes_a aW1.fStrokes.length aW1_fStrokes_c)]⟩, ⟨some b_102, 42, [(.slice (o_103.map fun b => ⟨b, 0, none⟩) xs_3.length cap_104), (.slice (o_109.map fun b => ⟨b, 0, none⟩) xs_4.length cap_110)]⟩, ⟨o_103, 164, row encGWornPin xs_3 sp_105⟩, ⟨o_109, 2, row encI64 xs_4 sp_111⟩, ⟨some b_121, 38, [(.int .i16 t_7.fSteps), (.slice (o_116.map fun b => ⟨b, 0, none⟩) t_7.fHammers.length cap_117)]⟩, ⟨some b_133, 42, [(.slice (o_123.map fun b => ⟨b, 0, none⟩) t_8.fPins.length cap_124), (.slice (o_128.map fun b => ⟨b, 0, none⟩) t_8.fStrokes.length cap_129)]⟩, ⟨some b_145, 42, [(.slice (o_135.map fun b => ⟨b, 0, none⟩) t_9.1.fPins.length cap_136), (.slice (o_140.map fun b => ⟨b, 0, none⟩) t_9.1.fStrokes.length cap_141)]⟩, ⟨o_175, 178, row encGHammer t_11.fHammers sp_177⟩] 5 (by kernel_rfl) (by kernel_rfl) ?_
            refine jd_f [⟨0, 6, 0⟩, ⟨1, 1, 0⟩] 3 (by kernel_rfl) (by kernel_rfl) (fun w h => h.pick [0, 1, 2, 3, 4, 6, 9, 12, 13] (by kernel_rfl) (by kernel_rfl)) (by kernel_rfl) (by kernel_rfl) ?_
            obtain ⟨t_13, ht_322, h⟩ := bd h
            refine toD 2 (by kernel_rfl) (p_call 0 17 #[(.agg #[(.slice aW1_fPins_a aW1.fPins.length aW1_fPins_c), (.slice aW1_fStrokes_a aW1.fStrokes.length aW1_fStrokes_c)])] (by kernel_rfl) (by kernel_rfl) (fun w hm => laws_toWear.calls aW1 w _ aW1_fPins_a aW1.fPins.length aW1_fPins_c (hm.exRow aW1_fPins_h List.not_mem_nil) rfl aW1_fStrokes_a aW1.fStrokes.length aW1_fStrokes_c (hm.exRow aW1_fStrokes_h List.not_mem_nil) rfl ht_322) ?_)
            rintro w v w' hm ⟨o_323, cap_324, sp_325, _, rfl, hs_326, ho_327, o_328, cap_329, sp_330, _, rfl, hs_331, ho_332, rfl, hm'⟩
            refine ⟨_, hm.app hm', jkD (fun w h => h.pick [0, 1, 2, 3, 4, 6, 9, 12, 13] (by kernel_rfl) (by kernel_rfl)) ?_⟩
            clear hm hm'
            obtain ⟨t_14, ht_333, h⟩ := bd h
            refine toD 3 (by kernel_rfl) (p_call 0 21 #[(.agg #[(.slice (o_123.map fun b => ⟨b, 0, none⟩) t_8.fPins.length cap_124), (.slice (o_128.map fun b => ⟨b, 0, none⟩) t_8.fStrokes.length cap_129)]), (.agg #[(.slice (o_323.map fun b => ⟨b, 0, none⟩) t_13.fPins.length cap_324), (.slice (o_328.map fun b => ⟨b, 0, none⟩) t_13.fStrokes.length cap_329)])] (by kernel_rfl) (by kernel_rfl) (fun w hm => laws_eqWear.calls t_8 t_13 w _ (o_123.map fun b => ⟨b, 0, none⟩) t_8.fPins.length cap_124 (hm.ownRow (hh := 7) (o := o_123) (T := 164) (enc := encGWornPin) (xs := t_8.fPins) (sp := sp_125) (by kernel_rfl) (fun e => (ho_127 e).1) encGWornPin_len) rfl (o_128.map fun b => ⟨b, 0, none⟩) t_8.fStrokes.length cap_129 (hm.ownRow (hh := 8) (o := o_128) (T := 2) (enc := encI64) (xs := t_8.fStrokes) (sp := sp_130) (by kernel_rfl) (fun e => (ho_132 e).1) encI64_len) rfl (o_323.map fun b => ⟨b, 0, none⟩) t_13.fPins.length cap_324 (hm.ownRow (hh := 14) (o := o_323) (T := 164) (enc := encGWornPin) (xs := t_13.fPins) (sp := sp_325) (by kernel_rfl) (fun e => (ho_327 e).1) encGWornPin_len) rfl (o_328.map fun b => ⟨b, 0, none⟩) t_13.fStrokes.length cap_329 (hm.ownRow (hh := 15) (o := o_328) (T := 2) (enc := encI64) (xs := t_13.fStrokes) (sp := sp_330) (by kernel_rfl) (fun e => (ho_332 e).1) encI64_len) rfl ht_333) ?_)
            rintro w v w' hm ⟨rfl, hm'⟩
            refine ⟨_, hm.app hm', jkD (fun w h => h.pick [0, 1, 2, 3, 4, 6, 9, 12, 13] (by kernel_rfl) (by kernel_rfl)) ?_⟩
            clear hm hm'
            refine jd_f [⟨4, 0, 0⟩] 0 (by kernel_rfl) (by kernel_rfl) (fun w h => h.pick [0, 1, 2, 3, 4, 6, 9, 12, 13] (by kernel_rfl) (by kernel_rfl)) (by kernel_rfl) (by kernel_rfl) ?_
            refine jd_end (by kernel_rfl) ?_
            refine jx_then ?_
            refine jc_cond (!t_14) (by kernel_rfl) (fun hc_334 => ?_) (fun hc_334 => ?_)
            · replace h := ifT hc_334 h
              refine jc_seq ?_
              refine jc_region ?_
              refine jo_f [(0, 0)] (by kernel_rfl) ?_
              refine jo_end (by kernel_rfl) ?_
              refine jx_then ?_
              refine jc_ret ?_
              refine jx_thenr ?_
              obtain rfl := Option.some.inj h
              exact jx_ret [] (.bool false) [] rfl (by kernel_rfl) (by kernel_rfl) (fun w hm => ⟨rfl, hm.pick [] (by kernel_rfl) (by kernel_rfl)⟩)
            · replace h := ifF hc_334 h
              refine jc_skip ?_
              refine jx_then ?_
              refine jc_seq ?_
              refine jc_region ?_
              refine jo_f [(0, 0)] (by kernel_rfl) ?_
              refine jo_end (by kernel_rfl) ?_
              refine jx_then ?_
              refine jc_seq ?_
              refine jc_region ?_
              refine jo_f [(6, 0), (0, 0)] (by kernel_rfl) ?_
              obtain ⟨t_15, ht_335, h⟩ := bd h
              refine toO (by kernel_rfl) (p_call 0 45 #[(.agg #[(.int .i16 t_7.fSteps), (.slice (o_116.map fun b => ⟨b, 0, none⟩) t_7.fHammers.length cap_117)]), (.int .i64 1)] (by kernel_rfl) (by kernel_rfl) (fun w hm => laws_markFrame.calls t_7 1 w _ o_116 t_7.fHammers.length cap_117 sp_118 rfl hs_119 ho_120 (hm.pass (N := [⟨o_116, 178, row encGHammer t_7.fHammers sp_118⟩]) [5] (by kernel_rfl) (by kernel_rfl)) ht_335) ?_)
              rintro w v w' hm ⟨hn_336, ho_337, rfl, hm'⟩
              refine ⟨_, hm.appW (ps := [(5, ⟨o_116, 178, row encGHammer t_15.2 sp_118⟩)]) (N := []) hm' (by kernel_rfl) (by kernel_rfl), jkO ?_⟩
              clear hm hm'
              refine jo_f [(0, 0)] (by kernel_rfl) ?_
              refine jo_end (by kernel_rfl) ?_
              refine jx_then ?_
              refine jc_seq ?_
              refine jc_region ?_
              refine jo_f [(9, 0), (0, 0)] (by kernel_rfl) ?_
              obtain ⟨t_16, ht_338, h⟩ := bd h
              refine toO (by kernel_rfl) (p_call 0 51 #[(.agg #[(.slice (o_123.map fun b => ⟨b, 0, none⟩) t_8.fPins.length cap_124), (.slice (o_128.map fun b => ⟨b, 0, none⟩) t_8.fStrokes.length cap_129)]), (.int .i64 t_15.1)] (by kernel_rfl) (by kernel_rfl) (fun w hm => laws_markWear.calls t_8 t_15.1 w _ o_123 t_8.fPins.length cap_124 sp_125 rfl hs_126 ho_127 o_128 t_8.fStrokes.length cap_129 sp_130 rfl hs_131 ho_132 (hm.pass (N := [⟨o_123, 164, row encGWornPin t_8.fPins sp_125⟩, ⟨o_128, 2, row encI64 t_8.fStrokes sp_130⟩]) [7, 8] (by kernel_rfl) (by kernel_rfl)) ht_338) ?_)
              rintro w v w' hm ⟨hn_339, ho_340, hn_341, ho_342, rfl, hm'⟩
              refine ⟨_, hm.appW (ps := [(7, ⟨o_123, 164, row encGWornPin t_16.2.1 sp_125⟩), (8, ⟨o_128, 2, row encI64 t_16.2.2 sp_130⟩)]) (N := []) hm' (by kernel_rfl) (by kernel_rfl), jkO ?_⟩
              clear hm hm'
              refine jo_f [(0, 0)] (by kernel_rfl) ?_
              refine jo_end (by kernel_rfl) ?_
              refine jx_then ?_
              refine jc_seq ?_
              refine jc_seq ?_
              refine jc_meet (fun (j : Bool) => match j with | q_17 => laws_FnExactNewPin.k_18 aF0 aW1 aStep2 aTrack3 xs_3 xs_4 i_5 t_9 q_17 = some r) (fun (j : Bool) => match j with | q_17 => [(2, [], (.int .i64 aStep2)), (3, [], (.int .i64 aTrack3)), (4, [], (.pointer (some ⟨b_1, 0, none⟩))), (5, [], (.pointer (some ⟨b_2, 0, none⟩))), (8, [], (.bool false)), (10, [], (.pointer (some ⟨b_102, 0, none⟩))), (11, [], (.int .i64 i_5)), (14, [], (.pointer (some ⟨b_145, 0, none⟩))), (90, [], (.bool q_17))]) (fun (j : Bool) => match j with | q_17 => [⟨some b_1, 25, [(.int .i16 aF0.fSteps), (.slice aF0_fHammers_a aF0.fHammers.length aF0_fHammers_c)]⟩, ⟨some b_2, 29, [(.slice aW1_fPins_a aW1.fPins.length aW1_fPins_c), (.slice aW1_fStrokes_a aW1.fStrokes.length aW1_fStrokes_c)]⟩, ⟨some b_102, 42, [(.slice (o_103.map fun b => ⟨b, 0, none⟩) xs_3.length cap_104), (.slice (o_109.map fun b => ⟨b, 0, none⟩) xs_4.length cap_110)]⟩, ⟨o_103, 164, row encGWornPin xs_3 sp_105⟩, ⟨o_109, 2, row encI64 xs_4 sp_111⟩, ⟨o_116, 178, row encGHammer t_15.2 sp_118⟩, ⟨some b_121, 38, [(.int .i16 t_7.fSteps), (.slice (o_116.map fun b => ⟨b, 0, none⟩) t_7.fHammers.length cap_117)]⟩, ⟨o_123, 164, row encGWornPin t_16.2.1 sp_125⟩, ⟨o_128, 2, row encI64 t_16.2.2 sp_130⟩, ⟨some b_133, 42, [(.slice (o_123.map fun b => ⟨b, 0, none⟩) t_8.fPins.length cap_124), (.slice (o_128.map fun b => ⟨b, 0, none⟩) t_8.fStrokes.length cap_129)]⟩, ⟨o_135, 164, row encGWornPin t_9.1.fPins sp_137⟩, ⟨o_140, 2, row encI64 t_9.1.fStrokes sp_142⟩, ⟨some b_145, 42, [(.slice (o_135.map fun b => ⟨b, 0, none⟩) t_9.1.fPins.length cap_136), (.slice (o_140.map fun b => ⟨b, 0, none⟩) t_9.1.fStrokes.length cap_141)]⟩, ⟨o_175, 178, row encGHammer t_11.fHammers sp_177⟩, ⟨o_323, 164, row encGWornPin t_13.fPins sp_325⟩, ⟨o_328, 2, row encI64 t_13.fStrokes sp_330⟩]) ?_ ?_
              · refine jc_region ?_
                refine jo_f [(0, 0), (0, 0), (0, 0), (12, 1), (2, 1)] (by kernel_rfl) ?_
                refine jo_split 80 (decide (t_16.1 < 0)) (by kernel_rfl) (fun hc_570 => ?_) (fun hc_570 => ?_)
                · replace h := ifT hc_570 h
                  refine jo_f [(0, 3), (0, 3), (0, 4), (0, 0), (0, 3), (0, 3), (0, 3), (0, 4)] (by kernel_rfl) ?_
                  refine jo_end (by kernel_rfl) ?_
                  exact jx_meet true h (by kernel_rfl) [0, 1, 2, 3, 4, 5, 6, 7, 8, 9, 10, 11, 12, 13, 14, 15] (by kernel_rfl) (by kernel_rfl)
                · replace h := ifF hc_570 h
                  obtain ⟨t_30, ht_571, h⟩ := bd h
                  refine toO (by kernel_rfl) (p_call 2 21 #[(.agg #[(.slice (o_135.map fun b => ⟨b, 0, none⟩) t_9.1.fPins.length cap_136), (.slice (o_140.map fun b => ⟨b, 0, none⟩) t_9.1.fStrokes.length cap_141)]), (.agg #[(.slice (o_103.map fun b => ⟨b, 0, none⟩) xs_3.length cap_104), (.slice (o_109.map fun b => ⟨b, 0, none⟩) xs_4.length cap_110)])] (by kernel_rfl) (by kernel_rfl) (fun w hm => laws_eqWear.calls t_9.1 (⟨xs_3, xs_4⟩ : GWear) w _ (o_135.map fun b => ⟨b, 0, none⟩) t_9.1.fPins.length cap_136 (hm.ownRow (hh := 10) (o := o_135) (T := 164) (enc := encGWornPin) (xs := t_9.1.fPins) (sp := sp_137) (by kernel_rfl) (fun e => (ho_139 e).1) encGWornPin_len) rfl (o_140.map fun b => ⟨b, 0, none⟩) t_9.1.fStrokes.length cap_141 (hm.ownRow (hh := 11) (o := o_140) (T := 2) (enc := encI64) (xs := t_9.1.fStrokes) (sp := sp_142) (by kernel_rfl) (fun e => (ho_144 e).1) encI64_len) rfl (o_103.map fun b => ⟨b, 0, none⟩) xs_3.length cap_104 (hm.ownRow (hh := 3) (o := o_103) (T := 164) (enc := encGWornPin) (xs := xs_3) (sp := sp_105) (by kernel_rfl) (fun e => (ho_108 e).1) encGWornPin_len) rfl (o_109.map fun b => ⟨b, 0, none⟩) xs_4.length cap_110 (hm.ownRow (hh := 4) (o := o_109) (T := 2) (enc := encI64) (xs := xs_4) (sp := sp_111) (by kernel_rfl) (fun e => (ho_114 e).1) encI64_len) rfl ht_571) ?_)
                  rintro w v w' hm ⟨rfl, hm'⟩
                  refine ⟨_, hm.app hm', jkO ?_⟩
                  clear hm hm'
                  refine jo_f [(0, 2), (0, 5), (0, 0), (0, 1), (0, 1), (0, 1), (0, 0)] (by kernel_rfl) ?_
                  refine jo_end (by kernel_rfl) ?_
                  exact jx_meet ((!t_30) || (t_9.2 != i_5)) h (by kernel_rfl) [0, 1, 2, 3, 4, 5, 6, 7, 8, 9, 10, 11, 12, 13, 14, 15] (by kernel_rfl) (by kernel_rfl)
              · rintro q_17 h
                replace h : laws_FnExactNewPin.k_18 aF0 aW1 aStep2 aTrack3 xs_3 xs_4 i_5 t_9 q_17 = some r := h
                rw [laws_FnExactNewPin.k_18] at h
                refine jx_then ?_
                refine jc_cond q_17 (by kernel_rfl) (fun hc_350 => ?_) (fun hc_350 => ?_)
                · replace h := ifT hc_350 h
                  refine jc_seq ?_
                  refine jc_region ?_
                  refine jo_f [(0, 0)] (by kernel_rfl) ?_
                  refine jo_end (by kernel_rfl) ?_
                  refine jx_then ?_
                  refine jc_ret ?_
                  refine jx_thenr ?_
                  obtain rfl := Option.some.inj h
                  exact jx_ret [] (.bool false) [] rfl (by kernel_rfl) (by kernel_rfl) (fun w hm => ⟨rfl, hm.pick [] (by kernel_rfl) (by kernel_rfl)⟩)
                · replace h := ifF hc_350 h
                  refine jc_skip ?_
                  refine jx_then ?_
                  refine jc_seq ?_
                  refine jc_region ?_
                  refine jo_f [(0, 0)] (by kernel_rfl) ?_
                  refine jo_end (by kernel_rfl) ?_
                  refine jx_then ?_
                  refine jc_seq ?_
                  refine jc_region ?_
                  refine jo_f [(12, 0), (0, 0)] (by kernel_rfl) ?_
                  obtain ⟨t_19, ht_351, h⟩ := bd h
                  refine toO (by kernel_rfl) (p_call 0 51 #[(.agg #[(.slice (o_135.map fun b => ⟨b, 0, none⟩) t_9.1.fPins.length cap_136), (.slice (o_140.map fun b => ⟨b, 0, none⟩) t_9.1.fStrokes.length cap_141)]), (.int .i64 1)] (by kernel_rfl) (by kernel_rfl) (fun w hm => laws_markWear.calls t_9.1 1 w _ o_135 t_9.1.fPins.length cap_136 sp_137 rfl hs_138 ho_139 o_140 t_9.1.fStrokes.length cap_141 sp_142 rfl hs_143 ho_144 (hm.pass (N := [⟨o_135, 164, row encGWornPin t_9.1.fPins sp_137⟩, ⟨o_140, 2, row encI64 t_9.1.fStrokes sp_142⟩]) [10, 11] (by kernel_rfl) (by kernel_rfl)) ht_351) ?_)
                  rintro w v w' hm ⟨hn_352, ho_353, hn_354, ho_355, rfl, hm'⟩
                  refine ⟨_, hm.appW (ps := [(10, ⟨o_135, 164, row encGWornPin t_19.2.1 sp_137⟩), (11, ⟨o_140, 2, row encI64 t_19.2.2 sp_142⟩)]) (N := []) hm' (by kernel_rfl) (by kernel_rfl), jkO ?_⟩
                  clear hm hm'
                  refine jo_f [(0, 0)] (by kernel_rfl) ?_
                  refine jo_end (by kernel_rfl) ?_
                  refine jx_then ?_
                  refine jc_seq ?_
                  refine jc_region ?_
                  refine jo_f [(0, 0)] (by kernel_rfl) ?_
                  refine jo_end (by kernel_rfl) ?_
                  refine jx_then ?_
                  refine jc_seq ?_
                  refine jc_region ?_
                  refine jo_f [(12, 0), (0, 0)] (by kernel_rfl) ?_
                  obtain ⟨t_20, ht_356, h⟩ := bd h
                  refine toO (by kernel_rfl) (p_call 0 52 #[(.agg #[(.slice (o_135.map fun b => ⟨b, 0, none⟩) t_9.1.fPins.length cap_136), (.slice (o_140.map fun b => ⟨b, 0, none⟩) t_9.1.fStrokes.length cap_141)]), (.int .i64 1)] (by kernel_rfl) (by kernel_rfl) (fun w hm => laws_heldWear.calls (⟨t_19.2.1, t_19.2.2⟩ : GWear) 1 w _ (o_135.map fun b => ⟨b, 0, none⟩) t_9.1.fPins.length cap_136 (hm.ownRow (hh := 10) (o := o_135) (T := 164) (enc := encGWornPin) (xs := t_19.2.1) (sp := sp_137) (by kernel_rfl) (fun e => (ho_353 e).1) encGWornPin_len) hn_352 (o_140.map fun b => ⟨b, 0, none⟩) t_9.1.fStrokes.length cap_141 (hm.ownRow (hh := 11) (o := o_140) (T := 2) (enc := encI64) (xs := t_19.2.2) (sp := sp_142) (by kernel_rfl) (fun e => (ho_355 e).1) encI64_len) hn_354 ht_356) ?_)
                  rintro w v w' hm ⟨rfl, hm'⟩
                  refine ⟨_, hm.app hm', jkO ?_⟩
                  clear hm hm'
                  refine jo_f [(0, 0)] (by kernel_rfl) ?_
                  refine jo_end (by kernel_rfl) ?_
                  refine jx_then ?_
                  refine jc_seq ?_
                  refine jc_seq ?_
                  refine jc_region ?_
                  refine jo_f [(0, 0), (0, 0)] (by kernel_rfl) ?_
                  refine jo_end (by kernel_rfl) ?_
                  refine jx_then ?_
                  refine jc_cond (decide (t_20 < 0)) (by kernel_rfl) (fun hc_358 => ?_) (fun hc_358 => ?_)
                  · replace h := ifT hc_358 h
                    refine jc_seq ?_
                    refine jc_region ?_
                    refine jo_f [(0, 0)] (by kernel_rfl) ?_
                    refine jo_end (by kernel_rfl) ?_
                    refine jx_then ?_
                    refine jc_ret ?_
                    refine jx_thenr ?_
                    obtain rfl := Option.some.inj h
                    exact jx_ret [] (.bool false) [] rfl (by kernel_rfl) (by kernel_rfl) (fun w hm => ⟨rfl, hm.pick [] (by kernel_rfl) (by kernel_rfl)⟩)
                  · replace h := ifF hc_358 h
                    refine jc_skip ?_
                    refine jx_then ?_
                    refine jc_seq ?_
                    refine jc_seq ?_
                    refine jc_region ?_
                    refine jo_f [(0, 0), (0, 0), (0, 0)] (by kernel_rfl) ?_
                    refine jo_end (by kernel_rfl) ?_
                    refine jx_then ?_
                    refine jc_cond (t_20 != t_19.1) (by kernel_rfl) (fun hc_360 => ?_) (fun hc_360 => ?_)
                    · replace h := ifT hc_360 h
                      refine jc_seq ?_
                      refine jc_region ?_
                      refine jo_f [(0, 0)] (by kernel_rfl) ?_
                      refine jo_end (by kernel_rfl) ?_
                      refine jx_then ?_
                      refine jc_ret ?_
                      refine jx_thenr ?_
                      obtain rfl := Option.some.inj h
                      exact jx_ret [] (.bool false) [] rfl (by kernel_rfl) (by kernel_rfl) (fun w hm => ⟨rfl, hm.pick [] (by kernel_rfl) (by kernel_rfl)⟩)
                    · replace h := ifF hc_360 h
                      refine jc_skip ?_
                      refine jx_then ?_
                      refine jc_seq ?_
                      refine jc_meet (fun (j : (List GWornPin) × (List Int) × Int × Nat × (Option Nat) × Nat × (List Value) × Nat × (Option Nat) × Nat × (List Value) × Nat) => match j with | ⟨xs_21, xs_22, i_23, b_454, o_455, cap_456, sp_457, n_458, o_461, cap_462, sp_463, n_464⟩ => laws_FnExactNewPin.k_24 xs_3 xs_4 i_5 t_19 xs_21 xs_22 i_23 = some r ∧ (xs_21.length = n_458) ∧ ((o_455 ≠ none → n_458 ≤ cap_456 ∧ sp_457.length = (cap_456 - n_458) * 3)) ∧ ((o_455 = none → xs_21 = [] ∧ cap_456 = 0)) ∧ (xs_22.length = n_464) ∧ ((o_461 ≠ none → n_464 ≤ cap_462 ∧ sp_463.length = (cap_462 - n_464) * 1)) ∧ ((o_461 = none → xs_22 = [] ∧ cap_462 = 0))) (fun (j : (List GWornPin) × (List Int) × Int × Nat × (Option Nat) × Nat × (List Value) × Nat × (Option Nat) × Nat × (List Value) × Nat) => match j with | ⟨xs_21, xs_22, i_23, b_454, o_455, cap_456, sp_457, n_458, o_461, cap_462, sp_463, n_464⟩ => [(8, [], (.bool false)), (10, [], (.pointer (some ⟨b_102, 0, none⟩))), (11, [], (.int .i64 i_5)), (14, [], (.pointer (some ⟨b_145, 0, none⟩))), (17, [], (.int .i64 t_19.1)), (18, [], (.int .i64 t_20)), (19, [], (.pointer (some ⟨b_454, 0, none⟩))), (20, [], (.int .i64 i_23))]) (fun (j : (List GWornPin) × (List Int) × Int × Nat × (Option Nat) × Nat × (List Value) × Nat × (Option Nat) × Nat × (List Value) × Nat) => match j with | ⟨xs_21, xs_22, i_23, b_454, o_455, cap_456, sp_457, n_458, o_461, cap_462, sp_463, n_464⟩ => [⟨some b_1, 25, [(.int .i16 aF0.fSteps), (.slice aF0_fHammers_a aF0.fHammers.length aF0_fHammers_c)]⟩, ⟨some b_2, 29, [(.slice aW1_fPins_a aW1.fPins.length aW1_fPins_c), (.slice aW1_fStrokes_a aW1.fStrokes.length aW1_fStrokes_c)]⟩, ⟨some b_102, 42, [(.slice (o_103.map fun b => ⟨b, 0, none⟩) xs_3.length cap_104), (.slice (o_109.map fun b => ⟨b, 0, none⟩) xs_4.length cap_110)]⟩, ⟨o_103, 164, row encGWornPin xs_3 sp_105⟩, ⟨o_109, 2, row encI64 xs_4 sp_111⟩, ⟨o_116, 178, row encGHammer t_15.2 sp_118⟩, ⟨some b_121, 38, [(.int .i16 t_7.fSteps), (.slice (o_116.map fun b => ⟨b, 0, none⟩) t_7.fHammers.length cap_117)]⟩, ⟨o_123, 164, row encGWornPin t_16.2.1 sp_125⟩, ⟨o_128, 2, row encI64 t_16.2.2 sp_130⟩, ⟨some b_133, 42, [(.slice (o_123.map fun b => ⟨b, 0, none⟩) t_8.fPins.length cap_124), (.slice (o_128.map fun b => ⟨b, 0, none⟩) t_8.fStrokes.length cap_129)]⟩, ⟨o_135, 164, row encGWornPin t_19.2.1 sp_137⟩, ⟨o_140, 2, row encI64 t_19.2.2 sp_142⟩, ⟨some b_145, 42, [(.slice (o_135.map fun b => ⟨b, 0, none⟩) t_9.1.fPins.length cap_136), (.slice (o_140.map fun b => ⟨b, 0, none⟩) t_9.1.fStrokes.length cap_141)]⟩, ⟨o_175, 178, row encGHammer t_11.fHammers sp_177⟩, ⟨o_323, 164, row encGWornPin t_13.fPins sp_325⟩, ⟨o_328, 2, row encI64 t_13.fStrokes sp_330⟩, ⟨some b_454, 42, [(.slice (o_455.map fun b => ⟨b, 0, none⟩) n_458 cap_456), (.slice (o_461.map fun b => ⟨b, 0, none⟩) n_464 cap_462)]⟩, ⟨o_455, 164, row encGWornPin xs_21 sp_457⟩, ⟨o_461, 2, row encI64 xs_22 sp_463⟩]) ?_ ?_
                      · refine jc_draw [⟨some b_1, 25, [(.int .i16 aF0.fSteps), (.slice aF0_fHammers_a aF0.fHammers.length aF0_fHammers_c)]⟩, ⟨some b_2, 29, [(.slice aW1_fPins_a aW1.fPins.length aW1_fPins_c), (.slice aW1_fStrokes_a aW1.fStrokes.length aW1_fStrokes_c)]⟩, ⟨some b_102, 42, [(.slice (o_103.map fun b => ⟨b, 0, none⟩) xs_3.length cap_104), (.slice (o_109.map fun b => ⟨b, 0, none⟩) xs_4.length cap_110)]⟩, ⟨o_103, 164, row encGWornPin xs_3 sp_105⟩, ⟨o_109, 2, row encI64 xs_4 sp_111⟩, ⟨o_116, 178, row encGHammer t_15.2 sp_118⟩, ⟨some b_121, 38, [(.int .i16 t_7.fSteps), (.slice (o_116.map fun b => ⟨b, 0, none⟩) t_7.fHammers.length cap_117)]⟩, ⟨o_123, 164, row encGWornPin t_16.2.1 sp_125⟩, ⟨o_128, 2, row encI64 t_16.2.2 sp_130⟩, ⟨some b_133, 42, [(.slice (o_123.map fun b => ⟨b, 0, none⟩) t_8.fPins.length cap_124), (.slice (o_128.map fun b => ⟨b, 0, none⟩) t_8.fStrokes.length cap_129)]⟩, ⟨o_135, 164, row encGWornPin t_19.2.1 sp_137⟩, ⟨o_140, 2, row encI64 t_19.2.2 sp_142⟩, ⟨some b_145, 42, [(.slice (o_135.map fun b => ⟨b, 0, none⟩) t_9.1.fPins.length cap_136), (.slice (o_140.map fun b => ⟨b, 0, none⟩) t_9.1.fStrokes.length cap_141)]⟩, ⟨o_175, 178, row encGHammer t_11.fHammers sp_177⟩, ⟨o_323, 164, row encGWornPin t_13.fPins sp_325⟩, ⟨o_328, 2, row encI64 t_13.fStrokes sp_330⟩] 13 (by kernel_rfl) (by kernel_rfl) ?_
                        refine jd_f [⟨0, 0, 0⟩, ⟨2, 1, 0⟩, ⟨4, 0, 0⟩, ⟨5, 0, 0⟩] 9 (by kernel_rfl) (by kernel_rfl) (fun w h => h.pick [0, 1, 2, 3, 4, 5, 6, 7, 8, 9, 10, 11, 12, 13, 14, 15] (by kernel_rfl) (by kernel_rfl)) (by kernel_rfl) (by kernel_rfl) ?_
                        refine toD2 1 10 (by kernel_rfl) ?_ ?_
                        · obtain ⟨t_27, ht_477, h⟩ := bd h
                          refine p_call 0 16 #[(.agg #[(.int .i16 aF0.fSteps), (.slice aF0_fHammers_a aF0.fHammers.length aF0_fHammers_c)])] (by kernel_rfl) (by kernel_rfl) (fun w hm => laws_toFrame.calls aF0 w _ aF0_fHammers_a aF0.fHammers.length aF0_fHammers_c (hm.exRow aF0_fHammers_h List.not_mem_nil) rfl ht_477) ?_
                          rintro w v w' hm ⟨o_478, cap_479, sp_480, _, rfl, hs_481, ho_482, rfl, hm'⟩
                          refine ⟨_, hm.app hm', jkD (fun w h => h.pick [0, 1, 2, 3, 4, 5, 6, 7, 8, 9, 10, 11, 12, 13, 14, 15] (by kernel_rfl) (by kernel_rfl)) ?_⟩
                          clear hm hm'
                          refine toD2 3 10 (by kernel_rfl) ?_ ?_
                          · obtain ⟨t_28, ht_483, h⟩ := bd h
                            refine p_call 0 17 #[(.agg #[(.slice aW1_fPins_a aW1.fPins.length aW1_fPins_c), (.slice aW1_fStrokes_a aW1.fStrokes.length aW1_fStrokes_c)])] (by kernel_rfl) (by kernel_rfl) (fun w hm => laws_toWear.calls aW1 w _ aW1_fPins_a aW1.fPins.length aW1_fPins_c (hm.exRow aW1_fPins_h List.not_mem_nil) rfl aW1_fStrokes_a aW1.fStrokes.length aW1_fStrokes_c (hm.exRow aW1_fStrokes_h List.not_mem_nil) rfl ht_483) ?_
                            rintro w v w' hm ⟨o_484, cap_485, sp_486, _, rfl, hs_487, ho_488, o_489, cap_490, sp_491, _, rfl, hs_492, ho_493, rfl, hm'⟩
                            refine ⟨_, hm.app hm', jkD (fun w h => h.pick [0, 1, 2, 3, 4, 5, 6, 7, 8, 9, 10, 11, 12, 13, 14, 15] (by kernel_rfl) (by kernel_rfl)) ?_⟩
                            clear hm hm'
                            refine toD2 6 10 (by kernel_rfl) ?_ ?_
                            · obtain ⟨t_29, ht_494, h⟩ := bd h
                              refine p_call 0 50 #[(.agg #[(.int .i16 t_27.fSteps), (.slice (o_478.map fun b => ⟨b, 0, none⟩) t_27.fHammers.length cap_479)]), (.agg #[(.slice (o_484.map fun b => ⟨b, 0, none⟩) t_28.fPins.length cap_485), (.slice (o_489.map fun b => ⟨b, 0, none⟩) t_28.fStrokes.length cap_490)]), (.int .i64 aStep2), (.int .i64 aTrack3)] (by kernel_rfl) (by kernel_rfl) (fun w hm => impl_NewPin.calls t_27 t_28 aStep2 aTrack3 w _ (o_478.map fun b => ⟨b, 0, none⟩) t_27.fHammers.length cap_479 (hm.ownRow (hh := 16) (o := o_478) (T := 178) (enc := encGHammer) (xs := t_27.fHammers) (sp := sp_480) (by kernel_rfl) (fun e => (ho_482 e).1) encGHammer_len) rfl (o_484.map fun b => ⟨b, 0, none⟩) t_28.fPins.length cap_485 (hm.ownRow (hh := 17) (o := o_484) (T := 164) (enc := encGWornPin) (xs := t_28.fPins) (sp := sp_486) (by kernel_rfl) (fun e => (ho_488 e).1) encGWornPin_len) rfl (o_489.map fun b => ⟨b, 0, none⟩) t_28.fStrokes.length cap_490 (hm.ownRow (hh := 18) (o := o_489) (T := 2) (enc := encI64) (xs := t_28.fStrokes) (sp := sp_491) (by kernel_rfl) (fun e => (ho_493 e).1) encI64_len) rfl ht_494) ?_
                              rintro w v w' hm ⟨o_495, cap_496, sp_497, _, rfl, hs_498, ho_499, o_500, cap_501, sp_502, _, rfl, hs_503, ho_504, rfl, hm'⟩
                              refine ⟨_, hm.app hm', jkD (fun w h => h.pick [0, 1, 2, 3, 4, 5, 6, 7, 8, 9, 10, 11, 12, 13, 14, 15] (by kernel_rfl) (by kernel_rfl)) ?_⟩
                              clear hm hm'
                              refine jd_f [⟨7, 0, 0⟩, ⟨8, 0, 0⟩, ⟨9, 0, 0⟩] 3 (by kernel_rfl) (by kernel_rfl) (fun w h => h.pick [0, 1, 2, 3, 4, 5, 6, 7, 8, 9, 10, 11, 12, 13, 14, 15] (by kernel_rfl) (by kernel_rfl)) (by kernel_rfl) (by kernel_rfl) ?_
                              refine toD 10 (by kernel_rfl) (p_a 0 [0] (by kernel_rfl) (fun b => by kernel_rfl) (fun b_505 => jkD (fun w h => h.pick [0, 1, 2, 3, 4, 5, 6, 7, 8, 9, 10, 11, 12, 13, 14, 15] (by kernel_rfl) (by kernel_rfl)) ?_))
                              refine toD 11 (by kernel_rfl) (p_s 0 [21] (by kernel_rfl) (by kernel_rfl) (jkD (fun w h => h.pick [0, 1, 2, 3, 4, 5, 6, 7, 8, 9, 10, 11, 12, 13, 14, 15] (by kernel_rfl) (by kernel_rfl)) ?_))
                              refine jd_f [⟨12, 0, 0⟩] 0 (by kernel_rfl) (by kernel_rfl) (fun w h => h.pick [0, 1, 2, 3, 4, 5, 6, 7, 8, 9, 10, 11, 12, 13, 14, 15] (by kernel_rfl) (by kernel_rfl)) (by kernel_rfl) (by kernel_rfl) ?_
                              refine jd_end (by kernel_rfl) ?_
                              exact jx_meet ⟨t_29.1.fPins, t_29.1.fStrokes, t_29.2, b_505, o_495, cap_496, sp_497, t_29.1.fPins.length, o_500, cap_501, sp_502, t_29.1.fStrokes.length⟩ ⟨h, rfl, hs_498, ho_499, rfl, hs_503, ho_504⟩ (by kernel_rfl) [0, 1, 2, 3, 4, 5, 6, 7, 8, 9, 10, 11, 12, 13, 14, 15, 21, 19, 20] (by kernel_rfl) (by kernel_rfl)
                            · refine p_a 0 [0] (by kernel_rfl) (fun b => by kernel_rfl) (fun b_506 => jkD (fun w h => h.pick [0, 1, 2, 3, 4, 5, 6, 7, 8, 9, 10, 11, 12, 13, 14, 15] (by kernel_rfl) (by kernel_rfl)) ?_)
                              obtain ⟨t_29, ht_507, h⟩ := bd h
                              refine toD 6 (by kernel_rfl) (p_call 0 50 #[(.agg #[(.int .i16 t_27.fSteps), (.slice (o_478.map fun b => ⟨b, 0, none⟩) t_27.fHammers.length cap_479)]), (.agg #[(.slice (o_484.map fun b => ⟨b, 0, none⟩) t_28.fPins.length cap_485), (.slice (o_489.map fun b => ⟨b, 0, none⟩) t_28.fStrokes.length cap_490)]), (.int .i64 aStep2), (.int .i64 aTrack3)] (by kernel_rfl) (by kernel_rfl) (fun w hm => impl_NewPin.calls t_27 t_28 aStep2 aTrack3 w _ (o_478.map fun b => ⟨b, 0, none⟩) t_27.fHammers.length cap_479 (hm.ownRow (hh := 16) (o := o_478) (T := 178) (enc := encGHammer) (xs := t_27.fHammers) (sp := sp_480) (by kernel_rfl) (fun e => (ho_482 e).1) encGHammer_len) rfl (o_484.map fun b => ⟨b, 0, none⟩) t_28.fPins.length cap_485 (hm.ownRow (hh := 17) (o := o_484) (T := 164) (enc := encGWornPin) (xs := t_28.fPins) (sp := sp_486) (by kernel_rfl) (fun e => (ho_488 e).1) encGWornPin_len) rfl (o_489.map fun b => ⟨b, 0, none⟩) t_28.fStrokes.length cap_490 (hm.ownRow (hh := 18) (o := o_489) (T := 2) (enc := encI64) (xs := t_28.fStrokes) (sp := sp_491) (by kernel_rfl) (fun e => (ho_493 e).1) encI64_len) rfl ht_507) ?_)
                              rintro w v w' hm ⟨o_508, cap_509, sp_510, _, rfl, hs_511, ho_512, o_513, cap_514, sp_515, _, rfl, hs_516, ho_517, rfl, hm'⟩
                              refine ⟨_, hm.app hm', jkD (fun w h => h.pick [0, 1, 2, 3, 4, 5, 6, 7, 8, 9, 10, 11, 12, 13, 14, 15] (by kernel_rfl) (by kernel_rfl)) ?_⟩
                              clear hm hm'
                              refine jd_f [⟨7, 0, 0⟩, ⟨8, 0, 0⟩, ⟨9, 0, 0⟩] 2 (by kernel_rfl) (by kernel_rfl) (fun w h => h.pick [0, 1, 2, 3, 4, 5, 6, 7, 8, 9, 10, 11, 12, 13, 14, 15] (by kernel_rfl) (by kernel_rfl)) (by kernel_rfl) (by kernel_rfl) ?_
                              refine toD 11 (by kernel_rfl) (p_s 0 [19] (by kernel_rfl) (by kernel_rfl) (jkD (fun w h => h.pick [0, 1, 2, 3, 4, 5, 6, 7, 8, 9, 10, 11, 12, 13, 14, 15] (by kernel_rfl) (by kernel_rfl)) ?_))
                              refine jd_f [⟨12, 0, 0⟩] 0 (by kernel_rfl) (by kernel_rfl) (fun w h => h.pick [0, 1, 2, 3, 4, 5, 6, 7, 8, 9, 10, 11, 12, 13, 14, 15] (by kernel_rfl) (by kernel_rfl)) (by kernel_rfl) (by kernel_rfl) ?_
                              refine jd_end (by kernel_rfl) ?_
                              exact jx_meet ⟨t_29.1.fPins, t_29.1.fStrokes, t_29.2, b_506, o_508, cap_509, sp_510, t_29.1.fPins.length, o_513, cap_514, sp_515, t_29.1.fStrokes.length⟩ ⟨h, rfl, hs_511, ho_512, rfl, hs_516, ho_517⟩ (by kernel_rfl) [0, 1, 2, 3, 4, 5, 6, 7, 8, 9, 10, 11, 12, 13, 14, 15, 19, 20, 21] (by kernel_rfl) (by kernel_rfl)
                          · refine p_a 0 [0] (by kernel_rfl) (fun b => by kernel_rfl) (fun b_518 => jkD (fun w h => h.pick [0, 1, 2, 3, 4, 5, 6, 7, 8, 9, 10, 11, 12, 13, 14, 15] (by kernel_rfl) (by kernel_rfl)) ?_)
                            obtain ⟨t_28, ht_519, h⟩ := bd h
                            refine toD 3 (by kernel_rfl) (p_call 0 17 #[(.agg #[(.slice aW1_fPins_a aW1.fPins.length aW1_fPins_c), (.slice aW1_fStrokes_a aW1.fStrokes.length aW1_fStrokes_c)])] (by kernel_rfl) (by kernel_rfl) (fun w hm => laws_toWear.calls aW1 w _ aW1_fPins_a aW1.fPins.length aW1_fPins_c (hm.exRow aW1_fPins_h List.not_mem_nil) rfl aW1_fStrokes_a aW1.fStrokes.length aW1_fStrokes_c (hm.exRow aW1_fStrokes_h List.not_mem_nil) rfl ht_519) ?_)
                            rintro w v w' hm ⟨o_520, cap_521, sp_522, _, rfl, hs_523, ho_524, o_525, cap_526, sp_527, _, rfl, hs_528, ho_529, rfl, hm'⟩
                            refine ⟨_, hm.app hm', jkD (fun w h => h.pick [0, 1, 2, 3, 4, 5, 6, 7, 8, 9, 10, 11, 12, 13, 14, 15] (by kernel_rfl) (by kernel_rfl)) ?_⟩
                            clear hm hm'
                            obtain ⟨t_29, ht_530, h⟩ := bd h
                            refine toD 6 (by kernel_rfl) (p_call 0 50 #[(.agg #[(.int .i16 t_27.fSteps), (.slice (o_478.map fun b => ⟨b, 0, none⟩) t_27.fHammers.length cap_479)]), (.agg #[(.slice (o_520.map fun b => ⟨b, 0, none⟩) t_28.fPins.length cap_521), (.slice (o_525.map fun b => ⟨b, 0, none⟩) t_28.fStrokes.length cap_526)]), (.int .i64 aStep2), (.int .i64 aTrack3)] (by kernel_rfl) (by kernel_rfl) (fun w hm => impl_NewPin.calls t_27 t_28 aStep2 aTrack3 w _ (o_478.map fun b => ⟨b, 0, none⟩) t_27.fHammers.length cap_479 (hm.ownRow (hh := 16) (o := o_478) (T := 178) (enc := encGHammer) (xs := t_27.fHammers) (sp := sp_480) (by kernel_rfl) (fun e => (ho_482 e).1) encGHammer_len) rfl (o_520.map fun b => ⟨b, 0, none⟩) t_28.fPins.length cap_521 (hm.ownRow (hh := 18) (o := o_520) (T := 164) (enc := encGWornPin) (xs := t_28.fPins) (sp := sp_522) (by kernel_rfl) (fun e => (ho_524 e).1) encGWornPin_len) rfl (o_525.map fun b => ⟨b, 0, none⟩) t_28.fStrokes.length cap_526 (hm.ownRow (hh := 19) (o := o_525) (T := 2) (enc := encI64) (xs := t_28.fStrokes) (sp := sp_527) (by kernel_rfl) (fun e => (ho_529 e).1) encI64_len) rfl ht_530) ?_)
                            rintro w v w' hm ⟨o_531, cap_532, sp_533, _, rfl, hs_534, ho_535, o_536, cap_537, sp_538, _, rfl, hs_539, ho_540, rfl, hm'⟩
                            refine ⟨_, hm.app hm', jkD (fun w h => h.pick [0, 1, 2, 3, 4, 5, 6, 7, 8, 9, 10, 11, 12, 13, 14, 15] (by kernel_rfl) (by kernel_rfl)) ?_⟩
                            clear hm hm'
                            refine jd_f [⟨7, 0, 0⟩, ⟨8, 0, 0⟩, ⟨9, 0, 0⟩] 2 (by kernel_rfl) (by kernel_rfl) (fun w h => h.pick [0, 1, 2, 3, 4, 5, 6, 7, 8, 9, 10, 11, 12, 13, 14, 15] (by kernel_rfl) (by kernel_rfl)) (by kernel_rfl) (by kernel_rfl) ?_
                            refine toD 11 (by kernel_rfl) (p_s 0 [17] (by kernel_rfl) (by kernel_rfl) (jkD (fun w h => h.pick [0, 1, 2, 3, 4, 5, 6, 7, 8, 9, 10, 11, 12, 13, 14, 15] (by kernel_rfl) (by kernel_rfl)) ?_))
                            refine jd_f [⟨12, 0, 0⟩] 0 (by kernel_rfl) (by kernel_rfl) (fun w h => h.pick [0, 1, 2, 3, 4, 5, 6, 7, 8, 9, 10, 11, 12, 13, 14, 15] (by kernel_rfl) (by kernel_rfl)) (by kernel_rfl) (by kernel_rfl) ?_
                            refine jd_end (by kernel_rfl) ?_
                            exact jx_meet ⟨t_29.1.fPins, t_29.1.fStrokes, t_29.2, b_518, o_531, cap_532, sp_533, t_29.1.fPins.length, o_536, cap_537, sp_538, t_29.1.fStrokes.length⟩ ⟨h, rfl, hs_534, ho_535, rfl, hs_539, ho_540⟩ (by kernel_rfl) [0, 1, 2, 3, 4, 5, 6, 7, 8, 9, 10, 11, 12, 13, 14, 15, 17, 20, 21] (by kernel_rfl) (by kernel_rfl)
                        · refine p_a 0 [0] (by kernel_rfl) (fun b => by kernel_rfl) (fun b_541 => jkD (fun w h => h.pick [0, 1, 2, 3, 4, 5, 6, 7, 8, 9, 10, 11, 12, 13, 14, 15] (by kernel_rfl) (by kernel_rfl)) ?_)
                          obtain ⟨t_27, ht_542, h⟩ := bd h
                          refine toD 1 (by kernel_rfl) (p_call 0 16 #[(.agg #[(.int .i16 aF0.fSteps), (.slice aF0_fHammers_a aF0.fHammers.length aF0_fHammers_c)])] (by kernel_rfl) (by kernel_rfl) (fun w hm => laws_toFrame.calls aF0 w _ aF0_fHammers_a aF0.fHammers.length aF0_fHammers_c (hm.exRow aF0_fHammers_h List.not_mem_nil) rfl ht_542) ?_)
                          rintro w v w' hm ⟨o_543, cap_544, sp_545, _, rfl, hs_546, ho_547, rfl, hm'⟩
                          refine ⟨_, hm.app hm', jkD (fun w h => h.pick [0, 1, 2, 3, 4, 5, 6, 7, 8, 9, 10, 11, 12, 13, 14, 15] (by kernel_rfl) (by kernel_rfl)) ?_⟩
                          clear hm hm'
                          obtain ⟨t_28, ht_548, h⟩ := bd h
                          refine toD 3 (by kernel_rfl) (p_call 0 17 #[(.agg #[(.slice aW1_fPins_a aW1.fPins.length aW1_fPins_c), (.slice aW1_fStrokes_a aW1.fStrokes.length aW1_fStrokes_c)])] (by kernel_rfl) (by kernel_rfl) (fun w hm => laws_toWear.calls aW1 w _ aW1_fPins_a aW1.fPins.length aW1_fPins_c (hm.exRow aW1_fPins_h List.not_mem_nil) rfl aW1_fStrokes_a aW1.fStrokes.length aW1_fStrokes_c (hm.exRow aW1_fStrokes_h List.not_mem_nil) rfl ht_548) ?_)
                          rintro w v w' hm ⟨o_549, cap_550, sp_551, _, rfl, hs_552, ho_553, o_554, cap_555, sp_556, _, rfl, hs_557, ho_558, rfl, hm'⟩
                          refine ⟨_, hm.app hm', jkD (fun w h => h.pick [0, 1, 2, 3, 4, 5, 6, 7, 8, 9, 10, 11, 12, 13, 14, 15] (by kernel_rfl) (by kernel_rfl)) ?_⟩
                          clear hm hm'
                          obtain ⟨t_29, ht_559, h⟩ := bd h
                          refine toD 6 (by kernel_rfl) (p_call 0 50 #[(.agg #[(.int .i16 t_27.fSteps), (.slice (o_543.map fun b => ⟨b, 0, none⟩) t_27.fHammers.length cap_544)]), (.agg #[(.slice (o_549.map fun b => ⟨b, 0, none⟩) t_28.fPins.length cap_550), (.slice (o_554.map fun b => ⟨b, 0, none⟩) t_28.fStrokes.length cap_555)]), (.int .i64 aStep2), (.int .i64 aTrack3)] (by kernel_rfl) (by kernel_rfl) (fun w hm => impl_NewPin.calls t_27 t_28 aStep2 aTrack3 w _ (o_543.map fun b => ⟨b, 0, none⟩) t_27.fHammers.length cap_544 (hm.ownRow (hh := 17) (o := o_543) (T := 178) (enc := encGHammer) (xs := t_27.fHammers) (sp := sp_545) (by kernel_rfl) (fun e => (ho_547 e).1) encGHammer_len) rfl (o_549.map fun b => ⟨b, 0, none⟩) t_28.fPins.length cap_550 (hm.ownRow (hh := 18) (o := o_549) (T := 164) (enc := encGWornPin) (xs := t_28.fPins) (sp := sp_551) (by kernel_rfl) (fun e => (ho_553 e).1) encGWornPin_len) rfl (o_554.map fun b => ⟨b, 0, none⟩) t_28.fStrokes.length cap_555 (hm.ownRow (hh := 19) (o := o_554) (T := 2) (enc := encI64) (xs := t_28.fStrokes) (sp := sp_556) (by kernel_rfl) (fun e => (ho_558 e).1) encI64_len) rfl ht_559) ?_)
                          rintro w v w' hm ⟨o_560, cap_561, sp_562, _, rfl, hs_563, ho_564, o_565, cap_566, sp_567, _, rfl, hs_568, ho_569, rfl, hm'⟩
                          refine ⟨_, hm.app hm', jkD (fun w h => h.pick [0, 1, 2, 3, 4, 5, 6, 7, 8, 9, 10, 11, 12, 13, 14, 15] (by kernel_rfl) (by kernel_rfl)) ?_⟩
                          clear hm hm'
                          refine jd_f [⟨7, 0, 0⟩, ⟨8, 0, 0⟩, ⟨9, 0, 0⟩] 2 (by kernel_rfl) (by kernel_rfl) (fun w h => h.pick [0, 1, 2, 3, 4, 5, 6, 7, 8, 9, 10, 11, 12, 13, 14, 15] (by kernel_rfl) (by kernel_rfl)) (by kernel_rfl) (by kernel_rfl) ?_
                          refine toD 11 (by kernel_rfl) (p_s 0 [16] (by kernel_rfl) (by kernel_rfl) (jkD (fun w h => h.pick [0, 1, 2, 3, 4, 5, 6, 7, 8, 9, 10, 11, 12, 13, 14, 15] (by kernel_rfl) (by kernel_rfl)) ?_))
                          refine jd_f [⟨12, 0, 0⟩] 0 (by kernel_rfl) (by kernel_rfl) (fun w h => h.pick [0, 1, 2, 3, 4, 5, 6, 7, 8, 9, 10, 11, 12, 13, 14, 15] (by kernel_rfl) (by kernel_rfl)) (by kernel_rfl) (by kernel_rfl) ?_
                          refine jd_end (by kernel_rfl) ?_
                          exact jx_meet ⟨t_29.1.fPins, t_29.1.fStrokes, t_29.2, b_541, o_560, cap_561, sp_562, t_29.1.fPins.length, o_565, cap_566, sp_567, t_29.1.fStrokes.length⟩ ⟨h, rfl, hs_563, ho_564, rfl, hs_568, ho_569⟩ (by kernel_rfl) [0, 1, 2, 3, 4, 5, 6, 7, 8, 9, 10, 11, 12, 13, 14, 15, 16, 20, 21] (by kernel_rfl) (by kernel_rfl)
                      · rintro ⟨xs_21, xs_22, i_23, b_454, o_455, cap_456, sp_457, n_458, o_461, cap_462, sp_463, n_464⟩ ⟨h, rfl, hs_459, ho_460, rfl, hs_465, ho_466⟩
                        replace h : laws_FnExactNewPin.k_24 xs_3 xs_4 i_5 t_19 xs_21 xs_22 i_23 = some r := h
                        rw [laws_FnExactNewPin.k_24] at h
                        refine jx_then ?_
                        refine jc_seq ?_
                        refine jc_seq ?_
                        refine jc_region ?_
                        refine jo_f [(16, 0), (2, 0)] (by kernel_rfl) ?_
                        obtain ⟨t_25, ht_471, h⟩ := bd h
                        refine toO (by kernel_rfl) (p_call 0 21 #[(.agg #[(.slice (o_455.map fun b => ⟨b, 0, none⟩) xs_21.length cap_456), (.slice (o_461.map fun b => ⟨b, 0, none⟩) xs_22.length cap_462)]), (.agg #[(.slice (o_103.map fun b => ⟨b, 0, none⟩) xs_3.length cap_104), (.slice (o_109.map fun b => ⟨b, 0, none⟩) xs_4.length cap_110)])] (by kernel_rfl) (by kernel_rfl) (fun w hm => laws_eqWear.calls (⟨xs_21, xs_22⟩ : GWear) (⟨xs_3, xs_4⟩ : GWear) w _ (o_455.map fun b => ⟨b, 0, none⟩) xs_21.length cap_456 (hm.ownRow (hh := 17) (o := o_455) (T := 164) (enc := encGWornPin) (xs := xs_21) (sp := sp_457) (by kernel_rfl) (fun e => (ho_460 e).1) encGWornPin_len) rfl (o_461.map fun b => ⟨b, 0, none⟩) xs_22.length cap_462 (hm.ownRow (hh := 18) (o := o_461) (T := 2) (enc := encI64) (xs := xs_22) (sp := sp_463) (by kernel_rfl) (fun e => (ho_466 e).1) encI64_len) rfl (o_103.map fun b => ⟨b, 0, none⟩) xs_3.length cap_104 (hm.ownRow (hh := 3) (o := o_103) (T := 164) (enc := encGWornPin) (xs := xs_3) (sp := sp_105) (by kernel_rfl) (fun e => (ho_108 e).1) encGWornPin_len) rfl (o_109.map fun b => ⟨b, 0, none⟩) xs_4.length cap_110 (hm.ownRow (hh := 4) (o := o_109) (T := 2) (enc := encI64) (xs := xs_4) (sp := sp_111) (by kernel_rfl) (fun e => (ho_114 e).1) encI64_len) rfl ht_471) ?_)
                        rintro w v w' hm ⟨rfl, hm'⟩
                        refine ⟨_, hm.app hm', jkO ?_⟩
                        clear hm hm'
                        refine jo_f [(0, 0), (0, 0), (0, 1), (0, 1), (0, 1), (0, 0)] (by kernel_rfl) ?_
                        refine jo_end (by kernel_rfl) ?_
                        refine jx_then ?_
                        refine jc_cond ((!t_25) || (i_23 != i_5)) (by kernel_rfl) (fun hc_472 => ?_) (fun hc_472 => ?_)
                        · replace h := ifT hc_472 h
                          refine jc_seq ?_
                          refine jc_region ?_
                          refine jo_f [(0, 0)] (by kernel_rfl) ?_
                          refine jo_end (by kernel_rfl) ?_
                          refine jx_then ?_
                          refine jc_ret ?_
                          refine jx_thenr ?_
                          obtain rfl := Option.some.inj h
                          exact jx_ret [] (.bool false) [] rfl (by kernel_rfl) (by kernel_rfl) (fun w hm => ⟨rfl, hm.pick [] (by kernel_rfl) (by kernel_rfl)⟩)
                        · replace h := ifF hc_472 h
                          refine jc_skip ?_
                          refine jx_then ?_
                          refine jc_seq ?_
                          refine jc_region ?_
                          refine jo_f [(0, 0)] (by kernel_rfl) ?_
                          refine jo_end (by kernel_rfl) ?_
                          refine jx_then ?_
                          refine jc_seq ?_
                          refine jc_region ?_
                          refine jo_f [(12, 0), (0, 0)] (by kernel_rfl) ?_
                          obtain ⟨t_26, ht_473, h⟩ := bd h
                          refine toO (by kernel_rfl) (p_call 0 52 #[(.agg #[(.slice (o_135.map fun b => ⟨b, 0, none⟩) t_9.1.fPins.length cap_136), (.slice (o_140.map fun b => ⟨b, 0, none⟩) t_9.1.fStrokes.length cap_141)]), (.int .i64 1)] (by kernel_rfl) (by kernel_rfl) (fun w hm => laws_heldWear.calls (⟨t_19.2.1, t_19.2.2⟩ : GWear) 1 w _ (o_135.map fun b => ⟨b, 0, none⟩) t_9.1.fPins.length cap_136 (hm.ownRow (hh := 10) (o := o_135) (T := 164) (enc := encGWornPin) (xs := t_19.2.1) (sp := sp_137) (by kernel_rfl) (fun e => (ho_353 e).1) encGWornPin_len) hn_352 (o_140.map fun b => ⟨b, 0, none⟩) t_9.1.fStrokes.length cap_141 (hm.ownRow (hh := 11) (o := o_140) (T := 2) (enc := encI64) (xs := t_19.2.2) (sp := sp_142) (by kernel_rfl) (fun e => (ho_355 e).1) encI64_len) hn_354 ht_473) ?_)
                          rintro w v w' hm ⟨rfl, hm'⟩
                          refine ⟨_, hm.app hm', jkO ?_⟩
                          clear hm hm'
                          refine jo_f [(0, 0)] (by kernel_rfl) ?_
                          refine jo_end (by kernel_rfl) ?_
                          refine jx_then ?_
                          refine jc_seq ?_
                          refine jc_seq ?_
                          refine jc_region ?_
                          refine jo_f [(0, 0), (0, 0)] (by kernel_rfl) ?_
                          refine jo_end (by kernel_rfl) ?_
                          refine jx_then ?_
                          refine jc_cond (decide (t_26 < 0)) (by kernel_rfl) (fun hc_475 => ?_) (fun hc_475 => ?_)
                          · replace h := ifT hc_475 h
                            refine jc_seq ?_
                            refine jc_region ?_
                            refine jo_f [(0, 0)] (by kernel_rfl) ?_
                            refine jo_end (by kernel_rfl) ?_
                            refine jx_then ?_
                            refine jc_ret ?_
                            refine jx_thenr ?_
                            obtain rfl := Option.some.inj h
                            exact jx_ret [] (.bool false) [] rfl (by kernel_rfl) (by kernel_rfl) (fun w hm => ⟨rfl, hm.pick [] (by kernel_rfl) (by kernel_rfl)⟩)
                          · replace h := ifF hc_475 h
                            refine jc_skip ?_
                            refine jx_then ?_
                            refine jc_seq ?_
                            refine jc_seq ?_
                            refine jc_region ?_
                            refine jo_f [(0, 0), (0, 0), (0, 0)] (by kernel_rfl) ?_
                            refine jo_end (by kernel_rfl) ?_
                            refine jx_then ?_
                            refine jc_cond (t_26 != t_19.1) (by kernel_rfl) (fun hc_476 => ?_) (fun hc_476 => ?_)
                            · replace h := ifT hc_476 h
                              refine jc_seq ?_
                              refine jc_region ?_
                              refine jo_f [(0, 0)] (by kernel_rfl) ?_
                              refine jo_end (by kernel_rfl) ?_
                              refine jx_then ?_
                              refine jc_ret ?_
                              refine jx_thenr ?_
                              obtain rfl := Option.some.inj h
                              exact jx_ret [] (.bool false) [] rfl (by kernel_rfl) (by kernel_rfl) (fun w hm => ⟨rfl, hm.pick [] (by kernel_rfl) (by kernel_rfl)⟩)
                            · replace h := ifF hc_476 h
                              refine jc_skip ?_
                              refine jx_then ?_
                              refine jc_seq ?_
                              refine jc_region ?_
                              refine jo_f [(0, 0)] (by kernel_rfl) ?_
                              refine jo_end (by kernel_rfl) ?_
                              refine jx_then ?_
                              refine jc_ret ?_
                              obtain rfl := Option.some.inj h
                              exact jx_ret [] (.bool true) [] rfl (by kernel_rfl) (by kernel_rfl) (fun w hm => ⟨rfl, hm.pick [] (by kernel_rfl) (by kernel_rfl)⟩)
end Go.Proofs.Ytilackblefjgdaa
