/- Functions of the program that the laws reach: a plain function each, and that the call comes to its answer if the plain function has one. Printed by a program. -/
import Derived.Test.YtfkjghkjimcmdaaGreatT
import Derived.Test.YtfkjghkjimcmdaaGreatM0
namespace Go.Proofs.YtfkjghkjimcmdaaGreat
open Eng
set_option linter.unusedVariables false

/-! ### spec.MovePin -/
noncomputable def spec_MovePin.k_6 (w1 : GWear) (toStep4 : Int) (toTrack5 : Int) (t_4 : Int) (q_5 : Bool) : Option (GWear × Int) := (if q_5 = true then some ((⟨[], []⟩ : GWear), 4) else (spec_l06Copy w1).bind fun t_7 => (if 0 ≤ t_4 ∧ t_4 ≤ (t_7.fPins.length : Int) then (if 0 ≤ (w64 (t_4 + 1)) ∧ (w64 (t_4 + 1)) ≤ (t_7.fPins.length : Int) then (if ([] : List GWornPin).length + (t_7.fPins.take t_4.toNat).length ≤ 4294967296 then (if (([] : List GWornPin) ++ (t_7.fPins.take t_4.toNat)).length + (t_7.fPins.drop (w64 (t_4 + 1)).toNat).length ≤ 4294967296 then (ix w1.fPins t_4).bind fun x_8 => (spec_l06Put ((([] : List GWornPin) ++ (t_7.fPins.take t_4.toNat)) ++ (t_7.fPins.drop (w64 (t_4 + 1)).toNat)) (⟨(w8 toStep4), (w8 toTrack5), x_8.fTurns⟩ : GWornPin)).bind fun t_9 => some ((⟨t_9, t_7.fStrokes⟩ : GWear), 0) else none) else none) else none) else none))
noncomputable def spec_MovePin.k_3 (w1 : GWear) (step2 : Int) (track3 : Int) (toStep4 : Int) (toTrack5 : Int) (q_2 : Bool) : Option (GWear × Int) := (if q_2 = true then some ((⟨[], []⟩ : GWear), 2) else (spec_l06Find w1 step2 track3).bind fun t_4 => (if (decide (t_4 < 0)) = true then spec_MovePin.k_6 w1 toStep4 toTrack5 t_4 true else (spec_l06Find w1 toStep4 toTrack5).bind fun t_10 => spec_MovePin.k_6 w1 toStep4 toTrack5 t_4 (decide (t_10 ≥ 0))))
noncomputable def spec_MovePin (f0 : GFrame) (w1 : GWear) (step2 : Int) (track3 : Int) (toStep4 : Int) (toTrack5 : Int) : Option (GWear × Int) := (spec_l06Ok f0 w1).bind fun t_1 => (if (!t_1) = true then some ((⟨[], []⟩ : GWear), 1) else (spec_l06Place f0 step2 track3).bind fun t_11 => (if (!t_11) = true then spec_MovePin.k_3 w1 step2 track3 toStep4 toTrack5 true else (spec_l06Place f0 toStep4 toTrack5).bind fun t_12 => spec_MovePin.k_3 w1 step2 track3 toStep4 toTrack5 (!t_12)))
set_option maxRecDepth 100000 in
theorem spec_MovePin.calls (f0 : GFrame) (w1 : GWear) (step2 : Int) (track3 : Int) (toStep4 : Int) (toTrack5 : Int) (w : World) (r : GWear × Int) (f0_fHammers_a : Option Addr) (f0_fHammers_an : Nat) (f0_fHammers_c : Nat) (f0_fHammers_h : Rw w f0_fHammers_a 2 encGHammer f0.fHammers) (f0_fHammers_hn : f0.fHammers.length = f0_fHammers_an) (w1_fPins_a : Option Addr) (w1_fPins_an : Nat) (w1_fPins_c : Nat) (w1_fPins_h : Rw w w1_fPins_a 3 encGWornPin w1.fPins) (w1_fPins_hn : w1.fPins.length = w1_fPins_an) (w1_fStrokes_a : Option Addr) (w1_fStrokes_an : Nat) (w1_fStrokes_c : Nat) (w1_fStrokes_h : Rw w w1_fStrokes_a 1 encI64 w1.fStrokes) (w1_fStrokes_hn : w1.fStrokes.length = w1_fStrokes_an) (h : spec_MovePin f0 w1 step2 track3 toStep4 toTrack5 = some r) :
    Calls Tryz.prog 121 #[(.agg #[(.int .i16 f0.fSteps), (.slice f0_fHammers_a f0_fHammers_an f0_fHammers_c)]), (.agg #[(.slice w1_fPins_a w1_fPins_an w1_fPins_c), (.slice w1_fStrokes_a w1_fStrokes_an w1_fStrokes_c)]), (.int .i64 step2), (.int .i64 track3), (.int .i64 toStep4), (.int .i64 toTrack5)] w fun e w' => ∃ v, e = .returned v ∧ (∃ (o0 : Option Nat) (c0 : Nat) (s0 : List Value) (n0 : Nat), r.1.fPins.length = n0 ∧ (o0 ≠ none → n0 ≤ c0 ∧ s0.length = (c0 - n0) * 3) ∧ (o0 = none → r.1.fPins = [] ∧ c0 = 0) ∧ ∃ (o1 : Option Nat) (c1 : Nat) (s1 : List Value) (n1 : Nat), r.1.fStrokes.length = n1 ∧ (o1 ≠ none → n1 ≤ c1 ∧ s1.length = (c1 - n1) * 1) ∧ (o1 = none → r.1.fStrokes = [] ∧ c1 = 0) ∧ v = .tuple #[.agg #[.slice (o0.map fun b => ⟨b, 0, none⟩) n0 c0, .slice (o1.map fun b => ⟨b, 0, none⟩) n1 c1], (.int .i64 r.2)] ∧ Mem w [] [⟨o0, 75, row encGWornPin r.1.fPins s0⟩, ⟨o1, 2, row encI64 r.1.fStrokes s1⟩] w') := by
  subst f0_fHammers_hn w1_fPins_hn w1_fStrokes_hn
  rw [spec_MovePin] at h
  refine enter (args := [(.agg #[(.int .i16 f0.fSteps), (.slice f0_fHammers_a f0.fHammers.length f0_fHammers_c)]), (.agg #[(.slice w1_fPins_a w1.fPins.length w1_fPins_c), (.slice w1_fStrokes_a w1.fStrokes.length w1_fStrokes_c)]), (.int .i64 step2), (.int .i64 track3), (.int .i64 toStep4), (.int .i64 toTrack5)]) Tryz.func121 rfl Tryz.ntmps121 (by kernel_rfl) (L := []) (W := []) (Mem.start w) ?_
  refine jc_seq ?_
  refine jc_region ?_
  refine toO (by kernel_rfl) (p_a 0 [0] (by kernel_rfl) (fun b => by kernel_rfl) (fun b_1 => jkO ?_))
  refine toO (by kernel_rfl) (p_a 0 [0] (by kernel_rfl) (fun b => by kernel_rfl) (fun b_2 => jkO ?_))
  refine toO (by kernel_rfl) (p_a 0 [0] (by kernel_rfl) (fun b => by kernel_rfl) (fun b_3 => jkO ?_))
  refine jo_f [(0, 0)] (by kernel_rfl) ?_
  refine jo_end (by kernel_rfl) ?_
  refine jx_then ?_
  refine jc_seq ?_
  refine jc_seq ?_
  refine jc_region ?_
  obtain ⟨t_1, ht_6, h⟩ := bd h
  refine toO (by kernel_rfl) (p_call 0 75 #[(.pointer (some ⟨b_1, 0, none⟩)), (.pointer (some ⟨b_2, 0, none⟩))] (by kernel_rfl) (by kernel_rfl) (fun w hm => spec_l06Ok.calls f0 w1 w _ f0_fHammers_a f0.fHammers.length f0_fHammers_c (hm.exRow f0_fHammers_h List.not_mem_nil) rfl w1_fPins_a w1.fPins.length w1_fPins_c (hm.exRow w1_fPins_h List.not_mem_nil) rfl w1_fStrokes_a w1.fStrokes.length w1_fStrokes_c (hm.exRow w1_fStrokes_h List.not_mem_nil) rfl b_1 b_2 (hm.pass (N := [⟨some b_1, 43, [(.int .i16 f0.fSteps), (.slice f0_fHammers_a f0.fHammers.length f0_fHammers_c)]⟩, ⟨some b_2, 38, [(.slice w1_fPins_a w1.fPins.length w1_fPins_c), (.slice w1_fStrokes_a w1.fStrokes.length w1_fStrokes_c)]⟩]) [0, 1] (by kernel_rfl) (by kernel_rfl)) (hm.exApart (N := [⟨some b_1, 43, [(.int .i16 f0.fSteps), (.slice f0_fHammers_a f0.fHammers.length f0_fHammers_c)]⟩, ⟨some b_2, 38, [(.slice w1_fPins_a w1.fPins.length w1_fPins_c), (.slice w1_fStrokes_a w1.fStrokes.length w1_fStrokes_c)]⟩]) f0_fHammers_h (fun _ => List.not_mem_nil) [0, 1] (by kernel_rfl)) (hm.exApart (N := [⟨some b_1, 43, [(.int .i16 f0.fSteps), (.slice f0_fHammers_a f0.fHammers.length f0_fHammers_c)]⟩, ⟨some b_2, 38, [(.slice w1_fPins_a w1.fPins.length w1_fPins_c), (.slice w1_fStrokes_a w1.fStrokes.length w1_fStrokes_c)]⟩]) w1_fPins_h (fun _ => List.not_mem_nil) [0, 1] (by kernel_rfl)) (hm.exApart (N := [⟨some b_1, 43, [(.int .i16 f0.fSteps), (.slice f0_fHammers_a f0.fHammers.length f0_fHammers_c)]⟩, ⟨some b_2, 38, [(.slice w1_fPins_a w1.fPins.length w1_fPins_c), (.slice w1_fStrokes_a w1.fStrokes.length w1_fStrokes_c)]⟩]) w1_fStrokes_h (fun _ => List.not_mem_nil) [0, 1] (by kernel_rfl)) ht_6) ?_)
  rintro w v w' hm ⟨rfl, hm'⟩
  refine ⟨_, hm.appW (ps := [(0, ⟨some b_1, 43, [(.int .i16 f0.fSteps), (.slice f0_fHammers_a f0.fHammers.length f0_fHammers_c)]⟩), (1, ⟨some b_2, 38, [(.slice w1_fPins_a w1.fPins.length w1_fPins_c), (.slice w1_fStrokes_a w1.fStrokes.length w1_fStrokes_c)]⟩)]) (N := []) hm' (by kernel_rfl) (by kernel_rfl), jkO ?_⟩
  clear hm hm'
  refine jo_f [(0, 0)] (by kernel_rfl) ?_
  refine jo_end (by kernel_rfl) ?_
  refine jx_then ?_
  refine jc_cond (!t_1) (by kernel_rfl) (fun hc_7 => ?_) (fun hc_7 => ?_)
  · replace h := ifT hc_7 h
    refine jc_seq ?_
    refine jc_region ?_
    refine jo_f [(0, 0)] (by kernel_rfl) ?_
    refine toO (by kernel_rfl) (p_s 0 [2] (by kernel_rfl) (by kernel_rfl) (jkO ?_))
    refine jo_f [(0, 0)] (by kernel_rfl) ?_
    refine jo_end (by kernel_rfl) ?_
    refine jx_then ?_
    refine jc_ret ?_
    refine jx_thenr ?_
    obtain rfl := Option.some.inj h
    refine jx_ghost 75 encGWornPin ?_
    refine jx_ghost 2 encI64 ?_
    exact jx_ret [2] (.tuple #[(.agg #[(.slice none 0 0), (.slice none 0 0)]), (.int .i64 1)]) [(b_3, b_3), (b_3, b_3)] rfl (by kernel_rfl) (by kernel_rfl) (fun w hm => ⟨none, 0, [], 0, rfl, (fun e => absurd rfl e), (fun _ => ⟨rfl, rfl⟩), none, 0, [], 0, rfl, (fun e => absurd rfl e), (fun _ => ⟨rfl, rfl⟩), rfl, hm.pick [3, 4] (by kernel_rfl) (by kernel_rfl)⟩)
  · replace h := ifF hc_7 h
    refine jc_skip ?_
    refine jx_then ?_
    refine jc_seq ?_
    refine jc_seq ?_
    refine jc_meet (fun (j : Bool) => match j with | q_2 => spec_MovePin.k_3 w1 step2 track3 toStep4 toTrack5 q_2 = some r) (fun (j : Bool) => match j with | q_2 => [(2, [], (.int .i64 step2)), (3, [], (.int .i64 track3)), (4, [], (.int .i64 toStep4)), (5, [], (.int .i64 toTrack5)), (7, [], (.pointer (some ⟨b_2, 0, none⟩))), (12, [], (.pointer (some ⟨b_3, 0, none⟩))), (13, [], (.int .i64 0)), (29, [], (.bool q_2))]) (fun (j : Bool) => match j with | q_2 => [⟨some b_1, 43, [(.int .i16 f0.fSteps), (.slice f0_fHammers_a f0.fHammers.length f0_fHammers_c)]⟩, ⟨some b_2, 38, [(.slice w1_fPins_a w1.fPins.length w1_fPins_c), (.slice w1_fStrokes_a w1.fStrokes.length w1_fStrokes_c)]⟩, ⟨some b_3, 38, [(.slice none 0 0), (.slice none 0 0)]⟩]) ?_ ?_
    · refine jc_region ?_
      refine jo_f [(0, 0), (0, 0)] (by kernel_rfl) ?_
      obtain ⟨t_11, ht_64, h⟩ := bd h
      refine toO (by kernel_rfl) (p_call 0 107 #[(.pointer (some ⟨b_1, 0, none⟩)), (.int .i64 step2), (.int .i64 track3)] (by kernel_rfl) (by kernel_rfl) (fun w hm => spec_l06Place.calls f0 step2 track3 w _ f0_fHammers_a f0.fHammers.length f0_fHammers_c (hm.exRow f0_fHammers_h List.not_mem_nil) rfl b_1 (hm.pass (N := [⟨some b_1, 43, [(.int .i16 f0.fSteps), (.slice f0_fHammers_a f0.fHammers.length f0_fHammers_c)]⟩]) [0] (by kernel_rfl) (by kernel_rfl)) (hm.exApart (N := [⟨some b_1, 43, [(.int .i16 f0.fSteps), (.slice f0_fHammers_a f0.fHammers.length f0_fHammers_c)]⟩]) f0_fHammers_h (fun _ => List.not_mem_nil) [0] (by kernel_rfl)) ht_64) ?_)
      rintro w v w' hm ⟨rfl, hm'⟩
      refine ⟨_, hm.appW (ps := [(0, ⟨some b_1, 43, [(.int .i16 f0.fSteps), (.slice f0_fHammers_a f0.fHammers.length f0_fHammers_c)]⟩)]) (N := []) hm' (by kernel_rfl) (by kernel_rfl), jkO ?_⟩
      clear hm hm'
      refine jo_f [(0, 0), (0, 0), (0, 1), (0, 1)] (by kernel_rfl) ?_
      refine jo_split 24 (!t_11) (by kernel_rfl) (fun hc_65 => ?_) (fun hc_65 => ?_)
      · replace h := ifT hc_65 h
        refine jo_f [(0, 3), (0, 3), (0, 4)] (by kernel_rfl) ?_
        refine jo_end (by kernel_rfl) ?_
        exact jx_meet true h (by kernel_rfl) [0, 1, 2] (by kernel_rfl) (by kernel_rfl)
      · replace h := ifF hc_65 h
        obtain ⟨t_12, ht_66, h⟩ := bd h
        refine toO (by kernel_rfl) (p_call 2 107 #[(.pointer (some ⟨b_1, 0, none⟩)), (.int .i64 toStep4), (.int .i64 toTrack5)] (by kernel_rfl) (by kernel_rfl) (fun w hm => spec_l06Place.calls f0 toStep4 toTrack5 w _ f0_fHammers_a f0.fHammers.length f0_fHammers_c (hm.exRow f0_fHammers_h List.not_mem_nil) rfl b_1 (hm.pass (N := [⟨some b_1, 43, [(.int .i16 f0.fSteps), (.slice f0_fHammers_a f0.fHammers.length f0_fHammers_c)]⟩]) [0] (by kernel_rfl) (by kernel_rfl)) (hm.exApart (N := [⟨some b_1, 43, [(.int .i16 f0.fSteps), (.slice f0_fHammers_a f0.fHammers.length f0_fHammers_c)]⟩]) f0_fHammers_h (fun _ => List.not_mem_nil) [0] (by kernel_rfl)) ht_66) ?_)
        rintro w v w' hm ⟨rfl, hm'⟩
        refine ⟨_, hm.appW (ps := [(0, ⟨some b_1, 43, [(.int .i16 f0.fSteps), (.slice f0_fHammers_a f0.fHammers.length f0_fHammers_c)]⟩)]) (N := []) hm' (by kernel_rfl) (by kernel_rfl), jkO ?_⟩
        clear hm hm'
        refine jo_f [(0, 2), (0, 5)] (by kernel_rfl) ?_
        refine jo_end (by kernel_rfl) ?_
        exact jx_meet (!t_12) h (by kernel_rfl) [0, 1, 2] (by kernel_rfl) (by kernel_rfl)
    · rintro q_2 h
      replace h : spec_MovePin.k_3 w1 step2 track3 toStep4 toTrack5 q_2 = some r := h
      rw [spec_MovePin.k_3] at h
      refine jx_then ?_
      refine jc_cond q_2 (by kernel_rfl) (fun hc_18 => ?_) (fun hc_18 => ?_)
      · replace h := ifT hc_18 h
        refine jc_seq ?_
        refine jc_region ?_
        refine jo_f [(0, 0)] (by kernel_rfl) ?_
        refine toO (by kernel_rfl) (p_s 0 [2] (by kernel_rfl) (by kernel_rfl) (jkO ?_))
        refine jo_f [(0, 0)] (by kernel_rfl) ?_
        refine jo_end (by kernel_rfl) ?_
        refine jx_then ?_
        refine jc_ret ?_
        refine jx_thenr ?_
        obtain rfl := Option.some.inj h
        refine jx_ghost 75 encGWornPin ?_
        refine jx_ghost 2 encI64 ?_
        exact jx_ret [2] (.tuple #[(.agg #[(.slice none 0 0), (.slice none 0 0)]), (.int .i64 2)]) [(b_3, b_3), (b_3, b_3)] rfl (by kernel_rfl) (by kernel_rfl) (fun w hm => ⟨none, 0, [], 0, rfl, (fun e => absurd rfl e), (fun _ => ⟨rfl, rfl⟩), none, 0, [], 0, rfl, (fun e => absurd rfl e), (fun _ => ⟨rfl, rfl⟩), rfl, hm.pick [3, 4] (by kernel_rfl) (by kernel_rfl)⟩)
      · replace h := ifF hc_18 h
        refine jc_skip ?_
        refine jx_then ?_
        refine jc_seq ?_
        refine jc_region ?_
        refine jo_f [(0, 0), (0, 0)] (by kernel_rfl) ?_
        obtain ⟨t_4, ht_19, h⟩ := bd h
        refine toO (by kernel_rfl) (p_call 0 142 #[(.pointer (some ⟨b_2, 0, none⟩)), (.int .i64 step2), (.int .i64 track3)] (by kernel_rfl) (by kernel_rfl) (fun w hm => spec_l06Find.calls w1 step2 track3 w _ w1_fPins_a w1.fPins.length w1_fPins_c (hm.exRow w1_fPins_h List.not_mem_nil) rfl w1_fStrokes_a w1.fStrokes.length w1_fStrokes_c (hm.exRow w1_fStrokes_h List.not_mem_nil) rfl b_2 (hm.pass (N := [⟨some b_2, 38, [(.slice w1_fPins_a w1.fPins.length w1_fPins_c), (.slice w1_fStrokes_a w1.fStrokes.length w1_fStrokes_c)]⟩]) [1] (by kernel_rfl) (by kernel_rfl)) (hm.exApart (N := [⟨some b_2, 38, [(.slice w1_fPins_a w1.fPins.length w1_fPins_c), (.slice w1_fStrokes_a w1.fStrokes.length w1_fStrokes_c)]⟩]) w1_fPins_h (fun _ => List.not_mem_nil) [1] (by kernel_rfl)) (hm.exApart (N := [⟨some b_2, 38, [(.slice w1_fPins_a w1.fPins.length w1_fPins_c), (.slice w1_fStrokes_a w1.fStrokes.length w1_fStrokes_c)]⟩]) w1_fStrokes_h (fun _ => List.not_mem_nil) [1] (by kernel_rfl)) ht_19) ?_)
        rintro w v w' hm ⟨rfl, hm'⟩
        refine ⟨_, hm.appW (ps := [(1, ⟨some b_2, 38, [(.slice w1_fPins_a w1.fPins.length w1_fPins_c), (.slice w1_fStrokes_a w1.fStrokes.length w1_fStrokes_c)]⟩)]) (N := []) hm' (by kernel_rfl) (by kernel_rfl), jkO ?_⟩
        clear hm hm'
        refine jo_f [(0, 0)] (by kernel_rfl) ?_
        refine jo_end (by kernel_rfl) ?_
        refine jx_then ?_
        refine jc_seq ?_
        refine jc_seq ?_
        refine jc_meet (fun (j : Bool) => match j with | q_5 => spec_MovePin.k_6 w1 toStep4 toTrack5 t_4 q_5 = some r) (fun (j : Bool) => match j with | q_5 => [(4, [], (.int .i64 toStep4)), (5, [], (.int .i64 toTrack5)), (7, [], (.pointer (some ⟨b_2, 0, none⟩))), (12, [], (.pointer (some ⟨b_3, 0, none⟩))), (13, [], (.int .i64 0)), (14, [], (.int .i64 t_4)), (41, [], (.bool q_5))]) (fun (j : Bool) => match j with | q_5 => [⟨some b_1, 43, [(.int .i16 f0.fSteps), (.slice f0_fHammers_a f0.fHammers.length f0_fHammers_c)]⟩, ⟨some b_2, 38, [(.slice w1_fPins_a w1.fPins.length w1_fPins_c), (.slice w1_fStrokes_a w1.fStrokes.length w1_fStrokes_c)]⟩, ⟨some b_3, 38, [(.slice none 0 0), (.slice none 0 0)]⟩]) ?_ ?_
        · refine jc_region ?_
          refine jo_f [(0, 0), (0, 0), (0, 0), (0, 1), (0, 1)] (by kernel_rfl) ?_
          refine jo_split 36 (decide (t_4 < 0)) (by kernel_rfl) (fun hc_62 => ?_) (fun hc_62 => ?_)
          · replace h := ifT hc_62 h
            refine jo_f [(0, 3), (0, 3), (0, 4)] (by kernel_rfl) ?_
            refine jo_end (by kernel_rfl) ?_
            exact jx_meet true h (by kernel_rfl) [0, 1, 2] (by kernel_rfl) (by kernel_rfl)
          · replace h := ifF hc_62 h
            obtain ⟨t_10, ht_63, h⟩ := bd h
            refine toO (by kernel_rfl) (p_call 2 142 #[(.pointer (some ⟨b_2, 0, none⟩)), (.int .i64 toStep4), (.int .i64 toTrack5)] (by kernel_rfl) (by kernel_rfl) (fun w hm => spec_l06Find.calls w1 toStep4 toTrack5 w _ w1_fPins_a w1.fPins.length w1_fPins_c (hm.exRow w1_fPins_h List.not_mem_nil) rfl w1_fStrokes_a w1.fStrokes.length w1_fStrokes_c (hm.exRow w1_fStrokes_h List.not_mem_nil) rfl b_2 (hm.pass (N := [⟨some b_2, 38, [(.slice w1_fPins_a w1.fPins.length w1_fPins_c), (.slice w1_fStrokes_a w1.fStrokes.length w1_fStrokes_c)]⟩]) [1] (by kernel_rfl) (by kernel_rfl)) (hm.exApart (N := [⟨some b_2, 38, [(.slice w1_fPins_a w1.fPins.length w1_fPins_c), (.slice w1_fStrokes_a w1.fStrokes.length w1_fStrokes_c)]⟩]) w1_fPins_h (fun _ => List.not_mem_nil) [1] (by kernel_rfl)) (hm.exApart (N := [⟨some b_2, 38, [(.slice w1_fPins_a w1.fPins.length w1_fPins_c), (.slice w1_fStrokes_a w1.fStrokes.length w1_fStrokes_c)]⟩]) w1_fStrokes_h (fun _ => List.not_mem_nil) [1] (by kernel_rfl)) ht_63) ?_)
            rintro w v w' hm ⟨rfl, hm'⟩
            refine ⟨_, hm.appW (ps := [(1, ⟨some b_2, 38, [(.slice w1_fPins_a w1.fPins.length w1_fPins_c), (.slice w1_fStrokes_a w1.fStrokes.length w1_fStrokes_c)]⟩)]) (N := []) hm' (by kernel_rfl) (by kernel_rfl), jkO ?_⟩
            clear hm hm'
            refine jo_f [(0, 2), (0, 5)] (by kernel_rfl) ?_
            refine jo_end (by kernel_rfl) ?_
            exact jx_meet (decide (t_10 ≥ 0)) h (by kernel_rfl) [0, 1, 2] (by kernel_rfl) (by kernel_rfl)
        · rintro q_5 h
          replace h : spec_MovePin.k_6 w1 toStep4 toTrack5 t_4 q_5 = some r := h
          rw [spec_MovePin.k_6] at h
          refine jx_then ?_
          refine jc_cond q_5 (by kernel_rfl) (fun hc_27 => ?_) (fun hc_27 => ?_)
          · replace h := ifT hc_27 h
            refine jc_seq ?_
            refine jc_region ?_
            refine jo_f [(0, 0)] (by kernel_rfl) ?_
            refine toO (by kernel_rfl) (p_s 0 [2] (by kernel_rfl) (by kernel_rfl) (jkO ?_))
            refine jo_f [(0, 0)] (by kernel_rfl) ?_
            refine jo_end (by kernel_rfl) ?_
            refine jx_then ?_
            refine jc_ret ?_
            refine jx_thenr ?_
            obtain rfl := Option.some.inj h
            refine jx_ghost 75 encGWornPin ?_
            refine jx_ghost 2 encI64 ?_
            exact jx_ret [2] (.tuple #[(.agg #[(.slice none 0 0), (.slice none 0 0)]), (.int .i64 4)]) [(b_3, b_3), (b_3, b_3)] rfl (by kernel_rfl) (by kernel_rfl) (fun w hm => ⟨none, 0, [], 0, rfl, (fun e => absurd rfl e), (fun _ => ⟨rfl, rfl⟩), none, 0, [], 0, rfl, (fun e => absurd rfl e), (fun _ => ⟨rfl, rfl⟩), rfl, hm.pick [3, 4] (by kernel_rfl) (by kernel_rfl)⟩)
          · replace h := ifF hc_27 h
            refine jc_skip ?_
            refine jx_then ?_
            refine jc_seq ?_
            refine jc_region ?_
            obtain ⟨t_7, ht_28, h⟩ := bd h
            refine toO (by kernel_rfl) (p_call 0 85 #[(.pointer (some ⟨b_2, 0, none⟩))] (by kernel_rfl) (by kernel_rfl) (fun w hm => spec_l06Copy.calls w1 w _ w1_fPins_a w1.fPins.length w1_fPins_c (hm.exRow w1_fPins_h List.not_mem_nil) rfl w1_fStrokes_a w1.fStrokes.length w1_fStrokes_c (hm.exRow w1_fStrokes_h List.not_mem_nil) rfl b_2 (hm.pass (N := [⟨some b_2, 38, [(.slice w1_fPins_a w1.fPins.length w1_fPins_c), (.slice w1_fStrokes_a w1.fStrokes.length w1_fStrokes_c)]⟩]) [1] (by kernel_rfl) (by kernel_rfl)) (hm.exApart (N := [⟨some b_2, 38, [(.slice w1_fPins_a w1.fPins.length w1_fPins_c), (.slice w1_fStrokes_a w1.fStrokes.length w1_fStrokes_c)]⟩]) w1_fPins_h (fun _ => List.not_mem_nil) [1] (by kernel_rfl)) (hm.exApart (N := [⟨some b_2, 38, [(.slice w1_fPins_a w1.fPins.length w1_fPins_c), (.slice w1_fStrokes_a w1.fStrokes.length w1_fStrokes_c)]⟩]) w1_fStrokes_h (fun _ => List.not_mem_nil) [1] (by kernel_rfl)) ht_28) ?_)
            rintro w v w' hm ⟨o_29, cap_30, sp_31, _, rfl, hs_32, ho_33, o_34, cap_35, sp_36, _, rfl, hs_37, ho_38, rfl, hm'⟩
            refine ⟨_, hm.appW (ps := [(1, ⟨some b_2, 38, [(.slice w1_fPins_a w1.fPins.length w1_fPins_c), (.slice w1_fStrokes_a w1.fStrokes.length w1_fStrokes_c)]⟩)]) (N := [⟨o_29, 75, row encGWornPin t_7.fPins sp_31⟩, ⟨o_34, 2, row encI64 t_7.fStrokes sp_36⟩]) hm' (by kernel_rfl) (by kernel_rfl), jkO ?_⟩
            clear hm hm'
            refine toO (by kernel_rfl) (p_a 0 [0] (by kernel_rfl) (fun b => by kernel_rfl) (fun b_39 => jkO ?_))
            refine toO (by kernel_rfl) (p_s 0 [5] (by kernel_rfl) (by kernel_rfl) (jkO ?_))
            refine jo_end (by kernel_rfl) ?_
            refine jx_then ?_
            refine jc_seq ?_
            refine jc_draw [⟨some b_1, 43, [(.int .i16 f0.fSteps), (.slice f0_fHammers_a f0.fHammers.length f0_fHammers_c)]⟩, ⟨some b_2, 38, [(.slice w1_fPins_a w1.fPins.length w1_fPins_c), (.slice w1_fStrokes_a w1.fStrokes.length w1_fStrokes_c)]⟩, ⟨some b_3, 38, [(.slice none 0 0), (.slice none 0 0)]⟩, ⟨o_29, 75, row encGWornPin t_7.fPins sp_31⟩, ⟨o_34, 2, row encI64 t_7.fStrokes sp_36⟩, ⟨some b_39, 38, [(.slice (o_29.map fun b => ⟨b, 0, none⟩) t_7.fPins.length cap_30), (.slice (o_34.map fun b => ⟨b, 0, none⟩) t_7.fStrokes.length cap_35)]⟩] 13 (by kernel_rfl) (by kernel_rfl) ?_
            refine jd_f [⟨1, 0, 0⟩, ⟨2, 5, 0⟩, ⟨3, 0, 0⟩, ⟨6, 0, 0⟩, ⟨7, 5, 0⟩, ⟨8, 0, 0⟩, ⟨9, 0, 0⟩] 6 (by kernel_rfl) (by kernel_rfl) (fun w h => h.pick [0, 1, 2, 3, 4, 5] (by kernel_rfl) (by kernel_rfl)) (by kernel_rfl) (by kernel_rfl) ?_
            obtain ⟨hg_40, h⟩ := gd h
            refine jd_v 4 0 (by kernel_rfl) (fun w h => h.pick [0, 1, 2, 3, 4, 5] (by kernel_rfl) (by kernel_rfl)) (by kernel_rfl) (by kernel_rfl) _ (fun w hm => slH_run (a := (o_29.map fun b => ⟨b, 0, none⟩)) (len := t_7.fPins.length) (cap := cap_30) (size := 3) (h := t_4) (by kernel_rfl) hg_40.1 (Int.le_trans hg_40.2 (Int.ofNat_le.2 (cap_le rfl hs_32 ho_33)))) ?_
            obtain ⟨hg_41, h⟩ := gd h
            refine jd_v 10 0 (by kernel_rfl) (fun w h => h.pick [0, 1, 2, 3, 4, 5] (by kernel_rfl) (by kernel_rfl)) (by kernel_rfl) (by kernel_rfl) _ (fun w hm => slL_run (a := (o_29.map fun b => ⟨b, 0, none⟩)) (len := t_7.fPins.length) (cap := cap_30) (size := 3) (l := (w64 (t_4 + 1))) (by kernel_rfl) hg_41.1 (Int.le_trans hg_41.2 (Int.ofNat_le.2 (Nat.le_of_eq rfl)))) ?_
            refine toD 0 (by kernel_rfl) (p_a 0 [0] (by kernel_rfl) (fun b => by kernel_rfl) (fun b_42 => jkD (fun w h => h.pick [0, 1, 2, 3, 4, 5] (by kernel_rfl) (by kernel_rfl)) ?_))
            obtain ⟨hg_43, h⟩ := gd h
            refine toD 5 (by kernel_rfl) (p_apn 0 6 (some b_42) 75 0 t_4.toNat 0 3 16 (o_29.map fun b => ⟨b, 0, none⟩) encGWornPin ([] : List GWornPin) (t_7.fPins.take t_4.toNat) [] (.agg #[(.int .i8 0), (.int .i8 0), (.int .i64 0)]) rfl (hd_len hg_40) (by kernel_rfl) (by kernel_rfl) (by kernel_rfl) encGWornPin_len encGWornPin_cell (fun _ => ⟨Nat.le_refl _, by simp⟩) (fun e => nomatch e) (fun w hm => ((hm.ownRow (hh := 3) (o := o_29) (T := 75) (enc := encGWornPin) (xs := t_7.fPins) (sp := sp_31) (by kernel_rfl) (fun e => (ho_33 e).1) encGWornPin_len).hd t_4.toNat)) hg_43 (by kernel_rfl) (by kernel_rfl) (fun o_44 cap_45 sp_46 hs_47 ho_48 => jkD (fun w h => h.pick [0, 1, 2, 3, 4, 5] (by kernel_rfl) (by kernel_rfl)) ?_))
            obtain ⟨hg_49, h⟩ := gd h
            refine toD 11 (by kernel_rfl) (p_apn 0 6 o_44 75 ((([] : List GWornPin) ++ (t_7.fPins.take t_4.toNat)).length) (t_7.fPins.length - (w64 (t_4 + 1)).toNat) cap_45 3 16 (pa (o_29.map fun b => ⟨b, 0, none⟩) (w64 (t_4 + 1)).toNat cap_30 3) encGWornPin (([] : List GWornPin) ++ (t_7.fPins.take t_4.toNat)) (t_7.fPins.drop (w64 (t_4 + 1)).toNat) sp_46 (.agg #[(.int .i8 0), (.int .i8 0), (.int .i64 0)]) rfl (tl_len rfl (w64 (t_4 + 1))) (by kernel_rfl) (by kernel_rfl) (by kernel_rfl) encGWornPin_len encGWornPin_cell hs_47 ho_48 (fun w hm => ((hm.ownRow (hh := 3) (o := o_29) (T := 75) (enc := encGWornPin) (xs := t_7.fPins) (sp := sp_31) (by kernel_rfl) (fun e => (ho_33 e).1) encGWornPin_len).tl ((w64 (t_4 + 1)).toNat) cap_30 (cap_le rfl hs_32 ho_33))) hg_49 (by kernel_rfl) (by kernel_rfl) (fun o_50 cap_51 sp_52 hs_53 ho_54 => jkD (fun w h => h.pick [0, 1, 2, 3, 4, 5] (by kernel_rfl) (by kernel_rfl)) ?_))
            refine jd_f [⟨12, 0, 0⟩] 0 (by kernel_rfl) (by kernel_rfl) (fun w h => h.pick [0, 1, 2, 3, 4, 5] (by kernel_rfl) (by kernel_rfl)) (by kernel_rfl) (by kernel_rfl) ?_
            refine jd_end (by kernel_rfl) ?_
            refine jx_then ?_
            refine jc_seq ?_
            refine jc_region ?_
            refine jo_f [(0, 0), (0, 0), (0, 0), (0, 0), (0, 0), (0, 0), (1, 0), (0, 0)] (by kernel_rfl) ?_
            obtain ⟨x_8, hx_55, h⟩ := bd h
            refine toO (by kernel_rfl) (p_idx 0 w1_fPins_a w1.fPins.length t_4 3 (by kernel_rfl) (by kernel_rfl) (ix_some hx_55).1 (ltn hx_55 rfl) (w1_fPins_h.sp hx_55) (jkO ?_))
            refine jo_f [(0, 0)] (by kernel_rfl) ?_
            refine toO (by kernel_rfl) (p_ld 0 (aB w1_fPins_a) (aO w1_fPins_a + t_4.toNat * 3 + 2) false (((encGWornPin x_8).drop 2).take 1) (by kernel_rfl) (by kernel_rfl) (by kernel_rfl) (fun w hm => (((hm.exRow w1_fPins_h List.not_mem_nil).at hx_55).sub 2 1)) (jkO ?_))
            refine jo_f [(0, 0)] (by kernel_rfl) ?_
            obtain ⟨t_9, ht_56, h⟩ := bd h
            refine toO (by kernel_rfl) (p_call 0 143 #[(.slice (o_50.map fun b => ⟨b, 0, none⟩) (((([] : List GWornPin) ++ (t_7.fPins.take t_4.toNat)) ++ (t_7.fPins.drop (w64 (t_4 + 1)).toNat)).length) cap_51), (.agg #[(.int .i8 (w8 toStep4)), (.int .i8 (w8 toTrack5)), (.int .i64 x_8.fTurns)])] (by kernel_rfl) (by kernel_rfl) (fun w hm => spec_l06Put.calls ((([] : List GWornPin) ++ (t_7.fPins.take t_4.toNat)) ++ (t_7.fPins.drop (w64 (t_4 + 1)).toNat)) (⟨(w8 toStep4), (w8 toTrack5), x_8.fTurns⟩ : GWornPin) w _ o_50 (((([] : List GWornPin) ++ (t_7.fPins.take t_4.toNat)) ++ (t_7.fPins.drop (w64 (t_4 + 1)).toNat)).length) cap_51 sp_52 rfl hs_53 ho_54 (hm.pass (N := [⟨o_50, 75, row encGWornPin ((([] : List GWornPin) ++ (t_7.fPins.take t_4.toNat)) ++ (t_7.fPins.drop (w64 (t_4 + 1)).toNat)) sp_52⟩]) [6] (by kernel_rfl) (by kernel_rfl)) ht_56) ?_)
            rintro w v w' hm ⟨o_57, cap_58, sp_59, _, rfl, hs_60, ho_61, rfl, hm'⟩
            refine ⟨_, hm.appW (ps := [(6, ⟨o_50, 75, row encGWornPin ((([] : List GWornPin) ++ (t_7.fPins.take t_4.toNat)) ++ (t_7.fPins.drop (w64 (t_4 + 1)).toNat)) sp_52⟩)]) (N := [⟨o_57, 75, row encGWornPin t_9 sp_59⟩]) hm' (by kernel_rfl) (by kernel_rfl), jkO ?_⟩
            clear hm hm'
            refine jo_f [(0, 0)] (by kernel_rfl) ?_
            refine toO (by kernel_rfl) (p_s 0 [5] (by kernel_rfl) (by kernel_rfl) (jkO ?_))
            refine jo_end (by kernel_rfl) ?_
            refine jx_then ?_
            refine jc_seq ?_
            refine jc_region ?_
            refine jo_f [(5, 0)] (by kernel_rfl) ?_
            refine toO (by kernel_rfl) (p_s 0 [2] (by kernel_rfl) (by kernel_rfl) (jkO ?_))
            refine jo_f [(0, 0)] (by kernel_rfl) ?_
            refine jo_end (by kernel_rfl) ?_
            refine jx_then ?_
            refine jc_ret ?_
            obtain rfl := Option.some.inj h
            exact jx_ret [2] (.tuple #[(.agg #[(.slice (o_57.map fun b => ⟨b, 0, none⟩) t_9.length cap_58), (.slice (o_34.map fun b => ⟨b, 0, none⟩) t_7.fStrokes.length cap_35)]), (.int .i64 0)]) [(b_3, b_3), (b_3, b_3)] rfl (by kernel_rfl) (by kernel_rfl) (fun w hm => ⟨o_57, cap_58, sp_59, t_9.length, rfl, hs_60, ho_61, o_34, cap_35, sp_36, t_7.fStrokes.length, rfl, hs_37, ho_38, rfl, hm.pick [7, 4] (by kernel_rfl) (by kernel_rfl)⟩)

/-! ### spec.DoWearAct -/
noncomputable def spec_DoWearAct (f0 : GFrame) (w1 : GWear) (a2 : GAct) : Option (GWear × Int) := (spec_l06Ok f0 w1).bind fun t_1 => (if (!t_1) = true then some ((⟨[], []⟩ : GWear), 1) else (if (a2.fKind == 0) = true then (spec_TurnWear f0 w1 a2.fA).bind fun t_2 => some (t_2.1, t_2.2) else (if (a2.fKind == 1) = true then (spec_NewHammer f0 w1 a2.fA).bind fun t_3 => some (t_3.1, t_3.2) else (if (a2.fKind == 2) = true then (spec_NewPin f0 w1 a2.fA a2.fB).bind fun t_4 => some (t_4.1, t_4.2) else (if (a2.fKind == 3) = true then (spec_MovePin f0 w1 a2.fA a2.fB a2.fC a2.fD).bind fun t_5 => some (t_5.1, t_5.2) else some ((⟨[], []⟩ : GWear), 2))))))
set_option maxRecDepth 100000 in
theorem spec_DoWearAct.calls (f0 : GFrame) (w1 : GWear) (a2 : GAct) (w : World) (r : GWear × Int) (f0_fHammers_a : Option Addr) (f0_fHammers_an : Nat) (f0_fHammers_c : Nat) (f0_fHammers_h : Rw w f0_fHammers_a 2 encGHammer f0.fHammers) (f0_fHammers_hn : f0.fHammers.length = f0_fHammers_an) (w1_fPins_a : Option Addr) (w1_fPins_an : Nat) (w1_fPins_c : Nat) (w1_fPins_h : Rw w w1_fPins_a 3 encGWornPin w1.fPins) (w1_fPins_hn : w1.fPins.length = w1_fPins_an) (w1_fStrokes_a : Option Addr) (w1_fStrokes_an : Nat) (w1_fStrokes_c : Nat) (w1_fStrokes_h : Rw w w1_fStrokes_a 1 encI64 w1.fStrokes) (w1_fStrokes_hn : w1.fStrokes.length = w1_fStrokes_an) (h : spec_DoWearAct f0 w1 a2 = some r) :
    Calls Tryz.prog 86 #[(.agg #[(.int .i16 f0.fSteps), (.slice f0_fHammers_a f0_fHammers_an f0_fHammers_c)]), (.agg #[(.slice w1_fPins_a w1_fPins_an w1_fPins_c), (.slice w1_fStrokes_a w1_fStrokes_an w1_fStrokes_c)]), (.agg #[(.int .i8 a2.fKind), (.int .i64 a2.fA), (.int .i64 a2.fB), (.int .i64 a2.fC), (.int .i64 a2.fD)])] w fun e w' => ∃ v, e = .returned v ∧ (∃ (o0 : Option Nat) (c0 : Nat) (s0 : List Value) (n0 : Nat), r.1.fPins.length = n0 ∧ (o0 ≠ none → n0 ≤ c0 ∧ s0.length = (c0 - n0) * 3) ∧ (o0 = none → r.1.fPins = [] ∧ c0 = 0) ∧ ∃ (o1 : Option Nat) (c1 : Nat) (s1 : List Value) (n1 : Nat), r.1.fStrokes.length = n1 ∧ (o1 ≠ none → n1 ≤ c1 ∧ s1.length = (c1 - n1) * 1) ∧ (o1 = none → r.1.fStrokes = [] ∧ c1 = 0) ∧ v = .tuple #[.agg #[.slice (o0.map fun b => ⟨b, 0, none⟩) n0 c0, .slice (o1.map fun b => ⟨b, 0, none⟩) n1 c1], (.int .i64 r.2)] ∧ Mem w [] [⟨o0, 75, row encGWornPin r.1.fPins s0⟩, ⟨o1, 2, row encI64 r.1.fStrokes s1⟩] w') := by
  subst f0_fHammers_hn w1_fPins_hn w1_fStrokes_hn
  rw [spec_DoWearAct] at h
  refine enter (args := [(.agg #[(.int .i16 f0.fSteps), (.slice f0_fHammers_a f0.fHammers.length f0_fHammers_c)]), (.agg #[(.slice w1_fPins_a w1.fPins.length w1_fPins_c), (.slice w1_fStrokes_a w1.fStrokes.length w1_fStrokes_c)]), (.agg #[(.int .i8 a2.fKind), (.int .i64 a2.fA), (.int .i64 a2.fB), (.int .i64 a2.fC), (.int .i64 a2.fD)])]) Tryz.func86 rfl Tryz.ntmps86 (by kernel_rfl) (L := []) (W := []) (Mem.start w) ?_
  refine jc_seq ?_
  refine jc_region ?_
  refine toO (by kernel_rfl) (p_a 0 [0] (by kernel_rfl) (fun b => by kernel_rfl) (fun b_1 => jkO ?_))
  refine toO (by kernel_rfl) (p_a 0 [0] (by kernel_rfl) (fun b => by kernel_rfl) (fun b_2 => jkO ?_))
  refine toO (by kernel_rfl) (p_a 0 [0] (by kernel_rfl) (fun b => by kernel_rfl) (fun b_3 => jkO ?_))
  refine toO (by kernel_rfl) (p_a 0 [0] (by kernel_rfl) (fun b => by kernel_rfl) (fun b_4 => jkO ?_))
  refine jo_f [(0, 0)] (by kernel_rfl) ?_
  refine jo_end (by kernel_rfl) ?_
  refine jx_then ?_
  refine jc_seq ?_
  refine jc_seq ?_
  refine jc_region ?_
  obtain ⟨t_1, ht_7, h⟩ := bd h
  refine toO (by kernel_rfl) (p_call 0 75 #[(.pointer (some ⟨b_1, 0, none⟩)), (.pointer (some ⟨b_2, 0, none⟩))] (by kernel_rfl) (by kernel_rfl) (fun w hm => spec_l06Ok.calls f0 w1 w _ f0_fHammers_a f0.fHammers.length f0_fHammers_c (hm.exRow f0_fHammers_h List.not_mem_nil) rfl w1_fPins_a w1.fPins.length w1_fPins_c (hm.exRow w1_fPins_h List.not_mem_nil) rfl w1_fStrokes_a w1.fStrokes.length w1_fStrokes_c (hm.exRow w1_fStrokes_h List.not_mem_nil) rfl b_1 b_2 (hm.pass (N := [⟨some b_1, 43, [(.int .i16 f0.fSteps), (.slice f0_fHammers_a f0.fHammers.length f0_fHammers_c)]⟩, ⟨some b_2, 38, [(.slice w1_fPins_a w1.fPins.length w1_fPins_c), (.slice w1_fStrokes_a w1.fStrokes.length w1_fStrokes_c)]⟩]) [0, 1] (by kernel_rfl) (by kernel_rfl)) (hm.exApart (N := [⟨some b_1, 43, [(.int .i16 f0.fSteps), (.slice f0_fHammers_a f0.fHammers.length f0_fHammers_c)]⟩, ⟨some b_2, 38, [(.slice w1_fPins_a w1.fPins.length w1_fPins_c), (.slice w1_fStrokes_a w1.fStrokes.length w1_fStrokes_c)]⟩]) f0_fHammers_h (fun _ => List.not_mem_nil) [0, 1] (by kernel_rfl)) (hm.exApart (N := [⟨some b_1, 43, [(.int .i16 f0.fSteps), (.slice f0_fHammers_a f0.fHammers.length f0_fHammers_c)]⟩, ⟨some b_2, 38, [(.slice w1_fPins_a w1.fPins.length w1_fPins_c), (.slice w1_fStrokes_a w1.fStrokes.length w1_fStrokes_c)]⟩]) w1_fPins_h (fun _ => List.not_mem_nil) [0, 1] (by kernel_rfl)) (hm.exApart (N := [⟨some b_1, 43, [(.int .i16 f0.fSteps), (.slice f0_fHammers_a f0.fHammers.length f0_fHammers_c)]⟩, ⟨some b_2, 38, [(.slice w1_fPins_a w1.fPins.length w1_fPins_c), (.slice w1_fStrokes_a w1.fStrokes.length w1_fStrokes_c)]⟩]) w1_fStrokes_h (fun _ => List.not_mem_nil) [0, 1] (by kernel_rfl)) ht_7) ?_)
  rintro w v w' hm ⟨rfl, hm'⟩
  refine ⟨_, hm.appW (ps := [(0, ⟨some b_1, 43, [(.int .i16 f0.fSteps), (.slice f0_fHammers_a f0.fHammers.length f0_fHammers_c)]⟩), (1, ⟨some b_2, 38, [(.slice w1_fPins_a w1.fPins.length w1_fPins_c), (.slice w1_fStrokes_a w1.fStrokes.length w1_fStrokes_c)]⟩)]) (N := []) hm' (by kernel_rfl) (by kernel_rfl), jkO ?_⟩
  clear hm hm'
  refine jo_f [(0, 0)] (by kernel_rfl) ?_
  refine jo_end (by kernel_rfl) ?_
  refine jx_then ?_
  refine jc_cond (!t_1) (by kernel_rfl) (fun hc_8 => ?_) (fun hc_8 => ?_)
  · replace h := ifT hc_8 h
    refine jc_seq ?_
    refine jc_region ?_
    refine jo_f [(0, 0)] (by kernel_rfl) ?_
    refine toO (by kernel_rfl) (p_s 0 [3] (by kernel_rfl) (by kernel_rfl) (jkO ?_))
    refine jo_f [(0, 0)] (by kernel_rfl) ?_
    refine jo_end (by kernel_rfl) ?_
    refine jx_then ?_
    refine jc_ret ?_
    refine jx_thenr ?_
    obtain rfl := Option.some.inj h
    refine jx_ghost 75 encGWornPin ?_
    refine jx_ghost 2 encI64 ?_
    exact jx_ret [3] (.tuple #[(.agg #[(.slice none 0 0), (.slice none 0 0)]), (.int .i64 1)]) [(b_4, b_4), (b_4, b_4)] rfl (by kernel_rfl) (by kernel_rfl) (fun w hm => ⟨none, 0, [], 0, rfl, (fun e => absurd rfl e), (fun _ => ⟨rfl, rfl⟩), none, 0, [], 0, rfl, (fun e => absurd rfl e), (fun _ => ⟨rfl, rfl⟩), rfl, hm.pick [4, 5] (by kernel_rfl) (by kernel_rfl)⟩)
  · replace h := ifF hc_8 h
    refine jc_skip ?_
    refine jx_then ?_
    refine jc_seq ?_
    refine jc_seq ?_
    refine jc_region ?_
    refine jo_f [(0, 0), (2, 0)] (by kernel_rfl) ?_
    refine jo_end (by kernel_rfl) ?_
    refine jx_then ?_
    refine jc_block ?_
    refine jc_seq ?_
    refine jc_region ?_
    refine jo_f [(0, 0), (0, 0)] (by kernel_rfl) ?_
    refine jo_end (by kernel_rfl) ?_
    refine jx_then ?_
    refine jc_cond (a2.fKind == 0) (by kernel_rfl) (fun hc_153 => ?_) (fun hc_153 => ?_)
    · replace h := ifT hc_153 h
      refine jc_seq ?_
      refine jc_region ?_
      refine jo_f [(0, 0), (1, 0), (0, 0), (2, 0)] (by kernel_rfl) ?_
      obtain ⟨t_2, ht_154, h⟩ := bd h
      refine toO (by kernel_rfl) (p_call 0 33 #[(.agg #[(.int .i16 f0.fSteps), (.slice f0_fHammers_a f0.fHammers.length f0_fHammers_c)]), (.agg #[(.slice w1_fPins_a w1.fPins.length w1_fPins_c), (.slice w1_fStrokes_a w1.fStrokes.length w1_fStrokes_c)]), (.int .i64 a2.fA)] (by kernel_rfl) (by kernel_rfl) (fun w hm => spec_TurnWear.calls f0 w1 a2.fA w _ f0_fHammers_a f0.fHammers.length f0_fHammers_c (hm.exRow f0_fHammers_h List.not_mem_nil) rfl w1_fPins_a w1.fPins.length w1_fPins_c (hm.exRow w1_fPins_h List.not_mem_nil) rfl w1_fStrokes_a w1.fStrokes.length w1_fStrokes_c (hm.exRow w1_fStrokes_h List.not_mem_nil) rfl ht_154) ?_)
      rintro w v w' hm ⟨o_155, cap_156, sp_157, _, rfl, hs_158, ho_159, o_160, cap_161, sp_162, _, rfl, hs_163, ho_164, rfl, hm'⟩
      refine ⟨_, hm.app hm', jkO ?_⟩
      clear hm hm'
      refine jo_f [(0, 0), (0, 0)] (by kernel_rfl) ?_
      refine toO (by kernel_rfl) (p_s 0 [3] (by kernel_rfl) (by kernel_rfl) (jkO ?_))
      refine jo_f [(0, 0)] (by kernel_rfl) ?_
      refine jo_end (by kernel_rfl) ?_
      refine jx_then ?_
      refine jc_ret ?_
      refine jx_inr ?_
      refine jx_thenr ?_
      obtain rfl := Option.some.inj h
      exact jx_ret [3] (.tuple #[(.agg #[(.slice (o_155.map fun b => ⟨b, 0, none⟩) t_2.1.fPins.length cap_156), (.slice (o_160.map fun b => ⟨b, 0, none⟩) t_2.1.fStrokes.length cap_161)]), (.int .i64 t_2.2)]) [(b_4, b_4), (b_4, b_4)] rfl (by kernel_rfl) (by kernel_rfl) (fun w hm => ⟨o_155, cap_156, sp_157, t_2.1.fPins.length, rfl, hs_158, ho_159, o_160, cap_161, sp_162, t_2.1.fStrokes.length, rfl, hs_163, ho_164, rfl, hm.pick [4, 5] (by kernel_rfl) (by kernel_rfl)⟩)
    · replace h := ifF hc_153 h
      refine jc_seq ?_
      refine jc_region ?_
      refine jo_f [(0, 0), (0, 0)] (by kernel_rfl) ?_
      refine jo_end (by kernel_rfl) ?_
      refine jx_then ?_
      refine jc_cond (a2.fKind == 1) (by kernel_rfl) (fun hc_165 => ?_) (fun hc_165 => ?_)
      · replace h := ifT hc_165 h
        refine jc_seq ?_
        refine jc_region ?_
        refine jo_f [(0, 0), (1, 0), (0, 0), (2, 0)] (by kernel_rfl) ?_
        obtain ⟨t_3, ht_166, h⟩ := bd h
        refine toO (by kernel_rfl) (p_call 0 119 #[(.agg #[(.int .i16 f0.fSteps), (.slice f0_fHammers_a f0.fHammers.length f0_fHammers_c)]), (.agg #[(.slice w1_fPins_a w1.fPins.length w1_fPins_c), (.slice w1_fStrokes_a w1.fStrokes.length w1_fStrokes_c)]), (.int .i64 a2.fA)] (by kernel_rfl) (by kernel_rfl) (fun w hm => spec_NewHammer.calls f0 w1 a2.fA w _ f0_fHammers_a f0.fHammers.length f0_fHammers_c (hm.exRow f0_fHammers_h List.not_mem_nil) rfl w1_fPins_a w1.fPins.length w1_fPins_c (hm.exRow w1_fPins_h List.not_mem_nil) rfl w1_fStrokes_a w1.fStrokes.length w1_fStrokes_c (hm.exRow w1_fStrokes_h List.not_mem_nil) rfl ht_166) ?_)
        rintro w v w' hm ⟨o_167, cap_168, sp_169, _, rfl, hs_170, ho_171, o_172, cap_173, sp_174, _, rfl, hs_175, ho_176, rfl, hm'⟩
        refine ⟨_, hm.app hm', jkO ?_⟩
        clear hm hm'
        refine jo_f [(0, 0), (0, 0)] (by kernel_rfl) ?_
        refine toO (by kernel_rfl) (p_s 0 [3] (by kernel_rfl) (by kernel_rfl) (jkO ?_))
        refine jo_f [(0, 0)] (by kernel_rfl) ?_
        refine jo_end (by kernel_rfl) ?_
        refine jx_then ?_
        refine jc_ret ?_
        refine jx_inr ?_
        refine jx_thenr ?_
        obtain rfl := Option.some.inj h
        exact jx_ret [3] (.tuple #[(.agg #[(.slice (o_167.map fun b => ⟨b, 0, none⟩) t_3.1.fPins.length cap_168), (.slice (o_172.map fun b => ⟨b, 0, none⟩) t_3.1.fStrokes.length cap_173)]), (.int .i64 t_3.2)]) [(b_4, b_4), (b_4, b_4)] rfl (by kernel_rfl) (by kernel_rfl) (fun w hm => ⟨o_167, cap_168, sp_169, t_3.1.fPins.length, rfl, hs_170, ho_171, o_172, cap_173, sp_174, t_3.1.fStrokes.length, rfl, hs_175, ho_176, rfl, hm.pick [4, 5] (by kernel_rfl) (by kernel_rfl)⟩)
      · replace h := ifF hc_165 h
        refine jc_seq ?_
        refine jc_region ?_
        refine jo_f [(0, 0), (0, 0)] (by kernel_rfl) ?_
        refine jo_end (by kernel_rfl) ?_
        refine jx_then ?_
        refine jc_cond (a2.fKind == 2) (by kernel_rfl) (fun hc_177 => ?_) (fun hc_177 => ?_)
        · replace h := ifT hc_177 h
          refine jc_seq ?_
          refine jc_region ?_
          refine jo_f [(0, 0), (1, 0), (0, 0), (2, 0), (0, 0), (2, 0)] (by kernel_rfl) ?_
          obtain ⟨t_4, ht_178, h⟩ := bd h
          refine toO (by kernel_rfl) (p_call 0 120 #[(.agg #[(.int .i16 f0.fSteps), (.slice f0_fHammers_a f0.fHammers.length f0_fHammers_c)]), (.agg #[(.slice w1_fPins_a w1.fPins.length w1_fPins_c), (.slice w1_fStrokes_a w1.fStrokes.length w1_fStrokes_c)]), (.int .i64 a2.fA), (.int .i64 a2.fB)] (by kernel_rfl) (by kernel_rfl) (fun w hm => spec_NewPin.calls f0 w1 a2.fA a2.fB w _ f0_fHammers_a f0.fHammers.length f0_fHammers_c (hm.exRow f0_fHammers_h List.not_mem_nil) rfl w1_fPins_a w1.fPins.length w1_fPins_c (hm.exRow w1_fPins_h List.not_mem_nil) rfl w1_fStrokes_a w1.fStrokes.length w1_fStrokes_c (hm.exRow w1_fStrokes_h List.not_mem_nil) rfl ht_178) ?_)
          rintro w v w' hm ⟨o_179, cap_180, sp_181, _, rfl, hs_182, ho_183, o_184, cap_185, sp_186, _, rfl, hs_187, ho_188, rfl, hm'⟩
          refine ⟨_, hm.app hm', jkO ?_⟩
          clear hm hm'
          refine jo_f [(0, 0), (0, 0)] (by kernel_rfl) ?_
          refine toO (by kernel_rfl) (p_s 0 [3] (by kernel_rfl) (by kernel_rfl) (jkO ?_))
          refine jo_f [(0, 0)] (by kernel_rfl) ?_
          refine jo_end (by kernel_rfl) ?_
          refine jx_then ?_
          refine jc_ret ?_
          refine jx_inr ?_
          refine jx_thenr ?_
          obtain rfl := Option.some.inj h
          exact jx_ret [3] (.tuple #[(.agg #[(.slice (o_179.map fun b => ⟨b, 0, none⟩) t_4.1.fPins.length cap_180), (.slice (o_184.map fun b => ⟨b, 0, none⟩) t_4.1.fStrokes.length cap_185)]), (.int .i64 t_4.2)]) [(b_4, b_4), (b_4, b_4)] rfl (by kernel_rfl) (by kernel_rfl) (fun w hm => ⟨o_179, cap_180, sp_181, t_4.1.fPins.length, rfl, hs_182, ho_183, o_184, cap_185, sp_186, t_4.1.fStrokes.length, rfl, hs_187, ho_188, rfl, hm.pick [4, 5] (by kernel_rfl) (by kernel_rfl)⟩)
        · replace h := ifF hc_177 h
          refine jc_seq ?_
          refine jc_region ?_
          refine jo_f [(0, 0), (0, 0)] (by kernel_rfl) ?_
          refine jo_end (by kernel_rfl) ?_
          refine jx_then ?_
          refine jc_cond (a2.fKind == 3) (by kernel_rfl) (fun hc_189 => ?_) (fun hc_189 => ?_)
          · replace h := ifT hc_189 h
            refine jc_seq ?_
            refine jc_region ?_
            refine jo_f [(0, 0), (1, 0), (0, 0), (2, 0), (0, 0), (2, 0), (0, 0), (2, 0), (0, 0), (2, 0)] (by kernel_rfl) ?_
            obtain ⟨t_5, ht_190, h⟩ := bd h
            refine toO (by kernel_rfl) (p_call 0 121 #[(.agg #[(.int .i16 f0.fSteps), (.slice f0_fHammers_a f0.fHammers.length f0_fHammers_c)]), (.agg #[(.slice w1_fPins_a w1.fPins.length w1_fPins_c), (.slice w1_fStrokes_a w1.fStrokes.length w1_fStrokes_c)]), (.int .i64 a2.fA), (.int .i64 a2.fB), (.int .i64 a2.fC), (.int .i64 a2.fD)] (by kernel_rfl) (by kernel_rfl) (fun w hm => spec_MovePin.calls f0 w1 a2.fA a2.fB a2.fC a2.fD w _ f0_fHammers_a f0.fHammers.length f0_fHammers_c (hm.exRow f0_fHammers_h List.not_mem_nil) rfl w1_fPins_a w1.fPins.length w1_fPins_c (hm.exRow w1_fPins_h List.not_mem_nil) rfl w1_fStrokes_a w1.fStrokes.length w1_fStrokes_c (hm.exRow w1_fStrokes_h List.not_mem_nil) rfl ht_190) ?_)
            rintro w v w' hm ⟨o_191, cap_192, sp_193, _, rfl, hs_194, ho_195, o_196, cap_197, sp_198, _, rfl, hs_199, ho_200, rfl, hm'⟩
            refine ⟨_, hm.app hm', jkO ?_⟩
            clear hm hm'
            refine jo_f [(0, 0), (0, 0)] (by kernel_rfl) ?_
            refine toO (by kernel_rfl) (p_s 0 [3] (by kernel_rfl) (by kernel_rfl) (jkO ?_))
            refine jo_f [(0, 0)] (by kernel_rfl) ?_
            refine jo_end (by kernel_rfl) ?_
            refine jx_then ?_
            refine jc_ret ?_
            refine jx_inr ?_
            refine jx_thenr ?_
            obtain rfl := Option.some.inj h
            exact jx_ret [3] (.tuple #[(.agg #[(.slice (o_191.map fun b => ⟨b, 0, none⟩) t_5.1.fPins.length cap_192), (.slice (o_196.map fun b => ⟨b, 0, none⟩) t_5.1.fStrokes.length cap_197)]), (.int .i64 t_5.2)]) [(b_4, b_4), (b_4, b_4)] rfl (by kernel_rfl) (by kernel_rfl) (fun w hm => ⟨o_191, cap_192, sp_193, t_5.1.fPins.length, rfl, hs_194, ho_195, o_196, cap_197, sp_198, t_5.1.fStrokes.length, rfl, hs_199, ho_200, rfl, hm.pick [4, 5] (by kernel_rfl) (by kernel_rfl)⟩)
          · replace h := ifF hc_189 h
            refine jc_skip ?_
            refine jx_inn ?_
            refine jx_then ?_
            refine jc_seq ?_
            refine jc_region ?_
            refine jo_f [(0, 0)] (by kernel_rfl) ?_
            refine toO (by kernel_rfl) (p_s 0 [3] (by kernel_rfl) (by kernel_rfl) (jkO ?_))
            refine jo_f [(0, 0)] (by kernel_rfl) ?_
            refine jo_end (by kernel_rfl) ?_
            refine jx_then ?_
            refine jc_ret ?_
            obtain rfl := Option.some.inj h
            refine jx_ghost 75 encGWornPin ?_
            refine jx_ghost 2 encI64 ?_
            exact jx_ret [3] (.tuple #[(.agg #[(.slice none 0 0), (.slice none 0 0)]), (.int .i64 2)]) [(b_4, b_4), (b_4, b_4)] rfl (by kernel_rfl) (by kernel_rfl) (fun w hm => ⟨none, 0, [], 0, rfl, (fun e => absurd rfl e), (fun _ => ⟨rfl, rfl⟩), none, 0, [], 0, rfl, (fun e => absurd rfl e), (fun _ => ⟨rfl, rfl⟩), rfl, hm.pick [4, 5] (by kernel_rfl) (by kernel_rfl)⟩)

/-! ### spec.l06Worn -/
noncomputable def spec_l06Worn.k_4 (xs_1 : List GWornPin) (xs_3 : List Int) : Option ((List GWornPin) × (List Int)) := some (xs_1, xs_3)
noncomputable def spec_l06Worn.l_7 (w0 : GWear) (v1 : GLives) : ((List Int) × Int) → Option (((List Int) × Int) ⊕ ((List Int)))
  | (xs_5, i_6) => (if (decide (i_6 < (w0.fStrokes.length : Int))) = true then (ix w0.fStrokes i_6).bind fun x_9 => (if (decide (x_9 > v1.fHammer)) = true then (if xs_5.length + [i_6].length ≤ 4294967296 then some (.inl ((xs_5 ++ [i_6]), (w64 (i_6 + 1)))) else none) else some (.inl (xs_5, (w64 (i_6 + 1))))) else some (.inr xs_5))
noncomputable def spec_l06Worn.k_2 (w0 : GWear) (v1 : GLives) (xs_1 : List GWornPin) : Option ((List GWornPin) × (List Int)) := (loop (spec_l06Worn.l_7 w0 v1) (([] : List Int), 0)).bind fun t_8 => spec_l06Worn.k_4 xs_1 t_8
noncomputable def spec_l06Worn.l_12 (w0 : GWear) (v1 : GLives) : ((List GWornPin) × Int) → Option (((List GWornPin) × Int) ⊕ ((List GWornPin)))
  | (xs_10, i_11) => (if (decide (i_11 < (w0.fPins.length : Int))) = true then (ix w0.fPins i_11).bind fun x_14 => (if (decide (x_14.fTurns > v1.fPin)) = true then (ix w0.fPins i_11).bind fun x_15 => (if xs_10.length + [x_15].length ≤ 4294967296 then some (.inl ((xs_10 ++ [x_15]), (w64 (i_11 + 1)))) else none) else some (.inl (xs_10, (w64 (i_11 + 1))))) else some (.inr xs_10))
noncomputable def spec_l06Worn (w0 : GWear) (v1 : GLives) : Option ((List GWornPin) × (List Int)) := (loop (spec_l06Worn.l_12 w0 v1) (([] : List GWornPin), 0)).bind fun t_13 => spec_l06Worn.k_2 w0 v1 t_13
set_option maxRecDepth 100000 in
theorem spec_l06Worn.calls (w0 : GWear) (v1 : GLives) (w : World) (r : (List GWornPin) × (List Int)) (w0_fPins_a : Option Addr) (w0_fPins_an : Nat) (w0_fPins_c : Nat) (w0_fPins_h : Rw w w0_fPins_a 3 encGWornPin w0.fPins) (w0_fPins_hn : w0.fPins.length = w0_fPins_an) (w0_fStrokes_a : Option Addr) (w0_fStrokes_an : Nat) (w0_fStrokes_c : Nat) (w0_fStrokes_h : Rw w w0_fStrokes_a 1 encI64 w0.fStrokes) (w0_fStrokes_hn : w0.fStrokes.length = w0_fStrokes_an) (w0_b : Nat) (hm0 : Mem w (bs [some w0_b]) [⟨some w0_b, 38, [(.slice w0_fPins_a w0_fPins_an w0_fPins_c), (.slice w0_fStrokes_a w0_fStrokes_an w0_fStrokes_c)]⟩] w) (w0_fPins_ha : w0.fPins ≠ [] → aB w0_fPins_a ∉ bs [some w0_b]) (w0_fStrokes_ha : w0.fStrokes ≠ [] → aB w0_fStrokes_a ∉ bs [some w0_b]) (h : spec_l06Worn w0 v1 = some r) :
    Calls Tryz.prog 79 #[(.pointer (some ⟨w0_b, 0, none⟩)), (.agg #[(.int .i64 v1.fPin), (.int .i64 v1.fHammer)])] w fun e w' => ∃ v, e = .returned v ∧ (∃ (o0 : Option Nat) (c0 : Nat) (s0 : List Value) (n0 : Nat), r.1.length = n0 ∧ (o0 ≠ none → n0 ≤ c0 ∧ s0.length = (c0 - n0) * 3) ∧ (o0 = none → r.1 = [] ∧ c0 = 0) ∧ ∃ (o1 : Option Nat) (c1 : Nat) (s1 : List Value) (n1 : Nat), r.2.length = n1 ∧ (o1 ≠ none → n1 ≤ c1 ∧ s1.length = (c1 - n1) * 1) ∧ (o1 = none → r.2 = [] ∧ c1 = 0) ∧ v = .tuple #[.slice (o0.map fun b => ⟨b, 0, none⟩) n0 c0, .slice (o1.map fun b => ⟨b, 0, none⟩) n1 c1] ∧ Mem w (bs [some w0_b]) [⟨some w0_b, 38, [(.slice w0_fPins_a w0_fPins_an w0_fPins_c), (.slice w0_fStrokes_a w0_fStrokes_an w0_fStrokes_c)]⟩, ⟨o0, 75, row encGWornPin r.1 s0⟩, ⟨o1, 2, row encI64 r.2 s1⟩] w') := by
  subst w0_fPins_hn w0_fStrokes_hn
  rw [spec_l06Worn] at h
  refine enter (args := [(.pointer (some ⟨w0_b, 0, none⟩)), (.agg #[(.int .i64 v1.fPin), (.int .i64 v1.fHammer)])]) Tryz.func79 rfl Tryz.ntmps79 (by kernel_rfl) (L := [⟨some w0_b, 38, [(.slice w0_fPins_a w0.fPins.length w0_fPins_c), (.slice w0_fStrokes_a w0.fStrokes.length w0_fStrokes_c)]⟩]) (W := bs [some w0_b]) hm0 ?_
  refine jc_seq ?_
  refine jc_region ?_
  refine toO (by kernel_rfl) (p_a 0 [0] (by kernel_rfl) (fun b => by kernel_rfl) (fun b_1 => jkO ?_))
  refine jo_f [(0, 0), (0, 0)] (by kernel_rfl) ?_
  refine jo_end (by kernel_rfl) ?_
  refine jx_then ?_
  refine jc_seq ?_
  refine jc_region ?_
  refine toO (by kernel_rfl) (p_a 0 [0] (by kernel_rfl) (fun b => by kernel_rfl) (fun b_2 => jkO ?_))
  refine jo_f [(0, 0)] (by kernel_rfl) ?_
  refine jo_end (by kernel_rfl) ?_
  refine jx_then ?_
  refine jc_seq ?_
  refine jc_region ?_
  refine toO (by kernel_rfl) (p_a 0 [0] (by kernel_rfl) (fun b => by kernel_rfl) (fun b_3 => jkO ?_))
  refine jo_f [(0, 0)] (by kernel_rfl) ?_
  refine jo_end (by kernel_rfl) ?_
  refine jx_then ?_
  refine jc_seq ?_
  refine jc_seq ?_
  refine jc_region ?_
  refine jo_f [(0, 0)] (by kernel_rfl) ?_
  refine jo_end (by kernel_rfl) ?_
  refine jx_then ?_
  refine jc_meet (fun (j : (List GWornPin) × (Option Nat) × Nat × (List Value) × Nat) => match j with | ⟨xs_1, o_166, cap_167, sp_168, n_169⟩ => spec_l06Worn.k_2 w0 v1 xs_1 = some r ∧ (xs_1.length = n_169) ∧ ((o_166 ≠ none → n_169 ≤ cap_167 ∧ sp_168.length = (cap_167 - n_169) * 3)) ∧ ((o_166 = none → xs_1 = [] ∧ cap_167 = 0))) (fun (j : (List GWornPin) × (Option Nat) × Nat × (List Value) × Nat) => match j with | ⟨xs_1, o_166, cap_167, sp_168, n_169⟩ => [(0, [], (.pointer (some ⟨w0_b, 0, none⟩))), (3, [], (.pointer (some ⟨b_1, 0, none⟩))), (4, [], (.slice none 0 0)), (5, [], (.slice none 0 0)), (6, [], (.slice (o_166.map fun b => ⟨b, 0, none⟩) n_169 cap_167)), (7, [], (.slice (some ⟨b_3, 0, none⟩) 0 0))]) (fun (j : (List GWornPin) × (Option Nat) × Nat × (List Value) × Nat) => match j with | ⟨xs_1, o_166, cap_167, sp_168, n_169⟩ => [⟨some w0_b, 38, [(.slice w0_fPins_a w0.fPins.length w0_fPins_c), (.slice w0_fStrokes_a w0.fStrokes.length w0_fStrokes_c)]⟩, ⟨some b_1, 46, [(.int .i64 v1.fPin), (.int .i64 v1.fHammer)]⟩, ⟨o_166, 75, row encGWornPin xs_1 sp_168⟩, ⟨(some b_3), 2, row encI64 ([] : List Int) []⟩]) ?_ ?_
  · refine jc_block ?_
    obtain ⟨t_13, ht_431, hr_416⟩ := bd h
    refine jc_loop (fun (s : (List GWornPin) × Int) (x : (Option Nat) × Nat × (List Value) × Nat) => match s, x with | ⟨xs_10, i_11⟩, ⟨o_410, cap_411, sp_412, n_413⟩ => (xs_10.length = n_413) ∧ ((o_410 ≠ none → n_413 ≤ cap_411 ∧ sp_412.length = (cap_411 - n_413) * 3)) ∧ ((o_410 = none → xs_10 = [] ∧ cap_411 = 0))) (fun (s : (List GWornPin) × Int) (x : (Option Nat) × Nat × (List Value) × Nat) => match s, x with | ⟨xs_10, i_11⟩, ⟨o_410, cap_411, sp_412, n_413⟩ => [(0, [], (.pointer (some ⟨w0_b, 0, none⟩))), (3, [], (.pointer (some ⟨b_1, 0, none⟩))), (4, [], (.slice none 0 0)), (5, [], (.slice none 0 0)), (6, [], (.slice (o_410.map fun b => ⟨b, 0, none⟩) n_413 cap_411)), (7, [], (.slice (some ⟨b_3, 0, none⟩) 0 0)), (8, [], (.int .i64 i_11))]) (fun (s : (List GWornPin) × Int) (x : (Option Nat) × Nat × (List Value) × Nat) => match s, x with | ⟨xs_10, i_11⟩, ⟨o_410, cap_411, sp_412, n_413⟩ => [⟨some w0_b, 38, [(.slice w0_fPins_a w0.fPins.length w0_fPins_c), (.slice w0_fStrokes_a w0.fStrokes.length w0_fStrokes_c)]⟩, ⟨some b_1, 46, [(.int .i64 v1.fPin), (.int .i64 v1.fHammer)]⟩, ⟨o_410, 75, row encGWornPin xs_10 sp_412⟩, ⟨(some b_3), 2, row encI64 ([] : List Int) []⟩]) ht_431 ⟨(some b_2), 0, [], 0⟩ ⟨rfl, (fun _ => ⟨Nat.le_refl _, by simp⟩), (fun e => nomatch e)⟩ (by kernel_rfl) [0, 1, 2, 3] (by kernel_rfl) (by kernel_rfl) ?_
    rintro ⟨xs_10, i_11⟩ ⟨o_410, cap_411, sp_412, n_413⟩ y_417 ⟨rfl, hs_414, ho_415⟩ h
    rw [spec_l06Worn.l_12] at h
    refine jc_seq ?_
    refine jc_seq ?_
    refine jc_region ?_
    refine jo_f [(0, 0), (0, 0), (0, 0), (0, 0), (0, 0), (0, 0), (0, 0)] (by kernel_rfl) ?_
    refine jo_end (by kernel_rfl) ?_
    refine jx_then ?_
    refine jc_cond (decide (i_11 < (w0.fPins.length : Int))) (by kernel_rfl) (fun hc_419 => ?_) (fun hc_419 => ?_)
    · replace h := ifT hc_419 h
      refine jc_skip ?_
      refine jx_then ?_
      refine jc_seq ?_
      refine jc_block ?_
      refine jc_seq ?_
      refine jc_draw [⟨some w0_b, 38, [(.slice w0_fPins_a w0.fPins.length w0_fPins_c), (.slice w0_fStrokes_a w0.fStrokes.length w0_fStrokes_c)]⟩, ⟨some b_1, 46, [(.int .i64 v1.fPin), (.int .i64 v1.fHammer)]⟩, ⟨o_410, 75, row encGWornPin xs_10 sp_412⟩, ⟨(some b_3), 2, row encI64 ([] : List Int) []⟩] 11 (by kernel_rfl) (by kernel_rfl) ?_
      refine jd_f [⟨0, 0, 0⟩, ⟨1, 0, 0⟩, ⟨2, 0, 0⟩, ⟨3, 0, 0⟩, ⟨4, 0, 0⟩, ⟨8, 0, 0⟩, ⟨9, 1, 0⟩] 4 (by kernel_rfl) (by kernel_rfl) (fun w h => h.pick [0, 1, 2, 3] (by kernel_rfl) (by kernel_rfl)) (by kernel_rfl) (by kernel_rfl) ?_
      obtain ⟨x_14, hx_420, h⟩ := bd h
      refine jd_v 5 0 (by kernel_rfl) (fun w h => h.pick [0, 1, 2, 3] (by kernel_rfl) (by kernel_rfl)) (by kernel_rfl) (by kernel_rfl) _ (fun w hm => idx_run (a := w0_fPins_a) (len := w0.fPins.length) (s := 3) (j := i_11) (by kernel_rfl) (ix_some hx_420).1 (ltn hx_420 rfl) (w0_fPins_h.sp hx_420)) ?_
      refine jd_f [⟨6, 0, 0⟩] 2 (by kernel_rfl) (by kernel_rfl) (fun w h => h.pick [0, 1, 2, 3] (by kernel_rfl) (by kernel_rfl)) (by kernel_rfl) (by kernel_rfl) ?_
      refine jd_v 7 0 (by kernel_rfl) (fun w h => h.pick [0, 1, 2, 3] (by kernel_rfl) (by kernel_rfl)) (by kernel_rfl) (by kernel_rfl) _ (fun w hm => ld_run (b := aB w0_fPins_a) (off := (aO w0_fPins_a + i_11.toNat * 3 + 2)) (s := 1) (agg := false) (vs := (((encGWornPin x_14).drop 2).take 1)) (by kernel_rfl) (by kernel_rfl) (.inr rfl) (((hm.exRowW w0_fPins_h w0_fPins_ha).at hx_420).sub 2 1)) ?_
      refine jd_f [⟨10, 0, 0⟩] 0 (by kernel_rfl) (by kernel_rfl) (fun w h => h.pick [0, 1, 2, 3] (by kernel_rfl) (by kernel_rfl)) (by kernel_rfl) (by kernel_rfl) ?_
      refine jd_end (by kernel_rfl) ?_
      refine jx_then ?_
      refine jc_cond (decide (x_14.fTurns > v1.fPin)) (by kernel_rfl) (fun hc_421 => ?_) (fun hc_421 => ?_)
      · replace h := ifT hc_421 h
        refine jc_region ?_
        refine jo_f [(0, 0), (0, 0), (0, 0), (0, 0), (0, 0), (0, 0)] (by kernel_rfl) ?_
        obtain ⟨x_15, hx_422, h⟩ := bd h
        refine toO (by kernel_rfl) (p_idx 0 w0_fPins_a w0.fPins.length i_11 3 (by kernel_rfl) (by kernel_rfl) (ix_some hx_422).1 (ltn hx_422 rfl) (w0_fPins_h.sp hx_422) (jkO ?_))
        refine toO (by kernel_rfl) (p_ld 0 (aB w0_fPins_a) (aO w0_fPins_a + i_11.toNat * 3) true (encGWornPin x_15) (by kernel_rfl) (by kernel_rfl) (by kernel_rfl) (fun w hm => ((hm.exRowW w0_fPins_h w0_fPins_ha).at hx_422)) (jkO ?_))
        refine toO (by kernel_rfl) (p_a 0 [0] (by kernel_rfl) (fun b => by kernel_rfl) (fun b_423 => jkO ?_))
        obtain ⟨hg_424, h⟩ := gd h
        refine toO (by kernel_rfl) (p_apn 0 2 o_410 75 xs_10.length 1 cap_411 3 16 (some ⟨b_423, 0, none⟩) encGWornPin xs_10 [x_15] sp_412 (.agg #[(.int .i8 0), (.int .i8 0), (.int .i64 0)]) rfl rfl (by kernel_rfl) (by kernel_rfl) (by kernel_rfl) encGWornPin_len encGWornPin_cell hs_414 ho_415 (fun w hm => (hm.ownRow (hh := 4) (o := (some b_423)) (T := 75) (enc := encGWornPin) (xs := [x_15]) (sp := []) (by kernel_rfl) (fun e => nomatch e) encGWornPin_len)) hg_424 (by kernel_rfl) (by kernel_rfl) (fun o_425 cap_426 sp_427 hs_428 ho_429 => jkO ?_))
        refine jo_f [(0, 0)] (by kernel_rfl) ?_
        refine jo_end (by kernel_rfl) ?_
        refine jx_inn ?_
        refine jx_then ?_
        refine jc_region ?_
        refine jo_f [(0, 0), (0, 0), (0, 0)] (by kernel_rfl) ?_
        refine jo_end (by kernel_rfl) ?_
        exact jx_back ((xs_10 ++ [x_15]), (w64 (i_11 + 1))) ⟨o_425, cap_426, sp_427, (xs_10 ++ [x_15]).length⟩ (Option.some.inj h).symm ⟨rfl, hs_428, ho_429⟩ [0, 1, 2, 3] (by kernel_rfl) (by kernel_rfl) (by kernel_rfl)
      · replace h := ifF hc_421 h
        refine jc_skip ?_
        refine jx_inn ?_
        refine jx_then ?_
        refine jc_region ?_
        refine jo_f [(0, 0), (0, 0), (0, 0)] (by kernel_rfl) ?_
        refine jo_end (by kernel_rfl) ?_
        exact jx_back (xs_10, (w64 (i_11 + 1))) ⟨o_410, cap_411, sp_412, xs_10.length⟩ (Option.some.inj h).symm ⟨rfl, hs_414, ho_415⟩ [0, 1, 2, 3] (by kernel_rfl) (by kernel_rfl) (by kernel_rfl)
    · replace h := ifF hc_419 h
      refine jc_exit ?_
      refine jx_thenx ?_
      refine jx_leave xs_10 (Option.some.inj h).symm (fun e_430 => ?_)
      subst e_430
      refine jx_ine ?_
      exact jx_meet ⟨xs_10, o_410, cap_411, sp_412, xs_10.length⟩ ⟨hr_416, rfl, hs_414, ho_415⟩ (by kernel_rfl) [0, 1, 2, 3] (by kernel_rfl) (by kernel_rfl)
  · rintro ⟨xs_1, o_166, cap_167, sp_168, n_169⟩ ⟨h, rfl, hs_170, ho_171⟩
    replace h : spec_l06Worn.k_2 w0 v1 xs_1 = some r := h
    rw [spec_l06Worn.k_2] at h
    refine jx_then ?_
    refine jc_seq ?_
    refine jc_seq ?_
    refine jc_region ?_
    refine jo_f [(0, 0)] (by kernel_rfl) ?_
    refine jo_end (by kernel_rfl) ?_
    refine jx_then ?_
    refine jc_meet (fun (j : (List Int) × (Option Nat) × Nat × (List Value) × Nat) => match j with | ⟨xs_3, o_325, cap_326, sp_327, n_328⟩ => spec_l06Worn.k_4 xs_1 xs_3 = some r ∧ (xs_3.length = n_328) ∧ ((o_325 ≠ none → n_328 ≤ cap_326 ∧ sp_327.length = (cap_326 - n_328) * 1)) ∧ ((o_325 = none → xs_3 = [] ∧ cap_326 = 0))) (fun (j : (List Int) × (Option Nat) × Nat × (List Value) × Nat) => match j with | ⟨xs_3, o_325, cap_326, sp_327, n_328⟩ => [(4, [], (.slice none 0 0)), (5, [], (.slice none 0 0)), (6, [], (.slice (o_166.map fun b => ⟨b, 0, none⟩) xs_1.length cap_167)), (7, [], (.slice (o_325.map fun b => ⟨b, 0, none⟩) n_328 cap_326))]) (fun (j : (List Int) × (Option Nat) × Nat × (List Value) × Nat) => match j with | ⟨xs_3, o_325, cap_326, sp_327, n_328⟩ => [⟨some w0_b, 38, [(.slice w0_fPins_a w0.fPins.length w0_fPins_c), (.slice w0_fStrokes_a w0.fStrokes.length w0_fStrokes_c)]⟩, ⟨some b_1, 46, [(.int .i64 v1.fPin), (.int .i64 v1.fHammer)]⟩, ⟨o_166, 75, row encGWornPin xs_1 sp_168⟩, ⟨o_325, 2, row encI64 xs_3 sp_327⟩]) ?_ ?_
    · refine jc_block ?_
      obtain ⟨t_8, ht_379, hr_365⟩ := bd h
      refine jc_loop (fun (s : (List Int) × Int) (x : (Option Nat) × Nat × (List Value) × Nat) => match s, x with | ⟨xs_5, i_6⟩, ⟨o_359, cap_360, sp_361, n_362⟩ => (xs_5.length = n_362) ∧ ((o_359 ≠ none → n_362 ≤ cap_360 ∧ sp_361.length = (cap_360 - n_362) * 1)) ∧ ((o_359 = none → xs_5 = [] ∧ cap_360 = 0))) (fun (s : (List Int) × Int) (x : (Option Nat) × Nat × (List Value) × Nat) => match s, x with | ⟨xs_5, i_6⟩, ⟨o_359, cap_360, sp_361, n_362⟩ => [(0, [], (.pointer (some ⟨w0_b, 0, none⟩))), (3, [], (.pointer (some ⟨b_1, 0, none⟩))), (4, [], (.slice none 0 0)), (5, [], (.slice none 0 0)), (6, [], (.slice (o_166.map fun b => ⟨b, 0, none⟩) xs_1.length cap_167)), (7, [], (.slice (o_359.map fun b => ⟨b, 0, none⟩) n_362 cap_360)), (9, [], (.int .i64 i_6))]) (fun (s : (List Int) × Int) (x : (Option Nat) × Nat × (List Value) × Nat) => match s, x with | ⟨xs_5, i_6⟩, ⟨o_359, cap_360, sp_361, n_362⟩ => [⟨some w0_b, 38, [(.slice w0_fPins_a w0.fPins.length w0_fPins_c), (.slice w0_fStrokes_a w0.fStrokes.length w0_fStrokes_c)]⟩, ⟨some b_1, 46, [(.int .i64 v1.fPin), (.int .i64 v1.fHammer)]⟩, ⟨o_166, 75, row encGWornPin xs_1 sp_168⟩, ⟨o_359, 2, row encI64 xs_5 sp_361⟩]) ht_379 ⟨(some b_3), 0, [], 0⟩ ⟨rfl, (fun _ => ⟨Nat.le_refl _, by simp⟩), (fun e => nomatch e)⟩ (by kernel_rfl) [0, 1, 2, 3] (by kernel_rfl) (by kernel_rfl) ?_
      rintro ⟨xs_5, i_6⟩ ⟨o_359, cap_360, sp_361, n_362⟩ y_366 ⟨rfl, hs_363, ho_364⟩ h
      rw [spec_l06Worn.l_7] at h
      refine jc_seq ?_
      refine jc_seq ?_
      refine jc_region ?_
      refine jo_f [(0, 0), (0, 0), (0, 0), (0, 0), (0, 0), (0, 0), (0, 0)] (by kernel_rfl) ?_
      refine jo_end (by kernel_rfl) ?_
      refine jx_then ?_
      refine jc_cond (decide (i_6 < (w0.fStrokes.length : Int))) (by kernel_rfl) (fun hc_368 => ?_) (fun hc_368 => ?_)
      · replace h := ifT hc_368 h
        refine jc_skip ?_
        refine jx_then ?_
        refine jc_seq ?_
        refine jc_block ?_
        refine jc_seq ?_
        refine jc_draw [⟨some w0_b, 38, [(.slice w0_fPins_a w0.fPins.length w0_fPins_c), (.slice w0_fStrokes_a w0.fStrokes.length w0_fStrokes_c)]⟩, ⟨some b_1, 46, [(.int .i64 v1.fPin), (.int .i64 v1.fHammer)]⟩, ⟨o_166, 75, row encGWornPin xs_1 sp_168⟩, ⟨o_359, 2, row encI64 xs_5 sp_361⟩] 10 (by kernel_rfl) (by kernel_rfl) ?_
        refine jd_f [⟨0, 0, 0⟩, ⟨1, 0, 0⟩, ⟨2, 0, 0⟩, ⟨3, 0, 0⟩, ⟨4, 0, 0⟩, ⟨7, 0, 0⟩, ⟨8, 1, 0⟩] 3 (by kernel_rfl) (by kernel_rfl) (fun w h => h.pick [0, 1, 2, 3] (by kernel_rfl) (by kernel_rfl)) (by kernel_rfl) (by kernel_rfl) ?_
        obtain ⟨x_9, hx_369, h⟩ := bd h
        refine jd_v 5 0 (by kernel_rfl) (fun w h => h.pick [0, 1, 2, 3] (by kernel_rfl) (by kernel_rfl)) (by kernel_rfl) (by kernel_rfl) _ (fun w hm => idx_run (a := w0_fStrokes_a) (len := w0.fStrokes.length) (s := 1) (j := i_6) (by kernel_rfl) (ix_some hx_369).1 (ltn hx_369 rfl) (w0_fStrokes_h.sp hx_369)) ?_
        refine jd_v 6 0 (by kernel_rfl) (fun w h => h.pick [0, 1, 2, 3] (by kernel_rfl) (by kernel_rfl)) (by kernel_rfl) (by kernel_rfl) _ (fun w hm => ld_run (b := aB w0_fStrokes_a) (off := (aO w0_fStrokes_a + i_6.toNat * 1)) (s := 1) (agg := false) (vs := (encI64 x_9)) (by kernel_rfl) (by kernel_rfl) (.inr rfl) ((hm.exRowW w0_fStrokes_h w0_fStrokes_ha).at hx_369)) ?_
        refine jd_f [⟨9, 0, 0⟩] 0 (by kernel_rfl) (by kernel_rfl) (fun w h => h.pick [0, 1, 2, 3] (by kernel_rfl) (by kernel_rfl)) (by kernel_rfl) (by kernel_rfl) ?_
        refine jd_end (by kernel_rfl) ?_
        refine jx_then ?_
        refine jc_cond (decide (x_9 > v1.fHammer)) (by kernel_rfl) (fun hc_370 => ?_) (fun hc_370 => ?_)
        · replace h := ifT hc_370 h
          refine jc_region ?_
          refine jo_f [(0, 0), (0, 0)] (by kernel_rfl) ?_
          refine toO (by kernel_rfl) (p_a 0 [0] (by kernel_rfl) (fun b => by kernel_rfl) (fun b_371 => jkO ?_))
          obtain ⟨hg_372, h⟩ := gd h
          refine toO (by kernel_rfl) (p_apn 0 3 o_359 2 xs_5.length 1 cap_360 1 8 (some ⟨b_371, 0, none⟩) encI64 xs_5 [i_6] sp_361 (.int .i64 0) rfl rfl (by kernel_rfl) (by kernel_rfl) (by kernel_rfl) encI64_len encI64_cell hs_363 ho_364 (fun w hm => (hm.ownRow (hh := 4) (o := (some b_371)) (T := 2) (enc := encI64) (xs := [i_6]) (sp := []) (by kernel_rfl) (fun e => nomatch e) encI64_len)) hg_372 (by kernel_rfl) (by kernel_rfl) (fun o_373 cap_374 sp_375 hs_376 ho_377 => jkO ?_))
          refine jo_f [(0, 0)] (by kernel_rfl) ?_
          refine jo_end (by kernel_rfl) ?_
          refine jx_inn ?_
          refine jx_then ?_
          refine jc_region ?_
          refine jo_f [(0, 0), (0, 0), (0, 0)] (by kernel_rfl) ?_
          refine jo_end (by kernel_rfl) ?_
          exact jx_back ((xs_5 ++ [i_6]), (w64 (i_6 + 1))) ⟨o_373, cap_374, sp_375, (xs_5 ++ [i_6]).length⟩ (Option.some.inj h).symm ⟨rfl, hs_376, ho_377⟩ [0, 1, 2, 3] (by kernel_rfl) (by kernel_rfl) (by kernel_rfl)
        · replace h := ifF hc_370 h
          refine jc_skip ?_
          refine jx_inn ?_
          refine jx_then ?_
          refine jc_region ?_
          refine jo_f [(0, 0), (0, 0), (0, 0)] (by kernel_rfl) ?_
          refine jo_end (by kernel_rfl) ?_
          exact jx_back (xs_5, (w64 (i_6 + 1))) ⟨o_359, cap_360, sp_361, xs_5.length⟩ (Option.some.inj h).symm ⟨rfl, hs_363, ho_364⟩ [0, 1, 2, 3] (by kernel_rfl) (by kernel_rfl) (by kernel_rfl)
      · replace h := ifF hc_368 h
        refine jc_exit ?_
        refine jx_thenx ?_
        refine jx_leave xs_5 (Option.some.inj h).symm (fun e_378 => ?_)
        subst e_378
        refine jx_ine ?_
        exact jx_meet ⟨xs_5, o_359, cap_360, sp_361, xs_5.length⟩ ⟨hr_365, rfl, hs_363, ho_364⟩ (by kernel_rfl) [0, 1, 2, 3] (by kernel_rfl) (by kernel_rfl)
    · rintro ⟨xs_3, o_325, cap_326, sp_327, n_328⟩ ⟨h, rfl, hs_329, ho_330⟩
      replace h : spec_l06Worn.k_4 xs_1 xs_3 = some r := h
      rw [spec_l06Worn.k_4] at h
      refine jx_then ?_
      refine jc_seq ?_
      refine jc_region ?_
      refine jo_f [(0, 0), (0, 0), (0, 0), (0, 0)] (by kernel_rfl) ?_
      refine jo_end (by kernel_rfl) ?_
      refine jx_then ?_
      refine jc_ret ?_
      obtain rfl := Option.some.inj h
      exact jx_ret [] (.tuple #[(.slice (o_166.map fun b => ⟨b, 0, none⟩) xs_1.length cap_167), (.slice (o_325.map fun b => ⟨b, 0, none⟩) xs_3.length cap_326)]) [] rfl (by kernel_rfl) (by kernel_rfl) (fun w hm => ⟨o_166, cap_167, sp_168, xs_1.length, rfl, hs_170, ho_171, o_325, cap_326, sp_327, xs_3.length, rfl, hs_329, ho_330, rfl, hm.pick [0, 2, 3] (by kernel_rfl) (by kernel_rfl)⟩)

/-! ### spec.l06Whole -/
noncomputable def spec_l06Whole (w0 : GWear) (v1 : GLives) : Option (Bool) := (spec_l06Worn w0 v1).bind fun t_1 => some (((t_1.1.length : Int) == 0) && ((t_1.2.length : Int) == 0))
set_option maxRecDepth 100000 in
theorem spec_l06Whole.calls (w0 : GWear) (v1 : GLives) (w : World) (r : Bool) (w0_fPins_a : Option Addr) (w0_fPins_an : Nat) (w0_fPins_c : Nat) (w0_fPins_h : Rw w w0_fPins_a 3 encGWornPin w0.fPins) (w0_fPins_hn : w0.fPins.length = w0_fPins_an) (w0_fStrokes_a : Option Addr) (w0_fStrokes_an : Nat) (w0_fStrokes_c : Nat) (w0_fStrokes_h : Rw w w0_fStrokes_a 1 encI64 w0.fStrokes) (w0_fStrokes_hn : w0.fStrokes.length = w0_fStrokes_an) (w0_b : Nat) (hm0 : Mem w (bs [some w0_b]) [⟨some w0_b, 38, [(.slice w0_fPins_a w0_fPins_an w0_fPins_c), (.slice w0_fStrokes_a w0_fStrokes_an w0_fStrokes_c)]⟩] w) (w0_fPins_ha : w0.fPins ≠ [] → aB w0_fPins_a ∉ bs [some w0_b]) (w0_fStrokes_ha : w0.fStrokes ≠ [] → aB w0_fStrokes_a ∉ bs [some w0_b]) (h : spec_l06Whole w0 v1 = some r) :
    Calls Tryz.prog 87 #[(.pointer (some ⟨w0_b, 0, none⟩)), (.agg #[(.int .i64 v1.fPin), (.int .i64 v1.fHammer)])] w fun e w' => ∃ v, e = .returned v ∧ (v = (.bool r) ∧ Mem w (bs [some w0_b]) [⟨some w0_b, 38, [(.slice w0_fPins_a w0_fPins_an w0_fPins_c), (.slice w0_fStrokes_a w0_fStrokes_an w0_fStrokes_c)]⟩] w') := by
  subst w0_fPins_hn w0_fStrokes_hn
  rw [spec_l06Whole] at h
  refine enter (args := [(.pointer (some ⟨w0_b, 0, none⟩)), (.agg #[(.int .i64 v1.fPin), (.int .i64 v1.fHammer)])]) Tryz.func87 rfl Tryz.ntmps87 (by kernel_rfl) (L := [⟨some w0_b, 38, [(.slice w0_fPins_a w0.fPins.length w0_fPins_c), (.slice w0_fStrokes_a w0.fStrokes.length w0_fStrokes_c)]⟩]) (W := bs [some w0_b]) hm0 ?_
  refine jc_seq ?_
  refine jc_region ?_
  refine toO (by kernel_rfl) (p_a 0 [0] (by kernel_rfl) (fun b => by kernel_rfl) (fun b_1 => jkO ?_))
  refine jo_f [(0, 0)] (by kernel_rfl) ?_
  refine jo_end (by kernel_rfl) ?_
  refine jx_then ?_
  refine jc_seq ?_
  refine jc_region ?_
  refine jo_f [(0, 0), (1, 0)] (by kernel_rfl) ?_
  obtain ⟨t_1, ht_2, h⟩ := bd h
  refine toO (by kernel_rfl) (p_call 0 79 #[(.pointer (some ⟨w0_b, 0, none⟩)), (.agg #[(.int .i64 v1.fPin), (.int .i64 v1.fHammer)])] (by kernel_rfl) (by kernel_rfl) (fun w hm => spec_l06Worn.calls w0 v1 w _ w0_fPins_a w0.fPins.length w0_fPins_c (hm.exRowW w0_fPins_h w0_fPins_ha) rfl w0_fStrokes_a w0.fStrokes.length w0_fStrokes_c (hm.exRowW w0_fStrokes_h w0_fStrokes_ha) rfl w0_b (hm.pass (N := [⟨some w0_b, 38, [(.slice w0_fPins_a w0.fPins.length w0_fPins_c), (.slice w0_fStrokes_a w0.fStrokes.length w0_fStrokes_c)]⟩]) [0] (by kernel_rfl) (by kernel_rfl)) (hm.exApart (N := [⟨some w0_b, 38, [(.slice w0_fPins_a w0.fPins.length w0_fPins_c), (.slice w0_fStrokes_a w0.fStrokes.length w0_fStrokes_c)]⟩]) w0_fPins_h w0_fPins_ha [0] (by kernel_rfl)) (hm.exApart (N := [⟨some w0_b, 38, [(.slice w0_fPins_a w0.fPins.length w0_fPins_c), (.slice w0_fStrokes_a w0.fStrokes.length w0_fStrokes_c)]⟩]) w0_fStrokes_h w0_fStrokes_ha [0] (by kernel_rfl)) ht_2) ?_)
  rintro w v w' hm ⟨o_3, cap_4, sp_5, _, rfl, hs_6, ho_7, o_8, cap_9, sp_10, _, rfl, hs_11, ho_12, rfl, hm'⟩
  refine ⟨_, hm.appW (ps := [(0, ⟨some w0_b, 38, [(.slice w0_fPins_a w0.fPins.length w0_fPins_c), (.slice w0_fStrokes_a w0.fStrokes.length w0_fStrokes_c)]⟩)]) (N := [⟨o_3, 75, row encGWornPin t_1.1 sp_5⟩, ⟨o_8, 2, row encI64 t_1.2 sp_10⟩]) hm' (by kernel_rfl) (by kernel_rfl), jkO ?_⟩
  clear hm hm'
  refine jo_f [(0, 0), (0, 0), (0, 0), (0, 0), (0, 0)] (by kernel_rfl) ?_
  refine jo_end (by kernel_rfl) ?_
  refine jx_then ?_
  refine jc_seq ?_
  refine jc_region ?_
  refine jo_f [(0, 0), (0, 0), (0, 0), (0, 0), (0, 1), (0, 1), (0, 1), (0, 0), (0, 0)] (by kernel_rfl) ?_
  refine jo_end (by kernel_rfl) ?_
  refine jx_then ?_
  refine jc_ret ?_
  obtain rfl := Option.some.inj h
  exact jx_ret [] (.bool (((t_1.1.length : Int) == 0) && ((t_1.2.length : Int) == 0))) [] rfl (by kernel_rfl) (by kernel_rfl) (fun w hm => ⟨rfl, hm.pick [0] (by kernel_rfl) (by kernel_rfl)⟩)

/-! ### spec.l06Done -/
noncomputable def spec_l06Done.k_4 (xs_2 : List GWornPin) (xs_3 : List Int) : Option (GWear × Int × Int) := some ((⟨xs_2, xs_3⟩ : GWear), (-1), 0)
noncomputable def spec_l06Done.k_15 (i_7 : Int) (xs_10 : List GWornPin) (xs_11 : List Int) (i_14 : Int) : Option (((List GWornPin) × (List Int) × Int) ⊕ ((GWear × Int × Int) ⊕ ((List GWornPin) × (List Int)))) := (if (i_14 != 0) = true then some (.inr (.inl ((⟨[], []⟩ : GWear), i_7, i_14))) else some (.inl (xs_10, xs_11, (w64 (i_7 + 1)))))
noncomputable def spec_l06Done.k_13 (v2 : GLives) (i_7 : Int) (xs_10 : List GWornPin) (xs_11 : List Int) (i_12 : Int) : Option (((List GWornPin) × (List Int) × Int) ⊕ ((GWear × Int × Int) ⊕ ((List GWornPin) × (List Int)))) := (if (i_12 == 0) = true then (spec_l06Whole (⟨xs_10, xs_11⟩ : GWear) v2).bind fun t_16 => (if (!t_16) = true then spec_l06Done.k_15 i_7 xs_10 xs_11 8 else spec_l06Done.k_15 i_7 xs_10 xs_11 i_12) else spec_l06Done.k_15 i_7 xs_10 xs_11 i_12)
noncomputable def spec_l06Done.l_8 (f0 : GFrame) (v2 : GLives) (list3 : List GAct) : ((List GWornPin) × (List Int) × Int) → Option (((List GWornPin) × (List Int) × Int) ⊕ ((GWear × Int × Int) ⊕ ((List GWornPin) × (List Int))))
  | (xs_5, xs_6, i_7) => (if (decide (i_7 < (list3.length : Int))) = true then (ix list3 i_7).bind fun x_17 => (spec_DoWearAct f0 (⟨xs_5, xs_6⟩ : GWear) x_17).bind fun t_18 => spec_l06Done.k_13 v2 i_7 t_18.1.fPins t_18.1.fStrokes t_18.2 else some (.inr (.inr (xs_5, xs_6))))
noncomputable def spec_l06Done (f0 : GFrame) (w1 : GWear) (v2 : GLives) (list3 : List GAct) : Option (GWear × Int × Int) := (spec_l06Copy w1).bind fun t_1 => (loop (spec_l06Done.l_8 f0 v2 list3) (t_1.fPins, t_1.fStrokes, 0)).bind fun t_9 => match t_9 with | .inl p => some p | .inr p => spec_l06Done.k_4 p.1 p.2
set_option maxRecDepth 100000 in
theorem spec_l06Done.calls (f0 : GFrame) (w1 : GWear) (v2 : GLives) (list3 : List GAct) (w : World) (r : GWear × Int × Int) (f0_fHammers_a : Option Addr) (f0_fHammers_an : Nat) (f0_fHammers_c : Nat) (f0_fHammers_h : Rw w f0_fHammers_a 2 encGHammer f0.fHammers) (f0_fHammers_hn : f0.fHammers.length = f0_fHammers_an) (w1_fPins_a : Option Addr) (w1_fPins_an : Nat) (w1_fPins_c : Nat) (w1_fPins_h : Rw w w1_fPins_a 3 encGWornPin w1.fPins) (w1_fPins_hn : w1.fPins.length = w1_fPins_an) (w1_fStrokes_a : Option Addr) (w1_fStrokes_an : Nat) (w1_fStrokes_c : Nat) (w1_fStrokes_h : Rw w w1_fStrokes_a 1 encI64 w1.fStrokes) (w1_fStrokes_hn : w1.fStrokes.length = w1_fStrokes_an) (list3_a : Option Addr) (list3_an : Nat) (list3_c : Nat) (list3_h : Rw w list3_a 5 encGAct list3) (list3_hn : list3.length = list3_an) (f0_b : Nat) (w1_b : Nat) (hm0 : Mem w (bs [some f0_b, some w1_b]) [⟨some f0_b, 43, [(.int .i16 f0.fSteps), (.slice f0_fHammers_a f0_fHammers_an f0_fHammers_c)]⟩, ⟨some w1_b, 38, [(.slice w1_fPins_a w1_fPins_an w1_fPins_c), (.slice w1_fStrokes_a w1_fStrokes_an w1_fStrokes_c)]⟩] w) (f0_fHammers_ha : f0.fHammers ≠ [] → aB f0_fHammers_a ∉ bs [some f0_b, some w1_b]) (w1_fPins_ha : w1.fPins ≠ [] → aB w1_fPins_a ∉ bs [some f0_b, some w1_b]) (w1_fStrokes_ha : w1.fStrokes ≠ [] → aB w1_fStrokes_a ∉ bs [some f0_b, some w1_b]) (list3_ha : list3 ≠ [] → aB list3_a ∉ bs [some f0_b, some w1_b]) (h : spec_l06Done f0 w1 v2 list3 = some r) :
    Calls Tryz.prog 42 #[(.pointer (some ⟨f0_b, 0, none⟩)), (.pointer (some ⟨w1_b, 0, none⟩)), (.agg #[(.int .i64 v2.fPin), (.int .i64 v2.fHammer)]), (.slice list3_a list3_an list3_c)] w fun e w' => ∃ v, e = .returned v ∧ (∃ (o0 : Option Nat) (c0 : Nat) (s0 : List Value) (n0 : Nat), r.1.fPins.length = n0 ∧ (o0 ≠ none → n0 ≤ c0 ∧ s0.length = (c0 - n0) * 3) ∧ (o0 = none → r.1.fPins = [] ∧ c0 = 0) ∧ ∃ (o1 : Option Nat) (c1 : Nat) (s1 : List Value) (n1 : Nat), r.1.fStrokes.length = n1 ∧ (o1 ≠ none → n1 ≤ c1 ∧ s1.length = (c1 - n1) * 1) ∧ (o1 = none → r.1.fStrokes = [] ∧ c1 = 0) ∧ v = .tuple #[.agg #[.slice (o0.map fun b => ⟨b, 0, none⟩) n0 c0, .slice (o1.map fun b => ⟨b, 0, none⟩) n1 c1], (.int .i64 r.2.1), (.int .i64 r.2.2)] ∧ Mem w (bs [some f0_b, some w1_b]) [⟨some f0_b, 43, [(.int .i16 f0.fSteps), (.slice f0_fHammers_a f0_fHammers_an f0_fHammers_c)]⟩, ⟨some w1_b, 38, [(.slice w1_fPins_a w1_fPins_an w1_fPins_c), (.slice w1_fStrokes_a w1_fStrokes_an w1_fStrokes_c)]⟩, ⟨o0, 75, row encGWornPin r.1.fPins s0⟩, ⟨o1, 2, row encI64 r.1.fStrokes s1⟩] w') := by
  subst f0_fHammers_hn w1_fPins_hn w1_fStrokes_hn list3_hn
  rw [spec_l06Done] at h
  refine enter (args := [(.pointer (some ⟨f0_b, 0, none⟩)), (.pointer (some ⟨w1_b, 0, none⟩)), (.agg #[(.int .i64 v2.fPin), (.int .i64 v2.fHammer)]), (.slice list3_a list3.length list3_c)]) Tryz.func42 rfl Tryz.ntmps42 (by kernel_rfl) (L := [⟨some f0_b, 43, [(.int .i16 f0.fSteps), (.slice f0_fHammers_a f0.fHammers.length f0_fHammers_c)]⟩, ⟨some w1_b, 38, [(.slice w1_fPins_a w1.fPins.length w1_fPins_c), (.slice w1_fStrokes_a w1.fStrokes.length w1_fStrokes_c)]⟩]) (W := bs [some f0_b, some w1_b]) hm0 ?_
  refine jc_seq ?_
  refine jc_region ?_
  refine toO (by kernel_rfl) (p_a 0 [0] (by kernel_rfl) (fun b => by kernel_rfl) (fun b_1 => jkO ?_))
  refine toO (by kernel_rfl) (p_a 0 [0] (by kernel_rfl) (fun b => by kernel_rfl) (fun b_2 => jkO ?_))
  refine jo_f [(0, 0), (0, 0)] (by kernel_rfl) ?_
  refine jo_end (by kernel_rfl) ?_
  refine jx_then ?_
  refine jc_seq ?_
  refine jc_region ?_
  refine jo_f [(0, 0)] (by kernel_rfl) ?_
  obtain ⟨t_1, ht_3, h⟩ := bd h
  refine toO (by kernel_rfl) (p_call 0 85 #[(.pointer (some ⟨w1_b, 0, none⟩))] (by kernel_rfl) (by kernel_rfl) (fun w hm => spec_l06Copy.calls w1 w _ w1_fPins_a w1.fPins.length w1_fPins_c (hm.exRowW w1_fPins_h w1_fPins_ha) rfl w1_fStrokes_a w1.fStrokes.length w1_fStrokes_c (hm.exRowW w1_fStrokes_h w1_fStrokes_ha) rfl w1_b (hm.pass (N := [⟨some w1_b, 38, [(.slice w1_fPins_a w1.fPins.length w1_fPins_c), (.slice w1_fStrokes_a w1.fStrokes.length w1_fStrokes_c)]⟩]) [1] (by kernel_rfl) (by kernel_rfl)) (hm.exApart (N := [⟨some w1_b, 38, [(.slice w1_fPins_a w1.fPins.length w1_fPins_c), (.slice w1_fStrokes_a w1.fStrokes.length w1_fStrokes_c)]⟩]) w1_fPins_h w1_fPins_ha [1] (by kernel_rfl)) (hm.exApart (N := [⟨some w1_b, 38, [(.slice w1_fPins_a w1.fPins.length w1_fPins_c), (.slice w1_fStrokes_a w1.fStrokes.length w1_fStrokes_c)]⟩]) w1_fStrokes_h w1_fStrokes_ha [1] (by kernel_rfl)) ht_3) ?_)
  rintro w v w' hm ⟨o_4, cap_5, sp_6, _, rfl, hs_7, ho_8, o_9, cap_10, sp_11, _, rfl, hs_12, ho_13, rfl, hm'⟩
  refine ⟨_, hm.appW (ps := [(1, ⟨some w1_b, 38, [(.slice w1_fPins_a w1.fPins.length w1_fPins_c), (.slice w1_fStrokes_a w1.fStrokes.length w1_fStrokes_c)]⟩)]) (N := [⟨o_4, 75, row encGWornPin t_1.fPins sp_6⟩, ⟨o_9, 2, row encI64 t_1.fStrokes sp_11⟩]) hm' (by kernel_rfl) (by kernel_rfl), jkO ?_⟩
  clear hm hm'
  refine toO (by kernel_rfl) (p_a 0 [0] (by kernel_rfl) (fun b => by kernel_rfl) (fun b_14 => jkO ?_))
  refine toO (by kernel_rfl) (p_s 0 [6] (by kernel_rfl) (by kernel_rfl) (jkO ?_))
  refine jo_end (by kernel_rfl) ?_
  refine jx_then ?_
  refine jc_seq ?_
  refine jc_seq ?_
  refine jc_region ?_
  refine jo_f [(0, 0)] (by kernel_rfl) ?_
  refine jo_end (by kernel_rfl) ?_
  refine jx_then ?_
  refine jc_meet (fun (j : (List GWornPin) × (List Int) × (Option Nat) × Nat × (List Value) × Nat × (Option Nat) × Nat × (List Value) × Nat) => match j with | ⟨xs_2, xs_3, o_780, cap_781, sp_782, n_783, o_786, cap_787, sp_788, n_789⟩ => spec_l06Done.k_4 xs_2 xs_3 = some r ∧ (xs_2.length = n_783) ∧ ((o_780 ≠ none → n_783 ≤ cap_781 ∧ sp_782.length = (cap_781 - n_783) * 3)) ∧ ((o_780 = none → xs_2 = [] ∧ cap_781 = 0)) ∧ (xs_3.length = n_789) ∧ ((o_786 ≠ none → n_789 ≤ cap_787 ∧ sp_788.length = (cap_787 - n_789) * 1)) ∧ ((o_786 = none → xs_3 = [] ∧ cap_787 = 0))) (fun (j : (List GWornPin) × (List Int) × (Option Nat) × Nat × (List Value) × Nat × (Option Nat) × Nat × (List Value) × Nat) => match j with | ⟨xs_2, xs_3, o_780, cap_781, sp_782, n_783, o_786, cap_787, sp_788, n_789⟩ => [(8, [], (.pointer (some ⟨b_2, 0, none⟩))), (9, [], (.int .i64 0)), (10, [], (.int .i64 0)), (11, [], (.pointer (some ⟨b_14, 0, none⟩)))]) (fun (j : (List GWornPin) × (List Int) × (Option Nat) × Nat × (List Value) × Nat × (Option Nat) × Nat × (List Value) × Nat) => match j with | ⟨xs_2, xs_3, o_780, cap_781, sp_782, n_783, o_786, cap_787, sp_788, n_789⟩ => [⟨some f0_b, 43, [(.int .i16 f0.fSteps), (.slice f0_fHammers_a f0.fHammers.length f0_fHammers_c)]⟩, ⟨some w1_b, 38, [(.slice w1_fPins_a w1.fPins.length w1_fPins_c), (.slice w1_fStrokes_a w1.fStrokes.length w1_fStrokes_c)]⟩, ⟨some b_1, 46, [(.int .i64 v2.fPin), (.int .i64 v2.fHammer)]⟩, ⟨some b_2, 38, [(.slice none 0 0), (.slice none 0 0)]⟩, ⟨none, 0, []⟩, ⟨none, 0, []⟩, ⟨some b_14, 38, [(.slice (o_780.map fun b => ⟨b, 0, none⟩) n_783 cap_781), (.slice (o_786.map fun b => ⟨b, 0, none⟩) n_789 cap_787)]⟩, ⟨o_780, 75, row encGWornPin xs_2 sp_782⟩, ⟨o_786, 2, row encI64 xs_3 sp_788⟩]) ?_ ?_
  · refine jc_block ?_
    obtain ⟨t_9, ht_1042, hr_964⟩ := bd h
    refine jc_ghost 0 (fun (_ : Unit) => ([] : List Value)) ?_
    refine jc_ghost 0 (fun (_ : Unit) => ([] : List Value)) ?_
    refine jc_loop (fun (s : (List GWornPin) × (List Int) × Int) (x : (Option Nat) × Nat × (List Value) × Nat × (Option Nat) × Nat × (List Value) × Nat) => match s, x with | ⟨xs_5, xs_6, i_7⟩, ⟨o_952, cap_953, sp_954, n_955, o_958, cap_959, sp_960, n_961⟩ => (xs_5.length = n_955) ∧ ((o_952 ≠ none → n_955 ≤ cap_953 ∧ sp_954.length = (cap_953 - n_955) * 3)) ∧ ((o_952 = none → xs_5 = [] ∧ cap_953 = 0)) ∧ (xs_6.length = n_961) ∧ ((o_958 ≠ none → n_961 ≤ cap_959 ∧ sp_960.length = (cap_959 - n_961) * 1)) ∧ ((o_958 = none → xs_6 = [] ∧ cap_959 = 0))) (fun (s : (List GWornPin) × (List Int) × Int) (x : (Option Nat) × Nat × (List Value) × Nat × (Option Nat) × Nat × (List Value) × Nat) => match s, x with | ⟨xs_5, xs_6, i_7⟩, ⟨o_952, cap_953, sp_954, n_955, o_958, cap_959, sp_960, n_961⟩ => [(0, [], (.pointer (some ⟨f0_b, 0, none⟩))), (3, [], (.slice list3_a list3.length list3_c)), (6, [], (.pointer (some ⟨b_1, 0, none⟩))), (8, [], (.pointer (some ⟨b_2, 0, none⟩))), (9, [], (.int .i64 0)), (10, [], (.int .i64 0)), (11, [], (.pointer (some ⟨b_14, 0, none⟩))), (12, [], (.int .i64 i_7))]) (fun (s : (List GWornPin) × (List Int) × Int) (x : (Option Nat) × Nat × (List Value) × Nat × (Option Nat) × Nat × (List Value) × Nat) => match s, x with | ⟨xs_5, xs_6, i_7⟩, ⟨o_952, cap_953, sp_954, n_955, o_958, cap_959, sp_960, n_961⟩ => [⟨some f0_b, 43, [(.int .i16 f0.fSteps), (.slice f0_fHammers_a f0.fHammers.length f0_fHammers_c)]⟩, ⟨some w1_b, 38, [(.slice w1_fPins_a w1.fPins.length w1_fPins_c), (.slice w1_fStrokes_a w1.fStrokes.length w1_fStrokes_c)]⟩, ⟨some b_1, 46, [(.int .i64 v2.fPin), (.int .i64 v2.fHammer)]⟩, ⟨some b_2, 38, [(.slice none 0 0), (.slice none 0 0)]⟩, ⟨none, 0, []⟩, ⟨none, 0, []⟩, ⟨some b_14, 38, [(.slice (o_952.map fun b => ⟨b, 0, none⟩) n_955 cap_953), (.slice (o_958.map fun b => ⟨b, 0, none⟩) n_961 cap_959)]⟩, ⟨o_952, 75, row encGWornPin xs_5 sp_954⟩, ⟨o_958, 2, row encI64 xs_6 sp_960⟩]) ht_1042 ⟨o_4, cap_5, sp_6, t_1.fPins.length, o_9, cap_10, sp_11, t_1.fStrokes.length⟩ ⟨rfl, hs_7, ho_8, rfl, hs_12, ho_13⟩ (by kernel_rfl) [0, 1, 2, 3, 7, 8, 6, 4, 5] (by kernel_rfl) (by kernel_rfl) ?_
    rintro ⟨xs_5, xs_6, i_7⟩ ⟨o_952, cap_953, sp_954, n_955, o_958, cap_959, sp_960, n_961⟩ y_965 ⟨rfl, hs_956, ho_957, rfl, hs_962, ho_963⟩ h
    rw [spec_l06Done.l_8] at h
    refine jc_seq ?_
    refine jc_seq ?_
    refine jc_region ?_
    refine jo_f [(0, 0), (0, 0), (0, 0), (0, 0)] (by kernel_rfl) ?_
    refine jo_end (by kernel_rfl) ?_
    refine jx_then ?_
    refine jc_cond (decide (i_7 < (list3.length : Int))) (by kernel_rfl) (fun hc_967 => ?_) (fun hc_967 => ?_)
    · replace h := ifT hc_967 h
      refine jc_skip ?_
      refine jx_then ?_
      refine jc_seq ?_
      refine jc_block ?_
      refine jc_seq ?_
      refine jc_meet (fun (j : (List GWornPin) × (List Int) × Int × Nat × (Option Nat) × Nat × (List Value) × Nat × (Option Nat) × Nat × (List Value) × Nat) => match j with | ⟨xs_10, xs_11, i_12, b_993, o_994, cap_995, sp_996, n_997, o_1000, cap_1001, sp_1002, n_1003⟩ => spec_l06Done.k_13 v2 i_7 xs_10 xs_11 i_12 = some y_965 ∧ (xs_10.length = n_997) ∧ ((o_994 ≠ none → n_997 ≤ cap_995 ∧ sp_996.length = (cap_995 - n_997) * 3)) ∧ ((o_994 = none → xs_10 = [] ∧ cap_995 = 0)) ∧ (xs_11.length = n_1003) ∧ ((o_1000 ≠ none → n_1003 ≤ cap_1001 ∧ sp_1002.length = (cap_1001 - n_1003) * 1)) ∧ ((o_1000 = none → xs_11 = [] ∧ cap_1001 = 0))) (fun (j : (List GWornPin) × (List Int) × Int × Nat × (Option Nat) × Nat × (List Value) × Nat × (Option Nat) × Nat × (List Value) × Nat) => match j with | ⟨xs_10, xs_11, i_12, b_993, o_994, cap_995, sp_996, n_997, o_1000, cap_1001, sp_1002, n_1003⟩ => [(0, [], (.pointer (some ⟨f0_b, 0, none⟩))), (3, [], (.slice list3_a list3.length list3_c)), (6, [], (.pointer (some ⟨b_1, 0, none⟩))), (8, [], (.pointer (some ⟨b_2, 0, none⟩))), (9, [], (.int .i64 0)), (10, [], (.int .i64 0)), (11, [], (.pointer (some ⟨b_14, 0, none⟩))), (12, [], (.int .i64 i_7)), (13, [], (.pointer (some ⟨b_993, 0, none⟩))), (14, [], (.int .i64 i_12))]) (fun (j : (List GWornPin) × (List Int) × Int × Nat × (Option Nat) × Nat × (List Value) × Nat × (Option Nat) × Nat × (List Value) × Nat) => match j with | ⟨xs_10, xs_11, i_12, b_993, o_994, cap_995, sp_996, n_997, o_1000, cap_1001, sp_1002, n_1003⟩ => [⟨some f0_b, 43, [(.int .i16 f0.fSteps), (.slice f0_fHammers_a f0.fHammers.length f0_fHammers_c)]⟩, ⟨some w1_b, 38, [(.slice w1_fPins_a w1.fPins.length w1_fPins_c), (.slice w1_fStrokes_a w1.fStrokes.length w1_fStrokes_c)]⟩, ⟨some b_1, 46, [(.int .i64 v2.fPin), (.int .i64 v2.fHammer)]⟩, ⟨some b_2, 38, [(.slice none 0 0), (.slice none 0 0)]⟩, ⟨none, 0, []⟩, ⟨none, 0, []⟩, ⟨some b_14, 38, [(.slice (o_952.map fun b => ⟨b, 0, none⟩) xs_5.length cap_953), (.slice (o_958.map fun b => ⟨b, 0, none⟩) xs_6.length cap_959)]⟩, ⟨o_952, 75, row encGWornPin xs_5 sp_954⟩, ⟨o_958, 2, row encI64 xs_6 sp_960⟩, ⟨some b_993, 38, [(.slice (o_994.map fun b => ⟨b, 0, none⟩) n_997 cap_995), (.slice (o_1000.map fun b => ⟨b, 0, none⟩) n_1003 cap_1001)]⟩, ⟨o_994, 75, row encGWornPin xs_10 sp_996⟩, ⟨o_1000, 2, row encI64 xs_11 sp_1002⟩]) ?_ ?_
      · refine jc_draw [⟨some f0_b, 43, [(.int .i16 f0.fSteps), (.slice f0_fHammers_a f0.fHammers.length f0_fHammers_c)]⟩, ⟨some w1_b, 38, [(.slice w1_fPins_a w1.fPins.length w1_fPins_c), (.slice w1_fStrokes_a w1.fStrokes.length w1_fStrokes_c)]⟩, ⟨some b_1, 46, [(.int .i64 v2.fPin), (.int .i64 v2.fHammer)]⟩, ⟨some b_2, 38, [(.slice none 0 0), (.slice none 0 0)]⟩, ⟨none, 0, []⟩, ⟨none, 0, []⟩, ⟨some b_14, 38, [(.slice (o_952.map fun b => ⟨b, 0, none⟩) xs_5.length cap_953), (.slice (o_958.map fun b => ⟨b, 0, none⟩) xs_6.length cap_959)]⟩, ⟨o_952, 75, row encGWornPin xs_5 sp_954⟩, ⟨o_958, 2, row encI64 xs_6 sp_960⟩] 15 (by kernel_rfl) (by kernel_rfl) ?_
        refine jd_f [⟨0, 0, 0⟩, ⟨1, 0, 0⟩, ⟨2, 0, 0⟩, ⟨3, 6, 0⟩, ⟨4, 0, 0⟩, ⟨5, 0, 0⟩] 9 (by kernel_rfl) (by kernel_rfl) (fun w h => h.pick [0, 1, 2, 3, 4, 5, 6, 7, 8] (by kernel_rfl) (by kernel_rfl)) (by kernel_rfl) (by kernel_rfl) ?_
        obtain ⟨x_17, hx_1016, h⟩ := bd h
        refine jd_v 6 0 (by kernel_rfl) (fun w h => h.pick [0, 1, 2, 3, 4, 5, 6, 7, 8] (by kernel_rfl) (by kernel_rfl)) (by kernel_rfl) (by kernel_rfl) _ (fun w hm => idx_run (a := list3_a) (len := list3.length) (s := 5) (j := i_7) (by kernel_rfl) (ix_some hx_1016).1 (ltn hx_1016 rfl) (list3_h.sp hx_1016)) ?_
        refine jd_v 7 0 (by kernel_rfl) (fun w h => h.pick [0, 1, 2, 3, 4, 5, 6, 7, 8] (by kernel_rfl) (by kernel_rfl)) (by kernel_rfl) (by kernel_rfl) _ (fun w hm => ld_run (b := aB list3_a) (off := (aO list3_a + i_7.toNat * 5)) (s := 5) (agg := true) (vs := (encGAct x_17)) (by kernel_rfl) (by kernel_rfl) (.inl rfl) ((hm.exRowW list3_h list3_ha).at hx_1016)) ?_
        refine toD2 8 12 (by kernel_rfl) ?_ ?_
        · obtain ⟨t_18, ht_1017, h⟩ := bd h
          refine p_call 0 86 #[(.agg #[(.int .i16 f0.fSteps), (.slice f0_fHammers_a f0.fHammers.length f0_fHammers_c)]), (.agg #[(.slice (o_952.map fun b => ⟨b, 0, none⟩) xs_5.length cap_953), (.slice (o_958.map fun b => ⟨b, 0, none⟩) xs_6.length cap_959)]), (.agg #[(.int .i8 x_17.fKind), (.int .i64 x_17.fA), (.int .i64 x_17.fB), (.int .i64 x_17.fC), (.int .i64 x_17.fD)])] (by kernel_rfl) (by kernel_rfl) (fun w hm => spec_DoWearAct.calls f0 (⟨xs_5, xs_6⟩ : GWear) x_17 w _ f0_fHammers_a f0.fHammers.length f0_fHammers_c (hm.exRowW f0_fHammers_h f0_fHammers_ha) rfl (o_952.map fun b => ⟨b, 0, none⟩) xs_5.length cap_953 (hm.ownRow (hh := 7) (o := o_952) (T := 75) (enc := encGWornPin) (xs := xs_5) (sp := sp_954) (by kernel_rfl) (fun e => (ho_957 e).1) encGWornPin_len) rfl (o_958.map fun b => ⟨b, 0, none⟩) xs_6.length cap_959 (hm.ownRow (hh := 8) (o := o_958) (T := 2) (enc := encI64) (xs := xs_6) (sp := sp_960) (by kernel_rfl) (fun e => (ho_963 e).1) encI64_len) rfl ht_1017) ?_
          rintro w v w' hm ⟨o_1018, cap_1019, sp_1020, _, rfl, hs_1021, ho_1022, o_1023, cap_1024, sp_1025, _, rfl, hs_1026, ho_1027, rfl, hm'⟩
          refine ⟨_, hm.app hm', jkD (fun w h => h.pick [0, 1, 2, 3, 4, 5, 6, 7, 8] (by kernel_rfl) (by kernel_rfl)) ?_⟩
          clear hm hm'
          refine jd_f [⟨9, 0, 0⟩, ⟨10, 0, 0⟩, ⟨11, 0, 0⟩] 3 (by kernel_rfl) (by kernel_rfl) (fun w h => h.pick [0, 1, 2, 3, 4, 5, 6, 7, 8] (by kernel_rfl) (by kernel_rfl)) (by kernel_rfl) (by kernel_rfl) ?_
          refine toD 12 (by kernel_rfl) (p_a 0 [0] (by kernel_rfl) (fun b => by kernel_rfl) (fun b_1028 => jkD (fun w h => h.pick [0, 1, 2, 3, 4, 5, 6, 7, 8] (by kernel_rfl) (by kernel_rfl)) ?_))
          refine toD 13 (by kernel_rfl) (p_s 0 [11] (by kernel_rfl) (by kernel_rfl) (jkD (fun w h => h.pick [0, 1, 2, 3, 4, 5, 6, 7, 8] (by kernel_rfl) (by kernel_rfl)) ?_))
          refine jd_f [⟨14, 0, 0⟩] 0 (by kernel_rfl) (by kernel_rfl) (fun w h => h.pick [0, 1, 2, 3, 4, 5, 6, 7, 8] (by kernel_rfl) (by kernel_rfl)) (by kernel_rfl) (by kernel_rfl) ?_
          refine jd_end (by kernel_rfl) ?_
          exact jx_meet ⟨t_18.1.fPins, t_18.1.fStrokes, t_18.2, b_1028, o_1018, cap_1019, sp_1020, t_18.1.fPins.length, o_1023, cap_1024, sp_1025, t_18.1.fStrokes.length⟩ ⟨h, rfl, hs_1021, ho_1022, rfl, hs_1026, ho_1027⟩ (by kernel_rfl) [0, 1, 2, 3, 4, 5, 6, 7, 8, 11, 9, 10] (by kernel_rfl) (by kernel_rfl)
        · refine p_a 0 [0] (by kernel_rfl) (fun b => by kernel_rfl) (fun b_1029 => jkD (fun w h => h.pick [0, 1, 2, 3, 4, 5, 6, 7, 8] (by kernel_rfl) (by kernel_rfl)) ?_)
          obtain ⟨t_18, ht_1030, h⟩ := bd h
          refine toD 8 (by kernel_rfl) (p_call 0 86 #[(.agg #[(.int .i16 f0.fSteps), (.slice f0_fHammers_a f0.fHammers.length f0_fHammers_c)]), (.agg #[(.slice (o_952.map fun b => ⟨b, 0, none⟩) xs_5.length cap_953), (.slice (o_958.map fun b => ⟨b, 0, none⟩) xs_6.length cap_959)]), (.agg #[(.int .i8 x_17.fKind), (.int .i64 x_17.fA), (.int .i64 x_17.fB), (.int .i64 x_17.fC), (.int .i64 x_17.fD)])] (by kernel_rfl) (by kernel_rfl) (fun w hm => spec_DoWearAct.calls f0 (⟨xs_5, xs_6⟩ : GWear) x_17 w _ f0_fHammers_a f0.fHammers.length f0_fHammers_c (hm.exRowW f0_fHammers_h f0_fHammers_ha) rfl (o_952.map fun b => ⟨b, 0, none⟩) xs_5.length cap_953 (hm.ownRow (hh := 7) (o := o_952) (T := 75) (enc := encGWornPin) (xs := xs_5) (sp := sp_954) (by kernel_rfl) (fun e => (ho_957 e).1) encGWornPin_len) rfl (o_958.map fun b => ⟨b, 0, none⟩) xs_6.length cap_959 (hm.ownRow (hh := 8) (o := o_958) (T := 2) (enc := encI64) (xs := xs_6) (sp := sp_960) (by kernel_rfl) (fun e => (ho_963 e).1) encI64_len) rfl ht_1030) ?_)
          rintro w v w' hm ⟨o_1031, cap_1032, sp_1033, _, rfl, hs_1034, ho_1035, o_1036, cap_1037, sp_1038, _, rfl, hs_1039, ho_1040, rfl, hm'⟩
          refine ⟨_, hm.app hm', jkD (fun w h => h.pick [0, 1, 2, 3, 4, 5, 6, 7, 8] (by kernel_rfl) (by kernel_rfl)) ?_⟩
          clear hm hm'
          refine jd_f [⟨9, 0, 0⟩, ⟨10, 0, 0⟩, ⟨11, 0, 0⟩] 2 (by kernel_rfl) (by kernel_rfl) (fun w h => h.pick [0, 1, 2, 3, 4, 5, 6, 7, 8] (by kernel_rfl) (by kernel_rfl)) (by kernel_rfl) (by kernel_rfl) ?_
          refine toD 13 (by kernel_rfl) (p_s 0 [9] (by kernel_rfl) (by kernel_rfl) (jkD (fun w h => h.pick [0, 1, 2, 3, 4, 5, 6, 7, 8] (by kernel_rfl) (by kernel_rfl)) ?_))
          refine jd_f [⟨14, 0, 0⟩] 0 (by kernel_rfl) (by kernel_rfl) (fun w h => h.pick [0, 1, 2, 3, 4, 5, 6, 7, 8] (by kernel_rfl) (by kernel_rfl)) (by kernel_rfl) (by kernel_rfl) ?_
          refine jd_end (by kernel_rfl) ?_
          exact jx_meet ⟨t_18.1.fPins, t_18.1.fStrokes, t_18.2, b_1029, o_1031, cap_1032, sp_1033, t_18.1.fPins.length, o_1036, cap_1037, sp_1038, t_18.1.fStrokes.length⟩ ⟨h, rfl, hs_1034, ho_1035, rfl, hs_1039, ho_1040⟩ (by kernel_rfl) [0, 1, 2, 3, 4, 5, 6, 7, 8, 9, 10, 11] (by kernel_rfl) (by kernel_rfl)
      · rintro ⟨xs_10, xs_11, i_12, b_993, o_994, cap_995, sp_996, n_997, o_1000, cap_1001, sp_1002, n_1003⟩ ⟨h, rfl, hs_998, ho_999, rfl, hs_1004, ho_1005⟩
        replace h : spec_l06Done.k_13 v2 i_7 xs_10 xs_11 i_12 = some y_965 := h
        rw [spec_l06Done.k_13] at h
        refine jx_then ?_
        refine jc_seq ?_
        refine jc_meet (fun (j : Int) => match j with | i_14 => spec_l06Done.k_15 i_7 xs_10 xs_11 i_14 = some y_965) (fun (j : Int) => match j with | i_14 => [(0, [], (.pointer (some ⟨f0_b, 0, none⟩))), (3, [], (.slice list3_a list3.length list3_c)), (6, [], (.pointer (some ⟨b_1, 0, none⟩))), (8, [], (.pointer (some ⟨b_2, 0, none⟩))), (9, [], (.int .i64 0)), (10, [], (.int .i64 0)), (11, [], (.pointer (some ⟨b_14, 0, none⟩))), (12, [], (.int .i64 i_7)), (13, [], (.pointer (some ⟨b_993, 0, none⟩))), (14, [], (.int .i64 i_14))]) (fun (j : Int) => match j with | i_14 => [⟨some f0_b, 43, [(.int .i16 f0.fSteps), (.slice f0_fHammers_a f0.fHammers.length f0_fHammers_c)]⟩, ⟨some w1_b, 38, [(.slice w1_fPins_a w1.fPins.length w1_fPins_c), (.slice w1_fStrokes_a w1.fStrokes.length w1_fStrokes_c)]⟩, ⟨some b_1, 46, [(.int .i64 v2.fPin), (.int .i64 v2.fHammer)]⟩, ⟨some b_2, 38, [(.slice none 0 0), (.slice none 0 0)]⟩, ⟨none, 0, []⟩, ⟨none, 0, []⟩, ⟨some b_14, 38, [(.slice (o_952.map fun b => ⟨b, 0, none⟩) xs_5.length cap_953), (.slice (o_958.map fun b => ⟨b, 0, none⟩) xs_6.length cap_959)]⟩, ⟨o_952, 75, row encGWornPin xs_5 sp_954⟩, ⟨o_958, 2, row encI64 xs_6 sp_960⟩, ⟨some b_993, 38, [(.slice (o_994.map fun b => ⟨b, 0, none⟩) xs_10.length cap_995), (.slice (o_1000.map fun b => ⟨b, 0, none⟩) xs_11.length cap_1001)]⟩, ⟨o_994, 75, row encGWornPin xs_10 sp_996⟩, ⟨o_1000, 2, row encI64 xs_11 sp_1002⟩]) ?_ ?_
        · refine jc_seq ?_
          refine jc_region ?_
          refine jo_f [(0, 0), (0, 0), (0, 0), (2, 1)] (by kernel_rfl) ?_
          refine jo_split 37 (i_12 == 0) (by kernel_rfl) (fun hc_1012 => ?_) (fun hc_1012 => ?_)
          · replace h := ifT hc_1012 h
            obtain ⟨t_16, ht_1013, h⟩ := bd h
            refine toO (by kernel_rfl) (p_call 2 87 #[(.pointer (some ⟨b_993, 0, none⟩)), (.agg #[(.int .i64 v2.fPin), (.int .i64 v2.fHammer)])] (by kernel_rfl) (by kernel_rfl) (fun w hm => spec_l06Whole.calls (⟨xs_10, xs_11⟩ : GWear) v2 w _ (o_994.map fun b => ⟨b, 0, none⟩) xs_10.length cap_995 (hm.ownRow (hh := 10) (o := o_994) (T := 75) (enc := encGWornPin) (xs := xs_10) (sp := sp_996) (by kernel_rfl) (fun e => (ho_999 e).1) encGWornPin_len) rfl (o_1000.map fun b => ⟨b, 0, none⟩) xs_11.length cap_1001 (hm.ownRow (hh := 11) (o := o_1000) (T := 2) (enc := encI64) (xs := xs_11) (sp := sp_1002) (by kernel_rfl) (fun e => (ho_1005 e).1) encI64_len) rfl b_993 (hm.pass (N := [⟨some b_993, 38, [(.slice (o_994.map fun b => ⟨b, 0, none⟩) xs_10.length cap_995), (.slice (o_1000.map fun b => ⟨b, 0, none⟩) xs_11.length cap_1001)]⟩]) [9] (by kernel_rfl) (by kernel_rfl)) (hm.ownApart (S := GWornPin) (N := [⟨some b_993, 38, [(.slice (o_994.map fun b => ⟨b, 0, none⟩) xs_10.length cap_995), (.slice (o_1000.map fun b => ⟨b, 0, none⟩) xs_11.length cap_1001)]⟩]) (hh := 10) (o := o_994) (T := 75) (cs := row encGWornPin xs_10 sp_996) (xs := xs_10) (by kernel_rfl) (fun e => (ho_999 e).1) [9] (by kernel_rfl) (by kernel_rfl)) (hm.ownApart (S := Int) (N := [⟨some b_993, 38, [(.slice (o_994.map fun b => ⟨b, 0, none⟩) xs_10.length cap_995), (.slice (o_1000.map fun b => ⟨b, 0, none⟩) xs_11.length cap_1001)]⟩]) (hh := 11) (o := o_1000) (T := 2) (cs := row encI64 xs_11 sp_1002) (xs := xs_11) (by kernel_rfl) (fun e => (ho_1005 e).1) [9] (by kernel_rfl) (by kernel_rfl)) ht_1013) ?_)
            rintro w v w' hm ⟨rfl, hm'⟩
            refine ⟨_, hm.appW (ps := [(9, ⟨some b_993, 38, [(.slice (o_994.map fun b => ⟨b, 0, none⟩) xs_10.length cap_995), (.slice (o_1000.map fun b => ⟨b, 0, none⟩) xs_11.length cap_1001)]⟩)]) (N := []) hm' (by kernel_rfl) (by kernel_rfl), jkO ?_⟩
            clear hm hm'
            refine jo_f [(0, 2), (0, 4)] (by kernel_rfl) ?_
            refine jo_end (by kernel_rfl) ?_
            refine jx_then ?_
            refine jc_cond (!t_16) (by kernel_rfl) (fun hc_1014 => ?_) (fun hc_1014 => ?_)
            · replace h := ifT hc_1014 h
              refine jc_region ?_
              refine jo_f [(0, 0)] (by kernel_rfl) ?_
              refine jo_end (by kernel_rfl) ?_
              exact jx_meet 8 h (by kernel_rfl) [0, 1, 2, 3, 4, 5, 6, 7, 8, 9, 10, 11] (by kernel_rfl) (by kernel_rfl)
            · replace h := ifF hc_1014 h
              refine jc_skip ?_
              exact jx_meet i_12 h (by kernel_rfl) [0, 1, 2, 3, 4, 5, 6, 7, 8, 9, 10, 11] (by kernel_rfl) (by kernel_rfl)
          · replace h := ifF hc_1012 h
            refine jo_f [(0, 3), (0, 3), (0, 5)] (by kernel_rfl) ?_
            refine jo_end (by kernel_rfl) ?_
            refine jx_then ?_
            refine jc_cond false (by kernel_rfl) (fun hc_1015 => nomatch hc_1015) (fun hc_1015 => ?_)
            refine jc_skip ?_
            exact jx_meet i_12 h (by kernel_rfl) [0, 1, 2, 3, 4, 5, 6, 7, 8, 9, 10, 11] (by kernel_rfl) (by kernel_rfl)
        · rintro i_14 h
          replace h : spec_l06Done.k_15 i_7 xs_10 xs_11 i_14 = some y_965 := h
          rw [spec_l06Done.k_15] at h
          refine jx_then ?_
          refine jc_seq ?_
          refine jc_seq ?_
          refine jc_region ?_
          refine jo_f [(0, 0), (0, 0)] (by kernel_rfl) ?_
          refine jo_end (by kernel_rfl) ?_
          refine jx_then ?_
          refine jc_cond (i_14 != 0) (by kernel_rfl) (fun hc_1010 => ?_) (fun hc_1010 => ?_)
          · replace h := ifT hc_1010 h
            refine jc_seq ?_
            refine jc_region ?_
            refine jo_f [(0, 0), (0, 0), (0, 0)] (by kernel_rfl) ?_
            refine toO (by kernel_rfl) (p_s 0 [3] (by kernel_rfl) (by kernel_rfl) (jkO ?_))
            refine jo_f [(0, 0), (0, 0)] (by kernel_rfl) ?_
            refine jo_end (by kernel_rfl) ?_
            refine jx_then ?_
            refine jc_ret ?_
            refine jx_thenr ?_
            refine jx_inr ?_
            refine jx_thenr ?_
            refine jx_leaver (.inl ((⟨[], []⟩ : GWear), i_7, i_14)) (Option.some.inj h).symm (fun e_1011 => ?_)
            subst e_1011
            refine jx_inr ?_
            refine jx_thenr ?_
            refine jx_thenr ?_
            obtain rfl := Option.some.inj hr_964
            refine jx_ghost 75 encGWornPin ?_
            refine jx_ghost 2 encI64 ?_
            exact jx_ret [3] (.tuple #[(.agg #[(.slice none 0 0), (.slice none 0 0)]), (.int .i64 i_7), (.int .i64 i_14)]) [(b_2, b_2), (b_2, b_2)] rfl (by kernel_rfl) (by kernel_rfl) (fun w hm => ⟨none, 0, [], 0, rfl, (fun e => absurd rfl e), (fun _ => ⟨rfl, rfl⟩), none, 0, [], 0, rfl, (fun e => absurd rfl e), (fun _ => ⟨rfl, rfl⟩), rfl, hm.pick [0, 1, 12, 13] (by kernel_rfl) (by kernel_rfl)⟩)
          · replace h := ifF hc_1010 h
            refine jc_skip ?_
            refine jx_then ?_
            refine jc_region ?_
            refine jo_f [(9, 0)] (by kernel_rfl) ?_
            refine toO (by kernel_rfl) (p_s 0 [6] (by kernel_rfl) (by kernel_rfl) (jkO ?_))
            refine jo_end (by kernel_rfl) ?_
            refine jx_inn ?_
            refine jx_then ?_
            refine jc_region ?_
            refine jo_f [(0, 0), (0, 0), (0, 0)] (by kernel_rfl) ?_
            refine jo_end (by kernel_rfl) ?_
            exact jx_back (xs_10, xs_11, (w64 (i_7 + 1))) ⟨o_994, cap_995, sp_996, xs_10.length, o_1000, cap_1001, sp_1002, xs_11.length⟩ (Option.some.inj h).symm ⟨rfl, hs_998, ho_999, rfl, hs_1004, ho_1005⟩ [0, 1, 2, 3, 4, 5, 6, 10, 11] (by kernel_rfl) (by kernel_rfl) (by kernel_rfl)
    · replace h := ifF hc_967 h
      refine jc_exit ?_
      refine jx_thenx ?_
      refine jx_leave (.inr (xs_5, xs_6)) (Option.some.inj h).symm (fun e_1041 => ?_)
      subst e_1041
      refine jx_ine ?_
      exact jx_meet ⟨xs_5, xs_6, o_952, cap_953, sp_954, xs_5.length, o_958, cap_959, sp_960, xs_6.length⟩ ⟨hr_964, rfl, hs_956, ho_957, rfl, hs_962, ho_963⟩ (by kernel_rfl) [0, 1, 2, 3, 4, 5, 6, 7, 8] (by kernel_rfl) (by kernel_rfl)
  · rintro ⟨xs_2, xs_3, o_780, cap_781, sp_782, n_783, o_786, cap_787, sp_788, n_789⟩ ⟨h, rfl, hs_784, ho_785, rfl, hs_790, ho_791⟩
    replace h : spec_l06Done.k_4 xs_2 xs_3 = some r := h
    rw [spec_l06Done.k_4] at h
    refine jx_then ?_
    refine jc_seq ?_
    refine jc_region ?_
    refine jo_f [(6, 0)] (by kernel_rfl) ?_
    refine toO (by kernel_rfl) (p_s 0 [3] (by kernel_rfl) (by kernel_rfl) (jkO ?_))
    refine jo_f [(0, 0), (0, 0)] (by kernel_rfl) ?_
    refine jo_end (by kernel_rfl) ?_
    refine jx_then ?_
    refine jc_ret ?_
    obtain rfl := Option.some.inj h
    exact jx_ret [3] (.tuple #[(.agg #[(.slice (o_780.map fun b => ⟨b, 0, none⟩) xs_2.length cap_781), (.slice (o_786.map fun b => ⟨b, 0, none⟩) xs_3.length cap_787)]), (.int .i64 (-1)), (.int .i64 0)]) [(b_2, b_2), (b_2, b_2)] rfl (by kernel_rfl) (by kernel_rfl) (fun w hm => ⟨o_780, cap_781, sp_782, xs_2.length, rfl, hs_784, ho_785, o_786, cap_787, sp_788, xs_3.length, rfl, hs_790, ho_791, rfl, hm.pick [0, 1, 7, 8] (by kernel_rfl) (by kernel_rfl)⟩)

/-! ### impl.within -/
noncomputable def impl_within (n0 : Int) (low1 : Int) (high2 : Int) : Option (Bool) := some ((decide (low1 ≤ n0)) && (decide (n0 ≤ high2)))
set_option maxRecDepth 100000 in
theorem impl_within.calls (n0 : Int) (low1 : Int) (high2 : Int) (w : World) (r : Bool) (h : impl_within n0 low1 high2 = some r) :
    Calls Tryz.prog 73 #[(.int .i64 n0), (.int .i64 low1), (.int .i64 high2)] w fun e w' => ∃ v, e = .returned v ∧ (v = (.bool r) ∧ Mem w [] [] w') := by
  rw [impl_within] at h
  refine enter (args := [(.int .i64 n0), (.int .i64 low1), (.int .i64 high2)]) Tryz.func73 rfl Tryz.ntmps73 (by kernel_rfl) (L := []) (W := []) (Mem.start w) ?_
  refine jc_seq ?_
  refine jc_region ?_
  refine jo_f [(0, 0)] (by kernel_rfl) ?_
  refine jo_end (by kernel_rfl) ?_
  refine jx_then ?_
  refine jc_seq ?_
  refine jc_region ?_
  refine jo_f [(0, 0), (0, 0), (0, 0), (0, 0), (0, 1), (0, 1), (0, 1), (0, 0), (0, 0)] (by kernel_rfl) ?_
  refine jo_end (by kernel_rfl) ?_
  refine jx_then ?_
  refine jc_ret ?_
  obtain rfl := Option.some.inj h
  exact jx_ret [] (.bool ((decide (low1 ≤ n0)) && (decide (n0 ≤ high2)))) [] rfl (by kernel_rfl) (by kernel_rfl) (fun w hm => ⟨rfl, hm.pick [] (by kernel_rfl) (by kernel_rfl)⟩)

/-! ### impl.size[impl.Hammer] -/
noncomputable def impl_size_Hammer (list0 : List GHammer) : Option (Int) := some (list0.length : Int)
set_option maxRecDepth 100000 in
theorem impl_size_Hammer.calls (list0 : List GHammer) (w : World) (r : Int) (list0_a : Option Addr) (list0_an : Nat) (list0_c : Nat) (list0_h : Rw w list0_a 2 encGHammer list0) (list0_hn : list0.length = list0_an) (h : impl_size_Hammer list0 = some r) :
    Calls Tryz.prog 137 #[(.slice list0_a list0_an list0_c)] w fun e w' => ∃ v, e = .returned v ∧ (v = (.int .i64 r) ∧ Mem w [] [] w') := by
  subst list0_hn
  rw [impl_size_Hammer] at h
  refine enter (args := [(.slice list0_a list0.length list0_c)]) Tryz.func137 rfl Tryz.ntmps137 (by kernel_rfl) (L := []) (W := []) (Mem.start w) ?_
  refine jc_seq ?_
  refine jc_region ?_
  refine jo_f [(0, 0)] (by kernel_rfl) ?_
  refine jo_end (by kernel_rfl) ?_
  refine jx_then ?_
  refine jc_seq ?_
  refine jc_region ?_
  refine jo_f [(0, 0), (0, 0), (0, 0)] (by kernel_rfl) ?_
  refine jo_end (by kernel_rfl) ?_
  refine jx_then ?_
  refine jc_ret ?_
  obtain rfl := Option.some.inj h
  exact jx_ret [] (.int .i64 (list0.length : Int)) [] rfl (by kernel_rfl) (by kernel_rfl) (fun w hm => ⟨rfl, hm.pick [] (by kernel_rfl) (by kernel_rfl)⟩)

/-! ### impl.isPitch -/
noncomputable def impl_isPitch (n0 : Int) : Option (Bool) := (impl_within n0 0 47).bind fun t_1 => some t_1
set_option maxRecDepth 100000 in
theorem impl_isPitch.calls (n0 : Int) (w : World) (r : Bool) (h : impl_isPitch n0 = some r) :
    Calls Tryz.prog 147 #[(.int .i64 n0)] w fun e w' => ∃ v, e = .returned v ∧ (v = (.bool r) ∧ Mem w [] [] w') := by
  rw [impl_isPitch] at h
  refine enter (args := [(.int .i64 n0)]) Tryz.func147 rfl Tryz.ntmps147 (by kernel_rfl) (L := []) (W := []) (Mem.start w) ?_
  refine jc_seq ?_
  refine jc_region ?_
  refine jo_f [(0, 0)] (by kernel_rfl) ?_
  refine jo_end (by kernel_rfl) ?_
  refine jx_then ?_
  refine jc_seq ?_
  refine jc_region ?_
  refine jo_f [(0, 0)] (by kernel_rfl) ?_
  obtain ⟨t_1, ht_1, h⟩ := bd h
  refine toO (by kernel_rfl) (p_call 0 73 #[(.int .i64 n0), (.int .i64 0), (.int .i64 47)] (by kernel_rfl) (by kernel_rfl) (fun w hm => impl_within.calls n0 0 47 w _ ht_1) ?_)
  rintro w v w' hm ⟨rfl, hm'⟩
  refine ⟨_, hm.app hm', jkO ?_⟩
  clear hm hm'
  refine jo_f [(0, 0)] (by kernel_rfl) ?_
  refine jo_end (by kernel_rfl) ?_
  refine jx_then ?_
  refine jc_ret ?_
  obtain rfl := Option.some.inj h
  exact jx_ret [] (.bool t_1) [] rfl (by kernel_rfl) (by kernel_rfl) (fun w hm => ⟨rfl, hm.pick [] (by kernel_rfl) (by kernel_rfl)⟩)

/-! ### impl.ValidFrame$1 -/
noncomputable def impl_ValidFrame_1 (h0 : GHammer) (p1 : GFrame) : Option (Bool) := (impl_isPitch (w64 h0.fPitch)).bind fun t_1 => (if (!t_1) = true then some true else (impl_within (w64 h0.fReady) 1 (if (w64 p1.fSteps) < 20 then (w64 p1.fSteps) else 20)).bind fun t_2 => some (!t_2))
set_option maxRecDepth 100000 in
theorem impl_ValidFrame_1.calls (h0 : GHammer) (p1 : GFrame) (w : World) (r : Bool) (p1_fHammers_a : Option Addr) (p1_fHammers_an : Nat) (p1_fHammers_c : Nat) (p1_fHammers_h : Rw w p1_fHammers_a 2 encGHammer p1.fHammers) (p1_fHammers_hn : p1.fHammers.length = p1_fHammers_an) (p1_b : Nat) (hm0 : Mem w (bs [some p1_b]) [⟨some p1_b, 43, [(.int .i16 p1.fSteps), (.slice p1_fHammers_a p1_fHammers_an p1_fHammers_c)]⟩] w) (p1_fHammers_ha : p1.fHammers ≠ [] → aB p1_fHammers_a ∉ bs [some p1_b]) (h : impl_ValidFrame_1 h0 p1 = some r) :
    Calls Tryz.prog 146 #[(.agg #[(.int .i8 h0.fPitch), (.int .i8 h0.fReady)]), (.pointer (some ⟨p1_b, 0, none⟩))] w fun e w' => ∃ v, e = .returned v ∧ (v = (.bool r) ∧ Mem w (bs [some p1_b]) [⟨some p1_b, 43, [(.int .i16 p1.fSteps), (.slice p1_fHammers_a p1_fHammers_an p1_fHammers_c)]⟩] w') := by
  subst p1_fHammers_hn
  rw [impl_ValidFrame_1] at h
  refine enter (args := [(.agg #[(.int .i8 h0.fPitch), (.int .i8 h0.fReady)]), (.pointer (some ⟨p1_b, 0, none⟩))]) Tryz.func146 rfl Tryz.ntmps146 (by kernel_rfl) (L := [⟨some p1_b, 43, [(.int .i16 p1.fSteps), (.slice p1_fHammers_a p1.fHammers.length p1_fHammers_c)]⟩]) (W := bs [some p1_b]) hm0 ?_
  refine jc_seq ?_
  refine jc_region ?_
  refine toO (by kernel_rfl) (p_a 0 [0] (by kernel_rfl) (fun b => by kernel_rfl) (fun b_1 => jkO ?_))
  refine jo_f [(0, 0)] (by kernel_rfl) ?_
  refine jo_end (by kernel_rfl) ?_
  refine jx_then ?_
  refine jc_seq ?_
  refine jc_region ?_
  refine jo_f [(0, 0), (1, 0), (0, 0)] (by kernel_rfl) ?_
  obtain ⟨t_1, ht_2, h⟩ := bd h
  refine toO (by kernel_rfl) (p_call 0 147 #[(.int .i64 (w64 h0.fPitch))] (by kernel_rfl) (by kernel_rfl) (fun w hm => impl_isPitch.calls (w64 h0.fPitch) w _ ht_2) ?_)
  rintro w v w' hm ⟨rfl, hm'⟩
  refine ⟨_, hm.app hm', jkO ?_⟩
  clear hm hm'
  refine jo_f [(0, 0), (0, 0), (0, 1), (1, 1), (0, 1), (0, 1), (0, 1), (0, 1), (0, 1)] (by kernel_rfl) ?_
  refine jo_split 9 (!t_1) (by kernel_rfl) (fun hc_3 => ?_) (fun hc_3 => ?_)
  · replace h := ifT hc_3 h
    refine jo_f [(0, 3), (0, 3), (0, 4), (0, 0)] (by kernel_rfl) ?_
    refine jo_end (by kernel_rfl) ?_
    refine jx_then ?_
    refine jc_ret ?_
    obtain rfl := Option.some.inj h
    exact jx_ret [] (.bool true) [] rfl (by kernel_rfl) (by kernel_rfl) (fun w hm => ⟨rfl, hm.pick [0] (by kernel_rfl) (by kernel_rfl)⟩)
  · replace h := ifF hc_3 h
    obtain ⟨t_2, ht_4, h⟩ := bd h
    refine toO (by kernel_rfl) (p_call 2 73 #[(.int .i64 (w64 h0.fReady)), (.int .i64 1), (.int .i64 (if (w64 p1.fSteps) < 20 then (w64 p1.fSteps) else 20))] (by kernel_rfl) (by kernel_rfl) (fun w hm => impl_within.calls (w64 h0.fReady) 1 (if (w64 p1.fSteps) < 20 then (w64 p1.fSteps) else 20) w _ ht_4) ?_)
    rintro w v w' hm ⟨rfl, hm'⟩
    refine ⟨_, hm.app hm', jkO ?_⟩
    clear hm hm'
    refine jo_f [(0, 2), (0, 5), (0, 0)] (by kernel_rfl) ?_
    refine jo_end (by kernel_rfl) ?_
    refine jx_then ?_
    refine jc_ret ?_
    obtain rfl := Option.some.inj h
    exact jx_ret [] (.bool (!t_2)) [] rfl (by kernel_rfl) (by kernel_rfl) (fun w hm => ⟨rfl, hm.pick [0] (by kernel_rfl) (by kernel_rfl)⟩)

/-! ### slices.IndexFunc[[]impl.Hammer,impl.Hammer] -/
noncomputable def slices_IndexFunc_Hammer_at_impl_ValidFrame_1.k_1 : Option (Int) := some (-1)
noncomputable def slices_IndexFunc_Hammer_at_impl_ValidFrame_1.l_3 (s0 : List GHammer) (g1c0 : GFrame) : Int → Option ((Int) ⊕ (Int ⊕ Unit))
  | i_2 => (if (decide (i_2 < (s0.length : Int))) = true then (ix s0 i_2).bind fun x_5 => (impl_ValidFrame_1 x_5 g1c0).bind fun t_6 => (if t_6 = true then some (.inr (.inl i_2)) else some (.inl (w64 (i_2 + 1)))) else some (.inr (.inr ())))
noncomputable def slices_IndexFunc_Hammer_at_impl_ValidFrame_1 (s0 : List GHammer) (g1c0 : GFrame) : Option (Int) := (loop (slices_IndexFunc_Hammer_at_impl_ValidFrame_1.l_3 s0 g1c0) 0).bind fun t_4 => match t_4 with | .inl p => some p | .inr p => slices_IndexFunc_Hammer_at_impl_ValidFrame_1.k_1
set_option maxRecDepth 100000 in
theorem slices_IndexFunc_Hammer_at_impl_ValidFrame_1.calls (s0 : List GHammer) (g1c0 : GFrame) (w : World) (r : Int) (s0_a : Option Addr) (s0_an : Nat) (s0_c : Nat) (s0_h : Rw w s0_a 2 encGHammer s0) (s0_hn : s0.length = s0_an) (g1c0_fHammers_a : Option Addr) (g1c0_fHammers_an : Nat) (g1c0_fHammers_c : Nat) (g1c0_fHammers_h : Rw w g1c0_fHammers_a 2 encGHammer g1c0.fHammers) (g1c0_fHammers_hn : g1c0.fHammers.length = g1c0_fHammers_an) (g1c0_b : Nat) (hm0 : Mem w (bs [some g1c0_b]) [⟨some g1c0_b, 43, [(.int .i16 g1c0.fSteps), (.slice g1c0_fHammers_a g1c0_fHammers_an g1c0_fHammers_c)]⟩] w) (s0_ha : s0 ≠ [] → aB s0_a ∉ bs [some g1c0_b]) (g1c0_fHammers_ha : g1c0.fHammers ≠ [] → aB g1c0_fHammers_a ∉ bs [some g1c0_b]) (h : slices_IndexFunc_Hammer_at_impl_ValidFrame_1 s0 g1c0 = some r) :
    Calls Tryz.prog 161 #[(.slice s0_a s0_an s0_c), (.func (.func 146) #[] #[(.pointer (some ⟨g1c0_b, 0, none⟩))])] w fun e w' => ∃ v, e = .returned v ∧ (v = (.int .i64 r) ∧ Mem w (bs [some g1c0_b]) [⟨some g1c0_b, 43, [(.int .i16 g1c0.fSteps), (.slice g1c0_fHammers_a g1c0_fHammers_an g1c0_fHammers_c)]⟩] w') := by
  subst s0_hn g1c0_fHammers_hn
  rw [slices_IndexFunc_Hammer_at_impl_ValidFrame_1] at h
  refine enter (args := [(.slice s0_a s0.length s0_c), (.func (.func 146) #[] #[(.pointer (some ⟨g1c0_b, 0, none⟩))])]) Tryz.func161 rfl Tryz.ntmps161 (by kernel_rfl) (L := [⟨some g1c0_b, 43, [(.int .i16 g1c0.fSteps), (.slice g1c0_fHammers_a g1c0.fHammers.length g1c0_fHammers_c)]⟩]) (W := bs [some g1c0_b]) hm0 ?_
  refine jc_seq ?_
  refine jc_region ?_
  refine jo_f [(0, 0)] (by kernel_rfl) ?_
  refine jo_end (by kernel_rfl) ?_
  refine jx_then ?_
  refine jc_seq ?_
  refine jc_seq ?_
  refine jc_region ?_
  refine jo_f [(0, 0), (0, 0), (0, 0)] (by kernel_rfl) ?_
  refine jo_end (by kernel_rfl) ?_
  refine jx_then ?_
  refine jc_meet (fun (_ : Unit) => slices_IndexFunc_Hammer_at_impl_ValidFrame_1.k_1 = some r) (fun (_ : Unit) => [(4, [], (.int .i64 0))]) (fun (_ : Unit) => [⟨some g1c0_b, 43, [(.int .i16 g1c0.fSteps), (.slice g1c0_fHammers_a g1c0.fHammers.length g1c0_fHammers_c)]⟩]) ?_ ?_
  · refine jc_block ?_
    obtain ⟨t_4, ht_40, hr_31⟩ := bd h
    refine jc_loop (fun (s : Int) (x : Unit) => match s, x with | i_2, _ => True) (fun (s : Int) (x : Unit) => match s, x with | i_2, _ => [(0, [], (.slice s0_a s0.length s0_c)), (1, [], (.func (.func 146) #[] #[(.pointer (some ⟨g1c0_b, 0, none⟩))])), (4, [], (.int .i64 0)), (7, [], (.int .i64 (s0.length : Int))), (8, [], (.int .i64 i_2))]) (fun (s : Int) (x : Unit) => match s, x with | i_2, _ => [⟨some g1c0_b, 43, [(.int .i16 g1c0.fSteps), (.slice g1c0_fHammers_a g1c0.fHammers.length g1c0_fHammers_c)]⟩]) ht_40 () trivial (by kernel_rfl) [0] (by kernel_rfl) (by kernel_rfl) ?_
    rintro i_2 _ y_32 _ h
    rw [slices_IndexFunc_Hammer_at_impl_ValidFrame_1.l_3] at h
    refine jc_seq ?_
    refine jc_region ?_
    refine jo_f [(0, 0)] (by kernel_rfl) ?_
    refine jo_end (by kernel_rfl) ?_
    refine jx_then ?_
    refine jc_seq ?_
    refine jc_cond (decide (i_2 < (s0.length : Int))) (by kernel_rfl) (fun hc_34 => ?_) (fun hc_34 => ?_)
    · replace h := ifT hc_34 h
      refine jc_skip ?_
      refine jx_then ?_
      refine jc_seq ?_
      refine jc_block ?_
      refine jc_seq ?_
      refine jc_region ?_
      refine jo_f [(0, 0), (0, 0)] (by kernel_rfl) ?_
      refine jo_end (by kernel_rfl) ?_
      refine jx_then ?_
      refine jc_seq ?_
      refine jc_region ?_
      refine jo_f [(0, 0), (0, 0), (0, 0)] (by kernel_rfl) ?_
      obtain ⟨x_5, hx_35, h⟩ := bd h
      refine toO (by kernel_rfl) (p_idx 0 s0_a s0.length i_2 2 (by kernel_rfl) (by kernel_rfl) (ix_some hx_35).1 (ltn hx_35 rfl) (s0_h.sp hx_35) (jkO ?_))
      refine toO (by kernel_rfl) (p_ld 0 (aB s0_a) (aO s0_a + i_2.toNat * 2) true (encGHammer x_5) (by kernel_rfl) (by kernel_rfl) (by kernel_rfl) (fun w hm => ((hm.exRowW s0_h s0_ha).at hx_35)) (jkO ?_))
      obtain ⟨t_6, ht_36, h⟩ := bd h
      refine toO (by kernel_rfl) (p_call 0 146 #[(.agg #[(.int .i8 x_5.fPitch), (.int .i8 x_5.fReady)]), (.pointer (some ⟨g1c0_b, 0, none⟩))] (by kernel_rfl) (by kernel_rfl) (fun w hm => impl_ValidFrame_1.calls x_5 g1c0 w _ g1c0_fHammers_a g1c0.fHammers.length g1c0_fHammers_c (hm.exRowW g1c0_fHammers_h g1c0_fHammers_ha) rfl g1c0_b (hm.pass (N := [⟨some g1c0_b, 43, [(.int .i16 g1c0.fSteps), (.slice g1c0_fHammers_a g1c0.fHammers.length g1c0_fHammers_c)]⟩]) [0] (by kernel_rfl) (by kernel_rfl)) (hm.exApart (N := [⟨some g1c0_b, 43, [(.int .i16 g1c0.fSteps), (.slice g1c0_fHammers_a g1c0.fHammers.length g1c0_fHammers_c)]⟩]) g1c0_fHammers_h g1c0_fHammers_ha [0] (by kernel_rfl)) ht_36) ?_)
      rintro w v w' hm ⟨rfl, hm'⟩
      refine ⟨_, hm.appW (ps := [(0, ⟨some g1c0_b, 43, [(.int .i16 g1c0.fSteps), (.slice g1c0_fHammers_a g1c0.fHammers.length g1c0_fHammers_c)]⟩)]) (N := []) hm' (by kernel_rfl) (by kernel_rfl), jkO ?_⟩
      clear hm hm'
      refine jo_end (by kernel_rfl) ?_
      refine jx_then ?_
      refine jc_cond t_6 (by kernel_rfl) (fun hc_37 => ?_) (fun hc_37 => ?_)
      · replace h := ifT hc_37 h
        refine jc_seq ?_
        refine jc_region ?_
        refine jo_f [(0, 0), (0, 0)] (by kernel_rfl) ?_
        refine jo_end (by kernel_rfl) ?_
        refine jx_then ?_
        refine jc_ret ?_
        refine jx_inr ?_
        refine jx_thenr ?_
        refine jx_leaver (.inl i_2) (Option.some.inj h).symm (fun e_38 => ?_)
        subst e_38
        refine jx_inr ?_
        refine jx_thenr ?_
        refine jx_thenr ?_
        obtain rfl := Option.some.inj hr_31
        exact jx_ret [] (.int .i64 i_2) [] rfl (by kernel_rfl) (by kernel_rfl) (fun w hm => ⟨rfl, hm.pick [0] (by kernel_rfl) (by kernel_rfl)⟩)
      · replace h := ifF hc_37 h
        refine jc_skip ?_
        refine jx_inn ?_
        refine jx_then ?_
        refine jc_region ?_
        refine jo_f [(0, 0), (0, 0)] (by kernel_rfl) ?_
        refine jo_end (by kernel_rfl) ?_
        exact jx_back (w64 (i_2 + 1)) () (Option.some.inj h).symm trivial [0] (by kernel_rfl) (by kernel_rfl) (by kernel_rfl)
    · replace h := ifF hc_34 h
      refine jc_exit ?_
      refine jx_thenx ?_
      refine jx_leave (.inr ()) (Option.some.inj h).symm (fun e_39 => ?_)
      subst e_39
      refine jx_ine ?_
      exact jx_meet () hr_31 (by kernel_rfl) [0] (by kernel_rfl) (by kernel_rfl)
  · rintro _ h
    replace h : slices_IndexFunc_Hammer_at_impl_ValidFrame_1.k_1 = some r := h
    rw [slices_IndexFunc_Hammer_at_impl_ValidFrame_1.k_1] at h
    refine jx_then ?_
    refine jc_seq ?_
    refine jc_region ?_
    refine jo_f [(0, 0)] (by kernel_rfl) ?_
    refine jo_end (by kernel_rfl) ?_
    refine jx_then ?_
    refine jc_ret ?_
    obtain rfl := Option.some.inj h
    exact jx_ret [] (.int .i64 (-1)) [] rfl (by kernel_rfl) (by kernel_rfl) (fun w hm => ⟨rfl, hm.pick [0] (by kernel_rfl) (by kernel_rfl)⟩)

/-! ### slices.ContainsFunc[[]impl.Hammer,impl.Hammer] -/
noncomputable def slices_ContainsFunc_Hammer_at_impl_ValidFrame_1 (s0 : List GHammer) (g1c0 : GFrame) : Option (Bool) := (slices_IndexFunc_Hammer_at_impl_ValidFrame_1 s0 g1c0).bind fun t_1 => some (decide (t_1 ≥ 0))
set_option maxRecDepth 100000 in
theorem slices_ContainsFunc_Hammer_at_impl_ValidFrame_1.calls (s0 : List GHammer) (g1c0 : GFrame) (w : World) (r : Bool) (s0_a : Option Addr) (s0_an : Nat) (s0_c : Nat) (s0_h : Rw w s0_a 2 encGHammer s0) (s0_hn : s0.length = s0_an) (g1c0_fHammers_a : Option Addr) (g1c0_fHammers_an : Nat) (g1c0_fHammers_c : Nat) (g1c0_fHammers_h : Rw w g1c0_fHammers_a 2 encGHammer g1c0.fHammers) (g1c0_fHammers_hn : g1c0.fHammers.length = g1c0_fHammers_an) (g1c0_b : Nat) (hm0 : Mem w (bs [some g1c0_b]) [⟨some g1c0_b, 43, [(.int .i16 g1c0.fSteps), (.slice g1c0_fHammers_a g1c0_fHammers_an g1c0_fHammers_c)]⟩] w) (s0_ha : s0 ≠ [] → aB s0_a ∉ bs [some g1c0_b]) (g1c0_fHammers_ha : g1c0.fHammers ≠ [] → aB g1c0_fHammers_a ∉ bs [some g1c0_b]) (h : slices_ContainsFunc_Hammer_at_impl_ValidFrame_1 s0 g1c0 = some r) :
    Calls Tryz.prog 145 #[(.slice s0_a s0_an s0_c), (.func (.func 146) #[] #[(.pointer (some ⟨g1c0_b, 0, none⟩))])] w fun e w' => ∃ v, e = .returned v ∧ (v = (.bool r) ∧ Mem w (bs [some g1c0_b]) [⟨some g1c0_b, 43, [(.int .i16 g1c0.fSteps), (.slice g1c0_fHammers_a g1c0_fHammers_an g1c0_fHammers_c)]⟩] w') := by
  subst s0_hn g1c0_fHammers_hn
  rw [slices_ContainsFunc_Hammer_at_impl_ValidFrame_1] at h
  refine enter (args := [(.slice s0_a s0.length s0_c), (.func (.func 146) #[] #[(.pointer (some ⟨g1c0_b, 0, none⟩))])]) Tryz.func145 rfl Tryz.ntmps145 (by kernel_rfl) (L := [⟨some g1c0_b, 43, [(.int .i16 g1c0.fSteps), (.slice g1c0_fHammers_a g1c0.fHammers.length g1c0_fHammers_c)]⟩]) (W := bs [some g1c0_b]) hm0 ?_
  refine jc_seq ?_
  refine jc_region ?_
  refine jo_f [(0, 0)] (by kernel_rfl) ?_
  refine jo_end (by kernel_rfl) ?_
  refine jx_then ?_
  refine jc_seq ?_
  refine jc_region ?_
  refine jo_f [(0, 0), (0, 0)] (by kernel_rfl) ?_
  obtain ⟨t_1, ht_1, h⟩ := bd h
  refine toO (by kernel_rfl) (p_call 0 161 #[(.slice s0_a s0.length s0_c), (.func (.func 146) #[] #[(.pointer (some ⟨g1c0_b, 0, none⟩))])] (by kernel_rfl) (by kernel_rfl) (fun w hm => slices_IndexFunc_Hammer_at_impl_ValidFrame_1.calls s0 g1c0 w _ s0_a s0.length s0_c (hm.exRowW s0_h s0_ha) rfl g1c0_fHammers_a g1c0.fHammers.length g1c0_fHammers_c (hm.exRowW g1c0_fHammers_h g1c0_fHammers_ha) rfl g1c0_b (hm.pass (N := [⟨some g1c0_b, 43, [(.int .i16 g1c0.fSteps), (.slice g1c0_fHammers_a g1c0.fHammers.length g1c0_fHammers_c)]⟩]) [0] (by kernel_rfl) (by kernel_rfl)) (hm.exApart (N := [⟨some g1c0_b, 43, [(.int .i16 g1c0.fSteps), (.slice g1c0_fHammers_a g1c0.fHammers.length g1c0_fHammers_c)]⟩]) s0_h s0_ha [0] (by kernel_rfl)) (hm.exApart (N := [⟨some g1c0_b, 43, [(.int .i16 g1c0.fSteps), (.slice g1c0_fHammers_a g1c0.fHammers.length g1c0_fHammers_c)]⟩]) g1c0_fHammers_h g1c0_fHammers_ha [0] (by kernel_rfl)) ht_1) ?_)
  rintro w v w' hm ⟨rfl, hm'⟩
  refine ⟨_, hm.appW (ps := [(0, ⟨some g1c0_b, 43, [(.int .i16 g1c0.fSteps), (.slice g1c0_fHammers_a g1c0.fHammers.length g1c0_fHammers_c)]⟩)]) (N := []) hm' (by kernel_rfl) (by kernel_rfl), jkO ?_⟩
  clear hm hm'
  refine jo_f [(0, 0), (0, 0)] (by kernel_rfl) ?_
  refine jo_end (by kernel_rfl) ?_
  refine jx_then ?_
  refine jc_ret ?_
  obtain rfl := Option.some.inj h
  exact jx_ret [] (.bool (decide (t_1 ≥ 0))) [] rfl (by kernel_rfl) (by kernel_rfl) (fun w hm => ⟨rfl, hm.pick [0] (by kernel_rfl) (by kernel_rfl)⟩)

/-! ### impl.ValidFrame -/
noncomputable def impl_ValidFrame (f0 : GFrame) : Option (Bool) := (impl_within (w64 f0.fSteps) 2 96).bind fun t_1 => (if t_1 = true then (impl_size_Hammer f0.fHammers).bind fun t_2 => (impl_within t_2 1 24).bind fun t_3 => (if t_3 = true then (slices_ContainsFunc_Hammer_at_impl_ValidFrame_1 f0.fHammers f0).bind fun t_4 => some (!t_4) else some false) else some false)
set_option maxRecDepth 100000 in
theorem impl_ValidFrame.calls (f0 : GFrame) (w : World) (r : Bool) (f0_fHammers_a : Option Addr) (f0_fHammers_an : Nat) (f0_fHammers_c : Nat) (f0_fHammers_h : Rw w f0_fHammers_a 2 encGHammer f0.fHammers) (f0_fHammers_hn : f0.fHammers.length = f0_fHammers_an) (h : impl_ValidFrame f0 = some r) :
    Calls Tryz.prog 128 #[(.agg #[(.int .i16 f0.fSteps), (.slice f0_fHammers_a f0_fHammers_an f0_fHammers_c)])] w fun e w' => ∃ v, e = .returned v ∧ (v = (.bool r) ∧ Mem w [] [] w') := by
  subst f0_fHammers_hn
  rw [impl_ValidFrame] at h
  refine enter (args := [(.agg #[(.int .i16 f0.fSteps), (.slice f0_fHammers_a f0.fHammers.length f0_fHammers_c)])]) Tryz.func128 rfl Tryz.ntmps128 (by kernel_rfl) (L := []) (W := []) (Mem.start w) ?_
  refine jc_seq ?_
  refine jc_region ?_
  refine toO (by kernel_rfl) (p_a 0 [0] (by kernel_rfl) (fun b => by kernel_rfl) (fun b_1 => jkO ?_))
  refine jo_f [(0, 0)] (by kernel_rfl) ?_
  refine jo_end (by kernel_rfl) ?_
  refine jx_then ?_
  refine jc_seq ?_
  refine jc_region ?_
  refine jo_f [(0, 0), (0, 0), (0, 0)] (by kernel_rfl) ?_
  obtain ⟨t_1, ht_2, h⟩ := bd h
  refine toO (by kernel_rfl) (p_call 0 73 #[(.int .i64 (w64 f0.fSteps)), (.int .i64 2), (.int .i64 96)] (by kernel_rfl) (by kernel_rfl) (fun w hm => impl_within.calls (w64 f0.fSteps) 2 96 w _ ht_2) ?_)
  rintro w v w' hm ⟨rfl, hm'⟩
  refine ⟨_, hm.app hm', jkO ?_⟩
  clear hm hm'
  refine jo_f [(0, 0), (0, 1), (0, 1)] (by kernel_rfl) ?_
  refine jo_split 7 t_1 (by kernel_rfl) (fun hc_3 => ?_) (fun hc_3 => ?_)
  · replace h := ifT hc_3 h
    obtain ⟨t_2, ht_4, h⟩ := bd h
    refine toO (by kernel_rfl) (p_call 2 137 #[(.slice f0_fHammers_a f0.fHammers.length f0_fHammers_c)] (by kernel_rfl) (by kernel_rfl) (fun w hm => impl_size_Hammer.calls f0.fHammers w _ f0_fHammers_a f0.fHammers.length f0_fHammers_c (hm.exRow f0_fHammers_h List.not_mem_nil) rfl ht_4) ?_)
    rintro w v w' hm ⟨rfl, hm'⟩
    refine ⟨_, hm.app hm', jkO ?_⟩
    clear hm hm'
    obtain ⟨t_3, ht_5, h⟩ := bd h
    refine toO (by kernel_rfl) (p_call 2 73 #[(.int .i64 t_2), (.int .i64 1), (.int .i64 24)] (by kernel_rfl) (by kernel_rfl) (fun w hm => impl_within.calls t_2 1 24 w _ ht_5) ?_)
    rintro w v w' hm ⟨rfl, hm'⟩
    refine ⟨_, hm.app hm', jkO ?_⟩
    clear hm hm'
    refine jo_f [(0, 4), (0, 0), (0, 1), (0, 1), (0, 1)] (by kernel_rfl) ?_
    refine jo_split 13 t_3 (by kernel_rfl) (fun hc_6 => ?_) (fun hc_6 => ?_)
    · replace h := ifT hc_6 h
      obtain ⟨t_4, ht_7, h⟩ := bd h
      refine toO (by kernel_rfl) (p_call 2 145 #[(.slice f0_fHammers_a f0.fHammers.length f0_fHammers_c), (.func (.func 146) #[] #[(.pointer (some ⟨b_1, 0, none⟩))])] (by kernel_rfl) (by kernel_rfl) (fun w hm => slices_ContainsFunc_Hammer_at_impl_ValidFrame_1.calls f0.fHammers f0 w _ f0_fHammers_a f0.fHammers.length f0_fHammers_c (hm.exRow f0_fHammers_h List.not_mem_nil) rfl f0_fHammers_a f0.fHammers.length f0_fHammers_c (hm.exRow f0_fHammers_h List.not_mem_nil) rfl b_1 (hm.pass (N := [⟨some b_1, 43, [(.int .i16 f0.fSteps), (.slice f0_fHammers_a f0.fHammers.length f0_fHammers_c)]⟩]) [0] (by kernel_rfl) (by kernel_rfl)) (hm.exApart (N := [⟨some b_1, 43, [(.int .i16 f0.fSteps), (.slice f0_fHammers_a f0.fHammers.length f0_fHammers_c)]⟩]) f0_fHammers_h (fun _ => List.not_mem_nil) [0] (by kernel_rfl)) (hm.exApart (N := [⟨some b_1, 43, [(.int .i16 f0.fSteps), (.slice f0_fHammers_a f0.fHammers.length f0_fHammers_c)]⟩]) f0_fHammers_h (fun _ => List.not_mem_nil) [0] (by kernel_rfl)) ht_7) ?_)
      rintro w v w' hm ⟨rfl, hm'⟩
      refine ⟨_, hm.appW (ps := [(0, ⟨some b_1, 43, [(.int .i16 f0.fSteps), (.slice f0_fHammers_a f0.fHammers.length f0_fHammers_c)]⟩)]) (N := []) hm' (by kernel_rfl) (by kernel_rfl), jkO ?_⟩
      clear hm hm'
      refine jo_f [(0, 2), (0, 4), (0, 0)] (by kernel_rfl) ?_
      refine jo_end (by kernel_rfl) ?_
      refine jx_then ?_
      refine jc_ret ?_
      obtain rfl := Option.some.inj h
      exact jx_ret [] (.bool (!t_4)) [] rfl (by kernel_rfl) (by kernel_rfl) (fun w hm => ⟨rfl, hm.pick [] (by kernel_rfl) (by kernel_rfl)⟩)
    · replace h := ifF hc_6 h
      refine jo_f [(0, 3), (0, 3), (0, 5), (0, 0)] (by kernel_rfl) ?_
      refine jo_end (by kernel_rfl) ?_
      refine jx_then ?_
      refine jc_ret ?_
      obtain rfl := Option.some.inj h
      exact jx_ret [] (.bool false) [] rfl (by kernel_rfl) (by kernel_rfl) (fun w hm => ⟨rfl, hm.pick [] (by kernel_rfl) (by kernel_rfl)⟩)
  · replace h := ifF hc_3 h
    refine jo_f [(0, 3), (0, 3), (0, 5), (0, 0), (0, 3), (0, 3), (0, 3), (0, 3), (0, 3), (0, 5), (0, 0)] (by kernel_rfl) ?_
    refine jo_end (by kernel_rfl) ?_
    refine jx_then ?_
    refine jc_ret ?_
    obtain rfl := Option.some.inj h
    exact jx_ret [] (.bool false) [] rfl (by kernel_rfl) (by kernel_rfl) (fun w hm => ⟨rfl, hm.pick [] (by kernel_rfl) (by kernel_rfl)⟩)

/-! ### impl.isMade -/
noncomputable def impl_isMade (n0 : Int) : Option (Bool) := (impl_within n0 0 1000000).bind fun t_1 => some t_1
set_option maxRecDepth 100000 in
theorem impl_isMade.calls (n0 : Int) (w : World) (r : Bool) (h : impl_isMade n0 = some r) :
    Calls Tryz.prog 65 #[(.int .i64 n0)] w fun e w' => ∃ v, e = .returned v ∧ (v = (.bool r) ∧ Mem w [] [] w') := by
  rw [impl_isMade] at h
  refine enter (args := [(.int .i64 n0)]) Tryz.func65 rfl Tryz.ntmps65 (by kernel_rfl) (L := []) (W := []) (Mem.start w) ?_
  refine jc_seq ?_
  refine jc_region ?_
  refine jo_f [(0, 0)] (by kernel_rfl) ?_
  refine jo_end (by kernel_rfl) ?_
  refine jx_then ?_
  refine jc_seq ?_
  refine jc_region ?_
  refine jo_f [(0, 0)] (by kernel_rfl) ?_
  obtain ⟨t_1, ht_1, h⟩ := bd h
  refine toO (by kernel_rfl) (p_call 0 73 #[(.int .i64 n0), (.int .i64 0), (.int .i64 1000000)] (by kernel_rfl) (by kernel_rfl) (fun w hm => impl_within.calls n0 0 1000000 w _ ht_1) ?_)
  rintro w v w' hm ⟨rfl, hm'⟩
  refine ⟨_, hm.app hm', jkO ?_⟩
  clear hm hm'
  refine jo_f [(0, 0)] (by kernel_rfl) ?_
  refine jo_end (by kernel_rfl) ?_
  refine jx_then ?_
  refine jc_ret ?_
  obtain rfl := Option.some.inj h
  exact jx_ret [] (.bool t_1) [] rfl (by kernel_rfl) (by kernel_rfl) (fun w hm => ⟨rfl, hm.pick [] (by kernel_rfl) (by kernel_rfl)⟩)

/-! ### impl.ValidWear$1 -/
noncomputable def impl_ValidWear_1 (n0 : Int) : Option (Bool) := (impl_isMade n0).bind fun t_1 => some (!t_1)
set_option maxRecDepth 100000 in
theorem impl_ValidWear_1.calls (n0 : Int) (w : World) (r : Bool) (h : impl_ValidWear_1 n0 = some r) :
    Calls Tryz.prog 130 #[(.int .i64 n0)] w fun e w' => ∃ v, e = .returned v ∧ (v = (.bool r) ∧ Mem w [] [] w') := by
  rw [impl_ValidWear_1] at h
  refine enter (args := [(.int .i64 n0)]) Tryz.func130 rfl Tryz.ntmps130 (by kernel_rfl) (L := []) (W := []) (Mem.start w) ?_
  refine jc_seq ?_
  refine jc_region ?_
  refine jo_f [(0, 0)] (by kernel_rfl) ?_
  refine jo_end (by kernel_rfl) ?_
  refine jx_then ?_
  refine jc_seq ?_
  refine jc_region ?_
  refine jo_f [(0, 0)] (by kernel_rfl) ?_
  obtain ⟨t_1, ht_1, h⟩ := bd h
  refine toO (by kernel_rfl) (p_call 0 65 #[(.int .i64 n0)] (by kernel_rfl) (by kernel_rfl) (fun w hm => impl_isMade.calls n0 w _ ht_1) ?_)
  rintro w v w' hm ⟨rfl, hm'⟩
  refine ⟨_, hm.app hm', jkO ?_⟩
  clear hm hm'
  refine jo_f [(0, 0), (0, 0)] (by kernel_rfl) ?_
  refine jo_end (by kernel_rfl) ?_
  refine jx_then ?_
  refine jc_ret ?_
  obtain rfl := Option.some.inj h
  exact jx_ret [] (.bool (!t_1)) [] rfl (by kernel_rfl) (by kernel_rfl) (fun w hm => ⟨rfl, hm.pick [] (by kernel_rfl) (by kernel_rfl)⟩)

/-! ### slices.IndexFunc[[]int64,int64] -/
noncomputable def slices_IndexFunc_int64_at_impl_ValidWear_1.k_1 : Option (Int) := some (-1)
noncomputable def slices_IndexFunc_int64_at_impl_ValidWear_1.l_3 (s0 : List Int) : Int → Option ((Int) ⊕ (Int ⊕ Unit))
  | i_2 => (if (decide (i_2 < (s0.length : Int))) = true then (ix s0 i_2).bind fun x_5 => (impl_ValidWear_1 x_5).bind fun t_6 => (if t_6 = true then some (.inr (.inl i_2)) else some (.inl (w64 (i_2 + 1)))) else some (.inr (.inr ())))
noncomputable def slices_IndexFunc_int64_at_impl_ValidWear_1 (s0 : List Int) : Option (Int) := (loop (slices_IndexFunc_int64_at_impl_ValidWear_1.l_3 s0) 0).bind fun t_4 => match t_4 with | .inl p => some p | .inr p => slices_IndexFunc_int64_at_impl_ValidWear_1.k_1
set_option maxRecDepth 100000 in
theorem slices_IndexFunc_int64_at_impl_ValidWear_1.calls (s0 : List Int) (w : World) (r : Int) (s0_a : Option Addr) (s0_an : Nat) (s0_c : Nat) (s0_h : Rw w s0_a 1 encI64 s0) (s0_hn : s0.length = s0_an) (h : slices_IndexFunc_int64_at_impl_ValidWear_1 s0 = some r) :
    Calls Tryz.prog 148 #[(.slice s0_a s0_an s0_c), (.func (.func 130) #[] #[])] w fun e w' => ∃ v, e = .returned v ∧ (v = (.int .i64 r) ∧ Mem w [] [] w') := by
  subst s0_hn
  rw [slices_IndexFunc_int64_at_impl_ValidWear_1] at h
  refine enter (args := [(.slice s0_a s0.length s0_c), (.func (.func 130) #[] #[])]) Tryz.func148 rfl Tryz.ntmps148 (by kernel_rfl) (L := []) (W := []) (Mem.start w) ?_
  refine jc_seq ?_
  refine jc_region ?_
  refine jo_f [(0, 0)] (by kernel_rfl) ?_
  refine jo_end (by kernel_rfl) ?_
  refine jx_then ?_
  refine jc_seq ?_
  refine jc_seq ?_
  refine jc_region ?_
  refine jo_f [(0, 0), (0, 0), (0, 0)] (by kernel_rfl) ?_
  refine jo_end (by kernel_rfl) ?_
  refine jx_then ?_
  refine jc_meet (fun (_ : Unit) => slices_IndexFunc_int64_at_impl_ValidWear_1.k_1 = some r) (fun (_ : Unit) => [(4, [], (.int .i64 0))]) (fun (_ : Unit) => []) ?_ ?_
  · refine jc_block ?_
    obtain ⟨t_4, ht_40, hr_31⟩ := bd h
    refine jc_loop (fun (s : Int) (x : Unit) => match s, x with | i_2, _ => True) (fun (s : Int) (x : Unit) => match s, x with | i_2, _ => [(0, [], (.slice s0_a s0.length s0_c)), (1, [], (.func (.func 130) #[] #[])), (4, [], (.int .i64 0)), (7, [], (.int .i64 (s0.length : Int))), (8, [], (.int .i64 i_2))]) (fun (s : Int) (x : Unit) => match s, x with | i_2, _ => []) ht_40 () trivial (by kernel_rfl) [] (by kernel_rfl) (by kernel_rfl) ?_
    rintro i_2 _ y_32 _ h
    rw [slices_IndexFunc_int64_at_impl_ValidWear_1.l_3] at h
    refine jc_seq ?_
    refine jc_region ?_
    refine jo_f [(0, 0)] (by kernel_rfl) ?_
    refine jo_end (by kernel_rfl) ?_
    refine jx_then ?_
    refine jc_seq ?_
    refine jc_cond (decide (i_2 < (s0.length : Int))) (by kernel_rfl) (fun hc_34 => ?_) (fun hc_34 => ?_)
    · replace h := ifT hc_34 h
      refine jc_skip ?_
      refine jx_then ?_
      refine jc_seq ?_
      refine jc_block ?_
      refine jc_seq ?_
      refine jc_region ?_
      refine jo_f [(0, 0), (0, 0)] (by kernel_rfl) ?_
      refine jo_end (by kernel_rfl) ?_
      refine jx_then ?_
      refine jc_seq ?_
      refine jc_region ?_
      refine jo_f [(0, 0), (0, 0), (0, 0)] (by kernel_rfl) ?_
      obtain ⟨x_5, hx_35, h⟩ := bd h
      refine toO (by kernel_rfl) (p_idx 0 s0_a s0.length i_2 1 (by kernel_rfl) (by kernel_rfl) (ix_some hx_35).1 (ltn hx_35 rfl) (s0_h.sp hx_35) (jkO ?_))
      refine toO (by kernel_rfl) (p_ld 0 (aB s0_a) (aO s0_a + i_2.toNat * 1) false (encI64 x_5) (by kernel_rfl) (by kernel_rfl) (by kernel_rfl) (fun w hm => ((hm.exRow s0_h List.not_mem_nil).at hx_35)) (jkO ?_))
      obtain ⟨t_6, ht_36, h⟩ := bd h
      refine toO (by kernel_rfl) (p_call 0 130 #[(.int .i64 x_5)] (by kernel_rfl) (by kernel_rfl) (fun w hm => impl_ValidWear_1.calls x_5 w _ ht_36) ?_)
      rintro w v w' hm ⟨rfl, hm'⟩
      refine ⟨_, hm.app hm', jkO ?_⟩
      clear hm hm'
      refine jo_end (by kernel_rfl) ?_
      refine jx_then ?_
      refine jc_cond t_6 (by kernel_rfl) (fun hc_37 => ?_) (fun hc_37 => ?_)
      · replace h := ifT hc_37 h
        refine jc_seq ?_
        refine jc_region ?_
        refine jo_f [(0, 0), (0, 0)] (by kernel_rfl) ?_
        refine jo_end (by kernel_rfl) ?_
        refine jx_then ?_
        refine jc_ret ?_
        refine jx_inr ?_
        refine jx_thenr ?_
        refine jx_leaver (.inl i_2) (Option.some.inj h).symm (fun e_38 => ?_)
        subst e_38
        refine jx_inr ?_
        refine jx_thenr ?_
        refine jx_thenr ?_
        obtain rfl := Option.some.inj hr_31
        exact jx_ret [] (.int .i64 i_2) [] rfl (by kernel_rfl) (by kernel_rfl) (fun w hm => ⟨rfl, hm.pick [] (by kernel_rfl) (by kernel_rfl)⟩)
      · replace h := ifF hc_37 h
        refine jc_skip ?_
        refine jx_inn ?_
        refine jx_then ?_
        refine jc_region ?_
        refine jo_f [(0, 0), (0, 0)] (by kernel_rfl) ?_
        refine jo_end (by kernel_rfl) ?_
        exact jx_back (w64 (i_2 + 1)) () (Option.some.inj h).symm trivial [] (by kernel_rfl) (by kernel_rfl) (by kernel_rfl)
    · replace h := ifF hc_34 h
      refine jc_exit ?_
      refine jx_thenx ?_
      refine jx_leave (.inr ()) (Option.some.inj h).symm (fun e_39 => ?_)
      subst e_39
      refine jx_ine ?_
      exact jx_meet () hr_31 (by kernel_rfl) [] (by kernel_rfl) (by kernel_rfl)
  · rintro _ h
    replace h : slices_IndexFunc_int64_at_impl_ValidWear_1.k_1 = some r := h
    rw [slices_IndexFunc_int64_at_impl_ValidWear_1.k_1] at h
    refine jx_then ?_
    refine jc_seq ?_
    refine jc_region ?_
    refine jo_f [(0, 0)] (by kernel_rfl) ?_
    refine jo_end (by kernel_rfl) ?_
    refine jx_then ?_
    refine jc_ret ?_
    obtain rfl := Option.some.inj h
    exact jx_ret [] (.int .i64 (-1)) [] rfl (by kernel_rfl) (by kernel_rfl) (fun w hm => ⟨rfl, hm.pick [] (by kernel_rfl) (by kernel_rfl)⟩)

/-! ### slices.ContainsFunc[[]int64,int64] -/
noncomputable def slices_ContainsFunc_int64_at_impl_ValidWear_1 (s0 : List Int) : Option (Bool) := (slices_IndexFunc_int64_at_impl_ValidWear_1 s0).bind fun t_1 => some (decide (t_1 ≥ 0))
set_option maxRecDepth 100000 in
theorem slices_ContainsFunc_int64_at_impl_ValidWear_1.calls (s0 : List Int) (w : World) (r : Bool) (s0_a : Option Addr) (s0_an : Nat) (s0_c : Nat) (s0_h : Rw w s0_a 1 encI64 s0) (s0_hn : s0.length = s0_an) (h : slices_ContainsFunc_int64_at_impl_ValidWear_1 s0 = some r) :
    Calls Tryz.prog 129 #[(.slice s0_a s0_an s0_c), (.func (.func 130) #[] #[])] w fun e w' => ∃ v, e = .returned v ∧ (v = (.bool r) ∧ Mem w [] [] w') := by
  subst s0_hn
  rw [slices_ContainsFunc_int64_at_impl_ValidWear_1] at h
  refine enter (args := [(.slice s0_a s0.length s0_c), (.func (.func 130) #[] #[])]) Tryz.func129 rfl Tryz.ntmps129 (by kernel_rfl) (L := []) (W := []) (Mem.start w) ?_
  refine jc_seq ?_
  refine jc_region ?_
  refine jo_f [(0, 0)] (by kernel_rfl) ?_
  refine jo_end (by kernel_rfl) ?_
  refine jx_then ?_
  refine jc_seq ?_
  refine jc_region ?_
  refine jo_f [(0, 0), (0, 0)] (by kernel_rfl) ?_
  obtain ⟨t_1, ht_1, h⟩ := bd h
  refine toO (by kernel_rfl) (p_call 0 148 #[(.slice s0_a s0.length s0_c), (.func (.func 130) #[] #[])] (by kernel_rfl) (by kernel_rfl) (fun w hm => slices_IndexFunc_int64_at_impl_ValidWear_1.calls s0 w _ s0_a s0.length s0_c (hm.exRow s0_h List.not_mem_nil) rfl ht_1) ?_)
  rintro w v w' hm ⟨rfl, hm'⟩
  refine ⟨_, hm.app hm', jkO ?_⟩
  clear hm hm'
  refine jo_f [(0, 0), (0, 0)] (by kernel_rfl) ?_
  refine jo_end (by kernel_rfl) ?_
  refine jx_then ?_
  refine jc_ret ?_
  obtain rfl := Option.some.inj h
  exact jx_ret [] (.bool (decide (t_1 ≥ 0))) [] rfl (by kernel_rfl) (by kernel_rfl) (fun w hm => ⟨rfl, hm.pick [] (by kernel_rfl) (by kernel_rfl)⟩)

/-! ### (impl.Frame).isPlace -/
noncomputable def impl_Frame_isPlace (f0 : GFrame) (step1 : Int) (track2 : Int) : Option (Bool) := (impl_within step1 0 (w64 ((w64 f0.fSteps) - 1))).bind fun t_1 => (if t_1 = true then (impl_size_Hammer f0.fHammers).bind fun t_2 => (impl_within track2 0 (w64 (t_2 - 1))).bind fun t_3 => some t_3 else some false)
set_option maxRecDepth 100000 in
theorem impl_Frame_isPlace.calls (f0 : GFrame) (step1 : Int) (track2 : Int) (w : World) (r : Bool) (f0_fHammers_a : Option Addr) (f0_fHammers_an : Nat) (f0_fHammers_c : Nat) (f0_fHammers_h : Rw w f0_fHammers_a 2 encGHammer f0.fHammers) (f0_fHammers_hn : f0.fHammers.length = f0_fHammers_an) (h : impl_Frame_isPlace f0 step1 track2 = some r) :
    Calls Tryz.prog 111 #[(.agg #[(.int .i16 f0.fSteps), (.slice f0_fHammers_a f0_fHammers_an f0_fHammers_c)]), (.int .i64 step1), (.int .i64 track2)] w fun e w' => ∃ v, e = .returned v ∧ (v = (.bool r) ∧ Mem w [] [] w') := by
  subst f0_fHammers_hn
  rw [impl_Frame_isPlace] at h
  refine enter (args := [(.agg #[(.int .i16 f0.fSteps), (.slice f0_fHammers_a f0.fHammers.length f0_fHammers_c)]), (.int .i64 step1), (.int .i64 track2)]) Tryz.func111 rfl Tryz.ntmps111 (by kernel_rfl) (L := []) (W := []) (Mem.start w) ?_
  refine jc_seq ?_
  refine jc_region ?_
  refine toO (by kernel_rfl) (p_a 0 [0] (by kernel_rfl) (fun b => by kernel_rfl) (fun b_1 => jkO ?_))
  refine jo_f [(0, 0)] (by kernel_rfl) ?_
  refine jo_end (by kernel_rfl) ?_
  refine jx_then ?_
  refine jc_seq ?_
  refine jc_region ?_
  refine jo_f [(0, 0), (0, 0), (0, 0), (0, 0), (0, 0)] (by kernel_rfl) ?_
  obtain ⟨t_1, ht_2, h⟩ := bd h
  refine toO (by kernel_rfl) (p_call 0 73 #[(.int .i64 step1), (.int .i64 0), (.int .i64 (w64 ((w64 f0.fSteps) - 1)))] (by kernel_rfl) (by kernel_rfl) (fun w hm => impl_within.calls step1 0 (w64 ((w64 f0.fSteps) - 1)) w _ ht_2) ?_)
  rintro w v w' hm ⟨rfl, hm'⟩
  refine ⟨_, hm.app hm', jkO ?_⟩
  clear hm hm'
  refine jo_f [(0, 0), (0, 1), (0, 1), (0, 1)] (by kernel_rfl) ?_
  refine jo_split 13 t_1 (by kernel_rfl) (fun hc_3 => ?_) (fun hc_3 => ?_)
  · replace h := ifT hc_3 h
    obtain ⟨t_2, ht_4, h⟩ := bd h
    refine toO (by kernel_rfl) (p_call 2 137 #[(.slice f0_fHammers_a f0.fHammers.length f0_fHammers_c)] (by kernel_rfl) (by kernel_rfl) (fun w hm => impl_size_Hammer.calls f0.fHammers w _ f0_fHammers_a f0.fHammers.length f0_fHammers_c (hm.exRow f0_fHammers_h List.not_mem_nil) rfl ht_4) ?_)
    rintro w v w' hm ⟨rfl, hm'⟩
    refine ⟨_, hm.app hm', jkO ?_⟩
    clear hm hm'
    refine jo_f [(0, 2)] (by kernel_rfl) ?_
    obtain ⟨t_3, ht_5, h⟩ := bd h
    refine toO (by kernel_rfl) (p_call 2 73 #[(.int .i64 track2), (.int .i64 0), (.int .i64 (w64 (t_2 - 1)))] (by kernel_rfl) (by kernel_rfl) (fun w hm => impl_within.calls track2 0 (w64 (t_2 - 1)) w _ ht_5) ?_)
    rintro w v w' hm ⟨rfl, hm'⟩
    refine ⟨_, hm.app hm', jkO ?_⟩
    clear hm hm'
    refine jo_f [(0, 4), (0, 0)] (by kernel_rfl) ?_
    refine jo_end (by kernel_rfl) ?_
    refine jx_then ?_
    refine jc_ret ?_
    obtain rfl := Option.some.inj h
    exact jx_ret [] (.bool t_3) [] rfl (by kernel_rfl) (by kernel_rfl) (fun w hm => ⟨rfl, hm.pick [] (by kernel_rfl) (by kernel_rfl)⟩)
  · replace h := ifF hc_3 h
    refine jo_f [(0, 3), (0, 3), (0, 3), (0, 5), (0, 0)] (by kernel_rfl) ?_
    refine jo_end (by kernel_rfl) ?_
    refine jx_then ?_
    refine jc_ret ?_
    obtain rfl := Option.some.inj h
    exact jx_ret [] (.bool false) [] rfl (by kernel_rfl) (by kernel_rfl) (fun w hm => ⟨rfl, hm.pick [] (by kernel_rfl) (by kernel_rfl)⟩)

/-! ### cmp.isNaN[int8] -/
noncomputable def cmp_isNaN_int8 (x0 : Int) : Option (Bool) := some (x0 != x0)
set_option maxRecDepth 100000 in
theorem cmp_isNaN_int8.calls (x0 : Int) (w : World) (r : Bool) (h : cmp_isNaN_int8 x0 = some r) :
    Calls Tryz.prog 160 #[(.int .i8 x0)] w fun e w' => ∃ v, e = .returned v ∧ (v = (.bool r) ∧ Mem w [] [] w') := by
  rw [cmp_isNaN_int8] at h
  refine enter (args := [(.int .i8 x0)]) Tryz.func160 rfl Tryz.ntmps160 (by kernel_rfl) (L := []) (W := []) (Mem.start w) ?_
  refine jc_seq ?_
  refine jc_region ?_
  refine jo_f [(0, 0)] (by kernel_rfl) ?_
  refine jo_end (by kernel_rfl) ?_
  refine jx_then ?_
  refine jc_seq ?_
  refine jc_region ?_
  refine jo_f [(0, 0), (0, 0), (0, 0), (0, 0)] (by kernel_rfl) ?_
  refine jo_end (by kernel_rfl) ?_
  refine jx_then ?_
  refine jc_ret ?_
  obtain rfl := Option.some.inj h
  exact jx_ret [] (.bool (x0 != x0)) [] rfl (by kernel_rfl) (by kernel_rfl) (fun w hm => ⟨rfl, hm.pick [] (by kernel_rfl) (by kernel_rfl)⟩)

/-! ### cmp.Compare[int8] -/
noncomputable def cmp_Compare_int8 (x0 : Int) (y1 : Int) : Option (Int) := (cmp_isNaN_int8 x0).bind fun t_1 => (cmp_isNaN_int8 y1).bind fun t_2 => (if t_1 = true then (if t_2 = true then some 0 else some (-1)) else (if t_2 = true then some 1 else (if (decide (x0 < y1)) = true then some (-1) else (if (decide (x0 > y1)) = true then some 1 else some 0))))
set_option maxRecDepth 100000 in
theorem cmp_Compare_int8.calls (x0 : Int) (y1 : Int) (w : World) (r : Int) (h : cmp_Compare_int8 x0 y1 = some r) :
    Calls Tryz.prog 141 #[(.int .i8 x0), (.int .i8 y1)] w fun e w' => ∃ v, e = .returned v ∧ (v = (.int .i64 r) ∧ Mem w [] [] w') := by
  rw [cmp_Compare_int8] at h
  refine enter (args := [(.int .i8 x0), (.int .i8 y1)]) Tryz.func141 rfl Tryz.ntmps141 (by kernel_rfl) (L := []) (W := []) (Mem.start w) ?_
  refine jc_seq ?_
  refine jc_region ?_
  refine jo_f [(0, 0)] (by kernel_rfl) ?_
  refine jo_end (by kernel_rfl) ?_
  refine jx_then ?_
  refine jc_seq ?_
  refine jc_region ?_
  refine jo_f [(0, 0)] (by kernel_rfl) ?_
  obtain ⟨t_1, ht_1, h⟩ := bd h
  refine toO (by kernel_rfl) (p_call 0 160 #[(.int .i8 x0)] (by kernel_rfl) (by kernel_rfl) (fun w hm => cmp_isNaN_int8.calls x0 w _ ht_1) ?_)
  rintro w v w' hm ⟨rfl, hm'⟩
  refine ⟨_, hm.app hm', jkO ?_⟩
  clear hm hm'
  refine jo_f [(0, 0)] (by kernel_rfl) ?_
  refine jo_end (by kernel_rfl) ?_
  refine jx_then ?_
  refine jc_seq ?_
  refine jc_region ?_
  refine jo_f [(0, 0)] (by kernel_rfl) ?_
  obtain ⟨t_2, ht_2, h⟩ := bd h
  refine toO (by kernel_rfl) (p_call 0 160 #[(.int .i8 y1)] (by kernel_rfl) (by kernel_rfl) (fun w hm => cmp_isNaN_int8.calls y1 w _ ht_2) ?_)
  rintro w v w' hm ⟨rfl, hm'⟩
  refine ⟨_, hm.app hm', jkO ?_⟩
  clear hm hm'
  refine jo_f [(0, 0)] (by kernel_rfl) ?_
  refine jo_end (by kernel_rfl) ?_
  refine jx_then ?_
  refine jc_seq ?_
  refine jc_seq ?_
  refine jc_region ?_
  refine jo_f [(0, 0)] (by kernel_rfl) ?_
  refine jo_end (by kernel_rfl) ?_
  refine jx_then ?_
  refine jc_cond t_1 (by kernel_rfl) (fun hc_5 => ?_) (fun hc_5 => ?_)
  · replace h := ifT hc_5 h
    refine jc_seq ?_
    refine jc_seq ?_
    refine jc_region ?_
    refine jo_f [(0, 0)] (by kernel_rfl) ?_
    refine jo_end (by kernel_rfl) ?_
    refine jx_then ?_
    refine jc_cond t_2 (by kernel_rfl) (fun hc_6 => ?_) (fun hc_6 => ?_)
    · replace h := ifT hc_6 h
      refine jc_seq ?_
      refine jc_region ?_
      refine jo_f [(0, 0)] (by kernel_rfl) ?_
      refine jo_end (by kernel_rfl) ?_
      refine jx_then ?_
      refine jc_ret ?_
      refine jx_thenr ?_
      refine jx_thenr ?_
      obtain rfl := Option.some.inj h
      exact jx_ret [] (.int .i64 0) [] rfl (by kernel_rfl) (by kernel_rfl) (fun w hm => ⟨rfl, hm.pick [] (by kernel_rfl) (by kernel_rfl)⟩)
    · replace h := ifF hc_6 h
      refine jc_skip ?_
      refine jx_then ?_
      refine jc_seq ?_
      refine jc_region ?_
      refine jo_f [(0, 0)] (by kernel_rfl) ?_
      refine jo_end (by kernel_rfl) ?_
      refine jx_then ?_
      refine jc_ret ?_
      refine jx_thenr ?_
      obtain rfl := Option.some.inj h
      exact jx_ret [] (.int .i64 (-1)) [] rfl (by kernel_rfl) (by kernel_rfl) (fun w hm => ⟨rfl, hm.pick [] (by kernel_rfl) (by kernel_rfl)⟩)
  · replace h := ifF hc_5 h
    refine jc_skip ?_
    refine jx_then ?_
    refine jc_seq ?_
    refine jc_seq ?_
    refine jc_region ?_
    refine jo_f [(0, 0)] (by kernel_rfl) ?_
    refine jo_end (by kernel_rfl) ?_
    refine jx_then ?_
    refine jc_cond t_2 (by kernel_rfl) (fun hc_8 => ?_) (fun hc_8 => ?_)
    · replace h := ifT hc_8 h
      refine jc_seq ?_
      refine jc_region ?_
      refine jo_f [(0, 0)] (by kernel_rfl) ?_
      refine jo_end (by kernel_rfl) ?_
      refine jx_then ?_
      refine jc_ret ?_
      refine jx_thenr ?_
      obtain rfl := Option.some.inj h
      exact jx_ret [] (.int .i64 1) [] rfl (by kernel_rfl) (by kernel_rfl) (fun w hm => ⟨rfl, hm.pick [] (by kernel_rfl) (by kernel_rfl)⟩)
    · replace h := ifF hc_8 h
      refine jc_skip ?_
      refine jx_then ?_
      refine jc_seq ?_
      refine jc_seq ?_
      refine jc_region ?_
      refine jo_f [(0, 0), (0, 0), (0, 0)] (by kernel_rfl) ?_
      refine jo_end (by kernel_rfl) ?_
      refine jx_then ?_
      refine jc_cond (decide (x0 < y1)) (by kernel_rfl) (fun hc_10 => ?_) (fun hc_10 => ?_)
      · replace h := ifT hc_10 h
        refine jc_seq ?_
        refine jc_region ?_
        refine jo_f [(0, 0)] (by kernel_rfl) ?_
        refine jo_end (by kernel_rfl) ?_
        refine jx_then ?_
        refine jc_ret ?_
        refine jx_thenr ?_
        obtain rfl := Option.some.inj h
        exact jx_ret [] (.int .i64 (-1)) [] rfl (by kernel_rfl) (by kernel_rfl) (fun w hm => ⟨rfl, hm.pick [] (by kernel_rfl) (by kernel_rfl)⟩)
      · replace h := ifF hc_10 h
        refine jc_skip ?_
        refine jx_then ?_
        refine jc_seq ?_
        refine jc_seq ?_
        refine jc_region ?_
        refine jo_f [(0, 0), (0, 0), (0, 0)] (by kernel_rfl) ?_
        refine jo_end (by kernel_rfl) ?_
        refine jx_then ?_
        refine jc_cond (decide (x0 > y1)) (by kernel_rfl) (fun hc_11 => ?_) (fun hc_11 => ?_)
        · replace h := ifT hc_11 h
          refine jc_seq ?_
          refine jc_region ?_
          refine jo_f [(0, 0)] (by kernel_rfl) ?_
          refine jo_end (by kernel_rfl) ?_
          refine jx_then ?_
          refine jc_ret ?_
          refine jx_thenr ?_
          obtain rfl := Option.some.inj h
          exact jx_ret [] (.int .i64 1) [] rfl (by kernel_rfl) (by kernel_rfl) (fun w hm => ⟨rfl, hm.pick [] (by kernel_rfl) (by kernel_rfl)⟩)
        · replace h := ifF hc_11 h
          refine jc_skip ?_
          refine jx_then ?_
          refine jc_seq ?_
          refine jc_region ?_
          refine jo_f [(0, 0)] (by kernel_rfl) ?_
          refine jo_end (by kernel_rfl) ?_
          refine jx_then ?_
          refine jc_ret ?_
          obtain rfl := Option.some.inj h
          exact jx_ret [] (.int .i64 0) [] rfl (by kernel_rfl) (by kernel_rfl) (fun w hm => ⟨rfl, hm.pick [] (by kernel_rfl) (by kernel_rfl)⟩)

/-! ### cmp.Or[int] -/
noncomputable def cmp_Or_int.k_1 : Option (Int) := some 0
noncomputable def cmp_Or_int.l_3 (vals0 : List Int) : Int → Option ((Int) ⊕ (Int ⊕ Unit))
  | i_2 => (if (decide (i_2 < (vals0.length : Int))) = true then (ix vals0 i_2).bind fun x_5 => (if (x_5 != 0) = true then some (.inr (.inl x_5)) else some (.inl (w64 (i_2 + 1)))) else some (.inr (.inr ())))
noncomputable def cmp_Or_int (vals0 : List Int) : Option (Int) := (loop (cmp_Or_int.l_3 vals0) 0).bind fun t_4 => match t_4 with | .inl p => some p | .inr p => cmp_Or_int.k_1
set_option maxRecDepth 100000 in
theorem cmp_Or_int.calls (vals0 : List Int) (w : World) (r : Int) (vals0_a : Option Addr) (vals0_an : Nat) (vals0_c : Nat) (vals0_h : Rw w vals0_a 1 encI64 vals0) (vals0_hn : vals0.length = vals0_an) (h : cmp_Or_int vals0 = some r) :
    Calls Tryz.prog 140 #[(.slice vals0_a vals0_an vals0_c)] w fun e w' => ∃ v, e = .returned v ∧ (v = (.int .i64 r) ∧ Mem w [] [] w') := by
  subst vals0_hn
  rw [cmp_Or_int] at h
  refine enter (args := [(.slice vals0_a vals0.length vals0_c)]) Tryz.func140 rfl Tryz.ntmps140 (by kernel_rfl) (L := []) (W := []) (Mem.start w) ?_
  refine jc_seq ?_
  refine jc_region ?_
  refine jo_f [(0, 0)] (by kernel_rfl) ?_
  refine jo_end (by kernel_rfl) ?_
  refine jx_then ?_
  refine jc_seq ?_
  refine jc_region ?_
  refine jo_f [(0, 0)] (by kernel_rfl) ?_
  refine jo_end (by kernel_rfl) ?_
  refine jx_then ?_
  refine jc_seq ?_
  refine jc_seq ?_
  refine jc_region ?_
  refine jo_f [(0, 0), (0, 0), (0, 0)] (by kernel_rfl) ?_
  refine jo_end (by kernel_rfl) ?_
  refine jx_then ?_
  refine jc_meet (fun (_ : Unit) => cmp_Or_int.k_1 = some r) (fun (_ : Unit) => [(2, [], (.int .i64 0)), (3, [], (.int .i64 0))]) (fun (_ : Unit) => []) ?_ ?_
  · refine jc_block ?_
    obtain ⟨t_4, ht_68, hr_60⟩ := bd h
    refine jc_loop (fun (s : Int) (x : Unit) => match s, x with | i_2, _ => True) (fun (s : Int) (x : Unit) => match s, x with | i_2, _ => [(2, [], (.int .i64 0)), (3, [], (.int .i64 0)), (6, [], (.slice vals0_a vals0.length vals0_c)), (7, [], (.int .i64 (vals0.length : Int))), (8, [], (.int .i64 i_2))]) (fun (s : Int) (x : Unit) => match s, x with | i_2, _ => []) ht_68 () trivial (by kernel_rfl) [] (by kernel_rfl) (by kernel_rfl) ?_
    rintro i_2 _ y_61 _ h
    rw [cmp_Or_int.l_3] at h
    refine jc_seq ?_
    refine jc_region ?_
    refine jo_f [(0, 0)] (by kernel_rfl) ?_
    refine jo_end (by kernel_rfl) ?_
    refine jx_then ?_
    refine jc_seq ?_
    refine jc_cond (decide (i_2 < (vals0.length : Int))) (by kernel_rfl) (fun hc_63 => ?_) (fun hc_63 => ?_)
    · replace h := ifT hc_63 h
      refine jc_skip ?_
      refine jx_then ?_
      refine jc_seq ?_
      refine jc_block ?_
      refine jc_seq ?_
      refine jc_region ?_
      obtain ⟨x_5, hx_64, h⟩ := bd h
      refine toO (by kernel_rfl) (p_idx 0 vals0_a vals0.length i_2 1 (by kernel_rfl) (by kernel_rfl) (ix_some hx_64).1 (ltn hx_64 rfl) (vals0_h.sp hx_64) (jkO ?_))
      refine toO (by kernel_rfl) (p_ld 0 (aB vals0_a) (aO vals0_a + i_2.toNat * 1) false (encI64 x_5) (by kernel_rfl) (by kernel_rfl) (by kernel_rfl) (fun w hm => ((hm.exRow vals0_h List.not_mem_nil).at hx_64)) (jkO ?_))
      refine jo_f [(0, 0)] (by kernel_rfl) ?_
      refine jo_end (by kernel_rfl) ?_
      refine jx_then ?_
      refine jc_seq ?_
      refine jc_region ?_
      refine jo_f [(0, 0), (0, 0), (0, 0)] (by kernel_rfl) ?_
      refine jo_end (by kernel_rfl) ?_
      refine jx_then ?_
      refine jc_cond (x_5 != 0) (by kernel_rfl) (fun hc_65 => ?_) (fun hc_65 => ?_)
      · replace h := ifT hc_65 h
        refine jc_seq ?_
        refine jc_region ?_
        refine jo_f [(0, 0), (0, 0)] (by kernel_rfl) ?_
        refine jo_end (by kernel_rfl) ?_
        refine jx_then ?_
        refine jc_ret ?_
        refine jx_inr ?_
        refine jx_thenr ?_
        refine jx_leaver (.inl x_5) (Option.some.inj h).symm (fun e_66 => ?_)
        subst e_66
        refine jx_inr ?_
        refine jx_thenr ?_
        refine jx_thenr ?_
        obtain rfl := Option.some.inj hr_60
        exact jx_ret [] (.int .i64 x_5) [] rfl (by kernel_rfl) (by kernel_rfl) (fun w hm => ⟨rfl, hm.pick [] (by kernel_rfl) (by kernel_rfl)⟩)
      · replace h := ifF hc_65 h
        refine jc_skip ?_
        refine jx_inn ?_
        refine jx_then ?_
        refine jc_region ?_
        refine jo_f [(0, 0), (0, 0)] (by kernel_rfl) ?_
        refine jo_end (by kernel_rfl) ?_
        exact jx_back (w64 (i_2 + 1)) () (Option.some.inj h).symm trivial [] (by kernel_rfl) (by kernel_rfl) (by kernel_rfl)
    · replace h := ifF hc_63 h
      refine jc_exit ?_
      refine jx_thenx ?_
      refine jx_leave (.inr ()) (Option.some.inj h).symm (fun e_67 => ?_)
      subst e_67
      refine jx_ine ?_
      exact jx_meet () hr_60 (by kernel_rfl) [] (by kernel_rfl) (by kernel_rfl)
  · rintro _ h
    replace h : cmp_Or_int.k_1 = some r := h
    rw [cmp_Or_int.k_1] at h
    refine jx_then ?_
    refine jc_seq ?_
    refine jc_region ?_
    refine jo_f [(0, 0), (0, 0)] (by kernel_rfl) ?_
    refine jo_end (by kernel_rfl) ?_
    refine jx_then ?_
    refine jc_ret ?_
    obtain rfl := Option.some.inj h
    exact jx_ret [] (.int .i64 0) [] rfl (by kernel_rfl) (by kernel_rfl) (fun w hm => ⟨rfl, hm.pick [] (by kernel_rfl) (by kernel_rfl)⟩)

/-! ### impl.comparePins -/
noncomputable def impl_comparePins (a0 : GWornPin) (b1 : GWornPin) : Option (Int) := (cmp_Compare_int8 a0.fStep b1.fStep).bind fun t_1 => (cmp_Compare_int8 a0.fTrack b1.fTrack).bind fun t_2 => (cmp_Or_int [t_1, t_2]).bind fun t_3 => some t_3
set_option maxRecDepth 100000 in
theorem impl_comparePins.calls (a0 : GWornPin) (b1 : GWornPin) (w : World) (r : Int) (h : impl_comparePins a0 b1 = some r) :
    Calls Tryz.prog 116 #[(.agg #[(.int .i8 a0.fStep), (.int .i8 a0.fTrack), (.int .i64 a0.fTurns)]), (.agg #[(.int .i8 b1.fStep), (.int .i8 b1.fTrack), (.int .i64 b1.fTurns)])] w fun e w' => ∃ v, e = .returned v ∧ (v = (.int .i64 r) ∧ Mem w [] [] w') := by
  rw [impl_comparePins] at h
  refine enter (args := [(.agg #[(.int .i8 a0.fStep), (.int .i8 a0.fTrack), (.int .i64 a0.fTurns)]), (.agg #[(.int .i8 b1.fStep), (.int .i8 b1.fTrack), (.int .i64 b1.fTurns)])]) Tryz.func116 rfl Tryz.ntmps116 (by kernel_rfl) (L := []) (W := []) (Mem.start w) ?_
  refine jc_seq ?_
  refine jc_region ?_
  refine toO (by kernel_rfl) (p_a 0 [0] (by kernel_rfl) (fun b => by kernel_rfl) (fun b_1 => jkO ?_))
  refine toO (by kernel_rfl) (p_a 0 [0] (by kernel_rfl) (fun b => by kernel_rfl) (fun b_2 => jkO ?_))
  refine jo_f [(0, 0)] (by kernel_rfl) ?_
  refine jo_end (by kernel_rfl) ?_
  refine jx_then ?_
  refine jc_seq ?_
  refine jc_draw [⟨some b_1, 75, [(.int .i8 a0.fStep), (.int .i8 a0.fTrack), (.int .i64 a0.fTurns)]⟩, ⟨some b_2, 75, [(.int .i8 b1.fStep), (.int .i8 b1.fTrack), (.int .i64 b1.fTurns)]⟩] 13 (by kernel_rfl) (by kernel_rfl) ?_
  refine jd_f [⟨0, 0, 0⟩, ⟨1, 0, 0⟩, ⟨2, 0, 0⟩, ⟨3, 1, 0⟩, ⟨5, 0, 0⟩, ⟨6, 0, 0⟩, ⟨7, 0, 0⟩, ⟨8, 1, 0⟩] 5 (by kernel_rfl) (by kernel_rfl) (fun w h => h.pick [0, 1] (by kernel_rfl) (by kernel_rfl)) (by kernel_rfl) (by kernel_rfl) ?_
  obtain ⟨t_1, ht_3, h⟩ := bd h
  refine toD 4 (by kernel_rfl) (p_call 0 141 #[(.int .i8 a0.fStep), (.int .i8 b1.fStep)] (by kernel_rfl) (by kernel_rfl) (fun w hm => cmp_Compare_int8.calls a0.fStep b1.fStep w _ ht_3) ?_)
  rintro w v w' hm ⟨rfl, hm'⟩
  refine ⟨_, hm.app hm', jkD (fun w h => h.pick [0, 1] (by kernel_rfl) (by kernel_rfl)) ?_⟩
  clear hm hm'
  obtain ⟨t_2, ht_4, h⟩ := bd h
  refine toD 9 (by kernel_rfl) (p_call 0 141 #[(.int .i8 a0.fTrack), (.int .i8 b1.fTrack)] (by kernel_rfl) (by kernel_rfl) (fun w hm => cmp_Compare_int8.calls a0.fTrack b1.fTrack w _ ht_4) ?_)
  rintro w v w' hm ⟨rfl, hm'⟩
  refine ⟨_, hm.app hm', jkD (fun w h => h.pick [0, 1] (by kernel_rfl) (by kernel_rfl)) ?_⟩
  clear hm hm'
  refine toD 10 (by kernel_rfl) (p_a 0 [0] (by kernel_rfl) (fun b => by kernel_rfl) (fun b_5 => jkD (fun w h => h.pick [0, 1] (by kernel_rfl) (by kernel_rfl)) ?_))
  obtain ⟨t_3, ht_6, h⟩ := bd h
  refine toD 11 (by kernel_rfl) (p_call 0 140 #[(.slice (some ⟨b_5, 0, none⟩) 2 2)] (by kernel_rfl) (by kernel_rfl) (fun w hm => cmp_Or_int.calls [t_1, t_2] w _ (some ⟨b_5, 0, none⟩) 2 2 (hm.ownRow (hh := 2) (o := (some b_5)) (T := 3) (enc := encI64) (xs := [t_1, t_2]) (sp := []) (by kernel_rfl) (fun e => nomatch e) encI64_len) rfl ht_6) ?_)
  rintro w v w' hm ⟨rfl, hm'⟩
  refine ⟨_, hm.app hm', jkD (fun w h => h.pick [0, 1] (by kernel_rfl) (by kernel_rfl)) ?_⟩
  clear hm hm'
  refine jd_f [⟨12, 0, 0⟩] 0 (by kernel_rfl) (by kernel_rfl) (fun w h => h.pick [0, 1] (by kernel_rfl) (by kernel_rfl)) (by kernel_rfl) (by kernel_rfl) ?_
  refine jd_end (by kernel_rfl) ?_
  refine jx_then ?_
  refine jc_ret ?_
  obtain rfl := Option.some.inj h
  exact jx_ret [] (.int .i64 t_3) [] rfl (by kernel_rfl) (by kernel_rfl) (fun w hm => ⟨rfl, hm.pick [] (by kernel_rfl) (by kernel_rfl)⟩)

/-! ### impl.ValidWear -/
noncomputable def impl_ValidWear.k_3 : Option (Bool) := some true
noncomputable def impl_ValidWear.k_9 (i_4 : Int) (q_8 : Bool) : Option ((Int) ⊕ (Bool ⊕ Unit)) := (if q_8 = true then some (.inr (.inl false)) else some (.inl (w64 (i_4 + 1))))
noncomputable def impl_ValidWear.l_5 (f0 : GFrame) (w1 : GWear) : Int → Option ((Int) ⊕ (Bool ⊕ Unit))
  | i_4 => (if (decide (i_4 < (w1.fPins.length : Int))) = true then (ix w1.fPins i_4).bind fun x_7 => (impl_Frame_isPlace f0 (w64 x_7.fStep) (w64 x_7.fTrack)).bind fun t_10 => (if (!t_10) = true then impl_ValidWear.k_9 i_4 true else (impl_isMade x_7.fTurns).bind fun t_11 => (if (!t_11) = true then impl_ValidWear.k_9 i_4 true else (if (decide (i_4 > 0)) = true then (ix w1.fPins (w64 (i_4 - 1))).bind fun x_12 => (impl_comparePins x_12 x_7).bind fun t_13 => impl_ValidWear.k_9 i_4 (decide (t_13 ≥ 0)) else impl_ValidWear.k_9 i_4 false))) else some (.inr (.inr ())))
noncomputable def impl_ValidWear.k_2 (f0 : GFrame) (w1 : GWear) (q_1 : Bool) : Option (Bool) := (if q_1 = true then some false else (loop (impl_ValidWear.l_5 f0 w1) 0).bind fun t_6 => match t_6 with | .inl p => some p | .inr p => impl_ValidWear.k_3)
noncomputable def impl_ValidWear (f0 : GFrame) (w1 : GWear) : Option (Bool) := (impl_ValidFrame f0).bind fun t_14 => (if ((!t_14) || ((w1.fStrokes.length : Int) != (f0.fHammers.length : Int))) = true then impl_ValidWear.k_2 f0 w1 true else (slices_ContainsFunc_int64_at_impl_ValidWear_1 w1.fStrokes).bind fun t_15 => impl_ValidWear.k_2 f0 w1 t_15)
set_option maxRecDepth 100000 in
theorem impl_ValidWear.calls (f0 : GFrame) (w1 : GWear) (w : World) (r : Bool) (f0_fHammers_a : Option Addr) (f0_fHammers_an : Nat) (f0_fHammers_c : Nat) (f0_fHammers_h : Rw w f0_fHammers_a 2 encGHammer f0.fHammers) (f0_fHammers_hn : f0.fHammers.length = f0_fHammers_an) (w1_fPins_a : Option Addr) (w1_fPins_an : Nat) (w1_fPins_c : Nat) (w1_fPins_h : Rw w w1_fPins_a 3 encGWornPin w1.fPins) (w1_fPins_hn : w1.fPins.length = w1_fPins_an) (w1_fStrokes_a : Option Addr) (w1_fStrokes_an : Nat) (w1_fStrokes_c : Nat) (w1_fStrokes_h : Rw w w1_fStrokes_a 1 encI64 w1.fStrokes) (w1_fStrokes_hn : w1.fStrokes.length = w1_fStrokes_an) (h : impl_ValidWear f0 w1 = some r) :
    Calls Tryz.prog 97 #[(.agg #[(.int .i16 f0.fSteps), (.slice f0_fHammers_a f0_fHammers_an f0_fHammers_c)]), (.agg #[(.slice w1_fPins_a w1_fPins_an w1_fPins_c), (.slice w1_fStrokes_a w1_fStrokes_an w1_fStrokes_c)])] w fun e w' => ∃ v, e = .returned v ∧ (v = (.bool r) ∧ Mem w [] [] w') := by
  subst f0_fHammers_hn w1_fPins_hn w1_fStrokes_hn
  rw [impl_ValidWear] at h
  refine enter (args := [(.agg #[(.int .i16 f0.fSteps), (.slice f0_fHammers_a f0.fHammers.length f0_fHammers_c)]), (.agg #[(.slice w1_fPins_a w1.fPins.length w1_fPins_c), (.slice w1_fStrokes_a w1.fStrokes.length w1_fStrokes_c)])]) Tryz.func97 rfl Tryz.ntmps97 (by kernel_rfl) (L := []) (W := []) (Mem.start w) ?_
  refine jc_seq ?_
  refine jc_region ?_
  refine toO (by kernel_rfl) (p_a 0 [0] (by kernel_rfl) (fun b => by kernel_rfl) (fun b_1 => jkO ?_))
  refine toO (by kernel_rfl) (p_a 0 [0] (by kernel_rfl) (fun b => by kernel_rfl) (fun b_2 => jkO ?_))
  refine jo_f [(0, 0)] (by kernel_rfl) ?_
  refine jo_end (by kernel_rfl) ?_
  refine jx_then ?_
  refine jc_seq ?_
  refine jc_seq ?_
  refine jc_meet (fun (j : Bool) => match j with | q_1 => impl_ValidWear.k_2 f0 w1 q_1 = some r) (fun (j : Bool) => match j with | q_1 => [(2, [], (.pointer (some ⟨b_1, 0, none⟩))), (3, [], (.pointer (some ⟨b_2, 0, none⟩))), (4, [], (.bool false)), (23, [], (.bool q_1))]) (fun (j : Bool) => match j with | q_1 => [⟨some b_1, 43, [(.int .i16 f0.fSteps), (.slice f0_fHammers_a f0.fHammers.length f0_fHammers_c)]⟩, ⟨some b_2, 38, [(.slice w1_fPins_a w1.fPins.length w1_fPins_c), (.slice w1_fStrokes_a w1.fStrokes.length w1_fStrokes_c)]⟩]) ?_ ?_
  · refine jc_region ?_
    refine jo_f [(0, 0)] (by kernel_rfl) ?_
    obtain ⟨t_14, ht_138, h⟩ := bd h
    refine toO (by kernel_rfl) (p_call 0 128 #[(.agg #[(.int .i16 f0.fSteps), (.slice f0_fHammers_a f0.fHammers.length f0_fHammers_c)])] (by kernel_rfl) (by kernel_rfl) (fun w hm => impl_ValidFrame.calls f0 w _ f0_fHammers_a f0.fHammers.length f0_fHammers_c (hm.exRow f0_fHammers_h List.not_mem_nil) rfl ht_138) ?_)
    rintro w v w' hm ⟨rfl, hm'⟩
    refine ⟨_, hm.app hm', jkO ?_⟩
    clear hm hm'
    refine jo_f [(0, 0), (0, 0), (0, 1), (1, 1), (0, 1), (0, 1), (0, 1), (0, 1), (0, 1), (0, 0), (0, 0), (0, 1), (1, 1)] (by kernel_rfl) ?_
    refine jo_split 19 ((!t_14) || ((w1.fStrokes.length : Int) != (f0.fHammers.length : Int))) (by kernel_rfl) (fun hc_139 => ?_) (fun hc_139 => ?_)
    · replace h := ifT hc_139 h
      refine jo_f [(0, 3), (0, 4)] (by kernel_rfl) ?_
      refine jo_end (by kernel_rfl) ?_
      exact jx_meet true h (by kernel_rfl) [0, 1] (by kernel_rfl) (by kernel_rfl)
    · replace h := ifF hc_139 h
      obtain ⟨t_15, ht_140, h⟩ := bd h
      refine toO (by kernel_rfl) (p_call 2 129 #[(.slice w1_fStrokes_a w1.fStrokes.length w1_fStrokes_c), (.func (.func 130) #[] #[])] (by kernel_rfl) (by kernel_rfl) (fun w hm => slices_ContainsFunc_int64_at_impl_ValidWear_1.calls w1.fStrokes w _ w1_fStrokes_a w1.fStrokes.length w1_fStrokes_c (hm.exRow w1_fStrokes_h List.not_mem_nil) rfl ht_140) ?_)
      rintro w v w' hm ⟨rfl, hm'⟩
      refine ⟨_, hm.app hm', jkO ?_⟩
      clear hm hm'
      refine jo_f [(0, 5)] (by kernel_rfl) ?_
      refine jo_end (by kernel_rfl) ?_
      exact jx_meet t_15 h (by kernel_rfl) [0, 1] (by kernel_rfl) (by kernel_rfl)
  · rintro q_1 h
    replace h : impl_ValidWear.k_2 f0 w1 q_1 = some r := h
    rw [impl_ValidWear.k_2] at h
    refine jx_then ?_
    refine jc_cond q_1 (by kernel_rfl) (fun hc_13 => ?_) (fun hc_13 => ?_)
    · replace h := ifT hc_13 h
      refine jc_seq ?_
      refine jc_region ?_
      refine jo_f [(0, 0)] (by kernel_rfl) ?_
      refine jo_end (by kernel_rfl) ?_
      refine jx_then ?_
      refine jc_ret ?_
      refine jx_thenr ?_
      obtain rfl := Option.some.inj h
      exact jx_ret [] (.bool false) [] rfl (by kernel_rfl) (by kernel_rfl) (fun w hm => ⟨rfl, hm.pick [] (by kernel_rfl) (by kernel_rfl)⟩)
    · replace h := ifF hc_13 h
      refine jc_skip ?_
      refine jx_then ?_
      refine jc_seq ?_
      refine jc_seq ?_
      refine jc_region ?_
      refine jo_f [(0, 0), (1, 0), (0, 0), (0, 0)] (by kernel_rfl) ?_
      refine jo_end (by kernel_rfl) ?_
      refine jx_then ?_
      refine jc_meet (fun (_ : Unit) => impl_ValidWear.k_3 = some r) (fun (_ : Unit) => [(4, [], (.bool false))]) (fun (_ : Unit) => [⟨some b_1, 43, [(.int .i16 f0.fSteps), (.slice f0_fHammers_a f0.fHammers.length f0_fHammers_c)]⟩, ⟨some b_2, 38, [(.slice w1_fPins_a w1.fPins.length w1_fPins_c), (.slice w1_fStrokes_a w1.fStrokes.length w1_fStrokes_c)]⟩]) ?_ ?_
      · refine jc_block ?_
        obtain ⟨t_6, ht_137, hr_114⟩ := bd h
        refine jc_loop (fun (s : Int) (x : Unit) => match s, x with | i_4, _ => True) (fun (s : Int) (x : Unit) => match s, x with | i_4, _ => [(2, [], (.pointer (some ⟨b_1, 0, none⟩))), (3, [], (.pointer (some ⟨b_2, 0, none⟩))), (4, [], (.bool false)), (25, [], (.slice w1_fPins_a w1.fPins.length w1_fPins_c)), (26, [], (.int .i64 (w1.fPins.length : Int))), (27, [], (.int .i64 i_4))]) (fun (s : Int) (x : Unit) => match s, x with | i_4, _ => [⟨some b_1, 43, [(.int .i16 f0.fSteps), (.slice f0_fHammers_a f0.fHammers.length f0_fHammers_c)]⟩, ⟨some b_2, 38, [(.slice w1_fPins_a w1.fPins.length w1_fPins_c), (.slice w1_fStrokes_a w1.fStrokes.length w1_fStrokes_c)]⟩]) ht_137 () trivial (by kernel_rfl) [0, 1] (by kernel_rfl) (by kernel_rfl) ?_
        rintro i_4 _ y_115 _ h
        rw [impl_ValidWear.l_5] at h
        refine jc_seq ?_
        refine jc_region ?_
        refine jo_f [(0, 0)] (by kernel_rfl) ?_
        refine jo_end (by kernel_rfl) ?_
        refine jx_then ?_
        refine jc_seq ?_
        refine jc_cond (decide (i_4 < (w1.fPins.length : Int))) (by kernel_rfl) (fun hc_117 => ?_) (fun hc_117 => ?_)
        · replace h := ifT hc_117 h
          refine jc_skip ?_
          refine jx_then ?_
          refine jc_seq ?_
          refine jc_block ?_
          refine jc_seq ?_
          refine jc_region ?_
          refine jo_f [(0, 0)] (by kernel_rfl) ?_
          obtain ⟨x_7, hx_118, h⟩ := bd h
          refine toO (by kernel_rfl) (p_idx 0 w1_fPins_a w1.fPins.length i_4 3 (by kernel_rfl) (by kernel_rfl) (ix_some hx_118).1 (ltn hx_118 rfl) (w1_fPins_h.sp hx_118) (jkO ?_))
          refine toO (by kernel_rfl) (p_ld 0 (aB w1_fPins_a) (aO w1_fPins_a + i_4.toNat * 3) true (encGWornPin x_7) (by kernel_rfl) (by kernel_rfl) (by kernel_rfl) (fun w hm => ((hm.exRow w1_fPins_h List.not_mem_nil).at hx_118)) (jkO ?_))
          refine toO (by kernel_rfl) (p_a 0 [0] (by kernel_rfl) (fun b => by kernel_rfl) (fun b_119 => jkO ?_))
          refine jo_f [(0, 0)] (by kernel_rfl) ?_
          refine toO (by kernel_rfl) (p_s 0 [2] (by kernel_rfl) (by kernel_rfl) (jkO ?_))
          refine jo_end (by kernel_rfl) ?_
          refine jx_then ?_
          refine jc_seq ?_
          refine jc_meet (fun (j : Bool) => match j with | q_8 => impl_ValidWear.k_9 i_4 q_8 = some y_115) (fun (j : Bool) => match j with | q_8 => [(2, [], (.pointer (some ⟨b_1, 0, none⟩))), (3, [], (.pointer (some ⟨b_2, 0, none⟩))), (4, [], (.bool false)), (25, [], (.slice w1_fPins_a w1.fPins.length w1_fPins_c)), (26, [], (.int .i64 (w1.fPins.length : Int))), (27, [], (.int .i64 i_4)), (61, [], (.bool q_8))]) (fun (j : Bool) => match j with | q_8 => [⟨some b_1, 43, [(.int .i16 f0.fSteps), (.slice f0_fHammers_a f0.fHammers.length f0_fHammers_c)]⟩, ⟨some b_2, 38, [(.slice w1_fPins_a w1.fPins.length w1_fPins_c), (.slice w1_fStrokes_a w1.fStrokes.length w1_fStrokes_c)]⟩, ⟨some b_119, 75, [(.int .i8 x_7.fStep), (.int .i8 x_7.fTrack), (.int .i64 x_7.fTurns)]⟩]) ?_ ?_
          · refine jc_draw [⟨some b_1, 43, [(.int .i16 f0.fSteps), (.slice f0_fHammers_a f0.fHammers.length f0_fHammers_c)]⟩, ⟨some b_2, 38, [(.slice w1_fPins_a w1.fPins.length w1_fPins_c), (.slice w1_fStrokes_a w1.fStrokes.length w1_fStrokes_c)]⟩, ⟨some b_119, 75, [(.int .i8 x_7.fStep), (.int .i8 x_7.fTrack), (.int .i64 x_7.fTurns)]⟩] 30 (by kernel_rfl) (by kernel_rfl) ?_
            refine jd_f [⟨0, 0, 0⟩, ⟨1, 0, 0⟩, ⟨2, 2, 0⟩, ⟨3, 0, 0⟩, ⟨4, 0, 0⟩, ⟨5, 2, 0⟩, ⟨6, 0, 0⟩] 23 (by kernel_rfl) (by kernel_rfl) (fun w h => h.pick [0, 1, 2] (by kernel_rfl) (by kernel_rfl)) (by kernel_rfl) (by kernel_rfl) ?_
            obtain ⟨t_10, ht_129, h⟩ := bd h
            refine toD 7 (by kernel_rfl) (p_call 0 111 #[(.agg #[(.int .i16 f0.fSteps), (.slice f0_fHammers_a f0.fHammers.length f0_fHammers_c)]), (.int .i64 (w64 x_7.fStep)), (.int .i64 (w64 x_7.fTrack))] (by kernel_rfl) (by kernel_rfl) (fun w hm => impl_Frame_isPlace.calls f0 (w64 x_7.fStep) (w64 x_7.fTrack) w _ f0_fHammers_a f0.fHammers.length f0_fHammers_c (hm.exRow f0_fHammers_h List.not_mem_nil) rfl ht_129) ?_)
            rintro w v w' hm ⟨rfl, hm'⟩
            refine ⟨_, hm.app hm', jkD (fun w h => h.pick [0, 1, 2] (by kernel_rfl) (by kernel_rfl)) ?_⟩
            clear hm hm'
            refine jd_f [⟨8, 0, 0⟩, ⟨9, 0, 0⟩, ⟨10, 0, 1⟩, ⟨11, 2, 1⟩] 18 (by kernel_rfl) (by kernel_rfl) (fun w h => h.pick [0, 1, 2] (by kernel_rfl) (by kernel_rfl)) (by kernel_rfl) (by kernel_rfl) ?_
            refine jd_split 41 (!t_10) (by kernel_rfl) (fun hc_130 => ?_) (fun hc_130 => ?_)
            · replace h := ifT hc_130 h
              refine jd_f [⟨12, 0, 3⟩, ⟨13, 0, 3⟩, ⟨14, 0, 4⟩, ⟨15, 0, 0⟩, ⟨16, 0, 3⟩, ⟨17, 0, 3⟩, ⟨18, 0, 3⟩, ⟨19, 0, 3⟩, ⟨20, 0, 3⟩, ⟨21, 0, 3⟩, ⟨22, 0, 3⟩, ⟨23, 0, 3⟩, ⟨24, 0, 3⟩, ⟨25, 0, 3⟩, ⟨26, 0, 3⟩, ⟨27, 0, 3⟩, ⟨28, 0, 3⟩, ⟨29, 0, 4⟩] 0 (by kernel_rfl) (by kernel_rfl) (fun w h => h.pick [0, 1, 2] (by kernel_rfl) (by kernel_rfl)) (by kernel_rfl) (by kernel_rfl) ?_
              refine jd_end (by kernel_rfl) ?_
              exact jx_meet true h (by kernel_rfl) [0, 1, 2] (by kernel_rfl) (by kernel_rfl)
            · replace h := ifF hc_130 h
              obtain ⟨t_11, ht_131, h⟩ := bd h
              refine toD 12 (by kernel_rfl) (p_call 2 65 #[(.int .i64 x_7.fTurns)] (by kernel_rfl) (by kernel_rfl) (fun w hm => impl_isMade.calls x_7.fTurns w _ ht_131) ?_)
              rintro w v w' hm ⟨rfl, hm'⟩
              refine ⟨_, hm.app hm', jkD (fun w h => h.pick [0, 1, 2] (by kernel_rfl) (by kernel_rfl)) ?_⟩
              clear hm hm'
              refine jd_f [⟨13, 0, 2⟩, ⟨14, 0, 5⟩, ⟨15, 0, 0⟩, ⟨16, 0, 1⟩, ⟨17, 0, 1⟩] 12 (by kernel_rfl) (by kernel_rfl) (fun w h => h.pick [0, 1, 2] (by kernel_rfl) (by kernel_rfl)) (by kernel_rfl) (by kernel_rfl) ?_
              refine jd_split 47 (!t_11) (by kernel_rfl) (fun hc_132 => ?_) (fun hc_132 => ?_)
              · replace h := ifT hc_132 h
                refine jd_f [⟨18, 0, 3⟩, ⟨19, 0, 3⟩, ⟨20, 0, 3⟩, ⟨21, 0, 3⟩, ⟨22, 0, 3⟩, ⟨23, 0, 3⟩, ⟨24, 0, 3⟩, ⟨25, 0, 3⟩, ⟨26, 0, 3⟩, ⟨27, 0, 3⟩, ⟨28, 0, 3⟩, ⟨29, 0, 4⟩] 0 (by kernel_rfl) (by kernel_rfl) (fun w h => h.pick [0, 1, 2] (by kernel_rfl) (by kernel_rfl)) (by kernel_rfl) (by kernel_rfl) ?_
                refine jd_end (by kernel_rfl) ?_
                exact jx_meet true h (by kernel_rfl) [0, 1, 2] (by kernel_rfl) (by kernel_rfl)
              · replace h := ifF hc_132 h
                refine jd_f [⟨18, 0, 2⟩, ⟨19, 0, 1⟩, ⟨20, 1, 1⟩, ⟨21, 0, 1⟩, ⟨22, 0, 1⟩, ⟨25, 2, 1⟩] 6 (by kernel_rfl) (by kernel_rfl) (fun w h => h.pick [0, 1, 2] (by kernel_rfl) (by kernel_rfl)) (by kernel_rfl) (by kernel_rfl) ?_
                refine jd_split 50 (decide (i_4 > 0)) (by kernel_rfl) (fun hc_133 => ?_) (fun hc_133 => ?_)
                · replace h := ifT hc_133 h
                  obtain ⟨x_12, hx_134, h⟩ := bd h
                  refine jd_v 23 2 (by kernel_rfl) (fun w h => h.pick [0, 1, 2] (by kernel_rfl) (by kernel_rfl)) (by kernel_rfl) (by kernel_rfl) _ (fun w hm => idx_run (a := w1_fPins_a) (len := w1.fPins.length) (s := 3) (j := (w64 (i_4 - 1))) (by kernel_rfl) (ix_some hx_134).1 (ltn hx_134 rfl) (w1_fPins_h.sp hx_134)) ?_
                  refine jd_v 24 2 (by kernel_rfl) (fun w h => h.pick [0, 1, 2] (by kernel_rfl) (by kernel_rfl)) (by kernel_rfl) (by kernel_rfl) _ (fun w hm => ld_run (b := aB w1_fPins_a) (off := (aO w1_fPins_a + (w64 (i_4 - 1)).toNat * 3)) (s := 3) (agg := true) (vs := (encGWornPin x_12)) (by kernel_rfl) (by kernel_rfl) (.inl rfl) ((hm.exRow w1_fPins_h List.not_mem_nil).at hx_134)) ?_
                  obtain ⟨t_13, ht_135, h⟩ := bd h
                  refine toD 26 (by kernel_rfl) (p_call 2 116 #[(.agg #[(.int .i8 x_12.fStep), (.int .i8 x_12.fTrack), (.int .i64 x_12.fTurns)]), (.agg #[(.int .i8 x_7.fStep), (.int .i8 x_7.fTrack), (.int .i64 x_7.fTurns)])] (by kernel_rfl) (by kernel_rfl) (fun w hm => impl_comparePins.calls x_12 x_7 w _ ht_135) ?_)
                  rintro w v w' hm ⟨rfl, hm'⟩
                  refine ⟨_, hm.app hm', jkD (fun w h => h.pick [0, 1, 2] (by kernel_rfl) (by kernel_rfl)) ?_⟩
                  clear hm hm'
                  refine jd_f [⟨27, 0, 2⟩, ⟨28, 0, 4⟩, ⟨29, 0, 5⟩] 0 (by kernel_rfl) (by kernel_rfl) (fun w h => h.pick [0, 1, 2] (by kernel_rfl) (by kernel_rfl)) (by kernel_rfl) (by kernel_rfl) ?_
                  refine jd_end (by kernel_rfl) ?_
                  exact jx_meet (decide (t_13 ≥ 0)) h (by kernel_rfl) [0, 1, 2] (by kernel_rfl) (by kernel_rfl)
                · replace h := ifF hc_133 h
                  refine jd_f [⟨23, 0, 3⟩, ⟨24, 0, 3⟩, ⟨26, 0, 3⟩, ⟨27, 0, 3⟩, ⟨28, 0, 5⟩, ⟨29, 0, 5⟩] 0 (by kernel_rfl) (by kernel_rfl) (fun w h => h.pick [0, 1, 2] (by kernel_rfl) (by kernel_rfl)) (by kernel_rfl) (by kernel_rfl) ?_
                  refine jd_end (by kernel_rfl) ?_
                  exact jx_meet false h (by kernel_rfl) [0, 1, 2] (by kernel_rfl) (by kernel_rfl)
          · rintro q_8 h
            replace h : impl_ValidWear.k_9 i_4 q_8 = some y_115 := h
            rw [impl_ValidWear.k_9] at h
            refine jx_then ?_
            refine jc_cond q_8 (by kernel_rfl) (fun hc_127 => ?_) (fun hc_127 => ?_)
            · replace h := ifT hc_127 h
              refine jc_seq ?_
              refine jc_region ?_
              refine jo_f [(0, 0)] (by kernel_rfl) ?_
              refine jo_end (by kernel_rfl) ?_
              refine jx_then ?_
              refine jc_ret ?_
              refine jx_inr ?_
              refine jx_thenr ?_
              refine jx_leaver (.inl false) (Option.some.inj h).symm (fun e_128 => ?_)
              subst e_128
              refine jx_inr ?_
              refine jx_thenr ?_
              refine jx_thenr ?_
              obtain rfl := Option.some.inj hr_114
              exact jx_ret [] (.bool false) [] rfl (by kernel_rfl) (by kernel_rfl) (fun w hm => ⟨rfl, hm.pick [] (by kernel_rfl) (by kernel_rfl)⟩)
            · replace h := ifF hc_127 h
              refine jc_skip ?_
              refine jx_inn ?_
              refine jx_then ?_
              refine jc_region ?_
              refine jo_f [(0, 0), (0, 0)] (by kernel_rfl) ?_
              refine jo_end (by kernel_rfl) ?_
              exact jx_back (w64 (i_4 + 1)) () (Option.some.inj h).symm trivial [0, 1] (by kernel_rfl) (by kernel_rfl) (by kernel_rfl)
        · replace h := ifF hc_117 h
          refine jc_exit ?_
          refine jx_thenx ?_
          refine jx_leave (.inr ()) (Option.some.inj h).symm (fun e_136 => ?_)
          subst e_136
          refine jx_ine ?_
          exact jx_meet () hr_114 (by kernel_rfl) [0, 1] (by kernel_rfl) (by kernel_rfl)
      · rintro _ h
        replace h : impl_ValidWear.k_3 = some r := h
        rw [impl_ValidWear.k_3] at h
        refine jx_then ?_
        refine jc_seq ?_
        refine jc_region ?_
        refine jo_f [(0, 0)] (by kernel_rfl) ?_
        refine jo_end (by kernel_rfl) ?_
        refine jx_then ?_
        refine jc_ret ?_
        obtain rfl := Option.some.inj h
        exact jx_ret [] (.bool true) [] rfl (by kernel_rfl) (by kernel_rfl) (fun w hm => ⟨rfl, hm.pick [] (by kernel_rfl) (by kernel_rfl)⟩)

/-! ### impl.ValidLives -/
noncomputable def impl_ValidLives (v0 : GLives) : Option (Bool) := (impl_within v0.fPin 1 1000000).bind fun t_1 => (if t_1 = true then (impl_within v0.fHammer 1 1000000).bind fun t_2 => some t_2 else some false)
set_option maxRecDepth 100000 in
theorem impl_ValidLives.calls (v0 : GLives) (w : World) (r : Bool) (h : impl_ValidLives v0 = some r) :
    Calls Tryz.prog 100 #[(.agg #[(.int .i64 v0.fPin), (.int .i64 v0.fHammer)])] w fun e w' => ∃ v, e = .returned v ∧ (v = (.bool r) ∧ Mem w [] [] w') := by
  rw [impl_ValidLives] at h
  refine enter (args := [(.agg #[(.int .i64 v0.fPin), (.int .i64 v0.fHammer)])]) Tryz.func100 rfl Tryz.ntmps100 (by kernel_rfl) (L := []) (W := []) (Mem.start w) ?_
  refine jc_seq ?_
  refine jc_region ?_
  refine toO (by kernel_rfl) (p_a 0 [0] (by kernel_rfl) (fun b => by kernel_rfl) (fun b_1 => jkO ?_))
  refine jo_f [(0, 0)] (by kernel_rfl) ?_
  refine jo_end (by kernel_rfl) ?_
  refine jx_then ?_
  refine jc_seq ?_
  refine jc_region ?_
  refine jo_f [(0, 0), (0, 0)] (by kernel_rfl) ?_
  obtain ⟨t_1, ht_2, h⟩ := bd h
  refine toO (by kernel_rfl) (p_call 0 73 #[(.int .i64 v0.fPin), (.int .i64 1), (.int .i64 1000000)] (by kernel_rfl) (by kernel_rfl) (fun w hm => impl_within.calls v0.fPin 1 1000000 w _ ht_2) ?_)
  rintro w v w' hm ⟨rfl, hm'⟩
  refine ⟨_, hm.app hm', jkO ?_⟩
  clear hm hm'
  refine jo_f [(0, 0), (0, 1), (0, 1)] (by kernel_rfl) ?_
  refine jo_split 6 t_1 (by kernel_rfl) (fun hc_3 => ?_) (fun hc_3 => ?_)
  · replace h := ifT hc_3 h
    obtain ⟨t_2, ht_4, h⟩ := bd h
    refine toO (by kernel_rfl) (p_call 2 73 #[(.int .i64 v0.fHammer), (.int .i64 1), (.int .i64 1000000)] (by kernel_rfl) (by kernel_rfl) (fun w hm => impl_within.calls v0.fHammer 1 1000000 w _ ht_4) ?_)
    rintro w v w' hm ⟨rfl, hm'⟩
    refine ⟨_, hm.app hm', jkO ?_⟩
    clear hm hm'
    refine jo_f [(0, 4), (0, 0)] (by kernel_rfl) ?_
    refine jo_end (by kernel_rfl) ?_
    refine jx_then ?_
    refine jc_ret ?_
    obtain rfl := Option.some.inj h
    exact jx_ret [] (.bool t_2) [] rfl (by kernel_rfl) (by kernel_rfl) (fun w hm => ⟨rfl, hm.pick [] (by kernel_rfl) (by kernel_rfl)⟩)
  · replace h := ifF hc_3 h
    refine jo_f [(0, 3), (0, 5), (0, 0)] (by kernel_rfl) ?_
    refine jo_end (by kernel_rfl) ?_
    refine jx_then ?_
    refine jc_ret ?_
    obtain rfl := Option.some.inj h
    exact jx_ret [] (.bool false) [] rfl (by kernel_rfl) (by kernel_rfl) (fun w hm => ⟨rfl, hm.pick [] (by kernel_rfl) (by kernel_rfl)⟩)

/-! ### impl.wearCode$1 -/
noncomputable def impl_wearCode_1 (v0 : GLives) : Option (Bool) := (impl_ValidLives v0).bind fun t_1 => some (!t_1)
set_option maxRecDepth 100000 in
theorem impl_wearCode_1.calls (v0 : GLives) (w : World) (r : Bool) (h : impl_wearCode_1 v0 = some r) :
    Calls Tryz.prog 99 #[(.agg #[(.int .i64 v0.fPin), (.int .i64 v0.fHammer)])] w fun e w' => ∃ v, e = .returned v ∧ (v = (.bool r) ∧ Mem w [] [] w') := by
  rw [impl_wearCode_1] at h
  refine enter (args := [(.agg #[(.int .i64 v0.fPin), (.int .i64 v0.fHammer)])]) Tryz.func99 rfl Tryz.ntmps99 (by kernel_rfl) (L := []) (W := []) (Mem.start w) ?_
  refine jc_seq ?_
  refine jc_region ?_
  refine toO (by kernel_rfl) (p_a 0 [0] (by kernel_rfl) (fun b => by kernel_rfl) (fun b_1 => jkO ?_))
  refine jo_f [(0, 0)] (by kernel_rfl) ?_
  refine jo_end (by kernel_rfl) ?_
  refine jx_then ?_
  refine jc_seq ?_
  refine jc_region ?_
  refine jo_f [(0, 0)] (by kernel_rfl) ?_
  obtain ⟨t_1, ht_2, h⟩ := bd h
  refine toO (by kernel_rfl) (p_call 0 100 #[(.agg #[(.int .i64 v0.fPin), (.int .i64 v0.fHammer)])] (by kernel_rfl) (by kernel_rfl) (fun w hm => impl_ValidLives.calls v0 w _ ht_2) ?_)
  rintro w v w' hm ⟨rfl, hm'⟩
  refine ⟨_, hm.app hm', jkO ?_⟩
  clear hm hm'
  refine jo_f [(0, 0), (0, 0)] (by kernel_rfl) ?_
  refine jo_end (by kernel_rfl) ?_
  refine jx_then ?_
  refine jc_ret ?_
  obtain rfl := Option.some.inj h
  exact jx_ret [] (.bool (!t_1)) [] rfl (by kernel_rfl) (by kernel_rfl) (fun w hm => ⟨rfl, hm.pick [] (by kernel_rfl) (by kernel_rfl)⟩)

/-! ### slices.IndexFunc[[]impl.Lives,impl.Lives] -/
noncomputable def slices_IndexFunc_Lives_at_impl_wearCode_1.k_1 : Option (Int) := some (-1)
noncomputable def slices_IndexFunc_Lives_at_impl_wearCode_1.l_3 (s0 : List GLives) : Int → Option ((Int) ⊕ (Int ⊕ Unit))
  | i_2 => (if (decide (i_2 < (s0.length : Int))) = true then (ix s0 i_2).bind fun x_5 => (impl_wearCode_1 x_5).bind fun t_6 => (if t_6 = true then some (.inr (.inl i_2)) else some (.inl (w64 (i_2 + 1)))) else some (.inr (.inr ())))
noncomputable def slices_IndexFunc_Lives_at_impl_wearCode_1 (s0 : List GLives) : Option (Int) := (loop (slices_IndexFunc_Lives_at_impl_wearCode_1.l_3 s0) 0).bind fun t_4 => match t_4 with | .inl p => some p | .inr p => slices_IndexFunc_Lives_at_impl_wearCode_1.k_1
set_option maxRecDepth 100000 in
theorem slices_IndexFunc_Lives_at_impl_wearCode_1.calls (s0 : List GLives) (w : World) (r : Int) (s0_a : Option Addr) (s0_an : Nat) (s0_c : Nat) (s0_h : Rw w s0_a 2 encGLives s0) (s0_hn : s0.length = s0_an) (h : slices_IndexFunc_Lives_at_impl_wearCode_1 s0 = some r) :
    Calls Tryz.prog 131 #[(.slice s0_a s0_an s0_c), (.func (.func 99) #[] #[])] w fun e w' => ∃ v, e = .returned v ∧ (v = (.int .i64 r) ∧ Mem w [] [] w') := by
  subst s0_hn
  rw [slices_IndexFunc_Lives_at_impl_wearCode_1] at h
  refine enter (args := [(.slice s0_a s0.length s0_c), (.func (.func 99) #[] #[])]) Tryz.func131 rfl Tryz.ntmps131 (by kernel_rfl) (L := []) (W := []) (Mem.start w) ?_
  refine jc_seq ?_
  refine jc_region ?_
  refine jo_f [(0, 0)] (by kernel_rfl) ?_
  refine jo_end (by kernel_rfl) ?_
  refine jx_then ?_
  refine jc_seq ?_
  refine jc_seq ?_
  refine jc_region ?_
  refine jo_f [(0, 0), (0, 0), (0, 0)] (by kernel_rfl) ?_
  refine jo_end (by kernel_rfl) ?_
  refine jx_then ?_
  refine jc_meet (fun (_ : Unit) => slices_IndexFunc_Lives_at_impl_wearCode_1.k_1 = some r) (fun (_ : Unit) => [(4, [], (.int .i64 0))]) (fun (_ : Unit) => []) ?_ ?_
  · refine jc_block ?_
    obtain ⟨t_4, ht_40, hr_31⟩ := bd h
    refine jc_loop (fun (s : Int) (x : Unit) => match s, x with | i_2, _ => True) (fun (s : Int) (x : Unit) => match s, x with | i_2, _ => [(0, [], (.slice s0_a s0.length s0_c)), (1, [], (.func (.func 99) #[] #[])), (4, [], (.int .i64 0)), (7, [], (.int .i64 (s0.length : Int))), (8, [], (.int .i64 i_2))]) (fun (s : Int) (x : Unit) => match s, x with | i_2, _ => []) ht_40 () trivial (by kernel_rfl) [] (by kernel_rfl) (by kernel_rfl) ?_
    rintro i_2 _ y_32 _ h
    rw [slices_IndexFunc_Lives_at_impl_wearCode_1.l_3] at h
    refine jc_seq ?_
    refine jc_region ?_
    refine jo_f [(0, 0)] (by kernel_rfl) ?_
    refine jo_end (by kernel_rfl) ?_
    refine jx_then ?_
    refine jc_seq ?_
    refine jc_cond (decide (i_2 < (s0.length : Int))) (by kernel_rfl) (fun hc_34 => ?_) (fun hc_34 => ?_)
    · replace h := ifT hc_34 h
      refine jc_skip ?_
      refine jx_then ?_
      refine jc_seq ?_
      refine jc_block ?_
      refine jc_seq ?_
      refine jc_region ?_
      refine jo_f [(0, 0), (0, 0)] (by kernel_rfl) ?_
      refine jo_end (by kernel_rfl) ?_
      refine jx_then ?_
      refine jc_seq ?_
      refine jc_region ?_
      refine jo_f [(0, 0), (0, 0), (0, 0)] (by kernel_rfl) ?_
      obtain ⟨x_5, hx_35, h⟩ := bd h
      refine toO (by kernel_rfl) (p_idx 0 s0_a s0.length i_2 2 (by kernel_rfl) (by kernel_rfl) (ix_some hx_35).1 (ltn hx_35 rfl) (s0_h.sp hx_35) (jkO ?_))
      refine toO (by kernel_rfl) (p_ld 0 (aB s0_a) (aO s0_a + i_2.toNat * 2) true (encGLives x_5) (by kernel_rfl) (by kernel_rfl) (by kernel_rfl) (fun w hm => ((hm.exRow s0_h List.not_mem_nil).at hx_35)) (jkO ?_))
      obtain ⟨t_6, ht_36, h⟩ := bd h
      refine toO (by kernel_rfl) (p_call 0 99 #[(.agg #[(.int .i64 x_5.fPin), (.int .i64 x_5.fHammer)])] (by kernel_rfl) (by kernel_rfl) (fun w hm => impl_wearCode_1.calls x_5 w _ ht_36) ?_)
      rintro w v w' hm ⟨rfl, hm'⟩
      refine ⟨_, hm.app hm', jkO ?_⟩
      clear hm hm'
      refine jo_end (by kernel_rfl) ?_
      refine jx_then ?_
      refine jc_cond t_6 (by kernel_rfl) (fun hc_37 => ?_) (fun hc_37 => ?_)
      · replace h := ifT hc_37 h
        refine jc_seq ?_
        refine jc_region ?_
        refine jo_f [(0, 0), (0, 0)] (by kernel_rfl) ?_
        refine jo_end (by kernel_rfl) ?_
        refine jx_then ?_
        refine jc_ret ?_
        refine jx_inr ?_
        refine jx_thenr ?_
        refine jx_leaver (.inl i_2) (Option.some.inj h).symm (fun e_38 => ?_)
        subst e_38
        refine jx_inr ?_
        refine jx_thenr ?_
        refine jx_thenr ?_
        obtain rfl := Option.some.inj hr_31
        exact jx_ret [] (.int .i64 i_2) [] rfl (by kernel_rfl) (by kernel_rfl) (fun w hm => ⟨rfl, hm.pick [] (by kernel_rfl) (by kernel_rfl)⟩)
      · replace h := ifF hc_37 h
        refine jc_skip ?_
        refine jx_inn ?_
        refine jx_then ?_
        refine jc_region ?_
        refine jo_f [(0, 0), (0, 0)] (by kernel_rfl) ?_
        refine jo_end (by kernel_rfl) ?_
        exact jx_back (w64 (i_2 + 1)) () (Option.some.inj h).symm trivial [] (by kernel_rfl) (by kernel_rfl) (by kernel_rfl)
    · replace h := ifF hc_34 h
      refine jc_exit ?_
      refine jx_thenx ?_
      refine jx_leave (.inr ()) (Option.some.inj h).symm (fun e_39 => ?_)
      subst e_39
      refine jx_ine ?_
      exact jx_meet () hr_31 (by kernel_rfl) [] (by kernel_rfl) (by kernel_rfl)
  · rintro _ h
    replace h : slices_IndexFunc_Lives_at_impl_wearCode_1.k_1 = some r := h
    rw [slices_IndexFunc_Lives_at_impl_wearCode_1.k_1] at h
    refine jx_then ?_
    refine jc_seq ?_
    refine jc_region ?_
    refine jo_f [(0, 0)] (by kernel_rfl) ?_
    refine jo_end (by kernel_rfl) ?_
    refine jx_then ?_
    refine jc_ret ?_
    obtain rfl := Option.some.inj h
    exact jx_ret [] (.int .i64 (-1)) [] rfl (by kernel_rfl) (by kernel_rfl) (fun w hm => ⟨rfl, hm.pick [] (by kernel_rfl) (by kernel_rfl)⟩)

/-! ### slices.ContainsFunc[[]impl.Lives,impl.Lives] -/
noncomputable def slices_ContainsFunc_Lives_at_impl_wearCode_1 (s0 : List GLives) : Option (Bool) := (slices_IndexFunc_Lives_at_impl_wearCode_1 s0).bind fun t_1 => some (decide (t_1 ≥ 0))
set_option maxRecDepth 100000 in
theorem slices_ContainsFunc_Lives_at_impl_wearCode_1.calls (s0 : List GLives) (w : World) (r : Bool) (s0_a : Option Addr) (s0_an : Nat) (s0_c : Nat) (s0_h : Rw w s0_a 2 encGLives s0) (s0_hn : s0.length = s0_an) (h : slices_ContainsFunc_Lives_at_impl_wearCode_1 s0 = some r) :
    Calls Tryz.prog 98 #[(.slice s0_a s0_an s0_c), (.func (.func 99) #[] #[])] w fun e w' => ∃ v, e = .returned v ∧ (v = (.bool r) ∧ Mem w [] [] w') := by
  subst s0_hn
  rw [slices_ContainsFunc_Lives_at_impl_wearCode_1] at h
  refine enter (args := [(.slice s0_a s0.length s0_c), (.func (.func 99) #[] #[])]) Tryz.func98 rfl Tryz.ntmps98 (by kernel_rfl) (L := []) (W := []) (Mem.start w) ?_
  refine jc_seq ?_
  refine jc_region ?_
  refine jo_f [(0, 0)] (by kernel_rfl) ?_
  refine jo_end (by kernel_rfl) ?_
  refine jx_then ?_
  refine jc_seq ?_
  refine jc_region ?_
  refine jo_f [(0, 0), (0, 0)] (by kernel_rfl) ?_
  obtain ⟨t_1, ht_1, h⟩ := bd h
  refine toO (by kernel_rfl) (p_call 0 131 #[(.slice s0_a s0.length s0_c), (.func (.func 99) #[] #[])] (by kernel_rfl) (by kernel_rfl) (fun w hm => slices_IndexFunc_Lives_at_impl_wearCode_1.calls s0 w _ s0_a s0.length s0_c (hm.exRow s0_h List.not_mem_nil) rfl ht_1) ?_)
  rintro w v w' hm ⟨rfl, hm'⟩
  refine ⟨_, hm.app hm', jkO ?_⟩
  clear hm hm'
  refine jo_f [(0, 0), (0, 0)] (by kernel_rfl) ?_
  refine jo_end (by kernel_rfl) ?_
  refine jx_then ?_
  refine jc_ret ?_
  obtain rfl := Option.some.inj h
  exact jx_ret [] (.bool (decide (t_1 ≥ 0))) [] rfl (by kernel_rfl) (by kernel_rfl) (fun w hm => ⟨rfl, hm.pick [] (by kernel_rfl) (by kernel_rfl)⟩)

/-! ### impl.unless -/
noncomputable def impl_unless (is0 : Bool) (code1 : Int) : Option (Int) := (if is0 = true then some 0 else some code1)
set_option maxRecDepth 100000 in
theorem impl_unless.calls (is0 : Bool) (code1 : Int) (w : World) (r : Int) (h : impl_unless is0 code1 = some r) :
    Calls Tryz.prog 64 #[(.bool is0), (.int .i64 code1)] w fun e w' => ∃ v, e = .returned v ∧ (v = (.int .i64 r) ∧ Mem w [] [] w') := by
  rw [impl_unless] at h
  refine enter (args := [(.bool is0), (.int .i64 code1)]) Tryz.func64 rfl Tryz.ntmps64 (by kernel_rfl) (L := []) (W := []) (Mem.start w) ?_
  refine jc_seq ?_
  refine jc_region ?_
  refine jo_f [(0, 0)] (by kernel_rfl) ?_
  refine jo_end (by kernel_rfl) ?_
  refine jx_then ?_
  refine jc_seq ?_
  refine jc_seq ?_
  refine jc_region ?_
  refine jo_f [(0, 0)] (by kernel_rfl) ?_
  refine jo_end (by kernel_rfl) ?_
  refine jx_then ?_
  refine jc_cond is0 (by kernel_rfl) (fun hc_2 => ?_) (fun hc_2 => ?_)
  · replace h := ifT hc_2 h
    refine jc_seq ?_
    refine jc_region ?_
    refine jo_f [(0, 0)] (by kernel_rfl) ?_
    refine jo_end (by kernel_rfl) ?_
    refine jx_then ?_
    refine jc_ret ?_
    refine jx_thenr ?_
    obtain rfl := Option.some.inj h
    exact jx_ret [] (.int .i64 0) [] rfl (by kernel_rfl) (by kernel_rfl) (fun w hm => ⟨rfl, hm.pick [] (by kernel_rfl) (by kernel_rfl)⟩)
  · replace h := ifF hc_2 h
    refine jc_skip ?_
    refine jx_then ?_
    refine jc_seq ?_
    refine jc_region ?_
    refine jo_f [(0, 0), (0, 0)] (by kernel_rfl) ?_
    refine jo_end (by kernel_rfl) ?_
    refine jx_then ?_
    refine jc_ret ?_
    obtain rfl := Option.some.inj h
    exact jx_ret [] (.int .i64 code1) [] rfl (by kernel_rfl) (by kernel_rfl) (fun w hm => ⟨rfl, hm.pick [] (by kernel_rfl) (by kernel_rfl)⟩)

/-! ### impl.wearCode -/
noncomputable def impl_wearCode (f0 : GFrame) (w1 : GWear) (lives2 : List GLives) : Option (Int) := (impl_ValidWear f0 w1).bind fun t_1 => (if t_1 = true then (slices_ContainsFunc_Lives_at_impl_wearCode_1 lives2).bind fun t_2 => (impl_unless (!t_2) 1).bind fun t_3 => some t_3 else (impl_unless false 1).bind fun t_4 => some t_4)
set_option maxRecDepth 100000 in
theorem impl_wearCode.calls (f0 : GFrame) (w1 : GWear) (lives2 : List GLives) (w : World) (r : Int) (f0_fHammers_a : Option Addr) (f0_fHammers_an : Nat) (f0_fHammers_c : Nat) (f0_fHammers_h : Rw w f0_fHammers_a 2 encGHammer f0.fHammers) (f0_fHammers_hn : f0.fHammers.length = f0_fHammers_an) (w1_fPins_a : Option Addr) (w1_fPins_an : Nat) (w1_fPins_c : Nat) (w1_fPins_h : Rw w w1_fPins_a 3 encGWornPin w1.fPins) (w1_fPins_hn : w1.fPins.length = w1_fPins_an) (w1_fStrokes_a : Option Addr) (w1_fStrokes_an : Nat) (w1_fStrokes_c : Nat) (w1_fStrokes_h : Rw w w1_fStrokes_a 1 encI64 w1.fStrokes) (w1_fStrokes_hn : w1.fStrokes.length = w1_fStrokes_an) (lives2_a : Option Addr) (lives2_an : Nat) (lives2_c : Nat) (lives2_h : Rw w lives2_a 2 encGLives lives2) (lives2_hn : lives2.length = lives2_an) (h : impl_wearCode f0 w1 lives2 = some r) :
    Calls Tryz.prog 63 #[(.agg #[(.int .i16 f0.fSteps), (.slice f0_fHammers_a f0_fHammers_an f0_fHammers_c)]), (.agg #[(.slice w1_fPins_a w1_fPins_an w1_fPins_c), (.slice w1_fStrokes_a w1_fStrokes_an w1_fStrokes_c)]), (.slice lives2_a lives2_an lives2_c)] w fun e w' => ∃ v, e = .returned v ∧ (v = (.int .i64 r) ∧ Mem w [] [] w') := by
  subst f0_fHammers_hn w1_fPins_hn w1_fStrokes_hn lives2_hn
  rw [impl_wearCode] at h
  refine enter (args := [(.agg #[(.int .i16 f0.fSteps), (.slice f0_fHammers_a f0.fHammers.length f0_fHammers_c)]), (.agg #[(.slice w1_fPins_a w1.fPins.length w1_fPins_c), (.slice w1_fStrokes_a w1.fStrokes.length w1_fStrokes_c)]), (.slice lives2_a lives2.length lives2_c)]) Tryz.func63 rfl Tryz.ntmps63 (by kernel_rfl) (L := []) (W := []) (Mem.start w) ?_
  refine jc_seq ?_
  refine jc_region ?_
  refine toO (by kernel_rfl) (p_a 0 [0] (by kernel_rfl) (fun b => by kernel_rfl) (fun b_1 => jkO ?_))
  refine toO (by kernel_rfl) (p_a 0 [0] (by kernel_rfl) (fun b => by kernel_rfl) (fun b_2 => jkO ?_))
  refine jo_f [(0, 0)] (by kernel_rfl) ?_
  refine jo_end (by kernel_rfl) ?_
  refine jx_then ?_
  refine jc_seq ?_
  refine jc_region ?_
  refine jo_f [(0, 0), (1, 0)] (by kernel_rfl) ?_
  obtain ⟨t_1, ht_3, h⟩ := bd h
  refine toO (by kernel_rfl) (p_call 0 97 #[(.agg #[(.int .i16 f0.fSteps), (.slice f0_fHammers_a f0.fHammers.length f0_fHammers_c)]), (.agg #[(.slice w1_fPins_a w1.fPins.length w1_fPins_c), (.slice w1_fStrokes_a w1.fStrokes.length w1_fStrokes_c)])] (by kernel_rfl) (by kernel_rfl) (fun w hm => impl_ValidWear.calls f0 w1 w _ f0_fHammers_a f0.fHammers.length f0_fHammers_c (hm.exRow f0_fHammers_h List.not_mem_nil) rfl w1_fPins_a w1.fPins.length w1_fPins_c (hm.exRow w1_fPins_h List.not_mem_nil) rfl w1_fStrokes_a w1.fStrokes.length w1_fStrokes_c (hm.exRow w1_fStrokes_h List.not_mem_nil) rfl ht_3) ?_)
  rintro w v w' hm ⟨rfl, hm'⟩
  refine ⟨_, hm.app hm', jkO ?_⟩
  clear hm hm'
  refine jo_f [(0, 0), (0, 1)] (by kernel_rfl) ?_
  refine jo_split 10 t_1 (by kernel_rfl) (fun hc_4 => ?_) (fun hc_4 => ?_)
  · replace h := ifT hc_4 h
    obtain ⟨t_2, ht_5, h⟩ := bd h
    refine toO (by kernel_rfl) (p_call 2 98 #[(.slice lives2_a lives2.length lives2_c), (.func (.func 99) #[] #[])] (by kernel_rfl) (by kernel_rfl) (fun w hm => slices_ContainsFunc_Lives_at_impl_wearCode_1.calls lives2 w _ lives2_a lives2.length lives2_c (hm.exRow lives2_h List.not_mem_nil) rfl ht_5) ?_)
    rintro w v w' hm ⟨rfl, hm'⟩
    refine ⟨_, hm.app hm', jkO ?_⟩
    clear hm hm'
    refine jo_f [(0, 2), (0, 4)] (by kernel_rfl) ?_
    obtain ⟨t_3, ht_6, h⟩ := bd h
    refine toO (by kernel_rfl) (p_call 0 64 #[(.bool (!t_2)), (.int .i64 1)] (by kernel_rfl) (by kernel_rfl) (fun w hm => impl_unless.calls (!t_2) 1 w _ ht_6) ?_)
    rintro w v w' hm ⟨rfl, hm'⟩
    refine ⟨_, hm.app hm', jkO ?_⟩
    clear hm hm'
    refine jo_f [(0, 0)] (by kernel_rfl) ?_
    refine jo_end (by kernel_rfl) ?_
    refine jx_then ?_
    refine jc_ret ?_
    obtain rfl := Option.some.inj h
    exact jx_ret [] (.int .i64 t_3) [] rfl (by kernel_rfl) (by kernel_rfl) (fun w hm => ⟨rfl, hm.pick [] (by kernel_rfl) (by kernel_rfl)⟩)
  · replace h := ifF hc_4 h
    refine jo_f [(0, 3), (0, 3), (0, 5)] (by kernel_rfl) ?_
    obtain ⟨t_4, ht_7, h⟩ := bd h
    refine toO (by kernel_rfl) (p_call 0 64 #[(.bool false), (.int .i64 1)] (by kernel_rfl) (by kernel_rfl) (fun w hm => impl_unless.calls false 1 w _ ht_7) ?_)
    rintro w v w' hm ⟨rfl, hm'⟩
    refine ⟨_, hm.app hm', jkO ?_⟩
    clear hm hm'
    refine jo_f [(0, 0)] (by kernel_rfl) ?_
    refine jo_end (by kernel_rfl) ?_
    refine jx_then ?_
    refine jc_ret ?_
    obtain rfl := Option.some.inj h
    exact jx_ret [] (.int .i64 t_4) [] rfl (by kernel_rfl) (by kernel_rfl) (fun w hm => ⟨rfl, hm.pick [] (by kernel_rfl) (by kernel_rfl)⟩)

/-! ### impl.firstOf -/
noncomputable def impl_firstOf.k_1 : Option (Int) := some 0
noncomputable def impl_firstOf.l_3 (codes0 : List Int) : Int → Option ((Int) ⊕ (Int ⊕ Unit))
  | i_2 => (if (decide (i_2 < (codes0.length : Int))) = true then (ix codes0 i_2).bind fun x_5 => (if (x_5 != 0) = true then some (.inr (.inl x_5)) else some (.inl (w64 (i_2 + 1)))) else some (.inr (.inr ())))
noncomputable def impl_firstOf (codes0 : List Int) : Option (Int) := (loop (impl_firstOf.l_3 codes0) 0).bind fun t_4 => match t_4 with | .inl p => some p | .inr p => impl_firstOf.k_1
set_option maxRecDepth 100000 in
theorem impl_firstOf.calls (codes0 : List Int) (w : World) (r : Int) (codes0_a : Option Addr) (codes0_an : Nat) (codes0_c : Nat) (codes0_h : Rw w codes0_a 1 encI64 codes0) (codes0_hn : codes0.length = codes0_an) (h : impl_firstOf codes0 = some r) :
    Calls Tryz.prog 62 #[(.slice codes0_a codes0_an codes0_c)] w fun e w' => ∃ v, e = .returned v ∧ (v = (.int .i64 r) ∧ Mem w [] [] w') := by
  subst codes0_hn
  rw [impl_firstOf] at h
  refine enter (args := [(.slice codes0_a codes0.length codes0_c)]) Tryz.func62 rfl Tryz.ntmps62 (by kernel_rfl) (L := []) (W := []) (Mem.start w) ?_
  refine jc_seq ?_
  refine jc_region ?_
  refine jo_f [(0, 0)] (by kernel_rfl) ?_
  refine jo_end (by kernel_rfl) ?_
  refine jx_then ?_
  refine jc_seq ?_
  refine jc_seq ?_
  refine jc_region ?_
  refine jo_f [(0, 0), (0, 0), (0, 0)] (by kernel_rfl) ?_
  refine jo_end (by kernel_rfl) ?_
  refine jx_then ?_
  refine jc_meet (fun (_ : Unit) => impl_firstOf.k_1 = some r) (fun (_ : Unit) => [(2, [], (.int .i64 0))]) (fun (_ : Unit) => []) ?_ ?_
  · refine jc_block ?_
    obtain ⟨t_4, ht_34, hr_26⟩ := bd h
    refine jc_loop (fun (s : Int) (x : Unit) => match s, x with | i_2, _ => True) (fun (s : Int) (x : Unit) => match s, x with | i_2, _ => [(2, [], (.int .i64 0)), (5, [], (.slice codes0_a codes0.length codes0_c)), (6, [], (.int .i64 (codes0.length : Int))), (7, [], (.int .i64 i_2))]) (fun (s : Int) (x : Unit) => match s, x with | i_2, _ => []) ht_34 () trivial (by kernel_rfl) [] (by kernel_rfl) (by kernel_rfl) ?_
    rintro i_2 _ y_27 _ h
    rw [impl_firstOf.l_3] at h
    refine jc_seq ?_
    refine jc_region ?_
    refine jo_f [(0, 0)] (by kernel_rfl) ?_
    refine jo_end (by kernel_rfl) ?_
    refine jx_then ?_
    refine jc_seq ?_
    refine jc_cond (decide (i_2 < (codes0.length : Int))) (by kernel_rfl) (fun hc_29 => ?_) (fun hc_29 => ?_)
    · replace h := ifT hc_29 h
      refine jc_skip ?_
      refine jx_then ?_
      refine jc_seq ?_
      refine jc_block ?_
      refine jc_seq ?_
      refine jc_region ?_
      obtain ⟨x_5, hx_30, h⟩ := bd h
      refine toO (by kernel_rfl) (p_idx 0 codes0_a codes0.length i_2 1 (by kernel_rfl) (by kernel_rfl) (ix_some hx_30).1 (ltn hx_30 rfl) (codes0_h.sp hx_30) (jkO ?_))
      refine toO (by kernel_rfl) (p_ld 0 (aB codes0_a) (aO codes0_a + i_2.toNat * 1) false (encI64 x_5) (by kernel_rfl) (by kernel_rfl) (by kernel_rfl) (fun w hm => ((hm.exRow codes0_h List.not_mem_nil).at hx_30)) (jkO ?_))
      refine jo_f [(0, 0)] (by kernel_rfl) ?_
      refine jo_end (by kernel_rfl) ?_
      refine jx_then ?_
      refine jc_seq ?_
      refine jc_region ?_
      refine jo_f [(0, 0), (0, 0)] (by kernel_rfl) ?_
      refine jo_end (by kernel_rfl) ?_
      refine jx_then ?_
      refine jc_cond (x_5 != 0) (by kernel_rfl) (fun hc_31 => ?_) (fun hc_31 => ?_)
      · replace h := ifT hc_31 h
        refine jc_seq ?_
        refine jc_region ?_
        refine jo_f [(0, 0), (0, 0)] (by kernel_rfl) ?_
        refine jo_end (by kernel_rfl) ?_
        refine jx_then ?_
        refine jc_ret ?_
        refine jx_inr ?_
        refine jx_thenr ?_
        refine jx_leaver (.inl x_5) (Option.some.inj h).symm (fun e_32 => ?_)
        subst e_32
        refine jx_inr ?_
        refine jx_thenr ?_
        refine jx_thenr ?_
        obtain rfl := Option.some.inj hr_26
        exact jx_ret [] (.int .i64 x_5) [] rfl (by kernel_rfl) (by kernel_rfl) (fun w hm => ⟨rfl, hm.pick [] (by kernel_rfl) (by kernel_rfl)⟩)
      · replace h := ifF hc_31 h
        refine jc_skip ?_
        refine jx_inn ?_
        refine jx_then ?_
        refine jc_region ?_
        refine jo_f [(0, 0), (0, 0)] (by kernel_rfl) ?_
        refine jo_end (by kernel_rfl) ?_
        exact jx_back (w64 (i_2 + 1)) () (Option.some.inj h).symm trivial [] (by kernel_rfl) (by kernel_rfl) (by kernel_rfl)
    · replace h := ifF hc_29 h
      refine jc_exit ?_
      refine jx_thenx ?_
      refine jx_leave (.inr ()) (Option.some.inj h).symm (fun e_33 => ?_)
      subst e_33
      refine jx_ine ?_
      exact jx_meet () hr_26 (by kernel_rfl) [] (by kernel_rfl) (by kernel_rfl)
  · rintro _ h
    replace h : impl_firstOf.k_1 = some r := h
    rw [impl_firstOf.k_1] at h
    refine jx_then ?_
    refine jc_seq ?_
    refine jc_region ?_
    refine jo_f [(0, 0)] (by kernel_rfl) ?_
    refine jo_end (by kernel_rfl) ?_
    refine jx_then ?_
    refine jc_ret ?_
    obtain rfl := Option.some.inj h
    exact jx_ret [] (.int .i64 0) [] rfl (by kernel_rfl) (by kernel_rfl) (fun w hm => ⟨rfl, hm.pick [] (by kernel_rfl) (by kernel_rfl)⟩)

/-! ### impl.actsCode -/
noncomputable def impl_actsCode (f0 : GFrame) (w1 : GWear) (v2 : GLives) (list3 : List GAct) : Option (Int) := (impl_wearCode f0 w1 [v2]).bind fun t_1 => (impl_unless (decide ((list3.length : Int) ≤ 60)) 3).bind fun t_2 => (impl_firstOf [t_1, t_2]).bind fun t_3 => some t_3
set_option maxRecDepth 100000 in
theorem impl_actsCode.calls (f0 : GFrame) (w1 : GWear) (v2 : GLives) (list3 : List GAct) (w : World) (r : Int) (f0_fHammers_a : Option Addr) (f0_fHammers_an : Nat) (f0_fHammers_c : Nat) (f0_fHammers_h : Rw w f0_fHammers_a 2 encGHammer f0.fHammers) (f0_fHammers_hn : f0.fHammers.length = f0_fHammers_an) (w1_fPins_a : Option Addr) (w1_fPins_an : Nat) (w1_fPins_c : Nat) (w1_fPins_h : Rw w w1_fPins_a 3 encGWornPin w1.fPins) (w1_fPins_hn : w1.fPins.length = w1_fPins_an) (w1_fStrokes_a : Option Addr) (w1_fStrokes_an : Nat) (w1_fStrokes_c : Nat) (w1_fStrokes_h : Rw w w1_fStrokes_a 1 encI64 w1.fStrokes) (w1_fStrokes_hn : w1.fStrokes.length = w1_fStrokes_an) (list3_a : Option Addr) (list3_an : Nat) (list3_c : Nat) (list3_h : Rw w list3_a 5 encGAct list3) (list3_hn : list3.length = list3_an) (h : impl_actsCode f0 w1 v2 list3 = some r) :
    Calls Tryz.prog 47 #[(.agg #[(.int .i16 f0.fSteps), (.slice f0_fHammers_a f0_fHammers_an f0_fHammers_c)]), (.agg #[(.slice w1_fPins_a w1_fPins_an w1_fPins_c), (.slice w1_fStrokes_a w1_fStrokes_an w1_fStrokes_c)]), (.agg #[(.int .i64 v2.fPin), (.int .i64 v2.fHammer)]), (.slice list3_a list3_an list3_c)] w fun e w' => ∃ v, e = .returned v ∧ (v = (.int .i64 r) ∧ Mem w [] [] w') := by
  subst f0_fHammers_hn w1_fPins_hn w1_fStrokes_hn list3_hn
  rw [impl_actsCode] at h
  refine enter (args := [(.agg #[(.int .i16 f0.fSteps), (.slice f0_fHammers_a f0.fHammers.length f0_fHammers_c)]), (.agg #[(.slice w1_fPins_a w1.fPins.length w1_fPins_c), (.slice w1_fStrokes_a w1.fStrokes.length w1_fStrokes_c)]), (.agg #[(.int .i64 v2.fPin), (.int .i64 v2.fHammer)]), (.slice list3_a list3.length list3_c)]) Tryz.func47 rfl Tryz.ntmps47 (by kernel_rfl) (L := []) (W := []) (Mem.start w) ?_
  refine jc_seq ?_
  refine jc_region ?_
  refine toO (by kernel_rfl) (p_a 0 [0] (by kernel_rfl) (fun b => by kernel_rfl) (fun b_1 => jkO ?_))
  refine toO (by kernel_rfl) (p_a 0 [0] (by kernel_rfl) (fun b => by kernel_rfl) (fun b_2 => jkO ?_))
  refine toO (by kernel_rfl) (p_a 0 [0] (by kernel_rfl) (fun b => by kernel_rfl) (fun b_3 => jkO ?_))
  refine jo_f [(0, 0)] (by kernel_rfl) ?_
  refine jo_end (by kernel_rfl) ?_
  refine jx_then ?_
  refine jc_seq ?_
  refine jc_region ?_
  refine jo_f [(0, 0), (1, 0), (2, 0)] (by kernel_rfl) ?_
  refine toO (by kernel_rfl) (p_a 0 [0] (by kernel_rfl) (fun b => by kernel_rfl) (fun b_4 => jkO ?_))
  obtain ⟨t_1, ht_5, h⟩ := bd h
  refine toO (by kernel_rfl) (p_call 0 63 #[(.agg #[(.int .i16 f0.fSteps), (.slice f0_fHammers_a f0.fHammers.length f0_fHammers_c)]), (.agg #[(.slice w1_fPins_a w1.fPins.length w1_fPins_c), (.slice w1_fStrokes_a w1.fStrokes.length w1_fStrokes_c)]), (.slice (some ⟨b_4, 0, none⟩) 1 1)] (by kernel_rfl) (by kernel_rfl) (fun w hm => impl_wearCode.calls f0 w1 [v2] w _ f0_fHammers_a f0.fHammers.length f0_fHammers_c (hm.exRow f0_fHammers_h List.not_mem_nil) rfl w1_fPins_a w1.fPins.length w1_fPins_c (hm.exRow w1_fPins_h List.not_mem_nil) rfl w1_fStrokes_a w1.fStrokes.length w1_fStrokes_c (hm.exRow w1_fStrokes_h List.not_mem_nil) rfl (some ⟨b_4, 0, none⟩) 1 1 (hm.ownRow (hh := 3) (o := (some b_4)) (T := 46) (enc := encGLives) (xs := [v2]) (sp := []) (by kernel_rfl) (fun e => nomatch e) encGLives_len) rfl ht_5) ?_)
  rintro w v w' hm ⟨rfl, hm'⟩
  refine ⟨_, hm.app hm', jkO ?_⟩
  clear hm hm'
  refine jo_f [(0, 0), (0, 0), (0, 0)] (by kernel_rfl) ?_
  obtain ⟨t_2, ht_6, h⟩ := bd h
  refine toO (by kernel_rfl) (p_call 0 64 #[(.bool (decide ((list3.length : Int) ≤ 60))), (.int .i64 3)] (by kernel_rfl) (by kernel_rfl) (fun w hm => impl_unless.calls (decide ((list3.length : Int) ≤ 60)) 3 w _ ht_6) ?_)
  rintro w v w' hm ⟨rfl, hm'⟩
  refine ⟨_, hm.app hm', jkO ?_⟩
  clear hm hm'
  refine toO (by kernel_rfl) (p_a 0 [0] (by kernel_rfl) (fun b => by kernel_rfl) (fun b_7 => jkO ?_))
  obtain ⟨t_3, ht_8, h⟩ := bd h
  refine toO (by kernel_rfl) (p_call 0 62 #[(.slice (some ⟨b_7, 0, none⟩) 2 2)] (by kernel_rfl) (by kernel_rfl) (fun w hm => impl_firstOf.calls [t_1, t_2] w _ (some ⟨b_7, 0, none⟩) 2 2 (hm.ownRow (hh := 4) (o := (some b_7)) (T := 2) (enc := encI64) (xs := [t_1, t_2]) (sp := []) (by kernel_rfl) (fun e => nomatch e) encI64_len) rfl ht_8) ?_)
  rintro w v w' hm ⟨rfl, hm'⟩
  refine ⟨_, hm.app hm', jkO ?_⟩
  clear hm hm'
  refine jo_f [(0, 0)] (by kernel_rfl) ?_
  refine jo_end (by kernel_rfl) ?_
  refine jx_then ?_
  refine jc_ret ?_
  obtain rfl := Option.some.inj h
  exact jx_ret [] (.int .i64 t_3) [] rfl (by kernel_rfl) (by kernel_rfl) (fun w hm => ⟨rfl, hm.pick [] (by kernel_rfl) (by kernel_rfl)⟩)

/-! ### slices.Clone[[]impl.WornPin,impl.WornPin] -/
noncomputable def slices_Clone_WornPin (s0 : List GWornPin) : Option ((List GWornPin)) := (if ([] : List GWornPin).length + s0.length ≤ 4294967296 then some (([] : List GWornPin) ++ s0) else none)
set_option maxRecDepth 100000 in
theorem slices_Clone_WornPin.calls (s0 : List GWornPin) (w : World) (r : (List GWornPin)) (s0_a : Option Addr) (s0_an : Nat) (s0_c : Nat) (s0_h : Rw w s0_a 3 encGWornPin s0) (s0_hn : s0.length = s0_an) (h : slices_Clone_WornPin s0 = some r) :
    Calls Tryz.prog 117 #[(.slice s0_a s0_an s0_c)] w fun e w' => ∃ v, e = .returned v ∧ (∃ (o0 : Option Nat) (c0 : Nat) (s0 : List Value) (n0 : Nat), r.length = n0 ∧ (o0 ≠ none → n0 ≤ c0 ∧ s0.length = (c0 - n0) * 3) ∧ (o0 = none → r = [] ∧ c0 = 0) ∧ v = .slice (o0.map fun b => ⟨b, 0, none⟩) n0 c0 ∧ Mem w [] [⟨o0, 75, row encGWornPin r s0⟩] w') := by
  subst s0_hn
  rw [slices_Clone_WornPin] at h
  refine enter (args := [(.slice s0_a s0.length s0_c)]) Tryz.func117 rfl Tryz.ntmps117 (by kernel_rfl) (L := []) (W := []) (Mem.start w) ?_
  refine jc_seq ?_
  refine jc_region ?_
  refine jo_f [(0, 0)] (by kernel_rfl) ?_
  refine jo_end (by kernel_rfl) ?_
  refine jx_then ?_
  refine jc_seq ?_
  refine jc_seq ?_
  refine jc_region ?_
  refine jo_f [(0, 0)] (by kernel_rfl) ?_
  by_cases hn_4 : s0_a = none
  · have hx0 : s0 = [] := (nil_of s0_h hn_4)
    replace h : some [] = some r := by simpa [hx0] using h
    refine toO (by kernel_rfl) (p_nil 0 s0_a true true (by kernel_rfl) (by kernel_rfl) (by rw [hn_4]; rfl) (jkO ?_))
    refine jo_end (by kernel_rfl) ?_
    refine jx_then ?_
    refine jc_cond true (by kernel_rfl) (fun hc_5 => ?_) (fun hc_5 => nomatch hc_5)
    refine jc_seq ?_
    refine jc_region ?_
    refine jo_f [(0, 0)] (by kernel_rfl) ?_
    refine jo_end (by kernel_rfl) ?_
    refine jx_then ?_
    refine jc_ret ?_
    refine jx_thenr ?_
    obtain rfl := Option.some.inj h
    refine jx_ghost 75 encGWornPin ?_
    exact jx_ret [] (.slice none 0 0) [] rfl (by kernel_rfl) (by kernel_rfl) (fun w hm => ⟨none, 0, [], 0, rfl, (fun e => absurd rfl e), (fun _ => ⟨rfl, rfl⟩), rfl, hm.pick [0] (by kernel_rfl) (by kernel_rfl)⟩)
  · refine toO (by kernel_rfl) (p_nil 0 s0_a true false (by kernel_rfl) (by kernel_rfl) (by rw [Option.isNone_eq_false_iff.2 (Option.ne_none_iff_isSome.1 hn_4)]; rfl) (jkO ?_))
    refine jo_end (by kernel_rfl) ?_
    refine jx_then ?_
    refine jc_cond false (by kernel_rfl) (fun hc_6 => nomatch hc_6) (fun hc_6 => ?_)
    refine jc_skip ?_
    refine jx_then ?_
    refine jc_seq ?_
    refine jc_region ?_
    refine toO (by kernel_rfl) (p_a 0 [0] (by kernel_rfl) (fun b => by kernel_rfl) (fun b_7 => jkO ?_))
    refine jo_f [(0, 0)] (by kernel_rfl) ?_
    obtain ⟨hg_8, h⟩ := gd h
    refine toO (by kernel_rfl) (p_apn 0 0 (some b_7) 75 0 s0.length 0 3 16 s0_a encGWornPin ([] : List GWornPin) s0 [] (.agg #[(.int .i8 0), (.int .i8 0), (.int .i64 0)]) rfl rfl (by kernel_rfl) (by kernel_rfl) (by kernel_rfl) encGWornPin_len encGWornPin_cell (fun _ => ⟨Nat.le_refl _, by simp⟩) (fun e => nomatch e) (fun w hm => (hm.exRow s0_h List.not_mem_nil)) hg_8 (by kernel_rfl) (by kernel_rfl) (fun o_9 cap_10 sp_11 hs_12 ho_13 => jkO ?_))
    refine jo_f [(0, 0)] (by kernel_rfl) ?_
    refine jo_end (by kernel_rfl) ?_
    refine jx_then ?_
    refine jc_ret ?_
    obtain rfl := Option.some.inj h
    exact jx_ret [] (.slice (o_9.map fun b => ⟨b, 0, none⟩) ((([] : List GWornPin) ++ s0).length) cap_10) [] rfl (by kernel_rfl) (by kernel_rfl) (fun w hm => ⟨o_9, cap_10, sp_11, ((([] : List GWornPin) ++ s0).length), rfl, hs_12, ho_13, rfl, hm.pick [0] (by kernel_rfl) (by kernel_rfl)⟩)

/-! ### slices.Clone[[]int64,int64] -/
noncomputable def slices_Clone_int64 (s0 : List Int) : Option ((List Int)) := (if ([] : List Int).length + s0.length ≤ 4294967296 then some (([] : List Int) ++ s0) else none)
set_option maxRecDepth 100000 in
theorem slices_Clone_int64.calls (s0 : List Int) (w : World) (r : (List Int)) (s0_a : Option Addr) (s0_an : Nat) (s0_c : Nat) (s0_h : Rw w s0_a 1 encI64 s0) (s0_hn : s0.length = s0_an) (h : slices_Clone_int64 s0 = some r) :
    Calls Tryz.prog 118 #[(.slice s0_a s0_an s0_c)] w fun e w' => ∃ v, e = .returned v ∧ (∃ (o0 : Option Nat) (c0 : Nat) (s0 : List Value) (n0 : Nat), r.length = n0 ∧ (o0 ≠ none → n0 ≤ c0 ∧ s0.length = (c0 - n0) * 1) ∧ (o0 = none → r = [] ∧ c0 = 0) ∧ v = .slice (o0.map fun b => ⟨b, 0, none⟩) n0 c0 ∧ Mem w [] [⟨o0, 2, row encI64 r s0⟩] w') := by
  subst s0_hn
  rw [slices_Clone_int64] at h
  refine enter (args := [(.slice s0_a s0.length s0_c)]) Tryz.func118 rfl Tryz.ntmps118 (by kernel_rfl) (L := []) (W := []) (Mem.start w) ?_
  refine jc_seq ?_
  refine jc_region ?_
  refine jo_f [(0, 0)] (by kernel_rfl) ?_
  refine jo_end (by kernel_rfl) ?_
  refine jx_then ?_
  refine jc_seq ?_
  refine jc_seq ?_
  refine jc_region ?_
  refine jo_f [(0, 0)] (by kernel_rfl) ?_
  by_cases hn_4 : s0_a = none
  · have hx0 : s0 = [] := (nil_of s0_h hn_4)
    replace h : some [] = some r := by simpa [hx0] using h
    refine toO (by kernel_rfl) (p_nil 0 s0_a true true (by kernel_rfl) (by kernel_rfl) (by rw [hn_4]; rfl) (jkO ?_))
    refine jo_end (by kernel_rfl) ?_
    refine jx_then ?_
    refine jc_cond true (by kernel_rfl) (fun hc_5 => ?_) (fun hc_5 => nomatch hc_5)
    refine jc_seq ?_
    refine jc_region ?_
    refine jo_f [(0, 0)] (by kernel_rfl) ?_
    refine jo_end (by kernel_rfl) ?_
    refine jx_then ?_
    refine jc_ret ?_
    refine jx_thenr ?_
    obtain rfl := Option.some.inj h
    refine jx_ghost 2 encI64 ?_
    exact jx_ret [] (.slice none 0 0) [] rfl (by kernel_rfl) (by kernel_rfl) (fun w hm => ⟨none, 0, [], 0, rfl, (fun e => absurd rfl e), (fun _ => ⟨rfl, rfl⟩), rfl, hm.pick [0] (by kernel_rfl) (by kernel_rfl)⟩)
  · refine toO (by kernel_rfl) (p_nil 0 s0_a true false (by kernel_rfl) (by kernel_rfl) (by rw [Option.isNone_eq_false_iff.2 (Option.ne_none_iff_isSome.1 hn_4)]; rfl) (jkO ?_))
    refine jo_end (by kernel_rfl) ?_
    refine jx_then ?_
    refine jc_cond false (by kernel_rfl) (fun hc_6 => nomatch hc_6) (fun hc_6 => ?_)
    refine jc_skip ?_
    refine jx_then ?_
    refine jc_seq ?_
    refine jc_region ?_
    refine toO (by kernel_rfl) (p_a 0 [0] (by kernel_rfl) (fun b => by kernel_rfl) (fun b_7 => jkO ?_))
    refine jo_f [(0, 0)] (by kernel_rfl) ?_
    obtain ⟨hg_8, h⟩ := gd h
    refine toO (by kernel_rfl) (p_apn 0 0 (some b_7) 2 0 s0.length 0 1 8 s0_a encI64 ([] : List Int) s0 [] (.int .i64 0) rfl rfl (by kernel_rfl) (by kernel_rfl) (by kernel_rfl) encI64_len encI64_cell (fun _ => ⟨Nat.le_refl _, by simp⟩) (fun e => nomatch e) (fun w hm => (hm.exRow s0_h List.not_mem_nil)) hg_8 (by kernel_rfl) (by kernel_rfl) (fun o_9 cap_10 sp_11 hs_12 ho_13 => jkO ?_))
    refine jo_f [(0, 0)] (by kernel_rfl) ?_
    refine jo_end (by kernel_rfl) ?_
    refine jx_then ?_
    refine jc_ret ?_
    obtain rfl := Option.some.inj h
    exact jx_ret [] (.slice (o_9.map fun b => ⟨b, 0, none⟩) ((([] : List Int) ++ s0).length) cap_10) [] rfl (by kernel_rfl) (by kernel_rfl) (fun w hm => ⟨o_9, cap_10, sp_11, ((([] : List Int) ++ s0).length), rfl, hs_12, ho_13, rfl, hm.pick [0] (by kernel_rfl) (by kernel_rfl)⟩)

/-! ### (impl.Wear).own -/
noncomputable def impl_Wear_own (w0 : GWear) : Option (GWear) := (slices_Clone_WornPin w0.fPins).bind fun t_1 => (slices_Clone_int64 w0.fStrokes).bind fun t_2 => some (⟨t_1, t_2⟩ : GWear)
set_option maxRecDepth 100000 in
theorem impl_Wear_own.calls (w0 : GWear) (w : World) (r : GWear) (w0_fPins_a : Option Addr) (w0_fPins_an : Nat) (w0_fPins_c : Nat) (w0_fPins_h : Rw w w0_fPins_a 3 encGWornPin w0.fPins) (w0_fPins_hn : w0.fPins.length = w0_fPins_an) (w0_fStrokes_a : Option Addr) (w0_fStrokes_an : Nat) (w0_fStrokes_c : Nat) (w0_fStrokes_h : Rw w w0_fStrokes_a 1 encI64 w0.fStrokes) (w0_fStrokes_hn : w0.fStrokes.length = w0_fStrokes_an) (h : impl_Wear_own w0 = some r) :
    Calls Tryz.prog 84 #[(.agg #[(.slice w0_fPins_a w0_fPins_an w0_fPins_c), (.slice w0_fStrokes_a w0_fStrokes_an w0_fStrokes_c)])] w fun e w' => ∃ v, e = .returned v ∧ (∃ (o0 : Option Nat) (c0 : Nat) (s0 : List Value) (n0 : Nat), r.fPins.length = n0 ∧ (o0 ≠ none → n0 ≤ c0 ∧ s0.length = (c0 - n0) * 3) ∧ (o0 = none → r.fPins = [] ∧ c0 = 0) ∧ ∃ (o1 : Option Nat) (c1 : Nat) (s1 : List Value) (n1 : Nat), r.fStrokes.length = n1 ∧ (o1 ≠ none → n1 ≤ c1 ∧ s1.length = (c1 - n1) * 1) ∧ (o1 = none → r.fStrokes = [] ∧ c1 = 0) ∧ v = .agg #[.slice (o0.map fun b => ⟨b, 0, none⟩) n0 c0, .slice (o1.map fun b => ⟨b, 0, none⟩) n1 c1] ∧ Mem w [] [⟨o0, 75, row encGWornPin r.fPins s0⟩, ⟨o1, 2, row encI64 r.fStrokes s1⟩] w') := by
  subst w0_fPins_hn w0_fStrokes_hn
  rw [impl_Wear_own] at h
  refine enter (args := [(.agg #[(.slice w0_fPins_a w0.fPins.length w0_fPins_c), (.slice w0_fStrokes_a w0.fStrokes.length w0_fStrokes_c)])]) Tryz.func84 rfl Tryz.ntmps84 (by kernel_rfl) (L := []) (W := []) (Mem.start w) ?_
  refine jc_seq ?_
  refine jc_region ?_
  refine toO (by kernel_rfl) (p_a 0 [0] (by kernel_rfl) (fun b => by kernel_rfl) (fun b_1 => jkO ?_))
  refine toO (by kernel_rfl) (p_a 0 [0] (by kernel_rfl) (fun b => by kernel_rfl) (fun b_2 => jkO ?_))
  refine jo_end (by kernel_rfl) ?_
  refine jx_then ?_
  refine jc_seq ?_
  refine jc_draw [⟨some b_1, 38, [(.slice w0_fPins_a w0.fPins.length w0_fPins_c), (.slice w0_fStrokes_a w0.fStrokes.length w0_fStrokes_c)]⟩] 8 (by kernel_rfl) (by kernel_rfl) ?_
  refine jd_f [⟨0, 0, 0⟩, ⟨1, 0, 0⟩, ⟨3, 0, 0⟩, ⟨4, 0, 0⟩] 4 (by kernel_rfl) (by kernel_rfl) (fun w h => h.pick [0] (by kernel_rfl) (by kernel_rfl)) (by kernel_rfl) (by kernel_rfl) ?_
  obtain ⟨t_1, ht_15, h⟩ := bd h
  refine toD 2 (by kernel_rfl) (p_call 0 117 #[(.slice w0_fPins_a w0.fPins.length w0_fPins_c)] (by kernel_rfl) (by kernel_rfl) (fun w hm => slices_Clone_WornPin.calls w0.fPins w _ w0_fPins_a w0.fPins.length w0_fPins_c (hm.exRow w0_fPins_h List.not_mem_nil) rfl ht_15) ?_)
  rintro w v w' hm ⟨o_16, cap_17, sp_18, _, rfl, hs_19, ho_20, rfl, hm'⟩
  refine ⟨_, hm.app hm', jkD (fun w h => h.pick [0] (by kernel_rfl) (by kernel_rfl)) ?_⟩
  clear hm hm'
  obtain ⟨t_2, ht_21, h⟩ := bd h
  refine toD 5 (by kernel_rfl) (p_call 0 118 #[(.slice w0_fStrokes_a w0.fStrokes.length w0_fStrokes_c)] (by kernel_rfl) (by kernel_rfl) (fun w hm => slices_Clone_int64.calls w0.fStrokes w _ w0_fStrokes_a w0.fStrokes.length w0_fStrokes_c (hm.exRow w0_fStrokes_h List.not_mem_nil) rfl ht_21) ?_)
  rintro w v w' hm ⟨o_22, cap_23, sp_24, _, rfl, hs_25, ho_26, rfl, hm'⟩
  refine ⟨_, hm.app hm', jkD (fun w h => h.pick [0] (by kernel_rfl) (by kernel_rfl)) ?_⟩
  clear hm hm'
  refine jd_f [⟨6, 0, 0⟩] 1 (by kernel_rfl) (by kernel_rfl) (fun w h => h.pick [0] (by kernel_rfl) (by kernel_rfl)) (by kernel_rfl) (by kernel_rfl) ?_
  refine toD 7 (by kernel_rfl) (p_s 0 [1] (by kernel_rfl) (by kernel_rfl) (jkD (fun w h => h.pick [0] (by kernel_rfl) (by kernel_rfl)) ?_))
  refine jd_end (by kernel_rfl) ?_
  refine jx_then ?_
  refine jc_ret ?_
  obtain rfl := Option.some.inj h
  exact jx_ret [1] (.agg #[(.slice (o_16.map fun b => ⟨b, 0, none⟩) t_1.length cap_17), (.slice (o_22.map fun b => ⟨b, 0, none⟩) t_2.length cap_23)]) [(b_2, b_2), (b_2, b_2)] rfl (by kernel_rfl) (by kernel_rfl) (fun w hm => ⟨o_16, cap_17, sp_18, t_1.length, rfl, hs_19, ho_20, o_22, cap_23, sp_24, t_2.length, rfl, hs_25, ho_26, rfl, hm.pick [2, 3] (by kernel_rfl) (by kernel_rfl)⟩)

/-! ### (*impl.Drum).put -/
noncomputable def impl_Drum_put (d0 : Arr 96 Int) (step1 : Int) (track2 : Int) (on3 : Bool) : Option ((Arr 96 Int)) := (ix d0.1 step1).bind fun x_1 => (if 0 ≤ track2 then (ix d0.1 step1).bind fun x_2 => (if on3 = true then (ix ((Arr.set d0 step1 (bClr .u32 x_1 (bShl .u32 1 track2))).1) step1).bind fun x_3 => (if 0 ≤ track2 then (ix ((Arr.set d0 step1 (bClr .u32 x_1 (bShl .u32 1 track2))).1) step1).bind fun x_4 => some (Arr.set (Arr.set d0 step1 (bClr .u32 x_1 (bShl .u32 1 track2))) step1 (bOr .u32 x_3 (bShl .u32 1 track2))) else none) else some (Arr.set d0 step1 (bClr .u32 x_1 (bShl .u32 1 track2)))) else none)
set_option maxRecDepth 100000 in
theorem impl_Drum_put.calls (d0 : Arr 96 Int) (step1 : Int) (track2 : Int) (on3 : Bool) (w : World) (r : (Arr 96 Int)) (d0_b : Nat) (hm0 : Mem w (bs [some d0_b]) [⟨(some d0_b), 150, row encU32 d0.1 []⟩] w) (h : impl_Drum_put d0 step1 track2 on3 = some r) :
    Calls Tryz.prog 134 #[(.pointer (some ⟨d0_b, 0, none⟩)), (.int .i64 step1), (.int .i64 track2), (.bool on3)] w fun e w' => ∃ v, e = .returned v ∧ (v = .tuple #[] ∧ Mem w (bs [some d0_b]) [⟨(some d0_b), 150, row encU32 r.1 []⟩] w') := by
  rw [impl_Drum_put] at h
  refine enter (args := [(.pointer (some ⟨d0_b, 0, none⟩)), (.int .i64 step1), (.int .i64 track2), (.bool on3)]) Tryz.func134 rfl Tryz.ntmps134 (by kernel_rfl) (L := [⟨(some d0_b), 150, row encU32 d0.1 []⟩]) (W := bs [some d0_b]) hm0 ?_
  refine jc_seq ?_
  refine jc_draw [] 11 (by kernel_rfl) (by kernel_rfl) ?_
  refine jd_f [⟨0, 0, 0⟩, ⟨1, 0, 0⟩, ⟨2, 0, 0⟩, ⟨5, 0, 0⟩, ⟨8, 0, 0⟩] 6 (by kernel_rfl) (by kernel_rfl) (fun w h => h.pick [] (by kernel_rfl) (by kernel_rfl)) (by kernel_rfl) (by kernel_rfl) ?_
  obtain ⟨x_1, hx_4, h⟩ := bd h
  refine jd_v 3 0 (by kernel_rfl) (fun w h => h.pick [] (by kernel_rfl) (by kernel_rfl)) (by kernel_rfl) (by kernel_rfl) _ (fun w hm => idx_run (a := (some ⟨d0_b, 0, none⟩)) (len := 96) (s := 1) (j := step1) (by kernel_rfl) (ix_some hx_4).1 (ltn hx_4 d0.2) rfl) ?_
  refine toD2 4 6 (by kernel_rfl) ?_ ?_
  · refine p_ld 0 (aB (some ⟨d0_b, 0, none⟩)) (aO (some ⟨d0_b, 0, none⟩) + step1.toNat * 1) false (encU32 x_1) (by kernel_rfl) (by kernel_rfl) (by kernel_rfl) (fun w hm => ((hm.ownRow (hh := 0) (o := (some d0_b)) (T := 150) (enc := encU32) (xs := d0.1) (sp := []) (by kernel_rfl) (fun e => nomatch e) encU32_len).at hx_4)) (jkD (fun w h => h.pick [] (by kernel_rfl) (by kernel_rfl)) ?_)
    obtain ⟨hg_5, h⟩ := gd h
    refine toD 6 (by kernel_rfl) (p_shl 0 .u32 1 .i64 track2 (by kernel_rfl) (by kernel_rfl) hg_5 (jkD (fun w h => h.pick [] (by kernel_rfl) (by kernel_rfl)) ?_))
    refine jd_f [⟨7, 0, 0⟩] 2 (by kernel_rfl) (by kernel_rfl) (fun w h => h.pick [] (by kernel_rfl) (by kernel_rfl)) (by kernel_rfl) (by kernel_rfl) ?_
    obtain ⟨x_2, hx_6, h⟩ := bd h
    refine jd_v 9 0 (by kernel_rfl) (fun w h => h.pick [] (by kernel_rfl) (by kernel_rfl)) (by kernel_rfl) (by kernel_rfl) _ (fun w hm => idx_run (a := (some ⟨d0_b, 0, none⟩)) (len := 96) (s := 1) (j := step1) (by kernel_rfl) (ix_some hx_6).1 (ltn hx_6 d0.2) rfl) ?_
    refine toD 10 (by kernel_rfl) (p_str 0 0 d0_b 150 encU32 d0.1 [] step1 (bClr .u32 x_1 (bShl .u32 1 track2)) 1 0 [(.int .u32 (bClr .u32 x_1 (bShl .u32 1 track2)))] (by kernel_rfl) (by kernel_rfl) (by kernel_rfl) encU32_len hx_6 (by kernel_rfl) (by kernel_rfl) (jkD (fun w h => h.pick [] (by kernel_rfl) (by kernel_rfl)) ?_))
    refine jd_end (by kernel_rfl) ?_
    refine jx_then ?_
    refine jc_seq ?_
    refine jc_region ?_
    refine jo_f [(0, 0)] (by kernel_rfl) ?_
    refine jo_end (by kernel_rfl) ?_
    refine jx_then ?_
    refine jc_cond on3 (by kernel_rfl) (fun hc_7 => ?_) (fun hc_7 => ?_)
    · replace h := ifT hc_7 h
      refine jc_draw [] 11 (by kernel_rfl) (by kernel_rfl) ?_
      refine jd_f [⟨0, 0, 0⟩, ⟨1, 0, 0⟩, ⟨2, 0, 0⟩, ⟨5, 0, 0⟩, ⟨8, 0, 0⟩] 6 (by kernel_rfl) (by kernel_rfl) (fun w h => h.pick [] (by kernel_rfl) (by kernel_rfl)) (by kernel_rfl) (by kernel_rfl) ?_
      obtain ⟨x_3, hx_11, h⟩ := bd h
      refine jd_v 3 0 (by kernel_rfl) (fun w h => h.pick [] (by kernel_rfl) (by kernel_rfl)) (by kernel_rfl) (by kernel_rfl) _ (fun w hm => idx_run (a := (some ⟨d0_b, 0, none⟩)) (len := 96) (s := 1) (j := step1) (by kernel_rfl) (ix_some hx_11).1 (ltn hx_11 (Arr.set d0 step1 (bClr .u32 x_1 (bShl .u32 1 track2))).2) rfl) ?_
      refine toD2 4 6 (by kernel_rfl) ?_ ?_
      · refine p_ld 0 (aB (some ⟨d0_b, 0, none⟩)) (aO (some ⟨d0_b, 0, none⟩) + step1.toNat * 1) false (encU32 x_3) (by kernel_rfl) (by kernel_rfl) (by kernel_rfl) (fun w hm => ((hm.ownRow (hh := 0) (o := (some d0_b)) (T := 150) (enc := encU32) (xs := ((Arr.set d0 step1 (bClr .u32 x_1 (bShl .u32 1 track2))).1)) (sp := []) (by kernel_rfl) (fun e => nomatch e) encU32_len).at hx_11)) (jkD (fun w h => h.pick [] (by kernel_rfl) (by kernel_rfl)) ?_)
        obtain ⟨hg_12, h⟩ := gd h
        refine toD 6 (by kernel_rfl) (p_shl 0 .u32 1 .i64 track2 (by kernel_rfl) (by kernel_rfl) hg_12 (jkD (fun w h => h.pick [] (by kernel_rfl) (by kernel_rfl)) ?_))
        refine jd_f [⟨7, 0, 0⟩] 2 (by kernel_rfl) (by kernel_rfl) (fun w h => h.pick [] (by kernel_rfl) (by kernel_rfl)) (by kernel_rfl) (by kernel_rfl) ?_
        obtain ⟨x_4, hx_13, h⟩ := bd h
        refine jd_v 9 0 (by kernel_rfl) (fun w h => h.pick [] (by kernel_rfl) (by kernel_rfl)) (by kernel_rfl) (by kernel_rfl) _ (fun w hm => idx_run (a := (some ⟨d0_b, 0, none⟩)) (len := 96) (s := 1) (j := step1) (by kernel_rfl) (ix_some hx_13).1 (ltn hx_13 (Arr.set d0 step1 (bClr .u32 x_1 (bShl .u32 1 track2))).2) rfl) ?_
        refine toD 10 (by kernel_rfl) (p_str 0 0 d0_b 150 encU32 ((Arr.set d0 step1 (bClr .u32 x_1 (bShl .u32 1 track2))).1) [] step1 (bOr .u32 x_3 (bShl .u32 1 track2)) 1 0 [(.int .u32 (bOr .u32 x_3 (bShl .u32 1 track2)))] (by kernel_rfl) (by kernel_rfl) (by kernel_rfl) encU32_len hx_13 (by kernel_rfl) (by kernel_rfl) (jkD (fun w h => h.pick [] (by kernel_rfl) (by kernel_rfl)) ?_))
        refine jd_end (by kernel_rfl) ?_
        refine jx_fall ?_
        obtain rfl := Option.some.inj h
        exact jx_ret [] (.tuple #[]) [] rfl (by kernel_rfl) (by kernel_rfl) (fun w hm => ⟨rfl, hm.pick [0] (by kernel_rfl) (by kernel_rfl)⟩)
      · obtain ⟨hg_14, h⟩ := gd h
        refine p_shl 0 .u32 1 .i64 track2 (by kernel_rfl) (by kernel_rfl) hg_14 (jkD (fun w h => h.pick [] (by kernel_rfl) (by kernel_rfl)) ?_)
        refine toD 4 (by kernel_rfl) (p_ld 0 (aB (some ⟨d0_b, 0, none⟩)) (aO (some ⟨d0_b, 0, none⟩) + step1.toNat * 1) false (encU32 x_3) (by kernel_rfl) (by kernel_rfl) (by kernel_rfl) (fun w hm => ((hm.ownRow (hh := 0) (o := (some d0_b)) (T := 150) (enc := encU32) (xs := ((Arr.set d0 step1 (bClr .u32 x_1 (bShl .u32 1 track2))).1)) (sp := []) (by kernel_rfl) (fun e => nomatch e) encU32_len).at hx_11)) (jkD (fun w h => h.pick [] (by kernel_rfl) (by kernel_rfl)) ?_))
        refine jd_f [⟨7, 0, 0⟩] 2 (by kernel_rfl) (by kernel_rfl) (fun w h => h.pick [] (by kernel_rfl) (by kernel_rfl)) (by kernel_rfl) (by kernel_rfl) ?_
        obtain ⟨x_4, hx_15, h⟩ := bd h
        refine jd_v 9 0 (by kernel_rfl) (fun w h => h.pick [] (by kernel_rfl) (by kernel_rfl)) (by kernel_rfl) (by kernel_rfl) _ (fun w hm => idx_run (a := (some ⟨d0_b, 0, none⟩)) (len := 96) (s := 1) (j := step1) (by kernel_rfl) (ix_some hx_15).1 (ltn hx_15 (Arr.set d0 step1 (bClr .u32 x_1 (bShl .u32 1 track2))).2) rfl) ?_
        refine toD 10 (by kernel_rfl) (p_str 0 0 d0_b 150 encU32 ((Arr.set d0 step1 (bClr .u32 x_1 (bShl .u32 1 track2))).1) [] step1 (bOr .u32 x_3 (bShl .u32 1 track2)) 1 0 [(.int .u32 (bOr .u32 x_3 (bShl .u32 1 track2)))] (by kernel_rfl) (by kernel_rfl) (by kernel_rfl) encU32_len hx_15 (by kernel_rfl) (by kernel_rfl) (jkD (fun w h => h.pick [] (by kernel_rfl) (by kernel_rfl)) ?_))
        refine jd_end (by kernel_rfl) ?_
        refine jx_fall ?_
        obtain rfl := Option.some.inj h
        exact jx_ret [] (.tuple #[]) [] rfl (by kernel_rfl) (by kernel_rfl) (fun w hm => ⟨rfl, hm.pick [0] (by kernel_rfl) (by kernel_rfl)⟩)
    · replace h := ifF hc_7 h
      refine jc_skip ?_
      refine jx_fall ?_
      obtain rfl := Option.some.inj h
      exact jx_ret [] (.tuple #[]) [] rfl (by kernel_rfl) (by kernel_rfl) (fun w hm => ⟨rfl, hm.pick [0] (by kernel_rfl) (by kernel_rfl)⟩)
  · obtain ⟨hg_16, h⟩ := gd h
    refine p_shl 0 .u32 1 .i64 track2 (by kernel_rfl) (by kernel_rfl) hg_16 (jkD (fun w h => h.pick [] (by kernel_rfl) (by kernel_rfl)) ?_)
    refine toD 4 (by kernel_rfl) (p_ld 0 (aB (some ⟨d0_b, 0, none⟩)) (aO (some ⟨d0_b, 0, none⟩) + step1.toNat * 1) false (encU32 x_1) (by kernel_rfl) (by kernel_rfl) (by kernel_rfl) (fun w hm => ((hm.ownRow (hh := 0) (o := (some d0_b)) (T := 150) (enc := encU32) (xs := d0.1) (sp := []) (by kernel_rfl) (fun e => nomatch e) encU32_len).at hx_4)) (jkD (fun w h => h.pick [] (by kernel_rfl) (by kernel_rfl)) ?_))
    refine jd_f [⟨7, 0, 0⟩] 2 (by kernel_rfl) (by kernel_rfl) (fun w h => h.pick [] (by kernel_rfl) (by kernel_rfl)) (by kernel_rfl) (by kernel_rfl) ?_
    obtain ⟨x_2, hx_17, h⟩ := bd h
    refine jd_v 9 0 (by kernel_rfl) (fun w h => h.pick [] (by kernel_rfl) (by kernel_rfl)) (by kernel_rfl) (by kernel_rfl) _ (fun w hm => idx_run (a := (some ⟨d0_b, 0, none⟩)) (len := 96) (s := 1) (j := step1) (by kernel_rfl) (ix_some hx_17).1 (ltn hx_17 d0.2) rfl) ?_
    refine toD 10 (by kernel_rfl) (p_str 0 0 d0_b 150 encU32 d0.1 [] step1 (bClr .u32 x_1 (bShl .u32 1 track2)) 1 0 [(.int .u32 (bClr .u32 x_1 (bShl .u32 1 track2)))] (by kernel_rfl) (by kernel_rfl) (by kernel_rfl) encU32_len hx_17 (by kernel_rfl) (by kernel_rfl) (jkD (fun w h => h.pick [] (by kernel_rfl) (by kernel_rfl)) ?_))
    refine jd_end (by kernel_rfl) ?_
    refine jx_then ?_
    refine jc_seq ?_
    refine jc_region ?_
    refine jo_f [(0, 0)] (by kernel_rfl) ?_
    refine jo_end (by kernel_rfl) ?_
    refine jx_then ?_
    refine jc_cond on3 (by kernel_rfl) (fun hc_18 => ?_) (fun hc_18 => ?_)
    · replace h := ifT hc_18 h
      refine jc_draw [] 11 (by kernel_rfl) (by kernel_rfl) ?_
      refine jd_f [⟨0, 0, 0⟩, ⟨1, 0, 0⟩, ⟨2, 0, 0⟩, ⟨5, 0, 0⟩, ⟨8, 0, 0⟩] 6 (by kernel_rfl) (by kernel_rfl) (fun w h => h.pick [] (by kernel_rfl) (by kernel_rfl)) (by kernel_rfl) (by kernel_rfl) ?_
      obtain ⟨x_3, hx_22, h⟩ := bd h
      refine jd_v 3 0 (by kernel_rfl) (fun w h => h.pick [] (by kernel_rfl) (by kernel_rfl)) (by kernel_rfl) (by kernel_rfl) _ (fun w hm => idx_run (a := (some ⟨d0_b, 0, none⟩)) (len := 96) (s := 1) (j := step1) (by kernel_rfl) (ix_some hx_22).1 (ltn hx_22 (Arr.set d0 step1 (bClr .u32 x_1 (bShl .u32 1 track2))).2) rfl) ?_
      refine toD2 4 6 (by kernel_rfl) ?_ ?_
      · refine p_ld 0 (aB (some ⟨d0_b, 0, none⟩)) (aO (some ⟨d0_b, 0, none⟩) + step1.toNat * 1) false (encU32 x_3) (by kernel_rfl) (by kernel_rfl) (by kernel_rfl) (fun w hm => ((hm.ownRow (hh := 0) (o := (some d0_b)) (T := 150) (enc := encU32) (xs := ((Arr.set d0 step1 (bClr .u32 x_1 (bShl .u32 1 track2))).1)) (sp := []) (by kernel_rfl) (fun e => nomatch e) encU32_len).at hx_22)) (jkD (fun w h => h.pick [] (by kernel_rfl) (by kernel_rfl)) ?_)
        obtain ⟨hg_23, h⟩ := gd h
        refine toD 6 (by kernel_rfl) (p_shl 0 .u32 1 .i64 track2 (by kernel_rfl) (by kernel_rfl) hg_23 (jkD (fun w h => h.pick [] (by kernel_rfl) (by kernel_rfl)) ?_))
        refine jd_f [⟨7, 0, 0⟩] 2 (by kernel_rfl) (by kernel_rfl) (fun w h => h.pick [] (by kernel_rfl) (by kernel_rfl)) (by kernel_rfl) (by kernel_rfl) ?_
        obtain ⟨x_4, hx_24, h⟩ := bd h
        refine jd_v 9 0 (by kernel_rfl) (fun w h => h.pick [] (by kernel_rfl) (by kernel_rfl)) (by kernel_rfl) (by kernel_rfl) _ (fun w hm => idx_run (a := (some ⟨d0_b, 0, none⟩)) (len := 96) (s := 1) (j := step1) (by kernel_rfl) (ix_some hx_24).1 (ltn hx_24 (Arr.set d0 step1 (bClr .u32 x_1 (bShl .u32 1 track2))).2) rfl) ?_
        refine toD 10 (by kernel_rfl) (p_str 0 0 d0_b 150 encU32 ((Arr.set d0 step1 (bClr .u32 x_1 (bShl .u32 1 track2))).1) [] step1 (bOr .u32 x_3 (bShl .u32 1 track2)) 1 0 [(.int .u32 (bOr .u32 x_3 (bShl .u32 1 track2)))] (by kernel_rfl) (by kernel_rfl) (by kernel_rfl) encU32_len hx_24 (by kernel_rfl) (by kernel_rfl) (jkD (fun w h => h.pick [] (by kernel_rfl) (by kernel_rfl)) ?_))
        refine jd_end (by kernel_rfl) ?_
        refine jx_fall ?_
        obtain rfl := Option.some.inj h
        exact jx_ret [] (.tuple #[]) [] rfl (by kernel_rfl) (by kernel_rfl) (fun w hm => ⟨rfl, hm.pick [0] (by kernel_rfl) (by kernel_rfl)⟩)
      · obtain ⟨hg_25, h⟩ := gd h
        refine p_shl 0 .u32 1 .i64 track2 (by kernel_rfl) (by kernel_rfl) hg_25 (jkD (fun w h => h.pick [] (by kernel_rfl) (by kernel_rfl)) ?_)
        refine toD 4 (by kernel_rfl) (p_ld 0 (aB (some ⟨d0_b, 0, none⟩)) (aO (some ⟨d0_b, 0, none⟩) + step1.toNat * 1) false (encU32 x_3) (by kernel_rfl) (by kernel_rfl) (by kernel_rfl) (fun w hm => ((hm.ownRow (hh := 0) (o := (some d0_b)) (T := 150) (enc := encU32) (xs := ((Arr.set d0 step1 (bClr .u32 x_1 (bShl .u32 1 track2))).1)) (sp := []) (by kernel_rfl) (fun e => nomatch e) encU32_len).at hx_22)) (jkD (fun w h => h.pick [] (by kernel_rfl) (by kernel_rfl)) ?_))
        refine jd_f [⟨7, 0, 0⟩] 2 (by kernel_rfl) (by kernel_rfl) (fun w h => h.pick [] (by kernel_rfl) (by kernel_rfl)) (by kernel_rfl) (by kernel_rfl) ?_
        obtain ⟨x_4, hx_26, h⟩ := bd h
        refine jd_v 9 0 (by kernel_rfl) (fun w h => h.pick [] (by kernel_rfl) (by kernel_rfl)) (by kernel_rfl) (by kernel_rfl) _ (fun w hm => idx_run (a := (some ⟨d0_b, 0, none⟩)) (len := 96) (s := 1) (j := step1) (by kernel_rfl) (ix_some hx_26).1 (ltn hx_26 (Arr.set d0 step1 (bClr .u32 x_1 (bShl .u32 1 track2))).2) rfl) ?_
        refine toD 10 (by kernel_rfl) (p_str 0 0 d0_b 150 encU32 ((Arr.set d0 step1 (bClr .u32 x_1 (bShl .u32 1 track2))).1) [] step1 (bOr .u32 x_3 (bShl .u32 1 track2)) 1 0 [(.int .u32 (bOr .u32 x_3 (bShl .u32 1 track2)))] (by kernel_rfl) (by kernel_rfl) (by kernel_rfl) encU32_len hx_26 (by kernel_rfl) (by kernel_rfl) (jkD (fun w h => h.pick [] (by kernel_rfl) (by kernel_rfl)) ?_))
        refine jd_end (by kernel_rfl) ?_
        refine jx_fall ?_
        obtain rfl := Option.some.inj h
        exact jx_ret [] (.tuple #[]) [] rfl (by kernel_rfl) (by kernel_rfl) (fun w hm => ⟨rfl, hm.pick [0] (by kernel_rfl) (by kernel_rfl)⟩)
    · replace h := ifF hc_18 h
      refine jc_skip ?_
      refine jx_fall ?_
      obtain rfl := Option.some.inj h
      exact jx_ret [] (.tuple #[]) [] rfl (by kernel_rfl) (by kernel_rfl) (fun w hm => ⟨rfl, hm.pick [0] (by kernel_rfl) (by kernel_rfl)⟩)

/-! ### (impl.Wear).drum -/
noncomputable def impl_Wear_drum.k_2 (a_1 : Arr 96 Int) : Option ((Arr 96 Int)) := some a_1
noncomputable def impl_Wear_drum.l_5 (w0 : GWear) : ((Arr 96 Int) × Int) → Option (((Arr 96 Int) × Int) ⊕ ((Arr 96 Int)))
  | (a_3, i_4) => (if (decide (i_4 < (w0.fPins.length : Int))) = true then (ix w0.fPins i_4).bind fun x_7 => (impl_Drum_put a_3 (w64 x_7.fStep) (w64 x_7.fTrack) true).bind fun t_8 => some (.inl (t_8, (w64 (i_4 + 1)))) else some (.inr a_3))
noncomputable def impl_Wear_drum (w0 : GWear) : Option ((Arr 96 Int)) := (loop (impl_Wear_drum.l_5 w0) ((Arr.rep 96 0), 0)).bind fun t_6 => impl_Wear_drum.k_2 t_6
set_option maxRecDepth 100000 in
theorem impl_Wear_drum.calls (w0 : GWear) (w : World) (r : (Arr 96 Int)) (w0_fPins_a : Option Addr) (w0_fPins_an : Nat) (w0_fPins_c : Nat) (w0_fPins_h : Rw w w0_fPins_a 3 encGWornPin w0.fPins) (w0_fPins_hn : w0.fPins.length = w0_fPins_an) (w0_fStrokes_a : Option Addr) (w0_fStrokes_an : Nat) (w0_fStrokes_c : Nat) (w0_fStrokes_h : Rw w w0_fStrokes_a 1 encI64 w0.fStrokes) (w0_fStrokes_hn : w0.fStrokes.length = w0_fStrokes_an) (h : impl_Wear_drum w0 = some r) :
    Calls Tryz.prog 102 #[(.agg #[(.slice w0_fPins_a w0_fPins_an w0_fPins_c), (.slice w0_fStrokes_a w0_fStrokes_an w0_fStrokes_c)])] w fun e w' => ∃ v, e = .returned v ∧ (v = (.agg (row encU32 r.1 []).toArray) ∧ Mem w [] [] w') := by
  subst w0_fPins_hn w0_fStrokes_hn
  rw [impl_Wear_drum] at h
  refine enter (args := [(.agg #[(.slice w0_fPins_a w0.fPins.length w0_fPins_c), (.slice w0_fStrokes_a w0.fStrokes.length w0_fStrokes_c)])]) Tryz.func102 rfl Tryz.ntmps102 (by kernel_rfl) (L := []) (W := []) (Mem.start w) ?_
  refine jc_seq ?_
  refine jc_region ?_
  refine toO (by kernel_rfl) (p_a 0 [0] (by kernel_rfl) (fun b => by kernel_rfl) (fun b_1 => jkO ?_))
  refine toO (by kernel_rfl) (p_a 0 [0] (by kernel_rfl) (fun b => by kernel_rfl) (fun b_2 => jkO ?_))
  refine jo_end (by kernel_rfl) ?_
  refine jx_then ?_
  refine jc_seq ?_
  refine jc_region ?_
  refine jo_f [(0, 0)] (by kernel_rfl) ?_
  refine toO (by kernel_rfl) (p_a 0 [0] (by kernel_rfl) (fun b => by kernel_rfl) (fun b_3 => jkO ?_))
  refine toO (by kernel_rfl) (p_sA 0 2 b_3 96 1 150 encU32 (Arr.rep 96 0) (Arr.rep 96 0) (by kernel_rfl) (by kernel_rfl) (by kernel_rfl) encU32_len encU32_cell (by kernel_rfl) (jkO ?_))
  refine jo_end (by kernel_rfl) ?_
  refine jx_then ?_
  refine jc_seq ?_
  refine jc_seq ?_
  refine jc_region ?_
  refine jo_f [(0, 0), (0, 0), (0, 0), (0, 0)] (by kernel_rfl) ?_
  refine jo_end (by kernel_rfl) ?_
  refine jx_then ?_
  refine jc_meet (fun (j : (Arr 96 Int)) => match j with | a_1 => impl_Wear_drum.k_2 a_1 = some r) (fun (j : (Arr 96 Int)) => match j with | a_1 => [(2, [], (.pointer (some ⟨b_2, 0, none⟩))), (3, [], (.pointer (some ⟨b_3, 0, none⟩)))]) (fun (j : (Arr 96 Int)) => match j with | a_1 => [⟨some b_1, 38, [(.slice w0_fPins_a w0.fPins.length w0_fPins_c), (.slice w0_fStrokes_a w0.fStrokes.length w0_fStrokes_c)]⟩, ⟨(some b_2), 150, row encU32 ((Arr.rep 96 0).1) []⟩, ⟨(some b_3), 150, row encU32 a_1.1 []⟩]) ?_ ?_
  · refine jc_block ?_
    obtain ⟨t_6, ht_79, hr_71⟩ := bd h
    refine jc_loop (fun (s : (Arr 96 Int) × Int) (x : Unit) => match s, x with | ⟨a_3, i_4⟩, _ => True) (fun (s : (Arr 96 Int) × Int) (x : Unit) => match s, x with | ⟨a_3, i_4⟩, _ => [(2, [], (.pointer (some ⟨b_2, 0, none⟩))), (3, [], (.pointer (some ⟨b_3, 0, none⟩))), (8, [], (.slice w0_fPins_a w0.fPins.length w0_fPins_c)), (9, [], (.int .i64 (w0.fPins.length : Int))), (10, [], (.int .i64 i_4))]) (fun (s : (Arr 96 Int) × Int) (x : Unit) => match s, x with | ⟨a_3, i_4⟩, _ => [⟨some b_1, 38, [(.slice w0_fPins_a w0.fPins.length w0_fPins_c), (.slice w0_fStrokes_a w0.fStrokes.length w0_fStrokes_c)]⟩, ⟨(some b_2), 150, row encU32 ((Arr.rep 96 0).1) []⟩, ⟨(some b_3), 150, row encU32 a_3.1 []⟩]) ht_79 () trivial (by kernel_rfl) [0, 1, 2] (by kernel_rfl) (by kernel_rfl) ?_
    rintro ⟨a_3, i_4⟩ _ y_72 _ h
    rw [impl_Wear_drum.l_5] at h
    refine jc_seq ?_
    refine jc_region ?_
    refine jo_f [(0, 0)] (by kernel_rfl) ?_
    refine jo_end (by kernel_rfl) ?_
    refine jx_then ?_
    refine jc_seq ?_
    refine jc_cond (decide (i_4 < (w0.fPins.length : Int))) (by kernel_rfl) (fun hc_74 => ?_) (fun hc_74 => ?_)
    · replace h := ifT hc_74 h
      refine jc_skip ?_
      refine jx_then ?_
      refine jc_seq ?_
      refine jc_block ?_
      refine jc_seq ?_
      refine jc_region ?_
      obtain ⟨x_7, hx_75, h⟩ := bd h
      refine toO (by kernel_rfl) (p_idx 0 w0_fPins_a w0.fPins.length i_4 3 (by kernel_rfl) (by kernel_rfl) (ix_some hx_75).1 (ltn hx_75 rfl) (w0_fPins_h.sp hx_75) (jkO ?_))
      refine toO (by kernel_rfl) (p_ld 0 (aB w0_fPins_a) (aO w0_fPins_a + i_4.toNat * 3) true (encGWornPin x_7) (by kernel_rfl) (by kernel_rfl) (by kernel_rfl) (fun w hm => ((hm.exRow w0_fPins_h List.not_mem_nil).at hx_75)) (jkO ?_))
      refine toO (by kernel_rfl) (p_a 0 [0] (by kernel_rfl) (fun b => by kernel_rfl) (fun b_76 => jkO ?_))
      refine toO (by kernel_rfl) (p_s 0 [3] (by kernel_rfl) (by kernel_rfl) (jkO ?_))
      refine jo_end (by kernel_rfl) ?_
      refine jx_then ?_
      refine jc_region ?_
      refine jo_f [(0, 0), (3, 0), (0, 0), (0, 0), (3, 0), (0, 0)] (by kernel_rfl) ?_
      obtain ⟨t_8, ht_77, h⟩ := bd h
      refine toO (by kernel_rfl) (p_call 0 134 #[(.pointer (some ⟨b_3, 0, none⟩)), (.int .i64 (w64 x_7.fStep)), (.int .i64 (w64 x_7.fTrack)), (.bool true)] (by kernel_rfl) (by kernel_rfl) (fun w hm => impl_Drum_put.calls a_3 (w64 x_7.fStep) (w64 x_7.fTrack) true w _ b_3 (hm.pass (N := [⟨(some b_3), 150, row encU32 a_3.1 []⟩]) [2] (by kernel_rfl) (by kernel_rfl)) ht_77) ?_)
      rintro w v w' hm ⟨rfl, hm'⟩
      refine ⟨_, hm.appW (ps := [(2, ⟨(some b_3), 150, row encU32 t_8.1 []⟩)]) (N := []) hm' (by kernel_rfl) (by kernel_rfl), jkO ?_⟩
      clear hm hm'
      refine jo_end (by kernel_rfl) ?_
      refine jx_inn ?_
      refine jx_then ?_
      refine jc_region ?_
      refine jo_f [(0, 0), (0, 0)] (by kernel_rfl) ?_
      refine jo_end (by kernel_rfl) ?_
      exact jx_back (t_8, (w64 (i_4 + 1))) () (Option.some.inj h).symm trivial [0, 1, 2] (by kernel_rfl) (by kernel_rfl) (by kernel_rfl)
    · replace h := ifF hc_74 h
      refine jc_exit ?_
      refine jx_thenx ?_
      refine jx_leave a_3 (Option.some.inj h).symm (fun e_78 => ?_)
      subst e_78
      refine jx_ine ?_
      exact jx_meet a_3 hr_71 (by kernel_rfl) [0, 1, 2] (by kernel_rfl) (by kernel_rfl)
  · rintro a_1 h
    replace h : impl_Wear_drum.k_2 a_1 = some r := h
    rw [impl_Wear_drum.k_2] at h
    refine jx_then ?_
    refine jc_seq ?_
    refine jc_region ?_
    refine toO (by kernel_rfl) (p_ldA 0 2 b_3 96 1 150 encU32 a_1 (by kernel_rfl) (by kernel_rfl) (by kernel_rfl) encU32_len (by kernel_rfl) (jkO ?_))
    refine toO (by kernel_rfl) (p_sA 0 1 b_2 96 1 150 encU32 (Arr.rep 96 0) a_1 (by kernel_rfl) (by kernel_rfl) (by kernel_rfl) encU32_len encU32_cell (by kernel_rfl) (jkO ?_))
    refine jo_end (by kernel_rfl) ?_
    refine jx_then ?_
    refine jc_ret ?_
    obtain rfl := Option.some.inj h
    exact jx_retV rfl (rq_arr (b := b_2) (T' := 150) (hh := 1) (mm := 1) encU32 a_1 (by kernel_rfl) (by kernel_rfl) encU32_len (by kernel_rfl) rq_nil) (fun w hm => ⟨rfl, hm.pick [] (by kernel_rfl) (by kernel_rfl)⟩)

/-! ### (*impl.Drum).has -/
noncomputable def impl_Drum_has (d0 : Arr 96 Int) (step1 : Int) (track2 : Int) : Option (Bool) := (ix d0.1 step1).bind fun x_1 => (if 0 ≤ track2 then some ((bAnd .u32 (bShr .u32 x_1 track2) 1) == 1) else none)
set_option maxRecDepth 100000 in
theorem impl_Drum_has.calls (d0 : Arr 96 Int) (step1 : Int) (track2 : Int) (w : World) (r : Bool) (d0_b : Nat) (hm0 : Mem w (bs [some d0_b]) [⟨(some d0_b), 150, row encU32 d0.1 []⟩] w) (h : impl_Drum_has d0 step1 track2 = some r) :
    Calls Tryz.prog 149 #[(.pointer (some ⟨d0_b, 0, none⟩)), (.int .i64 step1), (.int .i64 track2)] w fun e w' => ∃ v, e = .returned v ∧ (v = (.bool r) ∧ Mem w (bs [some d0_b]) [⟨(some d0_b), 150, row encU32 d0.1 []⟩] w') := by
  rw [impl_Drum_has] at h
  refine enter (args := [(.pointer (some ⟨d0_b, 0, none⟩)), (.int .i64 step1), (.int .i64 track2)]) Tryz.func149 rfl Tryz.ntmps149 (by kernel_rfl) (L := [⟨(some d0_b), 150, row encU32 d0.1 []⟩]) (W := bs [some d0_b]) hm0 ?_
  refine jc_seq ?_
  refine jc_region ?_
  refine jo_f [(0, 0)] (by kernel_rfl) ?_
  refine jo_end (by kernel_rfl) ?_
  refine jx_then ?_
  refine jc_seq ?_
  refine jc_region ?_
  refine jo_f [(0, 0), (0, 0), (0, 0)] (by kernel_rfl) ?_
  obtain ⟨x_1, hx_1, h⟩ := bd h
  refine toO (by kernel_rfl) (p_idx 0 (some ⟨d0_b, 0, none⟩) 96 step1 1 (by kernel_rfl) (by kernel_rfl) (ix_some hx_1).1 (ltn hx_1 d0.2) rfl (jkO ?_))
  refine toO (by kernel_rfl) (p_ld 0 (aB (some ⟨d0_b, 0, none⟩)) (aO (some ⟨d0_b, 0, none⟩) + step1.toNat * 1) false (encU32 x_1) (by kernel_rfl) (by kernel_rfl) (by kernel_rfl) (fun w hm => ((hm.ownRow (hh := 0) (o := (some d0_b)) (T := 150) (enc := encU32) (xs := d0.1) (sp := []) (by kernel_rfl) (fun e => nomatch e) encU32_len).at hx_1)) (jkO ?_))
  refine jo_f [(0, 0)] (by kernel_rfl) ?_
  obtain ⟨hg_2, h⟩ := gd h
  refine toO (by kernel_rfl) (p_shr 0 .u32 x_1 .i64 track2 (by kernel_rfl) (by kernel_rfl) hg_2 (jkO ?_))
  refine jo_f [(0, 0), (0, 0), (0, 0)] (by kernel_rfl) ?_
  refine jo_end (by kernel_rfl) ?_
  refine jx_then ?_
  refine jc_ret ?_
  obtain rfl := Option.some.inj h
  exact jx_ret [] (.bool ((bAnd .u32 (bShr .u32 x_1 track2) 1) == 1)) [] rfl (by kernel_rfl) (by kernel_rfl) (fun w hm => ⟨rfl, hm.pick [0] (by kernel_rfl) (by kernel_rfl)⟩)

/-! ### (impl.Frame).byTrack$1 -/
noncomputable def impl_Frame_byTrack_1 (p_0 : Int) (track1 : Int) (p2 : List Int) : Option ((List Int)) := (ix p2 track1).bind fun x_1 => (ix p2 track1).bind fun x_2 => some (p2.set track1.toNat (w64 (x_1 + 1)))
set_option maxRecDepth 100000 in
theorem impl_Frame_byTrack_1.calls (p_0 : Int) (track1 : Int) (p2 : List Int) (w : World) (r : (List Int)) (p2_b : Nat) (p2_o : Option Nat) (p2_on : Nat) (p2_c : Nat) (p2_sp : List Value) (p2_hn : p2.length = p2_on) (p2_hs : p2_o ≠ none → p2_on ≤ p2_c ∧ p2_sp.length = (p2_c - p2_on) * 1) (p2_ho : p2_o = none → p2 = [] ∧ p2_c = 0) (hm0 : Mem w (bs [some p2_b, p2_o]) [⟨some p2_b, 27, [(.slice (p2_o.map fun b => ⟨b, 0, none⟩) p2_on p2_c)]⟩, ⟨p2_o, 2, row encI64 p2 p2_sp⟩] w) (h : impl_Frame_byTrack_1 p_0 track1 p2 = some r) :
    Calls Tryz.prog 133 #[(.int .i64 p_0), (.int .i64 track1), (.pointer (some ⟨p2_b, 0, none⟩))] w fun e w' => ∃ v, e = .returned v ∧ (r.length = p2_on ∧ (p2_o = none → r = [] ∧ p2_c = 0) ∧ v = .tuple #[] ∧ Mem w (bs [some p2_b, p2_o]) [⟨some p2_b, 27, [(.slice (p2_o.map fun b => ⟨b, 0, none⟩) p2_on p2_c)]⟩, ⟨p2_o, 2, row encI64 r p2_sp⟩] w') := by
  subst p2_hn
  rw [impl_Frame_byTrack_1] at h
  refine enter (args := [(.int .i64 p_0), (.int .i64 track1), (.pointer (some ⟨p2_b, 0, none⟩))]) Tryz.func133 rfl Tryz.ntmps133 (by kernel_rfl) (L := [⟨some p2_b, 27, [(.slice (p2_o.map fun b => ⟨b, 0, none⟩) p2.length p2_c)]⟩, ⟨p2_o, 2, row encI64 p2 p2_sp⟩]) (W := bs [some p2_b, p2_o]) hm0 ?_
  refine jc_region ?_
  refine jo_f [(0, 0), (0, 0)] (by kernel_rfl) ?_
  obtain ⟨x_1, hx_1, h⟩ := bd h
  refine toO (by kernel_rfl) (p_idx 0 (p2_o.map fun b => ⟨b, 0, none⟩) p2.length track1 1 (by kernel_rfl) (by kernel_rfl) (ix_some hx_1).1 (ltn hx_1 rfl) (spo p2_ho hx_1) (jkO ?_))
  refine toO (by kernel_rfl) (p_ld 0 (aB (p2_o.map fun b => ⟨b, 0, none⟩)) (aO (p2_o.map fun b => ⟨b, 0, none⟩) + track1.toNat * 1) false (encI64 x_1) (by kernel_rfl) (by kernel_rfl) (by kernel_rfl) (fun w hm => ((hm.ownRow (hh := 1) (o := p2_o) (T := 2) (enc := encI64) (xs := p2) (sp := p2_sp) (by kernel_rfl) (fun e => (p2_ho e).1) encI64_len).at hx_1)) (jkO ?_))
  refine jo_f [(0, 0)] (by kernel_rfl) ?_
  obtain ⟨x_2, hx_2, h⟩ := bd h
  refine toO (by kernel_rfl) (p_idx 0 (p2_o.map fun b => ⟨b, 0, none⟩) p2.length track1 1 (by kernel_rfl) (by kernel_rfl) (ix_some hx_2).1 (ltn hx_2 rfl) (spo p2_ho hx_2) (jkO ?_))
  refine toO (by kernel_rfl) (p_strO 0 1 p2_o 2 encI64 p2 p2_sp track1 (w64 (x_1 + 1)) 1 0 [(.int .i64 (w64 (x_1 + 1)))] (by kernel_rfl) (by kernel_rfl) (by kernel_rfl) (fun e => (p2_ho e).1) encI64_len hx_2 (by kernel_rfl) (by kernel_rfl) (jkO ?_))
  refine jo_end (by kernel_rfl) ?_
  refine jx_fall ?_
  obtain rfl := Option.some.inj h
  exact jx_ret [] (.tuple #[]) [] rfl (by kernel_rfl) (by kernel_rfl) (fun w hm => ⟨(List.length_set.trans rfl), (set_ho p2_ho), rfl, hm.pick [0, 1] (by kernel_rfl) (by kernel_rfl)⟩)
end Go.Proofs.YtfkjghkjimcmdaaGreat
