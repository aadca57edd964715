/- Functions of the program that the laws reach: a plain function each, and that the call comes to its answer if the plain function has one. Printed by a program. -/
import Derived.Test.YtfkjghkjimcmdaaGreatT
import Derived.Test.YtfkjghkjimcmdaaGreatM0
import Derived.Test.YtfkjghkjimcmdaaGreatM1
import Derived.Test.YtfkjghkjimcmdaaGreatM2
import Derived.Test.YtfkjghkjimcmdaaGreatM3
namespace Go.Proofs.YtfkjghkjimcmdaaGreat
open Eng
set_option linter.unusedVariables false

/-! ### spec.DoWearActs -/
noncomputable def spec_DoWearActs (f0 : GFrame) (w1 : GWear) (v2 : GLives) (list3 : List GAct) : Option (GWear × Int) := (spec_l06Acts f0 w1 v2 list3).bind fun t_1 => (if (t_1 != 0) = true then some ((⟨[], []⟩ : GWear), t_1) else (spec_l06Done f0 w1 v2 list3).bind fun t_2 => some (t_2.1, t_2.2.2))
set_option maxRecDepth 100000 in
theorem spec_DoWearActs.calls (f0 : GFrame) (w1 : GWear) (v2 : GLives) (list3 : List GAct) (w : World) (r : GWear × Int) (f0_fHammers_a : Option Addr) (f0_fHammers_an : Nat) (f0_fHammers_c : Nat) (f0_fHammers_h : Rw w f0_fHammers_a 2 encGHammer f0.fHammers) (f0_fHammers_hn : f0.fHammers.length = f0_fHammers_an) (w1_fPins_a : Option Addr) (w1_fPins_an : Nat) (w1_fPins_c : Nat) (w1_fPins_h : Rw w w1_fPins_a 3 encGWornPin w1.fPins) (w1_fPins_hn : w1.fPins.length = w1_fPins_an) (w1_fStrokes_a : Option Addr) (w1_fStrokes_an : Nat) (w1_fStrokes_c : Nat) (w1_fStrokes_h : Rw w w1_fStrokes_a 1 encI64 w1.fStrokes) (w1_fStrokes_hn : w1.fStrokes.length = w1_fStrokes_an) (list3_a : Option Addr) (list3_an : Nat) (list3_c : Nat) (list3_h : Rw w list3_a 5 encGAct list3) (list3_hn : list3.length = list3_an) (h : spec_DoWearActs f0 w1 v2 list3 = some r) :
    Calls Tryz.prog 9 #[(.agg #[(.int .i16 f0.fSteps), (.slice f0_fHammers_a f0_fHammers_an f0_fHammers_c)]), (.agg #[(.slice w1_fPins_a w1_fPins_an w1_fPins_c), (.slice w1_fStrokes_a w1_fStrokes_an w1_fStrokes_c)]), (.agg #[(.int .i64 v2.fPin), (.int .i64 v2.fHammer)]), (.slice list3_a list3_an list3_c)] w fun e w' => ∃ v, e = .returned v ∧ (∃ (o0 : Option Nat) (c0 : Nat) (s0 : List Value) (n0 : Nat), r.1.fPins.length = n0 ∧ (o0 ≠ none → n0 ≤ c0 ∧ s0.length = (c0 - n0) * 3) ∧ (o0 = none → r.1.fPins = [] ∧ c0 = 0) ∧ ∃ (o1 : Option Nat) (c1 : Nat) (s1 : List Value) (n1 : Nat), r.1.fStrokes.length = n1 ∧ (o1 ≠ none → n1 ≤ c1 ∧ s1.length = (c1 - n1) * 1) ∧ (o1 = none → r.1.fStrokes = [] ∧ c1 = 0) ∧ v = .tuple #[.agg #[.slice (o0.map fun b => ⟨b, 0, none⟩) n0 c0, .slice (o1.map fun b => ⟨b, 0, none⟩) n1 c1], (.int .i64 r.2)] ∧ Mem w [] [⟨o0, 75, row encGWornPin r.1.fPins s0⟩, ⟨o1, 2, row encI64 r.1.fStrokes s1⟩] w') := by
  subst f0_fHammers_hn w1_fPins_hn w1_fStrokes_hn list3_hn
  rw [spec_DoWearActs] at h
  refine enter (args := [(.agg #[(.int .i16 f0.fSteps), (.slice f0_fHammers_a f0.fHammers.length f0_fHammers_c)]), (.agg #[(.slice w1_fPins_a w1.fPins.length w1_fPins_c), (.slice w1_fStrokes_a w1.fStrokes.length w1_fStrokes_c)]), (.agg #[(.int .i64 v2.fPin), (.int .i64 v2.fHammer)]), (.slice list3_a list3.length list3_c)]) Tryz.func9 rfl Tryz.ntmps9 (by kernel_rfl) (L := []) (W := []) (Mem.start w) ?_
  refine jc_seq ?_
  refine jc_region ?_
  refine toO (by kernel_rfl) (p_a 0 [0] (by kernel_rfl) (fun b => by kernel_rfl) (fun b_1 => jkO ?_))
  refine toO (by kernel_rfl) (p_a 0 [0] (by kernel_rfl) (fun b => by kernel_rfl) (fun b_2 => jkO ?_))
  refine toO (by kernel_rfl) (p_a 0 [0] (by kernel_rfl) (fun b => by kernel_rfl) (fun b_3 => jkO ?_))
  refine toO (by kernel_rfl) (p_a 0 [0] (by kernel_rfl) (fun b => by kernel_rfl) (fun b_4 => jkO ?_))
  refine jo_f [(0, 0)] (by kernel_rfl) ?_
  refine jo_end (by kernel_rfl) ?_
  refine jx_then ?_
  refine jc_seq ?_
  refine jc_seq ?_
  refine jc_region ?_
  refine jo_f [(2, 0), (0, 0)] (by kernel_rfl) ?_
  obtain ⟨t_1, ht_7, h⟩ := bd h
  refine toO (by kernel_rfl) (p_call 0 41 #[(.pointer (some ⟨b_1, 0, none⟩)), (.pointer (some ⟨b_2, 0, none⟩)), (.agg #[(.int .i64 v2.fPin), (.int .i64 v2.fHammer)]), (.slice list3_a list3.length list3_c)] (by kernel_rfl) (by kernel_rfl) (fun w hm => spec_l06Acts.calls f0 w1 v2 list3 w _ f0_fHammers_a f0.fHammers.length f0_fHammers_c (hm.exRow f0_fHammers_h List.not_mem_nil) rfl w1_fPins_a w1.fPins.length w1_fPins_c (hm.exRow w1_fPins_h List.not_mem_nil) rfl w1_fStrokes_a w1.fStrokes.length w1_fStrokes_c (hm.exRow w1_fStrokes_h List.not_mem_nil) rfl list3_a list3.length list3_c (hm.exRow list3_h List.not_mem_nil) rfl b_1 b_2 (hm.pass (N := [⟨some b_1, 43, [(.int .i16 f0.fSteps), (.slice f0_fHammers_a f0.fHammers.length f0_fHammers_c)]⟩, ⟨some b_2, 38, [(.slice w1_fPins_a w1.fPins.length w1_fPins_c), (.slice w1_fStrokes_a w1.fStrokes.length w1_fStrokes_c)]⟩]) [0, 1] (by kernel_rfl) (by kernel_rfl)) (hm.exApart (N := [⟨some b_1, 43, [(.int .i16 f0.fSteps), (.slice f0_fHammers_a f0.fHammers.length f0_fHammers_c)]⟩, ⟨some b_2, 38, [(.slice w1_fPins_a w1.fPins.length w1_fPins_c), (.slice w1_fStrokes_a w1.fStrokes.length w1_fStrokes_c)]⟩]) f0_fHammers_h (fun _ => List.not_mem_nil) [0, 1] (by kernel_rfl)) (hm.exApart (N := [⟨some b_1, 43, [(.int .i16 f0.fSteps), (.slice f0_fHammers_a f0.fHammers.length f0_fHammers_c)]⟩, ⟨some b_2, 38, [(.slice w1_fPins_a w1.fPins.length w1_fPins_c), (.slice w1_fStrokes_a w1.fStrokes.length w1_fStrokes_c)]⟩]) w1_fPins_h (fun _ => List.not_mem_nil) [0, 1] (by kernel_rfl)) (hm.exApart (N := [⟨some b_1, 43, [(.int .i16 f0.fSteps), (.slice f0_fHammers_a f0.fHammers.length f0_fHammers_c)]⟩, ⟨some b_2, 38, [(.slice w1_fPins_a w1.fPins.length w1_fPins_c), (.slice w1_fStrokes_a w1.fStrokes.length w1_fStrokes_c)]⟩]) w1_fStrokes_h (fun _ => List.not_mem_nil) [0, 1] (by kernel_rfl)) (hm.exApart (N := [⟨some b_1, 43, [(.int .i16 f0.fSteps), (.slice f0_fHammers_a f0.fHammers.length f0_fHammers_c)]⟩, ⟨some b_2, 38, [(.slice w1_fPins_a w1.fPins.length w1_fPins_c), (.slice w1_fStrokes_a w1.fStrokes.length w1_fStrokes_c)]⟩]) list3_h (fun _ => List.not_mem_nil) [0, 1] (by kernel_rfl)) ht_7) ?_)
  rintro w v w' hm ⟨rfl, hm'⟩
  refine ⟨_, hm.appW (ps := [(0, ⟨some b_1, 43, [(.int .i16 f0.fSteps), (.slice f0_fHammers_a f0.fHammers.length f0_fHammers_c)]⟩), (1, ⟨some b_2, 38, [(.slice w1_fPins_a w1.fPins.length w1_fPins_c), (.slice w1_fStrokes_a w1.fStrokes.length w1_fStrokes_c)]⟩)]) (N := []) hm' (by kernel_rfl) (by kernel_rfl), jkO ?_⟩
  clear hm hm'
  refine jo_f [(0, 0)] (by kernel_rfl) ?_
  refine jo_end (by kernel_rfl) ?_
  refine jx_then ?_
  refine jc_seq ?_
  refine jc_region ?_
  refine jo_f [(0, 0), (0, 0)] (by kernel_rfl) ?_
  refine jo_end (by kernel_rfl) ?_
  refine jx_then ?_
  refine jc_cond (t_1 != 0) (by kernel_rfl) (fun hc_8 => ?_) (fun hc_8 => ?_)
  · replace h := ifT hc_8 h
    refine jc_seq ?_
    refine jc_region ?_
    refine jo_f [(0, 0), (0, 0)] (by kernel_rfl) ?_
    refine toO (by kernel_rfl) (p_s 0 [3] (by kernel_rfl) (by kernel_rfl) (jkO ?_))
    refine jo_f [(0, 0)] (by kernel_rfl) ?_
    refine jo_end (by kernel_rfl) ?_
    refine jx_then ?_
    refine jc_ret ?_
    refine jx_thenr ?_
    obtain rfl := Option.some.inj h
    refine jx_ghost 75 encGWornPin ?_
    refine jx_ghost 2 encI64 ?_
    exact jx_ret [3] (.tuple #[(.agg #[(.slice none 0 0), (.slice none 0 0)]), (.int .i64 t_1)]) [(b_4, b_4), (b_4, b_4)] rfl (by kernel_rfl) (by kernel_rfl) (fun w hm => ⟨none, 0, [], 0, rfl, (fun e => absurd rfl e), (fun _ => ⟨rfl, rfl⟩), none, 0, [], 0, rfl, (fun e => absurd rfl e), (fun _ => ⟨rfl, rfl⟩), rfl, hm.pick [4, 5] (by kernel_rfl) (by kernel_rfl)⟩)
  · replace h := ifF hc_8 h
    refine jc_skip ?_
    refine jx_then ?_
    refine jc_seq ?_
    refine jc_region ?_
    refine jo_f [(2, 0), (0, 0)] (by kernel_rfl) ?_
    obtain ⟨t_2, ht_9, h⟩ := bd h
    refine toO (by kernel_rfl) (p_call 0 42 #[(.pointer (some ⟨b_1, 0, none⟩)), (.pointer (some ⟨b_2, 0, none⟩)), (.agg #[(.int .i64 v2.fPin), (.int .i64 v2.fHammer)]), (.slice list3_a list3.length list3_c)] (by kernel_rfl) (by kernel_rfl) (fun w hm => spec_l06Done.calls f0 w1 v2 list3 w _ f0_fHammers_a f0.fHammers.length f0_fHammers_c (hm.exRow f0_fHammers_h List.not_mem_nil) rfl w1_fPins_a w1.fPins.length w1_fPins_c (hm.exRow w1_fPins_h List.not_mem_nil) rfl w1_fStrokes_a w1.fStrokes.length w1_fStrokes_c (hm.exRow w1_fStrokes_h List.not_mem_nil) rfl list3_a list3.length list3_c (hm.exRow list3_h List.not_mem_nil) rfl b_1 b_2 (hm.pass (N := [⟨some b_1, 43, [(.int .i16 f0.fSteps), (.slice f0_fHammers_a f0.fHammers.length f0_fHammers_c)]⟩, ⟨some b_2, 38, [(.slice w1_fPins_a w1.fPins.length w1_fPins_c), (.slice w1_fStrokes_a w1.fStrokes.length w1_fStrokes_c)]⟩]) [0, 1] (by kernel_rfl) (by kernel_rfl)) (hm.exApart (N := [⟨some b_1, 43, [(.int .i16 f0.fSteps), (.slice f0_fHammers_a f0.fHammers.length f0_fHammers_c)]⟩, ⟨some b_2, 38, [(.slice w1_fPins_a w1.fPins.length w1_fPins_c), (.slice w1_fStrokes_a w1.fStrokes.length w1_fStrokes_c)]⟩]) f0_fHammers_h (fun _ => List.not_mem_nil) [0, 1] (by kernel_rfl)) (hm.exApart (N := [⟨some b_1, 43, [(.int .i16 f0.fSteps), (.slice f0_fHammers_a f0.fHammers.length f0_fHammers_c)]⟩, ⟨some b_2, 38, [(.slice w1_fPins_a w1.fPins.length w1_fPins_c), (.slice w1_fStrokes_a w1.fStrokes.length w1_fStrokes_c)]⟩]) w1_fPins_h (fun _ => List.not_mem_nil) [0, 1] (by kernel_rfl)) (hm.exApart (N := [⟨some b_1, 43, [(.int .i16 f0.fSteps), (.slice f0_fHammers_a f0.fHammers.length f0_fHammers_c)]⟩, ⟨some b_2, 38, [(.slice w1_fPins_a w1.fPins.length w1_fPins_c), (.slice w1_fStrokes_a w1.fStrokes.length w1_fStrokes_c)]⟩]) w1_fStrokes_h (fun _ => List.not_mem_nil) [0, 1] (by kernel_rfl)) (hm.exApart (N := [⟨some b_1, 43, [(.int .i16 f0.fSteps), (.slice f0_fHammers_a f0.fHammers.length f0_fHammers_c)]⟩, ⟨some b_2, 38, [(.slice w1_fPins_a w1.fPins.length w1_fPins_c), (.slice w1_fStrokes_a w1.fStrokes.length w1_fStrokes_c)]⟩]) list3_h (fun _ => List.not_mem_nil) [0, 1] (by kernel_rfl)) ht_9) ?_)
    rintro w v w' hm ⟨o_10, cap_11, sp_12, _, rfl, hs_13, ho_14, o_15, cap_16, sp_17, _, rfl, hs_18, ho_19, rfl, hm'⟩
    refine ⟨_, hm.appW (ps := [(0, ⟨some b_1, 43, [(.int .i16 f0.fSteps), (.slice f0_fHammers_a f0.fHammers.length f0_fHammers_c)]⟩), (1, ⟨some b_2, 38, [(.slice w1_fPins_a w1.fPins.length w1_fPins_c), (.slice w1_fStrokes_a w1.fStrokes.length w1_fStrokes_c)]⟩)]) (N := [⟨o_10, 75, row encGWornPin t_2.1.fPins sp_12⟩, ⟨o_15, 2, row encI64 t_2.1.fStrokes sp_17⟩]) hm' (by kernel_rfl) (by kernel_rfl), jkO ?_⟩
    clear hm hm'
    refine jo_f [(0, 0), (0, 0), (0, 0), (0, 0)] (by kernel_rfl) ?_
    refine toO (by kernel_rfl) (p_a 0 [0] (by kernel_rfl) (fun b => by kernel_rfl) (fun b_20 => jkO ?_))
    refine toO (by kernel_rfl) (p_s 0 [6] (by kernel_rfl) (by kernel_rfl) (jkO ?_))
    refine jo_f [(0, 0), (0, 0)] (by kernel_rfl) ?_
    refine jo_end (by kernel_rfl) ?_
    refine jx_then ?_
    refine jc_seq ?_
    refine jc_region ?_
    refine jo_f [(6, 0), (0, 0)] (by kernel_rfl) ?_
    refine toO (by kernel_rfl) (p_s 0 [3] (by kernel_rfl) (by kernel_rfl) (jkO ?_))
    refine jo_f [(0, 0)] (by kernel_rfl) ?_
    refine jo_end (by kernel_rfl) ?_
    refine jx_then ?_
    refine jc_ret ?_
    obtain rfl := Option.some.inj h
    exact jx_ret [3] (.tuple #[(.agg #[(.slice (o_10.map fun b => ⟨b, 0, none⟩) t_2.1.fPins.length cap_11), (.slice (o_15.map fun b => ⟨b, 0, none⟩) t_2.1.fStrokes.length cap_16)]), (.int .i64 t_2.2.2)]) [(b_4, b_4), (b_4, b_4)] rfl (by kernel_rfl) (by kernel_rfl) (fun w hm => ⟨o_10, cap_11, sp_12, t_2.1.fPins.length, rfl, hs_13, ho_14, o_15, cap_16, sp_17, t_2.1.fStrokes.length, rfl, hs_18, ho_19, rfl, hm.pick [4, 5] (by kernel_rfl) (by kernel_rfl)⟩)

/-! ### impl.DoWearActs -/
noncomputable def impl_DoWearActs (f0 : GFrame) (w1 : GWear) (v2 : GLives) (list3 : List GAct) : Option (GWear × Int) := (impl_actsCode f0 w1 v2 list3).bind fun t_1 => (if (t_1 != 0) = true then some ((⟨[], []⟩ : GWear), t_1) else (impl_doActs f0 w1 v2 list3).bind fun t_2 => some (t_2.1, t_2.2.2))
set_option maxRecDepth 100000 in
theorem impl_DoWearActs.calls (f0 : GFrame) (w1 : GWear) (v2 : GLives) (list3 : List GAct) (w : World) (r : GWear × Int) (f0_fHammers_a : Option Addr) (f0_fHammers_an : Nat) (f0_fHammers_c : Nat) (f0_fHammers_h : Rw w f0_fHammers_a 2 encGHammer f0.fHammers) (f0_fHammers_hn : f0.fHammers.length = f0_fHammers_an) (w1_fPins_a : Option Addr) (w1_fPins_an : Nat) (w1_fPins_c : Nat) (w1_fPins_h : Rw w w1_fPins_a 3 encGWornPin w1.fPins) (w1_fPins_hn : w1.fPins.length = w1_fPins_an) (w1_fStrokes_a : Option Addr) (w1_fStrokes_an : Nat) (w1_fStrokes_c : Nat) (w1_fStrokes_h : Rw w w1_fStrokes_a 1 encI64 w1.fStrokes) (w1_fStrokes_hn : w1.fStrokes.length = w1_fStrokes_an) (list3_a : Option Addr) (list3_an : Nat) (list3_c : Nat) (list3_h : Rw w list3_a 5 encGAct list3) (list3_hn : list3.length = list3_an) (h : impl_DoWearActs f0 w1 v2 list3 = some r) :
    Calls Tryz.prog 14 #[(.agg #[(.int .i16 f0.fSteps), (.slice f0_fHammers_a f0_fHammers_an f0_fHammers_c)]), (.agg #[(.slice w1_fPins_a w1_fPins_an w1_fPins_c), (.slice w1_fStrokes_a w1_fStrokes_an w1_fStrokes_c)]), (.agg #[(.int .i64 v2.fPin), (.int .i64 v2.fHammer)]), (.slice list3_a list3_an list3_c)] w fun e w' => ∃ v, e = .returned v ∧ (∃ (o0 : Option Nat) (c0 : Nat) (s0 : List Value) (n0 : Nat), r.1.fPins.length = n0 ∧ (o0 ≠ none → n0 ≤ c0 ∧ s0.length = (c0 - n0) * 3) ∧ (o0 = none → r.1.fPins = [] ∧ c0 = 0) ∧ ∃ (o1 : Option Nat) (c1 : Nat) (s1 : List Value) (n1 : Nat), r.1.fStrokes.length = n1 ∧ (o1 ≠ none → n1 ≤ c1 ∧ s1.length = (c1 - n1) * 1) ∧ (o1 = none → r.1.fStrokes = [] ∧ c1 = 0) ∧ v = .tuple #[.agg #[.slice (o0.map fun b => ⟨b, 0, none⟩) n0 c0, .slice (o1.map fun b => ⟨b, 0, none⟩) n1 c1], (.int .i64 r.2)] ∧ Mem w [] [⟨o0, 75, row encGWornPin r.1.fPins s0⟩, ⟨o1, 2, row encI64 r.1.fStrokes s1⟩] w') := by
  subst f0_fHammers_hn w1_fPins_hn w1_fStrokes_hn list3_hn
  rw [impl_DoWearActs] at h
  refine enter (args := [(.agg #[(.int .i16 f0.fSteps), (.slice f0_fHammers_a f0.fHammers.length f0_fHammers_c)]), (.agg #[(.slice w1_fPins_a w1.fPins.length w1_fPins_c), (.slice w1_fStrokes_a w1.fStrokes.length w1_fStrokes_c)]), (.agg #[(.int .i64 v2.fPin), (.int .i64 v2.fHammer)]), (.slice list3_a list3.length list3_c)]) Tryz.func14 rfl Tryz.ntmps14 (by kernel_rfl) (L := []) (W := []) (Mem.start w) ?_
  refine jc_seq ?_
  refine jc_region ?_
  refine toO (by kernel_rfl) (p_a 0 [0] (by kernel_rfl) (fun b => by kernel_rfl) (fun b_1 => jkO ?_))
  refine toO (by kernel_rfl) (p_a 0 [0] (by kernel_rfl) (fun b => by kernel_rfl) (fun b_2 => jkO ?_))
  refine toO (by kernel_rfl) (p_a 0 [0] (by kernel_rfl) (fun b => by kernel_rfl) (fun b_3 => jkO ?_))
  refine toO (by kernel_rfl) (p_a 0 [0] (by kernel_rfl) (fun b => by kernel_rfl) (fun b_4 => jkO ?_))
  refine jo_f [(0, 0)] (by kernel_rfl) ?_
  refine jo_end (by kernel_rfl) ?_
  refine jx_then ?_
  refine jc_seq ?_
  refine jc_seq ?_
  refine jc_region ?_
  refine jo_f [(0, 0), (1, 0), (2, 0), (0, 0)] (by kernel_rfl) ?_
  obtain ⟨t_1, ht_7, h⟩ := bd h
  refine toO (by kernel_rfl) (p_call 0 47 #[(.agg #[(.int .i16 f0.fSteps), (.slice f0_fHammers_a f0.fHammers.length f0_fHammers_c)]), (.agg #[(.slice w1_fPins_a w1.fPins.length w1_fPins_c), (.slice w1_fStrokes_a w1.fStrokes.length w1_fStrokes_c)]), (.agg #[(.int .i64 v2.fPin), (.int .i64 v2.fHammer)]), (.slice list3_a list3.length list3_c)] (by kernel_rfl) (by kernel_rfl) (fun w hm => impl_actsCode.calls f0 w1 v2 list3 w _ f0_fHammers_a f0.fHammers.length f0_fHammers_c (hm.exRow f0_fHammers_h List.not_mem_nil) rfl w1_fPins_a w1.fPins.length w1_fPins_c (hm.exRow w1_fPins_h List.not_mem_nil) rfl w1_fStrokes_a w1.fStrokes.length w1_fStrokes_c (hm.exRow w1_fStrokes_h List.not_mem_nil) rfl list3_a list3.length list3_c (hm.exRow list3_h List.not_mem_nil) rfl ht_7) ?_)
  rintro w v w' hm ⟨rfl, hm'⟩
  refine ⟨_, hm.app hm', jkO ?_⟩
  clear hm hm'
  refine jo_f [(0, 0)] (by kernel_rfl) ?_
  refine jo_end (by kernel_rfl) ?_
  refine jx_then ?_
  refine jc_seq ?_
  refine jc_region ?_
  refine jo_f [(0, 0), (0, 0)] (by kernel_rfl) ?_
  refine jo_end (by kernel_rfl) ?_
  refine jx_then ?_
  refine jc_cond (t_1 != 0) (by kernel_rfl) (fun hc_8 => ?_) (fun hc_8 => ?_)
  · replace h := ifT hc_8 h
    refine jc_seq ?_
    refine jc_region ?_
    refine jo_f [(0, 0), (0, 0)] (by kernel_rfl) ?_
    refine toO (by kernel_rfl) (p_s 0 [3] (by kernel_rfl) (by kernel_rfl) (jkO ?_))
    refine jo_f [(0, 0)] (by kernel_rfl) ?_
    refine jo_end (by kernel_rfl) ?_
    refine jx_then ?_
    refine jc_ret ?_
    refine jx_thenr ?_
    obtain rfl := Option.some.inj h
    refine jx_ghost 75 encGWornPin ?_
    refine jx_ghost 2 encI64 ?_
    exact jx_ret [3] (.tuple #[(.agg #[(.slice none 0 0), (.slice none 0 0)]), (.int .i64 t_1)]) [(b_4, b_4), (b_4, b_4)] rfl (by kernel_rfl) (by kernel_rfl) (fun w hm => ⟨none, 0, [], 0, rfl, (fun e => absurd rfl e), (fun _ => ⟨rfl, rfl⟩), none, 0, [], 0, rfl, (fun e => absurd rfl e), (fun _ => ⟨rfl, rfl⟩), rfl, hm.pick [4, 5] (by kernel_rfl) (by kernel_rfl)⟩)
  · replace h := ifF hc_8 h
    refine jc_skip ?_
    refine jx_then ?_
    refine jc_seq ?_
    refine jc_region ?_
    refine jo_f [(0, 0), (1, 0), (2, 0), (0, 0)] (by kernel_rfl) ?_
    obtain ⟨t_2, ht_9, h⟩ := bd h
    refine toO (by kernel_rfl) (p_call 0 48 #[(.agg #[(.int .i16 f0.fSteps), (.slice f0_fHammers_a f0.fHammers.length f0_fHammers_c)]), (.agg #[(.slice w1_fPins_a w1.fPins.length w1_fPins_c), (.slice w1_fStrokes_a w1.fStrokes.length w1_fStrokes_c)]), (.agg #[(.int .i64 v2.fPin), (.int .i64 v2.fHammer)]), (.slice list3_a list3.length list3_c)] (by kernel_rfl) (by kernel_rfl) (fun w hm => impl_doActs.calls f0 w1 v2 list3 w _ f0_fHammers_a f0.fHammers.length f0_fHammers_c (hm.exRow f0_fHammers_h List.not_mem_nil) rfl w1_fPins_a w1.fPins.length w1_fPins_c (hm.exRow w1_fPins_h List.not_mem_nil) rfl w1_fStrokes_a w1.fStrokes.length w1_fStrokes_c (hm.exRow w1_fStrokes_h List.not_mem_nil) rfl list3_a list3.length list3_c (hm.exRow list3_h List.not_mem_nil) rfl ht_9) ?_)
    rintro w v w' hm ⟨o_10, cap_11, sp_12, _, rfl, hs_13, ho_14, o_15, cap_16, sp_17, _, rfl, hs_18, ho_19, rfl, hm'⟩
    refine ⟨_, hm.app hm', jkO ?_⟩
    clear hm hm'
    refine jo_f [(0, 0), (0, 0), (0, 0), (0, 0)] (by kernel_rfl) ?_
    refine toO (by kernel_rfl) (p_a 0 [0] (by kernel_rfl) (fun b => by kernel_rfl) (fun b_20 => jkO ?_))
    refine toO (by kernel_rfl) (p_s 0 [6] (by kernel_rfl) (by kernel_rfl) (jkO ?_))
    refine jo_f [(0, 0), (0, 0)] (by kernel_rfl) ?_
    refine jo_end (by kernel_rfl) ?_
    refine jx_then ?_
    refine jc_seq ?_
    refine jc_region ?_
    refine jo_f [(6, 0), (0, 0)] (by kernel_rfl) ?_
    refine toO (by kernel_rfl) (p_s 0 [3] (by kernel_rfl) (by kernel_rfl) (jkO ?_))
    refine jo_f [(0, 0)] (by kernel_rfl) ?_
    refine jo_end (by kernel_rfl) ?_
    refine jx_then ?_
    refine jc_ret ?_
    obtain rfl := Option.some.inj h
    exact jx_ret [3] (.tuple #[(.agg #[(.slice (o_10.map fun b => ⟨b, 0, none⟩) t_2.1.fPins.length cap_11), (.slice (o_15.map fun b => ⟨b, 0, none⟩) t_2.1.fStrokes.length cap_16)]), (.int .i64 t_2.2.2)]) [(b_4, b_4), (b_4, b_4)] rfl (by kernel_rfl) (by kernel_rfl) (fun w hm => ⟨o_10, cap_11, sp_12, t_2.1.fPins.length, rfl, hs_13, ho_14, o_15, cap_16, sp_17, t_2.1.fStrokes.length, rfl, hs_18, ho_19, rfl, hm.pick [4, 5] (by kernel_rfl) (by kernel_rfl)⟩)

/-! ### laws.markHammerS -/
noncomputable def laws_markHammerS.k_3 (xs_1 : List GHammer) (i_2 : Int) : Option (Int × (List GHammer)) := some (i_2, xs_1)
noncomputable def laws_markHammerS.l_7 (a0 : List GHammer) : ((List GHammer) × Int × Int) → Option (((List GHammer) × Int × Int) ⊕ (((List GHammer) × Int)))
  | (xs_4, i_5, i_6) => (if (decide (i_6 < (a0.length : Int))) = true then (ix xs_4 i_6).bind fun x_9 => (ix (xs_4.set i_6.toNat (⟨(w8 i_5), x_9.fReady⟩ : GHammer)) i_6).bind fun x_10 => some (.inl (((xs_4.set i_6.toNat (⟨(w8 i_5), x_9.fReady⟩ : GHammer)).set i_6.toNat (⟨x_10.fPitch, (w8 (w64 (i_5 + 1)))⟩ : GHammer)), (w64 ((w64 (i_5 + 1)) + 1)), (w64 (i_6 + 1)))) else some (.inr (xs_4, i_5)))
noncomputable def laws_markHammerS (a0 : List GHammer) (k1 : Int) : Option (Int × (List GHammer)) := (loop (laws_markHammerS.l_7 a0) (a0, k1, 0)).bind fun t_8 => laws_markHammerS.k_3 t_8.1 t_8.2
set_option maxRecDepth 100000 in
theorem laws_markHammerS.calls (a0 : List GHammer) (k1 : Int) (w : World) (r : Int × (List GHammer)) (a0_o : Option Nat) (a0_on : Nat) (a0_c : Nat) (a0_sp : List Value) (a0_hn : a0.length = a0_on) (a0_hs : a0_o ≠ none → a0_on ≤ a0_c ∧ a0_sp.length = (a0_c - a0_on) * 2) (a0_ho : a0_o = none → a0 = [] ∧ a0_c = 0) (hm0 : Mem w (bs [a0_o]) [⟨a0_o, 137, row encGHammer a0 a0_sp⟩] w) (h : laws_markHammerS a0 k1 = some r) :
    Calls Tryz.prog 53 #[(.slice (a0_o.map fun b => ⟨b, 0, none⟩) a0_on a0_c), (.int .i64 k1)] w fun e w' => ∃ v, e = .returned v ∧ (r.2.length = a0_on ∧ (a0_o = none → r.2 = [] ∧ a0_c = 0) ∧ v = (.int .i64 r.1) ∧ Mem w (bs [a0_o]) [⟨a0_o, 137, row encGHammer r.2 a0_sp⟩] w') := by
  subst a0_hn
  rw [laws_markHammerS] at h
  refine enter (args := [(.slice (a0_o.map fun b => ⟨b, 0, none⟩) a0.length a0_c), (.int .i64 k1)]) Tryz.func53 rfl Tryz.ntmps53 (by kernel_rfl) (L := [⟨a0_o, 137, row encGHammer a0 a0_sp⟩]) (W := bs [a0_o]) hm0 ?_
  refine jc_seq ?_
  refine jc_region ?_
  refine jo_f [(0, 0)] (by kernel_rfl) ?_
  refine jo_end (by kernel_rfl) ?_
  refine jx_then ?_
  refine jc_seq ?_
  refine jc_seq ?_
  refine jc_region ?_
  refine jo_f [(0, 0)] (by kernel_rfl) ?_
  refine jo_end (by kernel_rfl) ?_
  refine jx_then ?_
  refine jc_meet (fun (j : (List GHammer) × Int) => match j with | ⟨xs_1, i_2⟩ => laws_markHammerS.k_3 xs_1 i_2 = some r ∧ (xs_1.length = a0.length) ∧ ((a0_o = none → xs_1 = [] ∧ a0_c = 0))) (fun (j : (List GHammer) × Int) => match j with | ⟨xs_1, i_2⟩ => [(1, [], (.int .i64 i_2)), (4, [], (.int .i64 0))]) (fun (j : (List GHammer) × Int) => match j with | ⟨xs_1, i_2⟩ => [⟨a0_o, 137, row encGHammer xs_1 a0_sp⟩]) ?_ ?_
  · refine jc_block ?_
    obtain ⟨t_8, ht_84, hr_77⟩ := bd h
    refine jc_loop (fun (s : (List GHammer) × Int × Int) (x : Unit) => match s, x with | ⟨xs_4, i_5, i_6⟩, _ => (xs_4.length = a0.length) ∧ ((a0_o = none → xs_4 = [] ∧ a0_c = 0))) (fun (s : (List GHammer) × Int × Int) (x : Unit) => match s, x with | ⟨xs_4, i_5, i_6⟩, _ => [(0, [], (.slice (a0_o.map fun b => ⟨b, 0, none⟩) a0.length a0_c)), (1, [], (.int .i64 i_5)), (4, [], (.int .i64 0)), (5, [], (.int .i64 i_6))]) (fun (s : (List GHammer) × Int × Int) (x : Unit) => match s, x with | ⟨xs_4, i_5, i_6⟩, _ => [⟨a0_o, 137, row encGHammer xs_4 a0_sp⟩]) ht_84 () ⟨rfl, a0_ho⟩ (by kernel_rfl) [0] (by kernel_rfl) (by kernel_rfl) ?_
    rintro ⟨xs_4, i_5, i_6⟩ _ y_78 ⟨hn_76, ho_75⟩ h
    rw [laws_markHammerS.l_7] at h
    refine jc_seq ?_
    refine jc_seq ?_
    refine jc_region ?_
    refine jo_f [(0, 0), (0, 0), (0, 0), (0, 0)] (by kernel_rfl) ?_
    refine jo_end (by kernel_rfl) ?_
    refine jx_then ?_
    refine jc_cond (decide (i_6 < (a0.length : Int))) (by kernel_rfl) (fun hc_80 => ?_) (fun hc_80 => ?_)
    · replace h := ifT hc_80 h
      refine jc_skip ?_
      refine jx_then ?_
      refine jc_seq ?_
      refine jc_block ?_
      refine jc_seq ?_
      refine jc_region ?_
      refine jo_f [(0, 0), (0, 0), (0, 0), (0, 0)] (by kernel_rfl) ?_
      obtain ⟨x_9, hx_81, h⟩ := bd h
      refine toO (by kernel_rfl) (p_idx 0 (a0_o.map fun b => ⟨b, 0, none⟩) a0.length i_6 2 (by kernel_rfl) (by kernel_rfl) (ix_some hx_81).1 (ltn hx_81 hn_76) (spo ho_75 hx_81) (jkO ?_))
      refine jo_f [(0, 0)] (by kernel_rfl) ?_
      refine toO (by kernel_rfl) (p_strO 0 0 a0_o 137 encGHammer xs_4 a0_sp i_6 (⟨(w8 i_5), x_9.fReady⟩ : GHammer) 2 0 [(.int .i8 (w8 i_5))] (by kernel_rfl) (by kernel_rfl) (by kernel_rfl) (fun e => (ho_75 e).1) encGHammer_len hx_81 (by kernel_rfl) (by kernel_rfl) (jkO ?_))
      refine jo_end (by kernel_rfl) ?_
      refine jx_then ?_
      refine jc_seq ?_
      refine jc_region ?_
      refine jo_f [(0, 0), (0, 0), (0, 0)] (by kernel_rfl) ?_
      refine jo_end (by kernel_rfl) ?_
      refine jx_then ?_
      refine jc_seq ?_
      refine jc_region ?_
      refine jo_f [(0, 0), (0, 0), (0, 0), (0, 0)] (by kernel_rfl) ?_
      obtain ⟨x_10, hx_82, h⟩ := bd h
      refine toO (by kernel_rfl) (p_idx 0 (a0_o.map fun b => ⟨b, 0, none⟩) a0.length i_6 2 (by kernel_rfl) (by kernel_rfl) (ix_some hx_82).1 (ltn hx_82 (List.length_set.trans hn_76)) (spo (set_ho ho_75) hx_82) (jkO ?_))
      refine jo_f [(0, 0)] (by kernel_rfl) ?_
      refine toO (by kernel_rfl) (p_strO 0 0 a0_o 137 encGHammer (xs_4.set i_6.toNat (⟨(w8 i_5), x_9.fReady⟩ : GHammer)) a0_sp i_6 (⟨x_10.fPitch, (w8 (w64 (i_5 + 1)))⟩ : GHammer) 2 1 [(.int .i8 (w8 (w64 (i_5 + 1))))] (by kernel_rfl) (by kernel_rfl) (by kernel_rfl) (fun e => ((set_ho ho_75) e).1) encGHammer_len hx_82 (by kernel_rfl) (by kernel_rfl) (jkO ?_))
      refine jo_end (by kernel_rfl) ?_
      refine jx_then ?_
      refine jc_region ?_
      refine jo_f [(0, 0), (0, 0), (0, 0)] (by kernel_rfl) ?_
      refine jo_end (by kernel_rfl) ?_
      refine jx_inn ?_
      refine jx_then ?_
      refine jc_region ?_
      refine jo_f [(0, 0), (0, 0), (0, 0)] (by kernel_rfl) ?_
      refine jo_end (by kernel_rfl) ?_
      exact jx_back (((xs_4.set i_6.toNat (⟨(w8 i_5), x_9.fReady⟩ : GHammer)).set i_6.toNat (⟨x_10.fPitch, (w8 (w64 (i_5 + 1)))⟩ : GHammer)), (w64 ((w64 (i_5 + 1)) + 1)), (w64 (i_6 + 1))) () (Option.some.inj h).symm ⟨(List.length_set.trans (List.length_set.trans hn_76)), (set_ho (set_ho ho_75))⟩ [0] (by kernel_rfl) (by kernel_rfl) (by kernel_rfl)
    · replace h := ifF hc_80 h
      refine jc_exit ?_
      refine jx_thenx ?_
      refine jx_leave (xs_4, i_5) (Option.some.inj h).symm (fun e_83 => ?_)
      subst e_83
      refine jx_ine ?_
      exact jx_meet ⟨xs_4, i_5⟩ ⟨hr_77, hn_76, ho_75⟩ (by kernel_rfl) [0] (by kernel_rfl) (by kernel_rfl)
  · rintro ⟨xs_1, i_2⟩ ⟨h, hn_64, ho_63⟩
    replace h : laws_markHammerS.k_3 xs_1 i_2 = some r := h
    rw [laws_markHammerS.k_3] at h
    refine jx_then ?_
    refine jc_seq ?_
    refine jc_region ?_
    refine jo_f [(0, 0), (0, 0)] (by kernel_rfl) ?_
    refine jo_end (by kernel_rfl) ?_
    refine jx_then ?_
    refine jc_ret ?_
    obtain rfl := Option.some.inj h
    exact jx_ret [] (.int .i64 i_2) [] rfl (by kernel_rfl) (by kernel_rfl) (fun w hm => ⟨hn_64, ho_63, rfl, hm.pick [0] (by kernel_rfl) (by kernel_rfl)⟩)

/-! ### laws.markFrame -/
noncomputable def laws_markFrame (a0 : GFrame) (k1 : Int) : Option (Int × (List GHammer)) := (laws_markHammerS a0.fHammers k1).bind fun t_1 => some (t_1.1, t_1.2)
set_option maxRecDepth 100000 in
theorem laws_markFrame.calls (a0 : GFrame) (k1 : Int) (w : World) (r : Int × (List GHammer)) (a0_fHammers_o : Option Nat) (a0_fHammers_on : Nat) (a0_fHammers_c : Nat) (a0_fHammers_sp : List Value) (a0_fHammers_hn : a0.fHammers.length = a0_fHammers_on) (a0_fHammers_hs : a0_fHammers_o ≠ none → a0_fHammers_on ≤ a0_fHammers_c ∧ a0_fHammers_sp.length = (a0_fHammers_c - a0_fHammers_on) * 2) (a0_fHammers_ho : a0_fHammers_o = none → a0.fHammers = [] ∧ a0_fHammers_c = 0) (hm0 : Mem w (bs [a0_fHammers_o]) [⟨a0_fHammers_o, 137, row encGHammer a0.fHammers a0_fHammers_sp⟩] w) (h : laws_markFrame a0 k1 = some r) :
    Calls Tryz.prog 18 #[(.agg #[(.int .i16 a0.fSteps), (.slice (a0_fHammers_o.map fun b => ⟨b, 0, none⟩) a0_fHammers_on a0_fHammers_c)]), (.int .i64 k1)] w fun e w' => ∃ v, e = .returned v ∧ (r.2.length = a0_fHammers_on ∧ (a0_fHammers_o = none → r.2 = [] ∧ a0_fHammers_c = 0) ∧ v = (.int .i64 r.1) ∧ Mem w (bs [a0_fHammers_o]) [⟨a0_fHammers_o, 137, row encGHammer r.2 a0_fHammers_sp⟩] w') := by
  subst a0_fHammers_hn
  rw [laws_markFrame] at h
  refine enter (args := [(.agg #[(.int .i16 a0.fSteps), (.slice (a0_fHammers_o.map fun b => ⟨b, 0, none⟩) a0.fHammers.length a0_fHammers_c)]), (.int .i64 k1)]) Tryz.func18 rfl Tryz.ntmps18 (by kernel_rfl) (L := [⟨a0_fHammers_o, 137, row encGHammer a0.fHammers a0_fHammers_sp⟩]) (W := bs [a0_fHammers_o]) hm0 ?_
  refine jc_seq ?_
  refine jc_region ?_
  refine toO (by kernel_rfl) (p_a 0 [0] (by kernel_rfl) (fun b => by kernel_rfl) (fun b_1 => jkO ?_))
  refine jo_f [(0, 0)] (by kernel_rfl) ?_
  refine jo_end (by kernel_rfl) ?_
  refine jx_then ?_
  refine jc_seq ?_
  refine jc_region ?_
  refine jo_f [(0, 0), (1, 0), (0, 0)] (by kernel_rfl) ?_
  obtain ⟨t_1, ht_2, h⟩ := bd h
  refine toO (by kernel_rfl) (p_call 0 53 #[(.slice (a0_fHammers_o.map fun b => ⟨b, 0, none⟩) a0.fHammers.length a0_fHammers_c), (.int .i64 k1)] (by kernel_rfl) (by kernel_rfl) (fun w hm => laws_markHammerS.calls a0.fHammers k1 w _ a0_fHammers_o a0.fHammers.length a0_fHammers_c a0_fHammers_sp rfl a0_fHammers_hs a0_fHammers_ho (hm.pass (N := [⟨a0_fHammers_o, 137, row encGHammer a0.fHammers a0_fHammers_sp⟩]) [0] (by kernel_rfl) (by kernel_rfl)) ht_2) ?_)
  rintro w v w' hm ⟨hn_3, ho_4, rfl, hm'⟩
  refine ⟨_, hm.appW (ps := [(0, ⟨a0_fHammers_o, 137, row encGHammer t_1.2 a0_fHammers_sp⟩)]) (N := []) hm' (by kernel_rfl) (by kernel_rfl), jkO ?_⟩
  clear hm hm'
  refine jo_f [(0, 0)] (by kernel_rfl) ?_
  refine jo_end (by kernel_rfl) ?_
  refine jx_then ?_
  refine jc_seq ?_
  refine jc_region ?_
  refine jo_f [(0, 0), (0, 0)] (by kernel_rfl) ?_
  refine jo_end (by kernel_rfl) ?_
  refine jx_then ?_
  refine jc_ret ?_
  obtain rfl := Option.some.inj h
  exact jx_ret [] (.int .i64 t_1.1) [] rfl (by kernel_rfl) (by kernel_rfl) (fun w hm => ⟨hn_3, ho_4, rfl, hm.pick [0] (by kernel_rfl) (by kernel_rfl)⟩)

/-! ### laws.markWornPinS -/
noncomputable def laws_markWornPinS.k_3 (xs_1 : List GWornPin) (i_2 : Int) : Option (Int × (List GWornPin)) := some (i_2, xs_1)
noncomputable def laws_markWornPinS.l_7 (a0 : List GWornPin) : ((List GWornPin) × Int × Int) → Option (((List GWornPin) × Int × Int) ⊕ (((List GWornPin) × Int)))
  | (xs_4, i_5, i_6) => (if (decide (i_6 < (a0.length : Int))) = true then (ix xs_4 i_6).bind fun x_9 => (ix (xs_4.set i_6.toNat (⟨(w8 i_5), x_9.fTrack, x_9.fTurns⟩ : GWornPin)) i_6).bind fun x_10 => (ix ((xs_4.set i_6.toNat (⟨(w8 i_5), x_9.fTrack, x_9.fTurns⟩ : GWornPin)).set i_6.toNat (⟨x_10.fStep, (w8 (w64 (i_5 + 1))), x_10.fTurns⟩ : GWornPin)) i_6).bind fun x_11 => some (.inl ((((xs_4.set i_6.toNat (⟨(w8 i_5), x_9.fTrack, x_9.fTurns⟩ : GWornPin)).set i_6.toNat (⟨x_10.fStep, (w8 (w64 (i_5 + 1))), x_10.fTurns⟩ : GWornPin)).set i_6.toNat (⟨x_11.fStep, x_11.fTrack, (w64 ((w64 (i_5 + 1)) + 1))⟩ : GWornPin)), (w64 ((w64 ((w64 (i_5 + 1)) + 1)) + 1)), (w64 (i_6 + 1)))) else some (.inr (xs_4, i_5)))
noncomputable def laws_markWornPinS (a0 : List GWornPin) (k1 : Int) : Option (Int × (List GWornPin)) := (loop (laws_markWornPinS.l_7 a0) (a0, k1, 0)).bind fun t_8 => laws_markWornPinS.k_3 t_8.1 t_8.2
set_option maxRecDepth 100000 in
theorem laws_markWornPinS.calls (a0 : List GWornPin) (k1 : Int) (w : World) (r : Int × (List GWornPin)) (a0_o : Option Nat) (a0_on : Nat) (a0_c : Nat) (a0_sp : List Value) (a0_hn : a0.length = a0_on) (a0_hs : a0_o ≠ none → a0_on ≤ a0_c ∧ a0_sp.length = (a0_c - a0_on) * 3) (a0_ho : a0_o = none → a0 = [] ∧ a0_c = 0) (hm0 : Mem w (bs [a0_o]) [⟨a0_o, 75, row encGWornPin a0 a0_sp⟩] w) (h : laws_markWornPinS a0 k1 = some r) :
    Calls Tryz.prog 54 #[(.slice (a0_o.map fun b => ⟨b, 0, none⟩) a0_on a0_c), (.int .i64 k1)] w fun e w' => ∃ v, e = .returned v ∧ (r.2.length = a0_on ∧ (a0_o = none → r.2 = [] ∧ a0_c = 0) ∧ v = (.int .i64 r.1) ∧ Mem w (bs [a0_o]) [⟨a0_o, 75, row encGWornPin r.2 a0_sp⟩] w') := by
  subst a0_hn
  rw [laws_markWornPinS] at h
  refine enter (args := [(.slice (a0_o.map fun b => ⟨b, 0, none⟩) a0.length a0_c), (.int .i64 k1)]) Tryz.func54 rfl Tryz.ntmps54 (by kernel_rfl) (L := [⟨a0_o, 75, row encGWornPin a0 a0_sp⟩]) (W := bs [a0_o]) hm0 ?_
  refine jc_seq ?_
  refine jc_region ?_
  refine jo_f [(0, 0)] (by kernel_rfl) ?_
  refine jo_end (by kernel_rfl) ?_
  refine jx_then ?_
  refine jc_seq ?_
  refine jc_seq ?_
  refine jc_region ?_
  refine jo_f [(0, 0)] (by kernel_rfl) ?_
  refine jo_end (by kernel_rfl) ?_
  refine jx_then ?_
  refine jc_meet (fun (j : (List GWornPin) × Int) => match j with | ⟨xs_1, i_2⟩ => laws_markWornPinS.k_3 xs_1 i_2 = some r ∧ (xs_1.length = a0.length) ∧ ((a0_o = none → xs_1 = [] ∧ a0_c = 0))) (fun (j : (List GWornPin) × Int) => match j with | ⟨xs_1, i_2⟩ => [(1, [], (.int .i64 i_2)), (4, [], (.int .i64 0))]) (fun (j : (List GWornPin) × Int) => match j with | ⟨xs_1, i_2⟩ => [⟨a0_o, 75, row encGWornPin xs_1 a0_sp⟩]) ?_ ?_
  · refine jc_block ?_
    obtain ⟨t_8, ht_96, hr_88⟩ := bd h
    refine jc_loop (fun (s : (List GWornPin) × Int × Int) (x : Unit) => match s, x with | ⟨xs_4, i_5, i_6⟩, _ => (xs_4.length = a0.length) ∧ ((a0_o = none → xs_4 = [] ∧ a0_c = 0))) (fun (s : (List GWornPin) × Int × Int) (x : Unit) => match s, x with | ⟨xs_4, i_5, i_6⟩, _ => [(0, [], (.slice (a0_o.map fun b => ⟨b, 0, none⟩) a0.length a0_c)), (1, [], (.int .i64 i_5)), (4, [], (.int .i64 0)), (5, [], (.int .i64 i_6))]) (fun (s : (List GWornPin) × Int × Int) (x : Unit) => match s, x with | ⟨xs_4, i_5, i_6⟩, _ => [⟨a0_o, 75, row encGWornPin xs_4 a0_sp⟩]) ht_96 () ⟨rfl, a0_ho⟩ (by kernel_rfl) [0] (by kernel_rfl) (by kernel_rfl) ?_
    rintro ⟨xs_4, i_5, i_6⟩ _ y_89 ⟨hn_87, ho_86⟩ h
    rw [laws_markWornPinS.l_7] at h
    refine jc_seq ?_
    refine jc_seq ?_
    refine jc_region ?_
    refine jo_f [(0, 0), (0, 0), (0, 0), (0, 0)] (by kernel_rfl) ?_
    refine jo_end (by kernel_rfl) ?_
    refine jx_then ?_
    refine jc_cond (decide (i_6 < (a0.length : Int))) (by kernel_rfl) (fun hc_91 => ?_) (fun hc_91 => ?_)
    · replace h := ifT hc_91 h
      refine jc_skip ?_
      refine jx_then ?_
      refine jc_seq ?_
      refine jc_block ?_
      refine jc_seq ?_
      refine jc_region ?_
      refine jo_f [(0, 0), (0, 0), (0, 0), (0, 0)] (by kernel_rfl) ?_
      obtain ⟨x_9, hx_92, h⟩ := bd h
      refine toO (by kernel_rfl) (p_idx 0 (a0_o.map fun b => ⟨b, 0, none⟩) a0.length i_6 3 (by kernel_rfl) (by kernel_rfl) (ix_some hx_92).1 (ltn hx_92 hn_87) (spo ho_86 hx_92) (jkO ?_))
      refine jo_f [(0, 0)] (by kernel_rfl) ?_
      refine toO (by kernel_rfl) (p_strO 0 0 a0_o 75 encGWornPin xs_4 a0_sp i_6 (⟨(w8 i_5), x_9.fTrack, x_9.fTurns⟩ : GWornPin) 3 0 [(.int .i8 (w8 i_5))] (by kernel_rfl) (by kernel_rfl) (by kernel_rfl) (fun e => (ho_86 e).1) encGWornPin_len hx_92 (by kernel_rfl) (by kernel_rfl) (jkO ?_))
      refine jo_end (by kernel_rfl) ?_
      refine jx_then ?_
      refine jc_seq ?_
      refine jc_region ?_
      refine jo_f [(0, 0), (0, 0), (0, 0)] (by kernel_rfl) ?_
      refine jo_end (by kernel_rfl) ?_
      refine jx_then ?_
      refine jc_seq ?_
      refine jc_region ?_
      refine jo_f [(0, 0), (0, 0), (0, 0), (0, 0)] (by kernel_rfl) ?_
      obtain ⟨x_10, hx_93, h⟩ := bd h
      refine toO (by kernel_rfl) (p_idx 0 (a0_o.map fun b => ⟨b, 0, none⟩) a0.length i_6 3 (by kernel_rfl) (by kernel_rfl) (ix_some hx_93).1 (ltn hx_93 (List.length_set.trans hn_87)) (spo (set_ho ho_86) hx_93) (jkO ?_))
      refine jo_f [(0, 0)] (by kernel_rfl) ?_
      refine toO (by kernel_rfl) (p_strO 0 0 a0_o 75 encGWornPin (xs_4.set i_6.toNat (⟨(w8 i_5), x_9.fTrack, x_9.fTurns⟩ : GWornPin)) a0_sp i_6 (⟨x_10.fStep, (w8 (w64 (i_5 + 1))), x_10.fTurns⟩ : GWornPin) 3 1 [(.int .i8 (w8 (w64 (i_5 + 1))))] (by kernel_rfl) (by kernel_rfl) (by kernel_rfl) (fun e => ((set_ho ho_86) e).1) encGWornPin_len hx_93 (by kernel_rfl) (by kernel_rfl) (jkO ?_))
      refine jo_end (by kernel_rfl) ?_
      refine jx_then ?_
      refine jc_seq ?_
      refine jc_region ?_
      refine jo_f [(0, 0), (0, 0), (0, 0)] (by kernel_rfl) ?_
      refine jo_end (by kernel_rfl) ?_
      refine jx_then ?_
      refine jc_seq ?_
      refine jc_region ?_
      refine jo_f [(0, 0), (0, 0), (0, 0)] (by kernel_rfl) ?_
      obtain ⟨x_11, hx_94, h⟩ := bd h
      refine toO (by kernel_rfl) (p_idx 0 (a0_o.map fun b => ⟨b, 0, none⟩) a0.length i_6 3 (by kernel_rfl) (by kernel_rfl) (ix_some hx_94).1 (ltn hx_94 (List.length_set.trans (List.length_set.trans hn_87))) (spo (set_ho (set_ho ho_86)) hx_94) (jkO ?_))
      refine jo_f [(0, 0)] (by kernel_rfl) ?_
      refine toO (by kernel_rfl) (p_strO 0 0 a0_o 75 encGWornPin ((xs_4.set i_6.toNat (⟨(w8 i_5), x_9.fTrack, x_9.fTurns⟩ : GWornPin)).set i_6.toNat (⟨x_10.fStep, (w8 (w64 (i_5 + 1))), x_10.fTurns⟩ : GWornPin)) a0_sp i_6 (⟨x_11.fStep, x_11.fTrack, (w64 ((w64 (i_5 + 1)) + 1))⟩ : GWornPin) 3 2 [(.int .i64 (w64 ((w64 (i_5 + 1)) + 1)))] (by kernel_rfl) (by kernel_rfl) (by kernel_rfl) (fun e => ((set_ho (set_ho ho_86)) e).1) encGWornPin_len hx_94 (by kernel_rfl) (by kernel_rfl) (jkO ?_))
      refine jo_end (by kernel_rfl) ?_
      refine jx_then ?_
      refine jc_region ?_
      refine jo_f [(0, 0), (0, 0), (0, 0)] (by kernel_rfl) ?_
      refine jo_end (by kernel_rfl) ?_
      refine jx_inn ?_
      refine jx_then ?_
      refine jc_region ?_
      refine jo_f [(0, 0), (0, 0), (0, 0)] (by kernel_rfl) ?_
      refine jo_end (by kernel_rfl) ?_
      exact jx_back ((((xs_4.set i_6.toNat (⟨(w8 i_5), x_9.fTrack, x_9.fTurns⟩ : GWornPin)).set i_6.toNat (⟨x_10.fStep, (w8 (w64 (i_5 + 1))), x_10.fTurns⟩ : GWornPin)).set i_6.toNat (⟨x_11.fStep, x_11.fTrack, (w64 ((w64 (i_5 + 1)) + 1))⟩ : GWornPin)), (w64 ((w64 ((w64 (i_5 + 1)) + 1)) + 1)), (w64 (i_6 + 1))) () (Option.some.inj h).symm ⟨(List.length_set.trans (List.length_set.trans (List.length_set.trans hn_87))), (set_ho (set_ho (set_ho ho_86)))⟩ [0] (by kernel_rfl) (by kernel_rfl) (by kernel_rfl)
    · replace h := ifF hc_91 h
      refine jc_exit ?_
      refine jx_thenx ?_
      refine jx_leave (xs_4, i_5) (Option.some.inj h).symm (fun e_95 => ?_)
      subst e_95
      refine jx_ine ?_
      exact jx_meet ⟨xs_4, i_5⟩ ⟨hr_88, hn_87, ho_86⟩ (by kernel_rfl) [0] (by kernel_rfl) (by kernel_rfl)
  · rintro ⟨xs_1, i_2⟩ ⟨h, hn_73, ho_72⟩
    replace h : laws_markWornPinS.k_3 xs_1 i_2 = some r := h
    rw [laws_markWornPinS.k_3] at h
    refine jx_then ?_
    refine jc_seq ?_
    refine jc_region ?_
    refine jo_f [(0, 0), (0, 0)] (by kernel_rfl) ?_
    refine jo_end (by kernel_rfl) ?_
    refine jx_then ?_
    refine jc_ret ?_
    obtain rfl := Option.some.inj h
    exact jx_ret [] (.int .i64 i_2) [] rfl (by kernel_rfl) (by kernel_rfl) (fun w hm => ⟨hn_73, ho_72, rfl, hm.pick [0] (by kernel_rfl) (by kernel_rfl)⟩)

/-! ### laws.markInt64S -/
noncomputable def laws_markInt64S.k_3 (xs_1 : List Int) (i_2 : Int) : Option (Int × (List Int)) := some (i_2, xs_1)
noncomputable def laws_markInt64S.l_7 (a0 : List Int) : ((List Int) × Int × Int) → Option (((List Int) × Int × Int) ⊕ (((List Int) × Int)))
  | (xs_4, i_5, i_6) => (if (decide (i_6 < (a0.length : Int))) = true then (ix xs_4 i_6).bind fun x_9 => some (.inl ((xs_4.set i_6.toNat i_5), (w64 (i_5 + 1)), (w64 (i_6 + 1)))) else some (.inr (xs_4, i_5)))
noncomputable def laws_markInt64S (a0 : List Int) (k1 : Int) : Option (Int × (List Int)) := (loop (laws_markInt64S.l_7 a0) (a0, k1, 0)).bind fun t_8 => laws_markInt64S.k_3 t_8.1 t_8.2
set_option maxRecDepth 100000 in
theorem laws_markInt64S.calls (a0 : List Int) (k1 : Int) (w : World) (r : Int × (List Int)) (a0_o : Option Nat) (a0_on : Nat) (a0_c : Nat) (a0_sp : List Value) (a0_hn : a0.length = a0_on) (a0_hs : a0_o ≠ none → a0_on ≤ a0_c ∧ a0_sp.length = (a0_c - a0_on) * 1) (a0_ho : a0_o = none → a0 = [] ∧ a0_c = 0) (hm0 : Mem w (bs [a0_o]) [⟨a0_o, 2, row encI64 a0 a0_sp⟩] w) (h : laws_markInt64S a0 k1 = some r) :
    Calls Tryz.prog 55 #[(.slice (a0_o.map fun b => ⟨b, 0, none⟩) a0_on a0_c), (.int .i64 k1)] w fun e w' => ∃ v, e = .returned v ∧ (r.2.length = a0_on ∧ (a0_o = none → r.2 = [] ∧ a0_c = 0) ∧ v = (.int .i64 r.1) ∧ Mem w (bs [a0_o]) [⟨a0_o, 2, row encI64 r.2 a0_sp⟩] w') := by
  subst a0_hn
  rw [laws_markInt64S] at h
  refine enter (args := [(.slice (a0_o.map fun b => ⟨b, 0, none⟩) a0.length a0_c), (.int .i64 k1)]) Tryz.func55 rfl Tryz.ntmps55 (by kernel_rfl) (L := [⟨a0_o, 2, row encI64 a0 a0_sp⟩]) (W := bs [a0_o]) hm0 ?_
  refine jc_seq ?_
  refine jc_region ?_
  refine jo_f [(0, 0)] (by kernel_rfl) ?_
  refine jo_end (by kernel_rfl) ?_
  refine jx_then ?_
  refine jc_seq ?_
  refine jc_seq ?_
  refine jc_region ?_
  refine jo_f [(0, 0)] (by kernel_rfl) ?_
  refine jo_end (by kernel_rfl) ?_
  refine jx_then ?_
  refine jc_meet (fun (j : (List Int) × Int) => match j with | ⟨xs_1, i_2⟩ => laws_markInt64S.k_3 xs_1 i_2 = some r ∧ (xs_1.length = a0.length) ∧ ((a0_o = none → xs_1 = [] ∧ a0_c = 0))) (fun (j : (List Int) × Int) => match j with | ⟨xs_1, i_2⟩ => [(1, [], (.int .i64 i_2)), (4, [], (.int .i64 0))]) (fun (j : (List Int) × Int) => match j with | ⟨xs_1, i_2⟩ => [⟨a0_o, 2, row encI64 xs_1 a0_sp⟩]) ?_ ?_
  · refine jc_block ?_
    obtain ⟨t_8, ht_72, hr_66⟩ := bd h
    refine jc_loop (fun (s : (List Int) × Int × Int) (x : Unit) => match s, x with | ⟨xs_4, i_5, i_6⟩, _ => (xs_4.length = a0.length) ∧ ((a0_o = none → xs_4 = [] ∧ a0_c = 0))) (fun (s : (List Int) × Int × Int) (x : Unit) => match s, x with | ⟨xs_4, i_5, i_6⟩, _ => [(0, [], (.slice (a0_o.map fun b => ⟨b, 0, none⟩) a0.length a0_c)), (1, [], (.int .i64 i_5)), (4, [], (.int .i64 0)), (5, [], (.int .i64 i_6))]) (fun (s : (List Int) × Int × Int) (x : Unit) => match s, x with | ⟨xs_4, i_5, i_6⟩, _ => [⟨a0_o, 2, row encI64 xs_4 a0_sp⟩]) ht_72 () ⟨rfl, a0_ho⟩ (by kernel_rfl) [0] (by kernel_rfl) (by kernel_rfl) ?_
    rintro ⟨xs_4, i_5, i_6⟩ _ y_67 ⟨hn_65, ho_64⟩ h
    rw [laws_markInt64S.l_7] at h
    refine jc_seq ?_
    refine jc_seq ?_
    refine jc_region ?_
    refine jo_f [(0, 0), (0, 0), (0, 0), (0, 0)] (by kernel_rfl) ?_
    refine jo_end (by kernel_rfl) ?_
    refine jx_then ?_
    refine jc_cond (decide (i_6 < (a0.length : Int))) (by kernel_rfl) (fun hc_69 => ?_) (fun hc_69 => ?_)
    · replace h := ifT hc_69 h
      refine jc_skip ?_
      refine jx_then ?_
      refine jc_seq ?_
      refine jc_block ?_
      refine jc_seq ?_
      refine jc_region ?_
      refine jo_f [(0, 0), (0, 0), (0, 0)] (by kernel_rfl) ?_
      obtain ⟨x_9, hx_70, h⟩ := bd h
      refine toO (by kernel_rfl) (p_idx 0 (a0_o.map fun b => ⟨b, 0, none⟩) a0.length i_6 1 (by kernel_rfl) (by kernel_rfl) (ix_some hx_70).1 (ltn hx_70 hn_65) (spo ho_64 hx_70) (jkO ?_))
      refine toO (by kernel_rfl) (p_strO 0 0 a0_o 2 encI64 xs_4 a0_sp i_6 i_5 1 0 [(.int .i64 i_5)] (by kernel_rfl) (by kernel_rfl) (by kernel_rfl) (fun e => (ho_64 e).1) encI64_len hx_70 (by kernel_rfl) (by kernel_rfl) (jkO ?_))
      refine jo_end (by kernel_rfl) ?_
      refine jx_then ?_
      refine jc_region ?_
      refine jo_f [(0, 0), (0, 0), (0, 0)] (by kernel_rfl) ?_
      refine jo_end (by kernel_rfl) ?_
      refine jx_inn ?_
      refine jx_then ?_
      refine jc_region ?_
      refine jo_f [(0, 0), (0, 0), (0, 0)] (by kernel_rfl) ?_
      refine jo_end (by kernel_rfl) ?_
      exact jx_back ((xs_4.set i_6.toNat i_5), (w64 (i_5 + 1)), (w64 (i_6 + 1))) () (Option.some.inj h).symm ⟨(List.length_set.trans hn_65), (set_ho ho_64)⟩ [0] (by kernel_rfl) (by kernel_rfl) (by kernel_rfl)
    · replace h := ifF hc_69 h
      refine jc_exit ?_
      refine jx_thenx ?_
      refine jx_leave (xs_4, i_5) (Option.some.inj h).symm (fun e_71 => ?_)
      subst e_71
      refine jx_ine ?_
      exact jx_meet ⟨xs_4, i_5⟩ ⟨hr_66, hn_65, ho_64⟩ (by kernel_rfl) [0] (by kernel_rfl) (by kernel_rfl)
  · rintro ⟨xs_1, i_2⟩ ⟨h, hn_55, ho_54⟩
    replace h : laws_markInt64S.k_3 xs_1 i_2 = some r := h
    rw [laws_markInt64S.k_3] at h
    refine jx_then ?_
    refine jc_seq ?_
    refine jc_region ?_
    refine jo_f [(0, 0), (0, 0)] (by kernel_rfl) ?_
    refine jo_end (by kernel_rfl) ?_
    refine jx_then ?_
    refine jc_ret ?_
    obtain rfl := Option.some.inj h
    exact jx_ret [] (.int .i64 i_2) [] rfl (by kernel_rfl) (by kernel_rfl) (fun w hm => ⟨hn_55, ho_54, rfl, hm.pick [0] (by kernel_rfl) (by kernel_rfl)⟩)

/-! ### laws.markWear -/
noncomputable def laws_markWear (a0 : GWear) (k1 : Int) : Option (Int × (List GWornPin) × (List Int)) := (laws_markWornPinS a0.fPins k1).bind fun t_1 => (laws_markInt64S a0.fStrokes t_1.1).bind fun t_2 => some (t_2.1, t_1.2, t_2.2)
set_option maxRecDepth 100000 in
theorem laws_markWear.calls (a0 : GWear) (k1 : Int) (w : World) (r : Int × (List GWornPin) × (List Int)) (a0_fPins_o : Option Nat) (a0_fPins_on : Nat) (a0_fPins_c : Nat) (a0_fPins_sp : List Value) (a0_fPins_hn : a0.fPins.length = a0_fPins_on) (a0_fPins_hs : a0_fPins_o ≠ none → a0_fPins_on ≤ a0_fPins_c ∧ a0_fPins_sp.length = (a0_fPins_c - a0_fPins_on) * 3) (a0_fPins_ho : a0_fPins_o = none → a0.fPins = [] ∧ a0_fPins_c = 0) (a0_fStrokes_o : Option Nat) (a0_fStrokes_on : Nat) (a0_fStrokes_c : Nat) (a0_fStrokes_sp : List Value) (a0_fStrokes_hn : a0.fStrokes.length = a0_fStrokes_on) (a0_fStrokes_hs : a0_fStrokes_o ≠ none → a0_fStrokes_on ≤ a0_fStrokes_c ∧ a0_fStrokes_sp.length = (a0_fStrokes_c - a0_fStrokes_on) * 1) (a0_fStrokes_ho : a0_fStrokes_o = none → a0.fStrokes = [] ∧ a0_fStrokes_c = 0) (hm0 : Mem w (bs [a0_fPins_o, a0_fStrokes_o]) [⟨a0_fPins_o, 75, row encGWornPin a0.fPins a0_fPins_sp⟩, ⟨a0_fStrokes_o, 2, row encI64 a0.fStrokes a0_fStrokes_sp⟩] w) (h : laws_markWear a0 k1 = some r) :
    Calls Tryz.prog 19 #[(.agg #[(.slice (a0_fPins_o.map fun b => ⟨b, 0, none⟩) a0_fPins_on a0_fPins_c), (.slice (a0_fStrokes_o.map fun b => ⟨b, 0, none⟩) a0_fStrokes_on a0_fStrokes_c)]), (.int .i64 k1)] w fun e w' => ∃ v, e = .returned v ∧ (r.2.1.length = a0_fPins_on ∧ (a0_fPins_o = none → r.2.1 = [] ∧ a0_fPins_c = 0) ∧ r.2.2.length = a0_fStrokes_on ∧ (a0_fStrokes_o = none → r.2.2 = [] ∧ a0_fStrokes_c = 0) ∧ v = (.int .i64 r.1) ∧ Mem w (bs [a0_fPins_o, a0_fStrokes_o]) [⟨a0_fPins_o, 75, row encGWornPin r.2.1 a0_fPins_sp⟩, ⟨a0_fStrokes_o, 2, row encI64 r.2.2 a0_fStrokes_sp⟩] w') := by
  subst a0_fPins_hn a0_fStrokes_hn
  rw [laws_markWear] at h
  refine enter (args := [(.agg #[(.slice (a0_fPins_o.map fun b => ⟨b, 0, none⟩) a0.fPins.length a0_fPins_c), (.slice (a0_fStrokes_o.map fun b => ⟨b, 0, none⟩) a0.fStrokes.length a0_fStrokes_c)]), (.int .i64 k1)]) Tryz.func19 rfl Tryz.ntmps19 (by kernel_rfl) (L := [⟨a0_fPins_o, 75, row encGWornPin a0.fPins a0_fPins_sp⟩, ⟨a0_fStrokes_o, 2, row encI64 a0.fStrokes a0_fStrokes_sp⟩]) (W := bs [a0_fPins_o, a0_fStrokes_o]) hm0 ?_
  refine jc_seq ?_
  refine jc_region ?_
  refine toO (by kernel_rfl) (p_a 0 [0] (by kernel_rfl) (fun b => by kernel_rfl) (fun b_1 => jkO ?_))
  refine jo_f [(0, 0)] (by kernel_rfl) ?_
  refine jo_end (by kernel_rfl) ?_
  refine jx_then ?_
  refine jc_seq ?_
  refine jc_region ?_
  refine jo_f [(0, 0), (2, 0), (0, 0)] (by kernel_rfl) ?_
  obtain ⟨t_1, ht_2, h⟩ := bd h
  refine toO (by kernel_rfl) (p_call 0 54 #[(.slice (a0_fPins_o.map fun b => ⟨b, 0, none⟩) a0.fPins.length a0_fPins_c), (.int .i64 k1)] (by kernel_rfl) (by kernel_rfl) (fun w hm => laws_markWornPinS.calls a0.fPins k1 w _ a0_fPins_o a0.fPins.length a0_fPins_c a0_fPins_sp rfl a0_fPins_hs a0_fPins_ho (hm.pass (N := [⟨a0_fPins_o, 75, row encGWornPin a0.fPins a0_fPins_sp⟩]) [0] (by kernel_rfl) (by kernel_rfl)) ht_2) ?_)
  rintro w v w' hm ⟨hn_3, ho_4, rfl, hm'⟩
  refine ⟨_, hm.appW (ps := [(0, ⟨a0_fPins_o, 75, row encGWornPin t_1.2 a0_fPins_sp⟩)]) (N := []) hm' (by kernel_rfl) (by kernel_rfl), jkO ?_⟩
  clear hm hm'
  refine jo_f [(0, 0)] (by kernel_rfl) ?_
  refine jo_end (by kernel_rfl) ?_
  refine jx_then ?_
  refine jc_seq ?_
  refine jc_region ?_
  refine jo_f [(0, 0), (2, 0), (0, 0)] (by kernel_rfl) ?_
  obtain ⟨t_2, ht_5, h⟩ := bd h
  refine toO (by kernel_rfl) (p_call 0 55 #[(.slice (a0_fStrokes_o.map fun b => ⟨b, 0, none⟩) a0.fStrokes.length a0_fStrokes_c), (.int .i64 t_1.1)] (by kernel_rfl) (by kernel_rfl) (fun w hm => laws_markInt64S.calls a0.fStrokes t_1.1 w _ a0_fStrokes_o a0.fStrokes.length a0_fStrokes_c a0_fStrokes_sp rfl a0_fStrokes_hs a0_fStrokes_ho (hm.pass (N := [⟨a0_fStrokes_o, 2, row encI64 a0.fStrokes a0_fStrokes_sp⟩]) [1] (by kernel_rfl) (by kernel_rfl)) ht_5) ?_)
  rintro w v w' hm ⟨hn_6, ho_7, rfl, hm'⟩
  refine ⟨_, hm.appW (ps := [(1, ⟨a0_fStrokes_o, 2, row encI64 t_2.2 a0_fStrokes_sp⟩)]) (N := []) hm' (by kernel_rfl) (by kernel_rfl), jkO ?_⟩
  clear hm hm'
  refine jo_f [(0, 0)] (by kernel_rfl) ?_
  refine jo_end (by kernel_rfl) ?_
  refine jx_then ?_
  refine jc_seq ?_
  refine jc_region ?_
  refine jo_f [(0, 0), (0, 0)] (by kernel_rfl) ?_
  refine jo_end (by kernel_rfl) ?_
  refine jx_then ?_
  refine jc_ret ?_
  obtain rfl := Option.some.inj h
  exact jx_ret [] (.int .i64 t_2.1) [] rfl (by kernel_rfl) (by kernel_rfl) (fun w hm => ⟨hn_3, ho_4, hn_6, ho_7, rfl, hm.pick [0, 1] (by kernel_rfl) (by kernel_rfl)⟩)

/-! ### laws.markActS -/
noncomputable def laws_markActS.k_3 (xs_1 : List GAct) (i_2 : Int) : Option (Int × (List GAct)) := some (i_2, xs_1)
noncomputable def laws_markActS.l_7 (a0 : List GAct) : ((List GAct) × Int × Int) → Option (((List GAct) × Int × Int) ⊕ (((List GAct) × Int)))
  | (xs_4, i_5, i_6) => (if (decide (i_6 < (a0.length : Int))) = true then (ix xs_4 i_6).bind fun x_9 => (ix (xs_4.set i_6.toNat (⟨(w8 i_5), x_9.fA, x_9.fB, x_9.fC, x_9.fD⟩ : GAct)) i_6).bind fun x_10 => (ix ((xs_4.set i_6.toNat (⟨(w8 i_5), x_9.fA, x_9.fB, x_9.fC, x_9.fD⟩ : GAct)).set i_6.toNat (⟨x_10.fKind, (w64 (i_5 + 1)), x_10.fB, x_10.fC, x_10.fD⟩ : GAct)) i_6).bind fun x_11 => (ix (((xs_4.set i_6.toNat (⟨(w8 i_5), x_9.fA, x_9.fB, x_9.fC, x_9.fD⟩ : GAct)).set i_6.toNat (⟨x_10.fKind, (w64 (i_5 + 1)), x_10.fB, x_10.fC, x_10.fD⟩ : GAct)).set i_6.toNat (⟨x_11.fKind, x_11.fA, (w64 ((w64 (i_5 + 1)) + 1)), x_11.fC, x_11.fD⟩ : GAct)) i_6).bind fun x_12 => (ix ((((xs_4.set i_6.toNat (⟨(w8 i_5), x_9.fA, x_9.fB, x_9.fC, x_9.fD⟩ : GAct)).set i_6.toNat (⟨x_10.fKind, (w64 (i_5 + 1)), x_10.fB, x_10.fC, x_10.fD⟩ : GAct)).set i_6.toNat (⟨x_11.fKind, x_11.fA, (w64 ((w64 (i_5 + 1)) + 1)), x_11.fC, x_11.fD⟩ : GAct)).set i_6.toNat (⟨x_12.fKind, x_12.fA, x_12.fB, (w64 ((w64 ((w64 (i_5 + 1)) + 1)) + 1)), x_12.fD⟩ : GAct)) i_6).bind fun x_13 => some (.inl ((((((xs_4.set i_6.toNat (⟨(w8 i_5), x_9.fA, x_9.fB, x_9.fC, x_9.fD⟩ : GAct)).set i_6.toNat (⟨x_10.fKind, (w64 (i_5 + 1)), x_10.fB, x_10.fC, x_10.fD⟩ : GAct)).set i_6.toNat (⟨x_11.fKind, x_11.fA, (w64 ((w64 (i_5 + 1)) + 1)), x_11.fC, x_11.fD⟩ : GAct)).set i_6.toNat (⟨x_12.fKind, x_12.fA, x_12.fB, (w64 ((w64 ((w64 (i_5 + 1)) + 1)) + 1)), x_12.fD⟩ : GAct)).set i_6.toNat (⟨x_13.fKind, x_13.fA, x_13.fB, x_13.fC, (w64 ((w64 ((w64 ((w64 (i_5 + 1)) + 1)) + 1)) + 1))⟩ : GAct)), (w64 ((w64 ((w64 ((w64 ((w64 (i_5 + 1)) + 1)) + 1)) + 1)) + 1)), (w64 (i_6 + 1)))) else some (.inr (xs_4, i_5)))
noncomputable def laws_markActS (a0 : List GAct) (k1 : Int) : Option (Int × (List GAct)) := (loop (laws_markActS.l_7 a0) (a0, k1, 0)).bind fun t_8 => laws_markActS.k_3 t_8.1 t_8.2
set_option maxRecDepth 100000 in
theorem laws_markActS.calls (a0 : List GAct) (k1 : Int) (w : World) (r : Int × (List GAct)) (a0_o : Option Nat) (a0_on : Nat) (a0_c : Nat) (a0_sp : List Value) (a0_hn : a0.length = a0_on) (a0_hs : a0_o ≠ none → a0_on ≤ a0_c ∧ a0_sp.length = (a0_c - a0_on) * 5) (a0_ho : a0_o = none → a0 = [] ∧ a0_c = 0) (hm0 : Mem w (bs [a0_o]) [⟨a0_o, 89, row encGAct a0 a0_sp⟩] w) (h : laws_markActS a0 k1 = some r) :
    Calls Tryz.prog 20 #[(.slice (a0_o.map fun b => ⟨b, 0, none⟩) a0_on a0_c), (.int .i64 k1)] w fun e w' => ∃ v, e = .returned v ∧ (r.2.length = a0_on ∧ (a0_o = none → r.2 = [] ∧ a0_c = 0) ∧ v = (.int .i64 r.1) ∧ Mem w (bs [a0_o]) [⟨a0_o, 89, row encGAct r.2 a0_sp⟩] w') := by
  subst a0_hn
  rw [laws_markActS] at h
  refine enter (args := [(.slice (a0_o.map fun b => ⟨b, 0, none⟩) a0.length a0_c), (.int .i64 k1)]) Tryz.func20 rfl Tryz.ntmps20 (by kernel_rfl) (L := [⟨a0_o, 89, row encGAct a0 a0_sp⟩]) (W := bs [a0_o]) hm0 ?_
  refine jc_seq ?_
  refine jc_region ?_
  refine jo_f [(0, 0)] (by kernel_rfl) ?_
  refine jo_end (by kernel_rfl) ?_
  refine jx_then ?_
  refine jc_seq ?_
  refine jc_seq ?_
  refine jc_region ?_
  refine jo_f [(0, 0)] (by kernel_rfl) ?_
  refine jo_end (by kernel_rfl) ?_
  refine jx_then ?_
  refine jc_meet (fun (j : (List GAct) × Int) => match j with | ⟨xs_1, i_2⟩ => laws_markActS.k_3 xs_1 i_2 = some r ∧ (xs_1.length = a0.length) ∧ ((a0_o = none → xs_1 = [] ∧ a0_c = 0))) (fun (j : (List GAct) × Int) => match j with | ⟨xs_1, i_2⟩ => [(1, [], (.int .i64 i_2)), (4, [], (.int .i64 0))]) (fun (j : (List GAct) × Int) => match j with | ⟨xs_1, i_2⟩ => [⟨a0_o, 89, row encGAct xs_1 a0_sp⟩]) ?_ ?_
  · refine jc_block ?_
    obtain ⟨t_8, ht_120, hr_110⟩ := bd h
    refine jc_loop (fun (s : (List GAct) × Int × Int) (x : Unit) => match s, x with | ⟨xs_4, i_5, i_6⟩, _ => (xs_4.length = a0.length) ∧ ((a0_o = none → xs_4 = [] ∧ a0_c = 0))) (fun (s : (List GAct) × Int × Int) (x : Unit) => match s, x with | ⟨xs_4, i_5, i_6⟩, _ => [(0, [], (.slice (a0_o.map fun b => ⟨b, 0, none⟩) a0.length a0_c)), (1, [], (.int .i64 i_5)), (4, [], (.int .i64 0)), (5, [], (.int .i64 i_6))]) (fun (s : (List GAct) × Int × Int) (x : Unit) => match s, x with | ⟨xs_4, i_5, i_6⟩, _ => [⟨a0_o, 89, row encGAct xs_4 a0_sp⟩]) ht_120 () ⟨rfl, a0_ho⟩ (by kernel_rfl) [0] (by kernel_rfl) (by kernel_rfl) ?_
    rintro ⟨xs_4, i_5, i_6⟩ _ y_111 ⟨hn_109, ho_108⟩ h
    rw [laws_markActS.l_7] at h
    refine jc_seq ?_
    refine jc_seq ?_
    refine jc_region ?_
    refine jo_f [(0, 0), (0, 0), (0, 0), (0, 0)] (by kernel_rfl) ?_
    refine jo_end (by kernel_rfl) ?_
    refine jx_then ?_
    refine jc_cond (decide (i_6 < (a0.length : Int))) (by kernel_rfl) (fun hc_113 => ?_) (fun hc_113 => ?_)
    · replace h := ifT hc_113 h
      refine jc_skip ?_
      refine jx_then ?_
      refine jc_seq ?_
      refine jc_block ?_
      refine jc_seq ?_
      refine jc_region ?_
      refine jo_f [(0, 0), (0, 0), (0, 0), (0, 0)] (by kernel_rfl) ?_
      obtain ⟨x_9, hx_114, h⟩ := bd h
      refine toO (by kernel_rfl) (p_idx 0 (a0_o.map fun b => ⟨b, 0, none⟩) a0.length i_6 5 (by kernel_rfl) (by kernel_rfl) (ix_some hx_114).1 (ltn hx_114 hn_109) (spo ho_108 hx_114) (jkO ?_))
      refine jo_f [(0, 0)] (by kernel_rfl) ?_
      refine toO (by kernel_rfl) (p_strO 0 0 a0_o 89 encGAct xs_4 a0_sp i_6 (⟨(w8 i_5), x_9.fA, x_9.fB, x_9.fC, x_9.fD⟩ : GAct) 5 0 [(.int .i8 (w8 i_5))] (by kernel_rfl) (by kernel_rfl) (by kernel_rfl) (fun e => (ho_108 e).1) encGAct_len hx_114 (by kernel_rfl) (by kernel_rfl) (jkO ?_))
      refine jo_end (by kernel_rfl) ?_
      refine jx_then ?_
      refine jc_seq ?_
      refine jc_region ?_
      refine jo_f [(0, 0), (0, 0), (0, 0)] (by kernel_rfl) ?_
      refine jo_end (by kernel_rfl) ?_
      refine jx_then ?_
      refine jc_seq ?_
      refine jc_region ?_
      refine jo_f [(0, 0), (0, 0), (0, 0)] (by kernel_rfl) ?_
      obtain ⟨x_10, hx_115, h⟩ := bd h
      refine toO (by kernel_rfl) (p_idx 0 (a0_o.map fun b => ⟨b, 0, none⟩) a0.length i_6 5 (by kernel_rfl) (by kernel_rfl) (ix_some hx_115).1 (ltn hx_115 (List.length_set.trans hn_109)) (spo (set_ho ho_108) hx_115) (jkO ?_))
      refine jo_f [(0, 0)] (by kernel_rfl) ?_
      refine toO (by kernel_rfl) (p_strO 0 0 a0_o 89 encGAct (xs_4.set i_6.toNat (⟨(w8 i_5), x_9.fA, x_9.fB, x_9.fC, x_9.fD⟩ : GAct)) a0_sp i_6 (⟨x_10.fKind, (w64 (i_5 + 1)), x_10.fB, x_10.fC, x_10.fD⟩ : GAct) 5 1 [(.int .i64 (w64 (i_5 + 1)))] (by kernel_rfl) (by kernel_rfl) (by kernel_rfl) (fun e => ((set_ho ho_108) e).1) encGAct_len hx_115 (by kernel_rfl) (by kernel_rfl) (jkO ?_))
      refine jo_end (by kernel_rfl) ?_
      refine jx_then ?_
      refine jc_seq ?_
      refine jc_region ?_
      refine jo_f [(0, 0), (0, 0), (0, 0)] (by kernel_rfl) ?_
      refine jo_end (by kernel_rfl) ?_
      refine jx_then ?_
      refine jc_seq ?_
      refine jc_region ?_
      refine jo_f [(0, 0), (0, 0), (0, 0)] (by kernel_rfl) ?_
      obtain ⟨x_11, hx_116, h⟩ := bd h
      refine toO (by kernel_rfl) (p_idx 0 (a0_o.map fun b => ⟨b, 0, none⟩) a0.length i_6 5 (by kernel_rfl) (by kernel_rfl) (ix_some hx_116).1 (ltn hx_116 (List.length_set.trans (List.length_set.trans hn_109))) (spo (set_ho (set_ho ho_108)) hx_116) (jkO ?_))
      refine jo_f [(0, 0)] (by kernel_rfl) ?_
      refine toO (by kernel_rfl) (p_strO 0 0 a0_o 89 encGAct ((xs_4.set i_6.toNat (⟨(w8 i_5), x_9.fA, x_9.fB, x_9.fC, x_9.fD⟩ : GAct)).set i_6.toNat (⟨x_10.fKind, (w64 (i_5 + 1)), x_10.fB, x_10.fC, x_10.fD⟩ : GAct)) a0_sp i_6 (⟨x_11.fKind, x_11.fA, (w64 ((w64 (i_5 + 1)) + 1)), x_11.fC, x_11.fD⟩ : GAct) 5 2 [(.int .i64 (w64 ((w64 (i_5 + 1)) + 1)))] (by kernel_rfl) (by kernel_rfl) (by kernel_rfl) (fun e => ((set_ho (set_ho ho_108)) e).1) encGAct_len hx_116 (by kernel_rfl) (by kernel_rfl) (jkO ?_))
      refine jo_end (by kernel_rfl) ?_
      refine jx_then ?_
      refine jc_seq ?_
      refine jc_region ?_
      refine jo_f [(0, 0), (0, 0), (0, 0)] (by kernel_rfl) ?_
      refine jo_end (by kernel_rfl) ?_
      refine jx_then ?_
      refine jc_seq ?_
      refine jc_region ?_
      refine jo_f [(0, 0), (0, 0), (0, 0)] (by kernel_rfl) ?_
      obtain ⟨x_12, hx_117, h⟩ := bd h
      refine toO (by kernel_rfl) (p_idx 0 (a0_o.map fun b => ⟨b, 0, none⟩) a0.length i_6 5 (by kernel_rfl) (by kernel_rfl) (ix_some hx_117).1 (ltn hx_117 (List.length_set.trans (List.length_set.trans (List.length_set.trans hn_109)))) (spo (set_ho (set_ho (set_ho ho_108))) hx_117) (jkO ?_))
      refine jo_f [(0, 0)] (by kernel_rfl) ?_
      refine toO (by kernel_rfl) (p_strO 0 0 a0_o 89 encGAct (((xs_4.set i_6.toNat (⟨(w8 i_5), x_9.fA, x_9.fB, x_9.fC, x_9.fD⟩ : GAct)).set i_6.toNat (⟨x_10.fKind, (w64 (i_5 + 1)), x_10.fB, x_10.fC, x_10.fD⟩ : GAct)).set i_6.toNat (⟨x_11.fKind, x_11.fA, (w64 ((w64 (i_5 + 1)) + 1)), x_11.fC, x_11.fD⟩ : GAct)) a0_sp i_6 (⟨x_12.fKind, x_12.fA, x_12.fB, (w64 ((w64 ((w64 (i_5 + 1)) + 1)) + 1)), x_12.fD⟩ : GAct) 5 3 [(.int .i64 (w64 ((w64 ((w64 (i_5 + 1)) + 1)) + 1)))] (by kernel_rfl) (by kernel_rfl) (by kernel_rfl) (fun e => ((set_ho (set_ho (set_ho ho_108))) e).1) encGAct_len hx_117 (by kernel_rfl) (by kernel_rfl) (jkO ?_))
      refine jo_end (by kernel_rfl) ?_
      refine jx_then ?_
      refine jc_seq ?_
      refine jc_region ?_
      refine jo_f [(0, 0), (0, 0), (0, 0)] (by kernel_rfl) ?_
      refine jo_end (by kernel_rfl) ?_
      refine jx_then ?_
      refine jc_seq ?_
      refine jc_region ?_
      refine jo_f [(0, 0), (0, 0), (0, 0)] (by kernel_rfl) ?_
      obtain ⟨x_13, hx_118, h⟩ := bd h
      refine toO (by kernel_rfl) (p_idx 0 (a0_o.map fun b => ⟨b, 0, none⟩) a0.length i_6 5 (by kernel_rfl) (by kernel_rfl) (ix_some hx_118).1 (ltn hx_118 (List.length_set.trans (List.length_set.trans (List.length_set.trans (List.length_set.trans hn_109))))) (spo (set_ho (set_ho (set_ho (set_ho ho_108)))) hx_118) (jkO ?_))
      refine jo_f [(0, 0)] (by kernel_rfl) ?_
      refine toO (by kernel_rfl) (p_strO 0 0 a0_o 89 encGAct ((((xs_4.set i_6.toNat (⟨(w8 i_5), x_9.fA, x_9.fB, x_9.fC, x_9.fD⟩ : GAct)).set i_6.toNat (⟨x_10.fKind, (w64 (i_5 + 1)), x_10.fB, x_10.fC, x_10.fD⟩ : GAct)).set i_6.toNat (⟨x_11.fKind, x_11.fA, (w64 ((w64 (i_5 + 1)) + 1)), x_11.fC, x_11.fD⟩ : GAct)).set i_6.toNat (⟨x_12.fKind, x_12.fA, x_12.fB, (w64 ((w64 ((w64 (i_5 + 1)) + 1)) + 1)), x_12.fD⟩ : GAct)) a0_sp i_6 (⟨x_13.fKind, x_13.fA, x_13.fB, x_13.fC, (w64 ((w64 ((w64 ((w64 (i_5 + 1)) + 1)) + 1)) + 1))⟩ : GAct) 5 4 [(.int .i64 (w64 ((w64 ((w64 ((w64 (i_5 + 1)) + 1)) + 1)) + 1)))] (by kernel_rfl) (by kernel_rfl) (by kernel_rfl) (fun e => ((set_ho (set_ho (set_ho (set_ho ho_108)))) e).1) encGAct_len hx_118 (by kernel_rfl) (by kernel_rfl) (jkO ?_))
      refine jo_end (by kernel_rfl) ?_
      refine jx_then ?_
      refine jc_region ?_
      refine jo_f [(0, 0), (0, 0), (0, 0)] (by kernel_rfl) ?_
      refine jo_end (by kernel_rfl) ?_
      refine jx_inn ?_
      refine jx_then ?_
      refine jc_region ?_
      refine jo_f [(0, 0), (0, 0), (0, 0)] (by kernel_rfl) ?_
      refine jo_end (by kernel_rfl) ?_
      exact jx_back ((((((xs_4.set i_6.toNat (⟨(w8 i_5), x_9.fA, x_9.fB, x_9.fC, x_9.fD⟩ : GAct)).set i_6.toNat (⟨x_10.fKind, (w64 (i_5 + 1)), x_10.fB, x_10.fC, x_10.fD⟩ : GAct)).set i_6.toNat (⟨x_11.fKind, x_11.fA, (w64 ((w64 (i_5 + 1)) + 1)), x_11.fC, x_11.fD⟩ : GAct)).set i_6.toNat (⟨x_12.fKind, x_12.fA, x_12.fB, (w64 ((w64 ((w64 (i_5 + 1)) + 1)) + 1)), x_12.fD⟩ : GAct)).set i_6.toNat (⟨x_13.fKind, x_13.fA, x_13.fB, x_13.fC, (w64 ((w64 ((w64 ((w64 (i_5 + 1)) + 1)) + 1)) + 1))⟩ : GAct)), (w64 ((w64 ((w64 ((w64 ((w64 (i_5 + 1)) + 1)) + 1)) + 1)) + 1)), (w64 (i_6 + 1))) () (Option.some.inj h).symm ⟨(List.length_set.trans (List.length_set.trans (List.length_set.trans (List.length_set.trans (List.length_set.trans hn_109))))), (set_ho (set_ho (set_ho (set_ho (set_ho ho_108)))))⟩ [0] (by kernel_rfl) (by kernel_rfl) (by kernel_rfl)
    · replace h := ifF hc_113 h
      refine jc_exit ?_
      refine jx_thenx ?_
      refine jx_leave (xs_4, i_5) (Option.some.inj h).symm (fun e_119 => ?_)
      subst e_119
      refine jx_ine ?_
      exact jx_meet ⟨xs_4, i_5⟩ ⟨hr_110, hn_109, ho_108⟩ (by kernel_rfl) [0] (by kernel_rfl) (by kernel_rfl)
  · rintro ⟨xs_1, i_2⟩ ⟨h, hn_91, ho_90⟩
    replace h : laws_markActS.k_3 xs_1 i_2 = some r := h
    rw [laws_markActS.k_3] at h
    refine jx_then ?_
    refine jc_seq ?_
    refine jc_region ?_
    refine jo_f [(0, 0), (0, 0)] (by kernel_rfl) ?_
    refine jo_end (by kernel_rfl) ?_
    refine jx_then ?_
    refine jc_ret ?_
    obtain rfl := Option.some.inj h
    exact jx_ret [] (.int .i64 i_2) [] rfl (by kernel_rfl) (by kernel_rfl) (fun w hm => ⟨hn_91, ho_90, rfl, hm.pick [0] (by kernel_rfl) (by kernel_rfl)⟩)

/-! ### laws.heldWornPinS -/
noncomputable def laws_heldWornPinS.k_2 (i_1 : Int) : Option (Int) := some i_1
noncomputable def laws_heldWornPinS.l_5 (a0 : List GWornPin) : (Int × Int) → Option ((Int × Int) ⊕ (Int ⊕ Int))
  | (i_3, i_4) => (if (decide (i_4 < (a0.length : Int))) = true then (ix a0 i_4).bind fun x_7 => (if (x_7.fStep != (w8 i_3)) = true then some (.inr (.inl (-1))) else (ix a0 i_4).bind fun x_8 => (if (x_8.fTrack != (w8 (w64 (i_3 + 1)))) = true then some (.inr (.inl (-1))) else (ix a0 i_4).bind fun x_9 => (if (x_9.fTurns != (w64 ((w64 (i_3 + 1)) + 1))) = true then some (.inr (.inl (-1))) else some (.inl ((w64 ((w64 ((w64 (i_3 + 1)) + 1)) + 1)), (w64 (i_4 + 1))))))) else some (.inr (.inr i_3)))
noncomputable def laws_heldWornPinS (a0 : List GWornPin) (k1 : Int) : Option (Int) := (loop (laws_heldWornPinS.l_5 a0) (k1, 0)).bind fun t_6 => match t_6 with | .inl p => some p | .inr p => laws_heldWornPinS.k_2 p
set_option maxRecDepth 100000 in
theorem laws_heldWornPinS.calls (a0 : List GWornPin) (k1 : Int) (w : World) (r : Int) (a0_a : Option Addr) (a0_an : Nat) (a0_c : Nat) (a0_h : Rw w a0_a 3 encGWornPin a0) (a0_hn : a0.length = a0_an) (h : laws_heldWornPinS a0 k1 = some r) :
    Calls Tryz.prog 56 #[(.slice a0_a a0_an a0_c), (.int .i64 k1)] w fun e w' => ∃ v, e = .returned v ∧ (v = (.int .i64 r) ∧ Mem w [] [] w') := by
  subst a0_hn
  rw [laws_heldWornPinS] at h
  refine enter (args := [(.slice a0_a a0.length a0_c), (.int .i64 k1)]) Tryz.func56 rfl Tryz.ntmps56 (by kernel_rfl) (L := []) (W := []) (Mem.start w) ?_
  refine jc_seq ?_
  refine jc_region ?_
  refine jo_f [(0, 0)] (by kernel_rfl) ?_
  refine jo_end (by kernel_rfl) ?_
  refine jx_then ?_
  refine jc_seq ?_
  refine jc_seq ?_
  refine jc_region ?_
  refine jo_f [(0, 0)] (by kernel_rfl) ?_
  refine jo_end (by kernel_rfl) ?_
  refine jx_then ?_
  refine jc_meet (fun (j : Int) => match j with | i_1 => laws_heldWornPinS.k_2 i_1 = some r) (fun (j : Int) => match j with | i_1 => [(1, [], (.int .i64 i_1)), (4, [], (.int .i64 0))]) (fun (j : Int) => match j with | i_1 => []) ?_ ?_
  · refine jc_block ?_
    obtain ⟨t_6, ht_172, hr_154⟩ := bd h
    refine jc_loop (fun (s : Int × Int) (x : Unit) => match s, x with | ⟨i_3, i_4⟩, _ => True) (fun (s : Int × Int) (x : Unit) => match s, x with | ⟨i_3, i_4⟩, _ => [(0, [], (.slice a0_a a0.length a0_c)), (1, [], (.int .i64 i_3)), (4, [], (.int .i64 0)), (5, [], (.int .i64 i_4))]) (fun (s : Int × Int) (x : Unit) => match s, x with | ⟨i_3, i_4⟩, _ => []) ht_172 () trivial (by kernel_rfl) [] (by kernel_rfl) (by kernel_rfl) ?_
    rintro ⟨i_3, i_4⟩ _ y_155 _ h
    rw [laws_heldWornPinS.l_5] at h
    refine jc_seq ?_
    refine jc_seq ?_
    refine jc_region ?_
    refine jo_f [(0, 0), (0, 0), (0, 0), (0, 0)] (by kernel_rfl) ?_
    refine jo_end (by kernel_rfl) ?_
    refine jx_then ?_
    refine jc_cond (decide (i_4 < (a0.length : Int))) (by kernel_rfl) (fun hc_157 => ?_) (fun hc_157 => ?_)
    · replace h := ifT hc_157 h
      refine jc_skip ?_
      refine jx_then ?_
      refine jc_seq ?_
      refine jc_block ?_
      refine jc_seq ?_
      refine jc_seq ?_
      refine jc_region ?_
      refine jo_f [(0, 0), (0, 0)] (by kernel_rfl) ?_
      obtain ⟨x_7, hx_160, h⟩ := bd h
      refine toO (by kernel_rfl) (p_idx 0 a0_a a0.length i_4 3 (by kernel_rfl) (by kernel_rfl) (ix_some hx_160).1 (ltn hx_160 rfl) (a0_h.sp hx_160) (jkO ?_))
      refine jo_f [(0, 0)] (by kernel_rfl) ?_
      refine toO (by kernel_rfl) (p_ld 0 (aB a0_a) (aO a0_a + i_4.toNat * 3) false (((encGWornPin x_7).drop 0).take 1) (by kernel_rfl) (by kernel_rfl) (by kernel_rfl) (fun w hm => (((hm.exRow a0_h List.not_mem_nil).at hx_160).sub 0 1)) (jkO ?_))
      refine jo_f [(0, 0), (0, 0), (0, 0)] (by kernel_rfl) ?_
      refine jo_end (by kernel_rfl) ?_
      refine jx_then ?_
      refine jc_cond (x_7.fStep != (w8 i_3)) (by kernel_rfl) (fun hc_161 => ?_) (fun hc_161 => ?_)
      · replace h := ifT hc_161 h
        refine jc_seq ?_
        refine jc_region ?_
        refine jo_f [(0, 0)] (by kernel_rfl) ?_
        refine jo_end (by kernel_rfl) ?_
        refine jx_then ?_
        refine jc_ret ?_
        refine jx_thenr ?_
        refine jx_inr ?_
        refine jx_thenr ?_
        refine jx_leaver (.inl (-1)) (Option.some.inj h).symm (fun e_162 => ?_)
        subst e_162
        refine jx_inr ?_
        refine jx_thenr ?_
        refine jx_thenr ?_
        obtain rfl := Option.some.inj hr_154
        exact jx_ret [] (.int .i64 (-1)) [] rfl (by kernel_rfl) (by kernel_rfl) (fun w hm => ⟨rfl, hm.pick [] (by kernel_rfl) (by kernel_rfl)⟩)
      · replace h := ifF hc_161 h
        refine jc_skip ?_
        refine jx_then ?_
        refine jc_seq ?_
        refine jc_region ?_
        refine jo_f [(0, 0), (0, 0), (0, 0)] (by kernel_rfl) ?_
        refine jo_end (by kernel_rfl) ?_
        refine jx_then ?_
        refine jc_seq ?_
        refine jc_seq ?_
        refine jc_region ?_
        refine jo_f [(0, 0), (0, 0)] (by kernel_rfl) ?_
        obtain ⟨x_8, hx_165, h⟩ := bd h
        refine toO (by kernel_rfl) (p_idx 0 a0_a a0.length i_4 3 (by kernel_rfl) (by kernel_rfl) (ix_some hx_165).1 (ltn hx_165 rfl) (a0_h.sp hx_165) (jkO ?_))
        refine jo_f [(0, 0)] (by kernel_rfl) ?_
        refine toO (by kernel_rfl) (p_ld 0 (aB a0_a) (aO a0_a + i_4.toNat * 3 + 1) false (((encGWornPin x_8).drop 1).take 1) (by kernel_rfl) (by kernel_rfl) (by kernel_rfl) (fun w hm => (((hm.exRow a0_h List.not_mem_nil).at hx_165).sub 1 1)) (jkO ?_))
        refine jo_f [(0, 0), (0, 0), (0, 0)] (by kernel_rfl) ?_
        refine jo_end (by kernel_rfl) ?_
        refine jx_then ?_
        refine jc_cond (x_8.fTrack != (w8 (w64 (i_3 + 1)))) (by kernel_rfl) (fun hc_166 => ?_) (fun hc_166 => ?_)
        · replace h := ifT hc_166 h
          refine jc_seq ?_
          refine jc_region ?_
          refine jo_f [(0, 0)] (by kernel_rfl) ?_
          refine jo_end (by kernel_rfl) ?_
          refine jx_then ?_
          refine jc_ret ?_
          refine jx_thenr ?_
          refine jx_inr ?_
          refine jx_thenr ?_
          refine jx_leaver (.inl (-1)) (Option.some.inj h).symm (fun e_167 => ?_)
          subst e_167
          refine jx_inr ?_
          refine jx_thenr ?_
          refine jx_thenr ?_
          obtain rfl := Option.some.inj hr_154
          exact jx_ret [] (.int .i64 (-1)) [] rfl (by kernel_rfl) (by kernel_rfl) (fun w hm => ⟨rfl, hm.pick [] (by kernel_rfl) (by kernel_rfl)⟩)
        · replace h := ifF hc_166 h
          refine jc_skip ?_
          refine jx_then ?_
          refine jc_seq ?_
          refine jc_region ?_
          refine jo_f [(0, 0), (0, 0), (0, 0)] (by kernel_rfl) ?_
          refine jo_end (by kernel_rfl) ?_
          refine jx_then ?_
          refine jc_seq ?_
          refine jc_seq ?_
          refine jc_region ?_
          refine jo_f [(0, 0), (0, 0)] (by kernel_rfl) ?_
          obtain ⟨x_9, hx_168, h⟩ := bd h
          refine toO (by kernel_rfl) (p_idx 0 a0_a a0.length i_4 3 (by kernel_rfl) (by kernel_rfl) (ix_some hx_168).1 (ltn hx_168 rfl) (a0_h.sp hx_168) (jkO ?_))
          refine jo_f [(0, 0)] (by kernel_rfl) ?_
          refine toO (by kernel_rfl) (p_ld 0 (aB a0_a) (aO a0_a + i_4.toNat * 3 + 2) false (((encGWornPin x_9).drop 2).take 1) (by kernel_rfl) (by kernel_rfl) (by kernel_rfl) (fun w hm => (((hm.exRow a0_h List.not_mem_nil).at hx_168).sub 2 1)) (jkO ?_))
          refine jo_f [(0, 0), (0, 0)] (by kernel_rfl) ?_
          refine jo_end (by kernel_rfl) ?_
          refine jx_then ?_
          refine jc_cond (x_9.fTurns != (w64 ((w64 (i_3 + 1)) + 1))) (by kernel_rfl) (fun hc_169 => ?_) (fun hc_169 => ?_)
          · replace h := ifT hc_169 h
            refine jc_seq ?_
            refine jc_region ?_
            refine jo_f [(0, 0)] (by kernel_rfl) ?_
            refine jo_end (by kernel_rfl) ?_
            refine jx_then ?_
            refine jc_ret ?_
            refine jx_thenr ?_
            refine jx_inr ?_
            refine jx_thenr ?_
            refine jx_leaver (.inl (-1)) (Option.some.inj h).symm (fun e_170 => ?_)
            subst e_170
            refine jx_inr ?_
            refine jx_thenr ?_
            refine jx_thenr ?_
            obtain rfl := Option.some.inj hr_154
            exact jx_ret [] (.int .i64 (-1)) [] rfl (by kernel_rfl) (by kernel_rfl) (fun w hm => ⟨rfl, hm.pick [] (by kernel_rfl) (by kernel_rfl)⟩)
          · replace h := ifF hc_169 h
            refine jc_skip ?_
            refine jx_then ?_
            refine jc_region ?_
            refine jo_f [(0, 0), (0, 0), (0, 0)] (by kernel_rfl) ?_
            refine jo_end (by kernel_rfl) ?_
            refine jx_inn ?_
            refine jx_then ?_
            refine jc_region ?_
            refine jo_f [(0, 0), (0, 0), (0, 0)] (by kernel_rfl) ?_
            refine jo_end (by kernel_rfl) ?_
            exact jx_back ((w64 ((w64 ((w64 (i_3 + 1)) + 1)) + 1)), (w64 (i_4 + 1))) () (Option.some.inj h).symm trivial [] (by kernel_rfl) (by kernel_rfl) (by kernel_rfl)
    · replace h := ifF hc_157 h
      refine jc_exit ?_
      refine jx_thenx ?_
      refine jx_leave (.inr i_3) (Option.some.inj h).symm (fun e_171 => ?_)
      subst e_171
      refine jx_ine ?_
      exact jx_meet i_3 hr_154 (by kernel_rfl) [] (by kernel_rfl) (by kernel_rfl)
  · rintro i_1 h
    replace h : laws_heldWornPinS.k_2 i_1 = some r := h
    rw [laws_heldWornPinS.k_2] at h
    refine jx_then ?_
    refine jc_seq ?_
    refine jc_region ?_
    refine jo_f [(0, 0), (0, 0)] (by kernel_rfl) ?_
    refine jo_end (by kernel_rfl) ?_
    refine jx_then ?_
    refine jc_ret ?_
    obtain rfl := Option.some.inj h
    exact jx_ret [] (.int .i64 i_1) [] rfl (by kernel_rfl) (by kernel_rfl) (fun w hm => ⟨rfl, hm.pick [] (by kernel_rfl) (by kernel_rfl)⟩)

/-! ### laws.heldInt64S -/
noncomputable def laws_heldInt64S.k_2 (i_1 : Int) : Option (Int) := some i_1
noncomputable def laws_heldInt64S.l_5 (a0 : List Int) : (Int × Int) → Option ((Int × Int) ⊕ (Int ⊕ Int))
  | (i_3, i_4) => (if (decide (i_4 < (a0.length : Int))) = true then (ix a0 i_4).bind fun x_7 => (if (x_7 != i_3) = true then some (.inr (.inl (-1))) else some (.inl ((w64 (i_3 + 1)), (w64 (i_4 + 1))))) else some (.inr (.inr i_3)))
noncomputable def laws_heldInt64S (a0 : List Int) (k1 : Int) : Option (Int) := (loop (laws_heldInt64S.l_5 a0) (k1, 0)).bind fun t_6 => match t_6 with | .inl p => some p | .inr p => laws_heldInt64S.k_2 p
set_option maxRecDepth 100000 in
theorem laws_heldInt64S.calls (a0 : List Int) (k1 : Int) (w : World) (r : Int) (a0_a : Option Addr) (a0_an : Nat) (a0_c : Nat) (a0_h : Rw w a0_a 1 encI64 a0) (a0_hn : a0.length = a0_an) (h : laws_heldInt64S a0 k1 = some r) :
    Calls Tryz.prog 57 #[(.slice a0_a a0_an a0_c), (.int .i64 k1)] w fun e w' => ∃ v, e = .returned v ∧ (v = (.int .i64 r) ∧ Mem w [] [] w') := by
  subst a0_hn
  rw [laws_heldInt64S] at h
  refine enter (args := [(.slice a0_a a0.length a0_c), (.int .i64 k1)]) Tryz.func57 rfl Tryz.ntmps57 (by kernel_rfl) (L := []) (W := []) (Mem.start w) ?_
  refine jc_seq ?_
  refine jc_region ?_
  refine jo_f [(0, 0)] (by kernel_rfl) ?_
  refine jo_end (by kernel_rfl) ?_
  refine jx_then ?_
  refine jc_seq ?_
  refine jc_seq ?_
  refine jc_region ?_
  refine jo_f [(0, 0)] (by kernel_rfl) ?_
  refine jo_end (by kernel_rfl) ?_
  refine jx_then ?_
  refine jc_meet (fun (j : Int) => match j with | i_1 => laws_heldInt64S.k_2 i_1 = some r) (fun (j : Int) => match j with | i_1 => [(1, [], (.int .i64 i_1)), (4, [], (.int .i64 0))]) (fun (j : Int) => match j with | i_1 => []) ?_ ?_
  · refine jc_block ?_
    obtain ⟨t_6, ht_68, hr_60⟩ := bd h
    refine jc_loop (fun (s : Int × Int) (x : Unit) => match s, x with | ⟨i_3, i_4⟩, _ => True) (fun (s : Int × Int) (x : Unit) => match s, x with | ⟨i_3, i_4⟩, _ => [(0, [], (.slice a0_a a0.length a0_c)), (1, [], (.int .i64 i_3)), (4, [], (.int .i64 0)), (5, [], (.int .i64 i_4))]) (fun (s : Int × Int) (x : Unit) => match s, x with | ⟨i_3, i_4⟩, _ => []) ht_68 () trivial (by kernel_rfl) [] (by kernel_rfl) (by kernel_rfl) ?_
    rintro ⟨i_3, i_4⟩ _ y_61 _ h
    rw [laws_heldInt64S.l_5] at h
    refine jc_seq ?_
    refine jc_seq ?_
    refine jc_region ?_
    refine jo_f [(0, 0), (0, 0), (0, 0), (0, 0)] (by kernel_rfl) ?_
    refine jo_end (by kernel_rfl) ?_
    refine jx_then ?_
    refine jc_cond (decide (i_4 < (a0.length : Int))) (by kernel_rfl) (fun hc_63 => ?_) (fun hc_63 => ?_)
    · replace h := ifT hc_63 h
      refine jc_skip ?_
      refine jx_then ?_
      refine jc_seq ?_
      refine jc_block ?_
      refine jc_seq ?_
      refine jc_seq ?_
      refine jc_region ?_
      refine jo_f [(0, 0), (0, 0)] (by kernel_rfl) ?_
      obtain ⟨x_7, hx_64, h⟩ := bd h
      refine toO (by kernel_rfl) (p_idx 0 a0_a a0.length i_4 1 (by kernel_rfl) (by kernel_rfl) (ix_some hx_64).1 (ltn hx_64 rfl) (a0_h.sp hx_64) (jkO ?_))
      refine toO (by kernel_rfl) (p_ld 0 (aB a0_a) (aO a0_a + i_4.toNat * 1) false (encI64 x_7) (by kernel_rfl) (by kernel_rfl) (by kernel_rfl) (fun w hm => ((hm.exRow a0_h List.not_mem_nil).at hx_64)) (jkO ?_))
      refine jo_f [(0, 0), (0, 0)] (by kernel_rfl) ?_
      refine jo_end (by kernel_rfl) ?_
      refine jx_then ?_
      refine jc_cond (x_7 != i_3) (by kernel_rfl) (fun hc_65 => ?_) (fun hc_65 => ?_)
      · replace h := ifT hc_65 h
        refine jc_seq ?_
        refine jc_region ?_
        refine jo_f [(0, 0)] (by kernel_rfl) ?_
        refine jo_end (by kernel_rfl) ?_
        refine jx_then ?_
        refine jc_ret ?_
        refine jx_thenr ?_
        refine jx_inr ?_
        refine jx_thenr ?_
        refine jx_leaver (.inl (-1)) (Option.some.inj h).symm (fun e_66 => ?_)
        subst e_66
        refine jx_inr ?_
        refine jx_thenr ?_
        refine jx_thenr ?_
        obtain rfl := Option.some.inj hr_60
        exact jx_ret [] (.int .i64 (-1)) [] rfl (by kernel_rfl) (by kernel_rfl) (fun w hm => ⟨rfl, hm.pick [] (by kernel_rfl) (by kernel_rfl)⟩)
      · replace h := ifF hc_65 h
        refine jc_skip ?_
        refine jx_then ?_
        refine jc_region ?_
        refine jo_f [(0, 0), (0, 0), (0, 0)] (by kernel_rfl) ?_
        refine jo_end (by kernel_rfl) ?_
        refine jx_inn ?_
        refine jx_then ?_
        refine jc_region ?_
        refine jo_f [(0, 0), (0, 0), (0, 0)] (by kernel_rfl) ?_
        refine jo_end (by kernel_rfl) ?_
        exact jx_back ((w64 (i_3 + 1)), (w64 (i_4 + 1))) () (Option.some.inj h).symm trivial [] (by kernel_rfl) (by kernel_rfl) (by kernel_rfl)
    · replace h := ifF hc_63 h
      refine jc_exit ?_
      refine jx_thenx ?_
      refine jx_leave (.inr i_3) (Option.some.inj h).symm (fun e_67 => ?_)
      subst e_67
      refine jx_ine ?_
      exact jx_meet i_3 hr_60 (by kernel_rfl) [] (by kernel_rfl) (by kernel_rfl)
  · rintro i_1 h
    replace h : laws_heldInt64S.k_2 i_1 = some r := h
    rw [laws_heldInt64S.k_2] at h
    refine jx_then ?_
    refine jc_seq ?_
    refine jc_region ?_
    refine jo_f [(0, 0), (0, 0)] (by kernel_rfl) ?_
    refine jo_end (by kernel_rfl) ?_
    refine jx_then ?_
    refine jc_ret ?_
    obtain rfl := Option.some.inj h
    exact jx_ret [] (.int .i64 i_1) [] rfl (by kernel_rfl) (by kernel_rfl) (fun w hm => ⟨rfl, hm.pick [] (by kernel_rfl) (by kernel_rfl)⟩)

/-! ### laws.heldWear -/
noncomputable def laws_heldWear (a0 : GWear) (k1 : Int) : Option (Int) := (laws_heldWornPinS a0.fPins k1).bind fun t_1 => (if (decide (t_1 < 0)) = true then some (-1) else (laws_heldInt64S a0.fStrokes t_1).bind fun t_2 => (if (decide (t_2 < 0)) = true then some (-1) else some t_2))
set_option maxRecDepth 100000 in
theorem laws_heldWear.calls (a0 : GWear) (k1 : Int) (w : World) (r : Int) (a0_fPins_a : Option Addr) (a0_fPins_an : Nat) (a0_fPins_c : Nat) (a0_fPins_h : Rw w a0_fPins_a 3 encGWornPin a0.fPins) (a0_fPins_hn : a0.fPins.length = a0_fPins_an) (a0_fStrokes_a : Option Addr) (a0_fStrokes_an : Nat) (a0_fStrokes_c : Nat) (a0_fStrokes_h : Rw w a0_fStrokes_a 1 encI64 a0.fStrokes) (a0_fStrokes_hn : a0.fStrokes.length = a0_fStrokes_an) (h : laws_heldWear a0 k1 = some r) :
    Calls Tryz.prog 21 #[(.agg #[(.slice a0_fPins_a a0_fPins_an a0_fPins_c), (.slice a0_fStrokes_a a0_fStrokes_an a0_fStrokes_c)]), (.int .i64 k1)] w fun e w' => ∃ v, e = .returned v ∧ (v = (.int .i64 r) ∧ Mem w [] [] w') := by
  subst a0_fPins_hn a0_fStrokes_hn
  rw [laws_heldWear] at h
  refine enter (args := [(.agg #[(.slice a0_fPins_a a0.fPins.length a0_fPins_c), (.slice a0_fStrokes_a a0.fStrokes.length a0_fStrokes_c)]), (.int .i64 k1)]) Tryz.func21 rfl Tryz.ntmps21 (by kernel_rfl) (L := []) (W := []) (Mem.start w) ?_
  refine jc_seq ?_
  refine jc_region ?_
  refine toO (by kernel_rfl) (p_a 0 [0] (by kernel_rfl) (fun b => by kernel_rfl) (fun b_1 => jkO ?_))
  refine jo_f [(0, 0)] (by kernel_rfl) ?_
  refine jo_end (by kernel_rfl) ?_
  refine jx_then ?_
  refine jc_seq ?_
  refine jc_region ?_
  refine jo_f [(0, 0), (0, 0), (0, 0)] (by kernel_rfl) ?_
  obtain ⟨t_1, ht_2, h⟩ := bd h
  refine toO (by kernel_rfl) (p_call 0 56 #[(.slice a0_fPins_a a0.fPins.length a0_fPins_c), (.int .i64 k1)] (by kernel_rfl) (by kernel_rfl) (fun w hm => laws_heldWornPinS.calls a0.fPins k1 w _ a0_fPins_a a0.fPins.length a0_fPins_c (hm.exRow a0_fPins_h List.not_mem_nil) rfl ht_2) ?_)
  rintro w v w' hm ⟨rfl, hm'⟩
  refine ⟨_, hm.app hm', jkO ?_⟩
  clear hm hm'
  refine jo_f [(0, 0)] (by kernel_rfl) ?_
  refine jo_end (by kernel_rfl) ?_
  refine jx_then ?_
  refine jc_seq ?_
  refine jc_seq ?_
  refine jc_region ?_
  refine jo_f [(0, 0), (0, 0)] (by kernel_rfl) ?_
  refine jo_end (by kernel_rfl) ?_
  refine jx_then ?_
  refine jc_cond (decide (t_1 < 0)) (by kernel_rfl) (fun hc_4 => ?_) (fun hc_4 => ?_)
  · replace h := ifT hc_4 h
    refine jc_seq ?_
    refine jc_region ?_
    refine jo_f [(0, 0)] (by kernel_rfl) ?_
    refine jo_end (by kernel_rfl) ?_
    refine jx_then ?_
    refine jc_ret ?_
    refine jx_thenr ?_
    obtain rfl := Option.some.inj h
    exact jx_ret [] (.int .i64 (-1)) [] rfl (by kernel_rfl) (by kernel_rfl) (fun w hm => ⟨rfl, hm.pick [] (by kernel_rfl) (by kernel_rfl)⟩)
  · replace h := ifF hc_4 h
    refine jc_skip ?_
    refine jx_then ?_
    refine jc_seq ?_
    refine jc_region ?_
    refine jo_f [(0, 0), (0, 0), (0, 0)] (by kernel_rfl) ?_
    obtain ⟨t_2, ht_5, h⟩ := bd h
    refine toO (by kernel_rfl) (p_call 0 57 #[(.slice a0_fStrokes_a a0.fStrokes.length a0_fStrokes_c), (.int .i64 t_1)] (by kernel_rfl) (by kernel_rfl) (fun w hm => laws_heldInt64S.calls a0.fStrokes t_1 w _ a0_fStrokes_a a0.fStrokes.length a0_fStrokes_c (hm.exRow a0_fStrokes_h List.not_mem_nil) rfl ht_5) ?_)
    rintro w v w' hm ⟨rfl, hm'⟩
    refine ⟨_, hm.app hm', jkO ?_⟩
    clear hm hm'
    refine jo_f [(0, 0)] (by kernel_rfl) ?_
    refine jo_end (by kernel_rfl) ?_
    refine jx_then ?_
    refine jc_seq ?_
    refine jc_seq ?_
    refine jc_region ?_
    refine jo_f [(0, 0), (0, 0)] (by kernel_rfl) ?_
    refine jo_end (by kernel_rfl) ?_
    refine jx_then ?_
    refine jc_cond (decide (t_2 < 0)) (by kernel_rfl) (fun hc_7 => ?_) (fun hc_7 => ?_)
    · replace h := ifT hc_7 h
      refine jc_seq ?_
      refine jc_region ?_
      refine jo_f [(0, 0)] (by kernel_rfl) ?_
      refine jo_end (by kernel_rfl) ?_
      refine jx_then ?_
      refine jc_ret ?_
      refine jx_thenr ?_
      obtain rfl := Option.some.inj h
      exact jx_ret [] (.int .i64 (-1)) [] rfl (by kernel_rfl) (by kernel_rfl) (fun w hm => ⟨rfl, hm.pick [] (by kernel_rfl) (by kernel_rfl)⟩)
    · replace h := ifF hc_7 h
      refine jc_skip ?_
      refine jx_then ?_
      refine jc_seq ?_
      refine jc_region ?_
      refine jo_f [(0, 0), (0, 0)] (by kernel_rfl) ?_
      refine jo_end (by kernel_rfl) ?_
      refine jx_then ?_
      refine jc_ret ?_
      obtain rfl := Option.some.inj h
      exact jx_ret [] (.int .i64 t_2) [] rfl (by kernel_rfl) (by kernel_rfl) (fun w hm => ⟨rfl, hm.pick [] (by kernel_rfl) (by kernel_rfl)⟩)

/-! ### laws.FnExactDoWearActs -/
noncomputable def laws_FnExactDoWearActs.k_32 (xs_4 : List GWornPin) (xs_5 : List Int) (i_6 : Int) (t_27 : Int × (List GWornPin) × (List Int)) (xs_29 : List GWornPin) (xs_30 : List Int) (i_31 : Int) : Option (Bool) := (laws_eqWear (⟨xs_29, xs_30⟩ : GWear) (⟨xs_4, xs_5⟩ : GWear)).bind fun t_33 => (if ((!t_33) || (i_31 != i_6)) = true then some false else (laws_heldWear (⟨t_27.2.1, t_27.2.2⟩ : GWear) 1).bind fun t_34 => (if (decide (t_34 < 0)) = true then some false else (if (t_34 != t_27.1) = true then some false else some true)))
noncomputable def laws_FnExactDoWearActs.k_26 (aF0 : GFrame) (aW1 : GWear) (aV2 : GLives) (aList3 : List GAct) (xs_4 : List GWornPin) (xs_5 : List Int) (i_6 : Int) (xs_11 : List GWornPin) (xs_12 : List Int) (q_25 : Bool) : Option (Bool) := (if q_25 = true then some false else (laws_markWear (⟨xs_11, xs_12⟩ : GWear) 1).bind fun t_27 => (laws_heldWear (⟨t_27.2.1, t_27.2.2⟩ : GWear) 1).bind fun t_28 => (if (decide (t_28 < 0)) = true then some false else (if (t_28 != t_27.1) = true then some false else (laws_toFrame aF0).bind fun t_35 => (laws_toWear aW1).bind fun t_36 => (laws_toLives aV2).bind fun t_37 => (laws_toActS aList3).bind fun t_38 => (impl_DoWearActs t_35 t_36 t_37 t_38).bind fun t_39 => laws_FnExactDoWearActs.k_32 xs_4 xs_5 i_6 t_27 t_39.1.fPins t_39.1.fStrokes t_39.2)))
noncomputable def laws_FnExactDoWearActs.k_14 (aF0 : GFrame) (aW1 : GWear) (aV2 : GLives) (aList3 : List GAct) (xs_4 : List GWornPin) (xs_5 : List Int) (i_6 : Int) (t_8 : GFrame) (t_9 : GWear) (t_10 : (List GAct)) (xs_11 : List GWornPin) (xs_12 : List Int) (i_13 : Int) : Option (Bool) := (laws_eqWear (⟨xs_11, xs_12⟩ : GWear) (⟨xs_4, xs_5⟩ : GWear)).bind fun t_15 => (if ((!t_15) || (i_13 != i_6)) = true then some false else (laws_toFrame aF0).bind fun t_16 => (laws_eqFrame t_8 t_16).bind fun t_17 => (if (!t_17) = true then some false else (laws_toWear aW1).bind fun t_18 => (laws_eqWear t_9 t_18).bind fun t_19 => (if (!t_19) = true then some false else (laws_toActS aList3).bind fun t_20 => (laws_eqActS t_10 t_20).bind fun t_21 => (if (!t_21) = true then some false else (laws_markFrame t_8 1).bind fun t_22 => (laws_markWear t_9 t_22.1).bind fun t_23 => (laws_markActS t_10 t_23.1).bind fun t_24 => (if (decide (t_24.1 < 0)) = true then laws_FnExactDoWearActs.k_26 aF0 aW1 aV2 aList3 xs_4 xs_5 i_6 xs_11 xs_12 true else (laws_eqWear (⟨xs_11, xs_12⟩ : GWear) (⟨xs_4, xs_5⟩ : GWear)).bind fun t_40 => laws_FnExactDoWearActs.k_26 aF0 aW1 aV2 aList3 xs_4 xs_5 i_6 xs_11 xs_12 ((!t_40) || (i_13 != i_6)))))))
noncomputable def laws_FnExactDoWearActs.k_7 (aF0 : GFrame) (aW1 : GWear) (aV2 : GLives) (aList3 : List GAct) (xs_4 : List GWornPin) (xs_5 : List Int) (i_6 : Int) : Option (Bool) := (laws_toFrame aF0).bind fun t_8 => (laws_toWear aW1).bind fun t_9 => (laws_toActS aList3).bind fun t_10 => (laws_toLives aV2).bind fun t_41 => (impl_DoWearActs t_8 t_9 t_41 t_10).bind fun t_42 => laws_FnExactDoWearActs.k_14 aF0 aW1 aV2 aList3 xs_4 xs_5 i_6 t_8 t_9 t_10 t_42.1.fPins t_42.1.fStrokes t_42.2
noncomputable def laws_FnExactDoWearActs (aF0 : GFrame) (aW1 : GWear) (aV2 : GLives) (aList3 : List GAct) : Option (Bool) := (laws_szFrame aF0 1048576).bind fun t_1 => (if (decide (t_1 < 0)) = true then some true else (laws_szWear aW1 t_1).bind fun t_2 => (if (decide (t_2 < 0)) = true then some true else (laws_szActS aList3 t_2).bind fun t_3 => (if (decide (t_3 < 0)) = true then some true else (laws_toFrame aF0).bind fun t_43 => (laws_toWear aW1).bind fun t_44 => (laws_toLives aV2).bind fun t_45 => (laws_toActS aList3).bind fun t_46 => (spec_DoWearActs t_43 t_44 t_45 t_46).bind fun t_47 => laws_FnExactDoWearActs.k_7 aF0 aW1 aV2 aList3 t_47.1.fPins t_47.1.fStrokes t_47.2)))
set_option maxRecDepth 100000 in
set_option maxHeartbeats 8000000 in
theorem laws_FnExactDoWearActs.calls (aF0 : GFrame) (aW1 : GWear) (aV2 : GLives) (aList3 : List GAct) (w : World) (r : Bool) (aF0_fHammers_a : Option Addr) (aF0_fHammers_an : Nat) (aF0_fHammers_c : Nat) (aF0_fHammers_h : Rw w aF0_fHammers_a 2 encGHammer aF0.fHammers) (aF0_fHammers_hn : aF0.fHammers.length = aF0_fHammers_an) (aW1_fPins_a : Option Addr) (aW1_fPins_an : Nat) (aW1_fPins_c : Nat) (aW1_fPins_h : Rw w aW1_fPins_a 3 encGWornPin aW1.fPins) (aW1_fPins_hn : aW1.fPins.length = aW1_fPins_an) (aW1_fStrokes_a : Option Addr) (aW1_fStrokes_an : Nat) (aW1_fStrokes_c : Nat) (aW1_fStrokes_h : Rw w aW1_fStrokes_a 1 encI64 aW1.fStrokes) (aW1_fStrokes_hn : aW1.fStrokes.length = aW1_fStrokes_an) (aList3_a : Option Addr) (aList3_an : Nat) (aList3_c : Nat) (aList3_h : Rw w aList3_a 5 encGAct aList3) (aList3_hn : aList3.length = aList3_an) (h : laws_FnExactDoWearActs aF0 aW1 aV2 aList3 = some r) :
    Calls Tryz.prog 3 #[(.agg #[(.int .i16 aF0.fSteps), (.slice aF0_fHammers_a aF0_fHammers_an aF0_fHammers_c)]), (.agg #[(.slice aW1_fPins_a aW1_fPins_an aW1_fPins_c), (.slice aW1_fStrokes_a aW1_fStrokes_an aW1_fStrokes_c)]), (.agg #[(.int .i64 aV2.fPin), (.int .i64 aV2.fHammer)]), (.slice aList3_a aList3_an aList3_c)] w fun e w' => ∃ v, e = .returned v ∧ (v = (.bool r) ∧ Mem w [] [] w') := by
  subst aF0_fHammers_hn aW1_fPins_hn aW1_fStrokes_hn aList3_hn
  rw [laws_FnExactDoWearActs] at h
  refine enter (args := [(.agg #[(.int .i16 aF0.fSteps), (.slice aF0_fHammers_a aF0.fHammers.length aF0_fHammers_c)]), (.agg #[(.slice aW1_fPins_a aW1.fPins.length aW1_fPins_c), (.slice aW1_fStrokes_a aW1.fStrokes.length aW1_fStrokes_c)]), (.agg #[(.int .i64 aV2.fPin), (.int .i64 aV2.fHammer)]), (.slice aList3_a aList3.length aList3_c)]) Tryz.func3 rfl Tryz.ntmps3 (by kernel_rfl) (L := []) (W := []) (Mem.start w) ?_
  refine jc_seq ?_
  refine jc_region ?_
  refine toO (by kernel_rfl) (p_a 0 [0] (by kernel_rfl) (fun b => by kernel_rfl) (fun b_1 => jkO ?_))
  refine toO (by kernel_rfl) (p_a 0 [0] (by kernel_rfl) (fun b => by kernel_rfl) (fun b_2 => jkO ?_))
  refine toO (by kernel_rfl) (p_a 0 [0] (by kernel_rfl) (fun b => by kernel_rfl) (fun b_3 => jkO ?_))
  refine jo_f [(0, 0)] (by kernel_rfl) ?_
  refine jo_end (by kernel_rfl) ?_
  refine jx_then ?_
  refine jc_seq ?_
  refine jc_region ?_
  refine jo_f [(0, 0)] (by kernel_rfl) ?_
  refine jo_end (by kernel_rfl) ?_
  refine jx_then ?_
  refine jc_seq ?_
  refine jc_region ?_
  refine jo_f [(0, 0), (0, 0)] (by kernel_rfl) ?_
  obtain ⟨t_1, ht_4, h⟩ := bd h
  refine toO (by kernel_rfl) (p_call 0 6 #[(.agg #[(.int .i16 aF0.fSteps), (.slice aF0_fHammers_a aF0.fHammers.length aF0_fHammers_c)]), (.int .i64 1048576)] (by kernel_rfl) (by kernel_rfl) (fun w hm => laws_szFrame.calls aF0 1048576 w _ aF0_fHammers_a aF0.fHammers.length aF0_fHammers_c (hm.exRow aF0_fHammers_h List.not_mem_nil) rfl ht_4) ?_)
  rintro w v w' hm ⟨rfl, hm'⟩
  refine ⟨_, hm.app hm', jkO ?_⟩
  clear hm hm'
  refine jo_f [(0, 0)] (by kernel_rfl) ?_
  refine jo_end (by kernel_rfl) ?_
  refine jx_then ?_
  refine jc_seq ?_
  refine jc_seq ?_
  refine jc_region ?_
  refine jo_f [(0, 0), (0, 0)] (by kernel_rfl) ?_
  refine jo_end (by kernel_rfl) ?_
  refine jx_then ?_
  refine jc_cond (decide (t_1 < 0)) (by kernel_rfl) (fun hc_6 => ?_) (fun hc_6 => ?_)
  · replace h := ifT hc_6 h
    refine jc_seq ?_
    refine jc_region ?_
    refine jo_f [(0, 0)] (by kernel_rfl) ?_
    refine jo_end (by kernel_rfl) ?_
    refine jx_then ?_
    refine jc_ret ?_
    refine jx_thenr ?_
    obtain rfl := Option.some.inj h
    exact jx_ret [] (.bool true) [] rfl (by kernel_rfl) (by kernel_rfl) (fun w hm => ⟨rfl, hm.pick [] (by kernel_rfl) (by kernel_rfl)⟩)
  · replace h := ifF hc_6 h
    refine jc_skip ?_
    refine jx_then ?_
    refine jc_seq ?_
    refine jc_region ?_
    refine jo_f [(1, 0), (0, 0)] (by kernel_rfl) ?_
    obtain ⟨t_2, ht_7, h⟩ := bd h
    refine toO (by kernel_rfl) (p_call 0 7 #[(.agg #[(.slice aW1_fPins_a aW1.fPins.length aW1_fPins_c), (.slice aW1_fStrokes_a aW1.fStrokes.length aW1_fStrokes_c)]), (.int .i64 t_1)] (by kernel_rfl) (by kernel_rfl) (fun w hm => laws_szWear.calls aW1 t_1 w _ aW1_fPins_a aW1.fPins.length aW1_fPins_c (hm.exRow aW1_fPins_h List.not_mem_nil) rfl aW1_fStrokes_a aW1.fStrokes.length aW1_fStrokes_c (hm.exRow aW1_fStrokes_h List.not_mem_nil) rfl ht_7) ?_)
    rintro w v w' hm ⟨rfl, hm'⟩
    refine ⟨_, hm.app hm', jkO ?_⟩
    clear hm hm'
    refine jo_f [(0, 0)] (by kernel_rfl) ?_
    refine jo_end (by kernel_rfl) ?_
    refine jx_then ?_
    refine jc_seq ?_
    refine jc_seq ?_
    refine jc_region ?_
    refine jo_f [(0, 0), (0, 0)] (by kernel_rfl) ?_
    refine jo_end (by kernel_rfl) ?_
    refine jx_then ?_
    refine jc_cond (decide (t_2 < 0)) (by kernel_rfl) (fun hc_9 => ?_) (fun hc_9 => ?_)
    · replace h := ifT hc_9 h
      refine jc_seq ?_
      refine jc_region ?_
      refine jo_f [(0, 0)] (by kernel_rfl) ?_
      refine jo_end (by kernel_rfl) ?_
      refine jx_then ?_
      refine jc_ret ?_
      refine jx_thenr ?_
      obtain rfl := Option.some.inj h
      exact jx_ret [] (.bool true) [] rfl (by kernel_rfl) (by kernel_rfl) (fun w hm => ⟨rfl, hm.pick [] (by kernel_rfl) (by kernel_rfl)⟩)
    · replace h := ifF hc_9 h
      refine jc_skip ?_
      refine jx_then ?_
      refine jc_seq ?_
      refine jc_region ?_
      refine jo_f [(0, 0), (0, 0)] (by kernel_rfl) ?_
      obtain ⟨t_3, ht_10, h⟩ := bd h
      refine toO (by kernel_rfl) (p_call 0 8 #[(.slice aList3_a aList3.length aList3_c), (.int .i64 t_2)] (by kernel_rfl) (by kernel_rfl) (fun w hm => laws_szActS.calls aList3 t_2 w _ aList3_a aList3.length aList3_c (hm.exRow aList3_h List.not_mem_nil) rfl ht_10) ?_)
      rintro w v w' hm ⟨rfl, hm'⟩
      refine ⟨_, hm.app hm', jkO ?_⟩
      clear hm hm'
      refine jo_f [(0, 0)] (by kernel_rfl) ?_
      refine jo_end (by kernel_rfl) ?_
      refine jx_then ?_
      refine jc_seq ?_
      refine jc_seq ?_
      refine jc_region ?_
      refine jo_f [(0, 0), (0, 0)] (by kernel_rfl) ?_
      refine jo_end (by kernel_rfl) ?_
      refine jx_then ?_
      refine jc_cond (decide (t_3 < 0)) (by kernel_rfl) (fun hc_12 => ?_) (fun hc_12 => ?_)
      · replace h := ifT hc_12 h
        refine jc_seq ?_
        refine jc_region ?_
        refine jo_f [(0, 0)] (by kernel_rfl) ?_
        refine jo_end (by kernel_rfl) ?_
        refine jx_then ?_
        refine jc_ret ?_
        refine jx_thenr ?_
        obtain rfl := Option.some.inj h
        exact jx_ret [] (.bool true) [] rfl (by kernel_rfl) (by kernel_rfl) (fun w hm => ⟨rfl, hm.pick [] (by kernel_rfl) (by kernel_rfl)⟩)
      · replace h := ifF hc_12 h
        refine jc_skip ?_
        refine jx_then ?_
        refine jc_seq ?_
        refine jc_meet (fun (j : (List GWornPin) × (List Int) × Int × Nat × (Option Nat) × Nat × (List Value) × Nat × (Option Nat) × Nat × (List Value) × Nat) => match j with | ⟨xs_4, xs_5, i_6, b_164, o_165, cap_166, sp_167, n_168, o_171, cap_172, sp_173, n_174⟩ => laws_FnExactDoWearActs.k_7 aF0 aW1 aV2 aList3 xs_4 xs_5 i_6 = some r ∧ (xs_4.length = n_168) ∧ ((o_165 ≠ none → n_168 ≤ cap_166 ∧ sp_167.length = (cap_166 - n_168) * 3)) ∧ ((o_165 = none → xs_4 = [] ∧ cap_166 = 0)) ∧ (xs_5.length = n_174) ∧ ((o_171 ≠ none → n_174 ≤ cap_172 ∧ sp_173.length = (cap_172 - n_174) * 1)) ∧ ((o_171 = none → xs_5 = [] ∧ cap_172 = 0))) (fun (j : (List GWornPin) × (List Int) × Int × Nat × (Option Nat) × Nat × (List Value) × Nat × (Option Nat) × Nat × (List Value) × Nat) => match j with | ⟨xs_4, xs_5, i_6, b_164, o_165, cap_166, sp_167, n_168, o_171, cap_172, sp_173, n_174⟩ => [(3, [], (.slice aList3_a aList3.length aList3_c)), (4, [], (.pointer (some ⟨b_1, 0, none⟩))), (5, [], (.pointer (some ⟨b_2, 0, none⟩))), (6, [], (.pointer (some ⟨b_3, 0, none⟩))), (8, [], (.bool false)), (10, [], (.pointer (some ⟨b_164, 0, none⟩))), (11, [], (.int .i64 i_6))]) (fun (j : (List GWornPin) × (List Int) × Int × Nat × (Option Nat) × Nat × (List Value) × Nat × (Option Nat) × Nat × (List Value) × Nat) => match j with | ⟨xs_4, xs_5, i_6, b_164, o_165, cap_166, sp_167, n_168, o_171, cap_172, sp_173, n_174⟩ => [⟨some b_1, 25, [(.int .i16 aF0.fSteps), (.slice aF0_fHammers_a aF0.fHammers.length aF0_fHammers_c)]⟩, ⟨some b_2, 29, [(.slice aW1_fPins_a aW1.fPins.length aW1_fPins_c), (.slice aW1_fStrokes_a aW1.fStrokes.length aW1_fStrokes_c)]⟩, ⟨some b_3, 31, [(.int .i64 aV2.fPin), (.int .i64 aV2.fHammer)]⟩, ⟨some b_164, 38, [(.slice (o_165.map fun b => ⟨b, 0, none⟩) n_168 cap_166), (.slice (o_171.map fun b => ⟨b, 0, none⟩) n_174 cap_172)]⟩, ⟨o_165, 75, row encGWornPin xs_4 sp_167⟩, ⟨o_171, 2, row encI64 xs_5 sp_173⟩]) ?_ ?_
        · refine jc_draw [⟨some b_1, 25, [(.int .i16 aF0.fSteps), (.slice aF0_fHammers_a aF0.fHammers.length aF0_fHammers_c)]⟩, ⟨some b_2, 29, [(.slice aW1_fPins_a aW1.fPins.length aW1_fPins_c), (.slice aW1_fStrokes_a aW1.fStrokes.length aW1_fStrokes_c)]⟩, ⟨some b_3, 31, [(.int .i64 aV2.fPin), (.int .i64 aV2.fHammer)]⟩] 15 (by kernel_rfl) (by kernel_rfl) ?_
          refine jd_f [⟨0, 0, 0⟩, ⟨2, 1, 0⟩, ⟨4, 2, 0⟩, ⟨6, 0, 0⟩] 11 (by kernel_rfl) (by kernel_rfl) (fun w h => h.pick [0, 1, 2] (by kernel_rfl) (by kernel_rfl)) (by kernel_rfl) (by kernel_rfl) ?_
          refine toD2 1 12 (by kernel_rfl) ?_ ?_
          · obtain ⟨t_43, ht_975, h⟩ := bd h
            refine p_call 0 10 #[(.agg #[(.int .i16 aF0.fSteps), (.slice aF0_fHammers_a aF0.fHammers.length aF0_fHammers_c)])] (by kernel_rfl) (by kernel_rfl) (fun w hm => laws_toFrame.calls aF0 w _ aF0_fHammers_a aF0.fHammers.length aF0_fHammers_c (hm.exRow aF0_fHammers_h List.not_mem_nil) rfl ht_975) ?_
            rintro w v w' hm ⟨o_976, cap_977, sp_978, _, rfl, hs_979, ho_980, rfl, hm'⟩
            refine ⟨_, hm.app hm', jkD (fun w h => h.pick [0, 1, 2] (by kernel_rfl) (by kernel_rfl)) ?_⟩
            clear hm hm'
            refine toD2 3 12 (by kernel_rfl) ?_ ?_
            · obtain ⟨t_44, ht_981, h⟩ := bd h
              refine p_call 0 11 #[(.agg #[(.slice aW1_fPins_a aW1.fPins.length aW1_fPins_c), (.slice aW1_fStrokes_a aW1.fStrokes.length aW1_fStrokes_c)])] (by kernel_rfl) (by kernel_rfl) (fun w hm => laws_toWear.calls aW1 w _ aW1_fPins_a aW1.fPins.length aW1_fPins_c (hm.exRow aW1_fPins_h List.not_mem_nil) rfl aW1_fStrokes_a aW1.fStrokes.length aW1_fStrokes_c (hm.exRow aW1_fStrokes_h List.not_mem_nil) rfl ht_981) ?_
              rintro w v w' hm ⟨o_982, cap_983, sp_984, _, rfl, hs_985, ho_986, o_987, cap_988, sp_989, _, rfl, hs_990, ho_991, rfl, hm'⟩
              refine ⟨_, hm.app hm', jkD (fun w h => h.pick [0, 1, 2] (by kernel_rfl) (by kernel_rfl)) ?_⟩
              clear hm hm'
              refine toD2 5 12 (by kernel_rfl) ?_ ?_
              · obtain ⟨t_45, ht_992, h⟩ := bd h
                refine p_call 0 12 #[(.agg #[(.int .i64 aV2.fPin), (.int .i64 aV2.fHammer)])] (by kernel_rfl) (by kernel_rfl) (fun w hm => laws_toLives.calls aV2 w _ ht_992) ?_
                rintro w v w' hm ⟨rfl, hm'⟩
                refine ⟨_, hm.app hm', jkD (fun w h => h.pick [0, 1, 2] (by kernel_rfl) (by kernel_rfl)) ?_⟩
                clear hm hm'
                refine toD2 7 12 (by kernel_rfl) ?_ ?_
                · obtain ⟨t_46, ht_993, h⟩ := bd h
                  refine p_call 0 13 #[(.slice aList3_a aList3.length aList3_c)] (by kernel_rfl) (by kernel_rfl) (fun w hm => laws_toActS.calls aList3 w _ aList3_a aList3.length aList3_c (hm.exRow aList3_h List.not_mem_nil) rfl ht_993) ?_
                  rintro w v w' hm ⟨o_994, cap_995, sp_996, _, rfl, hs_997, ho_998, rfl, hm'⟩
                  refine ⟨_, hm.app hm', jkD (fun w h => h.pick [0, 1, 2] (by kernel_rfl) (by kernel_rfl)) ?_⟩
                  clear hm hm'
                  refine toD2 8 12 (by kernel_rfl) ?_ ?_
                  · obtain ⟨t_47, ht_999, h⟩ := bd h
                    refine p_call 0 9 #[(.agg #[(.int .i16 t_43.fSteps), (.slice (o_976.map fun b => ⟨b, 0, none⟩) t_43.fHammers.length cap_977)]), (.agg #[(.slice (o_982.map fun b => ⟨b, 0, none⟩) t_44.fPins.length cap_983), (.slice (o_987.map fun b => ⟨b, 0, none⟩) t_44.fStrokes.length cap_988)]), (.agg #[(.int .i64 t_45.fPin), (.int .i64 t_45.fHammer)]), (.slice (o_994.map fun b => ⟨b, 0, none⟩) t_46.length cap_995)] (by kernel_rfl) (by kernel_rfl) (fun w hm => spec_DoWearActs.calls t_43 t_44 t_45 t_46 w _ (o_976.map fun b => ⟨b, 0, none⟩) t_43.fHammers.length cap_977 (hm.ownRow (hh := 3) (o := o_976) (T := 137) (enc := encGHammer) (xs := t_43.fHammers) (sp := sp_978) (by kernel_rfl) (fun e => (ho_980 e).1) encGHammer_len) rfl (o_982.map fun b => ⟨b, 0, none⟩) t_44.fPins.length cap_983 (hm.ownRow (hh := 4) (o := o_982) (T := 75) (enc := encGWornPin) (xs := t_44.fPins) (sp := sp_984) (by kernel_rfl) (fun e => (ho_986 e).1) encGWornPin_len) rfl (o_987.map fun b => ⟨b, 0, none⟩) t_44.fStrokes.length cap_988 (hm.ownRow (hh := 5) (o := o_987) (T := 2) (enc := encI64) (xs := t_44.fStrokes) (sp := sp_989) (by kernel_rfl) (fun e => (ho_991 e).1) encI64_len) rfl (o_994.map fun b => ⟨b, 0, none⟩) t_46.length cap_995 (hm.ownRow (hh := 6) (o := o_994) (T := 89) (enc := encGAct) (xs := t_46) (sp := sp_996) (by kernel_rfl) (fun e => (ho_998 e).1) encGAct_len) rfl ht_999) ?_
                    rintro w v w' hm ⟨o_1000, cap_1001, sp_1002, _, rfl, hs_1003, ho_1004, o_1005, cap_1006, sp_1007, _, rfl, hs_1008, ho_1009, rfl, hm'⟩
                    refine ⟨_, hm.app hm', jkD (fun w h => h.pick [0, 1, 2] (by kernel_rfl) (by kernel_rfl)) ?_⟩
                    clear hm hm'
                    refine jd_f [⟨9, 0, 0⟩, ⟨10, 0, 0⟩, ⟨11, 0, 0⟩] 3 (by kernel_rfl) (by kernel_rfl) (fun w h => h.pick [0, 1, 2] (by kernel_rfl) (by kernel_rfl)) (by kernel_rfl) (by kernel_rfl) ?_
                    refine toD 12 (by kernel_rfl) (p_a 0 [0] (by kernel_rfl) (fun b => by kernel_rfl) (fun b_1010 => jkD (fun w h => h.pick [0, 1, 2] (by kernel_rfl) (by kernel_rfl)) ?_))
                    refine toD 13 (by kernel_rfl) (p_s 0 [9] (by kernel_rfl) (by kernel_rfl) (jkD (fun w h => h.pick [0, 1, 2] (by kernel_rfl) (by kernel_rfl)) ?_))
                    refine jd_f [⟨14, 0, 0⟩] 0 (by kernel_rfl) (by kernel_rfl) (fun w h => h.pick [0, 1, 2] (by kernel_rfl) (by kernel_rfl)) (by kernel_rfl) (by kernel_rfl) ?_
                    refine jd_end (by kernel_rfl) ?_
                    exact jx_meet ⟨t_47.1.fPins, t_47.1.fStrokes, t_47.2, b_1010, o_1000, cap_1001, sp_1002, t_47.1.fPins.length, o_1005, cap_1006, sp_1007, t_47.1.fStrokes.length⟩ ⟨h, rfl, hs_1003, ho_1004, rfl, hs_1008, ho_1009⟩ (by kernel_rfl) [0, 1, 2, 9, 7, 8] (by kernel_rfl) (by kernel_rfl)
                  · refine p_a 0 [0] (by kernel_rfl) (fun b => by kernel_rfl) (fun b_1011 => jkD (fun w h => h.pick [0, 1, 2] (by kernel_rfl) (by kernel_rfl)) ?_)
                    obtain ⟨t_47, ht_1012, h⟩ := bd h
                    refine toD 8 (by kernel_rfl) (p_call 0 9 #[(.agg #[(.int .i16 t_43.fSteps), (.slice (o_976.map fun b => ⟨b, 0, none⟩) t_43.fHammers.length cap_977)]), (.agg #[(.slice (o_982.map fun b => ⟨b, 0, none⟩) t_44.fPins.length cap_983), (.slice (o_987.map fun b => ⟨b, 0, none⟩) t_44.fStrokes.length cap_988)]), (.agg #[(.int .i64 t_45.fPin), (.int .i64 t_45.fHammer)]), (.slice (o_994.map fun b => ⟨b, 0, none⟩) t_46.length cap_995)] (by kernel_rfl) (by kernel_rfl) (fun w hm => spec_DoWearActs.calls t_43 t_44 t_45 t_46 w _ (o_976.map fun b => ⟨b, 0, none⟩) t_43.fHammers.length cap_977 (hm.ownRow (hh := 3) (o := o_976) (T := 137) (enc := encGHammer) (xs := t_43.fHammers) (sp := sp_978) (by kernel_rfl) (fun e => (ho_980 e).1) encGHammer_len) rfl (o_982.map fun b => ⟨b, 0, none⟩) t_44.fPins.length cap_983 (hm.ownRow (hh := 4) (o := o_982) (T := 75) (enc := encGWornPin) (xs := t_44.fPins) (sp := sp_984) (by kernel_rfl) (fun e => (ho_986 e).1) encGWornPin_len) rfl (o_987.map fun b => ⟨b, 0, none⟩) t_44.fStrokes.length cap_988 (hm.ownRow (hh := 5) (o := o_987) (T := 2) (enc := encI64) (xs := t_44.fStrokes) (sp := sp_989) (by kernel_rfl) (fun e => (ho_991 e).1) encI64_len) rfl (o_994.map fun b => ⟨b, 0, none⟩) t_46.length cap_995 (hm.ownRow (hh := 6) (o := o_994) (T := 89) (enc := encGAct) (xs := t_46) (sp := sp_996) (by kernel_rfl) (fun e => (ho_998 e).1) encGAct_len) rfl ht_1012) ?_)
                    rintro w v w' hm ⟨o_1013, cap_1014, sp_1015, _, rfl, hs_1016, ho_1017, o_1018, cap_1019, sp_1020, _, rfl, hs_1021, ho_1022, rfl, hm'⟩
                    refine ⟨_, hm.app hm', jkD (fun w h => h.pick [0, 1, 2] (by kernel_rfl) (by kernel_rfl)) ?_⟩
                    clear hm hm'
                    refine jd_f [⟨9, 0, 0⟩, ⟨10, 0, 0⟩, ⟨11, 0, 0⟩] 2 (by kernel_rfl) (by kernel_rfl) (fun w h => h.pick [0, 1, 2] (by kernel_rfl) (by kernel_rfl)) (by kernel_rfl) (by kernel_rfl) ?_
                    refine toD 13 (by kernel_rfl) (p_s 0 [7] (by kernel_rfl) (by kernel_rfl) (jkD (fun w h => h.pick [0, 1, 2] (by kernel_rfl) (by kernel_rfl)) ?_))
                    refine jd_f [⟨14, 0, 0⟩] 0 (by kernel_rfl) (by kernel_rfl) (fun w h => h.pick [0, 1, 2] (by kernel_rfl) (by kernel_rfl)) (by kernel_rfl) (by kernel_rfl) ?_
                    refine jd_end (by kernel_rfl) ?_
                    exact jx_meet ⟨t_47.1.fPins, t_47.1.fStrokes, t_47.2, b_1011, o_1013, cap_1014, sp_1015, t_47.1.fPins.length, o_1018, cap_1019, sp_1020, t_47.1.fStrokes.length⟩ ⟨h, rfl, hs_1016, ho_1017, rfl, hs_1021, ho_1022⟩ (by kernel_rfl) [0, 1, 2, 7, 8, 9] (by kernel_rfl) (by kernel_rfl)
                · refine p_a 0 [0] (by kernel_rfl) (fun b => by kernel_rfl) (fun b_1023 => jkD (fun w h => h.pick [0, 1, 2] (by kernel_rfl) (by kernel_rfl)) ?_)
                  obtain ⟨t_46, ht_1024, h⟩ := bd h
                  refine toD 7 (by kernel_rfl) (p_call 0 13 #[(.slice aList3_a aList3.length aList3_c)] (by kernel_rfl) (by kernel_rfl) (fun w hm => laws_toActS.calls aList3 w _ aList3_a aList3.length aList3_c (hm.exRow aList3_h List.not_mem_nil) rfl ht_1024) ?_)
                  rintro w v w' hm ⟨o_1025, cap_1026, sp_1027, _, rfl, hs_1028, ho_1029, rfl, hm'⟩
                  refine ⟨_, hm.app hm', jkD (fun w h => h.pick [0, 1, 2] (by kernel_rfl) (by kernel_rfl)) ?_⟩
                  clear hm hm'
                  obtain ⟨t_47, ht_1030, h⟩ := bd h
                  refine toD 8 (by kernel_rfl) (p_call 0 9 #[(.agg #[(.int .i16 t_43.fSteps), (.slice (o_976.map fun b => ⟨b, 0, none⟩) t_43.fHammers.length cap_977)]), (.agg #[(.slice (o_982.map fun b => ⟨b, 0, none⟩) t_44.fPins.length cap_983), (.slice (o_987.map fun b => ⟨b, 0, none⟩) t_44.fStrokes.length cap_988)]), (.agg #[(.int .i64 t_45.fPin), (.int .i64 t_45.fHammer)]), (.slice (o_1025.map fun b => ⟨b, 0, none⟩) t_46.length cap_1026)] (by kernel_rfl) (by kernel_rfl) (fun w hm => spec_DoWearActs.calls t_43 t_44 t_45 t_46 w _ (o_976.map fun b => ⟨b, 0, none⟩) t_43.fHammers.length cap_977 (hm.ownRow (hh := 3) (o := o_976) (T := 137) (enc := encGHammer) (xs := t_43.fHammers) (sp := sp_978) (by kernel_rfl) (fun e => (ho_980 e).1) encGHammer_len) rfl (o_982.map fun b => ⟨b, 0, none⟩) t_44.fPins.length cap_983 (hm.ownRow (hh := 4) (o := o_982) (T := 75) (enc := encGWornPin) (xs := t_44.fPins) (sp := sp_984) (by kernel_rfl) (fun e => (ho_986 e).1) encGWornPin_len) rfl (o_987.map fun b => ⟨b, 0, none⟩) t_44.fStrokes.length cap_988 (hm.ownRow (hh := 5) (o := o_987) (T := 2) (enc := encI64) (xs := t_44.fStrokes) (sp := sp_989) (by kernel_rfl) (fun e => (ho_991 e).1) encI64_len) rfl (o_1025.map fun b => ⟨b, 0, none⟩) t_46.length cap_1026 (hm.ownRow (hh := 7) (o := o_1025) (T := 89) (enc := encGAct) (xs := t_46) (sp := sp_1027) (by kernel_rfl) (fun e => (ho_1029 e).1) encGAct_len) rfl ht_1030) ?_)
                  rintro w v w' hm ⟨o_1031, cap_1032, sp_1033, _, rfl, hs_1034, ho_1035, o_1036, cap_1037, sp_1038, _, rfl, hs_1039, ho_1040, rfl, hm'⟩
                  refine ⟨_, hm.app hm', jkD (fun w h => h.pick [0, 1, 2] (by kernel_rfl) (by kernel_rfl)) ?_⟩
                  clear hm hm'
                  refine jd_f [⟨9, 0, 0⟩, ⟨10, 0, 0⟩, ⟨11, 0, 0⟩] 2 (by kernel_rfl) (by kernel_rfl) (fun w h => h.pick [0, 1, 2] (by kernel_rfl) (by kernel_rfl)) (by kernel_rfl) (by kernel_rfl) ?_
                  refine toD 13 (by kernel_rfl) (p_s 0 [6] (by kernel_rfl) (by kernel_rfl) (jkD (fun w h => h.pick [0, 1, 2] (by kernel_rfl) (by kernel_rfl)) ?_))
                  refine jd_f [⟨14, 0, 0⟩] 0 (by kernel_rfl) (by kernel_rfl) (fun w h => h.pick [0, 1, 2] (by kernel_rfl) (by kernel_rfl)) (by kernel_rfl) (by kernel_rfl) ?_
                  refine jd_end (by kernel_rfl) ?_
                  exact jx_meet ⟨t_47.1.fPins, t_47.1.fStrokes, t_47.2, b_1023, o_1031, cap_1032, sp_1033, t_47.1.fPins.length, o_1036, cap_1037, sp_1038, t_47.1.fStrokes.length⟩ ⟨h, rfl, hs_1034, ho_1035, rfl, hs_1039, ho_1040⟩ (by kernel_rfl) [0, 1, 2, 6, 8, 9] (by kernel_rfl) (by kernel_rfl)
              · refine p_a 0 [0] (by kernel_rfl) (fun b => by kernel_rfl) (fun b_1041 => jkD (fun w h => h.pick [0, 1, 2] (by kernel_rfl) (by kernel_rfl)) ?_)
                obtain ⟨t_45, ht_1042, h⟩ := bd h
                refine toD 5 (by kernel_rfl) (p_call 0 12 #[(.agg #[(.int .i64 aV2.fPin), (.int .i64 aV2.fHammer)])] (by kernel_rfl) (by kernel_rfl) (fun w hm => laws_toLives.calls aV2 w _ ht_1042) ?_)
                rintro w v w' hm ⟨rfl, hm'⟩
                refine ⟨_, hm.app hm', jkD (fun w h => h.pick [0, 1, 2] (by kernel_rfl) (by kernel_rfl)) ?_⟩
                clear hm hm'
                obtain ⟨t_46, ht_1043, h⟩ := bd h
                refine toD 7 (by kernel_rfl) (p_call 0 13 #[(.slice aList3_a aList3.length aList3_c)] (by kernel_rfl) (by kernel_rfl) (fun w hm => laws_toActS.calls aList3 w _ aList3_a aList3.length aList3_c (hm.exRow aList3_h List.not_mem_nil) rfl ht_1043) ?_)
                rintro w v w' hm ⟨o_1044, cap_1045, sp_1046, _, rfl, hs_1047, ho_1048, rfl, hm'⟩
                refine ⟨_, hm.app hm', jkD (fun w h => h.pick [0, 1, 2] (by kernel_rfl) (by kernel_rfl)) ?_⟩
                clear hm hm'
                obtain ⟨t_47, ht_1049, h⟩ := bd h
                refine toD 8 (by kernel_rfl) (p_call 0 9 #[(.agg #[(.int .i16 t_43.fSteps), (.slice (o_976.map fun b => ⟨b, 0, none⟩) t_43.fHammers.length cap_977)]), (.agg #[(.slice (o_982.map fun b => ⟨b, 0, none⟩) t_44.fPins.length cap_983), (.slice (o_987.map fun b => ⟨b, 0, none⟩) t_44.fStrokes.length cap_988)]), (.agg #[(.int .i64 t_45.fPin), (.int .i64 t_45.fHammer)]), (.slice (o_1044.map fun b => ⟨b, 0, none⟩) t_46.length cap_1045)] (by kernel_rfl) (by kernel_rfl) (fun w hm => spec_DoWearActs.calls t_43 t_44 t_45 t_46 w _ (o_976.map fun b => ⟨b, 0, none⟩) t_43.fHammers.length cap_977 (hm.ownRow (hh := 3) (o := o_976) (T := 137) (enc := encGHammer) (xs := t_43.fHammers) (sp := sp_978) (by kernel_rfl) (fun e => (ho_980 e).1) encGHammer_len) rfl (o_982.map fun b => ⟨b, 0, none⟩) t_44.fPins.length cap_983 (hm.ownRow (hh := 4) (o := o_982) (T := 75) (enc := encGWornPin) (xs := t_44.fPins) (sp := sp_984) (by kernel_rfl) (fun e => (ho_986 e).1) encGWornPin_len) rfl (o_987.map fun b => ⟨b, 0, none⟩) t_44.fStrokes.length cap_988 (hm.ownRow (hh := 5) (o := o_987) (T := 2) (enc := encI64) (xs := t_44.fStrokes) (sp := sp_989) (by kernel_rfl) (fun e => (ho_991 e).1) encI64_len) rfl (o_1044.map fun b => ⟨b, 0, none⟩) t_46.length cap_1045 (hm.ownRow (hh := 7) (o := o_1044) (T := 89) (enc := encGAct) (xs := t_46) (sp := sp_1046) (by kernel_rfl) (fun e => (ho_1048 e).1) encGAct_len) rfl ht_1049) ?_)
                rintro w v w' hm ⟨o_1050, cap_1051, sp_1052, _, rfl, hs_1053, ho_1054, o_1055, cap_1056, sp_1057, _, rfl, hs_1058, ho_1059, rfl, hm'⟩
                refine ⟨_, hm.app hm', jkD (fun w h => h.pick [0, 1, 2] (by kernel_rfl) (by kernel_rfl)) ?_⟩
                clear hm hm'
                refine jd_f [⟨9, 0, 0⟩, ⟨10, 0, 0⟩, ⟨11, 0, 0⟩] 2 (by kernel_rfl) (by kernel_rfl) (fun w h => h.pick [0, 1, 2] (by kernel_rfl) (by kernel_rfl)) (by kernel_rfl) (by kernel_rfl) ?_
                refine toD 13 (by kernel_rfl) (p_s 0 [6] (by kernel_rfl) (by kernel_rfl) (jkD (fun w h => h.pick [0, 1, 2] (by kernel_rfl) (by kernel_rfl)) ?_))
                refine jd_f [⟨14, 0, 0⟩] 0 (by kernel_rfl) (by kernel_rfl) (fun w h => h.pick [0, 1, 2] (by kernel_rfl) (by kernel_rfl)) (by kernel_rfl) (by kernel_rfl) ?_
                refine jd_end (by kernel_rfl) ?_
                exact jx_meet ⟨t_47.1.fPins, t_47.1.fStrokes, t_47.2, b_1041, o_1050, cap_1051, sp_1052, t_47.1.fPins.length, o_1055, cap_1056, sp_1057, t_47.1.fStrokes.length⟩ ⟨h, rfl, hs_1053, ho_1054, rfl, hs_1058, ho_1059⟩ (by kernel_rfl) [0, 1, 2, 6, 8, 9] (by kernel_rfl) (by kernel_rfl)
            · refine p_a 0 [0] (by kernel_rfl) (fun b => by kernel_rfl) (fun b_1060 => jkD (fun w h => h.pick [0, 1, 2] (by kernel_rfl) (by kernel_rfl)) ?_)
              obtain ⟨t_44, ht_1061, h⟩ := bd h
              refine toD 3 (by kernel_rfl) (p_call 0 11 #[(.agg #[(.slice aW1_fPins_a aW1.fPins.length aW1_fPins_c), (.slice aW1_fStrokes_a aW1.fStrokes.length aW1_fStrokes_c)])] (by kernel_rfl) (by kernel_rfl) (fun w hm => laws_toWear.calls aW1 w _ aW1_fPins_a aW1.fPins.length aW1_fPins_c (hm.exRow aW1_fPins_h List.not_mem_nil) rfl aW1_fStrokes_a aW1.fStrokes.length aW1_fStrokes_c (hm.exRow aW1_fStrokes_h List.not_mem_nil) rfl ht_1061) ?_)
              rintro w v w' hm ⟨o_1062, cap_1063, sp_1064, _, rfl, hs_1065, ho_1066, o_1067, cap_1068, sp_1069, _, rfl, hs_1070, ho_1071, rfl, hm'⟩
              refine ⟨_, hm.app hm', jkD (fun w h => h.pick [0, 1, 2] (by kernel_rfl) (by kernel_rfl)) ?_⟩
              clear hm hm'
              obtain ⟨t_45, ht_1072, h⟩ := bd h
              refine toD 5 (by kernel_rfl) (p_call 0 12 #[(.agg #[(.int .i64 aV2.fPin), (.int .i64 aV2.fHammer)])] (by kernel_rfl) (by kernel_rfl) (fun w hm => laws_toLives.calls aV2 w _ ht_1072) ?_)
              rintro w v w' hm ⟨rfl, hm'⟩
              refine ⟨_, hm.app hm', jkD (fun w h => h.pick [0, 1, 2] (by kernel_rfl) (by kernel_rfl)) ?_⟩
              clear hm hm'
              obtain ⟨t_46, ht_1073, h⟩ := bd h
              refine toD 7 (by kernel_rfl) (p_call 0 13 #[(.slice aList3_a aList3.length aList3_c)] (by kernel_rfl) (by kernel_rfl) (fun w hm => laws_toActS.calls aList3 w _ aList3_a aList3.length aList3_c (hm.exRow aList3_h List.not_mem_nil) rfl ht_1073) ?_)
              rintro w v w' hm ⟨o_1074, cap_1075, sp_1076, _, rfl, hs_1077, ho_1078, rfl, hm'⟩
              refine ⟨_, hm.app hm', jkD (fun w h => h.pick [0, 1, 2] (by kernel_rfl) (by kernel_rfl)) ?_⟩
              clear hm hm'
              obtain ⟨t_47, ht_1079, h⟩ := bd h
              refine toD 8 (by kernel_rfl) (p_call 0 9 #[(.agg #[(.int .i16 t_43.fSteps), (.slice (o_976.map fun b => ⟨b, 0, none⟩) t_43.fHammers.length cap_977)]), (.agg #[(.slice (o_1062.map fun b => ⟨b, 0, none⟩) t_44.fPins.length cap_1063), (.slice (o_1067.map fun b => ⟨b, 0, none⟩) t_44.fStrokes.length cap_1068)]), (.agg #[(.int .i64 t_45.fPin), (.int .i64 t_45.fHammer)]), (.slice (o_1074.map fun b => ⟨b, 0, none⟩) t_46.length cap_1075)] (by kernel_rfl) (by kernel_rfl) (fun w hm => spec_DoWearActs.calls t_43 t_44 t_45 t_46 w _ (o_976.map fun b => ⟨b, 0, none⟩) t_43.fHammers.length cap_977 (hm.ownRow (hh := 3) (o := o_976) (T := 137) (enc := encGHammer) (xs := t_43.fHammers) (sp := sp_978) (by kernel_rfl) (fun e => (ho_980 e).1) encGHammer_len) rfl (o_1062.map fun b => ⟨b, 0, none⟩) t_44.fPins.length cap_1063 (hm.ownRow (hh := 5) (o := o_1062) (T := 75) (enc := encGWornPin) (xs := t_44.fPins) (sp := sp_1064) (by kernel_rfl) (fun e => (ho_1066 e).1) encGWornPin_len) rfl (o_1067.map fun b => ⟨b, 0, none⟩) t_44.fStrokes.length cap_1068 (hm.ownRow (hh := 6) (o := o_1067) (T := 2) (enc := encI64) (xs := t_44.fStrokes) (sp := sp_1069) (by kernel_rfl) (fun e => (ho_1071 e).1) encI64_len) rfl (o_1074.map fun b => ⟨b, 0, none⟩) t_46.length cap_1075 (hm.ownRow (hh := 7) (o := o_1074) (T := 89) (enc := encGAct) (xs := t_46) (sp := sp_1076) (by kernel_rfl) (fun e => (ho_1078 e).1) encGAct_len) rfl ht_1079) ?_)
              rintro w v w' hm ⟨o_1080, cap_1081, sp_1082, _, rfl, hs_1083, ho_1084, o_1085, cap_1086, sp_1087, _, rfl, hs_1088, ho_1089, rfl, hm'⟩
              refine ⟨_, hm.app hm', jkD (fun w h => h.pick [0, 1, 2] (by kernel_rfl) (by kernel_rfl)) ?_⟩
              clear hm hm'
              refine jd_f [⟨9, 0, 0⟩, ⟨10, 0, 0⟩, ⟨11, 0, 0⟩] 2 (by kernel_rfl) (by kernel_rfl) (fun w h => h.pick [0, 1, 2] (by kernel_rfl) (by kernel_rfl)) (by kernel_rfl) (by kernel_rfl) ?_
              refine toD 13 (by kernel_rfl) (p_s 0 [4] (by kernel_rfl) (by kernel_rfl) (jkD (fun w h => h.pick [0, 1, 2] (by kernel_rfl) (by kernel_rfl)) ?_))
              refine jd_f [⟨14, 0, 0⟩] 0 (by kernel_rfl) (by kernel_rfl) (fun w h => h.pick [0, 1, 2] (by kernel_rfl) (by kernel_rfl)) (by kernel_rfl) (by kernel_rfl) ?_
              refine jd_end (by kernel_rfl) ?_
              exact jx_meet ⟨t_47.1.fPins, t_47.1.fStrokes, t_47.2, b_1060, o_1080, cap_1081, sp_1082, t_47.1.fPins.length, o_1085, cap_1086, sp_1087, t_47.1.fStrokes.length⟩ ⟨h, rfl, hs_1083, ho_1084, rfl, hs_1088, ho_1089⟩ (by kernel_rfl) [0, 1, 2, 4, 8, 9] (by kernel_rfl) (by kernel_rfl)
          · refine p_a 0 [0] (by kernel_rfl) (fun b => by kernel_rfl) (fun b_1090 => jkD (fun w h => h.pick [0, 1, 2] (by kernel_rfl) (by kernel_rfl)) ?_)
            obtain ⟨t_43, ht_1091, h⟩ := bd h
            refine toD 1 (by kernel_rfl) (p_call 0 10 #[(.agg #[(.int .i16 aF0.fSteps), (.slice aF0_fHammers_a aF0.fHammers.length aF0_fHammers_c)])] (by kernel_rfl) (by kernel_rfl) (fun w hm => laws_toFrame.calls aF0 w _ aF0_fHammers_a aF0.fHammers.length aF0_fHammers_c (hm.exRow aF0_fHammers_h List.not_mem_nil) rfl ht_1091) ?_)
            rintro w v w' hm ⟨o_1092, cap_1093, sp_1094, _, rfl, hs_1095, ho_1096, rfl, hm'⟩
            refine ⟨_, hm.app hm', jkD (fun w h => h.pick [0, 1, 2] (by kernel_rfl) (by kernel_rfl)) ?_⟩
            clear hm hm'
            obtain ⟨t_44, ht_1097, h⟩ := bd h
            refine toD 3 (by kernel_rfl) (p_call 0 11 #[(.agg #[(.slice aW1_fPins_a aW1.fPins.length aW1_fPins_c), (.slice aW1_fStrokes_a aW1.fStrokes.length aW1_fStrokes_c)])] (by kernel_rfl) (by kernel_rfl) (fun w hm => laws_toWear.calls aW1 w _ aW1_fPins_a aW1.fPins.length aW1_fPins_c (hm.exRow aW1_fPins_h List.not_mem_nil) rfl aW1_fStrokes_a aW1.fStrokes.length aW1_fStrokes_c (hm.exRow aW1_fStrokes_h List.not_mem_nil) rfl ht_1097) ?_)
            rintro w v w' hm ⟨o_1098, cap_1099, sp_1100, _, rfl, hs_1101, ho_1102, o_1103, cap_1104, sp_1105, _, rfl, hs_1106, ho_1107, rfl, hm'⟩
            refine ⟨_, hm.app hm', jkD (fun w h => h.pick [0, 1, 2] (by kernel_rfl) (by kernel_rfl)) ?_⟩
            clear hm hm'
            obtain ⟨t_45, ht_1108, h⟩ := bd h
            refine toD 5 (by kernel_rfl) (p_call 0 12 #[(.agg #[(.int .i64 aV2.fPin), (.int .i64 aV2.fHammer)])] (by kernel_rfl) (by kernel_rfl) (fun w hm => laws_toLives.calls aV2 w _ ht_1108) ?_)
            rintro w v w' hm ⟨rfl, hm'⟩
            refine ⟨_, hm.app hm', jkD (fun w h => h.pick [0, 1, 2] (by kernel_rfl) (by kernel_rfl)) ?_⟩
            clear hm hm'
            obtain ⟨t_46, ht_1109, h⟩ := bd h
            refine toD 7 (by kernel_rfl) (p_call 0 13 #[(.slice aList3_a aList3.length aList3_c)] (by kernel_rfl) (by kernel_rfl) (fun w hm => laws_toActS.calls aList3 w _ aList3_a aList3.length aList3_c (hm.exRow aList3_h List.not_mem_nil) rfl ht_1109) ?_)
            rintro w v w' hm ⟨o_1110, cap_1111, sp_1112, _, rfl, hs_1113, ho_1114, rfl, hm'⟩
            refine ⟨_, hm.app hm', jkD (fun w h => h.pick [0, 1, 2] (by kernel_rfl) (by kernel_rfl)) ?_⟩
            clear hm hm'
            obtain ⟨t_47, ht_1115, h⟩ := bd h
            refine toD 8 (by kernel_rfl) (p_call 0 9 #[(.agg #[(.int .i16 t_43.fSteps), (.slice (o_1092.map fun b => ⟨b, 0, none⟩) t_43.fHammers.length cap_1093)]), (.agg #[(.slice (o_1098.map fun b => ⟨b, 0, none⟩) t_44.fPins.length cap_1099), (.slice (o_1103.map fun b => ⟨b, 0, none⟩) t_44.fStrokes.length cap_1104)]), (.agg #[(.int .i64 t_45.fPin), (.int .i64 t_45.fHammer)]), (.slice (o_1110.map fun b => ⟨b, 0, none⟩) t_46.length cap_1111)] (by kernel_rfl) (by kernel_rfl) (fun w hm => spec_DoWearActs.calls t_43 t_44 t_45 t_46 w _ (o_1092.map fun b => ⟨b, 0, none⟩) t_43.fHammers.length cap_1093 (hm.ownRow (hh := 4) (o := o_1092) (T := 137) (enc := encGHammer) (xs := t_43.fHammers) (sp := sp_1094) (by kernel_rfl) (fun e => (ho_1096 e).1) encGHammer_len) rfl (o_1098.map fun b => ⟨b, 0, none⟩) t_44.fPins.length cap_1099 (hm.ownRow (hh := 5) (o := o_1098) (T := 75) (enc := encGWornPin) (xs := t_44.fPins) (sp := sp_1100) (by kernel_rfl) (fun e => (ho_1102 e).1) encGWornPin_len) rfl (o_1103.map fun b => ⟨b, 0, none⟩) t_44.fStrokes.length cap_1104 (hm.ownRow (hh := 6) (o := o_1103) (T := 2) (enc := encI64) (xs := t_44.fStrokes) (sp := sp_1105) (by kernel_rfl) (fun e => (ho_1107 e).1) encI64_len) rfl (o_1110.map fun b => ⟨b, 0, none⟩) t_46.length cap_1111 (hm.ownRow (hh := 7) (o := o_1110) (T := 89) (enc := encGAct) (xs := t_46) (sp := sp_1112) (by kernel_rfl) (fun e => (ho_1114 e).1) encGAct_len) rfl ht_1115) ?_)
            rintro w v w' hm ⟨o_1116, cap_1117, sp_1118, _, rfl, hs_1119, ho_1120, o_1121, cap_1122, sp_1123, _, rfl, hs_1124, ho_1125, rfl, hm'⟩
            refine ⟨_, hm.app hm', jkD (fun w h => h.pick [0, 1, 2] (by kernel_rfl) (by kernel_rfl)) ?_⟩
            clear hm hm'
            refine jd_f [⟨9, 0, 0⟩, ⟨10, 0, 0⟩, ⟨11, 0, 0⟩] 2 (by kernel_rfl) (by kernel_rfl) (fun w h => h.pick [0, 1, 2] (by kernel_rfl) (by kernel_rfl)) (by kernel_rfl) (by kernel_rfl) ?_
            refine toD 13 (by kernel_rfl) (p_s 0 [3] (by kernel_rfl) (by kernel_rfl) (jkD (fun w h => h.pick [0, 1, 2] (by kernel_rfl) (by kernel_rfl)) ?_))
            refine jd_f [⟨14, 0, 0⟩] 0 (by kernel_rfl) (by kernel_rfl) (fun w h => h.pick [0, 1, 2] (by kernel_rfl) (by kernel_rfl)) (by kernel_rfl) (by kernel_rfl) ?_
            refine jd_end (by kernel_rfl) ?_
            exact jx_meet ⟨t_47.1.fPins, t_47.1.fStrokes, t_47.2, b_1090, o_1116, cap_1117, sp_1118, t_47.1.fPins.length, o_1121, cap_1122, sp_1123, t_47.1.fStrokes.length⟩ ⟨h, rfl, hs_1119, ho_1120, rfl, hs_1124, ho_1125⟩ (by kernel_rfl) [0, 1, 2, 3, 8, 9] (by kernel_rfl) (by kernel_rfl)
        · rintro ⟨xs_4, xs_5, i_6, b_164, o_165, cap_166, sp_167, n_168, o_171, cap_172, sp_173, n_174⟩ ⟨h, rfl, hs_169, ho_170, rfl, hs_175, ho_176⟩
          replace h : laws_FnExactDoWearActs.k_7 aF0 aW1 aV2 aList3 xs_4 xs_5 i_6 = some r := h
          rw [laws_FnExactDoWearActs.k_7] at h
          refine jx_then ?_
          refine jc_seq ?_
          refine jc_region ?_
          refine jo_f [(0, 0)] (by kernel_rfl) ?_
          obtain ⟨t_8, ht_177, h⟩ := bd h
          refine toO (by kernel_rfl) (p_call 0 10 #[(.agg #[(.int .i16 aF0.fSteps), (.slice aF0_fHammers_a aF0.fHammers.length aF0_fHammers_c)])] (by kernel_rfl) (by kernel_rfl) (fun w hm => laws_toFrame.calls aF0 w _ aF0_fHammers_a aF0.fHammers.length aF0_fHammers_c (hm.exRow aF0_fHammers_h List.not_mem_nil) rfl ht_177) ?_)
          rintro w v w' hm ⟨o_178, cap_179, sp_180, _, rfl, hs_181, ho_182, rfl, hm'⟩
          refine ⟨_, hm.app hm', jkO ?_⟩
          clear hm hm'
          refine toO (by kernel_rfl) (p_a 0 [0] (by kernel_rfl) (fun b => by kernel_rfl) (fun b_183 => jkO ?_))
          refine toO (by kernel_rfl) (p_s 0 [7] (by kernel_rfl) (by kernel_rfl) (jkO ?_))
          refine jo_end (by kernel_rfl) ?_
          refine jx_then ?_
          refine jc_seq ?_
          refine jc_region ?_
          refine jo_f [(1, 0)] (by kernel_rfl) ?_
          obtain ⟨t_9, ht_184, h⟩ := bd h
          refine toO (by kernel_rfl) (p_call 0 11 #[(.agg #[(.slice aW1_fPins_a aW1.fPins.length aW1_fPins_c), (.slice aW1_fStrokes_a aW1.fStrokes.length aW1_fStrokes_c)])] (by kernel_rfl) (by kernel_rfl) (fun w hm => laws_toWear.calls aW1 w _ aW1_fPins_a aW1.fPins.length aW1_fPins_c (hm.exRow aW1_fPins_h List.not_mem_nil) rfl aW1_fStrokes_a aW1.fStrokes.length aW1_fStrokes_c (hm.exRow aW1_fStrokes_h List.not_mem_nil) rfl ht_184) ?_)
          rintro w v w' hm ⟨o_185, cap_186, sp_187, _, rfl, hs_188, ho_189, o_190, cap_191, sp_192, _, rfl, hs_193, ho_194, rfl, hm'⟩
          refine ⟨_, hm.app hm', jkO ?_⟩
          clear hm hm'
          refine toO (by kernel_rfl) (p_a 0 [0] (by kernel_rfl) (fun b => by kernel_rfl) (fun b_195 => jkO ?_))
          refine toO (by kernel_rfl) (p_s 0 [10] (by kernel_rfl) (by kernel_rfl) (jkO ?_))
          refine jo_end (by kernel_rfl) ?_
          refine jx_then ?_
          refine jc_seq ?_
          refine jc_region ?_
          refine jo_f [(0, 0)] (by kernel_rfl) ?_
          obtain ⟨t_10, ht_196, h⟩ := bd h
          refine toO (by kernel_rfl) (p_call 0 13 #[(.slice aList3_a aList3.length aList3_c)] (by kernel_rfl) (by kernel_rfl) (fun w hm => laws_toActS.calls aList3 w _ aList3_a aList3.length aList3_c (hm.exRow aList3_h List.not_mem_nil) rfl ht_196) ?_)
          rintro w v w' hm ⟨o_197, cap_198, sp_199, _, rfl, hs_200, ho_201, rfl, hm'⟩
          refine ⟨_, hm.app hm', jkO ?_⟩
          clear hm hm'
          refine jo_f [(0, 0)] (by kernel_rfl) ?_
          refine jo_end (by kernel_rfl) ?_
          refine jx_then ?_
          refine jc_seq ?_
          refine jc_meet (fun (j : (List GWornPin) × (List Int) × Int × Nat × (Option Nat) × Nat × (List Value) × Nat × (Option Nat) × Nat × (List Value) × Nat) => match j with | ⟨xs_11, xs_12, i_13, b_240, o_241, cap_242, sp_243, n_244, o_247, cap_248, sp_249, n_250⟩ => laws_FnExactDoWearActs.k_14 aF0 aW1 aV2 aList3 xs_4 xs_5 i_6 t_8 t_9 t_10 xs_11 xs_12 i_13 = some r ∧ (xs_11.length = n_244) ∧ ((o_241 ≠ none → n_244 ≤ cap_242 ∧ sp_243.length = (cap_242 - n_244) * 3)) ∧ ((o_241 = none → xs_11 = [] ∧ cap_242 = 0)) ∧ (xs_12.length = n_250) ∧ ((o_247 ≠ none → n_250 ≤ cap_248 ∧ sp_249.length = (cap_248 - n_250) * 1)) ∧ ((o_247 = none → xs_12 = [] ∧ cap_248 = 0))) (fun (j : (List GWornPin) × (List Int) × Int × Nat × (Option Nat) × Nat × (List Value) × Nat × (Option Nat) × Nat × (List Value) × Nat) => match j with | ⟨xs_11, xs_12, i_13, b_240, o_241, cap_242, sp_243, n_244, o_247, cap_248, sp_249, n_250⟩ => [(3, [], (.slice aList3_a aList3.length aList3_c)), (4, [], (.pointer (some ⟨b_1, 0, none⟩))), (5, [], (.pointer (some ⟨b_2, 0, none⟩))), (6, [], (.pointer (some ⟨b_3, 0, none⟩))), (8, [], (.bool false)), (10, [], (.pointer (some ⟨b_164, 0, none⟩))), (11, [], (.int .i64 i_6)), (12, [], (.pointer (some ⟨b_183, 0, none⟩))), (13, [], (.pointer (some ⟨b_195, 0, none⟩))), (14, [], (.slice (o_197.map fun b => ⟨b, 0, none⟩) t_10.length cap_198)), (15, [], (.pointer (some ⟨b_240, 0, none⟩))), (16, [], (.int .i64 i_13))]) (fun (j : (List GWornPin) × (List Int) × Int × Nat × (Option Nat) × Nat × (List Value) × Nat × (Option Nat) × Nat × (List Value) × Nat) => match j with | ⟨xs_11, xs_12, i_13, b_240, o_241, cap_242, sp_243, n_244, o_247, cap_248, sp_249, n_250⟩ => [⟨some b_1, 25, [(.int .i16 aF0.fSteps), (.slice aF0_fHammers_a aF0.fHammers.length aF0_fHammers_c)]⟩, ⟨some b_2, 29, [(.slice aW1_fPins_a aW1.fPins.length aW1_fPins_c), (.slice aW1_fStrokes_a aW1.fStrokes.length aW1_fStrokes_c)]⟩, ⟨some b_3, 31, [(.int .i64 aV2.fPin), (.int .i64 aV2.fHammer)]⟩, ⟨some b_164, 38, [(.slice (o_165.map fun b => ⟨b, 0, none⟩) xs_4.length cap_166), (.slice (o_171.map fun b => ⟨b, 0, none⟩) xs_5.length cap_172)]⟩, ⟨o_165, 75, row encGWornPin xs_4 sp_167⟩, ⟨o_171, 2, row encI64 xs_5 sp_173⟩, ⟨o_178, 137, row encGHammer t_8.fHammers sp_180⟩, ⟨some b_183, 43, [(.int .i16 t_8.fSteps), (.slice (o_178.map fun b => ⟨b, 0, none⟩) t_8.fHammers.length cap_179)]⟩, ⟨o_185, 75, row encGWornPin t_9.fPins sp_187⟩, ⟨o_190, 2, row encI64 t_9.fStrokes sp_192⟩, ⟨some b_195, 38, [(.slice (o_185.map fun b => ⟨b, 0, none⟩) t_9.fPins.length cap_186), (.slice (o_190.map fun b => ⟨b, 0, none⟩) t_9.fStrokes.length cap_191)]⟩, ⟨o_197, 89, row encGAct t_10 sp_199⟩, ⟨some b_240, 38, [(.slice (o_241.map fun b => ⟨b, 0, none⟩) n_244 cap_242), (.slice (o_247.map fun b => ⟨b, 0, none⟩) n_250 cap_248)]⟩, ⟨o_241, 75, row encGWornPin xs_11 sp_243⟩, ⟨o_247, 2, row encI64 xs_12 sp_249⟩]) ?_ ?_
          · refine jc_draw [⟨some b_1, 25, [(.int .i16 aF0.fSteps), (.slice aF0_fHammers_a aF0.fHammers.length aF0_fHammers_c)]⟩, ⟨some b_2, 29, [(.slice aW1_fPins_a aW1.fPins.length aW1_fPins_c), (.slice aW1_fStrokes_a aW1.fStrokes.length aW1_fStrokes_c)]⟩, ⟨some b_3, 31, [(.int .i64 aV2.fPin), (.int .i64 aV2.fHammer)]⟩, ⟨some b_164, 38, [(.slice (o_165.map fun b => ⟨b, 0, none⟩) xs_4.length cap_166), (.slice (o_171.map fun b => ⟨b, 0, none⟩) xs_5.length cap_172)]⟩, ⟨o_165, 75, row encGWornPin xs_4 sp_167⟩, ⟨o_171, 2, row encI64 xs_5 sp_173⟩, ⟨o_178, 137, row encGHammer t_8.fHammers sp_180⟩, ⟨some b_183, 43, [(.int .i16 t_8.fSteps), (.slice (o_178.map fun b => ⟨b, 0, none⟩) t_8.fHammers.length cap_179)]⟩, ⟨o_185, 75, row encGWornPin t_9.fPins sp_187⟩, ⟨o_190, 2, row encI64 t_9.fStrokes sp_192⟩, ⟨some b_195, 38, [(.slice (o_185.map fun b => ⟨b, 0, none⟩) t_9.fPins.length cap_186), (.slice (o_190.map fun b => ⟨b, 0, none⟩) t_9.fStrokes.length cap_191)]⟩, ⟨o_197, 89, row encGAct t_10 sp_199⟩] 12 (by kernel_rfl) (by kernel_rfl) ?_
            refine jd_f [⟨0, 7, 0⟩, ⟨1, 10, 0⟩, ⟨2, 2, 0⟩, ⟨4, 0, 0⟩] 8 (by kernel_rfl) (by kernel_rfl) (fun w h => h.pick [0, 1, 2, 3, 4, 5, 6, 7, 8, 9, 10, 11] (by kernel_rfl) (by kernel_rfl)) (by kernel_rfl) (by kernel_rfl) ?_
            refine toD2 3 9 (by kernel_rfl) ?_ ?_
            · obtain ⟨t_41, ht_937, h⟩ := bd h
              refine p_call 0 12 #[(.agg #[(.int .i64 aV2.fPin), (.int .i64 aV2.fHammer)])] (by kernel_rfl) (by kernel_rfl) (fun w hm => laws_toLives.calls aV2 w _ ht_937) ?_
              rintro w v w' hm ⟨rfl, hm'⟩
              refine ⟨_, hm.app hm', jkD (fun w h => h.pick [0, 1, 2, 3, 4, 5, 6, 7, 8, 9, 10, 11] (by kernel_rfl) (by kernel_rfl)) ?_⟩
              clear hm hm'
              refine toD2 5 9 (by kernel_rfl) ?_ ?_
              · obtain ⟨t_42, ht_938, h⟩ := bd h
                refine p_call 0 14 #[(.agg #[(.int .i16 t_8.fSteps), (.slice (o_178.map fun b => ⟨b, 0, none⟩) t_8.fHammers.length cap_179)]), (.agg #[(.slice (o_185.map fun b => ⟨b, 0, none⟩) t_9.fPins.length cap_186), (.slice (o_190.map fun b => ⟨b, 0, none⟩) t_9.fStrokes.length cap_191)]), (.agg #[(.int .i64 t_41.fPin), (.int .i64 t_41.fHammer)]), (.slice (o_197.map fun b => ⟨b, 0, none⟩) t_10.length cap_198)] (by kernel_rfl) (by kernel_rfl) (fun w hm => impl_DoWearActs.calls t_8 t_9 t_41 t_10 w _ (o_178.map fun b => ⟨b, 0, none⟩) t_8.fHammers.length cap_179 (hm.ownRow (hh := 6) (o := o_178) (T := 137) (enc := encGHammer) (xs := t_8.fHammers) (sp := sp_180) (by kernel_rfl) (fun e => (ho_182 e).1) encGHammer_len) rfl (o_185.map fun b => ⟨b, 0, none⟩) t_9.fPins.length cap_186 (hm.ownRow (hh := 8) (o := o_185) (T := 75) (enc := encGWornPin) (xs := t_9.fPins) (sp := sp_187) (by kernel_rfl) (fun e => (ho_189 e).1) encGWornPin_len) rfl (o_190.map fun b => ⟨b, 0, none⟩) t_9.fStrokes.length cap_191 (hm.ownRow (hh := 9) (o := o_190) (T := 2) (enc := encI64) (xs := t_9.fStrokes) (sp := sp_192) (by kernel_rfl) (fun e => (ho_194 e).1) encI64_len) rfl (o_197.map fun b => ⟨b, 0, none⟩) t_10.length cap_198 (hm.ownRow (hh := 11) (o := o_197) (T := 89) (enc := encGAct) (xs := t_10) (sp := sp_199) (by kernel_rfl) (fun e => (ho_201 e).1) encGAct_len) rfl ht_938) ?_
                rintro w v w' hm ⟨o_939, cap_940, sp_941, _, rfl, hs_942, ho_943, o_944, cap_945, sp_946, _, rfl, hs_947, ho_948, rfl, hm'⟩
                refine ⟨_, hm.app hm', jkD (fun w h => h.pick [0, 1, 2, 3, 4, 5, 6, 7, 8, 9, 10, 11] (by kernel_rfl) (by kernel_rfl)) ?_⟩
                clear hm hm'
                refine jd_f [⟨6, 0, 0⟩, ⟨7, 0, 0⟩, ⟨8, 0, 0⟩] 3 (by kernel_rfl) (by kernel_rfl) (fun w h => h.pick [0, 1, 2, 3, 4, 5, 6, 7, 8, 9, 10, 11] (by kernel_rfl) (by kernel_rfl)) (by kernel_rfl) (by kernel_rfl) ?_
                refine toD 9 (by kernel_rfl) (p_a 0 [0] (by kernel_rfl) (fun b => by kernel_rfl) (fun b_949 => jkD (fun w h => h.pick [0, 1, 2, 3, 4, 5, 6, 7, 8, 9, 10, 11] (by kernel_rfl) (by kernel_rfl)) ?_))
                refine toD 10 (by kernel_rfl) (p_s 0 [14] (by kernel_rfl) (by kernel_rfl) (jkD (fun w h => h.pick [0, 1, 2, 3, 4, 5, 6, 7, 8, 9, 10, 11] (by kernel_rfl) (by kernel_rfl)) ?_))
                refine jd_f [⟨11, 0, 0⟩] 0 (by kernel_rfl) (by kernel_rfl) (fun w h => h.pick [0, 1, 2, 3, 4, 5, 6, 7, 8, 9, 10, 11] (by kernel_rfl) (by kernel_rfl)) (by kernel_rfl) (by kernel_rfl) ?_
                refine jd_end (by kernel_rfl) ?_
                exact jx_meet ⟨t_42.1.fPins, t_42.1.fStrokes, t_42.2, b_949, o_939, cap_940, sp_941, t_42.1.fPins.length, o_944, cap_945, sp_946, t_42.1.fStrokes.length⟩ ⟨h, rfl, hs_942, ho_943, rfl, hs_947, ho_948⟩ (by kernel_rfl) [0, 1, 2, 3, 4, 5, 6, 7, 8, 9, 10, 11, 14, 12, 13] (by kernel_rfl) (by kernel_rfl)
              · refine p_a 0 [0] (by kernel_rfl) (fun b => by kernel_rfl) (fun b_950 => jkD (fun w h => h.pick [0, 1, 2, 3, 4, 5, 6, 7, 8, 9, 10, 11] (by kernel_rfl) (by kernel_rfl)) ?_)
                obtain ⟨t_42, ht_951, h⟩ := bd h
                refine toD 5 (by kernel_rfl) (p_call 0 14 #[(.agg #[(.int .i16 t_8.fSteps), (.slice (o_178.map fun b => ⟨b, 0, none⟩) t_8.fHammers.length cap_179)]), (.agg #[(.slice (o_185.map fun b => ⟨b, 0, none⟩) t_9.fPins.length cap_186), (.slice (o_190.map fun b => ⟨b, 0, none⟩) t_9.fStrokes.length cap_191)]), (.agg #[(.int .i64 t_41.fPin), (.int .i64 t_41.fHammer)]), (.slice (o_197.map fun b => ⟨b, 0, none⟩) t_10.length cap_198)] (by kernel_rfl) (by kernel_rfl) (fun w hm => impl_DoWearActs.calls t_8 t_9 t_41 t_10 w _ (o_178.map fun b => ⟨b, 0, none⟩) t_8.fHammers.length cap_179 (hm.ownRow (hh := 6) (o := o_178) (T := 137) (enc := encGHammer) (xs := t_8.fHammers) (sp := sp_180) (by kernel_rfl) (fun e => (ho_182 e).1) encGHammer_len) rfl (o_185.map fun b => ⟨b, 0, none⟩) t_9.fPins.length cap_186 (hm.ownRow (hh := 8) (o := o_185) (T := 75) (enc := encGWornPin) (xs := t_9.fPins) (sp := sp_187) (by kernel_rfl) (fun e => (ho_189 e).1) encGWornPin_len) rfl (o_190.map fun b => ⟨b, 0, none⟩) t_9.fStrokes.length cap_191 (hm.ownRow (hh := 9) (o := o_190) (T := 2) (enc := encI64) (xs := t_9.fStrokes) (sp := sp_192) (by kernel_rfl) (fun e => (ho_194 e).1) encI64_len) rfl (o_197.map fun b => ⟨b, 0, none⟩) t_10.length cap_198 (hm.ownRow (hh := 11) (o := o_197) (T := 89) (enc := encGAct) (xs := t_10) (sp := sp_199) (by kernel_rfl) (fun e => (ho_201 e).1) encGAct_len) rfl ht_951) ?_)
                rintro w v w' hm ⟨o_952, cap_953, sp_954, _, rfl, hs_955, ho_956, o_957, cap_958, sp_959, _, rfl, hs_960, ho_961, rfl, hm'⟩
                refine ⟨_, hm.app hm', jkD (fun w h => h.pick [0, 1, 2, 3, 4, 5, 6, 7, 8, 9, 10, 11] (by kernel_rfl) (by kernel_rfl)) ?_⟩
                clear hm hm'
                refine jd_f [⟨6, 0, 0⟩, ⟨7, 0, 0⟩, ⟨8, 0, 0⟩] 2 (by kernel_rfl) (by kernel_rfl) (fun w h => h.pick [0, 1, 2, 3, 4, 5, 6, 7, 8, 9, 10, 11] (by kernel_rfl) (by kernel_rfl)) (by kernel_rfl) (by kernel_rfl) ?_
                refine toD 10 (by kernel_rfl) (p_s 0 [12] (by kernel_rfl) (by kernel_rfl) (jkD (fun w h => h.pick [0, 1, 2, 3, 4, 5, 6, 7, 8, 9, 10, 11] (by kernel_rfl) (by kernel_rfl)) ?_))
                refine jd_f [⟨11, 0, 0⟩] 0 (by kernel_rfl) (by kernel_rfl) (fun w h => h.pick [0, 1, 2, 3, 4, 5, 6, 7, 8, 9, 10, 11] (by kernel_rfl) (by kernel_rfl)) (by kernel_rfl) (by kernel_rfl) ?_
                refine jd_end (by kernel_rfl) ?_
                exact jx_meet ⟨t_42.1.fPins, t_42.1.fStrokes, t_42.2, b_950, o_952, cap_953, sp_954, t_42.1.fPins.length, o_957, cap_958, sp_959, t_42.1.fStrokes.length⟩ ⟨h, rfl, hs_955, ho_956, rfl, hs_960, ho_961⟩ (by kernel_rfl) [0, 1, 2, 3, 4, 5, 6, 7, 8, 9, 10, 11, 12, 13, 14] (by kernel_rfl) (by kernel_rfl)
            · refine p_a 0 [0] (by kernel_rfl) (fun b => by kernel_rfl) (fun b_962 => jkD (fun w h => h.pick [0, 1, 2, 3, 4, 5, 6, 7, 8, 9, 10, 11] (by kernel_rfl) (by kernel_rfl)) ?_)
              obtain ⟨t_41, ht_963, h⟩ := bd h
              refine toD 3 (by kernel_rfl) (p_call 0 12 #[(.agg #[(.int .i64 aV2.fPin), (.int .i64 aV2.fHammer)])] (by kernel_rfl) (by kernel_rfl) (fun w hm => laws_toLives.calls aV2 w _ ht_963) ?_)
              rintro w v w' hm ⟨rfl, hm'⟩
              refine ⟨_, hm.app hm', jkD (fun w h => h.pick [0, 1, 2, 3, 4, 5, 6, 7, 8, 9, 10, 11] (by kernel_rfl) (by kernel_rfl)) ?_⟩
              clear hm hm'
              obtain ⟨t_42, ht_964, h⟩ := bd h
              refine toD 5 (by kernel_rfl) (p_call 0 14 #[(.agg #[(.int .i16 t_8.fSteps), (.slice (o_178.map fun b => ⟨b, 0, none⟩) t_8.fHammers.length cap_179)]), (.agg #[(.slice (o_185.map fun b => ⟨b, 0, none⟩) t_9.fPins.length cap_186), (.slice (o_190.map fun b => ⟨b, 0, none⟩) t_9.fStrokes.length cap_191)]), (.agg #[(.int .i64 t_41.fPin), (.int .i64 t_41.fHammer)]), (.slice (o_197.map fun b => ⟨b, 0, none⟩) t_10.length cap_198)] (by kernel_rfl) (by kernel_rfl) (fun w hm => impl_DoWearActs.calls t_8 t_9 t_41 t_10 w _ (o_178.map fun b => ⟨b, 0, none⟩) t_8.fHammers.length cap_179 (hm.ownRow (hh := 6) (o := o_178) (T := 137) (enc := encGHammer) (xs := t_8.fHammers) (sp := sp_180) (by kernel_rfl) (fun e => (ho_182 e).1) encGHammer_len) rfl (o_185.map fun b => ⟨b, 0, none⟩) t_9.fPins.length cap_186 (hm.ownRow (hh := 8) (o := o_185) (T := 75) (enc := encGWornPin) (xs := t_9.fPins) (sp := sp_187) (by kernel_rfl) (fun e => (ho_189 e).1) encGWornPin_len) rfl (o_190.map fun b => ⟨b, 0, none⟩) t_9.fStrokes.length cap_191 (hm.ownRow (hh := 9) (o := o_190) (T := 2) (enc := encI64) (xs := t_9.fStrokes) (sp := sp_192) (by kernel_rfl) (fun e => (ho_194 e).1) encI64_len) rfl (o_197.map fun b => ⟨b, 0, none⟩) t_10.length cap_198 (hm.ownRow (hh := 11) (o := o_197) (T := 89) (enc := encGAct) (xs := t_10) (sp := sp_199) (by kernel_rfl) (fun e => (ho_201 e).1) encGAct_len) rfl ht_964) ?_)
              rintro w v w' hm ⟨o_965, cap_966, sp_967, _, rfl, hs_968, ho_969, o_970, cap_971, sp_972, _, rfl, hs_973, ho_974, rfl, hm'⟩
              refine ⟨_, hm.app hm', jkD (fun w h => h.pick [0, 1, 2, 3, 4, 5, 6, 7, 8, 9, 10, 11] (by kernel_rfl) (by kernel_rfl)) ?_⟩
              clear hm hm'
              refine jd_f [⟨6, 0, 0⟩, ⟨7, 0, 0⟩, ⟨8, 0, 0⟩] 2 (by kernel_rfl) (by kernel_rfl) (fun w h => h.pick [0, 1, 2, 3, 4, 5, 6, 7, 8, 9, 10, 11] (by kernel_rfl) (by kernel_rfl)) (by kernel_rfl) (by kernel_rfl) ?_
              refine toD 10 (by kernel_rfl) (p_s 0 [12] (by kernel_rfl) (by kernel_rfl) (jkD (fun w h => h.pick [0, 1, 2, 3, 4, 5, 6, 7, 8, 9, 10, 11] (by kernel_rfl) (by kernel_rfl)) ?_))
              refine jd_f [⟨11, 0, 0⟩] 0 (by kernel_rfl) (by kernel_rfl) (fun w h => h.pick [0, 1, 2, 3, 4, 5, 6, 7, 8, 9, 10, 11] (by kernel_rfl) (by kernel_rfl)) (by kernel_rfl) (by kernel_rfl) ?_
              refine jd_end (by kernel_rfl) ?_
              exact jx_meet ⟨t_42.1.fPins, t_42.1.fStrokes, t_42.2, b_962, o_965, cap_966, sp_967, t_42.1.fPins.length, o_970, cap_971, sp_972, t_42.1.fStrokes.length⟩ ⟨h, rfl, hs_968, ho_969, rfl, hs_973, ho_974⟩ (by kernel_rfl) [0, 1, 2, 3, 4, 5, 6, 7, 8, 9, 10, 11, 12, 13, 14] (by kernel_rfl) (by kernel_rfl)
          · rintro ⟨xs_11, xs_12, i_13, b_240, o_241, cap_242, sp_243, n_244, o_247, cap_248, sp_249, n_250⟩ ⟨h, rfl, hs_245, ho_246, rfl, hs_251, ho_252⟩
            replace h : laws_FnExactDoWearActs.k_14 aF0 aW1 aV2 aList3 xs_4 xs_5 i_6 t_8 t_9 t_10 xs_11 xs_12 i_13 = some r := h
            rw [laws_FnExactDoWearActs.k_14] at h
            refine jx_then ?_
            refine jc_seq ?_
            refine jc_seq ?_
            refine jc_region ?_
            refine jo_f [(12, 0), (3, 0)] (by kernel_rfl) ?_
            obtain ⟨t_15, ht_257, h⟩ := bd h
            refine toO (by kernel_rfl) (p_call 0 15 #[(.agg #[(.slice (o_241.map fun b => ⟨b, 0, none⟩) xs_11.length cap_242), (.slice (o_247.map fun b => ⟨b, 0, none⟩) xs_12.length cap_248)]), (.agg #[(.slice (o_165.map fun b => ⟨b, 0, none⟩) xs_4.length cap_166), (.slice (o_171.map fun b => ⟨b, 0, none⟩) xs_5.length cap_172)])] (by kernel_rfl) (by kernel_rfl) (fun w hm => laws_eqWear.calls (⟨xs_11, xs_12⟩ : GWear) (⟨xs_4, xs_5⟩ : GWear) w _ (o_241.map fun b => ⟨b, 0, none⟩) xs_11.length cap_242 (hm.ownRow (hh := 13) (o := o_241) (T := 75) (enc := encGWornPin) (xs := xs_11) (sp := sp_243) (by kernel_rfl) (fun e => (ho_246 e).1) encGWornPin_len) rfl (o_247.map fun b => ⟨b, 0, none⟩) xs_12.length cap_248 (hm.ownRow (hh := 14) (o := o_247) (T := 2) (enc := encI64) (xs := xs_12) (sp := sp_249) (by kernel_rfl) (fun e => (ho_252 e).1) encI64_len) rfl (o_165.map fun b => ⟨b, 0, none⟩) xs_4.length cap_166 (hm.ownRow (hh := 4) (o := o_165) (T := 75) (enc := encGWornPin) (xs := xs_4) (sp := sp_167) (by kernel_rfl) (fun e => (ho_170 e).1) encGWornPin_len) rfl (o_171.map fun b => ⟨b, 0, none⟩) xs_5.length cap_172 (hm.ownRow (hh := 5) (o := o_171) (T := 2) (enc := encI64) (xs := xs_5) (sp := sp_173) (by kernel_rfl) (fun e => (ho_176 e).1) encI64_len) rfl ht_257) ?_)
            rintro w v w' hm ⟨rfl, hm'⟩
            refine ⟨_, hm.app hm', jkO ?_⟩
            clear hm hm'
            refine jo_f [(0, 0), (0, 0), (0, 1), (0, 1), (0, 1), (0, 0)] (by kernel_rfl) ?_
            refine jo_end (by kernel_rfl) ?_
            refine jx_then ?_
            refine jc_cond ((!t_15) || (i_13 != i_6)) (by kernel_rfl) (fun hc_258 => ?_) (fun hc_258 => ?_)
            · replace h := ifT hc_258 h
              refine jc_seq ?_
              refine jc_region ?_
              refine jo_f [(0, 0)] (by kernel_rfl) ?_
              refine jo_end (by kernel_rfl) ?_
              refine jx_then ?_
              refine jc_ret ?_
              refine jx_thenr ?_
              obtain rfl := Option.some.inj h
              exact jx_ret [] (.bool false) [] rfl (by kernel_rfl) (by kernel_rfl) (fun w hm => ⟨rfl, hm.pick [] (by kernel_rfl) (by kernel_rfl)⟩)
            · replace h := ifF hc_258 h
              refine jc_skip ?_
              refine jx_then ?_
              refine jc_seq ?_
              refine jc_seq ?_
              refine jc_draw [⟨some b_1, 25, [(.int .i16 aF0.fSteps), (.slice aF0_fHammers_a aF0.fHammers.length aF0_fHammers_c)]⟩, ⟨some b_2, 29, [(.slice aW1_fPins_a aW1.fPins.length aW1_fPins_c), (.slice aW1_fStrokes_a aW1.fStrokes.length aW1_fStrokes_c)]⟩, ⟨some b_3, 31, [(.int .i64 aV2.fPin), (.int .i64 aV2.fHammer)]⟩, ⟨some b_164, 38, [(.slice (o_165.map fun b => ⟨b, 0, none⟩) xs_4.length cap_166), (.slice (o_171.map fun b => ⟨b, 0, none⟩) xs_5.length cap_172)]⟩, ⟨o_165, 75, row encGWornPin xs_4 sp_167⟩, ⟨o_171, 2, row encI64 xs_5 sp_173⟩, ⟨o_178, 137, row encGHammer t_8.fHammers sp_180⟩, ⟨some b_183, 43, [(.int .i16 t_8.fSteps), (.slice (o_178.map fun b => ⟨b, 0, none⟩) t_8.fHammers.length cap_179)]⟩, ⟨o_185, 75, row encGWornPin t_9.fPins sp_187⟩, ⟨o_190, 2, row encI64 t_9.fStrokes sp_192⟩, ⟨some b_195, 38, [(.slice (o_185.map fun b => ⟨b, 0, none⟩) t_9.fPins.length cap_186), (.slice (o_190.map fun b => ⟨b, 0, none⟩) t_9.fStrokes.length cap_191)]⟩, ⟨o_197, 89, row encGAct t_10 sp_199⟩, ⟨some b_240, 38, [(.slice (o_241.map fun b => ⟨b, 0, none⟩) xs_11.length cap_242), (.slice (o_247.map fun b => ⟨b, 0, none⟩) xs_12.length cap_248)]⟩, ⟨o_241, 75, row encGWornPin xs_11 sp_243⟩, ⟨o_247, 2, row encI64 xs_12 sp_249⟩] 5 (by kernel_rfl) (by kernel_rfl) ?_
              refine jd_f [⟨0, 7, 0⟩, ⟨1, 0, 0⟩] 3 (by kernel_rfl) (by kernel_rfl) (fun w h => h.pick [0, 1, 2, 3, 4, 5, 6, 7, 8, 9, 10, 11, 12, 13, 14] (by kernel_rfl) (by kernel_rfl)) (by kernel_rfl) (by kernel_rfl) ?_
              obtain ⟨t_16, ht_281, h⟩ := bd h
              refine toD 2 (by kernel_rfl) (p_call 0 10 #[(.agg #[(.int .i16 aF0.fSteps), (.slice aF0_fHammers_a aF0.fHammers.length aF0_fHammers_c)])] (by kernel_rfl) (by kernel_rfl) (fun w hm => laws_toFrame.calls aF0 w _ aF0_fHammers_a aF0.fHammers.length aF0_fHammers_c (hm.exRow aF0_fHammers_h List.not_mem_nil) rfl ht_281) ?_)
              rintro w v w' hm ⟨o_282, cap_283, sp_284, _, rfl, hs_285, ho_286, rfl, hm'⟩
              refine ⟨_, hm.app hm', jkD (fun w h => h.pick [0, 1, 2, 3, 4, 5, 6, 7, 8, 9, 10, 11, 12, 13, 14] (by kernel_rfl) (by kernel_rfl)) ?_⟩
              clear hm hm'
              obtain ⟨t_17, ht_287, h⟩ := bd h
              refine toD 3 (by kernel_rfl) (p_call 0 16 #[(.agg #[(.int .i16 t_8.fSteps), (.slice (o_178.map fun b => ⟨b, 0, none⟩) t_8.fHammers.length cap_179)]), (.agg #[(.int .i16 t_16.fSteps), (.slice (o_282.map fun b => ⟨b, 0, none⟩) t_16.fHammers.length cap_283)])] (by kernel_rfl) (by kernel_rfl) (fun w hm => laws_eqFrame.calls t_8 t_16 w _ (o_178.map fun b => ⟨b, 0, none⟩) t_8.fHammers.length cap_179 (hm.ownRow (hh := 6) (o := o_178) (T := 137) (enc := encGHammer) (xs := t_8.fHammers) (sp := sp_180) (by kernel_rfl) (fun e => (ho_182 e).1) encGHammer_len) rfl (o_282.map fun b => ⟨b, 0, none⟩) t_16.fHammers.length cap_283 (hm.ownRow (hh := 15) (o := o_282) (T := 137) (enc := encGHammer) (xs := t_16.fHammers) (sp := sp_284) (by kernel_rfl) (fun e => (ho_286 e).1) encGHammer_len) rfl ht_287) ?_)
              rintro w v w' hm ⟨rfl, hm'⟩
              refine ⟨_, hm.app hm', jkD (fun w h => h.pick [0, 1, 2, 3, 4, 5, 6, 7, 8, 9, 10, 11, 12, 13, 14] (by kernel_rfl) (by kernel_rfl)) ?_⟩
              clear hm hm'
              refine jd_f [⟨4, 0, 0⟩] 0 (by kernel_rfl) (by kernel_rfl) (fun w h => h.pick [0, 1, 2, 3, 4, 5, 6, 7, 8, 9, 10, 11, 12, 13, 14] (by kernel_rfl) (by kernel_rfl)) (by kernel_rfl) (by kernel_rfl) ?_
              refine jd_end (by kernel_rfl) ?_
              refine jx_then ?_
              refine jc_cond (!t_17) (by kernel_rfl) (fun hc_288 => ?_) (fun hc_288 => ?_)
              · replace h := ifT hc_288 h
                refine jc_seq ?_
                refine jc_region ?_
                refine jo_f [(0, 0)] (by kernel_rfl) ?_
                refine jo_end (by kernel_rfl) ?_
                refine jx_then ?_
                refine jc_ret ?_
                refine jx_thenr ?_
                obtain rfl := Option.some.inj h
                exact jx_ret [] (.bool false) [] rfl (by kernel_rfl) (by kernel_rfl) (fun w hm => ⟨rfl, hm.pick [] (by kernel_rfl) (by kernel_rfl)⟩)
              · replace h := ifF hc_288 h
                refine jc_skip ?_
                refine jx_then ?_
                refine jc_seq ?_
                refine jc_seq ?_
                refine jc_draw [⟨some b_1, 25, [(.int .i16 aF0.fSteps), (.slice aF0_fHammers_a aF0.fHammers.length aF0_fHammers_c)]⟩, ⟨some b_2, 29, [(.slice aW1_fPins_a aW1.fPins.length aW1_fPins_c), (.slice aW1_fStrokes_a aW1.fStrokes.length aW1_fStrokes_c)]⟩, ⟨some b_3, 31, [(.int .i64 aV2.fPin), (.int .i64 aV2.fHammer)]⟩, ⟨some b_164, 38, [(.slice (o_165.map fun b => ⟨b, 0, none⟩) xs_4.length cap_166), (.slice (o_171.map fun b => ⟨b, 0, none⟩) xs_5.length cap_172)]⟩, ⟨o_165, 75, row encGWornPin xs_4 sp_167⟩, ⟨o_171, 2, row encI64 xs_5 sp_173⟩, ⟨some b_183, 43, [(.int .i16 t_8.fSteps), (.slice (o_178.map fun b => ⟨b, 0, none⟩) t_8.fHammers.length cap_179)]⟩, ⟨some b_195, 38, [(.slice (o_185.map fun b => ⟨b, 0, none⟩) t_9.fPins.length cap_186), (.slice (o_190.map fun b => ⟨b, 0, none⟩) t_9.fStrokes.length cap_191)]⟩, ⟨some b_240, 38, [(.slice (o_241.map fun b => ⟨b, 0, none⟩) xs_11.length cap_242), (.slice (o_247.map fun b => ⟨b, 0, none⟩) xs_12.length cap_248)]⟩, ⟨o_282, 137, row encGHammer t_16.fHammers sp_284⟩] 5 (by kernel_rfl) (by kernel_rfl) ?_
                refine jd_f [⟨0, 7, 0⟩, ⟨1, 1, 0⟩] 3 (by kernel_rfl) (by kernel_rfl) (fun w h => h.pick [0, 1, 2, 3, 4, 5, 7, 10, 12, 15] (by kernel_rfl) (by kernel_rfl)) (by kernel_rfl) (by kernel_rfl) ?_
                obtain ⟨t_18, ht_552, h⟩ := bd h
                refine toD 2 (by kernel_rfl) (p_call 0 11 #[(.agg #[(.slice aW1_fPins_a aW1.fPins.length aW1_fPins_c), (.slice aW1_fStrokes_a aW1.fStrokes.length aW1_fStrokes_c)])] (by kernel_rfl) (by kernel_rfl) (fun w hm => laws_toWear.calls aW1 w _ aW1_fPins_a aW1.fPins.length aW1_fPins_c (hm.exRow aW1_fPins_h List.not_mem_nil) rfl aW1_fStrokes_a aW1.fStrokes.length aW1_fStrokes_c (hm.exRow aW1_fStrokes_h List.not_mem_nil) rfl ht_552) ?_)
                rintro w v w' hm ⟨o_553, cap_554, sp_555, _, rfl, hs_556, ho_557, o_558, cap_559, sp_560, _, rfl, hs_561, ho_562, rfl, hm'⟩
                refine ⟨_, hm.app hm', jkD (fun w h => h.pick [0, 1, 2, 3, 4, 5, 7, 10, 12, 15] (by kernel_rfl) (by kernel_rfl)) ?_⟩
                clear hm hm'
                obtain ⟨t_19, ht_563, h⟩ := bd h
                refine toD 3 (by kernel_rfl) (p_call 0 15 #[(.agg #[(.slice (o_185.map fun b => ⟨b, 0, none⟩) t_9.fPins.length cap_186), (.slice (o_190.map fun b => ⟨b, 0, none⟩) t_9.fStrokes.length cap_191)]), (.agg #[(.slice (o_553.map fun b => ⟨b, 0, none⟩) t_18.fPins.length cap_554), (.slice (o_558.map fun b => ⟨b, 0, none⟩) t_18.fStrokes.length cap_559)])] (by kernel_rfl) (by kernel_rfl) (fun w hm => laws_eqWear.calls t_9 t_18 w _ (o_185.map fun b => ⟨b, 0, none⟩) t_9.fPins.length cap_186 (hm.ownRow (hh := 8) (o := o_185) (T := 75) (enc := encGWornPin) (xs := t_9.fPins) (sp := sp_187) (by kernel_rfl) (fun e => (ho_189 e).1) encGWornPin_len) rfl (o_190.map fun b => ⟨b, 0, none⟩) t_9.fStrokes.length cap_191 (hm.ownRow (hh := 9) (o := o_190) (T := 2) (enc := encI64) (xs := t_9.fStrokes) (sp := sp_192) (by kernel_rfl) (fun e => (ho_194 e).1) encI64_len) rfl (o_553.map fun b => ⟨b, 0, none⟩) t_18.fPins.length cap_554 (hm.ownRow (hh := 16) (o := o_553) (T := 75) (enc := encGWornPin) (xs := t_18.fPins) (sp := sp_555) (by kernel_rfl) (fun e => (ho_557 e).1) encGWornPin_len) rfl (o_558.map fun b => ⟨b, 0, none⟩) t_18.fStrokes.length cap_559 (hm.ownRow (hh := 17) (o := o_558) (T := 2) (enc := encI64) (xs := t_18.fStrokes) (sp := sp_560) (by kernel_rfl) (fun e => (ho_562 e).1) encI64_len) rfl ht_563) ?_)
                rintro w v w' hm ⟨rfl, hm'⟩
                refine ⟨_, hm.app hm', jkD (fun w h => h.pick [0, 1, 2, 3, 4, 5, 7, 10, 12, 15] (by kernel_rfl) (by kernel_rfl)) ?_⟩
                clear hm hm'
                refine jd_f [⟨4, 0, 0⟩] 0 (by kernel_rfl) (by kernel_rfl) (fun w h => h.pick [0, 1, 2, 3, 4, 5, 7, 10, 12, 15] (by kernel_rfl) (by kernel_rfl)) (by kernel_rfl) (by kernel_rfl) ?_
                refine jd_end (by kernel_rfl) ?_
                refine jx_then ?_
                refine jc_cond (!t_19) (by kernel_rfl) (fun hc_564 => ?_) (fun hc_564 => ?_)
                · replace h := ifT hc_564 h
                  refine jc_seq ?_
                  refine jc_region ?_
                  refine jo_f [(0, 0)] (by kernel_rfl) ?_
                  refine jo_end (by kernel_rfl) ?_
                  refine jx_then ?_
                  refine jc_ret ?_
                  refine jx_thenr ?_
                  obtain rfl := Option.some.inj h
                  exact jx_ret [] (.bool false) [] rfl (by kernel_rfl) (by kernel_rfl) (fun w hm => ⟨rfl, hm.pick [] (by kernel_rfl) (by kernel_rfl)⟩)
                · replace h := ifF hc_564 h
                  refine jc_skip ?_
                  refine jx_then ?_
                  refine jc_seq ?_
                  refine jc_seq ?_
                  refine jc_region ?_
                  refine jo_f [(0, 0), (0, 0)] (by kernel_rfl) ?_
                  obtain ⟨t_20, ht_573, h⟩ := bd h
                  refine toO (by kernel_rfl) (p_call 0 13 #[(.slice aList3_a aList3.length aList3_c)] (by kernel_rfl) (by kernel_rfl) (fun w hm => laws_toActS.calls aList3 w _ aList3_a aList3.length aList3_c (hm.exRow aList3_h List.not_mem_nil) rfl ht_573) ?_)
                  rintro w v w' hm ⟨o_574, cap_575, sp_576, _, rfl, hs_577, ho_578, rfl, hm'⟩
                  refine ⟨_, hm.app hm', jkO ?_⟩
                  clear hm hm'
                  obtain ⟨t_21, ht_579, h⟩ := bd h
                  refine toO (by kernel_rfl) (p_call 0 17 #[(.slice (o_197.map fun b => ⟨b, 0, none⟩) t_10.length cap_198), (.slice (o_574.map fun b => ⟨b, 0, none⟩) t_20.length cap_575)] (by kernel_rfl) (by kernel_rfl) (fun w hm => laws_eqActS.calls t_10 t_20 w _ (o_197.map fun b => ⟨b, 0, none⟩) t_10.length cap_198 (hm.ownRow (hh := 11) (o := o_197) (T := 89) (enc := encGAct) (xs := t_10) (sp := sp_199) (by kernel_rfl) (fun e => (ho_201 e).1) encGAct_len) rfl (o_574.map fun b => ⟨b, 0, none⟩) t_20.length cap_575 (hm.ownRow (hh := 18) (o := o_574) (T := 89) (enc := encGAct) (xs := t_20) (sp := sp_576) (by kernel_rfl) (fun e => (ho_578 e).1) encGAct_len) rfl ht_579) ?_)
                  rintro w v w' hm ⟨rfl, hm'⟩
                  refine ⟨_, hm.app hm', jkO ?_⟩
                  clear hm hm'
                  refine jo_f [(0, 0)] (by kernel_rfl) ?_
                  refine jo_end (by kernel_rfl) ?_
                  refine jx_then ?_
                  refine jc_cond (!t_21) (by kernel_rfl) (fun hc_580 => ?_) (fun hc_580 => ?_)
                  · replace h := ifT hc_580 h
                    refine jc_seq ?_
                    refine jc_region ?_
                    refine jo_f [(0, 0)] (by kernel_rfl) ?_
                    refine jo_end (by kernel_rfl) ?_
                    refine jx_then ?_
                    refine jc_ret ?_
                    refine jx_thenr ?_
                    obtain rfl := Option.some.inj h
                    exact jx_ret [] (.bool false) [] rfl (by kernel_rfl) (by kernel_rfl) (fun w hm => ⟨rfl, hm.pick [] (by kernel_rfl) (by kernel_rfl)⟩)
                  · replace h := ifF hc_580 h
                    refine jc_skip ?_
                    refine jx_then ?_
                    refine jc_seq ?_
                    refine jc_region ?_
                    refine jo_f [(0, 0)] (by kernel_rfl) ?_
                    refine jo_end (by kernel_rfl) ?_
                    refine jx_then ?_
                    refine jc_seq ?_
                    refine jc_region ?_
                    refine jo_f [(7, 0), (0, 0)] (by kernel_rfl) ?_
                    obtain ⟨t_22, ht_581, h⟩ := bd h
                    refine toO (by kernel_rfl) (p_call 0 18 #[(.agg #[(.int .i16 t_8.fSteps), (.slice (o_178.map fun b => ⟨b, 0, none⟩) t_8.fHammers.length cap_179)]), (.int .i64 1)] (by kernel_rfl) (by kernel_rfl) (fun w hm => laws_markFrame.calls t_8 1 w _ o_178 t_8.fHammers.length cap_179 sp_180 rfl hs_181 ho_182 (hm.pass (N := [⟨o_178, 137, row encGHammer t_8.fHammers sp_180⟩]) [6] (by kernel_rfl) (by kernel_rfl)) ht_581) ?_)
                    rintro w v w' hm ⟨hn_582, ho_583, rfl, hm'⟩
                    refine ⟨_, hm.appW (ps := [(6, ⟨o_178, 137, row encGHammer t_22.2 sp_180⟩)]) (N := []) hm' (by kernel_rfl) (by kernel_rfl), jkO ?_⟩
                    clear hm hm'
                    refine jo_f [(0, 0)] (by kernel_rfl) ?_
                    refine jo_end (by kernel_rfl) ?_
                    refine jx_then ?_
                    refine jc_seq ?_
                    refine jc_region ?_
                    refine jo_f [(10, 0), (0, 0)] (by kernel_rfl) ?_
                    obtain ⟨t_23, ht_584, h⟩ := bd h
                    refine toO (by kernel_rfl) (p_call 0 19 #[(.agg #[(.slice (o_185.map fun b => ⟨b, 0, none⟩) t_9.fPins.length cap_186), (.slice (o_190.map fun b => ⟨b, 0, none⟩) t_9.fStrokes.length cap_191)]), (.int .i64 t_22.1)] (by kernel_rfl) (by kernel_rfl) (fun w hm => laws_markWear.calls t_9 t_22.1 w _ o_185 t_9.fPins.length cap_186 sp_187 rfl hs_188 ho_189 o_190 t_9.fStrokes.length cap_191 sp_192 rfl hs_193 ho_194 (hm.pass (N := [⟨o_185, 75, row encGWornPin t_9.fPins sp_187⟩, ⟨o_190, 2, row encI64 t_9.fStrokes sp_192⟩]) [8, 9] (by kernel_rfl) (by kernel_rfl)) ht_584) ?_)
                    rintro w v w' hm ⟨hn_585, ho_586, hn_587, ho_588, rfl, hm'⟩
                    refine ⟨_, hm.appW (ps := [(8, ⟨o_185, 75, row encGWornPin t_23.2.1 sp_187⟩), (9, ⟨o_190, 2, row encI64 t_23.2.2 sp_192⟩)]) (N := []) hm' (by kernel_rfl) (by kernel_rfl), jkO ?_⟩
                    clear hm hm'
                    refine jo_f [(0, 0)] (by kernel_rfl) ?_
                    refine jo_end (by kernel_rfl) ?_
                    refine jx_then ?_
                    refine jc_seq ?_
                    refine jc_region ?_
                    refine jo_f [(0, 0), (0, 0)] (by kernel_rfl) ?_
                    obtain ⟨t_24, ht_589, h⟩ := bd h
                    refine toO (by kernel_rfl) (p_call 0 20 #[(.slice (o_197.map fun b => ⟨b, 0, none⟩) t_10.length cap_198), (.int .i64 t_23.1)] (by kernel_rfl) (by kernel_rfl) (fun w hm => laws_markActS.calls t_10 t_23.1 w _ o_197 t_10.length cap_198 sp_199 rfl hs_200 ho_201 (hm.pass (N := [⟨o_197, 89, row encGAct t_10 sp_199⟩]) [11] (by kernel_rfl) (by kernel_rfl)) ht_589) ?_)
                    rintro w v w' hm ⟨hn_590, ho_591, rfl, hm'⟩
                    refine ⟨_, hm.appW (ps := [(11, ⟨o_197, 89, row encGAct t_24.2 sp_199⟩)]) (N := []) hm' (by kernel_rfl) (by kernel_rfl), jkO ?_⟩
                    clear hm hm'
                    refine jo_f [(0, 0)] (by kernel_rfl) ?_
                    refine jo_end (by kernel_rfl) ?_
                    refine jx_then ?_
                    refine jc_seq ?_
                    refine jc_seq ?_
                    refine jc_meet (fun (j : Bool) => match j with | q_25 => laws_FnExactDoWearActs.k_26 aF0 aW1 aV2 aList3 xs_4 xs_5 i_6 xs_11 xs_12 q_25 = some r) (fun (j : Bool) => match j with | q_25 => [(3, [], (.slice aList3_a aList3.length aList3_c)), (4, [], (.pointer (some ⟨b_1, 0, none⟩))), (5, [], (.pointer (some ⟨b_2, 0, none⟩))), (6, [], (.pointer (some ⟨b_3, 0, none⟩))), (8, [], (.bool false)), (10, [], (.pointer (some ⟨b_164, 0, none⟩))), (11, [], (.int .i64 i_6)), (15, [], (.pointer (some ⟨b_240, 0, none⟩))), (109, [], (.bool q_25))]) (fun (j : Bool) => match j with | q_25 => [⟨some b_1, 25, [(.int .i16 aF0.fSteps), (.slice aF0_fHammers_a aF0.fHammers.length aF0_fHammers_c)]⟩, ⟨some b_2, 29, [(.slice aW1_fPins_a aW1.fPins.length aW1_fPins_c), (.slice aW1_fStrokes_a aW1.fStrokes.length aW1_fStrokes_c)]⟩, ⟨some b_3, 31, [(.int .i64 aV2.fPin), (.int .i64 aV2.fHammer)]⟩, ⟨some b_164, 38, [(.slice (o_165.map fun b => ⟨b, 0, none⟩) xs_4.length cap_166), (.slice (o_171.map fun b => ⟨b, 0, none⟩) xs_5.length cap_172)]⟩, ⟨o_165, 75, row encGWornPin xs_4 sp_167⟩, ⟨o_171, 2, row encI64 xs_5 sp_173⟩, ⟨o_178, 137, row encGHammer t_22.2 sp_180⟩, ⟨some b_183, 43, [(.int .i16 t_8.fSteps), (.slice (o_178.map fun b => ⟨b, 0, none⟩) t_8.fHammers.length cap_179)]⟩, ⟨o_185, 75, row encGWornPin t_23.2.1 sp_187⟩, ⟨o_190, 2, row encI64 t_23.2.2 sp_192⟩, ⟨some b_195, 38, [(.slice (o_185.map fun b => ⟨b, 0, none⟩) t_9.fPins.length cap_186), (.slice (o_190.map fun b => ⟨b, 0, none⟩) t_9.fStrokes.length cap_191)]⟩, ⟨o_197, 89, row encGAct t_24.2 sp_199⟩, ⟨some b_240, 38, [(.slice (o_241.map fun b => ⟨b, 0, none⟩) xs_11.length cap_242), (.slice (o_247.map fun b => ⟨b, 0, none⟩) xs_12.length cap_248)]⟩, ⟨o_241, 75, row encGWornPin xs_11 sp_243⟩, ⟨o_247, 2, row encI64 xs_12 sp_249⟩, ⟨o_282, 137, row encGHammer t_16.fHammers sp_284⟩, ⟨o_553, 75, row encGWornPin t_18.fPins sp_555⟩, ⟨o_558, 2, row encI64 t_18.fStrokes sp_560⟩, ⟨o_574, 89, row encGAct t_20 sp_576⟩]) ?_ ?_
                    · refine jc_region ?_
                      refine jo_f [(0, 0), (0, 0), (0, 0), (12, 1), (3, 1)] (by kernel_rfl) ?_
                      refine jo_split 99 (decide (t_24.1 < 0)) (by kernel_rfl) (fun hc_935 => ?_) (fun hc_935 => ?_)
                      · replace h := ifT hc_935 h
                        refine jo_f [(0, 3), (0, 3), (0, 4), (0, 0), (0, 3), (0, 3), (0, 3), (0, 4)] (by kernel_rfl) ?_
                        refine jo_end (by kernel_rfl) ?_
                        exact jx_meet true h (by kernel_rfl) [0, 1, 2, 3, 4, 5, 6, 7, 8, 9, 10, 11, 12, 13, 14, 15, 16, 17, 18] (by kernel_rfl) (by kernel_rfl)
                      · replace h := ifF hc_935 h
                        obtain ⟨t_40, ht_936, h⟩ := bd h
                        refine toO (by kernel_rfl) (p_call 2 15 #[(.agg #[(.slice (o_241.map fun b => ⟨b, 0, none⟩) xs_11.length cap_242), (.slice (o_247.map fun b => ⟨b, 0, none⟩) xs_12.length cap_248)]), (.agg #[(.slice (o_165.map fun b => ⟨b, 0, none⟩) xs_4.length cap_166), (.slice (o_171.map fun b => ⟨b, 0, none⟩) xs_5.length cap_172)])] (by kernel_rfl) (by kernel_rfl) (fun w hm => laws_eqWear.calls (⟨xs_11, xs_12⟩ : GWear) (⟨xs_4, xs_5⟩ : GWear) w _ (o_241.map fun b => ⟨b, 0, none⟩) xs_11.length cap_242 (hm.ownRow (hh := 13) (o := o_241) (T := 75) (enc := encGWornPin) (xs := xs_11) (sp := sp_243) (by kernel_rfl) (fun e => (ho_246 e).1) encGWornPin_len) rfl (o_247.map fun b => ⟨b, 0, none⟩) xs_12.length cap_248 (hm.ownRow (hh := 14) (o := o_247) (T := 2) (enc := encI64) (xs := xs_12) (sp := sp_249) (by kernel_rfl) (fun e => (ho_252 e).1) encI64_len) rfl (o_165.map fun b => ⟨b, 0, none⟩) xs_4.length cap_166 (hm.ownRow (hh := 4) (o := o_165) (T := 75) (enc := encGWornPin) (xs := xs_4) (sp := sp_167) (by kernel_rfl) (fun e => (ho_170 e).1) encGWornPin_len) rfl (o_171.map fun b => ⟨b, 0, none⟩) xs_5.length cap_172 (hm.ownRow (hh := 5) (o := o_171) (T := 2) (enc := encI64) (xs := xs_5) (sp := sp_173) (by kernel_rfl) (fun e => (ho_176 e).1) encI64_len) rfl ht_936) ?_)
                        rintro w v w' hm ⟨rfl, hm'⟩
                        refine ⟨_, hm.app hm', jkO ?_⟩
                        clear hm hm'
                        refine jo_f [(0, 2), (0, 5), (0, 0), (0, 1), (0, 1), (0, 1), (0, 0)] (by kernel_rfl) ?_
                        refine jo_end (by kernel_rfl) ?_
                        exact jx_meet ((!t_40) || (i_13 != i_6)) h (by kernel_rfl) [0, 1, 2, 3, 4, 5, 6, 7, 8, 9, 10, 11, 12, 13, 14, 15, 16, 17, 18] (by kernel_rfl) (by kernel_rfl)
                    · rintro q_25 h
                      replace h : laws_FnExactDoWearActs.k_26 aF0 aW1 aV2 aList3 xs_4 xs_5 i_6 xs_11 xs_12 q_25 = some r := h
                      rw [laws_FnExactDoWearActs.k_26] at h
                      refine jx_then ?_
                      refine jc_cond q_25 (by kernel_rfl) (fun hc_599 => ?_) (fun hc_599 => ?_)
                      · replace h := ifT hc_599 h
                        refine jc_seq ?_
                        refine jc_region ?_
                        refine jo_f [(0, 0)] (by kernel_rfl) ?_
                        refine jo_end (by kernel_rfl) ?_
                        refine jx_then ?_
                        refine jc_ret ?_
                        refine jx_thenr ?_
                        obtain rfl := Option.some.inj h
                        exact jx_ret [] (.bool false) [] rfl (by kernel_rfl) (by kernel_rfl) (fun w hm => ⟨rfl, hm.pick [] (by kernel_rfl) (by kernel_rfl)⟩)
                      · replace h := ifF hc_599 h
                        refine jc_skip ?_
                        refine jx_then ?_
                        refine jc_seq ?_
                        refine jc_region ?_
                        refine jo_f [(0, 0)] (by kernel_rfl) ?_
                        refine jo_end (by kernel_rfl) ?_
                        refine jx_then ?_
                        refine jc_seq ?_
                        refine jc_region ?_
                        refine jo_f [(12, 0), (0, 0)] (by kernel_rfl) ?_
                        obtain ⟨t_27, ht_600, h⟩ := bd h
                        refine toO (by kernel_rfl) (p_call 0 19 #[(.agg #[(.slice (o_241.map fun b => ⟨b, 0, none⟩) xs_11.length cap_242), (.slice (o_247.map fun b => ⟨b, 0, none⟩) xs_12.length cap_248)]), (.int .i64 1)] (by kernel_rfl) (by kernel_rfl) (fun w hm => laws_markWear.calls (⟨xs_11, xs_12⟩ : GWear) 1 w _ o_241 xs_11.length cap_242 sp_243 rfl hs_245 ho_246 o_247 xs_12.length cap_248 sp_249 rfl hs_251 ho_252 (hm.pass (N := [⟨o_241, 75, row encGWornPin xs_11 sp_243⟩, ⟨o_247, 2, row encI64 xs_12 sp_249⟩]) [13, 14] (by kernel_rfl) (by kernel_rfl)) ht_600) ?_)
                        rintro w v w' hm ⟨hn_601, ho_602, hn_603, ho_604, rfl, hm'⟩
                        refine ⟨_, hm.appW (ps := [(13, ⟨o_241, 75, row encGWornPin t_27.2.1 sp_243⟩), (14, ⟨o_247, 2, row encI64 t_27.2.2 sp_249⟩)]) (N := []) hm' (by kernel_rfl) (by kernel_rfl), jkO ?_⟩
                        clear hm hm'
                        refine jo_f [(0, 0)] (by kernel_rfl) ?_
                        refine jo_end (by kernel_rfl) ?_
                        refine jx_then ?_
                        refine jc_seq ?_
                        refine jc_region ?_
                        refine jo_f [(0, 0)] (by kernel_rfl) ?_
                        refine jo_end (by kernel_rfl) ?_
                        refine jx_then ?_
                        refine jc_seq ?_
                        refine jc_region ?_
                        refine jo_f [(12, 0), (0, 0)] (by kernel_rfl) ?_
                        obtain ⟨t_28, ht_605, h⟩ := bd h
                        refine toO (by kernel_rfl) (p_call 0 21 #[(.agg #[(.slice (o_241.map fun b => ⟨b, 0, none⟩) xs_11.length cap_242), (.slice (o_247.map fun b => ⟨b, 0, none⟩) xs_12.length cap_248)]), (.int .i64 1)] (by kernel_rfl) (by kernel_rfl) (fun w hm => laws_heldWear.calls (⟨t_27.2.1, t_27.2.2⟩ : GWear) 1 w _ (o_241.map fun b => ⟨b, 0, none⟩) xs_11.length cap_242 (hm.ownRow (hh := 13) (o := o_241) (T := 75) (enc := encGWornPin) (xs := t_27.2.1) (sp := sp_243) (by kernel_rfl) (fun e => (ho_602 e).1) encGWornPin_len) hn_601 (o_247.map fun b => ⟨b, 0, none⟩) xs_12.length cap_248 (hm.ownRow (hh := 14) (o := o_247) (T := 2) (enc := encI64) (xs := t_27.2.2) (sp := sp_249) (by kernel_rfl) (fun e => (ho_604 e).1) encI64_len) hn_603 ht_605) ?_)
                        rintro w v w' hm ⟨rfl, hm'⟩
                        refine ⟨_, hm.app hm', jkO ?_⟩
                        clear hm hm'
                        refine jo_f [(0, 0)] (by kernel_rfl) ?_
                        refine jo_end (by kernel_rfl) ?_
                        refine jx_then ?_
                        refine jc_seq ?_
                        refine jc_seq ?_
                        refine jc_region ?_
                        refine jo_f [(0, 0), (0, 0)] (by kernel_rfl) ?_
                        refine jo_end (by kernel_rfl) ?_
                        refine jx_then ?_
                        refine jc_cond (decide (t_28 < 0)) (by kernel_rfl) (fun hc_607 => ?_) (fun hc_607 => ?_)
                        · replace h := ifT hc_607 h
                          refine jc_seq ?_
                          refine jc_region ?_
                          refine jo_f [(0, 0)] (by kernel_rfl) ?_
                          refine jo_end (by kernel_rfl) ?_
                          refine jx_then ?_
                          refine jc_ret ?_
                          refine jx_thenr ?_
                          obtain rfl := Option.some.inj h
                          exact jx_ret [] (.bool false) [] rfl (by kernel_rfl) (by kernel_rfl) (fun w hm => ⟨rfl, hm.pick [] (by kernel_rfl) (by kernel_rfl)⟩)
                        · replace h := ifF hc_607 h
                          refine jc_skip ?_
                          refine jx_then ?_
                          refine jc_seq ?_
                          refine jc_seq ?_
                          refine jc_region ?_
                          refine jo_f [(0, 0), (0, 0), (0, 0)] (by kernel_rfl) ?_
                          refine jo_end (by kernel_rfl) ?_
                          refine jx_then ?_
                          refine jc_cond (t_28 != t_27.1) (by kernel_rfl) (fun hc_609 => ?_) (fun hc_609 => ?_)
                          · replace h := ifT hc_609 h
                            refine jc_seq ?_
                            refine jc_region ?_
                            refine jo_f [(0, 0)] (by kernel_rfl) ?_
                            refine jo_end (by kernel_rfl) ?_
                            refine jx_then ?_
                            refine jc_ret ?_
                            refine jx_thenr ?_
                            obtain rfl := Option.some.inj h
                            exact jx_ret [] (.bool false) [] rfl (by kernel_rfl) (by kernel_rfl) (fun w hm => ⟨rfl, hm.pick [] (by kernel_rfl) (by kernel_rfl)⟩)
                          · replace h := ifF hc_609 h
                            refine jc_skip ?_
                            refine jx_then ?_
                            refine jc_seq ?_
                            refine jc_meet (fun (j : (List GWornPin) × (List Int) × Int × Nat × (Option Nat) × Nat × (List Value) × Nat × (Option Nat) × Nat × (List Value) × Nat) => match j with | ⟨xs_29, xs_30, i_31, b_761, o_762, cap_763, sp_764, n_765, o_768, cap_769, sp_770, n_771⟩ => laws_FnExactDoWearActs.k_32 xs_4 xs_5 i_6 t_27 xs_29 xs_30 i_31 = some r ∧ (xs_29.length = n_765) ∧ ((o_762 ≠ none → n_765 ≤ cap_763 ∧ sp_764.length = (cap_763 - n_765) * 3)) ∧ ((o_762 = none → xs_29 = [] ∧ cap_763 = 0)) ∧ (xs_30.length = n_771) ∧ ((o_768 ≠ none → n_771 ≤ cap_769 ∧ sp_770.length = (cap_769 - n_771) * 1)) ∧ ((o_768 = none → xs_30 = [] ∧ cap_769 = 0))) (fun (j : (List GWornPin) × (List Int) × Int × Nat × (Option Nat) × Nat × (List Value) × Nat × (Option Nat) × Nat × (List Value) × Nat) => match j with | ⟨xs_29, xs_30, i_31, b_761, o_762, cap_763, sp_764, n_765, o_768, cap_769, sp_770, n_771⟩ => [(8, [], (.bool false)), (10, [], (.pointer (some ⟨b_164, 0, none⟩))), (11, [], (.int .i64 i_6)), (15, [], (.pointer (some ⟨b_240, 0, none⟩))), (18, [], (.int .i64 t_27.1)), (19, [], (.int .i64 t_28)), (20, [], (.pointer (some ⟨b_761, 0, none⟩))), (21, [], (.int .i64 i_31))]) (fun (j : (List GWornPin) × (List Int) × Int × Nat × (Option Nat) × Nat × (List Value) × Nat × (Option Nat) × Nat × (List Value) × Nat) => match j with | ⟨xs_29, xs_30, i_31, b_761, o_762, cap_763, sp_764, n_765, o_768, cap_769, sp_770, n_771⟩ => [⟨some b_1, 25, [(.int .i16 aF0.fSteps), (.slice aF0_fHammers_a aF0.fHammers.length aF0_fHammers_c)]⟩, ⟨some b_2, 29, [(.slice aW1_fPins_a aW1.fPins.length aW1_fPins_c), (.slice aW1_fStrokes_a aW1.fStrokes.length aW1_fStrokes_c)]⟩, ⟨some b_3, 31, [(.int .i64 aV2.fPin), (.int .i64 aV2.fHammer)]⟩, ⟨some b_164, 38, [(.slice (o_165.map fun b => ⟨b, 0, none⟩) xs_4.length cap_166), (.slice (o_171.map fun b => ⟨b, 0, none⟩) xs_5.length cap_172)]⟩, ⟨o_165, 75, row encGWornPin xs_4 sp_167⟩, ⟨o_171, 2, row encI64 xs_5 sp_173⟩, ⟨o_178, 137, row encGHammer t_22.2 sp_180⟩, ⟨some b_183, 43, [(.int .i16 t_8.fSteps), (.slice (o_178.map fun b => ⟨b, 0, none⟩) t_8.fHammers.length cap_179)]⟩, ⟨o_185, 75, row encGWornPin t_23.2.1 sp_187⟩, ⟨o_190, 2, row encI64 t_23.2.2 sp_192⟩, ⟨some b_195, 38, [(.slice (o_185.map fun b => ⟨b, 0, none⟩) t_9.fPins.length cap_186), (.slice (o_190.map fun b => ⟨b, 0, none⟩) t_9.fStrokes.length cap_191)]⟩, ⟨o_197, 89, row encGAct t_24.2 sp_199⟩, ⟨some b_240, 38, [(.slice (o_241.map fun b => ⟨b, 0, none⟩) xs_11.length cap_242), (.slice (o_247.map fun b => ⟨b, 0, none⟩) xs_12.length cap_248)]⟩, ⟨o_241, 75, row encGWornPin t_27.2.1 sp_243⟩, ⟨o_247, 2, row encI64 t_27.2.2 sp_249⟩, ⟨o_282, 137, row encGHammer t_16.fHammers sp_284⟩, ⟨o_553, 75, row encGWornPin t_18.fPins sp_555⟩, ⟨o_558, 2, row encI64 t_18.fStrokes sp_560⟩, ⟨o_574, 89, row encGAct t_20 sp_576⟩, ⟨some b_761, 38, [(.slice (o_762.map fun b => ⟨b, 0, none⟩) n_765 cap_763), (.slice (o_768.map fun b => ⟨b, 0, none⟩) n_771 cap_769)]⟩, ⟨o_762, 75, row encGWornPin xs_29 sp_764⟩, ⟨o_768, 2, row encI64 xs_30 sp_770⟩]) ?_ ?_
                            · refine jc_draw [⟨some b_1, 25, [(.int .i16 aF0.fSteps), (.slice aF0_fHammers_a aF0.fHammers.length aF0_fHammers_c)]⟩, ⟨some b_2, 29, [(.slice aW1_fPins_a aW1.fPins.length aW1_fPins_c), (.slice aW1_fStrokes_a aW1.fStrokes.length aW1_fStrokes_c)]⟩, ⟨some b_3, 31, [(.int .i64 aV2.fPin), (.int .i64 aV2.fHammer)]⟩, ⟨some b_164, 38, [(.slice (o_165.map fun b => ⟨b, 0, none⟩) xs_4.length cap_166), (.slice (o_171.map fun b => ⟨b, 0, none⟩) xs_5.length cap_172)]⟩, ⟨o_165, 75, row encGWornPin xs_4 sp_167⟩, ⟨o_171, 2, row encI64 xs_5 sp_173⟩, ⟨o_178, 137, row encGHammer t_22.2 sp_180⟩, ⟨some b_183, 43, [(.int .i16 t_8.fSteps), (.slice (o_178.map fun b => ⟨b, 0, none⟩) t_8.fHammers.length cap_179)]⟩, ⟨o_185, 75, row encGWornPin t_23.2.1 sp_187⟩, ⟨o_190, 2, row encI64 t_23.2.2 sp_192⟩, ⟨some b_195, 38, [(.slice (o_185.map fun b => ⟨b, 0, none⟩) t_9.fPins.length cap_186), (.slice (o_190.map fun b => ⟨b, 0, none⟩) t_9.fStrokes.length cap_191)]⟩, ⟨o_197, 89, row encGAct t_24.2 sp_199⟩, ⟨some b_240, 38, [(.slice (o_241.map fun b => ⟨b, 0, none⟩) xs_11.length cap_242), (.slice (o_247.map fun b => ⟨b, 0, none⟩) xs_12.length cap_248)]⟩, ⟨o_241, 75, row encGWornPin t_27.2.1 sp_243⟩, ⟨o_247, 2, row encI64 t_27.2.2 sp_249⟩, ⟨o_282, 137, row encGHammer t_16.fHammers sp_284⟩, ⟨o_553, 75, row encGWornPin t_18.fPins sp_555⟩, ⟨o_558, 2, row encI64 t_18.fStrokes sp_560⟩, ⟨o_574, 89, row encGAct t_20 sp_576⟩] 15 (by kernel_rfl) (by kernel_rfl) ?_
                              refine jd_f [⟨0, 0, 0⟩, ⟨2, 1, 0⟩, ⟨4, 2, 0⟩, ⟨6, 0, 0⟩] 11 (by kernel_rfl) (by kernel_rfl) (fun w h => h.pick [0, 1, 2, 3, 4, 5, 6, 7, 8, 9, 10, 11, 12, 13, 14, 15, 16, 17, 18] (by kernel_rfl) (by kernel_rfl)) (by kernel_rfl) (by kernel_rfl) ?_
                              refine toD2 1 12 (by kernel_rfl) ?_ ?_
                              · obtain ⟨t_35, ht_784, h⟩ := bd h
                                refine p_call 0 10 #[(.agg #[(.int .i16 aF0.fSteps), (.slice aF0_fHammers_a aF0.fHammers.length aF0_fHammers_c)])] (by kernel_rfl) (by kernel_rfl) (fun w hm => laws_toFrame.calls aF0 w _ aF0_fHammers_a aF0.fHammers.length aF0_fHammers_c (hm.exRow aF0_fHammers_h List.not_mem_nil) rfl ht_784) ?_
                                rintro w v w' hm ⟨o_785, cap_786, sp_787, _, rfl, hs_788, ho_789, rfl, hm'⟩
                                refine ⟨_, hm.app hm', jkD (fun w h => h.pick [0, 1, 2, 3, 4, 5, 6, 7, 8, 9, 10, 11, 12, 13, 14, 15, 16, 17, 18] (by kernel_rfl) (by kernel_rfl)) ?_⟩
                                clear hm hm'
                                refine toD2 3 12 (by kernel_rfl) ?_ ?_
                                · obtain ⟨t_36, ht_790, h⟩ := bd h
                                  refine p_call 0 11 #[(.agg #[(.slice aW1_fPins_a aW1.fPins.length aW1_fPins_c), (.slice aW1_fStrokes_a aW1.fStrokes.length aW1_fStrokes_c)])] (by kernel_rfl) (by kernel_rfl) (fun w hm => laws_toWear.calls aW1 w _ aW1_fPins_a aW1.fPins.length aW1_fPins_c (hm.exRow aW1_fPins_h List.not_mem_nil) rfl aW1_fStrokes_a aW1.fStrokes.length aW1_fStrokes_c (hm.exRow aW1_fStrokes_h List.not_mem_nil) rfl ht_790) ?_
                                  rintro w v w' hm ⟨o_791, cap_792, sp_793, _, rfl, hs_794, ho_795, o_796, cap_797, sp_798, _, rfl, hs_799, ho_800, rfl, hm'⟩
                                  refine ⟨_, hm.app hm', jkD (fun w h => h.pick [0, 1, 2, 3, 4, 5, 6, 7, 8, 9, 10, 11, 12, 13, 14, 15, 16, 17, 18] (by kernel_rfl) (by kernel_rfl)) ?_⟩
                                  clear hm hm'
                                  refine toD2 5 12 (by kernel_rfl) ?_ ?_
                                  · obtain ⟨t_37, ht_801, h⟩ := bd h
                                    refine p_call 0 12 #[(.agg #[(.int .i64 aV2.fPin), (.int .i64 aV2.fHammer)])] (by kernel_rfl) (by kernel_rfl) (fun w hm => laws_toLives.calls aV2 w _ ht_801) ?_
                                    rintro w v w' hm ⟨rfl, hm'⟩
                                    refine ⟨_, hm.app hm', jkD (fun w h => h.pick [0, 1, 2, 3, 4, 5, 6, 7, 8, 9, 10, 11, 12, 13, 14, 15, 16, 17, 18] (by kernel_rfl) (by kernel_rfl)) ?_⟩
                                    clear hm hm'
                                    refine toD2 7 12 (by kernel_rfl) ?_ ?_
                                    · obtain ⟨t_38, ht_802, h⟩ := bd h
                                      refine p_call 0 13 #[(.slice aList3_a aList3.length aList3_c)] (by kernel_rfl) (by kernel_rfl) (fun w hm => laws_toActS.calls aList3 w _ aList3_a aList3.length aList3_c (hm.exRow aList3_h List.not_mem_nil) rfl ht_802) ?_
                                      rintro w v w' hm ⟨o_803, cap_804, sp_805, _, rfl, hs_806, ho_807, rfl, hm'⟩
                                      refine ⟨_, hm.app hm', jkD (fun w h => h.pick [0, 1, 2, 3, 4, 5, 6, 7, 8, 9, 10, 11, 12, 13, 14, 15, 16, 17, 18] (by kernel_rfl) (by kernel_rfl)) ?_⟩
                                      clear hm hm'
                                      refine toD2 8 12 (by kernel_rfl) ?_ ?_
                                      · obtain ⟨t_39, ht_808, h⟩ := bd h
                                        refine p_call 0 14 #[(.agg #[(.int .i16 t_35.fSteps), (.slice (o_785.map fun b => ⟨b, 0, none⟩) t_35.fHammers.length cap_786)]), (.agg #[(.slice (o_791.map fun b => ⟨b, 0, none⟩) t_36.fPins.length cap_792), (.slice (o_796.map fun b => ⟨b, 0, none⟩) t_36.fStrokes.length cap_797)]), (.agg #[(.int .i64 t_37.fPin), (.int .i64 t_37.fHammer)]), (.slice (o_803.map fun b => ⟨b, 0, none⟩) t_38.length cap_804)] (by kernel_rfl) (by kernel_rfl) (fun w hm => impl_DoWearActs.calls t_35 t_36 t_37 t_38 w _ (o_785.map fun b => ⟨b, 0, none⟩) t_35.fHammers.length cap_786 (hm.ownRow (hh := 19) (o := o_785) (T := 137) (enc := encGHammer) (xs := t_35.fHammers) (sp := sp_787) (by kernel_rfl) (fun e => (ho_789 e).1) encGHammer_len) rfl (o_791.map fun b => ⟨b, 0, none⟩) t_36.fPins.length cap_792 (hm.ownRow (hh := 20) (o := o_791) (T := 75) (enc := encGWornPin) (xs := t_36.fPins) (sp := sp_793) (by kernel_rfl) (fun e => (ho_795 e).1) encGWornPin_len) rfl (o_796.map fun b => ⟨b, 0, none⟩) t_36.fStrokes.length cap_797 (hm.ownRow (hh := 21) (o := o_796) (T := 2) (enc := encI64) (xs := t_36.fStrokes) (sp := sp_798) (by kernel_rfl) (fun e => (ho_800 e).1) encI64_len) rfl (o_803.map fun b => ⟨b, 0, none⟩) t_38.length cap_804 (hm.ownRow (hh := 22) (o := o_803) (T := 89) (enc := encGAct) (xs := t_38) (sp := sp_805) (by kernel_rfl) (fun e => (ho_807 e).1) encGAct_len) rfl ht_808) ?_
                                        rintro w v w' hm ⟨o_809, cap_810, sp_811, _, rfl, hs_812, ho_813, o_814, cap_815, sp_816, _, rfl, hs_817, ho_818, rfl, hm'⟩
                                        refine ⟨_, hm.app hm', jkD (fun w h => h.pick [0, 1, 2, 3, 4, 5, 6, 7, 8, 9, 10, 11, 12, 13, 14, 15, 16, 17, 18] (by kernel_rfl) (by kernel_rfl)) ?_⟩
                                        clear hm hm'
                                        refine jd_f [⟨9, 0, 0⟩, ⟨10, 0, 0⟩, ⟨11, 0, 0⟩] 3 (by kernel_rfl) (by kernel_rfl) (fun w h => h.pick [0, 1, 2, 3, 4, 5, 6, 7, 8, 9, 10, 11, 12, 13, 14, 15, 16, 17, 18] (by kernel_rfl) (by kernel_rfl)) (by kernel_rfl) (by kernel_rfl) ?_
                                        refine toD 12 (by kernel_rfl) (p_a 0 [0] (by kernel_rfl) (fun b => by kernel_rfl) (fun b_819 => jkD (fun w h => h.pick [0, 1, 2, 3, 4, 5, 6, 7, 8, 9, 10, 11, 12, 13, 14, 15, 16, 17, 18] (by kernel_rfl) (by kernel_rfl)) ?_))
                                        refine toD 13 (by kernel_rfl) (p_s 0 [25] (by kernel_rfl) (by kernel_rfl) (jkD (fun w h => h.pick [0, 1, 2, 3, 4, 5, 6, 7, 8, 9, 10, 11, 12, 13, 14, 15, 16, 17, 18] (by kernel_rfl) (by kernel_rfl)) ?_))
                                        refine jd_f [⟨14, 0, 0⟩] 0 (by kernel_rfl) (by kernel_rfl) (fun w h => h.pick [0, 1, 2, 3, 4, 5, 6, 7, 8, 9, 10, 11, 12, 13, 14, 15, 16, 17, 18] (by kernel_rfl) (by kernel_rfl)) (by kernel_rfl) (by kernel_rfl) ?_
                                        refine jd_end (by kernel_rfl) ?_
                                        exact jx_meet ⟨t_39.1.fPins, t_39.1.fStrokes, t_39.2, b_819, o_809, cap_810, sp_811, t_39.1.fPins.length, o_814, cap_815, sp_816, t_39.1.fStrokes.length⟩ ⟨h, rfl, hs_812, ho_813, rfl, hs_817, ho_818⟩ (by kernel_rfl) [0, 1, 2, 3, 4, 5, 6, 7, 8, 9, 10, 11, 12, 13, 14, 15, 16, 17, 18, 25, 23, 24] (by kernel_rfl) (by kernel_rfl)
                                      · refine p_a 0 [0] (by kernel_rfl) (fun b => by kernel_rfl) (fun b_820 => jkD (fun w h => h.pick [0, 1, 2, 3, 4, 5, 6, 7, 8, 9, 10, 11, 12, 13, 14, 15, 16, 17, 18] (by kernel_rfl) (by kernel_rfl)) ?_)
                                        obtain ⟨t_39, ht_821, h⟩ := bd h
                                        refine toD 8 (by kernel_rfl) (p_call 0 14 #[(.agg #[(.int .i16 t_35.fSteps), (.slice (o_785.map fun b => ⟨b, 0, none⟩) t_35.fHammers.length cap_786)]), (.agg #[(.slice (o_791.map fun b => ⟨b, 0, none⟩) t_36.fPins.length cap_792), (.slice (o_796.map fun b => ⟨b, 0, none⟩) t_36.fStrokes.length cap_797)]), (.agg #[(.int .i64 t_37.fPin), (.int .i64 t_37.fHammer)]), (.slice (o_803.map fun b => ⟨b, 0, none⟩) t_38.length cap_804)] (by kernel_rfl) (by kernel_rfl) (fun w hm => impl_DoWearActs.calls t_35 t_36 t_37 t_38 w _ (o_785.map fun b => ⟨b, 0, none⟩) t_35.fHammers.length cap_786 (hm.ownRow (hh := 19) (o := o_785) (T := 137) (enc := encGHammer) (xs := t_35.fHammers) (sp := sp_787) (by kernel_rfl) (fun e => (ho_789 e).1) encGHammer_len) rfl (o_791.map fun b => ⟨b, 0, none⟩) t_36.fPins.length cap_792 (hm.ownRow (hh := 20) (o := o_791) (T := 75) (enc := encGWornPin) (xs := t_36.fPins) (sp := sp_793) (by kernel_rfl) (fun e => (ho_795 e).1) encGWornPin_len) rfl (o_796.map fun b => ⟨b, 0, none⟩) t_36.fStrokes.length cap_797 (hm.ownRow (hh := 21) (o := o_796) (T := 2) (enc := encI64) (xs := t_36.fStrokes) (sp := sp_798) (by kernel_rfl) (fun e => (ho_800 e).1) encI64_len) rfl (o_803.map fun b => ⟨b, 0, none⟩) t_38.length cap_804 (hm.ownRow (hh := 22) (o := o_803) (T := 89) (enc := encGAct) (xs := t_38) (sp := sp_805) (by kernel_rfl) (fun e => (ho_807 e).1) encGAct_len) rfl ht_821) ?_)
                                        rintro w v w' hm ⟨o_822, cap_823, sp_824, _, rfl, hs_825, ho_826, o_827, cap_828, sp_829, _, rfl, hs_830, ho_831, rfl, hm'⟩
                                        refine ⟨_, hm.app hm', jkD (fun w h => h.pick [0, 1, 2, 3, 4, 5, 6, 7, 8, 9, 10, 11, 12, 13, 14, 15, 16, 17, 18] (by kernel_rfl) (by kernel_rfl)) ?_⟩
                                        clear hm hm'
                                        refine jd_f [⟨9, 0, 0⟩, ⟨10, 0, 0⟩, ⟨11, 0, 0⟩] 2 (by kernel_rfl) (by kernel_rfl) (fun w h => h.pick [0, 1, 2, 3, 4, 5, 6, 7, 8, 9, 10, 11, 12, 13, 14, 15, 16, 17, 18] (by kernel_rfl) (by kernel_rfl)) (by kernel_rfl) (by kernel_rfl) ?_
                                        refine toD 13 (by kernel_rfl) (p_s 0 [23] (by kernel_rfl) (by kernel_rfl) (jkD (fun w h => h.pick [0, 1, 2, 3, 4, 5, 6, 7, 8, 9, 10, 11, 12, 13, 14, 15, 16, 17, 18] (by kernel_rfl) (by kernel_rfl)) ?_))
                                        refine jd_f [⟨14, 0, 0⟩] 0 (by kernel_rfl) (by kernel_rfl) (fun w h => h.pick [0, 1, 2, 3, 4, 5, 6, 7, 8, 9, 10, 11, 12, 13, 14, 15, 16, 17, 18] (by kernel_rfl) (by kernel_rfl)) (by kernel_rfl) (by kernel_rfl) ?_
                                        refine jd_end (by kernel_rfl) ?_
                                        exact jx_meet ⟨t_39.1.fPins, t_39.1.fStrokes, t_39.2, b_820, o_822, cap_823, sp_824, t_39.1.fPins.length, o_827, cap_828, sp_829, t_39.1.fStrokes.length⟩ ⟨h, rfl, hs_825, ho_826, rfl, hs_830, ho_831⟩ (by kernel_rfl) [0, 1, 2, 3, 4, 5, 6, 7, 8, 9, 10, 11, 12, 13, 14, 15, 16, 17, 18, 23, 24, 25] (by kernel_rfl) (by kernel_rfl)
                                    · refine p_a 0 [0] (by kernel_rfl) (fun b => by kernel_rfl) (fun b_832 => jkD (fun w h => h.pick [0, 1, 2, 3, 4, 5, 6, 7, 8, 9, 10, 11, 12, 13, 14, 15, 16, 17, 18] (by kernel_rfl) (by kernel_rfl)) ?_)
                                      obtain ⟨t_38, ht_833, h⟩ := bd h
                                      refine toD 7 (by kernel_rfl) (p_call 0 13 #[(.slice aList3_a aList3.length aList3_c)] (by kernel_rfl) (by kernel_rfl) (fun w hm => laws_toActS.calls aList3 w _ aList3_a aList3.length aList3_c (hm.exRow aList3_h List.not_mem_nil) rfl ht_833) ?_)
                                      rintro w v w' hm ⟨o_834, cap_835, sp_836, _, rfl, hs_837, ho_838, rfl, hm'⟩
                                      refine ⟨_, hm.app hm', jkD (fun w h => h.pick [0, 1, 2, 3, 4, 5, 6, 7, 8, 9, 10, 11, 12, 13, 14, 15, 16, 17, 18] (by kernel_rfl) (by kernel_rfl)) ?_⟩
                                      clear hm hm'
                                      obtain ⟨t_39, ht_839, h⟩ := bd h
                                      refine toD 8 (by kernel_rfl) (p_call 0 14 #[(.agg #[(.int .i16 t_35.fSteps), (.slice (o_785.map fun b => ⟨b, 0, none⟩) t_35.fHammers.length cap_786)]), (.agg #[(.slice (o_791.map fun b => ⟨b, 0, none⟩) t_36.fPins.length cap_792), (.slice (o_796.map fun b => ⟨b, 0, none⟩) t_36.fStrokes.length cap_797)]), (.agg #[(.int .i64 t_37.fPin), (.int .i64 t_37.fHammer)]), (.slice (o_834.map fun b => ⟨b, 0, none⟩) t_38.length cap_835)] (by kernel_rfl) (by kernel_rfl) (fun w hm => impl_DoWearActs.calls t_35 t_36 t_37 t_38 w _ (o_785.map fun b => ⟨b, 0, none⟩) t_35.fHammers.length cap_786 (hm.ownRow (hh := 19) (o := o_785) (T := 137) (enc := encGHammer) (xs := t_35.fHammers) (sp := sp_787) (by kernel_rfl) (fun e => (ho_789 e).1) encGHammer_len) rfl (o_791.map fun b => ⟨b, 0, none⟩) t_36.fPins.length cap_792 (hm.ownRow (hh := 20) (o := o_791) (T := 75) (enc := encGWornPin) (xs := t_36.fPins) (sp := sp_793) (by kernel_rfl) (fun e => (ho_795 e).1) encGWornPin_len) rfl (o_796.map fun b => ⟨b, 0, none⟩) t_36.fStrokes.length cap_797 (hm.ownRow (hh := 21) (o := o_796) (T := 2) (enc := encI64) (xs := t_36.fStrokes) (sp := sp_798) (by kernel_rfl) (fun e => (ho_800 e).1) encI64_len) rfl (o_834.map fun b => ⟨b, 0, none⟩) t_38.length cap_835 (hm.ownRow (hh := 23) (o := o_834) (T := 89) (enc := encGAct) (xs := t_38) (sp := sp_836) (by kernel_rfl) (fun e => (ho_838 e).1) encGAct_len) rfl ht_839) ?_)
                                      rintro w v w' hm ⟨o_840, cap_841, sp_842, _, rfl, hs_843, ho_844, o_845, cap_846, sp_847, _, rfl, hs_848, ho_849, rfl, hm'⟩
                                      refine ⟨_, hm.app hm', jkD (fun w h => h.pick [0, 1, 2, 3, 4, 5, 6, 7, 8, 9, 10, 11, 12, 13, 14, 15, 16, 17, 18] (by kernel_rfl) (by kernel_rfl)) ?_⟩
                                      clear hm hm'
                                      refine jd_f [⟨9, 0, 0⟩, ⟨10, 0, 0⟩, ⟨11, 0, 0⟩] 2 (by kernel_rfl) (by kernel_rfl) (fun w h => h.pick [0, 1, 2, 3, 4, 5, 6, 7, 8, 9, 10, 11, 12, 13, 14, 15, 16, 17, 18] (by kernel_rfl) (by kernel_rfl)) (by kernel_rfl) (by kernel_rfl) ?_
                                      refine toD 13 (by kernel_rfl) (p_s 0 [22] (by kernel_rfl) (by kernel_rfl) (jkD (fun w h => h.pick [0, 1, 2, 3, 4, 5, 6, 7, 8, 9, 10, 11, 12, 13, 14, 15, 16, 17, 18] (by kernel_rfl) (by kernel_rfl)) ?_))
                                      refine jd_f [⟨14, 0, 0⟩] 0 (by kernel_rfl) (by kernel_rfl) (fun w h => h.pick [0, 1, 2, 3, 4, 5, 6, 7, 8, 9, 10, 11, 12, 13, 14, 15, 16, 17, 18] (by kernel_rfl) (by kernel_rfl)) (by kernel_rfl) (by kernel_rfl) ?_
                                      refine jd_end (by kernel_rfl) ?_
                                      exact jx_meet ⟨t_39.1.fPins, t_39.1.fStrokes, t_39.2, b_832, o_840, cap_841, sp_842, t_39.1.fPins.length, o_845, cap_846, sp_847, t_39.1.fStrokes.length⟩ ⟨h, rfl, hs_843, ho_844, rfl, hs_848, ho_849⟩ (by kernel_rfl) [0, 1, 2, 3, 4, 5, 6, 7, 8, 9, 10, 11, 12, 13, 14, 15, 16, 17, 18, 22, 24, 25] (by kernel_rfl) (by kernel_rfl)
                                  · refine p_a 0 [0] (by kernel_rfl) (fun b => by kernel_rfl) (fun b_850 => jkD (fun w h => h.pick [0, 1, 2, 3, 4, 5, 6, 7, 8, 9, 10, 11, 12, 13, 14, 15, 16, 17, 18] (by kernel_rfl) (by kernel_rfl)) ?_)
                                    obtain ⟨t_37, ht_851, h⟩ := bd h
                                    refine toD 5 (by kernel_rfl) (p_call 0 12 #[(.agg #[(.int .i64 aV2.fPin), (.int .i64 aV2.fHammer)])] (by kernel_rfl) (by kernel_rfl) (fun w hm => laws_toLives.calls aV2 w _ ht_851) ?_)
                                    rintro w v w' hm ⟨rfl, hm'⟩
                                    refine ⟨_, hm.app hm', jkD (fun w h => h.pick [0, 1, 2, 3, 4, 5, 6, 7, 8, 9, 10, 11, 12, 13, 14, 15, 16, 17, 18] (by kernel_rfl) (by kernel_rfl)) ?_⟩
                                    clear hm hm'
                                    obtain ⟨t_38, ht_852, h⟩ := bd h
                                    refine toD 7 (by kernel_rfl) (p_call 0 13 #[(.slice aList3_a aList3.length aList3_c)] (by kernel_rfl) (by kernel_rfl) (fun w hm => laws_toActS.calls aList3 w _ aList3_a aList3.length aList3_c (hm.exRow aList3_h List.not_mem_nil) rfl ht_852) ?_)
                                    rintro w v w' hm ⟨o_853, cap_854, sp_855, _, rfl, hs_856, ho_857, rfl, hm'⟩
                                    refine ⟨_, hm.app hm', jkD (fun w h => h.pick [0, 1, 2, 3, 4, 5, 6, 7, 8, 9, 10, 11, 12, 13, 14, 15, 16, 17, 18] (by kernel_rfl) (by kernel_rfl)) ?_⟩
                                    clear hm hm'
                                    obtain ⟨t_39, ht_858, h⟩ := bd h
                                    refine toD 8 (by kernel_rfl) (p_call 0 14 #[(.agg #[(.int .i16 t_35.fSteps), (.slice (o_785.map fun b => ⟨b, 0, none⟩) t_35.fHammers.length cap_786)]), (.agg #[(.slice (o_791.map fun b => ⟨b, 0, none⟩) t_36.fPins.length cap_792), (.slice (o_796.map fun b => ⟨b, 0, none⟩) t_36.fStrokes.length cap_797)]), (.agg #[(.int .i64 t_37.fPin), (.int .i64 t_37.fHammer)]), (.slice (o_853.map fun b => ⟨b, 0, none⟩) t_38.length cap_854)] (by kernel_rfl) (by kernel_rfl) (fun w hm => impl_DoWearActs.calls t_35 t_36 t_37 t_38 w _ (o_785.map fun b => ⟨b, 0, none⟩) t_35.fHammers.length cap_786 (hm.ownRow (hh := 19) (o := o_785) (T := 137) (enc := encGHammer) (xs := t_35.fHammers) (sp := sp_787) (by kernel_rfl) (fun e => (ho_789 e).1) encGHammer_len) rfl (o_791.map fun b => ⟨b, 0, none⟩) t_36.fPins.length cap_792 (hm.ownRow (hh := 20) (o := o_791) (T := 75) (enc := encGWornPin) (xs := t_36.fPins) (sp := sp_793) (by kernel_rfl) (fun e => (ho_795 e).1) encGWornPin_len) rfl (o_796.map fun b => ⟨b, 0, none⟩) t_36.fStrokes.length cap_797 (hm.ownRow (hh := 21) (o := o_796) (T := 2) (enc := encI64) (xs := t_36.fStrokes) (sp := sp_798) (by kernel_rfl) (fun e => (ho_800 e).1) encI64_len) rfl (o_853.map fun b => ⟨b, 0, none⟩) t_38.length cap_854 (hm.ownRow (hh := 23) (o := o_853) (T := 89) (enc := encGAct) (xs := t_38) (sp := sp_855) (by kernel_rfl) (fun e => (ho_857 e).1) encGAct_len) rfl ht_858) ?_)
                                    rintro w v w' hm ⟨o_859, cap_860, sp_861, _, rfl, hs_862, ho_863, o_864, cap_865, sp_866, _, rfl, hs_867, ho_868, rfl, hm'⟩
                                    refine ⟨_, hm.app hm', jkD (fun w h => h.pick [0, 1, 2, 3, 4, 5, 6, 7, 8, 9, 10, 11, 12, 13, 14, 15, 16, 17, 18] (by kernel_rfl) (by kernel_rfl)) ?_⟩
                                    clear hm hm'
                                    refine jd_f [⟨9, 0, 0⟩, ⟨10, 0, 0⟩, ⟨11, 0, 0⟩] 2 (by kernel_rfl) (by kernel_rfl) (fun w h => h.pick [0, 1, 2, 3, 4, 5, 6, 7, 8, 9, 10, 11, 12, 13, 14, 15, 16, 17, 18] (by kernel_rfl) (by kernel_rfl)) (by kernel_rfl) (by kernel_rfl) ?_
                                    refine toD 13 (by kernel_rfl) (p_s 0 [22] (by kernel_rfl) (by kernel_rfl) (jkD (fun w h => h.pick [0, 1, 2, 3, 4, 5, 6, 7, 8, 9, 10, 11, 12, 13, 14, 15, 16, 17, 18] (by kernel_rfl) (by kernel_rfl)) ?_))
                                    refine jd_f [⟨14, 0, 0⟩] 0 (by kernel_rfl) (by kernel_rfl) (fun w h => h.pick [0, 1, 2, 3, 4, 5, 6, 7, 8, 9, 10, 11, 12, 13, 14, 15, 16, 17, 18] (by kernel_rfl) (by kernel_rfl)) (by kernel_rfl) (by kernel_rfl) ?_
                                    refine jd_end (by kernel_rfl) ?_
                                    exact jx_meet ⟨t_39.1.fPins, t_39.1.fStrokes, t_39.2, b_850, o_859, cap_860, sp_861, t_39.1.fPins.length, o_864, cap_865, sp_866, t_39.1.fStrokes.length⟩ ⟨h, rfl, hs_862, ho_863, rfl, hs_867, ho_868⟩ (by kernel_rfl) [0, 1, 2, 3, 4, 5, 6, 7, 8, 9, 10, 11, 12, 13, 14, 15, 16, 17, 18, 22, 24, 25] (by kernel_rfl) (by kernel_rfl)
                                · refine p_a 0 [0] (by kernel_rfl) (fun b => by kernel_rfl) (fun b_869 => jkD (fun w h => h.pick [0, 1, 2, 3, 4, 5, 6, 7, 8, 9, 10, 11, 12, 13, 14, 15, 16, 17, 18] (by kernel_rfl) (by kernel_rfl)) ?_)
                                  obtain ⟨t_36, ht_870, h⟩ := bd h
                                  refine toD 3 (by kernel_rfl) (p_call 0 11 #[(.agg #[(.slice aW1_fPins_a aW1.fPins.length aW1_fPins_c), (.slice aW1_fStrokes_a aW1.fStrokes.length aW1_fStrokes_c)])] (by kernel_rfl) (by kernel_rfl) (fun w hm => laws_toWear.calls aW1 w _ aW1_fPins_a aW1.fPins.length aW1_fPins_c (hm.exRow aW1_fPins_h List.not_mem_nil) rfl aW1_fStrokes_a aW1.fStrokes.length aW1_fStrokes_c (hm.exRow aW1_fStrokes_h List.not_mem_nil) rfl ht_870) ?_)
                                  rintro w v w' hm ⟨o_871, cap_872, sp_873, _, rfl, hs_874, ho_875, o_876, cap_877, sp_878, _, rfl, hs_879, ho_880, rfl, hm'⟩
                                  refine ⟨_, hm.app hm', jkD (fun w h => h.pick [0, 1, 2, 3, 4, 5, 6, 7, 8, 9, 10, 11, 12, 13, 14, 15, 16, 17, 18] (by kernel_rfl) (by kernel_rfl)) ?_⟩
                                  clear hm hm'
                                  obtain ⟨t_37, ht_881, h⟩ := bd h
                                  refine toD 5 (by kernel_rfl) (p_call 0 12 #[(.agg #[(.int .i64 aV2.fPin), (.int .i64 aV2.fHammer)])] (by kernel_rfl) (by kernel_rfl) (fun w hm => laws_toLives.calls aV2 w _ ht_881) ?_)
                                  rintro w v w' hm ⟨rfl, hm'⟩
                                  refine ⟨_, hm.app hm', jkD (fun w h => h.pick [0, 1, 2, 3, 4, 5, 6, 7, 8, 9, 10, 11, 12, 13, 14, 15, 16, 17, 18] (by kernel_rfl) (by kernel_rfl)) ?_⟩
                                  clear hm hm'
                                  obtain ⟨t_38, ht_882, h⟩ := bd h
                                  refine toD 7 (by kernel_rfl) (p_call 0 13 #[(.slice aList3_a aList3.length aList3_c)] (by kernel_rfl) (by kernel_rfl) (fun w hm => laws_toActS.calls aList3 w _ aList3_a aList3.length aList3_c (hm.exRow aList3_h List.not_mem_nil) rfl ht_882) ?_)
                                  rintro w v w' hm ⟨o_883, cap_884, sp_885, _, rfl, hs_886, ho_887, rfl, hm'⟩
                                  refine ⟨_, hm.app hm', jkD (fun w h => h.pick [0, 1, 2, 3, 4, 5, 6, 7, 8, 9, 10, 11, 12, 13, 14, 15, 16, 17, 18] (by kernel_rfl) (by kernel_rfl)) ?_⟩
                                  clear hm hm'
                                  obtain ⟨t_39, ht_888, h⟩ := bd h
                                  refine toD 8 (by kernel_rfl) (p_call 0 14 #[(.agg #[(.int .i16 t_35.fSteps), (.slice (o_785.map fun b => ⟨b, 0, none⟩) t_35.fHammers.length cap_786)]), (.agg #[(.slice (o_871.map fun b => ⟨b, 0, none⟩) t_36.fPins.length cap_872), (.slice (o_876.map fun b => ⟨b, 0, none⟩) t_36.fStrokes.length cap_877)]), (.agg #[(.int .i64 t_37.fPin), (.int .i64 t_37.fHammer)]), (.slice (o_883.map fun b => ⟨b, 0, none⟩) t_38.length cap_884)] (by kernel_rfl) (by kernel_rfl) (fun w hm => impl_DoWearActs.calls t_35 t_36 t_37 t_38 w _ (o_785.map fun b => ⟨b, 0, none⟩) t_35.fHammers.length cap_786 (hm.ownRow (hh := 19) (o := o_785) (T := 137) (enc := encGHammer) (xs := t_35.fHammers) (sp := sp_787) (by kernel_rfl) (fun e => (ho_789 e).1) encGHammer_len) rfl (o_871.map fun b => ⟨b, 0, none⟩) t_36.fPins.length cap_872 (hm.ownRow (hh := 21) (o := o_871) (T := 75) (enc := encGWornPin) (xs := t_36.fPins) (sp := sp_873) (by kernel_rfl) (fun e => (ho_875 e).1) encGWornPin_len) rfl (o_876.map fun b => ⟨b, 0, none⟩) t_36.fStrokes.length cap_877 (hm.ownRow (hh := 22) (o := o_876) (T := 2) (enc := encI64) (xs := t_36.fStrokes) (sp := sp_878) (by kernel_rfl) (fun e => (ho_880 e).1) encI64_len) rfl (o_883.map fun b => ⟨b, 0, none⟩) t_38.length cap_884 (hm.ownRow (hh := 23) (o := o_883) (T := 89) (enc := encGAct) (xs := t_38) (sp := sp_885) (by kernel_rfl) (fun e => (ho_887 e).1) encGAct_len) rfl ht_888) ?_)
                                  rintro w v w' hm ⟨o_889, cap_890, sp_891, _, rfl, hs_892, ho_893, o_894, cap_895, sp_896, _, rfl, hs_897, ho_898, rfl, hm'⟩
                                  refine ⟨_, hm.app hm', jkD (fun w h => h.pick [0, 1, 2, 3, 4, 5, 6, 7, 8, 9, 10, 11, 12, 13, 14, 15, 16, 17, 18] (by kernel_rfl) (by kernel_rfl)) ?_⟩
                                  clear hm hm'
                                  refine jd_f [⟨9, 0, 0⟩, ⟨10, 0, 0⟩, ⟨11, 0, 0⟩] 2 (by kernel_rfl) (by kernel_rfl) (fun w h => h.pick [0, 1, 2, 3, 4, 5, 6, 7, 8, 9, 10, 11, 12, 13, 14, 15, 16, 17, 18] (by kernel_rfl) (by kernel_rfl)) (by kernel_rfl) (by kernel_rfl) ?_
                                  refine toD 13 (by kernel_rfl) (p_s 0 [20] (by kernel_rfl) (by kernel_rfl) (jkD (fun w h => h.pick [0, 1, 2, 3, 4, 5, 6, 7, 8, 9, 10, 11, 12, 13, 14, 15, 16, 17, 18] (by kernel_rfl) (by kernel_rfl)) ?_))
                                  refine jd_f [⟨14, 0, 0⟩] 0 (by kernel_rfl) (by kernel_rfl) (fun w h => h.pick [0, 1, 2, 3, 4, 5, 6, 7, 8, 9, 10, 11, 12, 13, 14, 15, 16, 17, 18] (by kernel_rfl) (by kernel_rfl)) (by kernel_rfl) (by kernel_rfl) ?_
                                  refine jd_end (by kernel_rfl) ?_
                                  exact jx_meet ⟨t_39.1.fPins, t_39.1.fStrokes, t_39.2, b_869, o_889, cap_890, sp_891, t_39.1.fPins.length, o_894, cap_895, sp_896, t_39.1.fStrokes.length⟩ ⟨h, rfl, hs_892, ho_893, rfl, hs_897, ho_898⟩ (by kernel_rfl) [0, 1, 2, 3, 4, 5, 6, 7, 8, 9, 10, 11, 12, 13, 14, 15, 16, 17, 18, 20, 24, 25] (by kernel_rfl) (by kernel_rfl)
                              · refine p_a 0 [0] (by kernel_rfl) (fun b => by kernel_rfl) (fun b_899 => jkD (fun w h => h.pick [0, 1, 2, 3, 4, 5, 6, 7, 8, 9, 10, 11, 12, 13, 14, 15, 16, 17, 18] (by kernel_rfl) (by kernel_rfl)) ?_)
                                obtain ⟨t_35, ht_900, h⟩ := bd h
                                refine toD 1 (by kernel_rfl) (p_call 0 10 #[(.agg #[(.int .i16 aF0.fSteps), (.slice aF0_fHammers_a aF0.fHammers.length aF0_fHammers_c)])] (by kernel_rfl) (by kernel_rfl) (fun w hm => laws_toFrame.calls aF0 w _ aF0_fHammers_a aF0.fHammers.length aF0_fHammers_c (hm.exRow aF0_fHammers_h List.not_mem_nil) rfl ht_900) ?_)
                                rintro w v w' hm ⟨o_901, cap_902, sp_903, _, rfl, hs_904, ho_905, rfl, hm'⟩
                                refine ⟨_, hm.app hm', jkD (fun w h => h.pick [0, 1, 2, 3, 4, 5, 6, 7, 8, 9, 10, 11, 12, 13, 14, 15, 16, 17, 18] (by kernel_rfl) (by kernel_rfl)) ?_⟩
                                clear hm hm'
                                obtain ⟨t_36, ht_906, h⟩ := bd h
                                refine toD 3 (by kernel_rfl) (p_call 0 11 #[(.agg #[(.slice aW1_fPins_a aW1.fPins.length aW1_fPins_c), (.slice aW1_fStrokes_a aW1.fStrokes.length aW1_fStrokes_c)])] (by kernel_rfl) (by kernel_rfl) (fun w hm => laws_toWear.calls aW1 w _ aW1_fPins_a aW1.fPins.length aW1_fPins_c (hm.exRow aW1_fPins_h List.not_mem_nil) rfl aW1_fStrokes_a aW1.fStrokes.length aW1_fStrokes_c (hm.exRow aW1_fStrokes_h List.not_mem_nil) rfl ht_906) ?_)
                                rintro w v w' hm ⟨o_907, cap_908, sp_909, _, rfl, hs_910, ho_911, o_912, cap_913, sp_914, _, rfl, hs_915, ho_916, rfl, hm'⟩
                                refine ⟨_, hm.app hm', jkD (fun w h => h.pick [0, 1, 2, 3, 4, 5, 6, 7, 8, 9, 10, 11, 12, 13, 14, 15, 16, 17, 18] (by kernel_rfl) (by kernel_rfl)) ?_⟩
                                clear hm hm'
                                obtain ⟨t_37, ht_917, h⟩ := bd h
                                refine toD 5 (by kernel_rfl) (p_call 0 12 #[(.agg #[(.int .i64 aV2.fPin), (.int .i64 aV2.fHammer)])] (by kernel_rfl) (by kernel_rfl) (fun w hm => laws_toLives.calls aV2 w _ ht_917) ?_)
                                rintro w v w' hm ⟨rfl, hm'⟩
                                refine ⟨_, hm.app hm', jkD (fun w h => h.pick [0, 1, 2, 3, 4, 5, 6, 7, 8, 9, 10, 11, 12, 13, 14, 15, 16, 17, 18] (by kernel_rfl) (by kernel_rfl)) ?_⟩
                                clear hm hm'
                                obtain ⟨t_38, ht_918, h⟩ := bd h
                                refine toD 7 (by kernel_rfl) (p_call 0 13 #[(.slice aList3_a aList3.length aList3_c)] (by kernel_rfl) (by kernel_rfl) (fun w hm => laws_toActS.calls aList3 w _ aList3_a aList3.length aList3_c (hm.exRow aList3_h List.not_mem_nil) rfl ht_918) ?_)
                                rintro w v w' hm ⟨o_919, cap_920, sp_921, _, rfl, hs_922, ho_923, rfl, hm'⟩
                                refine ⟨_, hm.app hm', jkD (fun w h => h.pick [0, 1, 2, 3, 4, 5, 6, 7, 8, 9, 10, 11, 12, 13, 14, 15, 16, 17, 18] (by kernel_rfl) (by kernel_rfl)) ?_⟩
                                clear hm hm'
                                obtain ⟨t_39, ht_924, h⟩ := bd h
                                refine toD 8 (by kernel_rfl) (p_call 0 14 #[(.agg #[(.int .i16 t_35.fSteps), (.slice (o_901.map fun b => ⟨b, 0, none⟩) t_35.fHammers.length cap_902)]), (.agg #[(.slice (o_907.map fun b => ⟨b, 0, none⟩) t_36.fPins.length cap_908), (.slice (o_912.map fun b => ⟨b, 0, none⟩) t_36.fStrokes.length cap_913)]), (.agg #[(.int .i64 t_37.fPin), (.int .i64 t_37.fHammer)]), (.slice (o_919.map fun b => ⟨b, 0, none⟩) t_38.length cap_920)] (by kernel_rfl) (by kernel_rfl) (fun w hm => impl_DoWearActs.calls t_35 t_36 t_37 t_38 w _ (o_901.map fun b => ⟨b, 0, none⟩) t_35.fHammers.length cap_902 (hm.ownRow (hh := 20) (o := o_901) (T := 137) (enc := encGHammer) (xs := t_35.fHammers) (sp := sp_903) (by kernel_rfl) (fun e => (ho_905 e).1) encGHammer_len) rfl (o_907.map fun b => ⟨b, 0, none⟩) t_36.fPins.length cap_908 (hm.ownRow (hh := 21) (o := o_907) (T := 75) (enc := encGWornPin) (xs := t_36.fPins) (sp := sp_909) (by kernel_rfl) (fun e => (ho_911 e).1) encGWornPin_len) rfl (o_912.map fun b => ⟨b, 0, none⟩) t_36.fStrokes.length cap_913 (hm.ownRow (hh := 22) (o := o_912) (T := 2) (enc := encI64) (xs := t_36.fStrokes) (sp := sp_914) (by kernel_rfl) (fun e => (ho_916 e).1) encI64_len) rfl (o_919.map fun b => ⟨b, 0, none⟩) t_38.length cap_920 (hm.ownRow (hh := 23) (o := o_919) (T := 89) (enc := encGAct) (xs := t_38) (sp := sp_921) (by kernel_rfl) (fun e => (ho_923 e).1) encGAct_len) rfl ht_924) ?_)
                                rintro w v w' hm ⟨o_925, cap_926, sp_927, _, rfl, hs_928, ho_929, o_930, cap_931, sp_932, _, rfl, hs_933, ho_934, rfl, hm'⟩
                                refine ⟨_, hm.app hm', jkD (fun w h => h.pick [0, 1, 2, 3, 4, 5, 6, 7, 8, 9, 10, 11, 12, 13, 14, 15, 16, 17, 18] (by kernel_rfl) (by kernel_rfl)) ?_⟩
                                clear hm hm'
                                refine jd_f [⟨9, 0, 0⟩, ⟨10, 0, 0⟩, ⟨11, 0, 0⟩] 2 (by kernel_rfl) (by kernel_rfl) (fun w h => h.pick [0, 1, 2, 3, 4, 5, 6, 7, 8, 9, 10, 11, 12, 13, 14, 15, 16, 17, 18] (by kernel_rfl) (by kernel_rfl)) (by kernel_rfl) (by kernel_rfl) ?_
                                refine toD 13 (by kernel_rfl) (p_s 0 [19] (by kernel_rfl) (by kernel_rfl) (jkD (fun w h => h.pick [0, 1, 2, 3, 4, 5, 6, 7, 8, 9, 10, 11, 12, 13, 14, 15, 16, 17, 18] (by kernel_rfl) (by kernel_rfl)) ?_))
                                refine jd_f [⟨14, 0, 0⟩] 0 (by kernel_rfl) (by kernel_rfl) (fun w h => h.pick [0, 1, 2, 3, 4, 5, 6, 7, 8, 9, 10, 11, 12, 13, 14, 15, 16, 17, 18] (by kernel_rfl) (by kernel_rfl)) (by kernel_rfl) (by kernel_rfl) ?_
                                refine jd_end (by kernel_rfl) ?_
                                exact jx_meet ⟨t_39.1.fPins, t_39.1.fStrokes, t_39.2, b_899, o_925, cap_926, sp_927, t_39.1.fPins.length, o_930, cap_931, sp_932, t_39.1.fStrokes.length⟩ ⟨h, rfl, hs_928, ho_929, rfl, hs_933, ho_934⟩ (by kernel_rfl) [0, 1, 2, 3, 4, 5, 6, 7, 8, 9, 10, 11, 12, 13, 14, 15, 16, 17, 18, 19, 24, 25] (by kernel_rfl) (by kernel_rfl)
                            · rintro ⟨xs_29, xs_30, i_31, b_761, o_762, cap_763, sp_764, n_765, o_768, cap_769, sp_770, n_771⟩ ⟨h, rfl, hs_766, ho_767, rfl, hs_772, ho_773⟩
                              replace h : laws_FnExactDoWearActs.k_32 xs_4 xs_5 i_6 t_27 xs_29 xs_30 i_31 = some r := h
                              rw [laws_FnExactDoWearActs.k_32] at h
                              refine jx_then ?_
                              refine jc_seq ?_
                              refine jc_seq ?_
                              refine jc_region ?_
                              refine jo_f [(19, 0), (3, 0)] (by kernel_rfl) ?_
                              obtain ⟨t_33, ht_778, h⟩ := bd h
                              refine toO (by kernel_rfl) (p_call 0 15 #[(.agg #[(.slice (o_762.map fun b => ⟨b, 0, none⟩) xs_29.length cap_763), (.slice (o_768.map fun b => ⟨b, 0, none⟩) xs_30.length cap_769)]), (.agg #[(.slice (o_165.map fun b => ⟨b, 0, none⟩) xs_4.length cap_166), (.slice (o_171.map fun b => ⟨b, 0, none⟩) xs_5.length cap_172)])] (by kernel_rfl) (by kernel_rfl) (fun w hm => laws_eqWear.calls (⟨xs_29, xs_30⟩ : GWear) (⟨xs_4, xs_5⟩ : GWear) w _ (o_762.map fun b => ⟨b, 0, none⟩) xs_29.length cap_763 (hm.ownRow (hh := 20) (o := o_762) (T := 75) (enc := encGWornPin) (xs := xs_29) (sp := sp_764) (by kernel_rfl) (fun e => (ho_767 e).1) encGWornPin_len) rfl (o_768.map fun b => ⟨b, 0, none⟩) xs_30.length cap_769 (hm.ownRow (hh := 21) (o := o_768) (T := 2) (enc := encI64) (xs := xs_30) (sp := sp_770) (by kernel_rfl) (fun e => (ho_773 e).1) encI64_len) rfl (o_165.map fun b => ⟨b, 0, none⟩) xs_4.length cap_166 (hm.ownRow (hh := 4) (o := o_165) (T := 75) (enc := encGWornPin) (xs := xs_4) (sp := sp_167) (by kernel_rfl) (fun e => (ho_170 e).1) encGWornPin_len) rfl (o_171.map fun b => ⟨b, 0, none⟩) xs_5.length cap_172 (hm.ownRow (hh := 5) (o := o_171) (T := 2) (enc := encI64) (xs := xs_5) (sp := sp_173) (by kernel_rfl) (fun e => (ho_176 e).1) encI64_len) rfl ht_778) ?_)
                              rintro w v w' hm ⟨rfl, hm'⟩
                              refine ⟨_, hm.app hm', jkO ?_⟩
                              clear hm hm'
                              refine jo_f [(0, 0), (0, 0), (0, 1), (0, 1), (0, 1), (0, 0)] (by kernel_rfl) ?_
                              refine jo_end (by kernel_rfl) ?_
                              refine jx_then ?_
                              refine jc_cond ((!t_33) || (i_31 != i_6)) (by kernel_rfl) (fun hc_779 => ?_) (fun hc_779 => ?_)
                              · replace h := ifT hc_779 h
                                refine jc_seq ?_
                                refine jc_region ?_
                                refine jo_f [(0, 0)] (by kernel_rfl) ?_
                                refine jo_end (by kernel_rfl) ?_
                                refine jx_then ?_
                                refine jc_ret ?_
                                refine jx_thenr ?_
                                obtain rfl := Option.some.inj h
                                exact jx_ret [] (.bool false) [] rfl (by kernel_rfl) (by kernel_rfl) (fun w hm => ⟨rfl, hm.pick [] (by kernel_rfl) (by kernel_rfl)⟩)
                              · replace h := ifF hc_779 h
                                refine jc_skip ?_
                                refine jx_then ?_
                                refine jc_seq ?_
                                refine jc_region ?_
                                refine jo_f [(0, 0)] (by kernel_rfl) ?_
                                refine jo_end (by kernel_rfl) ?_
                                refine jx_then ?_
                                refine jc_seq ?_
                                refine jc_region ?_
                                refine jo_f [(12, 0), (0, 0)] (by kernel_rfl) ?_
                                obtain ⟨t_34, ht_780, h⟩ := bd h
                                refine toO (by kernel_rfl) (p_call 0 21 #[(.agg #[(.slice (o_241.map fun b => ⟨b, 0, none⟩) xs_11.length cap_242), (.slice (o_247.map fun b => ⟨b, 0, none⟩) xs_12.length cap_248)]), (.int .i64 1)] (by kernel_rfl) (by kernel_rfl) (fun w hm => laws_heldWear.calls (⟨t_27.2.1, t_27.2.2⟩ : GWear) 1 w _ (o_241.map fun b => ⟨b, 0, none⟩) xs_11.length cap_242 (hm.ownRow (hh := 13) (o := o_241) (T := 75) (enc := encGWornPin) (xs := t_27.2.1) (sp := sp_243) (by kernel_rfl) (fun e => (ho_602 e).1) encGWornPin_len) hn_601 (o_247.map fun b => ⟨b, 0, none⟩) xs_12.length cap_248 (hm.ownRow (hh := 14) (o := o_247) (T := 2) (enc := encI64) (xs := t_27.2.2) (sp := sp_249) (by kernel_rfl) (fun e => (ho_604 e).1) encI64_len) hn_603 ht_780) ?_)
                                rintro w v w' hm ⟨rfl, hm'⟩
                                refine ⟨_, hm.app hm', jkO ?_⟩
                                clear hm hm'
                                refine jo_f [(0, 0)] (by kernel_rfl) ?_
                                refine jo_end (by kernel_rfl) ?_
                                refine jx_then ?_
                                refine jc_seq ?_
                                refine jc_seq ?_
                                refine jc_region ?_
                                refine jo_f [(0, 0), (0, 0)] (by kernel_rfl) ?_
                                refine jo_end (by kernel_rfl) ?_
                                refine jx_then ?_
                                refine jc_cond (decide (t_34 < 0)) (by kernel_rfl) (fun hc_782 => ?_) (fun hc_782 => ?_)
                                · replace h := ifT hc_782 h
                                  refine jc_seq ?_
                                  refine jc_region ?_
                                  refine jo_f [(0, 0)] (by kernel_rfl) ?_
                                  refine jo_end (by kernel_rfl) ?_
                                  refine jx_then ?_
                                  refine jc_ret ?_
                                  refine jx_thenr ?_
                                  obtain rfl := Option.some.inj h
                                  exact jx_ret [] (.bool false) [] rfl (by kernel_rfl) (by kernel_rfl) (fun w hm => ⟨rfl, hm.pick [] (by kernel_rfl) (by kernel_rfl)⟩)
                                · replace h := ifF hc_782 h
                                  refine jc_skip ?_
                                  refine jx_then ?_
                                  refine jc_seq ?_
                                  refine jc_seq ?_
                                  refine jc_region ?_
                                  refine jo_f [(0, 0), (0, 0), (0, 0)] (by kernel_rfl) ?_
                                  refine jo_end (by kernel_rfl) ?_
                                  refine jx_then ?_
                                  refine jc_cond (t_34 != t_27.1) (by kernel_rfl) (fun hc_783 => ?_) (fun hc_783 => ?_)
                                  · replace h := ifT hc_783 h
                                    refine jc_seq ?_
                                    refine jc_region ?_
                                    refine jo_f [(0, 0)] (by kernel_rfl) ?_
                                    refine jo_end (by kernel_rfl) ?_
                                    refine jx_then ?_
                                    refine jc_ret ?_
                                    refine jx_thenr ?_
                                    obtain rfl := Option.some.inj h
                                    exact jx_ret [] (.bool false) [] rfl (by kernel_rfl) (by kernel_rfl) (fun w hm => ⟨rfl, hm.pick [] (by kernel_rfl) (by kernel_rfl)⟩)
                                  · replace h := ifF hc_783 h
                                    refine jc_skip ?_
                                    refine jx_then ?_
                                    refine jc_seq ?_
                                    refine jc_region ?_
                                    refine jo_f [(0, 0)] (by kernel_rfl) ?_
                                    refine jo_end (by kernel_rfl) ?_
                                    refine jx_then ?_
                                    refine jc_ret ?_
                                    obtain rfl := Option.some.inj h
                                    exact jx_ret [] (.bool true) [] rfl (by kernel_rfl) (by kernel_rfl) (fun w hm => ⟨rfl, hm.pick [] (by kernel_rfl) (by kernel_rfl)⟩)
end Go.Proofs.YtfkjghkjimcmdaaGreat
