/- Functions of the program that the laws reach: a plain function each, and that the call comes to its answer if the plain function has one. Printed by a program. -/
import Derived.Test.YtilackblefjgdaaT
import Derived.Test.YtilackblefjgdaaM0
import Derived.Test.YtilackblefjgdaaM3
import Derived.Test.YtilackblefjgdaaM4
namespace Go.Proofs.Ytilackblefjgdaa
open Eng
set_option linter.unusedVariables false

/-! ### spec.l06Lived -/
noncomputable def spec_l06Lived.k_2 (q_1 : Bool) : Option (Int) := (if q_1 = true then some 1 else some 0)
noncomputable def spec_l06Lived (f0 : GFrame) (w1 : GWear) (v2 : GLives) : Option (Int) := (spec_l06Ok f0 w1).bind fun t_3 => (if (!t_3) = true then spec_l06Lived.k_2 true else (spec_l06Lives v2).bind fun t_4 => spec_l06Lived.k_2 (!t_4))
set_option maxRecDepth 100000 in
theorem spec_l06Lived.calls (f0 : GFrame) (w1 : GWear) (v2 : GLives) (w : World) (r : Int) (f0_fHammers_a : Option Addr) (f0_fHammers_an : Nat) (f0_fHammers_c : Nat) (f0_fHammers_h : Rw w f0_fHammers_a 2 encGHammer f0.fHammers) (f0_fHammers_hn : f0.fHammers.length = f0_fHammers_an) (w1_fPins_a : Option Addr) (w1_fPins_an : Nat) (w1_fPins_c : Nat) (w1_fPins_h : Rw w w1_fPins_a 3 encGWornPin w1.fPins) (w1_fPins_hn : w1.fPins.length = w1_fPins_an) (w1_fStrokes_a : Option Addr) (w1_fStrokes_an : Nat) (w1_fStrokes_c : Nat) (w1_fStrokes_h : Rw w w1_fStrokes_a 1 encI64 w1.fStrokes) (w1_fStrokes_hn : w1.fStrokes.length = w1_fStrokes_an) (f0_b : Nat) (w1_b : Nat) (hm0 : Mem w (bs [some f0_b, some w1_b]) [⟨some f0_b, 38, [(.int .i16 f0.fSteps), (.slice f0_fHammers_a f0_fHammers_an f0_fHammers_c)]⟩, ⟨some w1_b, 42, [(.slice w1_fPins_a w1_fPins_an w1_fPins_c), (.slice w1_fStrokes_a w1_fStrokes_an w1_fStrokes_c)]⟩] w) (f0_fHammers_ha : f0.fHammers ≠ [] → aB f0_fHammers_a ∉ bs [some f0_b, some w1_b]) (w1_fPins_ha : w1.fPins ≠ [] → aB w1_fPins_a ∉ bs [some f0_b, some w1_b]) (w1_fStrokes_ha : w1.fStrokes ≠ [] → aB w1_fStrokes_a ∉ bs [some f0_b, some w1_b]) (h : spec_l06Lived f0 w1 v2 = some r) :
    Calls Try.prog 63 #[(.pointer (some ⟨f0_b, 0, none⟩)), (.pointer (some ⟨w1_b, 0, none⟩)), (.agg #[(.int .i64 v2.fPin), (.int .i64 v2.fHammer)])] w fun e w' => ∃ v, e = .returned v ∧ (v = (.int .i64 r) ∧ Mem w (bs [some f0_b, some w1_b]) [⟨some f0_b, 38, [(.int .i16 f0.fSteps), (.slice f0_fHammers_a f0_fHammers_an f0_fHammers_c)]⟩, ⟨some w1_b, 42, [(.slice w1_fPins_a w1_fPins_an w1_fPins_c), (.slice w1_fStrokes_a w1_fStrokes_an w1_fStrokes_c)]⟩] w') := by
  subst f0_fHammers_hn w1_fPins_hn w1_fStrokes_hn
  rw [spec_l06Lived] at h
  refine enter (args := [(.pointer (some ⟨f0_b, 0, none⟩)), (.pointer (some ⟨w1_b, 0, none⟩)), (.agg #[(.int .i64 v2.fPin), (.int .i64 v2.fHammer)])]) Try.func63 rfl Try.ntmps63 (by kernel_rfl) (L := [⟨some f0_b, 38, [(.int .i16 f0.fSteps), (.slice f0_fHammers_a f0.fHammers.length f0_fHammers_c)]⟩, ⟨some w1_b, 42, [(.slice w1_fPins_a w1.fPins.length w1_fPins_c), (.slice w1_fStrokes_a w1.fStrokes.length w1_fStrokes_c)]⟩]) (W := bs [some f0_b, some w1_b]) hm0 ?_
  refine jc_seq ?_
  refine jc_region ?_
  refine toO (by kernel_rfl) (p_a 0 [0] (by kernel_rfl) (fun b => by kernel_rfl) (fun b_1 => jkO ?_))
  refine jo_f [(0, 0)] (by kernel_rfl) ?_
  refine jo_end (by kernel_rfl) ?_
  refine jx_then ?_
  refine jc_seq ?_
  refine jc_seq ?_
  refine jc_meet (fun (j : Bool) => match j with | q_1 => spec_l06Lived.k_2 q_1 = some r) (fun (j : Bool) => match j with | q_1 => [(6, [], (.int .i64 0)), (15, [], (.bool q_1))]) (fun (j : Bool) => match j with | q_1 => [⟨some f0_b, 38, [(.int .i16 f0.fSteps), (.slice f0_fHammers_a f0.fHammers.length f0_fHammers_c)]⟩, ⟨some w1_b, 42, [(.slice w1_fPins_a w1.fPins.length w1_fPins_c), (.slice w1_fStrokes_a w1.fStrokes.length w1_fStrokes_c)]⟩, ⟨some b_1, 44, [(.int .i64 v2.fPin), (.int .i64 v2.fHammer)]⟩]) ?_ ?_
  · refine jc_region ?_
    refine jo_f [(0, 0), (0, 0)] (by kernel_rfl) ?_
    obtain ⟨t_3, ht_6, h⟩ := bd h
    refine toO (by kernel_rfl) (p_call 0 88 #[(.pointer (some ⟨f0_b, 0, none⟩)), (.pointer (some ⟨w1_b, 0, none⟩))] (by kernel_rfl) (by kernel_rfl) (fun w hm => spec_l06Ok.calls f0 w1 w _ f0_fHammers_a f0.fHammers.length f0_fHammers_c (hm.exRowW f0_fHammers_h f0_fHammers_ha) rfl w1_fPins_a w1.fPins.length w1_fPins_c (hm.exRowW w1_fPins_h w1_fPins_ha) rfl w1_fStrokes_a w1.fStrokes.length w1_fStrokes_c (hm.exRowW w1_fStrokes_h w1_fStrokes_ha) rfl f0_b w1_b (hm.pass (N := [⟨some f0_b, 38, [(.int .i16 f0.fSteps), (.slice f0_fHammers_a f0.fHammers.length f0_fHammers_c)]⟩, ⟨some w1_b, 42, [(.slice w1_fPins_a w1.fPins.length w1_fPins_c), (.slice w1_fStrokes_a w1.fStrokes.length w1_fStrokes_c)]⟩]) [0, 1] (by kernel_rfl) (by kernel_rfl)) (hm.exApart (N := [⟨some f0_b, 38, [(.int .i16 f0.fSteps), (.slice f0_fHammers_a f0.fHammers.length f0_fHammers_c)]⟩, ⟨some w1_b, 42, [(.slice w1_fPins_a w1.fPins.length w1_fPins_c), (.slice w1_fStrokes_a w1.fStrokes.length w1_fStrokes_c)]⟩]) f0_fHammers_h f0_fHammers_ha [0, 1] (by kernel_rfl)) (hm.exApart (N := [⟨some f0_b, 38, [(.int .i16 f0.fSteps), (.slice f0_fHammers_a f0.fHammers.length f0_fHammers_c)]⟩, ⟨some w1_b, 42, [(.slice w1_fPins_a w1.fPins.length w1_fPins_c), (.slice w1_fStrokes_a w1.fStrokes.length w1_fStrokes_c)]⟩]) w1_fPins_h w1_fPins_ha [0, 1] (by kernel_rfl)) (hm.exApart (N := [⟨some f0_b, 38, [(.int .i16 f0.fSteps), (.slice f0_fHammers_a f0.fHammers.length f0_fHammers_c)]⟩, ⟨some w1_b, 42, [(.slice w1_fPins_a w1.fPins.length w1_fPins_c), (.slice w1_fStrokes_a w1.fStrokes.length w1_fStrokes_c)]⟩]) w1_fStrokes_h w1_fStrokes_ha [0, 1] (by kernel_rfl)) ht_6) ?_)
    rintro w v w' hm ⟨rfl, hm'⟩
    refine ⟨_, hm.appW (ps := [(0, ⟨some f0_b, 38, [(.int .i16 f0.fSteps), (.slice f0_fHammers_a f0.fHammers.length f0_fHammers_c)]⟩), (1, ⟨some w1_b, 42, [(.slice w1_fPins_a w1.fPins.length w1_fPins_c), (.slice w1_fStrokes_a w1.fStrokes.length w1_fStrokes_c)]⟩)]) (N := []) hm' (by kernel_rfl) (by kernel_rfl), jkO ?_⟩
    clear hm hm'
    refine jo_f [(0, 0), (0, 0), (2, 1)] (by kernel_rfl) ?_
    refine jo_split 11 (!t_3) (by kernel_rfl) (fun hc_7 => ?_) (fun hc_7 => ?_)
    · replace h := ifT hc_7 h
      refine jo_f [(0, 3), (0, 3), (0, 4)] (by kernel_rfl) ?_
      refine jo_end (by kernel_rfl) ?_
      exact jx_meet true h (by kernel_rfl) [0, 1, 2] (by kernel_rfl) (by kernel_rfl)
    · replace h := ifF hc_7 h
      obtain ⟨t_4, ht_8, h⟩ := bd h
      refine toO (by kernel_rfl) (p_call 2 89 #[(.agg #[(.int .i64 v2.fPin), (.int .i64 v2.fHammer)])] (by kernel_rfl) (by kernel_rfl) (fun w hm => spec_l06Lives.calls v2 w _ ht_8) ?_)
      rintro w v w' hm ⟨rfl, hm'⟩
      refine ⟨_, hm.app hm', jkO ?_⟩
      clear hm hm'
      refine jo_f [(0, 2), (0, 5)] (by kernel_rfl) ?_
      refine jo_end (by kernel_rfl) ?_
      exact jx_meet (!t_4) h (by kernel_rfl) [0, 1, 2] (by kernel_rfl) (by kernel_rfl)
  · rintro q_1 h
    replace h : spec_l06Lived.k_2 q_1 = some r := h
    rw [spec_l06Lived.k_2] at h
    refine jx_then ?_
    refine jc_cond q_1 (by kernel_rfl) (fun hc_5 => ?_) (fun hc_5 => ?_)
    · replace h := ifT hc_5 h
      refine jc_seq ?_
      refine jc_region ?_
      refine jo_f [(0, 0)] (by kernel_rfl) ?_
      refine jo_end (by kernel_rfl) ?_
      refine jx_then ?_
      refine jc_ret ?_
      refine jx_thenr ?_
      obtain rfl := Option.some.inj h
      exact jx_ret [] (.int .i64 1) [] rfl (by kernel_rfl) (by kernel_rfl) (fun w hm => ⟨rfl, hm.pick [0, 1] (by kernel_rfl) (by kernel_rfl)⟩)
    · replace h := ifF hc_5 h
      refine jc_skip ?_
      refine jx_then ?_
      refine jc_seq ?_
      refine jc_region ?_
      refine jo_f [(0, 0)] (by kernel_rfl) ?_
      refine jo_end (by kernel_rfl) ?_
      refine jx_then ?_
      refine jc_ret ?_
      obtain rfl := Option.some.inj h
      exact jx_ret [] (.int .i64 0) [] rfl (by kernel_rfl) (by kernel_rfl) (fun w hm => ⟨rfl, hm.pick [0, 1] (by kernel_rfl) (by kernel_rfl)⟩)

/-! ### spec.PartsFor -/
noncomputable def spec_PartsFor (f0 : GFrame) (w1 : GWear) (v2 : GLives) (turns3 : Int) : Option (Int × Int × Int) := (spec_l06Lived f0 w1 v2).bind fun t_1 => (if (t_1 != 0) = true then some (0, 0, t_1) else (spec_l06Turns turns3).bind fun t_2 => (if (!t_2) = true then some (0, 0, 2) else (spec_l06Parts w1 v2 turns3).bind fun t_3 => some (t_3.1, t_3.2.1, t_3.2.2)))
set_option maxRecDepth 100000 in
theorem spec_PartsFor.calls (f0 : GFrame) (w1 : GWear) (v2 : GLives) (turns3 : Int) (w : World) (r : Int × Int × Int) (f0_fHammers_a : Option Addr) (f0_fHammers_an : Nat) (f0_fHammers_c : Nat) (f0_fHammers_h : Rw w f0_fHammers_a 2 encGHammer f0.fHammers) (f0_fHammers_hn : f0.fHammers.length = f0_fHammers_an) (w1_fPins_a : Option Addr) (w1_fPins_an : Nat) (w1_fPins_c : Nat) (w1_fPins_h : Rw w w1_fPins_a 3 encGWornPin w1.fPins) (w1_fPins_hn : w1.fPins.length = w1_fPins_an) (w1_fStrokes_a : Option Addr) (w1_fStrokes_an : Nat) (w1_fStrokes_c : Nat) (w1_fStrokes_h : Rw w w1_fStrokes_a 1 encI64 w1.fStrokes) (w1_fStrokes_hn : w1.fStrokes.length = w1_fStrokes_an) (h : spec_PartsFor f0 w1 v2 turns3 = some r) :
    Calls Try.prog 15 #[(.agg #[(.int .i16 f0.fSteps), (.slice f0_fHammers_a f0_fHammers_an f0_fHammers_c)]), (.agg #[(.slice w1_fPins_a w1_fPins_an w1_fPins_c), (.slice w1_fStrokes_a w1_fStrokes_an w1_fStrokes_c)]), (.agg #[(.int .i64 v2.fPin), (.int .i64 v2.fHammer)]), (.int .i64 turns3)] w fun e w' => ∃ v, e = .returned v ∧ (v = .tuple #[(.int .i64 r.1), (.int .i64 r.2.1), (.int .i64 r.2.2)] ∧ Mem w [] [] w') := by
  subst f0_fHammers_hn w1_fPins_hn w1_fStrokes_hn
  rw [spec_PartsFor] at h
  refine enter (args := [(.agg #[(.int .i16 f0.fSteps), (.slice f0_fHammers_a f0.fHammers.length f0_fHammers_c)]), (.agg #[(.slice w1_fPins_a w1.fPins.length w1_fPins_c), (.slice w1_fStrokes_a w1.fStrokes.length w1_fStrokes_c)]), (.agg #[(.int .i64 v2.fPin), (.int .i64 v2.fHammer)]), (.int .i64 turns3)]) Try.func15 rfl Try.ntmps15 (by kernel_rfl) (L := []) (W := []) (Mem.start w) ?_
  refine jc_seq ?_
  refine jc_region ?_
  refine toO (by kernel_rfl) (p_a 0 [0] (by kernel_rfl) (fun b => by kernel_rfl) (fun b_1 => jkO ?_))
  refine toO (by kernel_rfl) (p_a 0 [0] (by kernel_rfl) (fun b => by kernel_rfl) (fun b_2 => jkO ?_))
  refine toO (by kernel_rfl) (p_a 0 [0] (by kernel_rfl) (fun b => by kernel_rfl) (fun b_3 => jkO ?_))
  refine jo_f [(0, 0), (0, 0), (0, 0)] (by kernel_rfl) ?_
  refine jo_end (by kernel_rfl) ?_
  refine jx_then ?_
  refine jc_seq ?_
  refine jc_seq ?_
  refine jc_region ?_
  refine jo_f [(2, 0)] (by kernel_rfl) ?_
  obtain ⟨t_1, ht_6, h⟩ := bd h
  refine toO (by kernel_rfl) (p_call 0 63 #[(.pointer (some ⟨b_1, 0, none⟩)), (.pointer (some ⟨b_2, 0, none⟩)), (.agg #[(.int .i64 v2.fPin), (.int .i64 v2.fHammer)])] (by kernel_rfl) (by kernel_rfl) (fun w hm => spec_l06Lived.calls f0 w1 v2 w _ f0_fHammers_a f0.fHammers.length f0_fHammers_c (hm.exRow f0_fHammers_h List.not_mem_nil) rfl w1_fPins_a w1.fPins.length w1_fPins_c (hm.exRow w1_fPins_h List.not_mem_nil) rfl w1_fStrokes_a w1.fStrokes.length w1_fStrokes_c (hm.exRow w1_fStrokes_h List.not_mem_nil) rfl b_1 b_2 (hm.pass (N := [⟨some b_1, 38, [(.int .i16 f0.fSteps), (.slice f0_fHammers_a f0.fHammers.length f0_fHammers_c)]⟩, ⟨some b_2, 42, [(.slice w1_fPins_a w1.fPins.length w1_fPins_c), (.slice w1_fStrokes_a w1.fStrokes.length w1_fStrokes_c)]⟩]) [0, 1] (by kernel_rfl) (by kernel_rfl)) (hm.exApart (N := [⟨some b_1, 38, [(.int .i16 f0.fSteps), (.slice f0_fHammers_a f0.fHammers.length f0_fHammers_c)]⟩, ⟨some b_2, 42, [(.slice w1_fPins_a w1.fPins.length w1_fPins_c), (.slice w1_fStrokes_a w1.fStrokes.length w1_fStrokes_c)]⟩]) f0_fHammers_h (fun _ => List.not_mem_nil) [0, 1] (by kernel_rfl)) (hm.exApart (N := [⟨some b_1, 38, [(.int .i16 f0.fSteps), (.slice f0_fHammers_a f0.fHammers.length f0_fHammers_c)]⟩, ⟨some b_2, 42, [(.slice w1_fPins_a w1.fPins.length w1_fPins_c), (.slice w1_fStrokes_a w1.fStrokes.length w1_fStrokes_c)]⟩]) w1_fPins_h (fun _ => List.not_mem_nil) [0, 1] (by kernel_rfl)) (hm.exApart (N := [⟨some b_1, 38, [(.int .i16 f0.fSteps), (.slice f0_fHammers_a f0.fHammers.length f0_fHammers_c)]⟩, ⟨some b_2, 42, [(.slice w1_fPins_a w1.fPins.length w1_fPins_c), (.slice w1_fStrokes_a w1.fStrokes.length w1_fStrokes_c)]⟩]) w1_fStrokes_h (fun _ => List.not_mem_nil) [0, 1] (by kernel_rfl)) ht_6) ?_)
  rintro w v w' hm ⟨rfl, hm'⟩
  refine ⟨_, hm.appW (ps := [(0, ⟨some b_1, 38, [(.int .i16 f0.fSteps), (.slice f0_fHammers_a f0.fHammers.length f0_fHammers_c)]⟩), (1, ⟨some b_2, 42, [(.slice w1_fPins_a w1.fPins.length w1_fPins_c), (.slice w1_fStrokes_a w1.fStrokes.length w1_fStrokes_c)]⟩)]) (N := []) hm' (by kernel_rfl) (by kernel_rfl), jkO ?_⟩
  clear hm hm'
  refine jo_f [(0, 0)] (by kernel_rfl) ?_
  refine jo_end (by kernel_rfl) ?_
  refine jx_then ?_
  refine jc_seq ?_
  refine jc_region ?_
  refine jo_f [(0, 0), (0, 0)] (by kernel_rfl) ?_
  refine jo_end (by kernel_rfl) ?_
  refine jx_then ?_
  refine jc_cond (t_1 != 0) (by kernel_rfl) (fun hc_7 => ?_) (fun hc_7 => ?_)
  · replace h := ifT hc_7 h
    refine jc_seq ?_
    refine jc_region ?_
    refine jo_f [(0, 0), (0, 0), (0, 0), (0, 0)] (by kernel_rfl) ?_
    refine jo_end (by kernel_rfl) ?_
    refine jx_then ?_
    refine jc_ret ?_
    refine jx_thenr ?_
    obtain rfl := Option.some.inj h
    exact jx_ret [] (.tuple #[(.int .i64 0), (.int .i64 0), (.int .i64 t_1)]) [] rfl (by kernel_rfl) (by kernel_rfl) (fun w hm => ⟨rfl, hm.pick [] (by kernel_rfl) (by kernel_rfl)⟩)
  · replace h := ifF hc_7 h
    refine jc_skip ?_
    refine jx_then ?_
    refine jc_seq ?_
    refine jc_seq ?_
    refine jc_region ?_
    refine jo_f [(0, 0)] (by kernel_rfl) ?_
    obtain ⟨t_2, ht_10, h⟩ := bd h
    refine toO (by kernel_rfl) (p_call 0 64 #[(.int .i64 turns3)] (by kernel_rfl) (by kernel_rfl) (fun w hm => spec_l06Turns.calls turns3 w _ ht_10) ?_)
    rintro w v w' hm ⟨rfl, hm'⟩
    refine ⟨_, hm.app hm', jkO ?_⟩
    clear hm hm'
    refine jo_f [(0, 0)] (by kernel_rfl) ?_
    refine jo_end (by kernel_rfl) ?_
    refine jx_then ?_
    refine jc_cond (!t_2) (by kernel_rfl) (fun hc_11 => ?_) (fun hc_11 => ?_)
    · replace h := ifT hc_11 h
      refine jc_seq ?_
      refine jc_region ?_
      refine jo_f [(0, 0), (0, 0), (0, 0)] (by kernel_rfl) ?_
      refine jo_end (by kernel_rfl) ?_
      refine jx_then ?_
      refine jc_ret ?_
      refine jx_thenr ?_
      obtain rfl := Option.some.inj h
      exact jx_ret [] (.tuple #[(.int .i64 0), (.int .i64 0), (.int .i64 2)]) [] rfl (by kernel_rfl) (by kernel_rfl) (fun w hm => ⟨rfl, hm.pick [] (by kernel_rfl) (by kernel_rfl)⟩)
    · replace h := ifF hc_11 h
      refine jc_skip ?_
      refine jx_then ?_
      refine jc_seq ?_
      refine jc_region ?_
      refine jo_f [(2, 0), (0, 0)] (by kernel_rfl) ?_
      obtain ⟨t_3, ht_12, h⟩ := bd h
      refine toO (by kernel_rfl) (p_call 0 65 #[(.pointer (some ⟨b_2, 0, none⟩)), (.agg #[(.int .i64 v2.fPin), (.int .i64 v2.fHammer)]), (.int .i64 turns3)] (by kernel_rfl) (by kernel_rfl) (fun w hm => spec_l06Parts.calls w1 v2 turns3 w _ w1_fPins_a w1.fPins.length w1_fPins_c (hm.exRow w1_fPins_h List.not_mem_nil) rfl w1_fStrokes_a w1.fStrokes.length w1_fStrokes_c (hm.exRow w1_fStrokes_h List.not_mem_nil) rfl b_2 (hm.pass (N := [⟨some b_2, 42, [(.slice w1_fPins_a w1.fPins.length w1_fPins_c), (.slice w1_fStrokes_a w1.fStrokes.length w1_fStrokes_c)]⟩]) [1] (by kernel_rfl) (by kernel_rfl)) (hm.exApart (N := [⟨some b_2, 42, [(.slice w1_fPins_a w1.fPins.length w1_fPins_c), (.slice w1_fStrokes_a w1.fStrokes.length w1_fStrokes_c)]⟩]) w1_fPins_h (fun _ => List.not_mem_nil) [1] (by kernel_rfl)) (hm.exApart (N := [⟨some b_2, 42, [(.slice w1_fPins_a w1.fPins.length w1_fPins_c), (.slice w1_fStrokes_a w1.fStrokes.length w1_fStrokes_c)]⟩]) w1_fStrokes_h (fun _ => List.not_mem_nil) [1] (by kernel_rfl)) ht_12) ?_)
      rintro w v w' hm ⟨rfl, hm'⟩
      refine ⟨_, hm.appW (ps := [(1, ⟨some b_2, 42, [(.slice w1_fPins_a w1.fPins.length w1_fPins_c), (.slice w1_fStrokes_a w1.fStrokes.length w1_fStrokes_c)]⟩)]) (N := []) hm' (by kernel_rfl) (by kernel_rfl), jkO ?_⟩
      clear hm hm'
      refine jo_f [(0, 0), (0, 0), (0, 0), (0, 0), (0, 0), (0, 0)] (by kernel_rfl) ?_
      refine jo_end (by kernel_rfl) ?_
      refine jx_then ?_
      refine jc_ret ?_
      obtain rfl := Option.some.inj h
      exact jx_ret [] (.tuple #[(.int .i64 t_3.1), (.int .i64 t_3.2.1), (.int .i64 t_3.2.2)]) [] rfl (by kernel_rfl) (by kernel_rfl) (fun w hm => ⟨rfl, hm.pick [] (by kernel_rfl) (by kernel_rfl)⟩)

/-! ### laws.FnExactPartsFor -/
noncomputable def laws_FnExactPartsFor (aF0 : GFrame) (aW1 : GWear) (aV2 : GLives) (aTurns3 : Int) : Option (Bool) := (laws_szFrame aF0 1048576).bind fun t_1 => (if (decide (t_1 < 0)) = true then some true else (laws_szWear aW1 t_1).bind fun t_2 => (if (decide (t_2 < 0)) = true then some true else (laws_toFrame aF0).bind fun t_3 => (laws_toWear aW1).bind fun t_4 => (laws_toLives aV2).bind fun t_5 => (spec_PartsFor t_3 t_4 t_5 aTurns3).bind fun t_6 => (laws_toFrame aF0).bind fun t_7 => (laws_toWear aW1).bind fun t_8 => (laws_toLives aV2).bind fun t_9 => (impl_PartsFor t_7 t_8 t_9 aTurns3).bind fun t_10 => (if (((t_10.1 != t_6.1) || (t_10.2.1 != t_6.2.1)) || (t_10.2.2 != t_6.2.2)) = true then some false else (laws_toFrame aF0).bind fun t_11 => (laws_eqFrame t_7 t_11).bind fun t_12 => (if (!t_12) = true then some false else (laws_toWear aW1).bind fun t_13 => (laws_eqWear t_8 t_13).bind fun t_14 => (if (!t_14) = true then some false else some true)))))
set_option maxRecDepth 100000 in
theorem laws_FnExactPartsFor.calls (aF0 : GFrame) (aW1 : GWear) (aV2 : GLives) (aTurns3 : Int) (w : World) (r : Bool) (aF0_fHammers_a : Option Addr) (aF0_fHammers_an : Nat) (aF0_fHammers_c : Nat) (aF0_fHammers_h : Rw w aF0_fHammers_a 2 encGHammer aF0.fHammers) (aF0_fHammers_hn : aF0.fHammers.length = aF0_fHammers_an) (aW1_fPins_a : Option Addr) (aW1_fPins_an : Nat) (aW1_fPins_c : Nat) (aW1_fPins_h : Rw w aW1_fPins_a 3 encGWornPin aW1.fPins) (aW1_fPins_hn : aW1.fPins.length = aW1_fPins_an) (aW1_fStrokes_a : Option Addr) (aW1_fStrokes_an : Nat) (aW1_fStrokes_c : Nat) (aW1_fStrokes_h : Rw w aW1_fStrokes_a 1 encI64 aW1.fStrokes) (aW1_fStrokes_hn : aW1.fStrokes.length = aW1_fStrokes_an) (h : laws_FnExactPartsFor aF0 aW1 aV2 aTurns3 = some r) :
    Calls Try.prog 3 #[(.agg #[(.int .i16 aF0.fSteps), (.slice aF0_fHammers_a aF0_fHammers_an aF0_fHammers_c)]), (.agg #[(.slice aW1_fPins_a aW1_fPins_an aW1_fPins_c), (.slice aW1_fStrokes_a aW1_fStrokes_an aW1_fStrokes_c)]), (.agg #[(.int .i64 aV2.fPin), (.int .i64 aV2.fHammer)]), (.int .i64 aTurns3)] w fun e w' => ∃ v, e = .returned v ∧ (v = (.bool r) ∧ Mem w [] [] w') := by
  subst aF0_fHammers_hn aW1_fPins_hn aW1_fStrokes_hn
  rw [laws_FnExactPartsFor] at h
  refine enter (args := [(.agg #[(.int .i16 aF0.fSteps), (.slice aF0_fHammers_a aF0.fHammers.length aF0_fHammers_c)]), (.agg #[(.slice aW1_fPins_a aW1.fPins.length aW1_fPins_c), (.slice aW1_fStrokes_a aW1.fStrokes.length aW1_fStrokes_c)]), (.agg #[(.int .i64 aV2.fPin), (.int .i64 aV2.fHammer)]), (.int .i64 aTurns3)]) Try.func3 rfl Try.ntmps3 (by kernel_rfl) (L := []) (W := []) (Mem.start w) ?_
  refine jc_seq ?_
  refine jc_region ?_
  refine toO (by kernel_rfl) (p_a 0 [0] (by kernel_rfl) (fun b => by kernel_rfl) (fun b_1 => jkO ?_))
  refine toO (by kernel_rfl) (p_a 0 [0] (by kernel_rfl) (fun b => by kernel_rfl) (fun b_2 => jkO ?_))
  refine toO (by kernel_rfl) (p_a 0 [0] (by kernel_rfl) (fun b => by kernel_rfl) (fun b_3 => jkO ?_))
  refine jo_f [(0, 0)] (by kernel_rfl) ?_
  refine jo_end (by kernel_rfl) ?_
  refine jx_then ?_
  refine jc_seq ?_
  refine jc_region ?_
  refine jo_f [(0, 0)] (by kernel_rfl) ?_
  refine jo_end (by kernel_rfl) ?_
  refine jx_then ?_
  refine jc_seq ?_
  refine jc_region ?_
  refine jo_f [(0, 0), (0, 0)] (by kernel_rfl) ?_
  obtain ⟨t_1, ht_4, h⟩ := bd h
  refine toO (by kernel_rfl) (p_call 0 13 #[(.agg #[(.int .i16 aF0.fSteps), (.slice aF0_fHammers_a aF0.fHammers.length aF0_fHammers_c)]), (.int .i64 1048576)] (by kernel_rfl) (by kernel_rfl) (fun w hm => laws_szFrame.calls aF0 1048576 w _ aF0_fHammers_a aF0.fHammers.length aF0_fHammers_c (hm.exRow aF0_fHammers_h List.not_mem_nil) rfl ht_4) ?_)
  rintro w v w' hm ⟨rfl, hm'⟩
  refine ⟨_, hm.app hm', jkO ?_⟩
  clear hm hm'
  refine jo_f [(0, 0)] (by kernel_rfl) ?_
  refine jo_end (by kernel_rfl) ?_
  refine jx_then ?_
  refine jc_seq ?_
  refine jc_seq ?_
  refine jc_region ?_
  refine jo_f [(0, 0), (0, 0)] (by kernel_rfl) ?_
  refine jo_end (by kernel_rfl) ?_
  refine jx_then ?_
  refine jc_cond (decide (t_1 < 0)) (by kernel_rfl) (fun hc_6 => ?_) (fun hc_6 => ?_)
  · replace h := ifT hc_6 h
    refine jc_seq ?_
    refine jc_region ?_
    refine jo_f [(0, 0)] (by kernel_rfl) ?_
    refine jo_end (by kernel_rfl) ?_
    refine jx_then ?_
    refine jc_ret ?_
    refine jx_thenr ?_
    obtain rfl := Option.some.inj h
    exact jx_ret [] (.bool true) [] rfl (by kernel_rfl) (by kernel_rfl) (fun w hm => ⟨rfl, hm.pick [] (by kernel_rfl) (by kernel_rfl)⟩)
  · replace h := ifF hc_6 h
    refine jc_skip ?_
    refine jx_then ?_
    refine jc_seq ?_
    refine jc_region ?_
    refine jo_f [(1, 0), (0, 0)] (by kernel_rfl) ?_
    obtain ⟨t_2, ht_7, h⟩ := bd h
    refine toO (by kernel_rfl) (p_call 0 14 #[(.agg #[(.slice aW1_fPins_a aW1.fPins.length aW1_fPins_c), (.slice aW1_fStrokes_a aW1.fStrokes.length aW1_fStrokes_c)]), (.int .i64 t_1)] (by kernel_rfl) (by kernel_rfl) (fun w hm => laws_szWear.calls aW1 t_1 w _ aW1_fPins_a aW1.fPins.length aW1_fPins_c (hm.exRow aW1_fPins_h List.not_mem_nil) rfl aW1_fStrokes_a aW1.fStrokes.length aW1_fStrokes_c (hm.exRow aW1_fStrokes_h List.not_mem_nil) rfl ht_7) ?_)
    rintro w v w' hm ⟨rfl, hm'⟩
    refine ⟨_, hm.app hm', jkO ?_⟩
    clear hm hm'
    refine jo_f [(0, 0)] (by kernel_rfl) ?_
    refine jo_end (by kernel_rfl) ?_
    refine jx_then ?_
    refine jc_seq ?_
    refine jc_seq ?_
    refine jc_region ?_
    refine jo_f [(0, 0), (0, 0)] (by kernel_rfl) ?_
    refine jo_end (by kernel_rfl) ?_
    refine jx_then ?_
    refine jc_cond (decide (t_2 < 0)) (by kernel_rfl) (fun hc_9 => ?_) (fun hc_9 => ?_)
    · replace h := ifT hc_9 h
      refine jc_seq ?_
      refine jc_region ?_
      refine jo_f [(0, 0)] (by kernel_rfl) ?_
      refine jo_end (by kernel_rfl) ?_
      refine jx_then ?_
      refine jc_ret ?_
      refine jx_thenr ?_
      obtain rfl := Option.some.inj h
      exact jx_ret [] (.bool true) [] rfl (by kernel_rfl) (by kernel_rfl) (fun w hm => ⟨rfl, hm.pick [] (by kernel_rfl) (by kernel_rfl)⟩)
    · replace h := ifF hc_9 h
      refine jc_skip ?_
      refine jx_then ?_
      refine jc_seq ?_
      refine jc_draw [⟨some b_1, 25, [(.int .i16 aF0.fSteps), (.slice aF0_fHammers_a aF0.fHammers.length aF0_fHammers_c)]⟩, ⟨some b_2, 29, [(.slice aW1_fPins_a aW1.fPins.length aW1_fPins_c), (.slice aW1_fStrokes_a aW1.fStrokes.length aW1_fStrokes_c)]⟩, ⟨some b_3, 31, [(.int .i64 aV2.fPin), (.int .i64 aV2.fHammer)]⟩] 15 (by kernel_rfl) (by kernel_rfl) ?_
      refine jd_f [⟨0, 0, 0⟩, ⟨2, 1, 0⟩, ⟨4, 2, 0⟩, ⟨6, 0, 0⟩] 11 (by kernel_rfl) (by kernel_rfl) (fun w h => h.pick [0, 1, 2] (by kernel_rfl) (by kernel_rfl)) (by kernel_rfl) (by kernel_rfl) ?_
      obtain ⟨t_3, ht_29, h⟩ := bd h
      refine toD 1 (by kernel_rfl) (p_call 0 16 #[(.agg #[(.int .i16 aF0.fSteps), (.slice aF0_fHammers_a aF0.fHammers.length aF0_fHammers_c)])] (by kernel_rfl) (by kernel_rfl) (fun w hm => laws_toFrame.calls aF0 w _ aF0_fHammers_a aF0.fHammers.length aF0_fHammers_c (hm.exRow aF0_fHammers_h List.not_mem_nil) rfl ht_29) ?_)
      rintro w v w' hm ⟨o_30, cap_31, sp_32, _, rfl, hs_33, ho_34, rfl, hm'⟩
      refine ⟨_, hm.app hm', jkD (fun w h => h.pick [0, 1, 2] (by kernel_rfl) (by kernel_rfl)) ?_⟩
      clear hm hm'
      obtain ⟨t_4, ht_35, h⟩ := bd h
      refine toD 3 (by kernel_rfl) (p_call 0 17 #[(.agg #[(.slice aW1_fPins_a aW1.fPins.length aW1_fPins_c), (.slice aW1_fStrokes_a aW1.fStrokes.length aW1_fStrokes_c)])] (by kernel_rfl) (by kernel_rfl) (fun w hm => laws_toWear.calls aW1 w _ aW1_fPins_a aW1.fPins.length aW1_fPins_c (hm.exRow aW1_fPins_h List.not_mem_nil) rfl aW1_fStrokes_a aW1.fStrokes.length aW1_fStrokes_c (hm.exRow aW1_fStrokes_h List.not_mem_nil) rfl ht_35) ?_)
      rintro w v w' hm ⟨o_36, cap_37, sp_38, _, rfl, hs_39, ho_40, o_41, cap_42, sp_43, _, rfl, hs_44, ho_45, rfl, hm'⟩
      refine ⟨_, hm.app hm', jkD (fun w h => h.pick [0, 1, 2] (by kernel_rfl) (by kernel_rfl)) ?_⟩
      clear hm hm'
      obtain ⟨t_5, ht_46, h⟩ := bd h
      refine toD 5 (by kernel_rfl) (p_call 0 18 #[(.agg #[(.int .i64 aV2.fPin), (.int .i64 aV2.fHammer)])] (by kernel_rfl) (by kernel_rfl) (fun w hm => laws_toLives.calls aV2 w _ ht_46) ?_)
      rintro w v w' hm ⟨rfl, hm'⟩
      refine ⟨_, hm.app hm', jkD (fun w h => h.pick [0, 1, 2] (by kernel_rfl) (by kernel_rfl)) ?_⟩
      clear hm hm'
      obtain ⟨t_6, ht_47, h⟩ := bd h
      refine toD 7 (by kernel_rfl) (p_call 0 15 #[(.agg #[(.int .i16 t_3.fSteps), (.slice (o_30.map fun b => ⟨b, 0, none⟩) t_3.fHammers.length cap_31)]), (.agg #[(.slice (o_36.map fun b => ⟨b, 0, none⟩) t_4.fPins.length cap_37), (.slice (o_41.map fun b => ⟨b, 0, none⟩) t_4.fStrokes.length cap_42)]), (.agg #[(.int .i64 t_5.fPin), (.int .i64 t_5.fHammer)]), (.int .i64 aTurns3)] (by kernel_rfl) (by kernel_rfl) (fun w hm => spec_PartsFor.calls t_3 t_4 t_5 aTurns3 w _ (o_30.map fun b => ⟨b, 0, none⟩) t_3.fHammers.length cap_31 (hm.ownRow (hh := 3) (o := o_30) (T := 178) (enc := encGHammer) (xs := t_3.fHammers) (sp := sp_32) (by kernel_rfl) (fun e => (ho_34 e).1) encGHammer_len) rfl (o_36.map fun b => ⟨b, 0, none⟩) t_4.fPins.length cap_37 (hm.ownRow (hh := 4) (o := o_36) (T := 164) (enc := encGWornPin) (xs := t_4.fPins) (sp := sp_38) (by kernel_rfl) (fun e => (ho_40 e).1) encGWornPin_len) rfl (o_41.map fun b => ⟨b, 0, none⟩) t_4.fStrokes.length cap_42 (hm.ownRow (hh := 5) (o := o_41) (T := 2) (enc := encI64) (xs := t_4.fStrokes) (sp := sp_43) (by kernel_rfl) (fun e => (ho_45 e).1) encI64_len) rfl ht_47) ?_)
      rintro w v w' hm ⟨rfl, hm'⟩
      refine ⟨_, hm.app hm', jkD (fun w h => h.pick [0, 1, 2] (by kernel_rfl) (by kernel_rfl)) ?_⟩
      clear hm hm'
      refine jd_f [⟨8, 0, 0⟩, ⟨9, 0, 0⟩, ⟨10, 0, 0⟩, ⟨11, 0, 0⟩, ⟨12, 0, 0⟩, ⟨13, 0, 0⟩, ⟨14, 0, 0⟩] 0 (by kernel_rfl) (by kernel_rfl) (fun w h => h.pick [0, 1, 2] (by kernel_rfl) (by kernel_rfl)) (by kernel_rfl) (by kernel_rfl) ?_
      refine jd_end (by kernel_rfl) ?_
      refine jx_then ?_
      refine jc_seq ?_
      refine jc_region ?_
      refine jo_f [(0, 0)] (by kernel_rfl) ?_
      obtain ⟨t_7, ht_48, h⟩ := bd h
      refine toO (by kernel_rfl) (p_call 0 16 #[(.agg #[(.int .i16 aF0.fSteps), (.slice aF0_fHammers_a aF0.fHammers.length aF0_fHammers_c)])] (by kernel_rfl) (by kernel_rfl) (fun w hm => laws_toFrame.calls aF0 w _ aF0_fHammers_a aF0.fHammers.length aF0_fHammers_c (hm.exRow aF0_fHammers_h List.not_mem_nil) rfl ht_48) ?_)
      rintro w v w' hm ⟨o_49, cap_50, sp_51, _, rfl, hs_52, ho_53, rfl, hm'⟩
      refine ⟨_, hm.app hm', jkO ?_⟩
      clear hm hm'
      refine toO (by kernel_rfl) (p_a 0 [0] (by kernel_rfl) (fun b => by kernel_rfl) (fun b_54 => jkO ?_))
      refine toO (by kernel_rfl) (p_s 0 [7] (by kernel_rfl) (by kernel_rfl) (jkO ?_))
      refine jo_end (by kernel_rfl) ?_
      refine jx_then ?_
      refine jc_seq ?_
      refine jc_region ?_
      refine jo_f [(1, 0)] (by kernel_rfl) ?_
      obtain ⟨t_8, ht_55, h⟩ := bd h
      refine toO (by kernel_rfl) (p_call 0 17 #[(.agg #[(.slice aW1_fPins_a aW1.fPins.length aW1_fPins_c), (.slice aW1_fStrokes_a aW1.fStrokes.length aW1_fStrokes_c)])] (by kernel_rfl) (by kernel_rfl) (fun w hm => laws_toWear.calls aW1 w _ aW1_fPins_a aW1.fPins.length aW1_fPins_c (hm.exRow aW1_fPins_h List.not_mem_nil) rfl aW1_fStrokes_a aW1.fStrokes.length aW1_fStrokes_c (hm.exRow aW1_fStrokes_h List.not_mem_nil) rfl ht_55) ?_)
      rintro w v w' hm ⟨o_56, cap_57, sp_58, _, rfl, hs_59, ho_60, o_61, cap_62, sp_63, _, rfl, hs_64, ho_65, rfl, hm'⟩
      refine ⟨_, hm.app hm', jkO ?_⟩
      clear hm hm'
      refine toO (by kernel_rfl) (p_a 0 [0] (by kernel_rfl) (fun b => by kernel_rfl) (fun b_66 => jkO ?_))
      refine toO (by kernel_rfl) (p_s 0 [10] (by kernel_rfl) (by kernel_rfl) (jkO ?_))
      refine jo_end (by kernel_rfl) ?_
      refine jx_then ?_
      refine jc_seq ?_
      refine jc_draw [⟨some b_1, 25, [(.int .i16 aF0.fSteps), (.slice aF0_fHammers_a aF0.fHammers.length aF0_fHammers_c)]⟩, ⟨some b_2, 29, [(.slice aW1_fPins_a aW1.fPins.length aW1_fPins_c), (.slice aW1_fStrokes_a aW1.fStrokes.length aW1_fStrokes_c)]⟩, ⟨some b_3, 31, [(.int .i64 aV2.fPin), (.int .i64 aV2.fHammer)]⟩, ⟨o_30, 178, row encGHammer t_3.fHammers sp_32⟩, ⟨o_36, 164, row encGWornPin t_4.fPins sp_38⟩, ⟨o_41, 2, row encI64 t_4.fStrokes sp_43⟩, ⟨o_49, 178, row encGHammer t_7.fHammers sp_51⟩, ⟨some b_54, 38, [(.int .i16 t_7.fSteps), (.slice (o_49.map fun b => ⟨b, 0, none⟩) t_7.fHammers.length cap_50)]⟩, ⟨o_56, 164, row encGWornPin t_8.fPins sp_58⟩, ⟨o_61, 2, row encI64 t_8.fStrokes sp_63⟩, ⟨some b_66, 42, [(.slice (o_56.map fun b => ⟨b, 0, none⟩) t_8.fPins.length cap_57), (.slice (o_61.map fun b => ⟨b, 0, none⟩) t_8.fStrokes.length cap_62)]⟩] 13 (by kernel_rfl) (by kernel_rfl) ?_
      refine jd_f [⟨0, 7, 0⟩, ⟨1, 10, 0⟩, ⟨2, 2, 0⟩, ⟨4, 0, 0⟩] 9 (by kernel_rfl) (by kernel_rfl) (fun w h => h.pick [0, 1, 2, 3, 4, 5, 6, 7, 8, 9, 10] (by kernel_rfl) (by kernel_rfl)) (by kernel_rfl) (by kernel_rfl) ?_
      obtain ⟨t_9, ht_69, h⟩ := bd h
      refine toD 3 (by kernel_rfl) (p_call 0 18 #[(.agg #[(.int .i64 aV2.fPin), (.int .i64 aV2.fHammer)])] (by kernel_rfl) (by kernel_rfl) (fun w hm => laws_toLives.calls aV2 w _ ht_69) ?_)
      rintro w v w' hm ⟨rfl, hm'⟩
      refine ⟨_, hm.app hm', jkD (fun w h => h.pick [0, 1, 2, 3, 4, 5, 6, 7, 8, 9, 10] (by kernel_rfl) (by kernel_rfl)) ?_⟩
      clear hm hm'
      obtain ⟨t_10, ht_70, h⟩ := bd h
      refine toD 5 (by kernel_rfl) (p_call 0 19 #[(.agg #[(.int .i16 t_7.fSteps), (.slice (o_49.map fun b => ⟨b, 0, none⟩) t_7.fHammers.length cap_50)]), (.agg #[(.slice (o_56.map fun b => ⟨b, 0, none⟩) t_8.fPins.length cap_57), (.slice (o_61.map fun b => ⟨b, 0, none⟩) t_8.fStrokes.length cap_62)]), (.agg #[(.int .i64 t_9.fPin), (.int .i64 t_9.fHammer)]), (.int .i64 aTurns3)] (by kernel_rfl) (by kernel_rfl) (fun w hm => impl_PartsFor.calls t_7 t_8 t_9 aTurns3 w _ (o_49.map fun b => ⟨b, 0, none⟩) t_7.fHammers.length cap_50 (hm.ownRow (hh := 6) (o := o_49) (T := 178) (enc := encGHammer) (xs := t_7.fHammers) (sp := sp_51) (by kernel_rfl) (fun e => (ho_53 e).1) encGHammer_len) rfl (o_56.map fun b => ⟨b, 0, none⟩) t_8.fPins.length cap_57 (hm.ownRow (hh := 8) (o := o_56) (T := 164) (enc := encGWornPin) (xs := t_8.fPins) (sp := sp_58) (by kernel_rfl) (fun e => (ho_60 e).1) encGWornPin_len) rfl (o_61.map fun b => ⟨b, 0, none⟩) t_8.fStrokes.length cap_62 (hm.ownRow (hh := 9) (o := o_61) (T := 2) (enc := encI64) (xs := t_8.fStrokes) (sp := sp_63) (by kernel_rfl) (fun e => (ho_65 e).1) encI64_len) rfl ht_70) ?_)
      rintro w v w' hm ⟨rfl, hm'⟩
      refine ⟨_, hm.app hm', jkD (fun w h => h.pick [0, 1, 2, 3, 4, 5, 6, 7, 8, 9, 10] (by kernel_rfl) (by kernel_rfl)) ?_⟩
      clear hm hm'
      refine jd_f [⟨6, 0, 0⟩, ⟨7, 0, 0⟩, ⟨8, 0, 0⟩, ⟨9, 0, 0⟩, ⟨10, 0, 0⟩, ⟨11, 0, 0⟩, ⟨12, 0, 0⟩] 0 (by kernel_rfl) (by kernel_rfl) (fun w h => h.pick [0, 1, 2, 3, 4, 5, 6, 7, 8, 9, 10] (by kernel_rfl) (by kernel_rfl)) (by kernel_rfl) (by kernel_rfl) ?_
      refine jd_end (by kernel_rfl) ?_
      refine jx_then ?_
      refine jc_seq ?_
      refine jc_seq ?_
      refine jc_region ?_
      refine jo_f [(0, 0), (0, 0), (0, 0), (0, 0), (0, 1), (0, 1), (0, 1), (0, 0), (0, 0), (0, 1), (0, 1), (0, 1), (0, 0)] (by kernel_rfl) ?_
      refine jo_end (by kernel_rfl) ?_
      refine jx_then ?_
      refine jc_cond (((t_10.1 != t_6.1) || (t_10.2.1 != t_6.2.1)) || (t_10.2.2 != t_6.2.2)) (by kernel_rfl) (fun hc_72 => ?_) (fun hc_72 => ?_)
      · replace h := ifT hc_72 h
        refine jc_seq ?_
        refine jc_region ?_
        refine jo_f [(0, 0)] (by kernel_rfl) ?_
        refine jo_end (by kernel_rfl) ?_
        refine jx_then ?_
        refine jc_ret ?_
        refine jx_thenr ?_
        obtain rfl := Option.some.inj h
        exact jx_ret [] (.bool false) [] rfl (by kernel_rfl) (by kernel_rfl) (fun w hm => ⟨rfl, hm.pick [] (by kernel_rfl) (by kernel_rfl)⟩)
      · replace h := ifF hc_72 h
        refine jc_skip ?_
        refine jx_then ?_
        refine jc_seq ?_
        refine jc_seq ?_
        refine jc_draw [⟨some b_1, 25, [(.int .i16 aF0.fSteps), (.slice aF0_fHammers_a aF0.fHammers.length aF0_fHammers_c)]⟩, ⟨some b_2, 29, [(.slice aW1_fPins_a aW1.fPins.length aW1_fPins_c), (.slice aW1_fStrokes_a aW1.fStrokes.length aW1_fStrokes_c)]⟩, ⟨some b_3, 31, [(.int .i64 aV2.fPin), (.int .i64 aV2.fHammer)]⟩, ⟨o_30, 178, row encGHammer t_3.fHammers sp_32⟩, ⟨o_36, 164, row encGWornPin t_4.fPins sp_38⟩, ⟨o_41, 2, row encI64 t_4.fStrokes sp_43⟩, ⟨o_49, 178, row encGHammer t_7.fHammers sp_51⟩, ⟨some b_54, 38, [(.int .i16 t_7.fSteps), (.slice (o_49.map fun b => ⟨b, 0, none⟩) t_7.fHammers.length cap_50)]⟩, ⟨o_56, 164, row encGWornPin t_8.fPins sp_58⟩, ⟨o_61, 2, row encI64 t_8.fStrokes sp_63⟩, ⟨some b_66, 42, [(.slice (o_56.map fun b => ⟨b, 0, none⟩) t_8.fPins.length cap_57), (.slice (o_61.map fun b => ⟨b, 0, none⟩) t_8.fStrokes.length cap_62)]⟩] 5 (by kernel_rfl) (by kernel_rfl) ?_
        refine jd_f [⟨0, 7, 0⟩, ⟨1, 0, 0⟩] 3 (by kernel_rfl) (by kernel_rfl) (fun w h => h.pick [0, 1, 2, 3, 4, 5, 6, 7, 8, 9, 10] (by kernel_rfl) (by kernel_rfl)) (by kernel_rfl) (by kernel_rfl) ?_
        obtain ⟨t_11, ht_95, h⟩ := bd h
        refine toD 2 (by kernel_rfl) (p_call 0 16 #[(.agg #[(.int .i16 aF0.fSteps), (.slice aF0_fHammers_a aF0.fHammers.length aF0_fHammers_c)])] (by kernel_rfl) (by kernel_rfl) (fun w hm => laws_toFrame.calls aF0 w _ aF0_fHammers_a aF0.fHammers.length aF0_fHammers_c (hm.exRow aF0_fHammers_h List.not_mem_nil) rfl ht_95) ?_)
        rintro w v w' hm ⟨o_96, cap_97, sp_98, _, rfl, hs_99, ho_100, rfl, hm'⟩
        refine ⟨_, hm.app hm', jkD (fun w h => h.pick [0, 1, 2, 3, 4, 5, 6, 7, 8, 9, 10] (by kernel_rfl) (by kernel_rfl)) ?_⟩
        clear hm hm'
        obtain ⟨t_12, ht_101, h⟩ := bd h
        refine toD 3 (by kernel_rfl) (p_call 0 20 #[(.agg #[(.int .i16 t_7.fSteps), (.slice (o_49.map fun b => ⟨b, 0, none⟩) t_7.fHammers.length cap_50)]), (.agg #[(.int .i16 t_11.fSteps), (.slice (o_96.map fun b => ⟨b, 0, none⟩) t_11.fHammers.length cap_97)])] (by kernel_rfl) (by kernel_rfl) (fun w hm => laws_eqFrame.calls t_7 t_11 w _ (o_49.map fun b => ⟨b, 0, none⟩) t_7.fHammers.length cap_50 (hm.ownRow (hh := 6) (o := o_49) (T := 178) (enc := encGHammer) (xs := t_7.fHammers) (sp := sp_51) (by kernel_rfl) (fun e => (ho_53 e).1) encGHammer_len) rfl (o_96.map fun b => ⟨b, 0, none⟩) t_11.fHammers.length cap_97 (hm.ownRow (hh := 11) (o := o_96) (T := 178) (enc := encGHammer) (xs := t_11.fHammers) (sp := sp_98) (by kernel_rfl) (fun e => (ho_100 e).1) encGHammer_len) rfl ht_101) ?_)
        rintro w v w' hm ⟨rfl, hm'⟩
        refine ⟨_, hm.app hm', jkD (fun w h => h.pick [0, 1, 2, 3, 4, 5, 6, 7, 8, 9, 10] (by kernel_rfl) (by kernel_rfl)) ?_⟩
        clear hm hm'
        refine jd_f [⟨4, 0, 0⟩] 0 (by kernel_rfl) (by kernel_rfl) (fun w h => h.pick [0, 1, 2, 3, 4, 5, 6, 7, 8, 9, 10] (by kernel_rfl) (by kernel_rfl)) (by kernel_rfl) (by kernel_rfl) ?_
        refine jd_end (by kernel_rfl) ?_
        refine jx_then ?_
        refine jc_cond (!t_12) (by kernel_rfl) (fun hc_102 => ?_) (fun hc_102 => ?_)
        · replace h := ifT hc_102 h
          refine jc_seq ?_
          refine jc_region ?_
          refine jo_f [(0, 0)] (by kernel_rfl) ?_
          refine jo_end (by kernel_rfl) ?_
          refine jx_then ?_
          refine jc_ret ?_
          refine jx_thenr ?_
          obtain rfl := Option.some.inj h
          exact jx_ret [] (.bool false) [] rfl (by kernel_rfl) (by kernel_rfl) (fun w hm => ⟨rfl, hm.pick [] (by kernel_rfl) (by kernel_rfl)⟩)
        · replace h := ifF hc_102 h
          refine jc_skip ?_
          refine jx_then ?_
          refine jc_seq ?_
          refine jc_seq ?_
          refine jc_draw [⟨some b_1, 25, [(.int .i16 aF0.fSteps), (.slice aF0_fHammers_a aF0.fHammers.length aF0_fHammers_c)]⟩, ⟨some b_2, 29, [(.slice aW1_fPins_a aW1.fPins.length aW1_fPins_c), (.slice aW1_fStrokes_a aW1.fStrokes.length aW1_fStrokes_c)]⟩, ⟨some b_3, 31, [(.int .i64 aV2.fPin), (.int .i64 aV2.fHammer)]⟩, ⟨o_30, 178, row encGHammer t_3.fHammers sp_32⟩, ⟨o_36, 164, row encGWornPin t_4.fPins sp_38⟩, ⟨o_41, 2, row encI64 t_4.fStrokes sp_43⟩, ⟨o_49, 178, row encGHammer t_7.fHammers sp_51⟩, ⟨some b_54, 38, [(.int .i16 t_7.fSteps), (.slice (o_49.map fun b => ⟨b, 0, none⟩) t_7.fHammers.length cap_50)]⟩, ⟨o_56, 164, row encGWornPin t_8.fPins sp_58⟩, ⟨o_61, 2, row encI64 t_8.fStrokes sp_63⟩, ⟨some b_66, 42, [(.slice (o_56.map fun b => ⟨b, 0, none⟩) t_8.fPins.length cap_57), (.slice (o_61.map fun b => ⟨b, 0, none⟩) t_8.fStrokes.length cap_62)]⟩, ⟨o_96, 178, row encGHammer t_11.fHammers sp_98⟩] 5 (by kernel_rfl) (by kernel_rfl) ?_
          refine jd_f [⟨0, 10, 0⟩, ⟨1, 1, 0⟩] 3 (by kernel_rfl) (by kernel_rfl) (fun w h => h.pick [0, 1, 2, 3, 4, 5, 6, 7, 8, 9, 10, 11] (by kernel_rfl) (by kernel_rfl)) (by kernel_rfl) (by kernel_rfl) ?_
          obtain ⟨t_13, ht_115, h⟩ := bd h
          refine toD 2 (by kernel_rfl) (p_call 0 17 #[(.agg #[(.slice aW1_fPins_a aW1.fPins.length aW1_fPins_c), (.slice aW1_fStrokes_a aW1.fStrokes.length aW1_fStrokes_c)])] (by kernel_rfl) (by kernel_rfl) (fun w hm => laws_toWear.calls aW1 w _ aW1_fPins_a aW1.fPins.length aW1_fPins_c (hm.exRow aW1_fPins_h List.not_mem_nil) rfl aW1_fStrokes_a aW1.fStrokes.length aW1_fStrokes_c (hm.exRow aW1_fStrokes_h List.not_mem_nil) rfl ht_115) ?_)
          rintro w v w' hm ⟨o_116, cap_117, sp_118, _, rfl, hs_119, ho_120, o_121, cap_122, sp_123, _, rfl, hs_124, ho_125, rfl, hm'⟩
          refine ⟨_, hm.app hm', jkD (fun w h => h.pick [0, 1, 2, 3, 4, 5, 6, 7, 8, 9, 10, 11] (by kernel_rfl) (by kernel_rfl)) ?_⟩
          clear hm hm'
          obtain ⟨t_14, ht_126, h⟩ := bd h
          refine toD 3 (by kernel_rfl) (p_call 0 21 #[(.agg #[(.slice (o_56.map fun b => ⟨b, 0, none⟩) t_8.fPins.length cap_57), (.slice (o_61.map fun b => ⟨b, 0, none⟩) t_8.fStrokes.length cap_62)]), (.agg #[(.slice (o_116.map fun b => ⟨b, 0, none⟩) t_13.fPins.length cap_117), (.slice (o_121.map fun b => ⟨b, 0, none⟩) t_13.fStrokes.length cap_122)])] (by kernel_rfl) (by kernel_rfl) (fun w hm => laws_eqWear.calls t_8 t_13 w _ (o_56.map fun b => ⟨b, 0, none⟩) t_8.fPins.length cap_57 (hm.ownRow (hh := 8) (o := o_56) (T := 164) (enc := encGWornPin) (xs := t_8.fPins) (sp := sp_58) (by kernel_rfl) (fun e => (ho_60 e).1) encGWornPin_len) rfl (o_61.map fun b => ⟨b, 0, none⟩) t_8.fStrokes.length cap_62 (hm.ownRow (hh := 9) (o := o_61) (T := 2) (enc := encI64) (xs := t_8.fStrokes) (sp := sp_63) (by kernel_rfl) (fun e => (ho_65 e).1) encI64_len) rfl (o_116.map fun b => ⟨b, 0, none⟩) t_13.fPins.length cap_117 (hm.ownRow (hh := 12) (o := o_116) (T := 164) (enc := encGWornPin) (xs := t_13.fPins) (sp := sp_118) (by kernel_rfl) (fun e => (ho_120 e).1) encGWornPin_len) rfl (o_121.map fun b => ⟨b, 0, none⟩) t_13.fStrokes.length cap_122 (hm.ownRow (hh := 13) (o := o_121) (T := 2) (enc := encI64) (xs := t_13.fStrokes) (sp := sp_123) (by kernel_rfl) (fun e => (ho_125 e).1) encI64_len) rfl ht_126) ?_)
          rintro w v w' hm ⟨rfl, hm'⟩
          refine ⟨_, hm.app hm', jkD (fun w h => h.pick [0, 1, 2, 3, 4, 5, 6, 7, 8, 9, 10, 11] (by kernel_rfl) (by kernel_rfl)) ?_⟩
          clear hm hm'
          refine jd_f [⟨4, 0, 0⟩] 0 (by kernel_rfl) (by kernel_rfl) (fun w h => h.pick [0, 1, 2, 3, 4, 5, 6, 7, 8, 9, 10, 11] (by kernel_rfl) (by kernel_rfl)) (by kernel_rfl) (by kernel_rfl) ?_
          refine jd_end (by kernel_rfl) ?_
          refine jx_then ?_
          refine jc_cond (!t_14) (by kernel_rfl) (fun hc_127 => ?_) (fun hc_127 => ?_)
          · replace h := ifT hc_127 h
            refine jc_seq ?_
            refine jc_region ?_
            refine jo_f [(0, 0)] (by kernel_rfl) ?_
            refine jo_end (by kernel_rfl) ?_
            refine jx_then ?_
            refine jc_ret ?_
            refine jx_thenr ?_
            obtain rfl := Option.some.inj h
            exact jx_ret [] (.bool false) [] rfl (by kernel_rfl) (by kernel_rfl) (fun w hm => ⟨rfl, hm.pick [] (by kernel_rfl) (by kernel_rfl)⟩)
          · replace h := ifF hc_127 h
            refine jc_skip ?_
            refine jx_then ?_
            refine jc_seq ?_
            refine jc_region ?_
            refine jo_f [(0, 0)] (by kernel_rfl) ?_
            refine jo_end (by kernel_rfl) ?_
            refine jx_then ?_
            refine jc_ret ?_
            obtain rfl := Option.some.inj h
            exact jx_ret [] (.bool true) [] rfl (by kernel_rfl) (by kernel_rfl) (fun w hm => ⟨rfl, hm.pick [] (by kernel_rfl) (by kernel_rfl)⟩)
end Go.Proofs.Ytilackblefjgdaa
