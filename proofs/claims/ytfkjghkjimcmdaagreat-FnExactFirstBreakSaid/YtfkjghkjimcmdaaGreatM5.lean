/- Functions of the program that the laws reach: a plain function each, and that the call comes to its answer if the plain function has one. Printed by a program. -/
import Derived.Test.YtfkjghkjimcmdaaGreatT
import Derived.Test.YtfkjghkjimcmdaaGreatM0
import Derived.Test.YtfkjghkjimcmdaaGreatM1
import Derived.Test.YtfkjghkjimcmdaaGreatM2
import Derived.Test.YtfkjghkjimcmdaaGreatM3
namespace Go.Proofs.YtfkjghkjimcmdaaGreat
open Eng
set_option linter.unusedVariables false

/-! ### spec.FirstBreak -/
noncomputable def spec_FirstBreak (f0 : GFrame) (w1 : GWear) (v2 : GLives) (list3 : List GAct) : Option (Int × Int) := (spec_l06Acts f0 w1 v2 list3).bind fun t_1 => (if (t_1 != 0) = true then some (0, t_1) else (spec_l06Done f0 w1 v2 list3).bind fun t_2 => (if (decide (t_2.2.1 < 0)) = true then some (0, 6) else some (t_2.2.1, 0)))
set_option maxRecDepth 100000 in
theorem spec_FirstBreak.calls (f0 : GFrame) (w1 : GWear) (v2 : GLives) (list3 : List GAct) (w : World) (r : Int × Int) (f0_fHammers_a : Option Addr) (f0_fHammers_an : Nat) (f0_fHammers_c : Nat) (f0_fHammers_h : Rw w f0_fHammers_a 2 encGHammer f0.fHammers) (f0_fHammers_hn : f0.fHammers.length = f0_fHammers_an) (w1_fPins_a : Option Addr) (w1_fPins_an : Nat) (w1_fPins_c : Nat) (w1_fPins_h : Rw w w1_fPins_a 3 encGWornPin w1.fPins) (w1_fPins_hn : w1.fPins.length = w1_fPins_an) (w1_fStrokes_a : Option Addr) (w1_fStrokes_an : Nat) (w1_fStrokes_c : Nat) (w1_fStrokes_h : Rw w w1_fStrokes_a 1 encI64 w1.fStrokes) (w1_fStrokes_hn : w1.fStrokes.length = w1_fStrokes_an) (list3_a : Option Addr) (list3_an : Nat) (list3_c : Nat) (list3_h : Rw w list3_a 5 encGAct list3) (list3_hn : list3.length = list3_an) (h : spec_FirstBreak f0 w1 v2 list3 = some r) :
    Calls Tryz.prog 22 #[(.agg #[(.int .i16 f0.fSteps), (.slice f0_fHammers_a f0_fHammers_an f0_fHammers_c)]), (.agg #[(.slice w1_fPins_a w1_fPins_an w1_fPins_c), (.slice w1_fStrokes_a w1_fStrokes_an w1_fStrokes_c)]), (.agg #[(.int .i64 v2.fPin), (.int .i64 v2.fHammer)]), (.slice list3_a list3_an list3_c)] w fun e w' => ∃ v, e = .returned v ∧ (v = .tuple #[(.int .i64 r.1), (.int .i64 r.2)] ∧ Mem w [] [] w') := by
  subst f0_fHammers_hn w1_fPins_hn w1_fStrokes_hn list3_hn
  rw [spec_FirstBreak] at h
  refine enter (args := [(.agg #[(.int .i16 f0.fSteps), (.slice f0_fHammers_a f0.fHammers.length f0_fHammers_c)]), (.agg #[(.slice w1_fPins_a w1.fPins.length w1_fPins_c), (.slice w1_fStrokes_a w1.fStrokes.length w1_fStrokes_c)]), (.agg #[(.int .i64 v2.fPin), (.int .i64 v2.fHammer)]), (.slice list3_a list3.length list3_c)]) Tryz.func22 rfl Tryz.ntmps22 (by kernel_rfl) (L := []) (W := []) (Mem.start w) ?_
  refine jc_seq ?_
  refine jc_region ?_
  refine toO (by kernel_rfl) (p_a 0 [0] (by kernel_rfl) (fun b => by kernel_rfl) (fun b_1 => jkO ?_))
  refine toO (by kernel_rfl) (p_a 0 [0] (by kernel_rfl) (fun b => by kernel_rfl) (fun b_2 => jkO ?_))
  refine toO (by kernel_rfl) (p_a 0 [0] (by kernel_rfl) (fun b => by kernel_rfl) (fun b_3 => jkO ?_))
  refine jo_f [(0, 0), (0, 0)] (by kernel_rfl) ?_
  refine jo_end (by kernel_rfl) ?_
  refine jx_then ?_
  refine jc_seq ?_
  refine jc_seq ?_
  refine jc_region ?_
  refine jo_f [(2, 0), (0, 0)] (by kernel_rfl) ?_
  obtain ⟨t_1, ht_6, h⟩ := bd h
  refine toO (by kernel_rfl) (p_call 0 41 #[(.pointer (some ⟨b_1, 0, none⟩)), (.pointer (some ⟨b_2, 0, none⟩)), (.agg #[(.int .i64 v2.fPin), (.int .i64 v2.fHammer)]), (.slice list3_a list3.length list3_c)] (by kernel_rfl) (by kernel_rfl) (fun w hm => spec_l06Acts.calls f0 w1 v2 list3 w _ f0_fHammers_a f0.fHammers.length f0_fHammers_c (hm.exRow f0_fHammers_h List.not_mem_nil) rfl w1_fPins_a w1.fPins.length w1_fPins_c (hm.exRow w1_fPins_h List.not_mem_nil) rfl w1_fStrokes_a w1.fStrokes.length w1_fStrokes_c (hm.exRow w1_fStrokes_h List.not_mem_nil) rfl list3_a list3.length list3_c (hm.exRow list3_h List.not_mem_nil) rfl b_1 b_2 (hm.pass (N := [⟨some b_1, 43, [(.int .i16 f0.fSteps), (.slice f0_fHammers_a f0.fHammers.length f0_fHammers_c)]⟩, ⟨some b_2, 38, [(.slice w1_fPins_a w1.fPins.length w1_fPins_c), (.slice w1_fStrokes_a w1.fStrokes.length w1_fStrokes_c)]⟩]) [0, 1] (by kernel_rfl) (by kernel_rfl)) (hm.exApart (N := [⟨some b_1, 43, [(.int .i16 f0.fSteps), (.slice f0_fHammers_a f0.fHammers.length f0_fHammers_c)]⟩, ⟨some b_2, 38, [(.slice w1_fPins_a w1.fPins.length w1_fPins_c), (.slice w1_fStrokes_a w1.fStrokes.length w1_fStrokes_c)]⟩]) f0_fHammers_h (fun _ => List.not_mem_nil) [0, 1] (by kernel_rfl)) (hm.exApart (N := [⟨some b_1, 43, [(.int .i16 f0.fSteps), (.slice f0_fHammers_a f0.fHammers.length f0_fHammers_c)]⟩, ⟨some b_2, 38, [(.slice w1_fPins_a w1.fPins.length w1_fPins_c), (.slice w1_fStrokes_a w1.fStrokes.length w1_fStrokes_c)]⟩]) w1_fPins_h (fun _ => List.not_mem_nil) [0, 1] (by kernel_rfl)) (hm.exApart (N := [⟨some b_1, 43, [(.int .i16 f0.fSteps), (.slice f0_fHammers_a f0.fHammers.length f0_fHammers_c)]⟩, ⟨some b_2, 38, [(.slice w1_fPins_a w1.fPins.length w1_fPins_c), (.slice w1_fStrokes_a w1.fStrokes.length w1_fStrokes_c)]⟩]) w1_fStrokes_h (fun _ => List.not_mem_nil) [0, 1] (by kernel_rfl)) (hm.exApart (N := [⟨some b_1, 43, [(.int .i16 f0.fSteps), (.slice f0_fHammers_a f0.fHammers.length f0_fHammers_c)]⟩, ⟨some b_2, 38, [(.slice w1_fPins_a w1.fPins.length w1_fPins_c), (.slice w1_fStrokes_a w1.fStrokes.length w1_fStrokes_c)]⟩]) list3_h (fun _ => List.not_mem_nil) [0, 1] (by kernel_rfl)) ht_6) ?_)
  rintro w v w' hm ⟨rfl, hm'⟩
  refine ⟨_, hm.appW (ps := [(0, ⟨some b_1, 43, [(.int .i16 f0.fSteps), (.slice f0_fHammers_a f0.fHammers.length f0_fHammers_c)]⟩), (1, ⟨some b_2, 38, [(.slice w1_fPins_a w1.fPins.length w1_fPins_c), (.slice w1_fStrokes_a w1.fStrokes.length w1_fStrokes_c)]⟩)]) (N := []) hm' (by kernel_rfl) (by kernel_rfl), jkO ?_⟩
  clear hm hm'
  refine jo_f [(0, 0)] (by kernel_rfl) ?_
  refine jo_end (by kernel_rfl) ?_
  refine jx_then ?_
  refine jc_seq ?_
  refine jc_region ?_
  refine jo_f [(0, 0), (0, 0)] (by kernel_rfl) ?_
  refine jo_end (by kernel_rfl) ?_
  refine jx_then ?_
  refine jc_cond (t_1 != 0) (by kernel_rfl) (fun hc_7 => ?_) (fun hc_7 => ?_)
  · replace h := ifT hc_7 h
    refine jc_seq ?_
    refine jc_region ?_
    refine jo_f [(0, 0), (0, 0), (0, 0)] (by kernel_rfl) ?_
    refine jo_end (by kernel_rfl) ?_
    refine jx_then ?_
    refine jc_ret ?_
    refine jx_thenr ?_
    obtain rfl := Option.some.inj h
    exact jx_ret [] (.tuple #[(.int .i64 0), (.int .i64 t_1)]) [] rfl (by kernel_rfl) (by kernel_rfl) (fun w hm => ⟨rfl, hm.pick [] (by kernel_rfl) (by kernel_rfl)⟩)
  · replace h := ifF hc_7 h
    refine jc_skip ?_
    refine jx_then ?_
    refine jc_seq ?_
    refine jc_region ?_
    refine jo_f [(2, 0), (0, 0)] (by kernel_rfl) ?_
    obtain ⟨t_2, ht_8, h⟩ := bd h
    refine toO (by kernel_rfl) (p_call 0 42 #[(.pointer (some ⟨b_1, 0, none⟩)), (.pointer (some ⟨b_2, 0, none⟩)), (.agg #[(.int .i64 v2.fPin), (.int .i64 v2.fHammer)]), (.slice list3_a list3.length list3_c)] (by kernel_rfl) (by kernel_rfl) (fun w hm => spec_l06Done.calls f0 w1 v2 list3 w _ f0_fHammers_a f0.fHammers.length f0_fHammers_c (hm.exRow f0_fHammers_h List.not_mem_nil) rfl w1_fPins_a w1.fPins.length w1_fPins_c (hm.exRow w1_fPins_h List.not_mem_nil) rfl w1_fStrokes_a w1.fStrokes.length w1_fStrokes_c (hm.exRow w1_fStrokes_h List.not_mem_nil) rfl list3_a list3.length list3_c (hm.exRow list3_h List.not_mem_nil) rfl b_1 b_2 (hm.pass (N := [⟨some b_1, 43, [(.int .i16 f0.fSteps), (.slice f0_fHammers_a f0.fHammers.length f0_fHammers_c)]⟩, ⟨some b_2, 38, [(.slice w1_fPins_a w1.fPins.length w1_fPins_c), (.slice w1_fStrokes_a w1.fStrokes.length w1_fStrokes_c)]⟩]) [0, 1] (by kernel_rfl) (by kernel_rfl)) (hm.exApart (N := [⟨some b_1, 43, [(.int .i16 f0.fSteps), (.slice f0_fHammers_a f0.fHammers.length f0_fHammers_c)]⟩, ⟨some b_2, 38, [(.slice w1_fPins_a w1.fPins.length w1_fPins_c), (.slice w1_fStrokes_a w1.fStrokes.length w1_fStrokes_c)]⟩]) f0_fHammers_h (fun _ => List.not_mem_nil) [0, 1] (by kernel_rfl)) (hm.exApart (N := [⟨some b_1, 43, [(.int .i16 f0.fSteps), (.slice f0_fHammers_a f0.fHammers.length f0_fHammers_c)]⟩, ⟨some b_2, 38, [(.slice w1_fPins_a w1.fPins.length w1_fPins_c), (.slice w1_fStrokes_a w1.fStrokes.length w1_fStrokes_c)]⟩]) w1_fPins_h (fun _ => List.not_mem_nil) [0, 1] (by kernel_rfl)) (hm.exApart (N := [⟨some b_1, 43, [(.int .i16 f0.fSteps), (.slice f0_fHammers_a f0.fHammers.length f0_fHammers_c)]⟩, ⟨some b_2, 38, [(.slice w1_fPins_a w1.fPins.length w1_fPins_c), (.slice w1_fStrokes_a w1.fStrokes.length w1_fStrokes_c)]⟩]) w1_fStrokes_h (fun _ => List.not_mem_nil) [0, 1] (by kernel_rfl)) (hm.exApart (N := [⟨some b_1, 43, [(.int .i16 f0.fSteps), (.slice f0_fHammers_a f0.fHammers.length f0_fHammers_c)]⟩, ⟨some b_2, 38, [(.slice w1_fPins_a w1.fPins.length w1_fPins_c), (.slice w1_fStrokes_a w1.fStrokes.length w1_fStrokes_c)]⟩]) list3_h (fun _ => List.not_mem_nil) [0, 1] (by kernel_rfl)) ht_8) ?_)
    rintro w v w' hm ⟨o_9, cap_10, sp_11, _, rfl, hs_12, ho_13, o_14, cap_15, sp_16, _, rfl, hs_17, ho_18, rfl, hm'⟩
    refine ⟨_, hm.appW (ps := [(0, ⟨some b_1, 43, [(.int .i16 f0.fSteps), (.slice f0_fHammers_a f0.fHammers.length f0_fHammers_c)]⟩), (1, ⟨some b_2, 38, [(.slice w1_fPins_a w1.fPins.length w1_fPins_c), (.slice w1_fStrokes_a w1.fStrokes.length w1_fStrokes_c)]⟩)]) (N := [⟨o_9, 75, row encGWornPin t_2.1.fPins sp_11⟩, ⟨o_14, 2, row encI64 t_2.1.fStrokes sp_16⟩]) hm' (by kernel_rfl) (by kernel_rfl), jkO ?_⟩
    clear hm hm'
    refine jo_f [(0, 0), (0, 0), (0, 0), (0, 0)] (by kernel_rfl) ?_
    refine toO (by kernel_rfl) (p_a 0 [0] (by kernel_rfl) (fun b => by kernel_rfl) (fun b_19 => jkO ?_))
    refine toO (by kernel_rfl) (p_s 0 [5] (by kernel_rfl) (by kernel_rfl) (jkO ?_))
    refine jo_f [(0, 0), (0, 0)] (by kernel_rfl) ?_
    refine jo_end (by kernel_rfl) ?_
    refine jx_then ?_
    refine jc_seq ?_
    refine jc_seq ?_
    refine jc_region ?_
    refine jo_f [(0, 0), (0, 0)] (by kernel_rfl) ?_
    refine jo_end (by kernel_rfl) ?_
    refine jx_then ?_
    refine jc_cond (decide (t_2.2.1 < 0)) (by kernel_rfl) (fun hc_21 => ?_) (fun hc_21 => ?_)
    · replace h := ifT hc_21 h
      refine jc_seq ?_
      refine jc_region ?_
      refine jo_f [(0, 0), (0, 0)] (by kernel_rfl) ?_
      refine jo_end (by kernel_rfl) ?_
      refine jx_then ?_
      refine jc_ret ?_
      refine jx_thenr ?_
      obtain rfl := Option.some.inj h
      exact jx_ret [] (.tuple #[(.int .i64 0), (.int .i64 6)]) [] rfl (by kernel_rfl) (by kernel_rfl) (fun w hm => ⟨rfl, hm.pick [] (by kernel_rfl) (by kernel_rfl)⟩)
    · replace h := ifF hc_21 h
      refine jc_skip ?_
      refine jx_then ?_
      refine jc_seq ?_
      refine jc_region ?_
      refine jo_f [(0, 0), (0, 0), (0, 0)] (by kernel_rfl) ?_
      refine jo_end (by kernel_rfl) ?_
      refine jx_then ?_
      refine jc_ret ?_
      obtain rfl := Option.some.inj h
      exact jx_ret [] (.tuple #[(.int .i64 t_2.2.1), (.int .i64 0)]) [] rfl (by kernel_rfl) (by kernel_rfl) (fun w hm => ⟨rfl, hm.pick [] (by kernel_rfl) (by kernel_rfl)⟩)

/-! ### impl.FirstBreak -/
noncomputable def impl_FirstBreak (f0 : GFrame) (w1 : GWear) (v2 : GLives) (list3 : List GAct) : Option (Int × Int) := (impl_actsCode f0 w1 v2 list3).bind fun t_1 => (if (t_1 != 0) = true then some (0, t_1) else (impl_doActs f0 w1 v2 list3).bind fun t_2 => (if (t_2.2.2 == 0) = true then some (0, 6) else some (t_2.2.1, 0)))
set_option maxRecDepth 100000 in
theorem impl_FirstBreak.calls (f0 : GFrame) (w1 : GWear) (v2 : GLives) (list3 : List GAct) (w : World) (r : Int × Int) (f0_fHammers_a : Option Addr) (f0_fHammers_an : Nat) (f0_fHammers_c : Nat) (f0_fHammers_h : Rw w f0_fHammers_a 2 encGHammer f0.fHammers) (f0_fHammers_hn : f0.fHammers.length = f0_fHammers_an) (w1_fPins_a : Option Addr) (w1_fPins_an : Nat) (w1_fPins_c : Nat) (w1_fPins_h : Rw w w1_fPins_a 3 encGWornPin w1.fPins) (w1_fPins_hn : w1.fPins.length = w1_fPins_an) (w1_fStrokes_a : Option Addr) (w1_fStrokes_an : Nat) (w1_fStrokes_c : Nat) (w1_fStrokes_h : Rw w w1_fStrokes_a 1 encI64 w1.fStrokes) (w1_fStrokes_hn : w1.fStrokes.length = w1_fStrokes_an) (list3_a : Option Addr) (list3_an : Nat) (list3_c : Nat) (list3_h : Rw w list3_a 5 encGAct list3) (list3_hn : list3.length = list3_an) (h : impl_FirstBreak f0 w1 v2 list3 = some r) :
    Calls Tryz.prog 23 #[(.agg #[(.int .i16 f0.fSteps), (.slice f0_fHammers_a f0_fHammers_an f0_fHammers_c)]), (.agg #[(.slice w1_fPins_a w1_fPins_an w1_fPins_c), (.slice w1_fStrokes_a w1_fStrokes_an w1_fStrokes_c)]), (.agg #[(.int .i64 v2.fPin), (.int .i64 v2.fHammer)]), (.slice list3_a list3_an list3_c)] w fun e w' => ∃ v, e = .returned v ∧ (v = .tuple #[(.int .i64 r.1), (.int .i64 r.2)] ∧ Mem w [] [] w') := by
  subst f0_fHammers_hn w1_fPins_hn w1_fStrokes_hn list3_hn
  rw [impl_FirstBreak] at h
  refine enter (args := [(.agg #[(.int .i16 f0.fSteps), (.slice f0_fHammers_a f0.fHammers.length f0_fHammers_c)]), (.agg #[(.slice w1_fPins_a w1.fPins.length w1_fPins_c), (.slice w1_fStrokes_a w1.fStrokes.length w1_fStrokes_c)]), (.agg #[(.int .i64 v2.fPin), (.int .i64 v2.fHammer)]), (.slice list3_a list3.length list3_c)]) Tryz.func23 rfl Tryz.ntmps23 (by kernel_rfl) (L := []) (W := []) (Mem.start w) ?_
  refine jc_seq ?_
  refine jc_region ?_
  refine toO (by kernel_rfl) (p_a 0 [0] (by kernel_rfl) (fun b => by kernel_rfl) (fun b_1 => jkO ?_))
  refine toO (by kernel_rfl) (p_a 0 [0] (by kernel_rfl) (fun b => by kernel_rfl) (fun b_2 => jkO ?_))
  refine toO (by kernel_rfl) (p_a 0 [0] (by kernel_rfl) (fun b => by kernel_rfl) (fun b_3 => jkO ?_))
  refine jo_f [(0, 0), (0, 0)] (by kernel_rfl) ?_
  refine jo_end (by kernel_rfl) ?_
  refine jx_then ?_
  refine jc_seq ?_
  refine jc_seq ?_
  refine jc_region ?_
  refine jo_f [(0, 0), (1, 0), (2, 0), (0, 0)] (by kernel_rfl) ?_
  obtain ⟨t_1, ht_6, h⟩ := bd h
  refine toO (by kernel_rfl) (p_call 0 47 #[(.agg #[(.int .i16 f0.fSteps), (.slice f0_fHammers_a f0.fHammers.length f0_fHammers_c)]), (.agg #[(.slice w1_fPins_a w1.fPins.length w1_fPins_c), (.slice w1_fStrokes_a w1.fStrokes.length w1_fStrokes_c)]), (.agg #[(.int .i64 v2.fPin), (.int .i64 v2.fHammer)]), (.slice list3_a list3.length list3_c)] (by kernel_rfl) (by kernel_rfl) (fun w hm => impl_actsCode.calls f0 w1 v2 list3 w _ f0_fHammers_a f0.fHammers.length f0_fHammers_c (hm.exRow f0_fHammers_h List.not_mem_nil) rfl w1_fPins_a w1.fPins.length w1_fPins_c (hm.exRow w1_fPins_h List.not_mem_nil) rfl w1_fStrokes_a w1.fStrokes.length w1_fStrokes_c (hm.exRow w1_fStrokes_h List.not_mem_nil) rfl list3_a list3.length list3_c (hm.exRow list3_h List.not_mem_nil) rfl ht_6) ?_)
  rintro w v w' hm ⟨rfl, hm'⟩
  refine ⟨_, hm.app hm', jkO ?_⟩
  clear hm hm'
  refine jo_f [(0, 0)] (by kernel_rfl) ?_
  refine jo_end (by kernel_rfl) ?_
  refine jx_then ?_
  refine jc_seq ?_
  refine jc_region ?_
  refine jo_f [(0, 0), (0, 0)] (by kernel_rfl) ?_
  refine jo_end (by kernel_rfl) ?_
  refine jx_then ?_
  refine jc_cond (t_1 != 0) (by kernel_rfl) (fun hc_7 => ?_) (fun hc_7 => ?_)
  · replace h := ifT hc_7 h
    refine jc_seq ?_
    refine jc_region ?_
    refine jo_f [(0, 0), (0, 0), (0, 0)] (by kernel_rfl) ?_
    refine jo_end (by kernel_rfl) ?_
    refine jx_then ?_
    refine jc_ret ?_
    refine jx_thenr ?_
    obtain rfl := Option.some.inj h
    exact jx_ret [] (.tuple #[(.int .i64 0), (.int .i64 t_1)]) [] rfl (by kernel_rfl) (by kernel_rfl) (fun w hm => ⟨rfl, hm.pick [] (by kernel_rfl) (by kernel_rfl)⟩)
  · replace h := ifF hc_7 h
    refine jc_skip ?_
    refine jx_then ?_
    refine jc_seq ?_
    refine jc_region ?_
    refine jo_f [(0, 0), (1, 0), (2, 0), (0, 0)] (by kernel_rfl) ?_
    obtain ⟨t_2, ht_8, h⟩ := bd h
    refine toO (by kernel_rfl) (p_call 0 48 #[(.agg #[(.int .i16 f0.fSteps), (.slice f0_fHammers_a f0.fHammers.length f0_fHammers_c)]), (.agg #[(.slice w1_fPins_a w1.fPins.length w1_fPins_c), (.slice w1_fStrokes_a w1.fStrokes.length w1_fStrokes_c)]), (.agg #[(.int .i64 v2.fPin), (.int .i64 v2.fHammer)]), (.slice list3_a list3.length list3_c)] (by kernel_rfl) (by kernel_rfl) (fun w hm => impl_doActs.calls f0 w1 v2 list3 w _ f0_fHammers_a f0.fHammers.length f0_fHammers_c (hm.exRow f0_fHammers_h List.not_mem_nil) rfl w1_fPins_a w1.fPins.length w1_fPins_c (hm.exRow w1_fPins_h List.not_mem_nil) rfl w1_fStrokes_a w1.fStrokes.length w1_fStrokes_c (hm.exRow w1_fStrokes_h List.not_mem_nil) rfl list3_a list3.length list3_c (hm.exRow list3_h List.not_mem_nil) rfl ht_8) ?_)
    rintro w v w' hm ⟨o_9, cap_10, sp_11, _, rfl, hs_12, ho_13, o_14, cap_15, sp_16, _, rfl, hs_17, ho_18, rfl, hm'⟩
    refine ⟨_, hm.app hm', jkO ?_⟩
    clear hm hm'
    refine jo_f [(0, 0), (0, 0), (0, 0), (0, 0)] (by kernel_rfl) ?_
    refine toO (by kernel_rfl) (p_a 0 [0] (by kernel_rfl) (fun b => by kernel_rfl) (fun b_19 => jkO ?_))
    refine toO (by kernel_rfl) (p_s 0 [5] (by kernel_rfl) (by kernel_rfl) (jkO ?_))
    refine jo_f [(0, 0), (0, 0)] (by kernel_rfl) ?_
    refine jo_end (by kernel_rfl) ?_
    refine jx_then ?_
    refine jc_seq ?_
    refine jc_seq ?_
    refine jc_region ?_
    refine jo_f [(0, 0), (0, 0)] (by kernel_rfl) ?_
    refine jo_end (by kernel_rfl) ?_
    refine jx_then ?_
    refine jc_cond (t_2.2.2 == 0) (by kernel_rfl) (fun hc_21 => ?_) (fun hc_21 => ?_)
    · replace h := ifT hc_21 h
      refine jc_seq ?_
      refine jc_region ?_
      refine jo_f [(0, 0), (0, 0)] (by kernel_rfl) ?_
      refine jo_end (by kernel_rfl) ?_
      refine jx_then ?_
      refine jc_ret ?_
      refine jx_thenr ?_
      obtain rfl := Option.some.inj h
      exact jx_ret [] (.tuple #[(.int .i64 0), (.int .i64 6)]) [] rfl (by kernel_rfl) (by kernel_rfl) (fun w hm => ⟨rfl, hm.pick [] (by kernel_rfl) (by kernel_rfl)⟩)
    · replace h := ifF hc_21 h
      refine jc_skip ?_
      refine jx_then ?_
      refine jc_seq ?_
      refine jc_region ?_
      refine jo_f [(0, 0), (0, 0), (0, 0)] (by kernel_rfl) ?_
      refine jo_end (by kernel_rfl) ?_
      refine jx_then ?_
      refine jc_ret ?_
      obtain rfl := Option.some.inj h
      exact jx_ret [] (.tuple #[(.int .i64 t_2.2.1), (.int .i64 0)]) [] rfl (by kernel_rfl) (by kernel_rfl) (fun w hm => ⟨rfl, hm.pick [] (by kernel_rfl) (by kernel_rfl)⟩)

/-! ### laws.FnExactFirstBreak -/
noncomputable def laws_FnExactFirstBreak (aF0 : GFrame) (aW1 : GWear) (aV2 : GLives) (aList3 : List GAct) : Option (Bool) := (laws_szFrame aF0 1048576).bind fun t_1 => (if (decide (t_1 < 0)) = true then some true else (laws_szWear aW1 t_1).bind fun t_2 => (if (decide (t_2 < 0)) = true then some true else (laws_szActS aList3 t_2).bind fun t_3 => (if (decide (t_3 < 0)) = true then some true else (laws_toFrame aF0).bind fun t_4 => (laws_toWear aW1).bind fun t_5 => (laws_toLives aV2).bind fun t_6 => (laws_toActS aList3).bind fun t_7 => (spec_FirstBreak t_4 t_5 t_6 t_7).bind fun t_8 => (laws_toFrame aF0).bind fun t_9 => (laws_toWear aW1).bind fun t_10 => (laws_toActS aList3).bind fun t_11 => (laws_toLives aV2).bind fun t_12 => (impl_FirstBreak t_9 t_10 t_12 t_11).bind fun t_13 => (if ((t_13.1 != t_8.1) || (t_13.2 != t_8.2)) = true then some false else (laws_toFrame aF0).bind fun t_14 => (laws_eqFrame t_9 t_14).bind fun t_15 => (if (!t_15) = true then some false else (laws_toWear aW1).bind fun t_16 => (laws_eqWear t_10 t_16).bind fun t_17 => (if (!t_17) = true then some false else (laws_toActS aList3).bind fun t_18 => (laws_eqActS t_11 t_18).bind fun t_19 => (if (!t_19) = true then some false else some true)))))))
set_option maxRecDepth 100000 in
set_option maxHeartbeats 8000000 in
theorem laws_FnExactFirstBreak.calls (aF0 : GFrame) (aW1 : GWear) (aV2 : GLives) (aList3 : List GAct) (w : World) (r : Bool) (aF0_fHammers_a : Option Addr) (aF0_fHammers_an : Nat) (aF0_fHammers_c : Nat) (aF0_fHammers_h : Rw w aF0_fHammers_a 2 encGHammer aF0.fHammers) (aF0_fHammers_hn : aF0.fHammers.length = aF0_fHammers_an) (aW1_fPins_a : Option Addr) (aW1_fPins_an : Nat) (aW1_fPins_c : Nat) (aW1_fPins_h : Rw w aW1_fPins_a 3 encGWornPin aW1.fPins) (aW1_fPins_hn : aW1.fPins.length = aW1_fPins_an) (aW1_fStrokes_a : Option Addr) (aW1_fStrokes_an : Nat) (aW1_fStrokes_c : Nat) (aW1_fStrokes_h : Rw w aW1_fStrokes_a 1 encI64 aW1.fStrokes) (aW1_fStrokes_hn : aW1.fStrokes.length = aW1_fStrokes_an) (aList3_a : Option Addr) (aList3_an : Nat) (aList3_c : Nat) (aList3_h : Rw w aList3_a 5 encGAct aList3) (aList3_hn : aList3.length = aList3_an) (h : laws_FnExactFirstBreak aF0 aW1 aV2 aList3 = some r) :
    Calls Tryz.prog 4 #[(.agg #[(.int .i16 aF0.fSteps), (.slice aF0_fHammers_a aF0_fHammers_an aF0_fHammers_c)]), (.agg #[(.slice aW1_fPins_a aW1_fPins_an aW1_fPins_c), (.slice aW1_fStrokes_a aW1_fStrokes_an aW1_fStrokes_c)]), (.agg #[(.int .i64 aV2.fPin), (.int .i64 aV2.fHammer)]), (.slice aList3_a aList3_an aList3_c)] w fun e w' => ∃ v, e = .returned v ∧ (v = (.bool r) ∧ Mem w [] [] w') := by
  subst aF0_fHammers_hn aW1_fPins_hn aW1_fStrokes_hn aList3_hn
  rw [laws_FnExactFirstBreak] at h
  refine enter (args := [(.agg #[(.int .i16 aF0.fSteps), (.slice aF0_fHammers_a aF0.fHammers.length aF0_fHammers_c)]), (.agg #[(.slice aW1_fPins_a aW1.fPins.length aW1_fPins_c), (.slice aW1_fStrokes_a aW1.fStrokes.length aW1_fStrokes_c)]), (.agg #[(.int .i64 aV2.fPin), (.int .i64 aV2.fHammer)]), (.slice aList3_a aList3.length aList3_c)]) Tryz.func4 rfl Tryz.ntmps4 (by kernel_rfl) (L := []) (W := []) (Mem.start w) ?_
  refine jc_seq ?_
  refine jc_region ?_
  refine toO (by kernel_rfl) (p_a 0 [0] (by kernel_rfl) (fun b => by kernel_rfl) (fun b_1 => jkO ?_))
  refine toO (by kernel_rfl) (p_a 0 [0] (by kernel_rfl) (fun b => by kernel_rfl) (fun b_2 => jkO ?_))
  refine toO (by kernel_rfl) (p_a 0 [0] (by kernel_rfl) (fun b => by kernel_rfl) (fun b_3 => jkO ?_))
  refine jo_f [(0, 0)] (by kernel_rfl) ?_
  refine jo_end (by kernel_rfl) ?_
  refine jx_then ?_
  refine jc_seq ?_
  refine jc_region ?_
  refine jo_f [(0, 0)] (by kernel_rfl) ?_
  refine jo_end (by kernel_rfl) ?_
  refine jx_then ?_
  refine jc_seq ?_
  refine jc_region ?_
  refine jo_f [(0, 0), (0, 0)] (by kernel_rfl) ?_
  obtain ⟨t_1, ht_4, h⟩ := bd h
  refine toO (by kernel_rfl) (p_call 0 6 #[(.agg #[(.int .i16 aF0.fSteps), (.slice aF0_fHammers_a aF0.fHammers.length aF0_fHammers_c)]), (.int .i64 1048576)] (by kernel_rfl) (by kernel_rfl) (fun w hm => laws_szFrame.calls aF0 1048576 w _ aF0_fHammers_a aF0.fHammers.length aF0_fHammers_c (hm.exRow aF0_fHammers_h List.not_mem_nil) rfl ht_4) ?_)
  rintro w v w' hm ⟨rfl, hm'⟩
  refine ⟨_, hm.app hm', jkO ?_⟩
  clear hm hm'
  refine jo_f [(0, 0)] (by kernel_rfl) ?_
  refine jo_end (by kernel_rfl) ?_
  refine jx_then ?_
  refine jc_seq ?_
  refine jc_seq ?_
  refine jc_region ?_
  refine jo_f [(0, 0), (0, 0)] (by kernel_rfl) ?_
  refine jo_end (by kernel_rfl) ?_
  refine jx_then ?_
  refine jc_cond (decide (t_1 < 0)) (by kernel_rfl) (fun hc_6 => ?_) (fun hc_6 => ?_)
  · replace h := ifT hc_6 h
    refine jc_seq ?_
    refine jc_region ?_
    refine jo_f [(0, 0)] (by kernel_rfl) ?_
    refine jo_end (by kernel_rfl) ?_
    refine jx_then ?_
    refine jc_ret ?_
    refine jx_thenr ?_
    obtain rfl := Option.some.inj h
    exact jx_ret [] (.bool true) [] rfl (by kernel_rfl) (by kernel_rfl) (fun w hm => ⟨rfl, hm.pick [] (by kernel_rfl) (by kernel_rfl)⟩)
  · replace h := ifF hc_6 h
    refine jc_skip ?_
    refine jx_then ?_
    refine jc_seq ?_
    refine jc_region ?_
    refine jo_f [(1, 0), (0, 0)] (by kernel_rfl) ?_
    obtain ⟨t_2, ht_7, h⟩ := bd h
    refine toO (by kernel_rfl) (p_call 0 7 #[(.agg #[(.slice aW1_fPins_a aW1.fPins.length aW1_fPins_c), (.slice aW1_fStrokes_a aW1.fStrokes.length aW1_fStrokes_c)]), (.int .i64 t_1)] (by kernel_rfl) (by kernel_rfl) (fun w hm => laws_szWear.calls aW1 t_1 w _ aW1_fPins_a aW1.fPins.length aW1_fPins_c (hm.exRow aW1_fPins_h List.not_mem_nil) rfl aW1_fStrokes_a aW1.fStrokes.length aW1_fStrokes_c (hm.exRow aW1_fStrokes_h List.not_mem_nil) rfl ht_7) ?_)
    rintro w v w' hm ⟨rfl, hm'⟩
    refine ⟨_, hm.app hm', jkO ?_⟩
    clear hm hm'
    refine jo_f [(0, 0)] (by kernel_rfl) ?_
    refine jo_end (by kernel_rfl) ?_
    refine jx_then ?_
    refine jc_seq ?_
    refine jc_seq ?_
    refine jc_region ?_
    refine jo_f [(0, 0), (0, 0)] (by kernel_rfl) ?_
    refine jo_end (by kernel_rfl) ?_
    refine jx_then ?_
    refine jc_cond (decide (t_2 < 0)) (by kernel_rfl) (fun hc_9 => ?_) (fun hc_9 => ?_)
    · replace h := ifT hc_9 h
      refine jc_seq ?_
      refine jc_region ?_
      refine jo_f [(0, 0)] (by kernel_rfl) ?_
      refine jo_end (by kernel_rfl) ?_
      refine jx_then ?_
      refine jc_ret ?_
      refine jx_thenr ?_
      obtain rfl := Option.some.inj h
      exact jx_ret [] (.bool true) [] rfl (by kernel_rfl) (by kernel_rfl) (fun w hm => ⟨rfl, hm.pick [] (by kernel_rfl) (by kernel_rfl)⟩)
    · replace h := ifF hc_9 h
      refine jc_skip ?_
      refine jx_then ?_
      refine jc_seq ?_
      refine jc_region ?_
      refine jo_f [(0, 0), (0, 0)] (by kernel_rfl) ?_
      obtain ⟨t_3, ht_10, h⟩ := bd h
      refine toO (by kernel_rfl) (p_call 0 8 #[(.slice aList3_a aList3.length aList3_c), (.int .i64 t_2)] (by kernel_rfl) (by kernel_rfl) (fun w hm => laws_szActS.calls aList3 t_2 w _ aList3_a aList3.length aList3_c (hm.exRow aList3_h List.not_mem_nil) rfl ht_10) ?_)
      rintro w v w' hm ⟨rfl, hm'⟩
      refine ⟨_, hm.app hm', jkO ?_⟩
      clear hm hm'
      refine jo_f [(0, 0)] (by kernel_rfl) ?_
      refine jo_end (by kernel_rfl) ?_
      refine jx_then ?_
      refine jc_seq ?_
      refine jc_seq ?_
      refine jc_region ?_
      refine jo_f [(0, 0), (0, 0)] (by kernel_rfl) ?_
      refine jo_end (by kernel_rfl) ?_
      refine jx_then ?_
      refine jc_cond (decide (t_3 < 0)) (by kernel_rfl) (fun hc_12 => ?_) (fun hc_12 => ?_)
      · replace h := ifT hc_12 h
        refine jc_seq ?_
        refine jc_region ?_
        refine jo_f [(0, 0)] (by kernel_rfl) ?_
        refine jo_end (by kernel_rfl) ?_
        refine jx_then ?_
        refine jc_ret ?_
        refine jx_thenr ?_
        obtain rfl := Option.some.inj h
        exact jx_ret [] (.bool true) [] rfl (by kernel_rfl) (by kernel_rfl) (fun w hm => ⟨rfl, hm.pick [] (by kernel_rfl) (by kernel_rfl)⟩)
      · replace h := ifF hc_12 h
        refine jc_skip ?_
        refine jx_then ?_
        refine jc_seq ?_
        refine jc_draw [⟨some b_1, 25, [(.int .i16 aF0.fSteps), (.slice aF0_fHammers_a aF0.fHammers.length aF0_fHammers_c)]⟩, ⟨some b_2, 29, [(.slice aW1_fPins_a aW1.fPins.length aW1_fPins_c), (.slice aW1_fStrokes_a aW1.fStrokes.length aW1_fStrokes_c)]⟩, ⟨some b_3, 31, [(.int .i64 aV2.fPin), (.int .i64 aV2.fHammer)]⟩] 14 (by kernel_rfl) (by kernel_rfl) ?_
        refine jd_f [⟨0, 0, 0⟩, ⟨2, 1, 0⟩, ⟨4, 2, 0⟩, ⟨6, 0, 0⟩] 10 (by kernel_rfl) (by kernel_rfl) (fun w h => h.pick [0, 1, 2] (by kernel_rfl) (by kernel_rfl)) (by kernel_rfl) (by kernel_rfl) ?_
        obtain ⟨t_4, ht_38, h⟩ := bd h
        refine toD 1 (by kernel_rfl) (p_call 0 10 #[(.agg #[(.int .i16 aF0.fSteps), (.slice aF0_fHammers_a aF0.fHammers.length aF0_fHammers_c)])] (by kernel_rfl) (by kernel_rfl) (fun w hm => laws_toFrame.calls aF0 w _ aF0_fHammers_a aF0.fHammers.length aF0_fHammers_c (hm.exRow aF0_fHammers_h List.not_mem_nil) rfl ht_38) ?_)
        rintro w v w' hm ⟨o_39, cap_40, sp_41, _, rfl, hs_42, ho_43, rfl, hm'⟩
        refine ⟨_, hm.app hm', jkD (fun w h => h.pick [0, 1, 2] (by kernel_rfl) (by kernel_rfl)) ?_⟩
        clear hm hm'
        obtain ⟨t_5, ht_44, h⟩ := bd h
        refine toD 3 (by kernel_rfl) (p_call 0 11 #[(.agg #[(.slice aW1_fPins_a aW1.fPins.length aW1_fPins_c), (.slice aW1_fStrokes_a aW1.fStrokes.length aW1_fStrokes_c)])] (by kernel_rfl) (by kernel_rfl) (fun w hm => laws_toWear.calls aW1 w _ aW1_fPins_a aW1.fPins.length aW1_fPins_c (hm.exRow aW1_fPins_h List.not_mem_nil) rfl aW1_fStrokes_a aW1.fStrokes.length aW1_fStrokes_c (hm.exRow aW1_fStrokes_h List.not_mem_nil) rfl ht_44) ?_)
        rintro w v w' hm ⟨o_45, cap_46, sp_47, _, rfl, hs_48, ho_49, o_50, cap_51, sp_52, _, rfl, hs_53, ho_54, rfl, hm'⟩
        refine ⟨_, hm.app hm', jkD (fun w h => h.pick [0, 1, 2] (by kernel_rfl) (by kernel_rfl)) ?_⟩
        clear hm hm'
        obtain ⟨t_6, ht_55, h⟩ := bd h
        refine toD 5 (by kernel_rfl) (p_call 0 12 #[(.agg #[(.int .i64 aV2.fPin), (.int .i64 aV2.fHammer)])] (by kernel_rfl) (by kernel_rfl) (fun w hm => laws_toLives.calls aV2 w _ ht_55) ?_)
        rintro w v w' hm ⟨rfl, hm'⟩
        refine ⟨_, hm.app hm', jkD (fun w h => h.pick [0, 1, 2] (by kernel_rfl) (by kernel_rfl)) ?_⟩
        clear hm hm'
        obtain ⟨t_7, ht_56, h⟩ := bd h
        refine toD 7 (by kernel_rfl) (p_call 0 13 #[(.slice aList3_a aList3.length aList3_c)] (by kernel_rfl) (by kernel_rfl) (fun w hm => laws_toActS.calls aList3 w _ aList3_a aList3.length aList3_c (hm.exRow aList3_h List.not_mem_nil) rfl ht_56) ?_)
        rintro w v w' hm ⟨o_57, cap_58, sp_59, _, rfl, hs_60, ho_61, rfl, hm'⟩
        refine ⟨_, hm.app hm', jkD (fun w h => h.pick [0, 1, 2] (by kernel_rfl) (by kernel_rfl)) ?_⟩
        clear hm hm'
        obtain ⟨t_8, ht_62, h⟩ := bd h
        refine toD 8 (by kernel_rfl) (p_call 0 22 #[(.agg #[(.int .i16 t_4.fSteps), (.slice (o_39.map fun b => ⟨b, 0, none⟩) t_4.fHammers.length cap_40)]), (.agg #[(.slice (o_45.map fun b => ⟨b, 0, none⟩) t_5.fPins.length cap_46), (.slice (o_50.map fun b => ⟨b, 0, none⟩) t_5.fStrokes.length cap_51)]), (.agg #[(.int .i64 t_6.fPin), (.int .i64 t_6.fHammer)]), (.slice (o_57.map fun b => ⟨b, 0, none⟩) t_7.length cap_58)] (by kernel_rfl) (by kernel_rfl) (fun w hm => spec_FirstBreak.calls t_4 t_5 t_6 t_7 w _ (o_39.map fun b => ⟨b, 0, none⟩) t_4.fHammers.length cap_40 (hm.ownRow (hh := 3) (o := o_39) (T := 137) (enc := encGHammer) (xs := t_4.fHammers) (sp := sp_41) (by kernel_rfl) (fun e => (ho_43 e).1) encGHammer_len) rfl (o_45.map fun b => ⟨b, 0, none⟩) t_5.fPins.length cap_46 (hm.ownRow (hh := 4) (o := o_45) (T := 75) (enc := encGWornPin) (xs := t_5.fPins) (sp := sp_47) (by kernel_rfl) (fun e => (ho_49 e).1) encGWornPin_len) rfl (o_50.map fun b => ⟨b, 0, none⟩) t_5.fStrokes.length cap_51 (hm.ownRow (hh := 5) (o := o_50) (T := 2) (enc := encI64) (xs := t_5.fStrokes) (sp := sp_52) (by kernel_rfl) (fun e => (ho_54 e).1) encI64_len) rfl (o_57.map fun b => ⟨b, 0, none⟩) t_7.length cap_58 (hm.ownRow (hh := 6) (o := o_57) (T := 89) (enc := encGAct) (xs := t_7) (sp := sp_59) (by kernel_rfl) (fun e => (ho_61 e).1) encGAct_len) rfl ht_62) ?_)
        rintro w v w' hm ⟨rfl, hm'⟩
        refine ⟨_, hm.app hm', jkD (fun w h => h.pick [0, 1, 2] (by kernel_rfl) (by kernel_rfl)) ?_⟩
        clear hm hm'
        refine jd_f [⟨9, 0, 0⟩, ⟨10, 0, 0⟩, ⟨11, 0, 0⟩, ⟨12, 0, 0⟩, ⟨13, 0, 0⟩] 0 (by kernel_rfl) (by kernel_rfl) (fun w h => h.pick [0, 1, 2] (by kernel_rfl) (by kernel_rfl)) (by kernel_rfl) (by kernel_rfl) ?_
        refine jd_end (by kernel_rfl) ?_
        refine jx_then ?_
        refine jc_seq ?_
        refine jc_region ?_
        refine jo_f [(0, 0)] (by kernel_rfl) ?_
        obtain ⟨t_9, ht_63, h⟩ := bd h
        refine toO (by kernel_rfl) (p_call 0 10 #[(.agg #[(.int .i16 aF0.fSteps), (.slice aF0_fHammers_a aF0.fHammers.length aF0_fHammers_c)])] (by kernel_rfl) (by kernel_rfl) (fun w hm => laws_toFrame.calls aF0 w _ aF0_fHammers_a aF0.fHammers.length aF0_fHammers_c (hm.exRow aF0_fHammers_h List.not_mem_nil) rfl ht_63) ?_)
        rintro w v w' hm ⟨o_64, cap_65, sp_66, _, rfl, hs_67, ho_68, rfl, hm'⟩
        refine ⟨_, hm.app hm', jkO ?_⟩
        clear hm hm'
        refine toO (by kernel_rfl) (p_a 0 [0] (by kernel_rfl) (fun b => by kernel_rfl) (fun b_69 => jkO ?_))
        refine toO (by kernel_rfl) (p_s 0 [8] (by kernel_rfl) (by kernel_rfl) (jkO ?_))
        refine jo_end (by kernel_rfl) ?_
        refine jx_then ?_
        refine jc_seq ?_
        refine jc_region ?_
        refine jo_f [(1, 0)] (by kernel_rfl) ?_
        obtain ⟨t_10, ht_70, h⟩ := bd h
        refine toO (by kernel_rfl) (p_call 0 11 #[(.agg #[(.slice aW1_fPins_a aW1.fPins.length aW1_fPins_c), (.slice aW1_fStrokes_a aW1.fStrokes.length aW1_fStrokes_c)])] (by kernel_rfl) (by kernel_rfl) (fun w hm => laws_toWear.calls aW1 w _ aW1_fPins_a aW1.fPins.length aW1_fPins_c (hm.exRow aW1_fPins_h List.not_mem_nil) rfl aW1_fStrokes_a aW1.fStrokes.length aW1_fStrokes_c (hm.exRow aW1_fStrokes_h List.not_mem_nil) rfl ht_70) ?_)
        rintro w v w' hm ⟨o_71, cap_72, sp_73, _, rfl, hs_74, ho_75, o_76, cap_77, sp_78, _, rfl, hs_79, ho_80, rfl, hm'⟩
        refine ⟨_, hm.app hm', jkO ?_⟩
        clear hm hm'
        refine toO (by kernel_rfl) (p_a 0 [0] (by kernel_rfl) (fun b => by kernel_rfl) (fun b_81 => jkO ?_))
        refine toO (by kernel_rfl) (p_s 0 [11] (by kernel_rfl) (by kernel_rfl) (jkO ?_))
        refine jo_end (by kernel_rfl) ?_
        refine jx_then ?_
        refine jc_seq ?_
        refine jc_region ?_
        refine jo_f [(0, 0)] (by kernel_rfl) ?_
        obtain ⟨t_11, ht_82, h⟩ := bd h
        refine toO (by kernel_rfl) (p_call 0 13 #[(.slice aList3_a aList3.length aList3_c)] (by kernel_rfl) (by kernel_rfl) (fun w hm => laws_toActS.calls aList3 w _ aList3_a aList3.length aList3_c (hm.exRow aList3_h List.not_mem_nil) rfl ht_82) ?_)
        rintro w v w' hm ⟨o_83, cap_84, sp_85, _, rfl, hs_86, ho_87, rfl, hm'⟩
        refine ⟨_, hm.app hm', jkO ?_⟩
        clear hm hm'
        refine jo_f [(0, 0)] (by kernel_rfl) ?_
        refine jo_end (by kernel_rfl) ?_
        refine jx_then ?_
        refine jc_seq ?_
        refine jc_draw [⟨some b_1, 25, [(.int .i16 aF0.fSteps), (.slice aF0_fHammers_a aF0.fHammers.length aF0_fHammers_c)]⟩, ⟨some b_2, 29, [(.slice aW1_fPins_a aW1.fPins.length aW1_fPins_c), (.slice aW1_fStrokes_a aW1.fStrokes.length aW1_fStrokes_c)]⟩, ⟨some b_3, 31, [(.int .i64 aV2.fPin), (.int .i64 aV2.fHammer)]⟩, ⟨o_39, 137, row encGHammer t_4.fHammers sp_41⟩, ⟨o_45, 75, row encGWornPin t_5.fPins sp_47⟩, ⟨o_50, 2, row encI64 t_5.fStrokes sp_52⟩, ⟨o_57, 89, row encGAct t_7 sp_59⟩, ⟨o_64, 137, row encGHammer t_9.fHammers sp_66⟩, ⟨some b_69, 43, [(.int .i16 t_9.fSteps), (.slice (o_64.map fun b => ⟨b, 0, none⟩) t_9.fHammers.length cap_65)]⟩, ⟨o_71, 75, row encGWornPin t_10.fPins sp_73⟩, ⟨o_76, 2, row encI64 t_10.fStrokes sp_78⟩, ⟨some b_81, 38, [(.slice (o_71.map fun b => ⟨b, 0, none⟩) t_10.fPins.length cap_72), (.slice (o_76.map fun b => ⟨b, 0, none⟩) t_10.fStrokes.length cap_77)]⟩, ⟨o_83, 89, row encGAct t_11 sp_85⟩] 11 (by kernel_rfl) (by kernel_rfl) ?_
        refine jd_f [⟨0, 8, 0⟩, ⟨1, 11, 0⟩, ⟨2, 2, 0⟩, ⟨4, 0, 0⟩] 7 (by kernel_rfl) (by kernel_rfl) (fun w h => h.pick [0, 1, 2, 3, 4, 5, 6, 7, 8, 9, 10, 11, 12] (by kernel_rfl) (by kernel_rfl)) (by kernel_rfl) (by kernel_rfl) ?_
        obtain ⟨t_12, ht_90, h⟩ := bd h
        refine toD 3 (by kernel_rfl) (p_call 0 12 #[(.agg #[(.int .i64 aV2.fPin), (.int .i64 aV2.fHammer)])] (by kernel_rfl) (by kernel_rfl) (fun w hm => laws_toLives.calls aV2 w _ ht_90) ?_)
        rintro w v w' hm ⟨rfl, hm'⟩
        refine ⟨_, hm.app hm', jkD (fun w h => h.pick [0, 1, 2, 3, 4, 5, 6, 7, 8, 9, 10, 11, 12] (by kernel_rfl) (by kernel_rfl)) ?_⟩
        clear hm hm'
        obtain ⟨t_13, ht_91, h⟩ := bd h
        refine toD 5 (by kernel_rfl) (p_call 0 23 #[(.agg #[(.int .i16 t_9.fSteps), (.slice (o_64.map fun b => ⟨b, 0, none⟩) t_9.fHammers.length cap_65)]), (.agg #[(.slice (o_71.map fun b => ⟨b, 0, none⟩) t_10.fPins.length cap_72), (.slice (o_76.map fun b => ⟨b, 0, none⟩) t_10.fStrokes.length cap_77)]), (.agg #[(.int .i64 t_12.fPin), (.int .i64 t_12.fHammer)]), (.slice (o_83.map fun b => ⟨b, 0, none⟩) t_11.length cap_84)] (by kernel_rfl) (by kernel_rfl) (fun w hm => impl_FirstBreak.calls t_9 t_10 t_12 t_11 w _ (o_64.map fun b => ⟨b, 0, none⟩) t_9.fHammers.length cap_65 (hm.ownRow (hh := 7) (o := o_64) (T := 137) (enc := encGHammer) (xs := t_9.fHammers) (sp := sp_66) (by kernel_rfl) (fun e => (ho_68 e).1) encGHammer_len) rfl (o_71.map fun b => ⟨b, 0, none⟩) t_10.fPins.length cap_72 (hm.ownRow (hh := 9) (o := o_71) (T := 75) (enc := encGWornPin) (xs := t_10.fPins) (sp := sp_73) (by kernel_rfl) (fun e => (ho_75 e).1) encGWornPin_len) rfl (o_76.map fun b => ⟨b, 0, none⟩) t_10.fStrokes.length cap_77 (hm.ownRow (hh := 10) (o := o_76) (T := 2) (enc := encI64) (xs := t_10.fStrokes) (sp := sp_78) (by kernel_rfl) (fun e => (ho_80 e).1) encI64_len) rfl (o_83.map fun b => ⟨b, 0, none⟩) t_11.length cap_84 (hm.ownRow (hh := 12) (o := o_83) (T := 89) (enc := encGAct) (xs := t_11) (sp := sp_85) (by kernel_rfl) (fun e => (ho_87 e).1) encGAct_len) rfl ht_91) ?_)
        rintro w v w' hm ⟨rfl, hm'⟩
        refine ⟨_, hm.app hm', jkD (fun w h => h.pick [0, 1, 2, 3, 4, 5, 6, 7, 8, 9, 10, 11, 12] (by kernel_rfl) (by kernel_rfl)) ?_⟩
        clear hm hm'
        refine jd_f [⟨6, 0, 0⟩, ⟨7, 0, 0⟩, ⟨8, 0, 0⟩, ⟨9, 0, 0⟩, ⟨10, 0, 0⟩] 0 (by kernel_rfl) (by kernel_rfl) (fun w h => h.pick [0, 1, 2, 3, 4, 5, 6, 7, 8, 9, 10, 11, 12] (by kernel_rfl) (by kernel_rfl)) (by kernel_rfl) (by kernel_rfl) ?_
        refine jd_end (by kernel_rfl) ?_
        refine jx_then ?_
        refine jc_seq ?_
        refine jc_seq ?_
        refine jc_region ?_
        refine jo_f [(0, 0), (0, 0), (0, 0), (0, 0), (0, 1), (0, 1), (0, 1), (0, 0)] (by kernel_rfl) ?_
        refine jo_end (by kernel_rfl) ?_
        refine jx_then ?_
        refine jc_cond ((t_13.1 != t_8.1) || (t_13.2 != t_8.2)) (by kernel_rfl) (fun hc_93 => ?_) (fun hc_93 => ?_)
        · replace h := ifT hc_93 h
          refine jc_seq ?_
          refine jc_region ?_
          refine jo_f [(0, 0)] (by kernel_rfl) ?_
          refine jo_end (by kernel_rfl) ?_
          refine jx_then ?_
          refine jc_ret ?_
          refine jx_thenr ?_
          obtain rfl := Option.some.inj h
          exact jx_ret [] (.bool false) [] rfl (by kernel_rfl) (by kernel_rfl) (fun w hm => ⟨rfl, hm.pick [] (by kernel_rfl) (by kernel_rfl)⟩)
        · replace h := ifF hc_93 h
          refine jc_skip ?_
          refine jx_then ?_
          refine jc_seq ?_
          refine jc_seq ?_
          refine jc_draw [⟨some b_1, 25, [(.int .i16 aF0.fSteps), (.slice aF0_fHammers_a aF0.fHammers.length aF0_fHammers_c)]⟩, ⟨some b_2, 29, [(.slice aW1_fPins_a aW1.fPins.length aW1_fPins_c), (.slice aW1_fStrokes_a aW1.fStrokes.length aW1_fStrokes_c)]⟩, ⟨some b_3, 31, [(.int .i64 aV2.fPin), (.int .i64 aV2.fHammer)]⟩, ⟨o_39, 137, row encGHammer t_4.fHammers sp_41⟩, ⟨o_45, 75, row encGWornPin t_5.fPins sp_47⟩, ⟨o_50, 2, row encI64 t_5.fStrokes sp_52⟩, ⟨o_57, 89, row encGAct t_7 sp_59⟩, ⟨o_64, 137, row encGHammer t_9.fHammers sp_66⟩, ⟨some b_69, 43, [(.int .i16 t_9.fSteps), (.slice (o_64.map fun b => ⟨b, 0, none⟩) t_9.fHammers.length cap_65)]⟩, ⟨o_71, 75, row encGWornPin t_10.fPins sp_73⟩, ⟨o_76, 2, row encI64 t_10.fStrokes sp_78⟩, ⟨some b_81, 38, [(.slice (o_71.map fun b => ⟨b, 0, none⟩) t_10.fPins.length cap_72), (.slice (o_76.map fun b => ⟨b, 0, none⟩) t_10.fStrokes.length cap_77)]⟩, ⟨o_83, 89, row encGAct t_11 sp_85⟩] 5 (by kernel_rfl) (by kernel_rfl) ?_
          refine jd_f [⟨0, 8, 0⟩, ⟨1, 0, 0⟩] 3 (by kernel_rfl) (by kernel_rfl) (fun w h => h.pick [0, 1, 2, 3, 4, 5, 6, 7, 8, 9, 10, 11, 12] (by kernel_rfl) (by kernel_rfl)) (by kernel_rfl) (by kernel_rfl) ?_
          obtain ⟨t_14, ht_116, h⟩ := bd h
          refine toD 2 (by kernel_rfl) (p_call 0 10 #[(.agg #[(.int .i16 aF0.fSteps), (.slice aF0_fHammers_a aF0.fHammers.length aF0_fHammers_c)])] (by kernel_rfl) (by kernel_rfl) (fun w hm => laws_toFrame.calls aF0 w _ aF0_fHammers_a aF0.fHammers.length aF0_fHammers_c (hm.exRow aF0_fHammers_h List.not_mem_nil) rfl ht_116) ?_)
          rintro w v w' hm ⟨o_117, cap_118, sp_119, _, rfl, hs_120, ho_121, rfl, hm'⟩
          refine ⟨_, hm.app hm', jkD (fun w h => h.pick [0, 1, 2, 3, 4, 5, 6, 7, 8, 9, 10, 11, 12] (by kernel_rfl) (by kernel_rfl)) ?_⟩
          clear hm hm'
          obtain ⟨t_15, ht_122, h⟩ := bd h
          refine toD 3 (by kernel_rfl) (p_call 0 16 #[(.agg #[(.int .i16 t_9.fSteps), (.slice (o_64.map fun b => ⟨b, 0, none⟩) t_9.fHammers.length cap_65)]), (.agg #[(.int .i16 t_14.fSteps), (.slice (o_117.map fun b => ⟨b, 0, none⟩) t_14.fHammers.length cap_118)])] (by kernel_rfl) (by kernel_rfl) (fun w hm => laws_eqFrame.calls t_9 t_14 w _ (o_64.map fun b => ⟨b, 0, none⟩) t_9.fHammers.length cap_65 (hm.ownRow (hh := 7) (o := o_64) (T := 137) (enc := encGHammer) (xs := t_9.fHammers) (sp := sp_66) (by kernel_rfl) (fun e => (ho_68 e).1) encGHammer_len) rfl (o_117.map fun b => ⟨b, 0, none⟩) t_14.fHammers.length cap_118 (hm.ownRow (hh := 13) (o := o_117) (T := 137) (enc := encGHammer) (xs := t_14.fHammers) (sp := sp_119) (by kernel_rfl) (fun e => (ho_121 e).1) encGHammer_len) rfl ht_122) ?_)
          rintro w v w' hm ⟨rfl, hm'⟩
          refine ⟨_, hm.app hm', jkD (fun w h => h.pick [0, 1, 2, 3, 4, 5, 6, 7, 8, 9, 10, 11, 12] (by kernel_rfl) (by kernel_rfl)) ?_⟩
          clear hm hm'
          refine jd_f [⟨4, 0, 0⟩] 0 (by kernel_rfl) (by kernel_rfl) (fun w h => h.pick [0, 1, 2, 3, 4, 5, 6, 7, 8, 9, 10, 11, 12] (by kernel_rfl) (by kernel_rfl)) (by kernel_rfl) (by kernel_rfl) ?_
          refine jd_end (by kernel_rfl) ?_
          refine jx_then ?_
          refine jc_cond (!t_15) (by kernel_rfl) (fun hc_123 => ?_) (fun hc_123 => ?_)
          · replace h := ifT hc_123 h
            refine jc_seq ?_
            refine jc_region ?_
            refine jo_f [(0, 0)] (by kernel_rfl) ?_
            refine jo_end (by kernel_rfl) ?_
            refine jx_then ?_
            refine jc_ret ?_
            refine jx_thenr ?_
            obtain rfl := Option.some.inj h
            exact jx_ret [] (.bool false) [] rfl (by kernel_rfl) (by kernel_rfl) (fun w hm => ⟨rfl, hm.pick [] (by kernel_rfl) (by kernel_rfl)⟩)
          · replace h := ifF hc_123 h
            refine jc_skip ?_
            refine jx_then ?_
            refine jc_seq ?_
            refine jc_seq ?_
            refine jc_draw [⟨some b_1, 25, [(.int .i16 aF0.fSteps), (.slice aF0_fHammers_a aF0.fHammers.length aF0_fHammers_c)]⟩, ⟨some b_2, 29, [(.slice aW1_fPins_a aW1.fPins.length aW1_fPins_c), (.slice aW1_fStrokes_a aW1.fStrokes.length aW1_fStrokes_c)]⟩, ⟨some b_3, 31, [(.int .i64 aV2.fPin), (.int .i64 aV2.fHammer)]⟩, ⟨o_39, 137, row encGHammer t_4.fHammers sp_41⟩, ⟨o_45, 75, row encGWornPin t_5.fPins sp_47⟩, ⟨o_50, 2, row encI64 t_5.fStrokes sp_52⟩, ⟨o_57, 89, row encGAct t_7 sp_59⟩, ⟨o_64, 137, row encGHammer t_9.fHammers sp_66⟩, ⟨some b_69, 43, [(.int .i16 t_9.fSteps), (.slice (o_64.map fun b => ⟨b, 0, none⟩) t_9.fHammers.length cap_65)]⟩, ⟨o_71, 75, row encGWornPin t_10.fPins sp_73⟩, ⟨o_76, 2, row encI64 t_10.fStrokes sp_78⟩, ⟨some b_81, 38, [(.slice (o_71.map fun b => ⟨b, 0, none⟩) t_10.fPins.length cap_72), (.slice (o_76.map fun b => ⟨b, 0, none⟩) t_10.fStrokes.length cap_77)]⟩, ⟨o_83, 89, row encGAct t_11 sp_85⟩, ⟨o_117, 137, row encGHammer t_14.fHammers sp_119⟩] 5 (by kernel_rfl) (by kernel_rfl) ?_
            refine jd_f [⟨0, 11, 0⟩, ⟨1, 1, 0⟩] 3 (by kernel_rfl) (by kernel_rfl) (fun w h => h.pick [0, 1, 2, 3, 4, 5, 6, 7, 8, 9, 10, 11, 12, 13] (by kernel_rfl) (by kernel_rfl)) (by kernel_rfl) (by kernel_rfl) ?_
            obtain ⟨t_16, ht_161, h⟩ := bd h
            refine toD 2 (by kernel_rfl) (p_call 0 11 #[(.agg #[(.slice aW1_fPins_a aW1.fPins.length aW1_fPins_c), (.slice aW1_fStrokes_a aW1.fStrokes.length aW1_fStrokes_c)])] (by kernel_rfl) (by kernel_rfl) (fun w hm => laws_toWear.calls aW1 w _ aW1_fPins_a aW1.fPins.length aW1_fPins_c (hm.exRow aW1_fPins_h List.not_mem_nil) rfl aW1_fStrokes_a aW1.fStrokes.length aW1_fStrokes_c (hm.exRow aW1_fStrokes_h List.not_mem_nil) rfl ht_161) ?_)
            rintro w v w' hm ⟨o_162, cap_163, sp_164, _, rfl, hs_165, ho_166, o_167, cap_168, sp_169, _, rfl, hs_170, ho_171, rfl, hm'⟩
            refine ⟨_, hm.app hm', jkD (fun w h => h.pick [0, 1, 2, 3, 4, 5, 6, 7, 8, 9, 10, 11, 12, 13] (by kernel_rfl) (by kernel_rfl)) ?_⟩
            clear hm hm'
            obtain ⟨t_17, ht_172, h⟩ := bd h
            refine toD 3 (by kernel_rfl) (p_call 0 15 #[(.agg #[(.slice (o_71.map fun b => ⟨b, 0, none⟩) t_10.fPins.length cap_72), (.slice (o_76.map fun b => ⟨b, 0, none⟩) t_10.fStrokes.length cap_77)]), (.agg #[(.slice (o_162.map fun b => ⟨b, 0, none⟩) t_16.fPins.length cap_163), (.slice (o_167.map fun b => ⟨b, 0, none⟩) t_16.fStrokes.length cap_168)])] (by kernel_rfl) (by kernel_rfl) (fun w hm => laws_eqWear.calls t_10 t_16 w _ (o_71.map fun b => ⟨b, 0, none⟩) t_10.fPins.length cap_72 (hm.ownRow (hh := 9) (o := o_71) (T := 75) (enc := encGWornPin) (xs := t_10.fPins) (sp := sp_73) (by kernel_rfl) (fun e => (ho_75 e).1) encGWornPin_len) rfl (o_76.map fun b => ⟨b, 0, none⟩) t_10.fStrokes.length cap_77 (hm.ownRow (hh := 10) (o := o_76) (T := 2) (enc := encI64) (xs := t_10.fStrokes) (sp := sp_78) (by kernel_rfl) (fun e => (ho_80 e).1) encI64_len) rfl (o_162.map fun b => ⟨b, 0, none⟩) t_16.fPins.length cap_163 (hm.ownRow (hh := 14) (o := o_162) (T := 75) (enc := encGWornPin) (xs := t_16.fPins) (sp := sp_164) (by kernel_rfl) (fun e => (ho_166 e).1) encGWornPin_len) rfl (o_167.map fun b => ⟨b, 0, none⟩) t_16.fStrokes.length cap_168 (hm.ownRow (hh := 15) (o := o_167) (T := 2) (enc := encI64) (xs := t_16.fStrokes) (sp := sp_169) (by kernel_rfl) (fun e => (ho_171 e).1) encI64_len) rfl ht_172) ?_)
            rintro w v w' hm ⟨rfl, hm'⟩
            refine ⟨_, hm.app hm', jkD (fun w h => h.pick [0, 1, 2, 3, 4, 5, 6, 7, 8, 9, 10, 11, 12, 13] (by kernel_rfl) (by kernel_rfl)) ?_⟩
            clear hm hm'
            refine jd_f [⟨4, 0, 0⟩] 0 (by kernel_rfl) (by kernel_rfl) (fun w h => h.pick [0, 1, 2, 3, 4, 5, 6, 7, 8, 9, 10, 11, 12, 13] (by kernel_rfl) (by kernel_rfl)) (by kernel_rfl) (by kernel_rfl) ?_
            refine jd_end (by kernel_rfl) ?_
            refine jx_then ?_
            refine jc_cond (!t_17) (by kernel_rfl) (fun hc_173 => ?_) (fun hc_173 => ?_)
            · replace h := ifT hc_173 h
              refine jc_seq ?_
              refine jc_region ?_
              refine jo_f [(0, 0)] (by kernel_rfl) ?_
              refine jo_end (by kernel_rfl) ?_
              refine jx_then ?_
              refine jc_ret ?_
              refine jx_thenr ?_
              obtain rfl := Option.some.inj h
              exact jx_ret [] (.bool false) [] rfl (by kernel_rfl) (by kernel_rfl) (fun w hm => ⟨rfl, hm.pick [] (by kernel_rfl) (by kernel_rfl)⟩)
            · replace h := ifF hc_173 h
              refine jc_skip ?_
              refine jx_then ?_
              refine jc_seq ?_
              refine jc_seq ?_
              refine jc_region ?_
              refine jo_f [(0, 0), (0, 0)] (by kernel_rfl) ?_
              obtain ⟨t_18, ht_174, h⟩ := bd h
              refine toO (by kernel_rfl) (p_call 0 13 #[(.slice aList3_a aList3.length aList3_c)] (by kernel_rfl) (by kernel_rfl) (fun w hm => laws_toActS.calls aList3 w _ aList3_a aList3.length aList3_c (hm.exRow aList3_h List.not_mem_nil) rfl ht_174) ?_)
              rintro w v w' hm ⟨o_175, cap_176, sp_177, _, rfl, hs_178, ho_179, rfl, hm'⟩
              refine ⟨_, hm.app hm', jkO ?_⟩
              clear hm hm'
              obtain ⟨t_19, ht_180, h⟩ := bd h
              refine toO (by kernel_rfl) (p_call 0 17 #[(.slice (o_83.map fun b => ⟨b, 0, none⟩) t_11.length cap_84), (.slice (o_175.map fun b => ⟨b, 0, none⟩) t_18.length cap_176)] (by kernel_rfl) (by kernel_rfl) (fun w hm => laws_eqActS.calls t_11 t_18 w _ (o_83.map fun b => ⟨b, 0, none⟩) t_11.length cap_84 (hm.ownRow (hh := 12) (o := o_83) (T := 89) (enc := encGAct) (xs := t_11) (sp := sp_85) (by kernel_rfl) (fun e => (ho_87 e).1) encGAct_len) rfl (o_175.map fun b => ⟨b, 0, none⟩) t_18.length cap_176 (hm.ownRow (hh := 16) (o := o_175) (T := 89) (enc := encGAct) (xs := t_18) (sp := sp_177) (by kernel_rfl) (fun e => (ho_179 e).1) encGAct_len) rfl ht_180) ?_)
              rintro w v w' hm ⟨rfl, hm'⟩
              refine ⟨_, hm.app hm', jkO ?_⟩
              clear hm hm'
              refine jo_f [(0, 0)] (by kernel_rfl) ?_
              refine jo_end (by kernel_rfl) ?_
              refine jx_then ?_
              refine jc_cond (!t_19) (by kernel_rfl) (fun hc_181 => ?_) (fun hc_181 => ?_)
              · replace h := ifT hc_181 h
                refine jc_seq ?_
                refine jc_region ?_
                refine jo_f [(0, 0)] (by kernel_rfl) ?_
                refine jo_end (by kernel_rfl) ?_
                refine jx_then ?_
                refine jc_ret ?_
                refine jx_thenr ?_
                obtain rfl := Option.some.inj h
                exact jx_ret [] (.bool false) [] rfl (by kernel_rfl) (by kernel_rfl) (fun w hm => ⟨rfl, hm.pick [] (by kernel_rfl) (by kernel_rfl)⟩)
              · replace h := ifF hc_181 h
                refine jc_skip ?_
                refine jx_then ?_
                refine jc_seq ?_
                refine jc_region ?_
                refine jo_f [(0, 0)] (by kernel_rfl) ?_
                refine jo_end (by kernel_rfl) ?_
                refine jx_then ?_
                refine jc_ret ?_
                obtain rfl := Option.some.inj h
                exact jx_ret [] (.bool true) [] rfl (by kernel_rfl) (by kernel_rfl) (fun w hm => ⟨rfl, hm.pick [] (by kernel_rfl) (by kernel_rfl)⟩)
end Go.Proofs.YtfkjghkjimcmdaaGreat
