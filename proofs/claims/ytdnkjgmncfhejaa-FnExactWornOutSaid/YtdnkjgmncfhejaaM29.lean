/- Functions of the program that the laws reach: a plain function each, and that the call comes to its answer if the plain function has one. Printed by a program. -/
import Derived.Test.YtdnkjgmncfhejaaT
import Derived.Test.YtdnkjgmncfhejaaM0
import Derived.Test.YtdnkjgmncfhejaaM1
import Derived.Test.YtdnkjgmncfhejaaM3
import Derived.Test.YtdnkjgmncfhejaaM6
import Derived.Test.YtdnkjgmncfhejaaM7
import Derived.Test.YtdnkjgmncfhejaaM9
import Derived.Test.YtdnkjgmncfhejaaM11
import Derived.Test.YtdnkjgmncfhejaaM14
namespace Go.Proofs.Ytdnkjgmncfhejaa
open Eng
set_option linter.unusedVariables false

/-! ### spec.WornOut -/
noncomputable def spec_WornOut (f0 : GFrame) (w1 : GWear) (v2 : GLives) : Option ((List GWornPin) × (List Int) × Int) := (spec_l06Lived f0 w1 v2).bind fun t_1 => (if (t_1 != 0) = true then some (([] : List GWornPin), ([] : List Int), t_1) else (spec_l06Worn w1 v2).bind fun t_2 => some (t_2.1, t_2.2, 0))
set_option maxRecDepth 100000 in
theorem spec_WornOut.calls (f0 : GFrame) (w1 : GWear) (v2 : GLives) (w : World) (r : (List GWornPin) × (List Int) × Int) (f0_fHammers_a : Option Addr) (f0_fHammers_an : Nat) (f0_fHammers_c : Nat) (f0_fHammers_h : Rw w f0_fHammers_a 2 encGHammer f0.fHammers) (f0_fHammers_hn : f0.fHammers.length = f0_fHammers_an) (w1_fPins_a : Option Addr) (w1_fPins_an : Nat) (w1_fPins_c : Nat) (w1_fPins_h : Rw w w1_fPins_a 3 encGWornPin w1.fPins) (w1_fPins_hn : w1.fPins.length = w1_fPins_an) (w1_fStrokes_a : Option Addr) (w1_fStrokes_an : Nat) (w1_fStrokes_c : Nat) (w1_fStrokes_h : Rw w w1_fStrokes_a 1 encI64 w1.fStrokes) (w1_fStrokes_hn : w1.fStrokes.length = w1_fStrokes_an) (h : spec_WornOut f0 w1 v2 = some r) :
    Calls Try.prog 60 #[(.agg #[(.int .i16 f0.fSteps), (.slice f0_fHammers_a f0_fHammers_an f0_fHammers_c)]), (.agg #[(.slice w1_fPins_a w1_fPins_an w1_fPins_c), (.slice w1_fStrokes_a w1_fStrokes_an w1_fStrokes_c)]), (.agg #[(.int .i64 v2.fPin), (.int .i64 v2.fHammer)])] w fun e w' => ∃ v, e = .returned v ∧ (∃ (o0 : Option Nat) (c0 : Nat) (s0 : List Value) (n0 : Nat), r.1.length = n0 ∧ (o0 ≠ none → n0 ≤ c0 ∧ s0.length = (c0 - n0) * 3) ∧ (o0 = none → r.1 = [] ∧ c0 = 0) ∧ ∃ (o1 : Option Nat) (c1 : Nat) (s1 : List Value) (n1 : Nat), r.2.1.length = n1 ∧ (o1 ≠ none → n1 ≤ c1 ∧ s1.length = (c1 - n1) * 1) ∧ (o1 = none → r.2.1 = [] ∧ c1 = 0) ∧ v = .tuple #[.slice (o0.map fun b => ⟨b, 0, none⟩) n0 c0, .slice (o1.map fun b => ⟨b, 0, none⟩) n1 c1, (.int .i64 r.2.2)] ∧ Mem w [] [⟨o0, 124, row encGWornPin r.1 s0⟩, ⟨o1, 2, row encI64 r.2.1 s1⟩] w') := by
  subst f0_fHammers_hn w1_fPins_hn w1_fStrokes_hn
  rw [spec_WornOut] at h
  refine enter (args := [(.agg #[(.int .i16 f0.fSteps), (.slice f0_fHammers_a f0.fHammers.length f0_fHammers_c)]), (.agg #[(.slice w1_fPins_a w1.fPins.length w1_fPins_c), (.slice w1_fStrokes_a w1.fStrokes.length w1_fStrokes_c)]), (.agg #[(.int .i64 v2.fPin), (.int .i64 v2.fHammer)])]) Try.func60 rfl Try.ntmps60 (by kernel_rfl) (L := []) (W := []) (Mem.start w) ?_
  refine jc_seq ?_
  refine jc_region ?_
  refine toO (by kernel_rfl) (p_a 0 [0] (by kernel_rfl) (fun b => by kernel_rfl) (fun b_1 => jkO ?_))
  refine toO (by kernel_rfl) (p_a 0 [0] (by kernel_rfl) (fun b => by kernel_rfl) (fun b_2 => jkO ?_))
  refine toO (by kernel_rfl) (p_a 0 [0] (by kernel_rfl) (fun b => by kernel_rfl) (fun b_3 => jkO ?_))
  refine jo_f [(0, 0), (0, 0), (0, 0)] (by kernel_rfl) ?_
  refine jo_end (by kernel_rfl) ?_
  refine jx_then ?_
  refine jc_seq ?_
  refine jc_seq ?_
  refine jc_region ?_
  refine jo_f [(2, 0)] (by kernel_rfl) ?_
  obtain ⟨t_1, ht_8, h⟩ := bd h
  refine toO (by kernel_rfl) (p_call 0 118 #[(.pointer (some ⟨b_1, 0, none⟩)), (.pointer (some ⟨b_2, 0, none⟩)), (.agg #[(.int .i64 v2.fPin), (.int .i64 v2.fHammer)])] (by kernel_rfl) (by kernel_rfl) (fun w hm => spec_l06Lived.calls f0 w1 v2 w _ f0_fHammers_a f0.fHammers.length f0_fHammers_c (hm.exRow f0_fHammers_h List.not_mem_nil) rfl w1_fPins_a w1.fPins.length w1_fPins_c (hm.exRow w1_fPins_h List.not_mem_nil) rfl w1_fStrokes_a w1.fStrokes.length w1_fStrokes_c (hm.exRow w1_fStrokes_h List.not_mem_nil) rfl b_1 b_2 (hm.pass (N := [⟨some b_1, 35, [(.int .i16 f0.fSteps), (.slice f0_fHammers_a f0.fHammers.length f0_fHammers_c)]⟩, ⟨some b_2, 52, [(.slice w1_fPins_a w1.fPins.length w1_fPins_c), (.slice w1_fStrokes_a w1.fStrokes.length w1_fStrokes_c)]⟩]) [0, 1] (by kernel_rfl) (by kernel_rfl)) (hm.exApart (N := [⟨some b_1, 35, [(.int .i16 f0.fSteps), (.slice f0_fHammers_a f0.fHammers.length f0_fHammers_c)]⟩, ⟨some b_2, 52, [(.slice w1_fPins_a w1.fPins.length w1_fPins_c), (.slice w1_fStrokes_a w1.fStrokes.length w1_fStrokes_c)]⟩]) f0_fHammers_h (fun _ => List.not_mem_nil) [0, 1] (by kernel_rfl)) (hm.exApart (N := [⟨some b_1, 35, [(.int .i16 f0.fSteps), (.slice f0_fHammers_a f0.fHammers.length f0_fHammers_c)]⟩, ⟨some b_2, 52, [(.slice w1_fPins_a w1.fPins.length w1_fPins_c), (.slice w1_fStrokes_a w1.fStrokes.length w1_fStrokes_c)]⟩]) w1_fPins_h (fun _ => List.not_mem_nil) [0, 1] (by kernel_rfl)) (hm.exApart (N := [⟨some b_1, 35, [(.int .i16 f0.fSteps), (.slice f0_fHammers_a f0.fHammers.length f0_fHammers_c)]⟩, ⟨some b_2, 52, [(.slice w1_fPins_a w1.fPins.length w1_fPins_c), (.slice w1_fStrokes_a w1.fStrokes.length w1_fStrokes_c)]⟩]) w1_fStrokes_h (fun _ => List.not_mem_nil) [0, 1] (by kernel_rfl)) ht_8) ?_)
  rintro w v w' hm ⟨rfl, hm'⟩
  refine ⟨_, hm.appW (ps := [(0, ⟨some b_1, 35, [(.int .i16 f0.fSteps), (.slice f0_fHammers_a f0.fHammers.length f0_fHammers_c)]⟩), (1, ⟨some b_2, 52, [(.slice w1_fPins_a w1.fPins.length w1_fPins_c), (.slice w1_fStrokes_a w1.fStrokes.length w1_fStrokes_c)]⟩)]) (N := []) hm' (by kernel_rfl) (by kernel_rfl), jkO ?_⟩
  clear hm hm'
  refine jo_f [(0, 0)] (by kernel_rfl) ?_
  refine jo_end (by kernel_rfl) ?_
  refine jx_then ?_
  refine jc_seq ?_
  refine jc_region ?_
  refine jo_f [(0, 0), (0, 0)] (by kernel_rfl) ?_
  refine jo_end (by kernel_rfl) ?_
  refine jx_then ?_
  refine jc_cond (t_1 != 0) (by kernel_rfl) (fun hc_9 => ?_) (fun hc_9 => ?_)
  · replace h := ifT hc_9 h
    refine jc_seq ?_
    refine jc_region ?_
    refine toO (by kernel_rfl) (p_a 0 [0] (by kernel_rfl) (fun b => by kernel_rfl) (fun b_10 => jkO ?_))
    refine toO (by kernel_rfl) (p_a 0 [0] (by kernel_rfl) (fun b => by kernel_rfl) (fun b_11 => jkO ?_))
    refine jo_f [(0, 0), (0, 0), (0, 0), (0, 0)] (by kernel_rfl) ?_
    refine jo_end (by kernel_rfl) ?_
    refine jx_then ?_
    refine jc_ret ?_
    refine jx_thenr ?_
    obtain rfl := Option.some.inj h
    exact jx_ret [] (.tuple #[(.slice (some ⟨b_10, 0, none⟩) 0 0), (.slice (some ⟨b_11, 0, none⟩) 0 0), (.int .i64 t_1)]) [] rfl (by kernel_rfl) (by kernel_rfl) (fun w hm => ⟨(some b_10), 0, [], 0, rfl, (fun _ => ⟨Nat.le_refl _, by simp⟩), (fun e => nomatch e), (some b_11), 0, [], 0, rfl, (fun _ => ⟨Nat.le_refl _, by simp⟩), (fun e => nomatch e), rfl, hm.pick [3, 4] (by kernel_rfl) (by kernel_rfl)⟩)
  · replace h := ifF hc_9 h
    refine jc_skip ?_
    refine jx_then ?_
    refine jc_seq ?_
    refine jc_region ?_
    refine jo_f [(2, 0)] (by kernel_rfl) ?_
    obtain ⟨t_2, ht_12, h⟩ := bd h
    refine toO (by kernel_rfl) (p_call 0 125 #[(.pointer (some ⟨b_2, 0, none⟩)), (.agg #[(.int .i64 v2.fPin), (.int .i64 v2.fHammer)])] (by kernel_rfl) (by kernel_rfl) (fun w hm => spec_l06Worn.calls w1 v2 w _ w1_fPins_a w1.fPins.length w1_fPins_c (hm.exRow w1_fPins_h List.not_mem_nil) rfl w1_fStrokes_a w1.fStrokes.length w1_fStrokes_c (hm.exRow w1_fStrokes_h List.not_mem_nil) rfl b_2 (hm.pass (N := [⟨some b_2, 52, [(.slice w1_fPins_a w1.fPins.length w1_fPins_c), (.slice w1_fStrokes_a w1.fStrokes.length w1_fStrokes_c)]⟩]) [1] (by kernel_rfl) (by kernel_rfl)) (hm.exApart (N := [⟨some b_2, 52, [(.slice w1_fPins_a w1.fPins.length w1_fPins_c), (.slice w1_fStrokes_a w1.fStrokes.length w1_fStrokes_c)]⟩]) w1_fPins_h (fun _ => List.not_mem_nil) [1] (by kernel_rfl)) (hm.exApart (N := [⟨some b_2, 52, [(.slice w1_fPins_a w1.fPins.length w1_fPins_c), (.slice w1_fStrokes_a w1.fStrokes.length w1_fStrokes_c)]⟩]) w1_fStrokes_h (fun _ => List.not_mem_nil) [1] (by kernel_rfl)) ht_12) ?_)
    rintro w v w' hm ⟨o_13, cap_14, sp_15, _, rfl, hs_16, ho_17, o_18, cap_19, sp_20, _, rfl, hs_21, ho_22, rfl, hm'⟩
    refine ⟨_, hm.appW (ps := [(1, ⟨some b_2, 52, [(.slice w1_fPins_a w1.fPins.length w1_fPins_c), (.slice w1_fStrokes_a w1.fStrokes.length w1_fStrokes_c)]⟩)]) (N := [⟨o_13, 124, row encGWornPin t_2.1 sp_15⟩, ⟨o_18, 2, row encI64 t_2.2 sp_20⟩]) hm' (by kernel_rfl) (by kernel_rfl), jkO ?_⟩
    clear hm hm'
    refine jo_f [(0, 0), (0, 0), (0, 0), (0, 0), (0, 0)] (by kernel_rfl) ?_
    refine jo_end (by kernel_rfl) ?_
    refine jx_then ?_
    refine jc_seq ?_
    refine jc_region ?_
    refine jo_f [(0, 0), (0, 0), (0, 0), (0, 0), (0, 0)] (by kernel_rfl) ?_
    refine jo_end (by kernel_rfl) ?_
    refine jx_then ?_
    refine jc_ret ?_
    obtain rfl := Option.some.inj h
    exact jx_ret [] (.tuple #[(.slice (o_13.map fun b => ⟨b, 0, none⟩) t_2.1.length cap_14), (.slice (o_18.map fun b => ⟨b, 0, none⟩) t_2.2.length cap_19), (.int .i64 0)]) [] rfl (by kernel_rfl) (by kernel_rfl) (fun w hm => ⟨o_13, cap_14, sp_15, t_2.1.length, rfl, hs_16, ho_17, o_18, cap_19, sp_20, t_2.2.length, rfl, hs_21, ho_22, rfl, hm.pick [3, 4] (by kernel_rfl) (by kernel_rfl)⟩)

/-! ### impl.WornOut -/
noncomputable def impl_WornOut.k_5 (xs_3 : List GWornPin) (xs_4 : List Int) : Option ((List GWornPin) × (List Int) × Int) := some (xs_3, xs_4, 0)
noncomputable def impl_WornOut.k_14 (i_8 : Int) (xs_12 : List GWornPin) (xs_13 : List Int) : Option (((List GWornPin) × (List Int) × Int) ⊕ (((List GWornPin) × (List Int)))) := some (.inl (xs_12, xs_13, (w64 (i_8 + 1))))
noncomputable def impl_WornOut.l_9 (t_2 : (List Gpart)) : ((List GWornPin) × (List Int) × Int) → Option (((List GWornPin) × (List Int) × Int) ⊕ (((List GWornPin) × (List Int))))
  | (xs_6, xs_7, i_8) => (if (decide (i_8 < (t_2.length : Int))) = true then (ix t_2 i_8).bind fun x_11 => (impl_part_isWorn x_11).bind fun t_15 => (if (!t_15) = true then impl_WornOut.k_14 i_8 xs_6 xs_7 else (if (decide (x_11.fstep < 0)) = true then (if xs_7.length + [x_11.ftrack].length ≤ 4294967296 then impl_WornOut.k_14 i_8 xs_6 (xs_7 ++ [x_11.ftrack]) else none) else (if xs_6.length + [(⟨(w8 x_11.fstep), (w8 x_11.ftrack), x_11.fmade⟩ : GWornPin)].length ≤ 4294967296 then impl_WornOut.k_14 i_8 (xs_6 ++ [(⟨(w8 x_11.fstep), (w8 x_11.ftrack), x_11.fmade⟩ : GWornPin)]) xs_7 else none))) else some (.inr (xs_6, xs_7)))
noncomputable def impl_WornOut (f0 : GFrame) (w1 : GWear) (v2 : GLives) : Option ((List GWornPin) × (List Int) × Int) := (impl_wearCode f0 w1 [v2]).bind fun t_1 => (if (t_1 != 0) = true then some ([], [], t_1) else (impl_Wear_parts w1 f0 v2).bind fun t_2 => (loop (impl_WornOut.l_9 t_2) (([] : List GWornPin), ([] : List Int), 0)).bind fun t_10 => impl_WornOut.k_5 t_10.1 t_10.2)
set_option maxRecDepth 100000 in
theorem impl_WornOut.calls (f0 : GFrame) (w1 : GWear) (v2 : GLives) (w : World) (r : (List GWornPin) × (List Int) × Int) (f0_fHammers_a : Option Addr) (f0_fHammers_an : Nat) (f0_fHammers_c : Nat) (f0_fHammers_h : Rw w f0_fHammers_a 2 encGHammer f0.fHammers) (f0_fHammers_hn : f0.fHammers.length = f0_fHammers_an) (w1_fPins_a : Option Addr) (w1_fPins_an : Nat) (w1_fPins_c : Nat) (w1_fPins_h : Rw w w1_fPins_a 3 encGWornPin w1.fPins) (w1_fPins_hn : w1.fPins.length = w1_fPins_an) (w1_fStrokes_a : Option Addr) (w1_fStrokes_an : Nat) (w1_fStrokes_c : Nat) (w1_fStrokes_h : Rw w w1_fStrokes_a 1 encI64 w1.fStrokes) (w1_fStrokes_hn : w1.fStrokes.length = w1_fStrokes_an) (h : impl_WornOut f0 w1 v2 = some r) :
    Calls Try.prog 61 #[(.agg #[(.int .i16 f0.fSteps), (.slice f0_fHammers_a f0_fHammers_an f0_fHammers_c)]), (.agg #[(.slice w1_fPins_a w1_fPins_an w1_fPins_c), (.slice w1_fStrokes_a w1_fStrokes_an w1_fStrokes_c)]), (.agg #[(.int .i64 v2.fPin), (.int .i64 v2.fHammer)])] w fun e w' => ∃ v, e = .returned v ∧ (∃ (o0 : Option Nat) (c0 : Nat) (s0 : List Value) (n0 : Nat), r.1.length = n0 ∧ (o0 ≠ none → n0 ≤ c0 ∧ s0.length = (c0 - n0) * 3) ∧ (o0 = none → r.1 = [] ∧ c0 = 0) ∧ ∃ (o1 : Option Nat) (c1 : Nat) (s1 : List Value) (n1 : Nat), r.2.1.length = n1 ∧ (o1 ≠ none → n1 ≤ c1 ∧ s1.length = (c1 - n1) * 1) ∧ (o1 = none → r.2.1 = [] ∧ c1 = 0) ∧ v = .tuple #[.slice (o0.map fun b => ⟨b, 0, none⟩) n0 c0, .slice (o1.map fun b => ⟨b, 0, none⟩) n1 c1, (.int .i64 r.2.2)] ∧ Mem w [] [⟨o0, 124, row encGWornPin r.1 s0⟩, ⟨o1, 2, row encI64 r.2.1 s1⟩] w') := by
  subst f0_fHammers_hn w1_fPins_hn w1_fStrokes_hn
  rw [impl_WornOut] at h
  refine enter (args := [(.agg #[(.int .i16 f0.fSteps), (.slice f0_fHammers_a f0.fHammers.length f0_fHammers_c)]), (.agg #[(.slice w1_fPins_a w1.fPins.length w1_fPins_c), (.slice w1_fStrokes_a w1.fStrokes.length w1_fStrokes_c)]), (.agg #[(.int .i64 v2.fPin), (.int .i64 v2.fHammer)])]) Try.func61 rfl Try.ntmps61 (by kernel_rfl) (L := []) (W := []) (Mem.start w) ?_
  refine jc_seq ?_
  refine jc_region ?_
  refine toO (by kernel_rfl) (p_a 0 [0] (by kernel_rfl) (fun b => by kernel_rfl) (fun b_1 => jkO ?_))
  refine toO (by kernel_rfl) (p_a 0 [0] (by kernel_rfl) (fun b => by kernel_rfl) (fun b_2 => jkO ?_))
  refine toO (by kernel_rfl) (p_a 0 [0] (by kernel_rfl) (fun b => by kernel_rfl) (fun b_3 => jkO ?_))
  refine jo_f [(0, 0), (0, 0), (0, 0)] (by kernel_rfl) ?_
  refine jo_end (by kernel_rfl) ?_
  refine jx_then ?_
  refine jc_seq ?_
  refine jc_seq ?_
  refine jc_region ?_
  refine jo_f [(0, 0), (1, 0), (2, 0)] (by kernel_rfl) ?_
  refine toO (by kernel_rfl) (p_a 0 [0] (by kernel_rfl) (fun b => by kernel_rfl) (fun b_7 => jkO ?_))
  obtain ⟨t_1, ht_8, h⟩ := bd h
  refine toO (by kernel_rfl) (p_call 0 101 #[(.agg #[(.int .i16 f0.fSteps), (.slice f0_fHammers_a f0.fHammers.length f0_fHammers_c)]), (.agg #[(.slice w1_fPins_a w1.fPins.length w1_fPins_c), (.slice w1_fStrokes_a w1.fStrokes.length w1_fStrokes_c)]), (.slice (some ⟨b_7, 0, none⟩) 1 1)] (by kernel_rfl) (by kernel_rfl) (fun w hm => impl_wearCode.calls f0 w1 [v2] w _ f0_fHammers_a f0.fHammers.length f0_fHammers_c (hm.exRow f0_fHammers_h List.not_mem_nil) rfl w1_fPins_a w1.fPins.length w1_fPins_c (hm.exRow w1_fPins_h List.not_mem_nil) rfl w1_fStrokes_a w1.fStrokes.length w1_fStrokes_c (hm.exRow w1_fStrokes_h List.not_mem_nil) rfl (some ⟨b_7, 0, none⟩) 1 1 (hm.ownRow (hh := 3) (o := (some b_7)) (T := 94) (enc := encGLives) (xs := [v2]) (sp := []) (by kernel_rfl) (fun e => nomatch e) encGLives_len) rfl ht_8) ?_)
  rintro w v w' hm ⟨rfl, hm'⟩
  refine ⟨_, hm.app hm', jkO ?_⟩
  clear hm hm'
  refine jo_f [(0, 0)] (by kernel_rfl) ?_
  refine jo_end (by kernel_rfl) ?_
  refine jx_then ?_
  refine jc_seq ?_
  refine jc_region ?_
  refine jo_f [(0, 0), (0, 0)] (by kernel_rfl) ?_
  refine jo_end (by kernel_rfl) ?_
  refine jx_then ?_
  refine jc_cond (t_1 != 0) (by kernel_rfl) (fun hc_9 => ?_) (fun hc_9 => ?_)
  · replace h := ifT hc_9 h
    refine jc_seq ?_
    refine jc_region ?_
    refine jo_f [(0, 0), (0, 0), (0, 0), (0, 0)] (by kernel_rfl) ?_
    refine jo_end (by kernel_rfl) ?_
    refine jx_then ?_
    refine jc_ret ?_
    refine jx_thenr ?_
    obtain rfl := Option.some.inj h
    refine jx_ghost 124 encGWornPin ?_
    refine jx_ghost 2 encI64 ?_
    exact jx_ret [] (.tuple #[(.slice none 0 0), (.slice none 0 0), (.int .i64 t_1)]) [] rfl (by kernel_rfl) (by kernel_rfl) (fun w hm => ⟨none, 0, [], 0, rfl, (fun e => absurd rfl e), (fun _ => ⟨rfl, rfl⟩), none, 0, [], 0, rfl, (fun e => absurd rfl e), (fun _ => ⟨rfl, rfl⟩), rfl, hm.pick [4, 5] (by kernel_rfl) (by kernel_rfl)⟩)
  · replace h := ifF hc_9 h
    refine jc_skip ?_
    refine jx_then ?_
    refine jc_seq ?_
    refine jc_region ?_
    refine toO (by kernel_rfl) (p_a 0 [0] (by kernel_rfl) (fun b => by kernel_rfl) (fun b_10 => jkO ?_))
    refine toO (by kernel_rfl) (p_a 0 [0] (by kernel_rfl) (fun b => by kernel_rfl) (fun b_11 => jkO ?_))
    refine jo_f [(0, 0), (0, 0)] (by kernel_rfl) ?_
    refine jo_end (by kernel_rfl) ?_
    refine jx_then ?_
    refine jc_seq ?_
    refine jc_seq ?_
    refine jc_region ?_
    refine jo_f [(1, 0), (0, 0), (2, 0)] (by kernel_rfl) ?_
    obtain ⟨t_2, ht_386, h⟩ := bd h
    refine toO (by kernel_rfl) (p_call 0 126 #[(.agg #[(.slice w1_fPins_a w1.fPins.length w1_fPins_c), (.slice w1_fStrokes_a w1.fStrokes.length w1_fStrokes_c)]), (.agg #[(.int .i16 f0.fSteps), (.slice f0_fHammers_a f0.fHammers.length f0_fHammers_c)]), (.agg #[(.int .i64 v2.fPin), (.int .i64 v2.fHammer)])] (by kernel_rfl) (by kernel_rfl) (fun w hm => impl_Wear_parts.calls w1 f0 v2 w _ w1_fPins_a w1.fPins.length w1_fPins_c (hm.exRow w1_fPins_h List.not_mem_nil) rfl w1_fStrokes_a w1.fStrokes.length w1_fStrokes_c (hm.exRow w1_fStrokes_h List.not_mem_nil) rfl f0_fHammers_a f0.fHammers.length f0_fHammers_c (hm.exRow f0_fHammers_h List.not_mem_nil) rfl ht_386) ?_)
    rintro w v w' hm ⟨o_387, cap_388, sp_389, _, rfl, hs_390, ho_391, rfl, hm'⟩
    refine ⟨_, hm.app hm', jkO ?_⟩
    clear hm hm'
    refine jo_f [(0, 0), (0, 0)] (by kernel_rfl) ?_
    refine jo_end (by kernel_rfl) ?_
    refine jx_then ?_
    refine jc_meet (fun (j : (List GWornPin) × (List Int) × (Option Nat) × Nat × (List Value) × Nat × (Option Nat) × Nat × (List Value) × Nat) => match j with | ⟨xs_3, xs_4, o_570, cap_571, sp_572, n_573, o_576, cap_577, sp_578, n_579⟩ => impl_WornOut.k_5 xs_3 xs_4 = some r ∧ (xs_3.length = n_573) ∧ ((o_570 ≠ none → n_573 ≤ cap_571 ∧ sp_572.length = (cap_571 - n_573) * 3)) ∧ ((o_570 = none → xs_3 = [] ∧ cap_571 = 0)) ∧ (xs_4.length = n_579) ∧ ((o_576 ≠ none → n_579 ≤ cap_577 ∧ sp_578.length = (cap_577 - n_579) * 1)) ∧ ((o_576 = none → xs_4 = [] ∧ cap_577 = 0))) (fun (j : (List GWornPin) × (List Int) × (Option Nat) × Nat × (List Value) × Nat × (Option Nat) × Nat × (List Value) × Nat) => match j with | ⟨xs_3, xs_4, o_570, cap_571, sp_572, n_573, o_576, cap_577, sp_578, n_579⟩ => [(6, [], (.slice none 0 0)), (7, [], (.slice none 0 0)), (8, [], (.int .i64 0)), (10, [], (.slice (o_570.map fun b => ⟨b, 0, none⟩) n_573 cap_571)), (11, [], (.slice (o_576.map fun b => ⟨b, 0, none⟩) n_579 cap_577))]) (fun (j : (List GWornPin) × (List Int) × (Option Nat) × Nat × (List Value) × Nat × (Option Nat) × Nat × (List Value) × Nat) => match j with | ⟨xs_3, xs_4, o_570, cap_571, sp_572, n_573, o_576, cap_577, sp_578, n_579⟩ => [⟨some b_1, 35, [(.int .i16 f0.fSteps), (.slice f0_fHammers_a f0.fHammers.length f0_fHammers_c)]⟩, ⟨some b_2, 52, [(.slice w1_fPins_a w1.fPins.length w1_fPins_c), (.slice w1_fStrokes_a w1.fStrokes.length w1_fStrokes_c)]⟩, ⟨some b_3, 94, [(.int .i64 v2.fPin), (.int .i64 v2.fHammer)]⟩, ⟨(some b_7), 94, row encGLives [v2] []⟩, ⟨o_570, 124, row encGWornPin xs_3 sp_572⟩, ⟨o_576, 2, row encI64 xs_4 sp_578⟩, ⟨o_387, 162, row encGpart t_2 sp_389⟩]) ?_ ?_
    · refine jc_block ?_
      obtain ⟨t_10, ht_759, hr_706⟩ := bd h
      refine jc_loop (fun (s : (List GWornPin) × (List Int) × Int) (x : (Option Nat) × Nat × (List Value) × Nat × (Option Nat) × Nat × (List Value) × Nat) => match s, x with | ⟨xs_6, xs_7, i_8⟩, ⟨o_694, cap_695, sp_696, n_697, o_700, cap_701, sp_702, n_703⟩ => (xs_6.length = n_697) ∧ ((o_694 ≠ none → n_697 ≤ cap_695 ∧ sp_696.length = (cap_695 - n_697) * 3)) ∧ ((o_694 = none → xs_6 = [] ∧ cap_695 = 0)) ∧ (xs_7.length = n_703) ∧ ((o_700 ≠ none → n_703 ≤ cap_701 ∧ sp_702.length = (cap_701 - n_703) * 1)) ∧ ((o_700 = none → xs_7 = [] ∧ cap_701 = 0))) (fun (s : (List GWornPin) × (List Int) × Int) (x : (Option Nat) × Nat × (List Value) × Nat × (Option Nat) × Nat × (List Value) × Nat) => match s, x with | ⟨xs_6, xs_7, i_8⟩, ⟨o_694, cap_695, sp_696, n_697, o_700, cap_701, sp_702, n_703⟩ => [(6, [], (.slice none 0 0)), (7, [], (.slice none 0 0)), (8, [], (.int .i64 0)), (10, [], (.slice (o_694.map fun b => ⟨b, 0, none⟩) n_697 cap_695)), (11, [], (.slice (o_700.map fun b => ⟨b, 0, none⟩) n_703 cap_701)), (27, [], (.slice (o_387.map fun b => ⟨b, 0, none⟩) t_2.length cap_388)), (28, [], (.int .i64 (t_2.length : Int))), (29, [], (.int .i64 i_8))]) (fun (s : (List GWornPin) × (List Int) × Int) (x : (Option Nat) × Nat × (List Value) × Nat × (Option Nat) × Nat × (List Value) × Nat) => match s, x with | ⟨xs_6, xs_7, i_8⟩, ⟨o_694, cap_695, sp_696, n_697, o_700, cap_701, sp_702, n_703⟩ => [⟨some b_1, 35, [(.int .i16 f0.fSteps), (.slice f0_fHammers_a f0.fHammers.length f0_fHammers_c)]⟩, ⟨some b_2, 52, [(.slice w1_fPins_a w1.fPins.length w1_fPins_c), (.slice w1_fStrokes_a w1.fStrokes.length w1_fStrokes_c)]⟩, ⟨some b_3, 94, [(.int .i64 v2.fPin), (.int .i64 v2.fHammer)]⟩, ⟨(some b_7), 94, row encGLives [v2] []⟩, ⟨o_694, 124, row encGWornPin xs_6 sp_696⟩, ⟨o_700, 2, row encI64 xs_7 sp_702⟩, ⟨o_387, 162, row encGpart t_2 sp_389⟩]) ht_759 ⟨(some b_10), 0, [], 0, (some b_11), 0, [], 0⟩ ⟨rfl, (fun _ => ⟨Nat.le_refl _, by simp⟩), (fun e => nomatch e), rfl, (fun _ => ⟨Nat.le_refl _, by simp⟩), (fun e => nomatch e)⟩ (by kernel_rfl) [0, 1, 2, 3, 4, 5, 6] (by kernel_rfl) (by kernel_rfl) ?_
      rintro ⟨xs_6, xs_7, i_8⟩ ⟨o_694, cap_695, sp_696, n_697, o_700, cap_701, sp_702, n_703⟩ y_707 ⟨rfl, hs_698, ho_699, rfl, hs_704, ho_705⟩ h
      rw [impl_WornOut.l_9] at h
      refine jc_seq ?_
      refine jc_region ?_
      refine jo_f [(0, 0)] (by kernel_rfl) ?_
      refine jo_end (by kernel_rfl) ?_
      refine jx_then ?_
      refine jc_seq ?_
      refine jc_cond (decide (i_8 < (t_2.length : Int))) (by kernel_rfl) (fun hc_709 => ?_) (fun hc_709 => ?_)
      · replace h := ifT hc_709 h
        refine jc_skip ?_
        refine jx_then ?_
        refine jc_seq ?_
        refine jc_block ?_
        refine jc_seq ?_
        refine jc_region ?_
        obtain ⟨x_11, hx_710, h⟩ := bd h
        refine toO (by kernel_rfl) (p_idx 0 (o_387.map fun b => ⟨b, 0, none⟩) t_2.length i_8 5 (by kernel_rfl) (by kernel_rfl) (ix_some hx_710).1 (ltn hx_710 rfl) (spo ho_391 hx_710) (jkO ?_))
        refine toO (by kernel_rfl) (p_ld 0 (aB (o_387.map fun b => ⟨b, 0, none⟩)) (aO (o_387.map fun b => ⟨b, 0, none⟩) + i_8.toNat * 5) true (encGpart x_11) (by kernel_rfl) (by kernel_rfl) (by kernel_rfl) (fun w hm => ((hm.ownRow (hh := 6) (o := o_387) (T := 162) (enc := encGpart) (xs := t_2) (sp := sp_389) (by kernel_rfl) (fun e => (ho_391 e).1) encGpart_len).at hx_710)) (jkO ?_))
        refine toO (by kernel_rfl) (p_a 0 [0] (by kernel_rfl) (fun b => by kernel_rfl) (fun b_711 => jkO ?_))
        refine toO (by kernel_rfl) (p_s 0 [7] (by kernel_rfl) (by kernel_rfl) (jkO ?_))
        refine jo_end (by kernel_rfl) ?_
        refine jx_then ?_
        refine jc_meet (fun (j : (List GWornPin) × (List Int) × (Option Nat) × Nat × (List Value) × Nat × (Option Nat) × Nat × (List Value) × Nat) => match j with | ⟨xs_12, xs_13, o_729, cap_730, sp_731, n_732, o_735, cap_736, sp_737, n_738⟩ => impl_WornOut.k_14 i_8 xs_12 xs_13 = some y_707 ∧ (xs_12.length = n_732) ∧ ((o_729 ≠ none → n_732 ≤ cap_730 ∧ sp_731.length = (cap_730 - n_732) * 3)) ∧ ((o_729 = none → xs_12 = [] ∧ cap_730 = 0)) ∧ (xs_13.length = n_738) ∧ ((o_735 ≠ none → n_738 ≤ cap_736 ∧ sp_737.length = (cap_736 - n_738) * 1)) ∧ ((o_735 = none → xs_13 = [] ∧ cap_736 = 0))) (fun (j : (List GWornPin) × (List Int) × (Option Nat) × Nat × (List Value) × Nat × (Option Nat) × Nat × (List Value) × Nat) => match j with | ⟨xs_12, xs_13, o_729, cap_730, sp_731, n_732, o_735, cap_736, sp_737, n_738⟩ => [(6, [], (.slice none 0 0)), (7, [], (.slice none 0 0)), (8, [], (.int .i64 0)), (10, [], (.slice (o_729.map fun b => ⟨b, 0, none⟩) n_732 cap_730)), (11, [], (.slice (o_735.map fun b => ⟨b, 0, none⟩) n_738 cap_736)), (27, [], (.slice (o_387.map fun b => ⟨b, 0, none⟩) t_2.length cap_388)), (28, [], (.int .i64 (t_2.length : Int))), (29, [], (.int .i64 i_8))]) (fun (j : (List GWornPin) × (List Int) × (Option Nat) × Nat × (List Value) × Nat × (Option Nat) × Nat × (List Value) × Nat) => match j with | ⟨xs_12, xs_13, o_729, cap_730, sp_731, n_732, o_735, cap_736, sp_737, n_738⟩ => [⟨some b_1, 35, [(.int .i16 f0.fSteps), (.slice f0_fHammers_a f0.fHammers.length f0_fHammers_c)]⟩, ⟨some b_2, 52, [(.slice w1_fPins_a w1.fPins.length w1_fPins_c), (.slice w1_fStrokes_a w1.fStrokes.length w1_fStrokes_c)]⟩, ⟨some b_3, 94, [(.int .i64 v2.fPin), (.int .i64 v2.fHammer)]⟩, ⟨(some b_7), 94, row encGLives [v2] []⟩, ⟨o_729, 124, row encGWornPin xs_12 sp_731⟩, ⟨o_735, 2, row encI64 xs_13 sp_737⟩, ⟨o_387, 162, row encGpart t_2 sp_389⟩, ⟨some b_711, 162, [(.int .i64 x_11.fmade), (.int .i64 x_11.feach), (.int .i64 x_11.flife), (.int .i64 x_11.fstep), (.int .i64 x_11.ftrack)]⟩]) ?_ ?_
        · refine jc_block ?_
          refine jc_seq ?_
          refine jc_region ?_
          refine jo_f [(7, 0)] (by kernel_rfl) ?_
          obtain ⟨t_15, ht_741, h⟩ := bd h
          refine toO (by kernel_rfl) (p_call 0 127 #[(.agg #[(.int .i64 x_11.fmade), (.int .i64 x_11.feach), (.int .i64 x_11.flife), (.int .i64 x_11.fstep), (.int .i64 x_11.ftrack)])] (by kernel_rfl) (by kernel_rfl) (fun w hm => impl_part_isWorn.calls x_11 w _ ht_741) ?_)
          rintro w v w' hm ⟨rfl, hm'⟩
          refine ⟨_, hm.app hm', jkO ?_⟩
          clear hm hm'
          refine jo_f [(0, 0), (0, 0)] (by kernel_rfl) ?_
          refine jo_end (by kernel_rfl) ?_
          refine jx_then ?_
          refine jc_cond (!t_15) (by kernel_rfl) (fun hc_742 => ?_) (fun hc_742 => ?_)
          · replace h := ifT hc_742 h
            refine jc_skip ?_
            refine jx_inn ?_
            exact jx_meet ⟨xs_6, xs_7, o_694, cap_695, sp_696, xs_6.length, o_700, cap_701, sp_702, xs_7.length⟩ ⟨h, rfl, hs_698, ho_699, rfl, hs_704, ho_705⟩ (by kernel_rfl) [0, 1, 2, 3, 4, 5, 6, 7] (by kernel_rfl) (by kernel_rfl)
          · replace h := ifF hc_742 h
            refine jc_seq ?_
            refine jc_region ?_
            refine jo_f [(0, 0), (7, 0), (0, 0), (0, 0)] (by kernel_rfl) ?_
            refine jo_end (by kernel_rfl) ?_
            refine jx_then ?_
            refine jc_cond (decide (x_11.fstep < 0)) (by kernel_rfl) (fun hc_743 => ?_) (fun hc_743 => ?_)
            · replace h := ifT hc_743 h
              refine jc_region ?_
              refine jo_f [(0, 0), (0, 0), (7, 0)] (by kernel_rfl) ?_
              refine toO (by kernel_rfl) (p_a 0 [0] (by kernel_rfl) (fun b => by kernel_rfl) (fun b_744 => jkO ?_))
              obtain ⟨hg_745, h⟩ := gd h
              refine toO (by kernel_rfl) (p_apn 0 5 o_700 2 xs_7.length 1 cap_701 1 8 (some ⟨b_744, 0, none⟩) encI64 xs_7 [x_11.ftrack] sp_702 (.int .i64 0) rfl rfl (by kernel_rfl) (by kernel_rfl) (by kernel_rfl) encI64_len encI64_cell hs_704 ho_705 (fun w hm => (hm.ownRow (hh := 8) (o := (some b_744)) (T := 2) (enc := encI64) (xs := [x_11.ftrack]) (sp := []) (by kernel_rfl) (fun e => nomatch e) encI64_len)) hg_745 (by kernel_rfl) (by kernel_rfl) (fun o_746 cap_747 sp_748 hs_749 ho_750 => jkO ?_))
              refine jo_f [(0, 0)] (by kernel_rfl) ?_
              refine jo_end (by kernel_rfl) ?_
              refine jx_inn ?_
              exact jx_meet ⟨xs_6, (xs_7 ++ [x_11.ftrack]), o_694, cap_695, sp_696, xs_6.length, o_746, cap_747, sp_748, (xs_7 ++ [x_11.ftrack]).length⟩ ⟨h, rfl, hs_698, ho_699, rfl, hs_749, ho_750⟩ (by kernel_rfl) [0, 1, 2, 3, 4, 5, 6, 7] (by kernel_rfl) (by kernel_rfl)
            · replace h := ifF hc_743 h
              refine jc_region ?_
              refine jo_f [(0, 0), (0, 0), (7, 0), (0, 0), (0, 0), (7, 0), (0, 0), (0, 0), (7, 0), (0, 0)] (by kernel_rfl) ?_
              refine toO (by kernel_rfl) (p_a 0 [0] (by kernel_rfl) (fun b => by kernel_rfl) (fun b_751 => jkO ?_))
              obtain ⟨hg_752, h⟩ := gd h
              refine toO (by kernel_rfl) (p_apn 0 4 o_694 124 xs_6.length 1 cap_695 3 16 (some ⟨b_751, 0, none⟩) encGWornPin xs_6 [(⟨(w8 x_11.fstep), (w8 x_11.ftrack), x_11.fmade⟩ : GWornPin)] sp_696 (.agg #[(.int .i8 0), (.int .i8 0), (.int .i64 0)]) rfl rfl (by kernel_rfl) (by kernel_rfl) (by kernel_rfl) encGWornPin_len encGWornPin_cell hs_698 ho_699 (fun w hm => (hm.ownRow (hh := 8) (o := (some b_751)) (T := 124) (enc := encGWornPin) (xs := [(⟨(w8 x_11.fstep), (w8 x_11.ftrack), x_11.fmade⟩ : GWornPin)]) (sp := []) (by kernel_rfl) (fun e => nomatch e) encGWornPin_len)) hg_752 (by kernel_rfl) (by kernel_rfl) (fun o_753 cap_754 sp_755 hs_756 ho_757 => jkO ?_))
              refine jo_f [(0, 0)] (by kernel_rfl) ?_
              refine jo_end (by kernel_rfl) ?_
              refine jx_inn ?_
              exact jx_meet ⟨(xs_6 ++ [(⟨(w8 x_11.fstep), (w8 x_11.ftrack), x_11.fmade⟩ : GWornPin)]), xs_7, o_753, cap_754, sp_755, (xs_6 ++ [(⟨(w8 x_11.fstep), (w8 x_11.ftrack), x_11.fmade⟩ : GWornPin)]).length, o_700, cap_701, sp_702, xs_7.length⟩ ⟨h, rfl, hs_756, ho_757, rfl, hs_704, ho_705⟩ (by kernel_rfl) [0, 1, 2, 3, 4, 5, 6, 7] (by kernel_rfl) (by kernel_rfl)
        · rintro ⟨xs_12, xs_13, o_729, cap_730, sp_731, n_732, o_735, cap_736, sp_737, n_738⟩ ⟨h, rfl, hs_733, ho_734, rfl, hs_739, ho_740⟩
          replace h : impl_WornOut.k_14 i_8 xs_12 xs_13 = some y_707 := h
          rw [impl_WornOut.k_14] at h
          refine jx_inn ?_
          refine jx_then ?_
          refine jc_region ?_
          refine jo_f [(0, 0), (0, 0)] (by kernel_rfl) ?_
          refine jo_end (by kernel_rfl) ?_
          exact jx_back (xs_12, xs_13, (w64 (i_8 + 1))) ⟨o_729, cap_730, sp_731, xs_12.length, o_735, cap_736, sp_737, xs_13.length⟩ (Option.some.inj h).symm ⟨rfl, hs_733, ho_734, rfl, hs_739, ho_740⟩ [0, 1, 2, 3, 4, 5, 6] (by kernel_rfl) (by kernel_rfl) (by kernel_rfl)
      · replace h := ifF hc_709 h
        refine jc_exit ?_
        refine jx_thenx ?_
        refine jx_leave (xs_6, xs_7) (Option.some.inj h).symm (fun e_758 => ?_)
        subst e_758
        refine jx_ine ?_
        exact jx_meet ⟨xs_6, xs_7, o_694, cap_695, sp_696, xs_6.length, o_700, cap_701, sp_702, xs_7.length⟩ ⟨hr_706, rfl, hs_698, ho_699, rfl, hs_704, ho_705⟩ (by kernel_rfl) [0, 1, 2, 3, 4, 5, 6] (by kernel_rfl) (by kernel_rfl)
    · rintro ⟨xs_3, xs_4, o_570, cap_571, sp_572, n_573, o_576, cap_577, sp_578, n_579⟩ ⟨h, rfl, hs_574, ho_575, rfl, hs_580, ho_581⟩
      replace h : impl_WornOut.k_5 xs_3 xs_4 = some r := h
      rw [impl_WornOut.k_5] at h
      refine jx_then ?_
      refine jc_seq ?_
      refine jc_region ?_
      refine jo_f [(0, 0), (0, 0), (0, 0), (0, 0), (0, 0)] (by kernel_rfl) ?_
      refine jo_end (by kernel_rfl) ?_
      refine jx_then ?_
      refine jc_ret ?_
      obtain rfl := Option.some.inj h
      exact jx_ret [] (.tuple #[(.slice (o_570.map fun b => ⟨b, 0, none⟩) xs_3.length cap_571), (.slice (o_576.map fun b => ⟨b, 0, none⟩) xs_4.length cap_577), (.int .i64 0)]) [] rfl (by kernel_rfl) (by kernel_rfl) (fun w hm => ⟨o_570, cap_571, sp_572, xs_3.length, rfl, hs_574, ho_575, o_576, cap_577, sp_578, xs_4.length, rfl, hs_580, ho_581, rfl, hm.pick [4, 5] (by kernel_rfl) (by kernel_rfl)⟩)

/-! ### laws.FnExactWornOut -/
noncomputable def laws_FnExactWornOut.k_30 (t_21 : Int × (List GWornPin)) (t_22 : Int × (List Int)) (q_29 : Bool) : Option (Bool) := (if q_29 = true then some false else (laws_heldWornPinS t_21.2 1).bind fun t_31 => (if (decide (t_31 < 0)) = true then some false else (laws_heldInt64S t_22.2 t_31).bind fun t_32 => (if (decide (t_32 < 0)) = true then some false else (if (t_32 != t_22.1) = true then some false else some true))))
noncomputable def laws_FnExactWornOut.k_20 (aF0 : GFrame) (aW1 : GWear) (aV2 : GLives) (t_6 : (List GWornPin) × (List Int) × Int) (t_10 : (List GWornPin) × (List Int) × Int) (q_19 : Bool) : Option (Bool) := (if q_19 = true then some false else (laws_markWornPinS t_10.1 1).bind fun t_21 => (laws_markInt64S t_10.2.1 t_21.1).bind fun t_22 => (laws_heldWornPinS t_21.2 1).bind fun t_23 => (if (decide (t_23 < 0)) = true then some false else (laws_heldInt64S t_22.2 t_23).bind fun t_24 => (if (decide (t_24 < 0)) = true then some false else (if (t_24 != t_22.1) = true then some false else (laws_toFrame aF0).bind fun t_25 => (laws_toWear aW1).bind fun t_26 => (laws_toLives aV2).bind fun t_27 => (impl_WornOut t_25 t_26 t_27).bind fun t_28 => (laws_eqWornPinS t_28.1 t_6.1).bind fun t_33 => (if (!t_33) = true then laws_FnExactWornOut.k_30 t_21 t_22 true else (laws_eqInt64S t_28.2.1 t_6.2.1).bind fun t_34 => laws_FnExactWornOut.k_30 t_21 t_22 ((!t_34) || (t_28.2.2 != t_6.2.2)))))))
noncomputable def laws_FnExactWornOut.k_12 (aF0 : GFrame) (aW1 : GWear) (aV2 : GLives) (t_6 : (List GWornPin) × (List Int) × Int) (t_7 : GFrame) (t_8 : GWear) (t_10 : (List GWornPin) × (List Int) × Int) (q_11 : Bool) : Option (Bool) := (if q_11 = true then some false else (laws_toFrame aF0).bind fun t_13 => (laws_eqFrame t_7 t_13).bind fun t_14 => (if (!t_14) = true then some false else (laws_toWear aW1).bind fun t_15 => (laws_eqWear t_8 t_15).bind fun t_16 => (if (!t_16) = true then some false else (laws_markFrame t_7 1).bind fun t_17 => (laws_markWear t_8 t_17.1).bind fun t_18 => (if (decide (t_18.1 < 0)) = true then laws_FnExactWornOut.k_20 aF0 aW1 aV2 t_6 t_10 true else (laws_eqWornPinS t_10.1 t_6.1).bind fun t_35 => (if (!t_35) = true then laws_FnExactWornOut.k_20 aF0 aW1 aV2 t_6 t_10 true else (laws_eqInt64S t_10.2.1 t_6.2.1).bind fun t_36 => laws_FnExactWornOut.k_20 aF0 aW1 aV2 t_6 t_10 ((!t_36) || (t_10.2.2 != t_6.2.2)))))))
noncomputable def laws_FnExactWornOut (aF0 : GFrame) (aW1 : GWear) (aV2 : GLives) : Option (Bool) := (laws_szFrame aF0 1048576).bind fun t_1 => (if (decide (t_1 < 0)) = true then some true else (laws_szWear aW1 t_1).bind fun t_2 => (if (decide (t_2 < 0)) = true then some true else (laws_toFrame aF0).bind fun t_3 => (laws_toWear aW1).bind fun t_4 => (laws_toLives aV2).bind fun t_5 => (spec_WornOut t_3 t_4 t_5).bind fun t_6 => (laws_toFrame aF0).bind fun t_7 => (laws_toWear aW1).bind fun t_8 => (laws_toLives aV2).bind fun t_9 => (impl_WornOut t_7 t_8 t_9).bind fun t_10 => (laws_eqWornPinS t_10.1 t_6.1).bind fun t_37 => (if (!t_37) = true then laws_FnExactWornOut.k_12 aF0 aW1 aV2 t_6 t_7 t_8 t_10 true else (laws_eqInt64S t_10.2.1 t_6.2.1).bind fun t_38 => laws_FnExactWornOut.k_12 aF0 aW1 aV2 t_6 t_7 t_8 t_10 ((!t_38) || (t_10.2.2 != t_6.2.2)))))
set_option maxRecDepth 100000 in
set_option maxHeartbeats 8000000 in
theorem laws_FnExactWornOut.calls (aF0 : GFrame) (aW1 : GWear) (aV2 : GLives) (w : World) (r : Bool) (aF0_fHammers_a : Option Addr) (aF0_fHammers_an : Nat) (aF0_fHammers_c : Nat) (aF0_fHammers_h : Rw w aF0_fHammers_a 2 encGHammer aF0.fHammers) (aF0_fHammers_hn : aF0.fHammers.length = aF0_fHammers_an) (aW1_fPins_a : Option Addr) (aW1_fPins_an : Nat) (aW1_fPins_c : Nat) (aW1_fPins_h : Rw w aW1_fPins_a 3 encGWornPin aW1.fPins) (aW1_fPins_hn : aW1.fPins.length = aW1_fPins_an) (aW1_fStrokes_a : Option Addr) (aW1_fStrokes_an : Nat) (aW1_fStrokes_c : Nat) (aW1_fStrokes_h : Rw w aW1_fStrokes_a 1 encI64 aW1.fStrokes) (aW1_fStrokes_hn : aW1.fStrokes.length = aW1_fStrokes_an) (h : laws_FnExactWornOut aF0 aW1 aV2 = some r) :
    Calls Try.prog 13 #[(.agg #[(.int .i16 aF0.fSteps), (.slice aF0_fHammers_a aF0_fHammers_an aF0_fHammers_c)]), (.agg #[(.slice aW1_fPins_a aW1_fPins_an aW1_fPins_c), (.slice aW1_fStrokes_a aW1_fStrokes_an aW1_fStrokes_c)]), (.agg #[(.int .i64 aV2.fPin), (.int .i64 aV2.fHammer)])] w fun e w' => ∃ v, e = .returned v ∧ (v = (.bool r) ∧ Mem w [] [] w') := by
  subst aF0_fHammers_hn aW1_fPins_hn aW1_fStrokes_hn
  rw [laws_FnExactWornOut] at h
  refine enter (args := [(.agg #[(.int .i16 aF0.fSteps), (.slice aF0_fHammers_a aF0.fHammers.length aF0_fHammers_c)]), (.agg #[(.slice aW1_fPins_a aW1.fPins.length aW1_fPins_c), (.slice aW1_fStrokes_a aW1.fStrokes.length aW1_fStrokes_c)]), (.agg #[(.int .i64 aV2.fPin), (.int .i64 aV2.fHammer)])]) Try.func13 rfl Try.ntmps13 (by kernel_rfl) (L := []) (W := []) (Mem.start w) ?_
  refine jc_seq ?_
  refine jc_region ?_
  refine toO (by kernel_rfl) (p_a 0 [0] (by kernel_rfl) (fun b => by kernel_rfl) (fun b_1 => jkO ?_))
  refine toO (by kernel_rfl) (p_a 0 [0] (by kernel_rfl) (fun b => by kernel_rfl) (fun b_2 => jkO ?_))
  refine toO (by kernel_rfl) (p_a 0 [0] (by kernel_rfl) (fun b => by kernel_rfl) (fun b_3 => jkO ?_))
  refine jo_f [(0, 0)] (by kernel_rfl) ?_
  refine jo_end (by kernel_rfl) ?_
  refine jx_then ?_
  refine jc_seq ?_
  refine jc_region ?_
  refine jo_f [(0, 0)] (by kernel_rfl) ?_
  refine jo_end (by kernel_rfl) ?_
  refine jx_then ?_
  refine jc_seq ?_
  refine jc_region ?_
  refine jo_f [(0, 0), (0, 0)] (by kernel_rfl) ?_
  obtain ⟨t_1, ht_4, h⟩ := bd h
  refine toO (by kernel_rfl) (p_call 0 15 #[(.agg #[(.int .i16 aF0.fSteps), (.slice aF0_fHammers_a aF0.fHammers.length aF0_fHammers_c)]), (.int .i64 1048576)] (by kernel_rfl) (by kernel_rfl) (fun w hm => laws_szFrame.calls aF0 1048576 w _ aF0_fHammers_a aF0.fHammers.length aF0_fHammers_c (hm.exRow aF0_fHammers_h List.not_mem_nil) rfl ht_4) ?_)
  rintro w v w' hm ⟨rfl, hm'⟩
  refine ⟨_, hm.app hm', jkO ?_⟩
  clear hm hm'
  refine jo_f [(0, 0)] (by kernel_rfl) ?_
  refine jo_end (by kernel_rfl) ?_
  refine jx_then ?_
  refine jc_seq ?_
  refine jc_seq ?_
  refine jc_region ?_
  refine jo_f [(0, 0), (0, 0)] (by kernel_rfl) ?_
  refine jo_end (by kernel_rfl) ?_
  refine jx_then ?_
  refine jc_cond (decide (t_1 < 0)) (by kernel_rfl) (fun hc_6 => ?_) (fun hc_6 => ?_)
  · replace h := ifT hc_6 h
    refine jc_seq ?_
    refine jc_region ?_
    refine jo_f [(0, 0)] (by kernel_rfl) ?_
    refine jo_end (by kernel_rfl) ?_
    refine jx_then ?_
    refine jc_ret ?_
    refine jx_thenr ?_
    obtain rfl := Option.some.inj h
    exact jx_ret [] (.bool true) [] rfl (by kernel_rfl) (by kernel_rfl) (fun w hm => ⟨rfl, hm.pick [] (by kernel_rfl) (by kernel_rfl)⟩)
  · replace h := ifF hc_6 h
    refine jc_skip ?_
    refine jx_then ?_
    refine jc_seq ?_
    refine jc_region ?_
    refine jo_f [(1, 0), (0, 0)] (by kernel_rfl) ?_
    obtain ⟨t_2, ht_7, h⟩ := bd h
    refine toO (by kernel_rfl) (p_call 0 25 #[(.agg #[(.slice aW1_fPins_a aW1.fPins.length aW1_fPins_c), (.slice aW1_fStrokes_a aW1.fStrokes.length aW1_fStrokes_c)]), (.int .i64 t_1)] (by kernel_rfl) (by kernel_rfl) (fun w hm => laws_szWear.calls aW1 t_1 w _ aW1_fPins_a aW1.fPins.length aW1_fPins_c (hm.exRow aW1_fPins_h List.not_mem_nil) rfl aW1_fStrokes_a aW1.fStrokes.length aW1_fStrokes_c (hm.exRow aW1_fStrokes_h List.not_mem_nil) rfl ht_7) ?_)
    rintro w v w' hm ⟨rfl, hm'⟩
    refine ⟨_, hm.app hm', jkO ?_⟩
    clear hm hm'
    refine jo_f [(0, 0)] (by kernel_rfl) ?_
    refine jo_end (by kernel_rfl) ?_
    refine jx_then ?_
    refine jc_seq ?_
    refine jc_seq ?_
    refine jc_region ?_
    refine jo_f [(0, 0), (0, 0)] (by kernel_rfl) ?_
    refine jo_end (by kernel_rfl) ?_
    refine jx_then ?_
    refine jc_cond (decide (t_2 < 0)) (by kernel_rfl) (fun hc_9 => ?_) (fun hc_9 => ?_)
    · replace h := ifT hc_9 h
      refine jc_seq ?_
      refine jc_region ?_
      refine jo_f [(0, 0)] (by kernel_rfl) ?_
      refine jo_end (by kernel_rfl) ?_
      refine jx_then ?_
      refine jc_ret ?_
      refine jx_thenr ?_
      obtain rfl := Option.some.inj h
      exact jx_ret [] (.bool true) [] rfl (by kernel_rfl) (by kernel_rfl) (fun w hm => ⟨rfl, hm.pick [] (by kernel_rfl) (by kernel_rfl)⟩)
    · replace h := ifF hc_9 h
      refine jc_skip ?_
      refine jx_then ?_
      refine jc_seq ?_
      refine jc_draw [⟨some b_1, 25, [(.int .i16 aF0.fSteps), (.slice aF0_fHammers_a aF0.fHammers.length aF0_fHammers_c)]⟩, ⟨some b_2, 47, [(.slice aW1_fPins_a aW1.fPins.length aW1_fPins_c), (.slice aW1_fStrokes_a aW1.fStrokes.length aW1_fStrokes_c)]⟩, ⟨some b_3, 92, [(.int .i64 aV2.fPin), (.int .i64 aV2.fHammer)]⟩] 14 (by kernel_rfl) (by kernel_rfl) ?_
      refine jd_f [⟨0, 0, 0⟩, ⟨2, 1, 0⟩, ⟨4, 2, 0⟩] 11 (by kernel_rfl) (by kernel_rfl) (fun w h => h.pick [0, 1, 2] (by kernel_rfl) (by kernel_rfl)) (by kernel_rfl) (by kernel_rfl) ?_
      obtain ⟨t_3, ht_39, h⟩ := bd h
      refine toD 1 (by kernel_rfl) (p_call 0 17 #[(.agg #[(.int .i16 aF0.fSteps), (.slice aF0_fHammers_a aF0.fHammers.length aF0_fHammers_c)])] (by kernel_rfl) (by kernel_rfl) (fun w hm => laws_toFrame.calls aF0 w _ aF0_fHammers_a aF0.fHammers.length aF0_fHammers_c (hm.exRow aF0_fHammers_h List.not_mem_nil) rfl ht_39) ?_)
      rintro w v w' hm ⟨o_40, cap_41, sp_42, _, rfl, hs_43, ho_44, rfl, hm'⟩
      refine ⟨_, hm.app hm', jkD (fun w h => h.pick [0, 1, 2] (by kernel_rfl) (by kernel_rfl)) ?_⟩
      clear hm hm'
      obtain ⟨t_4, ht_45, h⟩ := bd h
      refine toD 3 (by kernel_rfl) (p_call 0 27 #[(.agg #[(.slice aW1_fPins_a aW1.fPins.length aW1_fPins_c), (.slice aW1_fStrokes_a aW1.fStrokes.length aW1_fStrokes_c)])] (by kernel_rfl) (by kernel_rfl) (fun w hm => laws_toWear.calls aW1 w _ aW1_fPins_a aW1.fPins.length aW1_fPins_c (hm.exRow aW1_fPins_h List.not_mem_nil) rfl aW1_fStrokes_a aW1.fStrokes.length aW1_fStrokes_c (hm.exRow aW1_fStrokes_h List.not_mem_nil) rfl ht_45) ?_)
      rintro w v w' hm ⟨o_46, cap_47, sp_48, _, rfl, hs_49, ho_50, o_51, cap_52, sp_53, _, rfl, hs_54, ho_55, rfl, hm'⟩
      refine ⟨_, hm.app hm', jkD (fun w h => h.pick [0, 1, 2] (by kernel_rfl) (by kernel_rfl)) ?_⟩
      clear hm hm'
      obtain ⟨t_5, ht_56, h⟩ := bd h
      refine toD 5 (by kernel_rfl) (p_call 0 56 #[(.agg #[(.int .i64 aV2.fPin), (.int .i64 aV2.fHammer)])] (by kernel_rfl) (by kernel_rfl) (fun w hm => laws_toLives.calls aV2 w _ ht_56) ?_)
      rintro w v w' hm ⟨rfl, hm'⟩
      refine ⟨_, hm.app hm', jkD (fun w h => h.pick [0, 1, 2] (by kernel_rfl) (by kernel_rfl)) ?_⟩
      clear hm hm'
      obtain ⟨t_6, ht_57, h⟩ := bd h
      refine toD 6 (by kernel_rfl) (p_call 0 60 #[(.agg #[(.int .i16 t_3.fSteps), (.slice (o_40.map fun b => ⟨b, 0, none⟩) t_3.fHammers.length cap_41)]), (.agg #[(.slice (o_46.map fun b => ⟨b, 0, none⟩) t_4.fPins.length cap_47), (.slice (o_51.map fun b => ⟨b, 0, none⟩) t_4.fStrokes.length cap_52)]), (.agg #[(.int .i64 t_5.fPin), (.int .i64 t_5.fHammer)])] (by kernel_rfl) (by kernel_rfl) (fun w hm => spec_WornOut.calls t_3 t_4 t_5 w _ (o_40.map fun b => ⟨b, 0, none⟩) t_3.fHammers.length cap_41 (hm.ownRow (hh := 3) (o := o_40) (T := 176) (enc := encGHammer) (xs := t_3.fHammers) (sp := sp_42) (by kernel_rfl) (fun e => (ho_44 e).1) encGHammer_len) rfl (o_46.map fun b => ⟨b, 0, none⟩) t_4.fPins.length cap_47 (hm.ownRow (hh := 4) (o := o_46) (T := 124) (enc := encGWornPin) (xs := t_4.fPins) (sp := sp_48) (by kernel_rfl) (fun e => (ho_50 e).1) encGWornPin_len) rfl (o_51.map fun b => ⟨b, 0, none⟩) t_4.fStrokes.length cap_52 (hm.ownRow (hh := 5) (o := o_51) (T := 2) (enc := encI64) (xs := t_4.fStrokes) (sp := sp_53) (by kernel_rfl) (fun e => (ho_55 e).1) encI64_len) rfl ht_57) ?_)
      rintro w v w' hm ⟨o_58, cap_59, sp_60, _, rfl, hs_61, ho_62, o_63, cap_64, sp_65, _, rfl, hs_66, ho_67, rfl, hm'⟩
      refine ⟨_, hm.app hm', jkD (fun w h => h.pick [0, 1, 2] (by kernel_rfl) (by kernel_rfl)) ?_⟩
      clear hm hm'
      refine jd_f [⟨7, 0, 0⟩, ⟨8, 0, 0⟩, ⟨9, 0, 0⟩, ⟨10, 0, 0⟩, ⟨11, 0, 0⟩, ⟨12, 0, 0⟩, ⟨13, 0, 0⟩] 0 (by kernel_rfl) (by kernel_rfl) (fun w h => h.pick [0, 1, 2] (by kernel_rfl) (by kernel_rfl)) (by kernel_rfl) (by kernel_rfl) ?_
      refine jd_end (by kernel_rfl) ?_
      refine jx_then ?_
      refine jc_seq ?_
      refine jc_region ?_
      refine jo_f [(0, 0)] (by kernel_rfl) ?_
      obtain ⟨t_7, ht_68, h⟩ := bd h
      refine toO (by kernel_rfl) (p_call 0 17 #[(.agg #[(.int .i16 aF0.fSteps), (.slice aF0_fHammers_a aF0.fHammers.length aF0_fHammers_c)])] (by kernel_rfl) (by kernel_rfl) (fun w hm => laws_toFrame.calls aF0 w _ aF0_fHammers_a aF0.fHammers.length aF0_fHammers_c (hm.exRow aF0_fHammers_h List.not_mem_nil) rfl ht_68) ?_)
      rintro w v w' hm ⟨o_69, cap_70, sp_71, _, rfl, hs_72, ho_73, rfl, hm'⟩
      refine ⟨_, hm.app hm', jkO ?_⟩
      clear hm hm'
      refine toO (by kernel_rfl) (p_a 0 [0] (by kernel_rfl) (fun b => by kernel_rfl) (fun b_74 => jkO ?_))
      refine toO (by kernel_rfl) (p_s 0 [9] (by kernel_rfl) (by kernel_rfl) (jkO ?_))
      refine jo_end (by kernel_rfl) ?_
      refine jx_then ?_
      refine jc_seq ?_
      refine jc_region ?_
      refine jo_f [(1, 0)] (by kernel_rfl) ?_
      obtain ⟨t_8, ht_75, h⟩ := bd h
      refine toO (by kernel_rfl) (p_call 0 27 #[(.agg #[(.slice aW1_fPins_a aW1.fPins.length aW1_fPins_c), (.slice aW1_fStrokes_a aW1.fStrokes.length aW1_fStrokes_c)])] (by kernel_rfl) (by kernel_rfl) (fun w hm => laws_toWear.calls aW1 w _ aW1_fPins_a aW1.fPins.length aW1_fPins_c (hm.exRow aW1_fPins_h List.not_mem_nil) rfl aW1_fStrokes_a aW1.fStrokes.length aW1_fStrokes_c (hm.exRow aW1_fStrokes_h List.not_mem_nil) rfl ht_75) ?_)
      rintro w v w' hm ⟨o_76, cap_77, sp_78, _, rfl, hs_79, ho_80, o_81, cap_82, sp_83, _, rfl, hs_84, ho_85, rfl, hm'⟩
      refine ⟨_, hm.app hm', jkO ?_⟩
      clear hm hm'
      refine toO (by kernel_rfl) (p_a 0 [0] (by kernel_rfl) (fun b => by kernel_rfl) (fun b_86 => jkO ?_))
      refine toO (by kernel_rfl) (p_s 0 [12] (by kernel_rfl) (by kernel_rfl) (jkO ?_))
      refine jo_end (by kernel_rfl) ?_
      refine jx_then ?_
      refine jc_seq ?_
      refine jc_draw [⟨some b_1, 25, [(.int .i16 aF0.fSteps), (.slice aF0_fHammers_a aF0.fHammers.length aF0_fHammers_c)]⟩, ⟨some b_2, 47, [(.slice aW1_fPins_a aW1.fPins.length aW1_fPins_c), (.slice aW1_fStrokes_a aW1.fStrokes.length aW1_fStrokes_c)]⟩, ⟨some b_3, 92, [(.int .i64 aV2.fPin), (.int .i64 aV2.fHammer)]⟩, ⟨o_40, 176, row encGHammer t_3.fHammers sp_42⟩, ⟨o_46, 124, row encGWornPin t_4.fPins sp_48⟩, ⟨o_51, 2, row encI64 t_4.fStrokes sp_53⟩, ⟨o_58, 124, row encGWornPin t_6.1 sp_60⟩, ⟨o_63, 2, row encI64 t_6.2.1 sp_65⟩, ⟨o_69, 176, row encGHammer t_7.fHammers sp_71⟩, ⟨some b_74, 35, [(.int .i16 t_7.fSteps), (.slice (o_69.map fun b => ⟨b, 0, none⟩) t_7.fHammers.length cap_70)]⟩, ⟨o_76, 124, row encGWornPin t_8.fPins sp_78⟩, ⟨o_81, 2, row encI64 t_8.fStrokes sp_83⟩, ⟨some b_86, 52, [(.slice (o_76.map fun b => ⟨b, 0, none⟩) t_8.fPins.length cap_77), (.slice (o_81.map fun b => ⟨b, 0, none⟩) t_8.fStrokes.length cap_82)]⟩] 12 (by kernel_rfl) (by kernel_rfl) ?_
      refine jd_f [⟨0, 9, 0⟩, ⟨1, 12, 0⟩, ⟨2, 2, 0⟩] 9 (by kernel_rfl) (by kernel_rfl) (fun w h => h.pick [0, 1, 2, 3, 4, 5, 6, 7, 8, 9, 10, 11, 12] (by kernel_rfl) (by kernel_rfl)) (by kernel_rfl) (by kernel_rfl) ?_
      obtain ⟨t_9, ht_99, h⟩ := bd h
      refine toD 3 (by kernel_rfl) (p_call 0 56 #[(.agg #[(.int .i64 aV2.fPin), (.int .i64 aV2.fHammer)])] (by kernel_rfl) (by kernel_rfl) (fun w hm => laws_toLives.calls aV2 w _ ht_99) ?_)
      rintro w v w' hm ⟨rfl, hm'⟩
      refine ⟨_, hm.app hm', jkD (fun w h => h.pick [0, 1, 2, 3, 4, 5, 6, 7, 8, 9, 10, 11, 12] (by kernel_rfl) (by kernel_rfl)) ?_⟩
      clear hm hm'
      obtain ⟨t_10, ht_100, h⟩ := bd h
      refine toD 4 (by kernel_rfl) (p_call 0 61 #[(.agg #[(.int .i16 t_7.fSteps), (.slice (o_69.map fun b => ⟨b, 0, none⟩) t_7.fHammers.length cap_70)]), (.agg #[(.slice (o_76.map fun b => ⟨b, 0, none⟩) t_8.fPins.length cap_77), (.slice (o_81.map fun b => ⟨b, 0, none⟩) t_8.fStrokes.length cap_82)]), (.agg #[(.int .i64 t_9.fPin), (.int .i64 t_9.fHammer)])] (by kernel_rfl) (by kernel_rfl) (fun w hm => impl_WornOut.calls t_7 t_8 t_9 w _ (o_69.map fun b => ⟨b, 0, none⟩) t_7.fHammers.length cap_70 (hm.ownRow (hh := 8) (o := o_69) (T := 176) (enc := encGHammer) (xs := t_7.fHammers) (sp := sp_71) (by kernel_rfl) (fun e => (ho_73 e).1) encGHammer_len) rfl (o_76.map fun b => ⟨b, 0, none⟩) t_8.fPins.length cap_77 (hm.ownRow (hh := 10) (o := o_76) (T := 124) (enc := encGWornPin) (xs := t_8.fPins) (sp := sp_78) (by kernel_rfl) (fun e => (ho_80 e).1) encGWornPin_len) rfl (o_81.map fun b => ⟨b, 0, none⟩) t_8.fStrokes.length cap_82 (hm.ownRow (hh := 11) (o := o_81) (T := 2) (enc := encI64) (xs := t_8.fStrokes) (sp := sp_83) (by kernel_rfl) (fun e => (ho_85 e).1) encI64_len) rfl ht_100) ?_)
      rintro w v w' hm ⟨o_101, cap_102, sp_103, _, rfl, hs_104, ho_105, o_106, cap_107, sp_108, _, rfl, hs_109, ho_110, rfl, hm'⟩
      refine ⟨_, hm.app hm', jkD (fun w h => h.pick [0, 1, 2, 3, 4, 5, 6, 7, 8, 9, 10, 11, 12] (by kernel_rfl) (by kernel_rfl)) ?_⟩
      clear hm hm'
      refine jd_f [⟨5, 0, 0⟩, ⟨6, 0, 0⟩, ⟨7, 0, 0⟩, ⟨8, 0, 0⟩, ⟨9, 0, 0⟩, ⟨10, 0, 0⟩, ⟨11, 0, 0⟩] 0 (by kernel_rfl) (by kernel_rfl) (fun w h => h.pick [0, 1, 2, 3, 4, 5, 6, 7, 8, 9, 10, 11, 12] (by kernel_rfl) (by kernel_rfl)) (by kernel_rfl) (by kernel_rfl) ?_
      refine jd_end (by kernel_rfl) ?_
      refine jx_then ?_
      refine jc_seq ?_
      refine jc_seq ?_
      refine jc_meet (fun (j : Bool) => match j with | q_11 => laws_FnExactWornOut.k_12 aF0 aW1 aV2 t_6 t_7 t_8 t_10 q_11 = some r) (fun (j : Bool) => match j with | q_11 => [(3, [], (.pointer (some ⟨b_1, 0, none⟩))), (4, [], (.pointer (some ⟨b_2, 0, none⟩))), (5, [], (.pointer (some ⟨b_3, 0, none⟩))), (6, [], (.bool false)), (8, [], (.slice (o_58.map fun b => ⟨b, 0, none⟩) t_6.1.length cap_59)), (9, [], (.slice (o_63.map fun b => ⟨b, 0, none⟩) t_6.2.1.length cap_64)), (10, [], (.int .i64 t_6.2.2)), (11, [], (.pointer (some ⟨b_74, 0, none⟩))), (12, [], (.pointer (some ⟨b_86, 0, none⟩))), (13, [], (.slice (o_101.map fun b => ⟨b, 0, none⟩) t_10.1.length cap_102)), (14, [], (.slice (o_106.map fun b => ⟨b, 0, none⟩) t_10.2.1.length cap_107)), (15, [], (.int .i64 t_10.2.2)), (70, [], (.bool q_11))]) (fun (j : Bool) => match j with | q_11 => [⟨some b_1, 25, [(.int .i16 aF0.fSteps), (.slice aF0_fHammers_a aF0.fHammers.length aF0_fHammers_c)]⟩, ⟨some b_2, 47, [(.slice aW1_fPins_a aW1.fPins.length aW1_fPins_c), (.slice aW1_fStrokes_a aW1.fStrokes.length aW1_fStrokes_c)]⟩, ⟨some b_3, 92, [(.int .i64 aV2.fPin), (.int .i64 aV2.fHammer)]⟩, ⟨o_40, 176, row encGHammer t_3.fHammers sp_42⟩, ⟨o_46, 124, row encGWornPin t_4.fPins sp_48⟩, ⟨o_51, 2, row encI64 t_4.fStrokes sp_53⟩, ⟨o_58, 124, row encGWornPin t_6.1 sp_60⟩, ⟨o_63, 2, row encI64 t_6.2.1 sp_65⟩, ⟨o_69, 176, row encGHammer t_7.fHammers sp_71⟩, ⟨some b_74, 35, [(.int .i16 t_7.fSteps), (.slice (o_69.map fun b => ⟨b, 0, none⟩) t_7.fHammers.length cap_70)]⟩, ⟨o_76, 124, row encGWornPin t_8.fPins sp_78⟩, ⟨o_81, 2, row encI64 t_8.fStrokes sp_83⟩, ⟨some b_86, 52, [(.slice (o_76.map fun b => ⟨b, 0, none⟩) t_8.fPins.length cap_77), (.slice (o_81.map fun b => ⟨b, 0, none⟩) t_8.fStrokes.length cap_82)]⟩, ⟨o_101, 124, row encGWornPin t_10.1 sp_103⟩, ⟨o_106, 2, row encI64 t_10.2.1 sp_108⟩]) ?_ ?_
      · refine jc_region ?_
        refine jo_f [(0, 0), (0, 0)] (by kernel_rfl) ?_
        obtain ⟨t_37, ht_439, h⟩ := bd h
        refine toO (by kernel_rfl) (p_call 0 62 #[(.slice (o_101.map fun b => ⟨b, 0, none⟩) t_10.1.length cap_102), (.slice (o_58.map fun b => ⟨b, 0, none⟩) t_6.1.length cap_59)] (by kernel_rfl) (by kernel_rfl) (fun w hm => laws_eqWornPinS.calls t_10.1 t_6.1 w _ (o_101.map fun b => ⟨b, 0, none⟩) t_10.1.length cap_102 (hm.ownRow (hh := 13) (o := o_101) (T := 124) (enc := encGWornPin) (xs := t_10.1) (sp := sp_103) (by kernel_rfl) (fun e => (ho_105 e).1) encGWornPin_len) rfl (o_58.map fun b => ⟨b, 0, none⟩) t_6.1.length cap_59 (hm.ownRow (hh := 6) (o := o_58) (T := 124) (enc := encGWornPin) (xs := t_6.1) (sp := sp_60) (by kernel_rfl) (fun e => (ho_62 e).1) encGWornPin_len) rfl ht_439) ?_)
        rintro w v w' hm ⟨rfl, hm'⟩
        refine ⟨_, hm.app hm', jkO ?_⟩
        clear hm hm'
        refine jo_f [(0, 0), (0, 0), (0, 1), (0, 1)] (by kernel_rfl) ?_
        refine jo_split 60 (!t_37) (by kernel_rfl) (fun hc_440 => ?_) (fun hc_440 => ?_)
        · replace h := ifT hc_440 h
          refine jo_f [(0, 3), (0, 3), (0, 4), (0, 0), (0, 3), (0, 3), (0, 3), (0, 4)] (by kernel_rfl) ?_
          refine jo_end (by kernel_rfl) ?_
          exact jx_meet true h (by kernel_rfl) [0, 1, 2, 3, 4, 5, 6, 7, 8, 9, 10, 11, 12, 13, 14] (by kernel_rfl) (by kernel_rfl)
        · replace h := ifF hc_440 h
          obtain ⟨t_38, ht_441, h⟩ := bd h
          refine toO (by kernel_rfl) (p_call 2 51 #[(.slice (o_106.map fun b => ⟨b, 0, none⟩) t_10.2.1.length cap_107), (.slice (o_63.map fun b => ⟨b, 0, none⟩) t_6.2.1.length cap_64)] (by kernel_rfl) (by kernel_rfl) (fun w hm => laws_eqInt64S.calls t_10.2.1 t_6.2.1 w _ (o_106.map fun b => ⟨b, 0, none⟩) t_10.2.1.length cap_107 (hm.ownRow (hh := 14) (o := o_106) (T := 2) (enc := encI64) (xs := t_10.2.1) (sp := sp_108) (by kernel_rfl) (fun e => (ho_110 e).1) encI64_len) rfl (o_63.map fun b => ⟨b, 0, none⟩) t_6.2.1.length cap_64 (hm.ownRow (hh := 7) (o := o_63) (T := 2) (enc := encI64) (xs := t_6.2.1) (sp := sp_65) (by kernel_rfl) (fun e => (ho_67 e).1) encI64_len) rfl ht_441) ?_)
          rintro w v w' hm ⟨rfl, hm'⟩
          refine ⟨_, hm.app hm', jkO ?_⟩
          clear hm hm'
          refine jo_f [(0, 2), (0, 5), (0, 0), (0, 1), (0, 1), (0, 1), (0, 0)] (by kernel_rfl) ?_
          refine jo_end (by kernel_rfl) ?_
          exact jx_meet ((!t_38) || (t_10.2.2 != t_6.2.2)) h (by kernel_rfl) [0, 1, 2, 3, 4, 5, 6, 7, 8, 9, 10, 11, 12, 13, 14] (by kernel_rfl) (by kernel_rfl)
      · rintro q_11 h
        replace h : laws_FnExactWornOut.k_12 aF0 aW1 aV2 t_6 t_7 t_8 t_10 q_11 = some r := h
        rw [laws_FnExactWornOut.k_12] at h
        refine jx_then ?_
        refine jc_cond q_11 (by kernel_rfl) (fun hc_121 => ?_) (fun hc_121 => ?_)
        · replace h := ifT hc_121 h
          refine jc_seq ?_
          refine jc_region ?_
          refine jo_f [(0, 0)] (by kernel_rfl) ?_
          refine jo_end (by kernel_rfl) ?_
          refine jx_then ?_
          refine jc_ret ?_
          refine jx_thenr ?_
          obtain rfl := Option.some.inj h
          exact jx_ret [] (.bool false) [] rfl (by kernel_rfl) (by kernel_rfl) (fun w hm => ⟨rfl, hm.pick [] (by kernel_rfl) (by kernel_rfl)⟩)
        · replace h := ifF hc_121 h
          refine jc_skip ?_
          refine jx_then ?_
          refine jc_seq ?_
          refine jc_seq ?_
          refine jc_draw [⟨some b_1, 25, [(.int .i16 aF0.fSteps), (.slice aF0_fHammers_a aF0.fHammers.length aF0_fHammers_c)]⟩, ⟨some b_2, 47, [(.slice aW1_fPins_a aW1.fPins.length aW1_fPins_c), (.slice aW1_fStrokes_a aW1.fStrokes.length aW1_fStrokes_c)]⟩, ⟨some b_3, 92, [(.int .i64 aV2.fPin), (.int .i64 aV2.fHammer)]⟩, ⟨o_40, 176, row encGHammer t_3.fHammers sp_42⟩, ⟨o_46, 124, row encGWornPin t_4.fPins sp_48⟩, ⟨o_51, 2, row encI64 t_4.fStrokes sp_53⟩, ⟨o_58, 124, row encGWornPin t_6.1 sp_60⟩, ⟨o_63, 2, row encI64 t_6.2.1 sp_65⟩, ⟨o_69, 176, row encGHammer t_7.fHammers sp_71⟩, ⟨some b_74, 35, [(.int .i16 t_7.fSteps), (.slice (o_69.map fun b => ⟨b, 0, none⟩) t_7.fHammers.length cap_70)]⟩, ⟨o_76, 124, row encGWornPin t_8.fPins sp_78⟩, ⟨o_81, 2, row encI64 t_8.fStrokes sp_83⟩, ⟨some b_86, 52, [(.slice (o_76.map fun b => ⟨b, 0, none⟩) t_8.fPins.length cap_77), (.slice (o_81.map fun b => ⟨b, 0, none⟩) t_8.fStrokes.length cap_82)]⟩, ⟨o_101, 124, row encGWornPin t_10.1 sp_103⟩, ⟨o_106, 2, row encI64 t_10.2.1 sp_108⟩] 5 (by kernel_rfl) (by kernel_rfl) ?_
          refine jd_f [⟨0, 9, 0⟩, ⟨1, 0, 0⟩] 3 (by kernel_rfl) (by kernel_rfl) (fun w h => h.pick [0, 1, 2, 3, 4, 5, 6, 7, 8, 9, 10, 11, 12, 13, 14] (by kernel_rfl) (by kernel_rfl)) (by kernel_rfl) (by kernel_rfl) ?_
          obtain ⟨t_13, ht_144, h⟩ := bd h
          refine toD 2 (by kernel_rfl) (p_call 0 17 #[(.agg #[(.int .i16 aF0.fSteps), (.slice aF0_fHammers_a aF0.fHammers.length aF0_fHammers_c)])] (by kernel_rfl) (by kernel_rfl) (fun w hm => laws_toFrame.calls aF0 w _ aF0_fHammers_a aF0.fHammers.length aF0_fHammers_c (hm.exRow aF0_fHammers_h List.not_mem_nil) rfl ht_144) ?_)
          rintro w v w' hm ⟨o_145, cap_146, sp_147, _, rfl, hs_148, ho_149, rfl, hm'⟩
          refine ⟨_, hm.app hm', jkD (fun w h => h.pick [0, 1, 2, 3, 4, 5, 6, 7, 8, 9, 10, 11, 12, 13, 14] (by kernel_rfl) (by kernel_rfl)) ?_⟩
          clear hm hm'
          obtain ⟨t_14, ht_150, h⟩ := bd h
          refine toD 3 (by kernel_rfl) (p_call 0 21 #[(.agg #[(.int .i16 t_7.fSteps), (.slice (o_69.map fun b => ⟨b, 0, none⟩) t_7.fHammers.length cap_70)]), (.agg #[(.int .i16 t_13.fSteps), (.slice (o_145.map fun b => ⟨b, 0, none⟩) t_13.fHammers.length cap_146)])] (by kernel_rfl) (by kernel_rfl) (fun w hm => laws_eqFrame.calls t_7 t_13 w _ (o_69.map fun b => ⟨b, 0, none⟩) t_7.fHammers.length cap_70 (hm.ownRow (hh := 8) (o := o_69) (T := 176) (enc := encGHammer) (xs := t_7.fHammers) (sp := sp_71) (by kernel_rfl) (fun e => (ho_73 e).1) encGHammer_len) rfl (o_145.map fun b => ⟨b, 0, none⟩) t_13.fHammers.length cap_146 (hm.ownRow (hh := 15) (o := o_145) (T := 176) (enc := encGHammer) (xs := t_13.fHammers) (sp := sp_147) (by kernel_rfl) (fun e => (ho_149 e).1) encGHammer_len) rfl ht_150) ?_)
          rintro w v w' hm ⟨rfl, hm'⟩
          refine ⟨_, hm.app hm', jkD (fun w h => h.pick [0, 1, 2, 3, 4, 5, 6, 7, 8, 9, 10, 11, 12, 13, 14] (by kernel_rfl) (by kernel_rfl)) ?_⟩
          clear hm hm'
          refine jd_f [⟨4, 0, 0⟩] 0 (by kernel_rfl) (by kernel_rfl) (fun w h => h.pick [0, 1, 2, 3, 4, 5, 6, 7, 8, 9, 10, 11, 12, 13, 14] (by kernel_rfl) (by kernel_rfl)) (by kernel_rfl) (by kernel_rfl) ?_
          refine jd_end (by kernel_rfl) ?_
          refine jx_then ?_
          refine jc_cond (!t_14) (by kernel_rfl) (fun hc_151 => ?_) (fun hc_151 => ?_)
          · replace h := ifT hc_151 h
            refine jc_seq ?_
            refine jc_region ?_
            refine jo_f [(0, 0)] (by kernel_rfl) ?_
            refine jo_end (by kernel_rfl) ?_
            refine jx_then ?_
            refine jc_ret ?_
            refine jx_thenr ?_
            obtain rfl := Option.some.inj h
            exact jx_ret [] (.bool false) [] rfl (by kernel_rfl) (by kernel_rfl) (fun w hm => ⟨rfl, hm.pick [] (by kernel_rfl) (by kernel_rfl)⟩)
          · replace h := ifF hc_151 h
            refine jc_skip ?_
            refine jx_then ?_
            refine jc_seq ?_
            refine jc_seq ?_
            refine jc_draw [⟨some b_1, 25, [(.int .i16 aF0.fSteps), (.slice aF0_fHammers_a aF0.fHammers.length aF0_fHammers_c)]⟩, ⟨some b_2, 47, [(.slice aW1_fPins_a aW1.fPins.length aW1_fPins_c), (.slice aW1_fStrokes_a aW1.fStrokes.length aW1_fStrokes_c)]⟩, ⟨some b_3, 92, [(.int .i64 aV2.fPin), (.int .i64 aV2.fHammer)]⟩, ⟨o_40, 176, row encGHammer t_3.fHammers sp_42⟩, ⟨o_46, 124, row encGWornPin t_4.fPins sp_48⟩, ⟨o_51, 2, row encI64 t_4.fStrokes sp_53⟩, ⟨o_58, 124, row encGWornPin t_6.1 sp_60⟩, ⟨o_63, 2, row encI64 t_6.2.1 sp_65⟩, ⟨some b_74, 35, [(.int .i16 t_7.fSteps), (.slice (o_69.map fun b => ⟨b, 0, none⟩) t_7.fHammers.length cap_70)]⟩, ⟨some b_86, 52, [(.slice (o_76.map fun b => ⟨b, 0, none⟩) t_8.fPins.length cap_77), (.slice (o_81.map fun b => ⟨b, 0, none⟩) t_8.fStrokes.length cap_82)]⟩, ⟨o_145, 176, row encGHammer t_13.fHammers sp_147⟩] 5 (by kernel_rfl) (by kernel_rfl) ?_
            refine jd_f [⟨0, 9, 0⟩, ⟨1, 1, 0⟩] 3 (by kernel_rfl) (by kernel_rfl) (fun w h => h.pick [0, 1, 2, 3, 4, 5, 6, 7, 9, 12, 15] (by kernel_rfl) (by kernel_rfl)) (by kernel_rfl) (by kernel_rfl) ?_
            obtain ⟨t_15, ht_307, h⟩ := bd h
            refine toD 2 (by kernel_rfl) (p_call 0 27 #[(.agg #[(.slice aW1_fPins_a aW1.fPins.length aW1_fPins_c), (.slice aW1_fStrokes_a aW1.fStrokes.length aW1_fStrokes_c)])] (by kernel_rfl) (by kernel_rfl) (fun w hm => laws_toWear.calls aW1 w _ aW1_fPins_a aW1.fPins.length aW1_fPins_c (hm.exRow aW1_fPins_h List.not_mem_nil) rfl aW1_fStrokes_a aW1.fStrokes.length aW1_fStrokes_c (hm.exRow aW1_fStrokes_h List.not_mem_nil) rfl ht_307) ?_)
            rintro w v w' hm ⟨o_308, cap_309, sp_310, _, rfl, hs_311, ho_312, o_313, cap_314, sp_315, _, rfl, hs_316, ho_317, rfl, hm'⟩
            refine ⟨_, hm.app hm', jkD (fun w h => h.pick [0, 1, 2, 3, 4, 5, 6, 7, 9, 12, 15] (by kernel_rfl) (by kernel_rfl)) ?_⟩
            clear hm hm'
            obtain ⟨t_16, ht_318, h⟩ := bd h
            refine toD 3 (by kernel_rfl) (p_call 0 29 #[(.agg #[(.slice (o_76.map fun b => ⟨b, 0, none⟩) t_8.fPins.length cap_77), (.slice (o_81.map fun b => ⟨b, 0, none⟩) t_8.fStrokes.length cap_82)]), (.agg #[(.slice (o_308.map fun b => ⟨b, 0, none⟩) t_15.fPins.length cap_309), (.slice (o_313.map fun b => ⟨b, 0, none⟩) t_15.fStrokes.length cap_314)])] (by kernel_rfl) (by kernel_rfl) (fun w hm => laws_eqWear.calls t_8 t_15 w _ (o_76.map fun b => ⟨b, 0, none⟩) t_8.fPins.length cap_77 (hm.ownRow (hh := 10) (o := o_76) (T := 124) (enc := encGWornPin) (xs := t_8.fPins) (sp := sp_78) (by kernel_rfl) (fun e => (ho_80 e).1) encGWornPin_len) rfl (o_81.map fun b => ⟨b, 0, none⟩) t_8.fStrokes.length cap_82 (hm.ownRow (hh := 11) (o := o_81) (T := 2) (enc := encI64) (xs := t_8.fStrokes) (sp := sp_83) (by kernel_rfl) (fun e => (ho_85 e).1) encI64_len) rfl (o_308.map fun b => ⟨b, 0, none⟩) t_15.fPins.length cap_309 (hm.ownRow (hh := 16) (o := o_308) (T := 124) (enc := encGWornPin) (xs := t_15.fPins) (sp := sp_310) (by kernel_rfl) (fun e => (ho_312 e).1) encGWornPin_len) rfl (o_313.map fun b => ⟨b, 0, none⟩) t_15.fStrokes.length cap_314 (hm.ownRow (hh := 17) (o := o_313) (T := 2) (enc := encI64) (xs := t_15.fStrokes) (sp := sp_315) (by kernel_rfl) (fun e => (ho_317 e).1) encI64_len) rfl ht_318) ?_)
            rintro w v w' hm ⟨rfl, hm'⟩
            refine ⟨_, hm.app hm', jkD (fun w h => h.pick [0, 1, 2, 3, 4, 5, 6, 7, 9, 12, 15] (by kernel_rfl) (by kernel_rfl)) ?_⟩
            clear hm hm'
            refine jd_f [⟨4, 0, 0⟩] 0 (by kernel_rfl) (by kernel_rfl) (fun w h => h.pick [0, 1, 2, 3, 4, 5, 6, 7, 9, 12, 15] (by kernel_rfl) (by kernel_rfl)) (by kernel_rfl) (by kernel_rfl) ?_
            refine jd_end (by kernel_rfl) ?_
            refine jx_then ?_
            refine jc_cond (!t_16) (by kernel_rfl) (fun hc_319 => ?_) (fun hc_319 => ?_)
            · replace h := ifT hc_319 h
              refine jc_seq ?_
              refine jc_region ?_
              refine jo_f [(0, 0)] (by kernel_rfl) ?_
              refine jo_end (by kernel_rfl) ?_
              refine jx_then ?_
              refine jc_ret ?_
              refine jx_thenr ?_
              obtain rfl := Option.some.inj h
              exact jx_ret [] (.bool false) [] rfl (by kernel_rfl) (by kernel_rfl) (fun w hm => ⟨rfl, hm.pick [] (by kernel_rfl) (by kernel_rfl)⟩)
            · replace h := ifF hc_319 h
              refine jc_skip ?_
              refine jx_then ?_
              refine jc_seq ?_
              refine jc_region ?_
              refine jo_f [(0, 0)] (by kernel_rfl) ?_
              refine jo_end (by kernel_rfl) ?_
              refine jx_then ?_
              refine jc_seq ?_
              refine jc_region ?_
              refine jo_f [(9, 0), (0, 0)] (by kernel_rfl) ?_
              obtain ⟨t_17, ht_320, h⟩ := bd h
              refine toO (by kernel_rfl) (p_call 0 22 #[(.agg #[(.int .i16 t_7.fSteps), (.slice (o_69.map fun b => ⟨b, 0, none⟩) t_7.fHammers.length cap_70)]), (.int .i64 1)] (by kernel_rfl) (by kernel_rfl) (fun w hm => laws_markFrame.calls t_7 1 w _ o_69 t_7.fHammers.length cap_70 sp_71 rfl hs_72 ho_73 (hm.pass (N := [⟨o_69, 176, row encGHammer t_7.fHammers sp_71⟩]) [8] (by kernel_rfl) (by kernel_rfl)) ht_320) ?_)
              rintro w v w' hm ⟨hn_321, ho_322, rfl, hm'⟩
              refine ⟨_, hm.appW (ps := [(8, ⟨o_69, 176, row encGHammer t_17.2 sp_71⟩)]) (N := []) hm' (by kernel_rfl) (by kernel_rfl), jkO ?_⟩
              clear hm hm'
              refine jo_f [(0, 0)] (by kernel_rfl) ?_
              refine jo_end (by kernel_rfl) ?_
              refine jx_then ?_
              refine jc_seq ?_
              refine jc_region ?_
              refine jo_f [(12, 0), (0, 0)] (by kernel_rfl) ?_
              obtain ⟨t_18, ht_323, h⟩ := bd h
              refine toO (by kernel_rfl) (p_call 0 37 #[(.agg #[(.slice (o_76.map fun b => ⟨b, 0, none⟩) t_8.fPins.length cap_77), (.slice (o_81.map fun b => ⟨b, 0, none⟩) t_8.fStrokes.length cap_82)]), (.int .i64 t_17.1)] (by kernel_rfl) (by kernel_rfl) (fun w hm => laws_markWear.calls t_8 t_17.1 w _ o_76 t_8.fPins.length cap_77 sp_78 rfl hs_79 ho_80 o_81 t_8.fStrokes.length cap_82 sp_83 rfl hs_84 ho_85 (hm.pass (N := [⟨o_76, 124, row encGWornPin t_8.fPins sp_78⟩, ⟨o_81, 2, row encI64 t_8.fStrokes sp_83⟩]) [10, 11] (by kernel_rfl) (by kernel_rfl)) ht_323) ?_)
              rintro w v w' hm ⟨hn_324, ho_325, hn_326, ho_327, rfl, hm'⟩
              refine ⟨_, hm.appW (ps := [(10, ⟨o_76, 124, row encGWornPin t_18.2.1 sp_78⟩), (11, ⟨o_81, 2, row encI64 t_18.2.2 sp_83⟩)]) (N := []) hm' (by kernel_rfl) (by kernel_rfl), jkO ?_⟩
              clear hm hm'
              refine jo_f [(0, 0)] (by kernel_rfl) ?_
              refine jo_end (by kernel_rfl) ?_
              refine jx_then ?_
              refine jc_seq ?_
              refine jc_seq ?_
              refine jc_meet (fun (j : Bool) => match j with | q_19 => laws_FnExactWornOut.k_20 aF0 aW1 aV2 t_6 t_10 q_19 = some r) (fun (j : Bool) => match j with | q_19 => [(3, [], (.pointer (some ⟨b_1, 0, none⟩))), (4, [], (.pointer (some ⟨b_2, 0, none⟩))), (5, [], (.pointer (some ⟨b_3, 0, none⟩))), (6, [], (.bool false)), (8, [], (.slice (o_58.map fun b => ⟨b, 0, none⟩) t_6.1.length cap_59)), (9, [], (.slice (o_63.map fun b => ⟨b, 0, none⟩) t_6.2.1.length cap_64)), (10, [], (.int .i64 t_6.2.2)), (13, [], (.slice (o_101.map fun b => ⟨b, 0, none⟩) t_10.1.length cap_102)), (14, [], (.slice (o_106.map fun b => ⟨b, 0, none⟩) t_10.2.1.length cap_107)), (105, [], (.bool q_19))]) (fun (j : Bool) => match j with | q_19 => [⟨some b_1, 25, [(.int .i16 aF0.fSteps), (.slice aF0_fHammers_a aF0.fHammers.length aF0_fHammers_c)]⟩, ⟨some b_2, 47, [(.slice aW1_fPins_a aW1.fPins.length aW1_fPins_c), (.slice aW1_fStrokes_a aW1.fStrokes.length aW1_fStrokes_c)]⟩, ⟨some b_3, 92, [(.int .i64 aV2.fPin), (.int .i64 aV2.fHammer)]⟩, ⟨o_40, 176, row encGHammer t_3.fHammers sp_42⟩, ⟨o_46, 124, row encGWornPin t_4.fPins sp_48⟩, ⟨o_51, 2, row encI64 t_4.fStrokes sp_53⟩, ⟨o_58, 124, row encGWornPin t_6.1 sp_60⟩, ⟨o_63, 2, row encI64 t_6.2.1 sp_65⟩, ⟨o_69, 176, row encGHammer t_17.2 sp_71⟩, ⟨some b_74, 35, [(.int .i16 t_7.fSteps), (.slice (o_69.map fun b => ⟨b, 0, none⟩) t_7.fHammers.length cap_70)]⟩, ⟨o_76, 124, row encGWornPin t_18.2.1 sp_78⟩, ⟨o_81, 2, row encI64 t_18.2.2 sp_83⟩, ⟨some b_86, 52, [(.slice (o_76.map fun b => ⟨b, 0, none⟩) t_8.fPins.length cap_77), (.slice (o_81.map fun b => ⟨b, 0, none⟩) t_8.fStrokes.length cap_82)]⟩, ⟨o_101, 124, row encGWornPin t_10.1 sp_103⟩, ⟨o_106, 2, row encI64 t_10.2.1 sp_108⟩, ⟨o_145, 176, row encGHammer t_13.fHammers sp_147⟩, ⟨o_308, 124, row encGWornPin t_15.fPins sp_310⟩, ⟨o_313, 2, row encI64 t_15.fStrokes sp_315⟩]) ?_ ?_
              · refine jc_region ?_
                refine jo_f [(0, 0), (0, 0), (0, 0), (0, 1), (0, 1)] (by kernel_rfl) ?_
                refine jo_split 89 (decide (t_18.1 < 0)) (by kernel_rfl) (fun hc_435 => ?_) (fun hc_435 => ?_)
                · replace h := ifT hc_435 h
                  refine jo_f [(0, 3), (0, 3), (0, 4), (0, 0), (0, 3), (0, 3), (0, 3), (0, 3), (0, 4), (0, 0), (0, 3), (0, 3), (0, 3), (0, 4)] (by kernel_rfl) ?_
                  refine jo_end (by kernel_rfl) ?_
                  exact jx_meet true h (by kernel_rfl) [0, 1, 2, 3, 4, 5, 6, 7, 8, 9, 10, 11, 12, 13, 14, 15, 16, 17] (by kernel_rfl) (by kernel_rfl)
                · replace h := ifF hc_435 h
                  obtain ⟨t_35, ht_436, h⟩ := bd h
                  refine toO (by kernel_rfl) (p_call 2 62 #[(.slice (o_101.map fun b => ⟨b, 0, none⟩) t_10.1.length cap_102), (.slice (o_58.map fun b => ⟨b, 0, none⟩) t_6.1.length cap_59)] (by kernel_rfl) (by kernel_rfl) (fun w hm => laws_eqWornPinS.calls t_10.1 t_6.1 w _ (o_101.map fun b => ⟨b, 0, none⟩) t_10.1.length cap_102 (hm.ownRow (hh := 13) (o := o_101) (T := 124) (enc := encGWornPin) (xs := t_10.1) (sp := sp_103) (by kernel_rfl) (fun e => (ho_105 e).1) encGWornPin_len) rfl (o_58.map fun b => ⟨b, 0, none⟩) t_6.1.length cap_59 (hm.ownRow (hh := 6) (o := o_58) (T := 124) (enc := encGWornPin) (xs := t_6.1) (sp := sp_60) (by kernel_rfl) (fun e => (ho_62 e).1) encGWornPin_len) rfl ht_436) ?_)
                  rintro w v w' hm ⟨rfl, hm'⟩
                  refine ⟨_, hm.app hm', jkO ?_⟩
                  clear hm hm'
                  refine jo_f [(0, 2), (0, 5), (0, 0), (0, 1), (0, 1)] (by kernel_rfl) ?_
                  refine jo_split 95 (!t_35) (by kernel_rfl) (fun hc_437 => ?_) (fun hc_437 => ?_)
                  · replace h := ifT hc_437 h
                    refine jo_f [(0, 3), (0, 3), (0, 4), (0, 0), (0, 3), (0, 3), (0, 3), (0, 4)] (by kernel_rfl) ?_
                    refine jo_end (by kernel_rfl) ?_
                    exact jx_meet true h (by kernel_rfl) [0, 1, 2, 3, 4, 5, 6, 7, 8, 9, 10, 11, 12, 13, 14, 15, 16, 17] (by kernel_rfl) (by kernel_rfl)
                  · replace h := ifF hc_437 h
                    obtain ⟨t_36, ht_438, h⟩ := bd h
                    refine toO (by kernel_rfl) (p_call 2 51 #[(.slice (o_106.map fun b => ⟨b, 0, none⟩) t_10.2.1.length cap_107), (.slice (o_63.map fun b => ⟨b, 0, none⟩) t_6.2.1.length cap_64)] (by kernel_rfl) (by kernel_rfl) (fun w hm => laws_eqInt64S.calls t_10.2.1 t_6.2.1 w _ (o_106.map fun b => ⟨b, 0, none⟩) t_10.2.1.length cap_107 (hm.ownRow (hh := 14) (o := o_106) (T := 2) (enc := encI64) (xs := t_10.2.1) (sp := sp_108) (by kernel_rfl) (fun e => (ho_110 e).1) encI64_len) rfl (o_63.map fun b => ⟨b, 0, none⟩) t_6.2.1.length cap_64 (hm.ownRow (hh := 7) (o := o_63) (T := 2) (enc := encI64) (xs := t_6.2.1) (sp := sp_65) (by kernel_rfl) (fun e => (ho_67 e).1) encI64_len) rfl ht_438) ?_)
                    rintro w v w' hm ⟨rfl, hm'⟩
                    refine ⟨_, hm.app hm', jkO ?_⟩
                    clear hm hm'
                    refine jo_f [(0, 2), (0, 5), (0, 0), (0, 1), (0, 1), (0, 1), (0, 0)] (by kernel_rfl) ?_
                    refine jo_end (by kernel_rfl) ?_
                    exact jx_meet ((!t_36) || (t_10.2.2 != t_6.2.2)) h (by kernel_rfl) [0, 1, 2, 3, 4, 5, 6, 7, 8, 9, 10, 11, 12, 13, 14, 15, 16, 17] (by kernel_rfl) (by kernel_rfl)
              · rintro q_19 h
                replace h : laws_FnExactWornOut.k_20 aF0 aW1 aV2 t_6 t_10 q_19 = some r := h
                rw [laws_FnExactWornOut.k_20] at h
                refine jx_then ?_
                refine jc_cond q_19 (by kernel_rfl) (fun hc_341 => ?_) (fun hc_341 => ?_)
                · replace h := ifT hc_341 h
                  refine jc_seq ?_
                  refine jc_region ?_
                  refine jo_f [(0, 0)] (by kernel_rfl) ?_
                  refine jo_end (by kernel_rfl) ?_
                  refine jx_then ?_
                  refine jc_ret ?_
                  refine jx_thenr ?_
                  obtain rfl := Option.some.inj h
                  exact jx_ret [] (.bool false) [] rfl (by kernel_rfl) (by kernel_rfl) (fun w hm => ⟨rfl, hm.pick [] (by kernel_rfl) (by kernel_rfl)⟩)
                · replace h := ifF hc_341 h
                  refine jc_skip ?_
                  refine jx_then ?_
                  refine jc_seq ?_
                  refine jc_region ?_
                  refine jo_f [(0, 0)] (by kernel_rfl) ?_
                  refine jo_end (by kernel_rfl) ?_
                  refine jx_then ?_
                  refine jc_seq ?_
                  refine jc_region ?_
                  refine jo_f [(0, 0), (0, 0)] (by kernel_rfl) ?_
                  obtain ⟨t_21, ht_342, h⟩ := bd h
                  refine toO (by kernel_rfl) (p_call 0 63 #[(.slice (o_101.map fun b => ⟨b, 0, none⟩) t_10.1.length cap_102), (.int .i64 1)] (by kernel_rfl) (by kernel_rfl) (fun w hm => laws_markWornPinS.calls t_10.1 1 w _ o_101 t_10.1.length cap_102 sp_103 rfl hs_104 ho_105 (hm.pass (N := [⟨o_101, 124, row encGWornPin t_10.1 sp_103⟩]) [13] (by kernel_rfl) (by kernel_rfl)) ht_342) ?_)
                  rintro w v w' hm ⟨hn_343, ho_344, rfl, hm'⟩
                  refine ⟨_, hm.appW (ps := [(13, ⟨o_101, 124, row encGWornPin t_21.2 sp_103⟩)]) (N := []) hm' (by kernel_rfl) (by kernel_rfl), jkO ?_⟩
                  clear hm hm'
                  refine jo_f [(0, 0)] (by kernel_rfl) ?_
                  refine jo_end (by kernel_rfl) ?_
                  refine jx_then ?_
                  refine jc_seq ?_
                  refine jc_region ?_
                  refine jo_f [(0, 0), (0, 0)] (by kernel_rfl) ?_
                  obtain ⟨t_22, ht_345, h⟩ := bd h
                  refine toO (by kernel_rfl) (p_call 0 53 #[(.slice (o_106.map fun b => ⟨b, 0, none⟩) t_10.2.1.length cap_107), (.int .i64 t_21.1)] (by kernel_rfl) (by kernel_rfl) (fun w hm => laws_markInt64S.calls t_10.2.1 t_21.1 w _ o_106 t_10.2.1.length cap_107 sp_108 rfl hs_109 ho_110 (hm.pass (N := [⟨o_106, 2, row encI64 t_10.2.1 sp_108⟩]) [14] (by kernel_rfl) (by kernel_rfl)) ht_345) ?_)
                  rintro w v w' hm ⟨hn_346, ho_347, rfl, hm'⟩
                  refine ⟨_, hm.appW (ps := [(14, ⟨o_106, 2, row encI64 t_22.2 sp_108⟩)]) (N := []) hm' (by kernel_rfl) (by kernel_rfl), jkO ?_⟩
                  clear hm hm'
                  refine jo_f [(0, 0)] (by kernel_rfl) ?_
                  refine jo_end (by kernel_rfl) ?_
                  refine jx_then ?_
                  refine jc_seq ?_
                  refine jc_region ?_
                  refine jo_f [(0, 0)] (by kernel_rfl) ?_
                  refine jo_end (by kernel_rfl) ?_
                  refine jx_then ?_
                  refine jc_seq ?_
                  refine jc_region ?_
                  refine jo_f [(0, 0), (0, 0)] (by kernel_rfl) ?_
                  obtain ⟨t_23, ht_348, h⟩ := bd h
                  refine toO (by kernel_rfl) (p_call 0 64 #[(.slice (o_101.map fun b => ⟨b, 0, none⟩) t_10.1.length cap_102), (.int .i64 1)] (by kernel_rfl) (by kernel_rfl) (fun w hm => laws_heldWornPinS.calls t_21.2 1 w _ (o_101.map fun b => ⟨b, 0, none⟩) t_10.1.length cap_102 (hm.ownRow (hh := 13) (o := o_101) (T := 124) (enc := encGWornPin) (xs := t_21.2) (sp := sp_103) (by kernel_rfl) (fun e => (ho_344 e).1) encGWornPin_len) hn_343 ht_348) ?_)
                  rintro w v w' hm ⟨rfl, hm'⟩
                  refine ⟨_, hm.app hm', jkO ?_⟩
                  clear hm hm'
                  refine jo_f [(0, 0)] (by kernel_rfl) ?_
                  refine jo_end (by kernel_rfl) ?_
                  refine jx_then ?_
                  refine jc_seq ?_
                  refine jc_seq ?_
                  refine jc_region ?_
                  refine jo_f [(0, 0), (0, 0)] (by kernel_rfl) ?_
                  refine jo_end (by kernel_rfl) ?_
                  refine jx_then ?_
                  refine jc_cond (decide (t_23 < 0)) (by kernel_rfl) (fun hc_350 => ?_) (fun hc_350 => ?_)
                  · replace h := ifT hc_350 h
                    refine jc_seq ?_
                    refine jc_region ?_
                    refine jo_f [(0, 0)] (by kernel_rfl) ?_
                    refine jo_end (by kernel_rfl) ?_
                    refine jx_then ?_
                    refine jc_ret ?_
                    refine jx_thenr ?_
                    obtain rfl := Option.some.inj h
                    exact jx_ret [] (.bool false) [] rfl (by kernel_rfl) (by kernel_rfl) (fun w hm => ⟨rfl, hm.pick [] (by kernel_rfl) (by kernel_rfl)⟩)
                  · replace h := ifF hc_350 h
                    refine jc_skip ?_
                    refine jx_then ?_
                    refine jc_seq ?_
                    refine jc_region ?_
                    refine jo_f [(0, 0), (0, 0)] (by kernel_rfl) ?_
                    obtain ⟨t_24, ht_351, h⟩ := bd h
                    refine toO (by kernel_rfl) (p_call 0 54 #[(.slice (o_106.map fun b => ⟨b, 0, none⟩) t_10.2.1.length cap_107), (.int .i64 t_23)] (by kernel_rfl) (by kernel_rfl) (fun w hm => laws_heldInt64S.calls t_22.2 t_23 w _ (o_106.map fun b => ⟨b, 0, none⟩) t_10.2.1.length cap_107 (hm.ownRow (hh := 14) (o := o_106) (T := 2) (enc := encI64) (xs := t_22.2) (sp := sp_108) (by kernel_rfl) (fun e => (ho_347 e).1) encI64_len) hn_346 ht_351) ?_)
                    rintro w v w' hm ⟨rfl, hm'⟩
                    refine ⟨_, hm.app hm', jkO ?_⟩
                    clear hm hm'
                    refine jo_f [(0, 0)] (by kernel_rfl) ?_
                    refine jo_end (by kernel_rfl) ?_
                    refine jx_then ?_
                    refine jc_seq ?_
                    refine jc_seq ?_
                    refine jc_region ?_
                    refine jo_f [(0, 0), (0, 0)] (by kernel_rfl) ?_
                    refine jo_end (by kernel_rfl) ?_
                    refine jx_then ?_
                    refine jc_cond (decide (t_24 < 0)) (by kernel_rfl) (fun hc_353 => ?_) (fun hc_353 => ?_)
                    · replace h := ifT hc_353 h
                      refine jc_seq ?_
                      refine jc_region ?_
                      refine jo_f [(0, 0)] (by kernel_rfl) ?_
                      refine jo_end (by kernel_rfl) ?_
                      refine jx_then ?_
                      refine jc_ret ?_
                      refine jx_thenr ?_
                      obtain rfl := Option.some.inj h
                      exact jx_ret [] (.bool false) [] rfl (by kernel_rfl) (by kernel_rfl) (fun w hm => ⟨rfl, hm.pick [] (by kernel_rfl) (by kernel_rfl)⟩)
                    · replace h := ifF hc_353 h
                      refine jc_skip ?_
                      refine jx_then ?_
                      refine jc_seq ?_
                      refine jc_seq ?_
                      refine jc_region ?_
                      refine jo_f [(0, 0), (0, 0), (0, 0)] (by kernel_rfl) ?_
                      refine jo_end (by kernel_rfl) ?_
                      refine jx_then ?_
                      refine jc_cond (t_24 != t_22.1) (by kernel_rfl) (fun hc_355 => ?_) (fun hc_355 => ?_)
                      · replace h := ifT hc_355 h
                        refine jc_seq ?_
                        refine jc_region ?_
                        refine jo_f [(0, 0)] (by kernel_rfl) ?_
                        refine jo_end (by kernel_rfl) ?_
                        refine jx_then ?_
                        refine jc_ret ?_
                        refine jx_thenr ?_
                        obtain rfl := Option.some.inj h
                        exact jx_ret [] (.bool false) [] rfl (by kernel_rfl) (by kernel_rfl) (fun w hm => ⟨rfl, hm.pick [] (by kernel_rfl) (by kernel_rfl)⟩)
                      · replace h := ifF hc_355 h
                        refine jc_skip ?_
                        refine jx_then ?_
                        refine jc_seq ?_
                        refine jc_draw [⟨some b_1, 25, [(.int .i16 aF0.fSteps), (.slice aF0_fHammers_a aF0.fHammers.length aF0_fHammers_c)]⟩, ⟨some b_2, 47, [(.slice aW1_fPins_a aW1.fPins.length aW1_fPins_c), (.slice aW1_fStrokes_a aW1.fStrokes.length aW1_fStrokes_c)]⟩, ⟨some b_3, 92, [(.int .i64 aV2.fPin), (.int .i64 aV2.fHammer)]⟩, ⟨o_40, 176, row encGHammer t_3.fHammers sp_42⟩, ⟨o_46, 124, row encGWornPin t_4.fPins sp_48⟩, ⟨o_51, 2, row encI64 t_4.fStrokes sp_53⟩, ⟨o_58, 124, row encGWornPin t_6.1 sp_60⟩, ⟨o_63, 2, row encI64 t_6.2.1 sp_65⟩, ⟨o_69, 176, row encGHammer t_17.2 sp_71⟩, ⟨some b_74, 35, [(.int .i16 t_7.fSteps), (.slice (o_69.map fun b => ⟨b, 0, none⟩) t_7.fHammers.length cap_70)]⟩, ⟨o_76, 124, row encGWornPin t_18.2.1 sp_78⟩, ⟨o_81, 2, row encI64 t_18.2.2 sp_83⟩, ⟨some b_86, 52, [(.slice (o_76.map fun b => ⟨b, 0, none⟩) t_8.fPins.length cap_77), (.slice (o_81.map fun b => ⟨b, 0, none⟩) t_8.fStrokes.length cap_82)]⟩, ⟨o_101, 124, row encGWornPin t_21.2 sp_103⟩, ⟨o_106, 2, row encI64 t_22.2 sp_108⟩, ⟨o_145, 176, row encGHammer t_13.fHammers sp_147⟩, ⟨o_308, 124, row encGWornPin t_15.fPins sp_310⟩, ⟨o_313, 2, row encI64 t_15.fStrokes sp_315⟩] 14 (by kernel_rfl) (by kernel_rfl) ?_
                        refine jd_f [⟨0, 0, 0⟩, ⟨2, 1, 0⟩, ⟨4, 2, 0⟩] 11 (by kernel_rfl) (by kernel_rfl) (fun w h => h.pick [0, 1, 2, 3, 4, 5, 6, 7, 8, 9, 10, 11, 12, 13, 14, 15, 16, 17] (by kernel_rfl) (by kernel_rfl)) (by kernel_rfl) (by kernel_rfl) ?_
                        obtain ⟨t_25, ht_385, h⟩ := bd h
                        refine toD 1 (by kernel_rfl) (p_call 0 17 #[(.agg #[(.int .i16 aF0.fSteps), (.slice aF0_fHammers_a aF0.fHammers.length aF0_fHammers_c)])] (by kernel_rfl) (by kernel_rfl) (fun w hm => laws_toFrame.calls aF0 w _ aF0_fHammers_a aF0.fHammers.length aF0_fHammers_c (hm.exRow aF0_fHammers_h List.not_mem_nil) rfl ht_385) ?_)
                        rintro w v w' hm ⟨o_386, cap_387, sp_388, _, rfl, hs_389, ho_390, rfl, hm'⟩
                        refine ⟨_, hm.app hm', jkD (fun w h => h.pick [0, 1, 2, 3, 4, 5, 6, 7, 8, 9, 10, 11, 12, 13, 14, 15, 16, 17] (by kernel_rfl) (by kernel_rfl)) ?_⟩
                        clear hm hm'
                        obtain ⟨t_26, ht_391, h⟩ := bd h
                        refine toD 3 (by kernel_rfl) (p_call 0 27 #[(.agg #[(.slice aW1_fPins_a aW1.fPins.length aW1_fPins_c), (.slice aW1_fStrokes_a aW1.fStrokes.length aW1_fStrokes_c)])] (by kernel_rfl) (by kernel_rfl) (fun w hm => laws_toWear.calls aW1 w _ aW1_fPins_a aW1.fPins.length aW1_fPins_c (hm.exRow aW1_fPins_h List.not_mem_nil) rfl aW1_fStrokes_a aW1.fStrokes.length aW1_fStrokes_c (hm.exRow aW1_fStrokes_h List.not_mem_nil) rfl ht_391) ?_)
                        rintro w v w' hm ⟨o_392, cap_393, sp_394, _, rfl, hs_395, ho_396, o_397, cap_398, sp_399, _, rfl, hs_400, ho_401, rfl, hm'⟩
                        refine ⟨_, hm.app hm', jkD (fun w h => h.pick [0, 1, 2, 3, 4, 5, 6, 7, 8, 9, 10, 11, 12, 13, 14, 15, 16, 17] (by kernel_rfl) (by kernel_rfl)) ?_⟩
                        clear hm hm'
                        obtain ⟨t_27, ht_402, h⟩ := bd h
                        refine toD 5 (by kernel_rfl) (p_call 0 56 #[(.agg #[(.int .i64 aV2.fPin), (.int .i64 aV2.fHammer)])] (by kernel_rfl) (by kernel_rfl) (fun w hm => laws_toLives.calls aV2 w _ ht_402) ?_)
                        rintro w v w' hm ⟨rfl, hm'⟩
                        refine ⟨_, hm.app hm', jkD (fun w h => h.pick [0, 1, 2, 3, 4, 5, 6, 7, 8, 9, 10, 11, 12, 13, 14, 15, 16, 17] (by kernel_rfl) (by kernel_rfl)) ?_⟩
                        clear hm hm'
                        obtain ⟨t_28, ht_403, h⟩ := bd h
                        refine toD 6 (by kernel_rfl) (p_call 0 61 #[(.agg #[(.int .i16 t_25.fSteps), (.slice (o_386.map fun b => ⟨b, 0, none⟩) t_25.fHammers.length cap_387)]), (.agg #[(.slice (o_392.map fun b => ⟨b, 0, none⟩) t_26.fPins.length cap_393), (.slice (o_397.map fun b => ⟨b, 0, none⟩) t_26.fStrokes.length cap_398)]), (.agg #[(.int .i64 t_27.fPin), (.int .i64 t_27.fHammer)])] (by kernel_rfl) (by kernel_rfl) (fun w hm => impl_WornOut.calls t_25 t_26 t_27 w _ (o_386.map fun b => ⟨b, 0, none⟩) t_25.fHammers.length cap_387 (hm.ownRow (hh := 18) (o := o_386) (T := 176) (enc := encGHammer) (xs := t_25.fHammers) (sp := sp_388) (by kernel_rfl) (fun e => (ho_390 e).1) encGHammer_len) rfl (o_392.map fun b => ⟨b, 0, none⟩) t_26.fPins.length cap_393 (hm.ownRow (hh := 19) (o := o_392) (T := 124) (enc := encGWornPin) (xs := t_26.fPins) (sp := sp_394) (by kernel_rfl) (fun e => (ho_396 e).1) encGWornPin_len) rfl (o_397.map fun b => ⟨b, 0, none⟩) t_26.fStrokes.length cap_398 (hm.ownRow (hh := 20) (o := o_397) (T := 2) (enc := encI64) (xs := t_26.fStrokes) (sp := sp_399) (by kernel_rfl) (fun e => (ho_401 e).1) encI64_len) rfl ht_403) ?_)
                        rintro w v w' hm ⟨o_404, cap_405, sp_406, _, rfl, hs_407, ho_408, o_409, cap_410, sp_411, _, rfl, hs_412, ho_413, rfl, hm'⟩
                        refine ⟨_, hm.app hm', jkD (fun w h => h.pick [0, 1, 2, 3, 4, 5, 6, 7, 8, 9, 10, 11, 12, 13, 14, 15, 16, 17] (by kernel_rfl) (by kernel_rfl)) ?_⟩
                        clear hm hm'
                        refine jd_f [⟨7, 0, 0⟩, ⟨8, 0, 0⟩, ⟨9, 0, 0⟩, ⟨10, 0, 0⟩, ⟨11, 0, 0⟩, ⟨12, 0, 0⟩, ⟨13, 0, 0⟩] 0 (by kernel_rfl) (by kernel_rfl) (fun w h => h.pick [0, 1, 2, 3, 4, 5, 6, 7, 8, 9, 10, 11, 12, 13, 14, 15, 16, 17] (by kernel_rfl) (by kernel_rfl)) (by kernel_rfl) (by kernel_rfl) ?_
                        refine jd_end (by kernel_rfl) ?_
                        refine jx_then ?_
                        refine jc_seq ?_
                        refine jc_seq ?_
                        refine jc_meet (fun (j : Bool) => match j with | q_29 => laws_FnExactWornOut.k_30 t_21 t_22 q_29 = some r) (fun (j : Bool) => match j with | q_29 => [(6, [], (.bool false)), (13, [], (.slice (o_101.map fun b => ⟨b, 0, none⟩) t_10.1.length cap_102)), (14, [], (.slice (o_106.map fun b => ⟨b, 0, none⟩) t_10.2.1.length cap_107)), (17, [], (.int .i64 t_22.1)), (18, [], (.int .i64 t_24)), (150, [], (.bool q_29))]) (fun (j : Bool) => match j with | q_29 => [⟨some b_1, 25, [(.int .i16 aF0.fSteps), (.slice aF0_fHammers_a aF0.fHammers.length aF0_fHammers_c)]⟩, ⟨some b_2, 47, [(.slice aW1_fPins_a aW1.fPins.length aW1_fPins_c), (.slice aW1_fStrokes_a aW1.fStrokes.length aW1_fStrokes_c)]⟩, ⟨some b_3, 92, [(.int .i64 aV2.fPin), (.int .i64 aV2.fHammer)]⟩, ⟨o_40, 176, row encGHammer t_3.fHammers sp_42⟩, ⟨o_46, 124, row encGWornPin t_4.fPins sp_48⟩, ⟨o_51, 2, row encI64 t_4.fStrokes sp_53⟩, ⟨o_58, 124, row encGWornPin t_6.1 sp_60⟩, ⟨o_63, 2, row encI64 t_6.2.1 sp_65⟩, ⟨o_69, 176, row encGHammer t_17.2 sp_71⟩, ⟨some b_74, 35, [(.int .i16 t_7.fSteps), (.slice (o_69.map fun b => ⟨b, 0, none⟩) t_7.fHammers.length cap_70)]⟩, ⟨o_76, 124, row encGWornPin t_18.2.1 sp_78⟩, ⟨o_81, 2, row encI64 t_18.2.2 sp_83⟩, ⟨some b_86, 52, [(.slice (o_76.map fun b => ⟨b, 0, none⟩) t_8.fPins.length cap_77), (.slice (o_81.map fun b => ⟨b, 0, none⟩) t_8.fStrokes.length cap_82)]⟩, ⟨o_101, 124, row encGWornPin t_21.2 sp_103⟩, ⟨o_106, 2, row encI64 t_22.2 sp_108⟩, ⟨o_145, 176, row encGHammer t_13.fHammers sp_147⟩, ⟨o_308, 124, row encGWornPin t_15.fPins sp_310⟩, ⟨o_313, 2, row encI64 t_15.fStrokes sp_315⟩, ⟨o_386, 176, row encGHammer t_25.fHammers sp_388⟩, ⟨o_392, 124, row encGWornPin t_26.fPins sp_394⟩, ⟨o_397, 2, row encI64 t_26.fStrokes sp_399⟩, ⟨o_404, 124, row encGWornPin t_28.1 sp_406⟩, ⟨o_409, 2, row encI64 t_28.2.1 sp_411⟩]) ?_ ?_
                        · refine jc_region ?_
                          refine jo_f [(0, 0), (0, 0)] (by kernel_rfl) ?_
                          obtain ⟨t_33, ht_432, h⟩ := bd h
                          refine toO (by kernel_rfl) (p_call 0 62 #[(.slice (o_404.map fun b => ⟨b, 0, none⟩) t_28.1.length cap_405), (.slice (o_58.map fun b => ⟨b, 0, none⟩) t_6.1.length cap_59)] (by kernel_rfl) (by kernel_rfl) (fun w hm => laws_eqWornPinS.calls t_28.1 t_6.1 w _ (o_404.map fun b => ⟨b, 0, none⟩) t_28.1.length cap_405 (hm.ownRow (hh := 21) (o := o_404) (T := 124) (enc := encGWornPin) (xs := t_28.1) (sp := sp_406) (by kernel_rfl) (fun e => (ho_408 e).1) encGWornPin_len) rfl (o_58.map fun b => ⟨b, 0, none⟩) t_6.1.length cap_59 (hm.ownRow (hh := 6) (o := o_58) (T := 124) (enc := encGWornPin) (xs := t_6.1) (sp := sp_60) (by kernel_rfl) (fun e => (ho_62 e).1) encGWornPin_len) rfl ht_432) ?_)
                          rintro w v w' hm ⟨rfl, hm'⟩
                          refine ⟨_, hm.app hm', jkO ?_⟩
                          clear hm hm'
                          refine jo_f [(0, 0), (0, 0), (0, 1), (0, 1)] (by kernel_rfl) ?_
                          refine jo_split 140 (!t_33) (by kernel_rfl) (fun hc_433 => ?_) (fun hc_433 => ?_)
                          · replace h := ifT hc_433 h
                            refine jo_f [(0, 3), (0, 3), (0, 4), (0, 0), (0, 3), (0, 3), (0, 3), (0, 4)] (by kernel_rfl) ?_
                            refine jo_end (by kernel_rfl) ?_
                            exact jx_meet true h (by kernel_rfl) [0, 1, 2, 3, 4, 5, 6, 7, 8, 9, 10, 11, 12, 13, 14, 15, 16, 17, 18, 19, 20, 21, 22] (by kernel_rfl) (by kernel_rfl)
                          · replace h := ifF hc_433 h
                            obtain ⟨t_34, ht_434, h⟩ := bd h
                            refine toO (by kernel_rfl) (p_call 2 51 #[(.slice (o_409.map fun b => ⟨b, 0, none⟩) t_28.2.1.length cap_410), (.slice (o_63.map fun b => ⟨b, 0, none⟩) t_6.2.1.length cap_64)] (by kernel_rfl) (by kernel_rfl) (fun w hm => laws_eqInt64S.calls t_28.2.1 t_6.2.1 w _ (o_409.map fun b => ⟨b, 0, none⟩) t_28.2.1.length cap_410 (hm.ownRow (hh := 22) (o := o_409) (T := 2) (enc := encI64) (xs := t_28.2.1) (sp := sp_411) (by kernel_rfl) (fun e => (ho_413 e).1) encI64_len) rfl (o_63.map fun b => ⟨b, 0, none⟩) t_6.2.1.length cap_64 (hm.ownRow (hh := 7) (o := o_63) (T := 2) (enc := encI64) (xs := t_6.2.1) (sp := sp_65) (by kernel_rfl) (fun e => (ho_67 e).1) encI64_len) rfl ht_434) ?_)
                            rintro w v w' hm ⟨rfl, hm'⟩
                            refine ⟨_, hm.app hm', jkO ?_⟩
                            clear hm hm'
                            refine jo_f [(0, 2), (0, 5), (0, 0), (0, 1), (0, 1), (0, 1), (0, 0)] (by kernel_rfl) ?_
                            refine jo_end (by kernel_rfl) ?_
                            exact jx_meet ((!t_34) || (t_28.2.2 != t_6.2.2)) h (by kernel_rfl) [0, 1, 2, 3, 4, 5, 6, 7, 8, 9, 10, 11, 12, 13, 14, 15, 16, 17, 18, 19, 20, 21, 22] (by kernel_rfl) (by kernel_rfl)
                        · rintro q_29 h
                          replace h : laws_FnExactWornOut.k_30 t_21 t_22 q_29 = some r := h
                          rw [laws_FnExactWornOut.k_30] at h
                          refine jx_then ?_
                          refine jc_cond q_29 (by kernel_rfl) (fun hc_424 => ?_) (fun hc_424 => ?_)
                          · replace h := ifT hc_424 h
                            refine jc_seq ?_
                            refine jc_region ?_
                            refine jo_f [(0, 0)] (by kernel_rfl) ?_
                            refine jo_end (by kernel_rfl) ?_
                            refine jx_then ?_
                            refine jc_ret ?_
                            refine jx_thenr ?_
                            obtain rfl := Option.some.inj h
                            exact jx_ret [] (.bool false) [] rfl (by kernel_rfl) (by kernel_rfl) (fun w hm => ⟨rfl, hm.pick [] (by kernel_rfl) (by kernel_rfl)⟩)
                          · replace h := ifF hc_424 h
                            refine jc_skip ?_
                            refine jx_then ?_
                            refine jc_seq ?_
                            refine jc_region ?_
                            refine jo_f [(0, 0)] (by kernel_rfl) ?_
                            refine jo_end (by kernel_rfl) ?_
                            refine jx_then ?_
                            refine jc_seq ?_
                            refine jc_region ?_
                            refine jo_f [(0, 0), (0, 0)] (by kernel_rfl) ?_
                            obtain ⟨t_31, ht_425, h⟩ := bd h
                            refine toO (by kernel_rfl) (p_call 0 64 #[(.slice (o_101.map fun b => ⟨b, 0, none⟩) t_10.1.length cap_102), (.int .i64 1)] (by kernel_rfl) (by kernel_rfl) (fun w hm => laws_heldWornPinS.calls t_21.2 1 w _ (o_101.map fun b => ⟨b, 0, none⟩) t_10.1.length cap_102 (hm.ownRow (hh := 13) (o := o_101) (T := 124) (enc := encGWornPin) (xs := t_21.2) (sp := sp_103) (by kernel_rfl) (fun e => (ho_344 e).1) encGWornPin_len) hn_343 ht_425) ?_)
                            rintro w v w' hm ⟨rfl, hm'⟩
                            refine ⟨_, hm.app hm', jkO ?_⟩
                            clear hm hm'
                            refine jo_f [(0, 0)] (by kernel_rfl) ?_
                            refine jo_end (by kernel_rfl) ?_
                            refine jx_then ?_
                            refine jc_seq ?_
                            refine jc_seq ?_
                            refine jc_region ?_
                            refine jo_f [(0, 0), (0, 0)] (by kernel_rfl) ?_
                            refine jo_end (by kernel_rfl) ?_
                            refine jx_then ?_
                            refine jc_cond (decide (t_31 < 0)) (by kernel_rfl) (fun hc_427 => ?_) (fun hc_427 => ?_)
                            · replace h := ifT hc_427 h
                              refine jc_seq ?_
                              refine jc_region ?_
                              refine jo_f [(0, 0)] (by kernel_rfl) ?_
                              refine jo_end (by kernel_rfl) ?_
                              refine jx_then ?_
                              refine jc_ret ?_
                              refine jx_thenr ?_
                              obtain rfl := Option.some.inj h
                              exact jx_ret [] (.bool false) [] rfl (by kernel_rfl) (by kernel_rfl) (fun w hm => ⟨rfl, hm.pick [] (by kernel_rfl) (by kernel_rfl)⟩)
                            · replace h := ifF hc_427 h
                              refine jc_skip ?_
                              refine jx_then ?_
                              refine jc_seq ?_
                              refine jc_region ?_
                              refine jo_f [(0, 0), (0, 0)] (by kernel_rfl) ?_
                              obtain ⟨t_32, ht_428, h⟩ := bd h
                              refine toO (by kernel_rfl) (p_call 0 54 #[(.slice (o_106.map fun b => ⟨b, 0, none⟩) t_10.2.1.length cap_107), (.int .i64 t_31)] (by kernel_rfl) (by kernel_rfl) (fun w hm => laws_heldInt64S.calls t_22.2 t_31 w _ (o_106.map fun b => ⟨b, 0, none⟩) t_10.2.1.length cap_107 (hm.ownRow (hh := 14) (o := o_106) (T := 2) (enc := encI64) (xs := t_22.2) (sp := sp_108) (by kernel_rfl) (fun e => (ho_347 e).1) encI64_len) hn_346 ht_428) ?_)
                              rintro w v w' hm ⟨rfl, hm'⟩
                              refine ⟨_, hm.app hm', jkO ?_⟩
                              clear hm hm'
                              refine jo_f [(0, 0)] (by kernel_rfl) ?_
                              refine jo_end (by kernel_rfl) ?_
                              refine jx_then ?_
                              refine jc_seq ?_
                              refine jc_seq ?_
                              refine jc_region ?_
                              refine jo_f [(0, 0), (0, 0)] (by kernel_rfl) ?_
                              refine jo_end (by kernel_rfl) ?_
                              refine jx_then ?_
                              refine jc_cond (decide (t_32 < 0)) (by kernel_rfl) (fun hc_430 => ?_) (fun hc_430 => ?_)
                              · replace h := ifT hc_430 h
                                refine jc_seq ?_
                                refine jc_region ?_
                                refine jo_f [(0, 0)] (by kernel_rfl) ?_
                                refine jo_end (by kernel_rfl) ?_
                                refine jx_then ?_
                                refine jc_ret ?_
                                refine jx_thenr ?_
                                obtain rfl := Option.some.inj h
                                exact jx_ret [] (.bool false) [] rfl (by kernel_rfl) (by kernel_rfl) (fun w hm => ⟨rfl, hm.pick [] (by kernel_rfl) (by kernel_rfl)⟩)
                              · replace h := ifF hc_430 h
                                refine jc_skip ?_
                                refine jx_then ?_
                                refine jc_seq ?_
                                refine jc_seq ?_
                                refine jc_region ?_
                                refine jo_f [(0, 0), (0, 0), (0, 0)] (by kernel_rfl) ?_
                                refine jo_end (by kernel_rfl) ?_
                                refine jx_then ?_
                                refine jc_cond (t_32 != t_22.1) (by kernel_rfl) (fun hc_431 => ?_) (fun hc_431 => ?_)
                                · replace h := ifT hc_431 h
                                  refine jc_seq ?_
                                  refine jc_region ?_
                                  refine jo_f [(0, 0)] (by kernel_rfl) ?_
                                  refine jo_end (by kernel_rfl) ?_
                                  refine jx_then ?_
                                  refine jc_ret ?_
                                  refine jx_thenr ?_
                                  obtain rfl := Option.some.inj h
                                  exact jx_ret [] (.bool false) [] rfl (by kernel_rfl) (by kernel_rfl) (fun w hm => ⟨rfl, hm.pick [] (by kernel_rfl) (by kernel_rfl)⟩)
                                · replace h := ifF hc_431 h
                                  refine jc_skip ?_
                                  refine jx_then ?_
                                  refine jc_seq ?_
                                  refine jc_region ?_
                                  refine jo_f [(0, 0)] (by kernel_rfl) ?_
                                  refine jo_end (by kernel_rfl) ?_
                                  refine jx_then ?_
                                  refine jc_ret ?_
                                  obtain rfl := Option.some.inj h
                                  exact jx_ret [] (.bool true) [] rfl (by kernel_rfl) (by kernel_rfl) (fun w hm => ⟨rfl, hm.pick [] (by kernel_rfl) (by kernel_rfl)⟩)
end Go.Proofs.Ytdnkjgmncfhejaa
