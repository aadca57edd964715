/- Functions of the program that the laws reach: a plain function each, and that the call comes to its answer if the plain function has one. Printed by a program. -/
import Derived.Test.YtilackblefjgdaaT
import Derived.Test.YtilackblefjgdaaSort
import Derived.Test.YtilackblefjgdaaM0
namespace Go.Proofs.Ytilackblefjgdaa
open Eng
set_option linter.unusedVariables false

/-! ### slices.Clone[[]impl.WornPin,impl.WornPin] -/
noncomputable def slices_Clone_WornPin (s0 : List GWornPin) : Option ((List GWornPin)) := (if ([] : List GWornPin).length + s0.length ≤ 4294967296 then some (([] : List GWornPin) ++ s0) else none)
set_option maxRecDepth 100000 in
theorem slices_Clone_WornPin.calls (s0 : List GWornPin) (w : World) (r : (List GWornPin)) (s0_a : Option Addr) (s0_an : Nat) (s0_c : Nat) (s0_h : Rw w s0_a 3 encGWornPin s0) (s0_hn : s0.length = s0_an) (h : slices_Clone_WornPin s0 = some r) :
    Calls Try.prog 190 #[(.slice s0_a s0_an s0_c)] w fun e w' => ∃ v, e = .returned v ∧ (∃ (o0 : Option Nat) (c0 : Nat) (s0 : List Value) (n0 : Nat), r.length = n0 ∧ (o0 ≠ none → n0 ≤ c0 ∧ s0.length = (c0 - n0) * 3) ∧ (o0 = none → r = [] ∧ c0 = 0) ∧ v = .slice (o0.map fun b => ⟨b, 0, none⟩) n0 c0 ∧ Mem w [] [⟨o0, 164, row encGWornPin r s0⟩] w') := by
  subst s0_hn
  rw [slices_Clone_WornPin] at h
  refine enter (args := [(.slice s0_a s0.length s0_c)]) Try.func190 rfl Try.ntmps190 (by kernel_rfl) (L := []) (W := []) (Mem.start w) ?_
  refine jc_seq ?_
  refine jc_region ?_
  refine jo_f [(0, 0)] (by kernel_rfl) ?_
  refine jo_end (by kernel_rfl) ?_
  refine jx_then ?_
  refine jc_seq ?_
  refine jc_seq ?_
  refine jc_region ?_
  refine jo_f [(0, 0)] (by kernel_rfl) ?_
  by_cases hn_4 : s0_a = none
  · have hx0 : s0 = [] := (nil_of s0_h hn_4)
    replace h : some [] = some r := by simpa [hx0] using h
    refine toO (by kernel_rfl) (p_nil 0 s0_a true true (by kernel_rfl) (by kernel_rfl) (by rw [hn_4]; rfl) (jkO ?_))
    refine jo_end (by kernel_rfl) ?_
    refine jx_then ?_
    refine jc_cond true (by kernel_rfl) (fun hc_5 => ?_) (fun hc_5 => nomatch hc_5)
    refine jc_seq ?_
    refine jc_region ?_
    refine jo_f [(0, 0)] (by kernel_rfl) ?_
    refine jo_end (by kernel_rfl) ?_
    refine jx_then ?_
    refine jc_ret ?_
    refine jx_thenr ?_
    obtain rfl := Option.some.inj h
    refine jx_ghost 164 encGWornPin ?_
    exact jx_ret [] (.slice none 0 0) [] rfl (by kernel_rfl) (by kernel_rfl) (fun w hm => ⟨none, 0, [], 0, rfl, (fun e => absurd rfl e), (fun _ => ⟨rfl, rfl⟩), rfl, hm.pick [0] (by kernel_rfl) (by kernel_rfl)⟩)
  · refine toO (by kernel_rfl) (p_nil 0 s0_a true false (by kernel_rfl) (by kernel_rfl) (by rw [Option.isNone_eq_false_iff.2 (Option.ne_none_iff_isSome.1 hn_4)]; rfl) (jkO ?_))
    refine jo_end (by kernel_rfl) ?_
    refine jx_then ?_
    refine jc_cond false (by kernel_rfl) (fun hc_6 => nomatch hc_6) (fun hc_6 => ?_)
    refine jc_skip ?_
    refine jx_then ?_
    refine jc_seq ?_
    refine jc_region ?_
    refine toO (by kernel_rfl) (p_a 0 [0] (by kernel_rfl) (fun b => by kernel_rfl) (fun b_7 => jkO ?_))
    refine jo_f [(0, 0)] (by kernel_rfl) ?_
    obtain ⟨hg_8, h⟩ := gd h
    refine toO (by kernel_rfl) (p_apn 0 0 (some b_7) 164 0 s0.length 0 3 16 s0_a encGWornPin ([] : List GWornPin) s0 [] (.agg #[(.int .i8 0), (.int .i8 0), (.int .i64 0)]) rfl rfl (by kernel_rfl) (by kernel_rfl) (by kernel_rfl) encGWornPin_len encGWornPin_cell (fun _ => ⟨Nat.le_refl _, by simp⟩) (fun e => nomatch e) (fun w hm => (hm.exRow s0_h List.not_mem_nil)) hg_8 (by kernel_rfl) (by kernel_rfl) (fun o_9 cap_10 sp_11 hs_12 ho_13 => jkO ?_))
    refine jo_f [(0, 0)] (by kernel_rfl) ?_
    refine jo_end (by kernel_rfl) ?_
    refine jx_then ?_
    refine jc_ret ?_
    obtain rfl := Option.some.inj h
    exact jx_ret [] (.slice (o_9.map fun b => ⟨b, 0, none⟩) ((([] : List GWornPin) ++ s0).length) cap_10) [] rfl (by kernel_rfl) (by kernel_rfl) (fun w hm => ⟨o_9, cap_10, sp_11, ((([] : List GWornPin) ++ s0).length), rfl, hs_12, ho_13, rfl, hm.pick [0] (by kernel_rfl) (by kernel_rfl)⟩)

/-! ### slices.Clone[[]int64,int64] -/
noncomputable def slices_Clone_int64 (s0 : List Int) : Option ((List Int)) := (if ([] : List Int).length + s0.length ≤ 4294967296 then some (([] : List Int) ++ s0) else none)
set_option maxRecDepth 100000 in
theorem slices_Clone_int64.calls (s0 : List Int) (w : World) (r : (List Int)) (s0_a : Option Addr) (s0_an : Nat) (s0_c : Nat) (s0_h : Rw w s0_a 1 encI64 s0) (s0_hn : s0.length = s0_an) (h : slices_Clone_int64 s0 = some r) :
    Calls Try.prog 191 #[(.slice s0_a s0_an s0_c)] w fun e w' => ∃ v, e = .returned v ∧ (∃ (o0 : Option Nat) (c0 : Nat) (s0 : List Value) (n0 : Nat), r.length = n0 ∧ (o0 ≠ none → n0 ≤ c0 ∧ s0.length = (c0 - n0) * 1) ∧ (o0 = none → r = [] ∧ c0 = 0) ∧ v = .slice (o0.map fun b => ⟨b, 0, none⟩) n0 c0 ∧ Mem w [] [⟨o0, 2, row encI64 r s0⟩] w') := by
  subst s0_hn
  rw [slices_Clone_int64] at h
  refine enter (args := [(.slice s0_a s0.length s0_c)]) Try.func191 rfl Try.ntmps191 (by kernel_rfl) (L := []) (W := []) (Mem.start w) ?_
  refine jc_seq ?_
  refine jc_region ?_
  refine jo_f [(0, 0)] (by kernel_rfl) ?_
  refine jo_end (by kernel_rfl) ?_
  refine jx_then ?_
  refine jc_seq ?_
  refine jc_seq ?_
  refine jc_region ?_
  refine jo_f [(0, 0)] (by kernel_rfl) ?_
  by_cases hn_4 : s0_a = none
  · have hx0 : s0 = [] := (nil_of s0_h hn_4)
    replace h : some [] = some r := by simpa [hx0] using h
    refine toO (by kernel_rfl) (p_nil 0 s0_a true true (by kernel_rfl) (by kernel_rfl) (by rw [hn_4]; rfl) (jkO ?_))
    refine jo_end (by kernel_rfl) ?_
    refine jx_then ?_
    refine jc_cond true (by kernel_rfl) (fun hc_5 => ?_) (fun hc_5 => nomatch hc_5)
    refine jc_seq ?_
    refine jc_region ?_
    refine jo_f [(0, 0)] (by kernel_rfl) ?_
    refine jo_end (by kernel_rfl) ?_
    refine jx_then ?_
    refine jc_ret ?_
    refine jx_thenr ?_
    obtain rfl := Option.some.inj h
    refine jx_ghost 2 encI64 ?_
    exact jx_ret [] (.slice none 0 0) [] rfl (by kernel_rfl) (by kernel_rfl) (fun w hm => ⟨none, 0, [], 0, rfl, (fun e => absurd rfl e), (fun _ => ⟨rfl, rfl⟩), rfl, hm.pick [0] (by kernel_rfl) (by kernel_rfl)⟩)
  · refine toO (by kernel_rfl) (p_nil 0 s0_a true false (by kernel_rfl) (by kernel_rfl) (by rw [Option.isNone_eq_false_iff.2 (Option.ne_none_iff_isSome.1 hn_4)]; rfl) (jkO ?_))
    refine jo_end (by kernel_rfl) ?_
    refine jx_then ?_
    refine jc_cond false (by kernel_rfl) (fun hc_6 => nomatch hc_6) (fun hc_6 => ?_)
    refine jc_skip ?_
    refine jx_then ?_
    refine jc_seq ?_
    refine jc_region ?_
    refine toO (by kernel_rfl) (p_a 0 [0] (by kernel_rfl) (fun b => by kernel_rfl) (fun b_7 => jkO ?_))
    refine jo_f [(0, 0)] (by kernel_rfl) ?_
    obtain ⟨hg_8, h⟩ := gd h
    refine toO (by kernel_rfl) (p_apn 0 0 (some b_7) 2 0 s0.length 0 1 8 s0_a encI64 ([] : List Int) s0 [] (.int .i64 0) rfl rfl (by kernel_rfl) (by kernel_rfl) (by kernel_rfl) encI64_len encI64_cell (fun _ => ⟨Nat.le_refl _, by simp⟩) (fun e => nomatch e) (fun w hm => (hm.exRow s0_h List.not_mem_nil)) hg_8 (by kernel_rfl) (by kernel_rfl) (fun o_9 cap_10 sp_11 hs_12 ho_13 => jkO ?_))
    refine jo_f [(0, 0)] (by kernel_rfl) ?_
    refine jo_end (by kernel_rfl) ?_
    refine jx_then ?_
    refine jc_ret ?_
    obtain rfl := Option.some.inj h
    exact jx_ret [] (.slice (o_9.map fun b => ⟨b, 0, none⟩) ((([] : List Int) ++ s0).length) cap_10) [] rfl (by kernel_rfl) (by kernel_rfl) (fun w hm => ⟨o_9, cap_10, sp_11, ((([] : List Int) ++ s0).length), rfl, hs_12, ho_13, rfl, hm.pick [0] (by kernel_rfl) (by kernel_rfl)⟩)

/-! ### (impl.Wear).own -/
noncomputable def impl_Wear_own (w0 : GWear) : Option (GWear) := (slices_Clone_WornPin w0.fPins).bind fun t_1 => (slices_Clone_int64 w0.fStrokes).bind fun t_2 => some (⟨t_1, t_2⟩ : GWear)
set_option maxRecDepth 100000 in
theorem impl_Wear_own.calls (w0 : GWear) (w : World) (r : GWear) (w0_fPins_a : Option Addr) (w0_fPins_an : Nat) (w0_fPins_c : Nat) (w0_fPins_h : Rw w w0_fPins_a 3 encGWornPin w0.fPins) (w0_fPins_hn : w0.fPins.length = w0_fPins_an) (w0_fStrokes_a : Option Addr) (w0_fStrokes_an : Nat) (w0_fStrokes_c : Nat) (w0_fStrokes_h : Rw w w0_fStrokes_a 1 encI64 w0.fStrokes) (w0_fStrokes_hn : w0.fStrokes.length = w0_fStrokes_an) (h : impl_Wear_own w0 = some r) :
    Calls Try.prog 160 #[(.agg #[(.slice w0_fPins_a w0_fPins_an w0_fPins_c), (.slice w0_fStrokes_a w0_fStrokes_an w0_fStrokes_c)])] w fun e w' => ∃ v, e = .returned v ∧ (∃ (o0 : Option Nat) (c0 : Nat) (s0 : List Value) (n0 : Nat), r.fPins.length = n0 ∧ (o0 ≠ none → n0 ≤ c0 ∧ s0.length = (c0 - n0) * 3) ∧ (o0 = none → r.fPins = [] ∧ c0 = 0) ∧ ∃ (o1 : Option Nat) (c1 : Nat) (s1 : List Value) (n1 : Nat), r.fStrokes.length = n1 ∧ (o1 ≠ none → n1 ≤ c1 ∧ s1.length = (c1 - n1) * 1) ∧ (o1 = none → r.fStrokes = [] ∧ c1 = 0) ∧ v = .agg #[.slice (o0.map fun b => ⟨b, 0, none⟩) n0 c0, .slice (o1.map fun b => ⟨b, 0, none⟩) n1 c1] ∧ Mem w [] [⟨o0, 164, row encGWornPin r.fPins s0⟩, ⟨o1, 2, row encI64 r.fStrokes s1⟩] w') := by
  subst w0_fPins_hn w0_fStrokes_hn
  rw [impl_Wear_own] at h
  refine enter (args := [(.agg #[(.slice w0_fPins_a w0.fPins.length w0_fPins_c), (.slice w0_fStrokes_a w0.fStrokes.length w0_fStrokes_c)])]) Try.func160 rfl Try.ntmps160 (by kernel_rfl) (L := []) (W := []) (Mem.start w) ?_
  refine jc_seq ?_
  refine jc_region ?_
  refine toO (by kernel_rfl) (p_a 0 [0] (by kernel_rfl) (fun b => by kernel_rfl) (fun b_1 => jkO ?_))
  refine toO (by kernel_rfl) (p_a 0 [0] (by kernel_rfl) (fun b => by kernel_rfl) (fun b_2 => jkO ?_))
  refine jo_end (by kernel_rfl) ?_
  refine jx_then ?_
  refine jc_seq ?_
  refine jc_draw [⟨some b_1, 42, [(.slice w0_fPins_a w0.fPins.length w0_fPins_c), (.slice w0_fStrokes_a w0.fStrokes.length w0_fStrokes_c)]⟩] 8 (by kernel_rfl) (by kernel_rfl) ?_
  refine jd_f [⟨0, 0, 0⟩, ⟨1, 0, 0⟩, ⟨3, 0, 0⟩, ⟨4, 0, 0⟩] 4 (by kernel_rfl) (by kernel_rfl) (fun w h => h.pick [0] (by kernel_rfl) (by kernel_rfl)) (by kernel_rfl) (by kernel_rfl) ?_
  obtain ⟨t_1, ht_15, h⟩ := bd h
  refine toD 2 (by kernel_rfl) (p_call 0 190 #[(.slice w0_fPins_a w0.fPins.length w0_fPins_c)] (by kernel_rfl) (by kernel_rfl) (fun w hm => slices_Clone_WornPin.calls w0.fPins w _ w0_fPins_a w0.fPins.length w0_fPins_c (hm.exRow w0_fPins_h List.not_mem_nil) rfl ht_15) ?_)
  rintro w v w' hm ⟨o_16, cap_17, sp_18, _, rfl, hs_19, ho_20, rfl, hm'⟩
  refine ⟨_, hm.app hm', jkD (fun w h => h.pick [0] (by kernel_rfl) (by kernel_rfl)) ?_⟩
  clear hm hm'
  obtain ⟨t_2, ht_21, h⟩ := bd h
  refine toD 5 (by kernel_rfl) (p_call 0 191 #[(.slice w0_fStrokes_a w0.fStrokes.length w0_fStrokes_c)] (by kernel_rfl) (by kernel_rfl) (fun w hm => slices_Clone_int64.calls w0.fStrokes w _ w0_fStrokes_a w0.fStrokes.length w0_fStrokes_c (hm.exRow w0_fStrokes_h List.not_mem_nil) rfl ht_21) ?_)
  rintro w v w' hm ⟨o_22, cap_23, sp_24, _, rfl, hs_25, ho_26, rfl, hm'⟩
  refine ⟨_, hm.app hm', jkD (fun w h => h.pick [0] (by kernel_rfl) (by kernel_rfl)) ?_⟩
  clear hm hm'
  refine jd_f [⟨6, 0, 0⟩] 1 (by kernel_rfl) (by kernel_rfl) (fun w h => h.pick [0] (by kernel_rfl) (by kernel_rfl)) (by kernel_rfl) (by kernel_rfl) ?_
  refine toD 7 (by kernel_rfl) (p_s 0 [1] (by kernel_rfl) (by kernel_rfl) (jkD (fun w h => h.pick [0] (by kernel_rfl) (by kernel_rfl)) ?_))
  refine jd_end (by kernel_rfl) ?_
  refine jx_then ?_
  refine jc_ret ?_
  obtain rfl := Option.some.inj h
  exact jx_ret [1] (.agg #[(.slice (o_16.map fun b => ⟨b, 0, none⟩) t_1.length cap_17), (.slice (o_22.map fun b => ⟨b, 0, none⟩) t_2.length cap_23)]) [(b_2, b_2), (b_2, b_2)] rfl (by kernel_rfl) (by kernel_rfl) (fun w hm => ⟨o_16, cap_17, sp_18, t_1.length, rfl, hs_19, ho_20, o_22, cap_23, sp_24, t_2.length, rfl, hs_25, ho_26, rfl, hm.pick [2, 3] (by kernel_rfl) (by kernel_rfl)⟩)

/-! ### slices.Delete[[]impl.WornPin,impl.WornPin] -/
noncomputable def slices_Delete_WornPin (s0 : List GWornPin) (i1 : Int) (j2 : Int) : Option ((List GWornPin)) := (if 0 ≤ i1 ∧ i1 ≤ j2 ∧ j2 ≤ (s0.length : Int) ∧ (s0.length : Int) ≤ (s0.length : Int) then (if (i1 == j2) = true then some s0 else (if 0 ≤ i1 ∧ i1 ≤ (s0.length : Int) then (if 0 ≤ j2 ∧ j2 ≤ (s0.length : Int) then (if i1.toNat + (s0.drop j2.toNat).length ≤ s0.length then some (s0.take i1.toNat ++ (s0.drop j2.toNat)) else none) else none) else none)) else none)
set_option maxRecDepth 100000 in
theorem slices_Delete_WornPin.calls (s0 : List GWornPin) (i1 : Int) (j2 : Int) (w : World) (r : (List GWornPin)) (s0_o : Option Nat) (s0_on : Nat) (s0_c : Nat) (s0_sp : List Value) (s0_hn : s0.length = s0_on) (s0_hs : s0_o ≠ none → s0_on ≤ s0_c ∧ s0_sp.length = (s0_c - s0_on) * 3) (s0_ho : s0_o = none → s0 = [] ∧ s0_c = 0) (hm0 : Mem w (bs [s0_o]) [⟨s0_o, 164, row encGWornPin s0 s0_sp⟩] w) (h : slices_Delete_WornPin s0 i1 j2 = some r) :
    Calls Try.prog 161 #[(.slice (s0_o.map fun b => ⟨b, 0, none⟩) s0_on s0_c), (.int .i64 i1), (.int .i64 j2)] w fun e w' => ∃ v, e = .returned v ∧ (∃ (o0 : Option Nat) (c0 : Nat) (s0 : List Value) (n0 : Nat), r.length = n0 ∧ (o0 ≠ none → n0 ≤ c0 ∧ s0.length = (c0 - n0) * 3) ∧ (o0 = none → r = [] ∧ c0 = 0) ∧ v = .slice (o0.map fun b => ⟨b, 0, none⟩) n0 c0 ∧ Mem w (bs [s0_o]) [⟨o0, 164, row encGWornPin r s0⟩] w') := by
  subst s0_hn
  rw [slices_Delete_WornPin] at h
  refine enter (args := [(.slice (s0_o.map fun b => ⟨b, 0, none⟩) s0.length s0_c), (.int .i64 i1), (.int .i64 j2)]) Try.func161 rfl Try.ntmps161 (by kernel_rfl) (L := [⟨s0_o, 164, row encGWornPin s0 s0_sp⟩]) (W := bs [s0_o]) hm0 ?_
  refine jc_seq ?_
  refine jc_region ?_
  refine jo_f [(0, 0)] (by kernel_rfl) ?_
  refine jo_end (by kernel_rfl) ?_
  refine jx_then ?_
  refine jc_seq ?_
  refine jc_region ?_
  refine jo_f [(0, 0), (0, 0), (0, 0), (0, 0), (0, 0)] (by kernel_rfl) ?_
  obtain ⟨hg_1, h⟩ := gd h
  refine toO (by kernel_rfl) (p_slM 0 (s0_o.map fun b => ⟨b, 0, none⟩) s0.length s0_c 3 i1 j2 (s0.length : Int) (by kernel_rfl) (by kernel_rfl) hg_1.1 hg_1.2.1 hg_1.2.2.1 (Int.le_trans hg_1.2.2.2 (Int.ofNat_le.2 (cap_le rfl s0_hs s0_ho))) (jkO ?_))
  refine jo_end (by kernel_rfl) ?_
  refine jx_then ?_
  refine jc_seq ?_
  refine jc_seq ?_
  refine jc_region ?_
  refine jo_f [(0, 0), (0, 0), (0, 0)] (by kernel_rfl) ?_
  refine jo_end (by kernel_rfl) ?_
  refine jx_then ?_
  refine jc_cond (i1 == j2) (by kernel_rfl) (fun hc_3 => ?_) (fun hc_3 => ?_)
  · replace h := ifT hc_3 h
    refine jc_seq ?_
    refine jc_region ?_
    refine jo_f [(0, 0), (0, 0)] (by kernel_rfl) ?_
    refine jo_end (by kernel_rfl) ?_
    refine jx_then ?_
    refine jc_ret ?_
    refine jx_thenr ?_
    obtain rfl := Option.some.inj h
    exact jx_ret [] (.slice (s0_o.map fun b => ⟨b, 0, none⟩) s0.length s0_c) [] rfl (by kernel_rfl) (by kernel_rfl) (fun w hm => ⟨s0_o, s0_c, s0_sp, s0.length, rfl, s0_hs, s0_ho, rfl, hm.pick [0] (by kernel_rfl) (by kernel_rfl)⟩)
  · replace h := ifF hc_3 h
    refine jc_skip ?_
    refine jx_then ?_
    refine jc_seq ?_
    refine jc_region ?_
    refine jo_f [(0, 0), (0, 0), (0, 0)] (by kernel_rfl) ?_
    refine jo_end (by kernel_rfl) ?_
    refine jx_then ?_
    refine jc_seq ?_
    refine jc_draw [] 8 (by kernel_rfl) (by kernel_rfl) ?_
    refine jd_f [⟨0, 0, 0⟩, ⟨1, 0, 0⟩, ⟨3, 0, 0⟩, ⟨4, 0, 0⟩] 4 (by kernel_rfl) (by kernel_rfl) (fun w h => h.pick [] (by kernel_rfl) (by kernel_rfl)) (by kernel_rfl) (by kernel_rfl) ?_
    obtain ⟨hg_6, h⟩ := gd h
    refine jd_v 2 0 (by kernel_rfl) (fun w h => h.pick [] (by kernel_rfl) (by kernel_rfl)) (by kernel_rfl) (by kernel_rfl) _ (fun w hm => slH_run (a := (s0_o.map fun b => ⟨b, 0, none⟩)) (len := s0.length) (cap := s0_c) (size := 3) (h := i1) (by kernel_rfl) hg_6.1 (Int.le_trans hg_6.2 (Int.ofNat_le.2 (cap_le rfl s0_hs s0_ho)))) ?_
    obtain ⟨hg_7, h⟩ := gd h
    refine jd_v 5 0 (by kernel_rfl) (fun w h => h.pick [] (by kernel_rfl) (by kernel_rfl)) (by kernel_rfl) (by kernel_rfl) _ (fun w hm => slL_run (a := (s0_o.map fun b => ⟨b, 0, none⟩)) (len := s0.length) (cap := s0_c) (size := 3) (l := j2) (by kernel_rfl) hg_7.1 (Int.le_trans hg_7.2 (Int.ofNat_le.2 (Nat.le_of_eq rfl)))) ?_
    obtain ⟨hg_8, h⟩ := gd h
    refine toD 6 (by kernel_rfl) (p_apN 0 0 s0_o 164 i1.toNat s0.length (s0.length - j2.toNat) s0_c 3 16 (pa (s0_o.map fun b => ⟨b, 0, none⟩) j2.toNat s0_c 3) encGWornPin s0 (s0.drop j2.toNat) s0_sp hg_8 rfl (tl_len rfl j2) (by kernel_rfl) (by kernel_rfl) (by kernel_rfl) encGWornPin_len encGWornPin_cell s0_hs s0_ho (fun w hm => ((hm.ownRow (hh := 0) (o := s0_o) (T := 164) (enc := encGWornPin) (xs := s0) (sp := s0_sp) (by kernel_rfl) (fun e => (s0_ho e).1) encGWornPin_len).tl j2.toNat s0_c (cap_le rfl s0_hs s0_ho))) (fun sp_11 hs_12 ho_13 => jkD (fun w h => h.pick [] (by kernel_rfl) (by kernel_rfl)) ?_))
    refine jd_f [⟨7, 0, 0⟩] 0 (by kernel_rfl) (by kernel_rfl) (fun w h => h.pick [] (by kernel_rfl) (by kernel_rfl)) (by kernel_rfl) (by kernel_rfl) ?_
    refine jd_end (by kernel_rfl) ?_
    refine jx_then ?_
    refine jc_seq ?_
    refine jc_region ?_
    refine jo_f [(0, 0), (0, 0), (0, 0), (0, 0)] (by kernel_rfl) ?_
    refine toO (by kernel_rfl) (p_slLH 0 (s0_o.map fun b => ⟨b, 0, none⟩) ((s0.take i1.toNat ++ (s0.drop j2.toNat)).length) s0_c 3 (((s0.take i1.toNat ++ (s0.drop j2.toNat)).length) : Int) (s0.length : Int) (by kernel_rfl) (by kernel_rfl) (by omega) (Int.ofNat_le.2 (Nat.le_trans (apn_le hg_8) (Nat.le_of_eq rfl))) (Int.ofNat_le.2 (show s0.length ≤ s0_c by have := (cap_le rfl s0_hs s0_ho); have : s0.length = s0.length := rfl; omega)) (jkO ?_))
    refine toO (by kernel_rfl) (p_clr 0 0 s0_o 164 ((((s0.take i1.toNat ++ (s0.drop j2.toNat)).length) : Int).toNat) ((s0.take i1.toNat ++ (s0.drop j2.toNat)).length) ((s0.length : Int).toNat - (((s0.take i1.toNat ++ (s0.drop j2.toNat)).length) : Int).toNat) s0_c 3 [(.int .i8 0), (.int .i8 0), (.int .i64 0)] encGWornPin (s0.take i1.toNat ++ (s0.drop j2.toNat)) sp_11 rfl (by omega) (by kernel_rfl) (by kernel_rfl) (by kernel_rfl) encGWornPin_len (by kernel_rfl) hs_12 ho_13 (by have := (show s0.length ≤ s0_c by have := (cap_le rfl s0_hs s0_ho); have : s0.length = s0.length := rfl; omega); have := (Nat.le_trans (apn_le hg_8) (Nat.le_of_eq rfl)); omega) (fun sp_15 hl_16 => jkO ?_))
    refine jo_end (by kernel_rfl) ?_
    refine jx_then ?_
    refine jc_seq ?_
    refine jc_region ?_
    refine jo_f [(0, 0), (0, 0)] (by kernel_rfl) ?_
    refine jo_end (by kernel_rfl) ?_
    refine jx_then ?_
    refine jc_ret ?_
    obtain rfl := Option.some.inj h
    exact jx_ret [] (.slice (s0_o.map fun b => ⟨b, 0, none⟩) ((s0.take i1.toNat ++ (s0.drop j2.toNat)).length) s0_c) [] rfl (by kernel_rfl) (by kernel_rfl) (fun w hm => ⟨s0_o, s0_c, sp_15, ((s0.take i1.toNat ++ (s0.drop j2.toNat)).length), rfl, (fun e => ⟨(hs_12 e).1, hl_16.trans (hs_12 e).2⟩), ho_13, rfl, hm.pick [0] (by kernel_rfl) (by kernel_rfl)⟩)

/-! ### (impl.Wear).without -/
noncomputable def impl_Wear_without (w0 : GWear) (i1 : Int) : Option (GWear) := (impl_Wear_own w0).bind fun t_1 => (slices_Delete_WornPin t_1.fPins i1 (w64 (i1 + 1))).bind fun t_2 => some (⟨t_2, t_1.fStrokes⟩ : GWear)
set_option maxRecDepth 100000 in
theorem impl_Wear_without.calls (w0 : GWear) (i1 : Int) (w : World) (r : GWear) (w0_fPins_a : Option Addr) (w0_fPins_an : Nat) (w0_fPins_c : Nat) (w0_fPins_h : Rw w w0_fPins_a 3 encGWornPin w0.fPins) (w0_fPins_hn : w0.fPins.length = w0_fPins_an) (w0_fStrokes_a : Option Addr) (w0_fStrokes_an : Nat) (w0_fStrokes_c : Nat) (w0_fStrokes_h : Rw w w0_fStrokes_a 1 encI64 w0.fStrokes) (w0_fStrokes_hn : w0.fStrokes.length = w0_fStrokes_an) (h : impl_Wear_without w0 i1 = some r) :
    Calls Try.prog 115 #[(.agg #[(.slice w0_fPins_a w0_fPins_an w0_fPins_c), (.slice w0_fStrokes_a w0_fStrokes_an w0_fStrokes_c)]), (.int .i64 i1)] w fun e w' => ∃ v, e = .returned v ∧ (∃ (o0 : Option Nat) (c0 : Nat) (s0 : List Value) (n0 : Nat), r.fPins.length = n0 ∧ (o0 ≠ none → n0 ≤ c0 ∧ s0.length = (c0 - n0) * 3) ∧ (o0 = none → r.fPins = [] ∧ c0 = 0) ∧ ∃ (o1 : Option Nat) (c1 : Nat) (s1 : List Value) (n1 : Nat), r.fStrokes.length = n1 ∧ (o1 ≠ none → n1 ≤ c1 ∧ s1.length = (c1 - n1) * 1) ∧ (o1 = none → r.fStrokes = [] ∧ c1 = 0) ∧ v = .agg #[.slice (o0.map fun b => ⟨b, 0, none⟩) n0 c0, .slice (o1.map fun b => ⟨b, 0, none⟩) n1 c1] ∧ Mem w [] [⟨o0, 164, row encGWornPin r.fPins s0⟩, ⟨o1, 2, row encI64 r.fStrokes s1⟩] w') := by
  subst w0_fPins_hn w0_fStrokes_hn
  rw [impl_Wear_without] at h
  refine enter (args := [(.agg #[(.slice w0_fPins_a w0.fPins.length w0_fPins_c), (.slice w0_fStrokes_a w0.fStrokes.length w0_fStrokes_c)]), (.int .i64 i1)]) Try.func115 rfl Try.ntmps115 (by kernel_rfl) (L := []) (W := []) (Mem.start w) ?_
  refine jc_seq ?_
  refine jc_region ?_
  refine toO (by kernel_rfl) (p_a 0 [0] (by kernel_rfl) (fun b => by kernel_rfl) (fun b_1 => jkO ?_))
  refine toO (by kernel_rfl) (p_a 0 [0] (by kernel_rfl) (fun b => by kernel_rfl) (fun b_2 => jkO ?_))
  refine jo_end (by kernel_rfl) ?_
  refine jx_then ?_
  refine jc_seq ?_
  refine jc_region ?_
  refine jo_f [(0, 0)] (by kernel_rfl) ?_
  obtain ⟨t_1, ht_3, h⟩ := bd h
  refine toO (by kernel_rfl) (p_call 0 160 #[(.agg #[(.slice w0_fPins_a w0.fPins.length w0_fPins_c), (.slice w0_fStrokes_a w0.fStrokes.length w0_fStrokes_c)])] (by kernel_rfl) (by kernel_rfl) (fun w hm => impl_Wear_own.calls w0 w _ w0_fPins_a w0.fPins.length w0_fPins_c (hm.exRow w0_fPins_h List.not_mem_nil) rfl w0_fStrokes_a w0.fStrokes.length w0_fStrokes_c (hm.exRow w0_fStrokes_h List.not_mem_nil) rfl ht_3) ?_)
  rintro w v w' hm ⟨o_4, cap_5, sp_6, _, rfl, hs_7, ho_8, o_9, cap_10, sp_11, _, rfl, hs_12, ho_13, rfl, hm'⟩
  refine ⟨_, hm.app hm', jkO ?_⟩
  clear hm hm'
  refine toO (by kernel_rfl) (p_a 0 [0] (by kernel_rfl) (fun b => by kernel_rfl) (fun b_14 => jkO ?_))
  refine toO (by kernel_rfl) (p_s 0 [4] (by kernel_rfl) (by kernel_rfl) (jkO ?_))
  refine jo_end (by kernel_rfl) ?_
  refine jx_then ?_
  refine jc_seq ?_
  refine jc_region ?_
  refine jo_f [(0, 0), (4, 0), (0, 0), (0, 0), (0, 0)] (by kernel_rfl) ?_
  obtain ⟨t_2, ht_15, h⟩ := bd h
  refine toO (by kernel_rfl) (p_call 0 161 #[(.slice (o_4.map fun b => ⟨b, 0, none⟩) t_1.fPins.length cap_5), (.int .i64 i1), (.int .i64 (w64 (i1 + 1)))] (by kernel_rfl) (by kernel_rfl) (fun w hm => slices_Delete_WornPin.calls t_1.fPins i1 (w64 (i1 + 1)) w _ o_4 t_1.fPins.length cap_5 sp_6 rfl hs_7 ho_8 (hm.pass (N := [⟨o_4, 164, row encGWornPin t_1.fPins sp_6⟩]) [2] (by kernel_rfl) (by kernel_rfl)) ht_15) ?_)
  rintro w v w' hm ⟨o_16, cap_17, sp_18, _, rfl, hs_19, ho_20, rfl, hm'⟩
  refine ⟨_, hm.appP (ps := []) (ds := [2]) (N := [⟨o_16, 164, row encGWornPin t_2 sp_18⟩]) hm' [0] (by kernel_rfl) (by kernel_rfl) (by kernel_rfl), jkO ?_⟩
  clear hm hm'
  refine jo_f [(0, 0)] (by kernel_rfl) ?_
  refine toO (by kernel_rfl) (p_s 0 [4] (by kernel_rfl) (by kernel_rfl) (jkO ?_))
  refine jo_end (by kernel_rfl) ?_
  refine jx_then ?_
  refine jc_seq ?_
  refine jc_region ?_
  refine jo_f [(4, 0)] (by kernel_rfl) ?_
  refine toO (by kernel_rfl) (p_s 0 [1] (by kernel_rfl) (by kernel_rfl) (jkO ?_))
  refine jo_end (by kernel_rfl) ?_
  refine jx_then ?_
  refine jc_ret ?_
  obtain rfl := Option.some.inj h
  exact jx_ret [1] (.agg #[(.slice (o_16.map fun b => ⟨b, 0, none⟩) t_2.length cap_17), (.slice (o_9.map fun b => ⟨b, 0, none⟩) t_1.fStrokes.length cap_10)]) [(b_2, b_2), (b_2, b_2)] rfl (by kernel_rfl) (by kernel_rfl) (fun w hm => ⟨o_16, cap_17, sp_18, t_2.length, rfl, hs_19, ho_20, o_9, cap_10, sp_11, t_1.fStrokes.length, rfl, hs_12, ho_13, rfl, hm.pick [5, 3] (by kernel_rfl) (by kernel_rfl)⟩)

def lay_slices_SortFunc_WornPin_at_impl_comparePins_ren : Go.Shelf.Ren := ⟨fun | 6 => 162 | 15 => 193 | 14 => 192 | 28 => 221 | 29 => 222 | 20 => 213 | 21 => 214 | 22 => 215 | 23 => 216 | 24 => 217 | 25 => 218 | 26 => 219 | 27 => 220 | 46 => 230 | 47 => 231 | 48 => 232 | 49 => 233 | 50 => 234 | 57 => 236 | n => n, fun | 22 => 40 | 24 => 164 | 25 => 217 | 3 => 3 | 39 => 204 | 0 => 0 | 53 => 65 | 55 => 273 | 4 => 4 | 46 => 265 | 45 => 264 | 50 => 269 | 5 => 5 | 9 => 9 | 66 => 281 | 70 => 285 | 76 => 288 | 77 => 289 | n => n, fun | n => n⟩
theorem lay_slices_SortFunc_WornPin_at_impl_comparePins : Go.Proofs.SlLaysF0.n6 Try.prog lay_slices_SortFunc_WornPin_at_impl_comparePins_ren where
  mixed := by kernel_rfl
  f6 := ⟨ "slices.SortFunc[[]loop.example/g01311/impl.WornPin,loop.example/g01311/impl.WornPin]", by decide, Try.func162.trans (congrArg some (by kernel_rfl))⟩
  f14 := ⟨ "slices.pdqsortCmpFunc[loop.example/g01311/impl.WornPin]", by decide, Try.func192.trans (congrArg some (by kernel_rfl))⟩
  f15 := Try.func193.trans (congrArg some (by kernel_rfl))
  f20 := ⟨ "slices.insertionSortCmpFunc[loop.example/g01311/impl.WornPin]", by decide, Try.func213.trans (congrArg some (by kernel_rfl))⟩
  f21 := ⟨ "slices.heapSortCmpFunc[loop.example/g01311/impl.WornPin]", by decide, Try.func214.trans (congrArg some (by kernel_rfl))⟩
  f22 := ⟨ "slices.breakPatternsCmpFunc[loop.example/g01311/impl.WornPin]", by decide, Try.func215.trans (congrArg some (by kernel_rfl))⟩
  f23 := ⟨ "slices.choosePivotCmpFunc[loop.example/g01311/impl.WornPin]", by decide, Try.func216.trans (congrArg some (by kernel_rfl))⟩
  f24 := ⟨ "slices.reverseRangeCmpFunc[loop.example/g01311/impl.WornPin]", by decide, Try.func217.trans (congrArg some (by kernel_rfl))⟩
  f25 := ⟨ "slices.partialInsertionSortCmpFunc[loop.example/g01311/impl.WornPin]", by decide, Try.func218.trans (congrArg some (by kernel_rfl))⟩
  f26 := ⟨ "slices.partitionEqualCmpFunc[loop.example/g01311/impl.WornPin]", by decide, Try.func219.trans (congrArg some (by kernel_rfl))⟩
  f27 := ⟨ "slices.partitionCmpFunc[loop.example/g01311/impl.WornPin]", by decide, Try.func220.trans (congrArg some (by kernel_rfl))⟩
  f28 := Try.func221.trans (congrArg some (by kernel_rfl))
  f29 := Try.func222.trans (congrArg some (by kernel_rfl))
  f46 := ⟨ "slices.siftDownCmpFunc[loop.example/g01311/impl.WornPin]", by decide, Try.func230.trans (congrArg some (by kernel_rfl))⟩
  f47 := Try.func231.trans (congrArg some (by kernel_rfl))
  f48 := Try.func232.trans (congrArg some (by kernel_rfl))
  f49 := ⟨ "slices.medianAdjacentCmpFunc[loop.example/g01311/impl.WornPin]", by decide, Try.func233.trans (congrArg some (by kernel_rfl))⟩
  f50 := ⟨ "slices.medianCmpFunc[loop.example/g01311/impl.WornPin]", by decide, Try.func234.trans (congrArg some (by kernel_rfl))⟩
  f57 := ⟨ "slices.order2CmpFunc[loop.example/g01311/impl.WornPin]", by decide, Try.func236.trans (congrArg some (by kernel_rfl))⟩
  t0 := Try.underlying0
  a0 := Try.isAgg0
  z0 := Try.sizeOf0
  v0 := Try.zeroValue0
  t3 := Try.underlying3
  a3 := Try.isAgg3
  z3 := Try.sizeOf3
  v3 := Try.zeroValue3
  t4 := Try.underlying4
  a4 := Try.isAgg4
  z4 := Try.sizeOf4
  v4 := Try.zeroValue4
  t5 := Try.underlying5
  a5 := Try.isAgg5
  z5 := Try.sizeOf5
  v5 := Try.zeroValue5
  t9 := Try.underlying9
  a9 := Try.isAgg9
  z9 := Try.sizeOf9
  v9 := Try.zeroValue9
  t22 := Try.underlying40
  a22 := Try.isAgg40
  z22 := Try.sizeOf40
  v22 := Try.zeroValue40
  t25 := Try.underlying217
  a25 := Try.isAgg217
  z25 := Try.sizeOf217
  v25 := Try.zeroValue217
  t39 := Try.underlying204
  a39 := Try.isAgg204
  z39 := Try.sizeOf204
  v39 := Try.zeroValue204
  t45 := Try.underlying264
  a45 := Try.isAgg264
  z45 := Try.sizeOf264
  v45 := Try.zeroValue264
  t46 := Try.underlying265
  a46 := Try.isAgg265
  z46 := Try.sizeOf265
  v46 := Try.zeroValue265
  t50 := Try.underlying269
  a50 := Try.isAgg269
  z50 := Try.sizeOf269
  v50 := Try.zeroValue269
  t53 := Try.underlying65
  a53 := Try.isAgg65
  z53 := Try.sizeOf65
  v53 := Try.zeroValue65
  t55 := Try.underlying273
  a55 := Try.isAgg273
  z55 := Try.sizeOf273
  v55 := Try.zeroValue273
  t66 := Try.underlying281
  a66 := Try.isAgg281
  z66 := Try.sizeOf281
  v66 := Try.zeroValue281
  t70 := Try.underlying285
  a70 := Try.isAgg285
  z70 := Try.sizeOf285
  v70 := Try.zeroValue285
  t76 := Try.underlying288
  a76 := Try.isAgg288
  z76 := Try.sizeOf288
  v76 := Try.zeroValue288
  t77 := Try.underlying289
  a77 := Try.isAgg289
  z77 := Try.sizeOf289
  v77 := Try.zeroValue289
/-! ### slices.SortFunc[[]impl.WornPin,impl.WornPin] -/
noncomputable def slices_SortFunc_WornPin_at_impl_comparePins (x0 : List GWornPin) : Option ((List GWornPin)) := sortF (fun a b => impl_comparePins a b) x0
set_option maxRecDepth 100000 in
theorem slices_SortFunc_WornPin_at_impl_comparePins.calls (x0 : List GWornPin) (w : World) (r : (List GWornPin)) (x0_o : Option Nat) (x0_on : Nat) (x0_c : Nat) (x0_sp : List Value) (x0_hn : x0.length = x0_on) (x0_hs : x0_o ≠ none → x0_on ≤ x0_c ∧ x0_sp.length = (x0_c - x0_on) * 3) (x0_ho : x0_o = none → x0 = [] ∧ x0_c = 0) (hm0 : Mem w (bs [x0_o]) [⟨x0_o, 164, row encGWornPin x0 x0_sp⟩] w) (h : slices_SortFunc_WornPin_at_impl_comparePins x0 = some r) :
    Calls Try.prog 162 #[(.slice (x0_o.map fun b => ⟨b, 0, none⟩) x0_on x0_c), (.func (.func 163) #[] #[])] w fun e w' => ∃ v, e = .returned v ∧ (r.length = x0_on ∧ (x0_o = none → r = [] ∧ x0_c = 0) ∧ v = .tuple #[] ∧ Mem w (bs [x0_o]) [⟨x0_o, 164, row encGWornPin r x0_sp⟩] w') := by
  exact sort_calls lay_slices_SortFunc_WornPin_at_impl_comparePins 3 Try.isAgg164 Try.sizeOf164 encGWornPin encGWornPin_len (fun x v hv => by simp [encGWornPin] at hv; rcases hv with rfl | rfl | rfl <;> rfl) (fun a b => impl_comparePins a b) 163 (enters_of Try.func163 (by kernel_rfl) rfl) (fun x y r w hxy => impl_comparePins.calls x y w r hxy) 164 x0 w r x0_o x0_on x0_c x0_sp x0_hn x0_hs x0_ho hm0 (by rw [slices_SortFunc_WornPin_at_impl_comparePins] at h; exact h)

/-! ### (impl.Wear).with -/
noncomputable def impl_Wear_with (w0 : GWear) (p1 : GWornPin) : Option (GWear) := (impl_Wear_own w0).bind fun t_1 => (if t_1.fPins.length + [p1].length ≤ 4294967296 then (slices_SortFunc_WornPin_at_impl_comparePins (t_1.fPins ++ [p1])).bind fun t_2 => some (⟨t_2, t_1.fStrokes⟩ : GWear) else none)
set_option maxRecDepth 100000 in
theorem impl_Wear_with.calls (w0 : GWear) (p1 : GWornPin) (w : World) (r : GWear) (w0_fPins_a : Option Addr) (w0_fPins_an : Nat) (w0_fPins_c : Nat) (w0_fPins_h : Rw w w0_fPins_a 3 encGWornPin w0.fPins) (w0_fPins_hn : w0.fPins.length = w0_fPins_an) (w0_fStrokes_a : Option Addr) (w0_fStrokes_an : Nat) (w0_fStrokes_c : Nat) (w0_fStrokes_h : Rw w w0_fStrokes_a 1 encI64 w0.fStrokes) (w0_fStrokes_hn : w0.fStrokes.length = w0_fStrokes_an) (h : impl_Wear_with w0 p1 = some r) :
    Calls Try.prog 116 #[(.agg #[(.slice w0_fPins_a w0_fPins_an w0_fPins_c), (.slice w0_fStrokes_a w0_fStrokes_an w0_fStrokes_c)]), (.agg #[(.int .i8 p1.fStep), (.int .i8 p1.fTrack), (.int .i64 p1.fTurns)])] w fun e w' => ∃ v, e = .returned v ∧ (∃ (o0 : Option Nat) (c0 : Nat) (s0 : List Value) (n0 : Nat), r.fPins.length = n0 ∧ (o0 ≠ none → n0 ≤ c0 ∧ s0.length = (c0 - n0) * 3) ∧ (o0 = none → r.fPins = [] ∧ c0 = 0) ∧ ∃ (o1 : Option Nat) (c1 : Nat) (s1 : List Value) (n1 : Nat), r.fStrokes.length = n1 ∧ (o1 ≠ none → n1 ≤ c1 ∧ s1.length = (c1 - n1) * 1) ∧ (o1 = none → r.fStrokes = [] ∧ c1 = 0) ∧ v = .agg #[.slice (o0.map fun b => ⟨b, 0, none⟩) n0 c0, .slice (o1.map fun b => ⟨b, 0, none⟩) n1 c1] ∧ Mem w [] [⟨o0, 164, row encGWornPin r.fPins s0⟩, ⟨o1, 2, row encI64 r.fStrokes s1⟩] w') := by
  subst w0_fPins_hn w0_fStrokes_hn
  rw [impl_Wear_with] at h
  refine enter (args := [(.agg #[(.slice w0_fPins_a w0.fPins.length w0_fPins_c), (.slice w0_fStrokes_a w0.fStrokes.length w0_fStrokes_c)]), (.agg #[(.int .i8 p1.fStep), (.int .i8 p1.fTrack), (.int .i64 p1.fTurns)])]) Try.func116 rfl Try.ntmps116 (by kernel_rfl) (L := []) (W := []) (Mem.start w) ?_
  refine jc_seq ?_
  refine jc_region ?_
  refine toO (by kernel_rfl) (p_a 0 [0] (by kernel_rfl) (fun b => by kernel_rfl) (fun b_1 => jkO ?_))
  refine toO (by kernel_rfl) (p_a 0 [0] (by kernel_rfl) (fun b => by kernel_rfl) (fun b_2 => jkO ?_))
  refine toO (by kernel_rfl) (p_a 0 [0] (by kernel_rfl) (fun b => by kernel_rfl) (fun b_3 => jkO ?_))
  refine jo_end (by kernel_rfl) ?_
  refine jx_then ?_
  refine jc_seq ?_
  refine jc_region ?_
  refine jo_f [(0, 0)] (by kernel_rfl) ?_
  obtain ⟨t_1, ht_4, h⟩ := bd h
  refine toO (by kernel_rfl) (p_call 0 160 #[(.agg #[(.slice w0_fPins_a w0.fPins.length w0_fPins_c), (.slice w0_fStrokes_a w0.fStrokes.length w0_fStrokes_c)])] (by kernel_rfl) (by kernel_rfl) (fun w hm => impl_Wear_own.calls w0 w _ w0_fPins_a w0.fPins.length w0_fPins_c (hm.exRow w0_fPins_h List.not_mem_nil) rfl w0_fStrokes_a w0.fStrokes.length w0_fStrokes_c (hm.exRow w0_fStrokes_h List.not_mem_nil) rfl ht_4) ?_)
  rintro w v w' hm ⟨o_5, cap_6, sp_7, _, rfl, hs_8, ho_9, o_10, cap_11, sp_12, _, rfl, hs_13, ho_14, rfl, hm'⟩
  refine ⟨_, hm.app hm', jkO ?_⟩
  clear hm hm'
  refine toO (by kernel_rfl) (p_a 0 [0] (by kernel_rfl) (fun b => by kernel_rfl) (fun b_15 => jkO ?_))
  refine toO (by kernel_rfl) (p_s 0 [5] (by kernel_rfl) (by kernel_rfl) (jkO ?_))
  refine jo_end (by kernel_rfl) ?_
  refine jx_then ?_
  refine jc_seq ?_
  refine jc_region ?_
  refine jo_f [(0, 0), (5, 0), (1, 0)] (by kernel_rfl) ?_
  refine toO (by kernel_rfl) (p_a 0 [0] (by kernel_rfl) (fun b => by kernel_rfl) (fun b_16 => jkO ?_))
  obtain ⟨hg_17, h⟩ := gd h
  refine toO (by kernel_rfl) (p_apn 0 3 o_5 164 t_1.fPins.length 1 cap_6 3 16 (some ⟨b_16, 0, none⟩) encGWornPin t_1.fPins [p1] sp_7 (.agg #[(.int .i8 0), (.int .i8 0), (.int .i64 0)]) rfl rfl (by kernel_rfl) (by kernel_rfl) (by kernel_rfl) encGWornPin_len encGWornPin_cell hs_8 ho_9 (fun w hm => (hm.ownRow (hh := 6) (o := (some b_16)) (T := 164) (enc := encGWornPin) (xs := [p1]) (sp := []) (by kernel_rfl) (fun e => nomatch e) encGWornPin_len)) hg_17 (by kernel_rfl) (by kernel_rfl) (fun o_18 cap_19 sp_20 hs_21 ho_22 => jkO ?_))
  refine jo_f [(0, 0)] (by kernel_rfl) ?_
  refine toO (by kernel_rfl) (p_s 0 [5] (by kernel_rfl) (by kernel_rfl) (jkO ?_))
  refine jo_end (by kernel_rfl) ?_
  refine jx_then ?_
  refine jc_seq ?_
  refine jc_region ?_
  refine jo_f [(0, 0), (5, 0)] (by kernel_rfl) ?_
  obtain ⟨t_2, ht_23, h⟩ := bd h
  refine toO (by kernel_rfl) (p_call 0 162 #[(.slice (o_18.map fun b => ⟨b, 0, none⟩) ((t_1.fPins ++ [p1]).length) cap_19), (.func (.func 163) #[] #[])] (by kernel_rfl) (by kernel_rfl) (fun w hm => slices_SortFunc_WornPin_at_impl_comparePins.calls (t_1.fPins ++ [p1]) w _ o_18 ((t_1.fPins ++ [p1]).length) cap_19 sp_20 rfl hs_21 ho_22 (hm.pass (N := [⟨o_18, 164, row encGWornPin (t_1.fPins ++ [p1]) sp_20⟩]) [3] (by kernel_rfl) (by kernel_rfl)) ht_23) ?_)
  rintro w v w' hm ⟨hn_24, ho_25, rfl, hm'⟩
  refine ⟨_, hm.appW (ps := [(3, ⟨o_18, 164, row encGWornPin t_2 sp_20⟩)]) (N := []) hm' (by kernel_rfl) (by kernel_rfl), jkO ?_⟩
  clear hm hm'
  refine jo_end (by kernel_rfl) ?_
  refine jx_then ?_
  refine jc_seq ?_
  refine jc_region ?_
  refine jo_f [(5, 0)] (by kernel_rfl) ?_
  refine toO (by kernel_rfl) (p_s 0 [2] (by kernel_rfl) (by kernel_rfl) (jkO ?_))
  refine jo_end (by kernel_rfl) ?_
  refine jx_then ?_
  refine jc_ret ?_
  obtain rfl := Option.some.inj h
  exact jx_ret [2] (.agg #[(.slice (o_18.map fun b => ⟨b, 0, none⟩) ((t_1.fPins ++ [p1]).length) cap_19), (.slice (o_10.map fun b => ⟨b, 0, none⟩) t_1.fStrokes.length cap_11)]) [(b_3, b_3), (b_3, b_3)] rfl (by kernel_rfl) (by kernel_rfl) (fun w hm => ⟨o_18, cap_19, sp_20, ((t_1.fPins ++ [p1]).length), hn_24, hs_21, ho_25, o_10, cap_11, sp_12, t_1.fStrokes.length, rfl, hs_13, ho_14, rfl, hm.pick [3, 4] (by kernel_rfl) (by kernel_rfl)⟩)

/-! ### laws.eqWornPin -/
noncomputable def laws_eqWornPin (a0 : GWornPin) (b1 : GWornPin) : Option (Bool) := (if (a0.fStep != b1.fStep) = true then some false else (if (a0.fTrack != b1.fTrack) = true then some false else (if (a0.fTurns != b1.fTurns) = true then some false else some true)))
set_option maxRecDepth 100000 in
theorem laws_eqWornPin.calls (a0 : GWornPin) (b1 : GWornPin) (w : World) (r : Bool) (h : laws_eqWornPin a0 b1 = some r) :
    Calls Try.prog 139 #[(.agg #[(.int .i8 a0.fStep), (.int .i8 a0.fTrack), (.int .i64 a0.fTurns)]), (.agg #[(.int .i8 b1.fStep), (.int .i8 b1.fTrack), (.int .i64 b1.fTurns)])] w fun e w' => ∃ v, e = .returned v ∧ (v = (.bool r) ∧ Mem w [] [] w') := by
  rw [laws_eqWornPin] at h
  refine enter (args := [(.agg #[(.int .i8 a0.fStep), (.int .i8 a0.fTrack), (.int .i64 a0.fTurns)]), (.agg #[(.int .i8 b1.fStep), (.int .i8 b1.fTrack), (.int .i64 b1.fTurns)])]) Try.func139 rfl Try.ntmps139 (by kernel_rfl) (L := []) (W := []) (Mem.start w) ?_
  refine jc_seq ?_
  refine jc_region ?_
  refine toO (by kernel_rfl) (p_a 0 [0] (by kernel_rfl) (fun b => by kernel_rfl) (fun b_1 => jkO ?_))
  refine toO (by kernel_rfl) (p_a 0 [0] (by kernel_rfl) (fun b => by kernel_rfl) (fun b_2 => jkO ?_))
  refine jo_f [(0, 0)] (by kernel_rfl) ?_
  refine jo_end (by kernel_rfl) ?_
  refine jx_then ?_
  refine jc_seq ?_
  refine jc_seq ?_
  refine jc_region ?_
  refine jo_f [(0, 0), (0, 0), (0, 0), (1, 0), (0, 0)] (by kernel_rfl) ?_
  refine jo_end (by kernel_rfl) ?_
  refine jx_then ?_
  refine jc_cond (a0.fStep != b1.fStep) (by kernel_rfl) (fun hc_4 => ?_) (fun hc_4 => ?_)
  · replace h := ifT hc_4 h
    refine jc_seq ?_
    refine jc_region ?_
    refine jo_f [(0, 0)] (by kernel_rfl) ?_
    refine jo_end (by kernel_rfl) ?_
    refine jx_then ?_
    refine jc_ret ?_
    refine jx_thenr ?_
    obtain rfl := Option.some.inj h
    exact jx_ret [] (.bool false) [] rfl (by kernel_rfl) (by kernel_rfl) (fun w hm => ⟨rfl, hm.pick [] (by kernel_rfl) (by kernel_rfl)⟩)
  · replace h := ifF hc_4 h
    refine jc_skip ?_
    refine jx_then ?_
    refine jc_seq ?_
    refine jc_seq ?_
    refine jc_region ?_
    refine jo_f [(0, 0), (0, 0), (0, 0), (1, 0), (0, 0)] (by kernel_rfl) ?_
    refine jo_end (by kernel_rfl) ?_
    refine jx_then ?_
    refine jc_cond (a0.fTrack != b1.fTrack) (by kernel_rfl) (fun hc_6 => ?_) (fun hc_6 => ?_)
    · replace h := ifT hc_6 h
      refine jc_seq ?_
      refine jc_region ?_
      refine jo_f [(0, 0)] (by kernel_rfl) ?_
      refine jo_end (by kernel_rfl) ?_
      refine jx_then ?_
      refine jc_ret ?_
      refine jx_thenr ?_
      obtain rfl := Option.some.inj h
      exact jx_ret [] (.bool false) [] rfl (by kernel_rfl) (by kernel_rfl) (fun w hm => ⟨rfl, hm.pick [] (by kernel_rfl) (by kernel_rfl)⟩)
    · replace h := ifF hc_6 h
      refine jc_skip ?_
      refine jx_then ?_
      refine jc_seq ?_
      refine jc_seq ?_
      refine jc_region ?_
      refine jo_f [(0, 0), (0, 0), (0, 0), (1, 0), (0, 0)] (by kernel_rfl) ?_
      refine jo_end (by kernel_rfl) ?_
      refine jx_then ?_
      refine jc_cond (a0.fTurns != b1.fTurns) (by kernel_rfl) (fun hc_7 => ?_) (fun hc_7 => ?_)
      · replace h := ifT hc_7 h
        refine jc_seq ?_
        refine jc_region ?_
        refine jo_f [(0, 0)] (by kernel_rfl) ?_
        refine jo_end (by kernel_rfl) ?_
        refine jx_then ?_
        refine jc_ret ?_
        refine jx_thenr ?_
        obtain rfl := Option.some.inj h
        exact jx_ret [] (.bool false) [] rfl (by kernel_rfl) (by kernel_rfl) (fun w hm => ⟨rfl, hm.pick [] (by kernel_rfl) (by kernel_rfl)⟩)
      · replace h := ifF hc_7 h
        refine jc_skip ?_
        refine jx_then ?_
        refine jc_seq ?_
        refine jc_region ?_
        refine jo_f [(0, 0)] (by kernel_rfl) ?_
        refine jo_end (by kernel_rfl) ?_
        refine jx_then ?_
        refine jc_ret ?_
        obtain rfl := Option.some.inj h
        exact jx_ret [] (.bool true) [] rfl (by kernel_rfl) (by kernel_rfl) (fun w hm => ⟨rfl, hm.pick [] (by kernel_rfl) (by kernel_rfl)⟩)

/-! ### laws.eqWornPinS -/
noncomputable def laws_eqWornPinS.k_1 : Option (Bool) := some true
noncomputable def laws_eqWornPinS.l_3 (a0 : List GWornPin) (b1 : List GWornPin) : Int → Option ((Int) ⊕ (Bool ⊕ Unit))
  | i_2 => (if (decide (i_2 < (a0.length : Int))) = true then (ix a0 i_2).bind fun x_5 => (ix b1 i_2).bind fun x_6 => (laws_eqWornPin x_5 x_6).bind fun t_7 => (if (!t_7) = true then some (.inr (.inl false)) else some (.inl (w64 (i_2 + 1)))) else some (.inr (.inr ())))
noncomputable def laws_eqWornPinS (a0 : List GWornPin) (b1 : List GWornPin) : Option (Bool) := (if ((a0.length : Int) != (b1.length : Int)) = true then some false else (loop (laws_eqWornPinS.l_3 a0 b1) 0).bind fun t_4 => match t_4 with | .inl p => some p | .inr p => laws_eqWornPinS.k_1)
set_option maxRecDepth 100000 in
theorem laws_eqWornPinS.calls (a0 : List GWornPin) (b1 : List GWornPin) (w : World) (r : Bool) (a0_a : Option Addr) (a0_an : Nat) (a0_c : Nat) (a0_h : Rw w a0_a 3 encGWornPin a0) (a0_hn : a0.length = a0_an) (b1_a : Option Addr) (b1_an : Nat) (b1_c : Nat) (b1_h : Rw w b1_a 3 encGWornPin b1) (b1_hn : b1.length = b1_an) (h : laws_eqWornPinS a0 b1 = some r) :
    Calls Try.prog 78 #[(.slice a0_a a0_an a0_c), (.slice b1_a b1_an b1_c)] w fun e w' => ∃ v, e = .returned v ∧ (v = (.bool r) ∧ Mem w [] [] w') := by
  subst a0_hn b1_hn
  rw [laws_eqWornPinS] at h
  refine enter (args := [(.slice a0_a a0.length a0_c), (.slice b1_a b1.length b1_c)]) Try.func78 rfl Try.ntmps78 (by kernel_rfl) (L := []) (W := []) (Mem.start w) ?_
  refine jc_seq ?_
  refine jc_region ?_
  refine jo_f [(0, 0)] (by kernel_rfl) ?_
  refine jo_end (by kernel_rfl) ?_
  refine jx_then ?_
  refine jc_seq ?_
  refine jc_seq ?_
  refine jc_region ?_
  refine jo_f [(0, 0), (0, 0), (0, 0), (0, 0), (0, 0)] (by kernel_rfl) ?_
  refine jo_end (by kernel_rfl) ?_
  refine jx_then ?_
  refine jc_cond ((a0.length : Int) != (b1.length : Int)) (by kernel_rfl) (fun hc_2 => ?_) (fun hc_2 => ?_)
  · replace h := ifT hc_2 h
    refine jc_seq ?_
    refine jc_region ?_
    refine jo_f [(0, 0)] (by kernel_rfl) ?_
    refine jo_end (by kernel_rfl) ?_
    refine jx_then ?_
    refine jc_ret ?_
    refine jx_thenr ?_
    obtain rfl := Option.some.inj h
    exact jx_ret [] (.bool false) [] rfl (by kernel_rfl) (by kernel_rfl) (fun w hm => ⟨rfl, hm.pick [] (by kernel_rfl) (by kernel_rfl)⟩)
  · replace h := ifF hc_2 h
    refine jc_skip ?_
    refine jx_then ?_
    refine jc_seq ?_
    refine jc_seq ?_
    refine jc_region ?_
    refine jo_f [(0, 0)] (by kernel_rfl) ?_
    refine jo_end (by kernel_rfl) ?_
    refine jx_then ?_
    refine jc_meet (fun (_ : Unit) => laws_eqWornPinS.k_1 = some r) (fun (_ : Unit) => [(4, [], (.bool false))]) (fun (_ : Unit) => []) ?_ ?_
    · refine jc_block ?_
      obtain ⟨t_4, ht_48, hr_38⟩ := bd h
      refine jc_loop (fun (s : Int) (x : Unit) => match s, x with | i_2, _ => True) (fun (s : Int) (x : Unit) => match s, x with | i_2, _ => [(0, [], (.slice a0_a a0.length a0_c)), (1, [], (.slice b1_a b1.length b1_c)), (4, [], (.bool false)), (5, [], (.int .i64 i_2))]) (fun (s : Int) (x : Unit) => match s, x with | i_2, _ => []) ht_48 () trivial (by kernel_rfl) [] (by kernel_rfl) (by kernel_rfl) ?_
      rintro i_2 _ y_39 _ h
      rw [laws_eqWornPinS.l_3] at h
      refine jc_seq ?_
      refine jc_seq ?_
      refine jc_region ?_
      refine jo_f [(0, 0), (0, 0), (0, 0), (0, 0)] (by kernel_rfl) ?_
      refine jo_end (by kernel_rfl) ?_
      refine jx_then ?_
      refine jc_cond (decide (i_2 < (a0.length : Int))) (by kernel_rfl) (fun hc_41 => ?_) (fun hc_41 => ?_)
      · replace h := ifT hc_41 h
        refine jc_skip ?_
        refine jx_then ?_
        refine jc_seq ?_
        refine jc_block ?_
        refine jc_seq ?_
        refine jc_draw [] 10 (by kernel_rfl) (by kernel_rfl) ?_
        refine jd_f [⟨0, 0, 0⟩, ⟨1, 0, 0⟩, ⟨4, 0, 0⟩, ⟨5, 0, 0⟩] 6 (by kernel_rfl) (by kernel_rfl) (fun w h => h.pick [] (by kernel_rfl) (by kernel_rfl)) (by kernel_rfl) (by kernel_rfl) ?_
        obtain ⟨x_5, hx_42, h⟩ := bd h
        refine jd_v 2 0 (by kernel_rfl) (fun w h => h.pick [] (by kernel_rfl) (by kernel_rfl)) (by kernel_rfl) (by kernel_rfl) _ (fun w hm => idx_run (a := a0_a) (len := a0.length) (s := 3) (j := i_2) (by kernel_rfl) (ix_some hx_42).1 (ltn hx_42 rfl) (a0_h.sp hx_42)) ?_
        refine jd_v 3 0 (by kernel_rfl) (fun w h => h.pick [] (by kernel_rfl) (by kernel_rfl)) (by kernel_rfl) (by kernel_rfl) _ (fun w hm => ld_run (b := aB a0_a) (off := (aO a0_a + i_2.toNat * 3)) (s := 3) (agg := true) (vs := (encGWornPin x_5)) (by kernel_rfl) (by kernel_rfl) (.inl rfl) ((hm.exRow a0_h List.not_mem_nil).at hx_42)) ?_
        obtain ⟨x_6, hx_43, h⟩ := bd h
        refine jd_v 6 0 (by kernel_rfl) (fun w h => h.pick [] (by kernel_rfl) (by kernel_rfl)) (by kernel_rfl) (by kernel_rfl) _ (fun w hm => idx_run (a := b1_a) (len := b1.length) (s := 3) (j := i_2) (by kernel_rfl) (ix_some hx_43).1 (ltn hx_43 rfl) (b1_h.sp hx_43)) ?_
        refine jd_v 7 0 (by kernel_rfl) (fun w h => h.pick [] (by kernel_rfl) (by kernel_rfl)) (by kernel_rfl) (by kernel_rfl) _ (fun w hm => ld_run (b := aB b1_a) (off := (aO b1_a + i_2.toNat * 3)) (s := 3) (agg := true) (vs := (encGWornPin x_6)) (by kernel_rfl) (by kernel_rfl) (.inl rfl) ((hm.exRow b1_h List.not_mem_nil).at hx_43)) ?_
        obtain ⟨t_7, ht_44, h⟩ := bd h
        refine toD 8 (by kernel_rfl) (p_call 0 139 #[(.agg #[(.int .i8 x_5.fStep), (.int .i8 x_5.fTrack), (.int .i64 x_5.fTurns)]), (.agg #[(.int .i8 x_6.fStep), (.int .i8 x_6.fTrack), (.int .i64 x_6.fTurns)])] (by kernel_rfl) (by kernel_rfl) (fun w hm => laws_eqWornPin.calls x_5 x_6 w _ ht_44) ?_)
        rintro w v w' hm ⟨rfl, hm'⟩
        refine ⟨_, hm.app hm', jkD (fun w h => h.pick [] (by kernel_rfl) (by kernel_rfl)) ?_⟩
        clear hm hm'
        refine jd_f [⟨9, 0, 0⟩] 0 (by kernel_rfl) (by kernel_rfl) (fun w h => h.pick [] (by kernel_rfl) (by kernel_rfl)) (by kernel_rfl) (by kernel_rfl) ?_
        refine jd_end (by kernel_rfl) ?_
        refine jx_then ?_
        refine jc_cond (!t_7) (by kernel_rfl) (fun hc_45 => ?_) (fun hc_45 => ?_)
        · replace h := ifT hc_45 h
          refine jc_seq ?_
          refine jc_region ?_
          refine jo_f [(0, 0)] (by kernel_rfl) ?_
          refine jo_end (by kernel_rfl) ?_
          refine jx_then ?_
          refine jc_ret ?_
          refine jx_inr ?_
          refine jx_thenr ?_
          refine jx_leaver (.inl false) (Option.some.inj h).symm (fun e_46 => ?_)
          subst e_46
          refine jx_inr ?_
          refine jx_thenr ?_
          refine jx_thenr ?_
          obtain rfl := Option.some.inj hr_38
          exact jx_ret [] (.bool false) [] rfl (by kernel_rfl) (by kernel_rfl) (fun w hm => ⟨rfl, hm.pick [] (by kernel_rfl) (by kernel_rfl)⟩)
        · replace h := ifF hc_45 h
          refine jc_skip ?_
          refine jx_inn ?_
          refine jx_then ?_
          refine jc_region ?_
          refine jo_f [(0, 0), (0, 0), (0, 0)] (by kernel_rfl) ?_
          refine jo_end (by kernel_rfl) ?_
          exact jx_back (w64 (i_2 + 1)) () (Option.some.inj h).symm trivial [] (by kernel_rfl) (by kernel_rfl) (by kernel_rfl)
      · replace h := ifF hc_41 h
        refine jc_exit ?_
        refine jx_thenx ?_
        refine jx_leave (.inr ()) (Option.some.inj h).symm (fun e_47 => ?_)
        subst e_47
        refine jx_ine ?_
        exact jx_meet () hr_38 (by kernel_rfl) [] (by kernel_rfl) (by kernel_rfl)
    · rintro _ h
      replace h : laws_eqWornPinS.k_1 = some r := h
      rw [laws_eqWornPinS.k_1] at h
      refine jx_then ?_
      refine jc_seq ?_
      refine jc_region ?_
      refine jo_f [(0, 0)] (by kernel_rfl) ?_
      refine jo_end (by kernel_rfl) ?_
      refine jx_then ?_
      refine jc_ret ?_
      obtain rfl := Option.some.inj h
      exact jx_ret [] (.bool true) [] rfl (by kernel_rfl) (by kernel_rfl) (fun w hm => ⟨rfl, hm.pick [] (by kernel_rfl) (by kernel_rfl)⟩)

/-! ### laws.eqInt64S -/
noncomputable def laws_eqInt64S.k_1 : Option (Bool) := some true
noncomputable def laws_eqInt64S.l_3 (a0 : List Int) (b1 : List Int) : Int → Option ((Int) ⊕ (Bool ⊕ Unit))
  | i_2 => (if (decide (i_2 < (a0.length : Int))) = true then (ix a0 i_2).bind fun x_5 => (ix b1 i_2).bind fun x_6 => (if (x_5 != x_6) = true then some (.inr (.inl false)) else some (.inl (w64 (i_2 + 1)))) else some (.inr (.inr ())))
noncomputable def laws_eqInt64S (a0 : List Int) (b1 : List Int) : Option (Bool) := (if ((a0.length : Int) != (b1.length : Int)) = true then some false else (loop (laws_eqInt64S.l_3 a0 b1) 0).bind fun t_4 => match t_4 with | .inl p => some p | .inr p => laws_eqInt64S.k_1)
set_option maxRecDepth 100000 in
theorem laws_eqInt64S.calls (a0 : List Int) (b1 : List Int) (w : World) (r : Bool) (a0_a : Option Addr) (a0_an : Nat) (a0_c : Nat) (a0_h : Rw w a0_a 1 encI64 a0) (a0_hn : a0.length = a0_an) (b1_a : Option Addr) (b1_an : Nat) (b1_c : Nat) (b1_h : Rw w b1_a 1 encI64 b1) (b1_hn : b1.length = b1_an) (h : laws_eqInt64S a0 b1 = some r) :
    Calls Try.prog 57 #[(.slice a0_a a0_an a0_c), (.slice b1_a b1_an b1_c)] w fun e w' => ∃ v, e = .returned v ∧ (v = (.bool r) ∧ Mem w [] [] w') := by
  subst a0_hn b1_hn
  rw [laws_eqInt64S] at h
  refine enter (args := [(.slice a0_a a0.length a0_c), (.slice b1_a b1.length b1_c)]) Try.func57 rfl Try.ntmps57 (by kernel_rfl) (L := []) (W := []) (Mem.start w) ?_
  refine jc_seq ?_
  refine jc_region ?_
  refine jo_f [(0, 0)] (by kernel_rfl) ?_
  refine jo_end (by kernel_rfl) ?_
  refine jx_then ?_
  refine jc_seq ?_
  refine jc_seq ?_
  refine jc_region ?_
  refine jo_f [(0, 0), (0, 0), (0, 0), (0, 0), (0, 0)] (by kernel_rfl) ?_
  refine jo_end (by kernel_rfl) ?_
  refine jx_then ?_
  refine jc_cond ((a0.length : Int) != (b1.length : Int)) (by kernel_rfl) (fun hc_2 => ?_) (fun hc_2 => ?_)
  · replace h := ifT hc_2 h
    refine jc_seq ?_
    refine jc_region ?_
    refine jo_f [(0, 0)] (by kernel_rfl) ?_
    refine jo_end (by kernel_rfl) ?_
    refine jx_then ?_
    refine jc_ret ?_
    refine jx_thenr ?_
    obtain rfl := Option.some.inj h
    exact jx_ret [] (.bool false) [] rfl (by kernel_rfl) (by kernel_rfl) (fun w hm => ⟨rfl, hm.pick [] (by kernel_rfl) (by kernel_rfl)⟩)
  · replace h := ifF hc_2 h
    refine jc_skip ?_
    refine jx_then ?_
    refine jc_seq ?_
    refine jc_seq ?_
    refine jc_region ?_
    refine jo_f [(0, 0)] (by kernel_rfl) ?_
    refine jo_end (by kernel_rfl) ?_
    refine jx_then ?_
    refine jc_meet (fun (_ : Unit) => laws_eqInt64S.k_1 = some r) (fun (_ : Unit) => [(4, [], (.bool false))]) (fun (_ : Unit) => []) ?_ ?_
    · refine jc_block ?_
      obtain ⟨t_4, ht_42, hr_33⟩ := bd h
      refine jc_loop (fun (s : Int) (x : Unit) => match s, x with | i_2, _ => True) (fun (s : Int) (x : Unit) => match s, x with | i_2, _ => [(0, [], (.slice a0_a a0.length a0_c)), (1, [], (.slice b1_a b1.length b1_c)), (4, [], (.bool false)), (5, [], (.int .i64 i_2))]) (fun (s : Int) (x : Unit) => match s, x with | i_2, _ => []) ht_42 () trivial (by kernel_rfl) [] (by kernel_rfl) (by kernel_rfl) ?_
      rintro i_2 _ y_34 _ h
      rw [laws_eqInt64S.l_3] at h
      refine jc_seq ?_
      refine jc_seq ?_
      refine jc_region ?_
      refine jo_f [(0, 0), (0, 0), (0, 0), (0, 0)] (by kernel_rfl) ?_
      refine jo_end (by kernel_rfl) ?_
      refine jx_then ?_
      refine jc_cond (decide (i_2 < (a0.length : Int))) (by kernel_rfl) (fun hc_36 => ?_) (fun hc_36 => ?_)
      · replace h := ifT hc_36 h
        refine jc_skip ?_
        refine jx_then ?_
        refine jc_seq ?_
        refine jc_block ?_
        refine jc_seq ?_
        refine jc_draw [] 9 (by kernel_rfl) (by kernel_rfl) ?_
        refine jd_f [⟨0, 0, 0⟩, ⟨1, 0, 0⟩, ⟨4, 0, 0⟩, ⟨5, 0, 0⟩] 5 (by kernel_rfl) (by kernel_rfl) (fun w h => h.pick [] (by kernel_rfl) (by kernel_rfl)) (by kernel_rfl) (by kernel_rfl) ?_
        obtain ⟨x_5, hx_37, h⟩ := bd h
        refine jd_v 2 0 (by kernel_rfl) (fun w h => h.pick [] (by kernel_rfl) (by kernel_rfl)) (by kernel_rfl) (by kernel_rfl) _ (fun w hm => idx_run (a := a0_a) (len := a0.length) (s := 1) (j := i_2) (by kernel_rfl) (ix_some hx_37).1 (ltn hx_37 rfl) (a0_h.sp hx_37)) ?_
        refine jd_v 3 0 (by kernel_rfl) (fun w h => h.pick [] (by kernel_rfl) (by kernel_rfl)) (by kernel_rfl) (by kernel_rfl) _ (fun w hm => ld_run (b := aB a0_a) (off := (aO a0_a + i_2.toNat * 1)) (s := 1) (agg := false) (vs := (encI64 x_5)) (by kernel_rfl) (by kernel_rfl) (.inr rfl) ((hm.exRow a0_h List.not_mem_nil).at hx_37)) ?_
        obtain ⟨x_6, hx_38, h⟩ := bd h
        refine jd_v 6 0 (by kernel_rfl) (fun w h => h.pick [] (by kernel_rfl) (by kernel_rfl)) (by kernel_rfl) (by kernel_rfl) _ (fun w hm => idx_run (a := b1_a) (len := b1.length) (s := 1) (j := i_2) (by kernel_rfl) (ix_some hx_38).1 (ltn hx_38 rfl) (b1_h.sp hx_38)) ?_
        refine jd_v 7 0 (by kernel_rfl) (fun w h => h.pick [] (by kernel_rfl) (by kernel_rfl)) (by kernel_rfl) (by kernel_rfl) _ (fun w hm => ld_run (b := aB b1_a) (off := (aO b1_a + i_2.toNat * 1)) (s := 1) (agg := false) (vs := (encI64 x_6)) (by kernel_rfl) (by kernel_rfl) (.inr rfl) ((hm.exRow b1_h List.not_mem_nil).at hx_38)) ?_
        refine jd_f [⟨8, 0, 0⟩] 0 (by kernel_rfl) (by kernel_rfl) (fun w h => h.pick [] (by kernel_rfl) (by kernel_rfl)) (by kernel_rfl) (by kernel_rfl) ?_
        refine jd_end (by kernel_rfl) ?_
        refine jx_then ?_
        refine jc_cond (x_5 != x_6) (by kernel_rfl) (fun hc_39 => ?_) (fun hc_39 => ?_)
        · replace h := ifT hc_39 h
          refine jc_seq ?_
          refine jc_region ?_
          refine jo_f [(0, 0)] (by kernel_rfl) ?_
          refine jo_end (by kernel_rfl) ?_
          refine jx_then ?_
          refine jc_ret ?_
          refine jx_inr ?_
          refine jx_thenr ?_
          refine jx_leaver (.inl false) (Option.some.inj h).symm (fun e_40 => ?_)
          subst e_40
          refine jx_inr ?_
          refine jx_thenr ?_
          refine jx_thenr ?_
          obtain rfl := Option.some.inj hr_33
          exact jx_ret [] (.bool false) [] rfl (by kernel_rfl) (by kernel_rfl) (fun w hm => ⟨rfl, hm.pick [] (by kernel_rfl) (by kernel_rfl)⟩)
        · replace h := ifF hc_39 h
          refine jc_skip ?_
          refine jx_inn ?_
          refine jx_then ?_
          refine jc_region ?_
          refine jo_f [(0, 0), (0, 0), (0, 0)] (by kernel_rfl) ?_
          refine jo_end (by kernel_rfl) ?_
          exact jx_back (w64 (i_2 + 1)) () (Option.some.inj h).symm trivial [] (by kernel_rfl) (by kernel_rfl) (by kernel_rfl)
      · replace h := ifF hc_36 h
        refine jc_exit ?_
        refine jx_thenx ?_
        refine jx_leave (.inr ()) (Option.some.inj h).symm (fun e_41 => ?_)
        subst e_41
        refine jx_ine ?_
        exact jx_meet () hr_33 (by kernel_rfl) [] (by kernel_rfl) (by kernel_rfl)
    · rintro _ h
      replace h : laws_eqInt64S.k_1 = some r := h
      rw [laws_eqInt64S.k_1] at h
      refine jx_then ?_
      refine jc_seq ?_
      refine jc_region ?_
      refine jo_f [(0, 0)] (by kernel_rfl) ?_
      refine jo_end (by kernel_rfl) ?_
      refine jx_then ?_
      refine jc_ret ?_
      obtain rfl := Option.some.inj h
      exact jx_ret [] (.bool true) [] rfl (by kernel_rfl) (by kernel_rfl) (fun w hm => ⟨rfl, hm.pick [] (by kernel_rfl) (by kernel_rfl)⟩)

/-! ### laws.eqWear -/
noncomputable def laws_eqWear (a0 : GWear) (b1 : GWear) : Option (Bool) := (laws_eqWornPinS a0.fPins b1.fPins).bind fun t_1 => (if (!t_1) = true then some false else (laws_eqInt64S a0.fStrokes b1.fStrokes).bind fun t_2 => (if (!t_2) = true then some false else some true))
set_option maxRecDepth 100000 in
theorem laws_eqWear.calls (a0 : GWear) (b1 : GWear) (w : World) (r : Bool) (a0_fPins_a : Option Addr) (a0_fPins_an : Nat) (a0_fPins_c : Nat) (a0_fPins_h : Rw w a0_fPins_a 3 encGWornPin a0.fPins) (a0_fPins_hn : a0.fPins.length = a0_fPins_an) (a0_fStrokes_a : Option Addr) (a0_fStrokes_an : Nat) (a0_fStrokes_c : Nat) (a0_fStrokes_h : Rw w a0_fStrokes_a 1 encI64 a0.fStrokes) (a0_fStrokes_hn : a0.fStrokes.length = a0_fStrokes_an) (b1_fPins_a : Option Addr) (b1_fPins_an : Nat) (b1_fPins_c : Nat) (b1_fPins_h : Rw w b1_fPins_a 3 encGWornPin b1.fPins) (b1_fPins_hn : b1.fPins.length = b1_fPins_an) (b1_fStrokes_a : Option Addr) (b1_fStrokes_an : Nat) (b1_fStrokes_c : Nat) (b1_fStrokes_h : Rw w b1_fStrokes_a 1 encI64 b1.fStrokes) (b1_fStrokes_hn : b1.fStrokes.length = b1_fStrokes_an) (h : laws_eqWear a0 b1 = some r) :
    Calls Try.prog 21 #[(.agg #[(.slice a0_fPins_a a0_fPins_an a0_fPins_c), (.slice a0_fStrokes_a a0_fStrokes_an a0_fStrokes_c)]), (.agg #[(.slice b1_fPins_a b1_fPins_an b1_fPins_c), (.slice b1_fStrokes_a b1_fStrokes_an b1_fStrokes_c)])] w fun e w' => ∃ v, e = .returned v ∧ (v = (.bool r) ∧ Mem w [] [] w') := by
  subst a0_fPins_hn a0_fStrokes_hn b1_fPins_hn b1_fStrokes_hn
  rw [laws_eqWear] at h
  refine enter (args := [(.agg #[(.slice a0_fPins_a a0.fPins.length a0_fPins_c), (.slice a0_fStrokes_a a0.fStrokes.length a0_fStrokes_c)]), (.agg #[(.slice b1_fPins_a b1.fPins.length b1_fPins_c), (.slice b1_fStrokes_a b1.fStrokes.length b1_fStrokes_c)])]) Try.func21 rfl Try.ntmps21 (by kernel_rfl) (L := []) (W := []) (Mem.start w) ?_
  refine jc_seq ?_
  refine jc_region ?_
  refine toO (by kernel_rfl) (p_a 0 [0] (by kernel_rfl) (fun b => by kernel_rfl) (fun b_1 => jkO ?_))
  refine toO (by kernel_rfl) (p_a 0 [0] (by kernel_rfl) (fun b => by kernel_rfl) (fun b_2 => jkO ?_))
  refine jo_f [(0, 0)] (by kernel_rfl) ?_
  refine jo_end (by kernel_rfl) ?_
  refine jx_then ?_
  refine jc_seq ?_
  refine jc_seq ?_
  refine jc_region ?_
  refine jo_f [(0, 0), (0, 0), (0, 0), (1, 0)] (by kernel_rfl) ?_
  obtain ⟨t_1, ht_5, h⟩ := bd h
  refine toO (by kernel_rfl) (p_call 0 78 #[(.slice a0_fPins_a a0.fPins.length a0_fPins_c), (.slice b1_fPins_a b1.fPins.length b1_fPins_c)] (by kernel_rfl) (by kernel_rfl) (fun w hm => laws_eqWornPinS.calls a0.fPins b1.fPins w _ a0_fPins_a a0.fPins.length a0_fPins_c (hm.exRow a0_fPins_h List.not_mem_nil) rfl b1_fPins_a b1.fPins.length b1_fPins_c (hm.exRow b1_fPins_h List.not_mem_nil) rfl ht_5) ?_)
  rintro w v w' hm ⟨rfl, hm'⟩
  refine ⟨_, hm.app hm', jkO ?_⟩
  clear hm hm'
  refine jo_f [(0, 0)] (by kernel_rfl) ?_
  refine jo_end (by kernel_rfl) ?_
  refine jx_then ?_
  refine jc_cond (!t_1) (by kernel_rfl) (fun hc_6 => ?_) (fun hc_6 => ?_)
  · replace h := ifT hc_6 h
    refine jc_seq ?_
    refine jc_region ?_
    refine jo_f [(0, 0)] (by kernel_rfl) ?_
    refine jo_end (by kernel_rfl) ?_
    refine jx_then ?_
    refine jc_ret ?_
    refine jx_thenr ?_
    obtain rfl := Option.some.inj h
    exact jx_ret [] (.bool false) [] rfl (by kernel_rfl) (by kernel_rfl) (fun w hm => ⟨rfl, hm.pick [] (by kernel_rfl) (by kernel_rfl)⟩)
  · replace h := ifF hc_6 h
    refine jc_skip ?_
    refine jx_then ?_
    refine jc_seq ?_
    refine jc_seq ?_
    refine jc_region ?_
    refine jo_f [(0, 0), (0, 0), (0, 0), (1, 0)] (by kernel_rfl) ?_
    obtain ⟨t_2, ht_7, h⟩ := bd h
    refine toO (by kernel_rfl) (p_call 0 57 #[(.slice a0_fStrokes_a a0.fStrokes.length a0_fStrokes_c), (.slice b1_fStrokes_a b1.fStrokes.length b1_fStrokes_c)] (by kernel_rfl) (by kernel_rfl) (fun w hm => laws_eqInt64S.calls a0.fStrokes b1.fStrokes w _ a0_fStrokes_a a0.fStrokes.length a0_fStrokes_c (hm.exRow a0_fStrokes_h List.not_mem_nil) rfl b1_fStrokes_a b1.fStrokes.length b1_fStrokes_c (hm.exRow b1_fStrokes_h List.not_mem_nil) rfl ht_7) ?_)
    rintro w v w' hm ⟨rfl, hm'⟩
    refine ⟨_, hm.app hm', jkO ?_⟩
    clear hm hm'
    refine jo_f [(0, 0)] (by kernel_rfl) ?_
    refine jo_end (by kernel_rfl) ?_
    refine jx_then ?_
    refine jc_cond (!t_2) (by kernel_rfl) (fun hc_8 => ?_) (fun hc_8 => ?_)
    · replace h := ifT hc_8 h
      refine jc_seq ?_
      refine jc_region ?_
      refine jo_f [(0, 0)] (by kernel_rfl) ?_
      refine jo_end (by kernel_rfl) ?_
      refine jx_then ?_
      refine jc_ret ?_
      refine jx_thenr ?_
      obtain rfl := Option.some.inj h
      exact jx_ret [] (.bool false) [] rfl (by kernel_rfl) (by kernel_rfl) (fun w hm => ⟨rfl, hm.pick [] (by kernel_rfl) (by kernel_rfl)⟩)
    · replace h := ifF hc_8 h
      refine jc_skip ?_
      refine jx_then ?_
      refine jc_seq ?_
      refine jc_region ?_
      refine jo_f [(0, 0)] (by kernel_rfl) ?_
      refine jo_end (by kernel_rfl) ?_
      refine jx_then ?_
      refine jc_ret ?_
      obtain rfl := Option.some.inj h
      exact jx_ret [] (.bool true) [] rfl (by kernel_rfl) (by kernel_rfl) (fun w hm => ⟨rfl, hm.pick [] (by kernel_rfl) (by kernel_rfl)⟩)

/-! ### laws.eqHammer -/
noncomputable def laws_eqHammer (a0 : GHammer) (b1 : GHammer) : Option (Bool) := (if (a0.fPitch != b1.fPitch) = true then some false else (if (a0.fReady != b1.fReady) = true then some false else some true))
set_option maxRecDepth 100000 in
theorem laws_eqHammer.calls (a0 : GHammer) (b1 : GHammer) (w : World) (r : Bool) (h : laws_eqHammer a0 b1 = some r) :
    Calls Try.prog 138 #[(.agg #[(.int .i8 a0.fPitch), (.int .i8 a0.fReady)]), (.agg #[(.int .i8 b1.fPitch), (.int .i8 b1.fReady)])] w fun e w' => ∃ v, e = .returned v ∧ (v = (.bool r) ∧ Mem w [] [] w') := by
  rw [laws_eqHammer] at h
  refine enter (args := [(.agg #[(.int .i8 a0.fPitch), (.int .i8 a0.fReady)]), (.agg #[(.int .i8 b1.fPitch), (.int .i8 b1.fReady)])]) Try.func138 rfl Try.ntmps138 (by kernel_rfl) (L := []) (W := []) (Mem.start w) ?_
  refine jc_seq ?_
  refine jc_region ?_
  refine toO (by kernel_rfl) (p_a 0 [0] (by kernel_rfl) (fun b => by kernel_rfl) (fun b_1 => jkO ?_))
  refine toO (by kernel_rfl) (p_a 0 [0] (by kernel_rfl) (fun b => by kernel_rfl) (fun b_2 => jkO ?_))
  refine jo_f [(0, 0)] (by kernel_rfl) ?_
  refine jo_end (by kernel_rfl) ?_
  refine jx_then ?_
  refine jc_seq ?_
  refine jc_seq ?_
  refine jc_region ?_
  refine jo_f [(0, 0), (0, 0), (0, 0), (1, 0), (0, 0)] (by kernel_rfl) ?_
  refine jo_end (by kernel_rfl) ?_
  refine jx_then ?_
  refine jc_cond (a0.fPitch != b1.fPitch) (by kernel_rfl) (fun hc_4 => ?_) (fun hc_4 => ?_)
  · replace h := ifT hc_4 h
    refine jc_seq ?_
    refine jc_region ?_
    refine jo_f [(0, 0)] (by kernel_rfl) ?_
    refine jo_end (by kernel_rfl) ?_
    refine jx_then ?_
    refine jc_ret ?_
    refine jx_thenr ?_
    obtain rfl := Option.some.inj h
    exact jx_ret [] (.bool false) [] rfl (by kernel_rfl) (by kernel_rfl) (fun w hm => ⟨rfl, hm.pick [] (by kernel_rfl) (by kernel_rfl)⟩)
  · replace h := ifF hc_4 h
    refine jc_skip ?_
    refine jx_then ?_
    refine jc_seq ?_
    refine jc_seq ?_
    refine jc_region ?_
    refine jo_f [(0, 0), (0, 0), (0, 0), (1, 0), (0, 0)] (by kernel_rfl) ?_
    refine jo_end (by kernel_rfl) ?_
    refine jx_then ?_
    refine jc_cond (a0.fReady != b1.fReady) (by kernel_rfl) (fun hc_5 => ?_) (fun hc_5 => ?_)
    · replace h := ifT hc_5 h
      refine jc_seq ?_
      refine jc_region ?_
      refine jo_f [(0, 0)] (by kernel_rfl) ?_
      refine jo_end (by kernel_rfl) ?_
      refine jx_then ?_
      refine jc_ret ?_
      refine jx_thenr ?_
      obtain rfl := Option.some.inj h
      exact jx_ret [] (.bool false) [] rfl (by kernel_rfl) (by kernel_rfl) (fun w hm => ⟨rfl, hm.pick [] (by kernel_rfl) (by kernel_rfl)⟩)
    · replace h := ifF hc_5 h
      refine jc_skip ?_
      refine jx_then ?_
      refine jc_seq ?_
      refine jc_region ?_
      refine jo_f [(0, 0)] (by kernel_rfl) ?_
      refine jo_end (by kernel_rfl) ?_
      refine jx_then ?_
      refine jc_ret ?_
      obtain rfl := Option.some.inj h
      exact jx_ret [] (.bool true) [] rfl (by kernel_rfl) (by kernel_rfl) (fun w hm => ⟨rfl, hm.pick [] (by kernel_rfl) (by kernel_rfl)⟩)

/-! ### laws.eqHammerS -/
noncomputable def laws_eqHammerS.k_1 : Option (Bool) := some true
noncomputable def laws_eqHammerS.l_3 (a0 : List GHammer) (b1 : List GHammer) : Int → Option ((Int) ⊕ (Bool ⊕ Unit))
  | i_2 => (if (decide (i_2 < (a0.length : Int))) = true then (ix a0 i_2).bind fun x_5 => (ix b1 i_2).bind fun x_6 => (laws_eqHammer x_5 x_6).bind fun t_7 => (if (!t_7) = true then some (.inr (.inl false)) else some (.inl (w64 (i_2 + 1)))) else some (.inr (.inr ())))
noncomputable def laws_eqHammerS (a0 : List GHammer) (b1 : List GHammer) : Option (Bool) := (if ((a0.length : Int) != (b1.length : Int)) = true then some false else (loop (laws_eqHammerS.l_3 a0 b1) 0).bind fun t_4 => match t_4 with | .inl p => some p | .inr p => laws_eqHammerS.k_1)
set_option maxRecDepth 100000 in
theorem laws_eqHammerS.calls (a0 : List GHammer) (b1 : List GHammer) (w : World) (r : Bool) (a0_a : Option Addr) (a0_an : Nat) (a0_c : Nat) (a0_h : Rw w a0_a 2 encGHammer a0) (a0_hn : a0.length = a0_an) (b1_a : Option Addr) (b1_an : Nat) (b1_c : Nat) (b1_h : Rw w b1_a 2 encGHammer b1) (b1_hn : b1.length = b1_an) (h : laws_eqHammerS a0 b1 = some r) :
    Calls Try.prog 77 #[(.slice a0_a a0_an a0_c), (.slice b1_a b1_an b1_c)] w fun e w' => ∃ v, e = .returned v ∧ (v = (.bool r) ∧ Mem w [] [] w') := by
  subst a0_hn b1_hn
  rw [laws_eqHammerS] at h
  refine enter (args := [(.slice a0_a a0.length a0_c), (.slice b1_a b1.length b1_c)]) Try.func77 rfl Try.ntmps77 (by kernel_rfl) (L := []) (W := []) (Mem.start w) ?_
  refine jc_seq ?_
  refine jc_region ?_
  refine jo_f [(0, 0)] (by kernel_rfl) ?_
  refine jo_end (by kernel_rfl) ?_
  refine jx_then ?_
  refine jc_seq ?_
  refine jc_seq ?_
  refine jc_region ?_
  refine jo_f [(0, 0), (0, 0), (0, 0), (0, 0), (0, 0)] (by kernel_rfl) ?_
  refine jo_end (by kernel_rfl) ?_
  refine jx_then ?_
  refine jc_cond ((a0.length : Int) != (b1.length : Int)) (by kernel_rfl) (fun hc_2 => ?_) (fun hc_2 => ?_)
  · replace h := ifT hc_2 h
    refine jc_seq ?_
    refine jc_region ?_
    refine jo_f [(0, 0)] (by kernel_rfl) ?_
    refine jo_end (by kernel_rfl) ?_
    refine jx_then ?_
    refine jc_ret ?_
    refine jx_thenr ?_
    obtain rfl := Option.some.inj h
    exact jx_ret [] (.bool false) [] rfl (by kernel_rfl) (by kernel_rfl) (fun w hm => ⟨rfl, hm.pick [] (by kernel_rfl) (by kernel_rfl)⟩)
  · replace h := ifF hc_2 h
    refine jc_skip ?_
    refine jx_then ?_
    refine jc_seq ?_
    refine jc_seq ?_
    refine jc_region ?_
    refine jo_f [(0, 0)] (by kernel_rfl) ?_
    refine jo_end (by kernel_rfl) ?_
    refine jx_then ?_
    refine jc_meet (fun (_ : Unit) => laws_eqHammerS.k_1 = some r) (fun (_ : Unit) => [(4, [], (.bool false))]) (fun (_ : Unit) => []) ?_ ?_
    · refine jc_block ?_
      obtain ⟨t_4, ht_48, hr_38⟩ := bd h
      refine jc_loop (fun (s : Int) (x : Unit) => match s, x with | i_2, _ => True) (fun (s : Int) (x : Unit) => match s, x with | i_2, _ => [(0, [], (.slice a0_a a0.length a0_c)), (1, [], (.slice b1_a b1.length b1_c)), (4, [], (.bool false)), (5, [], (.int .i64 i_2))]) (fun (s : Int) (x : Unit) => match s, x with | i_2, _ => []) ht_48 () trivial (by kernel_rfl) [] (by kernel_rfl) (by kernel_rfl) ?_
      rintro i_2 _ y_39 _ h
      rw [laws_eqHammerS.l_3] at h
      refine jc_seq ?_
      refine jc_seq ?_
      refine jc_region ?_
      refine jo_f [(0, 0), (0, 0), (0, 0), (0, 0)] (by kernel_rfl) ?_
      refine jo_end (by kernel_rfl) ?_
      refine jx_then ?_
      refine jc_cond (decide (i_2 < (a0.length : Int))) (by kernel_rfl) (fun hc_41 => ?_) (fun hc_41 => ?_)
      · replace h := ifT hc_41 h
        refine jc_skip ?_
        refine jx_then ?_
        refine jc_seq ?_
        refine jc_block ?_
        refine jc_seq ?_
        refine jc_draw [] 10 (by kernel_rfl) (by kernel_rfl) ?_
        refine jd_f [⟨0, 0, 0⟩, ⟨1, 0, 0⟩, ⟨4, 0, 0⟩, ⟨5, 0, 0⟩] 6 (by kernel_rfl) (by kernel_rfl) (fun w h => h.pick [] (by kernel_rfl) (by kernel_rfl)) (by kernel_rfl) (by kernel_rfl) ?_
        obtain ⟨x_5, hx_42, h⟩ := bd h
        refine jd_v 2 0 (by kernel_rfl) (fun w h => h.pick [] (by kernel_rfl) (by kernel_rfl)) (by kernel_rfl) (by kernel_rfl) _ (fun w hm => idx_run (a := a0_a) (len := a0.length) (s := 2) (j := i_2) (by kernel_rfl) (ix_some hx_42).1 (ltn hx_42 rfl) (a0_h.sp hx_42)) ?_
        refine jd_v 3 0 (by kernel_rfl) (fun w h => h.pick [] (by kernel_rfl) (by kernel_rfl)) (by kernel_rfl) (by kernel_rfl) _ (fun w hm => ld_run (b := aB a0_a) (off := (aO a0_a + i_2.toNat * 2)) (s := 2) (agg := true) (vs := (encGHammer x_5)) (by kernel_rfl) (by kernel_rfl) (.inl rfl) ((hm.exRow a0_h List.not_mem_nil).at hx_42)) ?_
        obtain ⟨x_6, hx_43, h⟩ := bd h
        refine jd_v 6 0 (by kernel_rfl) (fun w h => h.pick [] (by kernel_rfl) (by kernel_rfl)) (by kernel_rfl) (by kernel_rfl) _ (fun w hm => idx_run (a := b1_a) (len := b1.length) (s := 2) (j := i_2) (by kernel_rfl) (ix_some hx_43).1 (ltn hx_43 rfl) (b1_h.sp hx_43)) ?_
        refine jd_v 7 0 (by kernel_rfl) (fun w h => h.pick [] (by kernel_rfl) (by kernel_rfl)) (by kernel_rfl) (by kernel_rfl) _ (fun w hm => ld_run (b := aB b1_a) (off := (aO b1_a + i_2.toNat * 2)) (s := 2) (agg := true) (vs := (encGHammer x_6)) (by kernel_rfl) (by kernel_rfl) (.inl rfl) ((hm.exRow b1_h List.not_mem_nil).at hx_43)) ?_
        obtain ⟨t_7, ht_44, h⟩ := bd h
        refine toD 8 (by kernel_rfl) (p_call 0 138 #[(.agg #[(.int .i8 x_5.fPitch), (.int .i8 x_5.fReady)]), (.agg #[(.int .i8 x_6.fPitch), (.int .i8 x_6.fReady)])] (by kernel_rfl) (by kernel_rfl) (fun w hm => laws_eqHammer.calls x_5 x_6 w _ ht_44) ?_)
        rintro w v w' hm ⟨rfl, hm'⟩
        refine ⟨_, hm.app hm', jkD (fun w h => h.pick [] (by kernel_rfl) (by kernel_rfl)) ?_⟩
        clear hm hm'
        refine jd_f [⟨9, 0, 0⟩] 0 (by kernel_rfl) (by kernel_rfl) (fun w h => h.pick [] (by kernel_rfl) (by kernel_rfl)) (by kernel_rfl) (by kernel_rfl) ?_
        refine jd_end (by kernel_rfl) ?_
        refine jx_then ?_
        refine jc_cond (!t_7) (by kernel_rfl) (fun hc_45 => ?_) (fun hc_45 => ?_)
        · replace h := ifT hc_45 h
          refine jc_seq ?_
          refine jc_region ?_
          refine jo_f [(0, 0)] (by kernel_rfl) ?_
          refine jo_end (by kernel_rfl) ?_
          refine jx_then ?_
          refine jc_ret ?_
          refine jx_inr ?_
          refine jx_thenr ?_
          refine jx_leaver (.inl false) (Option.some.inj h).symm (fun e_46 => ?_)
          subst e_46
          refine jx_inr ?_
          refine jx_thenr ?_
          refine jx_thenr ?_
          obtain rfl := Option.some.inj hr_38
          exact jx_ret [] (.bool false) [] rfl (by kernel_rfl) (by kernel_rfl) (fun w hm => ⟨rfl, hm.pick [] (by kernel_rfl) (by kernel_rfl)⟩)
        · replace h := ifF hc_45 h
          refine jc_skip ?_
          refine jx_inn ?_
          refine jx_then ?_
          refine jc_region ?_
          refine jo_f [(0, 0), (0, 0), (0, 0)] (by kernel_rfl) ?_
          refine jo_end (by kernel_rfl) ?_
          exact jx_back (w64 (i_2 + 1)) () (Option.some.inj h).symm trivial [] (by kernel_rfl) (by kernel_rfl) (by kernel_rfl)
      · replace h := ifF hc_41 h
        refine jc_exit ?_
        refine jx_thenx ?_
        refine jx_leave (.inr ()) (Option.some.inj h).symm (fun e_47 => ?_)
        subst e_47
        refine jx_ine ?_
        exact jx_meet () hr_38 (by kernel_rfl) [] (by kernel_rfl) (by kernel_rfl)
    · rintro _ h
      replace h : laws_eqHammerS.k_1 = some r := h
      rw [laws_eqHammerS.k_1] at h
      refine jx_then ?_
      refine jc_seq ?_
      refine jc_region ?_
      refine jo_f [(0, 0)] (by kernel_rfl) ?_
      refine jo_end (by kernel_rfl) ?_
      refine jx_then ?_
      refine jc_ret ?_
      obtain rfl := Option.some.inj h
      exact jx_ret [] (.bool true) [] rfl (by kernel_rfl) (by kernel_rfl) (fun w hm => ⟨rfl, hm.pick [] (by kernel_rfl) (by kernel_rfl)⟩)

/-! ### laws.eqFrame -/
noncomputable def laws_eqFrame (a0 : GFrame) (b1 : GFrame) : Option (Bool) := (if (a0.fSteps != b1.fSteps) = true then some false else (laws_eqHammerS a0.fHammers b1.fHammers).bind fun t_1 => (if (!t_1) = true then some false else some true))
set_option maxRecDepth 100000 in
theorem laws_eqFrame.calls (a0 : GFrame) (b1 : GFrame) (w : World) (r : Bool) (a0_fHammers_a : Option Addr) (a0_fHammers_an : Nat) (a0_fHammers_c : Nat) (a0_fHammers_h : Rw w a0_fHammers_a 2 encGHammer a0.fHammers) (a0_fHammers_hn : a0.fHammers.length = a0_fHammers_an) (b1_fHammers_a : Option Addr) (b1_fHammers_an : Nat) (b1_fHammers_c : Nat) (b1_fHammers_h : Rw w b1_fHammers_a 2 encGHammer b1.fHammers) (b1_fHammers_hn : b1.fHammers.length = b1_fHammers_an) (h : laws_eqFrame a0 b1 = some r) :
    Calls Try.prog 20 #[(.agg #[(.int .i16 a0.fSteps), (.slice a0_fHammers_a a0_fHammers_an a0_fHammers_c)]), (.agg #[(.int .i16 b1.fSteps), (.slice b1_fHammers_a b1_fHammers_an b1_fHammers_c)])] w fun e w' => ∃ v, e = .returned v ∧ (v = (.bool r) ∧ Mem w [] [] w') := by
  subst a0_fHammers_hn b1_fHammers_hn
  rw [laws_eqFrame] at h
  refine enter (args := [(.agg #[(.int .i16 a0.fSteps), (.slice a0_fHammers_a a0.fHammers.length a0_fHammers_c)]), (.agg #[(.int .i16 b1.fSteps), (.slice b1_fHammers_a b1.fHammers.length b1_fHammers_c)])]) Try.func20 rfl Try.ntmps20 (by kernel_rfl) (L := []) (W := []) (Mem.start w) ?_
  refine jc_seq ?_
  refine jc_region ?_
  refine toO (by kernel_rfl) (p_a 0 [0] (by kernel_rfl) (fun b => by kernel_rfl) (fun b_1 => jkO ?_))
  refine toO (by kernel_rfl) (p_a 0 [0] (by kernel_rfl) (fun b => by kernel_rfl) (fun b_2 => jkO ?_))
  refine jo_f [(0, 0)] (by kernel_rfl) ?_
  refine jo_end (by kernel_rfl) ?_
  refine jx_then ?_
  refine jc_seq ?_
  refine jc_seq ?_
  refine jc_region ?_
  refine jo_f [(0, 0), (0, 0), (0, 0), (1, 0), (0, 0)] (by kernel_rfl) ?_
  refine jo_end (by kernel_rfl) ?_
  refine jx_then ?_
  refine jc_cond (a0.fSteps != b1.fSteps) (by kernel_rfl) (fun hc_4 => ?_) (fun hc_4 => ?_)
  · replace h := ifT hc_4 h
    refine jc_seq ?_
    refine jc_region ?_
    refine jo_f [(0, 0)] (by kernel_rfl) ?_
    refine jo_end (by kernel_rfl) ?_
    refine jx_then ?_
    refine jc_ret ?_
    refine jx_thenr ?_
    obtain rfl := Option.some.inj h
    exact jx_ret [] (.bool false) [] rfl (by kernel_rfl) (by kernel_rfl) (fun w hm => ⟨rfl, hm.pick [] (by kernel_rfl) (by kernel_rfl)⟩)
  · replace h := ifF hc_4 h
    refine jc_skip ?_
    refine jx_then ?_
    refine jc_seq ?_
    refine jc_seq ?_
    refine jc_region ?_
    refine jo_f [(0, 0), (0, 0), (0, 0), (1, 0)] (by kernel_rfl) ?_
    obtain ⟨t_1, ht_5, h⟩ := bd h
    refine toO (by kernel_rfl) (p_call 0 77 #[(.slice a0_fHammers_a a0.fHammers.length a0_fHammers_c), (.slice b1_fHammers_a b1.fHammers.length b1_fHammers_c)] (by kernel_rfl) (by kernel_rfl) (fun w hm => laws_eqHammerS.calls a0.fHammers b1.fHammers w _ a0_fHammers_a a0.fHammers.length a0_fHammers_c (hm.exRow a0_fHammers_h List.not_mem_nil) rfl b1_fHammers_a b1.fHammers.length b1_fHammers_c (hm.exRow b1_fHammers_h List.not_mem_nil) rfl ht_5) ?_)
    rintro w v w' hm ⟨rfl, hm'⟩
    refine ⟨_, hm.app hm', jkO ?_⟩
    clear hm hm'
    refine jo_f [(0, 0)] (by kernel_rfl) ?_
    refine jo_end (by kernel_rfl) ?_
    refine jx_then ?_
    refine jc_cond (!t_1) (by kernel_rfl) (fun hc_6 => ?_) (fun hc_6 => ?_)
    · replace h := ifT hc_6 h
      refine jc_seq ?_
      refine jc_region ?_
      refine jo_f [(0, 0)] (by kernel_rfl) ?_
      refine jo_end (by kernel_rfl) ?_
      refine jx_then ?_
      refine jc_ret ?_
      refine jx_thenr ?_
      obtain rfl := Option.some.inj h
      exact jx_ret [] (.bool false) [] rfl (by kernel_rfl) (by kernel_rfl) (fun w hm => ⟨rfl, hm.pick [] (by kernel_rfl) (by kernel_rfl)⟩)
    · replace h := ifF hc_6 h
      refine jc_skip ?_
      refine jx_then ?_
      refine jc_seq ?_
      refine jc_region ?_
      refine jo_f [(0, 0)] (by kernel_rfl) ?_
      refine jo_end (by kernel_rfl) ?_
      refine jx_then ?_
      refine jc_ret ?_
      obtain rfl := Option.some.inj h
      exact jx_ret [] (.bool true) [] rfl (by kernel_rfl) (by kernel_rfl) (fun w hm => ⟨rfl, hm.pick [] (by kernel_rfl) (by kernel_rfl)⟩)

/-! ### laws.markHammerS -/
noncomputable def laws_markHammerS.k_3 (xs_1 : List GHammer) (i_2 : Int) : Option (Int × (List GHammer)) := some (i_2, xs_1)
noncomputable def laws_markHammerS.l_7 (a0 : List GHammer) : ((List GHammer) × Int × Int) → Option (((List GHammer) × Int × Int) ⊕ (((List GHammer) × Int)))
  | (xs_4, i_5, i_6) => (if (decide (i_6 < (a0.length : Int))) = true then (ix xs_4 i_6).bind fun x_9 => (ix (xs_4.set i_6.toNat (⟨(w8 i_5), x_9.fReady⟩ : GHammer)) i_6).bind fun x_10 => some (.inl (((xs_4.set i_6.toNat (⟨(w8 i_5), x_9.fReady⟩ : GHammer)).set i_6.toNat (⟨x_10.fPitch, (w8 (w64 (i_5 + 1)))⟩ : GHammer)), (w64 ((w64 (i_5 + 1)) + 1)), (w64 (i_6 + 1)))) else some (.inr (xs_4, i_5)))
noncomputable def laws_markHammerS (a0 : List GHammer) (k1 : Int) : Option (Int × (List GHammer)) := (loop (laws_markHammerS.l_7 a0) (a0, k1, 0)).bind fun t_8 => laws_markHammerS.k_3 t_8.1 t_8.2
set_option maxRecDepth 100000 in
theorem laws_markHammerS.calls (a0 : List GHammer) (k1 : Int) (w : World) (r : Int × (List GHammer)) (a0_o : Option Nat) (a0_on : Nat) (a0_c : Nat) (a0_sp : List Value) (a0_hn : a0.length = a0_on) (a0_hs : a0_o ≠ none → a0_on ≤ a0_c ∧ a0_sp.length = (a0_c - a0_on) * 2) (a0_ho : a0_o = none → a0 = [] ∧ a0_c = 0) (hm0 : Mem w (bs [a0_o]) [⟨a0_o, 178, row encGHammer a0 a0_sp⟩] w) (h : laws_markHammerS a0 k1 = some r) :
    Calls Try.prog 108 #[(.slice (a0_o.map fun b => ⟨b, 0, none⟩) a0_on a0_c), (.int .i64 k1)] w fun e w' => ∃ v, e = .returned v ∧ (r.2.length = a0_on ∧ (a0_o = none → r.2 = [] ∧ a0_c = 0) ∧ v = (.int .i64 r.1) ∧ Mem w (bs [a0_o]) [⟨a0_o, 178, row encGHammer r.2 a0_sp⟩] w') := by
  subst a0_hn
  rw [laws_markHammerS] at h
  refine enter (args := [(.slice (a0_o.map fun b => ⟨b, 0, none⟩) a0.length a0_c), (.int .i64 k1)]) Try.func108 rfl Try.ntmps108 (by kernel_rfl) (L := [⟨a0_o, 178, row encGHammer a0 a0_sp⟩]) (W := bs [a0_o]) hm0 ?_
  refine jc_seq ?_
  refine jc_region ?_
  refine jo_f [(0, 0)] (by kernel_rfl) ?_
  refine jo_end (by kernel_rfl) ?_
  refine jx_then ?_
  refine jc_seq ?_
  refine jc_seq ?_
  refine jc_region ?_
  refine jo_f [(0, 0)] (by kernel_rfl) ?_
  refine jo_end (by kernel_rfl) ?_
  refine jx_then ?_
  refine jc_meet (fun (j : (List GHammer) × Int) => match j with | ⟨xs_1, i_2⟩ => laws_markHammerS.k_3 xs_1 i_2 = some r ∧ (xs_1.length = a0.length) ∧ ((a0_o = none → xs_1 = [] ∧ a0_c = 0))) (fun (j : (List GHammer) × Int) => match j with | ⟨xs_1, i_2⟩ => [(1, [], (.int .i64 i_2)), (4, [], (.int .i64 0))]) (fun (j : (List GHammer) × Int) => match j with | ⟨xs_1, i_2⟩ => [⟨a0_o, 178, row encGHammer xs_1 a0_sp⟩]) ?_ ?_
  · refine jc_block ?_
    obtain ⟨t_8, ht_84, hr_77⟩ := bd h
    refine jc_loop (fun (s : (List GHammer) × Int × Int) (x : Unit) => match s, x with | ⟨xs_4, i_5, i_6⟩, _ => (xs_4.length = a0.length) ∧ ((a0_o = none → xs_4 = [] ∧ a0_c = 0))) (fun (s : (List GHammer) × Int × Int) (x : Unit) => match s, x with | ⟨xs_4, i_5, i_6⟩, _ => [(0, [], (.slice (a0_o.map fun b => ⟨b, 0, none⟩) a0.length a0_c)), (1, [], (.int .i64 i_5)), (4, [], (.int .i64 0)), (5, [], (.int .i64 i_6))]) (fun (s : (List GHammer) × Int × Int) (x : Unit) => match s, x with | ⟨xs_4, i_5, i_6⟩, _ => [⟨a0_o, 178, row encGHammer xs_4 a0_sp⟩]) ht_84 () ⟨rfl, a0_ho⟩ (by kernel_rfl) [0] (by kernel_rfl) (by kernel_rfl) ?_
    rintro ⟨xs_4, i_5, i_6⟩ _ y_78 ⟨hn_76, ho_75⟩ h
    rw [laws_markHammerS.l_7] at h
    refine jc_seq ?_
    refine jc_seq ?_
    refine jc_region ?_
    refine jo_f [(0, 0), (0, 0), (0, 0), (0, 0)] (by kernel_rfl) ?_
    refine jo_end (by kernel_rfl) ?_
    refine jx_then ?_
    refine jc_cond (decide (i_6 < (a0.length : Int))) (by kernel_rfl) (fun hc_80 => ?_) (fun hc_80 => ?_)
    · replace h := ifT hc_80 h
      refine jc_skip ?_
      refine jx_then ?_
      refine jc_seq ?_
      refine jc_block ?_
      refine jc_seq ?_
      refine jc_region ?_
      refine jo_f [(0, 0), (0, 0), (0, 0), (0, 0)] (by kernel_rfl) ?_
      obtain ⟨x_9, hx_81, h⟩ := bd h
      refine toO (by kernel_rfl) (p_idx 0 (a0_o.map fun b => ⟨b, 0, none⟩) a0.length i_6 2 (by kernel_rfl) (by kernel_rfl) (ix_some hx_81).1 (ltn hx_81 hn_76) (spo ho_75 hx_81) (jkO ?_))
      refine jo_f [(0, 0)] (by kernel_rfl) ?_
      refine toO (by kernel_rfl) (p_strO 0 0 a0_o 178 encGHammer xs_4 a0_sp i_6 (⟨(w8 i_5), x_9.fReady⟩ : GHammer) 2 0 [(.int .i8 (w8 i_5))] (by kernel_rfl) (by kernel_rfl) (by kernel_rfl) (fun e => (ho_75 e).1) encGHammer_len hx_81 (by kernel_rfl) (by kernel_rfl) (jkO ?_))
      refine jo_end (by kernel_rfl) ?_
      refine jx_then ?_
      refine jc_seq ?_
      refine jc_region ?_
      refine jo_f [(0, 0), (0, 0), (0, 0)] (by kernel_rfl) ?_
      refine jo_end (by kernel_rfl) ?_
      refine jx_then ?_
      refine jc_seq ?_
      refine jc_region ?_
      refine jo_f [(0, 0), (0, 0), (0, 0), (0, 0)] (by kernel_rfl) ?_
      obtain ⟨x_10, hx_82, h⟩ := bd h
      refine toO (by kernel_rfl) (p_idx 0 (a0_o.map fun b => ⟨b, 0, none⟩) a0.length i_6 2 (by kernel_rfl) (by kernel_rfl) (ix_some hx_82).1 (ltn hx_82 (List.length_set.trans hn_76)) (spo (set_ho ho_75) hx_82) (jkO ?_))
      refine jo_f [(0, 0)] (by kernel_rfl) ?_
      refine toO (by kernel_rfl) (p_strO 0 0 a0_o 178 encGHammer (xs_4.set i_6.toNat (⟨(w8 i_5), x_9.fReady⟩ : GHammer)) a0_sp i_6 (⟨x_10.fPitch, (w8 (w64 (i_5 + 1)))⟩ : GHammer) 2 1 [(.int .i8 (w8 (w64 (i_5 + 1))))] (by kernel_rfl) (by kernel_rfl) (by kernel_rfl) (fun e => ((set_ho ho_75) e).1) encGHammer_len hx_82 (by kernel_rfl) (by kernel_rfl) (jkO ?_))
      refine jo_end (by kernel_rfl) ?_
      refine jx_then ?_
      refine jc_region ?_
      refine jo_f [(0, 0), (0, 0), (0, 0)] (by kernel_rfl) ?_
      refine jo_end (by kernel_rfl) ?_
      refine jx_inn ?_
      refine jx_then ?_
      refine jc_region ?_
      refine jo_f [(0, 0), (0, 0), (0, 0)] (by kernel_rfl) ?_
      refine jo_end (by kernel_rfl) ?_
      exact jx_back (((xs_4.set i_6.toNat (⟨(w8 i_5), x_9.fReady⟩ : GHammer)).set i_6.toNat (⟨x_10.fPitch, (w8 (w64 (i_5 + 1)))⟩ : GHammer)), (w64 ((w64 (i_5 + 1)) + 1)), (w64 (i_6 + 1))) () (Option.some.inj h).symm ⟨(List.length_set.trans (List.length_set.trans hn_76)), (set_ho (set_ho ho_75))⟩ [0] (by kernel_rfl) (by kernel_rfl) (by kernel_rfl)
    · replace h := ifF hc_80 h
      refine jc_exit ?_
      refine jx_thenx ?_
      refine jx_leave (xs_4, i_5) (Option.some.inj h).symm (fun e_83 => ?_)
      subst e_83
      refine jx_ine ?_
      exact jx_meet ⟨xs_4, i_5⟩ ⟨hr_77, hn_76, ho_75⟩ (by kernel_rfl) [0] (by kernel_rfl) (by kernel_rfl)
  · rintro ⟨xs_1, i_2⟩ ⟨h, hn_64, ho_63⟩
    replace h : laws_markHammerS.k_3 xs_1 i_2 = some r := h
    rw [laws_markHammerS.k_3] at h
    refine jx_then ?_
    refine jc_seq ?_
    refine jc_region ?_
    refine jo_f [(0, 0), (0, 0)] (by kernel_rfl) ?_
    refine jo_end (by kernel_rfl) ?_
    refine jx_then ?_
    refine jc_ret ?_
    obtain rfl := Option.some.inj h
    exact jx_ret [] (.int .i64 i_2) [] rfl (by kernel_rfl) (by kernel_rfl) (fun w hm => ⟨hn_64, ho_63, rfl, hm.pick [0] (by kernel_rfl) (by kernel_rfl)⟩)

/-! ### laws.markFrame -/
noncomputable def laws_markFrame (a0 : GFrame) (k1 : Int) : Option (Int × (List GHammer)) := (laws_markHammerS a0.fHammers k1).bind fun t_1 => some (t_1.1, t_1.2)
set_option maxRecDepth 100000 in
theorem laws_markFrame.calls (a0 : GFrame) (k1 : Int) (w : World) (r : Int × (List GHammer)) (a0_fHammers_o : Option Nat) (a0_fHammers_on : Nat) (a0_fHammers_c : Nat) (a0_fHammers_sp : List Value) (a0_fHammers_hn : a0.fHammers.length = a0_fHammers_on) (a0_fHammers_hs : a0_fHammers_o ≠ none → a0_fHammers_on ≤ a0_fHammers_c ∧ a0_fHammers_sp.length = (a0_fHammers_c - a0_fHammers_on) * 2) (a0_fHammers_ho : a0_fHammers_o = none → a0.fHammers = [] ∧ a0_fHammers_c = 0) (hm0 : Mem w (bs [a0_fHammers_o]) [⟨a0_fHammers_o, 178, row encGHammer a0.fHammers a0_fHammers_sp⟩] w) (h : laws_markFrame a0 k1 = some r) :
    Calls Try.prog 45 #[(.agg #[(.int .i16 a0.fSteps), (.slice (a0_fHammers_o.map fun b => ⟨b, 0, none⟩) a0_fHammers_on a0_fHammers_c)]), (.int .i64 k1)] w fun e w' => ∃ v, e = .returned v ∧ (r.2.length = a0_fHammers_on ∧ (a0_fHammers_o = none → r.2 = [] ∧ a0_fHammers_c = 0) ∧ v = (.int .i64 r.1) ∧ Mem w (bs [a0_fHammers_o]) [⟨a0_fHammers_o, 178, row encGHammer r.2 a0_fHammers_sp⟩] w') := by
  subst a0_fHammers_hn
  rw [laws_markFrame] at h
  refine enter (args := [(.agg #[(.int .i16 a0.fSteps), (.slice (a0_fHammers_o.map fun b => ⟨b, 0, none⟩) a0.fHammers.length a0_fHammers_c)]), (.int .i64 k1)]) Try.func45 rfl Try.ntmps45 (by kernel_rfl) (L := [⟨a0_fHammers_o, 178, row encGHammer a0.fHammers a0_fHammers_sp⟩]) (W := bs [a0_fHammers_o]) hm0 ?_
  refine jc_seq ?_
  refine jc_region ?_
  refine toO (by kernel_rfl) (p_a 0 [0] (by kernel_rfl) (fun b => by kernel_rfl) (fun b_1 => jkO ?_))
  refine jo_f [(0, 0)] (by kernel_rfl) ?_
  refine jo_end (by kernel_rfl) ?_
  refine jx_then ?_
  refine jc_seq ?_
  refine jc_region ?_
  refine jo_f [(0, 0), (1, 0), (0, 0)] (by kernel_rfl) ?_
  obtain ⟨t_1, ht_2, h⟩ := bd h
  refine toO (by kernel_rfl) (p_call 0 108 #[(.slice (a0_fHammers_o.map fun b => ⟨b, 0, none⟩) a0.fHammers.length a0_fHammers_c), (.int .i64 k1)] (by kernel_rfl) (by kernel_rfl) (fun w hm => laws_markHammerS.calls a0.fHammers k1 w _ a0_fHammers_o a0.fHammers.length a0_fHammers_c a0_fHammers_sp rfl a0_fHammers_hs a0_fHammers_ho (hm.pass (N := [⟨a0_fHammers_o, 178, row encGHammer a0.fHammers a0_fHammers_sp⟩]) [0] (by kernel_rfl) (by kernel_rfl)) ht_2) ?_)
  rintro w v w' hm ⟨hn_3, ho_4, rfl, hm'⟩
  refine ⟨_, hm.appW (ps := [(0, ⟨a0_fHammers_o, 178, row encGHammer t_1.2 a0_fHammers_sp⟩)]) (N := []) hm' (by kernel_rfl) (by kernel_rfl), jkO ?_⟩
  clear hm hm'
  refine jo_f [(0, 0)] (by kernel_rfl) ?_
  refine jo_end (by kernel_rfl) ?_
  refine jx_then ?_
  refine jc_seq ?_
  refine jc_region ?_
  refine jo_f [(0, 0), (0, 0)] (by kernel_rfl) ?_
  refine jo_end (by kernel_rfl) ?_
  refine jx_then ?_
  refine jc_ret ?_
  obtain rfl := Option.some.inj h
  exact jx_ret [] (.int .i64 t_1.1) [] rfl (by kernel_rfl) (by kernel_rfl) (fun w hm => ⟨hn_3, ho_4, rfl, hm.pick [0] (by kernel_rfl) (by kernel_rfl)⟩)

/-! ### laws.markWornPinS -/
noncomputable def laws_markWornPinS.k_3 (xs_1 : List GWornPin) (i_2 : Int) : Option (Int × (List GWornPin)) := some (i_2, xs_1)
noncomputable def laws_markWornPinS.l_7 (a0 : List GWornPin) : ((List GWornPin) × Int × Int) → Option (((List GWornPin) × Int × Int) ⊕ (((List GWornPin) × Int)))
  | (xs_4, i_5, i_6) => (if (decide (i_6 < (a0.length : Int))) = true then (ix xs_4 i_6).bind fun x_9 => (ix (xs_4.set i_6.toNat (⟨(w8 i_5), x_9.fTrack, x_9.fTurns⟩ : GWornPin)) i_6).bind fun x_10 => (ix ((xs_4.set i_6.toNat (⟨(w8 i_5), x_9.fTrack, x_9.fTurns⟩ : GWornPin)).set i_6.toNat (⟨x_10.fStep, (w8 (w64 (i_5 + 1))), x_10.fTurns⟩ : GWornPin)) i_6).bind fun x_11 => some (.inl ((((xs_4.set i_6.toNat (⟨(w8 i_5), x_9.fTrack, x_9.fTurns⟩ : GWornPin)).set i_6.toNat (⟨x_10.fStep, (w8 (w64 (i_5 + 1))), x_10.fTurns⟩ : GWornPin)).set i_6.toNat (⟨x_11.fStep, x_11.fTrack, (w64 ((w64 (i_5 + 1)) + 1))⟩ : GWornPin)), (w64 ((w64 ((w64 (i_5 + 1)) + 1)) + 1)), (w64 (i_6 + 1)))) else some (.inr (xs_4, i_5)))
noncomputable def laws_markWornPinS (a0 : List GWornPin) (k1 : Int) : Option (Int × (List GWornPin)) := (loop (laws_markWornPinS.l_7 a0) (a0, k1, 0)).bind fun t_8 => laws_markWornPinS.k_3 t_8.1 t_8.2
set_option maxRecDepth 100000 in
theorem laws_markWornPinS.calls (a0 : List GWornPin) (k1 : Int) (w : World) (r : Int × (List GWornPin)) (a0_o : Option Nat) (a0_on : Nat) (a0_c : Nat) (a0_sp : List Value) (a0_hn : a0.length = a0_on) (a0_hs : a0_o ≠ none → a0_on ≤ a0_c ∧ a0_sp.length = (a0_c - a0_on) * 3) (a0_ho : a0_o = none → a0 = [] ∧ a0_c = 0) (hm0 : Mem w (bs [a0_o]) [⟨a0_o, 164, row encGWornPin a0 a0_sp⟩] w) (h : laws_markWornPinS a0 k1 = some r) :
    Calls Try.prog 117 #[(.slice (a0_o.map fun b => ⟨b, 0, none⟩) a0_on a0_c), (.int .i64 k1)] w fun e w' => ∃ v, e = .returned v ∧ (r.2.length = a0_on ∧ (a0_o = none → r.2 = [] ∧ a0_c = 0) ∧ v = (.int .i64 r.1) ∧ Mem w (bs [a0_o]) [⟨a0_o, 164, row encGWornPin r.2 a0_sp⟩] w') := by
  subst a0_hn
  rw [laws_markWornPinS] at h
  refine enter (args := [(.slice (a0_o.map fun b => ⟨b, 0, none⟩) a0.length a0_c), (.int .i64 k1)]) Try.func117 rfl Try.ntmps117 (by kernel_rfl) (L := [⟨a0_o, 164, row encGWornPin a0 a0_sp⟩]) (W := bs [a0_o]) hm0 ?_
  refine jc_seq ?_
  refine jc_region ?_
  refine jo_f [(0, 0)] (by kernel_rfl) ?_
  refine jo_end (by kernel_rfl) ?_
  refine jx_then ?_
  refine jc_seq ?_
  refine jc_seq ?_
  refine jc_region ?_
  refine jo_f [(0, 0)] (by kernel_rfl) ?_
  refine jo_end (by kernel_rfl) ?_
  refine jx_then ?_
  refine jc_meet (fun (j : (List GWornPin) × Int) => match j with | ⟨xs_1, i_2⟩ => laws_markWornPinS.k_3 xs_1 i_2 = some r ∧ (xs_1.length = a0.length) ∧ ((a0_o = none → xs_1 = [] ∧ a0_c = 0))) (fun (j : (List GWornPin) × Int) => match j with | ⟨xs_1, i_2⟩ => [(1, [], (.int .i64 i_2)), (4, [], (.int .i64 0))]) (fun (j : (List GWornPin) × Int) => match j with | ⟨xs_1, i_2⟩ => [⟨a0_o, 164, row encGWornPin xs_1 a0_sp⟩]) ?_ ?_
  · refine jc_block ?_
    obtain ⟨t_8, ht_96, hr_88⟩ := bd h
    refine jc_loop (fun (s : (List GWornPin) × Int × Int) (x : Unit) => match s, x with | ⟨xs_4, i_5, i_6⟩, _ => (xs_4.length = a0.length) ∧ ((a0_o = none → xs_4 = [] ∧ a0_c = 0))) (fun (s : (List GWornPin) × Int × Int) (x : Unit) => match s, x with | ⟨xs_4, i_5, i_6⟩, _ => [(0, [], (.slice (a0_o.map fun b => ⟨b, 0, none⟩) a0.length a0_c)), (1, [], (.int .i64 i_5)), (4, [], (.int .i64 0)), (5, [], (.int .i64 i_6))]) (fun (s : (List GWornPin) × Int × Int) (x : Unit) => match s, x with | ⟨xs_4, i_5, i_6⟩, _ => [⟨a0_o, 164, row encGWornPin xs_4 a0_sp⟩]) ht_96 () ⟨rfl, a0_ho⟩ (by kernel_rfl) [0] (by kernel_rfl) (by kernel_rfl) ?_
    rintro ⟨xs_4, i_5, i_6⟩ _ y_89 ⟨hn_87, ho_86⟩ h
    rw [laws_markWornPinS.l_7] at h
    refine jc_seq ?_
    refine jc_seq ?_
    refine jc_region ?_
    refine jo_f [(0, 0), (0, 0), (0, 0), (0, 0)] (by kernel_rfl) ?_
    refine jo_end (by kernel_rfl) ?_
    refine jx_then ?_
    refine jc_cond (decide (i_6 < (a0.length : Int))) (by kernel_rfl) (fun hc_91 => ?_) (fun hc_91 => ?_)
    · replace h := ifT hc_91 h
      refine jc_skip ?_
      refine jx_then ?_
      refine jc_seq ?_
      refine jc_block ?_
      refine jc_seq ?_
      refine jc_region ?_
      refine jo_f [(0, 0), (0, 0), (0, 0), (0, 0)] (by kernel_rfl) ?_
      obtain ⟨x_9, hx_92, h⟩ := bd h
      refine toO (by kernel_rfl) (p_idx 0 (a0_o.map fun b => ⟨b, 0, none⟩) a0.length i_6 3 (by kernel_rfl) (by kernel_rfl) (ix_some hx_92).1 (ltn hx_92 hn_87) (spo ho_86 hx_92) (jkO ?_))
      refine jo_f [(0, 0)] (by kernel_rfl) ?_
      refine toO (by kernel_rfl) (p_strO 0 0 a0_o 164 encGWornPin xs_4 a0_sp i_6 (⟨(w8 i_5), x_9.fTrack, x_9.fTurns⟩ : GWornPin) 3 0 [(.int .i8 (w8 i_5))] (by kernel_rfl) (by kernel_rfl) (by kernel_rfl) (fun e => (ho_86 e).1) encGWornPin_len hx_92 (by kernel_rfl) (by kernel_rfl) (jkO ?_))
      refine jo_end (by kernel_rfl) ?_
      refine jx_then ?_
      refine jc_seq ?_
      refine jc_region ?_
      refine jo_f [(0, 0), (0, 0), (0, 0)] (by kernel_rfl) ?_
      refine jo_end (by kernel_rfl) ?_
      refine jx_then ?_
      refine jc_seq ?_
      refine jc_region ?_
      refine jo_f [(0, 0), (0, 0), (0, 0), (0, 0)] (by kernel_rfl) ?_
      obtain ⟨x_10, hx_93, h⟩ := bd h
      refine toO (by kernel_rfl) (p_idx 0 (a0_o.map fun b => ⟨b, 0, none⟩) a0.length i_6 3 (by kernel_rfl) (by kernel_rfl) (ix_some hx_93).1 (ltn hx_93 (List.length_set.trans hn_87)) (spo (set_ho ho_86) hx_93) (jkO ?_))
      refine jo_f [(0, 0)] (by kernel_rfl) ?_
      refine toO (by kernel_rfl) (p_strO 0 0 a0_o 164 encGWornPin (xs_4.set i_6.toNat (⟨(w8 i_5), x_9.fTrack, x_9.fTurns⟩ : GWornPin)) a0_sp i_6 (⟨x_10.fStep, (w8 (w64 (i_5 + 1))), x_10.fTurns⟩ : GWornPin) 3 1 [(.int .i8 (w8 (w64 (i_5 + 1))))] (by kernel_rfl) (by kernel_rfl) (by kernel_rfl) (fun e => ((set_ho ho_86) e).1) encGWornPin_len hx_93 (by kernel_rfl) (by kernel_rfl) (jkO ?_))
      refine jo_end (by kernel_rfl) ?_
      refine jx_then ?_
      refine jc_seq ?_
      refine jc_region ?_
      refine jo_f [(0, 0), (0, 0), (0, 0)] (by kernel_rfl) ?_
      refine jo_end (by kernel_rfl) ?_
      refine jx_then ?_
      refine jc_seq ?_
      refine jc_region ?_
      refine jo_f [(0, 0), (0, 0), (0, 0)] (by kernel_rfl) ?_
      obtain ⟨x_11, hx_94, h⟩ := bd h
      refine toO (by kernel_rfl) (p_idx 0 (a0_o.map fun b => ⟨b, 0, none⟩) a0.length i_6 3 (by kernel_rfl) (by kernel_rfl) (ix_some hx_94).1 (ltn hx_94 (List.length_set.trans (List.length_set.trans hn_87))) (spo (set_ho (set_ho ho_86)) hx_94) (jkO ?_))
      refine jo_f [(0, 0)] (by kernel_rfl) ?_
      refine toO (by kernel_rfl) (p_strO 0 0 a0_o 164 encGWornPin ((xs_4.set i_6.toNat (⟨(w8 i_5), x_9.fTrack, x_9.fTurns⟩ : GWornPin)).set i_6.toNat (⟨x_10.fStep, (w8 (w64 (i_5 + 1))), x_10.fTurns⟩ : GWornPin)) a0_sp i_6 (⟨x_11.fStep, x_11.fTrack, (w64 ((w64 (i_5 + 1)) + 1))⟩ : GWornPin) 3 2 [(.int .i64 (w64 ((w64 (i_5 + 1)) + 1)))] (by kernel_rfl) (by kernel_rfl) (by kernel_rfl) (fun e => ((set_ho (set_ho ho_86)) e).1) encGWornPin_len hx_94 (by kernel_rfl) (by kernel_rfl) (jkO ?_))
      refine jo_end (by kernel_rfl) ?_
      refine jx_then ?_
      refine jc_region ?_
      refine jo_f [(0, 0), (0, 0), (0, 0)] (by kernel_rfl) ?_
      refine jo_end (by kernel_rfl) ?_
      refine jx_inn ?_
      refine jx_then ?_
      refine jc_region ?_
      refine jo_f [(0, 0), (0, 0), (0, 0)] (by kernel_rfl) ?_
      refine jo_end (by kernel_rfl) ?_
      exact jx_back ((((xs_4.set i_6.toNat (⟨(w8 i_5), x_9.fTrack, x_9.fTurns⟩ : GWornPin)).set i_6.toNat (⟨x_10.fStep, (w8 (w64 (i_5 + 1))), x_10.fTurns⟩ : GWornPin)).set i_6.toNat (⟨x_11.fStep, x_11.fTrack, (w64 ((w64 (i_5 + 1)) + 1))⟩ : GWornPin)), (w64 ((w64 ((w64 (i_5 + 1)) + 1)) + 1)), (w64 (i_6 + 1))) () (Option.some.inj h).symm ⟨(List.length_set.trans (List.length_set.trans (List.length_set.trans hn_87))), (set_ho (set_ho (set_ho ho_86)))⟩ [0] (by kernel_rfl) (by kernel_rfl) (by kernel_rfl)
    · replace h := ifF hc_91 h
      refine jc_exit ?_
      refine jx_thenx ?_
      refine jx_leave (xs_4, i_5) (Option.some.inj h).symm (fun e_95 => ?_)
      subst e_95
      refine jx_ine ?_
      exact jx_meet ⟨xs_4, i_5⟩ ⟨hr_88, hn_87, ho_86⟩ (by kernel_rfl) [0] (by kernel_rfl) (by kernel_rfl)
  · rintro ⟨xs_1, i_2⟩ ⟨h, hn_73, ho_72⟩
    replace h : laws_markWornPinS.k_3 xs_1 i_2 = some r := h
    rw [laws_markWornPinS.k_3] at h
    refine jx_then ?_
    refine jc_seq ?_
    refine jc_region ?_
    refine jo_f [(0, 0), (0, 0)] (by kernel_rfl) ?_
    refine jo_end (by kernel_rfl) ?_
    refine jx_then ?_
    refine jc_ret ?_
    obtain rfl := Option.some.inj h
    exact jx_ret [] (.int .i64 i_2) [] rfl (by kernel_rfl) (by kernel_rfl) (fun w hm => ⟨hn_73, ho_72, rfl, hm.pick [0] (by kernel_rfl) (by kernel_rfl)⟩)

/-! ### laws.markInt64S -/
noncomputable def laws_markInt64S.k_3 (xs_1 : List Int) (i_2 : Int) : Option (Int × (List Int)) := some (i_2, xs_1)
noncomputable def laws_markInt64S.l_7 (a0 : List Int) : ((List Int) × Int × Int) → Option (((List Int) × Int × Int) ⊕ (((List Int) × Int)))
  | (xs_4, i_5, i_6) => (if (decide (i_6 < (a0.length : Int))) = true then (ix xs_4 i_6).bind fun x_9 => some (.inl ((xs_4.set i_6.toNat i_5), (w64 (i_5 + 1)), (w64 (i_6 + 1)))) else some (.inr (xs_4, i_5)))
noncomputable def laws_markInt64S (a0 : List Int) (k1 : Int) : Option (Int × (List Int)) := (loop (laws_markInt64S.l_7 a0) (a0, k1, 0)).bind fun t_8 => laws_markInt64S.k_3 t_8.1 t_8.2
set_option maxRecDepth 100000 in
theorem laws_markInt64S.calls (a0 : List Int) (k1 : Int) (w : World) (r : Int × (List Int)) (a0_o : Option Nat) (a0_on : Nat) (a0_c : Nat) (a0_sp : List Value) (a0_hn : a0.length = a0_on) (a0_hs : a0_o ≠ none → a0_on ≤ a0_c ∧ a0_sp.length = (a0_c - a0_on) * 1) (a0_ho : a0_o = none → a0 = [] ∧ a0_c = 0) (hm0 : Mem w (bs [a0_o]) [⟨a0_o, 2, row encI64 a0 a0_sp⟩] w) (h : laws_markInt64S a0 k1 = some r) :
    Calls Try.prog 58 #[(.slice (a0_o.map fun b => ⟨b, 0, none⟩) a0_on a0_c), (.int .i64 k1)] w fun e w' => ∃ v, e = .returned v ∧ (r.2.length = a0_on ∧ (a0_o = none → r.2 = [] ∧ a0_c = 0) ∧ v = (.int .i64 r.1) ∧ Mem w (bs [a0_o]) [⟨a0_o, 2, row encI64 r.2 a0_sp⟩] w') := by
  subst a0_hn
  rw [laws_markInt64S] at h
  refine enter (args := [(.slice (a0_o.map fun b => ⟨b, 0, none⟩) a0.length a0_c), (.int .i64 k1)]) Try.func58 rfl Try.ntmps58 (by kernel_rfl) (L := [⟨a0_o, 2, row encI64 a0 a0_sp⟩]) (W := bs [a0_o]) hm0 ?_
  refine jc_seq ?_
  refine jc_region ?_
  refine jo_f [(0, 0)] (by kernel_rfl) ?_
  refine jo_end (by kernel_rfl) ?_
  refine jx_then ?_
  refine jc_seq ?_
  refine jc_seq ?_
  refine jc_region ?_
  refine jo_f [(0, 0)] (by kernel_rfl) ?_
  refine jo_end (by kernel_rfl) ?_
  refine jx_then ?_
  refine jc_meet (fun (j : (List Int) × Int) => match j with | ⟨xs_1, i_2⟩ => laws_markInt64S.k_3 xs_1 i_2 = some r ∧ (xs_1.length = a0.length) ∧ ((a0_o = none → xs_1 = [] ∧ a0_c = 0))) (fun (j : (List Int) × Int) => match j with | ⟨xs_1, i_2⟩ => [(1, [], (.int .i64 i_2)), (4, [], (.int .i64 0))]) (fun (j : (List Int) × Int) => match j with | ⟨xs_1, i_2⟩ => [⟨a0_o, 2, row encI64 xs_1 a0_sp⟩]) ?_ ?_
  · refine jc_block ?_
    obtain ⟨t_8, ht_72, hr_66⟩ := bd h
    refine jc_loop (fun (s : (List Int) × Int × Int) (x : Unit) => match s, x with | ⟨xs_4, i_5, i_6⟩, _ => (xs_4.length = a0.length) ∧ ((a0_o = none → xs_4 = [] ∧ a0_c = 0))) (fun (s : (List Int) × Int × Int) (x : Unit) => match s, x with | ⟨xs_4, i_5, i_6⟩, _ => [(0, [], (.slice (a0_o.map fun b => ⟨b, 0, none⟩) a0.length a0_c)), (1, [], (.int .i64 i_5)), (4, [], (.int .i64 0)), (5, [], (.int .i64 i_6))]) (fun (s : (List Int) × Int × Int) (x : Unit) => match s, x with | ⟨xs_4, i_5, i_6⟩, _ => [⟨a0_o, 2, row encI64 xs_4 a0_sp⟩]) ht_72 () ⟨rfl, a0_ho⟩ (by kernel_rfl) [0] (by kernel_rfl) (by kernel_rfl) ?_
    rintro ⟨xs_4, i_5, i_6⟩ _ y_67 ⟨hn_65, ho_64⟩ h
    rw [laws_markInt64S.l_7] at h
    refine jc_seq ?_
    refine jc_seq ?_
    refine jc_region ?_
    refine jo_f [(0, 0), (0, 0), (0, 0), (0, 0)] (by kernel_rfl) ?_
    refine jo_end (by kernel_rfl) ?_
    refine jx_then ?_
    refine jc_cond (decide (i_6 < (a0.length : Int))) (by kernel_rfl) (fun hc_69 => ?_) (fun hc_69 => ?_)
    · replace h := ifT hc_69 h
      refine jc_skip ?_
      refine jx_then ?_
      refine jc_seq ?_
      refine jc_block ?_
      refine jc_seq ?_
      refine jc_region ?_
      refine jo_f [(0, 0), (0, 0), (0, 0)] (by kernel_rfl) ?_
      obtain ⟨x_9, hx_70, h⟩ := bd h
      refine toO (by kernel_rfl) (p_idx 0 (a0_o.map fun b => ⟨b, 0, none⟩) a0.length i_6 1 (by kernel_rfl) (by kernel_rfl) (ix_some hx_70).1 (ltn hx_70 hn_65) (spo ho_64 hx_70) (jkO ?_))
      refine toO (by kernel_rfl) (p_strO 0 0 a0_o 2 encI64 xs_4 a0_sp i_6 i_5 1 0 [(.int .i64 i_5)] (by kernel_rfl) (by kernel_rfl) (by kernel_rfl) (fun e => (ho_64 e).1) encI64_len hx_70 (by kernel_rfl) (by kernel_rfl) (jkO ?_))
      refine jo_end (by kernel_rfl) ?_
      refine jx_then ?_
      refine jc_region ?_
      refine jo_f [(0, 0), (0, 0), (0, 0)] (by kernel_rfl) ?_
      refine jo_end (by kernel_rfl) ?_
      refine jx_inn ?_
      refine jx_then ?_
      refine jc_region ?_
      refine jo_f [(0, 0), (0, 0), (0, 0)] (by kernel_rfl) ?_
      refine jo_end (by kernel_rfl) ?_
      exact jx_back ((xs_4.set i_6.toNat i_5), (w64 (i_5 + 1)), (w64 (i_6 + 1))) () (Option.some.inj h).symm ⟨(List.length_set.trans hn_65), (set_ho ho_64)⟩ [0] (by kernel_rfl) (by kernel_rfl) (by kernel_rfl)
    · replace h := ifF hc_69 h
      refine jc_exit ?_
      refine jx_thenx ?_
      refine jx_leave (xs_4, i_5) (Option.some.inj h).symm (fun e_71 => ?_)
      subst e_71
      refine jx_ine ?_
      exact jx_meet ⟨xs_4, i_5⟩ ⟨hr_66, hn_65, ho_64⟩ (by kernel_rfl) [0] (by kernel_rfl) (by kernel_rfl)
  · rintro ⟨xs_1, i_2⟩ ⟨h, hn_55, ho_54⟩
    replace h : laws_markInt64S.k_3 xs_1 i_2 = some r := h
    rw [laws_markInt64S.k_3] at h
    refine jx_then ?_
    refine jc_seq ?_
    refine jc_region ?_
    refine jo_f [(0, 0), (0, 0)] (by kernel_rfl) ?_
    refine jo_end (by kernel_rfl) ?_
    refine jx_then ?_
    refine jc_ret ?_
    obtain rfl := Option.some.inj h
    exact jx_ret [] (.int .i64 i_2) [] rfl (by kernel_rfl) (by kernel_rfl) (fun w hm => ⟨hn_55, ho_54, rfl, hm.pick [0] (by kernel_rfl) (by kernel_rfl)⟩)

/-! ### laws.markWear -/
noncomputable def laws_markWear (a0 : GWear) (k1 : Int) : Option (Int × (List GWornPin) × (List Int)) := (laws_markWornPinS a0.fPins k1).bind fun t_1 => (laws_markInt64S a0.fStrokes t_1.1).bind fun t_2 => some (t_2.1, t_1.2, t_2.2)
set_option maxRecDepth 100000 in
theorem laws_markWear.calls (a0 : GWear) (k1 : Int) (w : World) (r : Int × (List GWornPin) × (List Int)) (a0_fPins_o : Option Nat) (a0_fPins_on : Nat) (a0_fPins_c : Nat) (a0_fPins_sp : List Value) (a0_fPins_hn : a0.fPins.length = a0_fPins_on) (a0_fPins_hs : a0_fPins_o ≠ none → a0_fPins_on ≤ a0_fPins_c ∧ a0_fPins_sp.length = (a0_fPins_c - a0_fPins_on) * 3) (a0_fPins_ho : a0_fPins_o = none → a0.fPins = [] ∧ a0_fPins_c = 0) (a0_fStrokes_o : Option Nat) (a0_fStrokes_on : Nat) (a0_fStrokes_c : Nat) (a0_fStrokes_sp : List Value) (a0_fStrokes_hn : a0.fStrokes.length = a0_fStrokes_on) (a0_fStrokes_hs : a0_fStrokes_o ≠ none → a0_fStrokes_on ≤ a0_fStrokes_c ∧ a0_fStrokes_sp.length = (a0_fStrokes_c - a0_fStrokes_on) * 1) (a0_fStrokes_ho : a0_fStrokes_o = none → a0.fStrokes = [] ∧ a0_fStrokes_c = 0) (hm0 : Mem w (bs [a0_fPins_o, a0_fStrokes_o]) [⟨a0_fPins_o, 164, row encGWornPin a0.fPins a0_fPins_sp⟩, ⟨a0_fStrokes_o, 2, row encI64 a0.fStrokes a0_fStrokes_sp⟩] w) (h : laws_markWear a0 k1 = some r) :
    Calls Try.prog 51 #[(.agg #[(.slice (a0_fPins_o.map fun b => ⟨b, 0, none⟩) a0_fPins_on a0_fPins_c), (.slice (a0_fStrokes_o.map fun b => ⟨b, 0, none⟩) a0_fStrokes_on a0_fStrokes_c)]), (.int .i64 k1)] w fun e w' => ∃ v, e = .returned v ∧ (r.2.1.length = a0_fPins_on ∧ (a0_fPins_o = none → r.2.1 = [] ∧ a0_fPins_c = 0) ∧ r.2.2.length = a0_fStrokes_on ∧ (a0_fStrokes_o = none → r.2.2 = [] ∧ a0_fStrokes_c = 0) ∧ v = (.int .i64 r.1) ∧ Mem w (bs [a0_fPins_o, a0_fStrokes_o]) [⟨a0_fPins_o, 164, row encGWornPin r.2.1 a0_fPins_sp⟩, ⟨a0_fStrokes_o, 2, row encI64 r.2.2 a0_fStrokes_sp⟩] w') := by
  subst a0_fPins_hn a0_fStrokes_hn
  rw [laws_markWear] at h
  refine enter (args := [(.agg #[(.slice (a0_fPins_o.map fun b => ⟨b, 0, none⟩) a0.fPins.length a0_fPins_c), (.slice (a0_fStrokes_o.map fun b => ⟨b, 0, none⟩) a0.fStrokes.length a0_fStrokes_c)]), (.int .i64 k1)]) Try.func51 rfl Try.ntmps51 (by kernel_rfl) (L := [⟨a0_fPins_o, 164, row encGWornPin a0.fPins a0_fPins_sp⟩, ⟨a0_fStrokes_o, 2, row encI64 a0.fStrokes a0_fStrokes_sp⟩]) (W := bs [a0_fPins_o, a0_fStrokes_o]) hm0 ?_
  refine jc_seq ?_
  refine jc_region ?_
  refine toO (by kernel_rfl) (p_a 0 [0] (by kernel_rfl) (fun b => by kernel_rfl) (fun b_1 => jkO ?_))
  refine jo_f [(0, 0)] (by kernel_rfl) ?_
  refine jo_end (by kernel_rfl) ?_
  refine jx_then ?_
  refine jc_seq ?_
  refine jc_region ?_
  refine jo_f [(0, 0), (2, 0), (0, 0)] (by kernel_rfl) ?_
  obtain ⟨t_1, ht_2, h⟩ := bd h
  refine toO (by kernel_rfl) (p_call 0 117 #[(.slice (a0_fPins_o.map fun b => ⟨b, 0, none⟩) a0.fPins.length a0_fPins_c), (.int .i64 k1)] (by kernel_rfl) (by kernel_rfl) (fun w hm => laws_markWornPinS.calls a0.fPins k1 w _ a0_fPins_o a0.fPins.length a0_fPins_c a0_fPins_sp rfl a0_fPins_hs a0_fPins_ho (hm.pass (N := [⟨a0_fPins_o, 164, row encGWornPin a0.fPins a0_fPins_sp⟩]) [0] (by kernel_rfl) (by kernel_rfl)) ht_2) ?_)
  rintro w v w' hm ⟨hn_3, ho_4, rfl, hm'⟩
  refine ⟨_, hm.appW (ps := [(0, ⟨a0_fPins_o, 164, row encGWornPin t_1.2 a0_fPins_sp⟩)]) (N := []) hm' (by kernel_rfl) (by kernel_rfl), jkO ?_⟩
  clear hm hm'
  refine jo_f [(0, 0)] (by kernel_rfl) ?_
  refine jo_end (by kernel_rfl) ?_
  refine jx_then ?_
  refine jc_seq ?_
  refine jc_region ?_
  refine jo_f [(0, 0), (2, 0), (0, 0)] (by kernel_rfl) ?_
  obtain ⟨t_2, ht_5, h⟩ := bd h
  refine toO (by kernel_rfl) (p_call 0 58 #[(.slice (a0_fStrokes_o.map fun b => ⟨b, 0, none⟩) a0.fStrokes.length a0_fStrokes_c), (.int .i64 t_1.1)] (by kernel_rfl) (by kernel_rfl) (fun w hm => laws_markInt64S.calls a0.fStrokes t_1.1 w _ a0_fStrokes_o a0.fStrokes.length a0_fStrokes_c a0_fStrokes_sp rfl a0_fStrokes_hs a0_fStrokes_ho (hm.pass (N := [⟨a0_fStrokes_o, 2, row encI64 a0.fStrokes a0_fStrokes_sp⟩]) [1] (by kernel_rfl) (by kernel_rfl)) ht_5) ?_)
  rintro w v w' hm ⟨hn_6, ho_7, rfl, hm'⟩
  refine ⟨_, hm.appW (ps := [(1, ⟨a0_fStrokes_o, 2, row encI64 t_2.2 a0_fStrokes_sp⟩)]) (N := []) hm' (by kernel_rfl) (by kernel_rfl), jkO ?_⟩
  clear hm hm'
  refine jo_f [(0, 0)] (by kernel_rfl) ?_
  refine jo_end (by kernel_rfl) ?_
  refine jx_then ?_
  refine jc_seq ?_
  refine jc_region ?_
  refine jo_f [(0, 0), (0, 0)] (by kernel_rfl) ?_
  refine jo_end (by kernel_rfl) ?_
  refine jx_then ?_
  refine jc_ret ?_
  obtain rfl := Option.some.inj h
  exact jx_ret [] (.int .i64 t_2.1) [] rfl (by kernel_rfl) (by kernel_rfl) (fun w hm => ⟨hn_3, ho_4, hn_6, ho_7, rfl, hm.pick [0, 1] (by kernel_rfl) (by kernel_rfl)⟩)

/-! ### laws.heldWornPinS -/
noncomputable def laws_heldWornPinS.k_2 (i_1 : Int) : Option (Int) := some i_1
noncomputable def laws_heldWornPinS.l_5 (a0 : List GWornPin) : (Int × Int) → Option ((Int × Int) ⊕ (Int ⊕ Int))
  | (i_3, i_4) => (if (decide (i_4 < (a0.length : Int))) = true then (ix a0 i_4).bind fun x_7 => (if (x_7.fStep != (w8 i_3)) = true then some (.inr (.inl (-1))) else (ix a0 i_4).bind fun x_8 => (if (x_8.fTrack != (w8 (w64 (i_3 + 1)))) = true then some (.inr (.inl (-1))) else (ix a0 i_4).bind fun x_9 => (if (x_9.fTurns != (w64 ((w64 (i_3 + 1)) + 1))) = true then some (.inr (.inl (-1))) else some (.inl ((w64 ((w64 ((w64 (i_3 + 1)) + 1)) + 1)), (w64 (i_4 + 1))))))) else some (.inr (.inr i_3)))
noncomputable def laws_heldWornPinS (a0 : List GWornPin) (k1 : Int) : Option (Int) := (loop (laws_heldWornPinS.l_5 a0) (k1, 0)).bind fun t_6 => match t_6 with | .inl p => some p | .inr p => laws_heldWornPinS.k_2 p
set_option maxRecDepth 100000 in
theorem laws_heldWornPinS.calls (a0 : List GWornPin) (k1 : Int) (w : World) (r : Int) (a0_a : Option Addr) (a0_an : Nat) (a0_c : Nat) (a0_h : Rw w a0_a 3 encGWornPin a0) (a0_hn : a0.length = a0_an) (h : laws_heldWornPinS a0 k1 = some r) :
    Calls Try.prog 118 #[(.slice a0_a a0_an a0_c), (.int .i64 k1)] w fun e w' => ∃ v, e = .returned v ∧ (v = (.int .i64 r) ∧ Mem w [] [] w') := by
  subst a0_hn
  rw [laws_heldWornPinS] at h
  refine enter (args := [(.slice a0_a a0.length a0_c), (.int .i64 k1)]) Try.func118 rfl Try.ntmps118 (by kernel_rfl) (L := []) (W := []) (Mem.start w) ?_
  refine jc_seq ?_
  refine jc_region ?_
  refine jo_f [(0, 0)] (by kernel_rfl) ?_
  refine jo_end (by kernel_rfl) ?_
  refine jx_then ?_
  refine jc_seq ?_
  refine jc_seq ?_
  refine jc_region ?_
  refine jo_f [(0, 0)] (by kernel_rfl) ?_
  refine jo_end (by kernel_rfl) ?_
  refine jx_then ?_
  refine jc_meet (fun (j : Int) => match j with | i_1 => laws_heldWornPinS.k_2 i_1 = some r) (fun (j : Int) => match j with | i_1 => [(1, [], (.int .i64 i_1)), (4, [], (.int .i64 0))]) (fun (j : Int) => match j with | i_1 => []) ?_ ?_
  · refine jc_block ?_
    obtain ⟨t_6, ht_172, hr_154⟩ := bd h
    refine jc_loop (fun (s : Int × Int) (x : Unit) => match s, x with | ⟨i_3, i_4⟩, _ => True) (fun (s : Int × Int) (x : Unit) => match s, x with | ⟨i_3, i_4⟩, _ => [(0, [], (.slice a0_a a0.length a0_c)), (1, [], (.int .i64 i_3)), (4, [], (.int .i64 0)), (5, [], (.int .i64 i_4))]) (fun (s : Int × Int) (x : Unit) => match s, x with | ⟨i_3, i_4⟩, _ => []) ht_172 () trivial (by kernel_rfl) [] (by kernel_rfl) (by kernel_rfl) ?_
    rintro ⟨i_3, i_4⟩ _ y_155 _ h
    rw [laws_heldWornPinS.l_5] at h
    refine jc_seq ?_
    refine jc_seq ?_
    refine jc_region ?_
    refine jo_f [(0, 0), (0, 0), (0, 0), (0, 0)] (by kernel_rfl) ?_
    refine jo_end (by kernel_rfl) ?_
    refine jx_then ?_
    refine jc_cond (decide (i_4 < (a0.length : Int))) (by kernel_rfl) (fun hc_157 => ?_) (fun hc_157 => ?_)
    · replace h := ifT hc_157 h
      refine jc_skip ?_
      refine jx_then ?_
      refine jc_seq ?_
      refine jc_block ?_
      refine jc_seq ?_
      refine jc_seq ?_
      refine jc_region ?_
      refine jo_f [(0, 0), (0, 0)] (by kernel_rfl) ?_
      obtain ⟨x_7, hx_160, h⟩ := bd h
      refine toO (by kernel_rfl) (p_idx 0 a0_a a0.length i_4 3 (by kernel_rfl) (by kernel_rfl) (ix_some hx_160).1 (ltn hx_160 rfl) (a0_h.sp hx_160) (jkO ?_))
      refine jo_f [(0, 0)] (by kernel_rfl) ?_
      refine toO (by kernel_rfl) (p_ld 0 (aB a0_a) (aO a0_a + i_4.toNat * 3) false (((encGWornPin x_7).drop 0).take 1) (by kernel_rfl) (by kernel_rfl) (by kernel_rfl) (fun w hm => (((hm.exRow a0_h List.not_mem_nil).at hx_160).sub 0 1)) (jkO ?_))
      refine jo_f [(0, 0), (0, 0), (0, 0)] (by kernel_rfl) ?_
      refine jo_end (by kernel_rfl) ?_
      refine jx_then ?_
      refine jc_cond (x_7.fStep != (w8 i_3)) (by kernel_rfl) (fun hc_161 => ?_) (fun hc_161 => ?_)
      · replace h := ifT hc_161 h
        refine jc_seq ?_
        refine jc_region ?_
        refine jo_f [(0, 0)] (by kernel_rfl) ?_
        refine jo_end (by kernel_rfl) ?_
        refine jx_then ?_
        refine jc_ret ?_
        refine jx_thenr ?_
        refine jx_inr ?_
        refine jx_thenr ?_
        refine jx_leaver (.inl (-1)) (Option.some.inj h).symm (fun e_162 => ?_)
        subst e_162
        refine jx_inr ?_
        refine jx_thenr ?_
        refine jx_thenr ?_
        obtain rfl := Option.some.inj hr_154
        exact jx_ret [] (.int .i64 (-1)) [] rfl (by kernel_rfl) (by kernel_rfl) (fun w hm => ⟨rfl, hm.pick [] (by kernel_rfl) (by kernel_rfl)⟩)
      · replace h := ifF hc_161 h
        refine jc_skip ?_
        refine jx_then ?_
        refine jc_seq ?_
        refine jc_region ?_
        refine jo_f [(0, 0), (0, 0), (0, 0)] (by kernel_rfl) ?_
        refine jo_end (by kernel_rfl) ?_
        refine jx_then ?_
        refine jc_seq ?_
        refine jc_seq ?_
        refine jc_region ?_
        refine jo_f [(0, 0), (0, 0)] (by kernel_rfl) ?_
        obtain ⟨x_8, hx_165, h⟩ := bd h
        refine toO (by kernel_rfl) (p_idx 0 a0_a a0.length i_4 3 (by kernel_rfl) (by kernel_rfl) (ix_some hx_165).1 (ltn hx_165 rfl) (a0_h.sp hx_165) (jkO ?_))
        refine jo_f [(0, 0)] (by kernel_rfl) ?_
        refine toO (by kernel_rfl) (p_ld 0 (aB a0_a) (aO a0_a + i_4.toNat * 3 + 1) false (((encGWornPin x_8).drop 1).take 1) (by kernel_rfl) (by kernel_rfl) (by kernel_rfl) (fun w hm => (((hm.exRow a0_h List.not_mem_nil).at hx_165).sub 1 1)) (jkO ?_))
        refine jo_f [(0, 0), (0, 0), (0, 0)] (by kernel_rfl) ?_
        refine jo_end (by kernel_rfl) ?_
        refine jx_then ?_
        refine jc_cond (x_8.fTrack != (w8 (w64 (i_3 + 1)))) (by kernel_rfl) (fun hc_166 => ?_) (fun hc_166 => ?_)
        · replace h := ifT hc_166 h
          refine jc_seq ?_
          refine jc_region ?_
          refine jo_f [(0, 0)] (by kernel_rfl) ?_
          refine jo_end (by kernel_rfl) ?_
          refine jx_then ?_
          refine jc_ret ?_
          refine jx_thenr ?_
          refine jx_inr ?_
          refine jx_thenr ?_
          refine jx_leaver (.inl (-1)) (Option.some.inj h).symm (fun e_167 => ?_)
          subst e_167
          refine jx_inr ?_
          refine jx_thenr ?_
          refine jx_thenr ?_
          obtain rfl := Option.some.inj hr_154
          exact jx_ret [] (.int .i64 (-1)) [] rfl (by kernel_rfl) (by kernel_rfl) (fun w hm => ⟨rfl, hm.pick [] (by kernel_rfl) (by kernel_rfl)⟩)
        · replace h := ifF hc_166 h
          refine jc_skip ?_
          refine jx_then ?_
          refine jc_seq ?_
          refine jc_region ?_
          refine jo_f [(0, 0), (0, 0), (0, 0)] (by kernel_rfl) ?_
          refine jo_end (by kernel_rfl) ?_
          refine jx_then ?_
          refine jc_seq ?_
          refine jc_seq ?_
          refine jc_region ?_
          refine jo_f [(0, 0), (0, 0)] (by kernel_rfl) ?_
          obtain ⟨x_9, hx_168, h⟩ := bd h
          refine toO (by kernel_rfl) (p_idx 0 a0_a a0.length i_4 3 (by kernel_rfl) (by kernel_rfl) (ix_some hx_168).1 (ltn hx_168 rfl) (a0_h.sp hx_168) (jkO ?_))
          refine jo_f [(0, 0)] (by kernel_rfl) ?_
          refine toO (by kernel_rfl) (p_ld 0 (aB a0_a) (aO a0_a + i_4.toNat * 3 + 2) false (((encGWornPin x_9).drop 2).take 1) (by kernel_rfl) (by kernel_rfl) (by kernel_rfl) (fun w hm => (((hm.exRow a0_h List.not_mem_nil).at hx_168).sub 2 1)) (jkO ?_))
          refine jo_f [(0, 0), (0, 0)] (by kernel_rfl) ?_
          refine jo_end (by kernel_rfl) ?_
          refine jx_then ?_
          refine jc_cond (x_9.fTurns != (w64 ((w64 (i_3 + 1)) + 1))) (by kernel_rfl) (fun hc_169 => ?_) (fun hc_169 => ?_)
          · replace h := ifT hc_169 h
            refine jc_seq ?_
            refine jc_region ?_
            refine jo_f [(0, 0)] (by kernel_rfl) ?_
            refine jo_end (by kernel_rfl) ?_
            refine jx_then ?_
            refine jc_ret ?_
            refine jx_thenr ?_
            refine jx_inr ?_
            refine jx_thenr ?_
            refine jx_leaver (.inl (-1)) (Option.some.inj h).symm (fun e_170 => ?_)
            subst e_170
            refine jx_inr ?_
            refine jx_thenr ?_
            refine jx_thenr ?_
            obtain rfl := Option.some.inj hr_154
            exact jx_ret [] (.int .i64 (-1)) [] rfl (by kernel_rfl) (by kernel_rfl) (fun w hm => ⟨rfl, hm.pick [] (by kernel_rfl) (by kernel_rfl)⟩)
          · replace h := ifF hc_169 h
            refine jc_skip ?_
            refine jx_then ?_
            refine jc_region ?_
            refine jo_f [(0, 0), (0, 0), (0, 0)] (by kernel_rfl) ?_
            refine jo_end (by kernel_rfl) ?_
            refine jx_inn ?_
            refine jx_then ?_
            refine jc_region ?_
            refine jo_f [(0, 0), (0, 0), (0, 0)] (by kernel_rfl) ?_
            refine jo_end (by kernel_rfl) ?_
            exact jx_back ((w64 ((w64 ((w64 (i_3 + 1)) + 1)) + 1)), (w64 (i_4 + 1))) () (Option.some.inj h).symm trivial [] (by kernel_rfl) (by kernel_rfl) (by kernel_rfl)
    · replace h := ifF hc_157 h
      refine jc_exit ?_
      refine jx_thenx ?_
      refine jx_leave (.inr i_3) (Option.some.inj h).symm (fun e_171 => ?_)
      subst e_171
      refine jx_ine ?_
      exact jx_meet i_3 hr_154 (by kernel_rfl) [] (by kernel_rfl) (by kernel_rfl)
  · rintro i_1 h
    replace h : laws_heldWornPinS.k_2 i_1 = some r := h
    rw [laws_heldWornPinS.k_2] at h
    refine jx_then ?_
    refine jc_seq ?_
    refine jc_region ?_
    refine jo_f [(0, 0), (0, 0)] (by kernel_rfl) ?_
    refine jo_end (by kernel_rfl) ?_
    refine jx_then ?_
    refine jc_ret ?_
    obtain rfl := Option.some.inj h
    exact jx_ret [] (.int .i64 i_1) [] rfl (by kernel_rfl) (by kernel_rfl) (fun w hm => ⟨rfl, hm.pick [] (by kernel_rfl) (by kernel_rfl)⟩)

/-! ### laws.heldInt64S -/
noncomputable def laws_heldInt64S.k_2 (i_1 : Int) : Option (Int) := some i_1
noncomputable def laws_heldInt64S.l_5 (a0 : List Int) : (Int × Int) → Option ((Int × Int) ⊕ (Int ⊕ Int))
  | (i_3, i_4) => (if (decide (i_4 < (a0.length : Int))) = true then (ix a0 i_4).bind fun x_7 => (if (x_7 != i_3) = true then some (.inr (.inl (-1))) else some (.inl ((w64 (i_3 + 1)), (w64 (i_4 + 1))))) else some (.inr (.inr i_3)))
noncomputable def laws_heldInt64S (a0 : List Int) (k1 : Int) : Option (Int) := (loop (laws_heldInt64S.l_5 a0) (k1, 0)).bind fun t_6 => match t_6 with | .inl p => some p | .inr p => laws_heldInt64S.k_2 p
set_option maxRecDepth 100000 in
theorem laws_heldInt64S.calls (a0 : List Int) (k1 : Int) (w : World) (r : Int) (a0_a : Option Addr) (a0_an : Nat) (a0_c : Nat) (a0_h : Rw w a0_a 1 encI64 a0) (a0_hn : a0.length = a0_an) (h : laws_heldInt64S a0 k1 = some r) :
    Calls Try.prog 59 #[(.slice a0_a a0_an a0_c), (.int .i64 k1)] w fun e w' => ∃ v, e = .returned v ∧ (v = (.int .i64 r) ∧ Mem w [] [] w') := by
  subst a0_hn
  rw [laws_heldInt64S] at h
  refine enter (args := [(.slice a0_a a0.length a0_c), (.int .i64 k1)]) Try.func59 rfl Try.ntmps59 (by kernel_rfl) (L := []) (W := []) (Mem.start w) ?_
  refine jc_seq ?_
  refine jc_region ?_
  refine jo_f [(0, 0)] (by kernel_rfl) ?_
  refine jo_end (by kernel_rfl) ?_
  refine jx_then ?_
  refine jc_seq ?_
  refine jc_seq ?_
  refine jc_region ?_
  refine jo_f [(0, 0)] (by kernel_rfl) ?_
  refine jo_end (by kernel_rfl) ?_
  refine jx_then ?_
  refine jc_meet (fun (j : Int) => match j with | i_1 => laws_heldInt64S.k_2 i_1 = some r) (fun (j : Int) => match j with | i_1 => [(1, [], (.int .i64 i_1)), (4, [], (.int .i64 0))]) (fun (j : Int) => match j with | i_1 => []) ?_ ?_
  · refine jc_block ?_
    obtain ⟨t_6, ht_68, hr_60⟩ := bd h
    refine jc_loop (fun (s : Int × Int) (x : Unit) => match s, x with | ⟨i_3, i_4⟩, _ => True) (fun (s : Int × Int) (x : Unit) => match s, x with | ⟨i_3, i_4⟩, _ => [(0, [], (.slice a0_a a0.length a0_c)), (1, [], (.int .i64 i_3)), (4, [], (.int .i64 0)), (5, [], (.int .i64 i_4))]) (fun (s : Int × Int) (x : Unit) => match s, x with | ⟨i_3, i_4⟩, _ => []) ht_68 () trivial (by kernel_rfl) [] (by kernel_rfl) (by kernel_rfl) ?_
    rintro ⟨i_3, i_4⟩ _ y_61 _ h
    rw [laws_heldInt64S.l_5] at h
    refine jc_seq ?_
    refine jc_seq ?_
    refine jc_region ?_
    refine jo_f [(0, 0), (0, 0), (0, 0), (0, 0)] (by kernel_rfl) ?_
    refine jo_end (by kernel_rfl) ?_
    refine jx_then ?_
    refine jc_cond (decide (i_4 < (a0.length : Int))) (by kernel_rfl) (fun hc_63 => ?_) (fun hc_63 => ?_)
    · replace h := ifT hc_63 h
      refine jc_skip ?_
      refine jx_then ?_
      refine jc_seq ?_
      refine jc_block ?_
      refine jc_seq ?_
      refine jc_seq ?_
      refine jc_region ?_
      refine jo_f [(0, 0), (0, 0)] (by kernel_rfl) ?_
      obtain ⟨x_7, hx_64, h⟩ := bd h
      refine toO (by kernel_rfl) (p_idx 0 a0_a a0.length i_4 1 (by kernel_rfl) (by kernel_rfl) (ix_some hx_64).1 (ltn hx_64 rfl) (a0_h.sp hx_64) (jkO ?_))
      refine toO (by kernel_rfl) (p_ld 0 (aB a0_a) (aO a0_a + i_4.toNat * 1) false (encI64 x_7) (by kernel_rfl) (by kernel_rfl) (by kernel_rfl) (fun w hm => ((hm.exRow a0_h List.not_mem_nil).at hx_64)) (jkO ?_))
      refine jo_f [(0, 0), (0, 0)] (by kernel_rfl) ?_
      refine jo_end (by kernel_rfl) ?_
      refine jx_then ?_
      refine jc_cond (x_7 != i_3) (by kernel_rfl) (fun hc_65 => ?_) (fun hc_65 => ?_)
      · replace h := ifT hc_65 h
        refine jc_seq ?_
        refine jc_region ?_
        refine jo_f [(0, 0)] (by kernel_rfl) ?_
        refine jo_end (by kernel_rfl) ?_
        refine jx_then ?_
        refine jc_ret ?_
        refine jx_thenr ?_
        refine jx_inr ?_
        refine jx_thenr ?_
        refine jx_leaver (.inl (-1)) (Option.some.inj h).symm (fun e_66 => ?_)
        subst e_66
        refine jx_inr ?_
        refine jx_thenr ?_
        refine jx_thenr ?_
        obtain rfl := Option.some.inj hr_60
        exact jx_ret [] (.int .i64 (-1)) [] rfl (by kernel_rfl) (by kernel_rfl) (fun w hm => ⟨rfl, hm.pick [] (by kernel_rfl) (by kernel_rfl)⟩)
      · replace h := ifF hc_65 h
        refine jc_skip ?_
        refine jx_then ?_
        refine jc_region ?_
        refine jo_f [(0, 0), (0, 0), (0, 0)] (by kernel_rfl) ?_
        refine jo_end (by kernel_rfl) ?_
        refine jx_inn ?_
        refine jx_then ?_
        refine jc_region ?_
        refine jo_f [(0, 0), (0, 0), (0, 0)] (by kernel_rfl) ?_
        refine jo_end (by kernel_rfl) ?_
        exact jx_back ((w64 (i_3 + 1)), (w64 (i_4 + 1))) () (Option.some.inj h).symm trivial [] (by kernel_rfl) (by kernel_rfl) (by kernel_rfl)
    · replace h := ifF hc_63 h
      refine jc_exit ?_
      refine jx_thenx ?_
      refine jx_leave (.inr i_3) (Option.some.inj h).symm (fun e_67 => ?_)
      subst e_67
      refine jx_ine ?_
      exact jx_meet i_3 hr_60 (by kernel_rfl) [] (by kernel_rfl) (by kernel_rfl)
  · rintro i_1 h
    replace h : laws_heldInt64S.k_2 i_1 = some r := h
    rw [laws_heldInt64S.k_2] at h
    refine jx_then ?_
    refine jc_seq ?_
    refine jc_region ?_
    refine jo_f [(0, 0), (0, 0)] (by kernel_rfl) ?_
    refine jo_end (by kernel_rfl) ?_
    refine jx_then ?_
    refine jc_ret ?_
    obtain rfl := Option.some.inj h
    exact jx_ret [] (.int .i64 i_1) [] rfl (by kernel_rfl) (by kernel_rfl) (fun w hm => ⟨rfl, hm.pick [] (by kernel_rfl) (by kernel_rfl)⟩)

/-! ### laws.heldWear -/
noncomputable def laws_heldWear (a0 : GWear) (k1 : Int) : Option (Int) := (laws_heldWornPinS a0.fPins k1).bind fun t_1 => (if (decide (t_1 < 0)) = true then some (-1) else (laws_heldInt64S a0.fStrokes t_1).bind fun t_2 => (if (decide (t_2 < 0)) = true then some (-1) else some t_2))
set_option maxRecDepth 100000 in
theorem laws_heldWear.calls (a0 : GWear) (k1 : Int) (w : World) (r : Int) (a0_fPins_a : Option Addr) (a0_fPins_an : Nat) (a0_fPins_c : Nat) (a0_fPins_h : Rw w a0_fPins_a 3 encGWornPin a0.fPins) (a0_fPins_hn : a0.fPins.length = a0_fPins_an) (a0_fStrokes_a : Option Addr) (a0_fStrokes_an : Nat) (a0_fStrokes_c : Nat) (a0_fStrokes_h : Rw w a0_fStrokes_a 1 encI64 a0.fStrokes) (a0_fStrokes_hn : a0.fStrokes.length = a0_fStrokes_an) (h : laws_heldWear a0 k1 = some r) :
    Calls Try.prog 52 #[(.agg #[(.slice a0_fPins_a a0_fPins_an a0_fPins_c), (.slice a0_fStrokes_a a0_fStrokes_an a0_fStrokes_c)]), (.int .i64 k1)] w fun e w' => ∃ v, e = .returned v ∧ (v = (.int .i64 r) ∧ Mem w [] [] w') := by
  subst a0_fPins_hn a0_fStrokes_hn
  rw [laws_heldWear] at h
  refine enter (args := [(.agg #[(.slice a0_fPins_a a0.fPins.length a0_fPins_c), (.slice a0_fStrokes_a a0.fStrokes.length a0_fStrokes_c)]), (.int .i64 k1)]) Try.func52 rfl Try.ntmps52 (by kernel_rfl) (L := []) (W := []) (Mem.start w) ?_
  refine jc_seq ?_
  refine jc_region ?_
  refine toO (by kernel_rfl) (p_a 0 [0] (by kernel_rfl) (fun b => by kernel_rfl) (fun b_1 => jkO ?_))
  refine jo_f [(0, 0)] (by kernel_rfl) ?_
  refine jo_end (by kernel_rfl) ?_
  refine jx_then ?_
  refine jc_seq ?_
  refine jc_region ?_
  refine jo_f [(0, 0), (0, 0), (0, 0)] (by kernel_rfl) ?_
  obtain ⟨t_1, ht_2, h⟩ := bd h
  refine toO (by kernel_rfl) (p_call 0 118 #[(.slice a0_fPins_a a0.fPins.length a0_fPins_c), (.int .i64 k1)] (by kernel_rfl) (by kernel_rfl) (fun w hm => laws_heldWornPinS.calls a0.fPins k1 w _ a0_fPins_a a0.fPins.length a0_fPins_c (hm.exRow a0_fPins_h List.not_mem_nil) rfl ht_2) ?_)
  rintro w v w' hm ⟨rfl, hm'⟩
  refine ⟨_, hm.app hm', jkO ?_⟩
  clear hm hm'
  refine jo_f [(0, 0)] (by kernel_rfl) ?_
  refine jo_end (by kernel_rfl) ?_
  refine jx_then ?_
  refine jc_seq ?_
  refine jc_seq ?_
  refine jc_region ?_
  refine jo_f [(0, 0), (0, 0)] (by kernel_rfl) ?_
  refine jo_end (by kernel_rfl) ?_
  refine jx_then ?_
  refine jc_cond (decide (t_1 < 0)) (by kernel_rfl) (fun hc_4 => ?_) (fun hc_4 => ?_)
  · replace h := ifT hc_4 h
    refine jc_seq ?_
    refine jc_region ?_
    refine jo_f [(0, 0)] (by kernel_rfl) ?_
    refine jo_end (by kernel_rfl) ?_
    refine jx_then ?_
    refine jc_ret ?_
    refine jx_thenr ?_
    obtain rfl := Option.some.inj h
    exact jx_ret [] (.int .i64 (-1)) [] rfl (by kernel_rfl) (by kernel_rfl) (fun w hm => ⟨rfl, hm.pick [] (by kernel_rfl) (by kernel_rfl)⟩)
  · replace h := ifF hc_4 h
    refine jc_skip ?_
    refine jx_then ?_
    refine jc_seq ?_
    refine jc_region ?_
    refine jo_f [(0, 0), (0, 0), (0, 0)] (by kernel_rfl) ?_
    obtain ⟨t_2, ht_5, h⟩ := bd h
    refine toO (by kernel_rfl) (p_call 0 59 #[(.slice a0_fStrokes_a a0.fStrokes.length a0_fStrokes_c), (.int .i64 t_1)] (by kernel_rfl) (by kernel_rfl) (fun w hm => laws_heldInt64S.calls a0.fStrokes t_1 w _ a0_fStrokes_a a0.fStrokes.length a0_fStrokes_c (hm.exRow a0_fStrokes_h List.not_mem_nil) rfl ht_5) ?_)
    rintro w v w' hm ⟨rfl, hm'⟩
    refine ⟨_, hm.app hm', jkO ?_⟩
    clear hm hm'
    refine jo_f [(0, 0)] (by kernel_rfl) ?_
    refine jo_end (by kernel_rfl) ?_
    refine jx_then ?_
    refine jc_seq ?_
    refine jc_seq ?_
    refine jc_region ?_
    refine jo_f [(0, 0), (0, 0)] (by kernel_rfl) ?_
    refine jo_end (by kernel_rfl) ?_
    refine jx_then ?_
    refine jc_cond (decide (t_2 < 0)) (by kernel_rfl) (fun hc_7 => ?_) (fun hc_7 => ?_)
    · replace h := ifT hc_7 h
      refine jc_seq ?_
      refine jc_region ?_
      refine jo_f [(0, 0)] (by kernel_rfl) ?_
      refine jo_end (by kernel_rfl) ?_
      refine jx_then ?_
      refine jc_ret ?_
      refine jx_thenr ?_
      obtain rfl := Option.some.inj h
      exact jx_ret [] (.int .i64 (-1)) [] rfl (by kernel_rfl) (by kernel_rfl) (fun w hm => ⟨rfl, hm.pick [] (by kernel_rfl) (by kernel_rfl)⟩)
    · replace h := ifF hc_7 h
      refine jc_skip ?_
      refine jx_then ?_
      refine jc_seq ?_
      refine jc_region ?_
      refine jo_f [(0, 0), (0, 0)] (by kernel_rfl) ?_
      refine jo_end (by kernel_rfl) ?_
      refine jx_then ?_
      refine jc_ret ?_
      obtain rfl := Option.some.inj h
      exact jx_ret [] (.int .i64 t_2) [] rfl (by kernel_rfl) (by kernel_rfl) (fun w hm => ⟨rfl, hm.pick [] (by kernel_rfl) (by kernel_rfl)⟩)
end Go.Proofs.Ytilackblefjgdaa
