/- Functions of the program that the laws reach: a plain function each, and that the call comes to its answer if the plain function has one. Printed by a program. -/
import Derived.Test.YtdnkjgmncfhejaaT
namespace Go.Proofs.Ytdnkjgmncfhejaa
open Eng
set_option linter.unusedVariables false

/-! ### spec.l06Copy -/
noncomputable def spec_l06Copy (w0 : GWear) : Option (GWear) := (if ([] : List GWornPin).length + w0.fPins.length ≤ 4294967296 then (if ([] : List Int).length + w0.fStrokes.length ≤ 4294967296 then some (⟨(([] : List GWornPin) ++ w0.fPins), (([] : List Int) ++ w0.fStrokes)⟩ : GWear) else none) else none)
set_option maxRecDepth 100000 in
theorem spec_l06Copy.calls (w0 : GWear) (w : World) (r : GWear) (w0_fPins_a : Option Addr) (w0_fPins_an : Nat) (w0_fPins_c : Nat) (w0_fPins_h : Rw w w0_fPins_a 3 encGWornPin w0.fPins) (w0_fPins_hn : w0.fPins.length = w0_fPins_an) (w0_fStrokes_a : Option Addr) (w0_fStrokes_an : Nat) (w0_fStrokes_c : Nat) (w0_fStrokes_h : Rw w w0_fStrokes_a 1 encI64 w0.fStrokes) (w0_fStrokes_hn : w0.fStrokes.length = w0_fStrokes_an) (w0_b : Nat) (hm0 : Mem w (bs [some w0_b]) [⟨some w0_b, 52, [(.slice w0_fPins_a w0_fPins_an w0_fPins_c), (.slice w0_fStrokes_a w0_fStrokes_an w0_fStrokes_c)]⟩] w) (w0_fPins_ha : w0.fPins ≠ [] → aB w0_fPins_a ∉ bs [some w0_b]) (w0_fStrokes_ha : w0.fStrokes ≠ [] → aB w0_fStrokes_a ∉ bs [some w0_b]) (h : spec_l06Copy w0 = some r) :
    Calls Try.prog 113 #[(.pointer (some ⟨w0_b, 0, none⟩))] w fun e w' => ∃ v, e = .returned v ∧ (∃ (o0 : Option Nat) (c0 : Nat) (s0 : List Value) (n0 : Nat), r.fPins.length = n0 ∧ (o0 ≠ none → n0 ≤ c0 ∧ s0.length = (c0 - n0) * 3) ∧ (o0 = none → r.fPins = [] ∧ c0 = 0) ∧ ∃ (o1 : Option Nat) (c1 : Nat) (s1 : List Value) (n1 : Nat), r.fStrokes.length = n1 ∧ (o1 ≠ none → n1 ≤ c1 ∧ s1.length = (c1 - n1) * 1) ∧ (o1 = none → r.fStrokes = [] ∧ c1 = 0) ∧ v = .agg #[.slice (o0.map fun b => ⟨b, 0, none⟩) n0 c0, .slice (o1.map fun b => ⟨b, 0, none⟩) n1 c1] ∧ Mem w (bs [some w0_b]) [⟨some w0_b, 52, [(.slice w0_fPins_a w0_fPins_an w0_fPins_c), (.slice w0_fStrokes_a w0_fStrokes_an w0_fStrokes_c)]⟩, ⟨o0, 124, row encGWornPin r.fPins s0⟩, ⟨o1, 2, row encI64 r.fStrokes s1⟩] w') := by
  subst w0_fPins_hn w0_fStrokes_hn
  rw [spec_l06Copy] at h
  refine enter (args := [(.pointer (some ⟨w0_b, 0, none⟩))]) Try.func113 rfl Try.ntmps113 (by kernel_rfl) (L := [⟨some w0_b, 52, [(.slice w0_fPins_a w0.fPins.length w0_fPins_c), (.slice w0_fStrokes_a w0.fStrokes.length w0_fStrokes_c)]⟩]) (W := bs [some w0_b]) hm0 ?_
  refine jc_seq ?_
  refine jc_region ?_
  refine toO (by kernel_rfl) (p_a 0 [0] (by kernel_rfl) (fun b => by kernel_rfl) (fun b_1 => jkO ?_))
  refine jo_end (by kernel_rfl) ?_
  refine jx_then ?_
  refine jc_seq ?_
  refine jc_draw [⟨some w0_b, 52, [(.slice w0_fPins_a w0.fPins.length w0_fPins_c), (.slice w0_fStrokes_a w0.fStrokes.length w0_fStrokes_c)]⟩] 14 (by kernel_rfl) (by kernel_rfl) ?_
  refine jd_f [⟨1, 0, 0⟩, ⟨2, 0, 0⟩, ⟨3, 0, 0⟩, ⟨4, 0, 0⟩, ⟨7, 0, 0⟩, ⟨8, 0, 0⟩, ⟨9, 0, 0⟩, ⟨10, 0, 0⟩] 6 (by kernel_rfl) (by kernel_rfl) (fun w h => h.pick [0] (by kernel_rfl) (by kernel_rfl)) (by kernel_rfl) (by kernel_rfl) ?_
  refine toD2 0 6 (by kernel_rfl) ?_ ?_
  · refine p_a 0 [0] (by kernel_rfl) (fun b => by kernel_rfl) (fun b_16 => jkD (fun w h => h.pick [0] (by kernel_rfl) (by kernel_rfl)) ?_)
    refine toD2 5 6 (by kernel_rfl) ?_ ?_
    · obtain ⟨hg_17, h⟩ := gd h
      refine p_apn 0 2 (some b_16) 124 0 w0.fPins.length 0 3 16 w0_fPins_a encGWornPin ([] : List GWornPin) w0.fPins [] (.agg #[(.int .i8 0), (.int .i8 0), (.int .i64 0)]) rfl rfl (by kernel_rfl) (by kernel_rfl) (by kernel_rfl) encGWornPin_len encGWornPin_cell (fun _ => ⟨Nat.le_refl _, by simp⟩) (fun e => nomatch e) (fun w hm => (hm.exRowW w0_fPins_h w0_fPins_ha)) hg_17 (by kernel_rfl) (by kernel_rfl) (fun o_18 cap_19 sp_20 hs_21 ho_22 => jkD (fun w h => h.pick [0] (by kernel_rfl) (by kernel_rfl)) ?_)
      refine toD 6 (by kernel_rfl) (p_a 0 [0] (by kernel_rfl) (fun b => by kernel_rfl) (fun b_23 => jkD (fun w h => h.pick [0] (by kernel_rfl) (by kernel_rfl)) ?_))
      obtain ⟨hg_24, h⟩ := gd h
      refine toD 11 (by kernel_rfl) (p_apn 0 3 (some b_23) 2 0 w0.fStrokes.length 0 1 8 w0_fStrokes_a encI64 ([] : List Int) w0.fStrokes [] (.int .i64 0) rfl rfl (by kernel_rfl) (by kernel_rfl) (by kernel_rfl) encI64_len encI64_cell (fun _ => ⟨Nat.le_refl _, by simp⟩) (fun e => nomatch e) (fun w hm => (hm.exRowW w0_fStrokes_h w0_fStrokes_ha)) hg_24 (by kernel_rfl) (by kernel_rfl) (fun o_25 cap_26 sp_27 hs_28 ho_29 => jkD (fun w h => h.pick [0] (by kernel_rfl) (by kernel_rfl)) ?_))
      refine jd_f [⟨12, 0, 0⟩] 1 (by kernel_rfl) (by kernel_rfl) (fun w h => h.pick [0] (by kernel_rfl) (by kernel_rfl)) (by kernel_rfl) (by kernel_rfl) ?_
      refine toD 13 (by kernel_rfl) (p_s 0 [1] (by kernel_rfl) (by kernel_rfl) (jkD (fun w h => h.pick [0] (by kernel_rfl) (by kernel_rfl)) ?_))
      refine jd_end (by kernel_rfl) ?_
      refine jx_then ?_
      refine jc_ret ?_
      obtain rfl := Option.some.inj h
      exact jx_ret [1] (.agg #[(.slice (o_18.map fun b => ⟨b, 0, none⟩) ((([] : List GWornPin) ++ w0.fPins).length) cap_19), (.slice (o_25.map fun b => ⟨b, 0, none⟩) ((([] : List Int) ++ w0.fStrokes).length) cap_26)]) [(b_1, b_1), (b_1, b_1)] rfl (by kernel_rfl) (by kernel_rfl) (fun w hm => ⟨o_18, cap_19, sp_20, ((([] : List GWornPin) ++ w0.fPins).length), rfl, hs_21, ho_22, o_25, cap_26, sp_27, ((([] : List Int) ++ w0.fStrokes).length), rfl, hs_28, ho_29, rfl, hm.pick [0, 2, 3] (by kernel_rfl) (by kernel_rfl)⟩)
    · refine p_a 0 [0] (by kernel_rfl) (fun b => by kernel_rfl) (fun b_30 => jkD (fun w h => h.pick [0] (by kernel_rfl) (by kernel_rfl)) ?_)
      obtain ⟨hg_31, h⟩ := gd h
      refine toD 5 (by kernel_rfl) (p_apn 0 2 (some b_16) 124 0 w0.fPins.length 0 3 16 w0_fPins_a encGWornPin ([] : List GWornPin) w0.fPins [] (.agg #[(.int .i8 0), (.int .i8 0), (.int .i64 0)]) rfl rfl (by kernel_rfl) (by kernel_rfl) (by kernel_rfl) encGWornPin_len encGWornPin_cell (fun _ => ⟨Nat.le_refl _, by simp⟩) (fun e => nomatch e) (fun w hm => (hm.exRowW w0_fPins_h w0_fPins_ha)) hg_31 (by kernel_rfl) (by kernel_rfl) (fun o_32 cap_33 sp_34 hs_35 ho_36 => jkD (fun w h => h.pick [0] (by kernel_rfl) (by kernel_rfl)) ?_))
      obtain ⟨hg_37, h⟩ := gd h
      refine toD 11 (by kernel_rfl) (p_apn 0 3 (some b_30) 2 0 w0.fStrokes.length 0 1 8 w0_fStrokes_a encI64 ([] : List Int) w0.fStrokes [] (.int .i64 0) rfl rfl (by kernel_rfl) (by kernel_rfl) (by kernel_rfl) encI64_len encI64_cell (fun _ => ⟨Nat.le_refl _, by simp⟩) (fun e => nomatch e) (fun w hm => (hm.exRowW w0_fStrokes_h w0_fStrokes_ha)) hg_37 (by kernel_rfl) (by kernel_rfl) (fun o_38 cap_39 sp_40 hs_41 ho_42 => jkD (fun w h => h.pick [0] (by kernel_rfl) (by kernel_rfl)) ?_))
      refine jd_f [⟨12, 0, 0⟩] 1 (by kernel_rfl) (by kernel_rfl) (fun w h => h.pick [0] (by kernel_rfl) (by kernel_rfl)) (by kernel_rfl) (by kernel_rfl) ?_
      refine toD 13 (by kernel_rfl) (p_s 0 [1] (by kernel_rfl) (by kernel_rfl) (jkD (fun w h => h.pick [0] (by kernel_rfl) (by kernel_rfl)) ?_))
      refine jd_end (by kernel_rfl) ?_
      refine jx_then ?_
      refine jc_ret ?_
      obtain rfl := Option.some.inj h
      exact jx_ret [1] (.agg #[(.slice (o_32.map fun b => ⟨b, 0, none⟩) ((([] : List GWornPin) ++ w0.fPins).length) cap_33), (.slice (o_38.map fun b => ⟨b, 0, none⟩) ((([] : List Int) ++ w0.fStrokes).length) cap_39)]) [(b_1, b_1), (b_1, b_1)] rfl (by kernel_rfl) (by kernel_rfl) (fun w hm => ⟨o_32, cap_33, sp_34, ((([] : List GWornPin) ++ w0.fPins).length), rfl, hs_35, ho_36, o_38, cap_39, sp_40, ((([] : List Int) ++ w0.fStrokes).length), rfl, hs_41, ho_42, rfl, hm.pick [0, 2, 3] (by kernel_rfl) (by kernel_rfl)⟩)
  · refine p_a 0 [0] (by kernel_rfl) (fun b => by kernel_rfl) (fun b_43 => jkD (fun w h => h.pick [0] (by kernel_rfl) (by kernel_rfl)) ?_)
    refine toD 0 (by kernel_rfl) (p_a 0 [0] (by kernel_rfl) (fun b => by kernel_rfl) (fun b_44 => jkD (fun w h => h.pick [0] (by kernel_rfl) (by kernel_rfl)) ?_))
    obtain ⟨hg_45, h⟩ := gd h
    refine toD 5 (by kernel_rfl) (p_apn 0 3 (some b_44) 124 0 w0.fPins.length 0 3 16 w0_fPins_a encGWornPin ([] : List GWornPin) w0.fPins [] (.agg #[(.int .i8 0), (.int .i8 0), (.int .i64 0)]) rfl rfl (by kernel_rfl) (by kernel_rfl) (by kernel_rfl) encGWornPin_len encGWornPin_cell (fun _ => ⟨Nat.le_refl _, by simp⟩) (fun e => nomatch e) (fun w hm => (hm.exRowW w0_fPins_h w0_fPins_ha)) hg_45 (by kernel_rfl) (by kernel_rfl) (fun o_46 cap_47 sp_48 hs_49 ho_50 => jkD (fun w h => h.pick [0] (by kernel_rfl) (by kernel_rfl)) ?_))
    obtain ⟨hg_51, h⟩ := gd h
    refine toD 11 (by kernel_rfl) (p_apn 0 2 (some b_43) 2 0 w0.fStrokes.length 0 1 8 w0_fStrokes_a encI64 ([] : List Int) w0.fStrokes [] (.int .i64 0) rfl rfl (by kernel_rfl) (by kernel_rfl) (by kernel_rfl) encI64_len encI64_cell (fun _ => ⟨Nat.le_refl _, by simp⟩) (fun e => nomatch e) (fun w hm => (hm.exRowW w0_fStrokes_h w0_fStrokes_ha)) hg_51 (by kernel_rfl) (by kernel_rfl) (fun o_52 cap_53 sp_54 hs_55 ho_56 => jkD (fun w h => h.pick [0] (by kernel_rfl) (by kernel_rfl)) ?_))
    refine jd_f [⟨12, 0, 0⟩] 1 (by kernel_rfl) (by kernel_rfl) (fun w h => h.pick [0] (by kernel_rfl) (by kernel_rfl)) (by kernel_rfl) (by kernel_rfl) ?_
    refine toD 13 (by kernel_rfl) (p_s 0 [1] (by kernel_rfl) (by kernel_rfl) (jkD (fun w h => h.pick [0] (by kernel_rfl) (by kernel_rfl)) ?_))
    refine jd_end (by kernel_rfl) ?_
    refine jx_then ?_
    refine jc_ret ?_
    obtain rfl := Option.some.inj h
    exact jx_ret [1] (.agg #[(.slice (o_46.map fun b => ⟨b, 0, none⟩) ((([] : List GWornPin) ++ w0.fPins).length) cap_47), (.slice (o_52.map fun b => ⟨b, 0, none⟩) ((([] : List Int) ++ w0.fStrokes).length) cap_53)]) [(b_1, b_1), (b_1, b_1)] rfl (by kernel_rfl) (by kernel_rfl) (fun w hm => ⟨o_46, cap_47, sp_48, ((([] : List GWornPin) ++ w0.fPins).length), rfl, hs_49, ho_50, o_52, cap_53, sp_54, ((([] : List Int) ++ w0.fStrokes).length), rfl, hs_55, ho_56, rfl, hm.pick [0, 3, 2] (by kernel_rfl) (by kernel_rfl)⟩)

/-! ### slices.Clone[[]impl.WornPin,impl.WornPin] -/
noncomputable def slices_Clone_WornPin (s0 : List GWornPin) : Option ((List GWornPin)) := (if ([] : List GWornPin).length + s0.length ≤ 4294967296 then some (([] : List GWornPin) ++ s0) else none)
set_option maxRecDepth 100000 in
theorem slices_Clone_WornPin.calls (s0 : List GWornPin) (w : World) (r : (List GWornPin)) (s0_a : Option Addr) (s0_an : Nat) (s0_c : Nat) (s0_h : Rw w s0_a 3 encGWornPin s0) (s0_hn : s0.length = s0_an) (h : slices_Clone_WornPin s0 = some r) :
    Calls Try.prog 165 #[(.slice s0_a s0_an s0_c)] w fun e w' => ∃ v, e = .returned v ∧ (∃ (o0 : Option Nat) (c0 : Nat) (s0 : List Value) (n0 : Nat), r.length = n0 ∧ (o0 ≠ none → n0 ≤ c0 ∧ s0.length = (c0 - n0) * 3) ∧ (o0 = none → r = [] ∧ c0 = 0) ∧ v = .slice (o0.map fun b => ⟨b, 0, none⟩) n0 c0 ∧ Mem w [] [⟨o0, 124, row encGWornPin r s0⟩] w') := by
  subst s0_hn
  rw [slices_Clone_WornPin] at h
  refine enter (args := [(.slice s0_a s0.length s0_c)]) Try.func165 rfl Try.ntmps165 (by kernel_rfl) (L := []) (W := []) (Mem.start w) ?_
  refine jc_seq ?_
  refine jc_region ?_
  refine jo_f [(0, 0)] (by kernel_rfl) ?_
  refine jo_end (by kernel_rfl) ?_
  refine jx_then ?_
  refine jc_seq ?_
  refine jc_seq ?_
  refine jc_region ?_
  refine jo_f [(0, 0)] (by kernel_rfl) ?_
  by_cases hn_4 : s0_a = none
  · have hx0 : s0 = [] := (nil_of s0_h hn_4)
    replace h : some [] = some r := by simpa [hx0] using h
    refine toO (by kernel_rfl) (p_nil 0 s0_a true true (by kernel_rfl) (by kernel_rfl) (by rw [hn_4]; rfl) (jkO ?_))
    refine jo_end (by kernel_rfl) ?_
    refine jx_then ?_
    refine jc_cond true (by kernel_rfl) (fun hc_5 => ?_) (fun hc_5 => nomatch hc_5)
    refine jc_seq ?_
    refine jc_region ?_
    refine jo_f [(0, 0)] (by kernel_rfl) ?_
    refine jo_end (by kernel_rfl) ?_
    refine jx_then ?_
    refine jc_ret ?_
    refine jx_thenr ?_
    obtain rfl := Option.some.inj h
    refine jx_ghost 124 encGWornPin ?_
    exact jx_ret [] (.slice none 0 0) [] rfl (by kernel_rfl) (by kernel_rfl) (fun w hm => ⟨none, 0, [], 0, rfl, (fun e => absurd rfl e), (fun _ => ⟨rfl, rfl⟩), rfl, hm.pick [0] (by kernel_rfl) (by kernel_rfl)⟩)
  · refine toO (by kernel_rfl) (p_nil 0 s0_a true false (by kernel_rfl) (by kernel_rfl) (by rw [Option.isNone_eq_false_iff.2 (Option.ne_none_iff_isSome.1 hn_4)]; rfl) (jkO ?_))
    refine jo_end (by kernel_rfl) ?_
    refine jx_then ?_
    refine jc_cond false (by kernel_rfl) (fun hc_6 => nomatch hc_6) (fun hc_6 => ?_)
    refine jc_skip ?_
    refine jx_then ?_
    refine jc_seq ?_
    refine jc_region ?_
    refine toO (by kernel_rfl) (p_a 0 [0] (by kernel_rfl) (fun b => by kernel_rfl) (fun b_7 => jkO ?_))
    refine jo_f [(0, 0)] (by kernel_rfl) ?_
    obtain ⟨hg_8, h⟩ := gd h
    refine toO (by kernel_rfl) (p_apn 0 0 (some b_7) 124 0 s0.length 0 3 16 s0_a encGWornPin ([] : List GWornPin) s0 [] (.agg #[(.int .i8 0), (.int .i8 0), (.int .i64 0)]) rfl rfl (by kernel_rfl) (by kernel_rfl) (by kernel_rfl) encGWornPin_len encGWornPin_cell (fun _ => ⟨Nat.le_refl _, by simp⟩) (fun e => nomatch e) (fun w hm => (hm.exRow s0_h List.not_mem_nil)) hg_8 (by kernel_rfl) (by kernel_rfl) (fun o_9 cap_10 sp_11 hs_12 ho_13 => jkO ?_))
    refine jo_f [(0, 0)] (by kernel_rfl) ?_
    refine jo_end (by kernel_rfl) ?_
    refine jx_then ?_
    refine jc_ret ?_
    obtain rfl := Option.some.inj h
    exact jx_ret [] (.slice (o_9.map fun b => ⟨b, 0, none⟩) ((([] : List GWornPin) ++ s0).length) cap_10) [] rfl (by kernel_rfl) (by kernel_rfl) (fun w hm => ⟨o_9, cap_10, sp_11, ((([] : List GWornPin) ++ s0).length), rfl, hs_12, ho_13, rfl, hm.pick [0] (by kernel_rfl) (by kernel_rfl)⟩)

/-! ### slices.Clone[[]int64,int64] -/
noncomputable def slices_Clone_int64 (s0 : List Int) : Option ((List Int)) := (if ([] : List Int).length + s0.length ≤ 4294967296 then some (([] : List Int) ++ s0) else none)
set_option maxRecDepth 100000 in
theorem slices_Clone_int64.calls (s0 : List Int) (w : World) (r : (List Int)) (s0_a : Option Addr) (s0_an : Nat) (s0_c : Nat) (s0_h : Rw w s0_a 1 encI64 s0) (s0_hn : s0.length = s0_an) (h : slices_Clone_int64 s0 = some r) :
    Calls Try.prog 166 #[(.slice s0_a s0_an s0_c)] w fun e w' => ∃ v, e = .returned v ∧ (∃ (o0 : Option Nat) (c0 : Nat) (s0 : List Value) (n0 : Nat), r.length = n0 ∧ (o0 ≠ none → n0 ≤ c0 ∧ s0.length = (c0 - n0) * 1) ∧ (o0 = none → r = [] ∧ c0 = 0) ∧ v = .slice (o0.map fun b => ⟨b, 0, none⟩) n0 c0 ∧ Mem w [] [⟨o0, 2, row encI64 r s0⟩] w') := by
  subst s0_hn
  rw [slices_Clone_int64] at h
  refine enter (args := [(.slice s0_a s0.length s0_c)]) Try.func166 rfl Try.ntmps166 (by kernel_rfl) (L := []) (W := []) (Mem.start w) ?_
  refine jc_seq ?_
  refine jc_region ?_
  refine jo_f [(0, 0)] (by kernel_rfl) ?_
  refine jo_end (by kernel_rfl) ?_
  refine jx_then ?_
  refine jc_seq ?_
  refine jc_seq ?_
  refine jc_region ?_
  refine jo_f [(0, 0)] (by kernel_rfl) ?_
  by_cases hn_4 : s0_a = none
  · have hx0 : s0 = [] := (nil_of s0_h hn_4)
    replace h : some [] = some r := by simpa [hx0] using h
    refine toO (by kernel_rfl) (p_nil 0 s0_a true true (by kernel_rfl) (by kernel_rfl) (by rw [hn_4]; rfl) (jkO ?_))
    refine jo_end (by kernel_rfl) ?_
    refine jx_then ?_
    refine jc_cond true (by kernel_rfl) (fun hc_5 => ?_) (fun hc_5 => nomatch hc_5)
    refine jc_seq ?_
    refine jc_region ?_
    refine jo_f [(0, 0)] (by kernel_rfl) ?_
    refine jo_end (by kernel_rfl) ?_
    refine jx_then ?_
    refine jc_ret ?_
    refine jx_thenr ?_
    obtain rfl := Option.some.inj h
    refine jx_ghost 2 encI64 ?_
    exact jx_ret [] (.slice none 0 0) [] rfl (by kernel_rfl) (by kernel_rfl) (fun w hm => ⟨none, 0, [], 0, rfl, (fun e => absurd rfl e), (fun _ => ⟨rfl, rfl⟩), rfl, hm.pick [0] (by kernel_rfl) (by kernel_rfl)⟩)
  · refine toO (by kernel_rfl) (p_nil 0 s0_a true false (by kernel_rfl) (by kernel_rfl) (by rw [Option.isNone_eq_false_iff.2 (Option.ne_none_iff_isSome.1 hn_4)]; rfl) (jkO ?_))
    refine jo_end (by kernel_rfl) ?_
    refine jx_then ?_
    refine jc_cond false (by kernel_rfl) (fun hc_6 => nomatch hc_6) (fun hc_6 => ?_)
    refine jc_skip ?_
    refine jx_then ?_
    refine jc_seq ?_
    refine jc_region ?_
    refine toO (by kernel_rfl) (p_a 0 [0] (by kernel_rfl) (fun b => by kernel_rfl) (fun b_7 => jkO ?_))
    refine jo_f [(0, 0)] (by kernel_rfl) ?_
    obtain ⟨hg_8, h⟩ := gd h
    refine toO (by kernel_rfl) (p_apn 0 0 (some b_7) 2 0 s0.length 0 1 8 s0_a encI64 ([] : List Int) s0 [] (.int .i64 0) rfl rfl (by kernel_rfl) (by kernel_rfl) (by kernel_rfl) encI64_len encI64_cell (fun _ => ⟨Nat.le_refl _, by simp⟩) (fun e => nomatch e) (fun w hm => (hm.exRow s0_h List.not_mem_nil)) hg_8 (by kernel_rfl) (by kernel_rfl) (fun o_9 cap_10 sp_11 hs_12 ho_13 => jkO ?_))
    refine jo_f [(0, 0)] (by kernel_rfl) ?_
    refine jo_end (by kernel_rfl) ?_
    refine jx_then ?_
    refine jc_ret ?_
    obtain rfl := Option.some.inj h
    exact jx_ret [] (.slice (o_9.map fun b => ⟨b, 0, none⟩) ((([] : List Int) ++ s0).length) cap_10) [] rfl (by kernel_rfl) (by kernel_rfl) (fun w hm => ⟨o_9, cap_10, sp_11, ((([] : List Int) ++ s0).length), rfl, hs_12, ho_13, rfl, hm.pick [0] (by kernel_rfl) (by kernel_rfl)⟩)

/-! ### (impl.Wear).own -/
noncomputable def impl_Wear_own (w0 : GWear) : Option (GWear) := (slices_Clone_WornPin w0.fPins).bind fun t_1 => (slices_Clone_int64 w0.fStrokes).bind fun t_2 => some (⟨t_1, t_2⟩ : GWear)
set_option maxRecDepth 100000 in
theorem impl_Wear_own.calls (w0 : GWear) (w : World) (r : GWear) (w0_fPins_a : Option Addr) (w0_fPins_an : Nat) (w0_fPins_c : Nat) (w0_fPins_h : Rw w w0_fPins_a 3 encGWornPin w0.fPins) (w0_fPins_hn : w0.fPins.length = w0_fPins_an) (w0_fStrokes_a : Option Addr) (w0_fStrokes_an : Nat) (w0_fStrokes_c : Nat) (w0_fStrokes_h : Rw w w0_fStrokes_a 1 encI64 w0.fStrokes) (w0_fStrokes_hn : w0.fStrokes.length = w0_fStrokes_an) (h : impl_Wear_own w0 = some r) :
    Calls Try.prog 115 #[(.agg #[(.slice w0_fPins_a w0_fPins_an w0_fPins_c), (.slice w0_fStrokes_a w0_fStrokes_an w0_fStrokes_c)])] w fun e w' => ∃ v, e = .returned v ∧ (∃ (o0 : Option Nat) (c0 : Nat) (s0 : List Value) (n0 : Nat), r.fPins.length = n0 ∧ (o0 ≠ none → n0 ≤ c0 ∧ s0.length = (c0 - n0) * 3) ∧ (o0 = none → r.fPins = [] ∧ c0 = 0) ∧ ∃ (o1 : Option Nat) (c1 : Nat) (s1 : List Value) (n1 : Nat), r.fStrokes.length = n1 ∧ (o1 ≠ none → n1 ≤ c1 ∧ s1.length = (c1 - n1) * 1) ∧ (o1 = none → r.fStrokes = [] ∧ c1 = 0) ∧ v = .agg #[.slice (o0.map fun b => ⟨b, 0, none⟩) n0 c0, .slice (o1.map fun b => ⟨b, 0, none⟩) n1 c1] ∧ Mem w [] [⟨o0, 124, row encGWornPin r.fPins s0⟩, ⟨o1, 2, row encI64 r.fStrokes s1⟩] w') := by
  subst w0_fPins_hn w0_fStrokes_hn
  rw [impl_Wear_own] at h
  refine enter (args := [(.agg #[(.slice w0_fPins_a w0.fPins.length w0_fPins_c), (.slice w0_fStrokes_a w0.fStrokes.length w0_fStrokes_c)])]) Try.func115 rfl Try.ntmps115 (by kernel_rfl) (L := []) (W := []) (Mem.start w) ?_
  refine jc_seq ?_
  refine jc_region ?_
  refine toO (by kernel_rfl) (p_a 0 [0] (by kernel_rfl) (fun b => by kernel_rfl) (fun b_1 => jkO ?_))
  refine toO (by kernel_rfl) (p_a 0 [0] (by kernel_rfl) (fun b => by kernel_rfl) (fun b_2 => jkO ?_))
  refine jo_end (by kernel_rfl) ?_
  refine jx_then ?_
  refine jc_seq ?_
  refine jc_draw [⟨some b_1, 52, [(.slice w0_fPins_a w0.fPins.length w0_fPins_c), (.slice w0_fStrokes_a w0.fStrokes.length w0_fStrokes_c)]⟩] 8 (by kernel_rfl) (by kernel_rfl) ?_
  refine jd_f [⟨0, 0, 0⟩, ⟨1, 0, 0⟩, ⟨3, 0, 0⟩, ⟨4, 0, 0⟩] 4 (by kernel_rfl) (by kernel_rfl) (fun w h => h.pick [0] (by kernel_rfl) (by kernel_rfl)) (by kernel_rfl) (by kernel_rfl) ?_
  obtain ⟨t_1, ht_15, h⟩ := bd h
  refine toD 2 (by kernel_rfl) (p_call 0 165 #[(.slice w0_fPins_a w0.fPins.length w0_fPins_c)] (by kernel_rfl) (by kernel_rfl) (fun w hm => slices_Clone_WornPin.calls w0.fPins w _ w0_fPins_a w0.fPins.length w0_fPins_c (hm.exRow w0_fPins_h List.not_mem_nil) rfl ht_15) ?_)
  rintro w v w' hm ⟨o_16, cap_17, sp_18, _, rfl, hs_19, ho_20, rfl, hm'⟩
  refine ⟨_, hm.app hm', jkD (fun w h => h.pick [0] (by kernel_rfl) (by kernel_rfl)) ?_⟩
  clear hm hm'
  obtain ⟨t_2, ht_21, h⟩ := bd h
  refine toD 5 (by kernel_rfl) (p_call 0 166 #[(.slice w0_fStrokes_a w0.fStrokes.length w0_fStrokes_c)] (by kernel_rfl) (by kernel_rfl) (fun w hm => slices_Clone_int64.calls w0.fStrokes w _ w0_fStrokes_a w0.fStrokes.length w0_fStrokes_c (hm.exRow w0_fStrokes_h List.not_mem_nil) rfl ht_21) ?_)
  rintro w v w' hm ⟨o_22, cap_23, sp_24, _, rfl, hs_25, ho_26, rfl, hm'⟩
  refine ⟨_, hm.app hm', jkD (fun w h => h.pick [0] (by kernel_rfl) (by kernel_rfl)) ?_⟩
  clear hm hm'
  refine jd_f [⟨6, 0, 0⟩] 1 (by kernel_rfl) (by kernel_rfl) (fun w h => h.pick [0] (by kernel_rfl) (by kernel_rfl)) (by kernel_rfl) (by kernel_rfl) ?_
  refine toD 7 (by kernel_rfl) (p_s 0 [1] (by kernel_rfl) (by kernel_rfl) (jkD (fun w h => h.pick [0] (by kernel_rfl) (by kernel_rfl)) ?_))
  refine jd_end (by kernel_rfl) ?_
  refine jx_then ?_
  refine jc_ret ?_
  obtain rfl := Option.some.inj h
  exact jx_ret [1] (.agg #[(.slice (o_16.map fun b => ⟨b, 0, none⟩) t_1.length cap_17), (.slice (o_22.map fun b => ⟨b, 0, none⟩) t_2.length cap_23)]) [(b_2, b_2), (b_2, b_2)] rfl (by kernel_rfl) (by kernel_rfl) (fun w hm => ⟨o_16, cap_17, sp_18, t_1.length, rfl, hs_19, ho_20, o_22, cap_23, sp_24, t_2.length, rfl, hs_25, ho_26, rfl, hm.pick [2, 3] (by kernel_rfl) (by kernel_rfl)⟩)
end Go.Proofs.Ytdnkjgmncfhejaa
