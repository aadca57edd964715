/- Functions of the program that the laws reach: a plain function each, and that the call comes to its answer if the plain function has one. Printed by a program. -/
import Derived.Test.YtdnkjgmncfhejaaT
import Derived.Test.YtdnkjgmncfhejaaM0
import Derived.Test.YtdnkjgmncfhejaaM3
import Derived.Test.YtdnkjgmncfhejaaM5
import Derived.Test.YtdnkjgmncfhejaaM6
import Derived.Test.YtdnkjgmncfhejaaM11
import Derived.Test.YtdnkjgmncfhejaaM13
import Derived.Test.YtdnkjgmncfhejaaM16
namespace Go.Proofs.Ytdnkjgmncfhejaa
open Eng
set_option linter.unusedVariables false

/-! ### spec.l02Pin -/
noncomputable def spec_l02Pin (d0 : Arr 96 Int) (step1 : Int) (track2 : Int) : Option (Bool) := (ix d0.1 step1).bind fun x_1 => (if 0 ≤ (u64 track2) then some ((Int.tmod (bShr .u32 x_1 (u64 track2)) 2) == 1) else none)
set_option maxRecDepth 100000 in
theorem spec_l02Pin.calls (d0 : Arr 96 Int) (step1 : Int) (track2 : Int) (w : World) (r : Bool) (d0_b : Nat) (hm0 : Mem w (bs [some d0_b]) [⟨(some d0_b), 58, row encU32 d0.1 []⟩] w) (h : spec_l02Pin d0 step1 track2 = some r) :
    Calls Try.prog 97 #[(.pointer (some ⟨d0_b, 0, none⟩)), (.int .i64 step1), (.int .i64 track2)] w fun e w' => ∃ v, e = .returned v ∧ (v = (.bool r) ∧ Mem w (bs [some d0_b]) [⟨(some d0_b), 58, row encU32 d0.1 []⟩] w') := by
  rw [spec_l02Pin] at h
  refine enter (args := [(.pointer (some ⟨d0_b, 0, none⟩)), (.int .i64 step1), (.int .i64 track2)]) Try.func97 rfl Try.ntmps97 (by kernel_rfl) (L := [⟨(some d0_b), 58, row encU32 d0.1 []⟩]) (W := bs [some d0_b]) hm0 ?_
  refine jc_seq ?_
  refine jc_region ?_
  refine jo_f [(0, 0)] (by kernel_rfl) ?_
  refine jo_end (by kernel_rfl) ?_
  refine jx_then ?_
  refine jc_seq ?_
  refine jc_region ?_
  refine jo_f [(0, 0), (0, 0), (0, 0)] (by kernel_rfl) ?_
  obtain ⟨x_1, hx_1, h⟩ := bd h
  refine toO (by kernel_rfl) (p_idx 0 (some ⟨d0_b, 0, none⟩) 96 step1 1 (by kernel_rfl) (by kernel_rfl) (ix_some hx_1).1 (ltn hx_1 d0.2) rfl (jkO ?_))
  refine toO (by kernel_rfl) (p_ld 0 (aB (some ⟨d0_b, 0, none⟩)) (aO (some ⟨d0_b, 0, none⟩) + step1.toNat * 1) false (encU32 x_1) (by kernel_rfl) (by kernel_rfl) (by kernel_rfl) (fun w hm => ((hm.ownRow (hh := 0) (o := (some d0_b)) (T := 58) (enc := encU32) (xs := d0.1) (sp := []) (by kernel_rfl) (fun e => nomatch e) encU32_len).at hx_1)) (jkO ?_))
  refine jo_f [(0, 0), (0, 0)] (by kernel_rfl) ?_
  obtain ⟨hg_2, h⟩ := gd h
  refine toO (by kernel_rfl) (p_shr 0 .u32 x_1 .u64 (u64 track2) (by kernel_rfl) (by kernel_rfl) hg_2 (jkO ?_))
  refine jo_f [(0, 0), (0, 0), (0, 0)] (by kernel_rfl) ?_
  refine jo_end (by kernel_rfl) ?_
  refine jx_then ?_
  refine jc_ret ?_
  obtain rfl := Option.some.inj h
  exact jx_ret [] (.bool ((Int.tmod (bShr .u32 x_1 (u64 track2)) 2) == 1)) [] rfl (by kernel_rfl) (by kernel_rfl) (fun w hm => ⟨rfl, hm.pick [0] (by kernel_rfl) (by kernel_rfl)⟩)

/-! ### spec.FreshWear -/
noncomputable def spec_FreshWear.k_3 (f0 : GFrame) (xs_2 : List GWornPin) : Option (GWear × Int) := some ((⟨xs_2, (List.replicate (f0.fHammers.length : Int).toNat 0)⟩ : GWear), 0)
noncomputable def spec_FreshWear.k_9 (i_5 : Int) (xs_8 : List GWornPin) : Option (((List GWornPin) × Int) ⊕ ((List GWornPin))) := some (.inl (xs_8, (w64 (i_5 + 1))))
noncomputable def spec_FreshWear.l_12 (f0 : GFrame) (d1 : Arr 96 Int) (i_5 : Int) : ((List GWornPin) × Int) → Option (((List GWornPin) × Int) ⊕ ((List GWornPin)))
  | (xs_10, i_11) => (if (decide (i_11 < (f0.fHammers.length : Int))) = true then (spec_l02Pin d1 i_5 i_11).bind fun t_14 => (if t_14 = true then (if xs_10.length + [(⟨(w8 i_5), (w8 i_11), 0⟩ : GWornPin)].length ≤ 4294967296 then some (.inl ((xs_10 ++ [(⟨(w8 i_5), (w8 i_11), 0⟩ : GWornPin)]), (w64 (i_11 + 1)))) else none) else some (.inl (xs_10, (w64 (i_11 + 1))))) else some (.inr xs_10))
noncomputable def spec_FreshWear.l_6 (f0 : GFrame) (d1 : Arr 96 Int) : ((List GWornPin) × Int) → Option (((List GWornPin) × Int) ⊕ ((List GWornPin)))
  | (xs_4, i_5) => (if (decide (i_5 < (w64 f0.fSteps))) = true then (loop (spec_FreshWear.l_12 f0 d1 i_5) (xs_4, 0)).bind fun t_13 => spec_FreshWear.k_9 i_5 t_13 else some (.inr xs_4))
noncomputable def spec_FreshWear (f0 : GFrame) (d1 : Arr 96 Int) : Option (GWear × Int) := (spec_l02Asked f0 d1).bind fun t_1 => (if (t_1 != 0) = true then some ((⟨[], []⟩ : GWear), t_1) else (if 0 ≤ (f0.fHammers.length : Int) ∧ (f0.fHammers.length : Int) ≤ 17592186044416 then (loop (spec_FreshWear.l_6 f0 d1) ([], 0)).bind fun t_7 => spec_FreshWear.k_3 f0 t_7 else none))
set_option maxRecDepth 100000 in
theorem spec_FreshWear.calls (f0 : GFrame) (d1 : Arr 96 Int) (w : World) (r : GWear × Int) (f0_fHammers_a : Option Addr) (f0_fHammers_an : Nat) (f0_fHammers_c : Nat) (f0_fHammers_h : Rw w f0_fHammers_a 2 encGHammer f0.fHammers) (f0_fHammers_hn : f0.fHammers.length = f0_fHammers_an) (h : spec_FreshWear f0 d1 = some r) :
    Calls Try.prog 35 #[(.agg #[(.int .i16 f0.fSteps), (.slice f0_fHammers_a f0_fHammers_an f0_fHammers_c)]), (.agg (row encU32 d1.1 []).toArray)] w fun e w' => ∃ v, e = .returned v ∧ (∃ (o0 : Option Nat) (c0 : Nat) (s0 : List Value) (n0 : Nat), r.1.fPins.length = n0 ∧ (o0 ≠ none → n0 ≤ c0 ∧ s0.length = (c0 - n0) * 3) ∧ (o0 = none → r.1.fPins = [] ∧ c0 = 0) ∧ ∃ (o1 : Option Nat) (c1 : Nat) (s1 : List Value) (n1 : Nat), r.1.fStrokes.length = n1 ∧ (o1 ≠ none → n1 ≤ c1 ∧ s1.length = (c1 - n1) * 1) ∧ (o1 = none → r.1.fStrokes = [] ∧ c1 = 0) ∧ v = .tuple #[.agg #[.slice (o0.map fun b => ⟨b, 0, none⟩) n0 c0, .slice (o1.map fun b => ⟨b, 0, none⟩) n1 c1], (.int .i64 r.2)] ∧ Mem w [] [⟨o0, 124, row encGWornPin r.1.fPins s0⟩, ⟨o1, 2, row encI64 r.1.fStrokes s1⟩] w') := by
  subst f0_fHammers_hn
  rw [spec_FreshWear] at h
  refine enter (args := [(.agg #[(.int .i16 f0.fSteps), (.slice f0_fHammers_a f0.fHammers.length f0_fHammers_c)]), (.agg (row encU32 d1.1 []).toArray)]) Try.func35 rfl Try.ntmps35 (by kernel_rfl) (L := []) (W := []) (Mem.start w) ?_
  refine jc_seq ?_
  refine jc_region ?_
  refine toO (by kernel_rfl) (p_a 0 [0] (by kernel_rfl) (fun b => by kernel_rfl) (fun b_1 => jkO ?_))
  refine toO (by kernel_rfl) (p_a 0 [0] (by kernel_rfl) (fun b => by kernel_rfl) (fun b_2 => jkO ?_))
  refine toO (by kernel_rfl) (p_a 0 [0] (by kernel_rfl) (fun b => by kernel_rfl) (fun b_3 => jkO ?_))
  refine jo_f [(0, 0)] (by kernel_rfl) ?_
  refine jo_end (by kernel_rfl) ?_
  refine jx_then ?_
  refine jc_seq ?_
  refine jc_seq ?_
  refine jc_region ?_
  obtain ⟨t_1, ht_6, h⟩ := bd h
  refine toO (by kernel_rfl) (p_call 0 96 #[(.pointer (some ⟨b_1, 0, none⟩)), (.pointer (some ⟨b_2, 0, none⟩))] (by kernel_rfl) (by kernel_rfl) (fun w hm => spec_l02Asked.calls f0 d1 w _ f0_fHammers_a f0.fHammers.length f0_fHammers_c (hm.exRow f0_fHammers_h List.not_mem_nil) rfl b_1 b_2 (hm.pass (N := [⟨some b_1, 35, [(.int .i16 f0.fSteps), (.slice f0_fHammers_a f0.fHammers.length f0_fHammers_c)]⟩, ⟨(some b_2), 58, row encU32 d1.1 []⟩]) [0, 1] (by kernel_rfl) (by kernel_rfl)) (hm.exApart (N := [⟨some b_1, 35, [(.int .i16 f0.fSteps), (.slice f0_fHammers_a f0.fHammers.length f0_fHammers_c)]⟩, ⟨(some b_2), 58, row encU32 d1.1 []⟩]) f0_fHammers_h (fun _ => List.not_mem_nil) [0, 1] (by kernel_rfl)) ht_6) ?_)
  rintro w v w' hm ⟨rfl, hm'⟩
  refine ⟨_, hm.appW (ps := [(0, ⟨some b_1, 35, [(.int .i16 f0.fSteps), (.slice f0_fHammers_a f0.fHammers.length f0_fHammers_c)]⟩), (1, ⟨(some b_2), 58, row encU32 d1.1 []⟩)]) (N := []) hm' (by kernel_rfl) (by kernel_rfl), jkO ?_⟩
  clear hm hm'
  refine jo_f [(0, 0)] (by kernel_rfl) ?_
  refine jo_end (by kernel_rfl) ?_
  refine jx_then ?_
  refine jc_seq ?_
  refine jc_region ?_
  refine jo_f [(0, 0), (0, 0)] (by kernel_rfl) ?_
  refine jo_end (by kernel_rfl) ?_
  refine jx_then ?_
  refine jc_cond (t_1 != 0) (by kernel_rfl) (fun hc_7 => ?_) (fun hc_7 => ?_)
  · replace h := ifT hc_7 h
    refine jc_seq ?_
    refine jc_region ?_
    refine jo_f [(0, 0), (0, 0)] (by kernel_rfl) ?_
    refine toO (by kernel_rfl) (p_s 0 [2] (by kernel_rfl) (by kernel_rfl) (jkO ?_))
    refine jo_f [(0, 0)] (by kernel_rfl) ?_
    refine jo_end (by kernel_rfl) ?_
    refine jx_then ?_
    refine jc_ret ?_
    refine jx_thenr ?_
    obtain rfl := Option.some.inj h
    refine jx_ghost 124 encGWornPin ?_
    refine jx_ghost 2 encI64 ?_
    exact jx_ret [2] (.tuple #[(.agg #[(.slice none 0 0), (.slice none 0 0)]), (.int .i64 t_1)]) [(b_3, b_3), (b_3, b_3)] rfl (by kernel_rfl) (by kernel_rfl) (fun w hm => ⟨none, 0, [], 0, rfl, (fun e => absurd rfl e), (fun _ => ⟨rfl, rfl⟩), none, 0, [], 0, rfl, (fun e => absurd rfl e), (fun _ => ⟨rfl, rfl⟩), rfl, hm.pick [3, 4] (by kernel_rfl) (by kernel_rfl)⟩)
  · replace h := ifF hc_7 h
    refine jc_skip ?_
    refine jx_then ?_
    refine jc_seq ?_
    refine jc_region ?_
    refine jo_f [(0, 0), (0, 0), (0, 0)] (by kernel_rfl) ?_
    obtain ⟨hg_1358, h⟩ := gd h
    refine toO (by kernel_rfl) (p_mk 0 2 (f0.fHammers.length : Int) 1 8 encI64 0 (by kernel_rfl) (by kernel_rfl) hg_1358.1 (by omega) (by kernel_rfl) (fun b_8 => jkO ?_))
    refine jo_f [(0, 0)] (by kernel_rfl) ?_
    refine toO (by kernel_rfl) (p_a 0 [0] (by kernel_rfl) (fun b => by kernel_rfl) (fun b_9 => jkO ?_))
    refine toO (by kernel_rfl) (p_s 0 [4] (by kernel_rfl) (by kernel_rfl) (jkO ?_))
    refine jo_end (by kernel_rfl) ?_
    refine jx_then ?_
    refine jc_seq ?_
    refine jc_seq ?_
    refine jc_region ?_
    refine jo_f [(0, 0)] (by kernel_rfl) ?_
    refine jo_end (by kernel_rfl) ?_
    refine jx_then ?_
    refine jc_meet (fun (j : (List GWornPin) × (Option Nat) × Nat × (List Value) × Nat) => match j with | ⟨xs_2, o_1018, cap_1019, sp_1020, n_1021⟩ => spec_FreshWear.k_3 f0 xs_2 = some r ∧ (xs_2.length = n_1021) ∧ ((o_1018 ≠ none → n_1021 ≤ cap_1019 ∧ sp_1020.length = (cap_1019 - n_1021) * 3)) ∧ ((o_1018 = none → xs_2 = [] ∧ cap_1019 = 0))) (fun (j : (List GWornPin) × (Option Nat) × Nat × (List Value) × Nat) => match j with | ⟨xs_2, o_1018, cap_1019, sp_1020, n_1021⟩ => [(4, [], (.pointer (some ⟨b_3, 0, none⟩))), (5, [], (.int .i64 0)), (7, [], (.pointer (some ⟨b_9, 0, none⟩)))]) (fun (j : (List GWornPin) × (Option Nat) × Nat × (List Value) × Nat) => match j with | ⟨xs_2, o_1018, cap_1019, sp_1020, n_1021⟩ => [⟨some b_1, 35, [(.int .i16 f0.fSteps), (.slice f0_fHammers_a f0.fHammers.length f0_fHammers_c)]⟩, ⟨(some b_2), 58, row encU32 d1.1 []⟩, ⟨some b_3, 52, [(.slice none 0 0), (.slice none 0 0)]⟩, ⟨(some b_8), 2, row encI64 (List.replicate (f0.fHammers.length : Int).toNat 0) []⟩, ⟨some b_9, 52, [(.slice (o_1018.map fun b => ⟨b, 0, none⟩) n_1021 cap_1019), (.slice (some ⟨b_8, 0, none⟩) ((f0.fHammers.length : Int).toNat) ((f0.fHammers.length : Int).toNat))]⟩, ⟨o_1018, 124, row encGWornPin xs_2 sp_1020⟩]) ?_ ?_
    · refine jc_block ?_
      obtain ⟨t_7, ht_1357, hr_1248⟩ := bd h
      refine jc_ghost 124 encGWornPin ?_
      refine jc_loop (fun (s : (List GWornPin) × Int) (x : (Option Nat) × Nat × (List Value) × Nat) => match s, x with | ⟨xs_4, i_5⟩, ⟨o_1242, cap_1243, sp_1244, n_1245⟩ => (xs_4.length = n_1245) ∧ ((o_1242 ≠ none → n_1245 ≤ cap_1243 ∧ sp_1244.length = (cap_1243 - n_1245) * 3)) ∧ ((o_1242 = none → xs_4 = [] ∧ cap_1243 = 0))) (fun (s : (List GWornPin) × Int) (x : (Option Nat) × Nat × (List Value) × Nat) => match s, x with | ⟨xs_4, i_5⟩, ⟨o_1242, cap_1243, sp_1244, n_1245⟩ => [(2, [], (.pointer (some ⟨b_1, 0, none⟩))), (3, [], (.pointer (some ⟨b_2, 0, none⟩))), (4, [], (.pointer (some ⟨b_3, 0, none⟩))), (5, [], (.int .i64 0)), (7, [], (.pointer (some ⟨b_9, 0, none⟩))), (8, [], (.int .i64 i_5))]) (fun (s : (List GWornPin) × Int) (x : (Option Nat) × Nat × (List Value) × Nat) => match s, x with | ⟨xs_4, i_5⟩, ⟨o_1242, cap_1243, sp_1244, n_1245⟩ => [⟨some b_1, 35, [(.int .i16 f0.fSteps), (.slice f0_fHammers_a f0.fHammers.length f0_fHammers_c)]⟩, ⟨(some b_2), 58, row encU32 d1.1 []⟩, ⟨some b_3, 52, [(.slice none 0 0), (.slice none 0 0)]⟩, ⟨(some b_8), 2, row encI64 (List.replicate (f0.fHammers.length : Int).toNat 0) []⟩, ⟨some b_9, 52, [(.slice (o_1242.map fun b => ⟨b, 0, none⟩) n_1245 cap_1243), (.slice (some ⟨b_8, 0, none⟩) ((f0.fHammers.length : Int).toNat) ((f0.fHammers.length : Int).toNat))]⟩, ⟨o_1242, 124, row encGWornPin xs_4 sp_1244⟩]) ht_1357 ⟨none, 0, [], 0⟩ ⟨rfl, (fun e => absurd rfl e), (fun _ => ⟨rfl, rfl⟩)⟩ (by kernel_rfl) [0, 1, 2, 3, 4, 5] (by kernel_rfl) (by kernel_rfl) ?_
      rintro ⟨xs_4, i_5⟩ ⟨o_1242, cap_1243, sp_1244, n_1245⟩ y_1249 ⟨rfl, hs_1246, ho_1247⟩ h
      rw [spec_FreshWear.l_6] at h
      refine jc_seq ?_
      refine jc_seq ?_
      refine jc_region ?_
      refine jo_f [(0, 0), (0, 0), (0, 0), (0, 0), (0, 0)] (by kernel_rfl) ?_
      refine jo_end (by kernel_rfl) ?_
      refine jx_then ?_
      refine jc_cond (decide (i_5 < (w64 f0.fSteps))) (by kernel_rfl) (fun hc_1251 => ?_) (fun hc_1251 => ?_)
      · replace h := ifT hc_1251 h
        refine jc_skip ?_
        refine jx_then ?_
        refine jc_seq ?_
        refine jc_block ?_
        refine jc_seq ?_
        refine jc_region ?_
        refine jo_f [(0, 0)] (by kernel_rfl) ?_
        refine jo_end (by kernel_rfl) ?_
        refine jx_then ?_
        refine jc_meet (fun (j : (List GWornPin) × (Option Nat) × Nat × (List Value) × Nat) => match j with | ⟨xs_8, o_1301, cap_1302, sp_1303, n_1304⟩ => spec_FreshWear.k_9 i_5 xs_8 = some y_1249 ∧ (xs_8.length = n_1304) ∧ ((o_1301 ≠ none → n_1304 ≤ cap_1302 ∧ sp_1303.length = (cap_1302 - n_1304) * 3)) ∧ ((o_1301 = none → xs_8 = [] ∧ cap_1302 = 0))) (fun (j : (List GWornPin) × (Option Nat) × Nat × (List Value) × Nat) => match j with | ⟨xs_8, o_1301, cap_1302, sp_1303, n_1304⟩ => [(2, [], (.pointer (some ⟨b_1, 0, none⟩))), (3, [], (.pointer (some ⟨b_2, 0, none⟩))), (4, [], (.pointer (some ⟨b_3, 0, none⟩))), (5, [], (.int .i64 0)), (7, [], (.pointer (some ⟨b_9, 0, none⟩))), (8, [], (.int .i64 i_5))]) (fun (j : (List GWornPin) × (Option Nat) × Nat × (List Value) × Nat) => match j with | ⟨xs_8, o_1301, cap_1302, sp_1303, n_1304⟩ => [⟨some b_1, 35, [(.int .i16 f0.fSteps), (.slice f0_fHammers_a f0.fHammers.length f0_fHammers_c)]⟩, ⟨(some b_2), 58, row encU32 d1.1 []⟩, ⟨some b_3, 52, [(.slice none 0 0), (.slice none 0 0)]⟩, ⟨(some b_8), 2, row encI64 (List.replicate (f0.fHammers.length : Int).toNat 0) []⟩, ⟨some b_9, 52, [(.slice (o_1301.map fun b => ⟨b, 0, none⟩) n_1304 cap_1302), (.slice (some ⟨b_8, 0, none⟩) ((f0.fHammers.length : Int).toNat) ((f0.fHammers.length : Int).toNat))]⟩, ⟨o_1301, 124, row encGWornPin xs_8 sp_1303⟩]) ?_ ?_
        · refine jc_block ?_
          obtain ⟨t_13, ht_1355, hr_1341⟩ := bd h
          refine jc_loop (fun (s : (List GWornPin) × Int) (x : (Option Nat) × Nat × (List Value) × Nat) => match s, x with | ⟨xs_10, i_11⟩, ⟨o_1335, cap_1336, sp_1337, n_1338⟩ => (xs_10.length = n_1338) ∧ ((o_1335 ≠ none → n_1338 ≤ cap_1336 ∧ sp_1337.length = (cap_1336 - n_1338) * 3)) ∧ ((o_1335 = none → xs_10 = [] ∧ cap_1336 = 0))) (fun (s : (List GWornPin) × Int) (x : (Option Nat) × Nat × (List Value) × Nat) => match s, x with | ⟨xs_10, i_11⟩, ⟨o_1335, cap_1336, sp_1337, n_1338⟩ => [(2, [], (.pointer (some ⟨b_1, 0, none⟩))), (3, [], (.pointer (some ⟨b_2, 0, none⟩))), (4, [], (.pointer (some ⟨b_3, 0, none⟩))), (5, [], (.int .i64 0)), (7, [], (.pointer (some ⟨b_9, 0, none⟩))), (8, [], (.int .i64 i_5)), (9, [], (.int .i64 i_11))]) (fun (s : (List GWornPin) × Int) (x : (Option Nat) × Nat × (List Value) × Nat) => match s, x with | ⟨xs_10, i_11⟩, ⟨o_1335, cap_1336, sp_1337, n_1338⟩ => [⟨some b_1, 35, [(.int .i16 f0.fSteps), (.slice f0_fHammers_a f0.fHammers.length f0_fHammers_c)]⟩, ⟨(some b_2), 58, row encU32 d1.1 []⟩, ⟨some b_3, 52, [(.slice none 0 0), (.slice none 0 0)]⟩, ⟨(some b_8), 2, row encI64 (List.replicate (f0.fHammers.length : Int).toNat 0) []⟩, ⟨some b_9, 52, [(.slice (o_1335.map fun b => ⟨b, 0, none⟩) n_1338 cap_1336), (.slice (some ⟨b_8, 0, none⟩) ((f0.fHammers.length : Int).toNat) ((f0.fHammers.length : Int).toNat))]⟩, ⟨o_1335, 124, row encGWornPin xs_10 sp_1337⟩]) ht_1355 ⟨o_1242, cap_1243, sp_1244, xs_4.length⟩ ⟨rfl, hs_1246, ho_1247⟩ (by kernel_rfl) [0, 1, 2, 3, 4, 5] (by kernel_rfl) (by kernel_rfl) ?_
          rintro ⟨xs_10, i_11⟩ ⟨o_1335, cap_1336, sp_1337, n_1338⟩ y_1342 ⟨rfl, hs_1339, ho_1340⟩ h
          rw [spec_FreshWear.l_12] at h
          refine jc_seq ?_
          refine jc_seq ?_
          refine jc_region ?_
          refine jo_f [(0, 0), (0, 0), (0, 0), (0, 0), (0, 0)] (by kernel_rfl) ?_
          refine jo_end (by kernel_rfl) ?_
          refine jx_then ?_
          refine jc_cond (decide (i_11 < (f0.fHammers.length : Int))) (by kernel_rfl) (fun hc_1344 => ?_) (fun hc_1344 => ?_)
          · replace h := ifT hc_1344 h
            refine jc_skip ?_
            refine jx_then ?_
            refine jc_seq ?_
            refine jc_block ?_
            refine jc_seq ?_
            refine jc_region ?_
            refine jo_f [(0, 0), (0, 0)] (by kernel_rfl) ?_
            obtain ⟨t_14, ht_1345, h⟩ := bd h
            refine toO (by kernel_rfl) (p_call 0 97 #[(.pointer (some ⟨b_2, 0, none⟩)), (.int .i64 i_5), (.int .i64 i_11)] (by kernel_rfl) (by kernel_rfl) (fun w hm => spec_l02Pin.calls d1 i_5 i_11 w _ b_2 (hm.pass (N := [⟨(some b_2), 58, row encU32 d1.1 []⟩]) [1] (by kernel_rfl) (by kernel_rfl)) ht_1345) ?_)
            rintro w v w' hm ⟨rfl, hm'⟩
            refine ⟨_, hm.appW (ps := [(1, ⟨(some b_2), 58, row encU32 d1.1 []⟩)]) (N := []) hm' (by kernel_rfl) (by kernel_rfl), jkO ?_⟩
            clear hm hm'
            refine jo_end (by kernel_rfl) ?_
            refine jx_then ?_
            refine jc_cond t_14 (by kernel_rfl) (fun hc_1346 => ?_) (fun hc_1346 => ?_)
            · replace h := ifT hc_1346 h
              refine jc_region ?_
              refine jo_f [(0, 0), (4, 0), (0, 0), (0, 0), (0, 0), (0, 0), (0, 0)] (by kernel_rfl) ?_
              refine toO (by kernel_rfl) (p_a 0 [0] (by kernel_rfl) (fun b => by kernel_rfl) (fun b_1347 => jkO ?_))
              obtain ⟨hg_1348, h⟩ := gd h
              refine toO (by kernel_rfl) (p_apn 0 5 o_1335 124 xs_10.length 1 cap_1336 3 16 (some ⟨b_1347, 0, none⟩) encGWornPin xs_10 [(⟨(w8 i_5), (w8 i_11), 0⟩ : GWornPin)] sp_1337 (.agg #[(.int .i8 0), (.int .i8 0), (.int .i64 0)]) rfl rfl (by kernel_rfl) (by kernel_rfl) (by kernel_rfl) encGWornPin_len encGWornPin_cell hs_1339 ho_1340 (fun w hm => (hm.ownRow (hh := 6) (o := (some b_1347)) (T := 124) (enc := encGWornPin) (xs := [(⟨(w8 i_5), (w8 i_11), 0⟩ : GWornPin)]) (sp := []) (by kernel_rfl) (fun e => nomatch e) encGWornPin_len)) hg_1348 (by kernel_rfl) (by kernel_rfl) (fun o_1349 cap_1350 sp_1351 hs_1352 ho_1353 => jkO ?_))
              refine jo_f [(0, 0)] (by kernel_rfl) ?_
              refine toO (by kernel_rfl) (p_s 0 [4] (by kernel_rfl) (by kernel_rfl) (jkO ?_))
              refine jo_end (by kernel_rfl) ?_
              refine jx_inn ?_
              refine jx_then ?_
              refine jc_region ?_
              refine jo_f [(0, 0), (0, 0), (0, 0)] (by kernel_rfl) ?_
              refine jo_end (by kernel_rfl) ?_
              exact jx_back ((xs_10 ++ [(⟨(w8 i_5), (w8 i_11), 0⟩ : GWornPin)]), (w64 (i_11 + 1))) ⟨o_1349, cap_1350, sp_1351, (xs_10 ++ [(⟨(w8 i_5), (w8 i_11), 0⟩ : GWornPin)]).length⟩ (Option.some.inj h).symm ⟨rfl, hs_1352, ho_1353⟩ [0, 1, 2, 3, 4, 5] (by kernel_rfl) (by kernel_rfl) (by kernel_rfl)
            · replace h := ifF hc_1346 h
              refine jc_skip ?_
              refine jx_inn ?_
              refine jx_then ?_
              refine jc_region ?_
              refine jo_f [(0, 0), (0, 0), (0, 0)] (by kernel_rfl) ?_
              refine jo_end (by kernel_rfl) ?_
              exact jx_back (xs_10, (w64 (i_11 + 1))) ⟨o_1335, cap_1336, sp_1337, xs_10.length⟩ (Option.some.inj h).symm ⟨rfl, hs_1339, ho_1340⟩ [0, 1, 2, 3, 4, 5] (by kernel_rfl) (by kernel_rfl) (by kernel_rfl)
          · replace h := ifF hc_1344 h
            refine jc_exit ?_
            refine jx_thenx ?_
            refine jx_leave xs_10 (Option.some.inj h).symm (fun e_1354 => ?_)
            subst e_1354
            refine jx_ine ?_
            exact jx_meet ⟨xs_10, o_1335, cap_1336, sp_1337, xs_10.length⟩ ⟨hr_1341, rfl, hs_1339, ho_1340⟩ (by kernel_rfl) [0, 1, 2, 3, 4, 5] (by kernel_rfl) (by kernel_rfl)
        · rintro ⟨xs_8, o_1301, cap_1302, sp_1303, n_1304⟩ ⟨h, rfl, hs_1305, ho_1306⟩
          replace h : spec_FreshWear.k_9 i_5 xs_8 = some y_1249 := h
          rw [spec_FreshWear.k_9] at h
          refine jx_inn ?_
          refine jx_then ?_
          refine jc_region ?_
          refine jo_f [(0, 0), (0, 0), (0, 0)] (by kernel_rfl) ?_
          refine jo_end (by kernel_rfl) ?_
          exact jx_back (xs_8, (w64 (i_5 + 1))) ⟨o_1301, cap_1302, sp_1303, xs_8.length⟩ (Option.some.inj h).symm ⟨rfl, hs_1305, ho_1306⟩ [0, 1, 2, 3, 4, 5] (by kernel_rfl) (by kernel_rfl) (by kernel_rfl)
      · replace h := ifF hc_1251 h
        refine jc_exit ?_
        refine jx_thenx ?_
        refine jx_leave xs_4 (Option.some.inj h).symm (fun e_1356 => ?_)
        subst e_1356
        refine jx_ine ?_
        exact jx_meet ⟨xs_4, o_1242, cap_1243, sp_1244, xs_4.length⟩ ⟨hr_1248, rfl, hs_1246, ho_1247⟩ (by kernel_rfl) [0, 1, 2, 3, 4, 5] (by kernel_rfl) (by kernel_rfl)
    · rintro ⟨xs_2, o_1018, cap_1019, sp_1020, n_1021⟩ ⟨h, rfl, hs_1022, ho_1023⟩
      replace h : spec_FreshWear.k_3 f0 xs_2 = some r := h
      rw [spec_FreshWear.k_3] at h
      refine jx_then ?_
      refine jc_seq ?_
      refine jc_region ?_
      refine jo_f [(4, 0)] (by kernel_rfl) ?_
      refine toO (by kernel_rfl) (p_s 0 [2] (by kernel_rfl) (by kernel_rfl) (jkO ?_))
      refine jo_f [(0, 0)] (by kernel_rfl) ?_
      refine jo_end (by kernel_rfl) ?_
      refine jx_then ?_
      refine jc_ret ?_
      obtain rfl := Option.some.inj h
      exact jx_ret [2] (.tuple #[(.agg #[(.slice (o_1018.map fun b => ⟨b, 0, none⟩) xs_2.length cap_1019), (.slice (some ⟨b_8, 0, none⟩) ((f0.fHammers.length : Int).toNat) ((f0.fHammers.length : Int).toNat))]), (.int .i64 0)]) [(b_3, b_3), (b_3, b_3)] rfl (by kernel_rfl) (by kernel_rfl) (fun w hm => ⟨o_1018, cap_1019, sp_1020, xs_2.length, rfl, hs_1022, ho_1023, (some b_8), ((f0.fHammers.length : Int).toNat), [], ((f0.fHammers.length : Int).toNat), List.length_replicate, (fun _ => ⟨Nat.le_refl _, by simp⟩), (fun e => nomatch e), rfl, hm.pick [5, 3] (by kernel_rfl) (by kernel_rfl)⟩)

/-! ### impl.FreshWear$1 -/
noncomputable def impl_FreshWear_1 (step0 : Int) (track1 : Int) (p2 : GWear) : Option (GWear) := (if p2.fPins.length + [(⟨(w8 step0), (w8 track1), 0⟩ : GWornPin)].length ≤ 4294967296 then some (⟨(p2.fPins ++ [(⟨(w8 step0), (w8 track1), 0⟩ : GWornPin)]), p2.fStrokes⟩ : GWear) else none)
set_option maxRecDepth 100000 in
theorem impl_FreshWear_1.calls (step0 : Int) (track1 : Int) (p2 : GWear) (w : World) (r : GWear) (p2_fStrokes_a : Option Addr) (p2_fStrokes_an : Nat) (p2_fStrokes_c : Nat) (p2_fStrokes_h : Rw w p2_fStrokes_a 1 encI64 p2.fStrokes) (p2_fStrokes_hn : p2.fStrokes.length = p2_fStrokes_an) (p2_b : Nat) (p2_fPins_o : Option Nat) (p2_fPins_on : Nat) (p2_fPins_c : Nat) (p2_fPins_sp : List Value) (p2_fPins_hn : p2.fPins.length = p2_fPins_on) (p2_fPins_hs : p2_fPins_o ≠ none → p2_fPins_on ≤ p2_fPins_c ∧ p2_fPins_sp.length = (p2_fPins_c - p2_fPins_on) * 3) (p2_fPins_ho : p2_fPins_o = none → p2.fPins = [] ∧ p2_fPins_c = 0) (hm0 : Mem w (bs [some p2_b, p2_fPins_o]) [⟨some p2_b, 52, [(.slice (p2_fPins_o.map fun b => ⟨b, 0, none⟩) p2_fPins_on p2_fPins_c), (.slice p2_fStrokes_a p2_fStrokes_an p2_fStrokes_c)]⟩, ⟨p2_fPins_o, 124, row encGWornPin p2.fPins p2_fPins_sp⟩] w) (p2_fStrokes_ha : p2.fStrokes ≠ [] → aB p2_fStrokes_a ∉ bs [some p2_b, p2_fPins_o]) (h : impl_FreshWear_1 step0 track1 p2 = some r) :
    Calls Try.prog 100 #[(.int .i64 step0), (.int .i64 track1), (.pointer (some ⟨p2_b, 0, none⟩))] w fun e w' => ∃ v, e = .returned v ∧ (∃ (mo0 : Option Nat) (mc0 : Nat) (ms0 : List Value) (mn0 : Nat), r.fPins.length = mn0 ∧ (mo0 ≠ none → mn0 ≤ mc0 ∧ ms0.length = (mc0 - mn0) * 3) ∧ (mo0 = none → r.fPins = [] ∧ mc0 = 0) ∧ v = .tuple #[] ∧ Mem w (bs [some p2_b, p2_fPins_o]) [⟨some p2_b, 52, [(.slice (mo0.map fun b => ⟨b, 0, none⟩) mn0 mc0), (.slice p2_fStrokes_a p2_fStrokes_an p2_fStrokes_c)]⟩, ⟨mo0, 124, row encGWornPin r.fPins ms0⟩] w') := by
  subst p2_fStrokes_hn p2_fPins_hn
  rw [impl_FreshWear_1] at h
  refine enter (args := [(.int .i64 step0), (.int .i64 track1), (.pointer (some ⟨p2_b, 0, none⟩))]) Try.func100 rfl Try.ntmps100 (by kernel_rfl) (L := [⟨some p2_b, 52, [(.slice (p2_fPins_o.map fun b => ⟨b, 0, none⟩) p2.fPins.length p2_fPins_c), (.slice p2_fStrokes_a p2.fStrokes.length p2_fStrokes_c)]⟩, ⟨p2_fPins_o, 124, row encGWornPin p2.fPins p2_fPins_sp⟩]) (W := bs [some p2_b, p2_fPins_o]) hm0 ?_
  refine jc_region ?_
  refine jo_f [(0, 0), (0, 0), (0, 0), (0, 0), (0, 0), (0, 0), (0, 0)] (by kernel_rfl) ?_
  refine toO (by kernel_rfl) (p_a 0 [0] (by kernel_rfl) (fun b => by kernel_rfl) (fun b_1 => jkO ?_))
  obtain ⟨hg_2, h⟩ := gd h
  refine toO (by kernel_rfl) (p_apn 0 1 p2_fPins_o 124 p2.fPins.length 1 p2_fPins_c 3 16 (some ⟨b_1, 0, none⟩) encGWornPin p2.fPins [(⟨(w8 step0), (w8 track1), 0⟩ : GWornPin)] p2_fPins_sp (.agg #[(.int .i8 0), (.int .i8 0), (.int .i64 0)]) rfl rfl (by kernel_rfl) (by kernel_rfl) (by kernel_rfl) encGWornPin_len encGWornPin_cell p2_fPins_hs p2_fPins_ho (fun w hm => (hm.ownRow (hh := 2) (o := (some b_1)) (T := 124) (enc := encGWornPin) (xs := [(⟨(w8 step0), (w8 track1), 0⟩ : GWornPin)]) (sp := []) (by kernel_rfl) (fun e => nomatch e) encGWornPin_len)) hg_2 (by kernel_rfl) (by kernel_rfl) (fun o_3 cap_4 sp_5 hs_6 ho_7 => jkO ?_))
  refine jo_f [(0, 0)] (by kernel_rfl) ?_
  refine toO (by kernel_rfl) (p_s 0 [0] (by kernel_rfl) (by kernel_rfl) (jkO ?_))
  refine jo_end (by kernel_rfl) ?_
  refine jx_fall ?_
  obtain rfl := Option.some.inj h
  exact jx_ret [] (.tuple #[]) [] rfl (by kernel_rfl) (by kernel_rfl) (fun w hm => ⟨o_3, cap_4, sp_5, ((p2.fPins ++ [(⟨(w8 step0), (w8 track1), 0⟩ : GWornPin)]).length), rfl, hs_6, ho_7, rfl, hm.pick [0, 1] (by kernel_rfl) (by kernel_rfl)⟩)

/-! ### (impl.Frame).pins -/
noncomputable def impl_Frame_pins_at_impl_FreshWear_1.k_2 (g2c0 : GWear) (xs_1 : List GWornPin) : Option (GWear) := some (⟨xs_1, g2c0.fStrokes⟩ : GWear)
noncomputable def impl_Frame_pins_at_impl_FreshWear_1.k_9 (i_4 : Int) (xs_8 : List GWornPin) : Option (((List GWornPin) × Int) ⊕ ((List GWornPin))) := some (.inl (xs_8, (w64 (i_4 + 1))))
noncomputable def impl_Frame_pins_at_impl_FreshWear_1.l_12 (d1 : Arr 96 Int) (g2c0 : GWear) (i_4 : Int) (t_7 : Int) : ((List GWornPin) × Int) → Option (((List GWornPin) × Int) ⊕ ((List GWornPin)))
  | (xs_10, i_11) => (if (decide (i_11 < t_7)) = true then (impl_Drum_has d1 i_4 i_11).bind fun t_14 => (if t_14 = true then (impl_FreshWear_1 i_4 i_11 (⟨xs_10, g2c0.fStrokes⟩ : GWear)).bind fun t_15 => some (.inl (t_15.fPins, (w64 (i_11 + 1)))) else some (.inl (xs_10, (w64 (i_11 + 1))))) else some (.inr xs_10))
noncomputable def impl_Frame_pins_at_impl_FreshWear_1.l_5 (f0 : GFrame) (d1 : Arr 96 Int) (g2c0 : GWear) : ((List GWornPin) × Int) → Option (((List GWornPin) × Int) ⊕ ((List GWornPin)))
  | (xs_3, i_4) => (if (decide (i_4 < (w64 f0.fSteps))) = true then (impl_size_Hammer f0.fHammers).bind fun t_7 => (loop (impl_Frame_pins_at_impl_FreshWear_1.l_12 d1 g2c0 i_4 t_7) (xs_3, 0)).bind fun t_13 => impl_Frame_pins_at_impl_FreshWear_1.k_9 i_4 t_13 else some (.inr xs_3))
noncomputable def impl_Frame_pins_at_impl_FreshWear_1 (f0 : GFrame) (d1 : Arr 96 Int) (g2c0 : GWear) : Option (GWear) := (loop (impl_Frame_pins_at_impl_FreshWear_1.l_5 f0 d1 g2c0) (g2c0.fPins, 0)).bind fun t_6 => impl_Frame_pins_at_impl_FreshWear_1.k_2 g2c0 t_6
set_option maxRecDepth 100000 in
theorem impl_Frame_pins_at_impl_FreshWear_1.calls (f0 : GFrame) (d1 : Arr 96 Int) (g2c0 : GWear) (w : World) (r : GWear) (f0_fHammers_a : Option Addr) (f0_fHammers_an : Nat) (f0_fHammers_c : Nat) (f0_fHammers_h : Rw w f0_fHammers_a 2 encGHammer f0.fHammers) (f0_fHammers_hn : f0.fHammers.length = f0_fHammers_an) (g2c0_fStrokes_a : Option Addr) (g2c0_fStrokes_an : Nat) (g2c0_fStrokes_c : Nat) (g2c0_fStrokes_h : Rw w g2c0_fStrokes_a 1 encI64 g2c0.fStrokes) (g2c0_fStrokes_hn : g2c0.fStrokes.length = g2c0_fStrokes_an) (g2c0_b : Nat) (g2c0_fPins_o : Option Nat) (g2c0_fPins_on : Nat) (g2c0_fPins_c : Nat) (g2c0_fPins_sp : List Value) (g2c0_fPins_hn : g2c0.fPins.length = g2c0_fPins_on) (g2c0_fPins_hs : g2c0_fPins_o ≠ none → g2c0_fPins_on ≤ g2c0_fPins_c ∧ g2c0_fPins_sp.length = (g2c0_fPins_c - g2c0_fPins_on) * 3) (g2c0_fPins_ho : g2c0_fPins_o = none → g2c0.fPins = [] ∧ g2c0_fPins_c = 0) (hm0 : Mem w (bs [some g2c0_b, g2c0_fPins_o]) [⟨some g2c0_b, 52, [(.slice (g2c0_fPins_o.map fun b => ⟨b, 0, none⟩) g2c0_fPins_on g2c0_fPins_c), (.slice g2c0_fStrokes_a g2c0_fStrokes_an g2c0_fStrokes_c)]⟩, ⟨g2c0_fPins_o, 124, row encGWornPin g2c0.fPins g2c0_fPins_sp⟩] w) (f0_fHammers_ha : f0.fHammers ≠ [] → aB f0_fHammers_a ∉ bs [some g2c0_b, g2c0_fPins_o]) (g2c0_fStrokes_ha : g2c0.fStrokes ≠ [] → aB g2c0_fStrokes_a ∉ bs [some g2c0_b, g2c0_fPins_o]) (h : impl_Frame_pins_at_impl_FreshWear_1 f0 d1 g2c0 = some r) :
    Calls Try.prog 99 #[(.agg #[(.int .i16 f0.fSteps), (.slice f0_fHammers_a f0_fHammers_an f0_fHammers_c)]), (.agg (row encU32 d1.1 []).toArray), (.func (.func 100) #[] #[(.pointer (some ⟨g2c0_b, 0, none⟩))])] w fun e w' => ∃ v, e = .returned v ∧ (∃ (mo0 : Option Nat) (mc0 : Nat) (ms0 : List Value) (mn0 : Nat), r.fPins.length = mn0 ∧ (mo0 ≠ none → mn0 ≤ mc0 ∧ ms0.length = (mc0 - mn0) * 3) ∧ (mo0 = none → r.fPins = [] ∧ mc0 = 0) ∧ v = .tuple #[] ∧ Mem w (bs [some g2c0_b, g2c0_fPins_o]) [⟨some g2c0_b, 52, [(.slice (mo0.map fun b => ⟨b, 0, none⟩) mn0 mc0), (.slice g2c0_fStrokes_a g2c0_fStrokes_an g2c0_fStrokes_c)]⟩, ⟨mo0, 124, row encGWornPin r.fPins ms0⟩] w') := by
  subst f0_fHammers_hn g2c0_fStrokes_hn g2c0_fPins_hn
  rw [impl_Frame_pins_at_impl_FreshWear_1] at h
  refine enter (args := [(.agg #[(.int .i16 f0.fSteps), (.slice f0_fHammers_a f0.fHammers.length f0_fHammers_c)]), (.agg (row encU32 d1.1 []).toArray), (.func (.func 100) #[] #[(.pointer (some ⟨g2c0_b, 0, none⟩))])]) Try.func99 rfl Try.ntmps99 (by kernel_rfl) (L := [⟨some g2c0_b, 52, [(.slice (g2c0_fPins_o.map fun b => ⟨b, 0, none⟩) g2c0.fPins.length g2c0_fPins_c), (.slice g2c0_fStrokes_a g2c0.fStrokes.length g2c0_fStrokes_c)]⟩, ⟨g2c0_fPins_o, 124, row encGWornPin g2c0.fPins g2c0_fPins_sp⟩]) (W := bs [some g2c0_b, g2c0_fPins_o]) hm0 ?_
  refine jc_seq ?_
  refine jc_region ?_
  refine toO (by kernel_rfl) (p_a 0 [0] (by kernel_rfl) (fun b => by kernel_rfl) (fun b_1 => jkO ?_))
  refine toO (by kernel_rfl) (p_a 0 [0] (by kernel_rfl) (fun b => by kernel_rfl) (fun b_2 => jkO ?_))
  refine jo_end (by kernel_rfl) ?_
  refine jx_then ?_
  refine jc_seq ?_
  refine jc_region ?_
  refine jo_f [(0, 0), (2, 0), (0, 0), (0, 0)] (by kernel_rfl) ?_
  refine jo_end (by kernel_rfl) ?_
  refine jx_then ?_
  refine jc_meet (fun (j : (List GWornPin) × (Option Nat) × Nat × (List Value) × Nat) => match j with | ⟨xs_1, o_322, cap_323, sp_324, n_325⟩ => impl_Frame_pins_at_impl_FreshWear_1.k_2 g2c0 xs_1 = some r ∧ (xs_1.length = n_325) ∧ ((o_322 ≠ none → n_325 ≤ cap_323 ∧ sp_324.length = (cap_323 - n_325) * 3)) ∧ ((o_322 = none → xs_1 = [] ∧ cap_323 = 0))) (fun (j : (List GWornPin) × (Option Nat) × Nat × (List Value) × Nat) => match j with | ⟨xs_1, o_322, cap_323, sp_324, n_325⟩ => []) (fun (j : (List GWornPin) × (Option Nat) × Nat × (List Value) × Nat) => match j with | ⟨xs_1, o_322, cap_323, sp_324, n_325⟩ => [⟨some g2c0_b, 52, [(.slice (o_322.map fun b => ⟨b, 0, none⟩) n_325 cap_323), (.slice g2c0_fStrokes_a g2c0.fStrokes.length g2c0_fStrokes_c)]⟩, ⟨o_322, 124, row encGWornPin xs_1 sp_324⟩, ⟨some b_1, 35, [(.int .i16 f0.fSteps), (.slice f0_fHammers_a f0.fHammers.length f0_fHammers_c)]⟩, ⟨(some b_2), 58, row encU32 d1.1 []⟩]) ?_ ?_
  · refine jc_block ?_
    obtain ⟨t_6, ht_646, hr_542⟩ := bd h
    refine jc_loop (fun (s : (List GWornPin) × Int) (x : (Option Nat) × Nat × (List Value) × Nat) => match s, x with | ⟨xs_3, i_4⟩, ⟨o_536, cap_537, sp_538, n_539⟩ => (xs_3.length = n_539) ∧ ((o_536 ≠ none → n_539 ≤ cap_537 ∧ sp_538.length = (cap_537 - n_539) * 3)) ∧ ((o_536 = none → xs_3 = [] ∧ cap_537 = 0))) (fun (s : (List GWornPin) × Int) (x : (Option Nat) × Nat × (List Value) × Nat) => match s, x with | ⟨xs_3, i_4⟩, ⟨o_536, cap_537, sp_538, n_539⟩ => [(2, [], (.func (.func 100) #[] #[(.pointer (some ⟨g2c0_b, 0, none⟩))])), (3, [], (.pointer (some ⟨b_1, 0, none⟩))), (4, [], (.pointer (some ⟨b_2, 0, none⟩))), (10, [], (.int .i64 (w64 f0.fSteps))), (11, [], (.int .i64 i_4))]) (fun (s : (List GWornPin) × Int) (x : (Option Nat) × Nat × (List Value) × Nat) => match s, x with | ⟨xs_3, i_4⟩, ⟨o_536, cap_537, sp_538, n_539⟩ => [⟨some g2c0_b, 52, [(.slice (o_536.map fun b => ⟨b, 0, none⟩) n_539 cap_537), (.slice g2c0_fStrokes_a g2c0.fStrokes.length g2c0_fStrokes_c)]⟩, ⟨o_536, 124, row encGWornPin xs_3 sp_538⟩, ⟨some b_1, 35, [(.int .i16 f0.fSteps), (.slice f0_fHammers_a f0.fHammers.length f0_fHammers_c)]⟩, ⟨(some b_2), 58, row encU32 d1.1 []⟩]) ht_646 ⟨g2c0_fPins_o, g2c0_fPins_c, g2c0_fPins_sp, g2c0.fPins.length⟩ ⟨rfl, g2c0_fPins_hs, g2c0_fPins_ho⟩ (by kernel_rfl) [0, 1, 2, 3] (by kernel_rfl) (by kernel_rfl) ?_
    rintro ⟨xs_3, i_4⟩ ⟨o_536, cap_537, sp_538, n_539⟩ y_543 ⟨rfl, hs_540, ho_541⟩ h
    rw [impl_Frame_pins_at_impl_FreshWear_1.l_5] at h
    refine jc_seq ?_
    refine jc_region ?_
    refine jo_f [(0, 0)] (by kernel_rfl) ?_
    refine jo_end (by kernel_rfl) ?_
    refine jx_then ?_
    refine jc_seq ?_
    refine jc_cond (decide (i_4 < (w64 f0.fSteps))) (by kernel_rfl) (fun hc_545 => ?_) (fun hc_545 => ?_)
    · replace h := ifT hc_545 h
      refine jc_skip ?_
      refine jx_then ?_
      refine jc_seq ?_
      refine jc_block ?_
      refine jc_seq ?_
      refine jc_region ?_
      refine jo_f [(0, 0), (0, 0)] (by kernel_rfl) ?_
      refine jo_end (by kernel_rfl) ?_
      refine jx_then ?_
      refine jc_seq ?_
      refine jc_region ?_
      refine jo_f [(0, 0), (2, 0)] (by kernel_rfl) ?_
      obtain ⟨t_7, ht_546, h⟩ := bd h
      refine toO (by kernel_rfl) (p_call 0 134 #[(.slice f0_fHammers_a f0.fHammers.length f0_fHammers_c)] (by kernel_rfl) (by kernel_rfl) (fun w hm => impl_size_Hammer.calls f0.fHammers w _ f0_fHammers_a f0.fHammers.length f0_fHammers_c (hm.exRowW f0_fHammers_h f0_fHammers_ha) rfl ht_546) ?_)
      rintro w v w' hm ⟨rfl, hm'⟩
      refine ⟨_, hm.app hm', jkO ?_⟩
      clear hm hm'
      refine jo_f [(0, 0)] (by kernel_rfl) ?_
      refine jo_end (by kernel_rfl) ?_
      refine jx_then ?_
      refine jc_meet (fun (j : (List GWornPin) × (Option Nat) × Nat × (List Value) × Nat) => match j with | ⟨xs_8, o_593, cap_594, sp_595, n_596⟩ => impl_Frame_pins_at_impl_FreshWear_1.k_9 i_4 xs_8 = some y_543 ∧ (xs_8.length = n_596) ∧ ((o_593 ≠ none → n_596 ≤ cap_594 ∧ sp_595.length = (cap_594 - n_596) * 3)) ∧ ((o_593 = none → xs_8 = [] ∧ cap_594 = 0))) (fun (j : (List GWornPin) × (Option Nat) × Nat × (List Value) × Nat) => match j with | ⟨xs_8, o_593, cap_594, sp_595, n_596⟩ => [(2, [], (.func (.func 100) #[] #[(.pointer (some ⟨g2c0_b, 0, none⟩))])), (3, [], (.pointer (some ⟨b_1, 0, none⟩))), (4, [], (.pointer (some ⟨b_2, 0, none⟩))), (10, [], (.int .i64 (w64 f0.fSteps))), (11, [], (.int .i64 i_4))]) (fun (j : (List GWornPin) × (Option Nat) × Nat × (List Value) × Nat) => match j with | ⟨xs_8, o_593, cap_594, sp_595, n_596⟩ => [⟨some g2c0_b, 52, [(.slice (o_593.map fun b => ⟨b, 0, none⟩) n_596 cap_594), (.slice g2c0_fStrokes_a g2c0.fStrokes.length g2c0_fStrokes_c)]⟩, ⟨o_593, 124, row encGWornPin xs_8 sp_595⟩, ⟨some b_1, 35, [(.int .i16 f0.fSteps), (.slice f0_fHammers_a f0.fHammers.length f0_fHammers_c)]⟩, ⟨(some b_2), 58, row encU32 d1.1 []⟩]) ?_ ?_
      · refine jc_block ?_
        obtain ⟨t_13, ht_644, hr_631⟩ := bd h
        refine jc_loop (fun (s : (List GWornPin) × Int) (x : (Option Nat) × Nat × (List Value) × Nat) => match s, x with | ⟨xs_10, i_11⟩, ⟨o_625, cap_626, sp_627, n_628⟩ => (xs_10.length = n_628) ∧ ((o_625 ≠ none → n_628 ≤ cap_626 ∧ sp_627.length = (cap_626 - n_628) * 3)) ∧ ((o_625 = none → xs_10 = [] ∧ cap_626 = 0))) (fun (s : (List GWornPin) × Int) (x : (Option Nat) × Nat × (List Value) × Nat) => match s, x with | ⟨xs_10, i_11⟩, ⟨o_625, cap_626, sp_627, n_628⟩ => [(2, [], (.func (.func 100) #[] #[(.pointer (some ⟨g2c0_b, 0, none⟩))])), (3, [], (.pointer (some ⟨b_1, 0, none⟩))), (4, [], (.pointer (some ⟨b_2, 0, none⟩))), (6, [], (.int .i64 i_4)), (10, [], (.int .i64 (w64 f0.fSteps))), (11, [], (.int .i64 i_4)), (16, [], (.int .i64 t_7)), (17, [], (.int .i64 i_11))]) (fun (s : (List GWornPin) × Int) (x : (Option Nat) × Nat × (List Value) × Nat) => match s, x with | ⟨xs_10, i_11⟩, ⟨o_625, cap_626, sp_627, n_628⟩ => [⟨some g2c0_b, 52, [(.slice (o_625.map fun b => ⟨b, 0, none⟩) n_628 cap_626), (.slice g2c0_fStrokes_a g2c0.fStrokes.length g2c0_fStrokes_c)]⟩, ⟨o_625, 124, row encGWornPin xs_10 sp_627⟩, ⟨some b_1, 35, [(.int .i16 f0.fSteps), (.slice f0_fHammers_a f0.fHammers.length f0_fHammers_c)]⟩, ⟨(some b_2), 58, row encU32 d1.1 []⟩]) ht_644 ⟨o_536, cap_537, sp_538, xs_3.length⟩ ⟨rfl, hs_540, ho_541⟩ (by kernel_rfl) [0, 1, 2, 3] (by kernel_rfl) (by kernel_rfl) ?_
        rintro ⟨xs_10, i_11⟩ ⟨o_625, cap_626, sp_627, n_628⟩ y_632 ⟨rfl, hs_629, ho_630⟩ h
        rw [impl_Frame_pins_at_impl_FreshWear_1.l_12] at h
        refine jc_seq ?_
        refine jc_region ?_
        refine jo_f [(0, 0)] (by kernel_rfl) ?_
        refine jo_end (by kernel_rfl) ?_
        refine jx_then ?_
        refine jc_seq ?_
        refine jc_cond (decide (i_11 < t_7)) (by kernel_rfl) (fun hc_634 => ?_) (fun hc_634 => ?_)
        · replace h := ifT hc_634 h
          refine jc_skip ?_
          refine jx_then ?_
          refine jc_seq ?_
          refine jc_block ?_
          refine jc_seq ?_
          refine jc_region ?_
          refine jo_f [(0, 0), (0, 0)] (by kernel_rfl) ?_
          refine jo_end (by kernel_rfl) ?_
          refine jx_then ?_
          refine jc_seq ?_
          refine jc_region ?_
          refine jo_f [(0, 0), (0, 0)] (by kernel_rfl) ?_
          obtain ⟨t_14, ht_635, h⟩ := bd h
          refine toO (by kernel_rfl) (p_call 0 153 #[(.pointer (some ⟨b_2, 0, none⟩)), (.int .i64 i_4), (.int .i64 i_11)] (by kernel_rfl) (by kernel_rfl) (fun w hm => impl_Drum_has.calls d1 i_4 i_11 w _ b_2 (hm.pass (N := [⟨(some b_2), 58, row encU32 d1.1 []⟩]) [3] (by kernel_rfl) (by kernel_rfl)) ht_635) ?_)
          rintro w v w' hm ⟨rfl, hm'⟩
          refine ⟨_, hm.appW (ps := [(3, ⟨(some b_2), 58, row encU32 d1.1 []⟩)]) (N := []) hm' (by kernel_rfl) (by kernel_rfl), jkO ?_⟩
          clear hm hm'
          refine jo_end (by kernel_rfl) ?_
          refine jx_then ?_
          refine jc_cond t_14 (by kernel_rfl) (fun hc_636 => ?_) (fun hc_636 => ?_)
          · replace h := ifT hc_636 h
            refine jc_region ?_
            refine jo_f [(0, 0), (0, 0), (0, 0)] (by kernel_rfl) ?_
            obtain ⟨t_15, ht_637, h⟩ := bd h
            refine toO (by kernel_rfl) (p_call 0 100 #[(.int .i64 i_4), (.int .i64 i_11), (.pointer (some ⟨g2c0_b, 0, none⟩))] (by kernel_rfl) (by kernel_rfl) (fun w hm => impl_FreshWear_1.calls i_4 i_11 (⟨xs_10, g2c0.fStrokes⟩ : GWear) w _ g2c0_fStrokes_a g2c0.fStrokes.length g2c0_fStrokes_c (hm.exRowW g2c0_fStrokes_h g2c0_fStrokes_ha) rfl g2c0_b o_625 xs_10.length cap_626 sp_627 rfl hs_629 ho_630 (hm.pass (N := [⟨some g2c0_b, 52, [(.slice (o_625.map fun b => ⟨b, 0, none⟩) xs_10.length cap_626), (.slice g2c0_fStrokes_a g2c0.fStrokes.length g2c0_fStrokes_c)]⟩, ⟨o_625, 124, row encGWornPin xs_10 sp_627⟩]) [0, 1] (by kernel_rfl) (by kernel_rfl)) (hm.exApart (N := [⟨some g2c0_b, 52, [(.slice (o_625.map fun b => ⟨b, 0, none⟩) xs_10.length cap_626), (.slice g2c0_fStrokes_a g2c0.fStrokes.length g2c0_fStrokes_c)]⟩, ⟨o_625, 124, row encGWornPin xs_10 sp_627⟩]) g2c0_fStrokes_h g2c0_fStrokes_ha [0, 1] (by kernel_rfl)) ht_637) ?_)
            rintro w v w' hm ⟨o_638, cap_639, sp_640, _, rfl, hs_641, ho_642, rfl, hm'⟩
            refine ⟨_, Mem.pick (hm.appP (ps := [(0, ⟨some g2c0_b, 52, [(.slice (o_638.map fun b => ⟨b, 0, none⟩) t_15.fPins.length cap_639), (.slice g2c0_fStrokes_a g2c0.fStrokes.length g2c0_fStrokes_c)]⟩)]) (ds := [1]) (N := [⟨o_638, 124, row encGWornPin t_15.fPins sp_640⟩]) hm' [0, 1] (by kernel_rfl) (by kernel_rfl) (by kernel_rfl)) (N := [⟨some g2c0_b, 52, [(.slice (o_638.map fun b => ⟨b, 0, none⟩) t_15.fPins.length cap_639), (.slice g2c0_fStrokes_a g2c0.fStrokes.length g2c0_fStrokes_c)]⟩, ⟨o_638, 124, row encGWornPin t_15.fPins sp_640⟩, ⟨some b_1, 35, [(.int .i16 f0.fSteps), (.slice f0_fHammers_a f0.fHammers.length f0_fHammers_c)]⟩, ⟨(some b_2), 58, row encU32 d1.1 []⟩]) [0, 4, 2, 3] (by kernel_rfl) (by kernel_rfl), jkO ?_⟩
            clear hm hm'
            refine jo_end (by kernel_rfl) ?_
            refine jx_inn ?_
            refine jx_then ?_
            refine jc_region ?_
            refine jo_f [(0, 0), (0, 0)] (by kernel_rfl) ?_
            refine jo_end (by kernel_rfl) ?_
            exact jx_back (t_15.fPins, (w64 (i_11 + 1))) ⟨o_638, cap_639, sp_640, t_15.fPins.length⟩ (Option.some.inj h).symm ⟨rfl, hs_641, ho_642⟩ [0, 1, 2, 3] (by kernel_rfl) (by kernel_rfl) (by kernel_rfl)
          · replace h := ifF hc_636 h
            refine jc_skip ?_
            refine jx_inn ?_
            refine jx_then ?_
            refine jc_region ?_
            refine jo_f [(0, 0), (0, 0)] (by kernel_rfl) ?_
            refine jo_end (by kernel_rfl) ?_
            exact jx_back (xs_10, (w64 (i_11 + 1))) ⟨o_625, cap_626, sp_627, xs_10.length⟩ (Option.some.inj h).symm ⟨rfl, hs_629, ho_630⟩ [0, 1, 2, 3] (by kernel_rfl) (by kernel_rfl) (by kernel_rfl)
        · replace h := ifF hc_634 h
          refine jc_exit ?_
          refine jx_thenx ?_
          refine jx_leave xs_10 (Option.some.inj h).symm (fun e_643 => ?_)
          subst e_643
          refine jx_ine ?_
          exact jx_meet ⟨xs_10, o_625, cap_626, sp_627, xs_10.length⟩ ⟨hr_631, rfl, hs_629, ho_630⟩ (by kernel_rfl) [0, 1, 2, 3] (by kernel_rfl) (by kernel_rfl)
      · rintro ⟨xs_8, o_593, cap_594, sp_595, n_596⟩ ⟨h, rfl, hs_597, ho_598⟩
        replace h : impl_Frame_pins_at_impl_FreshWear_1.k_9 i_4 xs_8 = some y_543 := h
        rw [impl_Frame_pins_at_impl_FreshWear_1.k_9] at h
        refine jx_inn ?_
        refine jx_then ?_
        refine jc_region ?_
        refine jo_f [(0, 0), (0, 0)] (by kernel_rfl) ?_
        refine jo_end (by kernel_rfl) ?_
        exact jx_back (xs_8, (w64 (i_4 + 1))) ⟨o_593, cap_594, sp_595, xs_8.length⟩ (Option.some.inj h).symm ⟨rfl, hs_597, ho_598⟩ [0, 1, 2, 3] (by kernel_rfl) (by kernel_rfl) (by kernel_rfl)
    · replace h := ifF hc_545 h
      refine jc_exit ?_
      refine jx_thenx ?_
      refine jx_leave xs_3 (Option.some.inj h).symm (fun e_645 => ?_)
      subst e_645
      refine jx_ine ?_
      exact jx_meet ⟨xs_3, o_536, cap_537, sp_538, xs_3.length⟩ ⟨hr_542, rfl, hs_540, ho_541⟩ (by kernel_rfl) [0, 1, 2, 3] (by kernel_rfl) (by kernel_rfl)
  · rintro ⟨xs_1, o_322, cap_323, sp_324, n_325⟩ ⟨h, rfl, hs_326, ho_327⟩
    replace h : impl_Frame_pins_at_impl_FreshWear_1.k_2 g2c0 xs_1 = some r := h
    rw [impl_Frame_pins_at_impl_FreshWear_1.k_2] at h
    refine jx_fall ?_
    obtain rfl := Option.some.inj h
    exact jx_ret [] (.tuple #[]) [] rfl (by kernel_rfl) (by kernel_rfl) (fun w hm => ⟨o_322, cap_323, sp_324, xs_1.length, rfl, hs_326, ho_327, rfl, hm.pick [0, 1] (by kernel_rfl) (by kernel_rfl)⟩)

/-! ### impl.FreshWear -/
noncomputable def impl_FreshWear (f0 : GFrame) (d1 : Arr 96 Int) : Option (GWear × Int) := (impl_drumCode f0 [d1]).bind fun t_1 => (if (t_1 != 0) = true then some ((⟨[], []⟩ : GWear), t_1) else (if 0 ≤ (f0.fHammers.length : Int) ∧ (f0.fHammers.length : Int) ≤ 17592186044416 then (impl_Frame_pins_at_impl_FreshWear_1 f0 d1 (⟨([] : List GWornPin), (List.replicate (f0.fHammers.length : Int).toNat 0)⟩ : GWear)).bind fun t_2 => some ((⟨t_2.fPins, (List.replicate (f0.fHammers.length : Int).toNat 0)⟩ : GWear), 0) else none))
set_option maxRecDepth 100000 in
theorem impl_FreshWear.calls (f0 : GFrame) (d1 : Arr 96 Int) (w : World) (r : GWear × Int) (f0_fHammers_a : Option Addr) (f0_fHammers_an : Nat) (f0_fHammers_c : Nat) (f0_fHammers_h : Rw w f0_fHammers_a 2 encGHammer f0.fHammers) (f0_fHammers_hn : f0.fHammers.length = f0_fHammers_an) (h : impl_FreshWear f0 d1 = some r) :
    Calls Try.prog 36 #[(.agg #[(.int .i16 f0.fSteps), (.slice f0_fHammers_a f0_fHammers_an f0_fHammers_c)]), (.agg (row encU32 d1.1 []).toArray)] w fun e w' => ∃ v, e = .returned v ∧ (∃ (o0 : Option Nat) (c0 : Nat) (s0 : List Value) (n0 : Nat), r.1.fPins.length = n0 ∧ (o0 ≠ none → n0 ≤ c0 ∧ s0.length = (c0 - n0) * 3) ∧ (o0 = none → r.1.fPins = [] ∧ c0 = 0) ∧ ∃ (o1 : Option Nat) (c1 : Nat) (s1 : List Value) (n1 : Nat), r.1.fStrokes.length = n1 ∧ (o1 ≠ none → n1 ≤ c1 ∧ s1.length = (c1 - n1) * 1) ∧ (o1 = none → r.1.fStrokes = [] ∧ c1 = 0) ∧ v = .tuple #[.agg #[.slice (o0.map fun b => ⟨b, 0, none⟩) n0 c0, .slice (o1.map fun b => ⟨b, 0, none⟩) n1 c1], (.int .i64 r.2)] ∧ Mem w [] [⟨o0, 124, row encGWornPin r.1.fPins s0⟩, ⟨o1, 2, row encI64 r.1.fStrokes s1⟩] w') := by
  subst f0_fHammers_hn
  rw [impl_FreshWear] at h
  refine enter (args := [(.agg #[(.int .i16 f0.fSteps), (.slice f0_fHammers_a f0.fHammers.length f0_fHammers_c)]), (.agg (row encU32 d1.1 []).toArray)]) Try.func36 rfl Try.ntmps36 (by kernel_rfl) (L := []) (W := []) (Mem.start w) ?_
  refine jc_seq ?_
  refine jc_region ?_
  refine toO (by kernel_rfl) (p_a 0 [0] (by kernel_rfl) (fun b => by kernel_rfl) (fun b_1 => jkO ?_))
  refine toO (by kernel_rfl) (p_a 0 [0] (by kernel_rfl) (fun b => by kernel_rfl) (fun b_2 => jkO ?_))
  refine toO (by kernel_rfl) (p_a 0 [0] (by kernel_rfl) (fun b => by kernel_rfl) (fun b_3 => jkO ?_))
  refine jo_f [(0, 0)] (by kernel_rfl) ?_
  refine jo_end (by kernel_rfl) ?_
  refine jx_then ?_
  refine jc_seq ?_
  refine jc_seq ?_
  refine jc_region ?_
  refine jo_f [(0, 0)] (by kernel_rfl) ?_
  refine toO (by kernel_rfl) (p_ldA 0 1 b_2 96 1 58 encU32 d1 (by kernel_rfl) (by kernel_rfl) (by kernel_rfl) encU32_len (by kernel_rfl) (jkO ?_))
  refine toO (by kernel_rfl) (p_bs 0 58 96 1 encA96U32 [(.agg (row encU32 d1.1 []).toArray)] [d1] (by kernel_rfl) (by kernel_rfl) rfl (by kernel_rfl) (by kernel_rfl) encA96U32_len (fun b_7 => jkO ?_))
  obtain ⟨t_1, ht_8, h⟩ := bd h
  refine toO (by kernel_rfl) (p_call 0 98 #[(.agg #[(.int .i16 f0.fSteps), (.slice f0_fHammers_a f0.fHammers.length f0_fHammers_c)]), (.slice (some ⟨b_7, 0, none⟩) 1 1)] (by kernel_rfl) (by kernel_rfl) (fun w hm => impl_drumCode.calls f0 [d1] w _ f0_fHammers_a f0.fHammers.length f0_fHammers_c (hm.exRow f0_fHammers_h List.not_mem_nil) rfl (some ⟨b_7, 0, none⟩) 1 1 (hm.ownRow (hh := 3) (o := (some b_7)) (T := 58) (enc := encA96U32) (xs := [d1]) (sp := []) (by kernel_rfl) (fun e => nomatch e) encA96U32_len) rfl ht_8) ?_)
  rintro w v w' hm ⟨rfl, hm'⟩
  refine ⟨_, hm.app hm', jkO ?_⟩
  clear hm hm'
  refine jo_f [(0, 0)] (by kernel_rfl) ?_
  refine jo_end (by kernel_rfl) ?_
  refine jx_then ?_
  refine jc_seq ?_
  refine jc_region ?_
  refine jo_f [(0, 0), (0, 0)] (by kernel_rfl) ?_
  refine jo_end (by kernel_rfl) ?_
  refine jx_then ?_
  refine jc_cond (t_1 != 0) (by kernel_rfl) (fun hc_9 => ?_) (fun hc_9 => ?_)
  · replace h := ifT hc_9 h
    refine jc_seq ?_
    refine jc_region ?_
    refine jo_f [(0, 0), (0, 0)] (by kernel_rfl) ?_
    refine toO (by kernel_rfl) (p_s 0 [2] (by kernel_rfl) (by kernel_rfl) (jkO ?_))
    refine jo_f [(0, 0)] (by kernel_rfl) ?_
    refine jo_end (by kernel_rfl) ?_
    refine jx_then ?_
    refine jc_ret ?_
    refine jx_thenr ?_
    obtain rfl := Option.some.inj h
    refine jx_ghost 124 encGWornPin ?_
    refine jx_ghost 2 encI64 ?_
    exact jx_ret [2] (.tuple #[(.agg #[(.slice none 0 0), (.slice none 0 0)]), (.int .i64 t_1)]) [(b_3, b_3), (b_3, b_3)] rfl (by kernel_rfl) (by kernel_rfl) (fun w hm => ⟨none, 0, [], 0, rfl, (fun e => absurd rfl e), (fun _ => ⟨rfl, rfl⟩), none, 0, [], 0, rfl, (fun e => absurd rfl e), (fun _ => ⟨rfl, rfl⟩), rfl, hm.pick [4, 5] (by kernel_rfl) (by kernel_rfl)⟩)
  · replace h := ifF hc_9 h
    refine jc_skip ?_
    refine jx_then ?_
    refine jc_seq ?_
    refine jc_region ?_
    refine jo_f [(0, 0), (0, 0), (0, 0)] (by kernel_rfl) ?_
    obtain ⟨hg_18, h⟩ := gd h
    refine toO (by kernel_rfl) (p_mk 0 2 (f0.fHammers.length : Int) 1 8 encI64 0 (by kernel_rfl) (by kernel_rfl) hg_18.1 (by omega) (by kernel_rfl) (fun b_10 => jkO ?_))
    refine jo_f [(0, 0)] (by kernel_rfl) ?_
    refine toO (by kernel_rfl) (p_a 0 [0] (by kernel_rfl) (fun b => by kernel_rfl) (fun b_11 => jkO ?_))
    refine toO (by kernel_rfl) (p_s 0 [5] (by kernel_rfl) (by kernel_rfl) (jkO ?_))
    refine jo_end (by kernel_rfl) ?_
    refine jx_then ?_
    refine jc_seq ?_
    refine jc_region ?_
    refine jo_f [(0, 0)] (by kernel_rfl) ?_
    refine toO (by kernel_rfl) (p_ldA 0 1 b_2 96 1 58 encU32 d1 (by kernel_rfl) (by kernel_rfl) (by kernel_rfl) encU32_len (by kernel_rfl) (jkO ?_))
    refine jo_f [(0, 0)] (by kernel_rfl) ?_
    obtain ⟨t_2, ht_12, h⟩ := bd h
    refine toO (by kernel_rfl) (jp_ghost 124 encGWornPin (p_call 0 99 #[(.agg #[(.int .i16 f0.fSteps), (.slice f0_fHammers_a f0.fHammers.length f0_fHammers_c)]), (.agg (row encU32 d1.1 []).toArray), (.func (.func 100) #[] #[(.pointer (some ⟨b_11, 0, none⟩))])] (by kernel_rfl) (by kernel_rfl) (fun w hm => impl_Frame_pins_at_impl_FreshWear_1.calls f0 d1 (⟨([] : List GWornPin), (List.replicate (f0.fHammers.length : Int).toNat 0)⟩ : GWear) w _ f0_fHammers_a f0.fHammers.length f0_fHammers_c (hm.exRow f0_fHammers_h List.not_mem_nil) rfl (some ⟨b_10, 0, none⟩) ((f0.fHammers.length : Int).toNat) ((f0.fHammers.length : Int).toNat) (hm.ownRow (hh := 4) (o := (some b_10)) (T := 2) (enc := encI64) (xs := (List.replicate (f0.fHammers.length : Int).toNat 0)) (sp := []) (by kernel_rfl) (fun e => nomatch e) encI64_len) List.length_replicate b_11 (none : Option Nat) 0 0 [] rfl (fun e => absurd rfl e) (fun _ => ⟨rfl, rfl⟩) (hm.pass (N := [⟨some b_11, 52, [(.slice ((none : Option Nat).map fun b => ⟨b, 0, none⟩) 0 0), (.slice (some ⟨b_10, 0, none⟩) ((f0.fHammers.length : Int).toNat) ((f0.fHammers.length : Int).toNat))]⟩, ⟨(none : Option Nat), 124, row encGWornPin ([] : List GWornPin) []⟩]) [5, 6] (by kernel_rfl) (by kernel_rfl)) (hm.exApart (N := [⟨some b_11, 52, [(.slice ((none : Option Nat).map fun b => ⟨b, 0, none⟩) 0 0), (.slice (some ⟨b_10, 0, none⟩) ((f0.fHammers.length : Int).toNat) ((f0.fHammers.length : Int).toNat))]⟩, ⟨(none : Option Nat), 124, row encGWornPin ([] : List GWornPin) []⟩]) f0_fHammers_h (fun _ => List.not_mem_nil) [5, 6] (by kernel_rfl)) (hm.ownApart (S := Int) (N := [⟨some b_11, 52, [(.slice ((none : Option Nat).map fun b => ⟨b, 0, none⟩) 0 0), (.slice (some ⟨b_10, 0, none⟩) ((f0.fHammers.length : Int).toNat) ((f0.fHammers.length : Int).toNat))]⟩, ⟨(none : Option Nat), 124, row encGWornPin ([] : List GWornPin) []⟩]) (hh := 4) (o := (some b_10)) (T := 2) (cs := row encI64 (List.replicate (f0.fHammers.length : Int).toNat 0) []) (xs := (List.replicate (f0.fHammers.length : Int).toNat 0)) (by kernel_rfl) (fun e => nomatch e) [5, 6] (by kernel_rfl) (by kernel_rfl)) ht_12) ?_))
    rintro w v w' hm ⟨o_13, cap_14, sp_15, _, rfl, hs_16, ho_17, rfl, hm'⟩
    refine ⟨_, Mem.pick (hm.appP (ps := [(5, ⟨some b_11, 52, [(.slice (o_13.map fun b => ⟨b, 0, none⟩) t_2.fPins.length cap_14), (.slice (some ⟨b_10, 0, none⟩) ((f0.fHammers.length : Int).toNat) ((f0.fHammers.length : Int).toNat))]⟩)]) (ds := [6]) (N := [⟨o_13, 124, row encGWornPin t_2.fPins sp_15⟩]) hm' [0, 1] (by kernel_rfl) (by kernel_rfl) (by kernel_rfl)) (N := [⟨some b_1, 35, [(.int .i16 f0.fSteps), (.slice f0_fHammers_a f0.fHammers.length f0_fHammers_c)]⟩, ⟨(some b_2), 58, row encU32 d1.1 []⟩, ⟨some b_3, 52, [(.slice none 0 0), (.slice none 0 0)]⟩, ⟨(some b_7), 58, row encA96U32 [d1] []⟩, ⟨(some b_10), 2, row encI64 (List.replicate (f0.fHammers.length : Int).toNat 0) []⟩, ⟨some b_11, 52, [(.slice (o_13.map fun b => ⟨b, 0, none⟩) t_2.fPins.length cap_14), (.slice (some ⟨b_10, 0, none⟩) ((f0.fHammers.length : Int).toNat) ((f0.fHammers.length : Int).toNat))]⟩, ⟨o_13, 124, row encGWornPin t_2.fPins sp_15⟩]) [0, 1, 2, 3, 4, 5, 7] (by kernel_rfl) (by kernel_rfl), jkO ?_⟩
    clear hm hm'
    refine jo_end (by kernel_rfl) ?_
    refine jx_then ?_
    refine jc_seq ?_
    refine jc_region ?_
    refine jo_f [(5, 0)] (by kernel_rfl) ?_
    refine toO (by kernel_rfl) (p_s 0 [2] (by kernel_rfl) (by kernel_rfl) (jkO ?_))
    refine jo_f [(0, 0)] (by kernel_rfl) ?_
    refine jo_end (by kernel_rfl) ?_
    refine jx_then ?_
    refine jc_ret ?_
    obtain rfl := Option.some.inj h
    exact jx_ret [2] (.tuple #[(.agg #[(.slice (o_13.map fun b => ⟨b, 0, none⟩) t_2.fPins.length cap_14), (.slice (some ⟨b_10, 0, none⟩) ((f0.fHammers.length : Int).toNat) ((f0.fHammers.length : Int).toNat))]), (.int .i64 0)]) [(b_3, b_3), (b_3, b_3)] rfl (by kernel_rfl) (by kernel_rfl) (fun w hm => ⟨o_13, cap_14, sp_15, t_2.fPins.length, rfl, hs_16, ho_17, (some b_10), ((f0.fHammers.length : Int).toNat), [], ((f0.fHammers.length : Int).toNat), List.length_replicate, (fun _ => ⟨Nat.le_refl _, by simp⟩), (fun e => nomatch e), rfl, hm.pick [6, 4] (by kernel_rfl) (by kernel_rfl)⟩)

/-! ### laws.FnExactFreshWear -/
noncomputable def laws_FnExactFreshWear.k_22 (xs_2 : List GWornPin) (xs_3 : List Int) (i_4 : Int) (t_17 : Int × (List GWornPin) × (List Int)) (xs_19 : List GWornPin) (xs_20 : List Int) (i_21 : Int) : Option (Bool) := (laws_eqWear (⟨xs_19, xs_20⟩ : GWear) (⟨xs_2, xs_3⟩ : GWear)).bind fun t_23 => (if ((!t_23) || (i_21 != i_4)) = true then some false else (laws_heldWear (⟨t_17.2.1, t_17.2.2⟩ : GWear) 1).bind fun t_24 => (if (decide (t_24 < 0)) = true then some false else (if (t_24 != t_17.1) = true then some false else some true)))
noncomputable def laws_FnExactFreshWear.k_16 (aF0 : GFrame) (aD1 : Arr 96 Int) (xs_2 : List GWornPin) (xs_3 : List Int) (i_4 : Int) (xs_7 : List GWornPin) (xs_8 : List Int) (q_15 : Bool) : Option (Bool) := (if q_15 = true then some false else (laws_markWear (⟨xs_7, xs_8⟩ : GWear) 1).bind fun t_17 => (laws_heldWear (⟨t_17.2.1, t_17.2.2⟩ : GWear) 1).bind fun t_18 => (if (decide (t_18 < 0)) = true then some false else (if (t_18 != t_17.1) = true then some false else (laws_toFrame aF0).bind fun t_25 => (laws_toDrum aD1).bind fun t_26 => (impl_FreshWear t_25 t_26).bind fun t_27 => laws_FnExactFreshWear.k_22 xs_2 xs_3 i_4 t_17 t_27.1.fPins t_27.1.fStrokes t_27.2)))
noncomputable def laws_FnExactFreshWear.k_10 (aF0 : GFrame) (aD1 : Arr 96 Int) (xs_2 : List GWornPin) (xs_3 : List Int) (i_4 : Int) (t_6 : GFrame) (xs_7 : List GWornPin) (xs_8 : List Int) (i_9 : Int) : Option (Bool) := (laws_eqWear (⟨xs_7, xs_8⟩ : GWear) (⟨xs_2, xs_3⟩ : GWear)).bind fun t_11 => (if ((!t_11) || (i_9 != i_4)) = true then some false else (laws_toFrame aF0).bind fun t_12 => (laws_eqFrame t_6 t_12).bind fun t_13 => (if (!t_13) = true then some false else (laws_markFrame t_6 1).bind fun t_14 => (if (decide (t_14.1 < 0)) = true then laws_FnExactFreshWear.k_16 aF0 aD1 xs_2 xs_3 i_4 xs_7 xs_8 true else (laws_eqWear (⟨xs_7, xs_8⟩ : GWear) (⟨xs_2, xs_3⟩ : GWear)).bind fun t_28 => laws_FnExactFreshWear.k_16 aF0 aD1 xs_2 xs_3 i_4 xs_7 xs_8 ((!t_28) || (i_9 != i_4)))))
noncomputable def laws_FnExactFreshWear.k_5 (aF0 : GFrame) (aD1 : Arr 96 Int) (xs_2 : List GWornPin) (xs_3 : List Int) (i_4 : Int) : Option (Bool) := (laws_toFrame aF0).bind fun t_6 => (laws_toDrum aD1).bind fun t_29 => (impl_FreshWear t_6 t_29).bind fun t_30 => laws_FnExactFreshWear.k_10 aF0 aD1 xs_2 xs_3 i_4 t_6 t_30.1.fPins t_30.1.fStrokes t_30.2
noncomputable def laws_FnExactFreshWear (aF0 : GFrame) (aD1 : Arr 96 Int) : Option (Bool) := (laws_szFrame aF0 1048576).bind fun t_1 => (if (decide (t_1 < 0)) = true then some true else (laws_toFrame aF0).bind fun t_31 => (laws_toDrum aD1).bind fun t_32 => (spec_FreshWear t_31 t_32).bind fun t_33 => laws_FnExactFreshWear.k_5 aF0 aD1 t_33.1.fPins t_33.1.fStrokes t_33.2)
set_option maxRecDepth 100000 in
set_option maxHeartbeats 8000000 in
theorem laws_FnExactFreshWear.calls (aF0 : GFrame) (aD1 : Arr 96 Int) (w : World) (r : Bool) (aF0_fHammers_a : Option Addr) (aF0_fHammers_an : Nat) (aF0_fHammers_c : Nat) (aF0_fHammers_h : Rw w aF0_fHammers_a 2 encGHammer aF0.fHammers) (aF0_fHammers_hn : aF0.fHammers.length = aF0_fHammers_an) (h : laws_FnExactFreshWear aF0 aD1 = some r) :
    Calls Try.prog 6 #[(.agg #[(.int .i16 aF0.fSteps), (.slice aF0_fHammers_a aF0_fHammers_an aF0_fHammers_c)]), (.agg (row encU32 aD1.1 []).toArray)] w fun e w' => ∃ v, e = .returned v ∧ (v = (.bool r) ∧ Mem w [] [] w') := by
  subst aF0_fHammers_hn
  rw [laws_FnExactFreshWear] at h
  refine enter (args := [(.agg #[(.int .i16 aF0.fSteps), (.slice aF0_fHammers_a aF0.fHammers.length aF0_fHammers_c)]), (.agg (row encU32 aD1.1 []).toArray)]) Try.func6 rfl Try.ntmps6 (by kernel_rfl) (L := []) (W := []) (Mem.start w) ?_
  refine jc_seq ?_
  refine jc_region ?_
  refine toO (by kernel_rfl) (p_a 0 [0] (by kernel_rfl) (fun b => by kernel_rfl) (fun b_1 => jkO ?_))
  refine toO (by kernel_rfl) (p_a 0 [0] (by kernel_rfl) (fun b => by kernel_rfl) (fun b_2 => jkO ?_))
  refine jo_f [(0, 0)] (by kernel_rfl) ?_
  refine jo_end (by kernel_rfl) ?_
  refine jx_then ?_
  refine jc_seq ?_
  refine jc_region ?_
  refine jo_f [(0, 0)] (by kernel_rfl) ?_
  refine jo_end (by kernel_rfl) ?_
  refine jx_then ?_
  refine jc_seq ?_
  refine jc_region ?_
  refine jo_f [(0, 0), (0, 0)] (by kernel_rfl) ?_
  obtain ⟨t_1, ht_3, h⟩ := bd h
  refine toO (by kernel_rfl) (p_call 0 15 #[(.agg #[(.int .i16 aF0.fSteps), (.slice aF0_fHammers_a aF0.fHammers.length aF0_fHammers_c)]), (.int .i64 1048576)] (by kernel_rfl) (by kernel_rfl) (fun w hm => laws_szFrame.calls aF0 1048576 w _ aF0_fHammers_a aF0.fHammers.length aF0_fHammers_c (hm.exRow aF0_fHammers_h List.not_mem_nil) rfl ht_3) ?_)
  rintro w v w' hm ⟨rfl, hm'⟩
  refine ⟨_, hm.app hm', jkO ?_⟩
  clear hm hm'
  refine jo_f [(0, 0)] (by kernel_rfl) ?_
  refine jo_end (by kernel_rfl) ?_
  refine jx_then ?_
  refine jc_seq ?_
  refine jc_seq ?_
  refine jc_region ?_
  refine jo_f [(0, 0), (0, 0)] (by kernel_rfl) ?_
  refine jo_end (by kernel_rfl) ?_
  refine jx_then ?_
  refine jc_cond (decide (t_1 < 0)) (by kernel_rfl) (fun hc_5 => ?_) (fun hc_5 => ?_)
  · replace h := ifT hc_5 h
    refine jc_seq ?_
    refine jc_region ?_
    refine jo_f [(0, 0)] (by kernel_rfl) ?_
    refine jo_end (by kernel_rfl) ?_
    refine jx_then ?_
    refine jc_ret ?_
    refine jx_thenr ?_
    obtain rfl := Option.some.inj h
    exact jx_ret [] (.bool true) [] rfl (by kernel_rfl) (by kernel_rfl) (fun w hm => ⟨rfl, hm.pick [] (by kernel_rfl) (by kernel_rfl)⟩)
  · replace h := ifF hc_5 h
    refine jc_skip ?_
    refine jx_then ?_
    refine jc_seq ?_
    refine jc_meet (fun (j : (List GWornPin) × (List Int) × Int × Nat × (Option Nat) × Nat × (List Value) × Nat × (Option Nat) × Nat × (List Value) × Nat) => match j with | ⟨xs_2, xs_3, i_4, b_69, o_70, cap_71, sp_72, n_73, o_76, cap_77, sp_78, n_79⟩ => laws_FnExactFreshWear.k_5 aF0 aD1 xs_2 xs_3 i_4 = some r ∧ (xs_2.length = n_73) ∧ ((o_70 ≠ none → n_73 ≤ cap_71 ∧ sp_72.length = (cap_71 - n_73) * 3)) ∧ ((o_70 = none → xs_2 = [] ∧ cap_71 = 0)) ∧ (xs_3.length = n_79) ∧ ((o_76 ≠ none → n_79 ≤ cap_77 ∧ sp_78.length = (cap_77 - n_79) * 1)) ∧ ((o_76 = none → xs_3 = [] ∧ cap_77 = 0))) (fun (j : (List GWornPin) × (List Int) × Int × Nat × (Option Nat) × Nat × (List Value) × Nat × (Option Nat) × Nat × (List Value) × Nat) => match j with | ⟨xs_2, xs_3, i_4, b_69, o_70, cap_71, sp_72, n_73, o_76, cap_77, sp_78, n_79⟩ => [(2, [], (.pointer (some ⟨b_1, 0, none⟩))), (3, [], (.pointer (some ⟨b_2, 0, none⟩))), (4, [], (.bool false)), (6, [], (.pointer (some ⟨b_69, 0, none⟩))), (7, [], (.int .i64 i_4))]) (fun (j : (List GWornPin) × (List Int) × Int × Nat × (Option Nat) × Nat × (List Value) × Nat × (Option Nat) × Nat × (List Value) × Nat) => match j with | ⟨xs_2, xs_3, i_4, b_69, o_70, cap_71, sp_72, n_73, o_76, cap_77, sp_78, n_79⟩ => [⟨some b_1, 25, [(.int .i16 aF0.fSteps), (.slice aF0_fHammers_a aF0.fHammers.length aF0_fHammers_c)]⟩, ⟨(some b_2), 57, row encU32 aD1.1 []⟩, ⟨some b_69, 52, [(.slice (o_70.map fun b => ⟨b, 0, none⟩) n_73 cap_71), (.slice (o_76.map fun b => ⟨b, 0, none⟩) n_79 cap_77)]⟩, ⟨o_70, 124, row encGWornPin xs_2 sp_72⟩, ⟨o_76, 2, row encI64 xs_3 sp_78⟩]) ?_ ?_
    · refine jc_draw [⟨some b_1, 25, [(.int .i16 aF0.fSteps), (.slice aF0_fHammers_a aF0.fHammers.length aF0_fHammers_c)]⟩, ⟨(some b_2), 57, row encU32 aD1.1 []⟩] 11 (by kernel_rfl) (by kernel_rfl) ?_
      refine jd_f [⟨0, 0, 0⟩] 10 (by kernel_rfl) (by kernel_rfl) (fun w h => h.pick [0, 1] (by kernel_rfl) (by kernel_rfl)) (by kernel_rfl) (by kernel_rfl) ?_
      refine jd_v 2 0 (by kernel_rfl) (fun w h => h.pick [0, 1] (by kernel_rfl) (by kernel_rfl)) (by kernel_rfl) (by kernel_rfl) _ (fun w hm => ld_run (b := b_2) (off := 0) (s := 96) (agg := true) (vs := row encU32 aD1.1 []) (by kernel_rfl) ((row_len encU32_len aD1).trans rfl) (.inl rfl) (hm.all (hh := 1) (T := 57) (by kernel_rfl))) ?_
      refine toD2 1 8 (by kernel_rfl) ?_ ?_
      · obtain ⟨t_31, ht_432, h⟩ := bd h
        refine p_call 0 17 #[(.agg #[(.int .i16 aF0.fSteps), (.slice aF0_fHammers_a aF0.fHammers.length aF0_fHammers_c)])] (by kernel_rfl) (by kernel_rfl) (fun w hm => laws_toFrame.calls aF0 w _ aF0_fHammers_a aF0.fHammers.length aF0_fHammers_c (hm.exRow aF0_fHammers_h List.not_mem_nil) rfl ht_432) ?_
        rintro w v w' hm ⟨o_433, cap_434, sp_435, _, rfl, hs_436, ho_437, rfl, hm'⟩
        refine ⟨_, hm.app hm', jkD (fun w h => h.pick [0, 1] (by kernel_rfl) (by kernel_rfl)) ?_⟩
        clear hm hm'
        refine toD2 3 8 (by kernel_rfl) ?_ ?_
        · obtain ⟨t_32, ht_438, h⟩ := bd h
          refine p_call 0 31 #[(.agg (row encU32 aD1.1 []).toArray)] (by kernel_rfl) (by kernel_rfl) (fun w hm => laws_toDrum.calls aD1 w _ ht_438) ?_
          rintro w v w' hm ⟨rfl, hm'⟩
          refine ⟨_, hm.app hm', jkD (fun w h => h.pick [0, 1] (by kernel_rfl) (by kernel_rfl)) ?_⟩
          clear hm hm'
          refine toD2 4 8 (by kernel_rfl) ?_ ?_
          · obtain ⟨t_33, ht_439, h⟩ := bd h
            refine p_call 0 35 #[(.agg #[(.int .i16 t_31.fSteps), (.slice (o_433.map fun b => ⟨b, 0, none⟩) t_31.fHammers.length cap_434)]), (.agg (row encU32 t_32.1 []).toArray)] (by kernel_rfl) (by kernel_rfl) (fun w hm => spec_FreshWear.calls t_31 t_32 w _ (o_433.map fun b => ⟨b, 0, none⟩) t_31.fHammers.length cap_434 (hm.ownRow (hh := 2) (o := o_433) (T := 176) (enc := encGHammer) (xs := t_31.fHammers) (sp := sp_435) (by kernel_rfl) (fun e => (ho_437 e).1) encGHammer_len) rfl ht_439) ?_
            rintro w v w' hm ⟨o_440, cap_441, sp_442, _, rfl, hs_443, ho_444, o_445, cap_446, sp_447, _, rfl, hs_448, ho_449, rfl, hm'⟩
            refine ⟨_, hm.app hm', jkD (fun w h => h.pick [0, 1] (by kernel_rfl) (by kernel_rfl)) ?_⟩
            clear hm hm'
            refine jd_f [⟨5, 0, 0⟩, ⟨6, 0, 0⟩, ⟨7, 0, 0⟩] 3 (by kernel_rfl) (by kernel_rfl) (fun w h => h.pick [0, 1] (by kernel_rfl) (by kernel_rfl)) (by kernel_rfl) (by kernel_rfl) ?_
            refine toD 8 (by kernel_rfl) (p_a 0 [0] (by kernel_rfl) (fun b => by kernel_rfl) (fun b_450 => jkD (fun w h => h.pick [0, 1] (by kernel_rfl) (by kernel_rfl)) ?_))
            refine toD 9 (by kernel_rfl) (p_s 0 [5] (by kernel_rfl) (by kernel_rfl) (jkD (fun w h => h.pick [0, 1] (by kernel_rfl) (by kernel_rfl)) ?_))
            refine jd_f [⟨10, 0, 0⟩] 0 (by kernel_rfl) (by kernel_rfl) (fun w h => h.pick [0, 1] (by kernel_rfl) (by kernel_rfl)) (by kernel_rfl) (by kernel_rfl) ?_
            refine jd_end (by kernel_rfl) ?_
            exact jx_meet ⟨t_33.1.fPins, t_33.1.fStrokes, t_33.2, b_450, o_440, cap_441, sp_442, t_33.1.fPins.length, o_445, cap_446, sp_447, t_33.1.fStrokes.length⟩ ⟨h, rfl, hs_443, ho_444, rfl, hs_448, ho_449⟩ (by kernel_rfl) [0, 1, 5, 3, 4] (by kernel_rfl) (by kernel_rfl)
          · refine p_a 0 [0] (by kernel_rfl) (fun b => by kernel_rfl) (fun b_451 => jkD (fun w h => h.pick [0, 1] (by kernel_rfl) (by kernel_rfl)) ?_)
            obtain ⟨t_33, ht_452, h⟩ := bd h
            refine toD 4 (by kernel_rfl) (p_call 0 35 #[(.agg #[(.int .i16 t_31.fSteps), (.slice (o_433.map fun b => ⟨b, 0, none⟩) t_31.fHammers.length cap_434)]), (.agg (row encU32 t_32.1 []).toArray)] (by kernel_rfl) (by kernel_rfl) (fun w hm => spec_FreshWear.calls t_31 t_32 w _ (o_433.map fun b => ⟨b, 0, none⟩) t_31.fHammers.length cap_434 (hm.ownRow (hh := 2) (o := o_433) (T := 176) (enc := encGHammer) (xs := t_31.fHammers) (sp := sp_435) (by kernel_rfl) (fun e => (ho_437 e).1) encGHammer_len) rfl ht_452) ?_)
            rintro w v w' hm ⟨o_453, cap_454, sp_455, _, rfl, hs_456, ho_457, o_458, cap_459, sp_460, _, rfl, hs_461, ho_462, rfl, hm'⟩
            refine ⟨_, hm.app hm', jkD (fun w h => h.pick [0, 1] (by kernel_rfl) (by kernel_rfl)) ?_⟩
            clear hm hm'
            refine jd_f [⟨5, 0, 0⟩, ⟨6, 0, 0⟩, ⟨7, 0, 0⟩] 2 (by kernel_rfl) (by kernel_rfl) (fun w h => h.pick [0, 1] (by kernel_rfl) (by kernel_rfl)) (by kernel_rfl) (by kernel_rfl) ?_
            refine toD 9 (by kernel_rfl) (p_s 0 [3] (by kernel_rfl) (by kernel_rfl) (jkD (fun w h => h.pick [0, 1] (by kernel_rfl) (by kernel_rfl)) ?_))
            refine jd_f [⟨10, 0, 0⟩] 0 (by kernel_rfl) (by kernel_rfl) (fun w h => h.pick [0, 1] (by kernel_rfl) (by kernel_rfl)) (by kernel_rfl) (by kernel_rfl) ?_
            refine jd_end (by kernel_rfl) ?_
            exact jx_meet ⟨t_33.1.fPins, t_33.1.fStrokes, t_33.2, b_451, o_453, cap_454, sp_455, t_33.1.fPins.length, o_458, cap_459, sp_460, t_33.1.fStrokes.length⟩ ⟨h, rfl, hs_456, ho_457, rfl, hs_461, ho_462⟩ (by kernel_rfl) [0, 1, 3, 4, 5] (by kernel_rfl) (by kernel_rfl)
        · refine p_a 0 [0] (by kernel_rfl) (fun b => by kernel_rfl) (fun b_463 => jkD (fun w h => h.pick [0, 1] (by kernel_rfl) (by kernel_rfl)) ?_)
          obtain ⟨t_32, ht_464, h⟩ := bd h
          refine toD 3 (by kernel_rfl) (p_call 0 31 #[(.agg (row encU32 aD1.1 []).toArray)] (by kernel_rfl) (by kernel_rfl) (fun w hm => laws_toDrum.calls aD1 w _ ht_464) ?_)
          rintro w v w' hm ⟨rfl, hm'⟩
          refine ⟨_, hm.app hm', jkD (fun w h => h.pick [0, 1] (by kernel_rfl) (by kernel_rfl)) ?_⟩
          clear hm hm'
          obtain ⟨t_33, ht_465, h⟩ := bd h
          refine toD 4 (by kernel_rfl) (p_call 0 35 #[(.agg #[(.int .i16 t_31.fSteps), (.slice (o_433.map fun b => ⟨b, 0, none⟩) t_31.fHammers.length cap_434)]), (.agg (row encU32 t_32.1 []).toArray)] (by kernel_rfl) (by kernel_rfl) (fun w hm => spec_FreshWear.calls t_31 t_32 w _ (o_433.map fun b => ⟨b, 0, none⟩) t_31.fHammers.length cap_434 (hm.ownRow (hh := 2) (o := o_433) (T := 176) (enc := encGHammer) (xs := t_31.fHammers) (sp := sp_435) (by kernel_rfl) (fun e => (ho_437 e).1) encGHammer_len) rfl ht_465) ?_)
          rintro w v w' hm ⟨o_466, cap_467, sp_468, _, rfl, hs_469, ho_470, o_471, cap_472, sp_473, _, rfl, hs_474, ho_475, rfl, hm'⟩
          refine ⟨_, hm.app hm', jkD (fun w h => h.pick [0, 1] (by kernel_rfl) (by kernel_rfl)) ?_⟩
          clear hm hm'
          refine jd_f [⟨5, 0, 0⟩, ⟨6, 0, 0⟩, ⟨7, 0, 0⟩] 2 (by kernel_rfl) (by kernel_rfl) (fun w h => h.pick [0, 1] (by kernel_rfl) (by kernel_rfl)) (by kernel_rfl) (by kernel_rfl) ?_
          refine toD 9 (by kernel_rfl) (p_s 0 [3] (by kernel_rfl) (by kernel_rfl) (jkD (fun w h => h.pick [0, 1] (by kernel_rfl) (by kernel_rfl)) ?_))
          refine jd_f [⟨10, 0, 0⟩] 0 (by kernel_rfl) (by kernel_rfl) (fun w h => h.pick [0, 1] (by kernel_rfl) (by kernel_rfl)) (by kernel_rfl) (by kernel_rfl) ?_
          refine jd_end (by kernel_rfl) ?_
          exact jx_meet ⟨t_33.1.fPins, t_33.1.fStrokes, t_33.2, b_463, o_466, cap_467, sp_468, t_33.1.fPins.length, o_471, cap_472, sp_473, t_33.1.fStrokes.length⟩ ⟨h, rfl, hs_469, ho_470, rfl, hs_474, ho_475⟩ (by kernel_rfl) [0, 1, 3, 4, 5] (by kernel_rfl) (by kernel_rfl)
      · refine p_a 0 [0] (by kernel_rfl) (fun b => by kernel_rfl) (fun b_476 => jkD (fun w h => h.pick [0, 1] (by kernel_rfl) (by kernel_rfl)) ?_)
        obtain ⟨t_31, ht_477, h⟩ := bd h
        refine toD 1 (by kernel_rfl) (p_call 0 17 #[(.agg #[(.int .i16 aF0.fSteps), (.slice aF0_fHammers_a aF0.fHammers.length aF0_fHammers_c)])] (by kernel_rfl) (by kernel_rfl) (fun w hm => laws_toFrame.calls aF0 w _ aF0_fHammers_a aF0.fHammers.length aF0_fHammers_c (hm.exRow aF0_fHammers_h List.not_mem_nil) rfl ht_477) ?_)
        rintro w v w' hm ⟨o_478, cap_479, sp_480, _, rfl, hs_481, ho_482, rfl, hm'⟩
        refine ⟨_, hm.app hm', jkD (fun w h => h.pick [0, 1] (by kernel_rfl) (by kernel_rfl)) ?_⟩
        clear hm hm'
        obtain ⟨t_32, ht_483, h⟩ := bd h
        refine toD 3 (by kernel_rfl) (p_call 0 31 #[(.agg (row encU32 aD1.1 []).toArray)] (by kernel_rfl) (by kernel_rfl) (fun w hm => laws_toDrum.calls aD1 w _ ht_483) ?_)
        rintro w v w' hm ⟨rfl, hm'⟩
        refine ⟨_, hm.app hm', jkD (fun w h => h.pick [0, 1] (by kernel_rfl) (by kernel_rfl)) ?_⟩
        clear hm hm'
        obtain ⟨t_33, ht_484, h⟩ := bd h
        refine toD 4 (by kernel_rfl) (p_call 0 35 #[(.agg #[(.int .i16 t_31.fSteps), (.slice (o_478.map fun b => ⟨b, 0, none⟩) t_31.fHammers.length cap_479)]), (.agg (row encU32 t_32.1 []).toArray)] (by kernel_rfl) (by kernel_rfl) (fun w hm => spec_FreshWear.calls t_31 t_32 w _ (o_478.map fun b => ⟨b, 0, none⟩) t_31.fHammers.length cap_479 (hm.ownRow (hh := 3) (o := o_478) (T := 176) (enc := encGHammer) (xs := t_31.fHammers) (sp := sp_480) (by kernel_rfl) (fun e => (ho_482 e).1) encGHammer_len) rfl ht_484) ?_)
        rintro w v w' hm ⟨o_485, cap_486, sp_487, _, rfl, hs_488, ho_489, o_490, cap_491, sp_492, _, rfl, hs_493, ho_494, rfl, hm'⟩
        refine ⟨_, hm.app hm', jkD (fun w h => h.pick [0, 1] (by kernel_rfl) (by kernel_rfl)) ?_⟩
        clear hm hm'
        refine jd_f [⟨5, 0, 0⟩, ⟨6, 0, 0⟩, ⟨7, 0, 0⟩] 2 (by kernel_rfl) (by kernel_rfl) (fun w h => h.pick [0, 1] (by kernel_rfl) (by kernel_rfl)) (by kernel_rfl) (by kernel_rfl) ?_
        refine toD 9 (by kernel_rfl) (p_s 0 [2] (by kernel_rfl) (by kernel_rfl) (jkD (fun w h => h.pick [0, 1] (by kernel_rfl) (by kernel_rfl)) ?_))
        refine jd_f [⟨10, 0, 0⟩] 0 (by kernel_rfl) (by kernel_rfl) (fun w h => h.pick [0, 1] (by kernel_rfl) (by kernel_rfl)) (by kernel_rfl) (by kernel_rfl) ?_
        refine jd_end (by kernel_rfl) ?_
        exact jx_meet ⟨t_33.1.fPins, t_33.1.fStrokes, t_33.2, b_476, o_485, cap_486, sp_487, t_33.1.fPins.length, o_490, cap_491, sp_492, t_33.1.fStrokes.length⟩ ⟨h, rfl, hs_488, ho_489, rfl, hs_493, ho_494⟩ (by kernel_rfl) [0, 1, 2, 4, 5] (by kernel_rfl) (by kernel_rfl)
    · rintro ⟨xs_2, xs_3, i_4, b_69, o_70, cap_71, sp_72, n_73, o_76, cap_77, sp_78, n_79⟩ ⟨h, rfl, hs_74, ho_75, rfl, hs_80, ho_81⟩
      replace h : laws_FnExactFreshWear.k_5 aF0 aD1 xs_2 xs_3 i_4 = some r := h
      rw [laws_FnExactFreshWear.k_5] at h
      refine jx_then ?_
      refine jc_seq ?_
      refine jc_region ?_
      refine jo_f [(0, 0)] (by kernel_rfl) ?_
      obtain ⟨t_6, ht_82, h⟩ := bd h
      refine toO (by kernel_rfl) (p_call 0 17 #[(.agg #[(.int .i16 aF0.fSteps), (.slice aF0_fHammers_a aF0.fHammers.length aF0_fHammers_c)])] (by kernel_rfl) (by kernel_rfl) (fun w hm => laws_toFrame.calls aF0 w _ aF0_fHammers_a aF0.fHammers.length aF0_fHammers_c (hm.exRow aF0_fHammers_h List.not_mem_nil) rfl ht_82) ?_)
      rintro w v w' hm ⟨o_83, cap_84, sp_85, _, rfl, hs_86, ho_87, rfl, hm'⟩
      refine ⟨_, hm.app hm', jkO ?_⟩
      clear hm hm'
      refine toO (by kernel_rfl) (p_a 0 [0] (by kernel_rfl) (fun b => by kernel_rfl) (fun b_88 => jkO ?_))
      refine toO (by kernel_rfl) (p_s 0 [6] (by kernel_rfl) (by kernel_rfl) (jkO ?_))
      refine jo_end (by kernel_rfl) ?_
      refine jx_then ?_
      refine jc_seq ?_
      refine jc_meet (fun (j : (List GWornPin) × (List Int) × Int × Nat × (Option Nat) × Nat × (List Value) × Nat × (Option Nat) × Nat × (List Value) × Nat) => match j with | ⟨xs_7, xs_8, i_9, b_127, o_128, cap_129, sp_130, n_131, o_134, cap_135, sp_136, n_137⟩ => laws_FnExactFreshWear.k_10 aF0 aD1 xs_2 xs_3 i_4 t_6 xs_7 xs_8 i_9 = some r ∧ (xs_7.length = n_131) ∧ ((o_128 ≠ none → n_131 ≤ cap_129 ∧ sp_130.length = (cap_129 - n_131) * 3)) ∧ ((o_128 = none → xs_7 = [] ∧ cap_129 = 0)) ∧ (xs_8.length = n_137) ∧ ((o_134 ≠ none → n_137 ≤ cap_135 ∧ sp_136.length = (cap_135 - n_137) * 1)) ∧ ((o_134 = none → xs_8 = [] ∧ cap_135 = 0))) (fun (j : (List GWornPin) × (List Int) × Int × Nat × (Option Nat) × Nat × (List Value) × Nat × (Option Nat) × Nat × (List Value) × Nat) => match j with | ⟨xs_7, xs_8, i_9, b_127, o_128, cap_129, sp_130, n_131, o_134, cap_135, sp_136, n_137⟩ => [(2, [], (.pointer (some ⟨b_1, 0, none⟩))), (3, [], (.pointer (some ⟨b_2, 0, none⟩))), (4, [], (.bool false)), (6, [], (.pointer (some ⟨b_69, 0, none⟩))), (7, [], (.int .i64 i_4)), (8, [], (.pointer (some ⟨b_88, 0, none⟩))), (9, [], (.pointer (some ⟨b_127, 0, none⟩))), (10, [], (.int .i64 i_9))]) (fun (j : (List GWornPin) × (List Int) × Int × Nat × (Option Nat) × Nat × (List Value) × Nat × (Option Nat) × Nat × (List Value) × Nat) => match j with | ⟨xs_7, xs_8, i_9, b_127, o_128, cap_129, sp_130, n_131, o_134, cap_135, sp_136, n_137⟩ => [⟨some b_1, 25, [(.int .i16 aF0.fSteps), (.slice aF0_fHammers_a aF0.fHammers.length aF0_fHammers_c)]⟩, ⟨(some b_2), 57, row encU32 aD1.1 []⟩, ⟨some b_69, 52, [(.slice (o_70.map fun b => ⟨b, 0, none⟩) xs_2.length cap_71), (.slice (o_76.map fun b => ⟨b, 0, none⟩) xs_3.length cap_77)]⟩, ⟨o_70, 124, row encGWornPin xs_2 sp_72⟩, ⟨o_76, 2, row encI64 xs_3 sp_78⟩, ⟨o_83, 176, row encGHammer t_6.fHammers sp_85⟩, ⟨some b_88, 35, [(.int .i16 t_6.fSteps), (.slice (o_83.map fun b => ⟨b, 0, none⟩) t_6.fHammers.length cap_84)]⟩, ⟨some b_127, 52, [(.slice (o_128.map fun b => ⟨b, 0, none⟩) n_131 cap_129), (.slice (o_134.map fun b => ⟨b, 0, none⟩) n_137 cap_135)]⟩, ⟨o_128, 124, row encGWornPin xs_7 sp_130⟩, ⟨o_134, 2, row encI64 xs_8 sp_136⟩]) ?_ ?_
      · refine jc_draw [⟨some b_1, 25, [(.int .i16 aF0.fSteps), (.slice aF0_fHammers_a aF0.fHammers.length aF0_fHammers_c)]⟩, ⟨(some b_2), 57, row encU32 aD1.1 []⟩, ⟨some b_69, 52, [(.slice (o_70.map fun b => ⟨b, 0, none⟩) xs_2.length cap_71), (.slice (o_76.map fun b => ⟨b, 0, none⟩) xs_3.length cap_77)]⟩, ⟨o_70, 124, row encGWornPin xs_2 sp_72⟩, ⟨o_76, 2, row encI64 xs_3 sp_78⟩, ⟨o_83, 176, row encGHammer t_6.fHammers sp_85⟩, ⟨some b_88, 35, [(.int .i16 t_6.fSteps), (.slice (o_83.map fun b => ⟨b, 0, none⟩) t_6.fHammers.length cap_84)]⟩] 10 (by kernel_rfl) (by kernel_rfl) ?_
        refine jd_f [⟨0, 6, 0⟩] 9 (by kernel_rfl) (by kernel_rfl) (fun w h => h.pick [0, 1, 2, 3, 4, 5, 6] (by kernel_rfl) (by kernel_rfl)) (by kernel_rfl) (by kernel_rfl) ?_
        refine jd_v 1 0 (by kernel_rfl) (fun w h => h.pick [0, 1, 2, 3, 4, 5, 6] (by kernel_rfl) (by kernel_rfl)) (by kernel_rfl) (by kernel_rfl) _ (fun w hm => ld_run (b := b_2) (off := 0) (s := 96) (agg := true) (vs := row encU32 aD1.1 []) (by kernel_rfl) ((row_len encU32_len aD1).trans rfl) (.inl rfl) (hm.all (hh := 1) (T := 57) (by kernel_rfl))) ?_
        refine toD2 2 7 (by kernel_rfl) ?_ ?_
        · obtain ⟨t_29, ht_394, h⟩ := bd h
          refine p_call 0 31 #[(.agg (row encU32 aD1.1 []).toArray)] (by kernel_rfl) (by kernel_rfl) (fun w hm => laws_toDrum.calls aD1 w _ ht_394) ?_
          rintro w v w' hm ⟨rfl, hm'⟩
          refine ⟨_, hm.app hm', jkD (fun w h => h.pick [0, 1, 2, 3, 4, 5, 6] (by kernel_rfl) (by kernel_rfl)) ?_⟩
          clear hm hm'
          refine toD2 3 7 (by kernel_rfl) ?_ ?_
          · obtain ⟨t_30, ht_395, h⟩ := bd h
            refine p_call 0 36 #[(.agg #[(.int .i16 t_6.fSteps), (.slice (o_83.map fun b => ⟨b, 0, none⟩) t_6.fHammers.length cap_84)]), (.agg (row encU32 t_29.1 []).toArray)] (by kernel_rfl) (by kernel_rfl) (fun w hm => impl_FreshWear.calls t_6 t_29 w _ (o_83.map fun b => ⟨b, 0, none⟩) t_6.fHammers.length cap_84 (hm.ownRow (hh := 5) (o := o_83) (T := 176) (enc := encGHammer) (xs := t_6.fHammers) (sp := sp_85) (by kernel_rfl) (fun e => (ho_87 e).1) encGHammer_len) rfl ht_395) ?_
            rintro w v w' hm ⟨o_396, cap_397, sp_398, _, rfl, hs_399, ho_400, o_401, cap_402, sp_403, _, rfl, hs_404, ho_405, rfl, hm'⟩
            refine ⟨_, hm.app hm', jkD (fun w h => h.pick [0, 1, 2, 3, 4, 5, 6] (by kernel_rfl) (by kernel_rfl)) ?_⟩
            clear hm hm'
            refine jd_f [⟨4, 0, 0⟩, ⟨5, 0, 0⟩, ⟨6, 0, 0⟩] 3 (by kernel_rfl) (by kernel_rfl) (fun w h => h.pick [0, 1, 2, 3, 4, 5, 6] (by kernel_rfl) (by kernel_rfl)) (by kernel_rfl) (by kernel_rfl) ?_
            refine toD 7 (by kernel_rfl) (p_a 0 [0] (by kernel_rfl) (fun b => by kernel_rfl) (fun b_406 => jkD (fun w h => h.pick [0, 1, 2, 3, 4, 5, 6] (by kernel_rfl) (by kernel_rfl)) ?_))
            refine toD 8 (by kernel_rfl) (p_s 0 [9] (by kernel_rfl) (by kernel_rfl) (jkD (fun w h => h.pick [0, 1, 2, 3, 4, 5, 6] (by kernel_rfl) (by kernel_rfl)) ?_))
            refine jd_f [⟨9, 0, 0⟩] 0 (by kernel_rfl) (by kernel_rfl) (fun w h => h.pick [0, 1, 2, 3, 4, 5, 6] (by kernel_rfl) (by kernel_rfl)) (by kernel_rfl) (by kernel_rfl) ?_
            refine jd_end (by kernel_rfl) ?_
            exact jx_meet ⟨t_30.1.fPins, t_30.1.fStrokes, t_30.2, b_406, o_396, cap_397, sp_398, t_30.1.fPins.length, o_401, cap_402, sp_403, t_30.1.fStrokes.length⟩ ⟨h, rfl, hs_399, ho_400, rfl, hs_404, ho_405⟩ (by kernel_rfl) [0, 1, 2, 3, 4, 5, 6, 9, 7, 8] (by kernel_rfl) (by kernel_rfl)
          · refine p_a 0 [0] (by kernel_rfl) (fun b => by kernel_rfl) (fun b_407 => jkD (fun w h => h.pick [0, 1, 2, 3, 4, 5, 6] (by kernel_rfl) (by kernel_rfl)) ?_)
            obtain ⟨t_30, ht_408, h⟩ := bd h
            refine toD 3 (by kernel_rfl) (p_call 0 36 #[(.agg #[(.int .i16 t_6.fSteps), (.slice (o_83.map fun b => ⟨b, 0, none⟩) t_6.fHammers.length cap_84)]), (.agg (row encU32 t_29.1 []).toArray)] (by kernel_rfl) (by kernel_rfl) (fun w hm => impl_FreshWear.calls t_6 t_29 w _ (o_83.map fun b => ⟨b, 0, none⟩) t_6.fHammers.length cap_84 (hm.ownRow (hh := 5) (o := o_83) (T := 176) (enc := encGHammer) (xs := t_6.fHammers) (sp := sp_85) (by kernel_rfl) (fun e => (ho_87 e).1) encGHammer_len) rfl ht_408) ?_)
            rintro w v w' hm ⟨o_409, cap_410, sp_411, _, rfl, hs_412, ho_413, o_414, cap_415, sp_416, _, rfl, hs_417, ho_418, rfl, hm'⟩
            refine ⟨_, hm.app hm', jkD (fun w h => h.pick [0, 1, 2, 3, 4, 5, 6] (by kernel_rfl) (by kernel_rfl)) ?_⟩
            clear hm hm'
            refine jd_f [⟨4, 0, 0⟩, ⟨5, 0, 0⟩, ⟨6, 0, 0⟩] 2 (by kernel_rfl) (by kernel_rfl) (fun w h => h.pick [0, 1, 2, 3, 4, 5, 6] (by kernel_rfl) (by kernel_rfl)) (by kernel_rfl) (by kernel_rfl) ?_
            refine toD 8 (by kernel_rfl) (p_s 0 [7] (by kernel_rfl) (by kernel_rfl) (jkD (fun w h => h.pick [0, 1, 2, 3, 4, 5, 6] (by kernel_rfl) (by kernel_rfl)) ?_))
            refine jd_f [⟨9, 0, 0⟩] 0 (by kernel_rfl) (by kernel_rfl) (fun w h => h.pick [0, 1, 2, 3, 4, 5, 6] (by kernel_rfl) (by kernel_rfl)) (by kernel_rfl) (by kernel_rfl) ?_
            refine jd_end (by kernel_rfl) ?_
            exact jx_meet ⟨t_30.1.fPins, t_30.1.fStrokes, t_30.2, b_407, o_409, cap_410, sp_411, t_30.1.fPins.length, o_414, cap_415, sp_416, t_30.1.fStrokes.length⟩ ⟨h, rfl, hs_412, ho_413, rfl, hs_417, ho_418⟩ (by kernel_rfl) [0, 1, 2, 3, 4, 5, 6, 7, 8, 9] (by kernel_rfl) (by kernel_rfl)
        · refine p_a 0 [0] (by kernel_rfl) (fun b => by kernel_rfl) (fun b_419 => jkD (fun w h => h.pick [0, 1, 2, 3, 4, 5, 6] (by kernel_rfl) (by kernel_rfl)) ?_)
          obtain ⟨t_29, ht_420, h⟩ := bd h
          refine toD 2 (by kernel_rfl) (p_call 0 31 #[(.agg (row encU32 aD1.1 []).toArray)] (by kernel_rfl) (by kernel_rfl) (fun w hm => laws_toDrum.calls aD1 w _ ht_420) ?_)
          rintro w v w' hm ⟨rfl, hm'⟩
          refine ⟨_, hm.app hm', jkD (fun w h => h.pick [0, 1, 2, 3, 4, 5, 6] (by kernel_rfl) (by kernel_rfl)) ?_⟩
          clear hm hm'
          obtain ⟨t_30, ht_421, h⟩ := bd h
          refine toD 3 (by kernel_rfl) (p_call 0 36 #[(.agg #[(.int .i16 t_6.fSteps), (.slice (o_83.map fun b => ⟨b, 0, none⟩) t_6.fHammers.length cap_84)]), (.agg (row encU32 t_29.1 []).toArray)] (by kernel_rfl) (by kernel_rfl) (fun w hm => impl_FreshWear.calls t_6 t_29 w _ (o_83.map fun b => ⟨b, 0, none⟩) t_6.fHammers.length cap_84 (hm.ownRow (hh := 5) (o := o_83) (T := 176) (enc := encGHammer) (xs := t_6.fHammers) (sp := sp_85) (by kernel_rfl) (fun e => (ho_87 e).1) encGHammer_len) rfl ht_421) ?_)
          rintro w v w' hm ⟨o_422, cap_423, sp_424, _, rfl, hs_425, ho_426, o_427, cap_428, sp_429, _, rfl, hs_430, ho_431, rfl, hm'⟩
          refine ⟨_, hm.app hm', jkD (fun w h => h.pick [0, 1, 2, 3, 4, 5, 6] (by kernel_rfl) (by kernel_rfl)) ?_⟩
          clear hm hm'
          refine jd_f [⟨4, 0, 0⟩, ⟨5, 0, 0⟩, ⟨6, 0, 0⟩] 2 (by kernel_rfl) (by kernel_rfl) (fun w h => h.pick [0, 1, 2, 3, 4, 5, 6] (by kernel_rfl) (by kernel_rfl)) (by kernel_rfl) (by kernel_rfl) ?_
          refine toD 8 (by kernel_rfl) (p_s 0 [7] (by kernel_rfl) (by kernel_rfl) (jkD (fun w h => h.pick [0, 1, 2, 3, 4, 5, 6] (by kernel_rfl) (by kernel_rfl)) ?_))
          refine jd_f [⟨9, 0, 0⟩] 0 (by kernel_rfl) (by kernel_rfl) (fun w h => h.pick [0, 1, 2, 3, 4, 5, 6] (by kernel_rfl) (by kernel_rfl)) (by kernel_rfl) (by kernel_rfl) ?_
          refine jd_end (by kernel_rfl) ?_
          exact jx_meet ⟨t_30.1.fPins, t_30.1.fStrokes, t_30.2, b_419, o_422, cap_423, sp_424, t_30.1.fPins.length, o_427, cap_428, sp_429, t_30.1.fStrokes.length⟩ ⟨h, rfl, hs_425, ho_426, rfl, hs_430, ho_431⟩ (by kernel_rfl) [0, 1, 2, 3, 4, 5, 6, 7, 8, 9] (by kernel_rfl) (by kernel_rfl)
      · rintro ⟨xs_7, xs_8, i_9, b_127, o_128, cap_129, sp_130, n_131, o_134, cap_135, sp_136, n_137⟩ ⟨h, rfl, hs_132, ho_133, rfl, hs_138, ho_139⟩
        replace h : laws_FnExactFreshWear.k_10 aF0 aD1 xs_2 xs_3 i_4 t_6 xs_7 xs_8 i_9 = some r := h
        rw [laws_FnExactFreshWear.k_10] at h
        refine jx_then ?_
        refine jc_seq ?_
        refine jc_seq ?_
        refine jc_region ?_
        refine jo_f [(7, 0), (2, 0)] (by kernel_rfl) ?_
        obtain ⟨t_11, ht_144, h⟩ := bd h
        refine toO (by kernel_rfl) (p_call 0 29 #[(.agg #[(.slice (o_128.map fun b => ⟨b, 0, none⟩) xs_7.length cap_129), (.slice (o_134.map fun b => ⟨b, 0, none⟩) xs_8.length cap_135)]), (.agg #[(.slice (o_70.map fun b => ⟨b, 0, none⟩) xs_2.length cap_71), (.slice (o_76.map fun b => ⟨b, 0, none⟩) xs_3.length cap_77)])] (by kernel_rfl) (by kernel_rfl) (fun w hm => laws_eqWear.calls (⟨xs_7, xs_8⟩ : GWear) (⟨xs_2, xs_3⟩ : GWear) w _ (o_128.map fun b => ⟨b, 0, none⟩) xs_7.length cap_129 (hm.ownRow (hh := 8) (o := o_128) (T := 124) (enc := encGWornPin) (xs := xs_7) (sp := sp_130) (by kernel_rfl) (fun e => (ho_133 e).1) encGWornPin_len) rfl (o_134.map fun b => ⟨b, 0, none⟩) xs_8.length cap_135 (hm.ownRow (hh := 9) (o := o_134) (T := 2) (enc := encI64) (xs := xs_8) (sp := sp_136) (by kernel_rfl) (fun e => (ho_139 e).1) encI64_len) rfl (o_70.map fun b => ⟨b, 0, none⟩) xs_2.length cap_71 (hm.ownRow (hh := 3) (o := o_70) (T := 124) (enc := encGWornPin) (xs := xs_2) (sp := sp_72) (by kernel_rfl) (fun e => (ho_75 e).1) encGWornPin_len) rfl (o_76.map fun b => ⟨b, 0, none⟩) xs_3.length cap_77 (hm.ownRow (hh := 4) (o := o_76) (T := 2) (enc := encI64) (xs := xs_3) (sp := sp_78) (by kernel_rfl) (fun e => (ho_81 e).1) encI64_len) rfl ht_144) ?_)
        rintro w v w' hm ⟨rfl, hm'⟩
        refine ⟨_, hm.app hm', jkO ?_⟩
        clear hm hm'
        refine jo_f [(0, 0), (0, 0), (0, 1), (0, 1), (0, 1), (0, 0)] (by kernel_rfl) ?_
        refine jo_end (by kernel_rfl) ?_
        refine jx_then ?_
        refine jc_cond ((!t_11) || (i_9 != i_4)) (by kernel_rfl) (fun hc_145 => ?_) (fun hc_145 => ?_)
        · replace h := ifT hc_145 h
          refine jc_seq ?_
          refine jc_region ?_
          refine jo_f [(0, 0)] (by kernel_rfl) ?_
          refine jo_end (by kernel_rfl) ?_
          refine jx_then ?_
          refine jc_ret ?_
          refine jx_thenr ?_
          obtain rfl := Option.some.inj h
          exact jx_ret [] (.bool false) [] rfl (by kernel_rfl) (by kernel_rfl) (fun w hm => ⟨rfl, hm.pick [] (by kernel_rfl) (by kernel_rfl)⟩)
        · replace h := ifF hc_145 h
          refine jc_skip ?_
          refine jx_then ?_
          refine jc_seq ?_
          refine jc_seq ?_
          refine jc_draw [⟨some b_1, 25, [(.int .i16 aF0.fSteps), (.slice aF0_fHammers_a aF0.fHammers.length aF0_fHammers_c)]⟩, ⟨(some b_2), 57, row encU32 aD1.1 []⟩, ⟨some b_69, 52, [(.slice (o_70.map fun b => ⟨b, 0, none⟩) xs_2.length cap_71), (.slice (o_76.map fun b => ⟨b, 0, none⟩) xs_3.length cap_77)]⟩, ⟨o_70, 124, row encGWornPin xs_2 sp_72⟩, ⟨o_76, 2, row encI64 xs_3 sp_78⟩, ⟨some b_88, 35, [(.int .i16 t_6.fSteps), (.slice (o_83.map fun b => ⟨b, 0, none⟩) t_6.fHammers.length cap_84)]⟩, ⟨some b_127, 52, [(.slice (o_128.map fun b => ⟨b, 0, none⟩) xs_7.length cap_129), (.slice (o_134.map fun b => ⟨b, 0, none⟩) xs_8.length cap_135)]⟩] 5 (by kernel_rfl) (by kernel_rfl) ?_
          refine jd_f [⟨0, 5, 0⟩, ⟨1, 0, 0⟩] 3 (by kernel_rfl) (by kernel_rfl) (fun w h => h.pick [0, 1, 2, 3, 4, 6, 7] (by kernel_rfl) (by kernel_rfl)) (by kernel_rfl) (by kernel_rfl) ?_
          obtain ⟨t_12, ht_214, h⟩ := bd h
          refine toD 2 (by kernel_rfl) (p_call 0 17 #[(.agg #[(.int .i16 aF0.fSteps), (.slice aF0_fHammers_a aF0.fHammers.length aF0_fHammers_c)])] (by kernel_rfl) (by kernel_rfl) (fun w hm => laws_toFrame.calls aF0 w _ aF0_fHammers_a aF0.fHammers.length aF0_fHammers_c (hm.exRow aF0_fHammers_h List.not_mem_nil) rfl ht_214) ?_)
          rintro w v w' hm ⟨o_215, cap_216, sp_217, _, rfl, hs_218, ho_219, rfl, hm'⟩
          refine ⟨_, hm.app hm', jkD (fun w h => h.pick [0, 1, 2, 3, 4, 6, 7] (by kernel_rfl) (by kernel_rfl)) ?_⟩
          clear hm hm'
          obtain ⟨t_13, ht_220, h⟩ := bd h
          refine toD 3 (by kernel_rfl) (p_call 0 21 #[(.agg #[(.int .i16 t_6.fSteps), (.slice (o_83.map fun b => ⟨b, 0, none⟩) t_6.fHammers.length cap_84)]), (.agg #[(.int .i16 t_12.fSteps), (.slice (o_215.map fun b => ⟨b, 0, none⟩) t_12.fHammers.length cap_216)])] (by kernel_rfl) (by kernel_rfl) (fun w hm => laws_eqFrame.calls t_6 t_12 w _ (o_83.map fun b => ⟨b, 0, none⟩) t_6.fHammers.length cap_84 (hm.ownRow (hh := 5) (o := o_83) (T := 176) (enc := encGHammer) (xs := t_6.fHammers) (sp := sp_85) (by kernel_rfl) (fun e => (ho_87 e).1) encGHammer_len) rfl (o_215.map fun b => ⟨b, 0, none⟩) t_12.fHammers.length cap_216 (hm.ownRow (hh := 10) (o := o_215) (T := 176) (enc := encGHammer) (xs := t_12.fHammers) (sp := sp_217) (by kernel_rfl) (fun e => (ho_219 e).1) encGHammer_len) rfl ht_220) ?_)
          rintro w v w' hm ⟨rfl, hm'⟩
          refine ⟨_, hm.app hm', jkD (fun w h => h.pick [0, 1, 2, 3, 4, 6, 7] (by kernel_rfl) (by kernel_rfl)) ?_⟩
          clear hm hm'
          refine jd_f [⟨4, 0, 0⟩] 0 (by kernel_rfl) (by kernel_rfl) (fun w h => h.pick [0, 1, 2, 3, 4, 6, 7] (by kernel_rfl) (by kernel_rfl)) (by kernel_rfl) (by kernel_rfl) ?_
          refine jd_end (by kernel_rfl) ?_
          refine jx_then ?_
          refine jc_cond (!t_13) (by kernel_rfl) (fun hc_221 => ?_) (fun hc_221 => ?_)
          · replace h := ifT hc_221 h
            refine jc_seq ?_
            refine jc_region ?_
            refine jo_f [(0, 0)] (by kernel_rfl) ?_
            refine jo_end (by kernel_rfl) ?_
            refine jx_then ?_
            refine jc_ret ?_
            refine jx_thenr ?_
            obtain rfl := Option.some.inj h
            exact jx_ret [] (.bool false) [] rfl (by kernel_rfl) (by kernel_rfl) (fun w hm => ⟨rfl, hm.pick [] (by kernel_rfl) (by kernel_rfl)⟩)
          · replace h := ifF hc_221 h
            refine jc_skip ?_
            refine jx_then ?_
            refine jc_seq ?_
            refine jc_region ?_
            refine jo_f [(0, 0)] (by kernel_rfl) ?_
            refine jo_end (by kernel_rfl) ?_
            refine jx_then ?_
            refine jc_seq ?_
            refine jc_region ?_
            refine jo_f [(6, 0), (0, 0)] (by kernel_rfl) ?_
            obtain ⟨t_14, ht_222, h⟩ := bd h
            refine toO (by kernel_rfl) (p_call 0 22 #[(.agg #[(.int .i16 t_6.fSteps), (.slice (o_83.map fun b => ⟨b, 0, none⟩) t_6.fHammers.length cap_84)]), (.int .i64 1)] (by kernel_rfl) (by kernel_rfl) (fun w hm => laws_markFrame.calls t_6 1 w _ o_83 t_6.fHammers.length cap_84 sp_85 rfl hs_86 ho_87 (hm.pass (N := [⟨o_83, 176, row encGHammer t_6.fHammers sp_85⟩]) [5] (by kernel_rfl) (by kernel_rfl)) ht_222) ?_)
            rintro w v w' hm ⟨hn_223, ho_224, rfl, hm'⟩
            refine ⟨_, hm.appW (ps := [(5, ⟨o_83, 176, row encGHammer t_14.2 sp_85⟩)]) (N := []) hm' (by kernel_rfl) (by kernel_rfl), jkO ?_⟩
            clear hm hm'
            refine jo_f [(0, 0)] (by kernel_rfl) ?_
            refine jo_end (by kernel_rfl) ?_
            refine jx_then ?_
            refine jc_seq ?_
            refine jc_seq ?_
            refine jc_meet (fun (j : Bool) => match j with | q_15 => laws_FnExactFreshWear.k_16 aF0 aD1 xs_2 xs_3 i_4 xs_7 xs_8 q_15 = some r) (fun (j : Bool) => match j with | q_15 => [(2, [], (.pointer (some ⟨b_1, 0, none⟩))), (3, [], (.pointer (some ⟨b_2, 0, none⟩))), (4, [], (.bool false)), (6, [], (.pointer (some ⟨b_69, 0, none⟩))), (7, [], (.int .i64 i_4)), (9, [], (.pointer (some ⟨b_127, 0, none⟩))), (67, [], (.bool q_15))]) (fun (j : Bool) => match j with | q_15 => [⟨some b_1, 25, [(.int .i16 aF0.fSteps), (.slice aF0_fHammers_a aF0.fHammers.length aF0_fHammers_c)]⟩, ⟨(some b_2), 57, row encU32 aD1.1 []⟩, ⟨some b_69, 52, [(.slice (o_70.map fun b => ⟨b, 0, none⟩) xs_2.length cap_71), (.slice (o_76.map fun b => ⟨b, 0, none⟩) xs_3.length cap_77)]⟩, ⟨o_70, 124, row encGWornPin xs_2 sp_72⟩, ⟨o_76, 2, row encI64 xs_3 sp_78⟩, ⟨o_83, 176, row encGHammer t_14.2 sp_85⟩, ⟨some b_88, 35, [(.int .i16 t_6.fSteps), (.slice (o_83.map fun b => ⟨b, 0, none⟩) t_6.fHammers.length cap_84)]⟩, ⟨some b_127, 52, [(.slice (o_128.map fun b => ⟨b, 0, none⟩) xs_7.length cap_129), (.slice (o_134.map fun b => ⟨b, 0, none⟩) xs_8.length cap_135)]⟩, ⟨o_128, 124, row encGWornPin xs_7 sp_130⟩, ⟨o_134, 2, row encI64 xs_8 sp_136⟩, ⟨o_215, 176, row encGHammer t_12.fHammers sp_217⟩]) ?_ ?_
            · refine jc_region ?_
              refine jo_f [(0, 0), (0, 0), (0, 0), (7, 1), (2, 1)] (by kernel_rfl) ?_
              refine jo_split 57 (decide (t_14.1 < 0)) (by kernel_rfl) (fun hc_392 => ?_) (fun hc_392 => ?_)
              · replace h := ifT hc_392 h
                refine jo_f [(0, 3), (0, 3), (0, 4), (0, 0), (0, 3), (0, 3), (0, 3), (0, 4)] (by kernel_rfl) ?_
                refine jo_end (by kernel_rfl) ?_
                exact jx_meet true h (by kernel_rfl) [0, 1, 2, 3, 4, 5, 6, 7, 8, 9, 10] (by kernel_rfl) (by kernel_rfl)
              · replace h := ifF hc_392 h
                obtain ⟨t_28, ht_393, h⟩ := bd h
                refine toO (by kernel_rfl) (p_call 2 29 #[(.agg #[(.slice (o_128.map fun b => ⟨b, 0, none⟩) xs_7.length cap_129), (.slice (o_134.map fun b => ⟨b, 0, none⟩) xs_8.length cap_135)]), (.agg #[(.slice (o_70.map fun b => ⟨b, 0, none⟩) xs_2.length cap_71), (.slice (o_76.map fun b => ⟨b, 0, none⟩) xs_3.length cap_77)])] (by kernel_rfl) (by kernel_rfl) (fun w hm => laws_eqWear.calls (⟨xs_7, xs_8⟩ : GWear) (⟨xs_2, xs_3⟩ : GWear) w _ (o_128.map fun b => ⟨b, 0, none⟩) xs_7.length cap_129 (hm.ownRow (hh := 8) (o := o_128) (T := 124) (enc := encGWornPin) (xs := xs_7) (sp := sp_130) (by kernel_rfl) (fun e => (ho_133 e).1) encGWornPin_len) rfl (o_134.map fun b => ⟨b, 0, none⟩) xs_8.length cap_135 (hm.ownRow (hh := 9) (o := o_134) (T := 2) (enc := encI64) (xs := xs_8) (sp := sp_136) (by kernel_rfl) (fun e => (ho_139 e).1) encI64_len) rfl (o_70.map fun b => ⟨b, 0, none⟩) xs_2.length cap_71 (hm.ownRow (hh := 3) (o := o_70) (T := 124) (enc := encGWornPin) (xs := xs_2) (sp := sp_72) (by kernel_rfl) (fun e => (ho_75 e).1) encGWornPin_len) rfl (o_76.map fun b => ⟨b, 0, none⟩) xs_3.length cap_77 (hm.ownRow (hh := 4) (o := o_76) (T := 2) (enc := encI64) (xs := xs_3) (sp := sp_78) (by kernel_rfl) (fun e => (ho_81 e).1) encI64_len) rfl ht_393) ?_)
                rintro w v w' hm ⟨rfl, hm'⟩
                refine ⟨_, hm.app hm', jkO ?_⟩
                clear hm hm'
                refine jo_f [(0, 2), (0, 5), (0, 0), (0, 1), (0, 1), (0, 1), (0, 0)] (by kernel_rfl) ?_
                refine jo_end (by kernel_rfl) ?_
                exact jx_meet ((!t_28) || (i_9 != i_4)) h (by kernel_rfl) [0, 1, 2, 3, 4, 5, 6, 7, 8, 9, 10] (by kernel_rfl) (by kernel_rfl)
            · rintro q_15 h
              replace h : laws_FnExactFreshWear.k_16 aF0 aD1 xs_2 xs_3 i_4 xs_7 xs_8 q_15 = some r := h
              rw [laws_FnExactFreshWear.k_16] at h
              refine jx_then ?_
              refine jc_cond q_15 (by kernel_rfl) (fun hc_232 => ?_) (fun hc_232 => ?_)
              · replace h := ifT hc_232 h
                refine jc_seq ?_
                refine jc_region ?_
                refine jo_f [(0, 0)] (by kernel_rfl) ?_
                refine jo_end (by kernel_rfl) ?_
                refine jx_then ?_
                refine jc_ret ?_
                refine jx_thenr ?_
                obtain rfl := Option.some.inj h
                exact jx_ret [] (.bool false) [] rfl (by kernel_rfl) (by kernel_rfl) (fun w hm => ⟨rfl, hm.pick [] (by kernel_rfl) (by kernel_rfl)⟩)
              · replace h := ifF hc_232 h
                refine jc_skip ?_
                refine jx_then ?_
                refine jc_seq ?_
                refine jc_region ?_
                refine jo_f [(0, 0)] (by kernel_rfl) ?_
                refine jo_end (by kernel_rfl) ?_
                refine jx_then ?_
                refine jc_seq ?_
                refine jc_region ?_
                refine jo_f [(7, 0), (0, 0)] (by kernel_rfl) ?_
                obtain ⟨t_17, ht_233, h⟩ := bd h
                refine toO (by kernel_rfl) (p_call 0 37 #[(.agg #[(.slice (o_128.map fun b => ⟨b, 0, none⟩) xs_7.length cap_129), (.slice (o_134.map fun b => ⟨b, 0, none⟩) xs_8.length cap_135)]), (.int .i64 1)] (by kernel_rfl) (by kernel_rfl) (fun w hm => laws_markWear.calls (⟨xs_7, xs_8⟩ : GWear) 1 w _ o_128 xs_7.length cap_129 sp_130 rfl hs_132 ho_133 o_134 xs_8.length cap_135 sp_136 rfl hs_138 ho_139 (hm.pass (N := [⟨o_128, 124, row encGWornPin xs_7 sp_130⟩, ⟨o_134, 2, row encI64 xs_8 sp_136⟩]) [8, 9] (by kernel_rfl) (by kernel_rfl)) ht_233) ?_)
                rintro w v w' hm ⟨hn_234, ho_235, hn_236, ho_237, rfl, hm'⟩
                refine ⟨_, hm.appW (ps := [(8, ⟨o_128, 124, row encGWornPin t_17.2.1 sp_130⟩), (9, ⟨o_134, 2, row encI64 t_17.2.2 sp_136⟩)]) (N := []) hm' (by kernel_rfl) (by kernel_rfl), jkO ?_⟩
                clear hm hm'
                refine jo_f [(0, 0)] (by kernel_rfl) ?_
                refine jo_end (by kernel_rfl) ?_
                refine jx_then ?_
                refine jc_seq ?_
                refine jc_region ?_
                refine jo_f [(0, 0)] (by kernel_rfl) ?_
                refine jo_end (by kernel_rfl) ?_
                refine jx_then ?_
                refine jc_seq ?_
                refine jc_region ?_
                refine jo_f [(7, 0), (0, 0)] (by kernel_rfl) ?_
                obtain ⟨t_18, ht_238, h⟩ := bd h
                refine toO (by kernel_rfl) (p_call 0 38 #[(.agg #[(.slice (o_128.map fun b => ⟨b, 0, none⟩) xs_7.length cap_129), (.slice (o_134.map fun b => ⟨b, 0, none⟩) xs_8.length cap_135)]), (.int .i64 1)] (by kernel_rfl) (by kernel_rfl) (fun w hm => laws_heldWear.calls (⟨t_17.2.1, t_17.2.2⟩ : GWear) 1 w _ (o_128.map fun b => ⟨b, 0, none⟩) xs_7.length cap_129 (hm.ownRow (hh := 8) (o := o_128) (T := 124) (enc := encGWornPin) (xs := t_17.2.1) (sp := sp_130) (by kernel_rfl) (fun e => (ho_235 e).1) encGWornPin_len) hn_234 (o_134.map fun b => ⟨b, 0, none⟩) xs_8.length cap_135 (hm.ownRow (hh := 9) (o := o_134) (T := 2) (enc := encI64) (xs := t_17.2.2) (sp := sp_136) (by kernel_rfl) (fun e => (ho_237 e).1) encI64_len) hn_236 ht_238) ?_)
                rintro w v w' hm ⟨rfl, hm'⟩
                refine ⟨_, hm.app hm', jkO ?_⟩
                clear hm hm'
                refine jo_f [(0, 0)] (by kernel_rfl) ?_
                refine jo_end (by kernel_rfl) ?_
                refine jx_then ?_
                refine jc_seq ?_
                refine jc_seq ?_
                refine jc_region ?_
                refine jo_f [(0, 0), (0, 0)] (by kernel_rfl) ?_
                refine jo_end (by kernel_rfl) ?_
                refine jx_then ?_
                refine jc_cond (decide (t_18 < 0)) (by kernel_rfl) (fun hc_240 => ?_) (fun hc_240 => ?_)
                · replace h := ifT hc_240 h
                  refine jc_seq ?_
                  refine jc_region ?_
                  refine jo_f [(0, 0)] (by kernel_rfl) ?_
                  refine jo_end (by kernel_rfl) ?_
                  refine jx_then ?_
                  refine jc_ret ?_
                  refine jx_thenr ?_
                  obtain rfl := Option.some.inj h
                  exact jx_ret [] (.bool false) [] rfl (by kernel_rfl) (by kernel_rfl) (fun w hm => ⟨rfl, hm.pick [] (by kernel_rfl) (by kernel_rfl)⟩)
                · replace h := ifF hc_240 h
                  refine jc_skip ?_
                  refine jx_then ?_
                  refine jc_seq ?_
                  refine jc_seq ?_
                  refine jc_region ?_
                  refine jo_f [(0, 0), (0, 0), (0, 0)] (by kernel_rfl) ?_
                  refine jo_end (by kernel_rfl) ?_
                  refine jx_then ?_
                  refine jc_cond (t_18 != t_17.1) (by kernel_rfl) (fun hc_242 => ?_) (fun hc_242 => ?_)
                  · replace h := ifT hc_242 h
                    refine jc_seq ?_
                    refine jc_region ?_
                    refine jo_f [(0, 0)] (by kernel_rfl) ?_
                    refine jo_end (by kernel_rfl) ?_
                    refine jx_then ?_
                    refine jc_ret ?_
                    refine jx_thenr ?_
                    obtain rfl := Option.some.inj h
                    exact jx_ret [] (.bool false) [] rfl (by kernel_rfl) (by kernel_rfl) (fun w hm => ⟨rfl, hm.pick [] (by kernel_rfl) (by kernel_rfl)⟩)
                  · replace h := ifF hc_242 h
                    refine jc_skip ?_
                    refine jx_then ?_
                    refine jc_seq ?_
                    refine jc_meet (fun (j : (List GWornPin) × (List Int) × Int × Nat × (Option Nat) × Nat × (List Value) × Nat × (Option Nat) × Nat × (List Value) × Nat) => match j with | ⟨xs_19, xs_20, i_21, b_306, o_307, cap_308, sp_309, n_310, o_313, cap_314, sp_315, n_316⟩ => laws_FnExactFreshWear.k_22 xs_2 xs_3 i_4 t_17 xs_19 xs_20 i_21 = some r ∧ (xs_19.length = n_310) ∧ ((o_307 ≠ none → n_310 ≤ cap_308 ∧ sp_309.length = (cap_308 - n_310) * 3)) ∧ ((o_307 = none → xs_19 = [] ∧ cap_308 = 0)) ∧ (xs_20.length = n_316) ∧ ((o_313 ≠ none → n_316 ≤ cap_314 ∧ sp_315.length = (cap_314 - n_316) * 1)) ∧ ((o_313 = none → xs_20 = [] ∧ cap_314 = 0))) (fun (j : (List GWornPin) × (List Int) × Int × Nat × (Option Nat) × Nat × (List Value) × Nat × (Option Nat) × Nat × (List Value) × Nat) => match j with | ⟨xs_19, xs_20, i_21, b_306, o_307, cap_308, sp_309, n_310, o_313, cap_314, sp_315, n_316⟩ => [(4, [], (.bool false)), (6, [], (.pointer (some ⟨b_69, 0, none⟩))), (7, [], (.int .i64 i_4)), (9, [], (.pointer (some ⟨b_127, 0, none⟩))), (12, [], (.int .i64 t_17.1)), (13, [], (.int .i64 t_18)), (14, [], (.pointer (some ⟨b_306, 0, none⟩))), (15, [], (.int .i64 i_21))]) (fun (j : (List GWornPin) × (List Int) × Int × Nat × (Option Nat) × Nat × (List Value) × Nat × (Option Nat) × Nat × (List Value) × Nat) => match j with | ⟨xs_19, xs_20, i_21, b_306, o_307, cap_308, sp_309, n_310, o_313, cap_314, sp_315, n_316⟩ => [⟨some b_1, 25, [(.int .i16 aF0.fSteps), (.slice aF0_fHammers_a aF0.fHammers.length aF0_fHammers_c)]⟩, ⟨(some b_2), 57, row encU32 aD1.1 []⟩, ⟨some b_69, 52, [(.slice (o_70.map fun b => ⟨b, 0, none⟩) xs_2.length cap_71), (.slice (o_76.map fun b => ⟨b, 0, none⟩) xs_3.length cap_77)]⟩, ⟨o_70, 124, row encGWornPin xs_2 sp_72⟩, ⟨o_76, 2, row encI64 xs_3 sp_78⟩, ⟨o_83, 176, row encGHammer t_14.2 sp_85⟩, ⟨some b_88, 35, [(.int .i16 t_6.fSteps), (.slice (o_83.map fun b => ⟨b, 0, none⟩) t_6.fHammers.length cap_84)]⟩, ⟨some b_127, 52, [(.slice (o_128.map fun b => ⟨b, 0, none⟩) xs_7.length cap_129), (.slice (o_134.map fun b => ⟨b, 0, none⟩) xs_8.length cap_135)]⟩, ⟨o_128, 124, row encGWornPin t_17.2.1 sp_130⟩, ⟨o_134, 2, row encI64 t_17.2.2 sp_136⟩, ⟨o_215, 176, row encGHammer t_12.fHammers sp_217⟩, ⟨some b_306, 52, [(.slice (o_307.map fun b => ⟨b, 0, none⟩) n_310 cap_308), (.slice (o_313.map fun b => ⟨b, 0, none⟩) n_316 cap_314)]⟩, ⟨o_307, 124, row encGWornPin xs_19 sp_309⟩, ⟨o_313, 2, row encI64 xs_20 sp_315⟩]) ?_ ?_
                    · refine jc_draw [⟨some b_1, 25, [(.int .i16 aF0.fSteps), (.slice aF0_fHammers_a aF0.fHammers.length aF0_fHammers_c)]⟩, ⟨(some b_2), 57, row encU32 aD1.1 []⟩, ⟨some b_69, 52, [(.slice (o_70.map fun b => ⟨b, 0, none⟩) xs_2.length cap_71), (.slice (o_76.map fun b => ⟨b, 0, none⟩) xs_3.length cap_77)]⟩, ⟨o_70, 124, row encGWornPin xs_2 sp_72⟩, ⟨o_76, 2, row encI64 xs_3 sp_78⟩, ⟨o_83, 176, row encGHammer t_14.2 sp_85⟩, ⟨some b_88, 35, [(.int .i16 t_6.fSteps), (.slice (o_83.map fun b => ⟨b, 0, none⟩) t_6.fHammers.length cap_84)]⟩, ⟨some b_127, 52, [(.slice (o_128.map fun b => ⟨b, 0, none⟩) xs_7.length cap_129), (.slice (o_134.map fun b => ⟨b, 0, none⟩) xs_8.length cap_135)]⟩, ⟨o_128, 124, row encGWornPin t_17.2.1 sp_130⟩, ⟨o_134, 2, row encI64 t_17.2.2 sp_136⟩, ⟨o_215, 176, row encGHammer t_12.fHammers sp_217⟩] 11 (by kernel_rfl) (by kernel_rfl) ?_
                      refine jd_f [⟨0, 0, 0⟩] 10 (by kernel_rfl) (by kernel_rfl) (fun w h => h.pick [0, 1, 2, 3, 4, 5, 6, 7, 8, 9, 10] (by kernel_rfl) (by kernel_rfl)) (by kernel_rfl) (by kernel_rfl) ?_
                      refine jd_v 2 0 (by kernel_rfl) (fun w h => h.pick [0, 1, 2, 3, 4, 5, 6, 7, 8, 9, 10] (by kernel_rfl) (by kernel_rfl)) (by kernel_rfl) (by kernel_rfl) _ (fun w hm => ld_run (b := b_2) (off := 0) (s := 96) (agg := true) (vs := row encU32 aD1.1 []) (by kernel_rfl) ((row_len encU32_len aD1).trans rfl) (.inl rfl) (hm.all (hh := 1) (T := 57) (by kernel_rfl))) ?_
                      refine toD2 1 8 (by kernel_rfl) ?_ ?_
                      · obtain ⟨t_25, ht_329, h⟩ := bd h
                        refine p_call 0 17 #[(.agg #[(.int .i16 aF0.fSteps), (.slice aF0_fHammers_a aF0.fHammers.length aF0_fHammers_c)])] (by kernel_rfl) (by kernel_rfl) (fun w hm => laws_toFrame.calls aF0 w _ aF0_fHammers_a aF0.fHammers.length aF0_fHammers_c (hm.exRow aF0_fHammers_h List.not_mem_nil) rfl ht_329) ?_
                        rintro w v w' hm ⟨o_330, cap_331, sp_332, _, rfl, hs_333, ho_334, rfl, hm'⟩
                        refine ⟨_, hm.app hm', jkD (fun w h => h.pick [0, 1, 2, 3, 4, 5, 6, 7, 8, 9, 10] (by kernel_rfl) (by kernel_rfl)) ?_⟩
                        clear hm hm'
                        refine toD2 3 8 (by kernel_rfl) ?_ ?_
                        · obtain ⟨t_26, ht_335, h⟩ := bd h
                          refine p_call 0 31 #[(.agg (row encU32 aD1.1 []).toArray)] (by kernel_rfl) (by kernel_rfl) (fun w hm => laws_toDrum.calls aD1 w _ ht_335) ?_
                          rintro w v w' hm ⟨rfl, hm'⟩
                          refine ⟨_, hm.app hm', jkD (fun w h => h.pick [0, 1, 2, 3, 4, 5, 6, 7, 8, 9, 10] (by kernel_rfl) (by kernel_rfl)) ?_⟩
                          clear hm hm'
                          refine toD2 4 8 (by kernel_rfl) ?_ ?_
                          · obtain ⟨t_27, ht_336, h⟩ := bd h
                            refine p_call 0 36 #[(.agg #[(.int .i16 t_25.fSteps), (.slice (o_330.map fun b => ⟨b, 0, none⟩) t_25.fHammers.length cap_331)]), (.agg (row encU32 t_26.1 []).toArray)] (by kernel_rfl) (by kernel_rfl) (fun w hm => impl_FreshWear.calls t_25 t_26 w _ (o_330.map fun b => ⟨b, 0, none⟩) t_25.fHammers.length cap_331 (hm.ownRow (hh := 11) (o := o_330) (T := 176) (enc := encGHammer) (xs := t_25.fHammers) (sp := sp_332) (by kernel_rfl) (fun e => (ho_334 e).1) encGHammer_len) rfl ht_336) ?_
                            rintro w v w' hm ⟨o_337, cap_338, sp_339, _, rfl, hs_340, ho_341, o_342, cap_343, sp_344, _, rfl, hs_345, ho_346, rfl, hm'⟩
                            refine ⟨_, hm.app hm', jkD (fun w h => h.pick [0, 1, 2, 3, 4, 5, 6, 7, 8, 9, 10] (by kernel_rfl) (by kernel_rfl)) ?_⟩
                            clear hm hm'
                            refine jd_f [⟨5, 0, 0⟩, ⟨6, 0, 0⟩, ⟨7, 0, 0⟩] 3 (by kernel_rfl) (by kernel_rfl) (fun w h => h.pick [0, 1, 2, 3, 4, 5, 6, 7, 8, 9, 10] (by kernel_rfl) (by kernel_rfl)) (by kernel_rfl) (by kernel_rfl) ?_
                            refine toD 8 (by kernel_rfl) (p_a 0 [0] (by kernel_rfl) (fun b => by kernel_rfl) (fun b_347 => jkD (fun w h => h.pick [0, 1, 2, 3, 4, 5, 6, 7, 8, 9, 10] (by kernel_rfl) (by kernel_rfl)) ?_))
                            refine toD 9 (by kernel_rfl) (p_s 0 [14] (by kernel_rfl) (by kernel_rfl) (jkD (fun w h => h.pick [0, 1, 2, 3, 4, 5, 6, 7, 8, 9, 10] (by kernel_rfl) (by kernel_rfl)) ?_))
                            refine jd_f [⟨10, 0, 0⟩] 0 (by kernel_rfl) (by kernel_rfl) (fun w h => h.pick [0, 1, 2, 3, 4, 5, 6, 7, 8, 9, 10] (by kernel_rfl) (by kernel_rfl)) (by kernel_rfl) (by kernel_rfl) ?_
                            refine jd_end (by kernel_rfl) ?_
                            exact jx_meet ⟨t_27.1.fPins, t_27.1.fStrokes, t_27.2, b_347, o_337, cap_338, sp_339, t_27.1.fPins.length, o_342, cap_343, sp_344, t_27.1.fStrokes.length⟩ ⟨h, rfl, hs_340, ho_341, rfl, hs_345, ho_346⟩ (by kernel_rfl) [0, 1, 2, 3, 4, 5, 6, 7, 8, 9, 10, 14, 12, 13] (by kernel_rfl) (by kernel_rfl)
                          · refine p_a 0 [0] (by kernel_rfl) (fun b => by kernel_rfl) (fun b_348 => jkD (fun w h => h.pick [0, 1, 2, 3, 4, 5, 6, 7, 8, 9, 10] (by kernel_rfl) (by kernel_rfl)) ?_)
                            obtain ⟨t_27, ht_349, h⟩ := bd h
                            refine toD 4 (by kernel_rfl) (p_call 0 36 #[(.agg #[(.int .i16 t_25.fSteps), (.slice (o_330.map fun b => ⟨b, 0, none⟩) t_25.fHammers.length cap_331)]), (.agg (row encU32 t_26.1 []).toArray)] (by kernel_rfl) (by kernel_rfl) (fun w hm => impl_FreshWear.calls t_25 t_26 w _ (o_330.map fun b => ⟨b, 0, none⟩) t_25.fHammers.length cap_331 (hm.ownRow (hh := 11) (o := o_330) (T := 176) (enc := encGHammer) (xs := t_25.fHammers) (sp := sp_332) (by kernel_rfl) (fun e => (ho_334 e).1) encGHammer_len) rfl ht_349) ?_)
                            rintro w v w' hm ⟨o_350, cap_351, sp_352, _, rfl, hs_353, ho_354, o_355, cap_356, sp_357, _, rfl, hs_358, ho_359, rfl, hm'⟩
                            refine ⟨_, hm.app hm', jkD (fun w h => h.pick [0, 1, 2, 3, 4, 5, 6, 7, 8, 9, 10] (by kernel_rfl) (by kernel_rfl)) ?_⟩
                            clear hm hm'
                            refine jd_f [⟨5, 0, 0⟩, ⟨6, 0, 0⟩, ⟨7, 0, 0⟩] 2 (by kernel_rfl) (by kernel_rfl) (fun w h => h.pick [0, 1, 2, 3, 4, 5, 6, 7, 8, 9, 10] (by kernel_rfl) (by kernel_rfl)) (by kernel_rfl) (by kernel_rfl) ?_
                            refine toD 9 (by kernel_rfl) (p_s 0 [12] (by kernel_rfl) (by kernel_rfl) (jkD (fun w h => h.pick [0, 1, 2, 3, 4, 5, 6, 7, 8, 9, 10] (by kernel_rfl) (by kernel_rfl)) ?_))
                            refine jd_f [⟨10, 0, 0⟩] 0 (by kernel_rfl) (by kernel_rfl) (fun w h => h.pick [0, 1, 2, 3, 4, 5, 6, 7, 8, 9, 10] (by kernel_rfl) (by kernel_rfl)) (by kernel_rfl) (by kernel_rfl) ?_
                            refine jd_end (by kernel_rfl) ?_
                            exact jx_meet ⟨t_27.1.fPins, t_27.1.fStrokes, t_27.2, b_348, o_350, cap_351, sp_352, t_27.1.fPins.length, o_355, cap_356, sp_357, t_27.1.fStrokes.length⟩ ⟨h, rfl, hs_353, ho_354, rfl, hs_358, ho_359⟩ (by kernel_rfl) [0, 1, 2, 3, 4, 5, 6, 7, 8, 9, 10, 12, 13, 14] (by kernel_rfl) (by kernel_rfl)
                        · refine p_a 0 [0] (by kernel_rfl) (fun b => by kernel_rfl) (fun b_360 => jkD (fun w h => h.pick [0, 1, 2, 3, 4, 5, 6, 7, 8, 9, 10] (by kernel_rfl) (by kernel_rfl)) ?_)
                          obtain ⟨t_26, ht_361, h⟩ := bd h
                          refine toD 3 (by kernel_rfl) (p_call 0 31 #[(.agg (row encU32 aD1.1 []).toArray)] (by kernel_rfl) (by kernel_rfl) (fun w hm => laws_toDrum.calls aD1 w _ ht_361) ?_)
                          rintro w v w' hm ⟨rfl, hm'⟩
                          refine ⟨_, hm.app hm', jkD (fun w h => h.pick [0, 1, 2, 3, 4, 5, 6, 7, 8, 9, 10] (by kernel_rfl) (by kernel_rfl)) ?_⟩
                          clear hm hm'
                          obtain ⟨t_27, ht_362, h⟩ := bd h
                          refine toD 4 (by kernel_rfl) (p_call 0 36 #[(.agg #[(.int .i16 t_25.fSteps), (.slice (o_330.map fun b => ⟨b, 0, none⟩) t_25.fHammers.length cap_331)]), (.agg (row encU32 t_26.1 []).toArray)] (by kernel_rfl) (by kernel_rfl) (fun w hm => impl_FreshWear.calls t_25 t_26 w _ (o_330.map fun b => ⟨b, 0, none⟩) t_25.fHammers.length cap_331 (hm.ownRow (hh := 11) (o := o_330) (T := 176) (enc := encGHammer) (xs := t_25.fHammers) (sp := sp_332) (by kernel_rfl) (fun e => (ho_334 e).1) encGHammer_len) rfl ht_362) ?_)
                          rintro w v w' hm ⟨o_363, cap_364, sp_365, _, rfl, hs_366, ho_367, o_368, cap_369, sp_370, _, rfl, hs_371, ho_372, rfl, hm'⟩
                          refine ⟨_, hm.app hm', jkD (fun w h => h.pick [0, 1, 2, 3, 4, 5, 6, 7, 8, 9, 10] (by kernel_rfl) (by kernel_rfl)) ?_⟩
                          clear hm hm'
                          refine jd_f [⟨5, 0, 0⟩, ⟨6, 0, 0⟩, ⟨7, 0, 0⟩] 2 (by kernel_rfl) (by kernel_rfl) (fun w h => h.pick [0, 1, 2, 3, 4, 5, 6, 7, 8, 9, 10] (by kernel_rfl) (by kernel_rfl)) (by kernel_rfl) (by kernel_rfl) ?_
                          refine toD 9 (by kernel_rfl) (p_s 0 [12] (by kernel_rfl) (by kernel_rfl) (jkD (fun w h => h.pick [0, 1, 2, 3, 4, 5, 6, 7, 8, 9, 10] (by kernel_rfl) (by kernel_rfl)) ?_))
                          refine jd_f [⟨10, 0, 0⟩] 0 (by kernel_rfl) (by kernel_rfl) (fun w h => h.pick [0, 1, 2, 3, 4, 5, 6, 7, 8, 9, 10] (by kernel_rfl) (by kernel_rfl)) (by kernel_rfl) (by kernel_rfl) ?_
                          refine jd_end (by kernel_rfl) ?_
                          exact jx_meet ⟨t_27.1.fPins, t_27.1.fStrokes, t_27.2, b_360, o_363, cap_364, sp_365, t_27.1.fPins.length, o_368, cap_369, sp_370, t_27.1.fStrokes.length⟩ ⟨h, rfl, hs_366, ho_367, rfl, hs_371, ho_372⟩ (by kernel_rfl) [0, 1, 2, 3, 4, 5, 6, 7, 8, 9, 10, 12, 13, 14] (by kernel_rfl) (by kernel_rfl)
                      · refine p_a 0 [0] (by kernel_rfl) (fun b => by kernel_rfl) (fun b_373 => jkD (fun w h => h.pick [0, 1, 2, 3, 4, 5, 6, 7, 8, 9, 10] (by kernel_rfl) (by kernel_rfl)) ?_)
                        obtain ⟨t_25, ht_374, h⟩ := bd h
                        refine toD 1 (by kernel_rfl) (p_call 0 17 #[(.agg #[(.int .i16 aF0.fSteps), (.slice aF0_fHammers_a aF0.fHammers.length aF0_fHammers_c)])] (by kernel_rfl) (by kernel_rfl) (fun w hm => laws_toFrame.calls aF0 w _ aF0_fHammers_a aF0.fHammers.length aF0_fHammers_c (hm.exRow aF0_fHammers_h List.not_mem_nil) rfl ht_374) ?_)
                        rintro w v w' hm ⟨o_375, cap_376, sp_377, _, rfl, hs_378, ho_379, rfl, hm'⟩
                        refine ⟨_, hm.app hm', jkD (fun w h => h.pick [0, 1, 2, 3, 4, 5, 6, 7, 8, 9, 10] (by kernel_rfl) (by kernel_rfl)) ?_⟩
                        clear hm hm'
                        obtain ⟨t_26, ht_380, h⟩ := bd h
                        refine toD 3 (by kernel_rfl) (p_call 0 31 #[(.agg (row encU32 aD1.1 []).toArray)] (by kernel_rfl) (by kernel_rfl) (fun w hm => laws_toDrum.calls aD1 w _ ht_380) ?_)
                        rintro w v w' hm ⟨rfl, hm'⟩
                        refine ⟨_, hm.app hm', jkD (fun w h => h.pick [0, 1, 2, 3, 4, 5, 6, 7, 8, 9, 10] (by kernel_rfl) (by kernel_rfl)) ?_⟩
                        clear hm hm'
                        obtain ⟨t_27, ht_381, h⟩ := bd h
                        refine toD 4 (by kernel_rfl) (p_call 0 36 #[(.agg #[(.int .i16 t_25.fSteps), (.slice (o_375.map fun b => ⟨b, 0, none⟩) t_25.fHammers.length cap_376)]), (.agg (row encU32 t_26.1 []).toArray)] (by kernel_rfl) (by kernel_rfl) (fun w hm => impl_FreshWear.calls t_25 t_26 w _ (o_375.map fun b => ⟨b, 0, none⟩) t_25.fHammers.length cap_376 (hm.ownRow (hh := 12) (o := o_375) (T := 176) (enc := encGHammer) (xs := t_25.fHammers) (sp := sp_377) (by kernel_rfl) (fun e => (ho_379 e).1) encGHammer_len) rfl ht_381) ?_)
                        rintro w v w' hm ⟨o_382, cap_383, sp_384, _, rfl, hs_385, ho_386, o_387, cap_388, sp_389, _, rfl, hs_390, ho_391, rfl, hm'⟩
                        refine ⟨_, hm.app hm', jkD (fun w h => h.pick [0, 1, 2, 3, 4, 5, 6, 7, 8, 9, 10] (by kernel_rfl) (by kernel_rfl)) ?_⟩
                        clear hm hm'
                        refine jd_f [⟨5, 0, 0⟩, ⟨6, 0, 0⟩, ⟨7, 0, 0⟩] 2 (by kernel_rfl) (by kernel_rfl) (fun w h => h.pick [0, 1, 2, 3, 4, 5, 6, 7, 8, 9, 10] (by kernel_rfl) (by kernel_rfl)) (by kernel_rfl) (by kernel_rfl) ?_
                        refine toD 9 (by kernel_rfl) (p_s 0 [11] (by kernel_rfl) (by kernel_rfl) (jkD (fun w h => h.pick [0, 1, 2, 3, 4, 5, 6, 7, 8, 9, 10] (by kernel_rfl) (by kernel_rfl)) ?_))
                        refine jd_f [⟨10, 0, 0⟩] 0 (by kernel_rfl) (by kernel_rfl) (fun w h => h.pick [0, 1, 2, 3, 4, 5, 6, 7, 8, 9, 10] (by kernel_rfl) (by kernel_rfl)) (by kernel_rfl) (by kernel_rfl) ?_
                        refine jd_end (by kernel_rfl) ?_
                        exact jx_meet ⟨t_27.1.fPins, t_27.1.fStrokes, t_27.2, b_373, o_382, cap_383, sp_384, t_27.1.fPins.length, o_387, cap_388, sp_389, t_27.1.fStrokes.length⟩ ⟨h, rfl, hs_385, ho_386, rfl, hs_390, ho_391⟩ (by kernel_rfl) [0, 1, 2, 3, 4, 5, 6, 7, 8, 9, 10, 11, 13, 14] (by kernel_rfl) (by kernel_rfl)
                    · rintro ⟨xs_19, xs_20, i_21, b_306, o_307, cap_308, sp_309, n_310, o_313, cap_314, sp_315, n_316⟩ ⟨h, rfl, hs_311, ho_312, rfl, hs_317, ho_318⟩
                      replace h : laws_FnExactFreshWear.k_22 xs_2 xs_3 i_4 t_17 xs_19 xs_20 i_21 = some r := h
                      rw [laws_FnExactFreshWear.k_22] at h
                      refine jx_then ?_
                      refine jc_seq ?_
                      refine jc_seq ?_
                      refine jc_region ?_
                      refine jo_f [(11, 0), (2, 0)] (by kernel_rfl) ?_
                      obtain ⟨t_23, ht_323, h⟩ := bd h
                      refine toO (by kernel_rfl) (p_call 0 29 #[(.agg #[(.slice (o_307.map fun b => ⟨b, 0, none⟩) xs_19.length cap_308), (.slice (o_313.map fun b => ⟨b, 0, none⟩) xs_20.length cap_314)]), (.agg #[(.slice (o_70.map fun b => ⟨b, 0, none⟩) xs_2.length cap_71), (.slice (o_76.map fun b => ⟨b, 0, none⟩) xs_3.length cap_77)])] (by kernel_rfl) (by kernel_rfl) (fun w hm => laws_eqWear.calls (⟨xs_19, xs_20⟩ : GWear) (⟨xs_2, xs_3⟩ : GWear) w _ (o_307.map fun b => ⟨b, 0, none⟩) xs_19.length cap_308 (hm.ownRow (hh := 12) (o := o_307) (T := 124) (enc := encGWornPin) (xs := xs_19) (sp := sp_309) (by kernel_rfl) (fun e => (ho_312 e).1) encGWornPin_len) rfl (o_313.map fun b => ⟨b, 0, none⟩) xs_20.length cap_314 (hm.ownRow (hh := 13) (o := o_313) (T := 2) (enc := encI64) (xs := xs_20) (sp := sp_315) (by kernel_rfl) (fun e => (ho_318 e).1) encI64_len) rfl (o_70.map fun b => ⟨b, 0, none⟩) xs_2.length cap_71 (hm.ownRow (hh := 3) (o := o_70) (T := 124) (enc := encGWornPin) (xs := xs_2) (sp := sp_72) (by kernel_rfl) (fun e => (ho_75 e).1) encGWornPin_len) rfl (o_76.map fun b => ⟨b, 0, none⟩) xs_3.length cap_77 (hm.ownRow (hh := 4) (o := o_76) (T := 2) (enc := encI64) (xs := xs_3) (sp := sp_78) (by kernel_rfl) (fun e => (ho_81 e).1) encI64_len) rfl ht_323) ?_)
                      rintro w v w' hm ⟨rfl, hm'⟩
                      refine ⟨_, hm.app hm', jkO ?_⟩
                      clear hm hm'
                      refine jo_f [(0, 0), (0, 0), (0, 1), (0, 1), (0, 1), (0, 0)] (by kernel_rfl) ?_
                      refine jo_end (by kernel_rfl) ?_
                      refine jx_then ?_
                      refine jc_cond ((!t_23) || (i_21 != i_4)) (by kernel_rfl) (fun hc_324 => ?_) (fun hc_324 => ?_)
                      · replace h := ifT hc_324 h
                        refine jc_seq ?_
                        refine jc_region ?_
                        refine jo_f [(0, 0)] (by kernel_rfl) ?_
                        refine jo_end (by kernel_rfl) ?_
                        refine jx_then ?_
                        refine jc_ret ?_
                        refine jx_thenr ?_
                        obtain rfl := Option.some.inj h
                        exact jx_ret [] (.bool false) [] rfl (by kernel_rfl) (by kernel_rfl) (fun w hm => ⟨rfl, hm.pick [] (by kernel_rfl) (by kernel_rfl)⟩)
                      · replace h := ifF hc_324 h
                        refine jc_skip ?_
                        refine jx_then ?_
                        refine jc_seq ?_
                        refine jc_region ?_
                        refine jo_f [(0, 0)] (by kernel_rfl) ?_
                        refine jo_end (by kernel_rfl) ?_
                        refine jx_then ?_
                        refine jc_seq ?_
                        refine jc_region ?_
                        refine jo_f [(7, 0), (0, 0)] (by kernel_rfl) ?_
                        obtain ⟨t_24, ht_325, h⟩ := bd h
                        refine toO (by kernel_rfl) (p_call 0 38 #[(.agg #[(.slice (o_128.map fun b => ⟨b, 0, none⟩) xs_7.length cap_129), (.slice (o_134.map fun b => ⟨b, 0, none⟩) xs_8.length cap_135)]), (.int .i64 1)] (by kernel_rfl) (by kernel_rfl) (fun w hm => laws_heldWear.calls (⟨t_17.2.1, t_17.2.2⟩ : GWear) 1 w _ (o_128.map fun b => ⟨b, 0, none⟩) xs_7.length cap_129 (hm.ownRow (hh := 8) (o := o_128) (T := 124) (enc := encGWornPin) (xs := t_17.2.1) (sp := sp_130) (by kernel_rfl) (fun e => (ho_235 e).1) encGWornPin_len) hn_234 (o_134.map fun b => ⟨b, 0, none⟩) xs_8.length cap_135 (hm.ownRow (hh := 9) (o := o_134) (T := 2) (enc := encI64) (xs := t_17.2.2) (sp := sp_136) (by kernel_rfl) (fun e => (ho_237 e).1) encI64_len) hn_236 ht_325) ?_)
                        rintro w v w' hm ⟨rfl, hm'⟩
                        refine ⟨_, hm.app hm', jkO ?_⟩
                        clear hm hm'
                        refine jo_f [(0, 0)] (by kernel_rfl) ?_
                        refine jo_end (by kernel_rfl) ?_
                        refine jx_then ?_
                        refine jc_seq ?_
                        refine jc_seq ?_
                        refine jc_region ?_
                        refine jo_f [(0, 0), (0, 0)] (by kernel_rfl) ?_
                        refine jo_end (by kernel_rfl) ?_
                        refine jx_then ?_
                        refine jc_cond (decide (t_24 < 0)) (by kernel_rfl) (fun hc_327 => ?_) (fun hc_327 => ?_)
                        · replace h := ifT hc_327 h
                          refine jc_seq ?_
                          refine jc_region ?_
                          refine jo_f [(0, 0)] (by kernel_rfl) ?_
                          refine jo_end (by kernel_rfl) ?_
                          refine jx_then ?_
                          refine jc_ret ?_
                          refine jx_thenr ?_
                          obtain rfl := Option.some.inj h
                          exact jx_ret [] (.bool false) [] rfl (by kernel_rfl) (by kernel_rfl) (fun w hm => ⟨rfl, hm.pick [] (by kernel_rfl) (by kernel_rfl)⟩)
                        · replace h := ifF hc_327 h
                          refine jc_skip ?_
                          refine jx_then ?_
                          refine jc_seq ?_
                          refine jc_seq ?_
                          refine jc_region ?_
                          refine jo_f [(0, 0), (0, 0), (0, 0)] (by kernel_rfl) ?_
                          refine jo_end (by kernel_rfl) ?_
                          refine jx_then ?_
                          refine jc_cond (t_24 != t_17.1) (by kernel_rfl) (fun hc_328 => ?_) (fun hc_328 => ?_)
                          · replace h := ifT hc_328 h
                            refine jc_seq ?_
                            refine jc_region ?_
                            refine jo_f [(0, 0)] (by kernel_rfl) ?_
                            refine jo_end (by kernel_rfl) ?_
                            refine jx_then ?_
                            refine jc_ret ?_
                            refine jx_thenr ?_
                            obtain rfl := Option.some.inj h
                            exact jx_ret [] (.bool false) [] rfl (by kernel_rfl) (by kernel_rfl) (fun w hm => ⟨rfl, hm.pick [] (by kernel_rfl) (by kernel_rfl)⟩)
                          · replace h := ifF hc_328 h
                            refine jc_skip ?_
                            refine jx_then ?_
                            refine jc_seq ?_
                            refine jc_region ?_
                            refine jo_f [(0, 0)] (by kernel_rfl) ?_
                            refine jo_end (by kernel_rfl) ?_
                            refine jx_then ?_
                            refine jc_ret ?_
                            obtain rfl := Option.some.inj h
                            exact jx_ret [] (.bool true) [] rfl (by kernel_rfl) (by kernel_rfl) (fun w hm => ⟨rfl, hm.pick [] (by kernel_rfl) (by kernel_rfl)⟩)
end Go.Proofs.Ytdnkjgmncfhejaa
