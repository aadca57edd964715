/- Functions of the program that the laws reach: a plain function each, and that the call comes to its answer if the plain function has one. Printed by a program. -/
import Derived.Test.YtdnkjgmncfhejaaT
import Derived.Test.YtdnkjgmncfhejaaM0
import Derived.Test.YtdnkjgmncfhejaaM2
import Derived.Test.YtdnkjgmncfhejaaM3
import Derived.Test.YtdnkjgmncfhejaaM6
import Derived.Test.YtdnkjgmncfhejaaM7
import Derived.Test.YtdnkjgmncfhejaaM11
import Derived.Test.YtdnkjgmncfhejaaM13
import Derived.Test.YtdnkjgmncfhejaaM18
namespace Go.Proofs.Ytdnkjgmncfhejaa
open Eng
set_option linter.unusedVariables false

/-! ### spec.NewHammer -/
noncomputable def spec_NewHammer (f0 : GFrame) (w1 : GWear) (track2 : Int) : Option (GWear × Int) := (spec_l06Ok f0 w1).bind fun t_1 => (if (!t_1) = true then some ((⟨[], []⟩ : GWear), 1) else (spec_l00In track2 0 (w64 ((f0.fHammers.length : Int) - 1))).bind fun t_2 => (if (!t_2) = true then some ((⟨[], []⟩ : GWear), 2) else (spec_l06Copy w1).bind fun t_3 => (ix t_3.fStrokes track2).bind fun x_4 => some ((⟨t_3.fPins, (t_3.fStrokes.set track2.toNat 0)⟩ : GWear), 0)))
set_option maxRecDepth 100000 in
theorem spec_NewHammer.calls (f0 : GFrame) (w1 : GWear) (track2 : Int) (w : World) (r : GWear × Int) (f0_fHammers_a : Option Addr) (f0_fHammers_an : Nat) (f0_fHammers_c : Nat) (f0_fHammers_h : Rw w f0_fHammers_a 2 encGHammer f0.fHammers) (f0_fHammers_hn : f0.fHammers.length = f0_fHammers_an) (w1_fPins_a : Option Addr) (w1_fPins_an : Nat) (w1_fPins_c : Nat) (w1_fPins_h : Rw w w1_fPins_a 3 encGWornPin w1.fPins) (w1_fPins_hn : w1.fPins.length = w1_fPins_an) (w1_fStrokes_a : Option Addr) (w1_fStrokes_an : Nat) (w1_fStrokes_c : Nat) (w1_fStrokes_h : Rw w w1_fStrokes_a 1 encI64 w1.fStrokes) (w1_fStrokes_hn : w1.fStrokes.length = w1_fStrokes_an) (h : spec_NewHammer f0 w1 track2 = some r) :
    Calls Try.prog 47 #[(.agg #[(.int .i16 f0.fSteps), (.slice f0_fHammers_a f0_fHammers_an f0_fHammers_c)]), (.agg #[(.slice w1_fPins_a w1_fPins_an w1_fPins_c), (.slice w1_fStrokes_a w1_fStrokes_an w1_fStrokes_c)]), (.int .i64 track2)] w fun e w' => ∃ v, e = .returned v ∧ (∃ (o0 : Option Nat) (c0 : Nat) (s0 : List Value) (n0 : Nat), r.1.fPins.length = n0 ∧ (o0 ≠ none → n0 ≤ c0 ∧ s0.length = (c0 - n0) * 3) ∧ (o0 = none → r.1.fPins = [] ∧ c0 = 0) ∧ ∃ (o1 : Option Nat) (c1 : Nat) (s1 : List Value) (n1 : Nat), r.1.fStrokes.length = n1 ∧ (o1 ≠ none → n1 ≤ c1 ∧ s1.length = (c1 - n1) * 1) ∧ (o1 = none → r.1.fStrokes = [] ∧ c1 = 0) ∧ v = .tuple #[.agg #[.slice (o0.map fun b => ⟨b, 0, none⟩) n0 c0, .slice (o1.map fun b => ⟨b, 0, none⟩) n1 c1], (.int .i64 r.2)] ∧ Mem w [] [⟨o0, 124, row encGWornPin r.1.fPins s0⟩, ⟨o1, 2, row encI64 r.1.fStrokes s1⟩] w') := by
  subst f0_fHammers_hn w1_fPins_hn w1_fStrokes_hn
  rw [spec_NewHammer] at h
  refine enter (args := [(.agg #[(.int .i16 f0.fSteps), (.slice f0_fHammers_a f0.fHammers.length f0_fHammers_c)]), (.agg #[(.slice w1_fPins_a w1.fPins.length w1_fPins_c), (.slice w1_fStrokes_a w1.fStrokes.length w1_fStrokes_c)]), (.int .i64 track2)]) Try.func47 rfl Try.ntmps47 (by kernel_rfl) (L := []) (W := []) (Mem.start w) ?_
  refine jc_seq ?_
  refine jc_region ?_
  refine toO (by kernel_rfl) (p_a 0 [0] (by kernel_rfl) (fun b => by kernel_rfl) (fun b_1 => jkO ?_))
  refine toO (by kernel_rfl) (p_a 0 [0] (by kernel_rfl) (fun b => by kernel_rfl) (fun b_2 => jkO ?_))
  refine toO (by kernel_rfl) (p_a 0 [0] (by kernel_rfl) (fun b => by kernel_rfl) (fun b_3 => jkO ?_))
  refine jo_f [(0, 0)] (by kernel_rfl) ?_
  refine jo_end (by kernel_rfl) ?_
  refine jx_then ?_
  refine jc_seq ?_
  refine jc_seq ?_
  refine jc_region ?_
  obtain ⟨t_1, ht_6, h⟩ := bd h
  refine toO (by kernel_rfl) (p_call 0 80 #[(.pointer (some ⟨b_1, 0, none⟩)), (.pointer (some ⟨b_2, 0, none⟩))] (by kernel_rfl) (by kernel_rfl) (fun w hm => spec_l06Ok.calls f0 w1 w _ f0_fHammers_a f0.fHammers.length f0_fHammers_c (hm.exRow f0_fHammers_h List.not_mem_nil) rfl w1_fPins_a w1.fPins.length w1_fPins_c (hm.exRow w1_fPins_h List.not_mem_nil) rfl w1_fStrokes_a w1.fStrokes.length w1_fStrokes_c (hm.exRow w1_fStrokes_h List.not_mem_nil) rfl b_1 b_2 (hm.pass (N := [⟨some b_1, 35, [(.int .i16 f0.fSteps), (.slice f0_fHammers_a f0.fHammers.length f0_fHammers_c)]⟩, ⟨some b_2, 52, [(.slice w1_fPins_a w1.fPins.length w1_fPins_c), (.slice w1_fStrokes_a w1.fStrokes.length w1_fStrokes_c)]⟩]) [0, 1] (by kernel_rfl) (by kernel_rfl)) (hm.exApart (N := [⟨some b_1, 35, [(.int .i16 f0.fSteps), (.slice f0_fHammers_a f0.fHammers.length f0_fHammers_c)]⟩, ⟨some b_2, 52, [(.slice w1_fPins_a w1.fPins.length w1_fPins_c), (.slice w1_fStrokes_a w1.fStrokes.length w1_fStrokes_c)]⟩]) f0_fHammers_h (fun _ => List.not_mem_nil) [0, 1] (by kernel_rfl)) (hm.exApart (N := [⟨some b_1, 35, [(.int .i16 f0.fSteps), (.slice f0_fHammers_a f0.fHammers.length f0_fHammers_c)]⟩, ⟨some b_2, 52, [(.slice w1_fPins_a w1.fPins.length w1_fPins_c), (.slice w1_fStrokes_a w1.fStrokes.length w1_fStrokes_c)]⟩]) w1_fPins_h (fun _ => List.not_mem_nil) [0, 1] (by kernel_rfl)) (hm.exApart (N := [⟨some b_1, 35, [(.int .i16 f0.fSteps), (.slice f0_fHammers_a f0.fHammers.length f0_fHammers_c)]⟩, ⟨some b_2, 52, [(.slice w1_fPins_a w1.fPins.length w1_fPins_c), (.slice w1_fStrokes_a w1.fStrokes.length w1_fStrokes_c)]⟩]) w1_fStrokes_h (fun _ => List.not_mem_nil) [0, 1] (by kernel_rfl)) ht_6) ?_)
  rintro w v w' hm ⟨rfl, hm'⟩
  refine ⟨_, hm.appW (ps := [(0, ⟨some b_1, 35, [(.int .i16 f0.fSteps), (.slice f0_fHammers_a f0.fHammers.length f0_fHammers_c)]⟩), (1, ⟨some b_2, 52, [(.slice w1_fPins_a w1.fPins.length w1_fPins_c), (.slice w1_fStrokes_a w1.fStrokes.length w1_fStrokes_c)]⟩)]) (N := []) hm' (by kernel_rfl) (by kernel_rfl), jkO ?_⟩
  clear hm hm'
  refine jo_f [(0, 0)] (by kernel_rfl) ?_
  refine jo_end (by kernel_rfl) ?_
  refine jx_then ?_
  refine jc_cond (!t_1) (by kernel_rfl) (fun hc_7 => ?_) (fun hc_7 => ?_)
  · replace h := ifT hc_7 h
    refine jc_seq ?_
    refine jc_region ?_
    refine jo_f [(0, 0)] (by kernel_rfl) ?_
    refine toO (by kernel_rfl) (p_s 0 [2] (by kernel_rfl) (by kernel_rfl) (jkO ?_))
    refine jo_f [(0, 0)] (by kernel_rfl) ?_
    refine jo_end (by kernel_rfl) ?_
    refine jx_then ?_
    refine jc_ret ?_
    refine jx_thenr ?_
    obtain rfl := Option.some.inj h
    refine jx_ghost 124 encGWornPin ?_
    refine jx_ghost 2 encI64 ?_
    exact jx_ret [2] (.tuple #[(.agg #[(.slice none 0 0), (.slice none 0 0)]), (.int .i64 1)]) [(b_3, b_3), (b_3, b_3)] rfl (by kernel_rfl) (by kernel_rfl) (fun w hm => ⟨none, 0, [], 0, rfl, (fun e => absurd rfl e), (fun _ => ⟨rfl, rfl⟩), none, 0, [], 0, rfl, (fun e => absurd rfl e), (fun _ => ⟨rfl, rfl⟩), rfl, hm.pick [3, 4] (by kernel_rfl) (by kernel_rfl)⟩)
  · replace h := ifF hc_7 h
    refine jc_skip ?_
    refine jx_then ?_
    refine jc_seq ?_
    refine jc_seq ?_
    refine jc_region ?_
    refine jo_f [(0, 0), (0, 0), (0, 0), (0, 0), (0, 0)] (by kernel_rfl) ?_
    obtain ⟨t_2, ht_10, h⟩ := bd h
    refine toO (by kernel_rfl) (p_call 0 104 #[(.int .i64 track2), (.int .i64 0), (.int .i64 (w64 ((f0.fHammers.length : Int) - 1)))] (by kernel_rfl) (by kernel_rfl) (fun w hm => spec_l00In.calls track2 0 (w64 ((f0.fHammers.length : Int) - 1)) w _ ht_10) ?_)
    rintro w v w' hm ⟨rfl, hm'⟩
    refine ⟨_, hm.app hm', jkO ?_⟩
    clear hm hm'
    refine jo_f [(0, 0)] (by kernel_rfl) ?_
    refine jo_end (by kernel_rfl) ?_
    refine jx_then ?_
    refine jc_cond (!t_2) (by kernel_rfl) (fun hc_11 => ?_) (fun hc_11 => ?_)
    · replace h := ifT hc_11 h
      refine jc_seq ?_
      refine jc_region ?_
      refine jo_f [(0, 0)] (by kernel_rfl) ?_
      refine toO (by kernel_rfl) (p_s 0 [2] (by kernel_rfl) (by kernel_rfl) (jkO ?_))
      refine jo_f [(0, 0)] (by kernel_rfl) ?_
      refine jo_end (by kernel_rfl) ?_
      refine jx_then ?_
      refine jc_ret ?_
      refine jx_thenr ?_
      obtain rfl := Option.some.inj h
      refine jx_ghost 124 encGWornPin ?_
      refine jx_ghost 2 encI64 ?_
      exact jx_ret [2] (.tuple #[(.agg #[(.slice none 0 0), (.slice none 0 0)]), (.int .i64 2)]) [(b_3, b_3), (b_3, b_3)] rfl (by kernel_rfl) (by kernel_rfl) (fun w hm => ⟨none, 0, [], 0, rfl, (fun e => absurd rfl e), (fun _ => ⟨rfl, rfl⟩), none, 0, [], 0, rfl, (fun e => absurd rfl e), (fun _ => ⟨rfl, rfl⟩), rfl, hm.pick [3, 4] (by kernel_rfl) (by kernel_rfl)⟩)
    · replace h := ifF hc_11 h
      refine jc_skip ?_
      refine jx_then ?_
      refine jc_seq ?_
      refine jc_region ?_
      obtain ⟨t_3, ht_12, h⟩ := bd h
      refine toO (by kernel_rfl) (p_call 0 113 #[(.pointer (some ⟨b_2, 0, none⟩))] (by kernel_rfl) (by kernel_rfl) (fun w hm => spec_l06Copy.calls w1 w _ w1_fPins_a w1.fPins.length w1_fPins_c (hm.exRow w1_fPins_h List.not_mem_nil) rfl w1_fStrokes_a w1.fStrokes.length w1_fStrokes_c (hm.exRow w1_fStrokes_h List.not_mem_nil) rfl b_2 (hm.pass (N := [⟨some b_2, 52, [(.slice w1_fPins_a w1.fPins.length w1_fPins_c), (.slice w1_fStrokes_a w1.fStrokes.length w1_fStrokes_c)]⟩]) [1] (by kernel_rfl) (by kernel_rfl)) (hm.exApart (N := [⟨some b_2, 52, [(.slice w1_fPins_a w1.fPins.length w1_fPins_c), (.slice w1_fStrokes_a w1.fStrokes.length w1_fStrokes_c)]⟩]) w1_fPins_h (fun _ => List.not_mem_nil) [1] (by kernel_rfl)) (hm.exApart (N := [⟨some b_2, 52, [(.slice w1_fPins_a w1.fPins.length w1_fPins_c), (.slice w1_fStrokes_a w1.fStrokes.length w1_fStrokes_c)]⟩]) w1_fStrokes_h (fun _ => List.not_mem_nil) [1] (by kernel_rfl)) ht_12) ?_)
      rintro w v w' hm ⟨o_13, cap_14, sp_15, _, rfl, hs_16, ho_17, o_18, cap_19, sp_20, _, rfl, hs_21, ho_22, rfl, hm'⟩
      refine ⟨_, hm.appW (ps := [(1, ⟨some b_2, 52, [(.slice w1_fPins_a w1.fPins.length w1_fPins_c), (.slice w1_fStrokes_a w1.fStrokes.length w1_fStrokes_c)]⟩)]) (N := [⟨o_13, 124, row encGWornPin t_3.fPins sp_15⟩, ⟨o_18, 2, row encI64 t_3.fStrokes sp_20⟩]) hm' (by kernel_rfl) (by kernel_rfl), jkO ?_⟩
      clear hm hm'
      refine toO (by kernel_rfl) (p_a 0 [0] (by kernel_rfl) (fun b => by kernel_rfl) (fun b_23 => jkO ?_))
      refine toO (by kernel_rfl) (p_s 0 [5] (by kernel_rfl) (by kernel_rfl) (jkO ?_))
      refine jo_end (by kernel_rfl) ?_
      refine jx_then ?_
      refine jc_seq ?_
      refine jc_region ?_
      refine jo_f [(0, 0), (5, 0), (0, 0)] (by kernel_rfl) ?_
      obtain ⟨x_4, hx_24, h⟩ := bd h
      refine toO (by kernel_rfl) (p_idx 0 (o_18.map fun b => ⟨b, 0, none⟩) t_3.fStrokes.length track2 1 (by kernel_rfl) (by kernel_rfl) (ix_some hx_24).1 (ltn hx_24 rfl) (spo ho_22 hx_24) (jkO ?_))
      refine toO (by kernel_rfl) (p_strO 0 4 o_18 2 encI64 t_3.fStrokes sp_20 track2 0 1 0 [(.int .i64 0)] (by kernel_rfl) (by kernel_rfl) (by kernel_rfl) (fun e => (ho_22 e).1) encI64_len hx_24 (by kernel_rfl) (by kernel_rfl) (jkO ?_))
      refine jo_end (by kernel_rfl) ?_
      refine jx_then ?_
      refine jc_seq ?_
      refine jc_region ?_
      refine jo_f [(5, 0)] (by kernel_rfl) ?_
      refine toO (by kernel_rfl) (p_s 0 [2] (by kernel_rfl) (by kernel_rfl) (jkO ?_))
      refine jo_f [(0, 0)] (by kernel_rfl) ?_
      refine jo_end (by kernel_rfl) ?_
      refine jx_then ?_
      refine jc_ret ?_
      obtain rfl := Option.some.inj h
      exact jx_ret [2] (.tuple #[(.agg #[(.slice (o_13.map fun b => ⟨b, 0, none⟩) t_3.fPins.length cap_14), (.slice (o_18.map fun b => ⟨b, 0, none⟩) t_3.fStrokes.length cap_19)]), (.int .i64 0)]) [(b_3, b_3), (b_3, b_3)] rfl (by kernel_rfl) (by kernel_rfl) (fun w hm => ⟨o_13, cap_14, sp_15, t_3.fPins.length, rfl, hs_16, ho_17, o_18, cap_19, sp_20, t_3.fStrokes.length, (List.length_set.trans rfl), hs_21, (set_ho ho_22), rfl, hm.pick [3, 4] (by kernel_rfl) (by kernel_rfl)⟩)

/-! ### impl.wornPlaceCode$1 -/
noncomputable def impl_wornPlaceCode_1 (p0 : Arr 2 Int) (p1 : GFrame) : Option (Bool) := (ix p0.1 0).bind fun x_1 => (ix p0.1 1).bind fun x_2 => (impl_Frame_isPlace p1 x_1 x_2).bind fun t_3 => some (!t_3)
set_option maxRecDepth 100000 in
theorem impl_wornPlaceCode_1.calls (p0 : Arr 2 Int) (p1 : GFrame) (w : World) (r : Bool) (p1_fHammers_a : Option Addr) (p1_fHammers_an : Nat) (p1_fHammers_c : Nat) (p1_fHammers_h : Rw w p1_fHammers_a 2 encGHammer p1.fHammers) (p1_fHammers_hn : p1.fHammers.length = p1_fHammers_an) (p1_b : Nat) (hm0 : Mem w (bs [some p1_b]) [⟨some p1_b, 35, [(.int .i16 p1.fSteps), (.slice p1_fHammers_a p1_fHammers_an p1_fHammers_c)]⟩] w) (p1_fHammers_ha : p1.fHammers ≠ [] → aB p1_fHammers_a ∉ bs [some p1_b]) (h : impl_wornPlaceCode_1 p0 p1 = some r) :
    Calls Try.prog 164 #[(.agg (row encI64 p0.1 []).toArray), (.pointer (some ⟨p1_b, 0, none⟩))] w fun e w' => ∃ v, e = .returned v ∧ (v = (.bool r) ∧ Mem w (bs [some p1_b]) [⟨some p1_b, 35, [(.int .i16 p1.fSteps), (.slice p1_fHammers_a p1_fHammers_an p1_fHammers_c)]⟩] w') := by
  subst p1_fHammers_hn
  rw [impl_wornPlaceCode_1] at h
  refine enter (args := [(.agg (row encI64 p0.1 []).toArray), (.pointer (some ⟨p1_b, 0, none⟩))]) Try.func164 rfl Try.ntmps164 (by kernel_rfl) (L := [⟨some p1_b, 35, [(.int .i16 p1.fSteps), (.slice p1_fHammers_a p1.fHammers.length p1_fHammers_c)]⟩]) (W := bs [some p1_b]) hm0 ?_
  refine jc_seq ?_
  refine jc_region ?_
  refine toO (by kernel_rfl) (p_a 0 [0] (by kernel_rfl) (fun b => by kernel_rfl) (fun b_1 => jkO ?_))
  refine jo_f [(0, 0)] (by kernel_rfl) ?_
  refine jo_end (by kernel_rfl) ?_
  refine jx_then ?_
  refine jc_seq ?_
  refine jc_region ?_
  refine jo_f [(0, 0)] (by kernel_rfl) ?_
  obtain ⟨x_1, hx_2, h⟩ := bd h
  refine toO (by kernel_rfl) (p_idx 0 (some ⟨b_1, 0, none⟩) 2 0 1 (by kernel_rfl) (by kernel_rfl) (ix_some hx_2).1 (ltn hx_2 p0.2) rfl (jkO ?_))
  refine toO (by kernel_rfl) (p_ld 0 (aB (some ⟨b_1, 0, none⟩)) (aO (some ⟨b_1, 0, none⟩) + (0 : Int).toNat * 1) false (encI64 x_1) (by kernel_rfl) (by kernel_rfl) (by kernel_rfl) (fun w hm => ((hm.ownRow (hh := 1) (o := (some b_1)) (T := 154) (enc := encI64) (xs := p0.1) (sp := []) (by kernel_rfl) (fun e => nomatch e) encI64_len).at hx_2)) (jkO ?_))
  obtain ⟨x_2, hx_3, h⟩ := bd h
  refine toO (by kernel_rfl) (p_idx 0 (some ⟨b_1, 0, none⟩) 2 1 1 (by kernel_rfl) (by kernel_rfl) (ix_some hx_3).1 (ltn hx_3 p0.2) rfl (jkO ?_))
  refine toO (by kernel_rfl) (p_ld 0 (aB (some ⟨b_1, 0, none⟩)) (aO (some ⟨b_1, 0, none⟩) + (1 : Int).toNat * 1) false (encI64 x_2) (by kernel_rfl) (by kernel_rfl) (by kernel_rfl) (fun w hm => ((hm.ownRow (hh := 1) (o := (some b_1)) (T := 154) (enc := encI64) (xs := p0.1) (sp := []) (by kernel_rfl) (fun e => nomatch e) encI64_len).at hx_3)) (jkO ?_))
  obtain ⟨t_3, ht_4, h⟩ := bd h
  refine toO (by kernel_rfl) (p_call 0 86 #[(.agg #[(.int .i16 p1.fSteps), (.slice p1_fHammers_a p1.fHammers.length p1_fHammers_c)]), (.int .i64 x_1), (.int .i64 x_2)] (by kernel_rfl) (by kernel_rfl) (fun w hm => impl_Frame_isPlace.calls p1 x_1 x_2 w _ p1_fHammers_a p1.fHammers.length p1_fHammers_c (hm.exRowW p1_fHammers_h p1_fHammers_ha) rfl ht_4) ?_)
  rintro w v w' hm ⟨rfl, hm'⟩
  refine ⟨_, hm.app hm', jkO ?_⟩
  clear hm hm'
  refine jo_f [(0, 0), (0, 0)] (by kernel_rfl) ?_
  refine jo_end (by kernel_rfl) ?_
  refine jx_then ?_
  refine jc_ret ?_
  obtain rfl := Option.some.inj h
  exact jx_ret [] (.bool (!t_3)) [] rfl (by kernel_rfl) (by kernel_rfl) (fun w hm => ⟨rfl, hm.pick [0] (by kernel_rfl) (by kernel_rfl)⟩)

/-! ### slices.IndexFunc[[][2]int64,[2]int64] -/
noncomputable def slices_IndexFunc_2int64_at_impl_wornPlaceCode_1.k_1 : Option (Int) := some (-1)
noncomputable def slices_IndexFunc_2int64_at_impl_wornPlaceCode_1.l_3 (s0 : List (Arr 2 Int)) (g1c0 : GFrame) : Int → Option ((Int) ⊕ (Int ⊕ Unit))
  | i_2 => (if (decide (i_2 < (s0.length : Int))) = true then (ix s0 i_2).bind fun x_5 => (impl_wornPlaceCode_1 x_5 g1c0).bind fun t_6 => (if t_6 = true then some (.inr (.inl i_2)) else some (.inl (w64 (i_2 + 1)))) else some (.inr (.inr ())))
noncomputable def slices_IndexFunc_2int64_at_impl_wornPlaceCode_1 (s0 : List (Arr 2 Int)) (g1c0 : GFrame) : Option (Int) := (loop (slices_IndexFunc_2int64_at_impl_wornPlaceCode_1.l_3 s0 g1c0) 0).bind fun t_4 => match t_4 with | .inl p => some p | .inr p => slices_IndexFunc_2int64_at_impl_wornPlaceCode_1.k_1
set_option maxRecDepth 100000 in
theorem slices_IndexFunc_2int64_at_impl_wornPlaceCode_1.calls (s0 : List (Arr 2 Int)) (g1c0 : GFrame) (w : World) (r : Int) (s0_a : Option Addr) (s0_an : Nat) (s0_c : Nat) (s0_h : Rw w s0_a 2 encA2I64 s0) (s0_hn : s0.length = s0_an) (g1c0_fHammers_a : Option Addr) (g1c0_fHammers_an : Nat) (g1c0_fHammers_c : Nat) (g1c0_fHammers_h : Rw w g1c0_fHammers_a 2 encGHammer g1c0.fHammers) (g1c0_fHammers_hn : g1c0.fHammers.length = g1c0_fHammers_an) (g1c0_b : Nat) (hm0 : Mem w (bs [some g1c0_b]) [⟨some g1c0_b, 35, [(.int .i16 g1c0.fSteps), (.slice g1c0_fHammers_a g1c0_fHammers_an g1c0_fHammers_c)]⟩] w) (s0_ha : s0 ≠ [] → aB s0_a ∉ bs [some g1c0_b]) (g1c0_fHammers_ha : g1c0.fHammers ≠ [] → aB g1c0_fHammers_a ∉ bs [some g1c0_b]) (h : slices_IndexFunc_2int64_at_impl_wornPlaceCode_1 s0 g1c0 = some r) :
    Calls Try.prog 180 #[(.slice s0_a s0_an s0_c), (.func (.func 164) #[] #[(.pointer (some ⟨g1c0_b, 0, none⟩))])] w fun e w' => ∃ v, e = .returned v ∧ (v = (.int .i64 r) ∧ Mem w (bs [some g1c0_b]) [⟨some g1c0_b, 35, [(.int .i16 g1c0.fSteps), (.slice g1c0_fHammers_a g1c0_fHammers_an g1c0_fHammers_c)]⟩] w') := by
  subst s0_hn g1c0_fHammers_hn
  rw [slices_IndexFunc_2int64_at_impl_wornPlaceCode_1] at h
  refine enter (args := [(.slice s0_a s0.length s0_c), (.func (.func 164) #[] #[(.pointer (some ⟨g1c0_b, 0, none⟩))])]) Try.func180 rfl Try.ntmps180 (by kernel_rfl) (L := [⟨some g1c0_b, 35, [(.int .i16 g1c0.fSteps), (.slice g1c0_fHammers_a g1c0.fHammers.length g1c0_fHammers_c)]⟩]) (W := bs [some g1c0_b]) hm0 ?_
  refine jc_seq ?_
  refine jc_region ?_
  refine jo_f [(0, 0)] (by kernel_rfl) ?_
  refine jo_end (by kernel_rfl) ?_
  refine jx_then ?_
  refine jc_seq ?_
  refine jc_seq ?_
  refine jc_region ?_
  refine jo_f [(0, 0), (0, 0), (0, 0)] (by kernel_rfl) ?_
  refine jo_end (by kernel_rfl) ?_
  refine jx_then ?_
  refine jc_meet (fun (_ : Unit) => slices_IndexFunc_2int64_at_impl_wornPlaceCode_1.k_1 = some r) (fun (_ : Unit) => [(4, [], (.int .i64 0))]) (fun (_ : Unit) => [⟨some g1c0_b, 35, [(.int .i16 g1c0.fSteps), (.slice g1c0_fHammers_a g1c0.fHammers.length g1c0_fHammers_c)]⟩]) ?_ ?_
  · refine jc_block ?_
    obtain ⟨t_4, ht_40, hr_31⟩ := bd h
    refine jc_loop (fun (s : Int) (x : Unit) => match s, x with | i_2, _ => True) (fun (s : Int) (x : Unit) => match s, x with | i_2, _ => [(0, [], (.slice s0_a s0.length s0_c)), (1, [], (.func (.func 164) #[] #[(.pointer (some ⟨g1c0_b, 0, none⟩))])), (4, [], (.int .i64 0)), (7, [], (.int .i64 (s0.length : Int))), (8, [], (.int .i64 i_2))]) (fun (s : Int) (x : Unit) => match s, x with | i_2, _ => [⟨some g1c0_b, 35, [(.int .i16 g1c0.fSteps), (.slice g1c0_fHammers_a g1c0.fHammers.length g1c0_fHammers_c)]⟩]) ht_40 () trivial (by kernel_rfl) [0] (by kernel_rfl) (by kernel_rfl) ?_
    rintro i_2 _ y_32 _ h
    rw [slices_IndexFunc_2int64_at_impl_wornPlaceCode_1.l_3] at h
    refine jc_seq ?_
    refine jc_region ?_
    refine jo_f [(0, 0)] (by kernel_rfl) ?_
    refine jo_end (by kernel_rfl) ?_
    refine jx_then ?_
    refine jc_seq ?_
    refine jc_cond (decide (i_2 < (s0.length : Int))) (by kernel_rfl) (fun hc_34 => ?_) (fun hc_34 => ?_)
    · replace h := ifT hc_34 h
      refine jc_skip ?_
      refine jx_then ?_
      refine jc_seq ?_
      refine jc_block ?_
      refine jc_seq ?_
      refine jc_region ?_
      refine jo_f [(0, 0), (0, 0)] (by kernel_rfl) ?_
      refine jo_end (by kernel_rfl) ?_
      refine jx_then ?_
      refine jc_seq ?_
      refine jc_region ?_
      refine jo_f [(0, 0), (0, 0), (0, 0)] (by kernel_rfl) ?_
      obtain ⟨x_5, hx_35, h⟩ := bd h
      refine toO (by kernel_rfl) (p_idx 0 s0_a s0.length i_2 2 (by kernel_rfl) (by kernel_rfl) (ix_some hx_35).1 (ltn hx_35 rfl) (s0_h.sp hx_35) (jkO ?_))
      refine toO (by kernel_rfl) (p_ldx 0 (aB s0_a) (aO s0_a + i_2.toNat * 2) (encA2I64 x_5) 2 (by kernel_rfl) (by kernel_rfl) (encA2I64_len x_5) (fun w hm => ((hm.exRowW s0_h s0_ha).at hx_35)) (jkO ?_))
      obtain ⟨t_6, ht_36, h⟩ := bd h
      refine toO (by kernel_rfl) (p_call 0 164 #[(.agg (row encI64 x_5.1 []).toArray), (.pointer (some ⟨g1c0_b, 0, none⟩))] (by kernel_rfl) (by kernel_rfl) (fun w hm => impl_wornPlaceCode_1.calls x_5 g1c0 w _ g1c0_fHammers_a g1c0.fHammers.length g1c0_fHammers_c (hm.exRowW g1c0_fHammers_h g1c0_fHammers_ha) rfl g1c0_b (hm.pass (N := [⟨some g1c0_b, 35, [(.int .i16 g1c0.fSteps), (.slice g1c0_fHammers_a g1c0.fHammers.length g1c0_fHammers_c)]⟩]) [0] (by kernel_rfl) (by kernel_rfl)) (hm.exApart (N := [⟨some g1c0_b, 35, [(.int .i16 g1c0.fSteps), (.slice g1c0_fHammers_a g1c0.fHammers.length g1c0_fHammers_c)]⟩]) g1c0_fHammers_h g1c0_fHammers_ha [0] (by kernel_rfl)) ht_36) ?_)
      rintro w v w' hm ⟨rfl, hm'⟩
      refine ⟨_, hm.appW (ps := [(0, ⟨some g1c0_b, 35, [(.int .i16 g1c0.fSteps), (.slice g1c0_fHammers_a g1c0.fHammers.length g1c0_fHammers_c)]⟩)]) (N := []) hm' (by kernel_rfl) (by kernel_rfl), jkO ?_⟩
      clear hm hm'
      refine jo_end (by kernel_rfl) ?_
      refine jx_then ?_
      refine jc_cond t_6 (by kernel_rfl) (fun hc_37 => ?_) (fun hc_37 => ?_)
      · replace h := ifT hc_37 h
        refine jc_seq ?_
        refine jc_region ?_
        refine jo_f [(0, 0), (0, 0)] (by kernel_rfl) ?_
        refine jo_end (by kernel_rfl) ?_
        refine jx_then ?_
        refine jc_ret ?_
        refine jx_inr ?_
        refine jx_thenr ?_
        refine jx_leaver (.inl i_2) (Option.some.inj h).symm (fun e_38 => ?_)
        subst e_38
        refine jx_inr ?_
        refine jx_thenr ?_
        refine jx_thenr ?_
        obtain rfl := Option.some.inj hr_31
        exact jx_ret [] (.int .i64 i_2) [] rfl (by kernel_rfl) (by kernel_rfl) (fun w hm => ⟨rfl, hm.pick [0] (by kernel_rfl) (by kernel_rfl)⟩)
      · replace h := ifF hc_37 h
        refine jc_skip ?_
        refine jx_inn ?_
        refine jx_then ?_
        refine jc_region ?_
        refine jo_f [(0, 0), (0, 0)] (by kernel_rfl) ?_
        refine jo_end (by kernel_rfl) ?_
        exact jx_back (w64 (i_2 + 1)) () (Option.some.inj h).symm trivial [0] (by kernel_rfl) (by kernel_rfl) (by kernel_rfl)
    · replace h := ifF hc_34 h
      refine jc_exit ?_
      refine jx_thenx ?_
      refine jx_leave (.inr ()) (Option.some.inj h).symm (fun e_39 => ?_)
      subst e_39
      refine jx_ine ?_
      exact jx_meet () hr_31 (by kernel_rfl) [0] (by kernel_rfl) (by kernel_rfl)
  · rintro _ h
    replace h : slices_IndexFunc_2int64_at_impl_wornPlaceCode_1.k_1 = some r := h
    rw [slices_IndexFunc_2int64_at_impl_wornPlaceCode_1.k_1] at h
    refine jx_then ?_
    refine jc_seq ?_
    refine jc_region ?_
    refine jo_f [(0, 0)] (by kernel_rfl) ?_
    refine jo_end (by kernel_rfl) ?_
    refine jx_then ?_
    refine jc_ret ?_
    obtain rfl := Option.some.inj h
    exact jx_ret [] (.int .i64 (-1)) [] rfl (by kernel_rfl) (by kernel_rfl) (fun w hm => ⟨rfl, hm.pick [0] (by kernel_rfl) (by kernel_rfl)⟩)

/-! ### slices.ContainsFunc[[][2]int64,[2]int64] -/
noncomputable def slices_ContainsFunc_2int64_at_impl_wornPlaceCode_1 (s0 : List (Arr 2 Int)) (g1c0 : GFrame) : Option (Bool) := (slices_IndexFunc_2int64_at_impl_wornPlaceCode_1 s0 g1c0).bind fun t_1 => some (decide (t_1 ≥ 0))
set_option maxRecDepth 100000 in
theorem slices_ContainsFunc_2int64_at_impl_wornPlaceCode_1.calls (s0 : List (Arr 2 Int)) (g1c0 : GFrame) (w : World) (r : Bool) (s0_a : Option Addr) (s0_an : Nat) (s0_c : Nat) (s0_h : Rw w s0_a 2 encA2I64 s0) (s0_hn : s0.length = s0_an) (g1c0_fHammers_a : Option Addr) (g1c0_fHammers_an : Nat) (g1c0_fHammers_c : Nat) (g1c0_fHammers_h : Rw w g1c0_fHammers_a 2 encGHammer g1c0.fHammers) (g1c0_fHammers_hn : g1c0.fHammers.length = g1c0_fHammers_an) (g1c0_b : Nat) (hm0 : Mem w (bs [some g1c0_b]) [⟨some g1c0_b, 35, [(.int .i16 g1c0.fSteps), (.slice g1c0_fHammers_a g1c0_fHammers_an g1c0_fHammers_c)]⟩] w) (s0_ha : s0 ≠ [] → aB s0_a ∉ bs [some g1c0_b]) (g1c0_fHammers_ha : g1c0.fHammers ≠ [] → aB g1c0_fHammers_a ∉ bs [some g1c0_b]) (h : slices_ContainsFunc_2int64_at_impl_wornPlaceCode_1 s0 g1c0 = some r) :
    Calls Try.prog 163 #[(.slice s0_a s0_an s0_c), (.func (.func 164) #[] #[(.pointer (some ⟨g1c0_b, 0, none⟩))])] w fun e w' => ∃ v, e = .returned v ∧ (v = (.bool r) ∧ Mem w (bs [some g1c0_b]) [⟨some g1c0_b, 35, [(.int .i16 g1c0.fSteps), (.slice g1c0_fHammers_a g1c0_fHammers_an g1c0_fHammers_c)]⟩] w') := by
  subst s0_hn g1c0_fHammers_hn
  rw [slices_ContainsFunc_2int64_at_impl_wornPlaceCode_1] at h
  refine enter (args := [(.slice s0_a s0.length s0_c), (.func (.func 164) #[] #[(.pointer (some ⟨g1c0_b, 0, none⟩))])]) Try.func163 rfl Try.ntmps163 (by kernel_rfl) (L := [⟨some g1c0_b, 35, [(.int .i16 g1c0.fSteps), (.slice g1c0_fHammers_a g1c0.fHammers.length g1c0_fHammers_c)]⟩]) (W := bs [some g1c0_b]) hm0 ?_
  refine jc_seq ?_
  refine jc_region ?_
  refine jo_f [(0, 0)] (by kernel_rfl) ?_
  refine jo_end (by kernel_rfl) ?_
  refine jx_then ?_
  refine jc_seq ?_
  refine jc_region ?_
  refine jo_f [(0, 0), (0, 0)] (by kernel_rfl) ?_
  obtain ⟨t_1, ht_1, h⟩ := bd h
  refine toO (by kernel_rfl) (p_call 0 180 #[(.slice s0_a s0.length s0_c), (.func (.func 164) #[] #[(.pointer (some ⟨g1c0_b, 0, none⟩))])] (by kernel_rfl) (by kernel_rfl) (fun w hm => slices_IndexFunc_2int64_at_impl_wornPlaceCode_1.calls s0 g1c0 w _ s0_a s0.length s0_c (hm.exRowW s0_h s0_ha) rfl g1c0_fHammers_a g1c0.fHammers.length g1c0_fHammers_c (hm.exRowW g1c0_fHammers_h g1c0_fHammers_ha) rfl g1c0_b (hm.pass (N := [⟨some g1c0_b, 35, [(.int .i16 g1c0.fSteps), (.slice g1c0_fHammers_a g1c0.fHammers.length g1c0_fHammers_c)]⟩]) [0] (by kernel_rfl) (by kernel_rfl)) (hm.exApart (N := [⟨some g1c0_b, 35, [(.int .i16 g1c0.fSteps), (.slice g1c0_fHammers_a g1c0.fHammers.length g1c0_fHammers_c)]⟩]) s0_h s0_ha [0] (by kernel_rfl)) (hm.exApart (N := [⟨some g1c0_b, 35, [(.int .i16 g1c0.fSteps), (.slice g1c0_fHammers_a g1c0.fHammers.length g1c0_fHammers_c)]⟩]) g1c0_fHammers_h g1c0_fHammers_ha [0] (by kernel_rfl)) ht_1) ?_)
  rintro w v w' hm ⟨rfl, hm'⟩
  refine ⟨_, hm.appW (ps := [(0, ⟨some g1c0_b, 35, [(.int .i16 g1c0.fSteps), (.slice g1c0_fHammers_a g1c0.fHammers.length g1c0_fHammers_c)]⟩)]) (N := []) hm' (by kernel_rfl) (by kernel_rfl), jkO ?_⟩
  clear hm hm'
  refine jo_f [(0, 0), (0, 0)] (by kernel_rfl) ?_
  refine jo_end (by kernel_rfl) ?_
  refine jx_then ?_
  refine jc_ret ?_
  obtain rfl := Option.some.inj h
  exact jx_ret [] (.bool (decide (t_1 ≥ 0))) [] rfl (by kernel_rfl) (by kernel_rfl) (fun w hm => ⟨rfl, hm.pick [0] (by kernel_rfl) (by kernel_rfl)⟩)

/-! ### impl.wornPlaceCode -/
noncomputable def impl_wornPlaceCode (f0 : GFrame) (w1 : GWear) (places2 : List (Arr 2 Int)) : Option (Int) := (impl_wearCode f0 w1 []).bind fun t_1 => (if (t_1 != 0) = true then some t_1 else (slices_ContainsFunc_2int64_at_impl_wornPlaceCode_1 places2 f0).bind fun t_2 => (impl_unless (!t_2) 2).bind fun t_3 => some t_3)
set_option maxRecDepth 100000 in
theorem impl_wornPlaceCode.calls (f0 : GFrame) (w1 : GWear) (places2 : List (Arr 2 Int)) (w : World) (r : Int) (f0_fHammers_a : Option Addr) (f0_fHammers_an : Nat) (f0_fHammers_c : Nat) (f0_fHammers_h : Rw w f0_fHammers_a 2 encGHammer f0.fHammers) (f0_fHammers_hn : f0.fHammers.length = f0_fHammers_an) (w1_fPins_a : Option Addr) (w1_fPins_an : Nat) (w1_fPins_c : Nat) (w1_fPins_h : Rw w w1_fPins_a 3 encGWornPin w1.fPins) (w1_fPins_hn : w1.fPins.length = w1_fPins_an) (w1_fStrokes_a : Option Addr) (w1_fStrokes_an : Nat) (w1_fStrokes_c : Nat) (w1_fStrokes_h : Rw w w1_fStrokes_a 1 encI64 w1.fStrokes) (w1_fStrokes_hn : w1.fStrokes.length = w1_fStrokes_an) (places2_a : Option Addr) (places2_an : Nat) (places2_c : Nat) (places2_h : Rw w places2_a 2 encA2I64 places2) (places2_hn : places2.length = places2_an) (h : impl_wornPlaceCode f0 w1 places2 = some r) :
    Calls Try.prog 114 #[(.agg #[(.int .i16 f0.fSteps), (.slice f0_fHammers_a f0_fHammers_an f0_fHammers_c)]), (.agg #[(.slice w1_fPins_a w1_fPins_an w1_fPins_c), (.slice w1_fStrokes_a w1_fStrokes_an w1_fStrokes_c)]), (.slice places2_a places2_an places2_c)] w fun e w' => ∃ v, e = .returned v ∧ (v = (.int .i64 r) ∧ Mem w [] [] w') := by
  subst f0_fHammers_hn w1_fPins_hn w1_fStrokes_hn places2_hn
  rw [impl_wornPlaceCode] at h
  refine enter (args := [(.agg #[(.int .i16 f0.fSteps), (.slice f0_fHammers_a f0.fHammers.length f0_fHammers_c)]), (.agg #[(.slice w1_fPins_a w1.fPins.length w1_fPins_c), (.slice w1_fStrokes_a w1.fStrokes.length w1_fStrokes_c)]), (.slice places2_a places2.length places2_c)]) Try.func114 rfl Try.ntmps114 (by kernel_rfl) (L := []) (W := []) (Mem.start w) ?_
  refine jc_seq ?_
  refine jc_region ?_
  refine toO (by kernel_rfl) (p_a 0 [0] (by kernel_rfl) (fun b => by kernel_rfl) (fun b_1 => jkO ?_))
  refine toO (by kernel_rfl) (p_a 0 [0] (by kernel_rfl) (fun b => by kernel_rfl) (fun b_2 => jkO ?_))
  refine jo_f [(0, 0)] (by kernel_rfl) ?_
  refine jo_end (by kernel_rfl) ?_
  refine jx_then ?_
  refine jc_seq ?_
  refine jc_seq ?_
  refine jc_region ?_
  refine jo_f [(0, 0), (1, 0)] (by kernel_rfl) ?_
  obtain ⟨t_1, ht_5, h⟩ := bd h
  refine toO (by kernel_rfl) (p_call 0 101 #[(.agg #[(.int .i16 f0.fSteps), (.slice f0_fHammers_a f0.fHammers.length f0_fHammers_c)]), (.agg #[(.slice w1_fPins_a w1.fPins.length w1_fPins_c), (.slice w1_fStrokes_a w1.fStrokes.length w1_fStrokes_c)]), (.slice none 0 0)] (by kernel_rfl) (by kernel_rfl) (fun w hm => impl_wearCode.calls f0 w1 [] w _ f0_fHammers_a f0.fHammers.length f0_fHammers_c (hm.exRow f0_fHammers_h List.not_mem_nil) rfl w1_fPins_a w1.fPins.length w1_fPins_c (hm.exRow w1_fPins_h List.not_mem_nil) rfl w1_fStrokes_a w1.fStrokes.length w1_fStrokes_c (hm.exRow w1_fStrokes_h List.not_mem_nil) rfl none 0 0 Rw.nil rfl ht_5) ?_)
  rintro w v w' hm ⟨rfl, hm'⟩
  refine ⟨_, hm.app hm', jkO ?_⟩
  clear hm hm'
  refine jo_f [(0, 0)] (by kernel_rfl) ?_
  refine jo_end (by kernel_rfl) ?_
  refine jx_then ?_
  refine jc_seq ?_
  refine jc_region ?_
  refine jo_f [(0, 0), (0, 0)] (by kernel_rfl) ?_
  refine jo_end (by kernel_rfl) ?_
  refine jx_then ?_
  refine jc_cond (t_1 != 0) (by kernel_rfl) (fun hc_6 => ?_) (fun hc_6 => ?_)
  · replace h := ifT hc_6 h
    refine jc_seq ?_
    refine jc_region ?_
    refine jo_f [(0, 0), (0, 0)] (by kernel_rfl) ?_
    refine jo_end (by kernel_rfl) ?_
    refine jx_then ?_
    refine jc_ret ?_
    refine jx_thenr ?_
    obtain rfl := Option.some.inj h
    exact jx_ret [] (.int .i64 t_1) [] rfl (by kernel_rfl) (by kernel_rfl) (fun w hm => ⟨rfl, hm.pick [] (by kernel_rfl) (by kernel_rfl)⟩)
  · replace h := ifF hc_6 h
    refine jc_skip ?_
    refine jx_then ?_
    refine jc_seq ?_
    refine jc_region ?_
    refine jo_f [(0, 0), (0, 0)] (by kernel_rfl) ?_
    obtain ⟨t_2, ht_7, h⟩ := bd h
    refine toO (by kernel_rfl) (p_call 0 163 #[(.slice places2_a places2.length places2_c), (.func (.func 164) #[] #[(.pointer (some ⟨b_1, 0, none⟩))])] (by kernel_rfl) (by kernel_rfl) (fun w hm => slices_ContainsFunc_2int64_at_impl_wornPlaceCode_1.calls places2 f0 w _ places2_a places2.length places2_c (hm.exRow places2_h List.not_mem_nil) rfl f0_fHammers_a f0.fHammers.length f0_fHammers_c (hm.exRow f0_fHammers_h List.not_mem_nil) rfl b_1 (hm.pass (N := [⟨some b_1, 35, [(.int .i16 f0.fSteps), (.slice f0_fHammers_a f0.fHammers.length f0_fHammers_c)]⟩]) [0] (by kernel_rfl) (by kernel_rfl)) (hm.exApart (N := [⟨some b_1, 35, [(.int .i16 f0.fSteps), (.slice f0_fHammers_a f0.fHammers.length f0_fHammers_c)]⟩]) places2_h (fun _ => List.not_mem_nil) [0] (by kernel_rfl)) (hm.exApart (N := [⟨some b_1, 35, [(.int .i16 f0.fSteps), (.slice f0_fHammers_a f0.fHammers.length f0_fHammers_c)]⟩]) f0_fHammers_h (fun _ => List.not_mem_nil) [0] (by kernel_rfl)) ht_7) ?_)
    rintro w v w' hm ⟨rfl, hm'⟩
    refine ⟨_, hm.appW (ps := [(0, ⟨some b_1, 35, [(.int .i16 f0.fSteps), (.slice f0_fHammers_a f0.fHammers.length f0_fHammers_c)]⟩)]) (N := []) hm' (by kernel_rfl) (by kernel_rfl), jkO ?_⟩
    clear hm hm'
    refine jo_f [(0, 0)] (by kernel_rfl) ?_
    obtain ⟨t_3, ht_8, h⟩ := bd h
    refine toO (by kernel_rfl) (p_call 0 108 #[(.bool (!t_2)), (.int .i64 2)] (by kernel_rfl) (by kernel_rfl) (fun w hm => impl_unless.calls (!t_2) 2 w _ ht_8) ?_)
    rintro w v w' hm ⟨rfl, hm'⟩
    refine ⟨_, hm.app hm', jkO ?_⟩
    clear hm hm'
    refine jo_f [(0, 0)] (by kernel_rfl) ?_
    refine jo_end (by kernel_rfl) ?_
    refine jx_then ?_
    refine jc_ret ?_
    obtain rfl := Option.some.inj h
    exact jx_ret [] (.int .i64 t_3) [] rfl (by kernel_rfl) (by kernel_rfl) (fun w hm => ⟨rfl, hm.pick [] (by kernel_rfl) (by kernel_rfl)⟩)

/-! ### impl.NewHammer -/
noncomputable def impl_NewHammer (f0 : GFrame) (w1 : GWear) (track2 : Int) : Option (GWear × Int) := (impl_wornPlaceCode f0 w1 [(Arr.set (Arr.set (Arr.rep 2 0) 0 0) 1 track2)]).bind fun t_1 => (if (t_1 != 0) = true then some ((⟨[], []⟩ : GWear), t_1) else (impl_Wear_own w1).bind fun t_2 => (ix t_2.fStrokes track2).bind fun x_3 => some ((⟨t_2.fPins, (t_2.fStrokes.set track2.toNat 0)⟩ : GWear), 0))
set_option maxRecDepth 100000 in
theorem impl_NewHammer.calls (f0 : GFrame) (w1 : GWear) (track2 : Int) (w : World) (r : GWear × Int) (f0_fHammers_a : Option Addr) (f0_fHammers_an : Nat) (f0_fHammers_c : Nat) (f0_fHammers_h : Rw w f0_fHammers_a 2 encGHammer f0.fHammers) (f0_fHammers_hn : f0.fHammers.length = f0_fHammers_an) (w1_fPins_a : Option Addr) (w1_fPins_an : Nat) (w1_fPins_c : Nat) (w1_fPins_h : Rw w w1_fPins_a 3 encGWornPin w1.fPins) (w1_fPins_hn : w1.fPins.length = w1_fPins_an) (w1_fStrokes_a : Option Addr) (w1_fStrokes_an : Nat) (w1_fStrokes_c : Nat) (w1_fStrokes_h : Rw w w1_fStrokes_a 1 encI64 w1.fStrokes) (w1_fStrokes_hn : w1.fStrokes.length = w1_fStrokes_an) (h : impl_NewHammer f0 w1 track2 = some r) :
    Calls Try.prog 48 #[(.agg #[(.int .i16 f0.fSteps), (.slice f0_fHammers_a f0_fHammers_an f0_fHammers_c)]), (.agg #[(.slice w1_fPins_a w1_fPins_an w1_fPins_c), (.slice w1_fStrokes_a w1_fStrokes_an w1_fStrokes_c)]), (.int .i64 track2)] w fun e w' => ∃ v, e = .returned v ∧ (∃ (o0 : Option Nat) (c0 : Nat) (s0 : List Value) (n0 : Nat), r.1.fPins.length = n0 ∧ (o0 ≠ none → n0 ≤ c0 ∧ s0.length = (c0 - n0) * 3) ∧ (o0 = none → r.1.fPins = [] ∧ c0 = 0) ∧ ∃ (o1 : Option Nat) (c1 : Nat) (s1 : List Value) (n1 : Nat), r.1.fStrokes.length = n1 ∧ (o1 ≠ none → n1 ≤ c1 ∧ s1.length = (c1 - n1) * 1) ∧ (o1 = none → r.1.fStrokes = [] ∧ c1 = 0) ∧ v = .tuple #[.agg #[.slice (o0.map fun b => ⟨b, 0, none⟩) n0 c0, .slice (o1.map fun b => ⟨b, 0, none⟩) n1 c1], (.int .i64 r.2)] ∧ Mem w [] [⟨o0, 124, row encGWornPin r.1.fPins s0⟩, ⟨o1, 2, row encI64 r.1.fStrokes s1⟩] w') := by
  subst f0_fHammers_hn w1_fPins_hn w1_fStrokes_hn
  rw [impl_NewHammer] at h
  refine enter (args := [(.agg #[(.int .i16 f0.fSteps), (.slice f0_fHammers_a f0.fHammers.length f0_fHammers_c)]), (.agg #[(.slice w1_fPins_a w1.fPins.length w1_fPins_c), (.slice w1_fStrokes_a w1.fStrokes.length w1_fStrokes_c)]), (.int .i64 track2)]) Try.func48 rfl Try.ntmps48 (by kernel_rfl) (L := []) (W := []) (Mem.start w) ?_
  refine jc_seq ?_
  refine jc_region ?_
  refine toO (by kernel_rfl) (p_a 0 [0] (by kernel_rfl) (fun b => by kernel_rfl) (fun b_1 => jkO ?_))
  refine toO (by kernel_rfl) (p_a 0 [0] (by kernel_rfl) (fun b => by kernel_rfl) (fun b_2 => jkO ?_))
  refine toO (by kernel_rfl) (p_a 0 [0] (by kernel_rfl) (fun b => by kernel_rfl) (fun b_3 => jkO ?_))
  refine jo_f [(0, 0)] (by kernel_rfl) ?_
  refine jo_end (by kernel_rfl) ?_
  refine jx_then ?_
  refine jc_seq ?_
  refine jc_seq ?_
  refine jc_region ?_
  refine jo_f [(0, 0), (1, 0), (0, 0), (0, 0)] (by kernel_rfl) ?_
  refine toO (by kernel_rfl) (p_bs 0 154 2 1 encA2I64 [(.agg (row encI64 (Arr.set (Arr.set (Arr.rep 2 0) 0 0) 1 track2).1 []).toArray)] [(Arr.set (Arr.set (Arr.rep 2 0) 0 0) 1 track2)] (by kernel_rfl) (by kernel_rfl) rfl (by kernel_rfl) (by kernel_rfl) encA2I64_len (fun b_7 => jkO ?_))
  obtain ⟨t_1, ht_8, h⟩ := bd h
  refine toO (by kernel_rfl) (p_call 0 114 #[(.agg #[(.int .i16 f0.fSteps), (.slice f0_fHammers_a f0.fHammers.length f0_fHammers_c)]), (.agg #[(.slice w1_fPins_a w1.fPins.length w1_fPins_c), (.slice w1_fStrokes_a w1.fStrokes.length w1_fStrokes_c)]), (.slice (some ⟨b_7, 0, none⟩) 1 1)] (by kernel_rfl) (by kernel_rfl) (fun w hm => impl_wornPlaceCode.calls f0 w1 [(Arr.set (Arr.set (Arr.rep 2 0) 0 0) 1 track2)] w _ f0_fHammers_a f0.fHammers.length f0_fHammers_c (hm.exRow f0_fHammers_h List.not_mem_nil) rfl w1_fPins_a w1.fPins.length w1_fPins_c (hm.exRow w1_fPins_h List.not_mem_nil) rfl w1_fStrokes_a w1.fStrokes.length w1_fStrokes_c (hm.exRow w1_fStrokes_h List.not_mem_nil) rfl (some ⟨b_7, 0, none⟩) 1 1 (hm.ownRow (hh := 3) (o := (some b_7)) (T := 154) (enc := encA2I64) (xs := [(Arr.set (Arr.set (Arr.rep 2 0) 0 0) 1 track2)]) (sp := []) (by kernel_rfl) (fun e => nomatch e) encA2I64_len) rfl ht_8) ?_)
  rintro w v w' hm ⟨rfl, hm'⟩
  refine ⟨_, hm.app hm', jkO ?_⟩
  clear hm hm'
  refine jo_f [(0, 0)] (by kernel_rfl) ?_
  refine jo_end (by kernel_rfl) ?_
  refine jx_then ?_
  refine jc_seq ?_
  refine jc_region ?_
  refine jo_f [(0, 0), (0, 0)] (by kernel_rfl) ?_
  refine jo_end (by kernel_rfl) ?_
  refine jx_then ?_
  refine jc_cond (t_1 != 0) (by kernel_rfl) (fun hc_9 => ?_) (fun hc_9 => ?_)
  · replace h := ifT hc_9 h
    refine jc_seq ?_
    refine jc_region ?_
    refine jo_f [(0, 0), (0, 0)] (by kernel_rfl) ?_
    refine toO (by kernel_rfl) (p_s 0 [2] (by kernel_rfl) (by kernel_rfl) (jkO ?_))
    refine jo_f [(0, 0)] (by kernel_rfl) ?_
    refine jo_end (by kernel_rfl) ?_
    refine jx_then ?_
    refine jc_ret ?_
    refine jx_thenr ?_
    obtain rfl := Option.some.inj h
    refine jx_ghost 124 encGWornPin ?_
    refine jx_ghost 2 encI64 ?_
    exact jx_ret [2] (.tuple #[(.agg #[(.slice none 0 0), (.slice none 0 0)]), (.int .i64 t_1)]) [(b_3, b_3), (b_3, b_3)] rfl (by kernel_rfl) (by kernel_rfl) (fun w hm => ⟨none, 0, [], 0, rfl, (fun e => absurd rfl e), (fun _ => ⟨rfl, rfl⟩), none, 0, [], 0, rfl, (fun e => absurd rfl e), (fun _ => ⟨rfl, rfl⟩), rfl, hm.pick [4, 5] (by kernel_rfl) (by kernel_rfl)⟩)
  · replace h := ifF hc_9 h
    refine jc_skip ?_
    refine jx_then ?_
    refine jc_seq ?_
    refine jc_region ?_
    refine jo_f [(1, 0)] (by kernel_rfl) ?_
    obtain ⟨t_2, ht_10, h⟩ := bd h
    refine toO (by kernel_rfl) (p_call 0 115 #[(.agg #[(.slice w1_fPins_a w1.fPins.length w1_fPins_c), (.slice w1_fStrokes_a w1.fStrokes.length w1_fStrokes_c)])] (by kernel_rfl) (by kernel_rfl) (fun w hm => impl_Wear_own.calls w1 w _ w1_fPins_a w1.fPins.length w1_fPins_c (hm.exRow w1_fPins_h List.not_mem_nil) rfl w1_fStrokes_a w1.fStrokes.length w1_fStrokes_c (hm.exRow w1_fStrokes_h List.not_mem_nil) rfl ht_10) ?_)
    rintro w v w' hm ⟨o_11, cap_12, sp_13, _, rfl, hs_14, ho_15, o_16, cap_17, sp_18, _, rfl, hs_19, ho_20, rfl, hm'⟩
    refine ⟨_, hm.app hm', jkO ?_⟩
    clear hm hm'
    refine toO (by kernel_rfl) (p_a 0 [0] (by kernel_rfl) (fun b => by kernel_rfl) (fun b_21 => jkO ?_))
    refine toO (by kernel_rfl) (p_s 0 [6] (by kernel_rfl) (by kernel_rfl) (jkO ?_))
    refine jo_end (by kernel_rfl) ?_
    refine jx_then ?_
    refine jc_seq ?_
    refine jc_region ?_
    refine jo_f [(0, 0), (6, 0), (0, 0)] (by kernel_rfl) ?_
    obtain ⟨x_3, hx_22, h⟩ := bd h
    refine toO (by kernel_rfl) (p_idx 0 (o_16.map fun b => ⟨b, 0, none⟩) t_2.fStrokes.length track2 1 (by kernel_rfl) (by kernel_rfl) (ix_some hx_22).1 (ltn hx_22 rfl) (spo ho_20 hx_22) (jkO ?_))
    refine toO (by kernel_rfl) (p_strO 0 5 o_16 2 encI64 t_2.fStrokes sp_18 track2 0 1 0 [(.int .i64 0)] (by kernel_rfl) (by kernel_rfl) (by kernel_rfl) (fun e => (ho_20 e).1) encI64_len hx_22 (by kernel_rfl) (by kernel_rfl) (jkO ?_))
    refine jo_end (by kernel_rfl) ?_
    refine jx_then ?_
    refine jc_seq ?_
    refine jc_region ?_
    refine jo_f [(6, 0)] (by kernel_rfl) ?_
    refine toO (by kernel_rfl) (p_s 0 [2] (by kernel_rfl) (by kernel_rfl) (jkO ?_))
    refine jo_f [(0, 0)] (by kernel_rfl) ?_
    refine jo_end (by kernel_rfl) ?_
    refine jx_then ?_
    refine jc_ret ?_
    obtain rfl := Option.some.inj h
    exact jx_ret [2] (.tuple #[(.agg #[(.slice (o_11.map fun b => ⟨b, 0, none⟩) t_2.fPins.length cap_12), (.slice (o_16.map fun b => ⟨b, 0, none⟩) t_2.fStrokes.length cap_17)]), (.int .i64 0)]) [(b_3, b_3), (b_3, b_3)] rfl (by kernel_rfl) (by kernel_rfl) (fun w hm => ⟨o_11, cap_12, sp_13, t_2.fPins.length, rfl, hs_14, ho_15, o_16, cap_17, sp_18, t_2.fStrokes.length, (List.length_set.trans rfl), hs_19, (set_ho ho_20), rfl, hm.pick [4, 5] (by kernel_rfl) (by kernel_rfl)⟩)

/-! ### laws.FnExactNewHammer -/
noncomputable def laws_FnExactNewHammer.k_24 (xs_3 : List GWornPin) (xs_4 : List Int) (i_5 : Int) (t_19 : Int × (List GWornPin) × (List Int)) (xs_21 : List GWornPin) (xs_22 : List Int) (i_23 : Int) : Option (Bool) := (laws_eqWear (⟨xs_21, xs_22⟩ : GWear) (⟨xs_3, xs_4⟩ : GWear)).bind fun t_25 => (if ((!t_25) || (i_23 != i_5)) = true then some false else (laws_heldWear (⟨t_19.2.1, t_19.2.2⟩ : GWear) 1).bind fun t_26 => (if (decide (t_26 < 0)) = true then some false else (if (t_26 != t_19.1) = true then some false else some true)))
noncomputable def laws_FnExactNewHammer.k_18 (aF0 : GFrame) (aW1 : GWear) (aTrack2 : Int) (xs_3 : List GWornPin) (xs_4 : List Int) (i_5 : Int) (t_9 : GWear × Int) (q_17 : Bool) : Option (Bool) := (if q_17 = true then some false else (laws_markWear t_9.1 1).bind fun t_19 => (laws_heldWear (⟨t_19.2.1, t_19.2.2⟩ : GWear) 1).bind fun t_20 => (if (decide (t_20 < 0)) = true then some false else (if (t_20 != t_19.1) = true then some false else (laws_toFrame aF0).bind fun t_27 => (laws_toWear aW1).bind fun t_28 => (impl_NewHammer t_27 t_28 aTrack2).bind fun t_29 => laws_FnExactNewHammer.k_24 xs_3 xs_4 i_5 t_19 t_29.1.fPins t_29.1.fStrokes t_29.2)))
noncomputable def laws_FnExactNewHammer.k_6 (aF0 : GFrame) (aW1 : GWear) (aTrack2 : Int) (xs_3 : List GWornPin) (xs_4 : List Int) (i_5 : Int) : Option (Bool) := (laws_toFrame aF0).bind fun t_7 => (laws_toWear aW1).bind fun t_8 => (impl_NewHammer t_7 t_8 aTrack2).bind fun t_9 => (laws_eqWear t_9.1 (⟨xs_3, xs_4⟩ : GWear)).bind fun t_10 => (if ((!t_10) || (t_9.2 != i_5)) = true then some false else (laws_toFrame aF0).bind fun t_11 => (laws_eqFrame t_7 t_11).bind fun t_12 => (if (!t_12) = true then some false else (laws_toWear aW1).bind fun t_13 => (laws_eqWear t_8 t_13).bind fun t_14 => (if (!t_14) = true then some false else (laws_markFrame t_7 1).bind fun t_15 => (laws_markWear t_8 t_15.1).bind fun t_16 => (if (decide (t_16.1 < 0)) = true then laws_FnExactNewHammer.k_18 aF0 aW1 aTrack2 xs_3 xs_4 i_5 t_9 true else (laws_eqWear t_9.1 (⟨xs_3, xs_4⟩ : GWear)).bind fun t_30 => laws_FnExactNewHammer.k_18 aF0 aW1 aTrack2 xs_3 xs_4 i_5 t_9 ((!t_30) || (t_9.2 != i_5))))))
noncomputable def laws_FnExactNewHammer (aF0 : GFrame) (aW1 : GWear) (aTrack2 : Int) : Option (Bool) := (laws_szFrame aF0 1048576).bind fun t_1 => (if (decide (t_1 < 0)) = true then some true else (laws_szWear aW1 t_1).bind fun t_2 => (if (decide (t_2 < 0)) = true then some true else (laws_toFrame aF0).bind fun t_31 => (laws_toWear aW1).bind fun t_32 => (spec_NewHammer t_31 t_32 aTrack2).bind fun t_33 => laws_FnExactNewHammer.k_6 aF0 aW1 aTrack2 t_33.1.fPins t_33.1.fStrokes t_33.2))
set_option maxRecDepth 100000 in
set_option maxHeartbeats 8000000 in
theorem laws_FnExactNewHammer.calls (aF0 : GFrame) (aW1 : GWear) (aTrack2 : Int) (w : World) (r : Bool) (aF0_fHammers_a : Option Addr) (aF0_fHammers_an : Nat) (aF0_fHammers_c : Nat) (aF0_fHammers_h : Rw w aF0_fHammers_a 2 encGHammer aF0.fHammers) (aF0_fHammers_hn : aF0.fHammers.length = aF0_fHammers_an) (aW1_fPins_a : Option Addr) (aW1_fPins_an : Nat) (aW1_fPins_c : Nat) (aW1_fPins_h : Rw w aW1_fPins_a 3 encGWornPin aW1.fPins) (aW1_fPins_hn : aW1.fPins.length = aW1_fPins_an) (aW1_fStrokes_a : Option Addr) (aW1_fStrokes_an : Nat) (aW1_fStrokes_c : Nat) (aW1_fStrokes_h : Rw w aW1_fStrokes_a 1 encI64 aW1.fStrokes) (aW1_fStrokes_hn : aW1.fStrokes.length = aW1_fStrokes_an) (h : laws_FnExactNewHammer aF0 aW1 aTrack2 = some r) :
    Calls Try.prog 9 #[(.agg #[(.int .i16 aF0.fSteps), (.slice aF0_fHammers_a aF0_fHammers_an aF0_fHammers_c)]), (.agg #[(.slice aW1_fPins_a aW1_fPins_an aW1_fPins_c), (.slice aW1_fStrokes_a aW1_fStrokes_an aW1_fStrokes_c)]), (.int .i64 aTrack2)] w fun e w' => ∃ v, e = .returned v ∧ (v = (.bool r) ∧ Mem w [] [] w') := by
  subst aF0_fHammers_hn aW1_fPins_hn aW1_fStrokes_hn
  rw [laws_FnExactNewHammer] at h
  refine enter (args := [(.agg #[(.int .i16 aF0.fSteps), (.slice aF0_fHammers_a aF0.fHammers.length aF0_fHammers_c)]), (.agg #[(.slice aW1_fPins_a aW1.fPins.length aW1_fPins_c), (.slice aW1_fStrokes_a aW1.fStrokes.length aW1_fStrokes_c)]), (.int .i64 aTrack2)]) Try.func9 rfl Try.ntmps9 (by kernel_rfl) (L := []) (W := []) (Mem.start w) ?_
  refine jc_seq ?_
  refine jc_region ?_
  refine toO (by kernel_rfl) (p_a 0 [0] (by kernel_rfl) (fun b => by kernel_rfl) (fun b_1 => jkO ?_))
  refine toO (by kernel_rfl) (p_a 0 [0] (by kernel_rfl) (fun b => by kernel_rfl) (fun b_2 => jkO ?_))
  refine jo_f [(0, 0)] (by kernel_rfl) ?_
  refine jo_end (by kernel_rfl) ?_
  refine jx_then ?_
  refine jc_seq ?_
  refine jc_region ?_
  refine jo_f [(0, 0)] (by kernel_rfl) ?_
  refine jo_end (by kernel_rfl) ?_
  refine jx_then ?_
  refine jc_seq ?_
  refine jc_region ?_
  refine jo_f [(0, 0), (0, 0)] (by kernel_rfl) ?_
  obtain ⟨t_1, ht_3, h⟩ := bd h
  refine toO (by kernel_rfl) (p_call 0 15 #[(.agg #[(.int .i16 aF0.fSteps), (.slice aF0_fHammers_a aF0.fHammers.length aF0_fHammers_c)]), (.int .i64 1048576)] (by kernel_rfl) (by kernel_rfl) (fun w hm => laws_szFrame.calls aF0 1048576 w _ aF0_fHammers_a aF0.fHammers.length aF0_fHammers_c (hm.exRow aF0_fHammers_h List.not_mem_nil) rfl ht_3) ?_)
  rintro w v w' hm ⟨rfl, hm'⟩
  refine ⟨_, hm.app hm', jkO ?_⟩
  clear hm hm'
  refine jo_f [(0, 0)] (by kernel_rfl) ?_
  refine jo_end (by kernel_rfl) ?_
  refine jx_then ?_
  refine jc_seq ?_
  refine jc_seq ?_
  refine jc_region ?_
  refine jo_f [(0, 0), (0, 0)] (by kernel_rfl) ?_
  refine jo_end (by kernel_rfl) ?_
  refine jx_then ?_
  refine jc_cond (decide (t_1 < 0)) (by kernel_rfl) (fun hc_5 => ?_) (fun hc_5 => ?_)
  · replace h := ifT hc_5 h
    refine jc_seq ?_
    refine jc_region ?_
    refine jo_f [(0, 0)] (by kernel_rfl) ?_
    refine jo_end (by kernel_rfl) ?_
    refine jx_then ?_
    refine jc_ret ?_
    refine jx_thenr ?_
    obtain rfl := Option.some.inj h
    exact jx_ret [] (.bool true) [] rfl (by kernel_rfl) (by kernel_rfl) (fun w hm => ⟨rfl, hm.pick [] (by kernel_rfl) (by kernel_rfl)⟩)
  · replace h := ifF hc_5 h
    refine jc_skip ?_
    refine jx_then ?_
    refine jc_seq ?_
    refine jc_region ?_
    refine jo_f [(1, 0), (0, 0)] (by kernel_rfl) ?_
    obtain ⟨t_2, ht_6, h⟩ := bd h
    refine toO (by kernel_rfl) (p_call 0 25 #[(.agg #[(.slice aW1_fPins_a aW1.fPins.length aW1_fPins_c), (.slice aW1_fStrokes_a aW1.fStrokes.length aW1_fStrokes_c)]), (.int .i64 t_1)] (by kernel_rfl) (by kernel_rfl) (fun w hm => laws_szWear.calls aW1 t_1 w _ aW1_fPins_a aW1.fPins.length aW1_fPins_c (hm.exRow aW1_fPins_h List.not_mem_nil) rfl aW1_fStrokes_a aW1.fStrokes.length aW1_fStrokes_c (hm.exRow aW1_fStrokes_h List.not_mem_nil) rfl ht_6) ?_)
    rintro w v w' hm ⟨rfl, hm'⟩
    refine ⟨_, hm.app hm', jkO ?_⟩
    clear hm hm'
    refine jo_f [(0, 0)] (by kernel_rfl) ?_
    refine jo_end (by kernel_rfl) ?_
    refine jx_then ?_
    refine jc_seq ?_
    refine jc_seq ?_
    refine jc_region ?_
    refine jo_f [(0, 0), (0, 0)] (by kernel_rfl) ?_
    refine jo_end (by kernel_rfl) ?_
    refine jx_then ?_
    refine jc_cond (decide (t_2 < 0)) (by kernel_rfl) (fun hc_8 => ?_) (fun hc_8 => ?_)
    · replace h := ifT hc_8 h
      refine jc_seq ?_
      refine jc_region ?_
      refine jo_f [(0, 0)] (by kernel_rfl) ?_
      refine jo_end (by kernel_rfl) ?_
      refine jx_then ?_
      refine jc_ret ?_
      refine jx_thenr ?_
      obtain rfl := Option.some.inj h
      exact jx_ret [] (.bool true) [] rfl (by kernel_rfl) (by kernel_rfl) (fun w hm => ⟨rfl, hm.pick [] (by kernel_rfl) (by kernel_rfl)⟩)
    · replace h := ifF hc_8 h
      refine jc_skip ?_
      refine jx_then ?_
      refine jc_seq ?_
      refine jc_meet (fun (j : (List GWornPin) × (List Int) × Int × Nat × (Option Nat) × Nat × (List Value) × Nat × (Option Nat) × Nat × (List Value) × Nat) => match j with | ⟨xs_3, xs_4, i_5, b_102, o_103, cap_104, sp_105, n_106, o_109, cap_110, sp_111, n_112⟩ => laws_FnExactNewHammer.k_6 aF0 aW1 aTrack2 xs_3 xs_4 i_5 = some r ∧ (xs_3.length = n_106) ∧ ((o_103 ≠ none → n_106 ≤ cap_104 ∧ sp_105.length = (cap_104 - n_106) * 3)) ∧ ((o_103 = none → xs_3 = [] ∧ cap_104 = 0)) ∧ (xs_4.length = n_112) ∧ ((o_109 ≠ none → n_112 ≤ cap_110 ∧ sp_111.length = (cap_110 - n_112) * 1)) ∧ ((o_109 = none → xs_4 = [] ∧ cap_110 = 0))) (fun (j : (List GWornPin) × (List Int) × Int × Nat × (Option Nat) × Nat × (List Value) × Nat × (Option Nat) × Nat × (List Value) × Nat) => match j with | ⟨xs_3, xs_4, i_5, b_102, o_103, cap_104, sp_105, n_106, o_109, cap_110, sp_111, n_112⟩ => [(2, [], (.int .i64 aTrack2)), (3, [], (.pointer (some ⟨b_1, 0, none⟩))), (4, [], (.pointer (some ⟨b_2, 0, none⟩))), (6, [], (.bool false)), (8, [], (.pointer (some ⟨b_102, 0, none⟩))), (9, [], (.int .i64 i_5))]) (fun (j : (List GWornPin) × (List Int) × Int × Nat × (Option Nat) × Nat × (List Value) × Nat × (Option Nat) × Nat × (List Value) × Nat) => match j with | ⟨xs_3, xs_4, i_5, b_102, o_103, cap_104, sp_105, n_106, o_109, cap_110, sp_111, n_112⟩ => [⟨some b_1, 25, [(.int .i16 aF0.fSteps), (.slice aF0_fHammers_a aF0.fHammers.length aF0_fHammers_c)]⟩, ⟨some b_2, 47, [(.slice aW1_fPins_a aW1.fPins.length aW1_fPins_c), (.slice aW1_fStrokes_a aW1.fStrokes.length aW1_fStrokes_c)]⟩, ⟨some b_102, 52, [(.slice (o_103.map fun b => ⟨b, 0, none⟩) n_106 cap_104), (.slice (o_109.map fun b => ⟨b, 0, none⟩) n_112 cap_110)]⟩, ⟨o_103, 124, row encGWornPin xs_3 sp_105⟩, ⟨o_109, 2, row encI64 xs_4 sp_111⟩]) ?_ ?_
      · refine jc_draw [⟨some b_1, 25, [(.int .i16 aF0.fSteps), (.slice aF0_fHammers_a aF0.fHammers.length aF0_fHammers_c)]⟩, ⟨some b_2, 47, [(.slice aW1_fPins_a aW1.fPins.length aW1_fPins_c), (.slice aW1_fStrokes_a aW1.fStrokes.length aW1_fStrokes_c)]⟩] 12 (by kernel_rfl) (by kernel_rfl) ?_
        refine jd_f [⟨0, 0, 0⟩, ⟨2, 1, 0⟩, ⟨4, 0, 0⟩] 9 (by kernel_rfl) (by kernel_rfl) (fun w h => h.pick [0, 1] (by kernel_rfl) (by kernel_rfl)) (by kernel_rfl) (by kernel_rfl) ?_
        refine toD2 1 9 (by kernel_rfl) ?_ ?_
        · obtain ⟨t_31, ht_572, h⟩ := bd h
          refine p_call 0 17 #[(.agg #[(.int .i16 aF0.fSteps), (.slice aF0_fHammers_a aF0.fHammers.length aF0_fHammers_c)])] (by kernel_rfl) (by kernel_rfl) (fun w hm => laws_toFrame.calls aF0 w _ aF0_fHammers_a aF0.fHammers.length aF0_fHammers_c (hm.exRow aF0_fHammers_h List.not_mem_nil) rfl ht_572) ?_
          rintro w v w' hm ⟨o_573, cap_574, sp_575, _, rfl, hs_576, ho_577, rfl, hm'⟩
          refine ⟨_, hm.app hm', jkD (fun w h => h.pick [0, 1] (by kernel_rfl) (by kernel_rfl)) ?_⟩
          clear hm hm'
          refine toD2 3 9 (by kernel_rfl) ?_ ?_
          · obtain ⟨t_32, ht_578, h⟩ := bd h
            refine p_call 0 27 #[(.agg #[(.slice aW1_fPins_a aW1.fPins.length aW1_fPins_c), (.slice aW1_fStrokes_a aW1.fStrokes.length aW1_fStrokes_c)])] (by kernel_rfl) (by kernel_rfl) (fun w hm => laws_toWear.calls aW1 w _ aW1_fPins_a aW1.fPins.length aW1_fPins_c (hm.exRow aW1_fPins_h List.not_mem_nil) rfl aW1_fStrokes_a aW1.fStrokes.length aW1_fStrokes_c (hm.exRow aW1_fStrokes_h List.not_mem_nil) rfl ht_578) ?_
            rintro w v w' hm ⟨o_579, cap_580, sp_581, _, rfl, hs_582, ho_583, o_584, cap_585, sp_586, _, rfl, hs_587, ho_588, rfl, hm'⟩
            refine ⟨_, hm.app hm', jkD (fun w h => h.pick [0, 1] (by kernel_rfl) (by kernel_rfl)) ?_⟩
            clear hm hm'
            refine toD2 5 9 (by kernel_rfl) ?_ ?_
            · obtain ⟨t_33, ht_589, h⟩ := bd h
              refine p_call 0 47 #[(.agg #[(.int .i16 t_31.fSteps), (.slice (o_573.map fun b => ⟨b, 0, none⟩) t_31.fHammers.length cap_574)]), (.agg #[(.slice (o_579.map fun b => ⟨b, 0, none⟩) t_32.fPins.length cap_580), (.slice (o_584.map fun b => ⟨b, 0, none⟩) t_32.fStrokes.length cap_585)]), (.int .i64 aTrack2)] (by kernel_rfl) (by kernel_rfl) (fun w hm => spec_NewHammer.calls t_31 t_32 aTrack2 w _ (o_573.map fun b => ⟨b, 0, none⟩) t_31.fHammers.length cap_574 (hm.ownRow (hh := 2) (o := o_573) (T := 176) (enc := encGHammer) (xs := t_31.fHammers) (sp := sp_575) (by kernel_rfl) (fun e => (ho_577 e).1) encGHammer_len) rfl (o_579.map fun b => ⟨b, 0, none⟩) t_32.fPins.length cap_580 (hm.ownRow (hh := 3) (o := o_579) (T := 124) (enc := encGWornPin) (xs := t_32.fPins) (sp := sp_581) (by kernel_rfl) (fun e => (ho_583 e).1) encGWornPin_len) rfl (o_584.map fun b => ⟨b, 0, none⟩) t_32.fStrokes.length cap_585 (hm.ownRow (hh := 4) (o := o_584) (T := 2) (enc := encI64) (xs := t_32.fStrokes) (sp := sp_586) (by kernel_rfl) (fun e => (ho_588 e).1) encI64_len) rfl ht_589) ?_
              rintro w v w' hm ⟨o_590, cap_591, sp_592, _, rfl, hs_593, ho_594, o_595, cap_596, sp_597, _, rfl, hs_598, ho_599, rfl, hm'⟩
              refine ⟨_, hm.app hm', jkD (fun w h => h.pick [0, 1] (by kernel_rfl) (by kernel_rfl)) ?_⟩
              clear hm hm'
              refine jd_f [⟨6, 0, 0⟩, ⟨7, 0, 0⟩, ⟨8, 0, 0⟩] 3 (by kernel_rfl) (by kernel_rfl) (fun w h => h.pick [0, 1] (by kernel_rfl) (by kernel_rfl)) (by kernel_rfl) (by kernel_rfl) ?_
              refine toD 9 (by kernel_rfl) (p_a 0 [0] (by kernel_rfl) (fun b => by kernel_rfl) (fun b_600 => jkD (fun w h => h.pick [0, 1] (by kernel_rfl) (by kernel_rfl)) ?_))
              refine toD 10 (by kernel_rfl) (p_s 0 [7] (by kernel_rfl) (by kernel_rfl) (jkD (fun w h => h.pick [0, 1] (by kernel_rfl) (by kernel_rfl)) ?_))
              refine jd_f [⟨11, 0, 0⟩] 0 (by kernel_rfl) (by kernel_rfl) (fun w h => h.pick [0, 1] (by kernel_rfl) (by kernel_rfl)) (by kernel_rfl) (by kernel_rfl) ?_
              refine jd_end (by kernel_rfl) ?_
              exact jx_meet ⟨t_33.1.fPins, t_33.1.fStrokes, t_33.2, b_600, o_590, cap_591, sp_592, t_33.1.fPins.length, o_595, cap_596, sp_597, t_33.1.fStrokes.length⟩ ⟨h, rfl, hs_593, ho_594, rfl, hs_598, ho_599⟩ (by kernel_rfl) [0, 1, 7, 5, 6] (by kernel_rfl) (by kernel_rfl)
            · refine p_a 0 [0] (by kernel_rfl) (fun b => by kernel_rfl) (fun b_601 => jkD (fun w h => h.pick [0, 1] (by kernel_rfl) (by kernel_rfl)) ?_)
              obtain ⟨t_33, ht_602, h⟩ := bd h
              refine toD 5 (by kernel_rfl) (p_call 0 47 #[(.agg #[(.int .i16 t_31.fSteps), (.slice (o_573.map fun b => ⟨b, 0, none⟩) t_31.fHammers.length cap_574)]), (.agg #[(.slice (o_579.map fun b => ⟨b, 0, none⟩) t_32.fPins.length cap_580), (.slice (o_584.map fun b => ⟨b, 0, none⟩) t_32.fStrokes.length cap_585)]), (.int .i64 aTrack2)] (by kernel_rfl) (by kernel_rfl) (fun w hm => spec_NewHammer.calls t_31 t_32 aTrack2 w _ (o_573.map fun b => ⟨b, 0, none⟩) t_31.fHammers.length cap_574 (hm.ownRow (hh := 2) (o := o_573) (T := 176) (enc := encGHammer) (xs := t_31.fHammers) (sp := sp_575) (by kernel_rfl) (fun e => (ho_577 e).1) encGHammer_len) rfl (o_579.map fun b => ⟨b, 0, none⟩) t_32.fPins.length cap_580 (hm.ownRow (hh := 3) (o := o_579) (T := 124) (enc := encGWornPin) (xs := t_32.fPins) (sp := sp_581) (by kernel_rfl) (fun e => (ho_583 e).1) encGWornPin_len) rfl (o_584.map fun b => ⟨b, 0, none⟩) t_32.fStrokes.length cap_585 (hm.ownRow (hh := 4) (o := o_584) (T := 2) (enc := encI64) (xs := t_32.fStrokes) (sp := sp_586) (by kernel_rfl) (fun e => (ho_588 e).1) encI64_len) rfl ht_602) ?_)
              rintro w v w' hm ⟨o_603, cap_604, sp_605, _, rfl, hs_606, ho_607, o_608, cap_609, sp_610, _, rfl, hs_611, ho_612, rfl, hm'⟩
              refine ⟨_, hm.app hm', jkD (fun w h => h.pick [0, 1] (by kernel_rfl) (by kernel_rfl)) ?_⟩
              clear hm hm'
              refine jd_f [⟨6, 0, 0⟩, ⟨7, 0, 0⟩, ⟨8, 0, 0⟩] 2 (by kernel_rfl) (by kernel_rfl) (fun w h => h.pick [0, 1] (by kernel_rfl) (by kernel_rfl)) (by kernel_rfl) (by kernel_rfl) ?_
              refine toD 10 (by kernel_rfl) (p_s 0 [5] (by kernel_rfl) (by kernel_rfl) (jkD (fun w h => h.pick [0, 1] (by kernel_rfl) (by kernel_rfl)) ?_))
              refine jd_f [⟨11, 0, 0⟩] 0 (by kernel_rfl) (by kernel_rfl) (fun w h => h.pick [0, 1] (by kernel_rfl) (by kernel_rfl)) (by kernel_rfl) (by kernel_rfl) ?_
              refine jd_end (by kernel_rfl) ?_
              exact jx_meet ⟨t_33.1.fPins, t_33.1.fStrokes, t_33.2, b_601, o_603, cap_604, sp_605, t_33.1.fPins.length, o_608, cap_609, sp_610, t_33.1.fStrokes.length⟩ ⟨h, rfl, hs_606, ho_607, rfl, hs_611, ho_612⟩ (by kernel_rfl) [0, 1, 5, 6, 7] (by kernel_rfl) (by kernel_rfl)
          · refine p_a 0 [0] (by kernel_rfl) (fun b => by kernel_rfl) (fun b_613 => jkD (fun w h => h.pick [0, 1] (by kernel_rfl) (by kernel_rfl)) ?_)
            obtain ⟨t_32, ht_614, h⟩ := bd h
            refine toD 3 (by kernel_rfl) (p_call 0 27 #[(.agg #[(.slice aW1_fPins_a aW1.fPins.length aW1_fPins_c), (.slice aW1_fStrokes_a aW1.fStrokes.length aW1_fStrokes_c)])] (by kernel_rfl) (by kernel_rfl) (fun w hm => laws_toWear.calls aW1 w _ aW1_fPins_a aW1.fPins.length aW1_fPins_c (hm.exRow aW1_fPins_h List.not_mem_nil) rfl aW1_fStrokes_a aW1.fStrokes.length aW1_fStrokes_c (hm.exRow aW1_fStrokes_h List.not_mem_nil) rfl ht_614) ?_)
            rintro w v w' hm ⟨o_615, cap_616, sp_617, _, rfl, hs_618, ho_619, o_620, cap_621, sp_622, _, rfl, hs_623, ho_624, rfl, hm'⟩
            refine ⟨_, hm.app hm', jkD (fun w h => h.pick [0, 1] (by kernel_rfl) (by kernel_rfl)) ?_⟩
            clear hm hm'
            obtain ⟨t_33, ht_625, h⟩ := bd h
            refine toD 5 (by kernel_rfl) (p_call 0 47 #[(.agg #[(.int .i16 t_31.fSteps), (.slice (o_573.map fun b => ⟨b, 0, none⟩) t_31.fHammers.length cap_574)]), (.agg #[(.slice (o_615.map fun b => ⟨b, 0, none⟩) t_32.fPins.length cap_616), (.slice (o_620.map fun b => ⟨b, 0, none⟩) t_32.fStrokes.length cap_621)]), (.int .i64 aTrack2)] (by kernel_rfl) (by kernel_rfl) (fun w hm => spec_NewHammer.calls t_31 t_32 aTrack2 w _ (o_573.map fun b => ⟨b, 0, none⟩) t_31.fHammers.length cap_574 (hm.ownRow (hh := 2) (o := o_573) (T := 176) (enc := encGHammer) (xs := t_31.fHammers) (sp := sp_575) (by kernel_rfl) (fun e => (ho_577 e).1) encGHammer_len) rfl (o_615.map fun b => ⟨b, 0, none⟩) t_32.fPins.length cap_616 (hm.ownRow (hh := 4) (o := o_615) (T := 124) (enc := encGWornPin) (xs := t_32.fPins) (sp := sp_617) (by kernel_rfl) (fun e => (ho_619 e).1) encGWornPin_len) rfl (o_620.map fun b => ⟨b, 0, none⟩) t_32.fStrokes.length cap_621 (hm.ownRow (hh := 5) (o := o_620) (T := 2) (enc := encI64) (xs := t_32.fStrokes) (sp := sp_622) (by kernel_rfl) (fun e => (ho_624 e).1) encI64_len) rfl ht_625) ?_)
            rintro w v w' hm ⟨o_626, cap_627, sp_628, _, rfl, hs_629, ho_630, o_631, cap_632, sp_633, _, rfl, hs_634, ho_635, rfl, hm'⟩
            refine ⟨_, hm.app hm', jkD (fun w h => h.pick [0, 1] (by kernel_rfl) (by kernel_rfl)) ?_⟩
            clear hm hm'
            refine jd_f [⟨6, 0, 0⟩, ⟨7, 0, 0⟩, ⟨8, 0, 0⟩] 2 (by kernel_rfl) (by kernel_rfl) (fun w h => h.pick [0, 1] (by kernel_rfl) (by kernel_rfl)) (by kernel_rfl) (by kernel_rfl) ?_
            refine toD 10 (by kernel_rfl) (p_s 0 [3] (by kernel_rfl) (by kernel_rfl) (jkD (fun w h => h.pick [0, 1] (by kernel_rfl) (by kernel_rfl)) ?_))
            refine jd_f [⟨11, 0, 0⟩] 0 (by kernel_rfl) (by kernel_rfl) (fun w h => h.pick [0, 1] (by kernel_rfl) (by kernel_rfl)) (by kernel_rfl) (by kernel_rfl) ?_
            refine jd_end (by kernel_rfl) ?_
            exact jx_meet ⟨t_33.1.fPins, t_33.1.fStrokes, t_33.2, b_613, o_626, cap_627, sp_628, t_33.1.fPins.length, o_631, cap_632, sp_633, t_33.1.fStrokes.length⟩ ⟨h, rfl, hs_629, ho_630, rfl, hs_634, ho_635⟩ (by kernel_rfl) [0, 1, 3, 6, 7] (by kernel_rfl) (by kernel_rfl)
        · refine p_a 0 [0] (by kernel_rfl) (fun b => by kernel_rfl) (fun b_636 => jkD (fun w h => h.pick [0, 1] (by kernel_rfl) (by kernel_rfl)) ?_)
          obtain ⟨t_31, ht_637, h⟩ := bd h
          refine toD 1 (by kernel_rfl) (p_call 0 17 #[(.agg #[(.int .i16 aF0.fSteps), (.slice aF0_fHammers_a aF0.fHammers.length aF0_fHammers_c)])] (by kernel_rfl) (by kernel_rfl) (fun w hm => laws_toFrame.calls aF0 w _ aF0_fHammers_a aF0.fHammers.length aF0_fHammers_c (hm.exRow aF0_fHammers_h List.not_mem_nil) rfl ht_637) ?_)
          rintro w v w' hm ⟨o_638, cap_639, sp_640, _, rfl, hs_641, ho_642, rfl, hm'⟩
          refine ⟨_, hm.app hm', jkD (fun w h => h.pick [0, 1] (by kernel_rfl) (by kernel_rfl)) ?_⟩
          clear hm hm'
          obtain ⟨t_32, ht_643, h⟩ := bd h
          refine toD 3 (by kernel_rfl) (p_call 0 27 #[(.agg #[(.slice aW1_fPins_a aW1.fPins.length aW1_fPins_c), (.slice aW1_fStrokes_a aW1.fStrokes.length aW1_fStrokes_c)])] (by kernel_rfl) (by kernel_rfl) (fun w hm => laws_toWear.calls aW1 w _ aW1_fPins_a aW1.fPins.length aW1_fPins_c (hm.exRow aW1_fPins_h List.not_mem_nil) rfl aW1_fStrokes_a aW1.fStrokes.length aW1_fStrokes_c (hm.exRow aW1_fStrokes_h List.not_mem_nil) rfl ht_643) ?_)
          rintro w v w' hm ⟨o_644, cap_645, sp_646, _, rfl, hs_647, ho_648, o_649, cap_650, sp_651, _, rfl, hs_652, ho_653, rfl, hm'⟩
          refine ⟨_, hm.app hm', jkD (fun w h => h.pick [0, 1] (by kernel_rfl) (by kernel_rfl)) ?_⟩
          clear hm hm'
          obtain ⟨t_33, ht_654, h⟩ := bd h
          refine toD 5 (by kernel_rfl) (p_call 0 47 #[(.agg #[(.int .i16 t_31.fSteps), (.slice (o_638.map fun b => ⟨b, 0, none⟩) t_31.fHammers.length cap_639)]), (.agg #[(.slice (o_644.map fun b => ⟨b, 0, none⟩) t_32.fPins.length cap_645), (.slice (o_649.map fun b => ⟨b, 0, none⟩) t_32.fStrokes.length cap_650)]), (.int .i64 aTrack2)] (by kernel_rfl) (by kernel_rfl) (fun w hm => spec_NewHammer.calls t_31 t_32 aTrack2 w _ (o_638.map fun b => ⟨b, 0, none⟩) t_31.fHammers.length cap_639 (hm.ownRow (hh := 3) (o := o_638) (T := 176) (enc := encGHammer) (xs := t_31.fHammers) (sp := sp_640) (by kernel_rfl) (fun e => (ho_642 e).1) encGHammer_len) rfl (o_644.map fun b => ⟨b, 0, none⟩) t_32.fPins.length cap_645 (hm.ownRow (hh := 4) (o := o_644) (T := 124) (enc := encGWornPin) (xs := t_32.fPins) (sp := sp_646) (by kernel_rfl) (fun e => (ho_648 e).1) encGWornPin_len) rfl (o_649.map fun b => ⟨b, 0, none⟩) t_32.fStrokes.length cap_650 (hm.ownRow (hh := 5) (o := o_649) (T := 2) (enc := encI64) (xs := t_32.fStrokes) (sp := sp_651) (by kernel_rfl) (fun e => (ho_653 e).1) encI64_len) rfl ht_654) ?_)
          rintro w v w' hm ⟨o_655, cap_656, sp_657, _, rfl, hs_658, ho_659, o_660, cap_661, sp_662, _, rfl, hs_663, ho_664, rfl, hm'⟩
          refine ⟨_, hm.app hm', jkD (fun w h => h.pick [0, 1] (by kernel_rfl) (by kernel_rfl)) ?_⟩
          clear hm hm'
          refine jd_f [⟨6, 0, 0⟩, ⟨7, 0, 0⟩, ⟨8, 0, 0⟩] 2 (by kernel_rfl) (by kernel_rfl) (fun w h => h.pick [0, 1] (by kernel_rfl) (by kernel_rfl)) (by kernel_rfl) (by kernel_rfl) ?_
          refine toD 10 (by kernel_rfl) (p_s 0 [2] (by kernel_rfl) (by kernel_rfl) (jkD (fun w h => h.pick [0, 1] (by kernel_rfl) (by kernel_rfl)) ?_))
          refine jd_f [⟨11, 0, 0⟩] 0 (by kernel_rfl) (by kernel_rfl) (fun w h => h.pick [0, 1] (by kernel_rfl) (by kernel_rfl)) (by kernel_rfl) (by kernel_rfl) ?_
          refine jd_end (by kernel_rfl) ?_
          exact jx_meet ⟨t_33.1.fPins, t_33.1.fStrokes, t_33.2, b_636, o_655, cap_656, sp_657, t_33.1.fPins.length, o_660, cap_661, sp_662, t_33.1.fStrokes.length⟩ ⟨h, rfl, hs_658, ho_659, rfl, hs_663, ho_664⟩ (by kernel_rfl) [0, 1, 2, 6, 7] (by kernel_rfl) (by kernel_rfl)
      · rintro ⟨xs_3, xs_4, i_5, b_102, o_103, cap_104, sp_105, n_106, o_109, cap_110, sp_111, n_112⟩ ⟨h, rfl, hs_107, ho_108, rfl, hs_113, ho_114⟩
        replace h : laws_FnExactNewHammer.k_6 aF0 aW1 aTrack2 xs_3 xs_4 i_5 = some r := h
        rw [laws_FnExactNewHammer.k_6] at h
        refine jx_then ?_
        refine jc_seq ?_
        refine jc_region ?_
        refine jo_f [(0, 0)] (by kernel_rfl) ?_
        obtain ⟨t_7, ht_115, h⟩ := bd h
        refine toO (by kernel_rfl) (p_call 0 17 #[(.agg #[(.int .i16 aF0.fSteps), (.slice aF0_fHammers_a aF0.fHammers.length aF0_fHammers_c)])] (by kernel_rfl) (by kernel_rfl) (fun w hm => laws_toFrame.calls aF0 w _ aF0_fHammers_a aF0.fHammers.length aF0_fHammers_c (hm.exRow aF0_fHammers_h List.not_mem_nil) rfl ht_115) ?_)
        rintro w v w' hm ⟨o_116, cap_117, sp_118, _, rfl, hs_119, ho_120, rfl, hm'⟩
        refine ⟨_, hm.app hm', jkO ?_⟩
        clear hm hm'
        refine toO (by kernel_rfl) (p_a 0 [0] (by kernel_rfl) (fun b => by kernel_rfl) (fun b_121 => jkO ?_))
        refine toO (by kernel_rfl) (p_s 0 [6] (by kernel_rfl) (by kernel_rfl) (jkO ?_))
        refine jo_end (by kernel_rfl) ?_
        refine jx_then ?_
        refine jc_seq ?_
        refine jc_region ?_
        refine jo_f [(1, 0)] (by kernel_rfl) ?_
        obtain ⟨t_8, ht_122, h⟩ := bd h
        refine toO (by kernel_rfl) (p_call 0 27 #[(.agg #[(.slice aW1_fPins_a aW1.fPins.length aW1_fPins_c), (.slice aW1_fStrokes_a aW1.fStrokes.length aW1_fStrokes_c)])] (by kernel_rfl) (by kernel_rfl) (fun w hm => laws_toWear.calls aW1 w _ aW1_fPins_a aW1.fPins.length aW1_fPins_c (hm.exRow aW1_fPins_h List.not_mem_nil) rfl aW1_fStrokes_a aW1.fStrokes.length aW1_fStrokes_c (hm.exRow aW1_fStrokes_h List.not_mem_nil) rfl ht_122) ?_)
        rintro w v w' hm ⟨o_123, cap_124, sp_125, _, rfl, hs_126, ho_127, o_128, cap_129, sp_130, _, rfl, hs_131, ho_132, rfl, hm'⟩
        refine ⟨_, hm.app hm', jkO ?_⟩
        clear hm hm'
        refine toO (by kernel_rfl) (p_a 0 [0] (by kernel_rfl) (fun b => by kernel_rfl) (fun b_133 => jkO ?_))
        refine toO (by kernel_rfl) (p_s 0 [9] (by kernel_rfl) (by kernel_rfl) (jkO ?_))
        refine jo_end (by kernel_rfl) ?_
        refine jx_then ?_
        refine jc_seq ?_
        refine jc_region ?_
        refine jo_f [(6, 0), (9, 0), (0, 0)] (by kernel_rfl) ?_
        obtain ⟨t_9, ht_134, h⟩ := bd h
        refine toO (by kernel_rfl) (p_call 0 48 #[(.agg #[(.int .i16 t_7.fSteps), (.slice (o_116.map fun b => ⟨b, 0, none⟩) t_7.fHammers.length cap_117)]), (.agg #[(.slice (o_123.map fun b => ⟨b, 0, none⟩) t_8.fPins.length cap_124), (.slice (o_128.map fun b => ⟨b, 0, none⟩) t_8.fStrokes.length cap_129)]), (.int .i64 aTrack2)] (by kernel_rfl) (by kernel_rfl) (fun w hm => impl_NewHammer.calls t_7 t_8 aTrack2 w _ (o_116.map fun b => ⟨b, 0, none⟩) t_7.fHammers.length cap_117 (hm.ownRow (hh := 5) (o := o_116) (T := 176) (enc := encGHammer) (xs := t_7.fHammers) (sp := sp_118) (by kernel_rfl) (fun e => (ho_120 e).1) encGHammer_len) rfl (o_123.map fun b => ⟨b, 0, none⟩) t_8.fPins.length cap_124 (hm.ownRow (hh := 7) (o := o_123) (T := 124) (enc := encGWornPin) (xs := t_8.fPins) (sp := sp_125) (by kernel_rfl) (fun e => (ho_127 e).1) encGWornPin_len) rfl (o_128.map fun b => ⟨b, 0, none⟩) t_8.fStrokes.length cap_129 (hm.ownRow (hh := 8) (o := o_128) (T := 2) (enc := encI64) (xs := t_8.fStrokes) (sp := sp_130) (by kernel_rfl) (fun e => (ho_132 e).1) encI64_len) rfl ht_134) ?_)
        rintro w v w' hm ⟨o_135, cap_136, sp_137, _, rfl, hs_138, ho_139, o_140, cap_141, sp_142, _, rfl, hs_143, ho_144, rfl, hm'⟩
        refine ⟨_, hm.app hm', jkO ?_⟩
        clear hm hm'
        refine jo_f [(0, 0), (0, 0), (0, 0)] (by kernel_rfl) ?_
        refine toO (by kernel_rfl) (p_a 0 [0] (by kernel_rfl) (fun b => by kernel_rfl) (fun b_145 => jkO ?_))
        refine toO (by kernel_rfl) (p_s 0 [12] (by kernel_rfl) (by kernel_rfl) (jkO ?_))
        refine jo_f [(0, 0)] (by kernel_rfl) ?_
        refine jo_end (by kernel_rfl) ?_
        refine jx_then ?_
        refine jc_seq ?_
        refine jc_seq ?_
        refine jc_region ?_
        refine jo_f [(12, 0), (2, 0)] (by kernel_rfl) ?_
        obtain ⟨t_10, ht_150, h⟩ := bd h
        refine toO (by kernel_rfl) (p_call 0 29 #[(.agg #[(.slice (o_135.map fun b => ⟨b, 0, none⟩) t_9.1.fPins.length cap_136), (.slice (o_140.map fun b => ⟨b, 0, none⟩) t_9.1.fStrokes.length cap_141)]), (.agg #[(.slice (o_103.map fun b => ⟨b, 0, none⟩) xs_3.length cap_104), (.slice (o_109.map fun b => ⟨b, 0, none⟩) xs_4.length cap_110)])] (by kernel_rfl) (by kernel_rfl) (fun w hm => laws_eqWear.calls t_9.1 (⟨xs_3, xs_4⟩ : GWear) w _ (o_135.map fun b => ⟨b, 0, none⟩) t_9.1.fPins.length cap_136 (hm.ownRow (hh := 10) (o := o_135) (T := 124) (enc := encGWornPin) (xs := t_9.1.fPins) (sp := sp_137) (by kernel_rfl) (fun e => (ho_139 e).1) encGWornPin_len) rfl (o_140.map fun b => ⟨b, 0, none⟩) t_9.1.fStrokes.length cap_141 (hm.ownRow (hh := 11) (o := o_140) (T := 2) (enc := encI64) (xs := t_9.1.fStrokes) (sp := sp_142) (by kernel_rfl) (fun e => (ho_144 e).1) encI64_len) rfl (o_103.map fun b => ⟨b, 0, none⟩) xs_3.length cap_104 (hm.ownRow (hh := 3) (o := o_103) (T := 124) (enc := encGWornPin) (xs := xs_3) (sp := sp_105) (by kernel_rfl) (fun e => (ho_108 e).1) encGWornPin_len) rfl (o_109.map fun b => ⟨b, 0, none⟩) xs_4.length cap_110 (hm.ownRow (hh := 4) (o := o_109) (T := 2) (enc := encI64) (xs := xs_4) (sp := sp_111) (by kernel_rfl) (fun e => (ho_114 e).1) encI64_len) rfl ht_150) ?_)
        rintro w v w' hm ⟨rfl, hm'⟩
        refine ⟨_, hm.app hm', jkO ?_⟩
        clear hm hm'
        refine jo_f [(0, 0), (0, 0), (0, 1), (0, 1), (0, 1), (0, 0)] (by kernel_rfl) ?_
        refine jo_end (by kernel_rfl) ?_
        refine jx_then ?_
        refine jc_cond ((!t_10) || (t_9.2 != i_5)) (by kernel_rfl) (fun hc_151 => ?_) (fun hc_151 => ?_)
        · replace h := ifT hc_151 h
          refine jc_seq ?_
          refine jc_region ?_
          refine jo_f [(0, 0)] (by kernel_rfl) ?_
          refine jo_end (by kernel_rfl) ?_
          refine jx_then ?_
          refine jc_ret ?_
          refine jx_thenr ?_
          obtain rfl := Option.some.inj h
          exact jx_ret [] (.bool false) [] rfl (by kernel_rfl) (by kernel_rfl) (fun w hm => ⟨rfl, hm.pick [] (by kernel_rfl) (by kernel_rfl)⟩)
        · replace h := ifF hc_151 h
          refine jc_skip ?_
          refine jx_then ?_
          refine jc_seq ?_
          refine jc_seq ?_
          refine jc_draw [⟨some b_1, 25, [(.int .i16 aF0.fSteps), (.slice aF0_fHammers_a aF0.fHammers.length aF0_fHammers_c)]⟩, ⟨some b_2, 47, [(.slice aW1_fPins_a aW1.fPins.length aW1_fPins_c), (.slice aW1_fStrokes_a aW1.fStrokes.length aW1_fStrokes_c)]⟩, ⟨some b_102, 52, [(.slice (o_103.map fun b => ⟨b, 0, none⟩) xs_3.length cap_104), (.slice (o_109.map fun b => ⟨b, 0, none⟩) xs_4.length cap_110)]⟩, ⟨o_103, 124, row encGWornPin xs_3 sp_105⟩, ⟨o_109, 2, row encI64 xs_4 sp_111⟩, ⟨o_116, 176, row encGHammer t_7.fHammers sp_118⟩, ⟨some b_121, 35, [(.int .i16 t_7.fSteps), (.slice (o_116.map fun b => ⟨b, 0, none⟩) t_7.fHammers.length cap_117)]⟩, ⟨o_123, 124, row encGWornPin t_8.fPins sp_125⟩, ⟨o_128, 2, row encI64 t_8.fStrokes sp_130⟩, ⟨some b_133, 52, [(.slice (o_123.map fun b => ⟨b, 0, none⟩) t_8.fPins.length cap_124), (.slice (o_128.map fun b => ⟨b, 0, none⟩) t_8.fStrokes.length cap_129)]⟩, ⟨o_135, 124, row encGWornPin t_9.1.fPins sp_137⟩, ⟨o_140, 2, row encI64 t_9.1.fStrokes sp_142⟩, ⟨some b_145, 52, [(.slice (o_135.map fun b => ⟨b, 0, none⟩) t_9.1.fPins.length cap_136), (.slice (o_140.map fun b => ⟨b, 0, none⟩) t_9.1.fStrokes.length cap_141)]⟩] 5 (by kernel_rfl) (by kernel_rfl) ?_
          refine jd_f [⟨0, 6, 0⟩, ⟨1, 0, 0⟩] 3 (by kernel_rfl) (by kernel_rfl) (fun w h => h.pick [0, 1, 2, 3, 4, 5, 6, 7, 8, 9, 10, 11, 12] (by kernel_rfl) (by kernel_rfl)) (by kernel_rfl) (by kernel_rfl) ?_
          obtain ⟨t_11, ht_174, h⟩ := bd h
          refine toD 2 (by kernel_rfl) (p_call 0 17 #[(.agg #[(.int .i16 aF0.fSteps), (.slice aF0_fHammers_a aF0.fHammers.length aF0_fHammers_c)])] (by kernel_rfl) (by kernel_rfl) (fun w hm => laws_toFrame.calls aF0 w _ aF0_fHammers_a aF0.fHammers.length aF0_fHammers_c (hm.exRow aF0_fHammers_h List.not_mem_nil) rfl ht_174) ?_)
          rintro w v w' hm ⟨o_175, cap_176, sp_177, _, rfl, hs_178, ho_179, rfl, hm'⟩
          refine ⟨_, hm.app hm', jkD (fun w h => h.pick [0, 1, 2, 3, 4, 5, 6, 7, 8, 9, 10, 11, 12] (by kernel_rfl) (by kernel_rfl)) ?_⟩
          clear hm hm'
          obtain ⟨t_12, ht_180, h⟩ := bd h
          refine toD 3 (by kernel_rfl) (p_call 0 21 #[(.agg #[(.int .i16 t_7.fSteps), (.slice (o_116.map fun b => ⟨b, 0, none⟩) t_7.fHammers.length cap_117)]), (.agg #[(.int .i16 t_11.fSteps), (.slice (o_175.map fun b => ⟨b, 0, none⟩) t_11.fHammers.length cap_176)])] (by kernel_rfl) (by kernel_rfl) (fun w hm => laws_eqFrame.calls t_7 t_11 w _ (o_116.map fun b => ⟨b, 0, none⟩) t_7.fHammers.length cap_117 (hm.ownRow (hh := 5) (o := o_116) (T := 176) (enc := encGHammer) (xs := t_7.fHammers) (sp := sp_118) (by kernel_rfl) (fun e => (ho_120 e).1) encGHammer_len) rfl (o_175.map fun b => ⟨b, 0, none⟩) t_11.fHammers.length cap_176 (hm.ownRow (hh := 13) (o := o_175) (T := 176) (enc := encGHammer) (xs := t_11.fHammers) (sp := sp_177) (by kernel_rfl) (fun e => (ho_179 e).1) encGHammer_len) rfl ht_180) ?_)
          rintro w v w' hm ⟨rfl, hm'⟩
          refine ⟨_, hm.app hm', jkD (fun w h => h.pick [0, 1, 2, 3, 4, 5, 6, 7, 8, 9, 10, 11, 12] (by kernel_rfl) (by kernel_rfl)) ?_⟩
          clear hm hm'
          refine jd_f [⟨4, 0, 0⟩] 0 (by kernel_rfl) (by kernel_rfl) (fun w h => h.pick [0, 1, 2, 3, 4, 5, 6, 7, 8, 9, 10, 11, 12] (by kernel_rfl) (by kernel_rfl)) (by kernel_rfl) (by kernel_rfl) ?_
          refine jd_end (by kernel_rfl) ?_
          refine jx_then ?_
          refine jc_cond (!t_12) (by kernel_rfl) (fun hc_181 => ?_) (fun hc_181 => ?_)
          · replace h := ifT hc_181 h
            refine jc_seq ?_
            refine jc_region ?_
            refine jo_f [(0, 0)] (by kernel_rfl) ?_
            refine jo_end (by kernel_rfl) ?_
            refine jx_then ?_
            refine jc_ret ?_
            refine jx_thenr ?_
            obtain rfl := Option.some.inj h
            exact jx_ret [] (.bool false) [] rfl (by kernel_rfl) (by kernel_rfl) (fun w hm => ⟨rfl, hm.pick [] (by kernel_rfl) (by kernel_rfl)⟩)
          · replace h := ifF hc_181 h
            refine jc_skip ?_
            refine jx_then ?_
            refine jc_seq ?_
            refine jc_seq ?_
            refine jc_draw [⟨some b_1, 25, [(.int .i16 aF0.fSteps), (.slice aF0_fHammers_a aF0.fHammers.length aF0_fHammers_c)]⟩, ⟨some b_2, 47, [(.slice aW1_fPins_a aW1.fPins.length aW1_fPins_c), (.slice aW1_fStrokes_a aW1.fStrokes.length aW1_fStrokes_c)]⟩, ⟨some b_102, 52, [(.slice (o_103.map fun b => ⟨b, 0, none⟩) xs_3.length cap_104), (.slice (o_109.map fun b => ⟨b, 0, none⟩) xs_4.length cap_110)]⟩, ⟨o_103, 124, row encGWornPin xs_3 sp_105⟩, ⟨o_109, 2, row encI64 xs_4 sp_111⟩, ⟨some b_121, 35, [(.int .i16 t_7.fSteps), (.slice (o_116.map fun b => ⟨b, 0, none⟩) t_7.fHammers.length cap_117)]⟩, ⟨some b_133, 52, [(.slice (o_123.map fun b => ⟨b, 0, none⟩) t_8.fPins.length cap_124), (.slice (o_128.map fun b => ⟨b, 0, none⟩) t_8.fStrokes.length cap_129)]⟩, ⟨some b_145, 52, [(.slice (o_135.map fun b => ⟨b, 0, none⟩) t_9.1.fPins.length cap_136), (.slice (o_140.map fun b => ⟨b, 0, none⟩) t_9.1.fStrokes.length cap_141)]⟩, ⟨o_175, 176, row encGHammer t_11.fHammers sp_177⟩] 5 (by kernel_rfl) (by kernel_rfl) ?_
            refine jd_f [⟨0, 6, 0⟩, ⟨1, 1, 0⟩] 3 (by kernel_rfl) (by kernel_rfl) (fun w h => h.pick [0, 1, 2, 3, 4, 6, 9, 12, 13] (by kernel_rfl) (by kernel_rfl)) (by kernel_rfl) (by kernel_rfl) ?_
            obtain ⟨t_13, ht_322, h⟩ := bd h
            refine toD 2 (by kernel_rfl) (p_call 0 27 #[(.agg #[(.slice aW1_fPins_a aW1.fPins.length aW1_fPins_c), (.slice aW1_fStrokes_a aW1.fStrokes.length aW1_fStrokes_c)])] (by kernel_rfl) (by kernel_rfl) (fun w hm => laws_toWear.calls aW1 w _ aW1_fPins_a aW1.fPins.length aW1_fPins_c (hm.exRow aW1_fPins_h List.not_mem_nil) rfl aW1_fStrokes_a aW1.fStrokes.length aW1_fStrokes_c (hm.exRow aW1_fStrokes_h List.not_mem_nil) rfl ht_322) ?_)
            rintro w v w' hm ⟨o_323, cap_324, sp_325, _, rfl, hs_326, ho_327, o_328, cap_329, sp_330, _, rfl, hs_331, ho_332, rfl, hm'⟩
            refine ⟨_, hm.app hm', jkD (fun w h => h.pick [0, 1, 2, 3, 4, 6, 9, 12, 13] (by kernel_rfl) (by kernel_rfl)) ?_⟩
            clear hm hm'
            obtain ⟨t_14, ht_333, h⟩ := bd h
            refine toD 3 (by kernel_rfl) (p_call 0 29 #[(.agg #[(.slice (o_123.map fun b => ⟨b, 0, none⟩) t_8.fPins.length cap_124), (.slice (o_128.map fun b => ⟨b, 0, none⟩) t_8.fStrokes.length cap_129)]), (.agg #[(.slice (o_323.map fun b => ⟨b, 0, none⟩) t_13.fPins.length cap_324), (.slice (o_328.map fun b => ⟨b, 0, none⟩) t_13.fStrokes.length cap_329)])] (by kernel_rfl) (by kernel_rfl) (fun w hm => laws_eqWear.calls t_8 t_13 w _ (o_123.map fun b => ⟨b, 0, none⟩) t_8.fPins.length cap_124 (hm.ownRow (hh := 7) (o := o_123) (T := 124) (enc := encGWornPin) (xs := t_8.fPins) (sp := sp_125) (by kernel_rfl) (fun e => (ho_127 e).1) encGWornPin_len) rfl (o_128.map fun b => ⟨b, 0, none⟩) t_8.fStrokes.length cap_129 (hm.ownRow (hh := 8) (o := o_128) (T := 2) (enc := encI64) (xs := t_8.fStrokes) (sp := sp_130) (by kernel_rfl) (fun e => (ho_132 e).1) encI64_len) rfl (o_323.map fun b => ⟨b, 0, none⟩) t_13.fPins.length cap_324 (hm.ownRow (hh := 14) (o := o_323) (T := 124) (enc := encGWornPin) (xs := t_13.fPins) (sp := sp_325) (by kernel_rfl) (fun e => (ho_327 e).1) encGWornPin_len) rfl (o_328.map fun b => ⟨b, 0, none⟩) t_13.fStrokes.length cap_329 (hm.ownRow (hh := 15) (o := o_328) (T := 2) (enc := encI64) (xs := t_13.fStrokes) (sp := sp_330) (by kernel_rfl) (fun e => (ho_332 e).1) encI64_len) rfl ht_333) ?_)
            rintro w v w' hm ⟨rfl, hm'⟩
            refine ⟨_, hm.app hm', jkD (fun w h => h.pick [0, 1, 2, 3, 4, 6, 9, 12, 13] (by kernel_rfl) (by kernel_rfl)) ?_⟩
            clear hm hm'
            refine jd_f [⟨4, 0, 0⟩] 0 (by kernel_rfl) (by kernel_rfl) (fun w h => h.pick [0, 1, 2, 3, 4, 6, 9, 12, 13] (by kernel_rfl) (by kernel_rfl)) (by kernel_rfl) (by kernel_rfl) ?_
            refine jd_end (by kernel_rfl) ?_
            refine jx_then ?_
            refine jc_cond (!t_14) (by kernel_rfl) (fun hc_334 => ?_) (fun hc_334 => ?_)
            · replace h := ifT hc_334 h
              refine jc_seq ?_
              refine jc_region ?_
              refine jo_f [(0, 0)] (by kernel_rfl) ?_
              refine jo_end (by kernel_rfl) ?_
              refine jx_then ?_
              refine jc_ret ?_
              refine jx_thenr ?_
              obtain rfl := Option.some.inj h
              exact jx_ret [] (.bool false) [] rfl (by kernel_rfl) (by kernel_rfl) (fun w hm => ⟨rfl, hm.pick [] (by kernel_rfl) (by kernel_rfl)⟩)
            · replace h := ifF hc_334 h
              refine jc_skip ?_
              refine jx_then ?_
              refine jc_seq ?_
              refine jc_region ?_
              refine jo_f [(0, 0)] (by kernel_rfl) ?_
              refine jo_end (by kernel_rfl) ?_
              refine jx_then ?_
              refine jc_seq ?_
              refine jc_region ?_
              refine jo_f [(6, 0), (0, 0)] (by kernel_rfl) ?_
              obtain ⟨t_15, ht_335, h⟩ := bd h
              refine toO (by kernel_rfl) (p_call 0 22 #[(.agg #[(.int .i16 t_7.fSteps), (.slice (o_116.map fun b => ⟨b, 0, none⟩) t_7.fHammers.length cap_117)]), (.int .i64 1)] (by kernel_rfl) (by kernel_rfl) (fun w hm => laws_markFrame.calls t_7 1 w _ o_116 t_7.fHammers.length cap_117 sp_118 rfl hs_119 ho_120 (hm.pass (N := [⟨o_116, 176, row encGHammer t_7.fHammers sp_118⟩]) [5] (by kernel_rfl) (by kernel_rfl)) ht_335) ?_)
              rintro w v w' hm ⟨hn_336, ho_337, rfl, hm'⟩
              refine ⟨_, hm.appW (ps := [(5, ⟨o_116, 176, row encGHammer t_15.2 sp_118⟩)]) (N := []) hm' (by kernel_rfl) (by kernel_rfl), jkO ?_⟩
              clear hm hm'
              refine jo_f [(0, 0)] (by kernel_rfl) ?_
              refine jo_end (by kernel_rfl) ?_
              refine jx_then ?_
              refine jc_seq ?_
              refine jc_region ?_
              refine jo_f [(9, 0), (0, 0)] (by kernel_rfl) ?_
              obtain ⟨t_16, ht_338, h⟩ := bd h
              refine toO (by kernel_rfl) (p_call 0 37 #[(.agg #[(.slice (o_123.map fun b => ⟨b, 0, none⟩) t_8.fPins.length cap_124), (.slice (o_128.map fun b => ⟨b, 0, none⟩) t_8.fStrokes.length cap_129)]), (.int .i64 t_15.1)] (by kernel_rfl) (by kernel_rfl) (fun w hm => laws_markWear.calls t_8 t_15.1 w _ o_123 t_8.fPins.length cap_124 sp_125 rfl hs_126 ho_127 o_128 t_8.fStrokes.length cap_129 sp_130 rfl hs_131 ho_132 (hm.pass (N := [⟨o_123, 124, row encGWornPin t_8.fPins sp_125⟩, ⟨o_128, 2, row encI64 t_8.fStrokes sp_130⟩]) [7, 8] (by kernel_rfl) (by kernel_rfl)) ht_338) ?_)
              rintro w v w' hm ⟨hn_339, ho_340, hn_341, ho_342, rfl, hm'⟩
              refine ⟨_, hm.appW (ps := [(7, ⟨o_123, 124, row encGWornPin t_16.2.1 sp_125⟩), (8, ⟨o_128, 2, row encI64 t_16.2.2 sp_130⟩)]) (N := []) hm' (by kernel_rfl) (by kernel_rfl), jkO ?_⟩
              clear hm hm'
              refine jo_f [(0, 0)] (by kernel_rfl) ?_
              refine jo_end (by kernel_rfl) ?_
              refine jx_then ?_
              refine jc_seq ?_
              refine jc_seq ?_
              refine jc_meet (fun (j : Bool) => match j with | q_17 => laws_FnExactNewHammer.k_18 aF0 aW1 aTrack2 xs_3 xs_4 i_5 t_9 q_17 = some r) (fun (j : Bool) => match j with | q_17 => [(2, [], (.int .i64 aTrack2)), (3, [], (.pointer (some ⟨b_1, 0, none⟩))), (4, [], (.pointer (some ⟨b_2, 0, none⟩))), (6, [], (.bool false)), (8, [], (.pointer (some ⟨b_102, 0, none⟩))), (9, [], (.int .i64 i_5)), (12, [], (.pointer (some ⟨b_145, 0, none⟩))), (86, [], (.bool q_17))]) (fun (j : Bool) => match j with | q_17 => [⟨some b_1, 25, [(.int .i16 aF0.fSteps), (.slice aF0_fHammers_a aF0.fHammers.length aF0_fHammers_c)]⟩, ⟨some b_2, 47, [(.slice aW1_fPins_a aW1.fPins.length aW1_fPins_c), (.slice aW1_fStrokes_a aW1.fStrokes.length aW1_fStrokes_c)]⟩, ⟨some b_102, 52, [(.slice (o_103.map fun b => ⟨b, 0, none⟩) xs_3.length cap_104), (.slice (o_109.map fun b => ⟨b, 0, none⟩) xs_4.length cap_110)]⟩, ⟨o_103, 124, row encGWornPin xs_3 sp_105⟩, ⟨o_109, 2, row encI64 xs_4 sp_111⟩, ⟨o_116, 176, row encGHammer t_15.2 sp_118⟩, ⟨some b_121, 35, [(.int .i16 t_7.fSteps), (.slice (o_116.map fun b => ⟨b, 0, none⟩) t_7.fHammers.length cap_117)]⟩, ⟨o_123, 124, row encGWornPin t_16.2.1 sp_125⟩, ⟨o_128, 2, row encI64 t_16.2.2 sp_130⟩, ⟨some b_133, 52, [(.slice (o_123.map fun b => ⟨b, 0, none⟩) t_8.fPins.length cap_124), (.slice (o_128.map fun b => ⟨b, 0, none⟩) t_8.fStrokes.length cap_129)]⟩, ⟨o_135, 124, row encGWornPin t_9.1.fPins sp_137⟩, ⟨o_140, 2, row encI64 t_9.1.fStrokes sp_142⟩, ⟨some b_145, 52, [(.slice (o_135.map fun b => ⟨b, 0, none⟩) t_9.1.fPins.length cap_136), (.slice (o_140.map fun b => ⟨b, 0, none⟩) t_9.1.fStrokes.length cap_141)]⟩, ⟨o_175, 176, row encGHammer t_11.fHammers sp_177⟩, ⟨o_323, 124, row encGWornPin t_13.fPins sp_325⟩, ⟨o_328, 2, row encI64 t_13.fStrokes sp_330⟩]) ?_ ?_
              · refine jc_region ?_
                refine jo_f [(0, 0), (0, 0), (0, 0), (12, 1), (2, 1)] (by kernel_rfl) ?_
                refine jo_split 76 (decide (t_16.1 < 0)) (by kernel_rfl) (fun hc_570 => ?_) (fun hc_570 => ?_)
                · replace h := ifT hc_570 h
                  refine jo_f [(0, 3), (0, 3), (0, 4), (0, 0), (0, 3), (0, 3), (0, 3), (0, 4)] (by kernel_rfl) ?_
                  refine jo_end (by kernel_rfl) ?_
                  exact jx_meet true h (by kernel_rfl) [0, 1, 2, 3, 4, 5, 6, 7, 8, 9, 10, 11, 12, 13, 14, 15] (by kernel_rfl) (by kernel_rfl)
                · replace h := ifF hc_570 h
                  obtain ⟨t_30, ht_571, h⟩ := bd h
                  refine toO (by kernel_rfl) (p_call 2 29 #[(.agg #[(.slice (o_135.map fun b => ⟨b, 0, none⟩) t_9.1.fPins.length cap_136), (.slice (o_140.map fun b => ⟨b, 0, none⟩) t_9.1.fStrokes.length cap_141)]), (.agg #[(.slice (o_103.map fun b => ⟨b, 0, none⟩) xs_3.length cap_104), (.slice (o_109.map fun b => ⟨b, 0, none⟩) xs_4.length cap_110)])] (by kernel_rfl) (by kernel_rfl) (fun w hm => laws_eqWear.calls t_9.1 (⟨xs_3, xs_4⟩ : GWear) w _ (o_135.map fun b => ⟨b, 0, none⟩) t_9.1.fPins.length cap_136 (hm.ownRow (hh := 10) (o := o_135) (T := 124) (enc := encGWornPin) (xs := t_9.1.fPins) (sp := sp_137) (by kernel_rfl) (fun e => (ho_139 e).1) encGWornPin_len) rfl (o_140.map fun b => ⟨b, 0, none⟩) t_9.1.fStrokes.length cap_141 (hm.ownRow (hh := 11) (o := o_140) (T := 2) (enc := encI64) (xs := t_9.1.fStrokes) (sp := sp_142) (by kernel_rfl) (fun e => (ho_144 e).1) encI64_len) rfl (o_103.map fun b => ⟨b, 0, none⟩) xs_3.length cap_104 (hm.ownRow (hh := 3) (o := o_103) (T := 124) (enc := encGWornPin) (xs := xs_3) (sp := sp_105) (by kernel_rfl) (fun e => (ho_108 e).1) encGWornPin_len) rfl (o_109.map fun b => ⟨b, 0, none⟩) xs_4.length cap_110 (hm.ownRow (hh := 4) (o := o_109) (T := 2) (enc := encI64) (xs := xs_4) (sp := sp_111) (by kernel_rfl) (fun e => (ho_114 e).1) encI64_len) rfl ht_571) ?_)
                  rintro w v w' hm ⟨rfl, hm'⟩
                  refine ⟨_, hm.app hm', jkO ?_⟩
                  clear hm hm'
                  refine jo_f [(0, 2), (0, 5), (0, 0), (0, 1), (0, 1), (0, 1), (0, 0)] (by kernel_rfl) ?_
                  refine jo_end (by kernel_rfl) ?_
                  exact jx_meet ((!t_30) || (t_9.2 != i_5)) h (by kernel_rfl) [0, 1, 2, 3, 4, 5, 6, 7, 8, 9, 10, 11, 12, 13, 14, 15] (by kernel_rfl) (by kernel_rfl)
              · rintro q_17 h
                replace h : laws_FnExactNewHammer.k_18 aF0 aW1 aTrack2 xs_3 xs_4 i_5 t_9 q_17 = some r := h
                rw [laws_FnExactNewHammer.k_18] at h
                refine jx_then ?_
                refine jc_cond q_17 (by kernel_rfl) (fun hc_350 => ?_) (fun hc_350 => ?_)
                · replace h := ifT hc_350 h
                  refine jc_seq ?_
                  refine jc_region ?_
                  refine jo_f [(0, 0)] (by kernel_rfl) ?_
                  refine jo_end (by kernel_rfl) ?_
                  refine jx_then ?_
                  refine jc_ret ?_
                  refine jx_thenr ?_
                  obtain rfl := Option.some.inj h
                  exact jx_ret [] (.bool false) [] rfl (by kernel_rfl) (by kernel_rfl) (fun w hm => ⟨rfl, hm.pick [] (by kernel_rfl) (by kernel_rfl)⟩)
                · replace h := ifF hc_350 h
                  refine jc_skip ?_
                  refine jx_then ?_
                  refine jc_seq ?_
                  refine jc_region ?_
                  refine jo_f [(0, 0)] (by kernel_rfl) ?_
                  refine jo_end (by kernel_rfl) ?_
                  refine jx_then ?_
                  refine jc_seq ?_
                  refine jc_region ?_
                  refine jo_f [(12, 0), (0, 0)] (by kernel_rfl) ?_
                  obtain ⟨t_19, ht_351, h⟩ := bd h
                  refine toO (by kernel_rfl) (p_call 0 37 #[(.agg #[(.slice (o_135.map fun b => ⟨b, 0, none⟩) t_9.1.fPins.length cap_136), (.slice (o_140.map fun b => ⟨b, 0, none⟩) t_9.1.fStrokes.length cap_141)]), (.int .i64 1)] (by kernel_rfl) (by kernel_rfl) (fun w hm => laws_markWear.calls t_9.1 1 w _ o_135 t_9.1.fPins.length cap_136 sp_137 rfl hs_138 ho_139 o_140 t_9.1.fStrokes.length cap_141 sp_142 rfl hs_143 ho_144 (hm.pass (N := [⟨o_135, 124, row encGWornPin t_9.1.fPins sp_137⟩, ⟨o_140, 2, row encI64 t_9.1.fStrokes sp_142⟩]) [10, 11] (by kernel_rfl) (by kernel_rfl)) ht_351) ?_)
                  rintro w v w' hm ⟨hn_352, ho_353, hn_354, ho_355, rfl, hm'⟩
                  refine ⟨_, hm.appW (ps := [(10, ⟨o_135, 124, row encGWornPin t_19.2.1 sp_137⟩), (11, ⟨o_140, 2, row encI64 t_19.2.2 sp_142⟩)]) (N := []) hm' (by kernel_rfl) (by kernel_rfl), jkO ?_⟩
                  clear hm hm'
                  refine jo_f [(0, 0)] (by kernel_rfl) ?_
                  refine jo_end (by kernel_rfl) ?_
                  refine jx_then ?_
                  refine jc_seq ?_
                  refine jc_region ?_
                  refine jo_f [(0, 0)] (by kernel_rfl) ?_
                  refine jo_end (by kernel_rfl) ?_
                  refine jx_then ?_
                  refine jc_seq ?_
                  refine jc_region ?_
                  refine jo_f [(12, 0), (0, 0)] (by kernel_rfl) ?_
                  obtain ⟨t_20, ht_356, h⟩ := bd h
                  refine toO (by kernel_rfl) (p_call 0 38 #[(.agg #[(.slice (o_135.map fun b => ⟨b, 0, none⟩) t_9.1.fPins.length cap_136), (.slice (o_140.map fun b => ⟨b, 0, none⟩) t_9.1.fStrokes.length cap_141)]), (.int .i64 1)] (by kernel_rfl) (by kernel_rfl) (fun w hm => laws_heldWear.calls (⟨t_19.2.1, t_19.2.2⟩ : GWear) 1 w _ (o_135.map fun b => ⟨b, 0, none⟩) t_9.1.fPins.length cap_136 (hm.ownRow (hh := 10) (o := o_135) (T := 124) (enc := encGWornPin) (xs := t_19.2.1) (sp := sp_137) (by kernel_rfl) (fun e => (ho_353 e).1) encGWornPin_len) hn_352 (o_140.map fun b => ⟨b, 0, none⟩) t_9.1.fStrokes.length cap_141 (hm.ownRow (hh := 11) (o := o_140) (T := 2) (enc := encI64) (xs := t_19.2.2) (sp := sp_142) (by kernel_rfl) (fun e => (ho_355 e).1) encI64_len) hn_354 ht_356) ?_)
                  rintro w v w' hm ⟨rfl, hm'⟩
                  refine ⟨_, hm.app hm', jkO ?_⟩
                  clear hm hm'
                  refine jo_f [(0, 0)] (by kernel_rfl) ?_
                  refine jo_end (by kernel_rfl) ?_
                  refine jx_then ?_
                  refine jc_seq ?_
                  refine jc_seq ?_
                  refine jc_region ?_
                  refine jo_f [(0, 0), (0, 0)] (by kernel_rfl) ?_
                  refine jo_end (by kernel_rfl) ?_
                  refine jx_then ?_
                  refine jc_cond (decide (t_20 < 0)) (by kernel_rfl) (fun hc_358 => ?_) (fun hc_358 => ?_)
                  · replace h := ifT hc_358 h
                    refine jc_seq ?_
                    refine jc_region ?_
                    refine jo_f [(0, 0)] (by kernel_rfl) ?_
                    refine jo_end (by kernel_rfl) ?_
                    refine jx_then ?_
                    refine jc_ret ?_
                    refine jx_thenr ?_
                    obtain rfl := Option.some.inj h
                    exact jx_ret [] (.bool false) [] rfl (by kernel_rfl) (by kernel_rfl) (fun w hm => ⟨rfl, hm.pick [] (by kernel_rfl) (by kernel_rfl)⟩)
                  · replace h := ifF hc_358 h
                    refine jc_skip ?_
                    refine jx_then ?_
                    refine jc_seq ?_
                    refine jc_seq ?_
                    refine jc_region ?_
                    refine jo_f [(0, 0), (0, 0), (0, 0)] (by kernel_rfl) ?_
                    refine jo_end (by kernel_rfl) ?_
                    refine jx_then ?_
                    refine jc_cond (t_20 != t_19.1) (by kernel_rfl) (fun hc_360 => ?_) (fun hc_360 => ?_)
                    · replace h := ifT hc_360 h
                      refine jc_seq ?_
                      refine jc_region ?_
                      refine jo_f [(0, 0)] (by kernel_rfl) ?_
                      refine jo_end (by kernel_rfl) ?_
                      refine jx_then ?_
                      refine jc_ret ?_
                      refine jx_thenr ?_
                      obtain rfl := Option.some.inj h
                      exact jx_ret [] (.bool false) [] rfl (by kernel_rfl) (by kernel_rfl) (fun w hm => ⟨rfl, hm.pick [] (by kernel_rfl) (by kernel_rfl)⟩)
                    · replace h := ifF hc_360 h
                      refine jc_skip ?_
                      refine jx_then ?_
                      refine jc_seq ?_
                      refine jc_meet (fun (j : (List GWornPin) × (List Int) × Int × Nat × (Option Nat) × Nat × (List Value) × Nat × (Option Nat) × Nat × (List Value) × Nat) => match j with | ⟨xs_21, xs_22, i_23, b_454, o_455, cap_456, sp_457, n_458, o_461, cap_462, sp_463, n_464⟩ => laws_FnExactNewHammer.k_24 xs_3 xs_4 i_5 t_19 xs_21 xs_22 i_23 = some r ∧ (xs_21.length = n_458) ∧ ((o_455 ≠ none → n_458 ≤ cap_456 ∧ sp_457.length = (cap_456 - n_458) * 3)) ∧ ((o_455 = none → xs_21 = [] ∧ cap_456 = 0)) ∧ (xs_22.length = n_464) ∧ ((o_461 ≠ none → n_464 ≤ cap_462 ∧ sp_463.length = (cap_462 - n_464) * 1)) ∧ ((o_461 = none → xs_22 = [] ∧ cap_462 = 0))) (fun (j : (List GWornPin) × (List Int) × Int × Nat × (Option Nat) × Nat × (List Value) × Nat × (Option Nat) × Nat × (List Value) × Nat) => match j with | ⟨xs_21, xs_22, i_23, b_454, o_455, cap_456, sp_457, n_458, o_461, cap_462, sp_463, n_464⟩ => [(6, [], (.bool false)), (8, [], (.pointer (some ⟨b_102, 0, none⟩))), (9, [], (.int .i64 i_5)), (12, [], (.pointer (some ⟨b_145, 0, none⟩))), (15, [], (.int .i64 t_19.1)), (16, [], (.int .i64 t_20)), (17, [], (.pointer (some ⟨b_454, 0, none⟩))), (18, [], (.int .i64 i_23))]) (fun (j : (List GWornPin) × (List Int) × Int × Nat × (Option Nat) × Nat × (List Value) × Nat × (Option Nat) × Nat × (List Value) × Nat) => match j with | ⟨xs_21, xs_22, i_23, b_454, o_455, cap_456, sp_457, n_458, o_461, cap_462, sp_463, n_464⟩ => [⟨some b_1, 25, [(.int .i16 aF0.fSteps), (.slice aF0_fHammers_a aF0.fHammers.length aF0_fHammers_c)]⟩, ⟨some b_2, 47, [(.slice aW1_fPins_a aW1.fPins.length aW1_fPins_c), (.slice aW1_fStrokes_a aW1.fStrokes.length aW1_fStrokes_c)]⟩, ⟨some b_102, 52, [(.slice (o_103.map fun b => ⟨b, 0, none⟩) xs_3.length cap_104), (.slice (o_109.map fun b => ⟨b, 0, none⟩) xs_4.length cap_110)]⟩, ⟨o_103, 124, row encGWornPin xs_3 sp_105⟩, ⟨o_109, 2, row encI64 xs_4 sp_111⟩, ⟨o_116, 176, row encGHammer t_15.2 sp_118⟩, ⟨some b_121, 35, [(.int .i16 t_7.fSteps), (.slice (o_116.map fun b => ⟨b, 0, none⟩) t_7.fHammers.length cap_117)]⟩, ⟨o_123, 124, row encGWornPin t_16.2.1 sp_125⟩, ⟨o_128, 2, row encI64 t_16.2.2 sp_130⟩, ⟨some b_133, 52, [(.slice (o_123.map fun b => ⟨b, 0, none⟩) t_8.fPins.length cap_124), (.slice (o_128.map fun b => ⟨b, 0, none⟩) t_8.fStrokes.length cap_129)]⟩, ⟨o_135, 124, row encGWornPin t_19.2.1 sp_137⟩, ⟨o_140, 2, row encI64 t_19.2.2 sp_142⟩, ⟨some b_145, 52, [(.slice (o_135.map fun b => ⟨b, 0, none⟩) t_9.1.fPins.length cap_136), (.slice (o_140.map fun b => ⟨b, 0, none⟩) t_9.1.fStrokes.length cap_141)]⟩, ⟨o_175, 176, row encGHammer t_11.fHammers sp_177⟩, ⟨o_323, 124, row encGWornPin t_13.fPins sp_325⟩, ⟨o_328, 2, row encI64 t_13.fStrokes sp_330⟩, ⟨some b_454, 52, [(.slice (o_455.map fun b => ⟨b, 0, none⟩) n_458 cap_456), (.slice (o_461.map fun b => ⟨b, 0, none⟩) n_464 cap_462)]⟩, ⟨o_455, 124, row encGWornPin xs_21 sp_457⟩, ⟨o_461, 2, row encI64 xs_22 sp_463⟩]) ?_ ?_
                      · refine jc_draw [⟨some b_1, 25, [(.int .i16 aF0.fSteps), (.slice aF0_fHammers_a aF0.fHammers.length aF0_fHammers_c)]⟩, ⟨some b_2, 47, [(.slice aW1_fPins_a aW1.fPins.length aW1_fPins_c), (.slice aW1_fStrokes_a aW1.fStrokes.length aW1_fStrokes_c)]⟩, ⟨some b_102, 52, [(.slice (o_103.map fun b => ⟨b, 0, none⟩) xs_3.length cap_104), (.slice (o_109.map fun b => ⟨b, 0, none⟩) xs_4.length cap_110)]⟩, ⟨o_103, 124, row encGWornPin xs_3 sp_105⟩, ⟨o_109, 2, row encI64 xs_4 sp_111⟩, ⟨o_116, 176, row encGHammer t_15.2 sp_118⟩, ⟨some b_121, 35, [(.int .i16 t_7.fSteps), (.slice (o_116.map fun b => ⟨b, 0, none⟩) t_7.fHammers.length cap_117)]⟩, ⟨o_123, 124, row encGWornPin t_16.2.1 sp_125⟩, ⟨o_128, 2, row encI64 t_16.2.2 sp_130⟩, ⟨some b_133, 52, [(.slice (o_123.map fun b => ⟨b, 0, none⟩) t_8.fPins.length cap_124), (.slice (o_128.map fun b => ⟨b, 0, none⟩) t_8.fStrokes.length cap_129)]⟩, ⟨o_135, 124, row encGWornPin t_19.2.1 sp_137⟩, ⟨o_140, 2, row encI64 t_19.2.2 sp_142⟩, ⟨some b_145, 52, [(.slice (o_135.map fun b => ⟨b, 0, none⟩) t_9.1.fPins.length cap_136), (.slice (o_140.map fun b => ⟨b, 0, none⟩) t_9.1.fStrokes.length cap_141)]⟩, ⟨o_175, 176, row encGHammer t_11.fHammers sp_177⟩, ⟨o_323, 124, row encGWornPin t_13.fPins sp_325⟩, ⟨o_328, 2, row encI64 t_13.fStrokes sp_330⟩] 12 (by kernel_rfl) (by kernel_rfl) ?_
                        refine jd_f [⟨0, 0, 0⟩, ⟨2, 1, 0⟩, ⟨4, 0, 0⟩] 9 (by kernel_rfl) (by kernel_rfl) (fun w h => h.pick [0, 1, 2, 3, 4, 5, 6, 7, 8, 9, 10, 11, 12, 13, 14, 15] (by kernel_rfl) (by kernel_rfl)) (by kernel_rfl) (by kernel_rfl) ?_
                        refine toD2 1 9 (by kernel_rfl) ?_ ?_
                        · obtain ⟨t_27, ht_477, h⟩ := bd h
                          refine p_call 0 17 #[(.agg #[(.int .i16 aF0.fSteps), (.slice aF0_fHammers_a aF0.fHammers.length aF0_fHammers_c)])] (by kernel_rfl) (by kernel_rfl) (fun w hm => laws_toFrame.calls aF0 w _ aF0_fHammers_a aF0.fHammers.length aF0_fHammers_c (hm.exRow aF0_fHammers_h List.not_mem_nil) rfl ht_477) ?_
                          rintro w v w' hm ⟨o_478, cap_479, sp_480, _, rfl, hs_481, ho_482, rfl, hm'⟩
                          refine ⟨_, hm.app hm', jkD (fun w h => h.pick [0, 1, 2, 3, 4, 5, 6, 7, 8, 9, 10, 11, 12, 13, 14, 15] (by kernel_rfl) (by kernel_rfl)) ?_⟩
                          clear hm hm'
                          refine toD2 3 9 (by kernel_rfl) ?_ ?_
                          · obtain ⟨t_28, ht_483, h⟩ := bd h
                            refine p_call 0 27 #[(.agg #[(.slice aW1_fPins_a aW1.fPins.length aW1_fPins_c), (.slice aW1_fStrokes_a aW1.fStrokes.length aW1_fStrokes_c)])] (by kernel_rfl) (by kernel_rfl) (fun w hm => laws_toWear.calls aW1 w _ aW1_fPins_a aW1.fPins.length aW1_fPins_c (hm.exRow aW1_fPins_h List.not_mem_nil) rfl aW1_fStrokes_a aW1.fStrokes.length aW1_fStrokes_c (hm.exRow aW1_fStrokes_h List.not_mem_nil) rfl ht_483) ?_
                            rintro w v w' hm ⟨o_484, cap_485, sp_486, _, rfl, hs_487, ho_488, o_489, cap_490, sp_491, _, rfl, hs_492, ho_493, rfl, hm'⟩
                            refine ⟨_, hm.app hm', jkD (fun w h => h.pick [0, 1, 2, 3, 4, 5, 6, 7, 8, 9, 10, 11, 12, 13, 14, 15] (by kernel_rfl) (by kernel_rfl)) ?_⟩
                            clear hm hm'
                            refine toD2 5 9 (by kernel_rfl) ?_ ?_
                            · obtain ⟨t_29, ht_494, h⟩ := bd h
                              refine p_call 0 48 #[(.agg #[(.int .i16 t_27.fSteps), (.slice (o_478.map fun b => ⟨b, 0, none⟩) t_27.fHammers.length cap_479)]), (.agg #[(.slice (o_484.map fun b => ⟨b, 0, none⟩) t_28.fPins.length cap_485), (.slice (o_489.map fun b => ⟨b, 0, none⟩) t_28.fStrokes.length cap_490)]), (.int .i64 aTrack2)] (by kernel_rfl) (by kernel_rfl) (fun w hm => impl_NewHammer.calls t_27 t_28 aTrack2 w _ (o_478.map fun b => ⟨b, 0, none⟩) t_27.fHammers.length cap_479 (hm.ownRow (hh := 16) (o := o_478) (T := 176) (enc := encGHammer) (xs := t_27.fHammers) (sp := sp_480) (by kernel_rfl) (fun e => (ho_482 e).1) encGHammer_len) rfl (o_484.map fun b => ⟨b, 0, none⟩) t_28.fPins.length cap_485 (hm.ownRow (hh := 17) (o := o_484) (T := 124) (enc := encGWornPin) (xs := t_28.fPins) (sp := sp_486) (by kernel_rfl) (fun e => (ho_488 e).1) encGWornPin_len) rfl (o_489.map fun b => ⟨b, 0, none⟩) t_28.fStrokes.length cap_490 (hm.ownRow (hh := 18) (o := o_489) (T := 2) (enc := encI64) (xs := t_28.fStrokes) (sp := sp_491) (by kernel_rfl) (fun e => (ho_493 e).1) encI64_len) rfl ht_494) ?_
                              rintro w v w' hm ⟨o_495, cap_496, sp_497, _, rfl, hs_498, ho_499, o_500, cap_501, sp_502, _, rfl, hs_503, ho_504, rfl, hm'⟩
                              refine ⟨_, hm.app hm', jkD (fun w h => h.pick [0, 1, 2, 3, 4, 5, 6, 7, 8, 9, 10, 11, 12, 13, 14, 15] (by kernel_rfl) (by kernel_rfl)) ?_⟩
                              clear hm hm'
                              refine jd_f [⟨6, 0, 0⟩, ⟨7, 0, 0⟩, ⟨8, 0, 0⟩] 3 (by kernel_rfl) (by kernel_rfl) (fun w h => h.pick [0, 1, 2, 3, 4, 5, 6, 7, 8, 9, 10, 11, 12, 13, 14, 15] (by kernel_rfl) (by kernel_rfl)) (by kernel_rfl) (by kernel_rfl) ?_
                              refine toD 9 (by kernel_rfl) (p_a 0 [0] (by kernel_rfl) (fun b => by kernel_rfl) (fun b_505 => jkD (fun w h => h.pick [0, 1, 2, 3, 4, 5, 6, 7, 8, 9, 10, 11, 12, 13, 14, 15] (by kernel_rfl) (by kernel_rfl)) ?_))
                              refine toD 10 (by kernel_rfl) (p_s 0 [21] (by kernel_rfl) (by kernel_rfl) (jkD (fun w h => h.pick [0, 1, 2, 3, 4, 5, 6, 7, 8, 9, 10, 11, 12, 13, 14, 15] (by kernel_rfl) (by kernel_rfl)) ?_))
                              refine jd_f [⟨11, 0, 0⟩] 0 (by kernel_rfl) (by kernel_rfl) (fun w h => h.pick [0, 1, 2, 3, 4, 5, 6, 7, 8, 9, 10, 11, 12, 13, 14, 15] (by kernel_rfl) (by kernel_rfl)) (by kernel_rfl) (by kernel_rfl) ?_
                              refine jd_end (by kernel_rfl) ?_
                              exact jx_meet ⟨t_29.1.fPins, t_29.1.fStrokes, t_29.2, b_505, o_495, cap_496, sp_497, t_29.1.fPins.length, o_500, cap_501, sp_502, t_29.1.fStrokes.length⟩ ⟨h, rfl, hs_498, ho_499, rfl, hs_503, ho_504⟩ (by kernel_rfl) [0, 1, 2, 3, 4, 5, 6, 7, 8, 9, 10, 11, 12, 13, 14, 15, 21, 19, 20] (by kernel_rfl) (by kernel_rfl)
                            · refine p_a 0 [0] (by kernel_rfl) (fun b => by kernel_rfl) (fun b_506 => jkD (fun w h => h.pick [0, 1, 2, 3, 4, 5, 6, 7, 8, 9, 10, 11, 12, 13, 14, 15] (by kernel_rfl) (by kernel_rfl)) ?_)
                              obtain ⟨t_29, ht_507, h⟩ := bd h
                              refine toD 5 (by kernel_rfl) (p_call 0 48 #[(.agg #[(.int .i16 t_27.fSteps), (.slice (o_478.map fun b => ⟨b, 0, none⟩) t_27.fHammers.length cap_479)]), (.agg #[(.slice (o_484.map fun b => ⟨b, 0, none⟩) t_28.fPins.length cap_485), (.slice (o_489.map fun b => ⟨b, 0, none⟩) t_28.fStrokes.length cap_490)]), (.int .i64 aTrack2)] (by kernel_rfl) (by kernel_rfl) (fun w hm => impl_NewHammer.calls t_27 t_28 aTrack2 w _ (o_478.map fun b => ⟨b, 0, none⟩) t_27.fHammers.length cap_479 (hm.ownRow (hh := 16) (o := o_478) (T := 176) (enc := encGHammer) (xs := t_27.fHammers) (sp := sp_480) (by kernel_rfl) (fun e => (ho_482 e).1) encGHammer_len) rfl (o_484.map fun b => ⟨b, 0, none⟩) t_28.fPins.length cap_485 (hm.ownRow (hh := 17) (o := o_484) (T := 124) (enc := encGWornPin) (xs := t_28.fPins) (sp := sp_486) (by kernel_rfl) (fun e => (ho_488 e).1) encGWornPin_len) rfl (o_489.map fun b => ⟨b, 0, none⟩) t_28.fStrokes.length cap_490 (hm.ownRow (hh := 18) (o := o_489) (T := 2) (enc := encI64) (xs := t_28.fStrokes) (sp := sp_491) (by kernel_rfl) (fun e => (ho_493 e).1) encI64_len) rfl ht_507) ?_)
                              rintro w v w' hm ⟨o_508, cap_509, sp_510, _, rfl, hs_511, ho_512, o_513, cap_514, sp_515, _, rfl, hs_516, ho_517, rfl, hm'⟩
                              refine ⟨_, hm.app hm', jkD (fun w h => h.pick [0, 1, 2, 3, 4, 5, 6, 7, 8, 9, 10, 11, 12, 13, 14, 15] (by kernel_rfl) (by kernel_rfl)) ?_⟩
                              clear hm hm'
                              refine jd_f [⟨6, 0, 0⟩, ⟨7, 0, 0⟩, ⟨8, 0, 0⟩] 2 (by kernel_rfl) (by kernel_rfl) (fun w h => h.pick [0, 1, 2, 3, 4, 5, 6, 7, 8, 9, 10, 11, 12, 13, 14, 15] (by kernel_rfl) (by kernel_rfl)) (by kernel_rfl) (by kernel_rfl) ?_
                              refine toD 10 (by kernel_rfl) (p_s 0 [19] (by kernel_rfl) (by kernel_rfl) (jkD (fun w h => h.pick [0, 1, 2, 3, 4, 5, 6, 7, 8, 9, 10, 11, 12, 13, 14, 15] (by kernel_rfl) (by kernel_rfl)) ?_))
                              refine jd_f [⟨11, 0, 0⟩] 0 (by kernel_rfl) (by kernel_rfl) (fun w h => h.pick [0, 1, 2, 3, 4, 5, 6, 7, 8, 9, 10, 11, 12, 13, 14, 15] (by kernel_rfl) (by kernel_rfl)) (by kernel_rfl) (by kernel_rfl) ?_
                              refine jd_end (by kernel_rfl) ?_
                              exact jx_meet ⟨t_29.1.fPins, t_29.1.fStrokes, t_29.2, b_506, o_508, cap_509, sp_510, t_29.1.fPins.length, o_513, cap_514, sp_515, t_29.1.fStrokes.length⟩ ⟨h, rfl, hs_511, ho_512, rfl, hs_516, ho_517⟩ (by kernel_rfl) [0, 1, 2, 3, 4, 5, 6, 7, 8, 9, 10, 11, 12, 13, 14, 15, 19, 20, 21] (by kernel_rfl) (by kernel_rfl)
                          · refine p_a 0 [0] (by kernel_rfl) (fun b => by kernel_rfl) (fun b_518 => jkD (fun w h => h.pick [0, 1, 2, 3, 4, 5, 6, 7, 8, 9, 10, 11, 12, 13, 14, 15] (by kernel_rfl) (by kernel_rfl)) ?_)
                            obtain ⟨t_28, ht_519, h⟩ := bd h
                            refine toD 3 (by kernel_rfl) (p_call 0 27 #[(.agg #[(.slice aW1_fPins_a aW1.fPins.length aW1_fPins_c), (.slice aW1_fStrokes_a aW1.fStrokes.length aW1_fStrokes_c)])] (by kernel_rfl) (by kernel_rfl) (fun w hm => laws_toWear.calls aW1 w _ aW1_fPins_a aW1.fPins.length aW1_fPins_c (hm.exRow aW1_fPins_h List.not_mem_nil) rfl aW1_fStrokes_a aW1.fStrokes.length aW1_fStrokes_c (hm.exRow aW1_fStrokes_h List.not_mem_nil) rfl ht_519) ?_)
                            rintro w v w' hm ⟨o_520, cap_521, sp_522, _, rfl, hs_523, ho_524, o_525, cap_526, sp_527, _, rfl, hs_528, ho_529, rfl, hm'⟩
                            refine ⟨_, hm.app hm', jkD (fun w h => h.pick [0, 1, 2, 3, 4, 5, 6, 7, 8, 9, 10, 11, 12, 13, 14, 15] (by kernel_rfl) (by kernel_rfl)) ?_⟩
                            clear hm hm'
                            obtain ⟨t_29, ht_530, h⟩ := bd h
                            refine toD 5 (by kernel_rfl) (p_call 0 48 #[(.agg #[(.int .i16 t_27.fSteps), (.slice (o_478.map fun b => ⟨b, 0, none⟩) t_27.fHammers.length cap_479)]), (.agg #[(.slice (o_520.map fun b => ⟨b, 0, none⟩) t_28.fPins.length cap_521), (.slice (o_525.map fun b => ⟨b, 0, none⟩) t_28.fStrokes.length cap_526)]), (.int .i64 aTrack2)] (by kernel_rfl) (by kernel_rfl) (fun w hm => impl_NewHammer.calls t_27 t_28 aTrack2 w _ (o_478.map fun b => ⟨b, 0, none⟩) t_27.fHammers.length cap_479 (hm.ownRow (hh := 16) (o := o_478) (T := 176) (enc := encGHammer) (xs := t_27.fHammers) (sp := sp_480) (by kernel_rfl) (fun e => (ho_482 e).1) encGHammer_len) rfl (o_520.map fun b => ⟨b, 0, none⟩) t_28.fPins.length cap_521 (hm.ownRow (hh := 18) (o := o_520) (T := 124) (enc := encGWornPin) (xs := t_28.fPins) (sp := sp_522) (by kernel_rfl) (fun e => (ho_524 e).1) encGWornPin_len) rfl (o_525.map fun b => ⟨b, 0, none⟩) t_28.fStrokes.length cap_526 (hm.ownRow (hh := 19) (o := o_525) (T := 2) (enc := encI64) (xs := t_28.fStrokes) (sp := sp_527) (by kernel_rfl) (fun e => (ho_529 e).1) encI64_len) rfl ht_530) ?_)
                            rintro w v w' hm ⟨o_531, cap_532, sp_533, _, rfl, hs_534, ho_535, o_536, cap_537, sp_538, _, rfl, hs_539, ho_540, rfl, hm'⟩
                            refine ⟨_, hm.app hm', jkD (fun w h => h.pick [0, 1, 2, 3, 4, 5, 6, 7, 8, 9, 10, 11, 12, 13, 14, 15] (by kernel_rfl) (by kernel_rfl)) ?_⟩
                            clear hm hm'
                            refine jd_f [⟨6, 0, 0⟩, ⟨7, 0, 0⟩, ⟨8, 0, 0⟩] 2 (by kernel_rfl) (by kernel_rfl) (fun w h => h.pick [0, 1, 2, 3, 4, 5, 6, 7, 8, 9, 10, 11, 12, 13, 14, 15] (by kernel_rfl) (by kernel_rfl)) (by kernel_rfl) (by kernel_rfl) ?_
                            refine toD 10 (by kernel_rfl) (p_s 0 [17] (by kernel_rfl) (by kernel_rfl) (jkD (fun w h => h.pick [0, 1, 2, 3, 4, 5, 6, 7, 8, 9, 10, 11, 12, 13, 14, 15] (by kernel_rfl) (by kernel_rfl)) ?_))
                            refine jd_f [⟨11, 0, 0⟩] 0 (by kernel_rfl) (by kernel_rfl) (fun w h => h.pick [0, 1, 2, 3, 4, 5, 6, 7, 8, 9, 10, 11, 12, 13, 14, 15] (by kernel_rfl) (by kernel_rfl)) (by kernel_rfl) (by kernel_rfl) ?_
                            refine jd_end (by kernel_rfl) ?_
                            exact jx_meet ⟨t_29.1.fPins, t_29.1.fStrokes, t_29.2, b_518, o_531, cap_532, sp_533, t_29.1.fPins.length, o_536, cap_537, sp_538, t_29.1.fStrokes.length⟩ ⟨h, rfl, hs_534, ho_535, rfl, hs_539, ho_540⟩ (by kernel_rfl) [0, 1, 2, 3, 4, 5, 6, 7, 8, 9, 10, 11, 12, 13, 14, 15, 17, 20, 21] (by kernel_rfl) (by kernel_rfl)
                        · refine p_a 0 [0] (by kernel_rfl) (fun b => by kernel_rfl) (fun b_541 => jkD (fun w h => h.pick [0, 1, 2, 3, 4, 5, 6, 7, 8, 9, 10, 11, 12, 13, 14, 15] (by kernel_rfl) (by kernel_rfl)) ?_)
                          obtain ⟨t_27, ht_542, h⟩ := bd h
                          refine toD 1 (by kernel_rfl) (p_call 0 17 #[(.agg #[(.int .i16 aF0.fSteps), (.slice aF0_fHammers_a aF0.fHammers.length aF0_fHammers_c)])] (by kernel_rfl) (by kernel_rfl) (fun w hm => laws_toFrame.calls aF0 w _ aF0_fHammers_a aF0.fHammers.length aF0_fHammers_c (hm.exRow aF0_fHammers_h List.not_mem_nil) rfl ht_542) ?_)
                          rintro w v w' hm ⟨o_543, cap_544, sp_545, _, rfl, hs_546, ho_547, rfl, hm'⟩
                          refine ⟨_, hm.app hm', jkD (fun w h => h.pick [0, 1, 2, 3, 4, 5, 6, 7, 8, 9, 10, 11, 12, 13, 14, 15] (by kernel_rfl) (by kernel_rfl)) ?_⟩
                          clear hm hm'
                          obtain ⟨t_28, ht_548, h⟩ := bd h
                          refine toD 3 (by kernel_rfl) (p_call 0 27 #[(.agg #[(.slice aW1_fPins_a aW1.fPins.length aW1_fPins_c), (.slice aW1_fStrokes_a aW1.fStrokes.length aW1_fStrokes_c)])] (by kernel_rfl) (by kernel_rfl) (fun w hm => laws_toWear.calls aW1 w _ aW1_fPins_a aW1.fPins.length aW1_fPins_c (hm.exRow aW1_fPins_h List.not_mem_nil) rfl aW1_fStrokes_a aW1.fStrokes.length aW1_fStrokes_c (hm.exRow aW1_fStrokes_h List.not_mem_nil) rfl ht_548) ?_)
                          rintro w v w' hm ⟨o_549, cap_550, sp_551, _, rfl, hs_552, ho_553, o_554, cap_555, sp_556, _, rfl, hs_557, ho_558, rfl, hm'⟩
                          refine ⟨_, hm.app hm', jkD (fun w h => h.pick [0, 1, 2, 3, 4, 5, 6, 7, 8, 9, 10, 11, 12, 13, 14, 15] (by kernel_rfl) (by kernel_rfl)) ?_⟩
                          clear hm hm'
                          obtain ⟨t_29, ht_559, h⟩ := bd h
                          refine toD 5 (by kernel_rfl) (p_call 0 48 #[(.agg #[(.int .i16 t_27.fSteps), (.slice (o_543.map fun b => ⟨b, 0, none⟩) t_27.fHammers.length cap_544)]), (.agg #[(.slice (o_549.map fun b => ⟨b, 0, none⟩) t_28.fPins.length cap_550), (.slice (o_554.map fun b => ⟨b, 0, none⟩) t_28.fStrokes.length cap_555)]), (.int .i64 aTrack2)] (by kernel_rfl) (by kernel_rfl) (fun w hm => impl_NewHammer.calls t_27 t_28 aTrack2 w _ (o_543.map fun b => ⟨b, 0, none⟩) t_27.fHammers.length cap_544 (hm.ownRow (hh := 17) (o := o_543) (T := 176) (enc := encGHammer) (xs := t_27.fHammers) (sp := sp_545) (by kernel_rfl) (fun e => (ho_547 e).1) encGHammer_len) rfl (o_549.map fun b => ⟨b, 0, none⟩) t_28.fPins.length cap_550 (hm.ownRow (hh := 18) (o := o_549) (T := 124) (enc := encGWornPin) (xs := t_28.fPins) (sp := sp_551) (by kernel_rfl) (fun e => (ho_553 e).1) encGWornPin_len) rfl (o_554.map fun b => ⟨b, 0, none⟩) t_28.fStrokes.length cap_555 (hm.ownRow (hh := 19) (o := o_554) (T := 2) (enc := encI64) (xs := t_28.fStrokes) (sp := sp_556) (by kernel_rfl) (fun e => (ho_558 e).1) encI64_len) rfl ht_559) ?_)
                          rintro w v w' hm ⟨o_560, cap_561, sp_562, _, rfl, hs_563, ho_564, o_565, cap_566, sp_567, _, rfl, hs_568, ho_569, rfl, hm'⟩
                          refine ⟨_, hm.app hm', jkD (fun w h => h.pick [0, 1, 2, 3, 4, 5, 6, 7, 8, 9, 10, 11, 12, 13, 14, 15] (by kernel_rfl) (by kernel_rfl)) ?_⟩
                          clear hm hm'
                          refine jd_f [⟨6, 0, 0⟩, ⟨7, 0, 0⟩, ⟨8, 0, 0⟩] 2 (by kernel_rfl) (by kernel_rfl) (fun w h => h.pick [0, 1, 2, 3, 4, 5, 6, 7, 8, 9, 10, 11, 12, 13, 14, 15] (by kernel_rfl) (by kernel_rfl)) (by kernel_rfl) (by kernel_rfl) ?_
                          refine toD 10 (by kernel_rfl) (p_s 0 [16] (by kernel_rfl) (by kernel_rfl) (jkD (fun w h => h.pick [0, 1, 2, 3, 4, 5, 6, 7, 8, 9, 10, 11, 12, 13, 14, 15] (by kernel_rfl) (by kernel_rfl)) ?_))
                          refine jd_f [⟨11, 0, 0⟩] 0 (by kernel_rfl) (by kernel_rfl) (fun w h => h.pick [0, 1, 2, 3, 4, 5, 6, 7, 8, 9, 10, 11, 12, 13, 14, 15] (by kernel_rfl) (by kernel_rfl)) (by kernel_rfl) (by kernel_rfl) ?_
                          refine jd_end (by kernel_rfl) ?_
                          exact jx_meet ⟨t_29.1.fPins, t_29.1.fStrokes, t_29.2, b_541, o_560, cap_561, sp_562, t_29.1.fPins.length, o_565, cap_566, sp_567, t_29.1.fStrokes.length⟩ ⟨h, rfl, hs_563, ho_564, rfl, hs_568, ho_569⟩ (by kernel_rfl) [0, 1, 2, 3, 4, 5, 6, 7, 8, 9, 10, 11, 12, 13, 14, 15, 16, 20, 21] (by kernel_rfl) (by kernel_rfl)
                      · rintro ⟨xs_21, xs_22, i_23, b_454, o_455, cap_456, sp_457, n_458, o_461, cap_462, sp_463, n_464⟩ ⟨h, rfl, hs_459, ho_460, rfl, hs_465, ho_466⟩
                        replace h : laws_FnExactNewHammer.k_24 xs_3 xs_4 i_5 t_19 xs_21 xs_22 i_23 = some r := h
                        rw [laws_FnExactNewHammer.k_24] at h
                        refine jx_then ?_
                        refine jc_seq ?_
                        refine jc_seq ?_
                        refine jc_region ?_
                        refine jo_f [(16, 0), (2, 0)] (by kernel_rfl) ?_
                        obtain ⟨t_25, ht_471, h⟩ := bd h
                        refine toO (by kernel_rfl) (p_call 0 29 #[(.agg #[(.slice (o_455.map fun b => ⟨b, 0, none⟩) xs_21.length cap_456), (.slice (o_461.map fun b => ⟨b, 0, none⟩) xs_22.length cap_462)]), (.agg #[(.slice (o_103.map fun b => ⟨b, 0, none⟩) xs_3.length cap_104), (.slice (o_109.map fun b => ⟨b, 0, none⟩) xs_4.length cap_110)])] (by kernel_rfl) (by kernel_rfl) (fun w hm => laws_eqWear.calls (⟨xs_21, xs_22⟩ : GWear) (⟨xs_3, xs_4⟩ : GWear) w _ (o_455.map fun b => ⟨b, 0, none⟩) xs_21.length cap_456 (hm.ownRow (hh := 17) (o := o_455) (T := 124) (enc := encGWornPin) (xs := xs_21) (sp := sp_457) (by kernel_rfl) (fun e => (ho_460 e).1) encGWornPin_len) rfl (o_461.map fun b => ⟨b, 0, none⟩) xs_22.length cap_462 (hm.ownRow (hh := 18) (o := o_461) (T := 2) (enc := encI64) (xs := xs_22) (sp := sp_463) (by kernel_rfl) (fun e => (ho_466 e).1) encI64_len) rfl (o_103.map fun b => ⟨b, 0, none⟩) xs_3.length cap_104 (hm.ownRow (hh := 3) (o := o_103) (T := 124) (enc := encGWornPin) (xs := xs_3) (sp := sp_105) (by kernel_rfl) (fun e => (ho_108 e).1) encGWornPin_len) rfl (o_109.map fun b => ⟨b, 0, none⟩) xs_4.length cap_110 (hm.ownRow (hh := 4) (o := o_109) (T := 2) (enc := encI64) (xs := xs_4) (sp := sp_111) (by kernel_rfl) (fun e => (ho_114 e).1) encI64_len) rfl ht_471) ?_)
                        rintro w v w' hm ⟨rfl, hm'⟩
                        refine ⟨_, hm.app hm', jkO ?_⟩
                        clear hm hm'
                        refine jo_f [(0, 0), (0, 0), (0, 1), (0, 1), (0, 1), (0, 0)] (by kernel_rfl) ?_
                        refine jo_end (by kernel_rfl) ?_
                        refine jx_then ?_
                        refine jc_cond ((!t_25) || (i_23 != i_5)) (by kernel_rfl) (fun hc_472 => ?_) (fun hc_472 => ?_)
                        · replace h := ifT hc_472 h
                          refine jc_seq ?_
                          refine jc_region ?_
                          refine jo_f [(0, 0)] (by kernel_rfl) ?_
                          refine jo_end (by kernel_rfl) ?_
                          refine jx_then ?_
                          refine jc_ret ?_
                          refine jx_thenr ?_
                          obtain rfl := Option.some.inj h
                          exact jx_ret [] (.bool false) [] rfl (by kernel_rfl) (by kernel_rfl) (fun w hm => ⟨rfl, hm.pick [] (by kernel_rfl) (by kernel_rfl)⟩)
                        · replace h := ifF hc_472 h
                          refine jc_skip ?_
                          refine jx_then ?_
                          refine jc_seq ?_
                          refine jc_region ?_
                          refine jo_f [(0, 0)] (by kernel_rfl) ?_
                          refine jo_end (by kernel_rfl) ?_
                          refine jx_then ?_
                          refine jc_seq ?_
                          refine jc_region ?_
                          refine jo_f [(12, 0), (0, 0)] (by kernel_rfl) ?_
                          obtain ⟨t_26, ht_473, h⟩ := bd h
                          refine toO (by kernel_rfl) (p_call 0 38 #[(.agg #[(.slice (o_135.map fun b => ⟨b, 0, none⟩) t_9.1.fPins.length cap_136), (.slice (o_140.map fun b => ⟨b, 0, none⟩) t_9.1.fStrokes.length cap_141)]), (.int .i64 1)] (by kernel_rfl) (by kernel_rfl) (fun w hm => laws_heldWear.calls (⟨t_19.2.1, t_19.2.2⟩ : GWear) 1 w _ (o_135.map fun b => ⟨b, 0, none⟩) t_9.1.fPins.length cap_136 (hm.ownRow (hh := 10) (o := o_135) (T := 124) (enc := encGWornPin) (xs := t_19.2.1) (sp := sp_137) (by kernel_rfl) (fun e => (ho_353 e).1) encGWornPin_len) hn_352 (o_140.map fun b => ⟨b, 0, none⟩) t_9.1.fStrokes.length cap_141 (hm.ownRow (hh := 11) (o := o_140) (T := 2) (enc := encI64) (xs := t_19.2.2) (sp := sp_142) (by kernel_rfl) (fun e => (ho_355 e).1) encI64_len) hn_354 ht_473) ?_)
                          rintro w v w' hm ⟨rfl, hm'⟩
                          refine ⟨_, hm.app hm', jkO ?_⟩
                          clear hm hm'
                          refine jo_f [(0, 0)] (by kernel_rfl) ?_
                          refine jo_end (by kernel_rfl) ?_
                          refine jx_then ?_
                          refine jc_seq ?_
                          refine jc_seq ?_
                          refine jc_region ?_
                          refine jo_f [(0, 0), (0, 0)] (by kernel_rfl) ?_
                          refine jo_end (by kernel_rfl) ?_
                          refine jx_then ?_
                          refine jc_cond (decide (t_26 < 0)) (by kernel_rfl) (fun hc_475 => ?_) (fun hc_475 => ?_)
                          · replace h := ifT hc_475 h
                            refine jc_seq ?_
                            refine jc_region ?_
                            refine jo_f [(0, 0)] (by kernel_rfl) ?_
                            refine jo_end (by kernel_rfl) ?_
                            refine jx_then ?_
                            refine jc_ret ?_
                            refine jx_thenr ?_
                            obtain rfl := Option.some.inj h
                            exact jx_ret [] (.bool false) [] rfl (by kernel_rfl) (by kernel_rfl) (fun w hm => ⟨rfl, hm.pick [] (by kernel_rfl) (by kernel_rfl)⟩)
                          · replace h := ifF hc_475 h
                            refine jc_skip ?_
                            refine jx_then ?_
                            refine jc_seq ?_
                            refine jc_seq ?_
                            refine jc_region ?_
                            refine jo_f [(0, 0), (0, 0), (0, 0)] (by kernel_rfl) ?_
                            refine jo_end (by kernel_rfl) ?_
                            refine jx_then ?_
                            refine jc_cond (t_26 != t_19.1) (by kernel_rfl) (fun hc_476 => ?_) (fun hc_476 => ?_)
                            · replace h := ifT hc_476 h
                              refine jc_seq ?_
                              refine jc_region ?_
                              refine jo_f [(0, 0)] (by kernel_rfl) ?_
                              refine jo_end (by kernel_rfl) ?_
                              refine jx_then ?_
                              refine jc_ret ?_
                              refine jx_thenr ?_
                              obtain rfl := Option.some.inj h
                              exact jx_ret [] (.bool false) [] rfl (by kernel_rfl) (by kernel_rfl) (fun w hm => ⟨rfl, hm.pick [] (by kernel_rfl) (by kernel_rfl)⟩)
                            · replace h := ifF hc_476 h
                              refine jc_skip ?_
                              refine jx_then ?_
                              refine jc_seq ?_
                              refine jc_region ?_
                              refine jo_f [(0, 0)] (by kernel_rfl) ?_
                              refine jo_end (by kernel_rfl) ?_
                              refine jx_then ?_
                              refine jc_ret ?_
                              obtain rfl := Option.some.inj h
                              exact jx_ret [] (.bool true) [] rfl (by kernel_rfl) (by kernel_rfl) (fun w hm => ⟨rfl, hm.pick [] (by kernel_rfl) (by kernel_rfl)⟩)
end Go.Proofs.Ytdnkjgmncfhejaa
