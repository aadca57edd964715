/- Functions of the program that the laws reach: a plain function each, and that the call comes to its answer if the plain function has one. Printed by a program. -/
import Derived.Test.YtdnkjgmncfhejaaT
import Derived.Test.YtdnkjgmncfhejaaM0
import Derived.Test.YtdnkjgmncfhejaaM3
import Derived.Test.YtdnkjgmncfhejaaM7
import Derived.Test.YtdnkjgmncfhejaaM10
import Derived.Test.YtdnkjgmncfhejaaM17
namespace Go.Proofs.Ytdnkjgmncfhejaa
open Eng
set_option linter.unusedVariables false

/-! ### spec.DrumOfWear -/
noncomputable def spec_DrumOfWear.k_3 (a_2 : Arr 96 Int) : Option ((Arr 96 Int) × Int) := some (a_2, 0)
noncomputable def spec_DrumOfWear.l_6 (w1 : GWear) : ((Arr 96 Int) × Int) → Option (((Arr 96 Int) × Int) ⊕ ((Arr 96 Int)))
  | (a_4, i_5) => (if (decide (i_5 < (w1.fPins.length : Int))) = true then (ix w1.fPins i_5).bind fun x_8 => (ix a_4.1 x_8.fStep).bind fun x_9 => (ix w1.fPins i_5).bind fun x_10 => (if 0 ≤ (u64 x_10.fTrack) then (ix a_4.1 x_8.fStep).bind fun x_11 => some (.inl ((Arr.set a_4 x_8.fStep (bOr .u32 x_9 (bShl .u32 1 (u64 x_10.fTrack)))), (w64 (i_5 + 1)))) else none) else some (.inr a_4))
noncomputable def spec_DrumOfWear (f0 : GFrame) (w1 : GWear) : Option ((Arr 96 Int) × Int) := (spec_l06Ok f0 w1).bind fun t_1 => (if (!t_1) = true then some ((Arr.rep 96 0), 1) else (loop (spec_DrumOfWear.l_6 w1) ((Arr.rep 96 0), 0)).bind fun t_7 => spec_DrumOfWear.k_3 t_7)
set_option maxRecDepth 100000 in
theorem spec_DrumOfWear.calls (f0 : GFrame) (w1 : GWear) (w : World) (r : (Arr 96 Int) × Int) (f0_fHammers_a : Option Addr) (f0_fHammers_an : Nat) (f0_fHammers_c : Nat) (f0_fHammers_h : Rw w f0_fHammers_a 2 encGHammer f0.fHammers) (f0_fHammers_hn : f0.fHammers.length = f0_fHammers_an) (w1_fPins_a : Option Addr) (w1_fPins_an : Nat) (w1_fPins_c : Nat) (w1_fPins_h : Rw w w1_fPins_a 3 encGWornPin w1.fPins) (w1_fPins_hn : w1.fPins.length = w1_fPins_an) (w1_fStrokes_a : Option Addr) (w1_fStrokes_an : Nat) (w1_fStrokes_c : Nat) (w1_fStrokes_h : Rw w w1_fStrokes_a 1 encI64 w1.fStrokes) (w1_fStrokes_hn : w1.fStrokes.length = w1_fStrokes_an) (h : spec_DrumOfWear f0 w1 = some r) :
    Calls Try.prog 39 #[(.agg #[(.int .i16 f0.fSteps), (.slice f0_fHammers_a f0_fHammers_an f0_fHammers_c)]), (.agg #[(.slice w1_fPins_a w1_fPins_an w1_fPins_c), (.slice w1_fStrokes_a w1_fStrokes_an w1_fStrokes_c)])] w fun e w' => ∃ v, e = .returned v ∧ (v = .tuple #[(.agg (row encU32 r.1.1 []).toArray), (.int .i64 r.2)] ∧ Mem w [] [] w') := by
  subst f0_fHammers_hn w1_fPins_hn w1_fStrokes_hn
  rw [spec_DrumOfWear] at h
  refine enter (args := [(.agg #[(.int .i16 f0.fSteps), (.slice f0_fHammers_a f0.fHammers.length f0_fHammers_c)]), (.agg #[(.slice w1_fPins_a w1.fPins.length w1_fPins_c), (.slice w1_fStrokes_a w1.fStrokes.length w1_fStrokes_c)])]) Try.func39 rfl Try.ntmps39 (by kernel_rfl) (L := []) (W := []) (Mem.start w) ?_
  refine jc_seq ?_
  refine jc_region ?_
  refine toO (by kernel_rfl) (p_a 0 [0] (by kernel_rfl) (fun b => by kernel_rfl) (fun b_1 => jkO ?_))
  refine toO (by kernel_rfl) (p_a 0 [0] (by kernel_rfl) (fun b => by kernel_rfl) (fun b_2 => jkO ?_))
  refine toO (by kernel_rfl) (p_a 0 [0] (by kernel_rfl) (fun b => by kernel_rfl) (fun b_3 => jkO ?_))
  refine jo_f [(0, 0)] (by kernel_rfl) ?_
  refine jo_end (by kernel_rfl) ?_
  refine jx_then ?_
  refine jc_seq ?_
  refine jc_region ?_
  refine jo_f [(0, 0)] (by kernel_rfl) ?_
  refine toO (by kernel_rfl) (p_a 0 [0] (by kernel_rfl) (fun b => by kernel_rfl) (fun b_4 => jkO ?_))
  refine toO (by kernel_rfl) (p_sA 0 3 b_4 96 1 58 encU32 (Arr.rep 96 0) (Arr.rep 96 0) (by kernel_rfl) (by kernel_rfl) (by kernel_rfl) encU32_len encU32_cell (by kernel_rfl) (jkO ?_))
  refine jo_end (by kernel_rfl) ?_
  refine jx_then ?_
  refine jc_seq ?_
  refine jc_seq ?_
  refine jc_region ?_
  obtain ⟨t_1, ht_7, h⟩ := bd h
  refine toO (by kernel_rfl) (p_call 0 80 #[(.pointer (some ⟨b_1, 0, none⟩)), (.pointer (some ⟨b_2, 0, none⟩))] (by kernel_rfl) (by kernel_rfl) (fun w hm => spec_l06Ok.calls f0 w1 w _ f0_fHammers_a f0.fHammers.length f0_fHammers_c (hm.exRow f0_fHammers_h List.not_mem_nil) rfl w1_fPins_a w1.fPins.length w1_fPins_c (hm.exRow w1_fPins_h List.not_mem_nil) rfl w1_fStrokes_a w1.fStrokes.length w1_fStrokes_c (hm.exRow w1_fStrokes_h List.not_mem_nil) rfl b_1 b_2 (hm.pass (N := [⟨some b_1, 35, [(.int .i16 f0.fSteps), (.slice f0_fHammers_a f0.fHammers.length f0_fHammers_c)]⟩, ⟨some b_2, 52, [(.slice w1_fPins_a w1.fPins.length w1_fPins_c), (.slice w1_fStrokes_a w1.fStrokes.length w1_fStrokes_c)]⟩]) [0, 1] (by kernel_rfl) (by kernel_rfl)) (hm.exApart (N := [⟨some b_1, 35, [(.int .i16 f0.fSteps), (.slice f0_fHammers_a f0.fHammers.length f0_fHammers_c)]⟩, ⟨some b_2, 52, [(.slice w1_fPins_a w1.fPins.length w1_fPins_c), (.slice w1_fStrokes_a w1.fStrokes.length w1_fStrokes_c)]⟩]) f0_fHammers_h (fun _ => List.not_mem_nil) [0, 1] (by kernel_rfl)) (hm.exApart (N := [⟨some b_1, 35, [(.int .i16 f0.fSteps), (.slice f0_fHammers_a f0.fHammers.length f0_fHammers_c)]⟩, ⟨some b_2, 52, [(.slice w1_fPins_a w1.fPins.length w1_fPins_c), (.slice w1_fStrokes_a w1.fStrokes.length w1_fStrokes_c)]⟩]) w1_fPins_h (fun _ => List.not_mem_nil) [0, 1] (by kernel_rfl)) (hm.exApart (N := [⟨some b_1, 35, [(.int .i16 f0.fSteps), (.slice f0_fHammers_a f0.fHammers.length f0_fHammers_c)]⟩, ⟨some b_2, 52, [(.slice w1_fPins_a w1.fPins.length w1_fPins_c), (.slice w1_fStrokes_a w1.fStrokes.length w1_fStrokes_c)]⟩]) w1_fStrokes_h (fun _ => List.not_mem_nil) [0, 1] (by kernel_rfl)) ht_7) ?_)
  rintro w v w' hm ⟨rfl, hm'⟩
  refine ⟨_, hm.appW (ps := [(0, ⟨some b_1, 35, [(.int .i16 f0.fSteps), (.slice f0_fHammers_a f0.fHammers.length f0_fHammers_c)]⟩), (1, ⟨some b_2, 52, [(.slice w1_fPins_a w1.fPins.length w1_fPins_c), (.slice w1_fStrokes_a w1.fStrokes.length w1_fStrokes_c)]⟩)]) (N := []) hm' (by kernel_rfl) (by kernel_rfl), jkO ?_⟩
  clear hm hm'
  refine jo_f [(0, 0)] (by kernel_rfl) ?_
  refine jo_end (by kernel_rfl) ?_
  refine jx_then ?_
  refine jc_cond (!t_1) (by kernel_rfl) (fun hc_8 => ?_) (fun hc_8 => ?_)
  · replace h := ifT hc_8 h
    refine jc_seq ?_
    refine jc_region ?_
    refine toO (by kernel_rfl) (p_ldA 0 3 b_4 96 1 58 encU32 (Arr.rep 96 0) (by kernel_rfl) (by kernel_rfl) (by kernel_rfl) encU32_len (by kernel_rfl) (jkO ?_))
    refine toO (by kernel_rfl) (p_sA 0 2 b_3 96 1 58 encU32 (Arr.rep 96 0) (Arr.rep 96 0) (by kernel_rfl) (by kernel_rfl) (by kernel_rfl) encU32_len encU32_cell (by kernel_rfl) (jkO ?_))
    refine jo_f [(0, 0)] (by kernel_rfl) ?_
    refine jo_end (by kernel_rfl) ?_
    refine jx_then ?_
    refine jc_ret ?_
    refine jx_thenr ?_
    obtain rfl := Option.some.inj h
    exact jx_retV rfl (rq_arr (b := b_3) (T' := 58) (hh := 2) (mm := 1) encU32 (Arr.rep 96 0) (by kernel_rfl) (by kernel_rfl) encU32_len (by kernel_rfl) (rq_tmp (by kernel_rfl) rq_nil)) (fun w hm => ⟨rfl, hm.pick [] (by kernel_rfl) (by kernel_rfl)⟩)
  · replace h := ifF hc_8 h
    refine jc_skip ?_
    refine jx_then ?_
    refine jc_seq ?_
    refine jc_seq ?_
    refine jc_region ?_
    refine jo_f [(0, 0)] (by kernel_rfl) ?_
    refine jo_end (by kernel_rfl) ?_
    refine jx_then ?_
    refine jc_meet (fun (j : (Arr 96 Int)) => match j with | a_2 => spec_DrumOfWear.k_3 a_2 = some r) (fun (j : (Arr 96 Int)) => match j with | a_2 => [(4, [], (.pointer (some ⟨b_3, 0, none⟩))), (5, [], (.int .i64 0)), (6, [], (.pointer (some ⟨b_4, 0, none⟩)))]) (fun (j : (Arr 96 Int)) => match j with | a_2 => [⟨some b_1, 35, [(.int .i16 f0.fSteps), (.slice f0_fHammers_a f0.fHammers.length f0_fHammers_c)]⟩, ⟨some b_2, 52, [(.slice w1_fPins_a w1.fPins.length w1_fPins_c), (.slice w1_fStrokes_a w1.fStrokes.length w1_fStrokes_c)]⟩, ⟨(some b_3), 58, row encU32 ((Arr.rep 96 0).1) []⟩, ⟨(some b_4), 58, row encU32 a_2.1 []⟩]) ?_ ?_
    · refine jc_block ?_
      obtain ⟨t_7, ht_192, hr_175⟩ := bd h
      refine jc_loop (fun (s : (Arr 96 Int) × Int) (x : Unit) => match s, x with | ⟨a_4, i_5⟩, _ => True) (fun (s : (Arr 96 Int) × Int) (x : Unit) => match s, x with | ⟨a_4, i_5⟩, _ => [(3, [], (.pointer (some ⟨b_2, 0, none⟩))), (4, [], (.pointer (some ⟨b_3, 0, none⟩))), (5, [], (.int .i64 0)), (6, [], (.pointer (some ⟨b_4, 0, none⟩))), (7, [], (.int .i64 i_5))]) (fun (s : (Arr 96 Int) × Int) (x : Unit) => match s, x with | ⟨a_4, i_5⟩, _ => [⟨some b_1, 35, [(.int .i16 f0.fSteps), (.slice f0_fHammers_a f0.fHammers.length f0_fHammers_c)]⟩, ⟨some b_2, 52, [(.slice w1_fPins_a w1.fPins.length w1_fPins_c), (.slice w1_fStrokes_a w1.fStrokes.length w1_fStrokes_c)]⟩, ⟨(some b_3), 58, row encU32 ((Arr.rep 96 0).1) []⟩, ⟨(some b_4), 58, row encU32 a_4.1 []⟩]) ht_192 () trivial (by kernel_rfl) [0, 1, 2, 3] (by kernel_rfl) (by kernel_rfl) ?_
      rintro ⟨a_4, i_5⟩ _ y_176 _ h
      rw [spec_DrumOfWear.l_6] at h
      refine jc_seq ?_
      refine jc_seq ?_
      refine jc_region ?_
      refine jo_f [(0, 0), (0, 0), (1, 0), (0, 0), (0, 0)] (by kernel_rfl) ?_
      refine jo_end (by kernel_rfl) ?_
      refine jx_then ?_
      refine jc_cond (decide (i_5 < (w1.fPins.length : Int))) (by kernel_rfl) (fun hc_178 => ?_) (fun hc_178 => ?_)
      · replace h := ifT hc_178 h
        refine jc_skip ?_
        refine jx_then ?_
        refine jc_seq ?_
        refine jc_block ?_
        refine jc_draw [⟨some b_1, 35, [(.int .i16 f0.fSteps), (.slice f0_fHammers_a f0.fHammers.length f0_fHammers_c)]⟩, ⟨some b_2, 52, [(.slice w1_fPins_a w1.fPins.length w1_fPins_c), (.slice w1_fStrokes_a w1.fStrokes.length w1_fStrokes_c)]⟩, ⟨(some b_3), 58, row encU32 ((Arr.rep 96 0).1) []⟩] 19 (by kernel_rfl) (by kernel_rfl) ?_
        refine jd_f [⟨0, 0, 0⟩, ⟨1, 1, 0⟩, ⟨2, 0, 0⟩, ⟨8, 0, 0⟩, ⟨9, 1, 0⟩, ⟨10, 0, 0⟩] 13 (by kernel_rfl) (by kernel_rfl) (fun w h => h.pick [0, 1, 2] (by kernel_rfl) (by kernel_rfl)) (by kernel_rfl) (by kernel_rfl) ?_
        obtain ⟨x_8, hx_184, h⟩ := bd h
        refine jd_v 3 0 (by kernel_rfl) (fun w h => h.pick [0, 1, 2] (by kernel_rfl) (by kernel_rfl)) (by kernel_rfl) (by kernel_rfl) _ (fun w hm => idx_run (a := w1_fPins_a) (len := w1.fPins.length) (s := 3) (j := i_5) (by kernel_rfl) (ix_some hx_184).1 (ltn hx_184 rfl) (w1_fPins_h.sp hx_184)) ?_
        refine jd_f [⟨4, 0, 0⟩] 11 (by kernel_rfl) (by kernel_rfl) (fun w h => h.pick [0, 1, 2] (by kernel_rfl) (by kernel_rfl)) (by kernel_rfl) (by kernel_rfl) ?_
        refine jd_v 5 0 (by kernel_rfl) (fun w h => h.pick [0, 1, 2] (by kernel_rfl) (by kernel_rfl)) (by kernel_rfl) (by kernel_rfl) _ (fun w hm => ld_run (b := aB w1_fPins_a) (off := (aO w1_fPins_a + i_5.toNat * 3)) (s := 1) (agg := false) (vs := (((encGWornPin x_8).drop 0).take 1)) (by kernel_rfl) (by kernel_rfl) (.inr rfl) (((hm.exRow w1_fPins_h List.not_mem_nil).at hx_184).sub 0 1)) ?_
        obtain ⟨x_9, hx_185, h⟩ := bd h
        refine jd_v 6 0 (by kernel_rfl) (fun w h => h.pick [0, 1, 2] (by kernel_rfl) (by kernel_rfl)) (by kernel_rfl) (by kernel_rfl) _ (fun w hm => idx_run (a := (some ⟨b_4, 0, none⟩)) (len := 96) (s := 1) (j := x_8.fStep) (by kernel_rfl) (ix_some hx_185).1 (ltn hx_185 a_4.2) rfl) ?_
        obtain ⟨x_10, hx_186, h⟩ := bd h
        refine jd_v 11 0 (by kernel_rfl) (fun w h => h.pick [0, 1, 2] (by kernel_rfl) (by kernel_rfl)) (by kernel_rfl) (by kernel_rfl) _ (fun w hm => idx_run (a := w1_fPins_a) (len := w1.fPins.length) (s := 3) (j := i_5) (by kernel_rfl) (ix_some hx_186).1 (ltn hx_186 rfl) (w1_fPins_h.sp hx_186)) ?_
        refine jd_f [⟨12, 0, 0⟩] 7 (by kernel_rfl) (by kernel_rfl) (fun w h => h.pick [0, 1, 2] (by kernel_rfl) (by kernel_rfl)) (by kernel_rfl) (by kernel_rfl) ?_
        refine jd_v 13 0 (by kernel_rfl) (fun w h => h.pick [0, 1, 2] (by kernel_rfl) (by kernel_rfl)) (by kernel_rfl) (by kernel_rfl) _ (fun w hm => ld_run (b := aB w1_fPins_a) (off := (aO w1_fPins_a + i_5.toNat * 3 + 1)) (s := 1) (agg := false) (vs := (((encGWornPin x_10).drop 1).take 1)) (by kernel_rfl) (by kernel_rfl) (.inr rfl) (((hm.exRow w1_fPins_h List.not_mem_nil).at hx_186).sub 1 1)) ?_
        refine jd_f [⟨14, 0, 0⟩] 5 (by kernel_rfl) (by kernel_rfl) (fun w h => h.pick [0, 1, 2] (by kernel_rfl) (by kernel_rfl)) (by kernel_rfl) (by kernel_rfl) ?_
        refine toD2 7 15 (by kernel_rfl) ?_ ?_
        · refine p_ld 0 (aB (some ⟨b_4, 0, none⟩)) (aO (some ⟨b_4, 0, none⟩) + x_8.fStep.toNat * 1) false (encU32 x_9) (by kernel_rfl) (by kernel_rfl) (by kernel_rfl) (fun w hm => ((hm.ownRow (hh := 3) (o := (some b_4)) (T := 58) (enc := encU32) (xs := a_4.1) (sp := []) (by kernel_rfl) (fun e => nomatch e) encU32_len).at hx_185)) (jkD (fun w h => h.pick [0, 1, 2] (by kernel_rfl) (by kernel_rfl)) ?_)
          obtain ⟨hg_187, h⟩ := gd h
          refine toD 15 (by kernel_rfl) (p_shl 0 .u32 1 .u64 (u64 x_10.fTrack) (by kernel_rfl) (by kernel_rfl) hg_187 (jkD (fun w h => h.pick [0, 1, 2] (by kernel_rfl) (by kernel_rfl)) ?_))
          refine jd_f [⟨16, 0, 0⟩] 2 (by kernel_rfl) (by kernel_rfl) (fun w h => h.pick [0, 1, 2] (by kernel_rfl) (by kernel_rfl)) (by kernel_rfl) (by kernel_rfl) ?_
          obtain ⟨x_11, hx_188, h⟩ := bd h
          refine jd_v 17 0 (by kernel_rfl) (fun w h => h.pick [0, 1, 2] (by kernel_rfl) (by kernel_rfl)) (by kernel_rfl) (by kernel_rfl) _ (fun w hm => idx_run (a := (some ⟨b_4, 0, none⟩)) (len := 96) (s := 1) (j := x_8.fStep) (by kernel_rfl) (ix_some hx_188).1 (ltn hx_188 a_4.2) rfl) ?_
          refine toD 18 (by kernel_rfl) (p_str 0 3 b_4 58 encU32 a_4.1 [] x_8.fStep (bOr .u32 x_9 (bShl .u32 1 (u64 x_10.fTrack))) 1 0 [(.int .u32 (bOr .u32 x_9 (bShl .u32 1 (u64 x_10.fTrack))))] (by kernel_rfl) (by kernel_rfl) (by kernel_rfl) encU32_len hx_188 (by kernel_rfl) (by kernel_rfl) (jkD (fun w h => h.pick [0, 1, 2] (by kernel_rfl) (by kernel_rfl)) ?_))
          refine jd_end (by kernel_rfl) ?_
          refine jx_inn ?_
          refine jx_then ?_
          refine jc_region ?_
          refine jo_f [(0, 0), (0, 0), (0, 0)] (by kernel_rfl) ?_
          refine jo_end (by kernel_rfl) ?_
          exact jx_back ((Arr.set a_4 x_8.fStep (bOr .u32 x_9 (bShl .u32 1 (u64 x_10.fTrack)))), (w64 (i_5 + 1))) () (Option.some.inj h).symm trivial [0, 1, 2, 3] (by kernel_rfl) (by kernel_rfl) (by kernel_rfl)
        · obtain ⟨hg_189, h⟩ := gd h
          refine p_shl 0 .u32 1 .u64 (u64 x_10.fTrack) (by kernel_rfl) (by kernel_rfl) hg_189 (jkD (fun w h => h.pick [0, 1, 2] (by kernel_rfl) (by kernel_rfl)) ?_)
          refine toD 7 (by kernel_rfl) (p_ld 0 (aB (some ⟨b_4, 0, none⟩)) (aO (some ⟨b_4, 0, none⟩) + x_8.fStep.toNat * 1) false (encU32 x_9) (by kernel_rfl) (by kernel_rfl) (by kernel_rfl) (fun w hm => ((hm.ownRow (hh := 3) (o := (some b_4)) (T := 58) (enc := encU32) (xs := a_4.1) (sp := []) (by kernel_rfl) (fun e => nomatch e) encU32_len).at hx_185)) (jkD (fun w h => h.pick [0, 1, 2] (by kernel_rfl) (by kernel_rfl)) ?_))
          refine jd_f [⟨16, 0, 0⟩] 2 (by kernel_rfl) (by kernel_rfl) (fun w h => h.pick [0, 1, 2] (by kernel_rfl) (by kernel_rfl)) (by kernel_rfl) (by kernel_rfl) ?_
          obtain ⟨x_11, hx_190, h⟩ := bd h
          refine jd_v 17 0 (by kernel_rfl) (fun w h => h.pick [0, 1, 2] (by kernel_rfl) (by kernel_rfl)) (by kernel_rfl) (by kernel_rfl) _ (fun w hm => idx_run (a := (some ⟨b_4, 0, none⟩)) (len := 96) (s := 1) (j := x_8.fStep) (by kernel_rfl) (ix_some hx_190).1 (ltn hx_190 a_4.2) rfl) ?_
          refine toD 18 (by kernel_rfl) (p_str 0 3 b_4 58 encU32 a_4.1 [] x_8.fStep (bOr .u32 x_9 (bShl .u32 1 (u64 x_10.fTrack))) 1 0 [(.int .u32 (bOr .u32 x_9 (bShl .u32 1 (u64 x_10.fTrack))))] (by kernel_rfl) (by kernel_rfl) (by kernel_rfl) encU32_len hx_190 (by kernel_rfl) (by kernel_rfl) (jkD (fun w h => h.pick [0, 1, 2] (by kernel_rfl) (by kernel_rfl)) ?_))
          refine jd_end (by kernel_rfl) ?_
          refine jx_inn ?_
          refine jx_then ?_
          refine jc_region ?_
          refine jo_f [(0, 0), (0, 0), (0, 0)] (by kernel_rfl) ?_
          refine jo_end (by kernel_rfl) ?_
          exact jx_back ((Arr.set a_4 x_8.fStep (bOr .u32 x_9 (bShl .u32 1 (u64 x_10.fTrack)))), (w64 (i_5 + 1))) () (Option.some.inj h).symm trivial [0, 1, 2, 3] (by kernel_rfl) (by kernel_rfl) (by kernel_rfl)
      · replace h := ifF hc_178 h
        refine jc_exit ?_
        refine jx_thenx ?_
        refine jx_leave a_4 (Option.some.inj h).symm (fun e_191 => ?_)
        subst e_191
        refine jx_ine ?_
        exact jx_meet a_4 hr_175 (by kernel_rfl) [0, 1, 2, 3] (by kernel_rfl) (by kernel_rfl)
    · rintro a_2 h
      replace h : spec_DrumOfWear.k_3 a_2 = some r := h
      rw [spec_DrumOfWear.k_3] at h
      refine jx_then ?_
      refine jc_seq ?_
      refine jc_region ?_
      refine toO (by kernel_rfl) (p_ldA 0 3 b_4 96 1 58 encU32 a_2 (by kernel_rfl) (by kernel_rfl) (by kernel_rfl) encU32_len (by kernel_rfl) (jkO ?_))
      refine toO (by kernel_rfl) (p_sA 0 2 b_3 96 1 58 encU32 (Arr.rep 96 0) a_2 (by kernel_rfl) (by kernel_rfl) (by kernel_rfl) encU32_len encU32_cell (by kernel_rfl) (jkO ?_))
      refine jo_f [(0, 0)] (by kernel_rfl) ?_
      refine jo_end (by kernel_rfl) ?_
      refine jx_then ?_
      refine jc_ret ?_
      obtain rfl := Option.some.inj h
      exact jx_retV rfl (rq_arr (b := b_3) (T' := 58) (hh := 2) (mm := 1) encU32 a_2 (by kernel_rfl) (by kernel_rfl) encU32_len (by kernel_rfl) (rq_tmp (by kernel_rfl) rq_nil)) (fun w hm => ⟨rfl, hm.pick [] (by kernel_rfl) (by kernel_rfl)⟩)

/-! ### impl.DrumOfWear -/
noncomputable def impl_DrumOfWear (f0 : GFrame) (w1 : GWear) : Option ((Arr 96 Int) × Int) := (impl_wearCode f0 w1 []).bind fun t_1 => (if (t_1 != 0) = true then some ((Arr.rep 96 0), t_1) else (impl_Wear_drum w1).bind fun t_2 => some (t_2, 0))
set_option maxRecDepth 100000 in
theorem impl_DrumOfWear.calls (f0 : GFrame) (w1 : GWear) (w : World) (r : (Arr 96 Int) × Int) (f0_fHammers_a : Option Addr) (f0_fHammers_an : Nat) (f0_fHammers_c : Nat) (f0_fHammers_h : Rw w f0_fHammers_a 2 encGHammer f0.fHammers) (f0_fHammers_hn : f0.fHammers.length = f0_fHammers_an) (w1_fPins_a : Option Addr) (w1_fPins_an : Nat) (w1_fPins_c : Nat) (w1_fPins_h : Rw w w1_fPins_a 3 encGWornPin w1.fPins) (w1_fPins_hn : w1.fPins.length = w1_fPins_an) (w1_fStrokes_a : Option Addr) (w1_fStrokes_an : Nat) (w1_fStrokes_c : Nat) (w1_fStrokes_h : Rw w w1_fStrokes_a 1 encI64 w1.fStrokes) (w1_fStrokes_hn : w1.fStrokes.length = w1_fStrokes_an) (h : impl_DrumOfWear f0 w1 = some r) :
    Calls Try.prog 40 #[(.agg #[(.int .i16 f0.fSteps), (.slice f0_fHammers_a f0_fHammers_an f0_fHammers_c)]), (.agg #[(.slice w1_fPins_a w1_fPins_an w1_fPins_c), (.slice w1_fStrokes_a w1_fStrokes_an w1_fStrokes_c)])] w fun e w' => ∃ v, e = .returned v ∧ (v = .tuple #[(.agg (row encU32 r.1.1 []).toArray), (.int .i64 r.2)] ∧ Mem w [] [] w') := by
  subst f0_fHammers_hn w1_fPins_hn w1_fStrokes_hn
  rw [impl_DrumOfWear] at h
  refine enter (args := [(.agg #[(.int .i16 f0.fSteps), (.slice f0_fHammers_a f0.fHammers.length f0_fHammers_c)]), (.agg #[(.slice w1_fPins_a w1.fPins.length w1_fPins_c), (.slice w1_fStrokes_a w1.fStrokes.length w1_fStrokes_c)])]) Try.func40 rfl Try.ntmps40 (by kernel_rfl) (L := []) (W := []) (Mem.start w) ?_
  refine jc_seq ?_
  refine jc_region ?_
  refine toO (by kernel_rfl) (p_a 0 [0] (by kernel_rfl) (fun b => by kernel_rfl) (fun b_1 => jkO ?_))
  refine toO (by kernel_rfl) (p_a 0 [0] (by kernel_rfl) (fun b => by kernel_rfl) (fun b_2 => jkO ?_))
  refine toO (by kernel_rfl) (p_a 0 [0] (by kernel_rfl) (fun b => by kernel_rfl) (fun b_3 => jkO ?_))
  refine jo_f [(0, 0)] (by kernel_rfl) ?_
  refine jo_end (by kernel_rfl) ?_
  refine jx_then ?_
  refine jc_seq ?_
  refine jc_seq ?_
  refine jc_region ?_
  refine jo_f [(0, 0), (1, 0)] (by kernel_rfl) ?_
  obtain ⟨t_1, ht_6, h⟩ := bd h
  refine toO (by kernel_rfl) (p_call 0 101 #[(.agg #[(.int .i16 f0.fSteps), (.slice f0_fHammers_a f0.fHammers.length f0_fHammers_c)]), (.agg #[(.slice w1_fPins_a w1.fPins.length w1_fPins_c), (.slice w1_fStrokes_a w1.fStrokes.length w1_fStrokes_c)]), (.slice none 0 0)] (by kernel_rfl) (by kernel_rfl) (fun w hm => impl_wearCode.calls f0 w1 [] w _ f0_fHammers_a f0.fHammers.length f0_fHammers_c (hm.exRow f0_fHammers_h List.not_mem_nil) rfl w1_fPins_a w1.fPins.length w1_fPins_c (hm.exRow w1_fPins_h List.not_mem_nil) rfl w1_fStrokes_a w1.fStrokes.length w1_fStrokes_c (hm.exRow w1_fStrokes_h List.not_mem_nil) rfl none 0 0 Rw.nil rfl ht_6) ?_)
  rintro w v w' hm ⟨rfl, hm'⟩
  refine ⟨_, hm.app hm', jkO ?_⟩
  clear hm hm'
  refine jo_f [(0, 0)] (by kernel_rfl) ?_
  refine jo_end (by kernel_rfl) ?_
  refine jx_then ?_
  refine jc_seq ?_
  refine jc_region ?_
  refine jo_f [(0, 0), (0, 0)] (by kernel_rfl) ?_
  refine jo_end (by kernel_rfl) ?_
  refine jx_then ?_
  refine jc_cond (t_1 != 0) (by kernel_rfl) (fun hc_7 => ?_) (fun hc_7 => ?_)
  · replace h := ifT hc_7 h
    refine jc_seq ?_
    refine jc_region ?_
    refine jo_f [(0, 0), (0, 0)] (by kernel_rfl) ?_
    refine toO (by kernel_rfl) (p_sA 0 2 b_3 96 1 58 encU32 (Arr.rep 96 0) (Arr.rep 96 0) (by kernel_rfl) (by kernel_rfl) (by kernel_rfl) encU32_len encU32_cell (by kernel_rfl) (jkO ?_))
    refine jo_f [(0, 0)] (by kernel_rfl) ?_
    refine jo_end (by kernel_rfl) ?_
    refine jx_then ?_
    refine jc_ret ?_
    refine jx_thenr ?_
    obtain rfl := Option.some.inj h
    exact jx_retV rfl (rq_arr (b := b_3) (T' := 58) (hh := 2) (mm := 1) encU32 (Arr.rep 96 0) (by kernel_rfl) (by kernel_rfl) encU32_len (by kernel_rfl) (rq_tmp (by kernel_rfl) rq_nil)) (fun w hm => ⟨rfl, hm.pick [] (by kernel_rfl) (by kernel_rfl)⟩)
  · replace h := ifF hc_7 h
    refine jc_skip ?_
    refine jx_then ?_
    refine jc_seq ?_
    refine jc_region ?_
    refine jo_f [(1, 0)] (by kernel_rfl) ?_
    obtain ⟨t_2, ht_8, h⟩ := bd h
    refine toO (by kernel_rfl) (p_call 0 102 #[(.agg #[(.slice w1_fPins_a w1.fPins.length w1_fPins_c), (.slice w1_fStrokes_a w1.fStrokes.length w1_fStrokes_c)])] (by kernel_rfl) (by kernel_rfl) (fun w hm => impl_Wear_drum.calls w1 w _ w1_fPins_a w1.fPins.length w1_fPins_c (hm.exRow w1_fPins_h List.not_mem_nil) rfl w1_fStrokes_a w1.fStrokes.length w1_fStrokes_c (hm.exRow w1_fStrokes_h List.not_mem_nil) rfl ht_8) ?_)
    rintro w v w' hm ⟨rfl, hm'⟩
    refine ⟨_, hm.app hm', jkO ?_⟩
    clear hm hm'
    refine toO (by kernel_rfl) (p_sA 0 2 b_3 96 1 58 encU32 (Arr.rep 96 0) t_2 (by kernel_rfl) (by kernel_rfl) (by kernel_rfl) encU32_len encU32_cell (by kernel_rfl) (jkO ?_))
    refine jo_f [(0, 0)] (by kernel_rfl) ?_
    refine jo_end (by kernel_rfl) ?_
    refine jx_then ?_
    refine jc_ret ?_
    obtain rfl := Option.some.inj h
    exact jx_retV rfl (rq_arr (b := b_3) (T' := 58) (hh := 2) (mm := 1) encU32 t_2 (by kernel_rfl) (by kernel_rfl) encU32_len (by kernel_rfl) (rq_tmp (by kernel_rfl) rq_nil)) (fun w hm => ⟨rfl, hm.pick [] (by kernel_rfl) (by kernel_rfl)⟩)

/-! ### laws.FnExactDrumOfWear -/
noncomputable def laws_FnExactDrumOfWear.k_5 (aF0 : GFrame) (aW1 : GWear) (a_3 : Arr 96 Int) (i_4 : Int) : Option (Bool) := (laws_toFrame aF0).bind fun t_6 => (laws_toWear aW1).bind fun t_7 => (impl_DrumOfWear t_6 t_7).bind fun t_8 => (laws_eqDrum t_8.1 a_3).bind fun t_9 => (if ((!t_9) || (t_8.2 != i_4)) = true then some false else (laws_toFrame aF0).bind fun t_10 => (laws_eqFrame t_6 t_10).bind fun t_11 => (if (!t_11) = true then some false else (laws_toWear aW1).bind fun t_12 => (laws_eqWear t_7 t_12).bind fun t_13 => (if (!t_13) = true then some false else some true)))
noncomputable def laws_FnExactDrumOfWear (aF0 : GFrame) (aW1 : GWear) : Option (Bool) := (laws_szFrame aF0 1048576).bind fun t_1 => (if (decide (t_1 < 0)) = true then some true else (laws_szWear aW1 t_1).bind fun t_2 => (if (decide (t_2 < 0)) = true then some true else (laws_toFrame aF0).bind fun t_14 => (laws_toWear aW1).bind fun t_15 => (spec_DrumOfWear t_14 t_15).bind fun t_16 => laws_FnExactDrumOfWear.k_5 aF0 aW1 t_16.1 t_16.2))
set_option maxRecDepth 100000 in
set_option maxHeartbeats 8000000 in
theorem laws_FnExactDrumOfWear.calls (aF0 : GFrame) (aW1 : GWear) (w : World) (r : Bool) (aF0_fHammers_a : Option Addr) (aF0_fHammers_an : Nat) (aF0_fHammers_c : Nat) (aF0_fHammers_h : Rw w aF0_fHammers_a 2 encGHammer aF0.fHammers) (aF0_fHammers_hn : aF0.fHammers.length = aF0_fHammers_an) (aW1_fPins_a : Option Addr) (aW1_fPins_an : Nat) (aW1_fPins_c : Nat) (aW1_fPins_h : Rw w aW1_fPins_a 3 encGWornPin aW1.fPins) (aW1_fPins_hn : aW1.fPins.length = aW1_fPins_an) (aW1_fStrokes_a : Option Addr) (aW1_fStrokes_an : Nat) (aW1_fStrokes_c : Nat) (aW1_fStrokes_h : Rw w aW1_fStrokes_a 1 encI64 aW1.fStrokes) (aW1_fStrokes_hn : aW1.fStrokes.length = aW1_fStrokes_an) (h : laws_FnExactDrumOfWear aF0 aW1 = some r) :
    Calls Try.prog 7 #[(.agg #[(.int .i16 aF0.fSteps), (.slice aF0_fHammers_a aF0_fHammers_an aF0_fHammers_c)]), (.agg #[(.slice aW1_fPins_a aW1_fPins_an aW1_fPins_c), (.slice aW1_fStrokes_a aW1_fStrokes_an aW1_fStrokes_c)])] w fun e w' => ∃ v, e = .returned v ∧ (v = (.bool r) ∧ Mem w [] [] w') := by
  subst aF0_fHammers_hn aW1_fPins_hn aW1_fStrokes_hn
  rw [laws_FnExactDrumOfWear] at h
  refine enter (args := [(.agg #[(.int .i16 aF0.fSteps), (.slice aF0_fHammers_a aF0.fHammers.length aF0_fHammers_c)]), (.agg #[(.slice aW1_fPins_a aW1.fPins.length aW1_fPins_c), (.slice aW1_fStrokes_a aW1.fStrokes.length aW1_fStrokes_c)])]) Try.func7 rfl Try.ntmps7 (by kernel_rfl) (L := []) (W := []) (Mem.start w) ?_
  refine jc_seq ?_
  refine jc_region ?_
  refine toO (by kernel_rfl) (p_a 0 [0] (by kernel_rfl) (fun b => by kernel_rfl) (fun b_1 => jkO ?_))
  refine toO (by kernel_rfl) (p_a 0 [0] (by kernel_rfl) (fun b => by kernel_rfl) (fun b_2 => jkO ?_))
  refine jo_f [(0, 0)] (by kernel_rfl) ?_
  refine jo_end (by kernel_rfl) ?_
  refine jx_then ?_
  refine jc_seq ?_
  refine jc_region ?_
  refine jo_f [(0, 0)] (by kernel_rfl) ?_
  refine jo_end (by kernel_rfl) ?_
  refine jx_then ?_
  refine jc_seq ?_
  refine jc_region ?_
  refine jo_f [(0, 0), (0, 0)] (by kernel_rfl) ?_
  obtain ⟨t_1, ht_3, h⟩ := bd h
  refine toO (by kernel_rfl) (p_call 0 15 #[(.agg #[(.int .i16 aF0.fSteps), (.slice aF0_fHammers_a aF0.fHammers.length aF0_fHammers_c)]), (.int .i64 1048576)] (by kernel_rfl) (by kernel_rfl) (fun w hm => laws_szFrame.calls aF0 1048576 w _ aF0_fHammers_a aF0.fHammers.length aF0_fHammers_c (hm.exRow aF0_fHammers_h List.not_mem_nil) rfl ht_3) ?_)
  rintro w v w' hm ⟨rfl, hm'⟩
  refine ⟨_, hm.app hm', jkO ?_⟩
  clear hm hm'
  refine jo_f [(0, 0)] (by kernel_rfl) ?_
  refine jo_end (by kernel_rfl) ?_
  refine jx_then ?_
  refine jc_seq ?_
  refine jc_seq ?_
  refine jc_region ?_
  refine jo_f [(0, 0), (0, 0)] (by kernel_rfl) ?_
  refine jo_end (by kernel_rfl) ?_
  refine jx_then ?_
  refine jc_cond (decide (t_1 < 0)) (by kernel_rfl) (fun hc_5 => ?_) (fun hc_5 => ?_)
  · replace h := ifT hc_5 h
    refine jc_seq ?_
    refine jc_region ?_
    refine jo_f [(0, 0)] (by kernel_rfl) ?_
    refine jo_end (by kernel_rfl) ?_
    refine jx_then ?_
    refine jc_ret ?_
    refine jx_thenr ?_
    obtain rfl := Option.some.inj h
    exact jx_ret [] (.bool true) [] rfl (by kernel_rfl) (by kernel_rfl) (fun w hm => ⟨rfl, hm.pick [] (by kernel_rfl) (by kernel_rfl)⟩)
  · replace h := ifF hc_5 h
    refine jc_skip ?_
    refine jx_then ?_
    refine jc_seq ?_
    refine jc_region ?_
    refine jo_f [(1, 0), (0, 0)] (by kernel_rfl) ?_
    obtain ⟨t_2, ht_6, h⟩ := bd h
    refine toO (by kernel_rfl) (p_call 0 25 #[(.agg #[(.slice aW1_fPins_a aW1.fPins.length aW1_fPins_c), (.slice aW1_fStrokes_a aW1.fStrokes.length aW1_fStrokes_c)]), (.int .i64 t_1)] (by kernel_rfl) (by kernel_rfl) (fun w hm => laws_szWear.calls aW1 t_1 w _ aW1_fPins_a aW1.fPins.length aW1_fPins_c (hm.exRow aW1_fPins_h List.not_mem_nil) rfl aW1_fStrokes_a aW1.fStrokes.length aW1_fStrokes_c (hm.exRow aW1_fStrokes_h List.not_mem_nil) rfl ht_6) ?_)
    rintro w v w' hm ⟨rfl, hm'⟩
    refine ⟨_, hm.app hm', jkO ?_⟩
    clear hm hm'
    refine jo_f [(0, 0)] (by kernel_rfl) ?_
    refine jo_end (by kernel_rfl) ?_
    refine jx_then ?_
    refine jc_seq ?_
    refine jc_seq ?_
    refine jc_region ?_
    refine jo_f [(0, 0), (0, 0)] (by kernel_rfl) ?_
    refine jo_end (by kernel_rfl) ?_
    refine jx_then ?_
    refine jc_cond (decide (t_2 < 0)) (by kernel_rfl) (fun hc_8 => ?_) (fun hc_8 => ?_)
    · replace h := ifT hc_8 h
      refine jc_seq ?_
      refine jc_region ?_
      refine jo_f [(0, 0)] (by kernel_rfl) ?_
      refine jo_end (by kernel_rfl) ?_
      refine jx_then ?_
      refine jc_ret ?_
      refine jx_thenr ?_
      obtain rfl := Option.some.inj h
      exact jx_ret [] (.bool true) [] rfl (by kernel_rfl) (by kernel_rfl) (fun w hm => ⟨rfl, hm.pick [] (by kernel_rfl) (by kernel_rfl)⟩)
    · replace h := ifF hc_8 h
      refine jc_skip ?_
      refine jx_then ?_
      refine jc_seq ?_
      refine jc_meet (fun (j : (Arr 96 Int) × Int × Nat) => match j with | ⟨a_3, i_4, b_62⟩ => laws_FnExactDrumOfWear.k_5 aF0 aW1 a_3 i_4 = some r) (fun (j : (Arr 96 Int) × Int × Nat) => match j with | ⟨a_3, i_4, b_62⟩ => [(2, [], (.pointer (some ⟨b_1, 0, none⟩))), (3, [], (.pointer (some ⟨b_2, 0, none⟩))), (4, [], (.bool false)), (6, [], (.pointer (some ⟨b_62, 0, none⟩))), (7, [], (.int .i64 i_4))]) (fun (j : (Arr 96 Int) × Int × Nat) => match j with | ⟨a_3, i_4, b_62⟩ => [⟨some b_1, 25, [(.int .i16 aF0.fSteps), (.slice aF0_fHammers_a aF0.fHammers.length aF0_fHammers_c)]⟩, ⟨some b_2, 47, [(.slice aW1_fPins_a aW1.fPins.length aW1_fPins_c), (.slice aW1_fStrokes_a aW1.fStrokes.length aW1_fStrokes_c)]⟩, ⟨(some b_62), 58, row encU32 a_3.1 []⟩]) ?_ ?_
      · refine jc_draw [⟨some b_1, 25, [(.int .i16 aF0.fSteps), (.slice aF0_fHammers_a aF0.fHammers.length aF0_fHammers_c)]⟩, ⟨some b_2, 47, [(.slice aW1_fPins_a aW1.fPins.length aW1_fPins_c), (.slice aW1_fStrokes_a aW1.fStrokes.length aW1_fStrokes_c)]⟩] 11 (by kernel_rfl) (by kernel_rfl) ?_
        refine jd_f [⟨0, 0, 0⟩, ⟨2, 1, 0⟩] 9 (by kernel_rfl) (by kernel_rfl) (fun w h => h.pick [0, 1] (by kernel_rfl) (by kernel_rfl)) (by kernel_rfl) (by kernel_rfl) ?_
        refine toD2 1 8 (by kernel_rfl) ?_ ?_
        · obtain ⟨t_14, ht_145, h⟩ := bd h
          refine p_call 0 17 #[(.agg #[(.int .i16 aF0.fSteps), (.slice aF0_fHammers_a aF0.fHammers.length aF0_fHammers_c)])] (by kernel_rfl) (by kernel_rfl) (fun w hm => laws_toFrame.calls aF0 w _ aF0_fHammers_a aF0.fHammers.length aF0_fHammers_c (hm.exRow aF0_fHammers_h List.not_mem_nil) rfl ht_145) ?_
          rintro w v w' hm ⟨o_146, cap_147, sp_148, _, rfl, hs_149, ho_150, rfl, hm'⟩
          refine ⟨_, hm.app hm', jkD (fun w h => h.pick [0, 1] (by kernel_rfl) (by kernel_rfl)) ?_⟩
          clear hm hm'
          refine toD2 3 8 (by kernel_rfl) ?_ ?_
          · obtain ⟨t_15, ht_151, h⟩ := bd h
            refine p_call 0 27 #[(.agg #[(.slice aW1_fPins_a aW1.fPins.length aW1_fPins_c), (.slice aW1_fStrokes_a aW1.fStrokes.length aW1_fStrokes_c)])] (by kernel_rfl) (by kernel_rfl) (fun w hm => laws_toWear.calls aW1 w _ aW1_fPins_a aW1.fPins.length aW1_fPins_c (hm.exRow aW1_fPins_h List.not_mem_nil) rfl aW1_fStrokes_a aW1.fStrokes.length aW1_fStrokes_c (hm.exRow aW1_fStrokes_h List.not_mem_nil) rfl ht_151) ?_
            rintro w v w' hm ⟨o_152, cap_153, sp_154, _, rfl, hs_155, ho_156, o_157, cap_158, sp_159, _, rfl, hs_160, ho_161, rfl, hm'⟩
            refine ⟨_, hm.app hm', jkD (fun w h => h.pick [0, 1] (by kernel_rfl) (by kernel_rfl)) ?_⟩
            clear hm hm'
            refine toD2 4 8 (by kernel_rfl) ?_ ?_
            · obtain ⟨t_16, ht_162, h⟩ := bd h
              refine p_call 0 39 #[(.agg #[(.int .i16 t_14.fSteps), (.slice (o_146.map fun b => ⟨b, 0, none⟩) t_14.fHammers.length cap_147)]), (.agg #[(.slice (o_152.map fun b => ⟨b, 0, none⟩) t_15.fPins.length cap_153), (.slice (o_157.map fun b => ⟨b, 0, none⟩) t_15.fStrokes.length cap_158)])] (by kernel_rfl) (by kernel_rfl) (fun w hm => spec_DrumOfWear.calls t_14 t_15 w _ (o_146.map fun b => ⟨b, 0, none⟩) t_14.fHammers.length cap_147 (hm.ownRow (hh := 2) (o := o_146) (T := 176) (enc := encGHammer) (xs := t_14.fHammers) (sp := sp_148) (by kernel_rfl) (fun e => (ho_150 e).1) encGHammer_len) rfl (o_152.map fun b => ⟨b, 0, none⟩) t_15.fPins.length cap_153 (hm.ownRow (hh := 3) (o := o_152) (T := 124) (enc := encGWornPin) (xs := t_15.fPins) (sp := sp_154) (by kernel_rfl) (fun e => (ho_156 e).1) encGWornPin_len) rfl (o_157.map fun b => ⟨b, 0, none⟩) t_15.fStrokes.length cap_158 (hm.ownRow (hh := 4) (o := o_157) (T := 2) (enc := encI64) (xs := t_15.fStrokes) (sp := sp_159) (by kernel_rfl) (fun e => (ho_161 e).1) encI64_len) rfl ht_162) ?_
              rintro w v w' hm ⟨rfl, hm'⟩
              refine ⟨_, hm.app hm', jkD (fun w h => h.pick [0, 1] (by kernel_rfl) (by kernel_rfl)) ?_⟩
              clear hm hm'
              refine jd_f [⟨5, 0, 0⟩, ⟨6, 0, 0⟩, ⟨7, 0, 0⟩] 3 (by kernel_rfl) (by kernel_rfl) (fun w h => h.pick [0, 1] (by kernel_rfl) (by kernel_rfl)) (by kernel_rfl) (by kernel_rfl) ?_
              refine toD 8 (by kernel_rfl) (p_a 0 [0] (by kernel_rfl) (fun b => by kernel_rfl) (fun b_163 => jkD (fun w h => h.pick [0, 1] (by kernel_rfl) (by kernel_rfl)) ?_))
              refine toD 9 (by kernel_rfl) (p_sA 0 5 b_163 96 1 58 encU32 (Arr.rep 96 0) t_16.1 (by kernel_rfl) (by kernel_rfl) (by kernel_rfl) encU32_len encU32_cell (by kernel_rfl) (jkD (fun w h => h.pick [0, 1] (by kernel_rfl) (by kernel_rfl)) ?_))
              refine jd_f [⟨10, 0, 0⟩] 0 (by kernel_rfl) (by kernel_rfl) (fun w h => h.pick [0, 1] (by kernel_rfl) (by kernel_rfl)) (by kernel_rfl) (by kernel_rfl) ?_
              refine jd_end (by kernel_rfl) ?_
              exact jx_meet ⟨t_16.1, t_16.2, b_163⟩ h (by kernel_rfl) [0, 1, 5] (by kernel_rfl) (by kernel_rfl)
            · refine p_a 0 [0] (by kernel_rfl) (fun b => by kernel_rfl) (fun b_164 => jkD (fun w h => h.pick [0, 1] (by kernel_rfl) (by kernel_rfl)) ?_)
              obtain ⟨t_16, ht_165, h⟩ := bd h
              refine toD 4 (by kernel_rfl) (p_call 0 39 #[(.agg #[(.int .i16 t_14.fSteps), (.slice (o_146.map fun b => ⟨b, 0, none⟩) t_14.fHammers.length cap_147)]), (.agg #[(.slice (o_152.map fun b => ⟨b, 0, none⟩) t_15.fPins.length cap_153), (.slice (o_157.map fun b => ⟨b, 0, none⟩) t_15.fStrokes.length cap_158)])] (by kernel_rfl) (by kernel_rfl) (fun w hm => spec_DrumOfWear.calls t_14 t_15 w _ (o_146.map fun b => ⟨b, 0, none⟩) t_14.fHammers.length cap_147 (hm.ownRow (hh := 2) (o := o_146) (T := 176) (enc := encGHammer) (xs := t_14.fHammers) (sp := sp_148) (by kernel_rfl) (fun e => (ho_150 e).1) encGHammer_len) rfl (o_152.map fun b => ⟨b, 0, none⟩) t_15.fPins.length cap_153 (hm.ownRow (hh := 3) (o := o_152) (T := 124) (enc := encGWornPin) (xs := t_15.fPins) (sp := sp_154) (by kernel_rfl) (fun e => (ho_156 e).1) encGWornPin_len) rfl (o_157.map fun b => ⟨b, 0, none⟩) t_15.fStrokes.length cap_158 (hm.ownRow (hh := 4) (o := o_157) (T := 2) (enc := encI64) (xs := t_15.fStrokes) (sp := sp_159) (by kernel_rfl) (fun e => (ho_161 e).1) encI64_len) rfl ht_165) ?_)
              rintro w v w' hm ⟨rfl, hm'⟩
              refine ⟨_, hm.app hm', jkD (fun w h => h.pick [0, 1] (by kernel_rfl) (by kernel_rfl)) ?_⟩
              clear hm hm'
              refine jd_f [⟨5, 0, 0⟩, ⟨6, 0, 0⟩, ⟨7, 0, 0⟩] 2 (by kernel_rfl) (by kernel_rfl) (fun w h => h.pick [0, 1] (by kernel_rfl) (by kernel_rfl)) (by kernel_rfl) (by kernel_rfl) ?_
              refine toD 9 (by kernel_rfl) (p_sA 0 5 b_164 96 1 58 encU32 (Arr.rep 96 0) t_16.1 (by kernel_rfl) (by kernel_rfl) (by kernel_rfl) encU32_len encU32_cell (by kernel_rfl) (jkD (fun w h => h.pick [0, 1] (by kernel_rfl) (by kernel_rfl)) ?_))
              refine jd_f [⟨10, 0, 0⟩] 0 (by kernel_rfl) (by kernel_rfl) (fun w h => h.pick [0, 1] (by kernel_rfl) (by kernel_rfl)) (by kernel_rfl) (by kernel_rfl) ?_
              refine jd_end (by kernel_rfl) ?_
              exact jx_meet ⟨t_16.1, t_16.2, b_164⟩ h (by kernel_rfl) [0, 1, 5] (by kernel_rfl) (by kernel_rfl)
          · refine p_a 0 [0] (by kernel_rfl) (fun b => by kernel_rfl) (fun b_166 => jkD (fun w h => h.pick [0, 1] (by kernel_rfl) (by kernel_rfl)) ?_)
            obtain ⟨t_15, ht_167, h⟩ := bd h
            refine toD 3 (by kernel_rfl) (p_call 0 27 #[(.agg #[(.slice aW1_fPins_a aW1.fPins.length aW1_fPins_c), (.slice aW1_fStrokes_a aW1.fStrokes.length aW1_fStrokes_c)])] (by kernel_rfl) (by kernel_rfl) (fun w hm => laws_toWear.calls aW1 w _ aW1_fPins_a aW1.fPins.length aW1_fPins_c (hm.exRow aW1_fPins_h List.not_mem_nil) rfl aW1_fStrokes_a aW1.fStrokes.length aW1_fStrokes_c (hm.exRow aW1_fStrokes_h List.not_mem_nil) rfl ht_167) ?_)
            rintro w v w' hm ⟨o_168, cap_169, sp_170, _, rfl, hs_171, ho_172, o_173, cap_174, sp_175, _, rfl, hs_176, ho_177, rfl, hm'⟩
            refine ⟨_, hm.app hm', jkD (fun w h => h.pick [0, 1] (by kernel_rfl) (by kernel_rfl)) ?_⟩
            clear hm hm'
            obtain ⟨t_16, ht_178, h⟩ := bd h
            refine toD 4 (by kernel_rfl) (p_call 0 39 #[(.agg #[(.int .i16 t_14.fSteps), (.slice (o_146.map fun b => ⟨b, 0, none⟩) t_14.fHammers.length cap_147)]), (.agg #[(.slice (o_168.map fun b => ⟨b, 0, none⟩) t_15.fPins.length cap_169), (.slice (o_173.map fun b => ⟨b, 0, none⟩) t_15.fStrokes.length cap_174)])] (by kernel_rfl) (by kernel_rfl) (fun w hm => spec_DrumOfWear.calls t_14 t_15 w _ (o_146.map fun b => ⟨b, 0, none⟩) t_14.fHammers.length cap_147 (hm.ownRow (hh := 2) (o := o_146) (T := 176) (enc := encGHammer) (xs := t_14.fHammers) (sp := sp_148) (by kernel_rfl) (fun e => (ho_150 e).1) encGHammer_len) rfl (o_168.map fun b => ⟨b, 0, none⟩) t_15.fPins.length cap_169 (hm.ownRow (hh := 4) (o := o_168) (T := 124) (enc := encGWornPin) (xs := t_15.fPins) (sp := sp_170) (by kernel_rfl) (fun e => (ho_172 e).1) encGWornPin_len) rfl (o_173.map fun b => ⟨b, 0, none⟩) t_15.fStrokes.length cap_174 (hm.ownRow (hh := 5) (o := o_173) (T := 2) (enc := encI64) (xs := t_15.fStrokes) (sp := sp_175) (by kernel_rfl) (fun e => (ho_177 e).1) encI64_len) rfl ht_178) ?_)
            rintro w v w' hm ⟨rfl, hm'⟩
            refine ⟨_, hm.app hm', jkD (fun w h => h.pick [0, 1] (by kernel_rfl) (by kernel_rfl)) ?_⟩
            clear hm hm'
            refine jd_f [⟨5, 0, 0⟩, ⟨6, 0, 0⟩, ⟨7, 0, 0⟩] 2 (by kernel_rfl) (by kernel_rfl) (fun w h => h.pick [0, 1] (by kernel_rfl) (by kernel_rfl)) (by kernel_rfl) (by kernel_rfl) ?_
            refine toD 9 (by kernel_rfl) (p_sA 0 3 b_166 96 1 58 encU32 (Arr.rep 96 0) t_16.1 (by kernel_rfl) (by kernel_rfl) (by kernel_rfl) encU32_len encU32_cell (by kernel_rfl) (jkD (fun w h => h.pick [0, 1] (by kernel_rfl) (by kernel_rfl)) ?_))
            refine jd_f [⟨10, 0, 0⟩] 0 (by kernel_rfl) (by kernel_rfl) (fun w h => h.pick [0, 1] (by kernel_rfl) (by kernel_rfl)) (by kernel_rfl) (by kernel_rfl) ?_
            refine jd_end (by kernel_rfl) ?_
            exact jx_meet ⟨t_16.1, t_16.2, b_166⟩ h (by kernel_rfl) [0, 1, 3] (by kernel_rfl) (by kernel_rfl)
        · refine p_a 0 [0] (by kernel_rfl) (fun b => by kernel_rfl) (fun b_179 => jkD (fun w h => h.pick [0, 1] (by kernel_rfl) (by kernel_rfl)) ?_)
          obtain ⟨t_14, ht_180, h⟩ := bd h
          refine toD 1 (by kernel_rfl) (p_call 0 17 #[(.agg #[(.int .i16 aF0.fSteps), (.slice aF0_fHammers_a aF0.fHammers.length aF0_fHammers_c)])] (by kernel_rfl) (by kernel_rfl) (fun w hm => laws_toFrame.calls aF0 w _ aF0_fHammers_a aF0.fHammers.length aF0_fHammers_c (hm.exRow aF0_fHammers_h List.not_mem_nil) rfl ht_180) ?_)
          rintro w v w' hm ⟨o_181, cap_182, sp_183, _, rfl, hs_184, ho_185, rfl, hm'⟩
          refine ⟨_, hm.app hm', jkD (fun w h => h.pick [0, 1] (by kernel_rfl) (by kernel_rfl)) ?_⟩
          clear hm hm'
          obtain ⟨t_15, ht_186, h⟩ := bd h
          refine toD 3 (by kernel_rfl) (p_call 0 27 #[(.agg #[(.slice aW1_fPins_a aW1.fPins.length aW1_fPins_c), (.slice aW1_fStrokes_a aW1.fStrokes.length aW1_fStrokes_c)])] (by kernel_rfl) (by kernel_rfl) (fun w hm => laws_toWear.calls aW1 w _ aW1_fPins_a aW1.fPins.length aW1_fPins_c (hm.exRow aW1_fPins_h List.not_mem_nil) rfl aW1_fStrokes_a aW1.fStrokes.length aW1_fStrokes_c (hm.exRow aW1_fStrokes_h List.not_mem_nil) rfl ht_186) ?_)
          rintro w v w' hm ⟨o_187, cap_188, sp_189, _, rfl, hs_190, ho_191, o_192, cap_193, sp_194, _, rfl, hs_195, ho_196, rfl, hm'⟩
          refine ⟨_, hm.app hm', jkD (fun w h => h.pick [0, 1] (by kernel_rfl) (by kernel_rfl)) ?_⟩
          clear hm hm'
          obtain ⟨t_16, ht_197, h⟩ := bd h
          refine toD 4 (by kernel_rfl) (p_call 0 39 #[(.agg #[(.int .i16 t_14.fSteps), (.slice (o_181.map fun b => ⟨b, 0, none⟩) t_14.fHammers.length cap_182)]), (.agg #[(.slice (o_187.map fun b => ⟨b, 0, none⟩) t_15.fPins.length cap_188), (.slice (o_192.map fun b => ⟨b, 0, none⟩) t_15.fStrokes.length cap_193)])] (by kernel_rfl) (by kernel_rfl) (fun w hm => spec_DrumOfWear.calls t_14 t_15 w _ (o_181.map fun b => ⟨b, 0, none⟩) t_14.fHammers.length cap_182 (hm.ownRow (hh := 3) (o := o_181) (T := 176) (enc := encGHammer) (xs := t_14.fHammers) (sp := sp_183) (by kernel_rfl) (fun e => (ho_185 e).1) encGHammer_len) rfl (o_187.map fun b => ⟨b, 0, none⟩) t_15.fPins.length cap_188 (hm.ownRow (hh := 4) (o := o_187) (T := 124) (enc := encGWornPin) (xs := t_15.fPins) (sp := sp_189) (by kernel_rfl) (fun e => (ho_191 e).1) encGWornPin_len) rfl (o_192.map fun b => ⟨b, 0, none⟩) t_15.fStrokes.length cap_193 (hm.ownRow (hh := 5) (o := o_192) (T := 2) (enc := encI64) (xs := t_15.fStrokes) (sp := sp_194) (by kernel_rfl) (fun e => (ho_196 e).1) encI64_len) rfl ht_197) ?_)
          rintro w v w' hm ⟨rfl, hm'⟩
          refine ⟨_, hm.app hm', jkD (fun w h => h.pick [0, 1] (by kernel_rfl) (by kernel_rfl)) ?_⟩
          clear hm hm'
          refine jd_f [⟨5, 0, 0⟩, ⟨6, 0, 0⟩, ⟨7, 0, 0⟩] 2 (by kernel_rfl) (by kernel_rfl) (fun w h => h.pick [0, 1] (by kernel_rfl) (by kernel_rfl)) (by kernel_rfl) (by kernel_rfl) ?_
          refine toD 9 (by kernel_rfl) (p_sA 0 2 b_179 96 1 58 encU32 (Arr.rep 96 0) t_16.1 (by kernel_rfl) (by kernel_rfl) (by kernel_rfl) encU32_len encU32_cell (by kernel_rfl) (jkD (fun w h => h.pick [0, 1] (by kernel_rfl) (by kernel_rfl)) ?_))
          refine jd_f [⟨10, 0, 0⟩] 0 (by kernel_rfl) (by kernel_rfl) (fun w h => h.pick [0, 1] (by kernel_rfl) (by kernel_rfl)) (by kernel_rfl) (by kernel_rfl) ?_
          refine jd_end (by kernel_rfl) ?_
          exact jx_meet ⟨t_16.1, t_16.2, b_179⟩ h (by kernel_rfl) [0, 1, 2] (by kernel_rfl) (by kernel_rfl)
      · rintro ⟨a_3, i_4, b_62⟩ h
        replace h : laws_FnExactDrumOfWear.k_5 aF0 aW1 a_3 i_4 = some r := h
        rw [laws_FnExactDrumOfWear.k_5] at h
        refine jx_then ?_
        refine jc_seq ?_
        refine jc_region ?_
        refine jo_f [(0, 0)] (by kernel_rfl) ?_
        obtain ⟨t_6, ht_63, h⟩ := bd h
        refine toO (by kernel_rfl) (p_call 0 17 #[(.agg #[(.int .i16 aF0.fSteps), (.slice aF0_fHammers_a aF0.fHammers.length aF0_fHammers_c)])] (by kernel_rfl) (by kernel_rfl) (fun w hm => laws_toFrame.calls aF0 w _ aF0_fHammers_a aF0.fHammers.length aF0_fHammers_c (hm.exRow aF0_fHammers_h List.not_mem_nil) rfl ht_63) ?_)
        rintro w v w' hm ⟨o_64, cap_65, sp_66, _, rfl, hs_67, ho_68, rfl, hm'⟩
        refine ⟨_, hm.app hm', jkO ?_⟩
        clear hm hm'
        refine toO (by kernel_rfl) (p_a 0 [0] (by kernel_rfl) (fun b => by kernel_rfl) (fun b_69 => jkO ?_))
        refine toO (by kernel_rfl) (p_s 0 [4] (by kernel_rfl) (by kernel_rfl) (jkO ?_))
        refine jo_end (by kernel_rfl) ?_
        refine jx_then ?_
        refine jc_seq ?_
        refine jc_region ?_
        refine jo_f [(1, 0)] (by kernel_rfl) ?_
        obtain ⟨t_7, ht_70, h⟩ := bd h
        refine toO (by kernel_rfl) (p_call 0 27 #[(.agg #[(.slice aW1_fPins_a aW1.fPins.length aW1_fPins_c), (.slice aW1_fStrokes_a aW1.fStrokes.length aW1_fStrokes_c)])] (by kernel_rfl) (by kernel_rfl) (fun w hm => laws_toWear.calls aW1 w _ aW1_fPins_a aW1.fPins.length aW1_fPins_c (hm.exRow aW1_fPins_h List.not_mem_nil) rfl aW1_fStrokes_a aW1.fStrokes.length aW1_fStrokes_c (hm.exRow aW1_fStrokes_h List.not_mem_nil) rfl ht_70) ?_)
        rintro w v w' hm ⟨o_71, cap_72, sp_73, _, rfl, hs_74, ho_75, o_76, cap_77, sp_78, _, rfl, hs_79, ho_80, rfl, hm'⟩
        refine ⟨_, hm.app hm', jkO ?_⟩
        clear hm hm'
        refine toO (by kernel_rfl) (p_a 0 [0] (by kernel_rfl) (fun b => by kernel_rfl) (fun b_81 => jkO ?_))
        refine toO (by kernel_rfl) (p_s 0 [7] (by kernel_rfl) (by kernel_rfl) (jkO ?_))
        refine jo_end (by kernel_rfl) ?_
        refine jx_then ?_
        refine jc_seq ?_
        refine jc_region ?_
        refine jo_f [(4, 0), (7, 0)] (by kernel_rfl) ?_
        obtain ⟨t_8, ht_82, h⟩ := bd h
        refine toO (by kernel_rfl) (p_call 0 40 #[(.agg #[(.int .i16 t_6.fSteps), (.slice (o_64.map fun b => ⟨b, 0, none⟩) t_6.fHammers.length cap_65)]), (.agg #[(.slice (o_71.map fun b => ⟨b, 0, none⟩) t_7.fPins.length cap_72), (.slice (o_76.map fun b => ⟨b, 0, none⟩) t_7.fStrokes.length cap_77)])] (by kernel_rfl) (by kernel_rfl) (fun w hm => impl_DrumOfWear.calls t_6 t_7 w _ (o_64.map fun b => ⟨b, 0, none⟩) t_6.fHammers.length cap_65 (hm.ownRow (hh := 3) (o := o_64) (T := 176) (enc := encGHammer) (xs := t_6.fHammers) (sp := sp_66) (by kernel_rfl) (fun e => (ho_68 e).1) encGHammer_len) rfl (o_71.map fun b => ⟨b, 0, none⟩) t_7.fPins.length cap_72 (hm.ownRow (hh := 5) (o := o_71) (T := 124) (enc := encGWornPin) (xs := t_7.fPins) (sp := sp_73) (by kernel_rfl) (fun e => (ho_75 e).1) encGWornPin_len) rfl (o_76.map fun b => ⟨b, 0, none⟩) t_7.fStrokes.length cap_77 (hm.ownRow (hh := 6) (o := o_76) (T := 2) (enc := encI64) (xs := t_7.fStrokes) (sp := sp_78) (by kernel_rfl) (fun e => (ho_80 e).1) encI64_len) rfl ht_82) ?_)
        rintro w v w' hm ⟨rfl, hm'⟩
        refine ⟨_, hm.app hm', jkO ?_⟩
        clear hm hm'
        refine jo_f [(0, 0), (0, 0), (0, 0)] (by kernel_rfl) ?_
        refine toO (by kernel_rfl) (p_a 0 [0] (by kernel_rfl) (fun b => by kernel_rfl) (fun b_83 => jkO ?_))
        refine toO (by kernel_rfl) (p_sA 0 8 b_83 96 1 58 encU32 (Arr.rep 96 0) t_8.1 (by kernel_rfl) (by kernel_rfl) (by kernel_rfl) encU32_len encU32_cell (by kernel_rfl) (jkO ?_))
        refine jo_f [(0, 0)] (by kernel_rfl) ?_
        refine jo_end (by kernel_rfl) ?_
        refine jx_then ?_
        refine jc_seq ?_
        refine jc_seq ?_
        refine jc_region ?_
        refine toO (by kernel_rfl) (p_ldA 0 8 b_83 96 1 58 encU32 t_8.1 (by kernel_rfl) (by kernel_rfl) (by kernel_rfl) encU32_len (by kernel_rfl) (jkO ?_))
        refine toO (by kernel_rfl) (p_ldA 0 2 b_62 96 1 58 encU32 a_3 (by kernel_rfl) (by kernel_rfl) (by kernel_rfl) encU32_len (by kernel_rfl) (jkO ?_))
        obtain ⟨t_9, ht_88, h⟩ := bd h
        refine toO (by kernel_rfl) (p_call 0 33 #[(.agg (row encU32 t_8.1.1 []).toArray), (.agg (row encU32 a_3.1 []).toArray)] (by kernel_rfl) (by kernel_rfl) (fun w hm => laws_eqDrum.calls t_8.1 a_3 w _ ht_88) ?_)
        rintro w v w' hm ⟨rfl, hm'⟩
        refine ⟨_, hm.app hm', jkO ?_⟩
        clear hm hm'
        refine jo_f [(0, 0), (0, 0), (0, 1), (0, 1), (0, 1), (0, 0)] (by kernel_rfl) ?_
        refine jo_end (by kernel_rfl) ?_
        refine jx_then ?_
        refine jc_cond ((!t_9) || (t_8.2 != i_4)) (by kernel_rfl) (fun hc_89 => ?_) (fun hc_89 => ?_)
        · replace h := ifT hc_89 h
          refine jc_seq ?_
          refine jc_region ?_
          refine jo_f [(0, 0)] (by kernel_rfl) ?_
          refine jo_end (by kernel_rfl) ?_
          refine jx_then ?_
          refine jc_ret ?_
          refine jx_thenr ?_
          obtain rfl := Option.some.inj h
          exact jx_ret [] (.bool false) [] rfl (by kernel_rfl) (by kernel_rfl) (fun w hm => ⟨rfl, hm.pick [] (by kernel_rfl) (by kernel_rfl)⟩)
        · replace h := ifF hc_89 h
          refine jc_skip ?_
          refine jx_then ?_
          refine jc_seq ?_
          refine jc_seq ?_
          refine jc_draw [⟨some b_1, 25, [(.int .i16 aF0.fSteps), (.slice aF0_fHammers_a aF0.fHammers.length aF0_fHammers_c)]⟩, ⟨some b_2, 47, [(.slice aW1_fPins_a aW1.fPins.length aW1_fPins_c), (.slice aW1_fStrokes_a aW1.fStrokes.length aW1_fStrokes_c)]⟩, ⟨(some b_62), 58, row encU32 a_3.1 []⟩, ⟨o_64, 176, row encGHammer t_6.fHammers sp_66⟩, ⟨some b_69, 35, [(.int .i16 t_6.fSteps), (.slice (o_64.map fun b => ⟨b, 0, none⟩) t_6.fHammers.length cap_65)]⟩, ⟨o_71, 124, row encGWornPin t_7.fPins sp_73⟩, ⟨o_76, 2, row encI64 t_7.fStrokes sp_78⟩, ⟨some b_81, 52, [(.slice (o_71.map fun b => ⟨b, 0, none⟩) t_7.fPins.length cap_72), (.slice (o_76.map fun b => ⟨b, 0, none⟩) t_7.fStrokes.length cap_77)]⟩, ⟨(some b_83), 58, row encU32 t_8.1.1 []⟩] 5 (by kernel_rfl) (by kernel_rfl) ?_
          refine jd_f [⟨0, 4, 0⟩, ⟨1, 0, 0⟩] 3 (by kernel_rfl) (by kernel_rfl) (fun w h => h.pick [0, 1, 2, 3, 4, 5, 6, 7, 8] (by kernel_rfl) (by kernel_rfl)) (by kernel_rfl) (by kernel_rfl) ?_
          obtain ⟨t_10, ht_112, h⟩ := bd h
          refine toD 2 (by kernel_rfl) (p_call 0 17 #[(.agg #[(.int .i16 aF0.fSteps), (.slice aF0_fHammers_a aF0.fHammers.length aF0_fHammers_c)])] (by kernel_rfl) (by kernel_rfl) (fun w hm => laws_toFrame.calls aF0 w _ aF0_fHammers_a aF0.fHammers.length aF0_fHammers_c (hm.exRow aF0_fHammers_h List.not_mem_nil) rfl ht_112) ?_)
          rintro w v w' hm ⟨o_113, cap_114, sp_115, _, rfl, hs_116, ho_117, rfl, hm'⟩
          refine ⟨_, hm.app hm', jkD (fun w h => h.pick [0, 1, 2, 3, 4, 5, 6, 7, 8] (by kernel_rfl) (by kernel_rfl)) ?_⟩
          clear hm hm'
          obtain ⟨t_11, ht_118, h⟩ := bd h
          refine toD 3 (by kernel_rfl) (p_call 0 21 #[(.agg #[(.int .i16 t_6.fSteps), (.slice (o_64.map fun b => ⟨b, 0, none⟩) t_6.fHammers.length cap_65)]), (.agg #[(.int .i16 t_10.fSteps), (.slice (o_113.map fun b => ⟨b, 0, none⟩) t_10.fHammers.length cap_114)])] (by kernel_rfl) (by kernel_rfl) (fun w hm => laws_eqFrame.calls t_6 t_10 w _ (o_64.map fun b => ⟨b, 0, none⟩) t_6.fHammers.length cap_65 (hm.ownRow (hh := 3) (o := o_64) (T := 176) (enc := encGHammer) (xs := t_6.fHammers) (sp := sp_66) (by kernel_rfl) (fun e => (ho_68 e).1) encGHammer_len) rfl (o_113.map fun b => ⟨b, 0, none⟩) t_10.fHammers.length cap_114 (hm.ownRow (hh := 9) (o := o_113) (T := 176) (enc := encGHammer) (xs := t_10.fHammers) (sp := sp_115) (by kernel_rfl) (fun e => (ho_117 e).1) encGHammer_len) rfl ht_118) ?_)
          rintro w v w' hm ⟨rfl, hm'⟩
          refine ⟨_, hm.app hm', jkD (fun w h => h.pick [0, 1, 2, 3, 4, 5, 6, 7, 8] (by kernel_rfl) (by kernel_rfl)) ?_⟩
          clear hm hm'
          refine jd_f [⟨4, 0, 0⟩] 0 (by kernel_rfl) (by kernel_rfl) (fun w h => h.pick [0, 1, 2, 3, 4, 5, 6, 7, 8] (by kernel_rfl) (by kernel_rfl)) (by kernel_rfl) (by kernel_rfl) ?_
          refine jd_end (by kernel_rfl) ?_
          refine jx_then ?_
          refine jc_cond (!t_11) (by kernel_rfl) (fun hc_119 => ?_) (fun hc_119 => ?_)
          · replace h := ifT hc_119 h
            refine jc_seq ?_
            refine jc_region ?_
            refine jo_f [(0, 0)] (by kernel_rfl) ?_
            refine jo_end (by kernel_rfl) ?_
            refine jx_then ?_
            refine jc_ret ?_
            refine jx_thenr ?_
            obtain rfl := Option.some.inj h
            exact jx_ret [] (.bool false) [] rfl (by kernel_rfl) (by kernel_rfl) (fun w hm => ⟨rfl, hm.pick [] (by kernel_rfl) (by kernel_rfl)⟩)
          · replace h := ifF hc_119 h
            refine jc_skip ?_
            refine jx_then ?_
            refine jc_seq ?_
            refine jc_seq ?_
            refine jc_draw [⟨some b_1, 25, [(.int .i16 aF0.fSteps), (.slice aF0_fHammers_a aF0.fHammers.length aF0_fHammers_c)]⟩, ⟨some b_2, 47, [(.slice aW1_fPins_a aW1.fPins.length aW1_fPins_c), (.slice aW1_fStrokes_a aW1.fStrokes.length aW1_fStrokes_c)]⟩, ⟨(some b_62), 58, row encU32 a_3.1 []⟩, ⟨o_64, 176, row encGHammer t_6.fHammers sp_66⟩, ⟨some b_69, 35, [(.int .i16 t_6.fSteps), (.slice (o_64.map fun b => ⟨b, 0, none⟩) t_6.fHammers.length cap_65)]⟩, ⟨o_71, 124, row encGWornPin t_7.fPins sp_73⟩, ⟨o_76, 2, row encI64 t_7.fStrokes sp_78⟩, ⟨some b_81, 52, [(.slice (o_71.map fun b => ⟨b, 0, none⟩) t_7.fPins.length cap_72), (.slice (o_76.map fun b => ⟨b, 0, none⟩) t_7.fStrokes.length cap_77)]⟩, ⟨(some b_83), 58, row encU32 t_8.1.1 []⟩, ⟨o_113, 176, row encGHammer t_10.fHammers sp_115⟩] 5 (by kernel_rfl) (by kernel_rfl) ?_
            refine jd_f [⟨0, 7, 0⟩, ⟨1, 1, 0⟩] 3 (by kernel_rfl) (by kernel_rfl) (fun w h => h.pick [0, 1, 2, 3, 4, 5, 6, 7, 8, 9] (by kernel_rfl) (by kernel_rfl)) (by kernel_rfl) (by kernel_rfl) ?_
            obtain ⟨t_12, ht_132, h⟩ := bd h
            refine toD 2 (by kernel_rfl) (p_call 0 27 #[(.agg #[(.slice aW1_fPins_a aW1.fPins.length aW1_fPins_c), (.slice aW1_fStrokes_a aW1.fStrokes.length aW1_fStrokes_c)])] (by kernel_rfl) (by kernel_rfl) (fun w hm => laws_toWear.calls aW1 w _ aW1_fPins_a aW1.fPins.length aW1_fPins_c (hm.exRow aW1_fPins_h List.not_mem_nil) rfl aW1_fStrokes_a aW1.fStrokes.length aW1_fStrokes_c (hm.exRow aW1_fStrokes_h List.not_mem_nil) rfl ht_132) ?_)
            rintro w v w' hm ⟨o_133, cap_134, sp_135, _, rfl, hs_136, ho_137, o_138, cap_139, sp_140, _, rfl, hs_141, ho_142, rfl, hm'⟩
            refine ⟨_, hm.app hm', jkD (fun w h => h.pick [0, 1, 2, 3, 4, 5, 6, 7, 8, 9] (by kernel_rfl) (by kernel_rfl)) ?_⟩
            clear hm hm'
            obtain ⟨t_13, ht_143, h⟩ := bd h
            refine toD 3 (by kernel_rfl) (p_call 0 29 #[(.agg #[(.slice (o_71.map fun b => ⟨b, 0, none⟩) t_7.fPins.length cap_72), (.slice (o_76.map fun b => ⟨b, 0, none⟩) t_7.fStrokes.length cap_77)]), (.agg #[(.slice (o_133.map fun b => ⟨b, 0, none⟩) t_12.fPins.length cap_134), (.slice (o_138.map fun b => ⟨b, 0, none⟩) t_12.fStrokes.length cap_139)])] (by kernel_rfl) (by kernel_rfl) (fun w hm => laws_eqWear.calls t_7 t_12 w _ (o_71.map fun b => ⟨b, 0, none⟩) t_7.fPins.length cap_72 (hm.ownRow (hh := 5) (o := o_71) (T := 124) (enc := encGWornPin) (xs := t_7.fPins) (sp := sp_73) (by kernel_rfl) (fun e => (ho_75 e).1) encGWornPin_len) rfl (o_76.map fun b => ⟨b, 0, none⟩) t_7.fStrokes.length cap_77 (hm.ownRow (hh := 6) (o := o_76) (T := 2) (enc := encI64) (xs := t_7.fStrokes) (sp := sp_78) (by kernel_rfl) (fun e => (ho_80 e).1) encI64_len) rfl (o_133.map fun b => ⟨b, 0, none⟩) t_12.fPins.length cap_134 (hm.ownRow (hh := 10) (o := o_133) (T := 124) (enc := encGWornPin) (xs := t_12.fPins) (sp := sp_135) (by kernel_rfl) (fun e => (ho_137 e).1) encGWornPin_len) rfl (o_138.map fun b => ⟨b, 0, none⟩) t_12.fStrokes.length cap_139 (hm.ownRow (hh := 11) (o := o_138) (T := 2) (enc := encI64) (xs := t_12.fStrokes) (sp := sp_140) (by kernel_rfl) (fun e => (ho_142 e).1) encI64_len) rfl ht_143) ?_)
            rintro w v w' hm ⟨rfl, hm'⟩
            refine ⟨_, hm.app hm', jkD (fun w h => h.pick [0, 1, 2, 3, 4, 5, 6, 7, 8, 9] (by kernel_rfl) (by kernel_rfl)) ?_⟩
            clear hm hm'
            refine jd_f [⟨4, 0, 0⟩] 0 (by kernel_rfl) (by kernel_rfl) (fun w h => h.pick [0, 1, 2, 3, 4, 5, 6, 7, 8, 9] (by kernel_rfl) (by kernel_rfl)) (by kernel_rfl) (by kernel_rfl) ?_
            refine jd_end (by kernel_rfl) ?_
            refine jx_then ?_
            refine jc_cond (!t_13) (by kernel_rfl) (fun hc_144 => ?_) (fun hc_144 => ?_)
            · replace h := ifT hc_144 h
              refine jc_seq ?_
              refine jc_region ?_
              refine jo_f [(0, 0)] (by kernel_rfl) ?_
              refine jo_end (by kernel_rfl) ?_
              refine jx_then ?_
              refine jc_ret ?_
              refine jx_thenr ?_
              obtain rfl := Option.some.inj h
              exact jx_ret [] (.bool false) [] rfl (by kernel_rfl) (by kernel_rfl) (fun w hm => ⟨rfl, hm.pick [] (by kernel_rfl) (by kernel_rfl)⟩)
            · replace h := ifF hc_144 h
              refine jc_skip ?_
              refine jx_then ?_
              refine jc_seq ?_
              refine jc_region ?_
              refine jo_f [(0, 0)] (by kernel_rfl) ?_
              refine jo_end (by kernel_rfl) ?_
              refine jx_then ?_
              refine jc_ret ?_
              obtain rfl := Option.some.inj h
              exact jx_ret [] (.bool true) [] rfl (by kernel_rfl) (by kernel_rfl) (fun w hm => ⟨rfl, hm.pick [] (by kernel_rfl) (by kernel_rfl)⟩)
end Go.Proofs.Ytdnkjgmncfhejaa
