/- Functions of the program that the laws reach: a plain function each, and that the call comes to its answer if the plain function has one. Printed by a program. -/
import Derived.Test.YtilackblefjgdaaT
import Derived.Test.YtilackblefjgdaaM0
import Derived.Test.YtilackblefjgdaaM1
import Derived.Test.YtilackblefjgdaaM2
import Derived.Test.YtilackblefjgdaaM5
namespace Go.Proofs.Ytilackblefjgdaa
open Eng
set_option linter.unusedVariables false

/-! ### spec.DrumFor -/
noncomputable def spec_DrumFor (f0 : GFrame) (t1 : List GNote) (list2 : List GChoice) : Option ((Arr 96 Int) × Int) := (spec_l07Drum f0 t1 list2).bind fun t_1 => some (t_1.1, t_1.2)
set_option maxRecDepth 100000 in
theorem spec_DrumFor.calls (f0 : GFrame) (t1 : List GNote) (list2 : List GChoice) (w : World) (r : (Arr 96 Int) × Int) (f0_fHammers_a : Option Addr) (f0_fHammers_an : Nat) (f0_fHammers_c : Nat) (f0_fHammers_h : Rw w f0_fHammers_a 2 encGHammer f0.fHammers) (f0_fHammers_hn : f0.fHammers.length = f0_fHammers_an) (t1_a : Option Addr) (t1_an : Nat) (t1_c : Nat) (t1_h : Rw w t1_a 2 encGNote t1) (t1_hn : t1.length = t1_an) (list2_a : Option Addr) (list2_an : Nat) (list2_c : Nat) (list2_h : Rw w list2_a 4 encGChoice list2) (list2_hn : list2.length = list2_an) (h : spec_DrumFor f0 t1 list2 = some r) :
    Calls Try.prog 32 #[(.agg #[(.int .i16 f0.fSteps), (.slice f0_fHammers_a f0_fHammers_an f0_fHammers_c)]), (.slice t1_a t1_an t1_c), (.slice list2_a list2_an list2_c)] w fun e w' => ∃ v, e = .returned v ∧ (v = .tuple #[(.agg (row encU32 r.1.1 []).toArray), (.int .i64 r.2)] ∧ Mem w [] [] w') := by
  subst f0_fHammers_hn t1_hn list2_hn
  rw [spec_DrumFor] at h
  refine enter (args := [(.agg #[(.int .i16 f0.fSteps), (.slice f0_fHammers_a f0.fHammers.length f0_fHammers_c)]), (.slice t1_a t1.length t1_c), (.slice list2_a list2.length list2_c)]) Try.func32 rfl Try.ntmps32 (by kernel_rfl) (L := []) (W := []) (Mem.start w) ?_
  refine jc_seq ?_
  refine jc_region ?_
  refine toO (by kernel_rfl) (p_a 0 [0] (by kernel_rfl) (fun b => by kernel_rfl) (fun b_1 => jkO ?_))
  refine toO (by kernel_rfl) (p_a 0 [0] (by kernel_rfl) (fun b => by kernel_rfl) (fun b_2 => jkO ?_))
  refine jo_f [(0, 0)] (by kernel_rfl) ?_
  refine jo_end (by kernel_rfl) ?_
  refine jx_then ?_
  refine jc_seq ?_
  refine jc_region ?_
  refine jo_f [(0, 0), (0, 0)] (by kernel_rfl) ?_
  obtain ⟨t_1, ht_3, h⟩ := bd h
  refine toO (by kernel_rfl) (p_call 0 86 #[(.pointer (some ⟨b_1, 0, none⟩)), (.slice t1_a t1.length t1_c), (.slice list2_a list2.length list2_c)] (by kernel_rfl) (by kernel_rfl) (fun w hm => spec_l07Drum.calls f0 t1 list2 w _ f0_fHammers_a f0.fHammers.length f0_fHammers_c (hm.exRow f0_fHammers_h List.not_mem_nil) rfl t1_a t1.length t1_c (hm.exRow t1_h List.not_mem_nil) rfl list2_a list2.length list2_c (hm.exRow list2_h List.not_mem_nil) rfl b_1 (hm.pass (N := [⟨some b_1, 38, [(.int .i16 f0.fSteps), (.slice f0_fHammers_a f0.fHammers.length f0_fHammers_c)]⟩]) [0] (by kernel_rfl) (by kernel_rfl)) (hm.exApart (N := [⟨some b_1, 38, [(.int .i16 f0.fSteps), (.slice f0_fHammers_a f0.fHammers.length f0_fHammers_c)]⟩]) f0_fHammers_h (fun _ => List.not_mem_nil) [0] (by kernel_rfl)) (hm.exApart (N := [⟨some b_1, 38, [(.int .i16 f0.fSteps), (.slice f0_fHammers_a f0.fHammers.length f0_fHammers_c)]⟩]) t1_h (fun _ => List.not_mem_nil) [0] (by kernel_rfl)) (hm.exApart (N := [⟨some b_1, 38, [(.int .i16 f0.fSteps), (.slice f0_fHammers_a f0.fHammers.length f0_fHammers_c)]⟩]) list2_h (fun _ => List.not_mem_nil) [0] (by kernel_rfl)) ht_3) ?_)
  rintro w v w' hm ⟨rfl, hm'⟩
  refine ⟨_, hm.appW (ps := [(0, ⟨some b_1, 38, [(.int .i16 f0.fSteps), (.slice f0_fHammers_a f0.fHammers.length f0_fHammers_c)]⟩)]) (N := []) hm' (by kernel_rfl) (by kernel_rfl), jkO ?_⟩
  clear hm hm'
  refine jo_f [(0, 0), (0, 0)] (by kernel_rfl) ?_
  refine toO (by kernel_rfl) (p_sA 0 1 b_2 96 1 67 encU32 (Arr.rep 96 0) t_1.1 (by kernel_rfl) (by kernel_rfl) (by kernel_rfl) encU32_len encU32_cell (by kernel_rfl) (jkO ?_))
  refine jo_f [(0, 0)] (by kernel_rfl) ?_
  refine jo_end (by kernel_rfl) ?_
  refine jx_then ?_
  refine jc_ret ?_
  obtain rfl := Option.some.inj h
  exact jx_retV rfl (rq_arr (b := b_2) (T' := 67) (hh := 1) (mm := 1) encU32 t_1.1 (by kernel_rfl) (by kernel_rfl) encU32_len (by kernel_rfl) (rq_tmp (by kernel_rfl) rq_nil)) (fun w hm => ⟨rfl, hm.pick [] (by kernel_rfl) (by kernel_rfl)⟩)

/-! ### impl.DrumFor -/
noncomputable def impl_DrumFor (f0 : GFrame) (t1 : List GNote) (list2 : List GChoice) : Option ((Arr 96 Int) × Int) := (impl_fitted f0 t1 list2).bind fun t_1 => (if (t_1.2.2 != 0) = true then some ((Arr.rep 96 0), t_1.2.2) else some (t_1.1, 0))
set_option maxRecDepth 100000 in
theorem impl_DrumFor.calls (f0 : GFrame) (t1 : List GNote) (list2 : List GChoice) (w : World) (r : (Arr 96 Int) × Int) (f0_fHammers_a : Option Addr) (f0_fHammers_an : Nat) (f0_fHammers_c : Nat) (f0_fHammers_h : Rw w f0_fHammers_a 2 encGHammer f0.fHammers) (f0_fHammers_hn : f0.fHammers.length = f0_fHammers_an) (t1_a : Option Addr) (t1_an : Nat) (t1_c : Nat) (t1_h : Rw w t1_a 2 encGNote t1) (t1_hn : t1.length = t1_an) (list2_a : Option Addr) (list2_an : Nat) (list2_c : Nat) (list2_h : Rw w list2_a 4 encGChoice list2) (list2_hn : list2.length = list2_an) (h : impl_DrumFor f0 t1 list2 = some r) :
    Calls Try.prog 33 #[(.agg #[(.int .i16 f0.fSteps), (.slice f0_fHammers_a f0_fHammers_an f0_fHammers_c)]), (.slice t1_a t1_an t1_c), (.slice list2_a list2_an list2_c)] w fun e w' => ∃ v, e = .returned v ∧ (v = .tuple #[(.agg (row encU32 r.1.1 []).toArray), (.int .i64 r.2)] ∧ Mem w [] [] w') := by
  subst f0_fHammers_hn t1_hn list2_hn
  rw [impl_DrumFor] at h
  refine enter (args := [(.agg #[(.int .i16 f0.fSteps), (.slice f0_fHammers_a f0.fHammers.length f0_fHammers_c)]), (.slice t1_a t1.length t1_c), (.slice list2_a list2.length list2_c)]) Try.func33 rfl Try.ntmps33 (by kernel_rfl) (L := []) (W := []) (Mem.start w) ?_
  refine jc_seq ?_
  refine jc_region ?_
  refine toO (by kernel_rfl) (p_a 0 [0] (by kernel_rfl) (fun b => by kernel_rfl) (fun b_1 => jkO ?_))
  refine toO (by kernel_rfl) (p_a 0 [0] (by kernel_rfl) (fun b => by kernel_rfl) (fun b_2 => jkO ?_))
  refine jo_f [(0, 0)] (by kernel_rfl) ?_
  refine jo_end (by kernel_rfl) ?_
  refine jx_then ?_
  refine jc_seq ?_
  refine jc_region ?_
  refine jo_f [(0, 0), (0, 0), (0, 0)] (by kernel_rfl) ?_
  obtain ⟨t_1, ht_3, h⟩ := bd h
  refine toO (by kernel_rfl) (p_call 0 83 #[(.agg #[(.int .i16 f0.fSteps), (.slice f0_fHammers_a f0.fHammers.length f0_fHammers_c)]), (.slice t1_a t1.length t1_c), (.slice list2_a list2.length list2_c)] (by kernel_rfl) (by kernel_rfl) (fun w hm => impl_fitted.calls f0 t1 list2 w _ f0_fHammers_a f0.fHammers.length f0_fHammers_c (hm.exRow f0_fHammers_h List.not_mem_nil) rfl t1_a t1.length t1_c (hm.exRow t1_h List.not_mem_nil) rfl list2_a list2.length list2_c (hm.exRow list2_h List.not_mem_nil) rfl ht_3) ?_)
  rintro w v w' hm ⟨rfl, hm'⟩
  refine ⟨_, hm.app hm', jkO ?_⟩
  clear hm hm'
  refine jo_f [(0, 0), (0, 0), (0, 0), (0, 0)] (by kernel_rfl) ?_
  refine toO (by kernel_rfl) (p_a 0 [0] (by kernel_rfl) (fun b => by kernel_rfl) (fun b_4 => jkO ?_))
  refine toO (by kernel_rfl) (p_sA 0 2 b_4 96 1 67 encU32 (Arr.rep 96 0) t_1.1 (by kernel_rfl) (by kernel_rfl) (by kernel_rfl) encU32_len encU32_cell (by kernel_rfl) (jkO ?_))
  refine jo_f [(0, 0), (0, 0)] (by kernel_rfl) ?_
  refine jo_end (by kernel_rfl) ?_
  refine jx_then ?_
  refine jc_seq ?_
  refine jc_seq ?_
  refine jc_region ?_
  refine jo_f [(0, 0), (0, 0)] (by kernel_rfl) ?_
  refine jo_end (by kernel_rfl) ?_
  refine jx_then ?_
  refine jc_cond (t_1.2.2 != 0) (by kernel_rfl) (fun hc_6 => ?_) (fun hc_6 => ?_)
  · replace h := ifT hc_6 h
    refine jc_seq ?_
    refine jc_region ?_
    refine jo_f [(0, 0), (0, 0)] (by kernel_rfl) ?_
    refine toO (by kernel_rfl) (p_sA 0 1 b_2 96 1 67 encU32 (Arr.rep 96 0) (Arr.rep 96 0) (by kernel_rfl) (by kernel_rfl) (by kernel_rfl) encU32_len encU32_cell (by kernel_rfl) (jkO ?_))
    refine jo_f [(0, 0)] (by kernel_rfl) ?_
    refine jo_end (by kernel_rfl) ?_
    refine jx_then ?_
    refine jc_ret ?_
    refine jx_thenr ?_
    obtain rfl := Option.some.inj h
    exact jx_retV rfl (rq_arr (b := b_2) (T' := 67) (hh := 1) (mm := 1) encU32 (Arr.rep 96 0) (by kernel_rfl) (by kernel_rfl) encU32_len (by kernel_rfl) (rq_tmp (by kernel_rfl) rq_nil)) (fun w hm => ⟨rfl, hm.pick [] (by kernel_rfl) (by kernel_rfl)⟩)
  · replace h := ifF hc_6 h
    refine jc_skip ?_
    refine jx_then ?_
    refine jc_seq ?_
    refine jc_region ?_
    refine toO (by kernel_rfl) (p_ldA 0 2 b_4 96 1 67 encU32 t_1.1 (by kernel_rfl) (by kernel_rfl) (by kernel_rfl) encU32_len (by kernel_rfl) (jkO ?_))
    refine toO (by kernel_rfl) (p_sA 0 1 b_2 96 1 67 encU32 (Arr.rep 96 0) t_1.1 (by kernel_rfl) (by kernel_rfl) (by kernel_rfl) encU32_len encU32_cell (by kernel_rfl) (jkO ?_))
    refine jo_f [(0, 0)] (by kernel_rfl) ?_
    refine jo_end (by kernel_rfl) ?_
    refine jx_then ?_
    refine jc_ret ?_
    obtain rfl := Option.some.inj h
    exact jx_retV rfl (rq_arr (b := b_2) (T' := 67) (hh := 1) (mm := 1) encU32 t_1.1 (by kernel_rfl) (by kernel_rfl) encU32_len (by kernel_rfl) (rq_tmp (by kernel_rfl) rq_nil)) (fun w hm => ⟨rfl, hm.pick [] (by kernel_rfl) (by kernel_rfl)⟩)

/-! ### laws.eqDrum -/
noncomputable def laws_eqDrum.k_1 : Option (Bool) := some true
noncomputable def laws_eqDrum.l_3 (a0 : Arr 96 Int) (b1 : Arr 96 Int) : Int → Option ((Int) ⊕ (Bool ⊕ Unit))
  | i_2 => (if (decide (i_2 < 96)) = true then (ix a0.1 i_2).bind fun x_5 => (ix b1.1 i_2).bind fun x_6 => (if (x_5 != x_6) = true then some (.inr (.inl false)) else some (.inl (w64 (i_2 + 1)))) else some (.inr (.inr ())))
noncomputable def laws_eqDrum (a0 : Arr 96 Int) (b1 : Arr 96 Int) : Option (Bool) := (loop (laws_eqDrum.l_3 a0 b1) 0).bind fun t_4 => match t_4 with | .inl p => some p | .inr p => laws_eqDrum.k_1
set_option maxRecDepth 100000 in
theorem laws_eqDrum.calls (a0 : Arr 96 Int) (b1 : Arr 96 Int) (w : World) (r : Bool) (h : laws_eqDrum a0 b1 = some r) :
    Calls Try.prog 34 #[(.agg (row encU32 a0.1 []).toArray), (.agg (row encU32 b1.1 []).toArray)] w fun e w' => ∃ v, e = .returned v ∧ (v = (.bool r) ∧ Mem w [] [] w') := by
  rw [laws_eqDrum] at h
  refine enter (args := [(.agg (row encU32 a0.1 []).toArray), (.agg (row encU32 b1.1 []).toArray)]) Try.func34 rfl Try.ntmps34 (by kernel_rfl) (L := []) (W := []) (Mem.start w) ?_
  refine jc_seq ?_
  refine jc_region ?_
  refine toO (by kernel_rfl) (p_a 0 [0] (by kernel_rfl) (fun b => by kernel_rfl) (fun b_1 => jkO ?_))
  refine toO (by kernel_rfl) (p_a 0 [0] (by kernel_rfl) (fun b => by kernel_rfl) (fun b_2 => jkO ?_))
  refine jo_f [(0, 0)] (by kernel_rfl) ?_
  refine jo_end (by kernel_rfl) ?_
  refine jx_then ?_
  refine jc_seq ?_
  refine jc_seq ?_
  refine jc_region ?_
  refine jo_f [(0, 0)] (by kernel_rfl) ?_
  refine jo_end (by kernel_rfl) ?_
  refine jx_then ?_
  refine jc_meet (fun (_ : Unit) => laws_eqDrum.k_1 = some r) (fun (_ : Unit) => [(4, [], (.bool false))]) (fun (_ : Unit) => [⟨(some b_1), 67, row encU32 a0.1 []⟩, ⟨(some b_2), 67, row encU32 b1.1 []⟩]) ?_ ?_
  · refine jc_block ?_
    obtain ⟨t_4, ht_42, hr_33⟩ := bd h
    refine jc_loop (fun (s : Int) (x : Unit) => match s, x with | i_2, _ => True) (fun (s : Int) (x : Unit) => match s, x with | i_2, _ => [(2, [], (.pointer (some ⟨b_1, 0, none⟩))), (3, [], (.pointer (some ⟨b_2, 0, none⟩))), (4, [], (.bool false)), (5, [], (.int .i64 i_2))]) (fun (s : Int) (x : Unit) => match s, x with | i_2, _ => [⟨(some b_1), 67, row encU32 a0.1 []⟩, ⟨(some b_2), 67, row encU32 b1.1 []⟩]) ht_42 () trivial (by kernel_rfl) [0, 1] (by kernel_rfl) (by kernel_rfl) ?_
    rintro i_2 _ y_34 _ h
    rw [laws_eqDrum.l_3] at h
    refine jc_seq ?_
    refine jc_seq ?_
    refine jc_region ?_
    refine jo_f [(0, 0), (0, 0)] (by kernel_rfl) ?_
    refine jo_end (by kernel_rfl) ?_
    refine jx_then ?_
    refine jc_cond (decide (i_2 < 96)) (by kernel_rfl) (fun hc_36 => ?_) (fun hc_36 => ?_)
    · replace h := ifT hc_36 h
      refine jc_skip ?_
      refine jx_then ?_
      refine jc_seq ?_
      refine jc_block ?_
      refine jc_seq ?_
      refine jc_draw [⟨(some b_1), 67, row encU32 a0.1 []⟩, ⟨(some b_2), 67, row encU32 b1.1 []⟩] 7 (by kernel_rfl) (by kernel_rfl) ?_
      refine jd_f [⟨0, 0, 0⟩, ⟨3, 0, 0⟩] 5 (by kernel_rfl) (by kernel_rfl) (fun w h => h.pick [0, 1] (by kernel_rfl) (by kernel_rfl)) (by kernel_rfl) (by kernel_rfl) ?_
      obtain ⟨x_5, hx_37, h⟩ := bd h
      refine jd_v 1 0 (by kernel_rfl) (fun w h => h.pick [0, 1] (by kernel_rfl) (by kernel_rfl)) (by kernel_rfl) (by kernel_rfl) _ (fun w hm => idx_run (a := (some ⟨b_1, 0, none⟩)) (len := 96) (s := 1) (j := i_2) (by kernel_rfl) (ix_some hx_37).1 (ltn hx_37 a0.2) rfl) ?_
      refine jd_v 2 0 (by kernel_rfl) (fun w h => h.pick [0, 1] (by kernel_rfl) (by kernel_rfl)) (by kernel_rfl) (by kernel_rfl) _ (fun w hm => ld_run (b := aB (some ⟨b_1, 0, none⟩)) (off := (aO (some ⟨b_1, 0, none⟩) + i_2.toNat * 1)) (s := 1) (agg := false) (vs := (encU32 x_5)) (by kernel_rfl) (by kernel_rfl) (.inr rfl) ((hm.ownRow (hh := 0) (o := (some b_1)) (T := 67) (enc := encU32) (xs := a0.1) (sp := []) (by kernel_rfl) (fun e => nomatch e) encU32_len).at hx_37)) ?_
      obtain ⟨x_6, hx_38, h⟩ := bd h
      refine jd_v 4 0 (by kernel_rfl) (fun w h => h.pick [0, 1] (by kernel_rfl) (by kernel_rfl)) (by kernel_rfl) (by kernel_rfl) _ (fun w hm => idx_run (a := (some ⟨b_2, 0, none⟩)) (len := 96) (s := 1) (j := i_2) (by kernel_rfl) (ix_some hx_38).1 (ltn hx_38 b1.2) rfl) ?_
      refine jd_v 5 0 (by kernel_rfl) (fun w h => h.pick [0, 1] (by kernel_rfl) (by kernel_rfl)) (by kernel_rfl) (by kernel_rfl) _ (fun w hm => ld_run (b := aB (some ⟨b_2, 0, none⟩)) (off := (aO (some ⟨b_2, 0, none⟩) + i_2.toNat * 1)) (s := 1) (agg := false) (vs := (encU32 x_6)) (by kernel_rfl) (by kernel_rfl) (.inr rfl) ((hm.ownRow (hh := 1) (o := (some b_2)) (T := 67) (enc := encU32) (xs := b1.1) (sp := []) (by kernel_rfl) (fun e => nomatch e) encU32_len).at hx_38)) ?_
      refine jd_f [⟨6, 0, 0⟩] 0 (by kernel_rfl) (by kernel_rfl) (fun w h => h.pick [0, 1] (by kernel_rfl) (by kernel_rfl)) (by kernel_rfl) (by kernel_rfl) ?_
      refine jd_end (by kernel_rfl) ?_
      refine jx_then ?_
      refine jc_cond (x_5 != x_6) (by kernel_rfl) (fun hc_39 => ?_) (fun hc_39 => ?_)
      · replace h := ifT hc_39 h
        refine jc_seq ?_
        refine jc_region ?_
        refine jo_f [(0, 0)] (by kernel_rfl) ?_
        refine jo_end (by kernel_rfl) ?_
        refine jx_then ?_
        refine jc_ret ?_
        refine jx_inr ?_
        refine jx_thenr ?_
        refine jx_leaver (.inl false) (Option.some.inj h).symm (fun e_40 => ?_)
        subst e_40
        refine jx_inr ?_
        refine jx_thenr ?_
        refine jx_thenr ?_
        obtain rfl := Option.some.inj hr_33
        exact jx_ret [] (.bool false) [] rfl (by kernel_rfl) (by kernel_rfl) (fun w hm => ⟨rfl, hm.pick [] (by kernel_rfl) (by kernel_rfl)⟩)
      · replace h := ifF hc_39 h
        refine jc_skip ?_
        refine jx_inn ?_
        refine jx_then ?_
        refine jc_region ?_
        refine jo_f [(0, 0), (0, 0), (0, 0)] (by kernel_rfl) ?_
        refine jo_end (by kernel_rfl) ?_
        exact jx_back (w64 (i_2 + 1)) () (Option.some.inj h).symm trivial [0, 1] (by kernel_rfl) (by kernel_rfl) (by kernel_rfl)
    · replace h := ifF hc_36 h
      refine jc_exit ?_
      refine jx_thenx ?_
      refine jx_leave (.inr ()) (Option.some.inj h).symm (fun e_41 => ?_)
      subst e_41
      refine jx_ine ?_
      exact jx_meet () hr_33 (by kernel_rfl) [0, 1] (by kernel_rfl) (by kernel_rfl)
  · rintro _ h
    replace h : laws_eqDrum.k_1 = some r := h
    rw [laws_eqDrum.k_1] at h
    refine jx_then ?_
    refine jc_seq ?_
    refine jc_region ?_
    refine jo_f [(0, 0)] (by kernel_rfl) ?_
    refine jo_end (by kernel_rfl) ?_
    refine jx_then ?_
    refine jc_ret ?_
    obtain rfl := Option.some.inj h
    exact jx_ret [] (.bool true) [] rfl (by kernel_rfl) (by kernel_rfl) (fun w hm => ⟨rfl, hm.pick [] (by kernel_rfl) (by kernel_rfl)⟩)

/-! ### laws.FnExactDrumFor -/
noncomputable def laws_FnExactDrumFor (aF0 : GFrame) (aT1 : List GNote) (aList2 : List GChoice) : Option (Bool) := (laws_szFrame aF0 1048576).bind fun t_1 => (if (decide (t_1 < 0)) = true then some true else (laws_szTune aT1 t_1).bind fun t_2 => (if (decide (t_2 < 0)) = true then some true else (laws_szChoiceS aList2 t_2).bind fun t_3 => (if (decide (t_3 < 0)) = true then some true else (laws_toFrame aF0).bind fun t_4 => (laws_toTune aT1).bind fun t_5 => (laws_toChoiceS aList2).bind fun t_6 => (spec_DrumFor t_4 t_5 t_6).bind fun t_7 => (laws_toFrame aF0).bind fun t_8 => (laws_toTune aT1).bind fun t_9 => (laws_toChoiceS aList2).bind fun t_10 => (impl_DrumFor t_8 t_9 t_10).bind fun t_11 => (laws_eqDrum t_11.1 t_7.1).bind fun t_12 => (if ((!t_12) || (t_11.2 != t_7.2)) = true then some false else (laws_toFrame aF0).bind fun t_13 => (laws_eqFrame t_8 t_13).bind fun t_14 => (if (!t_14) = true then some false else (laws_toTune aT1).bind fun t_15 => (laws_eqTune t_9 t_15).bind fun t_16 => (if (!t_16) = true then some false else (laws_toChoiceS aList2).bind fun t_17 => (laws_eqChoiceS t_10 t_17).bind fun t_18 => (if (!t_18) = true then some false else some true)))))))
set_option maxRecDepth 100000 in
set_option maxHeartbeats 8000000 in
theorem laws_FnExactDrumFor.calls (aF0 : GFrame) (aT1 : List GNote) (aList2 : List GChoice) (w : World) (r : Bool) (aF0_fHammers_a : Option Addr) (aF0_fHammers_an : Nat) (aF0_fHammers_c : Nat) (aF0_fHammers_h : Rw w aF0_fHammers_a 2 encGHammer aF0.fHammers) (aF0_fHammers_hn : aF0.fHammers.length = aF0_fHammers_an) (aT1_a : Option Addr) (aT1_an : Nat) (aT1_c : Nat) (aT1_h : Rw w aT1_a 2 encGNote aT1) (aT1_hn : aT1.length = aT1_an) (aList2_a : Option Addr) (aList2_an : Nat) (aList2_c : Nat) (aList2_h : Rw w aList2_a 4 encGChoice aList2) (aList2_hn : aList2.length = aList2_an) (h : laws_FnExactDrumFor aF0 aT1 aList2 = some r) :
    Calls Try.prog 6 #[(.agg #[(.int .i16 aF0.fSteps), (.slice aF0_fHammers_a aF0_fHammers_an aF0_fHammers_c)]), (.slice aT1_a aT1_an aT1_c), (.slice aList2_a aList2_an aList2_c)] w fun e w' => ∃ v, e = .returned v ∧ (v = (.bool r) ∧ Mem w [] [] w') := by
  subst aF0_fHammers_hn aT1_hn aList2_hn
  rw [laws_FnExactDrumFor] at h
  refine enter (args := [(.agg #[(.int .i16 aF0.fSteps), (.slice aF0_fHammers_a aF0.fHammers.length aF0_fHammers_c)]), (.slice aT1_a aT1.length aT1_c), (.slice aList2_a aList2.length aList2_c)]) Try.func6 rfl Try.ntmps6 (by kernel_rfl) (L := []) (W := []) (Mem.start w) ?_
  refine jc_seq ?_
  refine jc_region ?_
  refine toO (by kernel_rfl) (p_a 0 [0] (by kernel_rfl) (fun b => by kernel_rfl) (fun b_1 => jkO ?_))
  refine jo_f [(0, 0)] (by kernel_rfl) ?_
  refine jo_end (by kernel_rfl) ?_
  refine jx_then ?_
  refine jc_seq ?_
  refine jc_region ?_
  refine jo_f [(0, 0)] (by kernel_rfl) ?_
  refine jo_end (by kernel_rfl) ?_
  refine jx_then ?_
  refine jc_seq ?_
  refine jc_region ?_
  refine jo_f [(0, 0), (0, 0)] (by kernel_rfl) ?_
  obtain ⟨t_1, ht_2, h⟩ := bd h
  refine toO (by kernel_rfl) (p_call 0 13 #[(.agg #[(.int .i16 aF0.fSteps), (.slice aF0_fHammers_a aF0.fHammers.length aF0_fHammers_c)]), (.int .i64 1048576)] (by kernel_rfl) (by kernel_rfl) (fun w hm => laws_szFrame.calls aF0 1048576 w _ aF0_fHammers_a aF0.fHammers.length aF0_fHammers_c (hm.exRow aF0_fHammers_h List.not_mem_nil) rfl ht_2) ?_)
  rintro w v w' hm ⟨rfl, hm'⟩
  refine ⟨_, hm.app hm', jkO ?_⟩
  clear hm hm'
  refine jo_f [(0, 0)] (by kernel_rfl) ?_
  refine jo_end (by kernel_rfl) ?_
  refine jx_then ?_
  refine jc_seq ?_
  refine jc_seq ?_
  refine jc_region ?_
  refine jo_f [(0, 0), (0, 0)] (by kernel_rfl) ?_
  refine jo_end (by kernel_rfl) ?_
  refine jx_then ?_
  refine jc_cond (decide (t_1 < 0)) (by kernel_rfl) (fun hc_4 => ?_) (fun hc_4 => ?_)
  · replace h := ifT hc_4 h
    refine jc_seq ?_
    refine jc_region ?_
    refine jo_f [(0, 0)] (by kernel_rfl) ?_
    refine jo_end (by kernel_rfl) ?_
    refine jx_then ?_
    refine jc_ret ?_
    refine jx_thenr ?_
    obtain rfl := Option.some.inj h
    exact jx_ret [] (.bool true) [] rfl (by kernel_rfl) (by kernel_rfl) (fun w hm => ⟨rfl, hm.pick [] (by kernel_rfl) (by kernel_rfl)⟩)
  · replace h := ifF hc_4 h
    refine jc_skip ?_
    refine jx_then ?_
    refine jc_seq ?_
    refine jc_region ?_
    refine jo_f [(0, 0), (0, 0)] (by kernel_rfl) ?_
    obtain ⟨t_2, ht_5, h⟩ := bd h
    refine toO (by kernel_rfl) (p_call 0 22 #[(.slice aT1_a aT1.length aT1_c), (.int .i64 t_1)] (by kernel_rfl) (by kernel_rfl) (fun w hm => laws_szTune.calls aT1 t_1 w _ aT1_a aT1.length aT1_c (hm.exRow aT1_h List.not_mem_nil) rfl ht_5) ?_)
    rintro w v w' hm ⟨rfl, hm'⟩
    refine ⟨_, hm.app hm', jkO ?_⟩
    clear hm hm'
    refine jo_f [(0, 0)] (by kernel_rfl) ?_
    refine jo_end (by kernel_rfl) ?_
    refine jx_then ?_
    refine jc_seq ?_
    refine jc_seq ?_
    refine jc_region ?_
    refine jo_f [(0, 0), (0, 0)] (by kernel_rfl) ?_
    refine jo_end (by kernel_rfl) ?_
    refine jx_then ?_
    refine jc_cond (decide (t_2 < 0)) (by kernel_rfl) (fun hc_7 => ?_) (fun hc_7 => ?_)
    · replace h := ifT hc_7 h
      refine jc_seq ?_
      refine jc_region ?_
      refine jo_f [(0, 0)] (by kernel_rfl) ?_
      refine jo_end (by kernel_rfl) ?_
      refine jx_then ?_
      refine jc_ret ?_
      refine jx_thenr ?_
      obtain rfl := Option.some.inj h
      exact jx_ret [] (.bool true) [] rfl (by kernel_rfl) (by kernel_rfl) (fun w hm => ⟨rfl, hm.pick [] (by kernel_rfl) (by kernel_rfl)⟩)
    · replace h := ifF hc_7 h
      refine jc_skip ?_
      refine jx_then ?_
      refine jc_seq ?_
      refine jc_region ?_
      refine jo_f [(0, 0), (0, 0)] (by kernel_rfl) ?_
      obtain ⟨t_3, ht_8, h⟩ := bd h
      refine toO (by kernel_rfl) (p_call 0 23 #[(.slice aList2_a aList2.length aList2_c), (.int .i64 t_2)] (by kernel_rfl) (by kernel_rfl) (fun w hm => laws_szChoiceS.calls aList2 t_2 w _ aList2_a aList2.length aList2_c (hm.exRow aList2_h List.not_mem_nil) rfl ht_8) ?_)
      rintro w v w' hm ⟨rfl, hm'⟩
      refine ⟨_, hm.app hm', jkO ?_⟩
      clear hm hm'
      refine jo_f [(0, 0)] (by kernel_rfl) ?_
      refine jo_end (by kernel_rfl) ?_
      refine jx_then ?_
      refine jc_seq ?_
      refine jc_seq ?_
      refine jc_region ?_
      refine jo_f [(0, 0), (0, 0)] (by kernel_rfl) ?_
      refine jo_end (by kernel_rfl) ?_
      refine jx_then ?_
      refine jc_cond (decide (t_3 < 0)) (by kernel_rfl) (fun hc_10 => ?_) (fun hc_10 => ?_)
      · replace h := ifT hc_10 h
        refine jc_seq ?_
        refine jc_region ?_
        refine jo_f [(0, 0)] (by kernel_rfl) ?_
        refine jo_end (by kernel_rfl) ?_
        refine jx_then ?_
        refine jc_ret ?_
        refine jx_thenr ?_
        obtain rfl := Option.some.inj h
        exact jx_ret [] (.bool true) [] rfl (by kernel_rfl) (by kernel_rfl) (fun w hm => ⟨rfl, hm.pick [] (by kernel_rfl) (by kernel_rfl)⟩)
      · replace h := ifF hc_10 h
        refine jc_skip ?_
        refine jx_then ?_
        refine jc_seq ?_
        refine jc_region ?_
        refine jo_f [(0, 0)] (by kernel_rfl) ?_
        obtain ⟨t_4, ht_11, h⟩ := bd h
        refine toO (by kernel_rfl) (p_call 0 16 #[(.agg #[(.int .i16 aF0.fSteps), (.slice aF0_fHammers_a aF0.fHammers.length aF0_fHammers_c)])] (by kernel_rfl) (by kernel_rfl) (fun w hm => laws_toFrame.calls aF0 w _ aF0_fHammers_a aF0.fHammers.length aF0_fHammers_c (hm.exRow aF0_fHammers_h List.not_mem_nil) rfl ht_11) ?_)
        rintro w v w' hm ⟨o_12, cap_13, sp_14, _, rfl, hs_15, ho_16, rfl, hm'⟩
        refine ⟨_, hm.app hm', jkO ?_⟩
        clear hm hm'
        refine jo_f [(0, 0)] (by kernel_rfl) ?_
        obtain ⟨t_5, ht_17, h⟩ := bd h
        refine toO (by kernel_rfl) (p_call 0 25 #[(.slice aT1_a aT1.length aT1_c)] (by kernel_rfl) (by kernel_rfl) (fun w hm => laws_toTune.calls aT1 w _ aT1_a aT1.length aT1_c (hm.exRow aT1_h List.not_mem_nil) rfl ht_17) ?_)
        rintro w v w' hm ⟨o_18, cap_19, sp_20, _, rfl, hs_21, ho_22, rfl, hm'⟩
        refine ⟨_, hm.app hm', jkO ?_⟩
        clear hm hm'
        refine jo_f [(0, 0)] (by kernel_rfl) ?_
        obtain ⟨t_6, ht_23, h⟩ := bd h
        refine toO (by kernel_rfl) (p_call 0 26 #[(.slice aList2_a aList2.length aList2_c)] (by kernel_rfl) (by kernel_rfl) (fun w hm => laws_toChoiceS.calls aList2 w _ aList2_a aList2.length aList2_c (hm.exRow aList2_h List.not_mem_nil) rfl ht_23) ?_)
        rintro w v w' hm ⟨o_24, cap_25, sp_26, _, rfl, hs_27, ho_28, rfl, hm'⟩
        refine ⟨_, hm.app hm', jkO ?_⟩
        clear hm hm'
        obtain ⟨t_7, ht_29, h⟩ := bd h
        refine toO (by kernel_rfl) (p_call 0 32 #[(.agg #[(.int .i16 t_4.fSteps), (.slice (o_12.map fun b => ⟨b, 0, none⟩) t_4.fHammers.length cap_13)]), (.slice (o_18.map fun b => ⟨b, 0, none⟩) t_5.length cap_19), (.slice (o_24.map fun b => ⟨b, 0, none⟩) t_6.length cap_25)] (by kernel_rfl) (by kernel_rfl) (fun w hm => spec_DrumFor.calls t_4 t_5 t_6 w _ (o_12.map fun b => ⟨b, 0, none⟩) t_4.fHammers.length cap_13 (hm.ownRow (hh := 1) (o := o_12) (T := 178) (enc := encGHammer) (xs := t_4.fHammers) (sp := sp_14) (by kernel_rfl) (fun e => (ho_16 e).1) encGHammer_len) rfl (o_18.map fun b => ⟨b, 0, none⟩) t_5.length cap_19 (hm.ownRow (hh := 2) (o := o_18) (T := 126) (enc := encGNote) (xs := t_5) (sp := sp_20) (by kernel_rfl) (fun e => (ho_22 e).1) encGNote_len) rfl (o_24.map fun b => ⟨b, 0, none⟩) t_6.length cap_25 (hm.ownRow (hh := 3) (o := o_24) (T := 130) (enc := encGChoice) (xs := t_6) (sp := sp_26) (by kernel_rfl) (fun e => (ho_28 e).1) encGChoice_len) rfl ht_29) ?_)
        rintro w v w' hm ⟨rfl, hm'⟩
        refine ⟨_, hm.app hm', jkO ?_⟩
        clear hm hm'
        refine jo_f [(0, 0), (0, 0), (0, 0)] (by kernel_rfl) ?_
        refine toO (by kernel_rfl) (p_a 0 [0] (by kernel_rfl) (fun b => by kernel_rfl) (fun b_30 => jkO ?_))
        refine toO (by kernel_rfl) (p_sA 0 4 b_30 96 1 67 encU32 (Arr.rep 96 0) t_7.1 (by kernel_rfl) (by kernel_rfl) (by kernel_rfl) encU32_len encU32_cell (by kernel_rfl) (jkO ?_))
        refine jo_f [(0, 0)] (by kernel_rfl) ?_
        refine jo_end (by kernel_rfl) ?_
        refine jx_then ?_
        refine jc_seq ?_
        refine jc_region ?_
        refine jo_f [(0, 0)] (by kernel_rfl) ?_
        obtain ⟨t_8, ht_31, h⟩ := bd h
        refine toO (by kernel_rfl) (p_call 0 16 #[(.agg #[(.int .i16 aF0.fSteps), (.slice aF0_fHammers_a aF0.fHammers.length aF0_fHammers_c)])] (by kernel_rfl) (by kernel_rfl) (fun w hm => laws_toFrame.calls aF0 w _ aF0_fHammers_a aF0.fHammers.length aF0_fHammers_c (hm.exRow aF0_fHammers_h List.not_mem_nil) rfl ht_31) ?_)
        rintro w v w' hm ⟨o_32, cap_33, sp_34, _, rfl, hs_35, ho_36, rfl, hm'⟩
        refine ⟨_, hm.app hm', jkO ?_⟩
        clear hm hm'
        refine toO (by kernel_rfl) (p_a 0 [0] (by kernel_rfl) (fun b => by kernel_rfl) (fun b_37 => jkO ?_))
        refine toO (by kernel_rfl) (p_s 0 [6] (by kernel_rfl) (by kernel_rfl) (jkO ?_))
        refine jo_end (by kernel_rfl) ?_
        refine jx_then ?_
        refine jc_seq ?_
        refine jc_region ?_
        refine jo_f [(0, 0)] (by kernel_rfl) ?_
        obtain ⟨t_9, ht_38, h⟩ := bd h
        refine toO (by kernel_rfl) (p_call 0 25 #[(.slice aT1_a aT1.length aT1_c)] (by kernel_rfl) (by kernel_rfl) (fun w hm => laws_toTune.calls aT1 w _ aT1_a aT1.length aT1_c (hm.exRow aT1_h List.not_mem_nil) rfl ht_38) ?_)
        rintro w v w' hm ⟨o_39, cap_40, sp_41, _, rfl, hs_42, ho_43, rfl, hm'⟩
        refine ⟨_, hm.app hm', jkO ?_⟩
        clear hm hm'
        refine jo_f [(0, 0)] (by kernel_rfl) ?_
        refine jo_end (by kernel_rfl) ?_
        refine jx_then ?_
        refine jc_seq ?_
        refine jc_region ?_
        refine jo_f [(0, 0)] (by kernel_rfl) ?_
        obtain ⟨t_10, ht_44, h⟩ := bd h
        refine toO (by kernel_rfl) (p_call 0 26 #[(.slice aList2_a aList2.length aList2_c)] (by kernel_rfl) (by kernel_rfl) (fun w hm => laws_toChoiceS.calls aList2 w _ aList2_a aList2.length aList2_c (hm.exRow aList2_h List.not_mem_nil) rfl ht_44) ?_)
        rintro w v w' hm ⟨o_45, cap_46, sp_47, _, rfl, hs_48, ho_49, rfl, hm'⟩
        refine ⟨_, hm.app hm', jkO ?_⟩
        clear hm hm'
        refine jo_f [(0, 0)] (by kernel_rfl) ?_
        refine jo_end (by kernel_rfl) ?_
        refine jx_then ?_
        refine jc_seq ?_
        refine jc_region ?_
        refine jo_f [(6, 0), (0, 0), (0, 0)] (by kernel_rfl) ?_
        obtain ⟨t_11, ht_50, h⟩ := bd h
        refine toO (by kernel_rfl) (p_call 0 33 #[(.agg #[(.int .i16 t_8.fSteps), (.slice (o_32.map fun b => ⟨b, 0, none⟩) t_8.fHammers.length cap_33)]), (.slice (o_39.map fun b => ⟨b, 0, none⟩) t_9.length cap_40), (.slice (o_45.map fun b => ⟨b, 0, none⟩) t_10.length cap_46)] (by kernel_rfl) (by kernel_rfl) (fun w hm => impl_DrumFor.calls t_8 t_9 t_10 w _ (o_32.map fun b => ⟨b, 0, none⟩) t_8.fHammers.length cap_33 (hm.ownRow (hh := 5) (o := o_32) (T := 178) (enc := encGHammer) (xs := t_8.fHammers) (sp := sp_34) (by kernel_rfl) (fun e => (ho_36 e).1) encGHammer_len) rfl (o_39.map fun b => ⟨b, 0, none⟩) t_9.length cap_40 (hm.ownRow (hh := 7) (o := o_39) (T := 126) (enc := encGNote) (xs := t_9) (sp := sp_41) (by kernel_rfl) (fun e => (ho_43 e).1) encGNote_len) rfl (o_45.map fun b => ⟨b, 0, none⟩) t_10.length cap_46 (hm.ownRow (hh := 8) (o := o_45) (T := 130) (enc := encGChoice) (xs := t_10) (sp := sp_47) (by kernel_rfl) (fun e => (ho_49 e).1) encGChoice_len) rfl ht_50) ?_)
        rintro w v w' hm ⟨rfl, hm'⟩
        refine ⟨_, hm.app hm', jkO ?_⟩
        clear hm hm'
        refine jo_f [(0, 0), (0, 0), (0, 0)] (by kernel_rfl) ?_
        refine toO (by kernel_rfl) (p_a 0 [0] (by kernel_rfl) (fun b => by kernel_rfl) (fun b_51 => jkO ?_))
        refine toO (by kernel_rfl) (p_sA 0 9 b_51 96 1 67 encU32 (Arr.rep 96 0) t_11.1 (by kernel_rfl) (by kernel_rfl) (by kernel_rfl) encU32_len encU32_cell (by kernel_rfl) (jkO ?_))
        refine jo_f [(0, 0)] (by kernel_rfl) ?_
        refine jo_end (by kernel_rfl) ?_
        refine jx_then ?_
        refine jc_seq ?_
        refine jc_seq ?_
        refine jc_region ?_
        refine toO (by kernel_rfl) (p_ldA 0 9 b_51 96 1 67 encU32 t_11.1 (by kernel_rfl) (by kernel_rfl) (by kernel_rfl) encU32_len (by kernel_rfl) (jkO ?_))
        refine toO (by kernel_rfl) (p_ldA 0 4 b_30 96 1 67 encU32 t_7.1 (by kernel_rfl) (by kernel_rfl) (by kernel_rfl) encU32_len (by kernel_rfl) (jkO ?_))
        obtain ⟨t_12, ht_56, h⟩ := bd h
        refine toO (by kernel_rfl) (p_call 0 34 #[(.agg (row encU32 t_11.1.1 []).toArray), (.agg (row encU32 t_7.1.1 []).toArray)] (by kernel_rfl) (by kernel_rfl) (fun w hm => laws_eqDrum.calls t_11.1 t_7.1 w _ ht_56) ?_)
        rintro w v w' hm ⟨rfl, hm'⟩
        refine ⟨_, hm.app hm', jkO ?_⟩
        clear hm hm'
        refine jo_f [(0, 0), (0, 0), (0, 1), (0, 1), (0, 1), (0, 0)] (by kernel_rfl) ?_
        refine jo_end (by kernel_rfl) ?_
        refine jx_then ?_
        refine jc_cond ((!t_12) || (t_11.2 != t_7.2)) (by kernel_rfl) (fun hc_57 => ?_) (fun hc_57 => ?_)
        · replace h := ifT hc_57 h
          refine jc_seq ?_
          refine jc_region ?_
          refine jo_f [(0, 0)] (by kernel_rfl) ?_
          refine jo_end (by kernel_rfl) ?_
          refine jx_then ?_
          refine jc_ret ?_
          refine jx_thenr ?_
          obtain rfl := Option.some.inj h
          exact jx_ret [] (.bool false) [] rfl (by kernel_rfl) (by kernel_rfl) (fun w hm => ⟨rfl, hm.pick [] (by kernel_rfl) (by kernel_rfl)⟩)
        · replace h := ifF hc_57 h
          refine jc_skip ?_
          refine jx_then ?_
          refine jc_seq ?_
          refine jc_seq ?_
          refine jc_draw [⟨some b_1, 25, [(.int .i16 aF0.fSteps), (.slice aF0_fHammers_a aF0.fHammers.length aF0_fHammers_c)]⟩, ⟨o_12, 178, row encGHammer t_4.fHammers sp_14⟩, ⟨o_18, 126, row encGNote t_5 sp_20⟩, ⟨o_24, 130, row encGChoice t_6 sp_26⟩, ⟨(some b_30), 67, row encU32 t_7.1.1 []⟩, ⟨o_32, 178, row encGHammer t_8.fHammers sp_34⟩, ⟨some b_37, 38, [(.int .i16 t_8.fSteps), (.slice (o_32.map fun b => ⟨b, 0, none⟩) t_8.fHammers.length cap_33)]⟩, ⟨o_39, 126, row encGNote t_9 sp_41⟩, ⟨o_45, 130, row encGChoice t_10 sp_47⟩, ⟨(some b_51), 67, row encU32 t_11.1.1 []⟩] 5 (by kernel_rfl) (by kernel_rfl) ?_
          refine jd_f [⟨0, 6, 0⟩, ⟨1, 0, 0⟩] 3 (by kernel_rfl) (by kernel_rfl) (fun w h => h.pick [0, 1, 2, 3, 4, 5, 6, 7, 8, 9] (by kernel_rfl) (by kernel_rfl)) (by kernel_rfl) (by kernel_rfl) ?_
          obtain ⟨t_13, ht_80, h⟩ := bd h
          refine toD 2 (by kernel_rfl) (p_call 0 16 #[(.agg #[(.int .i16 aF0.fSteps), (.slice aF0_fHammers_a aF0.fHammers.length aF0_fHammers_c)])] (by kernel_rfl) (by kernel_rfl) (fun w hm => laws_toFrame.calls aF0 w _ aF0_fHammers_a aF0.fHammers.length aF0_fHammers_c (hm.exRow aF0_fHammers_h List.not_mem_nil) rfl ht_80) ?_)
          rintro w v w' hm ⟨o_81, cap_82, sp_83, _, rfl, hs_84, ho_85, rfl, hm'⟩
          refine ⟨_, hm.app hm', jkD (fun w h => h.pick [0, 1, 2, 3, 4, 5, 6, 7, 8, 9] (by kernel_rfl) (by kernel_rfl)) ?_⟩
          clear hm hm'
          obtain ⟨t_14, ht_86, h⟩ := bd h
          refine toD 3 (by kernel_rfl) (p_call 0 20 #[(.agg #[(.int .i16 t_8.fSteps), (.slice (o_32.map fun b => ⟨b, 0, none⟩) t_8.fHammers.length cap_33)]), (.agg #[(.int .i16 t_13.fSteps), (.slice (o_81.map fun b => ⟨b, 0, none⟩) t_13.fHammers.length cap_82)])] (by kernel_rfl) (by kernel_rfl) (fun w hm => laws_eqFrame.calls t_8 t_13 w _ (o_32.map fun b => ⟨b, 0, none⟩) t_8.fHammers.length cap_33 (hm.ownRow (hh := 5) (o := o_32) (T := 178) (enc := encGHammer) (xs := t_8.fHammers) (sp := sp_34) (by kernel_rfl) (fun e => (ho_36 e).1) encGHammer_len) rfl (o_81.map fun b => ⟨b, 0, none⟩) t_13.fHammers.length cap_82 (hm.ownRow (hh := 10) (o := o_81) (T := 178) (enc := encGHammer) (xs := t_13.fHammers) (sp := sp_83) (by kernel_rfl) (fun e => (ho_85 e).1) encGHammer_len) rfl ht_86) ?_)
          rintro w v w' hm ⟨rfl, hm'⟩
          refine ⟨_, hm.app hm', jkD (fun w h => h.pick [0, 1, 2, 3, 4, 5, 6, 7, 8, 9] (by kernel_rfl) (by kernel_rfl)) ?_⟩
          clear hm hm'
          refine jd_f [⟨4, 0, 0⟩] 0 (by kernel_rfl) (by kernel_rfl) (fun w h => h.pick [0, 1, 2, 3, 4, 5, 6, 7, 8, 9] (by kernel_rfl) (by kernel_rfl)) (by kernel_rfl) (by kernel_rfl) ?_
          refine jd_end (by kernel_rfl) ?_
          refine jx_then ?_
          refine jc_cond (!t_14) (by kernel_rfl) (fun hc_87 => ?_) (fun hc_87 => ?_)
          · replace h := ifT hc_87 h
            refine jc_seq ?_
            refine jc_region ?_
            refine jo_f [(0, 0)] (by kernel_rfl) ?_
            refine jo_end (by kernel_rfl) ?_
            refine jx_then ?_
            refine jc_ret ?_
            refine jx_thenr ?_
            obtain rfl := Option.some.inj h
            exact jx_ret [] (.bool false) [] rfl (by kernel_rfl) (by kernel_rfl) (fun w hm => ⟨rfl, hm.pick [] (by kernel_rfl) (by kernel_rfl)⟩)
          · replace h := ifF hc_87 h
            refine jc_skip ?_
            refine jx_then ?_
            refine jc_seq ?_
            refine jc_seq ?_
            refine jc_region ?_
            refine jo_f [(0, 0), (0, 0)] (by kernel_rfl) ?_
            obtain ⟨t_15, ht_96, h⟩ := bd h
            refine toO (by kernel_rfl) (p_call 0 25 #[(.slice aT1_a aT1.length aT1_c)] (by kernel_rfl) (by kernel_rfl) (fun w hm => laws_toTune.calls aT1 w _ aT1_a aT1.length aT1_c (hm.exRow aT1_h List.not_mem_nil) rfl ht_96) ?_)
            rintro w v w' hm ⟨o_97, cap_98, sp_99, _, rfl, hs_100, ho_101, rfl, hm'⟩
            refine ⟨_, hm.app hm', jkO ?_⟩
            clear hm hm'
            obtain ⟨t_16, ht_102, h⟩ := bd h
            refine toO (by kernel_rfl) (p_call 0 28 #[(.slice (o_39.map fun b => ⟨b, 0, none⟩) t_9.length cap_40), (.slice (o_97.map fun b => ⟨b, 0, none⟩) t_15.length cap_98)] (by kernel_rfl) (by kernel_rfl) (fun w hm => laws_eqTune.calls t_9 t_15 w _ (o_39.map fun b => ⟨b, 0, none⟩) t_9.length cap_40 (hm.ownRow (hh := 7) (o := o_39) (T := 126) (enc := encGNote) (xs := t_9) (sp := sp_41) (by kernel_rfl) (fun e => (ho_43 e).1) encGNote_len) rfl (o_97.map fun b => ⟨b, 0, none⟩) t_15.length cap_98 (hm.ownRow (hh := 11) (o := o_97) (T := 126) (enc := encGNote) (xs := t_15) (sp := sp_99) (by kernel_rfl) (fun e => (ho_101 e).1) encGNote_len) rfl ht_102) ?_)
            rintro w v w' hm ⟨rfl, hm'⟩
            refine ⟨_, hm.app hm', jkO ?_⟩
            clear hm hm'
            refine jo_f [(0, 0)] (by kernel_rfl) ?_
            refine jo_end (by kernel_rfl) ?_
            refine jx_then ?_
            refine jc_cond (!t_16) (by kernel_rfl) (fun hc_103 => ?_) (fun hc_103 => ?_)
            · replace h := ifT hc_103 h
              refine jc_seq ?_
              refine jc_region ?_
              refine jo_f [(0, 0)] (by kernel_rfl) ?_
              refine jo_end (by kernel_rfl) ?_
              refine jx_then ?_
              refine jc_ret ?_
              refine jx_thenr ?_
              obtain rfl := Option.some.inj h
              exact jx_ret [] (.bool false) [] rfl (by kernel_rfl) (by kernel_rfl) (fun w hm => ⟨rfl, hm.pick [] (by kernel_rfl) (by kernel_rfl)⟩)
            · replace h := ifF hc_103 h
              refine jc_skip ?_
              refine jx_then ?_
              refine jc_seq ?_
              refine jc_seq ?_
              refine jc_region ?_
              refine jo_f [(0, 0), (0, 0)] (by kernel_rfl) ?_
              obtain ⟨t_17, ht_104, h⟩ := bd h
              refine toO (by kernel_rfl) (p_call 0 26 #[(.slice aList2_a aList2.length aList2_c)] (by kernel_rfl) (by kernel_rfl) (fun w hm => laws_toChoiceS.calls aList2 w _ aList2_a aList2.length aList2_c (hm.exRow aList2_h List.not_mem_nil) rfl ht_104) ?_)
              rintro w v w' hm ⟨o_105, cap_106, sp_107, _, rfl, hs_108, ho_109, rfl, hm'⟩
              refine ⟨_, hm.app hm', jkO ?_⟩
              clear hm hm'
              obtain ⟨t_18, ht_110, h⟩ := bd h
              refine toO (by kernel_rfl) (p_call 0 29 #[(.slice (o_45.map fun b => ⟨b, 0, none⟩) t_10.length cap_46), (.slice (o_105.map fun b => ⟨b, 0, none⟩) t_17.length cap_106)] (by kernel_rfl) (by kernel_rfl) (fun w hm => laws_eqChoiceS.calls t_10 t_17 w _ (o_45.map fun b => ⟨b, 0, none⟩) t_10.length cap_46 (hm.ownRow (hh := 8) (o := o_45) (T := 130) (enc := encGChoice) (xs := t_10) (sp := sp_47) (by kernel_rfl) (fun e => (ho_49 e).1) encGChoice_len) rfl (o_105.map fun b => ⟨b, 0, none⟩) t_17.length cap_106 (hm.ownRow (hh := 12) (o := o_105) (T := 130) (enc := encGChoice) (xs := t_17) (sp := sp_107) (by kernel_rfl) (fun e => (ho_109 e).1) encGChoice_len) rfl ht_110) ?_)
              rintro w v w' hm ⟨rfl, hm'⟩
              refine ⟨_, hm.app hm', jkO ?_⟩
              clear hm hm'
              refine jo_f [(0, 0)] (by kernel_rfl) ?_
              refine jo_end (by kernel_rfl) ?_
              refine jx_then ?_
              refine jc_cond (!t_18) (by kernel_rfl) (fun hc_111 => ?_) (fun hc_111 => ?_)
              · replace h := ifT hc_111 h
                refine jc_seq ?_
                refine jc_region ?_
                refine jo_f [(0, 0)] (by kernel_rfl) ?_
                refine jo_end (by kernel_rfl) ?_
                refine jx_then ?_
                refine jc_ret ?_
                refine jx_thenr ?_
                obtain rfl := Option.some.inj h
                exact jx_ret [] (.bool false) [] rfl (by kernel_rfl) (by kernel_rfl) (fun w hm => ⟨rfl, hm.pick [] (by kernel_rfl) (by kernel_rfl)⟩)
              · replace h := ifF hc_111 h
                refine jc_skip ?_
                refine jx_then ?_
                refine jc_seq ?_
                refine jc_region ?_
                refine jo_f [(0, 0)] (by kernel_rfl) ?_
                refine jo_end (by kernel_rfl) ?_
                refine jx_then ?_
                refine jc_ret ?_
                obtain rfl := Option.some.inj h
                exact jx_ret [] (.bool true) [] rfl (by kernel_rfl) (by kernel_rfl) (fun w hm => ⟨rfl, hm.pick [] (by kernel_rfl) (by kernel_rfl)⟩)
end Go.Proofs.Ytilackblefjgdaa
