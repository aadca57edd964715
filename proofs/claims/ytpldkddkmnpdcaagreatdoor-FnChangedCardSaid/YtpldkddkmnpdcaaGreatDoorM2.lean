/- Functions of the program that the laws reach: a plain function each, and that the call comes to its answer if the plain function has one. Printed by a program. -/
import Derived.Test.YtpldkddkmnpdcaaGreatDoorT
import Derived.Test.YtpldkddkmnpdcaaGreatDoorM0
import Derived.Test.YtpldkddkmnpdcaaGreatDoorM1
namespace Go.Proofs.YtpldkddkmnpdcaaGreatDoor
open Eng
set_option linter.unusedVariables false

set_option linter.unusedSectionVars false
variable [dsW : DrwS]

/-! ### spec.TurnedCost -/
noncomputable def spec_TurnedCost.k_4 (i_2 : Int) (i_3 : Int) : Option (Int × Int × Int) := some (i_2, i_3, 0)
noncomputable def spec_TurnedCost.k_11 (a1 : Arr 96 Int) (i_5 : Int) (i_6 : Int) (i_7 : Int) (a_10 : Arr 96 Int) : Option ((Int × Int × Int) ⊕ ((Int × Int))) := (spec_l05Cost a1 a_10).bind fun t_12 => (if ((decide (i_5 < 0)) || (decide (t_12 < i_5))) = true then some (.inl (t_12, i_7, (w64 (i_7 + 1)))) else some (.inl (i_5, i_6, (w64 (i_7 + 1)))))
noncomputable def spec_TurnedCost.l_15 (f0 : GFrame) (b2 : Arr 96 Int) (i_7 : Int) : ((Arr 96 Int) × Int) → Option (((Arr 96 Int) × Int) ⊕ ((Arr 96 Int)))
  | (a_13, i_14) => (if (decide (i_14 < (w64 f0.fSteps))) = true then (ix b2.1 i_14).bind fun x_17 => (if (w64 f0.fSteps) ≠ 0 then (ix a_13.1 (Int.tmod (w64 (i_14 + i_7)) (w64 f0.fSteps))).bind fun x_18 => some (.inl ((Arr.set a_13 (Int.tmod (w64 (i_14 + i_7)) (w64 f0.fSteps)) x_17), (w64 (i_14 + 1)))) else none) else some (.inr a_13))
noncomputable def spec_TurnedCost.l_8 (f0 : GFrame) (a1 : Arr 96 Int) (b2 : Arr 96 Int) : (Int × Int × Int) → Option ((Int × Int × Int) ⊕ ((Int × Int)))
  | (i_5, i_6, i_7) => (if (decide (i_7 < (w64 f0.fSteps))) = true then (loop (spec_TurnedCost.l_15 f0 b2 i_7) ((Arr.rep 96 0), 0)).bind fun t_16 => spec_TurnedCost.k_11 a1 i_5 i_6 i_7 t_16 else some (.inr (i_5, i_6)))
noncomputable def spec_TurnedCost (f0 : GFrame) (a1 : Arr 96 Int) (b2 : Arr 96 Int) : Option (Int × Int × Int) := (spec_l05Both f0 a1 b2).bind fun t_1 => (if (t_1 != 0) = true then some (0, 0, t_1) else (loop (spec_TurnedCost.l_8 f0 a1 b2) ((-1), 0, 0)).bind fun t_9 => spec_TurnedCost.k_4 t_9.1 t_9.2)
set_option maxRecDepth 100000 in
theorem spec_TurnedCost.calls (f0 : GFrame) (a1 : Arr 96 Int) (b2 : Arr 96 Int) (w : World) (r : Int × Int × Int) (f0_fHammers_a : Option Addr) (f0_fHammers_an : Nat) (f0_fHammers_c : Nat) (f0_fHammers_h : Rw w f0_fHammers_a 2 encGHammer f0.fHammers) (f0_fHammers_hn : f0.fHammers.length = f0_fHammers_an) (h : spec_TurnedCost f0 a1 b2 = some r) :
    Calls Tryz.prog 21 #[(.agg #[(.int .i16 f0.fSteps), (.slice f0_fHammers_a f0_fHammers_an f0_fHammers_c)]), (.agg (row encU32 a1.1 []).toArray), (.agg (row encU32 b2.1 []).toArray)] w fun e w' => ∃ v, e = .returned v ∧ (v = .tuple #[(.int .i64 r.1), (.int .i64 r.2.1), (.int .i64 r.2.2)] ∧ Mem w [] [] w') := by
  subst f0_fHammers_hn
  rw [spec_TurnedCost] at h
  refine enter (args := [(.agg #[(.int .i16 f0.fSteps), (.slice f0_fHammers_a f0.fHammers.length f0_fHammers_c)]), (.agg (row encU32 a1.1 []).toArray), (.agg (row encU32 b2.1 []).toArray)]) Tryz.func21 rfl Tryz.ntmps21 (by kernel_rfl) (L := []) (W := []) (Mem.start w) ?_
  refine jc_seq ?_
  refine jc_region ?_
  refine toO (by kernel_rfl) (p_a 0 [0] (by kernel_rfl) (fun b => by kernel_rfl) (fun b_1 => jkO ?_))
  refine toO (by kernel_rfl) (p_a 0 [0] (by kernel_rfl) (fun b => by kernel_rfl) (fun b_2 => jkO ?_))
  refine toO (by kernel_rfl) (p_a 0 [0] (by kernel_rfl) (fun b => by kernel_rfl) (fun b_3 => jkO ?_))
  refine jo_f [(0, 0), (0, 0), (0, 0)] (by kernel_rfl) ?_
  refine jo_end (by kernel_rfl) ?_
  refine jx_then ?_
  refine jc_seq ?_
  refine jc_seq ?_
  refine jc_region ?_
  obtain ⟨t_1, ht_6, h⟩ := bd h
  refine toO (by kernel_rfl) (p_call 0 66 #[(.pointer (some ⟨b_1, 0, none⟩)), (.pointer (some ⟨b_2, 0, none⟩)), (.pointer (some ⟨b_3, 0, none⟩))] (by kernel_rfl) (by kernel_rfl) (fun w hm => spec_l05Both.calls f0 a1 b2 w _ f0_fHammers_a f0.fHammers.length f0_fHammers_c (hm.exRow f0_fHammers_h List.not_mem_nil) rfl b_1 b_2 b_3 (hm.pass (N := [⟨some b_1, 27, [(.int .i16 f0.fSteps), (.slice f0_fHammers_a f0.fHammers.length f0_fHammers_c)]⟩, ⟨(some b_2), 31, row encU32 a1.1 []⟩, ⟨(some b_3), 31, row encU32 b2.1 []⟩]) [0, 1, 2] (by kernel_rfl) (by kernel_rfl)) (hm.exApart (N := [⟨some b_1, 27, [(.int .i16 f0.fSteps), (.slice f0_fHammers_a f0.fHammers.length f0_fHammers_c)]⟩, ⟨(some b_2), 31, row encU32 a1.1 []⟩, ⟨(some b_3), 31, row encU32 b2.1 []⟩]) f0_fHammers_h (fun _ => List.not_mem_nil) [0, 1, 2] (by kernel_rfl)) ht_6) ?_)
  rintro w v w' hm ⟨rfl, hm'⟩
  refine ⟨_, hm.appW (ps := [(0, ⟨some b_1, 27, [(.int .i16 f0.fSteps), (.slice f0_fHammers_a f0.fHammers.length f0_fHammers_c)]⟩), (1, ⟨(some b_2), 31, row encU32 a1.1 []⟩), (2, ⟨(some b_3), 31, row encU32 b2.1 []⟩)]) (N := []) hm' (by kernel_rfl) (by kernel_rfl), jkO ?_⟩
  clear hm hm'
  refine jo_f [(0, 0)] (by kernel_rfl) ?_
  refine jo_end (by kernel_rfl) ?_
  refine jx_then ?_
  refine jc_seq ?_
  refine jc_region ?_
  refine jo_f [(0, 0), (0, 0)] (by kernel_rfl) ?_
  refine jo_end (by kernel_rfl) ?_
  refine jx_then ?_
  refine jc_cond (t_1 != 0) (by kernel_rfl) (fun hc_7 => ?_) (fun hc_7 => ?_)
  · replace h := ifT hc_7 h
    refine jc_seq ?_
    refine jc_region ?_
    refine jo_f [(0, 0), (0, 0), (0, 0), (0, 0)] (by kernel_rfl) ?_
    refine jo_end (by kernel_rfl) ?_
    refine jx_then ?_
    refine jc_ret ?_
    refine jx_thenr ?_
    obtain rfl := Option.some.inj h
    exact jx_ret [] (.tuple #[(.int .i64 0), (.int .i64 0), (.int .i64 t_1)]) [] rfl (by kernel_rfl) (by kernel_rfl) (fun w hm => ⟨rfl, hm.pick [] (by kernel_rfl) (by kernel_rfl)⟩)
  · replace h := ifF hc_7 h
    refine jc_skip ?_
    refine jx_then ?_
    refine jc_seq ?_
    refine jc_region ?_
    refine jo_f [(0, 0)] (by kernel_rfl) ?_
    refine jo_end (by kernel_rfl) ?_
    refine jx_then ?_
    refine jc_seq ?_
    refine jc_region ?_
    refine jo_f [(0, 0)] (by kernel_rfl) ?_
    refine jo_end (by kernel_rfl) ?_
    refine jx_then ?_
    refine jc_seq ?_
    refine jc_region ?_
    refine jo_f [(0, 0), (0, 0), (0, 0), (0, 0)] (by kernel_rfl) ?_
    refine jo_end (by kernel_rfl) ?_
    refine jx_then ?_
    refine jc_seq ?_
    refine jc_seq ?_
    refine jc_region ?_
    refine jo_f [(0, 0)] (by kernel_rfl) ?_
    refine jo_end (by kernel_rfl) ?_
    refine jx_then ?_
    refine jc_meet (fun (j : Int × Int) => match j with | ⟨i_2, i_3⟩ => spec_TurnedCost.k_4 i_2 i_3 = some r) (fun (j : Int × Int) => match j with | ⟨i_2, i_3⟩ => [(6, [], (.int .i64 0)), (7, [], (.int .i64 0)), (8, [], (.int .i64 0)), (10, [], (.int .i64 i_2)), (11, [], (.int .i64 i_3))]) (fun (j : Int × Int) => match j with | ⟨i_2, i_3⟩ => [⟨some b_1, 27, [(.int .i16 f0.fSteps), (.slice f0_fHammers_a f0.fHammers.length f0_fHammers_c)]⟩, ⟨(some b_2), 31, row encU32 a1.1 []⟩, ⟨(some b_3), 31, row encU32 b2.1 []⟩]) ?_ ?_
    · refine jc_block ?_
      obtain ⟨t_9, ht_1895, hr_1775⟩ := bd h
      refine jc_loop (fun (s : Int × Int × Int) (x : Unit) => match s, x with | ⟨i_5, i_6, i_7⟩, _ => True) (fun (s : Int × Int × Int) (x : Unit) => match s, x with | ⟨i_5, i_6, i_7⟩, _ => [(4, [], (.pointer (some ⟨b_2, 0, none⟩))), (5, [], (.pointer (some ⟨b_3, 0, none⟩))), (6, [], (.int .i64 0)), (7, [], (.int .i64 0)), (8, [], (.int .i64 0)), (10, [], (.int .i64 i_5)), (11, [], (.int .i64 i_6)), (12, [], (.int .i64 (w64 f0.fSteps))), (13, [], (.int .i64 i_7))]) (fun (s : Int × Int × Int) (x : Unit) => match s, x with | ⟨i_5, i_6, i_7⟩, _ => [⟨some b_1, 27, [(.int .i16 f0.fSteps), (.slice f0_fHammers_a f0.fHammers.length f0_fHammers_c)]⟩, ⟨(some b_2), 31, row encU32 a1.1 []⟩, ⟨(some b_3), 31, row encU32 b2.1 []⟩]) ht_1895 () trivial (by kernel_rfl) [0, 1, 2] (by kernel_rfl) (by kernel_rfl) ?_
      rintro ⟨i_5, i_6, i_7⟩ _ y_1776 _ h
      rw [spec_TurnedCost.l_8] at h
      refine jc_seq ?_
      refine jc_seq ?_
      refine jc_region ?_
      refine jo_f [(0, 0), (0, 0), (0, 0)] (by kernel_rfl) ?_
      refine jo_end (by kernel_rfl) ?_
      refine jx_then ?_
      refine jc_cond (decide (i_7 < (w64 f0.fSteps))) (by kernel_rfl) (fun hc_1778 => ?_) (fun hc_1778 => ?_)
      · replace h := ifT hc_1778 h
        refine jc_skip ?_
        refine jx_then ?_
        refine jc_seq ?_
        refine jc_block ?_
        refine jc_seq ?_
        refine jc_region ?_
        refine jo_f [(0, 0)] (by kernel_rfl) ?_
        refine toO (by kernel_rfl) (p_a 0 [0] (by kernel_rfl) (fun b => by kernel_rfl) (fun b_1779 => jkO ?_))
        refine toO (by kernel_rfl) (p_sA 0 3 b_1779 96 1 31 encU32 (Arr.rep 96 0) (Arr.rep 96 0) (by kernel_rfl) (by kernel_rfl) (by kernel_rfl) encU32_len encU32_cell (by kernel_rfl) (jkO ?_))
        refine jo_end (by kernel_rfl) ?_
        refine jx_then ?_
        refine jc_seq ?_
        refine jc_seq ?_
        refine jc_region ?_
        refine jo_f [(0, 0)] (by kernel_rfl) ?_
        refine jo_end (by kernel_rfl) ?_
        refine jx_then ?_
        refine jc_meet (fun (j : (Arr 96 Int)) => match j with | a_10 => spec_TurnedCost.k_11 a1 i_5 i_6 i_7 a_10 = some y_1776) (fun (j : (Arr 96 Int)) => match j with | a_10 => [(4, [], (.pointer (some ⟨b_2, 0, none⟩))), (5, [], (.pointer (some ⟨b_3, 0, none⟩))), (6, [], (.int .i64 0)), (7, [], (.int .i64 0)), (8, [], (.int .i64 0)), (10, [], (.int .i64 i_5)), (11, [], (.int .i64 i_6)), (12, [], (.int .i64 (w64 f0.fSteps))), (13, [], (.int .i64 i_7)), (14, [], (.pointer (some ⟨b_1779, 0, none⟩)))]) (fun (j : (Arr 96 Int)) => match j with | a_10 => [⟨some b_1, 27, [(.int .i16 f0.fSteps), (.slice f0_fHammers_a f0.fHammers.length f0_fHammers_c)]⟩, ⟨(some b_2), 31, row encU32 a1.1 []⟩, ⟨(some b_3), 31, row encU32 b2.1 []⟩, ⟨(some b_1779), 31, row encU32 a_10.1 []⟩]) ?_ ?_
        · refine jc_block ?_
          obtain ⟨t_16, ht_1893, hr_1882⟩ := bd h
          refine jc_loop (fun (s : (Arr 96 Int) × Int) (x : Unit) => match s, x with | ⟨a_13, i_14⟩, _ => True) (fun (s : (Arr 96 Int) × Int) (x : Unit) => match s, x with | ⟨a_13, i_14⟩, _ => [(4, [], (.pointer (some ⟨b_2, 0, none⟩))), (5, [], (.pointer (some ⟨b_3, 0, none⟩))), (6, [], (.int .i64 0)), (7, [], (.int .i64 0)), (8, [], (.int .i64 0)), (10, [], (.int .i64 i_5)), (11, [], (.int .i64 i_6)), (12, [], (.int .i64 (w64 f0.fSteps))), (13, [], (.int .i64 i_7)), (14, [], (.pointer (some ⟨b_1779, 0, none⟩))), (15, [], (.int .i64 i_14))]) (fun (s : (Arr 96 Int) × Int) (x : Unit) => match s, x with | ⟨a_13, i_14⟩, _ => [⟨some b_1, 27, [(.int .i16 f0.fSteps), (.slice f0_fHammers_a f0.fHammers.length f0_fHammers_c)]⟩, ⟨(some b_2), 31, row encU32 a1.1 []⟩, ⟨(some b_3), 31, row encU32 b2.1 []⟩, ⟨(some b_1779), 31, row encU32 a_13.1 []⟩]) ht_1893 () trivial (by kernel_rfl) [0, 1, 2, 3] (by kernel_rfl) (by kernel_rfl) ?_
          rintro ⟨a_13, i_14⟩ _ y_1883 _ h
          rw [spec_TurnedCost.l_15] at h
          refine jc_seq ?_
          refine jc_seq ?_
          refine jc_region ?_
          refine jo_f [(0, 0), (0, 0), (0, 0)] (by kernel_rfl) ?_
          refine jo_end (by kernel_rfl) ?_
          refine jx_then ?_
          refine jc_cond (decide (i_14 < (w64 f0.fSteps))) (by kernel_rfl) (fun hc_1885 => ?_) (fun hc_1885 => ?_)
          · replace h := ifT hc_1885 h
            refine jc_skip ?_
            refine jx_then ?_
            refine jc_seq ?_
            refine jc_block ?_
            refine jc_draw [⟨some b_1, 27, [(.int .i16 f0.fSteps), (.slice f0_fHammers_a f0.fHammers.length f0_fHammers_c)]⟩, ⟨(some b_2), 31, row encU32 a1.1 []⟩, ⟨(some b_3), 31, row encU32 b2.1 []⟩] 10 (by kernel_rfl) (by kernel_rfl) ?_
            refine jd_f [⟨0, 0, 0⟩, ⟨1, 0, 0⟩, ⟨2, 0, 0⟩, ⟨3, 0, 0⟩, ⟨5, 0, 0⟩] 5 (by kernel_rfl) (by kernel_rfl) (fun w h => h.pick [0, 1, 2] (by kernel_rfl) (by kernel_rfl)) (by kernel_rfl) (by kernel_rfl) ?_
            obtain ⟨x_17, hx_1889, h⟩ := bd h
            refine jd_v 6 0 (by kernel_rfl) (fun w h => h.pick [0, 1, 2] (by kernel_rfl) (by kernel_rfl)) (by kernel_rfl) (by kernel_rfl) _ (fun w hm => idx_run (a := (some ⟨b_3, 0, none⟩)) (len := 96) (s := 1) (j := i_14) (by kernel_rfl) (ix_some hx_1889).1 (ltn hx_1889 b2.2) rfl) ?_
            refine jd_v 7 0 (by kernel_rfl) (fun w h => h.pick [0, 1, 2] (by kernel_rfl) (by kernel_rfl)) (by kernel_rfl) (by kernel_rfl) _ (fun w hm => ld_run (b := aB (some ⟨b_3, 0, none⟩)) (off := (aO (some ⟨b_3, 0, none⟩) + i_14.toNat * 1)) (s := 1) (agg := false) (vs := (encU32 x_17)) (by kernel_rfl) (by kernel_rfl) (.inr rfl) ((hm.ownRow (hh := 2) (o := (some b_3)) (T := 31) (enc := encU32) (xs := b2.1) (sp := []) (by kernel_rfl) (fun e => nomatch e) encU32_len).at hx_1889)) ?_
            obtain ⟨hg_1890, h⟩ := gd h
            refine toD 4 (by kernel_rfl) (p_rem 0 .i64 (w64 (i_14 + i_7)) (w64 f0.fSteps) (by kernel_rfl) (by kernel_rfl) hg_1890 (jkD (fun w h => h.pick [0, 1, 2] (by kernel_rfl) (by kernel_rfl)) ?_))
            obtain ⟨x_18, hx_1891, h⟩ := bd h
            refine jd_v 8 0 (by kernel_rfl) (fun w h => h.pick [0, 1, 2] (by kernel_rfl) (by kernel_rfl)) (by kernel_rfl) (by kernel_rfl) _ (fun w hm => idx_run (a := (some ⟨b_1779, 0, none⟩)) (len := 96) (s := 1) (j := (Int.tmod (w64 (i_14 + i_7)) (w64 f0.fSteps))) (by kernel_rfl) (ix_some hx_1891).1 (ltn hx_1891 a_13.2) rfl) ?_
            refine toD 9 (by kernel_rfl) (p_str 0 3 b_1779 31 encU32 a_13.1 [] (Int.tmod (w64 (i_14 + i_7)) (w64 f0.fSteps)) x_17 1 0 [(.int .u32 x_17)] (by kernel_rfl) (by kernel_rfl) (by kernel_rfl) encU32_len hx_1891 (by kernel_rfl) (by kernel_rfl) (jkD (fun w h => h.pick [0, 1, 2] (by kernel_rfl) (by kernel_rfl)) ?_))
            refine jd_end (by kernel_rfl) ?_
            refine jx_inn ?_
            refine jx_then ?_
            refine jc_region ?_
            refine jo_f [(0, 0), (0, 0), (0, 0)] (by kernel_rfl) ?_
            refine jo_end (by kernel_rfl) ?_
            exact jx_back ((Arr.set a_13 (Int.tmod (w64 (i_14 + i_7)) (w64 f0.fSteps)) x_17), (w64 (i_14 + 1))) () (Option.some.inj h).symm trivial [0, 1, 2, 3] (by kernel_rfl) (by kernel_rfl) (by kernel_rfl)
          · replace h := ifF hc_1885 h
            refine jc_exit ?_
            refine jx_thenx ?_
            refine jx_leave a_13 (Option.some.inj h).symm (fun e_1892 => ?_)
            subst e_1892
            refine jx_ine ?_
            exact jx_meet a_13 hr_1882 (by kernel_rfl) [0, 1, 2, 3] (by kernel_rfl) (by kernel_rfl)
        · rintro a_10 h
          replace h : spec_TurnedCost.k_11 a1 i_5 i_6 i_7 a_10 = some y_1776 := h
          rw [spec_TurnedCost.k_11] at h
          refine jx_then ?_
          refine jc_seq ?_
          refine jc_region ?_
          obtain ⟨t_12, ht_1864, h⟩ := bd h
          refine toO (by kernel_rfl) (p_call 0 86 #[(.pointer (some ⟨b_2, 0, none⟩)), (.pointer (some ⟨b_1779, 0, none⟩))] (by kernel_rfl) (by kernel_rfl) (fun w hm => spec_l05Cost.calls a1 a_10 w _ b_2 b_1779 (hm.pass (N := [⟨(some b_2), 31, row encU32 a1.1 []⟩, ⟨(some b_1779), 31, row encU32 a_10.1 []⟩]) [1, 3] (by kernel_rfl) (by kernel_rfl)) ht_1864) ?_)
          rintro w v w' hm ⟨rfl, hm'⟩
          refine ⟨_, hm.appW (ps := [(1, ⟨(some b_2), 31, row encU32 a1.1 []⟩), (3, ⟨(some b_1779), 31, row encU32 a_10.1 []⟩)]) (N := []) hm' (by kernel_rfl) (by kernel_rfl), jkO ?_⟩
          clear hm hm'
          refine jo_f [(0, 0)] (by kernel_rfl) ?_
          refine jo_end (by kernel_rfl) ?_
          refine jx_then ?_
          refine jc_seq ?_
          refine jc_region ?_
          refine jo_f [(0, 0), (0, 0), (0, 0), (0, 1), (0, 1), (0, 1), (0, 0)] (by kernel_rfl) ?_
          refine jo_end (by kernel_rfl) ?_
          refine jx_then ?_
          refine jc_cond ((decide (i_5 < 0)) || (decide (t_12 < i_5))) (by kernel_rfl) (fun hc_1865 => ?_) (fun hc_1865 => ?_)
          · replace h := ifT hc_1865 h
            refine jc_seq ?_
            refine jc_region ?_
            refine jo_f [(0, 0), (0, 0)] (by kernel_rfl) ?_
            refine jo_end (by kernel_rfl) ?_
            refine jx_then ?_
            refine jc_region ?_
            refine jo_f [(0, 0), (0, 0)] (by kernel_rfl) ?_
            refine jo_end (by kernel_rfl) ?_
            refine jx_inn ?_
            refine jx_then ?_
            refine jc_region ?_
            refine jo_f [(0, 0), (0, 0), (0, 0)] (by kernel_rfl) ?_
            refine jo_end (by kernel_rfl) ?_
            exact jx_back (t_12, i_7, (w64 (i_7 + 1))) () (Option.some.inj h).symm trivial [0, 1, 2] (by kernel_rfl) (by kernel_rfl) (by kernel_rfl)
          · replace h := ifF hc_1865 h
            refine jc_skip ?_
            refine jx_inn ?_
            refine jx_then ?_
            refine jc_region ?_
            refine jo_f [(0, 0), (0, 0), (0, 0)] (by kernel_rfl) ?_
            refine jo_end (by kernel_rfl) ?_
            exact jx_back (i_5, i_6, (w64 (i_7 + 1))) () (Option.some.inj h).symm trivial [0, 1, 2] (by kernel_rfl) (by kernel_rfl) (by kernel_rfl)
      · replace h := ifF hc_1778 h
        refine jc_exit ?_
        refine jx_thenx ?_
        refine jx_leave (i_5, i_6) (Option.some.inj h).symm (fun e_1894 => ?_)
        subst e_1894
        refine jx_ine ?_
        exact jx_meet ⟨i_5, i_6⟩ hr_1775 (by kernel_rfl) [0, 1, 2] (by kernel_rfl) (by kernel_rfl)
    · rintro ⟨i_2, i_3⟩ h
      replace h : spec_TurnedCost.k_4 i_2 i_3 = some r := h
      rw [spec_TurnedCost.k_4] at h
      refine jx_then ?_
      refine jc_seq ?_
      refine jc_region ?_
      refine jo_f [(0, 0), (0, 0), (0, 0), (0, 0), (0, 0)] (by kernel_rfl) ?_
      refine jo_end (by kernel_rfl) ?_
      refine jx_then ?_
      refine jc_ret ?_
      obtain rfl := Option.some.inj h
      exact jx_ret [] (.tuple #[(.int .i64 i_2), (.int .i64 i_3), (.int .i64 0)]) [] rfl (by kernel_rfl) (by kernel_rfl) (fun w hm => ⟨rfl, hm.pick [] (by kernel_rfl) (by kernel_rfl)⟩)

/-! ### impl.TurnDrum -/
noncomputable def impl_TurnDrum (f0 : GFrame) (d1 : Arr 96 Int) (by2 : Int) : Option ((Arr 96 Int) × Int) := (impl_placeCode f0 d1 by2 0).bind fun t_1 => (if (t_1 != 0) = true then some ((Arr.rep 96 0), t_1) else (impl_Frame_turned f0 d1 by2).bind fun t_2 => some (t_2, 0))
set_option maxRecDepth 100000 in
theorem impl_TurnDrum.calls (f0 : GFrame) (d1 : Arr 96 Int) (by2 : Int) (w : World) (r : (Arr 96 Int) × Int) (f0_fHammers_a : Option Addr) (f0_fHammers_an : Nat) (f0_fHammers_c : Nat) (f0_fHammers_h : Rw w f0_fHammers_a 2 encGHammer f0.fHammers) (f0_fHammers_hn : f0.fHammers.length = f0_fHammers_an) (h : impl_TurnDrum f0 d1 by2 = some r) :
    Calls Tryz.prog 22 #[(.agg #[(.int .i16 f0.fSteps), (.slice f0_fHammers_a f0_fHammers_an f0_fHammers_c)]), (.agg (row encU32 d1.1 []).toArray), (.int .i64 by2)] w fun e w' => ∃ v, e = .returned v ∧ (v = .tuple #[(.agg (row encU32 r.1.1 []).toArray), (.int .i64 r.2)] ∧ Mem w [] [] w') := by
  subst f0_fHammers_hn
  rw [impl_TurnDrum] at h
  refine enter (args := [(.agg #[(.int .i16 f0.fSteps), (.slice f0_fHammers_a f0.fHammers.length f0_fHammers_c)]), (.agg (row encU32 d1.1 []).toArray), (.int .i64 by2)]) Tryz.func22 rfl Tryz.ntmps22 (by kernel_rfl) (L := []) (W := []) (Mem.start w) ?_
  refine jc_seq ?_
  refine jc_region ?_
  refine toO (by kernel_rfl) (p_a 0 [0] (by kernel_rfl) (fun b => by kernel_rfl) (fun b_1 => jkO ?_))
  refine toO (by kernel_rfl) (p_a 0 [0] (by kernel_rfl) (fun b => by kernel_rfl) (fun b_2 => jkO ?_))
  refine toO (by kernel_rfl) (p_a 0 [0] (by kernel_rfl) (fun b => by kernel_rfl) (fun b_3 => jkO ?_))
  refine jo_f [(0, 0)] (by kernel_rfl) ?_
  refine jo_end (by kernel_rfl) ?_
  refine jx_then ?_
  refine jc_seq ?_
  refine jc_seq ?_
  refine jc_region ?_
  refine jo_f [(0, 0)] (by kernel_rfl) ?_
  refine toO (by kernel_rfl) (p_ldA 0 1 b_2 96 1 31 encU32 d1 (by kernel_rfl) (by kernel_rfl) (by kernel_rfl) encU32_len (by kernel_rfl) (jkO ?_))
  refine jo_f [(0, 0)] (by kernel_rfl) ?_
  obtain ⟨t_1, ht_6, h⟩ := bd h
  refine toO (by kernel_rfl) (p_call 0 87 #[(.agg #[(.int .i16 f0.fSteps), (.slice f0_fHammers_a f0.fHammers.length f0_fHammers_c)]), (.agg (row encU32 d1.1 []).toArray), (.int .i64 by2), (.int .i64 0)] (by kernel_rfl) (by kernel_rfl) (fun w hm => impl_placeCode.calls f0 d1 by2 0 w _ f0_fHammers_a f0.fHammers.length f0_fHammers_c (hm.exRow f0_fHammers_h List.not_mem_nil) rfl ht_6) ?_)
  rintro w v w' hm ⟨rfl, hm'⟩
  refine ⟨_, hm.app hm', jkO ?_⟩
  clear hm hm'
  refine jo_f [(0, 0)] (by kernel_rfl) ?_
  refine jo_end (by kernel_rfl) ?_
  refine jx_then ?_
  refine jc_seq ?_
  refine jc_region ?_
  refine jo_f [(0, 0), (0, 0)] (by kernel_rfl) ?_
  refine jo_end (by kernel_rfl) ?_
  refine jx_then ?_
  refine jc_cond (t_1 != 0) (by kernel_rfl) (fun hc_7 => ?_) (fun hc_7 => ?_)
  · replace h := ifT hc_7 h
    refine jc_seq ?_
    refine jc_region ?_
    refine jo_f [(0, 0), (0, 0)] (by kernel_rfl) ?_
    refine toO (by kernel_rfl) (p_sA 0 2 b_3 96 1 31 encU32 (Arr.rep 96 0) (Arr.rep 96 0) (by kernel_rfl) (by kernel_rfl) (by kernel_rfl) encU32_len encU32_cell (by kernel_rfl) (jkO ?_))
    refine jo_f [(0, 0)] (by kernel_rfl) ?_
    refine jo_end (by kernel_rfl) ?_
    refine jx_then ?_
    refine jc_ret ?_
    refine jx_thenr ?_
    obtain rfl := Option.some.inj h
    exact jx_retV rfl (rq_arr (b := b_3) (T' := 31) (hh := 2) (mm := 1) encU32 (Arr.rep 96 0) (by kernel_rfl) (by kernel_rfl) encU32_len (by kernel_rfl) (rq_tmp (by kernel_rfl) rq_nil)) (fun w hm => ⟨rfl, hm.pick [] (by kernel_rfl) (by kernel_rfl)⟩)
  · replace h := ifF hc_7 h
    refine jc_skip ?_
    refine jx_then ?_
    refine jc_seq ?_
    refine jc_region ?_
    refine jo_f [(0, 0)] (by kernel_rfl) ?_
    refine toO (by kernel_rfl) (p_ldA 0 1 b_2 96 1 31 encU32 d1 (by kernel_rfl) (by kernel_rfl) (by kernel_rfl) encU32_len (by kernel_rfl) (jkO ?_))
    refine jo_f [(0, 0)] (by kernel_rfl) ?_
    obtain ⟨t_2, ht_8, h⟩ := bd h
    refine toO (by kernel_rfl) (p_call 0 85 #[(.agg #[(.int .i16 f0.fSteps), (.slice f0_fHammers_a f0.fHammers.length f0_fHammers_c)]), (.agg (row encU32 d1.1 []).toArray), (.int .i64 by2)] (by kernel_rfl) (by kernel_rfl) (fun w hm => impl_Frame_turned.calls f0 d1 by2 w _ f0_fHammers_a f0.fHammers.length f0_fHammers_c (hm.exRow f0_fHammers_h List.not_mem_nil) rfl ht_8) ?_)
    rintro w v w' hm ⟨rfl, hm'⟩
    refine ⟨_, hm.app hm', jkO ?_⟩
    clear hm hm'
    refine toO (by kernel_rfl) (p_sA 0 2 b_3 96 1 31 encU32 (Arr.rep 96 0) t_2 (by kernel_rfl) (by kernel_rfl) (by kernel_rfl) encU32_len encU32_cell (by kernel_rfl) (jkO ?_))
    refine jo_f [(0, 0)] (by kernel_rfl) ?_
    refine jo_end (by kernel_rfl) ?_
    refine jx_then ?_
    refine jc_ret ?_
    obtain rfl := Option.some.inj h
    exact jx_retV rfl (rq_arr (b := b_3) (T' := 31) (hh := 2) (mm := 1) encU32 t_2 (by kernel_rfl) (by kernel_rfl) encU32_len (by kernel_rfl) (rq_tmp (by kernel_rfl) rq_nil)) (fun w hm => ⟨rfl, hm.pick [] (by kernel_rfl) (by kernel_rfl)⟩)

/-! ### laws.a2At -/
noncomputable def laws_a2At (code0 : List Int) (at1 : Int) (n2 : Int) : Option (Int) := (if ((decide (at1 ≥ (code0.length : Int))) || (decide (n2 < 1))) = true then some 0 else (ix code0 at1).bind fun x_1 => (if n2 ≠ 0 then some (Int.tmod (w64 x_1) n2) else none))
set_option maxRecDepth 100000 in
theorem laws_a2At.calls (code0 : List Int) (at1 : Int) (n2 : Int) (w : World) (r : Int) (code0_a : Option Addr) (code0_an : Nat) (code0_c : Nat) (code0_h : Rw w code0_a 1 encU8 code0) (code0_hn : code0.length = code0_an) (h : laws_a2At code0 at1 n2 = some r) :
    Calls Tryz.prog 23 #[(.slice code0_a code0_an code0_c), (.int .i64 at1), (.int .i64 n2)] w fun e w' => ∃ v, e = .returned v ∧ (v = (.int .i64 r) ∧ Mem w [] [] w') := by
  subst code0_hn
  rw [laws_a2At] at h
  refine enter (args := [(.slice code0_a code0.length code0_c), (.int .i64 at1), (.int .i64 n2)]) Tryz.func23 rfl Tryz.ntmps23 (by kernel_rfl) (L := []) (W := []) (Mem.start w) ?_
  refine jc_seq ?_
  refine jc_region ?_
  refine jo_f [(0, 0)] (by kernel_rfl) ?_
  refine jo_end (by kernel_rfl) ?_
  refine jx_then ?_
  refine jc_seq ?_
  refine jc_seq ?_
  refine jc_region ?_
  refine jo_f [(0, 0), (0, 0), (0, 0), (0, 0), (0, 0), (0, 1), (0, 1), (0, 0)] (by kernel_rfl) ?_
  refine jo_end (by kernel_rfl) ?_
  refine jx_then ?_
  refine jc_cond ((decide (at1 ≥ (code0.length : Int))) || (decide (n2 < 1))) (by kernel_rfl) (fun hc_2 => ?_) (fun hc_2 => ?_)
  · replace h := ifT hc_2 h
    refine jc_seq ?_
    refine jc_region ?_
    refine jo_f [(0, 0)] (by kernel_rfl) ?_
    refine jo_end (by kernel_rfl) ?_
    refine jx_then ?_
    refine jc_ret ?_
    refine jx_thenr ?_
    obtain rfl := Option.some.inj h
    exact jx_ret [] (.int .i64 0) [] rfl (by kernel_rfl) (by kernel_rfl) (fun w hm => ⟨rfl, hm.pick [] (by kernel_rfl) (by kernel_rfl)⟩)
  · replace h := ifF hc_2 h
    refine jc_skip ?_
    refine jx_then ?_
    refine jc_seq ?_
    refine jc_region ?_
    refine jo_f [(0, 0), (0, 0)] (by kernel_rfl) ?_
    obtain ⟨x_1, hx_3, h⟩ := bd h
    refine toO (by kernel_rfl) (p_idx 0 code0_a code0.length at1 1 (by kernel_rfl) (by kernel_rfl) (ix_some hx_3).1 (ltn hx_3 rfl) (code0_h.sp hx_3) (jkO ?_))
    refine toO (by kernel_rfl) (p_ld 0 (aB code0_a) (aO code0_a + at1.toNat * 1) false (encU8 x_1) (by kernel_rfl) (by kernel_rfl) (by kernel_rfl) (fun w hm => ((hm.exRow code0_h List.not_mem_nil).at hx_3)) (jkO ?_))
    refine jo_f [(0, 0), (0, 0)] (by kernel_rfl) ?_
    obtain ⟨hg_4, h⟩ := gd h
    refine toO (by kernel_rfl) (p_rem 0 .i64 (w64 x_1) n2 (by kernel_rfl) (by kernel_rfl) hg_4 (jkO ?_))
    refine jo_f [(0, 0)] (by kernel_rfl) ?_
    refine jo_end (by kernel_rfl) ?_
    refine jx_then ?_
    refine jc_ret ?_
    obtain rfl := Option.some.inj h
    exact jx_ret [] (.int .i64 (Int.tmod (w64 x_1) n2)) [] rfl (by kernel_rfl) (by kernel_rfl) (fun w hm => ⟨rfl, hm.pick [] (by kernel_rfl) (by kernel_rfl)⟩)

/-! ### laws.FnChanged -/
noncomputable def laws_FnChanged.k_28 (t_2 : GFrame) (t_3 : (Arr 96 Int)) (a_4 : Arr 96 Int) (t_14 : Int × Int) (t_24 : Int) (t_25 : Int × Int) (t_26 : (Arr 96 Int) × Int) (a_27 : Arr 96 Int) : Option (Bool) := (impl_ChangeCost t_2 t_3 a_27).bind fun t_29 => (impl_ChangeCost t_2 a_27 a_4).bind fun t_30 => some ((((((t_25.2 == 0) && (t_25.1 == (w64 (t_24 + 1)))) && (t_26.2 == 4)) && (t_29.2 == 0)) && (t_30.2 == 0)) && (decide ((w64 (t_29.1 + t_30.1)) ≥ t_14.1)))
noncomputable def laws_FnChanged.k_19 (more1 : List Int) (t_2 : GFrame) (t_3 : (Arr 96 Int)) (a_4 : Arr 96 Int) (t_7 : (List GChange) × Int) (t_14 : Int × Int) (q_18 : Bool) : Option (Bool) := (if q_18 = true then some false else (impl_TurnedCost t_2 t_3 a_4).bind fun t_20 => (spec_TurnedCost t_2 t_3 a_4).bind fun t_21 => (impl_TurnDrum t_2 a_4 t_21.2.1).bind fun t_22 => (impl_ChangeCost t_2 t_3 t_22.1).bind fun t_23 => (if ((((((((t_20.2.2 != t_21.2.2) || (t_20.2.2 != 0)) || (t_20.1 != t_21.1)) || (t_20.2.1 != t_21.2.1)) || (decide (t_21.1 > t_14.1))) || (t_22.2 != 0)) || (t_23.2 != 0)) || (t_23.1 != t_21.1)) = true then some false else (if ((t_7.1.length : Int) == 0) = true then some true else (laws_a2At more1 0 (t_7.1.length : Int)).bind fun t_24 => (if 0 ≤ (w64 (t_24 + 1)) ∧ (w64 (t_24 + 1)) ≤ (t_7.1.length : Int) then (if 0 ≤ t_24 ∧ t_24 ≤ (t_7.1.length : Int) then (if ([] : List GChange).length + (t_7.1.take (w64 (t_24 + 1)).toNat).length ≤ 4294967296 then (if (([] : List GChange) ++ (t_7.1.take (w64 (t_24 + 1)).toNat)).length + (t_7.1.drop t_24.toNat).length ≤ 4294967296 then (impl_FirstBadChange t_2 t_3 ((([] : List GChange) ++ (t_7.1.take (w64 (t_24 + 1)).toNat)) ++ (t_7.1.drop t_24.toNat))).bind fun t_25 => (impl_MakeChanges t_2 t_3 ((([] : List GChange) ++ (t_7.1.take (w64 (t_24 + 1)).toNat)) ++ (t_7.1.drop t_24.toNat))).bind fun t_26 => (if [5].length + more1.length ≤ 4294967296 then (spec_A2Drum ([5] ++ more1) t_2).bind fun t_31 => laws_FnChanged.k_28 t_2 t_3 a_4 t_14 t_24 t_25 t_26 t_31 else none) else none) else none) else none) else none))))
noncomputable def laws_FnChanged.k_5 (more1 : List Int) (t_2 : GFrame) (t_3 : (Arr 96 Int)) (a_4 : Arr 96 Int) : Option (Bool) := (impl_ChangesBetween t_2 t_3 a_4).bind fun t_6 => (spec_ChangesBetween t_2 t_3 a_4).bind fun t_7 => (impl_ChangesText t_7.1).bind fun t_8 => (impl_ReadChanges t_8).bind fun t_9 => (impl_MakeChanges t_2 t_3 t_7.1).bind fun t_10 => (impl_UndoChanges t_7.1).bind fun t_11 => (spec_UndoChanges t_7.1).bind fun t_12 => (impl_MakeChanges t_2 a_4 t_12.1).bind fun t_13 => (impl_ChangeCost t_2 t_3 a_4).bind fun t_14 => (impl_ChangeCost t_2 a_4 t_3).bind fun t_15 => (impl_PinsToMove t_2 t_3 a_4).bind fun t_16 => (impl_FirstBadChange t_2 t_3 t_7.1).bind fun t_17 => (if ((t_6.2 != t_7.2) || (t_6.2 != 0)) = true then laws_FnChanged.k_19 more1 t_2 t_3 a_4 t_7 t_14 true else (spec_A2SameChanges t_6.1 t_7.1).bind fun t_32 => (if ((!t_32) || (t_9.2 != 0)) = true then laws_FnChanged.k_19 more1 t_2 t_3 a_4 t_7 t_14 true else (spec_A2SameChanges t_9.1 t_7.1).bind fun t_33 => (if ((!t_33) || (t_10.2 != 0)) = true then laws_FnChanged.k_19 more1 t_2 t_3 a_4 t_7 t_14 true else (if (((!(t_10.1.1 == a_4.1)) || (t_11.2 != t_12.2)) || (t_11.2 != 0)) = true then laws_FnChanged.k_19 more1 t_2 t_3 a_4 t_7 t_14 true else (spec_A2SameChanges t_11.1 t_12.1).bind fun t_34 => (if ((!t_34) || (t_13.2 != 0)) = true then laws_FnChanged.k_19 more1 t_2 t_3 a_4 t_7 t_14 true else (if ((((((((!(t_13.1.1 == t_3.1)) || (t_14.2 != 0)) || (t_15.2 != 0)) || (t_14.1 != (t_7.1.length : Int))) || (t_15.1 != t_14.1)) || (t_16.2.2 != 0)) || ((w64 (t_16.1 + t_16.2.1)) != t_14.1)) || (t_17.2 != 6)) = true then laws_FnChanged.k_19 more1 t_2 t_3 a_4 t_7 t_14 true else laws_FnChanged.k_19 more1 t_2 t_3 a_4 t_7 t_14 ((t_14.1 == 0) != (t_3.1 == a_4.1))))))))
noncomputable def laws_FnChanged (code0 : List Int) (more1 : List Int) : Option (Bool) := (laws_a2Long code0 more1).bind fun t_1 => (if t_1 = true then some true else (spec_A2Frame code0).bind fun t_2 => (spec_A2Drum more1 t_2).bind fun t_3 => (if [3].length + more1.length ≤ 4294967296 then (spec_A2Drum ([3] ++ more1) t_2).bind fun t_35 => laws_FnChanged.k_5 more1 t_2 t_3 t_35 else none))
set_option maxRecDepth 100000 in
set_option maxHeartbeats 8000000 in
theorem laws_FnChanged.calls (code0 : List Int) (more1 : List Int) (w : World) (r : Bool) (g_er : Gler w) (g_lo : Gllo w) (g_ml : Glml w) (g_pw : Glpw w) (code0_a : Option Addr) (code0_an : Nat) (code0_c : Nat) (code0_h : Rw w code0_a 1 encU8 code0) (code0_hn : code0.length = code0_an) (more1_a : Option Addr) (more1_an : Nat) (more1_c : Nat) (more1_h : Rw w more1_a 1 encU8 more1) (more1_hn : more1.length = more1_an) (h : laws_FnChanged code0 more1 = some r) :
    Calls Tryz.prog 3 #[(.slice code0_a code0_an code0_c), (.slice more1_a more1_an more1_c)] w fun e w' => ∃ v, e = .returned v ∧ (v = (.bool r) ∧ Mem w [] [] w') := by
  subst code0_hn more1_hn
  rw [laws_FnChanged] at h
  refine enter (args := [(.slice code0_a code0.length code0_c), (.slice more1_a more1.length more1_c)]) Tryz.func3 rfl Tryz.ntmps3 (by kernel_rfl) (L := []) (W := []) (Mem.start w) ?_
  refine jc_seq ?_
  refine jc_region ?_
  refine jo_f [(0, 0)] (by kernel_rfl) ?_
  refine jo_end (by kernel_rfl) ?_
  refine jx_then ?_
  refine jc_seq ?_
  refine jc_seq ?_
  refine jc_region ?_
  refine jo_f [(0, 0), (0, 0)] (by kernel_rfl) ?_
  obtain ⟨t_1, ht_3, h⟩ := bd h
  refine toO (by kernel_rfl) (p_call 0 6 #[(.slice code0_a code0.length code0_c), (.slice more1_a more1.length more1_c)] (by kernel_rfl) (by kernel_rfl) (fun w hm => laws_a2Long.calls code0 more1 w _ code0_a code0.length code0_c (hm.exRow code0_h List.not_mem_nil) rfl more1_a more1.length more1_c (hm.exRow more1_h List.not_mem_nil) rfl ht_3) ?_)
  rintro w v w' hm ⟨rfl, hm'⟩
  refine ⟨_, hm.app hm', jkO ?_⟩
  clear hm hm'
  refine jo_end (by kernel_rfl) ?_
  refine jx_then ?_
  refine jc_cond t_1 (by kernel_rfl) (fun hc_4 => ?_) (fun hc_4 => ?_)
  · replace h := ifT hc_4 h
    refine jc_seq ?_
    refine jc_region ?_
    refine jo_f [(0, 0)] (by kernel_rfl) ?_
    refine jo_end (by kernel_rfl) ?_
    refine jx_then ?_
    refine jc_ret ?_
    refine jx_thenr ?_
    obtain rfl := Option.some.inj h
    exact jx_ret [] (.bool true) [] rfl (by kernel_rfl) (by kernel_rfl) (fun w hm => ⟨rfl, hm.pick [] (by kernel_rfl) (by kernel_rfl)⟩)
  · replace h := ifF hc_4 h
    refine jc_skip ?_
    refine jx_then ?_
    refine jc_seq ?_
    refine jc_region ?_
    refine jo_f [(0, 0)] (by kernel_rfl) ?_
    obtain ⟨t_2, ht_5, h⟩ := bd h
    refine toO (by kernel_rfl) (p_call 0 7 #[(.slice code0_a code0.length code0_c)] (by kernel_rfl) (by kernel_rfl) (fun w hm => spec_A2Frame.calls code0 w _ code0_a code0.length code0_c (hm.exRow code0_h List.not_mem_nil) rfl ht_5) ?_)
    rintro w v w' hm ⟨o_6, cap_7, sp_8, _, rfl, hs_9, ho_10, rfl, hm'⟩
    refine ⟨_, hm.app hm', jkO ?_⟩
    clear hm hm'
    refine toO (by kernel_rfl) (p_a 0 [0] (by kernel_rfl) (fun b => by kernel_rfl) (fun b_11 => jkO ?_))
    refine toO (by kernel_rfl) (p_s 0 [1] (by kernel_rfl) (by kernel_rfl) (jkO ?_))
    refine jo_end (by kernel_rfl) ?_
    refine jx_then ?_
    refine jc_seq ?_
    refine jc_region ?_
    refine jo_f [(0, 0), (1, 0)] (by kernel_rfl) ?_
    obtain ⟨t_3, ht_12, h⟩ := bd h
    refine toO (by kernel_rfl) (p_call 0 8 #[(.slice more1_a more1.length more1_c), (.agg #[(.int .i16 t_2.fSteps), (.slice (o_6.map fun b => ⟨b, 0, none⟩) t_2.fHammers.length cap_7)])] (by kernel_rfl) (by kernel_rfl) (fun w hm => spec_A2Drum.calls more1 t_2 w _ more1_a more1.length more1_c (hm.exRow more1_h List.not_mem_nil) rfl (o_6.map fun b => ⟨b, 0, none⟩) t_2.fHammers.length cap_7 (hm.ownRow (hh := 0) (o := o_6) (T := 137) (enc := encGHammer) (xs := t_2.fHammers) (sp := sp_8) (by kernel_rfl) (fun e => (ho_10 e).1) encGHammer_len) rfl ht_12) ?_)
    rintro w v w' hm ⟨rfl, hm'⟩
    refine ⟨_, hm.app hm', jkO ?_⟩
    clear hm hm'
    refine toO (by kernel_rfl) (p_a 0 [0] (by kernel_rfl) (fun b => by kernel_rfl) (fun b_13 => jkO ?_))
    refine toO (by kernel_rfl) (p_sA 0 2 b_13 96 1 31 encU32 (Arr.rep 96 0) t_3 (by kernel_rfl) (by kernel_rfl) (by kernel_rfl) encU32_len encU32_cell (by kernel_rfl) (jkO ?_))
    refine jo_end (by kernel_rfl) ?_
    refine jx_then ?_
    refine jc_seq ?_
    refine jc_meet (fun (j : (Arr 96 Int) × Nat) => match j with | ⟨a_4, b_42⟩ => laws_FnChanged.k_5 more1 t_2 t_3 a_4 = some r) (fun (j : (Arr 96 Int) × Nat) => match j with | ⟨a_4, b_42⟩ => [(1, [], (.slice more1_a more1.length more1_c)), (4, [], (.bool false)), (5, [], (.pointer (some ⟨b_11, 0, none⟩))), (6, [], (.pointer (some ⟨b_13, 0, none⟩))), (7, [], (.pointer (some ⟨b_42, 0, none⟩)))]) (fun (j : (Arr 96 Int) × Nat) => match j with | ⟨a_4, b_42⟩ => [⟨o_6, 137, row encGHammer t_2.fHammers sp_8⟩, ⟨some b_11, 27, [(.int .i16 t_2.fSteps), (.slice (o_6.map fun b => ⟨b, 0, none⟩) t_2.fHammers.length cap_7)]⟩, ⟨(some b_13), 31, row encU32 t_3.1 []⟩, ⟨(some b_42), 31, row encU32 a_4.1 []⟩]) ?_ ?_
    · refine jc_draw [⟨o_6, 137, row encGHammer t_2.fHammers sp_8⟩, ⟨some b_11, 27, [(.int .i16 t_2.fSteps), (.slice (o_6.map fun b => ⟨b, 0, none⟩) t_2.fHammers.length cap_7)]⟩, ⟨(some b_13), 31, row encU32 t_3.1 []⟩] 7 (by kernel_rfl) (by kernel_rfl) ?_
      refine jd_f [⟨1, 0, 0⟩, ⟨3, 1, 0⟩] 5 (by kernel_rfl) (by kernel_rfl) (fun w h => h.pick [0, 1, 2] (by kernel_rfl) (by kernel_rfl)) (by kernel_rfl) (by kernel_rfl) ?_
      refine toD2 0 5 (by kernel_rfl) ?_ ?_
      · refine p_a 0 [0] (by kernel_rfl) (fun b => by kernel_rfl) (fun b_207 => jkD (fun w h => h.pick [0, 1, 2] (by kernel_rfl) (by kernel_rfl)) ?_)
        refine toD2 2 5 (by kernel_rfl) ?_ ?_
        · obtain ⟨hg_208, h⟩ := gd h
          refine p_apn 0 3 (some b_207) 5 1 more1.length 1 1 1 more1_a encU8 [3] more1 [] (.int .u8 0) rfl rfl (by kernel_rfl) (by kernel_rfl) (by kernel_rfl) encU8_len encU8_cell (fun _ => ⟨Nat.le_refl _, by simp⟩) (fun e => nomatch e) (fun w hm => (hm.exRow more1_h List.not_mem_nil)) hg_208 (by kernel_rfl) (by kernel_rfl) (fun o_209 cap_210 sp_211 hs_212 ho_213 => jkD (fun w h => h.pick [0, 1, 2] (by kernel_rfl) (by kernel_rfl)) ?_)
          refine toD2 4 5 (by kernel_rfl) ?_ ?_
          · obtain ⟨t_35, ht_214, h⟩ := bd h
            refine p_call 0 8 #[(.slice (o_209.map fun b => ⟨b, 0, none⟩) (([3] ++ more1).length) cap_210), (.agg #[(.int .i16 t_2.fSteps), (.slice (o_6.map fun b => ⟨b, 0, none⟩) t_2.fHammers.length cap_7)])] (by kernel_rfl) (by kernel_rfl) (fun w hm => spec_A2Drum.calls ([3] ++ more1) t_2 w _ (o_209.map fun b => ⟨b, 0, none⟩) (([3] ++ more1).length) cap_210 (hm.ownRow (hh := 3) (o := o_209) (T := 5) (enc := encU8) (xs := ([3] ++ more1)) (sp := sp_211) (by kernel_rfl) (fun e => (ho_213 e).1) encU8_len) rfl (o_6.map fun b => ⟨b, 0, none⟩) t_2.fHammers.length cap_7 (hm.ownRow (hh := 0) (o := o_6) (T := 137) (enc := encGHammer) (xs := t_2.fHammers) (sp := sp_8) (by kernel_rfl) (fun e => (ho_10 e).1) encGHammer_len) rfl ht_214) ?_
            rintro w v w' hm ⟨rfl, hm'⟩
            refine ⟨_, hm.app hm', jkD (fun w h => h.pick [0, 1, 2] (by kernel_rfl) (by kernel_rfl)) ?_⟩
            clear hm hm'
            refine toD 5 (by kernel_rfl) (p_a 0 [0] (by kernel_rfl) (fun b => by kernel_rfl) (fun b_215 => jkD (fun w h => h.pick [0, 1, 2] (by kernel_rfl) (by kernel_rfl)) ?_))
            refine toD 6 (by kernel_rfl) (p_sA 0 4 b_215 96 1 31 encU32 (Arr.rep 96 0) t_35 (by kernel_rfl) (by kernel_rfl) (by kernel_rfl) encU32_len encU32_cell (by kernel_rfl) (jkD (fun w h => h.pick [0, 1, 2] (by kernel_rfl) (by kernel_rfl)) ?_))
            refine jd_end (by kernel_rfl) ?_
            exact jx_meet ⟨t_35, b_215⟩ h (by kernel_rfl) [0, 1, 2, 4] (by kernel_rfl) (by kernel_rfl)
          · refine p_a 0 [0] (by kernel_rfl) (fun b => by kernel_rfl) (fun b_216 => jkD (fun w h => h.pick [0, 1, 2] (by kernel_rfl) (by kernel_rfl)) ?_)
            obtain ⟨t_35, ht_217, h⟩ := bd h
            refine toD 4 (by kernel_rfl) (p_call 0 8 #[(.slice (o_209.map fun b => ⟨b, 0, none⟩) (([3] ++ more1).length) cap_210), (.agg #[(.int .i16 t_2.fSteps), (.slice (o_6.map fun b => ⟨b, 0, none⟩) t_2.fHammers.length cap_7)])] (by kernel_rfl) (by kernel_rfl) (fun w hm => spec_A2Drum.calls ([3] ++ more1) t_2 w _ (o_209.map fun b => ⟨b, 0, none⟩) (([3] ++ more1).length) cap_210 (hm.ownRow (hh := 3) (o := o_209) (T := 5) (enc := encU8) (xs := ([3] ++ more1)) (sp := sp_211) (by kernel_rfl) (fun e => (ho_213 e).1) encU8_len) rfl (o_6.map fun b => ⟨b, 0, none⟩) t_2.fHammers.length cap_7 (hm.ownRow (hh := 0) (o := o_6) (T := 137) (enc := encGHammer) (xs := t_2.fHammers) (sp := sp_8) (by kernel_rfl) (fun e => (ho_10 e).1) encGHammer_len) rfl ht_217) ?_)
            rintro w v w' hm ⟨rfl, hm'⟩
            refine ⟨_, hm.app hm', jkD (fun w h => h.pick [0, 1, 2] (by kernel_rfl) (by kernel_rfl)) ?_⟩
            clear hm hm'
            refine toD 6 (by kernel_rfl) (p_sA 0 4 b_216 96 1 31 encU32 (Arr.rep 96 0) t_35 (by kernel_rfl) (by kernel_rfl) (by kernel_rfl) encU32_len encU32_cell (by kernel_rfl) (jkD (fun w h => h.pick [0, 1, 2] (by kernel_rfl) (by kernel_rfl)) ?_))
            refine jd_end (by kernel_rfl) ?_
            exact jx_meet ⟨t_35, b_216⟩ h (by kernel_rfl) [0, 1, 2, 4] (by kernel_rfl) (by kernel_rfl)
        · refine p_a 0 [0] (by kernel_rfl) (fun b => by kernel_rfl) (fun b_218 => jkD (fun w h => h.pick [0, 1, 2] (by kernel_rfl) (by kernel_rfl)) ?_)
          obtain ⟨hg_219, h⟩ := gd h
          refine toD 2 (by kernel_rfl) (p_apn 0 3 (some b_207) 5 1 more1.length 1 1 1 more1_a encU8 [3] more1 [] (.int .u8 0) rfl rfl (by kernel_rfl) (by kernel_rfl) (by kernel_rfl) encU8_len encU8_cell (fun _ => ⟨Nat.le_refl _, by simp⟩) (fun e => nomatch e) (fun w hm => (hm.exRow more1_h List.not_mem_nil)) hg_219 (by kernel_rfl) (by kernel_rfl) (fun o_220 cap_221 sp_222 hs_223 ho_224 => jkD (fun w h => h.pick [0, 1, 2] (by kernel_rfl) (by kernel_rfl)) ?_))
          obtain ⟨t_35, ht_225, h⟩ := bd h
          refine toD 4 (by kernel_rfl) (p_call 0 8 #[(.slice (o_220.map fun b => ⟨b, 0, none⟩) (([3] ++ more1).length) cap_221), (.agg #[(.int .i16 t_2.fSteps), (.slice (o_6.map fun b => ⟨b, 0, none⟩) t_2.fHammers.length cap_7)])] (by kernel_rfl) (by kernel_rfl) (fun w hm => spec_A2Drum.calls ([3] ++ more1) t_2 w _ (o_220.map fun b => ⟨b, 0, none⟩) (([3] ++ more1).length) cap_221 (hm.ownRow (hh := 3) (o := o_220) (T := 5) (enc := encU8) (xs := ([3] ++ more1)) (sp := sp_222) (by kernel_rfl) (fun e => (ho_224 e).1) encU8_len) rfl (o_6.map fun b => ⟨b, 0, none⟩) t_2.fHammers.length cap_7 (hm.ownRow (hh := 0) (o := o_6) (T := 137) (enc := encGHammer) (xs := t_2.fHammers) (sp := sp_8) (by kernel_rfl) (fun e => (ho_10 e).1) encGHammer_len) rfl ht_225) ?_)
          rintro w v w' hm ⟨rfl, hm'⟩
          refine ⟨_, hm.app hm', jkD (fun w h => h.pick [0, 1, 2] (by kernel_rfl) (by kernel_rfl)) ?_⟩
          clear hm hm'
          refine toD 6 (by kernel_rfl) (p_sA 0 4 b_218 96 1 31 encU32 (Arr.rep 96 0) t_35 (by kernel_rfl) (by kernel_rfl) (by kernel_rfl) encU32_len encU32_cell (by kernel_rfl) (jkD (fun w h => h.pick [0, 1, 2] (by kernel_rfl) (by kernel_rfl)) ?_))
          refine jd_end (by kernel_rfl) ?_
          exact jx_meet ⟨t_35, b_218⟩ h (by kernel_rfl) [0, 1, 2, 4] (by kernel_rfl) (by kernel_rfl)
      · refine p_a 0 [0] (by kernel_rfl) (fun b => by kernel_rfl) (fun b_226 => jkD (fun w h => h.pick [0, 1, 2] (by kernel_rfl) (by kernel_rfl)) ?_)
        refine toD 0 (by kernel_rfl) (p_a 0 [0] (by kernel_rfl) (fun b => by kernel_rfl) (fun b_227 => jkD (fun w h => h.pick [0, 1, 2] (by kernel_rfl) (by kernel_rfl)) ?_))
        obtain ⟨hg_228, h⟩ := gd h
        refine toD 2 (by kernel_rfl) (p_apn 0 4 (some b_227) 5 1 more1.length 1 1 1 more1_a encU8 [3] more1 [] (.int .u8 0) rfl rfl (by kernel_rfl) (by kernel_rfl) (by kernel_rfl) encU8_len encU8_cell (fun _ => ⟨Nat.le_refl _, by simp⟩) (fun e => nomatch e) (fun w hm => (hm.exRow more1_h List.not_mem_nil)) hg_228 (by kernel_rfl) (by kernel_rfl) (fun o_229 cap_230 sp_231 hs_232 ho_233 => jkD (fun w h => h.pick [0, 1, 2] (by kernel_rfl) (by kernel_rfl)) ?_))
        obtain ⟨t_35, ht_234, h⟩ := bd h
        refine toD 4 (by kernel_rfl) (p_call 0 8 #[(.slice (o_229.map fun b => ⟨b, 0, none⟩) (([3] ++ more1).length) cap_230), (.agg #[(.int .i16 t_2.fSteps), (.slice (o_6.map fun b => ⟨b, 0, none⟩) t_2.fHammers.length cap_7)])] (by kernel_rfl) (by kernel_rfl) (fun w hm => spec_A2Drum.calls ([3] ++ more1) t_2 w _ (o_229.map fun b => ⟨b, 0, none⟩) (([3] ++ more1).length) cap_230 (hm.ownRow (hh := 4) (o := o_229) (T := 5) (enc := encU8) (xs := ([3] ++ more1)) (sp := sp_231) (by kernel_rfl) (fun e => (ho_233 e).1) encU8_len) rfl (o_6.map fun b => ⟨b, 0, none⟩) t_2.fHammers.length cap_7 (hm.ownRow (hh := 0) (o := o_6) (T := 137) (enc := encGHammer) (xs := t_2.fHammers) (sp := sp_8) (by kernel_rfl) (fun e => (ho_10 e).1) encGHammer_len) rfl ht_234) ?_)
        rintro w v w' hm ⟨rfl, hm'⟩
        refine ⟨_, hm.app hm', jkD (fun w h => h.pick [0, 1, 2] (by kernel_rfl) (by kernel_rfl)) ?_⟩
        clear hm hm'
        refine toD 6 (by kernel_rfl) (p_sA 0 3 b_226 96 1 31 encU32 (Arr.rep 96 0) t_35 (by kernel_rfl) (by kernel_rfl) (by kernel_rfl) encU32_len encU32_cell (by kernel_rfl) (jkD (fun w h => h.pick [0, 1, 2] (by kernel_rfl) (by kernel_rfl)) ?_))
        refine jd_end (by kernel_rfl) ?_
        exact jx_meet ⟨t_35, b_226⟩ h (by kernel_rfl) [0, 1, 2, 3] (by kernel_rfl) (by kernel_rfl)
    · rintro ⟨a_4, b_42⟩ h
      replace h : laws_FnChanged.k_5 more1 t_2 t_3 a_4 = some r := h
      rw [laws_FnChanged.k_5] at h
      refine jx_then ?_
      refine jc_seq ?_
      refine jc_region ?_
      refine jo_f [(1, 0)] (by kernel_rfl) ?_
      refine toO (by kernel_rfl) (p_ldA 0 2 b_13 96 1 31 encU32 t_3 (by kernel_rfl) (by kernel_rfl) (by kernel_rfl) encU32_len (by kernel_rfl) (jkO ?_))
      refine toO (by kernel_rfl) (p_ldA 0 3 b_42 96 1 31 encU32 a_4 (by kernel_rfl) (by kernel_rfl) (by kernel_rfl) encU32_len (by kernel_rfl) (jkO ?_))
      obtain ⟨t_6, ht_43, h⟩ := bd h
      refine toO (by kernel_rfl) (p_call 0 9 #[(.agg #[(.int .i16 t_2.fSteps), (.slice (o_6.map fun b => ⟨b, 0, none⟩) t_2.fHammers.length cap_7)]), (.agg (row encU32 t_3.1 []).toArray), (.agg (row encU32 a_4.1 []).toArray)] (by kernel_rfl) (by kernel_rfl) (fun w hm => impl_ChangesBetween.calls t_2 t_3 a_4 w _ (o_6.map fun b => ⟨b, 0, none⟩) t_2.fHammers.length cap_7 (hm.ownRow (hh := 0) (o := o_6) (T := 137) (enc := encGHammer) (xs := t_2.fHammers) (sp := sp_8) (by kernel_rfl) (fun e => (ho_10 e).1) encGHammer_len) rfl ht_43) ?_)
      rintro w v w' hm ⟨o_44, cap_45, sp_46, _, rfl, hs_47, ho_48, rfl, hm'⟩
      refine ⟨_, hm.app hm', jkO ?_⟩
      clear hm hm'
      refine jo_f [(0, 0), (0, 0), (0, 0), (0, 0), (0, 0)] (by kernel_rfl) ?_
      refine jo_end (by kernel_rfl) ?_
      refine jx_then ?_
      refine jc_seq ?_
      refine jc_region ?_
      refine jo_f [(1, 0)] (by kernel_rfl) ?_
      refine toO (by kernel_rfl) (p_ldA 0 2 b_13 96 1 31 encU32 t_3 (by kernel_rfl) (by kernel_rfl) (by kernel_rfl) encU32_len (by kernel_rfl) (jkO ?_))
      refine toO (by kernel_rfl) (p_ldA 0 3 b_42 96 1 31 encU32 a_4 (by kernel_rfl) (by kernel_rfl) (by kernel_rfl) encU32_len (by kernel_rfl) (jkO ?_))
      obtain ⟨t_7, ht_49, h⟩ := bd h
      refine toO (by kernel_rfl) (p_call 0 10 #[(.agg #[(.int .i16 t_2.fSteps), (.slice (o_6.map fun b => ⟨b, 0, none⟩) t_2.fHammers.length cap_7)]), (.agg (row encU32 t_3.1 []).toArray), (.agg (row encU32 a_4.1 []).toArray)] (by kernel_rfl) (by kernel_rfl) (fun w hm => spec_ChangesBetween.calls t_2 t_3 a_4 w _ (o_6.map fun b => ⟨b, 0, none⟩) t_2.fHammers.length cap_7 (hm.ownRow (hh := 0) (o := o_6) (T := 137) (enc := encGHammer) (xs := t_2.fHammers) (sp := sp_8) (by kernel_rfl) (fun e => (ho_10 e).1) encGHammer_len) rfl ht_49) ?_)
      rintro w v w' hm ⟨o_50, cap_51, sp_52, _, rfl, hs_53, ho_54, rfl, hm'⟩
      refine ⟨_, hm.app hm', jkO ?_⟩
      clear hm hm'
      refine jo_f [(0, 0), (0, 0), (0, 0), (0, 0), (0, 0)] (by kernel_rfl) ?_
      refine jo_end (by kernel_rfl) ?_
      refine jx_then ?_
      refine jc_seq ?_
      refine jc_region ?_
      refine jo_f [(0, 0)] (by kernel_rfl) ?_
      obtain ⟨t_8, ht_55, h⟩ := bd h
      refine toO (by kernel_rfl) (p_call 0 12 #[(.slice (o_50.map fun b => ⟨b, 0, none⟩) t_7.1.length cap_51)] (by kernel_rfl) (by kernel_rfl) (fun w hm => impl_ChangesText.calls t_7.1 w _ (g_lo.keep hm) (g_pw.keep hm) (o_50.map fun b => ⟨b, 0, none⟩) t_7.1.length cap_51 (hm.ownRow (hh := 5) (o := o_50) (T := 106) (enc := encGChange) (xs := t_7.1) (sp := sp_52) (by kernel_rfl) (fun e => (ho_54 e).1) encGChange_len) rfl ht_55) ?_)
      rintro w v w' hm ⟨rfl, hm'⟩
      refine ⟨_, hm.app hm', jkO ?_⟩
      clear hm hm'
      obtain ⟨t_9, ht_56, h⟩ := bd h
      refine toO (by kernel_rfl) (p_call 0 11 #[(.string t_8)] (by kernel_rfl) (by kernel_rfl) (fun w hm => impl_ReadChanges.calls t_8 w _ (g_er.keep hm) (g_lo.keep hm) (g_ml.keep hm) (g_pw.keep hm) ht_56) ?_)
      rintro w v w' hm ⟨o_57, cap_58, sp_59, _, rfl, hs_60, ho_61, rfl, hm'⟩
      refine ⟨_, hm.app hm', jkO ?_⟩
      clear hm hm'
      refine jo_f [(0, 0), (0, 0), (0, 0), (0, 0), (0, 0)] (by kernel_rfl) ?_
      refine jo_end (by kernel_rfl) ?_
      refine jx_then ?_
      refine jc_seq ?_
      refine jc_region ?_
      refine jo_f [(1, 0)] (by kernel_rfl) ?_
      refine toO (by kernel_rfl) (p_ldA 0 2 b_13 96 1 31 encU32 t_3 (by kernel_rfl) (by kernel_rfl) (by kernel_rfl) encU32_len (by kernel_rfl) (jkO ?_))
      refine jo_f [(0, 0)] (by kernel_rfl) ?_
      obtain ⟨t_10, ht_62, h⟩ := bd h
      refine toO (by kernel_rfl) (p_call 0 13 #[(.agg #[(.int .i16 t_2.fSteps), (.slice (o_6.map fun b => ⟨b, 0, none⟩) t_2.fHammers.length cap_7)]), (.agg (row encU32 t_3.1 []).toArray), (.slice (o_50.map fun b => ⟨b, 0, none⟩) t_7.1.length cap_51)] (by kernel_rfl) (by kernel_rfl) (fun w hm => impl_MakeChanges.calls t_2 t_3 t_7.1 w _ (o_6.map fun b => ⟨b, 0, none⟩) t_2.fHammers.length cap_7 (hm.ownRow (hh := 0) (o := o_6) (T := 137) (enc := encGHammer) (xs := t_2.fHammers) (sp := sp_8) (by kernel_rfl) (fun e => (ho_10 e).1) encGHammer_len) rfl (o_50.map fun b => ⟨b, 0, none⟩) t_7.1.length cap_51 (hm.ownRow (hh := 5) (o := o_50) (T := 106) (enc := encGChange) (xs := t_7.1) (sp := sp_52) (by kernel_rfl) (fun e => (ho_54 e).1) encGChange_len) rfl ht_62) ?_)
      rintro w v w' hm ⟨rfl, hm'⟩
      refine ⟨_, hm.app hm', jkO ?_⟩
      clear hm hm'
      refine jo_f [(0, 0), (0, 0), (0, 0)] (by kernel_rfl) ?_
      refine toO (by kernel_rfl) (p_a 0 [0] (by kernel_rfl) (fun b => by kernel_rfl) (fun b_63 => jkO ?_))
      refine toO (by kernel_rfl) (p_sA 0 7 b_63 96 1 31 encU32 (Arr.rep 96 0) t_10.1 (by kernel_rfl) (by kernel_rfl) (by kernel_rfl) encU32_len encU32_cell (by kernel_rfl) (jkO ?_))
      refine jo_f [(0, 0)] (by kernel_rfl) ?_
      refine jo_end (by kernel_rfl) ?_
      refine jx_then ?_
      refine jc_seq ?_
      refine jc_region ?_
      refine jo_f [(0, 0)] (by kernel_rfl) ?_
      obtain ⟨t_11, ht_64, h⟩ := bd h
      refine toO (by kernel_rfl) (p_call 0 14 #[(.slice (o_50.map fun b => ⟨b, 0, none⟩) t_7.1.length cap_51)] (by kernel_rfl) (by kernel_rfl) (fun w hm => impl_UndoChanges.calls t_7.1 w _ (o_50.map fun b => ⟨b, 0, none⟩) t_7.1.length cap_51 (hm.ownRow (hh := 5) (o := o_50) (T := 106) (enc := encGChange) (xs := t_7.1) (sp := sp_52) (by kernel_rfl) (fun e => (ho_54 e).1) encGChange_len) rfl ht_64) ?_)
      rintro w v w' hm ⟨o_65, cap_66, sp_67, _, rfl, hs_68, ho_69, rfl, hm'⟩
      refine ⟨_, hm.app hm', jkO ?_⟩
      clear hm hm'
      refine jo_f [(0, 0), (0, 0), (0, 0), (0, 0), (0, 0)] (by kernel_rfl) ?_
      refine jo_end (by kernel_rfl) ?_
      refine jx_then ?_
      refine jc_seq ?_
      refine jc_region ?_
      refine jo_f [(0, 0)] (by kernel_rfl) ?_
      obtain ⟨t_12, ht_70, h⟩ := bd h
      refine toO (by kernel_rfl) (p_call 0 15 #[(.slice (o_50.map fun b => ⟨b, 0, none⟩) t_7.1.length cap_51)] (by kernel_rfl) (by kernel_rfl) (fun w hm => spec_UndoChanges.calls t_7.1 w _ (o_50.map fun b => ⟨b, 0, none⟩) t_7.1.length cap_51 (hm.ownRow (hh := 5) (o := o_50) (T := 106) (enc := encGChange) (xs := t_7.1) (sp := sp_52) (by kernel_rfl) (fun e => (ho_54 e).1) encGChange_len) rfl ht_70) ?_)
      rintro w v w' hm ⟨o_71, cap_72, sp_73, _, rfl, hs_74, ho_75, rfl, hm'⟩
      refine ⟨_, hm.app hm', jkO ?_⟩
      clear hm hm'
      refine jo_f [(0, 0), (0, 0), (0, 0), (0, 0), (0, 0)] (by kernel_rfl) ?_
      refine jo_end (by kernel_rfl) ?_
      refine jx_then ?_
      refine jc_seq ?_
      refine jc_region ?_
      refine jo_f [(1, 0)] (by kernel_rfl) ?_
      refine toO (by kernel_rfl) (p_ldA 0 3 b_42 96 1 31 encU32 a_4 (by kernel_rfl) (by kernel_rfl) (by kernel_rfl) encU32_len (by kernel_rfl) (jkO ?_))
      refine jo_f [(0, 0)] (by kernel_rfl) ?_
      obtain ⟨t_13, ht_76, h⟩ := bd h
      refine toO (by kernel_rfl) (p_call 0 13 #[(.agg #[(.int .i16 t_2.fSteps), (.slice (o_6.map fun b => ⟨b, 0, none⟩) t_2.fHammers.length cap_7)]), (.agg (row encU32 a_4.1 []).toArray), (.slice (o_71.map fun b => ⟨b, 0, none⟩) t_12.1.length cap_72)] (by kernel_rfl) (by kernel_rfl) (fun w hm => impl_MakeChanges.calls t_2 a_4 t_12.1 w _ (o_6.map fun b => ⟨b, 0, none⟩) t_2.fHammers.length cap_7 (hm.ownRow (hh := 0) (o := o_6) (T := 137) (enc := encGHammer) (xs := t_2.fHammers) (sp := sp_8) (by kernel_rfl) (fun e => (ho_10 e).1) encGHammer_len) rfl (o_71.map fun b => ⟨b, 0, none⟩) t_12.1.length cap_72 (hm.ownRow (hh := 9) (o := o_71) (T := 106) (enc := encGChange) (xs := t_12.1) (sp := sp_73) (by kernel_rfl) (fun e => (ho_75 e).1) encGChange_len) rfl ht_76) ?_)
      rintro w v w' hm ⟨rfl, hm'⟩
      refine ⟨_, hm.app hm', jkO ?_⟩
      clear hm hm'
      refine jo_f [(0, 0), (0, 0), (0, 0)] (by kernel_rfl) ?_
      refine toO (by kernel_rfl) (p_a 0 [0] (by kernel_rfl) (fun b => by kernel_rfl) (fun b_77 => jkO ?_))
      refine toO (by kernel_rfl) (p_sA 0 10 b_77 96 1 31 encU32 (Arr.rep 96 0) t_13.1 (by kernel_rfl) (by kernel_rfl) (by kernel_rfl) encU32_len encU32_cell (by kernel_rfl) (jkO ?_))
      refine jo_f [(0, 0)] (by kernel_rfl) ?_
      refine jo_end (by kernel_rfl) ?_
      refine jx_then ?_
      refine jc_seq ?_
      refine jc_region ?_
      refine jo_f [(1, 0)] (by kernel_rfl) ?_
      refine toO (by kernel_rfl) (p_ldA 0 2 b_13 96 1 31 encU32 t_3 (by kernel_rfl) (by kernel_rfl) (by kernel_rfl) encU32_len (by kernel_rfl) (jkO ?_))
      refine toO (by kernel_rfl) (p_ldA 0 3 b_42 96 1 31 encU32 a_4 (by kernel_rfl) (by kernel_rfl) (by kernel_rfl) encU32_len (by kernel_rfl) (jkO ?_))
      obtain ⟨t_14, ht_78, h⟩ := bd h
      refine toO (by kernel_rfl) (p_call 0 16 #[(.agg #[(.int .i16 t_2.fSteps), (.slice (o_6.map fun b => ⟨b, 0, none⟩) t_2.fHammers.length cap_7)]), (.agg (row encU32 t_3.1 []).toArray), (.agg (row encU32 a_4.1 []).toArray)] (by kernel_rfl) (by kernel_rfl) (fun w hm => impl_ChangeCost.calls t_2 t_3 a_4 w _ (o_6.map fun b => ⟨b, 0, none⟩) t_2.fHammers.length cap_7 (hm.ownRow (hh := 0) (o := o_6) (T := 137) (enc := encGHammer) (xs := t_2.fHammers) (sp := sp_8) (by kernel_rfl) (fun e => (ho_10 e).1) encGHammer_len) rfl ht_78) ?_)
      rintro w v w' hm ⟨rfl, hm'⟩
      refine ⟨_, hm.app hm', jkO ?_⟩
      clear hm hm'
      refine jo_f [(0, 0), (0, 0), (0, 0), (0, 0), (0, 0)] (by kernel_rfl) ?_
      refine jo_end (by kernel_rfl) ?_
      refine jx_then ?_
      refine jc_seq ?_
      refine jc_region ?_
      refine jo_f [(1, 0)] (by kernel_rfl) ?_
      refine toO (by kernel_rfl) (p_ldA 0 3 b_42 96 1 31 encU32 a_4 (by kernel_rfl) (by kernel_rfl) (by kernel_rfl) encU32_len (by kernel_rfl) (jkO ?_))
      refine toO (by kernel_rfl) (p_ldA 0 2 b_13 96 1 31 encU32 t_3 (by kernel_rfl) (by kernel_rfl) (by kernel_rfl) encU32_len (by kernel_rfl) (jkO ?_))
      obtain ⟨t_15, ht_79, h⟩ := bd h
      refine toO (by kernel_rfl) (p_call 0 16 #[(.agg #[(.int .i16 t_2.fSteps), (.slice (o_6.map fun b => ⟨b, 0, none⟩) t_2.fHammers.length cap_7)]), (.agg (row encU32 a_4.1 []).toArray), (.agg (row encU32 t_3.1 []).toArray)] (by kernel_rfl) (by kernel_rfl) (fun w hm => impl_ChangeCost.calls t_2 a_4 t_3 w _ (o_6.map fun b => ⟨b, 0, none⟩) t_2.fHammers.length cap_7 (hm.ownRow (hh := 0) (o := o_6) (T := 137) (enc := encGHammer) (xs := t_2.fHammers) (sp := sp_8) (by kernel_rfl) (fun e => (ho_10 e).1) encGHammer_len) rfl ht_79) ?_)
      rintro w v w' hm ⟨rfl, hm'⟩
      refine ⟨_, hm.app hm', jkO ?_⟩
      clear hm hm'
      refine jo_f [(0, 0), (0, 0), (0, 0), (0, 0), (0, 0)] (by kernel_rfl) ?_
      refine jo_end (by kernel_rfl) ?_
      refine jx_then ?_
      refine jc_seq ?_
      refine jc_region ?_
      refine jo_f [(1, 0)] (by kernel_rfl) ?_
      refine toO (by kernel_rfl) (p_ldA 0 2 b_13 96 1 31 encU32 t_3 (by kernel_rfl) (by kernel_rfl) (by kernel_rfl) encU32_len (by kernel_rfl) (jkO ?_))
      refine toO (by kernel_rfl) (p_ldA 0 3 b_42 96 1 31 encU32 a_4 (by kernel_rfl) (by kernel_rfl) (by kernel_rfl) encU32_len (by kernel_rfl) (jkO ?_))
      obtain ⟨t_16, ht_80, h⟩ := bd h
      refine toO (by kernel_rfl) (p_call 0 17 #[(.agg #[(.int .i16 t_2.fSteps), (.slice (o_6.map fun b => ⟨b, 0, none⟩) t_2.fHammers.length cap_7)]), (.agg (row encU32 t_3.1 []).toArray), (.agg (row encU32 a_4.1 []).toArray)] (by kernel_rfl) (by kernel_rfl) (fun w hm => impl_PinsToMove.calls t_2 t_3 a_4 w _ (o_6.map fun b => ⟨b, 0, none⟩) t_2.fHammers.length cap_7 (hm.ownRow (hh := 0) (o := o_6) (T := 137) (enc := encGHammer) (xs := t_2.fHammers) (sp := sp_8) (by kernel_rfl) (fun e => (ho_10 e).1) encGHammer_len) rfl ht_80) ?_)
      rintro w v w' hm ⟨rfl, hm'⟩
      refine ⟨_, hm.app hm', jkO ?_⟩
      clear hm hm'
      refine jo_f [(0, 0), (0, 0), (0, 0), (0, 0), (0, 0), (0, 0), (0, 0)] (by kernel_rfl) ?_
      refine jo_end (by kernel_rfl) ?_
      refine jx_then ?_
      refine jc_seq ?_
      refine jc_region ?_
      refine jo_f [(1, 0)] (by kernel_rfl) ?_
      refine toO (by kernel_rfl) (p_ldA 0 2 b_13 96 1 31 encU32 t_3 (by kernel_rfl) (by kernel_rfl) (by kernel_rfl) encU32_len (by kernel_rfl) (jkO ?_))
      refine jo_f [(0, 0)] (by kernel_rfl) ?_
      obtain ⟨t_17, ht_81, h⟩ := bd h
      refine toO (by kernel_rfl) (p_call 0 18 #[(.agg #[(.int .i16 t_2.fSteps), (.slice (o_6.map fun b => ⟨b, 0, none⟩) t_2.fHammers.length cap_7)]), (.agg (row encU32 t_3.1 []).toArray), (.slice (o_50.map fun b => ⟨b, 0, none⟩) t_7.1.length cap_51)] (by kernel_rfl) (by kernel_rfl) (fun w hm => impl_FirstBadChange.calls t_2 t_3 t_7.1 w _ (o_6.map fun b => ⟨b, 0, none⟩) t_2.fHammers.length cap_7 (hm.ownRow (hh := 0) (o := o_6) (T := 137) (enc := encGHammer) (xs := t_2.fHammers) (sp := sp_8) (by kernel_rfl) (fun e => (ho_10 e).1) encGHammer_len) rfl (o_50.map fun b => ⟨b, 0, none⟩) t_7.1.length cap_51 (hm.ownRow (hh := 5) (o := o_50) (T := 106) (enc := encGChange) (xs := t_7.1) (sp := sp_52) (by kernel_rfl) (fun e => (ho_54 e).1) encGChange_len) rfl ht_81) ?_)
      rintro w v w' hm ⟨rfl, hm'⟩
      refine ⟨_, hm.app hm', jkO ?_⟩
      clear hm hm'
      refine jo_f [(0, 0), (0, 0), (0, 0), (0, 0), (0, 0)] (by kernel_rfl) ?_
      refine jo_end (by kernel_rfl) ?_
      refine jx_then ?_
      refine jc_seq ?_
      refine jc_seq ?_
      refine jc_meet (fun (j : Bool) => match j with | q_18 => laws_FnChanged.k_19 more1 t_2 t_3 a_4 t_7 t_14 q_18 = some r) (fun (j : Bool) => match j with | q_18 => [(1, [], (.slice more1_a more1.length more1_c)), (4, [], (.bool false)), (5, [], (.pointer (some ⟨b_11, 0, none⟩))), (6, [], (.pointer (some ⟨b_13, 0, none⟩))), (7, [], (.pointer (some ⟨b_42, 0, none⟩))), (10, [], (.slice (o_50.map fun b => ⟨b, 0, none⟩) t_7.1.length cap_51)), (22, [], (.int .i64 t_14.1)), (235, [], (.bool q_18))]) (fun (j : Bool) => match j with | q_18 => [⟨o_6, 137, row encGHammer t_2.fHammers sp_8⟩, ⟨some b_11, 27, [(.int .i16 t_2.fSteps), (.slice (o_6.map fun b => ⟨b, 0, none⟩) t_2.fHammers.length cap_7)]⟩, ⟨(some b_13), 31, row encU32 t_3.1 []⟩, ⟨(some b_42), 31, row encU32 a_4.1 []⟩, ⟨o_44, 106, row encGChange t_6.1 sp_46⟩, ⟨o_50, 106, row encGChange t_7.1 sp_52⟩, ⟨o_57, 106, row encGChange t_9.1 sp_59⟩, ⟨(some b_63), 31, row encU32 t_10.1.1 []⟩, ⟨o_65, 106, row encGChange t_11.1 sp_67⟩, ⟨o_71, 106, row encGChange t_12.1 sp_73⟩, ⟨(some b_77), 31, row encU32 t_13.1.1 []⟩]) ?_ ?_
      · refine jc_region ?_
        refine jo_f [(0, 0), (0, 0), (0, 0), (0, 0), (0, 1), (0, 1), (0, 0), (0, 0), (0, 1), (0, 1)] (by kernel_rfl) ?_
        refine jo_split 145 ((t_6.2 != t_7.2) || (t_6.2 != 0)) (by kernel_rfl) (fun hc_198 => ?_) (fun hc_198 => ?_)
        · replace h := ifT hc_198 h
          refine jo_f [(0, 3), (0, 3), (0, 4), (0, 0), (0, 3), (0, 3), (0, 4), (0, 0), (0, 3), (0, 3), (0, 3), (0, 3), (0, 4), (0, 0), (0, 3), (0, 3), (0, 4), (0, 0), (0, 3), (0, 3), (0, 3), (0, 4), (0, 0), (0, 3), (0, 3), (0, 3), (0, 4), (0, 0), (0, 3), (0, 3), (0, 4), (0, 0), (0, 3), (0, 3), (0, 3), (0, 3), (0, 4), (0, 0), (0, 3), (0, 3), (0, 4), (0, 0), (0, 3), (0, 3), (0, 3), (0, 4), (0, 0), (0, 3), (0, 3), (0, 4), (0, 0), (0, 3), (0, 3), (0, 4), (0, 0), (0, 3), (0, 3), (0, 3), (0, 3), (0, 4), (0, 0), (0, 3), (0, 3), (0, 3), (0, 4), (0, 0), (0, 3), (0, 3), (0, 4), (0, 0), (0, 3), (0, 3), (0, 3), (0, 3), (0, 3), (0, 4), (0, 0), (0, 3), (0, 3), (0, 4), (0, 0), (0, 3), (0, 3), (0, 3), (0, 3), (0, 3), (0, 3), (0, 4)] (by kernel_rfl) ?_
          refine jo_end (by kernel_rfl) ?_
          exact jx_meet true h (by kernel_rfl) [0, 1, 2, 3, 4, 5, 6, 7, 8, 9, 10] (by kernel_rfl) (by kernel_rfl)
        · replace h := ifF hc_198 h
          obtain ⟨t_32, ht_199, h⟩ := bd h
          refine toO (by kernel_rfl) (p_call 2 19 #[(.slice (o_44.map fun b => ⟨b, 0, none⟩) t_6.1.length cap_45), (.slice (o_50.map fun b => ⟨b, 0, none⟩) t_7.1.length cap_51)] (by kernel_rfl) (by kernel_rfl) (fun w hm => spec_A2SameChanges.calls t_6.1 t_7.1 w _ (o_44.map fun b => ⟨b, 0, none⟩) t_6.1.length cap_45 (hm.ownRow (hh := 4) (o := o_44) (T := 106) (enc := encGChange) (xs := t_6.1) (sp := sp_46) (by kernel_rfl) (fun e => (ho_48 e).1) encGChange_len) rfl (o_50.map fun b => ⟨b, 0, none⟩) t_7.1.length cap_51 (hm.ownRow (hh := 5) (o := o_50) (T := 106) (enc := encGChange) (xs := t_7.1) (sp := sp_52) (by kernel_rfl) (fun e => (ho_54 e).1) encGChange_len) rfl ht_199) ?_)
          rintro w v w' hm ⟨rfl, hm'⟩
          refine ⟨_, hm.app hm', jkO ?_⟩
          clear hm hm'
          refine jo_f [(0, 2), (0, 5), (0, 0), (0, 1), (0, 1), (0, 0), (0, 0), (0, 1), (0, 1)] (by kernel_rfl) ?_
          refine jo_split 155 ((!t_32) || (t_9.2 != 0)) (by kernel_rfl) (fun hc_200 => ?_) (fun hc_200 => ?_)
          · replace h := ifT hc_200 h
            refine jo_f [(0, 3), (0, 3), (0, 4), (0, 0), (0, 3), (0, 3), (0, 4), (0, 0), (0, 3), (0, 3), (0, 3), (0, 4), (0, 0), (0, 3), (0, 3), (0, 3), (0, 4), (0, 0), (0, 3), (0, 3), (0, 4), (0, 0), (0, 3), (0, 3), (0, 3), (0, 3), (0, 4), (0, 0), (0, 3), (0, 3), (0, 4), (0, 0), (0, 3), (0, 3), (0, 3), (0, 4), (0, 0), (0, 3), (0, 3), (0, 4), (0, 0), (0, 3), (0, 3), (0, 4), (0, 0), (0, 3), (0, 3), (0, 3), (0, 3), (0, 4), (0, 0), (0, 3), (0, 3), (0, 3), (0, 4), (0, 0), (0, 3), (0, 3), (0, 4), (0, 0), (0, 3), (0, 3), (0, 3), (0, 3), (0, 3), (0, 4), (0, 0), (0, 3), (0, 3), (0, 4), (0, 0), (0, 3), (0, 3), (0, 3), (0, 3), (0, 3), (0, 3), (0, 4)] (by kernel_rfl) ?_
            refine jo_end (by kernel_rfl) ?_
            exact jx_meet true h (by kernel_rfl) [0, 1, 2, 3, 4, 5, 6, 7, 8, 9, 10] (by kernel_rfl) (by kernel_rfl)
          · replace h := ifF hc_200 h
            obtain ⟨t_33, ht_201, h⟩ := bd h
            refine toO (by kernel_rfl) (p_call 2 19 #[(.slice (o_57.map fun b => ⟨b, 0, none⟩) t_9.1.length cap_58), (.slice (o_50.map fun b => ⟨b, 0, none⟩) t_7.1.length cap_51)] (by kernel_rfl) (by kernel_rfl) (fun w hm => spec_A2SameChanges.calls t_9.1 t_7.1 w _ (o_57.map fun b => ⟨b, 0, none⟩) t_9.1.length cap_58 (hm.ownRow (hh := 6) (o := o_57) (T := 106) (enc := encGChange) (xs := t_9.1) (sp := sp_59) (by kernel_rfl) (fun e => (ho_61 e).1) encGChange_len) rfl (o_50.map fun b => ⟨b, 0, none⟩) t_7.1.length cap_51 (hm.ownRow (hh := 5) (o := o_50) (T := 106) (enc := encGChange) (xs := t_7.1) (sp := sp_52) (by kernel_rfl) (fun e => (ho_54 e).1) encGChange_len) rfl ht_201) ?_)
            rintro w v w' hm ⟨rfl, hm'⟩
            refine ⟨_, hm.app hm', jkO ?_⟩
            clear hm hm'
            refine jo_f [(0, 2), (0, 5), (0, 0), (0, 1), (0, 1), (0, 0), (0, 0)] (by kernel_rfl) ?_
            refine jo_split 165 ((!t_33) || (t_10.2 != 0)) (by kernel_rfl) (fun hc_202 => ?_) (fun hc_202 => ?_)
            · replace h := ifT hc_202 h
              refine jo_f [(0, 3), (0, 3), (0, 3), (0, 4), (0, 0), (0, 3), (0, 3), (0, 3), (0, 4), (0, 0), (0, 3), (0, 3), (0, 4), (0, 0), (0, 3), (0, 3), (0, 3), (0, 3), (0, 4), (0, 0), (0, 3), (0, 3), (0, 4), (0, 0), (0, 3), (0, 3), (0, 3), (0, 4), (0, 0), (0, 3), (0, 3), (0, 4), (0, 0), (0, 3), (0, 3), (0, 4), (0, 0), (0, 3), (0, 3), (0, 3), (0, 3), (0, 4), (0, 0), (0, 3), (0, 3), (0, 3), (0, 4), (0, 0), (0, 3), (0, 3), (0, 4), (0, 0), (0, 3), (0, 3), (0, 3), (0, 3), (0, 3), (0, 4), (0, 0), (0, 3), (0, 3), (0, 4), (0, 0), (0, 3), (0, 3), (0, 3), (0, 3), (0, 3), (0, 3), (0, 4)] (by kernel_rfl) ?_
              refine jo_end (by kernel_rfl) ?_
              exact jx_meet true h (by kernel_rfl) [0, 1, 2, 3, 4, 5, 6, 7, 8, 9, 10] (by kernel_rfl) (by kernel_rfl)
            · replace h := ifF hc_202 h
              refine toO (by kernel_rfl) (p_ldA 2 7 b_63 96 1 31 encU32 t_10.1 (by kernel_rfl) (by kernel_rfl) (by kernel_rfl) encU32_len (by kernel_rfl) (jkO ?_))
              refine toO (by kernel_rfl) (p_ldA 2 3 b_42 96 1 31 encU32 a_4 (by kernel_rfl) (by kernel_rfl) (by kernel_rfl) encU32_len (by kernel_rfl) (jkO ?_))
              refine toO (by kernel_rfl) (p_eqA 2 true 31 29 96 .u32 encU32 t_10.1 a_4 (by kernel_rfl) (by kernel_rfl) Tryz.underlying31 Tryz.underlying29 (fun w => Tryz.sizeOf29 w) (fun w => Tryz.isAgg29 w) (fun _ => rfl) (!(t_10.1.1 == a_4.1)) rfl (jkO ?_))
              refine jo_f [(0, 5), (0, 0), (0, 1), (0, 1), (0, 1), (0, 0), (0, 0), (0, 1), (0, 1), (0, 0), (0, 0), (0, 1), (0, 1)] (by kernel_rfl) ?_
              refine jo_split 179 (((!(t_10.1.1 == a_4.1)) || (t_11.2 != t_12.2)) || (t_11.2 != 0)) (by kernel_rfl) (fun hc_203 => ?_) (fun hc_203 => ?_)
              · replace h := ifT hc_203 h
                refine jo_f [(0, 3), (0, 3), (0, 4), (0, 0), (0, 3), (0, 3), (0, 4), (0, 0), (0, 3), (0, 3), (0, 3), (0, 4), (0, 0), (0, 3), (0, 3), (0, 4), (0, 0), (0, 3), (0, 3), (0, 4), (0, 0), (0, 3), (0, 3), (0, 3), (0, 3), (0, 4), (0, 0), (0, 3), (0, 3), (0, 3), (0, 4), (0, 0), (0, 3), (0, 3), (0, 4), (0, 0), (0, 3), (0, 3), (0, 3), (0, 3), (0, 3), (0, 4), (0, 0), (0, 3), (0, 3), (0, 4), (0, 0), (0, 3), (0, 3), (0, 3), (0, 3), (0, 3), (0, 3), (0, 4)] (by kernel_rfl) ?_
                refine jo_end (by kernel_rfl) ?_
                exact jx_meet true h (by kernel_rfl) [0, 1, 2, 3, 4, 5, 6, 7, 8, 9, 10] (by kernel_rfl) (by kernel_rfl)
              · replace h := ifF hc_203 h
                obtain ⟨t_34, ht_204, h⟩ := bd h
                refine toO (by kernel_rfl) (p_call 2 19 #[(.slice (o_65.map fun b => ⟨b, 0, none⟩) t_11.1.length cap_66), (.slice (o_71.map fun b => ⟨b, 0, none⟩) t_12.1.length cap_72)] (by kernel_rfl) (by kernel_rfl) (fun w hm => spec_A2SameChanges.calls t_11.1 t_12.1 w _ (o_65.map fun b => ⟨b, 0, none⟩) t_11.1.length cap_66 (hm.ownRow (hh := 8) (o := o_65) (T := 106) (enc := encGChange) (xs := t_11.1) (sp := sp_67) (by kernel_rfl) (fun e => (ho_69 e).1) encGChange_len) rfl (o_71.map fun b => ⟨b, 0, none⟩) t_12.1.length cap_72 (hm.ownRow (hh := 9) (o := o_71) (T := 106) (enc := encGChange) (xs := t_12.1) (sp := sp_73) (by kernel_rfl) (fun e => (ho_75 e).1) encGChange_len) rfl ht_204) ?_)
                rintro w v w' hm ⟨rfl, hm'⟩
                refine ⟨_, hm.app hm', jkO ?_⟩
                clear hm hm'
                refine jo_f [(0, 2), (0, 5), (0, 0), (0, 1), (0, 1), (0, 0), (0, 0)] (by kernel_rfl) ?_
                refine jo_split 189 ((!t_34) || (t_13.2 != 0)) (by kernel_rfl) (fun hc_205 => ?_) (fun hc_205 => ?_)
                · replace h := ifT hc_205 h
                  refine jo_f [(0, 3), (0, 3), (0, 3), (0, 4), (0, 0), (0, 3), (0, 3), (0, 4), (0, 0), (0, 3), (0, 3), (0, 4), (0, 0), (0, 3), (0, 3), (0, 3), (0, 3), (0, 4), (0, 0), (0, 3), (0, 3), (0, 3), (0, 4), (0, 0), (0, 3), (0, 3), (0, 4), (0, 0), (0, 3), (0, 3), (0, 3), (0, 3), (0, 3), (0, 4), (0, 0), (0, 3), (0, 3), (0, 4), (0, 0), (0, 3), (0, 3), (0, 3), (0, 3), (0, 3), (0, 3), (0, 4)] (by kernel_rfl) ?_
                  refine jo_end (by kernel_rfl) ?_
                  exact jx_meet true h (by kernel_rfl) [0, 1, 2, 3, 4, 5, 6, 7, 8, 9, 10] (by kernel_rfl) (by kernel_rfl)
                · replace h := ifF hc_205 h
                  refine toO (by kernel_rfl) (p_ldA 2 10 b_77 96 1 31 encU32 t_13.1 (by kernel_rfl) (by kernel_rfl) (by kernel_rfl) encU32_len (by kernel_rfl) (jkO ?_))
                  refine toO (by kernel_rfl) (p_ldA 2 2 b_13 96 1 31 encU32 t_3 (by kernel_rfl) (by kernel_rfl) (by kernel_rfl) encU32_len (by kernel_rfl) (jkO ?_))
                  refine toO (by kernel_rfl) (p_eqA 2 true 31 29 96 .u32 encU32 t_13.1 t_3 (by kernel_rfl) (by kernel_rfl) Tryz.underlying31 Tryz.underlying29 (fun w => Tryz.sizeOf29 w) (fun w => Tryz.isAgg29 w) (fun _ => rfl) (!(t_13.1.1 == t_3.1)) rfl (jkO ?_))
                  refine jo_f [(0, 5), (0, 0), (0, 1), (0, 1), (0, 0), (0, 0), (0, 1), (0, 1), (0, 0), (0, 0), (0, 1), (0, 1), (0, 1), (0, 1), (0, 0), (0, 0), (0, 1), (0, 1), (0, 1), (0, 0), (0, 0), (0, 1), (0, 1), (0, 0), (0, 0), (0, 1), (0, 1), (0, 1), (0, 1), (0, 1), (0, 0), (0, 0), (0, 1), (0, 1), (0, 0), (0, 0), (0, 1), (0, 1)] (by kernel_rfl) ?_
                  refine jo_split 228 ((((((((!(t_13.1.1 == t_3.1)) || (t_14.2 != 0)) || (t_15.2 != 0)) || (t_14.1 != (t_7.1.length : Int))) || (t_15.1 != t_14.1)) || (t_16.2.2 != 0)) || ((w64 (t_16.1 + t_16.2.1)) != t_14.1)) || (t_17.2 != 6)) (by kernel_rfl) (fun hc_206 => ?_) (fun hc_206 => ?_)
                  · replace h := ifT hc_206 h
                    refine jo_f [(0, 3), (0, 3), (0, 3), (0, 3), (0, 4)] (by kernel_rfl) ?_
                    refine jo_end (by kernel_rfl) ?_
                    exact jx_meet true h (by kernel_rfl) [0, 1, 2, 3, 4, 5, 6, 7, 8, 9, 10] (by kernel_rfl) (by kernel_rfl)
                  · replace h := ifF hc_206 h
                    refine toO (by kernel_rfl) (p_ldA 2 2 b_13 96 1 31 encU32 t_3 (by kernel_rfl) (by kernel_rfl) (by kernel_rfl) encU32_len (by kernel_rfl) (jkO ?_))
                    refine toO (by kernel_rfl) (p_ldA 2 3 b_42 96 1 31 encU32 a_4 (by kernel_rfl) (by kernel_rfl) (by kernel_rfl) encU32_len (by kernel_rfl) (jkO ?_))
                    refine toO (by kernel_rfl) (p_eqA 2 false 31 29 96 .u32 encU32 t_3 a_4 (by kernel_rfl) (by kernel_rfl) Tryz.underlying31 Tryz.underlying29 (fun w => Tryz.sizeOf29 w) (fun w => Tryz.isAgg29 w) (fun _ => rfl) (t_3.1 == a_4.1) rfl (jkO ?_))
                    refine jo_f [(0, 2), (0, 5)] (by kernel_rfl) ?_
                    refine jo_end (by kernel_rfl) ?_
                    exact jx_meet ((t_14.1 == 0) != (t_3.1 == a_4.1)) h (by kernel_rfl) [0, 1, 2, 3, 4, 5, 6, 7, 8, 9, 10] (by kernel_rfl) (by kernel_rfl)
      · rintro q_18 h
        replace h : laws_FnChanged.k_19 more1 t_2 t_3 a_4 t_7 t_14 q_18 = some r := h
        rw [laws_FnChanged.k_19] at h
        refine jx_then ?_
        refine jc_cond q_18 (by kernel_rfl) (fun hc_110 => ?_) (fun hc_110 => ?_)
        · replace h := ifT hc_110 h
          refine jc_seq ?_
          refine jc_region ?_
          refine jo_f [(0, 0)] (by kernel_rfl) ?_
          refine jo_end (by kernel_rfl) ?_
          refine jx_then ?_
          refine jc_ret ?_
          refine jx_thenr ?_
          obtain rfl := Option.some.inj h
          exact jx_ret [] (.bool false) [] rfl (by kernel_rfl) (by kernel_rfl) (fun w hm => ⟨rfl, hm.pick [] (by kernel_rfl) (by kernel_rfl)⟩)
        · replace h := ifF hc_110 h
          refine jc_skip ?_
          refine jx_then ?_
          refine jc_seq ?_
          refine jc_region ?_
          refine jo_f [(1, 0)] (by kernel_rfl) ?_
          refine toO (by kernel_rfl) (p_ldA 0 2 b_13 96 1 31 encU32 t_3 (by kernel_rfl) (by kernel_rfl) (by kernel_rfl) encU32_len (by kernel_rfl) (jkO ?_))
          refine toO (by kernel_rfl) (p_ldA 0 3 b_42 96 1 31 encU32 a_4 (by kernel_rfl) (by kernel_rfl) (by kernel_rfl) encU32_len (by kernel_rfl) (jkO ?_))
          obtain ⟨t_20, ht_111, h⟩ := bd h
          refine toO (by kernel_rfl) (p_call 0 20 #[(.agg #[(.int .i16 t_2.fSteps), (.slice (o_6.map fun b => ⟨b, 0, none⟩) t_2.fHammers.length cap_7)]), (.agg (row encU32 t_3.1 []).toArray), (.agg (row encU32 a_4.1 []).toArray)] (by kernel_rfl) (by kernel_rfl) (fun w hm => impl_TurnedCost.calls t_2 t_3 a_4 w _ (o_6.map fun b => ⟨b, 0, none⟩) t_2.fHammers.length cap_7 (hm.ownRow (hh := 0) (o := o_6) (T := 137) (enc := encGHammer) (xs := t_2.fHammers) (sp := sp_8) (by kernel_rfl) (fun e => (ho_10 e).1) encGHammer_len) rfl ht_111) ?_)
          rintro w v w' hm ⟨rfl, hm'⟩
          refine ⟨_, hm.app hm', jkO ?_⟩
          clear hm hm'
          refine jo_f [(0, 0), (0, 0), (0, 0), (0, 0), (0, 0), (0, 0), (0, 0)] (by kernel_rfl) ?_
          refine jo_end (by kernel_rfl) ?_
          refine jx_then ?_
          refine jc_seq ?_
          refine jc_region ?_
          refine jo_f [(1, 0)] (by kernel_rfl) ?_
          refine toO (by kernel_rfl) (p_ldA 0 2 b_13 96 1 31 encU32 t_3 (by kernel_rfl) (by kernel_rfl) (by kernel_rfl) encU32_len (by kernel_rfl) (jkO ?_))
          refine toO (by kernel_rfl) (p_ldA 0 3 b_42 96 1 31 encU32 a_4 (by kernel_rfl) (by kernel_rfl) (by kernel_rfl) encU32_len (by kernel_rfl) (jkO ?_))
          obtain ⟨t_21, ht_112, h⟩ := bd h
          refine toO (by kernel_rfl) (p_call 0 21 #[(.agg #[(.int .i16 t_2.fSteps), (.slice (o_6.map fun b => ⟨b, 0, none⟩) t_2.fHammers.length cap_7)]), (.agg (row encU32 t_3.1 []).toArray), (.agg (row encU32 a_4.1 []).toArray)] (by kernel_rfl) (by kernel_rfl) (fun w hm => spec_TurnedCost.calls t_2 t_3 a_4 w _ (o_6.map fun b => ⟨b, 0, none⟩) t_2.fHammers.length cap_7 (hm.ownRow (hh := 0) (o := o_6) (T := 137) (enc := encGHammer) (xs := t_2.fHammers) (sp := sp_8) (by kernel_rfl) (fun e => (ho_10 e).1) encGHammer_len) rfl ht_112) ?_)
          rintro w v w' hm ⟨rfl, hm'⟩
          refine ⟨_, hm.app hm', jkO ?_⟩
          clear hm hm'
          refine jo_f [(0, 0), (0, 0), (0, 0), (0, 0), (0, 0), (0, 0), (0, 0)] (by kernel_rfl) ?_
          refine jo_end (by kernel_rfl) ?_
          refine jx_then ?_
          refine jc_seq ?_
          refine jc_region ?_
          refine jo_f [(1, 0)] (by kernel_rfl) ?_
          refine toO (by kernel_rfl) (p_ldA 0 3 b_42 96 1 31 encU32 a_4 (by kernel_rfl) (by kernel_rfl) (by kernel_rfl) encU32_len (by kernel_rfl) (jkO ?_))
          refine jo_f [(0, 0)] (by kernel_rfl) ?_
          obtain ⟨t_22, ht_113, h⟩ := bd h
          refine toO (by kernel_rfl) (p_call 0 22 #[(.agg #[(.int .i16 t_2.fSteps), (.slice (o_6.map fun b => ⟨b, 0, none⟩) t_2.fHammers.length cap_7)]), (.agg (row encU32 a_4.1 []).toArray), (.int .i64 t_21.2.1)] (by kernel_rfl) (by kernel_rfl) (fun w hm => impl_TurnDrum.calls t_2 a_4 t_21.2.1 w _ (o_6.map fun b => ⟨b, 0, none⟩) t_2.fHammers.length cap_7 (hm.ownRow (hh := 0) (o := o_6) (T := 137) (enc := encGHammer) (xs := t_2.fHammers) (sp := sp_8) (by kernel_rfl) (fun e => (ho_10 e).1) encGHammer_len) rfl ht_113) ?_)
          rintro w v w' hm ⟨rfl, hm'⟩
          refine ⟨_, hm.app hm', jkO ?_⟩
          clear hm hm'
          refine jo_f [(0, 0), (0, 0), (0, 0)] (by kernel_rfl) ?_
          refine toO (by kernel_rfl) (p_a 0 [0] (by kernel_rfl) (fun b => by kernel_rfl) (fun b_114 => jkO ?_))
          refine toO (by kernel_rfl) (p_sA 0 11 b_114 96 1 31 encU32 (Arr.rep 96 0) t_22.1 (by kernel_rfl) (by kernel_rfl) (by kernel_rfl) encU32_len encU32_cell (by kernel_rfl) (jkO ?_))
          refine jo_f [(0, 0)] (by kernel_rfl) ?_
          refine jo_end (by kernel_rfl) ?_
          refine jx_then ?_
          refine jc_seq ?_
          refine jc_region ?_
          refine jo_f [(1, 0)] (by kernel_rfl) ?_
          refine toO (by kernel_rfl) (p_ldA 0 2 b_13 96 1 31 encU32 t_3 (by kernel_rfl) (by kernel_rfl) (by kernel_rfl) encU32_len (by kernel_rfl) (jkO ?_))
          refine toO (by kernel_rfl) (p_ldA 0 11 b_114 96 1 31 encU32 t_22.1 (by kernel_rfl) (by kernel_rfl) (by kernel_rfl) encU32_len (by kernel_rfl) (jkO ?_))
          obtain ⟨t_23, ht_115, h⟩ := bd h
          refine toO (by kernel_rfl) (p_call 0 16 #[(.agg #[(.int .i16 t_2.fSteps), (.slice (o_6.map fun b => ⟨b, 0, none⟩) t_2.fHammers.length cap_7)]), (.agg (row encU32 t_3.1 []).toArray), (.agg (row encU32 t_22.1.1 []).toArray)] (by kernel_rfl) (by kernel_rfl) (fun w hm => impl_ChangeCost.calls t_2 t_3 t_22.1 w _ (o_6.map fun b => ⟨b, 0, none⟩) t_2.fHammers.length cap_7 (hm.ownRow (hh := 0) (o := o_6) (T := 137) (enc := encGHammer) (xs := t_2.fHammers) (sp := sp_8) (by kernel_rfl) (fun e => (ho_10 e).1) encGHammer_len) rfl ht_115) ?_)
          rintro w v w' hm ⟨rfl, hm'⟩
          refine ⟨_, hm.app hm', jkO ?_⟩
          clear hm hm'
          refine jo_f [(0, 0), (0, 0), (0, 0), (0, 0), (0, 0)] (by kernel_rfl) ?_
          refine jo_end (by kernel_rfl) ?_
          refine jx_then ?_
          refine jc_seq ?_
          refine jc_seq ?_
          refine jc_region ?_
          refine jo_f [(0, 0), (0, 0), (0, 0), (0, 0), (0, 1), (0, 1), (0, 0), (0, 0), (0, 1), (0, 1), (0, 1), (0, 0), (0, 0), (0, 1), (0, 1), (0, 1), (0, 0), (0, 0), (0, 1), (0, 1), (0, 1), (0, 0), (0, 0), (0, 1), (0, 1), (0, 0), (0, 0), (0, 1), (0, 1), (0, 0), (0, 0), (0, 1), (0, 1), (0, 1), (0, 0)] (by kernel_rfl) ?_
          refine jo_end (by kernel_rfl) ?_
          refine jx_then ?_
          refine jc_cond ((((((((t_20.2.2 != t_21.2.2) || (t_20.2.2 != 0)) || (t_20.1 != t_21.1)) || (t_20.2.1 != t_21.2.1)) || (decide (t_21.1 > t_14.1))) || (t_22.2 != 0)) || (t_23.2 != 0)) || (t_23.1 != t_21.1)) (by kernel_rfl) (fun hc_117 => ?_) (fun hc_117 => ?_)
          · replace h := ifT hc_117 h
            refine jc_seq ?_
            refine jc_region ?_
            refine jo_f [(0, 0)] (by kernel_rfl) ?_
            refine jo_end (by kernel_rfl) ?_
            refine jx_then ?_
            refine jc_ret ?_
            refine jx_thenr ?_
            obtain rfl := Option.some.inj h
            exact jx_ret [] (.bool false) [] rfl (by kernel_rfl) (by kernel_rfl) (fun w hm => ⟨rfl, hm.pick [] (by kernel_rfl) (by kernel_rfl)⟩)
          · replace h := ifF hc_117 h
            refine jc_skip ?_
            refine jx_then ?_
            refine jc_seq ?_
            refine jc_seq ?_
            refine jc_region ?_
            refine jo_f [(0, 0), (0, 0), (0, 0)] (by kernel_rfl) ?_
            refine jo_end (by kernel_rfl) ?_
            refine jx_then ?_
            refine jc_cond ((t_7.1.length : Int) == 0) (by kernel_rfl) (fun hc_119 => ?_) (fun hc_119 => ?_)
            · replace h := ifT hc_119 h
              refine jc_seq ?_
              refine jc_region ?_
              refine jo_f [(0, 0)] (by kernel_rfl) ?_
              refine jo_end (by kernel_rfl) ?_
              refine jx_then ?_
              refine jc_ret ?_
              refine jx_thenr ?_
              obtain rfl := Option.some.inj h
              exact jx_ret [] (.bool true) [] rfl (by kernel_rfl) (by kernel_rfl) (fun w hm => ⟨rfl, hm.pick [] (by kernel_rfl) (by kernel_rfl)⟩)
            · replace h := ifF hc_119 h
              refine jc_skip ?_
              refine jx_then ?_
              refine jc_seq ?_
              refine jc_region ?_
              refine jo_f [(0, 0), (0, 0), (0, 0)] (by kernel_rfl) ?_
              obtain ⟨t_24, ht_120, h⟩ := bd h
              refine toO (by kernel_rfl) (p_call 0 23 #[(.slice more1_a more1.length more1_c), (.int .i64 0), (.int .i64 (t_7.1.length : Int))] (by kernel_rfl) (by kernel_rfl) (fun w hm => laws_a2At.calls more1 0 (t_7.1.length : Int) w _ more1_a more1.length more1_c (hm.exRow more1_h List.not_mem_nil) rfl ht_120) ?_)
              rintro w v w' hm ⟨rfl, hm'⟩
              refine ⟨_, hm.app hm', jkO ?_⟩
              clear hm hm'
              refine jo_f [(0, 0)] (by kernel_rfl) ?_
              refine jo_end (by kernel_rfl) ?_
              refine jx_then ?_
              refine jc_seq ?_
              refine jc_draw [⟨o_6, 137, row encGHammer t_2.fHammers sp_8⟩, ⟨some b_11, 27, [(.int .i16 t_2.fSteps), (.slice (o_6.map fun b => ⟨b, 0, none⟩) t_2.fHammers.length cap_7)]⟩, ⟨(some b_13), 31, row encU32 t_3.1 []⟩, ⟨(some b_42), 31, row encU32 a_4.1 []⟩, ⟨o_44, 106, row encGChange t_6.1 sp_46⟩, ⟨o_50, 106, row encGChange t_7.1 sp_52⟩, ⟨o_57, 106, row encGChange t_9.1 sp_59⟩, ⟨(some b_63), 31, row encU32 t_10.1.1 []⟩, ⟨o_65, 106, row encGChange t_11.1 sp_67⟩, ⟨o_71, 106, row encGChange t_12.1 sp_73⟩, ⟨(some b_77), 31, row encU32 t_13.1.1 []⟩, ⟨(some b_114), 31, row encU32 t_22.1.1 []⟩] 11 (by kernel_rfl) (by kernel_rfl) ?_
              refine jd_f [⟨1, 0, 0⟩, ⟨2, 0, 0⟩, ⟨3, 0, 0⟩, ⟨6, 0, 0⟩, ⟨7, 0, 0⟩] 6 (by kernel_rfl) (by kernel_rfl) (fun w h => h.pick [0, 1, 2, 3, 4, 5, 6, 7, 8, 9, 10, 11] (by kernel_rfl) (by kernel_rfl)) (by kernel_rfl) (by kernel_rfl) ?_
              obtain ⟨hg_121, h⟩ := gd h
              refine jd_v 4 0 (by kernel_rfl) (fun w h => h.pick [0, 1, 2, 3, 4, 5, 6, 7, 8, 9, 10, 11] (by kernel_rfl) (by kernel_rfl)) (by kernel_rfl) (by kernel_rfl) _ (fun w hm => slH_run (a := (o_50.map fun b => ⟨b, 0, none⟩)) (len := t_7.1.length) (cap := cap_51) (size := 3) (h := (w64 (t_24 + 1))) (by kernel_rfl) hg_121.1 (Int.le_trans hg_121.2 (Int.ofNat_le.2 (cap_le rfl hs_53 ho_54)))) ?_
              obtain ⟨hg_122, h⟩ := gd h
              refine jd_v 8 0 (by kernel_rfl) (fun w h => h.pick [0, 1, 2, 3, 4, 5, 6, 7, 8, 9, 10, 11] (by kernel_rfl) (by kernel_rfl)) (by kernel_rfl) (by kernel_rfl) _ (fun w hm => slL_run (a := (o_50.map fun b => ⟨b, 0, none⟩)) (len := t_7.1.length) (cap := cap_51) (size := 3) (l := t_24) (by kernel_rfl) hg_122.1 (Int.le_trans hg_122.2 (Int.ofNat_le.2 (Nat.le_of_eq rfl)))) ?_
              refine toD 0 (by kernel_rfl) (p_a 0 [0] (by kernel_rfl) (fun b => by kernel_rfl) (fun b_123 => jkD (fun w h => h.pick [0, 1, 2, 3, 4, 5, 6, 7, 8, 9, 10, 11] (by kernel_rfl) (by kernel_rfl)) ?_))
              obtain ⟨hg_124, h⟩ := gd h
              refine toD 5 (by kernel_rfl) (p_apn 0 12 (some b_123) 106 0 ((w64 (t_24 + 1)).toNat) 0 3 4 (o_50.map fun b => ⟨b, 0, none⟩) encGChange ([] : List GChange) (t_7.1.take (w64 (t_24 + 1)).toNat) [] (.agg #[(.int .i16 0), (.int .i8 0), (.bool false)]) rfl (hd_len hg_121) (by kernel_rfl) (by kernel_rfl) (by kernel_rfl) encGChange_len encGChange_cell (fun _ => ⟨Nat.le_refl _, by simp⟩) (fun e => nomatch e) (fun w hm => ((hm.ownRow (hh := 5) (o := o_50) (T := 106) (enc := encGChange) (xs := t_7.1) (sp := sp_52) (by kernel_rfl) (fun e => (ho_54 e).1) encGChange_len).hd ((w64 (t_24 + 1)).toNat))) hg_124 (by kernel_rfl) (by kernel_rfl) (fun o_125 cap_126 sp_127 hs_128 ho_129 => jkD (fun w h => h.pick [0, 1, 2, 3, 4, 5, 6, 7, 8, 9, 10, 11] (by kernel_rfl) (by kernel_rfl)) ?_))
              obtain ⟨hg_130, h⟩ := gd h
              refine toD 9 (by kernel_rfl) (p_apn 0 12 o_125 106 ((([] : List GChange) ++ (t_7.1.take (w64 (t_24 + 1)).toNat)).length) (t_7.1.length - t_24.toNat) cap_126 3 4 (pa (o_50.map fun b => ⟨b, 0, none⟩) t_24.toNat cap_51 3) encGChange (([] : List GChange) ++ (t_7.1.take (w64 (t_24 + 1)).toNat)) (t_7.1.drop t_24.toNat) sp_127 (.agg #[(.int .i16 0), (.int .i8 0), (.bool false)]) rfl (tl_len rfl t_24) (by kernel_rfl) (by kernel_rfl) (by kernel_rfl) encGChange_len encGChange_cell hs_128 ho_129 (fun w hm => ((hm.ownRow (hh := 5) (o := o_50) (T := 106) (enc := encGChange) (xs := t_7.1) (sp := sp_52) (by kernel_rfl) (fun e => (ho_54 e).1) encGChange_len).tl t_24.toNat cap_51 (cap_le rfl hs_53 ho_54))) hg_130 (by kernel_rfl) (by kernel_rfl) (fun o_131 cap_132 sp_133 hs_134 ho_135 => jkD (fun w h => h.pick [0, 1, 2, 3, 4, 5, 6, 7, 8, 9, 10, 11] (by kernel_rfl) (by kernel_rfl)) ?_))
              refine jd_f [⟨10, 0, 0⟩] 0 (by kernel_rfl) (by kernel_rfl) (fun w h => h.pick [0, 1, 2, 3, 4, 5, 6, 7, 8, 9, 10, 11] (by kernel_rfl) (by kernel_rfl)) (by kernel_rfl) (by kernel_rfl) ?_
              refine jd_end (by kernel_rfl) ?_
              refine jx_then ?_
              refine jc_seq ?_
              refine jc_region ?_
              refine jo_f [(1, 0)] (by kernel_rfl) ?_
              refine toO (by kernel_rfl) (p_ldA 0 2 b_13 96 1 31 encU32 t_3 (by kernel_rfl) (by kernel_rfl) (by kernel_rfl) encU32_len (by kernel_rfl) (jkO ?_))
              refine jo_f [(0, 0)] (by kernel_rfl) ?_
              obtain ⟨t_25, ht_136, h⟩ := bd h
              refine toO (by kernel_rfl) (p_call 0 18 #[(.agg #[(.int .i16 t_2.fSteps), (.slice (o_6.map fun b => ⟨b, 0, none⟩) t_2.fHammers.length cap_7)]), (.agg (row encU32 t_3.1 []).toArray), (.slice (o_131.map fun b => ⟨b, 0, none⟩) (((([] : List GChange) ++ (t_7.1.take (w64 (t_24 + 1)).toNat)) ++ (t_7.1.drop t_24.toNat)).length) cap_132)] (by kernel_rfl) (by kernel_rfl) (fun w hm => impl_FirstBadChange.calls t_2 t_3 ((([] : List GChange) ++ (t_7.1.take (w64 (t_24 + 1)).toNat)) ++ (t_7.1.drop t_24.toNat)) w _ (o_6.map fun b => ⟨b, 0, none⟩) t_2.fHammers.length cap_7 (hm.ownRow (hh := 0) (o := o_6) (T := 137) (enc := encGHammer) (xs := t_2.fHammers) (sp := sp_8) (by kernel_rfl) (fun e => (ho_10 e).1) encGHammer_len) rfl (o_131.map fun b => ⟨b, 0, none⟩) (((([] : List GChange) ++ (t_7.1.take (w64 (t_24 + 1)).toNat)) ++ (t_7.1.drop t_24.toNat)).length) cap_132 (hm.ownRow (hh := 12) (o := o_131) (T := 106) (enc := encGChange) (xs := ((([] : List GChange) ++ (t_7.1.take (w64 (t_24 + 1)).toNat)) ++ (t_7.1.drop t_24.toNat))) (sp := sp_133) (by kernel_rfl) (fun e => (ho_135 e).1) encGChange_len) rfl ht_136) ?_)
              rintro w v w' hm ⟨rfl, hm'⟩
              refine ⟨_, hm.app hm', jkO ?_⟩
              clear hm hm'
              refine jo_f [(0, 0), (0, 0), (0, 0), (0, 0), (0, 0)] (by kernel_rfl) ?_
              refine jo_end (by kernel_rfl) ?_
              refine jx_then ?_
              refine jc_seq ?_
              refine jc_region ?_
              refine jo_f [(1, 0)] (by kernel_rfl) ?_
              refine toO (by kernel_rfl) (p_ldA 0 2 b_13 96 1 31 encU32 t_3 (by kernel_rfl) (by kernel_rfl) (by kernel_rfl) encU32_len (by kernel_rfl) (jkO ?_))
              refine jo_f [(0, 0)] (by kernel_rfl) ?_
              obtain ⟨t_26, ht_137, h⟩ := bd h
              refine toO (by kernel_rfl) (p_call 0 13 #[(.agg #[(.int .i16 t_2.fSteps), (.slice (o_6.map fun b => ⟨b, 0, none⟩) t_2.fHammers.length cap_7)]), (.agg (row encU32 t_3.1 []).toArray), (.slice (o_131.map fun b => ⟨b, 0, none⟩) (((([] : List GChange) ++ (t_7.1.take (w64 (t_24 + 1)).toNat)) ++ (t_7.1.drop t_24.toNat)).length) cap_132)] (by kernel_rfl) (by kernel_rfl) (fun w hm => impl_MakeChanges.calls t_2 t_3 ((([] : List GChange) ++ (t_7.1.take (w64 (t_24 + 1)).toNat)) ++ (t_7.1.drop t_24.toNat)) w _ (o_6.map fun b => ⟨b, 0, none⟩) t_2.fHammers.length cap_7 (hm.ownRow (hh := 0) (o := o_6) (T := 137) (enc := encGHammer) (xs := t_2.fHammers) (sp := sp_8) (by kernel_rfl) (fun e => (ho_10 e).1) encGHammer_len) rfl (o_131.map fun b => ⟨b, 0, none⟩) (((([] : List GChange) ++ (t_7.1.take (w64 (t_24 + 1)).toNat)) ++ (t_7.1.drop t_24.toNat)).length) cap_132 (hm.ownRow (hh := 12) (o := o_131) (T := 106) (enc := encGChange) (xs := ((([] : List GChange) ++ (t_7.1.take (w64 (t_24 + 1)).toNat)) ++ (t_7.1.drop t_24.toNat))) (sp := sp_133) (by kernel_rfl) (fun e => (ho_135 e).1) encGChange_len) rfl ht_137) ?_)
              rintro w v w' hm ⟨rfl, hm'⟩
              refine ⟨_, hm.app hm', jkO ?_⟩
              clear hm hm'
              refine jo_f [(0, 0), (0, 0), (0, 0)] (by kernel_rfl) ?_
              refine toO (by kernel_rfl) (p_a 0 [0] (by kernel_rfl) (fun b => by kernel_rfl) (fun b_138 => jkO ?_))
              refine toO (by kernel_rfl) (p_sA 0 13 b_138 96 1 31 encU32 (Arr.rep 96 0) t_26.1 (by kernel_rfl) (by kernel_rfl) (by kernel_rfl) encU32_len encU32_cell (by kernel_rfl) (jkO ?_))
              refine jo_f [(0, 0)] (by kernel_rfl) ?_
              refine jo_end (by kernel_rfl) ?_
              refine jx_then ?_
              refine jc_seq ?_
              refine jc_meet (fun (j : (Arr 96 Int) × Nat) => match j with | ⟨a_27, b_167⟩ => laws_FnChanged.k_28 t_2 t_3 a_4 t_14 t_24 t_25 t_26 a_27 = some r) (fun (j : (Arr 96 Int) × Nat) => match j with | ⟨a_27, b_167⟩ => [(4, [], (.bool false)), (5, [], (.pointer (some ⟨b_11, 0, none⟩))), (6, [], (.pointer (some ⟨b_13, 0, none⟩))), (7, [], (.pointer (some ⟨b_42, 0, none⟩))), (22, [], (.int .i64 t_14.1)), (41, [], (.int .i64 t_24)), (43, [], (.int .i64 t_25.1)), (44, [], (.int .i64 t_25.2)), (46, [], (.int .i64 t_26.2)), (47, [], (.pointer (some ⟨b_167, 0, none⟩)))]) (fun (j : (Arr 96 Int) × Nat) => match j with | ⟨a_27, b_167⟩ => [⟨o_6, 137, row encGHammer t_2.fHammers sp_8⟩, ⟨some b_11, 27, [(.int .i16 t_2.fSteps), (.slice (o_6.map fun b => ⟨b, 0, none⟩) t_2.fHammers.length cap_7)]⟩, ⟨(some b_13), 31, row encU32 t_3.1 []⟩, ⟨(some b_42), 31, row encU32 a_4.1 []⟩, ⟨o_44, 106, row encGChange t_6.1 sp_46⟩, ⟨o_50, 106, row encGChange t_7.1 sp_52⟩, ⟨o_57, 106, row encGChange t_9.1 sp_59⟩, ⟨(some b_63), 31, row encU32 t_10.1.1 []⟩, ⟨o_65, 106, row encGChange t_11.1 sp_67⟩, ⟨o_71, 106, row encGChange t_12.1 sp_73⟩, ⟨(some b_77), 31, row encU32 t_13.1.1 []⟩, ⟨(some b_114), 31, row encU32 t_22.1.1 []⟩, ⟨o_131, 106, row encGChange ((([] : List GChange) ++ (t_7.1.take (w64 (t_24 + 1)).toNat)) ++ (t_7.1.drop t_24.toNat)) sp_133⟩, ⟨(some b_138), 31, row encU32 t_26.1.1 []⟩, ⟨(some b_167), 31, row encU32 a_27.1 []⟩]) ?_ ?_
              · refine jc_draw [⟨o_6, 137, row encGHammer t_2.fHammers sp_8⟩, ⟨some b_11, 27, [(.int .i16 t_2.fSteps), (.slice (o_6.map fun b => ⟨b, 0, none⟩) t_2.fHammers.length cap_7)]⟩, ⟨(some b_13), 31, row encU32 t_3.1 []⟩, ⟨(some b_42), 31, row encU32 a_4.1 []⟩, ⟨o_44, 106, row encGChange t_6.1 sp_46⟩, ⟨o_50, 106, row encGChange t_7.1 sp_52⟩, ⟨o_57, 106, row encGChange t_9.1 sp_59⟩, ⟨(some b_63), 31, row encU32 t_10.1.1 []⟩, ⟨o_65, 106, row encGChange t_11.1 sp_67⟩, ⟨o_71, 106, row encGChange t_12.1 sp_73⟩, ⟨(some b_77), 31, row encU32 t_13.1.1 []⟩, ⟨(some b_114), 31, row encU32 t_22.1.1 []⟩, ⟨o_131, 106, row encGChange ((([] : List GChange) ++ (t_7.1.take (w64 (t_24 + 1)).toNat)) ++ (t_7.1.drop t_24.toNat)) sp_133⟩, ⟨(some b_138), 31, row encU32 t_26.1.1 []⟩] 7 (by kernel_rfl) (by kernel_rfl) ?_
                refine jd_f [⟨1, 0, 0⟩, ⟨3, 1, 0⟩] 5 (by kernel_rfl) (by kernel_rfl) (fun w h => h.pick [0, 1, 2, 3, 4, 5, 6, 7, 8, 9, 10, 11, 12, 13] (by kernel_rfl) (by kernel_rfl)) (by kernel_rfl) (by kernel_rfl) ?_
                refine toD2 0 5 (by kernel_rfl) ?_ ?_
                · refine p_a 0 [0] (by kernel_rfl) (fun b => by kernel_rfl) (fun b_170 => jkD (fun w h => h.pick [0, 1, 2, 3, 4, 5, 6, 7, 8, 9, 10, 11, 12, 13] (by kernel_rfl) (by kernel_rfl)) ?_)
                  refine toD2 2 5 (by kernel_rfl) ?_ ?_
                  · obtain ⟨hg_171, h⟩ := gd h
                    refine p_apn 0 14 (some b_170) 5 1 more1.length 1 1 1 more1_a encU8 [5] more1 [] (.int .u8 0) rfl rfl (by kernel_rfl) (by kernel_rfl) (by kernel_rfl) encU8_len encU8_cell (fun _ => ⟨Nat.le_refl _, by simp⟩) (fun e => nomatch e) (fun w hm => (hm.exRow more1_h List.not_mem_nil)) hg_171 (by kernel_rfl) (by kernel_rfl) (fun o_172 cap_173 sp_174 hs_175 ho_176 => jkD (fun w h => h.pick [0, 1, 2, 3, 4, 5, 6, 7, 8, 9, 10, 11, 12, 13] (by kernel_rfl) (by kernel_rfl)) ?_)
                    refine toD2 4 5 (by kernel_rfl) ?_ ?_
                    · obtain ⟨t_31, ht_177, h⟩ := bd h
                      refine p_call 0 8 #[(.slice (o_172.map fun b => ⟨b, 0, none⟩) (([5] ++ more1).length) cap_173), (.agg #[(.int .i16 t_2.fSteps), (.slice (o_6.map fun b => ⟨b, 0, none⟩) t_2.fHammers.length cap_7)])] (by kernel_rfl) (by kernel_rfl) (fun w hm => spec_A2Drum.calls ([5] ++ more1) t_2 w _ (o_172.map fun b => ⟨b, 0, none⟩) (([5] ++ more1).length) cap_173 (hm.ownRow (hh := 14) (o := o_172) (T := 5) (enc := encU8) (xs := ([5] ++ more1)) (sp := sp_174) (by kernel_rfl) (fun e => (ho_176 e).1) encU8_len) rfl (o_6.map fun b => ⟨b, 0, none⟩) t_2.fHammers.length cap_7 (hm.ownRow (hh := 0) (o := o_6) (T := 137) (enc := encGHammer) (xs := t_2.fHammers) (sp := sp_8) (by kernel_rfl) (fun e => (ho_10 e).1) encGHammer_len) rfl ht_177) ?_
                      rintro w v w' hm ⟨rfl, hm'⟩
                      refine ⟨_, hm.app hm', jkD (fun w h => h.pick [0, 1, 2, 3, 4, 5, 6, 7, 8, 9, 10, 11, 12, 13] (by kernel_rfl) (by kernel_rfl)) ?_⟩
                      clear hm hm'
                      refine toD 5 (by kernel_rfl) (p_a 0 [0] (by kernel_rfl) (fun b => by kernel_rfl) (fun b_178 => jkD (fun w h => h.pick [0, 1, 2, 3, 4, 5, 6, 7, 8, 9, 10, 11, 12, 13] (by kernel_rfl) (by kernel_rfl)) ?_))
                      refine toD 6 (by kernel_rfl) (p_sA 0 15 b_178 96 1 31 encU32 (Arr.rep 96 0) t_31 (by kernel_rfl) (by kernel_rfl) (by kernel_rfl) encU32_len encU32_cell (by kernel_rfl) (jkD (fun w h => h.pick [0, 1, 2, 3, 4, 5, 6, 7, 8, 9, 10, 11, 12, 13] (by kernel_rfl) (by kernel_rfl)) ?_))
                      refine jd_end (by kernel_rfl) ?_
                      exact jx_meet ⟨t_31, b_178⟩ h (by kernel_rfl) [0, 1, 2, 3, 4, 5, 6, 7, 8, 9, 10, 11, 12, 13, 15] (by kernel_rfl) (by kernel_rfl)
                    · refine p_a 0 [0] (by kernel_rfl) (fun b => by kernel_rfl) (fun b_179 => jkD (fun w h => h.pick [0, 1, 2, 3, 4, 5, 6, 7, 8, 9, 10, 11, 12, 13] (by kernel_rfl) (by kernel_rfl)) ?_)
                      obtain ⟨t_31, ht_180, h⟩ := bd h
                      refine toD 4 (by kernel_rfl) (p_call 0 8 #[(.slice (o_172.map fun b => ⟨b, 0, none⟩) (([5] ++ more1).length) cap_173), (.agg #[(.int .i16 t_2.fSteps), (.slice (o_6.map fun b => ⟨b, 0, none⟩) t_2.fHammers.length cap_7)])] (by kernel_rfl) (by kernel_rfl) (fun w hm => spec_A2Drum.calls ([5] ++ more1) t_2 w _ (o_172.map fun b => ⟨b, 0, none⟩) (([5] ++ more1).length) cap_173 (hm.ownRow (hh := 14) (o := o_172) (T := 5) (enc := encU8) (xs := ([5] ++ more1)) (sp := sp_174) (by kernel_rfl) (fun e => (ho_176 e).1) encU8_len) rfl (o_6.map fun b => ⟨b, 0, none⟩) t_2.fHammers.length cap_7 (hm.ownRow (hh := 0) (o := o_6) (T := 137) (enc := encGHammer) (xs := t_2.fHammers) (sp := sp_8) (by kernel_rfl) (fun e => (ho_10 e).1) encGHammer_len) rfl ht_180) ?_)
                      rintro w v w' hm ⟨rfl, hm'⟩
                      refine ⟨_, hm.app hm', jkD (fun w h => h.pick [0, 1, 2, 3, 4, 5, 6, 7, 8, 9, 10, 11, 12, 13] (by kernel_rfl) (by kernel_rfl)) ?_⟩
                      clear hm hm'
                      refine toD 6 (by kernel_rfl) (p_sA 0 15 b_179 96 1 31 encU32 (Arr.rep 96 0) t_31 (by kernel_rfl) (by kernel_rfl) (by kernel_rfl) encU32_len encU32_cell (by kernel_rfl) (jkD (fun w h => h.pick [0, 1, 2, 3, 4, 5, 6, 7, 8, 9, 10, 11, 12, 13] (by kernel_rfl) (by kernel_rfl)) ?_))
                      refine jd_end (by kernel_rfl) ?_
                      exact jx_meet ⟨t_31, b_179⟩ h (by kernel_rfl) [0, 1, 2, 3, 4, 5, 6, 7, 8, 9, 10, 11, 12, 13, 15] (by kernel_rfl) (by kernel_rfl)
                  · refine p_a 0 [0] (by kernel_rfl) (fun b => by kernel_rfl) (fun b_181 => jkD (fun w h => h.pick [0, 1, 2, 3, 4, 5, 6, 7, 8, 9, 10, 11, 12, 13] (by kernel_rfl) (by kernel_rfl)) ?_)
                    obtain ⟨hg_182, h⟩ := gd h
                    refine toD 2 (by kernel_rfl) (p_apn 0 14 (some b_170) 5 1 more1.length 1 1 1 more1_a encU8 [5] more1 [] (.int .u8 0) rfl rfl (by kernel_rfl) (by kernel_rfl) (by kernel_rfl) encU8_len encU8_cell (fun _ => ⟨Nat.le_refl _, by simp⟩) (fun e => nomatch e) (fun w hm => (hm.exRow more1_h List.not_mem_nil)) hg_182 (by kernel_rfl) (by kernel_rfl) (fun o_183 cap_184 sp_185 hs_186 ho_187 => jkD (fun w h => h.pick [0, 1, 2, 3, 4, 5, 6, 7, 8, 9, 10, 11, 12, 13] (by kernel_rfl) (by kernel_rfl)) ?_))
                    obtain ⟨t_31, ht_188, h⟩ := bd h
                    refine toD 4 (by kernel_rfl) (p_call 0 8 #[(.slice (o_183.map fun b => ⟨b, 0, none⟩) (([5] ++ more1).length) cap_184), (.agg #[(.int .i16 t_2.fSteps), (.slice (o_6.map fun b => ⟨b, 0, none⟩) t_2.fHammers.length cap_7)])] (by kernel_rfl) (by kernel_rfl) (fun w hm => spec_A2Drum.calls ([5] ++ more1) t_2 w _ (o_183.map fun b => ⟨b, 0, none⟩) (([5] ++ more1).length) cap_184 (hm.ownRow (hh := 14) (o := o_183) (T := 5) (enc := encU8) (xs := ([5] ++ more1)) (sp := sp_185) (by kernel_rfl) (fun e => (ho_187 e).1) encU8_len) rfl (o_6.map fun b => ⟨b, 0, none⟩) t_2.fHammers.length cap_7 (hm.ownRow (hh := 0) (o := o_6) (T := 137) (enc := encGHammer) (xs := t_2.fHammers) (sp := sp_8) (by kernel_rfl) (fun e => (ho_10 e).1) encGHammer_len) rfl ht_188) ?_)
                    rintro w v w' hm ⟨rfl, hm'⟩
                    refine ⟨_, hm.app hm', jkD (fun w h => h.pick [0, 1, 2, 3, 4, 5, 6, 7, 8, 9, 10, 11, 12, 13] (by kernel_rfl) (by kernel_rfl)) ?_⟩
                    clear hm hm'
                    refine toD 6 (by kernel_rfl) (p_sA 0 15 b_181 96 1 31 encU32 (Arr.rep 96 0) t_31 (by kernel_rfl) (by kernel_rfl) (by kernel_rfl) encU32_len encU32_cell (by kernel_rfl) (jkD (fun w h => h.pick [0, 1, 2, 3, 4, 5, 6, 7, 8, 9, 10, 11, 12, 13] (by kernel_rfl) (by kernel_rfl)) ?_))
                    refine jd_end (by kernel_rfl) ?_
                    exact jx_meet ⟨t_31, b_181⟩ h (by kernel_rfl) [0, 1, 2, 3, 4, 5, 6, 7, 8, 9, 10, 11, 12, 13, 15] (by kernel_rfl) (by kernel_rfl)
                · refine p_a 0 [0] (by kernel_rfl) (fun b => by kernel_rfl) (fun b_189 => jkD (fun w h => h.pick [0, 1, 2, 3, 4, 5, 6, 7, 8, 9, 10, 11, 12, 13] (by kernel_rfl) (by kernel_rfl)) ?_)
                  refine toD 0 (by kernel_rfl) (p_a 0 [0] (by kernel_rfl) (fun b => by kernel_rfl) (fun b_190 => jkD (fun w h => h.pick [0, 1, 2, 3, 4, 5, 6, 7, 8, 9, 10, 11, 12, 13] (by kernel_rfl) (by kernel_rfl)) ?_))
                  obtain ⟨hg_191, h⟩ := gd h
                  refine toD 2 (by kernel_rfl) (p_apn 0 15 (some b_190) 5 1 more1.length 1 1 1 more1_a encU8 [5] more1 [] (.int .u8 0) rfl rfl (by kernel_rfl) (by kernel_rfl) (by kernel_rfl) encU8_len encU8_cell (fun _ => ⟨Nat.le_refl _, by simp⟩) (fun e => nomatch e) (fun w hm => (hm.exRow more1_h List.not_mem_nil)) hg_191 (by kernel_rfl) (by kernel_rfl) (fun o_192 cap_193 sp_194 hs_195 ho_196 => jkD (fun w h => h.pick [0, 1, 2, 3, 4, 5, 6, 7, 8, 9, 10, 11, 12, 13] (by kernel_rfl) (by kernel_rfl)) ?_))
                  obtain ⟨t_31, ht_197, h⟩ := bd h
                  refine toD 4 (by kernel_rfl) (p_call 0 8 #[(.slice (o_192.map fun b => ⟨b, 0, none⟩) (([5] ++ more1).length) cap_193), (.agg #[(.int .i16 t_2.fSteps), (.slice (o_6.map fun b => ⟨b, 0, none⟩) t_2.fHammers.length cap_7)])] (by kernel_rfl) (by kernel_rfl) (fun w hm => spec_A2Drum.calls ([5] ++ more1) t_2 w _ (o_192.map fun b => ⟨b, 0, none⟩) (([5] ++ more1).length) cap_193 (hm.ownRow (hh := 15) (o := o_192) (T := 5) (enc := encU8) (xs := ([5] ++ more1)) (sp := sp_194) (by kernel_rfl) (fun e => (ho_196 e).1) encU8_len) rfl (o_6.map fun b => ⟨b, 0, none⟩) t_2.fHammers.length cap_7 (hm.ownRow (hh := 0) (o := o_6) (T := 137) (enc := encGHammer) (xs := t_2.fHammers) (sp := sp_8) (by kernel_rfl) (fun e => (ho_10 e).1) encGHammer_len) rfl ht_197) ?_)
                  rintro w v w' hm ⟨rfl, hm'⟩
                  refine ⟨_, hm.app hm', jkD (fun w h => h.pick [0, 1, 2, 3, 4, 5, 6, 7, 8, 9, 10, 11, 12, 13] (by kernel_rfl) (by kernel_rfl)) ?_⟩
                  clear hm hm'
                  refine toD 6 (by kernel_rfl) (p_sA 0 14 b_189 96 1 31 encU32 (Arr.rep 96 0) t_31 (by kernel_rfl) (by kernel_rfl) (by kernel_rfl) encU32_len encU32_cell (by kernel_rfl) (jkD (fun w h => h.pick [0, 1, 2, 3, 4, 5, 6, 7, 8, 9, 10, 11, 12, 13] (by kernel_rfl) (by kernel_rfl)) ?_))
                  refine jd_end (by kernel_rfl) ?_
                  exact jx_meet ⟨t_31, b_189⟩ h (by kernel_rfl) [0, 1, 2, 3, 4, 5, 6, 7, 8, 9, 10, 11, 12, 13, 14] (by kernel_rfl) (by kernel_rfl)
              · rintro ⟨a_27, b_167⟩ h
                replace h : laws_FnChanged.k_28 t_2 t_3 a_4 t_14 t_24 t_25 t_26 a_27 = some r := h
                rw [laws_FnChanged.k_28] at h
                refine jx_then ?_
                refine jc_seq ?_
                refine jc_region ?_
                refine jo_f [(1, 0)] (by kernel_rfl) ?_
                refine toO (by kernel_rfl) (p_ldA 0 2 b_13 96 1 31 encU32 t_3 (by kernel_rfl) (by kernel_rfl) (by kernel_rfl) encU32_len (by kernel_rfl) (jkO ?_))
                refine toO (by kernel_rfl) (p_ldA 0 14 b_167 96 1 31 encU32 a_27 (by kernel_rfl) (by kernel_rfl) (by kernel_rfl) encU32_len (by kernel_rfl) (jkO ?_))
                obtain ⟨t_29, ht_168, h⟩ := bd h
                refine toO (by kernel_rfl) (p_call 0 16 #[(.agg #[(.int .i16 t_2.fSteps), (.slice (o_6.map fun b => ⟨b, 0, none⟩) t_2.fHammers.length cap_7)]), (.agg (row encU32 t_3.1 []).toArray), (.agg (row encU32 a_27.1 []).toArray)] (by kernel_rfl) (by kernel_rfl) (fun w hm => impl_ChangeCost.calls t_2 t_3 a_27 w _ (o_6.map fun b => ⟨b, 0, none⟩) t_2.fHammers.length cap_7 (hm.ownRow (hh := 0) (o := o_6) (T := 137) (enc := encGHammer) (xs := t_2.fHammers) (sp := sp_8) (by kernel_rfl) (fun e => (ho_10 e).1) encGHammer_len) rfl ht_168) ?_)
                rintro w v w' hm ⟨rfl, hm'⟩
                refine ⟨_, hm.app hm', jkO ?_⟩
                clear hm hm'
                refine jo_f [(0, 0), (0, 0), (0, 0), (0, 0), (0, 0)] (by kernel_rfl) ?_
                refine jo_end (by kernel_rfl) ?_
                refine jx_then ?_
                refine jc_seq ?_
                refine jc_region ?_
                refine jo_f [(1, 0)] (by kernel_rfl) ?_
                refine toO (by kernel_rfl) (p_ldA 0 14 b_167 96 1 31 encU32 a_27 (by kernel_rfl) (by kernel_rfl) (by kernel_rfl) encU32_len (by kernel_rfl) (jkO ?_))
                refine toO (by kernel_rfl) (p_ldA 0 3 b_42 96 1 31 encU32 a_4 (by kernel_rfl) (by kernel_rfl) (by kernel_rfl) encU32_len (by kernel_rfl) (jkO ?_))
                obtain ⟨t_30, ht_169, h⟩ := bd h
                refine toO (by kernel_rfl) (p_call 0 16 #[(.agg #[(.int .i16 t_2.fSteps), (.slice (o_6.map fun b => ⟨b, 0, none⟩) t_2.fHammers.length cap_7)]), (.agg (row encU32 a_27.1 []).toArray), (.agg (row encU32 a_4.1 []).toArray)] (by kernel_rfl) (by kernel_rfl) (fun w hm => impl_ChangeCost.calls t_2 a_27 a_4 w _ (o_6.map fun b => ⟨b, 0, none⟩) t_2.fHammers.length cap_7 (hm.ownRow (hh := 0) (o := o_6) (T := 137) (enc := encGHammer) (xs := t_2.fHammers) (sp := sp_8) (by kernel_rfl) (fun e => (ho_10 e).1) encGHammer_len) rfl ht_169) ?_)
                rintro w v w' hm ⟨rfl, hm'⟩
                refine ⟨_, hm.app hm', jkO ?_⟩
                clear hm hm'
                refine jo_f [(0, 0), (0, 0), (0, 0), (0, 0), (0, 0)] (by kernel_rfl) ?_
                refine jo_end (by kernel_rfl) ?_
                refine jx_then ?_
                refine jc_seq ?_
                refine jc_region ?_
                refine jo_f [(0, 0), (0, 0), (0, 0), (0, 1), (0, 1), (0, 1), (0, 1), (0, 0), (0, 0), (0, 1), (0, 1), (0, 0), (0, 0), (0, 1), (0, 1), (0, 0), (0, 0), (0, 1), (0, 1), (0, 0), (0, 0), (0, 1), (0, 1), (0, 1), (0, 1), (0, 1), (0, 0), (0, 0)] (by kernel_rfl) ?_
                refine jo_end (by kernel_rfl) ?_
                refine jx_then ?_
                refine jc_ret ?_
                obtain rfl := Option.some.inj h
                exact jx_ret [] (.bool ((((((t_25.2 == 0) && (t_25.1 == (w64 (t_24 + 1)))) && (t_26.2 == 4)) && (t_29.2 == 0)) && (t_30.2 == 0)) && (decide ((w64 (t_29.1 + t_30.1)) ≥ t_14.1)))) [] rfl (by kernel_rfl) (by kernel_rfl) (fun w hm => ⟨rfl, hm.pick [] (by kernel_rfl) (by kernel_rfl)⟩)
end Go.Proofs.YtpldkddkmnpdcaaGreatDoor
