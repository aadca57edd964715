/- Functions of the program that the laws reach: a plain function each, and that the call comes to its answer if the plain function has one. Printed by a program. -/
import Derived.Test.YtilackblefjgdaaT
import Derived.Test.YtilackblefjgdaaM0
import Derived.Test.YtilackblefjgdaaM1
import Derived.Test.YtilackblefjgdaaM2
import Derived.Test.YtilackblefjgdaaM5
import Derived.Test.YtilackblefjgdaaM6
namespace Go.Proofs.Ytilackblefjgdaa
open Eng
set_option linter.unusedVariables false

/-! ### spec.KeptNotes -/
noncomputable def spec_KeptNotes.k_3 (i_2 : Int) : Option (Int × Int) := some (i_2, 0)
noncomputable def spec_KeptNotes.l_6 (list2 : List GChoice) : (Int × Int) → Option ((Int × Int) ⊕ (Int))
  | (i_4, i_5) => (if (decide (i_5 < (list2.length : Int))) = true then (ix list2 i_5).bind fun x_8 => (if (!x_8.fAway) = true then some (.inl ((w64 (i_4 + 1)), (w64 (i_5 + 1)))) else some (.inl (i_4, (w64 (i_5 + 1))))) else some (.inr i_4))
noncomputable def spec_KeptNotes (f0 : GFrame) (t1 : List GNote) (list2 : List GChoice) : Option (Int × Int) := (spec_l07Drum f0 t1 list2).bind fun t_1 => (if (t_1.2 != 0) = true then some (0, t_1.2) else (loop (spec_KeptNotes.l_6 list2) (0, 0)).bind fun t_7 => spec_KeptNotes.k_3 t_7)
set_option maxRecDepth 100000 in
theorem spec_KeptNotes.calls (f0 : GFrame) (t1 : List GNote) (list2 : List GChoice) (w : World) (r : Int × Int) (f0_fHammers_a : Option Addr) (f0_fHammers_an : Nat) (f0_fHammers_c : Nat) (f0_fHammers_h : Rw w f0_fHammers_a 2 encGHammer f0.fHammers) (f0_fHammers_hn : f0.fHammers.length = f0_fHammers_an) (t1_a : Option Addr) (t1_an : Nat) (t1_c : Nat) (t1_h : Rw w t1_a 2 encGNote t1) (t1_hn : t1.length = t1_an) (list2_a : Option Addr) (list2_an : Nat) (list2_c : Nat) (list2_h : Rw w list2_a 4 encGChoice list2) (list2_hn : list2.length = list2_an) (h : spec_KeptNotes f0 t1 list2 = some r) :
    Calls Try.prog 35 #[(.agg #[(.int .i16 f0.fSteps), (.slice f0_fHammers_a f0_fHammers_an f0_fHammers_c)]), (.slice t1_a t1_an t1_c), (.slice list2_a list2_an list2_c)] w fun e w' => ∃ v, e = .returned v ∧ (v = .tuple #[(.int .i64 r.1), (.int .i64 r.2)] ∧ Mem w [] [] w') := by
  subst f0_fHammers_hn t1_hn list2_hn
  rw [spec_KeptNotes] at h
  refine enter (args := [(.agg #[(.int .i16 f0.fSteps), (.slice f0_fHammers_a f0.fHammers.length f0_fHammers_c)]), (.slice t1_a t1.length t1_c), (.slice list2_a list2.length list2_c)]) Try.func35 rfl Try.ntmps35 (by kernel_rfl) (L := []) (W := []) (Mem.start w) ?_
  refine jc_seq ?_
  refine jc_region ?_
  refine toO (by kernel_rfl) (p_a 0 [0] (by kernel_rfl) (fun b => by kernel_rfl) (fun b_1 => jkO ?_))
  refine jo_f [(0, 0), (0, 0)] (by kernel_rfl) ?_
  refine jo_end (by kernel_rfl) ?_
  refine jx_then ?_
  refine jc_seq ?_
  refine jc_seq ?_
  refine jc_region ?_
  refine jo_f [(0, 0), (0, 0)] (by kernel_rfl) ?_
  obtain ⟨t_1, ht_5, h⟩ := bd h
  refine toO (by kernel_rfl) (p_call 0 86 #[(.pointer (some ⟨b_1, 0, none⟩)), (.slice t1_a t1.length t1_c), (.slice list2_a list2.length list2_c)] (by kernel_rfl) (by kernel_rfl) (fun w hm => spec_l07Drum.calls f0 t1 list2 w _ f0_fHammers_a f0.fHammers.length f0_fHammers_c (hm.exRow f0_fHammers_h List.not_mem_nil) rfl t1_a t1.length t1_c (hm.exRow t1_h List.not_mem_nil) rfl list2_a list2.length list2_c (hm.exRow list2_h List.not_mem_nil) rfl b_1 (hm.pass (N := [⟨some b_1, 38, [(.int .i16 f0.fSteps), (.slice f0_fHammers_a f0.fHammers.length f0_fHammers_c)]⟩]) [0] (by kernel_rfl) (by kernel_rfl)) (hm.exApart (N := [⟨some b_1, 38, [(.int .i16 f0.fSteps), (.slice f0_fHammers_a f0.fHammers.length f0_fHammers_c)]⟩]) f0_fHammers_h (fun _ => List.not_mem_nil) [0] (by kernel_rfl)) (hm.exApart (N := [⟨some b_1, 38, [(.int .i16 f0.fSteps), (.slice f0_fHammers_a f0.fHammers.length f0_fHammers_c)]⟩]) t1_h (fun _ => List.not_mem_nil) [0] (by kernel_rfl)) (hm.exApart (N := [⟨some b_1, 38, [(.int .i16 f0.fSteps), (.slice f0_fHammers_a f0.fHammers.length f0_fHammers_c)]⟩]) list2_h (fun _ => List.not_mem_nil) [0] (by kernel_rfl)) ht_5) ?_)
  rintro w v w' hm ⟨rfl, hm'⟩
  refine ⟨_, hm.appW (ps := [(0, ⟨some b_1, 38, [(.int .i16 f0.fSteps), (.slice f0_fHammers_a f0.fHammers.length f0_fHammers_c)]⟩)]) (N := []) hm' (by kernel_rfl) (by kernel_rfl), jkO ?_⟩
  clear hm hm'
  refine jo_f [(0, 0), (0, 0), (0, 0)] (by kernel_rfl) ?_
  refine toO (by kernel_rfl) (p_a 0 [0] (by kernel_rfl) (fun b => by kernel_rfl) (fun b_6 => jkO ?_))
  refine toO (by kernel_rfl) (p_sA 0 1 b_6 96 1 67 encU32 (Arr.rep 96 0) t_1.1 (by kernel_rfl) (by kernel_rfl) (by kernel_rfl) encU32_len encU32_cell (by kernel_rfl) (jkO ?_))
  refine jo_f [(0, 0)] (by kernel_rfl) ?_
  refine jo_end (by kernel_rfl) ?_
  refine jx_then ?_
  refine jc_seq ?_
  refine jc_region ?_
  refine jo_f [(0, 0), (0, 0)] (by kernel_rfl) ?_
  refine jo_end (by kernel_rfl) ?_
  refine jx_then ?_
  refine jc_cond (t_1.2 != 0) (by kernel_rfl) (fun hc_7 => ?_) (fun hc_7 => ?_)
  · replace h := ifT hc_7 h
    refine jc_seq ?_
    refine jc_region ?_
    refine jo_f [(0, 0), (0, 0), (0, 0)] (by kernel_rfl) ?_
    refine jo_end (by kernel_rfl) ?_
    refine jx_then ?_
    refine jc_ret ?_
    refine jx_thenr ?_
    obtain rfl := Option.some.inj h
    exact jx_ret [] (.tuple #[(.int .i64 0), (.int .i64 t_1.2)]) [] rfl (by kernel_rfl) (by kernel_rfl) (fun w hm => ⟨rfl, hm.pick [] (by kernel_rfl) (by kernel_rfl)⟩)
  · replace h := ifF hc_7 h
    refine jc_skip ?_
    refine jx_then ?_
    refine jc_seq ?_
    refine jc_region ?_
    refine jo_f [(0, 0)] (by kernel_rfl) ?_
    refine jo_end (by kernel_rfl) ?_
    refine jx_then ?_
    refine jc_seq ?_
    refine jc_seq ?_
    refine jc_region ?_
    refine jo_f [(0, 0)] (by kernel_rfl) ?_
    refine jo_end (by kernel_rfl) ?_
    refine jx_then ?_
    refine jc_meet (fun (j : Int) => match j with | i_2 => spec_KeptNotes.k_3 i_2 = some r) (fun (j : Int) => match j with | i_2 => [(6, [], (.int .i64 0)), (7, [], (.int .i64 0)), (10, [], (.int .i64 i_2))]) (fun (j : Int) => match j with | i_2 => [⟨some b_1, 38, [(.int .i16 f0.fSteps), (.slice f0_fHammers_a f0.fHammers.length f0_fHammers_c)]⟩, ⟨(some b_6), 67, row encU32 t_1.1.1 []⟩]) ?_ ?_
    · refine jc_block ?_
      obtain ⟨t_7, ht_71, hr_64⟩ := bd h
      refine jc_loop (fun (s : Int × Int) (x : Unit) => match s, x with | ⟨i_4, i_5⟩, _ => True) (fun (s : Int × Int) (x : Unit) => match s, x with | ⟨i_4, i_5⟩, _ => [(2, [], (.slice list2_a list2.length list2_c)), (6, [], (.int .i64 0)), (7, [], (.int .i64 0)), (10, [], (.int .i64 i_4)), (11, [], (.int .i64 i_5))]) (fun (s : Int × Int) (x : Unit) => match s, x with | ⟨i_4, i_5⟩, _ => [⟨some b_1, 38, [(.int .i16 f0.fSteps), (.slice f0_fHammers_a f0.fHammers.length f0_fHammers_c)]⟩, ⟨(some b_6), 67, row encU32 t_1.1.1 []⟩]) ht_71 () trivial (by kernel_rfl) [0, 1] (by kernel_rfl) (by kernel_rfl) ?_
      rintro ⟨i_4, i_5⟩ _ y_65 _ h
      rw [spec_KeptNotes.l_6] at h
      refine jc_seq ?_
      refine jc_seq ?_
      refine jc_region ?_
      refine jo_f [(0, 0), (0, 0), (0, 0), (0, 0)] (by kernel_rfl) ?_
      refine jo_end (by kernel_rfl) ?_
      refine jx_then ?_
      refine jc_cond (decide (i_5 < (list2.length : Int))) (by kernel_rfl) (fun hc_67 => ?_) (fun hc_67 => ?_)
      · replace h := ifT hc_67 h
        refine jc_skip ?_
        refine jx_then ?_
        refine jc_seq ?_
        refine jc_block ?_
        refine jc_seq ?_
        refine jc_region ?_
        refine jo_f [(0, 0), (0, 0)] (by kernel_rfl) ?_
        obtain ⟨x_8, hx_68, h⟩ := bd h
        refine toO (by kernel_rfl) (p_idx 0 list2_a list2.length i_5 4 (by kernel_rfl) (by kernel_rfl) (ix_some hx_68).1 (ltn hx_68 rfl) (list2_h.sp hx_68) (jkO ?_))
        refine jo_f [(0, 0)] (by kernel_rfl) ?_
        refine toO (by kernel_rfl) (p_ld 0 (aB list2_a) (aO list2_a + i_5.toNat * 4) false (((encGChoice x_8).drop 0).take 1) (by kernel_rfl) (by kernel_rfl) (by kernel_rfl) (fun w hm => (((hm.exRow list2_h List.not_mem_nil).at hx_68).sub 0 1)) (jkO ?_))
        refine jo_f [(0, 0)] (by kernel_rfl) ?_
        refine jo_end (by kernel_rfl) ?_
        refine jx_then ?_
        refine jc_cond (!x_8.fAway) (by kernel_rfl) (fun hc_69 => ?_) (fun hc_69 => ?_)
        · replace h := ifT hc_69 h
          refine jc_region ?_
          refine jo_f [(0, 0), (0, 0), (0, 0)] (by kernel_rfl) ?_
          refine jo_end (by kernel_rfl) ?_
          refine jx_inn ?_
          refine jx_then ?_
          refine jc_region ?_
          refine jo_f [(0, 0), (0, 0), (0, 0)] (by kernel_rfl) ?_
          refine jo_end (by kernel_rfl) ?_
          exact jx_back ((w64 (i_4 + 1)), (w64 (i_5 + 1))) () (Option.some.inj h).symm trivial [0, 1] (by kernel_rfl) (by kernel_rfl) (by kernel_rfl)
        · replace h := ifF hc_69 h
          refine jc_skip ?_
          refine jx_inn ?_
          refine jx_then ?_
          refine jc_region ?_
          refine jo_f [(0, 0), (0, 0), (0, 0)] (by kernel_rfl) ?_
          refine jo_end (by kernel_rfl) ?_
          exact jx_back (i_4, (w64 (i_5 + 1))) () (Option.some.inj h).symm trivial [0, 1] (by kernel_rfl) (by kernel_rfl) (by kernel_rfl)
      · replace h := ifF hc_67 h
        refine jc_exit ?_
        refine jx_thenx ?_
        refine jx_leave i_4 (Option.some.inj h).symm (fun e_70 => ?_)
        subst e_70
        refine jx_ine ?_
        exact jx_meet i_4 hr_64 (by kernel_rfl) [0, 1] (by kernel_rfl) (by kernel_rfl)
    · rintro i_2 h
      replace h : spec_KeptNotes.k_3 i_2 = some r := h
      rw [spec_KeptNotes.k_3] at h
      refine jx_then ?_
      refine jc_seq ?_
      refine jc_region ?_
      refine jo_f [(0, 0), (0, 0), (0, 0)] (by kernel_rfl) ?_
      refine jo_end (by kernel_rfl) ?_
      refine jx_then ?_
      refine jc_ret ?_
      obtain rfl := Option.some.inj h
      exact jx_ret [] (.tuple #[(.int .i64 i_2), (.int .i64 0)]) [] rfl (by kernel_rfl) (by kernel_rfl) (fun w hm => ⟨rfl, hm.pick [] (by kernel_rfl) (by kernel_rfl)⟩)

/-! ### impl.KeptNotes -/
noncomputable def impl_KeptNotes.k_3 (i_2 : Int) : Option (Int × Int) := some (i_2, 0)
noncomputable def impl_KeptNotes.l_6 (list2 : List GChoice) : (Int × Int) → Option ((Int × Int) ⊕ (Int))
  | (i_4, i_5) => (if (decide (i_5 < (list2.length : Int))) = true then (ix list2 i_5).bind fun x_8 => (impl_bit (!x_8.fAway)).bind fun t_9 => some (.inl ((w64 (i_4 + t_9)), (w64 (i_5 + 1)))) else some (.inr i_4))
noncomputable def impl_KeptNotes (f0 : GFrame) (t1 : List GNote) (list2 : List GChoice) : Option (Int × Int) := (impl_fitted f0 t1 list2).bind fun t_1 => (if (t_1.2.2 != 0) = true then some (0, t_1.2.2) else (loop (impl_KeptNotes.l_6 list2) (0, 0)).bind fun t_7 => impl_KeptNotes.k_3 t_7)
set_option maxRecDepth 100000 in
theorem impl_KeptNotes.calls (f0 : GFrame) (t1 : List GNote) (list2 : List GChoice) (w : World) (r : Int × Int) (f0_fHammers_a : Option Addr) (f0_fHammers_an : Nat) (f0_fHammers_c : Nat) (f0_fHammers_h : Rw w f0_fHammers_a 2 encGHammer f0.fHammers) (f0_fHammers_hn : f0.fHammers.length = f0_fHammers_an) (t1_a : Option Addr) (t1_an : Nat) (t1_c : Nat) (t1_h : Rw w t1_a 2 encGNote t1) (t1_hn : t1.length = t1_an) (list2_a : Option Addr) (list2_an : Nat) (list2_c : Nat) (list2_h : Rw w list2_a 4 encGChoice list2) (list2_hn : list2.length = list2_an) (h : impl_KeptNotes f0 t1 list2 = some r) :
    Calls Try.prog 36 #[(.agg #[(.int .i16 f0.fSteps), (.slice f0_fHammers_a f0_fHammers_an f0_fHammers_c)]), (.slice t1_a t1_an t1_c), (.slice list2_a list2_an list2_c)] w fun e w' => ∃ v, e = .returned v ∧ (v = .tuple #[(.int .i64 r.1), (.int .i64 r.2)] ∧ Mem w [] [] w') := by
  subst f0_fHammers_hn t1_hn list2_hn
  rw [impl_KeptNotes] at h
  refine enter (args := [(.agg #[(.int .i16 f0.fSteps), (.slice f0_fHammers_a f0.fHammers.length f0_fHammers_c)]), (.slice t1_a t1.length t1_c), (.slice list2_a list2.length list2_c)]) Try.func36 rfl Try.ntmps36 (by kernel_rfl) (L := []) (W := []) (Mem.start w) ?_
  refine jc_seq ?_
  refine jc_region ?_
  refine toO (by kernel_rfl) (p_a 0 [0] (by kernel_rfl) (fun b => by kernel_rfl) (fun b_1 => jkO ?_))
  refine jo_f [(0, 0), (0, 0)] (by kernel_rfl) ?_
  refine jo_end (by kernel_rfl) ?_
  refine jx_then ?_
  refine jc_seq ?_
  refine jc_seq ?_
  refine jc_region ?_
  refine jo_f [(0, 0), (0, 0), (0, 0)] (by kernel_rfl) ?_
  obtain ⟨t_1, ht_5, h⟩ := bd h
  refine toO (by kernel_rfl) (p_call 0 83 #[(.agg #[(.int .i16 f0.fSteps), (.slice f0_fHammers_a f0.fHammers.length f0_fHammers_c)]), (.slice t1_a t1.length t1_c), (.slice list2_a list2.length list2_c)] (by kernel_rfl) (by kernel_rfl) (fun w hm => impl_fitted.calls f0 t1 list2 w _ f0_fHammers_a f0.fHammers.length f0_fHammers_c (hm.exRow f0_fHammers_h List.not_mem_nil) rfl t1_a t1.length t1_c (hm.exRow t1_h List.not_mem_nil) rfl list2_a list2.length list2_c (hm.exRow list2_h List.not_mem_nil) rfl ht_5) ?_)
  rintro w v w' hm ⟨rfl, hm'⟩
  refine ⟨_, hm.app hm', jkO ?_⟩
  clear hm hm'
  refine jo_f [(0, 0), (0, 0), (0, 0), (0, 0)] (by kernel_rfl) ?_
  refine toO (by kernel_rfl) (p_a 0 [0] (by kernel_rfl) (fun b => by kernel_rfl) (fun b_6 => jkO ?_))
  refine toO (by kernel_rfl) (p_sA 0 1 b_6 96 1 67 encU32 (Arr.rep 96 0) t_1.1 (by kernel_rfl) (by kernel_rfl) (by kernel_rfl) encU32_len encU32_cell (by kernel_rfl) (jkO ?_))
  refine jo_f [(0, 0), (0, 0)] (by kernel_rfl) ?_
  refine jo_end (by kernel_rfl) ?_
  refine jx_then ?_
  refine jc_seq ?_
  refine jc_region ?_
  refine jo_f [(0, 0), (0, 0)] (by kernel_rfl) ?_
  refine jo_end (by kernel_rfl) ?_
  refine jx_then ?_
  refine jc_cond (t_1.2.2 != 0) (by kernel_rfl) (fun hc_7 => ?_) (fun hc_7 => ?_)
  · replace h := ifT hc_7 h
    refine jc_seq ?_
    refine jc_region ?_
    refine jo_f [(0, 0), (0, 0), (0, 0)] (by kernel_rfl) ?_
    refine jo_end (by kernel_rfl) ?_
    refine jx_then ?_
    refine jc_ret ?_
    refine jx_thenr ?_
    obtain rfl := Option.some.inj h
    exact jx_ret [] (.tuple #[(.int .i64 0), (.int .i64 t_1.2.2)]) [] rfl (by kernel_rfl) (by kernel_rfl) (fun w hm => ⟨rfl, hm.pick [] (by kernel_rfl) (by kernel_rfl)⟩)
  · replace h := ifF hc_7 h
    refine jc_skip ?_
    refine jx_then ?_
    refine jc_seq ?_
    refine jc_region ?_
    refine jo_f [(0, 0)] (by kernel_rfl) ?_
    refine jo_end (by kernel_rfl) ?_
    refine jx_then ?_
    refine jc_seq ?_
    refine jc_seq ?_
    refine jc_region ?_
    refine jo_f [(0, 0), (0, 0), (0, 0)] (by kernel_rfl) ?_
    refine jo_end (by kernel_rfl) ?_
    refine jx_then ?_
    refine jc_meet (fun (j : Int) => match j with | i_2 => impl_KeptNotes.k_3 i_2 = some r) (fun (j : Int) => match j with | i_2 => [(6, [], (.int .i64 0)), (7, [], (.int .i64 0)), (11, [], (.int .i64 i_2))]) (fun (j : Int) => match j with | i_2 => [⟨some b_1, 38, [(.int .i16 f0.fSteps), (.slice f0_fHammers_a f0.fHammers.length f0_fHammers_c)]⟩, ⟨(some b_6), 67, row encU32 t_1.1.1 []⟩]) ?_ ?_
    · refine jc_block ?_
      obtain ⟨t_7, ht_83, hr_75⟩ := bd h
      refine jc_loop (fun (s : Int × Int) (x : Unit) => match s, x with | ⟨i_4, i_5⟩, _ => True) (fun (s : Int × Int) (x : Unit) => match s, x with | ⟨i_4, i_5⟩, _ => [(6, [], (.int .i64 0)), (7, [], (.int .i64 0)), (11, [], (.int .i64 i_4)), (25, [], (.slice list2_a list2.length list2_c)), (26, [], (.int .i64 (list2.length : Int))), (27, [], (.int .i64 i_5))]) (fun (s : Int × Int) (x : Unit) => match s, x with | ⟨i_4, i_5⟩, _ => [⟨some b_1, 38, [(.int .i16 f0.fSteps), (.slice f0_fHammers_a f0.fHammers.length f0_fHammers_c)]⟩, ⟨(some b_6), 67, row encU32 t_1.1.1 []⟩]) ht_83 () trivial (by kernel_rfl) [0, 1] (by kernel_rfl) (by kernel_rfl) ?_
      rintro ⟨i_4, i_5⟩ _ y_76 _ h
      rw [impl_KeptNotes.l_6] at h
      refine jc_seq ?_
      refine jc_region ?_
      refine jo_f [(0, 0)] (by kernel_rfl) ?_
      refine jo_end (by kernel_rfl) ?_
      refine jx_then ?_
      refine jc_seq ?_
      refine jc_cond (decide (i_5 < (list2.length : Int))) (by kernel_rfl) (fun hc_78 => ?_) (fun hc_78 => ?_)
      · replace h := ifT hc_78 h
        refine jc_skip ?_
        refine jx_then ?_
        refine jc_seq ?_
        refine jc_block ?_
        refine jc_seq ?_
        refine jc_region ?_
        obtain ⟨x_8, hx_79, h⟩ := bd h
        refine toO (by kernel_rfl) (p_idx 0 list2_a list2.length i_5 4 (by kernel_rfl) (by kernel_rfl) (ix_some hx_79).1 (ltn hx_79 rfl) (list2_h.sp hx_79) (jkO ?_))
        refine toO (by kernel_rfl) (p_ld 0 (aB list2_a) (aO list2_a + i_5.toNat * 4) true (encGChoice x_8) (by kernel_rfl) (by kernel_rfl) (by kernel_rfl) (fun w hm => ((hm.exRow list2_h List.not_mem_nil).at hx_79)) (jkO ?_))
        refine toO (by kernel_rfl) (p_a 0 [0] (by kernel_rfl) (fun b => by kernel_rfl) (fun b_80 => jkO ?_))
        refine toO (by kernel_rfl) (p_s 0 [2] (by kernel_rfl) (by kernel_rfl) (jkO ?_))
        refine jo_end (by kernel_rfl) ?_
        refine jx_then ?_
        refine jc_region ?_
        refine jo_f [(0, 0), (0, 0), (2, 0), (0, 0)] (by kernel_rfl) ?_
        obtain ⟨t_9, ht_81, h⟩ := bd h
        refine toO (by kernel_rfl) (p_call 0 87 #[(.bool (!x_8.fAway))] (by kernel_rfl) (by kernel_rfl) (fun w hm => impl_bit.calls (!x_8.fAway) w _ ht_81) ?_)
        rintro w v w' hm ⟨rfl, hm'⟩
        refine ⟨_, hm.app hm', jkO ?_⟩
        clear hm hm'
        refine jo_f [(0, 0), (0, 0)] (by kernel_rfl) ?_
        refine jo_end (by kernel_rfl) ?_
        refine jx_inn ?_
        refine jx_then ?_
        refine jc_region ?_
        refine jo_f [(0, 0), (0, 0)] (by kernel_rfl) ?_
        refine jo_end (by kernel_rfl) ?_
        exact jx_back ((w64 (i_4 + t_9)), (w64 (i_5 + 1))) () (Option.some.inj h).symm trivial [0, 1] (by kernel_rfl) (by kernel_rfl) (by kernel_rfl)
      · replace h := ifF hc_78 h
        refine jc_exit ?_
        refine jx_thenx ?_
        refine jx_leave i_4 (Option.some.inj h).symm (fun e_82 => ?_)
        subst e_82
        refine jx_ine ?_
        exact jx_meet i_4 hr_75 (by kernel_rfl) [0, 1] (by kernel_rfl) (by kernel_rfl)
    · rintro i_2 h
      replace h : impl_KeptNotes.k_3 i_2 = some r := h
      rw [impl_KeptNotes.k_3] at h
      refine jx_then ?_
      refine jc_seq ?_
      refine jc_region ?_
      refine jo_f [(0, 0), (0, 0), (0, 0)] (by kernel_rfl) ?_
      refine jo_end (by kernel_rfl) ?_
      refine jx_then ?_
      refine jc_ret ?_
      obtain rfl := Option.some.inj h
      exact jx_ret [] (.tuple #[(.int .i64 i_2), (.int .i64 0)]) [] rfl (by kernel_rfl) (by kernel_rfl) (fun w hm => ⟨rfl, hm.pick [] (by kernel_rfl) (by kernel_rfl)⟩)

/-! ### laws.FnExactKeptNotes -/
noncomputable def laws_FnExactKeptNotes (aF0 : GFrame) (aT1 : List GNote) (aList2 : List GChoice) : Option (Bool) := (laws_szFrame aF0 1048576).bind fun t_1 => (if (decide (t_1 < 0)) = true then some true else (laws_szTune aT1 t_1).bind fun t_2 => (if (decide (t_2 < 0)) = true then some true else (laws_szChoiceS aList2 t_2).bind fun t_3 => (if (decide (t_3 < 0)) = true then some true else (laws_toFrame aF0).bind fun t_4 => (laws_toTune aT1).bind fun t_5 => (laws_toChoiceS aList2).bind fun t_6 => (spec_KeptNotes t_4 t_5 t_6).bind fun t_7 => (laws_toFrame aF0).bind fun t_8 => (laws_toTune aT1).bind fun t_9 => (laws_toChoiceS aList2).bind fun t_10 => (impl_KeptNotes t_8 t_9 t_10).bind fun t_11 => (if ((t_11.1 != t_7.1) || (t_11.2 != t_7.2)) = true then some false else (laws_toFrame aF0).bind fun t_12 => (laws_eqFrame t_8 t_12).bind fun t_13 => (if (!t_13) = true then some false else (laws_toTune aT1).bind fun t_14 => (laws_eqTune t_9 t_14).bind fun t_15 => (if (!t_15) = true then some false else (laws_toChoiceS aList2).bind fun t_16 => (laws_eqChoiceS t_10 t_16).bind fun t_17 => (if (!t_17) = true then some false else some true)))))))
set_option maxRecDepth 100000 in
set_option maxHeartbeats 8000000 in
theorem laws_FnExactKeptNotes.calls (aF0 : GFrame) (aT1 : List GNote) (aList2 : List GChoice) (w : World) (r : Bool) (aF0_fHammers_a : Option Addr) (aF0_fHammers_an : Nat) (aF0_fHammers_c : Nat) (aF0_fHammers_h : Rw w aF0_fHammers_a 2 encGHammer aF0.fHammers) (aF0_fHammers_hn : aF0.fHammers.length = aF0_fHammers_an) (aT1_a : Option Addr) (aT1_an : Nat) (aT1_c : Nat) (aT1_h : Rw w aT1_a 2 encGNote aT1) (aT1_hn : aT1.length = aT1_an) (aList2_a : Option Addr) (aList2_an : Nat) (aList2_c : Nat) (aList2_h : Rw w aList2_a 4 encGChoice aList2) (aList2_hn : aList2.length = aList2_an) (h : laws_FnExactKeptNotes aF0 aT1 aList2 = some r) :
    Calls Try.prog 7 #[(.agg #[(.int .i16 aF0.fSteps), (.slice aF0_fHammers_a aF0_fHammers_an aF0_fHammers_c)]), (.slice aT1_a aT1_an aT1_c), (.slice aList2_a aList2_an aList2_c)] w fun e w' => ∃ v, e = .returned v ∧ (v = (.bool r) ∧ Mem w [] [] w') := by
  subst aF0_fHammers_hn aT1_hn aList2_hn
  rw [laws_FnExactKeptNotes] at h
  refine enter (args := [(.agg #[(.int .i16 aF0.fSteps), (.slice aF0_fHammers_a aF0.fHammers.length aF0_fHammers_c)]), (.slice aT1_a aT1.length aT1_c), (.slice aList2_a aList2.length aList2_c)]) Try.func7 rfl Try.ntmps7 (by kernel_rfl) (L := []) (W := []) (Mem.start w) ?_
  refine jc_seq ?_
  refine jc_region ?_
  refine toO (by kernel_rfl) (p_a 0 [0] (by kernel_rfl) (fun b => by kernel_rfl) (fun b_1 => jkO ?_))
  refine jo_f [(0, 0)] (by kernel_rfl) ?_
  refine jo_end (by kernel_rfl) ?_
  refine jx_then ?_
  refine jc_seq ?_
  refine jc_region ?_
  refine jo_f [(0, 0)] (by kernel_rfl) ?_
  refine jo_end (by kernel_rfl) ?_
  refine jx_then ?_
  refine jc_seq ?_
  refine jc_region ?_
  refine jo_f [(0, 0), (0, 0)] (by kernel_rfl) ?_
  obtain ⟨t_1, ht_2, h⟩ := bd h
  refine toO (by kernel_rfl) (p_call 0 13 #[(.agg #[(.int .i16 aF0.fSteps), (.slice aF0_fHammers_a aF0.fHammers.length aF0_fHammers_c)]), (.int .i64 1048576)] (by kernel_rfl) (by kernel_rfl) (fun w hm => laws_szFrame.calls aF0 1048576 w _ aF0_fHammers_a aF0.fHammers.length aF0_fHammers_c (hm.exRow aF0_fHammers_h List.not_mem_nil) rfl ht_2) ?_)
  rintro w v w' hm ⟨rfl, hm'⟩
  refine ⟨_, hm.app hm', jkO ?_⟩
  clear hm hm'
  refine jo_f [(0, 0)] (by kernel_rfl) ?_
  refine jo_end (by kernel_rfl) ?_
  refine jx_then ?_
  refine jc_seq ?_
  refine jc_seq ?_
  refine jc_region ?_
  refine jo_f [(0, 0), (0, 0)] (by kernel_rfl) ?_
  refine jo_end (by kernel_rfl) ?_
  refine jx_then ?_
  refine jc_cond (decide (t_1 < 0)) (by kernel_rfl) (fun hc_4 => ?_) (fun hc_4 => ?_)
  · replace h := ifT hc_4 h
    refine jc_seq ?_
    refine jc_region ?_
    refine jo_f [(0, 0)] (by kernel_rfl) ?_
    refine jo_end (by kernel_rfl) ?_
    refine jx_then ?_
    refine jc_ret ?_
    refine jx_thenr ?_
    obtain rfl := Option.some.inj h
    exact jx_ret [] (.bool true) [] rfl (by kernel_rfl) (by kernel_rfl) (fun w hm => ⟨rfl, hm.pick [] (by kernel_rfl) (by kernel_rfl)⟩)
  · replace h := ifF hc_4 h
    refine jc_skip ?_
    refine jx_then ?_
    refine jc_seq ?_
    refine jc_region ?_
    refine jo_f [(0, 0), (0, 0)] (by kernel_rfl) ?_
    obtain ⟨t_2, ht_5, h⟩ := bd h
    refine toO (by kernel_rfl) (p_call 0 22 #[(.slice aT1_a aT1.length aT1_c), (.int .i64 t_1)] (by kernel_rfl) (by kernel_rfl) (fun w hm => laws_szTune.calls aT1 t_1 w _ aT1_a aT1.length aT1_c (hm.exRow aT1_h List.not_mem_nil) rfl ht_5) ?_)
    rintro w v w' hm ⟨rfl, hm'⟩
    refine ⟨_, hm.app hm', jkO ?_⟩
    clear hm hm'
    refine jo_f [(0, 0)] (by kernel_rfl) ?_
    refine jo_end (by kernel_rfl) ?_
    refine jx_then ?_
    refine jc_seq ?_
    refine jc_seq ?_
    refine jc_region ?_
    refine jo_f [(0, 0), (0, 0)] (by kernel_rfl) ?_
    refine jo_end (by kernel_rfl) ?_
    refine jx_then ?_
    refine jc_cond (decide (t_2 < 0)) (by kernel_rfl) (fun hc_7 => ?_) (fun hc_7 => ?_)
    · replace h := ifT hc_7 h
      refine jc_seq ?_
      refine jc_region ?_
      refine jo_f [(0, 0)] (by kernel_rfl) ?_
      refine jo_end (by kernel_rfl) ?_
      refine jx_then ?_
      refine jc_ret ?_
      refine jx_thenr ?_
      obtain rfl := Option.some.inj h
      exact jx_ret [] (.bool true) [] rfl (by kernel_rfl) (by kernel_rfl) (fun w hm => ⟨rfl, hm.pick [] (by kernel_rfl) (by kernel_rfl)⟩)
    · replace h := ifF hc_7 h
      refine jc_skip ?_
      refine jx_then ?_
      refine jc_seq ?_
      refine jc_region ?_
      refine jo_f [(0, 0), (0, 0)] (by kernel_rfl) ?_
      obtain ⟨t_3, ht_8, h⟩ := bd h
      refine toO (by kernel_rfl) (p_call 0 23 #[(.slice aList2_a aList2.length aList2_c), (.int .i64 t_2)] (by kernel_rfl) (by kernel_rfl) (fun w hm => laws_szChoiceS.calls aList2 t_2 w _ aList2_a aList2.length aList2_c (hm.exRow aList2_h List.not_mem_nil) rfl ht_8) ?_)
      rintro w v w' hm ⟨rfl, hm'⟩
      refine ⟨_, hm.app hm', jkO ?_⟩
      clear hm hm'
      refine jo_f [(0, 0)] (by kernel_rfl) ?_
      refine jo_end (by kernel_rfl) ?_
      refine jx_then ?_
      refine jc_seq ?_
      refine jc_seq ?_
      refine jc_region ?_
      refine jo_f [(0, 0), (0, 0)] (by kernel_rfl) ?_
      refine jo_end (by kernel_rfl) ?_
      refine jx_then ?_
      refine jc_cond (decide (t_3 < 0)) (by kernel_rfl) (fun hc_10 => ?_) (fun hc_10 => ?_)
      · replace h := ifT hc_10 h
        refine jc_seq ?_
        refine jc_region ?_
        refine jo_f [(0, 0)] (by kernel_rfl) ?_
        refine jo_end (by kernel_rfl) ?_
        refine jx_then ?_
        refine jc_ret ?_
        refine jx_thenr ?_
        obtain rfl := Option.some.inj h
        exact jx_ret [] (.bool true) [] rfl (by kernel_rfl) (by kernel_rfl) (fun w hm => ⟨rfl, hm.pick [] (by kernel_rfl) (by kernel_rfl)⟩)
      · replace h := ifF hc_10 h
        refine jc_skip ?_
        refine jx_then ?_
        refine jc_seq ?_
        refine jc_region ?_
        refine jo_f [(0, 0)] (by kernel_rfl) ?_
        obtain ⟨t_4, ht_11, h⟩ := bd h
        refine toO (by kernel_rfl) (p_call 0 16 #[(.agg #[(.int .i16 aF0.fSteps), (.slice aF0_fHammers_a aF0.fHammers.length aF0_fHammers_c)])] (by kernel_rfl) (by kernel_rfl) (fun w hm => laws_toFrame.calls aF0 w _ aF0_fHammers_a aF0.fHammers.length aF0_fHammers_c (hm.exRow aF0_fHammers_h List.not_mem_nil) rfl ht_11) ?_)
        rintro w v w' hm ⟨o_12, cap_13, sp_14, _, rfl, hs_15, ho_16, rfl, hm'⟩
        refine ⟨_, hm.app hm', jkO ?_⟩
        clear hm hm'
        refine jo_f [(0, 0)] (by kernel_rfl) ?_
        obtain ⟨t_5, ht_17, h⟩ := bd h
        refine toO (by kernel_rfl) (p_call 0 25 #[(.slice aT1_a aT1.length aT1_c)] (by kernel_rfl) (by kernel_rfl) (fun w hm => laws_toTune.calls aT1 w _ aT1_a aT1.length aT1_c (hm.exRow aT1_h List.not_mem_nil) rfl ht_17) ?_)
        rintro w v w' hm ⟨o_18, cap_19, sp_20, _, rfl, hs_21, ho_22, rfl, hm'⟩
        refine ⟨_, hm.app hm', jkO ?_⟩
        clear hm hm'
        refine jo_f [(0, 0)] (by kernel_rfl) ?_
        obtain ⟨t_6, ht_23, h⟩ := bd h
        refine toO (by kernel_rfl) (p_call 0 26 #[(.slice aList2_a aList2.length aList2_c)] (by kernel_rfl) (by kernel_rfl) (fun w hm => laws_toChoiceS.calls aList2 w _ aList2_a aList2.length aList2_c (hm.exRow aList2_h List.not_mem_nil) rfl ht_23) ?_)
        rintro w v w' hm ⟨o_24, cap_25, sp_26, _, rfl, hs_27, ho_28, rfl, hm'⟩
        refine ⟨_, hm.app hm', jkO ?_⟩
        clear hm hm'
        obtain ⟨t_7, ht_29, h⟩ := bd h
        refine toO (by kernel_rfl) (p_call 0 35 #[(.agg #[(.int .i16 t_4.fSteps), (.slice (o_12.map fun b => ⟨b, 0, none⟩) t_4.fHammers.length cap_13)]), (.slice (o_18.map fun b => ⟨b, 0, none⟩) t_5.length cap_19), (.slice (o_24.map fun b => ⟨b, 0, none⟩) t_6.length cap_25)] (by kernel_rfl) (by kernel_rfl) (fun w hm => spec_KeptNotes.calls t_4 t_5 t_6 w _ (o_12.map fun b => ⟨b, 0, none⟩) t_4.fHammers.length cap_13 (hm.ownRow (hh := 1) (o := o_12) (T := 178) (enc := encGHammer) (xs := t_4.fHammers) (sp := sp_14) (by kernel_rfl) (fun e => (ho_16 e).1) encGHammer_len) rfl (o_18.map fun b => ⟨b, 0, none⟩) t_5.length cap_19 (hm.ownRow (hh := 2) (o := o_18) (T := 126) (enc := encGNote) (xs := t_5) (sp := sp_20) (by kernel_rfl) (fun e => (ho_22 e).1) encGNote_len) rfl (o_24.map fun b => ⟨b, 0, none⟩) t_6.length cap_25 (hm.ownRow (hh := 3) (o := o_24) (T := 130) (enc := encGChoice) (xs := t_6) (sp := sp_26) (by kernel_rfl) (fun e => (ho_28 e).1) encGChoice_len) rfl ht_29) ?_)
        rintro w v w' hm ⟨rfl, hm'⟩
        refine ⟨_, hm.app hm', jkO ?_⟩
        clear hm hm'
        refine jo_f [(0, 0), (0, 0), (0, 0), (0, 0), (0, 0)] (by kernel_rfl) ?_
        refine jo_end (by kernel_rfl) ?_
        refine jx_then ?_
        refine jc_seq ?_
        refine jc_region ?_
        refine jo_f [(0, 0)] (by kernel_rfl) ?_
        obtain ⟨t_8, ht_30, h⟩ := bd h
        refine toO (by kernel_rfl) (p_call 0 16 #[(.agg #[(.int .i16 aF0.fSteps), (.slice aF0_fHammers_a aF0.fHammers.length aF0_fHammers_c)])] (by kernel_rfl) (by kernel_rfl) (fun w hm => laws_toFrame.calls aF0 w _ aF0_fHammers_a aF0.fHammers.length aF0_fHammers_c (hm.exRow aF0_fHammers_h List.not_mem_nil) rfl ht_30) ?_)
        rintro w v w' hm ⟨o_31, cap_32, sp_33, _, rfl, hs_34, ho_35, rfl, hm'⟩
        refine ⟨_, hm.app hm', jkO ?_⟩
        clear hm hm'
        refine toO (by kernel_rfl) (p_a 0 [0] (by kernel_rfl) (fun b => by kernel_rfl) (fun b_36 => jkO ?_))
        refine toO (by kernel_rfl) (p_s 0 [5] (by kernel_rfl) (by kernel_rfl) (jkO ?_))
        refine jo_end (by kernel_rfl) ?_
        refine jx_then ?_
        refine jc_seq ?_
        refine jc_region ?_
        refine jo_f [(0, 0)] (by kernel_rfl) ?_
        obtain ⟨t_9, ht_37, h⟩ := bd h
        refine toO (by kernel_rfl) (p_call 0 25 #[(.slice aT1_a aT1.length aT1_c)] (by kernel_rfl) (by kernel_rfl) (fun w hm => laws_toTune.calls aT1 w _ aT1_a aT1.length aT1_c (hm.exRow aT1_h List.not_mem_nil) rfl ht_37) ?_)
        rintro w v w' hm ⟨o_38, cap_39, sp_40, _, rfl, hs_41, ho_42, rfl, hm'⟩
        refine ⟨_, hm.app hm', jkO ?_⟩
        clear hm hm'
        refine jo_f [(0, 0)] (by kernel_rfl) ?_
        refine jo_end (by kernel_rfl) ?_
        refine jx_then ?_
        refine jc_seq ?_
        refine jc_region ?_
        refine jo_f [(0, 0)] (by kernel_rfl) ?_
        obtain ⟨t_10, ht_43, h⟩ := bd h
        refine toO (by kernel_rfl) (p_call 0 26 #[(.slice aList2_a aList2.length aList2_c)] (by kernel_rfl) (by kernel_rfl) (fun w hm => laws_toChoiceS.calls aList2 w _ aList2_a aList2.length aList2_c (hm.exRow aList2_h List.not_mem_nil) rfl ht_43) ?_)
        rintro w v w' hm ⟨o_44, cap_45, sp_46, _, rfl, hs_47, ho_48, rfl, hm'⟩
        refine ⟨_, hm.app hm', jkO ?_⟩
        clear hm hm'
        refine jo_f [(0, 0)] (by kernel_rfl) ?_
        refine jo_end (by kernel_rfl) ?_
        refine jx_then ?_
        refine jc_seq ?_
        refine jc_region ?_
        refine jo_f [(5, 0), (0, 0), (0, 0)] (by kernel_rfl) ?_
        obtain ⟨t_11, ht_49, h⟩ := bd h
        refine toO (by kernel_rfl) (p_call 0 36 #[(.agg #[(.int .i16 t_8.fSteps), (.slice (o_31.map fun b => ⟨b, 0, none⟩) t_8.fHammers.length cap_32)]), (.slice (o_38.map fun b => ⟨b, 0, none⟩) t_9.length cap_39), (.slice (o_44.map fun b => ⟨b, 0, none⟩) t_10.length cap_45)] (by kernel_rfl) (by kernel_rfl) (fun w hm => impl_KeptNotes.calls t_8 t_9 t_10 w _ (o_31.map fun b => ⟨b, 0, none⟩) t_8.fHammers.length cap_32 (hm.ownRow (hh := 4) (o := o_31) (T := 178) (enc := encGHammer) (xs := t_8.fHammers) (sp := sp_33) (by kernel_rfl) (fun e => (ho_35 e).1) encGHammer_len) rfl (o_38.map fun b => ⟨b, 0, none⟩) t_9.length cap_39 (hm.ownRow (hh := 6) (o := o_38) (T := 126) (enc := encGNote) (xs := t_9) (sp := sp_40) (by kernel_rfl) (fun e => (ho_42 e).1) encGNote_len) rfl (o_44.map fun b => ⟨b, 0, none⟩) t_10.length cap_45 (hm.ownRow (hh := 7) (o := o_44) (T := 130) (enc := encGChoice) (xs := t_10) (sp := sp_46) (by kernel_rfl) (fun e => (ho_48 e).1) encGChoice_len) rfl ht_49) ?_)
        rintro w v w' hm ⟨rfl, hm'⟩
        refine ⟨_, hm.app hm', jkO ?_⟩
        clear hm hm'
        refine jo_f [(0, 0), (0, 0), (0, 0), (0, 0), (0, 0)] (by kernel_rfl) ?_
        refine jo_end (by kernel_rfl) ?_
        refine jx_then ?_
        refine jc_seq ?_
        refine jc_seq ?_
        refine jc_region ?_
        refine jo_f [(0, 0), (0, 0), (0, 0), (0, 0), (0, 1), (0, 1), (0, 1), (0, 0)] (by kernel_rfl) ?_
        refine jo_end (by kernel_rfl) ?_
        refine jx_then ?_
        refine jc_cond ((t_11.1 != t_7.1) || (t_11.2 != t_7.2)) (by kernel_rfl) (fun hc_51 => ?_) (fun hc_51 => ?_)
        · replace h := ifT hc_51 h
          refine jc_seq ?_
          refine jc_region ?_
          refine jo_f [(0, 0)] (by kernel_rfl) ?_
          refine jo_end (by kernel_rfl) ?_
          refine jx_then ?_
          refine jc_ret ?_
          refine jx_thenr ?_
          obtain rfl := Option.some.inj h
          exact jx_ret [] (.bool false) [] rfl (by kernel_rfl) (by kernel_rfl) (fun w hm => ⟨rfl, hm.pick [] (by kernel_rfl) (by kernel_rfl)⟩)
        · replace h := ifF hc_51 h
          refine jc_skip ?_
          refine jx_then ?_
          refine jc_seq ?_
          refine jc_seq ?_
          refine jc_draw [⟨some b_1, 25, [(.int .i16 aF0.fSteps), (.slice aF0_fHammers_a aF0.fHammers.length aF0_fHammers_c)]⟩, ⟨o_12, 178, row encGHammer t_4.fHammers sp_14⟩, ⟨o_18, 126, row encGNote t_5 sp_20⟩, ⟨o_24, 130, row encGChoice t_6 sp_26⟩, ⟨o_31, 178, row encGHammer t_8.fHammers sp_33⟩, ⟨some b_36, 38, [(.int .i16 t_8.fSteps), (.slice (o_31.map fun b => ⟨b, 0, none⟩) t_8.fHammers.length cap_32)]⟩, ⟨o_38, 126, row encGNote t_9 sp_40⟩, ⟨o_44, 130, row encGChoice t_10 sp_46⟩] 5 (by kernel_rfl) (by kernel_rfl) ?_
          refine jd_f [⟨0, 5, 0⟩, ⟨1, 0, 0⟩] 3 (by kernel_rfl) (by kernel_rfl) (fun w h => h.pick [0, 1, 2, 3, 4, 5, 6, 7] (by kernel_rfl) (by kernel_rfl)) (by kernel_rfl) (by kernel_rfl) ?_
          obtain ⟨t_12, ht_74, h⟩ := bd h
          refine toD 2 (by kernel_rfl) (p_call 0 16 #[(.agg #[(.int .i16 aF0.fSteps), (.slice aF0_fHammers_a aF0.fHammers.length aF0_fHammers_c)])] (by kernel_rfl) (by kernel_rfl) (fun w hm => laws_toFrame.calls aF0 w _ aF0_fHammers_a aF0.fHammers.length aF0_fHammers_c (hm.exRow aF0_fHammers_h List.not_mem_nil) rfl ht_74) ?_)
          rintro w v w' hm ⟨o_75, cap_76, sp_77, _, rfl, hs_78, ho_79, rfl, hm'⟩
          refine ⟨_, hm.app hm', jkD (fun w h => h.pick [0, 1, 2, 3, 4, 5, 6, 7] (by kernel_rfl) (by kernel_rfl)) ?_⟩
          clear hm hm'
          obtain ⟨t_13, ht_80, h⟩ := bd h
          refine toD 3 (by kernel_rfl) (p_call 0 20 #[(.agg #[(.int .i16 t_8.fSteps), (.slice (o_31.map fun b => ⟨b, 0, none⟩) t_8.fHammers.length cap_32)]), (.agg #[(.int .i16 t_12.fSteps), (.slice (o_75.map fun b => ⟨b, 0, none⟩) t_12.fHammers.length cap_76)])] (by kernel_rfl) (by kernel_rfl) (fun w hm => laws_eqFrame.calls t_8 t_12 w _ (o_31.map fun b => ⟨b, 0, none⟩) t_8.fHammers.length cap_32 (hm.ownRow (hh := 4) (o := o_31) (T := 178) (enc := encGHammer) (xs := t_8.fHammers) (sp := sp_33) (by kernel_rfl) (fun e => (ho_35 e).1) encGHammer_len) rfl (o_75.map fun b => ⟨b, 0, none⟩) t_12.fHammers.length cap_76 (hm.ownRow (hh := 8) (o := o_75) (T := 178) (enc := encGHammer) (xs := t_12.fHammers) (sp := sp_77) (by kernel_rfl) (fun e => (ho_79 e).1) encGHammer_len) rfl ht_80) ?_)
          rintro w v w' hm ⟨rfl, hm'⟩
          refine ⟨_, hm.app hm', jkD (fun w h => h.pick [0, 1, 2, 3, 4, 5, 6, 7] (by kernel_rfl) (by kernel_rfl)) ?_⟩
          clear hm hm'
          refine jd_f [⟨4, 0, 0⟩] 0 (by kernel_rfl) (by kernel_rfl) (fun w h => h.pick [0, 1, 2, 3, 4, 5, 6, 7] (by kernel_rfl) (by kernel_rfl)) (by kernel_rfl) (by kernel_rfl) ?_
          refine jd_end (by kernel_rfl) ?_
          refine jx_then ?_
          refine jc_cond (!t_13) (by kernel_rfl) (fun hc_81 => ?_) (fun hc_81 => ?_)
          · replace h := ifT hc_81 h
            refine jc_seq ?_
            refine jc_region ?_
            refine jo_f [(0, 0)] (by kernel_rfl) ?_
            refine jo_end (by kernel_rfl) ?_
            refine jx_then ?_
            refine jc_ret ?_
            refine jx_thenr ?_
            obtain rfl := Option.some.inj h
            exact jx_ret [] (.bool false) [] rfl (by kernel_rfl) (by kernel_rfl) (fun w hm => ⟨rfl, hm.pick [] (by kernel_rfl) (by kernel_rfl)⟩)
          · replace h := ifF hc_81 h
            refine jc_skip ?_
            refine jx_then ?_
            refine jc_seq ?_
            refine jc_seq ?_
            refine jc_region ?_
            refine jo_f [(0, 0), (0, 0)] (by kernel_rfl) ?_
            obtain ⟨t_14, ht_90, h⟩ := bd h
            refine toO (by kernel_rfl) (p_call 0 25 #[(.slice aT1_a aT1.length aT1_c)] (by kernel_rfl) (by kernel_rfl) (fun w hm => laws_toTune.calls aT1 w _ aT1_a aT1.length aT1_c (hm.exRow aT1_h List.not_mem_nil) rfl ht_90) ?_)
            rintro w v w' hm ⟨o_91, cap_92, sp_93, _, rfl, hs_94, ho_95, rfl, hm'⟩
            refine ⟨_, hm.app hm', jkO ?_⟩
            clear hm hm'
            obtain ⟨t_15, ht_96, h⟩ := bd h
            refine toO (by kernel_rfl) (p_call 0 28 #[(.slice (o_38.map fun b => ⟨b, 0, none⟩) t_9.length cap_39), (.slice (o_91.map fun b => ⟨b, 0, none⟩) t_14.length cap_92)] (by kernel_rfl) (by kernel_rfl) (fun w hm => laws_eqTune.calls t_9 t_14 w _ (o_38.map fun b => ⟨b, 0, none⟩) t_9.length cap_39 (hm.ownRow (hh := 6) (o := o_38) (T := 126) (enc := encGNote) (xs := t_9) (sp := sp_40) (by kernel_rfl) (fun e => (ho_42 e).1) encGNote_len) rfl (o_91.map fun b => ⟨b, 0, none⟩) t_14.length cap_92 (hm.ownRow (hh := 9) (o := o_91) (T := 126) (enc := encGNote) (xs := t_14) (sp := sp_93) (by kernel_rfl) (fun e => (ho_95 e).1) encGNote_len) rfl ht_96) ?_)
            rintro w v w' hm ⟨rfl, hm'⟩
            refine ⟨_, hm.app hm', jkO ?_⟩
            clear hm hm'
            refine jo_f [(0, 0)] (by kernel_rfl) ?_
            refine jo_end (by kernel_rfl) ?_
            refine jx_then ?_
            refine jc_cond (!t_15) (by kernel_rfl) (fun hc_97 => ?_) (fun hc_97 => ?_)
            · replace h := ifT hc_97 h
              refine jc_seq ?_
              refine jc_region ?_
              refine jo_f [(0, 0)] (by kernel_rfl) ?_
              refine jo_end (by kernel_rfl) ?_
              refine jx_then ?_
              refine jc_ret ?_
              refine jx_thenr ?_
              obtain rfl := Option.some.inj h
              exact jx_ret [] (.bool false) [] rfl (by kernel_rfl) (by kernel_rfl) (fun w hm => ⟨rfl, hm.pick [] (by kernel_rfl) (by kernel_rfl)⟩)
            · replace h := ifF hc_97 h
              refine jc_skip ?_
              refine jx_then ?_
              refine jc_seq ?_
              refine jc_seq ?_
              refine jc_region ?_
              refine jo_f [(0, 0), (0, 0)] (by kernel_rfl) ?_
              obtain ⟨t_16, ht_98, h⟩ := bd h
              refine toO (by kernel_rfl) (p_call 0 26 #[(.slice aList2_a aList2.length aList2_c)] (by kernel_rfl) (by kernel_rfl) (fun w hm => laws_toChoiceS.calls aList2 w _ aList2_a aList2.length aList2_c (hm.exRow aList2_h List.not_mem_nil) rfl ht_98) ?_)
              rintro w v w' hm ⟨o_99, cap_100, sp_101, _, rfl, hs_102, ho_103, rfl, hm'⟩
              refine ⟨_, hm.app hm', jkO ?_⟩
              clear hm hm'
              obtain ⟨t_17, ht_104, h⟩ := bd h
              refine toO (by kernel_rfl) (p_call 0 29 #[(.slice (o_44.map fun b => ⟨b, 0, none⟩) t_10.length cap_45), (.slice (o_99.map fun b => ⟨b, 0, none⟩) t_16.length cap_100)] (by kernel_rfl) (by kernel_rfl) (fun w hm => laws_eqChoiceS.calls t_10 t_16 w _ (o_44.map fun b => ⟨b, 0, none⟩) t_10.length cap_45 (hm.ownRow (hh := 7) (o := o_44) (T := 130) (enc := encGChoice) (xs := t_10) (sp := sp_46) (by kernel_rfl) (fun e => (ho_48 e).1) encGChoice_len) rfl (o_99.map fun b => ⟨b, 0, none⟩) t_16.length cap_100 (hm.ownRow (hh := 10) (o := o_99) (T := 130) (enc := encGChoice) (xs := t_16) (sp := sp_101) (by kernel_rfl) (fun e => (ho_103 e).1) encGChoice_len) rfl ht_104) ?_)
              rintro w v w' hm ⟨rfl, hm'⟩
              refine ⟨_, hm.app hm', jkO ?_⟩
              clear hm hm'
              refine jo_f [(0, 0)] (by kernel_rfl) ?_
              refine jo_end (by kernel_rfl) ?_
              refine jx_then ?_
              refine jc_cond (!t_17) (by kernel_rfl) (fun hc_105 => ?_) (fun hc_105 => ?_)
              · replace h := ifT hc_105 h
                refine jc_seq ?_
                refine jc_region ?_
                refine jo_f [(0, 0)] (by kernel_rfl) ?_
                refine jo_end (by kernel_rfl) ?_
                refine jx_then ?_
                refine jc_ret ?_
                refine jx_thenr ?_
                obtain rfl := Option.some.inj h
                exact jx_ret [] (.bool false) [] rfl (by kernel_rfl) (by kernel_rfl) (fun w hm => ⟨rfl, hm.pick [] (by kernel_rfl) (by kernel_rfl)⟩)
              · replace h := ifF hc_105 h
                refine jc_skip ?_
                refine jx_then ?_
                refine jc_seq ?_
                refine jc_region ?_
                refine jo_f [(0, 0)] (by kernel_rfl) ?_
                refine jo_end (by kernel_rfl) ?_
                refine jx_then ?_
                refine jc_ret ?_
                obtain rfl := Option.some.inj h
                exact jx_ret [] (.bool true) [] rfl (by kernel_rfl) (by kernel_rfl) (fun w hm => ⟨rfl, hm.pick [] (by kernel_rfl) (by kernel_rfl)⟩)
end Go.Proofs.Ytilackblefjgdaa
