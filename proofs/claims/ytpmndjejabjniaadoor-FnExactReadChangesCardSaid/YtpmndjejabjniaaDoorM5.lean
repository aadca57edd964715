/- Functions of the program that the laws reach: a plain function each, and that the call comes to its answer if the plain function has one. Printed by a program. -/
import Derived.Test.YtpmndjejabjniaaDoorT
import Derived.Test.YtpmndjejabjniaaDoorM0
import Derived.Test.YtpmndjejabjniaaDoorM2
namespace Go.Proofs.YtpmndjejabjniaaDoor
open Eng
set_option linter.unusedVariables false

/-! ### spec.l05Plain -/
noncomputable def spec_l05Plain.k_1 (list0 : List GChange) : Option (Bool) := some (decide ((list0.length : Int) ≤ 2400))
noncomputable def spec_l05Plain.k_6 (i_2 : Int) (q_5 : Bool) : Option ((Int) ⊕ (Bool ⊕ Unit)) := (if q_5 = true then some (.inr (.inl false)) else some (.inl (w64 (i_2 + 1))))
noncomputable def spec_l05Plain.l_3 (list0 : List GChange) : Int → Option ((Int) ⊕ (Bool ⊕ Unit))
  | i_2 => (if (decide (i_2 < (list0.length : Int))) = true then (ix list0 i_2).bind fun x_7 => (spec_l00In (w64 x_7.fStep) 0 95).bind fun t_8 => (if (!t_8) = true then spec_l05Plain.k_6 i_2 true else (ix list0 i_2).bind fun x_9 => (spec_l00In (w64 x_9.fTrack) 0 23).bind fun t_10 => spec_l05Plain.k_6 i_2 (!t_10)) else some (.inr (.inr ())))
noncomputable def spec_l05Plain (list0 : List GChange) : Option (Bool) := (loop (spec_l05Plain.l_3 list0) 0).bind fun t_4 => match t_4 with | .inl p => some p | .inr p => spec_l05Plain.k_1 list0
set_option maxRecDepth 100000 in
theorem spec_l05Plain.calls (list0 : List GChange) (w : World) (r : Bool) (list0_a : Option Addr) (list0_an : Nat) (list0_c : Nat) (list0_h : Rw w list0_a 3 encGChange list0) (list0_hn : list0.length = list0_an) (h : spec_l05Plain list0 = some r) :
    Calls Tryd.prog 51 #[(.slice list0_a list0_an list0_c)] w fun e w' => ∃ v, e = .returned v ∧ (v = (.bool r) ∧ Mem w [] [] w') := by
  subst list0_hn
  rw [spec_l05Plain] at h
  refine enter (args := [(.slice list0_a list0.length list0_c)]) Tryd.func51 rfl Tryd.ntmps51 (by kernel_rfl) (L := []) (W := []) (Mem.start w) ?_
  refine jc_seq ?_
  refine jc_region ?_
  refine jo_f [(0, 0)] (by kernel_rfl) ?_
  refine jo_end (by kernel_rfl) ?_
  refine jx_then ?_
  refine jc_seq ?_
  refine jc_seq ?_
  refine jc_region ?_
  refine jo_f [(0, 0)] (by kernel_rfl) ?_
  refine jo_end (by kernel_rfl) ?_
  refine jx_then ?_
  refine jc_meet (fun (_ : Unit) => spec_l05Plain.k_1 list0 = some r) (fun (_ : Unit) => [(0, [], (.slice list0_a list0.length list0_c)), (2, [], (.bool false))]) (fun (_ : Unit) => []) ?_ ?_
  · refine jc_block ?_
    obtain ⟨t_4, ht_176, hr_159⟩ := bd h
    refine jc_loop (fun (s : Int) (x : Unit) => match s, x with | i_2, _ => True) (fun (s : Int) (x : Unit) => match s, x with | i_2, _ => [(0, [], (.slice list0_a list0.length list0_c)), (2, [], (.bool false)), (3, [], (.int .i64 i_2))]) (fun (s : Int) (x : Unit) => match s, x with | i_2, _ => []) ht_176 () trivial (by kernel_rfl) [] (by kernel_rfl) (by kernel_rfl) ?_
    rintro i_2 _ y_160 _ h
    rw [spec_l05Plain.l_3] at h
    refine jc_seq ?_
    refine jc_seq ?_
    refine jc_region ?_
    refine jo_f [(0, 0), (0, 0), (0, 0), (0, 0)] (by kernel_rfl) ?_
    refine jo_end (by kernel_rfl) ?_
    refine jx_then ?_
    refine jc_cond (decide (i_2 < (list0.length : Int))) (by kernel_rfl) (fun hc_162 => ?_) (fun hc_162 => ?_)
    · replace h := ifT hc_162 h
      refine jc_skip ?_
      refine jx_then ?_
      refine jc_seq ?_
      refine jc_block ?_
      refine jc_seq ?_
      refine jc_meet (fun (j : Bool) => match j with | q_5 => spec_l05Plain.k_6 i_2 q_5 = some y_160) (fun (j : Bool) => match j with | q_5 => [(0, [], (.slice list0_a list0.length list0_c)), (2, [], (.bool false)), (3, [], (.int .i64 i_2)), (27, [], (.bool q_5))]) (fun (j : Bool) => match j with | q_5 => []) ?_ ?_
      · refine jc_region ?_
        refine jo_f [(0, 0), (0, 0)] (by kernel_rfl) ?_
        obtain ⟨x_7, hx_170, h⟩ := bd h
        refine toO (by kernel_rfl) (p_idx 0 list0_a list0.length i_2 3 (by kernel_rfl) (by kernel_rfl) (ix_some hx_170).1 (ltn hx_170 rfl) (list0_h.sp hx_170) (jkO ?_))
        refine jo_f [(0, 0)] (by kernel_rfl) ?_
        refine toO (by kernel_rfl) (p_ld 0 (aB list0_a) (aO list0_a + i_2.toNat * 3) false (((encGChange x_7).drop 0).take 1) (by kernel_rfl) (by kernel_rfl) (by kernel_rfl) (fun w hm => (((hm.exRow list0_h List.not_mem_nil).at hx_170).sub 0 1)) (jkO ?_))
        refine jo_f [(0, 0)] (by kernel_rfl) ?_
        obtain ⟨t_8, ht_171, h⟩ := bd h
        refine toO (by kernel_rfl) (p_call 0 78 #[(.int .i64 (w64 x_7.fStep)), (.int .i64 0), (.int .i64 95)] (by kernel_rfl) (by kernel_rfl) (fun w hm => spec_l00In.calls (w64 x_7.fStep) 0 95 w _ ht_171) ?_)
        rintro w v w' hm ⟨rfl, hm'⟩
        refine ⟨_, hm.app hm', jkO ?_⟩
        clear hm hm'
        refine jo_f [(0, 0), (0, 0), (0, 1), (0, 1)] (by kernel_rfl) ?_
        refine jo_split 18 (!t_8) (by kernel_rfl) (fun hc_172 => ?_) (fun hc_172 => ?_)
        · replace h := ifT hc_172 h
          refine jo_f [(0, 3), (0, 3), (0, 3), (0, 3), (0, 3), (0, 3), (0, 4)] (by kernel_rfl) ?_
          refine jo_end (by kernel_rfl) ?_
          exact jx_meet true h (by kernel_rfl) [] (by kernel_rfl) (by kernel_rfl)
        · replace h := ifF hc_172 h
          obtain ⟨x_9, hx_173, h⟩ := bd h
          refine toO (by kernel_rfl) (p_idx 2 list0_a list0.length i_2 3 (by kernel_rfl) (by kernel_rfl) (ix_some hx_173).1 (ltn hx_173 rfl) (list0_h.sp hx_173) (jkO ?_))
          refine jo_f [(0, 2)] (by kernel_rfl) ?_
          refine toO (by kernel_rfl) (p_ld 2 (aB list0_a) (aO list0_a + i_2.toNat * 3 + 1) false (((encGChange x_9).drop 1).take 1) (by kernel_rfl) (by kernel_rfl) (by kernel_rfl) (fun w hm => (((hm.exRow list0_h List.not_mem_nil).at hx_173).sub 1 1)) (jkO ?_))
          refine jo_f [(0, 2)] (by kernel_rfl) ?_
          obtain ⟨t_10, ht_174, h⟩ := bd h
          refine toO (by kernel_rfl) (p_call 2 78 #[(.int .i64 (w64 x_9.fTrack)), (.int .i64 0), (.int .i64 23)] (by kernel_rfl) (by kernel_rfl) (fun w hm => spec_l00In.calls (w64 x_9.fTrack) 0 23 w _ ht_174) ?_)
          rintro w v w' hm ⟨rfl, hm'⟩
          refine ⟨_, hm.app hm', jkO ?_⟩
          clear hm hm'
          refine jo_f [(0, 2), (0, 5)] (by kernel_rfl) ?_
          refine jo_end (by kernel_rfl) ?_
          exact jx_meet (!t_10) h (by kernel_rfl) [] (by kernel_rfl) (by kernel_rfl)
      · rintro q_5 h
        replace h : spec_l05Plain.k_6 i_2 q_5 = some y_160 := h
        rw [spec_l05Plain.k_6] at h
        refine jx_then ?_
        refine jc_cond q_5 (by kernel_rfl) (fun hc_168 => ?_) (fun hc_168 => ?_)
        · replace h := ifT hc_168 h
          refine jc_seq ?_
          refine jc_region ?_
          refine jo_f [(0, 0)] (by kernel_rfl) ?_
          refine jo_end (by kernel_rfl) ?_
          refine jx_then ?_
          refine jc_ret ?_
          refine jx_inr ?_
          refine jx_thenr ?_
          refine jx_leaver (.inl false) (Option.some.inj h).symm (fun e_169 => ?_)
          subst e_169
          refine jx_inr ?_
          refine jx_thenr ?_
          refine jx_thenr ?_
          obtain rfl := Option.some.inj hr_159
          exact jx_ret [] (.bool false) [] rfl (by kernel_rfl) (by kernel_rfl) (fun w hm => ⟨rfl, hm.pick [] (by kernel_rfl) (by kernel_rfl)⟩)
        · replace h := ifF hc_168 h
          refine jc_skip ?_
          refine jx_inn ?_
          refine jx_then ?_
          refine jc_region ?_
          refine jo_f [(0, 0), (0, 0), (0, 0)] (by kernel_rfl) ?_
          refine jo_end (by kernel_rfl) ?_
          exact jx_back (w64 (i_2 + 1)) () (Option.some.inj h).symm trivial [] (by kernel_rfl) (by kernel_rfl) (by kernel_rfl)
    · replace h := ifF hc_162 h
      refine jc_exit ?_
      refine jx_thenx ?_
      refine jx_leave (.inr ()) (Option.some.inj h).symm (fun e_175 => ?_)
      subst e_175
      refine jx_ine ?_
      exact jx_meet () hr_159 (by kernel_rfl) [] (by kernel_rfl) (by kernel_rfl)
  · rintro _ h
    replace h : spec_l05Plain.k_1 list0 = some r := h
    rw [spec_l05Plain.k_1] at h
    refine jx_then ?_
    refine jc_seq ?_
    refine jc_region ?_
    refine jo_f [(0, 0), (0, 0), (0, 0), (0, 0)] (by kernel_rfl) ?_
    refine jo_end (by kernel_rfl) ?_
    refine jx_then ?_
    refine jc_ret ?_
    obtain rfl := Option.some.inj h
    exact jx_ret [] (.bool (decide ((list0.length : Int) ≤ 2400))) [] rfl (by kernel_rfl) (by kernel_rfl) (fun w hm => ⟨rfl, hm.pick [] (by kernel_rfl) (by kernel_rfl)⟩)

/-! ### spec.ReadChanges -/
noncomputable def spec_ReadChanges.k_3 (xs_2 : List GChange) : Option ((List GChange) × Int) := (spec_l05Plain xs_2).bind fun t_4 => (if (!t_4) = true then some (([] : List GChange), 5) else some (xs_2, 0))
noncomputable def spec_ReadChanges.k_11 (xs_5 : List GChange) (i_6 : Int) (x_9 : ByteArray) (q_10 : Bool) : Option (((List GChange) × Int) ⊕ (((List GChange) × Int) ⊕ (List GChange))) := (if q_10 = true then some (.inr (.inl (([] : List GChange), 5))) else (if 0 ≤ (1 : Int) ∧ (1 : Int) ≤ (x_9.size : Int) ∧ (x_9.size : Int) ≤ (x_9.size : Int) then (spec_l01Split (x_9.extract (1 : Int).toNat (x_9.size : Int).toNat) 47).bind fun t_12 => (if ((t_12.length : Int) != 2) = true then some (.inr (.inl (([] : List GChange), 5))) else (ix t_12 0).bind fun x_13 => (spec_l01Number x_13).bind fun t_14 => (ix t_12 1).bind fun x_15 => (spec_l01Number x_15).bind fun t_16 => (if ((((!t_14.2) || (!t_16.2)) || (decide (t_14.1 ≥ 96))) || (decide (t_16.1 ≥ 24))) = true then some (.inr (.inl (([] : List GChange), 5))) else (sIx x_9 0).bind fun x_17 => (if xs_5.length + [(⟨(w16 t_14.1), (w8 t_16.1), (x_17 == 43)⟩ : GChange)].length ≤ 4294967296 then some (.inl ((xs_5 ++ [(⟨(w16 t_14.1), (w8 t_16.1), (x_17 == 43)⟩ : GChange)]), (w64 (i_6 + 1)))) else none))) else none))
noncomputable def spec_ReadChanges.l_7 (t_1 : (List ByteArray)) : ((List GChange) × Int) → Option (((List GChange) × Int) ⊕ (((List GChange) × Int) ⊕ (List GChange)))
  | (xs_5, i_6) => (if (decide (i_6 < (t_1.length : Int))) = true then (ix t_1 i_6).bind fun x_9 => (if (decide ((x_9.size : Int) < 2)) = true then spec_ReadChanges.k_11 xs_5 i_6 x_9 true else (sIx x_9 0).bind fun x_18 => (if (x_18 != 43) = true then (sIx x_9 0).bind fun x_19 => spec_ReadChanges.k_11 xs_5 i_6 x_9 (x_19 != 45) else spec_ReadChanges.k_11 xs_5 i_6 x_9 false)) else some (.inr (.inr xs_5)))
noncomputable def spec_ReadChanges (text0 : ByteArray) : Option ((List GChange) × Int) := (if (text0.toList == (ByteArray.mk #[]).toList) = true then some (([] : List GChange), 0) else (spec_l01Split text0 32).bind fun t_1 => (loop (spec_ReadChanges.l_7 t_1) (([] : List GChange), 0)).bind fun t_8 => match t_8 with | .inl p => some p | .inr p => spec_ReadChanges.k_3 p)
set_option maxRecDepth 100000 in
set_option maxHeartbeats 8000000 in
theorem spec_ReadChanges.calls (text0 : ByteArray) (w : World) (r : (List GChange) × Int) (h : spec_ReadChanges text0 = some r) :
    Calls Tryd.prog 18 #[(.string text0)] w fun e w' => ∃ v, e = .returned v ∧ (∃ (o0 : Option Nat) (c0 : Nat) (s0 : List Value) (n0 : Nat), r.1.length = n0 ∧ (o0 ≠ none → n0 ≤ c0 ∧ s0.length = (c0 - n0) * 3) ∧ (o0 = none → r.1 = [] ∧ c0 = 0) ∧ v = .tuple #[.slice (o0.map fun b => ⟨b, 0, none⟩) n0 c0, (.int .i64 r.2)] ∧ Mem w [] [⟨o0, 88, row encGChange r.1 s0⟩] w') := by
  rw [spec_ReadChanges] at h
  refine enter (args := [(.string text0)]) Tryd.func18 rfl Tryd.ntmps18 (by kernel_rfl) (L := []) (W := []) (Mem.start w) ?_
  refine jc_seq ?_
  refine jc_region ?_
  refine jo_f [(0, 0), (0, 0)] (by kernel_rfl) ?_
  refine jo_end (by kernel_rfl) ?_
  refine jx_then ?_
  refine jc_seq ?_
  refine jc_region ?_
  refine toO (by kernel_rfl) (p_a 0 [0] (by kernel_rfl) (fun b => by kernel_rfl) (fun b_1 => jkO ?_))
  refine jo_f [(0, 0)] (by kernel_rfl) ?_
  refine jo_end (by kernel_rfl) ?_
  refine jx_then ?_
  refine jc_seq ?_
  refine jc_seq ?_
  refine jc_region ?_
  refine jo_f [(0, 0), (0, 0)] (by kernel_rfl) ?_
  refine jo_end (by kernel_rfl) ?_
  refine jx_then ?_
  refine jc_cond (text0.toList == (ByteArray.mk #[]).toList) (by kernel_rfl) (fun hc_3 => ?_) (fun hc_3 => ?_)
  · replace h := ifT hc_3 h
    refine jc_seq ?_
    refine jc_region ?_
    refine jo_f [(0, 0), (0, 0), (0, 0)] (by kernel_rfl) ?_
    refine jo_end (by kernel_rfl) ?_
    refine jx_then ?_
    refine jc_ret ?_
    refine jx_thenr ?_
    obtain rfl := Option.some.inj h
    exact jx_ret [] (.tuple #[(.slice (some ⟨b_1, 0, none⟩) 0 0), (.int .i64 0)]) [] rfl (by kernel_rfl) (by kernel_rfl) (fun w hm => ⟨(some b_1), 0, [], 0, rfl, (fun _ => ⟨Nat.le_refl _, by simp⟩), (fun e => nomatch e), rfl, hm.pick [0] (by kernel_rfl) (by kernel_rfl)⟩)
  · replace h := ifF hc_3 h
    refine jc_skip ?_
    refine jx_then ?_
    refine jc_seq ?_
    refine jc_region ?_
    refine jo_f [(0, 0)] (by kernel_rfl) ?_
    obtain ⟨t_1, ht_4, h⟩ := bd h
    refine toO (by kernel_rfl) (p_call 0 49 #[(.string text0), (.int .u8 32)] (by kernel_rfl) (by kernel_rfl) (fun w hm => spec_l01Split.calls text0 32 w _ ht_4) ?_)
    rintro w v w' hm ⟨o_5, cap_6, sp_7, _, rfl, hs_8, ho_9, rfl, hm'⟩
    refine ⟨_, hm.app hm', jkO ?_⟩
    clear hm hm'
    refine jo_f [(0, 0)] (by kernel_rfl) ?_
    refine jo_end (by kernel_rfl) ?_
    refine jx_then ?_
    refine jc_seq ?_
    refine jc_seq ?_
    refine jc_region ?_
    refine jo_f [(0, 0)] (by kernel_rfl) ?_
    refine jo_end (by kernel_rfl) ?_
    refine jx_then ?_
    refine jc_meet (fun (j : (List GChange) × (Option Nat) × Nat × (List Value) × Nat) => match j with | ⟨xs_2, o_523, cap_524, sp_525, n_526⟩ => spec_ReadChanges.k_3 xs_2 = some r ∧ (xs_2.length = n_526) ∧ ((o_523 ≠ none → n_526 ≤ cap_524 ∧ sp_525.length = (cap_524 - n_526) * 3)) ∧ ((o_523 = none → xs_2 = [] ∧ cap_524 = 0))) (fun (j : (List GChange) × (Option Nat) × Nat × (List Value) × Nat) => match j with | ⟨xs_2, o_523, cap_524, sp_525, n_526⟩ => [(2, [], (.slice none 0 0)), (3, [], (.int .i64 0)), (4, [], (.slice (o_523.map fun b => ⟨b, 0, none⟩) n_526 cap_524))]) (fun (j : (List GChange) × (Option Nat) × Nat × (List Value) × Nat) => match j with | ⟨xs_2, o_523, cap_524, sp_525, n_526⟩ => [⟨o_523, 88, row encGChange xs_2 sp_525⟩, ⟨o_5, 9, row encStr t_1 sp_7⟩]) ?_ ?_
    · refine jc_block ?_
      obtain ⟨t_8, ht_703, hr_647⟩ := bd h
      refine jc_loop (fun (s : (List GChange) × Int) (x : (Option Nat) × Nat × (List Value) × Nat) => match s, x with | ⟨xs_5, i_6⟩, ⟨o_641, cap_642, sp_643, n_644⟩ => (xs_5.length = n_644) ∧ ((o_641 ≠ none → n_644 ≤ cap_642 ∧ sp_643.length = (cap_642 - n_644) * 3)) ∧ ((o_641 = none → xs_5 = [] ∧ cap_642 = 0))) (fun (s : (List GChange) × Int) (x : (Option Nat) × Nat × (List Value) × Nat) => match s, x with | ⟨xs_5, i_6⟩, ⟨o_641, cap_642, sp_643, n_644⟩ => [(2, [], (.slice none 0 0)), (3, [], (.int .i64 0)), (4, [], (.slice (o_641.map fun b => ⟨b, 0, none⟩) n_644 cap_642)), (5, [], (.slice (o_5.map fun b => ⟨b, 0, none⟩) t_1.length cap_6)), (6, [], (.int .i64 i_6))]) (fun (s : (List GChange) × Int) (x : (Option Nat) × Nat × (List Value) × Nat) => match s, x with | ⟨xs_5, i_6⟩, ⟨o_641, cap_642, sp_643, n_644⟩ => [⟨o_641, 88, row encGChange xs_5 sp_643⟩, ⟨o_5, 9, row encStr t_1 sp_7⟩]) ht_703 ⟨(some b_1), 0, [], 0⟩ ⟨rfl, (fun _ => ⟨Nat.le_refl _, by simp⟩), (fun e => nomatch e)⟩ (by kernel_rfl) [0, 1] (by kernel_rfl) (by kernel_rfl) ?_
      rintro ⟨xs_5, i_6⟩ ⟨o_641, cap_642, sp_643, n_644⟩ y_648 ⟨rfl, hs_645, ho_646⟩ h
      rw [spec_ReadChanges.l_7] at h
      refine jc_seq ?_
      refine jc_seq ?_
      refine jc_region ?_
      refine jo_f [(0, 0), (0, 0), (0, 0), (0, 0)] (by kernel_rfl) ?_
      refine jo_end (by kernel_rfl) ?_
      refine jx_then ?_
      refine jc_cond (decide (i_6 < (t_1.length : Int))) (by kernel_rfl) (fun hc_650 => ?_) (fun hc_650 => ?_)
      · replace h := ifT hc_650 h
        refine jc_skip ?_
        refine jx_then ?_
        refine jc_seq ?_
        refine jc_block ?_
        refine jc_seq ?_
        refine jc_region ?_
        refine jo_f [(0, 0), (0, 0)] (by kernel_rfl) ?_
        obtain ⟨x_9, hx_651, h⟩ := bd h
        refine toO (by kernel_rfl) (p_idx 0 (o_5.map fun b => ⟨b, 0, none⟩) t_1.length i_6 1 (by kernel_rfl) (by kernel_rfl) (ix_some hx_651).1 (ltn hx_651 rfl) (spo ho_9 hx_651) (jkO ?_))
        refine toO (by kernel_rfl) (p_ld 0 (aB (o_5.map fun b => ⟨b, 0, none⟩)) (aO (o_5.map fun b => ⟨b, 0, none⟩) + i_6.toNat * 1) false (encStr x_9) (by kernel_rfl) (by kernel_rfl) (by kernel_rfl) (fun w hm => ((hm.ownRow (hh := 1) (o := o_5) (T := 9) (enc := encStr) (xs := t_1) (sp := sp_7) (by kernel_rfl) (fun e => (ho_9 e).1) encStr_len).at hx_651)) (jkO ?_))
        refine jo_f [(0, 0)] (by kernel_rfl) ?_
        refine jo_end (by kernel_rfl) ?_
        refine jx_then ?_
        refine jc_seq ?_
        refine jc_seq ?_
        refine jc_meet (fun (j : Bool) => match j with | q_10 => spec_ReadChanges.k_11 xs_5 i_6 x_9 q_10 = some y_648) (fun (j : Bool) => match j with | q_10 => [(2, [], (.slice none 0 0)), (3, [], (.int .i64 0)), (4, [], (.slice (o_641.map fun b => ⟨b, 0, none⟩) xs_5.length cap_642)), (5, [], (.slice (o_5.map fun b => ⟨b, 0, none⟩) t_1.length cap_6)), (6, [], (.int .i64 i_6)), (7, [], (.string x_9)), (41, [], (.bool q_10))]) (fun (j : Bool) => match j with | q_10 => [⟨o_641, 88, row encGChange xs_5 sp_643⟩, ⟨o_5, 9, row encStr t_1 sp_7⟩]) ?_ ?_
        · refine jc_region ?_
          refine jo_f [(0, 0), (0, 0), (0, 0), (0, 0), (0, 1)] (by kernel_rfl) ?_
          refine jo_split 32 (decide ((x_9.size : Int) < 2)) (by kernel_rfl) (fun hc_698 => ?_) (fun hc_698 => ?_)
          · replace h := ifT hc_698 h
            refine jo_f [(0, 3), (0, 3), (0, 3), (0, 3), (0, 3), (0, 3), (0, 3), (0, 4)] (by kernel_rfl) ?_
            refine jo_end (by kernel_rfl) ?_
            exact jx_meet true h (by kernel_rfl) [0, 1] (by kernel_rfl) (by kernel_rfl)
          · replace h := ifF hc_698 h
            obtain ⟨x_18, hx_699, h⟩ := bd h
            refine toO (by kernel_rfl) (p_v 2 (by kernel_rfl) _ (fun w hm => six_run (s := x_9) (j := 0) (by kernel_rfl) hx_699) (jkO ?_))
            refine jo_f [(0, 2), (0, 2), (0, 1)] (by kernel_rfl) ?_
            refine jo_split 36 (x_18 != 43) (by kernel_rfl) (fun hc_700 => ?_) (fun hc_700 => ?_)
            · replace h := ifT hc_700 h
              obtain ⟨x_19, hx_701, h⟩ := bd h
              refine toO (by kernel_rfl) (p_v 2 (by kernel_rfl) _ (fun w hm => six_run (s := x_9) (j := 0) (by kernel_rfl) hx_701) (jkO ?_))
              refine jo_f [(0, 2), (0, 4), (0, 5)] (by kernel_rfl) ?_
              refine jo_end (by kernel_rfl) ?_
              exact jx_meet (x_19 != 45) h (by kernel_rfl) [0, 1] (by kernel_rfl) (by kernel_rfl)
            · replace h := ifF hc_700 h
              refine jo_f [(0, 3), (0, 3), (0, 5), (0, 5)] (by kernel_rfl) ?_
              refine jo_end (by kernel_rfl) ?_
              exact jx_meet false h (by kernel_rfl) [0, 1] (by kernel_rfl) (by kernel_rfl)
        · rintro q_10 h
          replace h : spec_ReadChanges.k_11 xs_5 i_6 x_9 q_10 = some y_648 := h
          rw [spec_ReadChanges.k_11] at h
          refine jx_then ?_
          refine jc_cond q_10 (by kernel_rfl) (fun hc_666 => ?_) (fun hc_666 => ?_)
          · replace h := ifT hc_666 h
            refine jc_seq ?_
            refine jc_region ?_
            refine toO (by kernel_rfl) (p_a 0 [0] (by kernel_rfl) (fun b => by kernel_rfl) (fun b_667 => jkO ?_))
            refine jo_f [(0, 0), (0, 0)] (by kernel_rfl) ?_
            refine jo_end (by kernel_rfl) ?_
            refine jx_then ?_
            refine jc_ret ?_
            refine jx_thenr ?_
            refine jx_inr ?_
            refine jx_thenr ?_
            refine jx_leaver (.inl (([] : List GChange), 5)) (Option.some.inj h).symm (fun e_668 => ?_)
            subst e_668
            refine jx_inr ?_
            refine jx_thenr ?_
            refine jx_thenr ?_
            obtain rfl := Option.some.inj hr_647
            exact jx_ret [] (.tuple #[(.slice (some ⟨b_667, 0, none⟩) 0 0), (.int .i64 5)]) [] rfl (by kernel_rfl) (by kernel_rfl) (fun w hm => ⟨(some b_667), 0, [], 0, rfl, (fun _ => ⟨Nat.le_refl _, by simp⟩), (fun e => nomatch e), rfl, hm.pick [2] (by kernel_rfl) (by kernel_rfl)⟩)
          · replace h := ifF hc_666 h
            refine jc_skip ?_
            refine jx_then ?_
            refine jc_seq ?_
            refine jc_region ?_
            refine jo_f [(0, 0)] (by kernel_rfl) ?_
            obtain ⟨hg_669, h⟩ := gd h
            refine toO (by kernel_rfl) (p_v 0 (by kernel_rfl) _ (fun w hm => ssl_run (s := x_9) (lo := some (1 : Int)) (hi := none) (l := (1 : Int)) (h := (x_9.size : Int)) (by kernel_rfl) rfl rfl hg_669) (jkO ?_))
            obtain ⟨t_12, ht_670, h⟩ := bd h
            refine toO (by kernel_rfl) (p_call 0 49 #[(.string (x_9.extract (1 : Int).toNat (x_9.size : Int).toNat)), (.int .u8 47)] (by kernel_rfl) (by kernel_rfl) (fun w hm => spec_l01Split.calls (x_9.extract (1 : Int).toNat (x_9.size : Int).toNat) 47 w _ ht_670) ?_)
            rintro w v w' hm ⟨o_671, cap_672, sp_673, _, rfl, hs_674, ho_675, rfl, hm'⟩
            refine ⟨_, hm.app hm', jkO ?_⟩
            clear hm hm'
            refine jo_f [(0, 0)] (by kernel_rfl) ?_
            refine jo_end (by kernel_rfl) ?_
            refine jx_then ?_
            refine jc_seq ?_
            refine jc_seq ?_
            refine jc_region ?_
            refine jo_f [(0, 0), (0, 0), (0, 0)] (by kernel_rfl) ?_
            refine jo_end (by kernel_rfl) ?_
            refine jx_then ?_
            refine jc_cond ((t_12.length : Int) != 2) (by kernel_rfl) (fun hc_678 => ?_) (fun hc_678 => ?_)
            · replace h := ifT hc_678 h
              refine jc_seq ?_
              refine jc_region ?_
              refine toO (by kernel_rfl) (p_a 0 [0] (by kernel_rfl) (fun b => by kernel_rfl) (fun b_679 => jkO ?_))
              refine jo_f [(0, 0), (0, 0)] (by kernel_rfl) ?_
              refine jo_end (by kernel_rfl) ?_
              refine jx_then ?_
              refine jc_ret ?_
              refine jx_thenr ?_
              refine jx_inr ?_
              refine jx_thenr ?_
              refine jx_leaver (.inl (([] : List GChange), 5)) (Option.some.inj h).symm (fun e_680 => ?_)
              subst e_680
              refine jx_inr ?_
              refine jx_thenr ?_
              refine jx_thenr ?_
              obtain rfl := Option.some.inj hr_647
              exact jx_ret [] (.tuple #[(.slice (some ⟨b_679, 0, none⟩) 0 0), (.int .i64 5)]) [] rfl (by kernel_rfl) (by kernel_rfl) (fun w hm => ⟨(some b_679), 0, [], 0, rfl, (fun _ => ⟨Nat.le_refl _, by simp⟩), (fun e => nomatch e), rfl, hm.pick [3] (by kernel_rfl) (by kernel_rfl)⟩)
            · replace h := ifF hc_678 h
              refine jc_skip ?_
              refine jx_then ?_
              refine jc_seq ?_
              refine jc_region ?_
              refine jo_f [(0, 0)] (by kernel_rfl) ?_
              obtain ⟨x_13, hx_681, h⟩ := bd h
              refine toO (by kernel_rfl) (p_idx 0 (o_671.map fun b => ⟨b, 0, none⟩) t_12.length 0 1 (by kernel_rfl) (by kernel_rfl) (ix_some hx_681).1 (ltn hx_681 rfl) (spo ho_675 hx_681) (jkO ?_))
              refine toO (by kernel_rfl) (p_ld 0 (aB (o_671.map fun b => ⟨b, 0, none⟩)) (aO (o_671.map fun b => ⟨b, 0, none⟩) + (0 : Int).toNat * 1) false (encStr x_13) (by kernel_rfl) (by kernel_rfl) (by kernel_rfl) (fun w hm => ((hm.ownRow (hh := 2) (o := o_671) (T := 9) (enc := encStr) (xs := t_12) (sp := sp_673) (by kernel_rfl) (fun e => (ho_675 e).1) encStr_len).at hx_681)) (jkO ?_))
              obtain ⟨t_14, ht_682, h⟩ := bd h
              refine toO (by kernel_rfl) (p_call 0 50 #[(.string x_13)] (by kernel_rfl) (by kernel_rfl) (fun w hm => spec_l01Number.calls x_13 w _ ht_682) ?_)
              rintro w v w' hm ⟨rfl, hm'⟩
              refine ⟨_, hm.app hm', jkO ?_⟩
              clear hm hm'
              refine jo_f [(0, 0), (0, 0), (0, 0), (0, 0), (0, 0)] (by kernel_rfl) ?_
              refine jo_end (by kernel_rfl) ?_
              refine jx_then ?_
              refine jc_seq ?_
              refine jc_region ?_
              refine jo_f [(0, 0)] (by kernel_rfl) ?_
              obtain ⟨x_15, hx_683, h⟩ := bd h
              refine toO (by kernel_rfl) (p_idx 0 (o_671.map fun b => ⟨b, 0, none⟩) t_12.length 1 1 (by kernel_rfl) (by kernel_rfl) (ix_some hx_683).1 (ltn hx_683 rfl) (spo ho_675 hx_683) (jkO ?_))
              refine toO (by kernel_rfl) (p_ld 0 (aB (o_671.map fun b => ⟨b, 0, none⟩)) (aO (o_671.map fun b => ⟨b, 0, none⟩) + (1 : Int).toNat * 1) false (encStr x_15) (by kernel_rfl) (by kernel_rfl) (by kernel_rfl) (fun w hm => ((hm.ownRow (hh := 2) (o := o_671) (T := 9) (enc := encStr) (xs := t_12) (sp := sp_673) (by kernel_rfl) (fun e => (ho_675 e).1) encStr_len).at hx_683)) (jkO ?_))
              obtain ⟨t_16, ht_684, h⟩ := bd h
              refine toO (by kernel_rfl) (p_call 0 50 #[(.string x_15)] (by kernel_rfl) (by kernel_rfl) (fun w hm => spec_l01Number.calls x_15 w _ ht_684) ?_)
              rintro w v w' hm ⟨rfl, hm'⟩
              refine ⟨_, hm.app hm', jkO ?_⟩
              clear hm hm'
              refine jo_f [(0, 0), (0, 0), (0, 0), (0, 0), (0, 0)] (by kernel_rfl) ?_
              refine jo_end (by kernel_rfl) ?_
              refine jx_then ?_
              refine jc_seq ?_
              refine jc_seq ?_
              refine jc_region ?_
              refine jo_f [(0, 0), (0, 0), (0, 0), (0, 1), (0, 1), (0, 0), (0, 0), (0, 1), (0, 1), (0, 0), (0, 0), (0, 1), (0, 1), (0, 0)] (by kernel_rfl) ?_
              refine jo_end (by kernel_rfl) ?_
              refine jx_then ?_
              refine jc_cond ((((!t_14.2) || (!t_16.2)) || (decide (t_14.1 ≥ 96))) || (decide (t_16.1 ≥ 24))) (by kernel_rfl) (fun hc_687 => ?_) (fun hc_687 => ?_)
              · replace h := ifT hc_687 h
                refine jc_seq ?_
                refine jc_region ?_
                refine toO (by kernel_rfl) (p_a 0 [0] (by kernel_rfl) (fun b => by kernel_rfl) (fun b_688 => jkO ?_))
                refine jo_f [(0, 0), (0, 0)] (by kernel_rfl) ?_
                refine jo_end (by kernel_rfl) ?_
                refine jx_then ?_
                refine jc_ret ?_
                refine jx_thenr ?_
                refine jx_inr ?_
                refine jx_thenr ?_
                refine jx_leaver (.inl (([] : List GChange), 5)) (Option.some.inj h).symm (fun e_689 => ?_)
                subst e_689
                refine jx_inr ?_
                refine jx_thenr ?_
                refine jx_thenr ?_
                obtain rfl := Option.some.inj hr_647
                exact jx_ret [] (.tuple #[(.slice (some ⟨b_688, 0, none⟩) 0 0), (.int .i64 5)]) [] rfl (by kernel_rfl) (by kernel_rfl) (fun w hm => ⟨(some b_688), 0, [], 0, rfl, (fun _ => ⟨Nat.le_refl _, by simp⟩), (fun e => nomatch e), rfl, hm.pick [3] (by kernel_rfl) (by kernel_rfl)⟩)
              · replace h := ifF hc_687 h
                refine jc_skip ?_
                refine jx_then ?_
                refine jc_region ?_
                refine jo_f [(0, 0), (0, 0), (0, 0), (0, 0), (0, 0), (0, 0)] (by kernel_rfl) ?_
                obtain ⟨x_17, hx_690, h⟩ := bd h
                refine toO (by kernel_rfl) (p_v 0 (by kernel_rfl) _ (fun w hm => six_run (s := x_9) (j := 0) (by kernel_rfl) hx_690) (jkO ?_))
                refine jo_f [(0, 0), (0, 0)] (by kernel_rfl) ?_
                refine toO (by kernel_rfl) (p_a 0 [0] (by kernel_rfl) (fun b => by kernel_rfl) (fun b_691 => jkO ?_))
                obtain ⟨hg_692, h⟩ := gd h
                refine toO (by kernel_rfl) (p_apn 0 0 o_641 88 xs_5.length 1 cap_642 3 4 (some ⟨b_691, 0, none⟩) encGChange xs_5 [(⟨(w16 t_14.1), (w8 t_16.1), (x_17 == 43)⟩ : GChange)] sp_643 (.agg #[(.int .i16 0), (.int .i8 0), (.bool false)]) rfl rfl (by kernel_rfl) (by kernel_rfl) (by kernel_rfl) encGChange_len encGChange_cell hs_645 ho_646 (fun w hm => (hm.ownRow (hh := 3) (o := (some b_691)) (T := 88) (enc := encGChange) (xs := [(⟨(w16 t_14.1), (w8 t_16.1), (x_17 == 43)⟩ : GChange)]) (sp := []) (by kernel_rfl) (fun e => nomatch e) encGChange_len)) hg_692 (by kernel_rfl) (by kernel_rfl) (fun o_693 cap_694 sp_695 hs_696 ho_697 => jkO ?_))
                refine jo_f [(0, 0)] (by kernel_rfl) ?_
                refine jo_end (by kernel_rfl) ?_
                refine jx_inn ?_
                refine jx_then ?_
                refine jc_region ?_
                refine jo_f [(0, 0), (0, 0), (0, 0)] (by kernel_rfl) ?_
                refine jo_end (by kernel_rfl) ?_
                exact jx_back ((xs_5 ++ [(⟨(w16 t_14.1), (w8 t_16.1), (x_17 == 43)⟩ : GChange)]), (w64 (i_6 + 1))) ⟨o_693, cap_694, sp_695, (xs_5 ++ [(⟨(w16 t_14.1), (w8 t_16.1), (x_17 == 43)⟩ : GChange)]).length⟩ (Option.some.inj h).symm ⟨rfl, hs_696, ho_697⟩ [0, 1] (by kernel_rfl) (by kernel_rfl) (by kernel_rfl)
      · replace h := ifF hc_650 h
        refine jc_exit ?_
        refine jx_thenx ?_
        refine jx_leave (.inr xs_5) (Option.some.inj h).symm (fun e_702 => ?_)
        subst e_702
        refine jx_ine ?_
        exact jx_meet ⟨xs_5, o_641, cap_642, sp_643, xs_5.length⟩ ⟨hr_647, rfl, hs_645, ho_646⟩ (by kernel_rfl) [0, 1] (by kernel_rfl) (by kernel_rfl)
    · rintro ⟨xs_2, o_523, cap_524, sp_525, n_526⟩ ⟨h, rfl, hs_527, ho_528⟩
      replace h : spec_ReadChanges.k_3 xs_2 = some r := h
      rw [spec_ReadChanges.k_3] at h
      refine jx_then ?_
      refine jc_seq ?_
      refine jc_seq ?_
      refine jc_region ?_
      refine jo_f [(0, 0)] (by kernel_rfl) ?_
      obtain ⟨t_4, ht_532, h⟩ := bd h
      refine toO (by kernel_rfl) (p_call 0 51 #[(.slice (o_523.map fun b => ⟨b, 0, none⟩) xs_2.length cap_524)] (by kernel_rfl) (by kernel_rfl) (fun w hm => spec_l05Plain.calls xs_2 w _ (o_523.map fun b => ⟨b, 0, none⟩) xs_2.length cap_524 (hm.ownRow (hh := 0) (o := o_523) (T := 88) (enc := encGChange) (xs := xs_2) (sp := sp_525) (by kernel_rfl) (fun e => (ho_528 e).1) encGChange_len) rfl ht_532) ?_)
      rintro w v w' hm ⟨rfl, hm'⟩
      refine ⟨_, hm.app hm', jkO ?_⟩
      clear hm hm'
      refine jo_f [(0, 0)] (by kernel_rfl) ?_
      refine jo_end (by kernel_rfl) ?_
      refine jx_then ?_
      refine jc_cond (!t_4) (by kernel_rfl) (fun hc_533 => ?_) (fun hc_533 => ?_)
      · replace h := ifT hc_533 h
        refine jc_seq ?_
        refine jc_region ?_
        refine toO (by kernel_rfl) (p_a 0 [0] (by kernel_rfl) (fun b => by kernel_rfl) (fun b_534 => jkO ?_))
        refine jo_f [(0, 0), (0, 0)] (by kernel_rfl) ?_
        refine jo_end (by kernel_rfl) ?_
        refine jx_then ?_
        refine jc_ret ?_
        refine jx_thenr ?_
        obtain rfl := Option.some.inj h
        exact jx_ret [] (.tuple #[(.slice (some ⟨b_534, 0, none⟩) 0 0), (.int .i64 5)]) [] rfl (by kernel_rfl) (by kernel_rfl) (fun w hm => ⟨(some b_534), 0, [], 0, rfl, (fun _ => ⟨Nat.le_refl _, by simp⟩), (fun e => nomatch e), rfl, hm.pick [2] (by kernel_rfl) (by kernel_rfl)⟩)
      · replace h := ifF hc_533 h
        refine jc_skip ?_
        refine jx_then ?_
        refine jc_seq ?_
        refine jc_region ?_
        refine jo_f [(0, 0), (0, 0), (0, 0)] (by kernel_rfl) ?_
        refine jo_end (by kernel_rfl) ?_
        refine jx_then ?_
        refine jc_ret ?_
        obtain rfl := Option.some.inj h
        exact jx_ret [] (.tuple #[(.slice (o_523.map fun b => ⟨b, 0, none⟩) xs_2.length cap_524), (.int .i64 0)]) [] rfl (by kernel_rfl) (by kernel_rfl) (fun w hm => ⟨o_523, cap_524, sp_525, xs_2.length, rfl, hs_527, ho_528, rfl, hm.pick [0] (by kernel_rfl) (by kernel_rfl)⟩)

def lay_strings_Cut_ren : Go.Shelf.Ren := ⟨fun | 145 => 54 | 220 => 81 | 219 => 94 | 217 => 97 | 225 => 107 | 224 => 108 | 267 => 109 | 266 => 115 | 314 => 122 | n => n, fun | 9 => 9 | 4 => 4 | 59 => 92 | 3 => 3 | 5 => 5 | 46 => 141 | 146 => 154 | 51 => 150 | n => n, fun | 1 => 0 | n => n⟩
theorem lay_strings_Cut : Go.Proofs.Lays.n145 Tryd.prog lay_strings_Cut_ren where
  mixed := by kernel_rfl
  f145 := Tryd.func54.trans (congrArg some (by kernel_rfl))
  f217 := Tryd.func97.trans (congrArg some (by kernel_rfl))
  f219 := Tryd.func94.trans (congrArg some (by kernel_rfl))
  f220 := Tryd.func81.trans (congrArg some (by kernel_rfl))
  f224 := Tryd.func108.trans (congrArg some (by kernel_rfl))
  f225 := Tryd.func107.trans (congrArg some (by kernel_rfl))
  f266 := Tryd.func115.trans (congrArg some (by kernel_rfl))
  f267 := Tryd.func109.trans (congrArg some (by kernel_rfl))
  f314 := Tryd.func122.trans (congrArg some (by kernel_rfl))
  t3 := Tryd.underlying3
  a3 := Tryd.isAgg3
  z3 := Tryd.sizeOf3
  v3 := Tryd.zeroValue3
  t4 := Tryd.underlying4
  a4 := Tryd.isAgg4
  z4 := Tryd.sizeOf4
  v4 := Tryd.zeroValue4
  t5 := Tryd.underlying5
  a5 := Tryd.isAgg5
  z5 := Tryd.sizeOf5
  v5 := Tryd.zeroValue5
  t9 := Tryd.underlying9
  a9 := Tryd.isAgg9
  z9 := Tryd.sizeOf9
  v9 := Tryd.zeroValue9
  t46 := Tryd.underlying141
  a46 := Tryd.isAgg141
  z46 := Tryd.sizeOf141
  v46 := Tryd.zeroValue141
  t51 := Tryd.underlying150
  a51 := Tryd.isAgg150
  z51 := Tryd.sizeOf150
  v51 := Tryd.zeroValue150
  t59 := Tryd.underlying92
  a59 := Tryd.isAgg92
  z59 := Tryd.sizeOf92
  v59 := Tryd.zeroValue92
  t146 := Tryd.underlying154
  a146 := Tryd.isAgg154
  z146 := Tryd.sizeOf154
  v146 := Tryd.zeroValue154
  g1 := by kernel_rfl
/-! ### strings.Cut -/
noncomputable def strings_Cut (s0 : ByteArray) (sep1 : ByteArray) : Option (ByteArray × ByteArray × Bool) := cutF s0 sep1
set_option maxRecDepth 100000 in
theorem strings_Cut.calls (s0 : ByteArray) (sep1 : ByteArray) (w : World) (r : ByteArray × ByteArray × Bool) (g_ml : Glml w) (h : strings_Cut s0 sep1 = some r) :
    Calls Tryd.prog 54 #[(.string s0), (.string sep1)] w fun e w' => ∃ v, e = .returned v ∧ (v = .tuple #[(.string r.1), (.string r.2.1), (.bool r.2.2)] ∧ Mem w [] [] w') := by
  rw [strings_Cut] at h
  exact cut_calls lay_strings_Cut s0 sep1 w r g_ml.ml h

/-! ### impl.ReadChanges -/
noncomputable def impl_ReadChanges.k_3 (xs_2 : List GChange) : Option ((List GChange) × Int) := some (xs_2, 0)
noncomputable def impl_ReadChanges.l_6 (t_1 : (List ByteArray)) : ((List GChange) × Int) → Option (((List GChange) × Int) ⊕ (((List GChange) × Int) ⊕ (List GChange)))
  | (xs_4, i_5) => (if (decide (i_5 < (t_1.length : Int))) = true then (ix t_1 i_5).bind fun x_8 => (strings_CutPrefix x_8 (ByteArray.mk #[43])).bind fun t_9 => (strings_CutPrefix t_9.1 (ByteArray.mk #[45])).bind fun t_10 => (strings_Cut t_10.1 (ByteArray.mk #[47])).bind fun t_11 => (impl_number t_11.1 95).bind fun t_12 => (impl_number t_11.2.1 23).bind fun t_13 => (if ((((t_9.2 == t_10.2) || (!t_12.2)) || (!t_13.2)) || ((xs_4.length : Int) == 2400)) = true then some (.inr (.inl ([], 5))) else (if xs_4.length + [(⟨(w16 t_12.1), (w8 t_13.1), t_9.2⟩ : GChange)].length ≤ 4294967296 then some (.inl ((xs_4 ++ [(⟨(w16 t_12.1), (w8 t_13.1), t_9.2⟩ : GChange)]), (w64 (i_5 + 1)))) else none)) else some (.inr (.inr xs_4)))
noncomputable def impl_ReadChanges (text0 : ByteArray) : Option ((List GChange) × Int) := (if (text0.toList == (ByteArray.mk #[]).toList) = true then some (([] : List GChange), 0) else (strings_Split text0 (ByteArray.mk #[32])).bind fun t_1 => (loop (impl_ReadChanges.l_6 t_1) (([] : List GChange), 0)).bind fun t_7 => match t_7 with | .inl p => some p | .inr p => impl_ReadChanges.k_3 p)
set_option maxRecDepth 100000 in
theorem impl_ReadChanges.calls (text0 : ByteArray) (w : World) (r : (List GChange) × Int) (g_er : Gler w) (g_ml : Glml w) (g_pw : Glpw w) (h : impl_ReadChanges text0 = some r) :
    Calls Tryd.prog 19 #[(.string text0)] w fun e w' => ∃ v, e = .returned v ∧ (∃ (o0 : Option Nat) (c0 : Nat) (s0 : List Value) (n0 : Nat), r.1.length = n0 ∧ (o0 ≠ none → n0 ≤ c0 ∧ s0.length = (c0 - n0) * 3) ∧ (o0 = none → r.1 = [] ∧ c0 = 0) ∧ v = .tuple #[.slice (o0.map fun b => ⟨b, 0, none⟩) n0 c0, (.int .i64 r.2)] ∧ Mem w [] [⟨o0, 88, row encGChange r.1 s0⟩] w') := by
  rw [impl_ReadChanges] at h
  refine enter (args := [(.string text0)]) Tryd.func19 rfl Tryd.ntmps19 (by kernel_rfl) (L := []) (W := []) (Mem.start w) ?_
  refine jc_seq ?_
  refine jc_region ?_
  refine jo_f [(0, 0), (0, 0)] (by kernel_rfl) ?_
  refine jo_end (by kernel_rfl) ?_
  refine jx_then ?_
  refine jc_seq ?_
  refine jc_region ?_
  refine toO (by kernel_rfl) (p_a 0 [0] (by kernel_rfl) (fun b => by kernel_rfl) (fun b_1 => jkO ?_))
  refine jo_f [(0, 0)] (by kernel_rfl) ?_
  refine jo_end (by kernel_rfl) ?_
  refine jx_then ?_
  refine jc_seq ?_
  refine jc_seq ?_
  refine jc_region ?_
  refine jo_f [(0, 0), (0, 0)] (by kernel_rfl) ?_
  refine jo_end (by kernel_rfl) ?_
  refine jx_then ?_
  refine jc_cond (text0.toList == (ByteArray.mk #[]).toList) (by kernel_rfl) (fun hc_3 => ?_) (fun hc_3 => ?_)
  · replace h := ifT hc_3 h
    refine jc_seq ?_
    refine jc_region ?_
    refine jo_f [(0, 0), (0, 0), (0, 0)] (by kernel_rfl) ?_
    refine jo_end (by kernel_rfl) ?_
    refine jx_then ?_
    refine jc_ret ?_
    refine jx_thenr ?_
    obtain rfl := Option.some.inj h
    exact jx_ret [] (.tuple #[(.slice (some ⟨b_1, 0, none⟩) 0 0), (.int .i64 0)]) [] rfl (by kernel_rfl) (by kernel_rfl) (fun w hm => ⟨(some b_1), 0, [], 0, rfl, (fun _ => ⟨Nat.le_refl _, by simp⟩), (fun e => nomatch e), rfl, hm.pick [0] (by kernel_rfl) (by kernel_rfl)⟩)
  · replace h := ifF hc_3 h
    refine jc_skip ?_
    refine jx_then ?_
    refine jc_seq ?_
    refine jc_seq ?_
    refine jc_region ?_
    refine jo_f [(0, 0)] (by kernel_rfl) ?_
    obtain ⟨t_1, ht_152, h⟩ := bd h
    refine toO (by kernel_rfl) (p_call 0 52 #[(.string text0), (.string (ByteArray.mk #[32]))] (by kernel_rfl) (by kernel_rfl) (fun w hm => strings_Split.calls text0 (ByteArray.mk #[32]) w _ (g_ml.keep hm) ht_152) ?_)
    rintro w v w' hm ⟨o_153, cap_154, sp_155, _, rfl, hs_156, ho_157, rfl, hm'⟩
    refine ⟨_, hm.app hm', jkO ?_⟩
    clear hm hm'
    refine jo_f [(0, 0), (0, 0)] (by kernel_rfl) ?_
    refine jo_end (by kernel_rfl) ?_
    refine jx_then ?_
    refine jc_meet (fun (j : (List GChange) × (Option Nat) × Nat × (List Value) × Nat) => match j with | ⟨xs_2, o_226, cap_227, sp_228, n_229⟩ => impl_ReadChanges.k_3 xs_2 = some r ∧ (xs_2.length = n_229) ∧ ((o_226 ≠ none → n_229 ≤ cap_227 ∧ sp_228.length = (cap_227 - n_229) * 3)) ∧ ((o_226 = none → xs_2 = [] ∧ cap_227 = 0))) (fun (j : (List GChange) × (Option Nat) × Nat × (List Value) × Nat) => match j with | ⟨xs_2, o_226, cap_227, sp_228, n_229⟩ => [(2, [], (.slice none 0 0)), (3, [], (.int .i64 0)), (4, [], (.slice (o_226.map fun b => ⟨b, 0, none⟩) n_229 cap_227))]) (fun (j : (List GChange) × (Option Nat) × Nat × (List Value) × Nat) => match j with | ⟨xs_2, o_226, cap_227, sp_228, n_229⟩ => [⟨o_226, 88, row encGChange xs_2 sp_228⟩, ⟨o_153, 9, row encStr t_1 sp_155⟩]) ?_ ?_
    · refine jc_block ?_
      obtain ⟨t_7, ht_299, hr_278⟩ := bd h
      refine jc_loop (fun (s : (List GChange) × Int) (x : (Option Nat) × Nat × (List Value) × Nat) => match s, x with | ⟨xs_4, i_5⟩, ⟨o_272, cap_273, sp_274, n_275⟩ => (xs_4.length = n_275) ∧ ((o_272 ≠ none → n_275 ≤ cap_273 ∧ sp_274.length = (cap_273 - n_275) * 3)) ∧ ((o_272 = none → xs_4 = [] ∧ cap_273 = 0))) (fun (s : (List GChange) × Int) (x : (Option Nat) × Nat × (List Value) × Nat) => match s, x with | ⟨xs_4, i_5⟩, ⟨o_272, cap_273, sp_274, n_275⟩ => [(2, [], (.slice none 0 0)), (3, [], (.int .i64 0)), (4, [], (.slice (o_272.map fun b => ⟨b, 0, none⟩) n_275 cap_273)), (22, [], (.slice (o_153.map fun b => ⟨b, 0, none⟩) t_1.length cap_154)), (23, [], (.int .i64 (t_1.length : Int))), (24, [], (.int .i64 i_5))]) (fun (s : (List GChange) × Int) (x : (Option Nat) × Nat × (List Value) × Nat) => match s, x with | ⟨xs_4, i_5⟩, ⟨o_272, cap_273, sp_274, n_275⟩ => [⟨o_272, 88, row encGChange xs_4 sp_274⟩, ⟨o_153, 9, row encStr t_1 sp_155⟩]) ht_299 ⟨(some b_1), 0, [], 0⟩ ⟨rfl, (fun _ => ⟨Nat.le_refl _, by simp⟩), (fun e => nomatch e)⟩ (by kernel_rfl) [0, 1] (by kernel_rfl) (by kernel_rfl) ?_
      rintro ⟨xs_4, i_5⟩ ⟨o_272, cap_273, sp_274, n_275⟩ y_279 ⟨rfl, hs_276, ho_277⟩ h
      rw [impl_ReadChanges.l_6] at h
      refine jc_seq ?_
      refine jc_region ?_
      refine jo_f [(0, 0)] (by kernel_rfl) ?_
      refine jo_end (by kernel_rfl) ?_
      refine jx_then ?_
      refine jc_seq ?_
      refine jc_cond (decide (i_5 < (t_1.length : Int))) (by kernel_rfl) (fun hc_281 => ?_) (fun hc_281 => ?_)
      · replace h := ifT hc_281 h
        refine jc_skip ?_
        refine jx_then ?_
        refine jc_seq ?_
        refine jc_block ?_
        refine jc_seq ?_
        refine jc_region ?_
        obtain ⟨x_8, hx_282, h⟩ := bd h
        refine toO (by kernel_rfl) (p_idx 0 (o_153.map fun b => ⟨b, 0, none⟩) t_1.length i_5 1 (by kernel_rfl) (by kernel_rfl) (ix_some hx_282).1 (ltn hx_282 rfl) (spo ho_157 hx_282) (jkO ?_))
        refine toO (by kernel_rfl) (p_ld 0 (aB (o_153.map fun b => ⟨b, 0, none⟩)) (aO (o_153.map fun b => ⟨b, 0, none⟩) + i_5.toNat * 1) false (encStr x_8) (by kernel_rfl) (by kernel_rfl) (by kernel_rfl) (fun w hm => ((hm.ownRow (hh := 1) (o := o_153) (T := 9) (enc := encStr) (xs := t_1) (sp := sp_155) (by kernel_rfl) (fun e => (ho_157 e).1) encStr_len).at hx_282)) (jkO ?_))
        refine jo_f [(0, 0)] (by kernel_rfl) ?_
        refine jo_end (by kernel_rfl) ?_
        refine jx_then ?_
        refine jc_seq ?_
        refine jc_region ?_
        refine jo_f [(0, 0)] (by kernel_rfl) ?_
        obtain ⟨t_9, ht_283, h⟩ := bd h
        refine toO (by kernel_rfl) (p_call 0 53 #[(.string x_8), (.string (ByteArray.mk #[43]))] (by kernel_rfl) (by kernel_rfl) (fun w hm => strings_CutPrefix.calls x_8 (ByteArray.mk #[43]) w _ ht_283) ?_)
        rintro w v w' hm ⟨rfl, hm'⟩
        refine ⟨_, hm.app hm', jkO ?_⟩
        clear hm hm'
        refine jo_f [(0, 0), (0, 0), (0, 0), (0, 0), (0, 0)] (by kernel_rfl) ?_
        refine jo_end (by kernel_rfl) ?_
        refine jx_then ?_
        refine jc_seq ?_
        refine jc_region ?_
        refine jo_f [(0, 0)] (by kernel_rfl) ?_
        obtain ⟨t_10, ht_284, h⟩ := bd h
        refine toO (by kernel_rfl) (p_call 0 53 #[(.string t_9.1), (.string (ByteArray.mk #[45]))] (by kernel_rfl) (by kernel_rfl) (fun w hm => strings_CutPrefix.calls t_9.1 (ByteArray.mk #[45]) w _ ht_284) ?_)
        rintro w v w' hm ⟨rfl, hm'⟩
        refine ⟨_, hm.app hm', jkO ?_⟩
        clear hm hm'
        refine jo_f [(0, 0), (0, 0), (0, 0), (0, 0), (0, 0)] (by kernel_rfl) ?_
        refine jo_end (by kernel_rfl) ?_
        refine jx_then ?_
        refine jc_seq ?_
        refine jc_region ?_
        refine jo_f [(0, 0)] (by kernel_rfl) ?_
        obtain ⟨t_11, ht_285, h⟩ := bd h
        refine toO (by kernel_rfl) (p_call 0 54 #[(.string t_10.1), (.string (ByteArray.mk #[47]))] (by kernel_rfl) (by kernel_rfl) (fun w hm => strings_Cut.calls t_10.1 (ByteArray.mk #[47]) w _ (g_ml.keep hm) ht_285) ?_)
        rintro w v w' hm ⟨rfl, hm'⟩
        refine ⟨_, hm.app hm', jkO ?_⟩
        clear hm hm'
        refine jo_f [(0, 0), (0, 0), (0, 0), (0, 0), (0, 0), (0, 0), (0, 0)] (by kernel_rfl) ?_
        refine jo_end (by kernel_rfl) ?_
        refine jx_then ?_
        refine jc_seq ?_
        refine jc_region ?_
        refine jo_f [(0, 0)] (by kernel_rfl) ?_
        obtain ⟨t_12, ht_286, h⟩ := bd h
        refine toO (by kernel_rfl) (p_call 0 55 #[(.string t_11.1), (.int .i64 95)] (by kernel_rfl) (by kernel_rfl) (fun w hm => impl_number.calls t_11.1 95 w _ (g_er.keep hm) (g_pw.keep hm) ht_286) ?_)
        rintro w v w' hm ⟨rfl, hm'⟩
        refine ⟨_, hm.app hm', jkO ?_⟩
        clear hm hm'
        refine jo_f [(0, 0), (0, 0), (0, 0), (0, 0), (0, 0)] (by kernel_rfl) ?_
        refine jo_end (by kernel_rfl) ?_
        refine jx_then ?_
        refine jc_seq ?_
        refine jc_region ?_
        refine jo_f [(0, 0)] (by kernel_rfl) ?_
        obtain ⟨t_13, ht_287, h⟩ := bd h
        refine toO (by kernel_rfl) (p_call 0 55 #[(.string t_11.2.1), (.int .i64 23)] (by kernel_rfl) (by kernel_rfl) (fun w hm => impl_number.calls t_11.2.1 23 w _ (g_er.keep hm) (g_pw.keep hm) ht_287) ?_)
        rintro w v w' hm ⟨rfl, hm'⟩
        refine ⟨_, hm.app hm', jkO ?_⟩
        clear hm hm'
        refine jo_f [(0, 0), (0, 0), (0, 0), (0, 0), (0, 0)] (by kernel_rfl) ?_
        refine jo_end (by kernel_rfl) ?_
        refine jx_then ?_
        refine jc_seq ?_
        refine jc_seq ?_
        refine jc_region ?_
        refine jo_f [(0, 0), (0, 0), (0, 0), (0, 0), (0, 1), (0, 1), (0, 0), (0, 0), (0, 1), (0, 1), (0, 0), (0, 0), (0, 1), (0, 1), (0, 1), (0, 0)] (by kernel_rfl) ?_
        refine jo_end (by kernel_rfl) ?_
        refine jx_then ?_
        refine jc_cond ((((t_9.2 == t_10.2) || (!t_12.2)) || (!t_13.2)) || ((xs_4.length : Int) == 2400)) (by kernel_rfl) (fun hc_289 => ?_) (fun hc_289 => ?_)
        · replace h := ifT hc_289 h
          refine jc_seq ?_
          refine jc_region ?_
          refine jo_f [(0, 0), (0, 0)] (by kernel_rfl) ?_
          refine jo_end (by kernel_rfl) ?_
          refine jx_then ?_
          refine jc_ret ?_
          refine jx_thenr ?_
          refine jx_inr ?_
          refine jx_thenr ?_
          refine jx_leaver (.inl ([], 5)) (Option.some.inj h).symm (fun e_290 => ?_)
          subst e_290
          refine jx_inr ?_
          refine jx_thenr ?_
          refine jx_thenr ?_
          obtain rfl := Option.some.inj hr_278
          refine jx_ghost 88 encGChange ?_
          exact jx_ret [] (.tuple #[(.slice none 0 0), (.int .i64 5)]) [] rfl (by kernel_rfl) (by kernel_rfl) (fun w hm => ⟨none, 0, [], 0, rfl, (fun e => absurd rfl e), (fun _ => ⟨rfl, rfl⟩), rfl, hm.pick [2] (by kernel_rfl) (by kernel_rfl)⟩)
        · replace h := ifF hc_289 h
          refine jc_skip ?_
          refine jx_then ?_
          refine jc_region ?_
          refine jo_f [(0, 0), (0, 0), (0, 0), (0, 0), (0, 0), (0, 0), (0, 0)] (by kernel_rfl) ?_
          refine toO (by kernel_rfl) (p_a 0 [0] (by kernel_rfl) (fun b => by kernel_rfl) (fun b_291 => jkO ?_))
          obtain ⟨hg_292, h⟩ := gd h
          refine toO (by kernel_rfl) (p_apn 0 0 o_272 88 xs_4.length 1 cap_273 3 4 (some ⟨b_291, 0, none⟩) encGChange xs_4 [(⟨(w16 t_12.1), (w8 t_13.1), t_9.2⟩ : GChange)] sp_274 (.agg #[(.int .i16 0), (.int .i8 0), (.bool false)]) rfl rfl (by kernel_rfl) (by kernel_rfl) (by kernel_rfl) encGChange_len encGChange_cell hs_276 ho_277 (fun w hm => (hm.ownRow (hh := 2) (o := (some b_291)) (T := 88) (enc := encGChange) (xs := [(⟨(w16 t_12.1), (w8 t_13.1), t_9.2⟩ : GChange)]) (sp := []) (by kernel_rfl) (fun e => nomatch e) encGChange_len)) hg_292 (by kernel_rfl) (by kernel_rfl) (fun o_293 cap_294 sp_295 hs_296 ho_297 => jkO ?_))
          refine jo_f [(0, 0)] (by kernel_rfl) ?_
          refine jo_end (by kernel_rfl) ?_
          refine jx_inn ?_
          refine jx_then ?_
          refine jc_region ?_
          refine jo_f [(0, 0), (0, 0)] (by kernel_rfl) ?_
          refine jo_end (by kernel_rfl) ?_
          exact jx_back ((xs_4 ++ [(⟨(w16 t_12.1), (w8 t_13.1), t_9.2⟩ : GChange)]), (w64 (i_5 + 1))) ⟨o_293, cap_294, sp_295, (xs_4 ++ [(⟨(w16 t_12.1), (w8 t_13.1), t_9.2⟩ : GChange)]).length⟩ (Option.some.inj h).symm ⟨rfl, hs_296, ho_297⟩ [0, 1] (by kernel_rfl) (by kernel_rfl) (by kernel_rfl)
      · replace h := ifF hc_281 h
        refine jc_exit ?_
        refine jx_thenx ?_
        refine jx_leave (.inr xs_4) (Option.some.inj h).symm (fun e_298 => ?_)
        subst e_298
        refine jx_ine ?_
        exact jx_meet ⟨xs_4, o_272, cap_273, sp_274, xs_4.length⟩ ⟨hr_278, rfl, hs_276, ho_277⟩ (by kernel_rfl) [0, 1] (by kernel_rfl) (by kernel_rfl)
    · rintro ⟨xs_2, o_226, cap_227, sp_228, n_229⟩ ⟨h, rfl, hs_230, ho_231⟩
      replace h : impl_ReadChanges.k_3 xs_2 = some r := h
      rw [impl_ReadChanges.k_3] at h
      refine jx_then ?_
      refine jc_seq ?_
      refine jc_region ?_
      refine jo_f [(0, 0), (0, 0), (0, 0)] (by kernel_rfl) ?_
      refine jo_end (by kernel_rfl) ?_
      refine jx_then ?_
      refine jc_ret ?_
      obtain rfl := Option.some.inj h
      exact jx_ret [] (.tuple #[(.slice (o_226.map fun b => ⟨b, 0, none⟩) xs_2.length cap_227), (.int .i64 0)]) [] rfl (by kernel_rfl) (by kernel_rfl) (fun w hm => ⟨o_226, cap_227, sp_228, xs_2.length, rfl, hs_230, ho_231, rfl, hm.pick [0] (by kernel_rfl) (by kernel_rfl)⟩)

/-! ### laws.eqChange -/
noncomputable def laws_eqChange (a0 : GChange) (b1 : GChange) : Option (Bool) := (if (a0.fStep != b1.fStep) = true then some false else (if (a0.fTrack != b1.fTrack) = true then some false else (if (a0.fPut != b1.fPut) = true then some false else some true)))
set_option maxRecDepth 100000 in
theorem laws_eqChange.calls (a0 : GChange) (b1 : GChange) (w : World) (r : Bool) (h : laws_eqChange a0 b1 = some r) :
    Calls Tryd.prog 56 #[(.agg #[(.int .i16 a0.fStep), (.int .i8 a0.fTrack), (.bool a0.fPut)]), (.agg #[(.int .i16 b1.fStep), (.int .i8 b1.fTrack), (.bool b1.fPut)])] w fun e w' => ∃ v, e = .returned v ∧ (v = (.bool r) ∧ Mem w [] [] w') := by
  rw [laws_eqChange] at h
  refine enter (args := [(.agg #[(.int .i16 a0.fStep), (.int .i8 a0.fTrack), (.bool a0.fPut)]), (.agg #[(.int .i16 b1.fStep), (.int .i8 b1.fTrack), (.bool b1.fPut)])]) Tryd.func56 rfl Tryd.ntmps56 (by kernel_rfl) (L := []) (W := []) (Mem.start w) ?_
  refine jc_seq ?_
  refine jc_region ?_
  refine toO (by kernel_rfl) (p_a 0 [0] (by kernel_rfl) (fun b => by kernel_rfl) (fun b_1 => jkO ?_))
  refine toO (by kernel_rfl) (p_a 0 [0] (by kernel_rfl) (fun b => by kernel_rfl) (fun b_2 => jkO ?_))
  refine jo_f [(0, 0)] (by kernel_rfl) ?_
  refine jo_end (by kernel_rfl) ?_
  refine jx_then ?_
  refine jc_seq ?_
  refine jc_seq ?_
  refine jc_region ?_
  refine jo_f [(0, 0), (0, 0), (0, 0), (1, 0), (0, 0)] (by kernel_rfl) ?_
  refine jo_end (by kernel_rfl) ?_
  refine jx_then ?_
  refine jc_cond (a0.fStep != b1.fStep) (by kernel_rfl) (fun hc_4 => ?_) (fun hc_4 => ?_)
  · replace h := ifT hc_4 h
    refine jc_seq ?_
    refine jc_region ?_
    refine jo_f [(0, 0)] (by kernel_rfl) ?_
    refine jo_end (by kernel_rfl) ?_
    refine jx_then ?_
    refine jc_ret ?_
    refine jx_thenr ?_
    obtain rfl := Option.some.inj h
    exact jx_ret [] (.bool false) [] rfl (by kernel_rfl) (by kernel_rfl) (fun w hm => ⟨rfl, hm.pick [] (by kernel_rfl) (by kernel_rfl)⟩)
  · replace h := ifF hc_4 h
    refine jc_skip ?_
    refine jx_then ?_
    refine jc_seq ?_
    refine jc_seq ?_
    refine jc_region ?_
    refine jo_f [(0, 0), (0, 0), (0, 0), (1, 0), (0, 0)] (by kernel_rfl) ?_
    refine jo_end (by kernel_rfl) ?_
    refine jx_then ?_
    refine jc_cond (a0.fTrack != b1.fTrack) (by kernel_rfl) (fun hc_6 => ?_) (fun hc_6 => ?_)
    · replace h := ifT hc_6 h
      refine jc_seq ?_
      refine jc_region ?_
      refine jo_f [(0, 0)] (by kernel_rfl) ?_
      refine jo_end (by kernel_rfl) ?_
      refine jx_then ?_
      refine jc_ret ?_
      refine jx_thenr ?_
      obtain rfl := Option.some.inj h
      exact jx_ret [] (.bool false) [] rfl (by kernel_rfl) (by kernel_rfl) (fun w hm => ⟨rfl, hm.pick [] (by kernel_rfl) (by kernel_rfl)⟩)
    · replace h := ifF hc_6 h
      refine jc_skip ?_
      refine jx_then ?_
      refine jc_seq ?_
      refine jc_seq ?_
      refine jc_region ?_
      refine jo_f [(0, 0), (0, 0), (0, 0), (1, 0), (0, 0)] (by kernel_rfl) ?_
      refine jo_end (by kernel_rfl) ?_
      refine jx_then ?_
      refine jc_cond (a0.fPut != b1.fPut) (by kernel_rfl) (fun hc_7 => ?_) (fun hc_7 => ?_)
      · replace h := ifT hc_7 h
        refine jc_seq ?_
        refine jc_region ?_
        refine jo_f [(0, 0)] (by kernel_rfl) ?_
        refine jo_end (by kernel_rfl) ?_
        refine jx_then ?_
        refine jc_ret ?_
        refine jx_thenr ?_
        obtain rfl := Option.some.inj h
        exact jx_ret [] (.bool false) [] rfl (by kernel_rfl) (by kernel_rfl) (fun w hm => ⟨rfl, hm.pick [] (by kernel_rfl) (by kernel_rfl)⟩)
      · replace h := ifF hc_7 h
        refine jc_skip ?_
        refine jx_then ?_
        refine jc_seq ?_
        refine jc_region ?_
        refine jo_f [(0, 0)] (by kernel_rfl) ?_
        refine jo_end (by kernel_rfl) ?_
        refine jx_then ?_
        refine jc_ret ?_
        obtain rfl := Option.some.inj h
        exact jx_ret [] (.bool true) [] rfl (by kernel_rfl) (by kernel_rfl) (fun w hm => ⟨rfl, hm.pick [] (by kernel_rfl) (by kernel_rfl)⟩)

/-! ### laws.eqChangeS -/
noncomputable def laws_eqChangeS.k_1 : Option (Bool) := some true
noncomputable def laws_eqChangeS.l_3 (a0 : List GChange) (b1 : List GChange) : Int → Option ((Int) ⊕ (Bool ⊕ Unit))
  | i_2 => (if (decide (i_2 < (a0.length : Int))) = true then (ix a0 i_2).bind fun x_5 => (ix b1 i_2).bind fun x_6 => (laws_eqChange x_5 x_6).bind fun t_7 => (if (!t_7) = true then some (.inr (.inl false)) else some (.inl (w64 (i_2 + 1)))) else some (.inr (.inr ())))
noncomputable def laws_eqChangeS (a0 : List GChange) (b1 : List GChange) : Option (Bool) := (if ((a0.length : Int) != (b1.length : Int)) = true then some false else (loop (laws_eqChangeS.l_3 a0 b1) 0).bind fun t_4 => match t_4 with | .inl p => some p | .inr p => laws_eqChangeS.k_1)
set_option maxRecDepth 100000 in
theorem laws_eqChangeS.calls (a0 : List GChange) (b1 : List GChange) (w : World) (r : Bool) (a0_a : Option Addr) (a0_an : Nat) (a0_c : Nat) (a0_h : Rw w a0_a 3 encGChange a0) (a0_hn : a0.length = a0_an) (b1_a : Option Addr) (b1_an : Nat) (b1_c : Nat) (b1_h : Rw w b1_a 3 encGChange b1) (b1_hn : b1.length = b1_an) (h : laws_eqChangeS a0 b1 = some r) :
    Calls Tryd.prog 20 #[(.slice a0_a a0_an a0_c), (.slice b1_a b1_an b1_c)] w fun e w' => ∃ v, e = .returned v ∧ (v = (.bool r) ∧ Mem w [] [] w') := by
  subst a0_hn b1_hn
  rw [laws_eqChangeS] at h
  refine enter (args := [(.slice a0_a a0.length a0_c), (.slice b1_a b1.length b1_c)]) Tryd.func20 rfl Tryd.ntmps20 (by kernel_rfl) (L := []) (W := []) (Mem.start w) ?_
  refine jc_seq ?_
  refine jc_region ?_
  refine jo_f [(0, 0)] (by kernel_rfl) ?_
  refine jo_end (by kernel_rfl) ?_
  refine jx_then ?_
  refine jc_seq ?_
  refine jc_seq ?_
  refine jc_region ?_
  refine jo_f [(0, 0), (0, 0), (0, 0), (0, 0), (0, 0)] (by kernel_rfl) ?_
  refine jo_end (by kernel_rfl) ?_
  refine jx_then ?_
  refine jc_cond ((a0.length : Int) != (b1.length : Int)) (by kernel_rfl) (fun hc_2 => ?_) (fun hc_2 => ?_)
  · replace h := ifT hc_2 h
    refine jc_seq ?_
    refine jc_region ?_
    refine jo_f [(0, 0)] (by kernel_rfl) ?_
    refine jo_end (by kernel_rfl) ?_
    refine jx_then ?_
    refine jc_ret ?_
    refine jx_thenr ?_
    obtain rfl := Option.some.inj h
    exact jx_ret [] (.bool false) [] rfl (by kernel_rfl) (by kernel_rfl) (fun w hm => ⟨rfl, hm.pick [] (by kernel_rfl) (by kernel_rfl)⟩)
  · replace h := ifF hc_2 h
    refine jc_skip ?_
    refine jx_then ?_
    refine jc_seq ?_
    refine jc_seq ?_
    refine jc_region ?_
    refine jo_f [(0, 0)] (by kernel_rfl) ?_
    refine jo_end (by kernel_rfl) ?_
    refine jx_then ?_
    refine jc_meet (fun (_ : Unit) => laws_eqChangeS.k_1 = some r) (fun (_ : Unit) => [(4, [], (.bool false))]) (fun (_ : Unit) => []) ?_ ?_
    · refine jc_block ?_
      obtain ⟨t_4, ht_48, hr_38⟩ := bd h
      refine jc_loop (fun (s : Int) (x : Unit) => match s, x with | i_2, _ => True) (fun (s : Int) (x : Unit) => match s, x with | i_2, _ => [(0, [], (.slice a0_a a0.length a0_c)), (1, [], (.slice b1_a b1.length b1_c)), (4, [], (.bool false)), (5, [], (.int .i64 i_2))]) (fun (s : Int) (x : Unit) => match s, x with | i_2, _ => []) ht_48 () trivial (by kernel_rfl) [] (by kernel_rfl) (by kernel_rfl) ?_
      rintro i_2 _ y_39 _ h
      rw [laws_eqChangeS.l_3] at h
      refine jc_seq ?_
      refine jc_seq ?_
      refine jc_region ?_
      refine jo_f [(0, 0), (0, 0), (0, 0), (0, 0)] (by kernel_rfl) ?_
      refine jo_end (by kernel_rfl) ?_
      refine jx_then ?_
      refine jc_cond (decide (i_2 < (a0.length : Int))) (by kernel_rfl) (fun hc_41 => ?_) (fun hc_41 => ?_)
      · replace h := ifT hc_41 h
        refine jc_skip ?_
        refine jx_then ?_
        refine jc_seq ?_
        refine jc_block ?_
        refine jc_seq ?_
        refine jc_draw [] 10 (by kernel_rfl) (by kernel_rfl) ?_
        refine jd_f [⟨0, 0, 0⟩, ⟨1, 0, 0⟩, ⟨4, 0, 0⟩, ⟨5, 0, 0⟩] 6 (by kernel_rfl) (by kernel_rfl) (fun w h => h.pick [] (by kernel_rfl) (by kernel_rfl)) (by kernel_rfl) (by kernel_rfl) ?_
        obtain ⟨x_5, hx_42, h⟩ := bd h
        refine jd_v 2 0 (by kernel_rfl) (fun w h => h.pick [] (by kernel_rfl) (by kernel_rfl)) (by kernel_rfl) (by kernel_rfl) _ (fun w hm => idx_run (a := a0_a) (len := a0.length) (s := 3) (j := i_2) (by kernel_rfl) (ix_some hx_42).1 (ltn hx_42 rfl) (a0_h.sp hx_42)) ?_
        refine jd_v 3 0 (by kernel_rfl) (fun w h => h.pick [] (by kernel_rfl) (by kernel_rfl)) (by kernel_rfl) (by kernel_rfl) _ (fun w hm => ld_run (b := aB a0_a) (off := (aO a0_a + i_2.toNat * 3)) (s := 3) (agg := true) (vs := (encGChange x_5)) (by kernel_rfl) (by kernel_rfl) (.inl rfl) ((hm.exRow a0_h List.not_mem_nil).at hx_42)) ?_
        obtain ⟨x_6, hx_43, h⟩ := bd h
        refine jd_v 6 0 (by kernel_rfl) (fun w h => h.pick [] (by kernel_rfl) (by kernel_rfl)) (by kernel_rfl) (by kernel_rfl) _ (fun w hm => idx_run (a := b1_a) (len := b1.length) (s := 3) (j := i_2) (by kernel_rfl) (ix_some hx_43).1 (ltn hx_43 rfl) (b1_h.sp hx_43)) ?_
        refine jd_v 7 0 (by kernel_rfl) (fun w h => h.pick [] (by kernel_rfl) (by kernel_rfl)) (by kernel_rfl) (by kernel_rfl) _ (fun w hm => ld_run (b := aB b1_a) (off := (aO b1_a + i_2.toNat * 3)) (s := 3) (agg := true) (vs := (encGChange x_6)) (by kernel_rfl) (by kernel_rfl) (.inl rfl) ((hm.exRow b1_h List.not_mem_nil).at hx_43)) ?_
        obtain ⟨t_7, ht_44, h⟩ := bd h
        refine toD 8 (by kernel_rfl) (p_call 0 56 #[(.agg #[(.int .i16 x_5.fStep), (.int .i8 x_5.fTrack), (.bool x_5.fPut)]), (.agg #[(.int .i16 x_6.fStep), (.int .i8 x_6.fTrack), (.bool x_6.fPut)])] (by kernel_rfl) (by kernel_rfl) (fun w hm => laws_eqChange.calls x_5 x_6 w _ ht_44) ?_)
        rintro w v w' hm ⟨rfl, hm'⟩
        refine ⟨_, hm.app hm', jkD (fun w h => h.pick [] (by kernel_rfl) (by kernel_rfl)) ?_⟩
        clear hm hm'
        refine jd_f [⟨9, 0, 0⟩] 0 (by kernel_rfl) (by kernel_rfl) (fun w h => h.pick [] (by kernel_rfl) (by kernel_rfl)) (by kernel_rfl) (by kernel_rfl) ?_
        refine jd_end (by kernel_rfl) ?_
        refine jx_then ?_
        refine jc_cond (!t_7) (by kernel_rfl) (fun hc_45 => ?_) (fun hc_45 => ?_)
        · replace h := ifT hc_45 h
          refine jc_seq ?_
          refine jc_region ?_
          refine jo_f [(0, 0)] (by kernel_rfl) ?_
          refine jo_end (by kernel_rfl) ?_
          refine jx_then ?_
          refine jc_ret ?_
          refine jx_inr ?_
          refine jx_thenr ?_
          refine jx_leaver (.inl false) (Option.some.inj h).symm (fun e_46 => ?_)
          subst e_46
          refine jx_inr ?_
          refine jx_thenr ?_
          refine jx_thenr ?_
          obtain rfl := Option.some.inj hr_38
          exact jx_ret [] (.bool false) [] rfl (by kernel_rfl) (by kernel_rfl) (fun w hm => ⟨rfl, hm.pick [] (by kernel_rfl) (by kernel_rfl)⟩)
        · replace h := ifF hc_45 h
          refine jc_skip ?_
          refine jx_inn ?_
          refine jx_then ?_
          refine jc_region ?_
          refine jo_f [(0, 0), (0, 0), (0, 0)] (by kernel_rfl) ?_
          refine jo_end (by kernel_rfl) ?_
          exact jx_back (w64 (i_2 + 1)) () (Option.some.inj h).symm trivial [] (by kernel_rfl) (by kernel_rfl) (by kernel_rfl)
      · replace h := ifF hc_41 h
        refine jc_exit ?_
        refine jx_thenx ?_
        refine jx_leave (.inr ()) (Option.some.inj h).symm (fun e_47 => ?_)
        subst e_47
        refine jx_ine ?_
        exact jx_meet () hr_38 (by kernel_rfl) [] (by kernel_rfl) (by kernel_rfl)
    · rintro _ h
      replace h : laws_eqChangeS.k_1 = some r := h
      rw [laws_eqChangeS.k_1] at h
      refine jx_then ?_
      refine jc_seq ?_
      refine jc_region ?_
      refine jo_f [(0, 0)] (by kernel_rfl) ?_
      refine jo_end (by kernel_rfl) ?_
      refine jx_then ?_
      refine jc_ret ?_
      obtain rfl := Option.some.inj h
      exact jx_ret [] (.bool true) [] rfl (by kernel_rfl) (by kernel_rfl) (fun w hm => ⟨rfl, hm.pick [] (by kernel_rfl) (by kernel_rfl)⟩)

/-! ### laws.markChangeS -/
noncomputable def laws_markChangeS.k_3 (xs_1 : List GChange) (i_2 : Int) : Option (Int × (List GChange)) := some (i_2, xs_1)
noncomputable def laws_markChangeS.l_7 (a0 : List GChange) : ((List GChange) × Int × Int) → Option (((List GChange) × Int × Int) ⊕ (((List GChange) × Int)))
  | (xs_4, i_5, i_6) => (if (decide (i_6 < (a0.length : Int))) = true then (ix xs_4 i_6).bind fun x_9 => (ix (xs_4.set i_6.toNat (⟨(w16 i_5), x_9.fTrack, x_9.fPut⟩ : GChange)) i_6).bind fun x_10 => (ix ((xs_4.set i_6.toNat (⟨(w16 i_5), x_9.fTrack, x_9.fPut⟩ : GChange)).set i_6.toNat (⟨x_10.fStep, (w8 (w64 (i_5 + 1))), x_10.fPut⟩ : GChange)) i_6).bind fun x_11 => some (.inl ((((xs_4.set i_6.toNat (⟨(w16 i_5), x_9.fTrack, x_9.fPut⟩ : GChange)).set i_6.toNat (⟨x_10.fStep, (w8 (w64 (i_5 + 1))), x_10.fPut⟩ : GChange)).set i_6.toNat (⟨x_11.fStep, x_11.fTrack, ((Int.tmod (w64 ((w64 (i_5 + 1)) + 1)) 3) == 0)⟩ : GChange)), (w64 ((w64 ((w64 (i_5 + 1)) + 1)) + 1)), (w64 (i_6 + 1)))) else some (.inr (xs_4, i_5)))
noncomputable def laws_markChangeS (a0 : List GChange) (k1 : Int) : Option (Int × (List GChange)) := (loop (laws_markChangeS.l_7 a0) (a0, k1, 0)).bind fun t_8 => laws_markChangeS.k_3 t_8.1 t_8.2
set_option maxRecDepth 100000 in
theorem laws_markChangeS.calls (a0 : List GChange) (k1 : Int) (w : World) (r : Int × (List GChange)) (a0_o : Option Nat) (a0_on : Nat) (a0_c : Nat) (a0_sp : List Value) (a0_hn : a0.length = a0_on) (a0_hs : a0_o ≠ none → a0_on ≤ a0_c ∧ a0_sp.length = (a0_c - a0_on) * 3) (a0_ho : a0_o = none → a0 = [] ∧ a0_c = 0) (hm0 : Mem w (bs [a0_o]) [⟨a0_o, 88, row encGChange a0 a0_sp⟩] w) (h : laws_markChangeS a0 k1 = some r) :
    Calls Tryd.prog 21 #[(.slice (a0_o.map fun b => ⟨b, 0, none⟩) a0_on a0_c), (.int .i64 k1)] w fun e w' => ∃ v, e = .returned v ∧ (r.2.length = a0_on ∧ (a0_o = none → r.2 = [] ∧ a0_c = 0) ∧ v = (.int .i64 r.1) ∧ Mem w (bs [a0_o]) [⟨a0_o, 88, row encGChange r.2 a0_sp⟩] w') := by
  subst a0_hn
  rw [laws_markChangeS] at h
  refine enter (args := [(.slice (a0_o.map fun b => ⟨b, 0, none⟩) a0.length a0_c), (.int .i64 k1)]) Tryd.func21 rfl Tryd.ntmps21 (by kernel_rfl) (L := [⟨a0_o, 88, row encGChange a0 a0_sp⟩]) (W := bs [a0_o]) hm0 ?_
  refine jc_seq ?_
  refine jc_region ?_
  refine jo_f [(0, 0)] (by kernel_rfl) ?_
  refine jo_end (by kernel_rfl) ?_
  refine jx_then ?_
  refine jc_seq ?_
  refine jc_seq ?_
  refine jc_region ?_
  refine jo_f [(0, 0)] (by kernel_rfl) ?_
  refine jo_end (by kernel_rfl) ?_
  refine jx_then ?_
  refine jc_meet (fun (j : (List GChange) × Int) => match j with | ⟨xs_1, i_2⟩ => laws_markChangeS.k_3 xs_1 i_2 = some r ∧ (xs_1.length = a0.length) ∧ ((a0_o = none → xs_1 = [] ∧ a0_c = 0))) (fun (j : (List GChange) × Int) => match j with | ⟨xs_1, i_2⟩ => [(1, [], (.int .i64 i_2)), (4, [], (.int .i64 0))]) (fun (j : (List GChange) × Int) => match j with | ⟨xs_1, i_2⟩ => [⟨a0_o, 88, row encGChange xs_1 a0_sp⟩]) ?_ ?_
  · refine jc_block ?_
    obtain ⟨t_8, ht_96, hr_88⟩ := bd h
    refine jc_loop (fun (s : (List GChange) × Int × Int) (x : Unit) => match s, x with | ⟨xs_4, i_5, i_6⟩, _ => (xs_4.length = a0.length) ∧ ((a0_o = none → xs_4 = [] ∧ a0_c = 0))) (fun (s : (List GChange) × Int × Int) (x : Unit) => match s, x with | ⟨xs_4, i_5, i_6⟩, _ => [(0, [], (.slice (a0_o.map fun b => ⟨b, 0, none⟩) a0.length a0_c)), (1, [], (.int .i64 i_5)), (4, [], (.int .i64 0)), (5, [], (.int .i64 i_6))]) (fun (s : (List GChange) × Int × Int) (x : Unit) => match s, x with | ⟨xs_4, i_5, i_6⟩, _ => [⟨a0_o, 88, row encGChange xs_4 a0_sp⟩]) ht_96 () ⟨rfl, a0_ho⟩ (by kernel_rfl) [0] (by kernel_rfl) (by kernel_rfl) ?_
    rintro ⟨xs_4, i_5, i_6⟩ _ y_89 ⟨hn_87, ho_86⟩ h
    rw [laws_markChangeS.l_7] at h
    refine jc_seq ?_
    refine jc_seq ?_
    refine jc_region ?_
    refine jo_f [(0, 0), (0, 0), (0, 0), (0, 0)] (by kernel_rfl) ?_
    refine jo_end (by kernel_rfl) ?_
    refine jx_then ?_
    refine jc_cond (decide (i_6 < (a0.length : Int))) (by kernel_rfl) (fun hc_91 => ?_) (fun hc_91 => ?_)
    · replace h := ifT hc_91 h
      refine jc_skip ?_
      refine jx_then ?_
      refine jc_seq ?_
      refine jc_block ?_
      refine jc_seq ?_
      refine jc_region ?_
      refine jo_f [(0, 0), (0, 0), (0, 0), (0, 0)] (by kernel_rfl) ?_
      obtain ⟨x_9, hx_92, h⟩ := bd h
      refine toO (by kernel_rfl) (p_idx 0 (a0_o.map fun b => ⟨b, 0, none⟩) a0.length i_6 3 (by kernel_rfl) (by kernel_rfl) (ix_some hx_92).1 (ltn hx_92 hn_87) (spo ho_86 hx_92) (jkO ?_))
      refine jo_f [(0, 0)] (by kernel_rfl) ?_
      refine toO (by kernel_rfl) (p_strO 0 0 a0_o 88 encGChange xs_4 a0_sp i_6 (⟨(w16 i_5), x_9.fTrack, x_9.fPut⟩ : GChange) 3 0 [(.int .i16 (w16 i_5))] (by kernel_rfl) (by kernel_rfl) (by kernel_rfl) (fun e => (ho_86 e).1) encGChange_len hx_92 (by kernel_rfl) (by kernel_rfl) (jkO ?_))
      refine jo_end (by kernel_rfl) ?_
      refine jx_then ?_
      refine jc_seq ?_
      refine jc_region ?_
      refine jo_f [(0, 0), (0, 0), (0, 0)] (by kernel_rfl) ?_
      refine jo_end (by kernel_rfl) ?_
      refine jx_then ?_
      refine jc_seq ?_
      refine jc_region ?_
      refine jo_f [(0, 0), (0, 0), (0, 0), (0, 0)] (by kernel_rfl) ?_
      obtain ⟨x_10, hx_93, h⟩ := bd h
      refine toO (by kernel_rfl) (p_idx 0 (a0_o.map fun b => ⟨b, 0, none⟩) a0.length i_6 3 (by kernel_rfl) (by kernel_rfl) (ix_some hx_93).1 (ltn hx_93 (List.length_set.trans hn_87)) (spo (set_ho ho_86) hx_93) (jkO ?_))
      refine jo_f [(0, 0)] (by kernel_rfl) ?_
      refine toO (by kernel_rfl) (p_strO 0 0 a0_o 88 encGChange (xs_4.set i_6.toNat (⟨(w16 i_5), x_9.fTrack, x_9.fPut⟩ : GChange)) a0_sp i_6 (⟨x_10.fStep, (w8 (w64 (i_5 + 1))), x_10.fPut⟩ : GChange) 3 1 [(.int .i8 (w8 (w64 (i_5 + 1))))] (by kernel_rfl) (by kernel_rfl) (by kernel_rfl) (fun e => ((set_ho ho_86) e).1) encGChange_len hx_93 (by kernel_rfl) (by kernel_rfl) (jkO ?_))
      refine jo_end (by kernel_rfl) ?_
      refine jx_then ?_
      refine jc_seq ?_
      refine jc_region ?_
      refine jo_f [(0, 0), (0, 0), (0, 0)] (by kernel_rfl) ?_
      refine jo_end (by kernel_rfl) ?_
      refine jx_then ?_
      refine jc_seq ?_
      refine jc_region ?_
      refine jo_f [(0, 0), (0, 0), (0, 0), (0, 0), (0, 0)] (by kernel_rfl) ?_
      obtain ⟨x_11, hx_94, h⟩ := bd h
      refine toO (by kernel_rfl) (p_idx 0 (a0_o.map fun b => ⟨b, 0, none⟩) a0.length i_6 3 (by kernel_rfl) (by kernel_rfl) (ix_some hx_94).1 (ltn hx_94 (List.length_set.trans (List.length_set.trans hn_87))) (spo (set_ho (set_ho ho_86)) hx_94) (jkO ?_))
      refine jo_f [(0, 0)] (by kernel_rfl) ?_
      refine toO (by kernel_rfl) (p_strO 0 0 a0_o 88 encGChange ((xs_4.set i_6.toNat (⟨(w16 i_5), x_9.fTrack, x_9.fPut⟩ : GChange)).set i_6.toNat (⟨x_10.fStep, (w8 (w64 (i_5 + 1))), x_10.fPut⟩ : GChange)) a0_sp i_6 (⟨x_11.fStep, x_11.fTrack, ((Int.tmod (w64 ((w64 (i_5 + 1)) + 1)) 3) == 0)⟩ : GChange) 3 2 [(.bool ((Int.tmod (w64 ((w64 (i_5 + 1)) + 1)) 3) == 0))] (by kernel_rfl) (by kernel_rfl) (by kernel_rfl) (fun e => ((set_ho (set_ho ho_86)) e).1) encGChange_len hx_94 (by kernel_rfl) (by kernel_rfl) (jkO ?_))
      refine jo_end (by kernel_rfl) ?_
      refine jx_then ?_
      refine jc_region ?_
      refine jo_f [(0, 0), (0, 0), (0, 0)] (by kernel_rfl) ?_
      refine jo_end (by kernel_rfl) ?_
      refine jx_inn ?_
      refine jx_then ?_
      refine jc_region ?_
      refine jo_f [(0, 0), (0, 0), (0, 0)] (by kernel_rfl) ?_
      refine jo_end (by kernel_rfl) ?_
      exact jx_back ((((xs_4.set i_6.toNat (⟨(w16 i_5), x_9.fTrack, x_9.fPut⟩ : GChange)).set i_6.toNat (⟨x_10.fStep, (w8 (w64 (i_5 + 1))), x_10.fPut⟩ : GChange)).set i_6.toNat (⟨x_11.fStep, x_11.fTrack, ((Int.tmod (w64 ((w64 (i_5 + 1)) + 1)) 3) == 0)⟩ : GChange)), (w64 ((w64 ((w64 (i_5 + 1)) + 1)) + 1)), (w64 (i_6 + 1))) () (Option.some.inj h).symm ⟨(List.length_set.trans (List.length_set.trans (List.length_set.trans hn_87))), (set_ho (set_ho (set_ho ho_86)))⟩ [0] (by kernel_rfl) (by kernel_rfl) (by kernel_rfl)
    · replace h := ifF hc_91 h
      refine jc_exit ?_
      refine jx_thenx ?_
      refine jx_leave (xs_4, i_5) (Option.some.inj h).symm (fun e_95 => ?_)
      subst e_95
      refine jx_ine ?_
      exact jx_meet ⟨xs_4, i_5⟩ ⟨hr_88, hn_87, ho_86⟩ (by kernel_rfl) [0] (by kernel_rfl) (by kernel_rfl)
  · rintro ⟨xs_1, i_2⟩ ⟨h, hn_73, ho_72⟩
    replace h : laws_markChangeS.k_3 xs_1 i_2 = some r := h
    rw [laws_markChangeS.k_3] at h
    refine jx_then ?_
    refine jc_seq ?_
    refine jc_region ?_
    refine jo_f [(0, 0), (0, 0)] (by kernel_rfl) ?_
    refine jo_end (by kernel_rfl) ?_
    refine jx_then ?_
    refine jc_ret ?_
    obtain rfl := Option.some.inj h
    exact jx_ret [] (.int .i64 i_2) [] rfl (by kernel_rfl) (by kernel_rfl) (fun w hm => ⟨hn_73, ho_72, rfl, hm.pick [0] (by kernel_rfl) (by kernel_rfl)⟩)

/-! ### laws.heldChangeS -/
noncomputable def laws_heldChangeS.k_2 (i_1 : Int) : Option (Int) := some i_1
noncomputable def laws_heldChangeS.l_5 (a0 : List GChange) : (Int × Int) → Option ((Int × Int) ⊕ (Int ⊕ Int))
  | (i_3, i_4) => (if (decide (i_4 < (a0.length : Int))) = true then (ix a0 i_4).bind fun x_7 => (if (x_7.fStep != (w16 i_3)) = true then some (.inr (.inl (-1))) else (ix a0 i_4).bind fun x_8 => (if (x_8.fTrack != (w8 (w64 (i_3 + 1)))) = true then some (.inr (.inl (-1))) else (ix a0 i_4).bind fun x_9 => (if (x_9.fPut != ((Int.tmod (w64 ((w64 (i_3 + 1)) + 1)) 3) == 0)) = true then some (.inr (.inl (-1))) else some (.inl ((w64 ((w64 ((w64 (i_3 + 1)) + 1)) + 1)), (w64 (i_4 + 1))))))) else some (.inr (.inr i_3)))
noncomputable def laws_heldChangeS (a0 : List GChange) (k1 : Int) : Option (Int) := (loop (laws_heldChangeS.l_5 a0) (k1, 0)).bind fun t_6 => match t_6 with | .inl p => some p | .inr p => laws_heldChangeS.k_2 p
set_option maxRecDepth 100000 in
theorem laws_heldChangeS.calls (a0 : List GChange) (k1 : Int) (w : World) (r : Int) (a0_a : Option Addr) (a0_an : Nat) (a0_c : Nat) (a0_h : Rw w a0_a 3 encGChange a0) (a0_hn : a0.length = a0_an) (h : laws_heldChangeS a0 k1 = some r) :
    Calls Tryd.prog 22 #[(.slice a0_a a0_an a0_c), (.int .i64 k1)] w fun e w' => ∃ v, e = .returned v ∧ (v = (.int .i64 r) ∧ Mem w [] [] w') := by
  subst a0_hn
  rw [laws_heldChangeS] at h
  refine enter (args := [(.slice a0_a a0.length a0_c), (.int .i64 k1)]) Tryd.func22 rfl Tryd.ntmps22 (by kernel_rfl) (L := []) (W := []) (Mem.start w) ?_
  refine jc_seq ?_
  refine jc_region ?_
  refine jo_f [(0, 0)] (by kernel_rfl) ?_
  refine jo_end (by kernel_rfl) ?_
  refine jx_then ?_
  refine jc_seq ?_
  refine jc_seq ?_
  refine jc_region ?_
  refine jo_f [(0, 0)] (by kernel_rfl) ?_
  refine jo_end (by kernel_rfl) ?_
  refine jx_then ?_
  refine jc_meet (fun (j : Int) => match j with | i_1 => laws_heldChangeS.k_2 i_1 = some r) (fun (j : Int) => match j with | i_1 => [(1, [], (.int .i64 i_1)), (4, [], (.int .i64 0))]) (fun (j : Int) => match j with | i_1 => []) ?_ ?_
  · refine jc_block ?_
    obtain ⟨t_6, ht_172, hr_154⟩ := bd h
    refine jc_loop (fun (s : Int × Int) (x : Unit) => match s, x with | ⟨i_3, i_4⟩, _ => True) (fun (s : Int × Int) (x : Unit) => match s, x with | ⟨i_3, i_4⟩, _ => [(0, [], (.slice a0_a a0.length a0_c)), (1, [], (.int .i64 i_3)), (4, [], (.int .i64 0)), (5, [], (.int .i64 i_4))]) (fun (s : Int × Int) (x : Unit) => match s, x with | ⟨i_3, i_4⟩, _ => []) ht_172 () trivial (by kernel_rfl) [] (by kernel_rfl) (by kernel_rfl) ?_
    rintro ⟨i_3, i_4⟩ _ y_155 _ h
    rw [laws_heldChangeS.l_5] at h
    refine jc_seq ?_
    refine jc_seq ?_
    refine jc_region ?_
    refine jo_f [(0, 0), (0, 0), (0, 0), (0, 0)] (by kernel_rfl) ?_
    refine jo_end (by kernel_rfl) ?_
    refine jx_then ?_
    refine jc_cond (decide (i_4 < (a0.length : Int))) (by kernel_rfl) (fun hc_157 => ?_) (fun hc_157 => ?_)
    · replace h := ifT hc_157 h
      refine jc_skip ?_
      refine jx_then ?_
      refine jc_seq ?_
      refine jc_block ?_
      refine jc_seq ?_
      refine jc_seq ?_
      refine jc_region ?_
      refine jo_f [(0, 0), (0, 0)] (by kernel_rfl) ?_
      obtain ⟨x_7, hx_160, h⟩ := bd h
      refine toO (by kernel_rfl) (p_idx 0 a0_a a0.length i_4 3 (by kernel_rfl) (by kernel_rfl) (ix_some hx_160).1 (ltn hx_160 rfl) (a0_h.sp hx_160) (jkO ?_))
      refine jo_f [(0, 0)] (by kernel_rfl) ?_
      refine toO (by kernel_rfl) (p_ld 0 (aB a0_a) (aO a0_a + i_4.toNat * 3) false (((encGChange x_7).drop 0).take 1) (by kernel_rfl) (by kernel_rfl) (by kernel_rfl) (fun w hm => (((hm.exRow a0_h List.not_mem_nil).at hx_160).sub 0 1)) (jkO ?_))
      refine jo_f [(0, 0), (0, 0), (0, 0)] (by kernel_rfl) ?_
      refine jo_end (by kernel_rfl) ?_
      refine jx_then ?_
      refine jc_cond (x_7.fStep != (w16 i_3)) (by kernel_rfl) (fun hc_161 => ?_) (fun hc_161 => ?_)
      · replace h := ifT hc_161 h
        refine jc_seq ?_
        refine jc_region ?_
        refine jo_f [(0, 0)] (by kernel_rfl) ?_
        refine jo_end (by kernel_rfl) ?_
        refine jx_then ?_
        refine jc_ret ?_
        refine jx_thenr ?_
        refine jx_inr ?_
        refine jx_thenr ?_
        refine jx_leaver (.inl (-1)) (Option.some.inj h).symm (fun e_162 => ?_)
        subst e_162
        refine jx_inr ?_
        refine jx_thenr ?_
        refine jx_thenr ?_
        obtain rfl := Option.some.inj hr_154
        exact jx_ret [] (.int .i64 (-1)) [] rfl (by kernel_rfl) (by kernel_rfl) (fun w hm => ⟨rfl, hm.pick [] (by kernel_rfl) (by kernel_rfl)⟩)
      · replace h := ifF hc_161 h
        refine jc_skip ?_
        refine jx_then ?_
        refine jc_seq ?_
        refine jc_region ?_
        refine jo_f [(0, 0), (0, 0), (0, 0)] (by kernel_rfl) ?_
        refine jo_end (by kernel_rfl) ?_
        refine jx_then ?_
        refine jc_seq ?_
        refine jc_seq ?_
        refine jc_region ?_
        refine jo_f [(0, 0), (0, 0)] (by kernel_rfl) ?_
        obtain ⟨x_8, hx_165, h⟩ := bd h
        refine toO (by kernel_rfl) (p_idx 0 a0_a a0.length i_4 3 (by kernel_rfl) (by kernel_rfl) (ix_some hx_165).1 (ltn hx_165 rfl) (a0_h.sp hx_165) (jkO ?_))
        refine jo_f [(0, 0)] (by kernel_rfl) ?_
        refine toO (by kernel_rfl) (p_ld 0 (aB a0_a) (aO a0_a + i_4.toNat * 3 + 1) false (((encGChange x_8).drop 1).take 1) (by kernel_rfl) (by kernel_rfl) (by kernel_rfl) (fun w hm => (((hm.exRow a0_h List.not_mem_nil).at hx_165).sub 1 1)) (jkO ?_))
        refine jo_f [(0, 0), (0, 0), (0, 0)] (by kernel_rfl) ?_
        refine jo_end (by kernel_rfl) ?_
        refine jx_then ?_
        refine jc_cond (x_8.fTrack != (w8 (w64 (i_3 + 1)))) (by kernel_rfl) (fun hc_166 => ?_) (fun hc_166 => ?_)
        · replace h := ifT hc_166 h
          refine jc_seq ?_
          refine jc_region ?_
          refine jo_f [(0, 0)] (by kernel_rfl) ?_
          refine jo_end (by kernel_rfl) ?_
          refine jx_then ?_
          refine jc_ret ?_
          refine jx_thenr ?_
          refine jx_inr ?_
          refine jx_thenr ?_
          refine jx_leaver (.inl (-1)) (Option.some.inj h).symm (fun e_167 => ?_)
          subst e_167
          refine jx_inr ?_
          refine jx_thenr ?_
          refine jx_thenr ?_
          obtain rfl := Option.some.inj hr_154
          exact jx_ret [] (.int .i64 (-1)) [] rfl (by kernel_rfl) (by kernel_rfl) (fun w hm => ⟨rfl, hm.pick [] (by kernel_rfl) (by kernel_rfl)⟩)
        · replace h := ifF hc_166 h
          refine jc_skip ?_
          refine jx_then ?_
          refine jc_seq ?_
          refine jc_region ?_
          refine jo_f [(0, 0), (0, 0), (0, 0)] (by kernel_rfl) ?_
          refine jo_end (by kernel_rfl) ?_
          refine jx_then ?_
          refine jc_seq ?_
          refine jc_seq ?_
          refine jc_region ?_
          refine jo_f [(0, 0), (0, 0)] (by kernel_rfl) ?_
          obtain ⟨x_9, hx_168, h⟩ := bd h
          refine toO (by kernel_rfl) (p_idx 0 a0_a a0.length i_4 3 (by kernel_rfl) (by kernel_rfl) (ix_some hx_168).1 (ltn hx_168 rfl) (a0_h.sp hx_168) (jkO ?_))
          refine jo_f [(0, 0)] (by kernel_rfl) ?_
          refine toO (by kernel_rfl) (p_ld 0 (aB a0_a) (aO a0_a + i_4.toNat * 3 + 2) false (((encGChange x_9).drop 2).take 1) (by kernel_rfl) (by kernel_rfl) (by kernel_rfl) (fun w hm => (((hm.exRow a0_h List.not_mem_nil).at hx_168).sub 2 1)) (jkO ?_))
          refine jo_f [(0, 0), (0, 0), (0, 0), (0, 0)] (by kernel_rfl) ?_
          refine jo_end (by kernel_rfl) ?_
          refine jx_then ?_
          refine jc_cond (x_9.fPut != ((Int.tmod (w64 ((w64 (i_3 + 1)) + 1)) 3) == 0)) (by kernel_rfl) (fun hc_169 => ?_) (fun hc_169 => ?_)
          · replace h := ifT hc_169 h
            refine jc_seq ?_
            refine jc_region ?_
            refine jo_f [(0, 0)] (by kernel_rfl) ?_
            refine jo_end (by kernel_rfl) ?_
            refine jx_then ?_
            refine jc_ret ?_
            refine jx_thenr ?_
            refine jx_inr ?_
            refine jx_thenr ?_
            refine jx_leaver (.inl (-1)) (Option.some.inj h).symm (fun e_170 => ?_)
            subst e_170
            refine jx_inr ?_
            refine jx_thenr ?_
            refine jx_thenr ?_
            obtain rfl := Option.some.inj hr_154
            exact jx_ret [] (.int .i64 (-1)) [] rfl (by kernel_rfl) (by kernel_rfl) (fun w hm => ⟨rfl, hm.pick [] (by kernel_rfl) (by kernel_rfl)⟩)
          · replace h := ifF hc_169 h
            refine jc_skip ?_
            refine jx_then ?_
            refine jc_region ?_
            refine jo_f [(0, 0), (0, 0), (0, 0)] (by kernel_rfl) ?_
            refine jo_end (by kernel_rfl) ?_
            refine jx_inn ?_
            refine jx_then ?_
            refine jc_region ?_
            refine jo_f [(0, 0), (0, 0), (0, 0)] (by kernel_rfl) ?_
            refine jo_end (by kernel_rfl) ?_
            exact jx_back ((w64 ((w64 ((w64 (i_3 + 1)) + 1)) + 1)), (w64 (i_4 + 1))) () (Option.some.inj h).symm trivial [] (by kernel_rfl) (by kernel_rfl) (by kernel_rfl)
    · replace h := ifF hc_157 h
      refine jc_exit ?_
      refine jx_thenx ?_
      refine jx_leave (.inr i_3) (Option.some.inj h).symm (fun e_171 => ?_)
      subst e_171
      refine jx_ine ?_
      exact jx_meet i_3 hr_154 (by kernel_rfl) [] (by kernel_rfl) (by kernel_rfl)
  · rintro i_1 h
    replace h : laws_heldChangeS.k_2 i_1 = some r := h
    rw [laws_heldChangeS.k_2] at h
    refine jx_then ?_
    refine jc_seq ?_
    refine jc_region ?_
    refine jo_f [(0, 0), (0, 0)] (by kernel_rfl) ?_
    refine jo_end (by kernel_rfl) ?_
    refine jx_then ?_
    refine jc_ret ?_
    obtain rfl := Option.some.inj h
    exact jx_ret [] (.int .i64 i_1) [] rfl (by kernel_rfl) (by kernel_rfl) (fun w hm => ⟨rfl, hm.pick [] (by kernel_rfl) (by kernel_rfl)⟩)

/-! ### laws.FnExactReadChanges -/
noncomputable def laws_FnExactReadChanges (aText0 : ByteArray) : Option (Bool) := (if (decide ((aText0.size : Int) > 1048576)) = true then some true else (spec_ReadChanges aText0).bind fun t_1 => (impl_ReadChanges aText0).bind fun t_2 => (laws_eqChangeS t_2.1 t_1.1).bind fun t_3 => (if ((!t_3) || (t_2.2 != t_1.2)) = true then some false else (laws_markChangeS t_2.1 1).bind fun t_4 => (laws_heldChangeS t_4.2 1).bind fun t_5 => (if (decide (t_5 < 0)) = true then some false else (if (t_5 != t_4.1) = true then some false else (impl_ReadChanges aText0).bind fun t_6 => (laws_eqChangeS t_6.1 t_1.1).bind fun t_7 => (if ((!t_7) || (t_6.2 != t_1.2)) = true then some false else (laws_heldChangeS t_4.2 1).bind fun t_8 => (if (decide (t_8 < 0)) = true then some false else (if (t_8 != t_4.1) = true then some false else some true)))))))
set_option maxRecDepth 100000 in
theorem laws_FnExactReadChanges.calls (aText0 : ByteArray) (w : World) (r : Bool) (g_er : Gler w) (g_ml : Glml w) (g_pw : Glpw w) (h : laws_FnExactReadChanges aText0 = some r) :
    Calls Tryd.prog 5 #[(.string aText0)] w fun e w' => ∃ v, e = .returned v ∧ (v = (.bool r) ∧ Mem w [] [] w') := by
  rw [laws_FnExactReadChanges] at h
  refine enter (args := [(.string aText0)]) Tryd.func5 rfl Tryd.ntmps5 (by kernel_rfl) (L := []) (W := []) (Mem.start w) ?_
  refine jc_seq ?_
  refine jc_region ?_
  refine jo_f [(0, 0)] (by kernel_rfl) ?_
  refine jo_end (by kernel_rfl) ?_
  refine jx_then ?_
  refine jc_seq ?_
  refine jc_seq ?_
  refine jc_region ?_
  refine jo_f [(0, 0), (0, 0), (0, 0)] (by kernel_rfl) ?_
  refine jo_end (by kernel_rfl) ?_
  refine jx_then ?_
  refine jc_cond (decide ((aText0.size : Int) > 1048576)) (by kernel_rfl) (fun hc_2 => ?_) (fun hc_2 => ?_)
  · replace h := ifT hc_2 h
    refine jc_seq ?_
    refine jc_region ?_
    refine jo_f [(0, 0)] (by kernel_rfl) ?_
    refine jo_end (by kernel_rfl) ?_
    refine jx_then ?_
    refine jc_ret ?_
    refine jx_thenr ?_
    obtain rfl := Option.some.inj h
    exact jx_ret [] (.bool true) [] rfl (by kernel_rfl) (by kernel_rfl) (fun w hm => ⟨rfl, hm.pick [] (by kernel_rfl) (by kernel_rfl)⟩)
  · replace h := ifF hc_2 h
    refine jc_skip ?_
    refine jx_then ?_
    refine jc_seq ?_
    refine jc_region ?_
    refine jo_f [(0, 0)] (by kernel_rfl) ?_
    obtain ⟨t_1, ht_3, h⟩ := bd h
    refine toO (by kernel_rfl) (p_call 0 18 #[(.string aText0)] (by kernel_rfl) (by kernel_rfl) (fun w hm => spec_ReadChanges.calls aText0 w _ ht_3) ?_)
    rintro w v w' hm ⟨o_4, cap_5, sp_6, _, rfl, hs_7, ho_8, rfl, hm'⟩
    refine ⟨_, hm.app hm', jkO ?_⟩
    clear hm hm'
    refine jo_f [(0, 0), (0, 0), (0, 0), (0, 0), (0, 0)] (by kernel_rfl) ?_
    refine jo_end (by kernel_rfl) ?_
    refine jx_then ?_
    refine jc_seq ?_
    refine jc_region ?_
    refine jo_f [(0, 0)] (by kernel_rfl) ?_
    obtain ⟨t_2, ht_9, h⟩ := bd h
    refine toO (by kernel_rfl) (p_call 0 19 #[(.string aText0)] (by kernel_rfl) (by kernel_rfl) (fun w hm => impl_ReadChanges.calls aText0 w _ (g_er.keep hm) (g_ml.keep hm) (g_pw.keep hm) ht_9) ?_)
    rintro w v w' hm ⟨o_10, cap_11, sp_12, _, rfl, hs_13, ho_14, rfl, hm'⟩
    refine ⟨_, hm.app hm', jkO ?_⟩
    clear hm hm'
    refine jo_f [(0, 0), (0, 0), (0, 0), (0, 0), (0, 0)] (by kernel_rfl) ?_
    refine jo_end (by kernel_rfl) ?_
    refine jx_then ?_
    refine jc_seq ?_
    refine jc_seq ?_
    refine jc_region ?_
    refine jo_f [(0, 0), (0, 0)] (by kernel_rfl) ?_
    obtain ⟨t_3, ht_19, h⟩ := bd h
    refine toO (by kernel_rfl) (p_call 0 20 #[(.slice (o_10.map fun b => ⟨b, 0, none⟩) t_2.1.length cap_11), (.slice (o_4.map fun b => ⟨b, 0, none⟩) t_1.1.length cap_5)] (by kernel_rfl) (by kernel_rfl) (fun w hm => laws_eqChangeS.calls t_2.1 t_1.1 w _ (o_10.map fun b => ⟨b, 0, none⟩) t_2.1.length cap_11 (hm.ownRow (hh := 1) (o := o_10) (T := 88) (enc := encGChange) (xs := t_2.1) (sp := sp_12) (by kernel_rfl) (fun e => (ho_14 e).1) encGChange_len) rfl (o_4.map fun b => ⟨b, 0, none⟩) t_1.1.length cap_5 (hm.ownRow (hh := 0) (o := o_4) (T := 88) (enc := encGChange) (xs := t_1.1) (sp := sp_6) (by kernel_rfl) (fun e => (ho_8 e).1) encGChange_len) rfl ht_19) ?_)
    rintro w v w' hm ⟨rfl, hm'⟩
    refine ⟨_, hm.app hm', jkO ?_⟩
    clear hm hm'
    refine jo_f [(0, 0), (0, 0), (0, 1), (0, 1), (0, 1), (0, 0)] (by kernel_rfl) ?_
    refine jo_end (by kernel_rfl) ?_
    refine jx_then ?_
    refine jc_cond ((!t_3) || (t_2.2 != t_1.2)) (by kernel_rfl) (fun hc_20 => ?_) (fun hc_20 => ?_)
    · replace h := ifT hc_20 h
      refine jc_seq ?_
      refine jc_region ?_
      refine jo_f [(0, 0)] (by kernel_rfl) ?_
      refine jo_end (by kernel_rfl) ?_
      refine jx_then ?_
      refine jc_ret ?_
      refine jx_thenr ?_
      obtain rfl := Option.some.inj h
      exact jx_ret [] (.bool false) [] rfl (by kernel_rfl) (by kernel_rfl) (fun w hm => ⟨rfl, hm.pick [] (by kernel_rfl) (by kernel_rfl)⟩)
    · replace h := ifF hc_20 h
      refine jc_skip ?_
      refine jx_then ?_
      refine jc_seq ?_
      refine jc_region ?_
      refine jo_f [(0, 0)] (by kernel_rfl) ?_
      refine jo_end (by kernel_rfl) ?_
      refine jx_then ?_
      refine jc_seq ?_
      refine jc_region ?_
      refine jo_f [(0, 0), (0, 0)] (by kernel_rfl) ?_
      obtain ⟨t_4, ht_21, h⟩ := bd h
      refine toO (by kernel_rfl) (p_call 0 21 #[(.slice (o_10.map fun b => ⟨b, 0, none⟩) t_2.1.length cap_11), (.int .i64 1)] (by kernel_rfl) (by kernel_rfl) (fun w hm => laws_markChangeS.calls t_2.1 1 w _ o_10 t_2.1.length cap_11 sp_12 rfl hs_13 ho_14 (hm.pass (N := [⟨o_10, 88, row encGChange t_2.1 sp_12⟩]) [1] (by kernel_rfl) (by kernel_rfl)) ht_21) ?_)
      rintro w v w' hm ⟨hn_22, ho_23, rfl, hm'⟩
      refine ⟨_, hm.appW (ps := [(1, ⟨o_10, 88, row encGChange t_4.2 sp_12⟩)]) (N := []) hm' (by kernel_rfl) (by kernel_rfl), jkO ?_⟩
      clear hm hm'
      refine jo_f [(0, 0)] (by kernel_rfl) ?_
      refine jo_end (by kernel_rfl) ?_
      refine jx_then ?_
      refine jc_seq ?_
      refine jc_region ?_
      refine jo_f [(0, 0)] (by kernel_rfl) ?_
      refine jo_end (by kernel_rfl) ?_
      refine jx_then ?_
      refine jc_seq ?_
      refine jc_region ?_
      refine jo_f [(0, 0), (0, 0)] (by kernel_rfl) ?_
      obtain ⟨t_5, ht_24, h⟩ := bd h
      refine toO (by kernel_rfl) (p_call 0 22 #[(.slice (o_10.map fun b => ⟨b, 0, none⟩) t_2.1.length cap_11), (.int .i64 1)] (by kernel_rfl) (by kernel_rfl) (fun w hm => laws_heldChangeS.calls t_4.2 1 w _ (o_10.map fun b => ⟨b, 0, none⟩) t_2.1.length cap_11 (hm.ownRow (hh := 1) (o := o_10) (T := 88) (enc := encGChange) (xs := t_4.2) (sp := sp_12) (by kernel_rfl) (fun e => (ho_23 e).1) encGChange_len) hn_22 ht_24) ?_)
      rintro w v w' hm ⟨rfl, hm'⟩
      refine ⟨_, hm.app hm', jkO ?_⟩
      clear hm hm'
      refine jo_f [(0, 0)] (by kernel_rfl) ?_
      refine jo_end (by kernel_rfl) ?_
      refine jx_then ?_
      refine jc_seq ?_
      refine jc_seq ?_
      refine jc_region ?_
      refine jo_f [(0, 0), (0, 0)] (by kernel_rfl) ?_
      refine jo_end (by kernel_rfl) ?_
      refine jx_then ?_
      refine jc_cond (decide (t_5 < 0)) (by kernel_rfl) (fun hc_26 => ?_) (fun hc_26 => ?_)
      · replace h := ifT hc_26 h
        refine jc_seq ?_
        refine jc_region ?_
        refine jo_f [(0, 0)] (by kernel_rfl) ?_
        refine jo_end (by kernel_rfl) ?_
        refine jx_then ?_
        refine jc_ret ?_
        refine jx_thenr ?_
        obtain rfl := Option.some.inj h
        exact jx_ret [] (.bool false) [] rfl (by kernel_rfl) (by kernel_rfl) (fun w hm => ⟨rfl, hm.pick [] (by kernel_rfl) (by kernel_rfl)⟩)
      · replace h := ifF hc_26 h
        refine jc_skip ?_
        refine jx_then ?_
        refine jc_seq ?_
        refine jc_seq ?_
        refine jc_region ?_
        refine jo_f [(0, 0), (0, 0), (0, 0)] (by kernel_rfl) ?_
        refine jo_end (by kernel_rfl) ?_
        refine jx_then ?_
        refine jc_cond (t_5 != t_4.1) (by kernel_rfl) (fun hc_28 => ?_) (fun hc_28 => ?_)
        · replace h := ifT hc_28 h
          refine jc_seq ?_
          refine jc_region ?_
          refine jo_f [(0, 0)] (by kernel_rfl) ?_
          refine jo_end (by kernel_rfl) ?_
          refine jx_then ?_
          refine jc_ret ?_
          refine jx_thenr ?_
          obtain rfl := Option.some.inj h
          exact jx_ret [] (.bool false) [] rfl (by kernel_rfl) (by kernel_rfl) (fun w hm => ⟨rfl, hm.pick [] (by kernel_rfl) (by kernel_rfl)⟩)
        · replace h := ifF hc_28 h
          refine jc_skip ?_
          refine jx_then ?_
          refine jc_seq ?_
          refine jc_region ?_
          refine jo_f [(0, 0)] (by kernel_rfl) ?_
          obtain ⟨t_6, ht_29, h⟩ := bd h
          refine toO (by kernel_rfl) (p_call 0 19 #[(.string aText0)] (by kernel_rfl) (by kernel_rfl) (fun w hm => impl_ReadChanges.calls aText0 w _ (g_er.keep hm) (g_ml.keep hm) (g_pw.keep hm) ht_29) ?_)
          rintro w v w' hm ⟨o_30, cap_31, sp_32, _, rfl, hs_33, ho_34, rfl, hm'⟩
          refine ⟨_, hm.app hm', jkO ?_⟩
          clear hm hm'
          refine jo_f [(0, 0), (0, 0), (0, 0), (0, 0), (0, 0)] (by kernel_rfl) ?_
          refine jo_end (by kernel_rfl) ?_
          refine jx_then ?_
          refine jc_seq ?_
          refine jc_seq ?_
          refine jc_region ?_
          refine jo_f [(0, 0), (0, 0)] (by kernel_rfl) ?_
          obtain ⟨t_7, ht_39, h⟩ := bd h
          refine toO (by kernel_rfl) (p_call 0 20 #[(.slice (o_30.map fun b => ⟨b, 0, none⟩) t_6.1.length cap_31), (.slice (o_4.map fun b => ⟨b, 0, none⟩) t_1.1.length cap_5)] (by kernel_rfl) (by kernel_rfl) (fun w hm => laws_eqChangeS.calls t_6.1 t_1.1 w _ (o_30.map fun b => ⟨b, 0, none⟩) t_6.1.length cap_31 (hm.ownRow (hh := 2) (o := o_30) (T := 88) (enc := encGChange) (xs := t_6.1) (sp := sp_32) (by kernel_rfl) (fun e => (ho_34 e).1) encGChange_len) rfl (o_4.map fun b => ⟨b, 0, none⟩) t_1.1.length cap_5 (hm.ownRow (hh := 0) (o := o_4) (T := 88) (enc := encGChange) (xs := t_1.1) (sp := sp_6) (by kernel_rfl) (fun e => (ho_8 e).1) encGChange_len) rfl ht_39) ?_)
          rintro w v w' hm ⟨rfl, hm'⟩
          refine ⟨_, hm.app hm', jkO ?_⟩
          clear hm hm'
          refine jo_f [(0, 0), (0, 0), (0, 1), (0, 1), (0, 1), (0, 0)] (by kernel_rfl) ?_
          refine jo_end (by kernel_rfl) ?_
          refine jx_then ?_
          refine jc_cond ((!t_7) || (t_6.2 != t_1.2)) (by kernel_rfl) (fun hc_40 => ?_) (fun hc_40 => ?_)
          · replace h := ifT hc_40 h
            refine jc_seq ?_
            refine jc_region ?_
            refine jo_f [(0, 0)] (by kernel_rfl) ?_
            refine jo_end (by kernel_rfl) ?_
            refine jx_then ?_
            refine jc_ret ?_
            refine jx_thenr ?_
            obtain rfl := Option.some.inj h
            exact jx_ret [] (.bool false) [] rfl (by kernel_rfl) (by kernel_rfl) (fun w hm => ⟨rfl, hm.pick [] (by kernel_rfl) (by kernel_rfl)⟩)
          · replace h := ifF hc_40 h
            refine jc_skip ?_
            refine jx_then ?_
            refine jc_seq ?_
            refine jc_region ?_
            refine jo_f [(0, 0)] (by kernel_rfl) ?_
            refine jo_end (by kernel_rfl) ?_
            refine jx_then ?_
            refine jc_seq ?_
            refine jc_region ?_
            refine jo_f [(0, 0), (0, 0)] (by kernel_rfl) ?_
            obtain ⟨t_8, ht_41, h⟩ := bd h
            refine toO (by kernel_rfl) (p_call 0 22 #[(.slice (o_10.map fun b => ⟨b, 0, none⟩) t_2.1.length cap_11), (.int .i64 1)] (by kernel_rfl) (by kernel_rfl) (fun w hm => laws_heldChangeS.calls t_4.2 1 w _ (o_10.map fun b => ⟨b, 0, none⟩) t_2.1.length cap_11 (hm.ownRow (hh := 1) (o := o_10) (T := 88) (enc := encGChange) (xs := t_4.2) (sp := sp_12) (by kernel_rfl) (fun e => (ho_23 e).1) encGChange_len) hn_22 ht_41) ?_)
            rintro w v w' hm ⟨rfl, hm'⟩
            refine ⟨_, hm.app hm', jkO ?_⟩
            clear hm hm'
            refine jo_f [(0, 0)] (by kernel_rfl) ?_
            refine jo_end (by kernel_rfl) ?_
            refine jx_then ?_
            refine jc_seq ?_
            refine jc_seq ?_
            refine jc_region ?_
            refine jo_f [(0, 0), (0, 0)] (by kernel_rfl) ?_
            refine jo_end (by kernel_rfl) ?_
            refine jx_then ?_
            refine jc_cond (decide (t_8 < 0)) (by kernel_rfl) (fun hc_43 => ?_) (fun hc_43 => ?_)
            · replace h := ifT hc_43 h
              refine jc_seq ?_
              refine jc_region ?_
              refine jo_f [(0, 0)] (by kernel_rfl) ?_
              refine jo_end (by kernel_rfl) ?_
              refine jx_then ?_
              refine jc_ret ?_
              refine jx_thenr ?_
              obtain rfl := Option.some.inj h
              exact jx_ret [] (.bool false) [] rfl (by kernel_rfl) (by kernel_rfl) (fun w hm => ⟨rfl, hm.pick [] (by kernel_rfl) (by kernel_rfl)⟩)
            · replace h := ifF hc_43 h
              refine jc_skip ?_
              refine jx_then ?_
              refine jc_seq ?_
              refine jc_seq ?_
              refine jc_region ?_
              refine jo_f [(0, 0), (0, 0), (0, 0)] (by kernel_rfl) ?_
              refine jo_end (by kernel_rfl) ?_
              refine jx_then ?_
              refine jc_cond (t_8 != t_4.1) (by kernel_rfl) (fun hc_44 => ?_) (fun hc_44 => ?_)
              · replace h := ifT hc_44 h
                refine jc_seq ?_
                refine jc_region ?_
                refine jo_f [(0, 0)] (by kernel_rfl) ?_
                refine jo_end (by kernel_rfl) ?_
                refine jx_then ?_
                refine jc_ret ?_
                refine jx_thenr ?_
                obtain rfl := Option.some.inj h
                exact jx_ret [] (.bool false) [] rfl (by kernel_rfl) (by kernel_rfl) (fun w hm => ⟨rfl, hm.pick [] (by kernel_rfl) (by kernel_rfl)⟩)
              · replace h := ifF hc_44 h
                refine jc_skip ?_
                refine jx_then ?_
                refine jc_seq ?_
                refine jc_region ?_
                refine jo_f [(0, 0)] (by kernel_rfl) ?_
                refine jo_end (by kernel_rfl) ?_
                refine jx_then ?_
                refine jc_ret ?_
                obtain rfl := Option.some.inj h
                exact jx_ret [] (.bool true) [] rfl (by kernel_rfl) (by kernel_rfl) (fun w hm => ⟨rfl, hm.pick [] (by kernel_rfl) (by kernel_rfl)⟩)
end Go.Proofs.YtpmndjejabjniaaDoor
