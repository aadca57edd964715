/- Functions of the program that the laws reach: a plain function each, and that the call comes to its answer if the plain function has one. Printed by a program. -/
import Derived.Test.YtpmndjejabjniaaDoorT
import Derived.Test.YtpmndjejabjniaaDoorM1
import Derived.Test.YtpmndjejabjniaaDoorM2
namespace Go.Proofs.YtpmndjejabjniaaDoor
open Eng
set_option linter.unusedVariables false

/-! ### spec.l07ReadSmall -/
noncomputable def spec_l07ReadSmall.k_7 (q_1 : Bool) (t_5 : Int × Bool) (q_6 : Bool) : Option (Int × Bool) := (if q_6 = true then some (0, false) else (if q_1 = true then some ((w8 (w64 (0 - t_5.1))), true) else some ((w8 t_5.1), true)))
noncomputable def spec_l07ReadSmall.k_4 (q_1 : Bool) (s_3 : ByteArray) : Option (Int × Bool) := (spec_l01Number s_3).bind fun t_5 => (if ((!t_5.2) || (decide (t_5.1 > 99))) = true then spec_l07ReadSmall.k_7 q_1 t_5 true else spec_l07ReadSmall.k_7 q_1 t_5 (q_1 && (t_5.1 == 0)))
noncomputable def spec_l07ReadSmall.k_2 (text0 : ByteArray) (q_1 : Bool) : Option (Int × Bool) := (if q_1 = true then (if 0 ≤ (1 : Int) ∧ (1 : Int) ≤ (text0.size : Int) ∧ (text0.size : Int) ≤ (text0.size : Int) then spec_l07ReadSmall.k_4 q_1 (text0.extract (1 : Int).toNat (text0.size : Int).toNat) else none) else spec_l07ReadSmall.k_4 q_1 text0)
noncomputable def spec_l07ReadSmall (text0 : ByteArray) : Option (Int × Bool) := (if (decide ((text0.size : Int) > 1)) = true then (sIx text0 0).bind fun x_8 => spec_l07ReadSmall.k_2 text0 (x_8 == 45) else spec_l07ReadSmall.k_2 text0 false)
set_option maxRecDepth 100000 in
theorem spec_l07ReadSmall.calls (text0 : ByteArray) (w : World) (r : Int × Bool) (h : spec_l07ReadSmall text0 = some r) :
    Calls Tryd.prog 61 #[(.string text0)] w fun e w' => ∃ v, e = .returned v ∧ (v = .tuple #[(.int .i8 r.1), (.bool r.2)] ∧ Mem w [] [] w') := by
  rw [spec_l07ReadSmall] at h
  refine enter (args := [(.string text0)]) Tryd.func61 rfl Tryd.ntmps61 (by kernel_rfl) (L := []) (W := []) (Mem.start w) ?_
  refine jc_seq ?_
  refine jc_region ?_
  refine jo_f [(0, 0), (0, 0)] (by kernel_rfl) ?_
  refine jo_end (by kernel_rfl) ?_
  refine jx_then ?_
  refine jc_seq ?_
  refine jc_meet (fun (j : Bool) => match j with | q_1 => spec_l07ReadSmall.k_2 text0 q_1 = some r) (fun (j : Bool) => match j with | q_1 => [(0, [], (.string text0)), (2, [], (.int .i8 0)), (3, [], (.bool false)), (4, [], (.bool q_1))]) (fun (j : Bool) => match j with | q_1 => []) ?_ ?_
  · refine jc_region ?_
    refine jo_f [(0, 0), (0, 0), (0, 0), (0, 0), (0, 1)] (by kernel_rfl) ?_
    refine jo_split 10 (decide ((text0.size : Int) > 1)) (by kernel_rfl) (fun hc_16 => ?_) (fun hc_16 => ?_)
    · replace h := ifT hc_16 h
      obtain ⟨x_8, hx_17, h⟩ := bd h
      refine toO (by kernel_rfl) (p_v 2 (by kernel_rfl) _ (fun w hm => six_run (s := text0) (j := 0) (by kernel_rfl) hx_17) (jkO ?_))
      refine jo_f [(0, 2), (0, 4), (0, 0)] (by kernel_rfl) ?_
      refine jo_end (by kernel_rfl) ?_
      exact jx_meet (x_8 == 45) h (by kernel_rfl) [] (by kernel_rfl) (by kernel_rfl)
    · replace h := ifF hc_16 h
      refine jo_f [(0, 3), (0, 3), (0, 5), (0, 0)] (by kernel_rfl) ?_
      refine jo_end (by kernel_rfl) ?_
      exact jx_meet false h (by kernel_rfl) [] (by kernel_rfl) (by kernel_rfl)
  · rintro q_1 h
    replace h : spec_l07ReadSmall.k_2 text0 q_1 = some r := h
    rw [spec_l07ReadSmall.k_2] at h
    refine jx_then ?_
    refine jc_seq ?_
    refine jc_meet (fun (j : ByteArray) => match j with | s_3 => spec_l07ReadSmall.k_4 q_1 s_3 = some r) (fun (j : ByteArray) => match j with | s_3 => [(0, [], (.string s_3)), (2, [], (.int .i8 0)), (3, [], (.bool false)), (4, [], (.bool q_1))]) (fun (j : ByteArray) => match j with | s_3 => []) ?_ ?_
    · refine jc_seq ?_
      refine jc_region ?_
      refine jo_f [(0, 0)] (by kernel_rfl) ?_
      refine jo_end (by kernel_rfl) ?_
      refine jx_then ?_
      refine jc_cond q_1 (by kernel_rfl) (fun hc_14 => ?_) (fun hc_14 => ?_)
      · replace h := ifT hc_14 h
        refine jc_region ?_
        refine jo_f [(0, 0)] (by kernel_rfl) ?_
        obtain ⟨hg_15, h⟩ := gd h
        refine toO (by kernel_rfl) (p_v 0 (by kernel_rfl) _ (fun w hm => ssl_run (s := text0) (lo := some (1 : Int)) (hi := none) (l := (1 : Int)) (h := (text0.size : Int)) (by kernel_rfl) rfl rfl hg_15) (jkO ?_))
        refine jo_f [(0, 0)] (by kernel_rfl) ?_
        refine jo_end (by kernel_rfl) ?_
        exact jx_meet (text0.extract (1 : Int).toNat (text0.size : Int).toNat) h (by kernel_rfl) [] (by kernel_rfl) (by kernel_rfl)
      · replace h := ifF hc_14 h
        refine jc_skip ?_
        exact jx_meet text0 h (by kernel_rfl) [] (by kernel_rfl) (by kernel_rfl)
    · rintro s_3 h
      replace h : spec_l07ReadSmall.k_4 q_1 s_3 = some r := h
      rw [spec_l07ReadSmall.k_4] at h
      refine jx_then ?_
      refine jc_seq ?_
      refine jc_region ?_
      refine jo_f [(0, 0)] (by kernel_rfl) ?_
      obtain ⟨t_5, ht_5, h⟩ := bd h
      refine toO (by kernel_rfl) (p_call 0 50 #[(.string s_3)] (by kernel_rfl) (by kernel_rfl) (fun w hm => spec_l01Number.calls s_3 w _ ht_5) ?_)
      rintro w v w' hm ⟨rfl, hm'⟩
      refine ⟨_, hm.app hm', jkO ?_⟩
      clear hm hm'
      refine jo_f [(0, 0), (0, 0), (0, 0), (0, 0), (0, 0)] (by kernel_rfl) ?_
      refine jo_end (by kernel_rfl) ?_
      refine jx_then ?_
      refine jc_seq ?_
      refine jc_seq ?_
      refine jc_meet (fun (j : Bool) => match j with | q_6 => spec_l07ReadSmall.k_7 q_1 t_5 q_6 = some r) (fun (j : Bool) => match j with | q_6 => [(2, [], (.int .i8 0)), (3, [], (.bool false)), (4, [], (.bool q_1)), (5, [], (.int .i64 t_5.1)), (35, [], (.bool q_6))]) (fun (j : Bool) => match j with | q_6 => []) ?_ ?_
      · refine jc_region ?_
        refine jo_f [(0, 0), (0, 0), (0, 0), (0, 1), (0, 1), (0, 0), (0, 0), (0, 1)] (by kernel_rfl) ?_
        refine jo_split 29 ((!t_5.2) || (decide (t_5.1 > 99))) (by kernel_rfl) (fun hc_13 => ?_) (fun hc_13 => ?_)
        · replace h := ifT hc_13 h
          refine jo_f [(0, 3), (0, 3), (0, 3), (0, 3), (0, 4)] (by kernel_rfl) ?_
          refine jo_end (by kernel_rfl) ?_
          exact jx_meet true h (by kernel_rfl) [] (by kernel_rfl) (by kernel_rfl)
        · replace h := ifF hc_13 h
          refine jo_f [(0, 2), (0, 1), (0, 1), (0, 2), (0, 5)] (by kernel_rfl) ?_
          refine jo_end (by kernel_rfl) ?_
          exact jx_meet (q_1 && (t_5.1 == 0)) h (by kernel_rfl) [] (by kernel_rfl) (by kernel_rfl)
      · rintro q_6 h
        replace h : spec_l07ReadSmall.k_7 q_1 t_5 q_6 = some r := h
        rw [spec_l07ReadSmall.k_7] at h
        refine jx_then ?_
        refine jc_cond q_6 (by kernel_rfl) (fun hc_10 => ?_) (fun hc_10 => ?_)
        · replace h := ifT hc_10 h
          refine jc_seq ?_
          refine jc_region ?_
          refine jo_f [(0, 0), (0, 0)] (by kernel_rfl) ?_
          refine jo_end (by kernel_rfl) ?_
          refine jx_then ?_
          refine jc_ret ?_
          refine jx_thenr ?_
          obtain rfl := Option.some.inj h
          exact jx_ret [] (.tuple #[(.int .i8 0), (.bool false)]) [] rfl (by kernel_rfl) (by kernel_rfl) (fun w hm => ⟨rfl, hm.pick [] (by kernel_rfl) (by kernel_rfl)⟩)
        · replace h := ifF hc_10 h
          refine jc_skip ?_
          refine jx_then ?_
          refine jc_seq ?_
          refine jc_seq ?_
          refine jc_region ?_
          refine jo_f [(0, 0)] (by kernel_rfl) ?_
          refine jo_end (by kernel_rfl) ?_
          refine jx_then ?_
          refine jc_cond q_1 (by kernel_rfl) (fun hc_12 => ?_) (fun hc_12 => ?_)
          · replace h := ifT hc_12 h
            refine jc_seq ?_
            refine jc_region ?_
            refine jo_f [(0, 0), (0, 0), (0, 0), (0, 0), (0, 0)] (by kernel_rfl) ?_
            refine jo_end (by kernel_rfl) ?_
            refine jx_then ?_
            refine jc_ret ?_
            refine jx_thenr ?_
            obtain rfl := Option.some.inj h
            exact jx_ret [] (.tuple #[(.int .i8 (w8 (w64 (0 - t_5.1)))), (.bool true)]) [] rfl (by kernel_rfl) (by kernel_rfl) (fun w hm => ⟨rfl, hm.pick [] (by kernel_rfl) (by kernel_rfl)⟩)
          · replace h := ifF hc_12 h
            refine jc_skip ?_
            refine jx_then ?_
            refine jc_seq ?_
            refine jc_region ?_
            refine jo_f [(0, 0), (0, 0), (0, 0), (0, 0)] (by kernel_rfl) ?_
            refine jo_end (by kernel_rfl) ?_
            refine jx_then ?_
            refine jc_ret ?_
            obtain rfl := Option.some.inj h
            exact jx_ret [] (.tuple #[(.int .i8 (w8 t_5.1)), (.bool true)]) [] rfl (by kernel_rfl) (by kernel_rfl) (fun w hm => ⟨rfl, hm.pick [] (by kernel_rfl) (by kernel_rfl)⟩)

/-! ### spec.ReadChoices -/
noncomputable def spec_ReadChoices.k_3 (xs_2 : List GChoice) : Option ((List GChoice) × Int) := (spec_l07Choices xs_2).bind fun t_4 => (if ((!t_4) || (decide ((xs_2.length : Int) > 120))) = true then some (([] : List GChoice), 5) else some (xs_2, 0))
noncomputable def spec_ReadChoices.l_7 (t_1 : (List ByteArray)) : ((List GChoice) × Int) → Option (((List GChoice) × Int) ⊕ (((List GChoice) × Int) ⊕ (List GChoice)))
  | (xs_5, i_6) => (if (decide (i_6 < (t_1.length : Int))) = true then (ix t_1 i_6).bind fun x_9 => (if (x_9.toList == (ByteArray.mk #[120]).toList) = true then (if xs_5.length + [(⟨true, 0, 0, 0⟩ : GChoice)].length ≤ 4294967296 then some (.inl ((xs_5 ++ [(⟨true, 0, 0, 0⟩ : GChoice)]), (w64 (i_6 + 1)))) else none) else (ix t_1 i_6).bind fun x_10 => (spec_l01Split x_10 47).bind fun t_11 => (if ((t_11.length : Int) != 3) = true then some (.inr (.inl (([] : List GChoice), 5))) else (ix t_11 0).bind fun x_12 => (spec_l07ReadSmall x_12).bind fun t_13 => (ix t_11 1).bind fun x_14 => (spec_l07ReadSmall x_14).bind fun t_15 => (ix t_11 2).bind fun x_16 => (spec_l07ReadSmall x_16).bind fun t_17 => (if (((!t_13.2) || (!t_15.2)) || (!t_17.2)) = true then some (.inr (.inl (([] : List GChoice), 5))) else (if xs_5.length + [(⟨false, t_13.1, t_15.1, t_17.1⟩ : GChoice)].length ≤ 4294967296 then some (.inl ((xs_5 ++ [(⟨false, t_13.1, t_15.1, t_17.1⟩ : GChoice)]), (w64 (i_6 + 1)))) else none)))) else some (.inr (.inr xs_5)))
noncomputable def spec_ReadChoices (text0 : ByteArray) : Option ((List GChoice) × Int) := (if (text0.toList == (ByteArray.mk #[]).toList) = true then some (([] : List GChoice), 0) else (spec_l01Split text0 32).bind fun t_1 => (loop (spec_ReadChoices.l_7 t_1) (([] : List GChoice), 0)).bind fun t_8 => match t_8 with | .inl p => some p | .inr p => spec_ReadChoices.k_3 p)
set_option maxRecDepth 100000 in
set_option maxHeartbeats 8000000 in
theorem spec_ReadChoices.calls (text0 : ByteArray) (w : World) (r : (List GChoice) × Int) (h : spec_ReadChoices text0 = some r) :
    Calls Tryd.prog 27 #[(.string text0)] w fun e w' => ∃ v, e = .returned v ∧ (∃ (o0 : Option Nat) (c0 : Nat) (s0 : List Value) (n0 : Nat), r.1.length = n0 ∧ (o0 ≠ none → n0 ≤ c0 ∧ s0.length = (c0 - n0) * 4) ∧ (o0 = none → r.1 = [] ∧ c0 = 0) ∧ v = .tuple #[.slice (o0.map fun b => ⟨b, 0, none⟩) n0 c0, (.int .i64 r.2)] ∧ Mem w [] [⟨o0, 77, row encGChoice r.1 s0⟩] w') := by
  rw [spec_ReadChoices] at h
  refine enter (args := [(.string text0)]) Tryd.func27 rfl Tryd.ntmps27 (by kernel_rfl) (L := []) (W := []) (Mem.start w) ?_
  refine jc_seq ?_
  refine jc_region ?_
  refine jo_f [(0, 0), (0, 0)] (by kernel_rfl) ?_
  refine jo_end (by kernel_rfl) ?_
  refine jx_then ?_
  refine jc_seq ?_
  refine jc_region ?_
  refine toO (by kernel_rfl) (p_a 0 [0] (by kernel_rfl) (fun b => by kernel_rfl) (fun b_1 => jkO ?_))
  refine jo_f [(0, 0)] (by kernel_rfl) ?_
  refine jo_end (by kernel_rfl) ?_
  refine jx_then ?_
  refine jc_seq ?_
  refine jc_seq ?_
  refine jc_region ?_
  refine jo_f [(0, 0), (0, 0)] (by kernel_rfl) ?_
  refine jo_end (by kernel_rfl) ?_
  refine jx_then ?_
  refine jc_cond (text0.toList == (ByteArray.mk #[]).toList) (by kernel_rfl) (fun hc_3 => ?_) (fun hc_3 => ?_)
  · replace h := ifT hc_3 h
    refine jc_seq ?_
    refine jc_region ?_
    refine jo_f [(0, 0), (0, 0), (0, 0)] (by kernel_rfl) ?_
    refine jo_end (by kernel_rfl) ?_
    refine jx_then ?_
    refine jc_ret ?_
    refine jx_thenr ?_
    obtain rfl := Option.some.inj h
    exact jx_ret [] (.tuple #[(.slice (some ⟨b_1, 0, none⟩) 0 0), (.int .i64 0)]) [] rfl (by kernel_rfl) (by kernel_rfl) (fun w hm => ⟨(some b_1), 0, [], 0, rfl, (fun _ => ⟨Nat.le_refl _, by simp⟩), (fun e => nomatch e), rfl, hm.pick [0] (by kernel_rfl) (by kernel_rfl)⟩)
  · replace h := ifF hc_3 h
    refine jc_skip ?_
    refine jx_then ?_
    refine jc_seq ?_
    refine jc_region ?_
    refine jo_f [(0, 0)] (by kernel_rfl) ?_
    obtain ⟨t_1, ht_4, h⟩ := bd h
    refine toO (by kernel_rfl) (p_call 0 49 #[(.string text0), (.int .u8 32)] (by kernel_rfl) (by kernel_rfl) (fun w hm => spec_l01Split.calls text0 32 w _ ht_4) ?_)
    rintro w v w' hm ⟨o_5, cap_6, sp_7, _, rfl, hs_8, ho_9, rfl, hm'⟩
    refine ⟨_, hm.app hm', jkO ?_⟩
    clear hm hm'
    refine jo_f [(0, 0)] (by kernel_rfl) ?_
    refine jo_end (by kernel_rfl) ?_
    refine jx_then ?_
    refine jc_seq ?_
    refine jc_seq ?_
    refine jc_region ?_
    refine jo_f [(0, 0)] (by kernel_rfl) ?_
    refine jo_end (by kernel_rfl) ?_
    refine jx_then ?_
    refine jc_meet (fun (j : (List GChoice) × (Option Nat) × Nat × (List Value) × Nat) => match j with | ⟨xs_2, o_502, cap_503, sp_504, n_505⟩ => spec_ReadChoices.k_3 xs_2 = some r ∧ (xs_2.length = n_505) ∧ ((o_502 ≠ none → n_505 ≤ cap_503 ∧ sp_504.length = (cap_503 - n_505) * 4)) ∧ ((o_502 = none → xs_2 = [] ∧ cap_503 = 0))) (fun (j : (List GChoice) × (Option Nat) × Nat × (List Value) × Nat) => match j with | ⟨xs_2, o_502, cap_503, sp_504, n_505⟩ => [(2, [], (.slice none 0 0)), (3, [], (.int .i64 0)), (4, [], (.slice (o_502.map fun b => ⟨b, 0, none⟩) n_505 cap_503))]) (fun (j : (List GChoice) × (Option Nat) × Nat × (List Value) × Nat) => match j with | ⟨xs_2, o_502, cap_503, sp_504, n_505⟩ => [⟨o_502, 77, row encGChoice xs_2 sp_504⟩, ⟨o_5, 9, row encStr t_1 sp_7⟩]) ?_ ?_
    · refine jc_block ?_
      obtain ⟨t_8, ht_677, hr_624⟩ := bd h
      refine jc_loop (fun (s : (List GChoice) × Int) (x : (Option Nat) × Nat × (List Value) × Nat) => match s, x with | ⟨xs_5, i_6⟩, ⟨o_618, cap_619, sp_620, n_621⟩ => (xs_5.length = n_621) ∧ ((o_618 ≠ none → n_621 ≤ cap_619 ∧ sp_620.length = (cap_619 - n_621) * 4)) ∧ ((o_618 = none → xs_5 = [] ∧ cap_619 = 0))) (fun (s : (List GChoice) × Int) (x : (Option Nat) × Nat × (List Value) × Nat) => match s, x with | ⟨xs_5, i_6⟩, ⟨o_618, cap_619, sp_620, n_621⟩ => [(2, [], (.slice none 0 0)), (3, [], (.int .i64 0)), (4, [], (.slice (o_618.map fun b => ⟨b, 0, none⟩) n_621 cap_619)), (5, [], (.slice (o_5.map fun b => ⟨b, 0, none⟩) t_1.length cap_6)), (6, [], (.int .i64 i_6))]) (fun (s : (List GChoice) × Int) (x : (Option Nat) × Nat × (List Value) × Nat) => match s, x with | ⟨xs_5, i_6⟩, ⟨o_618, cap_619, sp_620, n_621⟩ => [⟨o_618, 77, row encGChoice xs_5 sp_620⟩, ⟨o_5, 9, row encStr t_1 sp_7⟩]) ht_677 ⟨(some b_1), 0, [], 0⟩ ⟨rfl, (fun _ => ⟨Nat.le_refl _, by simp⟩), (fun e => nomatch e)⟩ (by kernel_rfl) [0, 1] (by kernel_rfl) (by kernel_rfl) ?_
      rintro ⟨xs_5, i_6⟩ ⟨o_618, cap_619, sp_620, n_621⟩ y_625 ⟨rfl, hs_622, ho_623⟩ h
      rw [spec_ReadChoices.l_7] at h
      refine jc_seq ?_
      refine jc_seq ?_
      refine jc_region ?_
      refine jo_f [(0, 0), (0, 0), (0, 0), (0, 0)] (by kernel_rfl) ?_
      refine jo_end (by kernel_rfl) ?_
      refine jx_then ?_
      refine jc_cond (decide (i_6 < (t_1.length : Int))) (by kernel_rfl) (fun hc_627 => ?_) (fun hc_627 => ?_)
      · replace h := ifT hc_627 h
        refine jc_skip ?_
        refine jx_then ?_
        refine jc_seq ?_
        refine jc_block ?_
        refine jc_seq ?_
        refine jc_seq ?_
        refine jc_region ?_
        refine jo_f [(0, 0), (0, 0)] (by kernel_rfl) ?_
        obtain ⟨x_9, hx_637, h⟩ := bd h
        refine toO (by kernel_rfl) (p_idx 0 (o_5.map fun b => ⟨b, 0, none⟩) t_1.length i_6 1 (by kernel_rfl) (by kernel_rfl) (ix_some hx_637).1 (ltn hx_637 rfl) (spo ho_9 hx_637) (jkO ?_))
        refine toO (by kernel_rfl) (p_ld 0 (aB (o_5.map fun b => ⟨b, 0, none⟩)) (aO (o_5.map fun b => ⟨b, 0, none⟩) + i_6.toNat * 1) false (encStr x_9) (by kernel_rfl) (by kernel_rfl) (by kernel_rfl) (fun w hm => ((hm.ownRow (hh := 1) (o := o_5) (T := 9) (enc := encStr) (xs := t_1) (sp := sp_7) (by kernel_rfl) (fun e => (ho_9 e).1) encStr_len).at hx_637)) (jkO ?_))
        refine jo_f [(0, 0)] (by kernel_rfl) ?_
        refine jo_end (by kernel_rfl) ?_
        refine jx_then ?_
        refine jc_cond (x_9.toList == (ByteArray.mk #[120]).toList) (by kernel_rfl) (fun hc_638 => ?_) (fun hc_638 => ?_)
        · replace h := ifT hc_638 h
          refine jc_seq ?_
          refine jc_region ?_
          refine jo_f [(0, 0), (0, 0)] (by kernel_rfl) ?_
          refine toO (by kernel_rfl) (p_a 0 [0] (by kernel_rfl) (fun b => by kernel_rfl) (fun b_639 => jkO ?_))
          obtain ⟨hg_640, h⟩ := gd h
          refine toO (by kernel_rfl) (p_apn 0 0 o_618 77 xs_5.length 1 cap_619 4 4 (some ⟨b_639, 0, none⟩) encGChoice xs_5 [(⟨true, 0, 0, 0⟩ : GChoice)] sp_620 (.agg #[(.bool false), (.int .i8 0), (.int .i8 0), (.int .i8 0)]) rfl rfl (by kernel_rfl) (by kernel_rfl) (by kernel_rfl) encGChoice_len encGChoice_cell hs_622 ho_623 (fun w hm => (hm.ownRow (hh := 2) (o := (some b_639)) (T := 77) (enc := encGChoice) (xs := [(⟨true, 0, 0, 0⟩ : GChoice)]) (sp := []) (by kernel_rfl) (fun e => nomatch e) encGChoice_len)) hg_640 (by kernel_rfl) (by kernel_rfl) (fun o_641 cap_642 sp_643 hs_644 ho_645 => jkO ?_))
          refine jo_f [(0, 0)] (by kernel_rfl) ?_
          refine jo_end (by kernel_rfl) ?_
          refine jx_then ?_
          refine jc_exit ?_
          refine jx_thenx ?_
          refine jx_ine ?_
          refine jx_then ?_
          refine jc_region ?_
          refine jo_f [(0, 0), (0, 0), (0, 0)] (by kernel_rfl) ?_
          refine jo_end (by kernel_rfl) ?_
          exact jx_back ((xs_5 ++ [(⟨true, 0, 0, 0⟩ : GChoice)]), (w64 (i_6 + 1))) ⟨o_641, cap_642, sp_643, (xs_5 ++ [(⟨true, 0, 0, 0⟩ : GChoice)]).length⟩ (Option.some.inj h).symm ⟨rfl, hs_644, ho_645⟩ [0, 1] (by kernel_rfl) (by kernel_rfl) (by kernel_rfl)
        · replace h := ifF hc_638 h
          refine jc_skip ?_
          refine jx_then ?_
          refine jc_seq ?_
          refine jc_region ?_
          refine jo_f [(0, 0), (0, 0)] (by kernel_rfl) ?_
          obtain ⟨x_10, hx_646, h⟩ := bd h
          refine toO (by kernel_rfl) (p_idx 0 (o_5.map fun b => ⟨b, 0, none⟩) t_1.length i_6 1 (by kernel_rfl) (by kernel_rfl) (ix_some hx_646).1 (ltn hx_646 rfl) (spo ho_9 hx_646) (jkO ?_))
          refine toO (by kernel_rfl) (p_ld 0 (aB (o_5.map fun b => ⟨b, 0, none⟩)) (aO (o_5.map fun b => ⟨b, 0, none⟩) + i_6.toNat * 1) false (encStr x_10) (by kernel_rfl) (by kernel_rfl) (by kernel_rfl) (fun w hm => ((hm.ownRow (hh := 1) (o := o_5) (T := 9) (enc := encStr) (xs := t_1) (sp := sp_7) (by kernel_rfl) (fun e => (ho_9 e).1) encStr_len).at hx_646)) (jkO ?_))
          obtain ⟨t_11, ht_647, h⟩ := bd h
          refine toO (by kernel_rfl) (p_call 0 49 #[(.string x_10), (.int .u8 47)] (by kernel_rfl) (by kernel_rfl) (fun w hm => spec_l01Split.calls x_10 47 w _ ht_647) ?_)
          rintro w v w' hm ⟨o_648, cap_649, sp_650, _, rfl, hs_651, ho_652, rfl, hm'⟩
          refine ⟨_, hm.app hm', jkO ?_⟩
          clear hm hm'
          refine jo_f [(0, 0)] (by kernel_rfl) ?_
          refine jo_end (by kernel_rfl) ?_
          refine jx_then ?_
          refine jc_seq ?_
          refine jc_seq ?_
          refine jc_region ?_
          refine jo_f [(0, 0), (0, 0), (0, 0)] (by kernel_rfl) ?_
          refine jo_end (by kernel_rfl) ?_
          refine jx_then ?_
          refine jc_cond ((t_11.length : Int) != 3) (by kernel_rfl) (fun hc_655 => ?_) (fun hc_655 => ?_)
          · replace h := ifT hc_655 h
            refine jc_seq ?_
            refine jc_region ?_
            refine toO (by kernel_rfl) (p_a 0 [0] (by kernel_rfl) (fun b => by kernel_rfl) (fun b_656 => jkO ?_))
            refine jo_f [(0, 0), (0, 0)] (by kernel_rfl) ?_
            refine jo_end (by kernel_rfl) ?_
            refine jx_then ?_
            refine jc_ret ?_
            refine jx_thenr ?_
            refine jx_inr ?_
            refine jx_thenr ?_
            refine jx_leaver (.inl (([] : List GChoice), 5)) (Option.some.inj h).symm (fun e_657 => ?_)
            subst e_657
            refine jx_inr ?_
            refine jx_thenr ?_
            refine jx_thenr ?_
            obtain rfl := Option.some.inj hr_624
            exact jx_ret [] (.tuple #[(.slice (some ⟨b_656, 0, none⟩) 0 0), (.int .i64 5)]) [] rfl (by kernel_rfl) (by kernel_rfl) (fun w hm => ⟨(some b_656), 0, [], 0, rfl, (fun _ => ⟨Nat.le_refl _, by simp⟩), (fun e => nomatch e), rfl, hm.pick [3] (by kernel_rfl) (by kernel_rfl)⟩)
          · replace h := ifF hc_655 h
            refine jc_skip ?_
            refine jx_then ?_
            refine jc_seq ?_
            refine jc_region ?_
            refine jo_f [(0, 0)] (by kernel_rfl) ?_
            obtain ⟨x_12, hx_658, h⟩ := bd h
            refine toO (by kernel_rfl) (p_idx 0 (o_648.map fun b => ⟨b, 0, none⟩) t_11.length 0 1 (by kernel_rfl) (by kernel_rfl) (ix_some hx_658).1 (ltn hx_658 rfl) (spo ho_652 hx_658) (jkO ?_))
            refine toO (by kernel_rfl) (p_ld 0 (aB (o_648.map fun b => ⟨b, 0, none⟩)) (aO (o_648.map fun b => ⟨b, 0, none⟩) + (0 : Int).toNat * 1) false (encStr x_12) (by kernel_rfl) (by kernel_rfl) (by kernel_rfl) (fun w hm => ((hm.ownRow (hh := 2) (o := o_648) (T := 9) (enc := encStr) (xs := t_11) (sp := sp_650) (by kernel_rfl) (fun e => (ho_652 e).1) encStr_len).at hx_658)) (jkO ?_))
            obtain ⟨t_13, ht_659, h⟩ := bd h
            refine toO (by kernel_rfl) (p_call 0 61 #[(.string x_12)] (by kernel_rfl) (by kernel_rfl) (fun w hm => spec_l07ReadSmall.calls x_12 w _ ht_659) ?_)
            rintro w v w' hm ⟨rfl, hm'⟩
            refine ⟨_, hm.app hm', jkO ?_⟩
            clear hm hm'
            refine jo_f [(0, 0), (0, 0), (0, 0), (0, 0), (0, 0)] (by kernel_rfl) ?_
            refine jo_end (by kernel_rfl) ?_
            refine jx_then ?_
            refine jc_seq ?_
            refine jc_region ?_
            refine jo_f [(0, 0)] (by kernel_rfl) ?_
            obtain ⟨x_14, hx_660, h⟩ := bd h
            refine toO (by kernel_rfl) (p_idx 0 (o_648.map fun b => ⟨b, 0, none⟩) t_11.length 1 1 (by kernel_rfl) (by kernel_rfl) (ix_some hx_660).1 (ltn hx_660 rfl) (spo ho_652 hx_660) (jkO ?_))
            refine toO (by kernel_rfl) (p_ld 0 (aB (o_648.map fun b => ⟨b, 0, none⟩)) (aO (o_648.map fun b => ⟨b, 0, none⟩) + (1 : Int).toNat * 1) false (encStr x_14) (by kernel_rfl) (by kernel_rfl) (by kernel_rfl) (fun w hm => ((hm.ownRow (hh := 2) (o := o_648) (T := 9) (enc := encStr) (xs := t_11) (sp := sp_650) (by kernel_rfl) (fun e => (ho_652 e).1) encStr_len).at hx_660)) (jkO ?_))
            obtain ⟨t_15, ht_661, h⟩ := bd h
            refine toO (by kernel_rfl) (p_call 0 61 #[(.string x_14)] (by kernel_rfl) (by kernel_rfl) (fun w hm => spec_l07ReadSmall.calls x_14 w _ ht_661) ?_)
            rintro w v w' hm ⟨rfl, hm'⟩
            refine ⟨_, hm.app hm', jkO ?_⟩
            clear hm hm'
            refine jo_f [(0, 0), (0, 0), (0, 0), (0, 0), (0, 0)] (by kernel_rfl) ?_
            refine jo_end (by kernel_rfl) ?_
            refine jx_then ?_
            refine jc_seq ?_
            refine jc_region ?_
            refine jo_f [(0, 0)] (by kernel_rfl) ?_
            obtain ⟨x_16, hx_662, h⟩ := bd h
            refine toO (by kernel_rfl) (p_idx 0 (o_648.map fun b => ⟨b, 0, none⟩) t_11.length 2 1 (by kernel_rfl) (by kernel_rfl) (ix_some hx_662).1 (ltn hx_662 rfl) (spo ho_652 hx_662) (jkO ?_))
            refine toO (by kernel_rfl) (p_ld 0 (aB (o_648.map fun b => ⟨b, 0, none⟩)) (aO (o_648.map fun b => ⟨b, 0, none⟩) + (2 : Int).toNat * 1) false (encStr x_16) (by kernel_rfl) (by kernel_rfl) (by kernel_rfl) (fun w hm => ((hm.ownRow (hh := 2) (o := o_648) (T := 9) (enc := encStr) (xs := t_11) (sp := sp_650) (by kernel_rfl) (fun e => (ho_652 e).1) encStr_len).at hx_662)) (jkO ?_))
            obtain ⟨t_17, ht_663, h⟩ := bd h
            refine toO (by kernel_rfl) (p_call 0 61 #[(.string x_16)] (by kernel_rfl) (by kernel_rfl) (fun w hm => spec_l07ReadSmall.calls x_16 w _ ht_663) ?_)
            rintro w v w' hm ⟨rfl, hm'⟩
            refine ⟨_, hm.app hm', jkO ?_⟩
            clear hm hm'
            refine jo_f [(0, 0), (0, 0), (0, 0), (0, 0), (0, 0)] (by kernel_rfl) ?_
            refine jo_end (by kernel_rfl) ?_
            refine jx_then ?_
            refine jc_seq ?_
            refine jc_seq ?_
            refine jc_region ?_
            refine jo_f [(0, 0), (0, 0), (0, 0), (0, 1), (0, 1), (0, 0), (0, 0), (0, 1), (0, 1), (0, 0)] (by kernel_rfl) ?_
            refine jo_end (by kernel_rfl) ?_
            refine jx_then ?_
            refine jc_cond (((!t_13.2) || (!t_15.2)) || (!t_17.2)) (by kernel_rfl) (fun hc_666 => ?_) (fun hc_666 => ?_)
            · replace h := ifT hc_666 h
              refine jc_seq ?_
              refine jc_region ?_
              refine toO (by kernel_rfl) (p_a 0 [0] (by kernel_rfl) (fun b => by kernel_rfl) (fun b_667 => jkO ?_))
              refine jo_f [(0, 0), (0, 0)] (by kernel_rfl) ?_
              refine jo_end (by kernel_rfl) ?_
              refine jx_then ?_
              refine jc_ret ?_
              refine jx_thenr ?_
              refine jx_inr ?_
              refine jx_thenr ?_
              refine jx_leaver (.inl (([] : List GChoice), 5)) (Option.some.inj h).symm (fun e_668 => ?_)
              subst e_668
              refine jx_inr ?_
              refine jx_thenr ?_
              refine jx_thenr ?_
              obtain rfl := Option.some.inj hr_624
              exact jx_ret [] (.tuple #[(.slice (some ⟨b_667, 0, none⟩) 0 0), (.int .i64 5)]) [] rfl (by kernel_rfl) (by kernel_rfl) (fun w hm => ⟨(some b_667), 0, [], 0, rfl, (fun _ => ⟨Nat.le_refl _, by simp⟩), (fun e => nomatch e), rfl, hm.pick [3] (by kernel_rfl) (by kernel_rfl)⟩)
            · replace h := ifF hc_666 h
              refine jc_skip ?_
              refine jx_then ?_
              refine jc_region ?_
              refine jo_f [(0, 0), (0, 0), (0, 0), (0, 0), (0, 0)] (by kernel_rfl) ?_
              refine toO (by kernel_rfl) (p_a 0 [0] (by kernel_rfl) (fun b => by kernel_rfl) (fun b_669 => jkO ?_))
              obtain ⟨hg_670, h⟩ := gd h
              refine toO (by kernel_rfl) (p_apn 0 0 o_618 77 xs_5.length 1 cap_619 4 4 (some ⟨b_669, 0, none⟩) encGChoice xs_5 [(⟨false, t_13.1, t_15.1, t_17.1⟩ : GChoice)] sp_620 (.agg #[(.bool false), (.int .i8 0), (.int .i8 0), (.int .i8 0)]) rfl rfl (by kernel_rfl) (by kernel_rfl) (by kernel_rfl) encGChoice_len encGChoice_cell hs_622 ho_623 (fun w hm => (hm.ownRow (hh := 3) (o := (some b_669)) (T := 77) (enc := encGChoice) (xs := [(⟨false, t_13.1, t_15.1, t_17.1⟩ : GChoice)]) (sp := []) (by kernel_rfl) (fun e => nomatch e) encGChoice_len)) hg_670 (by kernel_rfl) (by kernel_rfl) (fun o_671 cap_672 sp_673 hs_674 ho_675 => jkO ?_))
              refine jo_f [(0, 0)] (by kernel_rfl) ?_
              refine jo_end (by kernel_rfl) ?_
              refine jx_inn ?_
              refine jx_then ?_
              refine jc_region ?_
              refine jo_f [(0, 0), (0, 0), (0, 0)] (by kernel_rfl) ?_
              refine jo_end (by kernel_rfl) ?_
              exact jx_back ((xs_5 ++ [(⟨false, t_13.1, t_15.1, t_17.1⟩ : GChoice)]), (w64 (i_6 + 1))) ⟨o_671, cap_672, sp_673, (xs_5 ++ [(⟨false, t_13.1, t_15.1, t_17.1⟩ : GChoice)]).length⟩ (Option.some.inj h).symm ⟨rfl, hs_674, ho_675⟩ [0, 1] (by kernel_rfl) (by kernel_rfl) (by kernel_rfl)
      · replace h := ifF hc_627 h
        refine jc_exit ?_
        refine jx_thenx ?_
        refine jx_leave (.inr xs_5) (Option.some.inj h).symm (fun e_676 => ?_)
        subst e_676
        refine jx_ine ?_
        exact jx_meet ⟨xs_5, o_618, cap_619, sp_620, xs_5.length⟩ ⟨hr_624, rfl, hs_622, ho_623⟩ (by kernel_rfl) [0, 1] (by kernel_rfl) (by kernel_rfl)
    · rintro ⟨xs_2, o_502, cap_503, sp_504, n_505⟩ ⟨h, rfl, hs_506, ho_507⟩
      replace h : spec_ReadChoices.k_3 xs_2 = some r := h
      rw [spec_ReadChoices.k_3] at h
      refine jx_then ?_
      refine jc_seq ?_
      refine jc_seq ?_
      refine jc_region ?_
      refine jo_f [(0, 0)] (by kernel_rfl) ?_
      obtain ⟨t_4, ht_513, h⟩ := bd h
      refine toO (by kernel_rfl) (p_call 0 43 #[(.slice (o_502.map fun b => ⟨b, 0, none⟩) xs_2.length cap_503)] (by kernel_rfl) (by kernel_rfl) (fun w hm => spec_l07Choices.calls xs_2 w _ (o_502.map fun b => ⟨b, 0, none⟩) xs_2.length cap_503 (hm.ownRow (hh := 0) (o := o_502) (T := 77) (enc := encGChoice) (xs := xs_2) (sp := sp_504) (by kernel_rfl) (fun e => (ho_507 e).1) encGChoice_len) rfl ht_513) ?_)
      rintro w v w' hm ⟨rfl, hm'⟩
      refine ⟨_, hm.app hm', jkO ?_⟩
      clear hm hm'
      refine jo_f [(0, 0), (0, 0), (0, 1), (0, 1), (0, 1), (0, 0)] (by kernel_rfl) ?_
      refine jo_end (by kernel_rfl) ?_
      refine jx_then ?_
      refine jc_cond ((!t_4) || (decide ((xs_2.length : Int) > 120))) (by kernel_rfl) (fun hc_514 => ?_) (fun hc_514 => ?_)
      · replace h := ifT hc_514 h
        refine jc_seq ?_
        refine jc_region ?_
        refine toO (by kernel_rfl) (p_a 0 [0] (by kernel_rfl) (fun b => by kernel_rfl) (fun b_515 => jkO ?_))
        refine jo_f [(0, 0), (0, 0)] (by kernel_rfl) ?_
        refine jo_end (by kernel_rfl) ?_
        refine jx_then ?_
        refine jc_ret ?_
        refine jx_thenr ?_
        obtain rfl := Option.some.inj h
        exact jx_ret [] (.tuple #[(.slice (some ⟨b_515, 0, none⟩) 0 0), (.int .i64 5)]) [] rfl (by kernel_rfl) (by kernel_rfl) (fun w hm => ⟨(some b_515), 0, [], 0, rfl, (fun _ => ⟨Nat.le_refl _, by simp⟩), (fun e => nomatch e), rfl, hm.pick [2] (by kernel_rfl) (by kernel_rfl)⟩)
      · replace h := ifF hc_514 h
        refine jc_skip ?_
        refine jx_then ?_
        refine jc_seq ?_
        refine jc_region ?_
        refine jo_f [(0, 0), (0, 0), (0, 0)] (by kernel_rfl) ?_
        refine jo_end (by kernel_rfl) ?_
        refine jx_then ?_
        refine jc_ret ?_
        obtain rfl := Option.some.inj h
        exact jx_ret [] (.tuple #[(.slice (o_502.map fun b => ⟨b, 0, none⟩) xs_2.length cap_503), (.int .i64 0)]) [] rfl (by kernel_rfl) (by kernel_rfl) (fun w hm => ⟨o_502, cap_503, sp_504, xs_2.length, rfl, hs_506, ho_507, rfl, hm.pick [0] (by kernel_rfl) (by kernel_rfl)⟩)

/-! ### impl.readSigned -/
noncomputable def impl_readSigned (s0 : ByteArray) (most1 : Int) : Option (Int × Bool) := (strings_CutPrefix s0 (ByteArray.mk #[45])).bind fun t_1 => (impl_number t_1.1 most1).bind fun t_2 => (if t_1.2 = true then some ((w64 (0 - t_2.1)), (t_2.2 && (decide (t_2.1 > 0)))) else some (t_2.1, t_2.2))
set_option maxRecDepth 100000 in
theorem impl_readSigned.calls (s0 : ByteArray) (most1 : Int) (w : World) (r : Int × Bool) (g_er : Gler w) (g_pw : Glpw w) (h : impl_readSigned s0 most1 = some r) :
    Calls Tryd.prog 62 #[(.string s0), (.int .i64 most1)] w fun e w' => ∃ v, e = .returned v ∧ (v = .tuple #[(.int .i64 r.1), (.bool r.2)] ∧ Mem w [] [] w') := by
  rw [impl_readSigned] at h
  refine enter (args := [(.string s0), (.int .i64 most1)]) Tryd.func62 rfl Tryd.ntmps62 (by kernel_rfl) (L := []) (W := []) (Mem.start w) ?_
  refine jc_seq ?_
  refine jc_region ?_
  refine jo_f [(0, 0), (0, 0)] (by kernel_rfl) ?_
  refine jo_end (by kernel_rfl) ?_
  refine jx_then ?_
  refine jc_seq ?_
  refine jc_region ?_
  refine jo_f [(0, 0)] (by kernel_rfl) ?_
  obtain ⟨t_1, ht_1, h⟩ := bd h
  refine toO (by kernel_rfl) (p_call 0 53 #[(.string s0), (.string (ByteArray.mk #[45]))] (by kernel_rfl) (by kernel_rfl) (fun w hm => strings_CutPrefix.calls s0 (ByteArray.mk #[45]) w _ ht_1) ?_)
  rintro w v w' hm ⟨rfl, hm'⟩
  refine ⟨_, hm.app hm', jkO ?_⟩
  clear hm hm'
  refine jo_f [(0, 0), (0, 0), (0, 0), (0, 0), (0, 0)] (by kernel_rfl) ?_
  refine jo_end (by kernel_rfl) ?_
  refine jx_then ?_
  refine jc_seq ?_
  refine jc_region ?_
  refine jo_f [(0, 0), (0, 0)] (by kernel_rfl) ?_
  obtain ⟨t_2, ht_2, h⟩ := bd h
  refine toO (by kernel_rfl) (p_call 0 55 #[(.string t_1.1), (.int .i64 most1)] (by kernel_rfl) (by kernel_rfl) (fun w hm => impl_number.calls t_1.1 most1 w _ (g_er.keep hm) (g_pw.keep hm) ht_2) ?_)
  rintro w v w' hm ⟨rfl, hm'⟩
  refine ⟨_, hm.app hm', jkO ?_⟩
  clear hm hm'
  refine jo_f [(0, 0), (0, 0), (0, 0), (0, 0), (0, 0)] (by kernel_rfl) ?_
  refine jo_end (by kernel_rfl) ?_
  refine jx_then ?_
  refine jc_seq ?_
  refine jc_seq ?_
  refine jc_region ?_
  refine jo_f [(0, 0)] (by kernel_rfl) ?_
  refine jo_end (by kernel_rfl) ?_
  refine jx_then ?_
  refine jc_cond t_1.2 (by kernel_rfl) (fun hc_4 => ?_) (fun hc_4 => ?_)
  · replace h := ifT hc_4 h
    refine jc_seq ?_
    refine jc_region ?_
    refine jo_f [(0, 0), (0, 0), (0, 0), (0, 0), (0, 1), (0, 1), (0, 0), (0, 0), (0, 0)] (by kernel_rfl) ?_
    refine jo_end (by kernel_rfl) ?_
    refine jx_then ?_
    refine jc_ret ?_
    refine jx_thenr ?_
    obtain rfl := Option.some.inj h
    exact jx_ret [] (.tuple #[(.int .i64 (w64 (0 - t_2.1))), (.bool (t_2.2 && (decide (t_2.1 > 0))))]) [] rfl (by kernel_rfl) (by kernel_rfl) (fun w hm => ⟨rfl, hm.pick [] (by kernel_rfl) (by kernel_rfl)⟩)
  · replace h := ifF hc_4 h
    refine jc_skip ?_
    refine jx_then ?_
    refine jc_seq ?_
    refine jc_region ?_
    refine jo_f [(0, 0), (0, 0), (0, 0), (0, 0)] (by kernel_rfl) ?_
    refine jo_end (by kernel_rfl) ?_
    refine jx_then ?_
    refine jc_ret ?_
    obtain rfl := Option.some.inj h
    exact jx_ret [] (.tuple #[(.int .i64 t_2.1), (.bool t_2.2)]) [] rfl (by kernel_rfl) (by kernel_rfl) (fun w hm => ⟨rfl, hm.pick [] (by kernel_rfl) (by kernel_rfl)⟩)

/-! ### impl.ReadChoices -/
noncomputable def impl_ReadChoices.k_3 (text0 : ByteArray) (xs_2 : List GChoice) : Option ((List GChoice) × Int) := (impl_ChoicesText xs_2).bind fun t_4 => (if (!(t_4.toList == text0.toList)) = true then some ([], 5) else some (xs_2, 0))
noncomputable def impl_ReadChoices.k_14 (xs_5 : List GChoice) (i_6 : Int) (q_10 : Bool) (i_11 : Int) (i_12 : Int) (i_13 : Int) : Option (((List GChoice) × Int) ⊕ (((List GChoice) × Int) ⊕ (List GChoice))) := (if xs_5.length + [(⟨q_10, i_11, i_12, i_13⟩ : GChoice)].length ≤ 4294967296 then some (.inl ((xs_5 ++ [(⟨q_10, i_11, i_12, i_13⟩ : GChoice)]), (w64 (i_6 + 1)))) else none)
noncomputable def impl_ReadChoices.l_7 (t_1 : (List ByteArray)) : ((List GChoice) × Int) → Option (((List GChoice) × Int) ⊕ (((List GChoice) × Int) ⊕ (List GChoice)))
  | (xs_5, i_6) => (if (decide (i_6 < (t_1.length : Int))) = true then (ix t_1 i_6).bind fun x_9 => (if (!(x_9.toList == (ByteArray.mk #[120]).toList)) = true then (strings_Split x_9 (ByteArray.mk #[47])).bind fun t_15 => (if ((t_15.length : Int) != 3) = true then some (.inr (.inl ([], 5))) else (ix t_15 0).bind fun x_16 => (impl_readSigned x_16 3).bind fun t_17 => (ix t_15 1).bind fun x_18 => (impl_readSigned x_18 1).bind fun t_19 => (ix t_15 2).bind fun x_20 => (impl_number x_20 23).bind fun t_21 => (if (((!t_17.2) || (!t_19.2)) || (!t_21.2)) = true then some (.inr (.inl ([], 5))) else impl_ReadChoices.k_14 xs_5 i_6 false (w8 t_17.1) (w8 t_19.1) (w8 t_21.1))) else impl_ReadChoices.k_14 xs_5 i_6 true 0 0 0) else some (.inr (.inr xs_5)))
noncomputable def impl_ReadChoices (text0 : ByteArray) : Option ((List GChoice) × Int) := (if (text0.toList == (ByteArray.mk #[]).toList) = true then some (([] : List GChoice), 0) else (strings_Split text0 (ByteArray.mk #[32])).bind fun t_1 => (loop (impl_ReadChoices.l_7 t_1) (([] : List GChoice), 0)).bind fun t_8 => match t_8 with | .inl p => some p | .inr p => impl_ReadChoices.k_3 text0 p)
set_option maxRecDepth 100000 in
set_option maxHeartbeats 8000000 in
theorem impl_ReadChoices.calls (text0 : ByteArray) (w : World) (r : (List GChoice) × Int) (g_er : Gler w) (g_ml : Glml w) (g_pw : Glpw w) (h : impl_ReadChoices text0 = some r) :
    Calls Tryd.prog 28 #[(.string text0)] w fun e w' => ∃ v, e = .returned v ∧ (∃ (o0 : Option Nat) (c0 : Nat) (s0 : List Value) (n0 : Nat), r.1.length = n0 ∧ (o0 ≠ none → n0 ≤ c0 ∧ s0.length = (c0 - n0) * 4) ∧ (o0 = none → r.1 = [] ∧ c0 = 0) ∧ v = .tuple #[.slice (o0.map fun b => ⟨b, 0, none⟩) n0 c0, (.int .i64 r.2)] ∧ Mem w [] [⟨o0, 77, row encGChoice r.1 s0⟩] w') := by
  rw [impl_ReadChoices] at h
  refine enter (args := [(.string text0)]) Tryd.func28 rfl Tryd.ntmps28 (by kernel_rfl) (L := []) (W := []) (Mem.start w) ?_
  refine jc_seq ?_
  refine jc_region ?_
  refine jo_f [(0, 0), (0, 0)] (by kernel_rfl) ?_
  refine jo_end (by kernel_rfl) ?_
  refine jx_then ?_
  refine jc_seq ?_
  refine jc_region ?_
  refine toO (by kernel_rfl) (p_a 0 [0] (by kernel_rfl) (fun b => by kernel_rfl) (fun b_1 => jkO ?_))
  refine jo_f [(0, 0)] (by kernel_rfl) ?_
  refine jo_end (by kernel_rfl) ?_
  refine jx_then ?_
  refine jc_seq ?_
  refine jc_seq ?_
  refine jc_region ?_
  refine jo_f [(0, 0), (0, 0)] (by kernel_rfl) ?_
  refine jo_end (by kernel_rfl) ?_
  refine jx_then ?_
  refine jc_cond (text0.toList == (ByteArray.mk #[]).toList) (by kernel_rfl) (fun hc_3 => ?_) (fun hc_3 => ?_)
  · replace h := ifT hc_3 h
    refine jc_seq ?_
    refine jc_region ?_
    refine jo_f [(0, 0), (0, 0), (0, 0)] (by kernel_rfl) ?_
    refine jo_end (by kernel_rfl) ?_
    refine jx_then ?_
    refine jc_ret ?_
    refine jx_thenr ?_
    obtain rfl := Option.some.inj h
    exact jx_ret [] (.tuple #[(.slice (some ⟨b_1, 0, none⟩) 0 0), (.int .i64 0)]) [] rfl (by kernel_rfl) (by kernel_rfl) (fun w hm => ⟨(some b_1), 0, [], 0, rfl, (fun _ => ⟨Nat.le_refl _, by simp⟩), (fun e => nomatch e), rfl, hm.pick [0] (by kernel_rfl) (by kernel_rfl)⟩)
  · replace h := ifF hc_3 h
    refine jc_skip ?_
    refine jx_then ?_
    refine jc_seq ?_
    refine jc_seq ?_
    refine jc_region ?_
    refine jo_f [(0, 0)] (by kernel_rfl) ?_
    obtain ⟨t_1, ht_322, h⟩ := bd h
    refine toO (by kernel_rfl) (p_call 0 52 #[(.string text0), (.string (ByteArray.mk #[32]))] (by kernel_rfl) (by kernel_rfl) (fun w hm => strings_Split.calls text0 (ByteArray.mk #[32]) w _ (g_ml.keep hm) ht_322) ?_)
    rintro w v w' hm ⟨o_323, cap_324, sp_325, _, rfl, hs_326, ho_327, rfl, hm'⟩
    refine ⟨_, hm.app hm', jkO ?_⟩
    clear hm hm'
    refine jo_f [(0, 0), (0, 0)] (by kernel_rfl) ?_
    refine jo_end (by kernel_rfl) ?_
    refine jx_then ?_
    refine jc_meet (fun (j : (List GChoice) × (Option Nat) × Nat × (List Value) × Nat) => match j with | ⟨xs_2, o_481, cap_482, sp_483, n_484⟩ => impl_ReadChoices.k_3 text0 xs_2 = some r ∧ (xs_2.length = n_484) ∧ ((o_481 ≠ none → n_484 ≤ cap_482 ∧ sp_483.length = (cap_482 - n_484) * 4)) ∧ ((o_481 = none → xs_2 = [] ∧ cap_482 = 0))) (fun (j : (List GChoice) × (Option Nat) × Nat × (List Value) × Nat) => match j with | ⟨xs_2, o_481, cap_482, sp_483, n_484⟩ => [(0, [], (.string text0)), (2, [], (.slice none 0 0)), (3, [], (.int .i64 0)), (4, [], (.slice (o_481.map fun b => ⟨b, 0, none⟩) n_484 cap_482))]) (fun (j : (List GChoice) × (Option Nat) × Nat × (List Value) × Nat) => match j with | ⟨xs_2, o_481, cap_482, sp_483, n_484⟩ => [⟨o_481, 77, row encGChoice xs_2 sp_483⟩, ⟨o_323, 9, row encStr t_1 sp_325⟩]) ?_ ?_
    · refine jc_block ?_
      obtain ⟨t_8, ht_643, hr_593⟩ := bd h
      refine jc_loop (fun (s : (List GChoice) × Int) (x : (Option Nat) × Nat × (List Value) × Nat) => match s, x with | ⟨xs_5, i_6⟩, ⟨o_587, cap_588, sp_589, n_590⟩ => (xs_5.length = n_590) ∧ ((o_587 ≠ none → n_590 ≤ cap_588 ∧ sp_589.length = (cap_588 - n_590) * 4)) ∧ ((o_587 = none → xs_5 = [] ∧ cap_588 = 0))) (fun (s : (List GChoice) × Int) (x : (Option Nat) × Nat × (List Value) × Nat) => match s, x with | ⟨xs_5, i_6⟩, ⟨o_587, cap_588, sp_589, n_590⟩ => [(0, [], (.string text0)), (2, [], (.slice none 0 0)), (3, [], (.int .i64 0)), (4, [], (.slice (o_587.map fun b => ⟨b, 0, none⟩) n_590 cap_588)), (20, [], (.slice (o_323.map fun b => ⟨b, 0, none⟩) t_1.length cap_324)), (21, [], (.int .i64 (t_1.length : Int))), (22, [], (.int .i64 i_6))]) (fun (s : (List GChoice) × Int) (x : (Option Nat) × Nat × (List Value) × Nat) => match s, x with | ⟨xs_5, i_6⟩, ⟨o_587, cap_588, sp_589, n_590⟩ => [⟨o_587, 77, row encGChoice xs_5 sp_589⟩, ⟨o_323, 9, row encStr t_1 sp_325⟩]) ht_643 ⟨(some b_1), 0, [], 0⟩ ⟨rfl, (fun _ => ⟨Nat.le_refl _, by simp⟩), (fun e => nomatch e)⟩ (by kernel_rfl) [0, 1] (by kernel_rfl) (by kernel_rfl) ?_
      rintro ⟨xs_5, i_6⟩ ⟨o_587, cap_588, sp_589, n_590⟩ y_594 ⟨rfl, hs_591, ho_592⟩ h
      rw [impl_ReadChoices.l_7] at h
      refine jc_seq ?_
      refine jc_region ?_
      refine jo_f [(0, 0)] (by kernel_rfl) ?_
      refine jo_end (by kernel_rfl) ?_
      refine jx_then ?_
      refine jc_seq ?_
      refine jc_cond (decide (i_6 < (t_1.length : Int))) (by kernel_rfl) (fun hc_596 => ?_) (fun hc_596 => ?_)
      · replace h := ifT hc_596 h
        refine jc_skip ?_
        refine jx_then ?_
        refine jc_seq ?_
        refine jc_block ?_
        refine jc_seq ?_
        refine jc_region ?_
        obtain ⟨x_9, hx_597, h⟩ := bd h
        refine toO (by kernel_rfl) (p_idx 0 (o_323.map fun b => ⟨b, 0, none⟩) t_1.length i_6 1 (by kernel_rfl) (by kernel_rfl) (ix_some hx_597).1 (ltn hx_597 rfl) (spo ho_327 hx_597) (jkO ?_))
        refine toO (by kernel_rfl) (p_ld 0 (aB (o_323.map fun b => ⟨b, 0, none⟩)) (aO (o_323.map fun b => ⟨b, 0, none⟩) + i_6.toNat * 1) false (encStr x_9) (by kernel_rfl) (by kernel_rfl) (by kernel_rfl) (fun w hm => ((hm.ownRow (hh := 1) (o := o_323) (T := 9) (enc := encStr) (xs := t_1) (sp := sp_325) (by kernel_rfl) (fun e => (ho_327 e).1) encStr_len).at hx_597)) (jkO ?_))
        refine jo_f [(0, 0)] (by kernel_rfl) ?_
        refine jo_end (by kernel_rfl) ?_
        refine jx_then ?_
        refine jc_seq ?_
        refine jc_region ?_
        refine jo_f [(0, 0)] (by kernel_rfl) ?_
        refine toO (by kernel_rfl) (p_a 0 [0] (by kernel_rfl) (fun b => by kernel_rfl) (fun b_598 => jkO ?_))
        refine toO (by kernel_rfl) (p_s 0 [2] (by kernel_rfl) (by kernel_rfl) (jkO ?_))
        refine jo_end (by kernel_rfl) ?_
        refine jx_then ?_
        refine jc_seq ?_
        refine jc_meet (fun (j : Bool × Int × Int × Int) => match j with | ⟨q_10, i_11, i_12, i_13⟩ => impl_ReadChoices.k_14 xs_5 i_6 q_10 i_11 i_12 i_13 = some y_594) (fun (j : Bool × Int × Int × Int) => match j with | ⟨q_10, i_11, i_12, i_13⟩ => [(0, [], (.string text0)), (2, [], (.slice none 0 0)), (3, [], (.int .i64 0)), (4, [], (.slice (o_587.map fun b => ⟨b, 0, none⟩) xs_5.length cap_588)), (7, [], (.pointer (some ⟨b_598, 0, none⟩))), (20, [], (.slice (o_323.map fun b => ⟨b, 0, none⟩) t_1.length cap_324)), (21, [], (.int .i64 (t_1.length : Int))), (22, [], (.int .i64 i_6))]) (fun (j : Bool × Int × Int × Int) => match j with | ⟨q_10, i_11, i_12, i_13⟩ => [⟨o_587, 77, row encGChoice xs_5 sp_589⟩, ⟨o_323, 9, row encStr t_1 sp_325⟩, ⟨some b_598, 77, [(.bool q_10), (.int .i8 i_11), (.int .i8 i_12), (.int .i8 i_13)]⟩]) ?_ ?_
        · refine jc_seq ?_
          refine jc_region ?_
          refine jo_f [(0, 0), (0, 0)] (by kernel_rfl) ?_
          refine jo_end (by kernel_rfl) ?_
          refine jx_then ?_
          refine jc_cond (!(x_9.toList == (ByteArray.mk #[120]).toList)) (by kernel_rfl) (fun hc_623 => ?_) (fun hc_623 => ?_)
          · replace h := ifT hc_623 h
            refine jc_seq ?_
            refine jc_region ?_
            refine jo_f [(0, 0)] (by kernel_rfl) ?_
            obtain ⟨t_15, ht_624, h⟩ := bd h
            refine toO (by kernel_rfl) (p_call 0 52 #[(.string x_9), (.string (ByteArray.mk #[47]))] (by kernel_rfl) (by kernel_rfl) (fun w hm => strings_Split.calls x_9 (ByteArray.mk #[47]) w _ (g_ml.keep hm) ht_624) ?_)
            rintro w v w' hm ⟨o_625, cap_626, sp_627, _, rfl, hs_628, ho_629, rfl, hm'⟩
            refine ⟨_, hm.app hm', jkO ?_⟩
            clear hm hm'
            refine jo_f [(0, 0)] (by kernel_rfl) ?_
            refine jo_end (by kernel_rfl) ?_
            refine jx_then ?_
            refine jc_seq ?_
            refine jc_seq ?_
            refine jc_region ?_
            refine jo_f [(0, 0), (0, 0), (0, 0)] (by kernel_rfl) ?_
            refine jo_end (by kernel_rfl) ?_
            refine jx_then ?_
            refine jc_cond ((t_15.length : Int) != 3) (by kernel_rfl) (fun hc_631 => ?_) (fun hc_631 => ?_)
            · replace h := ifT hc_631 h
              refine jc_seq ?_
              refine jc_region ?_
              refine jo_f [(0, 0), (0, 0)] (by kernel_rfl) ?_
              refine jo_end (by kernel_rfl) ?_
              refine jx_then ?_
              refine jc_ret ?_
              refine jx_thenr ?_
              refine jx_thenr ?_
              refine jx_thenr ?_
              refine jx_inr ?_
              refine jx_thenr ?_
              refine jx_leaver (.inl ([], 5)) (Option.some.inj h).symm (fun e_632 => ?_)
              subst e_632
              refine jx_inr ?_
              refine jx_thenr ?_
              refine jx_thenr ?_
              obtain rfl := Option.some.inj hr_593
              refine jx_ghost 77 encGChoice ?_
              exact jx_ret [] (.tuple #[(.slice none 0 0), (.int .i64 5)]) [] rfl (by kernel_rfl) (by kernel_rfl) (fun w hm => ⟨none, 0, [], 0, rfl, (fun e => absurd rfl e), (fun _ => ⟨rfl, rfl⟩), rfl, hm.pick [4] (by kernel_rfl) (by kernel_rfl)⟩)
            · replace h := ifF hc_631 h
              refine jc_skip ?_
              refine jx_then ?_
              refine jc_seq ?_
              refine jc_region ?_
              refine jo_f [(0, 0)] (by kernel_rfl) ?_
              obtain ⟨x_16, hx_633, h⟩ := bd h
              refine toO (by kernel_rfl) (p_idx 0 (o_625.map fun b => ⟨b, 0, none⟩) t_15.length 0 1 (by kernel_rfl) (by kernel_rfl) (ix_some hx_633).1 (ltn hx_633 rfl) (spo ho_629 hx_633) (jkO ?_))
              refine toO (by kernel_rfl) (p_ld 0 (aB (o_625.map fun b => ⟨b, 0, none⟩)) (aO (o_625.map fun b => ⟨b, 0, none⟩) + (0 : Int).toNat * 1) false (encStr x_16) (by kernel_rfl) (by kernel_rfl) (by kernel_rfl) (fun w hm => ((hm.ownRow (hh := 3) (o := o_625) (T := 9) (enc := encStr) (xs := t_15) (sp := sp_627) (by kernel_rfl) (fun e => (ho_629 e).1) encStr_len).at hx_633)) (jkO ?_))
              obtain ⟨t_17, ht_634, h⟩ := bd h
              refine toO (by kernel_rfl) (p_call 0 62 #[(.string x_16), (.int .i64 3)] (by kernel_rfl) (by kernel_rfl) (fun w hm => impl_readSigned.calls x_16 3 w _ (g_er.keep hm) (g_pw.keep hm) ht_634) ?_)
              rintro w v w' hm ⟨rfl, hm'⟩
              refine ⟨_, hm.app hm', jkO ?_⟩
              clear hm hm'
              refine jo_f [(0, 0), (0, 0), (0, 0), (0, 0), (0, 0)] (by kernel_rfl) ?_
              refine jo_end (by kernel_rfl) ?_
              refine jx_then ?_
              refine jc_seq ?_
              refine jc_region ?_
              refine jo_f [(0, 0)] (by kernel_rfl) ?_
              obtain ⟨x_18, hx_635, h⟩ := bd h
              refine toO (by kernel_rfl) (p_idx 0 (o_625.map fun b => ⟨b, 0, none⟩) t_15.length 1 1 (by kernel_rfl) (by kernel_rfl) (ix_some hx_635).1 (ltn hx_635 rfl) (spo ho_629 hx_635) (jkO ?_))
              refine toO (by kernel_rfl) (p_ld 0 (aB (o_625.map fun b => ⟨b, 0, none⟩)) (aO (o_625.map fun b => ⟨b, 0, none⟩) + (1 : Int).toNat * 1) false (encStr x_18) (by kernel_rfl) (by kernel_rfl) (by kernel_rfl) (fun w hm => ((hm.ownRow (hh := 3) (o := o_625) (T := 9) (enc := encStr) (xs := t_15) (sp := sp_627) (by kernel_rfl) (fun e => (ho_629 e).1) encStr_len).at hx_635)) (jkO ?_))
              obtain ⟨t_19, ht_636, h⟩ := bd h
              refine toO (by kernel_rfl) (p_call 0 62 #[(.string x_18), (.int .i64 1)] (by kernel_rfl) (by kernel_rfl) (fun w hm => impl_readSigned.calls x_18 1 w _ (g_er.keep hm) (g_pw.keep hm) ht_636) ?_)
              rintro w v w' hm ⟨rfl, hm'⟩
              refine ⟨_, hm.app hm', jkO ?_⟩
              clear hm hm'
              refine jo_f [(0, 0), (0, 0), (0, 0), (0, 0), (0, 0)] (by kernel_rfl) ?_
              refine jo_end (by kernel_rfl) ?_
              refine jx_then ?_
              refine jc_seq ?_
              refine jc_region ?_
              refine jo_f [(0, 0)] (by kernel_rfl) ?_
              obtain ⟨x_20, hx_637, h⟩ := bd h
              refine toO (by kernel_rfl) (p_idx 0 (o_625.map fun b => ⟨b, 0, none⟩) t_15.length 2 1 (by kernel_rfl) (by kernel_rfl) (ix_some hx_637).1 (ltn hx_637 rfl) (spo ho_629 hx_637) (jkO ?_))
              refine toO (by kernel_rfl) (p_ld 0 (aB (o_625.map fun b => ⟨b, 0, none⟩)) (aO (o_625.map fun b => ⟨b, 0, none⟩) + (2 : Int).toNat * 1) false (encStr x_20) (by kernel_rfl) (by kernel_rfl) (by kernel_rfl) (fun w hm => ((hm.ownRow (hh := 3) (o := o_625) (T := 9) (enc := encStr) (xs := t_15) (sp := sp_627) (by kernel_rfl) (fun e => (ho_629 e).1) encStr_len).at hx_637)) (jkO ?_))
              obtain ⟨t_21, ht_638, h⟩ := bd h
              refine toO (by kernel_rfl) (p_call 0 55 #[(.string x_20), (.int .i64 23)] (by kernel_rfl) (by kernel_rfl) (fun w hm => impl_number.calls x_20 23 w _ (g_er.keep hm) (g_pw.keep hm) ht_638) ?_)
              rintro w v w' hm ⟨rfl, hm'⟩
              refine ⟨_, hm.app hm', jkO ?_⟩
              clear hm hm'
              refine jo_f [(0, 0), (0, 0), (0, 0), (0, 0), (0, 0)] (by kernel_rfl) ?_
              refine jo_end (by kernel_rfl) ?_
              refine jx_then ?_
              refine jc_seq ?_
              refine jc_seq ?_
              refine jc_region ?_
              refine jo_f [(0, 0), (0, 0), (0, 0), (0, 1), (0, 1), (0, 0), (0, 0), (0, 1), (0, 1), (0, 0)] (by kernel_rfl) ?_
              refine jo_end (by kernel_rfl) ?_
              refine jx_then ?_
              refine jc_cond (((!t_17.2) || (!t_19.2)) || (!t_21.2)) (by kernel_rfl) (fun hc_640 => ?_) (fun hc_640 => ?_)
              · replace h := ifT hc_640 h
                refine jc_seq ?_
                refine jc_region ?_
                refine jo_f [(0, 0), (0, 0)] (by kernel_rfl) ?_
                refine jo_end (by kernel_rfl) ?_
                refine jx_then ?_
                refine jc_ret ?_
                refine jx_thenr ?_
                refine jx_thenr ?_
                refine jx_thenr ?_
                refine jx_inr ?_
                refine jx_thenr ?_
                refine jx_leaver (.inl ([], 5)) (Option.some.inj h).symm (fun e_641 => ?_)
                subst e_641
                refine jx_inr ?_
                refine jx_thenr ?_
                refine jx_thenr ?_
                obtain rfl := Option.some.inj hr_593
                refine jx_ghost 77 encGChoice ?_
                exact jx_ret [] (.tuple #[(.slice none 0 0), (.int .i64 5)]) [] rfl (by kernel_rfl) (by kernel_rfl) (fun w hm => ⟨none, 0, [], 0, rfl, (fun e => absurd rfl e), (fun _ => ⟨rfl, rfl⟩), rfl, hm.pick [4] (by kernel_rfl) (by kernel_rfl)⟩)
              · replace h := ifF hc_640 h
                refine jc_skip ?_
                refine jx_then ?_
                refine jc_region ?_
                refine jo_f [(0, 0), (0, 0), (0, 0), (0, 0), (0, 0), (0, 0), (0, 0)] (by kernel_rfl) ?_
                refine toO (by kernel_rfl) (p_s 0 [2] (by kernel_rfl) (by kernel_rfl) (jkO ?_))
                refine jo_end (by kernel_rfl) ?_
                exact jx_meet ⟨false, (w8 t_17.1), (w8 t_19.1), (w8 t_21.1)⟩ h (by kernel_rfl) [0, 1, 2] (by kernel_rfl) (by kernel_rfl)
          · replace h := ifF hc_623 h
            refine jc_skip ?_
            exact jx_meet ⟨true, 0, 0, 0⟩ h (by kernel_rfl) [0, 1, 2] (by kernel_rfl) (by kernel_rfl)
        · rintro ⟨q_10, i_11, i_12, i_13⟩ h
          replace h : impl_ReadChoices.k_14 xs_5 i_6 q_10 i_11 i_12 i_13 = some y_594 := h
          rw [impl_ReadChoices.k_14] at h
          refine jx_then ?_
          refine jc_region ?_
          refine jo_f [(0, 0), (2, 0)] (by kernel_rfl) ?_
          refine toO (by kernel_rfl) (p_a 0 [0] (by kernel_rfl) (fun b => by kernel_rfl) (fun b_616 => jkO ?_))
          obtain ⟨hg_617, h⟩ := gd h
          refine toO (by kernel_rfl) (p_apn 0 0 o_587 77 xs_5.length 1 cap_588 4 4 (some ⟨b_616, 0, none⟩) encGChoice xs_5 [(⟨q_10, i_11, i_12, i_13⟩ : GChoice)] sp_589 (.agg #[(.bool false), (.int .i8 0), (.int .i8 0), (.int .i8 0)]) rfl rfl (by kernel_rfl) (by kernel_rfl) (by kernel_rfl) encGChoice_len encGChoice_cell hs_591 ho_592 (fun w hm => (hm.ownRow (hh := 3) (o := (some b_616)) (T := 77) (enc := encGChoice) (xs := [(⟨q_10, i_11, i_12, i_13⟩ : GChoice)]) (sp := []) (by kernel_rfl) (fun e => nomatch e) encGChoice_len)) hg_617 (by kernel_rfl) (by kernel_rfl) (fun o_618 cap_619 sp_620 hs_621 ho_622 => jkO ?_))
          refine jo_f [(0, 0)] (by kernel_rfl) ?_
          refine jo_end (by kernel_rfl) ?_
          refine jx_inn ?_
          refine jx_then ?_
          refine jc_region ?_
          refine jo_f [(0, 0), (0, 0)] (by kernel_rfl) ?_
          refine jo_end (by kernel_rfl) ?_
          exact jx_back ((xs_5 ++ [(⟨q_10, i_11, i_12, i_13⟩ : GChoice)]), (w64 (i_6 + 1))) ⟨o_618, cap_619, sp_620, (xs_5 ++ [(⟨q_10, i_11, i_12, i_13⟩ : GChoice)]).length⟩ (Option.some.inj h).symm ⟨rfl, hs_621, ho_622⟩ [0, 1] (by kernel_rfl) (by kernel_rfl) (by kernel_rfl)
      · replace h := ifF hc_596 h
        refine jc_exit ?_
        refine jx_thenx ?_
        refine jx_leave (.inr xs_5) (Option.some.inj h).symm (fun e_642 => ?_)
        subst e_642
        refine jx_ine ?_
        exact jx_meet ⟨xs_5, o_587, cap_588, sp_589, xs_5.length⟩ ⟨hr_593, rfl, hs_591, ho_592⟩ (by kernel_rfl) [0, 1] (by kernel_rfl) (by kernel_rfl)
    · rintro ⟨xs_2, o_481, cap_482, sp_483, n_484⟩ ⟨h, rfl, hs_485, ho_486⟩
      replace h : impl_ReadChoices.k_3 text0 xs_2 = some r := h
      rw [impl_ReadChoices.k_3] at h
      refine jx_then ?_
      refine jc_seq ?_
      refine jc_seq ?_
      refine jc_region ?_
      refine jo_f [(0, 0)] (by kernel_rfl) ?_
      obtain ⟨t_4, ht_489, h⟩ := bd h
      refine toO (by kernel_rfl) (p_call 0 16 #[(.slice (o_481.map fun b => ⟨b, 0, none⟩) xs_2.length cap_482)] (by kernel_rfl) (by kernel_rfl) (fun w hm => impl_ChoicesText.calls xs_2 w _ (g_pw.keep hm) (o_481.map fun b => ⟨b, 0, none⟩) xs_2.length cap_482 (hm.ownRow (hh := 0) (o := o_481) (T := 77) (enc := encGChoice) (xs := xs_2) (sp := sp_483) (by kernel_rfl) (fun e => (ho_486 e).1) encGChoice_len) rfl ht_489) ?_)
      rintro w v w' hm ⟨rfl, hm'⟩
      refine ⟨_, hm.app hm', jkO ?_⟩
      clear hm hm'
      refine jo_f [(0, 0), (0, 0)] (by kernel_rfl) ?_
      refine jo_end (by kernel_rfl) ?_
      refine jx_then ?_
      refine jc_cond (!(t_4.toList == text0.toList)) (by kernel_rfl) (fun hc_490 => ?_) (fun hc_490 => ?_)
      · replace h := ifT hc_490 h
        refine jc_seq ?_
        refine jc_region ?_
        refine jo_f [(0, 0), (0, 0)] (by kernel_rfl) ?_
        refine jo_end (by kernel_rfl) ?_
        refine jx_then ?_
        refine jc_ret ?_
        refine jx_thenr ?_
        obtain rfl := Option.some.inj h
        refine jx_ghost 77 encGChoice ?_
        exact jx_ret [] (.tuple #[(.slice none 0 0), (.int .i64 5)]) [] rfl (by kernel_rfl) (by kernel_rfl) (fun w hm => ⟨none, 0, [], 0, rfl, (fun e => absurd rfl e), (fun _ => ⟨rfl, rfl⟩), rfl, hm.pick [2] (by kernel_rfl) (by kernel_rfl)⟩)
      · replace h := ifF hc_490 h
        refine jc_skip ?_
        refine jx_then ?_
        refine jc_seq ?_
        refine jc_region ?_
        refine jo_f [(0, 0), (0, 0), (0, 0)] (by kernel_rfl) ?_
        refine jo_end (by kernel_rfl) ?_
        refine jx_then ?_
        refine jc_ret ?_
        obtain rfl := Option.some.inj h
        exact jx_ret [] (.tuple #[(.slice (o_481.map fun b => ⟨b, 0, none⟩) xs_2.length cap_482), (.int .i64 0)]) [] rfl (by kernel_rfl) (by kernel_rfl) (fun w hm => ⟨o_481, cap_482, sp_483, xs_2.length, rfl, hs_485, ho_486, rfl, hm.pick [0] (by kernel_rfl) (by kernel_rfl)⟩)

/-! ### laws.markChoiceS -/
noncomputable def laws_markChoiceS.k_3 (xs_1 : List GChoice) (i_2 : Int) : Option (Int × (List GChoice)) := some (i_2, xs_1)
noncomputable def laws_markChoiceS.l_7 (a0 : List GChoice) : ((List GChoice) × Int × Int) → Option (((List GChoice) × Int × Int) ⊕ (((List GChoice) × Int)))
  | (xs_4, i_5, i_6) => (if (decide (i_6 < (a0.length : Int))) = true then (ix xs_4 i_6).bind fun x_9 => (ix (xs_4.set i_6.toNat (⟨((Int.tmod i_5 3) == 0), x_9.fLate, x_9.fOctave, x_9.fTrack⟩ : GChoice)) i_6).bind fun x_10 => (ix ((xs_4.set i_6.toNat (⟨((Int.tmod i_5 3) == 0), x_9.fLate, x_9.fOctave, x_9.fTrack⟩ : GChoice)).set i_6.toNat (⟨x_10.fAway, (w8 (w64 (i_5 + 1))), x_10.fOctave, x_10.fTrack⟩ : GChoice)) i_6).bind fun x_11 => (ix (((xs_4.set i_6.toNat (⟨((Int.tmod i_5 3) == 0), x_9.fLate, x_9.fOctave, x_9.fTrack⟩ : GChoice)).set i_6.toNat (⟨x_10.fAway, (w8 (w64 (i_5 + 1))), x_10.fOctave, x_10.fTrack⟩ : GChoice)).set i_6.toNat (⟨x_11.fAway, x_11.fLate, (w8 (w64 ((w64 (i_5 + 1)) + 1))), x_11.fTrack⟩ : GChoice)) i_6).bind fun x_12 => some (.inl (((((xs_4.set i_6.toNat (⟨((Int.tmod i_5 3) == 0), x_9.fLate, x_9.fOctave, x_9.fTrack⟩ : GChoice)).set i_6.toNat (⟨x_10.fAway, (w8 (w64 (i_5 + 1))), x_10.fOctave, x_10.fTrack⟩ : GChoice)).set i_6.toNat (⟨x_11.fAway, x_11.fLate, (w8 (w64 ((w64 (i_5 + 1)) + 1))), x_11.fTrack⟩ : GChoice)).set i_6.toNat (⟨x_12.fAway, x_12.fLate, x_12.fOctave, (w8 (w64 ((w64 ((w64 (i_5 + 1)) + 1)) + 1)))⟩ : GChoice)), (w64 ((w64 ((w64 ((w64 (i_5 + 1)) + 1)) + 1)) + 1)), (w64 (i_6 + 1)))) else some (.inr (xs_4, i_5)))
noncomputable def laws_markChoiceS (a0 : List GChoice) (k1 : Int) : Option (Int × (List GChoice)) := (loop (laws_markChoiceS.l_7 a0) (a0, k1, 0)).bind fun t_8 => laws_markChoiceS.k_3 t_8.1 t_8.2
set_option maxRecDepth 100000 in
theorem laws_markChoiceS.calls (a0 : List GChoice) (k1 : Int) (w : World) (r : Int × (List GChoice)) (a0_o : Option Nat) (a0_on : Nat) (a0_c : Nat) (a0_sp : List Value) (a0_hn : a0.length = a0_on) (a0_hs : a0_o ≠ none → a0_on ≤ a0_c ∧ a0_sp.length = (a0_c - a0_on) * 4) (a0_ho : a0_o = none → a0 = [] ∧ a0_c = 0) (hm0 : Mem w (bs [a0_o]) [⟨a0_o, 77, row encGChoice a0 a0_sp⟩] w) (h : laws_markChoiceS a0 k1 = some r) :
    Calls Tryd.prog 29 #[(.slice (a0_o.map fun b => ⟨b, 0, none⟩) a0_on a0_c), (.int .i64 k1)] w fun e w' => ∃ v, e = .returned v ∧ (r.2.length = a0_on ∧ (a0_o = none → r.2 = [] ∧ a0_c = 0) ∧ v = (.int .i64 r.1) ∧ Mem w (bs [a0_o]) [⟨a0_o, 77, row encGChoice r.2 a0_sp⟩] w') := by
  subst a0_hn
  rw [laws_markChoiceS] at h
  refine enter (args := [(.slice (a0_o.map fun b => ⟨b, 0, none⟩) a0.length a0_c), (.int .i64 k1)]) Tryd.func29 rfl Tryd.ntmps29 (by kernel_rfl) (L := [⟨a0_o, 77, row encGChoice a0 a0_sp⟩]) (W := bs [a0_o]) hm0 ?_
  refine jc_seq ?_
  refine jc_region ?_
  refine jo_f [(0, 0)] (by kernel_rfl) ?_
  refine jo_end (by kernel_rfl) ?_
  refine jx_then ?_
  refine jc_seq ?_
  refine jc_seq ?_
  refine jc_region ?_
  refine jo_f [(0, 0)] (by kernel_rfl) ?_
  refine jo_end (by kernel_rfl) ?_
  refine jx_then ?_
  refine jc_meet (fun (j : (List GChoice) × Int) => match j with | ⟨xs_1, i_2⟩ => laws_markChoiceS.k_3 xs_1 i_2 = some r ∧ (xs_1.length = a0.length) ∧ ((a0_o = none → xs_1 = [] ∧ a0_c = 0))) (fun (j : (List GChoice) × Int) => match j with | ⟨xs_1, i_2⟩ => [(1, [], (.int .i64 i_2)), (4, [], (.int .i64 0))]) (fun (j : (List GChoice) × Int) => match j with | ⟨xs_1, i_2⟩ => [⟨a0_o, 77, row encGChoice xs_1 a0_sp⟩]) ?_ ?_
  · refine jc_block ?_
    obtain ⟨t_8, ht_108, hr_99⟩ := bd h
    refine jc_loop (fun (s : (List GChoice) × Int × Int) (x : Unit) => match s, x with | ⟨xs_4, i_5, i_6⟩, _ => (xs_4.length = a0.length) ∧ ((a0_o = none → xs_4 = [] ∧ a0_c = 0))) (fun (s : (List GChoice) × Int × Int) (x : Unit) => match s, x with | ⟨xs_4, i_5, i_6⟩, _ => [(0, [], (.slice (a0_o.map fun b => ⟨b, 0, none⟩) a0.length a0_c)), (1, [], (.int .i64 i_5)), (4, [], (.int .i64 0)), (5, [], (.int .i64 i_6))]) (fun (s : (List GChoice) × Int × Int) (x : Unit) => match s, x with | ⟨xs_4, i_5, i_6⟩, _ => [⟨a0_o, 77, row encGChoice xs_4 a0_sp⟩]) ht_108 () ⟨rfl, a0_ho⟩ (by kernel_rfl) [0] (by kernel_rfl) (by kernel_rfl) ?_
    rintro ⟨xs_4, i_5, i_6⟩ _ y_100 ⟨hn_98, ho_97⟩ h
    rw [laws_markChoiceS.l_7] at h
    refine jc_seq ?_
    refine jc_seq ?_
    refine jc_region ?_
    refine jo_f [(0, 0), (0, 0), (0, 0), (0, 0)] (by kernel_rfl) ?_
    refine jo_end (by kernel_rfl) ?_
    refine jx_then ?_
    refine jc_cond (decide (i_6 < (a0.length : Int))) (by kernel_rfl) (fun hc_102 => ?_) (fun hc_102 => ?_)
    · replace h := ifT hc_102 h
      refine jc_skip ?_
      refine jx_then ?_
      refine jc_seq ?_
      refine jc_block ?_
      refine jc_seq ?_
      refine jc_region ?_
      refine jo_f [(0, 0), (0, 0), (0, 0), (0, 0), (0, 0)] (by kernel_rfl) ?_
      obtain ⟨x_9, hx_103, h⟩ := bd h
      refine toO (by kernel_rfl) (p_idx 0 (a0_o.map fun b => ⟨b, 0, none⟩) a0.length i_6 4 (by kernel_rfl) (by kernel_rfl) (ix_some hx_103).1 (ltn hx_103 hn_98) (spo ho_97 hx_103) (jkO ?_))
      refine jo_f [(0, 0)] (by kernel_rfl) ?_
      refine toO (by kernel_rfl) (p_strO 0 0 a0_o 77 encGChoice xs_4 a0_sp i_6 (⟨((Int.tmod i_5 3) == 0), x_9.fLate, x_9.fOctave, x_9.fTrack⟩ : GChoice) 4 0 [(.bool ((Int.tmod i_5 3) == 0))] (by kernel_rfl) (by kernel_rfl) (by kernel_rfl) (fun e => (ho_97 e).1) encGChoice_len hx_103 (by kernel_rfl) (by kernel_rfl) (jkO ?_))
      refine jo_end (by kernel_rfl) ?_
      refine jx_then ?_
      refine jc_seq ?_
      refine jc_region ?_
      refine jo_f [(0, 0), (0, 0), (0, 0)] (by kernel_rfl) ?_
      refine jo_end (by kernel_rfl) ?_
      refine jx_then ?_
      refine jc_seq ?_
      refine jc_region ?_
      refine jo_f [(0, 0), (0, 0), (0, 0), (0, 0)] (by kernel_rfl) ?_
      obtain ⟨x_10, hx_104, h⟩ := bd h
      refine toO (by kernel_rfl) (p_idx 0 (a0_o.map fun b => ⟨b, 0, none⟩) a0.length i_6 4 (by kernel_rfl) (by kernel_rfl) (ix_some hx_104).1 (ltn hx_104 (List.length_set.trans hn_98)) (spo (set_ho ho_97) hx_104) (jkO ?_))
      refine jo_f [(0, 0)] (by kernel_rfl) ?_
      refine toO (by kernel_rfl) (p_strO 0 0 a0_o 77 encGChoice (xs_4.set i_6.toNat (⟨((Int.tmod i_5 3) == 0), x_9.fLate, x_9.fOctave, x_9.fTrack⟩ : GChoice)) a0_sp i_6 (⟨x_10.fAway, (w8 (w64 (i_5 + 1))), x_10.fOctave, x_10.fTrack⟩ : GChoice) 4 1 [(.int .i8 (w8 (w64 (i_5 + 1))))] (by kernel_rfl) (by kernel_rfl) (by kernel_rfl) (fun e => ((set_ho ho_97) e).1) encGChoice_len hx_104 (by kernel_rfl) (by kernel_rfl) (jkO ?_))
      refine jo_end (by kernel_rfl) ?_
      refine jx_then ?_
      refine jc_seq ?_
      refine jc_region ?_
      refine jo_f [(0, 0), (0, 0), (0, 0)] (by kernel_rfl) ?_
      refine jo_end (by kernel_rfl) ?_
      refine jx_then ?_
      refine jc_seq ?_
      refine jc_region ?_
      refine jo_f [(0, 0), (0, 0), (0, 0), (0, 0)] (by kernel_rfl) ?_
      obtain ⟨x_11, hx_105, h⟩ := bd h
      refine toO (by kernel_rfl) (p_idx 0 (a0_o.map fun b => ⟨b, 0, none⟩) a0.length i_6 4 (by kernel_rfl) (by kernel_rfl) (ix_some hx_105).1 (ltn hx_105 (List.length_set.trans (List.length_set.trans hn_98))) (spo (set_ho (set_ho ho_97)) hx_105) (jkO ?_))
      refine jo_f [(0, 0)] (by kernel_rfl) ?_
      refine toO (by kernel_rfl) (p_strO 0 0 a0_o 77 encGChoice ((xs_4.set i_6.toNat (⟨((Int.tmod i_5 3) == 0), x_9.fLate, x_9.fOctave, x_9.fTrack⟩ : GChoice)).set i_6.toNat (⟨x_10.fAway, (w8 (w64 (i_5 + 1))), x_10.fOctave, x_10.fTrack⟩ : GChoice)) a0_sp i_6 (⟨x_11.fAway, x_11.fLate, (w8 (w64 ((w64 (i_5 + 1)) + 1))), x_11.fTrack⟩ : GChoice) 4 2 [(.int .i8 (w8 (w64 ((w64 (i_5 + 1)) + 1))))] (by kernel_rfl) (by kernel_rfl) (by kernel_rfl) (fun e => ((set_ho (set_ho ho_97)) e).1) encGChoice_len hx_105 (by kernel_rfl) (by kernel_rfl) (jkO ?_))
      refine jo_end (by kernel_rfl) ?_
      refine jx_then ?_
      refine jc_seq ?_
      refine jc_region ?_
      refine jo_f [(0, 0), (0, 0), (0, 0)] (by kernel_rfl) ?_
      refine jo_end (by kernel_rfl) ?_
      refine jx_then ?_
      refine jc_seq ?_
      refine jc_region ?_
      refine jo_f [(0, 0), (0, 0), (0, 0), (0, 0)] (by kernel_rfl) ?_
      obtain ⟨x_12, hx_106, h⟩ := bd h
      refine toO (by kernel_rfl) (p_idx 0 (a0_o.map fun b => ⟨b, 0, none⟩) a0.length i_6 4 (by kernel_rfl) (by kernel_rfl) (ix_some hx_106).1 (ltn hx_106 (List.length_set.trans (List.length_set.trans (List.length_set.trans hn_98)))) (spo (set_ho (set_ho (set_ho ho_97))) hx_106) (jkO ?_))
      refine jo_f [(0, 0)] (by kernel_rfl) ?_
      refine toO (by kernel_rfl) (p_strO 0 0 a0_o 77 encGChoice (((xs_4.set i_6.toNat (⟨((Int.tmod i_5 3) == 0), x_9.fLate, x_9.fOctave, x_9.fTrack⟩ : GChoice)).set i_6.toNat (⟨x_10.fAway, (w8 (w64 (i_5 + 1))), x_10.fOctave, x_10.fTrack⟩ : GChoice)).set i_6.toNat (⟨x_11.fAway, x_11.fLate, (w8 (w64 ((w64 (i_5 + 1)) + 1))), x_11.fTrack⟩ : GChoice)) a0_sp i_6 (⟨x_12.fAway, x_12.fLate, x_12.fOctave, (w8 (w64 ((w64 ((w64 (i_5 + 1)) + 1)) + 1)))⟩ : GChoice) 4 3 [(.int .i8 (w8 (w64 ((w64 ((w64 (i_5 + 1)) + 1)) + 1))))] (by kernel_rfl) (by kernel_rfl) (by kernel_rfl) (fun e => ((set_ho (set_ho (set_ho ho_97))) e).1) encGChoice_len hx_106 (by kernel_rfl) (by kernel_rfl) (jkO ?_))
      refine jo_end (by kernel_rfl) ?_
      refine jx_then ?_
      refine jc_region ?_
      refine jo_f [(0, 0), (0, 0), (0, 0)] (by kernel_rfl) ?_
      refine jo_end (by kernel_rfl) ?_
      refine jx_inn ?_
      refine jx_then ?_
      refine jc_region ?_
      refine jo_f [(0, 0), (0, 0), (0, 0)] (by kernel_rfl) ?_
      refine jo_end (by kernel_rfl) ?_
      exact jx_back (((((xs_4.set i_6.toNat (⟨((Int.tmod i_5 3) == 0), x_9.fLate, x_9.fOctave, x_9.fTrack⟩ : GChoice)).set i_6.toNat (⟨x_10.fAway, (w8 (w64 (i_5 + 1))), x_10.fOctave, x_10.fTrack⟩ : GChoice)).set i_6.toNat (⟨x_11.fAway, x_11.fLate, (w8 (w64 ((w64 (i_5 + 1)) + 1))), x_11.fTrack⟩ : GChoice)).set i_6.toNat (⟨x_12.fAway, x_12.fLate, x_12.fOctave, (w8 (w64 ((w64 ((w64 (i_5 + 1)) + 1)) + 1)))⟩ : GChoice)), (w64 ((w64 ((w64 ((w64 (i_5 + 1)) + 1)) + 1)) + 1)), (w64 (i_6 + 1))) () (Option.some.inj h).symm ⟨(List.length_set.trans (List.length_set.trans (List.length_set.trans (List.length_set.trans hn_98)))), (set_ho (set_ho (set_ho (set_ho ho_97))))⟩ [0] (by kernel_rfl) (by kernel_rfl) (by kernel_rfl)
    · replace h := ifF hc_102 h
      refine jc_exit ?_
      refine jx_thenx ?_
      refine jx_leave (xs_4, i_5) (Option.some.inj h).symm (fun e_107 => ?_)
      subst e_107
      refine jx_ine ?_
      exact jx_meet ⟨xs_4, i_5⟩ ⟨hr_99, hn_98, ho_97⟩ (by kernel_rfl) [0] (by kernel_rfl) (by kernel_rfl)
  · rintro ⟨xs_1, i_2⟩ ⟨h, hn_82, ho_81⟩
    replace h : laws_markChoiceS.k_3 xs_1 i_2 = some r := h
    rw [laws_markChoiceS.k_3] at h
    refine jx_then ?_
    refine jc_seq ?_
    refine jc_region ?_
    refine jo_f [(0, 0), (0, 0)] (by kernel_rfl) ?_
    refine jo_end (by kernel_rfl) ?_
    refine jx_then ?_
    refine jc_ret ?_
    obtain rfl := Option.some.inj h
    exact jx_ret [] (.int .i64 i_2) [] rfl (by kernel_rfl) (by kernel_rfl) (fun w hm => ⟨hn_82, ho_81, rfl, hm.pick [0] (by kernel_rfl) (by kernel_rfl)⟩)

/-! ### laws.heldChoiceS -/
noncomputable def laws_heldChoiceS.k_2 (i_1 : Int) : Option (Int) := some i_1
noncomputable def laws_heldChoiceS.l_5 (a0 : List GChoice) : (Int × Int) → Option ((Int × Int) ⊕ (Int ⊕ Int))
  | (i_3, i_4) => (if (decide (i_4 < (a0.length : Int))) = true then (ix a0 i_4).bind fun x_7 => (if (x_7.fAway != ((Int.tmod i_3 3) == 0)) = true then some (.inr (.inl (-1))) else (ix a0 i_4).bind fun x_8 => (if (x_8.fLate != (w8 (w64 (i_3 + 1)))) = true then some (.inr (.inl (-1))) else (ix a0 i_4).bind fun x_9 => (if (x_9.fOctave != (w8 (w64 ((w64 (i_3 + 1)) + 1)))) = true then some (.inr (.inl (-1))) else (ix a0 i_4).bind fun x_10 => (if (x_10.fTrack != (w8 (w64 ((w64 ((w64 (i_3 + 1)) + 1)) + 1)))) = true then some (.inr (.inl (-1))) else some (.inl ((w64 ((w64 ((w64 ((w64 (i_3 + 1)) + 1)) + 1)) + 1)), (w64 (i_4 + 1)))))))) else some (.inr (.inr i_3)))
noncomputable def laws_heldChoiceS (a0 : List GChoice) (k1 : Int) : Option (Int) := (loop (laws_heldChoiceS.l_5 a0) (k1, 0)).bind fun t_6 => match t_6 with | .inl p => some p | .inr p => laws_heldChoiceS.k_2 p
set_option maxRecDepth 100000 in
theorem laws_heldChoiceS.calls (a0 : List GChoice) (k1 : Int) (w : World) (r : Int) (a0_a : Option Addr) (a0_an : Nat) (a0_c : Nat) (a0_h : Rw w a0_a 4 encGChoice a0) (a0_hn : a0.length = a0_an) (h : laws_heldChoiceS a0 k1 = some r) :
    Calls Tryd.prog 30 #[(.slice a0_a a0_an a0_c), (.int .i64 k1)] w fun e w' => ∃ v, e = .returned v ∧ (v = (.int .i64 r) ∧ Mem w [] [] w') := by
  subst a0_hn
  rw [laws_heldChoiceS] at h
  refine enter (args := [(.slice a0_a a0.length a0_c), (.int .i64 k1)]) Tryd.func30 rfl Tryd.ntmps30 (by kernel_rfl) (L := []) (W := []) (Mem.start w) ?_
  refine jc_seq ?_
  refine jc_region ?_
  refine jo_f [(0, 0)] (by kernel_rfl) ?_
  refine jo_end (by kernel_rfl) ?_
  refine jx_then ?_
  refine jc_seq ?_
  refine jc_seq ?_
  refine jc_region ?_
  refine jo_f [(0, 0)] (by kernel_rfl) ?_
  refine jo_end (by kernel_rfl) ?_
  refine jx_then ?_
  refine jc_meet (fun (j : Int) => match j with | i_1 => laws_heldChoiceS.k_2 i_1 = some r) (fun (j : Int) => match j with | i_1 => [(1, [], (.int .i64 i_1)), (4, [], (.int .i64 0))]) (fun (j : Int) => match j with | i_1 => []) ?_ ?_
  · refine jc_block ?_
    obtain ⟨t_6, ht_224, hr_201⟩ := bd h
    refine jc_loop (fun (s : Int × Int) (x : Unit) => match s, x with | ⟨i_3, i_4⟩, _ => True) (fun (s : Int × Int) (x : Unit) => match s, x with | ⟨i_3, i_4⟩, _ => [(0, [], (.slice a0_a a0.length a0_c)), (1, [], (.int .i64 i_3)), (4, [], (.int .i64 0)), (5, [], (.int .i64 i_4))]) (fun (s : Int × Int) (x : Unit) => match s, x with | ⟨i_3, i_4⟩, _ => []) ht_224 () trivial (by kernel_rfl) [] (by kernel_rfl) (by kernel_rfl) ?_
    rintro ⟨i_3, i_4⟩ _ y_202 _ h
    rw [laws_heldChoiceS.l_5] at h
    refine jc_seq ?_
    refine jc_seq ?_
    refine jc_region ?_
    refine jo_f [(0, 0), (0, 0), (0, 0), (0, 0)] (by kernel_rfl) ?_
    refine jo_end (by kernel_rfl) ?_
    refine jx_then ?_
    refine jc_cond (decide (i_4 < (a0.length : Int))) (by kernel_rfl) (fun hc_204 => ?_) (fun hc_204 => ?_)
    · replace h := ifT hc_204 h
      refine jc_skip ?_
      refine jx_then ?_
      refine jc_seq ?_
      refine jc_block ?_
      refine jc_seq ?_
      refine jc_seq ?_
      refine jc_region ?_
      refine jo_f [(0, 0), (0, 0)] (by kernel_rfl) ?_
      obtain ⟨x_7, hx_207, h⟩ := bd h
      refine toO (by kernel_rfl) (p_idx 0 a0_a a0.length i_4 4 (by kernel_rfl) (by kernel_rfl) (ix_some hx_207).1 (ltn hx_207 rfl) (a0_h.sp hx_207) (jkO ?_))
      refine jo_f [(0, 0)] (by kernel_rfl) ?_
      refine toO (by kernel_rfl) (p_ld 0 (aB a0_a) (aO a0_a + i_4.toNat * 4) false (((encGChoice x_7).drop 0).take 1) (by kernel_rfl) (by kernel_rfl) (by kernel_rfl) (fun w hm => (((hm.exRow a0_h List.not_mem_nil).at hx_207).sub 0 1)) (jkO ?_))
      refine jo_f [(0, 0), (0, 0), (0, 0), (0, 0)] (by kernel_rfl) ?_
      refine jo_end (by kernel_rfl) ?_
      refine jx_then ?_
      refine jc_cond (x_7.fAway != ((Int.tmod i_3 3) == 0)) (by kernel_rfl) (fun hc_208 => ?_) (fun hc_208 => ?_)
      · replace h := ifT hc_208 h
        refine jc_seq ?_
        refine jc_region ?_
        refine jo_f [(0, 0)] (by kernel_rfl) ?_
        refine jo_end (by kernel_rfl) ?_
        refine jx_then ?_
        refine jc_ret ?_
        refine jx_thenr ?_
        refine jx_inr ?_
        refine jx_thenr ?_
        refine jx_leaver (.inl (-1)) (Option.some.inj h).symm (fun e_209 => ?_)
        subst e_209
        refine jx_inr ?_
        refine jx_thenr ?_
        refine jx_thenr ?_
        obtain rfl := Option.some.inj hr_201
        exact jx_ret [] (.int .i64 (-1)) [] rfl (by kernel_rfl) (by kernel_rfl) (fun w hm => ⟨rfl, hm.pick [] (by kernel_rfl) (by kernel_rfl)⟩)
      · replace h := ifF hc_208 h
        refine jc_skip ?_
        refine jx_then ?_
        refine jc_seq ?_
        refine jc_region ?_
        refine jo_f [(0, 0), (0, 0), (0, 0)] (by kernel_rfl) ?_
        refine jo_end (by kernel_rfl) ?_
        refine jx_then ?_
        refine jc_seq ?_
        refine jc_seq ?_
        refine jc_region ?_
        refine jo_f [(0, 0), (0, 0)] (by kernel_rfl) ?_
        obtain ⟨x_8, hx_212, h⟩ := bd h
        refine toO (by kernel_rfl) (p_idx 0 a0_a a0.length i_4 4 (by kernel_rfl) (by kernel_rfl) (ix_some hx_212).1 (ltn hx_212 rfl) (a0_h.sp hx_212) (jkO ?_))
        refine jo_f [(0, 0)] (by kernel_rfl) ?_
        refine toO (by kernel_rfl) (p_ld 0 (aB a0_a) (aO a0_a + i_4.toNat * 4 + 1) false (((encGChoice x_8).drop 1).take 1) (by kernel_rfl) (by kernel_rfl) (by kernel_rfl) (fun w hm => (((hm.exRow a0_h List.not_mem_nil).at hx_212).sub 1 1)) (jkO ?_))
        refine jo_f [(0, 0), (0, 0), (0, 0)] (by kernel_rfl) ?_
        refine jo_end (by kernel_rfl) ?_
        refine jx_then ?_
        refine jc_cond (x_8.fLate != (w8 (w64 (i_3 + 1)))) (by kernel_rfl) (fun hc_213 => ?_) (fun hc_213 => ?_)
        · replace h := ifT hc_213 h
          refine jc_seq ?_
          refine jc_region ?_
          refine jo_f [(0, 0)] (by kernel_rfl) ?_
          refine jo_end (by kernel_rfl) ?_
          refine jx_then ?_
          refine jc_ret ?_
          refine jx_thenr ?_
          refine jx_inr ?_
          refine jx_thenr ?_
          refine jx_leaver (.inl (-1)) (Option.some.inj h).symm (fun e_214 => ?_)
          subst e_214
          refine jx_inr ?_
          refine jx_thenr ?_
          refine jx_thenr ?_
          obtain rfl := Option.some.inj hr_201
          exact jx_ret [] (.int .i64 (-1)) [] rfl (by kernel_rfl) (by kernel_rfl) (fun w hm => ⟨rfl, hm.pick [] (by kernel_rfl) (by kernel_rfl)⟩)
        · replace h := ifF hc_213 h
          refine jc_skip ?_
          refine jx_then ?_
          refine jc_seq ?_
          refine jc_region ?_
          refine jo_f [(0, 0), (0, 0), (0, 0)] (by kernel_rfl) ?_
          refine jo_end (by kernel_rfl) ?_
          refine jx_then ?_
          refine jc_seq ?_
          refine jc_seq ?_
          refine jc_region ?_
          refine jo_f [(0, 0), (0, 0)] (by kernel_rfl) ?_
          obtain ⟨x_9, hx_217, h⟩ := bd h
          refine toO (by kernel_rfl) (p_idx 0 a0_a a0.length i_4 4 (by kernel_rfl) (by kernel_rfl) (ix_some hx_217).1 (ltn hx_217 rfl) (a0_h.sp hx_217) (jkO ?_))
          refine jo_f [(0, 0)] (by kernel_rfl) ?_
          refine toO (by kernel_rfl) (p_ld 0 (aB a0_a) (aO a0_a + i_4.toNat * 4 + 2) false (((encGChoice x_9).drop 2).take 1) (by kernel_rfl) (by kernel_rfl) (by kernel_rfl) (fun w hm => (((hm.exRow a0_h List.not_mem_nil).at hx_217).sub 2 1)) (jkO ?_))
          refine jo_f [(0, 0), (0, 0), (0, 0)] (by kernel_rfl) ?_
          refine jo_end (by kernel_rfl) ?_
          refine jx_then ?_
          refine jc_cond (x_9.fOctave != (w8 (w64 ((w64 (i_3 + 1)) + 1)))) (by kernel_rfl) (fun hc_218 => ?_) (fun hc_218 => ?_)
          · replace h := ifT hc_218 h
            refine jc_seq ?_
            refine jc_region ?_
            refine jo_f [(0, 0)] (by kernel_rfl) ?_
            refine jo_end (by kernel_rfl) ?_
            refine jx_then ?_
            refine jc_ret ?_
            refine jx_thenr ?_
            refine jx_inr ?_
            refine jx_thenr ?_
            refine jx_leaver (.inl (-1)) (Option.some.inj h).symm (fun e_219 => ?_)
            subst e_219
            refine jx_inr ?_
            refine jx_thenr ?_
            refine jx_thenr ?_
            obtain rfl := Option.some.inj hr_201
            exact jx_ret [] (.int .i64 (-1)) [] rfl (by kernel_rfl) (by kernel_rfl) (fun w hm => ⟨rfl, hm.pick [] (by kernel_rfl) (by kernel_rfl)⟩)
          · replace h := ifF hc_218 h
            refine jc_skip ?_
            refine jx_then ?_
            refine jc_seq ?_
            refine jc_region ?_
            refine jo_f [(0, 0), (0, 0), (0, 0)] (by kernel_rfl) ?_
            refine jo_end (by kernel_rfl) ?_
            refine jx_then ?_
            refine jc_seq ?_
            refine jc_seq ?_
            refine jc_region ?_
            refine jo_f [(0, 0), (0, 0)] (by kernel_rfl) ?_
            obtain ⟨x_10, hx_220, h⟩ := bd h
            refine toO (by kernel_rfl) (p_idx 0 a0_a a0.length i_4 4 (by kernel_rfl) (by kernel_rfl) (ix_some hx_220).1 (ltn hx_220 rfl) (a0_h.sp hx_220) (jkO ?_))
            refine jo_f [(0, 0)] (by kernel_rfl) ?_
            refine toO (by kernel_rfl) (p_ld 0 (aB a0_a) (aO a0_a + i_4.toNat * 4 + 3) false (((encGChoice x_10).drop 3).take 1) (by kernel_rfl) (by kernel_rfl) (by kernel_rfl) (fun w hm => (((hm.exRow a0_h List.not_mem_nil).at hx_220).sub 3 1)) (jkO ?_))
            refine jo_f [(0, 0), (0, 0), (0, 0)] (by kernel_rfl) ?_
            refine jo_end (by kernel_rfl) ?_
            refine jx_then ?_
            refine jc_cond (x_10.fTrack != (w8 (w64 ((w64 ((w64 (i_3 + 1)) + 1)) + 1)))) (by kernel_rfl) (fun hc_221 => ?_) (fun hc_221 => ?_)
            · replace h := ifT hc_221 h
              refine jc_seq ?_
              refine jc_region ?_
              refine jo_f [(0, 0)] (by kernel_rfl) ?_
              refine jo_end (by kernel_rfl) ?_
              refine jx_then ?_
              refine jc_ret ?_
              refine jx_thenr ?_
              refine jx_inr ?_
              refine jx_thenr ?_
              refine jx_leaver (.inl (-1)) (Option.some.inj h).symm (fun e_222 => ?_)
              subst e_222
              refine jx_inr ?_
              refine jx_thenr ?_
              refine jx_thenr ?_
              obtain rfl := Option.some.inj hr_201
              exact jx_ret [] (.int .i64 (-1)) [] rfl (by kernel_rfl) (by kernel_rfl) (fun w hm => ⟨rfl, hm.pick [] (by kernel_rfl) (by kernel_rfl)⟩)
            · replace h := ifF hc_221 h
              refine jc_skip ?_
              refine jx_then ?_
              refine jc_region ?_
              refine jo_f [(0, 0), (0, 0), (0, 0)] (by kernel_rfl) ?_
              refine jo_end (by kernel_rfl) ?_
              refine jx_inn ?_
              refine jx_then ?_
              refine jc_region ?_
              refine jo_f [(0, 0), (0, 0), (0, 0)] (by kernel_rfl) ?_
              refine jo_end (by kernel_rfl) ?_
              exact jx_back ((w64 ((w64 ((w64 ((w64 (i_3 + 1)) + 1)) + 1)) + 1)), (w64 (i_4 + 1))) () (Option.some.inj h).symm trivial [] (by kernel_rfl) (by kernel_rfl) (by kernel_rfl)
    · replace h := ifF hc_204 h
      refine jc_exit ?_
      refine jx_thenx ?_
      refine jx_leave (.inr i_3) (Option.some.inj h).symm (fun e_223 => ?_)
      subst e_223
      refine jx_ine ?_
      exact jx_meet i_3 hr_201 (by kernel_rfl) [] (by kernel_rfl) (by kernel_rfl)
  · rintro i_1 h
    replace h : laws_heldChoiceS.k_2 i_1 = some r := h
    rw [laws_heldChoiceS.k_2] at h
    refine jx_then ?_
    refine jc_seq ?_
    refine jc_region ?_
    refine jo_f [(0, 0), (0, 0)] (by kernel_rfl) ?_
    refine jo_end (by kernel_rfl) ?_
    refine jx_then ?_
    refine jc_ret ?_
    obtain rfl := Option.some.inj h
    exact jx_ret [] (.int .i64 i_1) [] rfl (by kernel_rfl) (by kernel_rfl) (fun w hm => ⟨rfl, hm.pick [] (by kernel_rfl) (by kernel_rfl)⟩)

/-! ### laws.FnExactReadChoices -/
noncomputable def laws_FnExactReadChoices (aText0 : ByteArray) : Option (Bool) := (if (decide ((aText0.size : Int) > 1048576)) = true then some true else (spec_ReadChoices aText0).bind fun t_1 => (impl_ReadChoices aText0).bind fun t_2 => (laws_eqChoiceS t_2.1 t_1.1).bind fun t_3 => (if ((!t_3) || (t_2.2 != t_1.2)) = true then some false else (laws_markChoiceS t_2.1 1).bind fun t_4 => (laws_heldChoiceS t_4.2 1).bind fun t_5 => (if (decide (t_5 < 0)) = true then some false else (if (t_5 != t_4.1) = true then some false else (impl_ReadChoices aText0).bind fun t_6 => (laws_eqChoiceS t_6.1 t_1.1).bind fun t_7 => (if ((!t_7) || (t_6.2 != t_1.2)) = true then some false else (laws_heldChoiceS t_4.2 1).bind fun t_8 => (if (decide (t_8 < 0)) = true then some false else (if (t_8 != t_4.1) = true then some false else some true)))))))
set_option maxRecDepth 100000 in
theorem laws_FnExactReadChoices.calls (aText0 : ByteArray) (w : World) (r : Bool) (g_er : Gler w) (g_ml : Glml w) (g_pw : Glpw w) (h : laws_FnExactReadChoices aText0 = some r) :
    Calls Tryd.prog 7 #[(.string aText0)] w fun e w' => ∃ v, e = .returned v ∧ (v = (.bool r) ∧ Mem w [] [] w') := by
  rw [laws_FnExactReadChoices] at h
  refine enter (args := [(.string aText0)]) Tryd.func7 rfl Tryd.ntmps7 (by kernel_rfl) (L := []) (W := []) (Mem.start w) ?_
  refine jc_seq ?_
  refine jc_region ?_
  refine jo_f [(0, 0)] (by kernel_rfl) ?_
  refine jo_end (by kernel_rfl) ?_
  refine jx_then ?_
  refine jc_seq ?_
  refine jc_seq ?_
  refine jc_region ?_
  refine jo_f [(0, 0), (0, 0), (0, 0)] (by kernel_rfl) ?_
  refine jo_end (by kernel_rfl) ?_
  refine jx_then ?_
  refine jc_cond (decide ((aText0.size : Int) > 1048576)) (by kernel_rfl) (fun hc_2 => ?_) (fun hc_2 => ?_)
  · replace h := ifT hc_2 h
    refine jc_seq ?_
    refine jc_region ?_
    refine jo_f [(0, 0)] (by kernel_rfl) ?_
    refine jo_end (by kernel_rfl) ?_
    refine jx_then ?_
    refine jc_ret ?_
    refine jx_thenr ?_
    obtain rfl := Option.some.inj h
    exact jx_ret [] (.bool true) [] rfl (by kernel_rfl) (by kernel_rfl) (fun w hm => ⟨rfl, hm.pick [] (by kernel_rfl) (by kernel_rfl)⟩)
  · replace h := ifF hc_2 h
    refine jc_skip ?_
    refine jx_then ?_
    refine jc_seq ?_
    refine jc_region ?_
    refine jo_f [(0, 0)] (by kernel_rfl) ?_
    obtain ⟨t_1, ht_3, h⟩ := bd h
    refine toO (by kernel_rfl) (p_call 0 27 #[(.string aText0)] (by kernel_rfl) (by kernel_rfl) (fun w hm => spec_ReadChoices.calls aText0 w _ ht_3) ?_)
    rintro w v w' hm ⟨o_4, cap_5, sp_6, _, rfl, hs_7, ho_8, rfl, hm'⟩
    refine ⟨_, hm.app hm', jkO ?_⟩
    clear hm hm'
    refine jo_f [(0, 0), (0, 0), (0, 0), (0, 0), (0, 0)] (by kernel_rfl) ?_
    refine jo_end (by kernel_rfl) ?_
    refine jx_then ?_
    refine jc_seq ?_
    refine jc_region ?_
    refine jo_f [(0, 0)] (by kernel_rfl) ?_
    obtain ⟨t_2, ht_9, h⟩ := bd h
    refine toO (by kernel_rfl) (p_call 0 28 #[(.string aText0)] (by kernel_rfl) (by kernel_rfl) (fun w hm => impl_ReadChoices.calls aText0 w _ (g_er.keep hm) (g_ml.keep hm) (g_pw.keep hm) ht_9) ?_)
    rintro w v w' hm ⟨o_10, cap_11, sp_12, _, rfl, hs_13, ho_14, rfl, hm'⟩
    refine ⟨_, hm.app hm', jkO ?_⟩
    clear hm hm'
    refine jo_f [(0, 0), (0, 0), (0, 0), (0, 0), (0, 0)] (by kernel_rfl) ?_
    refine jo_end (by kernel_rfl) ?_
    refine jx_then ?_
    refine jc_seq ?_
    refine jc_seq ?_
    refine jc_region ?_
    refine jo_f [(0, 0), (0, 0)] (by kernel_rfl) ?_
    obtain ⟨t_3, ht_19, h⟩ := bd h
    refine toO (by kernel_rfl) (p_call 0 17 #[(.slice (o_10.map fun b => ⟨b, 0, none⟩) t_2.1.length cap_11), (.slice (o_4.map fun b => ⟨b, 0, none⟩) t_1.1.length cap_5)] (by kernel_rfl) (by kernel_rfl) (fun w hm => laws_eqChoiceS.calls t_2.1 t_1.1 w _ (o_10.map fun b => ⟨b, 0, none⟩) t_2.1.length cap_11 (hm.ownRow (hh := 1) (o := o_10) (T := 77) (enc := encGChoice) (xs := t_2.1) (sp := sp_12) (by kernel_rfl) (fun e => (ho_14 e).1) encGChoice_len) rfl (o_4.map fun b => ⟨b, 0, none⟩) t_1.1.length cap_5 (hm.ownRow (hh := 0) (o := o_4) (T := 77) (enc := encGChoice) (xs := t_1.1) (sp := sp_6) (by kernel_rfl) (fun e => (ho_8 e).1) encGChoice_len) rfl ht_19) ?_)
    rintro w v w' hm ⟨rfl, hm'⟩
    refine ⟨_, hm.app hm', jkO ?_⟩
    clear hm hm'
    refine jo_f [(0, 0), (0, 0), (0, 1), (0, 1), (0, 1), (0, 0)] (by kernel_rfl) ?_
    refine jo_end (by kernel_rfl) ?_
    refine jx_then ?_
    refine jc_cond ((!t_3) || (t_2.2 != t_1.2)) (by kernel_rfl) (fun hc_20 => ?_) (fun hc_20 => ?_)
    · replace h := ifT hc_20 h
      refine jc_seq ?_
      refine jc_region ?_
      refine jo_f [(0, 0)] (by kernel_rfl) ?_
      refine jo_end (by kernel_rfl) ?_
      refine jx_then ?_
      refine jc_ret ?_
      refine jx_thenr ?_
      obtain rfl := Option.some.inj h
      exact jx_ret [] (.bool false) [] rfl (by kernel_rfl) (by kernel_rfl) (fun w hm => ⟨rfl, hm.pick [] (by kernel_rfl) (by kernel_rfl)⟩)
    · replace h := ifF hc_20 h
      refine jc_skip ?_
      refine jx_then ?_
      refine jc_seq ?_
      refine jc_region ?_
      refine jo_f [(0, 0)] (by kernel_rfl) ?_
      refine jo_end (by kernel_rfl) ?_
      refine jx_then ?_
      refine jc_seq ?_
      refine jc_region ?_
      refine jo_f [(0, 0), (0, 0)] (by kernel_rfl) ?_
      obtain ⟨t_4, ht_21, h⟩ := bd h
      refine toO (by kernel_rfl) (p_call 0 29 #[(.slice (o_10.map fun b => ⟨b, 0, none⟩) t_2.1.length cap_11), (.int .i64 1)] (by kernel_rfl) (by kernel_rfl) (fun w hm => laws_markChoiceS.calls t_2.1 1 w _ o_10 t_2.1.length cap_11 sp_12 rfl hs_13 ho_14 (hm.pass (N := [⟨o_10, 77, row encGChoice t_2.1 sp_12⟩]) [1] (by kernel_rfl) (by kernel_rfl)) ht_21) ?_)
      rintro w v w' hm ⟨hn_22, ho_23, rfl, hm'⟩
      refine ⟨_, hm.appW (ps := [(1, ⟨o_10, 77, row encGChoice t_4.2 sp_12⟩)]) (N := []) hm' (by kernel_rfl) (by kernel_rfl), jkO ?_⟩
      clear hm hm'
      refine jo_f [(0, 0)] (by kernel_rfl) ?_
      refine jo_end (by kernel_rfl) ?_
      refine jx_then ?_
      refine jc_seq ?_
      refine jc_region ?_
      refine jo_f [(0, 0)] (by kernel_rfl) ?_
      refine jo_end (by kernel_rfl) ?_
      refine jx_then ?_
      refine jc_seq ?_
      refine jc_region ?_
      refine jo_f [(0, 0), (0, 0)] (by kernel_rfl) ?_
      obtain ⟨t_5, ht_24, h⟩ := bd h
      refine toO (by kernel_rfl) (p_call 0 30 #[(.slice (o_10.map fun b => ⟨b, 0, none⟩) t_2.1.length cap_11), (.int .i64 1)] (by kernel_rfl) (by kernel_rfl) (fun w hm => laws_heldChoiceS.calls t_4.2 1 w _ (o_10.map fun b => ⟨b, 0, none⟩) t_2.1.length cap_11 (hm.ownRow (hh := 1) (o := o_10) (T := 77) (enc := encGChoice) (xs := t_4.2) (sp := sp_12) (by kernel_rfl) (fun e => (ho_23 e).1) encGChoice_len) hn_22 ht_24) ?_)
      rintro w v w' hm ⟨rfl, hm'⟩
      refine ⟨_, hm.app hm', jkO ?_⟩
      clear hm hm'
      refine jo_f [(0, 0)] (by kernel_rfl) ?_
      refine jo_end (by kernel_rfl) ?_
      refine jx_then ?_
      refine jc_seq ?_
      refine jc_seq ?_
      refine jc_region ?_
      refine jo_f [(0, 0), (0, 0)] (by kernel_rfl) ?_
      refine jo_end (by kernel_rfl) ?_
      refine jx_then ?_
      refine jc_cond (decide (t_5 < 0)) (by kernel_rfl) (fun hc_26 => ?_) (fun hc_26 => ?_)
      · replace h := ifT hc_26 h
        refine jc_seq ?_
        refine jc_region ?_
        refine jo_f [(0, 0)] (by kernel_rfl) ?_
        refine jo_end (by kernel_rfl) ?_
        refine jx_then ?_
        refine jc_ret ?_
        refine jx_thenr ?_
        obtain rfl := Option.some.inj h
        exact jx_ret [] (.bool false) [] rfl (by kernel_rfl) (by kernel_rfl) (fun w hm => ⟨rfl, hm.pick [] (by kernel_rfl) (by kernel_rfl)⟩)
      · replace h := ifF hc_26 h
        refine jc_skip ?_
        refine jx_then ?_
        refine jc_seq ?_
        refine jc_seq ?_
        refine jc_region ?_
        refine jo_f [(0, 0), (0, 0), (0, 0)] (by kernel_rfl) ?_
        refine jo_end (by kernel_rfl) ?_
        refine jx_then ?_
        refine jc_cond (t_5 != t_4.1) (by kernel_rfl) (fun hc_28 => ?_) (fun hc_28 => ?_)
        · replace h := ifT hc_28 h
          refine jc_seq ?_
          refine jc_region ?_
          refine jo_f [(0, 0)] (by kernel_rfl) ?_
          refine jo_end (by kernel_rfl) ?_
          refine jx_then ?_
          refine jc_ret ?_
          refine jx_thenr ?_
          obtain rfl := Option.some.inj h
          exact jx_ret [] (.bool false) [] rfl (by kernel_rfl) (by kernel_rfl) (fun w hm => ⟨rfl, hm.pick [] (by kernel_rfl) (by kernel_rfl)⟩)
        · replace h := ifF hc_28 h
          refine jc_skip ?_
          refine jx_then ?_
          refine jc_seq ?_
          refine jc_region ?_
          refine jo_f [(0, 0)] (by kernel_rfl) ?_
          obtain ⟨t_6, ht_29, h⟩ := bd h
          refine toO (by kernel_rfl) (p_call 0 28 #[(.string aText0)] (by kernel_rfl) (by kernel_rfl) (fun w hm => impl_ReadChoices.calls aText0 w _ (g_er.keep hm) (g_ml.keep hm) (g_pw.keep hm) ht_29) ?_)
          rintro w v w' hm ⟨o_30, cap_31, sp_32, _, rfl, hs_33, ho_34, rfl, hm'⟩
          refine ⟨_, hm.app hm', jkO ?_⟩
          clear hm hm'
          refine jo_f [(0, 0), (0, 0), (0, 0), (0, 0), (0, 0)] (by kernel_rfl) ?_
          refine jo_end (by kernel_rfl) ?_
          refine jx_then ?_
          refine jc_seq ?_
          refine jc_seq ?_
          refine jc_region ?_
          refine jo_f [(0, 0), (0, 0)] (by kernel_rfl) ?_
          obtain ⟨t_7, ht_39, h⟩ := bd h
          refine toO (by kernel_rfl) (p_call 0 17 #[(.slice (o_30.map fun b => ⟨b, 0, none⟩) t_6.1.length cap_31), (.slice (o_4.map fun b => ⟨b, 0, none⟩) t_1.1.length cap_5)] (by kernel_rfl) (by kernel_rfl) (fun w hm => laws_eqChoiceS.calls t_6.1 t_1.1 w _ (o_30.map fun b => ⟨b, 0, none⟩) t_6.1.length cap_31 (hm.ownRow (hh := 2) (o := o_30) (T := 77) (enc := encGChoice) (xs := t_6.1) (sp := sp_32) (by kernel_rfl) (fun e => (ho_34 e).1) encGChoice_len) rfl (o_4.map fun b => ⟨b, 0, none⟩) t_1.1.length cap_5 (hm.ownRow (hh := 0) (o := o_4) (T := 77) (enc := encGChoice) (xs := t_1.1) (sp := sp_6) (by kernel_rfl) (fun e => (ho_8 e).1) encGChoice_len) rfl ht_39) ?_)
          rintro w v w' hm ⟨rfl, hm'⟩
          refine ⟨_, hm.app hm', jkO ?_⟩
          clear hm hm'
          refine jo_f [(0, 0), (0, 0), (0, 1), (0, 1), (0, 1), (0, 0)] (by kernel_rfl) ?_
          refine jo_end (by kernel_rfl) ?_
          refine jx_then ?_
          refine jc_cond ((!t_7) || (t_6.2 != t_1.2)) (by kernel_rfl) (fun hc_40 => ?_) (fun hc_40 => ?_)
          · replace h := ifT hc_40 h
            refine jc_seq ?_
            refine jc_region ?_
            refine jo_f [(0, 0)] (by kernel_rfl) ?_
            refine jo_end (by kernel_rfl) ?_
            refine jx_then ?_
            refine jc_ret ?_
            refine jx_thenr ?_
            obtain rfl := Option.some.inj h
            exact jx_ret [] (.bool false) [] rfl (by kernel_rfl) (by kernel_rfl) (fun w hm => ⟨rfl, hm.pick [] (by kernel_rfl) (by kernel_rfl)⟩)
          · replace h := ifF hc_40 h
            refine jc_skip ?_
            refine jx_then ?_
            refine jc_seq ?_
            refine jc_region ?_
            refine jo_f [(0, 0)] (by kernel_rfl) ?_
            refine jo_end (by kernel_rfl) ?_
            refine jx_then ?_
            refine jc_seq ?_
            refine jc_region ?_
            refine jo_f [(0, 0), (0, 0)] (by kernel_rfl) ?_
            obtain ⟨t_8, ht_41, h⟩ := bd h
            refine toO (by kernel_rfl) (p_call 0 30 #[(.slice (o_10.map fun b => ⟨b, 0, none⟩) t_2.1.length cap_11), (.int .i64 1)] (by kernel_rfl) (by kernel_rfl) (fun w hm => laws_heldChoiceS.calls t_4.2 1 w _ (o_10.map fun b => ⟨b, 0, none⟩) t_2.1.length cap_11 (hm.ownRow (hh := 1) (o := o_10) (T := 77) (enc := encGChoice) (xs := t_4.2) (sp := sp_12) (by kernel_rfl) (fun e => (ho_23 e).1) encGChoice_len) hn_22 ht_41) ?_)
            rintro w v w' hm ⟨rfl, hm'⟩
            refine ⟨_, hm.app hm', jkO ?_⟩
            clear hm hm'
            refine jo_f [(0, 0)] (by kernel_rfl) ?_
            refine jo_end (by kernel_rfl) ?_
            refine jx_then ?_
            refine jc_seq ?_
            refine jc_seq ?_
            refine jc_region ?_
            refine jo_f [(0, 0), (0, 0)] (by kernel_rfl) ?_
            refine jo_end (by kernel_rfl) ?_
            refine jx_then ?_
            refine jc_cond (decide (t_8 < 0)) (by kernel_rfl) (fun hc_43 => ?_) (fun hc_43 => ?_)
            · replace h := ifT hc_43 h
              refine jc_seq ?_
              refine jc_region ?_
              refine jo_f [(0, 0)] (by kernel_rfl) ?_
              refine jo_end (by kernel_rfl) ?_
              refine jx_then ?_
              refine jc_ret ?_
              refine jx_thenr ?_
              obtain rfl := Option.some.inj h
              exact jx_ret [] (.bool false) [] rfl (by kernel_rfl) (by kernel_rfl) (fun w hm => ⟨rfl, hm.pick [] (by kernel_rfl) (by kernel_rfl)⟩)
            · replace h := ifF hc_43 h
              refine jc_skip ?_
              refine jx_then ?_
              refine jc_seq ?_
              refine jc_seq ?_
              refine jc_region ?_
              refine jo_f [(0, 0), (0, 0), (0, 0)] (by kernel_rfl) ?_
              refine jo_end (by kernel_rfl) ?_
              refine jx_then ?_
              refine jc_cond (t_8 != t_4.1) (by kernel_rfl) (fun hc_44 => ?_) (fun hc_44 => ?_)
              · replace h := ifT hc_44 h
                refine jc_seq ?_
                refine jc_region ?_
                refine jo_f [(0, 0)] (by kernel_rfl) ?_
                refine jo_end (by kernel_rfl) ?_
                refine jx_then ?_
                refine jc_ret ?_
                refine jx_thenr ?_
                obtain rfl := Option.some.inj h
                exact jx_ret [] (.bool false) [] rfl (by kernel_rfl) (by kernel_rfl) (fun w hm => ⟨rfl, hm.pick [] (by kernel_rfl) (by kernel_rfl)⟩)
              · replace h := ifF hc_44 h
                refine jc_skip ?_
                refine jx_then ?_
                refine jc_seq ?_
                refine jc_region ?_
                refine jo_f [(0, 0)] (by kernel_rfl) ?_
                refine jo_end (by kernel_rfl) ?_
                refine jx_then ?_
                refine jc_ret ?_
                obtain rfl := Option.some.inj h
                exact jx_ret [] (.bool true) [] rfl (by kernel_rfl) (by kernel_rfl) (fun w hm => ⟨rfl, hm.pick [] (by kernel_rfl) (by kernel_rfl)⟩)
end Go.Proofs.YtpmndjejabjniaaDoor
