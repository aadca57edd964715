/- Functions of the program that the laws reach: a plain function each, and that the call comes to its answer if the plain function has one. Printed by a program. -/
import Derived.Test.YtplklknkkaeniaaDoorT
import Derived.Test.YtplklknkkaeniaaDoorBld
namespace Go.Proofs.YtplklknkkaeniaaDoor
open Eng
set_option linter.unusedVariables false

set_option linter.unusedSectionVars false
variable [dsW : DrwS]

/-! ### laws.szActS -/
noncomputable def laws_szActS (a0 : List GAct) (left1 : Int) : Option (Int) := (if (decide ((w64 (left1 - (a0.length : Int))) < 0)) = true then some (-1) else some (w64 (left1 - (a0.length : Int))))
set_option maxRecDepth 100000 in
theorem laws_szActS.calls (a0 : List GAct) (left1 : Int) (w : World) (r : Int) (a0_a : Option Addr) (a0_an : Nat) (a0_c : Nat) (a0_h : Rw w a0_a 5 encGAct a0) (a0_hn : a0.length = a0_an) (h : laws_szActS a0 left1 = some r) :
    Calls Tryd.prog 5 #[(.slice a0_a a0_an a0_c), (.int .i64 left1)] w fun e w' => ∃ v, e = .returned v ∧ (v = (.int .i64 r) ∧ Mem w [] [] w') := by
  subst a0_hn
  rw [laws_szActS] at h
  refine enter (args := [(.slice a0_a a0.length a0_c), (.int .i64 left1)]) Tryd.func5 rfl Tryd.ntmps5 (by kernel_rfl) (L := []) (W := []) (Mem.start w) ?_
  refine jc_seq ?_
  refine jc_region ?_
  refine jo_f [(0, 0)] (by kernel_rfl) ?_
  refine jo_end (by kernel_rfl) ?_
  refine jx_then ?_
  refine jc_seq ?_
  refine jc_region ?_
  refine jo_f [(0, 0), (0, 0), (0, 0), (0, 0), (0, 0)] (by kernel_rfl) ?_
  refine jo_end (by kernel_rfl) ?_
  refine jx_then ?_
  refine jc_seq ?_
  refine jc_seq ?_
  refine jc_region ?_
  refine jo_f [(0, 0), (0, 0)] (by kernel_rfl) ?_
  refine jo_end (by kernel_rfl) ?_
  refine jx_then ?_
  refine jc_cond (decide ((w64 (left1 - (a0.length : Int))) < 0)) (by kernel_rfl) (fun hc_2 => ?_) (fun hc_2 => ?_)
  · replace h := ifT hc_2 h
    refine jc_seq ?_
    refine jc_region ?_
    refine jo_f [(0, 0)] (by kernel_rfl) ?_
    refine jo_end (by kernel_rfl) ?_
    refine jx_then ?_
    refine jc_ret ?_
    refine jx_thenr ?_
    obtain rfl := Option.some.inj h
    exact jx_ret [] (.int .i64 (-1)) [] rfl (by kernel_rfl) (by kernel_rfl) (fun w hm => ⟨rfl, hm.pick [] (by kernel_rfl) (by kernel_rfl)⟩)
  · replace h := ifF hc_2 h
    refine jc_skip ?_
    refine jx_then ?_
    refine jc_seq ?_
    refine jc_region ?_
    refine jo_f [(0, 0), (0, 0)] (by kernel_rfl) ?_
    refine jo_end (by kernel_rfl) ?_
    refine jx_then ?_
    refine jc_ret ?_
    obtain rfl := Option.some.inj h
    exact jx_ret [] (.int .i64 (w64 (left1 - (a0.length : Int)))) [] rfl (by kernel_rfl) (by kernel_rfl) (fun w hm => ⟨rfl, hm.pick [] (by kernel_rfl) (by kernel_rfl)⟩)

/-! ### laws.toAct -/
noncomputable def laws_toAct (a0 : GAct) : Option (GAct) := some a0
set_option maxRecDepth 100000 in
theorem laws_toAct.calls (a0 : GAct) (w : World) (r : GAct) (h : laws_toAct a0 = some r) :
    Calls Tryd.prog 15 #[(.agg #[(.int .i8 a0.fKind), (.int .i64 a0.fA), (.int .i64 a0.fB), (.int .i64 a0.fC), (.int .i64 a0.fD)])] w fun e w' => ∃ v, e = .returned v ∧ (v = .agg #[(.int .i8 r.fKind), (.int .i64 r.fA), (.int .i64 r.fB), (.int .i64 r.fC), (.int .i64 r.fD)] ∧ Mem w [] [] w') := by
  rw [laws_toAct] at h
  refine enter (args := [(.agg #[(.int .i8 a0.fKind), (.int .i64 a0.fA), (.int .i64 a0.fB), (.int .i64 a0.fC), (.int .i64 a0.fD)])]) Tryd.func15 rfl Tryd.ntmps15 (by kernel_rfl) (L := []) (W := []) (Mem.start w) ?_
  refine jc_seq ?_
  refine jc_region ?_
  refine toO (by kernel_rfl) (p_a 0 [0] (by kernel_rfl) (fun b => by kernel_rfl) (fun b_1 => jkO ?_))
  refine toO (by kernel_rfl) (p_a 0 [0] (by kernel_rfl) (fun b => by kernel_rfl) (fun b_2 => jkO ?_))
  refine jo_end (by kernel_rfl) ?_
  refine jx_then ?_
  refine jc_seq ?_
  refine jc_region ?_
  refine toO (by kernel_rfl) (p_a 0 [0] (by kernel_rfl) (fun b => by kernel_rfl) (fun b_3 => jkO ?_))
  refine jo_end (by kernel_rfl) ?_
  refine jx_then ?_
  refine jc_seq ?_
  refine jc_region ?_
  refine jo_f [(0, 0), (0, 0), (0, 0)] (by kernel_rfl) ?_
  refine toO (by kernel_rfl) (p_s 0 [2] (by kernel_rfl) (by kernel_rfl) (jkO ?_))
  refine jo_end (by kernel_rfl) ?_
  refine jx_then ?_
  refine jc_seq ?_
  refine jc_region ?_
  refine jo_f [(0, 0), (0, 0), (0, 0)] (by kernel_rfl) ?_
  refine toO (by kernel_rfl) (p_s 0 [2] (by kernel_rfl) (by kernel_rfl) (jkO ?_))
  refine jo_end (by kernel_rfl) ?_
  refine jx_then ?_
  refine jc_seq ?_
  refine jc_region ?_
  refine jo_f [(0, 0), (0, 0), (0, 0)] (by kernel_rfl) ?_
  refine toO (by kernel_rfl) (p_s 0 [2] (by kernel_rfl) (by kernel_rfl) (jkO ?_))
  refine jo_end (by kernel_rfl) ?_
  refine jx_then ?_
  refine jc_seq ?_
  refine jc_region ?_
  refine jo_f [(0, 0), (0, 0), (0, 0)] (by kernel_rfl) ?_
  refine toO (by kernel_rfl) (p_s 0 [2] (by kernel_rfl) (by kernel_rfl) (jkO ?_))
  refine jo_end (by kernel_rfl) ?_
  refine jx_then ?_
  refine jc_seq ?_
  refine jc_region ?_
  refine jo_f [(0, 0), (0, 0), (0, 0)] (by kernel_rfl) ?_
  refine toO (by kernel_rfl) (p_s 0 [2] (by kernel_rfl) (by kernel_rfl) (jkO ?_))
  refine jo_end (by kernel_rfl) ?_
  refine jx_then ?_
  refine jc_seq ?_
  refine jc_region ?_
  refine jo_f [(2, 0)] (by kernel_rfl) ?_
  refine toO (by kernel_rfl) (p_s 0 [1] (by kernel_rfl) (by kernel_rfl) (jkO ?_))
  refine jo_end (by kernel_rfl) ?_
  refine jx_then ?_
  refine jc_ret ?_
  obtain rfl := Option.some.inj h
  exact jx_ret [1] (.agg #[(.int .i8 a0.fKind), (.int .i64 a0.fA), (.int .i64 a0.fB), (.int .i64 a0.fC), (.int .i64 a0.fD)]) [(b_2, b_2), (b_2, b_2), (b_2, b_2), (b_2, b_2), (b_2, b_2)] rfl (by kernel_rfl) (by kernel_rfl) (fun w hm => ⟨rfl, hm.pick [] (by kernel_rfl) (by kernel_rfl)⟩)

/-! ### laws.toActS -/
noncomputable def laws_toActS.k_2 (xs_1 : List GAct) : Option ((List GAct)) := some xs_1
noncomputable def laws_toActS.l_5 (a0 : List GAct) : ((List GAct) × Int) → Option (((List GAct) × Int) ⊕ ((List GAct)))
  | (xs_3, i_4) => (if (decide (i_4 < (a0.length : Int))) = true then (ix a0 i_4).bind fun x_7 => (laws_toAct x_7).bind fun t_8 => (ix xs_3 i_4).bind fun x_9 => some (.inl ((xs_3.set i_4.toNat t_8), (w64 (i_4 + 1)))) else some (.inr xs_3))
noncomputable def laws_toActS (a0 : List GAct) : Option ((List GAct)) := (if 0 ≤ (a0.length : Int) ∧ (a0.length : Int) ≤ 3518437208883 then (loop (laws_toActS.l_5 a0) ((List.replicate (a0.length : Int).toNat (⟨0, 0, 0, 0, 0⟩ : GAct)), 0)).bind fun t_6 => laws_toActS.k_2 t_6 else none)
set_option maxRecDepth 100000 in
theorem laws_toActS.calls (a0 : List GAct) (w : World) (r : (List GAct)) (a0_a : Option Addr) (a0_an : Nat) (a0_c : Nat) (a0_h : Rw w a0_a 5 encGAct a0) (a0_hn : a0.length = a0_an) (h : laws_toActS a0 = some r) :
    Calls Tryd.prog 7 #[(.slice a0_a a0_an a0_c)] w fun e w' => ∃ v, e = .returned v ∧ (∃ (o0 : Option Nat) (c0 : Nat) (s0 : List Value) (n0 : Nat), r.length = n0 ∧ (o0 ≠ none → n0 ≤ c0 ∧ s0.length = (c0 - n0) * 5) ∧ (o0 = none → r = [] ∧ c0 = 0) ∧ v = .slice (o0.map fun b => ⟨b, 0, none⟩) n0 c0 ∧ Mem w [] [⟨o0, 37, row encGAct r s0⟩] w') := by
  subst a0_hn
  rw [laws_toActS] at h
  refine enter (args := [(.slice a0_a a0.length a0_c)]) Tryd.func7 rfl Tryd.ntmps7 (by kernel_rfl) (L := []) (W := []) (Mem.start w) ?_
  refine jc_seq ?_
  refine jc_region ?_
  refine jo_f [(0, 0)] (by kernel_rfl) ?_
  refine jo_end (by kernel_rfl) ?_
  refine jx_then ?_
  refine jc_seq ?_
  refine jc_region ?_
  refine jo_f [(0, 0), (0, 0)] (by kernel_rfl) ?_
  obtain ⟨hg_88, h⟩ := gd h
  refine toO (by kernel_rfl) (p_mk 0 37 (a0.length : Int) 5 40 encGAct (⟨0, 0, 0, 0, 0⟩ : GAct) (by kernel_rfl) (by kernel_rfl) hg_88.1 (by omega) (by kernel_rfl) (fun b_1 => jkO ?_))
  refine jo_f [(0, 0)] (by kernel_rfl) ?_
  refine jo_end (by kernel_rfl) ?_
  refine jx_then ?_
  refine jc_seq ?_
  refine jc_seq ?_
  refine jc_region ?_
  refine jo_f [(0, 0)] (by kernel_rfl) ?_
  refine jo_end (by kernel_rfl) ?_
  refine jx_then ?_
  refine jc_meet (fun (j : (List GAct)) => match j with | xs_1 => laws_toActS.k_2 xs_1 = some r ∧ (xs_1.length = (a0.length : Int).toNat)) (fun (j : (List GAct)) => match j with | xs_1 => [(2, [], (.slice none 0 0)), (3, [], (.slice (some ⟨b_1, 0, none⟩) ((a0.length : Int).toNat) ((a0.length : Int).toNat)))]) (fun (j : (List GAct)) => match j with | xs_1 => [⟨(some b_1), 37, row encGAct xs_1 []⟩]) ?_ ?_
  · refine jc_block ?_
    obtain ⟨t_6, ht_87, hr_79⟩ := bd h
    refine jc_loop (fun (s : (List GAct) × Int) (x : Unit) => match s, x with | ⟨xs_3, i_4⟩, _ => (xs_3.length = (a0.length : Int).toNat)) (fun (s : (List GAct) × Int) (x : Unit) => match s, x with | ⟨xs_3, i_4⟩, _ => [(0, [], (.slice a0_a a0.length a0_c)), (2, [], (.slice none 0 0)), (3, [], (.slice (some ⟨b_1, 0, none⟩) ((a0.length : Int).toNat) ((a0.length : Int).toNat))), (4, [], (.int .i64 i_4))]) (fun (s : (List GAct) × Int) (x : Unit) => match s, x with | ⟨xs_3, i_4⟩, _ => [⟨(some b_1), 37, row encGAct xs_3 []⟩]) ht_87 () List.length_replicate (by kernel_rfl) [0] (by kernel_rfl) (by kernel_rfl) ?_
    rintro ⟨xs_3, i_4⟩ _ y_80 hn_78 h
    rw [laws_toActS.l_5] at h
    refine jc_seq ?_
    refine jc_seq ?_
    refine jc_region ?_
    refine jo_f [(0, 0), (0, 0), (0, 0), (0, 0)] (by kernel_rfl) ?_
    refine jo_end (by kernel_rfl) ?_
    refine jx_then ?_
    refine jc_cond (decide (i_4 < (a0.length : Int))) (by kernel_rfl) (fun hc_82 => ?_) (fun hc_82 => ?_)
    · replace h := ifT hc_82 h
      refine jc_skip ?_
      refine jx_then ?_
      refine jc_seq ?_
      refine jc_block ?_
      refine jc_region ?_
      refine jo_f [(0, 0), (0, 0), (0, 0), (0, 0)] (by kernel_rfl) ?_
      obtain ⟨x_7, hx_83, h⟩ := bd h
      refine toO (by kernel_rfl) (p_idx 0 a0_a a0.length i_4 5 (by kernel_rfl) (by kernel_rfl) (ix_some hx_83).1 (ltn hx_83 rfl) (a0_h.sp hx_83) (jkO ?_))
      refine toO (by kernel_rfl) (p_ld 0 (aB a0_a) (aO a0_a + i_4.toNat * 5) true (encGAct x_7) (by kernel_rfl) (by kernel_rfl) (by kernel_rfl) (fun w hm => ((hm.exRow a0_h List.not_mem_nil).at hx_83)) (jkO ?_))
      obtain ⟨t_8, ht_84, h⟩ := bd h
      refine toO (by kernel_rfl) (p_call 0 15 #[(.agg #[(.int .i8 x_7.fKind), (.int .i64 x_7.fA), (.int .i64 x_7.fB), (.int .i64 x_7.fC), (.int .i64 x_7.fD)])] (by kernel_rfl) (by kernel_rfl) (fun w hm => laws_toAct.calls x_7 w _ ht_84) ?_)
      rintro w v w' hm ⟨rfl, hm'⟩
      refine ⟨_, hm.app hm', jkO ?_⟩
      clear hm hm'
      obtain ⟨x_9, hx_85, h⟩ := bd h
      refine toO (by kernel_rfl) (p_idx 0 (some ⟨b_1, 0, none⟩) ((a0.length : Int).toNat) i_4 5 (by kernel_rfl) (by kernel_rfl) (ix_some hx_85).1 (ltn hx_85 hn_78) rfl (jkO ?_))
      refine toO (by kernel_rfl) (p_str 0 0 b_1 37 encGAct xs_3 [] i_4 t_8 5 0 [(.int .i8 t_8.fKind), (.int .i64 t_8.fA), (.int .i64 t_8.fB), (.int .i64 t_8.fC), (.int .i64 t_8.fD)] (by kernel_rfl) (by kernel_rfl) (by kernel_rfl) encGAct_len hx_85 (by kernel_rfl) (by kernel_rfl) (jkO ?_))
      refine jo_end (by kernel_rfl) ?_
      refine jx_inn ?_
      refine jx_then ?_
      refine jc_region ?_
      refine jo_f [(0, 0), (0, 0), (0, 0)] (by kernel_rfl) ?_
      refine jo_end (by kernel_rfl) ?_
      exact jx_back ((xs_3.set i_4.toNat t_8), (w64 (i_4 + 1))) () (Option.some.inj h).symm (List.length_set.trans hn_78) [0] (by kernel_rfl) (by kernel_rfl) (by kernel_rfl)
    · replace h := ifF hc_82 h
      refine jc_exit ?_
      refine jx_thenx ?_
      refine jx_leave xs_3 (Option.some.inj h).symm (fun e_86 => ?_)
      subst e_86
      refine jx_ine ?_
      exact jx_meet xs_3 ⟨hr_79, hn_78⟩ (by kernel_rfl) [0] (by kernel_rfl) (by kernel_rfl)
  · rintro xs_1 ⟨h, hn_66⟩
    replace h : laws_toActS.k_2 xs_1 = some r := h
    rw [laws_toActS.k_2] at h
    refine jx_then ?_
    refine jc_seq ?_
    refine jc_region ?_
    refine jo_f [(0, 0), (0, 0)] (by kernel_rfl) ?_
    refine jo_end (by kernel_rfl) ?_
    refine jx_then ?_
    refine jc_ret ?_
    obtain rfl := Option.some.inj h
    exact jx_ret [] (.slice (some ⟨b_1, 0, none⟩) ((a0.length : Int).toNat) ((a0.length : Int).toNat)) [] rfl (by kernel_rfl) (by kernel_rfl) (fun w hm => ⟨(some b_1), ((a0.length : Int).toNat), [], ((a0.length : Int).toNat), hn_66, (fun _ => ⟨Nat.le_refl _, by simp⟩), (fun e => nomatch e), rfl, hm.pick [0] (by kernel_rfl) (by kernel_rfl)⟩)

/-! ### spec.l00In -/
noncomputable def spec_l00In (n0 : Int) (low1 : Int) (high2 : Int) : Option (Bool) := some ((decide (n0 ≥ low1)) && (decide (n0 ≤ high2)))
set_option maxRecDepth 100000 in
theorem spec_l00In.calls (n0 : Int) (low1 : Int) (high2 : Int) (w : World) (r : Bool) (h : spec_l00In n0 low1 high2 = some r) :
    Calls Tryd.prog 47 #[(.int .i64 n0), (.int .i64 low1), (.int .i64 high2)] w fun e w' => ∃ v, e = .returned v ∧ (v = (.bool r) ∧ Mem w [] [] w') := by
  rw [spec_l00In] at h
  refine enter (args := [(.int .i64 n0), (.int .i64 low1), (.int .i64 high2)]) Tryd.func47 rfl Tryd.ntmps47 (by kernel_rfl) (L := []) (W := []) (Mem.start w) ?_
  refine jc_seq ?_
  refine jc_region ?_
  refine jo_f [(0, 0)] (by kernel_rfl) ?_
  refine jo_end (by kernel_rfl) ?_
  refine jx_then ?_
  refine jc_seq ?_
  refine jc_region ?_
  refine jo_f [(0, 0), (0, 0), (0, 0), (0, 0), (0, 1), (0, 1), (0, 1), (0, 0), (0, 0)] (by kernel_rfl) ?_
  refine jo_end (by kernel_rfl) ?_
  refine jx_then ?_
  refine jc_ret ?_
  obtain rfl := Option.some.inj h
  exact jx_ret [] (.bool ((decide (n0 ≥ low1)) && (decide (n0 ≤ high2)))) [] rfl (by kernel_rfl) (by kernel_rfl) (fun w hm => ⟨rfl, hm.pick [] (by kernel_rfl) (by kernel_rfl)⟩)

/-! ### spec.l06Words -/
noncomputable def spec_l06Words (kind0 : Int) : Option (ByteArray × Int) := (spec_l00In kind0 0 3).bind fun t_1 => (if (!t_1) = true then some ((ByteArray.mk #[]), 0) else (ix ([(ByteArray.mk #[116, 117, 114, 110]), (ByteArray.mk #[104, 97, 109, 109, 101, 114]), (ByteArray.mk #[112, 105, 110]), (ByteArray.mk #[109, 111, 118, 101])] : List ByteArray) kind0).bind fun x_2 => (ix ([1, 1, 2, 4] : List Int) kind0).bind fun x_3 => some (x_2, x_3))
set_option maxRecDepth 100000 in
theorem spec_l06Words.calls (kind0 : Int) (w : World) (r : ByteArray × Int) (h : spec_l06Words kind0 = some r) :
    Calls Tryd.prog 33 #[(.int .i64 kind0)] w fun e w' => ∃ v, e = .returned v ∧ (v = .tuple #[(.string r.1), (.int .i64 r.2)] ∧ Mem w [] [] w') := by
  rw [spec_l06Words] at h
  refine enter (args := [(.int .i64 kind0)]) Tryd.func33 rfl Tryd.ntmps33 (by kernel_rfl) (L := []) (W := []) (Mem.start w) ?_
  refine jc_seq ?_
  refine jc_region ?_
  refine jo_f [(0, 0), (0, 0)] (by kernel_rfl) ?_
  refine jo_end (by kernel_rfl) ?_
  refine jx_then ?_
  refine jc_seq ?_
  refine jc_region ?_
  refine toO (by kernel_rfl) (p_a 0 [0] (by kernel_rfl) (fun b => by kernel_rfl) (fun b_1 => jkO ?_))
  refine jo_f [(0, 0)] (by kernel_rfl) ?_
  refine jo_end (by kernel_rfl) ?_
  refine jx_then ?_
  refine jc_seq ?_
  refine jc_region ?_
  refine toO (by kernel_rfl) (p_a 0 [0] (by kernel_rfl) (fun b => by kernel_rfl) (fun b_2 => jkO ?_))
  refine jo_f [(0, 0)] (by kernel_rfl) ?_
  refine jo_end (by kernel_rfl) ?_
  refine jx_then ?_
  refine jc_seq ?_
  refine jc_seq ?_
  refine jc_region ?_
  refine jo_f [(0, 0)] (by kernel_rfl) ?_
  obtain ⟨t_1, ht_5, h⟩ := bd h
  refine toO (by kernel_rfl) (p_call 0 47 #[(.int .i64 kind0), (.int .i64 0), (.int .i64 3)] (by kernel_rfl) (by kernel_rfl) (fun w hm => spec_l00In.calls kind0 0 3 w _ ht_5) ?_)
  rintro w v w' hm ⟨rfl, hm'⟩
  refine ⟨_, hm.app hm', jkO ?_⟩
  clear hm hm'
  refine jo_f [(0, 0)] (by kernel_rfl) ?_
  refine jo_end (by kernel_rfl) ?_
  refine jx_then ?_
  refine jc_cond (!t_1) (by kernel_rfl) (fun hc_6 => ?_) (fun hc_6 => ?_)
  · replace h := ifT hc_6 h
    refine jc_seq ?_
    refine jc_region ?_
    refine jo_f [(0, 0), (0, 0)] (by kernel_rfl) ?_
    refine jo_end (by kernel_rfl) ?_
    refine jx_then ?_
    refine jc_ret ?_
    refine jx_thenr ?_
    obtain rfl := Option.some.inj h
    exact jx_ret [] (.tuple #[(.string (ByteArray.mk #[])), (.int .i64 0)]) [] rfl (by kernel_rfl) (by kernel_rfl) (fun w hm => ⟨rfl, hm.pick [] (by kernel_rfl) (by kernel_rfl)⟩)
  · replace h := ifF hc_6 h
    refine jc_skip ?_
    refine jx_then ?_
    refine jc_seq ?_
    refine jc_draw [⟨(some b_1), 9, row encStr ([(ByteArray.mk #[116, 117, 114, 110]), (ByteArray.mk #[104, 97, 109, 109, 101, 114]), (ByteArray.mk #[112, 105, 110]), (ByteArray.mk #[109, 111, 118, 101])] : List ByteArray) []⟩, ⟨(some b_2), 3, row encI64 ([1, 1, 2, 4] : List Int) []⟩] 10 (by kernel_rfl) (by kernel_rfl) ?_
    refine jd_f [⟨0, 0, 0⟩, ⟨1, 0, 0⟩, ⟨4, 0, 0⟩, ⟨5, 0, 0⟩] 6 (by kernel_rfl) (by kernel_rfl) (fun w h => h.pick [0, 1] (by kernel_rfl) (by kernel_rfl)) (by kernel_rfl) (by kernel_rfl) ?_
    obtain ⟨x_2, hx_7, h⟩ := bd h
    refine jd_v 2 0 (by kernel_rfl) (fun w h => h.pick [0, 1] (by kernel_rfl) (by kernel_rfl)) (by kernel_rfl) (by kernel_rfl) _ (fun w hm => idx_run (a := (some ⟨b_1, 0, none⟩)) (len := 4) (s := 1) (j := kind0) (by kernel_rfl) (ix_some hx_7).1 (ltn hx_7 rfl) rfl) ?_
    refine jd_v 3 0 (by kernel_rfl) (fun w h => h.pick [0, 1] (by kernel_rfl) (by kernel_rfl)) (by kernel_rfl) (by kernel_rfl) _ (fun w hm => ld_run (b := aB (some ⟨b_1, 0, none⟩)) (off := (aO (some ⟨b_1, 0, none⟩) + kind0.toNat * 1)) (s := 1) (agg := false) (vs := (encStr x_2)) (by kernel_rfl) (by kernel_rfl) (.inr rfl) ((hm.ownRow (hh := 0) (o := (some b_1)) (T := 9) (enc := encStr) (xs := ([(ByteArray.mk #[116, 117, 114, 110]), (ByteArray.mk #[104, 97, 109, 109, 101, 114]), (ByteArray.mk #[112, 105, 110]), (ByteArray.mk #[109, 111, 118, 101])] : List ByteArray)) (sp := []) (by kernel_rfl) (fun e => nomatch e) encStr_len).at hx_7)) ?_
    refine jd_f [⟨8, 0, 0⟩] 3 (by kernel_rfl) (by kernel_rfl) (fun w h => h.pick [0, 1] (by kernel_rfl) (by kernel_rfl)) (by kernel_rfl) (by kernel_rfl) ?_
    obtain ⟨x_3, hx_8, h⟩ := bd h
    refine jd_v 6 0 (by kernel_rfl) (fun w h => h.pick [0, 1] (by kernel_rfl) (by kernel_rfl)) (by kernel_rfl) (by kernel_rfl) _ (fun w hm => idx_run (a := (some ⟨b_2, 0, none⟩)) (len := 4) (s := 1) (j := kind0) (by kernel_rfl) (ix_some hx_8).1 (ltn hx_8 rfl) rfl) ?_
    refine jd_v 7 0 (by kernel_rfl) (fun w h => h.pick [0, 1] (by kernel_rfl) (by kernel_rfl)) (by kernel_rfl) (by kernel_rfl) _ (fun w hm => ld_run (b := aB (some ⟨b_2, 0, none⟩)) (off := (aO (some ⟨b_2, 0, none⟩) + kind0.toNat * 1)) (s := 1) (agg := false) (vs := (encI64 x_3)) (by kernel_rfl) (by kernel_rfl) (.inr rfl) ((hm.ownRow (hh := 1) (o := (some b_2)) (T := 3) (enc := encI64) (xs := ([1, 1, 2, 4] : List Int)) (sp := []) (by kernel_rfl) (fun e => nomatch e) encI64_len).at hx_8)) ?_
    refine jd_f [⟨9, 0, 0⟩] 0 (by kernel_rfl) (by kernel_rfl) (fun w h => h.pick [0, 1] (by kernel_rfl) (by kernel_rfl)) (by kernel_rfl) (by kernel_rfl) ?_
    refine jd_end (by kernel_rfl) ?_
    refine jx_then ?_
    refine jc_ret ?_
    obtain rfl := Option.some.inj h
    exact jx_ret [] (.tuple #[(.string x_2), (.int .i64 x_3)]) [] rfl (by kernel_rfl) (by kernel_rfl) (fun w hm => ⟨rfl, hm.pick [] (by kernel_rfl) (by kernel_rfl)⟩)

/-! ### spec.l06Turns -/
noncomputable def spec_l06Turns (n0 : Int) : Option (Bool) := (spec_l00In n0 0 1000000).bind fun t_1 => some t_1
set_option maxRecDepth 100000 in
theorem spec_l06Turns.calls (n0 : Int) (w : World) (r : Bool) (h : spec_l06Turns n0 = some r) :
    Calls Tryd.prog 34 #[(.int .i64 n0)] w fun e w' => ∃ v, e = .returned v ∧ (v = (.bool r) ∧ Mem w [] [] w') := by
  rw [spec_l06Turns] at h
  refine enter (args := [(.int .i64 n0)]) Tryd.func34 rfl Tryd.ntmps34 (by kernel_rfl) (L := []) (W := []) (Mem.start w) ?_
  refine jc_seq ?_
  refine jc_region ?_
  refine jo_f [(0, 0)] (by kernel_rfl) ?_
  refine jo_end (by kernel_rfl) ?_
  refine jx_then ?_
  refine jc_seq ?_
  refine jc_region ?_
  refine jo_f [(0, 0)] (by kernel_rfl) ?_
  obtain ⟨t_1, ht_1, h⟩ := bd h
  refine toO (by kernel_rfl) (p_call 0 47 #[(.int .i64 n0), (.int .i64 0), (.int .i64 1000000)] (by kernel_rfl) (by kernel_rfl) (fun w hm => spec_l00In.calls n0 0 1000000 w _ ht_1) ?_)
  rintro w v w' hm ⟨rfl, hm'⟩
  refine ⟨_, hm.app hm', jkO ?_⟩
  clear hm hm'
  refine jo_f [(0, 0)] (by kernel_rfl) ?_
  refine jo_end (by kernel_rfl) ?_
  refine jx_then ?_
  refine jc_ret ?_
  obtain rfl := Option.some.inj h
  exact jx_ret [] (.bool t_1) [] rfl (by kernel_rfl) (by kernel_rfl) (fun w hm => ⟨rfl, hm.pick [] (by kernel_rfl) (by kernel_rfl)⟩)

/-! ### spec.Decimal -/
noncomputable def spec_Decimal.step (self_ : Int → Option (ByteArray)) (n0 : Int) : Option (ByteArray) := (if (decide (n0 < 10)) = true then some (ByteArray.empty.push (UInt8.ofNat (u8 (w64 (48 + (Int.tmod n0 10)))).toNat)) else (self_ (w64 (Int.tdiv n0 10))).bind fun t_1 => (if t_1.size + (ByteArray.empty.push (UInt8.ofNat (u8 (w64 (48 + (Int.tmod n0 10)))).toNat)).size ≤ 9223372036854775807 then some (t_1 ++ (ByteArray.empty.push (UInt8.ofNat (u8 (w64 (48 + (Int.tmod n0 10)))).toNat))) else none))
noncomputable def spec_Decimal.rec_ : Nat → Int → Option (ByteArray)
  | 0 => fun n0 => none
  | fu + 1 => spec_Decimal.step (spec_Decimal.rec_ fu)
noncomputable def spec_Decimal (n0 : Int) : Option (ByteArray) := spec_Decimal.rec_ 20 n0
set_option maxRecDepth 100000 in
theorem spec_Decimal.step_calls (self_ : Int → Option (ByteArray)) (hself : ∀ (n0 : Int) (w : World) (r : ByteArray) (h : self_ n0 = some r),
    Calls Tryd.prog 35 #[(.int .i64 n0)] w fun e w' => ∃ v, e = .returned v ∧ (v = (.string r) ∧ Mem w [] [] w')) (n0 : Int) (w : World) (r : ByteArray) (h : spec_Decimal.step self_ n0 = some r) :
    Calls Tryd.prog 35 #[(.int .i64 n0)] w fun e w' => ∃ v, e = .returned v ∧ (v = (.string r) ∧ Mem w [] [] w') := by
  rw [spec_Decimal.step] at h
  refine enter (args := [(.int .i64 n0)]) Tryd.func35 rfl Tryd.ntmps35 (by kernel_rfl) (L := []) (W := []) (Mem.start w) ?_
  refine jc_seq ?_
  refine jc_region ?_
  refine jo_f [(0, 0)] (by kernel_rfl) ?_
  refine jo_end (by kernel_rfl) ?_
  refine jx_then ?_
  refine jc_seq ?_
  refine jc_seq ?_
  refine jc_region ?_
  refine jo_f [(0, 0), (0, 0)] (by kernel_rfl) ?_
  refine jo_end (by kernel_rfl) ?_
  refine jx_then ?_
  refine jc_cond (decide (n0 < 10)) (by kernel_rfl) (fun hc_3 => ?_) (fun hc_3 => ?_)
  · replace h := ifT hc_3 h
    refine jc_seq ?_
    refine jc_region ?_
    refine jo_f [(0, 0), (0, 0), (0, 0), (0, 0)] (by kernel_rfl) ?_
    refine toO (by kernel_rfl) (p_a 0 [0] (by kernel_rfl) (fun b => by kernel_rfl) (fun b_4 => jkO ?_))
    refine toO (by kernel_rfl) (p_s 0 [0] (by kernel_rfl) (by kernel_rfl) (jkO ?_))
    refine jo_f [(0, 0)] (by kernel_rfl) ?_
    refine jo_end (by kernel_rfl) ?_
    refine jx_then ?_
    refine jc_ret ?_
    refine jx_thenr ?_
    obtain rfl := Option.some.inj h
    exact jx_ret [] (.string (ByteArray.empty.push (UInt8.ofNat (u8 (w64 (48 + (Int.tmod n0 10)))).toNat))) [] rfl (by kernel_rfl) (by kernel_rfl) (fun w hm => ⟨rfl, hm.pick [] (by kernel_rfl) (by kernel_rfl)⟩)
  · replace h := ifF hc_3 h
    refine jc_skip ?_
    refine jx_then ?_
    refine jc_seq ?_
    refine jc_draw [] 11 (by kernel_rfl) (by kernel_rfl) ?_
    refine jd_f [⟨0, 0, 0⟩, ⟨1, 0, 0⟩, ⟨3, 0, 0⟩, ⟨4, 0, 0⟩, ⟨5, 0, 0⟩, ⟨6, 0, 0⟩] 5 (by kernel_rfl) (by kernel_rfl) (fun w h => h.pick [] (by kernel_rfl) (by kernel_rfl)) (by kernel_rfl) (by kernel_rfl) ?_
    refine toD2 2 7 (by kernel_rfl) ?_ ?_
    · obtain ⟨t_1, ht_5, h⟩ := bd h
      refine p_call 0 35 #[(.int .i64 (w64 (Int.tdiv n0 10)))] (by kernel_rfl) (by kernel_rfl) (fun w hm => hself (w64 (Int.tdiv n0 10)) w _ ht_5) ?_
      rintro w v w' hm ⟨rfl, hm'⟩
      refine ⟨_, hm.app hm', jkD (fun w h => h.pick [] (by kernel_rfl) (by kernel_rfl)) ?_⟩
      clear hm hm'
      refine toD 7 (by kernel_rfl) (p_a 0 [0] (by kernel_rfl) (fun b => by kernel_rfl) (fun b_6 => jkD (fun w h => h.pick [] (by kernel_rfl) (by kernel_rfl)) ?_))
      refine toD 8 (by kernel_rfl) (p_s 0 [0] (by kernel_rfl) (by kernel_rfl) (jkD (fun w h => h.pick [] (by kernel_rfl) (by kernel_rfl)) ?_))
      obtain ⟨hg_7, h⟩ := gd h
      refine jd_v 9 0 (by kernel_rfl) (fun w h => h.pick [] (by kernel_rfl) (by kernel_rfl)) (by kernel_rfl) (by kernel_rfl) _ (fun w hm => cat_run (a := t_1) (b := (ByteArray.empty.push (UInt8.ofNat (u8 (w64 (48 + (Int.tmod n0 10)))).toNat))) (by kernel_rfl) hg_7) ?_
      refine jd_f [⟨10, 0, 0⟩] 0 (by kernel_rfl) (by kernel_rfl) (fun w h => h.pick [] (by kernel_rfl) (by kernel_rfl)) (by kernel_rfl) (by kernel_rfl) ?_
      refine jd_end (by kernel_rfl) ?_
      refine jx_then ?_
      refine jc_ret ?_
      obtain rfl := Option.some.inj h
      exact jx_ret [] (.string (t_1 ++ (ByteArray.empty.push (UInt8.ofNat (u8 (w64 (48 + (Int.tmod n0 10)))).toNat)))) [] rfl (by kernel_rfl) (by kernel_rfl) (fun w hm => ⟨rfl, hm.pick [] (by kernel_rfl) (by kernel_rfl)⟩)
    · refine p_a 0 [0] (by kernel_rfl) (fun b => by kernel_rfl) (fun b_8 => jkD (fun w h => h.pick [] (by kernel_rfl) (by kernel_rfl)) ?_)
      refine toD2 2 8 (by kernel_rfl) ?_ ?_
      · obtain ⟨t_1, ht_9, h⟩ := bd h
        refine p_call 0 35 #[(.int .i64 (w64 (Int.tdiv n0 10)))] (by kernel_rfl) (by kernel_rfl) (fun w hm => hself (w64 (Int.tdiv n0 10)) w _ ht_9) ?_
        rintro w v w' hm ⟨rfl, hm'⟩
        refine ⟨_, hm.app hm', jkD (fun w h => h.pick [] (by kernel_rfl) (by kernel_rfl)) ?_⟩
        clear hm hm'
        refine toD 8 (by kernel_rfl) (p_s 0 [0] (by kernel_rfl) (by kernel_rfl) (jkD (fun w h => h.pick [] (by kernel_rfl) (by kernel_rfl)) ?_))
        obtain ⟨hg_10, h⟩ := gd h
        refine jd_v 9 0 (by kernel_rfl) (fun w h => h.pick [] (by kernel_rfl) (by kernel_rfl)) (by kernel_rfl) (by kernel_rfl) _ (fun w hm => cat_run (a := t_1) (b := (ByteArray.empty.push (UInt8.ofNat (u8 (w64 (48 + (Int.tmod n0 10)))).toNat))) (by kernel_rfl) hg_10) ?_
        refine jd_f [⟨10, 0, 0⟩] 0 (by kernel_rfl) (by kernel_rfl) (fun w h => h.pick [] (by kernel_rfl) (by kernel_rfl)) (by kernel_rfl) (by kernel_rfl) ?_
        refine jd_end (by kernel_rfl) ?_
        refine jx_then ?_
        refine jc_ret ?_
        obtain rfl := Option.some.inj h
        exact jx_ret [] (.string (t_1 ++ (ByteArray.empty.push (UInt8.ofNat (u8 (w64 (48 + (Int.tmod n0 10)))).toNat)))) [] rfl (by kernel_rfl) (by kernel_rfl) (fun w hm => ⟨rfl, hm.pick [] (by kernel_rfl) (by kernel_rfl)⟩)
      · refine p_s 0 [0] (by kernel_rfl) (by kernel_rfl) (jkD (fun w h => h.pick [] (by kernel_rfl) (by kernel_rfl)) ?_)
        obtain ⟨t_1, ht_11, h⟩ := bd h
        refine toD 2 (by kernel_rfl) (p_call 0 35 #[(.int .i64 (w64 (Int.tdiv n0 10)))] (by kernel_rfl) (by kernel_rfl) (fun w hm => hself (w64 (Int.tdiv n0 10)) w _ ht_11) ?_)
        rintro w v w' hm ⟨rfl, hm'⟩
        refine ⟨_, hm.app hm', jkD (fun w h => h.pick [] (by kernel_rfl) (by kernel_rfl)) ?_⟩
        clear hm hm'
        obtain ⟨hg_12, h⟩ := gd h
        refine jd_v 9 0 (by kernel_rfl) (fun w h => h.pick [] (by kernel_rfl) (by kernel_rfl)) (by kernel_rfl) (by kernel_rfl) _ (fun w hm => cat_run (a := t_1) (b := (ByteArray.empty.push (UInt8.ofNat (u8 (w64 (48 + (Int.tmod n0 10)))).toNat))) (by kernel_rfl) hg_12) ?_
        refine jd_f [⟨10, 0, 0⟩] 0 (by kernel_rfl) (by kernel_rfl) (fun w h => h.pick [] (by kernel_rfl) (by kernel_rfl)) (by kernel_rfl) (by kernel_rfl) ?_
        refine jd_end (by kernel_rfl) ?_
        refine jx_then ?_
        refine jc_ret ?_
        obtain rfl := Option.some.inj h
        exact jx_ret [] (.string (t_1 ++ (ByteArray.empty.push (UInt8.ofNat (u8 (w64 (48 + (Int.tmod n0 10)))).toNat)))) [] rfl (by kernel_rfl) (by kernel_rfl) (fun w hm => ⟨rfl, hm.pick [] (by kernel_rfl) (by kernel_rfl)⟩)
theorem spec_Decimal.rec_calls : ∀ (fu : Nat) (n0 : Int) (w : World) (r : ByteArray) (h : spec_Decimal.rec_ fu n0 = some r),
    Calls Tryd.prog 35 #[(.int .i64 n0)] w fun e w' => ∃ v, e = .returned v ∧ (v = (.string r) ∧ Mem w [] [] w')
  | 0, n0, w, r, h => nomatch (show none = some r from h)
  | fu + 1, n0, w, r, h => spec_Decimal.step_calls (spec_Decimal.rec_ fu) (spec_Decimal.rec_calls fu) n0 w r h
theorem spec_Decimal.calls (n0 : Int) (w : World) (r : ByteArray) (h : spec_Decimal n0 = some r) :
    Calls Tryd.prog 35 #[(.int .i64 n0)] w fun e w' => ∃ v, e = .returned v ∧ (v = (.string r) ∧ Mem w [] [] w') :=
  spec_Decimal.rec_calls 20 n0 w r h

/-! ### spec.l06Text -/
noncomputable def spec_l06Text.k_2 (list0 : List GAct) (s_1 : ByteArray) : Option (ByteArray × Bool) := some (s_1, (decide ((list0.length : Int) ≤ 60)))
noncomputable def spec_l06Text.k_14 (i_4 : Int) (s_13 : ByteArray) : Option ((ByteArray × Int) ⊕ ((ByteArray × Bool) ⊕ ByteArray)) := (if s_13.size + (ByteArray.mk #[10]).size ≤ 9223372036854775807 then some (.inl ((s_13 ++ (ByteArray.mk #[10])), (w64 (i_4 + 1)))) else none)
noncomputable def spec_l06Text.k_20 (t_8 : ByteArray × Int) (x_9 : GAct) (x_10 : GAct) (x_11 : GAct) (x_12 : GAct) (s_15 : ByteArray) (i_16 : Int) (q_19 : Bool) : Option ((ByteArray × Int) ⊕ ((ByteArray × Bool) ⊕ ByteArray)) := (if q_19 = true then some (.inr (.inl ((ByteArray.mk #[]), false))) else (if (decide (i_16 < t_8.2)) = true then (ix ((Arr.set (Arr.set (Arr.set (Arr.set (Arr.rep 4 0) 0 x_9.fA) 1 x_10.fB) 2 x_11.fC) 3 x_12.fD).1) i_16).bind fun x_21 => (spec_Decimal x_21).bind fun t_22 => (if (ByteArray.mk #[32]).size + t_22.size ≤ 9223372036854775807 then (if s_15.size + ((ByteArray.mk #[32]) ++ t_22).size ≤ 9223372036854775807 then some (.inl ((s_15 ++ ((ByteArray.mk #[32]) ++ t_22)), (w64 (i_16 + 1)))) else none) else none) else some (.inl (s_15, (w64 (i_16 + 1))))))
noncomputable def spec_l06Text.l_17 (t_8 : ByteArray × Int) (x_9 : GAct) (x_10 : GAct) (x_11 : GAct) (x_12 : GAct) : (ByteArray × Int) → Option ((ByteArray × Int) ⊕ ((ByteArray × Bool) ⊕ ByteArray))
  | (s_15, i_16) => (if (decide (i_16 < 4)) = true then (if (decide (i_16 < t_8.2)) = true then (ix ((Arr.set (Arr.set (Arr.set (Arr.set (Arr.rep 4 0) 0 x_9.fA) 1 x_10.fB) 2 x_11.fC) 3 x_12.fD).1) i_16).bind fun x_23 => (spec_l06Turns x_23).bind fun t_24 => (if (!t_24) = true then spec_l06Text.k_20 t_8 x_9 x_10 x_11 x_12 s_15 i_16 true else (if (decide (i_16 ≥ t_8.2)) = true then (ix ((Arr.set (Arr.set (Arr.set (Arr.set (Arr.rep 4 0) 0 x_9.fA) 1 x_10.fB) 2 x_11.fC) 3 x_12.fD).1) i_16).bind fun x_25 => spec_l06Text.k_20 t_8 x_9 x_10 x_11 x_12 s_15 i_16 (x_25 != 0) else spec_l06Text.k_20 t_8 x_9 x_10 x_11 x_12 s_15 i_16 false)) else (if (decide (i_16 ≥ t_8.2)) = true then (ix ((Arr.set (Arr.set (Arr.set (Arr.set (Arr.rep 4 0) 0 x_9.fA) 1 x_10.fB) 2 x_11.fC) 3 x_12.fD).1) i_16).bind fun x_26 => spec_l06Text.k_20 t_8 x_9 x_10 x_11 x_12 s_15 i_16 (x_26 != 0) else spec_l06Text.k_20 t_8 x_9 x_10 x_11 x_12 s_15 i_16 false)) else some (.inr (.inr s_15)))
noncomputable def spec_l06Text.l_5 (list0 : List GAct) : (ByteArray × Int) → Option ((ByteArray × Int) ⊕ ((ByteArray × Bool) ⊕ ByteArray))
  | (s_3, i_4) => (if (decide (i_4 < (list0.length : Int))) = true then (ix list0 i_4).bind fun x_7 => (spec_l06Words (w64 x_7.fKind)).bind fun t_8 => (if (t_8.1.toList == (ByteArray.mk #[]).toList) = true then some (.inr (.inl ((ByteArray.mk #[]), false))) else (if s_3.size + t_8.1.size ≤ 9223372036854775807 then (ix list0 i_4).bind fun x_9 => (ix list0 i_4).bind fun x_10 => (ix list0 i_4).bind fun x_11 => (ix list0 i_4).bind fun x_12 => (loop (spec_l06Text.l_17 t_8 x_9 x_10 x_11 x_12) ((s_3 ++ t_8.1), 0)).bind fun t_18 => match t_18 with | .inl p => some (.inr (.inl p)) | .inr p => spec_l06Text.k_14 i_4 p else none)) else some (.inr (.inr s_3)))
noncomputable def spec_l06Text (list0 : List GAct) : Option (ByteArray × Bool) := (loop (spec_l06Text.l_5 list0) ((ByteArray.mk #[]), 0)).bind fun t_6 => match t_6 with | .inl p => some p | .inr p => spec_l06Text.k_2 list0 p
set_option maxRecDepth 100000 in
set_option maxHeartbeats 8000000 in
theorem spec_l06Text.calls (list0 : List GAct) (w : World) (r : ByteArray × Bool) (list0_a : Option Addr) (list0_an : Nat) (list0_c : Nat) (list0_h : Rw w list0_a 5 encGAct list0) (list0_hn : list0.length = list0_an) (h : spec_l06Text list0 = some r) :
    Calls Tryd.prog 14 #[(.slice list0_a list0_an list0_c)] w fun e w' => ∃ v, e = .returned v ∧ (v = .tuple #[(.string r.1), (.bool r.2)] ∧ Mem w [] [] w') := by
  subst list0_hn
  rw [spec_l06Text] at h
  refine enter (args := [(.slice list0_a list0.length list0_c)]) Tryd.func14 rfl Tryd.ntmps14 (by kernel_rfl) (L := []) (W := []) (Mem.start w) ?_
  refine jc_seq ?_
  refine jc_region ?_
  refine jo_f [(0, 0), (0, 0)] (by kernel_rfl) ?_
  refine jo_end (by kernel_rfl) ?_
  refine jx_then ?_
  refine jc_seq ?_
  refine jc_region ?_
  refine jo_f [(0, 0)] (by kernel_rfl) ?_
  refine jo_end (by kernel_rfl) ?_
  refine jx_then ?_
  refine jc_seq ?_
  refine jc_seq ?_
  refine jc_region ?_
  refine jo_f [(0, 0)] (by kernel_rfl) ?_
  refine jo_end (by kernel_rfl) ?_
  refine jx_then ?_
  refine jc_meet (fun (j : ByteArray) => match j with | s_1 => spec_l06Text.k_2 list0 s_1 = some r) (fun (j : ByteArray) => match j with | s_1 => [(0, [], (.slice list0_a list0.length list0_c)), (2, [], (.string (ByteArray.mk #[]))), (3, [], (.bool false)), (4, [], (.string s_1))]) (fun (j : ByteArray) => match j with | s_1 => []) ?_ ?_
  · refine jc_block ?_
    obtain ⟨t_6, ht_3252, hr_2978⟩ := bd h
    refine jc_loop (fun (s : ByteArray × Int) (x : Unit) => match s, x with | ⟨s_3, i_4⟩, _ => True) (fun (s : ByteArray × Int) (x : Unit) => match s, x with | ⟨s_3, i_4⟩, _ => [(0, [], (.slice list0_a list0.length list0_c)), (2, [], (.string (ByteArray.mk #[]))), (3, [], (.bool false)), (4, [], (.string s_3)), (5, [], (.int .i64 i_4))]) (fun (s : ByteArray × Int) (x : Unit) => match s, x with | ⟨s_3, i_4⟩, _ => []) ht_3252 () trivial (by kernel_rfl) [] (by kernel_rfl) (by kernel_rfl) ?_
    rintro ⟨s_3, i_4⟩ _ y_2979 _ h
    rw [spec_l06Text.l_5] at h
    refine jc_seq ?_
    refine jc_seq ?_
    refine jc_region ?_
    refine jo_f [(0, 0), (0, 0), (0, 0), (0, 0)] (by kernel_rfl) ?_
    refine jo_end (by kernel_rfl) ?_
    refine jx_then ?_
    refine jc_cond (decide (i_4 < (list0.length : Int))) (by kernel_rfl) (fun hc_2981 => ?_) (fun hc_2981 => ?_)
    · replace h := ifT hc_2981 h
      refine jc_skip ?_
      refine jx_then ?_
      refine jc_seq ?_
      refine jc_block ?_
      refine jc_seq ?_
      refine jc_region ?_
      refine jo_f [(0, 0), (0, 0)] (by kernel_rfl) ?_
      obtain ⟨x_7, hx_2982, h⟩ := bd h
      refine toO (by kernel_rfl) (p_idx 0 list0_a list0.length i_4 5 (by kernel_rfl) (by kernel_rfl) (ix_some hx_2982).1 (ltn hx_2982 rfl) (list0_h.sp hx_2982) (jkO ?_))
      refine jo_f [(0, 0)] (by kernel_rfl) ?_
      refine toO (by kernel_rfl) (p_ld 0 (aB list0_a) (aO list0_a + i_4.toNat * 5) false (((encGAct x_7).drop 0).take 1) (by kernel_rfl) (by kernel_rfl) (by kernel_rfl) (fun w hm => (((hm.exRow list0_h List.not_mem_nil).at hx_2982).sub 0 1)) (jkO ?_))
      refine jo_f [(0, 0)] (by kernel_rfl) ?_
      obtain ⟨t_8, ht_2983, h⟩ := bd h
      refine toO (by kernel_rfl) (p_call 0 33 #[(.int .i64 (w64 x_7.fKind))] (by kernel_rfl) (by kernel_rfl) (fun w hm => spec_l06Words.calls (w64 x_7.fKind) w _ ht_2983) ?_)
      rintro w v w' hm ⟨rfl, hm'⟩
      refine ⟨_, hm.app hm', jkO ?_⟩
      clear hm hm'
      refine jo_f [(0, 0), (0, 0), (0, 0), (0, 0), (0, 0)] (by kernel_rfl) ?_
      refine jo_end (by kernel_rfl) ?_
      refine jx_then ?_
      refine jc_seq ?_
      refine jc_seq ?_
      refine jc_region ?_
      refine jo_f [(0, 0), (0, 0)] (by kernel_rfl) ?_
      refine jo_end (by kernel_rfl) ?_
      refine jx_then ?_
      refine jc_cond (t_8.1.toList == (ByteArray.mk #[]).toList) (by kernel_rfl) (fun hc_2985 => ?_) (fun hc_2985 => ?_)
      · replace h := ifT hc_2985 h
        refine jc_seq ?_
        refine jc_region ?_
        refine jo_f [(0, 0), (0, 0)] (by kernel_rfl) ?_
        refine jo_end (by kernel_rfl) ?_
        refine jx_then ?_
        refine jc_ret ?_
        refine jx_thenr ?_
        refine jx_inr ?_
        refine jx_thenr ?_
        refine jx_leaver (.inl ((ByteArray.mk #[]), false)) (Option.some.inj h).symm (fun e_2986 => ?_)
        subst e_2986
        refine jx_inr ?_
        refine jx_thenr ?_
        refine jx_thenr ?_
        obtain rfl := Option.some.inj hr_2978
        exact jx_ret [] (.tuple #[(.string (ByteArray.mk #[])), (.bool false)]) [] rfl (by kernel_rfl) (by kernel_rfl) (fun w hm => ⟨rfl, hm.pick [] (by kernel_rfl) (by kernel_rfl)⟩)
      · replace h := ifF hc_2985 h
        refine jc_skip ?_
        refine jx_then ?_
        refine jc_seq ?_
        refine jc_region ?_
        refine jo_f [(0, 0), (0, 0)] (by kernel_rfl) ?_
        obtain ⟨hg_2987, h⟩ := gd h
        refine toO (by kernel_rfl) (p_v 0 (by kernel_rfl) _ (fun w hm => cat_run (a := s_3) (b := t_8.1) (by kernel_rfl) hg_2987) (jkO ?_))
        refine jo_f [(0, 0)] (by kernel_rfl) ?_
        refine jo_end (by kernel_rfl) ?_
        refine jx_then ?_
        refine jc_seq ?_
        refine jc_draw [] 23 (by kernel_rfl) (by kernel_rfl) ?_
        refine jd_f [⟨0, 0, 0⟩, ⟨1, 0, 0⟩, ⟨5, 0, 0⟩, ⟨6, 0, 0⟩, ⟨10, 0, 0⟩, ⟨11, 0, 0⟩, ⟨15, 0, 0⟩, ⟨16, 0, 0⟩] 15 (by kernel_rfl) (by kernel_rfl) (fun w h => h.pick [] (by kernel_rfl) (by kernel_rfl)) (by kernel_rfl) (by kernel_rfl) ?_
        obtain ⟨x_9, hx_2988, h⟩ := bd h
        refine jd_v 2 0 (by kernel_rfl) (fun w h => h.pick [] (by kernel_rfl) (by kernel_rfl)) (by kernel_rfl) (by kernel_rfl) _ (fun w hm => idx_run (a := list0_a) (len := list0.length) (s := 5) (j := i_4) (by kernel_rfl) (ix_some hx_2988).1 (ltn hx_2988 rfl) (list0_h.sp hx_2988)) ?_
        refine jd_f [⟨3, 0, 0⟩] 13 (by kernel_rfl) (by kernel_rfl) (fun w h => h.pick [] (by kernel_rfl) (by kernel_rfl)) (by kernel_rfl) (by kernel_rfl) ?_
        refine jd_v 4 0 (by kernel_rfl) (fun w h => h.pick [] (by kernel_rfl) (by kernel_rfl)) (by kernel_rfl) (by kernel_rfl) _ (fun w hm => ld_run (b := aB list0_a) (off := (aO list0_a + i_4.toNat * 5 + 1)) (s := 1) (agg := false) (vs := (((encGAct x_9).drop 1).take 1)) (by kernel_rfl) (by kernel_rfl) (.inr rfl) (((hm.exRow list0_h List.not_mem_nil).at hx_2988).sub 1 1)) ?_
        obtain ⟨x_10, hx_2989, h⟩ := bd h
        refine jd_v 7 0 (by kernel_rfl) (fun w h => h.pick [] (by kernel_rfl) (by kernel_rfl)) (by kernel_rfl) (by kernel_rfl) _ (fun w hm => idx_run (a := list0_a) (len := list0.length) (s := 5) (j := i_4) (by kernel_rfl) (ix_some hx_2989).1 (ltn hx_2989 rfl) (list0_h.sp hx_2989)) ?_
        refine jd_f [⟨8, 0, 0⟩] 10 (by kernel_rfl) (by kernel_rfl) (fun w h => h.pick [] (by kernel_rfl) (by kernel_rfl)) (by kernel_rfl) (by kernel_rfl) ?_
        refine jd_v 9 0 (by kernel_rfl) (fun w h => h.pick [] (by kernel_rfl) (by kernel_rfl)) (by kernel_rfl) (by kernel_rfl) _ (fun w hm => ld_run (b := aB list0_a) (off := (aO list0_a + i_4.toNat * 5 + 2)) (s := 1) (agg := false) (vs := (((encGAct x_10).drop 2).take 1)) (by kernel_rfl) (by kernel_rfl) (.inr rfl) (((hm.exRow list0_h List.not_mem_nil).at hx_2989).sub 2 1)) ?_
        obtain ⟨x_11, hx_2990, h⟩ := bd h
        refine jd_v 12 0 (by kernel_rfl) (fun w h => h.pick [] (by kernel_rfl) (by kernel_rfl)) (by kernel_rfl) (by kernel_rfl) _ (fun w hm => idx_run (a := list0_a) (len := list0.length) (s := 5) (j := i_4) (by kernel_rfl) (ix_some hx_2990).1 (ltn hx_2990 rfl) (list0_h.sp hx_2990)) ?_
        refine jd_f [⟨13, 0, 0⟩] 7 (by kernel_rfl) (by kernel_rfl) (fun w h => h.pick [] (by kernel_rfl) (by kernel_rfl)) (by kernel_rfl) (by kernel_rfl) ?_
        refine jd_v 14 0 (by kernel_rfl) (fun w h => h.pick [] (by kernel_rfl) (by kernel_rfl)) (by kernel_rfl) (by kernel_rfl) _ (fun w hm => ld_run (b := aB list0_a) (off := (aO list0_a + i_4.toNat * 5 + 3)) (s := 1) (agg := false) (vs := (((encGAct x_11).drop 3).take 1)) (by kernel_rfl) (by kernel_rfl) (.inr rfl) (((hm.exRow list0_h List.not_mem_nil).at hx_2990).sub 3 1)) ?_
        obtain ⟨x_12, hx_2991, h⟩ := bd h
        refine jd_v 17 0 (by kernel_rfl) (fun w h => h.pick [] (by kernel_rfl) (by kernel_rfl)) (by kernel_rfl) (by kernel_rfl) _ (fun w hm => idx_run (a := list0_a) (len := list0.length) (s := 5) (j := i_4) (by kernel_rfl) (ix_some hx_2991).1 (ltn hx_2991 rfl) (list0_h.sp hx_2991)) ?_
        refine jd_f [⟨18, 0, 0⟩] 4 (by kernel_rfl) (by kernel_rfl) (fun w h => h.pick [] (by kernel_rfl) (by kernel_rfl)) (by kernel_rfl) (by kernel_rfl) ?_
        refine jd_v 19 0 (by kernel_rfl) (fun w h => h.pick [] (by kernel_rfl) (by kernel_rfl)) (by kernel_rfl) (by kernel_rfl) _ (fun w hm => ld_run (b := aB list0_a) (off := (aO list0_a + i_4.toNat * 5 + 4)) (s := 1) (agg := false) (vs := (((encGAct x_12).drop 4).take 1)) (by kernel_rfl) (by kernel_rfl) (.inr rfl) (((hm.exRow list0_h List.not_mem_nil).at hx_2991).sub 4 1)) ?_
        refine jd_f [⟨20, 0, 0⟩] 2 (by kernel_rfl) (by kernel_rfl) (fun w h => h.pick [] (by kernel_rfl) (by kernel_rfl)) (by kernel_rfl) (by kernel_rfl) ?_
        refine toD 21 (by kernel_rfl) (p_a 0 [0] (by kernel_rfl) (fun b => by kernel_rfl) (fun b_2992 => jkD (fun w h => h.pick [] (by kernel_rfl) (by kernel_rfl)) ?_))
        refine toD 22 (by kernel_rfl) (p_sA 0 0 b_2992 4 1 69 encI64 (Arr.rep 4 0) (Arr.set (Arr.set (Arr.set (Arr.set (Arr.rep 4 0) 0 x_9.fA) 1 x_10.fB) 2 x_11.fC) 3 x_12.fD) (by kernel_rfl) (by kernel_rfl) (by kernel_rfl) encI64_len encI64_cell (by kernel_rfl) (jkD (fun w h => h.pick [] (by kernel_rfl) (by kernel_rfl)) ?_))
        refine jd_end (by kernel_rfl) ?_
        refine jx_then ?_
        refine jc_seq ?_
        refine jc_seq ?_
        refine jc_region ?_
        refine jo_f [(0, 0)] (by kernel_rfl) ?_
        refine jo_end (by kernel_rfl) ?_
        refine jx_then ?_
        refine jc_meet (fun (j : ByteArray) => match j with | s_13 => spec_l06Text.k_14 i_4 s_13 = some y_2979) (fun (j : ByteArray) => match j with | s_13 => [(0, [], (.slice list0_a list0.length list0_c)), (2, [], (.string (ByteArray.mk #[]))), (3, [], (.bool false)), (4, [], (.string s_13)), (5, [], (.int .i64 i_4))]) (fun (j : ByteArray) => match j with | s_13 => [⟨(some b_2992), 69, row encI64 ((Arr.set (Arr.set (Arr.set (Arr.set (Arr.rep 4 0) 0 x_9.fA) 1 x_10.fB) 2 x_11.fC) 3 x_12.fD).1) []⟩]) ?_ ?_
        · refine jc_block ?_
          obtain ⟨t_18, ht_3250, hr_3204⟩ := bd h
          refine jc_loop (fun (s : ByteArray × Int) (x : Unit) => match s, x with | ⟨s_15, i_16⟩, _ => True) (fun (s : ByteArray × Int) (x : Unit) => match s, x with | ⟨s_15, i_16⟩, _ => [(0, [], (.slice list0_a list0.length list0_c)), (2, [], (.string (ByteArray.mk #[]))), (3, [], (.bool false)), (4, [], (.string s_15)), (5, [], (.int .i64 i_4)), (7, [], (.int .i64 t_8.2)), (8, [], (.pointer (some ⟨b_2992, 0, none⟩))), (9, [], (.int .i64 i_16))]) (fun (s : ByteArray × Int) (x : Unit) => match s, x with | ⟨s_15, i_16⟩, _ => [⟨(some b_2992), 69, row encI64 ((Arr.set (Arr.set (Arr.set (Arr.set (Arr.rep 4 0) 0 x_9.fA) 1 x_10.fB) 2 x_11.fC) 3 x_12.fD).1) []⟩]) ht_3250 () trivial (by kernel_rfl) [0] (by kernel_rfl) (by kernel_rfl) ?_
          rintro ⟨s_15, i_16⟩ _ y_3205 _ h
          rw [spec_l06Text.l_17] at h
          refine jc_seq ?_
          refine jc_seq ?_
          refine jc_region ?_
          refine jo_f [(0, 0), (0, 0)] (by kernel_rfl) ?_
          refine jo_end (by kernel_rfl) ?_
          refine jx_then ?_
          refine jc_cond (decide (i_16 < 4)) (by kernel_rfl) (fun hc_3207 => ?_) (fun hc_3207 => ?_)
          · replace h := ifT hc_3207 h
            refine jc_skip ?_
            refine jx_then ?_
            refine jc_seq ?_
            refine jc_block ?_
            refine jc_seq ?_
            refine jc_seq ?_
            refine jc_meet (fun (j : Bool) => match j with | q_19 => spec_l06Text.k_20 t_8 x_9 x_10 x_11 x_12 s_15 i_16 q_19 = some y_3205) (fun (j : Bool) => match j with | q_19 => [(0, [], (.slice list0_a list0.length list0_c)), (2, [], (.string (ByteArray.mk #[]))), (3, [], (.bool false)), (4, [], (.string s_15)), (5, [], (.int .i64 i_4)), (7, [], (.int .i64 t_8.2)), (8, [], (.pointer (some ⟨b_2992, 0, none⟩))), (9, [], (.int .i64 i_16)), (76, [], (.bool q_19))]) (fun (j : Bool) => match j with | q_19 => [⟨(some b_2992), 69, row encI64 ((Arr.set (Arr.set (Arr.set (Arr.set (Arr.rep 4 0) 0 x_9.fA) 1 x_10.fB) 2 x_11.fC) 3 x_12.fD).1) []⟩]) ?_ ?_
            · refine jc_region ?_
              refine jo_f [(0, 0), (0, 0), (0, 0), (0, 0), (0, 1)] (by kernel_rfl) ?_
              refine jo_split 59 (decide (i_16 < t_8.2)) (by kernel_rfl) (fun hc_3241 => ?_) (fun hc_3241 => ?_)
              · replace h := ifT hc_3241 h
                obtain ⟨x_23, hx_3242, h⟩ := bd h
                refine toO (by kernel_rfl) (p_idx 2 (some ⟨b_2992, 0, none⟩) 4 i_16 1 (by kernel_rfl) (by kernel_rfl) (ix_some hx_3242).1 (ltn hx_3242 (Arr.set (Arr.set (Arr.set (Arr.set (Arr.rep 4 0) 0 x_9.fA) 1 x_10.fB) 2 x_11.fC) 3 x_12.fD).2) rfl (jkO ?_))
                refine toO (by kernel_rfl) (p_ld 2 (aB (some ⟨b_2992, 0, none⟩)) (aO (some ⟨b_2992, 0, none⟩) + i_16.toNat * 1) false (encI64 x_23) (by kernel_rfl) (by kernel_rfl) (by kernel_rfl) (fun w hm => ((hm.ownRow (hh := 0) (o := (some b_2992)) (T := 69) (enc := encI64) (xs := ((Arr.set (Arr.set (Arr.set (Arr.set (Arr.rep 4 0) 0 x_9.fA) 1 x_10.fB) 2 x_11.fC) 3 x_12.fD).1)) (sp := []) (by kernel_rfl) (fun e => nomatch e) encI64_len).at hx_3242)) (jkO ?_))
                obtain ⟨t_24, ht_3243, h⟩ := bd h
                refine toO (by kernel_rfl) (p_call 2 34 #[(.int .i64 x_23)] (by kernel_rfl) (by kernel_rfl) (fun w hm => spec_l06Turns.calls x_23 w _ ht_3243) ?_)
                rintro w v w' hm ⟨rfl, hm'⟩
                refine ⟨_, hm.app hm', jkO ?_⟩
                clear hm hm'
                refine jo_f [(0, 2), (0, 4), (0, 0), (0, 1), (0, 1), (0, 1)] (by kernel_rfl) ?_
                refine jo_split 66 (!t_24) (by kernel_rfl) (fun hc_3244 => ?_) (fun hc_3244 => ?_)
                · replace h := ifT hc_3244 h
                  refine jo_f [(0, 3), (0, 3), (0, 3), (0, 3), (0, 3), (0, 3), (0, 4)] (by kernel_rfl) ?_
                  refine jo_end (by kernel_rfl) ?_
                  exact jx_meet true h (by kernel_rfl) [0] (by kernel_rfl) (by kernel_rfl)
                · replace h := ifF hc_3244 h
                  refine jo_f [(0, 2), (0, 1)] (by kernel_rfl) ?_
                  refine jo_split 70 (decide (i_16 ≥ t_8.2)) (by kernel_rfl) (fun hc_3245 => ?_) (fun hc_3245 => ?_)
                  · replace h := ifT hc_3245 h
                    obtain ⟨x_25, hx_3246, h⟩ := bd h
                    refine toO (by kernel_rfl) (p_idx 2 (some ⟨b_2992, 0, none⟩) 4 i_16 1 (by kernel_rfl) (by kernel_rfl) (ix_some hx_3246).1 (ltn hx_3246 (Arr.set (Arr.set (Arr.set (Arr.set (Arr.rep 4 0) 0 x_9.fA) 1 x_10.fB) 2 x_11.fC) 3 x_12.fD).2) rfl (jkO ?_))
                    refine toO (by kernel_rfl) (p_ld 2 (aB (some ⟨b_2992, 0, none⟩)) (aO (some ⟨b_2992, 0, none⟩) + i_16.toNat * 1) false (encI64 x_25) (by kernel_rfl) (by kernel_rfl) (by kernel_rfl) (fun w hm => ((hm.ownRow (hh := 0) (o := (some b_2992)) (T := 69) (enc := encI64) (xs := ((Arr.set (Arr.set (Arr.set (Arr.set (Arr.rep 4 0) 0 x_9.fA) 1 x_10.fB) 2 x_11.fC) 3 x_12.fD).1)) (sp := []) (by kernel_rfl) (fun e => nomatch e) encI64_len).at hx_3246)) (jkO ?_))
                    refine jo_f [(0, 2), (0, 4), (0, 5)] (by kernel_rfl) ?_
                    refine jo_end (by kernel_rfl) ?_
                    exact jx_meet (x_25 != 0) h (by kernel_rfl) [0] (by kernel_rfl) (by kernel_rfl)
                  · replace h := ifF hc_3245 h
                    refine jo_f [(0, 3), (0, 3), (0, 3), (0, 5), (0, 5)] (by kernel_rfl) ?_
                    refine jo_end (by kernel_rfl) ?_
                    exact jx_meet false h (by kernel_rfl) [0] (by kernel_rfl) (by kernel_rfl)
              · replace h := ifF hc_3241 h
                refine jo_f [(0, 3), (0, 3), (0, 3), (0, 3), (0, 5), (0, 0), (0, 2), (0, 2), (0, 2), (0, 2), (0, 1)] (by kernel_rfl) ?_
                refine jo_split 70 (decide (i_16 ≥ t_8.2)) (by kernel_rfl) (fun hc_3247 => ?_) (fun hc_3247 => ?_)
                · replace h := ifT hc_3247 h
                  obtain ⟨x_26, hx_3248, h⟩ := bd h
                  refine toO (by kernel_rfl) (p_idx 2 (some ⟨b_2992, 0, none⟩) 4 i_16 1 (by kernel_rfl) (by kernel_rfl) (ix_some hx_3248).1 (ltn hx_3248 (Arr.set (Arr.set (Arr.set (Arr.set (Arr.rep 4 0) 0 x_9.fA) 1 x_10.fB) 2 x_11.fC) 3 x_12.fD).2) rfl (jkO ?_))
                  refine toO (by kernel_rfl) (p_ld 2 (aB (some ⟨b_2992, 0, none⟩)) (aO (some ⟨b_2992, 0, none⟩) + i_16.toNat * 1) false (encI64 x_26) (by kernel_rfl) (by kernel_rfl) (by kernel_rfl) (fun w hm => ((hm.ownRow (hh := 0) (o := (some b_2992)) (T := 69) (enc := encI64) (xs := ((Arr.set (Arr.set (Arr.set (Arr.set (Arr.rep 4 0) 0 x_9.fA) 1 x_10.fB) 2 x_11.fC) 3 x_12.fD).1)) (sp := []) (by kernel_rfl) (fun e => nomatch e) encI64_len).at hx_3248)) (jkO ?_))
                  refine jo_f [(0, 2), (0, 4), (0, 5)] (by kernel_rfl) ?_
                  refine jo_end (by kernel_rfl) ?_
                  exact jx_meet (x_26 != 0) h (by kernel_rfl) [0] (by kernel_rfl) (by kernel_rfl)
                · replace h := ifF hc_3247 h
                  refine jo_f [(0, 3), (0, 3), (0, 3), (0, 5), (0, 5)] (by kernel_rfl) ?_
                  refine jo_end (by kernel_rfl) ?_
                  exact jx_meet false h (by kernel_rfl) [0] (by kernel_rfl) (by kernel_rfl)
            · rintro q_19 h
              replace h : spec_l06Text.k_20 t_8 x_9 x_10 x_11 x_12 s_15 i_16 q_19 = some y_3205 := h
              rw [spec_l06Text.k_20] at h
              refine jx_then ?_
              refine jc_cond q_19 (by kernel_rfl) (fun hc_3233 => ?_) (fun hc_3233 => ?_)
              · replace h := ifT hc_3233 h
                refine jc_seq ?_
                refine jc_region ?_
                refine jo_f [(0, 0), (0, 0)] (by kernel_rfl) ?_
                refine jo_end (by kernel_rfl) ?_
                refine jx_then ?_
                refine jc_ret ?_
                refine jx_thenr ?_
                refine jx_inr ?_
                refine jx_thenr ?_
                refine jx_leaver (.inl ((ByteArray.mk #[]), false)) (Option.some.inj h).symm (fun e_3235 => ?_)
                subst e_3235
                refine jx_inr ?_
                refine jx_thenr ?_
                refine jx_thenr ?_
                refine jx_inr ?_
                refine jx_thenr ?_
                refine jx_leaver (.inl ((ByteArray.mk #[]), false)) (Option.some.inj hr_3204).symm (fun e_3234 => ?_)
                subst e_3234
                refine jx_inr ?_
                refine jx_thenr ?_
                refine jx_thenr ?_
                obtain rfl := Option.some.inj hr_2978
                exact jx_ret [] (.tuple #[(.string (ByteArray.mk #[])), (.bool false)]) [] rfl (by kernel_rfl) (by kernel_rfl) (fun w hm => ⟨rfl, hm.pick [] (by kernel_rfl) (by kernel_rfl)⟩)
              · replace h := ifF hc_3233 h
                refine jc_skip ?_
                refine jx_then ?_
                refine jc_seq ?_
                refine jc_region ?_
                refine jo_f [(0, 0), (0, 0), (0, 0)] (by kernel_rfl) ?_
                refine jo_end (by kernel_rfl) ?_
                refine jx_then ?_
                refine jc_cond (decide (i_16 < t_8.2)) (by kernel_rfl) (fun hc_3236 => ?_) (fun hc_3236 => ?_)
                · replace h := ifT hc_3236 h
                  refine jc_region ?_
                  refine jo_f [(0, 0), (0, 0)] (by kernel_rfl) ?_
                  obtain ⟨x_21, hx_3237, h⟩ := bd h
                  refine toO (by kernel_rfl) (p_idx 0 (some ⟨b_2992, 0, none⟩) 4 i_16 1 (by kernel_rfl) (by kernel_rfl) (ix_some hx_3237).1 (ltn hx_3237 (Arr.set (Arr.set (Arr.set (Arr.set (Arr.rep 4 0) 0 x_9.fA) 1 x_10.fB) 2 x_11.fC) 3 x_12.fD).2) rfl (jkO ?_))
                  refine toO (by kernel_rfl) (p_ld 0 (aB (some ⟨b_2992, 0, none⟩)) (aO (some ⟨b_2992, 0, none⟩) + i_16.toNat * 1) false (encI64 x_21) (by kernel_rfl) (by kernel_rfl) (by kernel_rfl) (fun w hm => ((hm.ownRow (hh := 0) (o := (some b_2992)) (T := 69) (enc := encI64) (xs := ((Arr.set (Arr.set (Arr.set (Arr.set (Arr.rep 4 0) 0 x_9.fA) 1 x_10.fB) 2 x_11.fC) 3 x_12.fD).1)) (sp := []) (by kernel_rfl) (fun e => nomatch e) encI64_len).at hx_3237)) (jkO ?_))
                  obtain ⟨t_22, ht_3238, h⟩ := bd h
                  refine toO (by kernel_rfl) (p_call 0 35 #[(.int .i64 x_21)] (by kernel_rfl) (by kernel_rfl) (fun w hm => spec_Decimal.calls x_21 w _ ht_3238) ?_)
                  rintro w v w' hm ⟨rfl, hm'⟩
                  refine ⟨_, hm.app hm', jkO ?_⟩
                  clear hm hm'
                  obtain ⟨hg_3239, h⟩ := gd h
                  refine toO (by kernel_rfl) (p_v 0 (by kernel_rfl) _ (fun w hm => cat_run (a := (ByteArray.mk #[32])) (b := t_22) (by kernel_rfl) hg_3239) (jkO ?_))
                  obtain ⟨hg_3240, h⟩ := gd h
                  refine toO (by kernel_rfl) (p_v 0 (by kernel_rfl) _ (fun w hm => cat_run (a := s_15) (b := ((ByteArray.mk #[32]) ++ t_22)) (by kernel_rfl) hg_3240) (jkO ?_))
                  refine jo_f [(0, 0)] (by kernel_rfl) ?_
                  refine jo_end (by kernel_rfl) ?_
                  refine jx_inn ?_
                  refine jx_then ?_
                  refine jc_region ?_
                  refine jo_f [(0, 0), (0, 0), (0, 0)] (by kernel_rfl) ?_
                  refine jo_end (by kernel_rfl) ?_
                  exact jx_back ((s_15 ++ ((ByteArray.mk #[32]) ++ t_22)), (w64 (i_16 + 1))) () (Option.some.inj h).symm trivial [0] (by kernel_rfl) (by kernel_rfl) (by kernel_rfl)
                · replace h := ifF hc_3236 h
                  refine jc_skip ?_
                  refine jx_inn ?_
                  refine jx_then ?_
                  refine jc_region ?_
                  refine jo_f [(0, 0), (0, 0), (0, 0)] (by kernel_rfl) ?_
                  refine jo_end (by kernel_rfl) ?_
                  exact jx_back (s_15, (w64 (i_16 + 1))) () (Option.some.inj h).symm trivial [0] (by kernel_rfl) (by kernel_rfl) (by kernel_rfl)
          · replace h := ifF hc_3207 h
            refine jc_exit ?_
            refine jx_thenx ?_
            refine jx_leave (.inr s_15) (Option.some.inj h).symm (fun e_3249 => ?_)
            subst e_3249
            refine jx_ine ?_
            exact jx_meet s_15 hr_3204 (by kernel_rfl) [0] (by kernel_rfl) (by kernel_rfl)
        · rintro s_13 h
          replace h : spec_l06Text.k_14 i_4 s_13 = some y_2979 := h
          rw [spec_l06Text.k_14] at h
          refine jx_then ?_
          refine jc_region ?_
          refine jo_f [(0, 0)] (by kernel_rfl) ?_
          obtain ⟨hg_3121, h⟩ := gd h
          refine toO (by kernel_rfl) (p_v 0 (by kernel_rfl) _ (fun w hm => cat_run (a := s_13) (b := (ByteArray.mk #[10])) (by kernel_rfl) hg_3121) (jkO ?_))
          refine jo_f [(0, 0)] (by kernel_rfl) ?_
          refine jo_end (by kernel_rfl) ?_
          refine jx_inn ?_
          refine jx_then ?_
          refine jc_region ?_
          refine jo_f [(0, 0), (0, 0), (0, 0)] (by kernel_rfl) ?_
          refine jo_end (by kernel_rfl) ?_
          exact jx_back ((s_13 ++ (ByteArray.mk #[10])), (w64 (i_4 + 1))) () (Option.some.inj h).symm trivial [] (by kernel_rfl) (by kernel_rfl) (by kernel_rfl)
    · replace h := ifF hc_2981 h
      refine jc_exit ?_
      refine jx_thenx ?_
      refine jx_leave (.inr s_3) (Option.some.inj h).symm (fun e_3251 => ?_)
      subst e_3251
      refine jx_ine ?_
      exact jx_meet s_3 hr_2978 (by kernel_rfl) [] (by kernel_rfl) (by kernel_rfl)
  · rintro s_1 h
    replace h : spec_l06Text.k_2 list0 s_1 = some r := h
    rw [spec_l06Text.k_2] at h
    refine jx_then ?_
    refine jc_seq ?_
    refine jc_region ?_
    refine jo_f [(0, 0), (0, 0), (0, 0), (0, 0), (0, 0), (0, 0)] (by kernel_rfl) ?_
    refine jo_end (by kernel_rfl) ?_
    refine jx_then ?_
    refine jc_ret ?_
    obtain rfl := Option.some.inj h
    exact jx_ret [] (.tuple #[(.string s_1), (.bool (decide ((list0.length : Int) ≤ 60)))]) [] rfl (by kernel_rfl) (by kernel_rfl) (fun w hm => ⟨rfl, hm.pick [] (by kernel_rfl) (by kernel_rfl)⟩)

/-! ### spec.ActsText -/
noncomputable def spec_ActsText (list0 : List GAct) : Option (ByteArray) := (spec_l06Text list0).bind fun t_1 => (if (!t_1.2) = true then some (ByteArray.mk #[]) else some t_1.1)
set_option maxRecDepth 100000 in
theorem spec_ActsText.calls (list0 : List GAct) (w : World) (r : ByteArray) (list0_a : Option Addr) (list0_an : Nat) (list0_c : Nat) (list0_h : Rw w list0_a 5 encGAct list0) (list0_hn : list0.length = list0_an) (h : spec_ActsText list0 = some r) :
    Calls Tryd.prog 6 #[(.slice list0_a list0_an list0_c)] w fun e w' => ∃ v, e = .returned v ∧ (v = (.string r) ∧ Mem w [] [] w') := by
  subst list0_hn
  rw [spec_ActsText] at h
  refine enter (args := [(.slice list0_a list0.length list0_c)]) Tryd.func6 rfl Tryd.ntmps6 (by kernel_rfl) (L := []) (W := []) (Mem.start w) ?_
  refine jc_seq ?_
  refine jc_region ?_
  refine jo_f [(0, 0)] (by kernel_rfl) ?_
  refine jo_end (by kernel_rfl) ?_
  refine jx_then ?_
  refine jc_seq ?_
  refine jc_region ?_
  refine jo_f [(0, 0)] (by kernel_rfl) ?_
  obtain ⟨t_1, ht_1, h⟩ := bd h
  refine toO (by kernel_rfl) (p_call 0 14 #[(.slice list0_a list0.length list0_c)] (by kernel_rfl) (by kernel_rfl) (fun w hm => spec_l06Text.calls list0 w _ list0_a list0.length list0_c (hm.exRow list0_h List.not_mem_nil) rfl ht_1) ?_)
  rintro w v w' hm ⟨rfl, hm'⟩
  refine ⟨_, hm.app hm', jkO ?_⟩
  clear hm hm'
  refine jo_f [(0, 0), (0, 0), (0, 0), (0, 0), (0, 0)] (by kernel_rfl) ?_
  refine jo_end (by kernel_rfl) ?_
  refine jx_then ?_
  refine jc_seq ?_
  refine jc_seq ?_
  refine jc_region ?_
  refine jo_f [(0, 0), (0, 0)] (by kernel_rfl) ?_
  refine jo_end (by kernel_rfl) ?_
  refine jx_then ?_
  refine jc_cond (!t_1.2) (by kernel_rfl) (fun hc_3 => ?_) (fun hc_3 => ?_)
  · replace h := ifT hc_3 h
    refine jc_seq ?_
    refine jc_region ?_
    refine jo_f [(0, 0)] (by kernel_rfl) ?_
    refine jo_end (by kernel_rfl) ?_
    refine jx_then ?_
    refine jc_ret ?_
    refine jx_thenr ?_
    obtain rfl := Option.some.inj h
    exact jx_ret [] (.string (ByteArray.mk #[])) [] rfl (by kernel_rfl) (by kernel_rfl) (fun w hm => ⟨rfl, hm.pick [] (by kernel_rfl) (by kernel_rfl)⟩)
  · replace h := ifF hc_3 h
    refine jc_skip ?_
    refine jx_then ?_
    refine jc_seq ?_
    refine jc_region ?_
    refine jo_f [(0, 0), (0, 0)] (by kernel_rfl) ?_
    refine jo_end (by kernel_rfl) ?_
    refine jx_then ?_
    refine jc_ret ?_
    obtain rfl := Option.some.inj h
    exact jx_ret [] (.string t_1.1) [] rfl (by kernel_rfl) (by kernel_rfl) (fun w hm => ⟨rfl, hm.pick [] (by kernel_rfl) (by kernel_rfl)⟩)

/-! ### impl.within -/
noncomputable def impl_within (n0 : Int) (low1 : Int) (high2 : Int) : Option (Bool) := some ((decide (low1 ≤ n0)) && (decide (n0 ≤ high2)))
set_option maxRecDepth 100000 in
theorem impl_within.calls (n0 : Int) (low1 : Int) (high2 : Int) (w : World) (r : Bool) (h : impl_within n0 low1 high2 = some r) :
    Calls Tryd.prog 37 #[(.int .i64 n0), (.int .i64 low1), (.int .i64 high2)] w fun e w' => ∃ v, e = .returned v ∧ (v = (.bool r) ∧ Mem w [] [] w') := by
  rw [impl_within] at h
  refine enter (args := [(.int .i64 n0), (.int .i64 low1), (.int .i64 high2)]) Tryd.func37 rfl Tryd.ntmps37 (by kernel_rfl) (L := []) (W := []) (Mem.start w) ?_
  refine jc_seq ?_
  refine jc_region ?_
  refine jo_f [(0, 0)] (by kernel_rfl) ?_
  refine jo_end (by kernel_rfl) ?_
  refine jx_then ?_
  refine jc_seq ?_
  refine jc_region ?_
  refine jo_f [(0, 0), (0, 0), (0, 0), (0, 0), (0, 1), (0, 1), (0, 1), (0, 0), (0, 0)] (by kernel_rfl) ?_
  refine jo_end (by kernel_rfl) ?_
  refine jx_then ?_
  refine jc_ret ?_
  obtain rfl := Option.some.inj h
  exact jx_ret [] (.bool ((decide (low1 ≤ n0)) && (decide (n0 ≤ high2)))) [] rfl (by kernel_rfl) (by kernel_rfl) (fun w hm => ⟨rfl, hm.pick [] (by kernel_rfl) (by kernel_rfl)⟩)

/-! ### (impl.Act).numbers -/
noncomputable def impl_Act_numbers (a0 : GAct) : Option ((List Int)) := some ([a0.fA, a0.fB, a0.fC, a0.fD] : List Int)
set_option maxRecDepth 100000 in
theorem impl_Act_numbers.calls (a0 : GAct) (w : World) (r : (List Int)) (h : impl_Act_numbers a0 = some r) :
    Calls Tryd.prog 21 #[(.agg #[(.int .i8 a0.fKind), (.int .i64 a0.fA), (.int .i64 a0.fB), (.int .i64 a0.fC), (.int .i64 a0.fD)])] w fun e w' => ∃ v, e = .returned v ∧ (∃ (o0 : Option Nat) (c0 : Nat) (s0 : List Value) (n0 : Nat), r.length = n0 ∧ (o0 ≠ none → n0 ≤ c0 ∧ s0.length = (c0 - n0) * 1) ∧ (o0 = none → r = [] ∧ c0 = 0) ∧ v = .slice (o0.map fun b => ⟨b, 0, none⟩) n0 c0 ∧ Mem w [] [⟨o0, 2, row encI64 r s0⟩] w') := by
  rw [impl_Act_numbers] at h
  refine enter (args := [(.agg #[(.int .i8 a0.fKind), (.int .i64 a0.fA), (.int .i64 a0.fB), (.int .i64 a0.fC), (.int .i64 a0.fD)])]) Tryd.func21 rfl Tryd.ntmps21 (by kernel_rfl) (L := []) (W := []) (Mem.start w) ?_
  refine jc_seq ?_
  refine jc_region ?_
  refine toO (by kernel_rfl) (p_a 0 [0] (by kernel_rfl) (fun b => by kernel_rfl) (fun b_1 => jkO ?_))
  refine jo_f [(0, 0)] (by kernel_rfl) ?_
  refine jo_end (by kernel_rfl) ?_
  refine jx_then ?_
  refine jc_seq ?_
  refine jc_region ?_
  refine jo_f [(0, 0), (0, 0), (0, 0), (0, 0), (0, 0), (0, 0), (0, 0), (0, 0)] (by kernel_rfl) ?_
  refine toO (by kernel_rfl) (p_a 0 [0] (by kernel_rfl) (fun b => by kernel_rfl) (fun b_2 => jkO ?_))
  refine jo_f [(0, 0)] (by kernel_rfl) ?_
  refine jo_end (by kernel_rfl) ?_
  refine jx_then ?_
  refine jc_ret ?_
  obtain rfl := Option.some.inj h
  exact jx_ret [] (.slice (some ⟨b_2, 0, none⟩) 4 4) [] rfl (by kernel_rfl) (by kernel_rfl) (fun w hm => ⟨(some b_2), 4, [], 4, rfl, (fun _ => ⟨Nat.le_refl _, by simp⟩), (fun e => nomatch e), rfl, hm.pick [1] (by kernel_rfl) (by kernel_rfl)⟩)

/-! ### impl.isMade -/
noncomputable def impl_isMade (n0 : Int) : Option (Bool) := (impl_within n0 0 1000000).bind fun t_1 => some t_1
set_option maxRecDepth 100000 in
theorem impl_isMade.calls (n0 : Int) (w : World) (r : Bool) (h : impl_isMade n0 = some r) :
    Calls Tryd.prog 38 #[(.int .i64 n0)] w fun e w' => ∃ v, e = .returned v ∧ (v = (.bool r) ∧ Mem w [] [] w') := by
  rw [impl_isMade] at h
  refine enter (args := [(.int .i64 n0)]) Tryd.func38 rfl Tryd.ntmps38 (by kernel_rfl) (L := []) (W := []) (Mem.start w) ?_
  refine jc_seq ?_
  refine jc_region ?_
  refine jo_f [(0, 0)] (by kernel_rfl) ?_
  refine jo_end (by kernel_rfl) ?_
  refine jx_then ?_
  refine jc_seq ?_
  refine jc_region ?_
  refine jo_f [(0, 0)] (by kernel_rfl) ?_
  obtain ⟨t_1, ht_1, h⟩ := bd h
  refine toO (by kernel_rfl) (p_call 0 37 #[(.int .i64 n0), (.int .i64 0), (.int .i64 1000000)] (by kernel_rfl) (by kernel_rfl) (fun w hm => impl_within.calls n0 0 1000000 w _ ht_1) ?_)
  rintro w v w' hm ⟨rfl, hm'⟩
  refine ⟨_, hm.app hm', jkO ?_⟩
  clear hm hm'
  refine jo_f [(0, 0)] (by kernel_rfl) ?_
  refine jo_end (by kernel_rfl) ?_
  refine jx_then ?_
  refine jc_ret ?_
  obtain rfl := Option.some.inj h
  exact jx_ret [] (.bool t_1) [] rfl (by kernel_rfl) (by kernel_rfl) (fun w hm => ⟨rfl, hm.pick [] (by kernel_rfl) (by kernel_rfl)⟩)

/-! ### impl.usedBy -/
noncomputable def impl_usedBy : Option ((List Int)) := some ([1, 1, 2, 4] : List Int)
set_option maxRecDepth 100000 in
theorem impl_usedBy.calls (w : World) (r : (List Int)) (h : impl_usedBy = some r) :
    Calls Tryd.prog 22 #[] w fun e w' => ∃ v, e = .returned v ∧ (∃ (o0 : Option Nat) (c0 : Nat) (s0 : List Value) (n0 : Nat), r.length = n0 ∧ (o0 ≠ none → n0 ≤ c0 ∧ s0.length = (c0 - n0) * 1) ∧ (o0 = none → r = [] ∧ c0 = 0) ∧ v = .slice (o0.map fun b => ⟨b, 0, none⟩) n0 c0 ∧ Mem w [] [⟨o0, 3, row encI64 r s0⟩] w') := by
  rw [impl_usedBy] at h
  refine enter (args := []) Tryd.func22 rfl Tryd.ntmps22 (by kernel_rfl) (L := []) (W := []) (Mem.start w) ?_
  refine jc_seq ?_
  refine jc_region ?_
  refine jo_f [(0, 0)] (by kernel_rfl) ?_
  refine jo_end (by kernel_rfl) ?_
  refine jx_then ?_
  refine jc_seq ?_
  refine jc_region ?_
  refine toO (by kernel_rfl) (p_a 0 [0] (by kernel_rfl) (fun b => by kernel_rfl) (fun b_1 => jkO ?_))
  refine jo_f [(0, 0)] (by kernel_rfl) ?_
  refine jo_end (by kernel_rfl) ?_
  refine jx_then ?_
  refine jc_ret ?_
  obtain rfl := Option.some.inj h
  exact jx_ret [] (.slice (some ⟨b_1, 0, none⟩) 4 4) [] rfl (by kernel_rfl) (by kernel_rfl) (fun w hm => ⟨(some b_1), 4, [], 4, rfl, (fun _ => ⟨Nat.le_refl _, by simp⟩), (fun e => nomatch e), rfl, hm.pick [0] (by kernel_rfl) (by kernel_rfl)⟩)

/-! ### (impl.Act).isTold -/
noncomputable def impl_Act_isTold.k_3 : Option (Bool) := some true
noncomputable def impl_Act_isTold.k_9 (i_4 : Int) (q_8 : Bool) : Option ((Int) ⊕ (Bool ⊕ Unit)) := (if q_8 = true then some (.inr (.inl false)) else some (.inl (w64 (i_4 + 1))))
noncomputable def impl_Act_isTold.l_5 (a0 : GAct) (t_2 : (List Int)) : Int → Option ((Int) ⊕ (Bool ⊕ Unit))
  | i_4 => (if (decide (i_4 < (t_2.length : Int))) = true then (ix t_2 i_4).bind fun x_7 => (impl_isMade x_7).bind fun t_10 => (if (!t_10) = true then impl_Act_isTold.k_9 i_4 true else (impl_usedBy).bind fun t_11 => (ix t_11 a0.fKind).bind fun x_12 => impl_Act_isTold.k_9 i_4 ((decide (i_4 ≥ x_12)) && (x_7 != 0))) else some (.inr (.inr ())))
noncomputable def impl_Act_isTold (a0 : GAct) : Option (Bool) := (impl_within (w64 a0.fKind) 0 3).bind fun t_1 => (if (!t_1) = true then some false else (impl_Act_numbers a0).bind fun t_2 => (loop (impl_Act_isTold.l_5 a0 t_2) 0).bind fun t_6 => match t_6 with | .inl p => some p | .inr p => impl_Act_isTold.k_3)
set_option maxRecDepth 100000 in
theorem impl_Act_isTold.calls (a0 : GAct) (w : World) (r : Bool) (h : impl_Act_isTold a0 = some r) :
    Calls Tryd.prog 18 #[(.agg #[(.int .i8 a0.fKind), (.int .i64 a0.fA), (.int .i64 a0.fB), (.int .i64 a0.fC), (.int .i64 a0.fD)])] w fun e w' => ∃ v, e = .returned v ∧ (v = (.bool r) ∧ Mem w [] [] w') := by
  rw [impl_Act_isTold] at h
  refine enter (args := [(.agg #[(.int .i8 a0.fKind), (.int .i64 a0.fA), (.int .i64 a0.fB), (.int .i64 a0.fC), (.int .i64 a0.fD)])]) Tryd.func18 rfl Tryd.ntmps18 (by kernel_rfl) (L := []) (W := []) (Mem.start w) ?_
  refine jc_seq ?_
  refine jc_region ?_
  refine toO (by kernel_rfl) (p_a 0 [0] (by kernel_rfl) (fun b => by kernel_rfl) (fun b_1 => jkO ?_))
  refine jo_f [(0, 0)] (by kernel_rfl) ?_
  refine jo_end (by kernel_rfl) ?_
  refine jx_then ?_
  refine jc_seq ?_
  refine jc_seq ?_
  refine jc_region ?_
  refine jo_f [(0, 0), (0, 0), (0, 0)] (by kernel_rfl) ?_
  obtain ⟨t_1, ht_4, h⟩ := bd h
  refine toO (by kernel_rfl) (p_call 0 37 #[(.int .i64 (w64 a0.fKind)), (.int .i64 0), (.int .i64 3)] (by kernel_rfl) (by kernel_rfl) (fun w hm => impl_within.calls (w64 a0.fKind) 0 3 w _ ht_4) ?_)
  rintro w v w' hm ⟨rfl, hm'⟩
  refine ⟨_, hm.app hm', jkO ?_⟩
  clear hm hm'
  refine jo_f [(0, 0)] (by kernel_rfl) ?_
  refine jo_end (by kernel_rfl) ?_
  refine jx_then ?_
  refine jc_cond (!t_1) (by kernel_rfl) (fun hc_5 => ?_) (fun hc_5 => ?_)
  · replace h := ifT hc_5 h
    refine jc_seq ?_
    refine jc_region ?_
    refine jo_f [(0, 0)] (by kernel_rfl) ?_
    refine jo_end (by kernel_rfl) ?_
    refine jx_then ?_
    refine jc_ret ?_
    refine jx_thenr ?_
    obtain rfl := Option.some.inj h
    exact jx_ret [] (.bool false) [] rfl (by kernel_rfl) (by kernel_rfl) (fun w hm => ⟨rfl, hm.pick [] (by kernel_rfl) (by kernel_rfl)⟩)
  · replace h := ifF hc_5 h
    refine jc_skip ?_
    refine jx_then ?_
    refine jc_seq ?_
    refine jc_seq ?_
    refine jc_region ?_
    refine jo_f [(0, 0)] (by kernel_rfl) ?_
    obtain ⟨t_2, ht_6, h⟩ := bd h
    refine toO (by kernel_rfl) (p_call 0 21 #[(.agg #[(.int .i8 a0.fKind), (.int .i64 a0.fA), (.int .i64 a0.fB), (.int .i64 a0.fC), (.int .i64 a0.fD)])] (by kernel_rfl) (by kernel_rfl) (fun w hm => impl_Act_numbers.calls a0 w _ ht_6) ?_)
    rintro w v w' hm ⟨o_7, cap_8, sp_9, _, rfl, hs_10, ho_11, rfl, hm'⟩
    refine ⟨_, hm.app hm', jkO ?_⟩
    clear hm hm'
    refine jo_f [(0, 0), (0, 0)] (by kernel_rfl) ?_
    refine jo_end (by kernel_rfl) ?_
    refine jx_then ?_
    refine jc_meet (fun (_ : Unit) => impl_Act_isTold.k_3 = some r) (fun (_ : Unit) => [(2, [], (.bool false))]) (fun (_ : Unit) => [⟨some b_1, 37, [(.int .i8 a0.fKind), (.int .i64 a0.fA), (.int .i64 a0.fB), (.int .i64 a0.fC), (.int .i64 a0.fD)]⟩, ⟨o_7, 2, row encI64 t_2 sp_9⟩]) ?_ ?_
    · refine jc_block ?_
      obtain ⟨t_6, ht_153, hr_127⟩ := bd h
      refine jc_loop (fun (s : Int) (x : Unit) => match s, x with | i_4, _ => True) (fun (s : Int) (x : Unit) => match s, x with | i_4, _ => [(1, [], (.pointer (some ⟨b_1, 0, none⟩))), (2, [], (.bool false)), (11, [], (.slice (o_7.map fun b => ⟨b, 0, none⟩) t_2.length cap_8)), (12, [], (.int .i64 (t_2.length : Int))), (13, [], (.int .i64 i_4))]) (fun (s : Int) (x : Unit) => match s, x with | i_4, _ => [⟨some b_1, 37, [(.int .i8 a0.fKind), (.int .i64 a0.fA), (.int .i64 a0.fB), (.int .i64 a0.fC), (.int .i64 a0.fD)]⟩, ⟨o_7, 2, row encI64 t_2 sp_9⟩]) ht_153 () trivial (by kernel_rfl) [0, 1] (by kernel_rfl) (by kernel_rfl) ?_
      rintro i_4 _ y_128 _ h
      rw [impl_Act_isTold.l_5] at h
      refine jc_seq ?_
      refine jc_region ?_
      refine jo_f [(0, 0)] (by kernel_rfl) ?_
      refine jo_end (by kernel_rfl) ?_
      refine jx_then ?_
      refine jc_seq ?_
      refine jc_cond (decide (i_4 < (t_2.length : Int))) (by kernel_rfl) (fun hc_130 => ?_) (fun hc_130 => ?_)
      · replace h := ifT hc_130 h
        refine jc_skip ?_
        refine jx_then ?_
        refine jc_seq ?_
        refine jc_block ?_
        refine jc_seq ?_
        refine jc_region ?_
        refine jo_f [(0, 0)] (by kernel_rfl) ?_
        obtain ⟨x_7, hx_131, h⟩ := bd h
        refine toO (by kernel_rfl) (p_idx 0 (o_7.map fun b => ⟨b, 0, none⟩) t_2.length i_4 1 (by kernel_rfl) (by kernel_rfl) (ix_some hx_131).1 (ltn hx_131 rfl) (spo ho_11 hx_131) (jkO ?_))
        refine toO (by kernel_rfl) (p_ld 0 (aB (o_7.map fun b => ⟨b, 0, none⟩)) (aO (o_7.map fun b => ⟨b, 0, none⟩) + i_4.toNat * 1) false (encI64 x_7) (by kernel_rfl) (by kernel_rfl) (by kernel_rfl) (fun w hm => ((hm.ownRow (hh := 1) (o := o_7) (T := 2) (enc := encI64) (xs := t_2) (sp := sp_9) (by kernel_rfl) (fun e => (ho_11 e).1) encI64_len).at hx_131)) (jkO ?_))
        refine jo_f [(0, 0), (0, 0)] (by kernel_rfl) ?_
        refine jo_end (by kernel_rfl) ?_
        refine jx_then ?_
        refine jc_seq ?_
        refine jc_meet (fun (j : Bool) => match j with | q_8 => impl_Act_isTold.k_9 i_4 q_8 = some y_128) (fun (j : Bool) => match j with | q_8 => [(1, [], (.pointer (some ⟨b_1, 0, none⟩))), (2, [], (.bool false)), (11, [], (.slice (o_7.map fun b => ⟨b, 0, none⟩) t_2.length cap_8)), (12, [], (.int .i64 (t_2.length : Int))), (13, [], (.int .i64 i_4)), (33, [], (.bool q_8))]) (fun (j : Bool) => match j with | q_8 => [⟨some b_1, 37, [(.int .i8 a0.fKind), (.int .i64 a0.fA), (.int .i64 a0.fB), (.int .i64 a0.fC), (.int .i64 a0.fD)]⟩, ⟨o_7, 2, row encI64 t_2 sp_9⟩]) ?_ ?_
        · refine jc_draw [⟨some b_1, 37, [(.int .i8 a0.fKind), (.int .i64 a0.fA), (.int .i64 a0.fB), (.int .i64 a0.fC), (.int .i64 a0.fD)]⟩, ⟨o_7, 2, row encI64 t_2 sp_9⟩] 16 (by kernel_rfl) (by kernel_rfl) ?_
          refine jd_f [⟨0, 0, 0⟩] 15 (by kernel_rfl) (by kernel_rfl) (fun w h => h.pick [0, 1] (by kernel_rfl) (by kernel_rfl)) (by kernel_rfl) (by kernel_rfl) ?_
          obtain ⟨t_10, ht_143, h⟩ := bd h
          refine toD 1 (by kernel_rfl) (p_call 0 38 #[(.int .i64 x_7)] (by kernel_rfl) (by kernel_rfl) (fun w hm => impl_isMade.calls x_7 w _ ht_143) ?_)
          rintro w v w' hm ⟨rfl, hm'⟩
          refine ⟨_, hm.app hm', jkD (fun w h => h.pick [0, 1] (by kernel_rfl) (by kernel_rfl)) ?_⟩
          clear hm hm'
          refine jd_f [⟨2, 0, 0⟩, ⟨3, 0, 0⟩, ⟨4, 0, 1⟩, ⟨6, 0, 1⟩, ⟨7, 0, 1⟩] 9 (by kernel_rfl) (by kernel_rfl) (fun w h => h.pick [0, 1] (by kernel_rfl) (by kernel_rfl)) (by kernel_rfl) (by kernel_rfl) ?_
          refine jd_split 21 (!t_10) (by kernel_rfl) (fun hc_144 => ?_) (fun hc_144 => ?_)
          · replace h := ifT hc_144 h
            refine jd_f [⟨5, 0, 3⟩, ⟨8, 0, 3⟩, ⟨9, 0, 3⟩, ⟨10, 0, 3⟩, ⟨11, 0, 3⟩, ⟨12, 0, 3⟩, ⟨13, 0, 3⟩, ⟨14, 0, 3⟩, ⟨15, 0, 4⟩] 0 (by kernel_rfl) (by kernel_rfl) (fun w h => h.pick [0, 1] (by kernel_rfl) (by kernel_rfl)) (by kernel_rfl) (by kernel_rfl) ?_
            refine jd_end (by kernel_rfl) ?_
            exact jx_meet true h (by kernel_rfl) [0, 1] (by kernel_rfl) (by kernel_rfl)
          · replace h := ifF hc_144 h
            obtain ⟨t_11, ht_145, h⟩ := bd h
            refine toD 5 (by kernel_rfl) (p_call 2 22 #[] (by kernel_rfl) (by kernel_rfl) (fun w hm => impl_usedBy.calls w _ ht_145) ?_)
            rintro w v w' hm ⟨o_146, cap_147, sp_148, _, rfl, hs_149, ho_150, rfl, hm'⟩
            refine ⟨_, hm.app hm', jkD (fun w h => h.pick [0, 1] (by kernel_rfl) (by kernel_rfl)) ?_⟩
            clear hm hm'
            obtain ⟨x_12, hx_151, h⟩ := bd h
            refine jd_v 8 2 (by kernel_rfl) (fun w h => h.pick [0, 1] (by kernel_rfl) (by kernel_rfl)) (by kernel_rfl) (by kernel_rfl) _ (fun w hm => idx_run (a := (o_146.map fun b => ⟨b, 0, none⟩)) (len := t_11.length) (s := 1) (j := a0.fKind) (by kernel_rfl) (ix_some hx_151).1 (ltn hx_151 rfl) (spo ho_150 hx_151)) ?_
            refine toD 9 (by kernel_rfl) (p_ld 2 (aB (o_146.map fun b => ⟨b, 0, none⟩)) (aO (o_146.map fun b => ⟨b, 0, none⟩) + a0.fKind.toNat * 1) false (encI64 x_12) (by kernel_rfl) (by kernel_rfl) (by kernel_rfl) (fun w hm => ((hm.ownRow (hh := 2) (o := o_146) (T := 3) (enc := encI64) (xs := t_11) (sp := sp_148) (by kernel_rfl) (fun e => (ho_150 e).1) encI64_len).at hx_151)) (jkD (fun w h => h.pick [0, 1] (by kernel_rfl) (by kernel_rfl)) ?_))
            refine jd_f [⟨10, 0, 2⟩, ⟨11, 0, 2⟩, ⟨12, 0, 1⟩, ⟨13, 0, 1⟩, ⟨14, 0, 2⟩, ⟨15, 0, 5⟩] 0 (by kernel_rfl) (by kernel_rfl) (fun w h => h.pick [0, 1] (by kernel_rfl) (by kernel_rfl)) (by kernel_rfl) (by kernel_rfl) ?_
            refine jd_end (by kernel_rfl) ?_
            exact jx_meet ((decide (i_4 ≥ x_12)) && (x_7 != 0)) h (by kernel_rfl) [0, 1] (by kernel_rfl) (by kernel_rfl)
        · rintro q_8 h
          replace h : impl_Act_isTold.k_9 i_4 q_8 = some y_128 := h
          rw [impl_Act_isTold.k_9] at h
          refine jx_then ?_
          refine jc_cond q_8 (by kernel_rfl) (fun hc_141 => ?_) (fun hc_141 => ?_)
          · replace h := ifT hc_141 h
            refine jc_seq ?_
            refine jc_region ?_
            refine jo_f [(0, 0)] (by kernel_rfl) ?_
            refine jo_end (by kernel_rfl) ?_
            refine jx_then ?_
            refine jc_ret ?_
            refine jx_inr ?_
            refine jx_thenr ?_
            refine jx_leaver (.inl false) (Option.some.inj h).symm (fun e_142 => ?_)
            subst e_142
            refine jx_inr ?_
            refine jx_thenr ?_
            refine jx_thenr ?_
            obtain rfl := Option.some.inj hr_127
            exact jx_ret [] (.bool false) [] rfl (by kernel_rfl) (by kernel_rfl) (fun w hm => ⟨rfl, hm.pick [] (by kernel_rfl) (by kernel_rfl)⟩)
          · replace h := ifF hc_141 h
            refine jc_skip ?_
            refine jx_inn ?_
            refine jx_then ?_
            refine jc_region ?_
            refine jo_f [(0, 0), (0, 0)] (by kernel_rfl) ?_
            refine jo_end (by kernel_rfl) ?_
            exact jx_back (w64 (i_4 + 1)) () (Option.some.inj h).symm trivial [0, 1] (by kernel_rfl) (by kernel_rfl) (by kernel_rfl)
      · replace h := ifF hc_130 h
        refine jc_exit ?_
        refine jx_thenx ?_
        refine jx_leave (.inr ()) (Option.some.inj h).symm (fun e_152 => ?_)
        subst e_152
        refine jx_ine ?_
        exact jx_meet () hr_127 (by kernel_rfl) [0, 1] (by kernel_rfl) (by kernel_rfl)
    · rintro _ h
      replace h : impl_Act_isTold.k_3 = some r := h
      rw [impl_Act_isTold.k_3] at h
      refine jx_then ?_
      refine jc_seq ?_
      refine jc_region ?_
      refine jo_f [(0, 0)] (by kernel_rfl) ?_
      refine jo_end (by kernel_rfl) ?_
      refine jx_then ?_
      refine jc_ret ?_
      obtain rfl := Option.some.inj h
      exact jx_ret [] (.bool true) [] rfl (by kernel_rfl) (by kernel_rfl) (fun w hm => ⟨rfl, hm.pick [] (by kernel_rfl) (by kernel_rfl)⟩)

/-! ### impl.ActsText$1 -/
noncomputable def impl_ActsText_1 (a0 : GAct) : Option (Bool) := (impl_Act_isTold a0).bind fun t_1 => some (!t_1)
set_option maxRecDepth 100000 in
theorem impl_ActsText_1.calls (a0 : GAct) (w : World) (r : Bool) (h : impl_ActsText_1 a0 = some r) :
    Calls Tryd.prog 17 #[(.agg #[(.int .i8 a0.fKind), (.int .i64 a0.fA), (.int .i64 a0.fB), (.int .i64 a0.fC), (.int .i64 a0.fD)])] w fun e w' => ∃ v, e = .returned v ∧ (v = (.bool r) ∧ Mem w [] [] w') := by
  rw [impl_ActsText_1] at h
  refine enter (args := [(.agg #[(.int .i8 a0.fKind), (.int .i64 a0.fA), (.int .i64 a0.fB), (.int .i64 a0.fC), (.int .i64 a0.fD)])]) Tryd.func17 rfl Tryd.ntmps17 (by kernel_rfl) (L := []) (W := []) (Mem.start w) ?_
  refine jc_seq ?_
  refine jc_region ?_
  refine toO (by kernel_rfl) (p_a 0 [0] (by kernel_rfl) (fun b => by kernel_rfl) (fun b_1 => jkO ?_))
  refine jo_f [(0, 0)] (by kernel_rfl) ?_
  refine jo_end (by kernel_rfl) ?_
  refine jx_then ?_
  refine jc_seq ?_
  refine jc_region ?_
  refine jo_f [(0, 0)] (by kernel_rfl) ?_
  obtain ⟨t_1, ht_2, h⟩ := bd h
  refine toO (by kernel_rfl) (p_call 0 18 #[(.agg #[(.int .i8 a0.fKind), (.int .i64 a0.fA), (.int .i64 a0.fB), (.int .i64 a0.fC), (.int .i64 a0.fD)])] (by kernel_rfl) (by kernel_rfl) (fun w hm => impl_Act_isTold.calls a0 w _ ht_2) ?_)
  rintro w v w' hm ⟨rfl, hm'⟩
  refine ⟨_, hm.app hm', jkO ?_⟩
  clear hm hm'
  refine jo_f [(0, 0), (0, 0)] (by kernel_rfl) ?_
  refine jo_end (by kernel_rfl) ?_
  refine jx_then ?_
  refine jc_ret ?_
  obtain rfl := Option.some.inj h
  exact jx_ret [] (.bool (!t_1)) [] rfl (by kernel_rfl) (by kernel_rfl) (fun w hm => ⟨rfl, hm.pick [] (by kernel_rfl) (by kernel_rfl)⟩)

/-! ### slices.IndexFunc[[]impl.Act,impl.Act] -/
noncomputable def slices_IndexFunc_Act_at_impl_ActsText_1.k_1 : Option (Int) := some (-1)
noncomputable def slices_IndexFunc_Act_at_impl_ActsText_1.l_3 (s0 : List GAct) : Int → Option ((Int) ⊕ (Int ⊕ Unit))
  | i_2 => (if (decide (i_2 < (s0.length : Int))) = true then (ix s0 i_2).bind fun x_5 => (impl_ActsText_1 x_5).bind fun t_6 => (if t_6 = true then some (.inr (.inl i_2)) else some (.inl (w64 (i_2 + 1)))) else some (.inr (.inr ())))
noncomputable def slices_IndexFunc_Act_at_impl_ActsText_1 (s0 : List GAct) : Option (Int) := (loop (slices_IndexFunc_Act_at_impl_ActsText_1.l_3 s0) 0).bind fun t_4 => match t_4 with | .inl p => some p | .inr p => slices_IndexFunc_Act_at_impl_ActsText_1.k_1
set_option maxRecDepth 100000 in
theorem slices_IndexFunc_Act_at_impl_ActsText_1.calls (s0 : List GAct) (w : World) (r : Int) (s0_a : Option Addr) (s0_an : Nat) (s0_c : Nat) (s0_h : Rw w s0_a 5 encGAct s0) (s0_hn : s0.length = s0_an) (h : slices_IndexFunc_Act_at_impl_ActsText_1 s0 = some r) :
    Calls Tryd.prog 36 #[(.slice s0_a s0_an s0_c), (.func (.func 17) #[] #[])] w fun e w' => ∃ v, e = .returned v ∧ (v = (.int .i64 r) ∧ Mem w [] [] w') := by
  subst s0_hn
  rw [slices_IndexFunc_Act_at_impl_ActsText_1] at h
  refine enter (args := [(.slice s0_a s0.length s0_c), (.func (.func 17) #[] #[])]) Tryd.func36 rfl Tryd.ntmps36 (by kernel_rfl) (L := []) (W := []) (Mem.start w) ?_
  refine jc_seq ?_
  refine jc_region ?_
  refine jo_f [(0, 0)] (by kernel_rfl) ?_
  refine jo_end (by kernel_rfl) ?_
  refine jx_then ?_
  refine jc_seq ?_
  refine jc_seq ?_
  refine jc_region ?_
  refine jo_f [(0, 0), (0, 0), (0, 0)] (by kernel_rfl) ?_
  refine jo_end (by kernel_rfl) ?_
  refine jx_then ?_
  refine jc_meet (fun (_ : Unit) => slices_IndexFunc_Act_at_impl_ActsText_1.k_1 = some r) (fun (_ : Unit) => [(4, [], (.int .i64 0))]) (fun (_ : Unit) => []) ?_ ?_
  · refine jc_block ?_
    obtain ⟨t_4, ht_40, hr_31⟩ := bd h
    refine jc_loop (fun (s : Int) (x : Unit) => match s, x with | i_2, _ => True) (fun (s : Int) (x : Unit) => match s, x with | i_2, _ => [(0, [], (.slice s0_a s0.length s0_c)), (1, [], (.func (.func 17) #[] #[])), (4, [], (.int .i64 0)), (7, [], (.int .i64 (s0.length : Int))), (8, [], (.int .i64 i_2))]) (fun (s : Int) (x : Unit) => match s, x with | i_2, _ => []) ht_40 () trivial (by kernel_rfl) [] (by kernel_rfl) (by kernel_rfl) ?_
    rintro i_2 _ y_32 _ h
    rw [slices_IndexFunc_Act_at_impl_ActsText_1.l_3] at h
    refine jc_seq ?_
    refine jc_region ?_
    refine jo_f [(0, 0)] (by kernel_rfl) ?_
    refine jo_end (by kernel_rfl) ?_
    refine jx_then ?_
    refine jc_seq ?_
    refine jc_cond (decide (i_2 < (s0.length : Int))) (by kernel_rfl) (fun hc_34 => ?_) (fun hc_34 => ?_)
    · replace h := ifT hc_34 h
      refine jc_skip ?_
      refine jx_then ?_
      refine jc_seq ?_
      refine jc_block ?_
      refine jc_seq ?_
      refine jc_region ?_
      refine jo_f [(0, 0), (0, 0)] (by kernel_rfl) ?_
      refine jo_end (by kernel_rfl) ?_
      refine jx_then ?_
      refine jc_seq ?_
      refine jc_region ?_
      refine jo_f [(0, 0), (0, 0), (0, 0)] (by kernel_rfl) ?_
      obtain ⟨x_5, hx_35, h⟩ := bd h
      refine toO (by kernel_rfl) (p_idx 0 s0_a s0.length i_2 5 (by kernel_rfl) (by kernel_rfl) (ix_some hx_35).1 (ltn hx_35 rfl) (s0_h.sp hx_35) (jkO ?_))
      refine toO (by kernel_rfl) (p_ld 0 (aB s0_a) (aO s0_a + i_2.toNat * 5) true (encGAct x_5) (by kernel_rfl) (by kernel_rfl) (by kernel_rfl) (fun w hm => ((hm.exRow s0_h List.not_mem_nil).at hx_35)) (jkO ?_))
      obtain ⟨t_6, ht_36, h⟩ := bd h
      refine toO (by kernel_rfl) (p_call 0 17 #[(.agg #[(.int .i8 x_5.fKind), (.int .i64 x_5.fA), (.int .i64 x_5.fB), (.int .i64 x_5.fC), (.int .i64 x_5.fD)])] (by kernel_rfl) (by kernel_rfl) (fun w hm => impl_ActsText_1.calls x_5 w _ ht_36) ?_)
      rintro w v w' hm ⟨rfl, hm'⟩
      refine ⟨_, hm.app hm', jkO ?_⟩
      clear hm hm'
      refine jo_end (by kernel_rfl) ?_
      refine jx_then ?_
      refine jc_cond t_6 (by kernel_rfl) (fun hc_37 => ?_) (fun hc_37 => ?_)
      · replace h := ifT hc_37 h
        refine jc_seq ?_
        refine jc_region ?_
        refine jo_f [(0, 0), (0, 0)] (by kernel_rfl) ?_
        refine jo_end (by kernel_rfl) ?_
        refine jx_then ?_
        refine jc_ret ?_
        refine jx_inr ?_
        refine jx_thenr ?_
        refine jx_leaver (.inl i_2) (Option.some.inj h).symm (fun e_38 => ?_)
        subst e_38
        refine jx_inr ?_
        refine jx_thenr ?_
        refine jx_thenr ?_
        obtain rfl := Option.some.inj hr_31
        exact jx_ret [] (.int .i64 i_2) [] rfl (by kernel_rfl) (by kernel_rfl) (fun w hm => ⟨rfl, hm.pick [] (by kernel_rfl) (by kernel_rfl)⟩)
      · replace h := ifF hc_37 h
        refine jc_skip ?_
        refine jx_inn ?_
        refine jx_then ?_
        refine jc_region ?_
        refine jo_f [(0, 0), (0, 0)] (by kernel_rfl) ?_
        refine jo_end (by kernel_rfl) ?_
        exact jx_back (w64 (i_2 + 1)) () (Option.some.inj h).symm trivial [] (by kernel_rfl) (by kernel_rfl) (by kernel_rfl)
    · replace h := ifF hc_34 h
      refine jc_exit ?_
      refine jx_thenx ?_
      refine jx_leave (.inr ()) (Option.some.inj h).symm (fun e_39 => ?_)
      subst e_39
      refine jx_ine ?_
      exact jx_meet () hr_31 (by kernel_rfl) [] (by kernel_rfl) (by kernel_rfl)
  · rintro _ h
    replace h : slices_IndexFunc_Act_at_impl_ActsText_1.k_1 = some r := h
    rw [slices_IndexFunc_Act_at_impl_ActsText_1.k_1] at h
    refine jx_then ?_
    refine jc_seq ?_
    refine jc_region ?_
    refine jo_f [(0, 0)] (by kernel_rfl) ?_
    refine jo_end (by kernel_rfl) ?_
    refine jx_then ?_
    refine jc_ret ?_
    obtain rfl := Option.some.inj h
    exact jx_ret [] (.int .i64 (-1)) [] rfl (by kernel_rfl) (by kernel_rfl) (fun w hm => ⟨rfl, hm.pick [] (by kernel_rfl) (by kernel_rfl)⟩)

/-! ### slices.ContainsFunc[[]impl.Act,impl.Act] -/
noncomputable def slices_ContainsFunc_Act_at_impl_ActsText_1 (s0 : List GAct) : Option (Bool) := (slices_IndexFunc_Act_at_impl_ActsText_1 s0).bind fun t_1 => some (decide (t_1 ≥ 0))
set_option maxRecDepth 100000 in
theorem slices_ContainsFunc_Act_at_impl_ActsText_1.calls (s0 : List GAct) (w : World) (r : Bool) (s0_a : Option Addr) (s0_an : Nat) (s0_c : Nat) (s0_h : Rw w s0_a 5 encGAct s0) (s0_hn : s0.length = s0_an) (h : slices_ContainsFunc_Act_at_impl_ActsText_1 s0 = some r) :
    Calls Tryd.prog 16 #[(.slice s0_a s0_an s0_c), (.func (.func 17) #[] #[])] w fun e w' => ∃ v, e = .returned v ∧ (v = (.bool r) ∧ Mem w [] [] w') := by
  subst s0_hn
  rw [slices_ContainsFunc_Act_at_impl_ActsText_1] at h
  refine enter (args := [(.slice s0_a s0.length s0_c), (.func (.func 17) #[] #[])]) Tryd.func16 rfl Tryd.ntmps16 (by kernel_rfl) (L := []) (W := []) (Mem.start w) ?_
  refine jc_seq ?_
  refine jc_region ?_
  refine jo_f [(0, 0)] (by kernel_rfl) ?_
  refine jo_end (by kernel_rfl) ?_
  refine jx_then ?_
  refine jc_seq ?_
  refine jc_region ?_
  refine jo_f [(0, 0), (0, 0)] (by kernel_rfl) ?_
  obtain ⟨t_1, ht_1, h⟩ := bd h
  refine toO (by kernel_rfl) (p_call 0 36 #[(.slice s0_a s0.length s0_c), (.func (.func 17) #[] #[])] (by kernel_rfl) (by kernel_rfl) (fun w hm => slices_IndexFunc_Act_at_impl_ActsText_1.calls s0 w _ s0_a s0.length s0_c (hm.exRow s0_h List.not_mem_nil) rfl ht_1) ?_)
  rintro w v w' hm ⟨rfl, hm'⟩
  refine ⟨_, hm.app hm', jkO ?_⟩
  clear hm hm'
  refine jo_f [(0, 0), (0, 0)] (by kernel_rfl) ?_
  refine jo_end (by kernel_rfl) ?_
  refine jx_then ?_
  refine jc_ret ?_
  obtain rfl := Option.some.inj h
  exact jx_ret [] (.bool (decide (t_1 ≥ 0))) [] rfl (by kernel_rfl) (by kernel_rfl) (fun w hm => ⟨rfl, hm.pick [] (by kernel_rfl) (by kernel_rfl)⟩)

/-! ### impl.actWords -/
noncomputable def impl_actWords : Option ((List ByteArray)) := some ([(ByteArray.mk #[116, 117, 114, 110]), (ByteArray.mk #[104, 97, 109, 109, 101, 114]), (ByteArray.mk #[112, 105, 110]), (ByteArray.mk #[109, 111, 118, 101])] : List ByteArray)
set_option maxRecDepth 100000 in
theorem impl_actWords.calls (w : World) (r : (List ByteArray)) (h : impl_actWords = some r) :
    Calls Tryd.prog 20 #[] w fun e w' => ∃ v, e = .returned v ∧ (∃ (o0 : Option Nat) (c0 : Nat) (s0 : List Value) (n0 : Nat), r.length = n0 ∧ (o0 ≠ none → n0 ≤ c0 ∧ s0.length = (c0 - n0) * 1) ∧ (o0 = none → r = [] ∧ c0 = 0) ∧ v = .slice (o0.map fun b => ⟨b, 0, none⟩) n0 c0 ∧ Mem w [] [⟨o0, 9, row encStr r s0⟩] w') := by
  rw [impl_actWords] at h
  refine enter (args := []) Tryd.func20 rfl Tryd.ntmps20 (by kernel_rfl) (L := []) (W := []) (Mem.start w) ?_
  refine jc_seq ?_
  refine jc_region ?_
  refine jo_f [(0, 0)] (by kernel_rfl) ?_
  refine jo_end (by kernel_rfl) ?_
  refine jx_then ?_
  refine jc_seq ?_
  refine jc_region ?_
  refine toO (by kernel_rfl) (p_a 0 [0] (by kernel_rfl) (fun b => by kernel_rfl) (fun b_1 => jkO ?_))
  refine jo_f [(0, 0)] (by kernel_rfl) ?_
  refine jo_end (by kernel_rfl) ?_
  refine jx_then ?_
  refine jc_ret ?_
  obtain rfl := Option.some.inj h
  exact jx_ret [] (.slice (some ⟨b_1, 0, none⟩) 4 4) [] rfl (by kernel_rfl) (by kernel_rfl) (fun w hm => ⟨(some b_1), 4, [], 4, rfl, (fun _ => ⟨Nat.le_refl _, by simp⟩), (fun e => nomatch e), rfl, hm.pick [0] (by kernel_rfl) (by kernel_rfl)⟩)

def lay_bld19_ren : Go.Shelf.Ren := ⟨fun | 166 => 19 | 240 => 39 | 276 => 48 | 169 => 24 | n => n, fun | 70 => 43 | 9 => 9 | 3 => 3 | 75 => 48 | 0 => 0 | 72 => 46 | 37 => 44 | 4 => 4 | 164 => 84 | 80 => 58 | 5 => 5 | 127 => 78 | 20 => 20 | n => n, fun | n => n⟩
theorem lay_bld19 : Go.Proofs.Lays.n166 Tryd.prog lay_bld19_ren where
  mixed := by kernel_rfl
  f166 := Tryd.func19.trans (congrArg some (by kernel_rfl))
  f240 := Tryd.func39.trans (congrArg some (by kernel_rfl))
  f276 := Tryd.func48.trans (congrArg some (by kernel_rfl))
  t0 := Tryd.underlying0
  a0 := Tryd.isAgg0
  z0 := Tryd.sizeOf0
  v0 := Tryd.zeroValue0
  t3 := Tryd.underlying3
  a3 := Tryd.isAgg3
  z3 := Tryd.sizeOf3
  v3 := Tryd.zeroValue3
  t4 := Tryd.underlying4
  a4 := Tryd.isAgg4
  z4 := Tryd.sizeOf4
  v4 := Tryd.zeroValue4
  t9 := Tryd.underlying9
  a9 := Tryd.isAgg9
  z9 := Tryd.sizeOf9
  v9 := Tryd.zeroValue9
  t20 := Tryd.underlying20
  a20 := Tryd.isAgg20
  z20 := Tryd.sizeOf20
  v20 := Tryd.zeroValue20
  t37 := Tryd.underlying44
  a37 := Tryd.isAgg44
  z37 := Tryd.sizeOf44
  v37 := Tryd.zeroValue44
  t70 := Tryd.underlying43
  a70 := Tryd.isAgg43
  z70 := Tryd.sizeOf43
  v70 := Tryd.zeroValue43
  t72 := Tryd.underlying46
  a72 := Tryd.isAgg46
  z72 := Tryd.sizeOf46
  v72 := Tryd.zeroValue46
  t75 := Tryd.underlying48
  a75 := Tryd.isAgg48
  z75 := Tryd.sizeOf48
  v75 := Tryd.zeroValue48
  t164 := Tryd.underlying84
  a164 := Tryd.isAgg84
  z164 := Tryd.sizeOf84
  v164 := Tryd.zeroValue84
theorem lay_bld19_s : Go.Proofs.Lays.n169 Tryd.prog lay_bld19_ren where
  mixed := by kernel_rfl
  f169 := Tryd.func24.trans (congrArg some (by kernel_rfl))
  t0 := Tryd.underlying0
  a0 := Tryd.isAgg0
  z0 := Tryd.sizeOf0
  v0 := Tryd.zeroValue0
  t3 := Tryd.underlying3
  a3 := Tryd.isAgg3
  z3 := Tryd.sizeOf3
  v3 := Tryd.zeroValue3
  t9 := Tryd.underlying9
  a9 := Tryd.isAgg9
  z9 := Tryd.sizeOf9
  v9 := Tryd.zeroValue9
  t37 := Tryd.underlying44
  a37 := Tryd.isAgg44
  z37 := Tryd.sizeOf44
  v37 := Tryd.zeroValue44
  t70 := Tryd.underlying43
  a70 := Tryd.isAgg43
  z70 := Tryd.sizeOf43
  v70 := Tryd.zeroValue43
  t72 := Tryd.underlying46
  a72 := Tryd.isAgg46
  z72 := Tryd.sizeOf46
  v72 := Tryd.zeroValue46
  t127 := Tryd.underlying78
  a127 := Tryd.isAgg78
  z127 := Tryd.sizeOf78
  v127 := Tryd.zeroValue78
theorem lay_bld19_x : Go.Proofs.Builder.Extra Tryd.prog lay_bld19_ren where
  sizeBuilder := by kernel_rfl
  liesBuilder := by kernel_rfl
  t5 := Tryd.underlying5
  a5 := Tryd.isAgg5
  z5 := Tryd.sizeOf5
  v5 := Tryd.zeroValue5
  infoByte := by kernel_rfl
  cellsByte := by kernel_rfl
  sizeByte := by kernel_rfl
  neB5 := by decide
/-! ### (*strings.Builder).WriteString -/
set_option maxRecDepth 100000 in
theorem bld19.calls {w0 : World} {Lb : List Blk} (lo : ¬ dsW.S) (i j b : Nat) (q : Bool) (o : Option Nat) (n c : Nat) (xs : List Int) (sp : List Value) (hi : Lb[i]? = some ⟨some b, 46, [bp q b, .slice (o.map fun b => ⟨b, 0, none⟩) n c]⟩) (hj : Lb[j]? = some ⟨o, 5, row encU8 xs sp⟩) (hn : xs.length = n) (hs : o ≠ none → n ≤ c ∧ sp.length = (c - n) * 1) (ho : o = none → xs = [] ∧ c = 0) (hc : c ≤ 9223372036854775807) (hot : othU 5 i j 0 Lb = true) (ij : i ≠ j) (s : ByteArray) (hbig : xs.length + s.size ≤ 140737488355328) (w : World) (hm : Mem w0 [] Lb w) :
    Calls Tryd.prog 19 #[.pointer (some ⟨b, 0, none⟩), .string s] w fun e w' => ∃ v, e = .returned v ∧ ∃ (o' : Option Nat) (c' : Nat) (sp' : List Value), (o' ≠ none → (xs ++ bytesI s).length ≤ c' ∧ sp'.length = (c' - (xs ++ bytesI s).length) * 1) ∧ (o' = none → xs ++ bytesI s = [] ∧ c' = 0) ∧ c' ≤ 9223372036854775807 ∧ v = .tuple #[.int .i64 s.size, .nilIface] ∧
      Mem w0 [] ((Lb.set i ⟨some b, 46, [bp true b, .slice (o'.map fun b => ⟨b, 0, none⟩) (xs ++ bytesI s).length c']⟩).set j ⟨o', 5, row encU8 (xs ++ bytesI s) sp'⟩) w' :=
  wstr_c lay_bld19 lay_bld19_x lo 46 5 rfl rfl i j b q o n c encU8 xs sp hi hj hn hs ho hc (fun _ => rfl) hot ij s hbig w hm

def lay_strconv_FormatInt_ren : Go.Shelf.Ren := ⟨fun | 173 => 40 | 246 => 49 | 283 => 57 | 284 => 58 | 285 => 59 | 286 => 60 | 129 => 72 | 317 => 71 | 318 => 73 | 319 => 74 | 320 => 75 | 337 => 85 | 338 => 86 | n => n, fun | 2 => 2 | 3 => 3 | 9 => 9 | 4 => 4 | 171 => 91 | 0 => 0 | 53 => 92 | 37 => 44 | 5 => 5 | 173 => 95 | 212 => 109 | 51 => 110 | 20 => 20 | 213 => 111 | 46 => 103 | 232 => 129 | 233 => 130 | n => n, fun | 17 => 0 | 18 => 6 | 19 => 7 | n => n⟩
theorem lay_strconv_FormatInt : Go.Proofs.LaysM.n173 Tryd.prog lay_strconv_FormatInt_ren where
  mixed := by kernel_rfl
  f129 := Tryd.func72.trans (congrArg some (by kernel_rfl))
  f173 := Tryd.func40.trans (congrArg some (by kernel_rfl))
  f246 := Tryd.func49.trans (congrArg some (by kernel_rfl))
  f283 := Tryd.func57.trans (congrArg some (by kernel_rfl))
  f284 := Tryd.func58.trans (congrArg some (by kernel_rfl))
  f285 := Tryd.func59.trans (congrArg some (by kernel_rfl))
  f286 := Tryd.func60.trans (congrArg some (by kernel_rfl))
  f317 := Tryd.func71.trans (congrArg some (by kernel_rfl))
  f318 := Tryd.func73.trans (congrArg some (by kernel_rfl))
  f319 := Tryd.func74.trans (congrArg some (by kernel_rfl))
  f320 := Tryd.func75.trans (congrArg some (by kernel_rfl))
  f337 := Tryd.func85.trans (congrArg some (by kernel_rfl))
  f338 := Tryd.func86.trans (congrArg some (by kernel_rfl))
  t0 := Tryd.underlying0
  a0 := Tryd.isAgg0
  z0 := Tryd.sizeOf0
  v0 := Tryd.zeroValue0
  t2 := Tryd.underlying2
  a2 := Tryd.isAgg2
  z2 := Tryd.sizeOf2
  v2 := Tryd.zeroValue2
  t3 := Tryd.underlying3
  a3 := Tryd.isAgg3
  z3 := Tryd.sizeOf3
  v3 := Tryd.zeroValue3
  t4 := Tryd.underlying4
  a4 := Tryd.isAgg4
  z4 := Tryd.sizeOf4
  v4 := Tryd.zeroValue4
  t5 := Tryd.underlying5
  a5 := Tryd.isAgg5
  z5 := Tryd.sizeOf5
  v5 := Tryd.zeroValue5
  t9 := Tryd.underlying9
  a9 := Tryd.isAgg9
  z9 := Tryd.sizeOf9
  v9 := Tryd.zeroValue9
  t20 := Tryd.underlying20
  a20 := Tryd.isAgg20
  z20 := Tryd.sizeOf20
  v20 := Tryd.zeroValue20
  t37 := Tryd.underlying44
  a37 := Tryd.isAgg44
  z37 := Tryd.sizeOf44
  v37 := Tryd.zeroValue44
  t46 := Tryd.underlying103
  a46 := Tryd.isAgg103
  z46 := Tryd.sizeOf103
  v46 := Tryd.zeroValue103
  t51 := Tryd.underlying110
  a51 := Tryd.isAgg110
  z51 := Tryd.sizeOf110
  v51 := Tryd.zeroValue110
  t53 := Tryd.underlying92
  a53 := Tryd.isAgg92
  z53 := Tryd.sizeOf92
  v53 := Tryd.zeroValue92
  t171 := Tryd.underlying91
  a171 := Tryd.isAgg91
  z171 := Tryd.sizeOf91
  v171 := Tryd.zeroValue91
  t173 := Tryd.underlying95
  a173 := Tryd.isAgg95
  z173 := Tryd.sizeOf95
  v173 := Tryd.zeroValue95
  t212 := Tryd.underlying109
  a212 := Tryd.isAgg109
  z212 := Tryd.sizeOf109
  v212 := Tryd.zeroValue109
  t213 := Tryd.underlying111
  a213 := Tryd.isAgg111
  z213 := Tryd.sizeOf111
  t232 := Tryd.underlying129
  a232 := Tryd.isAgg129
  z232 := Tryd.sizeOf129
  v232 := Tryd.zeroValue129
  t233 := Tryd.underlying130
  a233 := Tryd.isAgg130
  z233 := Tryd.sizeOf130
  v233 := Tryd.zeroValue130
  g17 := by kernel_rfl
  g18 := by kernel_rfl
  g19 := by kernel_rfl
  i0 := by kernel_rfl
  i2 := by kernel_rfl
  i3 := by kernel_rfl
  i4 := by kernel_rfl
  i5 := by kernel_rfl
  i9 := by kernel_rfl
  i20 := by kernel_rfl
  i37 := by kernel_rfl
  i46 := by kernel_rfl
  i51 := by kernel_rfl
  i53 := by kernel_rfl
  i171 := by kernel_rfl
  i173 := by kernel_rfl
  i212 := by kernel_rfl
  i232 := by kernel_rfl
  i233 := by kernel_rfl
  m17 := by kernel_rfl
  m18 := by kernel_rfl
  m19 := by kernel_rfl
/-! ### strconv.FormatInt -/
noncomputable def strconv_FormatInt (i0 : Int) (base1 : Int) : Option (ByteArray) := fmtF i0 base1
set_option maxRecDepth 100000 in
theorem strconv_FormatInt.calls (i0 : Int) (base1 : Int) (w : World) (r : ByteArray) (g_pw : Glpw w) (h : strconv_FormatInt i0 base1 = some r) :
    Calls Tryd.prog 40 #[(.int .i64 i0), (.int .i64 base1)] w fun e w' => ∃ v, e = .returned v ∧ (v = (.string r) ∧ Mem w [] [] w') := by
  rw [strconv_FormatInt] at h
  exact fmt_calls lay_strconv_FormatInt i0 base1 w r g_pw.pw h

/-! ### impl.decimal -/
noncomputable def impl_decimal (n0 : Int) : Option (ByteArray) := (strconv_FormatInt n0 10).bind fun t_1 => some t_1
set_option maxRecDepth 100000 in
theorem impl_decimal.calls (n0 : Int) (w : World) (r : ByteArray) (g_pw : Glpw w) (h : impl_decimal n0 = some r) :
    Calls Tryd.prog 23 #[(.int .i64 n0)] w fun e w' => ∃ v, e = .returned v ∧ (v = (.string r) ∧ Mem w [] [] w') := by
  rw [impl_decimal] at h
  refine enter (args := [(.int .i64 n0)]) Tryd.func23 rfl Tryd.ntmps23 (by kernel_rfl) (L := []) (W := []) (Mem.start w) ?_
  refine jc_seq ?_
  refine jc_region ?_
  refine jo_f [(0, 0)] (by kernel_rfl) ?_
  refine jo_end (by kernel_rfl) ?_
  refine jx_then ?_
  refine jc_seq ?_
  refine jc_region ?_
  refine jo_f [(0, 0)] (by kernel_rfl) ?_
  obtain ⟨t_1, ht_1, h⟩ := bd h
  refine toO (by kernel_rfl) (p_call 0 40 #[(.int .i64 n0), (.int .i64 10)] (by kernel_rfl) (by kernel_rfl) (fun w hm => strconv_FormatInt.calls n0 10 w _ (g_pw.keep hm) ht_1) ?_)
  rintro w v w' hm ⟨rfl, hm'⟩
  refine ⟨_, hm.app hm', jkO ?_⟩
  clear hm hm'
  refine jo_f [(0, 0)] (by kernel_rfl) ?_
  refine jo_end (by kernel_rfl) ?_
  refine jx_then ?_
  refine jc_ret ?_
  obtain rfl := Option.some.inj h
  exact jx_ret [] (.string t_1) [] rfl (by kernel_rfl) (by kernel_rfl) (fun w hm => ⟨rfl, hm.pick [] (by kernel_rfl) (by kernel_rfl)⟩)

/-! ### (*strings.Builder).String -/
set_option maxRecDepth 100000 in
theorem bld24.calls {w0 : World} {Lb : List Blk} (lo : ¬ dsW.S) (i j b : Nat) (q : Bool) (o : Option Nat) (n c : Nat) (xs : List Int) (sp : List Value) (hi : Lb[i]? = some ⟨some b, 46, [bp q b, .slice (o.map fun b => ⟨b, 0, none⟩) n c]⟩) (hj : Lb[j]? = some ⟨o, 5, row encU8 xs sp⟩) (hn : xs.length = n) (hs : o ≠ none → n ≤ c ∧ sp.length = (c - n) * 1) (ho : o = none → xs = [] ∧ c = 0) (hc : c ≤ 9223372036854775807) (hot : othU 5 i j 0 Lb = true) (ij : i ≠ j) (r : ByteArray) (hr : strF xs = some r) (w : World) (hm : Mem w0 [] Lb w) :
    Calls Tryd.prog 24 #[.pointer (some ⟨b, 0, none⟩)] w fun e w' => ∃ v, e = .returned v ∧ (v = .string r ∧ Mem w0 [] ((Lb.set i ⟨none, 0, []⟩).set j ⟨none, 0, []⟩) w') :=
  str_c lay_bld19_s lay_bld19_x lo 46 5 rfl rfl i j b q o n c encU8 xs sp hi hj hn hs ho hc (fun _ => rfl) hot ij r hr w hm -- beside bld19.calls

/-! ### impl.ActsText -/
noncomputable def impl_ActsText.k_4 (xs_3 : List Int) : Option (ByteArray) := (strF xs_3).bind fun t_5 => some t_5
noncomputable def impl_ActsText.k_17 (i_7 : Int) (xs_16 : List Int) : Option (((List Int) × Int) ⊕ ((List Int))) := (if xs_16.length + (ByteArray.mk #[10]).size ≤ 140737488355328 then some (.inl ((xs_16 ++ bytesI (ByteArray.mk #[10])), (w64 (i_7 + 1)))) else none)
noncomputable def impl_ActsText.l_20 (t_13 : (List Int)) (x_15 : Int) : ((List Int) × Int) → Option (((List Int) × Int) ⊕ ((List Int)))
  | (xs_18, i_19) => (if (decide (i_19 < (x_15.toNat : Int))) = true then (ix (t_13.take x_15.toNat) i_19).bind fun x_22 => (impl_decimal x_22).bind fun t_23 => (if (ByteArray.mk #[32]).size + t_23.size ≤ 9223372036854775807 then (if xs_18.length + ((ByteArray.mk #[32]) ++ t_23).size ≤ 140737488355328 then some (.inl ((xs_18 ++ bytesI ((ByteArray.mk #[32]) ++ t_23)), (w64 (i_19 + 1)))) else none) else none) else some (.inr xs_18))
noncomputable def impl_ActsText.l_8 (list0 : List GAct) : ((List Int) × Int) → Option (((List Int) × Int) ⊕ ((List Int)))
  | (xs_6, i_7) => (if (decide (i_7 < (list0.length : Int))) = true then (ix list0 i_7).bind fun x_10 => (impl_actWords).bind fun t_11 => (ix t_11 x_10.fKind).bind fun x_12 => (if xs_6.length + x_12.size ≤ 140737488355328 then (impl_Act_numbers x_10).bind fun t_13 => (impl_usedBy).bind fun t_14 => (ix t_14 x_10.fKind).bind fun x_15 => (if 0 ≤ x_15 ∧ x_15 ≤ (t_13.length : Int) then (loop (impl_ActsText.l_20 t_13 x_15) ((xs_6 ++ bytesI x_12), 0)).bind fun t_21 => impl_ActsText.k_17 i_7 t_21 else none) else none) else some (.inr xs_6))
noncomputable def impl_ActsText.k_2 (list0 : List GAct) (q_1 : Bool) : Option (ByteArray) := (if q_1 = true then some (ByteArray.mk #[]) else (loop (impl_ActsText.l_8 list0) ([], 0)).bind fun t_9 => impl_ActsText.k_4 t_9)
noncomputable def impl_ActsText (list0 : List GAct) : Option (ByteArray) := (if (decide ((list0.length : Int) > 60)) = true then impl_ActsText.k_2 list0 true else (slices_ContainsFunc_Act_at_impl_ActsText_1 list0).bind fun t_24 => impl_ActsText.k_2 list0 t_24)
set_option maxRecDepth 100000 in
theorem impl_ActsText.calls (list0 : List GAct) (w : World) (r : ByteArray) (g_lo : Gllo w) (g_pw : Glpw w) (list0_a : Option Addr) (list0_an : Nat) (list0_c : Nat) (list0_h : Rw w list0_a 5 encGAct list0) (list0_hn : list0.length = list0_an) (h : impl_ActsText list0 = some r) :
    Calls Tryd.prog 8 #[(.slice list0_a list0_an list0_c)] w fun e w' => ∃ v, e = .returned v ∧ (v = (.string r) ∧ Mem w [] [] w') := by
  subst list0_hn
  rw [impl_ActsText] at h
  refine enter (args := [(.slice list0_a list0.length list0_c)]) Tryd.func8 rfl Tryd.ntmps8 (by kernel_rfl) (L := []) (W := []) (Mem.start w) ?_
  refine jc_seq ?_
  refine jc_region ?_
  refine jo_f [(0, 0)] (by kernel_rfl) ?_
  refine jo_end (by kernel_rfl) ?_
  refine jx_then ?_
  refine jc_seq ?_
  refine jc_seq ?_
  refine jc_meet (fun (j : Bool) => match j with | q_1 => impl_ActsText.k_2 list0 q_1 = some r) (fun (j : Bool) => match j with | q_1 => [(0, [], (.slice list0_a list0.length list0_c)), (2, [], (.string (ByteArray.mk #[]))), (14, [], (.bool q_1))]) (fun (j : Bool) => match j with | q_1 => []) ?_ ?_
  · refine jc_region ?_
    refine jo_f [(0, 0), (0, 0), (0, 0), (0, 0), (0, 1)] (by kernel_rfl) ?_
    refine jo_split 11 (decide ((list0.length : Int) > 60)) (by kernel_rfl) (fun hc_2571 => ?_) (fun hc_2571 => ?_)
    · replace h := ifT hc_2571 h
      refine jo_f [(0, 3), (0, 4)] (by kernel_rfl) ?_
      refine jo_end (by kernel_rfl) ?_
      exact jx_meet true h (by kernel_rfl) [] (by kernel_rfl) (by kernel_rfl)
    · replace h := ifF hc_2571 h
      obtain ⟨t_24, ht_2572, h⟩ := bd h
      refine toO (by kernel_rfl) (p_call 2 16 #[(.slice list0_a list0.length list0_c), (.func (.func 17) #[] #[])] (by kernel_rfl) (by kernel_rfl) (fun w hm => slices_ContainsFunc_Act_at_impl_ActsText_1.calls list0 w _ list0_a list0.length list0_c (hm.exRow list0_h List.not_mem_nil) rfl ht_2572) ?_)
      rintro w v w' hm ⟨rfl, hm'⟩
      refine ⟨_, hm.app hm', jkO ?_⟩
      clear hm hm'
      refine jo_f [(0, 5)] (by kernel_rfl) ?_
      refine jo_end (by kernel_rfl) ?_
      exact jx_meet t_24 h (by kernel_rfl) [] (by kernel_rfl) (by kernel_rfl)
  · rintro q_1 h
    replace h : impl_ActsText.k_2 list0 q_1 = some r := h
    rw [impl_ActsText.k_2] at h
    refine jx_then ?_
    refine jc_cond q_1 (by kernel_rfl) (fun hc_8 => ?_) (fun hc_8 => ?_)
    · replace h := ifT hc_8 h
      refine jc_seq ?_
      refine jc_region ?_
      refine jo_f [(0, 0)] (by kernel_rfl) ?_
      refine jo_end (by kernel_rfl) ?_
      refine jx_then ?_
      refine jc_ret ?_
      refine jx_thenr ?_
      obtain rfl := Option.some.inj h
      exact jx_ret [] (.string (ByteArray.mk #[])) [] rfl (by kernel_rfl) (by kernel_rfl) (fun w hm => ⟨rfl, hm.pick [] (by kernel_rfl) (by kernel_rfl)⟩)
    · replace h := ifF hc_8 h
      refine jc_skip ?_
      refine jx_then ?_
      refine jc_seq ?_
      refine jc_region ?_
      refine jo_f [(0, 0)] (by kernel_rfl) ?_
      refine toO (by kernel_rfl) (p_a 0 [0] (by kernel_rfl) (fun b => by kernel_rfl) (fun b_9 => jkO ?_))
      refine toO (by kernel_rfl) (p_s 0 [0] (by kernel_rfl) (by kernel_rfl) (jkO ?_))
      refine jo_end (by kernel_rfl) ?_
      refine jx_then ?_
      refine jc_seq ?_
      refine jc_seq ?_
      refine jc_region ?_
      refine jo_f [(0, 0), (0, 0), (0, 0)] (by kernel_rfl) ?_
      refine jo_end (by kernel_rfl) ?_
      refine jx_then ?_
      refine jc_meet (fun (j : (List Int) × Bool × (Option Nat) × Nat × (List Value) × Nat) => match j with | ⟨xs_3, bq_1926, o_1927, cap_1928, sp_1929, n_1930⟩ => impl_ActsText.k_4 xs_3 = some r ∧ (xs_3.length = n_1930) ∧ ((o_1927 ≠ none → n_1930 ≤ cap_1928 ∧ sp_1929.length = (cap_1928 - n_1930) * 1)) ∧ ((o_1927 = none → xs_3 = [] ∧ cap_1928 = 0)) ∧ (cap_1928 ≤ 9223372036854775807)) (fun (j : (List Int) × Bool × (Option Nat) × Nat × (List Value) × Nat) => match j with | ⟨xs_3, bq_1926, o_1927, cap_1928, sp_1929, n_1930⟩ => [(2, [], (.string (ByteArray.mk #[]))), (3, [], (.pointer (some ⟨b_9, 0, none⟩)))]) (fun (j : (List Int) × Bool × (Option Nat) × Nat × (List Value) × Nat) => match j with | ⟨xs_3, bq_1926, o_1927, cap_1928, sp_1929, n_1930⟩ => [⟨some b_9, 46, [(bp bq_1926 b_9), (.slice (o_1927.map fun b => ⟨b, 0, none⟩) n_1930 cap_1928)]⟩, ⟨o_1927, 5, row encU8 xs_3 sp_1929⟩]) ?_ ?_
      · refine jc_block ?_
        obtain ⟨t_9, ht_2570, hr_2357⟩ := bd h
        refine jc_ghost 5 encU8 ?_
        refine jc_loop (fun (s : (List Int) × Int) (x : Bool × (Option Nat) × Nat × (List Value) × Nat) => match s, x with | ⟨xs_6, i_7⟩, ⟨bq_2349, o_2350, cap_2351, sp_2352, n_2353⟩ => (xs_6.length = n_2353) ∧ ((o_2350 ≠ none → n_2353 ≤ cap_2351 ∧ sp_2352.length = (cap_2351 - n_2353) * 1)) ∧ ((o_2350 = none → xs_6 = [] ∧ cap_2351 = 0)) ∧ (cap_2351 ≤ 9223372036854775807)) (fun (s : (List Int) × Int) (x : Bool × (Option Nat) × Nat × (List Value) × Nat) => match s, x with | ⟨xs_6, i_7⟩, ⟨bq_2349, o_2350, cap_2351, sp_2352, n_2353⟩ => [(2, [], (.string (ByteArray.mk #[]))), (3, [], (.pointer (some ⟨b_9, 0, none⟩))), (16, [], (.slice list0_a list0.length list0_c)), (17, [], (.int .i64 (list0.length : Int))), (18, [], (.int .i64 i_7))]) (fun (s : (List Int) × Int) (x : Bool × (Option Nat) × Nat × (List Value) × Nat) => match s, x with | ⟨xs_6, i_7⟩, ⟨bq_2349, o_2350, cap_2351, sp_2352, n_2353⟩ => [⟨some b_9, 46, [(bp bq_2349 b_9), (.slice (o_2350.map fun b => ⟨b, 0, none⟩) n_2353 cap_2351)]⟩, ⟨o_2350, 5, row encU8 xs_6 sp_2352⟩]) ht_2570 ⟨false, none, 0, [], 0⟩ ⟨rfl, (fun e => absurd rfl e), (fun _ => ⟨rfl, rfl⟩), (Nat.zero_le _)⟩ (by kernel_rfl) [0, 1] (by kernel_rfl) (by kernel_rfl) ?_
        rintro ⟨xs_6, i_7⟩ ⟨bq_2349, o_2350, cap_2351, sp_2352, n_2353⟩ y_2358 ⟨rfl, hs_2354, ho_2355, hc_2356⟩ h
        rw [impl_ActsText.l_8] at h
        refine jc_seq ?_
        refine jc_region ?_
        refine jo_f [(0, 0)] (by kernel_rfl) ?_
        refine jo_end (by kernel_rfl) ?_
        refine jx_then ?_
        refine jc_seq ?_
        refine jc_cond (decide (i_7 < (list0.length : Int))) (by kernel_rfl) (fun hc_2360 => ?_) (fun hc_2360 => ?_)
        · replace h := ifT hc_2360 h
          refine jc_skip ?_
          refine jx_then ?_
          refine jc_seq ?_
          refine jc_block ?_
          refine jc_seq ?_
          refine jc_region ?_
          obtain ⟨x_10, hx_2361, h⟩ := bd h
          refine toO (by kernel_rfl) (p_idx 0 list0_a list0.length i_7 5 (by kernel_rfl) (by kernel_rfl) (ix_some hx_2361).1 (ltn hx_2361 rfl) (list0_h.sp hx_2361) (jkO ?_))
          refine toO (by kernel_rfl) (p_ld 0 (aB list0_a) (aO list0_a + i_7.toNat * 5) true (encGAct x_10) (by kernel_rfl) (by kernel_rfl) (by kernel_rfl) (fun w hm => ((hm.exRow list0_h List.not_mem_nil).at hx_2361)) (jkO ?_))
          refine toO (by kernel_rfl) (p_a 0 [0] (by kernel_rfl) (fun b => by kernel_rfl) (fun b_2362 => jkO ?_))
          refine toO (by kernel_rfl) (p_s 0 [2] (by kernel_rfl) (by kernel_rfl) (jkO ?_))
          refine jo_end (by kernel_rfl) ?_
          refine jx_then ?_
          refine jc_seq ?_
          refine jc_draw [⟨some b_2362, 37, [(.int .i8 x_10.fKind), (.int .i64 x_10.fA), (.int .i64 x_10.fB), (.int .i64 x_10.fC), (.int .i64 x_10.fD)]⟩] 6 (by kernel_rfl) (by kernel_rfl) ?_
          refine jd_f [⟨1, 0, 0⟩, ⟨2, 0, 0⟩] 4 (by kernel_rfl) (by kernel_rfl) (fun w h => h.pick [2] (by kernel_rfl) (by kernel_rfl)) (by kernel_rfl) (by kernel_rfl) ?_
          obtain ⟨t_11, ht_2405, h⟩ := bd h
          refine toD 0 (by kernel_rfl) (p_call 0 20 #[] (by kernel_rfl) (by kernel_rfl) (fun w hm => impl_actWords.calls w _ ht_2405) ?_)
          rintro w v w' hm ⟨o_2406, cap_2407, sp_2408, _, rfl, hs_2409, ho_2410, rfl, hm'⟩
          refine ⟨_, hm.app hm', jkD (fun w h => h.pick [2] (by kernel_rfl) (by kernel_rfl)) ?_⟩
          clear hm hm'
          obtain ⟨x_12, hx_2411, h⟩ := bd h
          refine jd_v 3 0 (by kernel_rfl) (fun w h => h.pick [2] (by kernel_rfl) (by kernel_rfl)) (by kernel_rfl) (by kernel_rfl) _ (fun w hm => idx_run (a := (o_2406.map fun b => ⟨b, 0, none⟩)) (len := t_11.length) (s := 1) (j := x_10.fKind) (by kernel_rfl) (ix_some hx_2411).1 (ltn hx_2411 rfl) (spo ho_2410 hx_2411)) ?_
          refine toD 4 (by kernel_rfl) (p_ld 0 (aB (o_2406.map fun b => ⟨b, 0, none⟩)) (aO (o_2406.map fun b => ⟨b, 0, none⟩) + x_10.fKind.toNat * 1) false (encStr x_12) (by kernel_rfl) (by kernel_rfl) (by kernel_rfl) (fun w hm => ((hm.ownRow (hh := 3) (o := o_2406) (T := 9) (enc := encStr) (xs := t_11) (sp := sp_2408) (by kernel_rfl) (fun e => (ho_2410 e).1) encStr_len).at hx_2411)) (jkD (fun w h => h.pick [2] (by kernel_rfl) (by kernel_rfl)) ?_))
          obtain ⟨hg_2412, h⟩ := gd h
          refine toD 5 (by kernel_rfl) (p_call 0 19 #[(.pointer (some ⟨b_9, 0, none⟩)), (.string x_12)] (by kernel_rfl) (by kernel_rfl) (fun w hm => bld19.calls g_lo.lo 0 1 b_9 bq_2349 o_2350 xs_6.length cap_2351 xs_6 sp_2352 (by kernel_rfl) (by kernel_rfl) rfl hs_2354 ho_2355 hc_2356 (by kernel_rfl) (by decide) x_12 hg_2412 w hm) ?_)
          rintro w v w' hm ⟨o_2413, cap_2414, sp_2415, hs_2416, ho_2417, hc_2418, rfl, hm'⟩
          refine ⟨_, Mem.pick hm' (N := [⟨some b_9, 46, [(bp true b_9), (.slice (o_2413.map fun b => ⟨b, 0, none⟩) ((xs_6 ++ bytesI x_12).length) cap_2414)]⟩, ⟨o_2413, 5, row encU8 (xs_6 ++ bytesI x_12) sp_2415⟩, ⟨some b_2362, 37, [(.int .i8 x_10.fKind), (.int .i64 x_10.fA), (.int .i64 x_10.fB), (.int .i64 x_10.fC), (.int .i64 x_10.fD)]⟩, ⟨o_2406, 9, row encStr t_11 sp_2408⟩]) [0, 1, 2, 3] (by kernel_rfl) (by kernel_rfl), jkD (fun w h => h.pick [2] (by kernel_rfl) (by kernel_rfl)) ?_⟩
          clear hm hm'
          refine jd_end (by kernel_rfl) ?_
          refine jx_then ?_
          refine jc_seq ?_
          refine jc_seq ?_
          refine jc_draw [⟨some b_9, 46, [(bp true b_9), (.slice (o_2413.map fun b => ⟨b, 0, none⟩) ((xs_6 ++ bytesI x_12).length) cap_2414)]⟩, ⟨o_2413, 5, row encU8 (xs_6 ++ bytesI x_12) sp_2415⟩, ⟨some b_2362, 37, [(.int .i8 x_10.fKind), (.int .i64 x_10.fA), (.int .i64 x_10.fB), (.int .i64 x_10.fC), (.int .i64 x_10.fD)]⟩, ⟨o_2406, 9, row encStr t_11 sp_2408⟩] 10 (by kernel_rfl) (by kernel_rfl) ?_
          refine jd_f [⟨0, 2, 0⟩, ⟨3, 0, 0⟩, ⟨4, 2, 0⟩, ⟨9, 0, 0⟩] 6 (by kernel_rfl) (by kernel_rfl) (fun w h => h.pick [0, 1, 2, 3] (by kernel_rfl) (by kernel_rfl)) (by kernel_rfl) (by kernel_rfl) ?_
          obtain ⟨t_13, ht_2433, h⟩ := bd h
          refine toD 1 (by kernel_rfl) (p_call 0 21 #[(.agg #[(.int .i8 x_10.fKind), (.int .i64 x_10.fA), (.int .i64 x_10.fB), (.int .i64 x_10.fC), (.int .i64 x_10.fD)])] (by kernel_rfl) (by kernel_rfl) (fun w hm => impl_Act_numbers.calls x_10 w _ ht_2433) ?_)
          rintro w v w' hm ⟨o_2434, cap_2435, sp_2436, _, rfl, hs_2437, ho_2438, rfl, hm'⟩
          refine ⟨_, hm.app hm', jkD (fun w h => h.pick [0, 1, 2, 3] (by kernel_rfl) (by kernel_rfl)) ?_⟩
          clear hm hm'
          obtain ⟨t_14, ht_2439, h⟩ := bd h
          refine toD 2 (by kernel_rfl) (p_call 0 22 #[] (by kernel_rfl) (by kernel_rfl) (fun w hm => impl_usedBy.calls w _ ht_2439) ?_)
          rintro w v w' hm ⟨o_2440, cap_2441, sp_2442, _, rfl, hs_2443, ho_2444, rfl, hm'⟩
          refine ⟨_, hm.app hm', jkD (fun w h => h.pick [0, 1, 2, 3] (by kernel_rfl) (by kernel_rfl)) ?_⟩
          clear hm hm'
          obtain ⟨x_15, hx_2445, h⟩ := bd h
          refine jd_v 5 0 (by kernel_rfl) (fun w h => h.pick [0, 1, 2, 3] (by kernel_rfl) (by kernel_rfl)) (by kernel_rfl) (by kernel_rfl) _ (fun w hm => idx_run (a := (o_2440.map fun b => ⟨b, 0, none⟩)) (len := t_14.length) (s := 1) (j := x_10.fKind) (by kernel_rfl) (ix_some hx_2445).1 (ltn hx_2445 rfl) (spo ho_2444 hx_2445)) ?_
          refine toD 6 (by kernel_rfl) (p_ld 0 (aB (o_2440.map fun b => ⟨b, 0, none⟩)) (aO (o_2440.map fun b => ⟨b, 0, none⟩) + x_10.fKind.toNat * 1) false (encI64 x_15) (by kernel_rfl) (by kernel_rfl) (by kernel_rfl) (fun w hm => ((hm.ownRow (hh := 5) (o := o_2440) (T := 3) (enc := encI64) (xs := t_14) (sp := sp_2442) (by kernel_rfl) (fun e => (ho_2444 e).1) encI64_len).at hx_2445)) (jkD (fun w h => h.pick [0, 1, 2, 3] (by kernel_rfl) (by kernel_rfl)) ?_))
          obtain ⟨hg_2446, h⟩ := gd h
          refine jd_v 7 0 (by kernel_rfl) (fun w h => h.pick [0, 1, 2, 3] (by kernel_rfl) (by kernel_rfl)) (by kernel_rfl) (by kernel_rfl) _ (fun w hm => slH_run (a := (o_2434.map fun b => ⟨b, 0, none⟩)) (len := t_13.length) (cap := cap_2435) (size := 1) (h := x_15) (by kernel_rfl) hg_2446.1 (Int.le_trans hg_2446.2 (Int.ofNat_le.2 (cap_le rfl hs_2437 ho_2438)))) ?_
          refine jd_f [⟨8, 0, 0⟩] 0 (by kernel_rfl) (by kernel_rfl) (fun w h => h.pick [0, 1, 2, 3] (by kernel_rfl) (by kernel_rfl)) (by kernel_rfl) (by kernel_rfl) ?_
          refine jd_end (by kernel_rfl) ?_
          refine jx_then ?_
          refine jc_meet (fun (j : (List Int) × (Option Nat) × Nat × (List Value) × Nat) => match j with | ⟨xs_16, o_2501, cap_2502, sp_2503, n_2504⟩ => impl_ActsText.k_17 i_7 xs_16 = some y_2358 ∧ (xs_16.length = n_2504) ∧ ((o_2501 ≠ none → n_2504 ≤ cap_2502 ∧ sp_2503.length = (cap_2502 - n_2504) * 1)) ∧ ((o_2501 = none → xs_16 = [] ∧ cap_2502 = 0)) ∧ (cap_2502 ≤ 9223372036854775807)) (fun (j : (List Int) × (Option Nat) × Nat × (List Value) × Nat) => match j with | ⟨xs_16, o_2501, cap_2502, sp_2503, n_2504⟩ => [(2, [], (.string (ByteArray.mk #[]))), (3, [], (.pointer (some ⟨b_9, 0, none⟩))), (16, [], (.slice list0_a list0.length list0_c)), (17, [], (.int .i64 (list0.length : Int))), (18, [], (.int .i64 i_7))]) (fun (j : (List Int) × (Option Nat) × Nat × (List Value) × Nat) => match j with | ⟨xs_16, o_2501, cap_2502, sp_2503, n_2504⟩ => [⟨some b_9, 46, [(bp true b_9), (.slice (o_2501.map fun b => ⟨b, 0, none⟩) n_2504 cap_2502)]⟩, ⟨o_2501, 5, row encU8 xs_16 sp_2503⟩, ⟨some b_2362, 37, [(.int .i8 x_10.fKind), (.int .i64 x_10.fA), (.int .i64 x_10.fB), (.int .i64 x_10.fC), (.int .i64 x_10.fD)]⟩, ⟨o_2406, 9, row encStr t_11 sp_2408⟩, ⟨o_2434, 2, row encI64 t_13 sp_2436⟩, ⟨o_2440, 3, row encI64 t_14 sp_2442⟩]) ?_ ?_
          · refine jc_block ?_
            obtain ⟨t_21, ht_2568, hr_2553⟩ := bd h
            refine jc_loop (fun (s : (List Int) × Int) (x : (Option Nat) × Nat × (List Value) × Nat) => match s, x with | ⟨xs_18, i_19⟩, ⟨o_2546, cap_2547, sp_2548, n_2549⟩ => (xs_18.length = n_2549) ∧ ((o_2546 ≠ none → n_2549 ≤ cap_2547 ∧ sp_2548.length = (cap_2547 - n_2549) * 1)) ∧ ((o_2546 = none → xs_18 = [] ∧ cap_2547 = 0)) ∧ (cap_2547 ≤ 9223372036854775807)) (fun (s : (List Int) × Int) (x : (Option Nat) × Nat × (List Value) × Nat) => match s, x with | ⟨xs_18, i_19⟩, ⟨o_2546, cap_2547, sp_2548, n_2549⟩ => [(2, [], (.string (ByteArray.mk #[]))), (3, [], (.pointer (some ⟨b_9, 0, none⟩))), (16, [], (.slice list0_a list0.length list0_c)), (17, [], (.int .i64 (list0.length : Int))), (18, [], (.int .i64 i_7)), (35, [], (.slice (o_2434.map fun b => ⟨b, 0, none⟩) x_15.toNat cap_2435)), (36, [], (.int .i64 (x_15.toNat : Int))), (37, [], (.int .i64 i_19))]) (fun (s : (List Int) × Int) (x : (Option Nat) × Nat × (List Value) × Nat) => match s, x with | ⟨xs_18, i_19⟩, ⟨o_2546, cap_2547, sp_2548, n_2549⟩ => [⟨some b_9, 46, [(bp true b_9), (.slice (o_2546.map fun b => ⟨b, 0, none⟩) n_2549 cap_2547)]⟩, ⟨o_2546, 5, row encU8 xs_18 sp_2548⟩, ⟨some b_2362, 37, [(.int .i8 x_10.fKind), (.int .i64 x_10.fA), (.int .i64 x_10.fB), (.int .i64 x_10.fC), (.int .i64 x_10.fD)]⟩, ⟨o_2406, 9, row encStr t_11 sp_2408⟩, ⟨o_2434, 2, row encI64 t_13 sp_2436⟩, ⟨o_2440, 3, row encI64 t_14 sp_2442⟩]) ht_2568 ⟨o_2413, cap_2414, sp_2415, (xs_6 ++ bytesI x_12).length⟩ ⟨rfl, hs_2416, ho_2417, hc_2418⟩ (by kernel_rfl) [0, 1, 2, 3, 4, 5] (by kernel_rfl) (by kernel_rfl) ?_
            rintro ⟨xs_18, i_19⟩ ⟨o_2546, cap_2547, sp_2548, n_2549⟩ y_2554 ⟨rfl, hs_2550, ho_2551, hc_2552⟩ h
            rw [impl_ActsText.l_20] at h
            refine jc_seq ?_
            refine jc_region ?_
            refine jo_f [(0, 0)] (by kernel_rfl) ?_
            refine jo_end (by kernel_rfl) ?_
            refine jx_then ?_
            refine jc_seq ?_
            refine jc_cond (decide (i_19 < (x_15.toNat : Int))) (by kernel_rfl) (fun hc_2556 => ?_) (fun hc_2556 => ?_)
            · replace h := ifT hc_2556 h
              refine jc_skip ?_
              refine jx_then ?_
              refine jc_seq ?_
              refine jc_block ?_
              refine jc_seq ?_
              refine jc_region ?_
              obtain ⟨x_22, hx_2557, h⟩ := bd h
              refine toO (by kernel_rfl) (p_idx 0 (o_2434.map fun b => ⟨b, 0, none⟩) x_15.toNat i_19 1 (by kernel_rfl) (by kernel_rfl) (ix_some hx_2557).1 (ltn hx_2557 (hd_len hg_2446)) (spo_hd (o := o_2434) ho_2438 hx_2557) (jkO ?_))
              refine toO (by kernel_rfl) (p_ld 0 (aB (o_2434.map fun b => ⟨b, 0, none⟩)) (aO (o_2434.map fun b => ⟨b, 0, none⟩) + i_19.toNat * 1) false (encI64 x_22) (by kernel_rfl) (by kernel_rfl) (by kernel_rfl) (fun w hm => (((hm.ownRow (hh := 4) (o := o_2434) (T := 2) (enc := encI64) (xs := t_13) (sp := sp_2436) (by kernel_rfl) (fun e => (ho_2438 e).1) encI64_len).hd x_15.toNat).at hx_2557)) (jkO ?_))
              refine jo_f [(0, 0)] (by kernel_rfl) ?_
              refine jo_end (by kernel_rfl) ?_
              refine jx_then ?_
              refine jc_region ?_
              refine jo_f [(0, 0)] (by kernel_rfl) ?_
              obtain ⟨t_23, ht_2558, h⟩ := bd h
              refine toO (by kernel_rfl) (p_call 0 23 #[(.int .i64 x_22)] (by kernel_rfl) (by kernel_rfl) (fun w hm => impl_decimal.calls x_22 w _ (g_pw.keep hm) ht_2558) ?_)
              rintro w v w' hm ⟨rfl, hm'⟩
              refine ⟨_, hm.app hm', jkO ?_⟩
              clear hm hm'
              obtain ⟨hg_2559, h⟩ := gd h
              refine toO (by kernel_rfl) (p_v 0 (by kernel_rfl) _ (fun w hm => cat_run (a := (ByteArray.mk #[32])) (b := t_23) (by kernel_rfl) hg_2559) (jkO ?_))
              obtain ⟨hg_2560, h⟩ := gd h
              refine toO (by kernel_rfl) (p_call 0 19 #[(.pointer (some ⟨b_9, 0, none⟩)), (.string ((ByteArray.mk #[32]) ++ t_23))] (by kernel_rfl) (by kernel_rfl) (fun w hm => bld19.calls g_lo.lo 0 1 b_9 true o_2546 xs_18.length cap_2547 xs_18 sp_2548 (by kernel_rfl) (by kernel_rfl) rfl hs_2550 ho_2551 hc_2552 (by kernel_rfl) (by decide) ((ByteArray.mk #[32]) ++ t_23) hg_2560 w hm) ?_)
              rintro w v w' hm ⟨o_2561, cap_2562, sp_2563, hs_2564, ho_2565, hc_2566, rfl, hm'⟩
              refine ⟨_, Mem.pick hm' (N := [⟨some b_9, 46, [(bp true b_9), (.slice (o_2561.map fun b => ⟨b, 0, none⟩) ((xs_18 ++ bytesI ((ByteArray.mk #[32]) ++ t_23)).length) cap_2562)]⟩, ⟨o_2561, 5, row encU8 (xs_18 ++ bytesI ((ByteArray.mk #[32]) ++ t_23)) sp_2563⟩, ⟨some b_2362, 37, [(.int .i8 x_10.fKind), (.int .i64 x_10.fA), (.int .i64 x_10.fB), (.int .i64 x_10.fC), (.int .i64 x_10.fD)]⟩, ⟨o_2406, 9, row encStr t_11 sp_2408⟩, ⟨o_2434, 2, row encI64 t_13 sp_2436⟩, ⟨o_2440, 3, row encI64 t_14 sp_2442⟩]) [0, 1, 2, 3, 4, 5] (by kernel_rfl) (by kernel_rfl), jkO ?_⟩
              clear hm hm'
              refine jo_end (by kernel_rfl) ?_
              refine jx_inn ?_
              refine jx_then ?_
              refine jc_region ?_
              refine jo_f [(0, 0), (0, 0)] (by kernel_rfl) ?_
              refine jo_end (by kernel_rfl) ?_
              exact jx_back ((xs_18 ++ bytesI ((ByteArray.mk #[32]) ++ t_23)), (w64 (i_19 + 1))) ⟨o_2561, cap_2562, sp_2563, (xs_18 ++ bytesI ((ByteArray.mk #[32]) ++ t_23)).length⟩ (Option.some.inj h).symm ⟨rfl, hs_2564, ho_2565, hc_2566⟩ [0, 1, 2, 3, 4, 5] (by kernel_rfl) (by kernel_rfl) (by kernel_rfl)
            · replace h := ifF hc_2556 h
              refine jc_exit ?_
              refine jx_thenx ?_
              refine jx_leave xs_18 (Option.some.inj h).symm (fun e_2567 => ?_)
              subst e_2567
              refine jx_ine ?_
              exact jx_meet ⟨xs_18, o_2546, cap_2547, sp_2548, xs_18.length⟩ ⟨hr_2553, rfl, hs_2550, ho_2551, hc_2552⟩ (by kernel_rfl) [0, 1, 2, 3, 4, 5] (by kernel_rfl) (by kernel_rfl)
          · rintro ⟨xs_16, o_2501, cap_2502, sp_2503, n_2504⟩ ⟨h, rfl, hs_2505, ho_2506, hc_2507⟩
            replace h : impl_ActsText.k_17 i_7 xs_16 = some y_2358 := h
            rw [impl_ActsText.k_17] at h
            refine jx_then ?_
            refine jc_region ?_
            obtain ⟨hg_2508, h⟩ := gd h
            refine toO (by kernel_rfl) (p_call 0 19 #[(.pointer (some ⟨b_9, 0, none⟩)), (.string (ByteArray.mk #[10]))] (by kernel_rfl) (by kernel_rfl) (fun w hm => bld19.calls g_lo.lo 0 1 b_9 true o_2501 xs_16.length cap_2502 xs_16 sp_2503 (by kernel_rfl) (by kernel_rfl) rfl hs_2505 ho_2506 hc_2507 (by kernel_rfl) (by decide) (ByteArray.mk #[10]) hg_2508 w hm) ?_)
            rintro w v w' hm ⟨o_2509, cap_2510, sp_2511, hs_2512, ho_2513, hc_2514, rfl, hm'⟩
            refine ⟨_, Mem.pick hm' (N := [⟨some b_9, 46, [(bp true b_9), (.slice (o_2509.map fun b => ⟨b, 0, none⟩) ((xs_16 ++ bytesI (ByteArray.mk #[10])).length) cap_2510)]⟩, ⟨o_2509, 5, row encU8 (xs_16 ++ bytesI (ByteArray.mk #[10])) sp_2511⟩, ⟨some b_2362, 37, [(.int .i8 x_10.fKind), (.int .i64 x_10.fA), (.int .i64 x_10.fB), (.int .i64 x_10.fC), (.int .i64 x_10.fD)]⟩, ⟨o_2406, 9, row encStr t_11 sp_2408⟩, ⟨o_2434, 2, row encI64 t_13 sp_2436⟩, ⟨o_2440, 3, row encI64 t_14 sp_2442⟩]) [0, 1, 2, 3, 4, 5] (by kernel_rfl) (by kernel_rfl), jkO ?_⟩
            clear hm hm'
            refine jo_end (by kernel_rfl) ?_
            refine jx_inn ?_
            refine jx_then ?_
            refine jc_region ?_
            refine jo_f [(0, 0), (0, 0)] (by kernel_rfl) ?_
            refine jo_end (by kernel_rfl) ?_
            exact jx_back ((xs_16 ++ bytesI (ByteArray.mk #[10])), (w64 (i_7 + 1))) ⟨true, o_2509, cap_2510, sp_2511, (xs_16 ++ bytesI (ByteArray.mk #[10])).length⟩ (Option.some.inj h).symm ⟨rfl, hs_2512, ho_2513, hc_2514⟩ [0, 1] (by kernel_rfl) (by kernel_rfl) (by kernel_rfl)
        · replace h := ifF hc_2360 h
          refine jc_exit ?_
          refine jx_thenx ?_
          refine jx_leave xs_6 (Option.some.inj h).symm (fun e_2569 => ?_)
          subst e_2569
          refine jx_ine ?_
          exact jx_meet ⟨xs_6, bq_2349, o_2350, cap_2351, sp_2352, xs_6.length⟩ ⟨hr_2357, rfl, hs_2354, ho_2355, hc_2356⟩ (by kernel_rfl) [0, 1] (by kernel_rfl) (by kernel_rfl)
      · rintro ⟨xs_3, bq_1926, o_1927, cap_1928, sp_1929, n_1930⟩ ⟨h, rfl, hs_1931, ho_1932, hc_1933⟩
        replace h : impl_ActsText.k_4 xs_3 = some r := h
        rw [impl_ActsText.k_4] at h
        refine jx_then ?_
        refine jc_seq ?_
        refine jc_region ?_
        obtain ⟨t_5, ht_1934, h⟩ := bd h
        refine toO (by kernel_rfl) (p_call 0 24 #[(.pointer (some ⟨b_9, 0, none⟩))] (by kernel_rfl) (by kernel_rfl) (fun w hm => bld24.calls g_lo.lo 0 1 b_9 bq_1926 o_1927 xs_3.length cap_1928 xs_3 sp_1929 (by kernel_rfl) (by kernel_rfl) rfl hs_1931 ho_1932 hc_1933 (by kernel_rfl) (by decide) _ ht_1934 w hm) ?_)
        rintro w v w' hm ⟨rfl, hm'⟩
        refine ⟨_, Mem.pick hm' (N := [⟨none, 0, []⟩, ⟨none, 0, []⟩]) [0, 1] (by kernel_rfl) (by kernel_rfl), jkO ?_⟩
        clear hm hm'
        refine jo_f [(0, 0)] (by kernel_rfl) ?_
        refine jo_end (by kernel_rfl) ?_
        refine jx_then ?_
        refine jc_ret ?_
        obtain rfl := Option.some.inj h
        exact jx_ret [] (.string t_5) [] rfl (by kernel_rfl) (by kernel_rfl) (fun w hm => ⟨rfl, hm.pick [] (by kernel_rfl) (by kernel_rfl)⟩)

/-! ### laws.eqAct -/
noncomputable def laws_eqAct (a0 : GAct) (b1 : GAct) : Option (Bool) := (if (a0.fKind != b1.fKind) = true then some false else (if (a0.fA != b1.fA) = true then some false else (if (a0.fB != b1.fB) = true then some false else (if (a0.fC != b1.fC) = true then some false else (if (a0.fD != b1.fD) = true then some false else some true)))))
set_option maxRecDepth 100000 in
theorem laws_eqAct.calls (a0 : GAct) (b1 : GAct) (w : World) (r : Bool) (h : laws_eqAct a0 b1 = some r) :
    Calls Tryd.prog 25 #[(.agg #[(.int .i8 a0.fKind), (.int .i64 a0.fA), (.int .i64 a0.fB), (.int .i64 a0.fC), (.int .i64 a0.fD)]), (.agg #[(.int .i8 b1.fKind), (.int .i64 b1.fA), (.int .i64 b1.fB), (.int .i64 b1.fC), (.int .i64 b1.fD)])] w fun e w' => ∃ v, e = .returned v ∧ (v = (.bool r) ∧ Mem w [] [] w') := by
  rw [laws_eqAct] at h
  refine enter (args := [(.agg #[(.int .i8 a0.fKind), (.int .i64 a0.fA), (.int .i64 a0.fB), (.int .i64 a0.fC), (.int .i64 a0.fD)]), (.agg #[(.int .i8 b1.fKind), (.int .i64 b1.fA), (.int .i64 b1.fB), (.int .i64 b1.fC), (.int .i64 b1.fD)])]) Tryd.func25 rfl Tryd.ntmps25 (by kernel_rfl) (L := []) (W := []) (Mem.start w) ?_
  refine jc_seq ?_
  refine jc_region ?_
  refine toO (by kernel_rfl) (p_a 0 [0] (by kernel_rfl) (fun b => by kernel_rfl) (fun b_1 => jkO ?_))
  refine toO (by kernel_rfl) (p_a 0 [0] (by kernel_rfl) (fun b => by kernel_rfl) (fun b_2 => jkO ?_))
  refine jo_f [(0, 0)] (by kernel_rfl) ?_
  refine jo_end (by kernel_rfl) ?_
  refine jx_then ?_
  refine jc_seq ?_
  refine jc_seq ?_
  refine jc_region ?_
  refine jo_f [(0, 0), (0, 0), (0, 0), (1, 0), (0, 0)] (by kernel_rfl) ?_
  refine jo_end (by kernel_rfl) ?_
  refine jx_then ?_
  refine jc_cond (a0.fKind != b1.fKind) (by kernel_rfl) (fun hc_4 => ?_) (fun hc_4 => ?_)
  · replace h := ifT hc_4 h
    refine jc_seq ?_
    refine jc_region ?_
    refine jo_f [(0, 0)] (by kernel_rfl) ?_
    refine jo_end (by kernel_rfl) ?_
    refine jx_then ?_
    refine jc_ret ?_
    refine jx_thenr ?_
    obtain rfl := Option.some.inj h
    exact jx_ret [] (.bool false) [] rfl (by kernel_rfl) (by kernel_rfl) (fun w hm => ⟨rfl, hm.pick [] (by kernel_rfl) (by kernel_rfl)⟩)
  · replace h := ifF hc_4 h
    refine jc_skip ?_
    refine jx_then ?_
    refine jc_seq ?_
    refine jc_seq ?_
    refine jc_region ?_
    refine jo_f [(0, 0), (0, 0), (0, 0), (1, 0), (0, 0)] (by kernel_rfl) ?_
    refine jo_end (by kernel_rfl) ?_
    refine jx_then ?_
    refine jc_cond (a0.fA != b1.fA) (by kernel_rfl) (fun hc_6 => ?_) (fun hc_6 => ?_)
    · replace h := ifT hc_6 h
      refine jc_seq ?_
      refine jc_region ?_
      refine jo_f [(0, 0)] (by kernel_rfl) ?_
      refine jo_end (by kernel_rfl) ?_
      refine jx_then ?_
      refine jc_ret ?_
      refine jx_thenr ?_
      obtain rfl := Option.some.inj h
      exact jx_ret [] (.bool false) [] rfl (by kernel_rfl) (by kernel_rfl) (fun w hm => ⟨rfl, hm.pick [] (by kernel_rfl) (by kernel_rfl)⟩)
    · replace h := ifF hc_6 h
      refine jc_skip ?_
      refine jx_then ?_
      refine jc_seq ?_
      refine jc_seq ?_
      refine jc_region ?_
      refine jo_f [(0, 0), (0, 0), (0, 0), (1, 0), (0, 0)] (by kernel_rfl) ?_
      refine jo_end (by kernel_rfl) ?_
      refine jx_then ?_
      refine jc_cond (a0.fB != b1.fB) (by kernel_rfl) (fun hc_8 => ?_) (fun hc_8 => ?_)
      · replace h := ifT hc_8 h
        refine jc_seq ?_
        refine jc_region ?_
        refine jo_f [(0, 0)] (by kernel_rfl) ?_
        refine jo_end (by kernel_rfl) ?_
        refine jx_then ?_
        refine jc_ret ?_
        refine jx_thenr ?_
        obtain rfl := Option.some.inj h
        exact jx_ret [] (.bool false) [] rfl (by kernel_rfl) (by kernel_rfl) (fun w hm => ⟨rfl, hm.pick [] (by kernel_rfl) (by kernel_rfl)⟩)
      · replace h := ifF hc_8 h
        refine jc_skip ?_
        refine jx_then ?_
        refine jc_seq ?_
        refine jc_seq ?_
        refine jc_region ?_
        refine jo_f [(0, 0), (0, 0), (0, 0), (1, 0), (0, 0)] (by kernel_rfl) ?_
        refine jo_end (by kernel_rfl) ?_
        refine jx_then ?_
        refine jc_cond (a0.fC != b1.fC) (by kernel_rfl) (fun hc_10 => ?_) (fun hc_10 => ?_)
        · replace h := ifT hc_10 h
          refine jc_seq ?_
          refine jc_region ?_
          refine jo_f [(0, 0)] (by kernel_rfl) ?_
          refine jo_end (by kernel_rfl) ?_
          refine jx_then ?_
          refine jc_ret ?_
          refine jx_thenr ?_
          obtain rfl := Option.some.inj h
          exact jx_ret [] (.bool false) [] rfl (by kernel_rfl) (by kernel_rfl) (fun w hm => ⟨rfl, hm.pick [] (by kernel_rfl) (by kernel_rfl)⟩)
        · replace h := ifF hc_10 h
          refine jc_skip ?_
          refine jx_then ?_
          refine jc_seq ?_
          refine jc_seq ?_
          refine jc_region ?_
          refine jo_f [(0, 0), (0, 0), (0, 0), (1, 0), (0, 0)] (by kernel_rfl) ?_
          refine jo_end (by kernel_rfl) ?_
          refine jx_then ?_
          refine jc_cond (a0.fD != b1.fD) (by kernel_rfl) (fun hc_11 => ?_) (fun hc_11 => ?_)
          · replace h := ifT hc_11 h
            refine jc_seq ?_
            refine jc_region ?_
            refine jo_f [(0, 0)] (by kernel_rfl) ?_
            refine jo_end (by kernel_rfl) ?_
            refine jx_then ?_
            refine jc_ret ?_
            refine jx_thenr ?_
            obtain rfl := Option.some.inj h
            exact jx_ret [] (.bool false) [] rfl (by kernel_rfl) (by kernel_rfl) (fun w hm => ⟨rfl, hm.pick [] (by kernel_rfl) (by kernel_rfl)⟩)
          · replace h := ifF hc_11 h
            refine jc_skip ?_
            refine jx_then ?_
            refine jc_seq ?_
            refine jc_region ?_
            refine jo_f [(0, 0)] (by kernel_rfl) ?_
            refine jo_end (by kernel_rfl) ?_
            refine jx_then ?_
            refine jc_ret ?_
            obtain rfl := Option.some.inj h
            exact jx_ret [] (.bool true) [] rfl (by kernel_rfl) (by kernel_rfl) (fun w hm => ⟨rfl, hm.pick [] (by kernel_rfl) (by kernel_rfl)⟩)

/-! ### laws.eqActS -/
noncomputable def laws_eqActS.k_1 : Option (Bool) := some true
noncomputable def laws_eqActS.l_3 (a0 : List GAct) (b1 : List GAct) : Int → Option ((Int) ⊕ (Bool ⊕ Unit))
  | i_2 => (if (decide (i_2 < (a0.length : Int))) = true then (ix a0 i_2).bind fun x_5 => (ix b1 i_2).bind fun x_6 => (laws_eqAct x_5 x_6).bind fun t_7 => (if (!t_7) = true then some (.inr (.inl false)) else some (.inl (w64 (i_2 + 1)))) else some (.inr (.inr ())))
noncomputable def laws_eqActS (a0 : List GAct) (b1 : List GAct) : Option (Bool) := (if ((a0.length : Int) != (b1.length : Int)) = true then some false else (loop (laws_eqActS.l_3 a0 b1) 0).bind fun t_4 => match t_4 with | .inl p => some p | .inr p => laws_eqActS.k_1)
set_option maxRecDepth 100000 in
theorem laws_eqActS.calls (a0 : List GAct) (b1 : List GAct) (w : World) (r : Bool) (a0_a : Option Addr) (a0_an : Nat) (a0_c : Nat) (a0_h : Rw w a0_a 5 encGAct a0) (a0_hn : a0.length = a0_an) (b1_a : Option Addr) (b1_an : Nat) (b1_c : Nat) (b1_h : Rw w b1_a 5 encGAct b1) (b1_hn : b1.length = b1_an) (h : laws_eqActS a0 b1 = some r) :
    Calls Tryd.prog 9 #[(.slice a0_a a0_an a0_c), (.slice b1_a b1_an b1_c)] w fun e w' => ∃ v, e = .returned v ∧ (v = (.bool r) ∧ Mem w [] [] w') := by
  subst a0_hn b1_hn
  rw [laws_eqActS] at h
  refine enter (args := [(.slice a0_a a0.length a0_c), (.slice b1_a b1.length b1_c)]) Tryd.func9 rfl Tryd.ntmps9 (by kernel_rfl) (L := []) (W := []) (Mem.start w) ?_
  refine jc_seq ?_
  refine jc_region ?_
  refine jo_f [(0, 0)] (by kernel_rfl) ?_
  refine jo_end (by kernel_rfl) ?_
  refine jx_then ?_
  refine jc_seq ?_
  refine jc_seq ?_
  refine jc_region ?_
  refine jo_f [(0, 0), (0, 0), (0, 0), (0, 0), (0, 0)] (by kernel_rfl) ?_
  refine jo_end (by kernel_rfl) ?_
  refine jx_then ?_
  refine jc_cond ((a0.length : Int) != (b1.length : Int)) (by kernel_rfl) (fun hc_2 => ?_) (fun hc_2 => ?_)
  · replace h := ifT hc_2 h
    refine jc_seq ?_
    refine jc_region ?_
    refine jo_f [(0, 0)] (by kernel_rfl) ?_
    refine jo_end (by kernel_rfl) ?_
    refine jx_then ?_
    refine jc_ret ?_
    refine jx_thenr ?_
    obtain rfl := Option.some.inj h
    exact jx_ret [] (.bool false) [] rfl (by kernel_rfl) (by kernel_rfl) (fun w hm => ⟨rfl, hm.pick [] (by kernel_rfl) (by kernel_rfl)⟩)
  · replace h := ifF hc_2 h
    refine jc_skip ?_
    refine jx_then ?_
    refine jc_seq ?_
    refine jc_seq ?_
    refine jc_region ?_
    refine jo_f [(0, 0)] (by kernel_rfl) ?_
    refine jo_end (by kernel_rfl) ?_
    refine jx_then ?_
    refine jc_meet (fun (_ : Unit) => laws_eqActS.k_1 = some r) (fun (_ : Unit) => [(4, [], (.bool false))]) (fun (_ : Unit) => []) ?_ ?_
    · refine jc_block ?_
      obtain ⟨t_4, ht_48, hr_38⟩ := bd h
      refine jc_loop (fun (s : Int) (x : Unit) => match s, x with | i_2, _ => True) (fun (s : Int) (x : Unit) => match s, x with | i_2, _ => [(0, [], (.slice a0_a a0.length a0_c)), (1, [], (.slice b1_a b1.length b1_c)), (4, [], (.bool false)), (5, [], (.int .i64 i_2))]) (fun (s : Int) (x : Unit) => match s, x with | i_2, _ => []) ht_48 () trivial (by kernel_rfl) [] (by kernel_rfl) (by kernel_rfl) ?_
      rintro i_2 _ y_39 _ h
      rw [laws_eqActS.l_3] at h
      refine jc_seq ?_
      refine jc_seq ?_
      refine jc_region ?_
      refine jo_f [(0, 0), (0, 0), (0, 0), (0, 0)] (by kernel_rfl) ?_
      refine jo_end (by kernel_rfl) ?_
      refine jx_then ?_
      refine jc_cond (decide (i_2 < (a0.length : Int))) (by kernel_rfl) (fun hc_41 => ?_) (fun hc_41 => ?_)
      · replace h := ifT hc_41 h
        refine jc_skip ?_
        refine jx_then ?_
        refine jc_seq ?_
        refine jc_block ?_
        refine jc_seq ?_
        refine jc_draw [] 10 (by kernel_rfl) (by kernel_rfl) ?_
        refine jd_f [⟨0, 0, 0⟩, ⟨1, 0, 0⟩, ⟨4, 0, 0⟩, ⟨5, 0, 0⟩] 6 (by kernel_rfl) (by kernel_rfl) (fun w h => h.pick [] (by kernel_rfl) (by kernel_rfl)) (by kernel_rfl) (by kernel_rfl) ?_
        obtain ⟨x_5, hx_42, h⟩ := bd h
        refine jd_v 2 0 (by kernel_rfl) (fun w h => h.pick [] (by kernel_rfl) (by kernel_rfl)) (by kernel_rfl) (by kernel_rfl) _ (fun w hm => idx_run (a := a0_a) (len := a0.length) (s := 5) (j := i_2) (by kernel_rfl) (ix_some hx_42).1 (ltn hx_42 rfl) (a0_h.sp hx_42)) ?_
        refine jd_v 3 0 (by kernel_rfl) (fun w h => h.pick [] (by kernel_rfl) (by kernel_rfl)) (by kernel_rfl) (by kernel_rfl) _ (fun w hm => ld_run (b := aB a0_a) (off := (aO a0_a + i_2.toNat * 5)) (s := 5) (agg := true) (vs := (encGAct x_5)) (by kernel_rfl) (by kernel_rfl) (.inl rfl) ((hm.exRow a0_h List.not_mem_nil).at hx_42)) ?_
        obtain ⟨x_6, hx_43, h⟩ := bd h
        refine jd_v 6 0 (by kernel_rfl) (fun w h => h.pick [] (by kernel_rfl) (by kernel_rfl)) (by kernel_rfl) (by kernel_rfl) _ (fun w hm => idx_run (a := b1_a) (len := b1.length) (s := 5) (j := i_2) (by kernel_rfl) (ix_some hx_43).1 (ltn hx_43 rfl) (b1_h.sp hx_43)) ?_
        refine jd_v 7 0 (by kernel_rfl) (fun w h => h.pick [] (by kernel_rfl) (by kernel_rfl)) (by kernel_rfl) (by kernel_rfl) _ (fun w hm => ld_run (b := aB b1_a) (off := (aO b1_a + i_2.toNat * 5)) (s := 5) (agg := true) (vs := (encGAct x_6)) (by kernel_rfl) (by kernel_rfl) (.inl rfl) ((hm.exRow b1_h List.not_mem_nil).at hx_43)) ?_
        obtain ⟨t_7, ht_44, h⟩ := bd h
        refine toD 8 (by kernel_rfl) (p_call 0 25 #[(.agg #[(.int .i8 x_5.fKind), (.int .i64 x_5.fA), (.int .i64 x_5.fB), (.int .i64 x_5.fC), (.int .i64 x_5.fD)]), (.agg #[(.int .i8 x_6.fKind), (.int .i64 x_6.fA), (.int .i64 x_6.fB), (.int .i64 x_6.fC), (.int .i64 x_6.fD)])] (by kernel_rfl) (by kernel_rfl) (fun w hm => laws_eqAct.calls x_5 x_6 w _ ht_44) ?_)
        rintro w v w' hm ⟨rfl, hm'⟩
        refine ⟨_, hm.app hm', jkD (fun w h => h.pick [] (by kernel_rfl) (by kernel_rfl)) ?_⟩
        clear hm hm'
        refine jd_f [⟨9, 0, 0⟩] 0 (by kernel_rfl) (by kernel_rfl) (fun w h => h.pick [] (by kernel_rfl) (by kernel_rfl)) (by kernel_rfl) (by kernel_rfl) ?_
        refine jd_end (by kernel_rfl) ?_
        refine jx_then ?_
        refine jc_cond (!t_7) (by kernel_rfl) (fun hc_45 => ?_) (fun hc_45 => ?_)
        · replace h := ifT hc_45 h
          refine jc_seq ?_
          refine jc_region ?_
          refine jo_f [(0, 0)] (by kernel_rfl) ?_
          refine jo_end (by kernel_rfl) ?_
          refine jx_then ?_
          refine jc_ret ?_
          refine jx_inr ?_
          refine jx_thenr ?_
          refine jx_leaver (.inl false) (Option.some.inj h).symm (fun e_46 => ?_)
          subst e_46
          refine jx_inr ?_
          refine jx_thenr ?_
          refine jx_thenr ?_
          obtain rfl := Option.some.inj hr_38
          exact jx_ret [] (.bool false) [] rfl (by kernel_rfl) (by kernel_rfl) (fun w hm => ⟨rfl, hm.pick [] (by kernel_rfl) (by kernel_rfl)⟩)
        · replace h := ifF hc_45 h
          refine jc_skip ?_
          refine jx_inn ?_
          refine jx_then ?_
          refine jc_region ?_
          refine jo_f [(0, 0), (0, 0), (0, 0)] (by kernel_rfl) ?_
          refine jo_end (by kernel_rfl) ?_
          exact jx_back (w64 (i_2 + 1)) () (Option.some.inj h).symm trivial [] (by kernel_rfl) (by kernel_rfl) (by kernel_rfl)
      · replace h := ifF hc_41 h
        refine jc_exit ?_
        refine jx_thenx ?_
        refine jx_leave (.inr ()) (Option.some.inj h).symm (fun e_47 => ?_)
        subst e_47
        refine jx_ine ?_
        exact jx_meet () hr_38 (by kernel_rfl) [] (by kernel_rfl) (by kernel_rfl)
    · rintro _ h
      replace h : laws_eqActS.k_1 = some r := h
      rw [laws_eqActS.k_1] at h
      refine jx_then ?_
      refine jc_seq ?_
      refine jc_region ?_
      refine jo_f [(0, 0)] (by kernel_rfl) ?_
      refine jo_end (by kernel_rfl) ?_
      refine jx_then ?_
      refine jc_ret ?_
      obtain rfl := Option.some.inj h
      exact jx_ret [] (.bool true) [] rfl (by kernel_rfl) (by kernel_rfl) (fun w hm => ⟨rfl, hm.pick [] (by kernel_rfl) (by kernel_rfl)⟩)

/-! ### laws.FnExactActsText -/
noncomputable def laws_FnExactActsText (aList0 : List GAct) : Option (Bool) := (laws_szActS aList0 1048576).bind fun t_1 => (if (decide (t_1 < 0)) = true then some true else (laws_toActS aList0).bind fun t_2 => (spec_ActsText t_2).bind fun t_3 => (laws_toActS aList0).bind fun t_4 => (impl_ActsText t_4).bind fun t_5 => (if (!(t_5.toList == t_3.toList)) = true then some false else (laws_toActS aList0).bind fun t_6 => (laws_eqActS t_4 t_6).bind fun t_7 => (if (!t_7) = true then some false else some true)))
set_option maxRecDepth 100000 in
theorem laws_FnExactActsText.calls (aList0 : List GAct) (w : World) (r : Bool) (g_lo : Gllo w) (g_pw : Glpw w) (aList0_a : Option Addr) (aList0_an : Nat) (aList0_c : Nat) (aList0_h : Rw w aList0_a 5 encGAct aList0) (aList0_hn : aList0.length = aList0_an) (h : laws_FnExactActsText aList0 = some r) :
    Calls Tryd.prog 3 #[(.slice aList0_a aList0_an aList0_c)] w fun e w' => ∃ v, e = .returned v ∧ (v = (.bool r) ∧ Mem w [] [] w') := by
  subst aList0_hn
  rw [laws_FnExactActsText] at h
  refine enter (args := [(.slice aList0_a aList0.length aList0_c)]) Tryd.func3 rfl Tryd.ntmps3 (by kernel_rfl) (L := []) (W := []) (Mem.start w) ?_
  refine jc_seq ?_
  refine jc_region ?_
  refine jo_f [(0, 0)] (by kernel_rfl) ?_
  refine jo_end (by kernel_rfl) ?_
  refine jx_then ?_
  refine jc_seq ?_
  refine jc_region ?_
  refine jo_f [(0, 0)] (by kernel_rfl) ?_
  refine jo_end (by kernel_rfl) ?_
  refine jx_then ?_
  refine jc_seq ?_
  refine jc_region ?_
  refine jo_f [(0, 0), (0, 0)] (by kernel_rfl) ?_
  obtain ⟨t_1, ht_1, h⟩ := bd h
  refine toO (by kernel_rfl) (p_call 0 5 #[(.slice aList0_a aList0.length aList0_c), (.int .i64 1048576)] (by kernel_rfl) (by kernel_rfl) (fun w hm => laws_szActS.calls aList0 1048576 w _ aList0_a aList0.length aList0_c (hm.exRow aList0_h List.not_mem_nil) rfl ht_1) ?_)
  rintro w v w' hm ⟨rfl, hm'⟩
  refine ⟨_, hm.app hm', jkO ?_⟩
  clear hm hm'
  refine jo_f [(0, 0)] (by kernel_rfl) ?_
  refine jo_end (by kernel_rfl) ?_
  refine jx_then ?_
  refine jc_seq ?_
  refine jc_seq ?_
  refine jc_region ?_
  refine jo_f [(0, 0), (0, 0)] (by kernel_rfl) ?_
  refine jo_end (by kernel_rfl) ?_
  refine jx_then ?_
  refine jc_cond (decide (t_1 < 0)) (by kernel_rfl) (fun hc_3 => ?_) (fun hc_3 => ?_)
  · replace h := ifT hc_3 h
    refine jc_seq ?_
    refine jc_region ?_
    refine jo_f [(0, 0)] (by kernel_rfl) ?_
    refine jo_end (by kernel_rfl) ?_
    refine jx_then ?_
    refine jc_ret ?_
    refine jx_thenr ?_
    obtain rfl := Option.some.inj h
    exact jx_ret [] (.bool true) [] rfl (by kernel_rfl) (by kernel_rfl) (fun w hm => ⟨rfl, hm.pick [] (by kernel_rfl) (by kernel_rfl)⟩)
  · replace h := ifF hc_3 h
    refine jc_skip ?_
    refine jx_then ?_
    refine jc_seq ?_
    refine jc_region ?_
    refine jo_f [(0, 0)] (by kernel_rfl) ?_
    obtain ⟨t_2, ht_4, h⟩ := bd h
    refine toO (by kernel_rfl) (p_call 0 7 #[(.slice aList0_a aList0.length aList0_c)] (by kernel_rfl) (by kernel_rfl) (fun w hm => laws_toActS.calls aList0 w _ aList0_a aList0.length aList0_c (hm.exRow aList0_h List.not_mem_nil) rfl ht_4) ?_)
    rintro w v w' hm ⟨o_5, cap_6, sp_7, _, rfl, hs_8, ho_9, rfl, hm'⟩
    refine ⟨_, hm.app hm', jkO ?_⟩
    clear hm hm'
    obtain ⟨t_3, ht_10, h⟩ := bd h
    refine toO (by kernel_rfl) (p_call 0 6 #[(.slice (o_5.map fun b => ⟨b, 0, none⟩) t_2.length cap_6)] (by kernel_rfl) (by kernel_rfl) (fun w hm => spec_ActsText.calls t_2 w _ (o_5.map fun b => ⟨b, 0, none⟩) t_2.length cap_6 (hm.ownRow (hh := 0) (o := o_5) (T := 37) (enc := encGAct) (xs := t_2) (sp := sp_7) (by kernel_rfl) (fun e => (ho_9 e).1) encGAct_len) rfl ht_10) ?_)
    rintro w v w' hm ⟨rfl, hm'⟩
    refine ⟨_, hm.app hm', jkO ?_⟩
    clear hm hm'
    refine jo_f [(0, 0)] (by kernel_rfl) ?_
    refine jo_end (by kernel_rfl) ?_
    refine jx_then ?_
    refine jc_seq ?_
    refine jc_region ?_
    refine jo_f [(0, 0)] (by kernel_rfl) ?_
    obtain ⟨t_4, ht_11, h⟩ := bd h
    refine toO (by kernel_rfl) (p_call 0 7 #[(.slice aList0_a aList0.length aList0_c)] (by kernel_rfl) (by kernel_rfl) (fun w hm => laws_toActS.calls aList0 w _ aList0_a aList0.length aList0_c (hm.exRow aList0_h List.not_mem_nil) rfl ht_11) ?_)
    rintro w v w' hm ⟨o_12, cap_13, sp_14, _, rfl, hs_15, ho_16, rfl, hm'⟩
    refine ⟨_, hm.app hm', jkO ?_⟩
    clear hm hm'
    refine jo_f [(0, 0)] (by kernel_rfl) ?_
    refine jo_end (by kernel_rfl) ?_
    refine jx_then ?_
    refine jc_seq ?_
    refine jc_region ?_
    refine jo_f [(0, 0)] (by kernel_rfl) ?_
    obtain ⟨t_5, ht_17, h⟩ := bd h
    refine toO (by kernel_rfl) (p_call 0 8 #[(.slice (o_12.map fun b => ⟨b, 0, none⟩) t_4.length cap_13)] (by kernel_rfl) (by kernel_rfl) (fun w hm => impl_ActsText.calls t_4 w _ (g_lo.keep hm) (g_pw.keep hm) (o_12.map fun b => ⟨b, 0, none⟩) t_4.length cap_13 (hm.ownRow (hh := 1) (o := o_12) (T := 37) (enc := encGAct) (xs := t_4) (sp := sp_14) (by kernel_rfl) (fun e => (ho_16 e).1) encGAct_len) rfl ht_17) ?_)
    rintro w v w' hm ⟨rfl, hm'⟩
    refine ⟨_, hm.app hm', jkO ?_⟩
    clear hm hm'
    refine jo_f [(0, 0)] (by kernel_rfl) ?_
    refine jo_end (by kernel_rfl) ?_
    refine jx_then ?_
    refine jc_seq ?_
    refine jc_seq ?_
    refine jc_region ?_
    refine jo_f [(0, 0), (0, 0), (0, 0)] (by kernel_rfl) ?_
    refine jo_end (by kernel_rfl) ?_
    refine jx_then ?_
    refine jc_cond (!(t_5.toList == t_3.toList)) (by kernel_rfl) (fun hc_19 => ?_) (fun hc_19 => ?_)
    · replace h := ifT hc_19 h
      refine jc_seq ?_
      refine jc_region ?_
      refine jo_f [(0, 0)] (by kernel_rfl) ?_
      refine jo_end (by kernel_rfl) ?_
      refine jx_then ?_
      refine jc_ret ?_
      refine jx_thenr ?_
      obtain rfl := Option.some.inj h
      exact jx_ret [] (.bool false) [] rfl (by kernel_rfl) (by kernel_rfl) (fun w hm => ⟨rfl, hm.pick [] (by kernel_rfl) (by kernel_rfl)⟩)
    · replace h := ifF hc_19 h
      refine jc_skip ?_
      refine jx_then ?_
      refine jc_seq ?_
      refine jc_seq ?_
      refine jc_region ?_
      refine jo_f [(0, 0), (0, 0)] (by kernel_rfl) ?_
      obtain ⟨t_6, ht_20, h⟩ := bd h
      refine toO (by kernel_rfl) (p_call 0 7 #[(.slice aList0_a aList0.length aList0_c)] (by kernel_rfl) (by kernel_rfl) (fun w hm => laws_toActS.calls aList0 w _ aList0_a aList0.length aList0_c (hm.exRow aList0_h List.not_mem_nil) rfl ht_20) ?_)
      rintro w v w' hm ⟨o_21, cap_22, sp_23, _, rfl, hs_24, ho_25, rfl, hm'⟩
      refine ⟨_, hm.app hm', jkO ?_⟩
      clear hm hm'
      obtain ⟨t_7, ht_26, h⟩ := bd h
      refine toO (by kernel_rfl) (p_call 0 9 #[(.slice (o_12.map fun b => ⟨b, 0, none⟩) t_4.length cap_13), (.slice (o_21.map fun b => ⟨b, 0, none⟩) t_6.length cap_22)] (by kernel_rfl) (by kernel_rfl) (fun w hm => laws_eqActS.calls t_4 t_6 w _ (o_12.map fun b => ⟨b, 0, none⟩) t_4.length cap_13 (hm.ownRow (hh := 1) (o := o_12) (T := 37) (enc := encGAct) (xs := t_4) (sp := sp_14) (by kernel_rfl) (fun e => (ho_16 e).1) encGAct_len) rfl (o_21.map fun b => ⟨b, 0, none⟩) t_6.length cap_22 (hm.ownRow (hh := 2) (o := o_21) (T := 37) (enc := encGAct) (xs := t_6) (sp := sp_23) (by kernel_rfl) (fun e => (ho_25 e).1) encGAct_len) rfl ht_26) ?_)
      rintro w v w' hm ⟨rfl, hm'⟩
      refine ⟨_, hm.app hm', jkO ?_⟩
      clear hm hm'
      refine jo_f [(0, 0)] (by kernel_rfl) ?_
      refine jo_end (by kernel_rfl) ?_
      refine jx_then ?_
      refine jc_cond (!t_7) (by kernel_rfl) (fun hc_27 => ?_) (fun hc_27 => ?_)
      · replace h := ifT hc_27 h
        refine jc_seq ?_
        refine jc_region ?_
        refine jo_f [(0, 0)] (by kernel_rfl) ?_
        refine jo_end (by kernel_rfl) ?_
        refine jx_then ?_
        refine jc_ret ?_
        refine jx_thenr ?_
        obtain rfl := Option.some.inj h
        exact jx_ret [] (.bool false) [] rfl (by kernel_rfl) (by kernel_rfl) (fun w hm => ⟨rfl, hm.pick [] (by kernel_rfl) (by kernel_rfl)⟩)
      · replace h := ifF hc_27 h
        refine jc_skip ?_
        refine jx_then ?_
        refine jc_seq ?_
        refine jc_region ?_
        refine jo_f [(0, 0)] (by kernel_rfl) ?_
        refine jo_end (by kernel_rfl) ?_
        refine jx_then ?_
        refine jc_ret ?_
        obtain rfl := Option.some.inj h
        exact jx_ret [] (.bool true) [] rfl (by kernel_rfl) (by kernel_rfl) (fun w hm => ⟨rfl, hm.pick [] (by kernel_rfl) (by kernel_rfl)⟩)
end Go.Proofs.YtplklknkkaeniaaDoor
