/- Functions of the program that the laws reach: a plain function each, and that the call comes to its answer if the plain function has one. Printed by a program. -/
import Derived.Test.YtplklknkkaeniaaDoorT
import Derived.Test.YtplklknkkaeniaaDoorM0
namespace Go.Proofs.YtplklknkkaeniaaDoor
open Eng
set_option linter.unusedVariables false

set_option linter.unusedSectionVars false
variable [dsW : DrwS]

/-! ### laws.szActS -/
noncomputable def laws_szActS (a0 : List GAct) (left1 : Int) : Option (Int) := (if (decide ((w64 (left1 - (a0.length : Int))) < 0)) = true then some (-1) else some (w64 (left1 - (a0.length : Int))))
set_option maxRecDepth 100000 in
theorem laws_szActS.calls (a0 : List GAct) (left1 : Int) (w : World) (r : Int) (a0_a : Option Addr) (a0_an : Nat) (a0_c : Nat) (a0_h : Rw w a0_a 5 encGAct a0) (a0_hn : a0.length = a0_an) (h : laws_szActS a0 left1 = some r) :
    Calls Tryd.prog 5 #[(.slice a0_a a0_an a0_c), (.int .i64 left1)] w fun e w' => ∃ v, e = .returned v ∧ (v = (.int .i64 r) ∧ Mem w [] [] w') := by
  subst a0_hn
  rw [laws_szActS] at h
  refine enter (args := [(.slice a0_a a0.length a0_c), (.int .i64 left1)]) Tryd.func5 rfl Tryd.ntmps5 (by kernel_rfl) (L := []) (W := []) (Mem.start w) ?_
  refine jc_seq ?_
  refine jc_region ?_
  refine jo_f [(0, 0)] (by kernel_rfl) ?_
  refine jo_end (by kernel_rfl) ?_
  refine jx_then ?_
  refine jc_seq ?_
  refine jc_region ?_
  refine jo_f [(0, 0), (0, 0), (0, 0), (0, 0), (0, 0)] (by kernel_rfl) ?_
  refine jo_end (by kernel_rfl) ?_
  refine jx_then ?_
  refine jc_seq ?_
  refine jc_seq ?_
  refine jc_region ?_
  refine jo_f [(0, 0), (0, 0)] (by kernel_rfl) ?_
  refine jo_end (by kernel_rfl) ?_
  refine jx_then ?_
  refine jc_cond (decide ((w64 (left1 - (a0.length : Int))) < 0)) (by kernel_rfl) (fun hc_2 => ?_) (fun hc_2 => ?_)
  · replace h := ifT hc_2 h
    refine jc_seq ?_
    refine jc_region ?_
    refine jo_f [(0, 0)] (by kernel_rfl) ?_
    refine jo_end (by kernel_rfl) ?_
    refine jx_then ?_
    refine jc_ret ?_
    refine jx_thenr ?_
    obtain rfl := Option.some.inj h
    exact jx_ret [] (.int .i64 (-1)) [] rfl (by kernel_rfl) (by kernel_rfl) (fun w hm => ⟨rfl, hm.pick [] (by kernel_rfl) (by kernel_rfl)⟩)
  · replace h := ifF hc_2 h
    refine jc_skip ?_
    refine jx_then ?_
    refine jc_seq ?_
    refine jc_region ?_
    refine jo_f [(0, 0), (0, 0)] (by kernel_rfl) ?_
    refine jo_end (by kernel_rfl) ?_
    refine jx_then ?_
    refine jc_ret ?_
    obtain rfl := Option.some.inj h
    exact jx_ret [] (.int .i64 (w64 (left1 - (a0.length : Int)))) [] rfl (by kernel_rfl) (by kernel_rfl) (fun w hm => ⟨rfl, hm.pick [] (by kernel_rfl) (by kernel_rfl)⟩)

/-! ### laws.toAct -/
noncomputable def laws_toAct (a0 : GAct) : Option (GAct) := some a0
set_option maxRecDepth 100000 in
theorem laws_toAct.calls (a0 : GAct) (w : World) (r : GAct) (h : laws_toAct a0 = some r) :
    Calls Tryd.prog 15 #[(.agg #[(.int .i8 a0.fKind), (.int .i64 a0.fA), (.int .i64 a0.fB), (.int .i64 a0.fC), (.int .i64 a0.fD)])] w fun e w' => ∃ v, e = .returned v ∧ (v = .agg #[(.int .i8 r.fKind), (.int .i64 r.fA), (.int .i64 r.fB), (.int .i64 r.fC), (.int .i64 r.fD)] ∧ Mem w [] [] w') := by
  rw [laws_toAct] at h
  refine enter (args := [(.agg #[(.int .i8 a0.fKind), (.int .i64 a0.fA), (.int .i64 a0.fB), (.int .i64 a0.fC), (.int .i64 a0.fD)])]) Tryd.func15 rfl Tryd.ntmps15 (by kernel_rfl) (L := []) (W := []) (Mem.start w) ?_
  refine jc_seq ?_
  refine jc_region ?_
  refine toO (by kernel_rfl) (p_a 0 [0] (by kernel_rfl) (fun b => by kernel_rfl) (fun b_1 => jkO ?_))
  refine toO (by kernel_rfl) (p_a 0 [0] (by kernel_rfl) (fun b => by kernel_rfl) (fun b_2 => jkO ?_))
  refine jo_end (by kernel_rfl) ?_
  refine jx_then ?_
  refine jc_seq ?_
  refine jc_region ?_
  refine toO (by kernel_rfl) (p_a 0 [0] (by kernel_rfl) (fun b => by kernel_rfl) (fun b_3 => jkO ?_))
  refine jo_end (by kernel_rfl) ?_
  refine jx_then ?_
  refine jc_seq ?_
  refine jc_region ?_
  refine jo_f [(0, 0), (0, 0), (0, 0)] (by kernel_rfl) ?_
  refine toO (by kernel_rfl) (p_s 0 [2] (by kernel_rfl) (by kernel_rfl) (jkO ?_))
  refine jo_end (by kernel_rfl) ?_
  refine jx_then ?_
  refine jc_seq ?_
  refine jc_region ?_
  refine jo_f [(0, 0), (0, 0), (0, 0)] (by kernel_rfl) ?_
  refine toO (by kernel_rfl) (p_s 0 [2] (by kernel_rfl) (by kernel_rfl) (jkO ?_))
  refine jo_end (by kernel_rfl) ?_
  refine jx_then ?_
  refine jc_seq ?_
  refine jc_region ?_
  refine jo_f [(0, 0), (0, 0), (0, 0)] (by kernel_rfl) ?_
  refine toO (by kernel_rfl) (p_s 0 [2] (by kernel_rfl) (by kernel_rfl) (jkO ?_))
  refine jo_end (by kernel_rfl) ?_
  refine jx_then ?_
  refine jc_seq ?_
  refine jc_region ?_
  refine jo_f [(0, 0), (0, 0), (0, 0)] (by kernel_rfl) ?_
  refine toO (by kernel_rfl) (p_s 0 [2] (by kernel_rfl) (by kernel_rfl) (jkO ?_))
  refine jo_end (by kernel_rfl) ?_
  refine jx_then ?_
  refine jc_seq ?_
  refine jc_region ?_
  refine jo_f [(0, 0), (0, 0), (0, 0)] (by kernel_rfl) ?_
  refine toO (by kernel_rfl) (p_s 0 [2] (by kernel_rfl) (by kernel_rfl) (jkO ?_))
  refine jo_end (by kernel_rfl) ?_
  refine jx_then ?_
  refine jc_seq ?_
  refine jc_region ?_
  refine jo_f [(2, 0)] (by kernel_rfl) ?_
  refine toO (by kernel_rfl) (p_s 0 [1] (by kernel_rfl) (by kernel_rfl) (jkO ?_))
  refine jo_end (by kernel_rfl) ?_
  refine jx_then ?_
  refine jc_ret ?_
  obtain rfl := Option.some.inj h
  exact jx_ret [1] (.agg #[(.int .i8 a0.fKind), (.int .i64 a0.fA), (.int .i64 a0.fB), (.int .i64 a0.fC), (.int .i64 a0.fD)]) [(b_2, b_2), (b_2, b_2), (b_2, b_2), (b_2, b_2), (b_2, b_2)] rfl (by kernel_rfl) (by kernel_rfl) (fun w hm => ⟨rfl, hm.pick [] (by kernel_rfl) (by kernel_rfl)⟩)

/-! ### laws.toActS -/
noncomputable def laws_toActS.k_2 (xs_1 : List GAct) : Option ((List GAct)) := some xs_1
noncomputable def laws_toActS.l_5 (a0 : List GAct) : ((List GAct) × Int) → Option (((List GAct) × Int) ⊕ ((List GAct)))
  | (xs_3, i_4) => (if (decide (i_4 < (a0.length : Int))) = true then (ix a0 i_4).bind fun x_7 => (laws_toAct x_7).bind fun t_8 => (ix xs_3 i_4).bind fun x_9 => some (.inl ((xs_3.set i_4.toNat t_8), (w64 (i_4 + 1)))) else some (.inr xs_3))
noncomputable def laws_toActS (a0 : List GAct) : Option ((List GAct)) := (if 0 ≤ (a0.length : Int) ∧ (a0.length : Int) ≤ 3518437208883 then (loop (laws_toActS.l_5 a0) ((List.replicate (a0.length : Int).toNat (⟨0, 0, 0, 0, 0⟩ : GAct)), 0)).bind fun t_6 => laws_toActS.k_2 t_6 else none)
set_option maxRecDepth 100000 in
theorem laws_toActS.calls (a0 : List GAct) (w : World) (r : (List GAct)) (a0_a : Option Addr) (a0_an : Nat) (a0_c : Nat) (a0_h : Rw w a0_a 5 encGAct a0) (a0_hn : a0.length = a0_an) (h : laws_toActS a0 = some r) :
    Calls Tryd.prog 7 #[(.slice a0_a a0_an a0_c)] w fun e w' => ∃ v, e = .returned v ∧ (∃ (o0 : Option Nat) (c0 : Nat) (s0 : List Value) (n0 : Nat), r.length = n0 ∧ (o0 ≠ none → n0 ≤ c0 ∧ s0.length = (c0 - n0) * 5) ∧ (o0 = none → r = [] ∧ c0 = 0) ∧ v = .slice (o0.map fun b => ⟨b, 0, none⟩) n0 c0 ∧ Mem w [] [⟨o0, 37, row encGAct r s0⟩] w') := by
  subst a0_hn
  rw [laws_toActS] at h
  refine enter (args := [(.slice a0_a a0.length a0_c)]) Tryd.func7 rfl Tryd.ntmps7 (by kernel_rfl) (L := []) (W := []) (Mem.start w) ?_
  refine jc_seq ?_
  refine jc_region ?_
  refine jo_f [(0, 0)] (by kernel_rfl) ?_
  refine jo_end (by kernel_rfl) ?_
  refine jx_then ?_
  refine jc_seq ?_
  refine jc_region ?_
  refine jo_f [(0, 0), (0, 0)] (by kernel_rfl) ?_
  obtain ⟨hg_88, h⟩ := gd h
  refine toO (by kernel_rfl) (p_mk 0 37 (a0.length : Int) 5 40 encGAct (⟨0, 0, 0, 0, 0⟩ : GAct) (by kernel_rfl) (by kernel_rfl) hg_88.1 (by omega) (by kernel_rfl) (fun b_1 => jkO ?_))
  refine jo_f [(0, 0)] (by kernel_rfl) ?_
  refine jo_end (by kernel_rfl) ?_
  refine jx_then ?_
  refine jc_seq ?_
  refine jc_seq ?_
  refine jc_region ?_
  refine jo_f [(0, 0)] (by kernel_rfl) ?_
  refine jo_end (by kernel_rfl) ?_
  refine jx_then ?_
  refine jc_meet (fun (j : (List GAct)) => match j with | xs_1 => laws_toActS.k_2 xs_1 = some r ∧ (xs_1.length = (a0.length : Int).toNat)) (fun (j : (List GAct)) => match j with | xs_1 => [(2, [], (.slice none 0 0)), (3, [], (.slice (some ⟨b_1, 0, none⟩) ((a0.length : Int).toNat) ((a0.length : Int).toNat)))]) (fun (j : (List GAct)) => match j with | xs_1 => [⟨(some b_1), 37, row encGAct xs_1 []⟩]) ?_ ?_
  · refine jc_block ?_
    obtain ⟨t_6, ht_87, hr_79⟩ := bd h
    refine jc_loop (fun (s : (List GAct) × Int) (x : Unit) => match s, x with | ⟨xs_3, i_4⟩, _ => (xs_3.length = (a0.length : Int).toNat)) (fun (s : (List GAct) × Int) (x : Unit) => match s, x with | ⟨xs_3, i_4⟩, _ => [(0, [], (.slice a0_a a0.length a0_c)), (2, [], (.slice none 0 0)), (3, [], (.slice (some ⟨b_1, 0, none⟩) ((a0.length : Int).toNat) ((a0.length : Int).toNat))), (4, [], (.int .i64 i_4))]) (fun (s : (List GAct) × Int) (x : Unit) => match s, x with | ⟨xs_3, i_4⟩, _ => [⟨(some b_1), 37, row encGAct xs_3 []⟩]) ht_87 () List.length_replicate (by kernel_rfl) [0] (by kernel_rfl) (by kernel_rfl) ?_
    rintro ⟨xs_3, i_4⟩ _ y_80 hn_78 h
    rw [laws_toActS.l_5] at h
    refine jc_seq ?_
    refine jc_seq ?_
    refine jc_region ?_
    refine jo_f [(0, 0), (0, 0), (0, 0), (0, 0)] (by kernel_rfl) ?_
    refine jo_end (by kernel_rfl) ?_
    refine jx_then ?_
    refine jc_cond (decide (i_4 < (a0.length : Int))) (by kernel_rfl) (fun hc_82 => ?_) (fun hc_82 => ?_)
    · replace h := ifT hc_82 h
      refine jc_skip ?_
      refine jx_then ?_
      refine jc_seq ?_
      refine jc_block ?_
      refine jc_region ?_
      refine jo_f [(0, 0), (0, 0), (0, 0), (0, 0)] (by kernel_rfl) ?_
      obtain ⟨x_7, hx_83, h⟩ := bd h
      refine toO (by kernel_rfl) (p_idx 0 a0_a a0.length i_4 5 (by kernel_rfl) (by kernel_rfl) (ix_some hx_83).1 (ltn hx_83 rfl) (a0_h.sp hx_83) (jkO ?_))
      refine toO (by kernel_rfl) (p_ld 0 (aB a0_a) (aO a0_a + i_4.toNat * 5) true (encGAct x_7) (by kernel_rfl) (by kernel_rfl) (by kernel_rfl) (fun w hm => ((hm.exRow a0_h List.not_mem_nil).at hx_83)) (jkO ?_))
      obtain ⟨t_8, ht_84, h⟩ := bd h
      refine toO (by kernel_rfl) (p_call 0 15 #[(.agg #[(.int .i8 x_7.fKind), (.int .i64 x_7.fA), (.int .i64 x_7.fB), (.int .i64 x_7.fC), (.int .i64 x_7.fD)])] (by kernel_rfl) (by kernel_rfl) (fun w hm => laws_toAct.calls x_7 w _ ht_84) ?_)
      rintro w v w' hm ⟨rfl, hm'⟩
      refine ⟨_, hm.app hm', jkO ?_⟩
      clear hm hm'
      obtain ⟨x_9, hx_85, h⟩ := bd h
      refine toO (by kernel_rfl) (p_idx 0 (some ⟨b_1, 0, none⟩) ((a0.length : Int).toNat) i_4 5 (by kernel_rfl) (by kernel_rfl) (ix_some hx_85).1 (ltn hx_85 hn_78) rfl (jkO ?_))
      refine toO (by kernel_rfl) (p_str 0 0 b_1 37 encGAct xs_3 [] i_4 t_8 5 0 [(.int .i8 t_8.fKind), (.int .i64 t_8.fA), (.int .i64 t_8.fB), (.int .i64 t_8.fC), (.int .i64 t_8.fD)] (by kernel_rfl) (by kernel_rfl) (by kernel_rfl) encGAct_len hx_85 (by kernel_rfl) (by kernel_rfl) (jkO ?_))
      refine jo_end (by kernel_rfl) ?_
      refine jx_inn ?_
      refine jx_then ?_
      refine jc_region ?_
      refine jo_f [(0, 0), (0, 0), (0, 0)] (by kernel_rfl) ?_
      refine jo_end (by kernel_rfl) ?_
      exact jx_back ((xs_3.set i_4.toNat t_8), (w64 (i_4 + 1))) () (Option.some.inj h).symm (List.length_set.trans hn_78) [0] (by kernel_rfl) (by kernel_rfl) (by kernel_rfl)
    · replace h := ifF hc_82 h
      refine jc_exit ?_
      refine jx_thenx ?_
      refine jx_leave xs_3 (Option.some.inj h).symm (fun e_86 => ?_)
      subst e_86
      refine jx_ine ?_
      exact jx_meet xs_3 ⟨hr_79, hn_78⟩ (by kernel_rfl) [0] (by kernel_rfl) (by kernel_rfl)
  · rintro xs_1 ⟨h, hn_66⟩
    replace h : laws_toActS.k_2 xs_1 = some r := h
    rw [laws_toActS.k_2] at h
    refine jx_then ?_
    refine jc_seq ?_
    refine jc_region ?_
    refine jo_f [(0, 0), (0, 0)] (by kernel_rfl) ?_
    refine jo_end (by kernel_rfl) ?_
    refine jx_then ?_
    refine jc_ret ?_
    obtain rfl := Option.some.inj h
    exact jx_ret [] (.slice (some ⟨b_1, 0, none⟩) ((a0.length : Int).toNat) ((a0.length : Int).toNat)) [] rfl (by kernel_rfl) (by kernel_rfl) (fun w hm => ⟨(some b_1), ((a0.length : Int).toNat), [], ((a0.length : Int).toNat), hn_66, (fun _ => ⟨Nat.le_refl _, by simp⟩), (fun e => nomatch e), rfl, hm.pick [0] (by kernel_rfl) (by kernel_rfl)⟩)

/-! ### spec.Decimal -/
noncomputable def spec_Decimal.step (self_ : Int → Option (ByteArray)) (n0 : Int) : Option (ByteArray) := (if (decide (n0 < 10)) = true then some (ByteArray.empty.push (UInt8.ofNat (u8 (w64 (48 + (Int.tmod n0 10)))).toNat)) else (self_ (w64 (Int.tdiv n0 10))).bind fun t_1 => (if t_1.size + (ByteArray.empty.push (UInt8.ofNat (u8 (w64 (48 + (Int.tmod n0 10)))).toNat)).size ≤ 9223372036854775807 then some (t_1 ++ (ByteArray.empty.push (UInt8.ofNat (u8 (w64 (48 + (Int.tmod n0 10)))).toNat))) else none))
noncomputable def spec_Decimal.rec_ : Nat → Int → Option (ByteArray)
  | 0 => fun n0 => none
  | fu + 1 => spec_Decimal.step (spec_Decimal.rec_ fu)
noncomputable def spec_Decimal (n0 : Int) : Option (ByteArray) := spec_Decimal.rec_ 20 n0
set_option maxRecDepth 100000 in
theorem spec_Decimal.step_calls (self_ : Int → Option (ByteArray)) (hself : ∀ (n0 : Int) (w : World) (r : ByteArray) (h : self_ n0 = some r),
    Calls Tryd.prog 35 #[(.int .i64 n0)] w fun e w' => ∃ v, e = .returned v ∧ (v = (.string r) ∧ Mem w [] [] w')) (n0 : Int) (w : World) (r : ByteArray) (h : spec_Decimal.step self_ n0 = some r) :
    Calls Tryd.prog 35 #[(.int .i64 n0)] w fun e w' => ∃ v, e = .returned v ∧ (v = (.string r) ∧ Mem w [] [] w') := by
  rw [spec_Decimal.step] at h
  refine enter (args := [(.int .i64 n0)]) Tryd.func35 rfl Tryd.ntmps35 (by kernel_rfl) (L := []) (W := []) (Mem.start w) ?_
  refine jc_seq ?_
  refine jc_region ?_
  refine jo_f [(0, 0)] (by kernel_rfl) ?_
  refine jo_end (by kernel_rfl) ?_
  refine jx_then ?_
  refine jc_seq ?_
  refine jc_seq ?_
  refine jc_region ?_
  refine jo_f [(0, 0), (0, 0)] (by kernel_rfl) ?_
  refine jo_end (by kernel_rfl) ?_
  refine jx_then ?_
  refine jc_cond (decide (n0 < 10)) (by kernel_rfl) (fun hc_3 => ?_) (fun hc_3 => ?_)
  · replace h := ifT hc_3 h
    refine jc_seq ?_
    refine jc_region ?_
    refine jo_f [(0, 0), (0, 0), (0, 0), (0, 0)] (by kernel_rfl) ?_
    refine toO (by kernel_rfl) (p_a 0 [0] (by kernel_rfl) (fun b => by kernel_rfl) (fun b_4 => jkO ?_))
    refine toO (by kernel_rfl) (p_s 0 [0] (by kernel_rfl) (by kernel_rfl) (jkO ?_))
    refine jo_f [(0, 0)] (by kernel_rfl) ?_
    refine jo_end (by kernel_rfl) ?_
    refine jx_then ?_
    refine jc_ret ?_
    refine jx_thenr ?_
    obtain rfl := Option.some.inj h
    exact jx_ret [] (.string (ByteArray.empty.push (UInt8.ofNat (u8 (w64 (48 + (Int.tmod n0 10)))).toNat))) [] rfl (by kernel_rfl) (by kernel_rfl) (fun w hm => ⟨rfl, hm.pick [] (by kernel_rfl) (by kernel_rfl)⟩)
  · replace h := ifF hc_3 h
    refine jc_skip ?_
    refine jx_then ?_
    refine jc_seq ?_
    refine jc_draw [] 11 (by kernel_rfl) (by kernel_rfl) ?_
    refine jd_f [⟨0, 0, 0⟩, ⟨1, 0, 0⟩, ⟨3, 0, 0⟩, ⟨4, 0, 0⟩, ⟨5, 0, 0⟩, ⟨6, 0, 0⟩] 5 (by kernel_rfl) (by kernel_rfl) (fun w h => h.pick [] (by kernel_rfl) (by kernel_rfl)) (by kernel_rfl) (by kernel_rfl) ?_
    refine toD2 2 7 (by kernel_rfl) ?_ ?_
    · obtain ⟨t_1, ht_5, h⟩ := bd h
      refine p_call 0 35 #[(.int .i64 (w64 (Int.tdiv n0 10)))] (by kernel_rfl) (by kernel_rfl) (fun w hm => hself (w64 (Int.tdiv n0 10)) w _ ht_5) ?_
      rintro w v w' hm ⟨rfl, hm'⟩
      refine ⟨_, hm.app hm', jkD (fun w h => h.pick [] (by kernel_rfl) (by kernel_rfl)) ?_⟩
      clear hm hm'
      refine toD 7 (by kernel_rfl) (p_a 0 [0] (by kernel_rfl) (fun b => by kernel_rfl) (fun b_6 => jkD (fun w h => h.pick [] (by kernel_rfl) (by kernel_rfl)) ?_))
      refine toD 8 (by kernel_rfl) (p_s 0 [0] (by kernel_rfl) (by kernel_rfl) (jkD (fun w h => h.pick [] (by kernel_rfl) (by kernel_rfl)) ?_))
      obtain ⟨hg_7, h⟩ := gd h
      refine jd_v 9 0 (by kernel_rfl) (fun w h => h.pick [] (by kernel_rfl) (by kernel_rfl)) (by kernel_rfl) (by kernel_rfl) _ (fun w hm => cat_run (a := t_1) (b := (ByteArray.empty.push (UInt8.ofNat (u8 (w64 (48 + (Int.tmod n0 10)))).toNat))) (by kernel_rfl) hg_7) ?_
      refine jd_f [⟨10, 0, 0⟩] 0 (by kernel_rfl) (by kernel_rfl) (fun w h => h.pick [] (by kernel_rfl) (by kernel_rfl)) (by kernel_rfl) (by kernel_rfl) ?_
      refine jd_end (by kernel_rfl) ?_
      refine jx_then ?_
      refine jc_ret ?_
      obtain rfl := Option.some.inj h
      exact jx_ret [] (.string (t_1 ++ (ByteArray.empty.push (UInt8.ofNat (u8 (w64 (48 + (Int.tmod n0 10)))).toNat)))) [] rfl (by kernel_rfl) (by kernel_rfl) (fun w hm => ⟨rfl, hm.pick [] (by kernel_rfl) (by kernel_rfl)⟩)
    · refine p_a 0 [0] (by kernel_rfl) (fun b => by kernel_rfl) (fun b_8 => jkD (fun w h => h.pick [] (by kernel_rfl) (by kernel_rfl)) ?_)
      refine toD2 2 8 (by kernel_rfl) ?_ ?_
      · obtain ⟨t_1, ht_9, h⟩ := bd h
        refine p_call 0 35 #[(.int .i64 (w64 (Int.tdiv n0 10)))] (by kernel_rfl) (by kernel_rfl) (fun w hm => hself (w64 (Int.tdiv n0 10)) w _ ht_9) ?_
        rintro w v w' hm ⟨rfl, hm'⟩
        refine ⟨_, hm.app hm', jkD (fun w h => h.pick [] (by kernel_rfl) (by kernel_rfl)) ?_⟩
        clear hm hm'
        refine toD 8 (by kernel_rfl) (p_s 0 [0] (by kernel_rfl) (by kernel_rfl) (jkD (fun w h => h.pick [] (by kernel_rfl) (by kernel_rfl)) ?_))
        obtain ⟨hg_10, h⟩ := gd h
        refine jd_v 9 0 (by kernel_rfl) (fun w h => h.pick [] (by kernel_rfl) (by kernel_rfl)) (by kernel_rfl) (by kernel_rfl) _ (fun w hm => cat_run (a := t_1) (b := (ByteArray.empty.push (UInt8.ofNat (u8 (w64 (48 + (Int.tmod n0 10)))).toNat))) (by kernel_rfl) hg_10) ?_
        refine jd_f [⟨10, 0, 0⟩] 0 (by kernel_rfl) (by kernel_rfl) (fun w h => h.pick [] (by kernel_rfl) (by kernel_rfl)) (by kernel_rfl) (by kernel_rfl) ?_
        refine jd_end (by kernel_rfl) ?_
        refine jx_then ?_
        refine jc_ret ?_
        obtain rfl := Option.some.inj h
        exact jx_ret [] (.string (t_1 ++ (ByteArray.empty.push (UInt8.ofNat (u8 (w64 (48 + (Int.tmod n0 10)))).toNat)))) [] rfl (by kernel_rfl) (by kernel_rfl) (fun w hm => ⟨rfl, hm.pick [] (by kernel_rfl) (by kernel_rfl)⟩)
      · refine p_s 0 [0] (by kernel_rfl) (by kernel_rfl) (jkD (fun w h => h.pick [] (by kernel_rfl) (by kernel_rfl)) ?_)
        obtain ⟨t_1, ht_11, h⟩ := bd h
        refine toD 2 (by kernel_rfl) (p_call 0 35 #[(.int .i64 (w64 (Int.tdiv n0 10)))] (by kernel_rfl) (by kernel_rfl) (fun w hm => hself (w64 (Int.tdiv n0 10)) w _ ht_11) ?_)
        rintro w v w' hm ⟨rfl, hm'⟩
        refine ⟨_, hm.app hm', jkD (fun w h => h.pick [] (by kernel_rfl) (by kernel_rfl)) ?_⟩
        clear hm hm'
        obtain ⟨hg_12, h⟩ := gd h
        refine jd_v 9 0 (by kernel_rfl) (fun w h => h.pick [] (by kernel_rfl) (by kernel_rfl)) (by kernel_rfl) (by kernel_rfl) _ (fun w hm => cat_run (a := t_1) (b := (ByteArray.empty.push (UInt8.ofNat (u8 (w64 (48 + (Int.tmod n0 10)))).toNat))) (by kernel_rfl) hg_12) ?_
        refine jd_f [⟨10, 0, 0⟩] 0 (by kernel_rfl) (by kernel_rfl) (fun w h => h.pick [] (by kernel_rfl) (by kernel_rfl)) (by kernel_rfl) (by kernel_rfl) ?_
        refine jd_end (by kernel_rfl) ?_
        refine jx_then ?_
        refine jc_ret ?_
        obtain rfl := Option.some.inj h
        exact jx_ret [] (.string (t_1 ++ (ByteArray.empty.push (UInt8.ofNat (u8 (w64 (48 + (Int.tmod n0 10)))).toNat)))) [] rfl (by kernel_rfl) (by kernel_rfl) (fun w hm => ⟨rfl, hm.pick [] (by kernel_rfl) (by kernel_rfl)⟩)
theorem spec_Decimal.rec_calls : ∀ (fu : Nat) (n0 : Int) (w : World) (r : ByteArray) (h : spec_Decimal.rec_ fu n0 = some r),
    Calls Tryd.prog 35 #[(.int .i64 n0)] w fun e w' => ∃ v, e = .returned v ∧ (v = (.string r) ∧ Mem w [] [] w')
  | 0, n0, w, r, h => nomatch (show none = some r from h)
  | fu + 1, n0, w, r, h => spec_Decimal.step_calls (spec_Decimal.rec_ fu) (spec_Decimal.rec_calls fu) n0 w r h
theorem spec_Decimal.calls (n0 : Int) (w : World) (r : ByteArray) (h : spec_Decimal n0 = some r) :
    Calls Tryd.prog 35 #[(.int .i64 n0)] w fun e w' => ∃ v, e = .returned v ∧ (v = (.string r) ∧ Mem w [] [] w') :=
  spec_Decimal.rec_calls 20 n0 w r h

/-! ### spec.l06Text -/
noncomputable def spec_l06Text.k_2 (list0 : List GAct) (s_1 : ByteArray) : Option (ByteArray × Bool) := some (s_1, (decide ((list0.length : Int) ≤ 60)))
noncomputable def spec_l06Text.k_14 (i_4 : Int) (s_13 : ByteArray) : Option ((ByteArray × Int) ⊕ ((ByteArray × Bool) ⊕ ByteArray)) := (if s_13.size + (ByteArray.mk #[10]).size ≤ 9223372036854775807 then some (.inl ((s_13 ++ (ByteArray.mk #[10])), (w64 (i_4 + 1)))) else none)
noncomputable def spec_l06Text.k_20 (t_8 : ByteArray × Int) (x_9 : GAct) (x_10 : GAct) (x_11 : GAct) (x_12 : GAct) (s_15 : ByteArray) (i_16 : Int) (q_19 : Bool) : Option ((ByteArray × Int) ⊕ ((ByteArray × Bool) ⊕ ByteArray)) := (if q_19 = true then some (.inr (.inl ((ByteArray.mk #[]), false))) else (if (decide (i_16 < t_8.2)) = true then (ix ((Arr.set (Arr.set (Arr.set (Arr.set (Arr.rep 4 0) 0 x_9.fA) 1 x_10.fB) 2 x_11.fC) 3 x_12.fD).1) i_16).bind fun x_21 => (spec_Decimal x_21).bind fun t_22 => (if (ByteArray.mk #[32]).size + t_22.size ≤ 9223372036854775807 then (if s_15.size + ((ByteArray.mk #[32]) ++ t_22).size ≤ 9223372036854775807 then some (.inl ((s_15 ++ ((ByteArray.mk #[32]) ++ t_22)), (w64 (i_16 + 1)))) else none) else none) else some (.inl (s_15, (w64 (i_16 + 1))))))
noncomputable def spec_l06Text.l_17 (t_8 : ByteArray × Int) (x_9 : GAct) (x_10 : GAct) (x_11 : GAct) (x_12 : GAct) : (ByteArray × Int) → Option ((ByteArray × Int) ⊕ ((ByteArray × Bool) ⊕ ByteArray))
  | (s_15, i_16) => (if (decide (i_16 < 4)) = true then (if (decide (i_16 < t_8.2)) = true then (ix ((Arr.set (Arr.set (Arr.set (Arr.set (Arr.rep 4 0) 0 x_9.fA) 1 x_10.fB) 2 x_11.fC) 3 x_12.fD).1) i_16).bind fun x_23 => (spec_l06Turns x_23).bind fun t_24 => (if (!t_24) = true then spec_l06Text.k_20 t_8 x_9 x_10 x_11 x_12 s_15 i_16 true else (if (decide (i_16 ≥ t_8.2)) = true then (ix ((Arr.set (Arr.set (Arr.set (Arr.set (Arr.rep 4 0) 0 x_9.fA) 1 x_10.fB) 2 x_11.fC) 3 x_12.fD).1) i_16).bind fun x_25 => spec_l06Text.k_20 t_8 x_9 x_10 x_11 x_12 s_15 i_16 (x_25 != 0) else spec_l06Text.k_20 t_8 x_9 x_10 x_11 x_12 s_15 i_16 false)) else (if (decide (i_16 ≥ t_8.2)) = true then (ix ((Arr.set (Arr.set (Arr.set (Arr.set (Arr.rep 4 0) 0 x_9.fA) 1 x_10.fB) 2 x_11.fC) 3 x_12.fD).1) i_16).bind fun x_26 => spec_l06Text.k_20 t_8 x_9 x_10 x_11 x_12 s_15 i_16 (x_26 != 0) else spec_l06Text.k_20 t_8 x_9 x_10 x_11 x_12 s_15 i_16 false)) else some (.inr (.inr s_15)))
noncomputable def spec_l06Text.l_5 (list0 : List GAct) : (ByteArray × Int) → Option ((ByteArray × Int) ⊕ ((ByteArray × Bool) ⊕ ByteArray))
  | (s_3, i_4) => (if (decide (i_4 < (list0.length : Int))) = true then (ix list0 i_4).bind fun x_7 => (spec_l06Words (w64 x_7.fKind)).bind fun t_8 => (if (t_8.1.toList == (ByteArray.mk #[]).toList) = true then some (.inr (.inl ((ByteArray.mk #[]), false))) else (if s_3.size + t_8.1.size ≤ 9223372036854775807 then (ix list0 i_4).bind fun x_9 => (ix list0 i_4).bind fun x_10 => (ix list0 i_4).bind fun x_11 => (ix list0 i_4).bind fun x_12 => (loop (spec_l06Text.l_17 t_8 x_9 x_10 x_11 x_12) ((s_3 ++ t_8.1), 0)).bind fun t_18 => match t_18 with | .inl p => some (.inr (.inl p)) | .inr p => spec_l06Text.k_14 i_4 p else none)) else some (.inr (.inr s_3)))
noncomputable def spec_l06Text (list0 : List GAct) : Option (ByteArray × Bool) := (loop (spec_l06Text.l_5 list0) ((ByteArray.mk #[]), 0)).bind fun t_6 => match t_6 with | .inl p => some p | .inr p => spec_l06Text.k_2 list0 p
set_option maxRecDepth 100000 in
set_option maxHeartbeats 8000000 in
theorem spec_l06Text.calls (list0 : List GAct) (w : World) (r : ByteArray × Bool) (list0_a : Option Addr) (list0_an : Nat) (list0_c : Nat) (list0_h : Rw w list0_a 5 encGAct list0) (list0_hn : list0.length = list0_an) (h : spec_l06Text list0 = some r) :
    Calls Tryd.prog 14 #[(.slice list0_a list0_an list0_c)] w fun e w' => ∃ v, e = .returned v ∧ (v = .tuple #[(.string r.1), (.bool r.2)] ∧ Mem w [] [] w') := by
  subst list0_hn
  rw [spec_l06Text] at h
  refine enter (args := [(.slice list0_a list0.length list0_c)]) Tryd.func14 rfl Tryd.ntmps14 (by kernel_rfl) (L := []) (W := []) (Mem.start w) ?_
  refine jc_seq ?_
  refine jc_region ?_
  refine jo_f [(0, 0), (0, 0)] (by kernel_rfl) ?_
  refine jo_end (by kernel_rfl) ?_
  refine jx_then ?_
  refine jc_seq ?_
  refine jc_region ?_
  refine jo_f [(0, 0)] (by kernel_rfl) ?_
  refine jo_end (by kernel_rfl) ?_
  refine jx_then ?_
  refine jc_seq ?_
  refine jc_seq ?_
  refine jc_region ?_
  refine jo_f [(0, 0)] (by kernel_rfl) ?_
  refine jo_end (by kernel_rfl) ?_
  refine jx_then ?_
  refine jc_meet (fun (j : ByteArray) => match j with | s_1 => spec_l06Text.k_2 list0 s_1 = some r) (fun (j : ByteArray) => match j with | s_1 => [(0, [], (.slice list0_a list0.length list0_c)), (2, [], (.string (ByteArray.mk #[]))), (3, [], (.bool false)), (4, [], (.string s_1))]) (fun (j : ByteArray) => match j with | s_1 => []) ?_ ?_
  · refine jc_block ?_
    obtain ⟨t_6, ht_3252, hr_2978⟩ := bd h
    refine jc_loop (fun (s : ByteArray × Int) (x : Unit) => match s, x with | ⟨s_3, i_4⟩, _ => True) (fun (s : ByteArray × Int) (x : Unit) => match s, x with | ⟨s_3, i_4⟩, _ => [(0, [], (.slice list0_a list0.length list0_c)), (2, [], (.string (ByteArray.mk #[]))), (3, [], (.bool false)), (4, [], (.string s_3)), (5, [], (.int .i64 i_4))]) (fun (s : ByteArray × Int) (x : Unit) => match s, x with | ⟨s_3, i_4⟩, _ => []) ht_3252 () trivial (by kernel_rfl) [] (by kernel_rfl) (by kernel_rfl) ?_
    rintro ⟨s_3, i_4⟩ _ y_2979 _ h
    rw [spec_l06Text.l_5] at h
    refine jc_seq ?_
    refine jc_seq ?_
    refine jc_region ?_
    refine jo_f [(0, 0), (0, 0), (0, 0), (0, 0)] (by kernel_rfl) ?_
    refine jo_end (by kernel_rfl) ?_
    refine jx_then ?_
    refine jc_cond (decide (i_4 < (list0.length : Int))) (by kernel_rfl) (fun hc_2981 => ?_) (fun hc_2981 => ?_)
    · replace h := ifT hc_2981 h
      refine jc_skip ?_
      refine jx_then ?_
      refine jc_seq ?_
      refine jc_block ?_
      refine jc_seq ?_
      refine jc_region ?_
      refine jo_f [(0, 0), (0, 0)] (by kernel_rfl) ?_
      obtain ⟨x_7, hx_2982, h⟩ := bd h
      refine toO (by kernel_rfl) (p_idx 0 list0_a list0.length i_4 5 (by kernel_rfl) (by kernel_rfl) (ix_some hx_2982).1 (ltn hx_2982 rfl) (list0_h.sp hx_2982) (jkO ?_))
      refine jo_f [(0, 0)] (by kernel_rfl) ?_
      refine toO (by kernel_rfl) (p_ld 0 (aB list0_a) (aO list0_a + i_4.toNat * 5) false (((encGAct x_7).drop 0).take 1) (by kernel_rfl) (by kernel_rfl) (by kernel_rfl) (fun w hm => (((hm.exRow list0_h List.not_mem_nil).at hx_2982).sub 0 1)) (jkO ?_))
      refine jo_f [(0, 0)] (by kernel_rfl) ?_
      obtain ⟨t_8, ht_2983, h⟩ := bd h
      refine toO (by kernel_rfl) (p_call 0 33 #[(.int .i64 (w64 x_7.fKind))] (by kernel_rfl) (by kernel_rfl) (fun w hm => spec_l06Words.calls (w64 x_7.fKind) w _ ht_2983) ?_)
      rintro w v w' hm ⟨rfl, hm'⟩
      refine ⟨_, hm.app hm', jkO ?_⟩
      clear hm hm'
      refine jo_f [(0, 0), (0, 0), (0, 0), (0, 0), (0, 0)] (by kernel_rfl) ?_
      refine jo_end (by kernel_rfl) ?_
      refine jx_then ?_
      refine jc_seq ?_
      refine jc_seq ?_
      refine jc_region ?_
      refine jo_f [(0, 0), (0, 0)] (by kernel_rfl) ?_
      refine jo_end (by kernel_rfl) ?_
      refine jx_then ?_
      refine jc_cond (t_8.1.toList == (ByteArray.mk #[]).toList) (by kernel_rfl) (fun hc_2985 => ?_) (fun hc_2985 => ?_)
      · replace h := ifT hc_2985 h
        refine jc_seq ?_
        refine jc_region ?_
        refine jo_f [(0, 0), (0, 0)] (by kernel_rfl) ?_
        refine jo_end (by kernel_rfl) ?_
        refine jx_then ?_
        refine jc_ret ?_
        refine jx_thenr ?_
        refine jx_inr ?_
        refine jx_thenr ?_
        refine jx_leaver (.inl ((ByteArray.mk #[]), false)) (Option.some.inj h).symm (fun e_2986 => ?_)
        subst e_2986
        refine jx_inr ?_
        refine jx_thenr ?_
        refine jx_thenr ?_
        obtain rfl := Option.some.inj hr_2978
        exact jx_ret [] (.tuple #[(.string (ByteArray.mk #[])), (.bool false)]) [] rfl (by kernel_rfl) (by kernel_rfl) (fun w hm => ⟨rfl, hm.pick [] (by kernel_rfl) (by kernel_rfl)⟩)
      · replace h := ifF hc_2985 h
        refine jc_skip ?_
        refine jx_then ?_
        refine jc_seq ?_
        refine jc_region ?_
        refine jo_f [(0, 0), (0, 0)] (by kernel_rfl) ?_
        obtain ⟨hg_2987, h⟩ := gd h
        refine toO (by kernel_rfl) (p_v 0 (by kernel_rfl) _ (fun w hm => cat_run (a := s_3) (b := t_8.1) (by kernel_rfl) hg_2987) (jkO ?_))
        refine jo_f [(0, 0)] (by kernel_rfl) ?_
        refine jo_end (by kernel_rfl) ?_
        refine jx_then ?_
        refine jc_seq ?_
        refine jc_draw [] 23 (by kernel_rfl) (by kernel_rfl) ?_
        refine jd_f [⟨0, 0, 0⟩, ⟨1, 0, 0⟩, ⟨5, 0, 0⟩, ⟨6, 0, 0⟩, ⟨10, 0, 0⟩, ⟨11, 0, 0⟩, ⟨15, 0, 0⟩, ⟨16, 0, 0⟩] 15 (by kernel_rfl) (by kernel_rfl) (fun w h => h.pick [] (by kernel_rfl) (by kernel_rfl)) (by kernel_rfl) (by kernel_rfl) ?_
        obtain ⟨x_9, hx_2988, h⟩ := bd h
        refine jd_v 2 0 (by kernel_rfl) (fun w h => h.pick [] (by kernel_rfl) (by kernel_rfl)) (by kernel_rfl) (by kernel_rfl) _ (fun w hm => idx_run (a := list0_a) (len := list0.length) (s := 5) (j := i_4) (by kernel_rfl) (ix_some hx_2988).1 (ltn hx_2988 rfl) (list0_h.sp hx_2988)) ?_
        refine jd_f [⟨3, 0, 0⟩] 13 (by kernel_rfl) (by kernel_rfl) (fun w h => h.pick [] (by kernel_rfl) (by kernel_rfl)) (by kernel_rfl) (by kernel_rfl) ?_
        refine jd_v 4 0 (by kernel_rfl) (fun w h => h.pick [] (by kernel_rfl) (by kernel_rfl)) (by kernel_rfl) (by kernel_rfl) _ (fun w hm => ld_run (b := aB list0_a) (off := (aO list0_a + i_4.toNat * 5 + 1)) (s := 1) (agg := false) (vs := (((encGAct x_9).drop 1).take 1)) (by kernel_rfl) (by kernel_rfl) (.inr rfl) (((hm.exRow list0_h List.not_mem_nil).at hx_2988).sub 1 1)) ?_
        obtain ⟨x_10, hx_2989, h⟩ := bd h
        refine jd_v 7 0 (by kernel_rfl) (fun w h => h.pick [] (by kernel_rfl) (by kernel_rfl)) (by kernel_rfl) (by kernel_rfl) _ (fun w hm => idx_run (a := list0_a) (len := list0.length) (s := 5) (j := i_4) (by kernel_rfl) (ix_some hx_2989).1 (ltn hx_2989 rfl) (list0_h.sp hx_2989)) ?_
        refine jd_f [⟨8, 0, 0⟩] 10 (by kernel_rfl) (by kernel_rfl) (fun w h => h.pick [] (by kernel_rfl) (by kernel_rfl)) (by kernel_rfl) (by kernel_rfl) ?_
        refine jd_v 9 0 (by kernel_rfl) (fun w h => h.pick [] (by kernel_rfl) (by kernel_rfl)) (by kernel_rfl) (by kernel_rfl) _ (fun w hm => ld_run (b := aB list0_a) (off := (aO list0_a + i_4.toNat * 5 + 2)) (s := 1) (agg := false) (vs := (((encGAct x_10).drop 2).take 1)) (by kernel_rfl) (by kernel_rfl) (.inr rfl) (((hm.exRow list0_h List.not_mem_nil).at hx_2989).sub 2 1)) ?_
        obtain ⟨x_11, hx_2990, h⟩ := bd h
        refine jd_v 12 0 (by kernel_rfl) (fun w h => h.pick [] (by kernel_rfl) (by kernel_rfl)) (by kernel_rfl) (by kernel_rfl) _ (fun w hm => idx_run (a := list0_a) (len := list0.length) (s := 5) (j := i_4) (by kernel_rfl) (ix_some hx_2990).1 (ltn hx_2990 rfl) (list0_h.sp hx_2990)) ?_
        refine jd_f [⟨13, 0, 0⟩] 7 (by kernel_rfl) (by kernel_rfl) (fun w h => h.pick [] (by kernel_rfl) (by kernel_rfl)) (by kernel_rfl) (by kernel_rfl) ?_
        refine jd_v 14 0 (by kernel_rfl) (fun w h => h.pick [] (by kernel_rfl) (by kernel_rfl)) (by kernel_rfl) (by kernel_rfl) _ (fun w hm => ld_run (b := aB list0_a) (off := (aO list0_a + i_4.toNat * 5 + 3)) (s := 1) (agg := false) (vs := (((encGAct x_11).drop 3).take 1)) (by kernel_rfl) (by kernel_rfl) (.inr rfl) (((hm.exRow list0_h List.not_mem_nil).at hx_2990).sub 3 1)) ?_
        obtain ⟨x_12, hx_2991, h⟩ := bd h
        refine jd_v 17 0 (by kernel_rfl) (fun w h => h.pick [] (by kernel_rfl) (by kernel_rfl)) (by kernel_rfl) (by kernel_rfl) _ (fun w hm => idx_run (a := list0_a) (len := list0.length) (s := 5) (j := i_4) (by kernel_rfl) (ix_some hx_2991).1 (ltn hx_2991 rfl) (list0_h.sp hx_2991)) ?_
        refine jd_f [⟨18, 0, 0⟩] 4 (by kernel_rfl) (by kernel_rfl) (fun w h => h.pick [] (by kernel_rfl) (by kernel_rfl)) (by kernel_rfl) (by kernel_rfl) ?_
        refine jd_v 19 0 (by kernel_rfl) (fun w h => h.pick [] (by kernel_rfl) (by kernel_rfl)) (by kernel_rfl) (by kernel_rfl) _ (fun w hm => ld_run (b := aB list0_a) (off := (aO list0_a + i_4.toNat * 5 + 4)) (s := 1) (agg := false) (vs := (((encGAct x_12).drop 4).take 1)) (by kernel_rfl) (by kernel_rfl) (.inr rfl) (((hm.exRow list0_h List.not_mem_nil).at hx_2991).sub 4 1)) ?_
        refine jd_f [⟨20, 0, 0⟩] 2 (by kernel_rfl) (by kernel_rfl) (fun w h => h.pick [] (by kernel_rfl) (by kernel_rfl)) (by kernel_rfl) (by kernel_rfl) ?_
        refine toD 21 (by kernel_rfl) (p_a 0 [0] (by kernel_rfl) (fun b => by kernel_rfl) (fun b_2992 => jkD (fun w h => h.pick [] (by kernel_rfl) (by kernel_rfl)) ?_))
        refine toD 22 (by kernel_rfl) (p_sA 0 0 b_2992 4 1 69 encI64 (Arr.rep 4 0) (Arr.set (Arr.set (Arr.set (Arr.set (Arr.rep 4 0) 0 x_9.fA) 1 x_10.fB) 2 x_11.fC) 3 x_12.fD) (by kernel_rfl) (by kernel_rfl) (by kernel_rfl) encI64_len encI64_cell (by kernel_rfl) (jkD (fun w h => h.pick [] (by kernel_rfl) (by kernel_rfl)) ?_))
        refine jd_end (by kernel_rfl) ?_
        refine jx_then ?_
        refine jc_seq ?_
        refine jc_seq ?_
        refine jc_region ?_
        refine jo_f [(0, 0)] (by kernel_rfl) ?_
        refine jo_end (by kernel_rfl) ?_
        refine jx_then ?_
        refine jc_meet (fun (j : ByteArray) => match j with | s_13 => spec_l06Text.k_14 i_4 s_13 = some y_2979) (fun (j : ByteArray) => match j with | s_13 => [(0, [], (.slice list0_a list0.length list0_c)), (2, [], (.string (ByteArray.mk #[]))), (3, [], (.bool false)), (4, [], (.string s_13)), (5, [], (.int .i64 i_4))]) (fun (j : ByteArray) => match j with | s_13 => [⟨(some b_2992), 69, row encI64 ((Arr.set (Arr.set (Arr.set (Arr.set (Arr.rep 4 0) 0 x_9.fA) 1 x_10.fB) 2 x_11.fC) 3 x_12.fD).1) []⟩]) ?_ ?_
        · refine jc_block ?_
          obtain ⟨t_18, ht_3250, hr_3204⟩ := bd h
          refine jc_loop (fun (s : ByteArray × Int) (x : Unit) => match s, x with | ⟨s_15, i_16⟩, _ => True) (fun (s : ByteArray × Int) (x : Unit) => match s, x with | ⟨s_15, i_16⟩, _ => [(0, [], (.slice list0_a list0.length list0_c)), (2, [], (.string (ByteArray.mk #[]))), (3, [], (.bool false)), (4, [], (.string s_15)), (5, [], (.int .i64 i_4)), (7, [], (.int .i64 t_8.2)), (8, [], (.pointer (some ⟨b_2992, 0, none⟩))), (9, [], (.int .i64 i_16))]) (fun (s : ByteArray × Int) (x : Unit) => match s, x with | ⟨s_15, i_16⟩, _ => [⟨(some b_2992), 69, row encI64 ((Arr.set (Arr.set (Arr.set (Arr.set (Arr.rep 4 0) 0 x_9.fA) 1 x_10.fB) 2 x_11.fC) 3 x_12.fD).1) []⟩]) ht_3250 () trivial (by kernel_rfl) [0] (by kernel_rfl) (by kernel_rfl) ?_
          rintro ⟨s_15, i_16⟩ _ y_3205 _ h
          rw [spec_l06Text.l_17] at h
          refine jc_seq ?_
          refine jc_seq ?_
          refine jc_region ?_
          refine jo_f [(0, 0), (0, 0)] (by kernel_rfl) ?_
          refine jo_end (by kernel_rfl) ?_
          refine jx_then ?_
          refine jc_cond (decide (i_16 < 4)) (by kernel_rfl) (fun hc_3207 => ?_) (fun hc_3207 => ?_)
          · replace h := ifT hc_3207 h
            refine jc_skip ?_
            refine jx_then ?_
            refine jc_seq ?_
            refine jc_block ?_
            refine jc_seq ?_
            refine jc_seq ?_
            refine jc_meet (fun (j : Bool) => match j with | q_19 => spec_l06Text.k_20 t_8 x_9 x_10 x_11 x_12 s_15 i_16 q_19 = some y_3205) (fun (j : Bool) => match j with | q_19 => [(0, [], (.slice list0_a list0.length list0_c)), (2, [], (.string (ByteArray.mk #[]))), (3, [], (.bool false)), (4, [], (.string s_15)), (5, [], (.int .i64 i_4)), (7, [], (.int .i64 t_8.2)), (8, [], (.pointer (some ⟨b_2992, 0, none⟩))), (9, [], (.int .i64 i_16)), (76, [], (.bool q_19))]) (fun (j : Bool) => match j with | q_19 => [⟨(some b_2992), 69, row encI64 ((Arr.set (Arr.set (Arr.set (Arr.set (Arr.rep 4 0) 0 x_9.fA) 1 x_10.fB) 2 x_11.fC) 3 x_12.fD).1) []⟩]) ?_ ?_
            · refine jc_region ?_
              refine jo_f [(0, 0), (0, 0), (0, 0), (0, 0), (0, 1)] (by kernel_rfl) ?_
              refine jo_split 59 (decide (i_16 < t_8.2)) (by kernel_rfl) (fun hc_3241 => ?_) (fun hc_3241 => ?_)
              · replace h := ifT hc_3241 h
                obtain ⟨x_23, hx_3242, h⟩ := bd h
                refine toO (by kernel_rfl) (p_idx 2 (some ⟨b_2992, 0, none⟩) 4 i_16 1 (by kernel_rfl) (by kernel_rfl) (ix_some hx_3242).1 (ltn hx_3242 (Arr.set (Arr.set (Arr.set (Arr.set (Arr.rep 4 0) 0 x_9.fA) 1 x_10.fB) 2 x_11.fC) 3 x_12.fD).2) rfl (jkO ?_))
                refine toO (by kernel_rfl) (p_ld 2 (aB (some ⟨b_2992, 0, none⟩)) (aO (some ⟨b_2992, 0, none⟩) + i_16.toNat * 1) false (encI64 x_23) (by kernel_rfl) (by kernel_rfl) (by kernel_rfl) (fun w hm => ((hm.ownRow (hh := 0) (o := (some b_2992)) (T := 69) (enc := encI64) (xs := ((Arr.set (Arr.set (Arr.set (Arr.set (Arr.rep 4 0) 0 x_9.fA) 1 x_10.fB) 2 x_11.fC) 3 x_12.fD).1)) (sp := []) (by kernel_rfl) (fun e => nomatch e) encI64_len).at hx_3242)) (jkO ?_))
                obtain ⟨t_24, ht_3243, h⟩ := bd h
                refine toO (by kernel_rfl) (p_call 2 34 #[(.int .i64 x_23)] (by kernel_rfl) (by kernel_rfl) (fun w hm => spec_l06Turns.calls x_23 w _ ht_3243) ?_)
                rintro w v w' hm ⟨rfl, hm'⟩
                refine ⟨_, hm.app hm', jkO ?_⟩
                clear hm hm'
                refine jo_f [(0, 2), (0, 4), (0, 0), (0, 1), (0, 1), (0, 1)] (by kernel_rfl) ?_
                refine jo_split 66 (!t_24) (by kernel_rfl) (fun hc_3244 => ?_) (fun hc_3244 => ?_)
                · replace h := ifT hc_3244 h
                  refine jo_f [(0, 3), (0, 3), (0, 3), (0, 3), (0, 3), (0, 3), (0, 4)] (by kernel_rfl) ?_
                  refine jo_end (by kernel_rfl) ?_
                  exact jx_meet true h (by kernel_rfl) [0] (by kernel_rfl) (by kernel_rfl)
                · replace h := ifF hc_3244 h
                  refine jo_f [(0, 2), (0, 1)] (by kernel_rfl) ?_
                  refine jo_split 70 (decide (i_16 ≥ t_8.2)) (by kernel_rfl) (fun hc_3245 => ?_) (fun hc_3245 => ?_)
                  · replace h := ifT hc_3245 h
                    obtain ⟨x_25, hx_3246, h⟩ := bd h
                    refine toO (by kernel_rfl) (p_idx 2 (some ⟨b_2992, 0, none⟩) 4 i_16 1 (by kernel_rfl) (by kernel_rfl) (ix_some hx_3246).1 (ltn hx_3246 (Arr.set (Arr.set (Arr.set (Arr.set (Arr.rep 4 0) 0 x_9.fA) 1 x_10.fB) 2 x_11.fC) 3 x_12.fD).2) rfl (jkO ?_))
                    refine toO (by kernel_rfl) (p_ld 2 (aB (some ⟨b_2992, 0, none⟩)) (aO (some ⟨b_2992, 0, none⟩) + i_16.toNat * 1) false (encI64 x_25) (by kernel_rfl) (by kernel_rfl) (by kernel_rfl) (fun w hm => ((hm.ownRow (hh := 0) (o := (some b_2992)) (T := 69) (enc := encI64) (xs := ((Arr.set (Arr.set (Arr.set (Arr.set (Arr.rep 4 0) 0 x_9.fA) 1 x_10.fB) 2 x_11.fC) 3 x_12.fD).1)) (sp := []) (by kernel_rfl) (fun e => nomatch e) encI64_len).at hx_3246)) (jkO ?_))
                    refine jo_f [(0, 2), (0, 4), (0, 5)] (by kernel_rfl) ?_
                    refine jo_end (by kernel_rfl) ?_
                    exact jx_meet (x_25 != 0) h (by kernel_rfl) [0] (by kernel_rfl) (by kernel_rfl)
                  · replace h := ifF hc_3245 h
                    refine jo_f [(0, 3), (0, 3), (0, 3), (0, 5), (0, 5)] (by kernel_rfl) ?_
                    refine jo_end (by kernel_rfl) ?_
                    exact jx_meet false h (by kernel_rfl) [0] (by kernel_rfl) (by kernel_rfl)
              · replace h := ifF hc_3241 h
                refine jo_f [(0, 3), (0, 3), (0, 3), (0, 3), (0, 5), (0, 0), (0, 2), (0, 2), (0, 2), (0, 2), (0, 1)] (by kernel_rfl) ?_
                refine jo_split 70 (decide (i_16 ≥ t_8.2)) (by kernel_rfl) (fun hc_3247 => ?_) (fun hc_3247 => ?_)
                · replace h := ifT hc_3247 h
                  obtain ⟨x_26, hx_3248, h⟩ := bd h
                  refine toO (by kernel_rfl) (p_idx 2 (some ⟨b_2992, 0, none⟩) 4 i_16 1 (by kernel_rfl) (by kernel_rfl) (ix_some hx_3248).1 (ltn hx_3248 (Arr.set (Arr.set (Arr.set (Arr.set (Arr.rep 4 0) 0 x_9.fA) 1 x_10.fB) 2 x_11.fC) 3 x_12.fD).2) rfl (jkO ?_))
                  refine toO (by kernel_rfl) (p_ld 2 (aB (some ⟨b_2992, 0, none⟩)) (aO (some ⟨b_2992, 0, none⟩) + i_16.toNat * 1) false (encI64 x_26) (by kernel_rfl) (by kernel_rfl) (by kernel_rfl) (fun w hm => ((hm.ownRow (hh := 0) (o := (some b_2992)) (T := 69) (enc := encI64) (xs := ((Arr.set (Arr.set (Arr.set (Arr.set (Arr.rep 4 0) 0 x_9.fA) 1 x_10.fB) 2 x_11.fC) 3 x_12.fD).1)) (sp := []) (by kernel_rfl) (fun e => nomatch e) encI64_len).at hx_3248)) (jkO ?_))
                  refine jo_f [(0, 2), (0, 4), (0, 5)] (by kernel_rfl) ?_
                  refine jo_end (by kernel_rfl) ?_
                  exact jx_meet (x_26 != 0) h (by kernel_rfl) [0] (by kernel_rfl) (by kernel_rfl)
                · replace h := ifF hc_3247 h
                  refine jo_f [(0, 3), (0, 3), (0, 3), (0, 5), (0, 5)] (by kernel_rfl) ?_
                  refine jo_end (by kernel_rfl) ?_
                  exact jx_meet false h (by kernel_rfl) [0] (by kernel_rfl) (by kernel_rfl)
            · rintro q_19 h
              replace h : spec_l06Text.k_20 t_8 x_9 x_10 x_11 x_12 s_15 i_16 q_19 = some y_3205 := h
              rw [spec_l06Text.k_20] at h
              refine jx_then ?_
              refine jc_cond q_19 (by kernel_rfl) (fun hc_3233 => ?_) (fun hc_3233 => ?_)
              · replace h := ifT hc_3233 h
                refine jc_seq ?_
                refine jc_region ?_
                refine jo_f [(0, 0), (0, 0)] (by kernel_rfl) ?_
                refine jo_end (by kernel_rfl) ?_
                refine jx_then ?_
                refine jc_ret ?_
                refine jx_thenr ?_
                refine jx_inr ?_
                refine jx_thenr ?_
                refine jx_leaver (.inl ((ByteArray.mk #[]), false)) (Option.some.inj h).symm (fun e_3235 => ?_)
                subst e_3235
                refine jx_inr ?_
                refine jx_thenr ?_
                refine jx_thenr ?_
                refine jx_inr ?_
                refine jx_thenr ?_
                refine jx_leaver (.inl ((ByteArray.mk #[]), false)) (Option.some.inj hr_3204).symm (fun e_3234 => ?_)
                subst e_3234
                refine jx_inr ?_
                refine jx_thenr ?_
                refine jx_thenr ?_
                obtain rfl := Option.some.inj hr_2978
                exact jx_ret [] (.tuple #[(.string (ByteArray.mk #[])), (.bool false)]) [] rfl (by kernel_rfl) (by kernel_rfl) (fun w hm => ⟨rfl, hm.pick [] (by kernel_rfl) (by kernel_rfl)⟩)
              · replace h := ifF hc_3233 h
                refine jc_skip ?_
                refine jx_then ?_
                refine jc_seq ?_
                refine jc_region ?_
                refine jo_f [(0, 0), (0, 0), (0, 0)] (by kernel_rfl) ?_
                refine jo_end (by kernel_rfl) ?_
                refine jx_then ?_
                refine jc_cond (decide (i_16 < t_8.2)) (by kernel_rfl) (fun hc_3236 => ?_) (fun hc_3236 => ?_)
                · replace h := ifT hc_3236 h
                  refine jc_region ?_
                  refine jo_f [(0, 0), (0, 0)] (by kernel_rfl) ?_
                  obtain ⟨x_21, hx_3237, h⟩ := bd h
                  refine toO (by kernel_rfl) (p_idx 0 (some ⟨b_2992, 0, none⟩) 4 i_16 1 (by kernel_rfl) (by kernel_rfl) (ix_some hx_3237).1 (ltn hx_3237 (Arr.set (Arr.set (Arr.set (Arr.set (Arr.rep 4 0) 0 x_9.fA) 1 x_10.fB) 2 x_11.fC) 3 x_12.fD).2) rfl (jkO ?_))
                  refine toO (by kernel_rfl) (p_ld 0 (aB (some ⟨b_2992, 0, none⟩)) (aO (some ⟨b_2992, 0, none⟩) + i_16.toNat * 1) false (encI64 x_21) (by kernel_rfl) (by kernel_rfl) (by kernel_rfl) (fun w hm => ((hm.ownRow (hh := 0) (o := (some b_2992)) (T := 69) (enc := encI64) (xs := ((Arr.set (Arr.set (Arr.set (Arr.set (Arr.rep 4 0) 0 x_9.fA) 1 x_10.fB) 2 x_11.fC) 3 x_12.fD).1)) (sp := []) (by kernel_rfl) (fun e => nomatch e) encI64_len).at hx_3237)) (jkO ?_))
                  obtain ⟨t_22, ht_3238, h⟩ := bd h
                  refine toO (by kernel_rfl) (p_call 0 35 #[(.int .i64 x_21)] (by kernel_rfl) (by kernel_rfl) (fun w hm => spec_Decimal.calls x_21 w _ ht_3238) ?_)
                  rintro w v w' hm ⟨rfl, hm'⟩
                  refine ⟨_, hm.app hm', jkO ?_⟩
                  clear hm hm'
                  obtain ⟨hg_3239, h⟩ := gd h
                  refine toO (by kernel_rfl) (p_v 0 (by kernel_rfl) _ (fun w hm => cat_run (a := (ByteArray.mk #[32])) (b := t_22) (by kernel_rfl) hg_3239) (jkO ?_))
                  obtain ⟨hg_3240, h⟩ := gd h
                  refine toO (by kernel_rfl) (p_v 0 (by kernel_rfl) _ (fun w hm => cat_run (a := s_15) (b := ((ByteArray.mk #[32]) ++ t_22)) (by kernel_rfl) hg_3240) (jkO ?_))
                  refine jo_f [(0, 0)] (by kernel_rfl) ?_
                  refine jo_end (by kernel_rfl) ?_
                  refine jx_inn ?_
                  refine jx_then ?_
                  refine jc_region ?_
                  refine jo_f [(0, 0), (0, 0), (0, 0)] (by kernel_rfl) ?_
                  refine jo_end (by kernel_rfl) ?_
                  exact jx_back ((s_15 ++ ((ByteArray.mk #[32]) ++ t_22)), (w64 (i_16 + 1))) () (Option.some.inj h).symm trivial [0] (by kernel_rfl) (by kernel_rfl) (by kernel_rfl)
                · replace h := ifF hc_3236 h
                  refine jc_skip ?_
                  refine jx_inn ?_
                  refine jx_then ?_
                  refine jc_region ?_
                  refine jo_f [(0, 0), (0, 0), (0, 0)] (by kernel_rfl) ?_
                  refine jo_end (by kernel_rfl) ?_
                  exact jx_back (s_15, (w64 (i_16 + 1))) () (Option.some.inj h).symm trivial [0] (by kernel_rfl) (by kernel_rfl) (by kernel_rfl)
          · replace h := ifF hc_3207 h
            refine jc_exit ?_
            refine jx_thenx ?_
            refine jx_leave (.inr s_15) (Option.some.inj h).symm (fun e_3249 => ?_)
            subst e_3249
            refine jx_ine ?_
            exact jx_meet s_15 hr_3204 (by kernel_rfl) [0] (by kernel_rfl) (by kernel_rfl)
        · rintro s_13 h
          replace h : spec_l06Text.k_14 i_4 s_13 = some y_2979 := h
          rw [spec_l06Text.k_14] at h
          refine jx_then ?_
          refine jc_region ?_
          refine jo_f [(0, 0)] (by kernel_rfl) ?_
          obtain ⟨hg_3121, h⟩ := gd h
          refine toO (by kernel_rfl) (p_v 0 (by kernel_rfl) _ (fun w hm => cat_run (a := s_13) (b := (ByteArray.mk #[10])) (by kernel_rfl) hg_3121) (jkO ?_))
          refine jo_f [(0, 0)] (by kernel_rfl) ?_
          refine jo_end (by kernel_rfl) ?_
          refine jx_inn ?_
          refine jx_then ?_
          refine jc_region ?_
          refine jo_f [(0, 0), (0, 0), (0, 0)] (by kernel_rfl) ?_
          refine jo_end (by kernel_rfl) ?_
          exact jx_back ((s_13 ++ (ByteArray.mk #[10])), (w64 (i_4 + 1))) () (Option.some.inj h).symm trivial [] (by kernel_rfl) (by kernel_rfl) (by kernel_rfl)
    · replace h := ifF hc_2981 h
      refine jc_exit ?_
      refine jx_thenx ?_
      refine jx_leave (.inr s_3) (Option.some.inj h).symm (fun e_3251 => ?_)
      subst e_3251
      refine jx_ine ?_
      exact jx_meet s_3 hr_2978 (by kernel_rfl) [] (by kernel_rfl) (by kernel_rfl)
  · rintro s_1 h
    replace h : spec_l06Text.k_2 list0 s_1 = some r := h
    rw [spec_l06Text.k_2] at h
    refine jx_then ?_
    refine jc_seq ?_
    refine jc_region ?_
    refine jo_f [(0, 0), (0, 0), (0, 0), (0, 0), (0, 0), (0, 0)] (by kernel_rfl) ?_
    refine jo_end (by kernel_rfl) ?_
    refine jx_then ?_
    refine jc_ret ?_
    obtain rfl := Option.some.inj h
    exact jx_ret [] (.tuple #[(.string s_1), (.bool (decide ((list0.length : Int) ≤ 60)))]) [] rfl (by kernel_rfl) (by kernel_rfl) (fun w hm => ⟨rfl, hm.pick [] (by kernel_rfl) (by kernel_rfl)⟩)

/-! ### spec.ActsText -/
noncomputable def spec_ActsText (list0 : List GAct) : Option (ByteArray) := (spec_l06Text list0).bind fun t_1 => (if (!t_1.2) = true then some (ByteArray.mk #[]) else some t_1.1)
set_option maxRecDepth 100000 in
theorem spec_ActsText.calls (list0 : List GAct) (w : World) (r : ByteArray) (list0_a : Option Addr) (list0_an : Nat) (list0_c : Nat) (list0_h : Rw w list0_a 5 encGAct list0) (list0_hn : list0.length = list0_an) (h : spec_ActsText list0 = some r) :
    Calls Tryd.prog 6 #[(.slice list0_a list0_an list0_c)] w fun e w' => ∃ v, e = .returned v ∧ (v = (.string r) ∧ Mem w [] [] w') := by
  subst list0_hn
  rw [spec_ActsText] at h
  refine enter (args := [(.slice list0_a list0.length list0_c)]) Tryd.func6 rfl Tryd.ntmps6 (by kernel_rfl) (L := []) (W := []) (Mem.start w) ?_
  refine jc_seq ?_
  refine jc_region ?_
  refine jo_f [(0, 0)] (by kernel_rfl) ?_
  refine jo_end (by kernel_rfl) ?_
  refine jx_then ?_
  refine jc_seq ?_
  refine jc_region ?_
  refine jo_f [(0, 0)] (by kernel_rfl) ?_
  obtain ⟨t_1, ht_1, h⟩ := bd h
  refine toO (by kernel_rfl) (p_call 0 14 #[(.slice list0_a list0.length list0_c)] (by kernel_rfl) (by kernel_rfl) (fun w hm => spec_l06Text.calls list0 w _ list0_a list0.length list0_c (hm.exRow list0_h List.not_mem_nil) rfl ht_1) ?_)
  rintro w v w' hm ⟨rfl, hm'⟩
  refine ⟨_, hm.app hm', jkO ?_⟩
  clear hm hm'
  refine jo_f [(0, 0), (0, 0), (0, 0), (0, 0), (0, 0)] (by kernel_rfl) ?_
  refine jo_end (by kernel_rfl) ?_
  refine jx_then ?_
  refine jc_seq ?_
  refine jc_seq ?_
  refine jc_region ?_
  refine jo_f [(0, 0), (0, 0)] (by kernel_rfl) ?_
  refine jo_end (by kernel_rfl) ?_
  refine jx_then ?_
  refine jc_cond (!t_1.2) (by kernel_rfl) (fun hc_3 => ?_) (fun hc_3 => ?_)
  · replace h := ifT hc_3 h
    refine jc_seq ?_
    refine jc_region ?_
    refine jo_f [(0, 0)] (by kernel_rfl) ?_
    refine jo_end (by kernel_rfl) ?_
    refine jx_then ?_
    refine jc_ret ?_
    refine jx_thenr ?_
    obtain rfl := Option.some.inj h
    exact jx_ret [] (.string (ByteArray.mk #[])) [] rfl (by kernel_rfl) (by kernel_rfl) (fun w hm => ⟨rfl, hm.pick [] (by kernel_rfl) (by kernel_rfl)⟩)
  · replace h := ifF hc_3 h
    refine jc_skip ?_
    refine jx_then ?_
    refine jc_seq ?_
    refine jc_region ?_
    refine jo_f [(0, 0), (0, 0)] (by kernel_rfl) ?_
    refine jo_end (by kernel_rfl) ?_
    refine jx_then ?_
    refine jc_ret ?_
    obtain rfl := Option.some.inj h
    exact jx_ret [] (.string t_1.1) [] rfl (by kernel_rfl) (by kernel_rfl) (fun w hm => ⟨rfl, hm.pick [] (by kernel_rfl) (by kernel_rfl)⟩)

/-! ### laws.FnExactActsText -/
noncomputable def laws_FnExactActsText (aList0 : List GAct) : Option (Bool) := (laws_szActS aList0 1048576).bind fun t_1 => (if (decide (t_1 < 0)) = true then some true else (laws_toActS aList0).bind fun t_2 => (spec_ActsText t_2).bind fun t_3 => (laws_toActS aList0).bind fun t_4 => (impl_ActsText t_4).bind fun t_5 => (if (!(t_5.toList == t_3.toList)) = true then some false else (laws_toActS aList0).bind fun t_6 => (laws_eqActS t_4 t_6).bind fun t_7 => (if (!t_7) = true then some false else some true)))
set_option maxRecDepth 100000 in
theorem laws_FnExactActsText.calls (aList0 : List GAct) (w : World) (r : Bool) (g_lo : Gllo w) (g_pw : Glpw w) (aList0_a : Option Addr) (aList0_an : Nat) (aList0_c : Nat) (aList0_h : Rw w aList0_a 5 encGAct aList0) (aList0_hn : aList0.length = aList0_an) (h : laws_FnExactActsText aList0 = some r) :
    Calls Tryd.prog 3 #[(.slice aList0_a aList0_an aList0_c)] w fun e w' => ∃ v, e = .returned v ∧ (v = (.bool r) ∧ Mem w [] [] w') := by
  subst aList0_hn
  rw [laws_FnExactActsText] at h
  refine enter (args := [(.slice aList0_a aList0.length aList0_c)]) Tryd.func3 rfl Tryd.ntmps3 (by kernel_rfl) (L := []) (W := []) (Mem.start w) ?_
  refine jc_seq ?_
  refine jc_region ?_
  refine jo_f [(0, 0)] (by kernel_rfl) ?_
  refine jo_end (by kernel_rfl) ?_
  refine jx_then ?_
  refine jc_seq ?_
  refine jc_region ?_
  refine jo_f [(0, 0)] (by kernel_rfl) ?_
  refine jo_end (by kernel_rfl) ?_
  refine jx_then ?_
  refine jc_seq ?_
  refine jc_region ?_
  refine jo_f [(0, 0), (0, 0)] (by kernel_rfl) ?_
  obtain ⟨t_1, ht_1, h⟩ := bd h
  refine toO (by kernel_rfl) (p_call 0 5 #[(.slice aList0_a aList0.length aList0_c), (.int .i64 1048576)] (by kernel_rfl) (by kernel_rfl) (fun w hm => laws_szActS.calls aList0 1048576 w _ aList0_a aList0.length aList0_c (hm.exRow aList0_h List.not_mem_nil) rfl ht_1) ?_)
  rintro w v w' hm ⟨rfl, hm'⟩
  refine ⟨_, hm.app hm', jkO ?_⟩
  clear hm hm'
  refine jo_f [(0, 0)] (by kernel_rfl) ?_
  refine jo_end (by kernel_rfl) ?_
  refine jx_then ?_
  refine jc_seq ?_
  refine jc_seq ?_
  refine jc_region ?_
  refine jo_f [(0, 0), (0, 0)] (by kernel_rfl) ?_
  refine jo_end (by kernel_rfl) ?_
  refine jx_then ?_
  refine jc_cond (decide (t_1 < 0)) (by kernel_rfl) (fun hc_3 => ?_) (fun hc_3 => ?_)
  · replace h := ifT hc_3 h
    refine jc_seq ?_
    refine jc_region ?_
    refine jo_f [(0, 0)] (by kernel_rfl) ?_
    refine jo_end (by kernel_rfl) ?_
    refine jx_then ?_
    refine jc_ret ?_
    refine jx_thenr ?_
    obtain rfl := Option.some.inj h
    exact jx_ret [] (.bool true) [] rfl (by kernel_rfl) (by kernel_rfl) (fun w hm => ⟨rfl, hm.pick [] (by kernel_rfl) (by kernel_rfl)⟩)
  · replace h := ifF hc_3 h
    refine jc_skip ?_
    refine jx_then ?_
    refine jc_seq ?_
    refine jc_region ?_
    refine jo_f [(0, 0)] (by kernel_rfl) ?_
    obtain ⟨t_2, ht_4, h⟩ := bd h
    refine toO (by kernel_rfl) (p_call 0 7 #[(.slice aList0_a aList0.length aList0_c)] (by kernel_rfl) (by kernel_rfl) (fun w hm => laws_toActS.calls aList0 w _ aList0_a aList0.length aList0_c (hm.exRow aList0_h List.not_mem_nil) rfl ht_4) ?_)
    rintro w v w' hm ⟨o_5, cap_6, sp_7, _, rfl, hs_8, ho_9, rfl, hm'⟩
    refine ⟨_, hm.app hm', jkO ?_⟩
    clear hm hm'
    obtain ⟨t_3, ht_10, h⟩ := bd h
    refine toO (by kernel_rfl) (p_call 0 6 #[(.slice (o_5.map fun b => ⟨b, 0, none⟩) t_2.length cap_6)] (by kernel_rfl) (by kernel_rfl) (fun w hm => spec_ActsText.calls t_2 w _ (o_5.map fun b => ⟨b, 0, none⟩) t_2.length cap_6 (hm.ownRow (hh := 0) (o := o_5) (T := 37) (enc := encGAct) (xs := t_2) (sp := sp_7) (by kernel_rfl) (fun e => (ho_9 e).1) encGAct_len) rfl ht_10) ?_)
    rintro w v w' hm ⟨rfl, hm'⟩
    refine ⟨_, hm.app hm', jkO ?_⟩
    clear hm hm'
    refine jo_f [(0, 0)] (by kernel_rfl) ?_
    refine jo_end (by kernel_rfl) ?_
    refine jx_then ?_
    refine jc_seq ?_
    refine jc_region ?_
    refine jo_f [(0, 0)] (by kernel_rfl) ?_
    obtain ⟨t_4, ht_11, h⟩ := bd h
    refine toO (by kernel_rfl) (p_call 0 7 #[(.slice aList0_a aList0.length aList0_c)] (by kernel_rfl) (by kernel_rfl) (fun w hm => laws_toActS.calls aList0 w _ aList0_a aList0.length aList0_c (hm.exRow aList0_h List.not_mem_nil) rfl ht_11) ?_)
    rintro w v w' hm ⟨o_12, cap_13, sp_14, _, rfl, hs_15, ho_16, rfl, hm'⟩
    refine ⟨_, hm.app hm', jkO ?_⟩
    clear hm hm'
    refine jo_f [(0, 0)] (by kernel_rfl) ?_
    refine jo_end (by kernel_rfl) ?_
    refine jx_then ?_
    refine jc_seq ?_
    refine jc_region ?_
    refine jo_f [(0, 0)] (by kernel_rfl) ?_
    obtain ⟨t_5, ht_17, h⟩ := bd h
    refine toO (by kernel_rfl) (p_call 0 8 #[(.slice (o_12.map fun b => ⟨b, 0, none⟩) t_4.length cap_13)] (by kernel_rfl) (by kernel_rfl) (fun w hm => impl_ActsText.calls t_4 w _ (g_lo.keep hm) (g_pw.keep hm) (o_12.map fun b => ⟨b, 0, none⟩) t_4.length cap_13 (hm.ownRow (hh := 1) (o := o_12) (T := 37) (enc := encGAct) (xs := t_4) (sp := sp_14) (by kernel_rfl) (fun e => (ho_16 e).1) encGAct_len) rfl ht_17) ?_)
    rintro w v w' hm ⟨rfl, hm'⟩
    refine ⟨_, hm.app hm', jkO ?_⟩
    clear hm hm'
    refine jo_f [(0, 0)] (by kernel_rfl) ?_
    refine jo_end (by kernel_rfl) ?_
    refine jx_then ?_
    refine jc_seq ?_
    refine jc_seq ?_
    refine jc_region ?_
    refine jo_f [(0, 0), (0, 0), (0, 0)] (by kernel_rfl) ?_
    refine jo_end (by kernel_rfl) ?_
    refine jx_then ?_
    refine jc_cond (!(t_5.toList == t_3.toList)) (by kernel_rfl) (fun hc_19 => ?_) (fun hc_19 => ?_)
    · replace h := ifT hc_19 h
      refine jc_seq ?_
      refine jc_region ?_
      refine jo_f [(0, 0)] (by kernel_rfl) ?_
      refine jo_end (by kernel_rfl) ?_
      refine jx_then ?_
      refine jc_ret ?_
      refine jx_thenr ?_
      obtain rfl := Option.some.inj h
      exact jx_ret [] (.bool false) [] rfl (by kernel_rfl) (by kernel_rfl) (fun w hm => ⟨rfl, hm.pick [] (by kernel_rfl) (by kernel_rfl)⟩)
    · replace h := ifF hc_19 h
      refine jc_skip ?_
      refine jx_then ?_
      refine jc_seq ?_
      refine jc_seq ?_
      refine jc_region ?_
      refine jo_f [(0, 0), (0, 0)] (by kernel_rfl) ?_
      obtain ⟨t_6, ht_20, h⟩ := bd h
      refine toO (by kernel_rfl) (p_call 0 7 #[(.slice aList0_a aList0.length aList0_c)] (by kernel_rfl) (by kernel_rfl) (fun w hm => laws_toActS.calls aList0 w _ aList0_a aList0.length aList0_c (hm.exRow aList0_h List.not_mem_nil) rfl ht_20) ?_)
      rintro w v w' hm ⟨o_21, cap_22, sp_23, _, rfl, hs_24, ho_25, rfl, hm'⟩
      refine ⟨_, hm.app hm', jkO ?_⟩
      clear hm hm'
      obtain ⟨t_7, ht_26, h⟩ := bd h
      refine toO (by kernel_rfl) (p_call 0 9 #[(.slice (o_12.map fun b => ⟨b, 0, none⟩) t_4.length cap_13), (.slice (o_21.map fun b => ⟨b, 0, none⟩) t_6.length cap_22)] (by kernel_rfl) (by kernel_rfl) (fun w hm => laws_eqActS.calls t_4 t_6 w _ (o_12.map fun b => ⟨b, 0, none⟩) t_4.length cap_13 (hm.ownRow (hh := 1) (o := o_12) (T := 37) (enc := encGAct) (xs := t_4) (sp := sp_14) (by kernel_rfl) (fun e => (ho_16 e).1) encGAct_len) rfl (o_21.map fun b => ⟨b, 0, none⟩) t_6.length cap_22 (hm.ownRow (hh := 2) (o := o_21) (T := 37) (enc := encGAct) (xs := t_6) (sp := sp_23) (by kernel_rfl) (fun e => (ho_25 e).1) encGAct_len) rfl ht_26) ?_)
      rintro w v w' hm ⟨rfl, hm'⟩
      refine ⟨_, hm.app hm', jkO ?_⟩
      clear hm hm'
      refine jo_f [(0, 0)] (by kernel_rfl) ?_
      refine jo_end (by kernel_rfl) ?_
      refine jx_then ?_
      refine jc_cond (!t_7) (by kernel_rfl) (fun hc_27 => ?_) (fun hc_27 => ?_)
      · replace h := ifT hc_27 h
        refine jc_seq ?_
        refine jc_region ?_
        refine jo_f [(0, 0)] (by kernel_rfl) ?_
        refine jo_end (by kernel_rfl) ?_
        refine jx_then ?_
        refine jc_ret ?_
        refine jx_thenr ?_
        obtain rfl := Option.some.inj h
        exact jx_ret [] (.bool false) [] rfl (by kernel_rfl) (by kernel_rfl) (fun w hm => ⟨rfl, hm.pick [] (by kernel_rfl) (by kernel_rfl)⟩)
      · replace h := ifF hc_27 h
        refine jc_skip ?_
        refine jx_then ?_
        refine jc_seq ?_
        refine jc_region ?_
        refine jo_f [(0, 0)] (by kernel_rfl) ?_
        refine jo_end (by kernel_rfl) ?_
        refine jx_then ?_
        refine jc_ret ?_
        obtain rfl := Option.some.inj h
        exact jx_ret [] (.bool true) [] rfl (by kernel_rfl) (by kernel_rfl) (fun w hm => ⟨rfl, hm.pick [] (by kernel_rfl) (by kernel_rfl)⟩)
end Go.Proofs.YtplklknkkaeniaaDoor
