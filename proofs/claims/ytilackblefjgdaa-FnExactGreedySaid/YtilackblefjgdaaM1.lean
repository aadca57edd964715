/- Functions of the program that the laws reach: a plain function each, and that the call comes to its answer if the plain function has one. Printed by a program. -/
import Derived.Test.YtilackblefjgdaaT
import Derived.Test.YtilackblefjgdaaM0
namespace Go.Proofs.Ytilackblefjgdaa
open Eng
set_option linter.unusedVariables false

/-! ### laws.szTune -/
noncomputable def laws_szTune (a0 : List GNote) (left1 : Int) : Option (Int) := (if (decide ((w64 (left1 - (a0.length : Int))) < 0)) = true then some (-1) else some (w64 (left1 - (a0.length : Int))))
set_option maxRecDepth 100000 in
theorem laws_szTune.calls (a0 : List GNote) (left1 : Int) (w : World) (r : Int) (a0_a : Option Addr) (a0_an : Nat) (a0_c : Nat) (a0_h : Rw w a0_a 2 encGNote a0) (a0_hn : a0.length = a0_an) (h : laws_szTune a0 left1 = some r) :
    Calls Try.prog 22 #[(.slice a0_a a0_an a0_c), (.int .i64 left1)] w fun e w' => ∃ v, e = .returned v ∧ (v = (.int .i64 r) ∧ Mem w [] [] w') := by
  subst a0_hn
  rw [laws_szTune] at h
  refine enter (args := [(.slice a0_a a0.length a0_c), (.int .i64 left1)]) Try.func22 rfl Try.ntmps22 (by kernel_rfl) (L := []) (W := []) (Mem.start w) ?_
  refine jc_seq ?_
  refine jc_region ?_
  refine jo_f [(0, 0)] (by kernel_rfl) ?_
  refine jo_end (by kernel_rfl) ?_
  refine jx_then ?_
  refine jc_seq ?_
  refine jc_region ?_
  refine jo_f [(0, 0), (0, 0), (0, 0), (0, 0), (0, 0)] (by kernel_rfl) ?_
  refine jo_end (by kernel_rfl) ?_
  refine jx_then ?_
  refine jc_seq ?_
  refine jc_seq ?_
  refine jc_region ?_
  refine jo_f [(0, 0), (0, 0)] (by kernel_rfl) ?_
  refine jo_end (by kernel_rfl) ?_
  refine jx_then ?_
  refine jc_cond (decide ((w64 (left1 - (a0.length : Int))) < 0)) (by kernel_rfl) (fun hc_2 => ?_) (fun hc_2 => ?_)
  · replace h := ifT hc_2 h
    refine jc_seq ?_
    refine jc_region ?_
    refine jo_f [(0, 0)] (by kernel_rfl) ?_
    refine jo_end (by kernel_rfl) ?_
    refine jx_then ?_
    refine jc_ret ?_
    refine jx_thenr ?_
    obtain rfl := Option.some.inj h
    exact jx_ret [] (.int .i64 (-1)) [] rfl (by kernel_rfl) (by kernel_rfl) (fun w hm => ⟨rfl, hm.pick [] (by kernel_rfl) (by kernel_rfl)⟩)
  · replace h := ifF hc_2 h
    refine jc_skip ?_
    refine jx_then ?_
    refine jc_seq ?_
    refine jc_region ?_
    refine jo_f [(0, 0), (0, 0)] (by kernel_rfl) ?_
    refine jo_end (by kernel_rfl) ?_
    refine jx_then ?_
    refine jc_ret ?_
    obtain rfl := Option.some.inj h
    exact jx_ret [] (.int .i64 (w64 (left1 - (a0.length : Int)))) [] rfl (by kernel_rfl) (by kernel_rfl) (fun w hm => ⟨rfl, hm.pick [] (by kernel_rfl) (by kernel_rfl)⟩)

/-! ### laws.toNote -/
noncomputable def laws_toNote (a0 : GNote) : Option (GNote) := some a0
set_option maxRecDepth 100000 in
theorem laws_toNote.calls (a0 : GNote) (w : World) (r : GNote) (h : laws_toNote a0 = some r) :
    Calls Try.prog 81 #[(.agg #[(.int .i16 a0.fAt), (.int .i8 a0.fPitch)])] w fun e w' => ∃ v, e = .returned v ∧ (v = .agg #[(.int .i16 r.fAt), (.int .i8 r.fPitch)] ∧ Mem w [] [] w') := by
  rw [laws_toNote] at h
  refine enter (args := [(.agg #[(.int .i16 a0.fAt), (.int .i8 a0.fPitch)])]) Try.func81 rfl Try.ntmps81 (by kernel_rfl) (L := []) (W := []) (Mem.start w) ?_
  refine jc_seq ?_
  refine jc_region ?_
  refine toO (by kernel_rfl) (p_a 0 [0] (by kernel_rfl) (fun b => by kernel_rfl) (fun b_1 => jkO ?_))
  refine toO (by kernel_rfl) (p_a 0 [0] (by kernel_rfl) (fun b => by kernel_rfl) (fun b_2 => jkO ?_))
  refine jo_end (by kernel_rfl) ?_
  refine jx_then ?_
  refine jc_seq ?_
  refine jc_region ?_
  refine toO (by kernel_rfl) (p_a 0 [0] (by kernel_rfl) (fun b => by kernel_rfl) (fun b_3 => jkO ?_))
  refine jo_end (by kernel_rfl) ?_
  refine jx_then ?_
  refine jc_seq ?_
  refine jc_region ?_
  refine jo_f [(0, 0), (0, 0), (0, 0)] (by kernel_rfl) ?_
  refine toO (by kernel_rfl) (p_s 0 [2] (by kernel_rfl) (by kernel_rfl) (jkO ?_))
  refine jo_end (by kernel_rfl) ?_
  refine jx_then ?_
  refine jc_seq ?_
  refine jc_region ?_
  refine jo_f [(0, 0), (0, 0), (0, 0)] (by kernel_rfl) ?_
  refine toO (by kernel_rfl) (p_s 0 [2] (by kernel_rfl) (by kernel_rfl) (jkO ?_))
  refine jo_end (by kernel_rfl) ?_
  refine jx_then ?_
  refine jc_seq ?_
  refine jc_region ?_
  refine jo_f [(2, 0)] (by kernel_rfl) ?_
  refine toO (by kernel_rfl) (p_s 0 [1] (by kernel_rfl) (by kernel_rfl) (jkO ?_))
  refine jo_end (by kernel_rfl) ?_
  refine jx_then ?_
  refine jc_ret ?_
  obtain rfl := Option.some.inj h
  exact jx_ret [1] (.agg #[(.int .i16 a0.fAt), (.int .i8 a0.fPitch)]) [(b_2, b_2), (b_2, b_2)] rfl (by kernel_rfl) (by kernel_rfl) (fun w hm => ⟨rfl, hm.pick [] (by kernel_rfl) (by kernel_rfl)⟩)

/-! ### laws.toTune -/
noncomputable def laws_toTune.k_2 (xs_1 : List GNote) : Option ((List GNote)) := some xs_1
noncomputable def laws_toTune.l_5 (a0 : List GNote) : ((List GNote) × Int) → Option (((List GNote) × Int) ⊕ ((List GNote)))
  | (xs_3, i_4) => (if (decide (i_4 < (a0.length : Int))) = true then (ix a0 i_4).bind fun x_7 => (laws_toNote x_7).bind fun t_8 => (ix xs_3 i_4).bind fun x_9 => some (.inl ((xs_3.set i_4.toNat t_8), (w64 (i_4 + 1)))) else some (.inr xs_3))
noncomputable def laws_toTune (a0 : List GNote) : Option ((List GNote)) := (if 0 ≤ (a0.length : Int) ∧ (a0.length : Int) ≤ 35184372088832 then (loop (laws_toTune.l_5 a0) ((List.replicate (a0.length : Int).toNat (⟨0, 0⟩ : GNote)), 0)).bind fun t_6 => laws_toTune.k_2 t_6 else none)
set_option maxRecDepth 100000 in
theorem laws_toTune.calls (a0 : List GNote) (w : World) (r : (List GNote)) (a0_a : Option Addr) (a0_an : Nat) (a0_c : Nat) (a0_h : Rw w a0_a 2 encGNote a0) (a0_hn : a0.length = a0_an) (h : laws_toTune a0 = some r) :
    Calls Try.prog 25 #[(.slice a0_a a0_an a0_c)] w fun e w' => ∃ v, e = .returned v ∧ (∃ (o0 : Option Nat) (c0 : Nat) (s0 : List Value) (n0 : Nat), r.length = n0 ∧ (o0 ≠ none → n0 ≤ c0 ∧ s0.length = (c0 - n0) * 2) ∧ (o0 = none → r = [] ∧ c0 = 0) ∧ v = .slice (o0.map fun b => ⟨b, 0, none⟩) n0 c0 ∧ Mem w [] [⟨o0, 126, row encGNote r s0⟩] w') := by
  subst a0_hn
  rw [laws_toTune] at h
  refine enter (args := [(.slice a0_a a0.length a0_c)]) Try.func25 rfl Try.ntmps25 (by kernel_rfl) (L := []) (W := []) (Mem.start w) ?_
  refine jc_seq ?_
  refine jc_region ?_
  refine jo_f [(0, 0)] (by kernel_rfl) ?_
  refine jo_end (by kernel_rfl) ?_
  refine jx_then ?_
  refine jc_seq ?_
  refine jc_region ?_
  refine jo_f [(0, 0), (0, 0)] (by kernel_rfl) ?_
  obtain ⟨hg_88, h⟩ := gd h
  refine toO (by kernel_rfl) (p_mk 0 126 (a0.length : Int) 2 4 encGNote (⟨0, 0⟩ : GNote) (by kernel_rfl) (by kernel_rfl) hg_88.1 (by omega) (by kernel_rfl) (fun b_1 => jkO ?_))
  refine jo_f [(0, 0)] (by kernel_rfl) ?_
  refine jo_end (by kernel_rfl) ?_
  refine jx_then ?_
  refine jc_seq ?_
  refine jc_seq ?_
  refine jc_region ?_
  refine jo_f [(0, 0)] (by kernel_rfl) ?_
  refine jo_end (by kernel_rfl) ?_
  refine jx_then ?_
  refine jc_meet (fun (j : (List GNote)) => match j with | xs_1 => laws_toTune.k_2 xs_1 = some r ∧ (xs_1.length = (a0.length : Int).toNat)) (fun (j : (List GNote)) => match j with | xs_1 => [(2, [], (.slice none 0 0)), (3, [], (.slice (some ⟨b_1, 0, none⟩) ((a0.length : Int).toNat) ((a0.length : Int).toNat)))]) (fun (j : (List GNote)) => match j with | xs_1 => [⟨(some b_1), 126, row encGNote xs_1 []⟩]) ?_ ?_
  · refine jc_block ?_
    obtain ⟨t_6, ht_87, hr_79⟩ := bd h
    refine jc_loop (fun (s : (List GNote) × Int) (x : Unit) => match s, x with | ⟨xs_3, i_4⟩, _ => (xs_3.length = (a0.length : Int).toNat)) (fun (s : (List GNote) × Int) (x : Unit) => match s, x with | ⟨xs_3, i_4⟩, _ => [(0, [], (.slice a0_a a0.length a0_c)), (2, [], (.slice none 0 0)), (3, [], (.slice (some ⟨b_1, 0, none⟩) ((a0.length : Int).toNat) ((a0.length : Int).toNat))), (4, [], (.int .i64 i_4))]) (fun (s : (List GNote) × Int) (x : Unit) => match s, x with | ⟨xs_3, i_4⟩, _ => [⟨(some b_1), 126, row encGNote xs_3 []⟩]) ht_87 () List.length_replicate (by kernel_rfl) [0] (by kernel_rfl) (by kernel_rfl) ?_
    rintro ⟨xs_3, i_4⟩ _ y_80 hn_78 h
    rw [laws_toTune.l_5] at h
    refine jc_seq ?_
    refine jc_seq ?_
    refine jc_region ?_
    refine jo_f [(0, 0), (0, 0), (0, 0), (0, 0)] (by kernel_rfl) ?_
    refine jo_end (by kernel_rfl) ?_
    refine jx_then ?_
    refine jc_cond (decide (i_4 < (a0.length : Int))) (by kernel_rfl) (fun hc_82 => ?_) (fun hc_82 => ?_)
    · replace h := ifT hc_82 h
      refine jc_skip ?_
      refine jx_then ?_
      refine jc_seq ?_
      refine jc_block ?_
      refine jc_region ?_
      refine jo_f [(0, 0), (0, 0), (0, 0), (0, 0)] (by kernel_rfl) ?_
      obtain ⟨x_7, hx_83, h⟩ := bd h
      refine toO (by kernel_rfl) (p_idx 0 a0_a a0.length i_4 2 (by kernel_rfl) (by kernel_rfl) (ix_some hx_83).1 (ltn hx_83 rfl) (a0_h.sp hx_83) (jkO ?_))
      refine toO (by kernel_rfl) (p_ld 0 (aB a0_a) (aO a0_a + i_4.toNat * 2) true (encGNote x_7) (by kernel_rfl) (by kernel_rfl) (by kernel_rfl) (fun w hm => ((hm.exRow a0_h List.not_mem_nil).at hx_83)) (jkO ?_))
      obtain ⟨t_8, ht_84, h⟩ := bd h
      refine toO (by kernel_rfl) (p_call 0 81 #[(.agg #[(.int .i16 x_7.fAt), (.int .i8 x_7.fPitch)])] (by kernel_rfl) (by kernel_rfl) (fun w hm => laws_toNote.calls x_7 w _ ht_84) ?_)
      rintro w v w' hm ⟨rfl, hm'⟩
      refine ⟨_, hm.app hm', jkO ?_⟩
      clear hm hm'
      obtain ⟨x_9, hx_85, h⟩ := bd h
      refine toO (by kernel_rfl) (p_idx 0 (some ⟨b_1, 0, none⟩) ((a0.length : Int).toNat) i_4 2 (by kernel_rfl) (by kernel_rfl) (ix_some hx_85).1 (ltn hx_85 hn_78) rfl (jkO ?_))
      refine toO (by kernel_rfl) (p_str 0 0 b_1 126 encGNote xs_3 [] i_4 t_8 2 0 [(.int .i16 t_8.fAt), (.int .i8 t_8.fPitch)] (by kernel_rfl) (by kernel_rfl) (by kernel_rfl) encGNote_len hx_85 (by kernel_rfl) (by kernel_rfl) (jkO ?_))
      refine jo_end (by kernel_rfl) ?_
      refine jx_inn ?_
      refine jx_then ?_
      refine jc_region ?_
      refine jo_f [(0, 0), (0, 0), (0, 0)] (by kernel_rfl) ?_
      refine jo_end (by kernel_rfl) ?_
      exact jx_back ((xs_3.set i_4.toNat t_8), (w64 (i_4 + 1))) () (Option.some.inj h).symm (List.length_set.trans hn_78) [0] (by kernel_rfl) (by kernel_rfl) (by kernel_rfl)
    · replace h := ifF hc_82 h
      refine jc_exit ?_
      refine jx_thenx ?_
      refine jx_leave xs_3 (Option.some.inj h).symm (fun e_86 => ?_)
      subst e_86
      refine jx_ine ?_
      exact jx_meet xs_3 ⟨hr_79, hn_78⟩ (by kernel_rfl) [0] (by kernel_rfl) (by kernel_rfl)
  · rintro xs_1 ⟨h, hn_66⟩
    replace h : laws_toTune.k_2 xs_1 = some r := h
    rw [laws_toTune.k_2] at h
    refine jx_then ?_
    refine jc_seq ?_
    refine jc_region ?_
    refine jo_f [(0, 0), (0, 0)] (by kernel_rfl) ?_
    refine jo_end (by kernel_rfl) ?_
    refine jx_then ?_
    refine jc_ret ?_
    obtain rfl := Option.some.inj h
    exact jx_ret [] (.slice (some ⟨b_1, 0, none⟩) ((a0.length : Int).toNat) ((a0.length : Int).toNat)) [] rfl (by kernel_rfl) (by kernel_rfl) (fun w hm => ⟨(some b_1), ((a0.length : Int).toNat), [], ((a0.length : Int).toNat), hn_66, (fun _ => ⟨Nat.le_refl _, by simp⟩), (fun e => nomatch e), rfl, hm.pick [0] (by kernel_rfl) (by kernel_rfl)⟩)

/-! ### spec.l01Note -/
noncomputable def spec_l01Note (n0 : GNote) : Option (Bool) := (spec_l00In (w64 n0.fAt) 0 199).bind fun t_1 => (if t_1 = true then (spec_l00In (w64 n0.fPitch) 0 47).bind fun t_2 => some t_2 else some false)
set_option maxRecDepth 100000 in
theorem spec_l01Note.calls (n0 : GNote) (w : World) (r : Bool) (h : spec_l01Note n0 = some r) :
    Calls Try.prog 181 #[(.agg #[(.int .i16 n0.fAt), (.int .i8 n0.fPitch)])] w fun e w' => ∃ v, e = .returned v ∧ (v = (.bool r) ∧ Mem w [] [] w') := by
  rw [spec_l01Note] at h
  refine enter (args := [(.agg #[(.int .i16 n0.fAt), (.int .i8 n0.fPitch)])]) Try.func181 rfl Try.ntmps181 (by kernel_rfl) (L := []) (W := []) (Mem.start w) ?_
  refine jc_seq ?_
  refine jc_region ?_
  refine toO (by kernel_rfl) (p_a 0 [0] (by kernel_rfl) (fun b => by kernel_rfl) (fun b_1 => jkO ?_))
  refine jo_f [(0, 0)] (by kernel_rfl) ?_
  refine jo_end (by kernel_rfl) ?_
  refine jx_then ?_
  refine jc_seq ?_
  refine jc_region ?_
  refine jo_f [(0, 0), (0, 0), (0, 0)] (by kernel_rfl) ?_
  obtain ⟨t_1, ht_2, h⟩ := bd h
  refine toO (by kernel_rfl) (p_call 0 90 #[(.int .i64 (w64 n0.fAt)), (.int .i64 0), (.int .i64 199)] (by kernel_rfl) (by kernel_rfl) (fun w hm => spec_l00In.calls (w64 n0.fAt) 0 199 w _ ht_2) ?_)
  rintro w v w' hm ⟨rfl, hm'⟩
  refine ⟨_, hm.app hm', jkO ?_⟩
  clear hm hm'
  refine jo_f [(0, 0), (0, 1), (0, 1), (0, 1)] (by kernel_rfl) ?_
  refine jo_split 7 t_1 (by kernel_rfl) (fun hc_3 => ?_) (fun hc_3 => ?_)
  · replace h := ifT hc_3 h
    obtain ⟨t_2, ht_4, h⟩ := bd h
    refine toO (by kernel_rfl) (p_call 2 90 #[(.int .i64 (w64 n0.fPitch)), (.int .i64 0), (.int .i64 47)] (by kernel_rfl) (by kernel_rfl) (fun w hm => spec_l00In.calls (w64 n0.fPitch) 0 47 w _ ht_4) ?_)
    rintro w v w' hm ⟨rfl, hm'⟩
    refine ⟨_, hm.app hm', jkO ?_⟩
    clear hm hm'
    refine jo_f [(0, 4), (0, 0)] (by kernel_rfl) ?_
    refine jo_end (by kernel_rfl) ?_
    refine jx_then ?_
    refine jc_ret ?_
    obtain rfl := Option.some.inj h
    exact jx_ret [] (.bool t_2) [] rfl (by kernel_rfl) (by kernel_rfl) (fun w hm => ⟨rfl, hm.pick [] (by kernel_rfl) (by kernel_rfl)⟩)
  · replace h := ifF hc_3 h
    refine jo_f [(0, 3), (0, 5), (0, 0)] (by kernel_rfl) ?_
    refine jo_end (by kernel_rfl) ?_
    refine jx_then ?_
    refine jc_ret ?_
    obtain rfl := Option.some.inj h
    exact jx_ret [] (.bool false) [] rfl (by kernel_rfl) (by kernel_rfl) (fun w hm => ⟨rfl, hm.pick [] (by kernel_rfl) (by kernel_rfl)⟩)

/-! ### spec.l01Before -/
noncomputable def spec_l01Before (a0 : GNote) (b1 : GNote) : Option (Bool) := (if (decide (a0.fAt < b1.fAt)) = true then some true else some ((a0.fAt == b1.fAt) && (decide (a0.fPitch < b1.fPitch))))
set_option maxRecDepth 100000 in
theorem spec_l01Before.calls (a0 : GNote) (b1 : GNote) (w : World) (r : Bool) (h : spec_l01Before a0 b1 = some r) :
    Calls Try.prog 182 #[(.agg #[(.int .i16 a0.fAt), (.int .i8 a0.fPitch)]), (.agg #[(.int .i16 b1.fAt), (.int .i8 b1.fPitch)])] w fun e w' => ∃ v, e = .returned v ∧ (v = (.bool r) ∧ Mem w [] [] w') := by
  rw [spec_l01Before] at h
  refine enter (args := [(.agg #[(.int .i16 a0.fAt), (.int .i8 a0.fPitch)]), (.agg #[(.int .i16 b1.fAt), (.int .i8 b1.fPitch)])]) Try.func182 rfl Try.ntmps182 (by kernel_rfl) (L := []) (W := []) (Mem.start w) ?_
  refine jc_seq ?_
  refine jc_region ?_
  refine toO (by kernel_rfl) (p_a 0 [0] (by kernel_rfl) (fun b => by kernel_rfl) (fun b_1 => jkO ?_))
  refine toO (by kernel_rfl) (p_a 0 [0] (by kernel_rfl) (fun b => by kernel_rfl) (fun b_2 => jkO ?_))
  refine jo_f [(0, 0)] (by kernel_rfl) ?_
  refine jo_end (by kernel_rfl) ?_
  refine jx_then ?_
  refine jc_seq ?_
  refine jc_region ?_
  refine jo_f [(0, 0), (0, 0), (0, 0), (1, 0), (0, 0), (0, 0), (0, 1), (0, 1), (0, 1), (1, 1), (0, 1)] (by kernel_rfl) ?_
  refine jo_split 10 (decide (a0.fAt < b1.fAt)) (by kernel_rfl) (fun hc_3 => ?_) (fun hc_3 => ?_)
  · replace h := ifT hc_3 h
    refine jo_f [(0, 3), (0, 3), (0, 3), (0, 3), (0, 3), (0, 3), (0, 3), (0, 4), (0, 0)] (by kernel_rfl) ?_
    refine jo_end (by kernel_rfl) ?_
    refine jx_then ?_
    refine jc_ret ?_
    obtain rfl := Option.some.inj h
    exact jx_ret [] (.bool true) [] rfl (by kernel_rfl) (by kernel_rfl) (fun w hm => ⟨rfl, hm.pick [] (by kernel_rfl) (by kernel_rfl)⟩)
  · replace h := ifF hc_3 h
    refine jo_f [(0, 2), (0, 1), (0, 1), (0, 1), (1, 1), (0, 1), (0, 2), (0, 5), (0, 0)] (by kernel_rfl) ?_
    refine jo_end (by kernel_rfl) ?_
    refine jx_then ?_
    refine jc_ret ?_
    obtain rfl := Option.some.inj h
    exact jx_ret [] (.bool ((a0.fAt == b1.fAt) && (decide (a0.fPitch < b1.fPitch)))) [] rfl (by kernel_rfl) (by kernel_rfl) (fun w hm => ⟨rfl, hm.pick [] (by kernel_rfl) (by kernel_rfl)⟩)

/-! ### spec.l01Ok -/
noncomputable def spec_l01Ok.k_1 (t0 : List GNote) : Option (Bool) := some (decide ((t0.length : Int) ≤ 120))
noncomputable def spec_l01Ok.k_6 (i_2 : Int) (q_5 : Bool) : Option ((Int) ⊕ (Bool ⊕ Unit)) := (if q_5 = true then some (.inr (.inl false)) else some (.inl (w64 (i_2 + 1))))
noncomputable def spec_l01Ok.l_3 (t0 : List GNote) : Int → Option ((Int) ⊕ (Bool ⊕ Unit))
  | i_2 => (if (decide (i_2 < (t0.length : Int))) = true then (ix t0 i_2).bind fun x_7 => (spec_l01Note x_7).bind fun t_8 => (if (!t_8) = true then spec_l01Ok.k_6 i_2 true else (if (decide (i_2 > 0)) = true then (ix t0 (w64 (i_2 - 1))).bind fun x_9 => (ix t0 i_2).bind fun x_10 => (spec_l01Before x_9 x_10).bind fun t_11 => spec_l01Ok.k_6 i_2 (!t_11) else spec_l01Ok.k_6 i_2 false)) else some (.inr (.inr ())))
noncomputable def spec_l01Ok (t0 : List GNote) : Option (Bool) := (loop (spec_l01Ok.l_3 t0) 0).bind fun t_4 => match t_4 with | .inl p => some p | .inr p => spec_l01Ok.k_1 t0
set_option maxRecDepth 100000 in
theorem spec_l01Ok.calls (t0 : List GNote) (w : World) (r : Bool) (t0_a : Option Addr) (t0_an : Nat) (t0_c : Nat) (t0_h : Rw w t0_a 2 encGNote t0) (t0_hn : t0.length = t0_an) (h : spec_l01Ok t0 = some r) :
    Calls Try.prog 141 #[(.slice t0_a t0_an t0_c)] w fun e w' => ∃ v, e = .returned v ∧ (v = (.bool r) ∧ Mem w [] [] w') := by
  subst t0_hn
  rw [spec_l01Ok] at h
  refine enter (args := [(.slice t0_a t0.length t0_c)]) Try.func141 rfl Try.ntmps141 (by kernel_rfl) (L := []) (W := []) (Mem.start w) ?_
  refine jc_seq ?_
  refine jc_region ?_
  refine jo_f [(0, 0)] (by kernel_rfl) ?_
  refine jo_end (by kernel_rfl) ?_
  refine jx_then ?_
  refine jc_seq ?_
  refine jc_seq ?_
  refine jc_region ?_
  refine jo_f [(0, 0)] (by kernel_rfl) ?_
  refine jo_end (by kernel_rfl) ?_
  refine jx_then ?_
  refine jc_meet (fun (_ : Unit) => spec_l01Ok.k_1 t0 = some r) (fun (_ : Unit) => [(0, [], (.slice t0_a t0.length t0_c)), (2, [], (.bool false))]) (fun (_ : Unit) => []) ?_ ?_
  · refine jc_block ?_
    obtain ⟨t_4, ht_224, hr_203⟩ := bd h
    refine jc_loop (fun (s : Int) (x : Unit) => match s, x with | i_2, _ => True) (fun (s : Int) (x : Unit) => match s, x with | i_2, _ => [(0, [], (.slice t0_a t0.length t0_c)), (2, [], (.bool false)), (3, [], (.int .i64 i_2))]) (fun (s : Int) (x : Unit) => match s, x with | i_2, _ => []) ht_224 () trivial (by kernel_rfl) [] (by kernel_rfl) (by kernel_rfl) ?_
    rintro i_2 _ y_204 _ h
    rw [spec_l01Ok.l_3] at h
    refine jc_seq ?_
    refine jc_seq ?_
    refine jc_region ?_
    refine jo_f [(0, 0), (0, 0), (0, 0), (0, 0)] (by kernel_rfl) ?_
    refine jo_end (by kernel_rfl) ?_
    refine jx_then ?_
    refine jc_cond (decide (i_2 < (t0.length : Int))) (by kernel_rfl) (fun hc_206 => ?_) (fun hc_206 => ?_)
    · replace h := ifT hc_206 h
      refine jc_skip ?_
      refine jx_then ?_
      refine jc_seq ?_
      refine jc_block ?_
      refine jc_seq ?_
      refine jc_meet (fun (j : Bool) => match j with | q_5 => spec_l01Ok.k_6 i_2 q_5 = some y_204) (fun (j : Bool) => match j with | q_5 => [(0, [], (.slice t0_a t0.length t0_c)), (2, [], (.bool false)), (3, [], (.int .i64 i_2)), (32, [], (.bool q_5))]) (fun (j : Bool) => match j with | q_5 => []) ?_ ?_
      · refine jc_draw [] 23 (by kernel_rfl) (by kernel_rfl) ?_
        refine jd_f [⟨0, 0, 0⟩, ⟨1, 0, 0⟩] 21 (by kernel_rfl) (by kernel_rfl) (fun w h => h.pick [] (by kernel_rfl) (by kernel_rfl)) (by kernel_rfl) (by kernel_rfl) ?_
        obtain ⟨x_7, hx_216, h⟩ := bd h
        refine jd_v 2 0 (by kernel_rfl) (fun w h => h.pick [] (by kernel_rfl) (by kernel_rfl)) (by kernel_rfl) (by kernel_rfl) _ (fun w hm => idx_run (a := t0_a) (len := t0.length) (s := 2) (j := i_2) (by kernel_rfl) (ix_some hx_216).1 (ltn hx_216 rfl) (t0_h.sp hx_216)) ?_
        refine jd_v 3 0 (by kernel_rfl) (fun w h => h.pick [] (by kernel_rfl) (by kernel_rfl)) (by kernel_rfl) (by kernel_rfl) _ (fun w hm => ld_run (b := aB t0_a) (off := (aO t0_a + i_2.toNat * 2)) (s := 2) (agg := true) (vs := (encGNote x_7)) (by kernel_rfl) (by kernel_rfl) (.inl rfl) ((hm.exRow t0_h List.not_mem_nil).at hx_216)) ?_
        obtain ⟨t_8, ht_217, h⟩ := bd h
        refine toD 4 (by kernel_rfl) (p_call 0 181 #[(.agg #[(.int .i16 x_7.fAt), (.int .i8 x_7.fPitch)])] (by kernel_rfl) (by kernel_rfl) (fun w hm => spec_l01Note.calls x_7 w _ ht_217) ?_)
        rintro w v w' hm ⟨rfl, hm'⟩
        refine ⟨_, hm.app hm', jkD (fun w h => h.pick [] (by kernel_rfl) (by kernel_rfl)) ?_⟩
        clear hm hm'
        refine jd_f [⟨5, 0, 0⟩, ⟨6, 0, 0⟩, ⟨7, 0, 1⟩, ⟨8, 0, 1⟩] 14 (by kernel_rfl) (by kernel_rfl) (fun w h => h.pick [] (by kernel_rfl) (by kernel_rfl)) (by kernel_rfl) (by kernel_rfl) ?_
        refine jd_split 16 (!t_8) (by kernel_rfl) (fun hc_218 => ?_) (fun hc_218 => ?_)
        · replace h := ifT hc_218 h
          refine jd_f [⟨9, 0, 3⟩, ⟨10, 0, 3⟩, ⟨11, 0, 3⟩, ⟨12, 0, 3⟩, ⟨13, 0, 3⟩, ⟨14, 0, 3⟩, ⟨15, 0, 3⟩, ⟨16, 0, 3⟩, ⟨17, 0, 3⟩, ⟨18, 0, 3⟩, ⟨19, 0, 3⟩, ⟨20, 0, 3⟩, ⟨21, 0, 3⟩, ⟨22, 0, 4⟩] 0 (by kernel_rfl) (by kernel_rfl) (fun w h => h.pick [] (by kernel_rfl) (by kernel_rfl)) (by kernel_rfl) (by kernel_rfl) ?_
          refine jd_end (by kernel_rfl) ?_
          exact jx_meet true h (by kernel_rfl) [] (by kernel_rfl) (by kernel_rfl)
        · replace h := ifF hc_218 h
          refine jd_f [⟨9, 0, 2⟩, ⟨10, 0, 1⟩, ⟨11, 0, 1⟩, ⟨12, 0, 1⟩, ⟨15, 0, 1⟩, ⟨16, 0, 1⟩] 8 (by kernel_rfl) (by kernel_rfl) (fun w h => h.pick [] (by kernel_rfl) (by kernel_rfl)) (by kernel_rfl) (by kernel_rfl) ?_
          refine jd_split 19 (decide (i_2 > 0)) (by kernel_rfl) (fun hc_219 => ?_) (fun hc_219 => ?_)
          · replace h := ifT hc_219 h
            obtain ⟨x_9, hx_220, h⟩ := bd h
            refine jd_v 13 2 (by kernel_rfl) (fun w h => h.pick [] (by kernel_rfl) (by kernel_rfl)) (by kernel_rfl) (by kernel_rfl) _ (fun w hm => idx_run (a := t0_a) (len := t0.length) (s := 2) (j := (w64 (i_2 - 1))) (by kernel_rfl) (ix_some hx_220).1 (ltn hx_220 rfl) (t0_h.sp hx_220)) ?_
            refine jd_v 14 2 (by kernel_rfl) (fun w h => h.pick [] (by kernel_rfl) (by kernel_rfl)) (by kernel_rfl) (by kernel_rfl) _ (fun w hm => ld_run (b := aB t0_a) (off := (aO t0_a + (w64 (i_2 - 1)).toNat * 2)) (s := 2) (agg := true) (vs := (encGNote x_9)) (by kernel_rfl) (by kernel_rfl) (.inl rfl) ((hm.exRow t0_h List.not_mem_nil).at hx_220)) ?_
            obtain ⟨x_10, hx_221, h⟩ := bd h
            refine jd_v 17 2 (by kernel_rfl) (fun w h => h.pick [] (by kernel_rfl) (by kernel_rfl)) (by kernel_rfl) (by kernel_rfl) _ (fun w hm => idx_run (a := t0_a) (len := t0.length) (s := 2) (j := i_2) (by kernel_rfl) (ix_some hx_221).1 (ltn hx_221 rfl) (t0_h.sp hx_221)) ?_
            refine jd_v 18 2 (by kernel_rfl) (fun w h => h.pick [] (by kernel_rfl) (by kernel_rfl)) (by kernel_rfl) (by kernel_rfl) _ (fun w hm => ld_run (b := aB t0_a) (off := (aO t0_a + i_2.toNat * 2)) (s := 2) (agg := true) (vs := (encGNote x_10)) (by kernel_rfl) (by kernel_rfl) (.inl rfl) ((hm.exRow t0_h List.not_mem_nil).at hx_221)) ?_
            obtain ⟨t_11, ht_222, h⟩ := bd h
            refine toD 19 (by kernel_rfl) (p_call 2 182 #[(.agg #[(.int .i16 x_9.fAt), (.int .i8 x_9.fPitch)]), (.agg #[(.int .i16 x_10.fAt), (.int .i8 x_10.fPitch)])] (by kernel_rfl) (by kernel_rfl) (fun w hm => spec_l01Before.calls x_9 x_10 w _ ht_222) ?_)
            rintro w v w' hm ⟨rfl, hm'⟩
            refine ⟨_, hm.app hm', jkD (fun w h => h.pick [] (by kernel_rfl) (by kernel_rfl)) ?_⟩
            clear hm hm'
            refine jd_f [⟨20, 0, 2⟩, ⟨21, 0, 4⟩, ⟨22, 0, 5⟩] 0 (by kernel_rfl) (by kernel_rfl) (fun w h => h.pick [] (by kernel_rfl) (by kernel_rfl)) (by kernel_rfl) (by kernel_rfl) ?_
            refine jd_end (by kernel_rfl) ?_
            exact jx_meet (!t_11) h (by kernel_rfl) [] (by kernel_rfl) (by kernel_rfl)
          · replace h := ifF hc_219 h
            refine jd_f [⟨13, 0, 3⟩, ⟨14, 0, 3⟩, ⟨17, 0, 3⟩, ⟨18, 0, 3⟩, ⟨19, 0, 3⟩, ⟨20, 0, 3⟩, ⟨21, 0, 5⟩, ⟨22, 0, 5⟩] 0 (by kernel_rfl) (by kernel_rfl) (fun w h => h.pick [] (by kernel_rfl) (by kernel_rfl)) (by kernel_rfl) (by kernel_rfl) ?_
            refine jd_end (by kernel_rfl) ?_
            exact jx_meet false h (by kernel_rfl) [] (by kernel_rfl) (by kernel_rfl)
      · rintro q_5 h
        replace h : spec_l01Ok.k_6 i_2 q_5 = some y_204 := h
        rw [spec_l01Ok.k_6] at h
        refine jx_then ?_
        refine jc_cond q_5 (by kernel_rfl) (fun hc_214 => ?_) (fun hc_214 => ?_)
        · replace h := ifT hc_214 h
          refine jc_seq ?_
          refine jc_region ?_
          refine jo_f [(0, 0)] (by kernel_rfl) ?_
          refine jo_end (by kernel_rfl) ?_
          refine jx_then ?_
          refine jc_ret ?_
          refine jx_inr ?_
          refine jx_thenr ?_
          refine jx_leaver (.inl false) (Option.some.inj h).symm (fun e_215 => ?_)
          subst e_215
          refine jx_inr ?_
          refine jx_thenr ?_
          refine jx_thenr ?_
          obtain rfl := Option.some.inj hr_203
          exact jx_ret [] (.bool false) [] rfl (by kernel_rfl) (by kernel_rfl) (fun w hm => ⟨rfl, hm.pick [] (by kernel_rfl) (by kernel_rfl)⟩)
        · replace h := ifF hc_214 h
          refine jc_skip ?_
          refine jx_inn ?_
          refine jx_then ?_
          refine jc_region ?_
          refine jo_f [(0, 0), (0, 0), (0, 0)] (by kernel_rfl) ?_
          refine jo_end (by kernel_rfl) ?_
          exact jx_back (w64 (i_2 + 1)) () (Option.some.inj h).symm trivial [] (by kernel_rfl) (by kernel_rfl) (by kernel_rfl)
    · replace h := ifF hc_206 h
      refine jc_exit ?_
      refine jx_thenx ?_
      refine jx_leave (.inr ()) (Option.some.inj h).symm (fun e_223 => ?_)
      subst e_223
      refine jx_ine ?_
      exact jx_meet () hr_203 (by kernel_rfl) [] (by kernel_rfl) (by kernel_rfl)
  · rintro _ h
    replace h : spec_l01Ok.k_1 t0 = some r := h
    rw [spec_l01Ok.k_1] at h
    refine jx_then ?_
    refine jc_seq ?_
    refine jc_region ?_
    refine jo_f [(0, 0), (0, 0), (0, 0), (0, 0)] (by kernel_rfl) ?_
    refine jo_end (by kernel_rfl) ?_
    refine jx_then ?_
    refine jc_ret ?_
    obtain rfl := Option.some.inj h
    exact jx_ret [] (.bool (decide ((t0.length : Int) ≤ 120))) [] rfl (by kernel_rfl) (by kernel_rfl) (fun w hm => ⟨rfl, hm.pick [] (by kernel_rfl) (by kernel_rfl)⟩)

/-! ### spec.l07Signed -/
noncomputable def spec_l07Signed.k_2 (xs_1 : List Int) : Option ((List Int)) := some xs_1
noncomputable def spec_l07Signed.l_5 (most0 : Int) : ((List Int) × Int) → Option (((List Int) × Int) ⊕ ((List Int)))
  | (xs_3, i_4) => (if (decide (i_4 ≤ most0)) = true then (if xs_3.length + [(w8 (0 - i_4)), i_4].length ≤ 4294967296 then some (.inl ((xs_3 ++ [(w8 (0 - i_4)), i_4]), (w8 (i_4 + 1)))) else none) else some (.inr xs_3))
noncomputable def spec_l07Signed (most0 : Int) : Option ((List Int)) := (loop (spec_l07Signed.l_5 most0) ([0], 1)).bind fun t_6 => spec_l07Signed.k_2 t_6
set_option maxRecDepth 100000 in
theorem spec_l07Signed.calls (most0 : Int) (w : World) (r : (List Int)) (h : spec_l07Signed most0 = some r) :
    Calls Try.prog 147 #[(.int .i8 most0)] w fun e w' => ∃ v, e = .returned v ∧ (∃ (o0 : Option Nat) (c0 : Nat) (s0 : List Value) (n0 : Nat), r.length = n0 ∧ (o0 ≠ none → n0 ≤ c0 ∧ s0.length = (c0 - n0) * 1) ∧ (o0 = none → r = [] ∧ c0 = 0) ∧ v = .slice (o0.map fun b => ⟨b, 0, none⟩) n0 c0 ∧ Mem w [] [⟨o0, 124, row encI8 r s0⟩] w') := by
  rw [spec_l07Signed] at h
  refine enter (args := [(.int .i8 most0)]) Try.func147 rfl Try.ntmps147 (by kernel_rfl) (L := []) (W := []) (Mem.start w) ?_
  refine jc_seq ?_
  refine jc_region ?_
  refine jo_f [(0, 0)] (by kernel_rfl) ?_
  refine jo_end (by kernel_rfl) ?_
  refine jx_then ?_
  refine jc_seq ?_
  refine jc_region ?_
  refine toO (by kernel_rfl) (p_a 0 [0] (by kernel_rfl) (fun b => by kernel_rfl) (fun b_1 => jkO ?_))
  refine jo_f [(0, 0)] (by kernel_rfl) ?_
  refine jo_end (by kernel_rfl) ?_
  refine jx_then ?_
  refine jc_seq ?_
  refine jc_seq ?_
  refine jc_region ?_
  refine jo_f [(0, 0)] (by kernel_rfl) ?_
  refine jo_end (by kernel_rfl) ?_
  refine jx_then ?_
  refine jc_meet (fun (j : (List Int) × (Option Nat) × Nat × (List Value) × Nat) => match j with | ⟨xs_1, o_137, cap_138, sp_139, n_140⟩ => spec_l07Signed.k_2 xs_1 = some r ∧ (xs_1.length = n_140) ∧ ((o_137 ≠ none → n_140 ≤ cap_138 ∧ sp_139.length = (cap_138 - n_140) * 1)) ∧ ((o_137 = none → xs_1 = [] ∧ cap_138 = 0))) (fun (j : (List Int) × (Option Nat) × Nat × (List Value) × Nat) => match j with | ⟨xs_1, o_137, cap_138, sp_139, n_140⟩ => [(2, [], (.slice none 0 0)), (3, [], (.slice (o_137.map fun b => ⟨b, 0, none⟩) n_140 cap_138))]) (fun (j : (List Int) × (Option Nat) × Nat × (List Value) × Nat) => match j with | ⟨xs_1, o_137, cap_138, sp_139, n_140⟩ => [⟨o_137, 124, row encI8 xs_1 sp_139⟩]) ?_ ?_
  · refine jc_block ?_
    obtain ⟨t_6, ht_185, hr_173⟩ := bd h
    refine jc_loop (fun (s : (List Int) × Int) (x : (Option Nat) × Nat × (List Value) × Nat) => match s, x with | ⟨xs_3, i_4⟩, ⟨o_167, cap_168, sp_169, n_170⟩ => (xs_3.length = n_170) ∧ ((o_167 ≠ none → n_170 ≤ cap_168 ∧ sp_169.length = (cap_168 - n_170) * 1)) ∧ ((o_167 = none → xs_3 = [] ∧ cap_168 = 0))) (fun (s : (List Int) × Int) (x : (Option Nat) × Nat × (List Value) × Nat) => match s, x with | ⟨xs_3, i_4⟩, ⟨o_167, cap_168, sp_169, n_170⟩ => [(0, [], (.int .i8 most0)), (2, [], (.slice none 0 0)), (3, [], (.slice (o_167.map fun b => ⟨b, 0, none⟩) n_170 cap_168)), (4, [], (.int .i8 i_4))]) (fun (s : (List Int) × Int) (x : (Option Nat) × Nat × (List Value) × Nat) => match s, x with | ⟨xs_3, i_4⟩, ⟨o_167, cap_168, sp_169, n_170⟩ => [⟨o_167, 124, row encI8 xs_3 sp_169⟩]) ht_185 ⟨(some b_1), 1, [], 1⟩ ⟨rfl, (fun _ => ⟨Nat.le_refl _, by simp⟩), (fun e => nomatch e)⟩ (by kernel_rfl) [0] (by kernel_rfl) (by kernel_rfl) ?_
    rintro ⟨xs_3, i_4⟩ ⟨o_167, cap_168, sp_169, n_170⟩ y_174 ⟨rfl, hs_171, ho_172⟩ h
    rw [spec_l07Signed.l_5] at h
    refine jc_seq ?_
    refine jc_seq ?_
    refine jc_region ?_
    refine jo_f [(0, 0), (0, 0), (0, 0)] (by kernel_rfl) ?_
    refine jo_end (by kernel_rfl) ?_
    refine jx_then ?_
    refine jc_cond (decide (i_4 ≤ most0)) (by kernel_rfl) (fun hc_176 => ?_) (fun hc_176 => ?_)
    · replace h := ifT hc_176 h
      refine jc_skip ?_
      refine jx_then ?_
      refine jc_seq ?_
      refine jc_block ?_
      refine jc_region ?_
      refine jo_f [(0, 0), (0, 0), (0, 0), (0, 0)] (by kernel_rfl) ?_
      refine toO (by kernel_rfl) (p_a 0 [0] (by kernel_rfl) (fun b => by kernel_rfl) (fun b_177 => jkO ?_))
      obtain ⟨hg_178, h⟩ := gd h
      refine toO (by kernel_rfl) (p_apn 0 0 o_167 124 xs_3.length 2 cap_168 1 1 (some ⟨b_177, 0, none⟩) encI8 xs_3 [(w8 (0 - i_4)), i_4] sp_169 (.int .i8 0) rfl rfl (by kernel_rfl) (by kernel_rfl) (by kernel_rfl) encI8_len encI8_cell hs_171 ho_172 (fun w hm => (hm.ownRow (hh := 1) (o := (some b_177)) (T := 124) (enc := encI8) (xs := [(w8 (0 - i_4)), i_4]) (sp := []) (by kernel_rfl) (fun e => nomatch e) encI8_len)) hg_178 (by kernel_rfl) (by kernel_rfl) (fun o_179 cap_180 sp_181 hs_182 ho_183 => jkO ?_))
      refine jo_f [(0, 0)] (by kernel_rfl) ?_
      refine jo_end (by kernel_rfl) ?_
      refine jx_inn ?_
      refine jx_then ?_
      refine jc_region ?_
      refine jo_f [(0, 0), (0, 0), (0, 0)] (by kernel_rfl) ?_
      refine jo_end (by kernel_rfl) ?_
      exact jx_back ((xs_3 ++ [(w8 (0 - i_4)), i_4]), (w8 (i_4 + 1))) ⟨o_179, cap_180, sp_181, (xs_3 ++ [(w8 (0 - i_4)), i_4]).length⟩ (Option.some.inj h).symm ⟨rfl, hs_182, ho_183⟩ [0] (by kernel_rfl) (by kernel_rfl) (by kernel_rfl)
    · replace h := ifF hc_176 h
      refine jc_exit ?_
      refine jx_thenx ?_
      refine jx_leave xs_3 (Option.some.inj h).symm (fun e_184 => ?_)
      subst e_184
      refine jx_ine ?_
      exact jx_meet ⟨xs_3, o_167, cap_168, sp_169, xs_3.length⟩ ⟨hr_173, rfl, hs_171, ho_172⟩ (by kernel_rfl) [0] (by kernel_rfl) (by kernel_rfl)
  · rintro ⟨xs_1, o_137, cap_138, sp_139, n_140⟩ ⟨h, rfl, hs_141, ho_142⟩
    replace h : spec_l07Signed.k_2 xs_1 = some r := h
    rw [spec_l07Signed.k_2] at h
    refine jx_then ?_
    refine jc_seq ?_
    refine jc_region ?_
    refine jo_f [(0, 0), (0, 0)] (by kernel_rfl) ?_
    refine jo_end (by kernel_rfl) ?_
    refine jx_then ?_
    refine jc_ret ?_
    obtain rfl := Option.some.inj h
    exact jx_ret [] (.slice (o_137.map fun b => ⟨b, 0, none⟩) xs_1.length cap_138) [] rfl (by kernel_rfl) (by kernel_rfl) (fun w hm => ⟨o_137, cap_138, sp_139, xs_1.length, rfl, hs_141, ho_142, rfl, hm.pick [0] (by kernel_rfl) (by kernel_rfl)⟩)

/-! ### spec.l07For -/
noncomputable def spec_l07For.k_4 (xs_3 : List GChoice) : Option ((List GChoice)) := (if xs_3.length + [(⟨true, 0, 0, 0⟩ : GChoice)].length ≤ 4294967296 then some (xs_3 ++ [(⟨true, 0, 0, 0⟩ : GChoice)]) else none)
noncomputable def spec_l07For.k_12 (i_6 : Int) (xs_11 : List GChoice) : Option (((List GChoice) × Int) ⊕ ((List GChoice))) := some (.inl (xs_11, (w64 (i_6 + 1))))
noncomputable def spec_l07For.k_18 (i_14 : Int) (xs_17 : List GChoice) : Option (((List GChoice) × Int) ⊕ ((List GChoice))) := some (.inl (xs_17, (w64 (i_14 + 1))))
noncomputable def spec_l07For.l_21 (f0 : GFrame) (n1 : GNote) (t_1 : (List Int)) (t_2 : (List Int)) (i_6 : Int) (i_14 : Int) : ((List GChoice) × Int) → Option (((List GChoice) × Int) ⊕ ((List GChoice)))
  | (xs_19, i_20) => (if (decide (i_20 < (f0.fHammers.length : Int))) = true then (ix f0.fHammers i_20).bind fun x_23 => (ix t_2 i_14).bind fun x_24 => (if (x_23.fPitch == (w8 (n1.fPitch + (w8 (12 * x_24))))) = true then (ix t_1 i_6).bind fun x_25 => (ix t_2 i_14).bind fun x_26 => (if xs_19.length + [(⟨false, x_25, x_26, (w8 i_20)⟩ : GChoice)].length ≤ 4294967296 then some (.inl ((xs_19 ++ [(⟨false, x_25, x_26, (w8 i_20)⟩ : GChoice)]), (w64 (i_20 + 1)))) else none) else some (.inl (xs_19, (w64 (i_20 + 1))))) else some (.inr xs_19))
noncomputable def spec_l07For.l_15 (f0 : GFrame) (n1 : GNote) (t_1 : (List Int)) (t_2 : (List Int)) (i_6 : Int) : ((List GChoice) × Int) → Option (((List GChoice) × Int) ⊕ ((List GChoice)))
  | (xs_13, i_14) => (if (decide (i_14 < (t_2.length : Int))) = true then (loop (spec_l07For.l_21 f0 n1 t_1 t_2 i_6 i_14) (xs_13, 0)).bind fun t_22 => spec_l07For.k_18 i_14 t_22 else some (.inr xs_13))
noncomputable def spec_l07For.l_7 (f0 : GFrame) (n1 : GNote) (t_1 : (List Int)) (t_2 : (List Int)) : ((List GChoice) × Int) → Option (((List GChoice) × Int) ⊕ ((List GChoice)))
  | (xs_5, i_6) => (if (decide (i_6 < (t_1.length : Int))) = true then (ix t_1 i_6).bind fun x_9 => (spec_l00In (w64 ((w64 n1.fAt) + (w64 x_9))) 0 (w64 ((w64 f0.fSteps) - 1))).bind fun t_10 => (if (!t_10) = true then some (.inl (xs_5, (w64 (i_6 + 1)))) else (loop (spec_l07For.l_15 f0 n1 t_1 t_2 i_6) (xs_5, 0)).bind fun t_16 => spec_l07For.k_12 i_6 t_16) else some (.inr xs_5))
noncomputable def spec_l07For (f0 : GFrame) (n1 : GNote) : Option ((List GChoice)) := (spec_l07Signed 3).bind fun t_1 => (spec_l07Signed 1).bind fun t_2 => (loop (spec_l07For.l_7 f0 n1 t_1 t_2) (([] : List GChoice), 0)).bind fun t_8 => spec_l07For.k_4 t_8
set_option maxRecDepth 100000 in
theorem spec_l07For.calls (f0 : GFrame) (n1 : GNote) (w : World) (r : (List GChoice)) (f0_fHammers_a : Option Addr) (f0_fHammers_an : Nat) (f0_fHammers_c : Nat) (f0_fHammers_h : Rw w f0_fHammers_a 2 encGHammer f0.fHammers) (f0_fHammers_hn : f0.fHammers.length = f0_fHammers_an) (f0_b : Nat) (hm0 : Mem w (bs [some f0_b]) [⟨some f0_b, 38, [(.int .i16 f0.fSteps), (.slice f0_fHammers_a f0_fHammers_an f0_fHammers_c)]⟩] w) (f0_fHammers_ha : f0.fHammers ≠ [] → aB f0_fHammers_a ∉ bs [some f0_b]) (h : spec_l07For f0 n1 = some r) :
    Calls Try.prog 95 #[(.pointer (some ⟨f0_b, 0, none⟩)), (.agg #[(.int .i16 n1.fAt), (.int .i8 n1.fPitch)])] w fun e w' => ∃ v, e = .returned v ∧ (∃ (o0 : Option Nat) (c0 : Nat) (s0 : List Value) (n0 : Nat), r.length = n0 ∧ (o0 ≠ none → n0 ≤ c0 ∧ s0.length = (c0 - n0) * 4) ∧ (o0 = none → r = [] ∧ c0 = 0) ∧ v = .slice (o0.map fun b => ⟨b, 0, none⟩) n0 c0 ∧ Mem w (bs [some f0_b]) [⟨some f0_b, 38, [(.int .i16 f0.fSteps), (.slice f0_fHammers_a f0_fHammers_an f0_fHammers_c)]⟩, ⟨o0, 130, row encGChoice r s0⟩] w') := by
  subst f0_fHammers_hn
  rw [spec_l07For] at h
  refine enter (args := [(.pointer (some ⟨f0_b, 0, none⟩)), (.agg #[(.int .i16 n1.fAt), (.int .i8 n1.fPitch)])]) Try.func95 rfl Try.ntmps95 (by kernel_rfl) (L := [⟨some f0_b, 38, [(.int .i16 f0.fSteps), (.slice f0_fHammers_a f0.fHammers.length f0_fHammers_c)]⟩]) (W := bs [some f0_b]) hm0 ?_
  refine jc_seq ?_
  refine jc_region ?_
  refine toO (by kernel_rfl) (p_a 0 [0] (by kernel_rfl) (fun b => by kernel_rfl) (fun b_1 => jkO ?_))
  refine jo_f [(0, 0)] (by kernel_rfl) ?_
  refine jo_end (by kernel_rfl) ?_
  refine jx_then ?_
  refine jc_seq ?_
  refine jc_region ?_
  refine toO (by kernel_rfl) (p_a 0 [0] (by kernel_rfl) (fun b => by kernel_rfl) (fun b_2 => jkO ?_))
  refine jo_f [(0, 0)] (by kernel_rfl) ?_
  refine jo_end (by kernel_rfl) ?_
  refine jx_then ?_
  refine jc_seq ?_
  refine jc_region ?_
  obtain ⟨t_1, ht_3, h⟩ := bd h
  refine toO (by kernel_rfl) (p_call 0 147 #[(.int .i8 3)] (by kernel_rfl) (by kernel_rfl) (fun w hm => spec_l07Signed.calls 3 w _ ht_3) ?_)
  rintro w v w' hm ⟨o_4, cap_5, sp_6, _, rfl, hs_7, ho_8, rfl, hm'⟩
  refine ⟨_, hm.app hm', jkO ?_⟩
  clear hm hm'
  refine jo_f [(0, 0)] (by kernel_rfl) ?_
  refine jo_end (by kernel_rfl) ?_
  refine jx_then ?_
  refine jc_seq ?_
  refine jc_region ?_
  obtain ⟨t_2, ht_9, h⟩ := bd h
  refine toO (by kernel_rfl) (p_call 0 147 #[(.int .i8 1)] (by kernel_rfl) (by kernel_rfl) (fun w hm => spec_l07Signed.calls 1 w _ ht_9) ?_)
  rintro w v w' hm ⟨o_10, cap_11, sp_12, _, rfl, hs_13, ho_14, rfl, hm'⟩
  refine ⟨_, hm.app hm', jkO ?_⟩
  clear hm hm'
  refine jo_f [(0, 0)] (by kernel_rfl) ?_
  refine jo_end (by kernel_rfl) ?_
  refine jx_then ?_
  refine jc_seq ?_
  refine jc_seq ?_
  refine jc_region ?_
  refine jo_f [(0, 0)] (by kernel_rfl) ?_
  refine jo_end (by kernel_rfl) ?_
  refine jx_then ?_
  refine jc_meet (fun (j : (List GChoice) × (Option Nat) × Nat × (List Value) × Nat) => match j with | ⟨xs_3, o_8151, cap_8152, sp_8153, n_8154⟩ => spec_l07For.k_4 xs_3 = some r ∧ (xs_3.length = n_8154) ∧ ((o_8151 ≠ none → n_8154 ≤ cap_8152 ∧ sp_8153.length = (cap_8152 - n_8154) * 4)) ∧ ((o_8151 = none → xs_3 = [] ∧ cap_8152 = 0))) (fun (j : (List GChoice) × (Option Nat) × Nat × (List Value) × Nat) => match j with | ⟨xs_3, o_8151, cap_8152, sp_8153, n_8154⟩ => [(4, [], (.slice none 0 0)), (5, [], (.slice (o_8151.map fun b => ⟨b, 0, none⟩) n_8154 cap_8152))]) (fun (j : (List GChoice) × (Option Nat) × Nat × (List Value) × Nat) => match j with | ⟨xs_3, o_8151, cap_8152, sp_8153, n_8154⟩ => [⟨some f0_b, 38, [(.int .i16 f0.fSteps), (.slice f0_fHammers_a f0.fHammers.length f0_fHammers_c)]⟩, ⟨some b_1, 126, [(.int .i16 n1.fAt), (.int .i8 n1.fPitch)]⟩, ⟨o_8151, 130, row encGChoice xs_3 sp_8153⟩, ⟨o_4, 124, row encI8 t_1 sp_6⟩, ⟨o_10, 124, row encI8 t_2 sp_12⟩]) ?_ ?_
  · refine jc_block ?_
    obtain ⟨t_8, ht_10873, hr_9972⟩ := bd h
    refine jc_loop (fun (s : (List GChoice) × Int) (x : (Option Nat) × Nat × (List Value) × Nat) => match s, x with | ⟨xs_5, i_6⟩, ⟨o_9966, cap_9967, sp_9968, n_9969⟩ => (xs_5.length = n_9969) ∧ ((o_9966 ≠ none → n_9969 ≤ cap_9967 ∧ sp_9968.length = (cap_9967 - n_9969) * 4)) ∧ ((o_9966 = none → xs_5 = [] ∧ cap_9967 = 0))) (fun (s : (List GChoice) × Int) (x : (Option Nat) × Nat × (List Value) × Nat) => match s, x with | ⟨xs_5, i_6⟩, ⟨o_9966, cap_9967, sp_9968, n_9969⟩ => [(0, [], (.pointer (some ⟨f0_b, 0, none⟩))), (3, [], (.pointer (some ⟨b_1, 0, none⟩))), (4, [], (.slice none 0 0)), (5, [], (.slice (o_9966.map fun b => ⟨b, 0, none⟩) n_9969 cap_9967)), (6, [], (.slice (o_4.map fun b => ⟨b, 0, none⟩) t_1.length cap_5)), (7, [], (.slice (o_10.map fun b => ⟨b, 0, none⟩) t_2.length cap_11)), (8, [], (.int .i64 i_6))]) (fun (s : (List GChoice) × Int) (x : (Option Nat) × Nat × (List Value) × Nat) => match s, x with | ⟨xs_5, i_6⟩, ⟨o_9966, cap_9967, sp_9968, n_9969⟩ => [⟨some f0_b, 38, [(.int .i16 f0.fSteps), (.slice f0_fHammers_a f0.fHammers.length f0_fHammers_c)]⟩, ⟨some b_1, 126, [(.int .i16 n1.fAt), (.int .i8 n1.fPitch)]⟩, ⟨o_9966, 130, row encGChoice xs_5 sp_9968⟩, ⟨o_4, 124, row encI8 t_1 sp_6⟩, ⟨o_10, 124, row encI8 t_2 sp_12⟩]) ht_10873 ⟨(some b_2), 0, [], 0⟩ ⟨rfl, (fun _ => ⟨Nat.le_refl _, by simp⟩), (fun e => nomatch e)⟩ (by kernel_rfl) [0, 1, 2, 3, 4] (by kernel_rfl) (by kernel_rfl) ?_
    rintro ⟨xs_5, i_6⟩ ⟨o_9966, cap_9967, sp_9968, n_9969⟩ y_9973 ⟨rfl, hs_9970, ho_9971⟩ h
    rw [spec_l07For.l_7] at h
    refine jc_seq ?_
    refine jc_seq ?_
    refine jc_region ?_
    refine jo_f [(0, 0), (0, 0), (0, 0), (0, 0)] (by kernel_rfl) ?_
    refine jo_end (by kernel_rfl) ?_
    refine jx_then ?_
    refine jc_cond (decide (i_6 < (t_1.length : Int))) (by kernel_rfl) (fun hc_9975 => ?_) (fun hc_9975 => ?_)
    · replace h := ifT hc_9975 h
      refine jc_skip ?_
      refine jx_then ?_
      refine jc_seq ?_
      refine jc_block ?_
      refine jc_seq ?_
      refine jc_seq ?_
      refine jc_draw [⟨some f0_b, 38, [(.int .i16 f0.fSteps), (.slice f0_fHammers_a f0.fHammers.length f0_fHammers_c)]⟩, ⟨some b_1, 126, [(.int .i16 n1.fAt), (.int .i8 n1.fPitch)]⟩, ⟨o_9966, 130, row encGChoice xs_5 sp_9968⟩, ⟨o_4, 124, row encI8 t_1 sp_6⟩, ⟨o_10, 124, row encI8 t_2 sp_12⟩] 17 (by kernel_rfl) (by kernel_rfl) ?_
      refine jd_f [⟨0, 0, 0⟩, ⟨1, 1, 0⟩, ⟨2, 0, 0⟩, ⟨3, 0, 0⟩, ⟨4, 0, 0⟩, ⟨9, 0, 0⟩, ⟨10, 0, 0⟩, ⟨11, 0, 0⟩, ⟨12, 0, 0⟩, ⟨13, 0, 0⟩, ⟨14, 0, 0⟩] 6 (by kernel_rfl) (by kernel_rfl) (fun w h => h.pick [0, 1, 2, 3, 4] (by kernel_rfl) (by kernel_rfl)) (by kernel_rfl) (by kernel_rfl) ?_
      obtain ⟨x_9, hx_9979, h⟩ := bd h
      refine jd_v 5 0 (by kernel_rfl) (fun w h => h.pick [0, 1, 2, 3, 4] (by kernel_rfl) (by kernel_rfl)) (by kernel_rfl) (by kernel_rfl) _ (fun w hm => idx_run (a := (o_4.map fun b => ⟨b, 0, none⟩)) (len := t_1.length) (s := 1) (j := i_6) (by kernel_rfl) (ix_some hx_9979).1 (ltn hx_9979 rfl) (spo ho_8 hx_9979)) ?_
      refine jd_v 6 0 (by kernel_rfl) (fun w h => h.pick [0, 1, 2, 3, 4] (by kernel_rfl) (by kernel_rfl)) (by kernel_rfl) (by kernel_rfl) _ (fun w hm => ld_run (b := aB (o_4.map fun b => ⟨b, 0, none⟩)) (off := (aO (o_4.map fun b => ⟨b, 0, none⟩) + i_6.toNat * 1)) (s := 1) (agg := false) (vs := (encI8 x_9)) (by kernel_rfl) (by kernel_rfl) (.inr rfl) ((hm.ownRow (hh := 3) (o := o_4) (T := 124) (enc := encI8) (xs := t_1) (sp := sp_6) (by kernel_rfl) (fun e => (ho_8 e).1) encI8_len).at hx_9979)) ?_
      refine jd_f [⟨7, 0, 0⟩, ⟨8, 0, 0⟩] 2 (by kernel_rfl) (by kernel_rfl) (fun w h => h.pick [0, 1, 2, 3, 4] (by kernel_rfl) (by kernel_rfl)) (by kernel_rfl) (by kernel_rfl) ?_
      obtain ⟨t_10, ht_9980, h⟩ := bd h
      refine toD 15 (by kernel_rfl) (p_call 0 90 #[(.int .i64 (w64 ((w64 n1.fAt) + (w64 x_9)))), (.int .i64 0), (.int .i64 (w64 ((w64 f0.fSteps) - 1)))] (by kernel_rfl) (by kernel_rfl) (fun w hm => spec_l00In.calls (w64 ((w64 n1.fAt) + (w64 x_9))) 0 (w64 ((w64 f0.fSteps) - 1)) w _ ht_9980) ?_)
      rintro w v w' hm ⟨rfl, hm'⟩
      refine ⟨_, hm.app hm', jkD (fun w h => h.pick [0, 1, 2, 3, 4] (by kernel_rfl) (by kernel_rfl)) ?_⟩
      clear hm hm'
      refine jd_f [⟨16, 0, 0⟩] 0 (by kernel_rfl) (by kernel_rfl) (fun w h => h.pick [0, 1, 2, 3, 4] (by kernel_rfl) (by kernel_rfl)) (by kernel_rfl) (by kernel_rfl) ?_
      refine jd_end (by kernel_rfl) ?_
      refine jx_then ?_
      refine jc_cond (!t_10) (by kernel_rfl) (fun hc_9981 => ?_) (fun hc_9981 => ?_)
      · replace h := ifT hc_9981 h
        refine jc_exit ?_
        refine jx_thenx ?_
        refine jx_ine ?_
        refine jx_then ?_
        refine jc_region ?_
        refine jo_f [(0, 0), (0, 0), (0, 0)] (by kernel_rfl) ?_
        refine jo_end (by kernel_rfl) ?_
        exact jx_back (xs_5, (w64 (i_6 + 1))) ⟨o_9966, cap_9967, sp_9968, xs_5.length⟩ (Option.some.inj h).symm ⟨rfl, hs_9970, ho_9971⟩ [0, 1, 2, 3, 4] (by kernel_rfl) (by kernel_rfl) (by kernel_rfl)
      · replace h := ifF hc_9981 h
        refine jc_skip ?_
        refine jx_then ?_
        refine jc_seq ?_
        refine jc_region ?_
        refine jo_f [(0, 0)] (by kernel_rfl) ?_
        refine jo_end (by kernel_rfl) ?_
        refine jx_then ?_
        refine jc_meet (fun (j : (List GChoice) × (Option Nat) × Nat × (List Value) × Nat) => match j with | ⟨xs_11, o_10424, cap_10425, sp_10426, n_10427⟩ => spec_l07For.k_12 i_6 xs_11 = some y_9973 ∧ (xs_11.length = n_10427) ∧ ((o_10424 ≠ none → n_10427 ≤ cap_10425 ∧ sp_10426.length = (cap_10425 - n_10427) * 4)) ∧ ((o_10424 = none → xs_11 = [] ∧ cap_10425 = 0))) (fun (j : (List GChoice) × (Option Nat) × Nat × (List Value) × Nat) => match j with | ⟨xs_11, o_10424, cap_10425, sp_10426, n_10427⟩ => [(0, [], (.pointer (some ⟨f0_b, 0, none⟩))), (3, [], (.pointer (some ⟨b_1, 0, none⟩))), (4, [], (.slice none 0 0)), (5, [], (.slice (o_10424.map fun b => ⟨b, 0, none⟩) n_10427 cap_10425)), (6, [], (.slice (o_4.map fun b => ⟨b, 0, none⟩) t_1.length cap_5)), (7, [], (.slice (o_10.map fun b => ⟨b, 0, none⟩) t_2.length cap_11)), (8, [], (.int .i64 i_6))]) (fun (j : (List GChoice) × (Option Nat) × Nat × (List Value) × Nat) => match j with | ⟨xs_11, o_10424, cap_10425, sp_10426, n_10427⟩ => [⟨some f0_b, 38, [(.int .i16 f0.fSteps), (.slice f0_fHammers_a f0.fHammers.length f0_fHammers_c)]⟩, ⟨some b_1, 126, [(.int .i16 n1.fAt), (.int .i8 n1.fPitch)]⟩, ⟨o_10424, 130, row encGChoice xs_11 sp_10426⟩, ⟨o_4, 124, row encI8 t_1 sp_6⟩, ⟨o_10, 124, row encI8 t_2 sp_12⟩]) ?_ ?_
        · refine jc_block ?_
          obtain ⟨t_16, ht_10871, hr_10726⟩ := bd h
          refine jc_loop (fun (s : (List GChoice) × Int) (x : (Option Nat) × Nat × (List Value) × Nat) => match s, x with | ⟨xs_13, i_14⟩, ⟨o_10720, cap_10721, sp_10722, n_10723⟩ => (xs_13.length = n_10723) ∧ ((o_10720 ≠ none → n_10723 ≤ cap_10721 ∧ sp_10722.length = (cap_10721 - n_10723) * 4)) ∧ ((o_10720 = none → xs_13 = [] ∧ cap_10721 = 0))) (fun (s : (List GChoice) × Int) (x : (Option Nat) × Nat × (List Value) × Nat) => match s, x with | ⟨xs_13, i_14⟩, ⟨o_10720, cap_10721, sp_10722, n_10723⟩ => [(0, [], (.pointer (some ⟨f0_b, 0, none⟩))), (3, [], (.pointer (some ⟨b_1, 0, none⟩))), (4, [], (.slice none 0 0)), (5, [], (.slice (o_10720.map fun b => ⟨b, 0, none⟩) n_10723 cap_10721)), (6, [], (.slice (o_4.map fun b => ⟨b, 0, none⟩) t_1.length cap_5)), (7, [], (.slice (o_10.map fun b => ⟨b, 0, none⟩) t_2.length cap_11)), (8, [], (.int .i64 i_6)), (9, [], (.int .i64 i_14))]) (fun (s : (List GChoice) × Int) (x : (Option Nat) × Nat × (List Value) × Nat) => match s, x with | ⟨xs_13, i_14⟩, ⟨o_10720, cap_10721, sp_10722, n_10723⟩ => [⟨some f0_b, 38, [(.int .i16 f0.fSteps), (.slice f0_fHammers_a f0.fHammers.length f0_fHammers_c)]⟩, ⟨some b_1, 126, [(.int .i16 n1.fAt), (.int .i8 n1.fPitch)]⟩, ⟨o_10720, 130, row encGChoice xs_13 sp_10722⟩, ⟨o_4, 124, row encI8 t_1 sp_6⟩, ⟨o_10, 124, row encI8 t_2 sp_12⟩]) ht_10871 ⟨o_9966, cap_9967, sp_9968, xs_5.length⟩ ⟨rfl, hs_9970, ho_9971⟩ (by kernel_rfl) [0, 1, 2, 3, 4] (by kernel_rfl) (by kernel_rfl) ?_
          rintro ⟨xs_13, i_14⟩ ⟨o_10720, cap_10721, sp_10722, n_10723⟩ y_10727 ⟨rfl, hs_10724, ho_10725⟩ h
          rw [spec_l07For.l_15] at h
          refine jc_seq ?_
          refine jc_seq ?_
          refine jc_region ?_
          refine jo_f [(0, 0), (0, 0), (0, 0), (0, 0)] (by kernel_rfl) ?_
          refine jo_end (by kernel_rfl) ?_
          refine jx_then ?_
          refine jc_cond (decide (i_14 < (t_2.length : Int))) (by kernel_rfl) (fun hc_10729 => ?_) (fun hc_10729 => ?_)
          · replace h := ifT hc_10729 h
            refine jc_skip ?_
            refine jx_then ?_
            refine jc_seq ?_
            refine jc_block ?_
            refine jc_seq ?_
            refine jc_region ?_
            refine jo_f [(0, 0)] (by kernel_rfl) ?_
            refine jo_end (by kernel_rfl) ?_
            refine jx_then ?_
            refine jc_meet (fun (j : (List GChoice) × (Option Nat) × Nat × (List Value) × Nat) => match j with | ⟨xs_17, o_10797, cap_10798, sp_10799, n_10800⟩ => spec_l07For.k_18 i_14 xs_17 = some y_10727 ∧ (xs_17.length = n_10800) ∧ ((o_10797 ≠ none → n_10800 ≤ cap_10798 ∧ sp_10799.length = (cap_10798 - n_10800) * 4)) ∧ ((o_10797 = none → xs_17 = [] ∧ cap_10798 = 0))) (fun (j : (List GChoice) × (Option Nat) × Nat × (List Value) × Nat) => match j with | ⟨xs_17, o_10797, cap_10798, sp_10799, n_10800⟩ => [(0, [], (.pointer (some ⟨f0_b, 0, none⟩))), (3, [], (.pointer (some ⟨b_1, 0, none⟩))), (4, [], (.slice none 0 0)), (5, [], (.slice (o_10797.map fun b => ⟨b, 0, none⟩) n_10800 cap_10798)), (6, [], (.slice (o_4.map fun b => ⟨b, 0, none⟩) t_1.length cap_5)), (7, [], (.slice (o_10.map fun b => ⟨b, 0, none⟩) t_2.length cap_11)), (8, [], (.int .i64 i_6)), (9, [], (.int .i64 i_14))]) (fun (j : (List GChoice) × (Option Nat) × Nat × (List Value) × Nat) => match j with | ⟨xs_17, o_10797, cap_10798, sp_10799, n_10800⟩ => [⟨some f0_b, 38, [(.int .i16 f0.fSteps), (.slice f0_fHammers_a f0.fHammers.length f0_fHammers_c)]⟩, ⟨some b_1, 126, [(.int .i16 n1.fAt), (.int .i8 n1.fPitch)]⟩, ⟨o_10797, 130, row encGChoice xs_17 sp_10799⟩, ⟨o_4, 124, row encI8 t_1 sp_6⟩, ⟨o_10, 124, row encI8 t_2 sp_12⟩]) ?_ ?_
            · refine jc_block ?_
              obtain ⟨t_22, ht_10869, hr_10849⟩ := bd h
              refine jc_loop (fun (s : (List GChoice) × Int) (x : (Option Nat) × Nat × (List Value) × Nat) => match s, x with | ⟨xs_19, i_20⟩, ⟨o_10843, cap_10844, sp_10845, n_10846⟩ => (xs_19.length = n_10846) ∧ ((o_10843 ≠ none → n_10846 ≤ cap_10844 ∧ sp_10845.length = (cap_10844 - n_10846) * 4)) ∧ ((o_10843 = none → xs_19 = [] ∧ cap_10844 = 0))) (fun (s : (List GChoice) × Int) (x : (Option Nat) × Nat × (List Value) × Nat) => match s, x with | ⟨xs_19, i_20⟩, ⟨o_10843, cap_10844, sp_10845, n_10846⟩ => [(0, [], (.pointer (some ⟨f0_b, 0, none⟩))), (3, [], (.pointer (some ⟨b_1, 0, none⟩))), (4, [], (.slice none 0 0)), (5, [], (.slice (o_10843.map fun b => ⟨b, 0, none⟩) n_10846 cap_10844)), (6, [], (.slice (o_4.map fun b => ⟨b, 0, none⟩) t_1.length cap_5)), (7, [], (.slice (o_10.map fun b => ⟨b, 0, none⟩) t_2.length cap_11)), (8, [], (.int .i64 i_6)), (9, [], (.int .i64 i_14)), (10, [], (.int .i64 i_20))]) (fun (s : (List GChoice) × Int) (x : (Option Nat) × Nat × (List Value) × Nat) => match s, x with | ⟨xs_19, i_20⟩, ⟨o_10843, cap_10844, sp_10845, n_10846⟩ => [⟨some f0_b, 38, [(.int .i16 f0.fSteps), (.slice f0_fHammers_a f0.fHammers.length f0_fHammers_c)]⟩, ⟨some b_1, 126, [(.int .i16 n1.fAt), (.int .i8 n1.fPitch)]⟩, ⟨o_10843, 130, row encGChoice xs_19 sp_10845⟩, ⟨o_4, 124, row encI8 t_1 sp_6⟩, ⟨o_10, 124, row encI8 t_2 sp_12⟩]) ht_10869 ⟨o_10720, cap_10721, sp_10722, xs_13.length⟩ ⟨rfl, hs_10724, ho_10725⟩ (by kernel_rfl) [0, 1, 2, 3, 4] (by kernel_rfl) (by kernel_rfl) ?_
              rintro ⟨xs_19, i_20⟩ ⟨o_10843, cap_10844, sp_10845, n_10846⟩ y_10850 ⟨rfl, hs_10847, ho_10848⟩ h
              rw [spec_l07For.l_21] at h
              refine jc_seq ?_
              refine jc_seq ?_
              refine jc_region ?_
              refine jo_f [(0, 0), (0, 0), (0, 0), (0, 0), (0, 0), (0, 0), (0, 0)] (by kernel_rfl) ?_
              refine jo_end (by kernel_rfl) ?_
              refine jx_then ?_
              refine jc_cond (decide (i_20 < (f0.fHammers.length : Int))) (by kernel_rfl) (fun hc_10852 => ?_) (fun hc_10852 => ?_)
              · replace h := ifT hc_10852 h
                refine jc_skip ?_
                refine jx_then ?_
                refine jc_seq ?_
                refine jc_block ?_
                refine jc_seq ?_
                refine jc_draw [⟨some f0_b, 38, [(.int .i16 f0.fSteps), (.slice f0_fHammers_a f0.fHammers.length f0_fHammers_c)]⟩, ⟨some b_1, 126, [(.int .i16 n1.fAt), (.int .i8 n1.fPitch)]⟩, ⟨o_10843, 130, row encGChoice xs_19 sp_10845⟩, ⟨o_4, 124, row encI8 t_1 sp_6⟩, ⟨o_10, 124, row encI8 t_2 sp_12⟩] 17 (by kernel_rfl) (by kernel_rfl) ?_
                refine jd_f [⟨0, 0, 0⟩, ⟨1, 0, 0⟩, ⟨2, 0, 0⟩, ⟨3, 0, 0⟩, ⟨4, 0, 0⟩, ⟨8, 0, 0⟩, ⟨9, 1, 0⟩, ⟨10, 0, 0⟩, ⟨11, 0, 0⟩] 8 (by kernel_rfl) (by kernel_rfl) (fun w h => h.pick [0, 1, 2, 3, 4] (by kernel_rfl) (by kernel_rfl)) (by kernel_rfl) (by kernel_rfl) ?_
                obtain ⟨x_23, hx_10853, h⟩ := bd h
                refine jd_v 5 0 (by kernel_rfl) (fun w h => h.pick [0, 1, 2, 3, 4] (by kernel_rfl) (by kernel_rfl)) (by kernel_rfl) (by kernel_rfl) _ (fun w hm => idx_run (a := f0_fHammers_a) (len := f0.fHammers.length) (s := 2) (j := i_20) (by kernel_rfl) (ix_some hx_10853).1 (ltn hx_10853 rfl) (f0_fHammers_h.sp hx_10853)) ?_
                refine jd_f [⟨6, 0, 0⟩] 6 (by kernel_rfl) (by kernel_rfl) (fun w h => h.pick [0, 1, 2, 3, 4] (by kernel_rfl) (by kernel_rfl)) (by kernel_rfl) (by kernel_rfl) ?_
                refine jd_v 7 0 (by kernel_rfl) (fun w h => h.pick [0, 1, 2, 3, 4] (by kernel_rfl) (by kernel_rfl)) (by kernel_rfl) (by kernel_rfl) _ (fun w hm => ld_run (b := aB f0_fHammers_a) (off := (aO f0_fHammers_a + i_20.toNat * 2)) (s := 1) (agg := false) (vs := (((encGHammer x_23).drop 0).take 1)) (by kernel_rfl) (by kernel_rfl) (.inr rfl) (((hm.exRowW f0_fHammers_h f0_fHammers_ha).at hx_10853).sub 0 1)) ?_
                obtain ⟨x_24, hx_10854, h⟩ := bd h
                refine jd_v 12 0 (by kernel_rfl) (fun w h => h.pick [0, 1, 2, 3, 4] (by kernel_rfl) (by kernel_rfl)) (by kernel_rfl) (by kernel_rfl) _ (fun w hm => idx_run (a := (o_10.map fun b => ⟨b, 0, none⟩)) (len := t_2.length) (s := 1) (j := i_14) (by kernel_rfl) (ix_some hx_10854).1 (ltn hx_10854 rfl) (spo ho_14 hx_10854)) ?_
                refine jd_v 13 0 (by kernel_rfl) (fun w h => h.pick [0, 1, 2, 3, 4] (by kernel_rfl) (by kernel_rfl)) (by kernel_rfl) (by kernel_rfl) _ (fun w hm => ld_run (b := aB (o_10.map fun b => ⟨b, 0, none⟩)) (off := (aO (o_10.map fun b => ⟨b, 0, none⟩) + i_14.toNat * 1)) (s := 1) (agg := false) (vs := (encI8 x_24)) (by kernel_rfl) (by kernel_rfl) (.inr rfl) ((hm.ownRow (hh := 4) (o := o_10) (T := 124) (enc := encI8) (xs := t_2) (sp := sp_12) (by kernel_rfl) (fun e => (ho_14 e).1) encI8_len).at hx_10854)) ?_
                refine jd_f [⟨14, 0, 0⟩, ⟨15, 0, 0⟩, ⟨16, 0, 0⟩] 0 (by kernel_rfl) (by kernel_rfl) (fun w h => h.pick [0, 1, 2, 3, 4] (by kernel_rfl) (by kernel_rfl)) (by kernel_rfl) (by kernel_rfl) ?_
                refine jd_end (by kernel_rfl) ?_
                refine jx_then ?_
                refine jc_cond (x_23.fPitch == (w8 (n1.fPitch + (w8 (12 * x_24))))) (by kernel_rfl) (fun hc_10855 => ?_) (fun hc_10855 => ?_)
                · replace h := ifT hc_10855 h
                  refine jc_draw [⟨some f0_b, 38, [(.int .i16 f0.fSteps), (.slice f0_fHammers_a f0.fHammers.length f0_fHammers_c)]⟩, ⟨some b_1, 126, [(.int .i16 n1.fAt), (.int .i8 n1.fPitch)]⟩, ⟨o_4, 124, row encI8 t_1 sp_6⟩, ⟨o_10, 124, row encI8 t_2 sp_12⟩] 15 (by kernel_rfl) (by kernel_rfl) ?_
                  refine jd_f [⟨0, 0, 0⟩, ⟨1, 0, 0⟩, ⟨2, 0, 0⟩, ⟨5, 0, 0⟩, ⟨6, 0, 0⟩, ⟨9, 0, 0⟩, ⟨10, 0, 0⟩] 8 (by kernel_rfl) (by kernel_rfl) (fun w h => h.pick [0, 1, 3, 4] (by kernel_rfl) (by kernel_rfl)) (by kernel_rfl) (by kernel_rfl) ?_
                  obtain ⟨x_25, hx_10859, h⟩ := bd h
                  refine jd_v 3 0 (by kernel_rfl) (fun w h => h.pick [0, 1, 3, 4] (by kernel_rfl) (by kernel_rfl)) (by kernel_rfl) (by kernel_rfl) _ (fun w hm => idx_run (a := (o_4.map fun b => ⟨b, 0, none⟩)) (len := t_1.length) (s := 1) (j := i_6) (by kernel_rfl) (ix_some hx_10859).1 (ltn hx_10859 rfl) (spo ho_8 hx_10859)) ?_
                  refine jd_v 4 0 (by kernel_rfl) (fun w h => h.pick [0, 1, 3, 4] (by kernel_rfl) (by kernel_rfl)) (by kernel_rfl) (by kernel_rfl) _ (fun w hm => ld_run (b := aB (o_4.map fun b => ⟨b, 0, none⟩)) (off := (aO (o_4.map fun b => ⟨b, 0, none⟩) + i_6.toNat * 1)) (s := 1) (agg := false) (vs := (encI8 x_25)) (by kernel_rfl) (by kernel_rfl) (.inr rfl) ((hm.ownRow (hh := 2) (o := o_4) (T := 124) (enc := encI8) (xs := t_1) (sp := sp_6) (by kernel_rfl) (fun e => (ho_8 e).1) encI8_len).at hx_10859)) ?_
                  obtain ⟨x_26, hx_10860, h⟩ := bd h
                  refine jd_v 7 0 (by kernel_rfl) (fun w h => h.pick [0, 1, 3, 4] (by kernel_rfl) (by kernel_rfl)) (by kernel_rfl) (by kernel_rfl) _ (fun w hm => idx_run (a := (o_10.map fun b => ⟨b, 0, none⟩)) (len := t_2.length) (s := 1) (j := i_14) (by kernel_rfl) (ix_some hx_10860).1 (ltn hx_10860 rfl) (spo ho_14 hx_10860)) ?_
                  refine jd_v 8 0 (by kernel_rfl) (fun w h => h.pick [0, 1, 3, 4] (by kernel_rfl) (by kernel_rfl)) (by kernel_rfl) (by kernel_rfl) _ (fun w hm => ld_run (b := aB (o_10.map fun b => ⟨b, 0, none⟩)) (off := (aO (o_10.map fun b => ⟨b, 0, none⟩) + i_14.toNat * 1)) (s := 1) (agg := false) (vs := (encI8 x_26)) (by kernel_rfl) (by kernel_rfl) (.inr rfl) ((hm.ownRow (hh := 3) (o := o_10) (T := 124) (enc := encI8) (xs := t_2) (sp := sp_12) (by kernel_rfl) (fun e => (ho_14 e).1) encI8_len).at hx_10860)) ?_
                  refine jd_f [⟨11, 0, 0⟩] 3 (by kernel_rfl) (by kernel_rfl) (fun w h => h.pick [0, 1, 3, 4] (by kernel_rfl) (by kernel_rfl)) (by kernel_rfl) (by kernel_rfl) ?_
                  refine toD 12 (by kernel_rfl) (p_a 0 [0] (by kernel_rfl) (fun b => by kernel_rfl) (fun b_10861 => jkD (fun w h => h.pick [0, 1, 3, 4] (by kernel_rfl) (by kernel_rfl)) ?_))
                  obtain ⟨hg_10862, h⟩ := gd h
                  refine toD 13 (by kernel_rfl) (p_apn 0 2 o_10843 130 xs_19.length 1 cap_10844 4 4 (some ⟨b_10861, 0, none⟩) encGChoice xs_19 [(⟨false, x_25, x_26, (w8 i_20)⟩ : GChoice)] sp_10845 (.agg #[(.bool false), (.int .i8 0), (.int .i8 0), (.int .i8 0)]) rfl rfl (by kernel_rfl) (by kernel_rfl) (by kernel_rfl) encGChoice_len encGChoice_cell hs_10847 ho_10848 (fun w hm => (hm.ownRow (hh := 5) (o := (some b_10861)) (T := 130) (enc := encGChoice) (xs := [(⟨false, x_25, x_26, (w8 i_20)⟩ : GChoice)]) (sp := []) (by kernel_rfl) (fun e => nomatch e) encGChoice_len)) hg_10862 (by kernel_rfl) (by kernel_rfl) (fun o_10863 cap_10864 sp_10865 hs_10866 ho_10867 => jkD (fun w h => h.pick [0, 1, 3, 4] (by kernel_rfl) (by kernel_rfl)) ?_))
                  refine jd_f [⟨14, 0, 0⟩] 0 (by kernel_rfl) (by kernel_rfl) (fun w h => h.pick [0, 1, 3, 4] (by kernel_rfl) (by kernel_rfl)) (by kernel_rfl) (by kernel_rfl) ?_
                  refine jd_end (by kernel_rfl) ?_
                  refine jx_inn ?_
                  refine jx_then ?_
                  refine jc_region ?_
                  refine jo_f [(0, 0), (0, 0), (0, 0)] (by kernel_rfl) ?_
                  refine jo_end (by kernel_rfl) ?_
                  exact jx_back ((xs_19 ++ [(⟨false, x_25, x_26, (w8 i_20)⟩ : GChoice)]), (w64 (i_20 + 1))) ⟨o_10863, cap_10864, sp_10865, (xs_19 ++ [(⟨false, x_25, x_26, (w8 i_20)⟩ : GChoice)]).length⟩ (Option.some.inj h).symm ⟨rfl, hs_10866, ho_10867⟩ [0, 1, 2, 3, 4] (by kernel_rfl) (by kernel_rfl) (by kernel_rfl)
                · replace h := ifF hc_10855 h
                  refine jc_skip ?_
                  refine jx_inn ?_
                  refine jx_then ?_
                  refine jc_region ?_
                  refine jo_f [(0, 0), (0, 0), (0, 0)] (by kernel_rfl) ?_
                  refine jo_end (by kernel_rfl) ?_
                  exact jx_back (xs_19, (w64 (i_20 + 1))) ⟨o_10843, cap_10844, sp_10845, xs_19.length⟩ (Option.some.inj h).symm ⟨rfl, hs_10847, ho_10848⟩ [0, 1, 2, 3, 4] (by kernel_rfl) (by kernel_rfl) (by kernel_rfl)
              · replace h := ifF hc_10852 h
                refine jc_exit ?_
                refine jx_thenx ?_
                refine jx_leave xs_19 (Option.some.inj h).symm (fun e_10868 => ?_)
                subst e_10868
                refine jx_ine ?_
                exact jx_meet ⟨xs_19, o_10843, cap_10844, sp_10845, xs_19.length⟩ ⟨hr_10849, rfl, hs_10847, ho_10848⟩ (by kernel_rfl) [0, 1, 2, 3, 4] (by kernel_rfl) (by kernel_rfl)
            · rintro ⟨xs_17, o_10797, cap_10798, sp_10799, n_10800⟩ ⟨h, rfl, hs_10801, ho_10802⟩
              replace h : spec_l07For.k_18 i_14 xs_17 = some y_10727 := h
              rw [spec_l07For.k_18] at h
              refine jx_inn ?_
              refine jx_then ?_
              refine jc_region ?_
              refine jo_f [(0, 0), (0, 0), (0, 0)] (by kernel_rfl) ?_
              refine jo_end (by kernel_rfl) ?_
              exact jx_back (xs_17, (w64 (i_14 + 1))) ⟨o_10797, cap_10798, sp_10799, xs_17.length⟩ (Option.some.inj h).symm ⟨rfl, hs_10801, ho_10802⟩ [0, 1, 2, 3, 4] (by kernel_rfl) (by kernel_rfl) (by kernel_rfl)
          · replace h := ifF hc_10729 h
            refine jc_exit ?_
            refine jx_thenx ?_
            refine jx_leave xs_13 (Option.some.inj h).symm (fun e_10870 => ?_)
            subst e_10870
            refine jx_ine ?_
            exact jx_meet ⟨xs_13, o_10720, cap_10721, sp_10722, xs_13.length⟩ ⟨hr_10726, rfl, hs_10724, ho_10725⟩ (by kernel_rfl) [0, 1, 2, 3, 4] (by kernel_rfl) (by kernel_rfl)
        · rintro ⟨xs_11, o_10424, cap_10425, sp_10426, n_10427⟩ ⟨h, rfl, hs_10428, ho_10429⟩
          replace h : spec_l07For.k_12 i_6 xs_11 = some y_9973 := h
          rw [spec_l07For.k_12] at h
          refine jx_inn ?_
          refine jx_then ?_
          refine jc_region ?_
          refine jo_f [(0, 0), (0, 0), (0, 0)] (by kernel_rfl) ?_
          refine jo_end (by kernel_rfl) ?_
          exact jx_back (xs_11, (w64 (i_6 + 1))) ⟨o_10424, cap_10425, sp_10426, xs_11.length⟩ (Option.some.inj h).symm ⟨rfl, hs_10428, ho_10429⟩ [0, 1, 2, 3, 4] (by kernel_rfl) (by kernel_rfl) (by kernel_rfl)
    · replace h := ifF hc_9975 h
      refine jc_exit ?_
      refine jx_thenx ?_
      refine jx_leave xs_5 (Option.some.inj h).symm (fun e_10872 => ?_)
      subst e_10872
      refine jx_ine ?_
      exact jx_meet ⟨xs_5, o_9966, cap_9967, sp_9968, xs_5.length⟩ ⟨hr_9972, rfl, hs_9970, ho_9971⟩ (by kernel_rfl) [0, 1, 2, 3, 4] (by kernel_rfl) (by kernel_rfl)
  · rintro ⟨xs_3, o_8151, cap_8152, sp_8153, n_8154⟩ ⟨h, rfl, hs_8155, ho_8156⟩
    replace h : spec_l07For.k_4 xs_3 = some r := h
    rw [spec_l07For.k_4] at h
    refine jx_then ?_
    refine jc_seq ?_
    refine jc_region ?_
    refine jo_f [(0, 0), (0, 0)] (by kernel_rfl) ?_
    refine toO (by kernel_rfl) (p_a 0 [0] (by kernel_rfl) (fun b => by kernel_rfl) (fun b_8157 => jkO ?_))
    obtain ⟨hg_8158, h⟩ := gd h
    refine toO (by kernel_rfl) (p_apn 0 2 o_8151 130 xs_3.length 1 cap_8152 4 4 (some ⟨b_8157, 0, none⟩) encGChoice xs_3 [(⟨true, 0, 0, 0⟩ : GChoice)] sp_8153 (.agg #[(.bool false), (.int .i8 0), (.int .i8 0), (.int .i8 0)]) rfl rfl (by kernel_rfl) (by kernel_rfl) (by kernel_rfl) encGChoice_len encGChoice_cell hs_8155 ho_8156 (fun w hm => (hm.ownRow (hh := 5) (o := (some b_8157)) (T := 130) (enc := encGChoice) (xs := [(⟨true, 0, 0, 0⟩ : GChoice)]) (sp := []) (by kernel_rfl) (fun e => nomatch e) encGChoice_len)) hg_8158 (by kernel_rfl) (by kernel_rfl) (fun o_8159 cap_8160 sp_8161 hs_8162 ho_8163 => jkO ?_))
    refine jo_f [(0, 0)] (by kernel_rfl) ?_
    refine jo_end (by kernel_rfl) ?_
    refine jx_then ?_
    refine jc_ret ?_
    obtain rfl := Option.some.inj h
    exact jx_ret [] (.slice (o_8159.map fun b => ⟨b, 0, none⟩) ((xs_3 ++ [(⟨true, 0, 0, 0⟩ : GChoice)]).length) cap_8160) [] rfl (by kernel_rfl) (by kernel_rfl) (fun w hm => ⟨o_8159, cap_8160, sp_8161, ((xs_3 ++ [(⟨true, 0, 0, 0⟩ : GChoice)]).length), rfl, hs_8162, ho_8163, rfl, hm.pick [0, 2] (by kernel_rfl) (by kernel_rfl)⟩)

/-! ### spec.l02Pin -/
noncomputable def spec_l02Pin (d0 : Arr 96 Int) (step1 : Int) (track2 : Int) : Option (Bool) := (ix d0.1 step1).bind fun x_1 => (if 0 ≤ (u64 track2) then some ((Int.tmod (bShr .u32 x_1 (u64 track2)) 2) == 1) else none)
set_option maxRecDepth 100000 in
theorem spec_l02Pin.calls (d0 : Arr 96 Int) (step1 : Int) (track2 : Int) (w : World) (r : Bool) (d0_b : Nat) (hm0 : Mem w (bs [some d0_b]) [⟨(some d0_b), 67, row encU32 d0.1 []⟩] w) (h : spec_l02Pin d0 step1 track2 = some r) :
    Calls Try.prog 186 #[(.pointer (some ⟨d0_b, 0, none⟩)), (.int .i64 step1), (.int .i64 track2)] w fun e w' => ∃ v, e = .returned v ∧ (v = (.bool r) ∧ Mem w (bs [some d0_b]) [⟨(some d0_b), 67, row encU32 d0.1 []⟩] w') := by
  rw [spec_l02Pin] at h
  refine enter (args := [(.pointer (some ⟨d0_b, 0, none⟩)), (.int .i64 step1), (.int .i64 track2)]) Try.func186 rfl Try.ntmps186 (by kernel_rfl) (L := [⟨(some d0_b), 67, row encU32 d0.1 []⟩]) (W := bs [some d0_b]) hm0 ?_
  refine jc_seq ?_
  refine jc_region ?_
  refine jo_f [(0, 0)] (by kernel_rfl) ?_
  refine jo_end (by kernel_rfl) ?_
  refine jx_then ?_
  refine jc_seq ?_
  refine jc_region ?_
  refine jo_f [(0, 0), (0, 0), (0, 0)] (by kernel_rfl) ?_
  obtain ⟨x_1, hx_1, h⟩ := bd h
  refine toO (by kernel_rfl) (p_idx 0 (some ⟨d0_b, 0, none⟩) 96 step1 1 (by kernel_rfl) (by kernel_rfl) (ix_some hx_1).1 (ltn hx_1 d0.2) rfl (jkO ?_))
  refine toO (by kernel_rfl) (p_ld 0 (aB (some ⟨d0_b, 0, none⟩)) (aO (some ⟨d0_b, 0, none⟩) + step1.toNat * 1) false (encU32 x_1) (by kernel_rfl) (by kernel_rfl) (by kernel_rfl) (fun w hm => ((hm.ownRow (hh := 0) (o := (some d0_b)) (T := 67) (enc := encU32) (xs := d0.1) (sp := []) (by kernel_rfl) (fun e => nomatch e) encU32_len).at hx_1)) (jkO ?_))
  refine jo_f [(0, 0), (0, 0)] (by kernel_rfl) ?_
  obtain ⟨hg_2, h⟩ := gd h
  refine toO (by kernel_rfl) (p_shr 0 .u32 x_1 .u64 (u64 track2) (by kernel_rfl) (by kernel_rfl) hg_2 (jkO ?_))
  refine jo_f [(0, 0), (0, 0), (0, 0)] (by kernel_rfl) ?_
  refine jo_end (by kernel_rfl) ?_
  refine jx_then ?_
  refine jc_ret ?_
  obtain rfl := Option.some.inj h
  exact jx_ret [] (.bool ((Int.tmod (bShr .u32 x_1 (u64 track2)) 2) == 1)) [] rfl (by kernel_rfl) (by kernel_rfl) (fun w hm => ⟨rfl, hm.pick [0] (by kernel_rfl) (by kernel_rfl)⟩)

/-! ### spec.l02Free -/
noncomputable def spec_l02Free.k_3 : Option (Bool) := some true
noncomputable def spec_l02Free.k_8 (i_4 : Int) (q_7 : Bool) : Option ((Int) ⊕ (Bool ⊕ Unit)) := (if q_7 = true then some (.inr (.inl false)) else some (.inl (w64 (i_4 + 1))))
noncomputable def spec_l02Free.l_5 (f0 : GFrame) (d1 : Arr 96 Int) (step2 : Int) (track3 : Int) (x_2 : GHammer) : Int → Option ((Int) ⊕ (Bool ⊕ Unit))
  | i_4 => (if (decide (i_4 < (w64 x_2.fReady))) = true then (if (w64 f0.fSteps) ≠ 0 then (spec_l02Pin d1 (Int.tmod (w64 (step2 + i_4)) (w64 f0.fSteps)) track3).bind fun t_9 => (if t_9 = true then spec_l02Free.k_8 i_4 true else (if (w64 f0.fSteps) ≠ 0 then (spec_l02Pin d1 (Int.tmod (w64 ((w64 (step2 + (w64 f0.fSteps))) - i_4)) (w64 f0.fSteps)) track3).bind fun t_10 => spec_l02Free.k_8 i_4 t_10 else none)) else none) else some (.inr (.inr ())))
noncomputable def spec_l02Free (f0 : GFrame) (d1 : Arr 96 Int) (step2 : Int) (track3 : Int) : Option (Bool) := (spec_l02Pin d1 step2 track3).bind fun t_1 => (if t_1 = true then some false else (ix f0.fHammers track3).bind fun x_2 => (loop (spec_l02Free.l_5 f0 d1 step2 track3 x_2) 1).bind fun t_6 => match t_6 with | .inl p => some p | .inr p => spec_l02Free.k_3)
set_option maxRecDepth 100000 in
theorem spec_l02Free.calls (f0 : GFrame) (d1 : Arr 96 Int) (step2 : Int) (track3 : Int) (w : World) (r : Bool) (f0_fHammers_a : Option Addr) (f0_fHammers_an : Nat) (f0_fHammers_c : Nat) (f0_fHammers_h : Rw w f0_fHammers_a 2 encGHammer f0.fHammers) (f0_fHammers_hn : f0.fHammers.length = f0_fHammers_an) (f0_b : Nat) (d1_b : Nat) (hm0 : Mem w (bs [some f0_b, some d1_b]) [⟨some f0_b, 38, [(.int .i16 f0.fSteps), (.slice f0_fHammers_a f0_fHammers_an f0_fHammers_c)]⟩, ⟨(some d1_b), 67, row encU32 d1.1 []⟩] w) (f0_fHammers_ha : f0.fHammers ≠ [] → aB f0_fHammers_a ∉ bs [some f0_b, some d1_b]) (h : spec_l02Free f0 d1 step2 track3 = some r) :
    Calls Try.prog 148 #[(.pointer (some ⟨f0_b, 0, none⟩)), (.pointer (some ⟨d1_b, 0, none⟩)), (.int .i64 step2), (.int .i64 track3)] w fun e w' => ∃ v, e = .returned v ∧ (v = (.bool r) ∧ Mem w (bs [some f0_b, some d1_b]) [⟨some f0_b, 38, [(.int .i16 f0.fSteps), (.slice f0_fHammers_a f0_fHammers_an f0_fHammers_c)]⟩, ⟨(some d1_b), 67, row encU32 d1.1 []⟩] w') := by
  subst f0_fHammers_hn
  rw [spec_l02Free] at h
  refine enter (args := [(.pointer (some ⟨f0_b, 0, none⟩)), (.pointer (some ⟨d1_b, 0, none⟩)), (.int .i64 step2), (.int .i64 track3)]) Try.func148 rfl Try.ntmps148 (by kernel_rfl) (L := [⟨some f0_b, 38, [(.int .i16 f0.fSteps), (.slice f0_fHammers_a f0.fHammers.length f0_fHammers_c)]⟩, ⟨(some d1_b), 67, row encU32 d1.1 []⟩]) (W := bs [some f0_b, some d1_b]) hm0 ?_
  refine jc_seq ?_
  refine jc_region ?_
  refine jo_f [(0, 0)] (by kernel_rfl) ?_
  refine jo_end (by kernel_rfl) ?_
  refine jx_then ?_
  refine jc_seq ?_
  refine jc_seq ?_
  refine jc_region ?_
  refine jo_f [(0, 0), (0, 0), (0, 0)] (by kernel_rfl) ?_
  obtain ⟨t_1, ht_3, h⟩ := bd h
  refine toO (by kernel_rfl) (p_call 0 186 #[(.pointer (some ⟨d1_b, 0, none⟩)), (.int .i64 step2), (.int .i64 track3)] (by kernel_rfl) (by kernel_rfl) (fun w hm => spec_l02Pin.calls d1 step2 track3 w _ d1_b (hm.pass (N := [⟨(some d1_b), 67, row encU32 d1.1 []⟩]) [1] (by kernel_rfl) (by kernel_rfl)) ht_3) ?_)
  rintro w v w' hm ⟨rfl, hm'⟩
  refine ⟨_, hm.appW (ps := [(1, ⟨(some d1_b), 67, row encU32 d1.1 []⟩)]) (N := []) hm' (by kernel_rfl) (by kernel_rfl), jkO ?_⟩
  clear hm hm'
  refine jo_end (by kernel_rfl) ?_
  refine jx_then ?_
  refine jc_cond t_1 (by kernel_rfl) (fun hc_4 => ?_) (fun hc_4 => ?_)
  · replace h := ifT hc_4 h
    refine jc_seq ?_
    refine jc_region ?_
    refine jo_f [(0, 0)] (by kernel_rfl) ?_
    refine jo_end (by kernel_rfl) ?_
    refine jx_then ?_
    refine jc_ret ?_
    refine jx_thenr ?_
    obtain rfl := Option.some.inj h
    exact jx_ret [] (.bool false) [] rfl (by kernel_rfl) (by kernel_rfl) (fun w hm => ⟨rfl, hm.pick [0, 1] (by kernel_rfl) (by kernel_rfl)⟩)
  · replace h := ifF hc_4 h
    refine jc_skip ?_
    refine jx_then ?_
    refine jc_seq ?_
    refine jc_region ?_
    refine jo_f [(0, 0), (0, 0), (0, 0), (0, 0), (0, 0), (0, 0)] (by kernel_rfl) ?_
    refine jo_end (by kernel_rfl) ?_
    refine jx_then ?_
    refine jc_seq ?_
    refine jc_region ?_
    refine jo_f [(0, 0), (0, 0), (0, 0), (0, 0), (0, 0)] (by kernel_rfl) ?_
    obtain ⟨x_2, hx_5, h⟩ := bd h
    refine toO (by kernel_rfl) (p_idx 0 f0_fHammers_a f0.fHammers.length track3 2 (by kernel_rfl) (by kernel_rfl) (ix_some hx_5).1 (ltn hx_5 rfl) (f0_fHammers_h.sp hx_5) (jkO ?_))
    refine jo_f [(0, 0)] (by kernel_rfl) ?_
    refine toO (by kernel_rfl) (p_ld 0 (aB f0_fHammers_a) (aO f0_fHammers_a + track3.toNat * 2 + 1) false (((encGHammer x_2).drop 1).take 1) (by kernel_rfl) (by kernel_rfl) (by kernel_rfl) (fun w hm => (((hm.exRowW f0_fHammers_h f0_fHammers_ha).at hx_5).sub 1 1)) (jkO ?_))
    refine jo_f [(0, 0), (0, 0)] (by kernel_rfl) ?_
    refine jo_end (by kernel_rfl) ?_
    refine jx_then ?_
    refine jc_seq ?_
    refine jc_seq ?_
    refine jc_region ?_
    refine jo_f [(0, 0)] (by kernel_rfl) ?_
    refine jo_end (by kernel_rfl) ?_
    refine jx_then ?_
    refine jc_meet (fun (_ : Unit) => spec_l02Free.k_3 = some r) (fun (_ : Unit) => [(8, [], (.bool false))]) (fun (_ : Unit) => [⟨some f0_b, 38, [(.int .i16 f0.fSteps), (.slice f0_fHammers_a f0.fHammers.length f0_fHammers_c)]⟩, ⟨(some d1_b), 67, row encU32 d1.1 []⟩]) ?_ ?_
    · refine jc_block ?_
      obtain ⟨t_6, ht_93, hr_76⟩ := bd h
      refine jc_loop (fun (s : Int) (x : Unit) => match s, x with | i_4, _ => True) (fun (s : Int) (x : Unit) => match s, x with | i_4, _ => [(1, [], (.pointer (some ⟨d1_b, 0, none⟩))), (2, [], (.int .i64 step2)), (3, [], (.int .i64 track3)), (8, [], (.bool false)), (9, [], (.int .i64 (w64 f0.fSteps))), (10, [], (.int .i64 (w64 x_2.fReady))), (11, [], (.int .i64 i_4))]) (fun (s : Int) (x : Unit) => match s, x with | i_4, _ => [⟨some f0_b, 38, [(.int .i16 f0.fSteps), (.slice f0_fHammers_a f0.fHammers.length f0_fHammers_c)]⟩, ⟨(some d1_b), 67, row encU32 d1.1 []⟩]) ht_93 () trivial (by kernel_rfl) [0, 1] (by kernel_rfl) (by kernel_rfl) ?_
      rintro i_4 _ y_77 _ h
      rw [spec_l02Free.l_5] at h
      refine jc_seq ?_
      refine jc_seq ?_
      refine jc_region ?_
      refine jo_f [(0, 0), (0, 0), (0, 0)] (by kernel_rfl) ?_
      refine jo_end (by kernel_rfl) ?_
      refine jx_then ?_
      refine jc_cond (decide (i_4 < (w64 x_2.fReady))) (by kernel_rfl) (fun hc_79 => ?_) (fun hc_79 => ?_)
      · replace h := ifT hc_79 h
        refine jc_skip ?_
        refine jx_then ?_
        refine jc_seq ?_
        refine jc_block ?_
        refine jc_seq ?_
        refine jc_meet (fun (j : Bool) => match j with | q_7 => spec_l02Free.k_8 i_4 q_7 = some y_77) (fun (j : Bool) => match j with | q_7 => [(1, [], (.pointer (some ⟨d1_b, 0, none⟩))), (2, [], (.int .i64 step2)), (3, [], (.int .i64 track3)), (8, [], (.bool false)), (9, [], (.int .i64 (w64 f0.fSteps))), (10, [], (.int .i64 (w64 x_2.fReady))), (11, [], (.int .i64 i_4)), (54, [], (.bool q_7))]) (fun (j : Bool) => match j with | q_7 => [⟨some f0_b, 38, [(.int .i16 f0.fSteps), (.slice f0_fHammers_a f0.fHammers.length f0_fHammers_c)]⟩, ⟨(some d1_b), 67, row encU32 d1.1 []⟩]) ?_ ?_
        · refine jc_region ?_
          refine jo_f [(0, 0), (0, 0), (0, 0), (0, 0), (0, 0)] (by kernel_rfl) ?_
          obtain ⟨hg_87, h⟩ := gd h
          refine toO (by kernel_rfl) (p_rem 0 .i64 (w64 (step2 + i_4)) (w64 f0.fSteps) (by kernel_rfl) (by kernel_rfl) hg_87 (jkO ?_))
          refine jo_f [(0, 0)] (by kernel_rfl) ?_
          obtain ⟨t_9, ht_88, h⟩ := bd h
          refine toO (by kernel_rfl) (p_call 0 186 #[(.pointer (some ⟨d1_b, 0, none⟩)), (.int .i64 (Int.tmod (w64 (step2 + i_4)) (w64 f0.fSteps))), (.int .i64 track3)] (by kernel_rfl) (by kernel_rfl) (fun w hm => spec_l02Pin.calls d1 (Int.tmod (w64 (step2 + i_4)) (w64 f0.fSteps)) track3 w _ d1_b (hm.pass (N := [⟨(some d1_b), 67, row encU32 d1.1 []⟩]) [1] (by kernel_rfl) (by kernel_rfl)) ht_88) ?_)
          rintro w v w' hm ⟨rfl, hm'⟩
          refine ⟨_, hm.appW (ps := [(1, ⟨(some d1_b), 67, row encU32 d1.1 []⟩)]) (N := []) hm' (by kernel_rfl) (by kernel_rfl), jkO ?_⟩
          clear hm hm'
          refine jo_f [(0, 0), (0, 1), (0, 1), (0, 1), (0, 1), (0, 1), (0, 1), (0, 1)] (by kernel_rfl) ?_
          refine jo_split 43 t_9 (by kernel_rfl) (fun hc_89 => ?_) (fun hc_89 => ?_)
          · replace h := ifT hc_89 h
            refine jo_f [(0, 3), (0, 3), (0, 3), (0, 4)] (by kernel_rfl) ?_
            refine jo_end (by kernel_rfl) ?_
            exact jx_meet true h (by kernel_rfl) [0, 1] (by kernel_rfl) (by kernel_rfl)
          · replace h := ifF hc_89 h
            obtain ⟨hg_90, h⟩ := gd h
            refine toO (by kernel_rfl) (p_rem 2 .i64 (w64 ((w64 (step2 + (w64 f0.fSteps))) - i_4)) (w64 f0.fSteps) (by kernel_rfl) (by kernel_rfl) hg_90 (jkO ?_))
            refine jo_f [(0, 2)] (by kernel_rfl) ?_
            obtain ⟨t_10, ht_91, h⟩ := bd h
            refine toO (by kernel_rfl) (p_call 2 186 #[(.pointer (some ⟨d1_b, 0, none⟩)), (.int .i64 (Int.tmod (w64 ((w64 (step2 + (w64 f0.fSteps))) - i_4)) (w64 f0.fSteps))), (.int .i64 track3)] (by kernel_rfl) (by kernel_rfl) (fun w hm => spec_l02Pin.calls d1 (Int.tmod (w64 ((w64 (step2 + (w64 f0.fSteps))) - i_4)) (w64 f0.fSteps)) track3 w _ d1_b (hm.pass (N := [⟨(some d1_b), 67, row encU32 d1.1 []⟩]) [1] (by kernel_rfl) (by kernel_rfl)) ht_91) ?_)
            rintro w v w' hm ⟨rfl, hm'⟩
            refine ⟨_, hm.appW (ps := [(1, ⟨(some d1_b), 67, row encU32 d1.1 []⟩)]) (N := []) hm' (by kernel_rfl) (by kernel_rfl), jkO ?_⟩
            clear hm hm'
            refine jo_f [(0, 5)] (by kernel_rfl) ?_
            refine jo_end (by kernel_rfl) ?_
            exact jx_meet t_10 h (by kernel_rfl) [0, 1] (by kernel_rfl) (by kernel_rfl)
        · rintro q_7 h
          replace h : spec_l02Free.k_8 i_4 q_7 = some y_77 := h
          rw [spec_l02Free.k_8] at h
          refine jx_then ?_
          refine jc_cond q_7 (by kernel_rfl) (fun hc_85 => ?_) (fun hc_85 => ?_)
          · replace h := ifT hc_85 h
            refine jc_seq ?_
            refine jc_region ?_
            refine jo_f [(0, 0)] (by kernel_rfl) ?_
            refine jo_end (by kernel_rfl) ?_
            refine jx_then ?_
            refine jc_ret ?_
            refine jx_inr ?_
            refine jx_thenr ?_
            refine jx_leaver (.inl false) (Option.some.inj h).symm (fun e_86 => ?_)
            subst e_86
            refine jx_inr ?_
            refine jx_thenr ?_
            refine jx_thenr ?_
            obtain rfl := Option.some.inj hr_76
            exact jx_ret [] (.bool false) [] rfl (by kernel_rfl) (by kernel_rfl) (fun w hm => ⟨rfl, hm.pick [0, 1] (by kernel_rfl) (by kernel_rfl)⟩)
          · replace h := ifF hc_85 h
            refine jc_skip ?_
            refine jx_inn ?_
            refine jx_then ?_
            refine jc_region ?_
            refine jo_f [(0, 0), (0, 0), (0, 0)] (by kernel_rfl) ?_
            refine jo_end (by kernel_rfl) ?_
            exact jx_back (w64 (i_4 + 1)) () (Option.some.inj h).symm trivial [0, 1] (by kernel_rfl) (by kernel_rfl) (by kernel_rfl)
      · replace h := ifF hc_79 h
        refine jc_exit ?_
        refine jx_thenx ?_
        refine jx_leave (.inr ()) (Option.some.inj h).symm (fun e_92 => ?_)
        subst e_92
        refine jx_ine ?_
        exact jx_meet () hr_76 (by kernel_rfl) [0, 1] (by kernel_rfl) (by kernel_rfl)
    · rintro _ h
      replace h : spec_l02Free.k_3 = some r := h
      rw [spec_l02Free.k_3] at h
      refine jx_then ?_
      refine jc_seq ?_
      refine jc_region ?_
      refine jo_f [(0, 0)] (by kernel_rfl) ?_
      refine jo_end (by kernel_rfl) ?_
      refine jx_then ?_
      refine jc_ret ?_
      obtain rfl := Option.some.inj h
      exact jx_ret [] (.bool true) [] rfl (by kernel_rfl) (by kernel_rfl) (fun w hm => ⟨rfl, hm.pick [0, 1] (by kernel_rfl) (by kernel_rfl)⟩)

/-! ### spec.l07Put -/
noncomputable def spec_l07Put (f0 : GFrame) (d1 : Arr 96 Int) (n2 : GNote) (x3 : GChoice) : Option (Bool × (Arr 96 Int)) := (if x3.fAway = true then some (true, d1) else (spec_l02Free f0 d1 (w64 ((w64 n2.fAt) + (w64 x3.fLate))) (w64 x3.fTrack)).bind fun t_1 => (if (!t_1) = true then some (false, d1) else (ix d1.1 (w64 ((w64 n2.fAt) + (w64 x3.fLate)))).bind fun x_2 => (if 0 ≤ (u64 x3.fTrack) then (ix d1.1 (w64 ((w64 n2.fAt) + (w64 x3.fLate)))).bind fun x_3 => some (true, (Arr.set d1 (w64 ((w64 n2.fAt) + (w64 x3.fLate))) (bOr .u32 x_2 (bShl .u32 1 (u64 x3.fTrack))))) else none)))
set_option maxRecDepth 100000 in
theorem spec_l07Put.calls (f0 : GFrame) (d1 : Arr 96 Int) (n2 : GNote) (x3 : GChoice) (w : World) (r : Bool × (Arr 96 Int)) (f0_fHammers_a : Option Addr) (f0_fHammers_an : Nat) (f0_fHammers_c : Nat) (f0_fHammers_h : Rw w f0_fHammers_a 2 encGHammer f0.fHammers) (f0_fHammers_hn : f0.fHammers.length = f0_fHammers_an) (f0_b : Nat) (d1_b : Nat) (hm0 : Mem w (bs [some f0_b, some d1_b]) [⟨some f0_b, 38, [(.int .i16 f0.fSteps), (.slice f0_fHammers_a f0_fHammers_an f0_fHammers_c)]⟩, ⟨(some d1_b), 67, row encU32 d1.1 []⟩] w) (f0_fHammers_ha : f0.fHammers ≠ [] → aB f0_fHammers_a ∉ bs [some f0_b, some d1_b]) (h : spec_l07Put f0 d1 n2 x3 = some r) :
    Calls Try.prog 96 #[(.pointer (some ⟨f0_b, 0, none⟩)), (.pointer (some ⟨d1_b, 0, none⟩)), (.agg #[(.int .i16 n2.fAt), (.int .i8 n2.fPitch)]), (.agg #[(.bool x3.fAway), (.int .i8 x3.fLate), (.int .i8 x3.fOctave), (.int .i8 x3.fTrack)])] w fun e w' => ∃ v, e = .returned v ∧ (v = (.bool r.1) ∧ Mem w (bs [some f0_b, some d1_b]) [⟨some f0_b, 38, [(.int .i16 f0.fSteps), (.slice f0_fHammers_a f0_fHammers_an f0_fHammers_c)]⟩, ⟨(some d1_b), 67, row encU32 r.2.1 []⟩] w') := by
  subst f0_fHammers_hn
  rw [spec_l07Put] at h
  refine enter (args := [(.pointer (some ⟨f0_b, 0, none⟩)), (.pointer (some ⟨d1_b, 0, none⟩)), (.agg #[(.int .i16 n2.fAt), (.int .i8 n2.fPitch)]), (.agg #[(.bool x3.fAway), (.int .i8 x3.fLate), (.int .i8 x3.fOctave), (.int .i8 x3.fTrack)])]) Try.func96 rfl Try.ntmps96 (by kernel_rfl) (L := [⟨some f0_b, 38, [(.int .i16 f0.fSteps), (.slice f0_fHammers_a f0.fHammers.length f0_fHammers_c)]⟩, ⟨(some d1_b), 67, row encU32 d1.1 []⟩]) (W := bs [some f0_b, some d1_b]) hm0 ?_
  refine jc_seq ?_
  refine jc_region ?_
  refine toO (by kernel_rfl) (p_a 0 [0] (by kernel_rfl) (fun b => by kernel_rfl) (fun b_1 => jkO ?_))
  refine toO (by kernel_rfl) (p_a 0 [0] (by kernel_rfl) (fun b => by kernel_rfl) (fun b_2 => jkO ?_))
  refine jo_f [(0, 0)] (by kernel_rfl) ?_
  refine jo_end (by kernel_rfl) ?_
  refine jx_then ?_
  refine jc_seq ?_
  refine jc_seq ?_
  refine jc_region ?_
  refine jo_f [(0, 0), (3, 0)] (by kernel_rfl) ?_
  refine jo_end (by kernel_rfl) ?_
  refine jx_then ?_
  refine jc_cond x3.fAway (by kernel_rfl) (fun hc_4 => ?_) (fun hc_4 => ?_)
  · replace h := ifT hc_4 h
    refine jc_seq ?_
    refine jc_region ?_
    refine jo_f [(0, 0)] (by kernel_rfl) ?_
    refine jo_end (by kernel_rfl) ?_
    refine jx_then ?_
    refine jc_ret ?_
    refine jx_thenr ?_
    obtain rfl := Option.some.inj h
    exact jx_ret [] (.bool true) [] rfl (by kernel_rfl) (by kernel_rfl) (fun w hm => ⟨rfl, hm.pick [0, 1] (by kernel_rfl) (by kernel_rfl)⟩)
  · replace h := ifF hc_4 h
    refine jc_skip ?_
    refine jx_then ?_
    refine jc_seq ?_
    refine jc_region ?_
    refine jo_f [(0, 0), (2, 0), (0, 0), (0, 0), (3, 0), (0, 0), (0, 0), (0, 0)] (by kernel_rfl) ?_
    refine jo_end (by kernel_rfl) ?_
    refine jx_then ?_
    refine jc_seq ?_
    refine jc_seq ?_
    refine jc_region ?_
    refine jo_f [(0, 0), (0, 0), (0, 0), (0, 0), (3, 0), (0, 0)] (by kernel_rfl) ?_
    obtain ⟨t_1, ht_7, h⟩ := bd h
    refine toO (by kernel_rfl) (p_call 0 148 #[(.pointer (some ⟨f0_b, 0, none⟩)), (.pointer (some ⟨d1_b, 0, none⟩)), (.int .i64 (w64 ((w64 n2.fAt) + (w64 x3.fLate)))), (.int .i64 (w64 x3.fTrack))] (by kernel_rfl) (by kernel_rfl) (fun w hm => spec_l02Free.calls f0 d1 (w64 ((w64 n2.fAt) + (w64 x3.fLate))) (w64 x3.fTrack) w _ f0_fHammers_a f0.fHammers.length f0_fHammers_c (hm.exRowW f0_fHammers_h f0_fHammers_ha) rfl f0_b d1_b (hm.pass (N := [⟨some f0_b, 38, [(.int .i16 f0.fSteps), (.slice f0_fHammers_a f0.fHammers.length f0_fHammers_c)]⟩, ⟨(some d1_b), 67, row encU32 d1.1 []⟩]) [0, 1] (by kernel_rfl) (by kernel_rfl)) (hm.exApart (N := [⟨some f0_b, 38, [(.int .i16 f0.fSteps), (.slice f0_fHammers_a f0.fHammers.length f0_fHammers_c)]⟩, ⟨(some d1_b), 67, row encU32 d1.1 []⟩]) f0_fHammers_h f0_fHammers_ha [0, 1] (by kernel_rfl)) ht_7) ?_)
    rintro w v w' hm ⟨rfl, hm'⟩
    refine ⟨_, hm.appW (ps := [(0, ⟨some f0_b, 38, [(.int .i16 f0.fSteps), (.slice f0_fHammers_a f0.fHammers.length f0_fHammers_c)]⟩), (1, ⟨(some d1_b), 67, row encU32 d1.1 []⟩)]) (N := []) hm' (by kernel_rfl) (by kernel_rfl), jkO ?_⟩
    clear hm hm'
    refine jo_f [(0, 0)] (by kernel_rfl) ?_
    refine jo_end (by kernel_rfl) ?_
    refine jx_then ?_
    refine jc_cond (!t_1) (by kernel_rfl) (fun hc_8 => ?_) (fun hc_8 => ?_)
    · replace h := ifT hc_8 h
      refine jc_seq ?_
      refine jc_region ?_
      refine jo_f [(0, 0)] (by kernel_rfl) ?_
      refine jo_end (by kernel_rfl) ?_
      refine jx_then ?_
      refine jc_ret ?_
      refine jx_thenr ?_
      obtain rfl := Option.some.inj h
      exact jx_ret [] (.bool false) [] rfl (by kernel_rfl) (by kernel_rfl) (fun w hm => ⟨rfl, hm.pick [0, 1] (by kernel_rfl) (by kernel_rfl)⟩)
    · replace h := ifF hc_8 h
      refine jc_skip ?_
      refine jx_then ?_
      refine jc_seq ?_
      refine jc_draw [⟨some f0_b, 38, [(.int .i16 f0.fSteps), (.slice f0_fHammers_a f0.fHammers.length f0_fHammers_c)]⟩, ⟨some b_1, 126, [(.int .i16 n2.fAt), (.int .i8 n2.fPitch)]⟩, ⟨some b_2, 130, [(.bool x3.fAway), (.int .i8 x3.fLate), (.int .i8 x3.fOctave), (.int .i8 x3.fTrack)]⟩] 15 (by kernel_rfl) (by kernel_rfl) ?_
      refine jd_f [⟨0, 0, 0⟩, ⟨1, 0, 0⟩, ⟨2, 0, 0⟩, ⟨3, 0, 0⟩, ⟨4, 0, 0⟩, ⟨7, 0, 0⟩, ⟨8, 2, 0⟩, ⟨9, 0, 0⟩, ⟨12, 0, 0⟩] 6 (by kernel_rfl) (by kernel_rfl) (fun w h => h.pick [0, 2, 3] (by kernel_rfl) (by kernel_rfl)) (by kernel_rfl) (by kernel_rfl) ?_
      obtain ⟨x_2, hx_12, h⟩ := bd h
      refine jd_v 5 0 (by kernel_rfl) (fun w h => h.pick [0, 2, 3] (by kernel_rfl) (by kernel_rfl)) (by kernel_rfl) (by kernel_rfl) _ (fun w hm => idx_run (a := (some ⟨d1_b, 0, none⟩)) (len := 96) (s := 1) (j := (w64 ((w64 n2.fAt) + (w64 x3.fLate)))) (by kernel_rfl) (ix_some hx_12).1 (ltn hx_12 d1.2) rfl) ?_
      refine toD2 6 10 (by kernel_rfl) ?_ ?_
      · refine p_ld 0 (aB (some ⟨d1_b, 0, none⟩)) (aO (some ⟨d1_b, 0, none⟩) + (w64 ((w64 n2.fAt) + (w64 x3.fLate))).toNat * 1) false (encU32 x_2) (by kernel_rfl) (by kernel_rfl) (by kernel_rfl) (fun w hm => ((hm.ownRow (hh := 1) (o := (some d1_b)) (T := 67) (enc := encU32) (xs := d1.1) (sp := []) (by kernel_rfl) (fun e => nomatch e) encU32_len).at hx_12)) (jkD (fun w h => h.pick [0, 2, 3] (by kernel_rfl) (by kernel_rfl)) ?_)
        obtain ⟨hg_13, h⟩ := gd h
        refine toD 10 (by kernel_rfl) (p_shl 0 .u32 1 .u64 (u64 x3.fTrack) (by kernel_rfl) (by kernel_rfl) hg_13 (jkD (fun w h => h.pick [0, 2, 3] (by kernel_rfl) (by kernel_rfl)) ?_))
        refine jd_f [⟨11, 0, 0⟩] 2 (by kernel_rfl) (by kernel_rfl) (fun w h => h.pick [0, 2, 3] (by kernel_rfl) (by kernel_rfl)) (by kernel_rfl) (by kernel_rfl) ?_
        obtain ⟨x_3, hx_14, h⟩ := bd h
        refine jd_v 13 0 (by kernel_rfl) (fun w h => h.pick [0, 2, 3] (by kernel_rfl) (by kernel_rfl)) (by kernel_rfl) (by kernel_rfl) _ (fun w hm => idx_run (a := (some ⟨d1_b, 0, none⟩)) (len := 96) (s := 1) (j := (w64 ((w64 n2.fAt) + (w64 x3.fLate)))) (by kernel_rfl) (ix_some hx_14).1 (ltn hx_14 d1.2) rfl) ?_
        refine toD 14 (by kernel_rfl) (p_str 0 1 d1_b 67 encU32 d1.1 [] (w64 ((w64 n2.fAt) + (w64 x3.fLate))) (bOr .u32 x_2 (bShl .u32 1 (u64 x3.fTrack))) 1 0 [(.int .u32 (bOr .u32 x_2 (bShl .u32 1 (u64 x3.fTrack))))] (by kernel_rfl) (by kernel_rfl) (by kernel_rfl) encU32_len hx_14 (by kernel_rfl) (by kernel_rfl) (jkD (fun w h => h.pick [0, 2, 3] (by kernel_rfl) (by kernel_rfl)) ?_))
        refine jd_end (by kernel_rfl) ?_
        refine jx_then ?_
        refine jc_seq ?_
        refine jc_region ?_
        refine jo_f [(0, 0)] (by kernel_rfl) ?_
        refine jo_end (by kernel_rfl) ?_
        refine jx_then ?_
        refine jc_ret ?_
        obtain rfl := Option.some.inj h
        exact jx_ret [] (.bool true) [] rfl (by kernel_rfl) (by kernel_rfl) (fun w hm => ⟨rfl, hm.pick [0, 1] (by kernel_rfl) (by kernel_rfl)⟩)
      · obtain ⟨hg_15, h⟩ := gd h
        refine p_shl 0 .u32 1 .u64 (u64 x3.fTrack) (by kernel_rfl) (by kernel_rfl) hg_15 (jkD (fun w h => h.pick [0, 2, 3] (by kernel_rfl) (by kernel_rfl)) ?_)
        refine toD 6 (by kernel_rfl) (p_ld 0 (aB (some ⟨d1_b, 0, none⟩)) (aO (some ⟨d1_b, 0, none⟩) + (w64 ((w64 n2.fAt) + (w64 x3.fLate))).toNat * 1) false (encU32 x_2) (by kernel_rfl) (by kernel_rfl) (by kernel_rfl) (fun w hm => ((hm.ownRow (hh := 1) (o := (some d1_b)) (T := 67) (enc := encU32) (xs := d1.1) (sp := []) (by kernel_rfl) (fun e => nomatch e) encU32_len).at hx_12)) (jkD (fun w h => h.pick [0, 2, 3] (by kernel_rfl) (by kernel_rfl)) ?_))
        refine jd_f [⟨11, 0, 0⟩] 2 (by kernel_rfl) (by kernel_rfl) (fun w h => h.pick [0, 2, 3] (by kernel_rfl) (by kernel_rfl)) (by kernel_rfl) (by kernel_rfl) ?_
        obtain ⟨x_3, hx_16, h⟩ := bd h
        refine jd_v 13 0 (by kernel_rfl) (fun w h => h.pick [0, 2, 3] (by kernel_rfl) (by kernel_rfl)) (by kernel_rfl) (by kernel_rfl) _ (fun w hm => idx_run (a := (some ⟨d1_b, 0, none⟩)) (len := 96) (s := 1) (j := (w64 ((w64 n2.fAt) + (w64 x3.fLate)))) (by kernel_rfl) (ix_some hx_16).1 (ltn hx_16 d1.2) rfl) ?_
        refine toD 14 (by kernel_rfl) (p_str 0 1 d1_b 67 encU32 d1.1 [] (w64 ((w64 n2.fAt) + (w64 x3.fLate))) (bOr .u32 x_2 (bShl .u32 1 (u64 x3.fTrack))) 1 0 [(.int .u32 (bOr .u32 x_2 (bShl .u32 1 (u64 x3.fTrack))))] (by kernel_rfl) (by kernel_rfl) (by kernel_rfl) encU32_len hx_16 (by kernel_rfl) (by kernel_rfl) (jkD (fun w h => h.pick [0, 2, 3] (by kernel_rfl) (by kernel_rfl)) ?_))
        refine jd_end (by kernel_rfl) ?_
        refine jx_then ?_
        refine jc_seq ?_
        refine jc_region ?_
        refine jo_f [(0, 0)] (by kernel_rfl) ?_
        refine jo_end (by kernel_rfl) ?_
        refine jx_then ?_
        refine jc_ret ?_
        obtain rfl := Option.some.inj h
        exact jx_ret [] (.bool true) [] rfl (by kernel_rfl) (by kernel_rfl) (fun w hm => ⟨rfl, hm.pick [0, 1] (by kernel_rfl) (by kernel_rfl)⟩)

/-! ### impl.isNote -/
noncomputable def impl_isNote (n0 : GNote) : Option (Bool) := (impl_within (w64 n0.fAt) 0 199).bind fun t_1 => (if t_1 = true then (impl_isPitch (w64 n0.fPitch)).bind fun t_2 => some t_2 else some false)
set_option maxRecDepth 100000 in
theorem impl_isNote.calls (n0 : GNote) (w : World) (r : Bool) (h : impl_isNote n0 = some r) :
    Calls Try.prog 226 #[(.agg #[(.int .i16 n0.fAt), (.int .i8 n0.fPitch)])] w fun e w' => ∃ v, e = .returned v ∧ (v = (.bool r) ∧ Mem w [] [] w') := by
  rw [impl_isNote] at h
  refine enter (args := [(.agg #[(.int .i16 n0.fAt), (.int .i8 n0.fPitch)])]) Try.func226 rfl Try.ntmps226 (by kernel_rfl) (L := []) (W := []) (Mem.start w) ?_
  refine jc_seq ?_
  refine jc_region ?_
  refine toO (by kernel_rfl) (p_a 0 [0] (by kernel_rfl) (fun b => by kernel_rfl) (fun b_1 => jkO ?_))
  refine jo_f [(0, 0)] (by kernel_rfl) ?_
  refine jo_end (by kernel_rfl) ?_
  refine jx_then ?_
  refine jc_seq ?_
  refine jc_region ?_
  refine jo_f [(0, 0), (0, 0), (0, 0)] (by kernel_rfl) ?_
  obtain ⟨t_1, ht_2, h⟩ := bd h
  refine toO (by kernel_rfl) (p_call 0 91 #[(.int .i64 (w64 n0.fAt)), (.int .i64 0), (.int .i64 199)] (by kernel_rfl) (by kernel_rfl) (fun w hm => impl_within.calls (w64 n0.fAt) 0 199 w _ ht_2) ?_)
  rintro w v w' hm ⟨rfl, hm'⟩
  refine ⟨_, hm.app hm', jkO ?_⟩
  clear hm hm'
  refine jo_f [(0, 0), (0, 1), (0, 1), (0, 1)] (by kernel_rfl) ?_
  refine jo_split 7 t_1 (by kernel_rfl) (fun hc_3 => ?_) (fun hc_3 => ?_)
  · replace h := ifT hc_3 h
    obtain ⟨t_2, ht_4, h⟩ := bd h
    refine toO (by kernel_rfl) (p_call 2 207 #[(.int .i64 (w64 n0.fPitch))] (by kernel_rfl) (by kernel_rfl) (fun w hm => impl_isPitch.calls (w64 n0.fPitch) w _ ht_4) ?_)
    rintro w v w' hm ⟨rfl, hm'⟩
    refine ⟨_, hm.app hm', jkO ?_⟩
    clear hm hm'
    refine jo_f [(0, 4), (0, 0)] (by kernel_rfl) ?_
    refine jo_end (by kernel_rfl) ?_
    refine jx_then ?_
    refine jc_ret ?_
    obtain rfl := Option.some.inj h
    exact jx_ret [] (.bool t_2) [] rfl (by kernel_rfl) (by kernel_rfl) (fun w hm => ⟨rfl, hm.pick [] (by kernel_rfl) (by kernel_rfl)⟩)
  · replace h := ifF hc_3 h
    refine jo_f [(0, 3), (0, 5), (0, 0)] (by kernel_rfl) ?_
    refine jo_end (by kernel_rfl) ?_
    refine jx_then ?_
    refine jc_ret ?_
    obtain rfl := Option.some.inj h
    exact jx_ret [] (.bool false) [] rfl (by kernel_rfl) (by kernel_rfl) (fun w hm => ⟨rfl, hm.pick [] (by kernel_rfl) (by kernel_rfl)⟩)

/-! ### cmp.isNaN[int16] -/
noncomputable def cmp_isNaN_int16 (x0 : Int) : Option (Bool) := some (x0 != x0)
set_option maxRecDepth 100000 in
theorem cmp_isNaN_int16.calls (x0 : Int) (w : World) (r : Bool) (h : cmp_isNaN_int16 x0 = some r) :
    Calls Try.prog 237 #[(.int .i16 x0)] w fun e w' => ∃ v, e = .returned v ∧ (v = (.bool r) ∧ Mem w [] [] w') := by
  rw [cmp_isNaN_int16] at h
  refine enter (args := [(.int .i16 x0)]) Try.func237 rfl Try.ntmps237 (by kernel_rfl) (L := []) (W := []) (Mem.start w) ?_
  refine jc_seq ?_
  refine jc_region ?_
  refine jo_f [(0, 0)] (by kernel_rfl) ?_
  refine jo_end (by kernel_rfl) ?_
  refine jx_then ?_
  refine jc_seq ?_
  refine jc_region ?_
  refine jo_f [(0, 0), (0, 0), (0, 0), (0, 0)] (by kernel_rfl) ?_
  refine jo_end (by kernel_rfl) ?_
  refine jx_then ?_
  refine jc_ret ?_
  obtain rfl := Option.some.inj h
  exact jx_ret [] (.bool (x0 != x0)) [] rfl (by kernel_rfl) (by kernel_rfl) (fun w hm => ⟨rfl, hm.pick [] (by kernel_rfl) (by kernel_rfl)⟩)

/-! ### cmp.Compare[int16] -/
noncomputable def cmp_Compare_int16 (x0 : Int) (y1 : Int) : Option (Int) := (cmp_isNaN_int16 x0).bind fun t_1 => (cmp_isNaN_int16 y1).bind fun t_2 => (if t_1 = true then (if t_2 = true then some 0 else some (-1)) else (if t_2 = true then some 1 else (if (decide (x0 < y1)) = true then some (-1) else (if (decide (x0 > y1)) = true then some 1 else some 0))))
set_option maxRecDepth 100000 in
theorem cmp_Compare_int16.calls (x0 : Int) (y1 : Int) (w : World) (r : Int) (h : cmp_Compare_int16 x0 y1 = some r) :
    Calls Try.prog 235 #[(.int .i16 x0), (.int .i16 y1)] w fun e w' => ∃ v, e = .returned v ∧ (v = (.int .i64 r) ∧ Mem w [] [] w') := by
  rw [cmp_Compare_int16] at h
  refine enter (args := [(.int .i16 x0), (.int .i16 y1)]) Try.func235 rfl Try.ntmps235 (by kernel_rfl) (L := []) (W := []) (Mem.start w) ?_
  refine jc_seq ?_
  refine jc_region ?_
  refine jo_f [(0, 0)] (by kernel_rfl) ?_
  refine jo_end (by kernel_rfl) ?_
  refine jx_then ?_
  refine jc_seq ?_
  refine jc_region ?_
  refine jo_f [(0, 0)] (by kernel_rfl) ?_
  obtain ⟨t_1, ht_1, h⟩ := bd h
  refine toO (by kernel_rfl) (p_call 0 237 #[(.int .i16 x0)] (by kernel_rfl) (by kernel_rfl) (fun w hm => cmp_isNaN_int16.calls x0 w _ ht_1) ?_)
  rintro w v w' hm ⟨rfl, hm'⟩
  refine ⟨_, hm.app hm', jkO ?_⟩
  clear hm hm'
  refine jo_f [(0, 0)] (by kernel_rfl) ?_
  refine jo_end (by kernel_rfl) ?_
  refine jx_then ?_
  refine jc_seq ?_
  refine jc_region ?_
  refine jo_f [(0, 0)] (by kernel_rfl) ?_
  obtain ⟨t_2, ht_2, h⟩ := bd h
  refine toO (by kernel_rfl) (p_call 0 237 #[(.int .i16 y1)] (by kernel_rfl) (by kernel_rfl) (fun w hm => cmp_isNaN_int16.calls y1 w _ ht_2) ?_)
  rintro w v w' hm ⟨rfl, hm'⟩
  refine ⟨_, hm.app hm', jkO ?_⟩
  clear hm hm'
  refine jo_f [(0, 0)] (by kernel_rfl) ?_
  refine jo_end (by kernel_rfl) ?_
  refine jx_then ?_
  refine jc_seq ?_
  refine jc_seq ?_
  refine jc_region ?_
  refine jo_f [(0, 0)] (by kernel_rfl) ?_
  refine jo_end (by kernel_rfl) ?_
  refine jx_then ?_
  refine jc_cond t_1 (by kernel_rfl) (fun hc_5 => ?_) (fun hc_5 => ?_)
  · replace h := ifT hc_5 h
    refine jc_seq ?_
    refine jc_seq ?_
    refine jc_region ?_
    refine jo_f [(0, 0)] (by kernel_rfl) ?_
    refine jo_end (by kernel_rfl) ?_
    refine jx_then ?_
    refine jc_cond t_2 (by kernel_rfl) (fun hc_6 => ?_) (fun hc_6 => ?_)
    · replace h := ifT hc_6 h
      refine jc_seq ?_
      refine jc_region ?_
      refine jo_f [(0, 0)] (by kernel_rfl) ?_
      refine jo_end (by kernel_rfl) ?_
      refine jx_then ?_
      refine jc_ret ?_
      refine jx_thenr ?_
      refine jx_thenr ?_
      obtain rfl := Option.some.inj h
      exact jx_ret [] (.int .i64 0) [] rfl (by kernel_rfl) (by kernel_rfl) (fun w hm => ⟨rfl, hm.pick [] (by kernel_rfl) (by kernel_rfl)⟩)
    · replace h := ifF hc_6 h
      refine jc_skip ?_
      refine jx_then ?_
      refine jc_seq ?_
      refine jc_region ?_
      refine jo_f [(0, 0)] (by kernel_rfl) ?_
      refine jo_end (by kernel_rfl) ?_
      refine jx_then ?_
      refine jc_ret ?_
      refine jx_thenr ?_
      obtain rfl := Option.some.inj h
      exact jx_ret [] (.int .i64 (-1)) [] rfl (by kernel_rfl) (by kernel_rfl) (fun w hm => ⟨rfl, hm.pick [] (by kernel_rfl) (by kernel_rfl)⟩)
  · replace h := ifF hc_5 h
    refine jc_skip ?_
    refine jx_then ?_
    refine jc_seq ?_
    refine jc_seq ?_
    refine jc_region ?_
    refine jo_f [(0, 0)] (by kernel_rfl) ?_
    refine jo_end (by kernel_rfl) ?_
    refine jx_then ?_
    refine jc_cond t_2 (by kernel_rfl) (fun hc_8 => ?_) (fun hc_8 => ?_)
    · replace h := ifT hc_8 h
      refine jc_seq ?_
      refine jc_region ?_
      refine jo_f [(0, 0)] (by kernel_rfl) ?_
      refine jo_end (by kernel_rfl) ?_
      refine jx_then ?_
      refine jc_ret ?_
      refine jx_thenr ?_
      obtain rfl := Option.some.inj h
      exact jx_ret [] (.int .i64 1) [] rfl (by kernel_rfl) (by kernel_rfl) (fun w hm => ⟨rfl, hm.pick [] (by kernel_rfl) (by kernel_rfl)⟩)
    · replace h := ifF hc_8 h
      refine jc_skip ?_
      refine jx_then ?_
      refine jc_seq ?_
      refine jc_seq ?_
      refine jc_region ?_
      refine jo_f [(0, 0), (0, 0), (0, 0)] (by kernel_rfl) ?_
      refine jo_end (by kernel_rfl) ?_
      refine jx_then ?_
      refine jc_cond (decide (x0 < y1)) (by kernel_rfl) (fun hc_10 => ?_) (fun hc_10 => ?_)
      · replace h := ifT hc_10 h
        refine jc_seq ?_
        refine jc_region ?_
        refine jo_f [(0, 0)] (by kernel_rfl) ?_
        refine jo_end (by kernel_rfl) ?_
        refine jx_then ?_
        refine jc_ret ?_
        refine jx_thenr ?_
        obtain rfl := Option.some.inj h
        exact jx_ret [] (.int .i64 (-1)) [] rfl (by kernel_rfl) (by kernel_rfl) (fun w hm => ⟨rfl, hm.pick [] (by kernel_rfl) (by kernel_rfl)⟩)
      · replace h := ifF hc_10 h
        refine jc_skip ?_
        refine jx_then ?_
        refine jc_seq ?_
        refine jc_seq ?_
        refine jc_region ?_
        refine jo_f [(0, 0), (0, 0), (0, 0)] (by kernel_rfl) ?_
        refine jo_end (by kernel_rfl) ?_
        refine jx_then ?_
        refine jc_cond (decide (x0 > y1)) (by kernel_rfl) (fun hc_11 => ?_) (fun hc_11 => ?_)
        · replace h := ifT hc_11 h
          refine jc_seq ?_
          refine jc_region ?_
          refine jo_f [(0, 0)] (by kernel_rfl) ?_
          refine jo_end (by kernel_rfl) ?_
          refine jx_then ?_
          refine jc_ret ?_
          refine jx_thenr ?_
          obtain rfl := Option.some.inj h
          exact jx_ret [] (.int .i64 1) [] rfl (by kernel_rfl) (by kernel_rfl) (fun w hm => ⟨rfl, hm.pick [] (by kernel_rfl) (by kernel_rfl)⟩)
        · replace h := ifF hc_11 h
          refine jc_skip ?_
          refine jx_then ?_
          refine jc_seq ?_
          refine jc_region ?_
          refine jo_f [(0, 0)] (by kernel_rfl) ?_
          refine jo_end (by kernel_rfl) ?_
          refine jx_then ?_
          refine jc_ret ?_
          obtain rfl := Option.some.inj h
          exact jx_ret [] (.int .i64 0) [] rfl (by kernel_rfl) (by kernel_rfl) (fun w hm => ⟨rfl, hm.pick [] (by kernel_rfl) (by kernel_rfl)⟩)

/-! ### impl.compareNotes -/
noncomputable def impl_compareNotes (a0 : GNote) (b1 : GNote) : Option (Int) := (cmp_Compare_int16 a0.fAt b1.fAt).bind fun t_1 => (cmp_Compare_int8 a0.fPitch b1.fPitch).bind fun t_2 => (cmp_Or_int [t_1, t_2]).bind fun t_3 => some t_3
set_option maxRecDepth 100000 in
theorem impl_compareNotes.calls (a0 : GNote) (b1 : GNote) (w : World) (r : Int) (h : impl_compareNotes a0 b1 = some r) :
    Calls Try.prog 227 #[(.agg #[(.int .i16 a0.fAt), (.int .i8 a0.fPitch)]), (.agg #[(.int .i16 b1.fAt), (.int .i8 b1.fPitch)])] w fun e w' => ∃ v, e = .returned v ∧ (v = (.int .i64 r) ∧ Mem w [] [] w') := by
  rw [impl_compareNotes] at h
  refine enter (args := [(.agg #[(.int .i16 a0.fAt), (.int .i8 a0.fPitch)]), (.agg #[(.int .i16 b1.fAt), (.int .i8 b1.fPitch)])]) Try.func227 rfl Try.ntmps227 (by kernel_rfl) (L := []) (W := []) (Mem.start w) ?_
  refine jc_seq ?_
  refine jc_region ?_
  refine toO (by kernel_rfl) (p_a 0 [0] (by kernel_rfl) (fun b => by kernel_rfl) (fun b_1 => jkO ?_))
  refine toO (by kernel_rfl) (p_a 0 [0] (by kernel_rfl) (fun b => by kernel_rfl) (fun b_2 => jkO ?_))
  refine jo_f [(0, 0)] (by kernel_rfl) ?_
  refine jo_end (by kernel_rfl) ?_
  refine jx_then ?_
  refine jc_seq ?_
  refine jc_draw [⟨some b_1, 126, [(.int .i16 a0.fAt), (.int .i8 a0.fPitch)]⟩, ⟨some b_2, 126, [(.int .i16 b1.fAt), (.int .i8 b1.fPitch)]⟩] 13 (by kernel_rfl) (by kernel_rfl) ?_
  refine jd_f [⟨0, 0, 0⟩, ⟨1, 0, 0⟩, ⟨2, 0, 0⟩, ⟨3, 1, 0⟩, ⟨5, 0, 0⟩, ⟨6, 0, 0⟩, ⟨7, 0, 0⟩, ⟨8, 1, 0⟩] 5 (by kernel_rfl) (by kernel_rfl) (fun w h => h.pick [0, 1] (by kernel_rfl) (by kernel_rfl)) (by kernel_rfl) (by kernel_rfl) ?_
  obtain ⟨t_1, ht_3, h⟩ := bd h
  refine toD 4 (by kernel_rfl) (p_call 0 235 #[(.int .i16 a0.fAt), (.int .i16 b1.fAt)] (by kernel_rfl) (by kernel_rfl) (fun w hm => cmp_Compare_int16.calls a0.fAt b1.fAt w _ ht_3) ?_)
  rintro w v w' hm ⟨rfl, hm'⟩
  refine ⟨_, hm.app hm', jkD (fun w h => h.pick [0, 1] (by kernel_rfl) (by kernel_rfl)) ?_⟩
  clear hm hm'
  obtain ⟨t_2, ht_4, h⟩ := bd h
  refine toD 9 (by kernel_rfl) (p_call 0 195 #[(.int .i8 a0.fPitch), (.int .i8 b1.fPitch)] (by kernel_rfl) (by kernel_rfl) (fun w hm => cmp_Compare_int8.calls a0.fPitch b1.fPitch w _ ht_4) ?_)
  rintro w v w' hm ⟨rfl, hm'⟩
  refine ⟨_, hm.app hm', jkD (fun w h => h.pick [0, 1] (by kernel_rfl) (by kernel_rfl)) ?_⟩
  clear hm hm'
  refine toD 10 (by kernel_rfl) (p_a 0 [0] (by kernel_rfl) (fun b => by kernel_rfl) (fun b_5 => jkD (fun w h => h.pick [0, 1] (by kernel_rfl) (by kernel_rfl)) ?_))
  obtain ⟨t_3, ht_6, h⟩ := bd h
  refine toD 11 (by kernel_rfl) (p_call 0 194 #[(.slice (some ⟨b_5, 0, none⟩) 2 2)] (by kernel_rfl) (by kernel_rfl) (fun w hm => cmp_Or_int.calls [t_1, t_2] w _ (some ⟨b_5, 0, none⟩) 2 2 (hm.ownRow (hh := 2) (o := (some b_5)) (T := 3) (enc := encI64) (xs := [t_1, t_2]) (sp := []) (by kernel_rfl) (fun e => nomatch e) encI64_len) rfl ht_6) ?_)
  rintro w v w' hm ⟨rfl, hm'⟩
  refine ⟨_, hm.app hm', jkD (fun w h => h.pick [0, 1] (by kernel_rfl) (by kernel_rfl)) ?_⟩
  clear hm hm'
  refine jd_f [⟨12, 0, 0⟩] 0 (by kernel_rfl) (by kernel_rfl) (fun w h => h.pick [0, 1] (by kernel_rfl) (by kernel_rfl)) (by kernel_rfl) (by kernel_rfl) ?_
  refine jd_end (by kernel_rfl) ?_
  refine jx_then ?_
  refine jc_ret ?_
  obtain rfl := Option.some.inj h
  exact jx_ret [] (.int .i64 t_3) [] rfl (by kernel_rfl) (by kernel_rfl) (fun w hm => ⟨rfl, hm.pick [] (by kernel_rfl) (by kernel_rfl)⟩)

/-! ### impl.ValidTune -/
noncomputable def impl_ValidTune.k_1 (t0 : List GNote) : Option (Bool) := some (decide ((t0.length : Int) ≤ 120))
noncomputable def impl_ValidTune.k_7 (i_2 : Int) (q_6 : Bool) : Option ((Int) ⊕ (Bool ⊕ Unit)) := (if q_6 = true then some (.inr (.inl false)) else some (.inl (w64 (i_2 + 1))))
noncomputable def impl_ValidTune.l_3 (t0 : List GNote) : Int → Option ((Int) ⊕ (Bool ⊕ Unit))
  | i_2 => (if (decide (i_2 < (t0.length : Int))) = true then (ix t0 i_2).bind fun x_5 => (impl_isNote x_5).bind fun t_8 => (if (!t_8) = true then impl_ValidTune.k_7 i_2 true else (if (decide (i_2 > 0)) = true then (ix t0 (w64 (i_2 - 1))).bind fun x_9 => (impl_compareNotes x_9 x_5).bind fun t_10 => impl_ValidTune.k_7 i_2 (decide (t_10 ≥ 0)) else impl_ValidTune.k_7 i_2 false)) else some (.inr (.inr ())))
noncomputable def impl_ValidTune (t0 : List GNote) : Option (Bool) := (loop (impl_ValidTune.l_3 t0) 0).bind fun t_4 => match t_4 with | .inl p => some p | .inr p => impl_ValidTune.k_1 t0
set_option maxRecDepth 100000 in
theorem impl_ValidTune.calls (t0 : List GNote) (w : World) (r : Bool) (t0_a : Option Addr) (t0_an : Nat) (t0_c : Nat) (t0_h : Rw w t0_a 2 encGNote t0) (t0_hn : t0.length = t0_an) (h : impl_ValidTune t0 = some r) :
    Calls Try.prog 203 #[(.slice t0_a t0_an t0_c)] w fun e w' => ∃ v, e = .returned v ∧ (v = (.bool r) ∧ Mem w [] [] w') := by
  subst t0_hn
  rw [impl_ValidTune] at h
  refine enter (args := [(.slice t0_a t0.length t0_c)]) Try.func203 rfl Try.ntmps203 (by kernel_rfl) (L := []) (W := []) (Mem.start w) ?_
  refine jc_seq ?_
  refine jc_region ?_
  refine jo_f [(0, 0)] (by kernel_rfl) ?_
  refine jo_end (by kernel_rfl) ?_
  refine jx_then ?_
  refine jc_seq ?_
  refine jc_seq ?_
  refine jc_region ?_
  refine jo_f [(0, 0), (0, 0), (0, 0)] (by kernel_rfl) ?_
  refine jo_end (by kernel_rfl) ?_
  refine jx_then ?_
  refine jc_meet (fun (_ : Unit) => impl_ValidTune.k_1 t0 = some r) (fun (_ : Unit) => [(0, [], (.slice t0_a t0.length t0_c)), (2, [], (.bool false))]) (fun (_ : Unit) => []) ?_ ?_
  · refine jc_block ?_
    obtain ⟨t_4, ht_200, hr_181⟩ := bd h
    refine jc_loop (fun (s : Int) (x : Unit) => match s, x with | i_2, _ => True) (fun (s : Int) (x : Unit) => match s, x with | i_2, _ => [(0, [], (.slice t0_a t0.length t0_c)), (2, [], (.bool false)), (5, [], (.slice t0_a t0.length t0_c)), (6, [], (.int .i64 (t0.length : Int))), (7, [], (.int .i64 i_2))]) (fun (s : Int) (x : Unit) => match s, x with | i_2, _ => []) ht_200 () trivial (by kernel_rfl) [] (by kernel_rfl) (by kernel_rfl) ?_
    rintro i_2 _ y_182 _ h
    rw [impl_ValidTune.l_3] at h
    refine jc_seq ?_
    refine jc_region ?_
    refine jo_f [(0, 0)] (by kernel_rfl) ?_
    refine jo_end (by kernel_rfl) ?_
    refine jx_then ?_
    refine jc_seq ?_
    refine jc_cond (decide (i_2 < (t0.length : Int))) (by kernel_rfl) (fun hc_184 => ?_) (fun hc_184 => ?_)
    · replace h := ifT hc_184 h
      refine jc_skip ?_
      refine jx_then ?_
      refine jc_seq ?_
      refine jc_block ?_
      refine jc_seq ?_
      refine jc_region ?_
      refine jo_f [(0, 0)] (by kernel_rfl) ?_
      obtain ⟨x_5, hx_185, h⟩ := bd h
      refine toO (by kernel_rfl) (p_idx 0 t0_a t0.length i_2 2 (by kernel_rfl) (by kernel_rfl) (ix_some hx_185).1 (ltn hx_185 rfl) (t0_h.sp hx_185) (jkO ?_))
      refine toO (by kernel_rfl) (p_ld 0 (aB t0_a) (aO t0_a + i_2.toNat * 2) true (encGNote x_5) (by kernel_rfl) (by kernel_rfl) (by kernel_rfl) (fun w hm => ((hm.exRow t0_h List.not_mem_nil).at hx_185)) (jkO ?_))
      refine toO (by kernel_rfl) (p_a 0 [0] (by kernel_rfl) (fun b => by kernel_rfl) (fun b_186 => jkO ?_))
      refine jo_f [(0, 0)] (by kernel_rfl) ?_
      refine toO (by kernel_rfl) (p_s 0 [0] (by kernel_rfl) (by kernel_rfl) (jkO ?_))
      refine jo_end (by kernel_rfl) ?_
      refine jx_then ?_
      refine jc_seq ?_
      refine jc_meet (fun (j : Bool) => match j with | q_6 => impl_ValidTune.k_7 i_2 q_6 = some y_182) (fun (j : Bool) => match j with | q_6 => [(0, [], (.slice t0_a t0.length t0_c)), (2, [], (.bool false)), (5, [], (.slice t0_a t0.length t0_c)), (6, [], (.int .i64 (t0.length : Int))), (7, [], (.int .i64 i_2)), (28, [], (.bool q_6))]) (fun (j : Bool) => match j with | q_6 => [⟨some b_186, 126, [(.int .i16 x_5.fAt), (.int .i8 x_5.fPitch)]⟩]) ?_ ?_
      · refine jc_draw [⟨some b_186, 126, [(.int .i16 x_5.fAt), (.int .i8 x_5.fPitch)]⟩] 17 (by kernel_rfl) (by kernel_rfl) ?_
        refine jd_f [⟨0, 0, 0⟩] 16 (by kernel_rfl) (by kernel_rfl) (fun w h => h.pick [0] (by kernel_rfl) (by kernel_rfl)) (by kernel_rfl) (by kernel_rfl) ?_
        obtain ⟨t_8, ht_194, h⟩ := bd h
        refine toD 1 (by kernel_rfl) (p_call 0 226 #[(.agg #[(.int .i16 x_5.fAt), (.int .i8 x_5.fPitch)])] (by kernel_rfl) (by kernel_rfl) (fun w hm => impl_isNote.calls x_5 w _ ht_194) ?_)
        rintro w v w' hm ⟨rfl, hm'⟩
        refine ⟨_, hm.app hm', jkD (fun w h => h.pick [0] (by kernel_rfl) (by kernel_rfl)) ?_⟩
        clear hm hm'
        refine jd_f [⟨2, 0, 0⟩, ⟨3, 0, 0⟩, ⟨4, 0, 1⟩, ⟨5, 0, 1⟩] 11 (by kernel_rfl) (by kernel_rfl) (fun w h => h.pick [0] (by kernel_rfl) (by kernel_rfl)) (by kernel_rfl) (by kernel_rfl) ?_
        refine jd_split 15 (!t_8) (by kernel_rfl) (fun hc_195 => ?_) (fun hc_195 => ?_)
        · replace h := ifT hc_195 h
          refine jd_f [⟨6, 0, 3⟩, ⟨7, 0, 3⟩, ⟨8, 0, 3⟩, ⟨9, 0, 3⟩, ⟨10, 0, 3⟩, ⟨11, 0, 3⟩, ⟨12, 0, 3⟩, ⟨13, 0, 3⟩, ⟨14, 0, 3⟩, ⟨15, 0, 3⟩, ⟨16, 0, 4⟩] 0 (by kernel_rfl) (by kernel_rfl) (fun w h => h.pick [0] (by kernel_rfl) (by kernel_rfl)) (by kernel_rfl) (by kernel_rfl) ?_
          refine jd_end (by kernel_rfl) ?_
          exact jx_meet true h (by kernel_rfl) [0] (by kernel_rfl) (by kernel_rfl)
        · replace h := ifF hc_195 h
          refine jd_f [⟨6, 0, 2⟩, ⟨7, 0, 1⟩, ⟨8, 0, 1⟩, ⟨9, 0, 1⟩, ⟨12, 0, 1⟩] 6 (by kernel_rfl) (by kernel_rfl) (fun w h => h.pick [0] (by kernel_rfl) (by kernel_rfl)) (by kernel_rfl) (by kernel_rfl) ?_
          refine jd_split 18 (decide (i_2 > 0)) (by kernel_rfl) (fun hc_196 => ?_) (fun hc_196 => ?_)
          · replace h := ifT hc_196 h
            obtain ⟨x_9, hx_197, h⟩ := bd h
            refine jd_v 10 2 (by kernel_rfl) (fun w h => h.pick [0] (by kernel_rfl) (by kernel_rfl)) (by kernel_rfl) (by kernel_rfl) _ (fun w hm => idx_run (a := t0_a) (len := t0.length) (s := 2) (j := (w64 (i_2 - 1))) (by kernel_rfl) (ix_some hx_197).1 (ltn hx_197 rfl) (t0_h.sp hx_197)) ?_
            refine jd_v 11 2 (by kernel_rfl) (fun w h => h.pick [0] (by kernel_rfl) (by kernel_rfl)) (by kernel_rfl) (by kernel_rfl) _ (fun w hm => ld_run (b := aB t0_a) (off := (aO t0_a + (w64 (i_2 - 1)).toNat * 2)) (s := 2) (agg := true) (vs := (encGNote x_9)) (by kernel_rfl) (by kernel_rfl) (.inl rfl) ((hm.exRow t0_h List.not_mem_nil).at hx_197)) ?_
            obtain ⟨t_10, ht_198, h⟩ := bd h
            refine toD 13 (by kernel_rfl) (p_call 2 227 #[(.agg #[(.int .i16 x_9.fAt), (.int .i8 x_9.fPitch)]), (.agg #[(.int .i16 x_5.fAt), (.int .i8 x_5.fPitch)])] (by kernel_rfl) (by kernel_rfl) (fun w hm => impl_compareNotes.calls x_9 x_5 w _ ht_198) ?_)
            rintro w v w' hm ⟨rfl, hm'⟩
            refine ⟨_, hm.app hm', jkD (fun w h => h.pick [0] (by kernel_rfl) (by kernel_rfl)) ?_⟩
            clear hm hm'
            refine jd_f [⟨14, 0, 2⟩, ⟨15, 0, 4⟩, ⟨16, 0, 5⟩] 0 (by kernel_rfl) (by kernel_rfl) (fun w h => h.pick [0] (by kernel_rfl) (by kernel_rfl)) (by kernel_rfl) (by kernel_rfl) ?_
            refine jd_end (by kernel_rfl) ?_
            exact jx_meet (decide (t_10 ≥ 0)) h (by kernel_rfl) [0] (by kernel_rfl) (by kernel_rfl)
          · replace h := ifF hc_196 h
            refine jd_f [⟨10, 0, 3⟩, ⟨11, 0, 3⟩, ⟨13, 0, 3⟩, ⟨14, 0, 3⟩, ⟨15, 0, 5⟩, ⟨16, 0, 5⟩] 0 (by kernel_rfl) (by kernel_rfl) (fun w h => h.pick [0] (by kernel_rfl) (by kernel_rfl)) (by kernel_rfl) (by kernel_rfl) ?_
            refine jd_end (by kernel_rfl) ?_
            exact jx_meet false h (by kernel_rfl) [0] (by kernel_rfl) (by kernel_rfl)
      · rintro q_6 h
        replace h : impl_ValidTune.k_7 i_2 q_6 = some y_182 := h
        rw [impl_ValidTune.k_7] at h
        refine jx_then ?_
        refine jc_cond q_6 (by kernel_rfl) (fun hc_192 => ?_) (fun hc_192 => ?_)
        · replace h := ifT hc_192 h
          refine jc_seq ?_
          refine jc_region ?_
          refine jo_f [(0, 0)] (by kernel_rfl) ?_
          refine jo_end (by kernel_rfl) ?_
          refine jx_then ?_
          refine jc_ret ?_
          refine jx_inr ?_
          refine jx_thenr ?_
          refine jx_leaver (.inl false) (Option.some.inj h).symm (fun e_193 => ?_)
          subst e_193
          refine jx_inr ?_
          refine jx_thenr ?_
          refine jx_thenr ?_
          obtain rfl := Option.some.inj hr_181
          exact jx_ret [] (.bool false) [] rfl (by kernel_rfl) (by kernel_rfl) (fun w hm => ⟨rfl, hm.pick [] (by kernel_rfl) (by kernel_rfl)⟩)
        · replace h := ifF hc_192 h
          refine jc_skip ?_
          refine jx_inn ?_
          refine jx_then ?_
          refine jc_region ?_
          refine jo_f [(0, 0), (0, 0)] (by kernel_rfl) ?_
          refine jo_end (by kernel_rfl) ?_
          exact jx_back (w64 (i_2 + 1)) () (Option.some.inj h).symm trivial [] (by kernel_rfl) (by kernel_rfl) (by kernel_rfl)
    · replace h := ifF hc_184 h
      refine jc_exit ?_
      refine jx_thenx ?_
      refine jx_leave (.inr ()) (Option.some.inj h).symm (fun e_199 => ?_)
      subst e_199
      refine jx_ine ?_
      exact jx_meet () hr_181 (by kernel_rfl) [] (by kernel_rfl) (by kernel_rfl)
  · rintro _ h
    replace h : impl_ValidTune.k_1 t0 = some r := h
    rw [impl_ValidTune.k_1] at h
    refine jx_then ?_
    refine jc_seq ?_
    refine jc_region ?_
    refine jo_f [(0, 0), (0, 0), (0, 0), (0, 0)] (by kernel_rfl) ?_
    refine jo_end (by kernel_rfl) ?_
    refine jx_then ?_
    refine jc_ret ?_
    obtain rfl := Option.some.inj h
    exact jx_ret [] (.bool (decide ((t0.length : Int) ≤ 120))) [] rfl (by kernel_rfl) (by kernel_rfl) (fun w hm => ⟨rfl, hm.pick [] (by kernel_rfl) (by kernel_rfl)⟩)

/-! ### impl.tuneCode$1 -/
noncomputable def impl_tuneCode_1 (t0 : List GNote) : Option (Bool) := (impl_ValidTune t0).bind fun t_1 => some (!t_1)
set_option maxRecDepth 100000 in
theorem impl_tuneCode_1.calls (t0 : List GNote) (w : World) (r : Bool) (t0_a : Option Addr) (t0_an : Nat) (t0_c : Nat) (t0_h : Rw w t0_a 2 encGNote t0) (t0_hn : t0.length = t0_an) (h : impl_tuneCode_1 t0 = some r) :
    Calls Try.prog 202 #[(.slice t0_a t0_an t0_c)] w fun e w' => ∃ v, e = .returned v ∧ (v = (.bool r) ∧ Mem w [] [] w') := by
  subst t0_hn
  rw [impl_tuneCode_1] at h
  refine enter (args := [(.slice t0_a t0.length t0_c)]) Try.func202 rfl Try.ntmps202 (by kernel_rfl) (L := []) (W := []) (Mem.start w) ?_
  refine jc_seq ?_
  refine jc_region ?_
  refine jo_f [(0, 0)] (by kernel_rfl) ?_
  refine jo_end (by kernel_rfl) ?_
  refine jx_then ?_
  refine jc_seq ?_
  refine jc_region ?_
  refine jo_f [(0, 0)] (by kernel_rfl) ?_
  obtain ⟨t_1, ht_1, h⟩ := bd h
  refine toO (by kernel_rfl) (p_call 0 203 #[(.slice t0_a t0.length t0_c)] (by kernel_rfl) (by kernel_rfl) (fun w hm => impl_ValidTune.calls t0 w _ t0_a t0.length t0_c (hm.exRow t0_h List.not_mem_nil) rfl ht_1) ?_)
  rintro w v w' hm ⟨rfl, hm'⟩
  refine ⟨_, hm.app hm', jkO ?_⟩
  clear hm hm'
  refine jo_f [(0, 0), (0, 0)] (by kernel_rfl) ?_
  refine jo_end (by kernel_rfl) ?_
  refine jx_then ?_
  refine jc_ret ?_
  obtain rfl := Option.some.inj h
  exact jx_ret [] (.bool (!t_1)) [] rfl (by kernel_rfl) (by kernel_rfl) (fun w hm => ⟨rfl, hm.pick [] (by kernel_rfl) (by kernel_rfl)⟩)

/-! ### slices.IndexFunc[[]impl.Tune,impl.Tune] -/
noncomputable def slices_IndexFunc_Tune_at_impl_tuneCode_1.k_1 : Option (Int) := some (-1)
noncomputable def slices_IndexFunc_Tune_at_impl_tuneCode_1.l_3 (s0 : List (List GNote)) : Int → Option ((Int) ⊕ (Int ⊕ Unit))
  | i_2 => (if (decide (i_2 < (s0.length : Int))) = true then (ix s0 i_2).bind fun x_5 => (impl_tuneCode_1 x_5).bind fun t_6 => (if t_6 = true then some (.inr (.inl i_2)) else some (.inl (w64 (i_2 + 1)))) else some (.inr (.inr ())))
noncomputable def slices_IndexFunc_Tune_at_impl_tuneCode_1 (s0 : List (List GNote)) : Option (Int) := (loop (slices_IndexFunc_Tune_at_impl_tuneCode_1.l_3 s0) 0).bind fun t_4 => match t_4 with | .inl p => some p | .inr p => slices_IndexFunc_Tune_at_impl_tuneCode_1.k_1
set_option maxRecDepth 100000 in
theorem slices_IndexFunc_Tune_at_impl_tuneCode_1.calls (s0 : List (List GNote)) (w : World) (r : Int) (s0_a : Option Addr) (s0_an : Nat) (s0_c : Nat) (s0_hs : List Hd) (s0_h : Rw w s0_a 1 encHd s0_hs) (s0_hn : s0.length = s0_an) (s0_i : Inn w [] 2 encGNote s0_hs s0) (h : slices_IndexFunc_Tune_at_impl_tuneCode_1 s0 = some r) :
    Calls Try.prog 225 #[(.slice s0_a s0_an s0_c), (.func (.func 202) #[] #[])] w fun e w' => ∃ v, e = .returned v ∧ (v = (.int .i64 r) ∧ Mem w [] [] w') := by
  subst s0_hn
  rw [slices_IndexFunc_Tune_at_impl_tuneCode_1] at h
  refine enter (args := [(.slice s0_a s0.length s0_c), (.func (.func 202) #[] #[])]) Try.func225 rfl Try.ntmps225 (by kernel_rfl) (L := []) (W := []) (Mem.start w) ?_
  refine jc_seq ?_
  refine jc_region ?_
  refine jo_f [(0, 0)] (by kernel_rfl) ?_
  refine jo_end (by kernel_rfl) ?_
  refine jx_then ?_
  refine jc_seq ?_
  refine jc_seq ?_
  refine jc_region ?_
  refine jo_f [(0, 0), (0, 0), (0, 0)] (by kernel_rfl) ?_
  refine jo_end (by kernel_rfl) ?_
  refine jx_then ?_
  refine jc_meet (fun (_ : Unit) => slices_IndexFunc_Tune_at_impl_tuneCode_1.k_1 = some r) (fun (_ : Unit) => [(4, [], (.int .i64 0))]) (fun (_ : Unit) => []) ?_ ?_
  · refine jc_block ?_
    obtain ⟨t_4, ht_40, hr_31⟩ := bd h
    refine jc_loop (fun (s : Int) (x : Unit) => match s, x with | i_2, _ => True) (fun (s : Int) (x : Unit) => match s, x with | i_2, _ => [(0, [], (.slice s0_a s0.length s0_c)), (1, [], (.func (.func 202) #[] #[])), (4, [], (.int .i64 0)), (7, [], (.int .i64 (s0.length : Int))), (8, [], (.int .i64 i_2))]) (fun (s : Int) (x : Unit) => match s, x with | i_2, _ => []) ht_40 () trivial (by kernel_rfl) [] (by kernel_rfl) (by kernel_rfl) ?_
    rintro i_2 _ y_32 _ h
    rw [slices_IndexFunc_Tune_at_impl_tuneCode_1.l_3] at h
    refine jc_seq ?_
    refine jc_region ?_
    refine jo_f [(0, 0)] (by kernel_rfl) ?_
    refine jo_end (by kernel_rfl) ?_
    refine jx_then ?_
    refine jc_seq ?_
    refine jc_cond (decide (i_2 < (s0.length : Int))) (by kernel_rfl) (fun hc_34 => ?_) (fun hc_34 => ?_)
    · replace h := ifT hc_34 h
      refine jc_skip ?_
      refine jx_then ?_
      refine jc_seq ?_
      refine jc_block ?_
      refine jc_seq ?_
      refine jc_region ?_
      refine jo_f [(0, 0), (0, 0)] (by kernel_rfl) ?_
      refine jo_end (by kernel_rfl) ?_
      refine jx_then ?_
      refine jc_seq ?_
      refine jc_region ?_
      refine jo_f [(0, 0), (0, 0), (0, 0)] (by kernel_rfl) ?_
      obtain ⟨x_5, hx_35, h⟩ := bd h
      refine toO (by kernel_rfl) (p_idx 0 s0_a s0.length i_2 1 (by kernel_rfl) (by kernel_rfl) (ix_some hx_35).1 (ltn hx_35 rfl) (s0_h.sp (s0_i.ixh hx_35)) (jkO ?_))
      refine toO (by kernel_rfl) (p_ld 0 (aB s0_a) (aO s0_a + i_2.toNat * 1) false (encHd (hd s0_hs i_2)) (by kernel_rfl) (by kernel_rfl) (by kernel_rfl) (fun w hm => ((hm.exRow s0_h List.not_mem_nil).at (s0_i.ixh hx_35))) (jkO ?_))
      obtain ⟨t_6, ht_36, h⟩ := bd h
      refine toO (by kernel_rfl) (p_call 0 202 #[(.slice (hd s0_hs i_2).a ((hd s0_hs i_2).n) ((hd s0_hs i_2).c))] (by kernel_rfl) (by kernel_rfl) (fun w hm => impl_tuneCode_1.calls x_5 w _ (hd s0_hs i_2).a ((hd s0_hs i_2).n) ((hd s0_hs i_2).c) (hm.exRow (s0_i.get hx_35).1 List.not_mem_nil) (s0_i.get hx_35).2.1 ht_36) ?_)
      rintro w v w' hm ⟨rfl, hm'⟩
      refine ⟨_, hm.app hm', jkO ?_⟩
      clear hm hm'
      refine jo_end (by kernel_rfl) ?_
      refine jx_then ?_
      refine jc_cond t_6 (by kernel_rfl) (fun hc_37 => ?_) (fun hc_37 => ?_)
      · replace h := ifT hc_37 h
        refine jc_seq ?_
        refine jc_region ?_
        refine jo_f [(0, 0), (0, 0)] (by kernel_rfl) ?_
        refine jo_end (by kernel_rfl) ?_
        refine jx_then ?_
        refine jc_ret ?_
        refine jx_inr ?_
        refine jx_thenr ?_
        refine jx_leaver (.inl i_2) (Option.some.inj h).symm (fun e_38 => ?_)
        subst e_38
        refine jx_inr ?_
        refine jx_thenr ?_
        refine jx_thenr ?_
        obtain rfl := Option.some.inj hr_31
        exact jx_ret [] (.int .i64 i_2) [] rfl (by kernel_rfl) (by kernel_rfl) (fun w hm => ⟨rfl, hm.pick [] (by kernel_rfl) (by kernel_rfl)⟩)
      · replace h := ifF hc_37 h
        refine jc_skip ?_
        refine jx_inn ?_
        refine jx_then ?_
        refine jc_region ?_
        refine jo_f [(0, 0), (0, 0)] (by kernel_rfl) ?_
        refine jo_end (by kernel_rfl) ?_
        exact jx_back (w64 (i_2 + 1)) () (Option.some.inj h).symm trivial [] (by kernel_rfl) (by kernel_rfl) (by kernel_rfl)
    · replace h := ifF hc_34 h
      refine jc_exit ?_
      refine jx_thenx ?_
      refine jx_leave (.inr ()) (Option.some.inj h).symm (fun e_39 => ?_)
      subst e_39
      refine jx_ine ?_
      exact jx_meet () hr_31 (by kernel_rfl) [] (by kernel_rfl) (by kernel_rfl)
  · rintro _ h
    replace h : slices_IndexFunc_Tune_at_impl_tuneCode_1.k_1 = some r := h
    rw [slices_IndexFunc_Tune_at_impl_tuneCode_1.k_1] at h
    refine jx_then ?_
    refine jc_seq ?_
    refine jc_region ?_
    refine jo_f [(0, 0)] (by kernel_rfl) ?_
    refine jo_end (by kernel_rfl) ?_
    refine jx_then ?_
    refine jc_ret ?_
    obtain rfl := Option.some.inj h
    exact jx_ret [] (.int .i64 (-1)) [] rfl (by kernel_rfl) (by kernel_rfl) (fun w hm => ⟨rfl, hm.pick [] (by kernel_rfl) (by kernel_rfl)⟩)

/-! ### slices.ContainsFunc[[]impl.Tune,impl.Tune] -/
noncomputable def slices_ContainsFunc_Tune_at_impl_tuneCode_1 (s0 : List (List GNote)) : Option (Bool) := (slices_IndexFunc_Tune_at_impl_tuneCode_1 s0).bind fun t_1 => some (decide (t_1 ≥ 0))
set_option maxRecDepth 100000 in
theorem slices_ContainsFunc_Tune_at_impl_tuneCode_1.calls (s0 : List (List GNote)) (w : World) (r : Bool) (s0_a : Option Addr) (s0_an : Nat) (s0_c : Nat) (s0_hs : List Hd) (s0_h : Rw w s0_a 1 encHd s0_hs) (s0_hn : s0.length = s0_an) (s0_i : Inn w [] 2 encGNote s0_hs s0) (h : slices_ContainsFunc_Tune_at_impl_tuneCode_1 s0 = some r) :
    Calls Try.prog 201 #[(.slice s0_a s0_an s0_c), (.func (.func 202) #[] #[])] w fun e w' => ∃ v, e = .returned v ∧ (v = (.bool r) ∧ Mem w [] [] w') := by
  subst s0_hn
  rw [slices_ContainsFunc_Tune_at_impl_tuneCode_1] at h
  refine enter (args := [(.slice s0_a s0.length s0_c), (.func (.func 202) #[] #[])]) Try.func201 rfl Try.ntmps201 (by kernel_rfl) (L := []) (W := []) (Mem.start w) ?_
  refine jc_seq ?_
  refine jc_region ?_
  refine jo_f [(0, 0)] (by kernel_rfl) ?_
  refine jo_end (by kernel_rfl) ?_
  refine jx_then ?_
  refine jc_seq ?_
  refine jc_region ?_
  refine jo_f [(0, 0), (0, 0)] (by kernel_rfl) ?_
  obtain ⟨t_1, ht_1, h⟩ := bd h
  refine toO (by kernel_rfl) (p_call 0 225 #[(.slice s0_a s0.length s0_c), (.func (.func 202) #[] #[])] (by kernel_rfl) (by kernel_rfl) (fun w hm => slices_IndexFunc_Tune_at_impl_tuneCode_1.calls s0 w _ s0_a s0.length s0_c s0_hs (hm.exRow s0_h List.not_mem_nil) rfl (hm.innPass (N := []) s0_i [] (by kernel_rfl)) ht_1) ?_)
  rintro w v w' hm ⟨rfl, hm'⟩
  refine ⟨_, hm.app hm', jkO ?_⟩
  clear hm hm'
  refine jo_f [(0, 0), (0, 0)] (by kernel_rfl) ?_
  refine jo_end (by kernel_rfl) ?_
  refine jx_then ?_
  refine jc_ret ?_
  obtain rfl := Option.some.inj h
  exact jx_ret [] (.bool (decide (t_1 ≥ 0))) [] rfl (by kernel_rfl) (by kernel_rfl) (fun w hm => ⟨rfl, hm.pick [] (by kernel_rfl) (by kernel_rfl)⟩)

/-! ### impl.tuneCode -/
noncomputable def impl_tuneCode (list0 : List (List GNote)) : Option (Int) := (slices_ContainsFunc_Tune_at_impl_tuneCode_1 list0).bind fun t_1 => (impl_unless (!t_1) 1).bind fun t_2 => some t_2
set_option maxRecDepth 100000 in
theorem impl_tuneCode.calls (list0 : List (List GNote)) (w : World) (r : Int) (list0_a : Option Addr) (list0_an : Nat) (list0_c : Nat) (list0_hs : List Hd) (list0_h : Rw w list0_a 1 encHd list0_hs) (list0_hn : list0.length = list0_an) (list0_i : Inn w [] 2 encGNote list0_hs list0) (h : impl_tuneCode list0 = some r) :
    Calls Try.prog 167 #[(.slice list0_a list0_an list0_c)] w fun e w' => ∃ v, e = .returned v ∧ (v = (.int .i64 r) ∧ Mem w [] [] w') := by
  subst list0_hn
  rw [impl_tuneCode] at h
  refine enter (args := [(.slice list0_a list0.length list0_c)]) Try.func167 rfl Try.ntmps167 (by kernel_rfl) (L := []) (W := []) (Mem.start w) ?_
  refine jc_seq ?_
  refine jc_region ?_
  refine jo_f [(0, 0)] (by kernel_rfl) ?_
  refine jo_end (by kernel_rfl) ?_
  refine jx_then ?_
  refine jc_seq ?_
  refine jc_region ?_
  refine jo_f [(0, 0)] (by kernel_rfl) ?_
  obtain ⟨t_1, ht_1, h⟩ := bd h
  refine toO (by kernel_rfl) (p_call 0 201 #[(.slice list0_a list0.length list0_c), (.func (.func 202) #[] #[])] (by kernel_rfl) (by kernel_rfl) (fun w hm => slices_ContainsFunc_Tune_at_impl_tuneCode_1.calls list0 w _ list0_a list0.length list0_c list0_hs (hm.exRow list0_h List.not_mem_nil) rfl (hm.innPass (N := []) list0_i [] (by kernel_rfl)) ht_1) ?_)
  rintro w v w' hm ⟨rfl, hm'⟩
  refine ⟨_, hm.app hm', jkO ?_⟩
  clear hm hm'
  refine jo_f [(0, 0)] (by kernel_rfl) ?_
  obtain ⟨t_2, ht_2, h⟩ := bd h
  refine toO (by kernel_rfl) (p_call 0 71 #[(.bool (!t_1)), (.int .i64 1)] (by kernel_rfl) (by kernel_rfl) (fun w hm => impl_unless.calls (!t_1) 1 w _ ht_2) ?_)
  rintro w v w' hm ⟨rfl, hm'⟩
  refine ⟨_, hm.app hm', jkO ?_⟩
  clear hm hm'
  refine jo_f [(0, 0)] (by kernel_rfl) ?_
  refine jo_end (by kernel_rfl) ?_
  refine jx_then ?_
  refine jc_ret ?_
  obtain rfl := Option.some.inj h
  exact jx_ret [] (.int .i64 t_2) [] rfl (by kernel_rfl) (by kernel_rfl) (fun w hm => ⟨rfl, hm.pick [] (by kernel_rfl) (by kernel_rfl)⟩)

/-! ### impl.ValidChoice -/
noncomputable def impl_ValidChoice (x0 : GChoice) : Option (Bool) := (if x0.fAway = true then some ((x0.fAway == true) && ((x0.fLate == 0) && ((x0.fOctave == 0) && (x0.fTrack == 0)))) else (impl_within (w64 x0.fLate) (-3) 3).bind fun t_1 => (if t_1 = true then (impl_within (w64 x0.fOctave) (-1) 1).bind fun t_2 => (if t_2 = true then (impl_within (w64 x0.fTrack) 0 23).bind fun t_3 => some t_3 else some false) else some false))
set_option maxRecDepth 100000 in
theorem impl_ValidChoice.calls (x0 : GChoice) (w : World) (r : Bool) (h : impl_ValidChoice x0 = some r) :
    Calls Try.prog 211 #[(.agg #[(.bool x0.fAway), (.int .i8 x0.fLate), (.int .i8 x0.fOctave), (.int .i8 x0.fTrack)])] w fun e w' => ∃ v, e = .returned v ∧ (v = (.bool r) ∧ Mem w [] [] w') := by
  rw [impl_ValidChoice] at h
  refine enter (args := [(.agg #[(.bool x0.fAway), (.int .i8 x0.fLate), (.int .i8 x0.fOctave), (.int .i8 x0.fTrack)])]) Try.func211 rfl Try.ntmps211 (by kernel_rfl) (L := []) (W := []) (Mem.start w) ?_
  refine jc_seq ?_
  refine jc_region ?_
  refine toO (by kernel_rfl) (p_a 0 [0] (by kernel_rfl) (fun b => by kernel_rfl) (fun b_1 => jkO ?_))
  refine jo_f [(0, 0)] (by kernel_rfl) ?_
  refine jo_end (by kernel_rfl) ?_
  refine jx_then ?_
  refine jc_seq ?_
  refine jc_seq ?_
  refine jc_region ?_
  refine jo_f [(0, 0), (0, 0)] (by kernel_rfl) ?_
  refine jo_end (by kernel_rfl) ?_
  refine jx_then ?_
  refine jc_cond x0.fAway (by kernel_rfl) (fun hc_3 => ?_) (fun hc_3 => ?_)
  · replace h := ifT hc_3 h
    refine jc_seq ?_
    refine jc_region ?_
    refine jo_f [(0, 0), (0, 0), (0, 0), (0, 0)] (by kernel_rfl) ?_
    refine jo_end (by kernel_rfl) ?_
    refine jx_then ?_
    refine jc_ret ?_
    refine jx_thenr ?_
    obtain rfl := Option.some.inj h
    exact jx_ret [] (.bool ((x0.fAway == true) && ((x0.fLate == 0) && ((x0.fOctave == 0) && (x0.fTrack == 0))))) [] rfl (by kernel_rfl) (by kernel_rfl) (fun w hm => ⟨rfl, hm.pick [] (by kernel_rfl) (by kernel_rfl)⟩)
  · replace h := ifF hc_3 h
    refine jc_skip ?_
    refine jx_then ?_
    refine jc_seq ?_
    refine jc_region ?_
    refine jo_f [(0, 0), (0, 0), (0, 0)] (by kernel_rfl) ?_
    obtain ⟨t_1, ht_4, h⟩ := bd h
    refine toO (by kernel_rfl) (p_call 0 91 #[(.int .i64 (w64 x0.fLate)), (.int .i64 (-3)), (.int .i64 3)] (by kernel_rfl) (by kernel_rfl) (fun w hm => impl_within.calls (w64 x0.fLate) (-3) 3 w _ ht_4) ?_)
    rintro w v w' hm ⟨rfl, hm'⟩
    refine ⟨_, hm.app hm', jkO ?_⟩
    clear hm hm'
    refine jo_f [(0, 0), (0, 1), (0, 1), (0, 1)] (by kernel_rfl) ?_
    refine jo_split 12 t_1 (by kernel_rfl) (fun hc_5 => ?_) (fun hc_5 => ?_)
    · replace h := ifT hc_5 h
      obtain ⟨t_2, ht_6, h⟩ := bd h
      refine toO (by kernel_rfl) (p_call 2 91 #[(.int .i64 (w64 x0.fOctave)), (.int .i64 (-1)), (.int .i64 1)] (by kernel_rfl) (by kernel_rfl) (fun w hm => impl_within.calls (w64 x0.fOctave) (-1) 1 w _ ht_6) ?_)
      rintro w v w' hm ⟨rfl, hm'⟩
      refine ⟨_, hm.app hm', jkO ?_⟩
      clear hm hm'
      refine jo_f [(0, 4), (0, 0), (0, 1), (0, 1), (0, 1)] (by kernel_rfl) ?_
      refine jo_split 18 t_2 (by kernel_rfl) (fun hc_7 => ?_) (fun hc_7 => ?_)
      · replace h := ifT hc_7 h
        obtain ⟨t_3, ht_8, h⟩ := bd h
        refine toO (by kernel_rfl) (p_call 2 91 #[(.int .i64 (w64 x0.fTrack)), (.int .i64 0), (.int .i64 23)] (by kernel_rfl) (by kernel_rfl) (fun w hm => impl_within.calls (w64 x0.fTrack) 0 23 w _ ht_8) ?_)
        rintro w v w' hm ⟨rfl, hm'⟩
        refine ⟨_, hm.app hm', jkO ?_⟩
        clear hm hm'
        refine jo_f [(0, 4), (0, 0)] (by kernel_rfl) ?_
        refine jo_end (by kernel_rfl) ?_
        refine jx_then ?_
        refine jc_ret ?_
        obtain rfl := Option.some.inj h
        exact jx_ret [] (.bool t_3) [] rfl (by kernel_rfl) (by kernel_rfl) (fun w hm => ⟨rfl, hm.pick [] (by kernel_rfl) (by kernel_rfl)⟩)
      · replace h := ifF hc_7 h
        refine jo_f [(0, 3), (0, 5), (0, 0)] (by kernel_rfl) ?_
        refine jo_end (by kernel_rfl) ?_
        refine jx_then ?_
        refine jc_ret ?_
        obtain rfl := Option.some.inj h
        exact jx_ret [] (.bool false) [] rfl (by kernel_rfl) (by kernel_rfl) (fun w hm => ⟨rfl, hm.pick [] (by kernel_rfl) (by kernel_rfl)⟩)
    · replace h := ifF hc_5 h
      refine jo_f [(0, 3), (0, 5), (0, 0), (0, 3), (0, 3), (0, 3), (0, 3), (0, 5), (0, 0)] (by kernel_rfl) ?_
      refine jo_end (by kernel_rfl) ?_
      refine jx_then ?_
      refine jc_ret ?_
      obtain rfl := Option.some.inj h
      exact jx_ret [] (.bool false) [] rfl (by kernel_rfl) (by kernel_rfl) (fun w hm => ⟨rfl, hm.pick [] (by kernel_rfl) (by kernel_rfl)⟩)

/-! ### impl.choicesCode$1 -/
noncomputable def impl_choicesCode_1 (x0 : GChoice) : Option (Bool) := (impl_ValidChoice x0).bind fun t_1 => some (!t_1)
set_option maxRecDepth 100000 in
theorem impl_choicesCode_1.calls (x0 : GChoice) (w : World) (r : Bool) (h : impl_choicesCode_1 x0 = some r) :
    Calls Try.prog 210 #[(.agg #[(.bool x0.fAway), (.int .i8 x0.fLate), (.int .i8 x0.fOctave), (.int .i8 x0.fTrack)])] w fun e w' => ∃ v, e = .returned v ∧ (v = (.bool r) ∧ Mem w [] [] w') := by
  rw [impl_choicesCode_1] at h
  refine enter (args := [(.agg #[(.bool x0.fAway), (.int .i8 x0.fLate), (.int .i8 x0.fOctave), (.int .i8 x0.fTrack)])]) Try.func210 rfl Try.ntmps210 (by kernel_rfl) (L := []) (W := []) (Mem.start w) ?_
  refine jc_seq ?_
  refine jc_region ?_
  refine toO (by kernel_rfl) (p_a 0 [0] (by kernel_rfl) (fun b => by kernel_rfl) (fun b_1 => jkO ?_))
  refine jo_f [(0, 0)] (by kernel_rfl) ?_
  refine jo_end (by kernel_rfl) ?_
  refine jx_then ?_
  refine jc_seq ?_
  refine jc_region ?_
  refine jo_f [(0, 0)] (by kernel_rfl) ?_
  obtain ⟨t_1, ht_2, h⟩ := bd h
  refine toO (by kernel_rfl) (p_call 0 211 #[(.agg #[(.bool x0.fAway), (.int .i8 x0.fLate), (.int .i8 x0.fOctave), (.int .i8 x0.fTrack)])] (by kernel_rfl) (by kernel_rfl) (fun w hm => impl_ValidChoice.calls x0 w _ ht_2) ?_)
  rintro w v w' hm ⟨rfl, hm'⟩
  refine ⟨_, hm.app hm', jkO ?_⟩
  clear hm hm'
  refine jo_f [(0, 0), (0, 0)] (by kernel_rfl) ?_
  refine jo_end (by kernel_rfl) ?_
  refine jx_then ?_
  refine jc_ret ?_
  obtain rfl := Option.some.inj h
  exact jx_ret [] (.bool (!t_1)) [] rfl (by kernel_rfl) (by kernel_rfl) (fun w hm => ⟨rfl, hm.pick [] (by kernel_rfl) (by kernel_rfl)⟩)

/-! ### slices.IndexFunc[[]impl.Choice,impl.Choice] -/
noncomputable def slices_IndexFunc_Choice_at_impl_choicesCode_1.k_1 : Option (Int) := some (-1)
noncomputable def slices_IndexFunc_Choice_at_impl_choicesCode_1.l_3 (s0 : List GChoice) : Int → Option ((Int) ⊕ (Int ⊕ Unit))
  | i_2 => (if (decide (i_2 < (s0.length : Int))) = true then (ix s0 i_2).bind fun x_5 => (impl_choicesCode_1 x_5).bind fun t_6 => (if t_6 = true then some (.inr (.inl i_2)) else some (.inl (w64 (i_2 + 1)))) else some (.inr (.inr ())))
noncomputable def slices_IndexFunc_Choice_at_impl_choicesCode_1 (s0 : List GChoice) : Option (Int) := (loop (slices_IndexFunc_Choice_at_impl_choicesCode_1.l_3 s0) 0).bind fun t_4 => match t_4 with | .inl p => some p | .inr p => slices_IndexFunc_Choice_at_impl_choicesCode_1.k_1
set_option maxRecDepth 100000 in
theorem slices_IndexFunc_Choice_at_impl_choicesCode_1.calls (s0 : List GChoice) (w : World) (r : Int) (s0_a : Option Addr) (s0_an : Nat) (s0_c : Nat) (s0_h : Rw w s0_a 4 encGChoice s0) (s0_hn : s0.length = s0_an) (h : slices_IndexFunc_Choice_at_impl_choicesCode_1 s0 = some r) :
    Calls Try.prog 150 #[(.slice s0_a s0_an s0_c), (.func (.func 210) #[] #[])] w fun e w' => ∃ v, e = .returned v ∧ (v = (.int .i64 r) ∧ Mem w [] [] w') := by
  subst s0_hn
  rw [slices_IndexFunc_Choice_at_impl_choicesCode_1] at h
  refine enter (args := [(.slice s0_a s0.length s0_c), (.func (.func 210) #[] #[])]) Try.func150 rfl Try.ntmps150 (by kernel_rfl) (L := []) (W := []) (Mem.start w) ?_
  refine jc_seq ?_
  refine jc_region ?_
  refine jo_f [(0, 0)] (by kernel_rfl) ?_
  refine jo_end (by kernel_rfl) ?_
  refine jx_then ?_
  refine jc_seq ?_
  refine jc_seq ?_
  refine jc_region ?_
  refine jo_f [(0, 0), (0, 0), (0, 0)] (by kernel_rfl) ?_
  refine jo_end (by kernel_rfl) ?_
  refine jx_then ?_
  refine jc_meet (fun (_ : Unit) => slices_IndexFunc_Choice_at_impl_choicesCode_1.k_1 = some r) (fun (_ : Unit) => [(4, [], (.int .i64 0))]) (fun (_ : Unit) => []) ?_ ?_
  · refine jc_block ?_
    obtain ⟨t_4, ht_40, hr_31⟩ := bd h
    refine jc_loop (fun (s : Int) (x : Unit) => match s, x with | i_2, _ => True) (fun (s : Int) (x : Unit) => match s, x with | i_2, _ => [(0, [], (.slice s0_a s0.length s0_c)), (1, [], (.func (.func 210) #[] #[])), (4, [], (.int .i64 0)), (7, [], (.int .i64 (s0.length : Int))), (8, [], (.int .i64 i_2))]) (fun (s : Int) (x : Unit) => match s, x with | i_2, _ => []) ht_40 () trivial (by kernel_rfl) [] (by kernel_rfl) (by kernel_rfl) ?_
    rintro i_2 _ y_32 _ h
    rw [slices_IndexFunc_Choice_at_impl_choicesCode_1.l_3] at h
    refine jc_seq ?_
    refine jc_region ?_
    refine jo_f [(0, 0)] (by kernel_rfl) ?_
    refine jo_end (by kernel_rfl) ?_
    refine jx_then ?_
    refine jc_seq ?_
    refine jc_cond (decide (i_2 < (s0.length : Int))) (by kernel_rfl) (fun hc_34 => ?_) (fun hc_34 => ?_)
    · replace h := ifT hc_34 h
      refine jc_skip ?_
      refine jx_then ?_
      refine jc_seq ?_
      refine jc_block ?_
      refine jc_seq ?_
      refine jc_region ?_
      refine jo_f [(0, 0), (0, 0)] (by kernel_rfl) ?_
      refine jo_end (by kernel_rfl) ?_
      refine jx_then ?_
      refine jc_seq ?_
      refine jc_region ?_
      refine jo_f [(0, 0), (0, 0), (0, 0)] (by kernel_rfl) ?_
      obtain ⟨x_5, hx_35, h⟩ := bd h
      refine toO (by kernel_rfl) (p_idx 0 s0_a s0.length i_2 4 (by kernel_rfl) (by kernel_rfl) (ix_some hx_35).1 (ltn hx_35 rfl) (s0_h.sp hx_35) (jkO ?_))
      refine toO (by kernel_rfl) (p_ld 0 (aB s0_a) (aO s0_a + i_2.toNat * 4) true (encGChoice x_5) (by kernel_rfl) (by kernel_rfl) (by kernel_rfl) (fun w hm => ((hm.exRow s0_h List.not_mem_nil).at hx_35)) (jkO ?_))
      obtain ⟨t_6, ht_36, h⟩ := bd h
      refine toO (by kernel_rfl) (p_call 0 210 #[(.agg #[(.bool x_5.fAway), (.int .i8 x_5.fLate), (.int .i8 x_5.fOctave), (.int .i8 x_5.fTrack)])] (by kernel_rfl) (by kernel_rfl) (fun w hm => impl_choicesCode_1.calls x_5 w _ ht_36) ?_)
      rintro w v w' hm ⟨rfl, hm'⟩
      refine ⟨_, hm.app hm', jkO ?_⟩
      clear hm hm'
      refine jo_end (by kernel_rfl) ?_
      refine jx_then ?_
      refine jc_cond t_6 (by kernel_rfl) (fun hc_37 => ?_) (fun hc_37 => ?_)
      · replace h := ifT hc_37 h
        refine jc_seq ?_
        refine jc_region ?_
        refine jo_f [(0, 0), (0, 0)] (by kernel_rfl) ?_
        refine jo_end (by kernel_rfl) ?_
        refine jx_then ?_
        refine jc_ret ?_
        refine jx_inr ?_
        refine jx_thenr ?_
        refine jx_leaver (.inl i_2) (Option.some.inj h).symm (fun e_38 => ?_)
        subst e_38
        refine jx_inr ?_
        refine jx_thenr ?_
        refine jx_thenr ?_
        obtain rfl := Option.some.inj hr_31
        exact jx_ret [] (.int .i64 i_2) [] rfl (by kernel_rfl) (by kernel_rfl) (fun w hm => ⟨rfl, hm.pick [] (by kernel_rfl) (by kernel_rfl)⟩)
      · replace h := ifF hc_37 h
        refine jc_skip ?_
        refine jx_inn ?_
        refine jx_then ?_
        refine jc_region ?_
        refine jo_f [(0, 0), (0, 0)] (by kernel_rfl) ?_
        refine jo_end (by kernel_rfl) ?_
        exact jx_back (w64 (i_2 + 1)) () (Option.some.inj h).symm trivial [] (by kernel_rfl) (by kernel_rfl) (by kernel_rfl)
    · replace h := ifF hc_34 h
      refine jc_exit ?_
      refine jx_thenx ?_
      refine jx_leave (.inr ()) (Option.some.inj h).symm (fun e_39 => ?_)
      subst e_39
      refine jx_ine ?_
      exact jx_meet () hr_31 (by kernel_rfl) [] (by kernel_rfl) (by kernel_rfl)
  · rintro _ h
    replace h : slices_IndexFunc_Choice_at_impl_choicesCode_1.k_1 = some r := h
    rw [slices_IndexFunc_Choice_at_impl_choicesCode_1.k_1] at h
    refine jx_then ?_
    refine jc_seq ?_
    refine jc_region ?_
    refine jo_f [(0, 0)] (by kernel_rfl) ?_
    refine jo_end (by kernel_rfl) ?_
    refine jx_then ?_
    refine jc_ret ?_
    obtain rfl := Option.some.inj h
    exact jx_ret [] (.int .i64 (-1)) [] rfl (by kernel_rfl) (by kernel_rfl) (fun w hm => ⟨rfl, hm.pick [] (by kernel_rfl) (by kernel_rfl)⟩)

/-! ### slices.ContainsFunc[[]impl.Choice,impl.Choice] -/
noncomputable def slices_ContainsFunc_Choice_at_impl_choicesCode_1 (s0 : List GChoice) : Option (Bool) := (slices_IndexFunc_Choice_at_impl_choicesCode_1 s0).bind fun t_1 => some (decide (t_1 ≥ 0))
set_option maxRecDepth 100000 in
theorem slices_ContainsFunc_Choice_at_impl_choicesCode_1.calls (s0 : List GChoice) (w : World) (r : Bool) (s0_a : Option Addr) (s0_an : Nat) (s0_c : Nat) (s0_h : Rw w s0_a 4 encGChoice s0) (s0_hn : s0.length = s0_an) (h : slices_ContainsFunc_Choice_at_impl_choicesCode_1 s0 = some r) :
    Calls Try.prog 209 #[(.slice s0_a s0_an s0_c), (.func (.func 210) #[] #[])] w fun e w' => ∃ v, e = .returned v ∧ (v = (.bool r) ∧ Mem w [] [] w') := by
  subst s0_hn
  rw [slices_ContainsFunc_Choice_at_impl_choicesCode_1] at h
  refine enter (args := [(.slice s0_a s0.length s0_c), (.func (.func 210) #[] #[])]) Try.func209 rfl Try.ntmps209 (by kernel_rfl) (L := []) (W := []) (Mem.start w) ?_
  refine jc_seq ?_
  refine jc_region ?_
  refine jo_f [(0, 0)] (by kernel_rfl) ?_
  refine jo_end (by kernel_rfl) ?_
  refine jx_then ?_
  refine jc_seq ?_
  refine jc_region ?_
  refine jo_f [(0, 0), (0, 0)] (by kernel_rfl) ?_
  obtain ⟨t_1, ht_1, h⟩ := bd h
  refine toO (by kernel_rfl) (p_call 0 150 #[(.slice s0_a s0.length s0_c), (.func (.func 210) #[] #[])] (by kernel_rfl) (by kernel_rfl) (fun w hm => slices_IndexFunc_Choice_at_impl_choicesCode_1.calls s0 w _ s0_a s0.length s0_c (hm.exRow s0_h List.not_mem_nil) rfl ht_1) ?_)
  rintro w v w' hm ⟨rfl, hm'⟩
  refine ⟨_, hm.app hm', jkO ?_⟩
  clear hm hm'
  refine jo_f [(0, 0), (0, 0)] (by kernel_rfl) ?_
  refine jo_end (by kernel_rfl) ?_
  refine jx_then ?_
  refine jc_ret ?_
  obtain rfl := Option.some.inj h
  exact jx_ret [] (.bool (decide (t_1 ≥ 0))) [] rfl (by kernel_rfl) (by kernel_rfl) (fun w hm => ⟨rfl, hm.pick [] (by kernel_rfl) (by kernel_rfl)⟩)

/-! ### impl.choicesCode -/
noncomputable def impl_choicesCode (list0 : List GChoice) : Option (Int) := (slices_ContainsFunc_Choice_at_impl_choicesCode_1 list0).bind fun t_1 => (impl_unless (!t_1) 1).bind fun t_2 => some t_2
set_option maxRecDepth 100000 in
theorem impl_choicesCode.calls (list0 : List GChoice) (w : World) (r : Int) (list0_a : Option Addr) (list0_an : Nat) (list0_c : Nat) (list0_h : Rw w list0_a 4 encGChoice list0) (list0_hn : list0.length = list0_an) (h : impl_choicesCode list0 = some r) :
    Calls Try.prog 184 #[(.slice list0_a list0_an list0_c)] w fun e w' => ∃ v, e = .returned v ∧ (v = (.int .i64 r) ∧ Mem w [] [] w') := by
  subst list0_hn
  rw [impl_choicesCode] at h
  refine enter (args := [(.slice list0_a list0.length list0_c)]) Try.func184 rfl Try.ntmps184 (by kernel_rfl) (L := []) (W := []) (Mem.start w) ?_
  refine jc_seq ?_
  refine jc_region ?_
  refine jo_f [(0, 0)] (by kernel_rfl) ?_
  refine jo_end (by kernel_rfl) ?_
  refine jx_then ?_
  refine jc_seq ?_
  refine jc_region ?_
  refine jo_f [(0, 0)] (by kernel_rfl) ?_
  obtain ⟨t_1, ht_1, h⟩ := bd h
  refine toO (by kernel_rfl) (p_call 0 209 #[(.slice list0_a list0.length list0_c), (.func (.func 210) #[] #[])] (by kernel_rfl) (by kernel_rfl) (fun w hm => slices_ContainsFunc_Choice_at_impl_choicesCode_1.calls list0 w _ list0_a list0.length list0_c (hm.exRow list0_h List.not_mem_nil) rfl ht_1) ?_)
  rintro w v w' hm ⟨rfl, hm'⟩
  refine ⟨_, hm.app hm', jkO ?_⟩
  clear hm hm'
  refine jo_f [(0, 0)] (by kernel_rfl) ?_
  obtain ⟨t_2, ht_2, h⟩ := bd h
  refine toO (by kernel_rfl) (p_call 0 71 #[(.bool (!t_1)), (.int .i64 1)] (by kernel_rfl) (by kernel_rfl) (fun w hm => impl_unless.calls (!t_1) 1 w _ ht_2) ?_)
  rintro w v w' hm ⟨rfl, hm'⟩
  refine ⟨_, hm.app hm', jkO ?_⟩
  clear hm hm'
  refine jo_f [(0, 0)] (by kernel_rfl) ?_
  refine jo_end (by kernel_rfl) ?_
  refine jx_then ?_
  refine jc_ret ?_
  obtain rfl := Option.some.inj h
  exact jx_ret [] (.int .i64 t_2) [] rfl (by kernel_rfl) (by kernel_rfl) (fun w hm => ⟨rfl, hm.pick [] (by kernel_rfl) (by kernel_rfl)⟩)

/-! ### impl.tuneFrameCode -/
noncomputable def impl_tuneFrameCode (f0 : GFrame) (t1 : List GNote) (list2 : List GChoice) : Option (Int) := (impl_ValidFrame f0).bind fun t_1 => (impl_unless t_1 1).bind fun t_2 => (impl_tuneCode [t1]).bind fun t_3 => (impl_choicesCode list2).bind fun t_4 => (impl_firstOf [t_2, t_3, t_4]).bind fun t_5 => some t_5
set_option maxRecDepth 100000 in
theorem impl_tuneFrameCode.calls (f0 : GFrame) (t1 : List GNote) (list2 : List GChoice) (w : World) (r : Int) (f0_fHammers_a : Option Addr) (f0_fHammers_an : Nat) (f0_fHammers_c : Nat) (f0_fHammers_h : Rw w f0_fHammers_a 2 encGHammer f0.fHammers) (f0_fHammers_hn : f0.fHammers.length = f0_fHammers_an) (t1_a : Option Addr) (t1_an : Nat) (t1_c : Nat) (t1_h : Rw w t1_a 2 encGNote t1) (t1_hn : t1.length = t1_an) (list2_a : Option Addr) (list2_an : Nat) (list2_c : Nat) (list2_h : Rw w list2_a 4 encGChoice list2) (list2_hn : list2.length = list2_an) (h : impl_tuneFrameCode f0 t1 list2 = some r) :
    Calls Try.prog 143 #[(.agg #[(.int .i16 f0.fSteps), (.slice f0_fHammers_a f0_fHammers_an f0_fHammers_c)]), (.slice t1_a t1_an t1_c), (.slice list2_a list2_an list2_c)] w fun e w' => ∃ v, e = .returned v ∧ (v = (.int .i64 r) ∧ Mem w [] [] w') := by
  subst f0_fHammers_hn t1_hn list2_hn
  rw [impl_tuneFrameCode] at h
  refine enter (args := [(.agg #[(.int .i16 f0.fSteps), (.slice f0_fHammers_a f0.fHammers.length f0_fHammers_c)]), (.slice t1_a t1.length t1_c), (.slice list2_a list2.length list2_c)]) Try.func143 rfl Try.ntmps143 (by kernel_rfl) (L := []) (W := []) (Mem.start w) ?_
  refine jc_seq ?_
  refine jc_region ?_
  refine toO (by kernel_rfl) (p_a 0 [0] (by kernel_rfl) (fun b => by kernel_rfl) (fun b_1 => jkO ?_))
  refine jo_f [(0, 0)] (by kernel_rfl) ?_
  refine jo_end (by kernel_rfl) ?_
  refine jx_then ?_
  refine jc_seq ?_
  refine jc_region ?_
  refine jo_f [(0, 0)] (by kernel_rfl) ?_
  obtain ⟨t_1, ht_2, h⟩ := bd h
  refine toO (by kernel_rfl) (p_call 0 174 #[(.agg #[(.int .i16 f0.fSteps), (.slice f0_fHammers_a f0.fHammers.length f0_fHammers_c)])] (by kernel_rfl) (by kernel_rfl) (fun w hm => impl_ValidFrame.calls f0 w _ f0_fHammers_a f0.fHammers.length f0_fHammers_c (hm.exRow f0_fHammers_h List.not_mem_nil) rfl ht_2) ?_)
  rintro w v w' hm ⟨rfl, hm'⟩
  refine ⟨_, hm.app hm', jkO ?_⟩
  clear hm hm'
  obtain ⟨t_2, ht_3, h⟩ := bd h
  refine toO (by kernel_rfl) (p_call 0 71 #[(.bool t_1), (.int .i64 1)] (by kernel_rfl) (by kernel_rfl) (fun w hm => impl_unless.calls t_1 1 w _ ht_3) ?_)
  rintro w v w' hm ⟨rfl, hm'⟩
  refine ⟨_, hm.app hm', jkO ?_⟩
  clear hm hm'
  refine jo_f [(0, 0)] (by kernel_rfl) ?_
  refine toO (by kernel_rfl) (p_a 0 [0] (by kernel_rfl) (fun b => by kernel_rfl) (fun b_4 => jkO ?_))
  obtain ⟨t_3, ht_5, h⟩ := bd h
  refine toO (by kernel_rfl) (p_call 0 167 #[(.slice (some ⟨b_4, 0, none⟩) 1 1)] (by kernel_rfl) (by kernel_rfl) (fun w hm => impl_tuneCode.calls [t1] w _ (some ⟨b_4, 0, none⟩) 1 1 [⟨t1_a, t1.length, t1_c⟩] (hm.ownRow (hh := 1) (o := (some b_4)) (T := 56) (enc := encHd) (xs := [⟨t1_a, t1.length, t1_c⟩]) (sp := []) (by kernel_rfl) (fun e => nomatch e) encHd_len) rfl (Inn.cons (hm.exRow t1_h List.not_mem_nil) rfl (fun _ => List.not_mem_nil) Inn.nil) ht_5) ?_)
  rintro w v w' hm ⟨rfl, hm'⟩
  refine ⟨_, hm.app hm', jkO ?_⟩
  clear hm hm'
  refine jo_f [(0, 0)] (by kernel_rfl) ?_
  obtain ⟨t_4, ht_6, h⟩ := bd h
  refine toO (by kernel_rfl) (p_call 0 184 #[(.slice list2_a list2.length list2_c)] (by kernel_rfl) (by kernel_rfl) (fun w hm => impl_choicesCode.calls list2 w _ list2_a list2.length list2_c (hm.exRow list2_h List.not_mem_nil) rfl ht_6) ?_)
  rintro w v w' hm ⟨rfl, hm'⟩
  refine ⟨_, hm.app hm', jkO ?_⟩
  clear hm hm'
  refine toO (by kernel_rfl) (p_a 0 [0] (by kernel_rfl) (fun b => by kernel_rfl) (fun b_7 => jkO ?_))
  obtain ⟨t_5, ht_8, h⟩ := bd h
  refine toO (by kernel_rfl) (p_call 0 69 #[(.slice (some ⟨b_7, 0, none⟩) 3 3)] (by kernel_rfl) (by kernel_rfl) (fun w hm => impl_firstOf.calls [t_2, t_3, t_4] w _ (some ⟨b_7, 0, none⟩) 3 3 (hm.ownRow (hh := 2) (o := (some b_7)) (T := 2) (enc := encI64) (xs := [t_2, t_3, t_4]) (sp := []) (by kernel_rfl) (fun e => nomatch e) encI64_len) rfl ht_8) ?_)
  rintro w v w' hm ⟨rfl, hm'⟩
  refine ⟨_, hm.app hm', jkO ?_⟩
  clear hm hm'
  refine jo_f [(0, 0)] (by kernel_rfl) ?_
  refine jo_end (by kernel_rfl) ?_
  refine jx_then ?_
  refine jc_ret ?_
  obtain rfl := Option.some.inj h
  exact jx_ret [] (.int .i64 t_5) [] rfl (by kernel_rfl) (by kernel_rfl) (fun w hm => ⟨rfl, hm.pick [] (by kernel_rfl) (by kernel_rfl)⟩)

/-! ### impl.nearest -/
noncomputable def impl_nearest.k_2 (xs_1 : List Int) : Option ((List Int)) := some xs_1
noncomputable def impl_nearest.l_5 (most0 : Int) : ((List Int) × Int) → Option (((List Int) × Int) ⊕ ((List Int)))
  | (xs_3, i_4) => (if (decide (i_4 ≤ most0)) = true then (if xs_3.length + [(w8 (0 - i_4)), i_4].length ≤ 4294967296 then some (.inl ((xs_3 ++ [(w8 (0 - i_4)), i_4]), (w8 (i_4 + 1)))) else none) else some (.inr xs_3))
noncomputable def impl_nearest (most0 : Int) : Option ((List Int)) := (loop (impl_nearest.l_5 most0) ([0], 1)).bind fun t_6 => impl_nearest.k_2 t_6
set_option maxRecDepth 100000 in
theorem impl_nearest.calls (most0 : Int) (w : World) (r : (List Int)) (h : impl_nearest most0 = some r) :
    Calls Try.prog 151 #[(.int .i8 most0)] w fun e w' => ∃ v, e = .returned v ∧ (∃ (o0 : Option Nat) (c0 : Nat) (s0 : List Value) (n0 : Nat), r.length = n0 ∧ (o0 ≠ none → n0 ≤ c0 ∧ s0.length = (c0 - n0) * 1) ∧ (o0 = none → r = [] ∧ c0 = 0) ∧ v = .slice (o0.map fun b => ⟨b, 0, none⟩) n0 c0 ∧ Mem w [] [⟨o0, 124, row encI8 r s0⟩] w') := by
  rw [impl_nearest] at h
  refine enter (args := [(.int .i8 most0)]) Try.func151 rfl Try.ntmps151 (by kernel_rfl) (L := []) (W := []) (Mem.start w) ?_
  refine jc_seq ?_
  refine jc_region ?_
  refine jo_f [(0, 0)] (by kernel_rfl) ?_
  refine jo_end (by kernel_rfl) ?_
  refine jx_then ?_
  refine jc_seq ?_
  refine jc_region ?_
  refine toO (by kernel_rfl) (p_a 0 [0] (by kernel_rfl) (fun b => by kernel_rfl) (fun b_1 => jkO ?_))
  refine jo_f [(0, 0)] (by kernel_rfl) ?_
  refine jo_end (by kernel_rfl) ?_
  refine jx_then ?_
  refine jc_seq ?_
  refine jc_seq ?_
  refine jc_region ?_
  refine jo_f [(0, 0)] (by kernel_rfl) ?_
  refine jo_end (by kernel_rfl) ?_
  refine jx_then ?_
  refine jc_meet (fun (j : (List Int) × (Option Nat) × Nat × (List Value) × Nat) => match j with | ⟨xs_1, o_137, cap_138, sp_139, n_140⟩ => impl_nearest.k_2 xs_1 = some r ∧ (xs_1.length = n_140) ∧ ((o_137 ≠ none → n_140 ≤ cap_138 ∧ sp_139.length = (cap_138 - n_140) * 1)) ∧ ((o_137 = none → xs_1 = [] ∧ cap_138 = 0))) (fun (j : (List Int) × (Option Nat) × Nat × (List Value) × Nat) => match j with | ⟨xs_1, o_137, cap_138, sp_139, n_140⟩ => [(2, [], (.slice none 0 0)), (3, [], (.slice (o_137.map fun b => ⟨b, 0, none⟩) n_140 cap_138))]) (fun (j : (List Int) × (Option Nat) × Nat × (List Value) × Nat) => match j with | ⟨xs_1, o_137, cap_138, sp_139, n_140⟩ => [⟨o_137, 124, row encI8 xs_1 sp_139⟩]) ?_ ?_
  · refine jc_block ?_
    obtain ⟨t_6, ht_185, hr_173⟩ := bd h
    refine jc_loop (fun (s : (List Int) × Int) (x : (Option Nat) × Nat × (List Value) × Nat) => match s, x with | ⟨xs_3, i_4⟩, ⟨o_167, cap_168, sp_169, n_170⟩ => (xs_3.length = n_170) ∧ ((o_167 ≠ none → n_170 ≤ cap_168 ∧ sp_169.length = (cap_168 - n_170) * 1)) ∧ ((o_167 = none → xs_3 = [] ∧ cap_168 = 0))) (fun (s : (List Int) × Int) (x : (Option Nat) × Nat × (List Value) × Nat) => match s, x with | ⟨xs_3, i_4⟩, ⟨o_167, cap_168, sp_169, n_170⟩ => [(0, [], (.int .i8 most0)), (2, [], (.slice none 0 0)), (3, [], (.slice (o_167.map fun b => ⟨b, 0, none⟩) n_170 cap_168)), (4, [], (.int .i8 i_4))]) (fun (s : (List Int) × Int) (x : (Option Nat) × Nat × (List Value) × Nat) => match s, x with | ⟨xs_3, i_4⟩, ⟨o_167, cap_168, sp_169, n_170⟩ => [⟨o_167, 124, row encI8 xs_3 sp_169⟩]) ht_185 ⟨(some b_1), 1, [], 1⟩ ⟨rfl, (fun _ => ⟨Nat.le_refl _, by simp⟩), (fun e => nomatch e)⟩ (by kernel_rfl) [0] (by kernel_rfl) (by kernel_rfl) ?_
    rintro ⟨xs_3, i_4⟩ ⟨o_167, cap_168, sp_169, n_170⟩ y_174 ⟨rfl, hs_171, ho_172⟩ h
    rw [impl_nearest.l_5] at h
    refine jc_seq ?_
    refine jc_seq ?_
    refine jc_region ?_
    refine jo_f [(0, 0), (0, 0), (0, 0)] (by kernel_rfl) ?_
    refine jo_end (by kernel_rfl) ?_
    refine jx_then ?_
    refine jc_cond (decide (i_4 ≤ most0)) (by kernel_rfl) (fun hc_176 => ?_) (fun hc_176 => ?_)
    · replace h := ifT hc_176 h
      refine jc_skip ?_
      refine jx_then ?_
      refine jc_seq ?_
      refine jc_block ?_
      refine jc_region ?_
      refine jo_f [(0, 0), (0, 0), (0, 0), (0, 0)] (by kernel_rfl) ?_
      refine toO (by kernel_rfl) (p_a 0 [0] (by kernel_rfl) (fun b => by kernel_rfl) (fun b_177 => jkO ?_))
      obtain ⟨hg_178, h⟩ := gd h
      refine toO (by kernel_rfl) (p_apn 0 0 o_167 124 xs_3.length 2 cap_168 1 1 (some ⟨b_177, 0, none⟩) encI8 xs_3 [(w8 (0 - i_4)), i_4] sp_169 (.int .i8 0) rfl rfl (by kernel_rfl) (by kernel_rfl) (by kernel_rfl) encI8_len encI8_cell hs_171 ho_172 (fun w hm => (hm.ownRow (hh := 1) (o := (some b_177)) (T := 124) (enc := encI8) (xs := [(w8 (0 - i_4)), i_4]) (sp := []) (by kernel_rfl) (fun e => nomatch e) encI8_len)) hg_178 (by kernel_rfl) (by kernel_rfl) (fun o_179 cap_180 sp_181 hs_182 ho_183 => jkO ?_))
      refine jo_f [(0, 0)] (by kernel_rfl) ?_
      refine jo_end (by kernel_rfl) ?_
      refine jx_inn ?_
      refine jx_then ?_
      refine jc_region ?_
      refine jo_f [(0, 0), (0, 0), (0, 0)] (by kernel_rfl) ?_
      refine jo_end (by kernel_rfl) ?_
      exact jx_back ((xs_3 ++ [(w8 (0 - i_4)), i_4]), (w8 (i_4 + 1))) ⟨o_179, cap_180, sp_181, (xs_3 ++ [(w8 (0 - i_4)), i_4]).length⟩ (Option.some.inj h).symm ⟨rfl, hs_182, ho_183⟩ [0] (by kernel_rfl) (by kernel_rfl) (by kernel_rfl)
    · replace h := ifF hc_176 h
      refine jc_exit ?_
      refine jx_thenx ?_
      refine jx_leave xs_3 (Option.some.inj h).symm (fun e_184 => ?_)
      subst e_184
      refine jx_ine ?_
      exact jx_meet ⟨xs_3, o_167, cap_168, sp_169, xs_3.length⟩ ⟨hr_173, rfl, hs_171, ho_172⟩ (by kernel_rfl) [0] (by kernel_rfl) (by kernel_rfl)
  · rintro ⟨xs_1, o_137, cap_138, sp_139, n_140⟩ ⟨h, rfl, hs_141, ho_142⟩
    replace h : impl_nearest.k_2 xs_1 = some r := h
    rw [impl_nearest.k_2] at h
    refine jx_then ?_
    refine jc_seq ?_
    refine jc_region ?_
    refine jo_f [(0, 0), (0, 0)] (by kernel_rfl) ?_
    refine jo_end (by kernel_rfl) ?_
    refine jx_then ?_
    refine jc_ret ?_
    obtain rfl := Option.some.inj h
    exact jx_ret [] (.slice (o_137.map fun b => ⟨b, 0, none⟩) xs_1.length cap_138) [] rfl (by kernel_rfl) (by kernel_rfl) (fun w hm => ⟨o_137, cap_138, sp_139, xs_1.length, rfl, hs_141, ho_142, rfl, hm.pick [0] (by kernel_rfl) (by kernel_rfl)⟩)

/-! ### (impl.Frame).choices -/
noncomputable def impl_Frame_choices.k_3 (xs_2 : List GChoice) : Option ((List GChoice)) := (if xs_2.length + [(⟨true, 0, 0, 0⟩ : GChoice)].length ≤ 4294967296 then some (xs_2 ++ [(⟨true, 0, 0, 0⟩ : GChoice)]) else none)
noncomputable def impl_Frame_choices.k_11 (i_5 : Int) (xs_10 : List GChoice) : Option (((List GChoice) × Int) ⊕ ((List GChoice))) := some (.inl (xs_10, (w64 (i_5 + 1))))
noncomputable def impl_Frame_choices.k_18 (i_13 : Int) (xs_17 : List GChoice) : Option (((List GChoice) × Int) ⊕ ((List GChoice))) := some (.inl (xs_17, (w64 (i_13 + 1))))
noncomputable def impl_Frame_choices.l_21 (f0 : GFrame) (n1 : GNote) (x_8 : Int) (x_16 : Int) : ((List GChoice) × Int) → Option (((List GChoice) × Int) ⊕ ((List GChoice)))
  | (xs_19, i_20) => (if (decide (i_20 < (f0.fHammers.length : Int))) = true then (ix f0.fHammers i_20).bind fun x_23 => (impl_within (w64 ((w64 n1.fAt) + (w64 x_8))) 0 (w64 ((w64 f0.fSteps) - 1))).bind fun t_24 => (if (t_24 && ((w64 x_23.fPitch) == (w64 ((w64 n1.fPitch) + (w64 (12 * (w64 x_16))))))) = true then (if xs_19.length + [(⟨false, x_8, x_16, (w8 i_20)⟩ : GChoice)].length ≤ 4294967296 then some (.inl ((xs_19 ++ [(⟨false, x_8, x_16, (w8 i_20)⟩ : GChoice)]), (w64 (i_20 + 1)))) else none) else some (.inl (xs_19, (w64 (i_20 + 1))))) else some (.inr xs_19))
noncomputable def impl_Frame_choices.l_14 (f0 : GFrame) (n1 : GNote) (x_8 : Int) (t_9 : (List Int)) : ((List GChoice) × Int) → Option (((List GChoice) × Int) ⊕ ((List GChoice)))
  | (xs_12, i_13) => (if (decide (i_13 < (t_9.length : Int))) = true then (ix t_9 i_13).bind fun x_16 => (loop (impl_Frame_choices.l_21 f0 n1 x_8 x_16) (xs_12, 0)).bind fun t_22 => impl_Frame_choices.k_18 i_13 t_22 else some (.inr xs_12))
noncomputable def impl_Frame_choices.l_6 (f0 : GFrame) (n1 : GNote) (t_1 : (List Int)) : ((List GChoice) × Int) → Option (((List GChoice) × Int) ⊕ ((List GChoice)))
  | (xs_4, i_5) => (if (decide (i_5 < (t_1.length : Int))) = true then (ix t_1 i_5).bind fun x_8 => (impl_nearest 1).bind fun t_9 => (loop (impl_Frame_choices.l_14 f0 n1 x_8 t_9) (xs_4, 0)).bind fun t_15 => impl_Frame_choices.k_11 i_5 t_15 else some (.inr xs_4))
noncomputable def impl_Frame_choices (f0 : GFrame) (n1 : GNote) : Option ((List GChoice)) := (impl_nearest 3).bind fun t_1 => (loop (impl_Frame_choices.l_6 f0 n1 t_1) (([] : List GChoice), 0)).bind fun t_7 => impl_Frame_choices.k_3 t_7
set_option maxRecDepth 100000 in
theorem impl_Frame_choices.calls (f0 : GFrame) (n1 : GNote) (w : World) (r : (List GChoice)) (f0_fHammers_a : Option Addr) (f0_fHammers_an : Nat) (f0_fHammers_c : Nat) (f0_fHammers_h : Rw w f0_fHammers_a 2 encGHammer f0.fHammers) (f0_fHammers_hn : f0.fHammers.length = f0_fHammers_an) (h : impl_Frame_choices f0 n1 = some r) :
    Calls Try.prog 100 #[(.agg #[(.int .i16 f0.fSteps), (.slice f0_fHammers_a f0_fHammers_an f0_fHammers_c)]), (.agg #[(.int .i16 n1.fAt), (.int .i8 n1.fPitch)])] w fun e w' => ∃ v, e = .returned v ∧ (∃ (o0 : Option Nat) (c0 : Nat) (s0 : List Value) (n0 : Nat), r.length = n0 ∧ (o0 ≠ none → n0 ≤ c0 ∧ s0.length = (c0 - n0) * 4) ∧ (o0 = none → r = [] ∧ c0 = 0) ∧ v = .slice (o0.map fun b => ⟨b, 0, none⟩) n0 c0 ∧ Mem w [] [⟨o0, 130, row encGChoice r s0⟩] w') := by
  subst f0_fHammers_hn
  rw [impl_Frame_choices] at h
  refine enter (args := [(.agg #[(.int .i16 f0.fSteps), (.slice f0_fHammers_a f0.fHammers.length f0_fHammers_c)]), (.agg #[(.int .i16 n1.fAt), (.int .i8 n1.fPitch)])]) Try.func100 rfl Try.ntmps100 (by kernel_rfl) (L := []) (W := []) (Mem.start w) ?_
  refine jc_seq ?_
  refine jc_region ?_
  refine toO (by kernel_rfl) (p_a 0 [0] (by kernel_rfl) (fun b => by kernel_rfl) (fun b_1 => jkO ?_))
  refine toO (by kernel_rfl) (p_a 0 [0] (by kernel_rfl) (fun b => by kernel_rfl) (fun b_2 => jkO ?_))
  refine jo_f [(0, 0)] (by kernel_rfl) ?_
  refine jo_end (by kernel_rfl) ?_
  refine jx_then ?_
  refine jc_seq ?_
  refine jc_region ?_
  refine toO (by kernel_rfl) (p_a 0 [0] (by kernel_rfl) (fun b => by kernel_rfl) (fun b_3 => jkO ?_))
  refine jo_f [(0, 0)] (by kernel_rfl) ?_
  refine jo_end (by kernel_rfl) ?_
  refine jx_then ?_
  refine jc_seq ?_
  refine jc_seq ?_
  refine jc_region ?_
  obtain ⟨t_1, ht_4830, h⟩ := bd h
  refine toO (by kernel_rfl) (p_call 0 151 #[(.int .i8 3)] (by kernel_rfl) (by kernel_rfl) (fun w hm => impl_nearest.calls 3 w _ ht_4830) ?_)
  rintro w v w' hm ⟨o_4831, cap_4832, sp_4833, _, rfl, hs_4834, ho_4835, rfl, hm'⟩
  refine ⟨_, hm.app hm', jkO ?_⟩
  clear hm hm'
  refine jo_f [(0, 0), (0, 0)] (by kernel_rfl) ?_
  refine jo_end (by kernel_rfl) ?_
  refine jx_then ?_
  refine jc_meet (fun (j : (List GChoice) × (Option Nat) × Nat × (List Value) × Nat) => match j with | ⟨xs_2, o_7243, cap_7244, sp_7245, n_7246⟩ => impl_Frame_choices.k_3 xs_2 = some r ∧ (xs_2.length = n_7246) ∧ ((o_7243 ≠ none → n_7246 ≤ cap_7244 ∧ sp_7245.length = (cap_7244 - n_7246) * 4)) ∧ ((o_7243 = none → xs_2 = [] ∧ cap_7244 = 0))) (fun (j : (List GChoice) × (Option Nat) × Nat × (List Value) × Nat) => match j with | ⟨xs_2, o_7243, cap_7244, sp_7245, n_7246⟩ => [(4, [], (.slice none 0 0)), (5, [], (.slice (o_7243.map fun b => ⟨b, 0, none⟩) n_7246 cap_7244))]) (fun (j : (List GChoice) × (Option Nat) × Nat × (List Value) × Nat) => match j with | ⟨xs_2, o_7243, cap_7244, sp_7245, n_7246⟩ => [⟨some b_1, 38, [(.int .i16 f0.fSteps), (.slice f0_fHammers_a f0.fHammers.length f0_fHammers_c)]⟩, ⟨some b_2, 126, [(.int .i16 n1.fAt), (.int .i8 n1.fPitch)]⟩, ⟨o_7243, 130, row encGChoice xs_2 sp_7245⟩, ⟨o_4831, 124, row encI8 t_1 sp_4833⟩]) ?_ ?_
  · refine jc_block ?_
    obtain ⟨t_7, ht_9662, hr_8862⟩ := bd h
    refine jc_loop (fun (s : (List GChoice) × Int) (x : (Option Nat) × Nat × (List Value) × Nat) => match s, x with | ⟨xs_4, i_5⟩, ⟨o_8856, cap_8857, sp_8858, n_8859⟩ => (xs_4.length = n_8859) ∧ ((o_8856 ≠ none → n_8859 ≤ cap_8857 ∧ sp_8858.length = (cap_8857 - n_8859) * 4)) ∧ ((o_8856 = none → xs_4 = [] ∧ cap_8857 = 0))) (fun (s : (List GChoice) × Int) (x : (Option Nat) × Nat × (List Value) × Nat) => match s, x with | ⟨xs_4, i_5⟩, ⟨o_8856, cap_8857, sp_8858, n_8859⟩ => [(2, [], (.pointer (some ⟨b_1, 0, none⟩))), (3, [], (.pointer (some ⟨b_2, 0, none⟩))), (4, [], (.slice none 0 0)), (5, [], (.slice (o_8856.map fun b => ⟨b, 0, none⟩) n_8859 cap_8857)), (15, [], (.slice (o_4831.map fun b => ⟨b, 0, none⟩) t_1.length cap_4832)), (16, [], (.int .i64 (t_1.length : Int))), (17, [], (.int .i64 i_5))]) (fun (s : (List GChoice) × Int) (x : (Option Nat) × Nat × (List Value) × Nat) => match s, x with | ⟨xs_4, i_5⟩, ⟨o_8856, cap_8857, sp_8858, n_8859⟩ => [⟨some b_1, 38, [(.int .i16 f0.fSteps), (.slice f0_fHammers_a f0.fHammers.length f0_fHammers_c)]⟩, ⟨some b_2, 126, [(.int .i16 n1.fAt), (.int .i8 n1.fPitch)]⟩, ⟨o_8856, 130, row encGChoice xs_4 sp_8858⟩, ⟨o_4831, 124, row encI8 t_1 sp_4833⟩]) ht_9662 ⟨(some b_3), 0, [], 0⟩ ⟨rfl, (fun _ => ⟨Nat.le_refl _, by simp⟩), (fun e => nomatch e)⟩ (by kernel_rfl) [0, 1, 2, 3] (by kernel_rfl) (by kernel_rfl) ?_
    rintro ⟨xs_4, i_5⟩ ⟨o_8856, cap_8857, sp_8858, n_8859⟩ y_8863 ⟨rfl, hs_8860, ho_8861⟩ h
    rw [impl_Frame_choices.l_6] at h
    refine jc_seq ?_
    refine jc_region ?_
    refine jo_f [(0, 0)] (by kernel_rfl) ?_
    refine jo_end (by kernel_rfl) ?_
    refine jx_then ?_
    refine jc_seq ?_
    refine jc_cond (decide (i_5 < (t_1.length : Int))) (by kernel_rfl) (fun hc_8865 => ?_) (fun hc_8865 => ?_)
    · replace h := ifT hc_8865 h
      refine jc_skip ?_
      refine jx_then ?_
      refine jc_seq ?_
      refine jc_block ?_
      refine jc_seq ?_
      refine jc_region ?_
      obtain ⟨x_8, hx_8866, h⟩ := bd h
      refine toO (by kernel_rfl) (p_idx 0 (o_4831.map fun b => ⟨b, 0, none⟩) t_1.length i_5 1 (by kernel_rfl) (by kernel_rfl) (ix_some hx_8866).1 (ltn hx_8866 rfl) (spo ho_4835 hx_8866) (jkO ?_))
      refine toO (by kernel_rfl) (p_ld 0 (aB (o_4831.map fun b => ⟨b, 0, none⟩)) (aO (o_4831.map fun b => ⟨b, 0, none⟩) + i_5.toNat * 1) false (encI8 x_8) (by kernel_rfl) (by kernel_rfl) (by kernel_rfl) (fun w hm => ((hm.ownRow (hh := 3) (o := o_4831) (T := 124) (enc := encI8) (xs := t_1) (sp := sp_4833) (by kernel_rfl) (fun e => (ho_4835 e).1) encI8_len).at hx_8866)) (jkO ?_))
      refine jo_f [(0, 0)] (by kernel_rfl) ?_
      refine jo_end (by kernel_rfl) ?_
      refine jx_then ?_
      refine jc_seq ?_
      refine jc_region ?_
      obtain ⟨t_9, ht_8867, h⟩ := bd h
      refine toO (by kernel_rfl) (p_call 0 151 #[(.int .i8 1)] (by kernel_rfl) (by kernel_rfl) (fun w hm => impl_nearest.calls 1 w _ ht_8867) ?_)
      rintro w v w' hm ⟨o_8868, cap_8869, sp_8870, _, rfl, hs_8871, ho_8872, rfl, hm'⟩
      refine ⟨_, hm.app hm', jkO ?_⟩
      clear hm hm'
      refine jo_f [(0, 0), (0, 0)] (by kernel_rfl) ?_
      refine jo_end (by kernel_rfl) ?_
      refine jx_then ?_
      refine jc_meet (fun (j : (List GChoice) × (Option Nat) × Nat × (List Value) × Nat) => match j with | ⟨xs_10, o_9264, cap_9265, sp_9266, n_9267⟩ => impl_Frame_choices.k_11 i_5 xs_10 = some y_8863 ∧ (xs_10.length = n_9267) ∧ ((o_9264 ≠ none → n_9267 ≤ cap_9265 ∧ sp_9266.length = (cap_9265 - n_9267) * 4)) ∧ ((o_9264 = none → xs_10 = [] ∧ cap_9265 = 0))) (fun (j : (List GChoice) × (Option Nat) × Nat × (List Value) × Nat) => match j with | ⟨xs_10, o_9264, cap_9265, sp_9266, n_9267⟩ => [(2, [], (.pointer (some ⟨b_1, 0, none⟩))), (3, [], (.pointer (some ⟨b_2, 0, none⟩))), (4, [], (.slice none 0 0)), (5, [], (.slice (o_9264.map fun b => ⟨b, 0, none⟩) n_9267 cap_9265)), (15, [], (.slice (o_4831.map fun b => ⟨b, 0, none⟩) t_1.length cap_4832)), (16, [], (.int .i64 (t_1.length : Int))), (17, [], (.int .i64 i_5))]) (fun (j : (List GChoice) × (Option Nat) × Nat × (List Value) × Nat) => match j with | ⟨xs_10, o_9264, cap_9265, sp_9266, n_9267⟩ => [⟨some b_1, 38, [(.int .i16 f0.fSteps), (.slice f0_fHammers_a f0.fHammers.length f0_fHammers_c)]⟩, ⟨some b_2, 126, [(.int .i16 n1.fAt), (.int .i8 n1.fPitch)]⟩, ⟨o_9264, 130, row encGChoice xs_10 sp_9266⟩, ⟨o_4831, 124, row encI8 t_1 sp_4833⟩, ⟨o_8868, 124, row encI8 t_9 sp_8870⟩]) ?_ ?_
      · refine jc_block ?_
        obtain ⟨t_15, ht_9660, hr_9532⟩ := bd h
        refine jc_loop (fun (s : (List GChoice) × Int) (x : (Option Nat) × Nat × (List Value) × Nat) => match s, x with | ⟨xs_12, i_13⟩, ⟨o_9526, cap_9527, sp_9528, n_9529⟩ => (xs_12.length = n_9529) ∧ ((o_9526 ≠ none → n_9529 ≤ cap_9527 ∧ sp_9528.length = (cap_9527 - n_9529) * 4)) ∧ ((o_9526 = none → xs_12 = [] ∧ cap_9527 = 0))) (fun (s : (List GChoice) × Int) (x : (Option Nat) × Nat × (List Value) × Nat) => match s, x with | ⟨xs_12, i_13⟩, ⟨o_9526, cap_9527, sp_9528, n_9529⟩ => [(2, [], (.pointer (some ⟨b_1, 0, none⟩))), (3, [], (.pointer (some ⟨b_2, 0, none⟩))), (4, [], (.slice none 0 0)), (5, [], (.slice (o_9526.map fun b => ⟨b, 0, none⟩) n_9529 cap_9527)), (7, [], (.int .i8 x_8)), (15, [], (.slice (o_4831.map fun b => ⟨b, 0, none⟩) t_1.length cap_4832)), (16, [], (.int .i64 (t_1.length : Int))), (17, [], (.int .i64 i_5)), (21, [], (.slice (o_8868.map fun b => ⟨b, 0, none⟩) t_9.length cap_8869)), (22, [], (.int .i64 (t_9.length : Int))), (23, [], (.int .i64 i_13))]) (fun (s : (List GChoice) × Int) (x : (Option Nat) × Nat × (List Value) × Nat) => match s, x with | ⟨xs_12, i_13⟩, ⟨o_9526, cap_9527, sp_9528, n_9529⟩ => [⟨some b_1, 38, [(.int .i16 f0.fSteps), (.slice f0_fHammers_a f0.fHammers.length f0_fHammers_c)]⟩, ⟨some b_2, 126, [(.int .i16 n1.fAt), (.int .i8 n1.fPitch)]⟩, ⟨o_9526, 130, row encGChoice xs_12 sp_9528⟩, ⟨o_4831, 124, row encI8 t_1 sp_4833⟩, ⟨o_8868, 124, row encI8 t_9 sp_8870⟩]) ht_9660 ⟨o_8856, cap_8857, sp_8858, xs_4.length⟩ ⟨rfl, hs_8860, ho_8861⟩ (by kernel_rfl) [0, 1, 2, 3, 4] (by kernel_rfl) (by kernel_rfl) ?_
        rintro ⟨xs_12, i_13⟩ ⟨o_9526, cap_9527, sp_9528, n_9529⟩ y_9533 ⟨rfl, hs_9530, ho_9531⟩ h
        rw [impl_Frame_choices.l_14] at h
        refine jc_seq ?_
        refine jc_region ?_
        refine jo_f [(0, 0)] (by kernel_rfl) ?_
        refine jo_end (by kernel_rfl) ?_
        refine jx_then ?_
        refine jc_seq ?_
        refine jc_cond (decide (i_13 < (t_9.length : Int))) (by kernel_rfl) (fun hc_9535 => ?_) (fun hc_9535 => ?_)
        · replace h := ifT hc_9535 h
          refine jc_skip ?_
          refine jx_then ?_
          refine jc_seq ?_
          refine jc_block ?_
          refine jc_seq ?_
          refine jc_region ?_
          obtain ⟨x_16, hx_9536, h⟩ := bd h
          refine toO (by kernel_rfl) (p_idx 0 (o_8868.map fun b => ⟨b, 0, none⟩) t_9.length i_13 1 (by kernel_rfl) (by kernel_rfl) (ix_some hx_9536).1 (ltn hx_9536 rfl) (spo ho_8872 hx_9536) (jkO ?_))
          refine toO (by kernel_rfl) (p_ld 0 (aB (o_8868.map fun b => ⟨b, 0, none⟩)) (aO (o_8868.map fun b => ⟨b, 0, none⟩) + i_13.toNat * 1) false (encI8 x_16) (by kernel_rfl) (by kernel_rfl) (by kernel_rfl) (fun w hm => ((hm.ownRow (hh := 4) (o := o_8868) (T := 124) (enc := encI8) (xs := t_9) (sp := sp_8870) (by kernel_rfl) (fun e => (ho_8872 e).1) encI8_len).at hx_9536)) (jkO ?_))
          refine jo_f [(0, 0)] (by kernel_rfl) ?_
          refine jo_end (by kernel_rfl) ?_
          refine jx_then ?_
          refine jc_seq ?_
          refine jc_region ?_
          refine jo_f [(0, 0), (0, 0), (0, 0), (0, 0)] (by kernel_rfl) ?_
          refine jo_end (by kernel_rfl) ?_
          refine jx_then ?_
          refine jc_meet (fun (j : (List GChoice) × (Option Nat) × Nat × (List Value) × Nat) => match j with | ⟨xs_17, o_9595, cap_9596, sp_9597, n_9598⟩ => impl_Frame_choices.k_18 i_13 xs_17 = some y_9533 ∧ (xs_17.length = n_9598) ∧ ((o_9595 ≠ none → n_9598 ≤ cap_9596 ∧ sp_9597.length = (cap_9596 - n_9598) * 4)) ∧ ((o_9595 = none → xs_17 = [] ∧ cap_9596 = 0))) (fun (j : (List GChoice) × (Option Nat) × Nat × (List Value) × Nat) => match j with | ⟨xs_17, o_9595, cap_9596, sp_9597, n_9598⟩ => [(2, [], (.pointer (some ⟨b_1, 0, none⟩))), (3, [], (.pointer (some ⟨b_2, 0, none⟩))), (4, [], (.slice none 0 0)), (5, [], (.slice (o_9595.map fun b => ⟨b, 0, none⟩) n_9598 cap_9596)), (7, [], (.int .i8 x_8)), (15, [], (.slice (o_4831.map fun b => ⟨b, 0, none⟩) t_1.length cap_4832)), (16, [], (.int .i64 (t_1.length : Int))), (17, [], (.int .i64 i_5)), (21, [], (.slice (o_8868.map fun b => ⟨b, 0, none⟩) t_9.length cap_8869)), (22, [], (.int .i64 (t_9.length : Int))), (23, [], (.int .i64 i_13))]) (fun (j : (List GChoice) × (Option Nat) × Nat × (List Value) × Nat) => match j with | ⟨xs_17, o_9595, cap_9596, sp_9597, n_9598⟩ => [⟨some b_1, 38, [(.int .i16 f0.fSteps), (.slice f0_fHammers_a f0.fHammers.length f0_fHammers_c)]⟩, ⟨some b_2, 126, [(.int .i16 n1.fAt), (.int .i8 n1.fPitch)]⟩, ⟨o_9595, 130, row encGChoice xs_17 sp_9597⟩, ⟨o_4831, 124, row encI8 t_1 sp_4833⟩, ⟨o_8868, 124, row encI8 t_9 sp_8870⟩]) ?_ ?_
          · refine jc_block ?_
            obtain ⟨t_22, ht_9658, hr_9641⟩ := bd h
            refine jc_loop (fun (s : (List GChoice) × Int) (x : (Option Nat) × Nat × (List Value) × Nat) => match s, x with | ⟨xs_19, i_20⟩, ⟨o_9635, cap_9636, sp_9637, n_9638⟩ => (xs_19.length = n_9638) ∧ ((o_9635 ≠ none → n_9638 ≤ cap_9636 ∧ sp_9637.length = (cap_9636 - n_9638) * 4)) ∧ ((o_9635 = none → xs_19 = [] ∧ cap_9636 = 0))) (fun (s : (List GChoice) × Int) (x : (Option Nat) × Nat × (List Value) × Nat) => match s, x with | ⟨xs_19, i_20⟩, ⟨o_9635, cap_9636, sp_9637, n_9638⟩ => [(2, [], (.pointer (some ⟨b_1, 0, none⟩))), (3, [], (.pointer (some ⟨b_2, 0, none⟩))), (4, [], (.slice none 0 0)), (5, [], (.slice (o_9635.map fun b => ⟨b, 0, none⟩) n_9638 cap_9636)), (7, [], (.int .i8 x_8)), (9, [], (.int .i8 x_16)), (15, [], (.slice (o_4831.map fun b => ⟨b, 0, none⟩) t_1.length cap_4832)), (16, [], (.int .i64 (t_1.length : Int))), (17, [], (.int .i64 i_5)), (21, [], (.slice (o_8868.map fun b => ⟨b, 0, none⟩) t_9.length cap_8869)), (22, [], (.int .i64 (t_9.length : Int))), (23, [], (.int .i64 i_13)), (28, [], (.slice f0_fHammers_a f0.fHammers.length f0_fHammers_c)), (29, [], (.int .i64 (f0.fHammers.length : Int))), (30, [], (.int .i64 i_20))]) (fun (s : (List GChoice) × Int) (x : (Option Nat) × Nat × (List Value) × Nat) => match s, x with | ⟨xs_19, i_20⟩, ⟨o_9635, cap_9636, sp_9637, n_9638⟩ => [⟨some b_1, 38, [(.int .i16 f0.fSteps), (.slice f0_fHammers_a f0.fHammers.length f0_fHammers_c)]⟩, ⟨some b_2, 126, [(.int .i16 n1.fAt), (.int .i8 n1.fPitch)]⟩, ⟨o_9635, 130, row encGChoice xs_19 sp_9637⟩, ⟨o_4831, 124, row encI8 t_1 sp_4833⟩, ⟨o_8868, 124, row encI8 t_9 sp_8870⟩]) ht_9658 ⟨o_9526, cap_9527, sp_9528, xs_12.length⟩ ⟨rfl, hs_9530, ho_9531⟩ (by kernel_rfl) [0, 1, 2, 3, 4] (by kernel_rfl) (by kernel_rfl) ?_
            rintro ⟨xs_19, i_20⟩ ⟨o_9635, cap_9636, sp_9637, n_9638⟩ y_9642 ⟨rfl, hs_9639, ho_9640⟩ h
            rw [impl_Frame_choices.l_21] at h
            refine jc_seq ?_
            refine jc_region ?_
            refine jo_f [(0, 0)] (by kernel_rfl) ?_
            refine jo_end (by kernel_rfl) ?_
            refine jx_then ?_
            refine jc_seq ?_
            refine jc_cond (decide (i_20 < (f0.fHammers.length : Int))) (by kernel_rfl) (fun hc_9644 => ?_) (fun hc_9644 => ?_)
            · replace h := ifT hc_9644 h
              refine jc_skip ?_
              refine jx_then ?_
              refine jc_seq ?_
              refine jc_block ?_
              refine jc_seq ?_
              refine jc_region ?_
              refine jo_f [(0, 0)] (by kernel_rfl) ?_
              obtain ⟨x_23, hx_9645, h⟩ := bd h
              refine toO (by kernel_rfl) (p_idx 0 f0_fHammers_a f0.fHammers.length i_20 2 (by kernel_rfl) (by kernel_rfl) (ix_some hx_9645).1 (ltn hx_9645 rfl) (f0_fHammers_h.sp hx_9645) (jkO ?_))
              refine toO (by kernel_rfl) (p_ld 0 (aB f0_fHammers_a) (aO f0_fHammers_a + i_20.toNat * 2) true (encGHammer x_23) (by kernel_rfl) (by kernel_rfl) (by kernel_rfl) (fun w hm => ((hm.exRow f0_fHammers_h List.not_mem_nil).at hx_9645)) (jkO ?_))
              refine toO (by kernel_rfl) (p_a 0 [0] (by kernel_rfl) (fun b => by kernel_rfl) (fun b_9646 => jkO ?_))
              refine jo_f [(0, 0)] (by kernel_rfl) ?_
              refine toO (by kernel_rfl) (p_s 0 [5] (by kernel_rfl) (by kernel_rfl) (jkO ?_))
              refine jo_end (by kernel_rfl) ?_
              refine jx_then ?_
              refine jc_seq ?_
              refine jc_draw [⟨some b_1, 38, [(.int .i16 f0.fSteps), (.slice f0_fHammers_a f0.fHammers.length f0_fHammers_c)]⟩, ⟨some b_2, 126, [(.int .i16 n1.fAt), (.int .i8 n1.fPitch)]⟩, ⟨o_9635, 130, row encGChoice xs_19 sp_9637⟩, ⟨o_4831, 124, row encI8 t_1 sp_4833⟩, ⟨o_8868, 124, row encI8 t_9 sp_8870⟩, ⟨some b_9646, 178, [(.int .i8 x_23.fPitch), (.int .i8 x_23.fReady)]⟩] 15 (by kernel_rfl) (by kernel_rfl) ?_
              refine jd_f [⟨0, 0, 0⟩, ⟨1, 1, 0⟩, ⟨2, 0, 0⟩, ⟨3, 0, 0⟩, ⟨4, 0, 0⟩, ⟨5, 0, 0⟩, ⟨6, 0, 0⟩, ⟨7, 1, 0⟩, ⟨8, 0, 0⟩, ⟨9, 0, 0⟩, ⟨10, 0, 0⟩, ⟨11, 0, 0⟩, ⟨12, 0, 0⟩, ⟨13, 0, 0⟩, ⟨14, 0, 0⟩] 0 (by kernel_rfl) (by kernel_rfl) (fun w h => h.pick [0, 1, 2, 3, 4, 5] (by kernel_rfl) (by kernel_rfl)) (by kernel_rfl) (by kernel_rfl) ?_
              refine jd_end (by kernel_rfl) ?_
              refine jx_then ?_
              refine jc_seq ?_
              refine jc_region ?_
              refine jo_f [(0, 0), (0, 0), (0, 0), (0, 0), (0, 0)] (by kernel_rfl) ?_
              obtain ⟨t_24, ht_9648, h⟩ := bd h
              refine toO (by kernel_rfl) (p_call 0 91 #[(.int .i64 (w64 ((w64 n1.fAt) + (w64 x_8)))), (.int .i64 0), (.int .i64 (w64 ((w64 f0.fSteps) - 1)))] (by kernel_rfl) (by kernel_rfl) (fun w hm => impl_within.calls (w64 ((w64 n1.fAt) + (w64 x_8))) 0 (w64 ((w64 f0.fSteps) - 1)) w _ ht_9648) ?_)
              rintro w v w' hm ⟨rfl, hm'⟩
              refine ⟨_, hm.app hm', jkO ?_⟩
              clear hm hm'
              refine jo_f [(0, 0), (0, 1), (5, 1), (0, 1), (0, 1), (0, 1), (0, 0)] (by kernel_rfl) ?_
              refine jo_end (by kernel_rfl) ?_
              refine jx_then ?_
              refine jc_cond (t_24 && ((w64 x_23.fPitch) == (w64 ((w64 n1.fPitch) + (w64 (12 * (w64 x_16))))))) (by kernel_rfl) (fun hc_9649 => ?_) (fun hc_9649 => ?_)
              · replace h := ifT hc_9649 h
                refine jc_region ?_
                refine jo_f [(0, 0), (0, 0), (0, 0), (0, 0), (0, 0), (0, 0)] (by kernel_rfl) ?_
                refine toO (by kernel_rfl) (p_a 0 [0] (by kernel_rfl) (fun b => by kernel_rfl) (fun b_9650 => jkO ?_))
                obtain ⟨hg_9651, h⟩ := gd h
                refine toO (by kernel_rfl) (p_apn 0 2 o_9635 130 xs_19.length 1 cap_9636 4 4 (some ⟨b_9650, 0, none⟩) encGChoice xs_19 [(⟨false, x_8, x_16, (w8 i_20)⟩ : GChoice)] sp_9637 (.agg #[(.bool false), (.int .i8 0), (.int .i8 0), (.int .i8 0)]) rfl rfl (by kernel_rfl) (by kernel_rfl) (by kernel_rfl) encGChoice_len encGChoice_cell hs_9639 ho_9640 (fun w hm => (hm.ownRow (hh := 6) (o := (some b_9650)) (T := 130) (enc := encGChoice) (xs := [(⟨false, x_8, x_16, (w8 i_20)⟩ : GChoice)]) (sp := []) (by kernel_rfl) (fun e => nomatch e) encGChoice_len)) hg_9651 (by kernel_rfl) (by kernel_rfl) (fun o_9652 cap_9653 sp_9654 hs_9655 ho_9656 => jkO ?_))
                refine jo_f [(0, 0)] (by kernel_rfl) ?_
                refine jo_end (by kernel_rfl) ?_
                refine jx_inn ?_
                refine jx_then ?_
                refine jc_region ?_
                refine jo_f [(0, 0), (0, 0)] (by kernel_rfl) ?_
                refine jo_end (by kernel_rfl) ?_
                exact jx_back ((xs_19 ++ [(⟨false, x_8, x_16, (w8 i_20)⟩ : GChoice)]), (w64 (i_20 + 1))) ⟨o_9652, cap_9653, sp_9654, (xs_19 ++ [(⟨false, x_8, x_16, (w8 i_20)⟩ : GChoice)]).length⟩ (Option.some.inj h).symm ⟨rfl, hs_9655, ho_9656⟩ [0, 1, 2, 3, 4] (by kernel_rfl) (by kernel_rfl) (by kernel_rfl)
              · replace h := ifF hc_9649 h
                refine jc_skip ?_
                refine jx_inn ?_
                refine jx_then ?_
                refine jc_region ?_
                refine jo_f [(0, 0), (0, 0)] (by kernel_rfl) ?_
                refine jo_end (by kernel_rfl) ?_
                exact jx_back (xs_19, (w64 (i_20 + 1))) ⟨o_9635, cap_9636, sp_9637, xs_19.length⟩ (Option.some.inj h).symm ⟨rfl, hs_9639, ho_9640⟩ [0, 1, 2, 3, 4] (by kernel_rfl) (by kernel_rfl) (by kernel_rfl)
            · replace h := ifF hc_9644 h
              refine jc_exit ?_
              refine jx_thenx ?_
              refine jx_leave xs_19 (Option.some.inj h).symm (fun e_9657 => ?_)
              subst e_9657
              refine jx_ine ?_
              exact jx_meet ⟨xs_19, o_9635, cap_9636, sp_9637, xs_19.length⟩ ⟨hr_9641, rfl, hs_9639, ho_9640⟩ (by kernel_rfl) [0, 1, 2, 3, 4] (by kernel_rfl) (by kernel_rfl)
          · rintro ⟨xs_17, o_9595, cap_9596, sp_9597, n_9598⟩ ⟨h, rfl, hs_9599, ho_9600⟩
            replace h : impl_Frame_choices.k_18 i_13 xs_17 = some y_9533 := h
            rw [impl_Frame_choices.k_18] at h
            refine jx_inn ?_
            refine jx_then ?_
            refine jc_region ?_
            refine jo_f [(0, 0), (0, 0)] (by kernel_rfl) ?_
            refine jo_end (by kernel_rfl) ?_
            exact jx_back (xs_17, (w64 (i_13 + 1))) ⟨o_9595, cap_9596, sp_9597, xs_17.length⟩ (Option.some.inj h).symm ⟨rfl, hs_9599, ho_9600⟩ [0, 1, 2, 3, 4] (by kernel_rfl) (by kernel_rfl) (by kernel_rfl)
        · replace h := ifF hc_9535 h
          refine jc_exit ?_
          refine jx_thenx ?_
          refine jx_leave xs_12 (Option.some.inj h).symm (fun e_9659 => ?_)
          subst e_9659
          refine jx_ine ?_
          exact jx_meet ⟨xs_12, o_9526, cap_9527, sp_9528, xs_12.length⟩ ⟨hr_9532, rfl, hs_9530, ho_9531⟩ (by kernel_rfl) [0, 1, 2, 3, 4] (by kernel_rfl) (by kernel_rfl)
      · rintro ⟨xs_10, o_9264, cap_9265, sp_9266, n_9267⟩ ⟨h, rfl, hs_9268, ho_9269⟩
        replace h : impl_Frame_choices.k_11 i_5 xs_10 = some y_8863 := h
        rw [impl_Frame_choices.k_11] at h
        refine jx_inn ?_
        refine jx_then ?_
        refine jc_region ?_
        refine jo_f [(0, 0), (0, 0)] (by kernel_rfl) ?_
        refine jo_end (by kernel_rfl) ?_
        exact jx_back (xs_10, (w64 (i_5 + 1))) ⟨o_9264, cap_9265, sp_9266, xs_10.length⟩ (Option.some.inj h).symm ⟨rfl, hs_9268, ho_9269⟩ [0, 1, 2, 3] (by kernel_rfl) (by kernel_rfl) (by kernel_rfl)
    · replace h := ifF hc_8865 h
      refine jc_exit ?_
      refine jx_thenx ?_
      refine jx_leave xs_4 (Option.some.inj h).symm (fun e_9661 => ?_)
      subst e_9661
      refine jx_ine ?_
      exact jx_meet ⟨xs_4, o_8856, cap_8857, sp_8858, xs_4.length⟩ ⟨hr_8862, rfl, hs_8860, ho_8861⟩ (by kernel_rfl) [0, 1, 2, 3] (by kernel_rfl) (by kernel_rfl)
  · rintro ⟨xs_2, o_7243, cap_7244, sp_7245, n_7246⟩ ⟨h, rfl, hs_7247, ho_7248⟩
    replace h : impl_Frame_choices.k_3 xs_2 = some r := h
    rw [impl_Frame_choices.k_3] at h
    refine jx_then ?_
    refine jc_seq ?_
    refine jc_region ?_
    refine jo_f [(0, 0), (0, 0)] (by kernel_rfl) ?_
    refine toO (by kernel_rfl) (p_a 0 [0] (by kernel_rfl) (fun b => by kernel_rfl) (fun b_7249 => jkO ?_))
    obtain ⟨hg_7250, h⟩ := gd h
    refine toO (by kernel_rfl) (p_apn 0 2 o_7243 130 xs_2.length 1 cap_7244 4 4 (some ⟨b_7249, 0, none⟩) encGChoice xs_2 [(⟨true, 0, 0, 0⟩ : GChoice)] sp_7245 (.agg #[(.bool false), (.int .i8 0), (.int .i8 0), (.int .i8 0)]) rfl rfl (by kernel_rfl) (by kernel_rfl) (by kernel_rfl) encGChoice_len encGChoice_cell hs_7247 ho_7248 (fun w hm => (hm.ownRow (hh := 4) (o := (some b_7249)) (T := 130) (enc := encGChoice) (xs := [(⟨true, 0, 0, 0⟩ : GChoice)]) (sp := []) (by kernel_rfl) (fun e => nomatch e) encGChoice_len)) hg_7250 (by kernel_rfl) (by kernel_rfl) (fun o_7251 cap_7252 sp_7253 hs_7254 ho_7255 => jkO ?_))
    refine jo_f [(0, 0)] (by kernel_rfl) ?_
    refine jo_end (by kernel_rfl) ?_
    refine jx_then ?_
    refine jc_ret ?_
    obtain rfl := Option.some.inj h
    exact jx_ret [] (.slice (o_7251.map fun b => ⟨b, 0, none⟩) ((xs_2 ++ [(⟨true, 0, 0, 0⟩ : GChoice)]).length) cap_7252) [] rfl (by kernel_rfl) (by kernel_rfl) (fun w hm => ⟨o_7251, cap_7252, sp_7253, ((xs_2 ++ [(⟨true, 0, 0, 0⟩ : GChoice)]).length), rfl, hs_7254, ho_7255, rfl, hm.pick [2] (by kernel_rfl) (by kernel_rfl)⟩)

/-! ### (impl.Frame).behind -/
noncomputable def impl_Frame_behind.k_1 (f0 : GFrame) : Option (Int) := some (w64 f0.fSteps)
noncomputable def impl_Frame_behind.l_3 (f0 : GFrame) (d1 : Arr 96 Int) (step2 : Int) (track3 : Int) (way4 : Int) : Int → Option ((Int) ⊕ (Int ⊕ Unit))
  | i_2 => (if (decide (i_2 < (w64 f0.fSteps))) = true then (if (w64 f0.fSteps) ≠ 0 then (impl_Drum_has d1 (Int.tmod (w64 ((w64 (step2 + (w64 (way4 * i_2)))) + (w64 f0.fSteps))) (w64 f0.fSteps)) track3).bind fun t_5 => (if t_5 = true then some (.inr (.inl i_2)) else some (.inl (w64 (i_2 + 1)))) else none) else some (.inr (.inr ())))
noncomputable def impl_Frame_behind (f0 : GFrame) (d1 : Arr 96 Int) (step2 : Int) (track3 : Int) (way4 : Int) : Option (Int) := (loop (impl_Frame_behind.l_3 f0 d1 step2 track3 way4) 1).bind fun t_4 => match t_4 with | .inl p => some p | .inr p => impl_Frame_behind.k_1 f0
set_option maxRecDepth 100000 in
theorem impl_Frame_behind.calls (f0 : GFrame) (d1 : Arr 96 Int) (step2 : Int) (track3 : Int) (way4 : Int) (w : World) (r : Int) (f0_fHammers_a : Option Addr) (f0_fHammers_an : Nat) (f0_fHammers_c : Nat) (f0_fHammers_h : Rw w f0_fHammers_a 2 encGHammer f0.fHammers) (f0_fHammers_hn : f0.fHammers.length = f0_fHammers_an) (d1_b : Nat) (hm0 : Mem w (bs [some d1_b]) [⟨(some d1_b), 67, row encU32 d1.1 []⟩] w) (f0_fHammers_ha : f0.fHammers ≠ [] → aB f0_fHammers_a ∉ bs [some d1_b]) (h : impl_Frame_behind f0 d1 step2 track3 way4 = some r) :
    Calls Try.prog 188 #[(.agg #[(.int .i16 f0.fSteps), (.slice f0_fHammers_a f0_fHammers_an f0_fHammers_c)]), (.pointer (some ⟨d1_b, 0, none⟩)), (.int .i64 step2), (.int .i64 track3), (.int .i64 way4)] w fun e w' => ∃ v, e = .returned v ∧ (v = (.int .i64 r) ∧ Mem w (bs [some d1_b]) [⟨(some d1_b), 67, row encU32 d1.1 []⟩] w') := by
  subst f0_fHammers_hn
  rw [impl_Frame_behind] at h
  refine enter (args := [(.agg #[(.int .i16 f0.fSteps), (.slice f0_fHammers_a f0.fHammers.length f0_fHammers_c)]), (.pointer (some ⟨d1_b, 0, none⟩)), (.int .i64 step2), (.int .i64 track3), (.int .i64 way4)]) Try.func188 rfl Try.ntmps188 (by kernel_rfl) (L := [⟨(some d1_b), 67, row encU32 d1.1 []⟩]) (W := bs [some d1_b]) hm0 ?_
  refine jc_seq ?_
  refine jc_region ?_
  refine toO (by kernel_rfl) (p_a 0 [0] (by kernel_rfl) (fun b => by kernel_rfl) (fun b_1 => jkO ?_))
  refine jo_f [(0, 0)] (by kernel_rfl) ?_
  refine jo_end (by kernel_rfl) ?_
  refine jx_then ?_
  refine jc_seq ?_
  refine jc_region ?_
  refine jo_f [(0, 0), (1, 0), (0, 0), (0, 0)] (by kernel_rfl) ?_
  refine jo_end (by kernel_rfl) ?_
  refine jx_then ?_
  refine jc_seq ?_
  refine jc_seq ?_
  refine jc_region ?_
  refine jo_f [(0, 0)] (by kernel_rfl) ?_
  refine jo_end (by kernel_rfl) ?_
  refine jx_then ?_
  refine jc_meet (fun (_ : Unit) => impl_Frame_behind.k_1 f0 = some r) (fun (_ : Unit) => [(10, [], (.int .i64 0)), (11, [], (.int .i64 (w64 f0.fSteps)))]) (fun (_ : Unit) => [⟨(some d1_b), 67, row encU32 d1.1 []⟩, ⟨some b_1, 38, [(.int .i16 f0.fSteps), (.slice f0_fHammers_a f0.fHammers.length f0_fHammers_c)]⟩]) ?_ ?_
  · refine jc_block ?_
    obtain ⟨t_4, ht_81, hr_72⟩ := bd h
    refine jc_loop (fun (s : Int) (x : Unit) => match s, x with | i_2, _ => True) (fun (s : Int) (x : Unit) => match s, x with | i_2, _ => [(1, [], (.pointer (some ⟨d1_b, 0, none⟩))), (2, [], (.int .i64 step2)), (3, [], (.int .i64 track3)), (4, [], (.int .i64 way4)), (10, [], (.int .i64 0)), (11, [], (.int .i64 (w64 f0.fSteps))), (12, [], (.int .i64 i_2))]) (fun (s : Int) (x : Unit) => match s, x with | i_2, _ => [⟨(some d1_b), 67, row encU32 d1.1 []⟩, ⟨some b_1, 38, [(.int .i16 f0.fSteps), (.slice f0_fHammers_a f0.fHammers.length f0_fHammers_c)]⟩]) ht_81 () trivial (by kernel_rfl) [0, 1] (by kernel_rfl) (by kernel_rfl) ?_
    rintro i_2 _ y_73 _ h
    rw [impl_Frame_behind.l_3] at h
    refine jc_seq ?_
    refine jc_seq ?_
    refine jc_region ?_
    refine jo_f [(0, 0), (0, 0), (0, 0)] (by kernel_rfl) ?_
    refine jo_end (by kernel_rfl) ?_
    refine jx_then ?_
    refine jc_cond (decide (i_2 < (w64 f0.fSteps))) (by kernel_rfl) (fun hc_75 => ?_) (fun hc_75 => ?_)
    · replace h := ifT hc_75 h
      refine jc_skip ?_
      refine jx_then ?_
      refine jc_seq ?_
      refine jc_block ?_
      refine jc_seq ?_
      refine jc_region ?_
      refine jo_f [(0, 0), (0, 0), (0, 0), (0, 0), (0, 0), (0, 0), (0, 0), (0, 0), (0, 0)] (by kernel_rfl) ?_
      obtain ⟨hg_76, h⟩ := gd h
      refine toO (by kernel_rfl) (p_rem 0 .i64 (w64 ((w64 (step2 + (w64 (way4 * i_2)))) + (w64 f0.fSteps))) (w64 f0.fSteps) (by kernel_rfl) (by kernel_rfl) hg_76 (jkO ?_))
      refine jo_f [(0, 0)] (by kernel_rfl) ?_
      obtain ⟨t_5, ht_77, h⟩ := bd h
      refine toO (by kernel_rfl) (p_call 0 187 #[(.pointer (some ⟨d1_b, 0, none⟩)), (.int .i64 (Int.tmod (w64 ((w64 (step2 + (w64 (way4 * i_2)))) + (w64 f0.fSteps))) (w64 f0.fSteps))), (.int .i64 track3)] (by kernel_rfl) (by kernel_rfl) (fun w hm => impl_Drum_has.calls d1 (Int.tmod (w64 ((w64 (step2 + (w64 (way4 * i_2)))) + (w64 f0.fSteps))) (w64 f0.fSteps)) track3 w _ d1_b (hm.pass (N := [⟨(some d1_b), 67, row encU32 d1.1 []⟩]) [0] (by kernel_rfl) (by kernel_rfl)) ht_77) ?_)
      rintro w v w' hm ⟨rfl, hm'⟩
      refine ⟨_, hm.appW (ps := [(0, ⟨(some d1_b), 67, row encU32 d1.1 []⟩)]) (N := []) hm' (by kernel_rfl) (by kernel_rfl), jkO ?_⟩
      clear hm hm'
      refine jo_end (by kernel_rfl) ?_
      refine jx_then ?_
      refine jc_cond t_5 (by kernel_rfl) (fun hc_78 => ?_) (fun hc_78 => ?_)
      · replace h := ifT hc_78 h
        refine jc_seq ?_
        refine jc_region ?_
        refine jo_f [(0, 0), (0, 0)] (by kernel_rfl) ?_
        refine jo_end (by kernel_rfl) ?_
        refine jx_then ?_
        refine jc_ret ?_
        refine jx_inr ?_
        refine jx_thenr ?_
        refine jx_leaver (.inl i_2) (Option.some.inj h).symm (fun e_79 => ?_)
        subst e_79
        refine jx_inr ?_
        refine jx_thenr ?_
        refine jx_thenr ?_
        obtain rfl := Option.some.inj hr_72
        exact jx_ret [] (.int .i64 i_2) [] rfl (by kernel_rfl) (by kernel_rfl) (fun w hm => ⟨rfl, hm.pick [0] (by kernel_rfl) (by kernel_rfl)⟩)
      · replace h := ifF hc_78 h
        refine jc_skip ?_
        refine jx_inn ?_
        refine jx_then ?_
        refine jc_region ?_
        refine jo_f [(0, 0), (0, 0), (0, 0)] (by kernel_rfl) ?_
        refine jo_end (by kernel_rfl) ?_
        exact jx_back (w64 (i_2 + 1)) () (Option.some.inj h).symm trivial [0, 1] (by kernel_rfl) (by kernel_rfl) (by kernel_rfl)
    · replace h := ifF hc_75 h
      refine jc_exit ?_
      refine jx_thenx ?_
      refine jx_leave (.inr ()) (Option.some.inj h).symm (fun e_80 => ?_)
      subst e_80
      refine jx_ine ?_
      exact jx_meet () hr_72 (by kernel_rfl) [0, 1] (by kernel_rfl) (by kernel_rfl)
  · rintro _ h
    replace h : impl_Frame_behind.k_1 f0 = some r := h
    rw [impl_Frame_behind.k_1] at h
    refine jx_then ?_
    refine jc_seq ?_
    refine jc_region ?_
    refine jo_f [(0, 0), (0, 0)] (by kernel_rfl) ?_
    refine jo_end (by kernel_rfl) ?_
    refine jx_then ?_
    refine jc_ret ?_
    obtain rfl := Option.some.inj h
    exact jx_ret [] (.int .i64 (w64 f0.fSteps)) [] rfl (by kernel_rfl) (by kernel_rfl) (fun w hm => ⟨rfl, hm.pick [0] (by kernel_rfl) (by kernel_rfl)⟩)

/-! ### (impl.Frame).isFree -/
noncomputable def impl_Frame_isFree (f0 : GFrame) (d1 : Arr 96 Int) (step2 : Int) (track3 : Int) : Option (Bool) := (ix f0.fHammers track3).bind fun x_1 => (impl_Drum_has d1 step2 track3).bind fun t_2 => (if (!t_2) = true then (impl_Frame_behind f0 d1 step2 track3 1).bind fun t_3 => (if (decide (t_3 ≥ (w64 x_1.fReady))) = true then (impl_Frame_behind f0 d1 step2 track3 (-1)).bind fun t_4 => some (decide (t_4 ≥ (w64 x_1.fReady))) else some false) else some false)
set_option maxRecDepth 100000 in
theorem impl_Frame_isFree.calls (f0 : GFrame) (d1 : Arr 96 Int) (step2 : Int) (track3 : Int) (w : World) (r : Bool) (f0_fHammers_a : Option Addr) (f0_fHammers_an : Nat) (f0_fHammers_c : Nat) (f0_fHammers_h : Rw w f0_fHammers_a 2 encGHammer f0.fHammers) (f0_fHammers_hn : f0.fHammers.length = f0_fHammers_an) (d1_b : Nat) (hm0 : Mem w (bs [some d1_b]) [⟨(some d1_b), 67, row encU32 d1.1 []⟩] w) (f0_fHammers_ha : f0.fHammers ≠ [] → aB f0_fHammers_a ∉ bs [some d1_b]) (h : impl_Frame_isFree f0 d1 step2 track3 = some r) :
    Calls Try.prog 152 #[(.agg #[(.int .i16 f0.fSteps), (.slice f0_fHammers_a f0_fHammers_an f0_fHammers_c)]), (.pointer (some ⟨d1_b, 0, none⟩)), (.int .i64 step2), (.int .i64 track3)] w fun e w' => ∃ v, e = .returned v ∧ (v = (.bool r) ∧ Mem w (bs [some d1_b]) [⟨(some d1_b), 67, row encU32 d1.1 []⟩] w') := by
  subst f0_fHammers_hn
  rw [impl_Frame_isFree] at h
  refine enter (args := [(.agg #[(.int .i16 f0.fSteps), (.slice f0_fHammers_a f0.fHammers.length f0_fHammers_c)]), (.pointer (some ⟨d1_b, 0, none⟩)), (.int .i64 step2), (.int .i64 track3)]) Try.func152 rfl Try.ntmps152 (by kernel_rfl) (L := [⟨(some d1_b), 67, row encU32 d1.1 []⟩]) (W := bs [some d1_b]) hm0 ?_
  refine jc_seq ?_
  refine jc_region ?_
  refine toO (by kernel_rfl) (p_a 0 [0] (by kernel_rfl) (fun b => by kernel_rfl) (fun b_1 => jkO ?_))
  refine jo_f [(0, 0)] (by kernel_rfl) ?_
  refine jo_end (by kernel_rfl) ?_
  refine jx_then ?_
  refine jc_seq ?_
  refine jc_region ?_
  refine jo_f [(0, 0), (1, 0), (0, 0)] (by kernel_rfl) ?_
  obtain ⟨x_1, hx_2, h⟩ := bd h
  refine toO (by kernel_rfl) (p_idx 0 f0_fHammers_a f0.fHammers.length track3 2 (by kernel_rfl) (by kernel_rfl) (ix_some hx_2).1 (ltn hx_2 rfl) (f0_fHammers_h.sp hx_2) (jkO ?_))
  refine jo_f [(0, 0)] (by kernel_rfl) ?_
  refine toO (by kernel_rfl) (p_ld 0 (aB f0_fHammers_a) (aO f0_fHammers_a + track3.toNat * 2 + 1) false (((encGHammer x_1).drop 1).take 1) (by kernel_rfl) (by kernel_rfl) (by kernel_rfl) (fun w hm => (((hm.exRowW f0_fHammers_h f0_fHammers_ha).at hx_2).sub 1 1)) (jkO ?_))
  refine jo_f [(0, 0), (0, 0)] (by kernel_rfl) ?_
  refine jo_end (by kernel_rfl) ?_
  refine jx_then ?_
  refine jc_seq ?_
  refine jc_region ?_
  refine jo_f [(0, 0), (0, 0), (0, 0)] (by kernel_rfl) ?_
  obtain ⟨t_2, ht_3, h⟩ := bd h
  refine toO (by kernel_rfl) (p_call 0 187 #[(.pointer (some ⟨d1_b, 0, none⟩)), (.int .i64 step2), (.int .i64 track3)] (by kernel_rfl) (by kernel_rfl) (fun w hm => impl_Drum_has.calls d1 step2 track3 w _ d1_b (hm.pass (N := [⟨(some d1_b), 67, row encU32 d1.1 []⟩]) [0] (by kernel_rfl) (by kernel_rfl)) ht_3) ?_)
  rintro w v w' hm ⟨rfl, hm'⟩
  refine ⟨_, hm.appW (ps := [(0, ⟨(some d1_b), 67, row encU32 d1.1 []⟩)]) (N := []) hm' (by kernel_rfl) (by kernel_rfl), jkO ?_⟩
  clear hm hm'
  refine jo_f [(0, 0), (0, 0), (1, 1), (0, 1), (0, 1), (0, 1)] (by kernel_rfl) ?_
  refine jo_split 22 (!t_2) (by kernel_rfl) (fun hc_4 => ?_) (fun hc_4 => ?_)
  · replace h := ifT hc_4 h
    obtain ⟨t_3, ht_5, h⟩ := bd h
    refine toO (by kernel_rfl) (p_call 2 188 #[(.agg #[(.int .i16 f0.fSteps), (.slice f0_fHammers_a f0.fHammers.length f0_fHammers_c)]), (.pointer (some ⟨d1_b, 0, none⟩)), (.int .i64 step2), (.int .i64 track3), (.int .i64 1)] (by kernel_rfl) (by kernel_rfl) (fun w hm => impl_Frame_behind.calls f0 d1 step2 track3 1 w _ f0_fHammers_a f0.fHammers.length f0_fHammers_c (hm.exRowW f0_fHammers_h f0_fHammers_ha) rfl d1_b (hm.pass (N := [⟨(some d1_b), 67, row encU32 d1.1 []⟩]) [0] (by kernel_rfl) (by kernel_rfl)) (hm.exApart (N := [⟨(some d1_b), 67, row encU32 d1.1 []⟩]) f0_fHammers_h f0_fHammers_ha [0] (by kernel_rfl)) ht_5) ?_)
    rintro w v w' hm ⟨rfl, hm'⟩
    refine ⟨_, hm.appW (ps := [(0, ⟨(some d1_b), 67, row encU32 d1.1 []⟩)]) (N := []) hm' (by kernel_rfl) (by kernel_rfl), jkO ?_⟩
    clear hm hm'
    refine jo_f [(0, 2), (0, 2), (0, 4), (0, 0), (1, 1), (0, 1), (0, 1), (0, 1)] (by kernel_rfl) ?_
    refine jo_split 31 (decide (t_3 ≥ (w64 x_1.fReady))) (by kernel_rfl) (fun hc_6 => ?_) (fun hc_6 => ?_)
    · replace h := ifT hc_6 h
      obtain ⟨t_4, ht_7, h⟩ := bd h
      refine toO (by kernel_rfl) (p_call 2 188 #[(.agg #[(.int .i16 f0.fSteps), (.slice f0_fHammers_a f0.fHammers.length f0_fHammers_c)]), (.pointer (some ⟨d1_b, 0, none⟩)), (.int .i64 step2), (.int .i64 track3), (.int .i64 (-1))] (by kernel_rfl) (by kernel_rfl) (fun w hm => impl_Frame_behind.calls f0 d1 step2 track3 (-1) w _ f0_fHammers_a f0.fHammers.length f0_fHammers_c (hm.exRowW f0_fHammers_h f0_fHammers_ha) rfl d1_b (hm.pass (N := [⟨(some d1_b), 67, row encU32 d1.1 []⟩]) [0] (by kernel_rfl) (by kernel_rfl)) (hm.exApart (N := [⟨(some d1_b), 67, row encU32 d1.1 []⟩]) f0_fHammers_h f0_fHammers_ha [0] (by kernel_rfl)) ht_7) ?_)
      rintro w v w' hm ⟨rfl, hm'⟩
      refine ⟨_, hm.appW (ps := [(0, ⟨(some d1_b), 67, row encU32 d1.1 []⟩)]) (N := []) hm' (by kernel_rfl) (by kernel_rfl), jkO ?_⟩
      clear hm hm'
      refine jo_f [(0, 2), (0, 2), (0, 4), (0, 0)] (by kernel_rfl) ?_
      refine jo_end (by kernel_rfl) ?_
      refine jx_then ?_
      refine jc_ret ?_
      obtain rfl := Option.some.inj h
      exact jx_ret [] (.bool (decide (t_4 ≥ (w64 x_1.fReady)))) [] rfl (by kernel_rfl) (by kernel_rfl) (fun w hm => ⟨rfl, hm.pick [0] (by kernel_rfl) (by kernel_rfl)⟩)
    · replace h := ifF hc_6 h
      refine jo_f [(0, 3), (0, 3), (0, 3), (0, 5), (0, 0)] (by kernel_rfl) ?_
      refine jo_end (by kernel_rfl) ?_
      refine jx_then ?_
      refine jc_ret ?_
      obtain rfl := Option.some.inj h
      exact jx_ret [] (.bool false) [] rfl (by kernel_rfl) (by kernel_rfl) (fun w hm => ⟨rfl, hm.pick [0] (by kernel_rfl) (by kernel_rfl)⟩)
  · replace h := ifF hc_4 h
    refine jo_f [(0, 3), (0, 3), (0, 3), (0, 5), (0, 0), (0, 3), (0, 3), (0, 3), (0, 3), (0, 3), (0, 3), (0, 3), (0, 5), (0, 0)] (by kernel_rfl) ?_
    refine jo_end (by kernel_rfl) ?_
    refine jx_then ?_
    refine jc_ret ?_
    obtain rfl := Option.some.inj h
    exact jx_ret [] (.bool false) [] rfl (by kernel_rfl) (by kernel_rfl) (fun w hm => ⟨rfl, hm.pick [0] (by kernel_rfl) (by kernel_rfl)⟩)

/-! ### (impl.Frame).canPut -/
noncomputable def impl_Frame_canPut (f0 : GFrame) (d1 : Arr 96 Int) (n2 : GNote) (x3 : GChoice) : Option (Bool) := (if x3.fAway = true then some true else (impl_Frame_isFree f0 d1 (w64 ((w64 n2.fAt) + (w64 x3.fLate))) (w64 x3.fTrack)).bind fun t_1 => some t_1)
set_option maxRecDepth 100000 in
theorem impl_Frame_canPut.calls (f0 : GFrame) (d1 : Arr 96 Int) (n2 : GNote) (x3 : GChoice) (w : World) (r : Bool) (f0_fHammers_a : Option Addr) (f0_fHammers_an : Nat) (f0_fHammers_c : Nat) (f0_fHammers_h : Rw w f0_fHammers_a 2 encGHammer f0.fHammers) (f0_fHammers_hn : f0.fHammers.length = f0_fHammers_an) (d1_b : Nat) (hm0 : Mem w (bs [some d1_b]) [⟨(some d1_b), 67, row encU32 d1.1 []⟩] w) (f0_fHammers_ha : f0.fHammers ≠ [] → aB f0_fHammers_a ∉ bs [some d1_b]) (h : impl_Frame_canPut f0 d1 n2 x3 = some r) :
    Calls Try.prog 102 #[(.agg #[(.int .i16 f0.fSteps), (.slice f0_fHammers_a f0_fHammers_an f0_fHammers_c)]), (.pointer (some ⟨d1_b, 0, none⟩)), (.agg #[(.int .i16 n2.fAt), (.int .i8 n2.fPitch)]), (.agg #[(.bool x3.fAway), (.int .i8 x3.fLate), (.int .i8 x3.fOctave), (.int .i8 x3.fTrack)])] w fun e w' => ∃ v, e = .returned v ∧ (v = (.bool r) ∧ Mem w (bs [some d1_b]) [⟨(some d1_b), 67, row encU32 d1.1 []⟩] w') := by
  subst f0_fHammers_hn
  rw [impl_Frame_canPut] at h
  refine enter (args := [(.agg #[(.int .i16 f0.fSteps), (.slice f0_fHammers_a f0.fHammers.length f0_fHammers_c)]), (.pointer (some ⟨d1_b, 0, none⟩)), (.agg #[(.int .i16 n2.fAt), (.int .i8 n2.fPitch)]), (.agg #[(.bool x3.fAway), (.int .i8 x3.fLate), (.int .i8 x3.fOctave), (.int .i8 x3.fTrack)])]) Try.func102 rfl Try.ntmps102 (by kernel_rfl) (L := [⟨(some d1_b), 67, row encU32 d1.1 []⟩]) (W := bs [some d1_b]) hm0 ?_
  refine jc_seq ?_
  refine jc_region ?_
  refine toO (by kernel_rfl) (p_a 0 [0] (by kernel_rfl) (fun b => by kernel_rfl) (fun b_1 => jkO ?_))
  refine toO (by kernel_rfl) (p_a 0 [0] (by kernel_rfl) (fun b => by kernel_rfl) (fun b_2 => jkO ?_))
  refine toO (by kernel_rfl) (p_a 0 [0] (by kernel_rfl) (fun b => by kernel_rfl) (fun b_3 => jkO ?_))
  refine jo_f [(0, 0)] (by kernel_rfl) ?_
  refine jo_end (by kernel_rfl) ?_
  refine jx_then ?_
  refine jc_seq ?_
  refine jc_region ?_
  refine jo_f [(0, 0), (3, 0), (0, 0), (1, 1), (0, 1), (0, 1), (2, 1), (0, 1), (0, 1), (3, 1), (0, 1), (0, 1), (0, 1), (3, 1), (0, 1)] (by kernel_rfl) ?_
  refine jo_split 11 x3.fAway (by kernel_rfl) (fun hc_4 => ?_) (fun hc_4 => ?_)
  · replace h := ifT hc_4 h
    refine jo_f [(0, 3), (0, 4), (0, 0)] (by kernel_rfl) ?_
    refine jo_end (by kernel_rfl) ?_
    refine jx_then ?_
    refine jc_ret ?_
    obtain rfl := Option.some.inj h
    exact jx_ret [] (.bool true) [] rfl (by kernel_rfl) (by kernel_rfl) (fun w hm => ⟨rfl, hm.pick [0] (by kernel_rfl) (by kernel_rfl)⟩)
  · replace h := ifF hc_4 h
    obtain ⟨t_1, ht_5, h⟩ := bd h
    refine toO (by kernel_rfl) (p_call 2 152 #[(.agg #[(.int .i16 f0.fSteps), (.slice f0_fHammers_a f0.fHammers.length f0_fHammers_c)]), (.pointer (some ⟨d1_b, 0, none⟩)), (.int .i64 (w64 ((w64 n2.fAt) + (w64 x3.fLate)))), (.int .i64 (w64 x3.fTrack))] (by kernel_rfl) (by kernel_rfl) (fun w hm => impl_Frame_isFree.calls f0 d1 (w64 ((w64 n2.fAt) + (w64 x3.fLate))) (w64 x3.fTrack) w _ f0_fHammers_a f0.fHammers.length f0_fHammers_c (hm.exRowW f0_fHammers_h f0_fHammers_ha) rfl d1_b (hm.pass (N := [⟨(some d1_b), 67, row encU32 d1.1 []⟩]) [0] (by kernel_rfl) (by kernel_rfl)) (hm.exApart (N := [⟨(some d1_b), 67, row encU32 d1.1 []⟩]) f0_fHammers_h f0_fHammers_ha [0] (by kernel_rfl)) ht_5) ?_)
    rintro w v w' hm ⟨rfl, hm'⟩
    refine ⟨_, hm.appW (ps := [(0, ⟨(some d1_b), 67, row encU32 d1.1 []⟩)]) (N := []) hm' (by kernel_rfl) (by kernel_rfl), jkO ?_⟩
    clear hm hm'
    refine jo_f [(0, 5), (0, 0)] (by kernel_rfl) ?_
    refine jo_end (by kernel_rfl) ?_
    refine jx_then ?_
    refine jc_ret ?_
    obtain rfl := Option.some.inj h
    exact jx_ret [] (.bool t_1) [] rfl (by kernel_rfl) (by kernel_rfl) (fun w hm => ⟨rfl, hm.pick [0] (by kernel_rfl) (by kernel_rfl)⟩)

/-! ### (*impl.Drum).puts -/
noncomputable def impl_Drum_puts (d0 : Arr 96 Int) (n1 : GNote) (x2 : GChoice) : Option ((Arr 96 Int)) := (if (!x2.fAway) = true then (impl_Drum_put d0 (w64 ((w64 n1.fAt) + (w64 x2.fLate))) (w64 x2.fTrack) true).bind fun t_1 => some t_1 else some d0)
set_option maxRecDepth 100000 in
theorem impl_Drum_puts.calls (d0 : Arr 96 Int) (n1 : GNote) (x2 : GChoice) (w : World) (r : (Arr 96 Int)) (d0_b : Nat) (hm0 : Mem w (bs [some d0_b]) [⟨(some d0_b), 67, row encU32 d0.1 []⟩] w) (h : impl_Drum_puts d0 n1 x2 = some r) :
    Calls Try.prog 107 #[(.pointer (some ⟨d0_b, 0, none⟩)), (.agg #[(.int .i16 n1.fAt), (.int .i8 n1.fPitch)]), (.agg #[(.bool x2.fAway), (.int .i8 x2.fLate), (.int .i8 x2.fOctave), (.int .i8 x2.fTrack)])] w fun e w' => ∃ v, e = .returned v ∧ (v = .tuple #[] ∧ Mem w (bs [some d0_b]) [⟨(some d0_b), 67, row encU32 r.1 []⟩] w') := by
  rw [impl_Drum_puts] at h
  refine enter (args := [(.pointer (some ⟨d0_b, 0, none⟩)), (.agg #[(.int .i16 n1.fAt), (.int .i8 n1.fPitch)]), (.agg #[(.bool x2.fAway), (.int .i8 x2.fLate), (.int .i8 x2.fOctave), (.int .i8 x2.fTrack)])]) Try.func107 rfl Try.ntmps107 (by kernel_rfl) (L := [⟨(some d0_b), 67, row encU32 d0.1 []⟩]) (W := bs [some d0_b]) hm0 ?_
  refine jc_seq ?_
  refine jc_region ?_
  refine toO (by kernel_rfl) (p_a 0 [0] (by kernel_rfl) (fun b => by kernel_rfl) (fun b_1 => jkO ?_))
  refine toO (by kernel_rfl) (p_a 0 [0] (by kernel_rfl) (fun b => by kernel_rfl) (fun b_2 => jkO ?_))
  refine jo_end (by kernel_rfl) ?_
  refine jx_then ?_
  refine jc_seq ?_
  refine jc_region ?_
  refine jo_f [(0, 0), (2, 0), (0, 0)] (by kernel_rfl) ?_
  refine jo_end (by kernel_rfl) ?_
  refine jx_then ?_
  refine jc_cond (!x2.fAway) (by kernel_rfl) (fun hc_3 => ?_) (fun hc_3 => ?_)
  · replace h := ifT hc_3 h
    refine jc_region ?_
    refine jo_f [(0, 0), (0, 0), (1, 0), (0, 0), (0, 0), (2, 0), (0, 0), (0, 0), (0, 0), (2, 0), (0, 0)] (by kernel_rfl) ?_
    obtain ⟨t_1, ht_4, h⟩ := bd h
    refine toO (by kernel_rfl) (p_call 0 154 #[(.pointer (some ⟨d0_b, 0, none⟩)), (.int .i64 (w64 ((w64 n1.fAt) + (w64 x2.fLate)))), (.int .i64 (w64 x2.fTrack)), (.bool true)] (by kernel_rfl) (by kernel_rfl) (fun w hm => impl_Drum_put.calls d0 (w64 ((w64 n1.fAt) + (w64 x2.fLate))) (w64 x2.fTrack) true w _ d0_b (hm.pass (N := [⟨(some d0_b), 67, row encU32 d0.1 []⟩]) [0] (by kernel_rfl) (by kernel_rfl)) ht_4) ?_)
    rintro w v w' hm ⟨rfl, hm'⟩
    refine ⟨_, hm.appW (ps := [(0, ⟨(some d0_b), 67, row encU32 t_1.1 []⟩)]) (N := []) hm' (by kernel_rfl) (by kernel_rfl), jkO ?_⟩
    clear hm hm'
    refine jo_end (by kernel_rfl) ?_
    refine jx_fall ?_
    obtain rfl := Option.some.inj h
    exact jx_ret [] (.tuple #[]) [] rfl (by kernel_rfl) (by kernel_rfl) (fun w hm => ⟨rfl, hm.pick [0] (by kernel_rfl) (by kernel_rfl)⟩)
  · replace h := ifF hc_3 h
    refine jc_skip ?_
    refine jx_fall ?_
    obtain rfl := Option.some.inj h
    exact jx_ret [] (.tuple #[]) [] rfl (by kernel_rfl) (by kernel_rfl) (fun w hm => ⟨rfl, hm.pick [0] (by kernel_rfl) (by kernel_rfl)⟩)

/-! ### laws.eqNote -/
noncomputable def laws_eqNote (a0 : GNote) (b1 : GNote) : Option (Bool) := (if (a0.fAt != b1.fAt) = true then some false else (if (a0.fPitch != b1.fPitch) = true then some false else some true))
set_option maxRecDepth 100000 in
theorem laws_eqNote.calls (a0 : GNote) (b1 : GNote) (w : World) (r : Bool) (h : laws_eqNote a0 b1 = some r) :
    Calls Try.prog 84 #[(.agg #[(.int .i16 a0.fAt), (.int .i8 a0.fPitch)]), (.agg #[(.int .i16 b1.fAt), (.int .i8 b1.fPitch)])] w fun e w' => ∃ v, e = .returned v ∧ (v = (.bool r) ∧ Mem w [] [] w') := by
  rw [laws_eqNote] at h
  refine enter (args := [(.agg #[(.int .i16 a0.fAt), (.int .i8 a0.fPitch)]), (.agg #[(.int .i16 b1.fAt), (.int .i8 b1.fPitch)])]) Try.func84 rfl Try.ntmps84 (by kernel_rfl) (L := []) (W := []) (Mem.start w) ?_
  refine jc_seq ?_
  refine jc_region ?_
  refine toO (by kernel_rfl) (p_a 0 [0] (by kernel_rfl) (fun b => by kernel_rfl) (fun b_1 => jkO ?_))
  refine toO (by kernel_rfl) (p_a 0 [0] (by kernel_rfl) (fun b => by kernel_rfl) (fun b_2 => jkO ?_))
  refine jo_f [(0, 0)] (by kernel_rfl) ?_
  refine jo_end (by kernel_rfl) ?_
  refine jx_then ?_
  refine jc_seq ?_
  refine jc_seq ?_
  refine jc_region ?_
  refine jo_f [(0, 0), (0, 0), (0, 0), (1, 0), (0, 0)] (by kernel_rfl) ?_
  refine jo_end (by kernel_rfl) ?_
  refine jx_then ?_
  refine jc_cond (a0.fAt != b1.fAt) (by kernel_rfl) (fun hc_4 => ?_) (fun hc_4 => ?_)
  · replace h := ifT hc_4 h
    refine jc_seq ?_
    refine jc_region ?_
    refine jo_f [(0, 0)] (by kernel_rfl) ?_
    refine jo_end (by kernel_rfl) ?_
    refine jx_then ?_
    refine jc_ret ?_
    refine jx_thenr ?_
    obtain rfl := Option.some.inj h
    exact jx_ret [] (.bool false) [] rfl (by kernel_rfl) (by kernel_rfl) (fun w hm => ⟨rfl, hm.pick [] (by kernel_rfl) (by kernel_rfl)⟩)
  · replace h := ifF hc_4 h
    refine jc_skip ?_
    refine jx_then ?_
    refine jc_seq ?_
    refine jc_seq ?_
    refine jc_region ?_
    refine jo_f [(0, 0), (0, 0), (0, 0), (1, 0), (0, 0)] (by kernel_rfl) ?_
    refine jo_end (by kernel_rfl) ?_
    refine jx_then ?_
    refine jc_cond (a0.fPitch != b1.fPitch) (by kernel_rfl) (fun hc_5 => ?_) (fun hc_5 => ?_)
    · replace h := ifT hc_5 h
      refine jc_seq ?_
      refine jc_region ?_
      refine jo_f [(0, 0)] (by kernel_rfl) ?_
      refine jo_end (by kernel_rfl) ?_
      refine jx_then ?_
      refine jc_ret ?_
      refine jx_thenr ?_
      obtain rfl := Option.some.inj h
      exact jx_ret [] (.bool false) [] rfl (by kernel_rfl) (by kernel_rfl) (fun w hm => ⟨rfl, hm.pick [] (by kernel_rfl) (by kernel_rfl)⟩)
    · replace h := ifF hc_5 h
      refine jc_skip ?_
      refine jx_then ?_
      refine jc_seq ?_
      refine jc_region ?_
      refine jo_f [(0, 0)] (by kernel_rfl) ?_
      refine jo_end (by kernel_rfl) ?_
      refine jx_then ?_
      refine jc_ret ?_
      obtain rfl := Option.some.inj h
      exact jx_ret [] (.bool true) [] rfl (by kernel_rfl) (by kernel_rfl) (fun w hm => ⟨rfl, hm.pick [] (by kernel_rfl) (by kernel_rfl)⟩)

/-! ### laws.eqTune -/
noncomputable def laws_eqTune.k_1 : Option (Bool) := some true
noncomputable def laws_eqTune.l_3 (a0 : List GNote) (b1 : List GNote) : Int → Option ((Int) ⊕ (Bool ⊕ Unit))
  | i_2 => (if (decide (i_2 < (a0.length : Int))) = true then (ix a0 i_2).bind fun x_5 => (ix b1 i_2).bind fun x_6 => (laws_eqNote x_5 x_6).bind fun t_7 => (if (!t_7) = true then some (.inr (.inl false)) else some (.inl (w64 (i_2 + 1)))) else some (.inr (.inr ())))
noncomputable def laws_eqTune (a0 : List GNote) (b1 : List GNote) : Option (Bool) := (if ((a0.length : Int) != (b1.length : Int)) = true then some false else (loop (laws_eqTune.l_3 a0 b1) 0).bind fun t_4 => match t_4 with | .inl p => some p | .inr p => laws_eqTune.k_1)
set_option maxRecDepth 100000 in
theorem laws_eqTune.calls (a0 : List GNote) (b1 : List GNote) (w : World) (r : Bool) (a0_a : Option Addr) (a0_an : Nat) (a0_c : Nat) (a0_h : Rw w a0_a 2 encGNote a0) (a0_hn : a0.length = a0_an) (b1_a : Option Addr) (b1_an : Nat) (b1_c : Nat) (b1_h : Rw w b1_a 2 encGNote b1) (b1_hn : b1.length = b1_an) (h : laws_eqTune a0 b1 = some r) :
    Calls Try.prog 28 #[(.slice a0_a a0_an a0_c), (.slice b1_a b1_an b1_c)] w fun e w' => ∃ v, e = .returned v ∧ (v = (.bool r) ∧ Mem w [] [] w') := by
  subst a0_hn b1_hn
  rw [laws_eqTune] at h
  refine enter (args := [(.slice a0_a a0.length a0_c), (.slice b1_a b1.length b1_c)]) Try.func28 rfl Try.ntmps28 (by kernel_rfl) (L := []) (W := []) (Mem.start w) ?_
  refine jc_seq ?_
  refine jc_region ?_
  refine jo_f [(0, 0)] (by kernel_rfl) ?_
  refine jo_end (by kernel_rfl) ?_
  refine jx_then ?_
  refine jc_seq ?_
  refine jc_seq ?_
  refine jc_region ?_
  refine jo_f [(0, 0), (0, 0), (0, 0), (0, 0), (0, 0)] (by kernel_rfl) ?_
  refine jo_end (by kernel_rfl) ?_
  refine jx_then ?_
  refine jc_cond ((a0.length : Int) != (b1.length : Int)) (by kernel_rfl) (fun hc_2 => ?_) (fun hc_2 => ?_)
  · replace h := ifT hc_2 h
    refine jc_seq ?_
    refine jc_region ?_
    refine jo_f [(0, 0)] (by kernel_rfl) ?_
    refine jo_end (by kernel_rfl) ?_
    refine jx_then ?_
    refine jc_ret ?_
    refine jx_thenr ?_
    obtain rfl := Option.some.inj h
    exact jx_ret [] (.bool false) [] rfl (by kernel_rfl) (by kernel_rfl) (fun w hm => ⟨rfl, hm.pick [] (by kernel_rfl) (by kernel_rfl)⟩)
  · replace h := ifF hc_2 h
    refine jc_skip ?_
    refine jx_then ?_
    refine jc_seq ?_
    refine jc_seq ?_
    refine jc_region ?_
    refine jo_f [(0, 0)] (by kernel_rfl) ?_
    refine jo_end (by kernel_rfl) ?_
    refine jx_then ?_
    refine jc_meet (fun (_ : Unit) => laws_eqTune.k_1 = some r) (fun (_ : Unit) => [(4, [], (.bool false))]) (fun (_ : Unit) => []) ?_ ?_
    · refine jc_block ?_
      obtain ⟨t_4, ht_48, hr_38⟩ := bd h
      refine jc_loop (fun (s : Int) (x : Unit) => match s, x with | i_2, _ => True) (fun (s : Int) (x : Unit) => match s, x with | i_2, _ => [(0, [], (.slice a0_a a0.length a0_c)), (1, [], (.slice b1_a b1.length b1_c)), (4, [], (.bool false)), (5, [], (.int .i64 i_2))]) (fun (s : Int) (x : Unit) => match s, x with | i_2, _ => []) ht_48 () trivial (by kernel_rfl) [] (by kernel_rfl) (by kernel_rfl) ?_
      rintro i_2 _ y_39 _ h
      rw [laws_eqTune.l_3] at h
      refine jc_seq ?_
      refine jc_seq ?_
      refine jc_region ?_
      refine jo_f [(0, 0), (0, 0), (0, 0), (0, 0)] (by kernel_rfl) ?_
      refine jo_end (by kernel_rfl) ?_
      refine jx_then ?_
      refine jc_cond (decide (i_2 < (a0.length : Int))) (by kernel_rfl) (fun hc_41 => ?_) (fun hc_41 => ?_)
      · replace h := ifT hc_41 h
        refine jc_skip ?_
        refine jx_then ?_
        refine jc_seq ?_
        refine jc_block ?_
        refine jc_seq ?_
        refine jc_draw [] 10 (by kernel_rfl) (by kernel_rfl) ?_
        refine jd_f [⟨0, 0, 0⟩, ⟨1, 0, 0⟩, ⟨4, 0, 0⟩, ⟨5, 0, 0⟩] 6 (by kernel_rfl) (by kernel_rfl) (fun w h => h.pick [] (by kernel_rfl) (by kernel_rfl)) (by kernel_rfl) (by kernel_rfl) ?_
        obtain ⟨x_5, hx_42, h⟩ := bd h
        refine jd_v 2 0 (by kernel_rfl) (fun w h => h.pick [] (by kernel_rfl) (by kernel_rfl)) (by kernel_rfl) (by kernel_rfl) _ (fun w hm => idx_run (a := a0_a) (len := a0.length) (s := 2) (j := i_2) (by kernel_rfl) (ix_some hx_42).1 (ltn hx_42 rfl) (a0_h.sp hx_42)) ?_
        refine jd_v 3 0 (by kernel_rfl) (fun w h => h.pick [] (by kernel_rfl) (by kernel_rfl)) (by kernel_rfl) (by kernel_rfl) _ (fun w hm => ld_run (b := aB a0_a) (off := (aO a0_a + i_2.toNat * 2)) (s := 2) (agg := true) (vs := (encGNote x_5)) (by kernel_rfl) (by kernel_rfl) (.inl rfl) ((hm.exRow a0_h List.not_mem_nil).at hx_42)) ?_
        obtain ⟨x_6, hx_43, h⟩ := bd h
        refine jd_v 6 0 (by kernel_rfl) (fun w h => h.pick [] (by kernel_rfl) (by kernel_rfl)) (by kernel_rfl) (by kernel_rfl) _ (fun w hm => idx_run (a := b1_a) (len := b1.length) (s := 2) (j := i_2) (by kernel_rfl) (ix_some hx_43).1 (ltn hx_43 rfl) (b1_h.sp hx_43)) ?_
        refine jd_v 7 0 (by kernel_rfl) (fun w h => h.pick [] (by kernel_rfl) (by kernel_rfl)) (by kernel_rfl) (by kernel_rfl) _ (fun w hm => ld_run (b := aB b1_a) (off := (aO b1_a + i_2.toNat * 2)) (s := 2) (agg := true) (vs := (encGNote x_6)) (by kernel_rfl) (by kernel_rfl) (.inl rfl) ((hm.exRow b1_h List.not_mem_nil).at hx_43)) ?_
        obtain ⟨t_7, ht_44, h⟩ := bd h
        refine toD 8 (by kernel_rfl) (p_call 0 84 #[(.agg #[(.int .i16 x_5.fAt), (.int .i8 x_5.fPitch)]), (.agg #[(.int .i16 x_6.fAt), (.int .i8 x_6.fPitch)])] (by kernel_rfl) (by kernel_rfl) (fun w hm => laws_eqNote.calls x_5 x_6 w _ ht_44) ?_)
        rintro w v w' hm ⟨rfl, hm'⟩
        refine ⟨_, hm.app hm', jkD (fun w h => h.pick [] (by kernel_rfl) (by kernel_rfl)) ?_⟩
        clear hm hm'
        refine jd_f [⟨9, 0, 0⟩] 0 (by kernel_rfl) (by kernel_rfl) (fun w h => h.pick [] (by kernel_rfl) (by kernel_rfl)) (by kernel_rfl) (by kernel_rfl) ?_
        refine jd_end (by kernel_rfl) ?_
        refine jx_then ?_
        refine jc_cond (!t_7) (by kernel_rfl) (fun hc_45 => ?_) (fun hc_45 => ?_)
        · replace h := ifT hc_45 h
          refine jc_seq ?_
          refine jc_region ?_
          refine jo_f [(0, 0)] (by kernel_rfl) ?_
          refine jo_end (by kernel_rfl) ?_
          refine jx_then ?_
          refine jc_ret ?_
          refine jx_inr ?_
          refine jx_thenr ?_
          refine jx_leaver (.inl false) (Option.some.inj h).symm (fun e_46 => ?_)
          subst e_46
          refine jx_inr ?_
          refine jx_thenr ?_
          refine jx_thenr ?_
          obtain rfl := Option.some.inj hr_38
          exact jx_ret [] (.bool false) [] rfl (by kernel_rfl) (by kernel_rfl) (fun w hm => ⟨rfl, hm.pick [] (by kernel_rfl) (by kernel_rfl)⟩)
        · replace h := ifF hc_45 h
          refine jc_skip ?_
          refine jx_inn ?_
          refine jx_then ?_
          refine jc_region ?_
          refine jo_f [(0, 0), (0, 0), (0, 0)] (by kernel_rfl) ?_
          refine jo_end (by kernel_rfl) ?_
          exact jx_back (w64 (i_2 + 1)) () (Option.some.inj h).symm trivial [] (by kernel_rfl) (by kernel_rfl) (by kernel_rfl)
      · replace h := ifF hc_41 h
        refine jc_exit ?_
        refine jx_thenx ?_
        refine jx_leave (.inr ()) (Option.some.inj h).symm (fun e_47 => ?_)
        subst e_47
        refine jx_ine ?_
        exact jx_meet () hr_38 (by kernel_rfl) [] (by kernel_rfl) (by kernel_rfl)
    · rintro _ h
      replace h : laws_eqTune.k_1 = some r := h
      rw [laws_eqTune.k_1] at h
      refine jx_then ?_
      refine jc_seq ?_
      refine jc_region ?_
      refine jo_f [(0, 0)] (by kernel_rfl) ?_
      refine jo_end (by kernel_rfl) ?_
      refine jx_then ?_
      refine jc_ret ?_
      obtain rfl := Option.some.inj h
      exact jx_ret [] (.bool true) [] rfl (by kernel_rfl) (by kernel_rfl) (fun w hm => ⟨rfl, hm.pick [] (by kernel_rfl) (by kernel_rfl)⟩)

/-! ### laws.eqChoice -/
noncomputable def laws_eqChoice (a0 : GChoice) (b1 : GChoice) : Option (Bool) := (if (a0.fAway != b1.fAway) = true then some false else (if (a0.fLate != b1.fLate) = true then some false else (if (a0.fOctave != b1.fOctave) = true then some false else (if (a0.fTrack != b1.fTrack) = true then some false else some true))))
set_option maxRecDepth 100000 in
theorem laws_eqChoice.calls (a0 : GChoice) (b1 : GChoice) (w : World) (r : Bool) (h : laws_eqChoice a0 b1 = some r) :
    Calls Try.prog 85 #[(.agg #[(.bool a0.fAway), (.int .i8 a0.fLate), (.int .i8 a0.fOctave), (.int .i8 a0.fTrack)]), (.agg #[(.bool b1.fAway), (.int .i8 b1.fLate), (.int .i8 b1.fOctave), (.int .i8 b1.fTrack)])] w fun e w' => ∃ v, e = .returned v ∧ (v = (.bool r) ∧ Mem w [] [] w') := by
  rw [laws_eqChoice] at h
  refine enter (args := [(.agg #[(.bool a0.fAway), (.int .i8 a0.fLate), (.int .i8 a0.fOctave), (.int .i8 a0.fTrack)]), (.agg #[(.bool b1.fAway), (.int .i8 b1.fLate), (.int .i8 b1.fOctave), (.int .i8 b1.fTrack)])]) Try.func85 rfl Try.ntmps85 (by kernel_rfl) (L := []) (W := []) (Mem.start w) ?_
  refine jc_seq ?_
  refine jc_region ?_
  refine toO (by kernel_rfl) (p_a 0 [0] (by kernel_rfl) (fun b => by kernel_rfl) (fun b_1 => jkO ?_))
  refine toO (by kernel_rfl) (p_a 0 [0] (by kernel_rfl) (fun b => by kernel_rfl) (fun b_2 => jkO ?_))
  refine jo_f [(0, 0)] (by kernel_rfl) ?_
  refine jo_end (by kernel_rfl) ?_
  refine jx_then ?_
  refine jc_seq ?_
  refine jc_seq ?_
  refine jc_region ?_
  refine jo_f [(0, 0), (0, 0), (0, 0), (1, 0), (0, 0)] (by kernel_rfl) ?_
  refine jo_end (by kernel_rfl) ?_
  refine jx_then ?_
  refine jc_cond (a0.fAway != b1.fAway) (by kernel_rfl) (fun hc_4 => ?_) (fun hc_4 => ?_)
  · replace h := ifT hc_4 h
    refine jc_seq ?_
    refine jc_region ?_
    refine jo_f [(0, 0)] (by kernel_rfl) ?_
    refine jo_end (by kernel_rfl) ?_
    refine jx_then ?_
    refine jc_ret ?_
    refine jx_thenr ?_
    obtain rfl := Option.some.inj h
    exact jx_ret [] (.bool false) [] rfl (by kernel_rfl) (by kernel_rfl) (fun w hm => ⟨rfl, hm.pick [] (by kernel_rfl) (by kernel_rfl)⟩)
  · replace h := ifF hc_4 h
    refine jc_skip ?_
    refine jx_then ?_
    refine jc_seq ?_
    refine jc_seq ?_
    refine jc_region ?_
    refine jo_f [(0, 0), (0, 0), (0, 0), (1, 0), (0, 0)] (by kernel_rfl) ?_
    refine jo_end (by kernel_rfl) ?_
    refine jx_then ?_
    refine jc_cond (a0.fLate != b1.fLate) (by kernel_rfl) (fun hc_6 => ?_) (fun hc_6 => ?_)
    · replace h := ifT hc_6 h
      refine jc_seq ?_
      refine jc_region ?_
      refine jo_f [(0, 0)] (by kernel_rfl) ?_
      refine jo_end (by kernel_rfl) ?_
      refine jx_then ?_
      refine jc_ret ?_
      refine jx_thenr ?_
      obtain rfl := Option.some.inj h
      exact jx_ret [] (.bool false) [] rfl (by kernel_rfl) (by kernel_rfl) (fun w hm => ⟨rfl, hm.pick [] (by kernel_rfl) (by kernel_rfl)⟩)
    · replace h := ifF hc_6 h
      refine jc_skip ?_
      refine jx_then ?_
      refine jc_seq ?_
      refine jc_seq ?_
      refine jc_region ?_
      refine jo_f [(0, 0), (0, 0), (0, 0), (1, 0), (0, 0)] (by kernel_rfl) ?_
      refine jo_end (by kernel_rfl) ?_
      refine jx_then ?_
      refine jc_cond (a0.fOctave != b1.fOctave) (by kernel_rfl) (fun hc_8 => ?_) (fun hc_8 => ?_)
      · replace h := ifT hc_8 h
        refine jc_seq ?_
        refine jc_region ?_
        refine jo_f [(0, 0)] (by kernel_rfl) ?_
        refine jo_end (by kernel_rfl) ?_
        refine jx_then ?_
        refine jc_ret ?_
        refine jx_thenr ?_
        obtain rfl := Option.some.inj h
        exact jx_ret [] (.bool false) [] rfl (by kernel_rfl) (by kernel_rfl) (fun w hm => ⟨rfl, hm.pick [] (by kernel_rfl) (by kernel_rfl)⟩)
      · replace h := ifF hc_8 h
        refine jc_skip ?_
        refine jx_then ?_
        refine jc_seq ?_
        refine jc_seq ?_
        refine jc_region ?_
        refine jo_f [(0, 0), (0, 0), (0, 0), (1, 0), (0, 0)] (by kernel_rfl) ?_
        refine jo_end (by kernel_rfl) ?_
        refine jx_then ?_
        refine jc_cond (a0.fTrack != b1.fTrack) (by kernel_rfl) (fun hc_9 => ?_) (fun hc_9 => ?_)
        · replace h := ifT hc_9 h
          refine jc_seq ?_
          refine jc_region ?_
          refine jo_f [(0, 0)] (by kernel_rfl) ?_
          refine jo_end (by kernel_rfl) ?_
          refine jx_then ?_
          refine jc_ret ?_
          refine jx_thenr ?_
          obtain rfl := Option.some.inj h
          exact jx_ret [] (.bool false) [] rfl (by kernel_rfl) (by kernel_rfl) (fun w hm => ⟨rfl, hm.pick [] (by kernel_rfl) (by kernel_rfl)⟩)
        · replace h := ifF hc_9 h
          refine jc_skip ?_
          refine jx_then ?_
          refine jc_seq ?_
          refine jc_region ?_
          refine jo_f [(0, 0)] (by kernel_rfl) ?_
          refine jo_end (by kernel_rfl) ?_
          refine jx_then ?_
          refine jc_ret ?_
          obtain rfl := Option.some.inj h
          exact jx_ret [] (.bool true) [] rfl (by kernel_rfl) (by kernel_rfl) (fun w hm => ⟨rfl, hm.pick [] (by kernel_rfl) (by kernel_rfl)⟩)

/-! ### laws.eqChoiceS -/
noncomputable def laws_eqChoiceS.k_1 : Option (Bool) := some true
noncomputable def laws_eqChoiceS.l_3 (a0 : List GChoice) (b1 : List GChoice) : Int → Option ((Int) ⊕ (Bool ⊕ Unit))
  | i_2 => (if (decide (i_2 < (a0.length : Int))) = true then (ix a0 i_2).bind fun x_5 => (ix b1 i_2).bind fun x_6 => (laws_eqChoice x_5 x_6).bind fun t_7 => (if (!t_7) = true then some (.inr (.inl false)) else some (.inl (w64 (i_2 + 1)))) else some (.inr (.inr ())))
noncomputable def laws_eqChoiceS (a0 : List GChoice) (b1 : List GChoice) : Option (Bool) := (if ((a0.length : Int) != (b1.length : Int)) = true then some false else (loop (laws_eqChoiceS.l_3 a0 b1) 0).bind fun t_4 => match t_4 with | .inl p => some p | .inr p => laws_eqChoiceS.k_1)
set_option maxRecDepth 100000 in
theorem laws_eqChoiceS.calls (a0 : List GChoice) (b1 : List GChoice) (w : World) (r : Bool) (a0_a : Option Addr) (a0_an : Nat) (a0_c : Nat) (a0_h : Rw w a0_a 4 encGChoice a0) (a0_hn : a0.length = a0_an) (b1_a : Option Addr) (b1_an : Nat) (b1_c : Nat) (b1_h : Rw w b1_a 4 encGChoice b1) (b1_hn : b1.length = b1_an) (h : laws_eqChoiceS a0 b1 = some r) :
    Calls Try.prog 29 #[(.slice a0_a a0_an a0_c), (.slice b1_a b1_an b1_c)] w fun e w' => ∃ v, e = .returned v ∧ (v = (.bool r) ∧ Mem w [] [] w') := by
  subst a0_hn b1_hn
  rw [laws_eqChoiceS] at h
  refine enter (args := [(.slice a0_a a0.length a0_c), (.slice b1_a b1.length b1_c)]) Try.func29 rfl Try.ntmps29 (by kernel_rfl) (L := []) (W := []) (Mem.start w) ?_
  refine jc_seq ?_
  refine jc_region ?_
  refine jo_f [(0, 0)] (by kernel_rfl) ?_
  refine jo_end (by kernel_rfl) ?_
  refine jx_then ?_
  refine jc_seq ?_
  refine jc_seq ?_
  refine jc_region ?_
  refine jo_f [(0, 0), (0, 0), (0, 0), (0, 0), (0, 0)] (by kernel_rfl) ?_
  refine jo_end (by kernel_rfl) ?_
  refine jx_then ?_
  refine jc_cond ((a0.length : Int) != (b1.length : Int)) (by kernel_rfl) (fun hc_2 => ?_) (fun hc_2 => ?_)
  · replace h := ifT hc_2 h
    refine jc_seq ?_
    refine jc_region ?_
    refine jo_f [(0, 0)] (by kernel_rfl) ?_
    refine jo_end (by kernel_rfl) ?_
    refine jx_then ?_
    refine jc_ret ?_
    refine jx_thenr ?_
    obtain rfl := Option.some.inj h
    exact jx_ret [] (.bool false) [] rfl (by kernel_rfl) (by kernel_rfl) (fun w hm => ⟨rfl, hm.pick [] (by kernel_rfl) (by kernel_rfl)⟩)
  · replace h := ifF hc_2 h
    refine jc_skip ?_
    refine jx_then ?_
    refine jc_seq ?_
    refine jc_seq ?_
    refine jc_region ?_
    refine jo_f [(0, 0)] (by kernel_rfl) ?_
    refine jo_end (by kernel_rfl) ?_
    refine jx_then ?_
    refine jc_meet (fun (_ : Unit) => laws_eqChoiceS.k_1 = some r) (fun (_ : Unit) => [(4, [], (.bool false))]) (fun (_ : Unit) => []) ?_ ?_
    · refine jc_block ?_
      obtain ⟨t_4, ht_48, hr_38⟩ := bd h
      refine jc_loop (fun (s : Int) (x : Unit) => match s, x with | i_2, _ => True) (fun (s : Int) (x : Unit) => match s, x with | i_2, _ => [(0, [], (.slice a0_a a0.length a0_c)), (1, [], (.slice b1_a b1.length b1_c)), (4, [], (.bool false)), (5, [], (.int .i64 i_2))]) (fun (s : Int) (x : Unit) => match s, x with | i_2, _ => []) ht_48 () trivial (by kernel_rfl) [] (by kernel_rfl) (by kernel_rfl) ?_
      rintro i_2 _ y_39 _ h
      rw [laws_eqChoiceS.l_3] at h
      refine jc_seq ?_
      refine jc_seq ?_
      refine jc_region ?_
      refine jo_f [(0, 0), (0, 0), (0, 0), (0, 0)] (by kernel_rfl) ?_
      refine jo_end (by kernel_rfl) ?_
      refine jx_then ?_
      refine jc_cond (decide (i_2 < (a0.length : Int))) (by kernel_rfl) (fun hc_41 => ?_) (fun hc_41 => ?_)
      · replace h := ifT hc_41 h
        refine jc_skip ?_
        refine jx_then ?_
        refine jc_seq ?_
        refine jc_block ?_
        refine jc_seq ?_
        refine jc_draw [] 10 (by kernel_rfl) (by kernel_rfl) ?_
        refine jd_f [⟨0, 0, 0⟩, ⟨1, 0, 0⟩, ⟨4, 0, 0⟩, ⟨5, 0, 0⟩] 6 (by kernel_rfl) (by kernel_rfl) (fun w h => h.pick [] (by kernel_rfl) (by kernel_rfl)) (by kernel_rfl) (by kernel_rfl) ?_
        obtain ⟨x_5, hx_42, h⟩ := bd h
        refine jd_v 2 0 (by kernel_rfl) (fun w h => h.pick [] (by kernel_rfl) (by kernel_rfl)) (by kernel_rfl) (by kernel_rfl) _ (fun w hm => idx_run (a := a0_a) (len := a0.length) (s := 4) (j := i_2) (by kernel_rfl) (ix_some hx_42).1 (ltn hx_42 rfl) (a0_h.sp hx_42)) ?_
        refine jd_v 3 0 (by kernel_rfl) (fun w h => h.pick [] (by kernel_rfl) (by kernel_rfl)) (by kernel_rfl) (by kernel_rfl) _ (fun w hm => ld_run (b := aB a0_a) (off := (aO a0_a + i_2.toNat * 4)) (s := 4) (agg := true) (vs := (encGChoice x_5)) (by kernel_rfl) (by kernel_rfl) (.inl rfl) ((hm.exRow a0_h List.not_mem_nil).at hx_42)) ?_
        obtain ⟨x_6, hx_43, h⟩ := bd h
        refine jd_v 6 0 (by kernel_rfl) (fun w h => h.pick [] (by kernel_rfl) (by kernel_rfl)) (by kernel_rfl) (by kernel_rfl) _ (fun w hm => idx_run (a := b1_a) (len := b1.length) (s := 4) (j := i_2) (by kernel_rfl) (ix_some hx_43).1 (ltn hx_43 rfl) (b1_h.sp hx_43)) ?_
        refine jd_v 7 0 (by kernel_rfl) (fun w h => h.pick [] (by kernel_rfl) (by kernel_rfl)) (by kernel_rfl) (by kernel_rfl) _ (fun w hm => ld_run (b := aB b1_a) (off := (aO b1_a + i_2.toNat * 4)) (s := 4) (agg := true) (vs := (encGChoice x_6)) (by kernel_rfl) (by kernel_rfl) (.inl rfl) ((hm.exRow b1_h List.not_mem_nil).at hx_43)) ?_
        obtain ⟨t_7, ht_44, h⟩ := bd h
        refine toD 8 (by kernel_rfl) (p_call 0 85 #[(.agg #[(.bool x_5.fAway), (.int .i8 x_5.fLate), (.int .i8 x_5.fOctave), (.int .i8 x_5.fTrack)]), (.agg #[(.bool x_6.fAway), (.int .i8 x_6.fLate), (.int .i8 x_6.fOctave), (.int .i8 x_6.fTrack)])] (by kernel_rfl) (by kernel_rfl) (fun w hm => laws_eqChoice.calls x_5 x_6 w _ ht_44) ?_)
        rintro w v w' hm ⟨rfl, hm'⟩
        refine ⟨_, hm.app hm', jkD (fun w h => h.pick [] (by kernel_rfl) (by kernel_rfl)) ?_⟩
        clear hm hm'
        refine jd_f [⟨9, 0, 0⟩] 0 (by kernel_rfl) (by kernel_rfl) (fun w h => h.pick [] (by kernel_rfl) (by kernel_rfl)) (by kernel_rfl) (by kernel_rfl) ?_
        refine jd_end (by kernel_rfl) ?_
        refine jx_then ?_
        refine jc_cond (!t_7) (by kernel_rfl) (fun hc_45 => ?_) (fun hc_45 => ?_)
        · replace h := ifT hc_45 h
          refine jc_seq ?_
          refine jc_region ?_
          refine jo_f [(0, 0)] (by kernel_rfl) ?_
          refine jo_end (by kernel_rfl) ?_
          refine jx_then ?_
          refine jc_ret ?_
          refine jx_inr ?_
          refine jx_thenr ?_
          refine jx_leaver (.inl false) (Option.some.inj h).symm (fun e_46 => ?_)
          subst e_46
          refine jx_inr ?_
          refine jx_thenr ?_
          refine jx_thenr ?_
          obtain rfl := Option.some.inj hr_38
          exact jx_ret [] (.bool false) [] rfl (by kernel_rfl) (by kernel_rfl) (fun w hm => ⟨rfl, hm.pick [] (by kernel_rfl) (by kernel_rfl)⟩)
        · replace h := ifF hc_45 h
          refine jc_skip ?_
          refine jx_inn ?_
          refine jx_then ?_
          refine jc_region ?_
          refine jo_f [(0, 0), (0, 0), (0, 0)] (by kernel_rfl) ?_
          refine jo_end (by kernel_rfl) ?_
          exact jx_back (w64 (i_2 + 1)) () (Option.some.inj h).symm trivial [] (by kernel_rfl) (by kernel_rfl) (by kernel_rfl)
      · replace h := ifF hc_41 h
        refine jc_exit ?_
        refine jx_thenx ?_
        refine jx_leave (.inr ()) (Option.some.inj h).symm (fun e_47 => ?_)
        subst e_47
        refine jx_ine ?_
        exact jx_meet () hr_38 (by kernel_rfl) [] (by kernel_rfl) (by kernel_rfl)
    · rintro _ h
      replace h : laws_eqChoiceS.k_1 = some r := h
      rw [laws_eqChoiceS.k_1] at h
      refine jx_then ?_
      refine jc_seq ?_
      refine jc_region ?_
      refine jo_f [(0, 0)] (by kernel_rfl) ?_
      refine jo_end (by kernel_rfl) ?_
      refine jx_then ?_
      refine jc_ret ?_
      obtain rfl := Option.some.inj h
      exact jx_ret [] (.bool true) [] rfl (by kernel_rfl) (by kernel_rfl) (fun w hm => ⟨rfl, hm.pick [] (by kernel_rfl) (by kernel_rfl)⟩)
end Go.Proofs.Ytilackblefjgdaa
