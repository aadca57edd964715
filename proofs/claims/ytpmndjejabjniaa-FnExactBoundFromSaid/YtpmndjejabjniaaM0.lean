/- Functions of the program that the laws reach: a plain function each, and that the call comes to its answer if the plain function has one. Printed by a program. -/
import Derived.Test.YtpmndjejabjniaaT
namespace Go.Proofs.Ytpmndjejabjniaa
open Eng
set_option linter.unusedVariables false

set_option linter.unusedSectionVars false
variable [dsW : DrwS]

/-! ### laws.szHammerS -/
noncomputable def laws_szHammerS (a0 : List GHammer) (left1 : Int) : Option (Int) := (if (decide ((w64 (left1 - (a0.length : Int))) < 0)) = true then some (-1) else some (w64 (left1 - (a0.length : Int))))
set_option maxRecDepth 100000 in
theorem laws_szHammerS.calls (a0 : List GHammer) (left1 : Int) (w : World) (r : Int) (a0_a : Option Addr) (a0_an : Nat) (a0_c : Nat) (a0_h : Rw w a0_a 2 encGHammer a0) (a0_hn : a0.length = a0_an) (h : laws_szHammerS a0 left1 = some r) :
    Calls Try.prog 13 #[(.slice a0_a a0_an a0_c), (.int .i64 left1)] w fun e w' => ∃ v, e = .returned v ∧ (v = (.int .i64 r) ∧ Mem w [] [] w') := by
  subst a0_hn
  rw [laws_szHammerS] at h
  refine enter (args := [(.slice a0_a a0.length a0_c), (.int .i64 left1)]) Try.func13 rfl Try.ntmps13 (by kernel_rfl) (L := []) (W := []) (Mem.start w) ?_
  refine jc_seq ?_
  refine jc_region ?_
  refine jo_f [(0, 0)] (by kernel_rfl) ?_
  refine jo_end (by kernel_rfl) ?_
  refine jx_then ?_
  refine jc_seq ?_
  refine jc_region ?_
  refine jo_f [(0, 0), (0, 0), (0, 0), (0, 0), (0, 0)] (by kernel_rfl) ?_
  refine jo_end (by kernel_rfl) ?_
  refine jx_then ?_
  refine jc_seq ?_
  refine jc_seq ?_
  refine jc_region ?_
  refine jo_f [(0, 0), (0, 0)] (by kernel_rfl) ?_
  refine jo_end (by kernel_rfl) ?_
  refine jx_then ?_
  refine jc_cond (decide ((w64 (left1 - (a0.length : Int))) < 0)) (by kernel_rfl) (fun hc_2 => ?_) (fun hc_2 => ?_)
  · replace h := ifT hc_2 h
    refine jc_seq ?_
    refine jc_region ?_
    refine jo_f [(0, 0)] (by kernel_rfl) ?_
    refine jo_end (by kernel_rfl) ?_
    refine jx_then ?_
    refine jc_ret ?_
    refine jx_thenr ?_
    obtain rfl := Option.some.inj h
    exact jx_ret [] (.int .i64 (-1)) [] rfl (by kernel_rfl) (by kernel_rfl) (fun w hm => ⟨rfl, hm.pick [] (by kernel_rfl) (by kernel_rfl)⟩)
  · replace h := ifF hc_2 h
    refine jc_skip ?_
    refine jx_then ?_
    refine jc_seq ?_
    refine jc_region ?_
    refine jo_f [(0, 0), (0, 0)] (by kernel_rfl) ?_
    refine jo_end (by kernel_rfl) ?_
    refine jx_then ?_
    refine jc_ret ?_
    obtain rfl := Option.some.inj h
    exact jx_ret [] (.int .i64 (w64 (left1 - (a0.length : Int)))) [] rfl (by kernel_rfl) (by kernel_rfl) (fun w hm => ⟨rfl, hm.pick [] (by kernel_rfl) (by kernel_rfl)⟩)

/-! ### laws.szFrame -/
noncomputable def laws_szFrame (a0 : GFrame) (left1 : Int) : Option (Int) := (laws_szHammerS a0.fHammers left1).bind fun t_1 => (if (decide (t_1 < 0)) = true then some (-1) else some t_1)
set_option maxRecDepth 100000 in
theorem laws_szFrame.calls (a0 : GFrame) (left1 : Int) (w : World) (r : Int) (a0_fHammers_a : Option Addr) (a0_fHammers_an : Nat) (a0_fHammers_c : Nat) (a0_fHammers_h : Rw w a0_fHammers_a 2 encGHammer a0.fHammers) (a0_fHammers_hn : a0.fHammers.length = a0_fHammers_an) (h : laws_szFrame a0 left1 = some r) :
    Calls Try.prog 4 #[(.agg #[(.int .i16 a0.fSteps), (.slice a0_fHammers_a a0_fHammers_an a0_fHammers_c)]), (.int .i64 left1)] w fun e w' => ∃ v, e = .returned v ∧ (v = (.int .i64 r) ∧ Mem w [] [] w') := by
  subst a0_fHammers_hn
  rw [laws_szFrame] at h
  refine enter (args := [(.agg #[(.int .i16 a0.fSteps), (.slice a0_fHammers_a a0.fHammers.length a0_fHammers_c)]), (.int .i64 left1)]) Try.func4 rfl Try.ntmps4 (by kernel_rfl) (L := []) (W := []) (Mem.start w) ?_
  refine jc_seq ?_
  refine jc_region ?_
  refine toO (by kernel_rfl) (p_a 0 [0] (by kernel_rfl) (fun b => by kernel_rfl) (fun b_1 => jkO ?_))
  refine jo_f [(0, 0)] (by kernel_rfl) ?_
  refine jo_end (by kernel_rfl) ?_
  refine jx_then ?_
  refine jc_seq ?_
  refine jc_region ?_
  refine jo_f [(0, 0), (0, 0), (0, 0)] (by kernel_rfl) ?_
  obtain ⟨t_1, ht_2, h⟩ := bd h
  refine toO (by kernel_rfl) (p_call 0 13 #[(.slice a0_fHammers_a a0.fHammers.length a0_fHammers_c), (.int .i64 left1)] (by kernel_rfl) (by kernel_rfl) (fun w hm => laws_szHammerS.calls a0.fHammers left1 w _ a0_fHammers_a a0.fHammers.length a0_fHammers_c (hm.exRow a0_fHammers_h List.not_mem_nil) rfl ht_2) ?_)
  rintro w v w' hm ⟨rfl, hm'⟩
  refine ⟨_, hm.app hm', jkO ?_⟩
  clear hm hm'
  refine jo_f [(0, 0)] (by kernel_rfl) ?_
  refine jo_end (by kernel_rfl) ?_
  refine jx_then ?_
  refine jc_seq ?_
  refine jc_seq ?_
  refine jc_region ?_
  refine jo_f [(0, 0), (0, 0)] (by kernel_rfl) ?_
  refine jo_end (by kernel_rfl) ?_
  refine jx_then ?_
  refine jc_cond (decide (t_1 < 0)) (by kernel_rfl) (fun hc_4 => ?_) (fun hc_4 => ?_)
  · replace h := ifT hc_4 h
    refine jc_seq ?_
    refine jc_region ?_
    refine jo_f [(0, 0)] (by kernel_rfl) ?_
    refine jo_end (by kernel_rfl) ?_
    refine jx_then ?_
    refine jc_ret ?_
    refine jx_thenr ?_
    obtain rfl := Option.some.inj h
    exact jx_ret [] (.int .i64 (-1)) [] rfl (by kernel_rfl) (by kernel_rfl) (fun w hm => ⟨rfl, hm.pick [] (by kernel_rfl) (by kernel_rfl)⟩)
  · replace h := ifF hc_4 h
    refine jc_skip ?_
    refine jx_then ?_
    refine jc_seq ?_
    refine jc_region ?_
    refine jo_f [(0, 0), (0, 0)] (by kernel_rfl) ?_
    refine jo_end (by kernel_rfl) ?_
    refine jx_then ?_
    refine jc_ret ?_
    obtain rfl := Option.some.inj h
    exact jx_ret [] (.int .i64 t_1) [] rfl (by kernel_rfl) (by kernel_rfl) (fun w hm => ⟨rfl, hm.pick [] (by kernel_rfl) (by kernel_rfl)⟩)

/-! ### laws.szTune -/
noncomputable def laws_szTune (a0 : List GNote) (left1 : Int) : Option (Int) := (if (decide ((w64 (left1 - (a0.length : Int))) < 0)) = true then some (-1) else some (w64 (left1 - (a0.length : Int))))
set_option maxRecDepth 100000 in
theorem laws_szTune.calls (a0 : List GNote) (left1 : Int) (w : World) (r : Int) (a0_a : Option Addr) (a0_an : Nat) (a0_c : Nat) (a0_h : Rw w a0_a 2 encGNote a0) (a0_hn : a0.length = a0_an) (h : laws_szTune a0 left1 = some r) :
    Calls Try.prog 5 #[(.slice a0_a a0_an a0_c), (.int .i64 left1)] w fun e w' => ∃ v, e = .returned v ∧ (v = (.int .i64 r) ∧ Mem w [] [] w') := by
  subst a0_hn
  rw [laws_szTune] at h
  refine enter (args := [(.slice a0_a a0.length a0_c), (.int .i64 left1)]) Try.func5 rfl Try.ntmps5 (by kernel_rfl) (L := []) (W := []) (Mem.start w) ?_
  refine jc_seq ?_
  refine jc_region ?_
  refine jo_f [(0, 0)] (by kernel_rfl) ?_
  refine jo_end (by kernel_rfl) ?_
  refine jx_then ?_
  refine jc_seq ?_
  refine jc_region ?_
  refine jo_f [(0, 0), (0, 0), (0, 0), (0, 0), (0, 0)] (by kernel_rfl) ?_
  refine jo_end (by kernel_rfl) ?_
  refine jx_then ?_
  refine jc_seq ?_
  refine jc_seq ?_
  refine jc_region ?_
  refine jo_f [(0, 0), (0, 0)] (by kernel_rfl) ?_
  refine jo_end (by kernel_rfl) ?_
  refine jx_then ?_
  refine jc_cond (decide ((w64 (left1 - (a0.length : Int))) < 0)) (by kernel_rfl) (fun hc_2 => ?_) (fun hc_2 => ?_)
  · replace h := ifT hc_2 h
    refine jc_seq ?_
    refine jc_region ?_
    refine jo_f [(0, 0)] (by kernel_rfl) ?_
    refine jo_end (by kernel_rfl) ?_
    refine jx_then ?_
    refine jc_ret ?_
    refine jx_thenr ?_
    obtain rfl := Option.some.inj h
    exact jx_ret [] (.int .i64 (-1)) [] rfl (by kernel_rfl) (by kernel_rfl) (fun w hm => ⟨rfl, hm.pick [] (by kernel_rfl) (by kernel_rfl)⟩)
  · replace h := ifF hc_2 h
    refine jc_skip ?_
    refine jx_then ?_
    refine jc_seq ?_
    refine jc_region ?_
    refine jo_f [(0, 0), (0, 0)] (by kernel_rfl) ?_
    refine jo_end (by kernel_rfl) ?_
    refine jx_then ?_
    refine jc_ret ?_
    obtain rfl := Option.some.inj h
    exact jx_ret [] (.int .i64 (w64 (left1 - (a0.length : Int)))) [] rfl (by kernel_rfl) (by kernel_rfl) (fun w hm => ⟨rfl, hm.pick [] (by kernel_rfl) (by kernel_rfl)⟩)

/-! ### laws.toHammer -/
noncomputable def laws_toHammer (a0 : GHammer) : Option (GHammer) := some a0
set_option maxRecDepth 100000 in
theorem laws_toHammer.calls (a0 : GHammer) (w : World) (r : GHammer) (h : laws_toHammer a0 = some r) :
    Calls Try.prog 31 #[(.agg #[(.int .i8 a0.fPitch), (.int .i8 a0.fReady)])] w fun e w' => ∃ v, e = .returned v ∧ (v = .agg #[(.int .i8 r.fPitch), (.int .i8 r.fReady)] ∧ Mem w [] [] w') := by
  rw [laws_toHammer] at h
  refine enter (args := [(.agg #[(.int .i8 a0.fPitch), (.int .i8 a0.fReady)])]) Try.func31 rfl Try.ntmps31 (by kernel_rfl) (L := []) (W := []) (Mem.start w) ?_
  refine jc_seq ?_
  refine jc_region ?_
  refine toO (by kernel_rfl) (p_a 0 [0] (by kernel_rfl) (fun b => by kernel_rfl) (fun b_1 => jkO ?_))
  refine toO (by kernel_rfl) (p_a 0 [0] (by kernel_rfl) (fun b => by kernel_rfl) (fun b_2 => jkO ?_))
  refine jo_end (by kernel_rfl) ?_
  refine jx_then ?_
  refine jc_seq ?_
  refine jc_region ?_
  refine toO (by kernel_rfl) (p_a 0 [0] (by kernel_rfl) (fun b => by kernel_rfl) (fun b_3 => jkO ?_))
  refine jo_end (by kernel_rfl) ?_
  refine jx_then ?_
  refine jc_seq ?_
  refine jc_region ?_
  refine jo_f [(0, 0), (0, 0), (0, 0)] (by kernel_rfl) ?_
  refine toO (by kernel_rfl) (p_s 0 [2] (by kernel_rfl) (by kernel_rfl) (jkO ?_))
  refine jo_end (by kernel_rfl) ?_
  refine jx_then ?_
  refine jc_seq ?_
  refine jc_region ?_
  refine jo_f [(0, 0), (0, 0), (0, 0)] (by kernel_rfl) ?_
  refine toO (by kernel_rfl) (p_s 0 [2] (by kernel_rfl) (by kernel_rfl) (jkO ?_))
  refine jo_end (by kernel_rfl) ?_
  refine jx_then ?_
  refine jc_seq ?_
  refine jc_region ?_
  refine jo_f [(2, 0)] (by kernel_rfl) ?_
  refine toO (by kernel_rfl) (p_s 0 [1] (by kernel_rfl) (by kernel_rfl) (jkO ?_))
  refine jo_end (by kernel_rfl) ?_
  refine jx_then ?_
  refine jc_ret ?_
  obtain rfl := Option.some.inj h
  exact jx_ret [1] (.agg #[(.int .i8 a0.fPitch), (.int .i8 a0.fReady)]) [(b_2, b_2), (b_2, b_2)] rfl (by kernel_rfl) (by kernel_rfl) (fun w hm => ⟨rfl, hm.pick [] (by kernel_rfl) (by kernel_rfl)⟩)

/-! ### laws.toHammerS -/
noncomputable def laws_toHammerS.k_2 (xs_1 : List GHammer) : Option ((List GHammer)) := some xs_1
noncomputable def laws_toHammerS.l_5 (a0 : List GHammer) : ((List GHammer) × Int) → Option (((List GHammer) × Int) ⊕ ((List GHammer)))
  | (xs_3, i_4) => (if (decide (i_4 < (a0.length : Int))) = true then (ix a0 i_4).bind fun x_7 => (laws_toHammer x_7).bind fun t_8 => (ix xs_3 i_4).bind fun x_9 => some (.inl ((xs_3.set i_4.toNat t_8), (w64 (i_4 + 1)))) else some (.inr xs_3))
noncomputable def laws_toHammerS (a0 : List GHammer) : Option ((List GHammer)) := (if 0 ≤ (a0.length : Int) ∧ (a0.length : Int) ≤ 70368744177664 then (loop (laws_toHammerS.l_5 a0) ((List.replicate (a0.length : Int).toNat (⟨0, 0⟩ : GHammer)), 0)).bind fun t_6 => laws_toHammerS.k_2 t_6 else none)
set_option maxRecDepth 100000 in
theorem laws_toHammerS.calls (a0 : List GHammer) (w : World) (r : (List GHammer)) (a0_a : Option Addr) (a0_an : Nat) (a0_c : Nat) (a0_h : Rw w a0_a 2 encGHammer a0) (a0_hn : a0.length = a0_an) (h : laws_toHammerS a0 = some r) :
    Calls Try.prog 17 #[(.slice a0_a a0_an a0_c)] w fun e w' => ∃ v, e = .returned v ∧ (∃ (o0 : Option Nat) (c0 : Nat) (s0 : List Value) (n0 : Nat), r.length = n0 ∧ (o0 ≠ none → n0 ≤ c0 ∧ s0.length = (c0 - n0) * 2) ∧ (o0 = none → r = [] ∧ c0 = 0) ∧ v = .slice (o0.map fun b => ⟨b, 0, none⟩) n0 c0 ∧ Mem w [] [⟨o0, 69, row encGHammer r s0⟩] w') := by
  subst a0_hn
  rw [laws_toHammerS] at h
  refine enter (args := [(.slice a0_a a0.length a0_c)]) Try.func17 rfl Try.ntmps17 (by kernel_rfl) (L := []) (W := []) (Mem.start w) ?_
  refine jc_seq ?_
  refine jc_region ?_
  refine jo_f [(0, 0)] (by kernel_rfl) ?_
  refine jo_end (by kernel_rfl) ?_
  refine jx_then ?_
  refine jc_seq ?_
  refine jc_region ?_
  refine jo_f [(0, 0), (0, 0)] (by kernel_rfl) ?_
  obtain ⟨hg_88, h⟩ := gd h
  refine toO (by kernel_rfl) (p_mk 0 69 (a0.length : Int) 2 2 encGHammer (⟨0, 0⟩ : GHammer) (by kernel_rfl) (by kernel_rfl) hg_88.1 (by omega) (by kernel_rfl) (fun b_1 => jkO ?_))
  refine jo_f [(0, 0)] (by kernel_rfl) ?_
  refine jo_end (by kernel_rfl) ?_
  refine jx_then ?_
  refine jc_seq ?_
  refine jc_seq ?_
  refine jc_region ?_
  refine jo_f [(0, 0)] (by kernel_rfl) ?_
  refine jo_end (by kernel_rfl) ?_
  refine jx_then ?_
  refine jc_meet (fun (j : (List GHammer)) => match j with | xs_1 => laws_toHammerS.k_2 xs_1 = some r ∧ (xs_1.length = (a0.length : Int).toNat)) (fun (j : (List GHammer)) => match j with | xs_1 => [(2, [], (.slice none 0 0)), (3, [], (.slice (some ⟨b_1, 0, none⟩) ((a0.length : Int).toNat) ((a0.length : Int).toNat)))]) (fun (j : (List GHammer)) => match j with | xs_1 => [⟨(some b_1), 69, row encGHammer xs_1 []⟩]) ?_ ?_
  · refine jc_block ?_
    obtain ⟨t_6, ht_87, hr_79⟩ := bd h
    refine jc_loop (fun (s : (List GHammer) × Int) (x : Unit) => match s, x with | ⟨xs_3, i_4⟩, _ => (xs_3.length = (a0.length : Int).toNat)) (fun (s : (List GHammer) × Int) (x : Unit) => match s, x with | ⟨xs_3, i_4⟩, _ => [(0, [], (.slice a0_a a0.length a0_c)), (2, [], (.slice none 0 0)), (3, [], (.slice (some ⟨b_1, 0, none⟩) ((a0.length : Int).toNat) ((a0.length : Int).toNat))), (4, [], (.int .i64 i_4))]) (fun (s : (List GHammer) × Int) (x : Unit) => match s, x with | ⟨xs_3, i_4⟩, _ => [⟨(some b_1), 69, row encGHammer xs_3 []⟩]) ht_87 () List.length_replicate (by kernel_rfl) [0] (by kernel_rfl) (by kernel_rfl) ?_
    rintro ⟨xs_3, i_4⟩ _ y_80 hn_78 h
    rw [laws_toHammerS.l_5] at h
    refine jc_seq ?_
    refine jc_seq ?_
    refine jc_region ?_
    refine jo_f [(0, 0), (0, 0), (0, 0), (0, 0)] (by kernel_rfl) ?_
    refine jo_end (by kernel_rfl) ?_
    refine jx_then ?_
    refine jc_cond (decide (i_4 < (a0.length : Int))) (by kernel_rfl) (fun hc_82 => ?_) (fun hc_82 => ?_)
    · replace h := ifT hc_82 h
      refine jc_skip ?_
      refine jx_then ?_
      refine jc_seq ?_
      refine jc_block ?_
      refine jc_region ?_
      refine jo_f [(0, 0), (0, 0), (0, 0), (0, 0)] (by kernel_rfl) ?_
      obtain ⟨x_7, hx_83, h⟩ := bd h
      refine toO (by kernel_rfl) (p_idx 0 a0_a a0.length i_4 2 (by kernel_rfl) (by kernel_rfl) (ix_some hx_83).1 (ltn hx_83 rfl) (a0_h.sp hx_83) (jkO ?_))
      refine toO (by kernel_rfl) (p_ld 0 (aB a0_a) (aO a0_a + i_4.toNat * 2) true (encGHammer x_7) (by kernel_rfl) (by kernel_rfl) (by kernel_rfl) (fun w hm => ((hm.exRow a0_h List.not_mem_nil).at hx_83)) (jkO ?_))
      obtain ⟨t_8, ht_84, h⟩ := bd h
      refine toO (by kernel_rfl) (p_call 0 31 #[(.agg #[(.int .i8 x_7.fPitch), (.int .i8 x_7.fReady)])] (by kernel_rfl) (by kernel_rfl) (fun w hm => laws_toHammer.calls x_7 w _ ht_84) ?_)
      rintro w v w' hm ⟨rfl, hm'⟩
      refine ⟨_, hm.app hm', jkO ?_⟩
      clear hm hm'
      obtain ⟨x_9, hx_85, h⟩ := bd h
      refine toO (by kernel_rfl) (p_idx 0 (some ⟨b_1, 0, none⟩) ((a0.length : Int).toNat) i_4 2 (by kernel_rfl) (by kernel_rfl) (ix_some hx_85).1 (ltn hx_85 hn_78) rfl (jkO ?_))
      refine toO (by kernel_rfl) (p_str 0 0 b_1 69 encGHammer xs_3 [] i_4 t_8 2 0 [(.int .i8 t_8.fPitch), (.int .i8 t_8.fReady)] (by kernel_rfl) (by kernel_rfl) (by kernel_rfl) encGHammer_len hx_85 (by kernel_rfl) (by kernel_rfl) (jkO ?_))
      refine jo_end (by kernel_rfl) ?_
      refine jx_inn ?_
      refine jx_then ?_
      refine jc_region ?_
      refine jo_f [(0, 0), (0, 0), (0, 0)] (by kernel_rfl) ?_
      refine jo_end (by kernel_rfl) ?_
      exact jx_back ((xs_3.set i_4.toNat t_8), (w64 (i_4 + 1))) () (Option.some.inj h).symm (List.length_set.trans hn_78) [0] (by kernel_rfl) (by kernel_rfl) (by kernel_rfl)
    · replace h := ifF hc_82 h
      refine jc_exit ?_
      refine jx_thenx ?_
      refine jx_leave xs_3 (Option.some.inj h).symm (fun e_86 => ?_)
      subst e_86
      refine jx_ine ?_
      exact jx_meet xs_3 ⟨hr_79, hn_78⟩ (by kernel_rfl) [0] (by kernel_rfl) (by kernel_rfl)
  · rintro xs_1 ⟨h, hn_66⟩
    replace h : laws_toHammerS.k_2 xs_1 = some r := h
    rw [laws_toHammerS.k_2] at h
    refine jx_then ?_
    refine jc_seq ?_
    refine jc_region ?_
    refine jo_f [(0, 0), (0, 0)] (by kernel_rfl) ?_
    refine jo_end (by kernel_rfl) ?_
    refine jx_then ?_
    refine jc_ret ?_
    obtain rfl := Option.some.inj h
    exact jx_ret [] (.slice (some ⟨b_1, 0, none⟩) ((a0.length : Int).toNat) ((a0.length : Int).toNat)) [] rfl (by kernel_rfl) (by kernel_rfl) (fun w hm => ⟨(some b_1), ((a0.length : Int).toNat), [], ((a0.length : Int).toNat), hn_66, (fun _ => ⟨Nat.le_refl _, by simp⟩), (fun e => nomatch e), rfl, hm.pick [0] (by kernel_rfl) (by kernel_rfl)⟩)

/-! ### laws.toFrame -/
noncomputable def laws_toFrame (a0 : GFrame) : Option (GFrame) := (laws_toHammerS a0.fHammers).bind fun t_1 => some (⟨a0.fSteps, t_1⟩ : GFrame)
set_option maxRecDepth 100000 in
theorem laws_toFrame.calls (a0 : GFrame) (w : World) (r : GFrame) (a0_fHammers_a : Option Addr) (a0_fHammers_an : Nat) (a0_fHammers_c : Nat) (a0_fHammers_h : Rw w a0_fHammers_a 2 encGHammer a0.fHammers) (a0_fHammers_hn : a0.fHammers.length = a0_fHammers_an) (h : laws_toFrame a0 = some r) :
    Calls Try.prog 7 #[(.agg #[(.int .i16 a0.fSteps), (.slice a0_fHammers_a a0_fHammers_an a0_fHammers_c)])] w fun e w' => ∃ v, e = .returned v ∧ (∃ (o0 : Option Nat) (c0 : Nat) (s0 : List Value) (n0 : Nat), r.fHammers.length = n0 ∧ (o0 ≠ none → n0 ≤ c0 ∧ s0.length = (c0 - n0) * 2) ∧ (o0 = none → r.fHammers = [] ∧ c0 = 0) ∧ v = .agg #[(.int .i16 r.fSteps), .slice (o0.map fun b => ⟨b, 0, none⟩) n0 c0] ∧ Mem w [] [⟨o0, 69, row encGHammer r.fHammers s0⟩] w') := by
  subst a0_fHammers_hn
  rw [laws_toFrame] at h
  refine enter (args := [(.agg #[(.int .i16 a0.fSteps), (.slice a0_fHammers_a a0.fHammers.length a0_fHammers_c)])]) Try.func7 rfl Try.ntmps7 (by kernel_rfl) (L := []) (W := []) (Mem.start w) ?_
  refine jc_seq ?_
  refine jc_region ?_
  refine toO (by kernel_rfl) (p_a 0 [0] (by kernel_rfl) (fun b => by kernel_rfl) (fun b_1 => jkO ?_))
  refine toO (by kernel_rfl) (p_a 0 [0] (by kernel_rfl) (fun b => by kernel_rfl) (fun b_2 => jkO ?_))
  refine jo_end (by kernel_rfl) ?_
  refine jx_then ?_
  refine jc_seq ?_
  refine jc_region ?_
  refine toO (by kernel_rfl) (p_a 0 [0] (by kernel_rfl) (fun b => by kernel_rfl) (fun b_3 => jkO ?_))
  refine jo_end (by kernel_rfl) ?_
  refine jx_then ?_
  refine jc_seq ?_
  refine jc_region ?_
  refine jo_f [(0, 0), (0, 0), (0, 0)] (by kernel_rfl) ?_
  refine toO (by kernel_rfl) (p_s 0 [2] (by kernel_rfl) (by kernel_rfl) (jkO ?_))
  refine jo_end (by kernel_rfl) ?_
  refine jx_then ?_
  refine jc_seq ?_
  refine jc_region ?_
  refine jo_f [(0, 0), (0, 0)] (by kernel_rfl) ?_
  obtain ⟨t_1, ht_4, h⟩ := bd h
  refine toO (by kernel_rfl) (p_call 0 17 #[(.slice a0_fHammers_a a0.fHammers.length a0_fHammers_c)] (by kernel_rfl) (by kernel_rfl) (fun w hm => laws_toHammerS.calls a0.fHammers w _ a0_fHammers_a a0.fHammers.length a0_fHammers_c (hm.exRow a0_fHammers_h List.not_mem_nil) rfl ht_4) ?_)
  rintro w v w' hm ⟨o_5, cap_6, sp_7, _, rfl, hs_8, ho_9, rfl, hm'⟩
  refine ⟨_, hm.app hm', jkO ?_⟩
  clear hm hm'
  refine jo_f [(0, 0)] (by kernel_rfl) ?_
  refine toO (by kernel_rfl) (p_s 0 [2] (by kernel_rfl) (by kernel_rfl) (jkO ?_))
  refine jo_end (by kernel_rfl) ?_
  refine jx_then ?_
  refine jc_seq ?_
  refine jc_region ?_
  refine jo_f [(2, 0)] (by kernel_rfl) ?_
  refine toO (by kernel_rfl) (p_s 0 [1] (by kernel_rfl) (by kernel_rfl) (jkO ?_))
  refine jo_end (by kernel_rfl) ?_
  refine jx_then ?_
  refine jc_ret ?_
  obtain rfl := Option.some.inj h
  exact jx_ret [1] (.agg #[(.int .i16 a0.fSteps), (.slice (o_5.map fun b => ⟨b, 0, none⟩) t_1.length cap_6)]) [(b_2, b_2), (b_2, b_2)] rfl (by kernel_rfl) (by kernel_rfl) (fun w hm => ⟨o_5, cap_6, sp_7, t_1.length, rfl, hs_8, ho_9, rfl, hm.pick [3] (by kernel_rfl) (by kernel_rfl)⟩)

/-! ### laws.toNote -/
noncomputable def laws_toNote (a0 : GNote) : Option (GNote) := some a0
set_option maxRecDepth 100000 in
theorem laws_toNote.calls (a0 : GNote) (w : World) (r : GNote) (h : laws_toNote a0 = some r) :
    Calls Try.prog 18 #[(.agg #[(.int .i16 a0.fAt), (.int .i8 a0.fPitch)])] w fun e w' => ∃ v, e = .returned v ∧ (v = .agg #[(.int .i16 r.fAt), (.int .i8 r.fPitch)] ∧ Mem w [] [] w') := by
  rw [laws_toNote] at h
  refine enter (args := [(.agg #[(.int .i16 a0.fAt), (.int .i8 a0.fPitch)])]) Try.func18 rfl Try.ntmps18 (by kernel_rfl) (L := []) (W := []) (Mem.start w) ?_
  refine jc_seq ?_
  refine jc_region ?_
  refine toO (by kernel_rfl) (p_a 0 [0] (by kernel_rfl) (fun b => by kernel_rfl) (fun b_1 => jkO ?_))
  refine toO (by kernel_rfl) (p_a 0 [0] (by kernel_rfl) (fun b => by kernel_rfl) (fun b_2 => jkO ?_))
  refine jo_end (by kernel_rfl) ?_
  refine jx_then ?_
  refine jc_seq ?_
  refine jc_region ?_
  refine toO (by kernel_rfl) (p_a 0 [0] (by kernel_rfl) (fun b => by kernel_rfl) (fun b_3 => jkO ?_))
  refine jo_end (by kernel_rfl) ?_
  refine jx_then ?_
  refine jc_seq ?_
  refine jc_region ?_
  refine jo_f [(0, 0), (0, 0), (0, 0)] (by kernel_rfl) ?_
  refine toO (by kernel_rfl) (p_s 0 [2] (by kernel_rfl) (by kernel_rfl) (jkO ?_))
  refine jo_end (by kernel_rfl) ?_
  refine jx_then ?_
  refine jc_seq ?_
  refine jc_region ?_
  refine jo_f [(0, 0), (0, 0), (0, 0)] (by kernel_rfl) ?_
  refine toO (by kernel_rfl) (p_s 0 [2] (by kernel_rfl) (by kernel_rfl) (jkO ?_))
  refine jo_end (by kernel_rfl) ?_
  refine jx_then ?_
  refine jc_seq ?_
  refine jc_region ?_
  refine jo_f [(2, 0)] (by kernel_rfl) ?_
  refine toO (by kernel_rfl) (p_s 0 [1] (by kernel_rfl) (by kernel_rfl) (jkO ?_))
  refine jo_end (by kernel_rfl) ?_
  refine jx_then ?_
  refine jc_ret ?_
  obtain rfl := Option.some.inj h
  exact jx_ret [1] (.agg #[(.int .i16 a0.fAt), (.int .i8 a0.fPitch)]) [(b_2, b_2), (b_2, b_2)] rfl (by kernel_rfl) (by kernel_rfl) (fun w hm => ⟨rfl, hm.pick [] (by kernel_rfl) (by kernel_rfl)⟩)

/-! ### laws.toTune -/
noncomputable def laws_toTune.k_2 (xs_1 : List GNote) : Option ((List GNote)) := some xs_1
noncomputable def laws_toTune.l_5 (a0 : List GNote) : ((List GNote) × Int) → Option (((List GNote) × Int) ⊕ ((List GNote)))
  | (xs_3, i_4) => (if (decide (i_4 < (a0.length : Int))) = true then (ix a0 i_4).bind fun x_7 => (laws_toNote x_7).bind fun t_8 => (ix xs_3 i_4).bind fun x_9 => some (.inl ((xs_3.set i_4.toNat t_8), (w64 (i_4 + 1)))) else some (.inr xs_3))
noncomputable def laws_toTune (a0 : List GNote) : Option ((List GNote)) := (if 0 ≤ (a0.length : Int) ∧ (a0.length : Int) ≤ 35184372088832 then (loop (laws_toTune.l_5 a0) ((List.replicate (a0.length : Int).toNat (⟨0, 0⟩ : GNote)), 0)).bind fun t_6 => laws_toTune.k_2 t_6 else none)
set_option maxRecDepth 100000 in
theorem laws_toTune.calls (a0 : List GNote) (w : World) (r : (List GNote)) (a0_a : Option Addr) (a0_an : Nat) (a0_c : Nat) (a0_h : Rw w a0_a 2 encGNote a0) (a0_hn : a0.length = a0_an) (h : laws_toTune a0 = some r) :
    Calls Try.prog 8 #[(.slice a0_a a0_an a0_c)] w fun e w' => ∃ v, e = .returned v ∧ (∃ (o0 : Option Nat) (c0 : Nat) (s0 : List Value) (n0 : Nat), r.length = n0 ∧ (o0 ≠ none → n0 ≤ c0 ∧ s0.length = (c0 - n0) * 2) ∧ (o0 = none → r = [] ∧ c0 = 0) ∧ v = .slice (o0.map fun b => ⟨b, 0, none⟩) n0 c0 ∧ Mem w [] [⟨o0, 53, row encGNote r s0⟩] w') := by
  subst a0_hn
  rw [laws_toTune] at h
  refine enter (args := [(.slice a0_a a0.length a0_c)]) Try.func8 rfl Try.ntmps8 (by kernel_rfl) (L := []) (W := []) (Mem.start w) ?_
  refine jc_seq ?_
  refine jc_region ?_
  refine jo_f [(0, 0)] (by kernel_rfl) ?_
  refine jo_end (by kernel_rfl) ?_
  refine jx_then ?_
  refine jc_seq ?_
  refine jc_region ?_
  refine jo_f [(0, 0), (0, 0)] (by kernel_rfl) ?_
  obtain ⟨hg_88, h⟩ := gd h
  refine toO (by kernel_rfl) (p_mk 0 53 (a0.length : Int) 2 4 encGNote (⟨0, 0⟩ : GNote) (by kernel_rfl) (by kernel_rfl) hg_88.1 (by omega) (by kernel_rfl) (fun b_1 => jkO ?_))
  refine jo_f [(0, 0)] (by kernel_rfl) ?_
  refine jo_end (by kernel_rfl) ?_
  refine jx_then ?_
  refine jc_seq ?_
  refine jc_seq ?_
  refine jc_region ?_
  refine jo_f [(0, 0)] (by kernel_rfl) ?_
  refine jo_end (by kernel_rfl) ?_
  refine jx_then ?_
  refine jc_meet (fun (j : (List GNote)) => match j with | xs_1 => laws_toTune.k_2 xs_1 = some r ∧ (xs_1.length = (a0.length : Int).toNat)) (fun (j : (List GNote)) => match j with | xs_1 => [(2, [], (.slice none 0 0)), (3, [], (.slice (some ⟨b_1, 0, none⟩) ((a0.length : Int).toNat) ((a0.length : Int).toNat)))]) (fun (j : (List GNote)) => match j with | xs_1 => [⟨(some b_1), 53, row encGNote xs_1 []⟩]) ?_ ?_
  · refine jc_block ?_
    obtain ⟨t_6, ht_87, hr_79⟩ := bd h
    refine jc_loop (fun (s : (List GNote) × Int) (x : Unit) => match s, x with | ⟨xs_3, i_4⟩, _ => (xs_3.length = (a0.length : Int).toNat)) (fun (s : (List GNote) × Int) (x : Unit) => match s, x with | ⟨xs_3, i_4⟩, _ => [(0, [], (.slice a0_a a0.length a0_c)), (2, [], (.slice none 0 0)), (3, [], (.slice (some ⟨b_1, 0, none⟩) ((a0.length : Int).toNat) ((a0.length : Int).toNat))), (4, [], (.int .i64 i_4))]) (fun (s : (List GNote) × Int) (x : Unit) => match s, x with | ⟨xs_3, i_4⟩, _ => [⟨(some b_1), 53, row encGNote xs_3 []⟩]) ht_87 () List.length_replicate (by kernel_rfl) [0] (by kernel_rfl) (by kernel_rfl) ?_
    rintro ⟨xs_3, i_4⟩ _ y_80 hn_78 h
    rw [laws_toTune.l_5] at h
    refine jc_seq ?_
    refine jc_seq ?_
    refine jc_region ?_
    refine jo_f [(0, 0), (0, 0), (0, 0), (0, 0)] (by kernel_rfl) ?_
    refine jo_end (by kernel_rfl) ?_
    refine jx_then ?_
    refine jc_cond (decide (i_4 < (a0.length : Int))) (by kernel_rfl) (fun hc_82 => ?_) (fun hc_82 => ?_)
    · replace h := ifT hc_82 h
      refine jc_skip ?_
      refine jx_then ?_
      refine jc_seq ?_
      refine jc_block ?_
      refine jc_region ?_
      refine jo_f [(0, 0), (0, 0), (0, 0), (0, 0)] (by kernel_rfl) ?_
      obtain ⟨x_7, hx_83, h⟩ := bd h
      refine toO (by kernel_rfl) (p_idx 0 a0_a a0.length i_4 2 (by kernel_rfl) (by kernel_rfl) (ix_some hx_83).1 (ltn hx_83 rfl) (a0_h.sp hx_83) (jkO ?_))
      refine toO (by kernel_rfl) (p_ld 0 (aB a0_a) (aO a0_a + i_4.toNat * 2) true (encGNote x_7) (by kernel_rfl) (by kernel_rfl) (by kernel_rfl) (fun w hm => ((hm.exRow a0_h List.not_mem_nil).at hx_83)) (jkO ?_))
      obtain ⟨t_8, ht_84, h⟩ := bd h
      refine toO (by kernel_rfl) (p_call 0 18 #[(.agg #[(.int .i16 x_7.fAt), (.int .i8 x_7.fPitch)])] (by kernel_rfl) (by kernel_rfl) (fun w hm => laws_toNote.calls x_7 w _ ht_84) ?_)
      rintro w v w' hm ⟨rfl, hm'⟩
      refine ⟨_, hm.app hm', jkO ?_⟩
      clear hm hm'
      obtain ⟨x_9, hx_85, h⟩ := bd h
      refine toO (by kernel_rfl) (p_idx 0 (some ⟨b_1, 0, none⟩) ((a0.length : Int).toNat) i_4 2 (by kernel_rfl) (by kernel_rfl) (ix_some hx_85).1 (ltn hx_85 hn_78) rfl (jkO ?_))
      refine toO (by kernel_rfl) (p_str 0 0 b_1 53 encGNote xs_3 [] i_4 t_8 2 0 [(.int .i16 t_8.fAt), (.int .i8 t_8.fPitch)] (by kernel_rfl) (by kernel_rfl) (by kernel_rfl) encGNote_len hx_85 (by kernel_rfl) (by kernel_rfl) (jkO ?_))
      refine jo_end (by kernel_rfl) ?_
      refine jx_inn ?_
      refine jx_then ?_
      refine jc_region ?_
      refine jo_f [(0, 0), (0, 0), (0, 0)] (by kernel_rfl) ?_
      refine jo_end (by kernel_rfl) ?_
      exact jx_back ((xs_3.set i_4.toNat t_8), (w64 (i_4 + 1))) () (Option.some.inj h).symm (List.length_set.trans hn_78) [0] (by kernel_rfl) (by kernel_rfl) (by kernel_rfl)
    · replace h := ifF hc_82 h
      refine jc_exit ?_
      refine jx_thenx ?_
      refine jx_leave xs_3 (Option.some.inj h).symm (fun e_86 => ?_)
      subst e_86
      refine jx_ine ?_
      exact jx_meet xs_3 ⟨hr_79, hn_78⟩ (by kernel_rfl) [0] (by kernel_rfl) (by kernel_rfl)
  · rintro xs_1 ⟨h, hn_66⟩
    replace h : laws_toTune.k_2 xs_1 = some r := h
    rw [laws_toTune.k_2] at h
    refine jx_then ?_
    refine jc_seq ?_
    refine jc_region ?_
    refine jo_f [(0, 0), (0, 0)] (by kernel_rfl) ?_
    refine jo_end (by kernel_rfl) ?_
    refine jx_then ?_
    refine jc_ret ?_
    obtain rfl := Option.some.inj h
    exact jx_ret [] (.slice (some ⟨b_1, 0, none⟩) ((a0.length : Int).toNat) ((a0.length : Int).toNat)) [] rfl (by kernel_rfl) (by kernel_rfl) (fun w hm => ⟨(some b_1), ((a0.length : Int).toNat), [], ((a0.length : Int).toNat), hn_66, (fun _ => ⟨Nat.le_refl _, by simp⟩), (fun e => nomatch e), rfl, hm.pick [0] (by kernel_rfl) (by kernel_rfl)⟩)

/-! ### laws.toCosts -/
noncomputable def laws_toCosts (a0 : GCosts) : Option (GCosts) := some a0
set_option maxRecDepth 100000 in
theorem laws_toCosts.calls (a0 : GCosts) (w : World) (r : GCosts) (h : laws_toCosts a0 = some r) :
    Calls Try.prog 9 #[(.agg #[(.int .i16 a0.fAway), (.int .i16 a0.fOctave), (.int .i16 a0.fStep)])] w fun e w' => ∃ v, e = .returned v ∧ (v = .agg #[(.int .i16 r.fAway), (.int .i16 r.fOctave), (.int .i16 r.fStep)] ∧ Mem w [] [] w') := by
  rw [laws_toCosts] at h
  refine enter (args := [(.agg #[(.int .i16 a0.fAway), (.int .i16 a0.fOctave), (.int .i16 a0.fStep)])]) Try.func9 rfl Try.ntmps9 (by kernel_rfl) (L := []) (W := []) (Mem.start w) ?_
  refine jc_seq ?_
  refine jc_region ?_
  refine toO (by kernel_rfl) (p_a 0 [0] (by kernel_rfl) (fun b => by kernel_rfl) (fun b_1 => jkO ?_))
  refine toO (by kernel_rfl) (p_a 0 [0] (by kernel_rfl) (fun b => by kernel_rfl) (fun b_2 => jkO ?_))
  refine jo_end (by kernel_rfl) ?_
  refine jx_then ?_
  refine jc_seq ?_
  refine jc_region ?_
  refine toO (by kernel_rfl) (p_a 0 [0] (by kernel_rfl) (fun b => by kernel_rfl) (fun b_3 => jkO ?_))
  refine jo_end (by kernel_rfl) ?_
  refine jx_then ?_
  refine jc_seq ?_
  refine jc_region ?_
  refine jo_f [(0, 0), (0, 0), (0, 0)] (by kernel_rfl) ?_
  refine toO (by kernel_rfl) (p_s 0 [2] (by kernel_rfl) (by kernel_rfl) (jkO ?_))
  refine jo_end (by kernel_rfl) ?_
  refine jx_then ?_
  refine jc_seq ?_
  refine jc_region ?_
  refine jo_f [(0, 0), (0, 0), (0, 0)] (by kernel_rfl) ?_
  refine toO (by kernel_rfl) (p_s 0 [2] (by kernel_rfl) (by kernel_rfl) (jkO ?_))
  refine jo_end (by kernel_rfl) ?_
  refine jx_then ?_
  refine jc_seq ?_
  refine jc_region ?_
  refine jo_f [(0, 0), (0, 0), (0, 0)] (by kernel_rfl) ?_
  refine toO (by kernel_rfl) (p_s 0 [2] (by kernel_rfl) (by kernel_rfl) (jkO ?_))
  refine jo_end (by kernel_rfl) ?_
  refine jx_then ?_
  refine jc_seq ?_
  refine jc_region ?_
  refine jo_f [(2, 0)] (by kernel_rfl) ?_
  refine toO (by kernel_rfl) (p_s 0 [1] (by kernel_rfl) (by kernel_rfl) (jkO ?_))
  refine jo_end (by kernel_rfl) ?_
  refine jx_then ?_
  refine jc_ret ?_
  obtain rfl := Option.some.inj h
  exact jx_ret [1] (.agg #[(.int .i16 a0.fAway), (.int .i16 a0.fOctave), (.int .i16 a0.fStep)]) [(b_2, b_2), (b_2, b_2), (b_2, b_2)] rfl (by kernel_rfl) (by kernel_rfl) (fun w hm => ⟨rfl, hm.pick [] (by kernel_rfl) (by kernel_rfl)⟩)

/-! ### spec.l00In -/
noncomputable def spec_l00In (n0 : Int) (low1 : Int) (high2 : Int) : Option (Bool) := some ((decide (n0 ≥ low1)) && (decide (n0 ≤ high2)))
set_option maxRecDepth 100000 in
theorem spec_l00In.calls (n0 : Int) (low1 : Int) (high2 : Int) (w : World) (r : Bool) (h : spec_l00In n0 low1 high2 = some r) :
    Calls Try.prog 15 #[(.int .i64 n0), (.int .i64 low1), (.int .i64 high2)] w fun e w' => ∃ v, e = .returned v ∧ (v = (.bool r) ∧ Mem w [] [] w') := by
  rw [spec_l00In] at h
  refine enter (args := [(.int .i64 n0), (.int .i64 low1), (.int .i64 high2)]) Try.func15 rfl Try.ntmps15 (by kernel_rfl) (L := []) (W := []) (Mem.start w) ?_
  refine jc_seq ?_
  refine jc_region ?_
  refine jo_f [(0, 0)] (by kernel_rfl) ?_
  refine jo_end (by kernel_rfl) ?_
  refine jx_then ?_
  refine jc_seq ?_
  refine jc_region ?_
  refine jo_f [(0, 0), (0, 0), (0, 0), (0, 0), (0, 1), (0, 1), (0, 1), (0, 0), (0, 0)] (by kernel_rfl) ?_
  refine jo_end (by kernel_rfl) ?_
  refine jx_then ?_
  refine jc_ret ?_
  obtain rfl := Option.some.inj h
  exact jx_ret [] (.bool ((decide (n0 ≥ low1)) && (decide (n0 ≤ high2)))) [] rfl (by kernel_rfl) (by kernel_rfl) (fun w hm => ⟨rfl, hm.pick [] (by kernel_rfl) (by kernel_rfl)⟩)

/-! ### spec.l00Min -/
noncomputable def spec_l00Min (a0 : Int) (b1 : Int) : Option (Int) := (if (decide (a0 < b1)) = true then some a0 else some b1)
set_option maxRecDepth 100000 in
theorem spec_l00Min.calls (a0 : Int) (b1 : Int) (w : World) (r : Int) (h : spec_l00Min a0 b1 = some r) :
    Calls Try.prog 37 #[(.int .i64 a0), (.int .i64 b1)] w fun e w' => ∃ v, e = .returned v ∧ (v = (.int .i64 r) ∧ Mem w [] [] w') := by
  rw [spec_l00Min] at h
  refine enter (args := [(.int .i64 a0), (.int .i64 b1)]) Try.func37 rfl Try.ntmps37 (by kernel_rfl) (L := []) (W := []) (Mem.start w) ?_
  refine jc_seq ?_
  refine jc_region ?_
  refine jo_f [(0, 0)] (by kernel_rfl) ?_
  refine jo_end (by kernel_rfl) ?_
  refine jx_then ?_
  refine jc_seq ?_
  refine jc_seq ?_
  refine jc_region ?_
  refine jo_f [(0, 0), (0, 0), (0, 0)] (by kernel_rfl) ?_
  refine jo_end (by kernel_rfl) ?_
  refine jx_then ?_
  refine jc_cond (decide (a0 < b1)) (by kernel_rfl) (fun hc_2 => ?_) (fun hc_2 => ?_)
  · replace h := ifT hc_2 h
    refine jc_seq ?_
    refine jc_region ?_
    refine jo_f [(0, 0), (0, 0)] (by kernel_rfl) ?_
    refine jo_end (by kernel_rfl) ?_
    refine jx_then ?_
    refine jc_ret ?_
    refine jx_thenr ?_
    obtain rfl := Option.some.inj h
    exact jx_ret [] (.int .i64 a0) [] rfl (by kernel_rfl) (by kernel_rfl) (fun w hm => ⟨rfl, hm.pick [] (by kernel_rfl) (by kernel_rfl)⟩)
  · replace h := ifF hc_2 h
    refine jc_skip ?_
    refine jx_then ?_
    refine jc_seq ?_
    refine jc_region ?_
    refine jo_f [(0, 0), (0, 0)] (by kernel_rfl) ?_
    refine jo_end (by kernel_rfl) ?_
    refine jx_then ?_
    refine jc_ret ?_
    obtain rfl := Option.some.inj h
    exact jx_ret [] (.int .i64 b1) [] rfl (by kernel_rfl) (by kernel_rfl) (fun w hm => ⟨rfl, hm.pick [] (by kernel_rfl) (by kernel_rfl)⟩)

/-! ### spec.l02Frame -/
noncomputable def spec_l02Frame.k_3 : Option (Bool) := some true
noncomputable def spec_l02Frame.k_9 (i_4 : Int) (q_8 : Bool) : Option ((Int) ⊕ (Bool ⊕ Unit)) := (if q_8 = true then some (.inr (.inl false)) else some (.inl (w64 (i_4 + 1))))
noncomputable def spec_l02Frame.l_5 (f0 : GFrame) : Int → Option ((Int) ⊕ (Bool ⊕ Unit))
  | i_4 => (if (decide (i_4 < (f0.fHammers.length : Int))) = true then (ix f0.fHammers i_4).bind fun x_7 => (spec_l00In (w64 x_7.fPitch) 0 47).bind fun t_10 => (if (!t_10) = true then spec_l02Frame.k_9 i_4 true else (spec_l00Min 20 (w64 f0.fSteps)).bind fun t_11 => (spec_l00In (w64 x_7.fReady) 1 t_11).bind fun t_12 => spec_l02Frame.k_9 i_4 (!t_12)) else some (.inr (.inr ())))
noncomputable def spec_l02Frame.k_2 (f0 : GFrame) (q_1 : Bool) : Option (Bool) := (if q_1 = true then some false else (loop (spec_l02Frame.l_5 f0) 0).bind fun t_6 => match t_6 with | .inl p => some p | .inr p => spec_l02Frame.k_3)
noncomputable def spec_l02Frame (f0 : GFrame) : Option (Bool) := (spec_l00In (w64 f0.fSteps) 2 96).bind fun t_13 => (if (!t_13) = true then spec_l02Frame.k_2 f0 true else (spec_l00In (f0.fHammers.length : Int) 1 24).bind fun t_14 => spec_l02Frame.k_2 f0 (!t_14))
set_option maxRecDepth 100000 in
theorem spec_l02Frame.calls (f0 : GFrame) (w : World) (r : Bool) (f0_fHammers_a : Option Addr) (f0_fHammers_an : Nat) (f0_fHammers_c : Nat) (f0_fHammers_h : Rw w f0_fHammers_a 2 encGHammer f0.fHammers) (f0_fHammers_hn : f0.fHammers.length = f0_fHammers_an) (f0_b : Nat) (hm0 : Mem w (bs [some f0_b]) [⟨some f0_b, 35, [(.int .i16 f0.fSteps), (.slice f0_fHammers_a f0_fHammers_an f0_fHammers_c)]⟩] w) (f0_fHammers_ha : f0.fHammers ≠ [] → aB f0_fHammers_a ∉ bs [some f0_b]) (h : spec_l02Frame f0 = some r) :
    Calls Try.prog 27 #[(.pointer (some ⟨f0_b, 0, none⟩))] w fun e w' => ∃ v, e = .returned v ∧ (v = (.bool r) ∧ Mem w (bs [some f0_b]) [⟨some f0_b, 35, [(.int .i16 f0.fSteps), (.slice f0_fHammers_a f0_fHammers_an f0_fHammers_c)]⟩] w') := by
  subst f0_fHammers_hn
  rw [spec_l02Frame] at h
  refine enter (args := [(.pointer (some ⟨f0_b, 0, none⟩))]) Try.func27 rfl Try.ntmps27 (by kernel_rfl) (L := [⟨some f0_b, 35, [(.int .i16 f0.fSteps), (.slice f0_fHammers_a f0.fHammers.length f0_fHammers_c)]⟩]) (W := bs [some f0_b]) hm0 ?_
  refine jc_seq ?_
  refine jc_region ?_
  refine jo_f [(0, 0)] (by kernel_rfl) ?_
  refine jo_end (by kernel_rfl) ?_
  refine jx_then ?_
  refine jc_seq ?_
  refine jc_seq ?_
  refine jc_meet (fun (j : Bool) => match j with | q_1 => spec_l02Frame.k_2 f0 q_1 = some r) (fun (j : Bool) => match j with | q_1 => [(0, [], (.pointer (some ⟨f0_b, 0, none⟩))), (2, [], (.bool false)), (20, [], (.bool q_1))]) (fun (j : Bool) => match j with | q_1 => [⟨some f0_b, 35, [(.int .i16 f0.fSteps), (.slice f0_fHammers_a f0.fHammers.length f0_fHammers_c)]⟩]) ?_ ?_
  · refine jc_region ?_
    refine jo_f [(0, 0), (0, 0), (0, 0), (0, 0), (0, 0)] (by kernel_rfl) ?_
    obtain ⟨t_13, ht_100, h⟩ := bd h
    refine toO (by kernel_rfl) (p_call 0 15 #[(.int .i64 (w64 f0.fSteps)), (.int .i64 2), (.int .i64 96)] (by kernel_rfl) (by kernel_rfl) (fun w hm => spec_l00In.calls (w64 f0.fSteps) 2 96 w _ ht_100) ?_)
    rintro w v w' hm ⟨rfl, hm'⟩
    refine ⟨_, hm.app hm', jkO ?_⟩
    clear hm hm'
    refine jo_f [(0, 0), (0, 0), (0, 1), (0, 1), (0, 1), (0, 1), (0, 1)] (by kernel_rfl) ?_
    refine jo_split 12 (!t_13) (by kernel_rfl) (fun hc_101 => ?_) (fun hc_101 => ?_)
    · replace h := ifT hc_101 h
      refine jo_f [(0, 3), (0, 3), (0, 4)] (by kernel_rfl) ?_
      refine jo_end (by kernel_rfl) ?_
      exact jx_meet true h (by kernel_rfl) [0] (by kernel_rfl) (by kernel_rfl)
    · replace h := ifF hc_101 h
      obtain ⟨t_14, ht_102, h⟩ := bd h
      refine toO (by kernel_rfl) (p_call 2 15 #[(.int .i64 (f0.fHammers.length : Int)), (.int .i64 1), (.int .i64 24)] (by kernel_rfl) (by kernel_rfl) (fun w hm => spec_l00In.calls (f0.fHammers.length : Int) 1 24 w _ ht_102) ?_)
      rintro w v w' hm ⟨rfl, hm'⟩
      refine ⟨_, hm.app hm', jkO ?_⟩
      clear hm hm'
      refine jo_f [(0, 2), (0, 5)] (by kernel_rfl) ?_
      refine jo_end (by kernel_rfl) ?_
      exact jx_meet (!t_14) h (by kernel_rfl) [0] (by kernel_rfl) (by kernel_rfl)
  · rintro q_1 h
    replace h : spec_l02Frame.k_2 f0 q_1 = some r := h
    rw [spec_l02Frame.k_2] at h
    refine jx_then ?_
    refine jc_cond q_1 (by kernel_rfl) (fun hc_11 => ?_) (fun hc_11 => ?_)
    · replace h := ifT hc_11 h
      refine jc_seq ?_
      refine jc_region ?_
      refine jo_f [(0, 0)] (by kernel_rfl) ?_
      refine jo_end (by kernel_rfl) ?_
      refine jx_then ?_
      refine jc_ret ?_
      refine jx_thenr ?_
      obtain rfl := Option.some.inj h
      exact jx_ret [] (.bool false) [] rfl (by kernel_rfl) (by kernel_rfl) (fun w hm => ⟨rfl, hm.pick [0] (by kernel_rfl) (by kernel_rfl)⟩)
    · replace h := ifF hc_11 h
      refine jc_skip ?_
      refine jx_then ?_
      refine jc_seq ?_
      refine jc_seq ?_
      refine jc_region ?_
      refine jo_f [(0, 0)] (by kernel_rfl) ?_
      refine jo_end (by kernel_rfl) ?_
      refine jx_then ?_
      refine jc_meet (fun (_ : Unit) => spec_l02Frame.k_3 = some r) (fun (_ : Unit) => [(2, [], (.bool false))]) (fun (_ : Unit) => [⟨some f0_b, 35, [(.int .i16 f0.fSteps), (.slice f0_fHammers_a f0.fHammers.length f0_fHammers_c)]⟩]) ?_ ?_
      · refine jc_block ?_
        obtain ⟨t_6, ht_99, hr_82⟩ := bd h
        refine jc_loop (fun (s : Int) (x : Unit) => match s, x with | i_4, _ => True) (fun (s : Int) (x : Unit) => match s, x with | i_4, _ => [(0, [], (.pointer (some ⟨f0_b, 0, none⟩))), (2, [], (.bool false)), (3, [], (.int .i64 i_4))]) (fun (s : Int) (x : Unit) => match s, x with | i_4, _ => [⟨some f0_b, 35, [(.int .i16 f0.fSteps), (.slice f0_fHammers_a f0.fHammers.length f0_fHammers_c)]⟩]) ht_99 () trivial (by kernel_rfl) [0] (by kernel_rfl) (by kernel_rfl) ?_
        rintro i_4 _ y_83 _ h
        rw [spec_l02Frame.l_5] at h
        refine jc_seq ?_
        refine jc_seq ?_
        refine jc_region ?_
        refine jo_f [(0, 0), (0, 0), (0, 0), (0, 0), (0, 0), (0, 0), (0, 0)] (by kernel_rfl) ?_
        refine jo_end (by kernel_rfl) ?_
        refine jx_then ?_
        refine jc_cond (decide (i_4 < (f0.fHammers.length : Int))) (by kernel_rfl) (fun hc_85 => ?_) (fun hc_85 => ?_)
        · replace h := ifT hc_85 h
          refine jc_skip ?_
          refine jx_then ?_
          refine jc_seq ?_
          refine jc_block ?_
          refine jc_seq ?_
          refine jc_region ?_
          refine jo_f [(0, 0), (0, 0), (0, 0), (0, 0), (0, 0)] (by kernel_rfl) ?_
          obtain ⟨x_7, hx_86, h⟩ := bd h
          refine toO (by kernel_rfl) (p_idx 0 f0_fHammers_a f0.fHammers.length i_4 2 (by kernel_rfl) (by kernel_rfl) (ix_some hx_86).1 (ltn hx_86 rfl) (f0_fHammers_h.sp hx_86) (jkO ?_))
          refine toO (by kernel_rfl) (p_ld 0 (aB f0_fHammers_a) (aO f0_fHammers_a + i_4.toNat * 2) true (encGHammer x_7) (by kernel_rfl) (by kernel_rfl) (by kernel_rfl) (fun w hm => ((hm.exRowW f0_fHammers_h f0_fHammers_ha).at hx_86)) (jkO ?_))
          refine toO (by kernel_rfl) (p_a 0 [0] (by kernel_rfl) (fun b => by kernel_rfl) (fun b_87 => jkO ?_))
          refine toO (by kernel_rfl) (p_s 0 [1] (by kernel_rfl) (by kernel_rfl) (jkO ?_))
          refine jo_end (by kernel_rfl) ?_
          refine jx_then ?_
          refine jc_seq ?_
          refine jc_meet (fun (j : Bool) => match j with | q_8 => spec_l02Frame.k_9 i_4 q_8 = some y_83) (fun (j : Bool) => match j with | q_8 => [(0, [], (.pointer (some ⟨f0_b, 0, none⟩))), (2, [], (.bool false)), (3, [], (.int .i64 i_4)), (54, [], (.bool q_8))]) (fun (j : Bool) => match j with | q_8 => [⟨some f0_b, 35, [(.int .i16 f0.fSteps), (.slice f0_fHammers_a f0.fHammers.length f0_fHammers_c)]⟩, ⟨some b_87, 69, [(.int .i8 x_7.fPitch), (.int .i8 x_7.fReady)]⟩]) ?_ ?_
          · refine jc_draw [⟨some f0_b, 35, [(.int .i16 f0.fSteps), (.slice f0_fHammers_a f0.fHammers.length f0_fHammers_c)]⟩, ⟨some b_87, 69, [(.int .i8 x_7.fPitch), (.int .i8 x_7.fReady)]⟩] 18 (by kernel_rfl) (by kernel_rfl) ?_
            refine jd_f [⟨0, 0, 0⟩, ⟨1, 1, 0⟩, ⟨2, 0, 0⟩] 15 (by kernel_rfl) (by kernel_rfl) (fun w h => h.pick [0, 1] (by kernel_rfl) (by kernel_rfl)) (by kernel_rfl) (by kernel_rfl) ?_
            obtain ⟨t_10, ht_94, h⟩ := bd h
            refine toD 3 (by kernel_rfl) (p_call 0 15 #[(.int .i64 (w64 x_7.fPitch)), (.int .i64 0), (.int .i64 47)] (by kernel_rfl) (by kernel_rfl) (fun w hm => spec_l00In.calls (w64 x_7.fPitch) 0 47 w _ ht_94) ?_)
            rintro w v w' hm ⟨rfl, hm'⟩
            refine ⟨_, hm.app hm', jkD (fun w h => h.pick [0, 1] (by kernel_rfl) (by kernel_rfl)) ?_⟩
            clear hm hm'
            refine jd_f [⟨4, 0, 0⟩, ⟨5, 0, 0⟩, ⟨6, 0, 1⟩, ⟨7, 1, 1⟩, ⟨8, 0, 1⟩, ⟨9, 0, 1⟩, ⟨10, 0, 1⟩, ⟨11, 0, 1⟩, ⟨12, 0, 1⟩, ⟨13, 0, 1⟩] 4 (by kernel_rfl) (by kernel_rfl) (fun w h => h.pick [0, 1] (by kernel_rfl) (by kernel_rfl)) (by kernel_rfl) (by kernel_rfl) ?_
            refine jd_split 42 (!t_10) (by kernel_rfl) (fun hc_95 => ?_) (fun hc_95 => ?_)
            · replace h := ifT hc_95 h
              refine jd_f [⟨14, 0, 3⟩, ⟨15, 0, 3⟩, ⟨16, 0, 3⟩, ⟨17, 0, 4⟩] 0 (by kernel_rfl) (by kernel_rfl) (fun w h => h.pick [0, 1] (by kernel_rfl) (by kernel_rfl)) (by kernel_rfl) (by kernel_rfl) ?_
              refine jd_end (by kernel_rfl) ?_
              exact jx_meet true h (by kernel_rfl) [0, 1] (by kernel_rfl) (by kernel_rfl)
            · replace h := ifF hc_95 h
              obtain ⟨t_11, ht_96, h⟩ := bd h
              refine toD 14 (by kernel_rfl) (p_call 2 37 #[(.int .i64 20), (.int .i64 (w64 f0.fSteps))] (by kernel_rfl) (by kernel_rfl) (fun w hm => spec_l00Min.calls 20 (w64 f0.fSteps) w _ ht_96) ?_)
              rintro w v w' hm ⟨rfl, hm'⟩
              refine ⟨_, hm.app hm', jkD (fun w h => h.pick [0, 1] (by kernel_rfl) (by kernel_rfl)) ?_⟩
              clear hm hm'
              obtain ⟨t_12, ht_97, h⟩ := bd h
              refine toD 15 (by kernel_rfl) (p_call 2 15 #[(.int .i64 (w64 x_7.fReady)), (.int .i64 1), (.int .i64 t_11)] (by kernel_rfl) (by kernel_rfl) (fun w hm => spec_l00In.calls (w64 x_7.fReady) 1 t_11 w _ ht_97) ?_)
              rintro w v w' hm ⟨rfl, hm'⟩
              refine ⟨_, hm.app hm', jkD (fun w h => h.pick [0, 1] (by kernel_rfl) (by kernel_rfl)) ?_⟩
              clear hm hm'
              refine jd_f [⟨16, 0, 2⟩, ⟨17, 0, 5⟩] 0 (by kernel_rfl) (by kernel_rfl) (fun w h => h.pick [0, 1] (by kernel_rfl) (by kernel_rfl)) (by kernel_rfl) (by kernel_rfl) ?_
              refine jd_end (by kernel_rfl) ?_
              exact jx_meet (!t_12) h (by kernel_rfl) [0, 1] (by kernel_rfl) (by kernel_rfl)
          · rintro q_8 h
            replace h : spec_l02Frame.k_9 i_4 q_8 = some y_83 := h
            rw [spec_l02Frame.k_9] at h
            refine jx_then ?_
            refine jc_cond q_8 (by kernel_rfl) (fun hc_92 => ?_) (fun hc_92 => ?_)
            · replace h := ifT hc_92 h
              refine jc_seq ?_
              refine jc_region ?_
              refine jo_f [(0, 0)] (by kernel_rfl) ?_
              refine jo_end (by kernel_rfl) ?_
              refine jx_then ?_
              refine jc_ret ?_
              refine jx_inr ?_
              refine jx_thenr ?_
              refine jx_leaver (.inl false) (Option.some.inj h).symm (fun e_93 => ?_)
              subst e_93
              refine jx_inr ?_
              refine jx_thenr ?_
              refine jx_thenr ?_
              obtain rfl := Option.some.inj hr_82
              exact jx_ret [] (.bool false) [] rfl (by kernel_rfl) (by kernel_rfl) (fun w hm => ⟨rfl, hm.pick [0] (by kernel_rfl) (by kernel_rfl)⟩)
            · replace h := ifF hc_92 h
              refine jc_skip ?_
              refine jx_inn ?_
              refine jx_then ?_
              refine jc_region ?_
              refine jo_f [(0, 0), (0, 0), (0, 0)] (by kernel_rfl) ?_
              refine jo_end (by kernel_rfl) ?_
              exact jx_back (w64 (i_4 + 1)) () (Option.some.inj h).symm trivial [0] (by kernel_rfl) (by kernel_rfl) (by kernel_rfl)
        · replace h := ifF hc_85 h
          refine jc_exit ?_
          refine jx_thenx ?_
          refine jx_leave (.inr ()) (Option.some.inj h).symm (fun e_98 => ?_)
          subst e_98
          refine jx_ine ?_
          exact jx_meet () hr_82 (by kernel_rfl) [0] (by kernel_rfl) (by kernel_rfl)
      · rintro _ h
        replace h : spec_l02Frame.k_3 = some r := h
        rw [spec_l02Frame.k_3] at h
        refine jx_then ?_
        refine jc_seq ?_
        refine jc_region ?_
        refine jo_f [(0, 0)] (by kernel_rfl) ?_
        refine jo_end (by kernel_rfl) ?_
        refine jx_then ?_
        refine jc_ret ?_
        obtain rfl := Option.some.inj h
        exact jx_ret [] (.bool true) [] rfl (by kernel_rfl) (by kernel_rfl) (fun w hm => ⟨rfl, hm.pick [0] (by kernel_rfl) (by kernel_rfl)⟩)

/-! ### spec.l01Note -/
noncomputable def spec_l01Note (n0 : GNote) : Option (Bool) := (spec_l00In (w64 n0.fAt) 0 199).bind fun t_1 => (if t_1 = true then (spec_l00In (w64 n0.fPitch) 0 47).bind fun t_2 => some t_2 else some false)
set_option maxRecDepth 100000 in
theorem spec_l01Note.calls (n0 : GNote) (w : World) (r : Bool) (h : spec_l01Note n0 = some r) :
    Calls Try.prog 38 #[(.agg #[(.int .i16 n0.fAt), (.int .i8 n0.fPitch)])] w fun e w' => ∃ v, e = .returned v ∧ (v = (.bool r) ∧ Mem w [] [] w') := by
  rw [spec_l01Note] at h
  refine enter (args := [(.agg #[(.int .i16 n0.fAt), (.int .i8 n0.fPitch)])]) Try.func38 rfl Try.ntmps38 (by kernel_rfl) (L := []) (W := []) (Mem.start w) ?_
  refine jc_seq ?_
  refine jc_region ?_
  refine toO (by kernel_rfl) (p_a 0 [0] (by kernel_rfl) (fun b => by kernel_rfl) (fun b_1 => jkO ?_))
  refine jo_f [(0, 0)] (by kernel_rfl) ?_
  refine jo_end (by kernel_rfl) ?_
  refine jx_then ?_
  refine jc_seq ?_
  refine jc_region ?_
  refine jo_f [(0, 0), (0, 0), (0, 0)] (by kernel_rfl) ?_
  obtain ⟨t_1, ht_2, h⟩ := bd h
  refine toO (by kernel_rfl) (p_call 0 15 #[(.int .i64 (w64 n0.fAt)), (.int .i64 0), (.int .i64 199)] (by kernel_rfl) (by kernel_rfl) (fun w hm => spec_l00In.calls (w64 n0.fAt) 0 199 w _ ht_2) ?_)
  rintro w v w' hm ⟨rfl, hm'⟩
  refine ⟨_, hm.app hm', jkO ?_⟩
  clear hm hm'
  refine jo_f [(0, 0), (0, 1), (0, 1), (0, 1)] (by kernel_rfl) ?_
  refine jo_split 7 t_1 (by kernel_rfl) (fun hc_3 => ?_) (fun hc_3 => ?_)
  · replace h := ifT hc_3 h
    obtain ⟨t_2, ht_4, h⟩ := bd h
    refine toO (by kernel_rfl) (p_call 2 15 #[(.int .i64 (w64 n0.fPitch)), (.int .i64 0), (.int .i64 47)] (by kernel_rfl) (by kernel_rfl) (fun w hm => spec_l00In.calls (w64 n0.fPitch) 0 47 w _ ht_4) ?_)
    rintro w v w' hm ⟨rfl, hm'⟩
    refine ⟨_, hm.app hm', jkO ?_⟩
    clear hm hm'
    refine jo_f [(0, 4), (0, 0)] (by kernel_rfl) ?_
    refine jo_end (by kernel_rfl) ?_
    refine jx_then ?_
    refine jc_ret ?_
    obtain rfl := Option.some.inj h
    exact jx_ret [] (.bool t_2) [] rfl (by kernel_rfl) (by kernel_rfl) (fun w hm => ⟨rfl, hm.pick [] (by kernel_rfl) (by kernel_rfl)⟩)
  · replace h := ifF hc_3 h
    refine jo_f [(0, 3), (0, 5), (0, 0)] (by kernel_rfl) ?_
    refine jo_end (by kernel_rfl) ?_
    refine jx_then ?_
    refine jc_ret ?_
    obtain rfl := Option.some.inj h
    exact jx_ret [] (.bool false) [] rfl (by kernel_rfl) (by kernel_rfl) (fun w hm => ⟨rfl, hm.pick [] (by kernel_rfl) (by kernel_rfl)⟩)

/-! ### spec.l01Before -/
noncomputable def spec_l01Before (a0 : GNote) (b1 : GNote) : Option (Bool) := (if (decide (a0.fAt < b1.fAt)) = true then some true else some ((a0.fAt == b1.fAt) && (decide (a0.fPitch < b1.fPitch))))
set_option maxRecDepth 100000 in
theorem spec_l01Before.calls (a0 : GNote) (b1 : GNote) (w : World) (r : Bool) (h : spec_l01Before a0 b1 = some r) :
    Calls Try.prog 39 #[(.agg #[(.int .i16 a0.fAt), (.int .i8 a0.fPitch)]), (.agg #[(.int .i16 b1.fAt), (.int .i8 b1.fPitch)])] w fun e w' => ∃ v, e = .returned v ∧ (v = (.bool r) ∧ Mem w [] [] w') := by
  rw [spec_l01Before] at h
  refine enter (args := [(.agg #[(.int .i16 a0.fAt), (.int .i8 a0.fPitch)]), (.agg #[(.int .i16 b1.fAt), (.int .i8 b1.fPitch)])]) Try.func39 rfl Try.ntmps39 (by kernel_rfl) (L := []) (W := []) (Mem.start w) ?_
  refine jc_seq ?_
  refine jc_region ?_
  refine toO (by kernel_rfl) (p_a 0 [0] (by kernel_rfl) (fun b => by kernel_rfl) (fun b_1 => jkO ?_))
  refine toO (by kernel_rfl) (p_a 0 [0] (by kernel_rfl) (fun b => by kernel_rfl) (fun b_2 => jkO ?_))
  refine jo_f [(0, 0)] (by kernel_rfl) ?_
  refine jo_end (by kernel_rfl) ?_
  refine jx_then ?_
  refine jc_seq ?_
  refine jc_region ?_
  refine jo_f [(0, 0), (0, 0), (0, 0), (1, 0), (0, 0), (0, 0), (0, 1), (0, 1), (0, 1), (1, 1), (0, 1)] (by kernel_rfl) ?_
  refine jo_split 10 (decide (a0.fAt < b1.fAt)) (by kernel_rfl) (fun hc_3 => ?_) (fun hc_3 => ?_)
  · replace h := ifT hc_3 h
    refine jo_f [(0, 3), (0, 3), (0, 3), (0, 3), (0, 3), (0, 3), (0, 3), (0, 4), (0, 0)] (by kernel_rfl) ?_
    refine jo_end (by kernel_rfl) ?_
    refine jx_then ?_
    refine jc_ret ?_
    obtain rfl := Option.some.inj h
    exact jx_ret [] (.bool true) [] rfl (by kernel_rfl) (by kernel_rfl) (fun w hm => ⟨rfl, hm.pick [] (by kernel_rfl) (by kernel_rfl)⟩)
  · replace h := ifF hc_3 h
    refine jo_f [(0, 2), (0, 1), (0, 1), (0, 1), (1, 1), (0, 1), (0, 2), (0, 5), (0, 0)] (by kernel_rfl) ?_
    refine jo_end (by kernel_rfl) ?_
    refine jx_then ?_
    refine jc_ret ?_
    obtain rfl := Option.some.inj h
    exact jx_ret [] (.bool ((a0.fAt == b1.fAt) && (decide (a0.fPitch < b1.fPitch)))) [] rfl (by kernel_rfl) (by kernel_rfl) (fun w hm => ⟨rfl, hm.pick [] (by kernel_rfl) (by kernel_rfl)⟩)

/-! ### spec.l01Ok -/
noncomputable def spec_l01Ok.k_1 (t0 : List GNote) : Option (Bool) := some (decide ((t0.length : Int) ≤ 120))
noncomputable def spec_l01Ok.k_6 (i_2 : Int) (q_5 : Bool) : Option ((Int) ⊕ (Bool ⊕ Unit)) := (if q_5 = true then some (.inr (.inl false)) else some (.inl (w64 (i_2 + 1))))
noncomputable def spec_l01Ok.l_3 (t0 : List GNote) : Int → Option ((Int) ⊕ (Bool ⊕ Unit))
  | i_2 => (if (decide (i_2 < (t0.length : Int))) = true then (ix t0 i_2).bind fun x_7 => (spec_l01Note x_7).bind fun t_8 => (if (!t_8) = true then spec_l01Ok.k_6 i_2 true else (if (decide (i_2 > 0)) = true then (ix t0 (w64 (i_2 - 1))).bind fun x_9 => (ix t0 i_2).bind fun x_10 => (spec_l01Before x_9 x_10).bind fun t_11 => spec_l01Ok.k_6 i_2 (!t_11) else spec_l01Ok.k_6 i_2 false)) else some (.inr (.inr ())))
noncomputable def spec_l01Ok (t0 : List GNote) : Option (Bool) := (loop (spec_l01Ok.l_3 t0) 0).bind fun t_4 => match t_4 with | .inl p => some p | .inr p => spec_l01Ok.k_1 t0
set_option maxRecDepth 100000 in
theorem spec_l01Ok.calls (t0 : List GNote) (w : World) (r : Bool) (t0_a : Option Addr) (t0_an : Nat) (t0_c : Nat) (t0_h : Rw w t0_a 2 encGNote t0) (t0_hn : t0.length = t0_an) (h : spec_l01Ok t0 = some r) :
    Calls Try.prog 28 #[(.slice t0_a t0_an t0_c)] w fun e w' => ∃ v, e = .returned v ∧ (v = (.bool r) ∧ Mem w [] [] w') := by
  subst t0_hn
  rw [spec_l01Ok] at h
  refine enter (args := [(.slice t0_a t0.length t0_c)]) Try.func28 rfl Try.ntmps28 (by kernel_rfl) (L := []) (W := []) (Mem.start w) ?_
  refine jc_seq ?_
  refine jc_region ?_
  refine jo_f [(0, 0)] (by kernel_rfl) ?_
  refine jo_end (by kernel_rfl) ?_
  refine jx_then ?_
  refine jc_seq ?_
  refine jc_seq ?_
  refine jc_region ?_
  refine jo_f [(0, 0)] (by kernel_rfl) ?_
  refine jo_end (by kernel_rfl) ?_
  refine jx_then ?_
  refine jc_meet (fun (_ : Unit) => spec_l01Ok.k_1 t0 = some r) (fun (_ : Unit) => [(0, [], (.slice t0_a t0.length t0_c)), (2, [], (.bool false))]) (fun (_ : Unit) => []) ?_ ?_
  · refine jc_block ?_
    obtain ⟨t_4, ht_224, hr_203⟩ := bd h
    refine jc_loop (fun (s : Int) (x : Unit) => match s, x with | i_2, _ => True) (fun (s : Int) (x : Unit) => match s, x with | i_2, _ => [(0, [], (.slice t0_a t0.length t0_c)), (2, [], (.bool false)), (3, [], (.int .i64 i_2))]) (fun (s : Int) (x : Unit) => match s, x with | i_2, _ => []) ht_224 () trivial (by kernel_rfl) [] (by kernel_rfl) (by kernel_rfl) ?_
    rintro i_2 _ y_204 _ h
    rw [spec_l01Ok.l_3] at h
    refine jc_seq ?_
    refine jc_seq ?_
    refine jc_region ?_
    refine jo_f [(0, 0), (0, 0), (0, 0), (0, 0)] (by kernel_rfl) ?_
    refine jo_end (by kernel_rfl) ?_
    refine jx_then ?_
    refine jc_cond (decide (i_2 < (t0.length : Int))) (by kernel_rfl) (fun hc_206 => ?_) (fun hc_206 => ?_)
    · replace h := ifT hc_206 h
      refine jc_skip ?_
      refine jx_then ?_
      refine jc_seq ?_
      refine jc_block ?_
      refine jc_seq ?_
      refine jc_meet (fun (j : Bool) => match j with | q_5 => spec_l01Ok.k_6 i_2 q_5 = some y_204) (fun (j : Bool) => match j with | q_5 => [(0, [], (.slice t0_a t0.length t0_c)), (2, [], (.bool false)), (3, [], (.int .i64 i_2)), (32, [], (.bool q_5))]) (fun (j : Bool) => match j with | q_5 => []) ?_ ?_
      · refine jc_draw [] 23 (by kernel_rfl) (by kernel_rfl) ?_
        refine jd_f [⟨0, 0, 0⟩, ⟨1, 0, 0⟩] 21 (by kernel_rfl) (by kernel_rfl) (fun w h => h.pick [] (by kernel_rfl) (by kernel_rfl)) (by kernel_rfl) (by kernel_rfl) ?_
        obtain ⟨x_7, hx_216, h⟩ := bd h
        refine jd_v 2 0 (by kernel_rfl) (fun w h => h.pick [] (by kernel_rfl) (by kernel_rfl)) (by kernel_rfl) (by kernel_rfl) _ (fun w hm => idx_run (a := t0_a) (len := t0.length) (s := 2) (j := i_2) (by kernel_rfl) (ix_some hx_216).1 (ltn hx_216 rfl) (t0_h.sp hx_216)) ?_
        refine jd_v 3 0 (by kernel_rfl) (fun w h => h.pick [] (by kernel_rfl) (by kernel_rfl)) (by kernel_rfl) (by kernel_rfl) _ (fun w hm => ld_run (b := aB t0_a) (off := (aO t0_a + i_2.toNat * 2)) (s := 2) (agg := true) (vs := (encGNote x_7)) (by kernel_rfl) (by kernel_rfl) (.inl rfl) ((hm.exRow t0_h List.not_mem_nil).at hx_216)) ?_
        obtain ⟨t_8, ht_217, h⟩ := bd h
        refine toD 4 (by kernel_rfl) (p_call 0 38 #[(.agg #[(.int .i16 x_7.fAt), (.int .i8 x_7.fPitch)])] (by kernel_rfl) (by kernel_rfl) (fun w hm => spec_l01Note.calls x_7 w _ ht_217) ?_)
        rintro w v w' hm ⟨rfl, hm'⟩
        refine ⟨_, hm.app hm', jkD (fun w h => h.pick [] (by kernel_rfl) (by kernel_rfl)) ?_⟩
        clear hm hm'
        refine jd_f [⟨5, 0, 0⟩, ⟨6, 0, 0⟩, ⟨7, 0, 1⟩, ⟨8, 0, 1⟩] 14 (by kernel_rfl) (by kernel_rfl) (fun w h => h.pick [] (by kernel_rfl) (by kernel_rfl)) (by kernel_rfl) (by kernel_rfl) ?_
        refine jd_split 16 (!t_8) (by kernel_rfl) (fun hc_218 => ?_) (fun hc_218 => ?_)
        · replace h := ifT hc_218 h
          refine jd_f [⟨9, 0, 3⟩, ⟨10, 0, 3⟩, ⟨11, 0, 3⟩, ⟨12, 0, 3⟩, ⟨13, 0, 3⟩, ⟨14, 0, 3⟩, ⟨15, 0, 3⟩, ⟨16, 0, 3⟩, ⟨17, 0, 3⟩, ⟨18, 0, 3⟩, ⟨19, 0, 3⟩, ⟨20, 0, 3⟩, ⟨21, 0, 3⟩, ⟨22, 0, 4⟩] 0 (by kernel_rfl) (by kernel_rfl) (fun w h => h.pick [] (by kernel_rfl) (by kernel_rfl)) (by kernel_rfl) (by kernel_rfl) ?_
          refine jd_end (by kernel_rfl) ?_
          exact jx_meet true h (by kernel_rfl) [] (by kernel_rfl) (by kernel_rfl)
        · replace h := ifF hc_218 h
          refine jd_f [⟨9, 0, 2⟩, ⟨10, 0, 1⟩, ⟨11, 0, 1⟩, ⟨12, 0, 1⟩, ⟨15, 0, 1⟩, ⟨16, 0, 1⟩] 8 (by kernel_rfl) (by kernel_rfl) (fun w h => h.pick [] (by kernel_rfl) (by kernel_rfl)) (by kernel_rfl) (by kernel_rfl) ?_
          refine jd_split 19 (decide (i_2 > 0)) (by kernel_rfl) (fun hc_219 => ?_) (fun hc_219 => ?_)
          · replace h := ifT hc_219 h
            obtain ⟨x_9, hx_220, h⟩ := bd h
            refine jd_v 13 2 (by kernel_rfl) (fun w h => h.pick [] (by kernel_rfl) (by kernel_rfl)) (by kernel_rfl) (by kernel_rfl) _ (fun w hm => idx_run (a := t0_a) (len := t0.length) (s := 2) (j := (w64 (i_2 - 1))) (by kernel_rfl) (ix_some hx_220).1 (ltn hx_220 rfl) (t0_h.sp hx_220)) ?_
            refine jd_v 14 2 (by kernel_rfl) (fun w h => h.pick [] (by kernel_rfl) (by kernel_rfl)) (by kernel_rfl) (by kernel_rfl) _ (fun w hm => ld_run (b := aB t0_a) (off := (aO t0_a + (w64 (i_2 - 1)).toNat * 2)) (s := 2) (agg := true) (vs := (encGNote x_9)) (by kernel_rfl) (by kernel_rfl) (.inl rfl) ((hm.exRow t0_h List.not_mem_nil).at hx_220)) ?_
            obtain ⟨x_10, hx_221, h⟩ := bd h
            refine jd_v 17 2 (by kernel_rfl) (fun w h => h.pick [] (by kernel_rfl) (by kernel_rfl)) (by kernel_rfl) (by kernel_rfl) _ (fun w hm => idx_run (a := t0_a) (len := t0.length) (s := 2) (j := i_2) (by kernel_rfl) (ix_some hx_221).1 (ltn hx_221 rfl) (t0_h.sp hx_221)) ?_
            refine jd_v 18 2 (by kernel_rfl) (fun w h => h.pick [] (by kernel_rfl) (by kernel_rfl)) (by kernel_rfl) (by kernel_rfl) _ (fun w hm => ld_run (b := aB t0_a) (off := (aO t0_a + i_2.toNat * 2)) (s := 2) (agg := true) (vs := (encGNote x_10)) (by kernel_rfl) (by kernel_rfl) (.inl rfl) ((hm.exRow t0_h List.not_mem_nil).at hx_221)) ?_
            obtain ⟨t_11, ht_222, h⟩ := bd h
            refine toD 19 (by kernel_rfl) (p_call 2 39 #[(.agg #[(.int .i16 x_9.fAt), (.int .i8 x_9.fPitch)]), (.agg #[(.int .i16 x_10.fAt), (.int .i8 x_10.fPitch)])] (by kernel_rfl) (by kernel_rfl) (fun w hm => spec_l01Before.calls x_9 x_10 w _ ht_222) ?_)
            rintro w v w' hm ⟨rfl, hm'⟩
            refine ⟨_, hm.app hm', jkD (fun w h => h.pick [] (by kernel_rfl) (by kernel_rfl)) ?_⟩
            clear hm hm'
            refine jd_f [⟨20, 0, 2⟩, ⟨21, 0, 4⟩, ⟨22, 0, 5⟩] 0 (by kernel_rfl) (by kernel_rfl) (fun w h => h.pick [] (by kernel_rfl) (by kernel_rfl)) (by kernel_rfl) (by kernel_rfl) ?_
            refine jd_end (by kernel_rfl) ?_
            exact jx_meet (!t_11) h (by kernel_rfl) [] (by kernel_rfl) (by kernel_rfl)
          · replace h := ifF hc_219 h
            refine jd_f [⟨13, 0, 3⟩, ⟨14, 0, 3⟩, ⟨17, 0, 3⟩, ⟨18, 0, 3⟩, ⟨19, 0, 3⟩, ⟨20, 0, 3⟩, ⟨21, 0, 5⟩, ⟨22, 0, 5⟩] 0 (by kernel_rfl) (by kernel_rfl) (fun w h => h.pick [] (by kernel_rfl) (by kernel_rfl)) (by kernel_rfl) (by kernel_rfl) ?_
            refine jd_end (by kernel_rfl) ?_
            exact jx_meet false h (by kernel_rfl) [] (by kernel_rfl) (by kernel_rfl)
      · rintro q_5 h
        replace h : spec_l01Ok.k_6 i_2 q_5 = some y_204 := h
        rw [spec_l01Ok.k_6] at h
        refine jx_then ?_
        refine jc_cond q_5 (by kernel_rfl) (fun hc_214 => ?_) (fun hc_214 => ?_)
        · replace h := ifT hc_214 h
          refine jc_seq ?_
          refine jc_region ?_
          refine jo_f [(0, 0)] (by kernel_rfl) ?_
          refine jo_end (by kernel_rfl) ?_
          refine jx_then ?_
          refine jc_ret ?_
          refine jx_inr ?_
          refine jx_thenr ?_
          refine jx_leaver (.inl false) (Option.some.inj h).symm (fun e_215 => ?_)
          subst e_215
          refine jx_inr ?_
          refine jx_thenr ?_
          refine jx_thenr ?_
          obtain rfl := Option.some.inj hr_203
          exact jx_ret [] (.bool false) [] rfl (by kernel_rfl) (by kernel_rfl) (fun w hm => ⟨rfl, hm.pick [] (by kernel_rfl) (by kernel_rfl)⟩)
        · replace h := ifF hc_214 h
          refine jc_skip ?_
          refine jx_inn ?_
          refine jx_then ?_
          refine jc_region ?_
          refine jo_f [(0, 0), (0, 0), (0, 0)] (by kernel_rfl) ?_
          refine jo_end (by kernel_rfl) ?_
          exact jx_back (w64 (i_2 + 1)) () (Option.some.inj h).symm trivial [] (by kernel_rfl) (by kernel_rfl) (by kernel_rfl)
    · replace h := ifF hc_206 h
      refine jc_exit ?_
      refine jx_thenx ?_
      refine jx_leave (.inr ()) (Option.some.inj h).symm (fun e_223 => ?_)
      subst e_223
      refine jx_ine ?_
      exact jx_meet () hr_203 (by kernel_rfl) [] (by kernel_rfl) (by kernel_rfl)
  · rintro _ h
    replace h : spec_l01Ok.k_1 t0 = some r := h
    rw [spec_l01Ok.k_1] at h
    refine jx_then ?_
    refine jc_seq ?_
    refine jc_region ?_
    refine jo_f [(0, 0), (0, 0), (0, 0), (0, 0)] (by kernel_rfl) ?_
    refine jo_end (by kernel_rfl) ?_
    refine jx_then ?_
    refine jc_ret ?_
    obtain rfl := Option.some.inj h
    exact jx_ret [] (.bool (decide ((t0.length : Int) ≤ 120))) [] rfl (by kernel_rfl) (by kernel_rfl) (fun w hm => ⟨rfl, hm.pick [] (by kernel_rfl) (by kernel_rfl)⟩)

/-! ### spec.l07Costs -/
noncomputable def spec_l07Costs (c0 : GCosts) : Option (Bool) := (spec_l00In (w64 c0.fAway) 0 1000).bind fun t_1 => (if t_1 = true then (spec_l00In (w64 c0.fOctave) 0 1000).bind fun t_2 => (if t_2 = true then (spec_l00In (w64 c0.fStep) 0 1000).bind fun t_3 => some t_3 else some false) else some false)
set_option maxRecDepth 100000 in
theorem spec_l07Costs.calls (c0 : GCosts) (w : World) (r : Bool) (h : spec_l07Costs c0 = some r) :
    Calls Try.prog 29 #[(.agg #[(.int .i16 c0.fAway), (.int .i16 c0.fOctave), (.int .i16 c0.fStep)])] w fun e w' => ∃ v, e = .returned v ∧ (v = (.bool r) ∧ Mem w [] [] w') := by
  rw [spec_l07Costs] at h
  refine enter (args := [(.agg #[(.int .i16 c0.fAway), (.int .i16 c0.fOctave), (.int .i16 c0.fStep)])]) Try.func29 rfl Try.ntmps29 (by kernel_rfl) (L := []) (W := []) (Mem.start w) ?_
  refine jc_seq ?_
  refine jc_region ?_
  refine toO (by kernel_rfl) (p_a 0 [0] (by kernel_rfl) (fun b => by kernel_rfl) (fun b_1 => jkO ?_))
  refine jo_f [(0, 0)] (by kernel_rfl) ?_
  refine jo_end (by kernel_rfl) ?_
  refine jx_then ?_
  refine jc_seq ?_
  refine jc_region ?_
  refine jo_f [(0, 0), (0, 0), (0, 0)] (by kernel_rfl) ?_
  obtain ⟨t_1, ht_2, h⟩ := bd h
  refine toO (by kernel_rfl) (p_call 0 15 #[(.int .i64 (w64 c0.fAway)), (.int .i64 0), (.int .i64 1000)] (by kernel_rfl) (by kernel_rfl) (fun w hm => spec_l00In.calls (w64 c0.fAway) 0 1000 w _ ht_2) ?_)
  rintro w v w' hm ⟨rfl, hm'⟩
  refine ⟨_, hm.app hm', jkO ?_⟩
  clear hm hm'
  refine jo_f [(0, 0), (0, 1), (0, 1), (0, 1)] (by kernel_rfl) ?_
  refine jo_split 7 t_1 (by kernel_rfl) (fun hc_3 => ?_) (fun hc_3 => ?_)
  · replace h := ifT hc_3 h
    obtain ⟨t_2, ht_4, h⟩ := bd h
    refine toO (by kernel_rfl) (p_call 2 15 #[(.int .i64 (w64 c0.fOctave)), (.int .i64 0), (.int .i64 1000)] (by kernel_rfl) (by kernel_rfl) (fun w hm => spec_l00In.calls (w64 c0.fOctave) 0 1000 w _ ht_4) ?_)
    rintro w v w' hm ⟨rfl, hm'⟩
    refine ⟨_, hm.app hm', jkO ?_⟩
    clear hm hm'
    refine jo_f [(0, 4), (0, 0), (0, 1), (0, 1), (0, 1)] (by kernel_rfl) ?_
    refine jo_split 13 t_2 (by kernel_rfl) (fun hc_5 => ?_) (fun hc_5 => ?_)
    · replace h := ifT hc_5 h
      obtain ⟨t_3, ht_6, h⟩ := bd h
      refine toO (by kernel_rfl) (p_call 2 15 #[(.int .i64 (w64 c0.fStep)), (.int .i64 0), (.int .i64 1000)] (by kernel_rfl) (by kernel_rfl) (fun w hm => spec_l00In.calls (w64 c0.fStep) 0 1000 w _ ht_6) ?_)
      rintro w v w' hm ⟨rfl, hm'⟩
      refine ⟨_, hm.app hm', jkO ?_⟩
      clear hm hm'
      refine jo_f [(0, 4), (0, 0)] (by kernel_rfl) ?_
      refine jo_end (by kernel_rfl) ?_
      refine jx_then ?_
      refine jc_ret ?_
      obtain rfl := Option.some.inj h
      exact jx_ret [] (.bool t_3) [] rfl (by kernel_rfl) (by kernel_rfl) (fun w hm => ⟨rfl, hm.pick [] (by kernel_rfl) (by kernel_rfl)⟩)
    · replace h := ifF hc_5 h
      refine jo_f [(0, 3), (0, 5), (0, 0)] (by kernel_rfl) ?_
      refine jo_end (by kernel_rfl) ?_
      refine jx_then ?_
      refine jc_ret ?_
      obtain rfl := Option.some.inj h
      exact jx_ret [] (.bool false) [] rfl (by kernel_rfl) (by kernel_rfl) (fun w hm => ⟨rfl, hm.pick [] (by kernel_rfl) (by kernel_rfl)⟩)
  · replace h := ifF hc_3 h
    refine jo_f [(0, 3), (0, 5), (0, 0), (0, 3), (0, 3), (0, 3), (0, 3), (0, 5), (0, 0)] (by kernel_rfl) ?_
    refine jo_end (by kernel_rfl) ?_
    refine jx_then ?_
    refine jc_ret ?_
    obtain rfl := Option.some.inj h
    exact jx_ret [] (.bool false) [] rfl (by kernel_rfl) (by kernel_rfl) (fun w hm => ⟨rfl, hm.pick [] (by kernel_rfl) (by kernel_rfl)⟩)

/-! ### spec.l07Given -/
noncomputable def spec_l07Given.k_2 (q_1 : Bool) : Option (Int) := (if q_1 = true then some 1 else some 0)
noncomputable def spec_l07Given (f0 : GFrame) (t1 : List GNote) (c2 : GCosts) : Option (Int) := (spec_l02Frame f0).bind fun t_3 => (if (!t_3) = true then spec_l07Given.k_2 true else (spec_l01Ok t1).bind fun t_4 => (if (!t_4) = true then spec_l07Given.k_2 true else (spec_l07Costs c2).bind fun t_5 => spec_l07Given.k_2 (!t_5)))
set_option maxRecDepth 100000 in
theorem spec_l07Given.calls (f0 : GFrame) (t1 : List GNote) (c2 : GCosts) (w : World) (r : Int) (f0_fHammers_a : Option Addr) (f0_fHammers_an : Nat) (f0_fHammers_c : Nat) (f0_fHammers_h : Rw w f0_fHammers_a 2 encGHammer f0.fHammers) (f0_fHammers_hn : f0.fHammers.length = f0_fHammers_an) (t1_a : Option Addr) (t1_an : Nat) (t1_c : Nat) (t1_h : Rw w t1_a 2 encGNote t1) (t1_hn : t1.length = t1_an) (f0_b : Nat) (hm0 : Mem w (bs [some f0_b]) [⟨some f0_b, 35, [(.int .i16 f0.fSteps), (.slice f0_fHammers_a f0_fHammers_an f0_fHammers_c)]⟩] w) (f0_fHammers_ha : f0.fHammers ≠ [] → aB f0_fHammers_a ∉ bs [some f0_b]) (t1_ha : t1 ≠ [] → aB t1_a ∉ bs [some f0_b]) (h : spec_l07Given f0 t1 c2 = some r) :
    Calls Try.prog 14 #[(.pointer (some ⟨f0_b, 0, none⟩)), (.slice t1_a t1_an t1_c), (.agg #[(.int .i16 c2.fAway), (.int .i16 c2.fOctave), (.int .i16 c2.fStep)])] w fun e w' => ∃ v, e = .returned v ∧ (v = (.int .i64 r) ∧ Mem w (bs [some f0_b]) [⟨some f0_b, 35, [(.int .i16 f0.fSteps), (.slice f0_fHammers_a f0_fHammers_an f0_fHammers_c)]⟩] w') := by
  subst f0_fHammers_hn t1_hn
  rw [spec_l07Given] at h
  refine enter (args := [(.pointer (some ⟨f0_b, 0, none⟩)), (.slice t1_a t1.length t1_c), (.agg #[(.int .i16 c2.fAway), (.int .i16 c2.fOctave), (.int .i16 c2.fStep)])]) Try.func14 rfl Try.ntmps14 (by kernel_rfl) (L := [⟨some f0_b, 35, [(.int .i16 f0.fSteps), (.slice f0_fHammers_a f0.fHammers.length f0_fHammers_c)]⟩]) (W := bs [some f0_b]) hm0 ?_
  refine jc_seq ?_
  refine jc_region ?_
  refine toO (by kernel_rfl) (p_a 0 [0] (by kernel_rfl) (fun b => by kernel_rfl) (fun b_1 => jkO ?_))
  refine jo_f [(0, 0)] (by kernel_rfl) ?_
  refine jo_end (by kernel_rfl) ?_
  refine jx_then ?_
  refine jc_seq ?_
  refine jc_seq ?_
  refine jc_meet (fun (j : Bool) => match j with | q_1 => spec_l07Given.k_2 q_1 = some r) (fun (j : Bool) => match j with | q_1 => [(6, [], (.int .i64 0)), (19, [], (.bool q_1))]) (fun (j : Bool) => match j with | q_1 => [⟨some f0_b, 35, [(.int .i16 f0.fSteps), (.slice f0_fHammers_a f0.fHammers.length f0_fHammers_c)]⟩, ⟨some b_1, 40, [(.int .i16 c2.fAway), (.int .i16 c2.fOctave), (.int .i16 c2.fStep)]⟩]) ?_ ?_
  · refine jc_region ?_
    refine jo_f [(0, 0)] (by kernel_rfl) ?_
    obtain ⟨t_3, ht_8, h⟩ := bd h
    refine toO (by kernel_rfl) (p_call 0 27 #[(.pointer (some ⟨f0_b, 0, none⟩))] (by kernel_rfl) (by kernel_rfl) (fun w hm => spec_l02Frame.calls f0 w _ f0_fHammers_a f0.fHammers.length f0_fHammers_c (hm.exRowW f0_fHammers_h f0_fHammers_ha) rfl f0_b (hm.pass (N := [⟨some f0_b, 35, [(.int .i16 f0.fSteps), (.slice f0_fHammers_a f0.fHammers.length f0_fHammers_c)]⟩]) [0] (by kernel_rfl) (by kernel_rfl)) (hm.exApart (N := [⟨some f0_b, 35, [(.int .i16 f0.fSteps), (.slice f0_fHammers_a f0.fHammers.length f0_fHammers_c)]⟩]) f0_fHammers_h f0_fHammers_ha [0] (by kernel_rfl)) ht_8) ?_)
    rintro w v w' hm ⟨rfl, hm'⟩
    refine ⟨_, hm.appW (ps := [(0, ⟨some f0_b, 35, [(.int .i16 f0.fSteps), (.slice f0_fHammers_a f0.fHammers.length f0_fHammers_c)]⟩)]) (N := []) hm' (by kernel_rfl) (by kernel_rfl), jkO ?_⟩
    clear hm hm'
    refine jo_f [(0, 0), (0, 0), (0, 1)] (by kernel_rfl) ?_
    refine jo_split 10 (!t_3) (by kernel_rfl) (fun hc_9 => ?_) (fun hc_9 => ?_)
    · replace h := ifT hc_9 h
      refine jo_f [(0, 3), (0, 3), (0, 4), (0, 0), (0, 3), (0, 3), (0, 3), (0, 4)] (by kernel_rfl) ?_
      refine jo_end (by kernel_rfl) ?_
      exact jx_meet true h (by kernel_rfl) [0, 1] (by kernel_rfl) (by kernel_rfl)
    · replace h := ifF hc_9 h
      obtain ⟨t_4, ht_10, h⟩ := bd h
      refine toO (by kernel_rfl) (p_call 2 28 #[(.slice t1_a t1.length t1_c)] (by kernel_rfl) (by kernel_rfl) (fun w hm => spec_l01Ok.calls t1 w _ t1_a t1.length t1_c (hm.exRowW t1_h t1_ha) rfl ht_10) ?_)
      rintro w v w' hm ⟨rfl, hm'⟩
      refine ⟨_, hm.app hm', jkO ?_⟩
      clear hm hm'
      refine jo_f [(0, 2), (0, 5), (0, 0), (1, 1)] (by kernel_rfl) ?_
      refine jo_split 15 (!t_4) (by kernel_rfl) (fun hc_11 => ?_) (fun hc_11 => ?_)
      · replace h := ifT hc_11 h
        refine jo_f [(0, 3), (0, 3), (0, 4)] (by kernel_rfl) ?_
        refine jo_end (by kernel_rfl) ?_
        exact jx_meet true h (by kernel_rfl) [0, 1] (by kernel_rfl) (by kernel_rfl)
      · replace h := ifF hc_11 h
        obtain ⟨t_5, ht_12, h⟩ := bd h
        refine toO (by kernel_rfl) (p_call 2 29 #[(.agg #[(.int .i16 c2.fAway), (.int .i16 c2.fOctave), (.int .i16 c2.fStep)])] (by kernel_rfl) (by kernel_rfl) (fun w hm => spec_l07Costs.calls c2 w _ ht_12) ?_)
        rintro w v w' hm ⟨rfl, hm'⟩
        refine ⟨_, hm.app hm', jkO ?_⟩
        clear hm hm'
        refine jo_f [(0, 2), (0, 5)] (by kernel_rfl) ?_
        refine jo_end (by kernel_rfl) ?_
        exact jx_meet (!t_5) h (by kernel_rfl) [0, 1] (by kernel_rfl) (by kernel_rfl)
  · rintro q_1 h
    replace h : spec_l07Given.k_2 q_1 = some r := h
    rw [spec_l07Given.k_2] at h
    refine jx_then ?_
    refine jc_cond q_1 (by kernel_rfl) (fun hc_7 => ?_) (fun hc_7 => ?_)
    · replace h := ifT hc_7 h
      refine jc_seq ?_
      refine jc_region ?_
      refine jo_f [(0, 0)] (by kernel_rfl) ?_
      refine jo_end (by kernel_rfl) ?_
      refine jx_then ?_
      refine jc_ret ?_
      refine jx_thenr ?_
      obtain rfl := Option.some.inj h
      exact jx_ret [] (.int .i64 1) [] rfl (by kernel_rfl) (by kernel_rfl) (fun w hm => ⟨rfl, hm.pick [0] (by kernel_rfl) (by kernel_rfl)⟩)
    · replace h := ifF hc_7 h
      refine jc_skip ?_
      refine jx_then ?_
      refine jc_seq ?_
      refine jc_region ?_
      refine jo_f [(0, 0)] (by kernel_rfl) ?_
      refine jo_end (by kernel_rfl) ?_
      refine jx_then ?_
      refine jc_ret ?_
      obtain rfl := Option.some.inj h
      exact jx_ret [] (.int .i64 0) [] rfl (by kernel_rfl) (by kernel_rfl) (fun w hm => ⟨rfl, hm.pick [0] (by kernel_rfl) (by kernel_rfl)⟩)

/-! ### spec.l07Signed -/
noncomputable def spec_l07Signed.k_2 (xs_1 : List Int) : Option ((List Int)) := some xs_1
noncomputable def spec_l07Signed.l_5 (most0 : Int) : ((List Int) × Int) → Option (((List Int) × Int) ⊕ ((List Int)))
  | (xs_3, i_4) => (if (decide (i_4 ≤ most0)) = true then (if xs_3.length + [(w8 (0 - i_4)), i_4].length ≤ 4294967296 then some (.inl ((xs_3 ++ [(w8 (0 - i_4)), i_4]), (w8 (i_4 + 1)))) else none) else some (.inr xs_3))
noncomputable def spec_l07Signed (most0 : Int) : Option ((List Int)) := (loop (spec_l07Signed.l_5 most0) ([0], 1)).bind fun t_6 => spec_l07Signed.k_2 t_6
set_option maxRecDepth 100000 in
theorem spec_l07Signed.calls (most0 : Int) (w : World) (r : (List Int)) (h : spec_l07Signed most0 = some r) :
    Calls Try.prog 48 #[(.int .i8 most0)] w fun e w' => ∃ v, e = .returned v ∧ (∃ (o0 : Option Nat) (c0 : Nat) (s0 : List Value) (n0 : Nat), r.length = n0 ∧ (o0 ≠ none → n0 ≤ c0 ∧ s0.length = (c0 - n0) * 1) ∧ (o0 = none → r = [] ∧ c0 = 0) ∧ v = .slice (o0.map fun b => ⟨b, 0, none⟩) n0 c0 ∧ Mem w [] [⟨o0, 51, row encI8 r s0⟩] w') := by
  rw [spec_l07Signed] at h
  refine enter (args := [(.int .i8 most0)]) Try.func48 rfl Try.ntmps48 (by kernel_rfl) (L := []) (W := []) (Mem.start w) ?_
  refine jc_seq ?_
  refine jc_region ?_
  refine jo_f [(0, 0)] (by kernel_rfl) ?_
  refine jo_end (by kernel_rfl) ?_
  refine jx_then ?_
  refine jc_seq ?_
  refine jc_region ?_
  refine toO (by kernel_rfl) (p_a 0 [0] (by kernel_rfl) (fun b => by kernel_rfl) (fun b_1 => jkO ?_))
  refine jo_f [(0, 0)] (by kernel_rfl) ?_
  refine jo_end (by kernel_rfl) ?_
  refine jx_then ?_
  refine jc_seq ?_
  refine jc_seq ?_
  refine jc_region ?_
  refine jo_f [(0, 0)] (by kernel_rfl) ?_
  refine jo_end (by kernel_rfl) ?_
  refine jx_then ?_
  refine jc_meet (fun (j : (List Int) × (Option Nat) × Nat × (List Value) × Nat) => match j with | ⟨xs_1, o_137, cap_138, sp_139, n_140⟩ => spec_l07Signed.k_2 xs_1 = some r ∧ (xs_1.length = n_140) ∧ ((o_137 ≠ none → n_140 ≤ cap_138 ∧ sp_139.length = (cap_138 - n_140) * 1)) ∧ ((o_137 = none → xs_1 = [] ∧ cap_138 = 0))) (fun (j : (List Int) × (Option Nat) × Nat × (List Value) × Nat) => match j with | ⟨xs_1, o_137, cap_138, sp_139, n_140⟩ => [(2, [], (.slice none 0 0)), (3, [], (.slice (o_137.map fun b => ⟨b, 0, none⟩) n_140 cap_138))]) (fun (j : (List Int) × (Option Nat) × Nat × (List Value) × Nat) => match j with | ⟨xs_1, o_137, cap_138, sp_139, n_140⟩ => [⟨o_137, 51, row encI8 xs_1 sp_139⟩]) ?_ ?_
  · refine jc_block ?_
    obtain ⟨t_6, ht_185, hr_173⟩ := bd h
    refine jc_loop (fun (s : (List Int) × Int) (x : (Option Nat) × Nat × (List Value) × Nat) => match s, x with | ⟨xs_3, i_4⟩, ⟨o_167, cap_168, sp_169, n_170⟩ => (xs_3.length = n_170) ∧ ((o_167 ≠ none → n_170 ≤ cap_168 ∧ sp_169.length = (cap_168 - n_170) * 1)) ∧ ((o_167 = none → xs_3 = [] ∧ cap_168 = 0))) (fun (s : (List Int) × Int) (x : (Option Nat) × Nat × (List Value) × Nat) => match s, x with | ⟨xs_3, i_4⟩, ⟨o_167, cap_168, sp_169, n_170⟩ => [(0, [], (.int .i8 most0)), (2, [], (.slice none 0 0)), (3, [], (.slice (o_167.map fun b => ⟨b, 0, none⟩) n_170 cap_168)), (4, [], (.int .i8 i_4))]) (fun (s : (List Int) × Int) (x : (Option Nat) × Nat × (List Value) × Nat) => match s, x with | ⟨xs_3, i_4⟩, ⟨o_167, cap_168, sp_169, n_170⟩ => [⟨o_167, 51, row encI8 xs_3 sp_169⟩]) ht_185 ⟨(some b_1), 1, [], 1⟩ ⟨rfl, (fun _ => ⟨Nat.le_refl _, by simp⟩), (fun e => nomatch e)⟩ (by kernel_rfl) [0] (by kernel_rfl) (by kernel_rfl) ?_
    rintro ⟨xs_3, i_4⟩ ⟨o_167, cap_168, sp_169, n_170⟩ y_174 ⟨rfl, hs_171, ho_172⟩ h
    rw [spec_l07Signed.l_5] at h
    refine jc_seq ?_
    refine jc_seq ?_
    refine jc_region ?_
    refine jo_f [(0, 0), (0, 0), (0, 0)] (by kernel_rfl) ?_
    refine jo_end (by kernel_rfl) ?_
    refine jx_then ?_
    refine jc_cond (decide (i_4 ≤ most0)) (by kernel_rfl) (fun hc_176 => ?_) (fun hc_176 => ?_)
    · replace h := ifT hc_176 h
      refine jc_skip ?_
      refine jx_then ?_
      refine jc_seq ?_
      refine jc_block ?_
      refine jc_region ?_
      refine jo_f [(0, 0), (0, 0), (0, 0), (0, 0)] (by kernel_rfl) ?_
      refine toO (by kernel_rfl) (p_a 0 [0] (by kernel_rfl) (fun b => by kernel_rfl) (fun b_177 => jkO ?_))
      obtain ⟨hg_178, h⟩ := gd h
      refine toO (by kernel_rfl) (p_apn 0 0 o_167 51 xs_3.length 2 cap_168 1 1 (some ⟨b_177, 0, none⟩) encI8 xs_3 [(w8 (0 - i_4)), i_4] sp_169 (.int .i8 0) rfl rfl (by kernel_rfl) (by kernel_rfl) (by kernel_rfl) encI8_len encI8_cell hs_171 ho_172 (fun w hm => (hm.ownRow (hh := 1) (o := (some b_177)) (T := 51) (enc := encI8) (xs := [(w8 (0 - i_4)), i_4]) (sp := []) (by kernel_rfl) (fun e => nomatch e) encI8_len)) hg_178 (by kernel_rfl) (by kernel_rfl) (fun o_179 cap_180 sp_181 hs_182 ho_183 => jkO ?_))
      refine jo_f [(0, 0)] (by kernel_rfl) ?_
      refine jo_end (by kernel_rfl) ?_
      refine jx_inn ?_
      refine jx_then ?_
      refine jc_region ?_
      refine jo_f [(0, 0), (0, 0), (0, 0)] (by kernel_rfl) ?_
      refine jo_end (by kernel_rfl) ?_
      exact jx_back ((xs_3 ++ [(w8 (0 - i_4)), i_4]), (w8 (i_4 + 1))) ⟨o_179, cap_180, sp_181, (xs_3 ++ [(w8 (0 - i_4)), i_4]).length⟩ (Option.some.inj h).symm ⟨rfl, hs_182, ho_183⟩ [0] (by kernel_rfl) (by kernel_rfl) (by kernel_rfl)
    · replace h := ifF hc_176 h
      refine jc_exit ?_
      refine jx_thenx ?_
      refine jx_leave xs_3 (Option.some.inj h).symm (fun e_184 => ?_)
      subst e_184
      refine jx_ine ?_
      exact jx_meet ⟨xs_3, o_167, cap_168, sp_169, xs_3.length⟩ ⟨hr_173, rfl, hs_171, ho_172⟩ (by kernel_rfl) [0] (by kernel_rfl) (by kernel_rfl)
  · rintro ⟨xs_1, o_137, cap_138, sp_139, n_140⟩ ⟨h, rfl, hs_141, ho_142⟩
    replace h : spec_l07Signed.k_2 xs_1 = some r := h
    rw [spec_l07Signed.k_2] at h
    refine jx_then ?_
    refine jc_seq ?_
    refine jc_region ?_
    refine jo_f [(0, 0), (0, 0)] (by kernel_rfl) ?_
    refine jo_end (by kernel_rfl) ?_
    refine jx_then ?_
    refine jc_ret ?_
    obtain rfl := Option.some.inj h
    exact jx_ret [] (.slice (o_137.map fun b => ⟨b, 0, none⟩) xs_1.length cap_138) [] rfl (by kernel_rfl) (by kernel_rfl) (fun w hm => ⟨o_137, cap_138, sp_139, xs_1.length, rfl, hs_141, ho_142, rfl, hm.pick [0] (by kernel_rfl) (by kernel_rfl)⟩)

/-! ### spec.l07For -/
noncomputable def spec_l07For.k_4 (xs_3 : List GChoice) : Option ((List GChoice)) := (if xs_3.length + [(⟨true, 0, 0, 0⟩ : GChoice)].length ≤ 4294967296 then some (xs_3 ++ [(⟨true, 0, 0, 0⟩ : GChoice)]) else none)
noncomputable def spec_l07For.k_12 (i_6 : Int) (xs_11 : List GChoice) : Option (((List GChoice) × Int) ⊕ ((List GChoice))) := some (.inl (xs_11, (w64 (i_6 + 1))))
noncomputable def spec_l07For.k_18 (i_14 : Int) (xs_17 : List GChoice) : Option (((List GChoice) × Int) ⊕ ((List GChoice))) := some (.inl (xs_17, (w64 (i_14 + 1))))
noncomputable def spec_l07For.l_21 (f0 : GFrame) (n1 : GNote) (t_1 : (List Int)) (t_2 : (List Int)) (i_6 : Int) (i_14 : Int) : ((List GChoice) × Int) → Option (((List GChoice) × Int) ⊕ ((List GChoice)))
  | (xs_19, i_20) => (if (decide (i_20 < (f0.fHammers.length : Int))) = true then (ix f0.fHammers i_20).bind fun x_23 => (ix t_2 i_14).bind fun x_24 => (if (x_23.fPitch == (w8 (n1.fPitch + (w8 (12 * x_24))))) = true then (ix t_1 i_6).bind fun x_25 => (ix t_2 i_14).bind fun x_26 => (if xs_19.length + [(⟨false, x_25, x_26, (w8 i_20)⟩ : GChoice)].length ≤ 4294967296 then some (.inl ((xs_19 ++ [(⟨false, x_25, x_26, (w8 i_20)⟩ : GChoice)]), (w64 (i_20 + 1)))) else none) else some (.inl (xs_19, (w64 (i_20 + 1))))) else some (.inr xs_19))
noncomputable def spec_l07For.l_15 (f0 : GFrame) (n1 : GNote) (t_1 : (List Int)) (t_2 : (List Int)) (i_6 : Int) : ((List GChoice) × Int) → Option (((List GChoice) × Int) ⊕ ((List GChoice)))
  | (xs_13, i_14) => (if (decide (i_14 < (t_2.length : Int))) = true then (loop (spec_l07For.l_21 f0 n1 t_1 t_2 i_6 i_14) (xs_13, 0)).bind fun t_22 => spec_l07For.k_18 i_14 t_22 else some (.inr xs_13))
noncomputable def spec_l07For.l_7 (f0 : GFrame) (n1 : GNote) (t_1 : (List Int)) (t_2 : (List Int)) : ((List GChoice) × Int) → Option (((List GChoice) × Int) ⊕ ((List GChoice)))
  | (xs_5, i_6) => (if (decide (i_6 < (t_1.length : Int))) = true then (ix t_1 i_6).bind fun x_9 => (spec_l00In (w64 ((w64 n1.fAt) + (w64 x_9))) 0 (w64 ((w64 f0.fSteps) - 1))).bind fun t_10 => (if (!t_10) = true then some (.inl (xs_5, (w64 (i_6 + 1)))) else (loop (spec_l07For.l_15 f0 n1 t_1 t_2 i_6) (xs_5, 0)).bind fun t_16 => spec_l07For.k_12 i_6 t_16) else some (.inr xs_5))
noncomputable def spec_l07For (f0 : GFrame) (n1 : GNote) : Option ((List GChoice)) := (spec_l07Signed 3).bind fun t_1 => (spec_l07Signed 1).bind fun t_2 => (loop (spec_l07For.l_7 f0 n1 t_1 t_2) (([] : List GChoice), 0)).bind fun t_8 => spec_l07For.k_4 t_8
set_option maxRecDepth 100000 in
theorem spec_l07For.calls (f0 : GFrame) (n1 : GNote) (w : World) (r : (List GChoice)) (f0_fHammers_a : Option Addr) (f0_fHammers_an : Nat) (f0_fHammers_c : Nat) (f0_fHammers_h : Rw w f0_fHammers_a 2 encGHammer f0.fHammers) (f0_fHammers_hn : f0.fHammers.length = f0_fHammers_an) (f0_b : Nat) (hm0 : Mem w (bs [some f0_b]) [⟨some f0_b, 35, [(.int .i16 f0.fSteps), (.slice f0_fHammers_a f0_fHammers_an f0_fHammers_c)]⟩] w) (f0_fHammers_ha : f0.fHammers ≠ [] → aB f0_fHammers_a ∉ bs [some f0_b]) (h : spec_l07For f0 n1 = some r) :
    Calls Try.prog 40 #[(.pointer (some ⟨f0_b, 0, none⟩)), (.agg #[(.int .i16 n1.fAt), (.int .i8 n1.fPitch)])] w fun e w' => ∃ v, e = .returned v ∧ (∃ (o0 : Option Nat) (c0 : Nat) (s0 : List Value) (n0 : Nat), r.length = n0 ∧ (o0 ≠ none → n0 ≤ c0 ∧ s0.length = (c0 - n0) * 4) ∧ (o0 = none → r = [] ∧ c0 = 0) ∧ v = .slice (o0.map fun b => ⟨b, 0, none⟩) n0 c0 ∧ Mem w (bs [some f0_b]) [⟨some f0_b, 35, [(.int .i16 f0.fSteps), (.slice f0_fHammers_a f0_fHammers_an f0_fHammers_c)]⟩, ⟨o0, 83, row encGChoice r s0⟩] w') := by
  subst f0_fHammers_hn
  rw [spec_l07For] at h
  refine enter (args := [(.pointer (some ⟨f0_b, 0, none⟩)), (.agg #[(.int .i16 n1.fAt), (.int .i8 n1.fPitch)])]) Try.func40 rfl Try.ntmps40 (by kernel_rfl) (L := [⟨some f0_b, 35, [(.int .i16 f0.fSteps), (.slice f0_fHammers_a f0.fHammers.length f0_fHammers_c)]⟩]) (W := bs [some f0_b]) hm0 ?_
  refine jc_seq ?_
  refine jc_region ?_
  refine toO (by kernel_rfl) (p_a 0 [0] (by kernel_rfl) (fun b => by kernel_rfl) (fun b_1 => jkO ?_))
  refine jo_f [(0, 0)] (by kernel_rfl) ?_
  refine jo_end (by kernel_rfl) ?_
  refine jx_then ?_
  refine jc_seq ?_
  refine jc_region ?_
  refine toO (by kernel_rfl) (p_a 0 [0] (by kernel_rfl) (fun b => by kernel_rfl) (fun b_2 => jkO ?_))
  refine jo_f [(0, 0)] (by kernel_rfl) ?_
  refine jo_end (by kernel_rfl) ?_
  refine jx_then ?_
  refine jc_seq ?_
  refine jc_region ?_
  obtain ⟨t_1, ht_3, h⟩ := bd h
  refine toO (by kernel_rfl) (p_call 0 48 #[(.int .i8 3)] (by kernel_rfl) (by kernel_rfl) (fun w hm => spec_l07Signed.calls 3 w _ ht_3) ?_)
  rintro w v w' hm ⟨o_4, cap_5, sp_6, _, rfl, hs_7, ho_8, rfl, hm'⟩
  refine ⟨_, hm.app hm', jkO ?_⟩
  clear hm hm'
  refine jo_f [(0, 0)] (by kernel_rfl) ?_
  refine jo_end (by kernel_rfl) ?_
  refine jx_then ?_
  refine jc_seq ?_
  refine jc_region ?_
  obtain ⟨t_2, ht_9, h⟩ := bd h
  refine toO (by kernel_rfl) (p_call 0 48 #[(.int .i8 1)] (by kernel_rfl) (by kernel_rfl) (fun w hm => spec_l07Signed.calls 1 w _ ht_9) ?_)
  rintro w v w' hm ⟨o_10, cap_11, sp_12, _, rfl, hs_13, ho_14, rfl, hm'⟩
  refine ⟨_, hm.app hm', jkO ?_⟩
  clear hm hm'
  refine jo_f [(0, 0)] (by kernel_rfl) ?_
  refine jo_end (by kernel_rfl) ?_
  refine jx_then ?_
  refine jc_seq ?_
  refine jc_seq ?_
  refine jc_region ?_
  refine jo_f [(0, 0)] (by kernel_rfl) ?_
  refine jo_end (by kernel_rfl) ?_
  refine jx_then ?_
  refine jc_meet (fun (j : (List GChoice) × (Option Nat) × Nat × (List Value) × Nat) => match j with | ⟨xs_3, o_8151, cap_8152, sp_8153, n_8154⟩ => spec_l07For.k_4 xs_3 = some r ∧ (xs_3.length = n_8154) ∧ ((o_8151 ≠ none → n_8154 ≤ cap_8152 ∧ sp_8153.length = (cap_8152 - n_8154) * 4)) ∧ ((o_8151 = none → xs_3 = [] ∧ cap_8152 = 0))) (fun (j : (List GChoice) × (Option Nat) × Nat × (List Value) × Nat) => match j with | ⟨xs_3, o_8151, cap_8152, sp_8153, n_8154⟩ => [(4, [], (.slice none 0 0)), (5, [], (.slice (o_8151.map fun b => ⟨b, 0, none⟩) n_8154 cap_8152))]) (fun (j : (List GChoice) × (Option Nat) × Nat × (List Value) × Nat) => match j with | ⟨xs_3, o_8151, cap_8152, sp_8153, n_8154⟩ => [⟨some f0_b, 35, [(.int .i16 f0.fSteps), (.slice f0_fHammers_a f0.fHammers.length f0_fHammers_c)]⟩, ⟨some b_1, 53, [(.int .i16 n1.fAt), (.int .i8 n1.fPitch)]⟩, ⟨o_8151, 83, row encGChoice xs_3 sp_8153⟩, ⟨o_4, 51, row encI8 t_1 sp_6⟩, ⟨o_10, 51, row encI8 t_2 sp_12⟩]) ?_ ?_
  · refine jc_block ?_
    obtain ⟨t_8, ht_10873, hr_9972⟩ := bd h
    refine jc_loop (fun (s : (List GChoice) × Int) (x : (Option Nat) × Nat × (List Value) × Nat) => match s, x with | ⟨xs_5, i_6⟩, ⟨o_9966, cap_9967, sp_9968, n_9969⟩ => (xs_5.length = n_9969) ∧ ((o_9966 ≠ none → n_9969 ≤ cap_9967 ∧ sp_9968.length = (cap_9967 - n_9969) * 4)) ∧ ((o_9966 = none → xs_5 = [] ∧ cap_9967 = 0))) (fun (s : (List GChoice) × Int) (x : (Option Nat) × Nat × (List Value) × Nat) => match s, x with | ⟨xs_5, i_6⟩, ⟨o_9966, cap_9967, sp_9968, n_9969⟩ => [(0, [], (.pointer (some ⟨f0_b, 0, none⟩))), (3, [], (.pointer (some ⟨b_1, 0, none⟩))), (4, [], (.slice none 0 0)), (5, [], (.slice (o_9966.map fun b => ⟨b, 0, none⟩) n_9969 cap_9967)), (6, [], (.slice (o_4.map fun b => ⟨b, 0, none⟩) t_1.length cap_5)), (7, [], (.slice (o_10.map fun b => ⟨b, 0, none⟩) t_2.length cap_11)), (8, [], (.int .i64 i_6))]) (fun (s : (List GChoice) × Int) (x : (Option Nat) × Nat × (List Value) × Nat) => match s, x with | ⟨xs_5, i_6⟩, ⟨o_9966, cap_9967, sp_9968, n_9969⟩ => [⟨some f0_b, 35, [(.int .i16 f0.fSteps), (.slice f0_fHammers_a f0.fHammers.length f0_fHammers_c)]⟩, ⟨some b_1, 53, [(.int .i16 n1.fAt), (.int .i8 n1.fPitch)]⟩, ⟨o_9966, 83, row encGChoice xs_5 sp_9968⟩, ⟨o_4, 51, row encI8 t_1 sp_6⟩, ⟨o_10, 51, row encI8 t_2 sp_12⟩]) ht_10873 ⟨(some b_2), 0, [], 0⟩ ⟨rfl, (fun _ => ⟨Nat.le_refl _, by simp⟩), (fun e => nomatch e)⟩ (by kernel_rfl) [0, 1, 2, 3, 4] (by kernel_rfl) (by kernel_rfl) ?_
    rintro ⟨xs_5, i_6⟩ ⟨o_9966, cap_9967, sp_9968, n_9969⟩ y_9973 ⟨rfl, hs_9970, ho_9971⟩ h
    rw [spec_l07For.l_7] at h
    refine jc_seq ?_
    refine jc_seq ?_
    refine jc_region ?_
    refine jo_f [(0, 0), (0, 0), (0, 0), (0, 0)] (by kernel_rfl) ?_
    refine jo_end (by kernel_rfl) ?_
    refine jx_then ?_
    refine jc_cond (decide (i_6 < (t_1.length : Int))) (by kernel_rfl) (fun hc_9975 => ?_) (fun hc_9975 => ?_)
    · replace h := ifT hc_9975 h
      refine jc_skip ?_
      refine jx_then ?_
      refine jc_seq ?_
      refine jc_block ?_
      refine jc_seq ?_
      refine jc_seq ?_
      refine jc_draw [⟨some f0_b, 35, [(.int .i16 f0.fSteps), (.slice f0_fHammers_a f0.fHammers.length f0_fHammers_c)]⟩, ⟨some b_1, 53, [(.int .i16 n1.fAt), (.int .i8 n1.fPitch)]⟩, ⟨o_9966, 83, row encGChoice xs_5 sp_9968⟩, ⟨o_4, 51, row encI8 t_1 sp_6⟩, ⟨o_10, 51, row encI8 t_2 sp_12⟩] 17 (by kernel_rfl) (by kernel_rfl) ?_
      refine jd_f [⟨0, 0, 0⟩, ⟨1, 1, 0⟩, ⟨2, 0, 0⟩, ⟨3, 0, 0⟩, ⟨4, 0, 0⟩, ⟨9, 0, 0⟩, ⟨10, 0, 0⟩, ⟨11, 0, 0⟩, ⟨12, 0, 0⟩, ⟨13, 0, 0⟩, ⟨14, 0, 0⟩] 6 (by kernel_rfl) (by kernel_rfl) (fun w h => h.pick [0, 1, 2, 3, 4] (by kernel_rfl) (by kernel_rfl)) (by kernel_rfl) (by kernel_rfl) ?_
      obtain ⟨x_9, hx_9979, h⟩ := bd h
      refine jd_v 5 0 (by kernel_rfl) (fun w h => h.pick [0, 1, 2, 3, 4] (by kernel_rfl) (by kernel_rfl)) (by kernel_rfl) (by kernel_rfl) _ (fun w hm => idx_run (a := (o_4.map fun b => ⟨b, 0, none⟩)) (len := t_1.length) (s := 1) (j := i_6) (by kernel_rfl) (ix_some hx_9979).1 (ltn hx_9979 rfl) (spo ho_8 hx_9979)) ?_
      refine jd_v 6 0 (by kernel_rfl) (fun w h => h.pick [0, 1, 2, 3, 4] (by kernel_rfl) (by kernel_rfl)) (by kernel_rfl) (by kernel_rfl) _ (fun w hm => ld_run (b := aB (o_4.map fun b => ⟨b, 0, none⟩)) (off := (aO (o_4.map fun b => ⟨b, 0, none⟩) + i_6.toNat * 1)) (s := 1) (agg := false) (vs := (encI8 x_9)) (by kernel_rfl) (by kernel_rfl) (.inr rfl) ((hm.ownRow (hh := 3) (o := o_4) (T := 51) (enc := encI8) (xs := t_1) (sp := sp_6) (by kernel_rfl) (fun e => (ho_8 e).1) encI8_len).at hx_9979)) ?_
      refine jd_f [⟨7, 0, 0⟩, ⟨8, 0, 0⟩] 2 (by kernel_rfl) (by kernel_rfl) (fun w h => h.pick [0, 1, 2, 3, 4] (by kernel_rfl) (by kernel_rfl)) (by kernel_rfl) (by kernel_rfl) ?_
      obtain ⟨t_10, ht_9980, h⟩ := bd h
      refine toD 15 (by kernel_rfl) (p_call 0 15 #[(.int .i64 (w64 ((w64 n1.fAt) + (w64 x_9)))), (.int .i64 0), (.int .i64 (w64 ((w64 f0.fSteps) - 1)))] (by kernel_rfl) (by kernel_rfl) (fun w hm => spec_l00In.calls (w64 ((w64 n1.fAt) + (w64 x_9))) 0 (w64 ((w64 f0.fSteps) - 1)) w _ ht_9980) ?_)
      rintro w v w' hm ⟨rfl, hm'⟩
      refine ⟨_, hm.app hm', jkD (fun w h => h.pick [0, 1, 2, 3, 4] (by kernel_rfl) (by kernel_rfl)) ?_⟩
      clear hm hm'
      refine jd_f [⟨16, 0, 0⟩] 0 (by kernel_rfl) (by kernel_rfl) (fun w h => h.pick [0, 1, 2, 3, 4] (by kernel_rfl) (by kernel_rfl)) (by kernel_rfl) (by kernel_rfl) ?_
      refine jd_end (by kernel_rfl) ?_
      refine jx_then ?_
      refine jc_cond (!t_10) (by kernel_rfl) (fun hc_9981 => ?_) (fun hc_9981 => ?_)
      · replace h := ifT hc_9981 h
        refine jc_exit ?_
        refine jx_thenx ?_
        refine jx_ine ?_
        refine jx_then ?_
        refine jc_region ?_
        refine jo_f [(0, 0), (0, 0), (0, 0)] (by kernel_rfl) ?_
        refine jo_end (by kernel_rfl) ?_
        exact jx_back (xs_5, (w64 (i_6 + 1))) ⟨o_9966, cap_9967, sp_9968, xs_5.length⟩ (Option.some.inj h).symm ⟨rfl, hs_9970, ho_9971⟩ [0, 1, 2, 3, 4] (by kernel_rfl) (by kernel_rfl) (by kernel_rfl)
      · replace h := ifF hc_9981 h
        refine jc_skip ?_
        refine jx_then ?_
        refine jc_seq ?_
        refine jc_region ?_
        refine jo_f [(0, 0)] (by kernel_rfl) ?_
        refine jo_end (by kernel_rfl) ?_
        refine jx_then ?_
        refine jc_meet (fun (j : (List GChoice) × (Option Nat) × Nat × (List Value) × Nat) => match j with | ⟨xs_11, o_10424, cap_10425, sp_10426, n_10427⟩ => spec_l07For.k_12 i_6 xs_11 = some y_9973 ∧ (xs_11.length = n_10427) ∧ ((o_10424 ≠ none → n_10427 ≤ cap_10425 ∧ sp_10426.length = (cap_10425 - n_10427) * 4)) ∧ ((o_10424 = none → xs_11 = [] ∧ cap_10425 = 0))) (fun (j : (List GChoice) × (Option Nat) × Nat × (List Value) × Nat) => match j with | ⟨xs_11, o_10424, cap_10425, sp_10426, n_10427⟩ => [(0, [], (.pointer (some ⟨f0_b, 0, none⟩))), (3, [], (.pointer (some ⟨b_1, 0, none⟩))), (4, [], (.slice none 0 0)), (5, [], (.slice (o_10424.map fun b => ⟨b, 0, none⟩) n_10427 cap_10425)), (6, [], (.slice (o_4.map fun b => ⟨b, 0, none⟩) t_1.length cap_5)), (7, [], (.slice (o_10.map fun b => ⟨b, 0, none⟩) t_2.length cap_11)), (8, [], (.int .i64 i_6))]) (fun (j : (List GChoice) × (Option Nat) × Nat × (List Value) × Nat) => match j with | ⟨xs_11, o_10424, cap_10425, sp_10426, n_10427⟩ => [⟨some f0_b, 35, [(.int .i16 f0.fSteps), (.slice f0_fHammers_a f0.fHammers.length f0_fHammers_c)]⟩, ⟨some b_1, 53, [(.int .i16 n1.fAt), (.int .i8 n1.fPitch)]⟩, ⟨o_10424, 83, row encGChoice xs_11 sp_10426⟩, ⟨o_4, 51, row encI8 t_1 sp_6⟩, ⟨o_10, 51, row encI8 t_2 sp_12⟩]) ?_ ?_
        · refine jc_block ?_
          obtain ⟨t_16, ht_10871, hr_10726⟩ := bd h
          refine jc_loop (fun (s : (List GChoice) × Int) (x : (Option Nat) × Nat × (List Value) × Nat) => match s, x with | ⟨xs_13, i_14⟩, ⟨o_10720, cap_10721, sp_10722, n_10723⟩ => (xs_13.length = n_10723) ∧ ((o_10720 ≠ none → n_10723 ≤ cap_10721 ∧ sp_10722.length = (cap_10721 - n_10723) * 4)) ∧ ((o_10720 = none → xs_13 = [] ∧ cap_10721 = 0))) (fun (s : (List GChoice) × Int) (x : (Option Nat) × Nat × (List Value) × Nat) => match s, x with | ⟨xs_13, i_14⟩, ⟨o_10720, cap_10721, sp_10722, n_10723⟩ => [(0, [], (.pointer (some ⟨f0_b, 0, none⟩))), (3, [], (.pointer (some ⟨b_1, 0, none⟩))), (4, [], (.slice none 0 0)), (5, [], (.slice (o_10720.map fun b => ⟨b, 0, none⟩) n_10723 cap_10721)), (6, [], (.slice (o_4.map fun b => ⟨b, 0, none⟩) t_1.length cap_5)), (7, [], (.slice (o_10.map fun b => ⟨b, 0, none⟩) t_2.length cap_11)), (8, [], (.int .i64 i_6)), (9, [], (.int .i64 i_14))]) (fun (s : (List GChoice) × Int) (x : (Option Nat) × Nat × (List Value) × Nat) => match s, x with | ⟨xs_13, i_14⟩, ⟨o_10720, cap_10721, sp_10722, n_10723⟩ => [⟨some f0_b, 35, [(.int .i16 f0.fSteps), (.slice f0_fHammers_a f0.fHammers.length f0_fHammers_c)]⟩, ⟨some b_1, 53, [(.int .i16 n1.fAt), (.int .i8 n1.fPitch)]⟩, ⟨o_10720, 83, row encGChoice xs_13 sp_10722⟩, ⟨o_4, 51, row encI8 t_1 sp_6⟩, ⟨o_10, 51, row encI8 t_2 sp_12⟩]) ht_10871 ⟨o_9966, cap_9967, sp_9968, xs_5.length⟩ ⟨rfl, hs_9970, ho_9971⟩ (by kernel_rfl) [0, 1, 2, 3, 4] (by kernel_rfl) (by kernel_rfl) ?_
          rintro ⟨xs_13, i_14⟩ ⟨o_10720, cap_10721, sp_10722, n_10723⟩ y_10727 ⟨rfl, hs_10724, ho_10725⟩ h
          rw [spec_l07For.l_15] at h
          refine jc_seq ?_
          refine jc_seq ?_
          refine jc_region ?_
          refine jo_f [(0, 0), (0, 0), (0, 0), (0, 0)] (by kernel_rfl) ?_
          refine jo_end (by kernel_rfl) ?_
          refine jx_then ?_
          refine jc_cond (decide (i_14 < (t_2.length : Int))) (by kernel_rfl) (fun hc_10729 => ?_) (fun hc_10729 => ?_)
          · replace h := ifT hc_10729 h
            refine jc_skip ?_
            refine jx_then ?_
            refine jc_seq ?_
            refine jc_block ?_
            refine jc_seq ?_
            refine jc_region ?_
            refine jo_f [(0, 0)] (by kernel_rfl) ?_
            refine jo_end (by kernel_rfl) ?_
            refine jx_then ?_
            refine jc_meet (fun (j : (List GChoice) × (Option Nat) × Nat × (List Value) × Nat) => match j with | ⟨xs_17, o_10797, cap_10798, sp_10799, n_10800⟩ => spec_l07For.k_18 i_14 xs_17 = some y_10727 ∧ (xs_17.length = n_10800) ∧ ((o_10797 ≠ none → n_10800 ≤ cap_10798 ∧ sp_10799.length = (cap_10798 - n_10800) * 4)) ∧ ((o_10797 = none → xs_17 = [] ∧ cap_10798 = 0))) (fun (j : (List GChoice) × (Option Nat) × Nat × (List Value) × Nat) => match j with | ⟨xs_17, o_10797, cap_10798, sp_10799, n_10800⟩ => [(0, [], (.pointer (some ⟨f0_b, 0, none⟩))), (3, [], (.pointer (some ⟨b_1, 0, none⟩))), (4, [], (.slice none 0 0)), (5, [], (.slice (o_10797.map fun b => ⟨b, 0, none⟩) n_10800 cap_10798)), (6, [], (.slice (o_4.map fun b => ⟨b, 0, none⟩) t_1.length cap_5)), (7, [], (.slice (o_10.map fun b => ⟨b, 0, none⟩) t_2.length cap_11)), (8, [], (.int .i64 i_6)), (9, [], (.int .i64 i_14))]) (fun (j : (List GChoice) × (Option Nat) × Nat × (List Value) × Nat) => match j with | ⟨xs_17, o_10797, cap_10798, sp_10799, n_10800⟩ => [⟨some f0_b, 35, [(.int .i16 f0.fSteps), (.slice f0_fHammers_a f0.fHammers.length f0_fHammers_c)]⟩, ⟨some b_1, 53, [(.int .i16 n1.fAt), (.int .i8 n1.fPitch)]⟩, ⟨o_10797, 83, row encGChoice xs_17 sp_10799⟩, ⟨o_4, 51, row encI8 t_1 sp_6⟩, ⟨o_10, 51, row encI8 t_2 sp_12⟩]) ?_ ?_
            · refine jc_block ?_
              obtain ⟨t_22, ht_10869, hr_10849⟩ := bd h
              refine jc_loop (fun (s : (List GChoice) × Int) (x : (Option Nat) × Nat × (List Value) × Nat) => match s, x with | ⟨xs_19, i_20⟩, ⟨o_10843, cap_10844, sp_10845, n_10846⟩ => (xs_19.length = n_10846) ∧ ((o_10843 ≠ none → n_10846 ≤ cap_10844 ∧ sp_10845.length = (cap_10844 - n_10846) * 4)) ∧ ((o_10843 = none → xs_19 = [] ∧ cap_10844 = 0))) (fun (s : (List GChoice) × Int) (x : (Option Nat) × Nat × (List Value) × Nat) => match s, x with | ⟨xs_19, i_20⟩, ⟨o_10843, cap_10844, sp_10845, n_10846⟩ => [(0, [], (.pointer (some ⟨f0_b, 0, none⟩))), (3, [], (.pointer (some ⟨b_1, 0, none⟩))), (4, [], (.slice none 0 0)), (5, [], (.slice (o_10843.map fun b => ⟨b, 0, none⟩) n_10846 cap_10844)), (6, [], (.slice (o_4.map fun b => ⟨b, 0, none⟩) t_1.length cap_5)), (7, [], (.slice (o_10.map fun b => ⟨b, 0, none⟩) t_2.length cap_11)), (8, [], (.int .i64 i_6)), (9, [], (.int .i64 i_14)), (10, [], (.int .i64 i_20))]) (fun (s : (List GChoice) × Int) (x : (Option Nat) × Nat × (List Value) × Nat) => match s, x with | ⟨xs_19, i_20⟩, ⟨o_10843, cap_10844, sp_10845, n_10846⟩ => [⟨some f0_b, 35, [(.int .i16 f0.fSteps), (.slice f0_fHammers_a f0.fHammers.length f0_fHammers_c)]⟩, ⟨some b_1, 53, [(.int .i16 n1.fAt), (.int .i8 n1.fPitch)]⟩, ⟨o_10843, 83, row encGChoice xs_19 sp_10845⟩, ⟨o_4, 51, row encI8 t_1 sp_6⟩, ⟨o_10, 51, row encI8 t_2 sp_12⟩]) ht_10869 ⟨o_10720, cap_10721, sp_10722, xs_13.length⟩ ⟨rfl, hs_10724, ho_10725⟩ (by kernel_rfl) [0, 1, 2, 3, 4] (by kernel_rfl) (by kernel_rfl) ?_
              rintro ⟨xs_19, i_20⟩ ⟨o_10843, cap_10844, sp_10845, n_10846⟩ y_10850 ⟨rfl, hs_10847, ho_10848⟩ h
              rw [spec_l07For.l_21] at h
              refine jc_seq ?_
              refine jc_seq ?_
              refine jc_region ?_
              refine jo_f [(0, 0), (0, 0), (0, 0), (0, 0), (0, 0), (0, 0), (0, 0)] (by kernel_rfl) ?_
              refine jo_end (by kernel_rfl) ?_
              refine jx_then ?_
              refine jc_cond (decide (i_20 < (f0.fHammers.length : Int))) (by kernel_rfl) (fun hc_10852 => ?_) (fun hc_10852 => ?_)
              · replace h := ifT hc_10852 h
                refine jc_skip ?_
                refine jx_then ?_
                refine jc_seq ?_
                refine jc_block ?_
                refine jc_seq ?_
                refine jc_draw [⟨some f0_b, 35, [(.int .i16 f0.fSteps), (.slice f0_fHammers_a f0.fHammers.length f0_fHammers_c)]⟩, ⟨some b_1, 53, [(.int .i16 n1.fAt), (.int .i8 n1.fPitch)]⟩, ⟨o_10843, 83, row encGChoice xs_19 sp_10845⟩, ⟨o_4, 51, row encI8 t_1 sp_6⟩, ⟨o_10, 51, row encI8 t_2 sp_12⟩] 17 (by kernel_rfl) (by kernel_rfl) ?_
                refine jd_f [⟨0, 0, 0⟩, ⟨1, 0, 0⟩, ⟨2, 0, 0⟩, ⟨3, 0, 0⟩, ⟨4, 0, 0⟩, ⟨8, 0, 0⟩, ⟨9, 1, 0⟩, ⟨10, 0, 0⟩, ⟨11, 0, 0⟩] 8 (by kernel_rfl) (by kernel_rfl) (fun w h => h.pick [0, 1, 2, 3, 4] (by kernel_rfl) (by kernel_rfl)) (by kernel_rfl) (by kernel_rfl) ?_
                obtain ⟨x_23, hx_10853, h⟩ := bd h
                refine jd_v 5 0 (by kernel_rfl) (fun w h => h.pick [0, 1, 2, 3, 4] (by kernel_rfl) (by kernel_rfl)) (by kernel_rfl) (by kernel_rfl) _ (fun w hm => idx_run (a := f0_fHammers_a) (len := f0.fHammers.length) (s := 2) (j := i_20) (by kernel_rfl) (ix_some hx_10853).1 (ltn hx_10853 rfl) (f0_fHammers_h.sp hx_10853)) ?_
                refine jd_f [⟨6, 0, 0⟩] 6 (by kernel_rfl) (by kernel_rfl) (fun w h => h.pick [0, 1, 2, 3, 4] (by kernel_rfl) (by kernel_rfl)) (by kernel_rfl) (by kernel_rfl) ?_
                refine jd_v 7 0 (by kernel_rfl) (fun w h => h.pick [0, 1, 2, 3, 4] (by kernel_rfl) (by kernel_rfl)) (by kernel_rfl) (by kernel_rfl) _ (fun w hm => ld_run (b := aB f0_fHammers_a) (off := (aO f0_fHammers_a + i_20.toNat * 2)) (s := 1) (agg := false) (vs := (((encGHammer x_23).drop 0).take 1)) (by kernel_rfl) (by kernel_rfl) (.inr rfl) (((hm.exRowW f0_fHammers_h f0_fHammers_ha).at hx_10853).sub 0 1)) ?_
                obtain ⟨x_24, hx_10854, h⟩ := bd h
                refine jd_v 12 0 (by kernel_rfl) (fun w h => h.pick [0, 1, 2, 3, 4] (by kernel_rfl) (by kernel_rfl)) (by kernel_rfl) (by kernel_rfl) _ (fun w hm => idx_run (a := (o_10.map fun b => ⟨b, 0, none⟩)) (len := t_2.length) (s := 1) (j := i_14) (by kernel_rfl) (ix_some hx_10854).1 (ltn hx_10854 rfl) (spo ho_14 hx_10854)) ?_
                refine jd_v 13 0 (by kernel_rfl) (fun w h => h.pick [0, 1, 2, 3, 4] (by kernel_rfl) (by kernel_rfl)) (by kernel_rfl) (by kernel_rfl) _ (fun w hm => ld_run (b := aB (o_10.map fun b => ⟨b, 0, none⟩)) (off := (aO (o_10.map fun b => ⟨b, 0, none⟩) + i_14.toNat * 1)) (s := 1) (agg := false) (vs := (encI8 x_24)) (by kernel_rfl) (by kernel_rfl) (.inr rfl) ((hm.ownRow (hh := 4) (o := o_10) (T := 51) (enc := encI8) (xs := t_2) (sp := sp_12) (by kernel_rfl) (fun e => (ho_14 e).1) encI8_len).at hx_10854)) ?_
                refine jd_f [⟨14, 0, 0⟩, ⟨15, 0, 0⟩, ⟨16, 0, 0⟩] 0 (by kernel_rfl) (by kernel_rfl) (fun w h => h.pick [0, 1, 2, 3, 4] (by kernel_rfl) (by kernel_rfl)) (by kernel_rfl) (by kernel_rfl) ?_
                refine jd_end (by kernel_rfl) ?_
                refine jx_then ?_
                refine jc_cond (x_23.fPitch == (w8 (n1.fPitch + (w8 (12 * x_24))))) (by kernel_rfl) (fun hc_10855 => ?_) (fun hc_10855 => ?_)
                · replace h := ifT hc_10855 h
                  refine jc_draw [⟨some f0_b, 35, [(.int .i16 f0.fSteps), (.slice f0_fHammers_a f0.fHammers.length f0_fHammers_c)]⟩, ⟨some b_1, 53, [(.int .i16 n1.fAt), (.int .i8 n1.fPitch)]⟩, ⟨o_4, 51, row encI8 t_1 sp_6⟩, ⟨o_10, 51, row encI8 t_2 sp_12⟩] 15 (by kernel_rfl) (by kernel_rfl) ?_
                  refine jd_f [⟨0, 0, 0⟩, ⟨1, 0, 0⟩, ⟨2, 0, 0⟩, ⟨5, 0, 0⟩, ⟨6, 0, 0⟩, ⟨9, 0, 0⟩, ⟨10, 0, 0⟩] 8 (by kernel_rfl) (by kernel_rfl) (fun w h => h.pick [0, 1, 3, 4] (by kernel_rfl) (by kernel_rfl)) (by kernel_rfl) (by kernel_rfl) ?_
                  obtain ⟨x_25, hx_10859, h⟩ := bd h
                  refine jd_v 3 0 (by kernel_rfl) (fun w h => h.pick [0, 1, 3, 4] (by kernel_rfl) (by kernel_rfl)) (by kernel_rfl) (by kernel_rfl) _ (fun w hm => idx_run (a := (o_4.map fun b => ⟨b, 0, none⟩)) (len := t_1.length) (s := 1) (j := i_6) (by kernel_rfl) (ix_some hx_10859).1 (ltn hx_10859 rfl) (spo ho_8 hx_10859)) ?_
                  refine jd_v 4 0 (by kernel_rfl) (fun w h => h.pick [0, 1, 3, 4] (by kernel_rfl) (by kernel_rfl)) (by kernel_rfl) (by kernel_rfl) _ (fun w hm => ld_run (b := aB (o_4.map fun b => ⟨b, 0, none⟩)) (off := (aO (o_4.map fun b => ⟨b, 0, none⟩) + i_6.toNat * 1)) (s := 1) (agg := false) (vs := (encI8 x_25)) (by kernel_rfl) (by kernel_rfl) (.inr rfl) ((hm.ownRow (hh := 2) (o := o_4) (T := 51) (enc := encI8) (xs := t_1) (sp := sp_6) (by kernel_rfl) (fun e => (ho_8 e).1) encI8_len).at hx_10859)) ?_
                  obtain ⟨x_26, hx_10860, h⟩ := bd h
                  refine jd_v 7 0 (by kernel_rfl) (fun w h => h.pick [0, 1, 3, 4] (by kernel_rfl) (by kernel_rfl)) (by kernel_rfl) (by kernel_rfl) _ (fun w hm => idx_run (a := (o_10.map fun b => ⟨b, 0, none⟩)) (len := t_2.length) (s := 1) (j := i_14) (by kernel_rfl) (ix_some hx_10860).1 (ltn hx_10860 rfl) (spo ho_14 hx_10860)) ?_
                  refine jd_v 8 0 (by kernel_rfl) (fun w h => h.pick [0, 1, 3, 4] (by kernel_rfl) (by kernel_rfl)) (by kernel_rfl) (by kernel_rfl) _ (fun w hm => ld_run (b := aB (o_10.map fun b => ⟨b, 0, none⟩)) (off := (aO (o_10.map fun b => ⟨b, 0, none⟩) + i_14.toNat * 1)) (s := 1) (agg := false) (vs := (encI8 x_26)) (by kernel_rfl) (by kernel_rfl) (.inr rfl) ((hm.ownRow (hh := 3) (o := o_10) (T := 51) (enc := encI8) (xs := t_2) (sp := sp_12) (by kernel_rfl) (fun e => (ho_14 e).1) encI8_len).at hx_10860)) ?_
                  refine jd_f [⟨11, 0, 0⟩] 3 (by kernel_rfl) (by kernel_rfl) (fun w h => h.pick [0, 1, 3, 4] (by kernel_rfl) (by kernel_rfl)) (by kernel_rfl) (by kernel_rfl) ?_
                  refine toD 12 (by kernel_rfl) (p_a 0 [0] (by kernel_rfl) (fun b => by kernel_rfl) (fun b_10861 => jkD (fun w h => h.pick [0, 1, 3, 4] (by kernel_rfl) (by kernel_rfl)) ?_))
                  obtain ⟨hg_10862, h⟩ := gd h
                  refine toD 13 (by kernel_rfl) (p_apn 0 2 o_10843 83 xs_19.length 1 cap_10844 4 4 (some ⟨b_10861, 0, none⟩) encGChoice xs_19 [(⟨false, x_25, x_26, (w8 i_20)⟩ : GChoice)] sp_10845 (.agg #[(.bool false), (.int .i8 0), (.int .i8 0), (.int .i8 0)]) rfl rfl (by kernel_rfl) (by kernel_rfl) (by kernel_rfl) encGChoice_len encGChoice_cell hs_10847 ho_10848 (fun w hm => (hm.ownRow (hh := 5) (o := (some b_10861)) (T := 83) (enc := encGChoice) (xs := [(⟨false, x_25, x_26, (w8 i_20)⟩ : GChoice)]) (sp := []) (by kernel_rfl) (fun e => nomatch e) encGChoice_len)) hg_10862 (by kernel_rfl) (by kernel_rfl) (fun o_10863 cap_10864 sp_10865 hs_10866 ho_10867 => jkD (fun w h => h.pick [0, 1, 3, 4] (by kernel_rfl) (by kernel_rfl)) ?_))
                  refine jd_f [⟨14, 0, 0⟩] 0 (by kernel_rfl) (by kernel_rfl) (fun w h => h.pick [0, 1, 3, 4] (by kernel_rfl) (by kernel_rfl)) (by kernel_rfl) (by kernel_rfl) ?_
                  refine jd_end (by kernel_rfl) ?_
                  refine jx_inn ?_
                  refine jx_then ?_
                  refine jc_region ?_
                  refine jo_f [(0, 0), (0, 0), (0, 0)] (by kernel_rfl) ?_
                  refine jo_end (by kernel_rfl) ?_
                  exact jx_back ((xs_19 ++ [(⟨false, x_25, x_26, (w8 i_20)⟩ : GChoice)]), (w64 (i_20 + 1))) ⟨o_10863, cap_10864, sp_10865, (xs_19 ++ [(⟨false, x_25, x_26, (w8 i_20)⟩ : GChoice)]).length⟩ (Option.some.inj h).symm ⟨rfl, hs_10866, ho_10867⟩ [0, 1, 2, 3, 4] (by kernel_rfl) (by kernel_rfl) (by kernel_rfl)
                · replace h := ifF hc_10855 h
                  refine jc_skip ?_
                  refine jx_inn ?_
                  refine jx_then ?_
                  refine jc_region ?_
                  refine jo_f [(0, 0), (0, 0), (0, 0)] (by kernel_rfl) ?_
                  refine jo_end (by kernel_rfl) ?_
                  exact jx_back (xs_19, (w64 (i_20 + 1))) ⟨o_10843, cap_10844, sp_10845, xs_19.length⟩ (Option.some.inj h).symm ⟨rfl, hs_10847, ho_10848⟩ [0, 1, 2, 3, 4] (by kernel_rfl) (by kernel_rfl) (by kernel_rfl)
              · replace h := ifF hc_10852 h
                refine jc_exit ?_
                refine jx_thenx ?_
                refine jx_leave xs_19 (Option.some.inj h).symm (fun e_10868 => ?_)
                subst e_10868
                refine jx_ine ?_
                exact jx_meet ⟨xs_19, o_10843, cap_10844, sp_10845, xs_19.length⟩ ⟨hr_10849, rfl, hs_10847, ho_10848⟩ (by kernel_rfl) [0, 1, 2, 3, 4] (by kernel_rfl) (by kernel_rfl)
            · rintro ⟨xs_17, o_10797, cap_10798, sp_10799, n_10800⟩ ⟨h, rfl, hs_10801, ho_10802⟩
              replace h : spec_l07For.k_18 i_14 xs_17 = some y_10727 := h
              rw [spec_l07For.k_18] at h
              refine jx_inn ?_
              refine jx_then ?_
              refine jc_region ?_
              refine jo_f [(0, 0), (0, 0), (0, 0)] (by kernel_rfl) ?_
              refine jo_end (by kernel_rfl) ?_
              exact jx_back (xs_17, (w64 (i_14 + 1))) ⟨o_10797, cap_10798, sp_10799, xs_17.length⟩ (Option.some.inj h).symm ⟨rfl, hs_10801, ho_10802⟩ [0, 1, 2, 3, 4] (by kernel_rfl) (by kernel_rfl) (by kernel_rfl)
          · replace h := ifF hc_10729 h
            refine jc_exit ?_
            refine jx_thenx ?_
            refine jx_leave xs_13 (Option.some.inj h).symm (fun e_10870 => ?_)
            subst e_10870
            refine jx_ine ?_
            exact jx_meet ⟨xs_13, o_10720, cap_10721, sp_10722, xs_13.length⟩ ⟨hr_10726, rfl, hs_10724, ho_10725⟩ (by kernel_rfl) [0, 1, 2, 3, 4] (by kernel_rfl) (by kernel_rfl)
        · rintro ⟨xs_11, o_10424, cap_10425, sp_10426, n_10427⟩ ⟨h, rfl, hs_10428, ho_10429⟩
          replace h : spec_l07For.k_12 i_6 xs_11 = some y_9973 := h
          rw [spec_l07For.k_12] at h
          refine jx_inn ?_
          refine jx_then ?_
          refine jc_region ?_
          refine jo_f [(0, 0), (0, 0), (0, 0)] (by kernel_rfl) ?_
          refine jo_end (by kernel_rfl) ?_
          exact jx_back (xs_11, (w64 (i_6 + 1))) ⟨o_10424, cap_10425, sp_10426, xs_11.length⟩ (Option.some.inj h).symm ⟨rfl, hs_10428, ho_10429⟩ [0, 1, 2, 3, 4] (by kernel_rfl) (by kernel_rfl) (by kernel_rfl)
    · replace h := ifF hc_9975 h
      refine jc_exit ?_
      refine jx_thenx ?_
      refine jx_leave xs_5 (Option.some.inj h).symm (fun e_10872 => ?_)
      subst e_10872
      refine jx_ine ?_
      exact jx_meet ⟨xs_5, o_9966, cap_9967, sp_9968, xs_5.length⟩ ⟨hr_9972, rfl, hs_9970, ho_9971⟩ (by kernel_rfl) [0, 1, 2, 3, 4] (by kernel_rfl) (by kernel_rfl)
  · rintro ⟨xs_3, o_8151, cap_8152, sp_8153, n_8154⟩ ⟨h, rfl, hs_8155, ho_8156⟩
    replace h : spec_l07For.k_4 xs_3 = some r := h
    rw [spec_l07For.k_4] at h
    refine jx_then ?_
    refine jc_seq ?_
    refine jc_region ?_
    refine jo_f [(0, 0), (0, 0)] (by kernel_rfl) ?_
    refine toO (by kernel_rfl) (p_a 0 [0] (by kernel_rfl) (fun b => by kernel_rfl) (fun b_8157 => jkO ?_))
    obtain ⟨hg_8158, h⟩ := gd h
    refine toO (by kernel_rfl) (p_apn 0 2 o_8151 83 xs_3.length 1 cap_8152 4 4 (some ⟨b_8157, 0, none⟩) encGChoice xs_3 [(⟨true, 0, 0, 0⟩ : GChoice)] sp_8153 (.agg #[(.bool false), (.int .i8 0), (.int .i8 0), (.int .i8 0)]) rfl rfl (by kernel_rfl) (by kernel_rfl) (by kernel_rfl) encGChoice_len encGChoice_cell hs_8155 ho_8156 (fun w hm => (hm.ownRow (hh := 5) (o := (some b_8157)) (T := 83) (enc := encGChoice) (xs := [(⟨true, 0, 0, 0⟩ : GChoice)]) (sp := []) (by kernel_rfl) (fun e => nomatch e) encGChoice_len)) hg_8158 (by kernel_rfl) (by kernel_rfl) (fun o_8159 cap_8160 sp_8161 hs_8162 ho_8163 => jkO ?_))
    refine jo_f [(0, 0)] (by kernel_rfl) ?_
    refine jo_end (by kernel_rfl) ?_
    refine jx_then ?_
    refine jc_ret ?_
    obtain rfl := Option.some.inj h
    exact jx_ret [] (.slice (o_8159.map fun b => ⟨b, 0, none⟩) ((xs_3 ++ [(⟨true, 0, 0, 0⟩ : GChoice)]).length) cap_8160) [] rfl (by kernel_rfl) (by kernel_rfl) (fun w hm => ⟨o_8159, cap_8160, sp_8161, ((xs_3 ++ [(⟨true, 0, 0, 0⟩ : GChoice)]).length), rfl, hs_8162, ho_8163, rfl, hm.pick [0, 2] (by kernel_rfl) (by kernel_rfl)⟩)

/-! ### spec.l07Cost -/
noncomputable def spec_l07Cost.k_4 (i_3 : Int) : Option (Int) := some i_3
noncomputable def spec_l07Cost.k_2 (c0 : GCosts) (x1 : GChoice) (i_1 : Int) : Option (Int) := (if (x1.fOctave != 0) = true then spec_l07Cost.k_4 (w64 ((w64 ((w64 c0.fStep) * i_1)) + (w64 c0.fOctave))) else spec_l07Cost.k_4 (w64 ((w64 c0.fStep) * i_1)))
noncomputable def spec_l07Cost (c0 : GCosts) (x1 : GChoice) : Option (Int) := (if x1.fAway = true then some (w64 c0.fAway) else (if (decide ((w64 x1.fLate) < 0)) = true then spec_l07Cost.k_2 c0 x1 (w64 (0 - (w64 x1.fLate))) else spec_l07Cost.k_2 c0 x1 (w64 x1.fLate)))
set_option maxRecDepth 100000 in
theorem spec_l07Cost.calls (c0 : GCosts) (x1 : GChoice) (w : World) (r : Int) (h : spec_l07Cost c0 x1 = some r) :
    Calls Try.prog 41 #[(.agg #[(.int .i16 c0.fAway), (.int .i16 c0.fOctave), (.int .i16 c0.fStep)]), (.agg #[(.bool x1.fAway), (.int .i8 x1.fLate), (.int .i8 x1.fOctave), (.int .i8 x1.fTrack)])] w fun e w' => ∃ v, e = .returned v ∧ (v = (.int .i64 r) ∧ Mem w [] [] w') := by
  rw [spec_l07Cost] at h
  refine enter (args := [(.agg #[(.int .i16 c0.fAway), (.int .i16 c0.fOctave), (.int .i16 c0.fStep)]), (.agg #[(.bool x1.fAway), (.int .i8 x1.fLate), (.int .i8 x1.fOctave), (.int .i8 x1.fTrack)])]) Try.func41 rfl Try.ntmps41 (by kernel_rfl) (L := []) (W := []) (Mem.start w) ?_
  refine jc_seq ?_
  refine jc_region ?_
  refine toO (by kernel_rfl) (p_a 0 [0] (by kernel_rfl) (fun b => by kernel_rfl) (fun b_1 => jkO ?_))
  refine toO (by kernel_rfl) (p_a 0 [0] (by kernel_rfl) (fun b => by kernel_rfl) (fun b_2 => jkO ?_))
  refine jo_f [(0, 0)] (by kernel_rfl) ?_
  refine jo_end (by kernel_rfl) ?_
  refine jx_then ?_
  refine jc_seq ?_
  refine jc_seq ?_
  refine jc_region ?_
  refine jo_f [(0, 0), (1, 0)] (by kernel_rfl) ?_
  refine jo_end (by kernel_rfl) ?_
  refine jx_then ?_
  refine jc_cond x1.fAway (by kernel_rfl) (fun hc_4 => ?_) (fun hc_4 => ?_)
  · replace h := ifT hc_4 h
    refine jc_seq ?_
    refine jc_region ?_
    refine jo_f [(0, 0), (0, 0), (0, 0), (0, 0)] (by kernel_rfl) ?_
    refine jo_end (by kernel_rfl) ?_
    refine jx_then ?_
    refine jc_ret ?_
    refine jx_thenr ?_
    obtain rfl := Option.some.inj h
    exact jx_ret [] (.int .i64 (w64 c0.fAway)) [] rfl (by kernel_rfl) (by kernel_rfl) (fun w hm => ⟨rfl, hm.pick [] (by kernel_rfl) (by kernel_rfl)⟩)
  · replace h := ifF hc_4 h
    refine jc_skip ?_
    refine jx_then ?_
    refine jc_seq ?_
    refine jc_region ?_
    refine jo_f [(0, 0), (1, 0), (0, 0), (0, 0)] (by kernel_rfl) ?_
    refine jo_end (by kernel_rfl) ?_
    refine jx_then ?_
    refine jc_seq ?_
    refine jc_meet (fun (j : Int) => match j with | i_1 => spec_l07Cost.k_2 c0 x1 i_1 = some r) (fun (j : Int) => match j with | i_1 => [(2, [], (.pointer (some ⟨b_1, 0, none⟩))), (3, [], (.pointer (some ⟨b_2, 0, none⟩))), (4, [], (.int .i64 0)), (5, [], (.int .i64 i_1))]) (fun (j : Int) => match j with | i_1 => [⟨some b_1, 40, [(.int .i16 c0.fAway), (.int .i16 c0.fOctave), (.int .i16 c0.fStep)]⟩, ⟨some b_2, 83, [(.bool x1.fAway), (.int .i8 x1.fLate), (.int .i8 x1.fOctave), (.int .i8 x1.fTrack)]⟩]) ?_ ?_
    · refine jc_seq ?_
      refine jc_region ?_
      refine jo_f [(0, 0), (0, 0)] (by kernel_rfl) ?_
      refine jo_end (by kernel_rfl) ?_
      refine jx_then ?_
      refine jc_cond (decide ((w64 x1.fLate) < 0)) (by kernel_rfl) (fun hc_8 => ?_) (fun hc_8 => ?_)
      · replace h := ifT hc_8 h
        refine jc_region ?_
        refine jo_f [(0, 0), (0, 0), (0, 0)] (by kernel_rfl) ?_
        refine jo_end (by kernel_rfl) ?_
        exact jx_meet (w64 (0 - (w64 x1.fLate))) h (by kernel_rfl) [0, 1] (by kernel_rfl) (by kernel_rfl)
      · replace h := ifF hc_8 h
        refine jc_skip ?_
        exact jx_meet (w64 x1.fLate) h (by kernel_rfl) [0, 1] (by kernel_rfl) (by kernel_rfl)
    · rintro i_1 h
      replace h : spec_l07Cost.k_2 c0 x1 i_1 = some r := h
      rw [spec_l07Cost.k_2] at h
      refine jx_then ?_
      refine jc_seq ?_
      refine jc_region ?_
      refine jo_f [(0, 0), (0, 0), (0, 0), (0, 0), (0, 0), (0, 0)] (by kernel_rfl) ?_
      refine jo_end (by kernel_rfl) ?_
      refine jx_then ?_
      refine jc_seq ?_
      refine jc_meet (fun (j : Int) => match j with | i_3 => spec_l07Cost.k_4 i_3 = some r) (fun (j : Int) => match j with | i_3 => [(4, [], (.int .i64 0)), (6, [], (.int .i64 i_3))]) (fun (j : Int) => match j with | i_3 => [⟨some b_1, 40, [(.int .i16 c0.fAway), (.int .i16 c0.fOctave), (.int .i16 c0.fStep)]⟩, ⟨some b_2, 83, [(.bool x1.fAway), (.int .i8 x1.fLate), (.int .i8 x1.fOctave), (.int .i8 x1.fTrack)]⟩]) ?_ ?_
      · refine jc_seq ?_
        refine jc_region ?_
        refine jo_f [(0, 0), (1, 0), (0, 0)] (by kernel_rfl) ?_
        refine jo_end (by kernel_rfl) ?_
        refine jx_then ?_
        refine jc_cond (x1.fOctave != 0) (by kernel_rfl) (fun hc_7 => ?_) (fun hc_7 => ?_)
        · replace h := ifT hc_7 h
          refine jc_region ?_
          refine jo_f [(0, 0), (0, 0), (0, 0), (0, 0), (0, 0), (0, 0)] (by kernel_rfl) ?_
          refine jo_end (by kernel_rfl) ?_
          exact jx_meet (w64 ((w64 ((w64 c0.fStep) * i_1)) + (w64 c0.fOctave))) h (by kernel_rfl) [0, 1] (by kernel_rfl) (by kernel_rfl)
        · replace h := ifF hc_7 h
          refine jc_skip ?_
          exact jx_meet (w64 ((w64 c0.fStep) * i_1)) h (by kernel_rfl) [0, 1] (by kernel_rfl) (by kernel_rfl)
      · rintro i_3 h
        replace h : spec_l07Cost.k_4 i_3 = some r := h
        rw [spec_l07Cost.k_4] at h
        refine jx_then ?_
        refine jc_seq ?_
        refine jc_region ?_
        refine jo_f [(0, 0), (0, 0)] (by kernel_rfl) ?_
        refine jo_end (by kernel_rfl) ?_
        refine jx_then ?_
        refine jc_ret ?_
        obtain rfl := Option.some.inj h
        exact jx_ret [] (.int .i64 i_3) [] rfl (by kernel_rfl) (by kernel_rfl) (fun w hm => ⟨rfl, hm.pick [] (by kernel_rfl) (by kernel_rfl)⟩)

/-! ### spec.l07Least -/
noncomputable def spec_l07Least.k_5 (i_4 : Int) : Option (Int) := some i_4
noncomputable def spec_l07Least.l_8 (c2 : GCosts) (t_1 : (List GChoice)) : (Int × Int) → Option ((Int × Int) ⊕ (Int))
  | (i_6, i_7) => (if (decide (i_7 < (t_1.length : Int))) = true then (ix t_1 i_7).bind fun x_10 => (spec_l07Cost c2 x_10).bind fun t_11 => (spec_l00Min i_6 t_11).bind fun t_12 => some (.inl (t_12, (w64 (i_7 + 1)))) else some (.inr i_6))
noncomputable def spec_l07Least (f0 : GFrame) (n1 : GNote) (c2 : GCosts) : Option (Int) := (spec_l07For f0 n1).bind fun t_1 => (ix t_1 0).bind fun x_2 => (spec_l07Cost c2 x_2).bind fun t_3 => (loop (spec_l07Least.l_8 c2 t_1) (t_3, 1)).bind fun t_9 => spec_l07Least.k_5 t_9
set_option maxRecDepth 100000 in
theorem spec_l07Least.calls (f0 : GFrame) (n1 : GNote) (c2 : GCosts) (w : World) (r : Int) (f0_fHammers_a : Option Addr) (f0_fHammers_an : Nat) (f0_fHammers_c : Nat) (f0_fHammers_h : Rw w f0_fHammers_a 2 encGHammer f0.fHammers) (f0_fHammers_hn : f0.fHammers.length = f0_fHammers_an) (f0_b : Nat) (hm0 : Mem w (bs [some f0_b]) [⟨some f0_b, 35, [(.int .i16 f0.fSteps), (.slice f0_fHammers_a f0_fHammers_an f0_fHammers_c)]⟩] w) (f0_fHammers_ha : f0.fHammers ≠ [] → aB f0_fHammers_a ∉ bs [some f0_b]) (h : spec_l07Least f0 n1 c2 = some r) :
    Calls Try.prog 30 #[(.pointer (some ⟨f0_b, 0, none⟩)), (.agg #[(.int .i16 n1.fAt), (.int .i8 n1.fPitch)]), (.agg #[(.int .i16 c2.fAway), (.int .i16 c2.fOctave), (.int .i16 c2.fStep)])] w fun e w' => ∃ v, e = .returned v ∧ (v = (.int .i64 r) ∧ Mem w (bs [some f0_b]) [⟨some f0_b, 35, [(.int .i16 f0.fSteps), (.slice f0_fHammers_a f0_fHammers_an f0_fHammers_c)]⟩] w') := by
  subst f0_fHammers_hn
  rw [spec_l07Least] at h
  refine enter (args := [(.pointer (some ⟨f0_b, 0, none⟩)), (.agg #[(.int .i16 n1.fAt), (.int .i8 n1.fPitch)]), (.agg #[(.int .i16 c2.fAway), (.int .i16 c2.fOctave), (.int .i16 c2.fStep)])]) Try.func30 rfl Try.ntmps30 (by kernel_rfl) (L := [⟨some f0_b, 35, [(.int .i16 f0.fSteps), (.slice f0_fHammers_a f0.fHammers.length f0_fHammers_c)]⟩]) (W := bs [some f0_b]) hm0 ?_
  refine jc_seq ?_
  refine jc_region ?_
  refine toO (by kernel_rfl) (p_a 0 [0] (by kernel_rfl) (fun b => by kernel_rfl) (fun b_1 => jkO ?_))
  refine toO (by kernel_rfl) (p_a 0 [0] (by kernel_rfl) (fun b => by kernel_rfl) (fun b_2 => jkO ?_))
  refine jo_f [(0, 0)] (by kernel_rfl) ?_
  refine jo_end (by kernel_rfl) ?_
  refine jx_then ?_
  refine jc_seq ?_
  refine jc_region ?_
  refine jo_f [(0, 0), (1, 0)] (by kernel_rfl) ?_
  obtain ⟨t_1, ht_3, h⟩ := bd h
  refine toO (by kernel_rfl) (p_call 0 40 #[(.pointer (some ⟨f0_b, 0, none⟩)), (.agg #[(.int .i16 n1.fAt), (.int .i8 n1.fPitch)])] (by kernel_rfl) (by kernel_rfl) (fun w hm => spec_l07For.calls f0 n1 w _ f0_fHammers_a f0.fHammers.length f0_fHammers_c (hm.exRowW f0_fHammers_h f0_fHammers_ha) rfl f0_b (hm.pass (N := [⟨some f0_b, 35, [(.int .i16 f0.fSteps), (.slice f0_fHammers_a f0.fHammers.length f0_fHammers_c)]⟩]) [0] (by kernel_rfl) (by kernel_rfl)) (hm.exApart (N := [⟨some f0_b, 35, [(.int .i16 f0.fSteps), (.slice f0_fHammers_a f0.fHammers.length f0_fHammers_c)]⟩]) f0_fHammers_h f0_fHammers_ha [0] (by kernel_rfl)) ht_3) ?_)
  rintro w v w' hm ⟨o_4, cap_5, sp_6, _, rfl, hs_7, ho_8, rfl, hm'⟩
  refine ⟨_, hm.appW (ps := [(0, ⟨some f0_b, 35, [(.int .i16 f0.fSteps), (.slice f0_fHammers_a f0.fHammers.length f0_fHammers_c)]⟩)]) (N := [⟨o_4, 83, row encGChoice t_1 sp_6⟩]) hm' (by kernel_rfl) (by kernel_rfl), jkO ?_⟩
  clear hm hm'
  refine jo_f [(0, 0)] (by kernel_rfl) ?_
  refine jo_end (by kernel_rfl) ?_
  refine jx_then ?_
  refine jc_seq ?_
  refine jc_draw [⟨some f0_b, 35, [(.int .i16 f0.fSteps), (.slice f0_fHammers_a f0.fHammers.length f0_fHammers_c)]⟩, ⟨some b_1, 53, [(.int .i16 n1.fAt), (.int .i8 n1.fPitch)]⟩, ⟨some b_2, 40, [(.int .i16 c2.fAway), (.int .i16 c2.fOctave), (.int .i16 c2.fStep)]⟩, ⟨o_4, 83, row encGChoice t_1 sp_6⟩] 6 (by kernel_rfl) (by kernel_rfl) ?_
  refine jd_f [⟨0, 2, 0⟩, ⟨1, 0, 0⟩] 4 (by kernel_rfl) (by kernel_rfl) (fun w h => h.pick [0, 1, 2, 3] (by kernel_rfl) (by kernel_rfl)) (by kernel_rfl) (by kernel_rfl) ?_
  obtain ⟨x_2, hx_9, h⟩ := bd h
  refine jd_v 2 0 (by kernel_rfl) (fun w h => h.pick [0, 1, 2, 3] (by kernel_rfl) (by kernel_rfl)) (by kernel_rfl) (by kernel_rfl) _ (fun w hm => idx_run (a := (o_4.map fun b => ⟨b, 0, none⟩)) (len := t_1.length) (s := 4) (j := 0) (by kernel_rfl) (ix_some hx_9).1 (ltn hx_9 rfl) (spo ho_8 hx_9)) ?_
  refine jd_v 3 0 (by kernel_rfl) (fun w h => h.pick [0, 1, 2, 3] (by kernel_rfl) (by kernel_rfl)) (by kernel_rfl) (by kernel_rfl) _ (fun w hm => ld_run (b := aB (o_4.map fun b => ⟨b, 0, none⟩)) (off := (aO (o_4.map fun b => ⟨b, 0, none⟩) + (0 : Int).toNat * 4)) (s := 4) (agg := true) (vs := (encGChoice x_2)) (by kernel_rfl) (by kernel_rfl) (.inl rfl) ((hm.ownRow (hh := 3) (o := o_4) (T := 83) (enc := encGChoice) (xs := t_1) (sp := sp_6) (by kernel_rfl) (fun e => (ho_8 e).1) encGChoice_len).at hx_9)) ?_
  obtain ⟨t_3, ht_10, h⟩ := bd h
  refine toD 4 (by kernel_rfl) (p_call 0 41 #[(.agg #[(.int .i16 c2.fAway), (.int .i16 c2.fOctave), (.int .i16 c2.fStep)]), (.agg #[(.bool x_2.fAway), (.int .i8 x_2.fLate), (.int .i8 x_2.fOctave), (.int .i8 x_2.fTrack)])] (by kernel_rfl) (by kernel_rfl) (fun w hm => spec_l07Cost.calls c2 x_2 w _ ht_10) ?_)
  rintro w v w' hm ⟨rfl, hm'⟩
  refine ⟨_, hm.app hm', jkD (fun w h => h.pick [0, 1, 2, 3] (by kernel_rfl) (by kernel_rfl)) ?_⟩
  clear hm hm'
  refine jd_f [⟨5, 0, 0⟩] 0 (by kernel_rfl) (by kernel_rfl) (fun w h => h.pick [0, 1, 2, 3] (by kernel_rfl) (by kernel_rfl)) (by kernel_rfl) (by kernel_rfl) ?_
  refine jd_end (by kernel_rfl) ?_
  refine jx_then ?_
  refine jc_seq ?_
  refine jc_seq ?_
  refine jc_region ?_
  refine jo_f [(0, 0)] (by kernel_rfl) ?_
  refine jo_end (by kernel_rfl) ?_
  refine jx_then ?_
  refine jc_meet (fun (j : Int) => match j with | i_4 => spec_l07Least.k_5 i_4 = some r) (fun (j : Int) => match j with | i_4 => [(6, [], (.int .i64 0)), (8, [], (.int .i64 i_4))]) (fun (j : Int) => match j with | i_4 => [⟨some f0_b, 35, [(.int .i16 f0.fSteps), (.slice f0_fHammers_a f0.fHammers.length f0_fHammers_c)]⟩, ⟨some b_1, 53, [(.int .i16 n1.fAt), (.int .i8 n1.fPitch)]⟩, ⟨some b_2, 40, [(.int .i16 c2.fAway), (.int .i16 c2.fOctave), (.int .i16 c2.fStep)]⟩, ⟨o_4, 83, row encGChoice t_1 sp_6⟩]) ?_ ?_
  · refine jc_block ?_
    obtain ⟨t_9, ht_86, hr_78⟩ := bd h
    refine jc_loop (fun (s : Int × Int) (x : Unit) => match s, x with | ⟨i_6, i_7⟩, _ => True) (fun (s : Int × Int) (x : Unit) => match s, x with | ⟨i_6, i_7⟩, _ => [(5, [], (.pointer (some ⟨b_2, 0, none⟩))), (6, [], (.int .i64 0)), (7, [], (.slice (o_4.map fun b => ⟨b, 0, none⟩) t_1.length cap_5)), (8, [], (.int .i64 i_6)), (9, [], (.int .i64 i_7))]) (fun (s : Int × Int) (x : Unit) => match s, x with | ⟨i_6, i_7⟩, _ => [⟨some f0_b, 35, [(.int .i16 f0.fSteps), (.slice f0_fHammers_a f0.fHammers.length f0_fHammers_c)]⟩, ⟨some b_1, 53, [(.int .i16 n1.fAt), (.int .i8 n1.fPitch)]⟩, ⟨some b_2, 40, [(.int .i16 c2.fAway), (.int .i16 c2.fOctave), (.int .i16 c2.fStep)]⟩, ⟨o_4, 83, row encGChoice t_1 sp_6⟩]) ht_86 () trivial (by kernel_rfl) [0, 1, 2, 3] (by kernel_rfl) (by kernel_rfl) ?_
    rintro ⟨i_6, i_7⟩ _ y_79 _ h
    rw [spec_l07Least.l_8] at h
    refine jc_seq ?_
    refine jc_seq ?_
    refine jc_region ?_
    refine jo_f [(0, 0), (0, 0), (0, 0), (0, 0)] (by kernel_rfl) ?_
    refine jo_end (by kernel_rfl) ?_
    refine jx_then ?_
    refine jc_cond (decide (i_7 < (t_1.length : Int))) (by kernel_rfl) (fun hc_81 => ?_) (fun hc_81 => ?_)
    · replace h := ifT hc_81 h
      refine jc_skip ?_
      refine jx_then ?_
      refine jc_seq ?_
      refine jc_block ?_
      refine jc_draw [⟨some f0_b, 35, [(.int .i16 f0.fSteps), (.slice f0_fHammers_a f0.fHammers.length f0_fHammers_c)]⟩, ⟨some b_1, 53, [(.int .i16 n1.fAt), (.int .i8 n1.fPitch)]⟩, ⟨some b_2, 40, [(.int .i16 c2.fAway), (.int .i16 c2.fOctave), (.int .i16 c2.fStep)]⟩, ⟨o_4, 83, row encGChoice t_1 sp_6⟩] 9 (by kernel_rfl) (by kernel_rfl) ?_
      refine jd_f [⟨0, 0, 0⟩, ⟨1, 2, 0⟩, ⟨2, 0, 0⟩, ⟨3, 0, 0⟩] 5 (by kernel_rfl) (by kernel_rfl) (fun w h => h.pick [0, 1, 2, 3] (by kernel_rfl) (by kernel_rfl)) (by kernel_rfl) (by kernel_rfl) ?_
      obtain ⟨x_10, hx_82, h⟩ := bd h
      refine jd_v 4 0 (by kernel_rfl) (fun w h => h.pick [0, 1, 2, 3] (by kernel_rfl) (by kernel_rfl)) (by kernel_rfl) (by kernel_rfl) _ (fun w hm => idx_run (a := (o_4.map fun b => ⟨b, 0, none⟩)) (len := t_1.length) (s := 4) (j := i_7) (by kernel_rfl) (ix_some hx_82).1 (ltn hx_82 rfl) (spo ho_8 hx_82)) ?_
      refine jd_v 5 0 (by kernel_rfl) (fun w h => h.pick [0, 1, 2, 3] (by kernel_rfl) (by kernel_rfl)) (by kernel_rfl) (by kernel_rfl) _ (fun w hm => ld_run (b := aB (o_4.map fun b => ⟨b, 0, none⟩)) (off := (aO (o_4.map fun b => ⟨b, 0, none⟩) + i_7.toNat * 4)) (s := 4) (agg := true) (vs := (encGChoice x_10)) (by kernel_rfl) (by kernel_rfl) (.inl rfl) ((hm.ownRow (hh := 3) (o := o_4) (T := 83) (enc := encGChoice) (xs := t_1) (sp := sp_6) (by kernel_rfl) (fun e => (ho_8 e).1) encGChoice_len).at hx_82)) ?_
      obtain ⟨t_11, ht_83, h⟩ := bd h
      refine toD 6 (by kernel_rfl) (p_call 0 41 #[(.agg #[(.int .i16 c2.fAway), (.int .i16 c2.fOctave), (.int .i16 c2.fStep)]), (.agg #[(.bool x_10.fAway), (.int .i8 x_10.fLate), (.int .i8 x_10.fOctave), (.int .i8 x_10.fTrack)])] (by kernel_rfl) (by kernel_rfl) (fun w hm => spec_l07Cost.calls c2 x_10 w _ ht_83) ?_)
      rintro w v w' hm ⟨rfl, hm'⟩
      refine ⟨_, hm.app hm', jkD (fun w h => h.pick [0, 1, 2, 3] (by kernel_rfl) (by kernel_rfl)) ?_⟩
      clear hm hm'
      obtain ⟨t_12, ht_84, h⟩ := bd h
      refine toD 7 (by kernel_rfl) (p_call 0 37 #[(.int .i64 i_6), (.int .i64 t_11)] (by kernel_rfl) (by kernel_rfl) (fun w hm => spec_l00Min.calls i_6 t_11 w _ ht_84) ?_)
      rintro w v w' hm ⟨rfl, hm'⟩
      refine ⟨_, hm.app hm', jkD (fun w h => h.pick [0, 1, 2, 3] (by kernel_rfl) (by kernel_rfl)) ?_⟩
      clear hm hm'
      refine jd_f [⟨8, 0, 0⟩] 0 (by kernel_rfl) (by kernel_rfl) (fun w h => h.pick [0, 1, 2, 3] (by kernel_rfl) (by kernel_rfl)) (by kernel_rfl) (by kernel_rfl) ?_
      refine jd_end (by kernel_rfl) ?_
      refine jx_inn ?_
      refine jx_then ?_
      refine jc_region ?_
      refine jo_f [(0, 0), (0, 0), (0, 0)] (by kernel_rfl) ?_
      refine jo_end (by kernel_rfl) ?_
      exact jx_back (t_12, (w64 (i_7 + 1))) () (Option.some.inj h).symm trivial [0, 1, 2, 3] (by kernel_rfl) (by kernel_rfl) (by kernel_rfl)
    · replace h := ifF hc_81 h
      refine jc_exit ?_
      refine jx_thenx ?_
      refine jx_leave i_6 (Option.some.inj h).symm (fun e_85 => ?_)
      subst e_85
      refine jx_ine ?_
      exact jx_meet i_6 hr_78 (by kernel_rfl) [0, 1, 2, 3] (by kernel_rfl) (by kernel_rfl)
  · rintro i_4 h
    replace h : spec_l07Least.k_5 i_4 = some r := h
    rw [spec_l07Least.k_5] at h
    refine jx_then ?_
    refine jc_seq ?_
    refine jc_region ?_
    refine jo_f [(0, 0), (0, 0)] (by kernel_rfl) ?_
    refine jo_end (by kernel_rfl) ?_
    refine jx_then ?_
    refine jc_ret ?_
    obtain rfl := Option.some.inj h
    exact jx_ret [] (.int .i64 i_4) [] rfl (by kernel_rfl) (by kernel_rfl) (fun w hm => ⟨rfl, hm.pick [0] (by kernel_rfl) (by kernel_rfl)⟩)

/-! ### spec.l07Bound -/
noncomputable def spec_l07Bound.k_2 (i_1 : Int) : Option (Int) := some i_1
noncomputable def spec_l07Bound.l_5 (f0 : GFrame) (t1 : List GNote) (c2 : GCosts) : (Int × Int) → Option ((Int × Int) ⊕ (Int))
  | (i_3, i_4) => (if (decide (i_4 < (t1.length : Int))) = true then (ix t1 i_4).bind fun x_7 => (spec_l07Least f0 x_7 c2).bind fun t_8 => some (.inl ((w64 (i_3 + t_8)), (w64 (i_4 + 1)))) else some (.inr i_3))
noncomputable def spec_l07Bound (f0 : GFrame) (t1 : List GNote) (c2 : GCosts) (from3 : Int) : Option (Int) := (loop (spec_l07Bound.l_5 f0 t1 c2) (0, from3)).bind fun t_6 => spec_l07Bound.k_2 t_6
set_option maxRecDepth 100000 in
theorem spec_l07Bound.calls (f0 : GFrame) (t1 : List GNote) (c2 : GCosts) (from3 : Int) (w : World) (r : Int) (f0_fHammers_a : Option Addr) (f0_fHammers_an : Nat) (f0_fHammers_c : Nat) (f0_fHammers_h : Rw w f0_fHammers_a 2 encGHammer f0.fHammers) (f0_fHammers_hn : f0.fHammers.length = f0_fHammers_an) (t1_a : Option Addr) (t1_an : Nat) (t1_c : Nat) (t1_h : Rw w t1_a 2 encGNote t1) (t1_hn : t1.length = t1_an) (f0_b : Nat) (hm0 : Mem w (bs [some f0_b]) [⟨some f0_b, 35, [(.int .i16 f0.fSteps), (.slice f0_fHammers_a f0_fHammers_an f0_fHammers_c)]⟩] w) (f0_fHammers_ha : f0.fHammers ≠ [] → aB f0_fHammers_a ∉ bs [some f0_b]) (t1_ha : t1 ≠ [] → aB t1_a ∉ bs [some f0_b]) (h : spec_l07Bound f0 t1 c2 from3 = some r) :
    Calls Try.prog 16 #[(.pointer (some ⟨f0_b, 0, none⟩)), (.slice t1_a t1_an t1_c), (.agg #[(.int .i16 c2.fAway), (.int .i16 c2.fOctave), (.int .i16 c2.fStep)]), (.int .i64 from3)] w fun e w' => ∃ v, e = .returned v ∧ (v = (.int .i64 r) ∧ Mem w (bs [some f0_b]) [⟨some f0_b, 35, [(.int .i16 f0.fSteps), (.slice f0_fHammers_a f0_fHammers_an f0_fHammers_c)]⟩] w') := by
  subst f0_fHammers_hn t1_hn
  rw [spec_l07Bound] at h
  refine enter (args := [(.pointer (some ⟨f0_b, 0, none⟩)), (.slice t1_a t1.length t1_c), (.agg #[(.int .i16 c2.fAway), (.int .i16 c2.fOctave), (.int .i16 c2.fStep)]), (.int .i64 from3)]) Try.func16 rfl Try.ntmps16 (by kernel_rfl) (L := [⟨some f0_b, 35, [(.int .i16 f0.fSteps), (.slice f0_fHammers_a f0.fHammers.length f0_fHammers_c)]⟩]) (W := bs [some f0_b]) hm0 ?_
  refine jc_seq ?_
  refine jc_region ?_
  refine toO (by kernel_rfl) (p_a 0 [0] (by kernel_rfl) (fun b => by kernel_rfl) (fun b_1 => jkO ?_))
  refine jo_f [(0, 0)] (by kernel_rfl) ?_
  refine jo_end (by kernel_rfl) ?_
  refine jx_then ?_
  refine jc_seq ?_
  refine jc_region ?_
  refine jo_f [(0, 0)] (by kernel_rfl) ?_
  refine jo_end (by kernel_rfl) ?_
  refine jx_then ?_
  refine jc_seq ?_
  refine jc_seq ?_
  refine jc_region ?_
  refine jo_f [(0, 0), (0, 0)] (by kernel_rfl) ?_
  refine jo_end (by kernel_rfl) ?_
  refine jx_then ?_
  refine jc_meet (fun (j : Int) => match j with | i_1 => spec_l07Bound.k_2 i_1 = some r) (fun (j : Int) => match j with | i_1 => [(8, [], (.int .i64 0)), (9, [], (.int .i64 i_1))]) (fun (j : Int) => match j with | i_1 => [⟨some f0_b, 35, [(.int .i16 f0.fSteps), (.slice f0_fHammers_a f0.fHammers.length f0_fHammers_c)]⟩, ⟨some b_1, 40, [(.int .i16 c2.fAway), (.int .i16 c2.fOctave), (.int .i16 c2.fStep)]⟩]) ?_ ?_
  · refine jc_block ?_
    obtain ⟨t_6, ht_65, hr_58⟩ := bd h
    refine jc_loop (fun (s : Int × Int) (x : Unit) => match s, x with | ⟨i_3, i_4⟩, _ => True) (fun (s : Int × Int) (x : Unit) => match s, x with | ⟨i_3, i_4⟩, _ => [(0, [], (.pointer (some ⟨f0_b, 0, none⟩))), (1, [], (.slice t1_a t1.length t1_c)), (6, [], (.pointer (some ⟨b_1, 0, none⟩))), (8, [], (.int .i64 0)), (9, [], (.int .i64 i_3)), (10, [], (.int .i64 i_4))]) (fun (s : Int × Int) (x : Unit) => match s, x with | ⟨i_3, i_4⟩, _ => [⟨some f0_b, 35, [(.int .i16 f0.fSteps), (.slice f0_fHammers_a f0.fHammers.length f0_fHammers_c)]⟩, ⟨some b_1, 40, [(.int .i16 c2.fAway), (.int .i16 c2.fOctave), (.int .i16 c2.fStep)]⟩]) ht_65 () trivial (by kernel_rfl) [0, 1] (by kernel_rfl) (by kernel_rfl) ?_
    rintro ⟨i_3, i_4⟩ _ y_59 _ h
    rw [spec_l07Bound.l_5] at h
    refine jc_seq ?_
    refine jc_seq ?_
    refine jc_region ?_
    refine jo_f [(0, 0), (0, 0), (0, 0), (0, 0)] (by kernel_rfl) ?_
    refine jo_end (by kernel_rfl) ?_
    refine jx_then ?_
    refine jc_cond (decide (i_4 < (t1.length : Int))) (by kernel_rfl) (fun hc_61 => ?_) (fun hc_61 => ?_)
    · replace h := ifT hc_61 h
      refine jc_skip ?_
      refine jx_then ?_
      refine jc_seq ?_
      refine jc_block ?_
      refine jc_draw [⟨some f0_b, 35, [(.int .i16 f0.fSteps), (.slice f0_fHammers_a f0.fHammers.length f0_fHammers_c)]⟩, ⟨some b_1, 40, [(.int .i16 c2.fAway), (.int .i16 c2.fOctave), (.int .i16 c2.fStep)]⟩] 10 (by kernel_rfl) (by kernel_rfl) ?_
      refine jd_f [⟨0, 0, 0⟩, ⟨1, 0, 0⟩, ⟨2, 0, 0⟩, ⟨3, 0, 0⟩, ⟨6, 1, 0⟩] 5 (by kernel_rfl) (by kernel_rfl) (fun w h => h.pick [0, 1] (by kernel_rfl) (by kernel_rfl)) (by kernel_rfl) (by kernel_rfl) ?_
      obtain ⟨x_7, hx_62, h⟩ := bd h
      refine jd_v 4 0 (by kernel_rfl) (fun w h => h.pick [0, 1] (by kernel_rfl) (by kernel_rfl)) (by kernel_rfl) (by kernel_rfl) _ (fun w hm => idx_run (a := t1_a) (len := t1.length) (s := 2) (j := i_4) (by kernel_rfl) (ix_some hx_62).1 (ltn hx_62 rfl) (t1_h.sp hx_62)) ?_
      refine jd_v 5 0 (by kernel_rfl) (fun w h => h.pick [0, 1] (by kernel_rfl) (by kernel_rfl)) (by kernel_rfl) (by kernel_rfl) _ (fun w hm => ld_run (b := aB t1_a) (off := (aO t1_a + i_4.toNat * 2)) (s := 2) (agg := true) (vs := (encGNote x_7)) (by kernel_rfl) (by kernel_rfl) (.inl rfl) ((hm.exRowW t1_h t1_ha).at hx_62)) ?_
      obtain ⟨t_8, ht_63, h⟩ := bd h
      refine toD 7 (by kernel_rfl) (p_call 0 30 #[(.pointer (some ⟨f0_b, 0, none⟩)), (.agg #[(.int .i16 x_7.fAt), (.int .i8 x_7.fPitch)]), (.agg #[(.int .i16 c2.fAway), (.int .i16 c2.fOctave), (.int .i16 c2.fStep)])] (by kernel_rfl) (by kernel_rfl) (fun w hm => spec_l07Least.calls f0 x_7 c2 w _ f0_fHammers_a f0.fHammers.length f0_fHammers_c (hm.exRowW f0_fHammers_h f0_fHammers_ha) rfl f0_b (hm.pass (N := [⟨some f0_b, 35, [(.int .i16 f0.fSteps), (.slice f0_fHammers_a f0.fHammers.length f0_fHammers_c)]⟩]) [0] (by kernel_rfl) (by kernel_rfl)) (hm.exApart (N := [⟨some f0_b, 35, [(.int .i16 f0.fSteps), (.slice f0_fHammers_a f0.fHammers.length f0_fHammers_c)]⟩]) f0_fHammers_h f0_fHammers_ha [0] (by kernel_rfl)) ht_63) ?_)
      rintro w v w' hm ⟨rfl, hm'⟩
      refine ⟨_, hm.appW (ps := [(0, ⟨some f0_b, 35, [(.int .i16 f0.fSteps), (.slice f0_fHammers_a f0.fHammers.length f0_fHammers_c)]⟩)]) (N := []) hm' (by kernel_rfl) (by kernel_rfl), jkD (fun w h => h.pick [0, 1] (by kernel_rfl) (by kernel_rfl)) ?_⟩
      clear hm hm'
      refine jd_f [⟨8, 0, 0⟩, ⟨9, 0, 0⟩] 0 (by kernel_rfl) (by kernel_rfl) (fun w h => h.pick [0, 1] (by kernel_rfl) (by kernel_rfl)) (by kernel_rfl) (by kernel_rfl) ?_
      refine jd_end (by kernel_rfl) ?_
      refine jx_inn ?_
      refine jx_then ?_
      refine jc_region ?_
      refine jo_f [(0, 0), (0, 0), (0, 0)] (by kernel_rfl) ?_
      refine jo_end (by kernel_rfl) ?_
      exact jx_back ((w64 (i_3 + t_8)), (w64 (i_4 + 1))) () (Option.some.inj h).symm trivial [0, 1] (by kernel_rfl) (by kernel_rfl) (by kernel_rfl)
    · replace h := ifF hc_61 h
      refine jc_exit ?_
      refine jx_thenx ?_
      refine jx_leave i_3 (Option.some.inj h).symm (fun e_64 => ?_)
      subst e_64
      refine jx_ine ?_
      exact jx_meet i_3 hr_58 (by kernel_rfl) [0, 1] (by kernel_rfl) (by kernel_rfl)
  · rintro i_1 h
    replace h : spec_l07Bound.k_2 i_1 = some r := h
    rw [spec_l07Bound.k_2] at h
    refine jx_then ?_
    refine jc_seq ?_
    refine jc_region ?_
    refine jo_f [(0, 0), (0, 0)] (by kernel_rfl) ?_
    refine jo_end (by kernel_rfl) ?_
    refine jx_then ?_
    refine jc_ret ?_
    obtain rfl := Option.some.inj h
    exact jx_ret [] (.int .i64 i_1) [] rfl (by kernel_rfl) (by kernel_rfl) (fun w hm => ⟨rfl, hm.pick [0] (by kernel_rfl) (by kernel_rfl)⟩)

/-! ### spec.BoundFrom -/
noncomputable def spec_BoundFrom (f0 : GFrame) (t1 : List GNote) (c2 : GCosts) (from3 : Int) : Option (Int × Int) := (spec_l07Given f0 t1 c2).bind fun t_1 => (if (t_1 != 0) = true then some (0, t_1) else (spec_l00In from3 0 (t1.length : Int)).bind fun t_2 => (if (!t_2) = true then some (0, 2) else (spec_l07Bound f0 t1 c2 from3).bind fun t_3 => some (t_3, 0)))
set_option maxRecDepth 100000 in
theorem spec_BoundFrom.calls (f0 : GFrame) (t1 : List GNote) (c2 : GCosts) (from3 : Int) (w : World) (r : Int × Int) (f0_fHammers_a : Option Addr) (f0_fHammers_an : Nat) (f0_fHammers_c : Nat) (f0_fHammers_h : Rw w f0_fHammers_a 2 encGHammer f0.fHammers) (f0_fHammers_hn : f0.fHammers.length = f0_fHammers_an) (t1_a : Option Addr) (t1_an : Nat) (t1_c : Nat) (t1_h : Rw w t1_a 2 encGNote t1) (t1_hn : t1.length = t1_an) (h : spec_BoundFrom f0 t1 c2 from3 = some r) :
    Calls Try.prog 6 #[(.agg #[(.int .i16 f0.fSteps), (.slice f0_fHammers_a f0_fHammers_an f0_fHammers_c)]), (.slice t1_a t1_an t1_c), (.agg #[(.int .i16 c2.fAway), (.int .i16 c2.fOctave), (.int .i16 c2.fStep)]), (.int .i64 from3)] w fun e w' => ∃ v, e = .returned v ∧ (v = .tuple #[(.int .i64 r.1), (.int .i64 r.2)] ∧ Mem w [] [] w') := by
  subst f0_fHammers_hn t1_hn
  rw [spec_BoundFrom] at h
  refine enter (args := [(.agg #[(.int .i16 f0.fSteps), (.slice f0_fHammers_a f0.fHammers.length f0_fHammers_c)]), (.slice t1_a t1.length t1_c), (.agg #[(.int .i16 c2.fAway), (.int .i16 c2.fOctave), (.int .i16 c2.fStep)]), (.int .i64 from3)]) Try.func6 rfl Try.ntmps6 (by kernel_rfl) (L := []) (W := []) (Mem.start w) ?_
  refine jc_seq ?_
  refine jc_region ?_
  refine toO (by kernel_rfl) (p_a 0 [0] (by kernel_rfl) (fun b => by kernel_rfl) (fun b_1 => jkO ?_))
  refine toO (by kernel_rfl) (p_a 0 [0] (by kernel_rfl) (fun b => by kernel_rfl) (fun b_2 => jkO ?_))
  refine jo_f [(0, 0), (0, 0)] (by kernel_rfl) ?_
  refine jo_end (by kernel_rfl) ?_
  refine jx_then ?_
  refine jc_seq ?_
  refine jc_seq ?_
  refine jc_region ?_
  refine jo_f [(0, 0), (1, 0)] (by kernel_rfl) ?_
  obtain ⟨t_1, ht_5, h⟩ := bd h
  refine toO (by kernel_rfl) (p_call 0 14 #[(.pointer (some ⟨b_1, 0, none⟩)), (.slice t1_a t1.length t1_c), (.agg #[(.int .i16 c2.fAway), (.int .i16 c2.fOctave), (.int .i16 c2.fStep)])] (by kernel_rfl) (by kernel_rfl) (fun w hm => spec_l07Given.calls f0 t1 c2 w _ f0_fHammers_a f0.fHammers.length f0_fHammers_c (hm.exRow f0_fHammers_h List.not_mem_nil) rfl t1_a t1.length t1_c (hm.exRow t1_h List.not_mem_nil) rfl b_1 (hm.pass (N := [⟨some b_1, 35, [(.int .i16 f0.fSteps), (.slice f0_fHammers_a f0.fHammers.length f0_fHammers_c)]⟩]) [0] (by kernel_rfl) (by kernel_rfl)) (hm.exApart (N := [⟨some b_1, 35, [(.int .i16 f0.fSteps), (.slice f0_fHammers_a f0.fHammers.length f0_fHammers_c)]⟩]) f0_fHammers_h (fun _ => List.not_mem_nil) [0] (by kernel_rfl)) (hm.exApart (N := [⟨some b_1, 35, [(.int .i16 f0.fSteps), (.slice f0_fHammers_a f0.fHammers.length f0_fHammers_c)]⟩]) t1_h (fun _ => List.not_mem_nil) [0] (by kernel_rfl)) ht_5) ?_)
  rintro w v w' hm ⟨rfl, hm'⟩
  refine ⟨_, hm.appW (ps := [(0, ⟨some b_1, 35, [(.int .i16 f0.fSteps), (.slice f0_fHammers_a f0.fHammers.length f0_fHammers_c)]⟩)]) (N := []) hm' (by kernel_rfl) (by kernel_rfl), jkO ?_⟩
  clear hm hm'
  refine jo_f [(0, 0)] (by kernel_rfl) ?_
  refine jo_end (by kernel_rfl) ?_
  refine jx_then ?_
  refine jc_seq ?_
  refine jc_region ?_
  refine jo_f [(0, 0), (0, 0)] (by kernel_rfl) ?_
  refine jo_end (by kernel_rfl) ?_
  refine jx_then ?_
  refine jc_cond (t_1 != 0) (by kernel_rfl) (fun hc_6 => ?_) (fun hc_6 => ?_)
  · replace h := ifT hc_6 h
    refine jc_seq ?_
    refine jc_region ?_
    refine jo_f [(0, 0), (0, 0), (0, 0)] (by kernel_rfl) ?_
    refine jo_end (by kernel_rfl) ?_
    refine jx_then ?_
    refine jc_ret ?_
    refine jx_thenr ?_
    obtain rfl := Option.some.inj h
    exact jx_ret [] (.tuple #[(.int .i64 0), (.int .i64 t_1)]) [] rfl (by kernel_rfl) (by kernel_rfl) (fun w hm => ⟨rfl, hm.pick [] (by kernel_rfl) (by kernel_rfl)⟩)
  · replace h := ifF hc_6 h
    refine jc_skip ?_
    refine jx_then ?_
    refine jc_seq ?_
    refine jc_seq ?_
    refine jc_region ?_
    refine jo_f [(0, 0), (0, 0), (0, 0)] (by kernel_rfl) ?_
    obtain ⟨t_2, ht_9, h⟩ := bd h
    refine toO (by kernel_rfl) (p_call 0 15 #[(.int .i64 from3), (.int .i64 0), (.int .i64 (t1.length : Int))] (by kernel_rfl) (by kernel_rfl) (fun w hm => spec_l00In.calls from3 0 (t1.length : Int) w _ ht_9) ?_)
    rintro w v w' hm ⟨rfl, hm'⟩
    refine ⟨_, hm.app hm', jkO ?_⟩
    clear hm hm'
    refine jo_f [(0, 0)] (by kernel_rfl) ?_
    refine jo_end (by kernel_rfl) ?_
    refine jx_then ?_
    refine jc_cond (!t_2) (by kernel_rfl) (fun hc_10 => ?_) (fun hc_10 => ?_)
    · replace h := ifT hc_10 h
      refine jc_seq ?_
      refine jc_region ?_
      refine jo_f [(0, 0), (0, 0)] (by kernel_rfl) ?_
      refine jo_end (by kernel_rfl) ?_
      refine jx_then ?_
      refine jc_ret ?_
      refine jx_thenr ?_
      obtain rfl := Option.some.inj h
      exact jx_ret [] (.tuple #[(.int .i64 0), (.int .i64 2)]) [] rfl (by kernel_rfl) (by kernel_rfl) (fun w hm => ⟨rfl, hm.pick [] (by kernel_rfl) (by kernel_rfl)⟩)
    · replace h := ifF hc_10 h
      refine jc_skip ?_
      refine jx_then ?_
      refine jc_seq ?_
      refine jc_region ?_
      refine jo_f [(0, 0), (1, 0), (0, 0)] (by kernel_rfl) ?_
      obtain ⟨t_3, ht_11, h⟩ := bd h
      refine toO (by kernel_rfl) (p_call 0 16 #[(.pointer (some ⟨b_1, 0, none⟩)), (.slice t1_a t1.length t1_c), (.agg #[(.int .i16 c2.fAway), (.int .i16 c2.fOctave), (.int .i16 c2.fStep)]), (.int .i64 from3)] (by kernel_rfl) (by kernel_rfl) (fun w hm => spec_l07Bound.calls f0 t1 c2 from3 w _ f0_fHammers_a f0.fHammers.length f0_fHammers_c (hm.exRow f0_fHammers_h List.not_mem_nil) rfl t1_a t1.length t1_c (hm.exRow t1_h List.not_mem_nil) rfl b_1 (hm.pass (N := [⟨some b_1, 35, [(.int .i16 f0.fSteps), (.slice f0_fHammers_a f0.fHammers.length f0_fHammers_c)]⟩]) [0] (by kernel_rfl) (by kernel_rfl)) (hm.exApart (N := [⟨some b_1, 35, [(.int .i16 f0.fSteps), (.slice f0_fHammers_a f0.fHammers.length f0_fHammers_c)]⟩]) f0_fHammers_h (fun _ => List.not_mem_nil) [0] (by kernel_rfl)) (hm.exApart (N := [⟨some b_1, 35, [(.int .i16 f0.fSteps), (.slice f0_fHammers_a f0.fHammers.length f0_fHammers_c)]⟩]) t1_h (fun _ => List.not_mem_nil) [0] (by kernel_rfl)) ht_11) ?_)
      rintro w v w' hm ⟨rfl, hm'⟩
      refine ⟨_, hm.appW (ps := [(0, ⟨some b_1, 35, [(.int .i16 f0.fSteps), (.slice f0_fHammers_a f0.fHammers.length f0_fHammers_c)]⟩)]) (N := []) hm' (by kernel_rfl) (by kernel_rfl), jkO ?_⟩
      clear hm hm'
      refine jo_f [(0, 0), (0, 0)] (by kernel_rfl) ?_
      refine jo_end (by kernel_rfl) ?_
      refine jx_then ?_
      refine jc_ret ?_
      obtain rfl := Option.some.inj h
      exact jx_ret [] (.tuple #[(.int .i64 t_3), (.int .i64 0)]) [] rfl (by kernel_rfl) (by kernel_rfl) (fun w hm => ⟨rfl, hm.pick [] (by kernel_rfl) (by kernel_rfl)⟩)

/-! ### impl.within -/
noncomputable def impl_within (n0 : Int) (low1 : Int) (high2 : Int) : Option (Bool) := some ((decide (low1 ≤ n0)) && (decide (n0 ≤ high2)))
set_option maxRecDepth 100000 in
theorem impl_within.calls (n0 : Int) (low1 : Int) (high2 : Int) (w : World) (r : Bool) (h : impl_within n0 low1 high2 = some r) :
    Calls Try.prog 22 #[(.int .i64 n0), (.int .i64 low1), (.int .i64 high2)] w fun e w' => ∃ v, e = .returned v ∧ (v = (.bool r) ∧ Mem w [] [] w') := by
  rw [impl_within] at h
  refine enter (args := [(.int .i64 n0), (.int .i64 low1), (.int .i64 high2)]) Try.func22 rfl Try.ntmps22 (by kernel_rfl) (L := []) (W := []) (Mem.start w) ?_
  refine jc_seq ?_
  refine jc_region ?_
  refine jo_f [(0, 0)] (by kernel_rfl) ?_
  refine jo_end (by kernel_rfl) ?_
  refine jx_then ?_
  refine jc_seq ?_
  refine jc_region ?_
  refine jo_f [(0, 0), (0, 0), (0, 0), (0, 0), (0, 1), (0, 1), (0, 1), (0, 0), (0, 0)] (by kernel_rfl) ?_
  refine jo_end (by kernel_rfl) ?_
  refine jx_then ?_
  refine jc_ret ?_
  obtain rfl := Option.some.inj h
  exact jx_ret [] (.bool ((decide (low1 ≤ n0)) && (decide (n0 ≤ high2)))) [] rfl (by kernel_rfl) (by kernel_rfl) (fun w hm => ⟨rfl, hm.pick [] (by kernel_rfl) (by kernel_rfl)⟩)

/-! ### impl.size[impl.Hammer] -/
noncomputable def impl_size_Hammer (list0 : List GHammer) : Option (Int) := some (list0.length : Int)
set_option maxRecDepth 100000 in
theorem impl_size_Hammer.calls (list0 : List GHammer) (w : World) (r : Int) (list0_a : Option Addr) (list0_an : Nat) (list0_c : Nat) (list0_h : Rw w list0_a 2 encGHammer list0) (list0_hn : list0.length = list0_an) (h : impl_size_Hammer list0 = some r) :
    Calls Try.prog 49 #[(.slice list0_a list0_an list0_c)] w fun e w' => ∃ v, e = .returned v ∧ (v = (.int .i64 r) ∧ Mem w [] [] w') := by
  subst list0_hn
  rw [impl_size_Hammer] at h
  refine enter (args := [(.slice list0_a list0.length list0_c)]) Try.func49 rfl Try.ntmps49 (by kernel_rfl) (L := []) (W := []) (Mem.start w) ?_
  refine jc_seq ?_
  refine jc_region ?_
  refine jo_f [(0, 0)] (by kernel_rfl) ?_
  refine jo_end (by kernel_rfl) ?_
  refine jx_then ?_
  refine jc_seq ?_
  refine jc_region ?_
  refine jo_f [(0, 0), (0, 0), (0, 0)] (by kernel_rfl) ?_
  refine jo_end (by kernel_rfl) ?_
  refine jx_then ?_
  refine jc_ret ?_
  obtain rfl := Option.some.inj h
  exact jx_ret [] (.int .i64 (list0.length : Int)) [] rfl (by kernel_rfl) (by kernel_rfl) (fun w hm => ⟨rfl, hm.pick [] (by kernel_rfl) (by kernel_rfl)⟩)

/-! ### impl.isPitch -/
noncomputable def impl_isPitch (n0 : Int) : Option (Bool) := (impl_within n0 0 47).bind fun t_1 => some t_1
set_option maxRecDepth 100000 in
theorem impl_isPitch.calls (n0 : Int) (w : World) (r : Bool) (h : impl_isPitch n0 = some r) :
    Calls Try.prog 52 #[(.int .i64 n0)] w fun e w' => ∃ v, e = .returned v ∧ (v = (.bool r) ∧ Mem w [] [] w') := by
  rw [impl_isPitch] at h
  refine enter (args := [(.int .i64 n0)]) Try.func52 rfl Try.ntmps52 (by kernel_rfl) (L := []) (W := []) (Mem.start w) ?_
  refine jc_seq ?_
  refine jc_region ?_
  refine jo_f [(0, 0)] (by kernel_rfl) ?_
  refine jo_end (by kernel_rfl) ?_
  refine jx_then ?_
  refine jc_seq ?_
  refine jc_region ?_
  refine jo_f [(0, 0)] (by kernel_rfl) ?_
  obtain ⟨t_1, ht_1, h⟩ := bd h
  refine toO (by kernel_rfl) (p_call 0 22 #[(.int .i64 n0), (.int .i64 0), (.int .i64 47)] (by kernel_rfl) (by kernel_rfl) (fun w hm => impl_within.calls n0 0 47 w _ ht_1) ?_)
  rintro w v w' hm ⟨rfl, hm'⟩
  refine ⟨_, hm.app hm', jkO ?_⟩
  clear hm hm'
  refine jo_f [(0, 0)] (by kernel_rfl) ?_
  refine jo_end (by kernel_rfl) ?_
  refine jx_then ?_
  refine jc_ret ?_
  obtain rfl := Option.some.inj h
  exact jx_ret [] (.bool t_1) [] rfl (by kernel_rfl) (by kernel_rfl) (fun w hm => ⟨rfl, hm.pick [] (by kernel_rfl) (by kernel_rfl)⟩)

/-! ### impl.ValidFrame$1 -/
noncomputable def impl_ValidFrame_1 (h0 : GHammer) (p1 : GFrame) : Option (Bool) := (impl_isPitch (w64 h0.fPitch)).bind fun t_1 => (if (!t_1) = true then some true else (impl_within (w64 h0.fReady) 1 (if (w64 p1.fSteps) < 20 then (w64 p1.fSteps) else 20)).bind fun t_2 => some (!t_2))
set_option maxRecDepth 100000 in
theorem impl_ValidFrame_1.calls (h0 : GHammer) (p1 : GFrame) (w : World) (r : Bool) (p1_fHammers_a : Option Addr) (p1_fHammers_an : Nat) (p1_fHammers_c : Nat) (p1_fHammers_h : Rw w p1_fHammers_a 2 encGHammer p1.fHammers) (p1_fHammers_hn : p1.fHammers.length = p1_fHammers_an) (p1_b : Nat) (hm0 : Mem w (bs [some p1_b]) [⟨some p1_b, 35, [(.int .i16 p1.fSteps), (.slice p1_fHammers_a p1_fHammers_an p1_fHammers_c)]⟩] w) (p1_fHammers_ha : p1.fHammers ≠ [] → aB p1_fHammers_a ∉ bs [some p1_b]) (h : impl_ValidFrame_1 h0 p1 = some r) :
    Calls Try.prog 51 #[(.agg #[(.int .i8 h0.fPitch), (.int .i8 h0.fReady)]), (.pointer (some ⟨p1_b, 0, none⟩))] w fun e w' => ∃ v, e = .returned v ∧ (v = (.bool r) ∧ Mem w (bs [some p1_b]) [⟨some p1_b, 35, [(.int .i16 p1.fSteps), (.slice p1_fHammers_a p1_fHammers_an p1_fHammers_c)]⟩] w') := by
  subst p1_fHammers_hn
  rw [impl_ValidFrame_1] at h
  refine enter (args := [(.agg #[(.int .i8 h0.fPitch), (.int .i8 h0.fReady)]), (.pointer (some ⟨p1_b, 0, none⟩))]) Try.func51 rfl Try.ntmps51 (by kernel_rfl) (L := [⟨some p1_b, 35, [(.int .i16 p1.fSteps), (.slice p1_fHammers_a p1.fHammers.length p1_fHammers_c)]⟩]) (W := bs [some p1_b]) hm0 ?_
  refine jc_seq ?_
  refine jc_region ?_
  refine toO (by kernel_rfl) (p_a 0 [0] (by kernel_rfl) (fun b => by kernel_rfl) (fun b_1 => jkO ?_))
  refine jo_f [(0, 0)] (by kernel_rfl) ?_
  refine jo_end (by kernel_rfl) ?_
  refine jx_then ?_
  refine jc_seq ?_
  refine jc_region ?_
  refine jo_f [(0, 0), (1, 0), (0, 0)] (by kernel_rfl) ?_
  obtain ⟨t_1, ht_2, h⟩ := bd h
  refine toO (by kernel_rfl) (p_call 0 52 #[(.int .i64 (w64 h0.fPitch))] (by kernel_rfl) (by kernel_rfl) (fun w hm => impl_isPitch.calls (w64 h0.fPitch) w _ ht_2) ?_)
  rintro w v w' hm ⟨rfl, hm'⟩
  refine ⟨_, hm.app hm', jkO ?_⟩
  clear hm hm'
  refine jo_f [(0, 0), (0, 0), (0, 1), (1, 1), (0, 1), (0, 1), (0, 1), (0, 1), (0, 1)] (by kernel_rfl) ?_
  refine jo_split 9 (!t_1) (by kernel_rfl) (fun hc_3 => ?_) (fun hc_3 => ?_)
  · replace h := ifT hc_3 h
    refine jo_f [(0, 3), (0, 3), (0, 4), (0, 0)] (by kernel_rfl) ?_
    refine jo_end (by kernel_rfl) ?_
    refine jx_then ?_
    refine jc_ret ?_
    obtain rfl := Option.some.inj h
    exact jx_ret [] (.bool true) [] rfl (by kernel_rfl) (by kernel_rfl) (fun w hm => ⟨rfl, hm.pick [0] (by kernel_rfl) (by kernel_rfl)⟩)
  · replace h := ifF hc_3 h
    obtain ⟨t_2, ht_4, h⟩ := bd h
    refine toO (by kernel_rfl) (p_call 2 22 #[(.int .i64 (w64 h0.fReady)), (.int .i64 1), (.int .i64 (if (w64 p1.fSteps) < 20 then (w64 p1.fSteps) else 20))] (by kernel_rfl) (by kernel_rfl) (fun w hm => impl_within.calls (w64 h0.fReady) 1 (if (w64 p1.fSteps) < 20 then (w64 p1.fSteps) else 20) w _ ht_4) ?_)
    rintro w v w' hm ⟨rfl, hm'⟩
    refine ⟨_, hm.app hm', jkO ?_⟩
    clear hm hm'
    refine jo_f [(0, 2), (0, 5), (0, 0)] (by kernel_rfl) ?_
    refine jo_end (by kernel_rfl) ?_
    refine jx_then ?_
    refine jc_ret ?_
    obtain rfl := Option.some.inj h
    exact jx_ret [] (.bool (!t_2)) [] rfl (by kernel_rfl) (by kernel_rfl) (fun w hm => ⟨rfl, hm.pick [0] (by kernel_rfl) (by kernel_rfl)⟩)

/-! ### slices.IndexFunc[[]impl.Hammer,impl.Hammer] -/
noncomputable def slices_IndexFunc_Hammer_at_impl_ValidFrame_1.k_1 : Option (Int) := some (-1)
noncomputable def slices_IndexFunc_Hammer_at_impl_ValidFrame_1.l_3 (s0 : List GHammer) (g1c0 : GFrame) : Int → Option ((Int) ⊕ (Int ⊕ Unit))
  | i_2 => (if (decide (i_2 < (s0.length : Int))) = true then (ix s0 i_2).bind fun x_5 => (impl_ValidFrame_1 x_5 g1c0).bind fun t_6 => (if t_6 = true then some (.inr (.inl i_2)) else some (.inl (w64 (i_2 + 1)))) else some (.inr (.inr ())))
noncomputable def slices_IndexFunc_Hammer_at_impl_ValidFrame_1 (s0 : List GHammer) (g1c0 : GFrame) : Option (Int) := (loop (slices_IndexFunc_Hammer_at_impl_ValidFrame_1.l_3 s0 g1c0) 0).bind fun t_4 => match t_4 with | .inl p => some p | .inr p => slices_IndexFunc_Hammer_at_impl_ValidFrame_1.k_1
set_option maxRecDepth 100000 in
theorem slices_IndexFunc_Hammer_at_impl_ValidFrame_1.calls (s0 : List GHammer) (g1c0 : GFrame) (w : World) (r : Int) (s0_a : Option Addr) (s0_an : Nat) (s0_c : Nat) (s0_h : Rw w s0_a 2 encGHammer s0) (s0_hn : s0.length = s0_an) (g1c0_fHammers_a : Option Addr) (g1c0_fHammers_an : Nat) (g1c0_fHammers_c : Nat) (g1c0_fHammers_h : Rw w g1c0_fHammers_a 2 encGHammer g1c0.fHammers) (g1c0_fHammers_hn : g1c0.fHammers.length = g1c0_fHammers_an) (g1c0_b : Nat) (hm0 : Mem w (bs [some g1c0_b]) [⟨some g1c0_b, 35, [(.int .i16 g1c0.fSteps), (.slice g1c0_fHammers_a g1c0_fHammers_an g1c0_fHammers_c)]⟩] w) (s0_ha : s0 ≠ [] → aB s0_a ∉ bs [some g1c0_b]) (g1c0_fHammers_ha : g1c0.fHammers ≠ [] → aB g1c0_fHammers_a ∉ bs [some g1c0_b]) (h : slices_IndexFunc_Hammer_at_impl_ValidFrame_1 s0 g1c0 = some r) :
    Calls Try.prog 61 #[(.slice s0_a s0_an s0_c), (.func (.func 51) #[] #[(.pointer (some ⟨g1c0_b, 0, none⟩))])] w fun e w' => ∃ v, e = .returned v ∧ (v = (.int .i64 r) ∧ Mem w (bs [some g1c0_b]) [⟨some g1c0_b, 35, [(.int .i16 g1c0.fSteps), (.slice g1c0_fHammers_a g1c0_fHammers_an g1c0_fHammers_c)]⟩] w') := by
  subst s0_hn g1c0_fHammers_hn
  rw [slices_IndexFunc_Hammer_at_impl_ValidFrame_1] at h
  refine enter (args := [(.slice s0_a s0.length s0_c), (.func (.func 51) #[] #[(.pointer (some ⟨g1c0_b, 0, none⟩))])]) Try.func61 rfl Try.ntmps61 (by kernel_rfl) (L := [⟨some g1c0_b, 35, [(.int .i16 g1c0.fSteps), (.slice g1c0_fHammers_a g1c0.fHammers.length g1c0_fHammers_c)]⟩]) (W := bs [some g1c0_b]) hm0 ?_
  refine jc_seq ?_
  refine jc_region ?_
  refine jo_f [(0, 0)] (by kernel_rfl) ?_
  refine jo_end (by kernel_rfl) ?_
  refine jx_then ?_
  refine jc_seq ?_
  refine jc_seq ?_
  refine jc_region ?_
  refine jo_f [(0, 0), (0, 0), (0, 0)] (by kernel_rfl) ?_
  refine jo_end (by kernel_rfl) ?_
  refine jx_then ?_
  refine jc_meet (fun (_ : Unit) => slices_IndexFunc_Hammer_at_impl_ValidFrame_1.k_1 = some r) (fun (_ : Unit) => [(4, [], (.int .i64 0))]) (fun (_ : Unit) => [⟨some g1c0_b, 35, [(.int .i16 g1c0.fSteps), (.slice g1c0_fHammers_a g1c0.fHammers.length g1c0_fHammers_c)]⟩]) ?_ ?_
  · refine jc_block ?_
    obtain ⟨t_4, ht_40, hr_31⟩ := bd h
    refine jc_loop (fun (s : Int) (x : Unit) => match s, x with | i_2, _ => True) (fun (s : Int) (x : Unit) => match s, x with | i_2, _ => [(0, [], (.slice s0_a s0.length s0_c)), (1, [], (.func (.func 51) #[] #[(.pointer (some ⟨g1c0_b, 0, none⟩))])), (4, [], (.int .i64 0)), (7, [], (.int .i64 (s0.length : Int))), (8, [], (.int .i64 i_2))]) (fun (s : Int) (x : Unit) => match s, x with | i_2, _ => [⟨some g1c0_b, 35, [(.int .i16 g1c0.fSteps), (.slice g1c0_fHammers_a g1c0.fHammers.length g1c0_fHammers_c)]⟩]) ht_40 () trivial (by kernel_rfl) [0] (by kernel_rfl) (by kernel_rfl) ?_
    rintro i_2 _ y_32 _ h
    rw [slices_IndexFunc_Hammer_at_impl_ValidFrame_1.l_3] at h
    refine jc_seq ?_
    refine jc_region ?_
    refine jo_f [(0, 0)] (by kernel_rfl) ?_
    refine jo_end (by kernel_rfl) ?_
    refine jx_then ?_
    refine jc_seq ?_
    refine jc_cond (decide (i_2 < (s0.length : Int))) (by kernel_rfl) (fun hc_34 => ?_) (fun hc_34 => ?_)
    · replace h := ifT hc_34 h
      refine jc_skip ?_
      refine jx_then ?_
      refine jc_seq ?_
      refine jc_block ?_
      refine jc_seq ?_
      refine jc_region ?_
      refine jo_f [(0, 0), (0, 0)] (by kernel_rfl) ?_
      refine jo_end (by kernel_rfl) ?_
      refine jx_then ?_
      refine jc_seq ?_
      refine jc_region ?_
      refine jo_f [(0, 0), (0, 0), (0, 0)] (by kernel_rfl) ?_
      obtain ⟨x_5, hx_35, h⟩ := bd h
      refine toO (by kernel_rfl) (p_idx 0 s0_a s0.length i_2 2 (by kernel_rfl) (by kernel_rfl) (ix_some hx_35).1 (ltn hx_35 rfl) (s0_h.sp hx_35) (jkO ?_))
      refine toO (by kernel_rfl) (p_ld 0 (aB s0_a) (aO s0_a + i_2.toNat * 2) true (encGHammer x_5) (by kernel_rfl) (by kernel_rfl) (by kernel_rfl) (fun w hm => ((hm.exRowW s0_h s0_ha).at hx_35)) (jkO ?_))
      obtain ⟨t_6, ht_36, h⟩ := bd h
      refine toO (by kernel_rfl) (p_call 0 51 #[(.agg #[(.int .i8 x_5.fPitch), (.int .i8 x_5.fReady)]), (.pointer (some ⟨g1c0_b, 0, none⟩))] (by kernel_rfl) (by kernel_rfl) (fun w hm => impl_ValidFrame_1.calls x_5 g1c0 w _ g1c0_fHammers_a g1c0.fHammers.length g1c0_fHammers_c (hm.exRowW g1c0_fHammers_h g1c0_fHammers_ha) rfl g1c0_b (hm.pass (N := [⟨some g1c0_b, 35, [(.int .i16 g1c0.fSteps), (.slice g1c0_fHammers_a g1c0.fHammers.length g1c0_fHammers_c)]⟩]) [0] (by kernel_rfl) (by kernel_rfl)) (hm.exApart (N := [⟨some g1c0_b, 35, [(.int .i16 g1c0.fSteps), (.slice g1c0_fHammers_a g1c0.fHammers.length g1c0_fHammers_c)]⟩]) g1c0_fHammers_h g1c0_fHammers_ha [0] (by kernel_rfl)) ht_36) ?_)
      rintro w v w' hm ⟨rfl, hm'⟩
      refine ⟨_, hm.appW (ps := [(0, ⟨some g1c0_b, 35, [(.int .i16 g1c0.fSteps), (.slice g1c0_fHammers_a g1c0.fHammers.length g1c0_fHammers_c)]⟩)]) (N := []) hm' (by kernel_rfl) (by kernel_rfl), jkO ?_⟩
      clear hm hm'
      refine jo_end (by kernel_rfl) ?_
      refine jx_then ?_
      refine jc_cond t_6 (by kernel_rfl) (fun hc_37 => ?_) (fun hc_37 => ?_)
      · replace h := ifT hc_37 h
        refine jc_seq ?_
        refine jc_region ?_
        refine jo_f [(0, 0), (0, 0)] (by kernel_rfl) ?_
        refine jo_end (by kernel_rfl) ?_
        refine jx_then ?_
        refine jc_ret ?_
        refine jx_inr ?_
        refine jx_thenr ?_
        refine jx_leaver (.inl i_2) (Option.some.inj h).symm (fun e_38 => ?_)
        subst e_38
        refine jx_inr ?_
        refine jx_thenr ?_
        refine jx_thenr ?_
        obtain rfl := Option.some.inj hr_31
        exact jx_ret [] (.int .i64 i_2) [] rfl (by kernel_rfl) (by kernel_rfl) (fun w hm => ⟨rfl, hm.pick [0] (by kernel_rfl) (by kernel_rfl)⟩)
      · replace h := ifF hc_37 h
        refine jc_skip ?_
        refine jx_inn ?_
        refine jx_then ?_
        refine jc_region ?_
        refine jo_f [(0, 0), (0, 0)] (by kernel_rfl) ?_
        refine jo_end (by kernel_rfl) ?_
        exact jx_back (w64 (i_2 + 1)) () (Option.some.inj h).symm trivial [0] (by kernel_rfl) (by kernel_rfl) (by kernel_rfl)
    · replace h := ifF hc_34 h
      refine jc_exit ?_
      refine jx_thenx ?_
      refine jx_leave (.inr ()) (Option.some.inj h).symm (fun e_39 => ?_)
      subst e_39
      refine jx_ine ?_
      exact jx_meet () hr_31 (by kernel_rfl) [0] (by kernel_rfl) (by kernel_rfl)
  · rintro _ h
    replace h : slices_IndexFunc_Hammer_at_impl_ValidFrame_1.k_1 = some r := h
    rw [slices_IndexFunc_Hammer_at_impl_ValidFrame_1.k_1] at h
    refine jx_then ?_
    refine jc_seq ?_
    refine jc_region ?_
    refine jo_f [(0, 0)] (by kernel_rfl) ?_
    refine jo_end (by kernel_rfl) ?_
    refine jx_then ?_
    refine jc_ret ?_
    obtain rfl := Option.some.inj h
    exact jx_ret [] (.int .i64 (-1)) [] rfl (by kernel_rfl) (by kernel_rfl) (fun w hm => ⟨rfl, hm.pick [0] (by kernel_rfl) (by kernel_rfl)⟩)

/-! ### slices.ContainsFunc[[]impl.Hammer,impl.Hammer] -/
noncomputable def slices_ContainsFunc_Hammer_at_impl_ValidFrame_1 (s0 : List GHammer) (g1c0 : GFrame) : Option (Bool) := (slices_IndexFunc_Hammer_at_impl_ValidFrame_1 s0 g1c0).bind fun t_1 => some (decide (t_1 ≥ 0))
set_option maxRecDepth 100000 in
theorem slices_ContainsFunc_Hammer_at_impl_ValidFrame_1.calls (s0 : List GHammer) (g1c0 : GFrame) (w : World) (r : Bool) (s0_a : Option Addr) (s0_an : Nat) (s0_c : Nat) (s0_h : Rw w s0_a 2 encGHammer s0) (s0_hn : s0.length = s0_an) (g1c0_fHammers_a : Option Addr) (g1c0_fHammers_an : Nat) (g1c0_fHammers_c : Nat) (g1c0_fHammers_h : Rw w g1c0_fHammers_a 2 encGHammer g1c0.fHammers) (g1c0_fHammers_hn : g1c0.fHammers.length = g1c0_fHammers_an) (g1c0_b : Nat) (hm0 : Mem w (bs [some g1c0_b]) [⟨some g1c0_b, 35, [(.int .i16 g1c0.fSteps), (.slice g1c0_fHammers_a g1c0_fHammers_an g1c0_fHammers_c)]⟩] w) (s0_ha : s0 ≠ [] → aB s0_a ∉ bs [some g1c0_b]) (g1c0_fHammers_ha : g1c0.fHammers ≠ [] → aB g1c0_fHammers_a ∉ bs [some g1c0_b]) (h : slices_ContainsFunc_Hammer_at_impl_ValidFrame_1 s0 g1c0 = some r) :
    Calls Try.prog 50 #[(.slice s0_a s0_an s0_c), (.func (.func 51) #[] #[(.pointer (some ⟨g1c0_b, 0, none⟩))])] w fun e w' => ∃ v, e = .returned v ∧ (v = (.bool r) ∧ Mem w (bs [some g1c0_b]) [⟨some g1c0_b, 35, [(.int .i16 g1c0.fSteps), (.slice g1c0_fHammers_a g1c0_fHammers_an g1c0_fHammers_c)]⟩] w') := by
  subst s0_hn g1c0_fHammers_hn
  rw [slices_ContainsFunc_Hammer_at_impl_ValidFrame_1] at h
  refine enter (args := [(.slice s0_a s0.length s0_c), (.func (.func 51) #[] #[(.pointer (some ⟨g1c0_b, 0, none⟩))])]) Try.func50 rfl Try.ntmps50 (by kernel_rfl) (L := [⟨some g1c0_b, 35, [(.int .i16 g1c0.fSteps), (.slice g1c0_fHammers_a g1c0.fHammers.length g1c0_fHammers_c)]⟩]) (W := bs [some g1c0_b]) hm0 ?_
  refine jc_seq ?_
  refine jc_region ?_
  refine jo_f [(0, 0)] (by kernel_rfl) ?_
  refine jo_end (by kernel_rfl) ?_
  refine jx_then ?_
  refine jc_seq ?_
  refine jc_region ?_
  refine jo_f [(0, 0), (0, 0)] (by kernel_rfl) ?_
  obtain ⟨t_1, ht_1, h⟩ := bd h
  refine toO (by kernel_rfl) (p_call 0 61 #[(.slice s0_a s0.length s0_c), (.func (.func 51) #[] #[(.pointer (some ⟨g1c0_b, 0, none⟩))])] (by kernel_rfl) (by kernel_rfl) (fun w hm => slices_IndexFunc_Hammer_at_impl_ValidFrame_1.calls s0 g1c0 w _ s0_a s0.length s0_c (hm.exRowW s0_h s0_ha) rfl g1c0_fHammers_a g1c0.fHammers.length g1c0_fHammers_c (hm.exRowW g1c0_fHammers_h g1c0_fHammers_ha) rfl g1c0_b (hm.pass (N := [⟨some g1c0_b, 35, [(.int .i16 g1c0.fSteps), (.slice g1c0_fHammers_a g1c0.fHammers.length g1c0_fHammers_c)]⟩]) [0] (by kernel_rfl) (by kernel_rfl)) (hm.exApart (N := [⟨some g1c0_b, 35, [(.int .i16 g1c0.fSteps), (.slice g1c0_fHammers_a g1c0.fHammers.length g1c0_fHammers_c)]⟩]) s0_h s0_ha [0] (by kernel_rfl)) (hm.exApart (N := [⟨some g1c0_b, 35, [(.int .i16 g1c0.fSteps), (.slice g1c0_fHammers_a g1c0.fHammers.length g1c0_fHammers_c)]⟩]) g1c0_fHammers_h g1c0_fHammers_ha [0] (by kernel_rfl)) ht_1) ?_)
  rintro w v w' hm ⟨rfl, hm'⟩
  refine ⟨_, hm.appW (ps := [(0, ⟨some g1c0_b, 35, [(.int .i16 g1c0.fSteps), (.slice g1c0_fHammers_a g1c0.fHammers.length g1c0_fHammers_c)]⟩)]) (N := []) hm' (by kernel_rfl) (by kernel_rfl), jkO ?_⟩
  clear hm hm'
  refine jo_f [(0, 0), (0, 0)] (by kernel_rfl) ?_
  refine jo_end (by kernel_rfl) ?_
  refine jx_then ?_
  refine jc_ret ?_
  obtain rfl := Option.some.inj h
  exact jx_ret [] (.bool (decide (t_1 ≥ 0))) [] rfl (by kernel_rfl) (by kernel_rfl) (fun w hm => ⟨rfl, hm.pick [0] (by kernel_rfl) (by kernel_rfl)⟩)

/-! ### impl.ValidFrame -/
noncomputable def impl_ValidFrame (f0 : GFrame) : Option (Bool) := (impl_within (w64 f0.fSteps) 2 96).bind fun t_1 => (if t_1 = true then (impl_size_Hammer f0.fHammers).bind fun t_2 => (impl_within t_2 1 24).bind fun t_3 => (if t_3 = true then (slices_ContainsFunc_Hammer_at_impl_ValidFrame_1 f0.fHammers f0).bind fun t_4 => some (!t_4) else some false) else some false)
set_option maxRecDepth 100000 in
theorem impl_ValidFrame.calls (f0 : GFrame) (w : World) (r : Bool) (f0_fHammers_a : Option Addr) (f0_fHammers_an : Nat) (f0_fHammers_c : Nat) (f0_fHammers_h : Rw w f0_fHammers_a 2 encGHammer f0.fHammers) (f0_fHammers_hn : f0.fHammers.length = f0_fHammers_an) (h : impl_ValidFrame f0 = some r) :
    Calls Try.prog 42 #[(.agg #[(.int .i16 f0.fSteps), (.slice f0_fHammers_a f0_fHammers_an f0_fHammers_c)])] w fun e w' => ∃ v, e = .returned v ∧ (v = (.bool r) ∧ Mem w [] [] w') := by
  subst f0_fHammers_hn
  rw [impl_ValidFrame] at h
  refine enter (args := [(.agg #[(.int .i16 f0.fSteps), (.slice f0_fHammers_a f0.fHammers.length f0_fHammers_c)])]) Try.func42 rfl Try.ntmps42 (by kernel_rfl) (L := []) (W := []) (Mem.start w) ?_
  refine jc_seq ?_
  refine jc_region ?_
  refine toO (by kernel_rfl) (p_a 0 [0] (by kernel_rfl) (fun b => by kernel_rfl) (fun b_1 => jkO ?_))
  refine jo_f [(0, 0)] (by kernel_rfl) ?_
  refine jo_end (by kernel_rfl) ?_
  refine jx_then ?_
  refine jc_seq ?_
  refine jc_region ?_
  refine jo_f [(0, 0), (0, 0), (0, 0)] (by kernel_rfl) ?_
  obtain ⟨t_1, ht_2, h⟩ := bd h
  refine toO (by kernel_rfl) (p_call 0 22 #[(.int .i64 (w64 f0.fSteps)), (.int .i64 2), (.int .i64 96)] (by kernel_rfl) (by kernel_rfl) (fun w hm => impl_within.calls (w64 f0.fSteps) 2 96 w _ ht_2) ?_)
  rintro w v w' hm ⟨rfl, hm'⟩
  refine ⟨_, hm.app hm', jkO ?_⟩
  clear hm hm'
  refine jo_f [(0, 0), (0, 1), (0, 1)] (by kernel_rfl) ?_
  refine jo_split 7 t_1 (by kernel_rfl) (fun hc_3 => ?_) (fun hc_3 => ?_)
  · replace h := ifT hc_3 h
    obtain ⟨t_2, ht_4, h⟩ := bd h
    refine toO (by kernel_rfl) (p_call 2 49 #[(.slice f0_fHammers_a f0.fHammers.length f0_fHammers_c)] (by kernel_rfl) (by kernel_rfl) (fun w hm => impl_size_Hammer.calls f0.fHammers w _ f0_fHammers_a f0.fHammers.length f0_fHammers_c (hm.exRow f0_fHammers_h List.not_mem_nil) rfl ht_4) ?_)
    rintro w v w' hm ⟨rfl, hm'⟩
    refine ⟨_, hm.app hm', jkO ?_⟩
    clear hm hm'
    obtain ⟨t_3, ht_5, h⟩ := bd h
    refine toO (by kernel_rfl) (p_call 2 22 #[(.int .i64 t_2), (.int .i64 1), (.int .i64 24)] (by kernel_rfl) (by kernel_rfl) (fun w hm => impl_within.calls t_2 1 24 w _ ht_5) ?_)
    rintro w v w' hm ⟨rfl, hm'⟩
    refine ⟨_, hm.app hm', jkO ?_⟩
    clear hm hm'
    refine jo_f [(0, 4), (0, 0), (0, 1), (0, 1), (0, 1)] (by kernel_rfl) ?_
    refine jo_split 13 t_3 (by kernel_rfl) (fun hc_6 => ?_) (fun hc_6 => ?_)
    · replace h := ifT hc_6 h
      obtain ⟨t_4, ht_7, h⟩ := bd h
      refine toO (by kernel_rfl) (p_call 2 50 #[(.slice f0_fHammers_a f0.fHammers.length f0_fHammers_c), (.func (.func 51) #[] #[(.pointer (some ⟨b_1, 0, none⟩))])] (by kernel_rfl) (by kernel_rfl) (fun w hm => slices_ContainsFunc_Hammer_at_impl_ValidFrame_1.calls f0.fHammers f0 w _ f0_fHammers_a f0.fHammers.length f0_fHammers_c (hm.exRow f0_fHammers_h List.not_mem_nil) rfl f0_fHammers_a f0.fHammers.length f0_fHammers_c (hm.exRow f0_fHammers_h List.not_mem_nil) rfl b_1 (hm.pass (N := [⟨some b_1, 35, [(.int .i16 f0.fSteps), (.slice f0_fHammers_a f0.fHammers.length f0_fHammers_c)]⟩]) [0] (by kernel_rfl) (by kernel_rfl)) (hm.exApart (N := [⟨some b_1, 35, [(.int .i16 f0.fSteps), (.slice f0_fHammers_a f0.fHammers.length f0_fHammers_c)]⟩]) f0_fHammers_h (fun _ => List.not_mem_nil) [0] (by kernel_rfl)) (hm.exApart (N := [⟨some b_1, 35, [(.int .i16 f0.fSteps), (.slice f0_fHammers_a f0.fHammers.length f0_fHammers_c)]⟩]) f0_fHammers_h (fun _ => List.not_mem_nil) [0] (by kernel_rfl)) ht_7) ?_)
      rintro w v w' hm ⟨rfl, hm'⟩
      refine ⟨_, hm.appW (ps := [(0, ⟨some b_1, 35, [(.int .i16 f0.fSteps), (.slice f0_fHammers_a f0.fHammers.length f0_fHammers_c)]⟩)]) (N := []) hm' (by kernel_rfl) (by kernel_rfl), jkO ?_⟩
      clear hm hm'
      refine jo_f [(0, 2), (0, 4), (0, 0)] (by kernel_rfl) ?_
      refine jo_end (by kernel_rfl) ?_
      refine jx_then ?_
      refine jc_ret ?_
      obtain rfl := Option.some.inj h
      exact jx_ret [] (.bool (!t_4)) [] rfl (by kernel_rfl) (by kernel_rfl) (fun w hm => ⟨rfl, hm.pick [] (by kernel_rfl) (by kernel_rfl)⟩)
    · replace h := ifF hc_6 h
      refine jo_f [(0, 3), (0, 3), (0, 5), (0, 0)] (by kernel_rfl) ?_
      refine jo_end (by kernel_rfl) ?_
      refine jx_then ?_
      refine jc_ret ?_
      obtain rfl := Option.some.inj h
      exact jx_ret [] (.bool false) [] rfl (by kernel_rfl) (by kernel_rfl) (fun w hm => ⟨rfl, hm.pick [] (by kernel_rfl) (by kernel_rfl)⟩)
  · replace h := ifF hc_3 h
    refine jo_f [(0, 3), (0, 3), (0, 5), (0, 0), (0, 3), (0, 3), (0, 3), (0, 3), (0, 3), (0, 5), (0, 0)] (by kernel_rfl) ?_
    refine jo_end (by kernel_rfl) ?_
    refine jx_then ?_
    refine jc_ret ?_
    obtain rfl := Option.some.inj h
    exact jx_ret [] (.bool false) [] rfl (by kernel_rfl) (by kernel_rfl) (fun w hm => ⟨rfl, hm.pick [] (by kernel_rfl) (by kernel_rfl)⟩)

/-! ### impl.unless -/
noncomputable def impl_unless (is0 : Bool) (code1 : Int) : Option (Int) := (if is0 = true then some 0 else some code1)
set_option maxRecDepth 100000 in
theorem impl_unless.calls (is0 : Bool) (code1 : Int) (w : World) (r : Int) (h : impl_unless is0 code1 = some r) :
    Calls Try.prog 21 #[(.bool is0), (.int .i64 code1)] w fun e w' => ∃ v, e = .returned v ∧ (v = (.int .i64 r) ∧ Mem w [] [] w') := by
  rw [impl_unless] at h
  refine enter (args := [(.bool is0), (.int .i64 code1)]) Try.func21 rfl Try.ntmps21 (by kernel_rfl) (L := []) (W := []) (Mem.start w) ?_
  refine jc_seq ?_
  refine jc_region ?_
  refine jo_f [(0, 0)] (by kernel_rfl) ?_
  refine jo_end (by kernel_rfl) ?_
  refine jx_then ?_
  refine jc_seq ?_
  refine jc_seq ?_
  refine jc_region ?_
  refine jo_f [(0, 0)] (by kernel_rfl) ?_
  refine jo_end (by kernel_rfl) ?_
  refine jx_then ?_
  refine jc_cond is0 (by kernel_rfl) (fun hc_2 => ?_) (fun hc_2 => ?_)
  · replace h := ifT hc_2 h
    refine jc_seq ?_
    refine jc_region ?_
    refine jo_f [(0, 0)] (by kernel_rfl) ?_
    refine jo_end (by kernel_rfl) ?_
    refine jx_then ?_
    refine jc_ret ?_
    refine jx_thenr ?_
    obtain rfl := Option.some.inj h
    exact jx_ret [] (.int .i64 0) [] rfl (by kernel_rfl) (by kernel_rfl) (fun w hm => ⟨rfl, hm.pick [] (by kernel_rfl) (by kernel_rfl)⟩)
  · replace h := ifF hc_2 h
    refine jc_skip ?_
    refine jx_then ?_
    refine jc_seq ?_
    refine jc_region ?_
    refine jo_f [(0, 0), (0, 0)] (by kernel_rfl) ?_
    refine jo_end (by kernel_rfl) ?_
    refine jx_then ?_
    refine jc_ret ?_
    obtain rfl := Option.some.inj h
    exact jx_ret [] (.int .i64 code1) [] rfl (by kernel_rfl) (by kernel_rfl) (fun w hm => ⟨rfl, hm.pick [] (by kernel_rfl) (by kernel_rfl)⟩)

/-! ### impl.isNote -/
noncomputable def impl_isNote (n0 : GNote) : Option (Bool) := (impl_within (w64 n0.fAt) 0 199).bind fun t_1 => (if t_1 = true then (impl_isPitch (w64 n0.fPitch)).bind fun t_2 => some t_2 else some false)
set_option maxRecDepth 100000 in
theorem impl_isNote.calls (n0 : GNote) (w : World) (r : Bool) (h : impl_isNote n0 = some r) :
    Calls Try.prog 63 #[(.agg #[(.int .i16 n0.fAt), (.int .i8 n0.fPitch)])] w fun e w' => ∃ v, e = .returned v ∧ (v = (.bool r) ∧ Mem w [] [] w') := by
  rw [impl_isNote] at h
  refine enter (args := [(.agg #[(.int .i16 n0.fAt), (.int .i8 n0.fPitch)])]) Try.func63 rfl Try.ntmps63 (by kernel_rfl) (L := []) (W := []) (Mem.start w) ?_
  refine jc_seq ?_
  refine jc_region ?_
  refine toO (by kernel_rfl) (p_a 0 [0] (by kernel_rfl) (fun b => by kernel_rfl) (fun b_1 => jkO ?_))
  refine jo_f [(0, 0)] (by kernel_rfl) ?_
  refine jo_end (by kernel_rfl) ?_
  refine jx_then ?_
  refine jc_seq ?_
  refine jc_region ?_
  refine jo_f [(0, 0), (0, 0), (0, 0)] (by kernel_rfl) ?_
  obtain ⟨t_1, ht_2, h⟩ := bd h
  refine toO (by kernel_rfl) (p_call 0 22 #[(.int .i64 (w64 n0.fAt)), (.int .i64 0), (.int .i64 199)] (by kernel_rfl) (by kernel_rfl) (fun w hm => impl_within.calls (w64 n0.fAt) 0 199 w _ ht_2) ?_)
  rintro w v w' hm ⟨rfl, hm'⟩
  refine ⟨_, hm.app hm', jkO ?_⟩
  clear hm hm'
  refine jo_f [(0, 0), (0, 1), (0, 1), (0, 1)] (by kernel_rfl) ?_
  refine jo_split 7 t_1 (by kernel_rfl) (fun hc_3 => ?_) (fun hc_3 => ?_)
  · replace h := ifT hc_3 h
    obtain ⟨t_2, ht_4, h⟩ := bd h
    refine toO (by kernel_rfl) (p_call 2 52 #[(.int .i64 (w64 n0.fPitch))] (by kernel_rfl) (by kernel_rfl) (fun w hm => impl_isPitch.calls (w64 n0.fPitch) w _ ht_4) ?_)
    rintro w v w' hm ⟨rfl, hm'⟩
    refine ⟨_, hm.app hm', jkO ?_⟩
    clear hm hm'
    refine jo_f [(0, 4), (0, 0)] (by kernel_rfl) ?_
    refine jo_end (by kernel_rfl) ?_
    refine jx_then ?_
    refine jc_ret ?_
    obtain rfl := Option.some.inj h
    exact jx_ret [] (.bool t_2) [] rfl (by kernel_rfl) (by kernel_rfl) (fun w hm => ⟨rfl, hm.pick [] (by kernel_rfl) (by kernel_rfl)⟩)
  · replace h := ifF hc_3 h
    refine jo_f [(0, 3), (0, 5), (0, 0)] (by kernel_rfl) ?_
    refine jo_end (by kernel_rfl) ?_
    refine jx_then ?_
    refine jc_ret ?_
    obtain rfl := Option.some.inj h
    exact jx_ret [] (.bool false) [] rfl (by kernel_rfl) (by kernel_rfl) (fun w hm => ⟨rfl, hm.pick [] (by kernel_rfl) (by kernel_rfl)⟩)

/-! ### cmp.isNaN[int16] -/
noncomputable def cmp_isNaN_int16 (x0 : Int) : Option (Bool) := some (x0 != x0)
set_option maxRecDepth 100000 in
theorem cmp_isNaN_int16.calls (x0 : Int) (w : World) (r : Bool) (h : cmp_isNaN_int16 x0 = some r) :
    Calls Try.prog 69 #[(.int .i16 x0)] w fun e w' => ∃ v, e = .returned v ∧ (v = (.bool r) ∧ Mem w [] [] w') := by
  rw [cmp_isNaN_int16] at h
  refine enter (args := [(.int .i16 x0)]) Try.func69 rfl Try.ntmps69 (by kernel_rfl) (L := []) (W := []) (Mem.start w) ?_
  refine jc_seq ?_
  refine jc_region ?_
  refine jo_f [(0, 0)] (by kernel_rfl) ?_
  refine jo_end (by kernel_rfl) ?_
  refine jx_then ?_
  refine jc_seq ?_
  refine jc_region ?_
  refine jo_f [(0, 0), (0, 0), (0, 0), (0, 0)] (by kernel_rfl) ?_
  refine jo_end (by kernel_rfl) ?_
  refine jx_then ?_
  refine jc_ret ?_
  obtain rfl := Option.some.inj h
  exact jx_ret [] (.bool (x0 != x0)) [] rfl (by kernel_rfl) (by kernel_rfl) (fun w hm => ⟨rfl, hm.pick [] (by kernel_rfl) (by kernel_rfl)⟩)

/-! ### cmp.Compare[int16] -/
noncomputable def cmp_Compare_int16 (x0 : Int) (y1 : Int) : Option (Int) := (cmp_isNaN_int16 x0).bind fun t_1 => (cmp_isNaN_int16 y1).bind fun t_2 => (if t_1 = true then (if t_2 = true then some 0 else some (-1)) else (if t_2 = true then some 1 else (if (decide (x0 < y1)) = true then some (-1) else (if (decide (x0 > y1)) = true then some 1 else some 0))))
set_option maxRecDepth 100000 in
theorem cmp_Compare_int16.calls (x0 : Int) (y1 : Int) (w : World) (r : Int) (h : cmp_Compare_int16 x0 y1 = some r) :
    Calls Try.prog 67 #[(.int .i16 x0), (.int .i16 y1)] w fun e w' => ∃ v, e = .returned v ∧ (v = (.int .i64 r) ∧ Mem w [] [] w') := by
  rw [cmp_Compare_int16] at h
  refine enter (args := [(.int .i16 x0), (.int .i16 y1)]) Try.func67 rfl Try.ntmps67 (by kernel_rfl) (L := []) (W := []) (Mem.start w) ?_
  refine jc_seq ?_
  refine jc_region ?_
  refine jo_f [(0, 0)] (by kernel_rfl) ?_
  refine jo_end (by kernel_rfl) ?_
  refine jx_then ?_
  refine jc_seq ?_
  refine jc_region ?_
  refine jo_f [(0, 0)] (by kernel_rfl) ?_
  obtain ⟨t_1, ht_1, h⟩ := bd h
  refine toO (by kernel_rfl) (p_call 0 69 #[(.int .i16 x0)] (by kernel_rfl) (by kernel_rfl) (fun w hm => cmp_isNaN_int16.calls x0 w _ ht_1) ?_)
  rintro w v w' hm ⟨rfl, hm'⟩
  refine ⟨_, hm.app hm', jkO ?_⟩
  clear hm hm'
  refine jo_f [(0, 0)] (by kernel_rfl) ?_
  refine jo_end (by kernel_rfl) ?_
  refine jx_then ?_
  refine jc_seq ?_
  refine jc_region ?_
  refine jo_f [(0, 0)] (by kernel_rfl) ?_
  obtain ⟨t_2, ht_2, h⟩ := bd h
  refine toO (by kernel_rfl) (p_call 0 69 #[(.int .i16 y1)] (by kernel_rfl) (by kernel_rfl) (fun w hm => cmp_isNaN_int16.calls y1 w _ ht_2) ?_)
  rintro w v w' hm ⟨rfl, hm'⟩
  refine ⟨_, hm.app hm', jkO ?_⟩
  clear hm hm'
  refine jo_f [(0, 0)] (by kernel_rfl) ?_
  refine jo_end (by kernel_rfl) ?_
  refine jx_then ?_
  refine jc_seq ?_
  refine jc_seq ?_
  refine jc_region ?_
  refine jo_f [(0, 0)] (by kernel_rfl) ?_
  refine jo_end (by kernel_rfl) ?_
  refine jx_then ?_
  refine jc_cond t_1 (by kernel_rfl) (fun hc_5 => ?_) (fun hc_5 => ?_)
  · replace h := ifT hc_5 h
    refine jc_seq ?_
    refine jc_seq ?_
    refine jc_region ?_
    refine jo_f [(0, 0)] (by kernel_rfl) ?_
    refine jo_end (by kernel_rfl) ?_
    refine jx_then ?_
    refine jc_cond t_2 (by kernel_rfl) (fun hc_6 => ?_) (fun hc_6 => ?_)
    · replace h := ifT hc_6 h
      refine jc_seq ?_
      refine jc_region ?_
      refine jo_f [(0, 0)] (by kernel_rfl) ?_
      refine jo_end (by kernel_rfl) ?_
      refine jx_then ?_
      refine jc_ret ?_
      refine jx_thenr ?_
      refine jx_thenr ?_
      obtain rfl := Option.some.inj h
      exact jx_ret [] (.int .i64 0) [] rfl (by kernel_rfl) (by kernel_rfl) (fun w hm => ⟨rfl, hm.pick [] (by kernel_rfl) (by kernel_rfl)⟩)
    · replace h := ifF hc_6 h
      refine jc_skip ?_
      refine jx_then ?_
      refine jc_seq ?_
      refine jc_region ?_
      refine jo_f [(0, 0)] (by kernel_rfl) ?_
      refine jo_end (by kernel_rfl) ?_
      refine jx_then ?_
      refine jc_ret ?_
      refine jx_thenr ?_
      obtain rfl := Option.some.inj h
      exact jx_ret [] (.int .i64 (-1)) [] rfl (by kernel_rfl) (by kernel_rfl) (fun w hm => ⟨rfl, hm.pick [] (by kernel_rfl) (by kernel_rfl)⟩)
  · replace h := ifF hc_5 h
    refine jc_skip ?_
    refine jx_then ?_
    refine jc_seq ?_
    refine jc_seq ?_
    refine jc_region ?_
    refine jo_f [(0, 0)] (by kernel_rfl) ?_
    refine jo_end (by kernel_rfl) ?_
    refine jx_then ?_
    refine jc_cond t_2 (by kernel_rfl) (fun hc_8 => ?_) (fun hc_8 => ?_)
    · replace h := ifT hc_8 h
      refine jc_seq ?_
      refine jc_region ?_
      refine jo_f [(0, 0)] (by kernel_rfl) ?_
      refine jo_end (by kernel_rfl) ?_
      refine jx_then ?_
      refine jc_ret ?_
      refine jx_thenr ?_
      obtain rfl := Option.some.inj h
      exact jx_ret [] (.int .i64 1) [] rfl (by kernel_rfl) (by kernel_rfl) (fun w hm => ⟨rfl, hm.pick [] (by kernel_rfl) (by kernel_rfl)⟩)
    · replace h := ifF hc_8 h
      refine jc_skip ?_
      refine jx_then ?_
      refine jc_seq ?_
      refine jc_seq ?_
      refine jc_region ?_
      refine jo_f [(0, 0), (0, 0), (0, 0)] (by kernel_rfl) ?_
      refine jo_end (by kernel_rfl) ?_
      refine jx_then ?_
      refine jc_cond (decide (x0 < y1)) (by kernel_rfl) (fun hc_10 => ?_) (fun hc_10 => ?_)
      · replace h := ifT hc_10 h
        refine jc_seq ?_
        refine jc_region ?_
        refine jo_f [(0, 0)] (by kernel_rfl) ?_
        refine jo_end (by kernel_rfl) ?_
        refine jx_then ?_
        refine jc_ret ?_
        refine jx_thenr ?_
        obtain rfl := Option.some.inj h
        exact jx_ret [] (.int .i64 (-1)) [] rfl (by kernel_rfl) (by kernel_rfl) (fun w hm => ⟨rfl, hm.pick [] (by kernel_rfl) (by kernel_rfl)⟩)
      · replace h := ifF hc_10 h
        refine jc_skip ?_
        refine jx_then ?_
        refine jc_seq ?_
        refine jc_seq ?_
        refine jc_region ?_
        refine jo_f [(0, 0), (0, 0), (0, 0)] (by kernel_rfl) ?_
        refine jo_end (by kernel_rfl) ?_
        refine jx_then ?_
        refine jc_cond (decide (x0 > y1)) (by kernel_rfl) (fun hc_11 => ?_) (fun hc_11 => ?_)
        · replace h := ifT hc_11 h
          refine jc_seq ?_
          refine jc_region ?_
          refine jo_f [(0, 0)] (by kernel_rfl) ?_
          refine jo_end (by kernel_rfl) ?_
          refine jx_then ?_
          refine jc_ret ?_
          refine jx_thenr ?_
          obtain rfl := Option.some.inj h
          exact jx_ret [] (.int .i64 1) [] rfl (by kernel_rfl) (by kernel_rfl) (fun w hm => ⟨rfl, hm.pick [] (by kernel_rfl) (by kernel_rfl)⟩)
        · replace h := ifF hc_11 h
          refine jc_skip ?_
          refine jx_then ?_
          refine jc_seq ?_
          refine jc_region ?_
          refine jo_f [(0, 0)] (by kernel_rfl) ?_
          refine jo_end (by kernel_rfl) ?_
          refine jx_then ?_
          refine jc_ret ?_
          obtain rfl := Option.some.inj h
          exact jx_ret [] (.int .i64 0) [] rfl (by kernel_rfl) (by kernel_rfl) (fun w hm => ⟨rfl, hm.pick [] (by kernel_rfl) (by kernel_rfl)⟩)

/-! ### cmp.isNaN[int8] -/
noncomputable def cmp_isNaN_int8 (x0 : Int) : Option (Bool) := some (x0 != x0)
set_option maxRecDepth 100000 in
theorem cmp_isNaN_int8.calls (x0 : Int) (w : World) (r : Bool) (h : cmp_isNaN_int8 x0 = some r) :
    Calls Try.prog 70 #[(.int .i8 x0)] w fun e w' => ∃ v, e = .returned v ∧ (v = (.bool r) ∧ Mem w [] [] w') := by
  rw [cmp_isNaN_int8] at h
  refine enter (args := [(.int .i8 x0)]) Try.func70 rfl Try.ntmps70 (by kernel_rfl) (L := []) (W := []) (Mem.start w) ?_
  refine jc_seq ?_
  refine jc_region ?_
  refine jo_f [(0, 0)] (by kernel_rfl) ?_
  refine jo_end (by kernel_rfl) ?_
  refine jx_then ?_
  refine jc_seq ?_
  refine jc_region ?_
  refine jo_f [(0, 0), (0, 0), (0, 0), (0, 0)] (by kernel_rfl) ?_
  refine jo_end (by kernel_rfl) ?_
  refine jx_then ?_
  refine jc_ret ?_
  obtain rfl := Option.some.inj h
  exact jx_ret [] (.bool (x0 != x0)) [] rfl (by kernel_rfl) (by kernel_rfl) (fun w hm => ⟨rfl, hm.pick [] (by kernel_rfl) (by kernel_rfl)⟩)

/-! ### cmp.Compare[int8] -/
noncomputable def cmp_Compare_int8 (x0 : Int) (y1 : Int) : Option (Int) := (cmp_isNaN_int8 x0).bind fun t_1 => (cmp_isNaN_int8 y1).bind fun t_2 => (if t_1 = true then (if t_2 = true then some 0 else some (-1)) else (if t_2 = true then some 1 else (if (decide (x0 < y1)) = true then some (-1) else (if (decide (x0 > y1)) = true then some 1 else some 0))))
set_option maxRecDepth 100000 in
theorem cmp_Compare_int8.calls (x0 : Int) (y1 : Int) (w : World) (r : Int) (h : cmp_Compare_int8 x0 y1 = some r) :
    Calls Try.prog 68 #[(.int .i8 x0), (.int .i8 y1)] w fun e w' => ∃ v, e = .returned v ∧ (v = (.int .i64 r) ∧ Mem w [] [] w') := by
  rw [cmp_Compare_int8] at h
  refine enter (args := [(.int .i8 x0), (.int .i8 y1)]) Try.func68 rfl Try.ntmps68 (by kernel_rfl) (L := []) (W := []) (Mem.start w) ?_
  refine jc_seq ?_
  refine jc_region ?_
  refine jo_f [(0, 0)] (by kernel_rfl) ?_
  refine jo_end (by kernel_rfl) ?_
  refine jx_then ?_
  refine jc_seq ?_
  refine jc_region ?_
  refine jo_f [(0, 0)] (by kernel_rfl) ?_
  obtain ⟨t_1, ht_1, h⟩ := bd h
  refine toO (by kernel_rfl) (p_call 0 70 #[(.int .i8 x0)] (by kernel_rfl) (by kernel_rfl) (fun w hm => cmp_isNaN_int8.calls x0 w _ ht_1) ?_)
  rintro w v w' hm ⟨rfl, hm'⟩
  refine ⟨_, hm.app hm', jkO ?_⟩
  clear hm hm'
  refine jo_f [(0, 0)] (by kernel_rfl) ?_
  refine jo_end (by kernel_rfl) ?_
  refine jx_then ?_
  refine jc_seq ?_
  refine jc_region ?_
  refine jo_f [(0, 0)] (by kernel_rfl) ?_
  obtain ⟨t_2, ht_2, h⟩ := bd h
  refine toO (by kernel_rfl) (p_call 0 70 #[(.int .i8 y1)] (by kernel_rfl) (by kernel_rfl) (fun w hm => cmp_isNaN_int8.calls y1 w _ ht_2) ?_)
  rintro w v w' hm ⟨rfl, hm'⟩
  refine ⟨_, hm.app hm', jkO ?_⟩
  clear hm hm'
  refine jo_f [(0, 0)] (by kernel_rfl) ?_
  refine jo_end (by kernel_rfl) ?_
  refine jx_then ?_
  refine jc_seq ?_
  refine jc_seq ?_
  refine jc_region ?_
  refine jo_f [(0, 0)] (by kernel_rfl) ?_
  refine jo_end (by kernel_rfl) ?_
  refine jx_then ?_
  refine jc_cond t_1 (by kernel_rfl) (fun hc_5 => ?_) (fun hc_5 => ?_)
  · replace h := ifT hc_5 h
    refine jc_seq ?_
    refine jc_seq ?_
    refine jc_region ?_
    refine jo_f [(0, 0)] (by kernel_rfl) ?_
    refine jo_end (by kernel_rfl) ?_
    refine jx_then ?_
    refine jc_cond t_2 (by kernel_rfl) (fun hc_6 => ?_) (fun hc_6 => ?_)
    · replace h := ifT hc_6 h
      refine jc_seq ?_
      refine jc_region ?_
      refine jo_f [(0, 0)] (by kernel_rfl) ?_
      refine jo_end (by kernel_rfl) ?_
      refine jx_then ?_
      refine jc_ret ?_
      refine jx_thenr ?_
      refine jx_thenr ?_
      obtain rfl := Option.some.inj h
      exact jx_ret [] (.int .i64 0) [] rfl (by kernel_rfl) (by kernel_rfl) (fun w hm => ⟨rfl, hm.pick [] (by kernel_rfl) (by kernel_rfl)⟩)
    · replace h := ifF hc_6 h
      refine jc_skip ?_
      refine jx_then ?_
      refine jc_seq ?_
      refine jc_region ?_
      refine jo_f [(0, 0)] (by kernel_rfl) ?_
      refine jo_end (by kernel_rfl) ?_
      refine jx_then ?_
      refine jc_ret ?_
      refine jx_thenr ?_
      obtain rfl := Option.some.inj h
      exact jx_ret [] (.int .i64 (-1)) [] rfl (by kernel_rfl) (by kernel_rfl) (fun w hm => ⟨rfl, hm.pick [] (by kernel_rfl) (by kernel_rfl)⟩)
  · replace h := ifF hc_5 h
    refine jc_skip ?_
    refine jx_then ?_
    refine jc_seq ?_
    refine jc_seq ?_
    refine jc_region ?_
    refine jo_f [(0, 0)] (by kernel_rfl) ?_
    refine jo_end (by kernel_rfl) ?_
    refine jx_then ?_
    refine jc_cond t_2 (by kernel_rfl) (fun hc_8 => ?_) (fun hc_8 => ?_)
    · replace h := ifT hc_8 h
      refine jc_seq ?_
      refine jc_region ?_
      refine jo_f [(0, 0)] (by kernel_rfl) ?_
      refine jo_end (by kernel_rfl) ?_
      refine jx_then ?_
      refine jc_ret ?_
      refine jx_thenr ?_
      obtain rfl := Option.some.inj h
      exact jx_ret [] (.int .i64 1) [] rfl (by kernel_rfl) (by kernel_rfl) (fun w hm => ⟨rfl, hm.pick [] (by kernel_rfl) (by kernel_rfl)⟩)
    · replace h := ifF hc_8 h
      refine jc_skip ?_
      refine jx_then ?_
      refine jc_seq ?_
      refine jc_seq ?_
      refine jc_region ?_
      refine jo_f [(0, 0), (0, 0), (0, 0)] (by kernel_rfl) ?_
      refine jo_end (by kernel_rfl) ?_
      refine jx_then ?_
      refine jc_cond (decide (x0 < y1)) (by kernel_rfl) (fun hc_10 => ?_) (fun hc_10 => ?_)
      · replace h := ifT hc_10 h
        refine jc_seq ?_
        refine jc_region ?_
        refine jo_f [(0, 0)] (by kernel_rfl) ?_
        refine jo_end (by kernel_rfl) ?_
        refine jx_then ?_
        refine jc_ret ?_
        refine jx_thenr ?_
        obtain rfl := Option.some.inj h
        exact jx_ret [] (.int .i64 (-1)) [] rfl (by kernel_rfl) (by kernel_rfl) (fun w hm => ⟨rfl, hm.pick [] (by kernel_rfl) (by kernel_rfl)⟩)
      · replace h := ifF hc_10 h
        refine jc_skip ?_
        refine jx_then ?_
        refine jc_seq ?_
        refine jc_seq ?_
        refine jc_region ?_
        refine jo_f [(0, 0), (0, 0), (0, 0)] (by kernel_rfl) ?_
        refine jo_end (by kernel_rfl) ?_
        refine jx_then ?_
        refine jc_cond (decide (x0 > y1)) (by kernel_rfl) (fun hc_11 => ?_) (fun hc_11 => ?_)
        · replace h := ifT hc_11 h
          refine jc_seq ?_
          refine jc_region ?_
          refine jo_f [(0, 0)] (by kernel_rfl) ?_
          refine jo_end (by kernel_rfl) ?_
          refine jx_then ?_
          refine jc_ret ?_
          refine jx_thenr ?_
          obtain rfl := Option.some.inj h
          exact jx_ret [] (.int .i64 1) [] rfl (by kernel_rfl) (by kernel_rfl) (fun w hm => ⟨rfl, hm.pick [] (by kernel_rfl) (by kernel_rfl)⟩)
        · replace h := ifF hc_11 h
          refine jc_skip ?_
          refine jx_then ?_
          refine jc_seq ?_
          refine jc_region ?_
          refine jo_f [(0, 0)] (by kernel_rfl) ?_
          refine jo_end (by kernel_rfl) ?_
          refine jx_then ?_
          refine jc_ret ?_
          obtain rfl := Option.some.inj h
          exact jx_ret [] (.int .i64 0) [] rfl (by kernel_rfl) (by kernel_rfl) (fun w hm => ⟨rfl, hm.pick [] (by kernel_rfl) (by kernel_rfl)⟩)

/-! ### cmp.Or[int] -/
noncomputable def cmp_Or_int.k_1 : Option (Int) := some 0
noncomputable def cmp_Or_int.l_3 (vals0 : List Int) : Int → Option ((Int) ⊕ (Int ⊕ Unit))
  | i_2 => (if (decide (i_2 < (vals0.length : Int))) = true then (ix vals0 i_2).bind fun x_5 => (if (x_5 != 0) = true then some (.inr (.inl x_5)) else some (.inl (w64 (i_2 + 1)))) else some (.inr (.inr ())))
noncomputable def cmp_Or_int (vals0 : List Int) : Option (Int) := (loop (cmp_Or_int.l_3 vals0) 0).bind fun t_4 => match t_4 with | .inl p => some p | .inr p => cmp_Or_int.k_1
set_option maxRecDepth 100000 in
theorem cmp_Or_int.calls (vals0 : List Int) (w : World) (r : Int) (vals0_a : Option Addr) (vals0_an : Nat) (vals0_c : Nat) (vals0_h : Rw w vals0_a 1 encI64 vals0) (vals0_hn : vals0.length = vals0_an) (h : cmp_Or_int vals0 = some r) :
    Calls Try.prog 66 #[(.slice vals0_a vals0_an vals0_c)] w fun e w' => ∃ v, e = .returned v ∧ (v = (.int .i64 r) ∧ Mem w [] [] w') := by
  subst vals0_hn
  rw [cmp_Or_int] at h
  refine enter (args := [(.slice vals0_a vals0.length vals0_c)]) Try.func66 rfl Try.ntmps66 (by kernel_rfl) (L := []) (W := []) (Mem.start w) ?_
  refine jc_seq ?_
  refine jc_region ?_
  refine jo_f [(0, 0)] (by kernel_rfl) ?_
  refine jo_end (by kernel_rfl) ?_
  refine jx_then ?_
  refine jc_seq ?_
  refine jc_region ?_
  refine jo_f [(0, 0)] (by kernel_rfl) ?_
  refine jo_end (by kernel_rfl) ?_
  refine jx_then ?_
  refine jc_seq ?_
  refine jc_seq ?_
  refine jc_region ?_
  refine jo_f [(0, 0), (0, 0), (0, 0)] (by kernel_rfl) ?_
  refine jo_end (by kernel_rfl) ?_
  refine jx_then ?_
  refine jc_meet (fun (_ : Unit) => cmp_Or_int.k_1 = some r) (fun (_ : Unit) => [(2, [], (.int .i64 0)), (3, [], (.int .i64 0))]) (fun (_ : Unit) => []) ?_ ?_
  · refine jc_block ?_
    obtain ⟨t_4, ht_68, hr_60⟩ := bd h
    refine jc_loop (fun (s : Int) (x : Unit) => match s, x with | i_2, _ => True) (fun (s : Int) (x : Unit) => match s, x with | i_2, _ => [(2, [], (.int .i64 0)), (3, [], (.int .i64 0)), (6, [], (.slice vals0_a vals0.length vals0_c)), (7, [], (.int .i64 (vals0.length : Int))), (8, [], (.int .i64 i_2))]) (fun (s : Int) (x : Unit) => match s, x with | i_2, _ => []) ht_68 () trivial (by kernel_rfl) [] (by kernel_rfl) (by kernel_rfl) ?_
    rintro i_2 _ y_61 _ h
    rw [cmp_Or_int.l_3] at h
    refine jc_seq ?_
    refine jc_region ?_
    refine jo_f [(0, 0)] (by kernel_rfl) ?_
    refine jo_end (by kernel_rfl) ?_
    refine jx_then ?_
    refine jc_seq ?_
    refine jc_cond (decide (i_2 < (vals0.length : Int))) (by kernel_rfl) (fun hc_63 => ?_) (fun hc_63 => ?_)
    · replace h := ifT hc_63 h
      refine jc_skip ?_
      refine jx_then ?_
      refine jc_seq ?_
      refine jc_block ?_
      refine jc_seq ?_
      refine jc_region ?_
      obtain ⟨x_5, hx_64, h⟩ := bd h
      refine toO (by kernel_rfl) (p_idx 0 vals0_a vals0.length i_2 1 (by kernel_rfl) (by kernel_rfl) (ix_some hx_64).1 (ltn hx_64 rfl) (vals0_h.sp hx_64) (jkO ?_))
      refine toO (by kernel_rfl) (p_ld 0 (aB vals0_a) (aO vals0_a + i_2.toNat * 1) false (encI64 x_5) (by kernel_rfl) (by kernel_rfl) (by kernel_rfl) (fun w hm => ((hm.exRow vals0_h List.not_mem_nil).at hx_64)) (jkO ?_))
      refine jo_f [(0, 0)] (by kernel_rfl) ?_
      refine jo_end (by kernel_rfl) ?_
      refine jx_then ?_
      refine jc_seq ?_
      refine jc_region ?_
      refine jo_f [(0, 0), (0, 0), (0, 0)] (by kernel_rfl) ?_
      refine jo_end (by kernel_rfl) ?_
      refine jx_then ?_
      refine jc_cond (x_5 != 0) (by kernel_rfl) (fun hc_65 => ?_) (fun hc_65 => ?_)
      · replace h := ifT hc_65 h
        refine jc_seq ?_
        refine jc_region ?_
        refine jo_f [(0, 0), (0, 0)] (by kernel_rfl) ?_
        refine jo_end (by kernel_rfl) ?_
        refine jx_then ?_
        refine jc_ret ?_
        refine jx_inr ?_
        refine jx_thenr ?_
        refine jx_leaver (.inl x_5) (Option.some.inj h).symm (fun e_66 => ?_)
        subst e_66
        refine jx_inr ?_
        refine jx_thenr ?_
        refine jx_thenr ?_
        obtain rfl := Option.some.inj hr_60
        exact jx_ret [] (.int .i64 x_5) [] rfl (by kernel_rfl) (by kernel_rfl) (fun w hm => ⟨rfl, hm.pick [] (by kernel_rfl) (by kernel_rfl)⟩)
      · replace h := ifF hc_65 h
        refine jc_skip ?_
        refine jx_inn ?_
        refine jx_then ?_
        refine jc_region ?_
        refine jo_f [(0, 0), (0, 0)] (by kernel_rfl) ?_
        refine jo_end (by kernel_rfl) ?_
        exact jx_back (w64 (i_2 + 1)) () (Option.some.inj h).symm trivial [] (by kernel_rfl) (by kernel_rfl) (by kernel_rfl)
    · replace h := ifF hc_63 h
      refine jc_exit ?_
      refine jx_thenx ?_
      refine jx_leave (.inr ()) (Option.some.inj h).symm (fun e_67 => ?_)
      subst e_67
      refine jx_ine ?_
      exact jx_meet () hr_60 (by kernel_rfl) [] (by kernel_rfl) (by kernel_rfl)
  · rintro _ h
    replace h : cmp_Or_int.k_1 = some r := h
    rw [cmp_Or_int.k_1] at h
    refine jx_then ?_
    refine jc_seq ?_
    refine jc_region ?_
    refine jo_f [(0, 0), (0, 0)] (by kernel_rfl) ?_
    refine jo_end (by kernel_rfl) ?_
    refine jx_then ?_
    refine jc_ret ?_
    obtain rfl := Option.some.inj h
    exact jx_ret [] (.int .i64 0) [] rfl (by kernel_rfl) (by kernel_rfl) (fun w hm => ⟨rfl, hm.pick [] (by kernel_rfl) (by kernel_rfl)⟩)

/-! ### impl.compareNotes -/
noncomputable def impl_compareNotes (a0 : GNote) (b1 : GNote) : Option (Int) := (cmp_Compare_int16 a0.fAt b1.fAt).bind fun t_1 => (cmp_Compare_int8 a0.fPitch b1.fPitch).bind fun t_2 => (cmp_Or_int [t_1, t_2]).bind fun t_3 => some t_3
set_option maxRecDepth 100000 in
theorem impl_compareNotes.calls (a0 : GNote) (b1 : GNote) (w : World) (r : Int) (h : impl_compareNotes a0 b1 = some r) :
    Calls Try.prog 64 #[(.agg #[(.int .i16 a0.fAt), (.int .i8 a0.fPitch)]), (.agg #[(.int .i16 b1.fAt), (.int .i8 b1.fPitch)])] w fun e w' => ∃ v, e = .returned v ∧ (v = (.int .i64 r) ∧ Mem w [] [] w') := by
  rw [impl_compareNotes] at h
  refine enter (args := [(.agg #[(.int .i16 a0.fAt), (.int .i8 a0.fPitch)]), (.agg #[(.int .i16 b1.fAt), (.int .i8 b1.fPitch)])]) Try.func64 rfl Try.ntmps64 (by kernel_rfl) (L := []) (W := []) (Mem.start w) ?_
  refine jc_seq ?_
  refine jc_region ?_
  refine toO (by kernel_rfl) (p_a 0 [0] (by kernel_rfl) (fun b => by kernel_rfl) (fun b_1 => jkO ?_))
  refine toO (by kernel_rfl) (p_a 0 [0] (by kernel_rfl) (fun b => by kernel_rfl) (fun b_2 => jkO ?_))
  refine jo_f [(0, 0)] (by kernel_rfl) ?_
  refine jo_end (by kernel_rfl) ?_
  refine jx_then ?_
  refine jc_seq ?_
  refine jc_draw [⟨some b_1, 53, [(.int .i16 a0.fAt), (.int .i8 a0.fPitch)]⟩, ⟨some b_2, 53, [(.int .i16 b1.fAt), (.int .i8 b1.fPitch)]⟩] 13 (by kernel_rfl) (by kernel_rfl) ?_
  refine jd_f [⟨0, 0, 0⟩, ⟨1, 0, 0⟩, ⟨2, 0, 0⟩, ⟨3, 1, 0⟩, ⟨5, 0, 0⟩, ⟨6, 0, 0⟩, ⟨7, 0, 0⟩, ⟨8, 1, 0⟩] 5 (by kernel_rfl) (by kernel_rfl) (fun w h => h.pick [0, 1] (by kernel_rfl) (by kernel_rfl)) (by kernel_rfl) (by kernel_rfl) ?_
  obtain ⟨t_1, ht_3, h⟩ := bd h
  refine toD 4 (by kernel_rfl) (p_call 0 67 #[(.int .i16 a0.fAt), (.int .i16 b1.fAt)] (by kernel_rfl) (by kernel_rfl) (fun w hm => cmp_Compare_int16.calls a0.fAt b1.fAt w _ ht_3) ?_)
  rintro w v w' hm ⟨rfl, hm'⟩
  refine ⟨_, hm.app hm', jkD (fun w h => h.pick [0, 1] (by kernel_rfl) (by kernel_rfl)) ?_⟩
  clear hm hm'
  obtain ⟨t_2, ht_4, h⟩ := bd h
  refine toD 9 (by kernel_rfl) (p_call 0 68 #[(.int .i8 a0.fPitch), (.int .i8 b1.fPitch)] (by kernel_rfl) (by kernel_rfl) (fun w hm => cmp_Compare_int8.calls a0.fPitch b1.fPitch w _ ht_4) ?_)
  rintro w v w' hm ⟨rfl, hm'⟩
  refine ⟨_, hm.app hm', jkD (fun w h => h.pick [0, 1] (by kernel_rfl) (by kernel_rfl)) ?_⟩
  clear hm hm'
  refine toD 10 (by kernel_rfl) (p_a 0 [0] (by kernel_rfl) (fun b => by kernel_rfl) (fun b_5 => jkD (fun w h => h.pick [0, 1] (by kernel_rfl) (by kernel_rfl)) ?_))
  obtain ⟨t_3, ht_6, h⟩ := bd h
  refine toD 11 (by kernel_rfl) (p_call 0 66 #[(.slice (some ⟨b_5, 0, none⟩) 2 2)] (by kernel_rfl) (by kernel_rfl) (fun w hm => cmp_Or_int.calls [t_1, t_2] w _ (some ⟨b_5, 0, none⟩) 2 2 (hm.ownRow (hh := 2) (o := (some b_5)) (T := 3) (enc := encI64) (xs := [t_1, t_2]) (sp := []) (by kernel_rfl) (fun e => nomatch e) encI64_len) rfl ht_6) ?_)
  rintro w v w' hm ⟨rfl, hm'⟩
  refine ⟨_, hm.app hm', jkD (fun w h => h.pick [0, 1] (by kernel_rfl) (by kernel_rfl)) ?_⟩
  clear hm hm'
  refine jd_f [⟨12, 0, 0⟩] 0 (by kernel_rfl) (by kernel_rfl) (fun w h => h.pick [0, 1] (by kernel_rfl) (by kernel_rfl)) (by kernel_rfl) (by kernel_rfl) ?_
  refine jd_end (by kernel_rfl) ?_
  refine jx_then ?_
  refine jc_ret ?_
  obtain rfl := Option.some.inj h
  exact jx_ret [] (.int .i64 t_3) [] rfl (by kernel_rfl) (by kernel_rfl) (fun w hm => ⟨rfl, hm.pick [] (by kernel_rfl) (by kernel_rfl)⟩)

/-! ### impl.ValidTune -/
noncomputable def impl_ValidTune.k_1 (t0 : List GNote) : Option (Bool) := some (decide ((t0.length : Int) ≤ 120))
noncomputable def impl_ValidTune.k_7 (i_2 : Int) (q_6 : Bool) : Option ((Int) ⊕ (Bool ⊕ Unit)) := (if q_6 = true then some (.inr (.inl false)) else some (.inl (w64 (i_2 + 1))))
noncomputable def impl_ValidTune.l_3 (t0 : List GNote) : Int → Option ((Int) ⊕ (Bool ⊕ Unit))
  | i_2 => (if (decide (i_2 < (t0.length : Int))) = true then (ix t0 i_2).bind fun x_5 => (impl_isNote x_5).bind fun t_8 => (if (!t_8) = true then impl_ValidTune.k_7 i_2 true else (if (decide (i_2 > 0)) = true then (ix t0 (w64 (i_2 - 1))).bind fun x_9 => (impl_compareNotes x_9 x_5).bind fun t_10 => impl_ValidTune.k_7 i_2 (decide (t_10 ≥ 0)) else impl_ValidTune.k_7 i_2 false)) else some (.inr (.inr ())))
noncomputable def impl_ValidTune (t0 : List GNote) : Option (Bool) := (loop (impl_ValidTune.l_3 t0) 0).bind fun t_4 => match t_4 with | .inl p => some p | .inr p => impl_ValidTune.k_1 t0
set_option maxRecDepth 100000 in
theorem impl_ValidTune.calls (t0 : List GNote) (w : World) (r : Bool) (t0_a : Option Addr) (t0_an : Nat) (t0_c : Nat) (t0_h : Rw w t0_a 2 encGNote t0) (t0_hn : t0.length = t0_an) (h : impl_ValidTune t0 = some r) :
    Calls Try.prog 55 #[(.slice t0_a t0_an t0_c)] w fun e w' => ∃ v, e = .returned v ∧ (v = (.bool r) ∧ Mem w [] [] w') := by
  subst t0_hn
  rw [impl_ValidTune] at h
  refine enter (args := [(.slice t0_a t0.length t0_c)]) Try.func55 rfl Try.ntmps55 (by kernel_rfl) (L := []) (W := []) (Mem.start w) ?_
  refine jc_seq ?_
  refine jc_region ?_
  refine jo_f [(0, 0)] (by kernel_rfl) ?_
  refine jo_end (by kernel_rfl) ?_
  refine jx_then ?_
  refine jc_seq ?_
  refine jc_seq ?_
  refine jc_region ?_
  refine jo_f [(0, 0), (0, 0), (0, 0)] (by kernel_rfl) ?_
  refine jo_end (by kernel_rfl) ?_
  refine jx_then ?_
  refine jc_meet (fun (_ : Unit) => impl_ValidTune.k_1 t0 = some r) (fun (_ : Unit) => [(0, [], (.slice t0_a t0.length t0_c)), (2, [], (.bool false))]) (fun (_ : Unit) => []) ?_ ?_
  · refine jc_block ?_
    obtain ⟨t_4, ht_200, hr_181⟩ := bd h
    refine jc_loop (fun (s : Int) (x : Unit) => match s, x with | i_2, _ => True) (fun (s : Int) (x : Unit) => match s, x with | i_2, _ => [(0, [], (.slice t0_a t0.length t0_c)), (2, [], (.bool false)), (5, [], (.slice t0_a t0.length t0_c)), (6, [], (.int .i64 (t0.length : Int))), (7, [], (.int .i64 i_2))]) (fun (s : Int) (x : Unit) => match s, x with | i_2, _ => []) ht_200 () trivial (by kernel_rfl) [] (by kernel_rfl) (by kernel_rfl) ?_
    rintro i_2 _ y_182 _ h
    rw [impl_ValidTune.l_3] at h
    refine jc_seq ?_
    refine jc_region ?_
    refine jo_f [(0, 0)] (by kernel_rfl) ?_
    refine jo_end (by kernel_rfl) ?_
    refine jx_then ?_
    refine jc_seq ?_
    refine jc_cond (decide (i_2 < (t0.length : Int))) (by kernel_rfl) (fun hc_184 => ?_) (fun hc_184 => ?_)
    · replace h := ifT hc_184 h
      refine jc_skip ?_
      refine jx_then ?_
      refine jc_seq ?_
      refine jc_block ?_
      refine jc_seq ?_
      refine jc_region ?_
      refine jo_f [(0, 0)] (by kernel_rfl) ?_
      obtain ⟨x_5, hx_185, h⟩ := bd h
      refine toO (by kernel_rfl) (p_idx 0 t0_a t0.length i_2 2 (by kernel_rfl) (by kernel_rfl) (ix_some hx_185).1 (ltn hx_185 rfl) (t0_h.sp hx_185) (jkO ?_))
      refine toO (by kernel_rfl) (p_ld 0 (aB t0_a) (aO t0_a + i_2.toNat * 2) true (encGNote x_5) (by kernel_rfl) (by kernel_rfl) (by kernel_rfl) (fun w hm => ((hm.exRow t0_h List.not_mem_nil).at hx_185)) (jkO ?_))
      refine toO (by kernel_rfl) (p_a 0 [0] (by kernel_rfl) (fun b => by kernel_rfl) (fun b_186 => jkO ?_))
      refine jo_f [(0, 0)] (by kernel_rfl) ?_
      refine toO (by kernel_rfl) (p_s 0 [0] (by kernel_rfl) (by kernel_rfl) (jkO ?_))
      refine jo_end (by kernel_rfl) ?_
      refine jx_then ?_
      refine jc_seq ?_
      refine jc_meet (fun (j : Bool) => match j with | q_6 => impl_ValidTune.k_7 i_2 q_6 = some y_182) (fun (j : Bool) => match j with | q_6 => [(0, [], (.slice t0_a t0.length t0_c)), (2, [], (.bool false)), (5, [], (.slice t0_a t0.length t0_c)), (6, [], (.int .i64 (t0.length : Int))), (7, [], (.int .i64 i_2)), (28, [], (.bool q_6))]) (fun (j : Bool) => match j with | q_6 => [⟨some b_186, 53, [(.int .i16 x_5.fAt), (.int .i8 x_5.fPitch)]⟩]) ?_ ?_
      · refine jc_draw [⟨some b_186, 53, [(.int .i16 x_5.fAt), (.int .i8 x_5.fPitch)]⟩] 17 (by kernel_rfl) (by kernel_rfl) ?_
        refine jd_f [⟨0, 0, 0⟩] 16 (by kernel_rfl) (by kernel_rfl) (fun w h => h.pick [0] (by kernel_rfl) (by kernel_rfl)) (by kernel_rfl) (by kernel_rfl) ?_
        obtain ⟨t_8, ht_194, h⟩ := bd h
        refine toD 1 (by kernel_rfl) (p_call 0 63 #[(.agg #[(.int .i16 x_5.fAt), (.int .i8 x_5.fPitch)])] (by kernel_rfl) (by kernel_rfl) (fun w hm => impl_isNote.calls x_5 w _ ht_194) ?_)
        rintro w v w' hm ⟨rfl, hm'⟩
        refine ⟨_, hm.app hm', jkD (fun w h => h.pick [0] (by kernel_rfl) (by kernel_rfl)) ?_⟩
        clear hm hm'
        refine jd_f [⟨2, 0, 0⟩, ⟨3, 0, 0⟩, ⟨4, 0, 1⟩, ⟨5, 0, 1⟩] 11 (by kernel_rfl) (by kernel_rfl) (fun w h => h.pick [0] (by kernel_rfl) (by kernel_rfl)) (by kernel_rfl) (by kernel_rfl) ?_
        refine jd_split 15 (!t_8) (by kernel_rfl) (fun hc_195 => ?_) (fun hc_195 => ?_)
        · replace h := ifT hc_195 h
          refine jd_f [⟨6, 0, 3⟩, ⟨7, 0, 3⟩, ⟨8, 0, 3⟩, ⟨9, 0, 3⟩, ⟨10, 0, 3⟩, ⟨11, 0, 3⟩, ⟨12, 0, 3⟩, ⟨13, 0, 3⟩, ⟨14, 0, 3⟩, ⟨15, 0, 3⟩, ⟨16, 0, 4⟩] 0 (by kernel_rfl) (by kernel_rfl) (fun w h => h.pick [0] (by kernel_rfl) (by kernel_rfl)) (by kernel_rfl) (by kernel_rfl) ?_
          refine jd_end (by kernel_rfl) ?_
          exact jx_meet true h (by kernel_rfl) [0] (by kernel_rfl) (by kernel_rfl)
        · replace h := ifF hc_195 h
          refine jd_f [⟨6, 0, 2⟩, ⟨7, 0, 1⟩, ⟨8, 0, 1⟩, ⟨9, 0, 1⟩, ⟨12, 0, 1⟩] 6 (by kernel_rfl) (by kernel_rfl) (fun w h => h.pick [0] (by kernel_rfl) (by kernel_rfl)) (by kernel_rfl) (by kernel_rfl) ?_
          refine jd_split 18 (decide (i_2 > 0)) (by kernel_rfl) (fun hc_196 => ?_) (fun hc_196 => ?_)
          · replace h := ifT hc_196 h
            obtain ⟨x_9, hx_197, h⟩ := bd h
            refine jd_v 10 2 (by kernel_rfl) (fun w h => h.pick [0] (by kernel_rfl) (by kernel_rfl)) (by kernel_rfl) (by kernel_rfl) _ (fun w hm => idx_run (a := t0_a) (len := t0.length) (s := 2) (j := (w64 (i_2 - 1))) (by kernel_rfl) (ix_some hx_197).1 (ltn hx_197 rfl) (t0_h.sp hx_197)) ?_
            refine jd_v 11 2 (by kernel_rfl) (fun w h => h.pick [0] (by kernel_rfl) (by kernel_rfl)) (by kernel_rfl) (by kernel_rfl) _ (fun w hm => ld_run (b := aB t0_a) (off := (aO t0_a + (w64 (i_2 - 1)).toNat * 2)) (s := 2) (agg := true) (vs := (encGNote x_9)) (by kernel_rfl) (by kernel_rfl) (.inl rfl) ((hm.exRow t0_h List.not_mem_nil).at hx_197)) ?_
            obtain ⟨t_10, ht_198, h⟩ := bd h
            refine toD 13 (by kernel_rfl) (p_call 2 64 #[(.agg #[(.int .i16 x_9.fAt), (.int .i8 x_9.fPitch)]), (.agg #[(.int .i16 x_5.fAt), (.int .i8 x_5.fPitch)])] (by kernel_rfl) (by kernel_rfl) (fun w hm => impl_compareNotes.calls x_9 x_5 w _ ht_198) ?_)
            rintro w v w' hm ⟨rfl, hm'⟩
            refine ⟨_, hm.app hm', jkD (fun w h => h.pick [0] (by kernel_rfl) (by kernel_rfl)) ?_⟩
            clear hm hm'
            refine jd_f [⟨14, 0, 2⟩, ⟨15, 0, 4⟩, ⟨16, 0, 5⟩] 0 (by kernel_rfl) (by kernel_rfl) (fun w h => h.pick [0] (by kernel_rfl) (by kernel_rfl)) (by kernel_rfl) (by kernel_rfl) ?_
            refine jd_end (by kernel_rfl) ?_
            exact jx_meet (decide (t_10 ≥ 0)) h (by kernel_rfl) [0] (by kernel_rfl) (by kernel_rfl)
          · replace h := ifF hc_196 h
            refine jd_f [⟨10, 0, 3⟩, ⟨11, 0, 3⟩, ⟨13, 0, 3⟩, ⟨14, 0, 3⟩, ⟨15, 0, 5⟩, ⟨16, 0, 5⟩] 0 (by kernel_rfl) (by kernel_rfl) (fun w h => h.pick [0] (by kernel_rfl) (by kernel_rfl)) (by kernel_rfl) (by kernel_rfl) ?_
            refine jd_end (by kernel_rfl) ?_
            exact jx_meet false h (by kernel_rfl) [0] (by kernel_rfl) (by kernel_rfl)
      · rintro q_6 h
        replace h : impl_ValidTune.k_7 i_2 q_6 = some y_182 := h
        rw [impl_ValidTune.k_7] at h
        refine jx_then ?_
        refine jc_cond q_6 (by kernel_rfl) (fun hc_192 => ?_) (fun hc_192 => ?_)
        · replace h := ifT hc_192 h
          refine jc_seq ?_
          refine jc_region ?_
          refine jo_f [(0, 0)] (by kernel_rfl) ?_
          refine jo_end (by kernel_rfl) ?_
          refine jx_then ?_
          refine jc_ret ?_
          refine jx_inr ?_
          refine jx_thenr ?_
          refine jx_leaver (.inl false) (Option.some.inj h).symm (fun e_193 => ?_)
          subst e_193
          refine jx_inr ?_
          refine jx_thenr ?_
          refine jx_thenr ?_
          obtain rfl := Option.some.inj hr_181
          exact jx_ret [] (.bool false) [] rfl (by kernel_rfl) (by kernel_rfl) (fun w hm => ⟨rfl, hm.pick [] (by kernel_rfl) (by kernel_rfl)⟩)
        · replace h := ifF hc_192 h
          refine jc_skip ?_
          refine jx_inn ?_
          refine jx_then ?_
          refine jc_region ?_
          refine jo_f [(0, 0), (0, 0)] (by kernel_rfl) ?_
          refine jo_end (by kernel_rfl) ?_
          exact jx_back (w64 (i_2 + 1)) () (Option.some.inj h).symm trivial [] (by kernel_rfl) (by kernel_rfl) (by kernel_rfl)
    · replace h := ifF hc_184 h
      refine jc_exit ?_
      refine jx_thenx ?_
      refine jx_leave (.inr ()) (Option.some.inj h).symm (fun e_199 => ?_)
      subst e_199
      refine jx_ine ?_
      exact jx_meet () hr_181 (by kernel_rfl) [] (by kernel_rfl) (by kernel_rfl)
  · rintro _ h
    replace h : impl_ValidTune.k_1 t0 = some r := h
    rw [impl_ValidTune.k_1] at h
    refine jx_then ?_
    refine jc_seq ?_
    refine jc_region ?_
    refine jo_f [(0, 0), (0, 0), (0, 0), (0, 0)] (by kernel_rfl) ?_
    refine jo_end (by kernel_rfl) ?_
    refine jx_then ?_
    refine jc_ret ?_
    obtain rfl := Option.some.inj h
    exact jx_ret [] (.bool (decide ((t0.length : Int) ≤ 120))) [] rfl (by kernel_rfl) (by kernel_rfl) (fun w hm => ⟨rfl, hm.pick [] (by kernel_rfl) (by kernel_rfl)⟩)

/-! ### impl.tuneCode$1 -/
noncomputable def impl_tuneCode_1 (t0 : List GNote) : Option (Bool) := (impl_ValidTune t0).bind fun t_1 => some (!t_1)
set_option maxRecDepth 100000 in
theorem impl_tuneCode_1.calls (t0 : List GNote) (w : World) (r : Bool) (t0_a : Option Addr) (t0_an : Nat) (t0_c : Nat) (t0_h : Rw w t0_a 2 encGNote t0) (t0_hn : t0.length = t0_an) (h : impl_tuneCode_1 t0 = some r) :
    Calls Try.prog 54 #[(.slice t0_a t0_an t0_c)] w fun e w' => ∃ v, e = .returned v ∧ (v = (.bool r) ∧ Mem w [] [] w') := by
  subst t0_hn
  rw [impl_tuneCode_1] at h
  refine enter (args := [(.slice t0_a t0.length t0_c)]) Try.func54 rfl Try.ntmps54 (by kernel_rfl) (L := []) (W := []) (Mem.start w) ?_
  refine jc_seq ?_
  refine jc_region ?_
  refine jo_f [(0, 0)] (by kernel_rfl) ?_
  refine jo_end (by kernel_rfl) ?_
  refine jx_then ?_
  refine jc_seq ?_
  refine jc_region ?_
  refine jo_f [(0, 0)] (by kernel_rfl) ?_
  obtain ⟨t_1, ht_1, h⟩ := bd h
  refine toO (by kernel_rfl) (p_call 0 55 #[(.slice t0_a t0.length t0_c)] (by kernel_rfl) (by kernel_rfl) (fun w hm => impl_ValidTune.calls t0 w _ t0_a t0.length t0_c (hm.exRow t0_h List.not_mem_nil) rfl ht_1) ?_)
  rintro w v w' hm ⟨rfl, hm'⟩
  refine ⟨_, hm.app hm', jkO ?_⟩
  clear hm hm'
  refine jo_f [(0, 0), (0, 0)] (by kernel_rfl) ?_
  refine jo_end (by kernel_rfl) ?_
  refine jx_then ?_
  refine jc_ret ?_
  obtain rfl := Option.some.inj h
  exact jx_ret [] (.bool (!t_1)) [] rfl (by kernel_rfl) (by kernel_rfl) (fun w hm => ⟨rfl, hm.pick [] (by kernel_rfl) (by kernel_rfl)⟩)

/-! ### slices.IndexFunc[[]impl.Tune,impl.Tune] -/
noncomputable def slices_IndexFunc_Tune_at_impl_tuneCode_1.k_1 : Option (Int) := some (-1)
noncomputable def slices_IndexFunc_Tune_at_impl_tuneCode_1.l_3 (s0 : List (List GNote)) : Int → Option ((Int) ⊕ (Int ⊕ Unit))
  | i_2 => (if (decide (i_2 < (s0.length : Int))) = true then (ix s0 i_2).bind fun x_5 => (impl_tuneCode_1 x_5).bind fun t_6 => (if t_6 = true then some (.inr (.inl i_2)) else some (.inl (w64 (i_2 + 1)))) else some (.inr (.inr ())))
noncomputable def slices_IndexFunc_Tune_at_impl_tuneCode_1 (s0 : List (List GNote)) : Option (Int) := (loop (slices_IndexFunc_Tune_at_impl_tuneCode_1.l_3 s0) 0).bind fun t_4 => match t_4 with | .inl p => some p | .inr p => slices_IndexFunc_Tune_at_impl_tuneCode_1.k_1
set_option maxRecDepth 100000 in
theorem slices_IndexFunc_Tune_at_impl_tuneCode_1.calls (s0 : List (List GNote)) (w : World) (r : Int) (s0_a : Option Addr) (s0_an : Nat) (s0_c : Nat) (s0_hs : List Hd) (s0_h : Rw w s0_a 1 encHd s0_hs) (s0_hn : s0.length = s0_an) (s0_i : Inn w [] 2 encGNote s0_hs s0) (h : slices_IndexFunc_Tune_at_impl_tuneCode_1 s0 = some r) :
    Calls Try.prog 62 #[(.slice s0_a s0_an s0_c), (.func (.func 54) #[] #[])] w fun e w' => ∃ v, e = .returned v ∧ (v = (.int .i64 r) ∧ Mem w [] [] w') := by
  subst s0_hn
  rw [slices_IndexFunc_Tune_at_impl_tuneCode_1] at h
  refine enter (args := [(.slice s0_a s0.length s0_c), (.func (.func 54) #[] #[])]) Try.func62 rfl Try.ntmps62 (by kernel_rfl) (L := []) (W := []) (Mem.start w) ?_
  refine jc_seq ?_
  refine jc_region ?_
  refine jo_f [(0, 0)] (by kernel_rfl) ?_
  refine jo_end (by kernel_rfl) ?_
  refine jx_then ?_
  refine jc_seq ?_
  refine jc_seq ?_
  refine jc_region ?_
  refine jo_f [(0, 0), (0, 0), (0, 0)] (by kernel_rfl) ?_
  refine jo_end (by kernel_rfl) ?_
  refine jx_then ?_
  refine jc_meet (fun (_ : Unit) => slices_IndexFunc_Tune_at_impl_tuneCode_1.k_1 = some r) (fun (_ : Unit) => [(4, [], (.int .i64 0))]) (fun (_ : Unit) => []) ?_ ?_
  · refine jc_block ?_
    obtain ⟨t_4, ht_40, hr_31⟩ := bd h
    refine jc_loop (fun (s : Int) (x : Unit) => match s, x with | i_2, _ => True) (fun (s : Int) (x : Unit) => match s, x with | i_2, _ => [(0, [], (.slice s0_a s0.length s0_c)), (1, [], (.func (.func 54) #[] #[])), (4, [], (.int .i64 0)), (7, [], (.int .i64 (s0.length : Int))), (8, [], (.int .i64 i_2))]) (fun (s : Int) (x : Unit) => match s, x with | i_2, _ => []) ht_40 () trivial (by kernel_rfl) [] (by kernel_rfl) (by kernel_rfl) ?_
    rintro i_2 _ y_32 _ h
    rw [slices_IndexFunc_Tune_at_impl_tuneCode_1.l_3] at h
    refine jc_seq ?_
    refine jc_region ?_
    refine jo_f [(0, 0)] (by kernel_rfl) ?_
    refine jo_end (by kernel_rfl) ?_
    refine jx_then ?_
    refine jc_seq ?_
    refine jc_cond (decide (i_2 < (s0.length : Int))) (by kernel_rfl) (fun hc_34 => ?_) (fun hc_34 => ?_)
    · replace h := ifT hc_34 h
      refine jc_skip ?_
      refine jx_then ?_
      refine jc_seq ?_
      refine jc_block ?_
      refine jc_seq ?_
      refine jc_region ?_
      refine jo_f [(0, 0), (0, 0)] (by kernel_rfl) ?_
      refine jo_end (by kernel_rfl) ?_
      refine jx_then ?_
      refine jc_seq ?_
      refine jc_region ?_
      refine jo_f [(0, 0), (0, 0), (0, 0)] (by kernel_rfl) ?_
      obtain ⟨x_5, hx_35, h⟩ := bd h
      refine toO (by kernel_rfl) (p_idx 0 s0_a s0.length i_2 1 (by kernel_rfl) (by kernel_rfl) (ix_some hx_35).1 (ltn hx_35 rfl) (s0_h.sp (s0_i.ixh hx_35)) (jkO ?_))
      refine toO (by kernel_rfl) (p_ld 0 (aB s0_a) (aO s0_a + i_2.toNat * 1) false (encHd (hd s0_hs i_2)) (by kernel_rfl) (by kernel_rfl) (by kernel_rfl) (fun w hm => ((hm.exRow s0_h List.not_mem_nil).at (s0_i.ixh hx_35))) (jkO ?_))
      obtain ⟨t_6, ht_36, h⟩ := bd h
      refine toO (by kernel_rfl) (p_call 0 54 #[(.slice (hd s0_hs i_2).a ((hd s0_hs i_2).n) ((hd s0_hs i_2).c))] (by kernel_rfl) (by kernel_rfl) (fun w hm => impl_tuneCode_1.calls x_5 w _ (hd s0_hs i_2).a ((hd s0_hs i_2).n) ((hd s0_hs i_2).c) (hm.exRow (s0_i.get hx_35).1 List.not_mem_nil) (s0_i.get hx_35).2.1 ht_36) ?_)
      rintro w v w' hm ⟨rfl, hm'⟩
      refine ⟨_, hm.app hm', jkO ?_⟩
      clear hm hm'
      refine jo_end (by kernel_rfl) ?_
      refine jx_then ?_
      refine jc_cond t_6 (by kernel_rfl) (fun hc_37 => ?_) (fun hc_37 => ?_)
      · replace h := ifT hc_37 h
        refine jc_seq ?_
        refine jc_region ?_
        refine jo_f [(0, 0), (0, 0)] (by kernel_rfl) ?_
        refine jo_end (by kernel_rfl) ?_
        refine jx_then ?_
        refine jc_ret ?_
        refine jx_inr ?_
        refine jx_thenr ?_
        refine jx_leaver (.inl i_2) (Option.some.inj h).symm (fun e_38 => ?_)
        subst e_38
        refine jx_inr ?_
        refine jx_thenr ?_
        refine jx_thenr ?_
        obtain rfl := Option.some.inj hr_31
        exact jx_ret [] (.int .i64 i_2) [] rfl (by kernel_rfl) (by kernel_rfl) (fun w hm => ⟨rfl, hm.pick [] (by kernel_rfl) (by kernel_rfl)⟩)
      · replace h := ifF hc_37 h
        refine jc_skip ?_
        refine jx_inn ?_
        refine jx_then ?_
        refine jc_region ?_
        refine jo_f [(0, 0), (0, 0)] (by kernel_rfl) ?_
        refine jo_end (by kernel_rfl) ?_
        exact jx_back (w64 (i_2 + 1)) () (Option.some.inj h).symm trivial [] (by kernel_rfl) (by kernel_rfl) (by kernel_rfl)
    · replace h := ifF hc_34 h
      refine jc_exit ?_
      refine jx_thenx ?_
      refine jx_leave (.inr ()) (Option.some.inj h).symm (fun e_39 => ?_)
      subst e_39
      refine jx_ine ?_
      exact jx_meet () hr_31 (by kernel_rfl) [] (by kernel_rfl) (by kernel_rfl)
  · rintro _ h
    replace h : slices_IndexFunc_Tune_at_impl_tuneCode_1.k_1 = some r := h
    rw [slices_IndexFunc_Tune_at_impl_tuneCode_1.k_1] at h
    refine jx_then ?_
    refine jc_seq ?_
    refine jc_region ?_
    refine jo_f [(0, 0)] (by kernel_rfl) ?_
    refine jo_end (by kernel_rfl) ?_
    refine jx_then ?_
    refine jc_ret ?_
    obtain rfl := Option.some.inj h
    exact jx_ret [] (.int .i64 (-1)) [] rfl (by kernel_rfl) (by kernel_rfl) (fun w hm => ⟨rfl, hm.pick [] (by kernel_rfl) (by kernel_rfl)⟩)

/-! ### slices.ContainsFunc[[]impl.Tune,impl.Tune] -/
noncomputable def slices_ContainsFunc_Tune_at_impl_tuneCode_1 (s0 : List (List GNote)) : Option (Bool) := (slices_IndexFunc_Tune_at_impl_tuneCode_1 s0).bind fun t_1 => some (decide (t_1 ≥ 0))
set_option maxRecDepth 100000 in
theorem slices_ContainsFunc_Tune_at_impl_tuneCode_1.calls (s0 : List (List GNote)) (w : World) (r : Bool) (s0_a : Option Addr) (s0_an : Nat) (s0_c : Nat) (s0_hs : List Hd) (s0_h : Rw w s0_a 1 encHd s0_hs) (s0_hn : s0.length = s0_an) (s0_i : Inn w [] 2 encGNote s0_hs s0) (h : slices_ContainsFunc_Tune_at_impl_tuneCode_1 s0 = some r) :
    Calls Try.prog 53 #[(.slice s0_a s0_an s0_c), (.func (.func 54) #[] #[])] w fun e w' => ∃ v, e = .returned v ∧ (v = (.bool r) ∧ Mem w [] [] w') := by
  subst s0_hn
  rw [slices_ContainsFunc_Tune_at_impl_tuneCode_1] at h
  refine enter (args := [(.slice s0_a s0.length s0_c), (.func (.func 54) #[] #[])]) Try.func53 rfl Try.ntmps53 (by kernel_rfl) (L := []) (W := []) (Mem.start w) ?_
  refine jc_seq ?_
  refine jc_region ?_
  refine jo_f [(0, 0)] (by kernel_rfl) ?_
  refine jo_end (by kernel_rfl) ?_
  refine jx_then ?_
  refine jc_seq ?_
  refine jc_region ?_
  refine jo_f [(0, 0), (0, 0)] (by kernel_rfl) ?_
  obtain ⟨t_1, ht_1, h⟩ := bd h
  refine toO (by kernel_rfl) (p_call 0 62 #[(.slice s0_a s0.length s0_c), (.func (.func 54) #[] #[])] (by kernel_rfl) (by kernel_rfl) (fun w hm => slices_IndexFunc_Tune_at_impl_tuneCode_1.calls s0 w _ s0_a s0.length s0_c s0_hs (hm.exRow s0_h List.not_mem_nil) rfl (hm.innPass (N := []) s0_i [] (by kernel_rfl)) ht_1) ?_)
  rintro w v w' hm ⟨rfl, hm'⟩
  refine ⟨_, hm.app hm', jkO ?_⟩
  clear hm hm'
  refine jo_f [(0, 0), (0, 0)] (by kernel_rfl) ?_
  refine jo_end (by kernel_rfl) ?_
  refine jx_then ?_
  refine jc_ret ?_
  obtain rfl := Option.some.inj h
  exact jx_ret [] (.bool (decide (t_1 ≥ 0))) [] rfl (by kernel_rfl) (by kernel_rfl) (fun w hm => ⟨rfl, hm.pick [] (by kernel_rfl) (by kernel_rfl)⟩)

/-! ### impl.tuneCode -/
noncomputable def impl_tuneCode (list0 : List (List GNote)) : Option (Int) := (slices_ContainsFunc_Tune_at_impl_tuneCode_1 list0).bind fun t_1 => (impl_unless (!t_1) 1).bind fun t_2 => some t_2
set_option maxRecDepth 100000 in
theorem impl_tuneCode.calls (list0 : List (List GNote)) (w : World) (r : Int) (list0_a : Option Addr) (list0_an : Nat) (list0_c : Nat) (list0_hs : List Hd) (list0_h : Rw w list0_a 1 encHd list0_hs) (list0_hn : list0.length = list0_an) (list0_i : Inn w [] 2 encGNote list0_hs list0) (h : impl_tuneCode list0 = some r) :
    Calls Try.prog 43 #[(.slice list0_a list0_an list0_c)] w fun e w' => ∃ v, e = .returned v ∧ (v = (.int .i64 r) ∧ Mem w [] [] w') := by
  subst list0_hn
  rw [impl_tuneCode] at h
  refine enter (args := [(.slice list0_a list0.length list0_c)]) Try.func43 rfl Try.ntmps43 (by kernel_rfl) (L := []) (W := []) (Mem.start w) ?_
  refine jc_seq ?_
  refine jc_region ?_
  refine jo_f [(0, 0)] (by kernel_rfl) ?_
  refine jo_end (by kernel_rfl) ?_
  refine jx_then ?_
  refine jc_seq ?_
  refine jc_region ?_
  refine jo_f [(0, 0)] (by kernel_rfl) ?_
  obtain ⟨t_1, ht_1, h⟩ := bd h
  refine toO (by kernel_rfl) (p_call 0 53 #[(.slice list0_a list0.length list0_c), (.func (.func 54) #[] #[])] (by kernel_rfl) (by kernel_rfl) (fun w hm => slices_ContainsFunc_Tune_at_impl_tuneCode_1.calls list0 w _ list0_a list0.length list0_c list0_hs (hm.exRow list0_h List.not_mem_nil) rfl (hm.innPass (N := []) list0_i [] (by kernel_rfl)) ht_1) ?_)
  rintro w v w' hm ⟨rfl, hm'⟩
  refine ⟨_, hm.app hm', jkO ?_⟩
  clear hm hm'
  refine jo_f [(0, 0)] (by kernel_rfl) ?_
  obtain ⟨t_2, ht_2, h⟩ := bd h
  refine toO (by kernel_rfl) (p_call 0 21 #[(.bool (!t_1)), (.int .i64 1)] (by kernel_rfl) (by kernel_rfl) (fun w hm => impl_unless.calls (!t_1) 1 w _ ht_2) ?_)
  rintro w v w' hm ⟨rfl, hm'⟩
  refine ⟨_, hm.app hm', jkO ?_⟩
  clear hm hm'
  refine jo_f [(0, 0)] (by kernel_rfl) ?_
  refine jo_end (by kernel_rfl) ?_
  refine jx_then ?_
  refine jc_ret ?_
  obtain rfl := Option.some.inj h
  exact jx_ret [] (.int .i64 t_2) [] rfl (by kernel_rfl) (by kernel_rfl) (fun w hm => ⟨rfl, hm.pick [] (by kernel_rfl) (by kernel_rfl)⟩)

/-! ### impl.ValidChoice -/
noncomputable def impl_ValidChoice (x0 : GChoice) : Option (Bool) := (if x0.fAway = true then some ((x0.fAway == true) && ((x0.fLate == 0) && ((x0.fOctave == 0) && (x0.fTrack == 0)))) else (impl_within (w64 x0.fLate) (-3) 3).bind fun t_1 => (if t_1 = true then (impl_within (w64 x0.fOctave) (-1) 1).bind fun t_2 => (if t_2 = true then (impl_within (w64 x0.fTrack) 0 23).bind fun t_3 => some t_3 else some false) else some false))
set_option maxRecDepth 100000 in
theorem impl_ValidChoice.calls (x0 : GChoice) (w : World) (r : Bool) (h : impl_ValidChoice x0 = some r) :
    Calls Try.prog 58 #[(.agg #[(.bool x0.fAway), (.int .i8 x0.fLate), (.int .i8 x0.fOctave), (.int .i8 x0.fTrack)])] w fun e w' => ∃ v, e = .returned v ∧ (v = (.bool r) ∧ Mem w [] [] w') := by
  rw [impl_ValidChoice] at h
  refine enter (args := [(.agg #[(.bool x0.fAway), (.int .i8 x0.fLate), (.int .i8 x0.fOctave), (.int .i8 x0.fTrack)])]) Try.func58 rfl Try.ntmps58 (by kernel_rfl) (L := []) (W := []) (Mem.start w) ?_
  refine jc_seq ?_
  refine jc_region ?_
  refine toO (by kernel_rfl) (p_a 0 [0] (by kernel_rfl) (fun b => by kernel_rfl) (fun b_1 => jkO ?_))
  refine jo_f [(0, 0)] (by kernel_rfl) ?_
  refine jo_end (by kernel_rfl) ?_
  refine jx_then ?_
  refine jc_seq ?_
  refine jc_seq ?_
  refine jc_region ?_
  refine jo_f [(0, 0), (0, 0)] (by kernel_rfl) ?_
  refine jo_end (by kernel_rfl) ?_
  refine jx_then ?_
  refine jc_cond x0.fAway (by kernel_rfl) (fun hc_3 => ?_) (fun hc_3 => ?_)
  · replace h := ifT hc_3 h
    refine jc_seq ?_
    refine jc_region ?_
    refine jo_f [(0, 0), (0, 0), (0, 0), (0, 0)] (by kernel_rfl) ?_
    refine jo_end (by kernel_rfl) ?_
    refine jx_then ?_
    refine jc_ret ?_
    refine jx_thenr ?_
    obtain rfl := Option.some.inj h
    exact jx_ret [] (.bool ((x0.fAway == true) && ((x0.fLate == 0) && ((x0.fOctave == 0) && (x0.fTrack == 0))))) [] rfl (by kernel_rfl) (by kernel_rfl) (fun w hm => ⟨rfl, hm.pick [] (by kernel_rfl) (by kernel_rfl)⟩)
  · replace h := ifF hc_3 h
    refine jc_skip ?_
    refine jx_then ?_
    refine jc_seq ?_
    refine jc_region ?_
    refine jo_f [(0, 0), (0, 0), (0, 0)] (by kernel_rfl) ?_
    obtain ⟨t_1, ht_4, h⟩ := bd h
    refine toO (by kernel_rfl) (p_call 0 22 #[(.int .i64 (w64 x0.fLate)), (.int .i64 (-3)), (.int .i64 3)] (by kernel_rfl) (by kernel_rfl) (fun w hm => impl_within.calls (w64 x0.fLate) (-3) 3 w _ ht_4) ?_)
    rintro w v w' hm ⟨rfl, hm'⟩
    refine ⟨_, hm.app hm', jkO ?_⟩
    clear hm hm'
    refine jo_f [(0, 0), (0, 1), (0, 1), (0, 1)] (by kernel_rfl) ?_
    refine jo_split 12 t_1 (by kernel_rfl) (fun hc_5 => ?_) (fun hc_5 => ?_)
    · replace h := ifT hc_5 h
      obtain ⟨t_2, ht_6, h⟩ := bd h
      refine toO (by kernel_rfl) (p_call 2 22 #[(.int .i64 (w64 x0.fOctave)), (.int .i64 (-1)), (.int .i64 1)] (by kernel_rfl) (by kernel_rfl) (fun w hm => impl_within.calls (w64 x0.fOctave) (-1) 1 w _ ht_6) ?_)
      rintro w v w' hm ⟨rfl, hm'⟩
      refine ⟨_, hm.app hm', jkO ?_⟩
      clear hm hm'
      refine jo_f [(0, 4), (0, 0), (0, 1), (0, 1), (0, 1)] (by kernel_rfl) ?_
      refine jo_split 18 t_2 (by kernel_rfl) (fun hc_7 => ?_) (fun hc_7 => ?_)
      · replace h := ifT hc_7 h
        obtain ⟨t_3, ht_8, h⟩ := bd h
        refine toO (by kernel_rfl) (p_call 2 22 #[(.int .i64 (w64 x0.fTrack)), (.int .i64 0), (.int .i64 23)] (by kernel_rfl) (by kernel_rfl) (fun w hm => impl_within.calls (w64 x0.fTrack) 0 23 w _ ht_8) ?_)
        rintro w v w' hm ⟨rfl, hm'⟩
        refine ⟨_, hm.app hm', jkO ?_⟩
        clear hm hm'
        refine jo_f [(0, 4), (0, 0)] (by kernel_rfl) ?_
        refine jo_end (by kernel_rfl) ?_
        refine jx_then ?_
        refine jc_ret ?_
        obtain rfl := Option.some.inj h
        exact jx_ret [] (.bool t_3) [] rfl (by kernel_rfl) (by kernel_rfl) (fun w hm => ⟨rfl, hm.pick [] (by kernel_rfl) (by kernel_rfl)⟩)
      · replace h := ifF hc_7 h
        refine jo_f [(0, 3), (0, 5), (0, 0)] (by kernel_rfl) ?_
        refine jo_end (by kernel_rfl) ?_
        refine jx_then ?_
        refine jc_ret ?_
        obtain rfl := Option.some.inj h
        exact jx_ret [] (.bool false) [] rfl (by kernel_rfl) (by kernel_rfl) (fun w hm => ⟨rfl, hm.pick [] (by kernel_rfl) (by kernel_rfl)⟩)
    · replace h := ifF hc_5 h
      refine jo_f [(0, 3), (0, 5), (0, 0), (0, 3), (0, 3), (0, 3), (0, 3), (0, 5), (0, 0)] (by kernel_rfl) ?_
      refine jo_end (by kernel_rfl) ?_
      refine jx_then ?_
      refine jc_ret ?_
      obtain rfl := Option.some.inj h
      exact jx_ret [] (.bool false) [] rfl (by kernel_rfl) (by kernel_rfl) (fun w hm => ⟨rfl, hm.pick [] (by kernel_rfl) (by kernel_rfl)⟩)

/-! ### impl.choicesCode$1 -/
noncomputable def impl_choicesCode_1 (x0 : GChoice) : Option (Bool) := (impl_ValidChoice x0).bind fun t_1 => some (!t_1)
set_option maxRecDepth 100000 in
theorem impl_choicesCode_1.calls (x0 : GChoice) (w : World) (r : Bool) (h : impl_choicesCode_1 x0 = some r) :
    Calls Try.prog 57 #[(.agg #[(.bool x0.fAway), (.int .i8 x0.fLate), (.int .i8 x0.fOctave), (.int .i8 x0.fTrack)])] w fun e w' => ∃ v, e = .returned v ∧ (v = (.bool r) ∧ Mem w [] [] w') := by
  rw [impl_choicesCode_1] at h
  refine enter (args := [(.agg #[(.bool x0.fAway), (.int .i8 x0.fLate), (.int .i8 x0.fOctave), (.int .i8 x0.fTrack)])]) Try.func57 rfl Try.ntmps57 (by kernel_rfl) (L := []) (W := []) (Mem.start w) ?_
  refine jc_seq ?_
  refine jc_region ?_
  refine toO (by kernel_rfl) (p_a 0 [0] (by kernel_rfl) (fun b => by kernel_rfl) (fun b_1 => jkO ?_))
  refine jo_f [(0, 0)] (by kernel_rfl) ?_
  refine jo_end (by kernel_rfl) ?_
  refine jx_then ?_
  refine jc_seq ?_
  refine jc_region ?_
  refine jo_f [(0, 0)] (by kernel_rfl) ?_
  obtain ⟨t_1, ht_2, h⟩ := bd h
  refine toO (by kernel_rfl) (p_call 0 58 #[(.agg #[(.bool x0.fAway), (.int .i8 x0.fLate), (.int .i8 x0.fOctave), (.int .i8 x0.fTrack)])] (by kernel_rfl) (by kernel_rfl) (fun w hm => impl_ValidChoice.calls x0 w _ ht_2) ?_)
  rintro w v w' hm ⟨rfl, hm'⟩
  refine ⟨_, hm.app hm', jkO ?_⟩
  clear hm hm'
  refine jo_f [(0, 0), (0, 0)] (by kernel_rfl) ?_
  refine jo_end (by kernel_rfl) ?_
  refine jx_then ?_
  refine jc_ret ?_
  obtain rfl := Option.some.inj h
  exact jx_ret [] (.bool (!t_1)) [] rfl (by kernel_rfl) (by kernel_rfl) (fun w hm => ⟨rfl, hm.pick [] (by kernel_rfl) (by kernel_rfl)⟩)

/-! ### slices.IndexFunc[[]impl.Choice,impl.Choice] -/
noncomputable def slices_IndexFunc_Choice_at_impl_choicesCode_1.k_1 : Option (Int) := some (-1)
noncomputable def slices_IndexFunc_Choice_at_impl_choicesCode_1.l_3 (s0 : List GChoice) : Int → Option ((Int) ⊕ (Int ⊕ Unit))
  | i_2 => (if (decide (i_2 < (s0.length : Int))) = true then (ix s0 i_2).bind fun x_5 => (impl_choicesCode_1 x_5).bind fun t_6 => (if t_6 = true then some (.inr (.inl i_2)) else some (.inl (w64 (i_2 + 1)))) else some (.inr (.inr ())))
noncomputable def slices_IndexFunc_Choice_at_impl_choicesCode_1 (s0 : List GChoice) : Option (Int) := (loop (slices_IndexFunc_Choice_at_impl_choicesCode_1.l_3 s0) 0).bind fun t_4 => match t_4 with | .inl p => some p | .inr p => slices_IndexFunc_Choice_at_impl_choicesCode_1.k_1
set_option maxRecDepth 100000 in
theorem slices_IndexFunc_Choice_at_impl_choicesCode_1.calls (s0 : List GChoice) (w : World) (r : Int) (s0_a : Option Addr) (s0_an : Nat) (s0_c : Nat) (s0_h : Rw w s0_a 4 encGChoice s0) (s0_hn : s0.length = s0_an) (h : slices_IndexFunc_Choice_at_impl_choicesCode_1 s0 = some r) :
    Calls Try.prog 65 #[(.slice s0_a s0_an s0_c), (.func (.func 57) #[] #[])] w fun e w' => ∃ v, e = .returned v ∧ (v = (.int .i64 r) ∧ Mem w [] [] w') := by
  subst s0_hn
  rw [slices_IndexFunc_Choice_at_impl_choicesCode_1] at h
  refine enter (args := [(.slice s0_a s0.length s0_c), (.func (.func 57) #[] #[])]) Try.func65 rfl Try.ntmps65 (by kernel_rfl) (L := []) (W := []) (Mem.start w) ?_
  refine jc_seq ?_
  refine jc_region ?_
  refine jo_f [(0, 0)] (by kernel_rfl) ?_
  refine jo_end (by kernel_rfl) ?_
  refine jx_then ?_
  refine jc_seq ?_
  refine jc_seq ?_
  refine jc_region ?_
  refine jo_f [(0, 0), (0, 0), (0, 0)] (by kernel_rfl) ?_
  refine jo_end (by kernel_rfl) ?_
  refine jx_then ?_
  refine jc_meet (fun (_ : Unit) => slices_IndexFunc_Choice_at_impl_choicesCode_1.k_1 = some r) (fun (_ : Unit) => [(4, [], (.int .i64 0))]) (fun (_ : Unit) => []) ?_ ?_
  · refine jc_block ?_
    obtain ⟨t_4, ht_40, hr_31⟩ := bd h
    refine jc_loop (fun (s : Int) (x : Unit) => match s, x with | i_2, _ => True) (fun (s : Int) (x : Unit) => match s, x with | i_2, _ => [(0, [], (.slice s0_a s0.length s0_c)), (1, [], (.func (.func 57) #[] #[])), (4, [], (.int .i64 0)), (7, [], (.int .i64 (s0.length : Int))), (8, [], (.int .i64 i_2))]) (fun (s : Int) (x : Unit) => match s, x with | i_2, _ => []) ht_40 () trivial (by kernel_rfl) [] (by kernel_rfl) (by kernel_rfl) ?_
    rintro i_2 _ y_32 _ h
    rw [slices_IndexFunc_Choice_at_impl_choicesCode_1.l_3] at h
    refine jc_seq ?_
    refine jc_region ?_
    refine jo_f [(0, 0)] (by kernel_rfl) ?_
    refine jo_end (by kernel_rfl) ?_
    refine jx_then ?_
    refine jc_seq ?_
    refine jc_cond (decide (i_2 < (s0.length : Int))) (by kernel_rfl) (fun hc_34 => ?_) (fun hc_34 => ?_)
    · replace h := ifT hc_34 h
      refine jc_skip ?_
      refine jx_then ?_
      refine jc_seq ?_
      refine jc_block ?_
      refine jc_seq ?_
      refine jc_region ?_
      refine jo_f [(0, 0), (0, 0)] (by kernel_rfl) ?_
      refine jo_end (by kernel_rfl) ?_
      refine jx_then ?_
      refine jc_seq ?_
      refine jc_region ?_
      refine jo_f [(0, 0), (0, 0), (0, 0)] (by kernel_rfl) ?_
      obtain ⟨x_5, hx_35, h⟩ := bd h
      refine toO (by kernel_rfl) (p_idx 0 s0_a s0.length i_2 4 (by kernel_rfl) (by kernel_rfl) (ix_some hx_35).1 (ltn hx_35 rfl) (s0_h.sp hx_35) (jkO ?_))
      refine toO (by kernel_rfl) (p_ld 0 (aB s0_a) (aO s0_a + i_2.toNat * 4) true (encGChoice x_5) (by kernel_rfl) (by kernel_rfl) (by kernel_rfl) (fun w hm => ((hm.exRow s0_h List.not_mem_nil).at hx_35)) (jkO ?_))
      obtain ⟨t_6, ht_36, h⟩ := bd h
      refine toO (by kernel_rfl) (p_call 0 57 #[(.agg #[(.bool x_5.fAway), (.int .i8 x_5.fLate), (.int .i8 x_5.fOctave), (.int .i8 x_5.fTrack)])] (by kernel_rfl) (by kernel_rfl) (fun w hm => impl_choicesCode_1.calls x_5 w _ ht_36) ?_)
      rintro w v w' hm ⟨rfl, hm'⟩
      refine ⟨_, hm.app hm', jkO ?_⟩
      clear hm hm'
      refine jo_end (by kernel_rfl) ?_
      refine jx_then ?_
      refine jc_cond t_6 (by kernel_rfl) (fun hc_37 => ?_) (fun hc_37 => ?_)
      · replace h := ifT hc_37 h
        refine jc_seq ?_
        refine jc_region ?_
        refine jo_f [(0, 0), (0, 0)] (by kernel_rfl) ?_
        refine jo_end (by kernel_rfl) ?_
        refine jx_then ?_
        refine jc_ret ?_
        refine jx_inr ?_
        refine jx_thenr ?_
        refine jx_leaver (.inl i_2) (Option.some.inj h).symm (fun e_38 => ?_)
        subst e_38
        refine jx_inr ?_
        refine jx_thenr ?_
        refine jx_thenr ?_
        obtain rfl := Option.some.inj hr_31
        exact jx_ret [] (.int .i64 i_2) [] rfl (by kernel_rfl) (by kernel_rfl) (fun w hm => ⟨rfl, hm.pick [] (by kernel_rfl) (by kernel_rfl)⟩)
      · replace h := ifF hc_37 h
        refine jc_skip ?_
        refine jx_inn ?_
        refine jx_then ?_
        refine jc_region ?_
        refine jo_f [(0, 0), (0, 0)] (by kernel_rfl) ?_
        refine jo_end (by kernel_rfl) ?_
        exact jx_back (w64 (i_2 + 1)) () (Option.some.inj h).symm trivial [] (by kernel_rfl) (by kernel_rfl) (by kernel_rfl)
    · replace h := ifF hc_34 h
      refine jc_exit ?_
      refine jx_thenx ?_
      refine jx_leave (.inr ()) (Option.some.inj h).symm (fun e_39 => ?_)
      subst e_39
      refine jx_ine ?_
      exact jx_meet () hr_31 (by kernel_rfl) [] (by kernel_rfl) (by kernel_rfl)
  · rintro _ h
    replace h : slices_IndexFunc_Choice_at_impl_choicesCode_1.k_1 = some r := h
    rw [slices_IndexFunc_Choice_at_impl_choicesCode_1.k_1] at h
    refine jx_then ?_
    refine jc_seq ?_
    refine jc_region ?_
    refine jo_f [(0, 0)] (by kernel_rfl) ?_
    refine jo_end (by kernel_rfl) ?_
    refine jx_then ?_
    refine jc_ret ?_
    obtain rfl := Option.some.inj h
    exact jx_ret [] (.int .i64 (-1)) [] rfl (by kernel_rfl) (by kernel_rfl) (fun w hm => ⟨rfl, hm.pick [] (by kernel_rfl) (by kernel_rfl)⟩)

/-! ### slices.ContainsFunc[[]impl.Choice,impl.Choice] -/
noncomputable def slices_ContainsFunc_Choice_at_impl_choicesCode_1 (s0 : List GChoice) : Option (Bool) := (slices_IndexFunc_Choice_at_impl_choicesCode_1 s0).bind fun t_1 => some (decide (t_1 ≥ 0))
set_option maxRecDepth 100000 in
theorem slices_ContainsFunc_Choice_at_impl_choicesCode_1.calls (s0 : List GChoice) (w : World) (r : Bool) (s0_a : Option Addr) (s0_an : Nat) (s0_c : Nat) (s0_h : Rw w s0_a 4 encGChoice s0) (s0_hn : s0.length = s0_an) (h : slices_ContainsFunc_Choice_at_impl_choicesCode_1 s0 = some r) :
    Calls Try.prog 56 #[(.slice s0_a s0_an s0_c), (.func (.func 57) #[] #[])] w fun e w' => ∃ v, e = .returned v ∧ (v = (.bool r) ∧ Mem w [] [] w') := by
  subst s0_hn
  rw [slices_ContainsFunc_Choice_at_impl_choicesCode_1] at h
  refine enter (args := [(.slice s0_a s0.length s0_c), (.func (.func 57) #[] #[])]) Try.func56 rfl Try.ntmps56 (by kernel_rfl) (L := []) (W := []) (Mem.start w) ?_
  refine jc_seq ?_
  refine jc_region ?_
  refine jo_f [(0, 0)] (by kernel_rfl) ?_
  refine jo_end (by kernel_rfl) ?_
  refine jx_then ?_
  refine jc_seq ?_
  refine jc_region ?_
  refine jo_f [(0, 0), (0, 0)] (by kernel_rfl) ?_
  obtain ⟨t_1, ht_1, h⟩ := bd h
  refine toO (by kernel_rfl) (p_call 0 65 #[(.slice s0_a s0.length s0_c), (.func (.func 57) #[] #[])] (by kernel_rfl) (by kernel_rfl) (fun w hm => slices_IndexFunc_Choice_at_impl_choicesCode_1.calls s0 w _ s0_a s0.length s0_c (hm.exRow s0_h List.not_mem_nil) rfl ht_1) ?_)
  rintro w v w' hm ⟨rfl, hm'⟩
  refine ⟨_, hm.app hm', jkO ?_⟩
  clear hm hm'
  refine jo_f [(0, 0), (0, 0)] (by kernel_rfl) ?_
  refine jo_end (by kernel_rfl) ?_
  refine jx_then ?_
  refine jc_ret ?_
  obtain rfl := Option.some.inj h
  exact jx_ret [] (.bool (decide (t_1 ≥ 0))) [] rfl (by kernel_rfl) (by kernel_rfl) (fun w hm => ⟨rfl, hm.pick [] (by kernel_rfl) (by kernel_rfl)⟩)

/-! ### impl.choicesCode -/
noncomputable def impl_choicesCode (list0 : List GChoice) : Option (Int) := (slices_ContainsFunc_Choice_at_impl_choicesCode_1 list0).bind fun t_1 => (impl_unless (!t_1) 1).bind fun t_2 => some t_2
set_option maxRecDepth 100000 in
theorem impl_choicesCode.calls (list0 : List GChoice) (w : World) (r : Int) (list0_a : Option Addr) (list0_an : Nat) (list0_c : Nat) (list0_h : Rw w list0_a 4 encGChoice list0) (list0_hn : list0.length = list0_an) (h : impl_choicesCode list0 = some r) :
    Calls Try.prog 44 #[(.slice list0_a list0_an list0_c)] w fun e w' => ∃ v, e = .returned v ∧ (v = (.int .i64 r) ∧ Mem w [] [] w') := by
  subst list0_hn
  rw [impl_choicesCode] at h
  refine enter (args := [(.slice list0_a list0.length list0_c)]) Try.func44 rfl Try.ntmps44 (by kernel_rfl) (L := []) (W := []) (Mem.start w) ?_
  refine jc_seq ?_
  refine jc_region ?_
  refine jo_f [(0, 0)] (by kernel_rfl) ?_
  refine jo_end (by kernel_rfl) ?_
  refine jx_then ?_
  refine jc_seq ?_
  refine jc_region ?_
  refine jo_f [(0, 0)] (by kernel_rfl) ?_
  obtain ⟨t_1, ht_1, h⟩ := bd h
  refine toO (by kernel_rfl) (p_call 0 56 #[(.slice list0_a list0.length list0_c), (.func (.func 57) #[] #[])] (by kernel_rfl) (by kernel_rfl) (fun w hm => slices_ContainsFunc_Choice_at_impl_choicesCode_1.calls list0 w _ list0_a list0.length list0_c (hm.exRow list0_h List.not_mem_nil) rfl ht_1) ?_)
  rintro w v w' hm ⟨rfl, hm'⟩
  refine ⟨_, hm.app hm', jkO ?_⟩
  clear hm hm'
  refine jo_f [(0, 0)] (by kernel_rfl) ?_
  obtain ⟨t_2, ht_2, h⟩ := bd h
  refine toO (by kernel_rfl) (p_call 0 21 #[(.bool (!t_1)), (.int .i64 1)] (by kernel_rfl) (by kernel_rfl) (fun w hm => impl_unless.calls (!t_1) 1 w _ ht_2) ?_)
  rintro w v w' hm ⟨rfl, hm'⟩
  refine ⟨_, hm.app hm', jkO ?_⟩
  clear hm hm'
  refine jo_f [(0, 0)] (by kernel_rfl) ?_
  refine jo_end (by kernel_rfl) ?_
  refine jx_then ?_
  refine jc_ret ?_
  obtain rfl := Option.some.inj h
  exact jx_ret [] (.int .i64 t_2) [] rfl (by kernel_rfl) (by kernel_rfl) (fun w hm => ⟨rfl, hm.pick [] (by kernel_rfl) (by kernel_rfl)⟩)

/-! ### impl.firstOf -/
noncomputable def impl_firstOf.k_1 : Option (Int) := some 0
noncomputable def impl_firstOf.l_3 (codes0 : List Int) : Int → Option ((Int) ⊕ (Int ⊕ Unit))
  | i_2 => (if (decide (i_2 < (codes0.length : Int))) = true then (ix codes0 i_2).bind fun x_5 => (if (x_5 != 0) = true then some (.inr (.inl x_5)) else some (.inl (w64 (i_2 + 1)))) else some (.inr (.inr ())))
noncomputable def impl_firstOf (codes0 : List Int) : Option (Int) := (loop (impl_firstOf.l_3 codes0) 0).bind fun t_4 => match t_4 with | .inl p => some p | .inr p => impl_firstOf.k_1
set_option maxRecDepth 100000 in
theorem impl_firstOf.calls (codes0 : List Int) (w : World) (r : Int) (codes0_a : Option Addr) (codes0_an : Nat) (codes0_c : Nat) (codes0_h : Rw w codes0_a 1 encI64 codes0) (codes0_hn : codes0.length = codes0_an) (h : impl_firstOf codes0 = some r) :
    Calls Try.prog 19 #[(.slice codes0_a codes0_an codes0_c)] w fun e w' => ∃ v, e = .returned v ∧ (v = (.int .i64 r) ∧ Mem w [] [] w') := by
  subst codes0_hn
  rw [impl_firstOf] at h
  refine enter (args := [(.slice codes0_a codes0.length codes0_c)]) Try.func19 rfl Try.ntmps19 (by kernel_rfl) (L := []) (W := []) (Mem.start w) ?_
  refine jc_seq ?_
  refine jc_region ?_
  refine jo_f [(0, 0)] (by kernel_rfl) ?_
  refine jo_end (by kernel_rfl) ?_
  refine jx_then ?_
  refine jc_seq ?_
  refine jc_seq ?_
  refine jc_region ?_
  refine jo_f [(0, 0), (0, 0), (0, 0)] (by kernel_rfl) ?_
  refine jo_end (by kernel_rfl) ?_
  refine jx_then ?_
  refine jc_meet (fun (_ : Unit) => impl_firstOf.k_1 = some r) (fun (_ : Unit) => [(2, [], (.int .i64 0))]) (fun (_ : Unit) => []) ?_ ?_
  · refine jc_block ?_
    obtain ⟨t_4, ht_34, hr_26⟩ := bd h
    refine jc_loop (fun (s : Int) (x : Unit) => match s, x with | i_2, _ => True) (fun (s : Int) (x : Unit) => match s, x with | i_2, _ => [(2, [], (.int .i64 0)), (5, [], (.slice codes0_a codes0.length codes0_c)), (6, [], (.int .i64 (codes0.length : Int))), (7, [], (.int .i64 i_2))]) (fun (s : Int) (x : Unit) => match s, x with | i_2, _ => []) ht_34 () trivial (by kernel_rfl) [] (by kernel_rfl) (by kernel_rfl) ?_
    rintro i_2 _ y_27 _ h
    rw [impl_firstOf.l_3] at h
    refine jc_seq ?_
    refine jc_region ?_
    refine jo_f [(0, 0)] (by kernel_rfl) ?_
    refine jo_end (by kernel_rfl) ?_
    refine jx_then ?_
    refine jc_seq ?_
    refine jc_cond (decide (i_2 < (codes0.length : Int))) (by kernel_rfl) (fun hc_29 => ?_) (fun hc_29 => ?_)
    · replace h := ifT hc_29 h
      refine jc_skip ?_
      refine jx_then ?_
      refine jc_seq ?_
      refine jc_block ?_
      refine jc_seq ?_
      refine jc_region ?_
      obtain ⟨x_5, hx_30, h⟩ := bd h
      refine toO (by kernel_rfl) (p_idx 0 codes0_a codes0.length i_2 1 (by kernel_rfl) (by kernel_rfl) (ix_some hx_30).1 (ltn hx_30 rfl) (codes0_h.sp hx_30) (jkO ?_))
      refine toO (by kernel_rfl) (p_ld 0 (aB codes0_a) (aO codes0_a + i_2.toNat * 1) false (encI64 x_5) (by kernel_rfl) (by kernel_rfl) (by kernel_rfl) (fun w hm => ((hm.exRow codes0_h List.not_mem_nil).at hx_30)) (jkO ?_))
      refine jo_f [(0, 0)] (by kernel_rfl) ?_
      refine jo_end (by kernel_rfl) ?_
      refine jx_then ?_
      refine jc_seq ?_
      refine jc_region ?_
      refine jo_f [(0, 0), (0, 0)] (by kernel_rfl) ?_
      refine jo_end (by kernel_rfl) ?_
      refine jx_then ?_
      refine jc_cond (x_5 != 0) (by kernel_rfl) (fun hc_31 => ?_) (fun hc_31 => ?_)
      · replace h := ifT hc_31 h
        refine jc_seq ?_
        refine jc_region ?_
        refine jo_f [(0, 0), (0, 0)] (by kernel_rfl) ?_
        refine jo_end (by kernel_rfl) ?_
        refine jx_then ?_
        refine jc_ret ?_
        refine jx_inr ?_
        refine jx_thenr ?_
        refine jx_leaver (.inl x_5) (Option.some.inj h).symm (fun e_32 => ?_)
        subst e_32
        refine jx_inr ?_
        refine jx_thenr ?_
        refine jx_thenr ?_
        obtain rfl := Option.some.inj hr_26
        exact jx_ret [] (.int .i64 x_5) [] rfl (by kernel_rfl) (by kernel_rfl) (fun w hm => ⟨rfl, hm.pick [] (by kernel_rfl) (by kernel_rfl)⟩)
      · replace h := ifF hc_31 h
        refine jc_skip ?_
        refine jx_inn ?_
        refine jx_then ?_
        refine jc_region ?_
        refine jo_f [(0, 0), (0, 0)] (by kernel_rfl) ?_
        refine jo_end (by kernel_rfl) ?_
        exact jx_back (w64 (i_2 + 1)) () (Option.some.inj h).symm trivial [] (by kernel_rfl) (by kernel_rfl) (by kernel_rfl)
    · replace h := ifF hc_29 h
      refine jc_exit ?_
      refine jx_thenx ?_
      refine jx_leave (.inr ()) (Option.some.inj h).symm (fun e_33 => ?_)
      subst e_33
      refine jx_ine ?_
      exact jx_meet () hr_26 (by kernel_rfl) [] (by kernel_rfl) (by kernel_rfl)
  · rintro _ h
    replace h : impl_firstOf.k_1 = some r := h
    rw [impl_firstOf.k_1] at h
    refine jx_then ?_
    refine jc_seq ?_
    refine jc_region ?_
    refine jo_f [(0, 0)] (by kernel_rfl) ?_
    refine jo_end (by kernel_rfl) ?_
    refine jx_then ?_
    refine jc_ret ?_
    obtain rfl := Option.some.inj h
    exact jx_ret [] (.int .i64 0) [] rfl (by kernel_rfl) (by kernel_rfl) (fun w hm => ⟨rfl, hm.pick [] (by kernel_rfl) (by kernel_rfl)⟩)

/-! ### impl.tuneFrameCode -/
noncomputable def impl_tuneFrameCode (f0 : GFrame) (t1 : List GNote) (list2 : List GChoice) : Option (Int) := (impl_ValidFrame f0).bind fun t_1 => (impl_unless t_1 1).bind fun t_2 => (impl_tuneCode [t1]).bind fun t_3 => (impl_choicesCode list2).bind fun t_4 => (impl_firstOf [t_2, t_3, t_4]).bind fun t_5 => some t_5
set_option maxRecDepth 100000 in
theorem impl_tuneFrameCode.calls (f0 : GFrame) (t1 : List GNote) (list2 : List GChoice) (w : World) (r : Int) (f0_fHammers_a : Option Addr) (f0_fHammers_an : Nat) (f0_fHammers_c : Nat) (f0_fHammers_h : Rw w f0_fHammers_a 2 encGHammer f0.fHammers) (f0_fHammers_hn : f0.fHammers.length = f0_fHammers_an) (t1_a : Option Addr) (t1_an : Nat) (t1_c : Nat) (t1_h : Rw w t1_a 2 encGNote t1) (t1_hn : t1.length = t1_an) (list2_a : Option Addr) (list2_an : Nat) (list2_c : Nat) (list2_h : Rw w list2_a 4 encGChoice list2) (list2_hn : list2.length = list2_an) (h : impl_tuneFrameCode f0 t1 list2 = some r) :
    Calls Try.prog 32 #[(.agg #[(.int .i16 f0.fSteps), (.slice f0_fHammers_a f0_fHammers_an f0_fHammers_c)]), (.slice t1_a t1_an t1_c), (.slice list2_a list2_an list2_c)] w fun e w' => ∃ v, e = .returned v ∧ (v = (.int .i64 r) ∧ Mem w [] [] w') := by
  subst f0_fHammers_hn t1_hn list2_hn
  rw [impl_tuneFrameCode] at h
  refine enter (args := [(.agg #[(.int .i16 f0.fSteps), (.slice f0_fHammers_a f0.fHammers.length f0_fHammers_c)]), (.slice t1_a t1.length t1_c), (.slice list2_a list2.length list2_c)]) Try.func32 rfl Try.ntmps32 (by kernel_rfl) (L := []) (W := []) (Mem.start w) ?_
  refine jc_seq ?_
  refine jc_region ?_
  refine toO (by kernel_rfl) (p_a 0 [0] (by kernel_rfl) (fun b => by kernel_rfl) (fun b_1 => jkO ?_))
  refine jo_f [(0, 0)] (by kernel_rfl) ?_
  refine jo_end (by kernel_rfl) ?_
  refine jx_then ?_
  refine jc_seq ?_
  refine jc_region ?_
  refine jo_f [(0, 0)] (by kernel_rfl) ?_
  obtain ⟨t_1, ht_2, h⟩ := bd h
  refine toO (by kernel_rfl) (p_call 0 42 #[(.agg #[(.int .i16 f0.fSteps), (.slice f0_fHammers_a f0.fHammers.length f0_fHammers_c)])] (by kernel_rfl) (by kernel_rfl) (fun w hm => impl_ValidFrame.calls f0 w _ f0_fHammers_a f0.fHammers.length f0_fHammers_c (hm.exRow f0_fHammers_h List.not_mem_nil) rfl ht_2) ?_)
  rintro w v w' hm ⟨rfl, hm'⟩
  refine ⟨_, hm.app hm', jkO ?_⟩
  clear hm hm'
  obtain ⟨t_2, ht_3, h⟩ := bd h
  refine toO (by kernel_rfl) (p_call 0 21 #[(.bool t_1), (.int .i64 1)] (by kernel_rfl) (by kernel_rfl) (fun w hm => impl_unless.calls t_1 1 w _ ht_3) ?_)
  rintro w v w' hm ⟨rfl, hm'⟩
  refine ⟨_, hm.app hm', jkO ?_⟩
  clear hm hm'
  refine jo_f [(0, 0)] (by kernel_rfl) ?_
  refine toO (by kernel_rfl) (p_a 0 [0] (by kernel_rfl) (fun b => by kernel_rfl) (fun b_4 => jkO ?_))
  obtain ⟨t_3, ht_5, h⟩ := bd h
  refine toO (by kernel_rfl) (p_call 0 43 #[(.slice (some ⟨b_4, 0, none⟩) 1 1)] (by kernel_rfl) (by kernel_rfl) (fun w hm => impl_tuneCode.calls [t1] w _ (some ⟨b_4, 0, none⟩) 1 1 [⟨t1_a, t1.length, t1_c⟩] (hm.ownRow (hh := 1) (o := (some b_4)) (T := 38) (enc := encHd) (xs := [⟨t1_a, t1.length, t1_c⟩]) (sp := []) (by kernel_rfl) (fun e => nomatch e) encHd_len) rfl (Inn.cons (hm.exRow t1_h List.not_mem_nil) rfl (fun _ => List.not_mem_nil) Inn.nil) ht_5) ?_)
  rintro w v w' hm ⟨rfl, hm'⟩
  refine ⟨_, hm.app hm', jkO ?_⟩
  clear hm hm'
  refine jo_f [(0, 0)] (by kernel_rfl) ?_
  obtain ⟨t_4, ht_6, h⟩ := bd h
  refine toO (by kernel_rfl) (p_call 0 44 #[(.slice list2_a list2.length list2_c)] (by kernel_rfl) (by kernel_rfl) (fun w hm => impl_choicesCode.calls list2 w _ list2_a list2.length list2_c (hm.exRow list2_h List.not_mem_nil) rfl ht_6) ?_)
  rintro w v w' hm ⟨rfl, hm'⟩
  refine ⟨_, hm.app hm', jkO ?_⟩
  clear hm hm'
  refine toO (by kernel_rfl) (p_a 0 [0] (by kernel_rfl) (fun b => by kernel_rfl) (fun b_7 => jkO ?_))
  obtain ⟨t_5, ht_8, h⟩ := bd h
  refine toO (by kernel_rfl) (p_call 0 19 #[(.slice (some ⟨b_7, 0, none⟩) 3 3)] (by kernel_rfl) (by kernel_rfl) (fun w hm => impl_firstOf.calls [t_2, t_3, t_4] w _ (some ⟨b_7, 0, none⟩) 3 3 (hm.ownRow (hh := 2) (o := (some b_7)) (T := 2) (enc := encI64) (xs := [t_2, t_3, t_4]) (sp := []) (by kernel_rfl) (fun e => nomatch e) encI64_len) rfl ht_8) ?_)
  rintro w v w' hm ⟨rfl, hm'⟩
  refine ⟨_, hm.app hm', jkO ?_⟩
  clear hm hm'
  refine jo_f [(0, 0)] (by kernel_rfl) ?_
  refine jo_end (by kernel_rfl) ?_
  refine jx_then ?_
  refine jc_ret ?_
  obtain rfl := Option.some.inj h
  exact jx_ret [] (.int .i64 t_5) [] rfl (by kernel_rfl) (by kernel_rfl) (fun w hm => ⟨rfl, hm.pick [] (by kernel_rfl) (by kernel_rfl)⟩)

/-! ### impl.ValidCosts -/
noncomputable def impl_ValidCosts (c0 : GCosts) : Option (Bool) := (impl_within (w64 c0.fAway) 0 1000).bind fun t_1 => (if t_1 = true then (impl_within (w64 c0.fOctave) 0 1000).bind fun t_2 => (if t_2 = true then (impl_within (w64 c0.fStep) 0 1000).bind fun t_3 => some t_3 else some false) else some false)
set_option maxRecDepth 100000 in
theorem impl_ValidCosts.calls (c0 : GCosts) (w : World) (r : Bool) (h : impl_ValidCosts c0 = some r) :
    Calls Try.prog 33 #[(.agg #[(.int .i16 c0.fAway), (.int .i16 c0.fOctave), (.int .i16 c0.fStep)])] w fun e w' => ∃ v, e = .returned v ∧ (v = (.bool r) ∧ Mem w [] [] w') := by
  rw [impl_ValidCosts] at h
  refine enter (args := [(.agg #[(.int .i16 c0.fAway), (.int .i16 c0.fOctave), (.int .i16 c0.fStep)])]) Try.func33 rfl Try.ntmps33 (by kernel_rfl) (L := []) (W := []) (Mem.start w) ?_
  refine jc_seq ?_
  refine jc_region ?_
  refine toO (by kernel_rfl) (p_a 0 [0] (by kernel_rfl) (fun b => by kernel_rfl) (fun b_1 => jkO ?_))
  refine jo_f [(0, 0)] (by kernel_rfl) ?_
  refine jo_end (by kernel_rfl) ?_
  refine jx_then ?_
  refine jc_seq ?_
  refine jc_region ?_
  refine jo_f [(0, 0), (0, 0), (0, 0)] (by kernel_rfl) ?_
  obtain ⟨t_1, ht_2, h⟩ := bd h
  refine toO (by kernel_rfl) (p_call 0 22 #[(.int .i64 (w64 c0.fAway)), (.int .i64 0), (.int .i64 1000)] (by kernel_rfl) (by kernel_rfl) (fun w hm => impl_within.calls (w64 c0.fAway) 0 1000 w _ ht_2) ?_)
  rintro w v w' hm ⟨rfl, hm'⟩
  refine ⟨_, hm.app hm', jkO ?_⟩
  clear hm hm'
  refine jo_f [(0, 0), (0, 1), (0, 1), (0, 1)] (by kernel_rfl) ?_
  refine jo_split 7 t_1 (by kernel_rfl) (fun hc_3 => ?_) (fun hc_3 => ?_)
  · replace h := ifT hc_3 h
    obtain ⟨t_2, ht_4, h⟩ := bd h
    refine toO (by kernel_rfl) (p_call 2 22 #[(.int .i64 (w64 c0.fOctave)), (.int .i64 0), (.int .i64 1000)] (by kernel_rfl) (by kernel_rfl) (fun w hm => impl_within.calls (w64 c0.fOctave) 0 1000 w _ ht_4) ?_)
    rintro w v w' hm ⟨rfl, hm'⟩
    refine ⟨_, hm.app hm', jkO ?_⟩
    clear hm hm'
    refine jo_f [(0, 4), (0, 0), (0, 1), (0, 1), (0, 1)] (by kernel_rfl) ?_
    refine jo_split 13 t_2 (by kernel_rfl) (fun hc_5 => ?_) (fun hc_5 => ?_)
    · replace h := ifT hc_5 h
      obtain ⟨t_3, ht_6, h⟩ := bd h
      refine toO (by kernel_rfl) (p_call 2 22 #[(.int .i64 (w64 c0.fStep)), (.int .i64 0), (.int .i64 1000)] (by kernel_rfl) (by kernel_rfl) (fun w hm => impl_within.calls (w64 c0.fStep) 0 1000 w _ ht_6) ?_)
      rintro w v w' hm ⟨rfl, hm'⟩
      refine ⟨_, hm.app hm', jkO ?_⟩
      clear hm hm'
      refine jo_f [(0, 4), (0, 0)] (by kernel_rfl) ?_
      refine jo_end (by kernel_rfl) ?_
      refine jx_then ?_
      refine jc_ret ?_
      obtain rfl := Option.some.inj h
      exact jx_ret [] (.bool t_3) [] rfl (by kernel_rfl) (by kernel_rfl) (fun w hm => ⟨rfl, hm.pick [] (by kernel_rfl) (by kernel_rfl)⟩)
    · replace h := ifF hc_5 h
      refine jo_f [(0, 3), (0, 5), (0, 0)] (by kernel_rfl) ?_
      refine jo_end (by kernel_rfl) ?_
      refine jx_then ?_
      refine jc_ret ?_
      obtain rfl := Option.some.inj h
      exact jx_ret [] (.bool false) [] rfl (by kernel_rfl) (by kernel_rfl) (fun w hm => ⟨rfl, hm.pick [] (by kernel_rfl) (by kernel_rfl)⟩)
  · replace h := ifF hc_3 h
    refine jo_f [(0, 3), (0, 5), (0, 0), (0, 3), (0, 3), (0, 3), (0, 3), (0, 5), (0, 0)] (by kernel_rfl) ?_
    refine jo_end (by kernel_rfl) ?_
    refine jx_then ?_
    refine jc_ret ?_
    obtain rfl := Option.some.inj h
    exact jx_ret [] (.bool false) [] rfl (by kernel_rfl) (by kernel_rfl) (fun w hm => ⟨rfl, hm.pick [] (by kernel_rfl) (by kernel_rfl)⟩)
end Go.Proofs.Ytpmndjejabjniaa
