/- Functions of the program that the laws reach: a plain function each, and that the call comes to its answer if the plain function has one. Printed by a program. -/
import Derived.Test.YtilackblefjgdaaGreatT
import Derived.Test.YtilackblefjgdaaGreatM0
namespace Go.Proofs.YtilackblefjgdaaGreat
open Eng
set_option linter.unusedVariables false

/-! ### laws.szTune -/
noncomputable def laws_szTune (a0 : List GNote) (left1 : Int) : Option (Int) := (if (decide ((w64 (left1 - (a0.length : Int))) < 0)) = true then some (-1) else some (w64 (left1 - (a0.length : Int))))
set_option maxRecDepth 100000 in
theorem laws_szTune.calls (a0 : List GNote) (left1 : Int) (w : World) (r : Int) (a0_a : Option Addr) (a0_an : Nat) (a0_c : Nat) (a0_h : Rw w a0_a 2 encGNote a0) (a0_hn : a0.length = a0_an) (h : laws_szTune a0 left1 = some r) :
    Calls Tryz.prog 17 #[(.slice a0_a a0_an a0_c), (.int .i64 left1)] w fun e w' => ∃ v, e = .returned v ∧ (v = (.int .i64 r) ∧ Mem w [] [] w') := by
  subst a0_hn
  rw [laws_szTune] at h
  refine enter (args := [(.slice a0_a a0.length a0_c), (.int .i64 left1)]) Tryz.func17 rfl Tryz.ntmps17 (by kernel_rfl) (L := []) (W := []) (Mem.start w) ?_
  refine jc_seq ?_
  refine jc_region ?_
  refine jo_f [(0, 0)] (by kernel_rfl) ?_
  refine jo_end (by kernel_rfl) ?_
  refine jx_then ?_
  refine jc_seq ?_
  refine jc_region ?_
  refine jo_f [(0, 0), (0, 0), (0, 0), (0, 0), (0, 0)] (by kernel_rfl) ?_
  refine jo_end (by kernel_rfl) ?_
  refine jx_then ?_
  refine jc_seq ?_
  refine jc_seq ?_
  refine jc_region ?_
  refine jo_f [(0, 0), (0, 0)] (by kernel_rfl) ?_
  refine jo_end (by kernel_rfl) ?_
  refine jx_then ?_
  refine jc_cond (decide ((w64 (left1 - (a0.length : Int))) < 0)) (by kernel_rfl) (fun hc_2 => ?_) (fun hc_2 => ?_)
  · replace h := ifT hc_2 h
    refine jc_seq ?_
    refine jc_region ?_
    refine jo_f [(0, 0)] (by kernel_rfl) ?_
    refine jo_end (by kernel_rfl) ?_
    refine jx_then ?_
    refine jc_ret ?_
    refine jx_thenr ?_
    obtain rfl := Option.some.inj h
    exact jx_ret [] (.int .i64 (-1)) [] rfl (by kernel_rfl) (by kernel_rfl) (fun w hm => ⟨rfl, hm.pick [] (by kernel_rfl) (by kernel_rfl)⟩)
  · replace h := ifF hc_2 h
    refine jc_skip ?_
    refine jx_then ?_
    refine jc_seq ?_
    refine jc_region ?_
    refine jo_f [(0, 0), (0, 0)] (by kernel_rfl) ?_
    refine jo_end (by kernel_rfl) ?_
    refine jx_then ?_
    refine jc_ret ?_
    obtain rfl := Option.some.inj h
    exact jx_ret [] (.int .i64 (w64 (left1 - (a0.length : Int)))) [] rfl (by kernel_rfl) (by kernel_rfl) (fun w hm => ⟨rfl, hm.pick [] (by kernel_rfl) (by kernel_rfl)⟩)

/-! ### laws.szChoiceS -/
noncomputable def laws_szChoiceS (a0 : List GChoice) (left1 : Int) : Option (Int) := (if (decide ((w64 (left1 - (a0.length : Int))) < 0)) = true then some (-1) else some (w64 (left1 - (a0.length : Int))))
set_option maxRecDepth 100000 in
theorem laws_szChoiceS.calls (a0 : List GChoice) (left1 : Int) (w : World) (r : Int) (a0_a : Option Addr) (a0_an : Nat) (a0_c : Nat) (a0_h : Rw w a0_a 4 encGChoice a0) (a0_hn : a0.length = a0_an) (h : laws_szChoiceS a0 left1 = some r) :
    Calls Tryz.prog 18 #[(.slice a0_a a0_an a0_c), (.int .i64 left1)] w fun e w' => ∃ v, e = .returned v ∧ (v = (.int .i64 r) ∧ Mem w [] [] w') := by
  subst a0_hn
  rw [laws_szChoiceS] at h
  refine enter (args := [(.slice a0_a a0.length a0_c), (.int .i64 left1)]) Tryz.func18 rfl Tryz.ntmps18 (by kernel_rfl) (L := []) (W := []) (Mem.start w) ?_
  refine jc_seq ?_
  refine jc_region ?_
  refine jo_f [(0, 0)] (by kernel_rfl) ?_
  refine jo_end (by kernel_rfl) ?_
  refine jx_then ?_
  refine jc_seq ?_
  refine jc_region ?_
  refine jo_f [(0, 0), (0, 0), (0, 0), (0, 0), (0, 0)] (by kernel_rfl) ?_
  refine jo_end (by kernel_rfl) ?_
  refine jx_then ?_
  refine jc_seq ?_
  refine jc_seq ?_
  refine jc_region ?_
  refine jo_f [(0, 0), (0, 0)] (by kernel_rfl) ?_
  refine jo_end (by kernel_rfl) ?_
  refine jx_then ?_
  refine jc_cond (decide ((w64 (left1 - (a0.length : Int))) < 0)) (by kernel_rfl) (fun hc_2 => ?_) (fun hc_2 => ?_)
  · replace h := ifT hc_2 h
    refine jc_seq ?_
    refine jc_region ?_
    refine jo_f [(0, 0)] (by kernel_rfl) ?_
    refine jo_end (by kernel_rfl) ?_
    refine jx_then ?_
    refine jc_ret ?_
    refine jx_thenr ?_
    obtain rfl := Option.some.inj h
    exact jx_ret [] (.int .i64 (-1)) [] rfl (by kernel_rfl) (by kernel_rfl) (fun w hm => ⟨rfl, hm.pick [] (by kernel_rfl) (by kernel_rfl)⟩)
  · replace h := ifF hc_2 h
    refine jc_skip ?_
    refine jx_then ?_
    refine jc_seq ?_
    refine jc_region ?_
    refine jo_f [(0, 0), (0, 0)] (by kernel_rfl) ?_
    refine jo_end (by kernel_rfl) ?_
    refine jx_then ?_
    refine jc_ret ?_
    obtain rfl := Option.some.inj h
    exact jx_ret [] (.int .i64 (w64 (left1 - (a0.length : Int)))) [] rfl (by kernel_rfl) (by kernel_rfl) (fun w hm => ⟨rfl, hm.pick [] (by kernel_rfl) (by kernel_rfl)⟩)

/-! ### laws.toNote -/
noncomputable def laws_toNote (a0 : GNote) : Option (GNote) := some a0
set_option maxRecDepth 100000 in
theorem laws_toNote.calls (a0 : GNote) (w : World) (r : GNote) (h : laws_toNote a0 = some r) :
    Calls Tryz.prog 55 #[(.agg #[(.int .i16 a0.fAt), (.int .i8 a0.fPitch)])] w fun e w' => ∃ v, e = .returned v ∧ (v = .agg #[(.int .i16 r.fAt), (.int .i8 r.fPitch)] ∧ Mem w [] [] w') := by
  rw [laws_toNote] at h
  refine enter (args := [(.agg #[(.int .i16 a0.fAt), (.int .i8 a0.fPitch)])]) Tryz.func55 rfl Tryz.ntmps55 (by kernel_rfl) (L := []) (W := []) (Mem.start w) ?_
  refine jc_seq ?_
  refine jc_region ?_
  refine toO (by kernel_rfl) (p_a 0 [0] (by kernel_rfl) (fun b => by kernel_rfl) (fun b_1 => jkO ?_))
  refine toO (by kernel_rfl) (p_a 0 [0] (by kernel_rfl) (fun b => by kernel_rfl) (fun b_2 => jkO ?_))
  refine jo_end (by kernel_rfl) ?_
  refine jx_then ?_
  refine jc_seq ?_
  refine jc_region ?_
  refine toO (by kernel_rfl) (p_a 0 [0] (by kernel_rfl) (fun b => by kernel_rfl) (fun b_3 => jkO ?_))
  refine jo_end (by kernel_rfl) ?_
  refine jx_then ?_
  refine jc_seq ?_
  refine jc_region ?_
  refine jo_f [(0, 0), (0, 0), (0, 0)] (by kernel_rfl) ?_
  refine toO (by kernel_rfl) (p_s 0 [2] (by kernel_rfl) (by kernel_rfl) (jkO ?_))
  refine jo_end (by kernel_rfl) ?_
  refine jx_then ?_
  refine jc_seq ?_
  refine jc_region ?_
  refine jo_f [(0, 0), (0, 0), (0, 0)] (by kernel_rfl) ?_
  refine toO (by kernel_rfl) (p_s 0 [2] (by kernel_rfl) (by kernel_rfl) (jkO ?_))
  refine jo_end (by kernel_rfl) ?_
  refine jx_then ?_
  refine jc_seq ?_
  refine jc_region ?_
  refine jo_f [(2, 0)] (by kernel_rfl) ?_
  refine toO (by kernel_rfl) (p_s 0 [1] (by kernel_rfl) (by kernel_rfl) (jkO ?_))
  refine jo_end (by kernel_rfl) ?_
  refine jx_then ?_
  refine jc_ret ?_
  obtain rfl := Option.some.inj h
  exact jx_ret [1] (.agg #[(.int .i16 a0.fAt), (.int .i8 a0.fPitch)]) [(b_2, b_2), (b_2, b_2)] rfl (by kernel_rfl) (by kernel_rfl) (fun w hm => ⟨rfl, hm.pick [] (by kernel_rfl) (by kernel_rfl)⟩)

/-! ### laws.toTune -/
noncomputable def laws_toTune.k_2 (xs_1 : List GNote) : Option ((List GNote)) := some xs_1
noncomputable def laws_toTune.l_5 (a0 : List GNote) : ((List GNote) × Int) → Option (((List GNote) × Int) ⊕ ((List GNote)))
  | (xs_3, i_4) => (if (decide (i_4 < (a0.length : Int))) = true then (ix a0 i_4).bind fun x_7 => (laws_toNote x_7).bind fun t_8 => (ix xs_3 i_4).bind fun x_9 => some (.inl ((xs_3.set i_4.toNat t_8), (w64 (i_4 + 1)))) else some (.inr xs_3))
noncomputable def laws_toTune (a0 : List GNote) : Option ((List GNote)) := (if 0 ≤ (a0.length : Int) ∧ (a0.length : Int) ≤ 35184372088832 then (loop (laws_toTune.l_5 a0) ((List.replicate (a0.length : Int).toNat (⟨0, 0⟩ : GNote)), 0)).bind fun t_6 => laws_toTune.k_2 t_6 else none)
set_option maxRecDepth 100000 in
theorem laws_toTune.calls (a0 : List GNote) (w : World) (r : (List GNote)) (a0_a : Option Addr) (a0_an : Nat) (a0_c : Nat) (a0_h : Rw w a0_a 2 encGNote a0) (a0_hn : a0.length = a0_an) (h : laws_toTune a0 = some r) :
    Calls Tryz.prog 20 #[(.slice a0_a a0_an a0_c)] w fun e w' => ∃ v, e = .returned v ∧ (∃ (o0 : Option Nat) (c0 : Nat) (s0 : List Value) (n0 : Nat), r.length = n0 ∧ (o0 ≠ none → n0 ≤ c0 ∧ s0.length = (c0 - n0) * 2) ∧ (o0 = none → r = [] ∧ c0 = 0) ∧ v = .slice (o0.map fun b => ⟨b, 0, none⟩) n0 c0 ∧ Mem w [] [⟨o0, 95, row encGNote r s0⟩] w') := by
  subst a0_hn
  rw [laws_toTune] at h
  refine enter (args := [(.slice a0_a a0.length a0_c)]) Tryz.func20 rfl Tryz.ntmps20 (by kernel_rfl) (L := []) (W := []) (Mem.start w) ?_
  refine jc_seq ?_
  refine jc_region ?_
  refine jo_f [(0, 0)] (by kernel_rfl) ?_
  refine jo_end (by kernel_rfl) ?_
  refine jx_then ?_
  refine jc_seq ?_
  refine jc_region ?_
  refine jo_f [(0, 0), (0, 0)] (by kernel_rfl) ?_
  obtain ⟨hg_88, h⟩ := gd h
  refine toO (by kernel_rfl) (p_mk 0 95 (a0.length : Int) 2 4 encGNote (⟨0, 0⟩ : GNote) (by kernel_rfl) (by kernel_rfl) hg_88.1 (by omega) (by kernel_rfl) (fun b_1 => jkO ?_))
  refine jo_f [(0, 0)] (by kernel_rfl) ?_
  refine jo_end (by kernel_rfl) ?_
  refine jx_then ?_
  refine jc_seq ?_
  refine jc_seq ?_
  refine jc_region ?_
  refine jo_f [(0, 0)] (by kernel_rfl) ?_
  refine jo_end (by kernel_rfl) ?_
  refine jx_then ?_
  refine jc_meet (fun (j : (List GNote)) => match j with | xs_1 => laws_toTune.k_2 xs_1 = some r ∧ (xs_1.length = (a0.length : Int).toNat)) (fun (j : (List GNote)) => match j with | xs_1 => [(2, [], (.slice none 0 0)), (3, [], (.slice (some ⟨b_1, 0, none⟩) ((a0.length : Int).toNat) ((a0.length : Int).toNat)))]) (fun (j : (List GNote)) => match j with | xs_1 => [⟨(some b_1), 95, row encGNote xs_1 []⟩]) ?_ ?_
  · refine jc_block ?_
    obtain ⟨t_6, ht_87, hr_79⟩ := bd h
    refine jc_loop (fun (s : (List GNote) × Int) (x : Unit) => match s, x with | ⟨xs_3, i_4⟩, _ => (xs_3.length = (a0.length : Int).toNat)) (fun (s : (List GNote) × Int) (x : Unit) => match s, x with | ⟨xs_3, i_4⟩, _ => [(0, [], (.slice a0_a a0.length a0_c)), (2, [], (.slice none 0 0)), (3, [], (.slice (some ⟨b_1, 0, none⟩) ((a0.length : Int).toNat) ((a0.length : Int).toNat))), (4, [], (.int .i64 i_4))]) (fun (s : (List GNote) × Int) (x : Unit) => match s, x with | ⟨xs_3, i_4⟩, _ => [⟨(some b_1), 95, row encGNote xs_3 []⟩]) ht_87 () List.length_replicate (by kernel_rfl) [0] (by kernel_rfl) (by kernel_rfl) ?_
    rintro ⟨xs_3, i_4⟩ _ y_80 hn_78 h
    rw [laws_toTune.l_5] at h
    refine jc_seq ?_
    refine jc_seq ?_
    refine jc_region ?_
    refine jo_f [(0, 0), (0, 0), (0, 0), (0, 0)] (by kernel_rfl) ?_
    refine jo_end (by kernel_rfl) ?_
    refine jx_then ?_
    refine jc_cond (decide (i_4 < (a0.length : Int))) (by kernel_rfl) (fun hc_82 => ?_) (fun hc_82 => ?_)
    · replace h := ifT hc_82 h
      refine jc_skip ?_
      refine jx_then ?_
      refine jc_seq ?_
      refine jc_block ?_
      refine jc_region ?_
      refine jo_f [(0, 0), (0, 0), (0, 0), (0, 0)] (by kernel_rfl) ?_
      obtain ⟨x_7, hx_83, h⟩ := bd h
      refine toO (by kernel_rfl) (p_idx 0 a0_a a0.length i_4 2 (by kernel_rfl) (by kernel_rfl) (ix_some hx_83).1 (ltn hx_83 rfl) (a0_h.sp hx_83) (jkO ?_))
      refine toO (by kernel_rfl) (p_ld 0 (aB a0_a) (aO a0_a + i_4.toNat * 2) true (encGNote x_7) (by kernel_rfl) (by kernel_rfl) (by kernel_rfl) (fun w hm => ((hm.exRow a0_h List.not_mem_nil).at hx_83)) (jkO ?_))
      obtain ⟨t_8, ht_84, h⟩ := bd h
      refine toO (by kernel_rfl) (p_call 0 55 #[(.agg #[(.int .i16 x_7.fAt), (.int .i8 x_7.fPitch)])] (by kernel_rfl) (by kernel_rfl) (fun w hm => laws_toNote.calls x_7 w _ ht_84) ?_)
      rintro w v w' hm ⟨rfl, hm'⟩
      refine ⟨_, hm.app hm', jkO ?_⟩
      clear hm hm'
      obtain ⟨x_9, hx_85, h⟩ := bd h
      refine toO (by kernel_rfl) (p_idx 0 (some ⟨b_1, 0, none⟩) ((a0.length : Int).toNat) i_4 2 (by kernel_rfl) (by kernel_rfl) (ix_some hx_85).1 (ltn hx_85 hn_78) rfl (jkO ?_))
      refine toO (by kernel_rfl) (p_str 0 0 b_1 95 encGNote xs_3 [] i_4 t_8 2 0 [(.int .i16 t_8.fAt), (.int .i8 t_8.fPitch)] (by kernel_rfl) (by kernel_rfl) (by kernel_rfl) encGNote_len hx_85 (by kernel_rfl) (by kernel_rfl) (jkO ?_))
      refine jo_end (by kernel_rfl) ?_
      refine jx_inn ?_
      refine jx_then ?_
      refine jc_region ?_
      refine jo_f [(0, 0), (0, 0), (0, 0)] (by kernel_rfl) ?_
      refine jo_end (by kernel_rfl) ?_
      exact jx_back ((xs_3.set i_4.toNat t_8), (w64 (i_4 + 1))) () (Option.some.inj h).symm (List.length_set.trans hn_78) [0] (by kernel_rfl) (by kernel_rfl) (by kernel_rfl)
    · replace h := ifF hc_82 h
      refine jc_exit ?_
      refine jx_thenx ?_
      refine jx_leave xs_3 (Option.some.inj h).symm (fun e_86 => ?_)
      subst e_86
      refine jx_ine ?_
      exact jx_meet xs_3 ⟨hr_79, hn_78⟩ (by kernel_rfl) [0] (by kernel_rfl) (by kernel_rfl)
  · rintro xs_1 ⟨h, hn_66⟩
    replace h : laws_toTune.k_2 xs_1 = some r := h
    rw [laws_toTune.k_2] at h
    refine jx_then ?_
    refine jc_seq ?_
    refine jc_region ?_
    refine jo_f [(0, 0), (0, 0)] (by kernel_rfl) ?_
    refine jo_end (by kernel_rfl) ?_
    refine jx_then ?_
    refine jc_ret ?_
    obtain rfl := Option.some.inj h
    exact jx_ret [] (.slice (some ⟨b_1, 0, none⟩) ((a0.length : Int).toNat) ((a0.length : Int).toNat)) [] rfl (by kernel_rfl) (by kernel_rfl) (fun w hm => ⟨(some b_1), ((a0.length : Int).toNat), [], ((a0.length : Int).toNat), hn_66, (fun _ => ⟨Nat.le_refl _, by simp⟩), (fun e => nomatch e), rfl, hm.pick [0] (by kernel_rfl) (by kernel_rfl)⟩)

/-! ### laws.toChoice -/
noncomputable def laws_toChoice (a0 : GChoice) : Option (GChoice) := some a0
set_option maxRecDepth 100000 in
theorem laws_toChoice.calls (a0 : GChoice) (w : World) (r : GChoice) (h : laws_toChoice a0 = some r) :
    Calls Tryz.prog 56 #[(.agg #[(.bool a0.fAway), (.int .i8 a0.fLate), (.int .i8 a0.fOctave), (.int .i8 a0.fTrack)])] w fun e w' => ∃ v, e = .returned v ∧ (v = .agg #[(.bool r.fAway), (.int .i8 r.fLate), (.int .i8 r.fOctave), (.int .i8 r.fTrack)] ∧ Mem w [] [] w') := by
  rw [laws_toChoice] at h
  refine enter (args := [(.agg #[(.bool a0.fAway), (.int .i8 a0.fLate), (.int .i8 a0.fOctave), (.int .i8 a0.fTrack)])]) Tryz.func56 rfl Tryz.ntmps56 (by kernel_rfl) (L := []) (W := []) (Mem.start w) ?_
  refine jc_seq ?_
  refine jc_region ?_
  refine toO (by kernel_rfl) (p_a 0 [0] (by kernel_rfl) (fun b => by kernel_rfl) (fun b_1 => jkO ?_))
  refine toO (by kernel_rfl) (p_a 0 [0] (by kernel_rfl) (fun b => by kernel_rfl) (fun b_2 => jkO ?_))
  refine jo_end (by kernel_rfl) ?_
  refine jx_then ?_
  refine jc_seq ?_
  refine jc_region ?_
  refine toO (by kernel_rfl) (p_a 0 [0] (by kernel_rfl) (fun b => by kernel_rfl) (fun b_3 => jkO ?_))
  refine jo_end (by kernel_rfl) ?_
  refine jx_then ?_
  refine jc_seq ?_
  refine jc_region ?_
  refine jo_f [(0, 0), (0, 0), (0, 0)] (by kernel_rfl) ?_
  refine toO (by kernel_rfl) (p_s 0 [2] (by kernel_rfl) (by kernel_rfl) (jkO ?_))
  refine jo_end (by kernel_rfl) ?_
  refine jx_then ?_
  refine jc_seq ?_
  refine jc_region ?_
  refine jo_f [(0, 0), (0, 0), (0, 0)] (by kernel_rfl) ?_
  refine toO (by kernel_rfl) (p_s 0 [2] (by kernel_rfl) (by kernel_rfl) (jkO ?_))
  refine jo_end (by kernel_rfl) ?_
  refine jx_then ?_
  refine jc_seq ?_
  refine jc_region ?_
  refine jo_f [(0, 0), (0, 0), (0, 0)] (by kernel_rfl) ?_
  refine toO (by kernel_rfl) (p_s 0 [2] (by kernel_rfl) (by kernel_rfl) (jkO ?_))
  refine jo_end (by kernel_rfl) ?_
  refine jx_then ?_
  refine jc_seq ?_
  refine jc_region ?_
  refine jo_f [(0, 0), (0, 0), (0, 0)] (by kernel_rfl) ?_
  refine toO (by kernel_rfl) (p_s 0 [2] (by kernel_rfl) (by kernel_rfl) (jkO ?_))
  refine jo_end (by kernel_rfl) ?_
  refine jx_then ?_
  refine jc_seq ?_
  refine jc_region ?_
  refine jo_f [(2, 0)] (by kernel_rfl) ?_
  refine toO (by kernel_rfl) (p_s 0 [1] (by kernel_rfl) (by kernel_rfl) (jkO ?_))
  refine jo_end (by kernel_rfl) ?_
  refine jx_then ?_
  refine jc_ret ?_
  obtain rfl := Option.some.inj h
  exact jx_ret [1] (.agg #[(.bool a0.fAway), (.int .i8 a0.fLate), (.int .i8 a0.fOctave), (.int .i8 a0.fTrack)]) [(b_2, b_2), (b_2, b_2), (b_2, b_2), (b_2, b_2)] rfl (by kernel_rfl) (by kernel_rfl) (fun w hm => ⟨rfl, hm.pick [] (by kernel_rfl) (by kernel_rfl)⟩)

/-! ### laws.toChoiceS -/
noncomputable def laws_toChoiceS.k_2 (xs_1 : List GChoice) : Option ((List GChoice)) := some xs_1
noncomputable def laws_toChoiceS.l_5 (a0 : List GChoice) : ((List GChoice) × Int) → Option (((List GChoice) × Int) ⊕ ((List GChoice)))
  | (xs_3, i_4) => (if (decide (i_4 < (a0.length : Int))) = true then (ix a0 i_4).bind fun x_7 => (laws_toChoice x_7).bind fun t_8 => (ix xs_3 i_4).bind fun x_9 => some (.inl ((xs_3.set i_4.toNat t_8), (w64 (i_4 + 1)))) else some (.inr xs_3))
noncomputable def laws_toChoiceS (a0 : List GChoice) : Option ((List GChoice)) := (if 0 ≤ (a0.length : Int) ∧ (a0.length : Int) ≤ 35184372088832 then (loop (laws_toChoiceS.l_5 a0) ((List.replicate (a0.length : Int).toNat (⟨false, 0, 0, 0⟩ : GChoice)), 0)).bind fun t_6 => laws_toChoiceS.k_2 t_6 else none)
set_option maxRecDepth 100000 in
theorem laws_toChoiceS.calls (a0 : List GChoice) (w : World) (r : (List GChoice)) (a0_a : Option Addr) (a0_an : Nat) (a0_c : Nat) (a0_h : Rw w a0_a 4 encGChoice a0) (a0_hn : a0.length = a0_an) (h : laws_toChoiceS a0 = some r) :
    Calls Tryz.prog 21 #[(.slice a0_a a0_an a0_c)] w fun e w' => ∃ v, e = .returned v ∧ (∃ (o0 : Option Nat) (c0 : Nat) (s0 : List Value) (n0 : Nat), r.length = n0 ∧ (o0 ≠ none → n0 ≤ c0 ∧ s0.length = (c0 - n0) * 4) ∧ (o0 = none → r = [] ∧ c0 = 0) ∧ v = .slice (o0.map fun b => ⟨b, 0, none⟩) n0 c0 ∧ Mem w [] [⟨o0, 99, row encGChoice r s0⟩] w') := by
  subst a0_hn
  rw [laws_toChoiceS] at h
  refine enter (args := [(.slice a0_a a0.length a0_c)]) Tryz.func21 rfl Tryz.ntmps21 (by kernel_rfl) (L := []) (W := []) (Mem.start w) ?_
  refine jc_seq ?_
  refine jc_region ?_
  refine jo_f [(0, 0)] (by kernel_rfl) ?_
  refine jo_end (by kernel_rfl) ?_
  refine jx_then ?_
  refine jc_seq ?_
  refine jc_region ?_
  refine jo_f [(0, 0), (0, 0)] (by kernel_rfl) ?_
  obtain ⟨hg_88, h⟩ := gd h
  refine toO (by kernel_rfl) (p_mk 0 99 (a0.length : Int) 4 4 encGChoice (⟨false, 0, 0, 0⟩ : GChoice) (by kernel_rfl) (by kernel_rfl) hg_88.1 (by omega) (by kernel_rfl) (fun b_1 => jkO ?_))
  refine jo_f [(0, 0)] (by kernel_rfl) ?_
  refine jo_end (by kernel_rfl) ?_
  refine jx_then ?_
  refine jc_seq ?_
  refine jc_seq ?_
  refine jc_region ?_
  refine jo_f [(0, 0)] (by kernel_rfl) ?_
  refine jo_end (by kernel_rfl) ?_
  refine jx_then ?_
  refine jc_meet (fun (j : (List GChoice)) => match j with | xs_1 => laws_toChoiceS.k_2 xs_1 = some r ∧ (xs_1.length = (a0.length : Int).toNat)) (fun (j : (List GChoice)) => match j with | xs_1 => [(2, [], (.slice none 0 0)), (3, [], (.slice (some ⟨b_1, 0, none⟩) ((a0.length : Int).toNat) ((a0.length : Int).toNat)))]) (fun (j : (List GChoice)) => match j with | xs_1 => [⟨(some b_1), 99, row encGChoice xs_1 []⟩]) ?_ ?_
  · refine jc_block ?_
    obtain ⟨t_6, ht_87, hr_79⟩ := bd h
    refine jc_loop (fun (s : (List GChoice) × Int) (x : Unit) => match s, x with | ⟨xs_3, i_4⟩, _ => (xs_3.length = (a0.length : Int).toNat)) (fun (s : (List GChoice) × Int) (x : Unit) => match s, x with | ⟨xs_3, i_4⟩, _ => [(0, [], (.slice a0_a a0.length a0_c)), (2, [], (.slice none 0 0)), (3, [], (.slice (some ⟨b_1, 0, none⟩) ((a0.length : Int).toNat) ((a0.length : Int).toNat))), (4, [], (.int .i64 i_4))]) (fun (s : (List GChoice) × Int) (x : Unit) => match s, x with | ⟨xs_3, i_4⟩, _ => [⟨(some b_1), 99, row encGChoice xs_3 []⟩]) ht_87 () List.length_replicate (by kernel_rfl) [0] (by kernel_rfl) (by kernel_rfl) ?_
    rintro ⟨xs_3, i_4⟩ _ y_80 hn_78 h
    rw [laws_toChoiceS.l_5] at h
    refine jc_seq ?_
    refine jc_seq ?_
    refine jc_region ?_
    refine jo_f [(0, 0), (0, 0), (0, 0), (0, 0)] (by kernel_rfl) ?_
    refine jo_end (by kernel_rfl) ?_
    refine jx_then ?_
    refine jc_cond (decide (i_4 < (a0.length : Int))) (by kernel_rfl) (fun hc_82 => ?_) (fun hc_82 => ?_)
    · replace h := ifT hc_82 h
      refine jc_skip ?_
      refine jx_then ?_
      refine jc_seq ?_
      refine jc_block ?_
      refine jc_region ?_
      refine jo_f [(0, 0), (0, 0), (0, 0), (0, 0)] (by kernel_rfl) ?_
      obtain ⟨x_7, hx_83, h⟩ := bd h
      refine toO (by kernel_rfl) (p_idx 0 a0_a a0.length i_4 4 (by kernel_rfl) (by kernel_rfl) (ix_some hx_83).1 (ltn hx_83 rfl) (a0_h.sp hx_83) (jkO ?_))
      refine toO (by kernel_rfl) (p_ld 0 (aB a0_a) (aO a0_a + i_4.toNat * 4) true (encGChoice x_7) (by kernel_rfl) (by kernel_rfl) (by kernel_rfl) (fun w hm => ((hm.exRow a0_h List.not_mem_nil).at hx_83)) (jkO ?_))
      obtain ⟨t_8, ht_84, h⟩ := bd h
      refine toO (by kernel_rfl) (p_call 0 56 #[(.agg #[(.bool x_7.fAway), (.int .i8 x_7.fLate), (.int .i8 x_7.fOctave), (.int .i8 x_7.fTrack)])] (by kernel_rfl) (by kernel_rfl) (fun w hm => laws_toChoice.calls x_7 w _ ht_84) ?_)
      rintro w v w' hm ⟨rfl, hm'⟩
      refine ⟨_, hm.app hm', jkO ?_⟩
      clear hm hm'
      obtain ⟨x_9, hx_85, h⟩ := bd h
      refine toO (by kernel_rfl) (p_idx 0 (some ⟨b_1, 0, none⟩) ((a0.length : Int).toNat) i_4 4 (by kernel_rfl) (by kernel_rfl) (ix_some hx_85).1 (ltn hx_85 hn_78) rfl (jkO ?_))
      refine toO (by kernel_rfl) (p_str 0 0 b_1 99 encGChoice xs_3 [] i_4 t_8 4 0 [(.bool t_8.fAway), (.int .i8 t_8.fLate), (.int .i8 t_8.fOctave), (.int .i8 t_8.fTrack)] (by kernel_rfl) (by kernel_rfl) (by kernel_rfl) encGChoice_len hx_85 (by kernel_rfl) (by kernel_rfl) (jkO ?_))
      refine jo_end (by kernel_rfl) ?_
      refine jx_inn ?_
      refine jx_then ?_
      refine jc_region ?_
      refine jo_f [(0, 0), (0, 0), (0, 0)] (by kernel_rfl) ?_
      refine jo_end (by kernel_rfl) ?_
      exact jx_back ((xs_3.set i_4.toNat t_8), (w64 (i_4 + 1))) () (Option.some.inj h).symm (List.length_set.trans hn_78) [0] (by kernel_rfl) (by kernel_rfl) (by kernel_rfl)
    · replace h := ifF hc_82 h
      refine jc_exit ?_
      refine jx_thenx ?_
      refine jx_leave xs_3 (Option.some.inj h).symm (fun e_86 => ?_)
      subst e_86
      refine jx_ine ?_
      exact jx_meet xs_3 ⟨hr_79, hn_78⟩ (by kernel_rfl) [0] (by kernel_rfl) (by kernel_rfl)
  · rintro xs_1 ⟨h, hn_66⟩
    replace h : laws_toChoiceS.k_2 xs_1 = some r := h
    rw [laws_toChoiceS.k_2] at h
    refine jx_then ?_
    refine jc_seq ?_
    refine jc_region ?_
    refine jo_f [(0, 0), (0, 0)] (by kernel_rfl) ?_
    refine jo_end (by kernel_rfl) ?_
    refine jx_then ?_
    refine jc_ret ?_
    obtain rfl := Option.some.inj h
    exact jx_ret [] (.slice (some ⟨b_1, 0, none⟩) ((a0.length : Int).toNat) ((a0.length : Int).toNat)) [] rfl (by kernel_rfl) (by kernel_rfl) (fun w hm => ⟨(some b_1), ((a0.length : Int).toNat), [], ((a0.length : Int).toNat), hn_66, (fun _ => ⟨Nat.le_refl _, by simp⟩), (fun e => nomatch e), rfl, hm.pick [0] (by kernel_rfl) (by kernel_rfl)⟩)

/-! ### spec.l01Note -/
noncomputable def spec_l01Note (n0 : GNote) : Option (Bool) := (spec_l00In (w64 n0.fAt) 0 199).bind fun t_1 => (if t_1 = true then (spec_l00In (w64 n0.fPitch) 0 47).bind fun t_2 => some t_2 else some false)
set_option maxRecDepth 100000 in
theorem spec_l01Note.calls (n0 : GNote) (w : World) (r : Bool) (h : spec_l01Note n0 = some r) :
    Calls Tryz.prog 136 #[(.agg #[(.int .i16 n0.fAt), (.int .i8 n0.fPitch)])] w fun e w' => ∃ v, e = .returned v ∧ (v = (.bool r) ∧ Mem w [] [] w') := by
  rw [spec_l01Note] at h
  refine enter (args := [(.agg #[(.int .i16 n0.fAt), (.int .i8 n0.fPitch)])]) Tryz.func136 rfl Tryz.ntmps136 (by kernel_rfl) (L := []) (W := []) (Mem.start w) ?_
  refine jc_seq ?_
  refine jc_region ?_
  refine toO (by kernel_rfl) (p_a 0 [0] (by kernel_rfl) (fun b => by kernel_rfl) (fun b_1 => jkO ?_))
  refine jo_f [(0, 0)] (by kernel_rfl) ?_
  refine jo_end (by kernel_rfl) ?_
  refine jx_then ?_
  refine jc_seq ?_
  refine jc_region ?_
  refine jo_f [(0, 0), (0, 0), (0, 0)] (by kernel_rfl) ?_
  obtain ⟨t_1, ht_2, h⟩ := bd h
  refine toO (by kernel_rfl) (p_call 0 66 #[(.int .i64 (w64 n0.fAt)), (.int .i64 0), (.int .i64 199)] (by kernel_rfl) (by kernel_rfl) (fun w hm => spec_l00In.calls (w64 n0.fAt) 0 199 w _ ht_2) ?_)
  rintro w v w' hm ⟨rfl, hm'⟩
  refine ⟨_, hm.app hm', jkO ?_⟩
  clear hm hm'
  refine jo_f [(0, 0), (0, 1), (0, 1), (0, 1)] (by kernel_rfl) ?_
  refine jo_split 7 t_1 (by kernel_rfl) (fun hc_3 => ?_) (fun hc_3 => ?_)
  · replace h := ifT hc_3 h
    obtain ⟨t_2, ht_4, h⟩ := bd h
    refine toO (by kernel_rfl) (p_call 2 66 #[(.int .i64 (w64 n0.fPitch)), (.int .i64 0), (.int .i64 47)] (by kernel_rfl) (by kernel_rfl) (fun w hm => spec_l00In.calls (w64 n0.fPitch) 0 47 w _ ht_4) ?_)
    rintro w v w' hm ⟨rfl, hm'⟩
    refine ⟨_, hm.app hm', jkO ?_⟩
    clear hm hm'
    refine jo_f [(0, 4), (0, 0)] (by kernel_rfl) ?_
    refine jo_end (by kernel_rfl) ?_
    refine jx_then ?_
    refine jc_ret ?_
    obtain rfl := Option.some.inj h
    exact jx_ret [] (.bool t_2) [] rfl (by kernel_rfl) (by kernel_rfl) (fun w hm => ⟨rfl, hm.pick [] (by kernel_rfl) (by kernel_rfl)⟩)
  · replace h := ifF hc_3 h
    refine jo_f [(0, 3), (0, 5), (0, 0)] (by kernel_rfl) ?_
    refine jo_end (by kernel_rfl) ?_
    refine jx_then ?_
    refine jc_ret ?_
    obtain rfl := Option.some.inj h
    exact jx_ret [] (.bool false) [] rfl (by kernel_rfl) (by kernel_rfl) (fun w hm => ⟨rfl, hm.pick [] (by kernel_rfl) (by kernel_rfl)⟩)

/-! ### spec.l01Before -/
noncomputable def spec_l01Before (a0 : GNote) (b1 : GNote) : Option (Bool) := (if (decide (a0.fAt < b1.fAt)) = true then some true else some ((a0.fAt == b1.fAt) && (decide (a0.fPitch < b1.fPitch))))
set_option maxRecDepth 100000 in
theorem spec_l01Before.calls (a0 : GNote) (b1 : GNote) (w : World) (r : Bool) (h : spec_l01Before a0 b1 = some r) :
    Calls Tryz.prog 118 #[(.agg #[(.int .i16 a0.fAt), (.int .i8 a0.fPitch)]), (.agg #[(.int .i16 b1.fAt), (.int .i8 b1.fPitch)])] w fun e w' => ∃ v, e = .returned v ∧ (v = (.bool r) ∧ Mem w [] [] w') := by
  rw [spec_l01Before] at h
  refine enter (args := [(.agg #[(.int .i16 a0.fAt), (.int .i8 a0.fPitch)]), (.agg #[(.int .i16 b1.fAt), (.int .i8 b1.fPitch)])]) Tryz.func118 rfl Tryz.ntmps118 (by kernel_rfl) (L := []) (W := []) (Mem.start w) ?_
  refine jc_seq ?_
  refine jc_region ?_
  refine toO (by kernel_rfl) (p_a 0 [0] (by kernel_rfl) (fun b => by kernel_rfl) (fun b_1 => jkO ?_))
  refine toO (by kernel_rfl) (p_a 0 [0] (by kernel_rfl) (fun b => by kernel_rfl) (fun b_2 => jkO ?_))
  refine jo_f [(0, 0)] (by kernel_rfl) ?_
  refine jo_end (by kernel_rfl) ?_
  refine jx_then ?_
  refine jc_seq ?_
  refine jc_region ?_
  refine jo_f [(0, 0), (0, 0), (0, 0), (1, 0), (0, 0), (0, 0), (0, 1), (0, 1), (0, 1), (1, 1), (0, 1)] (by kernel_rfl) ?_
  refine jo_split 10 (decide (a0.fAt < b1.fAt)) (by kernel_rfl) (fun hc_3 => ?_) (fun hc_3 => ?_)
  · replace h := ifT hc_3 h
    refine jo_f [(0, 3), (0, 3), (0, 3), (0, 3), (0, 3), (0, 3), (0, 3), (0, 4), (0, 0)] (by kernel_rfl) ?_
    refine jo_end (by kernel_rfl) ?_
    refine jx_then ?_
    refine jc_ret ?_
    obtain rfl := Option.some.inj h
    exact jx_ret [] (.bool true) [] rfl (by kernel_rfl) (by kernel_rfl) (fun w hm => ⟨rfl, hm.pick [] (by kernel_rfl) (by kernel_rfl)⟩)
  · replace h := ifF hc_3 h
    refine jo_f [(0, 2), (0, 1), (0, 1), (0, 1), (1, 1), (0, 1), (0, 2), (0, 5), (0, 0)] (by kernel_rfl) ?_
    refine jo_end (by kernel_rfl) ?_
    refine jx_then ?_
    refine jc_ret ?_
    obtain rfl := Option.some.inj h
    exact jx_ret [] (.bool ((a0.fAt == b1.fAt) && (decide (a0.fPitch < b1.fPitch)))) [] rfl (by kernel_rfl) (by kernel_rfl) (fun w hm => ⟨rfl, hm.pick [] (by kernel_rfl) (by kernel_rfl)⟩)

/-! ### spec.l01Ok -/
noncomputable def spec_l01Ok.k_1 (t0 : List GNote) : Option (Bool) := some (decide ((t0.length : Int) ≤ 120))
noncomputable def spec_l01Ok.k_6 (i_2 : Int) (q_5 : Bool) : Option ((Int) ⊕ (Bool ⊕ Unit)) := (if q_5 = true then some (.inr (.inl false)) else some (.inl (w64 (i_2 + 1))))
noncomputable def spec_l01Ok.l_3 (t0 : List GNote) : Int → Option ((Int) ⊕ (Bool ⊕ Unit))
  | i_2 => (if (decide (i_2 < (t0.length : Int))) = true then (ix t0 i_2).bind fun x_7 => (spec_l01Note x_7).bind fun t_8 => (if (!t_8) = true then spec_l01Ok.k_6 i_2 true else (if (decide (i_2 > 0)) = true then (ix t0 (w64 (i_2 - 1))).bind fun x_9 => (ix t0 i_2).bind fun x_10 => (spec_l01Before x_9 x_10).bind fun t_11 => spec_l01Ok.k_6 i_2 (!t_11) else spec_l01Ok.k_6 i_2 false)) else some (.inr (.inr ())))
noncomputable def spec_l01Ok (t0 : List GNote) : Option (Bool) := (loop (spec_l01Ok.l_3 t0) 0).bind fun t_4 => match t_4 with | .inl p => some p | .inr p => spec_l01Ok.k_1 t0
set_option maxRecDepth 100000 in
theorem spec_l01Ok.calls (t0 : List GNote) (w : World) (r : Bool) (t0_a : Option Addr) (t0_an : Nat) (t0_c : Nat) (t0_h : Rw w t0_a 2 encGNote t0) (t0_hn : t0.length = t0_an) (h : spec_l01Ok t0 = some r) :
    Calls Tryz.prog 114 #[(.slice t0_a t0_an t0_c)] w fun e w' => ∃ v, e = .returned v ∧ (v = (.bool r) ∧ Mem w [] [] w') := by
  subst t0_hn
  rw [spec_l01Ok] at h
  refine enter (args := [(.slice t0_a t0.length t0_c)]) Tryz.func114 rfl Tryz.ntmps114 (by kernel_rfl) (L := []) (W := []) (Mem.start w) ?_
  refine jc_seq ?_
  refine jc_region ?_
  refine jo_f [(0, 0)] (by kernel_rfl) ?_
  refine jo_end (by kernel_rfl) ?_
  refine jx_then ?_
  refine jc_seq ?_
  refine jc_seq ?_
  refine jc_region ?_
  refine jo_f [(0, 0)] (by kernel_rfl) ?_
  refine jo_end (by kernel_rfl) ?_
  refine jx_then ?_
  refine jc_meet (fun (_ : Unit) => spec_l01Ok.k_1 t0 = some r) (fun (_ : Unit) => [(0, [], (.slice t0_a t0.length t0_c)), (2, [], (.bool false))]) (fun (_ : Unit) => []) ?_ ?_
  · refine jc_block ?_
    obtain ⟨t_4, ht_224, hr_203⟩ := bd h
    refine jc_loop (fun (s : Int) (x : Unit) => match s, x with | i_2, _ => True) (fun (s : Int) (x : Unit) => match s, x with | i_2, _ => [(0, [], (.slice t0_a t0.length t0_c)), (2, [], (.bool false)), (3, [], (.int .i64 i_2))]) (fun (s : Int) (x : Unit) => match s, x with | i_2, _ => []) ht_224 () trivial (by kernel_rfl) [] (by kernel_rfl) (by kernel_rfl) ?_
    rintro i_2 _ y_204 _ h
    rw [spec_l01Ok.l_3] at h
    refine jc_seq ?_
    refine jc_seq ?_
    refine jc_region ?_
    refine jo_f [(0, 0), (0, 0), (0, 0), (0, 0)] (by kernel_rfl) ?_
    refine jo_end (by kernel_rfl) ?_
    refine jx_then ?_
    refine jc_cond (decide (i_2 < (t0.length : Int))) (by kernel_rfl) (fun hc_206 => ?_) (fun hc_206 => ?_)
    · replace h := ifT hc_206 h
      refine jc_skip ?_
      refine jx_then ?_
      refine jc_seq ?_
      refine jc_block ?_
      refine jc_seq ?_
      refine jc_meet (fun (j : Bool) => match j with | q_5 => spec_l01Ok.k_6 i_2 q_5 = some y_204) (fun (j : Bool) => match j with | q_5 => [(0, [], (.slice t0_a t0.length t0_c)), (2, [], (.bool false)), (3, [], (.int .i64 i_2)), (32, [], (.bool q_5))]) (fun (j : Bool) => match j with | q_5 => []) ?_ ?_
      · refine jc_draw [] 23 (by kernel_rfl) (by kernel_rfl) ?_
        refine jd_f [⟨0, 0, 0⟩, ⟨1, 0, 0⟩] 21 (by kernel_rfl) (by kernel_rfl) (fun w h => h.pick [] (by kernel_rfl) (by kernel_rfl)) (by kernel_rfl) (by kernel_rfl) ?_
        obtain ⟨x_7, hx_216, h⟩ := bd h
        refine jd_v 2 0 (by kernel_rfl) (fun w h => h.pick [] (by kernel_rfl) (by kernel_rfl)) (by kernel_rfl) (by kernel_rfl) _ (fun w hm => idx_run (a := t0_a) (len := t0.length) (s := 2) (j := i_2) (by kernel_rfl) (ix_some hx_216).1 (ltn hx_216 rfl) (t0_h.sp hx_216)) ?_
        refine jd_v 3 0 (by kernel_rfl) (fun w h => h.pick [] (by kernel_rfl) (by kernel_rfl)) (by kernel_rfl) (by kernel_rfl) _ (fun w hm => ld_run (b := aB t0_a) (off := (aO t0_a + i_2.toNat * 2)) (s := 2) (agg := true) (vs := (encGNote x_7)) (by kernel_rfl) (by kernel_rfl) (.inl rfl) ((hm.exRow t0_h List.not_mem_nil).at hx_216)) ?_
        obtain ⟨t_8, ht_217, h⟩ := bd h
        refine toD 4 (by kernel_rfl) (p_call 0 136 #[(.agg #[(.int .i16 x_7.fAt), (.int .i8 x_7.fPitch)])] (by kernel_rfl) (by kernel_rfl) (fun w hm => spec_l01Note.calls x_7 w _ ht_217) ?_)
        rintro w v w' hm ⟨rfl, hm'⟩
        refine ⟨_, hm.app hm', jkD (fun w h => h.pick [] (by kernel_rfl) (by kernel_rfl)) ?_⟩
        clear hm hm'
        refine jd_f [⟨5, 0, 0⟩, ⟨6, 0, 0⟩, ⟨7, 0, 1⟩, ⟨8, 0, 1⟩] 14 (by kernel_rfl) (by kernel_rfl) (fun w h => h.pick [] (by kernel_rfl) (by kernel_rfl)) (by kernel_rfl) (by kernel_rfl) ?_
        refine jd_split 16 (!t_8) (by kernel_rfl) (fun hc_218 => ?_) (fun hc_218 => ?_)
        · replace h := ifT hc_218 h
          refine jd_f [⟨9, 0, 3⟩, ⟨10, 0, 3⟩, ⟨11, 0, 3⟩, ⟨12, 0, 3⟩, ⟨13, 0, 3⟩, ⟨14, 0, 3⟩, ⟨15, 0, 3⟩, ⟨16, 0, 3⟩, ⟨17, 0, 3⟩, ⟨18, 0, 3⟩, ⟨19, 0, 3⟩, ⟨20, 0, 3⟩, ⟨21, 0, 3⟩, ⟨22, 0, 4⟩] 0 (by kernel_rfl) (by kernel_rfl) (fun w h => h.pick [] (by kernel_rfl) (by kernel_rfl)) (by kernel_rfl) (by kernel_rfl) ?_
          refine jd_end (by kernel_rfl) ?_
          exact jx_meet true h (by kernel_rfl) [] (by kernel_rfl) (by kernel_rfl)
        · replace h := ifF hc_218 h
          refine jd_f [⟨9, 0, 2⟩, ⟨10, 0, 1⟩, ⟨11, 0, 1⟩, ⟨12, 0, 1⟩, ⟨15, 0, 1⟩, ⟨16, 0, 1⟩] 8 (by kernel_rfl) (by kernel_rfl) (fun w h => h.pick [] (by kernel_rfl) (by kernel_rfl)) (by kernel_rfl) (by kernel_rfl) ?_
          refine jd_split 19 (decide (i_2 > 0)) (by kernel_rfl) (fun hc_219 => ?_) (fun hc_219 => ?_)
          · replace h := ifT hc_219 h
            obtain ⟨x_9, hx_220, h⟩ := bd h
            refine jd_v 13 2 (by kernel_rfl) (fun w h => h.pick [] (by kernel_rfl) (by kernel_rfl)) (by kernel_rfl) (by kernel_rfl) _ (fun w hm => idx_run (a := t0_a) (len := t0.length) (s := 2) (j := (w64 (i_2 - 1))) (by kernel_rfl) (ix_some hx_220).1 (ltn hx_220 rfl) (t0_h.sp hx_220)) ?_
            refine jd_v 14 2 (by kernel_rfl) (fun w h => h.pick [] (by kernel_rfl) (by kernel_rfl)) (by kernel_rfl) (by kernel_rfl) _ (fun w hm => ld_run (b := aB t0_a) (off := (aO t0_a + (w64 (i_2 - 1)).toNat * 2)) (s := 2) (agg := true) (vs := (encGNote x_9)) (by kernel_rfl) (by kernel_rfl) (.inl rfl) ((hm.exRow t0_h List.not_mem_nil).at hx_220)) ?_
            obtain ⟨x_10, hx_221, h⟩ := bd h
            refine jd_v 17 2 (by kernel_rfl) (fun w h => h.pick [] (by kernel_rfl) (by kernel_rfl)) (by kernel_rfl) (by kernel_rfl) _ (fun w hm => idx_run (a := t0_a) (len := t0.length) (s := 2) (j := i_2) (by kernel_rfl) (ix_some hx_221).1 (ltn hx_221 rfl) (t0_h.sp hx_221)) ?_
            refine jd_v 18 2 (by kernel_rfl) (fun w h => h.pick [] (by kernel_rfl) (by kernel_rfl)) (by kernel_rfl) (by kernel_rfl) _ (fun w hm => ld_run (b := aB t0_a) (off := (aO t0_a + i_2.toNat * 2)) (s := 2) (agg := true) (vs := (encGNote x_10)) (by kernel_rfl) (by kernel_rfl) (.inl rfl) ((hm.exRow t0_h List.not_mem_nil).at hx_221)) ?_
            obtain ⟨t_11, ht_222, h⟩ := bd h
            refine toD 19 (by kernel_rfl) (p_call 2 118 #[(.agg #[(.int .i16 x_9.fAt), (.int .i8 x_9.fPitch)]), (.agg #[(.int .i16 x_10.fAt), (.int .i8 x_10.fPitch)])] (by kernel_rfl) (by kernel_rfl) (fun w hm => spec_l01Before.calls x_9 x_10 w _ ht_222) ?_)
            rintro w v w' hm ⟨rfl, hm'⟩
            refine ⟨_, hm.app hm', jkD (fun w h => h.pick [] (by kernel_rfl) (by kernel_rfl)) ?_⟩
            clear hm hm'
            refine jd_f [⟨20, 0, 2⟩, ⟨21, 0, 4⟩, ⟨22, 0, 5⟩] 0 (by kernel_rfl) (by kernel_rfl) (fun w h => h.pick [] (by kernel_rfl) (by kernel_rfl)) (by kernel_rfl) (by kernel_rfl) ?_
            refine jd_end (by kernel_rfl) ?_
            exact jx_meet (!t_11) h (by kernel_rfl) [] (by kernel_rfl) (by kernel_rfl)
          · replace h := ifF hc_219 h
            refine jd_f [⟨13, 0, 3⟩, ⟨14, 0, 3⟩, ⟨17, 0, 3⟩, ⟨18, 0, 3⟩, ⟨19, 0, 3⟩, ⟨20, 0, 3⟩, ⟨21, 0, 5⟩, ⟨22, 0, 5⟩] 0 (by kernel_rfl) (by kernel_rfl) (fun w h => h.pick [] (by kernel_rfl) (by kernel_rfl)) (by kernel_rfl) (by kernel_rfl) ?_
            refine jd_end (by kernel_rfl) ?_
            exact jx_meet false h (by kernel_rfl) [] (by kernel_rfl) (by kernel_rfl)
      · rintro q_5 h
        replace h : spec_l01Ok.k_6 i_2 q_5 = some y_204 := h
        rw [spec_l01Ok.k_6] at h
        refine jx_then ?_
        refine jc_cond q_5 (by kernel_rfl) (fun hc_214 => ?_) (fun hc_214 => ?_)
        · replace h := ifT hc_214 h
          refine jc_seq ?_
          refine jc_region ?_
          refine jo_f [(0, 0)] (by kernel_rfl) ?_
          refine jo_end (by kernel_rfl) ?_
          refine jx_then ?_
          refine jc_ret ?_
          refine jx_inr ?_
          refine jx_thenr ?_
          refine jx_leaver (.inl false) (Option.some.inj h).symm (fun e_215 => ?_)
          subst e_215
          refine jx_inr ?_
          refine jx_thenr ?_
          refine jx_thenr ?_
          obtain rfl := Option.some.inj hr_203
          exact jx_ret [] (.bool false) [] rfl (by kernel_rfl) (by kernel_rfl) (fun w hm => ⟨rfl, hm.pick [] (by kernel_rfl) (by kernel_rfl)⟩)
        · replace h := ifF hc_214 h
          refine jc_skip ?_
          refine jx_inn ?_
          refine jx_then ?_
          refine jc_region ?_
          refine jo_f [(0, 0), (0, 0), (0, 0)] (by kernel_rfl) ?_
          refine jo_end (by kernel_rfl) ?_
          exact jx_back (w64 (i_2 + 1)) () (Option.some.inj h).symm trivial [] (by kernel_rfl) (by kernel_rfl) (by kernel_rfl)
    · replace h := ifF hc_206 h
      refine jc_exit ?_
      refine jx_thenx ?_
      refine jx_leave (.inr ()) (Option.some.inj h).symm (fun e_223 => ?_)
      subst e_223
      refine jx_ine ?_
      exact jx_meet () hr_203 (by kernel_rfl) [] (by kernel_rfl) (by kernel_rfl)
  · rintro _ h
    replace h : spec_l01Ok.k_1 t0 = some r := h
    rw [spec_l01Ok.k_1] at h
    refine jx_then ?_
    refine jc_seq ?_
    refine jc_region ?_
    refine jo_f [(0, 0), (0, 0), (0, 0), (0, 0)] (by kernel_rfl) ?_
    refine jo_end (by kernel_rfl) ?_
    refine jx_then ?_
    refine jc_ret ?_
    obtain rfl := Option.some.inj h
    exact jx_ret [] (.bool (decide ((t0.length : Int) ≤ 120))) [] rfl (by kernel_rfl) (by kernel_rfl) (fun w hm => ⟨rfl, hm.pick [] (by kernel_rfl) (by kernel_rfl)⟩)

/-! ### spec.l07Choice -/
noncomputable def spec_l07Choice (x0 : GChoice) : Option (Bool) := (if x0.fAway = true then some ((x0.fAway == true) && ((x0.fLate == 0) && ((x0.fOctave == 0) && (x0.fTrack == 0)))) else (spec_l00In (w64 x0.fLate) (-3) 3).bind fun t_1 => (if t_1 = true then (spec_l00In (w64 x0.fOctave) (-1) 1).bind fun t_2 => (if t_2 = true then (spec_l00In (w64 x0.fTrack) 0 23).bind fun t_3 => some t_3 else some false) else some false))
set_option maxRecDepth 100000 in
theorem spec_l07Choice.calls (x0 : GChoice) (w : World) (r : Bool) (h : spec_l07Choice x0 = some r) :
    Calls Tryz.prog 137 #[(.agg #[(.bool x0.fAway), (.int .i8 x0.fLate), (.int .i8 x0.fOctave), (.int .i8 x0.fTrack)])] w fun e w' => ∃ v, e = .returned v ∧ (v = (.bool r) ∧ Mem w [] [] w') := by
  rw [spec_l07Choice] at h
  refine enter (args := [(.agg #[(.bool x0.fAway), (.int .i8 x0.fLate), (.int .i8 x0.fOctave), (.int .i8 x0.fTrack)])]) Tryz.func137 rfl Tryz.ntmps137 (by kernel_rfl) (L := []) (W := []) (Mem.start w) ?_
  refine jc_seq ?_
  refine jc_region ?_
  refine toO (by kernel_rfl) (p_a 0 [0] (by kernel_rfl) (fun b => by kernel_rfl) (fun b_1 => jkO ?_))
  refine jo_f [(0, 0)] (by kernel_rfl) ?_
  refine jo_end (by kernel_rfl) ?_
  refine jx_then ?_
  refine jc_seq ?_
  refine jc_seq ?_
  refine jc_region ?_
  refine jo_f [(0, 0), (0, 0)] (by kernel_rfl) ?_
  refine jo_end (by kernel_rfl) ?_
  refine jx_then ?_
  refine jc_cond x0.fAway (by kernel_rfl) (fun hc_3 => ?_) (fun hc_3 => ?_)
  · replace h := ifT hc_3 h
    refine jc_seq ?_
    refine jc_region ?_
    refine jo_f [(0, 0), (0, 0), (0, 0), (0, 0)] (by kernel_rfl) ?_
    refine jo_end (by kernel_rfl) ?_
    refine jx_then ?_
    refine jc_ret ?_
    refine jx_thenr ?_
    obtain rfl := Option.some.inj h
    exact jx_ret [] (.bool ((x0.fAway == true) && ((x0.fLate == 0) && ((x0.fOctave == 0) && (x0.fTrack == 0))))) [] rfl (by kernel_rfl) (by kernel_rfl) (fun w hm => ⟨rfl, hm.pick [] (by kernel_rfl) (by kernel_rfl)⟩)
  · replace h := ifF hc_3 h
    refine jc_skip ?_
    refine jx_then ?_
    refine jc_seq ?_
    refine jc_region ?_
    refine jo_f [(0, 0), (0, 0), (0, 0)] (by kernel_rfl) ?_
    obtain ⟨t_1, ht_4, h⟩ := bd h
    refine toO (by kernel_rfl) (p_call 0 66 #[(.int .i64 (w64 x0.fLate)), (.int .i64 (-3)), (.int .i64 3)] (by kernel_rfl) (by kernel_rfl) (fun w hm => spec_l00In.calls (w64 x0.fLate) (-3) 3 w _ ht_4) ?_)
    rintro w v w' hm ⟨rfl, hm'⟩
    refine ⟨_, hm.app hm', jkO ?_⟩
    clear hm hm'
    refine jo_f [(0, 0), (0, 1), (0, 1), (0, 1)] (by kernel_rfl) ?_
    refine jo_split 12 t_1 (by kernel_rfl) (fun hc_5 => ?_) (fun hc_5 => ?_)
    · replace h := ifT hc_5 h
      obtain ⟨t_2, ht_6, h⟩ := bd h
      refine toO (by kernel_rfl) (p_call 2 66 #[(.int .i64 (w64 x0.fOctave)), (.int .i64 (-1)), (.int .i64 1)] (by kernel_rfl) (by kernel_rfl) (fun w hm => spec_l00In.calls (w64 x0.fOctave) (-1) 1 w _ ht_6) ?_)
      rintro w v w' hm ⟨rfl, hm'⟩
      refine ⟨_, hm.app hm', jkO ?_⟩
      clear hm hm'
      refine jo_f [(0, 4), (0, 0), (0, 1), (0, 1), (0, 1)] (by kernel_rfl) ?_
      refine jo_split 18 t_2 (by kernel_rfl) (fun hc_7 => ?_) (fun hc_7 => ?_)
      · replace h := ifT hc_7 h
        obtain ⟨t_3, ht_8, h⟩ := bd h
        refine toO (by kernel_rfl) (p_call 2 66 #[(.int .i64 (w64 x0.fTrack)), (.int .i64 0), (.int .i64 23)] (by kernel_rfl) (by kernel_rfl) (fun w hm => spec_l00In.calls (w64 x0.fTrack) 0 23 w _ ht_8) ?_)
        rintro w v w' hm ⟨rfl, hm'⟩
        refine ⟨_, hm.app hm', jkO ?_⟩
        clear hm hm'
        refine jo_f [(0, 4), (0, 0)] (by kernel_rfl) ?_
        refine jo_end (by kernel_rfl) ?_
        refine jx_then ?_
        refine jc_ret ?_
        obtain rfl := Option.some.inj h
        exact jx_ret [] (.bool t_3) [] rfl (by kernel_rfl) (by kernel_rfl) (fun w hm => ⟨rfl, hm.pick [] (by kernel_rfl) (by kernel_rfl)⟩)
      · replace h := ifF hc_7 h
        refine jo_f [(0, 3), (0, 5), (0, 0)] (by kernel_rfl) ?_
        refine jo_end (by kernel_rfl) ?_
        refine jx_then ?_
        refine jc_ret ?_
        obtain rfl := Option.some.inj h
        exact jx_ret [] (.bool false) [] rfl (by kernel_rfl) (by kernel_rfl) (fun w hm => ⟨rfl, hm.pick [] (by kernel_rfl) (by kernel_rfl)⟩)
    · replace h := ifF hc_5 h
      refine jo_f [(0, 3), (0, 5), (0, 0), (0, 3), (0, 3), (0, 3), (0, 3), (0, 5), (0, 0)] (by kernel_rfl) ?_
      refine jo_end (by kernel_rfl) ?_
      refine jx_then ?_
      refine jc_ret ?_
      obtain rfl := Option.some.inj h
      exact jx_ret [] (.bool false) [] rfl (by kernel_rfl) (by kernel_rfl) (fun w hm => ⟨rfl, hm.pick [] (by kernel_rfl) (by kernel_rfl)⟩)

/-! ### spec.l07Choices -/
noncomputable def spec_l07Choices.k_1 : Option (Bool) := some true
noncomputable def spec_l07Choices.l_3 (list0 : List GChoice) : Int → Option ((Int) ⊕ (Bool ⊕ Unit))
  | i_2 => (if (decide (i_2 < (list0.length : Int))) = true then (ix list0 i_2).bind fun x_5 => (spec_l07Choice x_5).bind fun t_6 => (if (!t_6) = true then some (.inr (.inl false)) else some (.inl (w64 (i_2 + 1)))) else some (.inr (.inr ())))
noncomputable def spec_l07Choices (list0 : List GChoice) : Option (Bool) := (loop (spec_l07Choices.l_3 list0) 0).bind fun t_4 => match t_4 with | .inl p => some p | .inr p => spec_l07Choices.k_1
set_option maxRecDepth 100000 in
theorem spec_l07Choices.calls (list0 : List GChoice) (w : World) (r : Bool) (list0_a : Option Addr) (list0_an : Nat) (list0_c : Nat) (list0_h : Rw w list0_a 4 encGChoice list0) (list0_hn : list0.length = list0_an) (h : spec_l07Choices list0 = some r) :
    Calls Tryz.prog 115 #[(.slice list0_a list0_an list0_c)] w fun e w' => ∃ v, e = .returned v ∧ (v = (.bool r) ∧ Mem w [] [] w') := by
  subst list0_hn
  rw [spec_l07Choices] at h
  refine enter (args := [(.slice list0_a list0.length list0_c)]) Tryz.func115 rfl Tryz.ntmps115 (by kernel_rfl) (L := []) (W := []) (Mem.start w) ?_
  refine jc_seq ?_
  refine jc_region ?_
  refine jo_f [(0, 0)] (by kernel_rfl) ?_
  refine jo_end (by kernel_rfl) ?_
  refine jx_then ?_
  refine jc_seq ?_
  refine jc_seq ?_
  refine jc_region ?_
  refine jo_f [(0, 0)] (by kernel_rfl) ?_
  refine jo_end (by kernel_rfl) ?_
  refine jx_then ?_
  refine jc_meet (fun (_ : Unit) => spec_l07Choices.k_1 = some r) (fun (_ : Unit) => [(2, [], (.bool false))]) (fun (_ : Unit) => []) ?_ ?_
  · refine jc_block ?_
    obtain ⟨t_4, ht_40, hr_31⟩ := bd h
    refine jc_loop (fun (s : Int) (x : Unit) => match s, x with | i_2, _ => True) (fun (s : Int) (x : Unit) => match s, x with | i_2, _ => [(0, [], (.slice list0_a list0.length list0_c)), (2, [], (.bool false)), (3, [], (.int .i64 i_2))]) (fun (s : Int) (x : Unit) => match s, x with | i_2, _ => []) ht_40 () trivial (by kernel_rfl) [] (by kernel_rfl) (by kernel_rfl) ?_
    rintro i_2 _ y_32 _ h
    rw [spec_l07Choices.l_3] at h
    refine jc_seq ?_
    refine jc_seq ?_
    refine jc_region ?_
    refine jo_f [(0, 0), (0, 0), (0, 0), (0, 0)] (by kernel_rfl) ?_
    refine jo_end (by kernel_rfl) ?_
    refine jx_then ?_
    refine jc_cond (decide (i_2 < (list0.length : Int))) (by kernel_rfl) (fun hc_34 => ?_) (fun hc_34 => ?_)
    · replace h := ifT hc_34 h
      refine jc_skip ?_
      refine jx_then ?_
      refine jc_seq ?_
      refine jc_block ?_
      refine jc_seq ?_
      refine jc_region ?_
      refine jo_f [(0, 0), (0, 0)] (by kernel_rfl) ?_
      obtain ⟨x_5, hx_35, h⟩ := bd h
      refine toO (by kernel_rfl) (p_idx 0 list0_a list0.length i_2 4 (by kernel_rfl) (by kernel_rfl) (ix_some hx_35).1 (ltn hx_35 rfl) (list0_h.sp hx_35) (jkO ?_))
      refine toO (by kernel_rfl) (p_ld 0 (aB list0_a) (aO list0_a + i_2.toNat * 4) true (encGChoice x_5) (by kernel_rfl) (by kernel_rfl) (by kernel_rfl) (fun w hm => ((hm.exRow list0_h List.not_mem_nil).at hx_35)) (jkO ?_))
      obtain ⟨t_6, ht_36, h⟩ := bd h
      refine toO (by kernel_rfl) (p_call 0 137 #[(.agg #[(.bool x_5.fAway), (.int .i8 x_5.fLate), (.int .i8 x_5.fOctave), (.int .i8 x_5.fTrack)])] (by kernel_rfl) (by kernel_rfl) (fun w hm => spec_l07Choice.calls x_5 w _ ht_36) ?_)
      rintro w v w' hm ⟨rfl, hm'⟩
      refine ⟨_, hm.app hm', jkO ?_⟩
      clear hm hm'
      refine jo_f [(0, 0)] (by kernel_rfl) ?_
      refine jo_end (by kernel_rfl) ?_
      refine jx_then ?_
      refine jc_cond (!t_6) (by kernel_rfl) (fun hc_37 => ?_) (fun hc_37 => ?_)
      · replace h := ifT hc_37 h
        refine jc_seq ?_
        refine jc_region ?_
        refine jo_f [(0, 0)] (by kernel_rfl) ?_
        refine jo_end (by kernel_rfl) ?_
        refine jx_then ?_
        refine jc_ret ?_
        refine jx_inr ?_
        refine jx_thenr ?_
        refine jx_leaver (.inl false) (Option.some.inj h).symm (fun e_38 => ?_)
        subst e_38
        refine jx_inr ?_
        refine jx_thenr ?_
        refine jx_thenr ?_
        obtain rfl := Option.some.inj hr_31
        exact jx_ret [] (.bool false) [] rfl (by kernel_rfl) (by kernel_rfl) (fun w hm => ⟨rfl, hm.pick [] (by kernel_rfl) (by kernel_rfl)⟩)
      · replace h := ifF hc_37 h
        refine jc_skip ?_
        refine jx_inn ?_
        refine jx_then ?_
        refine jc_region ?_
        refine jo_f [(0, 0), (0, 0), (0, 0)] (by kernel_rfl) ?_
        refine jo_end (by kernel_rfl) ?_
        exact jx_back (w64 (i_2 + 1)) () (Option.some.inj h).symm trivial [] (by kernel_rfl) (by kernel_rfl) (by kernel_rfl)
    · replace h := ifF hc_34 h
      refine jc_exit ?_
      refine jx_thenx ?_
      refine jx_leave (.inr ()) (Option.some.inj h).symm (fun e_39 => ?_)
      subst e_39
      refine jx_ine ?_
      exact jx_meet () hr_31 (by kernel_rfl) [] (by kernel_rfl) (by kernel_rfl)
  · rintro _ h
    replace h : spec_l07Choices.k_1 = some r := h
    rw [spec_l07Choices.k_1] at h
    refine jx_then ?_
    refine jc_seq ?_
    refine jc_region ?_
    refine jo_f [(0, 0)] (by kernel_rfl) ?_
    refine jo_end (by kernel_rfl) ?_
    refine jx_then ?_
    refine jc_ret ?_
    obtain rfl := Option.some.inj h
    exact jx_ret [] (.bool true) [] rfl (by kernel_rfl) (by kernel_rfl) (fun w hm => ⟨rfl, hm.pick [] (by kernel_rfl) (by kernel_rfl)⟩)

/-! ### spec.l07Asked -/
noncomputable def spec_l07Asked.k_2 (t1 : List GNote) (list2 : List GChoice) (q_1 : Bool) : Option (Int) := (if q_1 = true then some 1 else (if ((list2.length : Int) != (t1.length : Int)) = true then some 2 else some 0))
noncomputable def spec_l07Asked (f0 : GFrame) (t1 : List GNote) (list2 : List GChoice) : Option (Int) := (spec_l02Frame f0).bind fun t_3 => (if (!t_3) = true then spec_l07Asked.k_2 t1 list2 true else (spec_l01Ok t1).bind fun t_4 => (if (!t_4) = true then spec_l07Asked.k_2 t1 list2 true else (spec_l07Choices list2).bind fun t_5 => spec_l07Asked.k_2 t1 list2 (!t_5)))
set_option maxRecDepth 100000 in
theorem spec_l07Asked.calls (f0 : GFrame) (t1 : List GNote) (list2 : List GChoice) (w : World) (r : Int) (f0_fHammers_a : Option Addr) (f0_fHammers_an : Nat) (f0_fHammers_c : Nat) (f0_fHammers_h : Rw w f0_fHammers_a 2 encGHammer f0.fHammers) (f0_fHammers_hn : f0.fHammers.length = f0_fHammers_an) (t1_a : Option Addr) (t1_an : Nat) (t1_c : Nat) (t1_h : Rw w t1_a 2 encGNote t1) (t1_hn : t1.length = t1_an) (list2_a : Option Addr) (list2_an : Nat) (list2_c : Nat) (list2_h : Rw w list2_a 4 encGChoice list2) (list2_hn : list2.length = list2_an) (f0_b : Nat) (hm0 : Mem w (bs [some f0_b]) [⟨some f0_b, 42, [(.int .i16 f0.fSteps), (.slice f0_fHammers_a f0_fHammers_an f0_fHammers_c)]⟩] w) (f0_fHammers_ha : f0.fHammers ≠ [] → aB f0_fHammers_a ∉ bs [some f0_b]) (t1_ha : t1 ≠ [] → aB t1_a ∉ bs [some f0_b]) (list2_ha : list2 ≠ [] → aB list2_a ∉ bs [some f0_b]) (h : spec_l07Asked f0 t1 list2 = some r) :
    Calls Tryz.prog 87 #[(.pointer (some ⟨f0_b, 0, none⟩)), (.slice t1_a t1_an t1_c), (.slice list2_a list2_an list2_c)] w fun e w' => ∃ v, e = .returned v ∧ (v = (.int .i64 r) ∧ Mem w (bs [some f0_b]) [⟨some f0_b, 42, [(.int .i16 f0.fSteps), (.slice f0_fHammers_a f0_fHammers_an f0_fHammers_c)]⟩] w') := by
  subst f0_fHammers_hn t1_hn list2_hn
  rw [spec_l07Asked] at h
  refine enter (args := [(.pointer (some ⟨f0_b, 0, none⟩)), (.slice t1_a t1.length t1_c), (.slice list2_a list2.length list2_c)]) Tryz.func87 rfl Tryz.ntmps87 (by kernel_rfl) (L := [⟨some f0_b, 42, [(.int .i16 f0.fSteps), (.slice f0_fHammers_a f0.fHammers.length f0_fHammers_c)]⟩]) (W := bs [some f0_b]) hm0 ?_
  refine jc_seq ?_
  refine jc_region ?_
  refine jo_f [(0, 0)] (by kernel_rfl) ?_
  refine jo_end (by kernel_rfl) ?_
  refine jx_then ?_
  refine jc_seq ?_
  refine jc_seq ?_
  refine jc_meet (fun (j : Bool) => match j with | q_1 => spec_l07Asked.k_2 t1 list2 q_1 = some r) (fun (j : Bool) => match j with | q_1 => [(1, [], (.slice t1_a t1.length t1_c)), (2, [], (.slice list2_a list2.length list2_c)), (6, [], (.int .i64 0)), (19, [], (.bool q_1))]) (fun (j : Bool) => match j with | q_1 => [⟨some f0_b, 42, [(.int .i16 f0.fSteps), (.slice f0_fHammers_a f0.fHammers.length f0_fHammers_c)]⟩]) ?_ ?_
  · refine jc_region ?_
    refine jo_f [(0, 0)] (by kernel_rfl) ?_
    obtain ⟨t_3, ht_19, h⟩ := bd h
    refine toO (by kernel_rfl) (p_call 0 61 #[(.pointer (some ⟨f0_b, 0, none⟩))] (by kernel_rfl) (by kernel_rfl) (fun w hm => spec_l02Frame.calls f0 w _ f0_fHammers_a f0.fHammers.length f0_fHammers_c (hm.exRowW f0_fHammers_h f0_fHammers_ha) rfl f0_b (hm.pass (N := [⟨some f0_b, 42, [(.int .i16 f0.fSteps), (.slice f0_fHammers_a f0.fHammers.length f0_fHammers_c)]⟩]) [0] (by kernel_rfl) (by kernel_rfl)) (hm.exApart (N := [⟨some f0_b, 42, [(.int .i16 f0.fSteps), (.slice f0_fHammers_a f0.fHammers.length f0_fHammers_c)]⟩]) f0_fHammers_h f0_fHammers_ha [0] (by kernel_rfl)) ht_19) ?_)
    rintro w v w' hm ⟨rfl, hm'⟩
    refine ⟨_, hm.appW (ps := [(0, ⟨some f0_b, 42, [(.int .i16 f0.fSteps), (.slice f0_fHammers_a f0.fHammers.length f0_fHammers_c)]⟩)]) (N := []) hm' (by kernel_rfl) (by kernel_rfl), jkO ?_⟩
    clear hm hm'
    refine jo_f [(0, 0), (0, 0), (0, 1)] (by kernel_rfl) ?_
    refine jo_split 10 (!t_3) (by kernel_rfl) (fun hc_20 => ?_) (fun hc_20 => ?_)
    · replace h := ifT hc_20 h
      refine jo_f [(0, 3), (0, 3), (0, 4), (0, 0), (0, 3), (0, 3), (0, 3), (0, 4)] (by kernel_rfl) ?_
      refine jo_end (by kernel_rfl) ?_
      exact jx_meet true h (by kernel_rfl) [0] (by kernel_rfl) (by kernel_rfl)
    · replace h := ifF hc_20 h
      obtain ⟨t_4, ht_21, h⟩ := bd h
      refine toO (by kernel_rfl) (p_call 2 114 #[(.slice t1_a t1.length t1_c)] (by kernel_rfl) (by kernel_rfl) (fun w hm => spec_l01Ok.calls t1 w _ t1_a t1.length t1_c (hm.exRowW t1_h t1_ha) rfl ht_21) ?_)
      rintro w v w' hm ⟨rfl, hm'⟩
      refine ⟨_, hm.app hm', jkO ?_⟩
      clear hm hm'
      refine jo_f [(0, 2), (0, 5), (0, 0), (0, 1)] (by kernel_rfl) ?_
      refine jo_split 15 (!t_4) (by kernel_rfl) (fun hc_22 => ?_) (fun hc_22 => ?_)
      · replace h := ifT hc_22 h
        refine jo_f [(0, 3), (0, 3), (0, 4)] (by kernel_rfl) ?_
        refine jo_end (by kernel_rfl) ?_
        exact jx_meet true h (by kernel_rfl) [0] (by kernel_rfl) (by kernel_rfl)
      · replace h := ifF hc_22 h
        obtain ⟨t_5, ht_23, h⟩ := bd h
        refine toO (by kernel_rfl) (p_call 2 115 #[(.slice list2_a list2.length list2_c)] (by kernel_rfl) (by kernel_rfl) (fun w hm => spec_l07Choices.calls list2 w _ list2_a list2.length list2_c (hm.exRowW list2_h list2_ha) rfl ht_23) ?_)
        rintro w v w' hm ⟨rfl, hm'⟩
        refine ⟨_, hm.app hm', jkO ?_⟩
        clear hm hm'
        refine jo_f [(0, 2), (0, 5)] (by kernel_rfl) ?_
        refine jo_end (by kernel_rfl) ?_
        exact jx_meet (!t_5) h (by kernel_rfl) [0] (by kernel_rfl) (by kernel_rfl)
  · rintro q_1 h
    replace h : spec_l07Asked.k_2 t1 list2 q_1 = some r := h
    rw [spec_l07Asked.k_2] at h
    refine jx_then ?_
    refine jc_cond q_1 (by kernel_rfl) (fun hc_17 => ?_) (fun hc_17 => ?_)
    · replace h := ifT hc_17 h
      refine jc_seq ?_
      refine jc_region ?_
      refine jo_f [(0, 0)] (by kernel_rfl) ?_
      refine jo_end (by kernel_rfl) ?_
      refine jx_then ?_
      refine jc_ret ?_
      refine jx_thenr ?_
      obtain rfl := Option.some.inj h
      exact jx_ret [] (.int .i64 1) [] rfl (by kernel_rfl) (by kernel_rfl) (fun w hm => ⟨rfl, hm.pick [0] (by kernel_rfl) (by kernel_rfl)⟩)
    · replace h := ifF hc_17 h
      refine jc_skip ?_
      refine jx_then ?_
      refine jc_seq ?_
      refine jc_seq ?_
      refine jc_region ?_
      refine jo_f [(0, 0), (0, 0), (0, 0), (0, 0), (0, 0)] (by kernel_rfl) ?_
      refine jo_end (by kernel_rfl) ?_
      refine jx_then ?_
      refine jc_cond ((list2.length : Int) != (t1.length : Int)) (by kernel_rfl) (fun hc_18 => ?_) (fun hc_18 => ?_)
      · replace h := ifT hc_18 h
        refine jc_seq ?_
        refine jc_region ?_
        refine jo_f [(0, 0)] (by kernel_rfl) ?_
        refine jo_end (by kernel_rfl) ?_
        refine jx_then ?_
        refine jc_ret ?_
        refine jx_thenr ?_
        obtain rfl := Option.some.inj h
        exact jx_ret [] (.int .i64 2) [] rfl (by kernel_rfl) (by kernel_rfl) (fun w hm => ⟨rfl, hm.pick [0] (by kernel_rfl) (by kernel_rfl)⟩)
      · replace h := ifF hc_18 h
        refine jc_skip ?_
        refine jx_then ?_
        refine jc_seq ?_
        refine jc_region ?_
        refine jo_f [(0, 0)] (by kernel_rfl) ?_
        refine jo_end (by kernel_rfl) ?_
        refine jx_then ?_
        refine jc_ret ?_
        obtain rfl := Option.some.inj h
        exact jx_ret [] (.int .i64 0) [] rfl (by kernel_rfl) (by kernel_rfl) (fun w hm => ⟨rfl, hm.pick [0] (by kernel_rfl) (by kernel_rfl)⟩)

/-! ### spec.l07Signed -/
noncomputable def spec_l07Signed.k_2 (xs_1 : List Int) : Option ((List Int)) := some xs_1
noncomputable def spec_l07Signed.l_5 (most0 : Int) : ((List Int) × Int) → Option (((List Int) × Int) ⊕ ((List Int)))
  | (xs_3, i_4) => (if (decide (i_4 ≤ most0)) = true then (if xs_3.length + [(w8 (0 - i_4)), i_4].length ≤ 4294967296 then some (.inl ((xs_3 ++ [(w8 (0 - i_4)), i_4]), (w8 (i_4 + 1)))) else none) else some (.inr xs_3))
noncomputable def spec_l07Signed (most0 : Int) : Option ((List Int)) := (loop (spec_l07Signed.l_5 most0) ([0], 1)).bind fun t_6 => spec_l07Signed.k_2 t_6
set_option maxRecDepth 100000 in
theorem spec_l07Signed.calls (most0 : Int) (w : World) (r : (List Int)) (h : spec_l07Signed most0 = some r) :
    Calls Tryz.prog 138 #[(.int .i8 most0)] w fun e w' => ∃ v, e = .returned v ∧ (∃ (o0 : Option Nat) (c0 : Nat) (s0 : List Value) (n0 : Nat), r.length = n0 ∧ (o0 ≠ none → n0 ≤ c0 ∧ s0.length = (c0 - n0) * 1) ∧ (o0 = none → r = [] ∧ c0 = 0) ∧ v = .slice (o0.map fun b => ⟨b, 0, none⟩) n0 c0 ∧ Mem w [] [⟨o0, 30, row encI8 r s0⟩] w') := by
  rw [spec_l07Signed] at h
  refine enter (args := [(.int .i8 most0)]) Tryz.func138 rfl Tryz.ntmps138 (by kernel_rfl) (L := []) (W := []) (Mem.start w) ?_
  refine jc_seq ?_
  refine jc_region ?_
  refine jo_f [(0, 0)] (by kernel_rfl) ?_
  refine jo_end (by kernel_rfl) ?_
  refine jx_then ?_
  refine jc_seq ?_
  refine jc_region ?_
  refine toO (by kernel_rfl) (p_a 0 [0] (by kernel_rfl) (fun b => by kernel_rfl) (fun b_1 => jkO ?_))
  refine jo_f [(0, 0)] (by kernel_rfl) ?_
  refine jo_end (by kernel_rfl) ?_
  refine jx_then ?_
  refine jc_seq ?_
  refine jc_seq ?_
  refine jc_region ?_
  refine jo_f [(0, 0)] (by kernel_rfl) ?_
  refine jo_end (by kernel_rfl) ?_
  refine jx_then ?_
  refine jc_meet (fun (j : (List Int) × (Option Nat) × Nat × (List Value) × Nat) => match j with | ⟨xs_1, o_137, cap_138, sp_139, n_140⟩ => spec_l07Signed.k_2 xs_1 = some r ∧ (xs_1.length = n_140) ∧ ((o_137 ≠ none → n_140 ≤ cap_138 ∧ sp_139.length = (cap_138 - n_140) * 1)) ∧ ((o_137 = none → xs_1 = [] ∧ cap_138 = 0))) (fun (j : (List Int) × (Option Nat) × Nat × (List Value) × Nat) => match j with | ⟨xs_1, o_137, cap_138, sp_139, n_140⟩ => [(2, [], (.slice none 0 0)), (3, [], (.slice (o_137.map fun b => ⟨b, 0, none⟩) n_140 cap_138))]) (fun (j : (List Int) × (Option Nat) × Nat × (List Value) × Nat) => match j with | ⟨xs_1, o_137, cap_138, sp_139, n_140⟩ => [⟨o_137, 30, row encI8 xs_1 sp_139⟩]) ?_ ?_
  · refine jc_block ?_
    obtain ⟨t_6, ht_185, hr_173⟩ := bd h
    refine jc_loop (fun (s : (List Int) × Int) (x : (Option Nat) × Nat × (List Value) × Nat) => match s, x with | ⟨xs_3, i_4⟩, ⟨o_167, cap_168, sp_169, n_170⟩ => (xs_3.length = n_170) ∧ ((o_167 ≠ none → n_170 ≤ cap_168 ∧ sp_169.length = (cap_168 - n_170) * 1)) ∧ ((o_167 = none → xs_3 = [] ∧ cap_168 = 0))) (fun (s : (List Int) × Int) (x : (Option Nat) × Nat × (List Value) × Nat) => match s, x with | ⟨xs_3, i_4⟩, ⟨o_167, cap_168, sp_169, n_170⟩ => [(0, [], (.int .i8 most0)), (2, [], (.slice none 0 0)), (3, [], (.slice (o_167.map fun b => ⟨b, 0, none⟩) n_170 cap_168)), (4, [], (.int .i8 i_4))]) (fun (s : (List Int) × Int) (x : (Option Nat) × Nat × (List Value) × Nat) => match s, x with | ⟨xs_3, i_4⟩, ⟨o_167, cap_168, sp_169, n_170⟩ => [⟨o_167, 30, row encI8 xs_3 sp_169⟩]) ht_185 ⟨(some b_1), 1, [], 1⟩ ⟨rfl, (fun _ => ⟨Nat.le_refl _, by simp⟩), (fun e => nomatch e)⟩ (by kernel_rfl) [0] (by kernel_rfl) (by kernel_rfl) ?_
    rintro ⟨xs_3, i_4⟩ ⟨o_167, cap_168, sp_169, n_170⟩ y_174 ⟨rfl, hs_171, ho_172⟩ h
    rw [spec_l07Signed.l_5] at h
    refine jc_seq ?_
    refine jc_seq ?_
    refine jc_region ?_
    refine jo_f [(0, 0), (0, 0), (0, 0)] (by kernel_rfl) ?_
    refine jo_end (by kernel_rfl) ?_
    refine jx_then ?_
    refine jc_cond (decide (i_4 ≤ most0)) (by kernel_rfl) (fun hc_176 => ?_) (fun hc_176 => ?_)
    · replace h := ifT hc_176 h
      refine jc_skip ?_
      refine jx_then ?_
      refine jc_seq ?_
      refine jc_block ?_
      refine jc_region ?_
      refine jo_f [(0, 0), (0, 0), (0, 0), (0, 0)] (by kernel_rfl) ?_
      refine toO (by kernel_rfl) (p_a 0 [0] (by kernel_rfl) (fun b => by kernel_rfl) (fun b_177 => jkO ?_))
      obtain ⟨hg_178, h⟩ := gd h
      refine toO (by kernel_rfl) (p_apn 0 0 o_167 30 xs_3.length 2 cap_168 1 1 (some ⟨b_177, 0, none⟩) encI8 xs_3 [(w8 (0 - i_4)), i_4] sp_169 (.int .i8 0) rfl rfl (by kernel_rfl) (by kernel_rfl) (by kernel_rfl) encI8_len encI8_cell hs_171 ho_172 (fun w hm => (hm.ownRow (hh := 1) (o := (some b_177)) (T := 30) (enc := encI8) (xs := [(w8 (0 - i_4)), i_4]) (sp := []) (by kernel_rfl) (fun e => nomatch e) encI8_len)) hg_178 (by kernel_rfl) (by kernel_rfl) (fun o_179 cap_180 sp_181 hs_182 ho_183 => jkO ?_))
      refine jo_f [(0, 0)] (by kernel_rfl) ?_
      refine jo_end (by kernel_rfl) ?_
      refine jx_inn ?_
      refine jx_then ?_
      refine jc_region ?_
      refine jo_f [(0, 0), (0, 0), (0, 0)] (by kernel_rfl) ?_
      refine jo_end (by kernel_rfl) ?_
      exact jx_back ((xs_3 ++ [(w8 (0 - i_4)), i_4]), (w8 (i_4 + 1))) ⟨o_179, cap_180, sp_181, (xs_3 ++ [(w8 (0 - i_4)), i_4]).length⟩ (Option.some.inj h).symm ⟨rfl, hs_182, ho_183⟩ [0] (by kernel_rfl) (by kernel_rfl) (by kernel_rfl)
    · replace h := ifF hc_176 h
      refine jc_exit ?_
      refine jx_thenx ?_
      refine jx_leave xs_3 (Option.some.inj h).symm (fun e_184 => ?_)
      subst e_184
      refine jx_ine ?_
      exact jx_meet ⟨xs_3, o_167, cap_168, sp_169, xs_3.length⟩ ⟨hr_173, rfl, hs_171, ho_172⟩ (by kernel_rfl) [0] (by kernel_rfl) (by kernel_rfl)
  · rintro ⟨xs_1, o_137, cap_138, sp_139, n_140⟩ ⟨h, rfl, hs_141, ho_142⟩
    replace h : spec_l07Signed.k_2 xs_1 = some r := h
    rw [spec_l07Signed.k_2] at h
    refine jx_then ?_
    refine jc_seq ?_
    refine jc_region ?_
    refine jo_f [(0, 0), (0, 0)] (by kernel_rfl) ?_
    refine jo_end (by kernel_rfl) ?_
    refine jx_then ?_
    refine jc_ret ?_
    obtain rfl := Option.some.inj h
    exact jx_ret [] (.slice (o_137.map fun b => ⟨b, 0, none⟩) xs_1.length cap_138) [] rfl (by kernel_rfl) (by kernel_rfl) (fun w hm => ⟨o_137, cap_138, sp_139, xs_1.length, rfl, hs_141, ho_142, rfl, hm.pick [0] (by kernel_rfl) (by kernel_rfl)⟩)

/-! ### spec.l07For -/
noncomputable def spec_l07For.k_4 (xs_3 : List GChoice) : Option ((List GChoice)) := (if xs_3.length + [(⟨true, 0, 0, 0⟩ : GChoice)].length ≤ 4294967296 then some (xs_3 ++ [(⟨true, 0, 0, 0⟩ : GChoice)]) else none)
noncomputable def spec_l07For.k_12 (i_6 : Int) (xs_11 : List GChoice) : Option (((List GChoice) × Int) ⊕ ((List GChoice))) := some (.inl (xs_11, (w64 (i_6 + 1))))
noncomputable def spec_l07For.k_18 (i_14 : Int) (xs_17 : List GChoice) : Option (((List GChoice) × Int) ⊕ ((List GChoice))) := some (.inl (xs_17, (w64 (i_14 + 1))))
noncomputable def spec_l07For.l_21 (f0 : GFrame) (n1 : GNote) (t_1 : (List Int)) (t_2 : (List Int)) (i_6 : Int) (i_14 : Int) : ((List GChoice) × Int) → Option (((List GChoice) × Int) ⊕ ((List GChoice)))
  | (xs_19, i_20) => (if (decide (i_20 < (f0.fHammers.length : Int))) = true then (ix f0.fHammers i_20).bind fun x_23 => (ix t_2 i_14).bind fun x_24 => (if (x_23.fPitch == (w8 (n1.fPitch + (w8 (12 * x_24))))) = true then (ix t_1 i_6).bind fun x_25 => (ix t_2 i_14).bind fun x_26 => (if xs_19.length + [(⟨false, x_25, x_26, (w8 i_20)⟩ : GChoice)].length ≤ 4294967296 then some (.inl ((xs_19 ++ [(⟨false, x_25, x_26, (w8 i_20)⟩ : GChoice)]), (w64 (i_20 + 1)))) else none) else some (.inl (xs_19, (w64 (i_20 + 1))))) else some (.inr xs_19))
noncomputable def spec_l07For.l_15 (f0 : GFrame) (n1 : GNote) (t_1 : (List Int)) (t_2 : (List Int)) (i_6 : Int) : ((List GChoice) × Int) → Option (((List GChoice) × Int) ⊕ ((List GChoice)))
  | (xs_13, i_14) => (if (decide (i_14 < (t_2.length : Int))) = true then (loop (spec_l07For.l_21 f0 n1 t_1 t_2 i_6 i_14) (xs_13, 0)).bind fun t_22 => spec_l07For.k_18 i_14 t_22 else some (.inr xs_13))
noncomputable def spec_l07For.l_7 (f0 : GFrame) (n1 : GNote) (t_1 : (List Int)) (t_2 : (List Int)) : ((List GChoice) × Int) → Option (((List GChoice) × Int) ⊕ ((List GChoice)))
  | (xs_5, i_6) => (if (decide (i_6 < (t_1.length : Int))) = true then (ix t_1 i_6).bind fun x_9 => (spec_l00In (w64 ((w64 n1.fAt) + (w64 x_9))) 0 (w64 ((w64 f0.fSteps) - 1))).bind fun t_10 => (if (!t_10) = true then some (.inl (xs_5, (w64 (i_6 + 1)))) else (loop (spec_l07For.l_15 f0 n1 t_1 t_2 i_6) (xs_5, 0)).bind fun t_16 => spec_l07For.k_12 i_6 t_16) else some (.inr xs_5))
noncomputable def spec_l07For (f0 : GFrame) (n1 : GNote) : Option ((List GChoice)) := (spec_l07Signed 3).bind fun t_1 => (spec_l07Signed 1).bind fun t_2 => (loop (spec_l07For.l_7 f0 n1 t_1 t_2) (([] : List GChoice), 0)).bind fun t_8 => spec_l07For.k_4 t_8
set_option maxRecDepth 100000 in
theorem spec_l07For.calls (f0 : GFrame) (n1 : GNote) (w : World) (r : (List GChoice)) (f0_fHammers_a : Option Addr) (f0_fHammers_an : Nat) (f0_fHammers_c : Nat) (f0_fHammers_h : Rw w f0_fHammers_a 2 encGHammer f0.fHammers) (f0_fHammers_hn : f0.fHammers.length = f0_fHammers_an) (f0_b : Nat) (hm0 : Mem w (bs [some f0_b]) [⟨some f0_b, 42, [(.int .i16 f0.fSteps), (.slice f0_fHammers_a f0_fHammers_an f0_fHammers_c)]⟩] w) (f0_fHammers_ha : f0.fHammers ≠ [] → aB f0_fHammers_a ∉ bs [some f0_b]) (h : spec_l07For f0 n1 = some r) :
    Calls Tryz.prog 116 #[(.pointer (some ⟨f0_b, 0, none⟩)), (.agg #[(.int .i16 n1.fAt), (.int .i8 n1.fPitch)])] w fun e w' => ∃ v, e = .returned v ∧ (∃ (o0 : Option Nat) (c0 : Nat) (s0 : List Value) (n0 : Nat), r.length = n0 ∧ (o0 ≠ none → n0 ≤ c0 ∧ s0.length = (c0 - n0) * 4) ∧ (o0 = none → r = [] ∧ c0 = 0) ∧ v = .slice (o0.map fun b => ⟨b, 0, none⟩) n0 c0 ∧ Mem w (bs [some f0_b]) [⟨some f0_b, 42, [(.int .i16 f0.fSteps), (.slice f0_fHammers_a f0_fHammers_an f0_fHammers_c)]⟩, ⟨o0, 99, row encGChoice r s0⟩] w') := by
  subst f0_fHammers_hn
  rw [spec_l07For] at h
  refine enter (args := [(.pointer (some ⟨f0_b, 0, none⟩)), (.agg #[(.int .i16 n1.fAt), (.int .i8 n1.fPitch)])]) Tryz.func116 rfl Tryz.ntmps116 (by kernel_rfl) (L := [⟨some f0_b, 42, [(.int .i16 f0.fSteps), (.slice f0_fHammers_a f0.fHammers.length f0_fHammers_c)]⟩]) (W := bs [some f0_b]) hm0 ?_
  refine jc_seq ?_
  refine jc_region ?_
  refine toO (by kernel_rfl) (p_a 0 [0] (by kernel_rfl) (fun b => by kernel_rfl) (fun b_1 => jkO ?_))
  refine jo_f [(0, 0)] (by kernel_rfl) ?_
  refine jo_end (by kernel_rfl) ?_
  refine jx_then ?_
  refine jc_seq ?_
  refine jc_region ?_
  refine toO (by kernel_rfl) (p_a 0 [0] (by kernel_rfl) (fun b => by kernel_rfl) (fun b_2 => jkO ?_))
  refine jo_f [(0, 0)] (by kernel_rfl) ?_
  refine jo_end (by kernel_rfl) ?_
  refine jx_then ?_
  refine jc_seq ?_
  refine jc_region ?_
  obtain ⟨t_1, ht_3, h⟩ := bd h
  refine toO (by kernel_rfl) (p_call 0 138 #[(.int .i8 3)] (by kernel_rfl) (by kernel_rfl) (fun w hm => spec_l07Signed.calls 3 w _ ht_3) ?_)
  rintro w v w' hm ⟨o_4, cap_5, sp_6, _, rfl, hs_7, ho_8, rfl, hm'⟩
  refine ⟨_, hm.app hm', jkO ?_⟩
  clear hm hm'
  refine jo_f [(0, 0)] (by kernel_rfl) ?_
  refine jo_end (by kernel_rfl) ?_
  refine jx_then ?_
  refine jc_seq ?_
  refine jc_region ?_
  obtain ⟨t_2, ht_9, h⟩ := bd h
  refine toO (by kernel_rfl) (p_call 0 138 #[(.int .i8 1)] (by kernel_rfl) (by kernel_rfl) (fun w hm => spec_l07Signed.calls 1 w _ ht_9) ?_)
  rintro w v w' hm ⟨o_10, cap_11, sp_12, _, rfl, hs_13, ho_14, rfl, hm'⟩
  refine ⟨_, hm.app hm', jkO ?_⟩
  clear hm hm'
  refine jo_f [(0, 0)] (by kernel_rfl) ?_
  refine jo_end (by kernel_rfl) ?_
  refine jx_then ?_
  refine jc_seq ?_
  refine jc_seq ?_
  refine jc_region ?_
  refine jo_f [(0, 0)] (by kernel_rfl) ?_
  refine jo_end (by kernel_rfl) ?_
  refine jx_then ?_
  refine jc_meet (fun (j : (List GChoice) × (Option Nat) × Nat × (List Value) × Nat) => match j with | ⟨xs_3, o_8151, cap_8152, sp_8153, n_8154⟩ => spec_l07For.k_4 xs_3 = some r ∧ (xs_3.length = n_8154) ∧ ((o_8151 ≠ none → n_8154 ≤ cap_8152 ∧ sp_8153.length = (cap_8152 - n_8154) * 4)) ∧ ((o_8151 = none → xs_3 = [] ∧ cap_8152 = 0))) (fun (j : (List GChoice) × (Option Nat) × Nat × (List Value) × Nat) => match j with | ⟨xs_3, o_8151, cap_8152, sp_8153, n_8154⟩ => [(4, [], (.slice none 0 0)), (5, [], (.slice (o_8151.map fun b => ⟨b, 0, none⟩) n_8154 cap_8152))]) (fun (j : (List GChoice) × (Option Nat) × Nat × (List Value) × Nat) => match j with | ⟨xs_3, o_8151, cap_8152, sp_8153, n_8154⟩ => [⟨some f0_b, 42, [(.int .i16 f0.fSteps), (.slice f0_fHammers_a f0.fHammers.length f0_fHammers_c)]⟩, ⟨some b_1, 95, [(.int .i16 n1.fAt), (.int .i8 n1.fPitch)]⟩, ⟨o_8151, 99, row encGChoice xs_3 sp_8153⟩, ⟨o_4, 30, row encI8 t_1 sp_6⟩, ⟨o_10, 30, row encI8 t_2 sp_12⟩]) ?_ ?_
  · refine jc_block ?_
    obtain ⟨t_8, ht_10873, hr_9972⟩ := bd h
    refine jc_loop (fun (s : (List GChoice) × Int) (x : (Option Nat) × Nat × (List Value) × Nat) => match s, x with | ⟨xs_5, i_6⟩, ⟨o_9966, cap_9967, sp_9968, n_9969⟩ => (xs_5.length = n_9969) ∧ ((o_9966 ≠ none → n_9969 ≤ cap_9967 ∧ sp_9968.length = (cap_9967 - n_9969) * 4)) ∧ ((o_9966 = none → xs_5 = [] ∧ cap_9967 = 0))) (fun (s : (List GChoice) × Int) (x : (Option Nat) × Nat × (List Value) × Nat) => match s, x with | ⟨xs_5, i_6⟩, ⟨o_9966, cap_9967, sp_9968, n_9969⟩ => [(0, [], (.pointer (some ⟨f0_b, 0, none⟩))), (3, [], (.pointer (some ⟨b_1, 0, none⟩))), (4, [], (.slice none 0 0)), (5, [], (.slice (o_9966.map fun b => ⟨b, 0, none⟩) n_9969 cap_9967)), (6, [], (.slice (o_4.map fun b => ⟨b, 0, none⟩) t_1.length cap_5)), (7, [], (.slice (o_10.map fun b => ⟨b, 0, none⟩) t_2.length cap_11)), (8, [], (.int .i64 i_6))]) (fun (s : (List GChoice) × Int) (x : (Option Nat) × Nat × (List Value) × Nat) => match s, x with | ⟨xs_5, i_6⟩, ⟨o_9966, cap_9967, sp_9968, n_9969⟩ => [⟨some f0_b, 42, [(.int .i16 f0.fSteps), (.slice f0_fHammers_a f0.fHammers.length f0_fHammers_c)]⟩, ⟨some b_1, 95, [(.int .i16 n1.fAt), (.int .i8 n1.fPitch)]⟩, ⟨o_9966, 99, row encGChoice xs_5 sp_9968⟩, ⟨o_4, 30, row encI8 t_1 sp_6⟩, ⟨o_10, 30, row encI8 t_2 sp_12⟩]) ht_10873 ⟨(some b_2), 0, [], 0⟩ ⟨rfl, (fun _ => ⟨Nat.le_refl _, by simp⟩), (fun e => nomatch e)⟩ (by kernel_rfl) [0, 1, 2, 3, 4] (by kernel_rfl) (by kernel_rfl) ?_
    rintro ⟨xs_5, i_6⟩ ⟨o_9966, cap_9967, sp_9968, n_9969⟩ y_9973 ⟨rfl, hs_9970, ho_9971⟩ h
    rw [spec_l07For.l_7] at h
    refine jc_seq ?_
    refine jc_seq ?_
    refine jc_region ?_
    refine jo_f [(0, 0), (0, 0), (0, 0), (0, 0)] (by kernel_rfl) ?_
    refine jo_end (by kernel_rfl) ?_
    refine jx_then ?_
    refine jc_cond (decide (i_6 < (t_1.length : Int))) (by kernel_rfl) (fun hc_9975 => ?_) (fun hc_9975 => ?_)
    · replace h := ifT hc_9975 h
      refine jc_skip ?_
      refine jx_then ?_
      refine jc_seq ?_
      refine jc_block ?_
      refine jc_seq ?_
      refine jc_seq ?_
      refine jc_draw [⟨some f0_b, 42, [(.int .i16 f0.fSteps), (.slice f0_fHammers_a f0.fHammers.length f0_fHammers_c)]⟩, ⟨some b_1, 95, [(.int .i16 n1.fAt), (.int .i8 n1.fPitch)]⟩, ⟨o_9966, 99, row encGChoice xs_5 sp_9968⟩, ⟨o_4, 30, row encI8 t_1 sp_6⟩, ⟨o_10, 30, row encI8 t_2 sp_12⟩] 17 (by kernel_rfl) (by kernel_rfl) ?_
      refine jd_f [⟨0, 0, 0⟩, ⟨1, 1, 0⟩, ⟨2, 0, 0⟩, ⟨3, 0, 0⟩, ⟨4, 0, 0⟩, ⟨9, 0, 0⟩, ⟨10, 0, 0⟩, ⟨11, 0, 0⟩, ⟨12, 0, 0⟩, ⟨13, 0, 0⟩, ⟨14, 0, 0⟩] 6 (by kernel_rfl) (by kernel_rfl) (fun w h => h.pick [0, 1, 2, 3, 4] (by kernel_rfl) (by kernel_rfl)) (by kernel_rfl) (by kernel_rfl) ?_
      obtain ⟨x_9, hx_9979, h⟩ := bd h
      refine jd_v 5 0 (by kernel_rfl) (fun w h => h.pick [0, 1, 2, 3, 4] (by kernel_rfl) (by kernel_rfl)) (by kernel_rfl) (by kernel_rfl) _ (fun w hm => idx_run (a := (o_4.map fun b => ⟨b, 0, none⟩)) (len := t_1.length) (s := 1) (j := i_6) (by kernel_rfl) (ix_some hx_9979).1 (ltn hx_9979 rfl) (spo ho_8 hx_9979)) ?_
      refine jd_v 6 0 (by kernel_rfl) (fun w h => h.pick [0, 1, 2, 3, 4] (by kernel_rfl) (by kernel_rfl)) (by kernel_rfl) (by kernel_rfl) _ (fun w hm => ld_run (b := aB (o_4.map fun b => ⟨b, 0, none⟩)) (off := (aO (o_4.map fun b => ⟨b, 0, none⟩) + i_6.toNat * 1)) (s := 1) (agg := false) (vs := (encI8 x_9)) (by kernel_rfl) (by kernel_rfl) (.inr rfl) ((hm.ownRow (hh := 3) (o := o_4) (T := 30) (enc := encI8) (xs := t_1) (sp := sp_6) (by kernel_rfl) (fun e => (ho_8 e).1) encI8_len).at hx_9979)) ?_
      refine jd_f [⟨7, 0, 0⟩, ⟨8, 0, 0⟩] 2 (by kernel_rfl) (by kernel_rfl) (fun w h => h.pick [0, 1, 2, 3, 4] (by kernel_rfl) (by kernel_rfl)) (by kernel_rfl) (by kernel_rfl) ?_
      obtain ⟨t_10, ht_9980, h⟩ := bd h
      refine toD 15 (by kernel_rfl) (p_call 0 66 #[(.int .i64 (w64 ((w64 n1.fAt) + (w64 x_9)))), (.int .i64 0), (.int .i64 (w64 ((w64 f0.fSteps) - 1)))] (by kernel_rfl) (by kernel_rfl) (fun w hm => spec_l00In.calls (w64 ((w64 n1.fAt) + (w64 x_9))) 0 (w64 ((w64 f0.fSteps) - 1)) w _ ht_9980) ?_)
      rintro w v w' hm ⟨rfl, hm'⟩
      refine ⟨_, hm.app hm', jkD (fun w h => h.pick [0, 1, 2, 3, 4] (by kernel_rfl) (by kernel_rfl)) ?_⟩
      clear hm hm'
      refine jd_f [⟨16, 0, 0⟩] 0 (by kernel_rfl) (by kernel_rfl) (fun w h => h.pick [0, 1, 2, 3, 4] (by kernel_rfl) (by kernel_rfl)) (by kernel_rfl) (by kernel_rfl) ?_
      refine jd_end (by kernel_rfl) ?_
      refine jx_then ?_
      refine jc_cond (!t_10) (by kernel_rfl) (fun hc_9981 => ?_) (fun hc_9981 => ?_)
      · replace h := ifT hc_9981 h
        refine jc_exit ?_
        refine jx_thenx ?_
        refine jx_ine ?_
        refine jx_then ?_
        refine jc_region ?_
        refine jo_f [(0, 0), (0, 0), (0, 0)] (by kernel_rfl) ?_
        refine jo_end (by kernel_rfl) ?_
        exact jx_back (xs_5, (w64 (i_6 + 1))) ⟨o_9966, cap_9967, sp_9968, xs_5.length⟩ (Option.some.inj h).symm ⟨rfl, hs_9970, ho_9971⟩ [0, 1, 2, 3, 4] (by kernel_rfl) (by kernel_rfl) (by kernel_rfl)
      · replace h := ifF hc_9981 h
        refine jc_skip ?_
        refine jx_then ?_
        refine jc_seq ?_
        refine jc_region ?_
        refine jo_f [(0, 0)] (by kernel_rfl) ?_
        refine jo_end (by kernel_rfl) ?_
        refine jx_then ?_
        refine jc_meet (fun (j : (List GChoice) × (Option Nat) × Nat × (List Value) × Nat) => match j with | ⟨xs_11, o_10424, cap_10425, sp_10426, n_10427⟩ => spec_l07For.k_12 i_6 xs_11 = some y_9973 ∧ (xs_11.length = n_10427) ∧ ((o_10424 ≠ none → n_10427 ≤ cap_10425 ∧ sp_10426.length = (cap_10425 - n_10427) * 4)) ∧ ((o_10424 = none → xs_11 = [] ∧ cap_10425 = 0))) (fun (j : (List GChoice) × (Option Nat) × Nat × (List Value) × Nat) => match j with | ⟨xs_11, o_10424, cap_10425, sp_10426, n_10427⟩ => [(0, [], (.pointer (some ⟨f0_b, 0, none⟩))), (3, [], (.pointer (some ⟨b_1, 0, none⟩))), (4, [], (.slice none 0 0)), (5, [], (.slice (o_10424.map fun b => ⟨b, 0, none⟩) n_10427 cap_10425)), (6, [], (.slice (o_4.map fun b => ⟨b, 0, none⟩) t_1.length cap_5)), (7, [], (.slice (o_10.map fun b => ⟨b, 0, none⟩) t_2.length cap_11)), (8, [], (.int .i64 i_6))]) (fun (j : (List GChoice) × (Option Nat) × Nat × (List Value) × Nat) => match j with | ⟨xs_11, o_10424, cap_10425, sp_10426, n_10427⟩ => [⟨some f0_b, 42, [(.int .i16 f0.fSteps), (.slice f0_fHammers_a f0.fHammers.length f0_fHammers_c)]⟩, ⟨some b_1, 95, [(.int .i16 n1.fAt), (.int .i8 n1.fPitch)]⟩, ⟨o_10424, 99, row encGChoice xs_11 sp_10426⟩, ⟨o_4, 30, row encI8 t_1 sp_6⟩, ⟨o_10, 30, row encI8 t_2 sp_12⟩]) ?_ ?_
        · refine jc_block ?_
          obtain ⟨t_16, ht_10871, hr_10726⟩ := bd h
          refine jc_loop (fun (s : (List GChoice) × Int) (x : (Option Nat) × Nat × (List Value) × Nat) => match s, x with | ⟨xs_13, i_14⟩, ⟨o_10720, cap_10721, sp_10722, n_10723⟩ => (xs_13.length = n_10723) ∧ ((o_10720 ≠ none → n_10723 ≤ cap_10721 ∧ sp_10722.length = (cap_10721 - n_10723) * 4)) ∧ ((o_10720 = none → xs_13 = [] ∧ cap_10721 = 0))) (fun (s : (List GChoice) × Int) (x : (Option Nat) × Nat × (List Value) × Nat) => match s, x with | ⟨xs_13, i_14⟩, ⟨o_10720, cap_10721, sp_10722, n_10723⟩ => [(0, [], (.pointer (some ⟨f0_b, 0, none⟩))), (3, [], (.pointer (some ⟨b_1, 0, none⟩))), (4, [], (.slice none 0 0)), (5, [], (.slice (o_10720.map fun b => ⟨b, 0, none⟩) n_10723 cap_10721)), (6, [], (.slice (o_4.map fun b => ⟨b, 0, none⟩) t_1.length cap_5)), (7, [], (.slice (o_10.map fun b => ⟨b, 0, none⟩) t_2.length cap_11)), (8, [], (.int .i64 i_6)), (9, [], (.int .i64 i_14))]) (fun (s : (List GChoice) × Int) (x : (Option Nat) × Nat × (List Value) × Nat) => match s, x with | ⟨xs_13, i_14⟩, ⟨o_10720, cap_10721, sp_10722, n_10723⟩ => [⟨some f0_b, 42, [(.int .i16 f0.fSteps), (.slice f0_fHammers_a f0.fHammers.length f0_fHammers_c)]⟩, ⟨some b_1, 95, [(.int .i16 n1.fAt), (.int .i8 n1.fPitch)]⟩, ⟨o_10720, 99, row encGChoice xs_13 sp_10722⟩, ⟨o_4, 30, row encI8 t_1 sp_6⟩, ⟨o_10, 30, row encI8 t_2 sp_12⟩]) ht_10871 ⟨o_9966, cap_9967, sp_9968, xs_5.length⟩ ⟨rfl, hs_9970, ho_9971⟩ (by kernel_rfl) [0, 1, 2, 3, 4] (by kernel_rfl) (by kernel_rfl) ?_
          rintro ⟨xs_13, i_14⟩ ⟨o_10720, cap_10721, sp_10722, n_10723⟩ y_10727 ⟨rfl, hs_10724, ho_10725⟩ h
          rw [spec_l07For.l_15] at h
          refine jc_seq ?_
          refine jc_seq ?_
          refine jc_region ?_
          refine jo_f [(0, 0), (0, 0), (0, 0), (0, 0)] (by kernel_rfl) ?_
          refine jo_end (by kernel_rfl) ?_
          refine jx_then ?_
          refine jc_cond (decide (i_14 < (t_2.length : Int))) (by kernel_rfl) (fun hc_10729 => ?_) (fun hc_10729 => ?_)
          · replace h := ifT hc_10729 h
            refine jc_skip ?_
            refine jx_then ?_
            refine jc_seq ?_
            refine jc_block ?_
            refine jc_seq ?_
            refine jc_region ?_
            refine jo_f [(0, 0)] (by kernel_rfl) ?_
            refine jo_end (by kernel_rfl) ?_
            refine jx_then ?_
            refine jc_meet (fun (j : (List GChoice) × (Option Nat) × Nat × (List Value) × Nat) => match j with | ⟨xs_17, o_10797, cap_10798, sp_10799, n_10800⟩ => spec_l07For.k_18 i_14 xs_17 = some y_10727 ∧ (xs_17.length = n_10800) ∧ ((o_10797 ≠ none → n_10800 ≤ cap_10798 ∧ sp_10799.length = (cap_10798 - n_10800) * 4)) ∧ ((o_10797 = none → xs_17 = [] ∧ cap_10798 = 0))) (fun (j : (List GChoice) × (Option Nat) × Nat × (List Value) × Nat) => match j with | ⟨xs_17, o_10797, cap_10798, sp_10799, n_10800⟩ => [(0, [], (.pointer (some ⟨f0_b, 0, none⟩))), (3, [], (.pointer (some ⟨b_1, 0, none⟩))), (4, [], (.slice none 0 0)), (5, [], (.slice (o_10797.map fun b => ⟨b, 0, none⟩) n_10800 cap_10798)), (6, [], (.slice (o_4.map fun b => ⟨b, 0, none⟩) t_1.length cap_5)), (7, [], (.slice (o_10.map fun b => ⟨b, 0, none⟩) t_2.length cap_11)), (8, [], (.int .i64 i_6)), (9, [], (.int .i64 i_14))]) (fun (j : (List GChoice) × (Option Nat) × Nat × (List Value) × Nat) => match j with | ⟨xs_17, o_10797, cap_10798, sp_10799, n_10800⟩ => [⟨some f0_b, 42, [(.int .i16 f0.fSteps), (.slice f0_fHammers_a f0.fHammers.length f0_fHammers_c)]⟩, ⟨some b_1, 95, [(.int .i16 n1.fAt), (.int .i8 n1.fPitch)]⟩, ⟨o_10797, 99, row encGChoice xs_17 sp_10799⟩, ⟨o_4, 30, row encI8 t_1 sp_6⟩, ⟨o_10, 30, row encI8 t_2 sp_12⟩]) ?_ ?_
            · refine jc_block ?_
              obtain ⟨t_22, ht_10869, hr_10849⟩ := bd h
              refine jc_loop (fun (s : (List GChoice) × Int) (x : (Option Nat) × Nat × (List Value) × Nat) => match s, x with | ⟨xs_19, i_20⟩, ⟨o_10843, cap_10844, sp_10845, n_10846⟩ => (xs_19.length = n_10846) ∧ ((o_10843 ≠ none → n_10846 ≤ cap_10844 ∧ sp_10845.length = (cap_10844 - n_10846) * 4)) ∧ ((o_10843 = none → xs_19 = [] ∧ cap_10844 = 0))) (fun (s : (List GChoice) × Int) (x : (Option Nat) × Nat × (List Value) × Nat) => match s, x with | ⟨xs_19, i_20⟩, ⟨o_10843, cap_10844, sp_10845, n_10846⟩ => [(0, [], (.pointer (some ⟨f0_b, 0, none⟩))), (3, [], (.pointer (some ⟨b_1, 0, none⟩))), (4, [], (.slice none 0 0)), (5, [], (.slice (o_10843.map fun b => ⟨b, 0, none⟩) n_10846 cap_10844)), (6, [], (.slice (o_4.map fun b => ⟨b, 0, none⟩) t_1.length cap_5)), (7, [], (.slice (o_10.map fun b => ⟨b, 0, none⟩) t_2.length cap_11)), (8, [], (.int .i64 i_6)), (9, [], (.int .i64 i_14)), (10, [], (.int .i64 i_20))]) (fun (s : (List GChoice) × Int) (x : (Option Nat) × Nat × (List Value) × Nat) => match s, x with | ⟨xs_19, i_20⟩, ⟨o_10843, cap_10844, sp_10845, n_10846⟩ => [⟨some f0_b, 42, [(.int .i16 f0.fSteps), (.slice f0_fHammers_a f0.fHammers.length f0_fHammers_c)]⟩, ⟨some b_1, 95, [(.int .i16 n1.fAt), (.int .i8 n1.fPitch)]⟩, ⟨o_10843, 99, row encGChoice xs_19 sp_10845⟩, ⟨o_4, 30, row encI8 t_1 sp_6⟩, ⟨o_10, 30, row encI8 t_2 sp_12⟩]) ht_10869 ⟨o_10720, cap_10721, sp_10722, xs_13.length⟩ ⟨rfl, hs_10724, ho_10725⟩ (by kernel_rfl) [0, 1, 2, 3, 4] (by kernel_rfl) (by kernel_rfl) ?_
              rintro ⟨xs_19, i_20⟩ ⟨o_10843, cap_10844, sp_10845, n_10846⟩ y_10850 ⟨rfl, hs_10847, ho_10848⟩ h
              rw [spec_l07For.l_21] at h
              refine jc_seq ?_
              refine jc_seq ?_
              refine jc_region ?_
              refine jo_f [(0, 0), (0, 0), (0, 0), (0, 0), (0, 0), (0, 0), (0, 0)] (by kernel_rfl) ?_
              refine jo_end (by kernel_rfl) ?_
              refine jx_then ?_
              refine jc_cond (decide (i_20 < (f0.fHammers.length : Int))) (by kernel_rfl) (fun hc_10852 => ?_) (fun hc_10852 => ?_)
              · replace h := ifT hc_10852 h
                refine jc_skip ?_
                refine jx_then ?_
                refine jc_seq ?_
                refine jc_block ?_
                refine jc_seq ?_
                refine jc_draw [⟨some f0_b, 42, [(.int .i16 f0.fSteps), (.slice f0_fHammers_a f0.fHammers.length f0_fHammers_c)]⟩, ⟨some b_1, 95, [(.int .i16 n1.fAt), (.int .i8 n1.fPitch)]⟩, ⟨o_10843, 99, row encGChoice xs_19 sp_10845⟩, ⟨o_4, 30, row encI8 t_1 sp_6⟩, ⟨o_10, 30, row encI8 t_2 sp_12⟩] 17 (by kernel_rfl) (by kernel_rfl) ?_
                refine jd_f [⟨0, 0, 0⟩, ⟨1, 0, 0⟩, ⟨2, 0, 0⟩, ⟨3, 0, 0⟩, ⟨4, 0, 0⟩, ⟨8, 0, 0⟩, ⟨9, 1, 0⟩, ⟨10, 0, 0⟩, ⟨11, 0, 0⟩] 8 (by kernel_rfl) (by kernel_rfl) (fun w h => h.pick [0, 1, 2, 3, 4] (by kernel_rfl) (by kernel_rfl)) (by kernel_rfl) (by kernel_rfl) ?_
                obtain ⟨x_23, hx_10853, h⟩ := bd h
                refine jd_v 5 0 (by kernel_rfl) (fun w h => h.pick [0, 1, 2, 3, 4] (by kernel_rfl) (by kernel_rfl)) (by kernel_rfl) (by kernel_rfl) _ (fun w hm => idx_run (a := f0_fHammers_a) (len := f0.fHammers.length) (s := 2) (j := i_20) (by kernel_rfl) (ix_some hx_10853).1 (ltn hx_10853 rfl) (f0_fHammers_h.sp hx_10853)) ?_
                refine jd_f [⟨6, 0, 0⟩] 6 (by kernel_rfl) (by kernel_rfl) (fun w h => h.pick [0, 1, 2, 3, 4] (by kernel_rfl) (by kernel_rfl)) (by kernel_rfl) (by kernel_rfl) ?_
                refine jd_v 7 0 (by kernel_rfl) (fun w h => h.pick [0, 1, 2, 3, 4] (by kernel_rfl) (by kernel_rfl)) (by kernel_rfl) (by kernel_rfl) _ (fun w hm => ld_run (b := aB f0_fHammers_a) (off := (aO f0_fHammers_a + i_20.toNat * 2)) (s := 1) (agg := false) (vs := (((encGHammer x_23).drop 0).take 1)) (by kernel_rfl) (by kernel_rfl) (.inr rfl) (((hm.exRowW f0_fHammers_h f0_fHammers_ha).at hx_10853).sub 0 1)) ?_
                obtain ⟨x_24, hx_10854, h⟩ := bd h
                refine jd_v 12 0 (by kernel_rfl) (fun w h => h.pick [0, 1, 2, 3, 4] (by kernel_rfl) (by kernel_rfl)) (by kernel_rfl) (by kernel_rfl) _ (fun w hm => idx_run (a := (o_10.map fun b => ⟨b, 0, none⟩)) (len := t_2.length) (s := 1) (j := i_14) (by kernel_rfl) (ix_some hx_10854).1 (ltn hx_10854 rfl) (spo ho_14 hx_10854)) ?_
                refine jd_v 13 0 (by kernel_rfl) (fun w h => h.pick [0, 1, 2, 3, 4] (by kernel_rfl) (by kernel_rfl)) (by kernel_rfl) (by kernel_rfl) _ (fun w hm => ld_run (b := aB (o_10.map fun b => ⟨b, 0, none⟩)) (off := (aO (o_10.map fun b => ⟨b, 0, none⟩) + i_14.toNat * 1)) (s := 1) (agg := false) (vs := (encI8 x_24)) (by kernel_rfl) (by kernel_rfl) (.inr rfl) ((hm.ownRow (hh := 4) (o := o_10) (T := 30) (enc := encI8) (xs := t_2) (sp := sp_12) (by kernel_rfl) (fun e => (ho_14 e).1) encI8_len).at hx_10854)) ?_
                refine jd_f [⟨14, 0, 0⟩, ⟨15, 0, 0⟩, ⟨16, 0, 0⟩] 0 (by kernel_rfl) (by kernel_rfl) (fun w h => h.pick [0, 1, 2, 3, 4] (by kernel_rfl) (by kernel_rfl)) (by kernel_rfl) (by kernel_rfl) ?_
                refine jd_end (by kernel_rfl) ?_
                refine jx_then ?_
                refine jc_cond (x_23.fPitch == (w8 (n1.fPitch + (w8 (12 * x_24))))) (by kernel_rfl) (fun hc_10855 => ?_) (fun hc_10855 => ?_)
                · replace h := ifT hc_10855 h
                  refine jc_draw [⟨some f0_b, 42, [(.int .i16 f0.fSteps), (.slice f0_fHammers_a f0.fHammers.length f0_fHammers_c)]⟩, ⟨some b_1, 95, [(.int .i16 n1.fAt), (.int .i8 n1.fPitch)]⟩, ⟨o_4, 30, row encI8 t_1 sp_6⟩, ⟨o_10, 30, row encI8 t_2 sp_12⟩] 15 (by kernel_rfl) (by kernel_rfl) ?_
                  refine jd_f [⟨0, 0, 0⟩, ⟨1, 0, 0⟩, ⟨2, 0, 0⟩, ⟨5, 0, 0⟩, ⟨6, 0, 0⟩, ⟨9, 0, 0⟩, ⟨10, 0, 0⟩] 8 (by kernel_rfl) (by kernel_rfl) (fun w h => h.pick [0, 1, 3, 4] (by kernel_rfl) (by kernel_rfl)) (by kernel_rfl) (by kernel_rfl) ?_
                  obtain ⟨x_25, hx_10859, h⟩ := bd h
                  refine jd_v 3 0 (by kernel_rfl) (fun w h => h.pick [0, 1, 3, 4] (by kernel_rfl) (by kernel_rfl)) (by kernel_rfl) (by kernel_rfl) _ (fun w hm => idx_run (a := (o_4.map fun b => ⟨b, 0, none⟩)) (len := t_1.length) (s := 1) (j := i_6) (by kernel_rfl) (ix_some hx_10859).1 (ltn hx_10859 rfl) (spo ho_8 hx_10859)) ?_
                  refine jd_v 4 0 (by kernel_rfl) (fun w h => h.pick [0, 1, 3, 4] (by kernel_rfl) (by kernel_rfl)) (by kernel_rfl) (by kernel_rfl) _ (fun w hm => ld_run (b := aB (o_4.map fun b => ⟨b, 0, none⟩)) (off := (aO (o_4.map fun b => ⟨b, 0, none⟩) + i_6.toNat * 1)) (s := 1) (agg := false) (vs := (encI8 x_25)) (by kernel_rfl) (by kernel_rfl) (.inr rfl) ((hm.ownRow (hh := 2) (o := o_4) (T := 30) (enc := encI8) (xs := t_1) (sp := sp_6) (by kernel_rfl) (fun e => (ho_8 e).1) encI8_len).at hx_10859)) ?_
                  obtain ⟨x_26, hx_10860, h⟩ := bd h
                  refine jd_v 7 0 (by kernel_rfl) (fun w h => h.pick [0, 1, 3, 4] (by kernel_rfl) (by kernel_rfl)) (by kernel_rfl) (by kernel_rfl) _ (fun w hm => idx_run (a := (o_10.map fun b => ⟨b, 0, none⟩)) (len := t_2.length) (s := 1) (j := i_14) (by kernel_rfl) (ix_some hx_10860).1 (ltn hx_10860 rfl) (spo ho_14 hx_10860)) ?_
                  refine jd_v 8 0 (by kernel_rfl) (fun w h => h.pick [0, 1, 3, 4] (by kernel_rfl) (by kernel_rfl)) (by kernel_rfl) (by kernel_rfl) _ (fun w hm => ld_run (b := aB (o_10.map fun b => ⟨b, 0, none⟩)) (off := (aO (o_10.map fun b => ⟨b, 0, none⟩) + i_14.toNat * 1)) (s := 1) (agg := false) (vs := (encI8 x_26)) (by kernel_rfl) (by kernel_rfl) (.inr rfl) ((hm.ownRow (hh := 3) (o := o_10) (T := 30) (enc := encI8) (xs := t_2) (sp := sp_12) (by kernel_rfl) (fun e => (ho_14 e).1) encI8_len).at hx_10860)) ?_
                  refine jd_f [⟨11, 0, 0⟩] 3 (by kernel_rfl) (by kernel_rfl) (fun w h => h.pick [0, 1, 3, 4] (by kernel_rfl) (by kernel_rfl)) (by kernel_rfl) (by kernel_rfl) ?_
                  refine toD 12 (by kernel_rfl) (p_a 0 [0] (by kernel_rfl) (fun b => by kernel_rfl) (fun b_10861 => jkD (fun w h => h.pick [0, 1, 3, 4] (by kernel_rfl) (by kernel_rfl)) ?_))
                  obtain ⟨hg_10862, h⟩ := gd h
                  refine toD 13 (by kernel_rfl) (p_apn 0 2 o_10843 99 xs_19.length 1 cap_10844 4 4 (some ⟨b_10861, 0, none⟩) encGChoice xs_19 [(⟨false, x_25, x_26, (w8 i_20)⟩ : GChoice)] sp_10845 (.agg #[(.bool false), (.int .i8 0), (.int .i8 0), (.int .i8 0)]) rfl rfl (by kernel_rfl) (by kernel_rfl) (by kernel_rfl) encGChoice_len encGChoice_cell hs_10847 ho_10848 (fun w hm => (hm.ownRow (hh := 5) (o := (some b_10861)) (T := 99) (enc := encGChoice) (xs := [(⟨false, x_25, x_26, (w8 i_20)⟩ : GChoice)]) (sp := []) (by kernel_rfl) (fun e => nomatch e) encGChoice_len)) hg_10862 (by kernel_rfl) (by kernel_rfl) (fun o_10863 cap_10864 sp_10865 hs_10866 ho_10867 => jkD (fun w h => h.pick [0, 1, 3, 4] (by kernel_rfl) (by kernel_rfl)) ?_))
                  refine jd_f [⟨14, 0, 0⟩] 0 (by kernel_rfl) (by kernel_rfl) (fun w h => h.pick [0, 1, 3, 4] (by kernel_rfl) (by kernel_rfl)) (by kernel_rfl) (by kernel_rfl) ?_
                  refine jd_end (by kernel_rfl) ?_
                  refine jx_inn ?_
                  refine jx_then ?_
                  refine jc_region ?_
                  refine jo_f [(0, 0), (0, 0), (0, 0)] (by kernel_rfl) ?_
                  refine jo_end (by kernel_rfl) ?_
                  exact jx_back ((xs_19 ++ [(⟨false, x_25, x_26, (w8 i_20)⟩ : GChoice)]), (w64 (i_20 + 1))) ⟨o_10863, cap_10864, sp_10865, (xs_19 ++ [(⟨false, x_25, x_26, (w8 i_20)⟩ : GChoice)]).length⟩ (Option.some.inj h).symm ⟨rfl, hs_10866, ho_10867⟩ [0, 1, 2, 3, 4] (by kernel_rfl) (by kernel_rfl) (by kernel_rfl)
                · replace h := ifF hc_10855 h
                  refine jc_skip ?_
                  refine jx_inn ?_
                  refine jx_then ?_
                  refine jc_region ?_
                  refine jo_f [(0, 0), (0, 0), (0, 0)] (by kernel_rfl) ?_
                  refine jo_end (by kernel_rfl) ?_
                  exact jx_back (xs_19, (w64 (i_20 + 1))) ⟨o_10843, cap_10844, sp_10845, xs_19.length⟩ (Option.some.inj h).symm ⟨rfl, hs_10847, ho_10848⟩ [0, 1, 2, 3, 4] (by kernel_rfl) (by kernel_rfl) (by kernel_rfl)
              · replace h := ifF hc_10852 h
                refine jc_exit ?_
                refine jx_thenx ?_
                refine jx_leave xs_19 (Option.some.inj h).symm (fun e_10868 => ?_)
                subst e_10868
                refine jx_ine ?_
                exact jx_meet ⟨xs_19, o_10843, cap_10844, sp_10845, xs_19.length⟩ ⟨hr_10849, rfl, hs_10847, ho_10848⟩ (by kernel_rfl) [0, 1, 2, 3, 4] (by kernel_rfl) (by kernel_rfl)
            · rintro ⟨xs_17, o_10797, cap_10798, sp_10799, n_10800⟩ ⟨h, rfl, hs_10801, ho_10802⟩
              replace h : spec_l07For.k_18 i_14 xs_17 = some y_10727 := h
              rw [spec_l07For.k_18] at h
              refine jx_inn ?_
              refine jx_then ?_
              refine jc_region ?_
              refine jo_f [(0, 0), (0, 0), (0, 0)] (by kernel_rfl) ?_
              refine jo_end (by kernel_rfl) ?_
              exact jx_back (xs_17, (w64 (i_14 + 1))) ⟨o_10797, cap_10798, sp_10799, xs_17.length⟩ (Option.some.inj h).symm ⟨rfl, hs_10801, ho_10802⟩ [0, 1, 2, 3, 4] (by kernel_rfl) (by kernel_rfl) (by kernel_rfl)
          · replace h := ifF hc_10729 h
            refine jc_exit ?_
            refine jx_thenx ?_
            refine jx_leave xs_13 (Option.some.inj h).symm (fun e_10870 => ?_)
            subst e_10870
            refine jx_ine ?_
            exact jx_meet ⟨xs_13, o_10720, cap_10721, sp_10722, xs_13.length⟩ ⟨hr_10726, rfl, hs_10724, ho_10725⟩ (by kernel_rfl) [0, 1, 2, 3, 4] (by kernel_rfl) (by kernel_rfl)
        · rintro ⟨xs_11, o_10424, cap_10425, sp_10426, n_10427⟩ ⟨h, rfl, hs_10428, ho_10429⟩
          replace h : spec_l07For.k_12 i_6 xs_11 = some y_9973 := h
          rw [spec_l07For.k_12] at h
          refine jx_inn ?_
          refine jx_then ?_
          refine jc_region ?_
          refine jo_f [(0, 0), (0, 0), (0, 0)] (by kernel_rfl) ?_
          refine jo_end (by kernel_rfl) ?_
          exact jx_back (xs_11, (w64 (i_6 + 1))) ⟨o_10424, cap_10425, sp_10426, xs_11.length⟩ (Option.some.inj h).symm ⟨rfl, hs_10428, ho_10429⟩ [0, 1, 2, 3, 4] (by kernel_rfl) (by kernel_rfl) (by kernel_rfl)
    · replace h := ifF hc_9975 h
      refine jc_exit ?_
      refine jx_thenx ?_
      refine jx_leave xs_5 (Option.some.inj h).symm (fun e_10872 => ?_)
      subst e_10872
      refine jx_ine ?_
      exact jx_meet ⟨xs_5, o_9966, cap_9967, sp_9968, xs_5.length⟩ ⟨hr_9972, rfl, hs_9970, ho_9971⟩ (by kernel_rfl) [0, 1, 2, 3, 4] (by kernel_rfl) (by kernel_rfl)
  · rintro ⟨xs_3, o_8151, cap_8152, sp_8153, n_8154⟩ ⟨h, rfl, hs_8155, ho_8156⟩
    replace h : spec_l07For.k_4 xs_3 = some r := h
    rw [spec_l07For.k_4] at h
    refine jx_then ?_
    refine jc_seq ?_
    refine jc_region ?_
    refine jo_f [(0, 0), (0, 0)] (by kernel_rfl) ?_
    refine toO (by kernel_rfl) (p_a 0 [0] (by kernel_rfl) (fun b => by kernel_rfl) (fun b_8157 => jkO ?_))
    obtain ⟨hg_8158, h⟩ := gd h
    refine toO (by kernel_rfl) (p_apn 0 2 o_8151 99 xs_3.length 1 cap_8152 4 4 (some ⟨b_8157, 0, none⟩) encGChoice xs_3 [(⟨true, 0, 0, 0⟩ : GChoice)] sp_8153 (.agg #[(.bool false), (.int .i8 0), (.int .i8 0), (.int .i8 0)]) rfl rfl (by kernel_rfl) (by kernel_rfl) (by kernel_rfl) encGChoice_len encGChoice_cell hs_8155 ho_8156 (fun w hm => (hm.ownRow (hh := 5) (o := (some b_8157)) (T := 99) (enc := encGChoice) (xs := [(⟨true, 0, 0, 0⟩ : GChoice)]) (sp := []) (by kernel_rfl) (fun e => nomatch e) encGChoice_len)) hg_8158 (by kernel_rfl) (by kernel_rfl) (fun o_8159 cap_8160 sp_8161 hs_8162 ho_8163 => jkO ?_))
    refine jo_f [(0, 0)] (by kernel_rfl) ?_
    refine jo_end (by kernel_rfl) ?_
    refine jx_then ?_
    refine jc_ret ?_
    obtain rfl := Option.some.inj h
    exact jx_ret [] (.slice (o_8159.map fun b => ⟨b, 0, none⟩) ((xs_3 ++ [(⟨true, 0, 0, 0⟩ : GChoice)]).length) cap_8160) [] rfl (by kernel_rfl) (by kernel_rfl) (fun w hm => ⟨o_8159, cap_8160, sp_8161, ((xs_3 ++ [(⟨true, 0, 0, 0⟩ : GChoice)]).length), rfl, hs_8162, ho_8163, rfl, hm.pick [0, 2] (by kernel_rfl) (by kernel_rfl)⟩)

/-! ### spec.l02Pin -/
noncomputable def spec_l02Pin (d0 : Arr 96 Int) (step1 : Int) (track2 : Int) : Option (Bool) := (ix d0.1 step1).bind fun x_1 => (if 0 ≤ (u64 track2) then some ((Int.tmod (bShr .u32 x_1 (u64 track2)) 2) == 1) else none)
set_option maxRecDepth 100000 in
theorem spec_l02Pin.calls (d0 : Arr 96 Int) (step1 : Int) (track2 : Int) (w : World) (r : Bool) (d0_b : Nat) (hm0 : Mem w (bs [some d0_b]) [⟨(some d0_b), 89, row encU32 d0.1 []⟩] w) (h : spec_l02Pin d0 step1 track2 = some r) :
    Calls Tryz.prog 89 #[(.pointer (some ⟨d0_b, 0, none⟩)), (.int .i64 step1), (.int .i64 track2)] w fun e w' => ∃ v, e = .returned v ∧ (v = (.bool r) ∧ Mem w (bs [some d0_b]) [⟨(some d0_b), 89, row encU32 d0.1 []⟩] w') := by
  rw [spec_l02Pin] at h
  refine enter (args := [(.pointer (some ⟨d0_b, 0, none⟩)), (.int .i64 step1), (.int .i64 track2)]) Tryz.func89 rfl Tryz.ntmps89 (by kernel_rfl) (L := [⟨(some d0_b), 89, row encU32 d0.1 []⟩]) (W := bs [some d0_b]) hm0 ?_
  refine jc_seq ?_
  refine jc_region ?_
  refine jo_f [(0, 0)] (by kernel_rfl) ?_
  refine jo_end (by kernel_rfl) ?_
  refine jx_then ?_
  refine jc_seq ?_
  refine jc_region ?_
  refine jo_f [(0, 0), (0, 0), (0, 0)] (by kernel_rfl) ?_
  obtain ⟨x_1, hx_1, h⟩ := bd h
  refine toO (by kernel_rfl) (p_idx 0 (some ⟨d0_b, 0, none⟩) 96 step1 1 (by kernel_rfl) (by kernel_rfl) (ix_some hx_1).1 (ltn hx_1 d0.2) rfl (jkO ?_))
  refine toO (by kernel_rfl) (p_ld 0 (aB (some ⟨d0_b, 0, none⟩)) (aO (some ⟨d0_b, 0, none⟩) + step1.toNat * 1) false (encU32 x_1) (by kernel_rfl) (by kernel_rfl) (by kernel_rfl) (fun w hm => ((hm.ownRow (hh := 0) (o := (some d0_b)) (T := 89) (enc := encU32) (xs := d0.1) (sp := []) (by kernel_rfl) (fun e => nomatch e) encU32_len).at hx_1)) (jkO ?_))
  refine jo_f [(0, 0), (0, 0)] (by kernel_rfl) ?_
  obtain ⟨hg_2, h⟩ := gd h
  refine toO (by kernel_rfl) (p_shr 0 .u32 x_1 .u64 (u64 track2) (by kernel_rfl) (by kernel_rfl) hg_2 (jkO ?_))
  refine jo_f [(0, 0), (0, 0), (0, 0)] (by kernel_rfl) ?_
  refine jo_end (by kernel_rfl) ?_
  refine jx_then ?_
  refine jc_ret ?_
  obtain rfl := Option.some.inj h
  exact jx_ret [] (.bool ((Int.tmod (bShr .u32 x_1 (u64 track2)) 2) == 1)) [] rfl (by kernel_rfl) (by kernel_rfl) (fun w hm => ⟨rfl, hm.pick [0] (by kernel_rfl) (by kernel_rfl)⟩)

/-! ### spec.l02Free -/
noncomputable def spec_l02Free.k_3 : Option (Bool) := some true
noncomputable def spec_l02Free.k_8 (i_4 : Int) (q_7 : Bool) : Option ((Int) ⊕ (Bool ⊕ Unit)) := (if q_7 = true then some (.inr (.inl false)) else some (.inl (w64 (i_4 + 1))))
noncomputable def spec_l02Free.l_5 (f0 : GFrame) (d1 : Arr 96 Int) (step2 : Int) (track3 : Int) (x_2 : GHammer) : Int → Option ((Int) ⊕ (Bool ⊕ Unit))
  | i_4 => (if (decide (i_4 < (w64 x_2.fReady))) = true then (if (w64 f0.fSteps) ≠ 0 then (spec_l02Pin d1 (Int.tmod (w64 (step2 + i_4)) (w64 f0.fSteps)) track3).bind fun t_9 => (if t_9 = true then spec_l02Free.k_8 i_4 true else (if (w64 f0.fSteps) ≠ 0 then (spec_l02Pin d1 (Int.tmod (w64 ((w64 (step2 + (w64 f0.fSteps))) - i_4)) (w64 f0.fSteps)) track3).bind fun t_10 => spec_l02Free.k_8 i_4 t_10 else none)) else none) else some (.inr (.inr ())))
noncomputable def spec_l02Free (f0 : GFrame) (d1 : Arr 96 Int) (step2 : Int) (track3 : Int) : Option (Bool) := (spec_l02Pin d1 step2 track3).bind fun t_1 => (if t_1 = true then some false else (ix f0.fHammers track3).bind fun x_2 => (loop (spec_l02Free.l_5 f0 d1 step2 track3 x_2) 1).bind fun t_6 => match t_6 with | .inl p => some p | .inr p => spec_l02Free.k_3)
set_option maxRecDepth 100000 in
theorem spec_l02Free.calls (f0 : GFrame) (d1 : Arr 96 Int) (step2 : Int) (track3 : Int) (w : World) (r : Bool) (f0_fHammers_a : Option Addr) (f0_fHammers_an : Nat) (f0_fHammers_c : Nat) (f0_fHammers_h : Rw w f0_fHammers_a 2 encGHammer f0.fHammers) (f0_fHammers_hn : f0.fHammers.length = f0_fHammers_an) (f0_b : Nat) (d1_b : Nat) (hm0 : Mem w (bs [some f0_b, some d1_b]) [⟨some f0_b, 42, [(.int .i16 f0.fSteps), (.slice f0_fHammers_a f0_fHammers_an f0_fHammers_c)]⟩, ⟨(some d1_b), 89, row encU32 d1.1 []⟩] w) (f0_fHammers_ha : f0.fHammers ≠ [] → aB f0_fHammers_a ∉ bs [some f0_b, some d1_b]) (h : spec_l02Free f0 d1 step2 track3 = some r) :
    Calls Tryz.prog 139 #[(.pointer (some ⟨f0_b, 0, none⟩)), (.pointer (some ⟨d1_b, 0, none⟩)), (.int .i64 step2), (.int .i64 track3)] w fun e w' => ∃ v, e = .returned v ∧ (v = (.bool r) ∧ Mem w (bs [some f0_b, some d1_b]) [⟨some f0_b, 42, [(.int .i16 f0.fSteps), (.slice f0_fHammers_a f0_fHammers_an f0_fHammers_c)]⟩, ⟨(some d1_b), 89, row encU32 d1.1 []⟩] w') := by
  subst f0_fHammers_hn
  rw [spec_l02Free] at h
  refine enter (args := [(.pointer (some ⟨f0_b, 0, none⟩)), (.pointer (some ⟨d1_b, 0, none⟩)), (.int .i64 step2), (.int .i64 track3)]) Tryz.func139 rfl Tryz.ntmps139 (by kernel_rfl) (L := [⟨some f0_b, 42, [(.int .i16 f0.fSteps), (.slice f0_fHammers_a f0.fHammers.length f0_fHammers_c)]⟩, ⟨(some d1_b), 89, row encU32 d1.1 []⟩]) (W := bs [some f0_b, some d1_b]) hm0 ?_
  refine jc_seq ?_
  refine jc_region ?_
  refine jo_f [(0, 0)] (by kernel_rfl) ?_
  refine jo_end (by kernel_rfl) ?_
  refine jx_then ?_
  refine jc_seq ?_
  refine jc_seq ?_
  refine jc_region ?_
  refine jo_f [(0, 0), (0, 0), (0, 0)] (by kernel_rfl) ?_
  obtain ⟨t_1, ht_3, h⟩ := bd h
  refine toO (by kernel_rfl) (p_call 0 89 #[(.pointer (some ⟨d1_b, 0, none⟩)), (.int .i64 step2), (.int .i64 track3)] (by kernel_rfl) (by kernel_rfl) (fun w hm => spec_l02Pin.calls d1 step2 track3 w _ d1_b (hm.pass (N := [⟨(some d1_b), 89, row encU32 d1.1 []⟩]) [1] (by kernel_rfl) (by kernel_rfl)) ht_3) ?_)
  rintro w v w' hm ⟨rfl, hm'⟩
  refine ⟨_, hm.appW (ps := [(1, ⟨(some d1_b), 89, row encU32 d1.1 []⟩)]) (N := []) hm' (by kernel_rfl) (by kernel_rfl), jkO ?_⟩
  clear hm hm'
  refine jo_end (by kernel_rfl) ?_
  refine jx_then ?_
  refine jc_cond t_1 (by kernel_rfl) (fun hc_4 => ?_) (fun hc_4 => ?_)
  · replace h := ifT hc_4 h
    refine jc_seq ?_
    refine jc_region ?_
    refine jo_f [(0, 0)] (by kernel_rfl) ?_
    refine jo_end (by kernel_rfl) ?_
    refine jx_then ?_
    refine jc_ret ?_
    refine jx_thenr ?_
    obtain rfl := Option.some.inj h
    exact jx_ret [] (.bool false) [] rfl (by kernel_rfl) (by kernel_rfl) (fun w hm => ⟨rfl, hm.pick [0, 1] (by kernel_rfl) (by kernel_rfl)⟩)
  · replace h := ifF hc_4 h
    refine jc_skip ?_
    refine jx_then ?_
    refine jc_seq ?_
    refine jc_region ?_
    refine jo_f [(0, 0), (0, 0), (0, 0), (0, 0), (0, 0), (0, 0)] (by kernel_rfl) ?_
    refine jo_end (by kernel_rfl) ?_
    refine jx_then ?_
    refine jc_seq ?_
    refine jc_region ?_
    refine jo_f [(0, 0), (0, 0), (0, 0), (0, 0), (0, 0)] (by kernel_rfl) ?_
    obtain ⟨x_2, hx_5, h⟩ := bd h
    refine toO (by kernel_rfl) (p_idx 0 f0_fHammers_a f0.fHammers.length track3 2 (by kernel_rfl) (by kernel_rfl) (ix_some hx_5).1 (ltn hx_5 rfl) (f0_fHammers_h.sp hx_5) (jkO ?_))
    refine jo_f [(0, 0)] (by kernel_rfl) ?_
    refine toO (by kernel_rfl) (p_ld 0 (aB f0_fHammers_a) (aO f0_fHammers_a + track3.toNat * 2 + 1) false (((encGHammer x_2).drop 1).take 1) (by kernel_rfl) (by kernel_rfl) (by kernel_rfl) (fun w hm => (((hm.exRowW f0_fHammers_h f0_fHammers_ha).at hx_5).sub 1 1)) (jkO ?_))
    refine jo_f [(0, 0), (0, 0)] (by kernel_rfl) ?_
    refine jo_end (by kernel_rfl) ?_
    refine jx_then ?_
    refine jc_seq ?_
    refine jc_seq ?_
    refine jc_region ?_
    refine jo_f [(0, 0)] (by kernel_rfl) ?_
    refine jo_end (by kernel_rfl) ?_
    refine jx_then ?_
    refine jc_meet (fun (_ : Unit) => spec_l02Free.k_3 = some r) (fun (_ : Unit) => [(8, [], (.bool false))]) (fun (_ : Unit) => [⟨some f0_b, 42, [(.int .i16 f0.fSteps), (.slice f0_fHammers_a f0.fHammers.length f0_fHammers_c)]⟩, ⟨(some d1_b), 89, row encU32 d1.1 []⟩]) ?_ ?_
    · refine jc_block ?_
      obtain ⟨t_6, ht_93, hr_76⟩ := bd h
      refine jc_loop (fun (s : Int) (x : Unit) => match s, x with | i_4, _ => True) (fun (s : Int) (x : Unit) => match s, x with | i_4, _ => [(1, [], (.pointer (some ⟨d1_b, 0, none⟩))), (2, [], (.int .i64 step2)), (3, [], (.int .i64 track3)), (8, [], (.bool false)), (9, [], (.int .i64 (w64 f0.fSteps))), (10, [], (.int .i64 (w64 x_2.fReady))), (11, [], (.int .i64 i_4))]) (fun (s : Int) (x : Unit) => match s, x with | i_4, _ => [⟨some f0_b, 42, [(.int .i16 f0.fSteps), (.slice f0_fHammers_a f0.fHammers.length f0_fHammers_c)]⟩, ⟨(some d1_b), 89, row encU32 d1.1 []⟩]) ht_93 () trivial (by kernel_rfl) [0, 1] (by kernel_rfl) (by kernel_rfl) ?_
      rintro i_4 _ y_77 _ h
      rw [spec_l02Free.l_5] at h
      refine jc_seq ?_
      refine jc_seq ?_
      refine jc_region ?_
      refine jo_f [(0, 0), (0, 0), (0, 0)] (by kernel_rfl) ?_
      refine jo_end (by kernel_rfl) ?_
      refine jx_then ?_
      refine jc_cond (decide (i_4 < (w64 x_2.fReady))) (by kernel_rfl) (fun hc_79 => ?_) (fun hc_79 => ?_)
      · replace h := ifT hc_79 h
        refine jc_skip ?_
        refine jx_then ?_
        refine jc_seq ?_
        refine jc_block ?_
        refine jc_seq ?_
        refine jc_meet (fun (j : Bool) => match j with | q_7 => spec_l02Free.k_8 i_4 q_7 = some y_77) (fun (j : Bool) => match j with | q_7 => [(1, [], (.pointer (some ⟨d1_b, 0, none⟩))), (2, [], (.int .i64 step2)), (3, [], (.int .i64 track3)), (8, [], (.bool false)), (9, [], (.int .i64 (w64 f0.fSteps))), (10, [], (.int .i64 (w64 x_2.fReady))), (11, [], (.int .i64 i_4)), (54, [], (.bool q_7))]) (fun (j : Bool) => match j with | q_7 => [⟨some f0_b, 42, [(.int .i16 f0.fSteps), (.slice f0_fHammers_a f0.fHammers.length f0_fHammers_c)]⟩, ⟨(some d1_b), 89, row encU32 d1.1 []⟩]) ?_ ?_
        · refine jc_region ?_
          refine jo_f [(0, 0), (0, 0), (0, 0), (0, 0), (0, 0)] (by kernel_rfl) ?_
          obtain ⟨hg_87, h⟩ := gd h
          refine toO (by kernel_rfl) (p_rem 0 .i64 (w64 (step2 + i_4)) (w64 f0.fSteps) (by kernel_rfl) (by kernel_rfl) hg_87 (jkO ?_))
          refine jo_f [(0, 0)] (by kernel_rfl) ?_
          obtain ⟨t_9, ht_88, h⟩ := bd h
          refine toO (by kernel_rfl) (p_call 0 89 #[(.pointer (some ⟨d1_b, 0, none⟩)), (.int .i64 (Int.tmod (w64 (step2 + i_4)) (w64 f0.fSteps))), (.int .i64 track3)] (by kernel_rfl) (by kernel_rfl) (fun w hm => spec_l02Pin.calls d1 (Int.tmod (w64 (step2 + i_4)) (w64 f0.fSteps)) track3 w _ d1_b (hm.pass (N := [⟨(some d1_b), 89, row encU32 d1.1 []⟩]) [1] (by kernel_rfl) (by kernel_rfl)) ht_88) ?_)
          rintro w v w' hm ⟨rfl, hm'⟩
          refine ⟨_, hm.appW (ps := [(1, ⟨(some d1_b), 89, row encU32 d1.1 []⟩)]) (N := []) hm' (by kernel_rfl) (by kernel_rfl), jkO ?_⟩
          clear hm hm'
          refine jo_f [(0, 0), (0, 1), (0, 1), (0, 1), (0, 1), (0, 1), (0, 1), (0, 1)] (by kernel_rfl) ?_
          refine jo_split 43 t_9 (by kernel_rfl) (fun hc_89 => ?_) (fun hc_89 => ?_)
          · replace h := ifT hc_89 h
            refine jo_f [(0, 3), (0, 3), (0, 3), (0, 4)] (by kernel_rfl) ?_
            refine jo_end (by kernel_rfl) ?_
            exact jx_meet true h (by kernel_rfl) [0, 1] (by kernel_rfl) (by kernel_rfl)
          · replace h := ifF hc_89 h
            obtain ⟨hg_90, h⟩ := gd h
            refine toO (by kernel_rfl) (p_rem 2 .i64 (w64 ((w64 (step2 + (w64 f0.fSteps))) - i_4)) (w64 f0.fSteps) (by kernel_rfl) (by kernel_rfl) hg_90 (jkO ?_))
            refine jo_f [(0, 2)] (by kernel_rfl) ?_
            obtain ⟨t_10, ht_91, h⟩ := bd h
            refine toO (by kernel_rfl) (p_call 2 89 #[(.pointer (some ⟨d1_b, 0, none⟩)), (.int .i64 (Int.tmod (w64 ((w64 (step2 + (w64 f0.fSteps))) - i_4)) (w64 f0.fSteps))), (.int .i64 track3)] (by kernel_rfl) (by kernel_rfl) (fun w hm => spec_l02Pin.calls d1 (Int.tmod (w64 ((w64 (step2 + (w64 f0.fSteps))) - i_4)) (w64 f0.fSteps)) track3 w _ d1_b (hm.pass (N := [⟨(some d1_b), 89, row encU32 d1.1 []⟩]) [1] (by kernel_rfl) (by kernel_rfl)) ht_91) ?_)
            rintro w v w' hm ⟨rfl, hm'⟩
            refine ⟨_, hm.appW (ps := [(1, ⟨(some d1_b), 89, row encU32 d1.1 []⟩)]) (N := []) hm' (by kernel_rfl) (by kernel_rfl), jkO ?_⟩
            clear hm hm'
            refine jo_f [(0, 5)] (by kernel_rfl) ?_
            refine jo_end (by kernel_rfl) ?_
            exact jx_meet t_10 h (by kernel_rfl) [0, 1] (by kernel_rfl) (by kernel_rfl)
        · rintro q_7 h
          replace h : spec_l02Free.k_8 i_4 q_7 = some y_77 := h
          rw [spec_l02Free.k_8] at h
          refine jx_then ?_
          refine jc_cond q_7 (by kernel_rfl) (fun hc_85 => ?_) (fun hc_85 => ?_)
          · replace h := ifT hc_85 h
            refine jc_seq ?_
            refine jc_region ?_
            refine jo_f [(0, 0)] (by kernel_rfl) ?_
            refine jo_end (by kernel_rfl) ?_
            refine jx_then ?_
            refine jc_ret ?_
            refine jx_inr ?_
            refine jx_thenr ?_
            refine jx_leaver (.inl false) (Option.some.inj h).symm (fun e_86 => ?_)
            subst e_86
            refine jx_inr ?_
            refine jx_thenr ?_
            refine jx_thenr ?_
            obtain rfl := Option.some.inj hr_76
            exact jx_ret [] (.bool false) [] rfl (by kernel_rfl) (by kernel_rfl) (fun w hm => ⟨rfl, hm.pick [0, 1] (by kernel_rfl) (by kernel_rfl)⟩)
          · replace h := ifF hc_85 h
            refine jc_skip ?_
            refine jx_inn ?_
            refine jx_then ?_
            refine jc_region ?_
            refine jo_f [(0, 0), (0, 0), (0, 0)] (by kernel_rfl) ?_
            refine jo_end (by kernel_rfl) ?_
            exact jx_back (w64 (i_4 + 1)) () (Option.some.inj h).symm trivial [0, 1] (by kernel_rfl) (by kernel_rfl) (by kernel_rfl)
      · replace h := ifF hc_79 h
        refine jc_exit ?_
        refine jx_thenx ?_
        refine jx_leave (.inr ()) (Option.some.inj h).symm (fun e_92 => ?_)
        subst e_92
        refine jx_ine ?_
        exact jx_meet () hr_76 (by kernel_rfl) [0, 1] (by kernel_rfl) (by kernel_rfl)
    · rintro _ h
      replace h : spec_l02Free.k_3 = some r := h
      rw [spec_l02Free.k_3] at h
      refine jx_then ?_
      refine jc_seq ?_
      refine jc_region ?_
      refine jo_f [(0, 0)] (by kernel_rfl) ?_
      refine jo_end (by kernel_rfl) ?_
      refine jx_then ?_
      refine jc_ret ?_
      obtain rfl := Option.some.inj h
      exact jx_ret [] (.bool true) [] rfl (by kernel_rfl) (by kernel_rfl) (fun w hm => ⟨rfl, hm.pick [0, 1] (by kernel_rfl) (by kernel_rfl)⟩)

/-! ### spec.l07Put -/
noncomputable def spec_l07Put (f0 : GFrame) (d1 : Arr 96 Int) (n2 : GNote) (x3 : GChoice) : Option (Bool × (Arr 96 Int)) := (if x3.fAway = true then some (true, d1) else (spec_l02Free f0 d1 (w64 ((w64 n2.fAt) + (w64 x3.fLate))) (w64 x3.fTrack)).bind fun t_1 => (if (!t_1) = true then some (false, d1) else (ix d1.1 (w64 ((w64 n2.fAt) + (w64 x3.fLate)))).bind fun x_2 => (if 0 ≤ (u64 x3.fTrack) then (ix d1.1 (w64 ((w64 n2.fAt) + (w64 x3.fLate)))).bind fun x_3 => some (true, (Arr.set d1 (w64 ((w64 n2.fAt) + (w64 x3.fLate))) (bOr .u32 x_2 (bShl .u32 1 (u64 x3.fTrack))))) else none)))
set_option maxRecDepth 100000 in
theorem spec_l07Put.calls (f0 : GFrame) (d1 : Arr 96 Int) (n2 : GNote) (x3 : GChoice) (w : World) (r : Bool × (Arr 96 Int)) (f0_fHammers_a : Option Addr) (f0_fHammers_an : Nat) (f0_fHammers_c : Nat) (f0_fHammers_h : Rw w f0_fHammers_a 2 encGHammer f0.fHammers) (f0_fHammers_hn : f0.fHammers.length = f0_fHammers_an) (f0_b : Nat) (d1_b : Nat) (hm0 : Mem w (bs [some f0_b, some d1_b]) [⟨some f0_b, 42, [(.int .i16 f0.fSteps), (.slice f0_fHammers_a f0_fHammers_an f0_fHammers_c)]⟩, ⟨(some d1_b), 89, row encU32 d1.1 []⟩] w) (f0_fHammers_ha : f0.fHammers ≠ [] → aB f0_fHammers_a ∉ bs [some f0_b, some d1_b]) (h : spec_l07Put f0 d1 n2 x3 = some r) :
    Calls Tryz.prog 117 #[(.pointer (some ⟨f0_b, 0, none⟩)), (.pointer (some ⟨d1_b, 0, none⟩)), (.agg #[(.int .i16 n2.fAt), (.int .i8 n2.fPitch)]), (.agg #[(.bool x3.fAway), (.int .i8 x3.fLate), (.int .i8 x3.fOctave), (.int .i8 x3.fTrack)])] w fun e w' => ∃ v, e = .returned v ∧ (v = (.bool r.1) ∧ Mem w (bs [some f0_b, some d1_b]) [⟨some f0_b, 42, [(.int .i16 f0.fSteps), (.slice f0_fHammers_a f0_fHammers_an f0_fHammers_c)]⟩, ⟨(some d1_b), 89, row encU32 r.2.1 []⟩] w') := by
  subst f0_fHammers_hn
  rw [spec_l07Put] at h
  refine enter (args := [(.pointer (some ⟨f0_b, 0, none⟩)), (.pointer (some ⟨d1_b, 0, none⟩)), (.agg #[(.int .i16 n2.fAt), (.int .i8 n2.fPitch)]), (.agg #[(.bool x3.fAway), (.int .i8 x3.fLate), (.int .i8 x3.fOctave), (.int .i8 x3.fTrack)])]) Tryz.func117 rfl Tryz.ntmps117 (by kernel_rfl) (L := [⟨some f0_b, 42, [(.int .i16 f0.fSteps), (.slice f0_fHammers_a f0.fHammers.length f0_fHammers_c)]⟩, ⟨(some d1_b), 89, row encU32 d1.1 []⟩]) (W := bs [some f0_b, some d1_b]) hm0 ?_
  refine jc_seq ?_
  refine jc_region ?_
  refine toO (by kernel_rfl) (p_a 0 [0] (by kernel_rfl) (fun b => by kernel_rfl) (fun b_1 => jkO ?_))
  refine toO (by kernel_rfl) (p_a 0 [0] (by kernel_rfl) (fun b => by kernel_rfl) (fun b_2 => jkO ?_))
  refine jo_f [(0, 0)] (by kernel_rfl) ?_
  refine jo_end (by kernel_rfl) ?_
  refine jx_then ?_
  refine jc_seq ?_
  refine jc_seq ?_
  refine jc_region ?_
  refine jo_f [(0, 0), (3, 0)] (by kernel_rfl) ?_
  refine jo_end (by kernel_rfl) ?_
  refine jx_then ?_
  refine jc_cond x3.fAway (by kernel_rfl) (fun hc_4 => ?_) (fun hc_4 => ?_)
  · replace h := ifT hc_4 h
    refine jc_seq ?_
    refine jc_region ?_
    refine jo_f [(0, 0)] (by kernel_rfl) ?_
    refine jo_end (by kernel_rfl) ?_
    refine jx_then ?_
    refine jc_ret ?_
    refine jx_thenr ?_
    obtain rfl := Option.some.inj h
    exact jx_ret [] (.bool true) [] rfl (by kernel_rfl) (by kernel_rfl) (fun w hm => ⟨rfl, hm.pick [0, 1] (by kernel_rfl) (by kernel_rfl)⟩)
  · replace h := ifF hc_4 h
    refine jc_skip ?_
    refine jx_then ?_
    refine jc_seq ?_
    refine jc_region ?_
    refine jo_f [(0, 0), (2, 0), (0, 0), (0, 0), (3, 0), (0, 0), (0, 0), (0, 0)] (by kernel_rfl) ?_
    refine jo_end (by kernel_rfl) ?_
    refine jx_then ?_
    refine jc_seq ?_
    refine jc_seq ?_
    refine jc_region ?_
    refine jo_f [(0, 0), (0, 0), (0, 0), (0, 0), (3, 0), (0, 0)] (by kernel_rfl) ?_
    obtain ⟨t_1, ht_7, h⟩ := bd h
    refine toO (by kernel_rfl) (p_call 0 139 #[(.pointer (some ⟨f0_b, 0, none⟩)), (.pointer (some ⟨d1_b, 0, none⟩)), (.int .i64 (w64 ((w64 n2.fAt) + (w64 x3.fLate)))), (.int .i64 (w64 x3.fTrack))] (by kernel_rfl) (by kernel_rfl) (fun w hm => spec_l02Free.calls f0 d1 (w64 ((w64 n2.fAt) + (w64 x3.fLate))) (w64 x3.fTrack) w _ f0_fHammers_a f0.fHammers.length f0_fHammers_c (hm.exRowW f0_fHammers_h f0_fHammers_ha) rfl f0_b d1_b (hm.pass (N := [⟨some f0_b, 42, [(.int .i16 f0.fSteps), (.slice f0_fHammers_a f0.fHammers.length f0_fHammers_c)]⟩, ⟨(some d1_b), 89, row encU32 d1.1 []⟩]) [0, 1] (by kernel_rfl) (by kernel_rfl)) (hm.exApart (N := [⟨some f0_b, 42, [(.int .i16 f0.fSteps), (.slice f0_fHammers_a f0.fHammers.length f0_fHammers_c)]⟩, ⟨(some d1_b), 89, row encU32 d1.1 []⟩]) f0_fHammers_h f0_fHammers_ha [0, 1] (by kernel_rfl)) ht_7) ?_)
    rintro w v w' hm ⟨rfl, hm'⟩
    refine ⟨_, hm.appW (ps := [(0, ⟨some f0_b, 42, [(.int .i16 f0.fSteps), (.slice f0_fHammers_a f0.fHammers.length f0_fHammers_c)]⟩), (1, ⟨(some d1_b), 89, row encU32 d1.1 []⟩)]) (N := []) hm' (by kernel_rfl) (by kernel_rfl), jkO ?_⟩
    clear hm hm'
    refine jo_f [(0, 0)] (by kernel_rfl) ?_
    refine jo_end (by kernel_rfl) ?_
    refine jx_then ?_
    refine jc_cond (!t_1) (by kernel_rfl) (fun hc_8 => ?_) (fun hc_8 => ?_)
    · replace h := ifT hc_8 h
      refine jc_seq ?_
      refine jc_region ?_
      refine jo_f [(0, 0)] (by kernel_rfl) ?_
      refine jo_end (by kernel_rfl) ?_
      refine jx_then ?_
      refine jc_ret ?_
      refine jx_thenr ?_
      obtain rfl := Option.some.inj h
      exact jx_ret [] (.bool false) [] rfl (by kernel_rfl) (by kernel_rfl) (fun w hm => ⟨rfl, hm.pick [0, 1] (by kernel_rfl) (by kernel_rfl)⟩)
    · replace h := ifF hc_8 h
      refine jc_skip ?_
      refine jx_then ?_
      refine jc_seq ?_
      refine jc_draw [⟨some f0_b, 42, [(.int .i16 f0.fSteps), (.slice f0_fHammers_a f0.fHammers.length f0_fHammers_c)]⟩, ⟨some b_1, 95, [(.int .i16 n2.fAt), (.int .i8 n2.fPitch)]⟩, ⟨some b_2, 99, [(.bool x3.fAway), (.int .i8 x3.fLate), (.int .i8 x3.fOctave), (.int .i8 x3.fTrack)]⟩] 15 (by kernel_rfl) (by kernel_rfl) ?_
      refine jd_f [⟨0, 0, 0⟩, ⟨1, 0, 0⟩, ⟨2, 0, 0⟩, ⟨3, 0, 0⟩, ⟨4, 0, 0⟩, ⟨7, 0, 0⟩, ⟨8, 2, 0⟩, ⟨9, 0, 0⟩, ⟨12, 0, 0⟩] 6 (by kernel_rfl) (by kernel_rfl) (fun w h => h.pick [0, 2, 3] (by kernel_rfl) (by kernel_rfl)) (by kernel_rfl) (by kernel_rfl) ?_
      obtain ⟨x_2, hx_12, h⟩ := bd h
      refine jd_v 5 0 (by kernel_rfl) (fun w h => h.pick [0, 2, 3] (by kernel_rfl) (by kernel_rfl)) (by kernel_rfl) (by kernel_rfl) _ (fun w hm => idx_run (a := (some ⟨d1_b, 0, none⟩)) (len := 96) (s := 1) (j := (w64 ((w64 n2.fAt) + (w64 x3.fLate)))) (by kernel_rfl) (ix_some hx_12).1 (ltn hx_12 d1.2) rfl) ?_
      refine toD2 6 10 (by kernel_rfl) ?_ ?_
      · refine p_ld 0 (aB (some ⟨d1_b, 0, none⟩)) (aO (some ⟨d1_b, 0, none⟩) + (w64 ((w64 n2.fAt) + (w64 x3.fLate))).toNat * 1) false (encU32 x_2) (by kernel_rfl) (by kernel_rfl) (by kernel_rfl) (fun w hm => ((hm.ownRow (hh := 1) (o := (some d1_b)) (T := 89) (enc := encU32) (xs := d1.1) (sp := []) (by kernel_rfl) (fun e => nomatch e) encU32_len).at hx_12)) (jkD (fun w h => h.pick [0, 2, 3] (by kernel_rfl) (by kernel_rfl)) ?_)
        obtain ⟨hg_13, h⟩ := gd h
        refine toD 10 (by kernel_rfl) (p_shl 0 .u32 1 .u64 (u64 x3.fTrack) (by kernel_rfl) (by kernel_rfl) hg_13 (jkD (fun w h => h.pick [0, 2, 3] (by kernel_rfl) (by kernel_rfl)) ?_))
        refine jd_f [⟨11, 0, 0⟩] 2 (by kernel_rfl) (by kernel_rfl) (fun w h => h.pick [0, 2, 3] (by kernel_rfl) (by kernel_rfl)) (by kernel_rfl) (by kernel_rfl) ?_
        obtain ⟨x_3, hx_14, h⟩ := bd h
        refine jd_v 13 0 (by kernel_rfl) (fun w h => h.pick [0, 2, 3] (by kernel_rfl) (by kernel_rfl)) (by kernel_rfl) (by kernel_rfl) _ (fun w hm => idx_run (a := (some ⟨d1_b, 0, none⟩)) (len := 96) (s := 1) (j := (w64 ((w64 n2.fAt) + (w64 x3.fLate)))) (by kernel_rfl) (ix_some hx_14).1 (ltn hx_14 d1.2) rfl) ?_
        refine toD 14 (by kernel_rfl) (p_str 0 1 d1_b 89 encU32 d1.1 [] (w64 ((w64 n2.fAt) + (w64 x3.fLate))) (bOr .u32 x_2 (bShl .u32 1 (u64 x3.fTrack))) 1 0 [(.int .u32 (bOr .u32 x_2 (bShl .u32 1 (u64 x3.fTrack))))] (by kernel_rfl) (by kernel_rfl) (by kernel_rfl) encU32_len hx_14 (by kernel_rfl) (by kernel_rfl) (jkD (fun w h => h.pick [0, 2, 3] (by kernel_rfl) (by kernel_rfl)) ?_))
        refine jd_end (by kernel_rfl) ?_
        refine jx_then ?_
        refine jc_seq ?_
        refine jc_region ?_
        refine jo_f [(0, 0)] (by kernel_rfl) ?_
        refine jo_end (by kernel_rfl) ?_
        refine jx_then ?_
        refine jc_ret ?_
        obtain rfl := Option.some.inj h
        exact jx_ret [] (.bool true) [] rfl (by kernel_rfl) (by kernel_rfl) (fun w hm => ⟨rfl, hm.pick [0, 1] (by kernel_rfl) (by kernel_rfl)⟩)
      · obtain ⟨hg_15, h⟩ := gd h
        refine p_shl 0 .u32 1 .u64 (u64 x3.fTrack) (by kernel_rfl) (by kernel_rfl) hg_15 (jkD (fun w h => h.pick [0, 2, 3] (by kernel_rfl) (by kernel_rfl)) ?_)
        refine toD 6 (by kernel_rfl) (p_ld 0 (aB (some ⟨d1_b, 0, none⟩)) (aO (some ⟨d1_b, 0, none⟩) + (w64 ((w64 n2.fAt) + (w64 x3.fLate))).toNat * 1) false (encU32 x_2) (by kernel_rfl) (by kernel_rfl) (by kernel_rfl) (fun w hm => ((hm.ownRow (hh := 1) (o := (some d1_b)) (T := 89) (enc := encU32) (xs := d1.1) (sp := []) (by kernel_rfl) (fun e => nomatch e) encU32_len).at hx_12)) (jkD (fun w h => h.pick [0, 2, 3] (by kernel_rfl) (by kernel_rfl)) ?_))
        refine jd_f [⟨11, 0, 0⟩] 2 (by kernel_rfl) (by kernel_rfl) (fun w h => h.pick [0, 2, 3] (by kernel_rfl) (by kernel_rfl)) (by kernel_rfl) (by kernel_rfl) ?_
        obtain ⟨x_3, hx_16, h⟩ := bd h
        refine jd_v 13 0 (by kernel_rfl) (fun w h => h.pick [0, 2, 3] (by kernel_rfl) (by kernel_rfl)) (by kernel_rfl) (by kernel_rfl) _ (fun w hm => idx_run (a := (some ⟨d1_b, 0, none⟩)) (len := 96) (s := 1) (j := (w64 ((w64 n2.fAt) + (w64 x3.fLate)))) (by kernel_rfl) (ix_some hx_16).1 (ltn hx_16 d1.2) rfl) ?_
        refine toD 14 (by kernel_rfl) (p_str 0 1 d1_b 89 encU32 d1.1 [] (w64 ((w64 n2.fAt) + (w64 x3.fLate))) (bOr .u32 x_2 (bShl .u32 1 (u64 x3.fTrack))) 1 0 [(.int .u32 (bOr .u32 x_2 (bShl .u32 1 (u64 x3.fTrack))))] (by kernel_rfl) (by kernel_rfl) (by kernel_rfl) encU32_len hx_16 (by kernel_rfl) (by kernel_rfl) (jkD (fun w h => h.pick [0, 2, 3] (by kernel_rfl) (by kernel_rfl)) ?_))
        refine jd_end (by kernel_rfl) ?_
        refine jx_then ?_
        refine jc_seq ?_
        refine jc_region ?_
        refine jo_f [(0, 0)] (by kernel_rfl) ?_
        refine jo_end (by kernel_rfl) ?_
        refine jx_then ?_
        refine jc_ret ?_
        obtain rfl := Option.some.inj h
        exact jx_ret [] (.bool true) [] rfl (by kernel_rfl) (by kernel_rfl) (fun w hm => ⟨rfl, hm.pick [0, 1] (by kernel_rfl) (by kernel_rfl)⟩)

/-! ### spec.l07Fit -/
noncomputable def spec_l07Fit.k_2 (a_1 : Arr 96 Int) : Option ((Arr 96 Int) × Int) := some (a_1, (-1))
noncomputable def spec_l07Fit.k_13 (i_4 : Int) (a_11 : Arr 96 Int) (q_12 : Bool) : Option (((Arr 96 Int) × Int) ⊕ (((Arr 96 Int) × Int) ⊕ (Arr 96 Int))) := (if q_12 = true then some (.inr (.inl ((Arr.rep 96 0), i_4))) else some (.inl (a_11, (w64 (i_4 + 1)))))
noncomputable def spec_l07Fit.k_10 (f0 : GFrame) (t1 : List GNote) (list2 : List GChoice) (a_3 : Arr 96 Int) (i_4 : Int) (q_9 : Bool) : Option (((Arr 96 Int) × Int) ⊕ (((Arr 96 Int) × Int) ⊕ (Arr 96 Int))) := (if (!q_9) = true then spec_l07Fit.k_13 i_4 a_3 true else (ix t1 i_4).bind fun x_14 => (ix list2 i_4).bind fun x_15 => (spec_l07Put f0 a_3 x_14 x_15).bind fun t_16 => spec_l07Fit.k_13 i_4 t_16.2 (!t_16.1))
noncomputable def spec_l07Fit.l_19 (list2 : List GChoice) (i_4 : Int) (t_8 : (List GChoice)) : (Bool × Int) → Option ((Bool × Int) ⊕ (Bool))
  | (q_17, i_18) => (if (decide (i_18 < (t_8.length : Int))) = true then (if q_17 = true then some (.inl (true, (w64 (i_18 + 1)))) else (ix t_8 i_18).bind fun x_21 => (ix list2 i_4).bind fun x_22 => some (.inl (((x_21.fAway == x_22.fAway) && ((x_21.fLate == x_22.fLate) && ((x_21.fOctave == x_22.fOctave) && (x_21.fTrack == x_22.fTrack)))), (w64 (i_18 + 1))))) else some (.inr q_17))
noncomputable def spec_l07Fit.l_5 (f0 : GFrame) (t1 : List GNote) (list2 : List GChoice) : ((Arr 96 Int) × Int) → Option (((Arr 96 Int) × Int) ⊕ (((Arr 96 Int) × Int) ⊕ (Arr 96 Int)))
  | (a_3, i_4) => (if (decide (i_4 < (t1.length : Int))) = true then (ix t1 i_4).bind fun x_7 => (spec_l07For f0 x_7).bind fun t_8 => (loop (spec_l07Fit.l_19 list2 i_4 t_8) (false, 0)).bind fun t_20 => spec_l07Fit.k_10 f0 t1 list2 a_3 i_4 t_20 else some (.inr (.inr a_3)))
noncomputable def spec_l07Fit (f0 : GFrame) (t1 : List GNote) (list2 : List GChoice) : Option ((Arr 96 Int) × Int) := (loop (spec_l07Fit.l_5 f0 t1 list2) ((Arr.rep 96 0), 0)).bind fun t_6 => match t_6 with | .inl p => some p | .inr p => spec_l07Fit.k_2 p
set_option maxRecDepth 100000 in
theorem spec_l07Fit.calls (f0 : GFrame) (t1 : List GNote) (list2 : List GChoice) (w : World) (r : (Arr 96 Int) × Int) (f0_fHammers_a : Option Addr) (f0_fHammers_an : Nat) (f0_fHammers_c : Nat) (f0_fHammers_h : Rw w f0_fHammers_a 2 encGHammer f0.fHammers) (f0_fHammers_hn : f0.fHammers.length = f0_fHammers_an) (t1_a : Option Addr) (t1_an : Nat) (t1_c : Nat) (t1_h : Rw w t1_a 2 encGNote t1) (t1_hn : t1.length = t1_an) (list2_a : Option Addr) (list2_an : Nat) (list2_c : Nat) (list2_h : Rw w list2_a 4 encGChoice list2) (list2_hn : list2.length = list2_an) (f0_b : Nat) (hm0 : Mem w (bs [some f0_b]) [⟨some f0_b, 42, [(.int .i16 f0.fSteps), (.slice f0_fHammers_a f0_fHammers_an f0_fHammers_c)]⟩] w) (f0_fHammers_ha : f0.fHammers ≠ [] → aB f0_fHammers_a ∉ bs [some f0_b]) (t1_ha : t1 ≠ [] → aB t1_a ∉ bs [some f0_b]) (list2_ha : list2 ≠ [] → aB list2_a ∉ bs [some f0_b]) (h : spec_l07Fit f0 t1 list2 = some r) :
    Calls Tryz.prog 88 #[(.pointer (some ⟨f0_b, 0, none⟩)), (.slice t1_a t1_an t1_c), (.slice list2_a list2_an list2_c)] w fun e w' => ∃ v, e = .returned v ∧ (v = .tuple #[(.agg (row encU32 r.1.1 []).toArray), (.int .i64 r.2)] ∧ Mem w (bs [some f0_b]) [⟨some f0_b, 42, [(.int .i16 f0.fSteps), (.slice f0_fHammers_a f0_fHammers_an f0_fHammers_c)]⟩] w') := by
  subst f0_fHammers_hn t1_hn list2_hn
  rw [spec_l07Fit] at h
  refine enter (args := [(.pointer (some ⟨f0_b, 0, none⟩)), (.slice t1_a t1.length t1_c), (.slice list2_a list2.length list2_c)]) Tryz.func88 rfl Tryz.ntmps88 (by kernel_rfl) (L := [⟨some f0_b, 42, [(.int .i16 f0.fSteps), (.slice f0_fHammers_a f0.fHammers.length f0_fHammers_c)]⟩]) (W := bs [some f0_b]) hm0 ?_
  refine jc_seq ?_
  refine jc_region ?_
  refine toO (by kernel_rfl) (p_a 0 [0] (by kernel_rfl) (fun b => by kernel_rfl) (fun b_1 => jkO ?_))
  refine jo_f [(0, 0)] (by kernel_rfl) ?_
  refine jo_end (by kernel_rfl) ?_
  refine jx_then ?_
  refine jc_seq ?_
  refine jc_region ?_
  refine jo_f [(0, 0)] (by kernel_rfl) ?_
  refine toO (by kernel_rfl) (p_a 0 [0] (by kernel_rfl) (fun b => by kernel_rfl) (fun b_2 => jkO ?_))
  refine toO (by kernel_rfl) (p_sA 0 2 b_2 96 1 89 encU32 (Arr.rep 96 0) (Arr.rep 96 0) (by kernel_rfl) (by kernel_rfl) (by kernel_rfl) encU32_len encU32_cell (by kernel_rfl) (jkO ?_))
  refine jo_end (by kernel_rfl) ?_
  refine jx_then ?_
  refine jc_seq ?_
  refine jc_seq ?_
  refine jc_region ?_
  refine jo_f [(0, 0)] (by kernel_rfl) ?_
  refine jo_end (by kernel_rfl) ?_
  refine jx_then ?_
  refine jc_meet (fun (j : (Arr 96 Int)) => match j with | a_1 => spec_l07Fit.k_2 a_1 = some r) (fun (j : (Arr 96 Int)) => match j with | a_1 => [(6, [], (.pointer (some ⟨b_1, 0, none⟩))), (7, [], (.int .i64 0)), (8, [], (.pointer (some ⟨b_2, 0, none⟩)))]) (fun (j : (Arr 96 Int)) => match j with | a_1 => [⟨some f0_b, 42, [(.int .i16 f0.fSteps), (.slice f0_fHammers_a f0.fHammers.length f0_fHammers_c)]⟩, ⟨(some b_1), 89, row encU32 ((Arr.rep 96 0).1) []⟩, ⟨(some b_2), 89, row encU32 a_1.1 []⟩]) ?_ ?_
  · refine jc_block ?_
    obtain ⟨t_6, ht_1174, hr_1074⟩ := bd h
    refine jc_loop (fun (s : (Arr 96 Int) × Int) (x : Unit) => match s, x with | ⟨a_3, i_4⟩, _ => True) (fun (s : (Arr 96 Int) × Int) (x : Unit) => match s, x with | ⟨a_3, i_4⟩, _ => [(0, [], (.pointer (some ⟨f0_b, 0, none⟩))), (1, [], (.slice t1_a t1.length t1_c)), (2, [], (.slice list2_a list2.length list2_c)), (6, [], (.pointer (some ⟨b_1, 0, none⟩))), (7, [], (.int .i64 0)), (8, [], (.pointer (some ⟨b_2, 0, none⟩))), (9, [], (.int .i64 i_4))]) (fun (s : (Arr 96 Int) × Int) (x : Unit) => match s, x with | ⟨a_3, i_4⟩, _ => [⟨some f0_b, 42, [(.int .i16 f0.fSteps), (.slice f0_fHammers_a f0.fHammers.length f0_fHammers_c)]⟩, ⟨(some b_1), 89, row encU32 ((Arr.rep 96 0).1) []⟩, ⟨(some b_2), 89, row encU32 a_3.1 []⟩]) ht_1174 () trivial (by kernel_rfl) [0, 1, 2] (by kernel_rfl) (by kernel_rfl) ?_
    rintro ⟨a_3, i_4⟩ _ y_1075 _ h
    rw [spec_l07Fit.l_5] at h
    refine jc_seq ?_
    refine jc_seq ?_
    refine jc_region ?_
    refine jo_f [(0, 0), (0, 0), (0, 0), (0, 0)] (by kernel_rfl) ?_
    refine jo_end (by kernel_rfl) ?_
    refine jx_then ?_
    refine jc_cond (decide (i_4 < (t1.length : Int))) (by kernel_rfl) (fun hc_1077 => ?_) (fun hc_1077 => ?_)
    · replace h := ifT hc_1077 h
      refine jc_skip ?_
      refine jx_then ?_
      refine jc_seq ?_
      refine jc_block ?_
      refine jc_seq ?_
      refine jc_region ?_
      refine jo_f [(0, 0), (0, 0), (0, 0)] (by kernel_rfl) ?_
      obtain ⟨x_7, hx_1078, h⟩ := bd h
      refine toO (by kernel_rfl) (p_idx 0 t1_a t1.length i_4 2 (by kernel_rfl) (by kernel_rfl) (ix_some hx_1078).1 (ltn hx_1078 rfl) (t1_h.sp hx_1078) (jkO ?_))
      refine toO (by kernel_rfl) (p_ld 0 (aB t1_a) (aO t1_a + i_4.toNat * 2) true (encGNote x_7) (by kernel_rfl) (by kernel_rfl) (by kernel_rfl) (fun w hm => ((hm.exRowW t1_h t1_ha).at hx_1078)) (jkO ?_))
      obtain ⟨t_8, ht_1079, h⟩ := bd h
      refine toO (by kernel_rfl) (p_call 0 116 #[(.pointer (some ⟨f0_b, 0, none⟩)), (.agg #[(.int .i16 x_7.fAt), (.int .i8 x_7.fPitch)])] (by kernel_rfl) (by kernel_rfl) (fun w hm => spec_l07For.calls f0 x_7 w _ f0_fHammers_a f0.fHammers.length f0_fHammers_c (hm.exRowW f0_fHammers_h f0_fHammers_ha) rfl f0_b (hm.pass (N := [⟨some f0_b, 42, [(.int .i16 f0.fSteps), (.slice f0_fHammers_a f0.fHammers.length f0_fHammers_c)]⟩]) [0] (by kernel_rfl) (by kernel_rfl)) (hm.exApart (N := [⟨some f0_b, 42, [(.int .i16 f0.fSteps), (.slice f0_fHammers_a f0.fHammers.length f0_fHammers_c)]⟩]) f0_fHammers_h f0_fHammers_ha [0] (by kernel_rfl)) ht_1079) ?_)
      rintro w v w' hm ⟨o_1080, cap_1081, sp_1082, _, rfl, hs_1083, ho_1084, rfl, hm'⟩
      refine ⟨_, hm.appW (ps := [(0, ⟨some f0_b, 42, [(.int .i16 f0.fSteps), (.slice f0_fHammers_a f0.fHammers.length f0_fHammers_c)]⟩)]) (N := [⟨o_1080, 99, row encGChoice t_8 sp_1082⟩]) hm' (by kernel_rfl) (by kernel_rfl), jkO ?_⟩
      clear hm hm'
      refine jo_f [(0, 0)] (by kernel_rfl) ?_
      refine jo_end (by kernel_rfl) ?_
      refine jx_then ?_
      refine jc_seq ?_
      refine jc_region ?_
      refine jo_f [(0, 0)] (by kernel_rfl) ?_
      refine jo_end (by kernel_rfl) ?_
      refine jx_then ?_
      refine jc_seq ?_
      refine jc_seq ?_
      refine jc_region ?_
      refine jo_f [(0, 0)] (by kernel_rfl) ?_
      refine jo_end (by kernel_rfl) ?_
      refine jx_then ?_
      refine jc_meet (fun (j : Bool) => match j with | q_9 => spec_l07Fit.k_10 f0 t1 list2 a_3 i_4 q_9 = some y_1075) (fun (j : Bool) => match j with | q_9 => [(0, [], (.pointer (some ⟨f0_b, 0, none⟩))), (1, [], (.slice t1_a t1.length t1_c)), (2, [], (.slice list2_a list2.length list2_c)), (6, [], (.pointer (some ⟨b_1, 0, none⟩))), (7, [], (.int .i64 0)), (8, [], (.pointer (some ⟨b_2, 0, none⟩))), (9, [], (.int .i64 i_4)), (11, [], (.bool q_9))]) (fun (j : Bool) => match j with | q_9 => [⟨some f0_b, 42, [(.int .i16 f0.fSteps), (.slice f0_fHammers_a f0.fHammers.length f0_fHammers_c)]⟩, ⟨(some b_1), 89, row encU32 ((Arr.rep 96 0).1) []⟩, ⟨(some b_2), 89, row encU32 a_3.1 []⟩, ⟨o_1080, 99, row encGChoice t_8 sp_1082⟩]) ?_ ?_
      · refine jc_block ?_
        obtain ⟨t_20, ht_1172, hr_1164⟩ := bd h
        refine jc_loop (fun (s : Bool × Int) (x : Unit) => match s, x with | ⟨q_17, i_18⟩, _ => True) (fun (s : Bool × Int) (x : Unit) => match s, x with | ⟨q_17, i_18⟩, _ => [(0, [], (.pointer (some ⟨f0_b, 0, none⟩))), (1, [], (.slice t1_a t1.length t1_c)), (2, [], (.slice list2_a list2.length list2_c)), (6, [], (.pointer (some ⟨b_1, 0, none⟩))), (7, [], (.int .i64 0)), (8, [], (.pointer (some ⟨b_2, 0, none⟩))), (9, [], (.int .i64 i_4)), (10, [], (.slice (o_1080.map fun b => ⟨b, 0, none⟩) t_8.length cap_1081)), (11, [], (.bool q_17)), (12, [], (.int .i64 i_18))]) (fun (s : Bool × Int) (x : Unit) => match s, x with | ⟨q_17, i_18⟩, _ => [⟨some f0_b, 42, [(.int .i16 f0.fSteps), (.slice f0_fHammers_a f0.fHammers.length f0_fHammers_c)]⟩, ⟨(some b_1), 89, row encU32 ((Arr.rep 96 0).1) []⟩, ⟨(some b_2), 89, row encU32 a_3.1 []⟩, ⟨o_1080, 99, row encGChoice t_8 sp_1082⟩]) ht_1172 () trivial (by kernel_rfl) [0, 1, 2, 3] (by kernel_rfl) (by kernel_rfl) ?_
        rintro ⟨q_17, i_18⟩ _ y_1165 _ h
        rw [spec_l07Fit.l_19] at h
        refine jc_seq ?_
        refine jc_seq ?_
        refine jc_region ?_
        refine jo_f [(0, 0), (0, 0), (0, 0), (0, 0)] (by kernel_rfl) ?_
        refine jo_end (by kernel_rfl) ?_
        refine jx_then ?_
        refine jc_cond (decide (i_18 < (t_8.length : Int))) (by kernel_rfl) (fun hc_1167 => ?_) (fun hc_1167 => ?_)
        · replace h := ifT hc_1167 h
          refine jc_skip ?_
          refine jx_then ?_
          refine jc_seq ?_
          refine jc_block ?_
          refine jc_draw [⟨some f0_b, 42, [(.int .i16 f0.fSteps), (.slice f0_fHammers_a f0.fHammers.length f0_fHammers_c)]⟩, ⟨(some b_1), 89, row encU32 ((Arr.rep 96 0).1) []⟩, ⟨(some b_2), 89, row encU32 a_3.1 []⟩, ⟨o_1080, 99, row encGChoice t_8 sp_1082⟩] 13 (by kernel_rfl) (by kernel_rfl) ?_
          refine jd_f [⟨0, 0, 0⟩, ⟨1, 0, 0⟩, ⟨2, 0, 1⟩, ⟨3, 0, 1⟩, ⟨6, 0, 1⟩, ⟨7, 0, 1⟩] 7 (by kernel_rfl) (by kernel_rfl) (fun w h => h.pick [0, 1, 2, 3] (by kernel_rfl) (by kernel_rfl)) (by kernel_rfl) (by kernel_rfl) ?_
          refine jd_split 33 q_17 (by kernel_rfl) (fun hc_1168 => ?_) (fun hc_1168 => ?_)
          · replace h := ifT hc_1168 h
            refine jd_f [⟨4, 0, 3⟩, ⟨5, 0, 3⟩, ⟨8, 0, 3⟩, ⟨9, 0, 3⟩, ⟨10, 0, 3⟩, ⟨11, 0, 4⟩, ⟨12, 0, 0⟩] 0 (by kernel_rfl) (by kernel_rfl) (fun w h => h.pick [0, 1, 2, 3] (by kernel_rfl) (by kernel_rfl)) (by kernel_rfl) (by kernel_rfl) ?_
            refine jd_end (by kernel_rfl) ?_
            refine jx_inn ?_
            refine jx_then ?_
            refine jc_region ?_
            refine jo_f [(0, 0), (0, 0), (0, 0)] (by kernel_rfl) ?_
            refine jo_end (by kernel_rfl) ?_
            exact jx_back (true, (w64 (i_18 + 1))) () (Option.some.inj h).symm trivial [0, 1, 2, 3] (by kernel_rfl) (by kernel_rfl) (by kernel_rfl)
          · replace h := ifF hc_1168 h
            obtain ⟨x_21, hx_1169, h⟩ := bd h
            refine jd_v 4 2 (by kernel_rfl) (fun w h => h.pick [0, 1, 2, 3] (by kernel_rfl) (by kernel_rfl)) (by kernel_rfl) (by kernel_rfl) _ (fun w hm => idx_run (a := (o_1080.map fun b => ⟨b, 0, none⟩)) (len := t_8.length) (s := 4) (j := i_18) (by kernel_rfl) (ix_some hx_1169).1 (ltn hx_1169 rfl) (spo ho_1084 hx_1169)) ?_
            refine jd_v 5 2 (by kernel_rfl) (fun w h => h.pick [0, 1, 2, 3] (by kernel_rfl) (by kernel_rfl)) (by kernel_rfl) (by kernel_rfl) _ (fun w hm => ld_run (b := aB (o_1080.map fun b => ⟨b, 0, none⟩)) (off := (aO (o_1080.map fun b => ⟨b, 0, none⟩) + i_18.toNat * 4)) (s := 4) (agg := true) (vs := (encGChoice x_21)) (by kernel_rfl) (by kernel_rfl) (.inl rfl) ((hm.ownRow (hh := 3) (o := o_1080) (T := 99) (enc := encGChoice) (xs := t_8) (sp := sp_1082) (by kernel_rfl) (fun e => (ho_1084 e).1) encGChoice_len).at hx_1169)) ?_
            obtain ⟨x_22, hx_1170, h⟩ := bd h
            refine jd_v 8 2 (by kernel_rfl) (fun w h => h.pick [0, 1, 2, 3] (by kernel_rfl) (by kernel_rfl)) (by kernel_rfl) (by kernel_rfl) _ (fun w hm => idx_run (a := list2_a) (len := list2.length) (s := 4) (j := i_4) (by kernel_rfl) (ix_some hx_1170).1 (ltn hx_1170 rfl) (list2_h.sp hx_1170)) ?_
            refine jd_v 9 2 (by kernel_rfl) (fun w h => h.pick [0, 1, 2, 3] (by kernel_rfl) (by kernel_rfl)) (by kernel_rfl) (by kernel_rfl) _ (fun w hm => ld_run (b := aB list2_a) (off := (aO list2_a + i_4.toNat * 4)) (s := 4) (agg := true) (vs := (encGChoice x_22)) (by kernel_rfl) (by kernel_rfl) (.inl rfl) ((hm.exRowW list2_h list2_ha).at hx_1170)) ?_
            refine jd_f [⟨10, 0, 2⟩, ⟨11, 0, 5⟩, ⟨12, 0, 0⟩] 0 (by kernel_rfl) (by kernel_rfl) (fun w h => h.pick [0, 1, 2, 3] (by kernel_rfl) (by kernel_rfl)) (by kernel_rfl) (by kernel_rfl) ?_
            refine jd_end (by kernel_rfl) ?_
            refine jx_inn ?_
            refine jx_then ?_
            refine jc_region ?_
            refine jo_f [(0, 0), (0, 0), (0, 0)] (by kernel_rfl) ?_
            refine jo_end (by kernel_rfl) ?_
            exact jx_back (((x_21.fAway == x_22.fAway) && ((x_21.fLate == x_22.fLate) && ((x_21.fOctave == x_22.fOctave) && (x_21.fTrack == x_22.fTrack)))), (w64 (i_18 + 1))) () (Option.some.inj h).symm trivial [0, 1, 2, 3] (by kernel_rfl) (by kernel_rfl) (by kernel_rfl)
        · replace h := ifF hc_1167 h
          refine jc_exit ?_
          refine jx_thenx ?_
          refine jx_leave q_17 (Option.some.inj h).symm (fun e_1171 => ?_)
          subst e_1171
          refine jx_ine ?_
          exact jx_meet q_17 hr_1164 (by kernel_rfl) [0, 1, 2, 3] (by kernel_rfl) (by kernel_rfl)
      · rintro q_9 h
        replace h : spec_l07Fit.k_10 f0 t1 list2 a_3 i_4 q_9 = some y_1075 := h
        rw [spec_l07Fit.k_10] at h
        refine jx_then ?_
        refine jc_seq ?_
        refine jc_meet (fun (j : (Arr 96 Int) × Bool) => match j with | ⟨a_11, q_12⟩ => spec_l07Fit.k_13 i_4 a_11 q_12 = some y_1075) (fun (j : (Arr 96 Int) × Bool) => match j with | ⟨a_11, q_12⟩ => [(0, [], (.pointer (some ⟨f0_b, 0, none⟩))), (1, [], (.slice t1_a t1.length t1_c)), (2, [], (.slice list2_a list2.length list2_c)), (6, [], (.pointer (some ⟨b_1, 0, none⟩))), (7, [], (.int .i64 0)), (8, [], (.pointer (some ⟨b_2, 0, none⟩))), (9, [], (.int .i64 i_4)), (58, [], (.bool q_12))]) (fun (j : (Arr 96 Int) × Bool) => match j with | ⟨a_11, q_12⟩ => [⟨some f0_b, 42, [(.int .i16 f0.fSteps), (.slice f0_fHammers_a f0.fHammers.length f0_fHammers_c)]⟩, ⟨(some b_1), 89, row encU32 ((Arr.rep 96 0).1) []⟩, ⟨(some b_2), 89, row encU32 a_11.1 []⟩, ⟨o_1080, 99, row encGChoice t_8 sp_1082⟩]) ?_ ?_
        · refine jc_draw [⟨some f0_b, 42, [(.int .i16 f0.fSteps), (.slice f0_fHammers_a f0.fHammers.length f0_fHammers_c)]⟩, ⟨(some b_1), 89, row encU32 ((Arr.rep 96 0).1) []⟩, ⟨o_1080, 99, row encGChoice t_8 sp_1082⟩] 15 (by kernel_rfl) (by kernel_rfl) ?_
          refine jd_f [⟨0, 0, 0⟩, ⟨1, 0, 0⟩, ⟨2, 0, 0⟩, ⟨3, 0, 1⟩, ⟨4, 0, 1⟩, ⟨5, 0, 1⟩, ⟨8, 0, 1⟩, ⟨9, 0, 1⟩] 7 (by kernel_rfl) (by kernel_rfl) (fun w h => h.pick [0, 1, 3] (by kernel_rfl) (by kernel_rfl)) (by kernel_rfl) (by kernel_rfl) ?_
          refine jd_split 46 (!q_9) (by kernel_rfl) (fun hc_1151 => ?_) (fun hc_1151 => ?_)
          · replace h := ifT hc_1151 h
            refine jd_f [⟨6, 0, 3⟩, ⟨7, 0, 3⟩, ⟨10, 0, 3⟩, ⟨11, 0, 3⟩, ⟨12, 0, 3⟩, ⟨13, 0, 3⟩, ⟨14, 0, 4⟩] 0 (by kernel_rfl) (by kernel_rfl) (fun w h => h.pick [0, 1, 3] (by kernel_rfl) (by kernel_rfl)) (by kernel_rfl) (by kernel_rfl) ?_
            refine jd_end (by kernel_rfl) ?_
            exact jx_meet ⟨a_3, true⟩ h (by kernel_rfl) [0, 1, 2, 3] (by kernel_rfl) (by kernel_rfl)
          · replace h := ifF hc_1151 h
            obtain ⟨x_14, hx_1152, h⟩ := bd h
            refine jd_v 6 2 (by kernel_rfl) (fun w h => h.pick [0, 1, 3] (by kernel_rfl) (by kernel_rfl)) (by kernel_rfl) (by kernel_rfl) _ (fun w hm => idx_run (a := t1_a) (len := t1.length) (s := 2) (j := i_4) (by kernel_rfl) (ix_some hx_1152).1 (ltn hx_1152 rfl) (t1_h.sp hx_1152)) ?_
            refine jd_v 7 2 (by kernel_rfl) (fun w h => h.pick [0, 1, 3] (by kernel_rfl) (by kernel_rfl)) (by kernel_rfl) (by kernel_rfl) _ (fun w hm => ld_run (b := aB t1_a) (off := (aO t1_a + i_4.toNat * 2)) (s := 2) (agg := true) (vs := (encGNote x_14)) (by kernel_rfl) (by kernel_rfl) (.inl rfl) ((hm.exRowW t1_h t1_ha).at hx_1152)) ?_
            obtain ⟨x_15, hx_1153, h⟩ := bd h
            refine jd_v 10 2 (by kernel_rfl) (fun w h => h.pick [0, 1, 3] (by kernel_rfl) (by kernel_rfl)) (by kernel_rfl) (by kernel_rfl) _ (fun w hm => idx_run (a := list2_a) (len := list2.length) (s := 4) (j := i_4) (by kernel_rfl) (ix_some hx_1153).1 (ltn hx_1153 rfl) (list2_h.sp hx_1153)) ?_
            refine jd_v 11 2 (by kernel_rfl) (fun w h => h.pick [0, 1, 3] (by kernel_rfl) (by kernel_rfl)) (by kernel_rfl) (by kernel_rfl) _ (fun w hm => ld_run (b := aB list2_a) (off := (aO list2_a + i_4.toNat * 4)) (s := 4) (agg := true) (vs := (encGChoice x_15)) (by kernel_rfl) (by kernel_rfl) (.inl rfl) ((hm.exRowW list2_h list2_ha).at hx_1153)) ?_
            obtain ⟨t_16, ht_1154, h⟩ := bd h
            refine toD 12 (by kernel_rfl) (p_call 2 117 #[(.pointer (some ⟨f0_b, 0, none⟩)), (.pointer (some ⟨b_2, 0, none⟩)), (.agg #[(.int .i16 x_14.fAt), (.int .i8 x_14.fPitch)]), (.agg #[(.bool x_15.fAway), (.int .i8 x_15.fLate), (.int .i8 x_15.fOctave), (.int .i8 x_15.fTrack)])] (by kernel_rfl) (by kernel_rfl) (fun w hm => spec_l07Put.calls f0 a_3 x_14 x_15 w _ f0_fHammers_a f0.fHammers.length f0_fHammers_c (hm.exRowW f0_fHammers_h f0_fHammers_ha) rfl f0_b b_2 (hm.pass (N := [⟨some f0_b, 42, [(.int .i16 f0.fSteps), (.slice f0_fHammers_a f0.fHammers.length f0_fHammers_c)]⟩, ⟨(some b_2), 89, row encU32 a_3.1 []⟩]) [0, 2] (by kernel_rfl) (by kernel_rfl)) (hm.exApart (N := [⟨some f0_b, 42, [(.int .i16 f0.fSteps), (.slice f0_fHammers_a f0.fHammers.length f0_fHammers_c)]⟩, ⟨(some b_2), 89, row encU32 a_3.1 []⟩]) f0_fHammers_h f0_fHammers_ha [0, 2] (by kernel_rfl)) ht_1154) ?_)
            rintro w v w' hm ⟨rfl, hm'⟩
            refine ⟨_, hm.appW (ps := [(0, ⟨some f0_b, 42, [(.int .i16 f0.fSteps), (.slice f0_fHammers_a f0.fHammers.length f0_fHammers_c)]⟩), (2, ⟨(some b_2), 89, row encU32 t_16.2.1 []⟩)]) (N := []) hm' (by kernel_rfl) (by kernel_rfl), jkD (fun w h => h.pick [0, 1, 3] (by kernel_rfl) (by kernel_rfl)) ?_⟩
            clear hm hm'
            refine jd_f [⟨13, 0, 2⟩, ⟨14, 0, 5⟩] 0 (by kernel_rfl) (by kernel_rfl) (fun w h => h.pick [0, 1, 3] (by kernel_rfl) (by kernel_rfl)) (by kernel_rfl) (by kernel_rfl) ?_
            refine jd_end (by kernel_rfl) ?_
            exact jx_meet ⟨t_16.2, (!t_16.1)⟩ h (by kernel_rfl) [0, 1, 2, 3] (by kernel_rfl) (by kernel_rfl)
        · rintro ⟨a_11, q_12⟩ h
          replace h : spec_l07Fit.k_13 i_4 a_11 q_12 = some y_1075 := h
          rw [spec_l07Fit.k_13] at h
          refine jx_then ?_
          refine jc_cond q_12 (by kernel_rfl) (fun hc_1146 => ?_) (fun hc_1146 => ?_)
          · replace h := ifT hc_1146 h
            refine jc_seq ?_
            refine jc_region ?_
            refine jo_f [(0, 0), (0, 0)] (by kernel_rfl) ?_
            refine toO (by kernel_rfl) (p_sA 0 1 b_1 96 1 89 encU32 (Arr.rep 96 0) (Arr.rep 96 0) (by kernel_rfl) (by kernel_rfl) (by kernel_rfl) encU32_len encU32_cell (by kernel_rfl) (jkO ?_))
            refine jo_f [(0, 0)] (by kernel_rfl) ?_
            refine jo_end (by kernel_rfl) ?_
            refine jx_then ?_
            refine jc_ret ?_
            refine jx_inr ?_
            refine jx_thenr ?_
            refine jx_leaver (.inl ((Arr.rep 96 0), i_4)) (Option.some.inj h).symm (fun e_1147 => ?_)
            subst e_1147
            refine jx_inr ?_
            refine jx_thenr ?_
            refine jx_thenr ?_
            obtain rfl := Option.some.inj hr_1074
            exact jx_retV rfl (rq_arr (b := b_1) (T' := 89) (hh := 1) (mm := 1) encU32 (Arr.rep 96 0) (by kernel_rfl) (by kernel_rfl) encU32_len (by kernel_rfl) (rq_tmp (by kernel_rfl) rq_nil)) (fun w hm => ⟨rfl, hm.pick [0] (by kernel_rfl) (by kernel_rfl)⟩)
          · replace h := ifF hc_1146 h
            refine jc_skip ?_
            refine jx_inn ?_
            refine jx_then ?_
            refine jc_region ?_
            refine jo_f [(0, 0), (0, 0), (0, 0)] (by kernel_rfl) ?_
            refine jo_end (by kernel_rfl) ?_
            exact jx_back (a_11, (w64 (i_4 + 1))) () (Option.some.inj h).symm trivial [0, 1, 2] (by kernel_rfl) (by kernel_rfl) (by kernel_rfl)
    · replace h := ifF hc_1077 h
      refine jc_exit ?_
      refine jx_thenx ?_
      refine jx_leave (.inr a_3) (Option.some.inj h).symm (fun e_1173 => ?_)
      subst e_1173
      refine jx_ine ?_
      exact jx_meet a_3 hr_1074 (by kernel_rfl) [0, 1, 2] (by kernel_rfl) (by kernel_rfl)
  · rintro a_1 h
    replace h : spec_l07Fit.k_2 a_1 = some r := h
    rw [spec_l07Fit.k_2] at h
    refine jx_then ?_
    refine jc_seq ?_
    refine jc_region ?_
    refine toO (by kernel_rfl) (p_ldA 0 2 b_2 96 1 89 encU32 a_1 (by kernel_rfl) (by kernel_rfl) (by kernel_rfl) encU32_len (by kernel_rfl) (jkO ?_))
    refine toO (by kernel_rfl) (p_sA 0 1 b_1 96 1 89 encU32 (Arr.rep 96 0) a_1 (by kernel_rfl) (by kernel_rfl) (by kernel_rfl) encU32_len encU32_cell (by kernel_rfl) (jkO ?_))
    refine jo_f [(0, 0)] (by kernel_rfl) ?_
    refine jo_end (by kernel_rfl) ?_
    refine jx_then ?_
    refine jc_ret ?_
    obtain rfl := Option.some.inj h
    exact jx_retV rfl (rq_arr (b := b_1) (T' := 89) (hh := 1) (mm := 1) encU32 a_1 (by kernel_rfl) (by kernel_rfl) encU32_len (by kernel_rfl) (rq_tmp (by kernel_rfl) rq_nil)) (fun w hm => ⟨rfl, hm.pick [0] (by kernel_rfl) (by kernel_rfl)⟩)

/-! ### spec.l07Drum -/
noncomputable def spec_l07Drum (f0 : GFrame) (t1 : List GNote) (list2 : List GChoice) : Option ((Arr 96 Int) × Int) := (spec_l07Asked f0 t1 list2).bind fun t_1 => (if (t_1 != 0) = true then some ((Arr.rep 96 0), t_1) else (spec_l07Fit f0 t1 list2).bind fun t_2 => (if (decide (t_2.2 ≥ 0)) = true then some ((Arr.rep 96 0), 4) else some (t_2.1, 0)))
set_option maxRecDepth 100000 in
theorem spec_l07Drum.calls (f0 : GFrame) (t1 : List GNote) (list2 : List GChoice) (w : World) (r : (Arr 96 Int) × Int) (f0_fHammers_a : Option Addr) (f0_fHammers_an : Nat) (f0_fHammers_c : Nat) (f0_fHammers_h : Rw w f0_fHammers_a 2 encGHammer f0.fHammers) (f0_fHammers_hn : f0.fHammers.length = f0_fHammers_an) (t1_a : Option Addr) (t1_an : Nat) (t1_c : Nat) (t1_h : Rw w t1_a 2 encGNote t1) (t1_hn : t1.length = t1_an) (list2_a : Option Addr) (list2_an : Nat) (list2_c : Nat) (list2_h : Rw w list2_a 4 encGChoice list2) (list2_hn : list2.length = list2_an) (f0_b : Nat) (hm0 : Mem w (bs [some f0_b]) [⟨some f0_b, 42, [(.int .i16 f0.fSteps), (.slice f0_fHammers_a f0_fHammers_an f0_fHammers_c)]⟩] w) (f0_fHammers_ha : f0.fHammers ≠ [] → aB f0_fHammers_a ∉ bs [some f0_b]) (t1_ha : t1 ≠ [] → aB t1_a ∉ bs [some f0_b]) (list2_ha : list2 ≠ [] → aB list2_a ∉ bs [some f0_b]) (h : spec_l07Drum f0 t1 list2 = some r) :
    Calls Tryz.prog 53 #[(.pointer (some ⟨f0_b, 0, none⟩)), (.slice t1_a t1_an t1_c), (.slice list2_a list2_an list2_c)] w fun e w' => ∃ v, e = .returned v ∧ (v = .tuple #[(.agg (row encU32 r.1.1 []).toArray), (.int .i64 r.2)] ∧ Mem w (bs [some f0_b]) [⟨some f0_b, 42, [(.int .i16 f0.fSteps), (.slice f0_fHammers_a f0_fHammers_an f0_fHammers_c)]⟩] w') := by
  subst f0_fHammers_hn t1_hn list2_hn
  rw [spec_l07Drum] at h
  refine enter (args := [(.pointer (some ⟨f0_b, 0, none⟩)), (.slice t1_a t1.length t1_c), (.slice list2_a list2.length list2_c)]) Tryz.func53 rfl Tryz.ntmps53 (by kernel_rfl) (L := [⟨some f0_b, 42, [(.int .i16 f0.fSteps), (.slice f0_fHammers_a f0.fHammers.length f0_fHammers_c)]⟩]) (W := bs [some f0_b]) hm0 ?_
  refine jc_seq ?_
  refine jc_region ?_
  refine toO (by kernel_rfl) (p_a 0 [0] (by kernel_rfl) (fun b => by kernel_rfl) (fun b_1 => jkO ?_))
  refine jo_f [(0, 0)] (by kernel_rfl) ?_
  refine jo_end (by kernel_rfl) ?_
  refine jx_then ?_
  refine jc_seq ?_
  refine jc_seq ?_
  refine jc_region ?_
  refine jo_f [(0, 0), (0, 0), (0, 0)] (by kernel_rfl) ?_
  obtain ⟨t_1, ht_4, h⟩ := bd h
  refine toO (by kernel_rfl) (p_call 0 87 #[(.pointer (some ⟨f0_b, 0, none⟩)), (.slice t1_a t1.length t1_c), (.slice list2_a list2.length list2_c)] (by kernel_rfl) (by kernel_rfl) (fun w hm => spec_l07Asked.calls f0 t1 list2 w _ f0_fHammers_a f0.fHammers.length f0_fHammers_c (hm.exRowW f0_fHammers_h f0_fHammers_ha) rfl t1_a t1.length t1_c (hm.exRowW t1_h t1_ha) rfl list2_a list2.length list2_c (hm.exRowW list2_h list2_ha) rfl f0_b (hm.pass (N := [⟨some f0_b, 42, [(.int .i16 f0.fSteps), (.slice f0_fHammers_a f0.fHammers.length f0_fHammers_c)]⟩]) [0] (by kernel_rfl) (by kernel_rfl)) (hm.exApart (N := [⟨some f0_b, 42, [(.int .i16 f0.fSteps), (.slice f0_fHammers_a f0.fHammers.length f0_fHammers_c)]⟩]) f0_fHammers_h f0_fHammers_ha [0] (by kernel_rfl)) (hm.exApart (N := [⟨some f0_b, 42, [(.int .i16 f0.fSteps), (.slice f0_fHammers_a f0.fHammers.length f0_fHammers_c)]⟩]) t1_h t1_ha [0] (by kernel_rfl)) (hm.exApart (N := [⟨some f0_b, 42, [(.int .i16 f0.fSteps), (.slice f0_fHammers_a f0.fHammers.length f0_fHammers_c)]⟩]) list2_h list2_ha [0] (by kernel_rfl)) ht_4) ?_)
  rintro w v w' hm ⟨rfl, hm'⟩
  refine ⟨_, hm.appW (ps := [(0, ⟨some f0_b, 42, [(.int .i16 f0.fSteps), (.slice f0_fHammers_a f0.fHammers.length f0_fHammers_c)]⟩)]) (N := []) hm' (by kernel_rfl) (by kernel_rfl), jkO ?_⟩
  clear hm hm'
  refine jo_f [(0, 0)] (by kernel_rfl) ?_
  refine jo_end (by kernel_rfl) ?_
  refine jx_then ?_
  refine jc_seq ?_
  refine jc_region ?_
  refine jo_f [(0, 0), (0, 0)] (by kernel_rfl) ?_
  refine jo_end (by kernel_rfl) ?_
  refine jx_then ?_
  refine jc_cond (t_1 != 0) (by kernel_rfl) (fun hc_5 => ?_) (fun hc_5 => ?_)
  · replace h := ifT hc_5 h
    refine jc_seq ?_
    refine jc_region ?_
    refine jo_f [(0, 0), (0, 0)] (by kernel_rfl) ?_
    refine toO (by kernel_rfl) (p_sA 0 1 b_1 96 1 89 encU32 (Arr.rep 96 0) (Arr.rep 96 0) (by kernel_rfl) (by kernel_rfl) (by kernel_rfl) encU32_len encU32_cell (by kernel_rfl) (jkO ?_))
    refine jo_f [(0, 0)] (by kernel_rfl) ?_
    refine jo_end (by kernel_rfl) ?_
    refine jx_then ?_
    refine jc_ret ?_
    refine jx_thenr ?_
    obtain rfl := Option.some.inj h
    exact jx_retV rfl (rq_arr (b := b_1) (T' := 89) (hh := 1) (mm := 1) encU32 (Arr.rep 96 0) (by kernel_rfl) (by kernel_rfl) encU32_len (by kernel_rfl) (rq_tmp (by kernel_rfl) rq_nil)) (fun w hm => ⟨rfl, hm.pick [0] (by kernel_rfl) (by kernel_rfl)⟩)
  · replace h := ifF hc_5 h
    refine jc_skip ?_
    refine jx_then ?_
    refine jc_seq ?_
    refine jc_region ?_
    refine jo_f [(0, 0), (0, 0), (0, 0)] (by kernel_rfl) ?_
    obtain ⟨t_2, ht_6, h⟩ := bd h
    refine toO (by kernel_rfl) (p_call 0 88 #[(.pointer (some ⟨f0_b, 0, none⟩)), (.slice t1_a t1.length t1_c), (.slice list2_a list2.length list2_c)] (by kernel_rfl) (by kernel_rfl) (fun w hm => spec_l07Fit.calls f0 t1 list2 w _ f0_fHammers_a f0.fHammers.length f0_fHammers_c (hm.exRowW f0_fHammers_h f0_fHammers_ha) rfl t1_a t1.length t1_c (hm.exRowW t1_h t1_ha) rfl list2_a list2.length list2_c (hm.exRowW list2_h list2_ha) rfl f0_b (hm.pass (N := [⟨some f0_b, 42, [(.int .i16 f0.fSteps), (.slice f0_fHammers_a f0.fHammers.length f0_fHammers_c)]⟩]) [0] (by kernel_rfl) (by kernel_rfl)) (hm.exApart (N := [⟨some f0_b, 42, [(.int .i16 f0.fSteps), (.slice f0_fHammers_a f0.fHammers.length f0_fHammers_c)]⟩]) f0_fHammers_h f0_fHammers_ha [0] (by kernel_rfl)) (hm.exApart (N := [⟨some f0_b, 42, [(.int .i16 f0.fSteps), (.slice f0_fHammers_a f0.fHammers.length f0_fHammers_c)]⟩]) t1_h t1_ha [0] (by kernel_rfl)) (hm.exApart (N := [⟨some f0_b, 42, [(.int .i16 f0.fSteps), (.slice f0_fHammers_a f0.fHammers.length f0_fHammers_c)]⟩]) list2_h list2_ha [0] (by kernel_rfl)) ht_6) ?_)
    rintro w v w' hm ⟨rfl, hm'⟩
    refine ⟨_, hm.appW (ps := [(0, ⟨some f0_b, 42, [(.int .i16 f0.fSteps), (.slice f0_fHammers_a f0.fHammers.length f0_fHammers_c)]⟩)]) (N := []) hm' (by kernel_rfl) (by kernel_rfl), jkO ?_⟩
    clear hm hm'
    refine jo_f [(0, 0), (0, 0), (0, 0)] (by kernel_rfl) ?_
    refine toO (by kernel_rfl) (p_a 0 [0] (by kernel_rfl) (fun b => by kernel_rfl) (fun b_7 => jkO ?_))
    refine toO (by kernel_rfl) (p_sA 0 2 b_7 96 1 89 encU32 (Arr.rep 96 0) t_2.1 (by kernel_rfl) (by kernel_rfl) (by kernel_rfl) encU32_len encU32_cell (by kernel_rfl) (jkO ?_))
    refine jo_f [(0, 0)] (by kernel_rfl) ?_
    refine jo_end (by kernel_rfl) ?_
    refine jx_then ?_
    refine jc_seq ?_
    refine jc_seq ?_
    refine jc_region ?_
    refine jo_f [(0, 0), (0, 0)] (by kernel_rfl) ?_
    refine jo_end (by kernel_rfl) ?_
    refine jx_then ?_
    refine jc_cond (decide (t_2.2 ≥ 0)) (by kernel_rfl) (fun hc_9 => ?_) (fun hc_9 => ?_)
    · replace h := ifT hc_9 h
      refine jc_seq ?_
      refine jc_region ?_
      refine jo_f [(0, 0)] (by kernel_rfl) ?_
      refine toO (by kernel_rfl) (p_sA 0 1 b_1 96 1 89 encU32 (Arr.rep 96 0) (Arr.rep 96 0) (by kernel_rfl) (by kernel_rfl) (by kernel_rfl) encU32_len encU32_cell (by kernel_rfl) (jkO ?_))
      refine jo_f [(0, 0)] (by kernel_rfl) ?_
      refine jo_end (by kernel_rfl) ?_
      refine jx_then ?_
      refine jc_ret ?_
      refine jx_thenr ?_
      obtain rfl := Option.some.inj h
      exact jx_retV rfl (rq_arr (b := b_1) (T' := 89) (hh := 1) (mm := 1) encU32 (Arr.rep 96 0) (by kernel_rfl) (by kernel_rfl) encU32_len (by kernel_rfl) (rq_tmp (by kernel_rfl) rq_nil)) (fun w hm => ⟨rfl, hm.pick [0] (by kernel_rfl) (by kernel_rfl)⟩)
    · replace h := ifF hc_9 h
      refine jc_skip ?_
      refine jx_then ?_
      refine jc_seq ?_
      refine jc_region ?_
      refine toO (by kernel_rfl) (p_ldA 0 2 b_7 96 1 89 encU32 t_2.1 (by kernel_rfl) (by kernel_rfl) (by kernel_rfl) encU32_len (by kernel_rfl) (jkO ?_))
      refine toO (by kernel_rfl) (p_sA 0 1 b_1 96 1 89 encU32 (Arr.rep 96 0) t_2.1 (by kernel_rfl) (by kernel_rfl) (by kernel_rfl) encU32_len encU32_cell (by kernel_rfl) (jkO ?_))
      refine jo_f [(0, 0)] (by kernel_rfl) ?_
      refine jo_end (by kernel_rfl) ?_
      refine jx_then ?_
      refine jc_ret ?_
      obtain rfl := Option.some.inj h
      exact jx_retV rfl (rq_arr (b := b_1) (T' := 89) (hh := 1) (mm := 1) encU32 t_2.1 (by kernel_rfl) (by kernel_rfl) encU32_len (by kernel_rfl) (rq_tmp (by kernel_rfl) rq_nil)) (fun w hm => ⟨rfl, hm.pick [0] (by kernel_rfl) (by kernel_rfl)⟩)

/-! ### spec.l01Sorted -/
noncomputable def spec_l01Sorted.k_2 (xs_1 : List GNote) : Option ((List GNote)) := some xs_1
noncomputable def spec_l01Sorted.k_9 (list0 : List GNote) (xs_3 : List GNote) (i_4 : Int) (i_7 : Int) : Option (((List GNote) × Int) ⊕ ((List GNote))) := (if 0 ≤ i_7 ∧ i_7 ≤ (xs_3.length : Int) then (if ([] : List GNote).length + (xs_3.drop i_7.toNat).length ≤ 4294967296 then (if 0 ≤ i_7 ∧ i_7 ≤ (xs_3.length : Int) then (ix list0 i_4).bind fun x_10 => (if i_7.toNat + [x_10].length ≤ 4294967296 then (if (xs_3.take i_7.toNat ++ [x_10]).length + (([] : List GNote) ++ (xs_3.drop i_7.toNat)).length ≤ 4294967296 then some (.inl (((xs_3.take i_7.toNat ++ [x_10]) ++ (([] : List GNote) ++ (xs_3.drop i_7.toNat))), (w64 (i_4 + 1)))) else none) else none) else none) else none) else none)
noncomputable def spec_l01Sorted.k_8 (list0 : List GNote) (xs_3 : List GNote) (i_4 : Int) (i_7 : Int) : Option (((List GNote) × Int) ⊕ ((List GNote))) := (if (decide (i_7 < (xs_3.length : Int))) = true then (ix xs_3 i_7).bind fun x_11 => (ix list0 i_4).bind fun x_12 => (if ((x_11.fAt == x_12.fAt) && (x_11.fPitch == x_12.fPitch)) = true then some (.inl (xs_3, (w64 (i_4 + 1)))) else spec_l01Sorted.k_9 list0 xs_3 i_4 i_7) else spec_l01Sorted.k_9 list0 xs_3 i_4 i_7)
noncomputable def spec_l01Sorted.l_14 (list0 : List GNote) (xs_3 : List GNote) (i_4 : Int) : Int → Option ((Int) ⊕ (Int))
  | i_13 => (if (decide (i_13 < (xs_3.length : Int))) = true then (ix xs_3 i_13).bind fun x_16 => (ix list0 i_4).bind fun x_17 => (spec_l01Before x_16 x_17).bind fun t_18 => (if t_18 = true then some (.inl (w64 (i_13 + 1))) else some (.inr i_13)) else some (.inr i_13))
noncomputable def spec_l01Sorted.l_5 (list0 : List GNote) : ((List GNote) × Int) → Option (((List GNote) × Int) ⊕ ((List GNote)))
  | (xs_3, i_4) => (if (decide (i_4 < (list0.length : Int))) = true then (loop (spec_l01Sorted.l_14 list0 xs_3 i_4) 0).bind fun t_15 => spec_l01Sorted.k_8 list0 xs_3 i_4 t_15 else some (.inr xs_3))
noncomputable def spec_l01Sorted (list0 : List GNote) : Option ((List GNote)) := (loop (spec_l01Sorted.l_5 list0) (([] : List GNote), 0)).bind fun t_6 => spec_l01Sorted.k_2 t_6
set_option maxRecDepth 100000 in
theorem spec_l01Sorted.calls (list0 : List GNote) (w : World) (r : (List GNote)) (list0_a : Option Addr) (list0_an : Nat) (list0_c : Nat) (list0_h : Rw w list0_a 2 encGNote list0) (list0_hn : list0.length = list0_an) (h : spec_l01Sorted list0 = some r) :
    Calls Tryz.prog 90 #[(.slice list0_a list0_an list0_c)] w fun e w' => ∃ v, e = .returned v ∧ (∃ (o0 : Option Nat) (c0 : Nat) (s0 : List Value) (n0 : Nat), r.length = n0 ∧ (o0 ≠ none → n0 ≤ c0 ∧ s0.length = (c0 - n0) * 2) ∧ (o0 = none → r = [] ∧ c0 = 0) ∧ v = .slice (o0.map fun b => ⟨b, 0, none⟩) n0 c0 ∧ Mem w [] [⟨o0, 95, row encGNote r s0⟩] w') := by
  subst list0_hn
  rw [spec_l01Sorted] at h
  refine enter (args := [(.slice list0_a list0.length list0_c)]) Tryz.func90 rfl Tryz.ntmps90 (by kernel_rfl) (L := []) (W := []) (Mem.start w) ?_
  refine jc_seq ?_
  refine jc_region ?_
  refine jo_f [(0, 0)] (by kernel_rfl) ?_
  refine jo_end (by kernel_rfl) ?_
  refine jx_then ?_
  refine jc_seq ?_
  refine jc_region ?_
  refine toO (by kernel_rfl) (p_a 0 [0] (by kernel_rfl) (fun b => by kernel_rfl) (fun b_1 => jkO ?_))
  refine jo_f [(0, 0)] (by kernel_rfl) ?_
  refine jo_end (by kernel_rfl) ?_
  refine jx_then ?_
  refine jc_seq ?_
  refine jc_seq ?_
  refine jc_region ?_
  refine jo_f [(0, 0)] (by kernel_rfl) ?_
  refine jo_end (by kernel_rfl) ?_
  refine jx_then ?_
  refine jc_meet (fun (j : (List GNote) × (Option Nat) × Nat × (List Value) × Nat) => match j with | ⟨xs_1, o_1136, cap_1137, sp_1138, n_1139⟩ => spec_l01Sorted.k_2 xs_1 = some r ∧ (xs_1.length = n_1139) ∧ ((o_1136 ≠ none → n_1139 ≤ cap_1137 ∧ sp_1138.length = (cap_1137 - n_1139) * 2)) ∧ ((o_1136 = none → xs_1 = [] ∧ cap_1137 = 0))) (fun (j : (List GNote) × (Option Nat) × Nat × (List Value) × Nat) => match j with | ⟨xs_1, o_1136, cap_1137, sp_1138, n_1139⟩ => [(2, [], (.slice none 0 0)), (3, [], (.slice (o_1136.map fun b => ⟨b, 0, none⟩) n_1139 cap_1137))]) (fun (j : (List GNote) × (Option Nat) × Nat × (List Value) × Nat) => match j with | ⟨xs_1, o_1136, cap_1137, sp_1138, n_1139⟩ => [⟨o_1136, 95, row encGNote xs_1 sp_1138⟩]) ?_ ?_
  · refine jc_block ?_
    obtain ⟨t_6, ht_1517, hr_1394⟩ := bd h
    refine jc_loop (fun (s : (List GNote) × Int) (x : (Option Nat) × Nat × (List Value) × Nat) => match s, x with | ⟨xs_3, i_4⟩, ⟨o_1388, cap_1389, sp_1390, n_1391⟩ => (xs_3.length = n_1391) ∧ ((o_1388 ≠ none → n_1391 ≤ cap_1389 ∧ sp_1390.length = (cap_1389 - n_1391) * 2)) ∧ ((o_1388 = none → xs_3 = [] ∧ cap_1389 = 0))) (fun (s : (List GNote) × Int) (x : (Option Nat) × Nat × (List Value) × Nat) => match s, x with | ⟨xs_3, i_4⟩, ⟨o_1388, cap_1389, sp_1390, n_1391⟩ => [(0, [], (.slice list0_a list0.length list0_c)), (2, [], (.slice none 0 0)), (3, [], (.slice (o_1388.map fun b => ⟨b, 0, none⟩) n_1391 cap_1389)), (4, [], (.int .i64 i_4))]) (fun (s : (List GNote) × Int) (x : (Option Nat) × Nat × (List Value) × Nat) => match s, x with | ⟨xs_3, i_4⟩, ⟨o_1388, cap_1389, sp_1390, n_1391⟩ => [⟨o_1388, 95, row encGNote xs_3 sp_1390⟩]) ht_1517 ⟨(some b_1), 0, [], 0⟩ ⟨rfl, (fun _ => ⟨Nat.le_refl _, by simp⟩), (fun e => nomatch e)⟩ (by kernel_rfl) [0] (by kernel_rfl) (by kernel_rfl) ?_
    rintro ⟨xs_3, i_4⟩ ⟨o_1388, cap_1389, sp_1390, n_1391⟩ y_1395 ⟨rfl, hs_1392, ho_1393⟩ h
    rw [spec_l01Sorted.l_5] at h
    refine jc_seq ?_
    refine jc_seq ?_
    refine jc_region ?_
    refine jo_f [(0, 0), (0, 0), (0, 0), (0, 0)] (by kernel_rfl) ?_
    refine jo_end (by kernel_rfl) ?_
    refine jx_then ?_
    refine jc_cond (decide (i_4 < (list0.length : Int))) (by kernel_rfl) (fun hc_1397 => ?_) (fun hc_1397 => ?_)
    · replace h := ifT hc_1397 h
      refine jc_skip ?_
      refine jx_then ?_
      refine jc_seq ?_
      refine jc_block ?_
      refine jc_seq ?_
      refine jc_region ?_
      refine jo_f [(0, 0)] (by kernel_rfl) ?_
      refine jo_end (by kernel_rfl) ?_
      refine jx_then ?_
      refine jc_seq ?_
      refine jc_meet (fun (j : Int) => match j with | i_7 => spec_l01Sorted.k_8 list0 xs_3 i_4 i_7 = some y_1395) (fun (j : Int) => match j with | i_7 => [(0, [], (.slice list0_a list0.length list0_c)), (2, [], (.slice none 0 0)), (3, [], (.slice (o_1388.map fun b => ⟨b, 0, none⟩) xs_3.length cap_1389)), (4, [], (.int .i64 i_4)), (5, [], (.int .i64 i_7))]) (fun (j : Int) => match j with | i_7 => [⟨o_1388, 95, row encGNote xs_3 sp_1390⟩]) ?_ ?_
      · refine jc_block ?_
        obtain ⟨t_15, ht_1515, hr_1499⟩ := bd h
        refine jc_loop (fun (s : Int) (x : Unit) => match s, x with | i_13, _ => True) (fun (s : Int) (x : Unit) => match s, x with | i_13, _ => [(0, [], (.slice list0_a list0.length list0_c)), (2, [], (.slice none 0 0)), (3, [], (.slice (o_1388.map fun b => ⟨b, 0, none⟩) xs_3.length cap_1389)), (4, [], (.int .i64 i_4)), (5, [], (.int .i64 i_13))]) (fun (s : Int) (x : Unit) => match s, x with | i_13, _ => [⟨o_1388, 95, row encGNote xs_3 sp_1390⟩]) ht_1515 () trivial (by kernel_rfl) [0] (by kernel_rfl) (by kernel_rfl) ?_
        rintro i_13 _ y_1500 _ h
        rw [spec_l01Sorted.l_14] at h
        refine jc_seq ?_
        refine jc_seq ?_
        refine jc_draw [⟨o_1388, 95, row encGNote xs_3 sp_1390⟩] 15 (by kernel_rfl) (by kernel_rfl) ?_
        refine jd_f [⟨0, 0, 0⟩, ⟨1, 0, 0⟩, ⟨2, 0, 0⟩, ⟨3, 0, 0⟩, ⟨4, 0, 0⟩, ⟨5, 0, 1⟩, ⟨6, 0, 1⟩, ⟨9, 0, 1⟩, ⟨10, 0, 1⟩] 6 (by kernel_rfl) (by kernel_rfl) (fun w h => h.pick [0] (by kernel_rfl) (by kernel_rfl)) (by kernel_rfl) (by kernel_rfl) ?_
        refine jd_split 18 (decide (i_13 < (xs_3.length : Int))) (by kernel_rfl) (fun hc_1507 => ?_) (fun hc_1507 => ?_)
        · replace h := ifT hc_1507 h
          obtain ⟨x_16, hx_1508, h⟩ := bd h
          refine jd_v 7 2 (by kernel_rfl) (fun w h => h.pick [0] (by kernel_rfl) (by kernel_rfl)) (by kernel_rfl) (by kernel_rfl) _ (fun w hm => idx_run (a := (o_1388.map fun b => ⟨b, 0, none⟩)) (len := xs_3.length) (s := 2) (j := i_13) (by kernel_rfl) (ix_some hx_1508).1 (ltn hx_1508 rfl) (spo ho_1393 hx_1508)) ?_
          refine jd_v 8 2 (by kernel_rfl) (fun w h => h.pick [0] (by kernel_rfl) (by kernel_rfl)) (by kernel_rfl) (by kernel_rfl) _ (fun w hm => ld_run (b := aB (o_1388.map fun b => ⟨b, 0, none⟩)) (off := (aO (o_1388.map fun b => ⟨b, 0, none⟩) + i_13.toNat * 2)) (s := 2) (agg := true) (vs := (encGNote x_16)) (by kernel_rfl) (by kernel_rfl) (.inl rfl) ((hm.ownRow (hh := 0) (o := o_1388) (T := 95) (enc := encGNote) (xs := xs_3) (sp := sp_1390) (by kernel_rfl) (fun e => (ho_1393 e).1) encGNote_len).at hx_1508)) ?_
          obtain ⟨x_17, hx_1509, h⟩ := bd h
          refine jd_v 11 2 (by kernel_rfl) (fun w h => h.pick [0] (by kernel_rfl) (by kernel_rfl)) (by kernel_rfl) (by kernel_rfl) _ (fun w hm => idx_run (a := list0_a) (len := list0.length) (s := 2) (j := i_4) (by kernel_rfl) (ix_some hx_1509).1 (ltn hx_1509 rfl) (list0_h.sp hx_1509)) ?_
          refine jd_v 12 2 (by kernel_rfl) (fun w h => h.pick [0] (by kernel_rfl) (by kernel_rfl)) (by kernel_rfl) (by kernel_rfl) _ (fun w hm => ld_run (b := aB list0_a) (off := (aO list0_a + i_4.toNat * 2)) (s := 2) (agg := true) (vs := (encGNote x_17)) (by kernel_rfl) (by kernel_rfl) (.inl rfl) ((hm.exRow list0_h List.not_mem_nil).at hx_1509)) ?_
          obtain ⟨t_18, ht_1510, h⟩ := bd h
          refine toD 13 (by kernel_rfl) (p_call 2 118 #[(.agg #[(.int .i16 x_16.fAt), (.int .i8 x_16.fPitch)]), (.agg #[(.int .i16 x_17.fAt), (.int .i8 x_17.fPitch)])] (by kernel_rfl) (by kernel_rfl) (fun w hm => spec_l01Before.calls x_16 x_17 w _ ht_1510) ?_)
          rintro w v w' hm ⟨rfl, hm'⟩
          refine ⟨_, hm.app hm', jkD (fun w h => h.pick [0] (by kernel_rfl) (by kernel_rfl)) ?_⟩
          clear hm hm'
          refine jd_f [⟨14, 0, 4⟩] 0 (by kernel_rfl) (by kernel_rfl) (fun w h => h.pick [0] (by kernel_rfl) (by kernel_rfl)) (by kernel_rfl) (by kernel_rfl) ?_
          refine jd_end (by kernel_rfl) ?_
          refine jx_then ?_
          refine jc_cond t_18 (by kernel_rfl) (fun hc_1511 => ?_) (fun hc_1511 => ?_)
          · replace h := ifT hc_1511 h
            refine jc_skip ?_
            refine jx_then ?_
            refine jc_block ?_
            refine jc_region ?_
            refine jo_f [(0, 0), (0, 0), (0, 0)] (by kernel_rfl) ?_
            refine jo_end (by kernel_rfl) ?_
            refine jx_inn ?_
            exact jx_back (w64 (i_13 + 1)) () (Option.some.inj h).symm trivial [0] (by kernel_rfl) (by kernel_rfl) (by kernel_rfl)
          · replace h := ifF hc_1511 h
            refine jc_exit ?_
            refine jx_thenx ?_
            refine jx_leave i_13 (Option.some.inj h).symm (fun e_1512 => ?_)
            subst e_1512
            refine jx_ine ?_
            exact jx_meet i_13 hr_1499 (by kernel_rfl) [0] (by kernel_rfl) (by kernel_rfl)
        · replace h := ifF hc_1507 h
          refine jd_f [⟨7, 0, 3⟩, ⟨8, 0, 3⟩, ⟨11, 0, 3⟩, ⟨12, 0, 3⟩, ⟨13, 0, 3⟩, ⟨14, 0, 5⟩] 0 (by kernel_rfl) (by kernel_rfl) (fun w h => h.pick [0] (by kernel_rfl) (by kernel_rfl)) (by kernel_rfl) (by kernel_rfl) ?_
          refine jd_end (by kernel_rfl) ?_
          refine jx_then ?_
          refine jc_cond false (by kernel_rfl) (fun hc_1513 => nomatch hc_1513) (fun hc_1513 => ?_)
          refine jc_exit ?_
          refine jx_thenx ?_
          refine jx_leave i_13 (Option.some.inj h).symm (fun e_1514 => ?_)
          subst e_1514
          refine jx_ine ?_
          exact jx_meet i_13 hr_1499 (by kernel_rfl) [0] (by kernel_rfl) (by kernel_rfl)
      · rintro i_7 h
        replace h : spec_l01Sorted.k_8 list0 xs_3 i_4 i_7 = some y_1395 := h
        rw [spec_l01Sorted.k_8] at h
        refine jx_then ?_
        refine jc_seq ?_
        refine jc_meet (fun (_ : Unit) => spec_l01Sorted.k_9 list0 xs_3 i_4 i_7 = some y_1395) (fun (_ : Unit) => [(0, [], (.slice list0_a list0.length list0_c)), (2, [], (.slice none 0 0)), (3, [], (.slice (o_1388.map fun b => ⟨b, 0, none⟩) xs_3.length cap_1389)), (4, [], (.int .i64 i_4)), (5, [], (.int .i64 i_7))]) (fun (_ : Unit) => [⟨o_1388, 95, row encGNote xs_3 sp_1390⟩]) ?_ ?_
        · refine jc_seq ?_
          refine jc_draw [⟨o_1388, 95, row encGNote xs_3 sp_1390⟩] 15 (by kernel_rfl) (by kernel_rfl) ?_
          refine jd_f [⟨0, 0, 0⟩, ⟨1, 0, 0⟩, ⟨2, 0, 0⟩, ⟨3, 0, 0⟩, ⟨4, 0, 0⟩, ⟨5, 0, 1⟩, ⟨6, 0, 1⟩, ⟨9, 0, 1⟩, ⟨10, 0, 1⟩] 6 (by kernel_rfl) (by kernel_rfl) (fun w h => h.pick [0] (by kernel_rfl) (by kernel_rfl)) (by kernel_rfl) (by kernel_rfl) ?_
          refine jd_split 35 (decide (i_7 < (xs_3.length : Int))) (by kernel_rfl) (fun hc_1470 => ?_) (fun hc_1470 => ?_)
          · replace h := ifT hc_1470 h
            obtain ⟨x_11, hx_1471, h⟩ := bd h
            refine jd_v 7 2 (by kernel_rfl) (fun w h => h.pick [0] (by kernel_rfl) (by kernel_rfl)) (by kernel_rfl) (by kernel_rfl) _ (fun w hm => idx_run (a := (o_1388.map fun b => ⟨b, 0, none⟩)) (len := xs_3.length) (s := 2) (j := i_7) (by kernel_rfl) (ix_some hx_1471).1 (ltn hx_1471 rfl) (spo ho_1393 hx_1471)) ?_
            refine jd_v 8 2 (by kernel_rfl) (fun w h => h.pick [0] (by kernel_rfl) (by kernel_rfl)) (by kernel_rfl) (by kernel_rfl) _ (fun w hm => ld_run (b := aB (o_1388.map fun b => ⟨b, 0, none⟩)) (off := (aO (o_1388.map fun b => ⟨b, 0, none⟩) + i_7.toNat * 2)) (s := 2) (agg := true) (vs := (encGNote x_11)) (by kernel_rfl) (by kernel_rfl) (.inl rfl) ((hm.ownRow (hh := 0) (o := o_1388) (T := 95) (enc := encGNote) (xs := xs_3) (sp := sp_1390) (by kernel_rfl) (fun e => (ho_1393 e).1) encGNote_len).at hx_1471)) ?_
            obtain ⟨x_12, hx_1472, h⟩ := bd h
            refine jd_v 11 2 (by kernel_rfl) (fun w h => h.pick [0] (by kernel_rfl) (by kernel_rfl)) (by kernel_rfl) (by kernel_rfl) _ (fun w hm => idx_run (a := list0_a) (len := list0.length) (s := 2) (j := i_4) (by kernel_rfl) (ix_some hx_1472).1 (ltn hx_1472 rfl) (list0_h.sp hx_1472)) ?_
            refine jd_v 12 2 (by kernel_rfl) (fun w h => h.pick [0] (by kernel_rfl) (by kernel_rfl)) (by kernel_rfl) (by kernel_rfl) _ (fun w hm => ld_run (b := aB list0_a) (off := (aO list0_a + i_4.toNat * 2)) (s := 2) (agg := true) (vs := (encGNote x_12)) (by kernel_rfl) (by kernel_rfl) (.inl rfl) ((hm.exRow list0_h List.not_mem_nil).at hx_1472)) ?_
            refine jd_f [⟨13, 0, 2⟩, ⟨14, 0, 4⟩] 0 (by kernel_rfl) (by kernel_rfl) (fun w h => h.pick [0] (by kernel_rfl) (by kernel_rfl)) (by kernel_rfl) (by kernel_rfl) ?_
            refine jd_end (by kernel_rfl) ?_
            refine jx_then ?_
            refine jc_cond ((x_11.fAt == x_12.fAt) && (x_11.fPitch == x_12.fPitch)) (by kernel_rfl) (fun hc_1473 => ?_) (fun hc_1473 => ?_)
            · replace h := ifT hc_1473 h
              refine jc_exit ?_
              refine jx_thenx ?_
              refine jx_thenx ?_
              refine jx_ine ?_
              refine jx_then ?_
              refine jc_region ?_
              refine jo_f [(0, 0), (0, 0), (0, 0)] (by kernel_rfl) ?_
              refine jo_end (by kernel_rfl) ?_
              exact jx_back (xs_3, (w64 (i_4 + 1))) ⟨o_1388, cap_1389, sp_1390, xs_3.length⟩ (Option.some.inj h).symm ⟨rfl, hs_1392, ho_1393⟩ [0] (by kernel_rfl) (by kernel_rfl) (by kernel_rfl)
            · replace h := ifF hc_1473 h
              refine jc_skip ?_
              exact jx_meet () h (by kernel_rfl) [0] (by kernel_rfl) (by kernel_rfl)
          · replace h := ifF hc_1470 h
            refine jd_f [⟨7, 0, 3⟩, ⟨8, 0, 3⟩, ⟨11, 0, 3⟩, ⟨12, 0, 3⟩, ⟨13, 0, 3⟩, ⟨14, 0, 5⟩] 0 (by kernel_rfl) (by kernel_rfl) (fun w h => h.pick [0] (by kernel_rfl) (by kernel_rfl)) (by kernel_rfl) (by kernel_rfl) ?_
            refine jd_end (by kernel_rfl) ?_
            refine jx_then ?_
            refine jc_cond false (by kernel_rfl) (fun hc_1474 => nomatch hc_1474) (fun hc_1474 => ?_)
            refine jc_skip ?_
            exact jx_meet () h (by kernel_rfl) [0] (by kernel_rfl) (by kernel_rfl)
        · rintro _ h
          replace h : spec_l01Sorted.k_9 list0 xs_3 i_4 i_7 = some y_1395 := h
          rw [spec_l01Sorted.k_9] at h
          refine jx_then ?_
          refine jc_seq ?_
          refine jc_region ?_
          refine toO (by kernel_rfl) (p_a 0 [0] (by kernel_rfl) (fun b => by kernel_rfl) (fun b_1444 => jkO ?_))
          refine jo_f [(0, 0), (0, 0)] (by kernel_rfl) ?_
          obtain ⟨hg_1445, h⟩ := gd h
          refine toO (by kernel_rfl) (p_slL 0 (o_1388.map fun b => ⟨b, 0, none⟩) xs_3.length cap_1389 2 i_7 (by kernel_rfl) (by kernel_rfl) hg_1445.1 (Int.le_trans hg_1445.2 (Int.ofNat_le.2 (Nat.le_of_eq rfl))) (jkO ?_))
          obtain ⟨hg_1446, h⟩ := gd h
          refine toO (by kernel_rfl) (p_apn 0 1 (some b_1444) 95 0 (xs_3.length - i_7.toNat) 0 2 4 (pa (o_1388.map fun b => ⟨b, 0, none⟩) i_7.toNat cap_1389 2) encGNote ([] : List GNote) (xs_3.drop i_7.toNat) [] (.agg #[(.int .i16 0), (.int .i8 0)]) rfl (tl_len rfl i_7) (by kernel_rfl) (by kernel_rfl) (by kernel_rfl) encGNote_len encGNote_cell (fun _ => ⟨Nat.le_refl _, by simp⟩) (fun e => nomatch e) (fun w hm => ((hm.ownRow (hh := 0) (o := o_1388) (T := 95) (enc := encGNote) (xs := xs_3) (sp := sp_1390) (by kernel_rfl) (fun e => (ho_1393 e).1) encGNote_len).tl i_7.toNat cap_1389 (cap_le rfl hs_1392 ho_1393))) hg_1446 (by kernel_rfl) (by kernel_rfl) (fun o_1447 cap_1448 sp_1449 hs_1450 ho_1451 => jkO ?_))
          refine jo_f [(0, 0)] (by kernel_rfl) ?_
          refine jo_end (by kernel_rfl) ?_
          refine jx_then ?_
          refine jc_draw [⟨o_1447, 95, row encGNote (([] : List GNote) ++ (xs_3.drop i_7.toNat)) sp_1449⟩] 12 (by kernel_rfl) (by kernel_rfl) ?_
          refine jd_f [⟨0, 0, 0⟩, ⟨1, 0, 0⟩, ⟨3, 0, 0⟩, ⟨4, 0, 0⟩, ⟨9, 0, 0⟩] 7 (by kernel_rfl) (by kernel_rfl) (fun w h => h.pick [1] (by kernel_rfl) (by kernel_rfl)) (by kernel_rfl) (by kernel_rfl) ?_
          obtain ⟨hg_1455, h⟩ := gd h
          refine jd_v 2 0 (by kernel_rfl) (fun w h => h.pick [1] (by kernel_rfl) (by kernel_rfl)) (by kernel_rfl) (by kernel_rfl) _ (fun w hm => slH_run (a := (o_1388.map fun b => ⟨b, 0, none⟩)) (len := xs_3.length) (cap := cap_1389) (size := 2) (h := i_7) (by kernel_rfl) hg_1455.1 (Int.le_trans hg_1455.2 (Int.ofNat_le.2 (cap_le rfl hs_1392 ho_1393)))) ?_
          obtain ⟨x_10, hx_1456, h⟩ := bd h
          refine jd_v 5 0 (by kernel_rfl) (fun w h => h.pick [1] (by kernel_rfl) (by kernel_rfl)) (by kernel_rfl) (by kernel_rfl) _ (fun w hm => idx_run (a := list0_a) (len := list0.length) (s := 2) (j := i_4) (by kernel_rfl) (ix_some hx_1456).1 (ltn hx_1456 rfl) (list0_h.sp hx_1456)) ?_
          refine jd_v 6 0 (by kernel_rfl) (fun w h => h.pick [1] (by kernel_rfl) (by kernel_rfl)) (by kernel_rfl) (by kernel_rfl) _ (fun w hm => ld_run (b := aB list0_a) (off := (aO list0_a + i_4.toNat * 2)) (s := 2) (agg := true) (vs := (encGNote x_10)) (by kernel_rfl) (by kernel_rfl) (.inl rfl) ((hm.exRow list0_h List.not_mem_nil).at hx_1456)) ?_
          refine toD 7 (by kernel_rfl) (p_a 0 [0] (by kernel_rfl) (fun b => by kernel_rfl) (fun b_1457 => jkD (fun w h => h.pick [1] (by kernel_rfl) (by kernel_rfl)) ?_))
          obtain ⟨hg_1458, h⟩ := gd h
          refine toD 8 (by kernel_rfl) (p_apI 0 0 o_1388 95 i_7.toNat xs_3.length 1 cap_1389 2 4 (some ⟨b_1457, 0, none⟩) encGNote xs_3 [x_10] sp_1390 (.agg #[(.int .i16 0), (.int .i8 0)]) (show i_7.toNat ≤ xs_3.length by have := hg_1455; omega) rfl rfl (by kernel_rfl) (by kernel_rfl) (by kernel_rfl) encGNote_len encGNote_cell hs_1392 ho_1393 (fun w hm => (hm.ownRow (hh := 2) (o := (some b_1457)) (T := 95) (enc := encGNote) (xs := [x_10]) (sp := []) (by kernel_rfl) (fun e => nomatch e) encGNote_len)) hg_1458 (by kernel_rfl) (by kernel_rfl) (fun o_1459 cap_1460 sp_1461 hs_1462 ho_1463 => jkD (fun w h => h.pick [1] (by kernel_rfl) (by kernel_rfl)) ?_))
          obtain ⟨hg_1464, h⟩ := gd h
          refine toD 10 (by kernel_rfl) (p_apn 0 0 o_1459 95 ((xs_3.take i_7.toNat ++ [x_10]).length) ((([] : List GNote) ++ (xs_3.drop i_7.toNat)).length) cap_1460 2 4 (o_1447.map fun b => ⟨b, 0, none⟩) encGNote (xs_3.take i_7.toNat ++ [x_10]) (([] : List GNote) ++ (xs_3.drop i_7.toNat)) sp_1461 (.agg #[(.int .i16 0), (.int .i8 0)]) rfl rfl (by kernel_rfl) (by kernel_rfl) (by kernel_rfl) encGNote_len encGNote_cell hs_1462 ho_1463 (fun w hm => (hm.ownRow (hh := 1) (o := o_1447) (T := 95) (enc := encGNote) (xs := (([] : List GNote) ++ (xs_3.drop i_7.toNat))) (sp := sp_1449) (by kernel_rfl) (fun e => (ho_1451 e).1) encGNote_len)) hg_1464 (by kernel_rfl) (by kernel_rfl) (fun o_1465 cap_1466 sp_1467 hs_1468 ho_1469 => jkD (fun w h => h.pick [1] (by kernel_rfl) (by kernel_rfl)) ?_))
          refine jd_f [⟨11, 0, 0⟩] 0 (by kernel_rfl) (by kernel_rfl) (fun w h => h.pick [1] (by kernel_rfl) (by kernel_rfl)) (by kernel_rfl) (by kernel_rfl) ?_
          refine jd_end (by kernel_rfl) ?_
          refine jx_inn ?_
          refine jx_then ?_
          refine jc_region ?_
          refine jo_f [(0, 0), (0, 0), (0, 0)] (by kernel_rfl) ?_
          refine jo_end (by kernel_rfl) ?_
          exact jx_back (((xs_3.take i_7.toNat ++ [x_10]) ++ (([] : List GNote) ++ (xs_3.drop i_7.toNat))), (w64 (i_4 + 1))) ⟨o_1465, cap_1466, sp_1467, ((xs_3.take i_7.toNat ++ [x_10]) ++ (([] : List GNote) ++ (xs_3.drop i_7.toNat))).length⟩ (Option.some.inj h).symm ⟨rfl, hs_1468, ho_1469⟩ [0] (by kernel_rfl) (by kernel_rfl) (by kernel_rfl)
    · replace h := ifF hc_1397 h
      refine jc_exit ?_
      refine jx_thenx ?_
      refine jx_leave xs_3 (Option.some.inj h).symm (fun e_1516 => ?_)
      subst e_1516
      refine jx_ine ?_
      exact jx_meet ⟨xs_3, o_1388, cap_1389, sp_1390, xs_3.length⟩ ⟨hr_1394, rfl, hs_1392, ho_1393⟩ (by kernel_rfl) [0] (by kernel_rfl) (by kernel_rfl)
  · rintro ⟨xs_1, o_1136, cap_1137, sp_1138, n_1139⟩ ⟨h, rfl, hs_1140, ho_1141⟩
    replace h : spec_l01Sorted.k_2 xs_1 = some r := h
    rw [spec_l01Sorted.k_2] at h
    refine jx_then ?_
    refine jc_seq ?_
    refine jc_region ?_
    refine jo_f [(0, 0), (0, 0)] (by kernel_rfl) ?_
    refine jo_end (by kernel_rfl) ?_
    refine jx_then ?_
    refine jc_ret ?_
    obtain rfl := Option.some.inj h
    exact jx_ret [] (.slice (o_1136.map fun b => ⟨b, 0, none⟩) xs_1.length cap_1137) [] rfl (by kernel_rfl) (by kernel_rfl) (fun w hm => ⟨o_1136, cap_1137, sp_1138, xs_1.length, rfl, hs_1140, ho_1141, rfl, hm.pick [0] (by kernel_rfl) (by kernel_rfl)⟩)

/-! ### spec.l02Tune -/
noncomputable def spec_l02Tune.k_2 (xs_1 : List GNote) : Option ((List GNote)) := (spec_l01Sorted xs_1).bind fun t_3 => some t_3
noncomputable def spec_l02Tune.k_9 (i_5 : Int) (xs_8 : List GNote) : Option (((List GNote) × Int) ⊕ ((List GNote))) := some (.inl (xs_8, (w64 (i_5 + 1))))
noncomputable def spec_l02Tune.l_12 (f0 : GFrame) (d1 : Arr 96 Int) (i_5 : Int) : ((List GNote) × Int) → Option (((List GNote) × Int) ⊕ ((List GNote)))
  | (xs_10, i_11) => (if (decide (i_11 < (f0.fHammers.length : Int))) = true then (spec_l02Pin d1 i_5 i_11).bind fun t_14 => (if t_14 = true then (ix f0.fHammers i_11).bind fun x_15 => (if xs_10.length + [(⟨(w16 i_5), x_15.fPitch⟩ : GNote)].length ≤ 4294967296 then some (.inl ((xs_10 ++ [(⟨(w16 i_5), x_15.fPitch⟩ : GNote)]), (w64 (i_11 + 1)))) else none) else some (.inl (xs_10, (w64 (i_11 + 1))))) else some (.inr xs_10))
noncomputable def spec_l02Tune.l_6 (f0 : GFrame) (d1 : Arr 96 Int) : ((List GNote) × Int) → Option (((List GNote) × Int) ⊕ ((List GNote)))
  | (xs_4, i_5) => (if (decide (i_5 < (w64 f0.fSteps))) = true then (loop (spec_l02Tune.l_12 f0 d1 i_5) (xs_4, 0)).bind fun t_13 => spec_l02Tune.k_9 i_5 t_13 else some (.inr xs_4))
noncomputable def spec_l02Tune (f0 : GFrame) (d1 : Arr 96 Int) : Option ((List GNote)) := (loop (spec_l02Tune.l_6 f0 d1) (([] : List GNote), 0)).bind fun t_7 => spec_l02Tune.k_2 t_7
set_option maxRecDepth 100000 in
theorem spec_l02Tune.calls (f0 : GFrame) (d1 : Arr 96 Int) (w : World) (r : (List GNote)) (f0_fHammers_a : Option Addr) (f0_fHammers_an : Nat) (f0_fHammers_c : Nat) (f0_fHammers_h : Rw w f0_fHammers_a 2 encGHammer f0.fHammers) (f0_fHammers_hn : f0.fHammers.length = f0_fHammers_an) (f0_b : Nat) (d1_b : Nat) (hm0 : Mem w (bs [some f0_b, some d1_b]) [⟨some f0_b, 42, [(.int .i16 f0.fSteps), (.slice f0_fHammers_a f0_fHammers_an f0_fHammers_c)]⟩, ⟨(some d1_b), 89, row encU32 d1.1 []⟩] w) (f0_fHammers_ha : f0.fHammers ≠ [] → aB f0_fHammers_a ∉ bs [some f0_b, some d1_b]) (h : spec_l02Tune f0 d1 = some r) :
    Calls Tryz.prog 54 #[(.pointer (some ⟨f0_b, 0, none⟩)), (.pointer (some ⟨d1_b, 0, none⟩))] w fun e w' => ∃ v, e = .returned v ∧ (∃ (o0 : Option Nat) (c0 : Nat) (s0 : List Value) (n0 : Nat), r.length = n0 ∧ (o0 ≠ none → n0 ≤ c0 ∧ s0.length = (c0 - n0) * 2) ∧ (o0 = none → r = [] ∧ c0 = 0) ∧ v = .slice (o0.map fun b => ⟨b, 0, none⟩) n0 c0 ∧ Mem w (bs [some f0_b, some d1_b]) [⟨some f0_b, 42, [(.int .i16 f0.fSteps), (.slice f0_fHammers_a f0_fHammers_an f0_fHammers_c)]⟩, ⟨(some d1_b), 89, row encU32 d1.1 []⟩, ⟨o0, 95, row encGNote r s0⟩] w') := by
  subst f0_fHammers_hn
  rw [spec_l02Tune] at h
  refine enter (args := [(.pointer (some ⟨f0_b, 0, none⟩)), (.pointer (some ⟨d1_b, 0, none⟩))]) Tryz.func54 rfl Tryz.ntmps54 (by kernel_rfl) (L := [⟨some f0_b, 42, [(.int .i16 f0.fSteps), (.slice f0_fHammers_a f0.fHammers.length f0_fHammers_c)]⟩, ⟨(some d1_b), 89, row encU32 d1.1 []⟩]) (W := bs [some f0_b, some d1_b]) hm0 ?_
  refine jc_seq ?_
  refine jc_region ?_
  refine jo_f [(0, 0)] (by kernel_rfl) ?_
  refine jo_end (by kernel_rfl) ?_
  refine jx_then ?_
  refine jc_seq ?_
  refine jc_region ?_
  refine toO (by kernel_rfl) (p_a 0 [0] (by kernel_rfl) (fun b => by kernel_rfl) (fun b_1 => jkO ?_))
  refine jo_f [(0, 0)] (by kernel_rfl) ?_
  refine jo_end (by kernel_rfl) ?_
  refine jx_then ?_
  refine jc_seq ?_
  refine jc_seq ?_
  refine jc_region ?_
  refine jo_f [(0, 0)] (by kernel_rfl) ?_
  refine jo_end (by kernel_rfl) ?_
  refine jx_then ?_
  refine jc_meet (fun (j : (List GNote) × (Option Nat) × Nat × (List Value) × Nat) => match j with | ⟨xs_1, o_1064, cap_1065, sp_1066, n_1067⟩ => spec_l02Tune.k_2 xs_1 = some r ∧ (xs_1.length = n_1067) ∧ ((o_1064 ≠ none → n_1067 ≤ cap_1065 ∧ sp_1066.length = (cap_1065 - n_1067) * 2)) ∧ ((o_1064 = none → xs_1 = [] ∧ cap_1065 = 0))) (fun (j : (List GNote) × (Option Nat) × Nat × (List Value) × Nat) => match j with | ⟨xs_1, o_1064, cap_1065, sp_1066, n_1067⟩ => [(4, [], (.slice none 0 0)), (5, [], (.slice (o_1064.map fun b => ⟨b, 0, none⟩) n_1067 cap_1065))]) (fun (j : (List GNote) × (Option Nat) × Nat × (List Value) × Nat) => match j with | ⟨xs_1, o_1064, cap_1065, sp_1066, n_1067⟩ => [⟨some f0_b, 42, [(.int .i16 f0.fSteps), (.slice f0_fHammers_a f0.fHammers.length f0_fHammers_c)]⟩, ⟨(some d1_b), 89, row encU32 d1.1 []⟩, ⟨o_1064, 95, row encGNote xs_1 sp_1066⟩]) ?_ ?_
  · refine jc_block ?_
    obtain ⟨t_7, ht_1427, hr_1312⟩ := bd h
    refine jc_loop (fun (s : (List GNote) × Int) (x : (Option Nat) × Nat × (List Value) × Nat) => match s, x with | ⟨xs_4, i_5⟩, ⟨o_1306, cap_1307, sp_1308, n_1309⟩ => (xs_4.length = n_1309) ∧ ((o_1306 ≠ none → n_1309 ≤ cap_1307 ∧ sp_1308.length = (cap_1307 - n_1309) * 2)) ∧ ((o_1306 = none → xs_4 = [] ∧ cap_1307 = 0))) (fun (s : (List GNote) × Int) (x : (Option Nat) × Nat × (List Value) × Nat) => match s, x with | ⟨xs_4, i_5⟩, ⟨o_1306, cap_1307, sp_1308, n_1309⟩ => [(0, [], (.pointer (some ⟨f0_b, 0, none⟩))), (1, [], (.pointer (some ⟨d1_b, 0, none⟩))), (4, [], (.slice none 0 0)), (5, [], (.slice (o_1306.map fun b => ⟨b, 0, none⟩) n_1309 cap_1307)), (6, [], (.int .i64 i_5))]) (fun (s : (List GNote) × Int) (x : (Option Nat) × Nat × (List Value) × Nat) => match s, x with | ⟨xs_4, i_5⟩, ⟨o_1306, cap_1307, sp_1308, n_1309⟩ => [⟨some f0_b, 42, [(.int .i16 f0.fSteps), (.slice f0_fHammers_a f0.fHammers.length f0_fHammers_c)]⟩, ⟨(some d1_b), 89, row encU32 d1.1 []⟩, ⟨o_1306, 95, row encGNote xs_4 sp_1308⟩]) ht_1427 ⟨(some b_1), 0, [], 0⟩ ⟨rfl, (fun _ => ⟨Nat.le_refl _, by simp⟩), (fun e => nomatch e)⟩ (by kernel_rfl) [0, 1, 2] (by kernel_rfl) (by kernel_rfl) ?_
    rintro ⟨xs_4, i_5⟩ ⟨o_1306, cap_1307, sp_1308, n_1309⟩ y_1313 ⟨rfl, hs_1310, ho_1311⟩ h
    rw [spec_l02Tune.l_6] at h
    refine jc_seq ?_
    refine jc_seq ?_
    refine jc_region ?_
    refine jo_f [(0, 0), (0, 0), (0, 0), (0, 0), (0, 0), (0, 0), (0, 0)] (by kernel_rfl) ?_
    refine jo_end (by kernel_rfl) ?_
    refine jx_then ?_
    refine jc_cond (decide (i_5 < (w64 f0.fSteps))) (by kernel_rfl) (fun hc_1315 => ?_) (fun hc_1315 => ?_)
    · replace h := ifT hc_1315 h
      refine jc_skip ?_
      refine jx_then ?_
      refine jc_seq ?_
      refine jc_block ?_
      refine jc_seq ?_
      refine jc_region ?_
      refine jo_f [(0, 0)] (by kernel_rfl) ?_
      refine jo_end (by kernel_rfl) ?_
      refine jx_then ?_
      refine jc_meet (fun (j : (List GNote) × (Option Nat) × Nat × (List Value) × Nat) => match j with | ⟨xs_8, o_1368, cap_1369, sp_1370, n_1371⟩ => spec_l02Tune.k_9 i_5 xs_8 = some y_1313 ∧ (xs_8.length = n_1371) ∧ ((o_1368 ≠ none → n_1371 ≤ cap_1369 ∧ sp_1370.length = (cap_1369 - n_1371) * 2)) ∧ ((o_1368 = none → xs_8 = [] ∧ cap_1369 = 0))) (fun (j : (List GNote) × (Option Nat) × Nat × (List Value) × Nat) => match j with | ⟨xs_8, o_1368, cap_1369, sp_1370, n_1371⟩ => [(0, [], (.pointer (some ⟨f0_b, 0, none⟩))), (1, [], (.pointer (some ⟨d1_b, 0, none⟩))), (4, [], (.slice none 0 0)), (5, [], (.slice (o_1368.map fun b => ⟨b, 0, none⟩) n_1371 cap_1369)), (6, [], (.int .i64 i_5))]) (fun (j : (List GNote) × (Option Nat) × Nat × (List Value) × Nat) => match j with | ⟨xs_8, o_1368, cap_1369, sp_1370, n_1371⟩ => [⟨some f0_b, 42, [(.int .i16 f0.fSteps), (.slice f0_fHammers_a f0.fHammers.length f0_fHammers_c)]⟩, ⟨(some d1_b), 89, row encU32 d1.1 []⟩, ⟨o_1368, 95, row encGNote xs_8 sp_1370⟩]) ?_ ?_
      · refine jc_block ?_
        obtain ⟨t_13, ht_1425, hr_1410⟩ := bd h
        refine jc_loop (fun (s : (List GNote) × Int) (x : (Option Nat) × Nat × (List Value) × Nat) => match s, x with | ⟨xs_10, i_11⟩, ⟨o_1404, cap_1405, sp_1406, n_1407⟩ => (xs_10.length = n_1407) ∧ ((o_1404 ≠ none → n_1407 ≤ cap_1405 ∧ sp_1406.length = (cap_1405 - n_1407) * 2)) ∧ ((o_1404 = none → xs_10 = [] ∧ cap_1405 = 0))) (fun (s : (List GNote) × Int) (x : (Option Nat) × Nat × (List Value) × Nat) => match s, x with | ⟨xs_10, i_11⟩, ⟨o_1404, cap_1405, sp_1406, n_1407⟩ => [(0, [], (.pointer (some ⟨f0_b, 0, none⟩))), (1, [], (.pointer (some ⟨d1_b, 0, none⟩))), (4, [], (.slice none 0 0)), (5, [], (.slice (o_1404.map fun b => ⟨b, 0, none⟩) n_1407 cap_1405)), (6, [], (.int .i64 i_5)), (7, [], (.int .i64 i_11))]) (fun (s : (List GNote) × Int) (x : (Option Nat) × Nat × (List Value) × Nat) => match s, x with | ⟨xs_10, i_11⟩, ⟨o_1404, cap_1405, sp_1406, n_1407⟩ => [⟨some f0_b, 42, [(.int .i16 f0.fSteps), (.slice f0_fHammers_a f0.fHammers.length f0_fHammers_c)]⟩, ⟨(some d1_b), 89, row encU32 d1.1 []⟩, ⟨o_1404, 95, row encGNote xs_10 sp_1406⟩]) ht_1425 ⟨o_1306, cap_1307, sp_1308, xs_4.length⟩ ⟨rfl, hs_1310, ho_1311⟩ (by kernel_rfl) [0, 1, 2] (by kernel_rfl) (by kernel_rfl) ?_
        rintro ⟨xs_10, i_11⟩ ⟨o_1404, cap_1405, sp_1406, n_1407⟩ y_1411 ⟨rfl, hs_1408, ho_1409⟩ h
        rw [spec_l02Tune.l_12] at h
        refine jc_seq ?_
        refine jc_seq ?_
        refine jc_region ?_
        refine jo_f [(0, 0), (0, 0), (0, 0), (0, 0), (0, 0), (0, 0), (0, 0)] (by kernel_rfl) ?_
        refine jo_end (by kernel_rfl) ?_
        refine jx_then ?_
        refine jc_cond (decide (i_11 < (f0.fHammers.length : Int))) (by kernel_rfl) (fun hc_1413 => ?_) (fun hc_1413 => ?_)
        · replace h := ifT hc_1413 h
          refine jc_skip ?_
          refine jx_then ?_
          refine jc_seq ?_
          refine jc_block ?_
          refine jc_seq ?_
          refine jc_region ?_
          refine jo_f [(0, 0), (0, 0), (0, 0)] (by kernel_rfl) ?_
          obtain ⟨t_14, ht_1414, h⟩ := bd h
          refine toO (by kernel_rfl) (p_call 0 89 #[(.pointer (some ⟨d1_b, 0, none⟩)), (.int .i64 i_5), (.int .i64 i_11)] (by kernel_rfl) (by kernel_rfl) (fun w hm => spec_l02Pin.calls d1 i_5 i_11 w _ d1_b (hm.pass (N := [⟨(some d1_b), 89, row encU32 d1.1 []⟩]) [1] (by kernel_rfl) (by kernel_rfl)) ht_1414) ?_)
          rintro w v w' hm ⟨rfl, hm'⟩
          refine ⟨_, hm.appW (ps := [(1, ⟨(some d1_b), 89, row encU32 d1.1 []⟩)]) (N := []) hm' (by kernel_rfl) (by kernel_rfl), jkO ?_⟩
          clear hm hm'
          refine jo_end (by kernel_rfl) ?_
          refine jx_then ?_
          refine jc_cond t_14 (by kernel_rfl) (fun hc_1415 => ?_) (fun hc_1415 => ?_)
          · replace h := ifT hc_1415 h
            refine jc_region ?_
            refine jo_f [(0, 0), (0, 0), (0, 0), (0, 0), (0, 0), (0, 0), (0, 0), (0, 0)] (by kernel_rfl) ?_
            obtain ⟨x_15, hx_1416, h⟩ := bd h
            refine toO (by kernel_rfl) (p_idx 0 f0_fHammers_a f0.fHammers.length i_11 2 (by kernel_rfl) (by kernel_rfl) (ix_some hx_1416).1 (ltn hx_1416 rfl) (f0_fHammers_h.sp hx_1416) (jkO ?_))
            refine jo_f [(0, 0)] (by kernel_rfl) ?_
            refine toO (by kernel_rfl) (p_ld 0 (aB f0_fHammers_a) (aO f0_fHammers_a + i_11.toNat * 2) false (((encGHammer x_15).drop 0).take 1) (by kernel_rfl) (by kernel_rfl) (by kernel_rfl) (fun w hm => (((hm.exRowW f0_fHammers_h f0_fHammers_ha).at hx_1416).sub 0 1)) (jkO ?_))
            refine jo_f [(0, 0)] (by kernel_rfl) ?_
            refine toO (by kernel_rfl) (p_a 0 [0] (by kernel_rfl) (fun b => by kernel_rfl) (fun b_1417 => jkO ?_))
            obtain ⟨hg_1418, h⟩ := gd h
            refine toO (by kernel_rfl) (p_apn 0 2 o_1404 95 xs_10.length 1 cap_1405 2 4 (some ⟨b_1417, 0, none⟩) encGNote xs_10 [(⟨(w16 i_5), x_15.fPitch⟩ : GNote)] sp_1406 (.agg #[(.int .i16 0), (.int .i8 0)]) rfl rfl (by kernel_rfl) (by kernel_rfl) (by kernel_rfl) encGNote_len encGNote_cell hs_1408 ho_1409 (fun w hm => (hm.ownRow (hh := 3) (o := (some b_1417)) (T := 95) (enc := encGNote) (xs := [(⟨(w16 i_5), x_15.fPitch⟩ : GNote)]) (sp := []) (by kernel_rfl) (fun e => nomatch e) encGNote_len)) hg_1418 (by kernel_rfl) (by kernel_rfl) (fun o_1419 cap_1420 sp_1421 hs_1422 ho_1423 => jkO ?_))
            refine jo_f [(0, 0)] (by kernel_rfl) ?_
            refine jo_end (by kernel_rfl) ?_
            refine jx_inn ?_
            refine jx_then ?_
            refine jc_region ?_
            refine jo_f [(0, 0), (0, 0), (0, 0)] (by kernel_rfl) ?_
            refine jo_end (by kernel_rfl) ?_
            exact jx_back ((xs_10 ++ [(⟨(w16 i_5), x_15.fPitch⟩ : GNote)]), (w64 (i_11 + 1))) ⟨o_1419, cap_1420, sp_1421, (xs_10 ++ [(⟨(w16 i_5), x_15.fPitch⟩ : GNote)]).length⟩ (Option.some.inj h).symm ⟨rfl, hs_1422, ho_1423⟩ [0, 1, 2] (by kernel_rfl) (by kernel_rfl) (by kernel_rfl)
          · replace h := ifF hc_1415 h
            refine jc_skip ?_
            refine jx_inn ?_
            refine jx_then ?_
            refine jc_region ?_
            refine jo_f [(0, 0), (0, 0), (0, 0)] (by kernel_rfl) ?_
            refine jo_end (by kernel_rfl) ?_
            exact jx_back (xs_10, (w64 (i_11 + 1))) ⟨o_1404, cap_1405, sp_1406, xs_10.length⟩ (Option.some.inj h).symm ⟨rfl, hs_1408, ho_1409⟩ [0, 1, 2] (by kernel_rfl) (by kernel_rfl) (by kernel_rfl)
        · replace h := ifF hc_1413 h
          refine jc_exit ?_
          refine jx_thenx ?_
          refine jx_leave xs_10 (Option.some.inj h).symm (fun e_1424 => ?_)
          subst e_1424
          refine jx_ine ?_
          exact jx_meet ⟨xs_10, o_1404, cap_1405, sp_1406, xs_10.length⟩ ⟨hr_1410, rfl, hs_1408, ho_1409⟩ (by kernel_rfl) [0, 1, 2] (by kernel_rfl) (by kernel_rfl)
      · rintro ⟨xs_8, o_1368, cap_1369, sp_1370, n_1371⟩ ⟨h, rfl, hs_1372, ho_1373⟩
        replace h : spec_l02Tune.k_9 i_5 xs_8 = some y_1313 := h
        rw [spec_l02Tune.k_9] at h
        refine jx_inn ?_
        refine jx_then ?_
        refine jc_region ?_
        refine jo_f [(0, 0), (0, 0), (0, 0)] (by kernel_rfl) ?_
        refine jo_end (by kernel_rfl) ?_
        exact jx_back (xs_8, (w64 (i_5 + 1))) ⟨o_1368, cap_1369, sp_1370, xs_8.length⟩ (Option.some.inj h).symm ⟨rfl, hs_1372, ho_1373⟩ [0, 1, 2] (by kernel_rfl) (by kernel_rfl) (by kernel_rfl)
    · replace h := ifF hc_1315 h
      refine jc_exit ?_
      refine jx_thenx ?_
      refine jx_leave xs_4 (Option.some.inj h).symm (fun e_1426 => ?_)
      subst e_1426
      refine jx_ine ?_
      exact jx_meet ⟨xs_4, o_1306, cap_1307, sp_1308, xs_4.length⟩ ⟨hr_1312, rfl, hs_1310, ho_1311⟩ (by kernel_rfl) [0, 1, 2] (by kernel_rfl) (by kernel_rfl)
  · rintro ⟨xs_1, o_1064, cap_1065, sp_1066, n_1067⟩ ⟨h, rfl, hs_1068, ho_1069⟩
    replace h : spec_l02Tune.k_2 xs_1 = some r := h
    rw [spec_l02Tune.k_2] at h
    refine jx_then ?_
    refine jc_seq ?_
    refine jc_region ?_
    refine jo_f [(0, 0)] (by kernel_rfl) ?_
    obtain ⟨t_3, ht_1070, h⟩ := bd h
    refine toO (by kernel_rfl) (p_call 0 90 #[(.slice (o_1064.map fun b => ⟨b, 0, none⟩) xs_1.length cap_1065)] (by kernel_rfl) (by kernel_rfl) (fun w hm => spec_l01Sorted.calls xs_1 w _ (o_1064.map fun b => ⟨b, 0, none⟩) xs_1.length cap_1065 (hm.ownRow (hh := 2) (o := o_1064) (T := 95) (enc := encGNote) (xs := xs_1) (sp := sp_1066) (by kernel_rfl) (fun e => (ho_1069 e).1) encGNote_len) rfl ht_1070) ?_)
    rintro w v w' hm ⟨o_1071, cap_1072, sp_1073, _, rfl, hs_1074, ho_1075, rfl, hm'⟩
    refine ⟨_, hm.app hm', jkO ?_⟩
    clear hm hm'
    refine jo_f [(0, 0)] (by kernel_rfl) ?_
    refine jo_end (by kernel_rfl) ?_
    refine jx_then ?_
    refine jc_ret ?_
    obtain rfl := Option.some.inj h
    exact jx_ret [] (.slice (o_1071.map fun b => ⟨b, 0, none⟩) t_3.length cap_1072) [] rfl (by kernel_rfl) (by kernel_rfl) (fun w hm => ⟨o_1071, cap_1072, sp_1073, t_3.length, rfl, hs_1074, ho_1075, rfl, hm.pick [0, 1, 3] (by kernel_rfl) (by kernel_rfl)⟩)

/-! ### spec.HeardTune -/
noncomputable def spec_HeardTune (f0 : GFrame) (t1 : List GNote) (list2 : List GChoice) : Option ((List GNote) × Int) := (spec_l07Drum f0 t1 list2).bind fun t_1 => (if (t_1.2 != 0) = true then some (([] : List GNote), t_1.2) else (spec_l02Tune f0 t_1.1).bind fun t_2 => some (t_2, 0))
set_option maxRecDepth 100000 in
theorem spec_HeardTune.calls (f0 : GFrame) (t1 : List GNote) (list2 : List GChoice) (w : World) (r : (List GNote) × Int) (f0_fHammers_a : Option Addr) (f0_fHammers_an : Nat) (f0_fHammers_c : Nat) (f0_fHammers_h : Rw w f0_fHammers_a 2 encGHammer f0.fHammers) (f0_fHammers_hn : f0.fHammers.length = f0_fHammers_an) (t1_a : Option Addr) (t1_an : Nat) (t1_c : Nat) (t1_h : Rw w t1_a 2 encGNote t1) (t1_hn : t1.length = t1_an) (list2_a : Option Addr) (list2_an : Nat) (list2_c : Nat) (list2_h : Rw w list2_a 4 encGChoice list2) (list2_hn : list2.length = list2_an) (h : spec_HeardTune f0 t1 list2 = some r) :
    Calls Tryz.prog 19 #[(.agg #[(.int .i16 f0.fSteps), (.slice f0_fHammers_a f0_fHammers_an f0_fHammers_c)]), (.slice t1_a t1_an t1_c), (.slice list2_a list2_an list2_c)] w fun e w' => ∃ v, e = .returned v ∧ (∃ (o0 : Option Nat) (c0 : Nat) (s0 : List Value) (n0 : Nat), r.1.length = n0 ∧ (o0 ≠ none → n0 ≤ c0 ∧ s0.length = (c0 - n0) * 2) ∧ (o0 = none → r.1 = [] ∧ c0 = 0) ∧ v = .tuple #[.slice (o0.map fun b => ⟨b, 0, none⟩) n0 c0, (.int .i64 r.2)] ∧ Mem w [] [⟨o0, 95, row encGNote r.1 s0⟩] w') := by
  subst f0_fHammers_hn t1_hn list2_hn
  rw [spec_HeardTune] at h
  refine enter (args := [(.agg #[(.int .i16 f0.fSteps), (.slice f0_fHammers_a f0.fHammers.length f0_fHammers_c)]), (.slice t1_a t1.length t1_c), (.slice list2_a list2.length list2_c)]) Tryz.func19 rfl Tryz.ntmps19 (by kernel_rfl) (L := []) (W := []) (Mem.start w) ?_
  refine jc_seq ?_
  refine jc_region ?_
  refine toO (by kernel_rfl) (p_a 0 [0] (by kernel_rfl) (fun b => by kernel_rfl) (fun b_1 => jkO ?_))
  refine jo_f [(0, 0), (0, 0)] (by kernel_rfl) ?_
  refine jo_end (by kernel_rfl) ?_
  refine jx_then ?_
  refine jc_seq ?_
  refine jc_region ?_
  refine jo_f [(0, 0), (0, 0)] (by kernel_rfl) ?_
  obtain ⟨t_1, ht_2, h⟩ := bd h
  refine toO (by kernel_rfl) (p_call 0 53 #[(.pointer (some ⟨b_1, 0, none⟩)), (.slice t1_a t1.length t1_c), (.slice list2_a list2.length list2_c)] (by kernel_rfl) (by kernel_rfl) (fun w hm => spec_l07Drum.calls f0 t1 list2 w _ f0_fHammers_a f0.fHammers.length f0_fHammers_c (hm.exRow f0_fHammers_h List.not_mem_nil) rfl t1_a t1.length t1_c (hm.exRow t1_h List.not_mem_nil) rfl list2_a list2.length list2_c (hm.exRow list2_h List.not_mem_nil) rfl b_1 (hm.pass (N := [⟨some b_1, 42, [(.int .i16 f0.fSteps), (.slice f0_fHammers_a f0.fHammers.length f0_fHammers_c)]⟩]) [0] (by kernel_rfl) (by kernel_rfl)) (hm.exApart (N := [⟨some b_1, 42, [(.int .i16 f0.fSteps), (.slice f0_fHammers_a f0.fHammers.length f0_fHammers_c)]⟩]) f0_fHammers_h (fun _ => List.not_mem_nil) [0] (by kernel_rfl)) (hm.exApart (N := [⟨some b_1, 42, [(.int .i16 f0.fSteps), (.slice f0_fHammers_a f0.fHammers.length f0_fHammers_c)]⟩]) t1_h (fun _ => List.not_mem_nil) [0] (by kernel_rfl)) (hm.exApart (N := [⟨some b_1, 42, [(.int .i16 f0.fSteps), (.slice f0_fHammers_a f0.fHammers.length f0_fHammers_c)]⟩]) list2_h (fun _ => List.not_mem_nil) [0] (by kernel_rfl)) ht_2) ?_)
  rintro w v w' hm ⟨rfl, hm'⟩
  refine ⟨_, hm.appW (ps := [(0, ⟨some b_1, 42, [(.int .i16 f0.fSteps), (.slice f0_fHammers_a f0.fHammers.length f0_fHammers_c)]⟩)]) (N := []) hm' (by kernel_rfl) (by kernel_rfl), jkO ?_⟩
  clear hm hm'
  refine jo_f [(0, 0), (0, 0), (0, 0)] (by kernel_rfl) ?_
  refine toO (by kernel_rfl) (p_a 0 [0] (by kernel_rfl) (fun b => by kernel_rfl) (fun b_3 => jkO ?_))
  refine toO (by kernel_rfl) (p_sA 0 1 b_3 96 1 89 encU32 (Arr.rep 96 0) t_1.1 (by kernel_rfl) (by kernel_rfl) (by kernel_rfl) encU32_len encU32_cell (by kernel_rfl) (jkO ?_))
  refine jo_f [(0, 0)] (by kernel_rfl) ?_
  refine jo_end (by kernel_rfl) ?_
  refine jx_then ?_
  refine jc_seq ?_
  refine jc_seq ?_
  refine jc_region ?_
  refine jo_f [(0, 0), (0, 0)] (by kernel_rfl) ?_
  refine jo_end (by kernel_rfl) ?_
  refine jx_then ?_
  refine jc_cond (t_1.2 != 0) (by kernel_rfl) (fun hc_6 => ?_) (fun hc_6 => ?_)
  · replace h := ifT hc_6 h
    refine jc_seq ?_
    refine jc_region ?_
    refine toO (by kernel_rfl) (p_a 0 [0] (by kernel_rfl) (fun b => by kernel_rfl) (fun b_7 => jkO ?_))
    refine jo_f [(0, 0), (0, 0), (0, 0)] (by kernel_rfl) ?_
    refine jo_end (by kernel_rfl) ?_
    refine jx_then ?_
    refine jc_ret ?_
    refine jx_thenr ?_
    obtain rfl := Option.some.inj h
    exact jx_ret [] (.tuple #[(.slice (some ⟨b_7, 0, none⟩) 0 0), (.int .i64 t_1.2)]) [] rfl (by kernel_rfl) (by kernel_rfl) (fun w hm => ⟨(some b_7), 0, [], 0, rfl, (fun _ => ⟨Nat.le_refl _, by simp⟩), (fun e => nomatch e), rfl, hm.pick [2] (by kernel_rfl) (by kernel_rfl)⟩)
  · replace h := ifF hc_6 h
    refine jc_skip ?_
    refine jx_then ?_
    refine jc_seq ?_
    refine jc_region ?_
    obtain ⟨t_2, ht_8, h⟩ := bd h
    refine toO (by kernel_rfl) (p_call 0 54 #[(.pointer (some ⟨b_1, 0, none⟩)), (.pointer (some ⟨b_3, 0, none⟩))] (by kernel_rfl) (by kernel_rfl) (fun w hm => spec_l02Tune.calls f0 t_1.1 w _ f0_fHammers_a f0.fHammers.length f0_fHammers_c (hm.exRow f0_fHammers_h List.not_mem_nil) rfl b_1 b_3 (hm.pass (N := [⟨some b_1, 42, [(.int .i16 f0.fSteps), (.slice f0_fHammers_a f0.fHammers.length f0_fHammers_c)]⟩, ⟨(some b_3), 89, row encU32 t_1.1.1 []⟩]) [0, 1] (by kernel_rfl) (by kernel_rfl)) (hm.exApart (N := [⟨some b_1, 42, [(.int .i16 f0.fSteps), (.slice f0_fHammers_a f0.fHammers.length f0_fHammers_c)]⟩, ⟨(some b_3), 89, row encU32 t_1.1.1 []⟩]) f0_fHammers_h (fun _ => List.not_mem_nil) [0, 1] (by kernel_rfl)) ht_8) ?_)
    rintro w v w' hm ⟨o_9, cap_10, sp_11, _, rfl, hs_12, ho_13, rfl, hm'⟩
    refine ⟨_, hm.appW (ps := [(0, ⟨some b_1, 42, [(.int .i16 f0.fSteps), (.slice f0_fHammers_a f0.fHammers.length f0_fHammers_c)]⟩), (1, ⟨(some b_3), 89, row encU32 t_1.1.1 []⟩)]) (N := [⟨o_9, 95, row encGNote t_2 sp_11⟩]) hm' (by kernel_rfl) (by kernel_rfl), jkO ?_⟩
    clear hm hm'
    refine jo_f [(0, 0), (0, 0)] (by kernel_rfl) ?_
    refine jo_end (by kernel_rfl) ?_
    refine jx_then ?_
    refine jc_ret ?_
    obtain rfl := Option.some.inj h
    exact jx_ret [] (.tuple #[(.slice (o_9.map fun b => ⟨b, 0, none⟩) t_2.length cap_10), (.int .i64 0)]) [] rfl (by kernel_rfl) (by kernel_rfl) (fun w hm => ⟨o_9, cap_10, sp_11, t_2.length, rfl, hs_12, ho_13, rfl, hm.pick [2] (by kernel_rfl) (by kernel_rfl)⟩)

/-! ### impl.isNote -/
noncomputable def impl_isNote (n0 : GNote) : Option (Bool) := (impl_within (w64 n0.fAt) 0 199).bind fun t_1 => (if t_1 = true then (impl_isPitch (w64 n0.fPitch)).bind fun t_2 => some t_2 else some false)
set_option maxRecDepth 100000 in
theorem impl_isNote.calls (n0 : GNote) (w : World) (r : Bool) (h : impl_isNote n0 = some r) :
    Calls Tryz.prog 184 #[(.agg #[(.int .i16 n0.fAt), (.int .i8 n0.fPitch)])] w fun e w' => ∃ v, e = .returned v ∧ (v = (.bool r) ∧ Mem w [] [] w') := by
  rw [impl_isNote] at h
  refine enter (args := [(.agg #[(.int .i16 n0.fAt), (.int .i8 n0.fPitch)])]) Tryz.func184 rfl Tryz.ntmps184 (by kernel_rfl) (L := []) (W := []) (Mem.start w) ?_
  refine jc_seq ?_
  refine jc_region ?_
  refine toO (by kernel_rfl) (p_a 0 [0] (by kernel_rfl) (fun b => by kernel_rfl) (fun b_1 => jkO ?_))
  refine jo_f [(0, 0)] (by kernel_rfl) ?_
  refine jo_end (by kernel_rfl) ?_
  refine jx_then ?_
  refine jc_seq ?_
  refine jc_region ?_
  refine jo_f [(0, 0), (0, 0), (0, 0)] (by kernel_rfl) ?_
  obtain ⟨t_1, ht_2, h⟩ := bd h
  refine toO (by kernel_rfl) (p_call 0 94 #[(.int .i64 (w64 n0.fAt)), (.int .i64 0), (.int .i64 199)] (by kernel_rfl) (by kernel_rfl) (fun w hm => impl_within.calls (w64 n0.fAt) 0 199 w _ ht_2) ?_)
  rintro w v w' hm ⟨rfl, hm'⟩
  refine ⟨_, hm.app hm', jkO ?_⟩
  clear hm hm'
  refine jo_f [(0, 0), (0, 1), (0, 1), (0, 1)] (by kernel_rfl) ?_
  refine jo_split 7 t_1 (by kernel_rfl) (fun hc_3 => ?_) (fun hc_3 => ?_)
  · replace h := ifT hc_3 h
    obtain ⟨t_2, ht_4, h⟩ := bd h
    refine toO (by kernel_rfl) (p_call 2 129 #[(.int .i64 (w64 n0.fPitch))] (by kernel_rfl) (by kernel_rfl) (fun w hm => impl_isPitch.calls (w64 n0.fPitch) w _ ht_4) ?_)
    rintro w v w' hm ⟨rfl, hm'⟩
    refine ⟨_, hm.app hm', jkO ?_⟩
    clear hm hm'
    refine jo_f [(0, 4), (0, 0)] (by kernel_rfl) ?_
    refine jo_end (by kernel_rfl) ?_
    refine jx_then ?_
    refine jc_ret ?_
    obtain rfl := Option.some.inj h
    exact jx_ret [] (.bool t_2) [] rfl (by kernel_rfl) (by kernel_rfl) (fun w hm => ⟨rfl, hm.pick [] (by kernel_rfl) (by kernel_rfl)⟩)
  · replace h := ifF hc_3 h
    refine jo_f [(0, 3), (0, 5), (0, 0)] (by kernel_rfl) ?_
    refine jo_end (by kernel_rfl) ?_
    refine jx_then ?_
    refine jc_ret ?_
    obtain rfl := Option.some.inj h
    exact jx_ret [] (.bool false) [] rfl (by kernel_rfl) (by kernel_rfl) (fun w hm => ⟨rfl, hm.pick [] (by kernel_rfl) (by kernel_rfl)⟩)

/-! ### cmp.isNaN[int16] -/
noncomputable def cmp_isNaN_int16 (x0 : Int) : Option (Bool) := some (x0 != x0)
set_option maxRecDepth 100000 in
theorem cmp_isNaN_int16.calls (x0 : Int) (w : World) (r : Bool) (h : cmp_isNaN_int16 x0 = some r) :
    Calls Tryz.prog 177 #[(.int .i16 x0)] w fun e w' => ∃ v, e = .returned v ∧ (v = (.bool r) ∧ Mem w [] [] w') := by
  rw [cmp_isNaN_int16] at h
  refine enter (args := [(.int .i16 x0)]) Tryz.func177 rfl Tryz.ntmps177 (by kernel_rfl) (L := []) (W := []) (Mem.start w) ?_
  refine jc_seq ?_
  refine jc_region ?_
  refine jo_f [(0, 0)] (by kernel_rfl) ?_
  refine jo_end (by kernel_rfl) ?_
  refine jx_then ?_
  refine jc_seq ?_
  refine jc_region ?_
  refine jo_f [(0, 0), (0, 0), (0, 0), (0, 0)] (by kernel_rfl) ?_
  refine jo_end (by kernel_rfl) ?_
  refine jx_then ?_
  refine jc_ret ?_
  obtain rfl := Option.some.inj h
  exact jx_ret [] (.bool (x0 != x0)) [] rfl (by kernel_rfl) (by kernel_rfl) (fun w hm => ⟨rfl, hm.pick [] (by kernel_rfl) (by kernel_rfl)⟩)

/-! ### cmp.Compare[int16] -/
noncomputable def cmp_Compare_int16 (x0 : Int) (y1 : Int) : Option (Int) := (cmp_isNaN_int16 x0).bind fun t_1 => (cmp_isNaN_int16 y1).bind fun t_2 => (if t_1 = true then (if t_2 = true then some 0 else some (-1)) else (if t_2 = true then some 1 else (if (decide (x0 < y1)) = true then some (-1) else (if (decide (x0 > y1)) = true then some 1 else some 0))))
set_option maxRecDepth 100000 in
theorem cmp_Compare_int16.calls (x0 : Int) (y1 : Int) (w : World) (r : Int) (h : cmp_Compare_int16 x0 y1 = some r) :
    Calls Tryz.prog 147 #[(.int .i16 x0), (.int .i16 y1)] w fun e w' => ∃ v, e = .returned v ∧ (v = (.int .i64 r) ∧ Mem w [] [] w') := by
  rw [cmp_Compare_int16] at h
  refine enter (args := [(.int .i16 x0), (.int .i16 y1)]) Tryz.func147 rfl Tryz.ntmps147 (by kernel_rfl) (L := []) (W := []) (Mem.start w) ?_
  refine jc_seq ?_
  refine jc_region ?_
  refine jo_f [(0, 0)] (by kernel_rfl) ?_
  refine jo_end (by kernel_rfl) ?_
  refine jx_then ?_
  refine jc_seq ?_
  refine jc_region ?_
  refine jo_f [(0, 0)] (by kernel_rfl) ?_
  obtain ⟨t_1, ht_1, h⟩ := bd h
  refine toO (by kernel_rfl) (p_call 0 177 #[(.int .i16 x0)] (by kernel_rfl) (by kernel_rfl) (fun w hm => cmp_isNaN_int16.calls x0 w _ ht_1) ?_)
  rintro w v w' hm ⟨rfl, hm'⟩
  refine ⟨_, hm.app hm', jkO ?_⟩
  clear hm hm'
  refine jo_f [(0, 0)] (by kernel_rfl) ?_
  refine jo_end (by kernel_rfl) ?_
  refine jx_then ?_
  refine jc_seq ?_
  refine jc_region ?_
  refine jo_f [(0, 0)] (by kernel_rfl) ?_
  obtain ⟨t_2, ht_2, h⟩ := bd h
  refine toO (by kernel_rfl) (p_call 0 177 #[(.int .i16 y1)] (by kernel_rfl) (by kernel_rfl) (fun w hm => cmp_isNaN_int16.calls y1 w _ ht_2) ?_)
  rintro w v w' hm ⟨rfl, hm'⟩
  refine ⟨_, hm.app hm', jkO ?_⟩
  clear hm hm'
  refine jo_f [(0, 0)] (by kernel_rfl) ?_
  refine jo_end (by kernel_rfl) ?_
  refine jx_then ?_
  refine jc_seq ?_
  refine jc_seq ?_
  refine jc_region ?_
  refine jo_f [(0, 0)] (by kernel_rfl) ?_
  refine jo_end (by kernel_rfl) ?_
  refine jx_then ?_
  refine jc_cond t_1 (by kernel_rfl) (fun hc_5 => ?_) (fun hc_5 => ?_)
  · replace h := ifT hc_5 h
    refine jc_seq ?_
    refine jc_seq ?_
    refine jc_region ?_
    refine jo_f [(0, 0)] (by kernel_rfl) ?_
    refine jo_end (by kernel_rfl) ?_
    refine jx_then ?_
    refine jc_cond t_2 (by kernel_rfl) (fun hc_6 => ?_) (fun hc_6 => ?_)
    · replace h := ifT hc_6 h
      refine jc_seq ?_
      refine jc_region ?_
      refine jo_f [(0, 0)] (by kernel_rfl) ?_
      refine jo_end (by kernel_rfl) ?_
      refine jx_then ?_
      refine jc_ret ?_
      refine jx_thenr ?_
      refine jx_thenr ?_
      obtain rfl := Option.some.inj h
      exact jx_ret [] (.int .i64 0) [] rfl (by kernel_rfl) (by kernel_rfl) (fun w hm => ⟨rfl, hm.pick [] (by kernel_rfl) (by kernel_rfl)⟩)
    · replace h := ifF hc_6 h
      refine jc_skip ?_
      refine jx_then ?_
      refine jc_seq ?_
      refine jc_region ?_
      refine jo_f [(0, 0)] (by kernel_rfl) ?_
      refine jo_end (by kernel_rfl) ?_
      refine jx_then ?_
      refine jc_ret ?_
      refine jx_thenr ?_
      obtain rfl := Option.some.inj h
      exact jx_ret [] (.int .i64 (-1)) [] rfl (by kernel_rfl) (by kernel_rfl) (fun w hm => ⟨rfl, hm.pick [] (by kernel_rfl) (by kernel_rfl)⟩)
  · replace h := ifF hc_5 h
    refine jc_skip ?_
    refine jx_then ?_
    refine jc_seq ?_
    refine jc_seq ?_
    refine jc_region ?_
    refine jo_f [(0, 0)] (by kernel_rfl) ?_
    refine jo_end (by kernel_rfl) ?_
    refine jx_then ?_
    refine jc_cond t_2 (by kernel_rfl) (fun hc_8 => ?_) (fun hc_8 => ?_)
    · replace h := ifT hc_8 h
      refine jc_seq ?_
      refine jc_region ?_
      refine jo_f [(0, 0)] (by kernel_rfl) ?_
      refine jo_end (by kernel_rfl) ?_
      refine jx_then ?_
      refine jc_ret ?_
      refine jx_thenr ?_
      obtain rfl := Option.some.inj h
      exact jx_ret [] (.int .i64 1) [] rfl (by kernel_rfl) (by kernel_rfl) (fun w hm => ⟨rfl, hm.pick [] (by kernel_rfl) (by kernel_rfl)⟩)
    · replace h := ifF hc_8 h
      refine jc_skip ?_
      refine jx_then ?_
      refine jc_seq ?_
      refine jc_seq ?_
      refine jc_region ?_
      refine jo_f [(0, 0), (0, 0), (0, 0)] (by kernel_rfl) ?_
      refine jo_end (by kernel_rfl) ?_
      refine jx_then ?_
      refine jc_cond (decide (x0 < y1)) (by kernel_rfl) (fun hc_10 => ?_) (fun hc_10 => ?_)
      · replace h := ifT hc_10 h
        refine jc_seq ?_
        refine jc_region ?_
        refine jo_f [(0, 0)] (by kernel_rfl) ?_
        refine jo_end (by kernel_rfl) ?_
        refine jx_then ?_
        refine jc_ret ?_
        refine jx_thenr ?_
        obtain rfl := Option.some.inj h
        exact jx_ret [] (.int .i64 (-1)) [] rfl (by kernel_rfl) (by kernel_rfl) (fun w hm => ⟨rfl, hm.pick [] (by kernel_rfl) (by kernel_rfl)⟩)
      · replace h := ifF hc_10 h
        refine jc_skip ?_
        refine jx_then ?_
        refine jc_seq ?_
        refine jc_seq ?_
        refine jc_region ?_
        refine jo_f [(0, 0), (0, 0), (0, 0)] (by kernel_rfl) ?_
        refine jo_end (by kernel_rfl) ?_
        refine jx_then ?_
        refine jc_cond (decide (x0 > y1)) (by kernel_rfl) (fun hc_11 => ?_) (fun hc_11 => ?_)
        · replace h := ifT hc_11 h
          refine jc_seq ?_
          refine jc_region ?_
          refine jo_f [(0, 0)] (by kernel_rfl) ?_
          refine jo_end (by kernel_rfl) ?_
          refine jx_then ?_
          refine jc_ret ?_
          refine jx_thenr ?_
          obtain rfl := Option.some.inj h
          exact jx_ret [] (.int .i64 1) [] rfl (by kernel_rfl) (by kernel_rfl) (fun w hm => ⟨rfl, hm.pick [] (by kernel_rfl) (by kernel_rfl)⟩)
        · replace h := ifF hc_11 h
          refine jc_skip ?_
          refine jx_then ?_
          refine jc_seq ?_
          refine jc_region ?_
          refine jo_f [(0, 0)] (by kernel_rfl) ?_
          refine jo_end (by kernel_rfl) ?_
          refine jx_then ?_
          refine jc_ret ?_
          obtain rfl := Option.some.inj h
          exact jx_ret [] (.int .i64 0) [] rfl (by kernel_rfl) (by kernel_rfl) (fun w hm => ⟨rfl, hm.pick [] (by kernel_rfl) (by kernel_rfl)⟩)

/-! ### impl.compareNotes -/
noncomputable def impl_compareNotes (a0 : GNote) (b1 : GNote) : Option (Int) := (cmp_Compare_int16 a0.fAt b1.fAt).bind fun t_1 => (cmp_Compare_int8 a0.fPitch b1.fPitch).bind fun t_2 => (cmp_Or_int [t_1, t_2]).bind fun t_3 => some t_3
set_option maxRecDepth 100000 in
theorem impl_compareNotes.calls (a0 : GNote) (b1 : GNote) (w : World) (r : Int) (h : impl_compareNotes a0 b1 = some r) :
    Calls Tryz.prog 125 #[(.agg #[(.int .i16 a0.fAt), (.int .i8 a0.fPitch)]), (.agg #[(.int .i16 b1.fAt), (.int .i8 b1.fPitch)])] w fun e w' => ∃ v, e = .returned v ∧ (v = (.int .i64 r) ∧ Mem w [] [] w') := by
  rw [impl_compareNotes] at h
  refine enter (args := [(.agg #[(.int .i16 a0.fAt), (.int .i8 a0.fPitch)]), (.agg #[(.int .i16 b1.fAt), (.int .i8 b1.fPitch)])]) Tryz.func125 rfl Tryz.ntmps125 (by kernel_rfl) (L := []) (W := []) (Mem.start w) ?_
  refine jc_seq ?_
  refine jc_region ?_
  refine toO (by kernel_rfl) (p_a 0 [0] (by kernel_rfl) (fun b => by kernel_rfl) (fun b_1 => jkO ?_))
  refine toO (by kernel_rfl) (p_a 0 [0] (by kernel_rfl) (fun b => by kernel_rfl) (fun b_2 => jkO ?_))
  refine jo_f [(0, 0)] (by kernel_rfl) ?_
  refine jo_end (by kernel_rfl) ?_
  refine jx_then ?_
  refine jc_seq ?_
  refine jc_draw [⟨some b_1, 95, [(.int .i16 a0.fAt), (.int .i8 a0.fPitch)]⟩, ⟨some b_2, 95, [(.int .i16 b1.fAt), (.int .i8 b1.fPitch)]⟩] 13 (by kernel_rfl) (by kernel_rfl) ?_
  refine jd_f [⟨0, 0, 0⟩, ⟨1, 0, 0⟩, ⟨2, 0, 0⟩, ⟨3, 1, 0⟩, ⟨5, 0, 0⟩, ⟨6, 0, 0⟩, ⟨7, 0, 0⟩, ⟨8, 1, 0⟩] 5 (by kernel_rfl) (by kernel_rfl) (fun w h => h.pick [0, 1] (by kernel_rfl) (by kernel_rfl)) (by kernel_rfl) (by kernel_rfl) ?_
  obtain ⟨t_1, ht_3, h⟩ := bd h
  refine toD 4 (by kernel_rfl) (p_call 0 147 #[(.int .i16 a0.fAt), (.int .i16 b1.fAt)] (by kernel_rfl) (by kernel_rfl) (fun w hm => cmp_Compare_int16.calls a0.fAt b1.fAt w _ ht_3) ?_)
  rintro w v w' hm ⟨rfl, hm'⟩
  refine ⟨_, hm.app hm', jkD (fun w h => h.pick [0, 1] (by kernel_rfl) (by kernel_rfl)) ?_⟩
  clear hm hm'
  obtain ⟨t_2, ht_4, h⟩ := bd h
  refine toD 9 (by kernel_rfl) (p_call 0 132 #[(.int .i8 a0.fPitch), (.int .i8 b1.fPitch)] (by kernel_rfl) (by kernel_rfl) (fun w hm => cmp_Compare_int8.calls a0.fPitch b1.fPitch w _ ht_4) ?_)
  rintro w v w' hm ⟨rfl, hm'⟩
  refine ⟨_, hm.app hm', jkD (fun w h => h.pick [0, 1] (by kernel_rfl) (by kernel_rfl)) ?_⟩
  clear hm hm'
  refine toD 10 (by kernel_rfl) (p_a 0 [0] (by kernel_rfl) (fun b => by kernel_rfl) (fun b_5 => jkD (fun w h => h.pick [0, 1] (by kernel_rfl) (by kernel_rfl)) ?_))
  obtain ⟨t_3, ht_6, h⟩ := bd h
  refine toD 11 (by kernel_rfl) (p_call 0 131 #[(.slice (some ⟨b_5, 0, none⟩) 2 2)] (by kernel_rfl) (by kernel_rfl) (fun w hm => cmp_Or_int.calls [t_1, t_2] w _ (some ⟨b_5, 0, none⟩) 2 2 (hm.ownRow (hh := 2) (o := (some b_5)) (T := 3) (enc := encI64) (xs := [t_1, t_2]) (sp := []) (by kernel_rfl) (fun e => nomatch e) encI64_len) rfl ht_6) ?_)
  rintro w v w' hm ⟨rfl, hm'⟩
  refine ⟨_, hm.app hm', jkD (fun w h => h.pick [0, 1] (by kernel_rfl) (by kernel_rfl)) ?_⟩
  clear hm hm'
  refine jd_f [⟨12, 0, 0⟩] 0 (by kernel_rfl) (by kernel_rfl) (fun w h => h.pick [0, 1] (by kernel_rfl) (by kernel_rfl)) (by kernel_rfl) (by kernel_rfl) ?_
  refine jd_end (by kernel_rfl) ?_
  refine jx_then ?_
  refine jc_ret ?_
  obtain rfl := Option.some.inj h
  exact jx_ret [] (.int .i64 t_3) [] rfl (by kernel_rfl) (by kernel_rfl) (fun w hm => ⟨rfl, hm.pick [] (by kernel_rfl) (by kernel_rfl)⟩)

/-! ### impl.ValidTune -/
noncomputable def impl_ValidTune.k_1 (t0 : List GNote) : Option (Bool) := some (decide ((t0.length : Int) ≤ 120))
noncomputable def impl_ValidTune.k_7 (i_2 : Int) (q_6 : Bool) : Option ((Int) ⊕ (Bool ⊕ Unit)) := (if q_6 = true then some (.inr (.inl false)) else some (.inl (w64 (i_2 + 1))))
noncomputable def impl_ValidTune.l_3 (t0 : List GNote) : Int → Option ((Int) ⊕ (Bool ⊕ Unit))
  | i_2 => (if (decide (i_2 < (t0.length : Int))) = true then (ix t0 i_2).bind fun x_5 => (impl_isNote x_5).bind fun t_8 => (if (!t_8) = true then impl_ValidTune.k_7 i_2 true else (if (decide (i_2 > 0)) = true then (ix t0 (w64 (i_2 - 1))).bind fun x_9 => (impl_compareNotes x_9 x_5).bind fun t_10 => impl_ValidTune.k_7 i_2 (decide (t_10 ≥ 0)) else impl_ValidTune.k_7 i_2 false)) else some (.inr (.inr ())))
noncomputable def impl_ValidTune (t0 : List GNote) : Option (Bool) := (loop (impl_ValidTune.l_3 t0) 0).bind fun t_4 => match t_4 with | .inl p => some p | .inr p => impl_ValidTune.k_1 t0
set_option maxRecDepth 100000 in
theorem impl_ValidTune.calls (t0 : List GNote) (w : World) (r : Bool) (t0_a : Option Addr) (t0_an : Nat) (t0_c : Nat) (t0_h : Rw w t0_a 2 encGNote t0) (t0_hn : t0.length = t0_an) (h : impl_ValidTune t0 = some r) :
    Calls Tryz.prog 162 #[(.slice t0_a t0_an t0_c)] w fun e w' => ∃ v, e = .returned v ∧ (v = (.bool r) ∧ Mem w [] [] w') := by
  subst t0_hn
  rw [impl_ValidTune] at h
  refine enter (args := [(.slice t0_a t0.length t0_c)]) Tryz.func162 rfl Tryz.ntmps162 (by kernel_rfl) (L := []) (W := []) (Mem.start w) ?_
  refine jc_seq ?_
  refine jc_region ?_
  refine jo_f [(0, 0)] (by kernel_rfl) ?_
  refine jo_end (by kernel_rfl) ?_
  refine jx_then ?_
  refine jc_seq ?_
  refine jc_seq ?_
  refine jc_region ?_
  refine jo_f [(0, 0), (0, 0), (0, 0)] (by kernel_rfl) ?_
  refine jo_end (by kernel_rfl) ?_
  refine jx_then ?_
  refine jc_meet (fun (_ : Unit) => impl_ValidTune.k_1 t0 = some r) (fun (_ : Unit) => [(0, [], (.slice t0_a t0.length t0_c)), (2, [], (.bool false))]) (fun (_ : Unit) => []) ?_ ?_
  · refine jc_block ?_
    obtain ⟨t_4, ht_200, hr_181⟩ := bd h
    refine jc_loop (fun (s : Int) (x : Unit) => match s, x with | i_2, _ => True) (fun (s : Int) (x : Unit) => match s, x with | i_2, _ => [(0, [], (.slice t0_a t0.length t0_c)), (2, [], (.bool false)), (5, [], (.slice t0_a t0.length t0_c)), (6, [], (.int .i64 (t0.length : Int))), (7, [], (.int .i64 i_2))]) (fun (s : Int) (x : Unit) => match s, x with | i_2, _ => []) ht_200 () trivial (by kernel_rfl) [] (by kernel_rfl) (by kernel_rfl) ?_
    rintro i_2 _ y_182 _ h
    rw [impl_ValidTune.l_3] at h
    refine jc_seq ?_
    refine jc_region ?_
    refine jo_f [(0, 0)] (by kernel_rfl) ?_
    refine jo_end (by kernel_rfl) ?_
    refine jx_then ?_
    refine jc_seq ?_
    refine jc_cond (decide (i_2 < (t0.length : Int))) (by kernel_rfl) (fun hc_184 => ?_) (fun hc_184 => ?_)
    · replace h := ifT hc_184 h
      refine jc_skip ?_
      refine jx_then ?_
      refine jc_seq ?_
      refine jc_block ?_
      refine jc_seq ?_
      refine jc_region ?_
      refine jo_f [(0, 0)] (by kernel_rfl) ?_
      obtain ⟨x_5, hx_185, h⟩ := bd h
      refine toO (by kernel_rfl) (p_idx 0 t0_a t0.length i_2 2 (by kernel_rfl) (by kernel_rfl) (ix_some hx_185).1 (ltn hx_185 rfl) (t0_h.sp hx_185) (jkO ?_))
      refine toO (by kernel_rfl) (p_ld 0 (aB t0_a) (aO t0_a + i_2.toNat * 2) true (encGNote x_5) (by kernel_rfl) (by kernel_rfl) (by kernel_rfl) (fun w hm => ((hm.exRow t0_h List.not_mem_nil).at hx_185)) (jkO ?_))
      refine toO (by kernel_rfl) (p_a 0 [0] (by kernel_rfl) (fun b => by kernel_rfl) (fun b_186 => jkO ?_))
      refine jo_f [(0, 0)] (by kernel_rfl) ?_
      refine toO (by kernel_rfl) (p_s 0 [0] (by kernel_rfl) (by kernel_rfl) (jkO ?_))
      refine jo_end (by kernel_rfl) ?_
      refine jx_then ?_
      refine jc_seq ?_
      refine jc_meet (fun (j : Bool) => match j with | q_6 => impl_ValidTune.k_7 i_2 q_6 = some y_182) (fun (j : Bool) => match j with | q_6 => [(0, [], (.slice t0_a t0.length t0_c)), (2, [], (.bool false)), (5, [], (.slice t0_a t0.length t0_c)), (6, [], (.int .i64 (t0.length : Int))), (7, [], (.int .i64 i_2)), (28, [], (.bool q_6))]) (fun (j : Bool) => match j with | q_6 => [⟨some b_186, 95, [(.int .i16 x_5.fAt), (.int .i8 x_5.fPitch)]⟩]) ?_ ?_
      · refine jc_draw [⟨some b_186, 95, [(.int .i16 x_5.fAt), (.int .i8 x_5.fPitch)]⟩] 17 (by kernel_rfl) (by kernel_rfl) ?_
        refine jd_f [⟨0, 0, 0⟩] 16 (by kernel_rfl) (by kernel_rfl) (fun w h => h.pick [0] (by kernel_rfl) (by kernel_rfl)) (by kernel_rfl) (by kernel_rfl) ?_
        obtain ⟨t_8, ht_194, h⟩ := bd h
        refine toD 1 (by kernel_rfl) (p_call 0 184 #[(.agg #[(.int .i16 x_5.fAt), (.int .i8 x_5.fPitch)])] (by kernel_rfl) (by kernel_rfl) (fun w hm => impl_isNote.calls x_5 w _ ht_194) ?_)
        rintro w v w' hm ⟨rfl, hm'⟩
        refine ⟨_, hm.app hm', jkD (fun w h => h.pick [0] (by kernel_rfl) (by kernel_rfl)) ?_⟩
        clear hm hm'
        refine jd_f [⟨2, 0, 0⟩, ⟨3, 0, 0⟩, ⟨4, 0, 1⟩, ⟨5, 0, 1⟩] 11 (by kernel_rfl) (by kernel_rfl) (fun w h => h.pick [0] (by kernel_rfl) (by kernel_rfl)) (by kernel_rfl) (by kernel_rfl) ?_
        refine jd_split 15 (!t_8) (by kernel_rfl) (fun hc_195 => ?_) (fun hc_195 => ?_)
        · replace h := ifT hc_195 h
          refine jd_f [⟨6, 0, 3⟩, ⟨7, 0, 3⟩, ⟨8, 0, 3⟩, ⟨9, 0, 3⟩, ⟨10, 0, 3⟩, ⟨11, 0, 3⟩, ⟨12, 0, 3⟩, ⟨13, 0, 3⟩, ⟨14, 0, 3⟩, ⟨15, 0, 3⟩, ⟨16, 0, 4⟩] 0 (by kernel_rfl) (by kernel_rfl) (fun w h => h.pick [0] (by kernel_rfl) (by kernel_rfl)) (by kernel_rfl) (by kernel_rfl) ?_
          refine jd_end (by kernel_rfl) ?_
          exact jx_meet true h (by kernel_rfl) [0] (by kernel_rfl) (by kernel_rfl)
        · replace h := ifF hc_195 h
          refine jd_f [⟨6, 0, 2⟩, ⟨7, 0, 1⟩, ⟨8, 0, 1⟩, ⟨9, 0, 1⟩, ⟨12, 0, 1⟩] 6 (by kernel_rfl) (by kernel_rfl) (fun w h => h.pick [0] (by kernel_rfl) (by kernel_rfl)) (by kernel_rfl) (by kernel_rfl) ?_
          refine jd_split 18 (decide (i_2 > 0)) (by kernel_rfl) (fun hc_196 => ?_) (fun hc_196 => ?_)
          · replace h := ifT hc_196 h
            obtain ⟨x_9, hx_197, h⟩ := bd h
            refine jd_v 10 2 (by kernel_rfl) (fun w h => h.pick [0] (by kernel_rfl) (by kernel_rfl)) (by kernel_rfl) (by kernel_rfl) _ (fun w hm => idx_run (a := t0_a) (len := t0.length) (s := 2) (j := (w64 (i_2 - 1))) (by kernel_rfl) (ix_some hx_197).1 (ltn hx_197 rfl) (t0_h.sp hx_197)) ?_
            refine jd_v 11 2 (by kernel_rfl) (fun w h => h.pick [0] (by kernel_rfl) (by kernel_rfl)) (by kernel_rfl) (by kernel_rfl) _ (fun w hm => ld_run (b := aB t0_a) (off := (aO t0_a + (w64 (i_2 - 1)).toNat * 2)) (s := 2) (agg := true) (vs := (encGNote x_9)) (by kernel_rfl) (by kernel_rfl) (.inl rfl) ((hm.exRow t0_h List.not_mem_nil).at hx_197)) ?_
            obtain ⟨t_10, ht_198, h⟩ := bd h
            refine toD 13 (by kernel_rfl) (p_call 2 125 #[(.agg #[(.int .i16 x_9.fAt), (.int .i8 x_9.fPitch)]), (.agg #[(.int .i16 x_5.fAt), (.int .i8 x_5.fPitch)])] (by kernel_rfl) (by kernel_rfl) (fun w hm => impl_compareNotes.calls x_9 x_5 w _ ht_198) ?_)
            rintro w v w' hm ⟨rfl, hm'⟩
            refine ⟨_, hm.app hm', jkD (fun w h => h.pick [0] (by kernel_rfl) (by kernel_rfl)) ?_⟩
            clear hm hm'
            refine jd_f [⟨14, 0, 2⟩, ⟨15, 0, 4⟩, ⟨16, 0, 5⟩] 0 (by kernel_rfl) (by kernel_rfl) (fun w h => h.pick [0] (by kernel_rfl) (by kernel_rfl)) (by kernel_rfl) (by kernel_rfl) ?_
            refine jd_end (by kernel_rfl) ?_
            exact jx_meet (decide (t_10 ≥ 0)) h (by kernel_rfl) [0] (by kernel_rfl) (by kernel_rfl)
          · replace h := ifF hc_196 h
            refine jd_f [⟨10, 0, 3⟩, ⟨11, 0, 3⟩, ⟨13, 0, 3⟩, ⟨14, 0, 3⟩, ⟨15, 0, 5⟩, ⟨16, 0, 5⟩] 0 (by kernel_rfl) (by kernel_rfl) (fun w h => h.pick [0] (by kernel_rfl) (by kernel_rfl)) (by kernel_rfl) (by kernel_rfl) ?_
            refine jd_end (by kernel_rfl) ?_
            exact jx_meet false h (by kernel_rfl) [0] (by kernel_rfl) (by kernel_rfl)
      · rintro q_6 h
        replace h : impl_ValidTune.k_7 i_2 q_6 = some y_182 := h
        rw [impl_ValidTune.k_7] at h
        refine jx_then ?_
        refine jc_cond q_6 (by kernel_rfl) (fun hc_192 => ?_) (fun hc_192 => ?_)
        · replace h := ifT hc_192 h
          refine jc_seq ?_
          refine jc_region ?_
          refine jo_f [(0, 0)] (by kernel_rfl) ?_
          refine jo_end (by kernel_rfl) ?_
          refine jx_then ?_
          refine jc_ret ?_
          refine jx_inr ?_
          refine jx_thenr ?_
          refine jx_leaver (.inl false) (Option.some.inj h).symm (fun e_193 => ?_)
          subst e_193
          refine jx_inr ?_
          refine jx_thenr ?_
          refine jx_thenr ?_
          obtain rfl := Option.some.inj hr_181
          exact jx_ret [] (.bool false) [] rfl (by kernel_rfl) (by kernel_rfl) (fun w hm => ⟨rfl, hm.pick [] (by kernel_rfl) (by kernel_rfl)⟩)
        · replace h := ifF hc_192 h
          refine jc_skip ?_
          refine jx_inn ?_
          refine jx_then ?_
          refine jc_region ?_
          refine jo_f [(0, 0), (0, 0)] (by kernel_rfl) ?_
          refine jo_end (by kernel_rfl) ?_
          exact jx_back (w64 (i_2 + 1)) () (Option.some.inj h).symm trivial [] (by kernel_rfl) (by kernel_rfl) (by kernel_rfl)
    · replace h := ifF hc_184 h
      refine jc_exit ?_
      refine jx_thenx ?_
      refine jx_leave (.inr ()) (Option.some.inj h).symm (fun e_199 => ?_)
      subst e_199
      refine jx_ine ?_
      exact jx_meet () hr_181 (by kernel_rfl) [] (by kernel_rfl) (by kernel_rfl)
  · rintro _ h
    replace h : impl_ValidTune.k_1 t0 = some r := h
    rw [impl_ValidTune.k_1] at h
    refine jx_then ?_
    refine jc_seq ?_
    refine jc_region ?_
    refine jo_f [(0, 0), (0, 0), (0, 0), (0, 0)] (by kernel_rfl) ?_
    refine jo_end (by kernel_rfl) ?_
    refine jx_then ?_
    refine jc_ret ?_
    obtain rfl := Option.some.inj h
    exact jx_ret [] (.bool (decide ((t0.length : Int) ≤ 120))) [] rfl (by kernel_rfl) (by kernel_rfl) (fun w hm => ⟨rfl, hm.pick [] (by kernel_rfl) (by kernel_rfl)⟩)

/-! ### impl.tuneCode$1 -/
noncomputable def impl_tuneCode_1 (t0 : List GNote) : Option (Bool) := (impl_ValidTune t0).bind fun t_1 => some (!t_1)
set_option maxRecDepth 100000 in
theorem impl_tuneCode_1.calls (t0 : List GNote) (w : World) (r : Bool) (t0_a : Option Addr) (t0_an : Nat) (t0_c : Nat) (t0_h : Rw w t0_a 2 encGNote t0) (t0_hn : t0.length = t0_an) (h : impl_tuneCode_1 t0 = some r) :
    Calls Tryz.prog 161 #[(.slice t0_a t0_an t0_c)] w fun e w' => ∃ v, e = .returned v ∧ (v = (.bool r) ∧ Mem w [] [] w') := by
  subst t0_hn
  rw [impl_tuneCode_1] at h
  refine enter (args := [(.slice t0_a t0.length t0_c)]) Tryz.func161 rfl Tryz.ntmps161 (by kernel_rfl) (L := []) (W := []) (Mem.start w) ?_
  refine jc_seq ?_
  refine jc_region ?_
  refine jo_f [(0, 0)] (by kernel_rfl) ?_
  refine jo_end (by kernel_rfl) ?_
  refine jx_then ?_
  refine jc_seq ?_
  refine jc_region ?_
  refine jo_f [(0, 0)] (by kernel_rfl) ?_
  obtain ⟨t_1, ht_1, h⟩ := bd h
  refine toO (by kernel_rfl) (p_call 0 162 #[(.slice t0_a t0.length t0_c)] (by kernel_rfl) (by kernel_rfl) (fun w hm => impl_ValidTune.calls t0 w _ t0_a t0.length t0_c (hm.exRow t0_h List.not_mem_nil) rfl ht_1) ?_)
  rintro w v w' hm ⟨rfl, hm'⟩
  refine ⟨_, hm.app hm', jkO ?_⟩
  clear hm hm'
  refine jo_f [(0, 0), (0, 0)] (by kernel_rfl) ?_
  refine jo_end (by kernel_rfl) ?_
  refine jx_then ?_
  refine jc_ret ?_
  obtain rfl := Option.some.inj h
  exact jx_ret [] (.bool (!t_1)) [] rfl (by kernel_rfl) (by kernel_rfl) (fun w hm => ⟨rfl, hm.pick [] (by kernel_rfl) (by kernel_rfl)⟩)

/-! ### slices.IndexFunc[[]impl.Tune,impl.Tune] -/
noncomputable def slices_IndexFunc_Tune_at_impl_tuneCode_1.k_1 : Option (Int) := some (-1)
noncomputable def slices_IndexFunc_Tune_at_impl_tuneCode_1.l_3 (s0 : List (List GNote)) : Int → Option ((Int) ⊕ (Int ⊕ Unit))
  | i_2 => (if (decide (i_2 < (s0.length : Int))) = true then (ix s0 i_2).bind fun x_5 => (impl_tuneCode_1 x_5).bind fun t_6 => (if t_6 = true then some (.inr (.inl i_2)) else some (.inl (w64 (i_2 + 1)))) else some (.inr (.inr ())))
noncomputable def slices_IndexFunc_Tune_at_impl_tuneCode_1 (s0 : List (List GNote)) : Option (Int) := (loop (slices_IndexFunc_Tune_at_impl_tuneCode_1.l_3 s0) 0).bind fun t_4 => match t_4 with | .inl p => some p | .inr p => slices_IndexFunc_Tune_at_impl_tuneCode_1.k_1
set_option maxRecDepth 100000 in
theorem slices_IndexFunc_Tune_at_impl_tuneCode_1.calls (s0 : List (List GNote)) (w : World) (r : Int) (s0_a : Option Addr) (s0_an : Nat) (s0_c : Nat) (s0_hs : List Hd) (s0_h : Rw w s0_a 1 encHd s0_hs) (s0_hn : s0.length = s0_an) (s0_i : Inn w [] 2 encGNote s0_hs s0) (h : slices_IndexFunc_Tune_at_impl_tuneCode_1 s0 = some r) :
    Calls Tryz.prog 183 #[(.slice s0_a s0_an s0_c), (.func (.func 161) #[] #[])] w fun e w' => ∃ v, e = .returned v ∧ (v = (.int .i64 r) ∧ Mem w [] [] w') := by
  subst s0_hn
  rw [slices_IndexFunc_Tune_at_impl_tuneCode_1] at h
  refine enter (args := [(.slice s0_a s0.length s0_c), (.func (.func 161) #[] #[])]) Tryz.func183 rfl Tryz.ntmps183 (by kernel_rfl) (L := []) (W := []) (Mem.start w) ?_
  refine jc_seq ?_
  refine jc_region ?_
  refine jo_f [(0, 0)] (by kernel_rfl) ?_
  refine jo_end (by kernel_rfl) ?_
  refine jx_then ?_
  refine jc_seq ?_
  refine jc_seq ?_
  refine jc_region ?_
  refine jo_f [(0, 0), (0, 0), (0, 0)] (by kernel_rfl) ?_
  refine jo_end (by kernel_rfl) ?_
  refine jx_then ?_
  refine jc_meet (fun (_ : Unit) => slices_IndexFunc_Tune_at_impl_tuneCode_1.k_1 = some r) (fun (_ : Unit) => [(4, [], (.int .i64 0))]) (fun (_ : Unit) => []) ?_ ?_
  · refine jc_block ?_
    obtain ⟨t_4, ht_40, hr_31⟩ := bd h
    refine jc_loop (fun (s : Int) (x : Unit) => match s, x with | i_2, _ => True) (fun (s : Int) (x : Unit) => match s, x with | i_2, _ => [(0, [], (.slice s0_a s0.length s0_c)), (1, [], (.func (.func 161) #[] #[])), (4, [], (.int .i64 0)), (7, [], (.int .i64 (s0.length : Int))), (8, [], (.int .i64 i_2))]) (fun (s : Int) (x : Unit) => match s, x with | i_2, _ => []) ht_40 () trivial (by kernel_rfl) [] (by kernel_rfl) (by kernel_rfl) ?_
    rintro i_2 _ y_32 _ h
    rw [slices_IndexFunc_Tune_at_impl_tuneCode_1.l_3] at h
    refine jc_seq ?_
    refine jc_region ?_
    refine jo_f [(0, 0)] (by kernel_rfl) ?_
    refine jo_end (by kernel_rfl) ?_
    refine jx_then ?_
    refine jc_seq ?_
    refine jc_cond (decide (i_2 < (s0.length : Int))) (by kernel_rfl) (fun hc_34 => ?_) (fun hc_34 => ?_)
    · replace h := ifT hc_34 h
      refine jc_skip ?_
      refine jx_then ?_
      refine jc_seq ?_
      refine jc_block ?_
      refine jc_seq ?_
      refine jc_region ?_
      refine jo_f [(0, 0), (0, 0)] (by kernel_rfl) ?_
      refine jo_end (by kernel_rfl) ?_
      refine jx_then ?_
      refine jc_seq ?_
      refine jc_region ?_
      refine jo_f [(0, 0), (0, 0), (0, 0)] (by kernel_rfl) ?_
      obtain ⟨x_5, hx_35, h⟩ := bd h
      refine toO (by kernel_rfl) (p_idx 0 s0_a s0.length i_2 1 (by kernel_rfl) (by kernel_rfl) (ix_some hx_35).1 (ltn hx_35 rfl) (s0_h.sp (s0_i.ixh hx_35)) (jkO ?_))
      refine toO (by kernel_rfl) (p_ld 0 (aB s0_a) (aO s0_a + i_2.toNat * 1) false (encHd (hd s0_hs i_2)) (by kernel_rfl) (by kernel_rfl) (by kernel_rfl) (fun w hm => ((hm.exRow s0_h List.not_mem_nil).at (s0_i.ixh hx_35))) (jkO ?_))
      obtain ⟨t_6, ht_36, h⟩ := bd h
      refine toO (by kernel_rfl) (p_call 0 161 #[(.slice (hd s0_hs i_2).a ((hd s0_hs i_2).n) ((hd s0_hs i_2).c))] (by kernel_rfl) (by kernel_rfl) (fun w hm => impl_tuneCode_1.calls x_5 w _ (hd s0_hs i_2).a ((hd s0_hs i_2).n) ((hd s0_hs i_2).c) (hm.exRow (s0_i.get hx_35).1 List.not_mem_nil) (s0_i.get hx_35).2.1 ht_36) ?_)
      rintro w v w' hm ⟨rfl, hm'⟩
      refine ⟨_, hm.app hm', jkO ?_⟩
      clear hm hm'
      refine jo_end (by kernel_rfl) ?_
      refine jx_then ?_
      refine jc_cond t_6 (by kernel_rfl) (fun hc_37 => ?_) (fun hc_37 => ?_)
      · replace h := ifT hc_37 h
        refine jc_seq ?_
        refine jc_region ?_
        refine jo_f [(0, 0), (0, 0)] (by kernel_rfl) ?_
        refine jo_end (by kernel_rfl) ?_
        refine jx_then ?_
        refine jc_ret ?_
        refine jx_inr ?_
        refine jx_thenr ?_
        refine jx_leaver (.inl i_2) (Option.some.inj h).symm (fun e_38 => ?_)
        subst e_38
        refine jx_inr ?_
        refine jx_thenr ?_
        refine jx_thenr ?_
        obtain rfl := Option.some.inj hr_31
        exact jx_ret [] (.int .i64 i_2) [] rfl (by kernel_rfl) (by kernel_rfl) (fun w hm => ⟨rfl, hm.pick [] (by kernel_rfl) (by kernel_rfl)⟩)
      · replace h := ifF hc_37 h
        refine jc_skip ?_
        refine jx_inn ?_
        refine jx_then ?_
        refine jc_region ?_
        refine jo_f [(0, 0), (0, 0)] (by kernel_rfl) ?_
        refine jo_end (by kernel_rfl) ?_
        exact jx_back (w64 (i_2 + 1)) () (Option.some.inj h).symm trivial [] (by kernel_rfl) (by kernel_rfl) (by kernel_rfl)
    · replace h := ifF hc_34 h
      refine jc_exit ?_
      refine jx_thenx ?_
      refine jx_leave (.inr ()) (Option.some.inj h).symm (fun e_39 => ?_)
      subst e_39
      refine jx_ine ?_
      exact jx_meet () hr_31 (by kernel_rfl) [] (by kernel_rfl) (by kernel_rfl)
  · rintro _ h
    replace h : slices_IndexFunc_Tune_at_impl_tuneCode_1.k_1 = some r := h
    rw [slices_IndexFunc_Tune_at_impl_tuneCode_1.k_1] at h
    refine jx_then ?_
    refine jc_seq ?_
    refine jc_region ?_
    refine jo_f [(0, 0)] (by kernel_rfl) ?_
    refine jo_end (by kernel_rfl) ?_
    refine jx_then ?_
    refine jc_ret ?_
    obtain rfl := Option.some.inj h
    exact jx_ret [] (.int .i64 (-1)) [] rfl (by kernel_rfl) (by kernel_rfl) (fun w hm => ⟨rfl, hm.pick [] (by kernel_rfl) (by kernel_rfl)⟩)

/-! ### slices.ContainsFunc[[]impl.Tune,impl.Tune] -/
noncomputable def slices_ContainsFunc_Tune_at_impl_tuneCode_1 (s0 : List (List GNote)) : Option (Bool) := (slices_IndexFunc_Tune_at_impl_tuneCode_1 s0).bind fun t_1 => some (decide (t_1 ≥ 0))
set_option maxRecDepth 100000 in
theorem slices_ContainsFunc_Tune_at_impl_tuneCode_1.calls (s0 : List (List GNote)) (w : World) (r : Bool) (s0_a : Option Addr) (s0_an : Nat) (s0_c : Nat) (s0_hs : List Hd) (s0_h : Rw w s0_a 1 encHd s0_hs) (s0_hn : s0.length = s0_an) (s0_i : Inn w [] 2 encGNote s0_hs s0) (h : slices_ContainsFunc_Tune_at_impl_tuneCode_1 s0 = some r) :
    Calls Tryz.prog 160 #[(.slice s0_a s0_an s0_c), (.func (.func 161) #[] #[])] w fun e w' => ∃ v, e = .returned v ∧ (v = (.bool r) ∧ Mem w [] [] w') := by
  subst s0_hn
  rw [slices_ContainsFunc_Tune_at_impl_tuneCode_1] at h
  refine enter (args := [(.slice s0_a s0.length s0_c), (.func (.func 161) #[] #[])]) Tryz.func160 rfl Tryz.ntmps160 (by kernel_rfl) (L := []) (W := []) (Mem.start w) ?_
  refine jc_seq ?_
  refine jc_region ?_
  refine jo_f [(0, 0)] (by kernel_rfl) ?_
  refine jo_end (by kernel_rfl) ?_
  refine jx_then ?_
  refine jc_seq ?_
  refine jc_region ?_
  refine jo_f [(0, 0), (0, 0)] (by kernel_rfl) ?_
  obtain ⟨t_1, ht_1, h⟩ := bd h
  refine toO (by kernel_rfl) (p_call 0 183 #[(.slice s0_a s0.length s0_c), (.func (.func 161) #[] #[])] (by kernel_rfl) (by kernel_rfl) (fun w hm => slices_IndexFunc_Tune_at_impl_tuneCode_1.calls s0 w _ s0_a s0.length s0_c s0_hs (hm.exRow s0_h List.not_mem_nil) rfl (hm.innPass (N := []) s0_i [] (by kernel_rfl)) ht_1) ?_)
  rintro w v w' hm ⟨rfl, hm'⟩
  refine ⟨_, hm.app hm', jkO ?_⟩
  clear hm hm'
  refine jo_f [(0, 0), (0, 0)] (by kernel_rfl) ?_
  refine jo_end (by kernel_rfl) ?_
  refine jx_then ?_
  refine jc_ret ?_
  obtain rfl := Option.some.inj h
  exact jx_ret [] (.bool (decide (t_1 ≥ 0))) [] rfl (by kernel_rfl) (by kernel_rfl) (fun w hm => ⟨rfl, hm.pick [] (by kernel_rfl) (by kernel_rfl)⟩)

/-! ### impl.tuneCode -/
noncomputable def impl_tuneCode (list0 : List (List GNote)) : Option (Int) := (slices_ContainsFunc_Tune_at_impl_tuneCode_1 list0).bind fun t_1 => (impl_unless (!t_1) 1).bind fun t_2 => some t_2
set_option maxRecDepth 100000 in
theorem impl_tuneCode.calls (list0 : List (List GNote)) (w : World) (r : Int) (list0_a : Option Addr) (list0_an : Nat) (list0_c : Nat) (list0_hs : List Hd) (list0_h : Rw w list0_a 1 encHd list0_hs) (list0_hn : list0.length = list0_an) (list0_i : Inn w [] 2 encGNote list0_hs list0) (h : impl_tuneCode list0 = some r) :
    Calls Tryz.prog 140 #[(.slice list0_a list0_an list0_c)] w fun e w' => ∃ v, e = .returned v ∧ (v = (.int .i64 r) ∧ Mem w [] [] w') := by
  subst list0_hn
  rw [impl_tuneCode] at h
  refine enter (args := [(.slice list0_a list0.length list0_c)]) Tryz.func140 rfl Tryz.ntmps140 (by kernel_rfl) (L := []) (W := []) (Mem.start w) ?_
  refine jc_seq ?_
  refine jc_region ?_
  refine jo_f [(0, 0)] (by kernel_rfl) ?_
  refine jo_end (by kernel_rfl) ?_
  refine jx_then ?_
  refine jc_seq ?_
  refine jc_region ?_
  refine jo_f [(0, 0)] (by kernel_rfl) ?_
  obtain ⟨t_1, ht_1, h⟩ := bd h
  refine toO (by kernel_rfl) (p_call 0 160 #[(.slice list0_a list0.length list0_c), (.func (.func 161) #[] #[])] (by kernel_rfl) (by kernel_rfl) (fun w hm => slices_ContainsFunc_Tune_at_impl_tuneCode_1.calls list0 w _ list0_a list0.length list0_c list0_hs (hm.exRow list0_h List.not_mem_nil) rfl (hm.innPass (N := []) list0_i [] (by kernel_rfl)) ht_1) ?_)
  rintro w v w' hm ⟨rfl, hm'⟩
  refine ⟨_, hm.app hm', jkO ?_⟩
  clear hm hm'
  refine jo_f [(0, 0)] (by kernel_rfl) ?_
  obtain ⟨t_2, ht_2, h⟩ := bd h
  refine toO (by kernel_rfl) (p_call 0 72 #[(.bool (!t_1)), (.int .i64 1)] (by kernel_rfl) (by kernel_rfl) (fun w hm => impl_unless.calls (!t_1) 1 w _ ht_2) ?_)
  rintro w v w' hm ⟨rfl, hm'⟩
  refine ⟨_, hm.app hm', jkO ?_⟩
  clear hm hm'
  refine jo_f [(0, 0)] (by kernel_rfl) ?_
  refine jo_end (by kernel_rfl) ?_
  refine jx_then ?_
  refine jc_ret ?_
  obtain rfl := Option.some.inj h
  exact jx_ret [] (.int .i64 t_2) [] rfl (by kernel_rfl) (by kernel_rfl) (fun w hm => ⟨rfl, hm.pick [] (by kernel_rfl) (by kernel_rfl)⟩)

/-! ### impl.ValidChoice -/
noncomputable def impl_ValidChoice (x0 : GChoice) : Option (Bool) := (if x0.fAway = true then some ((x0.fAway == true) && ((x0.fLate == 0) && ((x0.fOctave == 0) && (x0.fTrack == 0)))) else (impl_within (w64 x0.fLate) (-3) 3).bind fun t_1 => (if t_1 = true then (impl_within (w64 x0.fOctave) (-1) 1).bind fun t_2 => (if t_2 = true then (impl_within (w64 x0.fTrack) 0 23).bind fun t_3 => some t_3 else some false) else some false))
set_option maxRecDepth 100000 in
theorem impl_ValidChoice.calls (x0 : GChoice) (w : World) (r : Bool) (h : impl_ValidChoice x0 = some r) :
    Calls Tryz.prog 165 #[(.agg #[(.bool x0.fAway), (.int .i8 x0.fLate), (.int .i8 x0.fOctave), (.int .i8 x0.fTrack)])] w fun e w' => ∃ v, e = .returned v ∧ (v = (.bool r) ∧ Mem w [] [] w') := by
  rw [impl_ValidChoice] at h
  refine enter (args := [(.agg #[(.bool x0.fAway), (.int .i8 x0.fLate), (.int .i8 x0.fOctave), (.int .i8 x0.fTrack)])]) Tryz.func165 rfl Tryz.ntmps165 (by kernel_rfl) (L := []) (W := []) (Mem.start w) ?_
  refine jc_seq ?_
  refine jc_region ?_
  refine toO (by kernel_rfl) (p_a 0 [0] (by kernel_rfl) (fun b => by kernel_rfl) (fun b_1 => jkO ?_))
  refine jo_f [(0, 0)] (by kernel_rfl) ?_
  refine jo_end (by kernel_rfl) ?_
  refine jx_then ?_
  refine jc_seq ?_
  refine jc_seq ?_
  refine jc_region ?_
  refine jo_f [(0, 0), (0, 0)] (by kernel_rfl) ?_
  refine jo_end (by kernel_rfl) ?_
  refine jx_then ?_
  refine jc_cond x0.fAway (by kernel_rfl) (fun hc_3 => ?_) (fun hc_3 => ?_)
  · replace h := ifT hc_3 h
    refine jc_seq ?_
    refine jc_region ?_
    refine jo_f [(0, 0), (0, 0), (0, 0), (0, 0)] (by kernel_rfl) ?_
    refine jo_end (by kernel_rfl) ?_
    refine jx_then ?_
    refine jc_ret ?_
    refine jx_thenr ?_
    obtain rfl := Option.some.inj h
    exact jx_ret [] (.bool ((x0.fAway == true) && ((x0.fLate == 0) && ((x0.fOctave == 0) && (x0.fTrack == 0))))) [] rfl (by kernel_rfl) (by kernel_rfl) (fun w hm => ⟨rfl, hm.pick [] (by kernel_rfl) (by kernel_rfl)⟩)
  · replace h := ifF hc_3 h
    refine jc_skip ?_
    refine jx_then ?_
    refine jc_seq ?_
    refine jc_region ?_
    refine jo_f [(0, 0), (0, 0), (0, 0)] (by kernel_rfl) ?_
    obtain ⟨t_1, ht_4, h⟩ := bd h
    refine toO (by kernel_rfl) (p_call 0 94 #[(.int .i64 (w64 x0.fLate)), (.int .i64 (-3)), (.int .i64 3)] (by kernel_rfl) (by kernel_rfl) (fun w hm => impl_within.calls (w64 x0.fLate) (-3) 3 w _ ht_4) ?_)
    rintro w v w' hm ⟨rfl, hm'⟩
    refine ⟨_, hm.app hm', jkO ?_⟩
    clear hm hm'
    refine jo_f [(0, 0), (0, 1), (0, 1), (0, 1)] (by kernel_rfl) ?_
    refine jo_split 12 t_1 (by kernel_rfl) (fun hc_5 => ?_) (fun hc_5 => ?_)
    · replace h := ifT hc_5 h
      obtain ⟨t_2, ht_6, h⟩ := bd h
      refine toO (by kernel_rfl) (p_call 2 94 #[(.int .i64 (w64 x0.fOctave)), (.int .i64 (-1)), (.int .i64 1)] (by kernel_rfl) (by kernel_rfl) (fun w hm => impl_within.calls (w64 x0.fOctave) (-1) 1 w _ ht_6) ?_)
      rintro w v w' hm ⟨rfl, hm'⟩
      refine ⟨_, hm.app hm', jkO ?_⟩
      clear hm hm'
      refine jo_f [(0, 4), (0, 0), (0, 1), (0, 1), (0, 1)] (by kernel_rfl) ?_
      refine jo_split 18 t_2 (by kernel_rfl) (fun hc_7 => ?_) (fun hc_7 => ?_)
      · replace h := ifT hc_7 h
        obtain ⟨t_3, ht_8, h⟩ := bd h
        refine toO (by kernel_rfl) (p_call 2 94 #[(.int .i64 (w64 x0.fTrack)), (.int .i64 0), (.int .i64 23)] (by kernel_rfl) (by kernel_rfl) (fun w hm => impl_within.calls (w64 x0.fTrack) 0 23 w _ ht_8) ?_)
        rintro w v w' hm ⟨rfl, hm'⟩
        refine ⟨_, hm.app hm', jkO ?_⟩
        clear hm hm'
        refine jo_f [(0, 4), (0, 0)] (by kernel_rfl) ?_
        refine jo_end (by kernel_rfl) ?_
        refine jx_then ?_
        refine jc_ret ?_
        obtain rfl := Option.some.inj h
        exact jx_ret [] (.bool t_3) [] rfl (by kernel_rfl) (by kernel_rfl) (fun w hm => ⟨rfl, hm.pick [] (by kernel_rfl) (by kernel_rfl)⟩)
      · replace h := ifF hc_7 h
        refine jo_f [(0, 3), (0, 5), (0, 0)] (by kernel_rfl) ?_
        refine jo_end (by kernel_rfl) ?_
        refine jx_then ?_
        refine jc_ret ?_
        obtain rfl := Option.some.inj h
        exact jx_ret [] (.bool false) [] rfl (by kernel_rfl) (by kernel_rfl) (fun w hm => ⟨rfl, hm.pick [] (by kernel_rfl) (by kernel_rfl)⟩)
    · replace h := ifF hc_5 h
      refine jo_f [(0, 3), (0, 5), (0, 0), (0, 3), (0, 3), (0, 3), (0, 3), (0, 5), (0, 0)] (by kernel_rfl) ?_
      refine jo_end (by kernel_rfl) ?_
      refine jx_then ?_
      refine jc_ret ?_
      obtain rfl := Option.some.inj h
      exact jx_ret [] (.bool false) [] rfl (by kernel_rfl) (by kernel_rfl) (fun w hm => ⟨rfl, hm.pick [] (by kernel_rfl) (by kernel_rfl)⟩)

/-! ### impl.choicesCode$1 -/
noncomputable def impl_choicesCode_1 (x0 : GChoice) : Option (Bool) := (impl_ValidChoice x0).bind fun t_1 => some (!t_1)
set_option maxRecDepth 100000 in
theorem impl_choicesCode_1.calls (x0 : GChoice) (w : World) (r : Bool) (h : impl_choicesCode_1 x0 = some r) :
    Calls Tryz.prog 164 #[(.agg #[(.bool x0.fAway), (.int .i8 x0.fLate), (.int .i8 x0.fOctave), (.int .i8 x0.fTrack)])] w fun e w' => ∃ v, e = .returned v ∧ (v = (.bool r) ∧ Mem w [] [] w') := by
  rw [impl_choicesCode_1] at h
  refine enter (args := [(.agg #[(.bool x0.fAway), (.int .i8 x0.fLate), (.int .i8 x0.fOctave), (.int .i8 x0.fTrack)])]) Tryz.func164 rfl Tryz.ntmps164 (by kernel_rfl) (L := []) (W := []) (Mem.start w) ?_
  refine jc_seq ?_
  refine jc_region ?_
  refine toO (by kernel_rfl) (p_a 0 [0] (by kernel_rfl) (fun b => by kernel_rfl) (fun b_1 => jkO ?_))
  refine jo_f [(0, 0)] (by kernel_rfl) ?_
  refine jo_end (by kernel_rfl) ?_
  refine jx_then ?_
  refine jc_seq ?_
  refine jc_region ?_
  refine jo_f [(0, 0)] (by kernel_rfl) ?_
  obtain ⟨t_1, ht_2, h⟩ := bd h
  refine toO (by kernel_rfl) (p_call 0 165 #[(.agg #[(.bool x0.fAway), (.int .i8 x0.fLate), (.int .i8 x0.fOctave), (.int .i8 x0.fTrack)])] (by kernel_rfl) (by kernel_rfl) (fun w hm => impl_ValidChoice.calls x0 w _ ht_2) ?_)
  rintro w v w' hm ⟨rfl, hm'⟩
  refine ⟨_, hm.app hm', jkO ?_⟩
  clear hm hm'
  refine jo_f [(0, 0), (0, 0)] (by kernel_rfl) ?_
  refine jo_end (by kernel_rfl) ?_
  refine jx_then ?_
  refine jc_ret ?_
  obtain rfl := Option.some.inj h
  exact jx_ret [] (.bool (!t_1)) [] rfl (by kernel_rfl) (by kernel_rfl) (fun w hm => ⟨rfl, hm.pick [] (by kernel_rfl) (by kernel_rfl)⟩)

/-! ### slices.IndexFunc[[]impl.Choice,impl.Choice] -/
noncomputable def slices_IndexFunc_Choice_at_impl_choicesCode_1.k_1 : Option (Int) := some (-1)
noncomputable def slices_IndexFunc_Choice_at_impl_choicesCode_1.l_3 (s0 : List GChoice) : Int → Option ((Int) ⊕ (Int ⊕ Unit))
  | i_2 => (if (decide (i_2 < (s0.length : Int))) = true then (ix s0 i_2).bind fun x_5 => (impl_choicesCode_1 x_5).bind fun t_6 => (if t_6 = true then some (.inr (.inl i_2)) else some (.inl (w64 (i_2 + 1)))) else some (.inr (.inr ())))
noncomputable def slices_IndexFunc_Choice_at_impl_choicesCode_1 (s0 : List GChoice) : Option (Int) := (loop (slices_IndexFunc_Choice_at_impl_choicesCode_1.l_3 s0) 0).bind fun t_4 => match t_4 with | .inl p => some p | .inr p => slices_IndexFunc_Choice_at_impl_choicesCode_1.k_1
set_option maxRecDepth 100000 in
theorem slices_IndexFunc_Choice_at_impl_choicesCode_1.calls (s0 : List GChoice) (w : World) (r : Int) (s0_a : Option Addr) (s0_an : Nat) (s0_c : Nat) (s0_h : Rw w s0_a 4 encGChoice s0) (s0_hn : s0.length = s0_an) (h : slices_IndexFunc_Choice_at_impl_choicesCode_1 s0 = some r) :
    Calls Tryz.prog 185 #[(.slice s0_a s0_an s0_c), (.func (.func 164) #[] #[])] w fun e w' => ∃ v, e = .returned v ∧ (v = (.int .i64 r) ∧ Mem w [] [] w') := by
  subst s0_hn
  rw [slices_IndexFunc_Choice_at_impl_choicesCode_1] at h
  refine enter (args := [(.slice s0_a s0.length s0_c), (.func (.func 164) #[] #[])]) Tryz.func185 rfl Tryz.ntmps185 (by kernel_rfl) (L := []) (W := []) (Mem.start w) ?_
  refine jc_seq ?_
  refine jc_region ?_
  refine jo_f [(0, 0)] (by kernel_rfl) ?_
  refine jo_end (by kernel_rfl) ?_
  refine jx_then ?_
  refine jc_seq ?_
  refine jc_seq ?_
  refine jc_region ?_
  refine jo_f [(0, 0), (0, 0), (0, 0)] (by kernel_rfl) ?_
  refine jo_end (by kernel_rfl) ?_
  refine jx_then ?_
  refine jc_meet (fun (_ : Unit) => slices_IndexFunc_Choice_at_impl_choicesCode_1.k_1 = some r) (fun (_ : Unit) => [(4, [], (.int .i64 0))]) (fun (_ : Unit) => []) ?_ ?_
  · refine jc_block ?_
    obtain ⟨t_4, ht_40, hr_31⟩ := bd h
    refine jc_loop (fun (s : Int) (x : Unit) => match s, x with | i_2, _ => True) (fun (s : Int) (x : Unit) => match s, x with | i_2, _ => [(0, [], (.slice s0_a s0.length s0_c)), (1, [], (.func (.func 164) #[] #[])), (4, [], (.int .i64 0)), (7, [], (.int .i64 (s0.length : Int))), (8, [], (.int .i64 i_2))]) (fun (s : Int) (x : Unit) => match s, x with | i_2, _ => []) ht_40 () trivial (by kernel_rfl) [] (by kernel_rfl) (by kernel_rfl) ?_
    rintro i_2 _ y_32 _ h
    rw [slices_IndexFunc_Choice_at_impl_choicesCode_1.l_3] at h
    refine jc_seq ?_
    refine jc_region ?_
    refine jo_f [(0, 0)] (by kernel_rfl) ?_
    refine jo_end (by kernel_rfl) ?_
    refine jx_then ?_
    refine jc_seq ?_
    refine jc_cond (decide (i_2 < (s0.length : Int))) (by kernel_rfl) (fun hc_34 => ?_) (fun hc_34 => ?_)
    · replace h := ifT hc_34 h
      refine jc_skip ?_
      refine jx_then ?_
      refine jc_seq ?_
      refine jc_block ?_
      refine jc_seq ?_
      refine jc_region ?_
      refine jo_f [(0, 0), (0, 0)] (by kernel_rfl) ?_
      refine jo_end (by kernel_rfl) ?_
      refine jx_then ?_
      refine jc_seq ?_
      refine jc_region ?_
      refine jo_f [(0, 0), (0, 0), (0, 0)] (by kernel_rfl) ?_
      obtain ⟨x_5, hx_35, h⟩ := bd h
      refine toO (by kernel_rfl) (p_idx 0 s0_a s0.length i_2 4 (by kernel_rfl) (by kernel_rfl) (ix_some hx_35).1 (ltn hx_35 rfl) (s0_h.sp hx_35) (jkO ?_))
      refine toO (by kernel_rfl) (p_ld 0 (aB s0_a) (aO s0_a + i_2.toNat * 4) true (encGChoice x_5) (by kernel_rfl) (by kernel_rfl) (by kernel_rfl) (fun w hm => ((hm.exRow s0_h List.not_mem_nil).at hx_35)) (jkO ?_))
      obtain ⟨t_6, ht_36, h⟩ := bd h
      refine toO (by kernel_rfl) (p_call 0 164 #[(.agg #[(.bool x_5.fAway), (.int .i8 x_5.fLate), (.int .i8 x_5.fOctave), (.int .i8 x_5.fTrack)])] (by kernel_rfl) (by kernel_rfl) (fun w hm => impl_choicesCode_1.calls x_5 w _ ht_36) ?_)
      rintro w v w' hm ⟨rfl, hm'⟩
      refine ⟨_, hm.app hm', jkO ?_⟩
      clear hm hm'
      refine jo_end (by kernel_rfl) ?_
      refine jx_then ?_
      refine jc_cond t_6 (by kernel_rfl) (fun hc_37 => ?_) (fun hc_37 => ?_)
      · replace h := ifT hc_37 h
        refine jc_seq ?_
        refine jc_region ?_
        refine jo_f [(0, 0), (0, 0)] (by kernel_rfl) ?_
        refine jo_end (by kernel_rfl) ?_
        refine jx_then ?_
        refine jc_ret ?_
        refine jx_inr ?_
        refine jx_thenr ?_
        refine jx_leaver (.inl i_2) (Option.some.inj h).symm (fun e_38 => ?_)
        subst e_38
        refine jx_inr ?_
        refine jx_thenr ?_
        refine jx_thenr ?_
        obtain rfl := Option.some.inj hr_31
        exact jx_ret [] (.int .i64 i_2) [] rfl (by kernel_rfl) (by kernel_rfl) (fun w hm => ⟨rfl, hm.pick [] (by kernel_rfl) (by kernel_rfl)⟩)
      · replace h := ifF hc_37 h
        refine jc_skip ?_
        refine jx_inn ?_
        refine jx_then ?_
        refine jc_region ?_
        refine jo_f [(0, 0), (0, 0)] (by kernel_rfl) ?_
        refine jo_end (by kernel_rfl) ?_
        exact jx_back (w64 (i_2 + 1)) () (Option.some.inj h).symm trivial [] (by kernel_rfl) (by kernel_rfl) (by kernel_rfl)
    · replace h := ifF hc_34 h
      refine jc_exit ?_
      refine jx_thenx ?_
      refine jx_leave (.inr ()) (Option.some.inj h).symm (fun e_39 => ?_)
      subst e_39
      refine jx_ine ?_
      exact jx_meet () hr_31 (by kernel_rfl) [] (by kernel_rfl) (by kernel_rfl)
  · rintro _ h
    replace h : slices_IndexFunc_Choice_at_impl_choicesCode_1.k_1 = some r := h
    rw [slices_IndexFunc_Choice_at_impl_choicesCode_1.k_1] at h
    refine jx_then ?_
    refine jc_seq ?_
    refine jc_region ?_
    refine jo_f [(0, 0)] (by kernel_rfl) ?_
    refine jo_end (by kernel_rfl) ?_
    refine jx_then ?_
    refine jc_ret ?_
    obtain rfl := Option.some.inj h
    exact jx_ret [] (.int .i64 (-1)) [] rfl (by kernel_rfl) (by kernel_rfl) (fun w hm => ⟨rfl, hm.pick [] (by kernel_rfl) (by kernel_rfl)⟩)

/-! ### slices.ContainsFunc[[]impl.Choice,impl.Choice] -/
noncomputable def slices_ContainsFunc_Choice_at_impl_choicesCode_1 (s0 : List GChoice) : Option (Bool) := (slices_IndexFunc_Choice_at_impl_choicesCode_1 s0).bind fun t_1 => some (decide (t_1 ≥ 0))
set_option maxRecDepth 100000 in
theorem slices_ContainsFunc_Choice_at_impl_choicesCode_1.calls (s0 : List GChoice) (w : World) (r : Bool) (s0_a : Option Addr) (s0_an : Nat) (s0_c : Nat) (s0_h : Rw w s0_a 4 encGChoice s0) (s0_hn : s0.length = s0_an) (h : slices_ContainsFunc_Choice_at_impl_choicesCode_1 s0 = some r) :
    Calls Tryz.prog 163 #[(.slice s0_a s0_an s0_c), (.func (.func 164) #[] #[])] w fun e w' => ∃ v, e = .returned v ∧ (v = (.bool r) ∧ Mem w [] [] w') := by
  subst s0_hn
  rw [slices_ContainsFunc_Choice_at_impl_choicesCode_1] at h
  refine enter (args := [(.slice s0_a s0.length s0_c), (.func (.func 164) #[] #[])]) Tryz.func163 rfl Tryz.ntmps163 (by kernel_rfl) (L := []) (W := []) (Mem.start w) ?_
  refine jc_seq ?_
  refine jc_region ?_
  refine jo_f [(0, 0)] (by kernel_rfl) ?_
  refine jo_end (by kernel_rfl) ?_
  refine jx_then ?_
  refine jc_seq ?_
  refine jc_region ?_
  refine jo_f [(0, 0), (0, 0)] (by kernel_rfl) ?_
  obtain ⟨t_1, ht_1, h⟩ := bd h
  refine toO (by kernel_rfl) (p_call 0 185 #[(.slice s0_a s0.length s0_c), (.func (.func 164) #[] #[])] (by kernel_rfl) (by kernel_rfl) (fun w hm => slices_IndexFunc_Choice_at_impl_choicesCode_1.calls s0 w _ s0_a s0.length s0_c (hm.exRow s0_h List.not_mem_nil) rfl ht_1) ?_)
  rintro w v w' hm ⟨rfl, hm'⟩
  refine ⟨_, hm.app hm', jkO ?_⟩
  clear hm hm'
  refine jo_f [(0, 0), (0, 0)] (by kernel_rfl) ?_
  refine jo_end (by kernel_rfl) ?_
  refine jx_then ?_
  refine jc_ret ?_
  obtain rfl := Option.some.inj h
  exact jx_ret [] (.bool (decide (t_1 ≥ 0))) [] rfl (by kernel_rfl) (by kernel_rfl) (fun w hm => ⟨rfl, hm.pick [] (by kernel_rfl) (by kernel_rfl)⟩)

/-! ### impl.choicesCode -/
noncomputable def impl_choicesCode (list0 : List GChoice) : Option (Int) := (slices_ContainsFunc_Choice_at_impl_choicesCode_1 list0).bind fun t_1 => (impl_unless (!t_1) 1).bind fun t_2 => some t_2
set_option maxRecDepth 100000 in
theorem impl_choicesCode.calls (list0 : List GChoice) (w : World) (r : Int) (list0_a : Option Addr) (list0_an : Nat) (list0_c : Nat) (list0_h : Rw w list0_a 4 encGChoice list0) (list0_hn : list0.length = list0_an) (h : impl_choicesCode list0 = some r) :
    Calls Tryz.prog 141 #[(.slice list0_a list0_an list0_c)] w fun e w' => ∃ v, e = .returned v ∧ (v = (.int .i64 r) ∧ Mem w [] [] w') := by
  subst list0_hn
  rw [impl_choicesCode] at h
  refine enter (args := [(.slice list0_a list0.length list0_c)]) Tryz.func141 rfl Tryz.ntmps141 (by kernel_rfl) (L := []) (W := []) (Mem.start w) ?_
  refine jc_seq ?_
  refine jc_region ?_
  refine jo_f [(0, 0)] (by kernel_rfl) ?_
  refine jo_end (by kernel_rfl) ?_
  refine jx_then ?_
  refine jc_seq ?_
  refine jc_region ?_
  refine jo_f [(0, 0)] (by kernel_rfl) ?_
  obtain ⟨t_1, ht_1, h⟩ := bd h
  refine toO (by kernel_rfl) (p_call 0 163 #[(.slice list0_a list0.length list0_c), (.func (.func 164) #[] #[])] (by kernel_rfl) (by kernel_rfl) (fun w hm => slices_ContainsFunc_Choice_at_impl_choicesCode_1.calls list0 w _ list0_a list0.length list0_c (hm.exRow list0_h List.not_mem_nil) rfl ht_1) ?_)
  rintro w v w' hm ⟨rfl, hm'⟩
  refine ⟨_, hm.app hm', jkO ?_⟩
  clear hm hm'
  refine jo_f [(0, 0)] (by kernel_rfl) ?_
  obtain ⟨t_2, ht_2, h⟩ := bd h
  refine toO (by kernel_rfl) (p_call 0 72 #[(.bool (!t_1)), (.int .i64 1)] (by kernel_rfl) (by kernel_rfl) (fun w hm => impl_unless.calls (!t_1) 1 w _ ht_2) ?_)
  rintro w v w' hm ⟨rfl, hm'⟩
  refine ⟨_, hm.app hm', jkO ?_⟩
  clear hm hm'
  refine jo_f [(0, 0)] (by kernel_rfl) ?_
  refine jo_end (by kernel_rfl) ?_
  refine jx_then ?_
  refine jc_ret ?_
  obtain rfl := Option.some.inj h
  exact jx_ret [] (.int .i64 t_2) [] rfl (by kernel_rfl) (by kernel_rfl) (fun w hm => ⟨rfl, hm.pick [] (by kernel_rfl) (by kernel_rfl)⟩)
end Go.Proofs.YtilackblefjgdaaGreat
