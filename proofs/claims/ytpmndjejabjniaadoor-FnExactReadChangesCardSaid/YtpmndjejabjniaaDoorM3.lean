/- Functions of the program that the laws reach: a plain function each, and that the call comes to its answer if the plain function has one. Printed by a program. -/
import Derived.Test.YtpmndjejabjniaaDoorT
import Derived.Test.YtpmndjejabjniaaDoorM1
namespace Go.Proofs.YtpmndjejabjniaaDoor
open Eng
set_option linter.unusedVariables false

/-! ### laws.szChoiceS -/
noncomputable def laws_szChoiceS (a0 : List GChoice) (left1 : Int) : Option (Int) := (if (decide ((w64 (left1 - (a0.length : Int))) < 0)) = true then some (-1) else some (w64 (left1 - (a0.length : Int))))
set_option maxRecDepth 100000 in
theorem laws_szChoiceS.calls (a0 : List GChoice) (left1 : Int) (w : World) (r : Int) (a0_a : Option Addr) (a0_an : Nat) (a0_c : Nat) (a0_h : Rw w a0_a 4 encGChoice a0) (a0_hn : a0.length = a0_an) (h : laws_szChoiceS a0 left1 = some r) :
    Calls Tryd.prog 13 #[(.slice a0_a a0_an a0_c), (.int .i64 left1)] w fun e w' => ∃ v, e = .returned v ∧ (v = (.int .i64 r) ∧ Mem w [] [] w') := by
  subst a0_hn
  rw [laws_szChoiceS] at h
  refine enter (args := [(.slice a0_a a0.length a0_c), (.int .i64 left1)]) Tryd.func13 rfl Tryd.ntmps13 (by kernel_rfl) (L := []) (W := []) (Mem.start w) ?_
  refine jc_seq ?_
  refine jc_region ?_
  refine jo_f [(0, 0)] (by kernel_rfl) ?_
  refine jo_end (by kernel_rfl) ?_
  refine jx_then ?_
  refine jc_seq ?_
  refine jc_region ?_
  refine jo_f [(0, 0), (0, 0), (0, 0), (0, 0), (0, 0)] (by kernel_rfl) ?_
  refine jo_end (by kernel_rfl) ?_
  refine jx_then ?_
  refine jc_seq ?_
  refine jc_seq ?_
  refine jc_region ?_
  refine jo_f [(0, 0), (0, 0)] (by kernel_rfl) ?_
  refine jo_end (by kernel_rfl) ?_
  refine jx_then ?_
  refine jc_cond (decide ((w64 (left1 - (a0.length : Int))) < 0)) (by kernel_rfl) (fun hc_2 => ?_) (fun hc_2 => ?_)
  · replace h := ifT hc_2 h
    refine jc_seq ?_
    refine jc_region ?_
    refine jo_f [(0, 0)] (by kernel_rfl) ?_
    refine jo_end (by kernel_rfl) ?_
    refine jx_then ?_
    refine jc_ret ?_
    refine jx_thenr ?_
    obtain rfl := Option.some.inj h
    exact jx_ret [] (.int .i64 (-1)) [] rfl (by kernel_rfl) (by kernel_rfl) (fun w hm => ⟨rfl, hm.pick [] (by kernel_rfl) (by kernel_rfl)⟩)
  · replace h := ifF hc_2 h
    refine jc_skip ?_
    refine jx_then ?_
    refine jc_seq ?_
    refine jc_region ?_
    refine jo_f [(0, 0), (0, 0)] (by kernel_rfl) ?_
    refine jo_end (by kernel_rfl) ?_
    refine jx_then ?_
    refine jc_ret ?_
    obtain rfl := Option.some.inj h
    exact jx_ret [] (.int .i64 (w64 (left1 - (a0.length : Int)))) [] rfl (by kernel_rfl) (by kernel_rfl) (fun w hm => ⟨rfl, hm.pick [] (by kernel_rfl) (by kernel_rfl)⟩)

/-! ### laws.toChoice -/
noncomputable def laws_toChoice (a0 : GChoice) : Option (GChoice) := some a0
set_option maxRecDepth 100000 in
theorem laws_toChoice.calls (a0 : GChoice) (w : World) (r : GChoice) (h : laws_toChoice a0 = some r) :
    Calls Tryd.prog 45 #[(.agg #[(.bool a0.fAway), (.int .i8 a0.fLate), (.int .i8 a0.fOctave), (.int .i8 a0.fTrack)])] w fun e w' => ∃ v, e = .returned v ∧ (v = .agg #[(.bool r.fAway), (.int .i8 r.fLate), (.int .i8 r.fOctave), (.int .i8 r.fTrack)] ∧ Mem w [] [] w') := by
  rw [laws_toChoice] at h
  refine enter (args := [(.agg #[(.bool a0.fAway), (.int .i8 a0.fLate), (.int .i8 a0.fOctave), (.int .i8 a0.fTrack)])]) Tryd.func45 rfl Tryd.ntmps45 (by kernel_rfl) (L := []) (W := []) (Mem.start w) ?_
  refine jc_seq ?_
  refine jc_region ?_
  refine toO (by kernel_rfl) (p_a 0 [0] (by kernel_rfl) (fun b => by kernel_rfl) (fun b_1 => jkO ?_))
  refine toO (by kernel_rfl) (p_a 0 [0] (by kernel_rfl) (fun b => by kernel_rfl) (fun b_2 => jkO ?_))
  refine jo_end (by kernel_rfl) ?_
  refine jx_then ?_
  refine jc_seq ?_
  refine jc_region ?_
  refine toO (by kernel_rfl) (p_a 0 [0] (by kernel_rfl) (fun b => by kernel_rfl) (fun b_3 => jkO ?_))
  refine jo_end (by kernel_rfl) ?_
  refine jx_then ?_
  refine jc_seq ?_
  refine jc_region ?_
  refine jo_f [(0, 0), (0, 0), (0, 0)] (by kernel_rfl) ?_
  refine toO (by kernel_rfl) (p_s 0 [2] (by kernel_rfl) (by kernel_rfl) (jkO ?_))
  refine jo_end (by kernel_rfl) ?_
  refine jx_then ?_
  refine jc_seq ?_
  refine jc_region ?_
  refine jo_f [(0, 0), (0, 0), (0, 0)] (by kernel_rfl) ?_
  refine toO (by kernel_rfl) (p_s 0 [2] (by kernel_rfl) (by kernel_rfl) (jkO ?_))
  refine jo_end (by kernel_rfl) ?_
  refine jx_then ?_
  refine jc_seq ?_
  refine jc_region ?_
  refine jo_f [(0, 0), (0, 0), (0, 0)] (by kernel_rfl) ?_
  refine toO (by kernel_rfl) (p_s 0 [2] (by kernel_rfl) (by kernel_rfl) (jkO ?_))
  refine jo_end (by kernel_rfl) ?_
  refine jx_then ?_
  refine jc_seq ?_
  refine jc_region ?_
  refine jo_f [(0, 0), (0, 0), (0, 0)] (by kernel_rfl) ?_
  refine toO (by kernel_rfl) (p_s 0 [2] (by kernel_rfl) (by kernel_rfl) (jkO ?_))
  refine jo_end (by kernel_rfl) ?_
  refine jx_then ?_
  refine jc_seq ?_
  refine jc_region ?_
  refine jo_f [(2, 0)] (by kernel_rfl) ?_
  refine toO (by kernel_rfl) (p_s 0 [1] (by kernel_rfl) (by kernel_rfl) (jkO ?_))
  refine jo_end (by kernel_rfl) ?_
  refine jx_then ?_
  refine jc_ret ?_
  obtain rfl := Option.some.inj h
  exact jx_ret [1] (.agg #[(.bool a0.fAway), (.int .i8 a0.fLate), (.int .i8 a0.fOctave), (.int .i8 a0.fTrack)]) [(b_2, b_2), (b_2, b_2), (b_2, b_2), (b_2, b_2)] rfl (by kernel_rfl) (by kernel_rfl) (fun w hm => ⟨rfl, hm.pick [] (by kernel_rfl) (by kernel_rfl)⟩)

/-! ### laws.toChoiceS -/
noncomputable def laws_toChoiceS.k_2 (xs_1 : List GChoice) : Option ((List GChoice)) := some xs_1
noncomputable def laws_toChoiceS.l_5 (a0 : List GChoice) : ((List GChoice) × Int) → Option (((List GChoice) × Int) ⊕ ((List GChoice)))
  | (xs_3, i_4) => (if (decide (i_4 < (a0.length : Int))) = true then (ix a0 i_4).bind fun x_7 => (laws_toChoice x_7).bind fun t_8 => (ix xs_3 i_4).bind fun x_9 => some (.inl ((xs_3.set i_4.toNat t_8), (w64 (i_4 + 1)))) else some (.inr xs_3))
noncomputable def laws_toChoiceS (a0 : List GChoice) : Option ((List GChoice)) := (if 0 ≤ (a0.length : Int) ∧ (a0.length : Int) ≤ 35184372088832 then (loop (laws_toChoiceS.l_5 a0) ((List.replicate (a0.length : Int).toNat (⟨false, 0, 0, 0⟩ : GChoice)), 0)).bind fun t_6 => laws_toChoiceS.k_2 t_6 else none)
set_option maxRecDepth 100000 in
theorem laws_toChoiceS.calls (a0 : List GChoice) (w : World) (r : (List GChoice)) (a0_a : Option Addr) (a0_an : Nat) (a0_c : Nat) (a0_h : Rw w a0_a 4 encGChoice a0) (a0_hn : a0.length = a0_an) (h : laws_toChoiceS a0 = some r) :
    Calls Tryd.prog 15 #[(.slice a0_a a0_an a0_c)] w fun e w' => ∃ v, e = .returned v ∧ (∃ (o0 : Option Nat) (c0 : Nat) (s0 : List Value) (n0 : Nat), r.length = n0 ∧ (o0 ≠ none → n0 ≤ c0 ∧ s0.length = (c0 - n0) * 4) ∧ (o0 = none → r = [] ∧ c0 = 0) ∧ v = .slice (o0.map fun b => ⟨b, 0, none⟩) n0 c0 ∧ Mem w [] [⟨o0, 77, row encGChoice r s0⟩] w') := by
  subst a0_hn
  rw [laws_toChoiceS] at h
  refine enter (args := [(.slice a0_a a0.length a0_c)]) Tryd.func15 rfl Tryd.ntmps15 (by kernel_rfl) (L := []) (W := []) (Mem.start w) ?_
  refine jc_seq ?_
  refine jc_region ?_
  refine jo_f [(0, 0)] (by kernel_rfl) ?_
  refine jo_end (by kernel_rfl) ?_
  refine jx_then ?_
  refine jc_seq ?_
  refine jc_region ?_
  refine jo_f [(0, 0), (0, 0)] (by kernel_rfl) ?_
  obtain ⟨hg_88, h⟩ := gd h
  refine toO (by kernel_rfl) (p_mk 0 77 (a0.length : Int) 4 4 encGChoice (⟨false, 0, 0, 0⟩ : GChoice) (by kernel_rfl) (by kernel_rfl) hg_88.1 (by omega) (by kernel_rfl) (fun b_1 => jkO ?_))
  refine jo_f [(0, 0)] (by kernel_rfl) ?_
  refine jo_end (by kernel_rfl) ?_
  refine jx_then ?_
  refine jc_seq ?_
  refine jc_seq ?_
  refine jc_region ?_
  refine jo_f [(0, 0)] (by kernel_rfl) ?_
  refine jo_end (by kernel_rfl) ?_
  refine jx_then ?_
  refine jc_meet (fun (j : (List GChoice)) => match j with | xs_1 => laws_toChoiceS.k_2 xs_1 = some r ∧ (xs_1.length = (a0.length : Int).toNat)) (fun (j : (List GChoice)) => match j with | xs_1 => [(2, [], (.slice none 0 0)), (3, [], (.slice (some ⟨b_1, 0, none⟩) ((a0.length : Int).toNat) ((a0.length : Int).toNat)))]) (fun (j : (List GChoice)) => match j with | xs_1 => [⟨(some b_1), 77, row encGChoice xs_1 []⟩]) ?_ ?_
  · refine jc_block ?_
    obtain ⟨t_6, ht_87, hr_79⟩ := bd h
    refine jc_loop (fun (s : (List GChoice) × Int) (x : Unit) => match s, x with | ⟨xs_3, i_4⟩, _ => (xs_3.length = (a0.length : Int).toNat)) (fun (s : (List GChoice) × Int) (x : Unit) => match s, x with | ⟨xs_3, i_4⟩, _ => [(0, [], (.slice a0_a a0.length a0_c)), (2, [], (.slice none 0 0)), (3, [], (.slice (some ⟨b_1, 0, none⟩) ((a0.length : Int).toNat) ((a0.length : Int).toNat))), (4, [], (.int .i64 i_4))]) (fun (s : (List GChoice) × Int) (x : Unit) => match s, x with | ⟨xs_3, i_4⟩, _ => [⟨(some b_1), 77, row encGChoice xs_3 []⟩]) ht_87 () List.length_replicate (by kernel_rfl) [0] (by kernel_rfl) (by kernel_rfl) ?_
    rintro ⟨xs_3, i_4⟩ _ y_80 hn_78 h
    rw [laws_toChoiceS.l_5] at h
    refine jc_seq ?_
    refine jc_seq ?_
    refine jc_region ?_
    refine jo_f [(0, 0), (0, 0), (0, 0), (0, 0)] (by kernel_rfl) ?_
    refine jo_end (by kernel_rfl) ?_
    refine jx_then ?_
    refine jc_cond (decide (i_4 < (a0.length : Int))) (by kernel_rfl) (fun hc_82 => ?_) (fun hc_82 => ?_)
    · replace h := ifT hc_82 h
      refine jc_skip ?_
      refine jx_then ?_
      refine jc_seq ?_
      refine jc_block ?_
      refine jc_region ?_
      refine jo_f [(0, 0), (0, 0), (0, 0), (0, 0)] (by kernel_rfl) ?_
      obtain ⟨x_7, hx_83, h⟩ := bd h
      refine toO (by kernel_rfl) (p_idx 0 a0_a a0.length i_4 4 (by kernel_rfl) (by kernel_rfl) (ix_some hx_83).1 (ltn hx_83 rfl) (a0_h.sp hx_83) (jkO ?_))
      refine toO (by kernel_rfl) (p_ld 0 (aB a0_a) (aO a0_a + i_4.toNat * 4) true (encGChoice x_7) (by kernel_rfl) (by kernel_rfl) (by kernel_rfl) (fun w hm => ((hm.exRow a0_h List.not_mem_nil).at hx_83)) (jkO ?_))
      obtain ⟨t_8, ht_84, h⟩ := bd h
      refine toO (by kernel_rfl) (p_call 0 45 #[(.agg #[(.bool x_7.fAway), (.int .i8 x_7.fLate), (.int .i8 x_7.fOctave), (.int .i8 x_7.fTrack)])] (by kernel_rfl) (by kernel_rfl) (fun w hm => laws_toChoice.calls x_7 w _ ht_84) ?_)
      rintro w v w' hm ⟨rfl, hm'⟩
      refine ⟨_, hm.app hm', jkO ?_⟩
      clear hm hm'
      obtain ⟨x_9, hx_85, h⟩ := bd h
      refine toO (by kernel_rfl) (p_idx 0 (some ⟨b_1, 0, none⟩) ((a0.length : Int).toNat) i_4 4 (by kernel_rfl) (by kernel_rfl) (ix_some hx_85).1 (ltn hx_85 hn_78) rfl (jkO ?_))
      refine toO (by kernel_rfl) (p_str 0 0 b_1 77 encGChoice xs_3 [] i_4 t_8 4 0 [(.bool t_8.fAway), (.int .i8 t_8.fLate), (.int .i8 t_8.fOctave), (.int .i8 t_8.fTrack)] (by kernel_rfl) (by kernel_rfl) (by kernel_rfl) encGChoice_len hx_85 (by kernel_rfl) (by kernel_rfl) (jkO ?_))
      refine jo_end (by kernel_rfl) ?_
      refine jx_inn ?_
      refine jx_then ?_
      refine jc_region ?_
      refine jo_f [(0, 0), (0, 0), (0, 0)] (by kernel_rfl) ?_
      refine jo_end (by kernel_rfl) ?_
      exact jx_back ((xs_3.set i_4.toNat t_8), (w64 (i_4 + 1))) () (Option.some.inj h).symm (List.length_set.trans hn_78) [0] (by kernel_rfl) (by kernel_rfl) (by kernel_rfl)
    · replace h := ifF hc_82 h
      refine jc_exit ?_
      refine jx_thenx ?_
      refine jx_leave xs_3 (Option.some.inj h).symm (fun e_86 => ?_)
      subst e_86
      refine jx_ine ?_
      exact jx_meet xs_3 ⟨hr_79, hn_78⟩ (by kernel_rfl) [0] (by kernel_rfl) (by kernel_rfl)
  · rintro xs_1 ⟨h, hn_66⟩
    replace h : laws_toChoiceS.k_2 xs_1 = some r := h
    rw [laws_toChoiceS.k_2] at h
    refine jx_then ?_
    refine jc_seq ?_
    refine jc_region ?_
    refine jo_f [(0, 0), (0, 0)] (by kernel_rfl) ?_
    refine jo_end (by kernel_rfl) ?_
    refine jx_then ?_
    refine jc_ret ?_
    obtain rfl := Option.some.inj h
    exact jx_ret [] (.slice (some ⟨b_1, 0, none⟩) ((a0.length : Int).toNat) ((a0.length : Int).toNat)) [] rfl (by kernel_rfl) (by kernel_rfl) (fun w hm => ⟨(some b_1), ((a0.length : Int).toNat), [], ((a0.length : Int).toNat), hn_66, (fun _ => ⟨Nat.le_refl _, by simp⟩), (fun e => nomatch e), rfl, hm.pick [0] (by kernel_rfl) (by kernel_rfl)⟩)

/-! ### spec.Decimal -/
noncomputable def spec_Decimal.step (self_ : Int → Option (ByteArray)) (n0 : Int) : Option (ByteArray) := (if (decide (n0 < 10)) = true then some (ByteArray.empty.push (UInt8.ofNat (u8 (w64 (48 + (Int.tmod n0 10)))).toNat)) else (self_ (w64 (Int.tdiv n0 10))).bind fun t_1 => (if t_1.size + (ByteArray.empty.push (UInt8.ofNat (u8 (w64 (48 + (Int.tmod n0 10)))).toNat)).size ≤ 9223372036854775807 then some (t_1 ++ (ByteArray.empty.push (UInt8.ofNat (u8 (w64 (48 + (Int.tmod n0 10)))).toNat))) else none))
noncomputable def spec_Decimal.rec_ : Nat → Int → Option (ByteArray)
  | 0 => fun n0 => none
  | fu + 1 => spec_Decimal.step (spec_Decimal.rec_ fu)
noncomputable def spec_Decimal (n0 : Int) : Option (ByteArray) := spec_Decimal.rec_ 20 n0
set_option maxRecDepth 100000 in
theorem spec_Decimal.step_calls (self_ : Int → Option (ByteArray)) (hself : ∀ (n0 : Int) (w : World) (r : ByteArray) (h : self_ n0 = some r),
    Calls Tryd.prog 65 #[(.int .i64 n0)] w fun e w' => ∃ v, e = .returned v ∧ (v = (.string r) ∧ Mem w [] [] w')) (n0 : Int) (w : World) (r : ByteArray) (h : spec_Decimal.step self_ n0 = some r) :
    Calls Tryd.prog 65 #[(.int .i64 n0)] w fun e w' => ∃ v, e = .returned v ∧ (v = (.string r) ∧ Mem w [] [] w') := by
  rw [spec_Decimal.step] at h
  refine enter (args := [(.int .i64 n0)]) Tryd.func65 rfl Tryd.ntmps65 (by kernel_rfl) (L := []) (W := []) (Mem.start w) ?_
  refine jc_seq ?_
  refine jc_region ?_
  refine jo_f [(0, 0)] (by kernel_rfl) ?_
  refine jo_end (by kernel_rfl) ?_
  refine jx_then ?_
  refine jc_seq ?_
  refine jc_seq ?_
  refine jc_region ?_
  refine jo_f [(0, 0), (0, 0)] (by kernel_rfl) ?_
  refine jo_end (by kernel_rfl) ?_
  refine jx_then ?_
  refine jc_cond (decide (n0 < 10)) (by kernel_rfl) (fun hc_3 => ?_) (fun hc_3 => ?_)
  · replace h := ifT hc_3 h
    refine jc_seq ?_
    refine jc_region ?_
    refine jo_f [(0, 0), (0, 0), (0, 0), (0, 0)] (by kernel_rfl) ?_
    refine toO (by kernel_rfl) (p_a 0 [0] (by kernel_rfl) (fun b => by kernel_rfl) (fun b_4 => jkO ?_))
    refine toO (by kernel_rfl) (p_s 0 [0] (by kernel_rfl) (by kernel_rfl) (jkO ?_))
    refine jo_f [(0, 0)] (by kernel_rfl) ?_
    refine jo_end (by kernel_rfl) ?_
    refine jx_then ?_
    refine jc_ret ?_
    refine jx_thenr ?_
    obtain rfl := Option.some.inj h
    exact jx_ret [] (.string (ByteArray.empty.push (UInt8.ofNat (u8 (w64 (48 + (Int.tmod n0 10)))).toNat))) [] rfl (by kernel_rfl) (by kernel_rfl) (fun w hm => ⟨rfl, hm.pick [] (by kernel_rfl) (by kernel_rfl)⟩)
  · replace h := ifF hc_3 h
    refine jc_skip ?_
    refine jx_then ?_
    refine jc_seq ?_
    refine jc_draw [] 11 (by kernel_rfl) (by kernel_rfl) ?_
    refine jd_f [⟨0, 0, 0⟩, ⟨1, 0, 0⟩, ⟨3, 0, 0⟩, ⟨4, 0, 0⟩, ⟨5, 0, 0⟩, ⟨6, 0, 0⟩] 5 (by kernel_rfl) (by kernel_rfl) (fun w h => h.pick [] (by kernel_rfl) (by kernel_rfl)) (by kernel_rfl) (by kernel_rfl) ?_
    refine toD2 2 7 (by kernel_rfl) ?_ ?_
    · obtain ⟨t_1, ht_5, h⟩ := bd h
      refine p_call 0 65 #[(.int .i64 (w64 (Int.tdiv n0 10)))] (by kernel_rfl) (by kernel_rfl) (fun w hm => hself (w64 (Int.tdiv n0 10)) w _ ht_5) ?_
      rintro w v w' hm ⟨rfl, hm'⟩
      refine ⟨_, hm.app hm', jkD (fun w h => h.pick [] (by kernel_rfl) (by kernel_rfl)) ?_⟩
      clear hm hm'
      refine toD 7 (by kernel_rfl) (p_a 0 [0] (by kernel_rfl) (fun b => by kernel_rfl) (fun b_6 => jkD (fun w h => h.pick [] (by kernel_rfl) (by kernel_rfl)) ?_))
      refine toD 8 (by kernel_rfl) (p_s 0 [0] (by kernel_rfl) (by kernel_rfl) (jkD (fun w h => h.pick [] (by kernel_rfl) (by kernel_rfl)) ?_))
      obtain ⟨hg_7, h⟩ := gd h
      refine jd_v 9 0 (by kernel_rfl) (fun w h => h.pick [] (by kernel_rfl) (by kernel_rfl)) (by kernel_rfl) (by kernel_rfl) _ (fun w hm => cat_run (a := t_1) (b := (ByteArray.empty.push (UInt8.ofNat (u8 (w64 (48 + (Int.tmod n0 10)))).toNat))) (by kernel_rfl) hg_7) ?_
      refine jd_f [⟨10, 0, 0⟩] 0 (by kernel_rfl) (by kernel_rfl) (fun w h => h.pick [] (by kernel_rfl) (by kernel_rfl)) (by kernel_rfl) (by kernel_rfl) ?_
      refine jd_end (by kernel_rfl) ?_
      refine jx_then ?_
      refine jc_ret ?_
      obtain rfl := Option.some.inj h
      exact jx_ret [] (.string (t_1 ++ (ByteArray.empty.push (UInt8.ofNat (u8 (w64 (48 + (Int.tmod n0 10)))).toNat)))) [] rfl (by kernel_rfl) (by kernel_rfl) (fun w hm => ⟨rfl, hm.pick [] (by kernel_rfl) (by kernel_rfl)⟩)
    · refine p_a 0 [0] (by kernel_rfl) (fun b => by kernel_rfl) (fun b_8 => jkD (fun w h => h.pick [] (by kernel_rfl) (by kernel_rfl)) ?_)
      refine toD2 2 8 (by kernel_rfl) ?_ ?_
      · obtain ⟨t_1, ht_9, h⟩ := bd h
        refine p_call 0 65 #[(.int .i64 (w64 (Int.tdiv n0 10)))] (by kernel_rfl) (by kernel_rfl) (fun w hm => hself (w64 (Int.tdiv n0 10)) w _ ht_9) ?_
        rintro w v w' hm ⟨rfl, hm'⟩
        refine ⟨_, hm.app hm', jkD (fun w h => h.pick [] (by kernel_rfl) (by kernel_rfl)) ?_⟩
        clear hm hm'
        refine toD 8 (by kernel_rfl) (p_s 0 [0] (by kernel_rfl) (by kernel_rfl) (jkD (fun w h => h.pick [] (by kernel_rfl) (by kernel_rfl)) ?_))
        obtain ⟨hg_10, h⟩ := gd h
        refine jd_v 9 0 (by kernel_rfl) (fun w h => h.pick [] (by kernel_rfl) (by kernel_rfl)) (by kernel_rfl) (by kernel_rfl) _ (fun w hm => cat_run (a := t_1) (b := (ByteArray.empty.push (UInt8.ofNat (u8 (w64 (48 + (Int.tmod n0 10)))).toNat))) (by kernel_rfl) hg_10) ?_
        refine jd_f [⟨10, 0, 0⟩] 0 (by kernel_rfl) (by kernel_rfl) (fun w h => h.pick [] (by kernel_rfl) (by kernel_rfl)) (by kernel_rfl) (by kernel_rfl) ?_
        refine jd_end (by kernel_rfl) ?_
        refine jx_then ?_
        refine jc_ret ?_
        obtain rfl := Option.some.inj h
        exact jx_ret [] (.string (t_1 ++ (ByteArray.empty.push (UInt8.ofNat (u8 (w64 (48 + (Int.tmod n0 10)))).toNat)))) [] rfl (by kernel_rfl) (by kernel_rfl) (fun w hm => ⟨rfl, hm.pick [] (by kernel_rfl) (by kernel_rfl)⟩)
      · refine p_s 0 [0] (by kernel_rfl) (by kernel_rfl) (jkD (fun w h => h.pick [] (by kernel_rfl) (by kernel_rfl)) ?_)
        obtain ⟨t_1, ht_11, h⟩ := bd h
        refine toD 2 (by kernel_rfl) (p_call 0 65 #[(.int .i64 (w64 (Int.tdiv n0 10)))] (by kernel_rfl) (by kernel_rfl) (fun w hm => hself (w64 (Int.tdiv n0 10)) w _ ht_11) ?_)
        rintro w v w' hm ⟨rfl, hm'⟩
        refine ⟨_, hm.app hm', jkD (fun w h => h.pick [] (by kernel_rfl) (by kernel_rfl)) ?_⟩
        clear hm hm'
        obtain ⟨hg_12, h⟩ := gd h
        refine jd_v 9 0 (by kernel_rfl) (fun w h => h.pick [] (by kernel_rfl) (by kernel_rfl)) (by kernel_rfl) (by kernel_rfl) _ (fun w hm => cat_run (a := t_1) (b := (ByteArray.empty.push (UInt8.ofNat (u8 (w64 (48 + (Int.tmod n0 10)))).toNat))) (by kernel_rfl) hg_12) ?_
        refine jd_f [⟨10, 0, 0⟩] 0 (by kernel_rfl) (by kernel_rfl) (fun w h => h.pick [] (by kernel_rfl) (by kernel_rfl)) (by kernel_rfl) (by kernel_rfl) ?_
        refine jd_end (by kernel_rfl) ?_
        refine jx_then ?_
        refine jc_ret ?_
        obtain rfl := Option.some.inj h
        exact jx_ret [] (.string (t_1 ++ (ByteArray.empty.push (UInt8.ofNat (u8 (w64 (48 + (Int.tmod n0 10)))).toNat)))) [] rfl (by kernel_rfl) (by kernel_rfl) (fun w hm => ⟨rfl, hm.pick [] (by kernel_rfl) (by kernel_rfl)⟩)
theorem spec_Decimal.rec_calls : ∀ (fu : Nat) (n0 : Int) (w : World) (r : ByteArray) (h : spec_Decimal.rec_ fu n0 = some r),
    Calls Tryd.prog 65 #[(.int .i64 n0)] w fun e w' => ∃ v, e = .returned v ∧ (v = (.string r) ∧ Mem w [] [] w')
  | 0, n0, w, r, h => nomatch (show none = some r from h)
  | fu + 1, n0, w, r, h => spec_Decimal.step_calls (spec_Decimal.rec_ fu) (spec_Decimal.rec_calls fu) n0 w r h
theorem spec_Decimal.calls (n0 : Int) (w : World) (r : ByteArray) (h : spec_Decimal n0 = some r) :
    Calls Tryd.prog 65 #[(.int .i64 n0)] w fun e w' => ∃ v, e = .returned v ∧ (v = (.string r) ∧ Mem w [] [] w') :=
  spec_Decimal.rec_calls 20 n0 w r h

/-! ### spec.l07Small -/
noncomputable def spec_l07Small (n0 : Int) : Option (ByteArray) := (if (decide (n0 < 0)) = true then (spec_Decimal (w64 (w8 (0 - n0)))).bind fun t_1 => (if (ByteArray.mk #[45]).size + t_1.size ≤ 9223372036854775807 then some ((ByteArray.mk #[45]) ++ t_1) else none) else (spec_Decimal (w64 n0)).bind fun t_2 => some t_2)
set_option maxRecDepth 100000 in
theorem spec_l07Small.calls (n0 : Int) (w : World) (r : ByteArray) (h : spec_l07Small n0 = some r) :
    Calls Tryd.prog 72 #[(.int .i8 n0)] w fun e w' => ∃ v, e = .returned v ∧ (v = (.string r) ∧ Mem w [] [] w') := by
  rw [spec_l07Small] at h
  refine enter (args := [(.int .i8 n0)]) Tryd.func72 rfl Tryd.ntmps72 (by kernel_rfl) (L := []) (W := []) (Mem.start w) ?_
  refine jc_seq ?_
  refine jc_region ?_
  refine jo_f [(0, 0)] (by kernel_rfl) ?_
  refine jo_end (by kernel_rfl) ?_
  refine jx_then ?_
  refine jc_seq ?_
  refine jc_seq ?_
  refine jc_region ?_
  refine jo_f [(0, 0), (0, 0)] (by kernel_rfl) ?_
  refine jo_end (by kernel_rfl) ?_
  refine jx_then ?_
  refine jc_cond (decide (n0 < 0)) (by kernel_rfl) (fun hc_4 => ?_) (fun hc_4 => ?_)
  · replace h := ifT hc_4 h
    refine jc_seq ?_
    refine jc_region ?_
    refine jo_f [(0, 0), (0, 0), (0, 0)] (by kernel_rfl) ?_
    obtain ⟨t_1, ht_5, h⟩ := bd h
    refine toO (by kernel_rfl) (p_call 0 65 #[(.int .i64 (w64 (w8 (0 - n0))))] (by kernel_rfl) (by kernel_rfl) (fun w hm => spec_Decimal.calls (w64 (w8 (0 - n0))) w _ ht_5) ?_)
    rintro w v w' hm ⟨rfl, hm'⟩
    refine ⟨_, hm.app hm', jkO ?_⟩
    clear hm hm'
    obtain ⟨hg_6, h⟩ := gd h
    refine toO (by kernel_rfl) (p_v 0 (by kernel_rfl) _ (fun w hm => cat_run (a := (ByteArray.mk #[45])) (b := t_1) (by kernel_rfl) hg_6) (jkO ?_))
    refine jo_f [(0, 0)] (by kernel_rfl) ?_
    refine jo_end (by kernel_rfl) ?_
    refine jx_then ?_
    refine jc_ret ?_
    refine jx_thenr ?_
    obtain rfl := Option.some.inj h
    exact jx_ret [] (.string ((ByteArray.mk #[45]) ++ t_1)) [] rfl (by kernel_rfl) (by kernel_rfl) (fun w hm => ⟨rfl, hm.pick [] (by kernel_rfl) (by kernel_rfl)⟩)
  · replace h := ifF hc_4 h
    refine jc_skip ?_
    refine jx_then ?_
    refine jc_seq ?_
    refine jc_region ?_
    refine jo_f [(0, 0), (0, 0)] (by kernel_rfl) ?_
    obtain ⟨t_2, ht_7, h⟩ := bd h
    refine toO (by kernel_rfl) (p_call 0 65 #[(.int .i64 (w64 n0))] (by kernel_rfl) (by kernel_rfl) (fun w hm => spec_Decimal.calls (w64 n0) w _ ht_7) ?_)
    rintro w v w' hm ⟨rfl, hm'⟩
    refine ⟨_, hm.app hm', jkO ?_⟩
    clear hm hm'
    refine jo_f [(0, 0)] (by kernel_rfl) ?_
    refine jo_end (by kernel_rfl) ?_
    refine jx_then ?_
    refine jc_ret ?_
    obtain rfl := Option.some.inj h
    exact jx_ret [] (.string t_2) [] rfl (by kernel_rfl) (by kernel_rfl) (fun w hm => ⟨rfl, hm.pick [] (by kernel_rfl) (by kernel_rfl)⟩)

/-! ### spec.l07Text -/
noncomputable def spec_l07Text.k_2 (s_1 : ByteArray) : Option (ByteArray) := some s_1
noncomputable def spec_l07Text.k_8 (list0 : List GChoice) (i_4 : Int) (s_7 : ByteArray) : Option ((ByteArray × Int) ⊕ (ByteArray)) := (ix list0 i_4).bind fun x_9 => (if x_9.fAway = true then (if s_7.size + (ByteArray.mk #[120]).size ≤ 9223372036854775807 then some (.inl ((s_7 ++ (ByteArray.mk #[120])), (w64 (i_4 + 1)))) else none) else (ix list0 i_4).bind fun x_10 => (ix list0 i_4).bind fun x_11 => (ix list0 i_4).bind fun x_12 => (spec_l07Small x_10.fLate).bind fun t_13 => (if t_13.size + (ByteArray.mk #[47]).size ≤ 9223372036854775807 then (spec_l07Small x_11.fOctave).bind fun t_14 => (if (t_13 ++ (ByteArray.mk #[47])).size + t_14.size ≤ 9223372036854775807 then (if ((t_13 ++ (ByteArray.mk #[47])) ++ t_14).size + (ByteArray.mk #[47]).size ≤ 9223372036854775807 then (spec_l07Small x_12.fTrack).bind fun t_15 => (if (((t_13 ++ (ByteArray.mk #[47])) ++ t_14) ++ (ByteArray.mk #[47])).size + t_15.size ≤ 9223372036854775807 then (if s_7.size + ((((t_13 ++ (ByteArray.mk #[47])) ++ t_14) ++ (ByteArray.mk #[47])) ++ t_15).size ≤ 9223372036854775807 then some (.inl ((s_7 ++ ((((t_13 ++ (ByteArray.mk #[47])) ++ t_14) ++ (ByteArray.mk #[47])) ++ t_15)), (w64 (i_4 + 1)))) else none) else none) else none) else none) else none))
noncomputable def spec_l07Text.l_5 (list0 : List GChoice) : (ByteArray × Int) → Option ((ByteArray × Int) ⊕ (ByteArray))
  | (s_3, i_4) => (if (decide (i_4 < (list0.length : Int))) = true then (if (decide (i_4 > 0)) = true then (if s_3.size + (ByteArray.mk #[32]).size ≤ 9223372036854775807 then spec_l07Text.k_8 list0 i_4 (s_3 ++ (ByteArray.mk #[32])) else none) else spec_l07Text.k_8 list0 i_4 s_3) else some (.inr s_3))
noncomputable def spec_l07Text (list0 : List GChoice) : Option (ByteArray) := (loop (spec_l07Text.l_5 list0) ((ByteArray.mk #[]), 0)).bind fun t_6 => spec_l07Text.k_2 t_6
set_option maxRecDepth 100000 in
theorem spec_l07Text.calls (list0 : List GChoice) (w : World) (r : ByteArray) (list0_a : Option Addr) (list0_an : Nat) (list0_c : Nat) (list0_h : Rw w list0_a 4 encGChoice list0) (list0_hn : list0.length = list0_an) (h : spec_l07Text list0 = some r) :
    Calls Tryd.prog 44 #[(.slice list0_a list0_an list0_c)] w fun e w' => ∃ v, e = .returned v ∧ (v = (.string r) ∧ Mem w [] [] w') := by
  subst list0_hn
  rw [spec_l07Text] at h
  refine enter (args := [(.slice list0_a list0.length list0_c)]) Tryd.func44 rfl Tryd.ntmps44 (by kernel_rfl) (L := []) (W := []) (Mem.start w) ?_
  refine jc_seq ?_
  refine jc_region ?_
  refine jo_f [(0, 0)] (by kernel_rfl) ?_
  refine jo_end (by kernel_rfl) ?_
  refine jx_then ?_
  refine jc_seq ?_
  refine jc_region ?_
  refine jo_f [(0, 0)] (by kernel_rfl) ?_
  refine jo_end (by kernel_rfl) ?_
  refine jx_then ?_
  refine jc_seq ?_
  refine jc_seq ?_
  refine jc_region ?_
  refine jo_f [(0, 0)] (by kernel_rfl) ?_
  refine jo_end (by kernel_rfl) ?_
  refine jx_then ?_
  refine jc_meet (fun (j : ByteArray) => match j with | s_1 => spec_l07Text.k_2 s_1 = some r) (fun (j : ByteArray) => match j with | s_1 => [(2, [], (.string (ByteArray.mk #[]))), (3, [], (.string s_1))]) (fun (j : ByteArray) => match j with | s_1 => []) ?_ ?_
  · refine jc_block ?_
    obtain ⟨t_6, ht_256, hr_233⟩ := bd h
    refine jc_loop (fun (s : ByteArray × Int) (x : Unit) => match s, x with | ⟨s_3, i_4⟩, _ => True) (fun (s : ByteArray × Int) (x : Unit) => match s, x with | ⟨s_3, i_4⟩, _ => [(0, [], (.slice list0_a list0.length list0_c)), (2, [], (.string (ByteArray.mk #[]))), (3, [], (.string s_3)), (4, [], (.int .i64 i_4))]) (fun (s : ByteArray × Int) (x : Unit) => match s, x with | ⟨s_3, i_4⟩, _ => []) ht_256 () trivial (by kernel_rfl) [] (by kernel_rfl) (by kernel_rfl) ?_
    rintro ⟨s_3, i_4⟩ _ y_234 _ h
    rw [spec_l07Text.l_5] at h
    refine jc_seq ?_
    refine jc_seq ?_
    refine jc_region ?_
    refine jo_f [(0, 0), (0, 0), (0, 0), (0, 0)] (by kernel_rfl) ?_
    refine jo_end (by kernel_rfl) ?_
    refine jx_then ?_
    refine jc_cond (decide (i_4 < (list0.length : Int))) (by kernel_rfl) (fun hc_236 => ?_) (fun hc_236 => ?_)
    · replace h := ifT hc_236 h
      refine jc_skip ?_
      refine jx_then ?_
      refine jc_seq ?_
      refine jc_block ?_
      refine jc_seq ?_
      refine jc_meet (fun (j : ByteArray) => match j with | s_7 => spec_l07Text.k_8 list0 i_4 s_7 = some y_234) (fun (j : ByteArray) => match j with | s_7 => [(0, [], (.slice list0_a list0.length list0_c)), (2, [], (.string (ByteArray.mk #[]))), (3, [], (.string s_7)), (4, [], (.int .i64 i_4))]) (fun (j : ByteArray) => match j with | s_7 => []) ?_ ?_
      · refine jc_seq ?_
        refine jc_region ?_
        refine jo_f [(0, 0), (0, 0)] (by kernel_rfl) ?_
        refine jo_end (by kernel_rfl) ?_
        refine jx_then ?_
        refine jc_cond (decide (i_4 > 0)) (by kernel_rfl) (fun hc_253 => ?_) (fun hc_253 => ?_)
        · replace h := ifT hc_253 h
          refine jc_region ?_
          refine jo_f [(0, 0)] (by kernel_rfl) ?_
          obtain ⟨hg_254, h⟩ := gd h
          refine toO (by kernel_rfl) (p_v 0 (by kernel_rfl) _ (fun w hm => cat_run (a := s_3) (b := (ByteArray.mk #[32])) (by kernel_rfl) hg_254) (jkO ?_))
          refine jo_f [(0, 0)] (by kernel_rfl) ?_
          refine jo_end (by kernel_rfl) ?_
          exact jx_meet (s_3 ++ (ByteArray.mk #[32])) h (by kernel_rfl) [] (by kernel_rfl) (by kernel_rfl)
        · replace h := ifF hc_253 h
          refine jc_skip ?_
          exact jx_meet s_3 h (by kernel_rfl) [] (by kernel_rfl) (by kernel_rfl)
      · rintro s_7 h
        replace h : spec_l07Text.k_8 list0 i_4 s_7 = some y_234 := h
        rw [spec_l07Text.k_8] at h
        refine jx_then ?_
        refine jc_seq ?_
        refine jc_region ?_
        refine jo_f [(0, 0), (0, 0)] (by kernel_rfl) ?_
        obtain ⟨x_9, hx_239, h⟩ := bd h
        refine toO (by kernel_rfl) (p_idx 0 list0_a list0.length i_4 4 (by kernel_rfl) (by kernel_rfl) (ix_some hx_239).1 (ltn hx_239 rfl) (list0_h.sp hx_239) (jkO ?_))
        refine jo_f [(0, 0)] (by kernel_rfl) ?_
        refine toO (by kernel_rfl) (p_ld 0 (aB list0_a) (aO list0_a + i_4.toNat * 4) false (((encGChoice x_9).drop 0).take 1) (by kernel_rfl) (by kernel_rfl) (by kernel_rfl) (fun w hm => (((hm.exRow list0_h List.not_mem_nil).at hx_239).sub 0 1)) (jkO ?_))
        refine jo_end (by kernel_rfl) ?_
        refine jx_then ?_
        refine jc_cond x_9.fAway (by kernel_rfl) (fun hc_240 => ?_) (fun hc_240 => ?_)
        · replace h := ifT hc_240 h
          refine jc_region ?_
          refine jo_f [(0, 0)] (by kernel_rfl) ?_
          obtain ⟨hg_241, h⟩ := gd h
          refine toO (by kernel_rfl) (p_v 0 (by kernel_rfl) _ (fun w hm => cat_run (a := s_7) (b := (ByteArray.mk #[120])) (by kernel_rfl) hg_241) (jkO ?_))
          refine jo_f [(0, 0)] (by kernel_rfl) ?_
          refine jo_end (by kernel_rfl) ?_
          refine jx_inn ?_
          refine jx_then ?_
          refine jc_region ?_
          refine jo_f [(0, 0), (0, 0), (0, 0)] (by kernel_rfl) ?_
          refine jo_end (by kernel_rfl) ?_
          exact jx_back ((s_7 ++ (ByteArray.mk #[120])), (w64 (i_4 + 1))) () (Option.some.inj h).symm trivial [] (by kernel_rfl) (by kernel_rfl) (by kernel_rfl)
        · replace h := ifF hc_240 h
          refine jc_draw [] 25 (by kernel_rfl) (by kernel_rfl) ?_
          refine jd_f [⟨0, 0, 0⟩, ⟨1, 0, 0⟩, ⟨2, 0, 0⟩, ⟨8, 0, 0⟩, ⟨9, 0, 0⟩, ⟨16, 0, 0⟩, ⟨17, 0, 0⟩] 18 (by kernel_rfl) (by kernel_rfl) (fun w h => h.pick [] (by kernel_rfl) (by kernel_rfl)) (by kernel_rfl) (by kernel_rfl) ?_
          obtain ⟨x_10, hx_242, h⟩ := bd h
          refine jd_v 3 0 (by kernel_rfl) (fun w h => h.pick [] (by kernel_rfl) (by kernel_rfl)) (by kernel_rfl) (by kernel_rfl) _ (fun w hm => idx_run (a := list0_a) (len := list0.length) (s := 4) (j := i_4) (by kernel_rfl) (ix_some hx_242).1 (ltn hx_242 rfl) (list0_h.sp hx_242)) ?_
          refine jd_f [⟨4, 0, 0⟩] 16 (by kernel_rfl) (by kernel_rfl) (fun w h => h.pick [] (by kernel_rfl) (by kernel_rfl)) (by kernel_rfl) (by kernel_rfl) ?_
          refine jd_v 5 0 (by kernel_rfl) (fun w h => h.pick [] (by kernel_rfl) (by kernel_rfl)) (by kernel_rfl) (by kernel_rfl) _ (fun w hm => ld_run (b := aB list0_a) (off := (aO list0_a + i_4.toNat * 4 + 1)) (s := 1) (agg := false) (vs := (((encGChoice x_10).drop 1).take 1)) (by kernel_rfl) (by kernel_rfl) (.inr rfl) (((hm.exRow list0_h List.not_mem_nil).at hx_242).sub 1 1)) ?_
          obtain ⟨x_11, hx_243, h⟩ := bd h
          refine jd_v 10 0 (by kernel_rfl) (fun w h => h.pick [] (by kernel_rfl) (by kernel_rfl)) (by kernel_rfl) (by kernel_rfl) _ (fun w hm => idx_run (a := list0_a) (len := list0.length) (s := 4) (j := i_4) (by kernel_rfl) (ix_some hx_243).1 (ltn hx_243 rfl) (list0_h.sp hx_243)) ?_
          refine jd_f [⟨11, 0, 0⟩] 13 (by kernel_rfl) (by kernel_rfl) (fun w h => h.pick [] (by kernel_rfl) (by kernel_rfl)) (by kernel_rfl) (by kernel_rfl) ?_
          refine jd_v 12 0 (by kernel_rfl) (fun w h => h.pick [] (by kernel_rfl) (by kernel_rfl)) (by kernel_rfl) (by kernel_rfl) _ (fun w hm => ld_run (b := aB list0_a) (off := (aO list0_a + i_4.toNat * 4 + 2)) (s := 1) (agg := false) (vs := (((encGChoice x_11).drop 2).take 1)) (by kernel_rfl) (by kernel_rfl) (.inr rfl) (((hm.exRow list0_h List.not_mem_nil).at hx_243).sub 2 1)) ?_
          obtain ⟨x_12, hx_244, h⟩ := bd h
          refine jd_v 18 0 (by kernel_rfl) (fun w h => h.pick [] (by kernel_rfl) (by kernel_rfl)) (by kernel_rfl) (by kernel_rfl) _ (fun w hm => idx_run (a := list0_a) (len := list0.length) (s := 4) (j := i_4) (by kernel_rfl) (ix_some hx_244).1 (ltn hx_244 rfl) (list0_h.sp hx_244)) ?_
          refine jd_f [⟨19, 0, 0⟩] 10 (by kernel_rfl) (by kernel_rfl) (fun w h => h.pick [] (by kernel_rfl) (by kernel_rfl)) (by kernel_rfl) (by kernel_rfl) ?_
          refine jd_v 20 0 (by kernel_rfl) (fun w h => h.pick [] (by kernel_rfl) (by kernel_rfl)) (by kernel_rfl) (by kernel_rfl) _ (fun w hm => ld_run (b := aB list0_a) (off := (aO list0_a + i_4.toNat * 4 + 3)) (s := 1) (agg := false) (vs := (((encGChoice x_12).drop 3).take 1)) (by kernel_rfl) (by kernel_rfl) (.inr rfl) (((hm.exRow list0_h List.not_mem_nil).at hx_244).sub 3 1)) ?_
          obtain ⟨t_13, ht_245, h⟩ := bd h
          refine toD 6 (by kernel_rfl) (p_call 0 72 #[(.int .i8 x_10.fLate)] (by kernel_rfl) (by kernel_rfl) (fun w hm => spec_l07Small.calls x_10.fLate w _ ht_245) ?_)
          rintro w v w' hm ⟨rfl, hm'⟩
          refine ⟨_, hm.app hm', jkD (fun w h => h.pick [] (by kernel_rfl) (by kernel_rfl)) ?_⟩
          clear hm hm'
          obtain ⟨hg_246, h⟩ := gd h
          refine jd_v 7 0 (by kernel_rfl) (fun w h => h.pick [] (by kernel_rfl) (by kernel_rfl)) (by kernel_rfl) (by kernel_rfl) _ (fun w hm => cat_run (a := t_13) (b := (ByteArray.mk #[47])) (by kernel_rfl) hg_246) ?_
          obtain ⟨t_14, ht_247, h⟩ := bd h
          refine toD 13 (by kernel_rfl) (p_call 0 72 #[(.int .i8 x_11.fOctave)] (by kernel_rfl) (by kernel_rfl) (fun w hm => spec_l07Small.calls x_11.fOctave w _ ht_247) ?_)
          rintro w v w' hm ⟨rfl, hm'⟩
          refine ⟨_, hm.app hm', jkD (fun w h => h.pick [] (by kernel_rfl) (by kernel_rfl)) ?_⟩
          clear hm hm'
          obtain ⟨hg_248, h⟩ := gd h
          refine jd_v 14 0 (by kernel_rfl) (fun w h => h.pick [] (by kernel_rfl) (by kernel_rfl)) (by kernel_rfl) (by kernel_rfl) _ (fun w hm => cat_run (a := (t_13 ++ (ByteArray.mk #[47]))) (b := t_14) (by kernel_rfl) hg_248) ?_
          obtain ⟨hg_249, h⟩ := gd h
          refine jd_v 15 0 (by kernel_rfl) (fun w h => h.pick [] (by kernel_rfl) (by kernel_rfl)) (by kernel_rfl) (by kernel_rfl) _ (fun w hm => cat_run (a := ((t_13 ++ (ByteArray.mk #[47])) ++ t_14)) (b := (ByteArray.mk #[47])) (by kernel_rfl) hg_249) ?_
          obtain ⟨t_15, ht_250, h⟩ := bd h
          refine toD 21 (by kernel_rfl) (p_call 0 72 #[(.int .i8 x_12.fTrack)] (by kernel_rfl) (by kernel_rfl) (fun w hm => spec_l07Small.calls x_12.fTrack w _ ht_250) ?_)
          rintro w v w' hm ⟨rfl, hm'⟩
          refine ⟨_, hm.app hm', jkD (fun w h => h.pick [] (by kernel_rfl) (by kernel_rfl)) ?_⟩
          clear hm hm'
          obtain ⟨hg_251, h⟩ := gd h
          refine jd_v 22 0 (by kernel_rfl) (fun w h => h.pick [] (by kernel_rfl) (by kernel_rfl)) (by kernel_rfl) (by kernel_rfl) _ (fun w hm => cat_run (a := (((t_13 ++ (ByteArray.mk #[47])) ++ t_14) ++ (ByteArray.mk #[47]))) (b := t_15) (by kernel_rfl) hg_251) ?_
          obtain ⟨hg_252, h⟩ := gd h
          refine jd_v 23 0 (by kernel_rfl) (fun w h => h.pick [] (by kernel_rfl) (by kernel_rfl)) (by kernel_rfl) (by kernel_rfl) _ (fun w hm => cat_run (a := s_7) (b := ((((t_13 ++ (ByteArray.mk #[47])) ++ t_14) ++ (ByteArray.mk #[47])) ++ t_15)) (by kernel_rfl) hg_252) ?_
          refine jd_f [⟨24, 0, 0⟩] 0 (by kernel_rfl) (by kernel_rfl) (fun w h => h.pick [] (by kernel_rfl) (by kernel_rfl)) (by kernel_rfl) (by kernel_rfl) ?_
          refine jd_end (by kernel_rfl) ?_
          refine jx_inn ?_
          refine jx_then ?_
          refine jc_region ?_
          refine jo_f [(0, 0), (0, 0), (0, 0)] (by kernel_rfl) ?_
          refine jo_end (by kernel_rfl) ?_
          exact jx_back ((s_7 ++ ((((t_13 ++ (ByteArray.mk #[47])) ++ t_14) ++ (ByteArray.mk #[47])) ++ t_15)), (w64 (i_4 + 1))) () (Option.some.inj h).symm trivial [] (by kernel_rfl) (by kernel_rfl) (by kernel_rfl)
    · replace h := ifF hc_236 h
      refine jc_exit ?_
      refine jx_thenx ?_
      refine jx_leave s_3 (Option.some.inj h).symm (fun e_255 => ?_)
      subst e_255
      refine jx_ine ?_
      exact jx_meet s_3 hr_233 (by kernel_rfl) [] (by kernel_rfl) (by kernel_rfl)
  · rintro s_1 h
    replace h : spec_l07Text.k_2 s_1 = some r := h
    rw [spec_l07Text.k_2] at h
    refine jx_then ?_
    refine jc_seq ?_
    refine jc_region ?_
    refine jo_f [(0, 0), (0, 0)] (by kernel_rfl) ?_
    refine jo_end (by kernel_rfl) ?_
    refine jx_then ?_
    refine jc_ret ?_
    obtain rfl := Option.some.inj h
    exact jx_ret [] (.string s_1) [] rfl (by kernel_rfl) (by kernel_rfl) (fun w hm => ⟨rfl, hm.pick [] (by kernel_rfl) (by kernel_rfl)⟩)

/-! ### spec.ChoicesText -/
noncomputable def spec_ChoicesText (list0 : List GChoice) : Option (ByteArray) := (spec_l07Choices list0).bind fun t_1 => (if ((!t_1) || (decide ((list0.length : Int) > 120))) = true then some (ByteArray.mk #[]) else (spec_l07Text list0).bind fun t_2 => some t_2)
set_option maxRecDepth 100000 in
theorem spec_ChoicesText.calls (list0 : List GChoice) (w : World) (r : ByteArray) (list0_a : Option Addr) (list0_an : Nat) (list0_c : Nat) (list0_h : Rw w list0_a 4 encGChoice list0) (list0_hn : list0.length = list0_an) (h : spec_ChoicesText list0 = some r) :
    Calls Tryd.prog 14 #[(.slice list0_a list0_an list0_c)] w fun e w' => ∃ v, e = .returned v ∧ (v = (.string r) ∧ Mem w [] [] w') := by
  subst list0_hn
  rw [spec_ChoicesText] at h
  refine enter (args := [(.slice list0_a list0.length list0_c)]) Tryd.func14 rfl Tryd.ntmps14 (by kernel_rfl) (L := []) (W := []) (Mem.start w) ?_
  refine jc_seq ?_
  refine jc_region ?_
  refine jo_f [(0, 0)] (by kernel_rfl) ?_
  refine jo_end (by kernel_rfl) ?_
  refine jx_then ?_
  refine jc_seq ?_
  refine jc_seq ?_
  refine jc_region ?_
  refine jo_f [(0, 0)] (by kernel_rfl) ?_
  obtain ⟨t_1, ht_5, h⟩ := bd h
  refine toO (by kernel_rfl) (p_call 0 43 #[(.slice list0_a list0.length list0_c)] (by kernel_rfl) (by kernel_rfl) (fun w hm => spec_l07Choices.calls list0 w _ list0_a list0.length list0_c (hm.exRow list0_h List.not_mem_nil) rfl ht_5) ?_)
  rintro w v w' hm ⟨rfl, hm'⟩
  refine ⟨_, hm.app hm', jkO ?_⟩
  clear hm hm'
  refine jo_f [(0, 0), (0, 0), (0, 1), (0, 1), (0, 1), (0, 0)] (by kernel_rfl) ?_
  refine jo_end (by kernel_rfl) ?_
  refine jx_then ?_
  refine jc_cond ((!t_1) || (decide ((list0.length : Int) > 120))) (by kernel_rfl) (fun hc_6 => ?_) (fun hc_6 => ?_)
  · replace h := ifT hc_6 h
    refine jc_seq ?_
    refine jc_region ?_
    refine jo_f [(0, 0)] (by kernel_rfl) ?_
    refine jo_end (by kernel_rfl) ?_
    refine jx_then ?_
    refine jc_ret ?_
    refine jx_thenr ?_
    obtain rfl := Option.some.inj h
    exact jx_ret [] (.string (ByteArray.mk #[])) [] rfl (by kernel_rfl) (by kernel_rfl) (fun w hm => ⟨rfl, hm.pick [] (by kernel_rfl) (by kernel_rfl)⟩)
  · replace h := ifF hc_6 h
    refine jc_skip ?_
    refine jx_then ?_
    refine jc_seq ?_
    refine jc_region ?_
    refine jo_f [(0, 0)] (by kernel_rfl) ?_
    obtain ⟨t_2, ht_7, h⟩ := bd h
    refine toO (by kernel_rfl) (p_call 0 44 #[(.slice list0_a list0.length list0_c)] (by kernel_rfl) (by kernel_rfl) (fun w hm => spec_l07Text.calls list0 w _ list0_a list0.length list0_c (hm.exRow list0_h List.not_mem_nil) rfl ht_7) ?_)
    rintro w v w' hm ⟨rfl, hm'⟩
    refine ⟨_, hm.app hm', jkO ?_⟩
    clear hm hm'
    refine jo_f [(0, 0)] (by kernel_rfl) ?_
    refine jo_end (by kernel_rfl) ?_
    refine jx_then ?_
    refine jc_ret ?_
    obtain rfl := Option.some.inj h
    exact jx_ret [] (.string t_2) [] rfl (by kernel_rfl) (by kernel_rfl) (fun w hm => ⟨rfl, hm.pick [] (by kernel_rfl) (by kernel_rfl)⟩)

/-! ### laws.FnExactChoicesText -/
noncomputable def laws_FnExactChoicesText (aList0 : List GChoice) : Option (Bool) := (laws_szChoiceS aList0 1048576).bind fun t_1 => (if (decide (t_1 < 0)) = true then some true else (laws_toChoiceS aList0).bind fun t_2 => (spec_ChoicesText t_2).bind fun t_3 => (laws_toChoiceS aList0).bind fun t_4 => (impl_ChoicesText t_4).bind fun t_5 => (if (!(t_5.toList == t_3.toList)) = true then some false else (laws_toChoiceS aList0).bind fun t_6 => (laws_eqChoiceS t_4 t_6).bind fun t_7 => (if (!t_7) = true then some false else some true)))
set_option maxRecDepth 100000 in
theorem laws_FnExactChoicesText.calls (aList0 : List GChoice) (w : World) (r : Bool) (g_pw : Glpw w) (aList0_a : Option Addr) (aList0_an : Nat) (aList0_c : Nat) (aList0_h : Rw w aList0_a 4 encGChoice aList0) (aList0_hn : aList0.length = aList0_an) (h : laws_FnExactChoicesText aList0 = some r) :
    Calls Tryd.prog 4 #[(.slice aList0_a aList0_an aList0_c)] w fun e w' => ∃ v, e = .returned v ∧ (v = (.bool r) ∧ Mem w [] [] w') := by
  subst aList0_hn
  rw [laws_FnExactChoicesText] at h
  refine enter (args := [(.slice aList0_a aList0.length aList0_c)]) Tryd.func4 rfl Tryd.ntmps4 (by kernel_rfl) (L := []) (W := []) (Mem.start w) ?_
  refine jc_seq ?_
  refine jc_region ?_
  refine jo_f [(0, 0)] (by kernel_rfl) ?_
  refine jo_end (by kernel_rfl) ?_
  refine jx_then ?_
  refine jc_seq ?_
  refine jc_region ?_
  refine jo_f [(0, 0)] (by kernel_rfl) ?_
  refine jo_end (by kernel_rfl) ?_
  refine jx_then ?_
  refine jc_seq ?_
  refine jc_region ?_
  refine jo_f [(0, 0), (0, 0)] (by kernel_rfl) ?_
  obtain ⟨t_1, ht_1, h⟩ := bd h
  refine toO (by kernel_rfl) (p_call 0 13 #[(.slice aList0_a aList0.length aList0_c), (.int .i64 1048576)] (by kernel_rfl) (by kernel_rfl) (fun w hm => laws_szChoiceS.calls aList0 1048576 w _ aList0_a aList0.length aList0_c (hm.exRow aList0_h List.not_mem_nil) rfl ht_1) ?_)
  rintro w v w' hm ⟨rfl, hm'⟩
  refine ⟨_, hm.app hm', jkO ?_⟩
  clear hm hm'
  refine jo_f [(0, 0)] (by kernel_rfl) ?_
  refine jo_end (by kernel_rfl) ?_
  refine jx_then ?_
  refine jc_seq ?_
  refine jc_seq ?_
  refine jc_region ?_
  refine jo_f [(0, 0), (0, 0)] (by kernel_rfl) ?_
  refine jo_end (by kernel_rfl) ?_
  refine jx_then ?_
  refine jc_cond (decide (t_1 < 0)) (by kernel_rfl) (fun hc_3 => ?_) (fun hc_3 => ?_)
  · replace h := ifT hc_3 h
    refine jc_seq ?_
    refine jc_region ?_
    refine jo_f [(0, 0)] (by kernel_rfl) ?_
    refine jo_end (by kernel_rfl) ?_
    refine jx_then ?_
    refine jc_ret ?_
    refine jx_thenr ?_
    obtain rfl := Option.some.inj h
    exact jx_ret [] (.bool true) [] rfl (by kernel_rfl) (by kernel_rfl) (fun w hm => ⟨rfl, hm.pick [] (by kernel_rfl) (by kernel_rfl)⟩)
  · replace h := ifF hc_3 h
    refine jc_skip ?_
    refine jx_then ?_
    refine jc_seq ?_
    refine jc_region ?_
    refine jo_f [(0, 0)] (by kernel_rfl) ?_
    obtain ⟨t_2, ht_4, h⟩ := bd h
    refine toO (by kernel_rfl) (p_call 0 15 #[(.slice aList0_a aList0.length aList0_c)] (by kernel_rfl) (by kernel_rfl) (fun w hm => laws_toChoiceS.calls aList0 w _ aList0_a aList0.length aList0_c (hm.exRow aList0_h List.not_mem_nil) rfl ht_4) ?_)
    rintro w v w' hm ⟨o_5, cap_6, sp_7, _, rfl, hs_8, ho_9, rfl, hm'⟩
    refine ⟨_, hm.app hm', jkO ?_⟩
    clear hm hm'
    obtain ⟨t_3, ht_10, h⟩ := bd h
    refine toO (by kernel_rfl) (p_call 0 14 #[(.slice (o_5.map fun b => ⟨b, 0, none⟩) t_2.length cap_6)] (by kernel_rfl) (by kernel_rfl) (fun w hm => spec_ChoicesText.calls t_2 w _ (o_5.map fun b => ⟨b, 0, none⟩) t_2.length cap_6 (hm.ownRow (hh := 0) (o := o_5) (T := 77) (enc := encGChoice) (xs := t_2) (sp := sp_7) (by kernel_rfl) (fun e => (ho_9 e).1) encGChoice_len) rfl ht_10) ?_)
    rintro w v w' hm ⟨rfl, hm'⟩
    refine ⟨_, hm.app hm', jkO ?_⟩
    clear hm hm'
    refine jo_f [(0, 0)] (by kernel_rfl) ?_
    refine jo_end (by kernel_rfl) ?_
    refine jx_then ?_
    refine jc_seq ?_
    refine jc_region ?_
    refine jo_f [(0, 0)] (by kernel_rfl) ?_
    obtain ⟨t_4, ht_11, h⟩ := bd h
    refine toO (by kernel_rfl) (p_call 0 15 #[(.slice aList0_a aList0.length aList0_c)] (by kernel_rfl) (by kernel_rfl) (fun w hm => laws_toChoiceS.calls aList0 w _ aList0_a aList0.length aList0_c (hm.exRow aList0_h List.not_mem_nil) rfl ht_11) ?_)
    rintro w v w' hm ⟨o_12, cap_13, sp_14, _, rfl, hs_15, ho_16, rfl, hm'⟩
    refine ⟨_, hm.app hm', jkO ?_⟩
    clear hm hm'
    refine jo_f [(0, 0)] (by kernel_rfl) ?_
    refine jo_end (by kernel_rfl) ?_
    refine jx_then ?_
    refine jc_seq ?_
    refine jc_region ?_
    refine jo_f [(0, 0)] (by kernel_rfl) ?_
    obtain ⟨t_5, ht_17, h⟩ := bd h
    refine toO (by kernel_rfl) (p_call 0 16 #[(.slice (o_12.map fun b => ⟨b, 0, none⟩) t_4.length cap_13)] (by kernel_rfl) (by kernel_rfl) (fun w hm => impl_ChoicesText.calls t_4 w _ (g_pw.keep hm) (o_12.map fun b => ⟨b, 0, none⟩) t_4.length cap_13 (hm.ownRow (hh := 1) (o := o_12) (T := 77) (enc := encGChoice) (xs := t_4) (sp := sp_14) (by kernel_rfl) (fun e => (ho_16 e).1) encGChoice_len) rfl ht_17) ?_)
    rintro w v w' hm ⟨rfl, hm'⟩
    refine ⟨_, hm.app hm', jkO ?_⟩
    clear hm hm'
    refine jo_f [(0, 0)] (by kernel_rfl) ?_
    refine jo_end (by kernel_rfl) ?_
    refine jx_then ?_
    refine jc_seq ?_
    refine jc_seq ?_
    refine jc_region ?_
    refine jo_f [(0, 0), (0, 0), (0, 0)] (by kernel_rfl) ?_
    refine jo_end (by kernel_rfl) ?_
    refine jx_then ?_
    refine jc_cond (!(t_5.toList == t_3.toList)) (by kernel_rfl) (fun hc_19 => ?_) (fun hc_19 => ?_)
    · replace h := ifT hc_19 h
      refine jc_seq ?_
      refine jc_region ?_
      refine jo_f [(0, 0)] (by kernel_rfl) ?_
      refine jo_end (by kernel_rfl) ?_
      refine jx_then ?_
      refine jc_ret ?_
      refine jx_thenr ?_
      obtain rfl := Option.some.inj h
      exact jx_ret [] (.bool false) [] rfl (by kernel_rfl) (by kernel_rfl) (fun w hm => ⟨rfl, hm.pick [] (by kernel_rfl) (by kernel_rfl)⟩)
    · replace h := ifF hc_19 h
      refine jc_skip ?_
      refine jx_then ?_
      refine jc_seq ?_
      refine jc_seq ?_
      refine jc_region ?_
      refine jo_f [(0, 0), (0, 0)] (by kernel_rfl) ?_
      obtain ⟨t_6, ht_20, h⟩ := bd h
      refine toO (by kernel_rfl) (p_call 0 15 #[(.slice aList0_a aList0.length aList0_c)] (by kernel_rfl) (by kernel_rfl) (fun w hm => laws_toChoiceS.calls aList0 w _ aList0_a aList0.length aList0_c (hm.exRow aList0_h List.not_mem_nil) rfl ht_20) ?_)
      rintro w v w' hm ⟨o_21, cap_22, sp_23, _, rfl, hs_24, ho_25, rfl, hm'⟩
      refine ⟨_, hm.app hm', jkO ?_⟩
      clear hm hm'
      obtain ⟨t_7, ht_26, h⟩ := bd h
      refine toO (by kernel_rfl) (p_call 0 17 #[(.slice (o_12.map fun b => ⟨b, 0, none⟩) t_4.length cap_13), (.slice (o_21.map fun b => ⟨b, 0, none⟩) t_6.length cap_22)] (by kernel_rfl) (by kernel_rfl) (fun w hm => laws_eqChoiceS.calls t_4 t_6 w _ (o_12.map fun b => ⟨b, 0, none⟩) t_4.length cap_13 (hm.ownRow (hh := 1) (o := o_12) (T := 77) (enc := encGChoice) (xs := t_4) (sp := sp_14) (by kernel_rfl) (fun e => (ho_16 e).1) encGChoice_len) rfl (o_21.map fun b => ⟨b, 0, none⟩) t_6.length cap_22 (hm.ownRow (hh := 2) (o := o_21) (T := 77) (enc := encGChoice) (xs := t_6) (sp := sp_23) (by kernel_rfl) (fun e => (ho_25 e).1) encGChoice_len) rfl ht_26) ?_)
      rintro w v w' hm ⟨rfl, hm'⟩
      refine ⟨_, hm.app hm', jkO ?_⟩
      clear hm hm'
      refine jo_f [(0, 0)] (by kernel_rfl) ?_
      refine jo_end (by kernel_rfl) ?_
      refine jx_then ?_
      refine jc_cond (!t_7) (by kernel_rfl) (fun hc_27 => ?_) (fun hc_27 => ?_)
      · replace h := ifT hc_27 h
        refine jc_seq ?_
        refine jc_region ?_
        refine jo_f [(0, 0)] (by kernel_rfl) ?_
        refine jo_end (by kernel_rfl) ?_
        refine jx_then ?_
        refine jc_ret ?_
        refine jx_thenr ?_
        obtain rfl := Option.some.inj h
        exact jx_ret [] (.bool false) [] rfl (by kernel_rfl) (by kernel_rfl) (fun w hm => ⟨rfl, hm.pick [] (by kernel_rfl) (by kernel_rfl)⟩)
      · replace h := ifF hc_27 h
        refine jc_skip ?_
        refine jx_then ?_
        refine jc_seq ?_
        refine jc_region ?_
        refine jo_f [(0, 0)] (by kernel_rfl) ?_
        refine jo_end (by kernel_rfl) ?_
        refine jx_then ?_
        refine jc_ret ?_
        obtain rfl := Option.some.inj h
        exact jx_ret [] (.bool true) [] rfl (by kernel_rfl) (by kernel_rfl) (fun w hm => ⟨rfl, hm.pick [] (by kernel_rfl) (by kernel_rfl)⟩)
end Go.Proofs.YtpmndjejabjniaaDoor
