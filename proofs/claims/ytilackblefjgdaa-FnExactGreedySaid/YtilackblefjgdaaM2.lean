/- Functions of the program that the laws reach: a plain function each, and that the call comes to its answer if the plain function has one. Printed by a program. -/
import Derived.Test.YtilackblefjgdaaT
import Derived.Test.YtilackblefjgdaaM0
import Derived.Test.YtilackblefjgdaaM1
namespace Go.Proofs.Ytilackblefjgdaa
open Eng
set_option linter.unusedVariables false

/-! ### laws.szChoiceS -/
noncomputable def laws_szChoiceS (a0 : List GChoice) (left1 : Int) : Option (Int) := (if (decide ((w64 (left1 - (a0.length : Int))) < 0)) = true then some (-1) else some (w64 (left1 - (a0.length : Int))))
set_option maxRecDepth 100000 in
theorem laws_szChoiceS.calls (a0 : List GChoice) (left1 : Int) (w : World) (r : Int) (a0_a : Option Addr) (a0_an : Nat) (a0_c : Nat) (a0_h : Rw w a0_a 4 encGChoice a0) (a0_hn : a0.length = a0_an) (h : laws_szChoiceS a0 left1 = some r) :
    Calls Try.prog 23 #[(.slice a0_a a0_an a0_c), (.int .i64 left1)] w fun e w' => ∃ v, e = .returned v ∧ (v = (.int .i64 r) ∧ Mem w [] [] w') := by
  subst a0_hn
  rw [laws_szChoiceS] at h
  refine enter (args := [(.slice a0_a a0.length a0_c), (.int .i64 left1)]) Try.func23 rfl Try.ntmps23 (by kernel_rfl) (L := []) (W := []) (Mem.start w) ?_
  refine jc_seq ?_
  refine jc_region ?_
  refine jo_f [(0, 0)] (by kernel_rfl) ?_
  refine jo_end (by kernel_rfl) ?_
  refine jx_then ?_
  refine jc_seq ?_
  refine jc_region ?_
  refine jo_f [(0, 0), (0, 0), (0, 0), (0, 0), (0, 0)] (by kernel_rfl) ?_
  refine jo_end (by kernel_rfl) ?_
  refine jx_then ?_
  refine jc_seq ?_
  refine jc_seq ?_
  refine jc_region ?_
  refine jo_f [(0, 0), (0, 0)] (by kernel_rfl) ?_
  refine jo_end (by kernel_rfl) ?_
  refine jx_then ?_
  refine jc_cond (decide ((w64 (left1 - (a0.length : Int))) < 0)) (by kernel_rfl) (fun hc_2 => ?_) (fun hc_2 => ?_)
  · replace h := ifT hc_2 h
    refine jc_seq ?_
    refine jc_region ?_
    refine jo_f [(0, 0)] (by kernel_rfl) ?_
    refine jo_end (by kernel_rfl) ?_
    refine jx_then ?_
    refine jc_ret ?_
    refine jx_thenr ?_
    obtain rfl := Option.some.inj h
    exact jx_ret [] (.int .i64 (-1)) [] rfl (by kernel_rfl) (by kernel_rfl) (fun w hm => ⟨rfl, hm.pick [] (by kernel_rfl) (by kernel_rfl)⟩)
  · replace h := ifF hc_2 h
    refine jc_skip ?_
    refine jx_then ?_
    refine jc_seq ?_
    refine jc_region ?_
    refine jo_f [(0, 0), (0, 0)] (by kernel_rfl) ?_
    refine jo_end (by kernel_rfl) ?_
    refine jx_then ?_
    refine jc_ret ?_
    obtain rfl := Option.some.inj h
    exact jx_ret [] (.int .i64 (w64 (left1 - (a0.length : Int)))) [] rfl (by kernel_rfl) (by kernel_rfl) (fun w hm => ⟨rfl, hm.pick [] (by kernel_rfl) (by kernel_rfl)⟩)

/-! ### laws.toChoice -/
noncomputable def laws_toChoice (a0 : GChoice) : Option (GChoice) := some a0
set_option maxRecDepth 100000 in
theorem laws_toChoice.calls (a0 : GChoice) (w : World) (r : GChoice) (h : laws_toChoice a0 = some r) :
    Calls Try.prog 82 #[(.agg #[(.bool a0.fAway), (.int .i8 a0.fLate), (.int .i8 a0.fOctave), (.int .i8 a0.fTrack)])] w fun e w' => ∃ v, e = .returned v ∧ (v = .agg #[(.bool r.fAway), (.int .i8 r.fLate), (.int .i8 r.fOctave), (.int .i8 r.fTrack)] ∧ Mem w [] [] w') := by
  rw [laws_toChoice] at h
  refine enter (args := [(.agg #[(.bool a0.fAway), (.int .i8 a0.fLate), (.int .i8 a0.fOctave), (.int .i8 a0.fTrack)])]) Try.func82 rfl Try.ntmps82 (by kernel_rfl) (L := []) (W := []) (Mem.start w) ?_
  refine jc_seq ?_
  refine jc_region ?_
  refine toO (by kernel_rfl) (p_a 0 [0] (by kernel_rfl) (fun b => by kernel_rfl) (fun b_1 => jkO ?_))
  refine toO (by kernel_rfl) (p_a 0 [0] (by kernel_rfl) (fun b => by kernel_rfl) (fun b_2 => jkO ?_))
  refine jo_end (by kernel_rfl) ?_
  refine jx_then ?_
  refine jc_seq ?_
  refine jc_region ?_
  refine toO (by kernel_rfl) (p_a 0 [0] (by kernel_rfl) (fun b => by kernel_rfl) (fun b_3 => jkO ?_))
  refine jo_end (by kernel_rfl) ?_
  refine jx_then ?_
  refine jc_seq ?_
  refine jc_region ?_
  refine jo_f [(0, 0), (0, 0), (0, 0)] (by kernel_rfl) ?_
  refine toO (by kernel_rfl) (p_s 0 [2] (by kernel_rfl) (by kernel_rfl) (jkO ?_))
  refine jo_end (by kernel_rfl) ?_
  refine jx_then ?_
  refine jc_seq ?_
  refine jc_region ?_
  refine jo_f [(0, 0), (0, 0), (0, 0)] (by kernel_rfl) ?_
  refine toO (by kernel_rfl) (p_s 0 [2] (by kernel_rfl) (by kernel_rfl) (jkO ?_))
  refine jo_end (by kernel_rfl) ?_
  refine jx_then ?_
  refine jc_seq ?_
  refine jc_region ?_
  refine jo_f [(0, 0), (0, 0), (0, 0)] (by kernel_rfl) ?_
  refine toO (by kernel_rfl) (p_s 0 [2] (by kernel_rfl) (by kernel_rfl) (jkO ?_))
  refine jo_end (by kernel_rfl) ?_
  refine jx_then ?_
  refine jc_seq ?_
  refine jc_region ?_
  refine jo_f [(0, 0), (0, 0), (0, 0)] (by kernel_rfl) ?_
  refine toO (by kernel_rfl) (p_s 0 [2] (by kernel_rfl) (by kernel_rfl) (jkO ?_))
  refine jo_end (by kernel_rfl) ?_
  refine jx_then ?_
  refine jc_seq ?_
  refine jc_region ?_
  refine jo_f [(2, 0)] (by kernel_rfl) ?_
  refine toO (by kernel_rfl) (p_s 0 [1] (by kernel_rfl) (by kernel_rfl) (jkO ?_))
  refine jo_end (by kernel_rfl) ?_
  refine jx_then ?_
  refine jc_ret ?_
  obtain rfl := Option.some.inj h
  exact jx_ret [1] (.agg #[(.bool a0.fAway), (.int .i8 a0.fLate), (.int .i8 a0.fOctave), (.int .i8 a0.fTrack)]) [(b_2, b_2), (b_2, b_2), (b_2, b_2), (b_2, b_2)] rfl (by kernel_rfl) (by kernel_rfl) (fun w hm => ⟨rfl, hm.pick [] (by kernel_rfl) (by kernel_rfl)⟩)

/-! ### laws.toChoiceS -/
noncomputable def laws_toChoiceS.k_2 (xs_1 : List GChoice) : Option ((List GChoice)) := some xs_1
noncomputable def laws_toChoiceS.l_5 (a0 : List GChoice) : ((List GChoice) × Int) → Option (((List GChoice) × Int) ⊕ ((List GChoice)))
  | (xs_3, i_4) => (if (decide (i_4 < (a0.length : Int))) = true then (ix a0 i_4).bind fun x_7 => (laws_toChoice x_7).bind fun t_8 => (ix xs_3 i_4).bind fun x_9 => some (.inl ((xs_3.set i_4.toNat t_8), (w64 (i_4 + 1)))) else some (.inr xs_3))
noncomputable def laws_toChoiceS (a0 : List GChoice) : Option ((List GChoice)) := (if 0 ≤ (a0.length : Int) ∧ (a0.length : Int) ≤ 35184372088832 then (loop (laws_toChoiceS.l_5 a0) ((List.replicate (a0.length : Int).toNat (⟨false, 0, 0, 0⟩ : GChoice)), 0)).bind fun t_6 => laws_toChoiceS.k_2 t_6 else none)
set_option maxRecDepth 100000 in
theorem laws_toChoiceS.calls (a0 : List GChoice) (w : World) (r : (List GChoice)) (a0_a : Option Addr) (a0_an : Nat) (a0_c : Nat) (a0_h : Rw w a0_a 4 encGChoice a0) (a0_hn : a0.length = a0_an) (h : laws_toChoiceS a0 = some r) :
    Calls Try.prog 26 #[(.slice a0_a a0_an a0_c)] w fun e w' => ∃ v, e = .returned v ∧ (∃ (o0 : Option Nat) (c0 : Nat) (s0 : List Value) (n0 : Nat), r.length = n0 ∧ (o0 ≠ none → n0 ≤ c0 ∧ s0.length = (c0 - n0) * 4) ∧ (o0 = none → r = [] ∧ c0 = 0) ∧ v = .slice (o0.map fun b => ⟨b, 0, none⟩) n0 c0 ∧ Mem w [] [⟨o0, 130, row encGChoice r s0⟩] w') := by
  subst a0_hn
  rw [laws_toChoiceS] at h
  refine enter (args := [(.slice a0_a a0.length a0_c)]) Try.func26 rfl Try.ntmps26 (by kernel_rfl) (L := []) (W := []) (Mem.start w) ?_
  refine jc_seq ?_
  refine jc_region ?_
  refine jo_f [(0, 0)] (by kernel_rfl) ?_
  refine jo_end (by kernel_rfl) ?_
  refine jx_then ?_
  refine jc_seq ?_
  refine jc_region ?_
  refine jo_f [(0, 0), (0, 0)] (by kernel_rfl) ?_
  obtain ⟨hg_88, h⟩ := gd h
  refine toO (by kernel_rfl) (p_mk 0 130 (a0.length : Int) 4 4 encGChoice (⟨false, 0, 0, 0⟩ : GChoice) (by kernel_rfl) (by kernel_rfl) hg_88.1 (by omega) (by kernel_rfl) (fun b_1 => jkO ?_))
  refine jo_f [(0, 0)] (by kernel_rfl) ?_
  refine jo_end (by kernel_rfl) ?_
  refine jx_then ?_
  refine jc_seq ?_
  refine jc_seq ?_
  refine jc_region ?_
  refine jo_f [(0, 0)] (by kernel_rfl) ?_
  refine jo_end (by kernel_rfl) ?_
  refine jx_then ?_
  refine jc_meet (fun (j : (List GChoice)) => match j with | xs_1 => laws_toChoiceS.k_2 xs_1 = some r ∧ (xs_1.length = (a0.length : Int).toNat)) (fun (j : (List GChoice)) => match j with | xs_1 => [(2, [], (.slice none 0 0)), (3, [], (.slice (some ⟨b_1, 0, none⟩) ((a0.length : Int).toNat) ((a0.length : Int).toNat)))]) (fun (j : (List GChoice)) => match j with | xs_1 => [⟨(some b_1), 130, row encGChoice xs_1 []⟩]) ?_ ?_
  · refine jc_block ?_
    obtain ⟨t_6, ht_87, hr_79⟩ := bd h
    refine jc_loop (fun (s : (List GChoice) × Int) (x : Unit) => match s, x with | ⟨xs_3, i_4⟩, _ => (xs_3.length = (a0.length : Int).toNat)) (fun (s : (List GChoice) × Int) (x : Unit) => match s, x with | ⟨xs_3, i_4⟩, _ => [(0, [], (.slice a0_a a0.length a0_c)), (2, [], (.slice none 0 0)), (3, [], (.slice (some ⟨b_1, 0, none⟩) ((a0.length : Int).toNat) ((a0.length : Int).toNat))), (4, [], (.int .i64 i_4))]) (fun (s : (List GChoice) × Int) (x : Unit) => match s, x with | ⟨xs_3, i_4⟩, _ => [⟨(some b_1), 130, row encGChoice xs_3 []⟩]) ht_87 () List.length_replicate (by kernel_rfl) [0] (by kernel_rfl) (by kernel_rfl) ?_
    rintro ⟨xs_3, i_4⟩ _ y_80 hn_78 h
    rw [laws_toChoiceS.l_5] at h
    refine jc_seq ?_
    refine jc_seq ?_
    refine jc_region ?_
    refine jo_f [(0, 0), (0, 0), (0, 0), (0, 0)] (by kernel_rfl) ?_
    refine jo_end (by kernel_rfl) ?_
    refine jx_then ?_
    refine jc_cond (decide (i_4 < (a0.length : Int))) (by kernel_rfl) (fun hc_82 => ?_) (fun hc_82 => ?_)
    · replace h := ifT hc_82 h
      refine jc_skip ?_
      refine jx_then ?_
      refine jc_seq ?_
      refine jc_block ?_
      refine jc_region ?_
      refine jo_f [(0, 0), (0, 0), (0, 0), (0, 0)] (by kernel_rfl) ?_
      obtain ⟨x_7, hx_83, h⟩ := bd h
      refine toO (by kernel_rfl) (p_idx 0 a0_a a0.length i_4 4 (by kernel_rfl) (by kernel_rfl) (ix_some hx_83).1 (ltn hx_83 rfl) (a0_h.sp hx_83) (jkO ?_))
      refine toO (by kernel_rfl) (p_ld 0 (aB a0_a) (aO a0_a + i_4.toNat * 4) true (encGChoice x_7) (by kernel_rfl) (by kernel_rfl) (by kernel_rfl) (fun w hm => ((hm.exRow a0_h List.not_mem_nil).at hx_83)) (jkO ?_))
      obtain ⟨t_8, ht_84, h⟩ := bd h
      refine toO (by kernel_rfl) (p_call 0 82 #[(.agg #[(.bool x_7.fAway), (.int .i8 x_7.fLate), (.int .i8 x_7.fOctave), (.int .i8 x_7.fTrack)])] (by kernel_rfl) (by kernel_rfl) (fun w hm => laws_toChoice.calls x_7 w _ ht_84) ?_)
      rintro w v w' hm ⟨rfl, hm'⟩
      refine ⟨_, hm.app hm', jkO ?_⟩
      clear hm hm'
      obtain ⟨x_9, hx_85, h⟩ := bd h
      refine toO (by kernel_rfl) (p_idx 0 (some ⟨b_1, 0, none⟩) ((a0.length : Int).toNat) i_4 4 (by kernel_rfl) (by kernel_rfl) (ix_some hx_85).1 (ltn hx_85 hn_78) rfl (jkO ?_))
      refine toO (by kernel_rfl) (p_str 0 0 b_1 130 encGChoice xs_3 [] i_4 t_8 4 0 [(.bool t_8.fAway), (.int .i8 t_8.fLate), (.int .i8 t_8.fOctave), (.int .i8 t_8.fTrack)] (by kernel_rfl) (by kernel_rfl) (by kernel_rfl) encGChoice_len hx_85 (by kernel_rfl) (by kernel_rfl) (jkO ?_))
      refine jo_end (by kernel_rfl) ?_
      refine jx_inn ?_
      refine jx_then ?_
      refine jc_region ?_
      refine jo_f [(0, 0), (0, 0), (0, 0)] (by kernel_rfl) ?_
      refine jo_end (by kernel_rfl) ?_
      exact jx_back ((xs_3.set i_4.toNat t_8), (w64 (i_4 + 1))) () (Option.some.inj h).symm (List.length_set.trans hn_78) [0] (by kernel_rfl) (by kernel_rfl) (by kernel_rfl)
    · replace h := ifF hc_82 h
      refine jc_exit ?_
      refine jx_thenx ?_
      refine jx_leave xs_3 (Option.some.inj h).symm (fun e_86 => ?_)
      subst e_86
      refine jx_ine ?_
      exact jx_meet xs_3 ⟨hr_79, hn_78⟩ (by kernel_rfl) [0] (by kernel_rfl) (by kernel_rfl)
  · rintro xs_1 ⟨h, hn_66⟩
    replace h : laws_toChoiceS.k_2 xs_1 = some r := h
    rw [laws_toChoiceS.k_2] at h
    refine jx_then ?_
    refine jc_seq ?_
    refine jc_region ?_
    refine jo_f [(0, 0), (0, 0)] (by kernel_rfl) ?_
    refine jo_end (by kernel_rfl) ?_
    refine jx_then ?_
    refine jc_ret ?_
    obtain rfl := Option.some.inj h
    exact jx_ret [] (.slice (some ⟨b_1, 0, none⟩) ((a0.length : Int).toNat) ((a0.length : Int).toNat)) [] rfl (by kernel_rfl) (by kernel_rfl) (fun w hm => ⟨(some b_1), ((a0.length : Int).toNat), [], ((a0.length : Int).toNat), hn_66, (fun _ => ⟨Nat.le_refl _, by simp⟩), (fun e => nomatch e), rfl, hm.pick [0] (by kernel_rfl) (by kernel_rfl)⟩)

/-! ### spec.l07Choice -/
noncomputable def spec_l07Choice (x0 : GChoice) : Option (Bool) := (if x0.fAway = true then some ((x0.fAway == true) && ((x0.fLate == 0) && ((x0.fOctave == 0) && (x0.fTrack == 0)))) else (spec_l00In (w64 x0.fLate) (-3) 3).bind fun t_1 => (if t_1 = true then (spec_l00In (w64 x0.fOctave) (-1) 1).bind fun t_2 => (if t_2 = true then (spec_l00In (w64 x0.fTrack) 0 23).bind fun t_3 => some t_3 else some false) else some false))
set_option maxRecDepth 100000 in
theorem spec_l07Choice.calls (x0 : GChoice) (w : World) (r : Bool) (h : spec_l07Choice x0 = some r) :
    Calls Try.prog 183 #[(.agg #[(.bool x0.fAway), (.int .i8 x0.fLate), (.int .i8 x0.fOctave), (.int .i8 x0.fTrack)])] w fun e w' => ∃ v, e = .returned v ∧ (v = (.bool r) ∧ Mem w [] [] w') := by
  rw [spec_l07Choice] at h
  refine enter (args := [(.agg #[(.bool x0.fAway), (.int .i8 x0.fLate), (.int .i8 x0.fOctave), (.int .i8 x0.fTrack)])]) Try.func183 rfl Try.ntmps183 (by kernel_rfl) (L := []) (W := []) (Mem.start w) ?_
  refine jc_seq ?_
  refine jc_region ?_
  refine toO (by kernel_rfl) (p_a 0 [0] (by kernel_rfl) (fun b => by kernel_rfl) (fun b_1 => jkO ?_))
  refine jo_f [(0, 0)] (by kernel_rfl) ?_
  refine jo_end (by kernel_rfl) ?_
  refine jx_then ?_
  refine jc_seq ?_
  refine jc_seq ?_
  refine jc_region ?_
  refine jo_f [(0, 0), (0, 0)] (by kernel_rfl) ?_
  refine jo_end (by kernel_rfl) ?_
  refine jx_then ?_
  refine jc_cond x0.fAway (by kernel_rfl) (fun hc_3 => ?_) (fun hc_3 => ?_)
  · replace h := ifT hc_3 h
    refine jc_seq ?_
    refine jc_region ?_
    refine jo_f [(0, 0), (0, 0), (0, 0), (0, 0)] (by kernel_rfl) ?_
    refine jo_end (by kernel_rfl) ?_
    refine jx_then ?_
    refine jc_ret ?_
    refine jx_thenr ?_
    obtain rfl := Option.some.inj h
    exact jx_ret [] (.bool ((x0.fAway == true) && ((x0.fLate == 0) && ((x0.fOctave == 0) && (x0.fTrack == 0))))) [] rfl (by kernel_rfl) (by kernel_rfl) (fun w hm => ⟨rfl, hm.pick [] (by kernel_rfl) (by kernel_rfl)⟩)
  · replace h := ifF hc_3 h
    refine jc_skip ?_
    refine jx_then ?_
    refine jc_seq ?_
    refine jc_region ?_
    refine jo_f [(0, 0), (0, 0), (0, 0)] (by kernel_rfl) ?_
    obtain ⟨t_1, ht_4, h⟩ := bd h
    refine toO (by kernel_rfl) (p_call 0 90 #[(.int .i64 (w64 x0.fLate)), (.int .i64 (-3)), (.int .i64 3)] (by kernel_rfl) (by kernel_rfl) (fun w hm => spec_l00In.calls (w64 x0.fLate) (-3) 3 w _ ht_4) ?_)
    rintro w v w' hm ⟨rfl, hm'⟩
    refine ⟨_, hm.app hm', jkO ?_⟩
    clear hm hm'
    refine jo_f [(0, 0), (0, 1), (0, 1), (0, 1)] (by kernel_rfl) ?_
    refine jo_split 12 t_1 (by kernel_rfl) (fun hc_5 => ?_) (fun hc_5 => ?_)
    · replace h := ifT hc_5 h
      obtain ⟨t_2, ht_6, h⟩ := bd h
      refine toO (by kernel_rfl) (p_call 2 90 #[(.int .i64 (w64 x0.fOctave)), (.int .i64 (-1)), (.int .i64 1)] (by kernel_rfl) (by kernel_rfl) (fun w hm => spec_l00In.calls (w64 x0.fOctave) (-1) 1 w _ ht_6) ?_)
      rintro w v w' hm ⟨rfl, hm'⟩
      refine ⟨_, hm.app hm', jkO ?_⟩
      clear hm hm'
      refine jo_f [(0, 4), (0, 0), (0, 1), (0, 1), (0, 1)] (by kernel_rfl) ?_
      refine jo_split 18 t_2 (by kernel_rfl) (fun hc_7 => ?_) (fun hc_7 => ?_)
      · replace h := ifT hc_7 h
        obtain ⟨t_3, ht_8, h⟩ := bd h
        refine toO (by kernel_rfl) (p_call 2 90 #[(.int .i64 (w64 x0.fTrack)), (.int .i64 0), (.int .i64 23)] (by kernel_rfl) (by kernel_rfl) (fun w hm => spec_l00In.calls (w64 x0.fTrack) 0 23 w _ ht_8) ?_)
        rintro w v w' hm ⟨rfl, hm'⟩
        refine ⟨_, hm.app hm', jkO ?_⟩
        clear hm hm'
        refine jo_f [(0, 4), (0, 0)] (by kernel_rfl) ?_
        refine jo_end (by kernel_rfl) ?_
        refine jx_then ?_
        refine jc_ret ?_
        obtain rfl := Option.some.inj h
        exact jx_ret [] (.bool t_3) [] rfl (by kernel_rfl) (by kernel_rfl) (fun w hm => ⟨rfl, hm.pick [] (by kernel_rfl) (by kernel_rfl)⟩)
      · replace h := ifF hc_7 h
        refine jo_f [(0, 3), (0, 5), (0, 0)] (by kernel_rfl) ?_
        refine jo_end (by kernel_rfl) ?_
        refine jx_then ?_
        refine jc_ret ?_
        obtain rfl := Option.some.inj h
        exact jx_ret [] (.bool false) [] rfl (by kernel_rfl) (by kernel_rfl) (fun w hm => ⟨rfl, hm.pick [] (by kernel_rfl) (by kernel_rfl)⟩)
    · replace h := ifF hc_5 h
      refine jo_f [(0, 3), (0, 5), (0, 0), (0, 3), (0, 3), (0, 3), (0, 3), (0, 5), (0, 0)] (by kernel_rfl) ?_
      refine jo_end (by kernel_rfl) ?_
      refine jx_then ?_
      refine jc_ret ?_
      obtain rfl := Option.some.inj h
      exact jx_ret [] (.bool false) [] rfl (by kernel_rfl) (by kernel_rfl) (fun w hm => ⟨rfl, hm.pick [] (by kernel_rfl) (by kernel_rfl)⟩)

/-! ### spec.l07Choices -/
noncomputable def spec_l07Choices.k_1 : Option (Bool) := some true
noncomputable def spec_l07Choices.l_3 (list0 : List GChoice) : Int → Option ((Int) ⊕ (Bool ⊕ Unit))
  | i_2 => (if (decide (i_2 < (list0.length : Int))) = true then (ix list0 i_2).bind fun x_5 => (spec_l07Choice x_5).bind fun t_6 => (if (!t_6) = true then some (.inr (.inl false)) else some (.inl (w64 (i_2 + 1)))) else some (.inr (.inr ())))
noncomputable def spec_l07Choices (list0 : List GChoice) : Option (Bool) := (loop (spec_l07Choices.l_3 list0) 0).bind fun t_4 => match t_4 with | .inl p => some p | .inr p => spec_l07Choices.k_1
set_option maxRecDepth 100000 in
theorem spec_l07Choices.calls (list0 : List GChoice) (w : World) (r : Bool) (list0_a : Option Addr) (list0_an : Nat) (list0_c : Nat) (list0_h : Rw w list0_a 4 encGChoice list0) (list0_hn : list0.length = list0_an) (h : spec_l07Choices list0 = some r) :
    Calls Try.prog 142 #[(.slice list0_a list0_an list0_c)] w fun e w' => ∃ v, e = .returned v ∧ (v = (.bool r) ∧ Mem w [] [] w') := by
  subst list0_hn
  rw [spec_l07Choices] at h
  refine enter (args := [(.slice list0_a list0.length list0_c)]) Try.func142 rfl Try.ntmps142 (by kernel_rfl) (L := []) (W := []) (Mem.start w) ?_
  refine jc_seq ?_
  refine jc_region ?_
  refine jo_f [(0, 0)] (by kernel_rfl) ?_
  refine jo_end (by kernel_rfl) ?_
  refine jx_then ?_
  refine jc_seq ?_
  refine jc_seq ?_
  refine jc_region ?_
  refine jo_f [(0, 0)] (by kernel_rfl) ?_
  refine jo_end (by kernel_rfl) ?_
  refine jx_then ?_
  refine jc_meet (fun (_ : Unit) => spec_l07Choices.k_1 = some r) (fun (_ : Unit) => [(2, [], (.bool false))]) (fun (_ : Unit) => []) ?_ ?_
  · refine jc_block ?_
    obtain ⟨t_4, ht_40, hr_31⟩ := bd h
    refine jc_loop (fun (s : Int) (x : Unit) => match s, x with | i_2, _ => True) (fun (s : Int) (x : Unit) => match s, x with | i_2, _ => [(0, [], (.slice list0_a list0.length list0_c)), (2, [], (.bool false)), (3, [], (.int .i64 i_2))]) (fun (s : Int) (x : Unit) => match s, x with | i_2, _ => []) ht_40 () trivial (by kernel_rfl) [] (by kernel_rfl) (by kernel_rfl) ?_
    rintro i_2 _ y_32 _ h
    rw [spec_l07Choices.l_3] at h
    refine jc_seq ?_
    refine jc_seq ?_
    refine jc_region ?_
    refine jo_f [(0, 0), (0, 0), (0, 0), (0, 0)] (by kernel_rfl) ?_
    refine jo_end (by kernel_rfl) ?_
    refine jx_then ?_
    refine jc_cond (decide (i_2 < (list0.length : Int))) (by kernel_rfl) (fun hc_34 => ?_) (fun hc_34 => ?_)
    · replace h := ifT hc_34 h
      refine jc_skip ?_
      refine jx_then ?_
      refine jc_seq ?_
      refine jc_block ?_
      refine jc_seq ?_
      refine jc_region ?_
      refine jo_f [(0, 0), (0, 0)] (by kernel_rfl) ?_
      obtain ⟨x_5, hx_35, h⟩ := bd h
      refine toO (by kernel_rfl) (p_idx 0 list0_a list0.length i_2 4 (by kernel_rfl) (by kernel_rfl) (ix_some hx_35).1 (ltn hx_35 rfl) (list0_h.sp hx_35) (jkO ?_))
      refine toO (by kernel_rfl) (p_ld 0 (aB list0_a) (aO list0_a + i_2.toNat * 4) true (encGChoice x_5) (by kernel_rfl) (by kernel_rfl) (by kernel_rfl) (fun w hm => ((hm.exRow list0_h List.not_mem_nil).at hx_35)) (jkO ?_))
      obtain ⟨t_6, ht_36, h⟩ := bd h
      refine toO (by kernel_rfl) (p_call 0 183 #[(.agg #[(.bool x_5.fAway), (.int .i8 x_5.fLate), (.int .i8 x_5.fOctave), (.int .i8 x_5.fTrack)])] (by kernel_rfl) (by kernel_rfl) (fun w hm => spec_l07Choice.calls x_5 w _ ht_36) ?_)
      rintro w v w' hm ⟨rfl, hm'⟩
      refine ⟨_, hm.app hm', jkO ?_⟩
      clear hm hm'
      refine jo_f [(0, 0)] (by kernel_rfl) ?_
      refine jo_end (by kernel_rfl) ?_
      refine jx_then ?_
      refine jc_cond (!t_6) (by kernel_rfl) (fun hc_37 => ?_) (fun hc_37 => ?_)
      · replace h := ifT hc_37 h
        refine jc_seq ?_
        refine jc_region ?_
        refine jo_f [(0, 0)] (by kernel_rfl) ?_
        refine jo_end (by kernel_rfl) ?_
        refine jx_then ?_
        refine jc_ret ?_
        refine jx_inr ?_
        refine jx_thenr ?_
        refine jx_leaver (.inl false) (Option.some.inj h).symm (fun e_38 => ?_)
        subst e_38
        refine jx_inr ?_
        refine jx_thenr ?_
        refine jx_thenr ?_
        obtain rfl := Option.some.inj hr_31
        exact jx_ret [] (.bool false) [] rfl (by kernel_rfl) (by kernel_rfl) (fun w hm => ⟨rfl, hm.pick [] (by kernel_rfl) (by kernel_rfl)⟩)
      · replace h := ifF hc_37 h
        refine jc_skip ?_
        refine jx_inn ?_
        refine jx_then ?_
        refine jc_region ?_
        refine jo_f [(0, 0), (0, 0), (0, 0)] (by kernel_rfl) ?_
        refine jo_end (by kernel_rfl) ?_
        exact jx_back (w64 (i_2 + 1)) () (Option.some.inj h).symm trivial [] (by kernel_rfl) (by kernel_rfl) (by kernel_rfl)
    · replace h := ifF hc_34 h
      refine jc_exit ?_
      refine jx_thenx ?_
      refine jx_leave (.inr ()) (Option.some.inj h).symm (fun e_39 => ?_)
      subst e_39
      refine jx_ine ?_
      exact jx_meet () hr_31 (by kernel_rfl) [] (by kernel_rfl) (by kernel_rfl)
  · rintro _ h
    replace h : spec_l07Choices.k_1 = some r := h
    rw [spec_l07Choices.k_1] at h
    refine jx_then ?_
    refine jc_seq ?_
    refine jc_region ?_
    refine jo_f [(0, 0)] (by kernel_rfl) ?_
    refine jo_end (by kernel_rfl) ?_
    refine jx_then ?_
    refine jc_ret ?_
    obtain rfl := Option.some.inj h
    exact jx_ret [] (.bool true) [] rfl (by kernel_rfl) (by kernel_rfl) (fun w hm => ⟨rfl, hm.pick [] (by kernel_rfl) (by kernel_rfl)⟩)

/-! ### spec.l07Asked -/
noncomputable def spec_l07Asked.k_2 (t1 : List GNote) (list2 : List GChoice) (q_1 : Bool) : Option (Int) := (if q_1 = true then some 1 else (if ((list2.length : Int) != (t1.length : Int)) = true then some 2 else some 0))
noncomputable def spec_l07Asked (f0 : GFrame) (t1 : List GNote) (list2 : List GChoice) : Option (Int) := (spec_l02Frame f0).bind fun t_3 => (if (!t_3) = true then spec_l07Asked.k_2 t1 list2 true else (spec_l01Ok t1).bind fun t_4 => (if (!t_4) = true then spec_l07Asked.k_2 t1 list2 true else (spec_l07Choices list2).bind fun t_5 => spec_l07Asked.k_2 t1 list2 (!t_5)))
set_option maxRecDepth 100000 in
theorem spec_l07Asked.calls (f0 : GFrame) (t1 : List GNote) (list2 : List GChoice) (w : World) (r : Int) (f0_fHammers_a : Option Addr) (f0_fHammers_an : Nat) (f0_fHammers_c : Nat) (f0_fHammers_h : Rw w f0_fHammers_a 2 encGHammer f0.fHammers) (f0_fHammers_hn : f0.fHammers.length = f0_fHammers_an) (t1_a : Option Addr) (t1_an : Nat) (t1_c : Nat) (t1_h : Rw w t1_a 2 encGNote t1) (t1_hn : t1.length = t1_an) (list2_a : Option Addr) (list2_an : Nat) (list2_c : Nat) (list2_h : Rw w list2_a 4 encGChoice list2) (list2_hn : list2.length = list2_an) (f0_b : Nat) (hm0 : Mem w (bs [some f0_b]) [⟨some f0_b, 38, [(.int .i16 f0.fSteps), (.slice f0_fHammers_a f0_fHammers_an f0_fHammers_c)]⟩] w) (f0_fHammers_ha : f0.fHammers ≠ [] → aB f0_fHammers_a ∉ bs [some f0_b]) (t1_ha : t1 ≠ [] → aB t1_a ∉ bs [some f0_b]) (list2_ha : list2 ≠ [] → aB list2_a ∉ bs [some f0_b]) (h : spec_l07Asked f0 t1 list2 = some r) :
    Calls Try.prog 79 #[(.pointer (some ⟨f0_b, 0, none⟩)), (.slice t1_a t1_an t1_c), (.slice list2_a list2_an list2_c)] w fun e w' => ∃ v, e = .returned v ∧ (v = (.int .i64 r) ∧ Mem w (bs [some f0_b]) [⟨some f0_b, 38, [(.int .i16 f0.fSteps), (.slice f0_fHammers_a f0_fHammers_an f0_fHammers_c)]⟩] w') := by
  subst f0_fHammers_hn t1_hn list2_hn
  rw [spec_l07Asked] at h
  refine enter (args := [(.pointer (some ⟨f0_b, 0, none⟩)), (.slice t1_a t1.length t1_c), (.slice list2_a list2.length list2_c)]) Try.func79 rfl Try.ntmps79 (by kernel_rfl) (L := [⟨some f0_b, 38, [(.int .i16 f0.fSteps), (.slice f0_fHammers_a f0.fHammers.length f0_fHammers_c)]⟩]) (W := bs [some f0_b]) hm0 ?_
  refine jc_seq ?_
  refine jc_region ?_
  refine jo_f [(0, 0)] (by kernel_rfl) ?_
  refine jo_end (by kernel_rfl) ?_
  refine jx_then ?_
  refine jc_seq ?_
  refine jc_seq ?_
  refine jc_meet (fun (j : Bool) => match j with | q_1 => spec_l07Asked.k_2 t1 list2 q_1 = some r) (fun (j : Bool) => match j with | q_1 => [(1, [], (.slice t1_a t1.length t1_c)), (2, [], (.slice list2_a list2.length list2_c)), (6, [], (.int .i64 0)), (19, [], (.bool q_1))]) (fun (j : Bool) => match j with | q_1 => [⟨some f0_b, 38, [(.int .i16 f0.fSteps), (.slice f0_fHammers_a f0.fHammers.length f0_fHammers_c)]⟩]) ?_ ?_
  · refine jc_region ?_
    refine jo_f [(0, 0)] (by kernel_rfl) ?_
    obtain ⟨t_3, ht_19, h⟩ := bd h
    refine toO (by kernel_rfl) (p_call 0 140 #[(.pointer (some ⟨f0_b, 0, none⟩))] (by kernel_rfl) (by kernel_rfl) (fun w hm => spec_l02Frame.calls f0 w _ f0_fHammers_a f0.fHammers.length f0_fHammers_c (hm.exRowW f0_fHammers_h f0_fHammers_ha) rfl f0_b (hm.pass (N := [⟨some f0_b, 38, [(.int .i16 f0.fSteps), (.slice f0_fHammers_a f0.fHammers.length f0_fHammers_c)]⟩]) [0] (by kernel_rfl) (by kernel_rfl)) (hm.exApart (N := [⟨some f0_b, 38, [(.int .i16 f0.fSteps), (.slice f0_fHammers_a f0.fHammers.length f0_fHammers_c)]⟩]) f0_fHammers_h f0_fHammers_ha [0] (by kernel_rfl)) ht_19) ?_)
    rintro w v w' hm ⟨rfl, hm'⟩
    refine ⟨_, hm.appW (ps := [(0, ⟨some f0_b, 38, [(.int .i16 f0.fSteps), (.slice f0_fHammers_a f0.fHammers.length f0_fHammers_c)]⟩)]) (N := []) hm' (by kernel_rfl) (by kernel_rfl), jkO ?_⟩
    clear hm hm'
    refine jo_f [(0, 0), (0, 0), (0, 1)] (by kernel_rfl) ?_
    refine jo_split 10 (!t_3) (by kernel_rfl) (fun hc_20 => ?_) (fun hc_20 => ?_)
    · replace h := ifT hc_20 h
      refine jo_f [(0, 3), (0, 3), (0, 4), (0, 0), (0, 3), (0, 3), (0, 3), (0, 4)] (by kernel_rfl) ?_
      refine jo_end (by kernel_rfl) ?_
      exact jx_meet true h (by kernel_rfl) [0] (by kernel_rfl) (by kernel_rfl)
    · replace h := ifF hc_20 h
      obtain ⟨t_4, ht_21, h⟩ := bd h
      refine toO (by kernel_rfl) (p_call 2 141 #[(.slice t1_a t1.length t1_c)] (by kernel_rfl) (by kernel_rfl) (fun w hm => spec_l01Ok.calls t1 w _ t1_a t1.length t1_c (hm.exRowW t1_h t1_ha) rfl ht_21) ?_)
      rintro w v w' hm ⟨rfl, hm'⟩
      refine ⟨_, hm.app hm', jkO ?_⟩
      clear hm hm'
      refine jo_f [(0, 2), (0, 5), (0, 0), (0, 1)] (by kernel_rfl) ?_
      refine jo_split 15 (!t_4) (by kernel_rfl) (fun hc_22 => ?_) (fun hc_22 => ?_)
      · replace h := ifT hc_22 h
        refine jo_f [(0, 3), (0, 3), (0, 4)] (by kernel_rfl) ?_
        refine jo_end (by kernel_rfl) ?_
        exact jx_meet true h (by kernel_rfl) [0] (by kernel_rfl) (by kernel_rfl)
      · replace h := ifF hc_22 h
        obtain ⟨t_5, ht_23, h⟩ := bd h
        refine toO (by kernel_rfl) (p_call 2 142 #[(.slice list2_a list2.length list2_c)] (by kernel_rfl) (by kernel_rfl) (fun w hm => spec_l07Choices.calls list2 w _ list2_a list2.length list2_c (hm.exRowW list2_h list2_ha) rfl ht_23) ?_)
        rintro w v w' hm ⟨rfl, hm'⟩
        refine ⟨_, hm.app hm', jkO ?_⟩
        clear hm hm'
        refine jo_f [(0, 2), (0, 5)] (by kernel_rfl) ?_
        refine jo_end (by kernel_rfl) ?_
        exact jx_meet (!t_5) h (by kernel_rfl) [0] (by kernel_rfl) (by kernel_rfl)
  · rintro q_1 h
    replace h : spec_l07Asked.k_2 t1 list2 q_1 = some r := h
    rw [spec_l07Asked.k_2] at h
    refine jx_then ?_
    refine jc_cond q_1 (by kernel_rfl) (fun hc_17 => ?_) (fun hc_17 => ?_)
    · replace h := ifT hc_17 h
      refine jc_seq ?_
      refine jc_region ?_
      refine jo_f [(0, 0)] (by kernel_rfl) ?_
      refine jo_end (by kernel_rfl) ?_
      refine jx_then ?_
      refine jc_ret ?_
      refine jx_thenr ?_
      obtain rfl := Option.some.inj h
      exact jx_ret [] (.int .i64 1) [] rfl (by kernel_rfl) (by kernel_rfl) (fun w hm => ⟨rfl, hm.pick [0] (by kernel_rfl) (by kernel_rfl)⟩)
    · replace h := ifF hc_17 h
      refine jc_skip ?_
      refine jx_then ?_
      refine jc_seq ?_
      refine jc_seq ?_
      refine jc_region ?_
      refine jo_f [(0, 0), (0, 0), (0, 0), (0, 0), (0, 0)] (by kernel_rfl) ?_
      refine jo_end (by kernel_rfl) ?_
      refine jx_then ?_
      refine jc_cond ((list2.length : Int) != (t1.length : Int)) (by kernel_rfl) (fun hc_18 => ?_) (fun hc_18 => ?_)
      · replace h := ifT hc_18 h
        refine jc_seq ?_
        refine jc_region ?_
        refine jo_f [(0, 0)] (by kernel_rfl) ?_
        refine jo_end (by kernel_rfl) ?_
        refine jx_then ?_
        refine jc_ret ?_
        refine jx_thenr ?_
        obtain rfl := Option.some.inj h
        exact jx_ret [] (.int .i64 2) [] rfl (by kernel_rfl) (by kernel_rfl) (fun w hm => ⟨rfl, hm.pick [0] (by kernel_rfl) (by kernel_rfl)⟩)
      · replace h := ifF hc_18 h
        refine jc_skip ?_
        refine jx_then ?_
        refine jc_seq ?_
        refine jc_region ?_
        refine jo_f [(0, 0)] (by kernel_rfl) ?_
        refine jo_end (by kernel_rfl) ?_
        refine jx_then ?_
        refine jc_ret ?_
        obtain rfl := Option.some.inj h
        exact jx_ret [] (.int .i64 0) [] rfl (by kernel_rfl) (by kernel_rfl) (fun w hm => ⟨rfl, hm.pick [0] (by kernel_rfl) (by kernel_rfl)⟩)

/-! ### spec.l07Fit -/
noncomputable def spec_l07Fit.k_2 (a_1 : Arr 96 Int) : Option ((Arr 96 Int) × Int) := some (a_1, (-1))
noncomputable def spec_l07Fit.k_13 (i_4 : Int) (a_11 : Arr 96 Int) (q_12 : Bool) : Option (((Arr 96 Int) × Int) ⊕ (((Arr 96 Int) × Int) ⊕ (Arr 96 Int))) := (if q_12 = true then some (.inr (.inl ((Arr.rep 96 0), i_4))) else some (.inl (a_11, (w64 (i_4 + 1)))))
noncomputable def spec_l07Fit.k_10 (f0 : GFrame) (t1 : List GNote) (list2 : List GChoice) (a_3 : Arr 96 Int) (i_4 : Int) (q_9 : Bool) : Option (((Arr 96 Int) × Int) ⊕ (((Arr 96 Int) × Int) ⊕ (Arr 96 Int))) := (if (!q_9) = true then spec_l07Fit.k_13 i_4 a_3 true else (ix t1 i_4).bind fun x_14 => (ix list2 i_4).bind fun x_15 => (spec_l07Put f0 a_3 x_14 x_15).bind fun t_16 => spec_l07Fit.k_13 i_4 t_16.2 (!t_16.1))
noncomputable def spec_l07Fit.l_19 (list2 : List GChoice) (i_4 : Int) (t_8 : (List GChoice)) : (Bool × Int) → Option ((Bool × Int) ⊕ (Bool))
  | (q_17, i_18) => (if (decide (i_18 < (t_8.length : Int))) = true then (if q_17 = true then some (.inl (true, (w64 (i_18 + 1)))) else (ix t_8 i_18).bind fun x_21 => (ix list2 i_4).bind fun x_22 => some (.inl (((x_21.fAway == x_22.fAway) && ((x_21.fLate == x_22.fLate) && ((x_21.fOctave == x_22.fOctave) && (x_21.fTrack == x_22.fTrack)))), (w64 (i_18 + 1))))) else some (.inr q_17))
noncomputable def spec_l07Fit.l_5 (f0 : GFrame) (t1 : List GNote) (list2 : List GChoice) : ((Arr 96 Int) × Int) → Option (((Arr 96 Int) × Int) ⊕ (((Arr 96 Int) × Int) ⊕ (Arr 96 Int)))
  | (a_3, i_4) => (if (decide (i_4 < (t1.length : Int))) = true then (ix t1 i_4).bind fun x_7 => (spec_l07For f0 x_7).bind fun t_8 => (loop (spec_l07Fit.l_19 list2 i_4 t_8) (false, 0)).bind fun t_20 => spec_l07Fit.k_10 f0 t1 list2 a_3 i_4 t_20 else some (.inr (.inr a_3)))
noncomputable def spec_l07Fit (f0 : GFrame) (t1 : List GNote) (list2 : List GChoice) : Option ((Arr 96 Int) × Int) := (loop (spec_l07Fit.l_5 f0 t1 list2) ((Arr.rep 96 0), 0)).bind fun t_6 => match t_6 with | .inl p => some p | .inr p => spec_l07Fit.k_2 p
set_option maxRecDepth 100000 in
theorem spec_l07Fit.calls (f0 : GFrame) (t1 : List GNote) (list2 : List GChoice) (w : World) (r : (Arr 96 Int) × Int) (f0_fHammers_a : Option Addr) (f0_fHammers_an : Nat) (f0_fHammers_c : Nat) (f0_fHammers_h : Rw w f0_fHammers_a 2 encGHammer f0.fHammers) (f0_fHammers_hn : f0.fHammers.length = f0_fHammers_an) (t1_a : Option Addr) (t1_an : Nat) (t1_c : Nat) (t1_h : Rw w t1_a 2 encGNote t1) (t1_hn : t1.length = t1_an) (list2_a : Option Addr) (list2_an : Nat) (list2_c : Nat) (list2_h : Rw w list2_a 4 encGChoice list2) (list2_hn : list2.length = list2_an) (f0_b : Nat) (hm0 : Mem w (bs [some f0_b]) [⟨some f0_b, 38, [(.int .i16 f0.fSteps), (.slice f0_fHammers_a f0_fHammers_an f0_fHammers_c)]⟩] w) (f0_fHammers_ha : f0.fHammers ≠ [] → aB f0_fHammers_a ∉ bs [some f0_b]) (t1_ha : t1 ≠ [] → aB t1_a ∉ bs [some f0_b]) (list2_ha : list2 ≠ [] → aB list2_a ∉ bs [some f0_b]) (h : spec_l07Fit f0 t1 list2 = some r) :
    Calls Try.prog 80 #[(.pointer (some ⟨f0_b, 0, none⟩)), (.slice t1_a t1_an t1_c), (.slice list2_a list2_an list2_c)] w fun e w' => ∃ v, e = .returned v ∧ (v = .tuple #[(.agg (row encU32 r.1.1 []).toArray), (.int .i64 r.2)] ∧ Mem w (bs [some f0_b]) [⟨some f0_b, 38, [(.int .i16 f0.fSteps), (.slice f0_fHammers_a f0_fHammers_an f0_fHammers_c)]⟩] w') := by
  subst f0_fHammers_hn t1_hn list2_hn
  rw [spec_l07Fit] at h
  refine enter (args := [(.pointer (some ⟨f0_b, 0, none⟩)), (.slice t1_a t1.length t1_c), (.slice list2_a list2.length list2_c)]) Try.func80 rfl Try.ntmps80 (by kernel_rfl) (L := [⟨some f0_b, 38, [(.int .i16 f0.fSteps), (.slice f0_fHammers_a f0.fHammers.length f0_fHammers_c)]⟩]) (W := bs [some f0_b]) hm0 ?_
  refine jc_seq ?_
  refine jc_region ?_
  refine toO (by kernel_rfl) (p_a 0 [0] (by kernel_rfl) (fun b => by kernel_rfl) (fun b_1 => jkO ?_))
  refine jo_f [(0, 0)] (by kernel_rfl) ?_
  refine jo_end (by kernel_rfl) ?_
  refine jx_then ?_
  refine jc_seq ?_
  refine jc_region ?_
  refine jo_f [(0, 0)] (by kernel_rfl) ?_
  refine toO (by kernel_rfl) (p_a 0 [0] (by kernel_rfl) (fun b => by kernel_rfl) (fun b_2 => jkO ?_))
  refine toO (by kernel_rfl) (p_sA 0 2 b_2 96 1 67 encU32 (Arr.rep 96 0) (Arr.rep 96 0) (by kernel_rfl) (by kernel_rfl) (by kernel_rfl) encU32_len encU32_cell (by kernel_rfl) (jkO ?_))
  refine jo_end (by kernel_rfl) ?_
  refine jx_then ?_
  refine jc_seq ?_
  refine jc_seq ?_
  refine jc_region ?_
  refine jo_f [(0, 0)] (by kernel_rfl) ?_
  refine jo_end (by kernel_rfl) ?_
  refine jx_then ?_
  refine jc_meet (fun (j : (Arr 96 Int)) => match j with | a_1 => spec_l07Fit.k_2 a_1 = some r) (fun (j : (Arr 96 Int)) => match j with | a_1 => [(6, [], (.pointer (some ⟨b_1, 0, none⟩))), (7, [], (.int .i64 0)), (8, [], (.pointer (some ⟨b_2, 0, none⟩)))]) (fun (j : (Arr 96 Int)) => match j with | a_1 => [⟨some f0_b, 38, [(.int .i16 f0.fSteps), (.slice f0_fHammers_a f0.fHammers.length f0_fHammers_c)]⟩, ⟨(some b_1), 67, row encU32 ((Arr.rep 96 0).1) []⟩, ⟨(some b_2), 67, row encU32 a_1.1 []⟩]) ?_ ?_
  · refine jc_block ?_
    obtain ⟨t_6, ht_1174, hr_1074⟩ := bd h
    refine jc_loop (fun (s : (Arr 96 Int) × Int) (x : Unit) => match s, x with | ⟨a_3, i_4⟩, _ => True) (fun (s : (Arr 96 Int) × Int) (x : Unit) => match s, x with | ⟨a_3, i_4⟩, _ => [(0, [], (.pointer (some ⟨f0_b, 0, none⟩))), (1, [], (.slice t1_a t1.length t1_c)), (2, [], (.slice list2_a list2.length list2_c)), (6, [], (.pointer (some ⟨b_1, 0, none⟩))), (7, [], (.int .i64 0)), (8, [], (.pointer (some ⟨b_2, 0, none⟩))), (9, [], (.int .i64 i_4))]) (fun (s : (Arr 96 Int) × Int) (x : Unit) => match s, x with | ⟨a_3, i_4⟩, _ => [⟨some f0_b, 38, [(.int .i16 f0.fSteps), (.slice f0_fHammers_a f0.fHammers.length f0_fHammers_c)]⟩, ⟨(some b_1), 67, row encU32 ((Arr.rep 96 0).1) []⟩, ⟨(some b_2), 67, row encU32 a_3.1 []⟩]) ht_1174 () trivial (by kernel_rfl) [0, 1, 2] (by kernel_rfl) (by kernel_rfl) ?_
    rintro ⟨a_3, i_4⟩ _ y_1075 _ h
    rw [spec_l07Fit.l_5] at h
    refine jc_seq ?_
    refine jc_seq ?_
    refine jc_region ?_
    refine jo_f [(0, 0), (0, 0), (0, 0), (0, 0)] (by kernel_rfl) ?_
    refine jo_end (by kernel_rfl) ?_
    refine jx_then ?_
    refine jc_cond (decide (i_4 < (t1.length : Int))) (by kernel_rfl) (fun hc_1077 => ?_) (fun hc_1077 => ?_)
    · replace h := ifT hc_1077 h
      refine jc_skip ?_
      refine jx_then ?_
      refine jc_seq ?_
      refine jc_block ?_
      refine jc_seq ?_
      refine jc_region ?_
      refine jo_f [(0, 0), (0, 0), (0, 0)] (by kernel_rfl) ?_
      obtain ⟨x_7, hx_1078, h⟩ := bd h
      refine toO (by kernel_rfl) (p_idx 0 t1_a t1.length i_4 2 (by kernel_rfl) (by kernel_rfl) (ix_some hx_1078).1 (ltn hx_1078 rfl) (t1_h.sp hx_1078) (jkO ?_))
      refine toO (by kernel_rfl) (p_ld 0 (aB t1_a) (aO t1_a + i_4.toNat * 2) true (encGNote x_7) (by kernel_rfl) (by kernel_rfl) (by kernel_rfl) (fun w hm => ((hm.exRowW t1_h t1_ha).at hx_1078)) (jkO ?_))
      obtain ⟨t_8, ht_1079, h⟩ := bd h
      refine toO (by kernel_rfl) (p_call 0 95 #[(.pointer (some ⟨f0_b, 0, none⟩)), (.agg #[(.int .i16 x_7.fAt), (.int .i8 x_7.fPitch)])] (by kernel_rfl) (by kernel_rfl) (fun w hm => spec_l07For.calls f0 x_7 w _ f0_fHammers_a f0.fHammers.length f0_fHammers_c (hm.exRowW f0_fHammers_h f0_fHammers_ha) rfl f0_b (hm.pass (N := [⟨some f0_b, 38, [(.int .i16 f0.fSteps), (.slice f0_fHammers_a f0.fHammers.length f0_fHammers_c)]⟩]) [0] (by kernel_rfl) (by kernel_rfl)) (hm.exApart (N := [⟨some f0_b, 38, [(.int .i16 f0.fSteps), (.slice f0_fHammers_a f0.fHammers.length f0_fHammers_c)]⟩]) f0_fHammers_h f0_fHammers_ha [0] (by kernel_rfl)) ht_1079) ?_)
      rintro w v w' hm ⟨o_1080, cap_1081, sp_1082, _, rfl, hs_1083, ho_1084, rfl, hm'⟩
      refine ⟨_, hm.appW (ps := [(0, ⟨some f0_b, 38, [(.int .i16 f0.fSteps), (.slice f0_fHammers_a f0.fHammers.length f0_fHammers_c)]⟩)]) (N := [⟨o_1080, 130, row encGChoice t_8 sp_1082⟩]) hm' (by kernel_rfl) (by kernel_rfl), jkO ?_⟩
      clear hm hm'
      refine jo_f [(0, 0)] (by kernel_rfl) ?_
      refine jo_end (by kernel_rfl) ?_
      refine jx_then ?_
      refine jc_seq ?_
      refine jc_region ?_
      refine jo_f [(0, 0)] (by kernel_rfl) ?_
      refine jo_end (by kernel_rfl) ?_
      refine jx_then ?_
      refine jc_seq ?_
      refine jc_seq ?_
      refine jc_region ?_
      refine jo_f [(0, 0)] (by kernel_rfl) ?_
      refine jo_end (by kernel_rfl) ?_
      refine jx_then ?_
      refine jc_meet (fun (j : Bool) => match j with | q_9 => spec_l07Fit.k_10 f0 t1 list2 a_3 i_4 q_9 = some y_1075) (fun (j : Bool) => match j with | q_9 => [(0, [], (.pointer (some ⟨f0_b, 0, none⟩))), (1, [], (.slice t1_a t1.length t1_c)), (2, [], (.slice list2_a list2.length list2_c)), (6, [], (.pointer (some ⟨b_1, 0, none⟩))), (7, [], (.int .i64 0)), (8, [], (.pointer (some ⟨b_2, 0, none⟩))), (9, [], (.int .i64 i_4)), (11, [], (.bool q_9))]) (fun (j : Bool) => match j with | q_9 => [⟨some f0_b, 38, [(.int .i16 f0.fSteps), (.slice f0_fHammers_a f0.fHammers.length f0_fHammers_c)]⟩, ⟨(some b_1), 67, row encU32 ((Arr.rep 96 0).1) []⟩, ⟨(some b_2), 67, row encU32 a_3.1 []⟩, ⟨o_1080, 130, row encGChoice t_8 sp_1082⟩]) ?_ ?_
      · refine jc_block ?_
        obtain ⟨t_20, ht_1172, hr_1164⟩ := bd h
        refine jc_loop (fun (s : Bool × Int) (x : Unit) => match s, x with | ⟨q_17, i_18⟩, _ => True) (fun (s : Bool × Int) (x : Unit) => match s, x with | ⟨q_17, i_18⟩, _ => [(0, [], (.pointer (some ⟨f0_b, 0, none⟩))), (1, [], (.slice t1_a t1.length t1_c)), (2, [], (.slice list2_a list2.length list2_c)), (6, [], (.pointer (some ⟨b_1, 0, none⟩))), (7, [], (.int .i64 0)), (8, [], (.pointer (some ⟨b_2, 0, none⟩))), (9, [], (.int .i64 i_4)), (10, [], (.slice (o_1080.map fun b => ⟨b, 0, none⟩) t_8.length cap_1081)), (11, [], (.bool q_17)), (12, [], (.int .i64 i_18))]) (fun (s : Bool × Int) (x : Unit) => match s, x with | ⟨q_17, i_18⟩, _ => [⟨some f0_b, 38, [(.int .i16 f0.fSteps), (.slice f0_fHammers_a f0.fHammers.length f0_fHammers_c)]⟩, ⟨(some b_1), 67, row encU32 ((Arr.rep 96 0).1) []⟩, ⟨(some b_2), 67, row encU32 a_3.1 []⟩, ⟨o_1080, 130, row encGChoice t_8 sp_1082⟩]) ht_1172 () trivial (by kernel_rfl) [0, 1, 2, 3] (by kernel_rfl) (by kernel_rfl) ?_
        rintro ⟨q_17, i_18⟩ _ y_1165 _ h
        rw [spec_l07Fit.l_19] at h
        refine jc_seq ?_
        refine jc_seq ?_
        refine jc_region ?_
        refine jo_f [(0, 0), (0, 0), (0, 0), (0, 0)] (by kernel_rfl) ?_
        refine jo_end (by kernel_rfl) ?_
        refine jx_then ?_
        refine jc_cond (decide (i_18 < (t_8.length : Int))) (by kernel_rfl) (fun hc_1167 => ?_) (fun hc_1167 => ?_)
        · replace h := ifT hc_1167 h
          refine jc_skip ?_
          refine jx_then ?_
          refine jc_seq ?_
          refine jc_block ?_
          refine jc_draw [⟨some f0_b, 38, [(.int .i16 f0.fSteps), (.slice f0_fHammers_a f0.fHammers.length f0_fHammers_c)]⟩, ⟨(some b_1), 67, row encU32 ((Arr.rep 96 0).1) []⟩, ⟨(some b_2), 67, row encU32 a_3.1 []⟩, ⟨o_1080, 130, row encGChoice t_8 sp_1082⟩] 13 (by kernel_rfl) (by kernel_rfl) ?_
          refine jd_f [⟨0, 0, 0⟩, ⟨1, 0, 0⟩, ⟨2, 0, 1⟩, ⟨3, 0, 1⟩, ⟨6, 0, 1⟩, ⟨7, 0, 1⟩] 7 (by kernel_rfl) (by kernel_rfl) (fun w h => h.pick [0, 1, 2, 3] (by kernel_rfl) (by kernel_rfl)) (by kernel_rfl) (by kernel_rfl) ?_
          refine jd_split 33 q_17 (by kernel_rfl) (fun hc_1168 => ?_) (fun hc_1168 => ?_)
          · replace h := ifT hc_1168 h
            refine jd_f [⟨4, 0, 3⟩, ⟨5, 0, 3⟩, ⟨8, 0, 3⟩, ⟨9, 0, 3⟩, ⟨10, 0, 3⟩, ⟨11, 0, 4⟩, ⟨12, 0, 0⟩] 0 (by kernel_rfl) (by kernel_rfl) (fun w h => h.pick [0, 1, 2, 3] (by kernel_rfl) (by kernel_rfl)) (by kernel_rfl) (by kernel_rfl) ?_
            refine jd_end (by kernel_rfl) ?_
            refine jx_inn ?_
            refine jx_then ?_
            refine jc_region ?_
            refine jo_f [(0, 0), (0, 0), (0, 0)] (by kernel_rfl) ?_
            refine jo_end (by kernel_rfl) ?_
            exact jx_back (true, (w64 (i_18 + 1))) () (Option.some.inj h).symm trivial [0, 1, 2, 3] (by kernel_rfl) (by kernel_rfl) (by kernel_rfl)
          · replace h := ifF hc_1168 h
            obtain ⟨x_21, hx_1169, h⟩ := bd h
            refine jd_v 4 2 (by kernel_rfl) (fun w h => h.pick [0, 1, 2, 3] (by kernel_rfl) (by kernel_rfl)) (by kernel_rfl) (by kernel_rfl) _ (fun w hm => idx_run (a := (o_1080.map fun b => ⟨b, 0, none⟩)) (len := t_8.length) (s := 4) (j := i_18) (by kernel_rfl) (ix_some hx_1169).1 (ltn hx_1169 rfl) (spo ho_1084 hx_1169)) ?_
            refine jd_v 5 2 (by kernel_rfl) (fun w h => h.pick [0, 1, 2, 3] (by kernel_rfl) (by kernel_rfl)) (by kernel_rfl) (by kernel_rfl) _ (fun w hm => ld_run (b := aB (o_1080.map fun b => ⟨b, 0, none⟩)) (off := (aO (o_1080.map fun b => ⟨b, 0, none⟩) + i_18.toNat * 4)) (s := 4) (agg := true) (vs := (encGChoice x_21)) (by kernel_rfl) (by kernel_rfl) (.inl rfl) ((hm.ownRow (hh := 3) (o := o_1080) (T := 130) (enc := encGChoice) (xs := t_8) (sp := sp_1082) (by kernel_rfl) (fun e => (ho_1084 e).1) encGChoice_len).at hx_1169)) ?_
            obtain ⟨x_22, hx_1170, h⟩ := bd h
            refine jd_v 8 2 (by kernel_rfl) (fun w h => h.pick [0, 1, 2, 3] (by kernel_rfl) (by kernel_rfl)) (by kernel_rfl) (by kernel_rfl) _ (fun w hm => idx_run (a := list2_a) (len := list2.length) (s := 4) (j := i_4) (by kernel_rfl) (ix_some hx_1170).1 (ltn hx_1170 rfl) (list2_h.sp hx_1170)) ?_
            refine jd_v 9 2 (by kernel_rfl) (fun w h => h.pick [0, 1, 2, 3] (by kernel_rfl) (by kernel_rfl)) (by kernel_rfl) (by kernel_rfl) _ (fun w hm => ld_run (b := aB list2_a) (off := (aO list2_a + i_4.toNat * 4)) (s := 4) (agg := true) (vs := (encGChoice x_22)) (by kernel_rfl) (by kernel_rfl) (.inl rfl) ((hm.exRowW list2_h list2_ha).at hx_1170)) ?_
            refine jd_f [⟨10, 0, 2⟩, ⟨11, 0, 5⟩, ⟨12, 0, 0⟩] 0 (by kernel_rfl) (by kernel_rfl) (fun w h => h.pick [0, 1, 2, 3] (by kernel_rfl) (by kernel_rfl)) (by kernel_rfl) (by kernel_rfl) ?_
            refine jd_end (by kernel_rfl) ?_
            refine jx_inn ?_
            refine jx_then ?_
            refine jc_region ?_
            refine jo_f [(0, 0), (0, 0), (0, 0)] (by kernel_rfl) ?_
            refine jo_end (by kernel_rfl) ?_
            exact jx_back (((x_21.fAway == x_22.fAway) && ((x_21.fLate == x_22.fLate) && ((x_21.fOctave == x_22.fOctave) && (x_21.fTrack == x_22.fTrack)))), (w64 (i_18 + 1))) () (Option.some.inj h).symm trivial [0, 1, 2, 3] (by kernel_rfl) (by kernel_rfl) (by kernel_rfl)
        · replace h := ifF hc_1167 h
          refine jc_exit ?_
          refine jx_thenx ?_
          refine jx_leave q_17 (Option.some.inj h).symm (fun e_1171 => ?_)
          subst e_1171
          refine jx_ine ?_
          exact jx_meet q_17 hr_1164 (by kernel_rfl) [0, 1, 2, 3] (by kernel_rfl) (by kernel_rfl)
      · rintro q_9 h
        replace h : spec_l07Fit.k_10 f0 t1 list2 a_3 i_4 q_9 = some y_1075 := h
        rw [spec_l07Fit.k_10] at h
        refine jx_then ?_
        refine jc_seq ?_
        refine jc_meet (fun (j : (Arr 96 Int) × Bool) => match j with | ⟨a_11, q_12⟩ => spec_l07Fit.k_13 i_4 a_11 q_12 = some y_1075) (fun (j : (Arr 96 Int) × Bool) => match j with | ⟨a_11, q_12⟩ => [(0, [], (.pointer (some ⟨f0_b, 0, none⟩))), (1, [], (.slice t1_a t1.length t1_c)), (2, [], (.slice list2_a list2.length list2_c)), (6, [], (.pointer (some ⟨b_1, 0, none⟩))), (7, [], (.int .i64 0)), (8, [], (.pointer (some ⟨b_2, 0, none⟩))), (9, [], (.int .i64 i_4)), (58, [], (.bool q_12))]) (fun (j : (Arr 96 Int) × Bool) => match j with | ⟨a_11, q_12⟩ => [⟨some f0_b, 38, [(.int .i16 f0.fSteps), (.slice f0_fHammers_a f0.fHammers.length f0_fHammers_c)]⟩, ⟨(some b_1), 67, row encU32 ((Arr.rep 96 0).1) []⟩, ⟨(some b_2), 67, row encU32 a_11.1 []⟩, ⟨o_1080, 130, row encGChoice t_8 sp_1082⟩]) ?_ ?_
        · refine jc_draw [⟨some f0_b, 38, [(.int .i16 f0.fSteps), (.slice f0_fHammers_a f0.fHammers.length f0_fHammers_c)]⟩, ⟨(some b_1), 67, row encU32 ((Arr.rep 96 0).1) []⟩, ⟨o_1080, 130, row encGChoice t_8 sp_1082⟩] 15 (by kernel_rfl) (by kernel_rfl) ?_
          refine jd_f [⟨0, 0, 0⟩, ⟨1, 0, 0⟩, ⟨2, 0, 0⟩, ⟨3, 0, 1⟩, ⟨4, 0, 1⟩, ⟨5, 0, 1⟩, ⟨8, 0, 1⟩, ⟨9, 0, 1⟩] 7 (by kernel_rfl) (by kernel_rfl) (fun w h => h.pick [0, 1, 3] (by kernel_rfl) (by kernel_rfl)) (by kernel_rfl) (by kernel_rfl) ?_
          refine jd_split 46 (!q_9) (by kernel_rfl) (fun hc_1151 => ?_) (fun hc_1151 => ?_)
          · replace h := ifT hc_1151 h
            refine jd_f [⟨6, 0, 3⟩, ⟨7, 0, 3⟩, ⟨10, 0, 3⟩, ⟨11, 0, 3⟩, ⟨12, 0, 3⟩, ⟨13, 0, 3⟩, ⟨14, 0, 4⟩] 0 (by kernel_rfl) (by kernel_rfl) (fun w h => h.pick [0, 1, 3] (by kernel_rfl) (by kernel_rfl)) (by kernel_rfl) (by kernel_rfl) ?_
            refine jd_end (by kernel_rfl) ?_
            exact jx_meet ⟨a_3, true⟩ h (by kernel_rfl) [0, 1, 2, 3] (by kernel_rfl) (by kernel_rfl)
          · replace h := ifF hc_1151 h
            obtain ⟨x_14, hx_1152, h⟩ := bd h
            refine jd_v 6 2 (by kernel_rfl) (fun w h => h.pick [0, 1, 3] (by kernel_rfl) (by kernel_rfl)) (by kernel_rfl) (by kernel_rfl) _ (fun w hm => idx_run (a := t1_a) (len := t1.length) (s := 2) (j := i_4) (by kernel_rfl) (ix_some hx_1152).1 (ltn hx_1152 rfl) (t1_h.sp hx_1152)) ?_
            refine jd_v 7 2 (by kernel_rfl) (fun w h => h.pick [0, 1, 3] (by kernel_rfl) (by kernel_rfl)) (by kernel_rfl) (by kernel_rfl) _ (fun w hm => ld_run (b := aB t1_a) (off := (aO t1_a + i_4.toNat * 2)) (s := 2) (agg := true) (vs := (encGNote x_14)) (by kernel_rfl) (by kernel_rfl) (.inl rfl) ((hm.exRowW t1_h t1_ha).at hx_1152)) ?_
            obtain ⟨x_15, hx_1153, h⟩ := bd h
            refine jd_v 10 2 (by kernel_rfl) (fun w h => h.pick [0, 1, 3] (by kernel_rfl) (by kernel_rfl)) (by kernel_rfl) (by kernel_rfl) _ (fun w hm => idx_run (a := list2_a) (len := list2.length) (s := 4) (j := i_4) (by kernel_rfl) (ix_some hx_1153).1 (ltn hx_1153 rfl) (list2_h.sp hx_1153)) ?_
            refine jd_v 11 2 (by kernel_rfl) (fun w h => h.pick [0, 1, 3] (by kernel_rfl) (by kernel_rfl)) (by kernel_rfl) (by kernel_rfl) _ (fun w hm => ld_run (b := aB list2_a) (off := (aO list2_a + i_4.toNat * 4)) (s := 4) (agg := true) (vs := (encGChoice x_15)) (by kernel_rfl) (by kernel_rfl) (.inl rfl) ((hm.exRowW list2_h list2_ha).at hx_1153)) ?_
            obtain ⟨t_16, ht_1154, h⟩ := bd h
            refine toD 12 (by kernel_rfl) (p_call 2 96 #[(.pointer (some ⟨f0_b, 0, none⟩)), (.pointer (some ⟨b_2, 0, none⟩)), (.agg #[(.int .i16 x_14.fAt), (.int .i8 x_14.fPitch)]), (.agg #[(.bool x_15.fAway), (.int .i8 x_15.fLate), (.int .i8 x_15.fOctave), (.int .i8 x_15.fTrack)])] (by kernel_rfl) (by kernel_rfl) (fun w hm => spec_l07Put.calls f0 a_3 x_14 x_15 w _ f0_fHammers_a f0.fHammers.length f0_fHammers_c (hm.exRowW f0_fHammers_h f0_fHammers_ha) rfl f0_b b_2 (hm.pass (N := [⟨some f0_b, 38, [(.int .i16 f0.fSteps), (.slice f0_fHammers_a f0.fHammers.length f0_fHammers_c)]⟩, ⟨(some b_2), 67, row encU32 a_3.1 []⟩]) [0, 2] (by kernel_rfl) (by kernel_rfl)) (hm.exApart (N := [⟨some f0_b, 38, [(.int .i16 f0.fSteps), (.slice f0_fHammers_a f0.fHammers.length f0_fHammers_c)]⟩, ⟨(some b_2), 67, row encU32 a_3.1 []⟩]) f0_fHammers_h f0_fHammers_ha [0, 2] (by kernel_rfl)) ht_1154) ?_)
            rintro w v w' hm ⟨rfl, hm'⟩
            refine ⟨_, hm.appW (ps := [(0, ⟨some f0_b, 38, [(.int .i16 f0.fSteps), (.slice f0_fHammers_a f0.fHammers.length f0_fHammers_c)]⟩), (2, ⟨(some b_2), 67, row encU32 t_16.2.1 []⟩)]) (N := []) hm' (by kernel_rfl) (by kernel_rfl), jkD (fun w h => h.pick [0, 1, 3] (by kernel_rfl) (by kernel_rfl)) ?_⟩
            clear hm hm'
            refine jd_f [⟨13, 0, 2⟩, ⟨14, 0, 5⟩] 0 (by kernel_rfl) (by kernel_rfl) (fun w h => h.pick [0, 1, 3] (by kernel_rfl) (by kernel_rfl)) (by kernel_rfl) (by kernel_rfl) ?_
            refine jd_end (by kernel_rfl) ?_
            exact jx_meet ⟨t_16.2, (!t_16.1)⟩ h (by kernel_rfl) [0, 1, 2, 3] (by kernel_rfl) (by kernel_rfl)
        · rintro ⟨a_11, q_12⟩ h
          replace h : spec_l07Fit.k_13 i_4 a_11 q_12 = some y_1075 := h
          rw [spec_l07Fit.k_13] at h
          refine jx_then ?_
          refine jc_cond q_12 (by kernel_rfl) (fun hc_1146 => ?_) (fun hc_1146 => ?_)
          · replace h := ifT hc_1146 h
            refine jc_seq ?_
            refine jc_region ?_
            refine jo_f [(0, 0), (0, 0)] (by kernel_rfl) ?_
            refine toO (by kernel_rfl) (p_sA 0 1 b_1 96 1 67 encU32 (Arr.rep 96 0) (Arr.rep 96 0) (by kernel_rfl) (by kernel_rfl) (by kernel_rfl) encU32_len encU32_cell (by kernel_rfl) (jkO ?_))
            refine jo_f [(0, 0)] (by kernel_rfl) ?_
            refine jo_end (by kernel_rfl) ?_
            refine jx_then ?_
            refine jc_ret ?_
            refine jx_inr ?_
            refine jx_thenr ?_
            refine jx_leaver (.inl ((Arr.rep 96 0), i_4)) (Option.some.inj h).symm (fun e_1147 => ?_)
            subst e_1147
            refine jx_inr ?_
            refine jx_thenr ?_
            refine jx_thenr ?_
            obtain rfl := Option.some.inj hr_1074
            exact jx_retV rfl (rq_arr (b := b_1) (T' := 67) (hh := 1) (mm := 1) encU32 (Arr.rep 96 0) (by kernel_rfl) (by kernel_rfl) encU32_len (by kernel_rfl) (rq_tmp (by kernel_rfl) rq_nil)) (fun w hm => ⟨rfl, hm.pick [0] (by kernel_rfl) (by kernel_rfl)⟩)
          · replace h := ifF hc_1146 h
            refine jc_skip ?_
            refine jx_inn ?_
            refine jx_then ?_
            refine jc_region ?_
            refine jo_f [(0, 0), (0, 0), (0, 0)] (by kernel_rfl) ?_
            refine jo_end (by kernel_rfl) ?_
            exact jx_back (a_11, (w64 (i_4 + 1))) () (Option.some.inj h).symm trivial [0, 1, 2] (by kernel_rfl) (by kernel_rfl) (by kernel_rfl)
    · replace h := ifF hc_1077 h
      refine jc_exit ?_
      refine jx_thenx ?_
      refine jx_leave (.inr a_3) (Option.some.inj h).symm (fun e_1173 => ?_)
      subst e_1173
      refine jx_ine ?_
      exact jx_meet a_3 hr_1074 (by kernel_rfl) [0, 1, 2] (by kernel_rfl) (by kernel_rfl)
  · rintro a_1 h
    replace h : spec_l07Fit.k_2 a_1 = some r := h
    rw [spec_l07Fit.k_2] at h
    refine jx_then ?_
    refine jc_seq ?_
    refine jc_region ?_
    refine toO (by kernel_rfl) (p_ldA 0 2 b_2 96 1 67 encU32 a_1 (by kernel_rfl) (by kernel_rfl) (by kernel_rfl) encU32_len (by kernel_rfl) (jkO ?_))
    refine toO (by kernel_rfl) (p_sA 0 1 b_1 96 1 67 encU32 (Arr.rep 96 0) a_1 (by kernel_rfl) (by kernel_rfl) (by kernel_rfl) encU32_len encU32_cell (by kernel_rfl) (jkO ?_))
    refine jo_f [(0, 0)] (by kernel_rfl) ?_
    refine jo_end (by kernel_rfl) ?_
    refine jx_then ?_
    refine jc_ret ?_
    obtain rfl := Option.some.inj h
    exact jx_retV rfl (rq_arr (b := b_1) (T' := 67) (hh := 1) (mm := 1) encU32 a_1 (by kernel_rfl) (by kernel_rfl) encU32_len (by kernel_rfl) (rq_tmp (by kernel_rfl) rq_nil)) (fun w hm => ⟨rfl, hm.pick [0] (by kernel_rfl) (by kernel_rfl)⟩)

/-! ### slices.Index[[]impl.Choice,impl.Choice] -/
noncomputable def slices_Index_Choice.k_1 : Option (Int) := some (-1)
noncomputable def slices_Index_Choice.l_3 (s0 : List GChoice) (v1 : GChoice) : Int → Option ((Int) ⊕ (Int ⊕ Unit))
  | i_2 => (if (decide (i_2 < (s0.length : Int))) = true then (ix s0 i_2).bind fun x_5 => (if ((v1.fAway == x_5.fAway) && ((v1.fLate == x_5.fLate) && ((v1.fOctave == x_5.fOctave) && (v1.fTrack == x_5.fTrack)))) = true then some (.inr (.inl i_2)) else some (.inl (w64 (i_2 + 1)))) else some (.inr (.inr ())))
noncomputable def slices_Index_Choice (s0 : List GChoice) (v1 : GChoice) : Option (Int) := (loop (slices_Index_Choice.l_3 s0 v1) 0).bind fun t_4 => match t_4 with | .inl p => some p | .inr p => slices_Index_Choice.k_1
set_option maxRecDepth 100000 in
theorem slices_Index_Choice.calls (s0 : List GChoice) (v1 : GChoice) (w : World) (r : Int) (s0_a : Option Addr) (s0_an : Nat) (s0_c : Nat) (s0_h : Rw w s0_a 4 encGChoice s0) (s0_hn : s0.length = s0_an) (h : slices_Index_Choice s0 v1 = some r) :
    Calls Try.prog 212 #[(.slice s0_a s0_an s0_c), (.agg #[(.bool v1.fAway), (.int .i8 v1.fLate), (.int .i8 v1.fOctave), (.int .i8 v1.fTrack)])] w fun e w' => ∃ v, e = .returned v ∧ (v = (.int .i64 r) ∧ Mem w [] [] w') := by
  subst s0_hn
  rw [slices_Index_Choice] at h
  refine enter (args := [(.slice s0_a s0.length s0_c), (.agg #[(.bool v1.fAway), (.int .i8 v1.fLate), (.int .i8 v1.fOctave), (.int .i8 v1.fTrack)])]) Try.func212 rfl Try.ntmps212 (by kernel_rfl) (L := []) (W := []) (Mem.start w) ?_
  refine jc_seq ?_
  refine jc_region ?_
  refine toO (by kernel_rfl) (p_a 0 [0] (by kernel_rfl) (fun b => by kernel_rfl) (fun b_1 => jkO ?_))
  refine jo_f [(0, 0)] (by kernel_rfl) ?_
  refine jo_end (by kernel_rfl) ?_
  refine jx_then ?_
  refine jc_seq ?_
  refine jc_seq ?_
  refine jc_region ?_
  refine jo_f [(0, 0), (0, 0), (0, 0)] (by kernel_rfl) ?_
  refine jo_end (by kernel_rfl) ?_
  refine jx_then ?_
  refine jc_meet (fun (_ : Unit) => slices_Index_Choice.k_1 = some r) (fun (_ : Unit) => [(4, [], (.int .i64 0))]) (fun (_ : Unit) => [⟨some b_1, 130, [(.bool v1.fAway), (.int .i8 v1.fLate), (.int .i8 v1.fOctave), (.int .i8 v1.fTrack)]⟩]) ?_ ?_
  · refine jc_block ?_
    obtain ⟨t_4, ht_35, hr_27⟩ := bd h
    refine jc_loop (fun (s : Int) (x : Unit) => match s, x with | i_2, _ => True) (fun (s : Int) (x : Unit) => match s, x with | i_2, _ => [(0, [], (.slice s0_a s0.length s0_c)), (3, [], (.pointer (some ⟨b_1, 0, none⟩))), (4, [], (.int .i64 0)), (7, [], (.int .i64 (s0.length : Int))), (8, [], (.int .i64 i_2))]) (fun (s : Int) (x : Unit) => match s, x with | i_2, _ => [⟨some b_1, 130, [(.bool v1.fAway), (.int .i8 v1.fLate), (.int .i8 v1.fOctave), (.int .i8 v1.fTrack)]⟩]) ht_35 () trivial (by kernel_rfl) [0] (by kernel_rfl) (by kernel_rfl) ?_
    rintro i_2 _ y_28 _ h
    rw [slices_Index_Choice.l_3] at h
    refine jc_seq ?_
    refine jc_region ?_
    refine jo_f [(0, 0)] (by kernel_rfl) ?_
    refine jo_end (by kernel_rfl) ?_
    refine jx_then ?_
    refine jc_seq ?_
    refine jc_cond (decide (i_2 < (s0.length : Int))) (by kernel_rfl) (fun hc_30 => ?_) (fun hc_30 => ?_)
    · replace h := ifT hc_30 h
      refine jc_skip ?_
      refine jx_then ?_
      refine jc_seq ?_
      refine jc_block ?_
      refine jc_seq ?_
      refine jc_region ?_
      refine jo_f [(0, 0), (0, 0)] (by kernel_rfl) ?_
      refine jo_end (by kernel_rfl) ?_
      refine jx_then ?_
      refine jc_seq ?_
      refine jc_draw [⟨some b_1, 130, [(.bool v1.fAway), (.int .i8 v1.fLate), (.int .i8 v1.fOctave), (.int .i8 v1.fTrack)]⟩] 6 (by kernel_rfl) (by kernel_rfl) ?_
      refine jd_f [⟨0, 0, 0⟩, ⟨1, 0, 0⟩, ⟨2, 0, 0⟩] 3 (by kernel_rfl) (by kernel_rfl) (fun w h => h.pick [0] (by kernel_rfl) (by kernel_rfl)) (by kernel_rfl) (by kernel_rfl) ?_
      obtain ⟨x_5, hx_31, h⟩ := bd h
      refine jd_v 3 0 (by kernel_rfl) (fun w h => h.pick [0] (by kernel_rfl) (by kernel_rfl)) (by kernel_rfl) (by kernel_rfl) _ (fun w hm => idx_run (a := s0_a) (len := s0.length) (s := 4) (j := i_2) (by kernel_rfl) (ix_some hx_31).1 (ltn hx_31 rfl) (s0_h.sp hx_31)) ?_
      refine jd_v 4 0 (by kernel_rfl) (fun w h => h.pick [0] (by kernel_rfl) (by kernel_rfl)) (by kernel_rfl) (by kernel_rfl) _ (fun w hm => ld_run (b := aB s0_a) (off := (aO s0_a + i_2.toNat * 4)) (s := 4) (agg := true) (vs := (encGChoice x_5)) (by kernel_rfl) (by kernel_rfl) (.inl rfl) ((hm.exRow s0_h List.not_mem_nil).at hx_31)) ?_
      refine jd_f [⟨5, 0, 0⟩] 0 (by kernel_rfl) (by kernel_rfl) (fun w h => h.pick [0] (by kernel_rfl) (by kernel_rfl)) (by kernel_rfl) (by kernel_rfl) ?_
      refine jd_end (by kernel_rfl) ?_
      refine jx_then ?_
      refine jc_cond ((v1.fAway == x_5.fAway) && ((v1.fLate == x_5.fLate) && ((v1.fOctave == x_5.fOctave) && (v1.fTrack == x_5.fTrack)))) (by kernel_rfl) (fun hc_32 => ?_) (fun hc_32 => ?_)
      · replace h := ifT hc_32 h
        refine jc_seq ?_
        refine jc_region ?_
        refine jo_f [(0, 0), (0, 0)] (by kernel_rfl) ?_
        refine jo_end (by kernel_rfl) ?_
        refine jx_then ?_
        refine jc_ret ?_
        refine jx_inr ?_
        refine jx_thenr ?_
        refine jx_leaver (.inl i_2) (Option.some.inj h).symm (fun e_33 => ?_)
        subst e_33
        refine jx_inr ?_
        refine jx_thenr ?_
        refine jx_thenr ?_
        obtain rfl := Option.some.inj hr_27
        exact jx_ret [] (.int .i64 i_2) [] rfl (by kernel_rfl) (by kernel_rfl) (fun w hm => ⟨rfl, hm.pick [] (by kernel_rfl) (by kernel_rfl)⟩)
      · replace h := ifF hc_32 h
        refine jc_skip ?_
        refine jx_inn ?_
        refine jx_then ?_
        refine jc_region ?_
        refine jo_f [(0, 0), (0, 0)] (by kernel_rfl) ?_
        refine jo_end (by kernel_rfl) ?_
        exact jx_back (w64 (i_2 + 1)) () (Option.some.inj h).symm trivial [0] (by kernel_rfl) (by kernel_rfl) (by kernel_rfl)
    · replace h := ifF hc_30 h
      refine jc_exit ?_
      refine jx_thenx ?_
      refine jx_leave (.inr ()) (Option.some.inj h).symm (fun e_34 => ?_)
      subst e_34
      refine jx_ine ?_
      exact jx_meet () hr_27 (by kernel_rfl) [0] (by kernel_rfl) (by kernel_rfl)
  · rintro _ h
    replace h : slices_Index_Choice.k_1 = some r := h
    rw [slices_Index_Choice.k_1] at h
    refine jx_then ?_
    refine jc_seq ?_
    refine jc_region ?_
    refine jo_f [(0, 0)] (by kernel_rfl) ?_
    refine jo_end (by kernel_rfl) ?_
    refine jx_then ?_
    refine jc_ret ?_
    obtain rfl := Option.some.inj h
    exact jx_ret [] (.int .i64 (-1)) [] rfl (by kernel_rfl) (by kernel_rfl) (fun w hm => ⟨rfl, hm.pick [] (by kernel_rfl) (by kernel_rfl)⟩)

/-! ### slices.Contains[[]impl.Choice,impl.Choice] -/
noncomputable def slices_Contains_Choice (s0 : List GChoice) (v1 : GChoice) : Option (Bool) := (slices_Index_Choice s0 v1).bind fun t_1 => some (decide (t_1 ≥ 0))
set_option maxRecDepth 100000 in
theorem slices_Contains_Choice.calls (s0 : List GChoice) (v1 : GChoice) (w : World) (r : Bool) (s0_a : Option Addr) (s0_an : Nat) (s0_c : Nat) (s0_h : Rw w s0_a 4 encGChoice s0) (s0_hn : s0.length = s0_an) (h : slices_Contains_Choice s0 v1 = some r) :
    Calls Try.prog 185 #[(.slice s0_a s0_an s0_c), (.agg #[(.bool v1.fAway), (.int .i8 v1.fLate), (.int .i8 v1.fOctave), (.int .i8 v1.fTrack)])] w fun e w' => ∃ v, e = .returned v ∧ (v = (.bool r) ∧ Mem w [] [] w') := by
  subst s0_hn
  rw [slices_Contains_Choice] at h
  refine enter (args := [(.slice s0_a s0.length s0_c), (.agg #[(.bool v1.fAway), (.int .i8 v1.fLate), (.int .i8 v1.fOctave), (.int .i8 v1.fTrack)])]) Try.func185 rfl Try.ntmps185 (by kernel_rfl) (L := []) (W := []) (Mem.start w) ?_
  refine jc_seq ?_
  refine jc_region ?_
  refine toO (by kernel_rfl) (p_a 0 [0] (by kernel_rfl) (fun b => by kernel_rfl) (fun b_1 => jkO ?_))
  refine jo_f [(0, 0)] (by kernel_rfl) ?_
  refine jo_end (by kernel_rfl) ?_
  refine jx_then ?_
  refine jc_seq ?_
  refine jc_region ?_
  refine jo_f [(0, 0), (0, 0)] (by kernel_rfl) ?_
  obtain ⟨t_1, ht_2, h⟩ := bd h
  refine toO (by kernel_rfl) (p_call 0 212 #[(.slice s0_a s0.length s0_c), (.agg #[(.bool v1.fAway), (.int .i8 v1.fLate), (.int .i8 v1.fOctave), (.int .i8 v1.fTrack)])] (by kernel_rfl) (by kernel_rfl) (fun w hm => slices_Index_Choice.calls s0 v1 w _ s0_a s0.length s0_c (hm.exRow s0_h List.not_mem_nil) rfl ht_2) ?_)
  rintro w v w' hm ⟨rfl, hm'⟩
  refine ⟨_, hm.app hm', jkO ?_⟩
  clear hm hm'
  refine jo_f [(0, 0), (0, 0)] (by kernel_rfl) ?_
  refine jo_end (by kernel_rfl) ?_
  refine jx_then ?_
  refine jc_ret ?_
  obtain rfl := Option.some.inj h
  exact jx_ret [] (.bool (decide (t_1 ≥ 0))) [] rfl (by kernel_rfl) (by kernel_rfl) (fun w hm => ⟨rfl, hm.pick [] (by kernel_rfl) (by kernel_rfl)⟩)

/-! ### (impl.Frame).fit -/
noncomputable def impl_Frame_fit.k_2 (list2 : List GChoice) (a_1 : Arr 96 Int) : Option ((Arr 96 Int) × Int) := some (a_1, (list2.length : Int))
noncomputable def impl_Frame_fit.k_9 (t1 : List GNote) (a_3 : Arr 96 Int) (i_4 : Int) (x_7 : GChoice) (q_8 : Bool) : Option (((Arr 96 Int) × Int) ⊕ (((Arr 96 Int) × Int) ⊕ (Arr 96 Int))) := (if q_8 = true then some (.inr (.inl ((Arr.rep 96 0), i_4))) else (ix t1 i_4).bind fun x_10 => (impl_Drum_puts a_3 x_10 x_7).bind fun t_11 => some (.inl (t_11, (w64 (i_4 + 1)))))
noncomputable def impl_Frame_fit.l_5 (f0 : GFrame) (t1 : List GNote) (list2 : List GChoice) : ((Arr 96 Int) × Int) → Option (((Arr 96 Int) × Int) ⊕ (((Arr 96 Int) × Int) ⊕ (Arr 96 Int)))
  | (a_3, i_4) => (if (decide (i_4 < (list2.length : Int))) = true then (ix list2 i_4).bind fun x_7 => (ix t1 i_4).bind fun x_12 => (impl_Frame_choices f0 x_12).bind fun t_13 => (slices_Contains_Choice t_13 x_7).bind fun t_14 => (if (!t_14) = true then impl_Frame_fit.k_9 t1 a_3 i_4 x_7 true else (ix t1 i_4).bind fun x_15 => (impl_Frame_canPut f0 a_3 x_15 x_7).bind fun t_16 => impl_Frame_fit.k_9 t1 a_3 i_4 x_7 (!t_16)) else some (.inr (.inr a_3)))
noncomputable def impl_Frame_fit (f0 : GFrame) (t1 : List GNote) (list2 : List GChoice) : Option ((Arr 96 Int) × Int) := (loop (impl_Frame_fit.l_5 f0 t1 list2) ((Arr.rep 96 0), 0)).bind fun t_6 => match t_6 with | .inl p => some p | .inr p => impl_Frame_fit.k_2 list2 p
set_option maxRecDepth 100000 in
theorem impl_Frame_fit.calls (f0 : GFrame) (t1 : List GNote) (list2 : List GChoice) (w : World) (r : (Arr 96 Int) × Int) (f0_fHammers_a : Option Addr) (f0_fHammers_an : Nat) (f0_fHammers_c : Nat) (f0_fHammers_h : Rw w f0_fHammers_a 2 encGHammer f0.fHammers) (f0_fHammers_hn : f0.fHammers.length = f0_fHammers_an) (t1_a : Option Addr) (t1_an : Nat) (t1_c : Nat) (t1_h : Rw w t1_a 2 encGNote t1) (t1_hn : t1.length = t1_an) (list2_a : Option Addr) (list2_an : Nat) (list2_c : Nat) (list2_h : Rw w list2_a 4 encGChoice list2) (list2_hn : list2.length = list2_an) (h : impl_Frame_fit f0 t1 list2 = some r) :
    Calls Try.prog 144 #[(.agg #[(.int .i16 f0.fSteps), (.slice f0_fHammers_a f0_fHammers_an f0_fHammers_c)]), (.slice t1_a t1_an t1_c), (.slice list2_a list2_an list2_c)] w fun e w' => ∃ v, e = .returned v ∧ (v = .tuple #[(.agg (row encU32 r.1.1 []).toArray), (.int .i64 r.2)] ∧ Mem w [] [] w') := by
  subst f0_fHammers_hn t1_hn list2_hn
  rw [impl_Frame_fit] at h
  refine enter (args := [(.agg #[(.int .i16 f0.fSteps), (.slice f0_fHammers_a f0.fHammers.length f0_fHammers_c)]), (.slice t1_a t1.length t1_c), (.slice list2_a list2.length list2_c)]) Try.func144 rfl Try.ntmps144 (by kernel_rfl) (L := []) (W := []) (Mem.start w) ?_
  refine jc_seq ?_
  refine jc_region ?_
  refine toO (by kernel_rfl) (p_a 0 [0] (by kernel_rfl) (fun b => by kernel_rfl) (fun b_1 => jkO ?_))
  refine toO (by kernel_rfl) (p_a 0 [0] (by kernel_rfl) (fun b => by kernel_rfl) (fun b_2 => jkO ?_))
  refine jo_f [(0, 0)] (by kernel_rfl) ?_
  refine jo_end (by kernel_rfl) ?_
  refine jx_then ?_
  refine jc_seq ?_
  refine jc_region ?_
  refine jo_f [(0, 0)] (by kernel_rfl) ?_
  refine toO (by kernel_rfl) (p_a 0 [0] (by kernel_rfl) (fun b => by kernel_rfl) (fun b_3 => jkO ?_))
  refine toO (by kernel_rfl) (p_sA 0 2 b_3 96 1 67 encU32 (Arr.rep 96 0) (Arr.rep 96 0) (by kernel_rfl) (by kernel_rfl) (by kernel_rfl) encU32_len encU32_cell (by kernel_rfl) (jkO ?_))
  refine jo_end (by kernel_rfl) ?_
  refine jx_then ?_
  refine jc_seq ?_
  refine jc_seq ?_
  refine jc_region ?_
  refine jo_f [(0, 0), (0, 0), (0, 0)] (by kernel_rfl) ?_
  refine jo_end (by kernel_rfl) ?_
  refine jx_then ?_
  refine jc_meet (fun (j : (Arr 96 Int)) => match j with | a_1 => impl_Frame_fit.k_2 list2 a_1 = some r) (fun (j : (Arr 96 Int)) => match j with | a_1 => [(2, [], (.slice list2_a list2.length list2_c)), (6, [], (.pointer (some ⟨b_2, 0, none⟩))), (7, [], (.int .i64 0)), (8, [], (.pointer (some ⟨b_3, 0, none⟩)))]) (fun (j : (Arr 96 Int)) => match j with | a_1 => [⟨some b_1, 38, [(.int .i16 f0.fSteps), (.slice f0_fHammers_a f0.fHammers.length f0_fHammers_c)]⟩, ⟨(some b_2), 67, row encU32 ((Arr.rep 96 0).1) []⟩, ⟨(some b_3), 67, row encU32 a_1.1 []⟩]) ?_ ?_
  · refine jc_block ?_
    obtain ⟨t_6, ht_659, hr_602⟩ := bd h
    refine jc_loop (fun (s : (Arr 96 Int) × Int) (x : Unit) => match s, x with | ⟨a_3, i_4⟩, _ => True) (fun (s : (Arr 96 Int) × Int) (x : Unit) => match s, x with | ⟨a_3, i_4⟩, _ => [(1, [], (.slice t1_a t1.length t1_c)), (2, [], (.slice list2_a list2.length list2_c)), (3, [], (.pointer (some ⟨b_1, 0, none⟩))), (6, [], (.pointer (some ⟨b_2, 0, none⟩))), (7, [], (.int .i64 0)), (8, [], (.pointer (some ⟨b_3, 0, none⟩))), (12, [], (.slice list2_a list2.length list2_c)), (13, [], (.int .i64 (list2.length : Int))), (14, [], (.int .i64 i_4))]) (fun (s : (Arr 96 Int) × Int) (x : Unit) => match s, x with | ⟨a_3, i_4⟩, _ => [⟨some b_1, 38, [(.int .i16 f0.fSteps), (.slice f0_fHammers_a f0.fHammers.length f0_fHammers_c)]⟩, ⟨(some b_2), 67, row encU32 ((Arr.rep 96 0).1) []⟩, ⟨(some b_3), 67, row encU32 a_3.1 []⟩]) ht_659 () trivial (by kernel_rfl) [0, 1, 2] (by kernel_rfl) (by kernel_rfl) ?_
    rintro ⟨a_3, i_4⟩ _ y_603 _ h
    rw [impl_Frame_fit.l_5] at h
    refine jc_seq ?_
    refine jc_region ?_
    refine jo_f [(0, 0)] (by kernel_rfl) ?_
    refine jo_end (by kernel_rfl) ?_
    refine jx_then ?_
    refine jc_seq ?_
    refine jc_cond (decide (i_4 < (list2.length : Int))) (by kernel_rfl) (fun hc_605 => ?_) (fun hc_605 => ?_)
    · replace h := ifT hc_605 h
      refine jc_skip ?_
      refine jx_then ?_
      refine jc_seq ?_
      refine jc_block ?_
      refine jc_seq ?_
      refine jc_region ?_
      refine jo_f [(0, 0)] (by kernel_rfl) ?_
      obtain ⟨x_7, hx_606, h⟩ := bd h
      refine toO (by kernel_rfl) (p_idx 0 list2_a list2.length i_4 4 (by kernel_rfl) (by kernel_rfl) (ix_some hx_606).1 (ltn hx_606 rfl) (list2_h.sp hx_606) (jkO ?_))
      refine toO (by kernel_rfl) (p_ld 0 (aB list2_a) (aO list2_a + i_4.toNat * 4) true (encGChoice x_7) (by kernel_rfl) (by kernel_rfl) (by kernel_rfl) (fun w hm => ((hm.exRow list2_h List.not_mem_nil).at hx_606)) (jkO ?_))
      refine toO (by kernel_rfl) (p_a 0 [0] (by kernel_rfl) (fun b => by kernel_rfl) (fun b_607 => jkO ?_))
      refine jo_f [(0, 0)] (by kernel_rfl) ?_
      refine toO (by kernel_rfl) (p_s 0 [3] (by kernel_rfl) (by kernel_rfl) (jkO ?_))
      refine jo_end (by kernel_rfl) ?_
      refine jx_then ?_
      refine jc_seq ?_
      refine jc_seq ?_
      refine jc_meet (fun (j : Bool) => match j with | q_8 => impl_Frame_fit.k_9 t1 a_3 i_4 x_7 q_8 = some y_603) (fun (j : Bool) => match j with | q_8 => [(1, [], (.slice t1_a t1.length t1_c)), (2, [], (.slice list2_a list2.length list2_c)), (3, [], (.pointer (some ⟨b_1, 0, none⟩))), (6, [], (.pointer (some ⟨b_2, 0, none⟩))), (7, [], (.int .i64 0)), (8, [], (.pointer (some ⟨b_3, 0, none⟩))), (9, [], (.int .i64 i_4)), (10, [], (.pointer (some ⟨b_607, 0, none⟩))), (12, [], (.slice list2_a list2.length list2_c)), (13, [], (.int .i64 (list2.length : Int))), (14, [], (.int .i64 i_4)), (37, [], (.bool q_8))]) (fun (j : Bool) => match j with | q_8 => [⟨some b_1, 38, [(.int .i16 f0.fSteps), (.slice f0_fHammers_a f0.fHammers.length f0_fHammers_c)]⟩, ⟨(some b_2), 67, row encU32 ((Arr.rep 96 0).1) []⟩, ⟨(some b_3), 67, row encU32 a_3.1 []⟩, ⟨some b_607, 130, [(.bool x_7.fAway), (.int .i8 x_7.fLate), (.int .i8 x_7.fOctave), (.int .i8 x_7.fTrack)]⟩]) ?_ ?_
      · refine jc_draw [⟨some b_1, 38, [(.int .i16 f0.fSteps), (.slice f0_fHammers_a f0.fHammers.length f0_fHammers_c)]⟩, ⟨(some b_2), 67, row encU32 ((Arr.rep 96 0).1) []⟩, ⟨(some b_3), 67, row encU32 a_3.1 []⟩, ⟨some b_607, 130, [(.bool x_7.fAway), (.int .i8 x_7.fLate), (.int .i8 x_7.fOctave), (.int .i8 x_7.fTrack)]⟩] 19 (by kernel_rfl) (by kernel_rfl) ?_
        refine jd_f [⟨0, 0, 0⟩, ⟨1, 0, 0⟩, ⟨2, 0, 0⟩, ⟨6, 3, 0⟩] 15 (by kernel_rfl) (by kernel_rfl) (fun w h => h.pick [0, 1, 2, 3] (by kernel_rfl) (by kernel_rfl)) (by kernel_rfl) (by kernel_rfl) ?_
        obtain ⟨x_12, hx_647, h⟩ := bd h
        refine jd_v 3 0 (by kernel_rfl) (fun w h => h.pick [0, 1, 2, 3] (by kernel_rfl) (by kernel_rfl)) (by kernel_rfl) (by kernel_rfl) _ (fun w hm => idx_run (a := t1_a) (len := t1.length) (s := 2) (j := i_4) (by kernel_rfl) (ix_some hx_647).1 (ltn hx_647 rfl) (t1_h.sp hx_647)) ?_
        refine jd_v 4 0 (by kernel_rfl) (fun w h => h.pick [0, 1, 2, 3] (by kernel_rfl) (by kernel_rfl)) (by kernel_rfl) (by kernel_rfl) _ (fun w hm => ld_run (b := aB t1_a) (off := (aO t1_a + i_4.toNat * 2)) (s := 2) (agg := true) (vs := (encGNote x_12)) (by kernel_rfl) (by kernel_rfl) (.inl rfl) ((hm.exRow t1_h List.not_mem_nil).at hx_647)) ?_
        obtain ⟨t_13, ht_648, h⟩ := bd h
        refine toD 5 (by kernel_rfl) (p_call 0 100 #[(.agg #[(.int .i16 f0.fSteps), (.slice f0_fHammers_a f0.fHammers.length f0_fHammers_c)]), (.agg #[(.int .i16 x_12.fAt), (.int .i8 x_12.fPitch)])] (by kernel_rfl) (by kernel_rfl) (fun w hm => impl_Frame_choices.calls f0 x_12 w _ f0_fHammers_a f0.fHammers.length f0_fHammers_c (hm.exRow f0_fHammers_h List.not_mem_nil) rfl ht_648) ?_)
        rintro w v w' hm ⟨o_649, cap_650, sp_651, _, rfl, hs_652, ho_653, rfl, hm'⟩
        refine ⟨_, hm.app hm', jkD (fun w h => h.pick [0, 1, 2, 3] (by kernel_rfl) (by kernel_rfl)) ?_⟩
        clear hm hm'
        obtain ⟨t_14, ht_654, h⟩ := bd h
        refine toD 7 (by kernel_rfl) (p_call 0 185 #[(.slice (o_649.map fun b => ⟨b, 0, none⟩) t_13.length cap_650), (.agg #[(.bool x_7.fAway), (.int .i8 x_7.fLate), (.int .i8 x_7.fOctave), (.int .i8 x_7.fTrack)])] (by kernel_rfl) (by kernel_rfl) (fun w hm => slices_Contains_Choice.calls t_13 x_7 w _ (o_649.map fun b => ⟨b, 0, none⟩) t_13.length cap_650 (hm.ownRow (hh := 4) (o := o_649) (T := 130) (enc := encGChoice) (xs := t_13) (sp := sp_651) (by kernel_rfl) (fun e => (ho_653 e).1) encGChoice_len) rfl ht_654) ?_)
        rintro w v w' hm ⟨rfl, hm'⟩
        refine ⟨_, hm.app hm', jkD (fun w h => h.pick [0, 1, 2, 3] (by kernel_rfl) (by kernel_rfl)) ?_⟩
        clear hm hm'
        refine jd_f [⟨8, 0, 0⟩, ⟨9, 0, 0⟩, ⟨10, 0, 1⟩, ⟨11, 0, 1⟩, ⟨12, 0, 1⟩, ⟨15, 3, 1⟩] 5 (by kernel_rfl) (by kernel_rfl) (fun w h => h.pick [0, 1, 2, 3] (by kernel_rfl) (by kernel_rfl)) (by kernel_rfl) (by kernel_rfl) ?_
        refine jd_split 28 (!t_14) (by kernel_rfl) (fun hc_655 => ?_) (fun hc_655 => ?_)
        · replace h := ifT hc_655 h
          refine jd_f [⟨13, 0, 3⟩, ⟨14, 0, 3⟩, ⟨16, 0, 3⟩, ⟨17, 0, 3⟩, ⟨18, 0, 4⟩] 0 (by kernel_rfl) (by kernel_rfl) (fun w h => h.pick [0, 1, 2, 3] (by kernel_rfl) (by kernel_rfl)) (by kernel_rfl) (by kernel_rfl) ?_
          refine jd_end (by kernel_rfl) ?_
          exact jx_meet true h (by kernel_rfl) [0, 1, 2, 3] (by kernel_rfl) (by kernel_rfl)
        · replace h := ifF hc_655 h
          obtain ⟨x_15, hx_656, h⟩ := bd h
          refine jd_v 13 2 (by kernel_rfl) (fun w h => h.pick [0, 1, 2, 3] (by kernel_rfl) (by kernel_rfl)) (by kernel_rfl) (by kernel_rfl) _ (fun w hm => idx_run (a := t1_a) (len := t1.length) (s := 2) (j := i_4) (by kernel_rfl) (ix_some hx_656).1 (ltn hx_656 rfl) (t1_h.sp hx_656)) ?_
          refine jd_v 14 2 (by kernel_rfl) (fun w h => h.pick [0, 1, 2, 3] (by kernel_rfl) (by kernel_rfl)) (by kernel_rfl) (by kernel_rfl) _ (fun w hm => ld_run (b := aB t1_a) (off := (aO t1_a + i_4.toNat * 2)) (s := 2) (agg := true) (vs := (encGNote x_15)) (by kernel_rfl) (by kernel_rfl) (.inl rfl) ((hm.exRow t1_h List.not_mem_nil).at hx_656)) ?_
          obtain ⟨t_16, ht_657, h⟩ := bd h
          refine toD 16 (by kernel_rfl) (p_call 2 102 #[(.agg #[(.int .i16 f0.fSteps), (.slice f0_fHammers_a f0.fHammers.length f0_fHammers_c)]), (.pointer (some ⟨b_3, 0, none⟩)), (.agg #[(.int .i16 x_15.fAt), (.int .i8 x_15.fPitch)]), (.agg #[(.bool x_7.fAway), (.int .i8 x_7.fLate), (.int .i8 x_7.fOctave), (.int .i8 x_7.fTrack)])] (by kernel_rfl) (by kernel_rfl) (fun w hm => impl_Frame_canPut.calls f0 a_3 x_15 x_7 w _ f0_fHammers_a f0.fHammers.length f0_fHammers_c (hm.exRow f0_fHammers_h List.not_mem_nil) rfl b_3 (hm.pass (N := [⟨(some b_3), 67, row encU32 a_3.1 []⟩]) [2] (by kernel_rfl) (by kernel_rfl)) (hm.exApart (N := [⟨(some b_3), 67, row encU32 a_3.1 []⟩]) f0_fHammers_h (fun _ => List.not_mem_nil) [2] (by kernel_rfl)) ht_657) ?_)
          rintro w v w' hm ⟨rfl, hm'⟩
          refine ⟨_, hm.appW (ps := [(2, ⟨(some b_3), 67, row encU32 a_3.1 []⟩)]) (N := []) hm' (by kernel_rfl) (by kernel_rfl), jkD (fun w h => h.pick [0, 1, 2, 3] (by kernel_rfl) (by kernel_rfl)) ?_⟩
          clear hm hm'
          refine jd_f [⟨17, 0, 2⟩, ⟨18, 0, 5⟩] 0 (by kernel_rfl) (by kernel_rfl) (fun w h => h.pick [0, 1, 2, 3] (by kernel_rfl) (by kernel_rfl)) (by kernel_rfl) (by kernel_rfl) ?_
          refine jd_end (by kernel_rfl) ?_
          exact jx_meet (!t_16) h (by kernel_rfl) [0, 1, 2, 3] (by kernel_rfl) (by kernel_rfl)
      · rintro q_8 h
        replace h : impl_Frame_fit.k_9 t1 a_3 i_4 x_7 q_8 = some y_603 := h
        rw [impl_Frame_fit.k_9] at h
        refine jx_then ?_
        refine jc_cond q_8 (by kernel_rfl) (fun hc_642 => ?_) (fun hc_642 => ?_)
        · replace h := ifT hc_642 h
          refine jc_seq ?_
          refine jc_region ?_
          refine jo_f [(0, 0), (0, 0)] (by kernel_rfl) ?_
          refine toO (by kernel_rfl) (p_sA 0 1 b_2 96 1 67 encU32 (Arr.rep 96 0) (Arr.rep 96 0) (by kernel_rfl) (by kernel_rfl) (by kernel_rfl) encU32_len encU32_cell (by kernel_rfl) (jkO ?_))
          refine jo_f [(0, 0)] (by kernel_rfl) ?_
          refine jo_end (by kernel_rfl) ?_
          refine jx_then ?_
          refine jc_ret ?_
          refine jx_thenr ?_
          refine jx_inr ?_
          refine jx_thenr ?_
          refine jx_leaver (.inl ((Arr.rep 96 0), i_4)) (Option.some.inj h).symm (fun e_643 => ?_)
          subst e_643
          refine jx_inr ?_
          refine jx_thenr ?_
          refine jx_thenr ?_
          obtain rfl := Option.some.inj hr_602
          exact jx_retV rfl (rq_arr (b := b_2) (T' := 67) (hh := 1) (mm := 1) encU32 (Arr.rep 96 0) (by kernel_rfl) (by kernel_rfl) encU32_len (by kernel_rfl) (rq_tmp (by kernel_rfl) rq_nil)) (fun w hm => ⟨rfl, hm.pick [] (by kernel_rfl) (by kernel_rfl)⟩)
        · replace h := ifF hc_642 h
          refine jc_skip ?_
          refine jx_then ?_
          refine jc_draw [⟨some b_1, 38, [(.int .i16 f0.fSteps), (.slice f0_fHammers_a f0.fHammers.length f0_fHammers_c)]⟩, ⟨(some b_2), 67, row encU32 ((Arr.rep 96 0).1) []⟩, ⟨some b_607, 130, [(.bool x_7.fAway), (.int .i8 x_7.fLate), (.int .i8 x_7.fOctave), (.int .i8 x_7.fTrack)]⟩] 6 (by kernel_rfl) (by kernel_rfl) ?_
          refine jd_f [⟨0, 0, 0⟩, ⟨1, 0, 0⟩, ⟨4, 2, 0⟩] 3 (by kernel_rfl) (by kernel_rfl) (fun w h => h.pick [0, 1, 3] (by kernel_rfl) (by kernel_rfl)) (by kernel_rfl) (by kernel_rfl) ?_
          obtain ⟨x_10, hx_645, h⟩ := bd h
          refine jd_v 2 0 (by kernel_rfl) (fun w h => h.pick [0, 1, 3] (by kernel_rfl) (by kernel_rfl)) (by kernel_rfl) (by kernel_rfl) _ (fun w hm => idx_run (a := t1_a) (len := t1.length) (s := 2) (j := i_4) (by kernel_rfl) (ix_some hx_645).1 (ltn hx_645 rfl) (t1_h.sp hx_645)) ?_
          refine jd_v 3 0 (by kernel_rfl) (fun w h => h.pick [0, 1, 3] (by kernel_rfl) (by kernel_rfl)) (by kernel_rfl) (by kernel_rfl) _ (fun w hm => ld_run (b := aB t1_a) (off := (aO t1_a + i_4.toNat * 2)) (s := 2) (agg := true) (vs := (encGNote x_10)) (by kernel_rfl) (by kernel_rfl) (.inl rfl) ((hm.exRow t1_h List.not_mem_nil).at hx_645)) ?_
          obtain ⟨t_11, ht_646, h⟩ := bd h
          refine toD 5 (by kernel_rfl) (p_call 0 107 #[(.pointer (some ⟨b_3, 0, none⟩)), (.agg #[(.int .i16 x_10.fAt), (.int .i8 x_10.fPitch)]), (.agg #[(.bool x_7.fAway), (.int .i8 x_7.fLate), (.int .i8 x_7.fOctave), (.int .i8 x_7.fTrack)])] (by kernel_rfl) (by kernel_rfl) (fun w hm => impl_Drum_puts.calls a_3 x_10 x_7 w _ b_3 (hm.pass (N := [⟨(some b_3), 67, row encU32 a_3.1 []⟩]) [2] (by kernel_rfl) (by kernel_rfl)) ht_646) ?_)
          rintro w v w' hm ⟨rfl, hm'⟩
          refine ⟨_, hm.appW (ps := [(2, ⟨(some b_3), 67, row encU32 t_11.1 []⟩)]) (N := []) hm' (by kernel_rfl) (by kernel_rfl), jkD (fun w h => h.pick [0, 1, 3] (by kernel_rfl) (by kernel_rfl)) ?_⟩
          clear hm hm'
          refine jd_end (by kernel_rfl) ?_
          refine jx_inn ?_
          refine jx_then ?_
          refine jc_region ?_
          refine jo_f [(0, 0), (0, 0)] (by kernel_rfl) ?_
          refine jo_end (by kernel_rfl) ?_
          exact jx_back (t_11, (w64 (i_4 + 1))) () (Option.some.inj h).symm trivial [0, 1, 2] (by kernel_rfl) (by kernel_rfl) (by kernel_rfl)
    · replace h := ifF hc_605 h
      refine jc_exit ?_
      refine jx_thenx ?_
      refine jx_leave (.inr a_3) (Option.some.inj h).symm (fun e_658 => ?_)
      subst e_658
      refine jx_ine ?_
      exact jx_meet a_3 hr_602 (by kernel_rfl) [0, 1, 2] (by kernel_rfl) (by kernel_rfl)
  · rintro a_1 h
    replace h : impl_Frame_fit.k_2 list2 a_1 = some r := h
    rw [impl_Frame_fit.k_2] at h
    refine jx_then ?_
    refine jc_seq ?_
    refine jc_region ?_
    refine toO (by kernel_rfl) (p_ldA 0 2 b_3 96 1 67 encU32 a_1 (by kernel_rfl) (by kernel_rfl) (by kernel_rfl) encU32_len (by kernel_rfl) (jkO ?_))
    refine jo_f [(0, 0), (0, 0)] (by kernel_rfl) ?_
    refine toO (by kernel_rfl) (p_sA 0 1 b_2 96 1 67 encU32 (Arr.rep 96 0) a_1 (by kernel_rfl) (by kernel_rfl) (by kernel_rfl) encU32_len encU32_cell (by kernel_rfl) (jkO ?_))
    refine jo_f [(0, 0)] (by kernel_rfl) ?_
    refine jo_end (by kernel_rfl) ?_
    refine jx_then ?_
    refine jc_ret ?_
    obtain rfl := Option.some.inj h
    exact jx_retV rfl (rq_arr (b := b_2) (T' := 67) (hh := 1) (mm := 1) encU32 a_1 (by kernel_rfl) (by kernel_rfl) encU32_len (by kernel_rfl) (rq_tmp (by kernel_rfl) rq_nil)) (fun w hm => ⟨rfl, hm.pick [] (by kernel_rfl) (by kernel_rfl)⟩)

/-! ### impl.fitted -/
noncomputable def impl_fitted (f0 : GFrame) (t1 : List GNote) (list2 : List GChoice) : Option ((Arr 96 Int) × Int × Int) := (impl_tuneFrameCode f0 t1 list2).bind fun t_1 => (impl_unless ((list2.length : Int) == (t1.length : Int)) 2).bind fun t_2 => (impl_firstOf [t_1, t_2]).bind fun t_3 => (if (t_3 != 0) = true then some ((Arr.rep 96 0), 0, t_3) else (impl_Frame_fit f0 t1 list2).bind fun t_4 => (impl_unless (t_4.2 == (t1.length : Int)) 4).bind fun t_5 => some (t_4.1, t_4.2, t_5))
set_option maxRecDepth 100000 in
theorem impl_fitted.calls (f0 : GFrame) (t1 : List GNote) (list2 : List GChoice) (w : World) (r : (Arr 96 Int) × Int × Int) (f0_fHammers_a : Option Addr) (f0_fHammers_an : Nat) (f0_fHammers_c : Nat) (f0_fHammers_h : Rw w f0_fHammers_a 2 encGHammer f0.fHammers) (f0_fHammers_hn : f0.fHammers.length = f0_fHammers_an) (t1_a : Option Addr) (t1_an : Nat) (t1_c : Nat) (t1_h : Rw w t1_a 2 encGNote t1) (t1_hn : t1.length = t1_an) (list2_a : Option Addr) (list2_an : Nat) (list2_c : Nat) (list2_h : Rw w list2_a 4 encGChoice list2) (list2_hn : list2.length = list2_an) (h : impl_fitted f0 t1 list2 = some r) :
    Calls Try.prog 83 #[(.agg #[(.int .i16 f0.fSteps), (.slice f0_fHammers_a f0_fHammers_an f0_fHammers_c)]), (.slice t1_a t1_an t1_c), (.slice list2_a list2_an list2_c)] w fun e w' => ∃ v, e = .returned v ∧ (v = .tuple #[(.agg (row encU32 r.1.1 []).toArray), (.int .i64 r.2.1), (.int .i64 r.2.2)] ∧ Mem w [] [] w') := by
  subst f0_fHammers_hn t1_hn list2_hn
  rw [impl_fitted] at h
  refine enter (args := [(.agg #[(.int .i16 f0.fSteps), (.slice f0_fHammers_a f0.fHammers.length f0_fHammers_c)]), (.slice t1_a t1.length t1_c), (.slice list2_a list2.length list2_c)]) Try.func83 rfl Try.ntmps83 (by kernel_rfl) (L := []) (W := []) (Mem.start w) ?_
  refine jc_seq ?_
  refine jc_region ?_
  refine toO (by kernel_rfl) (p_a 0 [0] (by kernel_rfl) (fun b => by kernel_rfl) (fun b_1 => jkO ?_))
  refine toO (by kernel_rfl) (p_a 0 [0] (by kernel_rfl) (fun b => by kernel_rfl) (fun b_2 => jkO ?_))
  refine jo_f [(0, 0), (0, 0)] (by kernel_rfl) ?_
  refine jo_end (by kernel_rfl) ?_
  refine jx_then ?_
  refine jc_seq ?_
  refine jc_seq ?_
  refine jc_region ?_
  refine jo_f [(0, 0), (0, 0), (0, 0)] (by kernel_rfl) ?_
  obtain ⟨t_1, ht_8, h⟩ := bd h
  refine toO (by kernel_rfl) (p_call 0 143 #[(.agg #[(.int .i16 f0.fSteps), (.slice f0_fHammers_a f0.fHammers.length f0_fHammers_c)]), (.slice t1_a t1.length t1_c), (.slice list2_a list2.length list2_c)] (by kernel_rfl) (by kernel_rfl) (fun w hm => impl_tuneFrameCode.calls f0 t1 list2 w _ f0_fHammers_a f0.fHammers.length f0_fHammers_c (hm.exRow f0_fHammers_h List.not_mem_nil) rfl t1_a t1.length t1_c (hm.exRow t1_h List.not_mem_nil) rfl list2_a list2.length list2_c (hm.exRow list2_h List.not_mem_nil) rfl ht_8) ?_)
  rintro w v w' hm ⟨rfl, hm'⟩
  refine ⟨_, hm.app hm', jkO ?_⟩
  clear hm hm'
  refine jo_f [(0, 0), (0, 0), (0, 0), (0, 0), (0, 0)] (by kernel_rfl) ?_
  obtain ⟨t_2, ht_9, h⟩ := bd h
  refine toO (by kernel_rfl) (p_call 0 71 #[(.bool ((list2.length : Int) == (t1.length : Int))), (.int .i64 2)] (by kernel_rfl) (by kernel_rfl) (fun w hm => impl_unless.calls ((list2.length : Int) == (t1.length : Int)) 2 w _ ht_9) ?_)
  rintro w v w' hm ⟨rfl, hm'⟩
  refine ⟨_, hm.app hm', jkO ?_⟩
  clear hm hm'
  refine toO (by kernel_rfl) (p_a 0 [0] (by kernel_rfl) (fun b => by kernel_rfl) (fun b_10 => jkO ?_))
  obtain ⟨t_3, ht_11, h⟩ := bd h
  refine toO (by kernel_rfl) (p_call 0 69 #[(.slice (some ⟨b_10, 0, none⟩) 2 2)] (by kernel_rfl) (by kernel_rfl) (fun w hm => impl_firstOf.calls [t_1, t_2] w _ (some ⟨b_10, 0, none⟩) 2 2 (hm.ownRow (hh := 2) (o := (some b_10)) (T := 2) (enc := encI64) (xs := [t_1, t_2]) (sp := []) (by kernel_rfl) (fun e => nomatch e) encI64_len) rfl ht_11) ?_)
  rintro w v w' hm ⟨rfl, hm'⟩
  refine ⟨_, hm.app hm', jkO ?_⟩
  clear hm hm'
  refine jo_f [(0, 0)] (by kernel_rfl) ?_
  refine jo_end (by kernel_rfl) ?_
  refine jx_then ?_
  refine jc_seq ?_
  refine jc_region ?_
  refine jo_f [(0, 0), (0, 0)] (by kernel_rfl) ?_
  refine jo_end (by kernel_rfl) ?_
  refine jx_then ?_
  refine jc_cond (t_3 != 0) (by kernel_rfl) (fun hc_12 => ?_) (fun hc_12 => ?_)
  · replace h := ifT hc_12 h
    refine jc_seq ?_
    refine jc_region ?_
    refine jo_f [(0, 0), (0, 0)] (by kernel_rfl) ?_
    refine toO (by kernel_rfl) (p_sA 0 1 b_2 96 1 67 encU32 (Arr.rep 96 0) (Arr.rep 96 0) (by kernel_rfl) (by kernel_rfl) (by kernel_rfl) encU32_len encU32_cell (by kernel_rfl) (jkO ?_))
    refine jo_f [(0, 0), (0, 0)] (by kernel_rfl) ?_
    refine jo_end (by kernel_rfl) ?_
    refine jx_then ?_
    refine jc_ret ?_
    refine jx_thenr ?_
    obtain rfl := Option.some.inj h
    exact jx_retV rfl (rq_arr (b := b_2) (T' := 67) (hh := 1) (mm := 1) encU32 (Arr.rep 96 0) (by kernel_rfl) (by kernel_rfl) encU32_len (by kernel_rfl) (rq_tmp (by kernel_rfl) (rq_tmp (by kernel_rfl) rq_nil))) (fun w hm => ⟨rfl, hm.pick [] (by kernel_rfl) (by kernel_rfl)⟩)
  · replace h := ifF hc_12 h
    refine jc_skip ?_
    refine jx_then ?_
    refine jc_seq ?_
    refine jc_region ?_
    refine jo_f [(0, 0), (0, 0), (0, 0)] (by kernel_rfl) ?_
    obtain ⟨t_4, ht_13, h⟩ := bd h
    refine toO (by kernel_rfl) (p_call 0 144 #[(.agg #[(.int .i16 f0.fSteps), (.slice f0_fHammers_a f0.fHammers.length f0_fHammers_c)]), (.slice t1_a t1.length t1_c), (.slice list2_a list2.length list2_c)] (by kernel_rfl) (by kernel_rfl) (fun w hm => impl_Frame_fit.calls f0 t1 list2 w _ f0_fHammers_a f0.fHammers.length f0_fHammers_c (hm.exRow f0_fHammers_h List.not_mem_nil) rfl t1_a t1.length t1_c (hm.exRow t1_h List.not_mem_nil) rfl list2_a list2.length list2_c (hm.exRow list2_h List.not_mem_nil) rfl ht_13) ?_)
    rintro w v w' hm ⟨rfl, hm'⟩
    refine ⟨_, hm.app hm', jkO ?_⟩
    clear hm hm'
    refine jo_f [(0, 0), (0, 0), (0, 0)] (by kernel_rfl) ?_
    refine toO (by kernel_rfl) (p_a 0 [0] (by kernel_rfl) (fun b => by kernel_rfl) (fun b_14 => jkO ?_))
    refine toO (by kernel_rfl) (p_sA 0 3 b_14 96 1 67 encU32 (Arr.rep 96 0) t_4.1 (by kernel_rfl) (by kernel_rfl) (by kernel_rfl) encU32_len encU32_cell (by kernel_rfl) (jkO ?_))
    refine jo_f [(0, 0)] (by kernel_rfl) ?_
    refine jo_end (by kernel_rfl) ?_
    refine jx_then ?_
    refine jc_seq ?_
    refine jc_draw [⟨some b_1, 38, [(.int .i16 f0.fSteps), (.slice f0_fHammers_a f0.fHammers.length f0_fHammers_c)]⟩, ⟨(some b_10), 2, row encI64 [t_1, t_2] []⟩, ⟨(some b_14), 67, row encU32 t_4.1.1 []⟩] 10 (by kernel_rfl) (by kernel_rfl) ?_
    refine jd_f [⟨1, 0, 0⟩, ⟨2, 0, 0⟩, ⟨3, 0, 0⟩, ⟨4, 0, 0⟩, ⟨5, 0, 0⟩] 5 (by kernel_rfl) (by kernel_rfl) (fun w h => h.pick [0, 2, 3] (by kernel_rfl) (by kernel_rfl)) (by kernel_rfl) (by kernel_rfl) ?_
    refine jd_v 0 0 (by kernel_rfl) (fun w h => h.pick [0, 2, 3] (by kernel_rfl) (by kernel_rfl)) (by kernel_rfl) (by kernel_rfl) _ (fun w hm => ld_run (b := b_14) (off := 0) (s := 96) (agg := true) (vs := row encU32 t_4.1.1 []) (by kernel_rfl) ((row_len encU32_len t_4.1).trans rfl) (.inl rfl) (hm.all (hh := 2) (T := 67) (by kernel_rfl))) ?_
    obtain ⟨t_5, ht_16, h⟩ := bd h
    refine toD 6 (by kernel_rfl) (p_call 0 71 #[(.bool (t_4.2 == (t1.length : Int))), (.int .i64 4)] (by kernel_rfl) (by kernel_rfl) (fun w hm => impl_unless.calls (t_4.2 == (t1.length : Int)) 4 w _ ht_16) ?_)
    rintro w v w' hm ⟨rfl, hm'⟩
    refine ⟨_, hm.app hm', jkD (fun w h => h.pick [0, 2, 3] (by kernel_rfl) (by kernel_rfl)) ?_⟩
    clear hm hm'
    refine toD 7 (by kernel_rfl) (p_sA 0 1 b_2 96 1 67 encU32 (Arr.rep 96 0) t_4.1 (by kernel_rfl) (by kernel_rfl) (by kernel_rfl) encU32_len encU32_cell (by kernel_rfl) (jkD (fun w h => h.pick [0, 2, 3] (by kernel_rfl) (by kernel_rfl)) ?_))
    refine jd_f [⟨8, 0, 0⟩, ⟨9, 0, 0⟩] 0 (by kernel_rfl) (by kernel_rfl) (fun w h => h.pick [0, 2, 3] (by kernel_rfl) (by kernel_rfl)) (by kernel_rfl) (by kernel_rfl) ?_
    refine jd_end (by kernel_rfl) ?_
    refine jx_then ?_
    refine jc_ret ?_
    obtain rfl := Option.some.inj h
    exact jx_retV rfl (rq_arr (b := b_2) (T' := 67) (hh := 1) (mm := 1) encU32 t_4.1 (by kernel_rfl) (by kernel_rfl) encU32_len (by kernel_rfl) (rq_tmp (by kernel_rfl) (rq_tmp (by kernel_rfl) rq_nil))) (fun w hm => ⟨rfl, hm.pick [] (by kernel_rfl) (by kernel_rfl)⟩)
end Go.Proofs.Ytilackblefjgdaa
