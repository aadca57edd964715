/- Functions of the program that the laws reach: a plain function each, and that the call comes to its answer if the plain function has one. Printed by a program. -/
import Derived.Test.YtpmndjejabjniaaDoorT
import Derived.Test.YtpmndjejabjniaaDoorM0
namespace Go.Proofs.YtpmndjejabjniaaDoor
open Eng
set_option linter.unusedVariables false

/-! ### spec.l07Choice -/
noncomputable def spec_l07Choice (x0 : GChoice) : Option (Bool) := (if x0.fAway = true then some ((x0.fAway == true) && ((x0.fLate == 0) && ((x0.fOctave == 0) && (x0.fTrack == 0)))) else (spec_l00In (w64 x0.fLate) (-3) 3).bind fun t_1 => (if t_1 = true then (spec_l00In (w64 x0.fOctave) (-1) 1).bind fun t_2 => (if t_2 = true then (spec_l00In (w64 x0.fTrack) 0 23).bind fun t_3 => some t_3 else some false) else some false))
set_option maxRecDepth 100000 in
theorem spec_l07Choice.calls (x0 : GChoice) (w : World) (r : Bool) (h : spec_l07Choice x0 = some r) :
    Calls Tryd.prog 71 #[(.agg #[(.bool x0.fAway), (.int .i8 x0.fLate), (.int .i8 x0.fOctave), (.int .i8 x0.fTrack)])] w fun e w' => ∃ v, e = .returned v ∧ (v = (.bool r) ∧ Mem w [] [] w') := by
  rw [spec_l07Choice] at h
  refine enter (args := [(.agg #[(.bool x0.fAway), (.int .i8 x0.fLate), (.int .i8 x0.fOctave), (.int .i8 x0.fTrack)])]) Tryd.func71 rfl Tryd.ntmps71 (by kernel_rfl) (L := []) (W := []) (Mem.start w) ?_
  refine jc_seq ?_
  refine jc_region ?_
  refine toO (by kernel_rfl) (p_a 0 [0] (by kernel_rfl) (fun b => by kernel_rfl) (fun b_1 => jkO ?_))
  refine jo_f [(0, 0)] (by kernel_rfl) ?_
  refine jo_end (by kernel_rfl) ?_
  refine jx_then ?_
  refine jc_seq ?_
  refine jc_seq ?_
  refine jc_region ?_
  refine jo_f [(0, 0), (0, 0)] (by kernel_rfl) ?_
  refine jo_end (by kernel_rfl) ?_
  refine jx_then ?_
  refine jc_cond x0.fAway (by kernel_rfl) (fun hc_3 => ?_) (fun hc_3 => ?_)
  · replace h := ifT hc_3 h
    refine jc_seq ?_
    refine jc_region ?_
    refine jo_f [(0, 0), (0, 0), (0, 0), (0, 0)] (by kernel_rfl) ?_
    refine jo_end (by kernel_rfl) ?_
    refine jx_then ?_
    refine jc_ret ?_
    refine jx_thenr ?_
    obtain rfl := Option.some.inj h
    exact jx_ret [] (.bool ((x0.fAway == true) && ((x0.fLate == 0) && ((x0.fOctave == 0) && (x0.fTrack == 0))))) [] rfl (by kernel_rfl) (by kernel_rfl) (fun w hm => ⟨rfl, hm.pick [] (by kernel_rfl) (by kernel_rfl)⟩)
  · replace h := ifF hc_3 h
    refine jc_skip ?_
    refine jx_then ?_
    refine jc_seq ?_
    refine jc_region ?_
    refine jo_f [(0, 0), (0, 0), (0, 0)] (by kernel_rfl) ?_
    obtain ⟨t_1, ht_4, h⟩ := bd h
    refine toO (by kernel_rfl) (p_call 0 78 #[(.int .i64 (w64 x0.fLate)), (.int .i64 (-3)), (.int .i64 3)] (by kernel_rfl) (by kernel_rfl) (fun w hm => spec_l00In.calls (w64 x0.fLate) (-3) 3 w _ ht_4) ?_)
    rintro w v w' hm ⟨rfl, hm'⟩
    refine ⟨_, hm.app hm', jkO ?_⟩
    clear hm hm'
    refine jo_f [(0, 0), (0, 1), (0, 1), (0, 1)] (by kernel_rfl) ?_
    refine jo_split 12 t_1 (by kernel_rfl) (fun hc_5 => ?_) (fun hc_5 => ?_)
    · replace h := ifT hc_5 h
      obtain ⟨t_2, ht_6, h⟩ := bd h
      refine toO (by kernel_rfl) (p_call 2 78 #[(.int .i64 (w64 x0.fOctave)), (.int .i64 (-1)), (.int .i64 1)] (by kernel_rfl) (by kernel_rfl) (fun w hm => spec_l00In.calls (w64 x0.fOctave) (-1) 1 w _ ht_6) ?_)
      rintro w v w' hm ⟨rfl, hm'⟩
      refine ⟨_, hm.app hm', jkO ?_⟩
      clear hm hm'
      refine jo_f [(0, 4), (0, 0), (0, 1), (0, 1), (0, 1)] (by kernel_rfl) ?_
      refine jo_split 18 t_2 (by kernel_rfl) (fun hc_7 => ?_) (fun hc_7 => ?_)
      · replace h := ifT hc_7 h
        obtain ⟨t_3, ht_8, h⟩ := bd h
        refine toO (by kernel_rfl) (p_call 2 78 #[(.int .i64 (w64 x0.fTrack)), (.int .i64 0), (.int .i64 23)] (by kernel_rfl) (by kernel_rfl) (fun w hm => spec_l00In.calls (w64 x0.fTrack) 0 23 w _ ht_8) ?_)
        rintro w v w' hm ⟨rfl, hm'⟩
        refine ⟨_, hm.app hm', jkO ?_⟩
        clear hm hm'
        refine jo_f [(0, 4), (0, 0)] (by kernel_rfl) ?_
        refine jo_end (by kernel_rfl) ?_
        refine jx_then ?_
        refine jc_ret ?_
        obtain rfl := Option.some.inj h
        exact jx_ret [] (.bool t_3) [] rfl (by kernel_rfl) (by kernel_rfl) (fun w hm => ⟨rfl, hm.pick [] (by kernel_rfl) (by kernel_rfl)⟩)
      · replace h := ifF hc_7 h
        refine jo_f [(0, 3), (0, 5), (0, 0)] (by kernel_rfl) ?_
        refine jo_end (by kernel_rfl) ?_
        refine jx_then ?_
        refine jc_ret ?_
        obtain rfl := Option.some.inj h
        exact jx_ret [] (.bool false) [] rfl (by kernel_rfl) (by kernel_rfl) (fun w hm => ⟨rfl, hm.pick [] (by kernel_rfl) (by kernel_rfl)⟩)
    · replace h := ifF hc_5 h
      refine jo_f [(0, 3), (0, 5), (0, 0), (0, 3), (0, 3), (0, 3), (0, 3), (0, 5), (0, 0)] (by kernel_rfl) ?_
      refine jo_end (by kernel_rfl) ?_
      refine jx_then ?_
      refine jc_ret ?_
      obtain rfl := Option.some.inj h
      exact jx_ret [] (.bool false) [] rfl (by kernel_rfl) (by kernel_rfl) (fun w hm => ⟨rfl, hm.pick [] (by kernel_rfl) (by kernel_rfl)⟩)

/-! ### spec.l07Choices -/
noncomputable def spec_l07Choices.k_1 : Option (Bool) := some true
noncomputable def spec_l07Choices.l_3 (list0 : List GChoice) : Int → Option ((Int) ⊕ (Bool ⊕ Unit))
  | i_2 => (if (decide (i_2 < (list0.length : Int))) = true then (ix list0 i_2).bind fun x_5 => (spec_l07Choice x_5).bind fun t_6 => (if (!t_6) = true then some (.inr (.inl false)) else some (.inl (w64 (i_2 + 1)))) else some (.inr (.inr ())))
noncomputable def spec_l07Choices (list0 : List GChoice) : Option (Bool) := (loop (spec_l07Choices.l_3 list0) 0).bind fun t_4 => match t_4 with | .inl p => some p | .inr p => spec_l07Choices.k_1
set_option maxRecDepth 100000 in
theorem spec_l07Choices.calls (list0 : List GChoice) (w : World) (r : Bool) (list0_a : Option Addr) (list0_an : Nat) (list0_c : Nat) (list0_h : Rw w list0_a 4 encGChoice list0) (list0_hn : list0.length = list0_an) (h : spec_l07Choices list0 = some r) :
    Calls Tryd.prog 43 #[(.slice list0_a list0_an list0_c)] w fun e w' => ∃ v, e = .returned v ∧ (v = (.bool r) ∧ Mem w [] [] w') := by
  subst list0_hn
  rw [spec_l07Choices] at h
  refine enter (args := [(.slice list0_a list0.length list0_c)]) Tryd.func43 rfl Tryd.ntmps43 (by kernel_rfl) (L := []) (W := []) (Mem.start w) ?_
  refine jc_seq ?_
  refine jc_region ?_
  refine jo_f [(0, 0)] (by kernel_rfl) ?_
  refine jo_end (by kernel_rfl) ?_
  refine jx_then ?_
  refine jc_seq ?_
  refine jc_seq ?_
  refine jc_region ?_
  refine jo_f [(0, 0)] (by kernel_rfl) ?_
  refine jo_end (by kernel_rfl) ?_
  refine jx_then ?_
  refine jc_meet (fun (_ : Unit) => spec_l07Choices.k_1 = some r) (fun (_ : Unit) => [(2, [], (.bool false))]) (fun (_ : Unit) => []) ?_ ?_
  · refine jc_block ?_
    obtain ⟨t_4, ht_40, hr_31⟩ := bd h
    refine jc_loop (fun (s : Int) (x : Unit) => match s, x with | i_2, _ => True) (fun (s : Int) (x : Unit) => match s, x with | i_2, _ => [(0, [], (.slice list0_a list0.length list0_c)), (2, [], (.bool false)), (3, [], (.int .i64 i_2))]) (fun (s : Int) (x : Unit) => match s, x with | i_2, _ => []) ht_40 () trivial (by kernel_rfl) [] (by kernel_rfl) (by kernel_rfl) ?_
    rintro i_2 _ y_32 _ h
    rw [spec_l07Choices.l_3] at h
    refine jc_seq ?_
    refine jc_seq ?_
    refine jc_region ?_
    refine jo_f [(0, 0), (0, 0), (0, 0), (0, 0)] (by kernel_rfl) ?_
    refine jo_end (by kernel_rfl) ?_
    refine jx_then ?_
    refine jc_cond (decide (i_2 < (list0.length : Int))) (by kernel_rfl) (fun hc_34 => ?_) (fun hc_34 => ?_)
    · replace h := ifT hc_34 h
      refine jc_skip ?_
      refine jx_then ?_
      refine jc_seq ?_
      refine jc_block ?_
      refine jc_seq ?_
      refine jc_region ?_
      refine jo_f [(0, 0), (0, 0)] (by kernel_rfl) ?_
      obtain ⟨x_5, hx_35, h⟩ := bd h
      refine toO (by kernel_rfl) (p_idx 0 list0_a list0.length i_2 4 (by kernel_rfl) (by kernel_rfl) (ix_some hx_35).1 (ltn hx_35 rfl) (list0_h.sp hx_35) (jkO ?_))
      refine toO (by kernel_rfl) (p_ld 0 (aB list0_a) (aO list0_a + i_2.toNat * 4) true (encGChoice x_5) (by kernel_rfl) (by kernel_rfl) (by kernel_rfl) (fun w hm => ((hm.exRow list0_h List.not_mem_nil).at hx_35)) (jkO ?_))
      obtain ⟨t_6, ht_36, h⟩ := bd h
      refine toO (by kernel_rfl) (p_call 0 71 #[(.agg #[(.bool x_5.fAway), (.int .i8 x_5.fLate), (.int .i8 x_5.fOctave), (.int .i8 x_5.fTrack)])] (by kernel_rfl) (by kernel_rfl) (fun w hm => spec_l07Choice.calls x_5 w _ ht_36) ?_)
      rintro w v w' hm ⟨rfl, hm'⟩
      refine ⟨_, hm.app hm', jkO ?_⟩
      clear hm hm'
      refine jo_f [(0, 0)] (by kernel_rfl) ?_
      refine jo_end (by kernel_rfl) ?_
      refine jx_then ?_
      refine jc_cond (!t_6) (by kernel_rfl) (fun hc_37 => ?_) (fun hc_37 => ?_)
      · replace h := ifT hc_37 h
        refine jc_seq ?_
        refine jc_region ?_
        refine jo_f [(0, 0)] (by kernel_rfl) ?_
        refine jo_end (by kernel_rfl) ?_
        refine jx_then ?_
        refine jc_ret ?_
        refine jx_inr ?_
        refine jx_thenr ?_
        refine jx_leaver (.inl false) (Option.some.inj h).symm (fun e_38 => ?_)
        subst e_38
        refine jx_inr ?_
        refine jx_thenr ?_
        refine jx_thenr ?_
        obtain rfl := Option.some.inj hr_31
        exact jx_ret [] (.bool false) [] rfl (by kernel_rfl) (by kernel_rfl) (fun w hm => ⟨rfl, hm.pick [] (by kernel_rfl) (by kernel_rfl)⟩)
      · replace h := ifF hc_37 h
        refine jc_skip ?_
        refine jx_inn ?_
        refine jx_then ?_
        refine jc_region ?_
        refine jo_f [(0, 0), (0, 0), (0, 0)] (by kernel_rfl) ?_
        refine jo_end (by kernel_rfl) ?_
        exact jx_back (w64 (i_2 + 1)) () (Option.some.inj h).symm trivial [] (by kernel_rfl) (by kernel_rfl) (by kernel_rfl)
    · replace h := ifF hc_34 h
      refine jc_exit ?_
      refine jx_thenx ?_
      refine jx_leave (.inr ()) (Option.some.inj h).symm (fun e_39 => ?_)
      subst e_39
      refine jx_ine ?_
      exact jx_meet () hr_31 (by kernel_rfl) [] (by kernel_rfl) (by kernel_rfl)
  · rintro _ h
    replace h : spec_l07Choices.k_1 = some r := h
    rw [spec_l07Choices.k_1] at h
    refine jx_then ?_
    refine jc_seq ?_
    refine jc_region ?_
    refine jo_f [(0, 0)] (by kernel_rfl) ?_
    refine jo_end (by kernel_rfl) ?_
    refine jx_then ?_
    refine jc_ret ?_
    obtain rfl := Option.some.inj h
    exact jx_ret [] (.bool true) [] rfl (by kernel_rfl) (by kernel_rfl) (fun w hm => ⟨rfl, hm.pick [] (by kernel_rfl) (by kernel_rfl)⟩)

/-! ### impl.ValidChoice -/
noncomputable def impl_ValidChoice (x0 : GChoice) : Option (Bool) := (if x0.fAway = true then some ((x0.fAway == true) && ((x0.fLate == 0) && ((x0.fOctave == 0) && (x0.fTrack == 0)))) else (impl_within (w64 x0.fLate) (-3) 3).bind fun t_1 => (if t_1 = true then (impl_within (w64 x0.fOctave) (-1) 1).bind fun t_2 => (if t_2 = true then (impl_within (w64 x0.fTrack) 0 23).bind fun t_3 => some t_3 else some false) else some false))
set_option maxRecDepth 100000 in
theorem impl_ValidChoice.calls (x0 : GChoice) (w : World) (r : Bool) (h : impl_ValidChoice x0 = some r) :
    Calls Tryd.prog 76 #[(.agg #[(.bool x0.fAway), (.int .i8 x0.fLate), (.int .i8 x0.fOctave), (.int .i8 x0.fTrack)])] w fun e w' => ∃ v, e = .returned v ∧ (v = (.bool r) ∧ Mem w [] [] w') := by
  rw [impl_ValidChoice] at h
  refine enter (args := [(.agg #[(.bool x0.fAway), (.int .i8 x0.fLate), (.int .i8 x0.fOctave), (.int .i8 x0.fTrack)])]) Tryd.func76 rfl Tryd.ntmps76 (by kernel_rfl) (L := []) (W := []) (Mem.start w) ?_
  refine jc_seq ?_
  refine jc_region ?_
  refine toO (by kernel_rfl) (p_a 0 [0] (by kernel_rfl) (fun b => by kernel_rfl) (fun b_1 => jkO ?_))
  refine jo_f [(0, 0)] (by kernel_rfl) ?_
  refine jo_end (by kernel_rfl) ?_
  refine jx_then ?_
  refine jc_seq ?_
  refine jc_seq ?_
  refine jc_region ?_
  refine jo_f [(0, 0), (0, 0)] (by kernel_rfl) ?_
  refine jo_end (by kernel_rfl) ?_
  refine jx_then ?_
  refine jc_cond x0.fAway (by kernel_rfl) (fun hc_3 => ?_) (fun hc_3 => ?_)
  · replace h := ifT hc_3 h
    refine jc_seq ?_
    refine jc_region ?_
    refine jo_f [(0, 0), (0, 0), (0, 0), (0, 0)] (by kernel_rfl) ?_
    refine jo_end (by kernel_rfl) ?_
    refine jx_then ?_
    refine jc_ret ?_
    refine jx_thenr ?_
    obtain rfl := Option.some.inj h
    exact jx_ret [] (.bool ((x0.fAway == true) && ((x0.fLate == 0) && ((x0.fOctave == 0) && (x0.fTrack == 0))))) [] rfl (by kernel_rfl) (by kernel_rfl) (fun w hm => ⟨rfl, hm.pick [] (by kernel_rfl) (by kernel_rfl)⟩)
  · replace h := ifF hc_3 h
    refine jc_skip ?_
    refine jx_then ?_
    refine jc_seq ?_
    refine jc_region ?_
    refine jo_f [(0, 0), (0, 0), (0, 0)] (by kernel_rfl) ?_
    obtain ⟨t_1, ht_4, h⟩ := bd h
    refine toO (by kernel_rfl) (p_call 0 67 #[(.int .i64 (w64 x0.fLate)), (.int .i64 (-3)), (.int .i64 3)] (by kernel_rfl) (by kernel_rfl) (fun w hm => impl_within.calls (w64 x0.fLate) (-3) 3 w _ ht_4) ?_)
    rintro w v w' hm ⟨rfl, hm'⟩
    refine ⟨_, hm.app hm', jkO ?_⟩
    clear hm hm'
    refine jo_f [(0, 0), (0, 1), (0, 1), (0, 1)] (by kernel_rfl) ?_
    refine jo_split 12 t_1 (by kernel_rfl) (fun hc_5 => ?_) (fun hc_5 => ?_)
    · replace h := ifT hc_5 h
      obtain ⟨t_2, ht_6, h⟩ := bd h
      refine toO (by kernel_rfl) (p_call 2 67 #[(.int .i64 (w64 x0.fOctave)), (.int .i64 (-1)), (.int .i64 1)] (by kernel_rfl) (by kernel_rfl) (fun w hm => impl_within.calls (w64 x0.fOctave) (-1) 1 w _ ht_6) ?_)
      rintro w v w' hm ⟨rfl, hm'⟩
      refine ⟨_, hm.app hm', jkO ?_⟩
      clear hm hm'
      refine jo_f [(0, 4), (0, 0), (0, 1), (0, 1), (0, 1)] (by kernel_rfl) ?_
      refine jo_split 18 t_2 (by kernel_rfl) (fun hc_7 => ?_) (fun hc_7 => ?_)
      · replace h := ifT hc_7 h
        obtain ⟨t_3, ht_8, h⟩ := bd h
        refine toO (by kernel_rfl) (p_call 2 67 #[(.int .i64 (w64 x0.fTrack)), (.int .i64 0), (.int .i64 23)] (by kernel_rfl) (by kernel_rfl) (fun w hm => impl_within.calls (w64 x0.fTrack) 0 23 w _ ht_8) ?_)
        rintro w v w' hm ⟨rfl, hm'⟩
        refine ⟨_, hm.app hm', jkO ?_⟩
        clear hm hm'
        refine jo_f [(0, 4), (0, 0)] (by kernel_rfl) ?_
        refine jo_end (by kernel_rfl) ?_
        refine jx_then ?_
        refine jc_ret ?_
        obtain rfl := Option.some.inj h
        exact jx_ret [] (.bool t_3) [] rfl (by kernel_rfl) (by kernel_rfl) (fun w hm => ⟨rfl, hm.pick [] (by kernel_rfl) (by kernel_rfl)⟩)
      · replace h := ifF hc_7 h
        refine jo_f [(0, 3), (0, 5), (0, 0)] (by kernel_rfl) ?_
        refine jo_end (by kernel_rfl) ?_
        refine jx_then ?_
        refine jc_ret ?_
        obtain rfl := Option.some.inj h
        exact jx_ret [] (.bool false) [] rfl (by kernel_rfl) (by kernel_rfl) (fun w hm => ⟨rfl, hm.pick [] (by kernel_rfl) (by kernel_rfl)⟩)
    · replace h := ifF hc_5 h
      refine jo_f [(0, 3), (0, 5), (0, 0), (0, 3), (0, 3), (0, 3), (0, 3), (0, 5), (0, 0)] (by kernel_rfl) ?_
      refine jo_end (by kernel_rfl) ?_
      refine jx_then ?_
      refine jc_ret ?_
      obtain rfl := Option.some.inj h
      exact jx_ret [] (.bool false) [] rfl (by kernel_rfl) (by kernel_rfl) (fun w hm => ⟨rfl, hm.pick [] (by kernel_rfl) (by kernel_rfl)⟩)

/-! ### impl.choicesCode$1 -/
noncomputable def impl_choicesCode_1 (x0 : GChoice) : Option (Bool) := (impl_ValidChoice x0).bind fun t_1 => some (!t_1)
set_option maxRecDepth 100000 in
theorem impl_choicesCode_1.calls (x0 : GChoice) (w : World) (r : Bool) (h : impl_choicesCode_1 x0 = some r) :
    Calls Tryd.prog 75 #[(.agg #[(.bool x0.fAway), (.int .i8 x0.fLate), (.int .i8 x0.fOctave), (.int .i8 x0.fTrack)])] w fun e w' => ∃ v, e = .returned v ∧ (v = (.bool r) ∧ Mem w [] [] w') := by
  rw [impl_choicesCode_1] at h
  refine enter (args := [(.agg #[(.bool x0.fAway), (.int .i8 x0.fLate), (.int .i8 x0.fOctave), (.int .i8 x0.fTrack)])]) Tryd.func75 rfl Tryd.ntmps75 (by kernel_rfl) (L := []) (W := []) (Mem.start w) ?_
  refine jc_seq ?_
  refine jc_region ?_
  refine toO (by kernel_rfl) (p_a 0 [0] (by kernel_rfl) (fun b => by kernel_rfl) (fun b_1 => jkO ?_))
  refine jo_f [(0, 0)] (by kernel_rfl) ?_
  refine jo_end (by kernel_rfl) ?_
  refine jx_then ?_
  refine jc_seq ?_
  refine jc_region ?_
  refine jo_f [(0, 0)] (by kernel_rfl) ?_
  obtain ⟨t_1, ht_2, h⟩ := bd h
  refine toO (by kernel_rfl) (p_call 0 76 #[(.agg #[(.bool x0.fAway), (.int .i8 x0.fLate), (.int .i8 x0.fOctave), (.int .i8 x0.fTrack)])] (by kernel_rfl) (by kernel_rfl) (fun w hm => impl_ValidChoice.calls x0 w _ ht_2) ?_)
  rintro w v w' hm ⟨rfl, hm'⟩
  refine ⟨_, hm.app hm', jkO ?_⟩
  clear hm hm'
  refine jo_f [(0, 0), (0, 0)] (by kernel_rfl) ?_
  refine jo_end (by kernel_rfl) ?_
  refine jx_then ?_
  refine jc_ret ?_
  obtain rfl := Option.some.inj h
  exact jx_ret [] (.bool (!t_1)) [] rfl (by kernel_rfl) (by kernel_rfl) (fun w hm => ⟨rfl, hm.pick [] (by kernel_rfl) (by kernel_rfl)⟩)

/-! ### slices.IndexFunc[[]impl.Choice,impl.Choice] -/
noncomputable def slices_IndexFunc_Choice_at_impl_choicesCode_1.k_1 : Option (Int) := some (-1)
noncomputable def slices_IndexFunc_Choice_at_impl_choicesCode_1.l_3 (s0 : List GChoice) : Int → Option ((Int) ⊕ (Int ⊕ Unit))
  | i_2 => (if (decide (i_2 < (s0.length : Int))) = true then (ix s0 i_2).bind fun x_5 => (impl_choicesCode_1 x_5).bind fun t_6 => (if t_6 = true then some (.inr (.inl i_2)) else some (.inl (w64 (i_2 + 1)))) else some (.inr (.inr ())))
noncomputable def slices_IndexFunc_Choice_at_impl_choicesCode_1 (s0 : List GChoice) : Option (Int) := (loop (slices_IndexFunc_Choice_at_impl_choicesCode_1.l_3 s0) 0).bind fun t_4 => match t_4 with | .inl p => some p | .inr p => slices_IndexFunc_Choice_at_impl_choicesCode_1.k_1
set_option maxRecDepth 100000 in
theorem slices_IndexFunc_Choice_at_impl_choicesCode_1.calls (s0 : List GChoice) (w : World) (r : Int) (s0_a : Option Addr) (s0_an : Nat) (s0_c : Nat) (s0_h : Rw w s0_a 4 encGChoice s0) (s0_hn : s0.length = s0_an) (h : slices_IndexFunc_Choice_at_impl_choicesCode_1 s0 = some r) :
    Calls Tryd.prog 88 #[(.slice s0_a s0_an s0_c), (.func (.func 75) #[] #[])] w fun e w' => ∃ v, e = .returned v ∧ (v = (.int .i64 r) ∧ Mem w [] [] w') := by
  subst s0_hn
  rw [slices_IndexFunc_Choice_at_impl_choicesCode_1] at h
  refine enter (args := [(.slice s0_a s0.length s0_c), (.func (.func 75) #[] #[])]) Tryd.func88 rfl Tryd.ntmps88 (by kernel_rfl) (L := []) (W := []) (Mem.start w) ?_
  refine jc_seq ?_
  refine jc_region ?_
  refine jo_f [(0, 0)] (by kernel_rfl) ?_
  refine jo_end (by kernel_rfl) ?_
  refine jx_then ?_
  refine jc_seq ?_
  refine jc_seq ?_
  refine jc_region ?_
  refine jo_f [(0, 0), (0, 0), (0, 0)] (by kernel_rfl) ?_
  refine jo_end (by kernel_rfl) ?_
  refine jx_then ?_
  refine jc_meet (fun (_ : Unit) => slices_IndexFunc_Choice_at_impl_choicesCode_1.k_1 = some r) (fun (_ : Unit) => [(4, [], (.int .i64 0))]) (fun (_ : Unit) => []) ?_ ?_
  · refine jc_block ?_
    obtain ⟨t_4, ht_40, hr_31⟩ := bd h
    refine jc_loop (fun (s : Int) (x : Unit) => match s, x with | i_2, _ => True) (fun (s : Int) (x : Unit) => match s, x with | i_2, _ => [(0, [], (.slice s0_a s0.length s0_c)), (1, [], (.func (.func 75) #[] #[])), (4, [], (.int .i64 0)), (7, [], (.int .i64 (s0.length : Int))), (8, [], (.int .i64 i_2))]) (fun (s : Int) (x : Unit) => match s, x with | i_2, _ => []) ht_40 () trivial (by kernel_rfl) [] (by kernel_rfl) (by kernel_rfl) ?_
    rintro i_2 _ y_32 _ h
    rw [slices_IndexFunc_Choice_at_impl_choicesCode_1.l_3] at h
    refine jc_seq ?_
    refine jc_region ?_
    refine jo_f [(0, 0)] (by kernel_rfl) ?_
    refine jo_end (by kernel_rfl) ?_
    refine jx_then ?_
    refine jc_seq ?_
    refine jc_cond (decide (i_2 < (s0.length : Int))) (by kernel_rfl) (fun hc_34 => ?_) (fun hc_34 => ?_)
    · replace h := ifT hc_34 h
      refine jc_skip ?_
      refine jx_then ?_
      refine jc_seq ?_
      refine jc_block ?_
      refine jc_seq ?_
      refine jc_region ?_
      refine jo_f [(0, 0), (0, 0)] (by kernel_rfl) ?_
      refine jo_end (by kernel_rfl) ?_
      refine jx_then ?_
      refine jc_seq ?_
      refine jc_region ?_
      refine jo_f [(0, 0), (0, 0), (0, 0)] (by kernel_rfl) ?_
      obtain ⟨x_5, hx_35, h⟩ := bd h
      refine toO (by kernel_rfl) (p_idx 0 s0_a s0.length i_2 4 (by kernel_rfl) (by kernel_rfl) (ix_some hx_35).1 (ltn hx_35 rfl) (s0_h.sp hx_35) (jkO ?_))
      refine toO (by kernel_rfl) (p_ld 0 (aB s0_a) (aO s0_a + i_2.toNat * 4) true (encGChoice x_5) (by kernel_rfl) (by kernel_rfl) (by kernel_rfl) (fun w hm => ((hm.exRow s0_h List.not_mem_nil).at hx_35)) (jkO ?_))
      obtain ⟨t_6, ht_36, h⟩ := bd h
      refine toO (by kernel_rfl) (p_call 0 75 #[(.agg #[(.bool x_5.fAway), (.int .i8 x_5.fLate), (.int .i8 x_5.fOctave), (.int .i8 x_5.fTrack)])] (by kernel_rfl) (by kernel_rfl) (fun w hm => impl_choicesCode_1.calls x_5 w _ ht_36) ?_)
      rintro w v w' hm ⟨rfl, hm'⟩
      refine ⟨_, hm.app hm', jkO ?_⟩
      clear hm hm'
      refine jo_end (by kernel_rfl) ?_
      refine jx_then ?_
      refine jc_cond t_6 (by kernel_rfl) (fun hc_37 => ?_) (fun hc_37 => ?_)
      · replace h := ifT hc_37 h
        refine jc_seq ?_
        refine jc_region ?_
        refine jo_f [(0, 0), (0, 0)] (by kernel_rfl) ?_
        refine jo_end (by kernel_rfl) ?_
        refine jx_then ?_
        refine jc_ret ?_
        refine jx_inr ?_
        refine jx_thenr ?_
        refine jx_leaver (.inl i_2) (Option.some.inj h).symm (fun e_38 => ?_)
        subst e_38
        refine jx_inr ?_
        refine jx_thenr ?_
        refine jx_thenr ?_
        obtain rfl := Option.some.inj hr_31
        exact jx_ret [] (.int .i64 i_2) [] rfl (by kernel_rfl) (by kernel_rfl) (fun w hm => ⟨rfl, hm.pick [] (by kernel_rfl) (by kernel_rfl)⟩)
      · replace h := ifF hc_37 h
        refine jc_skip ?_
        refine jx_inn ?_
        refine jx_then ?_
        refine jc_region ?_
        refine jo_f [(0, 0), (0, 0)] (by kernel_rfl) ?_
        refine jo_end (by kernel_rfl) ?_
        exact jx_back (w64 (i_2 + 1)) () (Option.some.inj h).symm trivial [] (by kernel_rfl) (by kernel_rfl) (by kernel_rfl)
    · replace h := ifF hc_34 h
      refine jc_exit ?_
      refine jx_thenx ?_
      refine jx_leave (.inr ()) (Option.some.inj h).symm (fun e_39 => ?_)
      subst e_39
      refine jx_ine ?_
      exact jx_meet () hr_31 (by kernel_rfl) [] (by kernel_rfl) (by kernel_rfl)
  · rintro _ h
    replace h : slices_IndexFunc_Choice_at_impl_choicesCode_1.k_1 = some r := h
    rw [slices_IndexFunc_Choice_at_impl_choicesCode_1.k_1] at h
    refine jx_then ?_
    refine jc_seq ?_
    refine jc_region ?_
    refine jo_f [(0, 0)] (by kernel_rfl) ?_
    refine jo_end (by kernel_rfl) ?_
    refine jx_then ?_
    refine jc_ret ?_
    obtain rfl := Option.some.inj h
    exact jx_ret [] (.int .i64 (-1)) [] rfl (by kernel_rfl) (by kernel_rfl) (fun w hm => ⟨rfl, hm.pick [] (by kernel_rfl) (by kernel_rfl)⟩)

/-! ### slices.ContainsFunc[[]impl.Choice,impl.Choice] -/
noncomputable def slices_ContainsFunc_Choice_at_impl_choicesCode_1 (s0 : List GChoice) : Option (Bool) := (slices_IndexFunc_Choice_at_impl_choicesCode_1 s0).bind fun t_1 => some (decide (t_1 ≥ 0))
set_option maxRecDepth 100000 in
theorem slices_ContainsFunc_Choice_at_impl_choicesCode_1.calls (s0 : List GChoice) (w : World) (r : Bool) (s0_a : Option Addr) (s0_an : Nat) (s0_c : Nat) (s0_h : Rw w s0_a 4 encGChoice s0) (s0_hn : s0.length = s0_an) (h : slices_ContainsFunc_Choice_at_impl_choicesCode_1 s0 = some r) :
    Calls Tryd.prog 74 #[(.slice s0_a s0_an s0_c), (.func (.func 75) #[] #[])] w fun e w' => ∃ v, e = .returned v ∧ (v = (.bool r) ∧ Mem w [] [] w') := by
  subst s0_hn
  rw [slices_ContainsFunc_Choice_at_impl_choicesCode_1] at h
  refine enter (args := [(.slice s0_a s0.length s0_c), (.func (.func 75) #[] #[])]) Tryd.func74 rfl Tryd.ntmps74 (by kernel_rfl) (L := []) (W := []) (Mem.start w) ?_
  refine jc_seq ?_
  refine jc_region ?_
  refine jo_f [(0, 0)] (by kernel_rfl) ?_
  refine jo_end (by kernel_rfl) ?_
  refine jx_then ?_
  refine jc_seq ?_
  refine jc_region ?_
  refine jo_f [(0, 0), (0, 0)] (by kernel_rfl) ?_
  obtain ⟨t_1, ht_1, h⟩ := bd h
  refine toO (by kernel_rfl) (p_call 0 88 #[(.slice s0_a s0.length s0_c), (.func (.func 75) #[] #[])] (by kernel_rfl) (by kernel_rfl) (fun w hm => slices_IndexFunc_Choice_at_impl_choicesCode_1.calls s0 w _ s0_a s0.length s0_c (hm.exRow s0_h List.not_mem_nil) rfl ht_1) ?_)
  rintro w v w' hm ⟨rfl, hm'⟩
  refine ⟨_, hm.app hm', jkO ?_⟩
  clear hm hm'
  refine jo_f [(0, 0), (0, 0)] (by kernel_rfl) ?_
  refine jo_end (by kernel_rfl) ?_
  refine jx_then ?_
  refine jc_ret ?_
  obtain rfl := Option.some.inj h
  exact jx_ret [] (.bool (decide (t_1 ≥ 0))) [] rfl (by kernel_rfl) (by kernel_rfl) (fun w hm => ⟨rfl, hm.pick [] (by kernel_rfl) (by kernel_rfl)⟩)

/-! ### impl.unless -/
noncomputable def impl_unless (is0 : Bool) (code1 : Int) : Option (Int) := (if is0 = true then some 0 else some code1)
set_option maxRecDepth 100000 in
theorem impl_unless.calls (is0 : Bool) (code1 : Int) (w : World) (r : Int) (h : impl_unless is0 code1 = some r) :
    Calls Tryd.prog 73 #[(.bool is0), (.int .i64 code1)] w fun e w' => ∃ v, e = .returned v ∧ (v = (.int .i64 r) ∧ Mem w [] [] w') := by
  rw [impl_unless] at h
  refine enter (args := [(.bool is0), (.int .i64 code1)]) Tryd.func73 rfl Tryd.ntmps73 (by kernel_rfl) (L := []) (W := []) (Mem.start w) ?_
  refine jc_seq ?_
  refine jc_region ?_
  refine jo_f [(0, 0)] (by kernel_rfl) ?_
  refine jo_end (by kernel_rfl) ?_
  refine jx_then ?_
  refine jc_seq ?_
  refine jc_seq ?_
  refine jc_region ?_
  refine jo_f [(0, 0)] (by kernel_rfl) ?_
  refine jo_end (by kernel_rfl) ?_
  refine jx_then ?_
  refine jc_cond is0 (by kernel_rfl) (fun hc_2 => ?_) (fun hc_2 => ?_)
  · replace h := ifT hc_2 h
    refine jc_seq ?_
    refine jc_region ?_
    refine jo_f [(0, 0)] (by kernel_rfl) ?_
    refine jo_end (by kernel_rfl) ?_
    refine jx_then ?_
    refine jc_ret ?_
    refine jx_thenr ?_
    obtain rfl := Option.some.inj h
    exact jx_ret [] (.int .i64 0) [] rfl (by kernel_rfl) (by kernel_rfl) (fun w hm => ⟨rfl, hm.pick [] (by kernel_rfl) (by kernel_rfl)⟩)
  · replace h := ifF hc_2 h
    refine jc_skip ?_
    refine jx_then ?_
    refine jc_seq ?_
    refine jc_region ?_
    refine jo_f [(0, 0), (0, 0)] (by kernel_rfl) ?_
    refine jo_end (by kernel_rfl) ?_
    refine jx_then ?_
    refine jc_ret ?_
    obtain rfl := Option.some.inj h
    exact jx_ret [] (.int .i64 code1) [] rfl (by kernel_rfl) (by kernel_rfl) (fun w hm => ⟨rfl, hm.pick [] (by kernel_rfl) (by kernel_rfl)⟩)

/-! ### impl.choicesCode -/
noncomputable def impl_choicesCode (list0 : List GChoice) : Option (Int) := (slices_ContainsFunc_Choice_at_impl_choicesCode_1 list0).bind fun t_1 => (impl_unless (!t_1) 1).bind fun t_2 => some t_2
set_option maxRecDepth 100000 in
theorem impl_choicesCode.calls (list0 : List GChoice) (w : World) (r : Int) (list0_a : Option Addr) (list0_an : Nat) (list0_c : Nat) (list0_h : Rw w list0_a 4 encGChoice list0) (list0_hn : list0.length = list0_an) (h : impl_choicesCode list0 = some r) :
    Calls Tryd.prog 46 #[(.slice list0_a list0_an list0_c)] w fun e w' => ∃ v, e = .returned v ∧ (v = (.int .i64 r) ∧ Mem w [] [] w') := by
  subst list0_hn
  rw [impl_choicesCode] at h
  refine enter (args := [(.slice list0_a list0.length list0_c)]) Tryd.func46 rfl Tryd.ntmps46 (by kernel_rfl) (L := []) (W := []) (Mem.start w) ?_
  refine jc_seq ?_
  refine jc_region ?_
  refine jo_f [(0, 0)] (by kernel_rfl) ?_
  refine jo_end (by kernel_rfl) ?_
  refine jx_then ?_
  refine jc_seq ?_
  refine jc_region ?_
  refine jo_f [(0, 0)] (by kernel_rfl) ?_
  obtain ⟨t_1, ht_1, h⟩ := bd h
  refine toO (by kernel_rfl) (p_call 0 74 #[(.slice list0_a list0.length list0_c), (.func (.func 75) #[] #[])] (by kernel_rfl) (by kernel_rfl) (fun w hm => slices_ContainsFunc_Choice_at_impl_choicesCode_1.calls list0 w _ list0_a list0.length list0_c (hm.exRow list0_h List.not_mem_nil) rfl ht_1) ?_)
  rintro w v w' hm ⟨rfl, hm'⟩
  refine ⟨_, hm.app hm', jkO ?_⟩
  clear hm hm'
  refine jo_f [(0, 0)] (by kernel_rfl) ?_
  obtain ⟨t_2, ht_2, h⟩ := bd h
  refine toO (by kernel_rfl) (p_call 0 73 #[(.bool (!t_1)), (.int .i64 1)] (by kernel_rfl) (by kernel_rfl) (fun w hm => impl_unless.calls (!t_1) 1 w _ ht_2) ?_)
  rintro w v w' hm ⟨rfl, hm'⟩
  refine ⟨_, hm.app hm', jkO ?_⟩
  clear hm hm'
  refine jo_f [(0, 0)] (by kernel_rfl) ?_
  refine jo_end (by kernel_rfl) ?_
  refine jx_then ?_
  refine jc_ret ?_
  obtain rfl := Option.some.inj h
  exact jx_ret [] (.int .i64 t_2) [] rfl (by kernel_rfl) (by kernel_rfl) (fun w hm => ⟨rfl, hm.pick [] (by kernel_rfl) (by kernel_rfl)⟩)

def lay_strings_Join_ren : Go.Shelf.Ren := ⟨fun | 156 => 47 | 165 => 77 | 166 => 36 | 169 => 41 | 240 => 69 | 241 => 89 | 276 => 86 | 277 => 103 | n => n, fun | 31 => 66 | 9 => 9 | 3 => 3 | 4 => 4 | 0 => 0 | 20 => 20 | 72 => 61 | 76 => 64 | 70 => 58 | 37 => 59 | 75 => 63 | 127 => 112 | 164 => 122 | 5 => 5 | 80 => 73 | n => n, fun | n => n⟩
theorem lay_strings_Join : Go.Proofs.Lays.n156 Tryd.prog lay_strings_Join_ren where
  mixed := by kernel_rfl
  f156 := Tryd.func47.trans (congrArg some (by kernel_rfl))
  f165 := Tryd.func77.trans (congrArg some (by kernel_rfl))
  f166 := Tryd.func36.trans (congrArg some (by kernel_rfl))
  f169 := Tryd.func41.trans (congrArg some (by kernel_rfl))
  f240 := Tryd.func69.trans (congrArg some (by kernel_rfl))
  f241 := Tryd.func89.trans (congrArg some (by kernel_rfl))
  f276 := Tryd.func86.trans (congrArg some (by kernel_rfl))
  f277 := Tryd.func103.trans (congrArg some (by kernel_rfl))
  t0 := Tryd.underlying0
  a0 := Tryd.isAgg0
  z0 := Tryd.sizeOf0
  v0 := Tryd.zeroValue0
  t3 := Tryd.underlying3
  a3 := Tryd.isAgg3
  z3 := Tryd.sizeOf3
  v3 := Tryd.zeroValue3
  t4 := Tryd.underlying4
  a4 := Tryd.isAgg4
  z4 := Tryd.sizeOf4
  v4 := Tryd.zeroValue4
  t9 := Tryd.underlying9
  a9 := Tryd.isAgg9
  z9 := Tryd.sizeOf9
  v9 := Tryd.zeroValue9
  t20 := Tryd.underlying20
  a20 := Tryd.isAgg20
  z20 := Tryd.sizeOf20
  v20 := Tryd.zeroValue20
  t31 := Tryd.underlying66
  a31 := Tryd.isAgg66
  z31 := Tryd.sizeOf66
  v31 := Tryd.zeroValue66
  t37 := Tryd.underlying59
  a37 := Tryd.isAgg59
  z37 := Tryd.sizeOf59
  v37 := Tryd.zeroValue59
  t70 := Tryd.underlying58
  a70 := Tryd.isAgg58
  z70 := Tryd.sizeOf58
  v70 := Tryd.zeroValue58
  t72 := Tryd.underlying61
  a72 := Tryd.isAgg61
  z72 := Tryd.sizeOf61
  v72 := Tryd.zeroValue61
  t75 := Tryd.underlying63
  a75 := Tryd.isAgg63
  z75 := Tryd.sizeOf63
  v75 := Tryd.zeroValue63
  t76 := Tryd.underlying64
  a76 := Tryd.isAgg64
  z76 := Tryd.sizeOf64
  v76 := Tryd.zeroValue64
  t127 := Tryd.underlying112
  a127 := Tryd.isAgg112
  z127 := Tryd.sizeOf112
  v127 := Tryd.zeroValue112
  t164 := Tryd.underlying122
  a164 := Tryd.isAgg122
  z164 := Tryd.sizeOf122
  v164 := Tryd.zeroValue122
theorem lay_strings_Join_x : Go.Proofs.Builder.Extra Tryd.prog lay_strings_Join_ren where
  sizeBuilder := by kernel_rfl
  liesBuilder := by kernel_rfl
  t5 := Tryd.underlying5
  a5 := Tryd.isAgg5
  z5 := Tryd.sizeOf5
  v5 := Tryd.zeroValue5
  infoByte := by kernel_rfl
  cellsByte := by kernel_rfl
  sizeByte := by kernel_rfl
  neB5 := by decide
/-! ### strings.Join -/
noncomputable def strings_Join (elems0 : List ByteArray) (sep1 : ByteArray) : Option (ByteArray) := joinF elems0 sep1
set_option maxRecDepth 100000 in
theorem strings_Join.calls (elems0 : List ByteArray) (sep1 : ByteArray) (w : World) (r : ByteArray) (elems0_o : Option Nat) (elems0_on : Nat) (elems0_c : Nat) (elems0_sp : List Value) (elems0_hn : elems0.length = elems0_on) (elems0_hs : elems0_o ≠ none → elems0_on ≤ elems0_c ∧ elems0_sp.length = (elems0_c - elems0_on) * 1) (elems0_ho : elems0_o = none → elems0 = [] ∧ elems0_c = 0) (hm0 : Mem w (bs [elems0_o]) [⟨elems0_o, 9, row encStr elems0 elems0_sp⟩] w) (h : strings_Join elems0 sep1 = some r) :
    Calls Tryd.prog 47 #[(.slice (elems0_o.map fun b => ⟨b, 0, none⟩) elems0_on elems0_c), (.string sep1)] w fun e w' => ∃ v, e = .returned v ∧ (v = (.string r) ∧ Mem w (bs [elems0_o]) [⟨elems0_o, 9, row encStr elems0 elems0_sp⟩] w') := by
  rw [strings_Join] at h
  exact join_calls lay_strings_Join lay_strings_Join_x _ elems0 sep1 w r elems0_o elems0_on elems0_c elems0_sp elems0_hn elems0_hs elems0_ho hm0 h

/-! ### impl.ChoicesText -/
noncomputable def impl_ChoicesText.k_4 (xs_3 : List ByteArray) : Option (ByteArray) := (strings_Join xs_3 (ByteArray.mk #[32])).bind fun t_5 => some t_5
noncomputable def impl_ChoicesText.k_12 (xs_6 : List ByteArray) (i_7 : Int) (s_11 : ByteArray) : Option (((List ByteArray) × Int) ⊕ ((List ByteArray))) := (if xs_6.length + [s_11].length ≤ 4294967296 then some (.inl ((xs_6 ++ [s_11]), (w64 (i_7 + 1)))) else none)
noncomputable def impl_ChoicesText.l_8 (list0 : List GChoice) : ((List ByteArray) × Int) → Option (((List ByteArray) × Int) ⊕ ((List ByteArray)))
  | (xs_6, i_7) => (if (decide (i_7 < (list0.length : Int))) = true then (ix list0 i_7).bind fun x_10 => (if (!x_10.fAway) = true then (impl_decimal (w64 x_10.fLate)).bind fun t_13 => (if t_13.size + (ByteArray.mk #[47]).size ≤ 9223372036854775807 then (impl_decimal (w64 x_10.fOctave)).bind fun t_14 => (if (t_13 ++ (ByteArray.mk #[47])).size + t_14.size ≤ 9223372036854775807 then (if ((t_13 ++ (ByteArray.mk #[47])) ++ t_14).size + (ByteArray.mk #[47]).size ≤ 9223372036854775807 then (impl_decimal (w64 x_10.fTrack)).bind fun t_15 => (if (((t_13 ++ (ByteArray.mk #[47])) ++ t_14) ++ (ByteArray.mk #[47])).size + t_15.size ≤ 9223372036854775807 then impl_ChoicesText.k_12 xs_6 i_7 ((((t_13 ++ (ByteArray.mk #[47])) ++ t_14) ++ (ByteArray.mk #[47])) ++ t_15) else none) else none) else none) else none) else impl_ChoicesText.k_12 xs_6 i_7 (ByteArray.mk #[120])) else some (.inr xs_6))
noncomputable def impl_ChoicesText.k_2 (list0 : List GChoice) (q_1 : Bool) : Option (ByteArray) := (if q_1 = true then some (ByteArray.mk #[]) else (loop (impl_ChoicesText.l_8 list0) (([] : List ByteArray), 0)).bind fun t_9 => impl_ChoicesText.k_4 t_9)
noncomputable def impl_ChoicesText (list0 : List GChoice) : Option (ByteArray) := (if (decide ((list0.length : Int) > 120)) = true then impl_ChoicesText.k_2 list0 true else (impl_choicesCode list0).bind fun t_16 => impl_ChoicesText.k_2 list0 (t_16 != 0))
set_option maxRecDepth 100000 in
theorem impl_ChoicesText.calls (list0 : List GChoice) (w : World) (r : ByteArray) (g_pw : Glpw w) (list0_a : Option Addr) (list0_an : Nat) (list0_c : Nat) (list0_h : Rw w list0_a 4 encGChoice list0) (list0_hn : list0.length = list0_an) (h : impl_ChoicesText list0 = some r) :
    Calls Tryd.prog 16 #[(.slice list0_a list0_an list0_c)] w fun e w' => ∃ v, e = .returned v ∧ (v = (.string r) ∧ Mem w [] [] w') := by
  subst list0_hn
  rw [impl_ChoicesText] at h
  refine enter (args := [(.slice list0_a list0.length list0_c)]) Tryd.func16 rfl Tryd.ntmps16 (by kernel_rfl) (L := []) (W := []) (Mem.start w) ?_
  refine jc_seq ?_
  refine jc_region ?_
  refine jo_f [(0, 0)] (by kernel_rfl) ?_
  refine jo_end (by kernel_rfl) ?_
  refine jx_then ?_
  refine jc_seq ?_
  refine jc_seq ?_
  refine jc_meet (fun (j : Bool) => match j with | q_1 => impl_ChoicesText.k_2 list0 q_1 = some r) (fun (j : Bool) => match j with | q_1 => [(0, [], (.slice list0_a list0.length list0_c)), (2, [], (.string (ByteArray.mk #[]))), (14, [], (.bool q_1))]) (fun (j : Bool) => match j with | q_1 => []) ?_ ?_
  · refine jc_region ?_
    refine jo_f [(0, 0), (0, 0), (0, 0), (0, 0), (0, 1)] (by kernel_rfl) ?_
    refine jo_split 10 (decide ((list0.length : Int) > 120)) (by kernel_rfl) (fun hc_411 => ?_) (fun hc_411 => ?_)
    · replace h := ifT hc_411 h
      refine jo_f [(0, 3), (0, 3), (0, 4)] (by kernel_rfl) ?_
      refine jo_end (by kernel_rfl) ?_
      exact jx_meet true h (by kernel_rfl) [] (by kernel_rfl) (by kernel_rfl)
    · replace h := ifF hc_411 h
      obtain ⟨t_16, ht_412, h⟩ := bd h
      refine toO (by kernel_rfl) (p_call 2 46 #[(.slice list0_a list0.length list0_c)] (by kernel_rfl) (by kernel_rfl) (fun w hm => impl_choicesCode.calls list0 w _ list0_a list0.length list0_c (hm.exRow list0_h List.not_mem_nil) rfl ht_412) ?_)
      rintro w v w' hm ⟨rfl, hm'⟩
      refine ⟨_, hm.app hm', jkO ?_⟩
      clear hm hm'
      refine jo_f [(0, 2), (0, 5)] (by kernel_rfl) ?_
      refine jo_end (by kernel_rfl) ?_
      exact jx_meet (t_16 != 0) h (by kernel_rfl) [] (by kernel_rfl) (by kernel_rfl)
  · rintro q_1 h
    replace h : impl_ChoicesText.k_2 list0 q_1 = some r := h
    rw [impl_ChoicesText.k_2] at h
    refine jx_then ?_
    refine jc_cond q_1 (by kernel_rfl) (fun hc_8 => ?_) (fun hc_8 => ?_)
    · replace h := ifT hc_8 h
      refine jc_seq ?_
      refine jc_region ?_
      refine jo_f [(0, 0)] (by kernel_rfl) ?_
      refine jo_end (by kernel_rfl) ?_
      refine jx_then ?_
      refine jc_ret ?_
      refine jx_thenr ?_
      obtain rfl := Option.some.inj h
      exact jx_ret [] (.string (ByteArray.mk #[])) [] rfl (by kernel_rfl) (by kernel_rfl) (fun w hm => ⟨rfl, hm.pick [] (by kernel_rfl) (by kernel_rfl)⟩)
    · replace h := ifF hc_8 h
      refine jc_skip ?_
      refine jx_then ?_
      refine jc_seq ?_
      refine jc_region ?_
      refine toO (by kernel_rfl) (p_a 0 [0] (by kernel_rfl) (fun b => by kernel_rfl) (fun b_9 => jkO ?_))
      refine jo_f [(0, 0)] (by kernel_rfl) ?_
      refine jo_end (by kernel_rfl) ?_
      refine jx_then ?_
      refine jc_seq ?_
      refine jc_seq ?_
      refine jc_region ?_
      refine jo_f [(0, 0), (0, 0), (0, 0)] (by kernel_rfl) ?_
      refine jo_end (by kernel_rfl) ?_
      refine jx_then ?_
      refine jc_meet (fun (j : (List ByteArray) × (Option Nat) × Nat × (List Value) × Nat) => match j with | ⟨xs_3, o_307, cap_308, sp_309, n_310⟩ => impl_ChoicesText.k_4 xs_3 = some r ∧ (xs_3.length = n_310) ∧ ((o_307 ≠ none → n_310 ≤ cap_308 ∧ sp_309.length = (cap_308 - n_310) * 1)) ∧ ((o_307 = none → xs_3 = [] ∧ cap_308 = 0))) (fun (j : (List ByteArray) × (Option Nat) × Nat × (List Value) × Nat) => match j with | ⟨xs_3, o_307, cap_308, sp_309, n_310⟩ => [(2, [], (.string (ByteArray.mk #[]))), (3, [], (.slice (o_307.map fun b => ⟨b, 0, none⟩) n_310 cap_308))]) (fun (j : (List ByteArray) × (Option Nat) × Nat × (List Value) × Nat) => match j with | ⟨xs_3, o_307, cap_308, sp_309, n_310⟩ => [⟨o_307, 9, row encStr xs_3 sp_309⟩]) ?_ ?_
      · refine jc_block ?_
        obtain ⟨t_9, ht_410, hr_380⟩ := bd h
        refine jc_loop (fun (s : (List ByteArray) × Int) (x : (Option Nat) × Nat × (List Value) × Nat) => match s, x with | ⟨xs_6, i_7⟩, ⟨o_374, cap_375, sp_376, n_377⟩ => (xs_6.length = n_377) ∧ ((o_374 ≠ none → n_377 ≤ cap_375 ∧ sp_376.length = (cap_375 - n_377) * 1)) ∧ ((o_374 = none → xs_6 = [] ∧ cap_375 = 0))) (fun (s : (List ByteArray) × Int) (x : (Option Nat) × Nat × (List Value) × Nat) => match s, x with | ⟨xs_6, i_7⟩, ⟨o_374, cap_375, sp_376, n_377⟩ => [(2, [], (.string (ByteArray.mk #[]))), (3, [], (.slice (o_374.map fun b => ⟨b, 0, none⟩) n_377 cap_375)), (16, [], (.slice list0_a list0.length list0_c)), (17, [], (.int .i64 (list0.length : Int))), (18, [], (.int .i64 i_7))]) (fun (s : (List ByteArray) × Int) (x : (Option Nat) × Nat × (List Value) × Nat) => match s, x with | ⟨xs_6, i_7⟩, ⟨o_374, cap_375, sp_376, n_377⟩ => [⟨o_374, 9, row encStr xs_6 sp_376⟩]) ht_410 ⟨(some b_9), 0, [], 0⟩ ⟨rfl, (fun _ => ⟨Nat.le_refl _, by simp⟩), (fun e => nomatch e)⟩ (by kernel_rfl) [0] (by kernel_rfl) (by kernel_rfl) ?_
        rintro ⟨xs_6, i_7⟩ ⟨o_374, cap_375, sp_376, n_377⟩ y_381 ⟨rfl, hs_378, ho_379⟩ h
        rw [impl_ChoicesText.l_8] at h
        refine jc_seq ?_
        refine jc_region ?_
        refine jo_f [(0, 0)] (by kernel_rfl) ?_
        refine jo_end (by kernel_rfl) ?_
        refine jx_then ?_
        refine jc_seq ?_
        refine jc_cond (decide (i_7 < (list0.length : Int))) (by kernel_rfl) (fun hc_383 => ?_) (fun hc_383 => ?_)
        · replace h := ifT hc_383 h
          refine jc_skip ?_
          refine jx_then ?_
          refine jc_seq ?_
          refine jc_block ?_
          refine jc_seq ?_
          refine jc_region ?_
          obtain ⟨x_10, hx_384, h⟩ := bd h
          refine toO (by kernel_rfl) (p_idx 0 list0_a list0.length i_7 4 (by kernel_rfl) (by kernel_rfl) (ix_some hx_384).1 (ltn hx_384 rfl) (list0_h.sp hx_384) (jkO ?_))
          refine toO (by kernel_rfl) (p_ld 0 (aB list0_a) (aO list0_a + i_7.toNat * 4) true (encGChoice x_10) (by kernel_rfl) (by kernel_rfl) (by kernel_rfl) (fun w hm => ((hm.exRow list0_h List.not_mem_nil).at hx_384)) (jkO ?_))
          refine toO (by kernel_rfl) (p_a 0 [0] (by kernel_rfl) (fun b => by kernel_rfl) (fun b_385 => jkO ?_))
          refine toO (by kernel_rfl) (p_s 0 [1] (by kernel_rfl) (by kernel_rfl) (jkO ?_))
          refine jo_end (by kernel_rfl) ?_
          refine jx_then ?_
          refine jc_seq ?_
          refine jc_region ?_
          refine jo_f [(0, 0)] (by kernel_rfl) ?_
          refine jo_end (by kernel_rfl) ?_
          refine jx_then ?_
          refine jc_seq ?_
          refine jc_meet (fun (j : ByteArray) => match j with | s_11 => impl_ChoicesText.k_12 xs_6 i_7 s_11 = some y_381) (fun (j : ByteArray) => match j with | s_11 => [(2, [], (.string (ByteArray.mk #[]))), (3, [], (.slice (o_374.map fun b => ⟨b, 0, none⟩) xs_6.length cap_375)), (6, [], (.string s_11)), (16, [], (.slice list0_a list0.length list0_c)), (17, [], (.int .i64 (list0.length : Int))), (18, [], (.int .i64 i_7))]) (fun (j : ByteArray) => match j with | s_11 => [⟨o_374, 9, row encStr xs_6 sp_376⟩, ⟨some b_385, 77, [(.bool x_10.fAway), (.int .i8 x_10.fLate), (.int .i8 x_10.fOctave), (.int .i8 x_10.fTrack)]⟩]) ?_ ?_
          · refine jc_seq ?_
            refine jc_region ?_
            refine jo_f [(0, 0), (1, 0), (0, 0)] (by kernel_rfl) ?_
            refine jo_end (by kernel_rfl) ?_
            refine jx_then ?_
            refine jc_cond (!x_10.fAway) (by kernel_rfl) (fun hc_401 => ?_) (fun hc_401 => ?_)
            · replace h := ifT hc_401 h
              refine jc_draw [⟨o_374, 9, row encStr xs_6 sp_376⟩, ⟨some b_385, 77, [(.bool x_10.fAway), (.int .i8 x_10.fLate), (.int .i8 x_10.fOctave), (.int .i8 x_10.fTrack)]⟩] 17 (by kernel_rfl) (by kernel_rfl) ?_
              refine jd_f [⟨0, 0, 0⟩, ⟨1, 1, 0⟩, ⟨2, 0, 0⟩, ⟨5, 0, 0⟩, ⟨6, 1, 0⟩, ⟨7, 0, 0⟩, ⟨11, 0, 0⟩, ⟨12, 1, 0⟩, ⟨13, 0, 0⟩] 8 (by kernel_rfl) (by kernel_rfl) (fun w h => h.pick [0, 1] (by kernel_rfl) (by kernel_rfl)) (by kernel_rfl) (by kernel_rfl) ?_
              obtain ⟨t_13, ht_402, h⟩ := bd h
              refine toD 3 (by kernel_rfl) (p_call 0 40 #[(.int .i64 (w64 x_10.fLate))] (by kernel_rfl) (by kernel_rfl) (fun w hm => impl_decimal.calls (w64 x_10.fLate) w _ (g_pw.keep hm) ht_402) ?_)
              rintro w v w' hm ⟨rfl, hm'⟩
              refine ⟨_, hm.app hm', jkD (fun w h => h.pick [0, 1] (by kernel_rfl) (by kernel_rfl)) ?_⟩
              clear hm hm'
              obtain ⟨hg_403, h⟩ := gd h
              refine jd_v 4 0 (by kernel_rfl) (fun w h => h.pick [0, 1] (by kernel_rfl) (by kernel_rfl)) (by kernel_rfl) (by kernel_rfl) _ (fun w hm => cat_run (a := t_13) (b := (ByteArray.mk #[47])) (by kernel_rfl) hg_403) ?_
              obtain ⟨t_14, ht_404, h⟩ := bd h
              refine toD 8 (by kernel_rfl) (p_call 0 40 #[(.int .i64 (w64 x_10.fOctave))] (by kernel_rfl) (by kernel_rfl) (fun w hm => impl_decimal.calls (w64 x_10.fOctave) w _ (g_pw.keep hm) ht_404) ?_)
              rintro w v w' hm ⟨rfl, hm'⟩
              refine ⟨_, hm.app hm', jkD (fun w h => h.pick [0, 1] (by kernel_rfl) (by kernel_rfl)) ?_⟩
              clear hm hm'
              obtain ⟨hg_405, h⟩ := gd h
              refine jd_v 9 0 (by kernel_rfl) (fun w h => h.pick [0, 1] (by kernel_rfl) (by kernel_rfl)) (by kernel_rfl) (by kernel_rfl) _ (fun w hm => cat_run (a := (t_13 ++ (ByteArray.mk #[47]))) (b := t_14) (by kernel_rfl) hg_405) ?_
              obtain ⟨hg_406, h⟩ := gd h
              refine jd_v 10 0 (by kernel_rfl) (fun w h => h.pick [0, 1] (by kernel_rfl) (by kernel_rfl)) (by kernel_rfl) (by kernel_rfl) _ (fun w hm => cat_run (a := ((t_13 ++ (ByteArray.mk #[47])) ++ t_14)) (b := (ByteArray.mk #[47])) (by kernel_rfl) hg_406) ?_
              obtain ⟨t_15, ht_407, h⟩ := bd h
              refine toD 14 (by kernel_rfl) (p_call 0 40 #[(.int .i64 (w64 x_10.fTrack))] (by kernel_rfl) (by kernel_rfl) (fun w hm => impl_decimal.calls (w64 x_10.fTrack) w _ (g_pw.keep hm) ht_407) ?_)
              rintro w v w' hm ⟨rfl, hm'⟩
              refine ⟨_, hm.app hm', jkD (fun w h => h.pick [0, 1] (by kernel_rfl) (by kernel_rfl)) ?_⟩
              clear hm hm'
              obtain ⟨hg_408, h⟩ := gd h
              refine jd_v 15 0 (by kernel_rfl) (fun w h => h.pick [0, 1] (by kernel_rfl) (by kernel_rfl)) (by kernel_rfl) (by kernel_rfl) _ (fun w hm => cat_run (a := (((t_13 ++ (ByteArray.mk #[47])) ++ t_14) ++ (ByteArray.mk #[47]))) (b := t_15) (by kernel_rfl) hg_408) ?_
              refine jd_f [⟨16, 0, 0⟩] 0 (by kernel_rfl) (by kernel_rfl) (fun w h => h.pick [0, 1] (by kernel_rfl) (by kernel_rfl)) (by kernel_rfl) (by kernel_rfl) ?_
              refine jd_end (by kernel_rfl) ?_
              exact jx_meet ((((t_13 ++ (ByteArray.mk #[47])) ++ t_14) ++ (ByteArray.mk #[47])) ++ t_15) h (by kernel_rfl) [0, 1] (by kernel_rfl) (by kernel_rfl)
            · replace h := ifF hc_401 h
              refine jc_skip ?_
              exact jx_meet (ByteArray.mk #[120]) h (by kernel_rfl) [0, 1] (by kernel_rfl) (by kernel_rfl)
          · rintro s_11 h
            replace h : impl_ChoicesText.k_12 xs_6 i_7 s_11 = some y_381 := h
            rw [impl_ChoicesText.k_12] at h
            refine jx_then ?_
            refine jc_region ?_
            refine jo_f [(0, 0), (0, 0)] (by kernel_rfl) ?_
            refine toO (by kernel_rfl) (p_a 0 [0] (by kernel_rfl) (fun b => by kernel_rfl) (fun b_394 => jkO ?_))
            obtain ⟨hg_395, h⟩ := gd h
            refine toO (by kernel_rfl) (p_apn 0 0 o_374 9 xs_6.length 1 cap_375 1 16 (some ⟨b_394, 0, none⟩) encStr xs_6 [s_11] sp_376 (.string ByteArray.empty) rfl rfl (by kernel_rfl) (by kernel_rfl) (by kernel_rfl) encStr_len encStr_cell hs_378 ho_379 (fun w hm => (hm.ownRow (hh := 2) (o := (some b_394)) (T := 9) (enc := encStr) (xs := [s_11]) (sp := []) (by kernel_rfl) (fun e => nomatch e) encStr_len)) hg_395 (by kernel_rfl) (by kernel_rfl) (fun o_396 cap_397 sp_398 hs_399 ho_400 => jkO ?_))
            refine jo_f [(0, 0)] (by kernel_rfl) ?_
            refine jo_end (by kernel_rfl) ?_
            refine jx_inn ?_
            refine jx_then ?_
            refine jc_region ?_
            refine jo_f [(0, 0), (0, 0)] (by kernel_rfl) ?_
            refine jo_end (by kernel_rfl) ?_
            exact jx_back ((xs_6 ++ [s_11]), (w64 (i_7 + 1))) ⟨o_396, cap_397, sp_398, (xs_6 ++ [s_11]).length⟩ (Option.some.inj h).symm ⟨rfl, hs_399, ho_400⟩ [0] (by kernel_rfl) (by kernel_rfl) (by kernel_rfl)
        · replace h := ifF hc_383 h
          refine jc_exit ?_
          refine jx_thenx ?_
          refine jx_leave xs_6 (Option.some.inj h).symm (fun e_409 => ?_)
          subst e_409
          refine jx_ine ?_
          exact jx_meet ⟨xs_6, o_374, cap_375, sp_376, xs_6.length⟩ ⟨hr_380, rfl, hs_378, ho_379⟩ (by kernel_rfl) [0] (by kernel_rfl) (by kernel_rfl)
      · rintro ⟨xs_3, o_307, cap_308, sp_309, n_310⟩ ⟨h, rfl, hs_311, ho_312⟩
        replace h : impl_ChoicesText.k_4 xs_3 = some r := h
        rw [impl_ChoicesText.k_4] at h
        refine jx_then ?_
        refine jc_seq ?_
        refine jc_region ?_
        refine jo_f [(0, 0)] (by kernel_rfl) ?_
        obtain ⟨t_5, ht_313, h⟩ := bd h
        refine toO (by kernel_rfl) (p_call 0 47 #[(.slice (o_307.map fun b => ⟨b, 0, none⟩) xs_3.length cap_308), (.string (ByteArray.mk #[32]))] (by kernel_rfl) (by kernel_rfl) (fun w hm => strings_Join.calls xs_3 (ByteArray.mk #[32]) w _ o_307 xs_3.length cap_308 sp_309 rfl hs_311 ho_312 (hm.pass (N := [⟨o_307, 9, row encStr xs_3 sp_309⟩]) [0] (by kernel_rfl) (by kernel_rfl)) ht_313) ?_)
        rintro w v w' hm ⟨rfl, hm'⟩
        refine ⟨_, hm.appW (ps := [(0, ⟨o_307, 9, row encStr xs_3 sp_309⟩)]) (N := []) hm' (by kernel_rfl) (by kernel_rfl), jkO ?_⟩
        clear hm hm'
        refine jo_f [(0, 0)] (by kernel_rfl) ?_
        refine jo_end (by kernel_rfl) ?_
        refine jx_then ?_
        refine jc_ret ?_
        obtain rfl := Option.some.inj h
        exact jx_ret [] (.string t_5) [] rfl (by kernel_rfl) (by kernel_rfl) (fun w hm => ⟨rfl, hm.pick [] (by kernel_rfl) (by kernel_rfl)⟩)

/-! ### laws.eqChoice -/
noncomputable def laws_eqChoice (a0 : GChoice) (b1 : GChoice) : Option (Bool) := (if (a0.fAway != b1.fAway) = true then some false else (if (a0.fLate != b1.fLate) = true then some false else (if (a0.fOctave != b1.fOctave) = true then some false else (if (a0.fTrack != b1.fTrack) = true then some false else some true))))
set_option maxRecDepth 100000 in
theorem laws_eqChoice.calls (a0 : GChoice) (b1 : GChoice) (w : World) (r : Bool) (h : laws_eqChoice a0 b1 = some r) :
    Calls Tryd.prog 48 #[(.agg #[(.bool a0.fAway), (.int .i8 a0.fLate), (.int .i8 a0.fOctave), (.int .i8 a0.fTrack)]), (.agg #[(.bool b1.fAway), (.int .i8 b1.fLate), (.int .i8 b1.fOctave), (.int .i8 b1.fTrack)])] w fun e w' => ∃ v, e = .returned v ∧ (v = (.bool r) ∧ Mem w [] [] w') := by
  rw [laws_eqChoice] at h
  refine enter (args := [(.agg #[(.bool a0.fAway), (.int .i8 a0.fLate), (.int .i8 a0.fOctave), (.int .i8 a0.fTrack)]), (.agg #[(.bool b1.fAway), (.int .i8 b1.fLate), (.int .i8 b1.fOctave), (.int .i8 b1.fTrack)])]) Tryd.func48 rfl Tryd.ntmps48 (by kernel_rfl) (L := []) (W := []) (Mem.start w) ?_
  refine jc_seq ?_
  refine jc_region ?_
  refine toO (by kernel_rfl) (p_a 0 [0] (by kernel_rfl) (fun b => by kernel_rfl) (fun b_1 => jkO ?_))
  refine toO (by kernel_rfl) (p_a 0 [0] (by kernel_rfl) (fun b => by kernel_rfl) (fun b_2 => jkO ?_))
  refine jo_f [(0, 0)] (by kernel_rfl) ?_
  refine jo_end (by kernel_rfl) ?_
  refine jx_then ?_
  refine jc_seq ?_
  refine jc_seq ?_
  refine jc_region ?_
  refine jo_f [(0, 0), (0, 0), (0, 0), (1, 0), (0, 0)] (by kernel_rfl) ?_
  refine jo_end (by kernel_rfl) ?_
  refine jx_then ?_
  refine jc_cond (a0.fAway != b1.fAway) (by kernel_rfl) (fun hc_4 => ?_) (fun hc_4 => ?_)
  · replace h := ifT hc_4 h
    refine jc_seq ?_
    refine jc_region ?_
    refine jo_f [(0, 0)] (by kernel_rfl) ?_
    refine jo_end (by kernel_rfl) ?_
    refine jx_then ?_
    refine jc_ret ?_
    refine jx_thenr ?_
    obtain rfl := Option.some.inj h
    exact jx_ret [] (.bool false) [] rfl (by kernel_rfl) (by kernel_rfl) (fun w hm => ⟨rfl, hm.pick [] (by kernel_rfl) (by kernel_rfl)⟩)
  · replace h := ifF hc_4 h
    refine jc_skip ?_
    refine jx_then ?_
    refine jc_seq ?_
    refine jc_seq ?_
    refine jc_region ?_
    refine jo_f [(0, 0), (0, 0), (0, 0), (1, 0), (0, 0)] (by kernel_rfl) ?_
    refine jo_end (by kernel_rfl) ?_
    refine jx_then ?_
    refine jc_cond (a0.fLate != b1.fLate) (by kernel_rfl) (fun hc_6 => ?_) (fun hc_6 => ?_)
    · replace h := ifT hc_6 h
      refine jc_seq ?_
      refine jc_region ?_
      refine jo_f [(0, 0)] (by kernel_rfl) ?_
      refine jo_end (by kernel_rfl) ?_
      refine jx_then ?_
      refine jc_ret ?_
      refine jx_thenr ?_
      obtain rfl := Option.some.inj h
      exact jx_ret [] (.bool false) [] rfl (by kernel_rfl) (by kernel_rfl) (fun w hm => ⟨rfl, hm.pick [] (by kernel_rfl) (by kernel_rfl)⟩)
    · replace h := ifF hc_6 h
      refine jc_skip ?_
      refine jx_then ?_
      refine jc_seq ?_
      refine jc_seq ?_
      refine jc_region ?_
      refine jo_f [(0, 0), (0, 0), (0, 0), (1, 0), (0, 0)] (by kernel_rfl) ?_
      refine jo_end (by kernel_rfl) ?_
      refine jx_then ?_
      refine jc_cond (a0.fOctave != b1.fOctave) (by kernel_rfl) (fun hc_8 => ?_) (fun hc_8 => ?_)
      · replace h := ifT hc_8 h
        refine jc_seq ?_
        refine jc_region ?_
        refine jo_f [(0, 0)] (by kernel_rfl) ?_
        refine jo_end (by kernel_rfl) ?_
        refine jx_then ?_
        refine jc_ret ?_
        refine jx_thenr ?_
        obtain rfl := Option.some.inj h
        exact jx_ret [] (.bool false) [] rfl (by kernel_rfl) (by kernel_rfl) (fun w hm => ⟨rfl, hm.pick [] (by kernel_rfl) (by kernel_rfl)⟩)
      · replace h := ifF hc_8 h
        refine jc_skip ?_
        refine jx_then ?_
        refine jc_seq ?_
        refine jc_seq ?_
        refine jc_region ?_
        refine jo_f [(0, 0), (0, 0), (0, 0), (1, 0), (0, 0)] (by kernel_rfl) ?_
        refine jo_end (by kernel_rfl) ?_
        refine jx_then ?_
        refine jc_cond (a0.fTrack != b1.fTrack) (by kernel_rfl) (fun hc_9 => ?_) (fun hc_9 => ?_)
        · replace h := ifT hc_9 h
          refine jc_seq ?_
          refine jc_region ?_
          refine jo_f [(0, 0)] (by kernel_rfl) ?_
          refine jo_end (by kernel_rfl) ?_
          refine jx_then ?_
          refine jc_ret ?_
          refine jx_thenr ?_
          obtain rfl := Option.some.inj h
          exact jx_ret [] (.bool false) [] rfl (by kernel_rfl) (by kernel_rfl) (fun w hm => ⟨rfl, hm.pick [] (by kernel_rfl) (by kernel_rfl)⟩)
        · replace h := ifF hc_9 h
          refine jc_skip ?_
          refine jx_then ?_
          refine jc_seq ?_
          refine jc_region ?_
          refine jo_f [(0, 0)] (by kernel_rfl) ?_
          refine jo_end (by kernel_rfl) ?_
          refine jx_then ?_
          refine jc_ret ?_
          obtain rfl := Option.some.inj h
          exact jx_ret [] (.bool true) [] rfl (by kernel_rfl) (by kernel_rfl) (fun w hm => ⟨rfl, hm.pick [] (by kernel_rfl) (by kernel_rfl)⟩)

/-! ### laws.eqChoiceS -/
noncomputable def laws_eqChoiceS.k_1 : Option (Bool) := some true
noncomputable def laws_eqChoiceS.l_3 (a0 : List GChoice) (b1 : List GChoice) : Int → Option ((Int) ⊕ (Bool ⊕ Unit))
  | i_2 => (if (decide (i_2 < (a0.length : Int))) = true then (ix a0 i_2).bind fun x_5 => (ix b1 i_2).bind fun x_6 => (laws_eqChoice x_5 x_6).bind fun t_7 => (if (!t_7) = true then some (.inr (.inl false)) else some (.inl (w64 (i_2 + 1)))) else some (.inr (.inr ())))
noncomputable def laws_eqChoiceS (a0 : List GChoice) (b1 : List GChoice) : Option (Bool) := (if ((a0.length : Int) != (b1.length : Int)) = true then some false else (loop (laws_eqChoiceS.l_3 a0 b1) 0).bind fun t_4 => match t_4 with | .inl p => some p | .inr p => laws_eqChoiceS.k_1)
set_option maxRecDepth 100000 in
theorem laws_eqChoiceS.calls (a0 : List GChoice) (b1 : List GChoice) (w : World) (r : Bool) (a0_a : Option Addr) (a0_an : Nat) (a0_c : Nat) (a0_h : Rw w a0_a 4 encGChoice a0) (a0_hn : a0.length = a0_an) (b1_a : Option Addr) (b1_an : Nat) (b1_c : Nat) (b1_h : Rw w b1_a 4 encGChoice b1) (b1_hn : b1.length = b1_an) (h : laws_eqChoiceS a0 b1 = some r) :
    Calls Tryd.prog 17 #[(.slice a0_a a0_an a0_c), (.slice b1_a b1_an b1_c)] w fun e w' => ∃ v, e = .returned v ∧ (v = (.bool r) ∧ Mem w [] [] w') := by
  subst a0_hn b1_hn
  rw [laws_eqChoiceS] at h
  refine enter (args := [(.slice a0_a a0.length a0_c), (.slice b1_a b1.length b1_c)]) Tryd.func17 rfl Tryd.ntmps17 (by kernel_rfl) (L := []) (W := []) (Mem.start w) ?_
  refine jc_seq ?_
  refine jc_region ?_
  refine jo_f [(0, 0)] (by kernel_rfl) ?_
  refine jo_end (by kernel_rfl) ?_
  refine jx_then ?_
  refine jc_seq ?_
  refine jc_seq ?_
  refine jc_region ?_
  refine jo_f [(0, 0), (0, 0), (0, 0), (0, 0), (0, 0)] (by kernel_rfl) ?_
  refine jo_end (by kernel_rfl) ?_
  refine jx_then ?_
  refine jc_cond ((a0.length : Int) != (b1.length : Int)) (by kernel_rfl) (fun hc_2 => ?_) (fun hc_2 => ?_)
  · replace h := ifT hc_2 h
    refine jc_seq ?_
    refine jc_region ?_
    refine jo_f [(0, 0)] (by kernel_rfl) ?_
    refine jo_end (by kernel_rfl) ?_
    refine jx_then ?_
    refine jc_ret ?_
    refine jx_thenr ?_
    obtain rfl := Option.some.inj h
    exact jx_ret [] (.bool false) [] rfl (by kernel_rfl) (by kernel_rfl) (fun w hm => ⟨rfl, hm.pick [] (by kernel_rfl) (by kernel_rfl)⟩)
  · replace h := ifF hc_2 h
    refine jc_skip ?_
    refine jx_then ?_
    refine jc_seq ?_
    refine jc_seq ?_
    refine jc_region ?_
    refine jo_f [(0, 0)] (by kernel_rfl) ?_
    refine jo_end (by kernel_rfl) ?_
    refine jx_then ?_
    refine jc_meet (fun (_ : Unit) => laws_eqChoiceS.k_1 = some r) (fun (_ : Unit) => [(4, [], (.bool false))]) (fun (_ : Unit) => []) ?_ ?_
    · refine jc_block ?_
      obtain ⟨t_4, ht_48, hr_38⟩ := bd h
      refine jc_loop (fun (s : Int) (x : Unit) => match s, x with | i_2, _ => True) (fun (s : Int) (x : Unit) => match s, x with | i_2, _ => [(0, [], (.slice a0_a a0.length a0_c)), (1, [], (.slice b1_a b1.length b1_c)), (4, [], (.bool false)), (5, [], (.int .i64 i_2))]) (fun (s : Int) (x : Unit) => match s, x with | i_2, _ => []) ht_48 () trivial (by kernel_rfl) [] (by kernel_rfl) (by kernel_rfl) ?_
      rintro i_2 _ y_39 _ h
      rw [laws_eqChoiceS.l_3] at h
      refine jc_seq ?_
      refine jc_seq ?_
      refine jc_region ?_
      refine jo_f [(0, 0), (0, 0), (0, 0), (0, 0)] (by kernel_rfl) ?_
      refine jo_end (by kernel_rfl) ?_
      refine jx_then ?_
      refine jc_cond (decide (i_2 < (a0.length : Int))) (by kernel_rfl) (fun hc_41 => ?_) (fun hc_41 => ?_)
      · replace h := ifT hc_41 h
        refine jc_skip ?_
        refine jx_then ?_
        refine jc_seq ?_
        refine jc_block ?_
        refine jc_seq ?_
        refine jc_draw [] 10 (by kernel_rfl) (by kernel_rfl) ?_
        refine jd_f [⟨0, 0, 0⟩, ⟨1, 0, 0⟩, ⟨4, 0, 0⟩, ⟨5, 0, 0⟩] 6 (by kernel_rfl) (by kernel_rfl) (fun w h => h.pick [] (by kernel_rfl) (by kernel_rfl)) (by kernel_rfl) (by kernel_rfl) ?_
        obtain ⟨x_5, hx_42, h⟩ := bd h
        refine jd_v 2 0 (by kernel_rfl) (fun w h => h.pick [] (by kernel_rfl) (by kernel_rfl)) (by kernel_rfl) (by kernel_rfl) _ (fun w hm => idx_run (a := a0_a) (len := a0.length) (s := 4) (j := i_2) (by kernel_rfl) (ix_some hx_42).1 (ltn hx_42 rfl) (a0_h.sp hx_42)) ?_
        refine jd_v 3 0 (by kernel_rfl) (fun w h => h.pick [] (by kernel_rfl) (by kernel_rfl)) (by kernel_rfl) (by kernel_rfl) _ (fun w hm => ld_run (b := aB a0_a) (off := (aO a0_a + i_2.toNat * 4)) (s := 4) (agg := true) (vs := (encGChoice x_5)) (by kernel_rfl) (by kernel_rfl) (.inl rfl) ((hm.exRow a0_h List.not_mem_nil).at hx_42)) ?_
        obtain ⟨x_6, hx_43, h⟩ := bd h
        refine jd_v 6 0 (by kernel_rfl) (fun w h => h.pick [] (by kernel_rfl) (by kernel_rfl)) (by kernel_rfl) (by kernel_rfl) _ (fun w hm => idx_run (a := b1_a) (len := b1.length) (s := 4) (j := i_2) (by kernel_rfl) (ix_some hx_43).1 (ltn hx_43 rfl) (b1_h.sp hx_43)) ?_
        refine jd_v 7 0 (by kernel_rfl) (fun w h => h.pick [] (by kernel_rfl) (by kernel_rfl)) (by kernel_rfl) (by kernel_rfl) _ (fun w hm => ld_run (b := aB b1_a) (off := (aO b1_a + i_2.toNat * 4)) (s := 4) (agg := true) (vs := (encGChoice x_6)) (by kernel_rfl) (by kernel_rfl) (.inl rfl) ((hm.exRow b1_h List.not_mem_nil).at hx_43)) ?_
        obtain ⟨t_7, ht_44, h⟩ := bd h
        refine toD 8 (by kernel_rfl) (p_call 0 48 #[(.agg #[(.bool x_5.fAway), (.int .i8 x_5.fLate), (.int .i8 x_5.fOctave), (.int .i8 x_5.fTrack)]), (.agg #[(.bool x_6.fAway), (.int .i8 x_6.fLate), (.int .i8 x_6.fOctave), (.int .i8 x_6.fTrack)])] (by kernel_rfl) (by kernel_rfl) (fun w hm => laws_eqChoice.calls x_5 x_6 w _ ht_44) ?_)
        rintro w v w' hm ⟨rfl, hm'⟩
        refine ⟨_, hm.app hm', jkD (fun w h => h.pick [] (by kernel_rfl) (by kernel_rfl)) ?_⟩
        clear hm hm'
        refine jd_f [⟨9, 0, 0⟩] 0 (by kernel_rfl) (by kernel_rfl) (fun w h => h.pick [] (by kernel_rfl) (by kernel_rfl)) (by kernel_rfl) (by kernel_rfl) ?_
        refine jd_end (by kernel_rfl) ?_
        refine jx_then ?_
        refine jc_cond (!t_7) (by kernel_rfl) (fun hc_45 => ?_) (fun hc_45 => ?_)
        · replace h := ifT hc_45 h
          refine jc_seq ?_
          refine jc_region ?_
          refine jo_f [(0, 0)] (by kernel_rfl) ?_
          refine jo_end (by kernel_rfl) ?_
          refine jx_then ?_
          refine jc_ret ?_
          refine jx_inr ?_
          refine jx_thenr ?_
          refine jx_leaver (.inl false) (Option.some.inj h).symm (fun e_46 => ?_)
          subst e_46
          refine jx_inr ?_
          refine jx_thenr ?_
          refine jx_thenr ?_
          obtain rfl := Option.some.inj hr_38
          exact jx_ret [] (.bool false) [] rfl (by kernel_rfl) (by kernel_rfl) (fun w hm => ⟨rfl, hm.pick [] (by kernel_rfl) (by kernel_rfl)⟩)
        · replace h := ifF hc_45 h
          refine jc_skip ?_
          refine jx_inn ?_
          refine jx_then ?_
          refine jc_region ?_
          refine jo_f [(0, 0), (0, 0), (0, 0)] (by kernel_rfl) ?_
          refine jo_end (by kernel_rfl) ?_
          exact jx_back (w64 (i_2 + 1)) () (Option.some.inj h).symm trivial [] (by kernel_rfl) (by kernel_rfl) (by kernel_rfl)
      · replace h := ifF hc_41 h
        refine jc_exit ?_
        refine jx_thenx ?_
        refine jx_leave (.inr ()) (Option.some.inj h).symm (fun e_47 => ?_)
        subst e_47
        refine jx_ine ?_
        exact jx_meet () hr_38 (by kernel_rfl) [] (by kernel_rfl) (by kernel_rfl)
    · rintro _ h
      replace h : laws_eqChoiceS.k_1 = some r := h
      rw [laws_eqChoiceS.k_1] at h
      refine jx_then ?_
      refine jc_seq ?_
      refine jc_region ?_
      refine jo_f [(0, 0)] (by kernel_rfl) ?_
      refine jo_end (by kernel_rfl) ?_
      refine jx_then ?_
      refine jc_ret ?_
      obtain rfl := Option.some.inj h
      exact jx_ret [] (.bool true) [] rfl (by kernel_rfl) (by kernel_rfl) (fun w hm => ⟨rfl, hm.pick [] (by kernel_rfl) (by kernel_rfl)⟩)
end Go.Proofs.YtpmndjejabjniaaDoor
