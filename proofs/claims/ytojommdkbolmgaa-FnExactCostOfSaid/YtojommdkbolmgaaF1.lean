/- Each function of the program that the laws reach: a plain function, and that the call comes to its answer if the plain function has one. Printed by a program. -/
import Derived.Test.YtojommdkbolmgaaF0
namespace Go.Proofs.Ytojommdkbolmgaa
open Eng
set_option linter.unusedVariables false

/-! ### spec.CostOf -/
noncomputable def spec_CostOf.k_4 (i_3 : Int) : Option (Int × Int) := some (i_3, 0)
noncomputable def spec_CostOf.l_7 (c0 : GCosts) (list1 : List GChoice) : (Int × Int) → Option ((Int × Int) ⊕ (Int))
  | (i_5, i_6) => (if (decide (i_6 < (list1.length : Int))) = true then (ix list1 i_6).bind fun x_9 => (spec_l07Cost c0 x_9).bind fun t_10 => some (.inl ((w64 (i_5 + t_10)), (w64 (i_6 + 1)))) else some (.inr i_5))
noncomputable def spec_CostOf.k_2 (c0 : GCosts) (list1 : List GChoice) (q_1 : Bool) : Option (Int × Int) := (if q_1 = true then some (0, 1) else (if (decide ((list1.length : Int) > 120)) = true then some (0, 3) else (loop (spec_CostOf.l_7 c0 list1) (0, 0)).bind fun t_8 => spec_CostOf.k_4 t_8))
noncomputable def spec_CostOf (c0 : GCosts) (list1 : List GChoice) : Option (Int × Int) := (spec_l07Costs c0).bind fun t_11 => (if (!t_11) = true then spec_CostOf.k_2 c0 list1 true else (spec_l07Choices list1).bind fun t_12 => spec_CostOf.k_2 c0 list1 (!t_12))
set_option maxRecDepth 100000 in
theorem spec_CostOf.calls (c0 : GCosts) (list1 : List GChoice) (w : World) (r : Int × Int) (list1_a : Option Addr) (list1_an : Nat) (list1_c : Nat) (list1_h : Rw w list1_a 4 encGChoice list1) (list1_hn : list1.length = list1_an) (h : spec_CostOf c0 list1 = some r) :
    Calls Try.prog 28 #[(.agg #[(.int .i16 c0.fAway), (.int .i16 c0.fOctave), (.int .i16 c0.fStep)]), (.slice list1_a list1_an list1_c)] w fun e w' => ∃ v, e = .returned v ∧ (v = .tuple #[(.int .i64 r.1), (.int .i64 r.2)] ∧ Mem w [] [] w') := by
  subst list1_hn
  rw [spec_CostOf] at h
  refine enter (args := [(.agg #[(.int .i16 c0.fAway), (.int .i16 c0.fOctave), (.int .i16 c0.fStep)]), (.slice list1_a list1.length list1_c)]) Try.func28 rfl Try.ntmps28 (by kernel_rfl) (L := []) (W := []) (Mem.start w) ?_
  refine jc_seq ?_
  refine jc_region ?_
  refine toO (by kernel_rfl) (p_a 0 [0] (by kernel_rfl) (fun b => by kernel_rfl) (fun b_1 => jkO ?_))
  refine jo_f [(0, 0), (0, 0)] (by kernel_rfl) ?_
  refine jo_end (by kernel_rfl) ?_
  refine jx_then ?_
  refine jc_seq ?_
  refine jc_seq ?_
  refine jc_meet (fun (j : Bool) => match j with | q_1 => spec_CostOf.k_2 c0 list1 q_1 = some r) (fun (j : Bool) => match j with | q_1 => [(1, [], (.slice list1_a list1.length list1_c)), (2, [], (.pointer (some ⟨b_1, 0, none⟩))), (4, [], (.int .i64 0)), (5, [], (.int .i64 0)), (15, [], (.bool q_1))]) (fun (j : Bool) => match j with | q_1 => [⟨some b_1, 32, [(.int .i16 c0.fAway), (.int .i16 c0.fOctave), (.int .i16 c0.fStep)]⟩]) ?_ ?_
  · refine jc_region ?_
    refine jo_f [(0, 0)] (by kernel_rfl) ?_
    obtain ⟨t_11, ht_79, h⟩ := bd h
    refine toO (by kernel_rfl) (p_call 0 34 #[(.agg #[(.int .i16 c0.fAway), (.int .i16 c0.fOctave), (.int .i16 c0.fStep)])] (by kernel_rfl) (by kernel_rfl) (fun w hm => spec_l07Costs.calls c0 w _ ht_79) ?_)
    rintro w v w' hm ⟨rfl, hm'⟩
    refine ⟨_, hm.app hm', jkO ?_⟩
    clear hm hm'
    refine jo_f [(0, 0), (0, 0), (0, 1)] (by kernel_rfl) ?_
    refine jo_split 11 (!t_11) (by kernel_rfl) (fun hc_80 => ?_) (fun hc_80 => ?_)
    · replace h := ifT hc_80 h
      refine jo_f [(0, 3), (0, 3), (0, 4)] (by kernel_rfl) ?_
      refine jo_end (by kernel_rfl) ?_
      exact jx_meet true h (by kernel_rfl) [0] (by kernel_rfl) (by kernel_rfl)
    · replace h := ifF hc_80 h
      obtain ⟨t_12, ht_81, h⟩ := bd h
      refine toO (by kernel_rfl) (p_call 2 47 #[(.slice list1_a list1.length list1_c)] (by kernel_rfl) (by kernel_rfl) (fun w hm => spec_l07Choices.calls list1 w _ list1_a list1.length list1_c (hm.exRow list1_h List.not_mem_nil) rfl ht_81) ?_)
      rintro w v w' hm ⟨rfl, hm'⟩
      refine ⟨_, hm.app hm', jkO ?_⟩
      clear hm hm'
      refine jo_f [(0, 2), (0, 5)] (by kernel_rfl) ?_
      refine jo_end (by kernel_rfl) ?_
      exact jx_meet (!t_12) h (by kernel_rfl) [0] (by kernel_rfl) (by kernel_rfl)
  · rintro q_1 h
    replace h : spec_CostOf.k_2 c0 list1 q_1 = some r := h
    rw [spec_CostOf.k_2] at h
    refine jx_then ?_
    refine jc_cond q_1 (by kernel_rfl) (fun hc_12 => ?_) (fun hc_12 => ?_)
    · replace h := ifT hc_12 h
      refine jc_seq ?_
      refine jc_region ?_
      refine jo_f [(0, 0), (0, 0)] (by kernel_rfl) ?_
      refine jo_end (by kernel_rfl) ?_
      refine jx_then ?_
      refine jc_ret ?_
      refine jx_thenr ?_
      obtain rfl := Option.some.inj h
      exact jx_ret [] (.tuple #[(.int .i64 0), (.int .i64 1)]) [] rfl (by kernel_rfl) (by kernel_rfl) (fun w hm => ⟨rfl, hm.pick [] (by kernel_rfl) (by kernel_rfl)⟩)
    · replace h := ifF hc_12 h
      refine jc_skip ?_
      refine jx_then ?_
      refine jc_seq ?_
      refine jc_seq ?_
      refine jc_region ?_
      refine jo_f [(0, 0), (0, 0), (0, 0)] (by kernel_rfl) ?_
      refine jo_end (by kernel_rfl) ?_
      refine jx_then ?_
      refine jc_cond (decide ((list1.length : Int) > 120)) (by kernel_rfl) (fun hc_14 => ?_) (fun hc_14 => ?_)
      · replace h := ifT hc_14 h
        refine jc_seq ?_
        refine jc_region ?_
        refine jo_f [(0, 0), (0, 0)] (by kernel_rfl) ?_
        refine jo_end (by kernel_rfl) ?_
        refine jx_then ?_
        refine jc_ret ?_
        refine jx_thenr ?_
        obtain rfl := Option.some.inj h
        exact jx_ret [] (.tuple #[(.int .i64 0), (.int .i64 3)]) [] rfl (by kernel_rfl) (by kernel_rfl) (fun w hm => ⟨rfl, hm.pick [] (by kernel_rfl) (by kernel_rfl)⟩)
      · replace h := ifF hc_14 h
        refine jc_skip ?_
        refine jx_then ?_
        refine jc_seq ?_
        refine jc_region ?_
        refine jo_f [(0, 0)] (by kernel_rfl) ?_
        refine jo_end (by kernel_rfl) ?_
        refine jx_then ?_
        refine jc_seq ?_
        refine jc_seq ?_
        refine jc_region ?_
        refine jo_f [(0, 0)] (by kernel_rfl) ?_
        refine jo_end (by kernel_rfl) ?_
        refine jx_then ?_
        refine jc_meet (fun (j : Int) => match j with | i_3 => spec_CostOf.k_4 i_3 = some r) (fun (j : Int) => match j with | i_3 => [(4, [], (.int .i64 0)), (5, [], (.int .i64 0)), (6, [], (.int .i64 i_3))]) (fun (j : Int) => match j with | i_3 => [⟨some b_1, 32, [(.int .i16 c0.fAway), (.int .i16 c0.fOctave), (.int .i16 c0.fStep)]⟩]) ?_ ?_
        · refine jc_block ?_
          obtain ⟨t_8, ht_78, hr_71⟩ := bd h
          refine jc_loop (fun (s : Int × Int) (x : Unit) => match s, x with | ⟨i_5, i_6⟩, _ => True) (fun (s : Int × Int) (x : Unit) => match s, x with | ⟨i_5, i_6⟩, _ => [(1, [], (.slice list1_a list1.length list1_c)), (2, [], (.pointer (some ⟨b_1, 0, none⟩))), (4, [], (.int .i64 0)), (5, [], (.int .i64 0)), (6, [], (.int .i64 i_5)), (7, [], (.int .i64 i_6))]) (fun (s : Int × Int) (x : Unit) => match s, x with | ⟨i_5, i_6⟩, _ => [⟨some b_1, 32, [(.int .i16 c0.fAway), (.int .i16 c0.fOctave), (.int .i16 c0.fStep)]⟩]) ht_78 () trivial (by kernel_rfl) [0] (by kernel_rfl) (by kernel_rfl) ?_
          rintro ⟨i_5, i_6⟩ _ y_72 _ h
          rw [spec_CostOf.l_7] at h
          refine jc_seq ?_
          refine jc_seq ?_
          refine jc_region ?_
          refine jo_f [(0, 0), (0, 0), (0, 0), (0, 0)] (by kernel_rfl) ?_
          refine jo_end (by kernel_rfl) ?_
          refine jx_then ?_
          refine jc_cond (decide (i_6 < (list1.length : Int))) (by kernel_rfl) (fun hc_74 => ?_) (fun hc_74 => ?_)
          · replace h := ifT hc_74 h
            refine jc_skip ?_
            refine jx_then ?_
            refine jc_seq ?_
            refine jc_block ?_
            refine jc_draw [⟨some b_1, 32, [(.int .i16 c0.fAway), (.int .i16 c0.fOctave), (.int .i16 c0.fStep)]⟩] 9 (by kernel_rfl) (by kernel_rfl) ?_
            refine jd_f [⟨0, 0, 0⟩, ⟨1, 0, 0⟩, ⟨2, 0, 0⟩, ⟨3, 0, 0⟩] 5 (by kernel_rfl) (by kernel_rfl) (fun w h => h.pick [0] (by kernel_rfl) (by kernel_rfl)) (by kernel_rfl) (by kernel_rfl) ?_
            obtain ⟨x_9, hx_75, h⟩ := bd h
            refine jd_v 4 0 (by kernel_rfl) (fun w h => h.pick [0] (by kernel_rfl) (by kernel_rfl)) (by kernel_rfl) (by kernel_rfl) _ (fun w hm => idx_run (a := list1_a) (len := list1.length) (s := 4) (j := i_6) (by kernel_rfl) (ix_some hx_75).1 (ltn hx_75 rfl) (list1_h.sp hx_75)) ?_
            refine jd_v 5 0 (by kernel_rfl) (fun w h => h.pick [0] (by kernel_rfl) (by kernel_rfl)) (by kernel_rfl) (by kernel_rfl) _ (fun w hm => ld_run (b := aB list1_a) (off := (aO list1_a + i_6.toNat * 4)) (s := 4) (agg := true) (vs := (encGChoice x_9)) (by kernel_rfl) (by kernel_rfl) (.inl rfl) ((hm.exRow list1_h List.not_mem_nil).at hx_75)) ?_
            obtain ⟨t_10, ht_76, h⟩ := bd h
            refine toD 6 (by kernel_rfl) (p_call 0 48 #[(.agg #[(.int .i16 c0.fAway), (.int .i16 c0.fOctave), (.int .i16 c0.fStep)]), (.agg #[(.bool x_9.fAway), (.int .i8 x_9.fLate), (.int .i8 x_9.fOctave), (.int .i8 x_9.fTrack)])] (by kernel_rfl) (by kernel_rfl) (fun w hm => spec_l07Cost.calls c0 x_9 w _ ht_76) ?_)
            rintro w v w' hm ⟨rfl, hm'⟩
            refine ⟨_, hm.app hm', jkD (fun w h => h.pick [0] (by kernel_rfl) (by kernel_rfl)) ?_⟩
            clear hm hm'
            refine jd_f [⟨7, 0, 0⟩, ⟨8, 0, 0⟩] 0 (by kernel_rfl) (by kernel_rfl) (fun w h => h.pick [0] (by kernel_rfl) (by kernel_rfl)) (by kernel_rfl) (by kernel_rfl) ?_
            refine jd_end (by kernel_rfl) ?_
            refine jx_inn ?_
            refine jx_then ?_
            refine jc_region ?_
            refine jo_f [(0, 0), (0, 0), (0, 0)] (by kernel_rfl) ?_
            refine jo_end (by kernel_rfl) ?_
            exact jx_back ((w64 (i_5 + t_10)), (w64 (i_6 + 1))) () (Option.some.inj h).symm trivial [0] (by kernel_rfl) (by kernel_rfl) (by kernel_rfl)
          · replace h := ifF hc_74 h
            refine jc_exit ?_
            refine jx_thenx ?_
            refine jx_leave i_5 (Option.some.inj h).symm (fun e_77 => ?_)
            subst e_77
            refine jx_ine ?_
            exact jx_meet i_5 hr_71 (by kernel_rfl) [0] (by kernel_rfl) (by kernel_rfl)
        · rintro i_3 h
          replace h : spec_CostOf.k_4 i_3 = some r := h
          rw [spec_CostOf.k_4] at h
          refine jx_then ?_
          refine jc_seq ?_
          refine jc_region ?_
          refine jo_f [(0, 0), (0, 0), (0, 0)] (by kernel_rfl) ?_
          refine jo_end (by kernel_rfl) ?_
          refine jx_then ?_
          refine jc_ret ?_
          obtain rfl := Option.some.inj h
          exact jx_ret [] (.tuple #[(.int .i64 i_3), (.int .i64 0)]) [] rfl (by kernel_rfl) (by kernel_rfl) (fun w hm => ⟨rfl, hm.pick [] (by kernel_rfl) (by kernel_rfl)⟩)

/-! ### impl.unless -/
noncomputable def impl_unless (is0 : Bool) (code1 : Int) : Option (Int) := (if is0 = true then some 0 else some code1)
set_option maxRecDepth 100000 in
theorem impl_unless.calls (is0 : Bool) (code1 : Int) (w : World) (r : Int) (h : impl_unless is0 code1 = some r) :
    Calls Try.prog 50 #[(.bool is0), (.int .i64 code1)] w fun e w' => ∃ v, e = .returned v ∧ (v = (.int .i64 r) ∧ Mem w [] [] w') := by
  rw [impl_unless] at h
  refine enter (args := [(.bool is0), (.int .i64 code1)]) Try.func50 rfl Try.ntmps50 (by kernel_rfl) (L := []) (W := []) (Mem.start w) ?_
  refine jc_seq ?_
  refine jc_region ?_
  refine jo_f [(0, 0)] (by kernel_rfl) ?_
  refine jo_end (by kernel_rfl) ?_
  refine jx_then ?_
  refine jc_seq ?_
  refine jc_seq ?_
  refine jc_region ?_
  refine jo_f [(0, 0)] (by kernel_rfl) ?_
  refine jo_end (by kernel_rfl) ?_
  refine jx_then ?_
  refine jc_cond is0 (by kernel_rfl) (fun hc_2 => ?_) (fun hc_2 => ?_)
  · replace h := ifT hc_2 h
    refine jc_seq ?_
    refine jc_region ?_
    refine jo_f [(0, 0)] (by kernel_rfl) ?_
    refine jo_end (by kernel_rfl) ?_
    refine jx_then ?_
    refine jc_ret ?_
    refine jx_thenr ?_
    obtain rfl := Option.some.inj h
    exact jx_ret [] (.int .i64 0) [] rfl (by kernel_rfl) (by kernel_rfl) (fun w hm => ⟨rfl, hm.pick [] (by kernel_rfl) (by kernel_rfl)⟩)
  · replace h := ifF hc_2 h
    refine jc_skip ?_
    refine jx_then ?_
    refine jc_seq ?_
    refine jc_region ?_
    refine jo_f [(0, 0), (0, 0)] (by kernel_rfl) ?_
    refine jo_end (by kernel_rfl) ?_
    refine jx_then ?_
    refine jc_ret ?_
    obtain rfl := Option.some.inj h
    exact jx_ret [] (.int .i64 code1) [] rfl (by kernel_rfl) (by kernel_rfl) (fun w hm => ⟨rfl, hm.pick [] (by kernel_rfl) (by kernel_rfl)⟩)

/-! ### impl.choicesCode$1 -/
noncomputable def impl_choicesCode_1 (x0 : GChoice) : Option (Bool) := (impl_ValidChoice x0).bind fun t_1 => some (!t_1)
set_option maxRecDepth 100000 in
theorem impl_choicesCode_1.calls (x0 : GChoice) (w : World) (r : Bool) (h : impl_choicesCode_1 x0 = some r) :
    Calls Try.prog 59 #[(.agg #[(.bool x0.fAway), (.int .i8 x0.fLate), (.int .i8 x0.fOctave), (.int .i8 x0.fTrack)])] w fun e w' => ∃ v, e = .returned v ∧ (v = (.bool r) ∧ Mem w [] [] w') := by
  rw [impl_choicesCode_1] at h
  refine enter (args := [(.agg #[(.bool x0.fAway), (.int .i8 x0.fLate), (.int .i8 x0.fOctave), (.int .i8 x0.fTrack)])]) Try.func59 rfl Try.ntmps59 (by kernel_rfl) (L := []) (W := []) (Mem.start w) ?_
  refine jc_seq ?_
  refine jc_region ?_
  refine toO (by kernel_rfl) (p_a 0 [0] (by kernel_rfl) (fun b => by kernel_rfl) (fun b_1 => jkO ?_))
  refine jo_f [(0, 0)] (by kernel_rfl) ?_
  refine jo_end (by kernel_rfl) ?_
  refine jx_then ?_
  refine jc_seq ?_
  refine jc_region ?_
  refine jo_f [(0, 0)] (by kernel_rfl) ?_
  obtain ⟨t_1, ht_2, h⟩ := bd h
  refine toO (by kernel_rfl) (p_call 0 17 #[(.agg #[(.bool x0.fAway), (.int .i8 x0.fLate), (.int .i8 x0.fOctave), (.int .i8 x0.fTrack)])] (by kernel_rfl) (by kernel_rfl) (fun w hm => impl_ValidChoice.calls x0 w _ ht_2) ?_)
  rintro w v w' hm ⟨rfl, hm'⟩
  refine ⟨_, hm.app hm', jkO ?_⟩
  clear hm hm'
  refine jo_f [(0, 0), (0, 0)] (by kernel_rfl) ?_
  refine jo_end (by kernel_rfl) ?_
  refine jx_then ?_
  refine jc_ret ?_
  obtain rfl := Option.some.inj h
  exact jx_ret [] (.bool (!t_1)) [] rfl (by kernel_rfl) (by kernel_rfl) (fun w hm => ⟨rfl, hm.pick [] (by kernel_rfl) (by kernel_rfl)⟩)

/-! ### slices.IndexFunc[[]impl.Choice,impl.Choice] -/
noncomputable def slices_IndexFunc_Choice_at_impl_choicesCode_1.k_1 : Option (Int) := some (-1)
noncomputable def slices_IndexFunc_Choice_at_impl_choicesCode_1.l_3 (s0 : List GChoice) : Int → Option ((Int) ⊕ (Int ⊕ Unit))
  | i_2 => (if (decide (i_2 < (s0.length : Int))) = true then (ix s0 i_2).bind fun x_5 => (impl_choicesCode_1 x_5).bind fun t_6 => (if t_6 = true then some (.inr (.inl i_2)) else some (.inl (w64 (i_2 + 1)))) else some (.inr (.inr ())))
noncomputable def slices_IndexFunc_Choice_at_impl_choicesCode_1 (s0 : List GChoice) : Option (Int) := (loop (slices_IndexFunc_Choice_at_impl_choicesCode_1.l_3 s0) 0).bind fun t_4 => match t_4 with | .inl p => some p | .inr p => slices_IndexFunc_Choice_at_impl_choicesCode_1.k_1
set_option maxRecDepth 100000 in
theorem slices_IndexFunc_Choice_at_impl_choicesCode_1.calls (s0 : List GChoice) (w : World) (r : Int) (s0_a : Option Addr) (s0_an : Nat) (s0_c : Nat) (s0_h : Rw w s0_a 4 encGChoice s0) (s0_hn : s0.length = s0_an) (h : slices_IndexFunc_Choice_at_impl_choicesCode_1 s0 = some r) :
    Calls Try.prog 61 #[(.slice s0_a s0_an s0_c), (.func (.func 59) #[] #[])] w fun e w' => ∃ v, e = .returned v ∧ (v = (.int .i64 r) ∧ Mem w [] [] w') := by
  subst s0_hn
  rw [slices_IndexFunc_Choice_at_impl_choicesCode_1] at h
  refine enter (args := [(.slice s0_a s0.length s0_c), (.func (.func 59) #[] #[])]) Try.func61 rfl Try.ntmps61 (by kernel_rfl) (L := []) (W := []) (Mem.start w) ?_
  refine jc_seq ?_
  refine jc_region ?_
  refine jo_f [(0, 0)] (by kernel_rfl) ?_
  refine jo_end (by kernel_rfl) ?_
  refine jx_then ?_
  refine jc_seq ?_
  refine jc_seq ?_
  refine jc_region ?_
  refine jo_f [(0, 0), (0, 0), (0, 0)] (by kernel_rfl) ?_
  refine jo_end (by kernel_rfl) ?_
  refine jx_then ?_
  refine jc_meet (fun (_ : Unit) => slices_IndexFunc_Choice_at_impl_choicesCode_1.k_1 = some r) (fun (_ : Unit) => [(4, [], (.int .i64 0))]) (fun (_ : Unit) => []) ?_ ?_
  · refine jc_block ?_
    obtain ⟨t_4, ht_40, hr_31⟩ := bd h
    refine jc_loop (fun (s : Int) (x : Unit) => match s, x with | i_2, _ => True) (fun (s : Int) (x : Unit) => match s, x with | i_2, _ => [(0, [], (.slice s0_a s0.length s0_c)), (1, [], (.func (.func 59) #[] #[])), (4, [], (.int .i64 0)), (7, [], (.int .i64 (s0.length : Int))), (8, [], (.int .i64 i_2))]) (fun (s : Int) (x : Unit) => match s, x with | i_2, _ => []) ht_40 () trivial (by kernel_rfl) [] (by kernel_rfl) (by kernel_rfl) ?_
    rintro i_2 _ y_32 _ h
    rw [slices_IndexFunc_Choice_at_impl_choicesCode_1.l_3] at h
    refine jc_seq ?_
    refine jc_region ?_
    refine jo_f [(0, 0)] (by kernel_rfl) ?_
    refine jo_end (by kernel_rfl) ?_
    refine jx_then ?_
    refine jc_seq ?_
    refine jc_cond (decide (i_2 < (s0.length : Int))) (by kernel_rfl) (fun hc_34 => ?_) (fun hc_34 => ?_)
    · replace h := ifT hc_34 h
      refine jc_skip ?_
      refine jx_then ?_
      refine jc_seq ?_
      refine jc_block ?_
      refine jc_seq ?_
      refine jc_region ?_
      refine jo_f [(0, 0), (0, 0)] (by kernel_rfl) ?_
      refine jo_end (by kernel_rfl) ?_
      refine jx_then ?_
      refine jc_seq ?_
      refine jc_region ?_
      refine jo_f [(0, 0), (0, 0), (0, 0)] (by kernel_rfl) ?_
      obtain ⟨x_5, hx_35, h⟩ := bd h
      refine toO (by kernel_rfl) (p_idx 0 s0_a s0.length i_2 4 (by kernel_rfl) (by kernel_rfl) (ix_some hx_35).1 (ltn hx_35 rfl) (s0_h.sp hx_35) (jkO ?_))
      refine toO (by kernel_rfl) (p_ld 0 (aB s0_a) (aO s0_a + i_2.toNat * 4) true (encGChoice x_5) (by kernel_rfl) (by kernel_rfl) (by kernel_rfl) (fun w hm => ((hm.exRow s0_h List.not_mem_nil).at hx_35)) (jkO ?_))
      obtain ⟨t_6, ht_36, h⟩ := bd h
      refine toO (by kernel_rfl) (p_call 0 59 #[(.agg #[(.bool x_5.fAway), (.int .i8 x_5.fLate), (.int .i8 x_5.fOctave), (.int .i8 x_5.fTrack)])] (by kernel_rfl) (by kernel_rfl) (fun w hm => impl_choicesCode_1.calls x_5 w _ ht_36) ?_)
      rintro w v w' hm ⟨rfl, hm'⟩
      refine ⟨_, hm.app hm', jkO ?_⟩
      clear hm hm'
      refine jo_end (by kernel_rfl) ?_
      refine jx_then ?_
      refine jc_cond t_6 (by kernel_rfl) (fun hc_37 => ?_) (fun hc_37 => ?_)
      · replace h := ifT hc_37 h
        refine jc_seq ?_
        refine jc_region ?_
        refine jo_f [(0, 0), (0, 0)] (by kernel_rfl) ?_
        refine jo_end (by kernel_rfl) ?_
        refine jx_then ?_
        refine jc_ret ?_
        refine jx_inr ?_
        refine jx_thenr ?_
        refine jx_leaver (.inl i_2) (Option.some.inj h).symm (fun e_38 => ?_)
        subst e_38
        refine jx_inr ?_
        refine jx_thenr ?_
        refine jx_thenr ?_
        obtain rfl := Option.some.inj hr_31
        exact jx_ret [] (.int .i64 i_2) [] rfl (by kernel_rfl) (by kernel_rfl) (fun w hm => ⟨rfl, hm.pick [] (by kernel_rfl) (by kernel_rfl)⟩)
      · replace h := ifF hc_37 h
        refine jc_skip ?_
        refine jx_inn ?_
        refine jx_then ?_
        refine jc_region ?_
        refine jo_f [(0, 0), (0, 0)] (by kernel_rfl) ?_
        refine jo_end (by kernel_rfl) ?_
        exact jx_back (w64 (i_2 + 1)) () (Option.some.inj h).symm trivial [] (by kernel_rfl) (by kernel_rfl) (by kernel_rfl)
    · replace h := ifF hc_34 h
      refine jc_exit ?_
      refine jx_thenx ?_
      refine jx_leave (.inr ()) (Option.some.inj h).symm (fun e_39 => ?_)
      subst e_39
      refine jx_ine ?_
      exact jx_meet () hr_31 (by kernel_rfl) [] (by kernel_rfl) (by kernel_rfl)
  · rintro _ h
    replace h : slices_IndexFunc_Choice_at_impl_choicesCode_1.k_1 = some r := h
    rw [slices_IndexFunc_Choice_at_impl_choicesCode_1.k_1] at h
    refine jx_then ?_
    refine jc_seq ?_
    refine jc_region ?_
    refine jo_f [(0, 0)] (by kernel_rfl) ?_
    refine jo_end (by kernel_rfl) ?_
    refine jx_then ?_
    refine jc_ret ?_
    obtain rfl := Option.some.inj h
    exact jx_ret [] (.int .i64 (-1)) [] rfl (by kernel_rfl) (by kernel_rfl) (fun w hm => ⟨rfl, hm.pick [] (by kernel_rfl) (by kernel_rfl)⟩)

/-! ### slices.ContainsFunc[[]impl.Choice,impl.Choice] -/
noncomputable def slices_ContainsFunc_Choice_at_impl_choicesCode_1 (s0 : List GChoice) : Option (Bool) := (slices_IndexFunc_Choice_at_impl_choicesCode_1 s0).bind fun t_1 => some (decide (t_1 ≥ 0))
set_option maxRecDepth 100000 in
theorem slices_ContainsFunc_Choice_at_impl_choicesCode_1.calls (s0 : List GChoice) (w : World) (r : Bool) (s0_a : Option Addr) (s0_an : Nat) (s0_c : Nat) (s0_h : Rw w s0_a 4 encGChoice s0) (s0_hn : s0.length = s0_an) (h : slices_ContainsFunc_Choice_at_impl_choicesCode_1 s0 = some r) :
    Calls Try.prog 58 #[(.slice s0_a s0_an s0_c), (.func (.func 59) #[] #[])] w fun e w' => ∃ v, e = .returned v ∧ (v = (.bool r) ∧ Mem w [] [] w') := by
  subst s0_hn
  rw [slices_ContainsFunc_Choice_at_impl_choicesCode_1] at h
  refine enter (args := [(.slice s0_a s0.length s0_c), (.func (.func 59) #[] #[])]) Try.func58 rfl Try.ntmps58 (by kernel_rfl) (L := []) (W := []) (Mem.start w) ?_
  refine jc_seq ?_
  refine jc_region ?_
  refine jo_f [(0, 0)] (by kernel_rfl) ?_
  refine jo_end (by kernel_rfl) ?_
  refine jx_then ?_
  refine jc_seq ?_
  refine jc_region ?_
  refine jo_f [(0, 0), (0, 0)] (by kernel_rfl) ?_
  obtain ⟨t_1, ht_1, h⟩ := bd h
  refine toO (by kernel_rfl) (p_call 0 61 #[(.slice s0_a s0.length s0_c), (.func (.func 59) #[] #[])] (by kernel_rfl) (by kernel_rfl) (fun w hm => slices_IndexFunc_Choice_at_impl_choicesCode_1.calls s0 w _ s0_a s0.length s0_c (hm.exRow s0_h List.not_mem_nil) rfl ht_1) ?_)
  rintro w v w' hm ⟨rfl, hm'⟩
  refine ⟨_, hm.app hm', jkO ?_⟩
  clear hm hm'
  refine jo_f [(0, 0), (0, 0)] (by kernel_rfl) ?_
  refine jo_end (by kernel_rfl) ?_
  refine jx_then ?_
  refine jc_ret ?_
  obtain rfl := Option.some.inj h
  exact jx_ret [] (.bool (decide (t_1 ≥ 0))) [] rfl (by kernel_rfl) (by kernel_rfl) (fun w hm => ⟨rfl, hm.pick [] (by kernel_rfl) (by kernel_rfl)⟩)

/-! ### impl.choicesCode -/
noncomputable def impl_choicesCode (list0 : List GChoice) : Option (Int) := (slices_ContainsFunc_Choice_at_impl_choicesCode_1 list0).bind fun t_1 => (impl_unless (!t_1) 1).bind fun t_2 => some t_2
set_option maxRecDepth 100000 in
theorem impl_choicesCode.calls (list0 : List GChoice) (w : World) (r : Int) (list0_a : Option Addr) (list0_an : Nat) (list0_c : Nat) (list0_h : Rw w list0_a 4 encGChoice list0) (list0_hn : list0.length = list0_an) (h : impl_choicesCode list0 = some r) :
    Calls Try.prog 51 #[(.slice list0_a list0_an list0_c)] w fun e w' => ∃ v, e = .returned v ∧ (v = (.int .i64 r) ∧ Mem w [] [] w') := by
  subst list0_hn
  rw [impl_choicesCode] at h
  refine enter (args := [(.slice list0_a list0.length list0_c)]) Try.func51 rfl Try.ntmps51 (by kernel_rfl) (L := []) (W := []) (Mem.start w) ?_
  refine jc_seq ?_
  refine jc_region ?_
  refine jo_f [(0, 0)] (by kernel_rfl) ?_
  refine jo_end (by kernel_rfl) ?_
  refine jx_then ?_
  refine jc_seq ?_
  refine jc_region ?_
  refine jo_f [(0, 0)] (by kernel_rfl) ?_
  obtain ⟨t_1, ht_1, h⟩ := bd h
  refine toO (by kernel_rfl) (p_call 0 58 #[(.slice list0_a list0.length list0_c), (.func (.func 59) #[] #[])] (by kernel_rfl) (by kernel_rfl) (fun w hm => slices_ContainsFunc_Choice_at_impl_choicesCode_1.calls list0 w _ list0_a list0.length list0_c (hm.exRow list0_h List.not_mem_nil) rfl ht_1) ?_)
  rintro w v w' hm ⟨rfl, hm'⟩
  refine ⟨_, hm.app hm', jkO ?_⟩
  clear hm hm'
  refine jo_f [(0, 0)] (by kernel_rfl) ?_
  obtain ⟨t_2, ht_2, h⟩ := bd h
  refine toO (by kernel_rfl) (p_call 0 50 #[(.bool (!t_1)), (.int .i64 1)] (by kernel_rfl) (by kernel_rfl) (fun w hm => impl_unless.calls (!t_1) 1 w _ ht_2) ?_)
  rintro w v w' hm ⟨rfl, hm'⟩
  refine ⟨_, hm.app hm', jkO ?_⟩
  clear hm hm'
  refine jo_f [(0, 0)] (by kernel_rfl) ?_
  refine jo_end (by kernel_rfl) ?_
  refine jx_then ?_
  refine jc_ret ?_
  obtain rfl := Option.some.inj h
  exact jx_ret [] (.int .i64 t_2) [] rfl (by kernel_rfl) (by kernel_rfl) (fun w hm => ⟨rfl, hm.pick [] (by kernel_rfl) (by kernel_rfl)⟩)

/-! ### impl.firstOf -/
noncomputable def impl_firstOf.k_1 : Option (Int) := some 0
noncomputable def impl_firstOf.l_3 (codes0 : List Int) : Int → Option ((Int) ⊕ (Int ⊕ Unit))
  | i_2 => (if (decide (i_2 < (codes0.length : Int))) = true then (ix codes0 i_2).bind fun x_5 => (if (x_5 != 0) = true then some (.inr (.inl x_5)) else some (.inl (w64 (i_2 + 1)))) else some (.inr (.inr ())))
noncomputable def impl_firstOf (codes0 : List Int) : Option (Int) := (loop (impl_firstOf.l_3 codes0) 0).bind fun t_4 => match t_4 with | .inl p => some p | .inr p => impl_firstOf.k_1
set_option maxRecDepth 100000 in
theorem impl_firstOf.calls (codes0 : List Int) (w : World) (r : Int) (codes0_a : Option Addr) (codes0_an : Nat) (codes0_c : Nat) (codes0_h : Rw w codes0_a 1 encI64 codes0) (codes0_hn : codes0.length = codes0_an) (h : impl_firstOf codes0 = some r) :
    Calls Try.prog 49 #[(.slice codes0_a codes0_an codes0_c)] w fun e w' => ∃ v, e = .returned v ∧ (v = (.int .i64 r) ∧ Mem w [] [] w') := by
  subst codes0_hn
  rw [impl_firstOf] at h
  refine enter (args := [(.slice codes0_a codes0.length codes0_c)]) Try.func49 rfl Try.ntmps49 (by kernel_rfl) (L := []) (W := []) (Mem.start w) ?_
  refine jc_seq ?_
  refine jc_region ?_
  refine jo_f [(0, 0)] (by kernel_rfl) ?_
  refine jo_end (by kernel_rfl) ?_
  refine jx_then ?_
  refine jc_seq ?_
  refine jc_seq ?_
  refine jc_region ?_
  refine jo_f [(0, 0), (0, 0), (0, 0)] (by kernel_rfl) ?_
  refine jo_end (by kernel_rfl) ?_
  refine jx_then ?_
  refine jc_meet (fun (_ : Unit) => impl_firstOf.k_1 = some r) (fun (_ : Unit) => [(2, [], (.int .i64 0))]) (fun (_ : Unit) => []) ?_ ?_
  · refine jc_block ?_
    obtain ⟨t_4, ht_34, hr_26⟩ := bd h
    refine jc_loop (fun (s : Int) (x : Unit) => match s, x with | i_2, _ => True) (fun (s : Int) (x : Unit) => match s, x with | i_2, _ => [(2, [], (.int .i64 0)), (5, [], (.slice codes0_a codes0.length codes0_c)), (6, [], (.int .i64 (codes0.length : Int))), (7, [], (.int .i64 i_2))]) (fun (s : Int) (x : Unit) => match s, x with | i_2, _ => []) ht_34 () trivial (by kernel_rfl) [] (by kernel_rfl) (by kernel_rfl) ?_
    rintro i_2 _ y_27 _ h
    rw [impl_firstOf.l_3] at h
    refine jc_seq ?_
    refine jc_region ?_
    refine jo_f [(0, 0)] (by kernel_rfl) ?_
    refine jo_end (by kernel_rfl) ?_
    refine jx_then ?_
    refine jc_seq ?_
    refine jc_cond (decide (i_2 < (codes0.length : Int))) (by kernel_rfl) (fun hc_29 => ?_) (fun hc_29 => ?_)
    · replace h := ifT hc_29 h
      refine jc_skip ?_
      refine jx_then ?_
      refine jc_seq ?_
      refine jc_block ?_
      refine jc_seq ?_
      refine jc_region ?_
      obtain ⟨x_5, hx_30, h⟩ := bd h
      refine toO (by kernel_rfl) (p_idx 0 codes0_a codes0.length i_2 1 (by kernel_rfl) (by kernel_rfl) (ix_some hx_30).1 (ltn hx_30 rfl) (codes0_h.sp hx_30) (jkO ?_))
      refine toO (by kernel_rfl) (p_ld 0 (aB codes0_a) (aO codes0_a + i_2.toNat * 1) false (encI64 x_5) (by kernel_rfl) (by kernel_rfl) (by kernel_rfl) (fun w hm => ((hm.exRow codes0_h List.not_mem_nil).at hx_30)) (jkO ?_))
      refine jo_f [(0, 0)] (by kernel_rfl) ?_
      refine jo_end (by kernel_rfl) ?_
      refine jx_then ?_
      refine jc_seq ?_
      refine jc_region ?_
      refine jo_f [(0, 0), (0, 0)] (by kernel_rfl) ?_
      refine jo_end (by kernel_rfl) ?_
      refine jx_then ?_
      refine jc_cond (x_5 != 0) (by kernel_rfl) (fun hc_31 => ?_) (fun hc_31 => ?_)
      · replace h := ifT hc_31 h
        refine jc_seq ?_
        refine jc_region ?_
        refine jo_f [(0, 0), (0, 0)] (by kernel_rfl) ?_
        refine jo_end (by kernel_rfl) ?_
        refine jx_then ?_
        refine jc_ret ?_
        refine jx_inr ?_
        refine jx_thenr ?_
        refine jx_leaver (.inl x_5) (Option.some.inj h).symm (fun e_32 => ?_)
        subst e_32
        refine jx_inr ?_
        refine jx_thenr ?_
        refine jx_thenr ?_
        obtain rfl := Option.some.inj hr_26
        exact jx_ret [] (.int .i64 x_5) [] rfl (by kernel_rfl) (by kernel_rfl) (fun w hm => ⟨rfl, hm.pick [] (by kernel_rfl) (by kernel_rfl)⟩)
      · replace h := ifF hc_31 h
        refine jc_skip ?_
        refine jx_inn ?_
        refine jx_then ?_
        refine jc_region ?_
        refine jo_f [(0, 0), (0, 0)] (by kernel_rfl) ?_
        refine jo_end (by kernel_rfl) ?_
        exact jx_back (w64 (i_2 + 1)) () (Option.some.inj h).symm trivial [] (by kernel_rfl) (by kernel_rfl) (by kernel_rfl)
    · replace h := ifF hc_29 h
      refine jc_exit ?_
      refine jx_thenx ?_
      refine jx_leave (.inr ()) (Option.some.inj h).symm (fun e_33 => ?_)
      subst e_33
      refine jx_ine ?_
      exact jx_meet () hr_26 (by kernel_rfl) [] (by kernel_rfl) (by kernel_rfl)
  · rintro _ h
    replace h : impl_firstOf.k_1 = some r := h
    rw [impl_firstOf.k_1] at h
    refine jx_then ?_
    refine jc_seq ?_
    refine jc_region ?_
    refine jo_f [(0, 0)] (by kernel_rfl) ?_
    refine jo_end (by kernel_rfl) ?_
    refine jx_then ?_
    refine jc_ret ?_
    obtain rfl := Option.some.inj h
    exact jx_ret [] (.int .i64 0) [] rfl (by kernel_rfl) (by kernel_rfl) (fun w hm => ⟨rfl, hm.pick [] (by kernel_rfl) (by kernel_rfl)⟩)

/-! ### impl.bit -/
noncomputable def impl_bit (b0 : Bool) : Option (Int) := (if b0 = true then some 1 else some 0)
set_option maxRecDepth 100000 in
theorem impl_bit.calls (b0 : Bool) (w : World) (r : Int) (h : impl_bit b0 = some r) :
    Calls Try.prog 60 #[(.bool b0)] w fun e w' => ∃ v, e = .returned v ∧ (v = (.int .i64 r) ∧ Mem w [] [] w') := by
  rw [impl_bit] at h
  refine enter (args := [(.bool b0)]) Try.func60 rfl Try.ntmps60 (by kernel_rfl) (L := []) (W := []) (Mem.start w) ?_
  refine jc_seq ?_
  refine jc_region ?_
  refine jo_f [(0, 0)] (by kernel_rfl) ?_
  refine jo_end (by kernel_rfl) ?_
  refine jx_then ?_
  refine jc_seq ?_
  refine jc_seq ?_
  refine jc_region ?_
  refine jo_f [(0, 0)] (by kernel_rfl) ?_
  refine jo_end (by kernel_rfl) ?_
  refine jx_then ?_
  refine jc_cond b0 (by kernel_rfl) (fun hc_1 => ?_) (fun hc_1 => ?_)
  · replace h := ifT hc_1 h
    refine jc_seq ?_
    refine jc_region ?_
    refine jo_f [(0, 0)] (by kernel_rfl) ?_
    refine jo_end (by kernel_rfl) ?_
    refine jx_then ?_
    refine jc_ret ?_
    refine jx_thenr ?_
    obtain rfl := Option.some.inj h
    exact jx_ret [] (.int .i64 1) [] rfl (by kernel_rfl) (by kernel_rfl) (fun w hm => ⟨rfl, hm.pick [] (by kernel_rfl) (by kernel_rfl)⟩)
  · replace h := ifF hc_1 h
    refine jc_skip ?_
    refine jx_then ?_
    refine jc_seq ?_
    refine jc_region ?_
    refine jo_f [(0, 0)] (by kernel_rfl) ?_
    refine jo_end (by kernel_rfl) ?_
    refine jx_then ?_
    refine jc_ret ?_
    obtain rfl := Option.some.inj h
    exact jx_ret [] (.int .i64 0) [] rfl (by kernel_rfl) (by kernel_rfl) (fun w hm => ⟨rfl, hm.pick [] (by kernel_rfl) (by kernel_rfl)⟩)

/-! ### (impl.Costs).of -/
noncomputable def impl_Costs_of (c0 : GCosts) (x1 : GChoice) : Option (Int) := (if x1.fAway = true then some (w64 c0.fAway) else (impl_bit (x1.fOctave != 0)).bind fun t_1 => some (w64 ((w64 ((w64 c0.fStep) * (w64 (if (w8 (0 - x1.fLate)) > x1.fLate then (w8 (0 - x1.fLate)) else x1.fLate)))) + (w64 ((w64 c0.fOctave) * t_1)))))
set_option maxRecDepth 100000 in
theorem impl_Costs_of.calls (c0 : GCosts) (x1 : GChoice) (w : World) (r : Int) (h : impl_Costs_of c0 x1 = some r) :
    Calls Try.prog 52 #[(.agg #[(.int .i16 c0.fAway), (.int .i16 c0.fOctave), (.int .i16 c0.fStep)]), (.agg #[(.bool x1.fAway), (.int .i8 x1.fLate), (.int .i8 x1.fOctave), (.int .i8 x1.fTrack)])] w fun e w' => ∃ v, e = .returned v ∧ (v = (.int .i64 r) ∧ Mem w [] [] w') := by
  rw [impl_Costs_of] at h
  refine enter (args := [(.agg #[(.int .i16 c0.fAway), (.int .i16 c0.fOctave), (.int .i16 c0.fStep)]), (.agg #[(.bool x1.fAway), (.int .i8 x1.fLate), (.int .i8 x1.fOctave), (.int .i8 x1.fTrack)])]) Try.func52 rfl Try.ntmps52 (by kernel_rfl) (L := []) (W := []) (Mem.start w) ?_
  refine jc_seq ?_
  refine jc_region ?_
  refine toO (by kernel_rfl) (p_a 0 [0] (by kernel_rfl) (fun b => by kernel_rfl) (fun b_1 => jkO ?_))
  refine toO (by kernel_rfl) (p_a 0 [0] (by kernel_rfl) (fun b => by kernel_rfl) (fun b_2 => jkO ?_))
  refine jo_f [(0, 0)] (by kernel_rfl) ?_
  refine jo_end (by kernel_rfl) ?_
  refine jx_then ?_
  refine jc_seq ?_
  refine jc_seq ?_
  refine jc_region ?_
  refine jo_f [(0, 0), (1, 0)] (by kernel_rfl) ?_
  refine jo_end (by kernel_rfl) ?_
  refine jx_then ?_
  refine jc_cond x1.fAway (by kernel_rfl) (fun hc_4 => ?_) (fun hc_4 => ?_)
  · replace h := ifT hc_4 h
    refine jc_seq ?_
    refine jc_region ?_
    refine jo_f [(0, 0), (0, 0), (0, 0), (0, 0)] (by kernel_rfl) ?_
    refine jo_end (by kernel_rfl) ?_
    refine jx_then ?_
    refine jc_ret ?_
    refine jx_thenr ?_
    obtain rfl := Option.some.inj h
    exact jx_ret [] (.int .i64 (w64 c0.fAway)) [] rfl (by kernel_rfl) (by kernel_rfl) (fun w hm => ⟨rfl, hm.pick [] (by kernel_rfl) (by kernel_rfl)⟩)
  · replace h := ifF hc_4 h
    refine jc_skip ?_
    refine jx_then ?_
    refine jc_seq ?_
    refine jc_region ?_
    refine jo_f [(0, 0), (1, 0), (0, 0), (1, 0), (0, 0), (0, 0), (0, 0), (0, 0)] (by kernel_rfl) ?_
    refine jo_end (by kernel_rfl) ?_
    refine jx_then ?_
    refine jc_seq ?_
    refine jc_draw [⟨some b_1, 32, [(.int .i16 c0.fAway), (.int .i16 c0.fOctave), (.int .i16 c0.fStep)]⟩, ⟨some b_2, 39, [(.bool x1.fAway), (.int .i8 x1.fLate), (.int .i8 x1.fOctave), (.int .i8 x1.fTrack)]⟩] 15 (by kernel_rfl) (by kernel_rfl) ?_
    refine jd_f [⟨0, 0, 0⟩, ⟨1, 0, 0⟩, ⟨2, 0, 0⟩, ⟨3, 0, 0⟩, ⟨4, 0, 0⟩, ⟨5, 0, 0⟩, ⟨6, 0, 0⟩, ⟨7, 0, 0⟩, ⟨8, 0, 0⟩, ⟨9, 1, 0⟩, ⟨10, 0, 0⟩] 4 (by kernel_rfl) (by kernel_rfl) (fun w h => h.pick [0, 1] (by kernel_rfl) (by kernel_rfl)) (by kernel_rfl) (by kernel_rfl) ?_
    obtain ⟨t_1, ht_5, h⟩ := bd h
    refine toD 11 (by kernel_rfl) (p_call 0 60 #[(.bool (x1.fOctave != 0))] (by kernel_rfl) (by kernel_rfl) (fun w hm => impl_bit.calls (x1.fOctave != 0) w _ ht_5) ?_)
    rintro w v w' hm ⟨rfl, hm'⟩
    refine ⟨_, hm.app hm', jkD (fun w h => h.pick [0, 1] (by kernel_rfl) (by kernel_rfl)) ?_⟩
    clear hm hm'
    refine jd_f [⟨12, 0, 0⟩, ⟨13, 0, 0⟩, ⟨14, 0, 0⟩] 0 (by kernel_rfl) (by kernel_rfl) (fun w h => h.pick [0, 1] (by kernel_rfl) (by kernel_rfl)) (by kernel_rfl) (by kernel_rfl) ?_
    refine jd_end (by kernel_rfl) ?_
    refine jx_then ?_
    refine jc_ret ?_
    obtain rfl := Option.some.inj h
    exact jx_ret [] (.int .i64 (w64 ((w64 ((w64 c0.fStep) * (w64 (if (w8 (0 - x1.fLate)) > x1.fLate then (w8 (0 - x1.fLate)) else x1.fLate)))) + (w64 ((w64 c0.fOctave) * t_1))))) [] rfl (by kernel_rfl) (by kernel_rfl) (fun w hm => ⟨rfl, hm.pick [] (by kernel_rfl) (by kernel_rfl)⟩)

/-! ### impl.CostOf -/
noncomputable def impl_CostOf.k_7 (i_6 : Int) : Option (Int × Int) := some (i_6, 0)
noncomputable def impl_CostOf.l_10 (c0 : GCosts) (list1 : List GChoice) : (Int × Int) → Option ((Int × Int) ⊕ (Int))
  | (i_8, i_9) => (if (decide (i_9 < (list1.length : Int))) = true then (ix list1 i_9).bind fun x_12 => (impl_Costs_of c0 x_12).bind fun t_13 => some (.inl ((w64 (i_8 + t_13)), (w64 (i_9 + 1)))) else some (.inr i_8))
noncomputable def impl_CostOf (c0 : GCosts) (list1 : List GChoice) : Option (Int × Int) := (impl_ValidCosts c0).bind fun t_1 => (impl_unless t_1 1).bind fun t_2 => (impl_choicesCode list1).bind fun t_3 => (impl_unless (decide ((list1.length : Int) ≤ 120)) 3).bind fun t_4 => (impl_firstOf [t_2, t_3, t_4]).bind fun t_5 => (if (t_5 != 0) = true then some (0, t_5) else (loop (impl_CostOf.l_10 c0 list1) (0, 0)).bind fun t_11 => impl_CostOf.k_7 t_11)
set_option maxRecDepth 100000 in
theorem impl_CostOf.calls (c0 : GCosts) (list1 : List GChoice) (w : World) (r : Int × Int) (list1_a : Option Addr) (list1_an : Nat) (list1_c : Nat) (list1_h : Rw w list1_a 4 encGChoice list1) (list1_hn : list1.length = list1_an) (h : impl_CostOf c0 list1 = some r) :
    Calls Try.prog 30 #[(.agg #[(.int .i16 c0.fAway), (.int .i16 c0.fOctave), (.int .i16 c0.fStep)]), (.slice list1_a list1_an list1_c)] w fun e w' => ∃ v, e = .returned v ∧ (v = .tuple #[(.int .i64 r.1), (.int .i64 r.2)] ∧ Mem w [] [] w') := by
  subst list1_hn
  rw [impl_CostOf] at h
  refine enter (args := [(.agg #[(.int .i16 c0.fAway), (.int .i16 c0.fOctave), (.int .i16 c0.fStep)]), (.slice list1_a list1.length list1_c)]) Try.func30 rfl Try.ntmps30 (by kernel_rfl) (L := []) (W := []) (Mem.start w) ?_
  refine jc_seq ?_
  refine jc_region ?_
  refine toO (by kernel_rfl) (p_a 0 [0] (by kernel_rfl) (fun b => by kernel_rfl) (fun b_1 => jkO ?_))
  refine jo_f [(0, 0), (0, 0)] (by kernel_rfl) ?_
  refine jo_end (by kernel_rfl) ?_
  refine jx_then ?_
  refine jc_seq ?_
  refine jc_seq ?_
  refine jc_region ?_
  refine jo_f [(0, 0)] (by kernel_rfl) ?_
  obtain ⟨t_1, ht_9, h⟩ := bd h
  refine toO (by kernel_rfl) (p_call 0 14 #[(.agg #[(.int .i16 c0.fAway), (.int .i16 c0.fOctave), (.int .i16 c0.fStep)])] (by kernel_rfl) (by kernel_rfl) (fun w hm => impl_ValidCosts.calls c0 w _ ht_9) ?_)
  rintro w v w' hm ⟨rfl, hm'⟩
  refine ⟨_, hm.app hm', jkO ?_⟩
  clear hm hm'
  obtain ⟨t_2, ht_10, h⟩ := bd h
  refine toO (by kernel_rfl) (p_call 0 50 #[(.bool t_1), (.int .i64 1)] (by kernel_rfl) (by kernel_rfl) (fun w hm => impl_unless.calls t_1 1 w _ ht_10) ?_)
  rintro w v w' hm ⟨rfl, hm'⟩
  refine ⟨_, hm.app hm', jkO ?_⟩
  clear hm hm'
  refine jo_f [(0, 0)] (by kernel_rfl) ?_
  obtain ⟨t_3, ht_11, h⟩ := bd h
  refine toO (by kernel_rfl) (p_call 0 51 #[(.slice list1_a list1.length list1_c)] (by kernel_rfl) (by kernel_rfl) (fun w hm => impl_choicesCode.calls list1 w _ list1_a list1.length list1_c (hm.exRow list1_h List.not_mem_nil) rfl ht_11) ?_)
  rintro w v w' hm ⟨rfl, hm'⟩
  refine ⟨_, hm.app hm', jkO ?_⟩
  clear hm hm'
  refine jo_f [(0, 0), (0, 0), (0, 0)] (by kernel_rfl) ?_
  obtain ⟨t_4, ht_12, h⟩ := bd h
  refine toO (by kernel_rfl) (p_call 0 50 #[(.bool (decide ((list1.length : Int) ≤ 120))), (.int .i64 3)] (by kernel_rfl) (by kernel_rfl) (fun w hm => impl_unless.calls (decide ((list1.length : Int) ≤ 120)) 3 w _ ht_12) ?_)
  rintro w v w' hm ⟨rfl, hm'⟩
  refine ⟨_, hm.app hm', jkO ?_⟩
  clear hm hm'
  refine toO (by kernel_rfl) (p_a 0 [0] (by kernel_rfl) (fun b => by kernel_rfl) (fun b_13 => jkO ?_))
  obtain ⟨t_5, ht_14, h⟩ := bd h
  refine toO (by kernel_rfl) (p_call 0 49 #[(.slice (some ⟨b_13, 0, none⟩) 3 3)] (by kernel_rfl) (by kernel_rfl) (fun w hm => impl_firstOf.calls [t_2, t_3, t_4] w _ (some ⟨b_13, 0, none⟩) 3 3 (hm.ownRow (hh := 1) (o := (some b_13)) (T := 2) (enc := encI64) (xs := [t_2, t_3, t_4]) (sp := []) (by kernel_rfl) (fun e => nomatch e) encI64_len) rfl ht_14) ?_)
  rintro w v w' hm ⟨rfl, hm'⟩
  refine ⟨_, hm.app hm', jkO ?_⟩
  clear hm hm'
  refine jo_f [(0, 0)] (by kernel_rfl) ?_
  refine jo_end (by kernel_rfl) ?_
  refine jx_then ?_
  refine jc_seq ?_
  refine jc_region ?_
  refine jo_f [(0, 0), (0, 0)] (by kernel_rfl) ?_
  refine jo_end (by kernel_rfl) ?_
  refine jx_then ?_
  refine jc_cond (t_5 != 0) (by kernel_rfl) (fun hc_15 => ?_) (fun hc_15 => ?_)
  · replace h := ifT hc_15 h
    refine jc_seq ?_
    refine jc_region ?_
    refine jo_f [(0, 0), (0, 0), (0, 0)] (by kernel_rfl) ?_
    refine jo_end (by kernel_rfl) ?_
    refine jx_then ?_
    refine jc_ret ?_
    refine jx_thenr ?_
    obtain rfl := Option.some.inj h
    exact jx_ret [] (.tuple #[(.int .i64 0), (.int .i64 t_5)]) [] rfl (by kernel_rfl) (by kernel_rfl) (fun w hm => ⟨rfl, hm.pick [] (by kernel_rfl) (by kernel_rfl)⟩)
  · replace h := ifF hc_15 h
    refine jc_skip ?_
    refine jx_then ?_
    refine jc_seq ?_
    refine jc_region ?_
    refine jo_f [(0, 0)] (by kernel_rfl) ?_
    refine jo_end (by kernel_rfl) ?_
    refine jx_then ?_
    refine jc_seq ?_
    refine jc_seq ?_
    refine jc_region ?_
    refine jo_f [(0, 0), (0, 0), (0, 0)] (by kernel_rfl) ?_
    refine jo_end (by kernel_rfl) ?_
    refine jx_then ?_
    refine jc_meet (fun (j : Int) => match j with | i_6 => impl_CostOf.k_7 i_6 = some r) (fun (j : Int) => match j with | i_6 => [(4, [], (.int .i64 0)), (5, [], (.int .i64 0)), (7, [], (.int .i64 i_6))]) (fun (j : Int) => match j with | i_6 => [⟨some b_1, 32, [(.int .i16 c0.fAway), (.int .i16 c0.fOctave), (.int .i16 c0.fStep)]⟩, ⟨(some b_13), 2, row encI64 [t_2, t_3, t_4] []⟩]) ?_ ?_
    · refine jc_block ?_
      obtain ⟨t_11, ht_91, hr_83⟩ := bd h
      refine jc_loop (fun (s : Int × Int) (x : Unit) => match s, x with | ⟨i_8, i_9⟩, _ => True) (fun (s : Int × Int) (x : Unit) => match s, x with | ⟨i_8, i_9⟩, _ => [(2, [], (.pointer (some ⟨b_1, 0, none⟩))), (4, [], (.int .i64 0)), (5, [], (.int .i64 0)), (7, [], (.int .i64 i_8)), (24, [], (.slice list1_a list1.length list1_c)), (25, [], (.int .i64 (list1.length : Int))), (26, [], (.int .i64 i_9))]) (fun (s : Int × Int) (x : Unit) => match s, x with | ⟨i_8, i_9⟩, _ => [⟨some b_1, 32, [(.int .i16 c0.fAway), (.int .i16 c0.fOctave), (.int .i16 c0.fStep)]⟩, ⟨(some b_13), 2, row encI64 [t_2, t_3, t_4] []⟩]) ht_91 () trivial (by kernel_rfl) [0, 1] (by kernel_rfl) (by kernel_rfl) ?_
      rintro ⟨i_8, i_9⟩ _ y_84 _ h
      rw [impl_CostOf.l_10] at h
      refine jc_seq ?_
      refine jc_region ?_
      refine jo_f [(0, 0)] (by kernel_rfl) ?_
      refine jo_end (by kernel_rfl) ?_
      refine jx_then ?_
      refine jc_seq ?_
      refine jc_cond (decide (i_9 < (list1.length : Int))) (by kernel_rfl) (fun hc_86 => ?_) (fun hc_86 => ?_)
      · replace h := ifT hc_86 h
        refine jc_skip ?_
        refine jx_then ?_
        refine jc_seq ?_
        refine jc_block ?_
        refine jc_seq ?_
        refine jc_region ?_
        obtain ⟨x_12, hx_87, h⟩ := bd h
        refine toO (by kernel_rfl) (p_idx 0 list1_a list1.length i_9 4 (by kernel_rfl) (by kernel_rfl) (ix_some hx_87).1 (ltn hx_87 rfl) (list1_h.sp hx_87) (jkO ?_))
        refine toO (by kernel_rfl) (p_ld 0 (aB list1_a) (aO list1_a + i_9.toNat * 4) true (encGChoice x_12) (by kernel_rfl) (by kernel_rfl) (by kernel_rfl) (fun w hm => ((hm.exRow list1_h List.not_mem_nil).at hx_87)) (jkO ?_))
        refine toO (by kernel_rfl) (p_a 0 [0] (by kernel_rfl) (fun b => by kernel_rfl) (fun b_88 => jkO ?_))
        refine toO (by kernel_rfl) (p_s 0 [2] (by kernel_rfl) (by kernel_rfl) (jkO ?_))
        refine jo_end (by kernel_rfl) ?_
        refine jx_then ?_
        refine jc_region ?_
        refine jo_f [(0, 0), (0, 0), (2, 0)] (by kernel_rfl) ?_
        obtain ⟨t_13, ht_89, h⟩ := bd h
        refine toO (by kernel_rfl) (p_call 0 52 #[(.agg #[(.int .i16 c0.fAway), (.int .i16 c0.fOctave), (.int .i16 c0.fStep)]), (.agg #[(.bool x_12.fAway), (.int .i8 x_12.fLate), (.int .i8 x_12.fOctave), (.int .i8 x_12.fTrack)])] (by kernel_rfl) (by kernel_rfl) (fun w hm => impl_Costs_of.calls c0 x_12 w _ ht_89) ?_)
        rintro w v w' hm ⟨rfl, hm'⟩
        refine ⟨_, hm.app hm', jkO ?_⟩
        clear hm hm'
        refine jo_f [(0, 0), (0, 0)] (by kernel_rfl) ?_
        refine jo_end (by kernel_rfl) ?_
        refine jx_inn ?_
        refine jx_then ?_
        refine jc_region ?_
        refine jo_f [(0, 0), (0, 0)] (by kernel_rfl) ?_
        refine jo_end (by kernel_rfl) ?_
        exact jx_back ((w64 (i_8 + t_13)), (w64 (i_9 + 1))) () (Option.some.inj h).symm trivial [0, 1] (by kernel_rfl) (by kernel_rfl) (by kernel_rfl)
      · replace h := ifF hc_86 h
        refine jc_exit ?_
        refine jx_thenx ?_
        refine jx_leave i_8 (Option.some.inj h).symm (fun e_90 => ?_)
        subst e_90
        refine jx_ine ?_
        exact jx_meet i_8 hr_83 (by kernel_rfl) [0, 1] (by kernel_rfl) (by kernel_rfl)
    · rintro i_6 h
      replace h : impl_CostOf.k_7 i_6 = some r := h
      rw [impl_CostOf.k_7] at h
      refine jx_then ?_
      refine jc_seq ?_
      refine jc_region ?_
      refine jo_f [(0, 0), (0, 0), (0, 0)] (by kernel_rfl) ?_
      refine jo_end (by kernel_rfl) ?_
      refine jx_then ?_
      refine jc_ret ?_
      obtain rfl := Option.some.inj h
      exact jx_ret [] (.tuple #[(.int .i64 i_6), (.int .i64 0)]) [] rfl (by kernel_rfl) (by kernel_rfl) (fun w hm => ⟨rfl, hm.pick [] (by kernel_rfl) (by kernel_rfl)⟩)

/-! ### laws.eqChoice -/
noncomputable def laws_eqChoice (a0 : GChoice) (b1 : GChoice) : Option (Bool) := (if (a0.fAway != b1.fAway) = true then some false else (if (a0.fLate != b1.fLate) = true then some false else (if (a0.fOctave != b1.fOctave) = true then some false else (if (a0.fTrack != b1.fTrack) = true then some false else some true))))
set_option maxRecDepth 100000 in
theorem laws_eqChoice.calls (a0 : GChoice) (b1 : GChoice) (w : World) (r : Bool) (h : laws_eqChoice a0 b1 = some r) :
    Calls Try.prog 53 #[(.agg #[(.bool a0.fAway), (.int .i8 a0.fLate), (.int .i8 a0.fOctave), (.int .i8 a0.fTrack)]), (.agg #[(.bool b1.fAway), (.int .i8 b1.fLate), (.int .i8 b1.fOctave), (.int .i8 b1.fTrack)])] w fun e w' => ∃ v, e = .returned v ∧ (v = (.bool r) ∧ Mem w [] [] w') := by
  rw [laws_eqChoice] at h
  refine enter (args := [(.agg #[(.bool a0.fAway), (.int .i8 a0.fLate), (.int .i8 a0.fOctave), (.int .i8 a0.fTrack)]), (.agg #[(.bool b1.fAway), (.int .i8 b1.fLate), (.int .i8 b1.fOctave), (.int .i8 b1.fTrack)])]) Try.func53 rfl Try.ntmps53 (by kernel_rfl) (L := []) (W := []) (Mem.start w) ?_
  refine jc_seq ?_
  refine jc_region ?_
  refine toO (by kernel_rfl) (p_a 0 [0] (by kernel_rfl) (fun b => by kernel_rfl) (fun b_1 => jkO ?_))
  refine toO (by kernel_rfl) (p_a 0 [0] (by kernel_rfl) (fun b => by kernel_rfl) (fun b_2 => jkO ?_))
  refine jo_f [(0, 0)] (by kernel_rfl) ?_
  refine jo_end (by kernel_rfl) ?_
  refine jx_then ?_
  refine jc_seq ?_
  refine jc_seq ?_
  refine jc_region ?_
  refine jo_f [(0, 0), (0, 0), (0, 0), (1, 0), (0, 0)] (by kernel_rfl) ?_
  refine jo_end (by kernel_rfl) ?_
  refine jx_then ?_
  refine jc_cond (a0.fAway != b1.fAway) (by kernel_rfl) (fun hc_4 => ?_) (fun hc_4 => ?_)
  · replace h := ifT hc_4 h
    refine jc_seq ?_
    refine jc_region ?_
    refine jo_f [(0, 0)] (by kernel_rfl) ?_
    refine jo_end (by kernel_rfl) ?_
    refine jx_then ?_
    refine jc_ret ?_
    refine jx_thenr ?_
    obtain rfl := Option.some.inj h
    exact jx_ret [] (.bool false) [] rfl (by kernel_rfl) (by kernel_rfl) (fun w hm => ⟨rfl, hm.pick [] (by kernel_rfl) (by kernel_rfl)⟩)
  · replace h := ifF hc_4 h
    refine jc_skip ?_
    refine jx_then ?_
    refine jc_seq ?_
    refine jc_seq ?_
    refine jc_region ?_
    refine jo_f [(0, 0), (0, 0), (0, 0), (1, 0), (0, 0)] (by kernel_rfl) ?_
    refine jo_end (by kernel_rfl) ?_
    refine jx_then ?_
    refine jc_cond (a0.fLate != b1.fLate) (by kernel_rfl) (fun hc_6 => ?_) (fun hc_6 => ?_)
    · replace h := ifT hc_6 h
      refine jc_seq ?_
      refine jc_region ?_
      refine jo_f [(0, 0)] (by kernel_rfl) ?_
      refine jo_end (by kernel_rfl) ?_
      refine jx_then ?_
      refine jc_ret ?_
      refine jx_thenr ?_
      obtain rfl := Option.some.inj h
      exact jx_ret [] (.bool false) [] rfl (by kernel_rfl) (by kernel_rfl) (fun w hm => ⟨rfl, hm.pick [] (by kernel_rfl) (by kernel_rfl)⟩)
    · replace h := ifF hc_6 h
      refine jc_skip ?_
      refine jx_then ?_
      refine jc_seq ?_
      refine jc_seq ?_
      refine jc_region ?_
      refine jo_f [(0, 0), (0, 0), (0, 0), (1, 0), (0, 0)] (by kernel_rfl) ?_
      refine jo_end (by kernel_rfl) ?_
      refine jx_then ?_
      refine jc_cond (a0.fOctave != b1.fOctave) (by kernel_rfl) (fun hc_8 => ?_) (fun hc_8 => ?_)
      · replace h := ifT hc_8 h
        refine jc_seq ?_
        refine jc_region ?_
        refine jo_f [(0, 0)] (by kernel_rfl) ?_
        refine jo_end (by kernel_rfl) ?_
        refine jx_then ?_
        refine jc_ret ?_
        refine jx_thenr ?_
        obtain rfl := Option.some.inj h
        exact jx_ret [] (.bool false) [] rfl (by kernel_rfl) (by kernel_rfl) (fun w hm => ⟨rfl, hm.pick [] (by kernel_rfl) (by kernel_rfl)⟩)
      · replace h := ifF hc_8 h
        refine jc_skip ?_
        refine jx_then ?_
        refine jc_seq ?_
        refine jc_seq ?_
        refine jc_region ?_
        refine jo_f [(0, 0), (0, 0), (0, 0), (1, 0), (0, 0)] (by kernel_rfl) ?_
        refine jo_end (by kernel_rfl) ?_
        refine jx_then ?_
        refine jc_cond (a0.fTrack != b1.fTrack) (by kernel_rfl) (fun hc_9 => ?_) (fun hc_9 => ?_)
        · replace h := ifT hc_9 h
          refine jc_seq ?_
          refine jc_region ?_
          refine jo_f [(0, 0)] (by kernel_rfl) ?_
          refine jo_end (by kernel_rfl) ?_
          refine jx_then ?_
          refine jc_ret ?_
          refine jx_thenr ?_
          obtain rfl := Option.some.inj h
          exact jx_ret [] (.bool false) [] rfl (by kernel_rfl) (by kernel_rfl) (fun w hm => ⟨rfl, hm.pick [] (by kernel_rfl) (by kernel_rfl)⟩)
        · replace h := ifF hc_9 h
          refine jc_skip ?_
          refine jx_then ?_
          refine jc_seq ?_
          refine jc_region ?_
          refine jo_f [(0, 0)] (by kernel_rfl) ?_
          refine jo_end (by kernel_rfl) ?_
          refine jx_then ?_
          refine jc_ret ?_
          obtain rfl := Option.some.inj h
          exact jx_ret [] (.bool true) [] rfl (by kernel_rfl) (by kernel_rfl) (fun w hm => ⟨rfl, hm.pick [] (by kernel_rfl) (by kernel_rfl)⟩)

/-! ### laws.eqChoiceS -/
noncomputable def laws_eqChoiceS.k_1 : Option (Bool) := some true
noncomputable def laws_eqChoiceS.l_3 (a0 : List GChoice) (b1 : List GChoice) : Int → Option ((Int) ⊕ (Bool ⊕ Unit))
  | i_2 => (if (decide (i_2 < (a0.length : Int))) = true then (ix a0 i_2).bind fun x_5 => (ix b1 i_2).bind fun x_6 => (laws_eqChoice x_5 x_6).bind fun t_7 => (if (!t_7) = true then some (.inr (.inl false)) else some (.inl (w64 (i_2 + 1)))) else some (.inr (.inr ())))
noncomputable def laws_eqChoiceS (a0 : List GChoice) (b1 : List GChoice) : Option (Bool) := (if ((a0.length : Int) != (b1.length : Int)) = true then some false else (loop (laws_eqChoiceS.l_3 a0 b1) 0).bind fun t_4 => match t_4 with | .inl p => some p | .inr p => laws_eqChoiceS.k_1)
set_option maxRecDepth 100000 in
theorem laws_eqChoiceS.calls (a0 : List GChoice) (b1 : List GChoice) (w : World) (r : Bool) (a0_a : Option Addr) (a0_an : Nat) (a0_c : Nat) (a0_h : Rw w a0_a 4 encGChoice a0) (a0_hn : a0.length = a0_an) (b1_a : Option Addr) (b1_an : Nat) (b1_c : Nat) (b1_h : Rw w b1_a 4 encGChoice b1) (b1_hn : b1.length = b1_an) (h : laws_eqChoiceS a0 b1 = some r) :
    Calls Try.prog 31 #[(.slice a0_a a0_an a0_c), (.slice b1_a b1_an b1_c)] w fun e w' => ∃ v, e = .returned v ∧ (v = (.bool r) ∧ Mem w [] [] w') := by
  subst a0_hn b1_hn
  rw [laws_eqChoiceS] at h
  refine enter (args := [(.slice a0_a a0.length a0_c), (.slice b1_a b1.length b1_c)]) Try.func31 rfl Try.ntmps31 (by kernel_rfl) (L := []) (W := []) (Mem.start w) ?_
  refine jc_seq ?_
  refine jc_region ?_
  refine jo_f [(0, 0)] (by kernel_rfl) ?_
  refine jo_end (by kernel_rfl) ?_
  refine jx_then ?_
  refine jc_seq ?_
  refine jc_seq ?_
  refine jc_region ?_
  refine jo_f [(0, 0), (0, 0), (0, 0), (0, 0), (0, 0)] (by kernel_rfl) ?_
  refine jo_end (by kernel_rfl) ?_
  refine jx_then ?_
  refine jc_cond ((a0.length : Int) != (b1.length : Int)) (by kernel_rfl) (fun hc_2 => ?_) (fun hc_2 => ?_)
  · replace h := ifT hc_2 h
    refine jc_seq ?_
    refine jc_region ?_
    refine jo_f [(0, 0)] (by kernel_rfl) ?_
    refine jo_end (by kernel_rfl) ?_
    refine jx_then ?_
    refine jc_ret ?_
    refine jx_thenr ?_
    obtain rfl := Option.some.inj h
    exact jx_ret [] (.bool false) [] rfl (by kernel_rfl) (by kernel_rfl) (fun w hm => ⟨rfl, hm.pick [] (by kernel_rfl) (by kernel_rfl)⟩)
  · replace h := ifF hc_2 h
    refine jc_skip ?_
    refine jx_then ?_
    refine jc_seq ?_
    refine jc_seq ?_
    refine jc_region ?_
    refine jo_f [(0, 0)] (by kernel_rfl) ?_
    refine jo_end (by kernel_rfl) ?_
    refine jx_then ?_
    refine jc_meet (fun (_ : Unit) => laws_eqChoiceS.k_1 = some r) (fun (_ : Unit) => [(4, [], (.bool false))]) (fun (_ : Unit) => []) ?_ ?_
    · refine jc_block ?_
      obtain ⟨t_4, ht_48, hr_38⟩ := bd h
      refine jc_loop (fun (s : Int) (x : Unit) => match s, x with | i_2, _ => True) (fun (s : Int) (x : Unit) => match s, x with | i_2, _ => [(0, [], (.slice a0_a a0.length a0_c)), (1, [], (.slice b1_a b1.length b1_c)), (4, [], (.bool false)), (5, [], (.int .i64 i_2))]) (fun (s : Int) (x : Unit) => match s, x with | i_2, _ => []) ht_48 () trivial (by kernel_rfl) [] (by kernel_rfl) (by kernel_rfl) ?_
      rintro i_2 _ y_39 _ h
      rw [laws_eqChoiceS.l_3] at h
      refine jc_seq ?_
      refine jc_seq ?_
      refine jc_region ?_
      refine jo_f [(0, 0), (0, 0), (0, 0), (0, 0)] (by kernel_rfl) ?_
      refine jo_end (by kernel_rfl) ?_
      refine jx_then ?_
      refine jc_cond (decide (i_2 < (a0.length : Int))) (by kernel_rfl) (fun hc_41 => ?_) (fun hc_41 => ?_)
      · replace h := ifT hc_41 h
        refine jc_skip ?_
        refine jx_then ?_
        refine jc_seq ?_
        refine jc_block ?_
        refine jc_seq ?_
        refine jc_draw [] 10 (by kernel_rfl) (by kernel_rfl) ?_
        refine jd_f [⟨0, 0, 0⟩, ⟨1, 0, 0⟩, ⟨4, 0, 0⟩, ⟨5, 0, 0⟩] 6 (by kernel_rfl) (by kernel_rfl) (fun w h => h.pick [] (by kernel_rfl) (by kernel_rfl)) (by kernel_rfl) (by kernel_rfl) ?_
        obtain ⟨x_5, hx_42, h⟩ := bd h
        refine jd_v 2 0 (by kernel_rfl) (fun w h => h.pick [] (by kernel_rfl) (by kernel_rfl)) (by kernel_rfl) (by kernel_rfl) _ (fun w hm => idx_run (a := a0_a) (len := a0.length) (s := 4) (j := i_2) (by kernel_rfl) (ix_some hx_42).1 (ltn hx_42 rfl) (a0_h.sp hx_42)) ?_
        refine jd_v 3 0 (by kernel_rfl) (fun w h => h.pick [] (by kernel_rfl) (by kernel_rfl)) (by kernel_rfl) (by kernel_rfl) _ (fun w hm => ld_run (b := aB a0_a) (off := (aO a0_a + i_2.toNat * 4)) (s := 4) (agg := true) (vs := (encGChoice x_5)) (by kernel_rfl) (by kernel_rfl) (.inl rfl) ((hm.exRow a0_h List.not_mem_nil).at hx_42)) ?_
        obtain ⟨x_6, hx_43, h⟩ := bd h
        refine jd_v 6 0 (by kernel_rfl) (fun w h => h.pick [] (by kernel_rfl) (by kernel_rfl)) (by kernel_rfl) (by kernel_rfl) _ (fun w hm => idx_run (a := b1_a) (len := b1.length) (s := 4) (j := i_2) (by kernel_rfl) (ix_some hx_43).1 (ltn hx_43 rfl) (b1_h.sp hx_43)) ?_
        refine jd_v 7 0 (by kernel_rfl) (fun w h => h.pick [] (by kernel_rfl) (by kernel_rfl)) (by kernel_rfl) (by kernel_rfl) _ (fun w hm => ld_run (b := aB b1_a) (off := (aO b1_a + i_2.toNat * 4)) (s := 4) (agg := true) (vs := (encGChoice x_6)) (by kernel_rfl) (by kernel_rfl) (.inl rfl) ((hm.exRow b1_h List.not_mem_nil).at hx_43)) ?_
        obtain ⟨t_7, ht_44, h⟩ := bd h
        refine toD 8 (by kernel_rfl) (p_call 0 53 #[(.agg #[(.bool x_5.fAway), (.int .i8 x_5.fLate), (.int .i8 x_5.fOctave), (.int .i8 x_5.fTrack)]), (.agg #[(.bool x_6.fAway), (.int .i8 x_6.fLate), (.int .i8 x_6.fOctave), (.int .i8 x_6.fTrack)])] (by kernel_rfl) (by kernel_rfl) (fun w hm => laws_eqChoice.calls x_5 x_6 w _ ht_44) ?_)
        rintro w v w' hm ⟨rfl, hm'⟩
        refine ⟨_, hm.app hm', jkD (fun w h => h.pick [] (by kernel_rfl) (by kernel_rfl)) ?_⟩
        clear hm hm'
        refine jd_f [⟨9, 0, 0⟩] 0 (by kernel_rfl) (by kernel_rfl) (fun w h => h.pick [] (by kernel_rfl) (by kernel_rfl)) (by kernel_rfl) (by kernel_rfl) ?_
        refine jd_end (by kernel_rfl) ?_
        refine jx_then ?_
        refine jc_cond (!t_7) (by kernel_rfl) (fun hc_45 => ?_) (fun hc_45 => ?_)
        · replace h := ifT hc_45 h
          refine jc_seq ?_
          refine jc_region ?_
          refine jo_f [(0, 0)] (by kernel_rfl) ?_
          refine jo_end (by kernel_rfl) ?_
          refine jx_then ?_
          refine jc_ret ?_
          refine jx_inr ?_
          refine jx_thenr ?_
          refine jx_leaver (.inl false) (Option.some.inj h).symm (fun e_46 => ?_)
          subst e_46
          refine jx_inr ?_
          refine jx_thenr ?_
          refine jx_thenr ?_
          obtain rfl := Option.some.inj hr_38
          exact jx_ret [] (.bool false) [] rfl (by kernel_rfl) (by kernel_rfl) (fun w hm => ⟨rfl, hm.pick [] (by kernel_rfl) (by kernel_rfl)⟩)
        · replace h := ifF hc_45 h
          refine jc_skip ?_
          refine jx_inn ?_
          refine jx_then ?_
          refine jc_region ?_
          refine jo_f [(0, 0), (0, 0), (0, 0)] (by kernel_rfl) ?_
          refine jo_end (by kernel_rfl) ?_
          exact jx_back (w64 (i_2 + 1)) () (Option.some.inj h).symm trivial [] (by kernel_rfl) (by kernel_rfl) (by kernel_rfl)
      · replace h := ifF hc_41 h
        refine jc_exit ?_
        refine jx_thenx ?_
        refine jx_leave (.inr ()) (Option.some.inj h).symm (fun e_47 => ?_)
        subst e_47
        refine jx_ine ?_
        exact jx_meet () hr_38 (by kernel_rfl) [] (by kernel_rfl) (by kernel_rfl)
    · rintro _ h
      replace h : laws_eqChoiceS.k_1 = some r := h
      rw [laws_eqChoiceS.k_1] at h
      refine jx_then ?_
      refine jc_seq ?_
      refine jc_region ?_
      refine jo_f [(0, 0)] (by kernel_rfl) ?_
      refine jo_end (by kernel_rfl) ?_
      refine jx_then ?_
      refine jc_ret ?_
      obtain rfl := Option.some.inj h
      exact jx_ret [] (.bool true) [] rfl (by kernel_rfl) (by kernel_rfl) (fun w hm => ⟨rfl, hm.pick [] (by kernel_rfl) (by kernel_rfl)⟩)

/-! ### laws.FnExactCostOf -/
noncomputable def laws_FnExactCostOf (aC0 : GCosts) (aList1 : List GChoice) : Option (Bool) := (laws_szChoiceS aList1 1048576).bind fun t_1 => (if (decide (t_1 < 0)) = true then some true else (laws_toCosts aC0).bind fun t_2 => (laws_toChoiceS aList1).bind fun t_3 => (spec_CostOf t_2 t_3).bind fun t_4 => (laws_toChoiceS aList1).bind fun t_5 => (laws_toCosts aC0).bind fun t_6 => (impl_CostOf t_6 t_5).bind fun t_7 => (if ((t_7.1 != t_4.1) || (t_7.2 != t_4.2)) = true then some false else (laws_toChoiceS aList1).bind fun t_8 => (laws_eqChoiceS t_5 t_8).bind fun t_9 => (if (!t_9) = true then some false else some true)))
set_option maxRecDepth 100000 in
theorem laws_FnExactCostOf.calls (aC0 : GCosts) (aList1 : List GChoice) (w : World) (r : Bool) (aList1_a : Option Addr) (aList1_an : Nat) (aList1_c : Nat) (aList1_h : Rw w aList1_a 4 encGChoice aList1) (aList1_hn : aList1.length = aList1_an) (h : laws_FnExactCostOf aC0 aList1 = some r) :
    Calls Try.prog 8 #[(.agg #[(.int .i16 aC0.fAway), (.int .i16 aC0.fOctave), (.int .i16 aC0.fStep)]), (.slice aList1_a aList1_an aList1_c)] w fun e w' => ∃ v, e = .returned v ∧ (v = (.bool r) ∧ Mem w [] [] w') := by
  subst aList1_hn
  rw [laws_FnExactCostOf] at h
  refine enter (args := [(.agg #[(.int .i16 aC0.fAway), (.int .i16 aC0.fOctave), (.int .i16 aC0.fStep)]), (.slice aList1_a aList1.length aList1_c)]) Try.func8 rfl Try.ntmps8 (by kernel_rfl) (L := []) (W := []) (Mem.start w) ?_
  refine jc_seq ?_
  refine jc_region ?_
  refine toO (by kernel_rfl) (p_a 0 [0] (by kernel_rfl) (fun b => by kernel_rfl) (fun b_1 => jkO ?_))
  refine jo_f [(0, 0)] (by kernel_rfl) ?_
  refine jo_end (by kernel_rfl) ?_
  refine jx_then ?_
  refine jc_seq ?_
  refine jc_region ?_
  refine jo_f [(0, 0)] (by kernel_rfl) ?_
  refine jo_end (by kernel_rfl) ?_
  refine jx_then ?_
  refine jc_seq ?_
  refine jc_region ?_
  refine jo_f [(0, 0), (0, 0)] (by kernel_rfl) ?_
  obtain ⟨t_1, ht_2, h⟩ := bd h
  refine toO (by kernel_rfl) (p_call 0 27 #[(.slice aList1_a aList1.length aList1_c), (.int .i64 1048576)] (by kernel_rfl) (by kernel_rfl) (fun w hm => laws_szChoiceS.calls aList1 1048576 w _ aList1_a aList1.length aList1_c (hm.exRow aList1_h List.not_mem_nil) rfl ht_2) ?_)
  rintro w v w' hm ⟨rfl, hm'⟩
  refine ⟨_, hm.app hm', jkO ?_⟩
  clear hm hm'
  refine jo_f [(0, 0)] (by kernel_rfl) ?_
  refine jo_end (by kernel_rfl) ?_
  refine jx_then ?_
  refine jc_seq ?_
  refine jc_seq ?_
  refine jc_region ?_
  refine jo_f [(0, 0), (0, 0)] (by kernel_rfl) ?_
  refine jo_end (by kernel_rfl) ?_
  refine jx_then ?_
  refine jc_cond (decide (t_1 < 0)) (by kernel_rfl) (fun hc_4 => ?_) (fun hc_4 => ?_)
  · replace h := ifT hc_4 h
    refine jc_seq ?_
    refine jc_region ?_
    refine jo_f [(0, 0)] (by kernel_rfl) ?_
    refine jo_end (by kernel_rfl) ?_
    refine jx_then ?_
    refine jc_ret ?_
    refine jx_thenr ?_
    obtain rfl := Option.some.inj h
    exact jx_ret [] (.bool true) [] rfl (by kernel_rfl) (by kernel_rfl) (fun w hm => ⟨rfl, hm.pick [] (by kernel_rfl) (by kernel_rfl)⟩)
  · replace h := ifF hc_4 h
    refine jc_skip ?_
    refine jx_then ?_
    refine jc_seq ?_
    refine jc_region ?_
    refine jo_f [(0, 0)] (by kernel_rfl) ?_
    obtain ⟨t_2, ht_5, h⟩ := bd h
    refine toO (by kernel_rfl) (p_call 0 13 #[(.agg #[(.int .i16 aC0.fAway), (.int .i16 aC0.fOctave), (.int .i16 aC0.fStep)])] (by kernel_rfl) (by kernel_rfl) (fun w hm => laws_toCosts.calls aC0 w _ ht_5) ?_)
    rintro w v w' hm ⟨rfl, hm'⟩
    refine ⟨_, hm.app hm', jkO ?_⟩
    clear hm hm'
    refine jo_f [(0, 0)] (by kernel_rfl) ?_
    obtain ⟨t_3, ht_6, h⟩ := bd h
    refine toO (by kernel_rfl) (p_call 0 29 #[(.slice aList1_a aList1.length aList1_c)] (by kernel_rfl) (by kernel_rfl) (fun w hm => laws_toChoiceS.calls aList1 w _ aList1_a aList1.length aList1_c (hm.exRow aList1_h List.not_mem_nil) rfl ht_6) ?_)
    rintro w v w' hm ⟨o_7, cap_8, sp_9, _, rfl, hs_10, ho_11, rfl, hm'⟩
    refine ⟨_, hm.app hm', jkO ?_⟩
    clear hm hm'
    obtain ⟨t_4, ht_12, h⟩ := bd h
    refine toO (by kernel_rfl) (p_call 0 28 #[(.agg #[(.int .i16 t_2.fAway), (.int .i16 t_2.fOctave), (.int .i16 t_2.fStep)]), (.slice (o_7.map fun b => ⟨b, 0, none⟩) t_3.length cap_8)] (by kernel_rfl) (by kernel_rfl) (fun w hm => spec_CostOf.calls t_2 t_3 w _ (o_7.map fun b => ⟨b, 0, none⟩) t_3.length cap_8 (hm.ownRow (hh := 1) (o := o_7) (T := 39) (enc := encGChoice) (xs := t_3) (sp := sp_9) (by kernel_rfl) (fun e => (ho_11 e).1) encGChoice_len) rfl ht_12) ?_)
    rintro w v w' hm ⟨rfl, hm'⟩
    refine ⟨_, hm.app hm', jkO ?_⟩
    clear hm hm'
    refine jo_f [(0, 0), (0, 0), (0, 0), (0, 0), (0, 0)] (by kernel_rfl) ?_
    refine jo_end (by kernel_rfl) ?_
    refine jx_then ?_
    refine jc_seq ?_
    refine jc_region ?_
    refine jo_f [(0, 0)] (by kernel_rfl) ?_
    obtain ⟨t_5, ht_13, h⟩ := bd h
    refine toO (by kernel_rfl) (p_call 0 29 #[(.slice aList1_a aList1.length aList1_c)] (by kernel_rfl) (by kernel_rfl) (fun w hm => laws_toChoiceS.calls aList1 w _ aList1_a aList1.length aList1_c (hm.exRow aList1_h List.not_mem_nil) rfl ht_13) ?_)
    rintro w v w' hm ⟨o_14, cap_15, sp_16, _, rfl, hs_17, ho_18, rfl, hm'⟩
    refine ⟨_, hm.app hm', jkO ?_⟩
    clear hm hm'
    refine jo_f [(0, 0)] (by kernel_rfl) ?_
    refine jo_end (by kernel_rfl) ?_
    refine jx_then ?_
    refine jc_seq ?_
    refine jc_region ?_
    refine jo_f [(0, 0)] (by kernel_rfl) ?_
    obtain ⟨t_6, ht_19, h⟩ := bd h
    refine toO (by kernel_rfl) (p_call 0 13 #[(.agg #[(.int .i16 aC0.fAway), (.int .i16 aC0.fOctave), (.int .i16 aC0.fStep)])] (by kernel_rfl) (by kernel_rfl) (fun w hm => laws_toCosts.calls aC0 w _ ht_19) ?_)
    rintro w v w' hm ⟨rfl, hm'⟩
    refine ⟨_, hm.app hm', jkO ?_⟩
    clear hm hm'
    refine jo_f [(0, 0)] (by kernel_rfl) ?_
    obtain ⟨t_7, ht_20, h⟩ := bd h
    refine toO (by kernel_rfl) (p_call 0 30 #[(.agg #[(.int .i16 t_6.fAway), (.int .i16 t_6.fOctave), (.int .i16 t_6.fStep)]), (.slice (o_14.map fun b => ⟨b, 0, none⟩) t_5.length cap_15)] (by kernel_rfl) (by kernel_rfl) (fun w hm => impl_CostOf.calls t_6 t_5 w _ (o_14.map fun b => ⟨b, 0, none⟩) t_5.length cap_15 (hm.ownRow (hh := 2) (o := o_14) (T := 39) (enc := encGChoice) (xs := t_5) (sp := sp_16) (by kernel_rfl) (fun e => (ho_18 e).1) encGChoice_len) rfl ht_20) ?_)
    rintro w v w' hm ⟨rfl, hm'⟩
    refine ⟨_, hm.app hm', jkO ?_⟩
    clear hm hm'
    refine jo_f [(0, 0), (0, 0), (0, 0), (0, 0), (0, 0)] (by kernel_rfl) ?_
    refine jo_end (by kernel_rfl) ?_
    refine jx_then ?_
    refine jc_seq ?_
    refine jc_seq ?_
    refine jc_region ?_
    refine jo_f [(0, 0), (0, 0), (0, 0), (0, 0), (0, 1), (0, 1), (0, 1), (0, 0)] (by kernel_rfl) ?_
    refine jo_end (by kernel_rfl) ?_
    refine jx_then ?_
    refine jc_cond ((t_7.1 != t_4.1) || (t_7.2 != t_4.2)) (by kernel_rfl) (fun hc_22 => ?_) (fun hc_22 => ?_)
    · replace h := ifT hc_22 h
      refine jc_seq ?_
      refine jc_region ?_
      refine jo_f [(0, 0)] (by kernel_rfl) ?_
      refine jo_end (by kernel_rfl) ?_
      refine jx_then ?_
      refine jc_ret ?_
      refine jx_thenr ?_
      obtain rfl := Option.some.inj h
      exact jx_ret [] (.bool false) [] rfl (by kernel_rfl) (by kernel_rfl) (fun w hm => ⟨rfl, hm.pick [] (by kernel_rfl) (by kernel_rfl)⟩)
    · replace h := ifF hc_22 h
      refine jc_skip ?_
      refine jx_then ?_
      refine jc_seq ?_
      refine jc_seq ?_
      refine jc_region ?_
      refine jo_f [(0, 0), (0, 0)] (by kernel_rfl) ?_
      obtain ⟨t_8, ht_23, h⟩ := bd h
      refine toO (by kernel_rfl) (p_call 0 29 #[(.slice aList1_a aList1.length aList1_c)] (by kernel_rfl) (by kernel_rfl) (fun w hm => laws_toChoiceS.calls aList1 w _ aList1_a aList1.length aList1_c (hm.exRow aList1_h List.not_mem_nil) rfl ht_23) ?_)
      rintro w v w' hm ⟨o_24, cap_25, sp_26, _, rfl, hs_27, ho_28, rfl, hm'⟩
      refine ⟨_, hm.app hm', jkO ?_⟩
      clear hm hm'
      obtain ⟨t_9, ht_29, h⟩ := bd h
      refine toO (by kernel_rfl) (p_call 0 31 #[(.slice (o_14.map fun b => ⟨b, 0, none⟩) t_5.length cap_15), (.slice (o_24.map fun b => ⟨b, 0, none⟩) t_8.length cap_25)] (by kernel_rfl) (by kernel_rfl) (fun w hm => laws_eqChoiceS.calls t_5 t_8 w _ (o_14.map fun b => ⟨b, 0, none⟩) t_5.length cap_15 (hm.ownRow (hh := 2) (o := o_14) (T := 39) (enc := encGChoice) (xs := t_5) (sp := sp_16) (by kernel_rfl) (fun e => (ho_18 e).1) encGChoice_len) rfl (o_24.map fun b => ⟨b, 0, none⟩) t_8.length cap_25 (hm.ownRow (hh := 3) (o := o_24) (T := 39) (enc := encGChoice) (xs := t_8) (sp := sp_26) (by kernel_rfl) (fun e => (ho_28 e).1) encGChoice_len) rfl ht_29) ?_)
      rintro w v w' hm ⟨rfl, hm'⟩
      refine ⟨_, hm.app hm', jkO ?_⟩
      clear hm hm'
      refine jo_f [(0, 0)] (by kernel_rfl) ?_
      refine jo_end (by kernel_rfl) ?_
      refine jx_then ?_
      refine jc_cond (!t_9) (by kernel_rfl) (fun hc_30 => ?_) (fun hc_30 => ?_)
      · replace h := ifT hc_30 h
        refine jc_seq ?_
        refine jc_region ?_
        refine jo_f [(0, 0)] (by kernel_rfl) ?_
        refine jo_end (by kernel_rfl) ?_
        refine jx_then ?_
        refine jc_ret ?_
        refine jx_thenr ?_
        obtain rfl := Option.some.inj h
        exact jx_ret [] (.bool false) [] rfl (by kernel_rfl) (by kernel_rfl) (fun w hm => ⟨rfl, hm.pick [] (by kernel_rfl) (by kernel_rfl)⟩)
      · replace h := ifF hc_30 h
        refine jc_skip ?_
        refine jx_then ?_
        refine jc_seq ?_
        refine jc_region ?_
        refine jo_f [(0, 0)] (by kernel_rfl) ?_
        refine jo_end (by kernel_rfl) ?_
        refine jx_then ?_
        refine jc_ret ?_
        obtain rfl := Option.some.inj h
        exact jx_ret [] (.bool true) [] rfl (by kernel_rfl) (by kernel_rfl) (fun w hm => ⟨rfl, hm.pick [] (by kernel_rfl) (by kernel_rfl)⟩)
end Go.Proofs.Ytojommdkbolmgaa
