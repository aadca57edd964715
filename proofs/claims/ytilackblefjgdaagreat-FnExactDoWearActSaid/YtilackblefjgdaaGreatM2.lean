/- Functions of the program that the laws reach: a plain function each, and that the call comes to its answer if the plain function has one. Printed by a program. -/
import Derived.Test.YtilackblefjgdaaGreatT
import Derived.Test.YtilackblefjgdaaGreatSort
import Derived.Test.YtilackblefjgdaaGreatM0
import Derived.Test.YtilackblefjgdaaGreatM1
namespace Go.Proofs.YtilackblefjgdaaGreat
open Eng
set_option linter.unusedVariables false

/-! ### impl.wearCode$1 -/
noncomputable def impl_wearCode_1 (v0 : GLives) : Option (Bool) := (impl_ValidLives v0).bind fun t_1 => some (!t_1)
set_option maxRecDepth 100000 in
theorem impl_wearCode_1.calls (v0 : GLives) (w : World) (r : Bool) (h : impl_wearCode_1 v0 = some r) :
    Calls Tryz.prog 83 #[(.agg #[(.int .i64 v0.fPin), (.int .i64 v0.fHammer)])] w fun e w' => ∃ v, e = .returned v ∧ (v = (.bool r) ∧ Mem w [] [] w') := by
  rw [impl_wearCode_1] at h
  refine enter (args := [(.agg #[(.int .i64 v0.fPin), (.int .i64 v0.fHammer)])]) Tryz.func83 rfl Tryz.ntmps83 (by kernel_rfl) (L := []) (W := []) (Mem.start w) ?_
  refine jc_seq ?_
  refine jc_region ?_
  refine toO (by kernel_rfl) (p_a 0 [0] (by kernel_rfl) (fun b => by kernel_rfl) (fun b_1 => jkO ?_))
  refine jo_f [(0, 0)] (by kernel_rfl) ?_
  refine jo_end (by kernel_rfl) ?_
  refine jx_then ?_
  refine jc_seq ?_
  refine jc_region ?_
  refine jo_f [(0, 0)] (by kernel_rfl) ?_
  obtain ⟨t_1, ht_2, h⟩ := bd h
  refine toO (by kernel_rfl) (p_call 0 84 #[(.agg #[(.int .i64 v0.fPin), (.int .i64 v0.fHammer)])] (by kernel_rfl) (by kernel_rfl) (fun w hm => impl_ValidLives.calls v0 w _ ht_2) ?_)
  rintro w v w' hm ⟨rfl, hm'⟩
  refine ⟨_, hm.app hm', jkO ?_⟩
  clear hm hm'
  refine jo_f [(0, 0), (0, 0)] (by kernel_rfl) ?_
  refine jo_end (by kernel_rfl) ?_
  refine jx_then ?_
  refine jc_ret ?_
  obtain rfl := Option.some.inj h
  exact jx_ret [] (.bool (!t_1)) [] rfl (by kernel_rfl) (by kernel_rfl) (fun w hm => ⟨rfl, hm.pick [] (by kernel_rfl) (by kernel_rfl)⟩)

/-! ### slices.IndexFunc[[]impl.Lives,impl.Lives] -/
noncomputable def slices_IndexFunc_Lives_at_impl_wearCode_1.k_1 : Option (Int) := some (-1)
noncomputable def slices_IndexFunc_Lives_at_impl_wearCode_1.l_3 (s0 : List GLives) : Int → Option ((Int) ⊕ (Int ⊕ Unit))
  | i_2 => (if (decide (i_2 < (s0.length : Int))) = true then (ix s0 i_2).bind fun x_5 => (impl_wearCode_1 x_5).bind fun t_6 => (if t_6 = true then some (.inr (.inl i_2)) else some (.inl (w64 (i_2 + 1)))) else some (.inr (.inr ())))
noncomputable def slices_IndexFunc_Lives_at_impl_wearCode_1 (s0 : List GLives) : Option (Int) := (loop (slices_IndexFunc_Lives_at_impl_wearCode_1.l_3 s0) 0).bind fun t_4 => match t_4 with | .inl p => some p | .inr p => slices_IndexFunc_Lives_at_impl_wearCode_1.k_1
set_option maxRecDepth 100000 in
theorem slices_IndexFunc_Lives_at_impl_wearCode_1.calls (s0 : List GLives) (w : World) (r : Int) (s0_a : Option Addr) (s0_an : Nat) (s0_c : Nat) (s0_h : Rw w s0_a 2 encGLives s0) (s0_hn : s0.length = s0_an) (h : slices_IndexFunc_Lives_at_impl_wearCode_1 s0 = some r) :
    Calls Tryz.prog 113 #[(.slice s0_a s0_an s0_c), (.func (.func 83) #[] #[])] w fun e w' => ∃ v, e = .returned v ∧ (v = (.int .i64 r) ∧ Mem w [] [] w') := by
  subst s0_hn
  rw [slices_IndexFunc_Lives_at_impl_wearCode_1] at h
  refine enter (args := [(.slice s0_a s0.length s0_c), (.func (.func 83) #[] #[])]) Tryz.func113 rfl Tryz.ntmps113 (by kernel_rfl) (L := []) (W := []) (Mem.start w) ?_
  refine jc_seq ?_
  refine jc_region ?_
  refine jo_f [(0, 0)] (by kernel_rfl) ?_
  refine jo_end (by kernel_rfl) ?_
  refine jx_then ?_
  refine jc_seq ?_
  refine jc_seq ?_
  refine jc_region ?_
  refine jo_f [(0, 0), (0, 0), (0, 0)] (by kernel_rfl) ?_
  refine jo_end (by kernel_rfl) ?_
  refine jx_then ?_
  refine jc_meet (fun (_ : Unit) => slices_IndexFunc_Lives_at_impl_wearCode_1.k_1 = some r) (fun (_ : Unit) => [(4, [], (.int .i64 0))]) (fun (_ : Unit) => []) ?_ ?_
  · refine jc_block ?_
    obtain ⟨t_4, ht_40, hr_31⟩ := bd h
    refine jc_loop (fun (s : Int) (x : Unit) => match s, x with | i_2, _ => True) (fun (s : Int) (x : Unit) => match s, x with | i_2, _ => [(0, [], (.slice s0_a s0.length s0_c)), (1, [], (.func (.func 83) #[] #[])), (4, [], (.int .i64 0)), (7, [], (.int .i64 (s0.length : Int))), (8, [], (.int .i64 i_2))]) (fun (s : Int) (x : Unit) => match s, x with | i_2, _ => []) ht_40 () trivial (by kernel_rfl) [] (by kernel_rfl) (by kernel_rfl) ?_
    rintro i_2 _ y_32 _ h
    rw [slices_IndexFunc_Lives_at_impl_wearCode_1.l_3] at h
    refine jc_seq ?_
    refine jc_region ?_
    refine jo_f [(0, 0)] (by kernel_rfl) ?_
    refine jo_end (by kernel_rfl) ?_
    refine jx_then ?_
    refine jc_seq ?_
    refine jc_cond (decide (i_2 < (s0.length : Int))) (by kernel_rfl) (fun hc_34 => ?_) (fun hc_34 => ?_)
    · replace h := ifT hc_34 h
      refine jc_skip ?_
      refine jx_then ?_
      refine jc_seq ?_
      refine jc_block ?_
      refine jc_seq ?_
      refine jc_region ?_
      refine jo_f [(0, 0), (0, 0)] (by kernel_rfl) ?_
      refine jo_end (by kernel_rfl) ?_
      refine jx_then ?_
      refine jc_seq ?_
      refine jc_region ?_
      refine jo_f [(0, 0), (0, 0), (0, 0)] (by kernel_rfl) ?_
      obtain ⟨x_5, hx_35, h⟩ := bd h
      refine toO (by kernel_rfl) (p_idx 0 s0_a s0.length i_2 2 (by kernel_rfl) (by kernel_rfl) (ix_some hx_35).1 (ltn hx_35 rfl) (s0_h.sp hx_35) (jkO ?_))
      refine toO (by kernel_rfl) (p_ld 0 (aB s0_a) (aO s0_a + i_2.toNat * 2) true (encGLives x_5) (by kernel_rfl) (by kernel_rfl) (by kernel_rfl) (fun w hm => ((hm.exRow s0_h List.not_mem_nil).at hx_35)) (jkO ?_))
      obtain ⟨t_6, ht_36, h⟩ := bd h
      refine toO (by kernel_rfl) (p_call 0 83 #[(.agg #[(.int .i64 x_5.fPin), (.int .i64 x_5.fHammer)])] (by kernel_rfl) (by kernel_rfl) (fun w hm => impl_wearCode_1.calls x_5 w _ ht_36) ?_)
      rintro w v w' hm ⟨rfl, hm'⟩
      refine ⟨_, hm.app hm', jkO ?_⟩
      clear hm hm'
      refine jo_end (by kernel_rfl) ?_
      refine jx_then ?_
      refine jc_cond t_6 (by kernel_rfl) (fun hc_37 => ?_) (fun hc_37 => ?_)
      · replace h := ifT hc_37 h
        refine jc_seq ?_
        refine jc_region ?_
        refine jo_f [(0, 0), (0, 0)] (by kernel_rfl) ?_
        refine jo_end (by kernel_rfl) ?_
        refine jx_then ?_
        refine jc_ret ?_
        refine jx_inr ?_
        refine jx_thenr ?_
        refine jx_leaver (.inl i_2) (Option.some.inj h).symm (fun e_38 => ?_)
        subst e_38
        refine jx_inr ?_
        refine jx_thenr ?_
        refine jx_thenr ?_
        obtain rfl := Option.some.inj hr_31
        exact jx_ret [] (.int .i64 i_2) [] rfl (by kernel_rfl) (by kernel_rfl) (fun w hm => ⟨rfl, hm.pick [] (by kernel_rfl) (by kernel_rfl)⟩)
      · replace h := ifF hc_37 h
        refine jc_skip ?_
        refine jx_inn ?_
        refine jx_then ?_
        refine jc_region ?_
        refine jo_f [(0, 0), (0, 0)] (by kernel_rfl) ?_
        refine jo_end (by kernel_rfl) ?_
        exact jx_back (w64 (i_2 + 1)) () (Option.some.inj h).symm trivial [] (by kernel_rfl) (by kernel_rfl) (by kernel_rfl)
    · replace h := ifF hc_34 h
      refine jc_exit ?_
      refine jx_thenx ?_
      refine jx_leave (.inr ()) (Option.some.inj h).symm (fun e_39 => ?_)
      subst e_39
      refine jx_ine ?_
      exact jx_meet () hr_31 (by kernel_rfl) [] (by kernel_rfl) (by kernel_rfl)
  · rintro _ h
    replace h : slices_IndexFunc_Lives_at_impl_wearCode_1.k_1 = some r := h
    rw [slices_IndexFunc_Lives_at_impl_wearCode_1.k_1] at h
    refine jx_then ?_
    refine jc_seq ?_
    refine jc_region ?_
    refine jo_f [(0, 0)] (by kernel_rfl) ?_
    refine jo_end (by kernel_rfl) ?_
    refine jx_then ?_
    refine jc_ret ?_
    obtain rfl := Option.some.inj h
    exact jx_ret [] (.int .i64 (-1)) [] rfl (by kernel_rfl) (by kernel_rfl) (fun w hm => ⟨rfl, hm.pick [] (by kernel_rfl) (by kernel_rfl)⟩)

/-! ### slices.ContainsFunc[[]impl.Lives,impl.Lives] -/
noncomputable def slices_ContainsFunc_Lives_at_impl_wearCode_1 (s0 : List GLives) : Option (Bool) := (slices_IndexFunc_Lives_at_impl_wearCode_1 s0).bind fun t_1 => some (decide (t_1 ≥ 0))
set_option maxRecDepth 100000 in
theorem slices_ContainsFunc_Lives_at_impl_wearCode_1.calls (s0 : List GLives) (w : World) (r : Bool) (s0_a : Option Addr) (s0_an : Nat) (s0_c : Nat) (s0_h : Rw w s0_a 2 encGLives s0) (s0_hn : s0.length = s0_an) (h : slices_ContainsFunc_Lives_at_impl_wearCode_1 s0 = some r) :
    Calls Tryz.prog 82 #[(.slice s0_a s0_an s0_c), (.func (.func 83) #[] #[])] w fun e w' => ∃ v, e = .returned v ∧ (v = (.bool r) ∧ Mem w [] [] w') := by
  subst s0_hn
  rw [slices_ContainsFunc_Lives_at_impl_wearCode_1] at h
  refine enter (args := [(.slice s0_a s0.length s0_c), (.func (.func 83) #[] #[])]) Tryz.func82 rfl Tryz.ntmps82 (by kernel_rfl) (L := []) (W := []) (Mem.start w) ?_
  refine jc_seq ?_
  refine jc_region ?_
  refine jo_f [(0, 0)] (by kernel_rfl) ?_
  refine jo_end (by kernel_rfl) ?_
  refine jx_then ?_
  refine jc_seq ?_
  refine jc_region ?_
  refine jo_f [(0, 0), (0, 0)] (by kernel_rfl) ?_
  obtain ⟨t_1, ht_1, h⟩ := bd h
  refine toO (by kernel_rfl) (p_call 0 113 #[(.slice s0_a s0.length s0_c), (.func (.func 83) #[] #[])] (by kernel_rfl) (by kernel_rfl) (fun w hm => slices_IndexFunc_Lives_at_impl_wearCode_1.calls s0 w _ s0_a s0.length s0_c (hm.exRow s0_h List.not_mem_nil) rfl ht_1) ?_)
  rintro w v w' hm ⟨rfl, hm'⟩
  refine ⟨_, hm.app hm', jkO ?_⟩
  clear hm hm'
  refine jo_f [(0, 0), (0, 0)] (by kernel_rfl) ?_
  refine jo_end (by kernel_rfl) ?_
  refine jx_then ?_
  refine jc_ret ?_
  obtain rfl := Option.some.inj h
  exact jx_ret [] (.bool (decide (t_1 ≥ 0))) [] rfl (by kernel_rfl) (by kernel_rfl) (fun w hm => ⟨rfl, hm.pick [] (by kernel_rfl) (by kernel_rfl)⟩)

/-! ### impl.wearCode -/
noncomputable def impl_wearCode (f0 : GFrame) (w1 : GWear) (lives2 : List GLives) : Option (Int) := (impl_ValidWear f0 w1).bind fun t_1 => (if t_1 = true then (slices_ContainsFunc_Lives_at_impl_wearCode_1 lives2).bind fun t_2 => (impl_unless (!t_2) 1).bind fun t_3 => some t_3 else (impl_unless false 1).bind fun t_4 => some t_4)
set_option maxRecDepth 100000 in
theorem impl_wearCode.calls (f0 : GFrame) (w1 : GWear) (lives2 : List GLives) (w : World) (r : Int) (f0_fHammers_a : Option Addr) (f0_fHammers_an : Nat) (f0_fHammers_c : Nat) (f0_fHammers_h : Rw w f0_fHammers_a 2 encGHammer f0.fHammers) (f0_fHammers_hn : f0.fHammers.length = f0_fHammers_an) (w1_fPins_a : Option Addr) (w1_fPins_an : Nat) (w1_fPins_c : Nat) (w1_fPins_h : Rw w w1_fPins_a 3 encGWornPin w1.fPins) (w1_fPins_hn : w1.fPins.length = w1_fPins_an) (w1_fStrokes_a : Option Addr) (w1_fStrokes_an : Nat) (w1_fStrokes_c : Nat) (w1_fStrokes_h : Rw w w1_fStrokes_a 1 encI64 w1.fStrokes) (w1_fStrokes_hn : w1.fStrokes.length = w1_fStrokes_an) (lives2_a : Option Addr) (lives2_an : Nat) (lives2_c : Nat) (lives2_h : Rw w lives2_a 2 encGLives lives2) (lives2_hn : lives2.length = lives2_an) (h : impl_wearCode f0 w1 lives2 = some r) :
    Calls Tryz.prog 44 #[(.agg #[(.int .i16 f0.fSteps), (.slice f0_fHammers_a f0_fHammers_an f0_fHammers_c)]), (.agg #[(.slice w1_fPins_a w1_fPins_an w1_fPins_c), (.slice w1_fStrokes_a w1_fStrokes_an w1_fStrokes_c)]), (.slice lives2_a lives2_an lives2_c)] w fun e w' => ∃ v, e = .returned v ∧ (v = (.int .i64 r) ∧ Mem w [] [] w') := by
  subst f0_fHammers_hn w1_fPins_hn w1_fStrokes_hn lives2_hn
  rw [impl_wearCode] at h
  refine enter (args := [(.agg #[(.int .i16 f0.fSteps), (.slice f0_fHammers_a f0.fHammers.length f0_fHammers_c)]), (.agg #[(.slice w1_fPins_a w1.fPins.length w1_fPins_c), (.slice w1_fStrokes_a w1.fStrokes.length w1_fStrokes_c)]), (.slice lives2_a lives2.length lives2_c)]) Tryz.func44 rfl Tryz.ntmps44 (by kernel_rfl) (L := []) (W := []) (Mem.start w) ?_
  refine jc_seq ?_
  refine jc_region ?_
  refine toO (by kernel_rfl) (p_a 0 [0] (by kernel_rfl) (fun b => by kernel_rfl) (fun b_1 => jkO ?_))
  refine toO (by kernel_rfl) (p_a 0 [0] (by kernel_rfl) (fun b => by kernel_rfl) (fun b_2 => jkO ?_))
  refine jo_f [(0, 0)] (by kernel_rfl) ?_
  refine jo_end (by kernel_rfl) ?_
  refine jx_then ?_
  refine jc_seq ?_
  refine jc_region ?_
  refine jo_f [(0, 0), (1, 0)] (by kernel_rfl) ?_
  obtain ⟨t_1, ht_3, h⟩ := bd h
  refine toO (by kernel_rfl) (p_call 0 77 #[(.agg #[(.int .i16 f0.fSteps), (.slice f0_fHammers_a f0.fHammers.length f0_fHammers_c)]), (.agg #[(.slice w1_fPins_a w1.fPins.length w1_fPins_c), (.slice w1_fStrokes_a w1.fStrokes.length w1_fStrokes_c)])] (by kernel_rfl) (by kernel_rfl) (fun w hm => impl_ValidWear.calls f0 w1 w _ f0_fHammers_a f0.fHammers.length f0_fHammers_c (hm.exRow f0_fHammers_h List.not_mem_nil) rfl w1_fPins_a w1.fPins.length w1_fPins_c (hm.exRow w1_fPins_h List.not_mem_nil) rfl w1_fStrokes_a w1.fStrokes.length w1_fStrokes_c (hm.exRow w1_fStrokes_h List.not_mem_nil) rfl ht_3) ?_)
  rintro w v w' hm ⟨rfl, hm'⟩
  refine ⟨_, hm.app hm', jkO ?_⟩
  clear hm hm'
  refine jo_f [(0, 0), (0, 1)] (by kernel_rfl) ?_
  refine jo_split 10 t_1 (by kernel_rfl) (fun hc_4 => ?_) (fun hc_4 => ?_)
  · replace h := ifT hc_4 h
    obtain ⟨t_2, ht_5, h⟩ := bd h
    refine toO (by kernel_rfl) (p_call 2 82 #[(.slice lives2_a lives2.length lives2_c), (.func (.func 83) #[] #[])] (by kernel_rfl) (by kernel_rfl) (fun w hm => slices_ContainsFunc_Lives_at_impl_wearCode_1.calls lives2 w _ lives2_a lives2.length lives2_c (hm.exRow lives2_h List.not_mem_nil) rfl ht_5) ?_)
    rintro w v w' hm ⟨rfl, hm'⟩
    refine ⟨_, hm.app hm', jkO ?_⟩
    clear hm hm'
    refine jo_f [(0, 2), (0, 4)] (by kernel_rfl) ?_
    obtain ⟨t_3, ht_6, h⟩ := bd h
    refine toO (by kernel_rfl) (p_call 0 72 #[(.bool (!t_2)), (.int .i64 1)] (by kernel_rfl) (by kernel_rfl) (fun w hm => impl_unless.calls (!t_2) 1 w _ ht_6) ?_)
    rintro w v w' hm ⟨rfl, hm'⟩
    refine ⟨_, hm.app hm', jkO ?_⟩
    clear hm hm'
    refine jo_f [(0, 0)] (by kernel_rfl) ?_
    refine jo_end (by kernel_rfl) ?_
    refine jx_then ?_
    refine jc_ret ?_
    obtain rfl := Option.some.inj h
    exact jx_ret [] (.int .i64 t_3) [] rfl (by kernel_rfl) (by kernel_rfl) (fun w hm => ⟨rfl, hm.pick [] (by kernel_rfl) (by kernel_rfl)⟩)
  · replace h := ifF hc_4 h
    refine jo_f [(0, 3), (0, 3), (0, 5)] (by kernel_rfl) ?_
    obtain ⟨t_4, ht_7, h⟩ := bd h
    refine toO (by kernel_rfl) (p_call 0 72 #[(.bool false), (.int .i64 1)] (by kernel_rfl) (by kernel_rfl) (fun w hm => impl_unless.calls false 1 w _ ht_7) ?_)
    rintro w v w' hm ⟨rfl, hm'⟩
    refine ⟨_, hm.app hm', jkO ?_⟩
    clear hm hm'
    refine jo_f [(0, 0)] (by kernel_rfl) ?_
    refine jo_end (by kernel_rfl) ?_
    refine jx_then ?_
    refine jc_ret ?_
    obtain rfl := Option.some.inj h
    exact jx_ret [] (.int .i64 t_4) [] rfl (by kernel_rfl) (by kernel_rfl) (fun w hm => ⟨rfl, hm.pick [] (by kernel_rfl) (by kernel_rfl)⟩)

/-! ### slices.Clone[[]impl.WornPin,impl.WornPin] -/
noncomputable def slices_Clone_WornPin (s0 : List GWornPin) : Option ((List GWornPin)) := (if ([] : List GWornPin).length + s0.length ≤ 4294967296 then some (([] : List GWornPin) ++ s0) else none)
set_option maxRecDepth 100000 in
theorem slices_Clone_WornPin.calls (s0 : List GWornPin) (w : World) (r : (List GWornPin)) (s0_a : Option Addr) (s0_an : Nat) (s0_c : Nat) (s0_h : Rw w s0_a 3 encGWornPin s0) (s0_hn : s0.length = s0_an) (h : slices_Clone_WornPin s0 = some r) :
    Calls Tryz.prog 98 #[(.slice s0_a s0_an s0_c)] w fun e w' => ∃ v, e = .returned v ∧ (∃ (o0 : Option Nat) (c0 : Nat) (s0 : List Value) (n0 : Nat), r.length = n0 ∧ (o0 ≠ none → n0 ≤ c0 ∧ s0.length = (c0 - n0) * 3) ∧ (o0 = none → r = [] ∧ c0 = 0) ∧ v = .slice (o0.map fun b => ⟨b, 0, none⟩) n0 c0 ∧ Mem w [] [⟨o0, 108, row encGWornPin r s0⟩] w') := by
  subst s0_hn
  rw [slices_Clone_WornPin] at h
  refine enter (args := [(.slice s0_a s0.length s0_c)]) Tryz.func98 rfl Tryz.ntmps98 (by kernel_rfl) (L := []) (W := []) (Mem.start w) ?_
  refine jc_seq ?_
  refine jc_region ?_
  refine jo_f [(0, 0)] (by kernel_rfl) ?_
  refine jo_end (by kernel_rfl) ?_
  refine jx_then ?_
  refine jc_seq ?_
  refine jc_seq ?_
  refine jc_region ?_
  refine jo_f [(0, 0)] (by kernel_rfl) ?_
  by_cases hn_4 : s0_a = none
  · have hx0 : s0 = [] := (nil_of s0_h hn_4)
    replace h : some [] = some r := by simpa [hx0] using h
    refine toO (by kernel_rfl) (p_nil 0 s0_a true true (by kernel_rfl) (by kernel_rfl) (by rw [hn_4]; rfl) (jkO ?_))
    refine jo_end (by kernel_rfl) ?_
    refine jx_then ?_
    refine jc_cond true (by kernel_rfl) (fun hc_5 => ?_) (fun hc_5 => nomatch hc_5)
    refine jc_seq ?_
    refine jc_region ?_
    refine jo_f [(0, 0)] (by kernel_rfl) ?_
    refine jo_end (by kernel_rfl) ?_
    refine jx_then ?_
    refine jc_ret ?_
    refine jx_thenr ?_
    obtain rfl := Option.some.inj h
    refine jx_ghost 108 encGWornPin ?_
    exact jx_ret [] (.slice none 0 0) [] rfl (by kernel_rfl) (by kernel_rfl) (fun w hm => ⟨none, 0, [], 0, rfl, (fun e => absurd rfl e), (fun _ => ⟨rfl, rfl⟩), rfl, hm.pick [0] (by kernel_rfl) (by kernel_rfl)⟩)
  · refine toO (by kernel_rfl) (p_nil 0 s0_a true false (by kernel_rfl) (by kernel_rfl) (by rw [Option.isNone_eq_false_iff.2 (Option.ne_none_iff_isSome.1 hn_4)]; rfl) (jkO ?_))
    refine jo_end (by kernel_rfl) ?_
    refine jx_then ?_
    refine jc_cond false (by kernel_rfl) (fun hc_6 => nomatch hc_6) (fun hc_6 => ?_)
    refine jc_skip ?_
    refine jx_then ?_
    refine jc_seq ?_
    refine jc_region ?_
    refine toO (by kernel_rfl) (p_a 0 [0] (by kernel_rfl) (fun b => by kernel_rfl) (fun b_7 => jkO ?_))
    refine jo_f [(0, 0)] (by kernel_rfl) ?_
    obtain ⟨hg_8, h⟩ := gd h
    refine toO (by kernel_rfl) (p_apn 0 0 (some b_7) 108 0 s0.length 0 3 16 s0_a encGWornPin ([] : List GWornPin) s0 [] (.agg #[(.int .i8 0), (.int .i8 0), (.int .i64 0)]) rfl rfl (by kernel_rfl) (by kernel_rfl) (by kernel_rfl) encGWornPin_len encGWornPin_cell (fun _ => ⟨Nat.le_refl _, by simp⟩) (fun e => nomatch e) (fun w hm => (hm.exRow s0_h List.not_mem_nil)) hg_8 (by kernel_rfl) (by kernel_rfl) (fun o_9 cap_10 sp_11 hs_12 ho_13 => jkO ?_))
    refine jo_f [(0, 0)] (by kernel_rfl) ?_
    refine jo_end (by kernel_rfl) ?_
    refine jx_then ?_
    refine jc_ret ?_
    obtain rfl := Option.some.inj h
    exact jx_ret [] (.slice (o_9.map fun b => ⟨b, 0, none⟩) ((([] : List GWornPin) ++ s0).length) cap_10) [] rfl (by kernel_rfl) (by kernel_rfl) (fun w hm => ⟨o_9, cap_10, sp_11, ((([] : List GWornPin) ++ s0).length), rfl, hs_12, ho_13, rfl, hm.pick [0] (by kernel_rfl) (by kernel_rfl)⟩)

/-! ### slices.Clone[[]int64,int64] -/
noncomputable def slices_Clone_int64 (s0 : List Int) : Option ((List Int)) := (if ([] : List Int).length + s0.length ≤ 4294967296 then some (([] : List Int) ++ s0) else none)
set_option maxRecDepth 100000 in
theorem slices_Clone_int64.calls (s0 : List Int) (w : World) (r : (List Int)) (s0_a : Option Addr) (s0_an : Nat) (s0_c : Nat) (s0_h : Rw w s0_a 1 encI64 s0) (s0_hn : s0.length = s0_an) (h : slices_Clone_int64 s0 = some r) :
    Calls Tryz.prog 99 #[(.slice s0_a s0_an s0_c)] w fun e w' => ∃ v, e = .returned v ∧ (∃ (o0 : Option Nat) (c0 : Nat) (s0 : List Value) (n0 : Nat), r.length = n0 ∧ (o0 ≠ none → n0 ≤ c0 ∧ s0.length = (c0 - n0) * 1) ∧ (o0 = none → r = [] ∧ c0 = 0) ∧ v = .slice (o0.map fun b => ⟨b, 0, none⟩) n0 c0 ∧ Mem w [] [⟨o0, 2, row encI64 r s0⟩] w') := by
  subst s0_hn
  rw [slices_Clone_int64] at h
  refine enter (args := [(.slice s0_a s0.length s0_c)]) Tryz.func99 rfl Tryz.ntmps99 (by kernel_rfl) (L := []) (W := []) (Mem.start w) ?_
  refine jc_seq ?_
  refine jc_region ?_
  refine jo_f [(0, 0)] (by kernel_rfl) ?_
  refine jo_end (by kernel_rfl) ?_
  refine jx_then ?_
  refine jc_seq ?_
  refine jc_seq ?_
  refine jc_region ?_
  refine jo_f [(0, 0)] (by kernel_rfl) ?_
  by_cases hn_4 : s0_a = none
  · have hx0 : s0 = [] := (nil_of s0_h hn_4)
    replace h : some [] = some r := by simpa [hx0] using h
    refine toO (by kernel_rfl) (p_nil 0 s0_a true true (by kernel_rfl) (by kernel_rfl) (by rw [hn_4]; rfl) (jkO ?_))
    refine jo_end (by kernel_rfl) ?_
    refine jx_then ?_
    refine jc_cond true (by kernel_rfl) (fun hc_5 => ?_) (fun hc_5 => nomatch hc_5)
    refine jc_seq ?_
    refine jc_region ?_
    refine jo_f [(0, 0)] (by kernel_rfl) ?_
    refine jo_end (by kernel_rfl) ?_
    refine jx_then ?_
    refine jc_ret ?_
    refine jx_thenr ?_
    obtain rfl := Option.some.inj h
    refine jx_ghost 2 encI64 ?_
    exact jx_ret [] (.slice none 0 0) [] rfl (by kernel_rfl) (by kernel_rfl) (fun w hm => ⟨none, 0, [], 0, rfl, (fun e => absurd rfl e), (fun _ => ⟨rfl, rfl⟩), rfl, hm.pick [0] (by kernel_rfl) (by kernel_rfl)⟩)
  · refine toO (by kernel_rfl) (p_nil 0 s0_a true false (by kernel_rfl) (by kernel_rfl) (by rw [Option.isNone_eq_false_iff.2 (Option.ne_none_iff_isSome.1 hn_4)]; rfl) (jkO ?_))
    refine jo_end (by kernel_rfl) ?_
    refine jx_then ?_
    refine jc_cond false (by kernel_rfl) (fun hc_6 => nomatch hc_6) (fun hc_6 => ?_)
    refine jc_skip ?_
    refine jx_then ?_
    refine jc_seq ?_
    refine jc_region ?_
    refine toO (by kernel_rfl) (p_a 0 [0] (by kernel_rfl) (fun b => by kernel_rfl) (fun b_7 => jkO ?_))
    refine jo_f [(0, 0)] (by kernel_rfl) ?_
    obtain ⟨hg_8, h⟩ := gd h
    refine toO (by kernel_rfl) (p_apn 0 0 (some b_7) 2 0 s0.length 0 1 8 s0_a encI64 ([] : List Int) s0 [] (.int .i64 0) rfl rfl (by kernel_rfl) (by kernel_rfl) (by kernel_rfl) encI64_len encI64_cell (fun _ => ⟨Nat.le_refl _, by simp⟩) (fun e => nomatch e) (fun w hm => (hm.exRow s0_h List.not_mem_nil)) hg_8 (by kernel_rfl) (by kernel_rfl) (fun o_9 cap_10 sp_11 hs_12 ho_13 => jkO ?_))
    refine jo_f [(0, 0)] (by kernel_rfl) ?_
    refine jo_end (by kernel_rfl) ?_
    refine jx_then ?_
    refine jc_ret ?_
    obtain rfl := Option.some.inj h
    exact jx_ret [] (.slice (o_9.map fun b => ⟨b, 0, none⟩) ((([] : List Int) ++ s0).length) cap_10) [] rfl (by kernel_rfl) (by kernel_rfl) (fun w hm => ⟨o_9, cap_10, sp_11, ((([] : List Int) ++ s0).length), rfl, hs_12, ho_13, rfl, hm.pick [0] (by kernel_rfl) (by kernel_rfl)⟩)

/-! ### (impl.Wear).own -/
noncomputable def impl_Wear_own (w0 : GWear) : Option (GWear) := (slices_Clone_WornPin w0.fPins).bind fun t_1 => (slices_Clone_int64 w0.fStrokes).bind fun t_2 => some (⟨t_1, t_2⟩ : GWear)
set_option maxRecDepth 100000 in
theorem impl_Wear_own.calls (w0 : GWear) (w : World) (r : GWear) (w0_fPins_a : Option Addr) (w0_fPins_an : Nat) (w0_fPins_c : Nat) (w0_fPins_h : Rw w w0_fPins_a 3 encGWornPin w0.fPins) (w0_fPins_hn : w0.fPins.length = w0_fPins_an) (w0_fStrokes_a : Option Addr) (w0_fStrokes_an : Nat) (w0_fStrokes_c : Nat) (w0_fStrokes_h : Rw w w0_fStrokes_a 1 encI64 w0.fStrokes) (w0_fStrokes_hn : w0.fStrokes.length = w0_fStrokes_an) (h : impl_Wear_own w0 = some r) :
    Calls Tryz.prog 74 #[(.agg #[(.slice w0_fPins_a w0_fPins_an w0_fPins_c), (.slice w0_fStrokes_a w0_fStrokes_an w0_fStrokes_c)])] w fun e w' => ∃ v, e = .returned v ∧ (∃ (o0 : Option Nat) (c0 : Nat) (s0 : List Value) (n0 : Nat), r.fPins.length = n0 ∧ (o0 ≠ none → n0 ≤ c0 ∧ s0.length = (c0 - n0) * 3) ∧ (o0 = none → r.fPins = [] ∧ c0 = 0) ∧ ∃ (o1 : Option Nat) (c1 : Nat) (s1 : List Value) (n1 : Nat), r.fStrokes.length = n1 ∧ (o1 ≠ none → n1 ≤ c1 ∧ s1.length = (c1 - n1) * 1) ∧ (o1 = none → r.fStrokes = [] ∧ c1 = 0) ∧ v = .agg #[.slice (o0.map fun b => ⟨b, 0, none⟩) n0 c0, .slice (o1.map fun b => ⟨b, 0, none⟩) n1 c1] ∧ Mem w [] [⟨o0, 108, row encGWornPin r.fPins s0⟩, ⟨o1, 2, row encI64 r.fStrokes s1⟩] w') := by
  subst w0_fPins_hn w0_fStrokes_hn
  rw [impl_Wear_own] at h
  refine enter (args := [(.agg #[(.slice w0_fPins_a w0.fPins.length w0_fPins_c), (.slice w0_fStrokes_a w0.fStrokes.length w0_fStrokes_c)])]) Tryz.func74 rfl Tryz.ntmps74 (by kernel_rfl) (L := []) (W := []) (Mem.start w) ?_
  refine jc_seq ?_
  refine jc_region ?_
  refine toO (by kernel_rfl) (p_a 0 [0] (by kernel_rfl) (fun b => by kernel_rfl) (fun b_1 => jkO ?_))
  refine toO (by kernel_rfl) (p_a 0 [0] (by kernel_rfl) (fun b => by kernel_rfl) (fun b_2 => jkO ?_))
  refine jo_end (by kernel_rfl) ?_
  refine jx_then ?_
  refine jc_seq ?_
  refine jc_draw [⟨some b_1, 37, [(.slice w0_fPins_a w0.fPins.length w0_fPins_c), (.slice w0_fStrokes_a w0.fStrokes.length w0_fStrokes_c)]⟩] 8 (by kernel_rfl) (by kernel_rfl) ?_
  refine jd_f [⟨0, 0, 0⟩, ⟨1, 0, 0⟩, ⟨3, 0, 0⟩, ⟨4, 0, 0⟩] 4 (by kernel_rfl) (by kernel_rfl) (fun w h => h.pick [0] (by kernel_rfl) (by kernel_rfl)) (by kernel_rfl) (by kernel_rfl) ?_
  obtain ⟨t_1, ht_15, h⟩ := bd h
  refine toD 2 (by kernel_rfl) (p_call 0 98 #[(.slice w0_fPins_a w0.fPins.length w0_fPins_c)] (by kernel_rfl) (by kernel_rfl) (fun w hm => slices_Clone_WornPin.calls w0.fPins w _ w0_fPins_a w0.fPins.length w0_fPins_c (hm.exRow w0_fPins_h List.not_mem_nil) rfl ht_15) ?_)
  rintro w v w' hm ⟨o_16, cap_17, sp_18, _, rfl, hs_19, ho_20, rfl, hm'⟩
  refine ⟨_, hm.app hm', jkD (fun w h => h.pick [0] (by kernel_rfl) (by kernel_rfl)) ?_⟩
  clear hm hm'
  obtain ⟨t_2, ht_21, h⟩ := bd h
  refine toD 5 (by kernel_rfl) (p_call 0 99 #[(.slice w0_fStrokes_a w0.fStrokes.length w0_fStrokes_c)] (by kernel_rfl) (by kernel_rfl) (fun w hm => slices_Clone_int64.calls w0.fStrokes w _ w0_fStrokes_a w0.fStrokes.length w0_fStrokes_c (hm.exRow w0_fStrokes_h List.not_mem_nil) rfl ht_21) ?_)
  rintro w v w' hm ⟨o_22, cap_23, sp_24, _, rfl, hs_25, ho_26, rfl, hm'⟩
  refine ⟨_, hm.app hm', jkD (fun w h => h.pick [0] (by kernel_rfl) (by kernel_rfl)) ?_⟩
  clear hm hm'
  refine jd_f [⟨6, 0, 0⟩] 1 (by kernel_rfl) (by kernel_rfl) (fun w h => h.pick [0] (by kernel_rfl) (by kernel_rfl)) (by kernel_rfl) (by kernel_rfl) ?_
  refine toD 7 (by kernel_rfl) (p_s 0 [1] (by kernel_rfl) (by kernel_rfl) (jkD (fun w h => h.pick [0] (by kernel_rfl) (by kernel_rfl)) ?_))
  refine jd_end (by kernel_rfl) ?_
  refine jx_then ?_
  refine jc_ret ?_
  obtain rfl := Option.some.inj h
  exact jx_ret [1] (.agg #[(.slice (o_16.map fun b => ⟨b, 0, none⟩) t_1.length cap_17), (.slice (o_22.map fun b => ⟨b, 0, none⟩) t_2.length cap_23)]) [(b_2, b_2), (b_2, b_2)] rfl (by kernel_rfl) (by kernel_rfl) (fun w hm => ⟨o_16, cap_17, sp_18, t_1.length, rfl, hs_19, ho_20, o_22, cap_23, sp_24, t_2.length, rfl, hs_25, ho_26, rfl, hm.pick [2, 3] (by kernel_rfl) (by kernel_rfl)⟩)

/-! ### (impl.Wear).drum -/
noncomputable def impl_Wear_drum.k_2 (a_1 : Arr 96 Int) : Option ((Arr 96 Int)) := some a_1
noncomputable def impl_Wear_drum.l_5 (w0 : GWear) : ((Arr 96 Int) × Int) → Option (((Arr 96 Int) × Int) ⊕ ((Arr 96 Int)))
  | (a_3, i_4) => (if (decide (i_4 < (w0.fPins.length : Int))) = true then (ix w0.fPins i_4).bind fun x_7 => (impl_Drum_put a_3 (w64 x_7.fStep) (w64 x_7.fTrack) true).bind fun t_8 => some (.inl (t_8, (w64 (i_4 + 1)))) else some (.inr a_3))
noncomputable def impl_Wear_drum (w0 : GWear) : Option ((Arr 96 Int)) := (loop (impl_Wear_drum.l_5 w0) ((Arr.rep 96 0), 0)).bind fun t_6 => impl_Wear_drum.k_2 t_6
set_option maxRecDepth 100000 in
theorem impl_Wear_drum.calls (w0 : GWear) (w : World) (r : (Arr 96 Int)) (w0_fPins_a : Option Addr) (w0_fPins_an : Nat) (w0_fPins_c : Nat) (w0_fPins_h : Rw w w0_fPins_a 3 encGWornPin w0.fPins) (w0_fPins_hn : w0.fPins.length = w0_fPins_an) (w0_fStrokes_a : Option Addr) (w0_fStrokes_an : Nat) (w0_fStrokes_c : Nat) (w0_fStrokes_h : Rw w w0_fStrokes_a 1 encI64 w0.fStrokes) (w0_fStrokes_hn : w0.fStrokes.length = w0_fStrokes_an) (h : impl_Wear_drum w0 = some r) :
    Calls Tryz.prog 76 #[(.agg #[(.slice w0_fPins_a w0_fPins_an w0_fPins_c), (.slice w0_fStrokes_a w0_fStrokes_an w0_fStrokes_c)])] w fun e w' => ∃ v, e = .returned v ∧ (v = (.agg (row encU32 r.1 []).toArray) ∧ Mem w [] [] w') := by
  subst w0_fPins_hn w0_fStrokes_hn
  rw [impl_Wear_drum] at h
  refine enter (args := [(.agg #[(.slice w0_fPins_a w0.fPins.length w0_fPins_c), (.slice w0_fStrokes_a w0.fStrokes.length w0_fStrokes_c)])]) Tryz.func76 rfl Tryz.ntmps76 (by kernel_rfl) (L := []) (W := []) (Mem.start w) ?_
  refine jc_seq ?_
  refine jc_region ?_
  refine toO (by kernel_rfl) (p_a 0 [0] (by kernel_rfl) (fun b => by kernel_rfl) (fun b_1 => jkO ?_))
  refine toO (by kernel_rfl) (p_a 0 [0] (by kernel_rfl) (fun b => by kernel_rfl) (fun b_2 => jkO ?_))
  refine jo_end (by kernel_rfl) ?_
  refine jx_then ?_
  refine jc_seq ?_
  refine jc_region ?_
  refine jo_f [(0, 0)] (by kernel_rfl) ?_
  refine toO (by kernel_rfl) (p_a 0 [0] (by kernel_rfl) (fun b => by kernel_rfl) (fun b_3 => jkO ?_))
  refine toO (by kernel_rfl) (p_sA 0 2 b_3 96 1 89 encU32 (Arr.rep 96 0) (Arr.rep 96 0) (by kernel_rfl) (by kernel_rfl) (by kernel_rfl) encU32_len encU32_cell (by kernel_rfl) (jkO ?_))
  refine jo_end (by kernel_rfl) ?_
  refine jx_then ?_
  refine jc_seq ?_
  refine jc_seq ?_
  refine jc_region ?_
  refine jo_f [(0, 0), (0, 0), (0, 0), (0, 0)] (by kernel_rfl) ?_
  refine jo_end (by kernel_rfl) ?_
  refine jx_then ?_
  refine jc_meet (fun (j : (Arr 96 Int)) => match j with | a_1 => impl_Wear_drum.k_2 a_1 = some r) (fun (j : (Arr 96 Int)) => match j with | a_1 => [(2, [], (.pointer (some ⟨b_2, 0, none⟩))), (3, [], (.pointer (some ⟨b_3, 0, none⟩)))]) (fun (j : (Arr 96 Int)) => match j with | a_1 => [⟨some b_1, 37, [(.slice w0_fPins_a w0.fPins.length w0_fPins_c), (.slice w0_fStrokes_a w0.fStrokes.length w0_fStrokes_c)]⟩, ⟨(some b_2), 89, row encU32 ((Arr.rep 96 0).1) []⟩, ⟨(some b_3), 89, row encU32 a_1.1 []⟩]) ?_ ?_
  · refine jc_block ?_
    obtain ⟨t_6, ht_79, hr_71⟩ := bd h
    refine jc_loop (fun (s : (Arr 96 Int) × Int) (x : Unit) => match s, x with | ⟨a_3, i_4⟩, _ => True) (fun (s : (Arr 96 Int) × Int) (x : Unit) => match s, x with | ⟨a_3, i_4⟩, _ => [(2, [], (.pointer (some ⟨b_2, 0, none⟩))), (3, [], (.pointer (some ⟨b_3, 0, none⟩))), (8, [], (.slice w0_fPins_a w0.fPins.length w0_fPins_c)), (9, [], (.int .i64 (w0.fPins.length : Int))), (10, [], (.int .i64 i_4))]) (fun (s : (Arr 96 Int) × Int) (x : Unit) => match s, x with | ⟨a_3, i_4⟩, _ => [⟨some b_1, 37, [(.slice w0_fPins_a w0.fPins.length w0_fPins_c), (.slice w0_fStrokes_a w0.fStrokes.length w0_fStrokes_c)]⟩, ⟨(some b_2), 89, row encU32 ((Arr.rep 96 0).1) []⟩, ⟨(some b_3), 89, row encU32 a_3.1 []⟩]) ht_79 () trivial (by kernel_rfl) [0, 1, 2] (by kernel_rfl) (by kernel_rfl) ?_
    rintro ⟨a_3, i_4⟩ _ y_72 _ h
    rw [impl_Wear_drum.l_5] at h
    refine jc_seq ?_
    refine jc_region ?_
    refine jo_f [(0, 0)] (by kernel_rfl) ?_
    refine jo_end (by kernel_rfl) ?_
    refine jx_then ?_
    refine jc_seq ?_
    refine jc_cond (decide (i_4 < (w0.fPins.length : Int))) (by kernel_rfl) (fun hc_74 => ?_) (fun hc_74 => ?_)
    · replace h := ifT hc_74 h
      refine jc_skip ?_
      refine jx_then ?_
      refine jc_seq ?_
      refine jc_block ?_
      refine jc_seq ?_
      refine jc_region ?_
      obtain ⟨x_7, hx_75, h⟩ := bd h
      refine toO (by kernel_rfl) (p_idx 0 w0_fPins_a w0.fPins.length i_4 3 (by kernel_rfl) (by kernel_rfl) (ix_some hx_75).1 (ltn hx_75 rfl) (w0_fPins_h.sp hx_75) (jkO ?_))
      refine toO (by kernel_rfl) (p_ld 0 (aB w0_fPins_a) (aO w0_fPins_a + i_4.toNat * 3) true (encGWornPin x_7) (by kernel_rfl) (by kernel_rfl) (by kernel_rfl) (fun w hm => ((hm.exRow w0_fPins_h List.not_mem_nil).at hx_75)) (jkO ?_))
      refine toO (by kernel_rfl) (p_a 0 [0] (by kernel_rfl) (fun b => by kernel_rfl) (fun b_76 => jkO ?_))
      refine toO (by kernel_rfl) (p_s 0 [3] (by kernel_rfl) (by kernel_rfl) (jkO ?_))
      refine jo_end (by kernel_rfl) ?_
      refine jx_then ?_
      refine jc_region ?_
      refine jo_f [(0, 0), (3, 0), (0, 0), (0, 0), (3, 0), (0, 0)] (by kernel_rfl) ?_
      obtain ⟨t_8, ht_77, h⟩ := bd h
      refine toO (by kernel_rfl) (p_call 0 101 #[(.pointer (some ⟨b_3, 0, none⟩)), (.int .i64 (w64 x_7.fStep)), (.int .i64 (w64 x_7.fTrack)), (.bool true)] (by kernel_rfl) (by kernel_rfl) (fun w hm => impl_Drum_put.calls a_3 (w64 x_7.fStep) (w64 x_7.fTrack) true w _ b_3 (hm.pass (N := [⟨(some b_3), 89, row encU32 a_3.1 []⟩]) [2] (by kernel_rfl) (by kernel_rfl)) ht_77) ?_)
      rintro w v w' hm ⟨rfl, hm'⟩
      refine ⟨_, hm.appW (ps := [(2, ⟨(some b_3), 89, row encU32 t_8.1 []⟩)]) (N := []) hm' (by kernel_rfl) (by kernel_rfl), jkO ?_⟩
      clear hm hm'
      refine jo_end (by kernel_rfl) ?_
      refine jx_inn ?_
      refine jx_then ?_
      refine jc_region ?_
      refine jo_f [(0, 0), (0, 0)] (by kernel_rfl) ?_
      refine jo_end (by kernel_rfl) ?_
      exact jx_back (t_8, (w64 (i_4 + 1))) () (Option.some.inj h).symm trivial [0, 1, 2] (by kernel_rfl) (by kernel_rfl) (by kernel_rfl)
    · replace h := ifF hc_74 h
      refine jc_exit ?_
      refine jx_thenx ?_
      refine jx_leave a_3 (Option.some.inj h).symm (fun e_78 => ?_)
      subst e_78
      refine jx_ine ?_
      exact jx_meet a_3 hr_71 (by kernel_rfl) [0, 1, 2] (by kernel_rfl) (by kernel_rfl)
  · rintro a_1 h
    replace h : impl_Wear_drum.k_2 a_1 = some r := h
    rw [impl_Wear_drum.k_2] at h
    refine jx_then ?_
    refine jc_seq ?_
    refine jc_region ?_
    refine toO (by kernel_rfl) (p_ldA 0 2 b_3 96 1 89 encU32 a_1 (by kernel_rfl) (by kernel_rfl) (by kernel_rfl) encU32_len (by kernel_rfl) (jkO ?_))
    refine toO (by kernel_rfl) (p_sA 0 1 b_2 96 1 89 encU32 (Arr.rep 96 0) a_1 (by kernel_rfl) (by kernel_rfl) (by kernel_rfl) encU32_len encU32_cell (by kernel_rfl) (jkO ?_))
    refine jo_end (by kernel_rfl) ?_
    refine jx_then ?_
    refine jc_ret ?_
    obtain rfl := Option.some.inj h
    exact jx_retV rfl (rq_arr (b := b_2) (T' := 89) (hh := 1) (mm := 1) encU32 a_1 (by kernel_rfl) (by kernel_rfl) encU32_len (by kernel_rfl) rq_nil) (fun w hm => ⟨rfl, hm.pick [] (by kernel_rfl) (by kernel_rfl)⟩)

/-! ### (impl.Frame).byTrack$1 -/
noncomputable def impl_Frame_byTrack_1 (p_0 : Int) (track1 : Int) (p2 : List Int) : Option ((List Int)) := (ix p2 track1).bind fun x_1 => (ix p2 track1).bind fun x_2 => some (p2.set track1.toNat (w64 (x_1 + 1)))
set_option maxRecDepth 100000 in
theorem impl_Frame_byTrack_1.calls (p_0 : Int) (track1 : Int) (p2 : List Int) (w : World) (r : (List Int)) (p2_b : Nat) (p2_o : Option Nat) (p2_on : Nat) (p2_c : Nat) (p2_sp : List Value) (p2_hn : p2.length = p2_on) (p2_hs : p2_o ≠ none → p2_on ≤ p2_c ∧ p2_sp.length = (p2_c - p2_on) * 1) (p2_ho : p2_o = none → p2 = [] ∧ p2_c = 0) (hm0 : Mem w (bs [some p2_b, p2_o]) [⟨some p2_b, 27, [(.slice (p2_o.map fun b => ⟨b, 0, none⟩) p2_on p2_c)]⟩, ⟨p2_o, 2, row encI64 p2 p2_sp⟩] w) (h : impl_Frame_byTrack_1 p_0 track1 p2 = some r) :
    Calls Tryz.prog 100 #[(.int .i64 p_0), (.int .i64 track1), (.pointer (some ⟨p2_b, 0, none⟩))] w fun e w' => ∃ v, e = .returned v ∧ (r.length = p2_on ∧ (p2_o = none → r = [] ∧ p2_c = 0) ∧ v = .tuple #[] ∧ Mem w (bs [some p2_b, p2_o]) [⟨some p2_b, 27, [(.slice (p2_o.map fun b => ⟨b, 0, none⟩) p2_on p2_c)]⟩, ⟨p2_o, 2, row encI64 r p2_sp⟩] w') := by
  subst p2_hn
  rw [impl_Frame_byTrack_1] at h
  refine enter (args := [(.int .i64 p_0), (.int .i64 track1), (.pointer (some ⟨p2_b, 0, none⟩))]) Tryz.func100 rfl Tryz.ntmps100 (by kernel_rfl) (L := [⟨some p2_b, 27, [(.slice (p2_o.map fun b => ⟨b, 0, none⟩) p2.length p2_c)]⟩, ⟨p2_o, 2, row encI64 p2 p2_sp⟩]) (W := bs [some p2_b, p2_o]) hm0 ?_
  refine jc_region ?_
  refine jo_f [(0, 0), (0, 0)] (by kernel_rfl) ?_
  obtain ⟨x_1, hx_1, h⟩ := bd h
  refine toO (by kernel_rfl) (p_idx 0 (p2_o.map fun b => ⟨b, 0, none⟩) p2.length track1 1 (by kernel_rfl) (by kernel_rfl) (ix_some hx_1).1 (ltn hx_1 rfl) (spo p2_ho hx_1) (jkO ?_))
  refine toO (by kernel_rfl) (p_ld 0 (aB (p2_o.map fun b => ⟨b, 0, none⟩)) (aO (p2_o.map fun b => ⟨b, 0, none⟩) + track1.toNat * 1) false (encI64 x_1) (by kernel_rfl) (by kernel_rfl) (by kernel_rfl) (fun w hm => ((hm.ownRow (hh := 1) (o := p2_o) (T := 2) (enc := encI64) (xs := p2) (sp := p2_sp) (by kernel_rfl) (fun e => (p2_ho e).1) encI64_len).at hx_1)) (jkO ?_))
  refine jo_f [(0, 0)] (by kernel_rfl) ?_
  obtain ⟨x_2, hx_2, h⟩ := bd h
  refine toO (by kernel_rfl) (p_idx 0 (p2_o.map fun b => ⟨b, 0, none⟩) p2.length track1 1 (by kernel_rfl) (by kernel_rfl) (ix_some hx_2).1 (ltn hx_2 rfl) (spo p2_ho hx_2) (jkO ?_))
  refine toO (by kernel_rfl) (p_strO 0 1 p2_o 2 encI64 p2 p2_sp track1 (w64 (x_1 + 1)) 1 0 [(.int .i64 (w64 (x_1 + 1)))] (by kernel_rfl) (by kernel_rfl) (by kernel_rfl) (fun e => (p2_ho e).1) encI64_len hx_2 (by kernel_rfl) (by kernel_rfl) (jkO ?_))
  refine jo_end (by kernel_rfl) ?_
  refine jx_fall ?_
  obtain rfl := Option.some.inj h
  exact jx_ret [] (.tuple #[]) [] rfl (by kernel_rfl) (by kernel_rfl) (fun w hm => ⟨(List.length_set.trans rfl), (set_ho p2_ho), rfl, hm.pick [0, 1] (by kernel_rfl) (by kernel_rfl)⟩)

/-! ### (impl.Frame).pins -/
noncomputable def impl_Frame_pins_at_impl_Frame_byTrack_1.k_2 (xs_1 : List Int) : Option ((List Int)) := some xs_1
noncomputable def impl_Frame_pins_at_impl_Frame_byTrack_1.k_9 (i_4 : Int) (xs_8 : List Int) : Option (((List Int) × Int) ⊕ ((List Int))) := some (.inl (xs_8, (w64 (i_4 + 1))))
noncomputable def impl_Frame_pins_at_impl_Frame_byTrack_1.l_12 (d1 : Arr 96 Int) (i_4 : Int) (t_7 : Int) : ((List Int) × Int) → Option (((List Int) × Int) ⊕ ((List Int)))
  | (xs_10, i_11) => (if (decide (i_11 < t_7)) = true then (impl_Drum_has d1 i_4 i_11).bind fun t_14 => (if t_14 = true then (impl_Frame_byTrack_1 i_4 i_11 xs_10).bind fun t_15 => some (.inl (t_15, (w64 (i_11 + 1)))) else some (.inl (xs_10, (w64 (i_11 + 1))))) else some (.inr xs_10))
noncomputable def impl_Frame_pins_at_impl_Frame_byTrack_1.l_5 (f0 : GFrame) (d1 : Arr 96 Int) : ((List Int) × Int) → Option (((List Int) × Int) ⊕ ((List Int)))
  | (xs_3, i_4) => (if (decide (i_4 < (w64 f0.fSteps))) = true then (impl_size_Hammer f0.fHammers).bind fun t_7 => (loop (impl_Frame_pins_at_impl_Frame_byTrack_1.l_12 d1 i_4 t_7) (xs_3, 0)).bind fun t_13 => impl_Frame_pins_at_impl_Frame_byTrack_1.k_9 i_4 t_13 else some (.inr xs_3))
noncomputable def impl_Frame_pins_at_impl_Frame_byTrack_1 (f0 : GFrame) (d1 : Arr 96 Int) (g2c0 : List Int) : Option ((List Int)) := (loop (impl_Frame_pins_at_impl_Frame_byTrack_1.l_5 f0 d1) (g2c0, 0)).bind fun t_6 => impl_Frame_pins_at_impl_Frame_byTrack_1.k_2 t_6
set_option maxRecDepth 100000 in
theorem impl_Frame_pins_at_impl_Frame_byTrack_1.calls (f0 : GFrame) (d1 : Arr 96 Int) (g2c0 : List Int) (w : World) (r : (List Int)) (f0_fHammers_a : Option Addr) (f0_fHammers_an : Nat) (f0_fHammers_c : Nat) (f0_fHammers_h : Rw w f0_fHammers_a 2 encGHammer f0.fHammers) (f0_fHammers_hn : f0.fHammers.length = f0_fHammers_an) (g2c0_b : Nat) (g2c0_o : Option Nat) (g2c0_on : Nat) (g2c0_c : Nat) (g2c0_sp : List Value) (g2c0_hn : g2c0.length = g2c0_on) (g2c0_hs : g2c0_o ≠ none → g2c0_on ≤ g2c0_c ∧ g2c0_sp.length = (g2c0_c - g2c0_on) * 1) (g2c0_ho : g2c0_o = none → g2c0 = [] ∧ g2c0_c = 0) (hm0 : Mem w (bs [some g2c0_b, g2c0_o]) [⟨some g2c0_b, 27, [(.slice (g2c0_o.map fun b => ⟨b, 0, none⟩) g2c0_on g2c0_c)]⟩, ⟨g2c0_o, 2, row encI64 g2c0 g2c0_sp⟩] w) (f0_fHammers_ha : f0.fHammers ≠ [] → aB f0_fHammers_a ∉ bs [some g2c0_b, g2c0_o]) (h : impl_Frame_pins_at_impl_Frame_byTrack_1 f0 d1 g2c0 = some r) :
    Calls Tryz.prog 92 #[(.agg #[(.int .i16 f0.fSteps), (.slice f0_fHammers_a f0_fHammers_an f0_fHammers_c)]), (.agg (row encU32 d1.1 []).toArray), (.func (.func 100) #[] #[(.pointer (some ⟨g2c0_b, 0, none⟩))])] w fun e w' => ∃ v, e = .returned v ∧ (r.length = g2c0_on ∧ (g2c0_o = none → r = [] ∧ g2c0_c = 0) ∧ v = .tuple #[] ∧ Mem w (bs [some g2c0_b, g2c0_o]) [⟨some g2c0_b, 27, [(.slice (g2c0_o.map fun b => ⟨b, 0, none⟩) g2c0_on g2c0_c)]⟩, ⟨g2c0_o, 2, row encI64 r g2c0_sp⟩] w') := by
  subst f0_fHammers_hn g2c0_hn
  rw [impl_Frame_pins_at_impl_Frame_byTrack_1] at h
  refine enter (args := [(.agg #[(.int .i16 f0.fSteps), (.slice f0_fHammers_a f0.fHammers.length f0_fHammers_c)]), (.agg (row encU32 d1.1 []).toArray), (.func (.func 100) #[] #[(.pointer (some ⟨g2c0_b, 0, none⟩))])]) Tryz.func92 rfl Tryz.ntmps92 (by kernel_rfl) (L := [⟨some g2c0_b, 27, [(.slice (g2c0_o.map fun b => ⟨b, 0, none⟩) g2c0.length g2c0_c)]⟩, ⟨g2c0_o, 2, row encI64 g2c0 g2c0_sp⟩]) (W := bs [some g2c0_b, g2c0_o]) hm0 ?_
  refine jc_seq ?_
  refine jc_region ?_
  refine toO (by kernel_rfl) (p_a 0 [0] (by kernel_rfl) (fun b => by kernel_rfl) (fun b_1 => jkO ?_))
  refine toO (by kernel_rfl) (p_a 0 [0] (by kernel_rfl) (fun b => by kernel_rfl) (fun b_2 => jkO ?_))
  refine jo_end (by kernel_rfl) ?_
  refine jx_then ?_
  refine jc_seq ?_
  refine jc_region ?_
  refine jo_f [(0, 0), (2, 0), (0, 0), (0, 0)] (by kernel_rfl) ?_
  refine jo_end (by kernel_rfl) ?_
  refine jx_then ?_
  refine jc_meet (fun (j : (List Int)) => match j with | xs_1 => impl_Frame_pins_at_impl_Frame_byTrack_1.k_2 xs_1 = some r ∧ (xs_1.length = g2c0.length) ∧ ((g2c0_o = none → xs_1 = [] ∧ g2c0_c = 0))) (fun (j : (List Int)) => match j with | xs_1 => []) (fun (j : (List Int)) => match j with | xs_1 => [⟨some g2c0_b, 27, [(.slice (g2c0_o.map fun b => ⟨b, 0, none⟩) g2c0.length g2c0_c)]⟩, ⟨g2c0_o, 2, row encI64 xs_1 g2c0_sp⟩, ⟨some b_1, 42, [(.int .i16 f0.fSteps), (.slice f0_fHammers_a f0.fHammers.length f0_fHammers_c)]⟩, ⟨(some b_2), 89, row encU32 d1.1 []⟩]) ?_ ?_
  · refine jc_block ?_
    obtain ⟨t_6, ht_398, hr_332⟩ := bd h
    refine jc_loop (fun (s : (List Int) × Int) (x : Unit) => match s, x with | ⟨xs_3, i_4⟩, _ => (xs_3.length = g2c0.length) ∧ ((g2c0_o = none → xs_3 = [] ∧ g2c0_c = 0))) (fun (s : (List Int) × Int) (x : Unit) => match s, x with | ⟨xs_3, i_4⟩, _ => [(2, [], (.func (.func 100) #[] #[(.pointer (some ⟨g2c0_b, 0, none⟩))])), (3, [], (.pointer (some ⟨b_1, 0, none⟩))), (4, [], (.pointer (some ⟨b_2, 0, none⟩))), (10, [], (.int .i64 (w64 f0.fSteps))), (11, [], (.int .i64 i_4))]) (fun (s : (List Int) × Int) (x : Unit) => match s, x with | ⟨xs_3, i_4⟩, _ => [⟨some g2c0_b, 27, [(.slice (g2c0_o.map fun b => ⟨b, 0, none⟩) g2c0.length g2c0_c)]⟩, ⟨g2c0_o, 2, row encI64 xs_3 g2c0_sp⟩, ⟨some b_1, 42, [(.int .i16 f0.fSteps), (.slice f0_fHammers_a f0.fHammers.length f0_fHammers_c)]⟩, ⟨(some b_2), 89, row encU32 d1.1 []⟩]) ht_398 () ⟨rfl, g2c0_ho⟩ (by kernel_rfl) [0, 1, 2, 3] (by kernel_rfl) (by kernel_rfl) ?_
    rintro ⟨xs_3, i_4⟩ _ y_333 ⟨hn_331, ho_330⟩ h
    rw [impl_Frame_pins_at_impl_Frame_byTrack_1.l_5] at h
    refine jc_seq ?_
    refine jc_region ?_
    refine jo_f [(0, 0)] (by kernel_rfl) ?_
    refine jo_end (by kernel_rfl) ?_
    refine jx_then ?_
    refine jc_seq ?_
    refine jc_cond (decide (i_4 < (w64 f0.fSteps))) (by kernel_rfl) (fun hc_335 => ?_) (fun hc_335 => ?_)
    · replace h := ifT hc_335 h
      refine jc_skip ?_
      refine jx_then ?_
      refine jc_seq ?_
      refine jc_block ?_
      refine jc_seq ?_
      refine jc_region ?_
      refine jo_f [(0, 0), (0, 0)] (by kernel_rfl) ?_
      refine jo_end (by kernel_rfl) ?_
      refine jx_then ?_
      refine jc_seq ?_
      refine jc_region ?_
      refine jo_f [(0, 0), (2, 0)] (by kernel_rfl) ?_
      obtain ⟨t_7, ht_336, h⟩ := bd h
      refine toO (by kernel_rfl) (p_call 0 121 #[(.slice f0_fHammers_a f0.fHammers.length f0_fHammers_c)] (by kernel_rfl) (by kernel_rfl) (fun w hm => impl_size_Hammer.calls f0.fHammers w _ f0_fHammers_a f0.fHammers.length f0_fHammers_c (hm.exRowW f0_fHammers_h f0_fHammers_ha) rfl ht_336) ?_)
      rintro w v w' hm ⟨rfl, hm'⟩
      refine ⟨_, hm.app hm', jkO ?_⟩
      clear hm hm'
      refine jo_f [(0, 0)] (by kernel_rfl) ?_
      refine jo_end (by kernel_rfl) ?_
      refine jx_then ?_
      refine jc_meet (fun (j : (List Int)) => match j with | xs_8 => impl_Frame_pins_at_impl_Frame_byTrack_1.k_9 i_4 xs_8 = some y_333 ∧ (xs_8.length = g2c0.length) ∧ ((g2c0_o = none → xs_8 = [] ∧ g2c0_c = 0))) (fun (j : (List Int)) => match j with | xs_8 => [(2, [], (.func (.func 100) #[] #[(.pointer (some ⟨g2c0_b, 0, none⟩))])), (3, [], (.pointer (some ⟨b_1, 0, none⟩))), (4, [], (.pointer (some ⟨b_2, 0, none⟩))), (10, [], (.int .i64 (w64 f0.fSteps))), (11, [], (.int .i64 i_4))]) (fun (j : (List Int)) => match j with | xs_8 => [⟨some g2c0_b, 27, [(.slice (g2c0_o.map fun b => ⟨b, 0, none⟩) g2c0.length g2c0_c)]⟩, ⟨g2c0_o, 2, row encI64 xs_8 g2c0_sp⟩, ⟨some b_1, 42, [(.int .i16 f0.fSteps), (.slice f0_fHammers_a f0.fHammers.length f0_fHammers_c)]⟩, ⟨(some b_2), 89, row encU32 d1.1 []⟩]) ?_ ?_
      · refine jc_block ?_
        obtain ⟨t_13, ht_396, hr_386⟩ := bd h
        refine jc_loop (fun (s : (List Int) × Int) (x : Unit) => match s, x with | ⟨xs_10, i_11⟩, _ => (xs_10.length = g2c0.length) ∧ ((g2c0_o = none → xs_10 = [] ∧ g2c0_c = 0))) (fun (s : (List Int) × Int) (x : Unit) => match s, x with | ⟨xs_10, i_11⟩, _ => [(2, [], (.func (.func 100) #[] #[(.pointer (some ⟨g2c0_b, 0, none⟩))])), (3, [], (.pointer (some ⟨b_1, 0, none⟩))), (4, [], (.pointer (some ⟨b_2, 0, none⟩))), (6, [], (.int .i64 i_4)), (10, [], (.int .i64 (w64 f0.fSteps))), (11, [], (.int .i64 i_4)), (16, [], (.int .i64 t_7)), (17, [], (.int .i64 i_11))]) (fun (s : (List Int) × Int) (x : Unit) => match s, x with | ⟨xs_10, i_11⟩, _ => [⟨some g2c0_b, 27, [(.slice (g2c0_o.map fun b => ⟨b, 0, none⟩) g2c0.length g2c0_c)]⟩, ⟨g2c0_o, 2, row encI64 xs_10 g2c0_sp⟩, ⟨some b_1, 42, [(.int .i16 f0.fSteps), (.slice f0_fHammers_a f0.fHammers.length f0_fHammers_c)]⟩, ⟨(some b_2), 89, row encU32 d1.1 []⟩]) ht_396 () ⟨hn_331, ho_330⟩ (by kernel_rfl) [0, 1, 2, 3] (by kernel_rfl) (by kernel_rfl) ?_
        rintro ⟨xs_10, i_11⟩ _ y_387 ⟨hn_385, ho_384⟩ h
        rw [impl_Frame_pins_at_impl_Frame_byTrack_1.l_12] at h
        refine jc_seq ?_
        refine jc_region ?_
        refine jo_f [(0, 0)] (by kernel_rfl) ?_
        refine jo_end (by kernel_rfl) ?_
        refine jx_then ?_
        refine jc_seq ?_
        refine jc_cond (decide (i_11 < t_7)) (by kernel_rfl) (fun hc_389 => ?_) (fun hc_389 => ?_)
        · replace h := ifT hc_389 h
          refine jc_skip ?_
          refine jx_then ?_
          refine jc_seq ?_
          refine jc_block ?_
          refine jc_seq ?_
          refine jc_region ?_
          refine jo_f [(0, 0), (0, 0)] (by kernel_rfl) ?_
          refine jo_end (by kernel_rfl) ?_
          refine jx_then ?_
          refine jc_seq ?_
          refine jc_region ?_
          refine jo_f [(0, 0), (0, 0)] (by kernel_rfl) ?_
          obtain ⟨t_14, ht_390, h⟩ := bd h
          refine toO (by kernel_rfl) (p_call 0 122 #[(.pointer (some ⟨b_2, 0, none⟩)), (.int .i64 i_4), (.int .i64 i_11)] (by kernel_rfl) (by kernel_rfl) (fun w hm => impl_Drum_has.calls d1 i_4 i_11 w _ b_2 (hm.pass (N := [⟨(some b_2), 89, row encU32 d1.1 []⟩]) [3] (by kernel_rfl) (by kernel_rfl)) ht_390) ?_)
          rintro w v w' hm ⟨rfl, hm'⟩
          refine ⟨_, hm.appW (ps := [(3, ⟨(some b_2), 89, row encU32 d1.1 []⟩)]) (N := []) hm' (by kernel_rfl) (by kernel_rfl), jkO ?_⟩
          clear hm hm'
          refine jo_end (by kernel_rfl) ?_
          refine jx_then ?_
          refine jc_cond t_14 (by kernel_rfl) (fun hc_391 => ?_) (fun hc_391 => ?_)
          · replace h := ifT hc_391 h
            refine jc_region ?_
            refine jo_f [(0, 0), (0, 0), (0, 0)] (by kernel_rfl) ?_
            obtain ⟨t_15, ht_392, h⟩ := bd h
            refine toO (by kernel_rfl) (p_call 0 100 #[(.int .i64 i_4), (.int .i64 i_11), (.pointer (some ⟨g2c0_b, 0, none⟩))] (by kernel_rfl) (by kernel_rfl) (fun w hm => impl_Frame_byTrack_1.calls i_4 i_11 xs_10 w _ g2c0_b g2c0_o g2c0.length g2c0_c g2c0_sp hn_385 g2c0_hs ho_384 (hm.pass (N := [⟨some g2c0_b, 27, [(.slice (g2c0_o.map fun b => ⟨b, 0, none⟩) g2c0.length g2c0_c)]⟩, ⟨g2c0_o, 2, row encI64 xs_10 g2c0_sp⟩]) [0, 1] (by kernel_rfl) (by kernel_rfl)) ht_392) ?_)
            rintro w v w' hm ⟨hn_393, ho_394, rfl, hm'⟩
            refine ⟨_, hm.appW (ps := [(0, ⟨some g2c0_b, 27, [(.slice (g2c0_o.map fun b => ⟨b, 0, none⟩) g2c0.length g2c0_c)]⟩), (1, ⟨g2c0_o, 2, row encI64 t_15 g2c0_sp⟩)]) (N := []) hm' (by kernel_rfl) (by kernel_rfl), jkO ?_⟩
            clear hm hm'
            refine jo_end (by kernel_rfl) ?_
            refine jx_inn ?_
            refine jx_then ?_
            refine jc_region ?_
            refine jo_f [(0, 0), (0, 0)] (by kernel_rfl) ?_
            refine jo_end (by kernel_rfl) ?_
            exact jx_back (t_15, (w64 (i_11 + 1))) () (Option.some.inj h).symm ⟨hn_393, ho_394⟩ [0, 1, 2, 3] (by kernel_rfl) (by kernel_rfl) (by kernel_rfl)
          · replace h := ifF hc_391 h
            refine jc_skip ?_
            refine jx_inn ?_
            refine jx_then ?_
            refine jc_region ?_
            refine jo_f [(0, 0), (0, 0)] (by kernel_rfl) ?_
            refine jo_end (by kernel_rfl) ?_
            exact jx_back (xs_10, (w64 (i_11 + 1))) () (Option.some.inj h).symm ⟨hn_385, ho_384⟩ [0, 1, 2, 3] (by kernel_rfl) (by kernel_rfl) (by kernel_rfl)
        · replace h := ifF hc_389 h
          refine jc_exit ?_
          refine jx_thenx ?_
          refine jx_leave xs_10 (Option.some.inj h).symm (fun e_395 => ?_)
          subst e_395
          refine jx_ine ?_
          exact jx_meet xs_10 ⟨hr_386, hn_385, ho_384⟩ (by kernel_rfl) [0, 1, 2, 3] (by kernel_rfl) (by kernel_rfl)
      · rintro xs_8 ⟨h, hn_367, ho_366⟩
        replace h : impl_Frame_pins_at_impl_Frame_byTrack_1.k_9 i_4 xs_8 = some y_333 := h
        rw [impl_Frame_pins_at_impl_Frame_byTrack_1.k_9] at h
        refine jx_inn ?_
        refine jx_then ?_
        refine jc_region ?_
        refine jo_f [(0, 0), (0, 0)] (by kernel_rfl) ?_
        refine jo_end (by kernel_rfl) ?_
        exact jx_back (xs_8, (w64 (i_4 + 1))) () (Option.some.inj h).symm ⟨hn_367, ho_366⟩ [0, 1, 2, 3] (by kernel_rfl) (by kernel_rfl) (by kernel_rfl)
    · replace h := ifF hc_335 h
      refine jc_exit ?_
      refine jx_thenx ?_
      refine jx_leave xs_3 (Option.some.inj h).symm (fun e_397 => ?_)
      subst e_397
      refine jx_ine ?_
      exact jx_meet xs_3 ⟨hr_332, hn_331, ho_330⟩ (by kernel_rfl) [0, 1, 2, 3] (by kernel_rfl) (by kernel_rfl)
  · rintro xs_1 ⟨h, hn_201, ho_200⟩
    replace h : impl_Frame_pins_at_impl_Frame_byTrack_1.k_2 xs_1 = some r := h
    rw [impl_Frame_pins_at_impl_Frame_byTrack_1.k_2] at h
    refine jx_fall ?_
    obtain rfl := Option.some.inj h
    exact jx_ret [] (.tuple #[]) [] rfl (by kernel_rfl) (by kernel_rfl) (fun w hm => ⟨hn_201, ho_200, rfl, hm.pick [0, 1] (by kernel_rfl) (by kernel_rfl)⟩)

/-! ### (impl.Frame).byTrack -/
noncomputable def impl_Frame_byTrack (f0 : GFrame) (d1 : Arr 96 Int) : Option ((List Int)) := (if 0 ≤ (f0.fHammers.length : Int) ∧ (f0.fHammers.length : Int) ≤ 17592186044416 then (impl_Frame_pins_at_impl_Frame_byTrack_1 f0 d1 (List.replicate (f0.fHammers.length : Int).toNat 0)).bind fun t_1 => some t_1 else none)
set_option maxRecDepth 100000 in
theorem impl_Frame_byTrack.calls (f0 : GFrame) (d1 : Arr 96 Int) (w : World) (r : (List Int)) (f0_fHammers_a : Option Addr) (f0_fHammers_an : Nat) (f0_fHammers_c : Nat) (f0_fHammers_h : Rw w f0_fHammers_a 2 encGHammer f0.fHammers) (f0_fHammers_hn : f0.fHammers.length = f0_fHammers_an) (h : impl_Frame_byTrack f0 d1 = some r) :
    Calls Tryz.prog 75 #[(.agg #[(.int .i16 f0.fSteps), (.slice f0_fHammers_a f0_fHammers_an f0_fHammers_c)]), (.agg (row encU32 d1.1 []).toArray)] w fun e w' => ∃ v, e = .returned v ∧ (∃ (o0 : Option Nat) (c0 : Nat) (s0 : List Value) (n0 : Nat), r.length = n0 ∧ (o0 ≠ none → n0 ≤ c0 ∧ s0.length = (c0 - n0) * 1) ∧ (o0 = none → r = [] ∧ c0 = 0) ∧ v = .slice (o0.map fun b => ⟨b, 0, none⟩) n0 c0 ∧ Mem w [] [⟨o0, 2, row encI64 r s0⟩] w') := by
  subst f0_fHammers_hn
  rw [impl_Frame_byTrack] at h
  refine enter (args := [(.agg #[(.int .i16 f0.fSteps), (.slice f0_fHammers_a f0.fHammers.length f0_fHammers_c)]), (.agg (row encU32 d1.1 []).toArray)]) Tryz.func75 rfl Tryz.ntmps75 (by kernel_rfl) (L := []) (W := []) (Mem.start w) ?_
  refine jc_seq ?_
  refine jc_region ?_
  refine toO (by kernel_rfl) (p_a 0 [0] (by kernel_rfl) (fun b => by kernel_rfl) (fun b_1 => jkO ?_))
  refine toO (by kernel_rfl) (p_a 0 [0] (by kernel_rfl) (fun b => by kernel_rfl) (fun b_2 => jkO ?_))
  refine jo_f [(0, 0)] (by kernel_rfl) ?_
  refine jo_end (by kernel_rfl) ?_
  refine jx_then ?_
  refine jc_seq ?_
  refine jc_region ?_
  refine jo_f [(0, 0), (0, 0), (0, 0)] (by kernel_rfl) ?_
  obtain ⟨hg_8, h⟩ := gd h
  refine toO (by kernel_rfl) (p_mk 0 2 (f0.fHammers.length : Int) 1 8 encI64 0 (by kernel_rfl) (by kernel_rfl) hg_8.1 (by omega) (by kernel_rfl) (fun b_3 => jkO ?_))
  refine toO (by kernel_rfl) (p_a 0 [0] (by kernel_rfl) (fun b => by kernel_rfl) (fun b_4 => jkO ?_))
  refine toO (by kernel_rfl) (p_s 0 [3] (by kernel_rfl) (by kernel_rfl) (jkO ?_))
  refine jo_end (by kernel_rfl) ?_
  refine jx_then ?_
  refine jc_seq ?_
  refine jc_region ?_
  refine jo_f [(0, 0)] (by kernel_rfl) ?_
  refine toO (by kernel_rfl) (p_ldA 0 1 b_2 96 1 89 encU32 d1 (by kernel_rfl) (by kernel_rfl) (by kernel_rfl) encU32_len (by kernel_rfl) (jkO ?_))
  refine jo_f [(0, 0)] (by kernel_rfl) ?_
  obtain ⟨t_1, ht_5, h⟩ := bd h
  refine toO (by kernel_rfl) (p_call 0 92 #[(.agg #[(.int .i16 f0.fSteps), (.slice f0_fHammers_a f0.fHammers.length f0_fHammers_c)]), (.agg (row encU32 d1.1 []).toArray), (.func (.func 100) #[] #[(.pointer (some ⟨b_4, 0, none⟩))])] (by kernel_rfl) (by kernel_rfl) (fun w hm => impl_Frame_pins_at_impl_Frame_byTrack_1.calls f0 d1 (List.replicate (f0.fHammers.length : Int).toNat 0) w _ f0_fHammers_a f0.fHammers.length f0_fHammers_c (hm.exRow f0_fHammers_h List.not_mem_nil) rfl b_4 (some b_3) ((f0.fHammers.length : Int).toNat) ((f0.fHammers.length : Int).toNat) [] List.length_replicate (fun _ => ⟨Nat.le_refl _, by simp⟩) (fun e => nomatch e) (hm.pass (N := [⟨some b_4, 27, [(.slice (some ⟨b_3, 0, none⟩) ((f0.fHammers.length : Int).toNat) ((f0.fHammers.length : Int).toNat))]⟩, ⟨(some b_3), 2, row encI64 (List.replicate (f0.fHammers.length : Int).toNat 0) []⟩]) [3, 2] (by kernel_rfl) (by kernel_rfl)) (hm.exApart (N := [⟨some b_4, 27, [(.slice (some ⟨b_3, 0, none⟩) ((f0.fHammers.length : Int).toNat) ((f0.fHammers.length : Int).toNat))]⟩, ⟨(some b_3), 2, row encI64 (List.replicate (f0.fHammers.length : Int).toNat 0) []⟩]) f0_fHammers_h (fun _ => List.not_mem_nil) [3, 2] (by kernel_rfl)) ht_5) ?_)
  rintro w v w' hm ⟨hn_6, ho_7, rfl, hm'⟩
  refine ⟨_, hm.appW (ps := [(3, ⟨some b_4, 27, [(.slice (some ⟨b_3, 0, none⟩) ((f0.fHammers.length : Int).toNat) ((f0.fHammers.length : Int).toNat))]⟩), (2, ⟨(some b_3), 2, row encI64 t_1 []⟩)]) (N := []) hm' (by kernel_rfl) (by kernel_rfl), jkO ?_⟩
  clear hm hm'
  refine jo_end (by kernel_rfl) ?_
  refine jx_then ?_
  refine jc_seq ?_
  refine jc_region ?_
  refine jo_f [(3, 0), (0, 0)] (by kernel_rfl) ?_
  refine jo_end (by kernel_rfl) ?_
  refine jx_then ?_
  refine jc_ret ?_
  obtain rfl := Option.some.inj h
  exact jx_ret [] (.slice (some ⟨b_3, 0, none⟩) ((f0.fHammers.length : Int).toNat) ((f0.fHammers.length : Int).toNat)) [] rfl (by kernel_rfl) (by kernel_rfl) (fun w hm => ⟨(some b_3), ((f0.fHammers.length : Int).toNat), [], ((f0.fHammers.length : Int).toNat), hn_6, (fun _ => ⟨Nat.le_refl _, by simp⟩), (fun e => nomatch e), rfl, hm.pick [2] (by kernel_rfl) (by kernel_rfl)⟩)

/-! ### impl.TurnWear -/
noncomputable def impl_TurnWear.k_11 (f0 : GFrame) (xs_6 : List GWornPin) (xs_10 : List Int) : Option (GWear × Int) := (impl_ValidWear f0 (⟨xs_6, xs_10⟩ : GWear)).bind fun t_12 => (if (!t_12) = true then some ((⟨[], []⟩ : GWear), 3) else some ((⟨xs_6, xs_10⟩ : GWear), 0))
noncomputable def impl_TurnWear.l_15 (turns2 : Int) (t_9 : (List Int)) : ((List Int) × Int) → Option (((List Int) × Int) ⊕ ((List Int)))
  | (xs_13, i_14) => (if (decide (i_14 < (t_9.length : Int))) = true then (ix t_9 i_14).bind fun x_17 => (ix xs_13 i_14).bind fun x_18 => (ix xs_13 i_14).bind fun x_19 => some (.inl ((xs_13.set i_14.toNat (w64 (x_18 + (w64 (x_17 * turns2))))), (w64 (i_14 + 1)))) else some (.inr xs_13))
noncomputable def impl_TurnWear.k_7 (f0 : GFrame) (w1 : GWear) (turns2 : Int) (t_5 : GWear) (xs_6 : List GWornPin) : Option (GWear × Int) := (impl_Wear_drum w1).bind fun t_8 => (impl_Frame_byTrack f0 t_8).bind fun t_9 => (loop (impl_TurnWear.l_15 turns2 t_9) (t_5.fStrokes, 0)).bind fun t_16 => impl_TurnWear.k_11 f0 xs_6 t_16
noncomputable def impl_TurnWear.l_22 (turns2 : Int) (t_5 : GWear) : ((List GWornPin) × Int) → Option (((List GWornPin) × Int) ⊕ ((List GWornPin)))
  | (xs_20, i_21) => (if (decide (i_21 < (t_5.fPins.length : Int))) = true then (ix xs_20 i_21).bind fun x_24 => (ix xs_20 i_21).bind fun x_25 => some (.inl ((xs_20.set i_21.toNat (⟨x_25.fStep, x_25.fTrack, (w64 (x_24.fTurns + turns2))⟩ : GWornPin)), (w64 (i_21 + 1)))) else some (.inr xs_20))
noncomputable def impl_TurnWear (f0 : GFrame) (w1 : GWear) (turns2 : Int) : Option (GWear × Int) := (impl_wearCode f0 w1 []).bind fun t_1 => (impl_isMade turns2).bind fun t_2 => (impl_unless t_2 2).bind fun t_3 => (impl_firstOf [t_1, t_3]).bind fun t_4 => (if (t_4 != 0) = true then some ((⟨[], []⟩ : GWear), t_4) else (impl_Wear_own w1).bind fun t_5 => (loop (impl_TurnWear.l_22 turns2 t_5) (t_5.fPins, 0)).bind fun t_23 => impl_TurnWear.k_7 f0 w1 turns2 t_5 t_23)
set_option maxRecDepth 100000 in
theorem impl_TurnWear.calls (f0 : GFrame) (w1 : GWear) (turns2 : Int) (w : World) (r : GWear × Int) (f0_fHammers_a : Option Addr) (f0_fHammers_an : Nat) (f0_fHammers_c : Nat) (f0_fHammers_h : Rw w f0_fHammers_a 2 encGHammer f0.fHammers) (f0_fHammers_hn : f0.fHammers.length = f0_fHammers_an) (w1_fPins_a : Option Addr) (w1_fPins_an : Nat) (w1_fPins_c : Nat) (w1_fPins_h : Rw w w1_fPins_a 3 encGWornPin w1.fPins) (w1_fPins_hn : w1.fPins.length = w1_fPins_an) (w1_fStrokes_a : Option Addr) (w1_fStrokes_an : Nat) (w1_fStrokes_c : Nat) (w1_fStrokes_h : Rw w w1_fStrokes_a 1 encI64 w1.fStrokes) (w1_fStrokes_hn : w1.fStrokes.length = w1_fStrokes_an) (h : impl_TurnWear f0 w1 turns2 = some r) :
    Calls Tryz.prog 39 #[(.agg #[(.int .i16 f0.fSteps), (.slice f0_fHammers_a f0_fHammers_an f0_fHammers_c)]), (.agg #[(.slice w1_fPins_a w1_fPins_an w1_fPins_c), (.slice w1_fStrokes_a w1_fStrokes_an w1_fStrokes_c)]), (.int .i64 turns2)] w fun e w' => ∃ v, e = .returned v ∧ (∃ (o0 : Option Nat) (c0 : Nat) (s0 : List Value) (n0 : Nat), r.1.fPins.length = n0 ∧ (o0 ≠ none → n0 ≤ c0 ∧ s0.length = (c0 - n0) * 3) ∧ (o0 = none → r.1.fPins = [] ∧ c0 = 0) ∧ ∃ (o1 : Option Nat) (c1 : Nat) (s1 : List Value) (n1 : Nat), r.1.fStrokes.length = n1 ∧ (o1 ≠ none → n1 ≤ c1 ∧ s1.length = (c1 - n1) * 1) ∧ (o1 = none → r.1.fStrokes = [] ∧ c1 = 0) ∧ v = .tuple #[.agg #[.slice (o0.map fun b => ⟨b, 0, none⟩) n0 c0, .slice (o1.map fun b => ⟨b, 0, none⟩) n1 c1], (.int .i64 r.2)] ∧ Mem w [] [⟨o0, 108, row encGWornPin r.1.fPins s0⟩, ⟨o1, 2, row encI64 r.1.fStrokes s1⟩] w') := by
  subst f0_fHammers_hn w1_fPins_hn w1_fStrokes_hn
  rw [impl_TurnWear] at h
  refine enter (args := [(.agg #[(.int .i16 f0.fSteps), (.slice f0_fHammers_a f0.fHammers.length f0_fHammers_c)]), (.agg #[(.slice w1_fPins_a w1.fPins.length w1_fPins_c), (.slice w1_fStrokes_a w1.fStrokes.length w1_fStrokes_c)]), (.int .i64 turns2)]) Tryz.func39 rfl Tryz.ntmps39 (by kernel_rfl) (L := []) (W := []) (Mem.start w) ?_
  refine jc_seq ?_
  refine jc_region ?_
  refine toO (by kernel_rfl) (p_a 0 [0] (by kernel_rfl) (fun b => by kernel_rfl) (fun b_1 => jkO ?_))
  refine toO (by kernel_rfl) (p_a 0 [0] (by kernel_rfl) (fun b => by kernel_rfl) (fun b_2 => jkO ?_))
  refine toO (by kernel_rfl) (p_a 0 [0] (by kernel_rfl) (fun b => by kernel_rfl) (fun b_3 => jkO ?_))
  refine jo_f [(0, 0)] (by kernel_rfl) ?_
  refine jo_end (by kernel_rfl) ?_
  refine jx_then ?_
  refine jc_seq ?_
  refine jc_seq ?_
  refine jc_region ?_
  refine jo_f [(0, 0), (1, 0)] (by kernel_rfl) ?_
  obtain ⟨t_1, ht_10, h⟩ := bd h
  refine toO (by kernel_rfl) (p_call 0 44 #[(.agg #[(.int .i16 f0.fSteps), (.slice f0_fHammers_a f0.fHammers.length f0_fHammers_c)]), (.agg #[(.slice w1_fPins_a w1.fPins.length w1_fPins_c), (.slice w1_fStrokes_a w1.fStrokes.length w1_fStrokes_c)]), (.slice none 0 0)] (by kernel_rfl) (by kernel_rfl) (fun w hm => impl_wearCode.calls f0 w1 [] w _ f0_fHammers_a f0.fHammers.length f0_fHammers_c (hm.exRow f0_fHammers_h List.not_mem_nil) rfl w1_fPins_a w1.fPins.length w1_fPins_c (hm.exRow w1_fPins_h List.not_mem_nil) rfl w1_fStrokes_a w1.fStrokes.length w1_fStrokes_c (hm.exRow w1_fStrokes_h List.not_mem_nil) rfl none 0 0 Rw.nil rfl ht_10) ?_)
  rintro w v w' hm ⟨rfl, hm'⟩
  refine ⟨_, hm.app hm', jkO ?_⟩
  clear hm hm'
  refine jo_f [(0, 0)] (by kernel_rfl) ?_
  obtain ⟨t_2, ht_11, h⟩ := bd h
  refine toO (by kernel_rfl) (p_call 0 73 #[(.int .i64 turns2)] (by kernel_rfl) (by kernel_rfl) (fun w hm => impl_isMade.calls turns2 w _ ht_11) ?_)
  rintro w v w' hm ⟨rfl, hm'⟩
  refine ⟨_, hm.app hm', jkO ?_⟩
  clear hm hm'
  obtain ⟨t_3, ht_12, h⟩ := bd h
  refine toO (by kernel_rfl) (p_call 0 72 #[(.bool t_2), (.int .i64 2)] (by kernel_rfl) (by kernel_rfl) (fun w hm => impl_unless.calls t_2 2 w _ ht_12) ?_)
  rintro w v w' hm ⟨rfl, hm'⟩
  refine ⟨_, hm.app hm', jkO ?_⟩
  clear hm hm'
  refine toO (by kernel_rfl) (p_a 0 [0] (by kernel_rfl) (fun b => by kernel_rfl) (fun b_13 => jkO ?_))
  obtain ⟨t_4, ht_14, h⟩ := bd h
  refine toO (by kernel_rfl) (p_call 0 43 #[(.slice (some ⟨b_13, 0, none⟩) 2 2)] (by kernel_rfl) (by kernel_rfl) (fun w hm => impl_firstOf.calls [t_1, t_3] w _ (some ⟨b_13, 0, none⟩) 2 2 (hm.ownRow (hh := 3) (o := (some b_13)) (T := 2) (enc := encI64) (xs := [t_1, t_3]) (sp := []) (by kernel_rfl) (fun e => nomatch e) encI64_len) rfl ht_14) ?_)
  rintro w v w' hm ⟨rfl, hm'⟩
  refine ⟨_, hm.app hm', jkO ?_⟩
  clear hm hm'
  refine jo_f [(0, 0)] (by kernel_rfl) ?_
  refine jo_end (by kernel_rfl) ?_
  refine jx_then ?_
  refine jc_seq ?_
  refine jc_region ?_
  refine jo_f [(0, 0), (0, 0)] (by kernel_rfl) ?_
  refine jo_end (by kernel_rfl) ?_
  refine jx_then ?_
  refine jc_cond (t_4 != 0) (by kernel_rfl) (fun hc_15 => ?_) (fun hc_15 => ?_)
  · replace h := ifT hc_15 h
    refine jc_seq ?_
    refine jc_region ?_
    refine jo_f [(0, 0), (0, 0)] (by kernel_rfl) ?_
    refine toO (by kernel_rfl) (p_s 0 [2] (by kernel_rfl) (by kernel_rfl) (jkO ?_))
    refine jo_f [(0, 0)] (by kernel_rfl) ?_
    refine jo_end (by kernel_rfl) ?_
    refine jx_then ?_
    refine jc_ret ?_
    refine jx_thenr ?_
    obtain rfl := Option.some.inj h
    refine jx_ghost 108 encGWornPin ?_
    refine jx_ghost 2 encI64 ?_
    exact jx_ret [2] (.tuple #[(.agg #[(.slice none 0 0), (.slice none 0 0)]), (.int .i64 t_4)]) [(b_3, b_3), (b_3, b_3)] rfl (by kernel_rfl) (by kernel_rfl) (fun w hm => ⟨none, 0, [], 0, rfl, (fun e => absurd rfl e), (fun _ => ⟨rfl, rfl⟩), none, 0, [], 0, rfl, (fun e => absurd rfl e), (fun _ => ⟨rfl, rfl⟩), rfl, hm.pick [4, 5] (by kernel_rfl) (by kernel_rfl)⟩)
  · replace h := ifF hc_15 h
    refine jc_skip ?_
    refine jx_then ?_
    refine jc_seq ?_
    refine jc_region ?_
    refine jo_f [(1, 0)] (by kernel_rfl) ?_
    obtain ⟨t_5, ht_16, h⟩ := bd h
    refine toO (by kernel_rfl) (p_call 0 74 #[(.agg #[(.slice w1_fPins_a w1.fPins.length w1_fPins_c), (.slice w1_fStrokes_a w1.fStrokes.length w1_fStrokes_c)])] (by kernel_rfl) (by kernel_rfl) (fun w hm => impl_Wear_own.calls w1 w _ w1_fPins_a w1.fPins.length w1_fPins_c (hm.exRow w1_fPins_h List.not_mem_nil) rfl w1_fStrokes_a w1.fStrokes.length w1_fStrokes_c (hm.exRow w1_fStrokes_h List.not_mem_nil) rfl ht_16) ?_)
    rintro w v w' hm ⟨o_17, cap_18, sp_19, _, rfl, hs_20, ho_21, o_22, cap_23, sp_24, _, rfl, hs_25, ho_26, rfl, hm'⟩
    refine ⟨_, hm.app hm', jkO ?_⟩
    clear hm hm'
    refine toO (by kernel_rfl) (p_a 0 [0] (by kernel_rfl) (fun b => by kernel_rfl) (fun b_27 => jkO ?_))
    refine toO (by kernel_rfl) (p_s 0 [6] (by kernel_rfl) (by kernel_rfl) (jkO ?_))
    refine jo_end (by kernel_rfl) ?_
    refine jx_then ?_
    refine jc_seq ?_
    refine jc_seq ?_
    refine jc_region ?_
    refine jo_f [(0, 0), (6, 0), (0, 0), (0, 0)] (by kernel_rfl) ?_
    refine jo_end (by kernel_rfl) ?_
    refine jx_then ?_
    refine jc_meet (fun (j : (List GWornPin)) => match j with | xs_6 => impl_TurnWear.k_7 f0 w1 turns2 t_5 xs_6 = some r ∧ (xs_6.length = t_5.fPins.length) ∧ ((o_17 = none → xs_6 = [] ∧ cap_18 = 0))) (fun (j : (List GWornPin)) => match j with | xs_6 => [(2, [], (.int .i64 turns2)), (3, [], (.pointer (some ⟨b_1, 0, none⟩))), (4, [], (.pointer (some ⟨b_2, 0, none⟩))), (6, [], (.pointer (some ⟨b_3, 0, none⟩))), (7, [], (.int .i64 0)), (9, [], (.pointer (some ⟨b_27, 0, none⟩)))]) (fun (j : (List GWornPin)) => match j with | xs_6 => [⟨some b_1, 42, [(.int .i16 f0.fSteps), (.slice f0_fHammers_a f0.fHammers.length f0_fHammers_c)]⟩, ⟨some b_2, 37, [(.slice w1_fPins_a w1.fPins.length w1_fPins_c), (.slice w1_fStrokes_a w1.fStrokes.length w1_fStrokes_c)]⟩, ⟨some b_3, 37, [(.slice none 0 0), (.slice none 0 0)]⟩, ⟨(some b_13), 2, row encI64 [t_1, t_3] []⟩, ⟨o_17, 108, row encGWornPin xs_6 sp_19⟩, ⟨o_22, 2, row encI64 t_5.fStrokes sp_24⟩, ⟨some b_27, 37, [(.slice (o_17.map fun b => ⟨b, 0, none⟩) t_5.fPins.length cap_18), (.slice (o_22.map fun b => ⟨b, 0, none⟩) t_5.fStrokes.length cap_23)]⟩]) ?_ ?_
    · refine jc_block ?_
      obtain ⟨t_23, ht_239, hr_232⟩ := bd h
      refine jc_loop (fun (s : (List GWornPin) × Int) (x : Unit) => match s, x with | ⟨xs_20, i_21⟩, _ => (xs_20.length = t_5.fPins.length) ∧ ((o_17 = none → xs_20 = [] ∧ cap_18 = 0))) (fun (s : (List GWornPin) × Int) (x : Unit) => match s, x with | ⟨xs_20, i_21⟩, _ => [(2, [], (.int .i64 turns2)), (3, [], (.pointer (some ⟨b_1, 0, none⟩))), (4, [], (.pointer (some ⟨b_2, 0, none⟩))), (6, [], (.pointer (some ⟨b_3, 0, none⟩))), (7, [], (.int .i64 0)), (9, [], (.pointer (some ⟨b_27, 0, none⟩))), (29, [], (.int .i64 (t_5.fPins.length : Int))), (30, [], (.int .i64 i_21))]) (fun (s : (List GWornPin) × Int) (x : Unit) => match s, x with | ⟨xs_20, i_21⟩, _ => [⟨some b_1, 42, [(.int .i16 f0.fSteps), (.slice f0_fHammers_a f0.fHammers.length f0_fHammers_c)]⟩, ⟨some b_2, 37, [(.slice w1_fPins_a w1.fPins.length w1_fPins_c), (.slice w1_fStrokes_a w1.fStrokes.length w1_fStrokes_c)]⟩, ⟨some b_3, 37, [(.slice none 0 0), (.slice none 0 0)]⟩, ⟨(some b_13), 2, row encI64 [t_1, t_3] []⟩, ⟨o_17, 108, row encGWornPin xs_20 sp_19⟩, ⟨o_22, 2, row encI64 t_5.fStrokes sp_24⟩, ⟨some b_27, 37, [(.slice (o_17.map fun b => ⟨b, 0, none⟩) t_5.fPins.length cap_18), (.slice (o_22.map fun b => ⟨b, 0, none⟩) t_5.fStrokes.length cap_23)]⟩]) ht_239 () ⟨rfl, ho_21⟩ (by kernel_rfl) [0, 1, 2, 3, 4, 5, 6] (by kernel_rfl) (by kernel_rfl) ?_
      rintro ⟨xs_20, i_21⟩ _ y_233 ⟨hn_231, ho_230⟩ h
      rw [impl_TurnWear.l_22] at h
      refine jc_seq ?_
      refine jc_region ?_
      refine jo_f [(0, 0)] (by kernel_rfl) ?_
      refine jo_end (by kernel_rfl) ?_
      refine jx_then ?_
      refine jc_seq ?_
      refine jc_cond (decide (i_21 < (t_5.fPins.length : Int))) (by kernel_rfl) (fun hc_235 => ?_) (fun hc_235 => ?_)
      · replace h := ifT hc_235 h
        refine jc_skip ?_
        refine jx_then ?_
        refine jc_seq ?_
        refine jc_block ?_
        refine jc_seq ?_
        refine jc_region ?_
        refine jo_f [(0, 0), (0, 0)] (by kernel_rfl) ?_
        refine jo_end (by kernel_rfl) ?_
        refine jx_then ?_
        refine jc_region ?_
        refine jo_f [(0, 0), (6, 0), (0, 0)] (by kernel_rfl) ?_
        obtain ⟨x_24, hx_236, h⟩ := bd h
        refine toO (by kernel_rfl) (p_idx 0 (o_17.map fun b => ⟨b, 0, none⟩) t_5.fPins.length i_21 3 (by kernel_rfl) (by kernel_rfl) (ix_some hx_236).1 (ltn hx_236 hn_231) (spo ho_230 hx_236) (jkO ?_))
        refine jo_f [(0, 0)] (by kernel_rfl) ?_
        refine toO (by kernel_rfl) (p_ld 0 (aB (o_17.map fun b => ⟨b, 0, none⟩)) (aO (o_17.map fun b => ⟨b, 0, none⟩) + i_21.toNat * 3 + 2) false (((encGWornPin x_24).drop 2).take 1) (by kernel_rfl) (by kernel_rfl) (by kernel_rfl) (fun w hm => (((hm.ownRow (hh := 4) (o := o_17) (T := 108) (enc := encGWornPin) (xs := xs_20) (sp := sp_19) (by kernel_rfl) (fun e => (ho_230 e).1) encGWornPin_len).at hx_236).sub 2 1)) (jkO ?_))
        refine jo_f [(0, 0), (0, 0)] (by kernel_rfl) ?_
        obtain ⟨x_25, hx_237, h⟩ := bd h
        refine toO (by kernel_rfl) (p_idx 0 (o_17.map fun b => ⟨b, 0, none⟩) t_5.fPins.length i_21 3 (by kernel_rfl) (by kernel_rfl) (ix_some hx_237).1 (ltn hx_237 hn_231) (spo ho_230 hx_237) (jkO ?_))
        refine jo_f [(0, 0)] (by kernel_rfl) ?_
        refine toO (by kernel_rfl) (p_strO 0 4 o_17 108 encGWornPin xs_20 sp_19 i_21 (⟨x_25.fStep, x_25.fTrack, (w64 (x_24.fTurns + turns2))⟩ : GWornPin) 3 2 [(.int .i64 (w64 (x_24.fTurns + turns2)))] (by kernel_rfl) (by kernel_rfl) (by kernel_rfl) (fun e => (ho_230 e).1) encGWornPin_len hx_237 (by kernel_rfl) (by kernel_rfl) (jkO ?_))
        refine jo_end (by kernel_rfl) ?_
        refine jx_inn ?_
        refine jx_then ?_
        refine jc_region ?_
        refine jo_f [(0, 0), (0, 0)] (by kernel_rfl) ?_
        refine jo_end (by kernel_rfl) ?_
        exact jx_back ((xs_20.set i_21.toNat (⟨x_25.fStep, x_25.fTrack, (w64 (x_24.fTurns + turns2))⟩ : GWornPin)), (w64 (i_21 + 1))) () (Option.some.inj h).symm ⟨(List.length_set.trans hn_231), (set_ho ho_230)⟩ [0, 1, 2, 3, 4, 5, 6] (by kernel_rfl) (by kernel_rfl) (by kernel_rfl)
      · replace h := ifF hc_235 h
        refine jc_exit ?_
        refine jx_thenx ?_
        refine jx_leave xs_20 (Option.some.inj h).symm (fun e_238 => ?_)
        subst e_238
        refine jx_ine ?_
        exact jx_meet xs_20 ⟨hr_232, hn_231, ho_230⟩ (by kernel_rfl) [0, 1, 2, 3, 4, 5, 6] (by kernel_rfl) (by kernel_rfl)
    · rintro xs_6 ⟨h, hn_91, ho_90⟩
      replace h : impl_TurnWear.k_7 f0 w1 turns2 t_5 xs_6 = some r := h
      rw [impl_TurnWear.k_7] at h
      refine jx_then ?_
      refine jc_seq ?_
      refine jc_seq ?_
      refine jc_draw [⟨some b_1, 42, [(.int .i16 f0.fSteps), (.slice f0_fHammers_a f0.fHammers.length f0_fHammers_c)]⟩, ⟨some b_2, 37, [(.slice w1_fPins_a w1.fPins.length w1_fPins_c), (.slice w1_fStrokes_a w1.fStrokes.length w1_fStrokes_c)]⟩, ⟨some b_3, 37, [(.slice none 0 0), (.slice none 0 0)]⟩, ⟨(some b_13), 2, row encI64 [t_1, t_3] []⟩, ⟨o_17, 108, row encGWornPin xs_6 sp_19⟩, ⟨o_22, 2, row encI64 t_5.fStrokes sp_24⟩, ⟨some b_27, 37, [(.slice (o_17.map fun b => ⟨b, 0, none⟩) t_5.fPins.length cap_18), (.slice (o_22.map fun b => ⟨b, 0, none⟩) t_5.fStrokes.length cap_23)]⟩] 6 (by kernel_rfl) (by kernel_rfl) ?_
      refine jd_f [⟨0, 0, 0⟩, ⟨1, 1, 0⟩, ⟨5, 0, 0⟩] 3 (by kernel_rfl) (by kernel_rfl) (fun w h => h.pick [0, 1, 2, 3, 4, 5, 6] (by kernel_rfl) (by kernel_rfl)) (by kernel_rfl) (by kernel_rfl) ?_
      obtain ⟨t_8, ht_161, h⟩ := bd h
      refine toD 2 (by kernel_rfl) (p_call 0 76 #[(.agg #[(.slice w1_fPins_a w1.fPins.length w1_fPins_c), (.slice w1_fStrokes_a w1.fStrokes.length w1_fStrokes_c)])] (by kernel_rfl) (by kernel_rfl) (fun w hm => impl_Wear_drum.calls w1 w _ w1_fPins_a w1.fPins.length w1_fPins_c (hm.exRow w1_fPins_h List.not_mem_nil) rfl w1_fStrokes_a w1.fStrokes.length w1_fStrokes_c (hm.exRow w1_fStrokes_h List.not_mem_nil) rfl ht_161) ?_)
      rintro w v w' hm ⟨rfl, hm'⟩
      refine ⟨_, hm.app hm', jkD (fun w h => h.pick [0, 1, 2, 3, 4, 5, 6] (by kernel_rfl) (by kernel_rfl)) ?_⟩
      clear hm hm'
      obtain ⟨t_9, ht_162, h⟩ := bd h
      refine toD 3 (by kernel_rfl) (p_call 0 75 #[(.agg #[(.int .i16 f0.fSteps), (.slice f0_fHammers_a f0.fHammers.length f0_fHammers_c)]), (.agg (row encU32 t_8.1 []).toArray)] (by kernel_rfl) (by kernel_rfl) (fun w hm => impl_Frame_byTrack.calls f0 t_8 w _ f0_fHammers_a f0.fHammers.length f0_fHammers_c (hm.exRow f0_fHammers_h List.not_mem_nil) rfl ht_162) ?_)
      rintro w v w' hm ⟨o_163, cap_164, sp_165, _, rfl, hs_166, ho_167, rfl, hm'⟩
      refine ⟨_, hm.app hm', jkD (fun w h => h.pick [0, 1, 2, 3, 4, 5, 6] (by kernel_rfl) (by kernel_rfl)) ?_⟩
      clear hm hm'
      refine jd_f [⟨4, 0, 0⟩] 0 (by kernel_rfl) (by kernel_rfl) (fun w h => h.pick [0, 1, 2, 3, 4, 5, 6] (by kernel_rfl) (by kernel_rfl)) (by kernel_rfl) (by kernel_rfl) ?_
      refine jd_end (by kernel_rfl) ?_
      refine jx_then ?_
      refine jc_meet (fun (j : (List Int)) => match j with | xs_10 => impl_TurnWear.k_11 f0 xs_6 xs_10 = some r ∧ (xs_10.length = t_5.fStrokes.length) ∧ ((o_22 = none → xs_10 = [] ∧ cap_23 = 0))) (fun (j : (List Int)) => match j with | xs_10 => [(3, [], (.pointer (some ⟨b_1, 0, none⟩))), (6, [], (.pointer (some ⟨b_3, 0, none⟩))), (7, [], (.int .i64 0)), (9, [], (.pointer (some ⟨b_27, 0, none⟩)))]) (fun (j : (List Int)) => match j with | xs_10 => [⟨some b_1, 42, [(.int .i16 f0.fSteps), (.slice f0_fHammers_a f0.fHammers.length f0_fHammers_c)]⟩, ⟨some b_2, 37, [(.slice w1_fPins_a w1.fPins.length w1_fPins_c), (.slice w1_fStrokes_a w1.fStrokes.length w1_fStrokes_c)]⟩, ⟨some b_3, 37, [(.slice none 0 0), (.slice none 0 0)]⟩, ⟨(some b_13), 2, row encI64 [t_1, t_3] []⟩, ⟨o_17, 108, row encGWornPin xs_6 sp_19⟩, ⟨o_22, 2, row encI64 xs_10 sp_24⟩, ⟨some b_27, 37, [(.slice (o_17.map fun b => ⟨b, 0, none⟩) t_5.fPins.length cap_18), (.slice (o_22.map fun b => ⟨b, 0, none⟩) t_5.fStrokes.length cap_23)]⟩, ⟨o_163, 2, row encI64 t_9 sp_165⟩]) ?_ ?_
      · refine jc_block ?_
        obtain ⟨t_16, ht_219, hr_211⟩ := bd h
        refine jc_loop (fun (s : (List Int) × Int) (x : Unit) => match s, x with | ⟨xs_13, i_14⟩, _ => (xs_13.length = t_5.fStrokes.length) ∧ ((o_22 = none → xs_13 = [] ∧ cap_23 = 0))) (fun (s : (List Int) × Int) (x : Unit) => match s, x with | ⟨xs_13, i_14⟩, _ => [(2, [], (.int .i64 turns2)), (3, [], (.pointer (some ⟨b_1, 0, none⟩))), (6, [], (.pointer (some ⟨b_3, 0, none⟩))), (7, [], (.int .i64 0)), (9, [], (.pointer (some ⟨b_27, 0, none⟩))), (47, [], (.slice (o_163.map fun b => ⟨b, 0, none⟩) t_9.length cap_164)), (48, [], (.int .i64 (t_9.length : Int))), (49, [], (.int .i64 i_14))]) (fun (s : (List Int) × Int) (x : Unit) => match s, x with | ⟨xs_13, i_14⟩, _ => [⟨some b_1, 42, [(.int .i16 f0.fSteps), (.slice f0_fHammers_a f0.fHammers.length f0_fHammers_c)]⟩, ⟨some b_2, 37, [(.slice w1_fPins_a w1.fPins.length w1_fPins_c), (.slice w1_fStrokes_a w1.fStrokes.length w1_fStrokes_c)]⟩, ⟨some b_3, 37, [(.slice none 0 0), (.slice none 0 0)]⟩, ⟨(some b_13), 2, row encI64 [t_1, t_3] []⟩, ⟨o_17, 108, row encGWornPin xs_6 sp_19⟩, ⟨o_22, 2, row encI64 xs_13 sp_24⟩, ⟨some b_27, 37, [(.slice (o_17.map fun b => ⟨b, 0, none⟩) t_5.fPins.length cap_18), (.slice (o_22.map fun b => ⟨b, 0, none⟩) t_5.fStrokes.length cap_23)]⟩, ⟨o_163, 2, row encI64 t_9 sp_165⟩]) ht_219 () ⟨rfl, ho_26⟩ (by kernel_rfl) [0, 1, 2, 3, 4, 5, 6, 7] (by kernel_rfl) (by kernel_rfl) ?_
        rintro ⟨xs_13, i_14⟩ _ y_212 ⟨hn_210, ho_209⟩ h
        rw [impl_TurnWear.l_15] at h
        refine jc_seq ?_
        refine jc_region ?_
        refine jo_f [(0, 0)] (by kernel_rfl) ?_
        refine jo_end (by kernel_rfl) ?_
        refine jx_then ?_
        refine jc_seq ?_
        refine jc_cond (decide (i_14 < (t_9.length : Int))) (by kernel_rfl) (fun hc_214 => ?_) (fun hc_214 => ?_)
        · replace h := ifT hc_214 h
          refine jc_skip ?_
          refine jx_then ?_
          refine jc_seq ?_
          refine jc_block ?_
          refine jc_seq ?_
          refine jc_region ?_
          refine jo_f [(0, 0)] (by kernel_rfl) ?_
          obtain ⟨x_17, hx_215, h⟩ := bd h
          refine toO (by kernel_rfl) (p_idx 0 (o_163.map fun b => ⟨b, 0, none⟩) t_9.length i_14 1 (by kernel_rfl) (by kernel_rfl) (ix_some hx_215).1 (ltn hx_215 rfl) (spo ho_167 hx_215) (jkO ?_))
          refine toO (by kernel_rfl) (p_ld 0 (aB (o_163.map fun b => ⟨b, 0, none⟩)) (aO (o_163.map fun b => ⟨b, 0, none⟩) + i_14.toNat * 1) false (encI64 x_17) (by kernel_rfl) (by kernel_rfl) (by kernel_rfl) (fun w hm => ((hm.ownRow (hh := 7) (o := o_163) (T := 2) (enc := encI64) (xs := t_9) (sp := sp_165) (by kernel_rfl) (fun e => (ho_167 e).1) encI64_len).at hx_215)) (jkO ?_))
          refine jo_f [(0, 0), (0, 0)] (by kernel_rfl) ?_
          refine jo_end (by kernel_rfl) ?_
          refine jx_then ?_
          refine jc_region ?_
          refine jo_f [(0, 0), (6, 0), (0, 0)] (by kernel_rfl) ?_
          obtain ⟨x_18, hx_216, h⟩ := bd h
          refine toO (by kernel_rfl) (p_idx 0 (o_22.map fun b => ⟨b, 0, none⟩) t_5.fStrokes.length i_14 1 (by kernel_rfl) (by kernel_rfl) (ix_some hx_216).1 (ltn hx_216 hn_210) (spo ho_209 hx_216) (jkO ?_))
          refine toO (by kernel_rfl) (p_ld 0 (aB (o_22.map fun b => ⟨b, 0, none⟩)) (aO (o_22.map fun b => ⟨b, 0, none⟩) + i_14.toNat * 1) false (encI64 x_18) (by kernel_rfl) (by kernel_rfl) (by kernel_rfl) (fun w hm => ((hm.ownRow (hh := 5) (o := o_22) (T := 2) (enc := encI64) (xs := xs_13) (sp := sp_24) (by kernel_rfl) (fun e => (ho_209 e).1) encI64_len).at hx_216)) (jkO ?_))
          refine jo_f [(0, 0), (0, 0), (0, 0), (0, 0)] (by kernel_rfl) ?_
          obtain ⟨x_19, hx_217, h⟩ := bd h
          refine toO (by kernel_rfl) (p_idx 0 (o_22.map fun b => ⟨b, 0, none⟩) t_5.fStrokes.length i_14 1 (by kernel_rfl) (by kernel_rfl) (ix_some hx_217).1 (ltn hx_217 hn_210) (spo ho_209 hx_217) (jkO ?_))
          refine toO (by kernel_rfl) (p_strO 0 5 o_22 2 encI64 xs_13 sp_24 i_14 (w64 (x_18 + (w64 (x_17 * turns2)))) 1 0 [(.int .i64 (w64 (x_18 + (w64 (x_17 * turns2)))))] (by kernel_rfl) (by kernel_rfl) (by kernel_rfl) (fun e => (ho_209 e).1) encI64_len hx_217 (by kernel_rfl) (by kernel_rfl) (jkO ?_))
          refine jo_end (by kernel_rfl) ?_
          refine jx_inn ?_
          refine jx_then ?_
          refine jc_region ?_
          refine jo_f [(0, 0), (0, 0)] (by kernel_rfl) ?_
          refine jo_end (by kernel_rfl) ?_
          exact jx_back ((xs_13.set i_14.toNat (w64 (x_18 + (w64 (x_17 * turns2))))), (w64 (i_14 + 1))) () (Option.some.inj h).symm ⟨(List.length_set.trans hn_210), (set_ho ho_209)⟩ [0, 1, 2, 3, 4, 5, 6, 7] (by kernel_rfl) (by kernel_rfl) (by kernel_rfl)
        · replace h := ifF hc_214 h
          refine jc_exit ?_
          refine jx_thenx ?_
          refine jx_leave xs_13 (Option.some.inj h).symm (fun e_218 => ?_)
          subst e_218
          refine jx_ine ?_
          exact jx_meet xs_13 ⟨hr_211, hn_210, ho_209⟩ (by kernel_rfl) [0, 1, 2, 3, 4, 5, 6, 7] (by kernel_rfl) (by kernel_rfl)
      · rintro xs_10 ⟨h, hn_192, ho_191⟩
        replace h : impl_TurnWear.k_11 f0 xs_6 xs_10 = some r := h
        rw [impl_TurnWear.k_11] at h
        refine jx_then ?_
        refine jc_seq ?_
        refine jc_seq ?_
        refine jc_region ?_
        refine jo_f [(0, 0), (6, 0)] (by kernel_rfl) ?_
        obtain ⟨t_12, ht_195, h⟩ := bd h
        refine toO (by kernel_rfl) (p_call 0 77 #[(.agg #[(.int .i16 f0.fSteps), (.slice f0_fHammers_a f0.fHammers.length f0_fHammers_c)]), (.agg #[(.slice (o_17.map fun b => ⟨b, 0, none⟩) t_5.fPins.length cap_18), (.slice (o_22.map fun b => ⟨b, 0, none⟩) t_5.fStrokes.length cap_23)])] (by kernel_rfl) (by kernel_rfl) (fun w hm => impl_ValidWear.calls f0 (⟨xs_6, xs_10⟩ : GWear) w _ f0_fHammers_a f0.fHammers.length f0_fHammers_c (hm.exRow f0_fHammers_h List.not_mem_nil) rfl (o_17.map fun b => ⟨b, 0, none⟩) t_5.fPins.length cap_18 (hm.ownRow (hh := 4) (o := o_17) (T := 108) (enc := encGWornPin) (xs := xs_6) (sp := sp_19) (by kernel_rfl) (fun e => (ho_90 e).1) encGWornPin_len) hn_91 (o_22.map fun b => ⟨b, 0, none⟩) t_5.fStrokes.length cap_23 (hm.ownRow (hh := 5) (o := o_22) (T := 2) (enc := encI64) (xs := xs_10) (sp := sp_24) (by kernel_rfl) (fun e => (ho_191 e).1) encI64_len) hn_192 ht_195) ?_)
        rintro w v w' hm ⟨rfl, hm'⟩
        refine ⟨_, hm.app hm', jkO ?_⟩
        clear hm hm'
        refine jo_f [(0, 0)] (by kernel_rfl) ?_
        refine jo_end (by kernel_rfl) ?_
        refine jx_then ?_
        refine jc_cond (!t_12) (by kernel_rfl) (fun hc_196 => ?_) (fun hc_196 => ?_)
        · replace h := ifT hc_196 h
          refine jc_seq ?_
          refine jc_region ?_
          refine jo_f [(0, 0)] (by kernel_rfl) ?_
          refine toO (by kernel_rfl) (p_s 0 [2] (by kernel_rfl) (by kernel_rfl) (jkO ?_))
          refine jo_f [(0, 0)] (by kernel_rfl) ?_
          refine jo_end (by kernel_rfl) ?_
          refine jx_then ?_
          refine jc_ret ?_
          refine jx_thenr ?_
          obtain rfl := Option.some.inj h
          refine jx_ghost 108 encGWornPin ?_
          refine jx_ghost 2 encI64 ?_
          exact jx_ret [2] (.tuple #[(.agg #[(.slice none 0 0), (.slice none 0 0)]), (.int .i64 3)]) [(b_3, b_3), (b_3, b_3)] rfl (by kernel_rfl) (by kernel_rfl) (fun w hm => ⟨none, 0, [], 0, rfl, (fun e => absurd rfl e), (fun _ => ⟨rfl, rfl⟩), none, 0, [], 0, rfl, (fun e => absurd rfl e), (fun _ => ⟨rfl, rfl⟩), rfl, hm.pick [8, 9] (by kernel_rfl) (by kernel_rfl)⟩)
        · replace h := ifF hc_196 h
          refine jc_skip ?_
          refine jx_then ?_
          refine jc_seq ?_
          refine jc_region ?_
          refine jo_f [(6, 0)] (by kernel_rfl) ?_
          refine toO (by kernel_rfl) (p_s 0 [2] (by kernel_rfl) (by kernel_rfl) (jkO ?_))
          refine jo_f [(0, 0)] (by kernel_rfl) ?_
          refine jo_end (by kernel_rfl) ?_
          refine jx_then ?_
          refine jc_ret ?_
          obtain rfl := Option.some.inj h
          exact jx_ret [2] (.tuple #[(.agg #[(.slice (o_17.map fun b => ⟨b, 0, none⟩) t_5.fPins.length cap_18), (.slice (o_22.map fun b => ⟨b, 0, none⟩) t_5.fStrokes.length cap_23)]), (.int .i64 0)]) [(b_3, b_3), (b_3, b_3)] rfl (by kernel_rfl) (by kernel_rfl) (fun w hm => ⟨o_17, cap_18, sp_19, t_5.fPins.length, hn_91, hs_20, ho_90, o_22, cap_23, sp_24, t_5.fStrokes.length, hn_192, hs_25, ho_191, rfl, hm.pick [4, 5] (by kernel_rfl) (by kernel_rfl)⟩)

/-! ### impl.wornPlaceCode$1 -/
noncomputable def impl_wornPlaceCode_1 (p0 : Arr 2 Int) (p1 : GFrame) : Option (Bool) := (ix p0.1 0).bind fun x_1 => (ix p0.1 1).bind fun x_2 => (impl_Frame_isPlace p1 x_1 x_2).bind fun t_3 => some (!t_3)
set_option maxRecDepth 100000 in
theorem impl_wornPlaceCode_1.calls (p0 : Arr 2 Int) (p1 : GFrame) (w : World) (r : Bool) (p1_fHammers_a : Option Addr) (p1_fHammers_an : Nat) (p1_fHammers_c : Nat) (p1_fHammers_h : Rw w p1_fHammers_a 2 encGHammer p1.fHammers) (p1_fHammers_hn : p1.fHammers.length = p1_fHammers_an) (p1_b : Nat) (hm0 : Mem w (bs [some p1_b]) [⟨some p1_b, 42, [(.int .i16 p1.fSteps), (.slice p1_fHammers_a p1_fHammers_an p1_fHammers_c)]⟩] w) (p1_fHammers_ha : p1.fHammers ≠ [] → aB p1_fHammers_a ∉ bs [some p1_b]) (h : impl_wornPlaceCode_1 p0 p1 = some r) :
    Calls Tryz.prog 108 #[(.agg (row encI64 p0.1 []).toArray), (.pointer (some ⟨p1_b, 0, none⟩))] w fun e w' => ∃ v, e = .returned v ∧ (v = (.bool r) ∧ Mem w (bs [some p1_b]) [⟨some p1_b, 42, [(.int .i16 p1.fSteps), (.slice p1_fHammers_a p1_fHammers_an p1_fHammers_c)]⟩] w') := by
  subst p1_fHammers_hn
  rw [impl_wornPlaceCode_1] at h
  refine enter (args := [(.agg (row encI64 p0.1 []).toArray), (.pointer (some ⟨p1_b, 0, none⟩))]) Tryz.func108 rfl Tryz.ntmps108 (by kernel_rfl) (L := [⟨some p1_b, 42, [(.int .i16 p1.fSteps), (.slice p1_fHammers_a p1.fHammers.length p1_fHammers_c)]⟩]) (W := bs [some p1_b]) hm0 ?_
  refine jc_seq ?_
  refine jc_region ?_
  refine toO (by kernel_rfl) (p_a 0 [0] (by kernel_rfl) (fun b => by kernel_rfl) (fun b_1 => jkO ?_))
  refine jo_f [(0, 0)] (by kernel_rfl) ?_
  refine jo_end (by kernel_rfl) ?_
  refine jx_then ?_
  refine jc_seq ?_
  refine jc_region ?_
  refine jo_f [(0, 0)] (by kernel_rfl) ?_
  obtain ⟨x_1, hx_2, h⟩ := bd h
  refine toO (by kernel_rfl) (p_idx 0 (some ⟨b_1, 0, none⟩) 2 0 1 (by kernel_rfl) (by kernel_rfl) (ix_some hx_2).1 (ltn hx_2 p0.2) rfl (jkO ?_))
  refine toO (by kernel_rfl) (p_ld 0 (aB (some ⟨b_1, 0, none⟩)) (aO (some ⟨b_1, 0, none⟩) + (0 : Int).toNat * 1) false (encI64 x_1) (by kernel_rfl) (by kernel_rfl) (by kernel_rfl) (fun w hm => ((hm.ownRow (hh := 1) (o := (some b_1)) (T := 130) (enc := encI64) (xs := p0.1) (sp := []) (by kernel_rfl) (fun e => nomatch e) encI64_len).at hx_2)) (jkO ?_))
  obtain ⟨x_2, hx_3, h⟩ := bd h
  refine toO (by kernel_rfl) (p_idx 0 (some ⟨b_1, 0, none⟩) 2 1 1 (by kernel_rfl) (by kernel_rfl) (ix_some hx_3).1 (ltn hx_3 p0.2) rfl (jkO ?_))
  refine toO (by kernel_rfl) (p_ld 0 (aB (some ⟨b_1, 0, none⟩)) (aO (some ⟨b_1, 0, none⟩) + (1 : Int).toNat * 1) false (encI64 x_2) (by kernel_rfl) (by kernel_rfl) (by kernel_rfl) (fun w hm => ((hm.ownRow (hh := 1) (o := (some b_1)) (T := 130) (enc := encI64) (xs := p0.1) (sp := []) (by kernel_rfl) (fun e => nomatch e) encI64_len).at hx_3)) (jkO ?_))
  obtain ⟨t_3, ht_4, h⟩ := bd h
  refine toO (by kernel_rfl) (p_call 0 105 #[(.agg #[(.int .i16 p1.fSteps), (.slice p1_fHammers_a p1.fHammers.length p1_fHammers_c)]), (.int .i64 x_1), (.int .i64 x_2)] (by kernel_rfl) (by kernel_rfl) (fun w hm => impl_Frame_isPlace.calls p1 x_1 x_2 w _ p1_fHammers_a p1.fHammers.length p1_fHammers_c (hm.exRowW p1_fHammers_h p1_fHammers_ha) rfl ht_4) ?_)
  rintro w v w' hm ⟨rfl, hm'⟩
  refine ⟨_, hm.app hm', jkO ?_⟩
  clear hm hm'
  refine jo_f [(0, 0), (0, 0)] (by kernel_rfl) ?_
  refine jo_end (by kernel_rfl) ?_
  refine jx_then ?_
  refine jc_ret ?_
  obtain rfl := Option.some.inj h
  exact jx_ret [] (.bool (!t_3)) [] rfl (by kernel_rfl) (by kernel_rfl) (fun w hm => ⟨rfl, hm.pick [0] (by kernel_rfl) (by kernel_rfl)⟩)

/-! ### slices.IndexFunc[[][2]int64,[2]int64] -/
noncomputable def slices_IndexFunc_2int64_at_impl_wornPlaceCode_1.k_1 : Option (Int) := some (-1)
noncomputable def slices_IndexFunc_2int64_at_impl_wornPlaceCode_1.l_3 (s0 : List (Arr 2 Int)) (g1c0 : GFrame) : Int → Option ((Int) ⊕ (Int ⊕ Unit))
  | i_2 => (if (decide (i_2 < (s0.length : Int))) = true then (ix s0 i_2).bind fun x_5 => (impl_wornPlaceCode_1 x_5 g1c0).bind fun t_6 => (if t_6 = true then some (.inr (.inl i_2)) else some (.inl (w64 (i_2 + 1)))) else some (.inr (.inr ())))
noncomputable def slices_IndexFunc_2int64_at_impl_wornPlaceCode_1 (s0 : List (Arr 2 Int)) (g1c0 : GFrame) : Option (Int) := (loop (slices_IndexFunc_2int64_at_impl_wornPlaceCode_1.l_3 s0 g1c0) 0).bind fun t_4 => match t_4 with | .inl p => some p | .inr p => slices_IndexFunc_2int64_at_impl_wornPlaceCode_1.k_1
set_option maxRecDepth 100000 in
theorem slices_IndexFunc_2int64_at_impl_wornPlaceCode_1.calls (s0 : List (Arr 2 Int)) (g1c0 : GFrame) (w : World) (r : Int) (s0_a : Option Addr) (s0_an : Nat) (s0_c : Nat) (s0_h : Rw w s0_a 2 encA2I64 s0) (s0_hn : s0.length = s0_an) (g1c0_fHammers_a : Option Addr) (g1c0_fHammers_an : Nat) (g1c0_fHammers_c : Nat) (g1c0_fHammers_h : Rw w g1c0_fHammers_a 2 encGHammer g1c0.fHammers) (g1c0_fHammers_hn : g1c0.fHammers.length = g1c0_fHammers_an) (g1c0_b : Nat) (hm0 : Mem w (bs [some g1c0_b]) [⟨some g1c0_b, 42, [(.int .i16 g1c0.fSteps), (.slice g1c0_fHammers_a g1c0_fHammers_an g1c0_fHammers_c)]⟩] w) (s0_ha : s0 ≠ [] → aB s0_a ∉ bs [some g1c0_b]) (g1c0_fHammers_ha : g1c0.fHammers ≠ [] → aB g1c0_fHammers_a ∉ bs [some g1c0_b]) (h : slices_IndexFunc_2int64_at_impl_wornPlaceCode_1 s0 g1c0 = some r) :
    Calls Tryz.prog 133 #[(.slice s0_a s0_an s0_c), (.func (.func 108) #[] #[(.pointer (some ⟨g1c0_b, 0, none⟩))])] w fun e w' => ∃ v, e = .returned v ∧ (v = (.int .i64 r) ∧ Mem w (bs [some g1c0_b]) [⟨some g1c0_b, 42, [(.int .i16 g1c0.fSteps), (.slice g1c0_fHammers_a g1c0_fHammers_an g1c0_fHammers_c)]⟩] w') := by
  subst s0_hn g1c0_fHammers_hn
  rw [slices_IndexFunc_2int64_at_impl_wornPlaceCode_1] at h
  refine enter (args := [(.slice s0_a s0.length s0_c), (.func (.func 108) #[] #[(.pointer (some ⟨g1c0_b, 0, none⟩))])]) Tryz.func133 rfl Tryz.ntmps133 (by kernel_rfl) (L := [⟨some g1c0_b, 42, [(.int .i16 g1c0.fSteps), (.slice g1c0_fHammers_a g1c0.fHammers.length g1c0_fHammers_c)]⟩]) (W := bs [some g1c0_b]) hm0 ?_
  refine jc_seq ?_
  refine jc_region ?_
  refine jo_f [(0, 0)] (by kernel_rfl) ?_
  refine jo_end (by kernel_rfl) ?_
  refine jx_then ?_
  refine jc_seq ?_
  refine jc_seq ?_
  refine jc_region ?_
  refine jo_f [(0, 0), (0, 0), (0, 0)] (by kernel_rfl) ?_
  refine jo_end (by kernel_rfl) ?_
  refine jx_then ?_
  refine jc_meet (fun (_ : Unit) => slices_IndexFunc_2int64_at_impl_wornPlaceCode_1.k_1 = some r) (fun (_ : Unit) => [(4, [], (.int .i64 0))]) (fun (_ : Unit) => [⟨some g1c0_b, 42, [(.int .i16 g1c0.fSteps), (.slice g1c0_fHammers_a g1c0.fHammers.length g1c0_fHammers_c)]⟩]) ?_ ?_
  · refine jc_block ?_
    obtain ⟨t_4, ht_40, hr_31⟩ := bd h
    refine jc_loop (fun (s : Int) (x : Unit) => match s, x with | i_2, _ => True) (fun (s : Int) (x : Unit) => match s, x with | i_2, _ => [(0, [], (.slice s0_a s0.length s0_c)), (1, [], (.func (.func 108) #[] #[(.pointer (some ⟨g1c0_b, 0, none⟩))])), (4, [], (.int .i64 0)), (7, [], (.int .i64 (s0.length : Int))), (8, [], (.int .i64 i_2))]) (fun (s : Int) (x : Unit) => match s, x with | i_2, _ => [⟨some g1c0_b, 42, [(.int .i16 g1c0.fSteps), (.slice g1c0_fHammers_a g1c0.fHammers.length g1c0_fHammers_c)]⟩]) ht_40 () trivial (by kernel_rfl) [0] (by kernel_rfl) (by kernel_rfl) ?_
    rintro i_2 _ y_32 _ h
    rw [slices_IndexFunc_2int64_at_impl_wornPlaceCode_1.l_3] at h
    refine jc_seq ?_
    refine jc_region ?_
    refine jo_f [(0, 0)] (by kernel_rfl) ?_
    refine jo_end (by kernel_rfl) ?_
    refine jx_then ?_
    refine jc_seq ?_
    refine jc_cond (decide (i_2 < (s0.length : Int))) (by kernel_rfl) (fun hc_34 => ?_) (fun hc_34 => ?_)
    · replace h := ifT hc_34 h
      refine jc_skip ?_
      refine jx_then ?_
      refine jc_seq ?_
      refine jc_block ?_
      refine jc_seq ?_
      refine jc_region ?_
      refine jo_f [(0, 0), (0, 0)] (by kernel_rfl) ?_
      refine jo_end (by kernel_rfl) ?_
      refine jx_then ?_
      refine jc_seq ?_
      refine jc_region ?_
      refine jo_f [(0, 0), (0, 0), (0, 0)] (by kernel_rfl) ?_
      obtain ⟨x_5, hx_35, h⟩ := bd h
      refine toO (by kernel_rfl) (p_idx 0 s0_a s0.length i_2 2 (by kernel_rfl) (by kernel_rfl) (ix_some hx_35).1 (ltn hx_35 rfl) (s0_h.sp hx_35) (jkO ?_))
      refine toO (by kernel_rfl) (p_ldx 0 (aB s0_a) (aO s0_a + i_2.toNat * 2) (encA2I64 x_5) 2 (by kernel_rfl) (by kernel_rfl) (encA2I64_len x_5) (fun w hm => ((hm.exRowW s0_h s0_ha).at hx_35)) (jkO ?_))
      obtain ⟨t_6, ht_36, h⟩ := bd h
      refine toO (by kernel_rfl) (p_call 0 108 #[(.agg (row encI64 x_5.1 []).toArray), (.pointer (some ⟨g1c0_b, 0, none⟩))] (by kernel_rfl) (by kernel_rfl) (fun w hm => impl_wornPlaceCode_1.calls x_5 g1c0 w _ g1c0_fHammers_a g1c0.fHammers.length g1c0_fHammers_c (hm.exRowW g1c0_fHammers_h g1c0_fHammers_ha) rfl g1c0_b (hm.pass (N := [⟨some g1c0_b, 42, [(.int .i16 g1c0.fSteps), (.slice g1c0_fHammers_a g1c0.fHammers.length g1c0_fHammers_c)]⟩]) [0] (by kernel_rfl) (by kernel_rfl)) (hm.exApart (N := [⟨some g1c0_b, 42, [(.int .i16 g1c0.fSteps), (.slice g1c0_fHammers_a g1c0.fHammers.length g1c0_fHammers_c)]⟩]) g1c0_fHammers_h g1c0_fHammers_ha [0] (by kernel_rfl)) ht_36) ?_)
      rintro w v w' hm ⟨rfl, hm'⟩
      refine ⟨_, hm.appW (ps := [(0, ⟨some g1c0_b, 42, [(.int .i16 g1c0.fSteps), (.slice g1c0_fHammers_a g1c0.fHammers.length g1c0_fHammers_c)]⟩)]) (N := []) hm' (by kernel_rfl) (by kernel_rfl), jkO ?_⟩
      clear hm hm'
      refine jo_end (by kernel_rfl) ?_
      refine jx_then ?_
      refine jc_cond t_6 (by kernel_rfl) (fun hc_37 => ?_) (fun hc_37 => ?_)
      · replace h := ifT hc_37 h
        refine jc_seq ?_
        refine jc_region ?_
        refine jo_f [(0, 0), (0, 0)] (by kernel_rfl) ?_
        refine jo_end (by kernel_rfl) ?_
        refine jx_then ?_
        refine jc_ret ?_
        refine jx_inr ?_
        refine jx_thenr ?_
        refine jx_leaver (.inl i_2) (Option.some.inj h).symm (fun e_38 => ?_)
        subst e_38
        refine jx_inr ?_
        refine jx_thenr ?_
        refine jx_thenr ?_
        obtain rfl := Option.some.inj hr_31
        exact jx_ret [] (.int .i64 i_2) [] rfl (by kernel_rfl) (by kernel_rfl) (fun w hm => ⟨rfl, hm.pick [0] (by kernel_rfl) (by kernel_rfl)⟩)
      · replace h := ifF hc_37 h
        refine jc_skip ?_
        refine jx_inn ?_
        refine jx_then ?_
        refine jc_region ?_
        refine jo_f [(0, 0), (0, 0)] (by kernel_rfl) ?_
        refine jo_end (by kernel_rfl) ?_
        exact jx_back (w64 (i_2 + 1)) () (Option.some.inj h).symm trivial [0] (by kernel_rfl) (by kernel_rfl) (by kernel_rfl)
    · replace h := ifF hc_34 h
      refine jc_exit ?_
      refine jx_thenx ?_
      refine jx_leave (.inr ()) (Option.some.inj h).symm (fun e_39 => ?_)
      subst e_39
      refine jx_ine ?_
      exact jx_meet () hr_31 (by kernel_rfl) [0] (by kernel_rfl) (by kernel_rfl)
  · rintro _ h
    replace h : slices_IndexFunc_2int64_at_impl_wornPlaceCode_1.k_1 = some r := h
    rw [slices_IndexFunc_2int64_at_impl_wornPlaceCode_1.k_1] at h
    refine jx_then ?_
    refine jc_seq ?_
    refine jc_region ?_
    refine jo_f [(0, 0)] (by kernel_rfl) ?_
    refine jo_end (by kernel_rfl) ?_
    refine jx_then ?_
    refine jc_ret ?_
    obtain rfl := Option.some.inj h
    exact jx_ret [] (.int .i64 (-1)) [] rfl (by kernel_rfl) (by kernel_rfl) (fun w hm => ⟨rfl, hm.pick [0] (by kernel_rfl) (by kernel_rfl)⟩)

/-! ### slices.ContainsFunc[[][2]int64,[2]int64] -/
noncomputable def slices_ContainsFunc_2int64_at_impl_wornPlaceCode_1 (s0 : List (Arr 2 Int)) (g1c0 : GFrame) : Option (Bool) := (slices_IndexFunc_2int64_at_impl_wornPlaceCode_1 s0 g1c0).bind fun t_1 => some (decide (t_1 ≥ 0))
set_option maxRecDepth 100000 in
theorem slices_ContainsFunc_2int64_at_impl_wornPlaceCode_1.calls (s0 : List (Arr 2 Int)) (g1c0 : GFrame) (w : World) (r : Bool) (s0_a : Option Addr) (s0_an : Nat) (s0_c : Nat) (s0_h : Rw w s0_a 2 encA2I64 s0) (s0_hn : s0.length = s0_an) (g1c0_fHammers_a : Option Addr) (g1c0_fHammers_an : Nat) (g1c0_fHammers_c : Nat) (g1c0_fHammers_h : Rw w g1c0_fHammers_a 2 encGHammer g1c0.fHammers) (g1c0_fHammers_hn : g1c0.fHammers.length = g1c0_fHammers_an) (g1c0_b : Nat) (hm0 : Mem w (bs [some g1c0_b]) [⟨some g1c0_b, 42, [(.int .i16 g1c0.fSteps), (.slice g1c0_fHammers_a g1c0_fHammers_an g1c0_fHammers_c)]⟩] w) (s0_ha : s0 ≠ [] → aB s0_a ∉ bs [some g1c0_b]) (g1c0_fHammers_ha : g1c0.fHammers ≠ [] → aB g1c0_fHammers_a ∉ bs [some g1c0_b]) (h : slices_ContainsFunc_2int64_at_impl_wornPlaceCode_1 s0 g1c0 = some r) :
    Calls Tryz.prog 107 #[(.slice s0_a s0_an s0_c), (.func (.func 108) #[] #[(.pointer (some ⟨g1c0_b, 0, none⟩))])] w fun e w' => ∃ v, e = .returned v ∧ (v = (.bool r) ∧ Mem w (bs [some g1c0_b]) [⟨some g1c0_b, 42, [(.int .i16 g1c0.fSteps), (.slice g1c0_fHammers_a g1c0_fHammers_an g1c0_fHammers_c)]⟩] w') := by
  subst s0_hn g1c0_fHammers_hn
  rw [slices_ContainsFunc_2int64_at_impl_wornPlaceCode_1] at h
  refine enter (args := [(.slice s0_a s0.length s0_c), (.func (.func 108) #[] #[(.pointer (some ⟨g1c0_b, 0, none⟩))])]) Tryz.func107 rfl Tryz.ntmps107 (by kernel_rfl) (L := [⟨some g1c0_b, 42, [(.int .i16 g1c0.fSteps), (.slice g1c0_fHammers_a g1c0.fHammers.length g1c0_fHammers_c)]⟩]) (W := bs [some g1c0_b]) hm0 ?_
  refine jc_seq ?_
  refine jc_region ?_
  refine jo_f [(0, 0)] (by kernel_rfl) ?_
  refine jo_end (by kernel_rfl) ?_
  refine jx_then ?_
  refine jc_seq ?_
  refine jc_region ?_
  refine jo_f [(0, 0), (0, 0)] (by kernel_rfl) ?_
  obtain ⟨t_1, ht_1, h⟩ := bd h
  refine toO (by kernel_rfl) (p_call 0 133 #[(.slice s0_a s0.length s0_c), (.func (.func 108) #[] #[(.pointer (some ⟨g1c0_b, 0, none⟩))])] (by kernel_rfl) (by kernel_rfl) (fun w hm => slices_IndexFunc_2int64_at_impl_wornPlaceCode_1.calls s0 g1c0 w _ s0_a s0.length s0_c (hm.exRowW s0_h s0_ha) rfl g1c0_fHammers_a g1c0.fHammers.length g1c0_fHammers_c (hm.exRowW g1c0_fHammers_h g1c0_fHammers_ha) rfl g1c0_b (hm.pass (N := [⟨some g1c0_b, 42, [(.int .i16 g1c0.fSteps), (.slice g1c0_fHammers_a g1c0.fHammers.length g1c0_fHammers_c)]⟩]) [0] (by kernel_rfl) (by kernel_rfl)) (hm.exApart (N := [⟨some g1c0_b, 42, [(.int .i16 g1c0.fSteps), (.slice g1c0_fHammers_a g1c0.fHammers.length g1c0_fHammers_c)]⟩]) s0_h s0_ha [0] (by kernel_rfl)) (hm.exApart (N := [⟨some g1c0_b, 42, [(.int .i16 g1c0.fSteps), (.slice g1c0_fHammers_a g1c0.fHammers.length g1c0_fHammers_c)]⟩]) g1c0_fHammers_h g1c0_fHammers_ha [0] (by kernel_rfl)) ht_1) ?_)
  rintro w v w' hm ⟨rfl, hm'⟩
  refine ⟨_, hm.appW (ps := [(0, ⟨some g1c0_b, 42, [(.int .i16 g1c0.fSteps), (.slice g1c0_fHammers_a g1c0.fHammers.length g1c0_fHammers_c)]⟩)]) (N := []) hm' (by kernel_rfl) (by kernel_rfl), jkO ?_⟩
  clear hm hm'
  refine jo_f [(0, 0), (0, 0)] (by kernel_rfl) ?_
  refine jo_end (by kernel_rfl) ?_
  refine jx_then ?_
  refine jc_ret ?_
  obtain rfl := Option.some.inj h
  exact jx_ret [] (.bool (decide (t_1 ≥ 0))) [] rfl (by kernel_rfl) (by kernel_rfl) (fun w hm => ⟨rfl, hm.pick [0] (by kernel_rfl) (by kernel_rfl)⟩)

/-! ### impl.wornPlaceCode -/
noncomputable def impl_wornPlaceCode (f0 : GFrame) (w1 : GWear) (places2 : List (Arr 2 Int)) : Option (Int) := (impl_wearCode f0 w1 []).bind fun t_1 => (if (t_1 != 0) = true then some t_1 else (slices_ContainsFunc_2int64_at_impl_wornPlaceCode_1 places2 f0).bind fun t_2 => (impl_unless (!t_2) 2).bind fun t_3 => some t_3)
set_option maxRecDepth 100000 in
theorem impl_wornPlaceCode.calls (f0 : GFrame) (w1 : GWear) (places2 : List (Arr 2 Int)) (w : World) (r : Int) (f0_fHammers_a : Option Addr) (f0_fHammers_an : Nat) (f0_fHammers_c : Nat) (f0_fHammers_h : Rw w f0_fHammers_a 2 encGHammer f0.fHammers) (f0_fHammers_hn : f0.fHammers.length = f0_fHammers_an) (w1_fPins_a : Option Addr) (w1_fPins_an : Nat) (w1_fPins_c : Nat) (w1_fPins_h : Rw w w1_fPins_a 3 encGWornPin w1.fPins) (w1_fPins_hn : w1.fPins.length = w1_fPins_an) (w1_fStrokes_a : Option Addr) (w1_fStrokes_an : Nat) (w1_fStrokes_c : Nat) (w1_fStrokes_h : Rw w w1_fStrokes_a 1 encI64 w1.fStrokes) (w1_fStrokes_hn : w1.fStrokes.length = w1_fStrokes_an) (places2_a : Option Addr) (places2_an : Nat) (places2_c : Nat) (places2_h : Rw w places2_a 2 encA2I64 places2) (places2_hn : places2.length = places2_an) (h : impl_wornPlaceCode f0 w1 places2 = some r) :
    Calls Tryz.prog 78 #[(.agg #[(.int .i16 f0.fSteps), (.slice f0_fHammers_a f0_fHammers_an f0_fHammers_c)]), (.agg #[(.slice w1_fPins_a w1_fPins_an w1_fPins_c), (.slice w1_fStrokes_a w1_fStrokes_an w1_fStrokes_c)]), (.slice places2_a places2_an places2_c)] w fun e w' => ∃ v, e = .returned v ∧ (v = (.int .i64 r) ∧ Mem w [] [] w') := by
  subst f0_fHammers_hn w1_fPins_hn w1_fStrokes_hn places2_hn
  rw [impl_wornPlaceCode] at h
  refine enter (args := [(.agg #[(.int .i16 f0.fSteps), (.slice f0_fHammers_a f0.fHammers.length f0_fHammers_c)]), (.agg #[(.slice w1_fPins_a w1.fPins.length w1_fPins_c), (.slice w1_fStrokes_a w1.fStrokes.length w1_fStrokes_c)]), (.slice places2_a places2.length places2_c)]) Tryz.func78 rfl Tryz.ntmps78 (by kernel_rfl) (L := []) (W := []) (Mem.start w) ?_
  refine jc_seq ?_
  refine jc_region ?_
  refine toO (by kernel_rfl) (p_a 0 [0] (by kernel_rfl) (fun b => by kernel_rfl) (fun b_1 => jkO ?_))
  refine toO (by kernel_rfl) (p_a 0 [0] (by kernel_rfl) (fun b => by kernel_rfl) (fun b_2 => jkO ?_))
  refine jo_f [(0, 0)] (by kernel_rfl) ?_
  refine jo_end (by kernel_rfl) ?_
  refine jx_then ?_
  refine jc_seq ?_
  refine jc_seq ?_
  refine jc_region ?_
  refine jo_f [(0, 0), (1, 0)] (by kernel_rfl) ?_
  obtain ⟨t_1, ht_5, h⟩ := bd h
  refine toO (by kernel_rfl) (p_call 0 44 #[(.agg #[(.int .i16 f0.fSteps), (.slice f0_fHammers_a f0.fHammers.length f0_fHammers_c)]), (.agg #[(.slice w1_fPins_a w1.fPins.length w1_fPins_c), (.slice w1_fStrokes_a w1.fStrokes.length w1_fStrokes_c)]), (.slice none 0 0)] (by kernel_rfl) (by kernel_rfl) (fun w hm => impl_wearCode.calls f0 w1 [] w _ f0_fHammers_a f0.fHammers.length f0_fHammers_c (hm.exRow f0_fHammers_h List.not_mem_nil) rfl w1_fPins_a w1.fPins.length w1_fPins_c (hm.exRow w1_fPins_h List.not_mem_nil) rfl w1_fStrokes_a w1.fStrokes.length w1_fStrokes_c (hm.exRow w1_fStrokes_h List.not_mem_nil) rfl none 0 0 Rw.nil rfl ht_5) ?_)
  rintro w v w' hm ⟨rfl, hm'⟩
  refine ⟨_, hm.app hm', jkO ?_⟩
  clear hm hm'
  refine jo_f [(0, 0)] (by kernel_rfl) ?_
  refine jo_end (by kernel_rfl) ?_
  refine jx_then ?_
  refine jc_seq ?_
  refine jc_region ?_
  refine jo_f [(0, 0), (0, 0)] (by kernel_rfl) ?_
  refine jo_end (by kernel_rfl) ?_
  refine jx_then ?_
  refine jc_cond (t_1 != 0) (by kernel_rfl) (fun hc_6 => ?_) (fun hc_6 => ?_)
  · replace h := ifT hc_6 h
    refine jc_seq ?_
    refine jc_region ?_
    refine jo_f [(0, 0), (0, 0)] (by kernel_rfl) ?_
    refine jo_end (by kernel_rfl) ?_
    refine jx_then ?_
    refine jc_ret ?_
    refine jx_thenr ?_
    obtain rfl := Option.some.inj h
    exact jx_ret [] (.int .i64 t_1) [] rfl (by kernel_rfl) (by kernel_rfl) (fun w hm => ⟨rfl, hm.pick [] (by kernel_rfl) (by kernel_rfl)⟩)
  · replace h := ifF hc_6 h
    refine jc_skip ?_
    refine jx_then ?_
    refine jc_seq ?_
    refine jc_region ?_
    refine jo_f [(0, 0), (0, 0)] (by kernel_rfl) ?_
    obtain ⟨t_2, ht_7, h⟩ := bd h
    refine toO (by kernel_rfl) (p_call 0 107 #[(.slice places2_a places2.length places2_c), (.func (.func 108) #[] #[(.pointer (some ⟨b_1, 0, none⟩))])] (by kernel_rfl) (by kernel_rfl) (fun w hm => slices_ContainsFunc_2int64_at_impl_wornPlaceCode_1.calls places2 f0 w _ places2_a places2.length places2_c (hm.exRow places2_h List.not_mem_nil) rfl f0_fHammers_a f0.fHammers.length f0_fHammers_c (hm.exRow f0_fHammers_h List.not_mem_nil) rfl b_1 (hm.pass (N := [⟨some b_1, 42, [(.int .i16 f0.fSteps), (.slice f0_fHammers_a f0.fHammers.length f0_fHammers_c)]⟩]) [0] (by kernel_rfl) (by kernel_rfl)) (hm.exApart (N := [⟨some b_1, 42, [(.int .i16 f0.fSteps), (.slice f0_fHammers_a f0.fHammers.length f0_fHammers_c)]⟩]) places2_h (fun _ => List.not_mem_nil) [0] (by kernel_rfl)) (hm.exApart (N := [⟨some b_1, 42, [(.int .i16 f0.fSteps), (.slice f0_fHammers_a f0.fHammers.length f0_fHammers_c)]⟩]) f0_fHammers_h (fun _ => List.not_mem_nil) [0] (by kernel_rfl)) ht_7) ?_)
    rintro w v w' hm ⟨rfl, hm'⟩
    refine ⟨_, hm.appW (ps := [(0, ⟨some b_1, 42, [(.int .i16 f0.fSteps), (.slice f0_fHammers_a f0.fHammers.length f0_fHammers_c)]⟩)]) (N := []) hm' (by kernel_rfl) (by kernel_rfl), jkO ?_⟩
    clear hm hm'
    refine jo_f [(0, 0)] (by kernel_rfl) ?_
    obtain ⟨t_3, ht_8, h⟩ := bd h
    refine toO (by kernel_rfl) (p_call 0 72 #[(.bool (!t_2)), (.int .i64 2)] (by kernel_rfl) (by kernel_rfl) (fun w hm => impl_unless.calls (!t_2) 2 w _ ht_8) ?_)
    rintro w v w' hm ⟨rfl, hm'⟩
    refine ⟨_, hm.app hm', jkO ?_⟩
    clear hm hm'
    refine jo_f [(0, 0)] (by kernel_rfl) ?_
    refine jo_end (by kernel_rfl) ?_
    refine jx_then ?_
    refine jc_ret ?_
    obtain rfl := Option.some.inj h
    exact jx_ret [] (.int .i64 t_3) [] rfl (by kernel_rfl) (by kernel_rfl) (fun w hm => ⟨rfl, hm.pick [] (by kernel_rfl) (by kernel_rfl)⟩)

/-! ### impl.NewHammer -/
noncomputable def impl_NewHammer (f0 : GFrame) (w1 : GWear) (track2 : Int) : Option (GWear × Int) := (impl_wornPlaceCode f0 w1 [(Arr.set (Arr.set (Arr.rep 2 0) 0 0) 1 track2)]).bind fun t_1 => (if (t_1 != 0) = true then some ((⟨[], []⟩ : GWear), t_1) else (impl_Wear_own w1).bind fun t_2 => (ix t_2.fStrokes track2).bind fun x_3 => some ((⟨t_2.fPins, (t_2.fStrokes.set track2.toNat 0)⟩ : GWear), 0))
set_option maxRecDepth 100000 in
theorem impl_NewHammer.calls (f0 : GFrame) (w1 : GWear) (track2 : Int) (w : World) (r : GWear × Int) (f0_fHammers_a : Option Addr) (f0_fHammers_an : Nat) (f0_fHammers_c : Nat) (f0_fHammers_h : Rw w f0_fHammers_a 2 encGHammer f0.fHammers) (f0_fHammers_hn : f0.fHammers.length = f0_fHammers_an) (w1_fPins_a : Option Addr) (w1_fPins_an : Nat) (w1_fPins_c : Nat) (w1_fPins_h : Rw w w1_fPins_a 3 encGWornPin w1.fPins) (w1_fPins_hn : w1.fPins.length = w1_fPins_an) (w1_fStrokes_a : Option Addr) (w1_fStrokes_an : Nat) (w1_fStrokes_c : Nat) (w1_fStrokes_h : Rw w w1_fStrokes_a 1 encI64 w1.fStrokes) (w1_fStrokes_hn : w1.fStrokes.length = w1_fStrokes_an) (h : impl_NewHammer f0 w1 track2 = some r) :
    Calls Tryz.prog 40 #[(.agg #[(.int .i16 f0.fSteps), (.slice f0_fHammers_a f0_fHammers_an f0_fHammers_c)]), (.agg #[(.slice w1_fPins_a w1_fPins_an w1_fPins_c), (.slice w1_fStrokes_a w1_fStrokes_an w1_fStrokes_c)]), (.int .i64 track2)] w fun e w' => ∃ v, e = .returned v ∧ (∃ (o0 : Option Nat) (c0 : Nat) (s0 : List Value) (n0 : Nat), r.1.fPins.length = n0 ∧ (o0 ≠ none → n0 ≤ c0 ∧ s0.length = (c0 - n0) * 3) ∧ (o0 = none → r.1.fPins = [] ∧ c0 = 0) ∧ ∃ (o1 : Option Nat) (c1 : Nat) (s1 : List Value) (n1 : Nat), r.1.fStrokes.length = n1 ∧ (o1 ≠ none → n1 ≤ c1 ∧ s1.length = (c1 - n1) * 1) ∧ (o1 = none → r.1.fStrokes = [] ∧ c1 = 0) ∧ v = .tuple #[.agg #[.slice (o0.map fun b => ⟨b, 0, none⟩) n0 c0, .slice (o1.map fun b => ⟨b, 0, none⟩) n1 c1], (.int .i64 r.2)] ∧ Mem w [] [⟨o0, 108, row encGWornPin r.1.fPins s0⟩, ⟨o1, 2, row encI64 r.1.fStrokes s1⟩] w') := by
  subst f0_fHammers_hn w1_fPins_hn w1_fStrokes_hn
  rw [impl_NewHammer] at h
  refine enter (args := [(.agg #[(.int .i16 f0.fSteps), (.slice f0_fHammers_a f0.fHammers.length f0_fHammers_c)]), (.agg #[(.slice w1_fPins_a w1.fPins.length w1_fPins_c), (.slice w1_fStrokes_a w1.fStrokes.length w1_fStrokes_c)]), (.int .i64 track2)]) Tryz.func40 rfl Tryz.ntmps40 (by kernel_rfl) (L := []) (W := []) (Mem.start w) ?_
  refine jc_seq ?_
  refine jc_region ?_
  refine toO (by kernel_rfl) (p_a 0 [0] (by kernel_rfl) (fun b => by kernel_rfl) (fun b_1 => jkO ?_))
  refine toO (by kernel_rfl) (p_a 0 [0] (by kernel_rfl) (fun b => by kernel_rfl) (fun b_2 => jkO ?_))
  refine toO (by kernel_rfl) (p_a 0 [0] (by kernel_rfl) (fun b => by kernel_rfl) (fun b_3 => jkO ?_))
  refine jo_f [(0, 0)] (by kernel_rfl) ?_
  refine jo_end (by kernel_rfl) ?_
  refine jx_then ?_
  refine jc_seq ?_
  refine jc_seq ?_
  refine jc_region ?_
  refine jo_f [(0, 0), (1, 0), (0, 0), (0, 0)] (by kernel_rfl) ?_
  refine toO (by kernel_rfl) (p_bs 0 130 2 1 encA2I64 [(.agg (row encI64 (Arr.set (Arr.set (Arr.rep 2 0) 0 0) 1 track2).1 []).toArray)] [(Arr.set (Arr.set (Arr.rep 2 0) 0 0) 1 track2)] (by kernel_rfl) (by kernel_rfl) rfl (by kernel_rfl) (by kernel_rfl) encA2I64_len (fun b_7 => jkO ?_))
  obtain ⟨t_1, ht_8, h⟩ := bd h
  refine toO (by kernel_rfl) (p_call 0 78 #[(.agg #[(.int .i16 f0.fSteps), (.slice f0_fHammers_a f0.fHammers.length f0_fHammers_c)]), (.agg #[(.slice w1_fPins_a w1.fPins.length w1_fPins_c), (.slice w1_fStrokes_a w1.fStrokes.length w1_fStrokes_c)]), (.slice (some ⟨b_7, 0, none⟩) 1 1)] (by kernel_rfl) (by kernel_rfl) (fun w hm => impl_wornPlaceCode.calls f0 w1 [(Arr.set (Arr.set (Arr.rep 2 0) 0 0) 1 track2)] w _ f0_fHammers_a f0.fHammers.length f0_fHammers_c (hm.exRow f0_fHammers_h List.not_mem_nil) rfl w1_fPins_a w1.fPins.length w1_fPins_c (hm.exRow w1_fPins_h List.not_mem_nil) rfl w1_fStrokes_a w1.fStrokes.length w1_fStrokes_c (hm.exRow w1_fStrokes_h List.not_mem_nil) rfl (some ⟨b_7, 0, none⟩) 1 1 (hm.ownRow (hh := 3) (o := (some b_7)) (T := 130) (enc := encA2I64) (xs := [(Arr.set (Arr.set (Arr.rep 2 0) 0 0) 1 track2)]) (sp := []) (by kernel_rfl) (fun e => nomatch e) encA2I64_len) rfl ht_8) ?_)
  rintro w v w' hm ⟨rfl, hm'⟩
  refine ⟨_, hm.app hm', jkO ?_⟩
  clear hm hm'
  refine jo_f [(0, 0)] (by kernel_rfl) ?_
  refine jo_end (by kernel_rfl) ?_
  refine jx_then ?_
  refine jc_seq ?_
  refine jc_region ?_
  refine jo_f [(0, 0), (0, 0)] (by kernel_rfl) ?_
  refine jo_end (by kernel_rfl) ?_
  refine jx_then ?_
  refine jc_cond (t_1 != 0) (by kernel_rfl) (fun hc_9 => ?_) (fun hc_9 => ?_)
  · replace h := ifT hc_9 h
    refine jc_seq ?_
    refine jc_region ?_
    refine jo_f [(0, 0), (0, 0)] (by kernel_rfl) ?_
    refine toO (by kernel_rfl) (p_s 0 [2] (by kernel_rfl) (by kernel_rfl) (jkO ?_))
    refine jo_f [(0, 0)] (by kernel_rfl) ?_
    refine jo_end (by kernel_rfl) ?_
    refine jx_then ?_
    refine jc_ret ?_
    refine jx_thenr ?_
    obtain rfl := Option.some.inj h
    refine jx_ghost 108 encGWornPin ?_
    refine jx_ghost 2 encI64 ?_
    exact jx_ret [2] (.tuple #[(.agg #[(.slice none 0 0), (.slice none 0 0)]), (.int .i64 t_1)]) [(b_3, b_3), (b_3, b_3)] rfl (by kernel_rfl) (by kernel_rfl) (fun w hm => ⟨none, 0, [], 0, rfl, (fun e => absurd rfl e), (fun _ => ⟨rfl, rfl⟩), none, 0, [], 0, rfl, (fun e => absurd rfl e), (fun _ => ⟨rfl, rfl⟩), rfl, hm.pick [4, 5] (by kernel_rfl) (by kernel_rfl)⟩)
  · replace h := ifF hc_9 h
    refine jc_skip ?_
    refine jx_then ?_
    refine jc_seq ?_
    refine jc_region ?_
    refine jo_f [(1, 0)] (by kernel_rfl) ?_
    obtain ⟨t_2, ht_10, h⟩ := bd h
    refine toO (by kernel_rfl) (p_call 0 74 #[(.agg #[(.slice w1_fPins_a w1.fPins.length w1_fPins_c), (.slice w1_fStrokes_a w1.fStrokes.length w1_fStrokes_c)])] (by kernel_rfl) (by kernel_rfl) (fun w hm => impl_Wear_own.calls w1 w _ w1_fPins_a w1.fPins.length w1_fPins_c (hm.exRow w1_fPins_h List.not_mem_nil) rfl w1_fStrokes_a w1.fStrokes.length w1_fStrokes_c (hm.exRow w1_fStrokes_h List.not_mem_nil) rfl ht_10) ?_)
    rintro w v w' hm ⟨o_11, cap_12, sp_13, _, rfl, hs_14, ho_15, o_16, cap_17, sp_18, _, rfl, hs_19, ho_20, rfl, hm'⟩
    refine ⟨_, hm.app hm', jkO ?_⟩
    clear hm hm'
    refine toO (by kernel_rfl) (p_a 0 [0] (by kernel_rfl) (fun b => by kernel_rfl) (fun b_21 => jkO ?_))
    refine toO (by kernel_rfl) (p_s 0 [6] (by kernel_rfl) (by kernel_rfl) (jkO ?_))
    refine jo_end (by kernel_rfl) ?_
    refine jx_then ?_
    refine jc_seq ?_
    refine jc_region ?_
    refine jo_f [(0, 0), (6, 0), (0, 0)] (by kernel_rfl) ?_
    obtain ⟨x_3, hx_22, h⟩ := bd h
    refine toO (by kernel_rfl) (p_idx 0 (o_16.map fun b => ⟨b, 0, none⟩) t_2.fStrokes.length track2 1 (by kernel_rfl) (by kernel_rfl) (ix_some hx_22).1 (ltn hx_22 rfl) (spo ho_20 hx_22) (jkO ?_))
    refine toO (by kernel_rfl) (p_strO 0 5 o_16 2 encI64 t_2.fStrokes sp_18 track2 0 1 0 [(.int .i64 0)] (by kernel_rfl) (by kernel_rfl) (by kernel_rfl) (fun e => (ho_20 e).1) encI64_len hx_22 (by kernel_rfl) (by kernel_rfl) (jkO ?_))
    refine jo_end (by kernel_rfl) ?_
    refine jx_then ?_
    refine jc_seq ?_
    refine jc_region ?_
    refine jo_f [(6, 0)] (by kernel_rfl) ?_
    refine toO (by kernel_rfl) (p_s 0 [2] (by kernel_rfl) (by kernel_rfl) (jkO ?_))
    refine jo_f [(0, 0)] (by kernel_rfl) ?_
    refine jo_end (by kernel_rfl) ?_
    refine jx_then ?_
    refine jc_ret ?_
    obtain rfl := Option.some.inj h
    exact jx_ret [2] (.tuple #[(.agg #[(.slice (o_11.map fun b => ⟨b, 0, none⟩) t_2.fPins.length cap_12), (.slice (o_16.map fun b => ⟨b, 0, none⟩) t_2.fStrokes.length cap_17)]), (.int .i64 0)]) [(b_3, b_3), (b_3, b_3)] rfl (by kernel_rfl) (by kernel_rfl) (fun w hm => ⟨o_11, cap_12, sp_13, t_2.fPins.length, rfl, hs_14, ho_15, o_16, cap_17, sp_18, t_2.fStrokes.length, (List.length_set.trans rfl), hs_19, (set_ho ho_20), rfl, hm.pick [4, 5] (by kernel_rfl) (by kernel_rfl)⟩)

/-! ### (impl.Wear).at$1 -/
noncomputable def impl_Wear_at_1 (p0 : GWornPin) (p1 : Int) (p2 : Int) : Option (Bool) := some (((w64 p0.fStep) == p1) && ((w64 p0.fTrack) == p2))
set_option maxRecDepth 100000 in
theorem impl_Wear_at_1.calls (p0 : GWornPin) (p1 : Int) (p2 : Int) (w : World) (r : Bool) (p1_b : Nat) (p2_b : Nat) (hm0 : Mem w (bs [some p1_b, some p2_b]) [⟨some p1_b, 2, [(.int .i64 p1)]⟩, ⟨some p2_b, 2, [(.int .i64 p2)]⟩] w) (h : impl_Wear_at_1 p0 p1 p2 = some r) :
    Calls Tryz.prog 110 #[(.agg #[(.int .i8 p0.fStep), (.int .i8 p0.fTrack), (.int .i64 p0.fTurns)]), (.pointer (some ⟨p1_b, 0, none⟩)), (.pointer (some ⟨p2_b, 0, none⟩))] w fun e w' => ∃ v, e = .returned v ∧ (v = (.bool r) ∧ Mem w (bs [some p1_b, some p2_b]) [⟨some p1_b, 2, [(.int .i64 p1)]⟩, ⟨some p2_b, 2, [(.int .i64 p2)]⟩] w') := by
  rw [impl_Wear_at_1] at h
  refine enter (args := [(.agg #[(.int .i8 p0.fStep), (.int .i8 p0.fTrack), (.int .i64 p0.fTurns)]), (.pointer (some ⟨p1_b, 0, none⟩)), (.pointer (some ⟨p2_b, 0, none⟩))]) Tryz.func110 rfl Tryz.ntmps110 (by kernel_rfl) (L := [⟨some p1_b, 2, [(.int .i64 p1)]⟩, ⟨some p2_b, 2, [(.int .i64 p2)]⟩]) (W := bs [some p1_b, some p2_b]) hm0 ?_
  refine jc_seq ?_
  refine jc_region ?_
  refine toO (by kernel_rfl) (p_a 0 [0] (by kernel_rfl) (fun b => by kernel_rfl) (fun b_1 => jkO ?_))
  refine jo_f [(0, 0)] (by kernel_rfl) ?_
  refine jo_end (by kernel_rfl) ?_
  refine jx_then ?_
  refine jc_seq ?_
  refine jc_region ?_
  refine jo_f [(0, 0), (2, 0), (0, 0), (0, 0), (0, 0), (0, 0), (0, 1), (2, 1), (0, 1), (1, 1), (0, 1), (0, 0), (0, 0)] (by kernel_rfl) ?_
  refine jo_end (by kernel_rfl) ?_
  refine jx_then ?_
  refine jc_ret ?_
  obtain rfl := Option.some.inj h
  exact jx_ret [] (.bool (((w64 p0.fStep) == p1) && ((w64 p0.fTrack) == p2))) [] rfl (by kernel_rfl) (by kernel_rfl) (fun w hm => ⟨rfl, hm.pick [0, 1] (by kernel_rfl) (by kernel_rfl)⟩)

/-! ### slices.IndexFunc[[]impl.WornPin,impl.WornPin] -/
noncomputable def slices_IndexFunc_WornPin_at_impl_Wear_at_1.k_1 : Option (Int) := some (-1)
noncomputable def slices_IndexFunc_WornPin_at_impl_Wear_at_1.l_3 (s0 : List GWornPin) (g1c0 : Int) (g1c1 : Int) : Int → Option ((Int) ⊕ (Int ⊕ Unit))
  | i_2 => (if (decide (i_2 < (s0.length : Int))) = true then (ix s0 i_2).bind fun x_5 => (impl_Wear_at_1 x_5 g1c0 g1c1).bind fun t_6 => (if t_6 = true then some (.inr (.inl i_2)) else some (.inl (w64 (i_2 + 1)))) else some (.inr (.inr ())))
noncomputable def slices_IndexFunc_WornPin_at_impl_Wear_at_1 (s0 : List GWornPin) (g1c0 : Int) (g1c1 : Int) : Option (Int) := (loop (slices_IndexFunc_WornPin_at_impl_Wear_at_1.l_3 s0 g1c0 g1c1) 0).bind fun t_4 => match t_4 with | .inl p => some p | .inr p => slices_IndexFunc_WornPin_at_impl_Wear_at_1.k_1
set_option maxRecDepth 100000 in
theorem slices_IndexFunc_WornPin_at_impl_Wear_at_1.calls (s0 : List GWornPin) (g1c0 : Int) (g1c1 : Int) (w : World) (r : Int) (s0_a : Option Addr) (s0_an : Nat) (s0_c : Nat) (s0_h : Rw w s0_a 3 encGWornPin s0) (s0_hn : s0.length = s0_an) (g1c0_b : Nat) (g1c1_b : Nat) (hm0 : Mem w (bs [some g1c0_b, some g1c1_b]) [⟨some g1c0_b, 2, [(.int .i64 g1c0)]⟩, ⟨some g1c1_b, 2, [(.int .i64 g1c1)]⟩] w) (s0_ha : s0 ≠ [] → aB s0_a ∉ bs [some g1c0_b, some g1c1_b]) (h : slices_IndexFunc_WornPin_at_impl_Wear_at_1 s0 g1c0 g1c1 = some r) :
    Calls Tryz.prog 109 #[(.slice s0_a s0_an s0_c), (.func (.func 110) #[] #[(.pointer (some ⟨g1c0_b, 0, none⟩)), (.pointer (some ⟨g1c1_b, 0, none⟩))])] w fun e w' => ∃ v, e = .returned v ∧ (v = (.int .i64 r) ∧ Mem w (bs [some g1c0_b, some g1c1_b]) [⟨some g1c0_b, 2, [(.int .i64 g1c0)]⟩, ⟨some g1c1_b, 2, [(.int .i64 g1c1)]⟩] w') := by
  subst s0_hn
  rw [slices_IndexFunc_WornPin_at_impl_Wear_at_1] at h
  refine enter (args := [(.slice s0_a s0.length s0_c), (.func (.func 110) #[] #[(.pointer (some ⟨g1c0_b, 0, none⟩)), (.pointer (some ⟨g1c1_b, 0, none⟩))])]) Tryz.func109 rfl Tryz.ntmps109 (by kernel_rfl) (L := [⟨some g1c0_b, 2, [(.int .i64 g1c0)]⟩, ⟨some g1c1_b, 2, [(.int .i64 g1c1)]⟩]) (W := bs [some g1c0_b, some g1c1_b]) hm0 ?_
  refine jc_seq ?_
  refine jc_region ?_
  refine jo_f [(0, 0)] (by kernel_rfl) ?_
  refine jo_end (by kernel_rfl) ?_
  refine jx_then ?_
  refine jc_seq ?_
  refine jc_seq ?_
  refine jc_region ?_
  refine jo_f [(0, 0), (0, 0), (0, 0)] (by kernel_rfl) ?_
  refine jo_end (by kernel_rfl) ?_
  refine jx_then ?_
  refine jc_meet (fun (_ : Unit) => slices_IndexFunc_WornPin_at_impl_Wear_at_1.k_1 = some r) (fun (_ : Unit) => [(4, [], (.int .i64 0))]) (fun (_ : Unit) => [⟨some g1c0_b, 2, [(.int .i64 g1c0)]⟩, ⟨some g1c1_b, 2, [(.int .i64 g1c1)]⟩]) ?_ ?_
  · refine jc_block ?_
    obtain ⟨t_4, ht_40, hr_31⟩ := bd h
    refine jc_loop (fun (s : Int) (x : Unit) => match s, x with | i_2, _ => True) (fun (s : Int) (x : Unit) => match s, x with | i_2, _ => [(0, [], (.slice s0_a s0.length s0_c)), (1, [], (.func (.func 110) #[] #[(.pointer (some ⟨g1c0_b, 0, none⟩)), (.pointer (some ⟨g1c1_b, 0, none⟩))])), (4, [], (.int .i64 0)), (7, [], (.int .i64 (s0.length : Int))), (8, [], (.int .i64 i_2))]) (fun (s : Int) (x : Unit) => match s, x with | i_2, _ => [⟨some g1c0_b, 2, [(.int .i64 g1c0)]⟩, ⟨some g1c1_b, 2, [(.int .i64 g1c1)]⟩]) ht_40 () trivial (by kernel_rfl) [0, 1] (by kernel_rfl) (by kernel_rfl) ?_
    rintro i_2 _ y_32 _ h
    rw [slices_IndexFunc_WornPin_at_impl_Wear_at_1.l_3] at h
    refine jc_seq ?_
    refine jc_region ?_
    refine jo_f [(0, 0)] (by kernel_rfl) ?_
    refine jo_end (by kernel_rfl) ?_
    refine jx_then ?_
    refine jc_seq ?_
    refine jc_cond (decide (i_2 < (s0.length : Int))) (by kernel_rfl) (fun hc_34 => ?_) (fun hc_34 => ?_)
    · replace h := ifT hc_34 h
      refine jc_skip ?_
      refine jx_then ?_
      refine jc_seq ?_
      refine jc_block ?_
      refine jc_seq ?_
      refine jc_region ?_
      refine jo_f [(0, 0), (0, 0)] (by kernel_rfl) ?_
      refine jo_end (by kernel_rfl) ?_
      refine jx_then ?_
      refine jc_seq ?_
      refine jc_region ?_
      refine jo_f [(0, 0), (0, 0), (0, 0)] (by kernel_rfl) ?_
      obtain ⟨x_5, hx_35, h⟩ := bd h
      refine toO (by kernel_rfl) (p_idx 0 s0_a s0.length i_2 3 (by kernel_rfl) (by kernel_rfl) (ix_some hx_35).1 (ltn hx_35 rfl) (s0_h.sp hx_35) (jkO ?_))
      refine toO (by kernel_rfl) (p_ld 0 (aB s0_a) (aO s0_a + i_2.toNat * 3) true (encGWornPin x_5) (by kernel_rfl) (by kernel_rfl) (by kernel_rfl) (fun w hm => ((hm.exRowW s0_h s0_ha).at hx_35)) (jkO ?_))
      obtain ⟨t_6, ht_36, h⟩ := bd h
      refine toO (by kernel_rfl) (p_call 0 110 #[(.agg #[(.int .i8 x_5.fStep), (.int .i8 x_5.fTrack), (.int .i64 x_5.fTurns)]), (.pointer (some ⟨g1c0_b, 0, none⟩)), (.pointer (some ⟨g1c1_b, 0, none⟩))] (by kernel_rfl) (by kernel_rfl) (fun w hm => impl_Wear_at_1.calls x_5 g1c0 g1c1 w _ g1c0_b g1c1_b (hm.pass (N := [⟨some g1c0_b, 2, [(.int .i64 g1c0)]⟩, ⟨some g1c1_b, 2, [(.int .i64 g1c1)]⟩]) [0, 1] (by kernel_rfl) (by kernel_rfl)) ht_36) ?_)
      rintro w v w' hm ⟨rfl, hm'⟩
      refine ⟨_, hm.appW (ps := [(0, ⟨some g1c0_b, 2, [(.int .i64 g1c0)]⟩), (1, ⟨some g1c1_b, 2, [(.int .i64 g1c1)]⟩)]) (N := []) hm' (by kernel_rfl) (by kernel_rfl), jkO ?_⟩
      clear hm hm'
      refine jo_end (by kernel_rfl) ?_
      refine jx_then ?_
      refine jc_cond t_6 (by kernel_rfl) (fun hc_37 => ?_) (fun hc_37 => ?_)
      · replace h := ifT hc_37 h
        refine jc_seq ?_
        refine jc_region ?_
        refine jo_f [(0, 0), (0, 0)] (by kernel_rfl) ?_
        refine jo_end (by kernel_rfl) ?_
        refine jx_then ?_
        refine jc_ret ?_
        refine jx_inr ?_
        refine jx_thenr ?_
        refine jx_leaver (.inl i_2) (Option.some.inj h).symm (fun e_38 => ?_)
        subst e_38
        refine jx_inr ?_
        refine jx_thenr ?_
        refine jx_thenr ?_
        obtain rfl := Option.some.inj hr_31
        exact jx_ret [] (.int .i64 i_2) [] rfl (by kernel_rfl) (by kernel_rfl) (fun w hm => ⟨rfl, hm.pick [0, 1] (by kernel_rfl) (by kernel_rfl)⟩)
      · replace h := ifF hc_37 h
        refine jc_skip ?_
        refine jx_inn ?_
        refine jx_then ?_
        refine jc_region ?_
        refine jo_f [(0, 0), (0, 0)] (by kernel_rfl) ?_
        refine jo_end (by kernel_rfl) ?_
        exact jx_back (w64 (i_2 + 1)) () (Option.some.inj h).symm trivial [0, 1] (by kernel_rfl) (by kernel_rfl) (by kernel_rfl)
    · replace h := ifF hc_34 h
      refine jc_exit ?_
      refine jx_thenx ?_
      refine jx_leave (.inr ()) (Option.some.inj h).symm (fun e_39 => ?_)
      subst e_39
      refine jx_ine ?_
      exact jx_meet () hr_31 (by kernel_rfl) [0, 1] (by kernel_rfl) (by kernel_rfl)
  · rintro _ h
    replace h : slices_IndexFunc_WornPin_at_impl_Wear_at_1.k_1 = some r := h
    rw [slices_IndexFunc_WornPin_at_impl_Wear_at_1.k_1] at h
    refine jx_then ?_
    refine jc_seq ?_
    refine jc_region ?_
    refine jo_f [(0, 0)] (by kernel_rfl) ?_
    refine jo_end (by kernel_rfl) ?_
    refine jx_then ?_
    refine jc_ret ?_
    obtain rfl := Option.some.inj h
    exact jx_ret [] (.int .i64 (-1)) [] rfl (by kernel_rfl) (by kernel_rfl) (fun w hm => ⟨rfl, hm.pick [0, 1] (by kernel_rfl) (by kernel_rfl)⟩)

/-! ### (impl.Wear).at -/
noncomputable def impl_Wear_at (w0 : GWear) (step1 : Int) (track2 : Int) : Option (Int) := (slices_IndexFunc_WornPin_at_impl_Wear_at_1 w0.fPins step1 track2).bind fun t_1 => some t_1
set_option maxRecDepth 100000 in
theorem impl_Wear_at.calls (w0 : GWear) (step1 : Int) (track2 : Int) (w : World) (r : Int) (w0_fPins_a : Option Addr) (w0_fPins_an : Nat) (w0_fPins_c : Nat) (w0_fPins_h : Rw w w0_fPins_a 3 encGWornPin w0.fPins) (w0_fPins_hn : w0.fPins.length = w0_fPins_an) (w0_fStrokes_a : Option Addr) (w0_fStrokes_an : Nat) (w0_fStrokes_c : Nat) (w0_fStrokes_h : Rw w w0_fStrokes_a 1 encI64 w0.fStrokes) (w0_fStrokes_hn : w0.fStrokes.length = w0_fStrokes_an) (h : impl_Wear_at w0 step1 track2 = some r) :
    Calls Tryz.prog 79 #[(.agg #[(.slice w0_fPins_a w0_fPins_an w0_fPins_c), (.slice w0_fStrokes_a w0_fStrokes_an w0_fStrokes_c)]), (.int .i64 step1), (.int .i64 track2)] w fun e w' => ∃ v, e = .returned v ∧ (v = (.int .i64 r) ∧ Mem w [] [] w') := by
  subst w0_fPins_hn w0_fStrokes_hn
  rw [impl_Wear_at] at h
  refine enter (args := [(.agg #[(.slice w0_fPins_a w0.fPins.length w0_fPins_c), (.slice w0_fStrokes_a w0.fStrokes.length w0_fStrokes_c)]), (.int .i64 step1), (.int .i64 track2)]) Tryz.func79 rfl Tryz.ntmps79 (by kernel_rfl) (L := []) (W := []) (Mem.start w) ?_
  refine jc_seq ?_
  refine jc_region ?_
  refine toO (by kernel_rfl) (p_a 0 [0] (by kernel_rfl) (fun b => by kernel_rfl) (fun b_1 => jkO ?_))
  refine toO (by kernel_rfl) (p_a 0 [0] (by kernel_rfl) (fun b => by kernel_rfl) (fun b_2 => jkO ?_))
  refine toO (by kernel_rfl) (p_a 0 [0] (by kernel_rfl) (fun b => by kernel_rfl) (fun b_3 => jkO ?_))
  refine jo_f [(0, 0)] (by kernel_rfl) ?_
  refine jo_end (by kernel_rfl) ?_
  refine jx_then ?_
  refine jc_seq ?_
  refine jc_region ?_
  refine jo_f [(0, 0), (0, 0), (0, 0)] (by kernel_rfl) ?_
  obtain ⟨t_1, ht_4, h⟩ := bd h
  refine toO (by kernel_rfl) (p_call 0 109 #[(.slice w0_fPins_a w0.fPins.length w0_fPins_c), (.func (.func 110) #[] #[(.pointer (some ⟨b_2, 0, none⟩)), (.pointer (some ⟨b_3, 0, none⟩))])] (by kernel_rfl) (by kernel_rfl) (fun w hm => slices_IndexFunc_WornPin_at_impl_Wear_at_1.calls w0.fPins step1 track2 w _ w0_fPins_a w0.fPins.length w0_fPins_c (hm.exRow w0_fPins_h List.not_mem_nil) rfl b_2 b_3 (hm.pass (N := [⟨some b_2, 2, [(.int .i64 step1)]⟩, ⟨some b_3, 2, [(.int .i64 track2)]⟩]) [1, 2] (by kernel_rfl) (by kernel_rfl)) (hm.exApart (N := [⟨some b_2, 2, [(.int .i64 step1)]⟩, ⟨some b_3, 2, [(.int .i64 track2)]⟩]) w0_fPins_h (fun _ => List.not_mem_nil) [1, 2] (by kernel_rfl)) ht_4) ?_)
  rintro w v w' hm ⟨rfl, hm'⟩
  refine ⟨_, hm.appW (ps := [(1, ⟨some b_2, 2, [(.int .i64 step1)]⟩), (2, ⟨some b_3, 2, [(.int .i64 track2)]⟩)]) (N := []) hm' (by kernel_rfl) (by kernel_rfl), jkO ?_⟩
  clear hm hm'
  refine jo_f [(0, 0)] (by kernel_rfl) ?_
  refine jo_end (by kernel_rfl) ?_
  refine jx_then ?_
  refine jc_ret ?_
  obtain rfl := Option.some.inj h
  exact jx_ret [] (.int .i64 t_1) [] rfl (by kernel_rfl) (by kernel_rfl) (fun w hm => ⟨rfl, hm.pick [] (by kernel_rfl) (by kernel_rfl)⟩)

/-! ### slices.Delete[[]impl.WornPin,impl.WornPin] -/
noncomputable def slices_Delete_WornPin (s0 : List GWornPin) (i1 : Int) (j2 : Int) : Option ((List GWornPin)) := (if 0 ≤ i1 ∧ i1 ≤ j2 ∧ j2 ≤ (s0.length : Int) ∧ (s0.length : Int) ≤ (s0.length : Int) then (if (i1 == j2) = true then some s0 else (if 0 ≤ i1 ∧ i1 ≤ (s0.length : Int) then (if 0 ≤ j2 ∧ j2 ≤ (s0.length : Int) then (if i1.toNat + (s0.drop j2.toNat).length ≤ s0.length then some (s0.take i1.toNat ++ (s0.drop j2.toNat)) else none) else none) else none)) else none)
set_option maxRecDepth 100000 in
theorem slices_Delete_WornPin.calls (s0 : List GWornPin) (i1 : Int) (j2 : Int) (w : World) (r : (List GWornPin)) (s0_o : Option Nat) (s0_on : Nat) (s0_c : Nat) (s0_sp : List Value) (s0_hn : s0.length = s0_on) (s0_hs : s0_o ≠ none → s0_on ≤ s0_c ∧ s0_sp.length = (s0_c - s0_on) * 3) (s0_ho : s0_o = none → s0 = [] ∧ s0_c = 0) (hm0 : Mem w (bs [s0_o]) [⟨s0_o, 108, row encGWornPin s0 s0_sp⟩] w) (h : slices_Delete_WornPin s0 i1 j2 = some r) :
    Calls Tryz.prog 111 #[(.slice (s0_o.map fun b => ⟨b, 0, none⟩) s0_on s0_c), (.int .i64 i1), (.int .i64 j2)] w fun e w' => ∃ v, e = .returned v ∧ (∃ (o0 : Option Nat) (c0 : Nat) (s0 : List Value) (n0 : Nat), r.length = n0 ∧ (o0 ≠ none → n0 ≤ c0 ∧ s0.length = (c0 - n0) * 3) ∧ (o0 = none → r = [] ∧ c0 = 0) ∧ v = .slice (o0.map fun b => ⟨b, 0, none⟩) n0 c0 ∧ Mem w (bs [s0_o]) [⟨o0, 108, row encGWornPin r s0⟩] w') := by
  subst s0_hn
  rw [slices_Delete_WornPin] at h
  refine enter (args := [(.slice (s0_o.map fun b => ⟨b, 0, none⟩) s0.length s0_c), (.int .i64 i1), (.int .i64 j2)]) Tryz.func111 rfl Tryz.ntmps111 (by kernel_rfl) (L := [⟨s0_o, 108, row encGWornPin s0 s0_sp⟩]) (W := bs [s0_o]) hm0 ?_
  refine jc_seq ?_
  refine jc_region ?_
  refine jo_f [(0, 0)] (by kernel_rfl) ?_
  refine jo_end (by kernel_rfl) ?_
  refine jx_then ?_
  refine jc_seq ?_
  refine jc_region ?_
  refine jo_f [(0, 0), (0, 0), (0, 0), (0, 0), (0, 0)] (by kernel_rfl) ?_
  obtain ⟨hg_1, h⟩ := gd h
  refine toO (by kernel_rfl) (p_slM 0 (s0_o.map fun b => ⟨b, 0, none⟩) s0.length s0_c 3 i1 j2 (s0.length : Int) (by kernel_rfl) (by kernel_rfl) hg_1.1 hg_1.2.1 hg_1.2.2.1 (Int.le_trans hg_1.2.2.2 (Int.ofNat_le.2 (cap_le rfl s0_hs s0_ho))) (jkO ?_))
  refine jo_end (by kernel_rfl) ?_
  refine jx_then ?_
  refine jc_seq ?_
  refine jc_seq ?_
  refine jc_region ?_
  refine jo_f [(0, 0), (0, 0), (0, 0)] (by kernel_rfl) ?_
  refine jo_end (by kernel_rfl) ?_
  refine jx_then ?_
  refine jc_cond (i1 == j2) (by kernel_rfl) (fun hc_3 => ?_) (fun hc_3 => ?_)
  · replace h := ifT hc_3 h
    refine jc_seq ?_
    refine jc_region ?_
    refine jo_f [(0, 0), (0, 0)] (by kernel_rfl) ?_
    refine jo_end (by kernel_rfl) ?_
    refine jx_then ?_
    refine jc_ret ?_
    refine jx_thenr ?_
    obtain rfl := Option.some.inj h
    exact jx_ret [] (.slice (s0_o.map fun b => ⟨b, 0, none⟩) s0.length s0_c) [] rfl (by kernel_rfl) (by kernel_rfl) (fun w hm => ⟨s0_o, s0_c, s0_sp, s0.length, rfl, s0_hs, s0_ho, rfl, hm.pick [0] (by kernel_rfl) (by kernel_rfl)⟩)
  · replace h := ifF hc_3 h
    refine jc_skip ?_
    refine jx_then ?_
    refine jc_seq ?_
    refine jc_region ?_
    refine jo_f [(0, 0), (0, 0), (0, 0)] (by kernel_rfl) ?_
    refine jo_end (by kernel_rfl) ?_
    refine jx_then ?_
    refine jc_seq ?_
    refine jc_draw [] 8 (by kernel_rfl) (by kernel_rfl) ?_
    refine jd_f [⟨0, 0, 0⟩, ⟨1, 0, 0⟩, ⟨3, 0, 0⟩, ⟨4, 0, 0⟩] 4 (by kernel_rfl) (by kernel_rfl) (fun w h => h.pick [] (by kernel_rfl) (by kernel_rfl)) (by kernel_rfl) (by kernel_rfl) ?_
    obtain ⟨hg_6, h⟩ := gd h
    refine jd_v 2 0 (by kernel_rfl) (fun w h => h.pick [] (by kernel_rfl) (by kernel_rfl)) (by kernel_rfl) (by kernel_rfl) _ (fun w hm => slH_run (a := (s0_o.map fun b => ⟨b, 0, none⟩)) (len := s0.length) (cap := s0_c) (size := 3) (h := i1) (by kernel_rfl) hg_6.1 (Int.le_trans hg_6.2 (Int.ofNat_le.2 (cap_le rfl s0_hs s0_ho)))) ?_
    obtain ⟨hg_7, h⟩ := gd h
    refine jd_v 5 0 (by kernel_rfl) (fun w h => h.pick [] (by kernel_rfl) (by kernel_rfl)) (by kernel_rfl) (by kernel_rfl) _ (fun w hm => slL_run (a := (s0_o.map fun b => ⟨b, 0, none⟩)) (len := s0.length) (cap := s0_c) (size := 3) (l := j2) (by kernel_rfl) hg_7.1 (Int.le_trans hg_7.2 (Int.ofNat_le.2 (Nat.le_of_eq rfl)))) ?_
    obtain ⟨hg_8, h⟩ := gd h
    refine toD 6 (by kernel_rfl) (p_apN 0 0 s0_o 108 i1.toNat s0.length (s0.length - j2.toNat) s0_c 3 16 (pa (s0_o.map fun b => ⟨b, 0, none⟩) j2.toNat s0_c 3) encGWornPin s0 (s0.drop j2.toNat) s0_sp hg_8 rfl (tl_len rfl j2) (by kernel_rfl) (by kernel_rfl) (by kernel_rfl) encGWornPin_len encGWornPin_cell s0_hs s0_ho (fun w hm => ((hm.ownRow (hh := 0) (o := s0_o) (T := 108) (enc := encGWornPin) (xs := s0) (sp := s0_sp) (by kernel_rfl) (fun e => (s0_ho e).1) encGWornPin_len).tl j2.toNat s0_c (cap_le rfl s0_hs s0_ho))) (fun sp_11 hs_12 ho_13 => jkD (fun w h => h.pick [] (by kernel_rfl) (by kernel_rfl)) ?_))
    refine jd_f [⟨7, 0, 0⟩] 0 (by kernel_rfl) (by kernel_rfl) (fun w h => h.pick [] (by kernel_rfl) (by kernel_rfl)) (by kernel_rfl) (by kernel_rfl) ?_
    refine jd_end (by kernel_rfl) ?_
    refine jx_then ?_
    refine jc_seq ?_
    refine jc_region ?_
    refine jo_f [(0, 0), (0, 0), (0, 0), (0, 0)] (by kernel_rfl) ?_
    refine toO (by kernel_rfl) (p_slLH 0 (s0_o.map fun b => ⟨b, 0, none⟩) ((s0.take i1.toNat ++ (s0.drop j2.toNat)).length) s0_c 3 (((s0.take i1.toNat ++ (s0.drop j2.toNat)).length) : Int) (s0.length : Int) (by kernel_rfl) (by kernel_rfl) (by omega) (Int.ofNat_le.2 (Nat.le_trans (apn_le hg_8) (Nat.le_of_eq rfl))) (Int.ofNat_le.2 (show s0.length ≤ s0_c by have := (cap_le rfl s0_hs s0_ho); have : s0.length = s0.length := rfl; omega)) (jkO ?_))
    refine toO (by kernel_rfl) (p_clr 0 0 s0_o 108 ((((s0.take i1.toNat ++ (s0.drop j2.toNat)).length) : Int).toNat) ((s0.take i1.toNat ++ (s0.drop j2.toNat)).length) ((s0.length : Int).toNat - (((s0.take i1.toNat ++ (s0.drop j2.toNat)).length) : Int).toNat) s0_c 3 [(.int .i8 0), (.int .i8 0), (.int .i64 0)] encGWornPin (s0.take i1.toNat ++ (s0.drop j2.toNat)) sp_11 rfl (by omega) (by kernel_rfl) (by kernel_rfl) (by kernel_rfl) encGWornPin_len (by kernel_rfl) hs_12 ho_13 (by have := (show s0.length ≤ s0_c by have := (cap_le rfl s0_hs s0_ho); have : s0.length = s0.length := rfl; omega); have := (Nat.le_trans (apn_le hg_8) (Nat.le_of_eq rfl)); omega) (fun sp_15 hl_16 => jkO ?_))
    refine jo_end (by kernel_rfl) ?_
    refine jx_then ?_
    refine jc_seq ?_
    refine jc_region ?_
    refine jo_f [(0, 0), (0, 0)] (by kernel_rfl) ?_
    refine jo_end (by kernel_rfl) ?_
    refine jx_then ?_
    refine jc_ret ?_
    obtain rfl := Option.some.inj h
    exact jx_ret [] (.slice (s0_o.map fun b => ⟨b, 0, none⟩) ((s0.take i1.toNat ++ (s0.drop j2.toNat)).length) s0_c) [] rfl (by kernel_rfl) (by kernel_rfl) (fun w hm => ⟨s0_o, s0_c, sp_15, ((s0.take i1.toNat ++ (s0.drop j2.toNat)).length), rfl, (fun e => ⟨(hs_12 e).1, hl_16.trans (hs_12 e).2⟩), ho_13, rfl, hm.pick [0] (by kernel_rfl) (by kernel_rfl)⟩)

/-! ### (impl.Wear).without -/
noncomputable def impl_Wear_without (w0 : GWear) (i1 : Int) : Option (GWear) := (impl_Wear_own w0).bind fun t_1 => (slices_Delete_WornPin t_1.fPins i1 (w64 (i1 + 1))).bind fun t_2 => some (⟨t_2, t_1.fStrokes⟩ : GWear)
set_option maxRecDepth 100000 in
theorem impl_Wear_without.calls (w0 : GWear) (i1 : Int) (w : World) (r : GWear) (w0_fPins_a : Option Addr) (w0_fPins_an : Nat) (w0_fPins_c : Nat) (w0_fPins_h : Rw w w0_fPins_a 3 encGWornPin w0.fPins) (w0_fPins_hn : w0.fPins.length = w0_fPins_an) (w0_fStrokes_a : Option Addr) (w0_fStrokes_an : Nat) (w0_fStrokes_c : Nat) (w0_fStrokes_h : Rw w w0_fStrokes_a 1 encI64 w0.fStrokes) (w0_fStrokes_hn : w0.fStrokes.length = w0_fStrokes_an) (h : impl_Wear_without w0 i1 = some r) :
    Calls Tryz.prog 80 #[(.agg #[(.slice w0_fPins_a w0_fPins_an w0_fPins_c), (.slice w0_fStrokes_a w0_fStrokes_an w0_fStrokes_c)]), (.int .i64 i1)] w fun e w' => ∃ v, e = .returned v ∧ (∃ (o0 : Option Nat) (c0 : Nat) (s0 : List Value) (n0 : Nat), r.fPins.length = n0 ∧ (o0 ≠ none → n0 ≤ c0 ∧ s0.length = (c0 - n0) * 3) ∧ (o0 = none → r.fPins = [] ∧ c0 = 0) ∧ ∃ (o1 : Option Nat) (c1 : Nat) (s1 : List Value) (n1 : Nat), r.fStrokes.length = n1 ∧ (o1 ≠ none → n1 ≤ c1 ∧ s1.length = (c1 - n1) * 1) ∧ (o1 = none → r.fStrokes = [] ∧ c1 = 0) ∧ v = .agg #[.slice (o0.map fun b => ⟨b, 0, none⟩) n0 c0, .slice (o1.map fun b => ⟨b, 0, none⟩) n1 c1] ∧ Mem w [] [⟨o0, 108, row encGWornPin r.fPins s0⟩, ⟨o1, 2, row encI64 r.fStrokes s1⟩] w') := by
  subst w0_fPins_hn w0_fStrokes_hn
  rw [impl_Wear_without] at h
  refine enter (args := [(.agg #[(.slice w0_fPins_a w0.fPins.length w0_fPins_c), (.slice w0_fStrokes_a w0.fStrokes.length w0_fStrokes_c)]), (.int .i64 i1)]) Tryz.func80 rfl Tryz.ntmps80 (by kernel_rfl) (L := []) (W := []) (Mem.start w) ?_
  refine jc_seq ?_
  refine jc_region ?_
  refine toO (by kernel_rfl) (p_a 0 [0] (by kernel_rfl) (fun b => by kernel_rfl) (fun b_1 => jkO ?_))
  refine toO (by kernel_rfl) (p_a 0 [0] (by kernel_rfl) (fun b => by kernel_rfl) (fun b_2 => jkO ?_))
  refine jo_end (by kernel_rfl) ?_
  refine jx_then ?_
  refine jc_seq ?_
  refine jc_region ?_
  refine jo_f [(0, 0)] (by kernel_rfl) ?_
  obtain ⟨t_1, ht_3, h⟩ := bd h
  refine toO (by kernel_rfl) (p_call 0 74 #[(.agg #[(.slice w0_fPins_a w0.fPins.length w0_fPins_c), (.slice w0_fStrokes_a w0.fStrokes.length w0_fStrokes_c)])] (by kernel_rfl) (by kernel_rfl) (fun w hm => impl_Wear_own.calls w0 w _ w0_fPins_a w0.fPins.length w0_fPins_c (hm.exRow w0_fPins_h List.not_mem_nil) rfl w0_fStrokes_a w0.fStrokes.length w0_fStrokes_c (hm.exRow w0_fStrokes_h List.not_mem_nil) rfl ht_3) ?_)
  rintro w v w' hm ⟨o_4, cap_5, sp_6, _, rfl, hs_7, ho_8, o_9, cap_10, sp_11, _, rfl, hs_12, ho_13, rfl, hm'⟩
  refine ⟨_, hm.app hm', jkO ?_⟩
  clear hm hm'
  refine toO (by kernel_rfl) (p_a 0 [0] (by kernel_rfl) (fun b => by kernel_rfl) (fun b_14 => jkO ?_))
  refine toO (by kernel_rfl) (p_s 0 [4] (by kernel_rfl) (by kernel_rfl) (jkO ?_))
  refine jo_end (by kernel_rfl) ?_
  refine jx_then ?_
  refine jc_seq ?_
  refine jc_region ?_
  refine jo_f [(0, 0), (4, 0), (0, 0), (0, 0), (0, 0)] (by kernel_rfl) ?_
  obtain ⟨t_2, ht_15, h⟩ := bd h
  refine toO (by kernel_rfl) (p_call 0 111 #[(.slice (o_4.map fun b => ⟨b, 0, none⟩) t_1.fPins.length cap_5), (.int .i64 i1), (.int .i64 (w64 (i1 + 1)))] (by kernel_rfl) (by kernel_rfl) (fun w hm => slices_Delete_WornPin.calls t_1.fPins i1 (w64 (i1 + 1)) w _ o_4 t_1.fPins.length cap_5 sp_6 rfl hs_7 ho_8 (hm.pass (N := [⟨o_4, 108, row encGWornPin t_1.fPins sp_6⟩]) [2] (by kernel_rfl) (by kernel_rfl)) ht_15) ?_)
  rintro w v w' hm ⟨o_16, cap_17, sp_18, _, rfl, hs_19, ho_20, rfl, hm'⟩
  refine ⟨_, hm.appP (ps := []) (ds := [2]) (N := [⟨o_16, 108, row encGWornPin t_2 sp_18⟩]) hm' [0] (by kernel_rfl) (by kernel_rfl) (by kernel_rfl), jkO ?_⟩
  clear hm hm'
  refine jo_f [(0, 0)] (by kernel_rfl) ?_
  refine toO (by kernel_rfl) (p_s 0 [4] (by kernel_rfl) (by kernel_rfl) (jkO ?_))
  refine jo_end (by kernel_rfl) ?_
  refine jx_then ?_
  refine jc_seq ?_
  refine jc_region ?_
  refine jo_f [(4, 0)] (by kernel_rfl) ?_
  refine toO (by kernel_rfl) (p_s 0 [1] (by kernel_rfl) (by kernel_rfl) (jkO ?_))
  refine jo_end (by kernel_rfl) ?_
  refine jx_then ?_
  refine jc_ret ?_
  obtain rfl := Option.some.inj h
  exact jx_ret [1] (.agg #[(.slice (o_16.map fun b => ⟨b, 0, none⟩) t_2.length cap_17), (.slice (o_9.map fun b => ⟨b, 0, none⟩) t_1.fStrokes.length cap_10)]) [(b_2, b_2), (b_2, b_2)] rfl (by kernel_rfl) (by kernel_rfl) (fun w hm => ⟨o_16, cap_17, sp_18, t_2.length, rfl, hs_19, ho_20, o_9, cap_10, sp_11, t_1.fStrokes.length, rfl, hs_12, ho_13, rfl, hm.pick [5, 3] (by kernel_rfl) (by kernel_rfl)⟩)

def lay_slices_SortFunc_WornPin_at_impl_comparePins_ren : Go.Shelf.Ren := ⟨fun | 6 => 112 | 15 => 135 | 14 => 134 | 28 => 158 | 29 => 159 | 20 => 150 | 21 => 151 | 22 => 152 | 23 => 153 | 24 => 154 | 25 => 155 | 26 => 156 | 27 => 157 | 46 => 178 | 47 => 179 | 48 => 180 | 49 => 181 | 50 => 182 | 57 => 190 | n => n, fun | 22 => 35 | 24 => 108 | 25 => 156 | 3 => 3 | 39 => 169 | 0 => 0 | 53 => 87 | 55 => 210 | 4 => 4 | 46 => 202 | 45 => 201 | 50 => 206 | 5 => 5 | 9 => 9 | 66 => 221 | 70 => 225 | 76 => 232 | 77 => 233 | n => n, fun | n => n⟩
theorem lay_slices_SortFunc_WornPin_at_impl_comparePins : Go.Proofs.SlLaysF0.n6 Tryz.prog lay_slices_SortFunc_WornPin_at_impl_comparePins_ren where
  mixed := by kernel_rfl
  f6 := ⟨ "slices.SortFunc[[]loop.example/g01311/impl.WornPin,loop.example/g01311/impl.WornPin]", by decide, Tryz.func112.trans (congrArg some (by kernel_rfl))⟩
  f14 := ⟨ "slices.pdqsortCmpFunc[loop.example/g01311/impl.WornPin]", by decide, Tryz.func134.trans (congrArg some (by kernel_rfl))⟩
  f15 := Tryz.func135.trans (congrArg some (by kernel_rfl))
  f20 := ⟨ "slices.insertionSortCmpFunc[loop.example/g01311/impl.WornPin]", by decide, Tryz.func150.trans (congrArg some (by kernel_rfl))⟩
  f21 := ⟨ "slices.heapSortCmpFunc[loop.example/g01311/impl.WornPin]", by decide, Tryz.func151.trans (congrArg some (by kernel_rfl))⟩
  f22 := ⟨ "slices.breakPatternsCmpFunc[loop.example/g01311/impl.WornPin]", by decide, Tryz.func152.trans (congrArg some (by kernel_rfl))⟩
  f23 := ⟨ "slices.choosePivotCmpFunc[loop.example/g01311/impl.WornPin]", by decide, Tryz.func153.trans (congrArg some (by kernel_rfl))⟩
  f24 := ⟨ "slices.reverseRangeCmpFunc[loop.example/g01311/impl.WornPin]", by decide, Tryz.func154.trans (congrArg some (by kernel_rfl))⟩
  f25 := ⟨ "slices.partialInsertionSortCmpFunc[loop.example/g01311/impl.WornPin]", by decide, Tryz.func155.trans (congrArg some (by kernel_rfl))⟩
  f26 := ⟨ "slices.partitionEqualCmpFunc[loop.example/g01311/impl.WornPin]", by decide, Tryz.func156.trans (congrArg some (by kernel_rfl))⟩
  f27 := ⟨ "slices.partitionCmpFunc[loop.example/g01311/impl.WornPin]", by decide, Tryz.func157.trans (congrArg some (by kernel_rfl))⟩
  f28 := Tryz.func158.trans (congrArg some (by kernel_rfl))
  f29 := Tryz.func159.trans (congrArg some (by kernel_rfl))
  f46 := ⟨ "slices.siftDownCmpFunc[loop.example/g01311/impl.WornPin]", by decide, Tryz.func178.trans (congrArg some (by kernel_rfl))⟩
  f47 := Tryz.func179.trans (congrArg some (by kernel_rfl))
  f48 := Tryz.func180.trans (congrArg some (by kernel_rfl))
  f49 := ⟨ "slices.medianAdjacentCmpFunc[loop.example/g01311/impl.WornPin]", by decide, Tryz.func181.trans (congrArg some (by kernel_rfl))⟩
  f50 := ⟨ "slices.medianCmpFunc[loop.example/g01311/impl.WornPin]", by decide, Tryz.func182.trans (congrArg some (by kernel_rfl))⟩
  f57 := ⟨ "slices.order2CmpFunc[loop.example/g01311/impl.WornPin]", by decide, Tryz.func190.trans (congrArg some (by kernel_rfl))⟩
  t0 := Tryz.underlying0
  a0 := Tryz.isAgg0
  z0 := Tryz.sizeOf0
  v0 := Tryz.zeroValue0
  t3 := Tryz.underlying3
  a3 := Tryz.isAgg3
  z3 := Tryz.sizeOf3
  v3 := Tryz.zeroValue3
  t4 := Tryz.underlying4
  a4 := Tryz.isAgg4
  z4 := Tryz.sizeOf4
  v4 := Tryz.zeroValue4
  t5 := Tryz.underlying5
  a5 := Tryz.isAgg5
  z5 := Tryz.sizeOf5
  v5 := Tryz.zeroValue5
  t9 := Tryz.underlying9
  a9 := Tryz.isAgg9
  z9 := Tryz.sizeOf9
  v9 := Tryz.zeroValue9
  t22 := Tryz.underlying35
  a22 := Tryz.isAgg35
  z22 := Tryz.sizeOf35
  v22 := Tryz.zeroValue35
  t25 := Tryz.underlying156
  a25 := Tryz.isAgg156
  z25 := Tryz.sizeOf156
  v25 := Tryz.zeroValue156
  t39 := Tryz.underlying169
  a39 := Tryz.isAgg169
  z39 := Tryz.sizeOf169
  v39 := Tryz.zeroValue169
  t45 := Tryz.underlying201
  a45 := Tryz.isAgg201
  z45 := Tryz.sizeOf201
  v45 := Tryz.zeroValue201
  t46 := Tryz.underlying202
  a46 := Tryz.isAgg202
  z46 := Tryz.sizeOf202
  v46 := Tryz.zeroValue202
  t50 := Tryz.underlying206
  a50 := Tryz.isAgg206
  z50 := Tryz.sizeOf206
  v50 := Tryz.zeroValue206
  t53 := Tryz.underlying87
  a53 := Tryz.isAgg87
  z53 := Tryz.sizeOf87
  v53 := Tryz.zeroValue87
  t55 := Tryz.underlying210
  a55 := Tryz.isAgg210
  z55 := Tryz.sizeOf210
  v55 := Tryz.zeroValue210
  t66 := Tryz.underlying221
  a66 := Tryz.isAgg221
  z66 := Tryz.sizeOf221
  v66 := Tryz.zeroValue221
  t70 := Tryz.underlying225
  a70 := Tryz.isAgg225
  z70 := Tryz.sizeOf225
  v70 := Tryz.zeroValue225
  t76 := Tryz.underlying232
  a76 := Tryz.isAgg232
  z76 := Tryz.sizeOf232
  v76 := Tryz.zeroValue232
  t77 := Tryz.underlying233
  a77 := Tryz.isAgg233
  z77 := Tryz.sizeOf233
  v77 := Tryz.zeroValue233
/-! ### slices.SortFunc[[]impl.WornPin,impl.WornPin] -/
noncomputable def slices_SortFunc_WornPin_at_impl_comparePins (x0 : List GWornPin) : Option ((List GWornPin)) := sortF (fun a b => impl_comparePins a b) x0
set_option maxRecDepth 100000 in
theorem slices_SortFunc_WornPin_at_impl_comparePins.calls (x0 : List GWornPin) (w : World) (r : (List GWornPin)) (x0_o : Option Nat) (x0_on : Nat) (x0_c : Nat) (x0_sp : List Value) (x0_hn : x0.length = x0_on) (x0_hs : x0_o ≠ none → x0_on ≤ x0_c ∧ x0_sp.length = (x0_c - x0_on) * 3) (x0_ho : x0_o = none → x0 = [] ∧ x0_c = 0) (hm0 : Mem w (bs [x0_o]) [⟨x0_o, 108, row encGWornPin x0 x0_sp⟩] w) (h : slices_SortFunc_WornPin_at_impl_comparePins x0 = some r) :
    Calls Tryz.prog 112 #[(.slice (x0_o.map fun b => ⟨b, 0, none⟩) x0_on x0_c), (.func (.func 106) #[] #[])] w fun e w' => ∃ v, e = .returned v ∧ (r.length = x0_on ∧ (x0_o = none → r = [] ∧ x0_c = 0) ∧ v = .tuple #[] ∧ Mem w (bs [x0_o]) [⟨x0_o, 108, row encGWornPin r x0_sp⟩] w') := by
  exact sort_calls lay_slices_SortFunc_WornPin_at_impl_comparePins 3 Tryz.isAgg108 Tryz.sizeOf108 encGWornPin encGWornPin_len (fun x v hv => by simp [encGWornPin] at hv; rcases hv with rfl | rfl | rfl <;> rfl) (fun a b => impl_comparePins a b) 106 (enters_of Tryz.func106 (by kernel_rfl) rfl) (fun x y r w hxy => impl_comparePins.calls x y w r hxy) 108 x0 w r x0_o x0_on x0_c x0_sp x0_hn x0_hs x0_ho hm0 (by rw [slices_SortFunc_WornPin_at_impl_comparePins] at h; exact h)

/-! ### (impl.Wear).with -/
noncomputable def impl_Wear_with (w0 : GWear) (p1 : GWornPin) : Option (GWear) := (impl_Wear_own w0).bind fun t_1 => (if t_1.fPins.length + [p1].length ≤ 4294967296 then (slices_SortFunc_WornPin_at_impl_comparePins (t_1.fPins ++ [p1])).bind fun t_2 => some (⟨t_2, t_1.fStrokes⟩ : GWear) else none)
set_option maxRecDepth 100000 in
theorem impl_Wear_with.calls (w0 : GWear) (p1 : GWornPin) (w : World) (r : GWear) (w0_fPins_a : Option Addr) (w0_fPins_an : Nat) (w0_fPins_c : Nat) (w0_fPins_h : Rw w w0_fPins_a 3 encGWornPin w0.fPins) (w0_fPins_hn : w0.fPins.length = w0_fPins_an) (w0_fStrokes_a : Option Addr) (w0_fStrokes_an : Nat) (w0_fStrokes_c : Nat) (w0_fStrokes_h : Rw w w0_fStrokes_a 1 encI64 w0.fStrokes) (w0_fStrokes_hn : w0.fStrokes.length = w0_fStrokes_an) (h : impl_Wear_with w0 p1 = some r) :
    Calls Tryz.prog 81 #[(.agg #[(.slice w0_fPins_a w0_fPins_an w0_fPins_c), (.slice w0_fStrokes_a w0_fStrokes_an w0_fStrokes_c)]), (.agg #[(.int .i8 p1.fStep), (.int .i8 p1.fTrack), (.int .i64 p1.fTurns)])] w fun e w' => ∃ v, e = .returned v ∧ (∃ (o0 : Option Nat) (c0 : Nat) (s0 : List Value) (n0 : Nat), r.fPins.length = n0 ∧ (o0 ≠ none → n0 ≤ c0 ∧ s0.length = (c0 - n0) * 3) ∧ (o0 = none → r.fPins = [] ∧ c0 = 0) ∧ ∃ (o1 : Option Nat) (c1 : Nat) (s1 : List Value) (n1 : Nat), r.fStrokes.length = n1 ∧ (o1 ≠ none → n1 ≤ c1 ∧ s1.length = (c1 - n1) * 1) ∧ (o1 = none → r.fStrokes = [] ∧ c1 = 0) ∧ v = .agg #[.slice (o0.map fun b => ⟨b, 0, none⟩) n0 c0, .slice (o1.map fun b => ⟨b, 0, none⟩) n1 c1] ∧ Mem w [] [⟨o0, 108, row encGWornPin r.fPins s0⟩, ⟨o1, 2, row encI64 r.fStrokes s1⟩] w') := by
  subst w0_fPins_hn w0_fStrokes_hn
  rw [impl_Wear_with] at h
  refine enter (args := [(.agg #[(.slice w0_fPins_a w0.fPins.length w0_fPins_c), (.slice w0_fStrokes_a w0.fStrokes.length w0_fStrokes_c)]), (.agg #[(.int .i8 p1.fStep), (.int .i8 p1.fTrack), (.int .i64 p1.fTurns)])]) Tryz.func81 rfl Tryz.ntmps81 (by kernel_rfl) (L := []) (W := []) (Mem.start w) ?_
  refine jc_seq ?_
  refine jc_region ?_
  refine toO (by kernel_rfl) (p_a 0 [0] (by kernel_rfl) (fun b => by kernel_rfl) (fun b_1 => jkO ?_))
  refine toO (by kernel_rfl) (p_a 0 [0] (by kernel_rfl) (fun b => by kernel_rfl) (fun b_2 => jkO ?_))
  refine toO (by kernel_rfl) (p_a 0 [0] (by kernel_rfl) (fun b => by kernel_rfl) (fun b_3 => jkO ?_))
  refine jo_end (by kernel_rfl) ?_
  refine jx_then ?_
  refine jc_seq ?_
  refine jc_region ?_
  refine jo_f [(0, 0)] (by kernel_rfl) ?_
  obtain ⟨t_1, ht_4, h⟩ := bd h
  refine toO (by kernel_rfl) (p_call 0 74 #[(.agg #[(.slice w0_fPins_a w0.fPins.length w0_fPins_c), (.slice w0_fStrokes_a w0.fStrokes.length w0_fStrokes_c)])] (by kernel_rfl) (by kernel_rfl) (fun w hm => impl_Wear_own.calls w0 w _ w0_fPins_a w0.fPins.length w0_fPins_c (hm.exRow w0_fPins_h List.not_mem_nil) rfl w0_fStrokes_a w0.fStrokes.length w0_fStrokes_c (hm.exRow w0_fStrokes_h List.not_mem_nil) rfl ht_4) ?_)
  rintro w v w' hm ⟨o_5, cap_6, sp_7, _, rfl, hs_8, ho_9, o_10, cap_11, sp_12, _, rfl, hs_13, ho_14, rfl, hm'⟩
  refine ⟨_, hm.app hm', jkO ?_⟩
  clear hm hm'
  refine toO (by kernel_rfl) (p_a 0 [0] (by kernel_rfl) (fun b => by kernel_rfl) (fun b_15 => jkO ?_))
  refine toO (by kernel_rfl) (p_s 0 [5] (by kernel_rfl) (by kernel_rfl) (jkO ?_))
  refine jo_end (by kernel_rfl) ?_
  refine jx_then ?_
  refine jc_seq ?_
  refine jc_region ?_
  refine jo_f [(0, 0), (5, 0), (1, 0)] (by kernel_rfl) ?_
  refine toO (by kernel_rfl) (p_a 0 [0] (by kernel_rfl) (fun b => by kernel_rfl) (fun b_16 => jkO ?_))
  obtain ⟨hg_17, h⟩ := gd h
  refine toO (by kernel_rfl) (p_apn 0 3 o_5 108 t_1.fPins.length 1 cap_6 3 16 (some ⟨b_16, 0, none⟩) encGWornPin t_1.fPins [p1] sp_7 (.agg #[(.int .i8 0), (.int .i8 0), (.int .i64 0)]) rfl rfl (by kernel_rfl) (by kernel_rfl) (by kernel_rfl) encGWornPin_len encGWornPin_cell hs_8 ho_9 (fun w hm => (hm.ownRow (hh := 6) (o := (some b_16)) (T := 108) (enc := encGWornPin) (xs := [p1]) (sp := []) (by kernel_rfl) (fun e => nomatch e) encGWornPin_len)) hg_17 (by kernel_rfl) (by kernel_rfl) (fun o_18 cap_19 sp_20 hs_21 ho_22 => jkO ?_))
  refine jo_f [(0, 0)] (by kernel_rfl) ?_
  refine toO (by kernel_rfl) (p_s 0 [5] (by kernel_rfl) (by kernel_rfl) (jkO ?_))
  refine jo_end (by kernel_rfl) ?_
  refine jx_then ?_
  refine jc_seq ?_
  refine jc_region ?_
  refine jo_f [(0, 0), (5, 0)] (by kernel_rfl) ?_
  obtain ⟨t_2, ht_23, h⟩ := bd h
  refine toO (by kernel_rfl) (p_call 0 112 #[(.slice (o_18.map fun b => ⟨b, 0, none⟩) ((t_1.fPins ++ [p1]).length) cap_19), (.func (.func 106) #[] #[])] (by kernel_rfl) (by kernel_rfl) (fun w hm => slices_SortFunc_WornPin_at_impl_comparePins.calls (t_1.fPins ++ [p1]) w _ o_18 ((t_1.fPins ++ [p1]).length) cap_19 sp_20 rfl hs_21 ho_22 (hm.pass (N := [⟨o_18, 108, row encGWornPin (t_1.fPins ++ [p1]) sp_20⟩]) [3] (by kernel_rfl) (by kernel_rfl)) ht_23) ?_)
  rintro w v w' hm ⟨hn_24, ho_25, rfl, hm'⟩
  refine ⟨_, hm.appW (ps := [(3, ⟨o_18, 108, row encGWornPin t_2 sp_20⟩)]) (N := []) hm' (by kernel_rfl) (by kernel_rfl), jkO ?_⟩
  clear hm hm'
  refine jo_end (by kernel_rfl) ?_
  refine jx_then ?_
  refine jc_seq ?_
  refine jc_region ?_
  refine jo_f [(5, 0)] (by kernel_rfl) ?_
  refine toO (by kernel_rfl) (p_s 0 [2] (by kernel_rfl) (by kernel_rfl) (jkO ?_))
  refine jo_end (by kernel_rfl) ?_
  refine jx_then ?_
  refine jc_ret ?_
  obtain rfl := Option.some.inj h
  exact jx_ret [2] (.agg #[(.slice (o_18.map fun b => ⟨b, 0, none⟩) ((t_1.fPins ++ [p1]).length) cap_19), (.slice (o_10.map fun b => ⟨b, 0, none⟩) t_1.fStrokes.length cap_11)]) [(b_3, b_3), (b_3, b_3)] rfl (by kernel_rfl) (by kernel_rfl) (fun w hm => ⟨o_18, cap_19, sp_20, ((t_1.fPins ++ [p1]).length), hn_24, hs_21, ho_25, o_10, cap_11, sp_12, t_1.fStrokes.length, rfl, hs_13, ho_14, rfl, hm.pick [3, 4] (by kernel_rfl) (by kernel_rfl)⟩)

/-! ### impl.NewPin -/
noncomputable def impl_NewPin (f0 : GFrame) (w1 : GWear) (step2 : Int) (track3 : Int) : Option (GWear × Int) := (impl_wornPlaceCode f0 w1 [(Arr.set (Arr.set (Arr.rep 2 0) 0 step2) 1 track3)]).bind fun t_1 => (if (t_1 != 0) = true then some ((⟨[], []⟩ : GWear), t_1) else (impl_Wear_at w1 step2 track3).bind fun t_2 => (if (decide (t_2 ≥ 0)) = true then (impl_Wear_without w1 t_2).bind fun t_3 => (impl_Wear_with t_3 (⟨(w8 step2), (w8 track3), 0⟩ : GWornPin)).bind fun t_4 => some (t_4, 0) else (impl_Wear_with w1 (⟨(w8 step2), (w8 track3), 0⟩ : GWornPin)).bind fun t_5 => some (t_5, 0)))
set_option maxRecDepth 100000 in
theorem impl_NewPin.calls (f0 : GFrame) (w1 : GWear) (step2 : Int) (track3 : Int) (w : World) (r : GWear × Int) (f0_fHammers_a : Option Addr) (f0_fHammers_an : Nat) (f0_fHammers_c : Nat) (f0_fHammers_h : Rw w f0_fHammers_a 2 encGHammer f0.fHammers) (f0_fHammers_hn : f0.fHammers.length = f0_fHammers_an) (w1_fPins_a : Option Addr) (w1_fPins_an : Nat) (w1_fPins_c : Nat) (w1_fPins_h : Rw w w1_fPins_a 3 encGWornPin w1.fPins) (w1_fPins_hn : w1.fPins.length = w1_fPins_an) (w1_fStrokes_a : Option Addr) (w1_fStrokes_an : Nat) (w1_fStrokes_c : Nat) (w1_fStrokes_h : Rw w w1_fStrokes_a 1 encI64 w1.fStrokes) (w1_fStrokes_hn : w1.fStrokes.length = w1_fStrokes_an) (h : impl_NewPin f0 w1 step2 track3 = some r) :
    Calls Tryz.prog 41 #[(.agg #[(.int .i16 f0.fSteps), (.slice f0_fHammers_a f0_fHammers_an f0_fHammers_c)]), (.agg #[(.slice w1_fPins_a w1_fPins_an w1_fPins_c), (.slice w1_fStrokes_a w1_fStrokes_an w1_fStrokes_c)]), (.int .i64 step2), (.int .i64 track3)] w fun e w' => ∃ v, e = .returned v ∧ (∃ (o0 : Option Nat) (c0 : Nat) (s0 : List Value) (n0 : Nat), r.1.fPins.length = n0 ∧ (o0 ≠ none → n0 ≤ c0 ∧ s0.length = (c0 - n0) * 3) ∧ (o0 = none → r.1.fPins = [] ∧ c0 = 0) ∧ ∃ (o1 : Option Nat) (c1 : Nat) (s1 : List Value) (n1 : Nat), r.1.fStrokes.length = n1 ∧ (o1 ≠ none → n1 ≤ c1 ∧ s1.length = (c1 - n1) * 1) ∧ (o1 = none → r.1.fStrokes = [] ∧ c1 = 0) ∧ v = .tuple #[.agg #[.slice (o0.map fun b => ⟨b, 0, none⟩) n0 c0, .slice (o1.map fun b => ⟨b, 0, none⟩) n1 c1], (.int .i64 r.2)] ∧ Mem w [] [⟨o0, 108, row encGWornPin r.1.fPins s0⟩, ⟨o1, 2, row encI64 r.1.fStrokes s1⟩] w') := by
  subst f0_fHammers_hn w1_fPins_hn w1_fStrokes_hn
  rw [impl_NewPin] at h
  refine enter (args := [(.agg #[(.int .i16 f0.fSteps), (.slice f0_fHammers_a f0.fHammers.length f0_fHammers_c)]), (.agg #[(.slice w1_fPins_a w1.fPins.length w1_fPins_c), (.slice w1_fStrokes_a w1.fStrokes.length w1_fStrokes_c)]), (.int .i64 step2), (.int .i64 track3)]) Tryz.func41 rfl Tryz.ntmps41 (by kernel_rfl) (L := []) (W := []) (Mem.start w) ?_
  refine jc_seq ?_
  refine jc_region ?_
  refine toO (by kernel_rfl) (p_a 0 [0] (by kernel_rfl) (fun b => by kernel_rfl) (fun b_1 => jkO ?_))
  refine toO (by kernel_rfl) (p_a 0 [0] (by kernel_rfl) (fun b => by kernel_rfl) (fun b_2 => jkO ?_))
  refine toO (by kernel_rfl) (p_a 0 [0] (by kernel_rfl) (fun b => by kernel_rfl) (fun b_3 => jkO ?_))
  refine jo_f [(0, 0)] (by kernel_rfl) ?_
  refine jo_end (by kernel_rfl) ?_
  refine jx_then ?_
  refine jc_seq ?_
  refine jc_seq ?_
  refine jc_region ?_
  refine jo_f [(0, 0), (1, 0), (0, 0), (0, 0), (0, 0)] (by kernel_rfl) ?_
  refine toO (by kernel_rfl) (p_bs 0 130 2 1 encA2I64 [(.agg (row encI64 (Arr.set (Arr.set (Arr.rep 2 0) 0 step2) 1 track3).1 []).toArray)] [(Arr.set (Arr.set (Arr.rep 2 0) 0 step2) 1 track3)] (by kernel_rfl) (by kernel_rfl) rfl (by kernel_rfl) (by kernel_rfl) encA2I64_len (fun b_7 => jkO ?_))
  obtain ⟨t_1, ht_8, h⟩ := bd h
  refine toO (by kernel_rfl) (p_call 0 78 #[(.agg #[(.int .i16 f0.fSteps), (.slice f0_fHammers_a f0.fHammers.length f0_fHammers_c)]), (.agg #[(.slice w1_fPins_a w1.fPins.length w1_fPins_c), (.slice w1_fStrokes_a w1.fStrokes.length w1_fStrokes_c)]), (.slice (some ⟨b_7, 0, none⟩) 1 1)] (by kernel_rfl) (by kernel_rfl) (fun w hm => impl_wornPlaceCode.calls f0 w1 [(Arr.set (Arr.set (Arr.rep 2 0) 0 step2) 1 track3)] w _ f0_fHammers_a f0.fHammers.length f0_fHammers_c (hm.exRow f0_fHammers_h List.not_mem_nil) rfl w1_fPins_a w1.fPins.length w1_fPins_c (hm.exRow w1_fPins_h List.not_mem_nil) rfl w1_fStrokes_a w1.fStrokes.length w1_fStrokes_c (hm.exRow w1_fStrokes_h List.not_mem_nil) rfl (some ⟨b_7, 0, none⟩) 1 1 (hm.ownRow (hh := 3) (o := (some b_7)) (T := 130) (enc := encA2I64) (xs := [(Arr.set (Arr.set (Arr.rep 2 0) 0 step2) 1 track3)]) (sp := []) (by kernel_rfl) (fun e => nomatch e) encA2I64_len) rfl ht_8) ?_)
  rintro w v w' hm ⟨rfl, hm'⟩
  refine ⟨_, hm.app hm', jkO ?_⟩
  clear hm hm'
  refine jo_f [(0, 0)] (by kernel_rfl) ?_
  refine jo_end (by kernel_rfl) ?_
  refine jx_then ?_
  refine jc_seq ?_
  refine jc_region ?_
  refine jo_f [(0, 0), (0, 0)] (by kernel_rfl) ?_
  refine jo_end (by kernel_rfl) ?_
  refine jx_then ?_
  refine jc_cond (t_1 != 0) (by kernel_rfl) (fun hc_9 => ?_) (fun hc_9 => ?_)
  · replace h := ifT hc_9 h
    refine jc_seq ?_
    refine jc_region ?_
    refine jo_f [(0, 0), (0, 0)] (by kernel_rfl) ?_
    refine toO (by kernel_rfl) (p_s 0 [2] (by kernel_rfl) (by kernel_rfl) (jkO ?_))
    refine jo_f [(0, 0)] (by kernel_rfl) ?_
    refine jo_end (by kernel_rfl) ?_
    refine jx_then ?_
    refine jc_ret ?_
    refine jx_thenr ?_
    obtain rfl := Option.some.inj h
    refine jx_ghost 108 encGWornPin ?_
    refine jx_ghost 2 encI64 ?_
    exact jx_ret [2] (.tuple #[(.agg #[(.slice none 0 0), (.slice none 0 0)]), (.int .i64 t_1)]) [(b_3, b_3), (b_3, b_3)] rfl (by kernel_rfl) (by kernel_rfl) (fun w hm => ⟨none, 0, [], 0, rfl, (fun e => absurd rfl e), (fun _ => ⟨rfl, rfl⟩), none, 0, [], 0, rfl, (fun e => absurd rfl e), (fun _ => ⟨rfl, rfl⟩), rfl, hm.pick [4, 5] (by kernel_rfl) (by kernel_rfl)⟩)
  · replace h := ifF hc_9 h
    refine jc_skip ?_
    refine jx_then ?_
    refine jc_seq ?_
    refine jc_seq ?_
    refine jc_region ?_
    refine jo_f [(1, 0), (0, 0), (0, 0)] (by kernel_rfl) ?_
    obtain ⟨t_2, ht_23, h⟩ := bd h
    refine toO (by kernel_rfl) (p_call 0 79 #[(.agg #[(.slice w1_fPins_a w1.fPins.length w1_fPins_c), (.slice w1_fStrokes_a w1.fStrokes.length w1_fStrokes_c)]), (.int .i64 step2), (.int .i64 track3)] (by kernel_rfl) (by kernel_rfl) (fun w hm => impl_Wear_at.calls w1 step2 track3 w _ w1_fPins_a w1.fPins.length w1_fPins_c (hm.exRow w1_fPins_h List.not_mem_nil) rfl w1_fStrokes_a w1.fStrokes.length w1_fStrokes_c (hm.exRow w1_fStrokes_h List.not_mem_nil) rfl ht_23) ?_)
    rintro w v w' hm ⟨rfl, hm'⟩
    refine ⟨_, hm.app hm', jkO ?_⟩
    clear hm hm'
    refine jo_f [(0, 0)] (by kernel_rfl) ?_
    refine jo_end (by kernel_rfl) ?_
    refine jx_then ?_
    refine jc_seq ?_
    refine jc_region ?_
    refine jo_f [(0, 0), (0, 0)] (by kernel_rfl) ?_
    refine jo_end (by kernel_rfl) ?_
    refine jx_then ?_
    refine jc_cond (decide (t_2 ≥ 0)) (by kernel_rfl) (fun hc_24 => ?_) (fun hc_24 => ?_)
    · replace h := ifT hc_24 h
      refine jc_region ?_
      refine jo_f [(1, 0), (0, 0)] (by kernel_rfl) ?_
      obtain ⟨t_3, ht_25, h⟩ := bd h
      refine toO (by kernel_rfl) (p_call 0 80 #[(.agg #[(.slice w1_fPins_a w1.fPins.length w1_fPins_c), (.slice w1_fStrokes_a w1.fStrokes.length w1_fStrokes_c)]), (.int .i64 t_2)] (by kernel_rfl) (by kernel_rfl) (fun w hm => impl_Wear_without.calls w1 t_2 w _ w1_fPins_a w1.fPins.length w1_fPins_c (hm.exRow w1_fPins_h List.not_mem_nil) rfl w1_fStrokes_a w1.fStrokes.length w1_fStrokes_c (hm.exRow w1_fStrokes_h List.not_mem_nil) rfl ht_25) ?_)
      rintro w v w' hm ⟨o_26, cap_27, sp_28, _, rfl, hs_29, ho_30, o_31, cap_32, sp_33, _, rfl, hs_34, ho_35, rfl, hm'⟩
      refine ⟨_, hm.app hm', jkO ?_⟩
      clear hm hm'
      refine toO (by kernel_rfl) (p_s 0 [1] (by kernel_rfl) (by kernel_rfl) (jkO ?_))
      refine jo_end (by kernel_rfl) ?_
      refine jx_then ?_
      refine jc_seq ?_
      refine jc_region ?_
      refine jo_f [(1, 0), (0, 0), (0, 0), (0, 0), (0, 0), (0, 0)] (by kernel_rfl) ?_
      obtain ⟨t_4, ht_36, h⟩ := bd h
      refine toO (by kernel_rfl) (p_call 0 81 #[(.agg #[(.slice (o_26.map fun b => ⟨b, 0, none⟩) t_3.fPins.length cap_27), (.slice (o_31.map fun b => ⟨b, 0, none⟩) t_3.fStrokes.length cap_32)]), (.agg #[(.int .i8 (w8 step2)), (.int .i8 (w8 track3)), (.int .i64 0)])] (by kernel_rfl) (by kernel_rfl) (fun w hm => impl_Wear_with.calls t_3 (⟨(w8 step2), (w8 track3), 0⟩ : GWornPin) w _ (o_26.map fun b => ⟨b, 0, none⟩) t_3.fPins.length cap_27 (hm.ownRow (hh := 4) (o := o_26) (T := 108) (enc := encGWornPin) (xs := t_3.fPins) (sp := sp_28) (by kernel_rfl) (fun e => (ho_30 e).1) encGWornPin_len) rfl (o_31.map fun b => ⟨b, 0, none⟩) t_3.fStrokes.length cap_32 (hm.ownRow (hh := 5) (o := o_31) (T := 2) (enc := encI64) (xs := t_3.fStrokes) (sp := sp_33) (by kernel_rfl) (fun e => (ho_35 e).1) encI64_len) rfl ht_36) ?_)
      rintro w v w' hm ⟨o_37, cap_38, sp_39, _, rfl, hs_40, ho_41, o_42, cap_43, sp_44, _, rfl, hs_45, ho_46, rfl, hm'⟩
      refine ⟨_, hm.app hm', jkO ?_⟩
      clear hm hm'
      refine toO (by kernel_rfl) (p_s 0 [2] (by kernel_rfl) (by kernel_rfl) (jkO ?_))
      refine jo_f [(0, 0)] (by kernel_rfl) ?_
      refine jo_end (by kernel_rfl) ?_
      refine jx_then ?_
      refine jc_ret ?_
      obtain rfl := Option.some.inj h
      exact jx_ret [2] (.tuple #[(.agg #[(.slice (o_37.map fun b => ⟨b, 0, none⟩) t_4.fPins.length cap_38), (.slice (o_42.map fun b => ⟨b, 0, none⟩) t_4.fStrokes.length cap_43)]), (.int .i64 0)]) [(b_3, b_3), (b_3, b_3)] rfl (by kernel_rfl) (by kernel_rfl) (fun w hm => ⟨o_37, cap_38, sp_39, t_4.fPins.length, rfl, hs_40, ho_41, o_42, cap_43, sp_44, t_4.fStrokes.length, rfl, hs_45, ho_46, rfl, hm.pick [6, 7] (by kernel_rfl) (by kernel_rfl)⟩)
    · replace h := ifF hc_24 h
      refine jc_skip ?_
      refine jx_then ?_
      refine jc_seq ?_
      refine jc_region ?_
      refine jo_f [(1, 0), (0, 0), (0, 0), (0, 0), (0, 0), (0, 0)] (by kernel_rfl) ?_
      obtain ⟨t_5, ht_47, h⟩ := bd h
      refine toO (by kernel_rfl) (p_call 0 81 #[(.agg #[(.slice w1_fPins_a w1.fPins.length w1_fPins_c), (.slice w1_fStrokes_a w1.fStrokes.length w1_fStrokes_c)]), (.agg #[(.int .i8 (w8 step2)), (.int .i8 (w8 track3)), (.int .i64 0)])] (by kernel_rfl) (by kernel_rfl) (fun w hm => impl_Wear_with.calls w1 (⟨(w8 step2), (w8 track3), 0⟩ : GWornPin) w _ w1_fPins_a w1.fPins.length w1_fPins_c (hm.exRow w1_fPins_h List.not_mem_nil) rfl w1_fStrokes_a w1.fStrokes.length w1_fStrokes_c (hm.exRow w1_fStrokes_h List.not_mem_nil) rfl ht_47) ?_)
      rintro w v w' hm ⟨o_48, cap_49, sp_50, _, rfl, hs_51, ho_52, o_53, cap_54, sp_55, _, rfl, hs_56, ho_57, rfl, hm'⟩
      refine ⟨_, hm.app hm', jkO ?_⟩
      clear hm hm'
      refine toO (by kernel_rfl) (p_s 0 [2] (by kernel_rfl) (by kernel_rfl) (jkO ?_))
      refine jo_f [(0, 0)] (by kernel_rfl) ?_
      refine jo_end (by kernel_rfl) ?_
      refine jx_then ?_
      refine jc_ret ?_
      obtain rfl := Option.some.inj h
      exact jx_ret [2] (.tuple #[(.agg #[(.slice (o_48.map fun b => ⟨b, 0, none⟩) t_5.fPins.length cap_49), (.slice (o_53.map fun b => ⟨b, 0, none⟩) t_5.fStrokes.length cap_54)]), (.int .i64 0)]) [(b_3, b_3), (b_3, b_3)] rfl (by kernel_rfl) (by kernel_rfl) (fun w hm => ⟨o_48, cap_49, sp_50, t_5.fPins.length, rfl, hs_51, ho_52, o_53, cap_54, sp_55, t_5.fStrokes.length, rfl, hs_56, ho_57, rfl, hm.pick [4, 5] (by kernel_rfl) (by kernel_rfl)⟩)

/-! ### impl.MovePin -/
noncomputable def impl_MovePin.k_4 (w1 : GWear) (toStep4 : Int) (toTrack5 : Int) (t_2 : Int) (q_3 : Bool) : Option (GWear × Int) := (if q_3 = true then some ((⟨[], []⟩ : GWear), 4) else (ix w1.fPins t_2).bind fun x_5 => (impl_Wear_without w1 t_2).bind fun t_6 => (impl_Wear_with t_6 (⟨(w8 toStep4), (w8 toTrack5), x_5.fTurns⟩ : GWornPin)).bind fun t_7 => some (t_7, 0))
noncomputable def impl_MovePin (f0 : GFrame) (w1 : GWear) (step2 : Int) (track3 : Int) (toStep4 : Int) (toTrack5 : Int) : Option (GWear × Int) := (impl_wornPlaceCode f0 w1 [(Arr.set (Arr.set (Arr.rep 2 0) 0 step2) 1 track3), (Arr.set (Arr.set (Arr.rep 2 0) 0 toStep4) 1 toTrack5)]).bind fun t_1 => (if (t_1 != 0) = true then some ((⟨[], []⟩ : GWear), t_1) else (impl_Wear_at w1 step2 track3).bind fun t_2 => (if (decide (t_2 < 0)) = true then impl_MovePin.k_4 w1 toStep4 toTrack5 t_2 true else (impl_Wear_at w1 toStep4 toTrack5).bind fun t_8 => impl_MovePin.k_4 w1 toStep4 toTrack5 t_2 (decide (t_8 ≥ 0))))
set_option maxRecDepth 100000 in
theorem impl_MovePin.calls (f0 : GFrame) (w1 : GWear) (step2 : Int) (track3 : Int) (toStep4 : Int) (toTrack5 : Int) (w : World) (r : GWear × Int) (f0_fHammers_a : Option Addr) (f0_fHammers_an : Nat) (f0_fHammers_c : Nat) (f0_fHammers_h : Rw w f0_fHammers_a 2 encGHammer f0.fHammers) (f0_fHammers_hn : f0.fHammers.length = f0_fHammers_an) (w1_fPins_a : Option Addr) (w1_fPins_an : Nat) (w1_fPins_c : Nat) (w1_fPins_h : Rw w w1_fPins_a 3 encGWornPin w1.fPins) (w1_fPins_hn : w1.fPins.length = w1_fPins_an) (w1_fStrokes_a : Option Addr) (w1_fStrokes_an : Nat) (w1_fStrokes_c : Nat) (w1_fStrokes_h : Rw w w1_fStrokes_a 1 encI64 w1.fStrokes) (w1_fStrokes_hn : w1.fStrokes.length = w1_fStrokes_an) (h : impl_MovePin f0 w1 step2 track3 toStep4 toTrack5 = some r) :
    Calls Tryz.prog 42 #[(.agg #[(.int .i16 f0.fSteps), (.slice f0_fHammers_a f0_fHammers_an f0_fHammers_c)]), (.agg #[(.slice w1_fPins_a w1_fPins_an w1_fPins_c), (.slice w1_fStrokes_a w1_fStrokes_an w1_fStrokes_c)]), (.int .i64 step2), (.int .i64 track3), (.int .i64 toStep4), (.int .i64 toTrack5)] w fun e w' => ∃ v, e = .returned v ∧ (∃ (o0 : Option Nat) (c0 : Nat) (s0 : List Value) (n0 : Nat), r.1.fPins.length = n0 ∧ (o0 ≠ none → n0 ≤ c0 ∧ s0.length = (c0 - n0) * 3) ∧ (o0 = none → r.1.fPins = [] ∧ c0 = 0) ∧ ∃ (o1 : Option Nat) (c1 : Nat) (s1 : List Value) (n1 : Nat), r.1.fStrokes.length = n1 ∧ (o1 ≠ none → n1 ≤ c1 ∧ s1.length = (c1 - n1) * 1) ∧ (o1 = none → r.1.fStrokes = [] ∧ c1 = 0) ∧ v = .tuple #[.agg #[.slice (o0.map fun b => ⟨b, 0, none⟩) n0 c0, .slice (o1.map fun b => ⟨b, 0, none⟩) n1 c1], (.int .i64 r.2)] ∧ Mem w [] [⟨o0, 108, row encGWornPin r.1.fPins s0⟩, ⟨o1, 2, row encI64 r.1.fStrokes s1⟩] w') := by
  subst f0_fHammers_hn w1_fPins_hn w1_fStrokes_hn
  rw [impl_MovePin] at h
  refine enter (args := [(.agg #[(.int .i16 f0.fSteps), (.slice f0_fHammers_a f0.fHammers.length f0_fHammers_c)]), (.agg #[(.slice w1_fPins_a w1.fPins.length w1_fPins_c), (.slice w1_fStrokes_a w1.fStrokes.length w1_fStrokes_c)]), (.int .i64 step2), (.int .i64 track3), (.int .i64 toStep4), (.int .i64 toTrack5)]) Tryz.func42 rfl Tryz.ntmps42 (by kernel_rfl) (L := []) (W := []) (Mem.start w) ?_
  refine jc_seq ?_
  refine jc_region ?_
  refine toO (by kernel_rfl) (p_a 0 [0] (by kernel_rfl) (fun b => by kernel_rfl) (fun b_1 => jkO ?_))
  refine toO (by kernel_rfl) (p_a 0 [0] (by kernel_rfl) (fun b => by kernel_rfl) (fun b_2 => jkO ?_))
  refine toO (by kernel_rfl) (p_a 0 [0] (by kernel_rfl) (fun b => by kernel_rfl) (fun b_3 => jkO ?_))
  refine jo_f [(0, 0)] (by kernel_rfl) ?_
  refine jo_end (by kernel_rfl) ?_
  refine jx_then ?_
  refine jc_seq ?_
  refine jc_seq ?_
  refine jc_region ?_
  refine jo_f [(0, 0), (1, 0), (0, 0), (0, 0), (0, 0), (0, 0), (0, 0), (0, 0)] (by kernel_rfl) ?_
  refine toO (by kernel_rfl) (p_bs 0 130 2 2 encA2I64 [(.agg (row encI64 (Arr.set (Arr.set (Arr.rep 2 0) 0 step2) 1 track3).1 []).toArray), (.agg (row encI64 (Arr.set (Arr.set (Arr.rep 2 0) 0 toStep4) 1 toTrack5).1 []).toArray)] [(Arr.set (Arr.set (Arr.rep 2 0) 0 step2) 1 track3), (Arr.set (Arr.set (Arr.rep 2 0) 0 toStep4) 1 toTrack5)] (by kernel_rfl) (by kernel_rfl) rfl (by kernel_rfl) (by kernel_rfl) encA2I64_len (fun b_7 => jkO ?_))
  obtain ⟨t_1, ht_8, h⟩ := bd h
  refine toO (by kernel_rfl) (p_call 0 78 #[(.agg #[(.int .i16 f0.fSteps), (.slice f0_fHammers_a f0.fHammers.length f0_fHammers_c)]), (.agg #[(.slice w1_fPins_a w1.fPins.length w1_fPins_c), (.slice w1_fStrokes_a w1.fStrokes.length w1_fStrokes_c)]), (.slice (some ⟨b_7, 0, none⟩) 2 2)] (by kernel_rfl) (by kernel_rfl) (fun w hm => impl_wornPlaceCode.calls f0 w1 [(Arr.set (Arr.set (Arr.rep 2 0) 0 step2) 1 track3), (Arr.set (Arr.set (Arr.rep 2 0) 0 toStep4) 1 toTrack5)] w _ f0_fHammers_a f0.fHammers.length f0_fHammers_c (hm.exRow f0_fHammers_h List.not_mem_nil) rfl w1_fPins_a w1.fPins.length w1_fPins_c (hm.exRow w1_fPins_h List.not_mem_nil) rfl w1_fStrokes_a w1.fStrokes.length w1_fStrokes_c (hm.exRow w1_fStrokes_h List.not_mem_nil) rfl (some ⟨b_7, 0, none⟩) 2 2 (hm.ownRow (hh := 3) (o := (some b_7)) (T := 130) (enc := encA2I64) (xs := [(Arr.set (Arr.set (Arr.rep 2 0) 0 step2) 1 track3), (Arr.set (Arr.set (Arr.rep 2 0) 0 toStep4) 1 toTrack5)]) (sp := []) (by kernel_rfl) (fun e => nomatch e) encA2I64_len) rfl ht_8) ?_)
  rintro w v w' hm ⟨rfl, hm'⟩
  refine ⟨_, hm.app hm', jkO ?_⟩
  clear hm hm'
  refine jo_f [(0, 0)] (by kernel_rfl) ?_
  refine jo_end (by kernel_rfl) ?_
  refine jx_then ?_
  refine jc_seq ?_
  refine jc_region ?_
  refine jo_f [(0, 0), (0, 0)] (by kernel_rfl) ?_
  refine jo_end (by kernel_rfl) ?_
  refine jx_then ?_
  refine jc_cond (t_1 != 0) (by kernel_rfl) (fun hc_9 => ?_) (fun hc_9 => ?_)
  · replace h := ifT hc_9 h
    refine jc_seq ?_
    refine jc_region ?_
    refine jo_f [(0, 0), (0, 0)] (by kernel_rfl) ?_
    refine toO (by kernel_rfl) (p_s 0 [2] (by kernel_rfl) (by kernel_rfl) (jkO ?_))
    refine jo_f [(0, 0)] (by kernel_rfl) ?_
    refine jo_end (by kernel_rfl) ?_
    refine jx_then ?_
    refine jc_ret ?_
    refine jx_thenr ?_
    obtain rfl := Option.some.inj h
    refine jx_ghost 108 encGWornPin ?_
    refine jx_ghost 2 encI64 ?_
    exact jx_ret [2] (.tuple #[(.agg #[(.slice none 0 0), (.slice none 0 0)]), (.int .i64 t_1)]) [(b_3, b_3), (b_3, b_3)] rfl (by kernel_rfl) (by kernel_rfl) (fun w hm => ⟨none, 0, [], 0, rfl, (fun e => absurd rfl e), (fun _ => ⟨rfl, rfl⟩), none, 0, [], 0, rfl, (fun e => absurd rfl e), (fun _ => ⟨rfl, rfl⟩), rfl, hm.pick [4, 5] (by kernel_rfl) (by kernel_rfl)⟩)
  · replace h := ifF hc_9 h
    refine jc_skip ?_
    refine jx_then ?_
    refine jc_seq ?_
    refine jc_region ?_
    refine jo_f [(1, 0), (0, 0), (0, 0)] (by kernel_rfl) ?_
    obtain ⟨t_2, ht_10, h⟩ := bd h
    refine toO (by kernel_rfl) (p_call 0 79 #[(.agg #[(.slice w1_fPins_a w1.fPins.length w1_fPins_c), (.slice w1_fStrokes_a w1.fStrokes.length w1_fStrokes_c)]), (.int .i64 step2), (.int .i64 track3)] (by kernel_rfl) (by kernel_rfl) (fun w hm => impl_Wear_at.calls w1 step2 track3 w _ w1_fPins_a w1.fPins.length w1_fPins_c (hm.exRow w1_fPins_h List.not_mem_nil) rfl w1_fStrokes_a w1.fStrokes.length w1_fStrokes_c (hm.exRow w1_fStrokes_h List.not_mem_nil) rfl ht_10) ?_)
    rintro w v w' hm ⟨rfl, hm'⟩
    refine ⟨_, hm.app hm', jkO ?_⟩
    clear hm hm'
    refine jo_f [(0, 0)] (by kernel_rfl) ?_
    refine jo_end (by kernel_rfl) ?_
    refine jx_then ?_
    refine jc_seq ?_
    refine jc_seq ?_
    refine jc_meet (fun (j : Bool) => match j with | q_3 => impl_MovePin.k_4 w1 toStep4 toTrack5 t_2 q_3 = some r) (fun (j : Bool) => match j with | q_3 => [(4, [], (.int .i64 toStep4)), (5, [], (.int .i64 toTrack5)), (7, [], (.pointer (some ⟨b_2, 0, none⟩))), (12, [], (.pointer (some ⟨b_3, 0, none⟩))), (13, [], (.int .i64 0)), (15, [], (.int .i64 t_2)), (42, [], (.bool q_3))]) (fun (j : Bool) => match j with | q_3 => [⟨some b_1, 42, [(.int .i16 f0.fSteps), (.slice f0_fHammers_a f0.fHammers.length f0_fHammers_c)]⟩, ⟨some b_2, 37, [(.slice w1_fPins_a w1.fPins.length w1_fPins_c), (.slice w1_fStrokes_a w1.fStrokes.length w1_fStrokes_c)]⟩, ⟨some b_3, 37, [(.slice none 0 0), (.slice none 0 0)]⟩, ⟨(some b_7), 130, row encA2I64 [(Arr.set (Arr.set (Arr.rep 2 0) 0 step2) 1 track3), (Arr.set (Arr.set (Arr.rep 2 0) 0 toStep4) 1 toTrack5)] []⟩]) ?_ ?_
    · refine jc_region ?_
      refine jo_f [(0, 0), (0, 0), (0, 0), (1, 1), (0, 1), (0, 1)] (by kernel_rfl) ?_
      refine jo_split 36 (decide (t_2 < 0)) (by kernel_rfl) (fun hc_65 => ?_) (fun hc_65 => ?_)
      · replace h := ifT hc_65 h
        refine jo_f [(0, 3), (0, 3), (0, 4)] (by kernel_rfl) ?_
        refine jo_end (by kernel_rfl) ?_
        exact jx_meet true h (by kernel_rfl) [0, 1, 2, 3] (by kernel_rfl) (by kernel_rfl)
      · replace h := ifF hc_65 h
        obtain ⟨t_8, ht_66, h⟩ := bd h
        refine toO (by kernel_rfl) (p_call 2 79 #[(.agg #[(.slice w1_fPins_a w1.fPins.length w1_fPins_c), (.slice w1_fStrokes_a w1.fStrokes.length w1_fStrokes_c)]), (.int .i64 toStep4), (.int .i64 toTrack5)] (by kernel_rfl) (by kernel_rfl) (fun w hm => impl_Wear_at.calls w1 toStep4 toTrack5 w _ w1_fPins_a w1.fPins.length w1_fPins_c (hm.exRow w1_fPins_h List.not_mem_nil) rfl w1_fStrokes_a w1.fStrokes.length w1_fStrokes_c (hm.exRow w1_fStrokes_h List.not_mem_nil) rfl ht_66) ?_)
        rintro w v w' hm ⟨rfl, hm'⟩
        refine ⟨_, hm.app hm', jkO ?_⟩
        clear hm hm'
        refine jo_f [(0, 2), (0, 5)] (by kernel_rfl) ?_
        refine jo_end (by kernel_rfl) ?_
        exact jx_meet (decide (t_8 ≥ 0)) h (by kernel_rfl) [0, 1, 2, 3] (by kernel_rfl) (by kernel_rfl)
    · rintro q_3 h
      replace h : impl_MovePin.k_4 w1 toStep4 toTrack5 t_2 q_3 = some r := h
      rw [impl_MovePin.k_4] at h
      refine jx_then ?_
      refine jc_cond q_3 (by kernel_rfl) (fun hc_18 => ?_) (fun hc_18 => ?_)
      · replace h := ifT hc_18 h
        refine jc_seq ?_
        refine jc_region ?_
        refine jo_f [(0, 0)] (by kernel_rfl) ?_
        refine toO (by kernel_rfl) (p_s 0 [2] (by kernel_rfl) (by kernel_rfl) (jkO ?_))
        refine jo_f [(0, 0)] (by kernel_rfl) ?_
        refine jo_end (by kernel_rfl) ?_
        refine jx_then ?_
        refine jc_ret ?_
        refine jx_thenr ?_
        obtain rfl := Option.some.inj h
        refine jx_ghost 108 encGWornPin ?_
        refine jx_ghost 2 encI64 ?_
        exact jx_ret [2] (.tuple #[(.agg #[(.slice none 0 0), (.slice none 0 0)]), (.int .i64 4)]) [(b_3, b_3), (b_3, b_3)] rfl (by kernel_rfl) (by kernel_rfl) (fun w hm => ⟨none, 0, [], 0, rfl, (fun e => absurd rfl e), (fun _ => ⟨rfl, rfl⟩), none, 0, [], 0, rfl, (fun e => absurd rfl e), (fun _ => ⟨rfl, rfl⟩), rfl, hm.pick [4, 5] (by kernel_rfl) (by kernel_rfl)⟩)
      · replace h := ifF hc_18 h
        refine jc_skip ?_
        refine jx_then ?_
        refine jc_seq ?_
        refine jc_draw [⟨some b_1, 42, [(.int .i16 f0.fSteps), (.slice f0_fHammers_a f0.fHammers.length f0_fHammers_c)]⟩, ⟨some b_2, 37, [(.slice w1_fPins_a w1.fPins.length w1_fPins_c), (.slice w1_fStrokes_a w1.fStrokes.length w1_fStrokes_c)]⟩, ⟨(some b_7), 130, row encA2I64 [(Arr.set (Arr.set (Arr.rep 2 0) 0 step2) 1 track3), (Arr.set (Arr.set (Arr.rep 2 0) 0 toStep4) 1 toTrack5)] []⟩] 17 (by kernel_rfl) (by kernel_rfl) ?_
        refine jd_f [⟨0, 1, 0⟩, ⟨1, 0, 0⟩, ⟨3, 0, 0⟩, ⟨4, 0, 0⟩, ⟨5, 0, 0⟩, ⟨6, 0, 0⟩, ⟨7, 0, 0⟩, ⟨8, 1, 0⟩, ⟨9, 0, 0⟩] 8 (by kernel_rfl) (by kernel_rfl) (fun w h => h.pick [0, 1, 3] (by kernel_rfl) (by kernel_rfl)) (by kernel_rfl) (by kernel_rfl) ?_
        obtain ⟨x_5, hx_42, h⟩ := bd h
        refine jd_v 10 0 (by kernel_rfl) (fun w h => h.pick [0, 1, 3] (by kernel_rfl) (by kernel_rfl)) (by kernel_rfl) (by kernel_rfl) _ (fun w hm => idx_run (a := w1_fPins_a) (len := w1.fPins.length) (s := 3) (j := t_2) (by kernel_rfl) (ix_some hx_42).1 (ltn hx_42 rfl) (w1_fPins_h.sp hx_42)) ?_
        refine jd_f [⟨11, 0, 0⟩] 6 (by kernel_rfl) (by kernel_rfl) (fun w h => h.pick [0, 1, 3] (by kernel_rfl) (by kernel_rfl)) (by kernel_rfl) (by kernel_rfl) ?_
        refine jd_v 12 0 (by kernel_rfl) (fun w h => h.pick [0, 1, 3] (by kernel_rfl) (by kernel_rfl)) (by kernel_rfl) (by kernel_rfl) _ (fun w hm => ld_run (b := aB w1_fPins_a) (off := (aO w1_fPins_a + t_2.toNat * 3 + 2)) (s := 1) (agg := false) (vs := (((encGWornPin x_5).drop 2).take 1)) (by kernel_rfl) (by kernel_rfl) (.inr rfl) (((hm.exRow w1_fPins_h List.not_mem_nil).at hx_42).sub 2 1)) ?_
        refine jd_f [⟨13, 0, 0⟩] 4 (by kernel_rfl) (by kernel_rfl) (fun w h => h.pick [0, 1, 3] (by kernel_rfl) (by kernel_rfl)) (by kernel_rfl) (by kernel_rfl) ?_
        obtain ⟨t_6, ht_43, h⟩ := bd h
        refine toD 2 (by kernel_rfl) (p_call 0 80 #[(.agg #[(.slice w1_fPins_a w1.fPins.length w1_fPins_c), (.slice w1_fStrokes_a w1.fStrokes.length w1_fStrokes_c)]), (.int .i64 t_2)] (by kernel_rfl) (by kernel_rfl) (fun w hm => impl_Wear_without.calls w1 t_2 w _ w1_fPins_a w1.fPins.length w1_fPins_c (hm.exRow w1_fPins_h List.not_mem_nil) rfl w1_fStrokes_a w1.fStrokes.length w1_fStrokes_c (hm.exRow w1_fStrokes_h List.not_mem_nil) rfl ht_43) ?_)
        rintro w v w' hm ⟨o_44, cap_45, sp_46, _, rfl, hs_47, ho_48, o_49, cap_50, sp_51, _, rfl, hs_52, ho_53, rfl, hm'⟩
        refine ⟨_, hm.app hm', jkD (fun w h => h.pick [0, 1, 3] (by kernel_rfl) (by kernel_rfl)) ?_⟩
        clear hm hm'
        obtain ⟨t_7, ht_54, h⟩ := bd h
        refine toD 14 (by kernel_rfl) (p_call 0 81 #[(.agg #[(.slice (o_44.map fun b => ⟨b, 0, none⟩) t_6.fPins.length cap_45), (.slice (o_49.map fun b => ⟨b, 0, none⟩) t_6.fStrokes.length cap_50)]), (.agg #[(.int .i8 (w8 toStep4)), (.int .i8 (w8 toTrack5)), (.int .i64 x_5.fTurns)])] (by kernel_rfl) (by kernel_rfl) (fun w hm => impl_Wear_with.calls t_6 (⟨(w8 toStep4), (w8 toTrack5), x_5.fTurns⟩ : GWornPin) w _ (o_44.map fun b => ⟨b, 0, none⟩) t_6.fPins.length cap_45 (hm.ownRow (hh := 4) (o := o_44) (T := 108) (enc := encGWornPin) (xs := t_6.fPins) (sp := sp_46) (by kernel_rfl) (fun e => (ho_48 e).1) encGWornPin_len) rfl (o_49.map fun b => ⟨b, 0, none⟩) t_6.fStrokes.length cap_50 (hm.ownRow (hh := 5) (o := o_49) (T := 2) (enc := encI64) (xs := t_6.fStrokes) (sp := sp_51) (by kernel_rfl) (fun e => (ho_53 e).1) encI64_len) rfl ht_54) ?_)
        rintro w v w' hm ⟨o_55, cap_56, sp_57, _, rfl, hs_58, ho_59, o_60, cap_61, sp_62, _, rfl, hs_63, ho_64, rfl, hm'⟩
        refine ⟨_, hm.app hm', jkD (fun w h => h.pick [0, 1, 3] (by kernel_rfl) (by kernel_rfl)) ?_⟩
        clear hm hm'
        refine toD 15 (by kernel_rfl) (p_s 0 [2] (by kernel_rfl) (by kernel_rfl) (jkD (fun w h => h.pick [0, 1, 3] (by kernel_rfl) (by kernel_rfl)) ?_))
        refine jd_f [⟨16, 0, 0⟩] 0 (by kernel_rfl) (by kernel_rfl) (fun w h => h.pick [0, 1, 3] (by kernel_rfl) (by kernel_rfl)) (by kernel_rfl) (by kernel_rfl) ?_
        refine jd_end (by kernel_rfl) ?_
        refine jx_then ?_
        refine jc_ret ?_
        obtain rfl := Option.some.inj h
        exact jx_ret [2] (.tuple #[(.agg #[(.slice (o_55.map fun b => ⟨b, 0, none⟩) t_7.fPins.length cap_56), (.slice (o_60.map fun b => ⟨b, 0, none⟩) t_7.fStrokes.length cap_61)]), (.int .i64 0)]) [(b_3, b_3), (b_3, b_3)] rfl (by kernel_rfl) (by kernel_rfl) (fun w hm => ⟨o_55, cap_56, sp_57, t_7.fPins.length, rfl, hs_58, ho_59, o_60, cap_61, sp_62, t_7.fStrokes.length, rfl, hs_63, ho_64, rfl, hm.pick [6, 7] (by kernel_rfl) (by kernel_rfl)⟩)

/-! ### impl.DoWearAct -/
noncomputable def impl_DoWearAct (f0 : GFrame) (w1 : GWear) (a2 : GAct) : Option (GWear × Int) := (if (a2.fKind == 0) = true then (impl_TurnWear f0 w1 a2.fA).bind fun t_1 => some (t_1.1, t_1.2) else (if (a2.fKind == 1) = true then (impl_NewHammer f0 w1 a2.fA).bind fun t_2 => some (t_2.1, t_2.2) else (if (a2.fKind == 2) = true then (impl_NewPin f0 w1 a2.fA a2.fB).bind fun t_3 => some (t_3.1, t_3.2) else (if (a2.fKind == 3) = true then (impl_MovePin f0 w1 a2.fA a2.fB a2.fC a2.fD).bind fun t_4 => some (t_4.1, t_4.2) else (impl_wearCode f0 w1 []).bind fun t_5 => (impl_firstOf [t_5, 2]).bind fun t_6 => some ((⟨[], []⟩ : GWear), t_6)))))
set_option maxRecDepth 100000 in
theorem impl_DoWearAct.calls (f0 : GFrame) (w1 : GWear) (a2 : GAct) (w : World) (r : GWear × Int) (f0_fHammers_a : Option Addr) (f0_fHammers_an : Nat) (f0_fHammers_c : Nat) (f0_fHammers_h : Rw w f0_fHammers_a 2 encGHammer f0.fHammers) (f0_fHammers_hn : f0.fHammers.length = f0_fHammers_an) (w1_fPins_a : Option Addr) (w1_fPins_an : Nat) (w1_fPins_c : Nat) (w1_fPins_h : Rw w w1_fPins_a 3 encGWornPin w1.fPins) (w1_fPins_hn : w1.fPins.length = w1_fPins_an) (w1_fStrokes_a : Option Addr) (w1_fStrokes_an : Nat) (w1_fStrokes_c : Nat) (w1_fStrokes_h : Rw w w1_fStrokes_a 1 encI64 w1.fStrokes) (w1_fStrokes_hn : w1.fStrokes.length = w1_fStrokes_an) (h : impl_DoWearAct f0 w1 a2 = some r) :
    Calls Tryz.prog 11 #[(.agg #[(.int .i16 f0.fSteps), (.slice f0_fHammers_a f0_fHammers_an f0_fHammers_c)]), (.agg #[(.slice w1_fPins_a w1_fPins_an w1_fPins_c), (.slice w1_fStrokes_a w1_fStrokes_an w1_fStrokes_c)]), (.agg #[(.int .i8 a2.fKind), (.int .i64 a2.fA), (.int .i64 a2.fB), (.int .i64 a2.fC), (.int .i64 a2.fD)])] w fun e w' => ∃ v, e = .returned v ∧ (∃ (o0 : Option Nat) (c0 : Nat) (s0 : List Value) (n0 : Nat), r.1.fPins.length = n0 ∧ (o0 ≠ none → n0 ≤ c0 ∧ s0.length = (c0 - n0) * 3) ∧ (o0 = none → r.1.fPins = [] ∧ c0 = 0) ∧ ∃ (o1 : Option Nat) (c1 : Nat) (s1 : List Value) (n1 : Nat), r.1.fStrokes.length = n1 ∧ (o1 ≠ none → n1 ≤ c1 ∧ s1.length = (c1 - n1) * 1) ∧ (o1 = none → r.1.fStrokes = [] ∧ c1 = 0) ∧ v = .tuple #[.agg #[.slice (o0.map fun b => ⟨b, 0, none⟩) n0 c0, .slice (o1.map fun b => ⟨b, 0, none⟩) n1 c1], (.int .i64 r.2)] ∧ Mem w [] [⟨o0, 108, row encGWornPin r.1.fPins s0⟩, ⟨o1, 2, row encI64 r.1.fStrokes s1⟩] w') := by
  subst f0_fHammers_hn w1_fPins_hn w1_fStrokes_hn
  rw [impl_DoWearAct] at h
  refine enter (args := [(.agg #[(.int .i16 f0.fSteps), (.slice f0_fHammers_a f0.fHammers.length f0_fHammers_c)]), (.agg #[(.slice w1_fPins_a w1.fPins.length w1_fPins_c), (.slice w1_fStrokes_a w1.fStrokes.length w1_fStrokes_c)]), (.agg #[(.int .i8 a2.fKind), (.int .i64 a2.fA), (.int .i64 a2.fB), (.int .i64 a2.fC), (.int .i64 a2.fD)])]) Tryz.func11 rfl Tryz.ntmps11 (by kernel_rfl) (L := []) (W := []) (Mem.start w) ?_
  refine jc_seq ?_
  refine jc_region ?_
  refine toO (by kernel_rfl) (p_a 0 [0] (by kernel_rfl) (fun b => by kernel_rfl) (fun b_1 => jkO ?_))
  refine toO (by kernel_rfl) (p_a 0 [0] (by kernel_rfl) (fun b => by kernel_rfl) (fun b_2 => jkO ?_))
  refine toO (by kernel_rfl) (p_a 0 [0] (by kernel_rfl) (fun b => by kernel_rfl) (fun b_3 => jkO ?_))
  refine toO (by kernel_rfl) (p_a 0 [0] (by kernel_rfl) (fun b => by kernel_rfl) (fun b_4 => jkO ?_))
  refine jo_f [(0, 0)] (by kernel_rfl) ?_
  refine jo_end (by kernel_rfl) ?_
  refine jx_then ?_
  refine jc_seq ?_
  refine jc_seq ?_
  refine jc_region ?_
  refine jo_f [(0, 0), (2, 0)] (by kernel_rfl) ?_
  refine jo_end (by kernel_rfl) ?_
  refine jx_then ?_
  refine jc_block ?_
  refine jc_seq ?_
  refine jc_region ?_
  refine jo_f [(0, 0), (0, 0)] (by kernel_rfl) ?_
  refine jo_end (by kernel_rfl) ?_
  refine jx_then ?_
  refine jc_cond (a2.fKind == 0) (by kernel_rfl) (fun hc_149 => ?_) (fun hc_149 => ?_)
  · replace h := ifT hc_149 h
    refine jc_seq ?_
    refine jc_region ?_
    refine jo_f [(0, 0), (1, 0), (0, 0), (2, 0)] (by kernel_rfl) ?_
    obtain ⟨t_1, ht_150, h⟩ := bd h
    refine toO (by kernel_rfl) (p_call 0 39 #[(.agg #[(.int .i16 f0.fSteps), (.slice f0_fHammers_a f0.fHammers.length f0_fHammers_c)]), (.agg #[(.slice w1_fPins_a w1.fPins.length w1_fPins_c), (.slice w1_fStrokes_a w1.fStrokes.length w1_fStrokes_c)]), (.int .i64 a2.fA)] (by kernel_rfl) (by kernel_rfl) (fun w hm => impl_TurnWear.calls f0 w1 a2.fA w _ f0_fHammers_a f0.fHammers.length f0_fHammers_c (hm.exRow f0_fHammers_h List.not_mem_nil) rfl w1_fPins_a w1.fPins.length w1_fPins_c (hm.exRow w1_fPins_h List.not_mem_nil) rfl w1_fStrokes_a w1.fStrokes.length w1_fStrokes_c (hm.exRow w1_fStrokes_h List.not_mem_nil) rfl ht_150) ?_)
    rintro w v w' hm ⟨o_151, cap_152, sp_153, _, rfl, hs_154, ho_155, o_156, cap_157, sp_158, _, rfl, hs_159, ho_160, rfl, hm'⟩
    refine ⟨_, hm.app hm', jkO ?_⟩
    clear hm hm'
    refine jo_f [(0, 0), (0, 0)] (by kernel_rfl) ?_
    refine toO (by kernel_rfl) (p_s 0 [3] (by kernel_rfl) (by kernel_rfl) (jkO ?_))
    refine jo_f [(0, 0)] (by kernel_rfl) ?_
    refine jo_end (by kernel_rfl) ?_
    refine jx_then ?_
    refine jc_ret ?_
    refine jx_inr ?_
    refine jx_thenr ?_
    obtain rfl := Option.some.inj h
    exact jx_ret [3] (.tuple #[(.agg #[(.slice (o_151.map fun b => ⟨b, 0, none⟩) t_1.1.fPins.length cap_152), (.slice (o_156.map fun b => ⟨b, 0, none⟩) t_1.1.fStrokes.length cap_157)]), (.int .i64 t_1.2)]) [(b_4, b_4), (b_4, b_4)] rfl (by kernel_rfl) (by kernel_rfl) (fun w hm => ⟨o_151, cap_152, sp_153, t_1.1.fPins.length, rfl, hs_154, ho_155, o_156, cap_157, sp_158, t_1.1.fStrokes.length, rfl, hs_159, ho_160, rfl, hm.pick [4, 5] (by kernel_rfl) (by kernel_rfl)⟩)
  · replace h := ifF hc_149 h
    refine jc_seq ?_
    refine jc_region ?_
    refine jo_f [(0, 0), (0, 0)] (by kernel_rfl) ?_
    refine jo_end (by kernel_rfl) ?_
    refine jx_then ?_
    refine jc_cond (a2.fKind == 1) (by kernel_rfl) (fun hc_161 => ?_) (fun hc_161 => ?_)
    · replace h := ifT hc_161 h
      refine jc_seq ?_
      refine jc_region ?_
      refine jo_f [(0, 0), (1, 0), (0, 0), (2, 0)] (by kernel_rfl) ?_
      obtain ⟨t_2, ht_162, h⟩ := bd h
      refine toO (by kernel_rfl) (p_call 0 40 #[(.agg #[(.int .i16 f0.fSteps), (.slice f0_fHammers_a f0.fHammers.length f0_fHammers_c)]), (.agg #[(.slice w1_fPins_a w1.fPins.length w1_fPins_c), (.slice w1_fStrokes_a w1.fStrokes.length w1_fStrokes_c)]), (.int .i64 a2.fA)] (by kernel_rfl) (by kernel_rfl) (fun w hm => impl_NewHammer.calls f0 w1 a2.fA w _ f0_fHammers_a f0.fHammers.length f0_fHammers_c (hm.exRow f0_fHammers_h List.not_mem_nil) rfl w1_fPins_a w1.fPins.length w1_fPins_c (hm.exRow w1_fPins_h List.not_mem_nil) rfl w1_fStrokes_a w1.fStrokes.length w1_fStrokes_c (hm.exRow w1_fStrokes_h List.not_mem_nil) rfl ht_162) ?_)
      rintro w v w' hm ⟨o_163, cap_164, sp_165, _, rfl, hs_166, ho_167, o_168, cap_169, sp_170, _, rfl, hs_171, ho_172, rfl, hm'⟩
      refine ⟨_, hm.app hm', jkO ?_⟩
      clear hm hm'
      refine jo_f [(0, 0), (0, 0)] (by kernel_rfl) ?_
      refine toO (by kernel_rfl) (p_s 0 [3] (by kernel_rfl) (by kernel_rfl) (jkO ?_))
      refine jo_f [(0, 0)] (by kernel_rfl) ?_
      refine jo_end (by kernel_rfl) ?_
      refine jx_then ?_
      refine jc_ret ?_
      refine jx_inr ?_
      refine jx_thenr ?_
      obtain rfl := Option.some.inj h
      exact jx_ret [3] (.tuple #[(.agg #[(.slice (o_163.map fun b => ⟨b, 0, none⟩) t_2.1.fPins.length cap_164), (.slice (o_168.map fun b => ⟨b, 0, none⟩) t_2.1.fStrokes.length cap_169)]), (.int .i64 t_2.2)]) [(b_4, b_4), (b_4, b_4)] rfl (by kernel_rfl) (by kernel_rfl) (fun w hm => ⟨o_163, cap_164, sp_165, t_2.1.fPins.length, rfl, hs_166, ho_167, o_168, cap_169, sp_170, t_2.1.fStrokes.length, rfl, hs_171, ho_172, rfl, hm.pick [4, 5] (by kernel_rfl) (by kernel_rfl)⟩)
    · replace h := ifF hc_161 h
      refine jc_seq ?_
      refine jc_region ?_
      refine jo_f [(0, 0), (0, 0)] (by kernel_rfl) ?_
      refine jo_end (by kernel_rfl) ?_
      refine jx_then ?_
      refine jc_cond (a2.fKind == 2) (by kernel_rfl) (fun hc_173 => ?_) (fun hc_173 => ?_)
      · replace h := ifT hc_173 h
        refine jc_seq ?_
        refine jc_region ?_
        refine jo_f [(0, 0), (1, 0), (0, 0), (2, 0), (0, 0), (2, 0)] (by kernel_rfl) ?_
        obtain ⟨t_3, ht_174, h⟩ := bd h
        refine toO (by kernel_rfl) (p_call 0 41 #[(.agg #[(.int .i16 f0.fSteps), (.slice f0_fHammers_a f0.fHammers.length f0_fHammers_c)]), (.agg #[(.slice w1_fPins_a w1.fPins.length w1_fPins_c), (.slice w1_fStrokes_a w1.fStrokes.length w1_fStrokes_c)]), (.int .i64 a2.fA), (.int .i64 a2.fB)] (by kernel_rfl) (by kernel_rfl) (fun w hm => impl_NewPin.calls f0 w1 a2.fA a2.fB w _ f0_fHammers_a f0.fHammers.length f0_fHammers_c (hm.exRow f0_fHammers_h List.not_mem_nil) rfl w1_fPins_a w1.fPins.length w1_fPins_c (hm.exRow w1_fPins_h List.not_mem_nil) rfl w1_fStrokes_a w1.fStrokes.length w1_fStrokes_c (hm.exRow w1_fStrokes_h List.not_mem_nil) rfl ht_174) ?_)
        rintro w v w' hm ⟨o_175, cap_176, sp_177, _, rfl, hs_178, ho_179, o_180, cap_181, sp_182, _, rfl, hs_183, ho_184, rfl, hm'⟩
        refine ⟨_, hm.app hm', jkO ?_⟩
        clear hm hm'
        refine jo_f [(0, 0), (0, 0)] (by kernel_rfl) ?_
        refine toO (by kernel_rfl) (p_s 0 [3] (by kernel_rfl) (by kernel_rfl) (jkO ?_))
        refine jo_f [(0, 0)] (by kernel_rfl) ?_
        refine jo_end (by kernel_rfl) ?_
        refine jx_then ?_
        refine jc_ret ?_
        refine jx_inr ?_
        refine jx_thenr ?_
        obtain rfl := Option.some.inj h
        exact jx_ret [3] (.tuple #[(.agg #[(.slice (o_175.map fun b => ⟨b, 0, none⟩) t_3.1.fPins.length cap_176), (.slice (o_180.map fun b => ⟨b, 0, none⟩) t_3.1.fStrokes.length cap_181)]), (.int .i64 t_3.2)]) [(b_4, b_4), (b_4, b_4)] rfl (by kernel_rfl) (by kernel_rfl) (fun w hm => ⟨o_175, cap_176, sp_177, t_3.1.fPins.length, rfl, hs_178, ho_179, o_180, cap_181, sp_182, t_3.1.fStrokes.length, rfl, hs_183, ho_184, rfl, hm.pick [4, 5] (by kernel_rfl) (by kernel_rfl)⟩)
      · replace h := ifF hc_173 h
        refine jc_seq ?_
        refine jc_region ?_
        refine jo_f [(0, 0), (0, 0)] (by kernel_rfl) ?_
        refine jo_end (by kernel_rfl) ?_
        refine jx_then ?_
        refine jc_cond (a2.fKind == 3) (by kernel_rfl) (fun hc_185 => ?_) (fun hc_185 => ?_)
        · replace h := ifT hc_185 h
          refine jc_seq ?_
          refine jc_region ?_
          refine jo_f [(0, 0), (1, 0), (0, 0), (2, 0), (0, 0), (2, 0), (0, 0), (2, 0), (0, 0), (2, 0)] (by kernel_rfl) ?_
          obtain ⟨t_4, ht_186, h⟩ := bd h
          refine toO (by kernel_rfl) (p_call 0 42 #[(.agg #[(.int .i16 f0.fSteps), (.slice f0_fHammers_a f0.fHammers.length f0_fHammers_c)]), (.agg #[(.slice w1_fPins_a w1.fPins.length w1_fPins_c), (.slice w1_fStrokes_a w1.fStrokes.length w1_fStrokes_c)]), (.int .i64 a2.fA), (.int .i64 a2.fB), (.int .i64 a2.fC), (.int .i64 a2.fD)] (by kernel_rfl) (by kernel_rfl) (fun w hm => impl_MovePin.calls f0 w1 a2.fA a2.fB a2.fC a2.fD w _ f0_fHammers_a f0.fHammers.length f0_fHammers_c (hm.exRow f0_fHammers_h List.not_mem_nil) rfl w1_fPins_a w1.fPins.length w1_fPins_c (hm.exRow w1_fPins_h List.not_mem_nil) rfl w1_fStrokes_a w1.fStrokes.length w1_fStrokes_c (hm.exRow w1_fStrokes_h List.not_mem_nil) rfl ht_186) ?_)
          rintro w v w' hm ⟨o_187, cap_188, sp_189, _, rfl, hs_190, ho_191, o_192, cap_193, sp_194, _, rfl, hs_195, ho_196, rfl, hm'⟩
          refine ⟨_, hm.app hm', jkO ?_⟩
          clear hm hm'
          refine jo_f [(0, 0), (0, 0)] (by kernel_rfl) ?_
          refine toO (by kernel_rfl) (p_s 0 [3] (by kernel_rfl) (by kernel_rfl) (jkO ?_))
          refine jo_f [(0, 0)] (by kernel_rfl) ?_
          refine jo_end (by kernel_rfl) ?_
          refine jx_then ?_
          refine jc_ret ?_
          refine jx_inr ?_
          refine jx_thenr ?_
          obtain rfl := Option.some.inj h
          exact jx_ret [3] (.tuple #[(.agg #[(.slice (o_187.map fun b => ⟨b, 0, none⟩) t_4.1.fPins.length cap_188), (.slice (o_192.map fun b => ⟨b, 0, none⟩) t_4.1.fStrokes.length cap_193)]), (.int .i64 t_4.2)]) [(b_4, b_4), (b_4, b_4)] rfl (by kernel_rfl) (by kernel_rfl) (fun w hm => ⟨o_187, cap_188, sp_189, t_4.1.fPins.length, rfl, hs_190, ho_191, o_192, cap_193, sp_194, t_4.1.fStrokes.length, rfl, hs_195, ho_196, rfl, hm.pick [4, 5] (by kernel_rfl) (by kernel_rfl)⟩)
        · replace h := ifF hc_185 h
          refine jc_skip ?_
          refine jx_inn ?_
          refine jx_then ?_
          refine jc_seq ?_
          refine jc_region ?_
          refine jo_f [(0, 0), (0, 0), (1, 0)] (by kernel_rfl) ?_
          obtain ⟨t_5, ht_197, h⟩ := bd h
          refine toO (by kernel_rfl) (p_call 0 44 #[(.agg #[(.int .i16 f0.fSteps), (.slice f0_fHammers_a f0.fHammers.length f0_fHammers_c)]), (.agg #[(.slice w1_fPins_a w1.fPins.length w1_fPins_c), (.slice w1_fStrokes_a w1.fStrokes.length w1_fStrokes_c)]), (.slice none 0 0)] (by kernel_rfl) (by kernel_rfl) (fun w hm => impl_wearCode.calls f0 w1 [] w _ f0_fHammers_a f0.fHammers.length f0_fHammers_c (hm.exRow f0_fHammers_h List.not_mem_nil) rfl w1_fPins_a w1.fPins.length w1_fPins_c (hm.exRow w1_fPins_h List.not_mem_nil) rfl w1_fStrokes_a w1.fStrokes.length w1_fStrokes_c (hm.exRow w1_fStrokes_h List.not_mem_nil) rfl none 0 0 Rw.nil rfl ht_197) ?_)
          rintro w v w' hm ⟨rfl, hm'⟩
          refine ⟨_, hm.app hm', jkO ?_⟩
          clear hm hm'
          refine toO (by kernel_rfl) (p_a 0 [0] (by kernel_rfl) (fun b => by kernel_rfl) (fun b_198 => jkO ?_))
          obtain ⟨t_6, ht_199, h⟩ := bd h
          refine toO (by kernel_rfl) (p_call 0 43 #[(.slice (some ⟨b_198, 0, none⟩) 2 2)] (by kernel_rfl) (by kernel_rfl) (fun w hm => impl_firstOf.calls [t_5, 2] w _ (some ⟨b_198, 0, none⟩) 2 2 (hm.ownRow (hh := 4) (o := (some b_198)) (T := 2) (enc := encI64) (xs := [t_5, 2]) (sp := []) (by kernel_rfl) (fun e => nomatch e) encI64_len) rfl ht_199) ?_)
          rintro w v w' hm ⟨rfl, hm'⟩
          refine ⟨_, hm.app hm', jkO ?_⟩
          clear hm hm'
          refine toO (by kernel_rfl) (p_s 0 [3] (by kernel_rfl) (by kernel_rfl) (jkO ?_))
          refine jo_f [(0, 0)] (by kernel_rfl) ?_
          refine jo_end (by kernel_rfl) ?_
          refine jx_then ?_
          refine jc_ret ?_
          obtain rfl := Option.some.inj h
          refine jx_ghost 108 encGWornPin ?_
          refine jx_ghost 2 encI64 ?_
          exact jx_ret [3] (.tuple #[(.agg #[(.slice none 0 0), (.slice none 0 0)]), (.int .i64 t_6)]) [(b_4, b_4), (b_4, b_4)] rfl (by kernel_rfl) (by kernel_rfl) (fun w hm => ⟨none, 0, [], 0, rfl, (fun e => absurd rfl e), (fun _ => ⟨rfl, rfl⟩), none, 0, [], 0, rfl, (fun e => absurd rfl e), (fun _ => ⟨rfl, rfl⟩), rfl, hm.pick [5, 6] (by kernel_rfl) (by kernel_rfl)⟩)

/-! ### laws.eqWornPin -/
noncomputable def laws_eqWornPin (a0 : GWornPin) (b1 : GWornPin) : Option (Bool) := (if (a0.fStep != b1.fStep) = true then some false else (if (a0.fTrack != b1.fTrack) = true then some false else (if (a0.fTurns != b1.fTurns) = true then some false else some true)))
set_option maxRecDepth 100000 in
theorem laws_eqWornPin.calls (a0 : GWornPin) (b1 : GWornPin) (w : World) (r : Bool) (h : laws_eqWornPin a0 b1 = some r) :
    Calls Tryz.prog 85 #[(.agg #[(.int .i8 a0.fStep), (.int .i8 a0.fTrack), (.int .i64 a0.fTurns)]), (.agg #[(.int .i8 b1.fStep), (.int .i8 b1.fTrack), (.int .i64 b1.fTurns)])] w fun e w' => ∃ v, e = .returned v ∧ (v = (.bool r) ∧ Mem w [] [] w') := by
  rw [laws_eqWornPin] at h
  refine enter (args := [(.agg #[(.int .i8 a0.fStep), (.int .i8 a0.fTrack), (.int .i64 a0.fTurns)]), (.agg #[(.int .i8 b1.fStep), (.int .i8 b1.fTrack), (.int .i64 b1.fTurns)])]) Tryz.func85 rfl Tryz.ntmps85 (by kernel_rfl) (L := []) (W := []) (Mem.start w) ?_
  refine jc_seq ?_
  refine jc_region ?_
  refine toO (by kernel_rfl) (p_a 0 [0] (by kernel_rfl) (fun b => by kernel_rfl) (fun b_1 => jkO ?_))
  refine toO (by kernel_rfl) (p_a 0 [0] (by kernel_rfl) (fun b => by kernel_rfl) (fun b_2 => jkO ?_))
  refine jo_f [(0, 0)] (by kernel_rfl) ?_
  refine jo_end (by kernel_rfl) ?_
  refine jx_then ?_
  refine jc_seq ?_
  refine jc_seq ?_
  refine jc_region ?_
  refine jo_f [(0, 0), (0, 0), (0, 0), (1, 0), (0, 0)] (by kernel_rfl) ?_
  refine jo_end (by kernel_rfl) ?_
  refine jx_then ?_
  refine jc_cond (a0.fStep != b1.fStep) (by kernel_rfl) (fun hc_4 => ?_) (fun hc_4 => ?_)
  · replace h := ifT hc_4 h
    refine jc_seq ?_
    refine jc_region ?_
    refine jo_f [(0, 0)] (by kernel_rfl) ?_
    refine jo_end (by kernel_rfl) ?_
    refine jx_then ?_
    refine jc_ret ?_
    refine jx_thenr ?_
    obtain rfl := Option.some.inj h
    exact jx_ret [] (.bool false) [] rfl (by kernel_rfl) (by kernel_rfl) (fun w hm => ⟨rfl, hm.pick [] (by kernel_rfl) (by kernel_rfl)⟩)
  · replace h := ifF hc_4 h
    refine jc_skip ?_
    refine jx_then ?_
    refine jc_seq ?_
    refine jc_seq ?_
    refine jc_region ?_
    refine jo_f [(0, 0), (0, 0), (0, 0), (1, 0), (0, 0)] (by kernel_rfl) ?_
    refine jo_end (by kernel_rfl) ?_
    refine jx_then ?_
    refine jc_cond (a0.fTrack != b1.fTrack) (by kernel_rfl) (fun hc_6 => ?_) (fun hc_6 => ?_)
    · replace h := ifT hc_6 h
      refine jc_seq ?_
      refine jc_region ?_
      refine jo_f [(0, 0)] (by kernel_rfl) ?_
      refine jo_end (by kernel_rfl) ?_
      refine jx_then ?_
      refine jc_ret ?_
      refine jx_thenr ?_
      obtain rfl := Option.some.inj h
      exact jx_ret [] (.bool false) [] rfl (by kernel_rfl) (by kernel_rfl) (fun w hm => ⟨rfl, hm.pick [] (by kernel_rfl) (by kernel_rfl)⟩)
    · replace h := ifF hc_6 h
      refine jc_skip ?_
      refine jx_then ?_
      refine jc_seq ?_
      refine jc_seq ?_
      refine jc_region ?_
      refine jo_f [(0, 0), (0, 0), (0, 0), (1, 0), (0, 0)] (by kernel_rfl) ?_
      refine jo_end (by kernel_rfl) ?_
      refine jx_then ?_
      refine jc_cond (a0.fTurns != b1.fTurns) (by kernel_rfl) (fun hc_7 => ?_) (fun hc_7 => ?_)
      · replace h := ifT hc_7 h
        refine jc_seq ?_
        refine jc_region ?_
        refine jo_f [(0, 0)] (by kernel_rfl) ?_
        refine jo_end (by kernel_rfl) ?_
        refine jx_then ?_
        refine jc_ret ?_
        refine jx_thenr ?_
        obtain rfl := Option.some.inj h
        exact jx_ret [] (.bool false) [] rfl (by kernel_rfl) (by kernel_rfl) (fun w hm => ⟨rfl, hm.pick [] (by kernel_rfl) (by kernel_rfl)⟩)
      · replace h := ifF hc_7 h
        refine jc_skip ?_
        refine jx_then ?_
        refine jc_seq ?_
        refine jc_region ?_
        refine jo_f [(0, 0)] (by kernel_rfl) ?_
        refine jo_end (by kernel_rfl) ?_
        refine jx_then ?_
        refine jc_ret ?_
        obtain rfl := Option.some.inj h
        exact jx_ret [] (.bool true) [] rfl (by kernel_rfl) (by kernel_rfl) (fun w hm => ⟨rfl, hm.pick [] (by kernel_rfl) (by kernel_rfl)⟩)

/-! ### laws.eqWornPinS -/
noncomputable def laws_eqWornPinS.k_1 : Option (Bool) := some true
noncomputable def laws_eqWornPinS.l_3 (a0 : List GWornPin) (b1 : List GWornPin) : Int → Option ((Int) ⊕ (Bool ⊕ Unit))
  | i_2 => (if (decide (i_2 < (a0.length : Int))) = true then (ix a0 i_2).bind fun x_5 => (ix b1 i_2).bind fun x_6 => (laws_eqWornPin x_5 x_6).bind fun t_7 => (if (!t_7) = true then some (.inr (.inl false)) else some (.inl (w64 (i_2 + 1)))) else some (.inr (.inr ())))
noncomputable def laws_eqWornPinS (a0 : List GWornPin) (b1 : List GWornPin) : Option (Bool) := (if ((a0.length : Int) != (b1.length : Int)) = true then some false else (loop (laws_eqWornPinS.l_3 a0 b1) 0).bind fun t_4 => match t_4 with | .inl p => some p | .inr p => laws_eqWornPinS.k_1)
set_option maxRecDepth 100000 in
theorem laws_eqWornPinS.calls (a0 : List GWornPin) (b1 : List GWornPin) (w : World) (r : Bool) (a0_a : Option Addr) (a0_an : Nat) (a0_c : Nat) (a0_h : Rw w a0_a 3 encGWornPin a0) (a0_hn : a0.length = a0_an) (b1_a : Option Addr) (b1_an : Nat) (b1_c : Nat) (b1_h : Rw w b1_a 3 encGWornPin b1) (b1_hn : b1.length = b1_an) (h : laws_eqWornPinS a0 b1 = some r) :
    Calls Tryz.prog 45 #[(.slice a0_a a0_an a0_c), (.slice b1_a b1_an b1_c)] w fun e w' => ∃ v, e = .returned v ∧ (v = (.bool r) ∧ Mem w [] [] w') := by
  subst a0_hn b1_hn
  rw [laws_eqWornPinS] at h
  refine enter (args := [(.slice a0_a a0.length a0_c), (.slice b1_a b1.length b1_c)]) Tryz.func45 rfl Tryz.ntmps45 (by kernel_rfl) (L := []) (W := []) (Mem.start w) ?_
  refine jc_seq ?_
  refine jc_region ?_
  refine jo_f [(0, 0)] (by kernel_rfl) ?_
  refine jo_end (by kernel_rfl) ?_
  refine jx_then ?_
  refine jc_seq ?_
  refine jc_seq ?_
  refine jc_region ?_
  refine jo_f [(0, 0), (0, 0), (0, 0), (0, 0), (0, 0)] (by kernel_rfl) ?_
  refine jo_end (by kernel_rfl) ?_
  refine jx_then ?_
  refine jc_cond ((a0.length : Int) != (b1.length : Int)) (by kernel_rfl) (fun hc_2 => ?_) (fun hc_2 => ?_)
  · replace h := ifT hc_2 h
    refine jc_seq ?_
    refine jc_region ?_
    refine jo_f [(0, 0)] (by kernel_rfl) ?_
    refine jo_end (by kernel_rfl) ?_
    refine jx_then ?_
    refine jc_ret ?_
    refine jx_thenr ?_
    obtain rfl := Option.some.inj h
    exact jx_ret [] (.bool false) [] rfl (by kernel_rfl) (by kernel_rfl) (fun w hm => ⟨rfl, hm.pick [] (by kernel_rfl) (by kernel_rfl)⟩)
  · replace h := ifF hc_2 h
    refine jc_skip ?_
    refine jx_then ?_
    refine jc_seq ?_
    refine jc_seq ?_
    refine jc_region ?_
    refine jo_f [(0, 0)] (by kernel_rfl) ?_
    refine jo_end (by kernel_rfl) ?_
    refine jx_then ?_
    refine jc_meet (fun (_ : Unit) => laws_eqWornPinS.k_1 = some r) (fun (_ : Unit) => [(4, [], (.bool false))]) (fun (_ : Unit) => []) ?_ ?_
    · refine jc_block ?_
      obtain ⟨t_4, ht_48, hr_38⟩ := bd h
      refine jc_loop (fun (s : Int) (x : Unit) => match s, x with | i_2, _ => True) (fun (s : Int) (x : Unit) => match s, x with | i_2, _ => [(0, [], (.slice a0_a a0.length a0_c)), (1, [], (.slice b1_a b1.length b1_c)), (4, [], (.bool false)), (5, [], (.int .i64 i_2))]) (fun (s : Int) (x : Unit) => match s, x with | i_2, _ => []) ht_48 () trivial (by kernel_rfl) [] (by kernel_rfl) (by kernel_rfl) ?_
      rintro i_2 _ y_39 _ h
      rw [laws_eqWornPinS.l_3] at h
      refine jc_seq ?_
      refine jc_seq ?_
      refine jc_region ?_
      refine jo_f [(0, 0), (0, 0), (0, 0), (0, 0)] (by kernel_rfl) ?_
      refine jo_end (by kernel_rfl) ?_
      refine jx_then ?_
      refine jc_cond (decide (i_2 < (a0.length : Int))) (by kernel_rfl) (fun hc_41 => ?_) (fun hc_41 => ?_)
      · replace h := ifT hc_41 h
        refine jc_skip ?_
        refine jx_then ?_
        refine jc_seq ?_
        refine jc_block ?_
        refine jc_seq ?_
        refine jc_draw [] 10 (by kernel_rfl) (by kernel_rfl) ?_
        refine jd_f [⟨0, 0, 0⟩, ⟨1, 0, 0⟩, ⟨4, 0, 0⟩, ⟨5, 0, 0⟩] 6 (by kernel_rfl) (by kernel_rfl) (fun w h => h.pick [] (by kernel_rfl) (by kernel_rfl)) (by kernel_rfl) (by kernel_rfl) ?_
        obtain ⟨x_5, hx_42, h⟩ := bd h
        refine jd_v 2 0 (by kernel_rfl) (fun w h => h.pick [] (by kernel_rfl) (by kernel_rfl)) (by kernel_rfl) (by kernel_rfl) _ (fun w hm => idx_run (a := a0_a) (len := a0.length) (s := 3) (j := i_2) (by kernel_rfl) (ix_some hx_42).1 (ltn hx_42 rfl) (a0_h.sp hx_42)) ?_
        refine jd_v 3 0 (by kernel_rfl) (fun w h => h.pick [] (by kernel_rfl) (by kernel_rfl)) (by kernel_rfl) (by kernel_rfl) _ (fun w hm => ld_run (b := aB a0_a) (off := (aO a0_a + i_2.toNat * 3)) (s := 3) (agg := true) (vs := (encGWornPin x_5)) (by kernel_rfl) (by kernel_rfl) (.inl rfl) ((hm.exRow a0_h List.not_mem_nil).at hx_42)) ?_
        obtain ⟨x_6, hx_43, h⟩ := bd h
        refine jd_v 6 0 (by kernel_rfl) (fun w h => h.pick [] (by kernel_rfl) (by kernel_rfl)) (by kernel_rfl) (by kernel_rfl) _ (fun w hm => idx_run (a := b1_a) (len := b1.length) (s := 3) (j := i_2) (by kernel_rfl) (ix_some hx_43).1 (ltn hx_43 rfl) (b1_h.sp hx_43)) ?_
        refine jd_v 7 0 (by kernel_rfl) (fun w h => h.pick [] (by kernel_rfl) (by kernel_rfl)) (by kernel_rfl) (by kernel_rfl) _ (fun w hm => ld_run (b := aB b1_a) (off := (aO b1_a + i_2.toNat * 3)) (s := 3) (agg := true) (vs := (encGWornPin x_6)) (by kernel_rfl) (by kernel_rfl) (.inl rfl) ((hm.exRow b1_h List.not_mem_nil).at hx_43)) ?_
        obtain ⟨t_7, ht_44, h⟩ := bd h
        refine toD 8 (by kernel_rfl) (p_call 0 85 #[(.agg #[(.int .i8 x_5.fStep), (.int .i8 x_5.fTrack), (.int .i64 x_5.fTurns)]), (.agg #[(.int .i8 x_6.fStep), (.int .i8 x_6.fTrack), (.int .i64 x_6.fTurns)])] (by kernel_rfl) (by kernel_rfl) (fun w hm => laws_eqWornPin.calls x_5 x_6 w _ ht_44) ?_)
        rintro w v w' hm ⟨rfl, hm'⟩
        refine ⟨_, hm.app hm', jkD (fun w h => h.pick [] (by kernel_rfl) (by kernel_rfl)) ?_⟩
        clear hm hm'
        refine jd_f [⟨9, 0, 0⟩] 0 (by kernel_rfl) (by kernel_rfl) (fun w h => h.pick [] (by kernel_rfl) (by kernel_rfl)) (by kernel_rfl) (by kernel_rfl) ?_
        refine jd_end (by kernel_rfl) ?_
        refine jx_then ?_
        refine jc_cond (!t_7) (by kernel_rfl) (fun hc_45 => ?_) (fun hc_45 => ?_)
        · replace h := ifT hc_45 h
          refine jc_seq ?_
          refine jc_region ?_
          refine jo_f [(0, 0)] (by kernel_rfl) ?_
          refine jo_end (by kernel_rfl) ?_
          refine jx_then ?_
          refine jc_ret ?_
          refine jx_inr ?_
          refine jx_thenr ?_
          refine jx_leaver (.inl false) (Option.some.inj h).symm (fun e_46 => ?_)
          subst e_46
          refine jx_inr ?_
          refine jx_thenr ?_
          refine jx_thenr ?_
          obtain rfl := Option.some.inj hr_38
          exact jx_ret [] (.bool false) [] rfl (by kernel_rfl) (by kernel_rfl) (fun w hm => ⟨rfl, hm.pick [] (by kernel_rfl) (by kernel_rfl)⟩)
        · replace h := ifF hc_45 h
          refine jc_skip ?_
          refine jx_inn ?_
          refine jx_then ?_
          refine jc_region ?_
          refine jo_f [(0, 0), (0, 0), (0, 0)] (by kernel_rfl) ?_
          refine jo_end (by kernel_rfl) ?_
          exact jx_back (w64 (i_2 + 1)) () (Option.some.inj h).symm trivial [] (by kernel_rfl) (by kernel_rfl) (by kernel_rfl)
      · replace h := ifF hc_41 h
        refine jc_exit ?_
        refine jx_thenx ?_
        refine jx_leave (.inr ()) (Option.some.inj h).symm (fun e_47 => ?_)
        subst e_47
        refine jx_ine ?_
        exact jx_meet () hr_38 (by kernel_rfl) [] (by kernel_rfl) (by kernel_rfl)
    · rintro _ h
      replace h : laws_eqWornPinS.k_1 = some r := h
      rw [laws_eqWornPinS.k_1] at h
      refine jx_then ?_
      refine jc_seq ?_
      refine jc_region ?_
      refine jo_f [(0, 0)] (by kernel_rfl) ?_
      refine jo_end (by kernel_rfl) ?_
      refine jx_then ?_
      refine jc_ret ?_
      obtain rfl := Option.some.inj h
      exact jx_ret [] (.bool true) [] rfl (by kernel_rfl) (by kernel_rfl) (fun w hm => ⟨rfl, hm.pick [] (by kernel_rfl) (by kernel_rfl)⟩)

/-! ### laws.eqInt64S -/
noncomputable def laws_eqInt64S.k_1 : Option (Bool) := some true
noncomputable def laws_eqInt64S.l_3 (a0 : List Int) (b1 : List Int) : Int → Option ((Int) ⊕ (Bool ⊕ Unit))
  | i_2 => (if (decide (i_2 < (a0.length : Int))) = true then (ix a0 i_2).bind fun x_5 => (ix b1 i_2).bind fun x_6 => (if (x_5 != x_6) = true then some (.inr (.inl false)) else some (.inl (w64 (i_2 + 1)))) else some (.inr (.inr ())))
noncomputable def laws_eqInt64S (a0 : List Int) (b1 : List Int) : Option (Bool) := (if ((a0.length : Int) != (b1.length : Int)) = true then some false else (loop (laws_eqInt64S.l_3 a0 b1) 0).bind fun t_4 => match t_4 with | .inl p => some p | .inr p => laws_eqInt64S.k_1)
set_option maxRecDepth 100000 in
theorem laws_eqInt64S.calls (a0 : List Int) (b1 : List Int) (w : World) (r : Bool) (a0_a : Option Addr) (a0_an : Nat) (a0_c : Nat) (a0_h : Rw w a0_a 1 encI64 a0) (a0_hn : a0.length = a0_an) (b1_a : Option Addr) (b1_an : Nat) (b1_c : Nat) (b1_h : Rw w b1_a 1 encI64 b1) (b1_hn : b1.length = b1_an) (h : laws_eqInt64S a0 b1 = some r) :
    Calls Tryz.prog 46 #[(.slice a0_a a0_an a0_c), (.slice b1_a b1_an b1_c)] w fun e w' => ∃ v, e = .returned v ∧ (v = (.bool r) ∧ Mem w [] [] w') := by
  subst a0_hn b1_hn
  rw [laws_eqInt64S] at h
  refine enter (args := [(.slice a0_a a0.length a0_c), (.slice b1_a b1.length b1_c)]) Tryz.func46 rfl Tryz.ntmps46 (by kernel_rfl) (L := []) (W := []) (Mem.start w) ?_
  refine jc_seq ?_
  refine jc_region ?_
  refine jo_f [(0, 0)] (by kernel_rfl) ?_
  refine jo_end (by kernel_rfl) ?_
  refine jx_then ?_
  refine jc_seq ?_
  refine jc_seq ?_
  refine jc_region ?_
  refine jo_f [(0, 0), (0, 0), (0, 0), (0, 0), (0, 0)] (by kernel_rfl) ?_
  refine jo_end (by kernel_rfl) ?_
  refine jx_then ?_
  refine jc_cond ((a0.length : Int) != (b1.length : Int)) (by kernel_rfl) (fun hc_2 => ?_) (fun hc_2 => ?_)
  · replace h := ifT hc_2 h
    refine jc_seq ?_
    refine jc_region ?_
    refine jo_f [(0, 0)] (by kernel_rfl) ?_
    refine jo_end (by kernel_rfl) ?_
    refine jx_then ?_
    refine jc_ret ?_
    refine jx_thenr ?_
    obtain rfl := Option.some.inj h
    exact jx_ret [] (.bool false) [] rfl (by kernel_rfl) (by kernel_rfl) (fun w hm => ⟨rfl, hm.pick [] (by kernel_rfl) (by kernel_rfl)⟩)
  · replace h := ifF hc_2 h
    refine jc_skip ?_
    refine jx_then ?_
    refine jc_seq ?_
    refine jc_seq ?_
    refine jc_region ?_
    refine jo_f [(0, 0)] (by kernel_rfl) ?_
    refine jo_end (by kernel_rfl) ?_
    refine jx_then ?_
    refine jc_meet (fun (_ : Unit) => laws_eqInt64S.k_1 = some r) (fun (_ : Unit) => [(4, [], (.bool false))]) (fun (_ : Unit) => []) ?_ ?_
    · refine jc_block ?_
      obtain ⟨t_4, ht_42, hr_33⟩ := bd h
      refine jc_loop (fun (s : Int) (x : Unit) => match s, x with | i_2, _ => True) (fun (s : Int) (x : Unit) => match s, x with | i_2, _ => [(0, [], (.slice a0_a a0.length a0_c)), (1, [], (.slice b1_a b1.length b1_c)), (4, [], (.bool false)), (5, [], (.int .i64 i_2))]) (fun (s : Int) (x : Unit) => match s, x with | i_2, _ => []) ht_42 () trivial (by kernel_rfl) [] (by kernel_rfl) (by kernel_rfl) ?_
      rintro i_2 _ y_34 _ h
      rw [laws_eqInt64S.l_3] at h
      refine jc_seq ?_
      refine jc_seq ?_
      refine jc_region ?_
      refine jo_f [(0, 0), (0, 0), (0, 0), (0, 0)] (by kernel_rfl) ?_
      refine jo_end (by kernel_rfl) ?_
      refine jx_then ?_
      refine jc_cond (decide (i_2 < (a0.length : Int))) (by kernel_rfl) (fun hc_36 => ?_) (fun hc_36 => ?_)
      · replace h := ifT hc_36 h
        refine jc_skip ?_
        refine jx_then ?_
        refine jc_seq ?_
        refine jc_block ?_
        refine jc_seq ?_
        refine jc_draw [] 9 (by kernel_rfl) (by kernel_rfl) ?_
        refine jd_f [⟨0, 0, 0⟩, ⟨1, 0, 0⟩, ⟨4, 0, 0⟩, ⟨5, 0, 0⟩] 5 (by kernel_rfl) (by kernel_rfl) (fun w h => h.pick [] (by kernel_rfl) (by kernel_rfl)) (by kernel_rfl) (by kernel_rfl) ?_
        obtain ⟨x_5, hx_37, h⟩ := bd h
        refine jd_v 2 0 (by kernel_rfl) (fun w h => h.pick [] (by kernel_rfl) (by kernel_rfl)) (by kernel_rfl) (by kernel_rfl) _ (fun w hm => idx_run (a := a0_a) (len := a0.length) (s := 1) (j := i_2) (by kernel_rfl) (ix_some hx_37).1 (ltn hx_37 rfl) (a0_h.sp hx_37)) ?_
        refine jd_v 3 0 (by kernel_rfl) (fun w h => h.pick [] (by kernel_rfl) (by kernel_rfl)) (by kernel_rfl) (by kernel_rfl) _ (fun w hm => ld_run (b := aB a0_a) (off := (aO a0_a + i_2.toNat * 1)) (s := 1) (agg := false) (vs := (encI64 x_5)) (by kernel_rfl) (by kernel_rfl) (.inr rfl) ((hm.exRow a0_h List.not_mem_nil).at hx_37)) ?_
        obtain ⟨x_6, hx_38, h⟩ := bd h
        refine jd_v 6 0 (by kernel_rfl) (fun w h => h.pick [] (by kernel_rfl) (by kernel_rfl)) (by kernel_rfl) (by kernel_rfl) _ (fun w hm => idx_run (a := b1_a) (len := b1.length) (s := 1) (j := i_2) (by kernel_rfl) (ix_some hx_38).1 (ltn hx_38 rfl) (b1_h.sp hx_38)) ?_
        refine jd_v 7 0 (by kernel_rfl) (fun w h => h.pick [] (by kernel_rfl) (by kernel_rfl)) (by kernel_rfl) (by kernel_rfl) _ (fun w hm => ld_run (b := aB b1_a) (off := (aO b1_a + i_2.toNat * 1)) (s := 1) (agg := false) (vs := (encI64 x_6)) (by kernel_rfl) (by kernel_rfl) (.inr rfl) ((hm.exRow b1_h List.not_mem_nil).at hx_38)) ?_
        refine jd_f [⟨8, 0, 0⟩] 0 (by kernel_rfl) (by kernel_rfl) (fun w h => h.pick [] (by kernel_rfl) (by kernel_rfl)) (by kernel_rfl) (by kernel_rfl) ?_
        refine jd_end (by kernel_rfl) ?_
        refine jx_then ?_
        refine jc_cond (x_5 != x_6) (by kernel_rfl) (fun hc_39 => ?_) (fun hc_39 => ?_)
        · replace h := ifT hc_39 h
          refine jc_seq ?_
          refine jc_region ?_
          refine jo_f [(0, 0)] (by kernel_rfl) ?_
          refine jo_end (by kernel_rfl) ?_
          refine jx_then ?_
          refine jc_ret ?_
          refine jx_inr ?_
          refine jx_thenr ?_
          refine jx_leaver (.inl false) (Option.some.inj h).symm (fun e_40 => ?_)
          subst e_40
          refine jx_inr ?_
          refine jx_thenr ?_
          refine jx_thenr ?_
          obtain rfl := Option.some.inj hr_33
          exact jx_ret [] (.bool false) [] rfl (by kernel_rfl) (by kernel_rfl) (fun w hm => ⟨rfl, hm.pick [] (by kernel_rfl) (by kernel_rfl)⟩)
        · replace h := ifF hc_39 h
          refine jc_skip ?_
          refine jx_inn ?_
          refine jx_then ?_
          refine jc_region ?_
          refine jo_f [(0, 0), (0, 0), (0, 0)] (by kernel_rfl) ?_
          refine jo_end (by kernel_rfl) ?_
          exact jx_back (w64 (i_2 + 1)) () (Option.some.inj h).symm trivial [] (by kernel_rfl) (by kernel_rfl) (by kernel_rfl)
      · replace h := ifF hc_36 h
        refine jc_exit ?_
        refine jx_thenx ?_
        refine jx_leave (.inr ()) (Option.some.inj h).symm (fun e_41 => ?_)
        subst e_41
        refine jx_ine ?_
        exact jx_meet () hr_33 (by kernel_rfl) [] (by kernel_rfl) (by kernel_rfl)
    · rintro _ h
      replace h : laws_eqInt64S.k_1 = some r := h
      rw [laws_eqInt64S.k_1] at h
      refine jx_then ?_
      refine jc_seq ?_
      refine jc_region ?_
      refine jo_f [(0, 0)] (by kernel_rfl) ?_
      refine jo_end (by kernel_rfl) ?_
      refine jx_then ?_
      refine jc_ret ?_
      obtain rfl := Option.some.inj h
      exact jx_ret [] (.bool true) [] rfl (by kernel_rfl) (by kernel_rfl) (fun w hm => ⟨rfl, hm.pick [] (by kernel_rfl) (by kernel_rfl)⟩)

/-! ### laws.eqWear -/
noncomputable def laws_eqWear (a0 : GWear) (b1 : GWear) : Option (Bool) := (laws_eqWornPinS a0.fPins b1.fPins).bind fun t_1 => (if (!t_1) = true then some false else (laws_eqInt64S a0.fStrokes b1.fStrokes).bind fun t_2 => (if (!t_2) = true then some false else some true))
set_option maxRecDepth 100000 in
theorem laws_eqWear.calls (a0 : GWear) (b1 : GWear) (w : World) (r : Bool) (a0_fPins_a : Option Addr) (a0_fPins_an : Nat) (a0_fPins_c : Nat) (a0_fPins_h : Rw w a0_fPins_a 3 encGWornPin a0.fPins) (a0_fPins_hn : a0.fPins.length = a0_fPins_an) (a0_fStrokes_a : Option Addr) (a0_fStrokes_an : Nat) (a0_fStrokes_c : Nat) (a0_fStrokes_h : Rw w a0_fStrokes_a 1 encI64 a0.fStrokes) (a0_fStrokes_hn : a0.fStrokes.length = a0_fStrokes_an) (b1_fPins_a : Option Addr) (b1_fPins_an : Nat) (b1_fPins_c : Nat) (b1_fPins_h : Rw w b1_fPins_a 3 encGWornPin b1.fPins) (b1_fPins_hn : b1.fPins.length = b1_fPins_an) (b1_fStrokes_a : Option Addr) (b1_fStrokes_an : Nat) (b1_fStrokes_c : Nat) (b1_fStrokes_h : Rw w b1_fStrokes_a 1 encI64 b1.fStrokes) (b1_fStrokes_hn : b1.fStrokes.length = b1_fStrokes_an) (h : laws_eqWear a0 b1 = some r) :
    Calls Tryz.prog 12 #[(.agg #[(.slice a0_fPins_a a0_fPins_an a0_fPins_c), (.slice a0_fStrokes_a a0_fStrokes_an a0_fStrokes_c)]), (.agg #[(.slice b1_fPins_a b1_fPins_an b1_fPins_c), (.slice b1_fStrokes_a b1_fStrokes_an b1_fStrokes_c)])] w fun e w' => ∃ v, e = .returned v ∧ (v = (.bool r) ∧ Mem w [] [] w') := by
  subst a0_fPins_hn a0_fStrokes_hn b1_fPins_hn b1_fStrokes_hn
  rw [laws_eqWear] at h
  refine enter (args := [(.agg #[(.slice a0_fPins_a a0.fPins.length a0_fPins_c), (.slice a0_fStrokes_a a0.fStrokes.length a0_fStrokes_c)]), (.agg #[(.slice b1_fPins_a b1.fPins.length b1_fPins_c), (.slice b1_fStrokes_a b1.fStrokes.length b1_fStrokes_c)])]) Tryz.func12 rfl Tryz.ntmps12 (by kernel_rfl) (L := []) (W := []) (Mem.start w) ?_
  refine jc_seq ?_
  refine jc_region ?_
  refine toO (by kernel_rfl) (p_a 0 [0] (by kernel_rfl) (fun b => by kernel_rfl) (fun b_1 => jkO ?_))
  refine toO (by kernel_rfl) (p_a 0 [0] (by kernel_rfl) (fun b => by kernel_rfl) (fun b_2 => jkO ?_))
  refine jo_f [(0, 0)] (by kernel_rfl) ?_
  refine jo_end (by kernel_rfl) ?_
  refine jx_then ?_
  refine jc_seq ?_
  refine jc_seq ?_
  refine jc_region ?_
  refine jo_f [(0, 0), (0, 0), (0, 0), (1, 0)] (by kernel_rfl) ?_
  obtain ⟨t_1, ht_5, h⟩ := bd h
  refine toO (by kernel_rfl) (p_call 0 45 #[(.slice a0_fPins_a a0.fPins.length a0_fPins_c), (.slice b1_fPins_a b1.fPins.length b1_fPins_c)] (by kernel_rfl) (by kernel_rfl) (fun w hm => laws_eqWornPinS.calls a0.fPins b1.fPins w _ a0_fPins_a a0.fPins.length a0_fPins_c (hm.exRow a0_fPins_h List.not_mem_nil) rfl b1_fPins_a b1.fPins.length b1_fPins_c (hm.exRow b1_fPins_h List.not_mem_nil) rfl ht_5) ?_)
  rintro w v w' hm ⟨rfl, hm'⟩
  refine ⟨_, hm.app hm', jkO ?_⟩
  clear hm hm'
  refine jo_f [(0, 0)] (by kernel_rfl) ?_
  refine jo_end (by kernel_rfl) ?_
  refine jx_then ?_
  refine jc_cond (!t_1) (by kernel_rfl) (fun hc_6 => ?_) (fun hc_6 => ?_)
  · replace h := ifT hc_6 h
    refine jc_seq ?_
    refine jc_region ?_
    refine jo_f [(0, 0)] (by kernel_rfl) ?_
    refine jo_end (by kernel_rfl) ?_
    refine jx_then ?_
    refine jc_ret ?_
    refine jx_thenr ?_
    obtain rfl := Option.some.inj h
    exact jx_ret [] (.bool false) [] rfl (by kernel_rfl) (by kernel_rfl) (fun w hm => ⟨rfl, hm.pick [] (by kernel_rfl) (by kernel_rfl)⟩)
  · replace h := ifF hc_6 h
    refine jc_skip ?_
    refine jx_then ?_
    refine jc_seq ?_
    refine jc_seq ?_
    refine jc_region ?_
    refine jo_f [(0, 0), (0, 0), (0, 0), (1, 0)] (by kernel_rfl) ?_
    obtain ⟨t_2, ht_7, h⟩ := bd h
    refine toO (by kernel_rfl) (p_call 0 46 #[(.slice a0_fStrokes_a a0.fStrokes.length a0_fStrokes_c), (.slice b1_fStrokes_a b1.fStrokes.length b1_fStrokes_c)] (by kernel_rfl) (by kernel_rfl) (fun w hm => laws_eqInt64S.calls a0.fStrokes b1.fStrokes w _ a0_fStrokes_a a0.fStrokes.length a0_fStrokes_c (hm.exRow a0_fStrokes_h List.not_mem_nil) rfl b1_fStrokes_a b1.fStrokes.length b1_fStrokes_c (hm.exRow b1_fStrokes_h List.not_mem_nil) rfl ht_7) ?_)
    rintro w v w' hm ⟨rfl, hm'⟩
    refine ⟨_, hm.app hm', jkO ?_⟩
    clear hm hm'
    refine jo_f [(0, 0)] (by kernel_rfl) ?_
    refine jo_end (by kernel_rfl) ?_
    refine jx_then ?_
    refine jc_cond (!t_2) (by kernel_rfl) (fun hc_8 => ?_) (fun hc_8 => ?_)
    · replace h := ifT hc_8 h
      refine jc_seq ?_
      refine jc_region ?_
      refine jo_f [(0, 0)] (by kernel_rfl) ?_
      refine jo_end (by kernel_rfl) ?_
      refine jx_then ?_
      refine jc_ret ?_
      refine jx_thenr ?_
      obtain rfl := Option.some.inj h
      exact jx_ret [] (.bool false) [] rfl (by kernel_rfl) (by kernel_rfl) (fun w hm => ⟨rfl, hm.pick [] (by kernel_rfl) (by kernel_rfl)⟩)
    · replace h := ifF hc_8 h
      refine jc_skip ?_
      refine jx_then ?_
      refine jc_seq ?_
      refine jc_region ?_
      refine jo_f [(0, 0)] (by kernel_rfl) ?_
      refine jo_end (by kernel_rfl) ?_
      refine jx_then ?_
      refine jc_ret ?_
      obtain rfl := Option.some.inj h
      exact jx_ret [] (.bool true) [] rfl (by kernel_rfl) (by kernel_rfl) (fun w hm => ⟨rfl, hm.pick [] (by kernel_rfl) (by kernel_rfl)⟩)

/-! ### laws.markWornPinS -/
noncomputable def laws_markWornPinS.k_3 (xs_1 : List GWornPin) (i_2 : Int) : Option (Int × (List GWornPin)) := some (i_2, xs_1)
noncomputable def laws_markWornPinS.l_7 (a0 : List GWornPin) : ((List GWornPin) × Int × Int) → Option (((List GWornPin) × Int × Int) ⊕ (((List GWornPin) × Int)))
  | (xs_4, i_5, i_6) => (if (decide (i_6 < (a0.length : Int))) = true then (ix xs_4 i_6).bind fun x_9 => (ix (xs_4.set i_6.toNat (⟨(w8 i_5), x_9.fTrack, x_9.fTurns⟩ : GWornPin)) i_6).bind fun x_10 => (ix ((xs_4.set i_6.toNat (⟨(w8 i_5), x_9.fTrack, x_9.fTurns⟩ : GWornPin)).set i_6.toNat (⟨x_10.fStep, (w8 (w64 (i_5 + 1))), x_10.fTurns⟩ : GWornPin)) i_6).bind fun x_11 => some (.inl ((((xs_4.set i_6.toNat (⟨(w8 i_5), x_9.fTrack, x_9.fTurns⟩ : GWornPin)).set i_6.toNat (⟨x_10.fStep, (w8 (w64 (i_5 + 1))), x_10.fTurns⟩ : GWornPin)).set i_6.toNat (⟨x_11.fStep, x_11.fTrack, (w64 ((w64 (i_5 + 1)) + 1))⟩ : GWornPin)), (w64 ((w64 ((w64 (i_5 + 1)) + 1)) + 1)), (w64 (i_6 + 1)))) else some (.inr (xs_4, i_5)))
noncomputable def laws_markWornPinS (a0 : List GWornPin) (k1 : Int) : Option (Int × (List GWornPin)) := (loop (laws_markWornPinS.l_7 a0) (a0, k1, 0)).bind fun t_8 => laws_markWornPinS.k_3 t_8.1 t_8.2
set_option maxRecDepth 100000 in
theorem laws_markWornPinS.calls (a0 : List GWornPin) (k1 : Int) (w : World) (r : Int × (List GWornPin)) (a0_o : Option Nat) (a0_on : Nat) (a0_c : Nat) (a0_sp : List Value) (a0_hn : a0.length = a0_on) (a0_hs : a0_o ≠ none → a0_on ≤ a0_c ∧ a0_sp.length = (a0_c - a0_on) * 3) (a0_ho : a0_o = none → a0 = [] ∧ a0_c = 0) (hm0 : Mem w (bs [a0_o]) [⟨a0_o, 108, row encGWornPin a0 a0_sp⟩] w) (h : laws_markWornPinS a0 k1 = some r) :
    Calls Tryz.prog 49 #[(.slice (a0_o.map fun b => ⟨b, 0, none⟩) a0_on a0_c), (.int .i64 k1)] w fun e w' => ∃ v, e = .returned v ∧ (r.2.length = a0_on ∧ (a0_o = none → r.2 = [] ∧ a0_c = 0) ∧ v = (.int .i64 r.1) ∧ Mem w (bs [a0_o]) [⟨a0_o, 108, row encGWornPin r.2 a0_sp⟩] w') := by
  subst a0_hn
  rw [laws_markWornPinS] at h
  refine enter (args := [(.slice (a0_o.map fun b => ⟨b, 0, none⟩) a0.length a0_c), (.int .i64 k1)]) Tryz.func49 rfl Tryz.ntmps49 (by kernel_rfl) (L := [⟨a0_o, 108, row encGWornPin a0 a0_sp⟩]) (W := bs [a0_o]) hm0 ?_
  refine jc_seq ?_
  refine jc_region ?_
  refine jo_f [(0, 0)] (by kernel_rfl) ?_
  refine jo_end (by kernel_rfl) ?_
  refine jx_then ?_
  refine jc_seq ?_
  refine jc_seq ?_
  refine jc_region ?_
  refine jo_f [(0, 0)] (by kernel_rfl) ?_
  refine jo_end (by kernel_rfl) ?_
  refine jx_then ?_
  refine jc_meet (fun (j : (List GWornPin) × Int) => match j with | ⟨xs_1, i_2⟩ => laws_markWornPinS.k_3 xs_1 i_2 = some r ∧ (xs_1.length = a0.length) ∧ ((a0_o = none → xs_1 = [] ∧ a0_c = 0))) (fun (j : (List GWornPin) × Int) => match j with | ⟨xs_1, i_2⟩ => [(1, [], (.int .i64 i_2)), (4, [], (.int .i64 0))]) (fun (j : (List GWornPin) × Int) => match j with | ⟨xs_1, i_2⟩ => [⟨a0_o, 108, row encGWornPin xs_1 a0_sp⟩]) ?_ ?_
  · refine jc_block ?_
    obtain ⟨t_8, ht_96, hr_88⟩ := bd h
    refine jc_loop (fun (s : (List GWornPin) × Int × Int) (x : Unit) => match s, x with | ⟨xs_4, i_5, i_6⟩, _ => (xs_4.length = a0.length) ∧ ((a0_o = none → xs_4 = [] ∧ a0_c = 0))) (fun (s : (List GWornPin) × Int × Int) (x : Unit) => match s, x with | ⟨xs_4, i_5, i_6⟩, _ => [(0, [], (.slice (a0_o.map fun b => ⟨b, 0, none⟩) a0.length a0_c)), (1, [], (.int .i64 i_5)), (4, [], (.int .i64 0)), (5, [], (.int .i64 i_6))]) (fun (s : (List GWornPin) × Int × Int) (x : Unit) => match s, x with | ⟨xs_4, i_5, i_6⟩, _ => [⟨a0_o, 108, row encGWornPin xs_4 a0_sp⟩]) ht_96 () ⟨rfl, a0_ho⟩ (by kernel_rfl) [0] (by kernel_rfl) (by kernel_rfl) ?_
    rintro ⟨xs_4, i_5, i_6⟩ _ y_89 ⟨hn_87, ho_86⟩ h
    rw [laws_markWornPinS.l_7] at h
    refine jc_seq ?_
    refine jc_seq ?_
    refine jc_region ?_
    refine jo_f [(0, 0), (0, 0), (0, 0), (0, 0)] (by kernel_rfl) ?_
    refine jo_end (by kernel_rfl) ?_
    refine jx_then ?_
    refine jc_cond (decide (i_6 < (a0.length : Int))) (by kernel_rfl) (fun hc_91 => ?_) (fun hc_91 => ?_)
    · replace h := ifT hc_91 h
      refine jc_skip ?_
      refine jx_then ?_
      refine jc_seq ?_
      refine jc_block ?_
      refine jc_seq ?_
      refine jc_region ?_
      refine jo_f [(0, 0), (0, 0), (0, 0), (0, 0)] (by kernel_rfl) ?_
      obtain ⟨x_9, hx_92, h⟩ := bd h
      refine toO (by kernel_rfl) (p_idx 0 (a0_o.map fun b => ⟨b, 0, none⟩) a0.length i_6 3 (by kernel_rfl) (by kernel_rfl) (ix_some hx_92).1 (ltn hx_92 hn_87) (spo ho_86 hx_92) (jkO ?_))
      refine jo_f [(0, 0)] (by kernel_rfl) ?_
      refine toO (by kernel_rfl) (p_strO 0 0 a0_o 108 encGWornPin xs_4 a0_sp i_6 (⟨(w8 i_5), x_9.fTrack, x_9.fTurns⟩ : GWornPin) 3 0 [(.int .i8 (w8 i_5))] (by kernel_rfl) (by kernel_rfl) (by kernel_rfl) (fun e => (ho_86 e).1) encGWornPin_len hx_92 (by kernel_rfl) (by kernel_rfl) (jkO ?_))
      refine jo_end (by kernel_rfl) ?_
      refine jx_then ?_
      refine jc_seq ?_
      refine jc_region ?_
      refine jo_f [(0, 0), (0, 0), (0, 0)] (by kernel_rfl) ?_
      refine jo_end (by kernel_rfl) ?_
      refine jx_then ?_
      refine jc_seq ?_
      refine jc_region ?_
      refine jo_f [(0, 0), (0, 0), (0, 0), (0, 0)] (by kernel_rfl) ?_
      obtain ⟨x_10, hx_93, h⟩ := bd h
      refine toO (by kernel_rfl) (p_idx 0 (a0_o.map fun b => ⟨b, 0, none⟩) a0.length i_6 3 (by kernel_rfl) (by kernel_rfl) (ix_some hx_93).1 (ltn hx_93 (List.length_set.trans hn_87)) (spo (set_ho ho_86) hx_93) (jkO ?_))
      refine jo_f [(0, 0)] (by kernel_rfl) ?_
      refine toO (by kernel_rfl) (p_strO 0 0 a0_o 108 encGWornPin (xs_4.set i_6.toNat (⟨(w8 i_5), x_9.fTrack, x_9.fTurns⟩ : GWornPin)) a0_sp i_6 (⟨x_10.fStep, (w8 (w64 (i_5 + 1))), x_10.fTurns⟩ : GWornPin) 3 1 [(.int .i8 (w8 (w64 (i_5 + 1))))] (by kernel_rfl) (by kernel_rfl) (by kernel_rfl) (fun e => ((set_ho ho_86) e).1) encGWornPin_len hx_93 (by kernel_rfl) (by kernel_rfl) (jkO ?_))
      refine jo_end (by kernel_rfl) ?_
      refine jx_then ?_
      refine jc_seq ?_
      refine jc_region ?_
      refine jo_f [(0, 0), (0, 0), (0, 0)] (by kernel_rfl) ?_
      refine jo_end (by kernel_rfl) ?_
      refine jx_then ?_
      refine jc_seq ?_
      refine jc_region ?_
      refine jo_f [(0, 0), (0, 0), (0, 0)] (by kernel_rfl) ?_
      obtain ⟨x_11, hx_94, h⟩ := bd h
      refine toO (by kernel_rfl) (p_idx 0 (a0_o.map fun b => ⟨b, 0, none⟩) a0.length i_6 3 (by kernel_rfl) (by kernel_rfl) (ix_some hx_94).1 (ltn hx_94 (List.length_set.trans (List.length_set.trans hn_87))) (spo (set_ho (set_ho ho_86)) hx_94) (jkO ?_))
      refine jo_f [(0, 0)] (by kernel_rfl) ?_
      refine toO (by kernel_rfl) (p_strO 0 0 a0_o 108 encGWornPin ((xs_4.set i_6.toNat (⟨(w8 i_5), x_9.fTrack, x_9.fTurns⟩ : GWornPin)).set i_6.toNat (⟨x_10.fStep, (w8 (w64 (i_5 + 1))), x_10.fTurns⟩ : GWornPin)) a0_sp i_6 (⟨x_11.fStep, x_11.fTrack, (w64 ((w64 (i_5 + 1)) + 1))⟩ : GWornPin) 3 2 [(.int .i64 (w64 ((w64 (i_5 + 1)) + 1)))] (by kernel_rfl) (by kernel_rfl) (by kernel_rfl) (fun e => ((set_ho (set_ho ho_86)) e).1) encGWornPin_len hx_94 (by kernel_rfl) (by kernel_rfl) (jkO ?_))
      refine jo_end (by kernel_rfl) ?_
      refine jx_then ?_
      refine jc_region ?_
      refine jo_f [(0, 0), (0, 0), (0, 0)] (by kernel_rfl) ?_
      refine jo_end (by kernel_rfl) ?_
      refine jx_inn ?_
      refine jx_then ?_
      refine jc_region ?_
      refine jo_f [(0, 0), (0, 0), (0, 0)] (by kernel_rfl) ?_
      refine jo_end (by kernel_rfl) ?_
      exact jx_back ((((xs_4.set i_6.toNat (⟨(w8 i_5), x_9.fTrack, x_9.fTurns⟩ : GWornPin)).set i_6.toNat (⟨x_10.fStep, (w8 (w64 (i_5 + 1))), x_10.fTurns⟩ : GWornPin)).set i_6.toNat (⟨x_11.fStep, x_11.fTrack, (w64 ((w64 (i_5 + 1)) + 1))⟩ : GWornPin)), (w64 ((w64 ((w64 (i_5 + 1)) + 1)) + 1)), (w64 (i_6 + 1))) () (Option.some.inj h).symm ⟨(List.length_set.trans (List.length_set.trans (List.length_set.trans hn_87))), (set_ho (set_ho (set_ho ho_86)))⟩ [0] (by kernel_rfl) (by kernel_rfl) (by kernel_rfl)
    · replace h := ifF hc_91 h
      refine jc_exit ?_
      refine jx_thenx ?_
      refine jx_leave (xs_4, i_5) (Option.some.inj h).symm (fun e_95 => ?_)
      subst e_95
      refine jx_ine ?_
      exact jx_meet ⟨xs_4, i_5⟩ ⟨hr_88, hn_87, ho_86⟩ (by kernel_rfl) [0] (by kernel_rfl) (by kernel_rfl)
  · rintro ⟨xs_1, i_2⟩ ⟨h, hn_73, ho_72⟩
    replace h : laws_markWornPinS.k_3 xs_1 i_2 = some r := h
    rw [laws_markWornPinS.k_3] at h
    refine jx_then ?_
    refine jc_seq ?_
    refine jc_region ?_
    refine jo_f [(0, 0), (0, 0)] (by kernel_rfl) ?_
    refine jo_end (by kernel_rfl) ?_
    refine jx_then ?_
    refine jc_ret ?_
    obtain rfl := Option.some.inj h
    exact jx_ret [] (.int .i64 i_2) [] rfl (by kernel_rfl) (by kernel_rfl) (fun w hm => ⟨hn_73, ho_72, rfl, hm.pick [0] (by kernel_rfl) (by kernel_rfl)⟩)

/-! ### laws.markInt64S -/
noncomputable def laws_markInt64S.k_3 (xs_1 : List Int) (i_2 : Int) : Option (Int × (List Int)) := some (i_2, xs_1)
noncomputable def laws_markInt64S.l_7 (a0 : List Int) : ((List Int) × Int × Int) → Option (((List Int) × Int × Int) ⊕ (((List Int) × Int)))
  | (xs_4, i_5, i_6) => (if (decide (i_6 < (a0.length : Int))) = true then (ix xs_4 i_6).bind fun x_9 => some (.inl ((xs_4.set i_6.toNat i_5), (w64 (i_5 + 1)), (w64 (i_6 + 1)))) else some (.inr (xs_4, i_5)))
noncomputable def laws_markInt64S (a0 : List Int) (k1 : Int) : Option (Int × (List Int)) := (loop (laws_markInt64S.l_7 a0) (a0, k1, 0)).bind fun t_8 => laws_markInt64S.k_3 t_8.1 t_8.2
set_option maxRecDepth 100000 in
theorem laws_markInt64S.calls (a0 : List Int) (k1 : Int) (w : World) (r : Int × (List Int)) (a0_o : Option Nat) (a0_on : Nat) (a0_c : Nat) (a0_sp : List Value) (a0_hn : a0.length = a0_on) (a0_hs : a0_o ≠ none → a0_on ≤ a0_c ∧ a0_sp.length = (a0_c - a0_on) * 1) (a0_ho : a0_o = none → a0 = [] ∧ a0_c = 0) (hm0 : Mem w (bs [a0_o]) [⟨a0_o, 2, row encI64 a0 a0_sp⟩] w) (h : laws_markInt64S a0 k1 = some r) :
    Calls Tryz.prog 50 #[(.slice (a0_o.map fun b => ⟨b, 0, none⟩) a0_on a0_c), (.int .i64 k1)] w fun e w' => ∃ v, e = .returned v ∧ (r.2.length = a0_on ∧ (a0_o = none → r.2 = [] ∧ a0_c = 0) ∧ v = (.int .i64 r.1) ∧ Mem w (bs [a0_o]) [⟨a0_o, 2, row encI64 r.2 a0_sp⟩] w') := by
  subst a0_hn
  rw [laws_markInt64S] at h
  refine enter (args := [(.slice (a0_o.map fun b => ⟨b, 0, none⟩) a0.length a0_c), (.int .i64 k1)]) Tryz.func50 rfl Tryz.ntmps50 (by kernel_rfl) (L := [⟨a0_o, 2, row encI64 a0 a0_sp⟩]) (W := bs [a0_o]) hm0 ?_
  refine jc_seq ?_
  refine jc_region ?_
  refine jo_f [(0, 0)] (by kernel_rfl) ?_
  refine jo_end (by kernel_rfl) ?_
  refine jx_then ?_
  refine jc_seq ?_
  refine jc_seq ?_
  refine jc_region ?_
  refine jo_f [(0, 0)] (by kernel_rfl) ?_
  refine jo_end (by kernel_rfl) ?_
  refine jx_then ?_
  refine jc_meet (fun (j : (List Int) × Int) => match j with | ⟨xs_1, i_2⟩ => laws_markInt64S.k_3 xs_1 i_2 = some r ∧ (xs_1.length = a0.length) ∧ ((a0_o = none → xs_1 = [] ∧ a0_c = 0))) (fun (j : (List Int) × Int) => match j with | ⟨xs_1, i_2⟩ => [(1, [], (.int .i64 i_2)), (4, [], (.int .i64 0))]) (fun (j : (List Int) × Int) => match j with | ⟨xs_1, i_2⟩ => [⟨a0_o, 2, row encI64 xs_1 a0_sp⟩]) ?_ ?_
  · refine jc_block ?_
    obtain ⟨t_8, ht_72, hr_66⟩ := bd h
    refine jc_loop (fun (s : (List Int) × Int × Int) (x : Unit) => match s, x with | ⟨xs_4, i_5, i_6⟩, _ => (xs_4.length = a0.length) ∧ ((a0_o = none → xs_4 = [] ∧ a0_c = 0))) (fun (s : (List Int) × Int × Int) (x : Unit) => match s, x with | ⟨xs_4, i_5, i_6⟩, _ => [(0, [], (.slice (a0_o.map fun b => ⟨b, 0, none⟩) a0.length a0_c)), (1, [], (.int .i64 i_5)), (4, [], (.int .i64 0)), (5, [], (.int .i64 i_6))]) (fun (s : (List Int) × Int × Int) (x : Unit) => match s, x with | ⟨xs_4, i_5, i_6⟩, _ => [⟨a0_o, 2, row encI64 xs_4 a0_sp⟩]) ht_72 () ⟨rfl, a0_ho⟩ (by kernel_rfl) [0] (by kernel_rfl) (by kernel_rfl) ?_
    rintro ⟨xs_4, i_5, i_6⟩ _ y_67 ⟨hn_65, ho_64⟩ h
    rw [laws_markInt64S.l_7] at h
    refine jc_seq ?_
    refine jc_seq ?_
    refine jc_region ?_
    refine jo_f [(0, 0), (0, 0), (0, 0), (0, 0)] (by kernel_rfl) ?_
    refine jo_end (by kernel_rfl) ?_
    refine jx_then ?_
    refine jc_cond (decide (i_6 < (a0.length : Int))) (by kernel_rfl) (fun hc_69 => ?_) (fun hc_69 => ?_)
    · replace h := ifT hc_69 h
      refine jc_skip ?_
      refine jx_then ?_
      refine jc_seq ?_
      refine jc_block ?_
      refine jc_seq ?_
      refine jc_region ?_
      refine jo_f [(0, 0), (0, 0), (0, 0)] (by kernel_rfl) ?_
      obtain ⟨x_9, hx_70, h⟩ := bd h
      refine toO (by kernel_rfl) (p_idx 0 (a0_o.map fun b => ⟨b, 0, none⟩) a0.length i_6 1 (by kernel_rfl) (by kernel_rfl) (ix_some hx_70).1 (ltn hx_70 hn_65) (spo ho_64 hx_70) (jkO ?_))
      refine toO (by kernel_rfl) (p_strO 0 0 a0_o 2 encI64 xs_4 a0_sp i_6 i_5 1 0 [(.int .i64 i_5)] (by kernel_rfl) (by kernel_rfl) (by kernel_rfl) (fun e => (ho_64 e).1) encI64_len hx_70 (by kernel_rfl) (by kernel_rfl) (jkO ?_))
      refine jo_end (by kernel_rfl) ?_
      refine jx_then ?_
      refine jc_region ?_
      refine jo_f [(0, 0), (0, 0), (0, 0)] (by kernel_rfl) ?_
      refine jo_end (by kernel_rfl) ?_
      refine jx_inn ?_
      refine jx_then ?_
      refine jc_region ?_
      refine jo_f [(0, 0), (0, 0), (0, 0)] (by kernel_rfl) ?_
      refine jo_end (by kernel_rfl) ?_
      exact jx_back ((xs_4.set i_6.toNat i_5), (w64 (i_5 + 1)), (w64 (i_6 + 1))) () (Option.some.inj h).symm ⟨(List.length_set.trans hn_65), (set_ho ho_64)⟩ [0] (by kernel_rfl) (by kernel_rfl) (by kernel_rfl)
    · replace h := ifF hc_69 h
      refine jc_exit ?_
      refine jx_thenx ?_
      refine jx_leave (xs_4, i_5) (Option.some.inj h).symm (fun e_71 => ?_)
      subst e_71
      refine jx_ine ?_
      exact jx_meet ⟨xs_4, i_5⟩ ⟨hr_66, hn_65, ho_64⟩ (by kernel_rfl) [0] (by kernel_rfl) (by kernel_rfl)
  · rintro ⟨xs_1, i_2⟩ ⟨h, hn_55, ho_54⟩
    replace h : laws_markInt64S.k_3 xs_1 i_2 = some r := h
    rw [laws_markInt64S.k_3] at h
    refine jx_then ?_
    refine jc_seq ?_
    refine jc_region ?_
    refine jo_f [(0, 0), (0, 0)] (by kernel_rfl) ?_
    refine jo_end (by kernel_rfl) ?_
    refine jx_then ?_
    refine jc_ret ?_
    obtain rfl := Option.some.inj h
    exact jx_ret [] (.int .i64 i_2) [] rfl (by kernel_rfl) (by kernel_rfl) (fun w hm => ⟨hn_55, ho_54, rfl, hm.pick [0] (by kernel_rfl) (by kernel_rfl)⟩)

/-! ### laws.markWear -/
noncomputable def laws_markWear (a0 : GWear) (k1 : Int) : Option (Int × (List GWornPin) × (List Int)) := (laws_markWornPinS a0.fPins k1).bind fun t_1 => (laws_markInt64S a0.fStrokes t_1.1).bind fun t_2 => some (t_2.1, t_1.2, t_2.2)
set_option maxRecDepth 100000 in
theorem laws_markWear.calls (a0 : GWear) (k1 : Int) (w : World) (r : Int × (List GWornPin) × (List Int)) (a0_fPins_o : Option Nat) (a0_fPins_on : Nat) (a0_fPins_c : Nat) (a0_fPins_sp : List Value) (a0_fPins_hn : a0.fPins.length = a0_fPins_on) (a0_fPins_hs : a0_fPins_o ≠ none → a0_fPins_on ≤ a0_fPins_c ∧ a0_fPins_sp.length = (a0_fPins_c - a0_fPins_on) * 3) (a0_fPins_ho : a0_fPins_o = none → a0.fPins = [] ∧ a0_fPins_c = 0) (a0_fStrokes_o : Option Nat) (a0_fStrokes_on : Nat) (a0_fStrokes_c : Nat) (a0_fStrokes_sp : List Value) (a0_fStrokes_hn : a0.fStrokes.length = a0_fStrokes_on) (a0_fStrokes_hs : a0_fStrokes_o ≠ none → a0_fStrokes_on ≤ a0_fStrokes_c ∧ a0_fStrokes_sp.length = (a0_fStrokes_c - a0_fStrokes_on) * 1) (a0_fStrokes_ho : a0_fStrokes_o = none → a0.fStrokes = [] ∧ a0_fStrokes_c = 0) (hm0 : Mem w (bs [a0_fPins_o, a0_fStrokes_o]) [⟨a0_fPins_o, 108, row encGWornPin a0.fPins a0_fPins_sp⟩, ⟨a0_fStrokes_o, 2, row encI64 a0.fStrokes a0_fStrokes_sp⟩] w) (h : laws_markWear a0 k1 = some r) :
    Calls Tryz.prog 15 #[(.agg #[(.slice (a0_fPins_o.map fun b => ⟨b, 0, none⟩) a0_fPins_on a0_fPins_c), (.slice (a0_fStrokes_o.map fun b => ⟨b, 0, none⟩) a0_fStrokes_on a0_fStrokes_c)]), (.int .i64 k1)] w fun e w' => ∃ v, e = .returned v ∧ (r.2.1.length = a0_fPins_on ∧ (a0_fPins_o = none → r.2.1 = [] ∧ a0_fPins_c = 0) ∧ r.2.2.length = a0_fStrokes_on ∧ (a0_fStrokes_o = none → r.2.2 = [] ∧ a0_fStrokes_c = 0) ∧ v = (.int .i64 r.1) ∧ Mem w (bs [a0_fPins_o, a0_fStrokes_o]) [⟨a0_fPins_o, 108, row encGWornPin r.2.1 a0_fPins_sp⟩, ⟨a0_fStrokes_o, 2, row encI64 r.2.2 a0_fStrokes_sp⟩] w') := by
  subst a0_fPins_hn a0_fStrokes_hn
  rw [laws_markWear] at h
  refine enter (args := [(.agg #[(.slice (a0_fPins_o.map fun b => ⟨b, 0, none⟩) a0.fPins.length a0_fPins_c), (.slice (a0_fStrokes_o.map fun b => ⟨b, 0, none⟩) a0.fStrokes.length a0_fStrokes_c)]), (.int .i64 k1)]) Tryz.func15 rfl Tryz.ntmps15 (by kernel_rfl) (L := [⟨a0_fPins_o, 108, row encGWornPin a0.fPins a0_fPins_sp⟩, ⟨a0_fStrokes_o, 2, row encI64 a0.fStrokes a0_fStrokes_sp⟩]) (W := bs [a0_fPins_o, a0_fStrokes_o]) hm0 ?_
  refine jc_seq ?_
  refine jc_region ?_
  refine toO (by kernel_rfl) (p_a 0 [0] (by kernel_rfl) (fun b => by kernel_rfl) (fun b_1 => jkO ?_))
  refine jo_f [(0, 0)] (by kernel_rfl) ?_
  refine jo_end (by kernel_rfl) ?_
  refine jx_then ?_
  refine jc_seq ?_
  refine jc_region ?_
  refine jo_f [(0, 0), (2, 0), (0, 0)] (by kernel_rfl) ?_
  obtain ⟨t_1, ht_2, h⟩ := bd h
  refine toO (by kernel_rfl) (p_call 0 49 #[(.slice (a0_fPins_o.map fun b => ⟨b, 0, none⟩) a0.fPins.length a0_fPins_c), (.int .i64 k1)] (by kernel_rfl) (by kernel_rfl) (fun w hm => laws_markWornPinS.calls a0.fPins k1 w _ a0_fPins_o a0.fPins.length a0_fPins_c a0_fPins_sp rfl a0_fPins_hs a0_fPins_ho (hm.pass (N := [⟨a0_fPins_o, 108, row encGWornPin a0.fPins a0_fPins_sp⟩]) [0] (by kernel_rfl) (by kernel_rfl)) ht_2) ?_)
  rintro w v w' hm ⟨hn_3, ho_4, rfl, hm'⟩
  refine ⟨_, hm.appW (ps := [(0, ⟨a0_fPins_o, 108, row encGWornPin t_1.2 a0_fPins_sp⟩)]) (N := []) hm' (by kernel_rfl) (by kernel_rfl), jkO ?_⟩
  clear hm hm'
  refine jo_f [(0, 0)] (by kernel_rfl) ?_
  refine jo_end (by kernel_rfl) ?_
  refine jx_then ?_
  refine jc_seq ?_
  refine jc_region ?_
  refine jo_f [(0, 0), (2, 0), (0, 0)] (by kernel_rfl) ?_
  obtain ⟨t_2, ht_5, h⟩ := bd h
  refine toO (by kernel_rfl) (p_call 0 50 #[(.slice (a0_fStrokes_o.map fun b => ⟨b, 0, none⟩) a0.fStrokes.length a0_fStrokes_c), (.int .i64 t_1.1)] (by kernel_rfl) (by kernel_rfl) (fun w hm => laws_markInt64S.calls a0.fStrokes t_1.1 w _ a0_fStrokes_o a0.fStrokes.length a0_fStrokes_c a0_fStrokes_sp rfl a0_fStrokes_hs a0_fStrokes_ho (hm.pass (N := [⟨a0_fStrokes_o, 2, row encI64 a0.fStrokes a0_fStrokes_sp⟩]) [1] (by kernel_rfl) (by kernel_rfl)) ht_5) ?_)
  rintro w v w' hm ⟨hn_6, ho_7, rfl, hm'⟩
  refine ⟨_, hm.appW (ps := [(1, ⟨a0_fStrokes_o, 2, row encI64 t_2.2 a0_fStrokes_sp⟩)]) (N := []) hm' (by kernel_rfl) (by kernel_rfl), jkO ?_⟩
  clear hm hm'
  refine jo_f [(0, 0)] (by kernel_rfl) ?_
  refine jo_end (by kernel_rfl) ?_
  refine jx_then ?_
  refine jc_seq ?_
  refine jc_region ?_
  refine jo_f [(0, 0), (0, 0)] (by kernel_rfl) ?_
  refine jo_end (by kernel_rfl) ?_
  refine jx_then ?_
  refine jc_ret ?_
  obtain rfl := Option.some.inj h
  exact jx_ret [] (.int .i64 t_2.1) [] rfl (by kernel_rfl) (by kernel_rfl) (fun w hm => ⟨hn_3, ho_4, hn_6, ho_7, rfl, hm.pick [0, 1] (by kernel_rfl) (by kernel_rfl)⟩)

/-! ### laws.heldWornPinS -/
noncomputable def laws_heldWornPinS.k_2 (i_1 : Int) : Option (Int) := some i_1
noncomputable def laws_heldWornPinS.l_5 (a0 : List GWornPin) : (Int × Int) → Option ((Int × Int) ⊕ (Int ⊕ Int))
  | (i_3, i_4) => (if (decide (i_4 < (a0.length : Int))) = true then (ix a0 i_4).bind fun x_7 => (if (x_7.fStep != (w8 i_3)) = true then some (.inr (.inl (-1))) else (ix a0 i_4).bind fun x_8 => (if (x_8.fTrack != (w8 (w64 (i_3 + 1)))) = true then some (.inr (.inl (-1))) else (ix a0 i_4).bind fun x_9 => (if (x_9.fTurns != (w64 ((w64 (i_3 + 1)) + 1))) = true then some (.inr (.inl (-1))) else some (.inl ((w64 ((w64 ((w64 (i_3 + 1)) + 1)) + 1)), (w64 (i_4 + 1))))))) else some (.inr (.inr i_3)))
noncomputable def laws_heldWornPinS (a0 : List GWornPin) (k1 : Int) : Option (Int) := (loop (laws_heldWornPinS.l_5 a0) (k1, 0)).bind fun t_6 => match t_6 with | .inl p => some p | .inr p => laws_heldWornPinS.k_2 p
set_option maxRecDepth 100000 in
theorem laws_heldWornPinS.calls (a0 : List GWornPin) (k1 : Int) (w : World) (r : Int) (a0_a : Option Addr) (a0_an : Nat) (a0_c : Nat) (a0_h : Rw w a0_a 3 encGWornPin a0) (a0_hn : a0.length = a0_an) (h : laws_heldWornPinS a0 k1 = some r) :
    Calls Tryz.prog 51 #[(.slice a0_a a0_an a0_c), (.int .i64 k1)] w fun e w' => ∃ v, e = .returned v ∧ (v = (.int .i64 r) ∧ Mem w [] [] w') := by
  subst a0_hn
  rw [laws_heldWornPinS] at h
  refine enter (args := [(.slice a0_a a0.length a0_c), (.int .i64 k1)]) Tryz.func51 rfl Tryz.ntmps51 (by kernel_rfl) (L := []) (W := []) (Mem.start w) ?_
  refine jc_seq ?_
  refine jc_region ?_
  refine jo_f [(0, 0)] (by kernel_rfl) ?_
  refine jo_end (by kernel_rfl) ?_
  refine jx_then ?_
  refine jc_seq ?_
  refine jc_seq ?_
  refine jc_region ?_
  refine jo_f [(0, 0)] (by kernel_rfl) ?_
  refine jo_end (by kernel_rfl) ?_
  refine jx_then ?_
  refine jc_meet (fun (j : Int) => match j with | i_1 => laws_heldWornPinS.k_2 i_1 = some r) (fun (j : Int) => match j with | i_1 => [(1, [], (.int .i64 i_1)), (4, [], (.int .i64 0))]) (fun (j : Int) => match j with | i_1 => []) ?_ ?_
  · refine jc_block ?_
    obtain ⟨t_6, ht_172, hr_154⟩ := bd h
    refine jc_loop (fun (s : Int × Int) (x : Unit) => match s, x with | ⟨i_3, i_4⟩, _ => True) (fun (s : Int × Int) (x : Unit) => match s, x with | ⟨i_3, i_4⟩, _ => [(0, [], (.slice a0_a a0.length a0_c)), (1, [], (.int .i64 i_3)), (4, [], (.int .i64 0)), (5, [], (.int .i64 i_4))]) (fun (s : Int × Int) (x : Unit) => match s, x with | ⟨i_3, i_4⟩, _ => []) ht_172 () trivial (by kernel_rfl) [] (by kernel_rfl) (by kernel_rfl) ?_
    rintro ⟨i_3, i_4⟩ _ y_155 _ h
    rw [laws_heldWornPinS.l_5] at h
    refine jc_seq ?_
    refine jc_seq ?_
    refine jc_region ?_
    refine jo_f [(0, 0), (0, 0), (0, 0), (0, 0)] (by kernel_rfl) ?_
    refine jo_end (by kernel_rfl) ?_
    refine jx_then ?_
    refine jc_cond (decide (i_4 < (a0.length : Int))) (by kernel_rfl) (fun hc_157 => ?_) (fun hc_157 => ?_)
    · replace h := ifT hc_157 h
      refine jc_skip ?_
      refine jx_then ?_
      refine jc_seq ?_
      refine jc_block ?_
      refine jc_seq ?_
      refine jc_seq ?_
      refine jc_region ?_
      refine jo_f [(0, 0), (0, 0)] (by kernel_rfl) ?_
      obtain ⟨x_7, hx_160, h⟩ := bd h
      refine toO (by kernel_rfl) (p_idx 0 a0_a a0.length i_4 3 (by kernel_rfl) (by kernel_rfl) (ix_some hx_160).1 (ltn hx_160 rfl) (a0_h.sp hx_160) (jkO ?_))
      refine jo_f [(0, 0)] (by kernel_rfl) ?_
      refine toO (by kernel_rfl) (p_ld 0 (aB a0_a) (aO a0_a + i_4.toNat * 3) false (((encGWornPin x_7).drop 0).take 1) (by kernel_rfl) (by kernel_rfl) (by kernel_rfl) (fun w hm => (((hm.exRow a0_h List.not_mem_nil).at hx_160).sub 0 1)) (jkO ?_))
      refine jo_f [(0, 0), (0, 0), (0, 0)] (by kernel_rfl) ?_
      refine jo_end (by kernel_rfl) ?_
      refine jx_then ?_
      refine jc_cond (x_7.fStep != (w8 i_3)) (by kernel_rfl) (fun hc_161 => ?_) (fun hc_161 => ?_)
      · replace h := ifT hc_161 h
        refine jc_seq ?_
        refine jc_region ?_
        refine jo_f [(0, 0)] (by kernel_rfl) ?_
        refine jo_end (by kernel_rfl) ?_
        refine jx_then ?_
        refine jc_ret ?_
        refine jx_thenr ?_
        refine jx_inr ?_
        refine jx_thenr ?_
        refine jx_leaver (.inl (-1)) (Option.some.inj h).symm (fun e_162 => ?_)
        subst e_162
        refine jx_inr ?_
        refine jx_thenr ?_
        refine jx_thenr ?_
        obtain rfl := Option.some.inj hr_154
        exact jx_ret [] (.int .i64 (-1)) [] rfl (by kernel_rfl) (by kernel_rfl) (fun w hm => ⟨rfl, hm.pick [] (by kernel_rfl) (by kernel_rfl)⟩)
      · replace h := ifF hc_161 h
        refine jc_skip ?_
        refine jx_then ?_
        refine jc_seq ?_
        refine jc_region ?_
        refine jo_f [(0, 0), (0, 0), (0, 0)] (by kernel_rfl) ?_
        refine jo_end (by kernel_rfl) ?_
        refine jx_then ?_
        refine jc_seq ?_
        refine jc_seq ?_
        refine jc_region ?_
        refine jo_f [(0, 0), (0, 0)] (by kernel_rfl) ?_
        obtain ⟨x_8, hx_165, h⟩ := bd h
        refine toO (by kernel_rfl) (p_idx 0 a0_a a0.length i_4 3 (by kernel_rfl) (by kernel_rfl) (ix_some hx_165).1 (ltn hx_165 rfl) (a0_h.sp hx_165) (jkO ?_))
        refine jo_f [(0, 0)] (by kernel_rfl) ?_
        refine toO (by kernel_rfl) (p_ld 0 (aB a0_a) (aO a0_a + i_4.toNat * 3 + 1) false (((encGWornPin x_8).drop 1).take 1) (by kernel_rfl) (by kernel_rfl) (by kernel_rfl) (fun w hm => (((hm.exRow a0_h List.not_mem_nil).at hx_165).sub 1 1)) (jkO ?_))
        refine jo_f [(0, 0), (0, 0), (0, 0)] (by kernel_rfl) ?_
        refine jo_end (by kernel_rfl) ?_
        refine jx_then ?_
        refine jc_cond (x_8.fTrack != (w8 (w64 (i_3 + 1)))) (by kernel_rfl) (fun hc_166 => ?_) (fun hc_166 => ?_)
        · replace h := ifT hc_166 h
          refine jc_seq ?_
          refine jc_region ?_
          refine jo_f [(0, 0)] (by kernel_rfl) ?_
          refine jo_end (by kernel_rfl) ?_
          refine jx_then ?_
          refine jc_ret ?_
          refine jx_thenr ?_
          refine jx_inr ?_
          refine jx_thenr ?_
          refine jx_leaver (.inl (-1)) (Option.some.inj h).symm (fun e_167 => ?_)
          subst e_167
          refine jx_inr ?_
          refine jx_thenr ?_
          refine jx_thenr ?_
          obtain rfl := Option.some.inj hr_154
          exact jx_ret [] (.int .i64 (-1)) [] rfl (by kernel_rfl) (by kernel_rfl) (fun w hm => ⟨rfl, hm.pick [] (by kernel_rfl) (by kernel_rfl)⟩)
        · replace h := ifF hc_166 h
          refine jc_skip ?_
          refine jx_then ?_
          refine jc_seq ?_
          refine jc_region ?_
          refine jo_f [(0, 0), (0, 0), (0, 0)] (by kernel_rfl) ?_
          refine jo_end (by kernel_rfl) ?_
          refine jx_then ?_
          refine jc_seq ?_
          refine jc_seq ?_
          refine jc_region ?_
          refine jo_f [(0, 0), (0, 0)] (by kernel_rfl) ?_
          obtain ⟨x_9, hx_168, h⟩ := bd h
          refine toO (by kernel_rfl) (p_idx 0 a0_a a0.length i_4 3 (by kernel_rfl) (by kernel_rfl) (ix_some hx_168).1 (ltn hx_168 rfl) (a0_h.sp hx_168) (jkO ?_))
          refine jo_f [(0, 0)] (by kernel_rfl) ?_
          refine toO (by kernel_rfl) (p_ld 0 (aB a0_a) (aO a0_a + i_4.toNat * 3 + 2) false (((encGWornPin x_9).drop 2).take 1) (by kernel_rfl) (by kernel_rfl) (by kernel_rfl) (fun w hm => (((hm.exRow a0_h List.not_mem_nil).at hx_168).sub 2 1)) (jkO ?_))
          refine jo_f [(0, 0), (0, 0)] (by kernel_rfl) ?_
          refine jo_end (by kernel_rfl) ?_
          refine jx_then ?_
          refine jc_cond (x_9.fTurns != (w64 ((w64 (i_3 + 1)) + 1))) (by kernel_rfl) (fun hc_169 => ?_) (fun hc_169 => ?_)
          · replace h := ifT hc_169 h
            refine jc_seq ?_
            refine jc_region ?_
            refine jo_f [(0, 0)] (by kernel_rfl) ?_
            refine jo_end (by kernel_rfl) ?_
            refine jx_then ?_
            refine jc_ret ?_
            refine jx_thenr ?_
            refine jx_inr ?_
            refine jx_thenr ?_
            refine jx_leaver (.inl (-1)) (Option.some.inj h).symm (fun e_170 => ?_)
            subst e_170
            refine jx_inr ?_
            refine jx_thenr ?_
            refine jx_thenr ?_
            obtain rfl := Option.some.inj hr_154
            exact jx_ret [] (.int .i64 (-1)) [] rfl (by kernel_rfl) (by kernel_rfl) (fun w hm => ⟨rfl, hm.pick [] (by kernel_rfl) (by kernel_rfl)⟩)
          · replace h := ifF hc_169 h
            refine jc_skip ?_
            refine jx_then ?_
            refine jc_region ?_
            refine jo_f [(0, 0), (0, 0), (0, 0)] (by kernel_rfl) ?_
            refine jo_end (by kernel_rfl) ?_
            refine jx_inn ?_
            refine jx_then ?_
            refine jc_region ?_
            refine jo_f [(0, 0), (0, 0), (0, 0)] (by kernel_rfl) ?_
            refine jo_end (by kernel_rfl) ?_
            exact jx_back ((w64 ((w64 ((w64 (i_3 + 1)) + 1)) + 1)), (w64 (i_4 + 1))) () (Option.some.inj h).symm trivial [] (by kernel_rfl) (by kernel_rfl) (by kernel_rfl)
    · replace h := ifF hc_157 h
      refine jc_exit ?_
      refine jx_thenx ?_
      refine jx_leave (.inr i_3) (Option.some.inj h).symm (fun e_171 => ?_)
      subst e_171
      refine jx_ine ?_
      exact jx_meet i_3 hr_154 (by kernel_rfl) [] (by kernel_rfl) (by kernel_rfl)
  · rintro i_1 h
    replace h : laws_heldWornPinS.k_2 i_1 = some r := h
    rw [laws_heldWornPinS.k_2] at h
    refine jx_then ?_
    refine jc_seq ?_
    refine jc_region ?_
    refine jo_f [(0, 0), (0, 0)] (by kernel_rfl) ?_
    refine jo_end (by kernel_rfl) ?_
    refine jx_then ?_
    refine jc_ret ?_
    obtain rfl := Option.some.inj h
    exact jx_ret [] (.int .i64 i_1) [] rfl (by kernel_rfl) (by kernel_rfl) (fun w hm => ⟨rfl, hm.pick [] (by kernel_rfl) (by kernel_rfl)⟩)

/-! ### laws.heldInt64S -/
noncomputable def laws_heldInt64S.k_2 (i_1 : Int) : Option (Int) := some i_1
noncomputable def laws_heldInt64S.l_5 (a0 : List Int) : (Int × Int) → Option ((Int × Int) ⊕ (Int ⊕ Int))
  | (i_3, i_4) => (if (decide (i_4 < (a0.length : Int))) = true then (ix a0 i_4).bind fun x_7 => (if (x_7 != i_3) = true then some (.inr (.inl (-1))) else some (.inl ((w64 (i_3 + 1)), (w64 (i_4 + 1))))) else some (.inr (.inr i_3)))
noncomputable def laws_heldInt64S (a0 : List Int) (k1 : Int) : Option (Int) := (loop (laws_heldInt64S.l_5 a0) (k1, 0)).bind fun t_6 => match t_6 with | .inl p => some p | .inr p => laws_heldInt64S.k_2 p
set_option maxRecDepth 100000 in
theorem laws_heldInt64S.calls (a0 : List Int) (k1 : Int) (w : World) (r : Int) (a0_a : Option Addr) (a0_an : Nat) (a0_c : Nat) (a0_h : Rw w a0_a 1 encI64 a0) (a0_hn : a0.length = a0_an) (h : laws_heldInt64S a0 k1 = some r) :
    Calls Tryz.prog 52 #[(.slice a0_a a0_an a0_c), (.int .i64 k1)] w fun e w' => ∃ v, e = .returned v ∧ (v = (.int .i64 r) ∧ Mem w [] [] w') := by
  subst a0_hn
  rw [laws_heldInt64S] at h
  refine enter (args := [(.slice a0_a a0.length a0_c), (.int .i64 k1)]) Tryz.func52 rfl Tryz.ntmps52 (by kernel_rfl) (L := []) (W := []) (Mem.start w) ?_
  refine jc_seq ?_
  refine jc_region ?_
  refine jo_f [(0, 0)] (by kernel_rfl) ?_
  refine jo_end (by kernel_rfl) ?_
  refine jx_then ?_
  refine jc_seq ?_
  refine jc_seq ?_
  refine jc_region ?_
  refine jo_f [(0, 0)] (by kernel_rfl) ?_
  refine jo_end (by kernel_rfl) ?_
  refine jx_then ?_
  refine jc_meet (fun (j : Int) => match j with | i_1 => laws_heldInt64S.k_2 i_1 = some r) (fun (j : Int) => match j with | i_1 => [(1, [], (.int .i64 i_1)), (4, [], (.int .i64 0))]) (fun (j : Int) => match j with | i_1 => []) ?_ ?_
  · refine jc_block ?_
    obtain ⟨t_6, ht_68, hr_60⟩ := bd h
    refine jc_loop (fun (s : Int × Int) (x : Unit) => match s, x with | ⟨i_3, i_4⟩, _ => True) (fun (s : Int × Int) (x : Unit) => match s, x with | ⟨i_3, i_4⟩, _ => [(0, [], (.slice a0_a a0.length a0_c)), (1, [], (.int .i64 i_3)), (4, [], (.int .i64 0)), (5, [], (.int .i64 i_4))]) (fun (s : Int × Int) (x : Unit) => match s, x with | ⟨i_3, i_4⟩, _ => []) ht_68 () trivial (by kernel_rfl) [] (by kernel_rfl) (by kernel_rfl) ?_
    rintro ⟨i_3, i_4⟩ _ y_61 _ h
    rw [laws_heldInt64S.l_5] at h
    refine jc_seq ?_
    refine jc_seq ?_
    refine jc_region ?_
    refine jo_f [(0, 0), (0, 0), (0, 0), (0, 0)] (by kernel_rfl) ?_
    refine jo_end (by kernel_rfl) ?_
    refine jx_then ?_
    refine jc_cond (decide (i_4 < (a0.length : Int))) (by kernel_rfl) (fun hc_63 => ?_) (fun hc_63 => ?_)
    · replace h := ifT hc_63 h
      refine jc_skip ?_
      refine jx_then ?_
      refine jc_seq ?_
      refine jc_block ?_
      refine jc_seq ?_
      refine jc_seq ?_
      refine jc_region ?_
      refine jo_f [(0, 0), (0, 0)] (by kernel_rfl) ?_
      obtain ⟨x_7, hx_64, h⟩ := bd h
      refine toO (by kernel_rfl) (p_idx 0 a0_a a0.length i_4 1 (by kernel_rfl) (by kernel_rfl) (ix_some hx_64).1 (ltn hx_64 rfl) (a0_h.sp hx_64) (jkO ?_))
      refine toO (by kernel_rfl) (p_ld 0 (aB a0_a) (aO a0_a + i_4.toNat * 1) false (encI64 x_7) (by kernel_rfl) (by kernel_rfl) (by kernel_rfl) (fun w hm => ((hm.exRow a0_h List.not_mem_nil).at hx_64)) (jkO ?_))
      refine jo_f [(0, 0), (0, 0)] (by kernel_rfl) ?_
      refine jo_end (by kernel_rfl) ?_
      refine jx_then ?_
      refine jc_cond (x_7 != i_3) (by kernel_rfl) (fun hc_65 => ?_) (fun hc_65 => ?_)
      · replace h := ifT hc_65 h
        refine jc_seq ?_
        refine jc_region ?_
        refine jo_f [(0, 0)] (by kernel_rfl) ?_
        refine jo_end (by kernel_rfl) ?_
        refine jx_then ?_
        refine jc_ret ?_
        refine jx_thenr ?_
        refine jx_inr ?_
        refine jx_thenr ?_
        refine jx_leaver (.inl (-1)) (Option.some.inj h).symm (fun e_66 => ?_)
        subst e_66
        refine jx_inr ?_
        refine jx_thenr ?_
        refine jx_thenr ?_
        obtain rfl := Option.some.inj hr_60
        exact jx_ret [] (.int .i64 (-1)) [] rfl (by kernel_rfl) (by kernel_rfl) (fun w hm => ⟨rfl, hm.pick [] (by kernel_rfl) (by kernel_rfl)⟩)
      · replace h := ifF hc_65 h
        refine jc_skip ?_
        refine jx_then ?_
        refine jc_region ?_
        refine jo_f [(0, 0), (0, 0), (0, 0)] (by kernel_rfl) ?_
        refine jo_end (by kernel_rfl) ?_
        refine jx_inn ?_
        refine jx_then ?_
        refine jc_region ?_
        refine jo_f [(0, 0), (0, 0), (0, 0)] (by kernel_rfl) ?_
        refine jo_end (by kernel_rfl) ?_
        exact jx_back ((w64 (i_3 + 1)), (w64 (i_4 + 1))) () (Option.some.inj h).symm trivial [] (by kernel_rfl) (by kernel_rfl) (by kernel_rfl)
    · replace h := ifF hc_63 h
      refine jc_exit ?_
      refine jx_thenx ?_
      refine jx_leave (.inr i_3) (Option.some.inj h).symm (fun e_67 => ?_)
      subst e_67
      refine jx_ine ?_
      exact jx_meet i_3 hr_60 (by kernel_rfl) [] (by kernel_rfl) (by kernel_rfl)
  · rintro i_1 h
    replace h : laws_heldInt64S.k_2 i_1 = some r := h
    rw [laws_heldInt64S.k_2] at h
    refine jx_then ?_
    refine jc_seq ?_
    refine jc_region ?_
    refine jo_f [(0, 0), (0, 0)] (by kernel_rfl) ?_
    refine jo_end (by kernel_rfl) ?_
    refine jx_then ?_
    refine jc_ret ?_
    obtain rfl := Option.some.inj h
    exact jx_ret [] (.int .i64 i_1) [] rfl (by kernel_rfl) (by kernel_rfl) (fun w hm => ⟨rfl, hm.pick [] (by kernel_rfl) (by kernel_rfl)⟩)

/-! ### laws.heldWear -/
noncomputable def laws_heldWear (a0 : GWear) (k1 : Int) : Option (Int) := (laws_heldWornPinS a0.fPins k1).bind fun t_1 => (if (decide (t_1 < 0)) = true then some (-1) else (laws_heldInt64S a0.fStrokes t_1).bind fun t_2 => (if (decide (t_2 < 0)) = true then some (-1) else some t_2))
set_option maxRecDepth 100000 in
theorem laws_heldWear.calls (a0 : GWear) (k1 : Int) (w : World) (r : Int) (a0_fPins_a : Option Addr) (a0_fPins_an : Nat) (a0_fPins_c : Nat) (a0_fPins_h : Rw w a0_fPins_a 3 encGWornPin a0.fPins) (a0_fPins_hn : a0.fPins.length = a0_fPins_an) (a0_fStrokes_a : Option Addr) (a0_fStrokes_an : Nat) (a0_fStrokes_c : Nat) (a0_fStrokes_h : Rw w a0_fStrokes_a 1 encI64 a0.fStrokes) (a0_fStrokes_hn : a0.fStrokes.length = a0_fStrokes_an) (h : laws_heldWear a0 k1 = some r) :
    Calls Tryz.prog 16 #[(.agg #[(.slice a0_fPins_a a0_fPins_an a0_fPins_c), (.slice a0_fStrokes_a a0_fStrokes_an a0_fStrokes_c)]), (.int .i64 k1)] w fun e w' => ∃ v, e = .returned v ∧ (v = (.int .i64 r) ∧ Mem w [] [] w') := by
  subst a0_fPins_hn a0_fStrokes_hn
  rw [laws_heldWear] at h
  refine enter (args := [(.agg #[(.slice a0_fPins_a a0.fPins.length a0_fPins_c), (.slice a0_fStrokes_a a0.fStrokes.length a0_fStrokes_c)]), (.int .i64 k1)]) Tryz.func16 rfl Tryz.ntmps16 (by kernel_rfl) (L := []) (W := []) (Mem.start w) ?_
  refine jc_seq ?_
  refine jc_region ?_
  refine toO (by kernel_rfl) (p_a 0 [0] (by kernel_rfl) (fun b => by kernel_rfl) (fun b_1 => jkO ?_))
  refine jo_f [(0, 0)] (by kernel_rfl) ?_
  refine jo_end (by kernel_rfl) ?_
  refine jx_then ?_
  refine jc_seq ?_
  refine jc_region ?_
  refine jo_f [(0, 0), (0, 0), (0, 0)] (by kernel_rfl) ?_
  obtain ⟨t_1, ht_2, h⟩ := bd h
  refine toO (by kernel_rfl) (p_call 0 51 #[(.slice a0_fPins_a a0.fPins.length a0_fPins_c), (.int .i64 k1)] (by kernel_rfl) (by kernel_rfl) (fun w hm => laws_heldWornPinS.calls a0.fPins k1 w _ a0_fPins_a a0.fPins.length a0_fPins_c (hm.exRow a0_fPins_h List.not_mem_nil) rfl ht_2) ?_)
  rintro w v w' hm ⟨rfl, hm'⟩
  refine ⟨_, hm.app hm', jkO ?_⟩
  clear hm hm'
  refine jo_f [(0, 0)] (by kernel_rfl) ?_
  refine jo_end (by kernel_rfl) ?_
  refine jx_then ?_
  refine jc_seq ?_
  refine jc_seq ?_
  refine jc_region ?_
  refine jo_f [(0, 0), (0, 0)] (by kernel_rfl) ?_
  refine jo_end (by kernel_rfl) ?_
  refine jx_then ?_
  refine jc_cond (decide (t_1 < 0)) (by kernel_rfl) (fun hc_4 => ?_) (fun hc_4 => ?_)
  · replace h := ifT hc_4 h
    refine jc_seq ?_
    refine jc_region ?_
    refine jo_f [(0, 0)] (by kernel_rfl) ?_
    refine jo_end (by kernel_rfl) ?_
    refine jx_then ?_
    refine jc_ret ?_
    refine jx_thenr ?_
    obtain rfl := Option.some.inj h
    exact jx_ret [] (.int .i64 (-1)) [] rfl (by kernel_rfl) (by kernel_rfl) (fun w hm => ⟨rfl, hm.pick [] (by kernel_rfl) (by kernel_rfl)⟩)
  · replace h := ifF hc_4 h
    refine jc_skip ?_
    refine jx_then ?_
    refine jc_seq ?_
    refine jc_region ?_
    refine jo_f [(0, 0), (0, 0), (0, 0)] (by kernel_rfl) ?_
    obtain ⟨t_2, ht_5, h⟩ := bd h
    refine toO (by kernel_rfl) (p_call 0 52 #[(.slice a0_fStrokes_a a0.fStrokes.length a0_fStrokes_c), (.int .i64 t_1)] (by kernel_rfl) (by kernel_rfl) (fun w hm => laws_heldInt64S.calls a0.fStrokes t_1 w _ a0_fStrokes_a a0.fStrokes.length a0_fStrokes_c (hm.exRow a0_fStrokes_h List.not_mem_nil) rfl ht_5) ?_)
    rintro w v w' hm ⟨rfl, hm'⟩
    refine ⟨_, hm.app hm', jkO ?_⟩
    clear hm hm'
    refine jo_f [(0, 0)] (by kernel_rfl) ?_
    refine jo_end (by kernel_rfl) ?_
    refine jx_then ?_
    refine jc_seq ?_
    refine jc_seq ?_
    refine jc_region ?_
    refine jo_f [(0, 0), (0, 0)] (by kernel_rfl) ?_
    refine jo_end (by kernel_rfl) ?_
    refine jx_then ?_
    refine jc_cond (decide (t_2 < 0)) (by kernel_rfl) (fun hc_7 => ?_) (fun hc_7 => ?_)
    · replace h := ifT hc_7 h
      refine jc_seq ?_
      refine jc_region ?_
      refine jo_f [(0, 0)] (by kernel_rfl) ?_
      refine jo_end (by kernel_rfl) ?_
      refine jx_then ?_
      refine jc_ret ?_
      refine jx_thenr ?_
      obtain rfl := Option.some.inj h
      exact jx_ret [] (.int .i64 (-1)) [] rfl (by kernel_rfl) (by kernel_rfl) (fun w hm => ⟨rfl, hm.pick [] (by kernel_rfl) (by kernel_rfl)⟩)
    · replace h := ifF hc_7 h
      refine jc_skip ?_
      refine jx_then ?_
      refine jc_seq ?_
      refine jc_region ?_
      refine jo_f [(0, 0), (0, 0)] (by kernel_rfl) ?_
      refine jo_end (by kernel_rfl) ?_
      refine jx_then ?_
      refine jc_ret ?_
      obtain rfl := Option.some.inj h
      exact jx_ret [] (.int .i64 t_2) [] rfl (by kernel_rfl) (by kernel_rfl) (fun w hm => ⟨rfl, hm.pick [] (by kernel_rfl) (by kernel_rfl)⟩)
end Go.Proofs.YtilackblefjgdaaGreat
