/- Functions of the program that the laws reach: a plain function each, and that the call comes to its answer if the plain function has one. Printed by a program. -/
import Derived.Test.YtplklknkkaeniaaGreatDoorT
import Derived.Test.YtplklknkkaeniaaGreatDoorM0
namespace Go.Proofs.YtplklknkkaeniaaGreatDoor
open Eng
set_option linter.unusedVariables false

set_option linter.unusedSectionVars false
variable [dsW : DrwS]

/-! ### slices.IndexFunc[[]impl.Hammer,impl.Hammer] -/
noncomputable def slices_IndexFunc_Hammer_at_impl_ValidFrame_1.k_1 : Option (Int) := some (-1)
noncomputable def slices_IndexFunc_Hammer_at_impl_ValidFrame_1.l_3 (s0 : List GHammer) (g1c0 : GFrame) : Int → Option ((Int) ⊕ (Int ⊕ Unit))
  | i_2 => (if (decide (i_2 < (s0.length : Int))) = true then (ix s0 i_2).bind fun x_5 => (impl_ValidFrame_1 x_5 g1c0).bind fun t_6 => (if t_6 = true then some (.inr (.inl i_2)) else some (.inl (w64 (i_2 + 1)))) else some (.inr (.inr ())))
noncomputable def slices_IndexFunc_Hammer_at_impl_ValidFrame_1 (s0 : List GHammer) (g1c0 : GFrame) : Option (Int) := (loop (slices_IndexFunc_Hammer_at_impl_ValidFrame_1.l_3 s0 g1c0) 0).bind fun t_4 => match t_4 with | .inl p => some p | .inr p => slices_IndexFunc_Hammer_at_impl_ValidFrame_1.k_1
set_option maxRecDepth 100000 in
theorem slices_IndexFunc_Hammer_at_impl_ValidFrame_1.calls (s0 : List GHammer) (g1c0 : GFrame) (w : World) (r : Int) (s0_a : Option Addr) (s0_an : Nat) (s0_c : Nat) (s0_h : Rw w s0_a 2 encGHammer s0) (s0_hn : s0.length = s0_an) (g1c0_fHammers_a : Option Addr) (g1c0_fHammers_an : Nat) (g1c0_fHammers_c : Nat) (g1c0_fHammers_h : Rw w g1c0_fHammers_a 2 encGHammer g1c0.fHammers) (g1c0_fHammers_hn : g1c0.fHammers.length = g1c0_fHammers_an) (g1c0_b : Nat) (hm0 : Mem w (bs [some g1c0_b]) [⟨some g1c0_b, 27, [(.int .i16 g1c0.fSteps), (.slice g1c0_fHammers_a g1c0_fHammers_an g1c0_fHammers_c)]⟩] w) (s0_ha : s0 ≠ [] → aB s0_a ∉ bs [some g1c0_b]) (g1c0_fHammers_ha : g1c0.fHammers ≠ [] → aB g1c0_fHammers_a ∉ bs [some g1c0_b]) (h : slices_IndexFunc_Hammer_at_impl_ValidFrame_1 s0 g1c0 = some r) :
    Calls Tryz.prog 114 #[(.slice s0_a s0_an s0_c), (.func (.func 84) #[] #[(.pointer (some ⟨g1c0_b, 0, none⟩))])] w fun e w' => ∃ v, e = .returned v ∧ (v = (.int .i64 r) ∧ Mem w (bs [some g1c0_b]) [⟨some g1c0_b, 27, [(.int .i16 g1c0.fSteps), (.slice g1c0_fHammers_a g1c0_fHammers_an g1c0_fHammers_c)]⟩] w') := by
  subst s0_hn g1c0_fHammers_hn
  rw [slices_IndexFunc_Hammer_at_impl_ValidFrame_1] at h
  refine enter (args := [(.slice s0_a s0.length s0_c), (.func (.func 84) #[] #[(.pointer (some ⟨g1c0_b, 0, none⟩))])]) Tryz.func114 rfl Tryz.ntmps114 (by kernel_rfl) (L := [⟨some g1c0_b, 27, [(.int .i16 g1c0.fSteps), (.slice g1c0_fHammers_a g1c0.fHammers.length g1c0_fHammers_c)]⟩]) (W := bs [some g1c0_b]) hm0 ?_
  refine jc_seq ?_
  refine jc_region ?_
  refine jo_f [(0, 0)] (by kernel_rfl) ?_
  refine jo_end (by kernel_rfl) ?_
  refine jx_then ?_
  refine jc_seq ?_
  refine jc_seq ?_
  refine jc_region ?_
  refine jo_f [(0, 0), (0, 0), (0, 0)] (by kernel_rfl) ?_
  refine jo_end (by kernel_rfl) ?_
  refine jx_then ?_
  refine jc_meet (fun (_ : Unit) => slices_IndexFunc_Hammer_at_impl_ValidFrame_1.k_1 = some r) (fun (_ : Unit) => [(4, [], (.int .i64 0))]) (fun (_ : Unit) => [⟨some g1c0_b, 27, [(.int .i16 g1c0.fSteps), (.slice g1c0_fHammers_a g1c0.fHammers.length g1c0_fHammers_c)]⟩]) ?_ ?_
  · refine jc_block ?_
    obtain ⟨t_4, ht_40, hr_31⟩ := bd h
    refine jc_loop (fun (s : Int) (x : Unit) => match s, x with | i_2, _ => True) (fun (s : Int) (x : Unit) => match s, x with | i_2, _ => [(0, [], (.slice s0_a s0.length s0_c)), (1, [], (.func (.func 84) #[] #[(.pointer (some ⟨g1c0_b, 0, none⟩))])), (4, [], (.int .i64 0)), (7, [], (.int .i64 (s0.length : Int))), (8, [], (.int .i64 i_2))]) (fun (s : Int) (x : Unit) => match s, x with | i_2, _ => [⟨some g1c0_b, 27, [(.int .i16 g1c0.fSteps), (.slice g1c0_fHammers_a g1c0.fHammers.length g1c0_fHammers_c)]⟩]) ht_40 () trivial (by kernel_rfl) [0] (by kernel_rfl) (by kernel_rfl) ?_
    rintro i_2 _ y_32 _ h
    rw [slices_IndexFunc_Hammer_at_impl_ValidFrame_1.l_3] at h
    refine jc_seq ?_
    refine jc_region ?_
    refine jo_f [(0, 0)] (by kernel_rfl) ?_
    refine jo_end (by kernel_rfl) ?_
    refine jx_then ?_
    refine jc_seq ?_
    refine jc_cond (decide (i_2 < (s0.length : Int))) (by kernel_rfl) (fun hc_34 => ?_) (fun hc_34 => ?_)
    · replace h := ifT hc_34 h
      refine jc_skip ?_
      refine jx_then ?_
      refine jc_seq ?_
      refine jc_block ?_
      refine jc_seq ?_
      refine jc_region ?_
      refine jo_f [(0, 0), (0, 0)] (by kernel_rfl) ?_
      refine jo_end (by kernel_rfl) ?_
      refine jx_then ?_
      refine jc_seq ?_
      refine jc_region ?_
      refine jo_f [(0, 0), (0, 0), (0, 0)] (by kernel_rfl) ?_
      obtain ⟨x_5, hx_35, h⟩ := bd h
      refine toO (by kernel_rfl) (p_idx 0 s0_a s0.length i_2 2 (by kernel_rfl) (by kernel_rfl) (ix_some hx_35).1 (ltn hx_35 rfl) (s0_h.sp hx_35) (jkO ?_))
      refine toO (by kernel_rfl) (p_ld 0 (aB s0_a) (aO s0_a + i_2.toNat * 2) true (encGHammer x_5) (by kernel_rfl) (by kernel_rfl) (by kernel_rfl) (fun w hm => ((hm.exRowW s0_h s0_ha).at hx_35)) (jkO ?_))
      obtain ⟨t_6, ht_36, h⟩ := bd h
      refine toO (by kernel_rfl) (p_call 0 84 #[(.agg #[(.int .i8 x_5.fPitch), (.int .i8 x_5.fReady)]), (.pointer (some ⟨g1c0_b, 0, none⟩))] (by kernel_rfl) (by kernel_rfl) (fun w hm => impl_ValidFrame_1.calls x_5 g1c0 w _ g1c0_fHammers_a g1c0.fHammers.length g1c0_fHammers_c (hm.exRowW g1c0_fHammers_h g1c0_fHammers_ha) rfl g1c0_b (hm.pass (N := [⟨some g1c0_b, 27, [(.int .i16 g1c0.fSteps), (.slice g1c0_fHammers_a g1c0.fHammers.length g1c0_fHammers_c)]⟩]) [0] (by kernel_rfl) (by kernel_rfl)) (hm.exApart (N := [⟨some g1c0_b, 27, [(.int .i16 g1c0.fSteps), (.slice g1c0_fHammers_a g1c0.fHammers.length g1c0_fHammers_c)]⟩]) g1c0_fHammers_h g1c0_fHammers_ha [0] (by kernel_rfl)) ht_36) ?_)
      rintro w v w' hm ⟨rfl, hm'⟩
      refine ⟨_, hm.appW (ps := [(0, ⟨some g1c0_b, 27, [(.int .i16 g1c0.fSteps), (.slice g1c0_fHammers_a g1c0.fHammers.length g1c0_fHammers_c)]⟩)]) (N := []) hm' (by kernel_rfl) (by kernel_rfl), jkO ?_⟩
      clear hm hm'
      refine jo_end (by kernel_rfl) ?_
      refine jx_then ?_
      refine jc_cond t_6 (by kernel_rfl) (fun hc_37 => ?_) (fun hc_37 => ?_)
      · replace h := ifT hc_37 h
        refine jc_seq ?_
        refine jc_region ?_
        refine jo_f [(0, 0), (0, 0)] (by kernel_rfl) ?_
        refine jo_end (by kernel_rfl) ?_
        refine jx_then ?_
        refine jc_ret ?_
        refine jx_inr ?_
        refine jx_thenr ?_
        refine jx_leaver (.inl i_2) (Option.some.inj h).symm (fun e_38 => ?_)
        subst e_38
        refine jx_inr ?_
        refine jx_thenr ?_
        refine jx_thenr ?_
        obtain rfl := Option.some.inj hr_31
        exact jx_ret [] (.int .i64 i_2) [] rfl (by kernel_rfl) (by kernel_rfl) (fun w hm => ⟨rfl, hm.pick [0] (by kernel_rfl) (by kernel_rfl)⟩)
      · replace h := ifF hc_37 h
        refine jc_skip ?_
        refine jx_inn ?_
        refine jx_then ?_
        refine jc_region ?_
        refine jo_f [(0, 0), (0, 0)] (by kernel_rfl) ?_
        refine jo_end (by kernel_rfl) ?_
        exact jx_back (w64 (i_2 + 1)) () (Option.some.inj h).symm trivial [0] (by kernel_rfl) (by kernel_rfl) (by kernel_rfl)
    · replace h := ifF hc_34 h
      refine jc_exit ?_
      refine jx_thenx ?_
      refine jx_leave (.inr ()) (Option.some.inj h).symm (fun e_39 => ?_)
      subst e_39
      refine jx_ine ?_
      exact jx_meet () hr_31 (by kernel_rfl) [0] (by kernel_rfl) (by kernel_rfl)
  · rintro _ h
    replace h : slices_IndexFunc_Hammer_at_impl_ValidFrame_1.k_1 = some r := h
    rw [slices_IndexFunc_Hammer_at_impl_ValidFrame_1.k_1] at h
    refine jx_then ?_
    refine jc_seq ?_
    refine jc_region ?_
    refine jo_f [(0, 0)] (by kernel_rfl) ?_
    refine jo_end (by kernel_rfl) ?_
    refine jx_then ?_
    refine jc_ret ?_
    obtain rfl := Option.some.inj h
    exact jx_ret [] (.int .i64 (-1)) [] rfl (by kernel_rfl) (by kernel_rfl) (fun w hm => ⟨rfl, hm.pick [0] (by kernel_rfl) (by kernel_rfl)⟩)

/-! ### slices.ContainsFunc[[]impl.Hammer,impl.Hammer] -/
noncomputable def slices_ContainsFunc_Hammer_at_impl_ValidFrame_1 (s0 : List GHammer) (g1c0 : GFrame) : Option (Bool) := (slices_IndexFunc_Hammer_at_impl_ValidFrame_1 s0 g1c0).bind fun t_1 => some (decide (t_1 ≥ 0))
set_option maxRecDepth 100000 in
theorem slices_ContainsFunc_Hammer_at_impl_ValidFrame_1.calls (s0 : List GHammer) (g1c0 : GFrame) (w : World) (r : Bool) (s0_a : Option Addr) (s0_an : Nat) (s0_c : Nat) (s0_h : Rw w s0_a 2 encGHammer s0) (s0_hn : s0.length = s0_an) (g1c0_fHammers_a : Option Addr) (g1c0_fHammers_an : Nat) (g1c0_fHammers_c : Nat) (g1c0_fHammers_h : Rw w g1c0_fHammers_a 2 encGHammer g1c0.fHammers) (g1c0_fHammers_hn : g1c0.fHammers.length = g1c0_fHammers_an) (g1c0_b : Nat) (hm0 : Mem w (bs [some g1c0_b]) [⟨some g1c0_b, 27, [(.int .i16 g1c0.fSteps), (.slice g1c0_fHammers_a g1c0_fHammers_an g1c0_fHammers_c)]⟩] w) (s0_ha : s0 ≠ [] → aB s0_a ∉ bs [some g1c0_b]) (g1c0_fHammers_ha : g1c0.fHammers ≠ [] → aB g1c0_fHammers_a ∉ bs [some g1c0_b]) (h : slices_ContainsFunc_Hammer_at_impl_ValidFrame_1 s0 g1c0 = some r) :
    Calls Tryz.prog 83 #[(.slice s0_a s0_an s0_c), (.func (.func 84) #[] #[(.pointer (some ⟨g1c0_b, 0, none⟩))])] w fun e w' => ∃ v, e = .returned v ∧ (v = (.bool r) ∧ Mem w (bs [some g1c0_b]) [⟨some g1c0_b, 27, [(.int .i16 g1c0.fSteps), (.slice g1c0_fHammers_a g1c0_fHammers_an g1c0_fHammers_c)]⟩] w') := by
  subst s0_hn g1c0_fHammers_hn
  rw [slices_ContainsFunc_Hammer_at_impl_ValidFrame_1] at h
  refine enter (args := [(.slice s0_a s0.length s0_c), (.func (.func 84) #[] #[(.pointer (some ⟨g1c0_b, 0, none⟩))])]) Tryz.func83 rfl Tryz.ntmps83 (by kernel_rfl) (L := [⟨some g1c0_b, 27, [(.int .i16 g1c0.fSteps), (.slice g1c0_fHammers_a g1c0.fHammers.length g1c0_fHammers_c)]⟩]) (W := bs [some g1c0_b]) hm0 ?_
  refine jc_seq ?_
  refine jc_region ?_
  refine jo_f [(0, 0)] (by kernel_rfl) ?_
  refine jo_end (by kernel_rfl) ?_
  refine jx_then ?_
  refine jc_seq ?_
  refine jc_region ?_
  refine jo_f [(0, 0), (0, 0)] (by kernel_rfl) ?_
  obtain ⟨t_1, ht_1, h⟩ := bd h
  refine toO (by kernel_rfl) (p_call 0 114 #[(.slice s0_a s0.length s0_c), (.func (.func 84) #[] #[(.pointer (some ⟨g1c0_b, 0, none⟩))])] (by kernel_rfl) (by kernel_rfl) (fun w hm => slices_IndexFunc_Hammer_at_impl_ValidFrame_1.calls s0 g1c0 w _ s0_a s0.length s0_c (hm.exRowW s0_h s0_ha) rfl g1c0_fHammers_a g1c0.fHammers.length g1c0_fHammers_c (hm.exRowW g1c0_fHammers_h g1c0_fHammers_ha) rfl g1c0_b (hm.pass (N := [⟨some g1c0_b, 27, [(.int .i16 g1c0.fSteps), (.slice g1c0_fHammers_a g1c0.fHammers.length g1c0_fHammers_c)]⟩]) [0] (by kernel_rfl) (by kernel_rfl)) (hm.exApart (N := [⟨some g1c0_b, 27, [(.int .i16 g1c0.fSteps), (.slice g1c0_fHammers_a g1c0.fHammers.length g1c0_fHammers_c)]⟩]) s0_h s0_ha [0] (by kernel_rfl)) (hm.exApart (N := [⟨some g1c0_b, 27, [(.int .i16 g1c0.fSteps), (.slice g1c0_fHammers_a g1c0.fHammers.length g1c0_fHammers_c)]⟩]) g1c0_fHammers_h g1c0_fHammers_ha [0] (by kernel_rfl)) ht_1) ?_)
  rintro w v w' hm ⟨rfl, hm'⟩
  refine ⟨_, hm.appW (ps := [(0, ⟨some g1c0_b, 27, [(.int .i16 g1c0.fSteps), (.slice g1c0_fHammers_a g1c0.fHammers.length g1c0_fHammers_c)]⟩)]) (N := []) hm' (by kernel_rfl) (by kernel_rfl), jkO ?_⟩
  clear hm hm'
  refine jo_f [(0, 0), (0, 0)] (by kernel_rfl) ?_
  refine jo_end (by kernel_rfl) ?_
  refine jx_then ?_
  refine jc_ret ?_
  obtain rfl := Option.some.inj h
  exact jx_ret [] (.bool (decide (t_1 ≥ 0))) [] rfl (by kernel_rfl) (by kernel_rfl) (fun w hm => ⟨rfl, hm.pick [0] (by kernel_rfl) (by kernel_rfl)⟩)

/-! ### impl.ValidFrame -/
noncomputable def impl_ValidFrame (f0 : GFrame) : Option (Bool) := (impl_within (w64 f0.fSteps) 2 96).bind fun t_1 => (if t_1 = true then (impl_size_Hammer f0.fHammers).bind fun t_2 => (impl_within t_2 1 24).bind fun t_3 => (if t_3 = true then (slices_ContainsFunc_Hammer_at_impl_ValidFrame_1 f0.fHammers f0).bind fun t_4 => some (!t_4) else some false) else some false)
set_option maxRecDepth 100000 in
theorem impl_ValidFrame.calls (f0 : GFrame) (w : World) (r : Bool) (f0_fHammers_a : Option Addr) (f0_fHammers_an : Nat) (f0_fHammers_c : Nat) (f0_fHammers_h : Rw w f0_fHammers_a 2 encGHammer f0.fHammers) (f0_fHammers_hn : f0.fHammers.length = f0_fHammers_an) (h : impl_ValidFrame f0 = some r) :
    Calls Tryz.prog 45 #[(.agg #[(.int .i16 f0.fSteps), (.slice f0_fHammers_a f0_fHammers_an f0_fHammers_c)])] w fun e w' => ∃ v, e = .returned v ∧ (v = (.bool r) ∧ Mem w [] [] w') := by
  subst f0_fHammers_hn
  rw [impl_ValidFrame] at h
  refine enter (args := [(.agg #[(.int .i16 f0.fSteps), (.slice f0_fHammers_a f0.fHammers.length f0_fHammers_c)])]) Tryz.func45 rfl Tryz.ntmps45 (by kernel_rfl) (L := []) (W := []) (Mem.start w) ?_
  refine jc_seq ?_
  refine jc_region ?_
  refine toO (by kernel_rfl) (p_a 0 [0] (by kernel_rfl) (fun b => by kernel_rfl) (fun b_1 => jkO ?_))
  refine jo_f [(0, 0)] (by kernel_rfl) ?_
  refine jo_end (by kernel_rfl) ?_
  refine jx_then ?_
  refine jc_seq ?_
  refine jc_region ?_
  refine jo_f [(0, 0), (0, 0), (0, 0)] (by kernel_rfl) ?_
  obtain ⟨t_1, ht_2, h⟩ := bd h
  refine toO (by kernel_rfl) (p_call 0 50 #[(.int .i64 (w64 f0.fSteps)), (.int .i64 2), (.int .i64 96)] (by kernel_rfl) (by kernel_rfl) (fun w hm => impl_within.calls (w64 f0.fSteps) 2 96 w _ ht_2) ?_)
  rintro w v w' hm ⟨rfl, hm'⟩
  refine ⟨_, hm.app hm', jkO ?_⟩
  clear hm hm'
  refine jo_f [(0, 0), (0, 1), (0, 1)] (by kernel_rfl) ?_
  refine jo_split 7 t_1 (by kernel_rfl) (fun hc_3 => ?_) (fun hc_3 => ?_)
  · replace h := ifT hc_3 h
    obtain ⟨t_2, ht_4, h⟩ := bd h
    refine toO (by kernel_rfl) (p_call 2 82 #[(.slice f0_fHammers_a f0.fHammers.length f0_fHammers_c)] (by kernel_rfl) (by kernel_rfl) (fun w hm => impl_size_Hammer.calls f0.fHammers w _ f0_fHammers_a f0.fHammers.length f0_fHammers_c (hm.exRow f0_fHammers_h List.not_mem_nil) rfl ht_4) ?_)
    rintro w v w' hm ⟨rfl, hm'⟩
    refine ⟨_, hm.app hm', jkO ?_⟩
    clear hm hm'
    obtain ⟨t_3, ht_5, h⟩ := bd h
    refine toO (by kernel_rfl) (p_call 2 50 #[(.int .i64 t_2), (.int .i64 1), (.int .i64 24)] (by kernel_rfl) (by kernel_rfl) (fun w hm => impl_within.calls t_2 1 24 w _ ht_5) ?_)
    rintro w v w' hm ⟨rfl, hm'⟩
    refine ⟨_, hm.app hm', jkO ?_⟩
    clear hm hm'
    refine jo_f [(0, 4), (0, 0), (0, 1), (0, 1), (0, 1)] (by kernel_rfl) ?_
    refine jo_split 13 t_3 (by kernel_rfl) (fun hc_6 => ?_) (fun hc_6 => ?_)
    · replace h := ifT hc_6 h
      obtain ⟨t_4, ht_7, h⟩ := bd h
      refine toO (by kernel_rfl) (p_call 2 83 #[(.slice f0_fHammers_a f0.fHammers.length f0_fHammers_c), (.func (.func 84) #[] #[(.pointer (some ⟨b_1, 0, none⟩))])] (by kernel_rfl) (by kernel_rfl) (fun w hm => slices_ContainsFunc_Hammer_at_impl_ValidFrame_1.calls f0.fHammers f0 w _ f0_fHammers_a f0.fHammers.length f0_fHammers_c (hm.exRow f0_fHammers_h List.not_mem_nil) rfl f0_fHammers_a f0.fHammers.length f0_fHammers_c (hm.exRow f0_fHammers_h List.not_mem_nil) rfl b_1 (hm.pass (N := [⟨some b_1, 27, [(.int .i16 f0.fSteps), (.slice f0_fHammers_a f0.fHammers.length f0_fHammers_c)]⟩]) [0] (by kernel_rfl) (by kernel_rfl)) (hm.exApart (N := [⟨some b_1, 27, [(.int .i16 f0.fSteps), (.slice f0_fHammers_a f0.fHammers.length f0_fHammers_c)]⟩]) f0_fHammers_h (fun _ => List.not_mem_nil) [0] (by kernel_rfl)) (hm.exApart (N := [⟨some b_1, 27, [(.int .i16 f0.fSteps), (.slice f0_fHammers_a f0.fHammers.length f0_fHammers_c)]⟩]) f0_fHammers_h (fun _ => List.not_mem_nil) [0] (by kernel_rfl)) ht_7) ?_)
      rintro w v w' hm ⟨rfl, hm'⟩
      refine ⟨_, hm.appW (ps := [(0, ⟨some b_1, 27, [(.int .i16 f0.fSteps), (.slice f0_fHammers_a f0.fHammers.length f0_fHammers_c)]⟩)]) (N := []) hm' (by kernel_rfl) (by kernel_rfl), jkO ?_⟩
      clear hm hm'
      refine jo_f [(0, 2), (0, 4), (0, 0)] (by kernel_rfl) ?_
      refine jo_end (by kernel_rfl) ?_
      refine jx_then ?_
      refine jc_ret ?_
      obtain rfl := Option.some.inj h
      exact jx_ret [] (.bool (!t_4)) [] rfl (by kernel_rfl) (by kernel_rfl) (fun w hm => ⟨rfl, hm.pick [] (by kernel_rfl) (by kernel_rfl)⟩)
    · replace h := ifF hc_6 h
      refine jo_f [(0, 3), (0, 3), (0, 5), (0, 0)] (by kernel_rfl) ?_
      refine jo_end (by kernel_rfl) ?_
      refine jx_then ?_
      refine jc_ret ?_
      obtain rfl := Option.some.inj h
      exact jx_ret [] (.bool false) [] rfl (by kernel_rfl) (by kernel_rfl) (fun w hm => ⟨rfl, hm.pick [] (by kernel_rfl) (by kernel_rfl)⟩)
  · replace h := ifF hc_3 h
    refine jo_f [(0, 3), (0, 3), (0, 5), (0, 0), (0, 3), (0, 3), (0, 3), (0, 3), (0, 3), (0, 5), (0, 0)] (by kernel_rfl) ?_
    refine jo_end (by kernel_rfl) ?_
    refine jx_then ?_
    refine jc_ret ?_
    obtain rfl := Option.some.inj h
    exact jx_ret [] (.bool false) [] rfl (by kernel_rfl) (by kernel_rfl) (fun w hm => ⟨rfl, hm.pick [] (by kernel_rfl) (by kernel_rfl)⟩)

/-! ### impl.isNote -/
noncomputable def impl_isNote (n0 : GNote) : Option (Bool) := (impl_within (w64 n0.fAt) 0 199).bind fun t_1 => (if t_1 = true then (impl_isPitch (w64 n0.fPitch)).bind fun t_2 => some t_2 else some false)
set_option maxRecDepth 100000 in
theorem impl_isNote.calls (n0 : GNote) (w : World) (r : Bool) (h : impl_isNote n0 = some r) :
    Calls Tryz.prog 46 #[(.agg #[(.int .i16 n0.fAt), (.int .i8 n0.fPitch)])] w fun e w' => ∃ v, e = .returned v ∧ (v = (.bool r) ∧ Mem w [] [] w') := by
  rw [impl_isNote] at h
  refine enter (args := [(.agg #[(.int .i16 n0.fAt), (.int .i8 n0.fPitch)])]) Tryz.func46 rfl Tryz.ntmps46 (by kernel_rfl) (L := []) (W := []) (Mem.start w) ?_
  refine jc_seq ?_
  refine jc_region ?_
  refine toO (by kernel_rfl) (p_a 0 [0] (by kernel_rfl) (fun b => by kernel_rfl) (fun b_1 => jkO ?_))
  refine jo_f [(0, 0)] (by kernel_rfl) ?_
  refine jo_end (by kernel_rfl) ?_
  refine jx_then ?_
  refine jc_seq ?_
  refine jc_region ?_
  refine jo_f [(0, 0), (0, 0), (0, 0)] (by kernel_rfl) ?_
  obtain ⟨t_1, ht_2, h⟩ := bd h
  refine toO (by kernel_rfl) (p_call 0 50 #[(.int .i64 (w64 n0.fAt)), (.int .i64 0), (.int .i64 199)] (by kernel_rfl) (by kernel_rfl) (fun w hm => impl_within.calls (w64 n0.fAt) 0 199 w _ ht_2) ?_)
  rintro w v w' hm ⟨rfl, hm'⟩
  refine ⟨_, hm.app hm', jkO ?_⟩
  clear hm hm'
  refine jo_f [(0, 0), (0, 1), (0, 1), (0, 1)] (by kernel_rfl) ?_
  refine jo_split 7 t_1 (by kernel_rfl) (fun hc_3 => ?_) (fun hc_3 => ?_)
  · replace h := ifT hc_3 h
    obtain ⟨t_2, ht_4, h⟩ := bd h
    refine toO (by kernel_rfl) (p_call 2 85 #[(.int .i64 (w64 n0.fPitch))] (by kernel_rfl) (by kernel_rfl) (fun w hm => impl_isPitch.calls (w64 n0.fPitch) w _ ht_4) ?_)
    rintro w v w' hm ⟨rfl, hm'⟩
    refine ⟨_, hm.app hm', jkO ?_⟩
    clear hm hm'
    refine jo_f [(0, 4), (0, 0)] (by kernel_rfl) ?_
    refine jo_end (by kernel_rfl) ?_
    refine jx_then ?_
    refine jc_ret ?_
    obtain rfl := Option.some.inj h
    exact jx_ret [] (.bool t_2) [] rfl (by kernel_rfl) (by kernel_rfl) (fun w hm => ⟨rfl, hm.pick [] (by kernel_rfl) (by kernel_rfl)⟩)
  · replace h := ifF hc_3 h
    refine jo_f [(0, 3), (0, 5), (0, 0)] (by kernel_rfl) ?_
    refine jo_end (by kernel_rfl) ?_
    refine jx_then ?_
    refine jc_ret ?_
    obtain rfl := Option.some.inj h
    exact jx_ret [] (.bool false) [] rfl (by kernel_rfl) (by kernel_rfl) (fun w hm => ⟨rfl, hm.pick [] (by kernel_rfl) (by kernel_rfl)⟩)

/-! ### cmp.isNaN[int16] -/
noncomputable def cmp_isNaN_int16 (x0 : Int) : Option (Bool) := some (x0 != x0)
set_option maxRecDepth 100000 in
theorem cmp_isNaN_int16.calls (x0 : Int) (w : World) (r : Bool) (h : cmp_isNaN_int16 x0 = some r) :
    Calls Tryz.prog 169 #[(.int .i16 x0)] w fun e w' => ∃ v, e = .returned v ∧ (v = (.bool r) ∧ Mem w [] [] w') := by
  rw [cmp_isNaN_int16] at h
  refine enter (args := [(.int .i16 x0)]) Tryz.func169 rfl Tryz.ntmps169 (by kernel_rfl) (L := []) (W := []) (Mem.start w) ?_
  refine jc_seq ?_
  refine jc_region ?_
  refine jo_f [(0, 0)] (by kernel_rfl) ?_
  refine jo_end (by kernel_rfl) ?_
  refine jx_then ?_
  refine jc_seq ?_
  refine jc_region ?_
  refine jo_f [(0, 0), (0, 0), (0, 0), (0, 0)] (by kernel_rfl) ?_
  refine jo_end (by kernel_rfl) ?_
  refine jx_then ?_
  refine jc_ret ?_
  obtain rfl := Option.some.inj h
  exact jx_ret [] (.bool (x0 != x0)) [] rfl (by kernel_rfl) (by kernel_rfl) (fun w hm => ⟨rfl, hm.pick [] (by kernel_rfl) (by kernel_rfl)⟩)

/-! ### cmp.Compare[int16] -/
noncomputable def cmp_Compare_int16 (x0 : Int) (y1 : Int) : Option (Int) := (cmp_isNaN_int16 x0).bind fun t_1 => (cmp_isNaN_int16 y1).bind fun t_2 => (if t_1 = true then (if t_2 = true then some 0 else some (-1)) else (if t_2 = true then some 1 else (if (decide (x0 < y1)) = true then some (-1) else (if (decide (x0 > y1)) = true then some 1 else some 0))))
set_option maxRecDepth 100000 in
theorem cmp_Compare_int16.calls (x0 : Int) (y1 : Int) (w : World) (r : Int) (h : cmp_Compare_int16 x0 y1 = some r) :
    Calls Tryz.prog 142 #[(.int .i16 x0), (.int .i16 y1)] w fun e w' => ∃ v, e = .returned v ∧ (v = (.int .i64 r) ∧ Mem w [] [] w') := by
  rw [cmp_Compare_int16] at h
  refine enter (args := [(.int .i16 x0), (.int .i16 y1)]) Tryz.func142 rfl Tryz.ntmps142 (by kernel_rfl) (L := []) (W := []) (Mem.start w) ?_
  refine jc_seq ?_
  refine jc_region ?_
  refine jo_f [(0, 0)] (by kernel_rfl) ?_
  refine jo_end (by kernel_rfl) ?_
  refine jx_then ?_
  refine jc_seq ?_
  refine jc_region ?_
  refine jo_f [(0, 0)] (by kernel_rfl) ?_
  obtain ⟨t_1, ht_1, h⟩ := bd h
  refine toO (by kernel_rfl) (p_call 0 169 #[(.int .i16 x0)] (by kernel_rfl) (by kernel_rfl) (fun w hm => cmp_isNaN_int16.calls x0 w _ ht_1) ?_)
  rintro w v w' hm ⟨rfl, hm'⟩
  refine ⟨_, hm.app hm', jkO ?_⟩
  clear hm hm'
  refine jo_f [(0, 0)] (by kernel_rfl) ?_
  refine jo_end (by kernel_rfl) ?_
  refine jx_then ?_
  refine jc_seq ?_
  refine jc_region ?_
  refine jo_f [(0, 0)] (by kernel_rfl) ?_
  obtain ⟨t_2, ht_2, h⟩ := bd h
  refine toO (by kernel_rfl) (p_call 0 169 #[(.int .i16 y1)] (by kernel_rfl) (by kernel_rfl) (fun w hm => cmp_isNaN_int16.calls y1 w _ ht_2) ?_)
  rintro w v w' hm ⟨rfl, hm'⟩
  refine ⟨_, hm.app hm', jkO ?_⟩
  clear hm hm'
  refine jo_f [(0, 0)] (by kernel_rfl) ?_
  refine jo_end (by kernel_rfl) ?_
  refine jx_then ?_
  refine jc_seq ?_
  refine jc_seq ?_
  refine jc_region ?_
  refine jo_f [(0, 0)] (by kernel_rfl) ?_
  refine jo_end (by kernel_rfl) ?_
  refine jx_then ?_
  refine jc_cond t_1 (by kernel_rfl) (fun hc_5 => ?_) (fun hc_5 => ?_)
  · replace h := ifT hc_5 h
    refine jc_seq ?_
    refine jc_seq ?_
    refine jc_region ?_
    refine jo_f [(0, 0)] (by kernel_rfl) ?_
    refine jo_end (by kernel_rfl) ?_
    refine jx_then ?_
    refine jc_cond t_2 (by kernel_rfl) (fun hc_6 => ?_) (fun hc_6 => ?_)
    · replace h := ifT hc_6 h
      refine jc_seq ?_
      refine jc_region ?_
      refine jo_f [(0, 0)] (by kernel_rfl) ?_
      refine jo_end (by kernel_rfl) ?_
      refine jx_then ?_
      refine jc_ret ?_
      refine jx_thenr ?_
      refine jx_thenr ?_
      obtain rfl := Option.some.inj h
      exact jx_ret [] (.int .i64 0) [] rfl (by kernel_rfl) (by kernel_rfl) (fun w hm => ⟨rfl, hm.pick [] (by kernel_rfl) (by kernel_rfl)⟩)
    · replace h := ifF hc_6 h
      refine jc_skip ?_
      refine jx_then ?_
      refine jc_seq ?_
      refine jc_region ?_
      refine jo_f [(0, 0)] (by kernel_rfl) ?_
      refine jo_end (by kernel_rfl) ?_
      refine jx_then ?_
      refine jc_ret ?_
      refine jx_thenr ?_
      obtain rfl := Option.some.inj h
      exact jx_ret [] (.int .i64 (-1)) [] rfl (by kernel_rfl) (by kernel_rfl) (fun w hm => ⟨rfl, hm.pick [] (by kernel_rfl) (by kernel_rfl)⟩)
  · replace h := ifF hc_5 h
    refine jc_skip ?_
    refine jx_then ?_
    refine jc_seq ?_
    refine jc_seq ?_
    refine jc_region ?_
    refine jo_f [(0, 0)] (by kernel_rfl) ?_
    refine jo_end (by kernel_rfl) ?_
    refine jx_then ?_
    refine jc_cond t_2 (by kernel_rfl) (fun hc_8 => ?_) (fun hc_8 => ?_)
    · replace h := ifT hc_8 h
      refine jc_seq ?_
      refine jc_region ?_
      refine jo_f [(0, 0)] (by kernel_rfl) ?_
      refine jo_end (by kernel_rfl) ?_
      refine jx_then ?_
      refine jc_ret ?_
      refine jx_thenr ?_
      obtain rfl := Option.some.inj h
      exact jx_ret [] (.int .i64 1) [] rfl (by kernel_rfl) (by kernel_rfl) (fun w hm => ⟨rfl, hm.pick [] (by kernel_rfl) (by kernel_rfl)⟩)
    · replace h := ifF hc_8 h
      refine jc_skip ?_
      refine jx_then ?_
      refine jc_seq ?_
      refine jc_seq ?_
      refine jc_region ?_
      refine jo_f [(0, 0), (0, 0), (0, 0)] (by kernel_rfl) ?_
      refine jo_end (by kernel_rfl) ?_
      refine jx_then ?_
      refine jc_cond (decide (x0 < y1)) (by kernel_rfl) (fun hc_10 => ?_) (fun hc_10 => ?_)
      · replace h := ifT hc_10 h
        refine jc_seq ?_
        refine jc_region ?_
        refine jo_f [(0, 0)] (by kernel_rfl) ?_
        refine jo_end (by kernel_rfl) ?_
        refine jx_then ?_
        refine jc_ret ?_
        refine jx_thenr ?_
        obtain rfl := Option.some.inj h
        exact jx_ret [] (.int .i64 (-1)) [] rfl (by kernel_rfl) (by kernel_rfl) (fun w hm => ⟨rfl, hm.pick [] (by kernel_rfl) (by kernel_rfl)⟩)
      · replace h := ifF hc_10 h
        refine jc_skip ?_
        refine jx_then ?_
        refine jc_seq ?_
        refine jc_seq ?_
        refine jc_region ?_
        refine jo_f [(0, 0), (0, 0), (0, 0)] (by kernel_rfl) ?_
        refine jo_end (by kernel_rfl) ?_
        refine jx_then ?_
        refine jc_cond (decide (x0 > y1)) (by kernel_rfl) (fun hc_11 => ?_) (fun hc_11 => ?_)
        · replace h := ifT hc_11 h
          refine jc_seq ?_
          refine jc_region ?_
          refine jo_f [(0, 0)] (by kernel_rfl) ?_
          refine jo_end (by kernel_rfl) ?_
          refine jx_then ?_
          refine jc_ret ?_
          refine jx_thenr ?_
          obtain rfl := Option.some.inj h
          exact jx_ret [] (.int .i64 1) [] rfl (by kernel_rfl) (by kernel_rfl) (fun w hm => ⟨rfl, hm.pick [] (by kernel_rfl) (by kernel_rfl)⟩)
        · replace h := ifF hc_11 h
          refine jc_skip ?_
          refine jx_then ?_
          refine jc_seq ?_
          refine jc_region ?_
          refine jo_f [(0, 0)] (by kernel_rfl) ?_
          refine jo_end (by kernel_rfl) ?_
          refine jx_then ?_
          refine jc_ret ?_
          obtain rfl := Option.some.inj h
          exact jx_ret [] (.int .i64 0) [] rfl (by kernel_rfl) (by kernel_rfl) (fun w hm => ⟨rfl, hm.pick [] (by kernel_rfl) (by kernel_rfl)⟩)

/-! ### cmp.isNaN[int8] -/
noncomputable def cmp_isNaN_int8 (x0 : Int) : Option (Bool) := some (x0 != x0)
set_option maxRecDepth 100000 in
theorem cmp_isNaN_int8.calls (x0 : Int) (w : World) (r : Bool) (h : cmp_isNaN_int8 x0 = some r) :
    Calls Tryz.prog 170 #[(.int .i8 x0)] w fun e w' => ∃ v, e = .returned v ∧ (v = (.bool r) ∧ Mem w [] [] w') := by
  rw [cmp_isNaN_int8] at h
  refine enter (args := [(.int .i8 x0)]) Tryz.func170 rfl Tryz.ntmps170 (by kernel_rfl) (L := []) (W := []) (Mem.start w) ?_
  refine jc_seq ?_
  refine jc_region ?_
  refine jo_f [(0, 0)] (by kernel_rfl) ?_
  refine jo_end (by kernel_rfl) ?_
  refine jx_then ?_
  refine jc_seq ?_
  refine jc_region ?_
  refine jo_f [(0, 0), (0, 0), (0, 0), (0, 0)] (by kernel_rfl) ?_
  refine jo_end (by kernel_rfl) ?_
  refine jx_then ?_
  refine jc_ret ?_
  obtain rfl := Option.some.inj h
  exact jx_ret [] (.bool (x0 != x0)) [] rfl (by kernel_rfl) (by kernel_rfl) (fun w hm => ⟨rfl, hm.pick [] (by kernel_rfl) (by kernel_rfl)⟩)

/-! ### cmp.Compare[int8] -/
noncomputable def cmp_Compare_int8 (x0 : Int) (y1 : Int) : Option (Int) := (cmp_isNaN_int8 x0).bind fun t_1 => (cmp_isNaN_int8 y1).bind fun t_2 => (if t_1 = true then (if t_2 = true then some 0 else some (-1)) else (if t_2 = true then some 1 else (if (decide (x0 < y1)) = true then some (-1) else (if (decide (x0 > y1)) = true then some 1 else some 0))))
set_option maxRecDepth 100000 in
theorem cmp_Compare_int8.calls (x0 : Int) (y1 : Int) (w : World) (r : Int) (h : cmp_Compare_int8 x0 y1 = some r) :
    Calls Tryz.prog 143 #[(.int .i8 x0), (.int .i8 y1)] w fun e w' => ∃ v, e = .returned v ∧ (v = (.int .i64 r) ∧ Mem w [] [] w') := by
  rw [cmp_Compare_int8] at h
  refine enter (args := [(.int .i8 x0), (.int .i8 y1)]) Tryz.func143 rfl Tryz.ntmps143 (by kernel_rfl) (L := []) (W := []) (Mem.start w) ?_
  refine jc_seq ?_
  refine jc_region ?_
  refine jo_f [(0, 0)] (by kernel_rfl) ?_
  refine jo_end (by kernel_rfl) ?_
  refine jx_then ?_
  refine jc_seq ?_
  refine jc_region ?_
  refine jo_f [(0, 0)] (by kernel_rfl) ?_
  obtain ⟨t_1, ht_1, h⟩ := bd h
  refine toO (by kernel_rfl) (p_call 0 170 #[(.int .i8 x0)] (by kernel_rfl) (by kernel_rfl) (fun w hm => cmp_isNaN_int8.calls x0 w _ ht_1) ?_)
  rintro w v w' hm ⟨rfl, hm'⟩
  refine ⟨_, hm.app hm', jkO ?_⟩
  clear hm hm'
  refine jo_f [(0, 0)] (by kernel_rfl) ?_
  refine jo_end (by kernel_rfl) ?_
  refine jx_then ?_
  refine jc_seq ?_
  refine jc_region ?_
  refine jo_f [(0, 0)] (by kernel_rfl) ?_
  obtain ⟨t_2, ht_2, h⟩ := bd h
  refine toO (by kernel_rfl) (p_call 0 170 #[(.int .i8 y1)] (by kernel_rfl) (by kernel_rfl) (fun w hm => cmp_isNaN_int8.calls y1 w _ ht_2) ?_)
  rintro w v w' hm ⟨rfl, hm'⟩
  refine ⟨_, hm.app hm', jkO ?_⟩
  clear hm hm'
  refine jo_f [(0, 0)] (by kernel_rfl) ?_
  refine jo_end (by kernel_rfl) ?_
  refine jx_then ?_
  refine jc_seq ?_
  refine jc_seq ?_
  refine jc_region ?_
  refine jo_f [(0, 0)] (by kernel_rfl) ?_
  refine jo_end (by kernel_rfl) ?_
  refine jx_then ?_
  refine jc_cond t_1 (by kernel_rfl) (fun hc_5 => ?_) (fun hc_5 => ?_)
  · replace h := ifT hc_5 h
    refine jc_seq ?_
    refine jc_seq ?_
    refine jc_region ?_
    refine jo_f [(0, 0)] (by kernel_rfl) ?_
    refine jo_end (by kernel_rfl) ?_
    refine jx_then ?_
    refine jc_cond t_2 (by kernel_rfl) (fun hc_6 => ?_) (fun hc_6 => ?_)
    · replace h := ifT hc_6 h
      refine jc_seq ?_
      refine jc_region ?_
      refine jo_f [(0, 0)] (by kernel_rfl) ?_
      refine jo_end (by kernel_rfl) ?_
      refine jx_then ?_
      refine jc_ret ?_
      refine jx_thenr ?_
      refine jx_thenr ?_
      obtain rfl := Option.some.inj h
      exact jx_ret [] (.int .i64 0) [] rfl (by kernel_rfl) (by kernel_rfl) (fun w hm => ⟨rfl, hm.pick [] (by kernel_rfl) (by kernel_rfl)⟩)
    · replace h := ifF hc_6 h
      refine jc_skip ?_
      refine jx_then ?_
      refine jc_seq ?_
      refine jc_region ?_
      refine jo_f [(0, 0)] (by kernel_rfl) ?_
      refine jo_end (by kernel_rfl) ?_
      refine jx_then ?_
      refine jc_ret ?_
      refine jx_thenr ?_
      obtain rfl := Option.some.inj h
      exact jx_ret [] (.int .i64 (-1)) [] rfl (by kernel_rfl) (by kernel_rfl) (fun w hm => ⟨rfl, hm.pick [] (by kernel_rfl) (by kernel_rfl)⟩)
  · replace h := ifF hc_5 h
    refine jc_skip ?_
    refine jx_then ?_
    refine jc_seq ?_
    refine jc_seq ?_
    refine jc_region ?_
    refine jo_f [(0, 0)] (by kernel_rfl) ?_
    refine jo_end (by kernel_rfl) ?_
    refine jx_then ?_
    refine jc_cond t_2 (by kernel_rfl) (fun hc_8 => ?_) (fun hc_8 => ?_)
    · replace h := ifT hc_8 h
      refine jc_seq ?_
      refine jc_region ?_
      refine jo_f [(0, 0)] (by kernel_rfl) ?_
      refine jo_end (by kernel_rfl) ?_
      refine jx_then ?_
      refine jc_ret ?_
      refine jx_thenr ?_
      obtain rfl := Option.some.inj h
      exact jx_ret [] (.int .i64 1) [] rfl (by kernel_rfl) (by kernel_rfl) (fun w hm => ⟨rfl, hm.pick [] (by kernel_rfl) (by kernel_rfl)⟩)
    · replace h := ifF hc_8 h
      refine jc_skip ?_
      refine jx_then ?_
      refine jc_seq ?_
      refine jc_seq ?_
      refine jc_region ?_
      refine jo_f [(0, 0), (0, 0), (0, 0)] (by kernel_rfl) ?_
      refine jo_end (by kernel_rfl) ?_
      refine jx_then ?_
      refine jc_cond (decide (x0 < y1)) (by kernel_rfl) (fun hc_10 => ?_) (fun hc_10 => ?_)
      · replace h := ifT hc_10 h
        refine jc_seq ?_
        refine jc_region ?_
        refine jo_f [(0, 0)] (by kernel_rfl) ?_
        refine jo_end (by kernel_rfl) ?_
        refine jx_then ?_
        refine jc_ret ?_
        refine jx_thenr ?_
        obtain rfl := Option.some.inj h
        exact jx_ret [] (.int .i64 (-1)) [] rfl (by kernel_rfl) (by kernel_rfl) (fun w hm => ⟨rfl, hm.pick [] (by kernel_rfl) (by kernel_rfl)⟩)
      · replace h := ifF hc_10 h
        refine jc_skip ?_
        refine jx_then ?_
        refine jc_seq ?_
        refine jc_seq ?_
        refine jc_region ?_
        refine jo_f [(0, 0), (0, 0), (0, 0)] (by kernel_rfl) ?_
        refine jo_end (by kernel_rfl) ?_
        refine jx_then ?_
        refine jc_cond (decide (x0 > y1)) (by kernel_rfl) (fun hc_11 => ?_) (fun hc_11 => ?_)
        · replace h := ifT hc_11 h
          refine jc_seq ?_
          refine jc_region ?_
          refine jo_f [(0, 0)] (by kernel_rfl) ?_
          refine jo_end (by kernel_rfl) ?_
          refine jx_then ?_
          refine jc_ret ?_
          refine jx_thenr ?_
          obtain rfl := Option.some.inj h
          exact jx_ret [] (.int .i64 1) [] rfl (by kernel_rfl) (by kernel_rfl) (fun w hm => ⟨rfl, hm.pick [] (by kernel_rfl) (by kernel_rfl)⟩)
        · replace h := ifF hc_11 h
          refine jc_skip ?_
          refine jx_then ?_
          refine jc_seq ?_
          refine jc_region ?_
          refine jo_f [(0, 0)] (by kernel_rfl) ?_
          refine jo_end (by kernel_rfl) ?_
          refine jx_then ?_
          refine jc_ret ?_
          obtain rfl := Option.some.inj h
          exact jx_ret [] (.int .i64 0) [] rfl (by kernel_rfl) (by kernel_rfl) (fun w hm => ⟨rfl, hm.pick [] (by kernel_rfl) (by kernel_rfl)⟩)

/-! ### cmp.Or[int] -/
noncomputable def cmp_Or_int.k_1 : Option (Int) := some 0
noncomputable def cmp_Or_int.l_3 (vals0 : List Int) : Int → Option ((Int) ⊕ (Int ⊕ Unit))
  | i_2 => (if (decide (i_2 < (vals0.length : Int))) = true then (ix vals0 i_2).bind fun x_5 => (if (x_5 != 0) = true then some (.inr (.inl x_5)) else some (.inl (w64 (i_2 + 1)))) else some (.inr (.inr ())))
noncomputable def cmp_Or_int (vals0 : List Int) : Option (Int) := (loop (cmp_Or_int.l_3 vals0) 0).bind fun t_4 => match t_4 with | .inl p => some p | .inr p => cmp_Or_int.k_1
set_option maxRecDepth 100000 in
theorem cmp_Or_int.calls (vals0 : List Int) (w : World) (r : Int) (vals0_a : Option Addr) (vals0_an : Nat) (vals0_c : Nat) (vals0_h : Rw w vals0_a 1 encI64 vals0) (vals0_hn : vals0.length = vals0_an) (h : cmp_Or_int vals0 = some r) :
    Calls Tryz.prog 141 #[(.slice vals0_a vals0_an vals0_c)] w fun e w' => ∃ v, e = .returned v ∧ (v = (.int .i64 r) ∧ Mem w [] [] w') := by
  subst vals0_hn
  rw [cmp_Or_int] at h
  refine enter (args := [(.slice vals0_a vals0.length vals0_c)]) Tryz.func141 rfl Tryz.ntmps141 (by kernel_rfl) (L := []) (W := []) (Mem.start w) ?_
  refine jc_seq ?_
  refine jc_region ?_
  refine jo_f [(0, 0)] (by kernel_rfl) ?_
  refine jo_end (by kernel_rfl) ?_
  refine jx_then ?_
  refine jc_seq ?_
  refine jc_region ?_
  refine jo_f [(0, 0)] (by kernel_rfl) ?_
  refine jo_end (by kernel_rfl) ?_
  refine jx_then ?_
  refine jc_seq ?_
  refine jc_seq ?_
  refine jc_region ?_
  refine jo_f [(0, 0), (0, 0), (0, 0)] (by kernel_rfl) ?_
  refine jo_end (by kernel_rfl) ?_
  refine jx_then ?_
  refine jc_meet (fun (_ : Unit) => cmp_Or_int.k_1 = some r) (fun (_ : Unit) => [(2, [], (.int .i64 0)), (3, [], (.int .i64 0))]) (fun (_ : Unit) => []) ?_ ?_
  · refine jc_block ?_
    obtain ⟨t_4, ht_68, hr_60⟩ := bd h
    refine jc_loop (fun (s : Int) (x : Unit) => match s, x with | i_2, _ => True) (fun (s : Int) (x : Unit) => match s, x with | i_2, _ => [(2, [], (.int .i64 0)), (3, [], (.int .i64 0)), (6, [], (.slice vals0_a vals0.length vals0_c)), (7, [], (.int .i64 (vals0.length : Int))), (8, [], (.int .i64 i_2))]) (fun (s : Int) (x : Unit) => match s, x with | i_2, _ => []) ht_68 () trivial (by kernel_rfl) [] (by kernel_rfl) (by kernel_rfl) ?_
    rintro i_2 _ y_61 _ h
    rw [cmp_Or_int.l_3] at h
    refine jc_seq ?_
    refine jc_region ?_
    refine jo_f [(0, 0)] (by kernel_rfl) ?_
    refine jo_end (by kernel_rfl) ?_
    refine jx_then ?_
    refine jc_seq ?_
    refine jc_cond (decide (i_2 < (vals0.length : Int))) (by kernel_rfl) (fun hc_63 => ?_) (fun hc_63 => ?_)
    · replace h := ifT hc_63 h
      refine jc_skip ?_
      refine jx_then ?_
      refine jc_seq ?_
      refine jc_block ?_
      refine jc_seq ?_
      refine jc_region ?_
      obtain ⟨x_5, hx_64, h⟩ := bd h
      refine toO (by kernel_rfl) (p_idx 0 vals0_a vals0.length i_2 1 (by kernel_rfl) (by kernel_rfl) (ix_some hx_64).1 (ltn hx_64 rfl) (vals0_h.sp hx_64) (jkO ?_))
      refine toO (by kernel_rfl) (p_ld 0 (aB vals0_a) (aO vals0_a + i_2.toNat * 1) false (encI64 x_5) (by kernel_rfl) (by kernel_rfl) (by kernel_rfl) (fun w hm => ((hm.exRow vals0_h List.not_mem_nil).at hx_64)) (jkO ?_))
      refine jo_f [(0, 0)] (by kernel_rfl) ?_
      refine jo_end (by kernel_rfl) ?_
      refine jx_then ?_
      refine jc_seq ?_
      refine jc_region ?_
      refine jo_f [(0, 0), (0, 0), (0, 0)] (by kernel_rfl) ?_
      refine jo_end (by kernel_rfl) ?_
      refine jx_then ?_
      refine jc_cond (x_5 != 0) (by kernel_rfl) (fun hc_65 => ?_) (fun hc_65 => ?_)
      · replace h := ifT hc_65 h
        refine jc_seq ?_
        refine jc_region ?_
        refine jo_f [(0, 0), (0, 0)] (by kernel_rfl) ?_
        refine jo_end (by kernel_rfl) ?_
        refine jx_then ?_
        refine jc_ret ?_
        refine jx_inr ?_
        refine jx_thenr ?_
        refine jx_leaver (.inl x_5) (Option.some.inj h).symm (fun e_66 => ?_)
        subst e_66
        refine jx_inr ?_
        refine jx_thenr ?_
        refine jx_thenr ?_
        obtain rfl := Option.some.inj hr_60
        exact jx_ret [] (.int .i64 x_5) [] rfl (by kernel_rfl) (by kernel_rfl) (fun w hm => ⟨rfl, hm.pick [] (by kernel_rfl) (by kernel_rfl)⟩)
      · replace h := ifF hc_65 h
        refine jc_skip ?_
        refine jx_inn ?_
        refine jx_then ?_
        refine jc_region ?_
        refine jo_f [(0, 0), (0, 0)] (by kernel_rfl) ?_
        refine jo_end (by kernel_rfl) ?_
        exact jx_back (w64 (i_2 + 1)) () (Option.some.inj h).symm trivial [] (by kernel_rfl) (by kernel_rfl) (by kernel_rfl)
    · replace h := ifF hc_63 h
      refine jc_exit ?_
      refine jx_thenx ?_
      refine jx_leave (.inr ()) (Option.some.inj h).symm (fun e_67 => ?_)
      subst e_67
      refine jx_ine ?_
      exact jx_meet () hr_60 (by kernel_rfl) [] (by kernel_rfl) (by kernel_rfl)
  · rintro _ h
    replace h : cmp_Or_int.k_1 = some r := h
    rw [cmp_Or_int.k_1] at h
    refine jx_then ?_
    refine jc_seq ?_
    refine jc_region ?_
    refine jo_f [(0, 0), (0, 0)] (by kernel_rfl) ?_
    refine jo_end (by kernel_rfl) ?_
    refine jx_then ?_
    refine jc_ret ?_
    obtain rfl := Option.some.inj h
    exact jx_ret [] (.int .i64 0) [] rfl (by kernel_rfl) (by kernel_rfl) (fun w hm => ⟨rfl, hm.pick [] (by kernel_rfl) (by kernel_rfl)⟩)

/-! ### impl.compareNotes -/
noncomputable def impl_compareNotes (a0 : GNote) (b1 : GNote) : Option (Int) := (cmp_Compare_int16 a0.fAt b1.fAt).bind fun t_1 => (cmp_Compare_int8 a0.fPitch b1.fPitch).bind fun t_2 => (cmp_Or_int [t_1, t_2]).bind fun t_3 => some t_3
set_option maxRecDepth 100000 in
theorem impl_compareNotes.calls (a0 : GNote) (b1 : GNote) (w : World) (r : Int) (h : impl_compareNotes a0 b1 = some r) :
    Calls Tryz.prog 110 #[(.agg #[(.int .i16 a0.fAt), (.int .i8 a0.fPitch)]), (.agg #[(.int .i16 b1.fAt), (.int .i8 b1.fPitch)])] w fun e w' => ∃ v, e = .returned v ∧ (v = (.int .i64 r) ∧ Mem w [] [] w') := by
  rw [impl_compareNotes] at h
  refine enter (args := [(.agg #[(.int .i16 a0.fAt), (.int .i8 a0.fPitch)]), (.agg #[(.int .i16 b1.fAt), (.int .i8 b1.fPitch)])]) Tryz.func110 rfl Tryz.ntmps110 (by kernel_rfl) (L := []) (W := []) (Mem.start w) ?_
  refine jc_seq ?_
  refine jc_region ?_
  refine toO (by kernel_rfl) (p_a 0 [0] (by kernel_rfl) (fun b => by kernel_rfl) (fun b_1 => jkO ?_))
  refine toO (by kernel_rfl) (p_a 0 [0] (by kernel_rfl) (fun b => by kernel_rfl) (fun b_2 => jkO ?_))
  refine jo_f [(0, 0)] (by kernel_rfl) ?_
  refine jo_end (by kernel_rfl) ?_
  refine jx_then ?_
  refine jc_seq ?_
  refine jc_draw [⟨some b_1, 56, [(.int .i16 a0.fAt), (.int .i8 a0.fPitch)]⟩, ⟨some b_2, 56, [(.int .i16 b1.fAt), (.int .i8 b1.fPitch)]⟩] 13 (by kernel_rfl) (by kernel_rfl) ?_
  refine jd_f [⟨0, 0, 0⟩, ⟨1, 0, 0⟩, ⟨2, 0, 0⟩, ⟨3, 1, 0⟩, ⟨5, 0, 0⟩, ⟨6, 0, 0⟩, ⟨7, 0, 0⟩, ⟨8, 1, 0⟩] 5 (by kernel_rfl) (by kernel_rfl) (fun w h => h.pick [0, 1] (by kernel_rfl) (by kernel_rfl)) (by kernel_rfl) (by kernel_rfl) ?_
  obtain ⟨t_1, ht_3, h⟩ := bd h
  refine toD 4 (by kernel_rfl) (p_call 0 142 #[(.int .i16 a0.fAt), (.int .i16 b1.fAt)] (by kernel_rfl) (by kernel_rfl) (fun w hm => cmp_Compare_int16.calls a0.fAt b1.fAt w _ ht_3) ?_)
  rintro w v w' hm ⟨rfl, hm'⟩
  refine ⟨_, hm.app hm', jkD (fun w h => h.pick [0, 1] (by kernel_rfl) (by kernel_rfl)) ?_⟩
  clear hm hm'
  obtain ⟨t_2, ht_4, h⟩ := bd h
  refine toD 9 (by kernel_rfl) (p_call 0 143 #[(.int .i8 a0.fPitch), (.int .i8 b1.fPitch)] (by kernel_rfl) (by kernel_rfl) (fun w hm => cmp_Compare_int8.calls a0.fPitch b1.fPitch w _ ht_4) ?_)
  rintro w v w' hm ⟨rfl, hm'⟩
  refine ⟨_, hm.app hm', jkD (fun w h => h.pick [0, 1] (by kernel_rfl) (by kernel_rfl)) ?_⟩
  clear hm hm'
  refine toD 10 (by kernel_rfl) (p_a 0 [0] (by kernel_rfl) (fun b => by kernel_rfl) (fun b_5 => jkD (fun w h => h.pick [0, 1] (by kernel_rfl) (by kernel_rfl)) ?_))
  obtain ⟨t_3, ht_6, h⟩ := bd h
  refine toD 11 (by kernel_rfl) (p_call 0 141 #[(.slice (some ⟨b_5, 0, none⟩) 2 2)] (by kernel_rfl) (by kernel_rfl) (fun w hm => cmp_Or_int.calls [t_1, t_2] w _ (some ⟨b_5, 0, none⟩) 2 2 (hm.ownRow (hh := 2) (o := (some b_5)) (T := 3) (enc := encI64) (xs := [t_1, t_2]) (sp := []) (by kernel_rfl) (fun e => nomatch e) encI64_len) rfl ht_6) ?_)
  rintro w v w' hm ⟨rfl, hm'⟩
  refine ⟨_, hm.app hm', jkD (fun w h => h.pick [0, 1] (by kernel_rfl) (by kernel_rfl)) ?_⟩
  clear hm hm'
  refine jd_f [⟨12, 0, 0⟩] 0 (by kernel_rfl) (by kernel_rfl) (fun w h => h.pick [0, 1] (by kernel_rfl) (by kernel_rfl)) (by kernel_rfl) (by kernel_rfl) ?_
  refine jd_end (by kernel_rfl) ?_
  refine jx_then ?_
  refine jc_ret ?_
  obtain rfl := Option.some.inj h
  exact jx_ret [] (.int .i64 t_3) [] rfl (by kernel_rfl) (by kernel_rfl) (fun w hm => ⟨rfl, hm.pick [] (by kernel_rfl) (by kernel_rfl)⟩)

/-! ### impl.ValidTune -/
noncomputable def impl_ValidTune.k_1 (t0 : List GNote) : Option (Bool) := some (decide ((t0.length : Int) ≤ 120))
noncomputable def impl_ValidTune.k_7 (i_2 : Int) (q_6 : Bool) : Option ((Int) ⊕ (Bool ⊕ Unit)) := (if q_6 = true then some (.inr (.inl false)) else some (.inl (w64 (i_2 + 1))))
noncomputable def impl_ValidTune.l_3 (t0 : List GNote) : Int → Option ((Int) ⊕ (Bool ⊕ Unit))
  | i_2 => (if (decide (i_2 < (t0.length : Int))) = true then (ix t0 i_2).bind fun x_5 => (impl_isNote x_5).bind fun t_8 => (if (!t_8) = true then impl_ValidTune.k_7 i_2 true else (if (decide (i_2 > 0)) = true then (ix t0 (w64 (i_2 - 1))).bind fun x_9 => (impl_compareNotes x_9 x_5).bind fun t_10 => impl_ValidTune.k_7 i_2 (decide (t_10 ≥ 0)) else impl_ValidTune.k_7 i_2 false)) else some (.inr (.inr ())))
noncomputable def impl_ValidTune (t0 : List GNote) : Option (Bool) := (loop (impl_ValidTune.l_3 t0) 0).bind fun t_4 => match t_4 with | .inl p => some p | .inr p => impl_ValidTune.k_1 t0
set_option maxRecDepth 100000 in
theorem impl_ValidTune.calls (t0 : List GNote) (w : World) (r : Bool) (t0_a : Option Addr) (t0_an : Nat) (t0_c : Nat) (t0_h : Rw w t0_a 2 encGNote t0) (t0_hn : t0.length = t0_an) (h : impl_ValidTune t0 = some r) :
    Calls Tryz.prog 133 #[(.slice t0_a t0_an t0_c)] w fun e w' => ∃ v, e = .returned v ∧ (v = (.bool r) ∧ Mem w [] [] w') := by
  subst t0_hn
  rw [impl_ValidTune] at h
  refine enter (args := [(.slice t0_a t0.length t0_c)]) Tryz.func133 rfl Tryz.ntmps133 (by kernel_rfl) (L := []) (W := []) (Mem.start w) ?_
  refine jc_seq ?_
  refine jc_region ?_
  refine jo_f [(0, 0)] (by kernel_rfl) ?_
  refine jo_end (by kernel_rfl) ?_
  refine jx_then ?_
  refine jc_seq ?_
  refine jc_seq ?_
  refine jc_region ?_
  refine jo_f [(0, 0), (0, 0), (0, 0)] (by kernel_rfl) ?_
  refine jo_end (by kernel_rfl) ?_
  refine jx_then ?_
  refine jc_meet (fun (_ : Unit) => impl_ValidTune.k_1 t0 = some r) (fun (_ : Unit) => [(0, [], (.slice t0_a t0.length t0_c)), (2, [], (.bool false))]) (fun (_ : Unit) => []) ?_ ?_
  · refine jc_block ?_
    obtain ⟨t_4, ht_200, hr_181⟩ := bd h
    refine jc_loop (fun (s : Int) (x : Unit) => match s, x with | i_2, _ => True) (fun (s : Int) (x : Unit) => match s, x with | i_2, _ => [(0, [], (.slice t0_a t0.length t0_c)), (2, [], (.bool false)), (5, [], (.slice t0_a t0.length t0_c)), (6, [], (.int .i64 (t0.length : Int))), (7, [], (.int .i64 i_2))]) (fun (s : Int) (x : Unit) => match s, x with | i_2, _ => []) ht_200 () trivial (by kernel_rfl) [] (by kernel_rfl) (by kernel_rfl) ?_
    rintro i_2 _ y_182 _ h
    rw [impl_ValidTune.l_3] at h
    refine jc_seq ?_
    refine jc_region ?_
    refine jo_f [(0, 0)] (by kernel_rfl) ?_
    refine jo_end (by kernel_rfl) ?_
    refine jx_then ?_
    refine jc_seq ?_
    refine jc_cond (decide (i_2 < (t0.length : Int))) (by kernel_rfl) (fun hc_184 => ?_) (fun hc_184 => ?_)
    · replace h := ifT hc_184 h
      refine jc_skip ?_
      refine jx_then ?_
      refine jc_seq ?_
      refine jc_block ?_
      refine jc_seq ?_
      refine jc_region ?_
      refine jo_f [(0, 0)] (by kernel_rfl) ?_
      obtain ⟨x_5, hx_185, h⟩ := bd h
      refine toO (by kernel_rfl) (p_idx 0 t0_a t0.length i_2 2 (by kernel_rfl) (by kernel_rfl) (ix_some hx_185).1 (ltn hx_185 rfl) (t0_h.sp hx_185) (jkO ?_))
      refine toO (by kernel_rfl) (p_ld 0 (aB t0_a) (aO t0_a + i_2.toNat * 2) true (encGNote x_5) (by kernel_rfl) (by kernel_rfl) (by kernel_rfl) (fun w hm => ((hm.exRow t0_h List.not_mem_nil).at hx_185)) (jkO ?_))
      refine toO (by kernel_rfl) (p_a 0 [0] (by kernel_rfl) (fun b => by kernel_rfl) (fun b_186 => jkO ?_))
      refine jo_f [(0, 0)] (by kernel_rfl) ?_
      refine toO (by kernel_rfl) (p_s 0 [0] (by kernel_rfl) (by kernel_rfl) (jkO ?_))
      refine jo_end (by kernel_rfl) ?_
      refine jx_then ?_
      refine jc_seq ?_
      refine jc_meet (fun (j : Bool) => match j with | q_6 => impl_ValidTune.k_7 i_2 q_6 = some y_182) (fun (j : Bool) => match j with | q_6 => [(0, [], (.slice t0_a t0.length t0_c)), (2, [], (.bool false)), (5, [], (.slice t0_a t0.length t0_c)), (6, [], (.int .i64 (t0.length : Int))), (7, [], (.int .i64 i_2)), (28, [], (.bool q_6))]) (fun (j : Bool) => match j with | q_6 => [⟨some b_186, 56, [(.int .i16 x_5.fAt), (.int .i8 x_5.fPitch)]⟩]) ?_ ?_
      · refine jc_draw [⟨some b_186, 56, [(.int .i16 x_5.fAt), (.int .i8 x_5.fPitch)]⟩] 17 (by kernel_rfl) (by kernel_rfl) ?_
        refine jd_f [⟨0, 0, 0⟩] 16 (by kernel_rfl) (by kernel_rfl) (fun w h => h.pick [0] (by kernel_rfl) (by kernel_rfl)) (by kernel_rfl) (by kernel_rfl) ?_
        obtain ⟨t_8, ht_194, h⟩ := bd h
        refine toD 1 (by kernel_rfl) (p_call 0 46 #[(.agg #[(.int .i16 x_5.fAt), (.int .i8 x_5.fPitch)])] (by kernel_rfl) (by kernel_rfl) (fun w hm => impl_isNote.calls x_5 w _ ht_194) ?_)
        rintro w v w' hm ⟨rfl, hm'⟩
        refine ⟨_, hm.app hm', jkD (fun w h => h.pick [0] (by kernel_rfl) (by kernel_rfl)) ?_⟩
        clear hm hm'
        refine jd_f [⟨2, 0, 0⟩, ⟨3, 0, 0⟩, ⟨4, 0, 1⟩, ⟨5, 0, 1⟩] 11 (by kernel_rfl) (by kernel_rfl) (fun w h => h.pick [0] (by kernel_rfl) (by kernel_rfl)) (by kernel_rfl) (by kernel_rfl) ?_
        refine jd_split 15 (!t_8) (by kernel_rfl) (fun hc_195 => ?_) (fun hc_195 => ?_)
        · replace h := ifT hc_195 h
          refine jd_f [⟨6, 0, 3⟩, ⟨7, 0, 3⟩, ⟨8, 0, 3⟩, ⟨9, 0, 3⟩, ⟨10, 0, 3⟩, ⟨11, 0, 3⟩, ⟨12, 0, 3⟩, ⟨13, 0, 3⟩, ⟨14, 0, 3⟩, ⟨15, 0, 3⟩, ⟨16, 0, 4⟩] 0 (by kernel_rfl) (by kernel_rfl) (fun w h => h.pick [0] (by kernel_rfl) (by kernel_rfl)) (by kernel_rfl) (by kernel_rfl) ?_
          refine jd_end (by kernel_rfl) ?_
          exact jx_meet true h (by kernel_rfl) [0] (by kernel_rfl) (by kernel_rfl)
        · replace h := ifF hc_195 h
          refine jd_f [⟨6, 0, 2⟩, ⟨7, 0, 1⟩, ⟨8, 0, 1⟩, ⟨9, 0, 1⟩, ⟨12, 0, 1⟩] 6 (by kernel_rfl) (by kernel_rfl) (fun w h => h.pick [0] (by kernel_rfl) (by kernel_rfl)) (by kernel_rfl) (by kernel_rfl) ?_
          refine jd_split 18 (decide (i_2 > 0)) (by kernel_rfl) (fun hc_196 => ?_) (fun hc_196 => ?_)
          · replace h := ifT hc_196 h
            obtain ⟨x_9, hx_197, h⟩ := bd h
            refine jd_v 10 2 (by kernel_rfl) (fun w h => h.pick [0] (by kernel_rfl) (by kernel_rfl)) (by kernel_rfl) (by kernel_rfl) _ (fun w hm => idx_run (a := t0_a) (len := t0.length) (s := 2) (j := (w64 (i_2 - 1))) (by kernel_rfl) (ix_some hx_197).1 (ltn hx_197 rfl) (t0_h.sp hx_197)) ?_
            refine jd_v 11 2 (by kernel_rfl) (fun w h => h.pick [0] (by kernel_rfl) (by kernel_rfl)) (by kernel_rfl) (by kernel_rfl) _ (fun w hm => ld_run (b := aB t0_a) (off := (aO t0_a + (w64 (i_2 - 1)).toNat * 2)) (s := 2) (agg := true) (vs := (encGNote x_9)) (by kernel_rfl) (by kernel_rfl) (.inl rfl) ((hm.exRow t0_h List.not_mem_nil).at hx_197)) ?_
            obtain ⟨t_10, ht_198, h⟩ := bd h
            refine toD 13 (by kernel_rfl) (p_call 2 110 #[(.agg #[(.int .i16 x_9.fAt), (.int .i8 x_9.fPitch)]), (.agg #[(.int .i16 x_5.fAt), (.int .i8 x_5.fPitch)])] (by kernel_rfl) (by kernel_rfl) (fun w hm => impl_compareNotes.calls x_9 x_5 w _ ht_198) ?_)
            rintro w v w' hm ⟨rfl, hm'⟩
            refine ⟨_, hm.app hm', jkD (fun w h => h.pick [0] (by kernel_rfl) (by kernel_rfl)) ?_⟩
            clear hm hm'
            refine jd_f [⟨14, 0, 2⟩, ⟨15, 0, 4⟩, ⟨16, 0, 5⟩] 0 (by kernel_rfl) (by kernel_rfl) (fun w h => h.pick [0] (by kernel_rfl) (by kernel_rfl)) (by kernel_rfl) (by kernel_rfl) ?_
            refine jd_end (by kernel_rfl) ?_
            exact jx_meet (decide (t_10 ≥ 0)) h (by kernel_rfl) [0] (by kernel_rfl) (by kernel_rfl)
          · replace h := ifF hc_196 h
            refine jd_f [⟨10, 0, 3⟩, ⟨11, 0, 3⟩, ⟨13, 0, 3⟩, ⟨14, 0, 3⟩, ⟨15, 0, 5⟩, ⟨16, 0, 5⟩] 0 (by kernel_rfl) (by kernel_rfl) (fun w h => h.pick [0] (by kernel_rfl) (by kernel_rfl)) (by kernel_rfl) (by kernel_rfl) ?_
            refine jd_end (by kernel_rfl) ?_
            exact jx_meet false h (by kernel_rfl) [0] (by kernel_rfl) (by kernel_rfl)
      · rintro q_6 h
        replace h : impl_ValidTune.k_7 i_2 q_6 = some y_182 := h
        rw [impl_ValidTune.k_7] at h
        refine jx_then ?_
        refine jc_cond q_6 (by kernel_rfl) (fun hc_192 => ?_) (fun hc_192 => ?_)
        · replace h := ifT hc_192 h
          refine jc_seq ?_
          refine jc_region ?_
          refine jo_f [(0, 0)] (by kernel_rfl) ?_
          refine jo_end (by kernel_rfl) ?_
          refine jx_then ?_
          refine jc_ret ?_
          refine jx_inr ?_
          refine jx_thenr ?_
          refine jx_leaver (.inl false) (Option.some.inj h).symm (fun e_193 => ?_)
          subst e_193
          refine jx_inr ?_
          refine jx_thenr ?_
          refine jx_thenr ?_
          obtain rfl := Option.some.inj hr_181
          exact jx_ret [] (.bool false) [] rfl (by kernel_rfl) (by kernel_rfl) (fun w hm => ⟨rfl, hm.pick [] (by kernel_rfl) (by kernel_rfl)⟩)
        · replace h := ifF hc_192 h
          refine jc_skip ?_
          refine jx_inn ?_
          refine jx_then ?_
          refine jc_region ?_
          refine jo_f [(0, 0), (0, 0)] (by kernel_rfl) ?_
          refine jo_end (by kernel_rfl) ?_
          exact jx_back (w64 (i_2 + 1)) () (Option.some.inj h).symm trivial [] (by kernel_rfl) (by kernel_rfl) (by kernel_rfl)
    · replace h := ifF hc_184 h
      refine jc_exit ?_
      refine jx_thenx ?_
      refine jx_leave (.inr ()) (Option.some.inj h).symm (fun e_199 => ?_)
      subst e_199
      refine jx_ine ?_
      exact jx_meet () hr_181 (by kernel_rfl) [] (by kernel_rfl) (by kernel_rfl)
  · rintro _ h
    replace h : impl_ValidTune.k_1 t0 = some r := h
    rw [impl_ValidTune.k_1] at h
    refine jx_then ?_
    refine jc_seq ?_
    refine jc_region ?_
    refine jo_f [(0, 0), (0, 0), (0, 0), (0, 0)] (by kernel_rfl) ?_
    refine jo_end (by kernel_rfl) ?_
    refine jx_then ?_
    refine jc_ret ?_
    obtain rfl := Option.some.inj h
    exact jx_ret [] (.bool (decide ((t0.length : Int) ≤ 120))) [] rfl (by kernel_rfl) (by kernel_rfl) (fun w hm => ⟨rfl, hm.pick [] (by kernel_rfl) (by kernel_rfl)⟩)

/-! ### impl.tuneCode$1 -/
noncomputable def impl_tuneCode_1 (t0 : List GNote) : Option (Bool) := (impl_ValidTune t0).bind fun t_1 => some (!t_1)
set_option maxRecDepth 100000 in
theorem impl_tuneCode_1.calls (t0 : List GNote) (w : World) (r : Bool) (t0_a : Option Addr) (t0_an : Nat) (t0_c : Nat) (t0_h : Rw w t0_a 2 encGNote t0) (t0_hn : t0.length = t0_an) (h : impl_tuneCode_1 t0 = some r) :
    Calls Tryz.prog 132 #[(.slice t0_a t0_an t0_c)] w fun e w' => ∃ v, e = .returned v ∧ (v = (.bool r) ∧ Mem w [] [] w') := by
  subst t0_hn
  rw [impl_tuneCode_1] at h
  refine enter (args := [(.slice t0_a t0.length t0_c)]) Tryz.func132 rfl Tryz.ntmps132 (by kernel_rfl) (L := []) (W := []) (Mem.start w) ?_
  refine jc_seq ?_
  refine jc_region ?_
  refine jo_f [(0, 0)] (by kernel_rfl) ?_
  refine jo_end (by kernel_rfl) ?_
  refine jx_then ?_
  refine jc_seq ?_
  refine jc_region ?_
  refine jo_f [(0, 0)] (by kernel_rfl) ?_
  obtain ⟨t_1, ht_1, h⟩ := bd h
  refine toO (by kernel_rfl) (p_call 0 133 #[(.slice t0_a t0.length t0_c)] (by kernel_rfl) (by kernel_rfl) (fun w hm => impl_ValidTune.calls t0 w _ t0_a t0.length t0_c (hm.exRow t0_h List.not_mem_nil) rfl ht_1) ?_)
  rintro w v w' hm ⟨rfl, hm'⟩
  refine ⟨_, hm.app hm', jkO ?_⟩
  clear hm hm'
  refine jo_f [(0, 0), (0, 0)] (by kernel_rfl) ?_
  refine jo_end (by kernel_rfl) ?_
  refine jx_then ?_
  refine jc_ret ?_
  obtain rfl := Option.some.inj h
  exact jx_ret [] (.bool (!t_1)) [] rfl (by kernel_rfl) (by kernel_rfl) (fun w hm => ⟨rfl, hm.pick [] (by kernel_rfl) (by kernel_rfl)⟩)

/-! ### slices.IndexFunc[[]impl.Tune,impl.Tune] -/
noncomputable def slices_IndexFunc_Tune_at_impl_tuneCode_1.k_1 : Option (Int) := some (-1)
noncomputable def slices_IndexFunc_Tune_at_impl_tuneCode_1.l_3 (s0 : List (List GNote)) : Int → Option ((Int) ⊕ (Int ⊕ Unit))
  | i_2 => (if (decide (i_2 < (s0.length : Int))) = true then (ix s0 i_2).bind fun x_5 => (impl_tuneCode_1 x_5).bind fun t_6 => (if t_6 = true then some (.inr (.inl i_2)) else some (.inl (w64 (i_2 + 1)))) else some (.inr (.inr ())))
noncomputable def slices_IndexFunc_Tune_at_impl_tuneCode_1 (s0 : List (List GNote)) : Option (Int) := (loop (slices_IndexFunc_Tune_at_impl_tuneCode_1.l_3 s0) 0).bind fun t_4 => match t_4 with | .inl p => some p | .inr p => slices_IndexFunc_Tune_at_impl_tuneCode_1.k_1
set_option maxRecDepth 100000 in
theorem slices_IndexFunc_Tune_at_impl_tuneCode_1.calls (s0 : List (List GNote)) (w : World) (r : Int) (s0_a : Option Addr) (s0_an : Nat) (s0_c : Nat) (s0_hs : List Hd) (s0_h : Rw w s0_a 1 encHd s0_hs) (s0_hn : s0.length = s0_an) (s0_i : Inn w [] 2 encGNote s0_hs s0) (h : slices_IndexFunc_Tune_at_impl_tuneCode_1 s0 = some r) :
    Calls Tryz.prog 159 #[(.slice s0_a s0_an s0_c), (.func (.func 132) #[] #[])] w fun e w' => ∃ v, e = .returned v ∧ (v = (.int .i64 r) ∧ Mem w [] [] w') := by
  subst s0_hn
  rw [slices_IndexFunc_Tune_at_impl_tuneCode_1] at h
  refine enter (args := [(.slice s0_a s0.length s0_c), (.func (.func 132) #[] #[])]) Tryz.func159 rfl Tryz.ntmps159 (by kernel_rfl) (L := []) (W := []) (Mem.start w) ?_
  refine jc_seq ?_
  refine jc_region ?_
  refine jo_f [(0, 0)] (by kernel_rfl) ?_
  refine jo_end (by kernel_rfl) ?_
  refine jx_then ?_
  refine jc_seq ?_
  refine jc_seq ?_
  refine jc_region ?_
  refine jo_f [(0, 0), (0, 0), (0, 0)] (by kernel_rfl) ?_
  refine jo_end (by kernel_rfl) ?_
  refine jx_then ?_
  refine jc_meet (fun (_ : Unit) => slices_IndexFunc_Tune_at_impl_tuneCode_1.k_1 = some r) (fun (_ : Unit) => [(4, [], (.int .i64 0))]) (fun (_ : Unit) => []) ?_ ?_
  · refine jc_block ?_
    obtain ⟨t_4, ht_40, hr_31⟩ := bd h
    refine jc_loop (fun (s : Int) (x : Unit) => match s, x with | i_2, _ => True) (fun (s : Int) (x : Unit) => match s, x with | i_2, _ => [(0, [], (.slice s0_a s0.length s0_c)), (1, [], (.func (.func 132) #[] #[])), (4, [], (.int .i64 0)), (7, [], (.int .i64 (s0.length : Int))), (8, [], (.int .i64 i_2))]) (fun (s : Int) (x : Unit) => match s, x with | i_2, _ => []) ht_40 () trivial (by kernel_rfl) [] (by kernel_rfl) (by kernel_rfl) ?_
    rintro i_2 _ y_32 _ h
    rw [slices_IndexFunc_Tune_at_impl_tuneCode_1.l_3] at h
    refine jc_seq ?_
    refine jc_region ?_
    refine jo_f [(0, 0)] (by kernel_rfl) ?_
    refine jo_end (by kernel_rfl) ?_
    refine jx_then ?_
    refine jc_seq ?_
    refine jc_cond (decide (i_2 < (s0.length : Int))) (by kernel_rfl) (fun hc_34 => ?_) (fun hc_34 => ?_)
    · replace h := ifT hc_34 h
      refine jc_skip ?_
      refine jx_then ?_
      refine jc_seq ?_
      refine jc_block ?_
      refine jc_seq ?_
      refine jc_region ?_
      refine jo_f [(0, 0), (0, 0)] (by kernel_rfl) ?_
      refine jo_end (by kernel_rfl) ?_
      refine jx_then ?_
      refine jc_seq ?_
      refine jc_region ?_
      refine jo_f [(0, 0), (0, 0), (0, 0)] (by kernel_rfl) ?_
      obtain ⟨x_5, hx_35, h⟩ := bd h
      refine toO (by kernel_rfl) (p_idx 0 s0_a s0.length i_2 1 (by kernel_rfl) (by kernel_rfl) (ix_some hx_35).1 (ltn hx_35 rfl) (s0_h.sp (s0_i.ixh hx_35)) (jkO ?_))
      refine toO (by kernel_rfl) (p_ld 0 (aB s0_a) (aO s0_a + i_2.toNat * 1) false (encHd (hd s0_hs i_2)) (by kernel_rfl) (by kernel_rfl) (by kernel_rfl) (fun w hm => ((hm.exRow s0_h List.not_mem_nil).at (s0_i.ixh hx_35))) (jkO ?_))
      obtain ⟨t_6, ht_36, h⟩ := bd h
      refine toO (by kernel_rfl) (p_call 0 132 #[(.slice (hd s0_hs i_2).a ((hd s0_hs i_2).n) ((hd s0_hs i_2).c))] (by kernel_rfl) (by kernel_rfl) (fun w hm => impl_tuneCode_1.calls x_5 w _ (hd s0_hs i_2).a ((hd s0_hs i_2).n) ((hd s0_hs i_2).c) (hm.exRow (s0_i.get hx_35).1 List.not_mem_nil) (s0_i.get hx_35).2.1 ht_36) ?_)
      rintro w v w' hm ⟨rfl, hm'⟩
      refine ⟨_, hm.app hm', jkO ?_⟩
      clear hm hm'
      refine jo_end (by kernel_rfl) ?_
      refine jx_then ?_
      refine jc_cond t_6 (by kernel_rfl) (fun hc_37 => ?_) (fun hc_37 => ?_)
      · replace h := ifT hc_37 h
        refine jc_seq ?_
        refine jc_region ?_
        refine jo_f [(0, 0), (0, 0)] (by kernel_rfl) ?_
        refine jo_end (by kernel_rfl) ?_
        refine jx_then ?_
        refine jc_ret ?_
        refine jx_inr ?_
        refine jx_thenr ?_
        refine jx_leaver (.inl i_2) (Option.some.inj h).symm (fun e_38 => ?_)
        subst e_38
        refine jx_inr ?_
        refine jx_thenr ?_
        refine jx_thenr ?_
        obtain rfl := Option.some.inj hr_31
        exact jx_ret [] (.int .i64 i_2) [] rfl (by kernel_rfl) (by kernel_rfl) (fun w hm => ⟨rfl, hm.pick [] (by kernel_rfl) (by kernel_rfl)⟩)
      · replace h := ifF hc_37 h
        refine jc_skip ?_
        refine jx_inn ?_
        refine jx_then ?_
        refine jc_region ?_
        refine jo_f [(0, 0), (0, 0)] (by kernel_rfl) ?_
        refine jo_end (by kernel_rfl) ?_
        exact jx_back (w64 (i_2 + 1)) () (Option.some.inj h).symm trivial [] (by kernel_rfl) (by kernel_rfl) (by kernel_rfl)
    · replace h := ifF hc_34 h
      refine jc_exit ?_
      refine jx_thenx ?_
      refine jx_leave (.inr ()) (Option.some.inj h).symm (fun e_39 => ?_)
      subst e_39
      refine jx_ine ?_
      exact jx_meet () hr_31 (by kernel_rfl) [] (by kernel_rfl) (by kernel_rfl)
  · rintro _ h
    replace h : slices_IndexFunc_Tune_at_impl_tuneCode_1.k_1 = some r := h
    rw [slices_IndexFunc_Tune_at_impl_tuneCode_1.k_1] at h
    refine jx_then ?_
    refine jc_seq ?_
    refine jc_region ?_
    refine jo_f [(0, 0)] (by kernel_rfl) ?_
    refine jo_end (by kernel_rfl) ?_
    refine jx_then ?_
    refine jc_ret ?_
    obtain rfl := Option.some.inj h
    exact jx_ret [] (.int .i64 (-1)) [] rfl (by kernel_rfl) (by kernel_rfl) (fun w hm => ⟨rfl, hm.pick [] (by kernel_rfl) (by kernel_rfl)⟩)

/-! ### slices.ContainsFunc[[]impl.Tune,impl.Tune] -/
noncomputable def slices_ContainsFunc_Tune_at_impl_tuneCode_1 (s0 : List (List GNote)) : Option (Bool) := (slices_IndexFunc_Tune_at_impl_tuneCode_1 s0).bind fun t_1 => some (decide (t_1 ≥ 0))
set_option maxRecDepth 100000 in
theorem slices_ContainsFunc_Tune_at_impl_tuneCode_1.calls (s0 : List (List GNote)) (w : World) (r : Bool) (s0_a : Option Addr) (s0_an : Nat) (s0_c : Nat) (s0_hs : List Hd) (s0_h : Rw w s0_a 1 encHd s0_hs) (s0_hn : s0.length = s0_an) (s0_i : Inn w [] 2 encGNote s0_hs s0) (h : slices_ContainsFunc_Tune_at_impl_tuneCode_1 s0 = some r) :
    Calls Tryz.prog 131 #[(.slice s0_a s0_an s0_c), (.func (.func 132) #[] #[])] w fun e w' => ∃ v, e = .returned v ∧ (v = (.bool r) ∧ Mem w [] [] w') := by
  subst s0_hn
  rw [slices_ContainsFunc_Tune_at_impl_tuneCode_1] at h
  refine enter (args := [(.slice s0_a s0.length s0_c), (.func (.func 132) #[] #[])]) Tryz.func131 rfl Tryz.ntmps131 (by kernel_rfl) (L := []) (W := []) (Mem.start w) ?_
  refine jc_seq ?_
  refine jc_region ?_
  refine jo_f [(0, 0)] (by kernel_rfl) ?_
  refine jo_end (by kernel_rfl) ?_
  refine jx_then ?_
  refine jc_seq ?_
  refine jc_region ?_
  refine jo_f [(0, 0), (0, 0)] (by kernel_rfl) ?_
  obtain ⟨t_1, ht_1, h⟩ := bd h
  refine toO (by kernel_rfl) (p_call 0 159 #[(.slice s0_a s0.length s0_c), (.func (.func 132) #[] #[])] (by kernel_rfl) (by kernel_rfl) (fun w hm => slices_IndexFunc_Tune_at_impl_tuneCode_1.calls s0 w _ s0_a s0.length s0_c s0_hs (hm.exRow s0_h List.not_mem_nil) rfl (hm.innPass (N := []) s0_i [] (by kernel_rfl)) ht_1) ?_)
  rintro w v w' hm ⟨rfl, hm'⟩
  refine ⟨_, hm.app hm', jkO ?_⟩
  clear hm hm'
  refine jo_f [(0, 0), (0, 0)] (by kernel_rfl) ?_
  refine jo_end (by kernel_rfl) ?_
  refine jx_then ?_
  refine jc_ret ?_
  obtain rfl := Option.some.inj h
  exact jx_ret [] (.bool (decide (t_1 ≥ 0))) [] rfl (by kernel_rfl) (by kernel_rfl) (fun w hm => ⟨rfl, hm.pick [] (by kernel_rfl) (by kernel_rfl)⟩)

/-! ### impl.tuneCode -/
noncomputable def impl_tuneCode (list0 : List (List GNote)) : Option (Int) := (slices_ContainsFunc_Tune_at_impl_tuneCode_1 list0).bind fun t_1 => (impl_unless (!t_1) 1).bind fun t_2 => some t_2
set_option maxRecDepth 100000 in
theorem impl_tuneCode.calls (list0 : List (List GNote)) (w : World) (r : Int) (list0_a : Option Addr) (list0_an : Nat) (list0_c : Nat) (list0_hs : List Hd) (list0_h : Rw w list0_a 1 encHd list0_hs) (list0_hn : list0.length = list0_an) (list0_i : Inn w [] 2 encGNote list0_hs list0) (h : impl_tuneCode list0 = some r) :
    Calls Tryz.prog 99 #[(.slice list0_a list0_an list0_c)] w fun e w' => ∃ v, e = .returned v ∧ (v = (.int .i64 r) ∧ Mem w [] [] w') := by
  subst list0_hn
  rw [impl_tuneCode] at h
  refine enter (args := [(.slice list0_a list0.length list0_c)]) Tryz.func99 rfl Tryz.ntmps99 (by kernel_rfl) (L := []) (W := []) (Mem.start w) ?_
  refine jc_seq ?_
  refine jc_region ?_
  refine jo_f [(0, 0)] (by kernel_rfl) ?_
  refine jo_end (by kernel_rfl) ?_
  refine jx_then ?_
  refine jc_seq ?_
  refine jc_region ?_
  refine jo_f [(0, 0)] (by kernel_rfl) ?_
  obtain ⟨t_1, ht_1, h⟩ := bd h
  refine toO (by kernel_rfl) (p_call 0 131 #[(.slice list0_a list0.length list0_c), (.func (.func 132) #[] #[])] (by kernel_rfl) (by kernel_rfl) (fun w hm => slices_ContainsFunc_Tune_at_impl_tuneCode_1.calls list0 w _ list0_a list0.length list0_c list0_hs (hm.exRow list0_h List.not_mem_nil) rfl (hm.innPass (N := []) list0_i [] (by kernel_rfl)) ht_1) ?_)
  rintro w v w' hm ⟨rfl, hm'⟩
  refine ⟨_, hm.app hm', jkO ?_⟩
  clear hm hm'
  refine jo_f [(0, 0)] (by kernel_rfl) ?_
  obtain ⟨t_2, ht_2, h⟩ := bd h
  refine toO (by kernel_rfl) (p_call 0 60 #[(.bool (!t_1)), (.int .i64 1)] (by kernel_rfl) (by kernel_rfl) (fun w hm => impl_unless.calls (!t_1) 1 w _ ht_2) ?_)
  rintro w v w' hm ⟨rfl, hm'⟩
  refine ⟨_, hm.app hm', jkO ?_⟩
  clear hm hm'
  refine jo_f [(0, 0)] (by kernel_rfl) ?_
  refine jo_end (by kernel_rfl) ?_
  refine jx_then ?_
  refine jc_ret ?_
  obtain rfl := Option.some.inj h
  exact jx_ret [] (.int .i64 t_2) [] rfl (by kernel_rfl) (by kernel_rfl) (fun w hm => ⟨rfl, hm.pick [] (by kernel_rfl) (by kernel_rfl)⟩)

/-! ### impl.firstOf -/
noncomputable def impl_firstOf.k_1 : Option (Int) := some 0
noncomputable def impl_firstOf.l_3 (codes0 : List Int) : Int → Option ((Int) ⊕ (Int ⊕ Unit))
  | i_2 => (if (decide (i_2 < (codes0.length : Int))) = true then (ix codes0 i_2).bind fun x_5 => (if (x_5 != 0) = true then some (.inr (.inl x_5)) else some (.inl (w64 (i_2 + 1)))) else some (.inr (.inr ())))
noncomputable def impl_firstOf (codes0 : List Int) : Option (Int) := (loop (impl_firstOf.l_3 codes0) 0).bind fun t_4 => match t_4 with | .inl p => some p | .inr p => impl_firstOf.k_1
set_option maxRecDepth 100000 in
theorem impl_firstOf.calls (codes0 : List Int) (w : World) (r : Int) (codes0_a : Option Addr) (codes0_an : Nat) (codes0_c : Nat) (codes0_h : Rw w codes0_a 1 encI64 codes0) (codes0_hn : codes0.length = codes0_an) (h : impl_firstOf codes0 = some r) :
    Calls Tryz.prog 67 #[(.slice codes0_a codes0_an codes0_c)] w fun e w' => ∃ v, e = .returned v ∧ (v = (.int .i64 r) ∧ Mem w [] [] w') := by
  subst codes0_hn
  rw [impl_firstOf] at h
  refine enter (args := [(.slice codes0_a codes0.length codes0_c)]) Tryz.func67 rfl Tryz.ntmps67 (by kernel_rfl) (L := []) (W := []) (Mem.start w) ?_
  refine jc_seq ?_
  refine jc_region ?_
  refine jo_f [(0, 0)] (by kernel_rfl) ?_
  refine jo_end (by kernel_rfl) ?_
  refine jx_then ?_
  refine jc_seq ?_
  refine jc_seq ?_
  refine jc_region ?_
  refine jo_f [(0, 0), (0, 0), (0, 0)] (by kernel_rfl) ?_
  refine jo_end (by kernel_rfl) ?_
  refine jx_then ?_
  refine jc_meet (fun (_ : Unit) => impl_firstOf.k_1 = some r) (fun (_ : Unit) => [(2, [], (.int .i64 0))]) (fun (_ : Unit) => []) ?_ ?_
  · refine jc_block ?_
    obtain ⟨t_4, ht_34, hr_26⟩ := bd h
    refine jc_loop (fun (s : Int) (x : Unit) => match s, x with | i_2, _ => True) (fun (s : Int) (x : Unit) => match s, x with | i_2, _ => [(2, [], (.int .i64 0)), (5, [], (.slice codes0_a codes0.length codes0_c)), (6, [], (.int .i64 (codes0.length : Int))), (7, [], (.int .i64 i_2))]) (fun (s : Int) (x : Unit) => match s, x with | i_2, _ => []) ht_34 () trivial (by kernel_rfl) [] (by kernel_rfl) (by kernel_rfl) ?_
    rintro i_2 _ y_27 _ h
    rw [impl_firstOf.l_3] at h
    refine jc_seq ?_
    refine jc_region ?_
    refine jo_f [(0, 0)] (by kernel_rfl) ?_
    refine jo_end (by kernel_rfl) ?_
    refine jx_then ?_
    refine jc_seq ?_
    refine jc_cond (decide (i_2 < (codes0.length : Int))) (by kernel_rfl) (fun hc_29 => ?_) (fun hc_29 => ?_)
    · replace h := ifT hc_29 h
      refine jc_skip ?_
      refine jx_then ?_
      refine jc_seq ?_
      refine jc_block ?_
      refine jc_seq ?_
      refine jc_region ?_
      obtain ⟨x_5, hx_30, h⟩ := bd h
      refine toO (by kernel_rfl) (p_idx 0 codes0_a codes0.length i_2 1 (by kernel_rfl) (by kernel_rfl) (ix_some hx_30).1 (ltn hx_30 rfl) (codes0_h.sp hx_30) (jkO ?_))
      refine toO (by kernel_rfl) (p_ld 0 (aB codes0_a) (aO codes0_a + i_2.toNat * 1) false (encI64 x_5) (by kernel_rfl) (by kernel_rfl) (by kernel_rfl) (fun w hm => ((hm.exRow codes0_h List.not_mem_nil).at hx_30)) (jkO ?_))
      refine jo_f [(0, 0)] (by kernel_rfl) ?_
      refine jo_end (by kernel_rfl) ?_
      refine jx_then ?_
      refine jc_seq ?_
      refine jc_region ?_
      refine jo_f [(0, 0), (0, 0)] (by kernel_rfl) ?_
      refine jo_end (by kernel_rfl) ?_
      refine jx_then ?_
      refine jc_cond (x_5 != 0) (by kernel_rfl) (fun hc_31 => ?_) (fun hc_31 => ?_)
      · replace h := ifT hc_31 h
        refine jc_seq ?_
        refine jc_region ?_
        refine jo_f [(0, 0), (0, 0)] (by kernel_rfl) ?_
        refine jo_end (by kernel_rfl) ?_
        refine jx_then ?_
        refine jc_ret ?_
        refine jx_inr ?_
        refine jx_thenr ?_
        refine jx_leaver (.inl x_5) (Option.some.inj h).symm (fun e_32 => ?_)
        subst e_32
        refine jx_inr ?_
        refine jx_thenr ?_
        refine jx_thenr ?_
        obtain rfl := Option.some.inj hr_26
        exact jx_ret [] (.int .i64 x_5) [] rfl (by kernel_rfl) (by kernel_rfl) (fun w hm => ⟨rfl, hm.pick [] (by kernel_rfl) (by kernel_rfl)⟩)
      · replace h := ifF hc_31 h
        refine jc_skip ?_
        refine jx_inn ?_
        refine jx_then ?_
        refine jc_region ?_
        refine jo_f [(0, 0), (0, 0)] (by kernel_rfl) ?_
        refine jo_end (by kernel_rfl) ?_
        exact jx_back (w64 (i_2 + 1)) () (Option.some.inj h).symm trivial [] (by kernel_rfl) (by kernel_rfl) (by kernel_rfl)
    · replace h := ifF hc_29 h
      refine jc_exit ?_
      refine jx_thenx ?_
      refine jx_leave (.inr ()) (Option.some.inj h).symm (fun e_33 => ?_)
      subst e_33
      refine jx_ine ?_
      exact jx_meet () hr_26 (by kernel_rfl) [] (by kernel_rfl) (by kernel_rfl)
  · rintro _ h
    replace h : impl_firstOf.k_1 = some r := h
    rw [impl_firstOf.k_1] at h
    refine jx_then ?_
    refine jc_seq ?_
    refine jc_region ?_
    refine jo_f [(0, 0)] (by kernel_rfl) ?_
    refine jo_end (by kernel_rfl) ?_
    refine jx_then ?_
    refine jc_ret ?_
    obtain rfl := Option.some.inj h
    exact jx_ret [] (.int .i64 0) [] rfl (by kernel_rfl) (by kernel_rfl) (fun w hm => ⟨rfl, hm.pick [] (by kernel_rfl) (by kernel_rfl)⟩)

/-! ### impl.tuneFrameCode -/
noncomputable def impl_tuneFrameCode (f0 : GFrame) (t1 : List GNote) (list2 : List GChoice) : Option (Int) := (impl_ValidFrame f0).bind fun t_1 => (impl_unless t_1 1).bind fun t_2 => (impl_tuneCode [t1]).bind fun t_3 => (impl_choicesCode list2).bind fun t_4 => (impl_firstOf [t_2, t_3, t_4]).bind fun t_5 => some t_5
set_option maxRecDepth 100000 in
theorem impl_tuneFrameCode.calls (f0 : GFrame) (t1 : List GNote) (list2 : List GChoice) (w : World) (r : Int) (f0_fHammers_a : Option Addr) (f0_fHammers_an : Nat) (f0_fHammers_c : Nat) (f0_fHammers_h : Rw w f0_fHammers_a 2 encGHammer f0.fHammers) (f0_fHammers_hn : f0.fHammers.length = f0_fHammers_an) (t1_a : Option Addr) (t1_an : Nat) (t1_c : Nat) (t1_h : Rw w t1_a 2 encGNote t1) (t1_hn : t1.length = t1_an) (list2_a : Option Addr) (list2_an : Nat) (list2_c : Nat) (list2_h : Rw w list2_a 4 encGChoice list2) (list2_hn : list2.length = list2_an) (h : impl_tuneFrameCode f0 t1 list2 = some r) :
    Calls Tryz.prog 68 #[(.agg #[(.int .i16 f0.fSteps), (.slice f0_fHammers_a f0_fHammers_an f0_fHammers_c)]), (.slice t1_a t1_an t1_c), (.slice list2_a list2_an list2_c)] w fun e w' => ∃ v, e = .returned v ∧ (v = (.int .i64 r) ∧ Mem w [] [] w') := by
  subst f0_fHammers_hn t1_hn list2_hn
  rw [impl_tuneFrameCode] at h
  refine enter (args := [(.agg #[(.int .i16 f0.fSteps), (.slice f0_fHammers_a f0.fHammers.length f0_fHammers_c)]), (.slice t1_a t1.length t1_c), (.slice list2_a list2.length list2_c)]) Tryz.func68 rfl Tryz.ntmps68 (by kernel_rfl) (L := []) (W := []) (Mem.start w) ?_
  refine jc_seq ?_
  refine jc_region ?_
  refine toO (by kernel_rfl) (p_a 0 [0] (by kernel_rfl) (fun b => by kernel_rfl) (fun b_1 => jkO ?_))
  refine jo_f [(0, 0)] (by kernel_rfl) ?_
  refine jo_end (by kernel_rfl) ?_
  refine jx_then ?_
  refine jc_seq ?_
  refine jc_region ?_
  refine jo_f [(0, 0)] (by kernel_rfl) ?_
  obtain ⟨t_1, ht_2, h⟩ := bd h
  refine toO (by kernel_rfl) (p_call 0 45 #[(.agg #[(.int .i16 f0.fSteps), (.slice f0_fHammers_a f0.fHammers.length f0_fHammers_c)])] (by kernel_rfl) (by kernel_rfl) (fun w hm => impl_ValidFrame.calls f0 w _ f0_fHammers_a f0.fHammers.length f0_fHammers_c (hm.exRow f0_fHammers_h List.not_mem_nil) rfl ht_2) ?_)
  rintro w v w' hm ⟨rfl, hm'⟩
  refine ⟨_, hm.app hm', jkO ?_⟩
  clear hm hm'
  obtain ⟨t_2, ht_3, h⟩ := bd h
  refine toO (by kernel_rfl) (p_call 0 60 #[(.bool t_1), (.int .i64 1)] (by kernel_rfl) (by kernel_rfl) (fun w hm => impl_unless.calls t_1 1 w _ ht_3) ?_)
  rintro w v w' hm ⟨rfl, hm'⟩
  refine ⟨_, hm.app hm', jkO ?_⟩
  clear hm hm'
  refine jo_f [(0, 0)] (by kernel_rfl) ?_
  refine toO (by kernel_rfl) (p_a 0 [0] (by kernel_rfl) (fun b => by kernel_rfl) (fun b_4 => jkO ?_))
  obtain ⟨t_3, ht_5, h⟩ := bd h
  refine toO (by kernel_rfl) (p_call 0 99 #[(.slice (some ⟨b_4, 0, none⟩) 1 1)] (by kernel_rfl) (by kernel_rfl) (fun w hm => impl_tuneCode.calls [t1] w _ (some ⟨b_4, 0, none⟩) 1 1 [⟨t1_a, t1.length, t1_c⟩] (hm.ownRow (hh := 1) (o := (some b_4)) (T := 29) (enc := encHd) (xs := [⟨t1_a, t1.length, t1_c⟩]) (sp := []) (by kernel_rfl) (fun e => nomatch e) encHd_len) rfl (Inn.cons (hm.exRow t1_h List.not_mem_nil) rfl (fun _ => List.not_mem_nil) Inn.nil) ht_5) ?_)
  rintro w v w' hm ⟨rfl, hm'⟩
  refine ⟨_, hm.app hm', jkO ?_⟩
  clear hm hm'
  refine jo_f [(0, 0)] (by kernel_rfl) ?_
  obtain ⟨t_4, ht_6, h⟩ := bd h
  refine toO (by kernel_rfl) (p_call 0 32 #[(.slice list2_a list2.length list2_c)] (by kernel_rfl) (by kernel_rfl) (fun w hm => impl_choicesCode.calls list2 w _ list2_a list2.length list2_c (hm.exRow list2_h List.not_mem_nil) rfl ht_6) ?_)
  rintro w v w' hm ⟨rfl, hm'⟩
  refine ⟨_, hm.app hm', jkO ?_⟩
  clear hm hm'
  refine toO (by kernel_rfl) (p_a 0 [0] (by kernel_rfl) (fun b => by kernel_rfl) (fun b_7 => jkO ?_))
  obtain ⟨t_5, ht_8, h⟩ := bd h
  refine toO (by kernel_rfl) (p_call 0 67 #[(.slice (some ⟨b_7, 0, none⟩) 3 3)] (by kernel_rfl) (by kernel_rfl) (fun w hm => impl_firstOf.calls [t_2, t_3, t_4] w _ (some ⟨b_7, 0, none⟩) 3 3 (hm.ownRow (hh := 2) (o := (some b_7)) (T := 2) (enc := encI64) (xs := [t_2, t_3, t_4]) (sp := []) (by kernel_rfl) (fun e => nomatch e) encI64_len) rfl ht_8) ?_)
  rintro w v w' hm ⟨rfl, hm'⟩
  refine ⟨_, hm.app hm', jkO ?_⟩
  clear hm hm'
  refine jo_f [(0, 0)] (by kernel_rfl) ?_
  refine jo_end (by kernel_rfl) ?_
  refine jx_then ?_
  refine jc_ret ?_
  obtain rfl := Option.some.inj h
  exact jx_ret [] (.int .i64 t_5) [] rfl (by kernel_rfl) (by kernel_rfl) (fun w hm => ⟨rfl, hm.pick [] (by kernel_rfl) (by kernel_rfl)⟩)

/-! ### impl.nearest -/
noncomputable def impl_nearest.k_2 (xs_1 : List Int) : Option ((List Int)) := some xs_1
noncomputable def impl_nearest.l_5 (most0 : Int) : ((List Int) × Int) → Option (((List Int) × Int) ⊕ ((List Int)))
  | (xs_3, i_4) => (if (decide (i_4 ≤ most0)) = true then (if xs_3.length + [(w8 (0 - i_4)), i_4].length ≤ 4294967296 then some (.inl ((xs_3 ++ [(w8 (0 - i_4)), i_4]), (w8 (i_4 + 1)))) else none) else some (.inr xs_3))
noncomputable def impl_nearest (most0 : Int) : Option ((List Int)) := (loop (impl_nearest.l_5 most0) ([0], 1)).bind fun t_6 => impl_nearest.k_2 t_6
set_option maxRecDepth 100000 in
theorem impl_nearest.calls (most0 : Int) (w : World) (r : (List Int)) (h : impl_nearest most0 = some r) :
    Calls Tryz.prog 86 #[(.int .i8 most0)] w fun e w' => ∃ v, e = .returned v ∧ (∃ (o0 : Option Nat) (c0 : Nat) (s0 : List Value) (n0 : Nat), r.length = n0 ∧ (o0 ≠ none → n0 ≤ c0 ∧ s0.length = (c0 - n0) * 1) ∧ (o0 = none → r = [] ∧ c0 = 0) ∧ v = .slice (o0.map fun b => ⟨b, 0, none⟩) n0 c0 ∧ Mem w [] [⟨o0, 54, row encI8 r s0⟩] w') := by
  rw [impl_nearest] at h
  refine enter (args := [(.int .i8 most0)]) Tryz.func86 rfl Tryz.ntmps86 (by kernel_rfl) (L := []) (W := []) (Mem.start w) ?_
  refine jc_seq ?_
  refine jc_region ?_
  refine jo_f [(0, 0)] (by kernel_rfl) ?_
  refine jo_end (by kernel_rfl) ?_
  refine jx_then ?_
  refine jc_seq ?_
  refine jc_region ?_
  refine toO (by kernel_rfl) (p_a 0 [0] (by kernel_rfl) (fun b => by kernel_rfl) (fun b_1 => jkO ?_))
  refine jo_f [(0, 0)] (by kernel_rfl) ?_
  refine jo_end (by kernel_rfl) ?_
  refine jx_then ?_
  refine jc_seq ?_
  refine jc_seq ?_
  refine jc_region ?_
  refine jo_f [(0, 0)] (by kernel_rfl) ?_
  refine jo_end (by kernel_rfl) ?_
  refine jx_then ?_
  refine jc_meet (fun (j : (List Int) × (Option Nat) × Nat × (List Value) × Nat) => match j with | ⟨xs_1, o_137, cap_138, sp_139, n_140⟩ => impl_nearest.k_2 xs_1 = some r ∧ (xs_1.length = n_140) ∧ ((o_137 ≠ none → n_140 ≤ cap_138 ∧ sp_139.length = (cap_138 - n_140) * 1)) ∧ ((o_137 = none → xs_1 = [] ∧ cap_138 = 0))) (fun (j : (List Int) × (Option Nat) × Nat × (List Value) × Nat) => match j with | ⟨xs_1, o_137, cap_138, sp_139, n_140⟩ => [(2, [], (.slice none 0 0)), (3, [], (.slice (o_137.map fun b => ⟨b, 0, none⟩) n_140 cap_138))]) (fun (j : (List Int) × (Option Nat) × Nat × (List Value) × Nat) => match j with | ⟨xs_1, o_137, cap_138, sp_139, n_140⟩ => [⟨o_137, 54, row encI8 xs_1 sp_139⟩]) ?_ ?_
  · refine jc_block ?_
    obtain ⟨t_6, ht_185, hr_173⟩ := bd h
    refine jc_loop (fun (s : (List Int) × Int) (x : (Option Nat) × Nat × (List Value) × Nat) => match s, x with | ⟨xs_3, i_4⟩, ⟨o_167, cap_168, sp_169, n_170⟩ => (xs_3.length = n_170) ∧ ((o_167 ≠ none → n_170 ≤ cap_168 ∧ sp_169.length = (cap_168 - n_170) * 1)) ∧ ((o_167 = none → xs_3 = [] ∧ cap_168 = 0))) (fun (s : (List Int) × Int) (x : (Option Nat) × Nat × (List Value) × Nat) => match s, x with | ⟨xs_3, i_4⟩, ⟨o_167, cap_168, sp_169, n_170⟩ => [(0, [], (.int .i8 most0)), (2, [], (.slice none 0 0)), (3, [], (.slice (o_167.map fun b => ⟨b, 0, none⟩) n_170 cap_168)), (4, [], (.int .i8 i_4))]) (fun (s : (List Int) × Int) (x : (Option Nat) × Nat × (List Value) × Nat) => match s, x with | ⟨xs_3, i_4⟩, ⟨o_167, cap_168, sp_169, n_170⟩ => [⟨o_167, 54, row encI8 xs_3 sp_169⟩]) ht_185 ⟨(some b_1), 1, [], 1⟩ ⟨rfl, (fun _ => ⟨Nat.le_refl _, by simp⟩), (fun e => nomatch e)⟩ (by kernel_rfl) [0] (by kernel_rfl) (by kernel_rfl) ?_
    rintro ⟨xs_3, i_4⟩ ⟨o_167, cap_168, sp_169, n_170⟩ y_174 ⟨rfl, hs_171, ho_172⟩ h
    rw [impl_nearest.l_5] at h
    refine jc_seq ?_
    refine jc_seq ?_
    refine jc_region ?_
    refine jo_f [(0, 0), (0, 0), (0, 0)] (by kernel_rfl) ?_
    refine jo_end (by kernel_rfl) ?_
    refine jx_then ?_
    refine jc_cond (decide (i_4 ≤ most0)) (by kernel_rfl) (fun hc_176 => ?_) (fun hc_176 => ?_)
    · replace h := ifT hc_176 h
      refine jc_skip ?_
      refine jx_then ?_
      refine jc_seq ?_
      refine jc_block ?_
      refine jc_region ?_
      refine jo_f [(0, 0), (0, 0), (0, 0), (0, 0)] (by kernel_rfl) ?_
      refine toO (by kernel_rfl) (p_a 0 [0] (by kernel_rfl) (fun b => by kernel_rfl) (fun b_177 => jkO ?_))
      obtain ⟨hg_178, h⟩ := gd h
      refine toO (by kernel_rfl) (p_apn 0 0 o_167 54 xs_3.length 2 cap_168 1 1 (some ⟨b_177, 0, none⟩) encI8 xs_3 [(w8 (0 - i_4)), i_4] sp_169 (.int .i8 0) rfl rfl (by kernel_rfl) (by kernel_rfl) (by kernel_rfl) encI8_len encI8_cell hs_171 ho_172 (fun w hm => (hm.ownRow (hh := 1) (o := (some b_177)) (T := 54) (enc := encI8) (xs := [(w8 (0 - i_4)), i_4]) (sp := []) (by kernel_rfl) (fun e => nomatch e) encI8_len)) hg_178 (by kernel_rfl) (by kernel_rfl) (fun o_179 cap_180 sp_181 hs_182 ho_183 => jkO ?_))
      refine jo_f [(0, 0)] (by kernel_rfl) ?_
      refine jo_end (by kernel_rfl) ?_
      refine jx_inn ?_
      refine jx_then ?_
      refine jc_region ?_
      refine jo_f [(0, 0), (0, 0), (0, 0)] (by kernel_rfl) ?_
      refine jo_end (by kernel_rfl) ?_
      exact jx_back ((xs_3 ++ [(w8 (0 - i_4)), i_4]), (w8 (i_4 + 1))) ⟨o_179, cap_180, sp_181, (xs_3 ++ [(w8 (0 - i_4)), i_4]).length⟩ (Option.some.inj h).symm ⟨rfl, hs_182, ho_183⟩ [0] (by kernel_rfl) (by kernel_rfl) (by kernel_rfl)
    · replace h := ifF hc_176 h
      refine jc_exit ?_
      refine jx_thenx ?_
      refine jx_leave xs_3 (Option.some.inj h).symm (fun e_184 => ?_)
      subst e_184
      refine jx_ine ?_
      exact jx_meet ⟨xs_3, o_167, cap_168, sp_169, xs_3.length⟩ ⟨hr_173, rfl, hs_171, ho_172⟩ (by kernel_rfl) [0] (by kernel_rfl) (by kernel_rfl)
  · rintro ⟨xs_1, o_137, cap_138, sp_139, n_140⟩ ⟨h, rfl, hs_141, ho_142⟩
    replace h : impl_nearest.k_2 xs_1 = some r := h
    rw [impl_nearest.k_2] at h
    refine jx_then ?_
    refine jc_seq ?_
    refine jc_region ?_
    refine jo_f [(0, 0), (0, 0)] (by kernel_rfl) ?_
    refine jo_end (by kernel_rfl) ?_
    refine jx_then ?_
    refine jc_ret ?_
    obtain rfl := Option.some.inj h
    exact jx_ret [] (.slice (o_137.map fun b => ⟨b, 0, none⟩) xs_1.length cap_138) [] rfl (by kernel_rfl) (by kernel_rfl) (fun w hm => ⟨o_137, cap_138, sp_139, xs_1.length, rfl, hs_141, ho_142, rfl, hm.pick [0] (by kernel_rfl) (by kernel_rfl)⟩)

/-! ### (impl.Frame).choices -/
noncomputable def impl_Frame_choices.k_3 (xs_2 : List GChoice) : Option ((List GChoice)) := (if xs_2.length + [(⟨true, 0, 0, 0⟩ : GChoice)].length ≤ 4294967296 then some (xs_2 ++ [(⟨true, 0, 0, 0⟩ : GChoice)]) else none)
noncomputable def impl_Frame_choices.k_11 (i_5 : Int) (xs_10 : List GChoice) : Option (((List GChoice) × Int) ⊕ ((List GChoice))) := some (.inl (xs_10, (w64 (i_5 + 1))))
noncomputable def impl_Frame_choices.k_18 (i_13 : Int) (xs_17 : List GChoice) : Option (((List GChoice) × Int) ⊕ ((List GChoice))) := some (.inl (xs_17, (w64 (i_13 + 1))))
noncomputable def impl_Frame_choices.l_21 (f0 : GFrame) (n1 : GNote) (x_8 : Int) (x_16 : Int) : ((List GChoice) × Int) → Option (((List GChoice) × Int) ⊕ ((List GChoice)))
  | (xs_19, i_20) => (if (decide (i_20 < (f0.fHammers.length : Int))) = true then (ix f0.fHammers i_20).bind fun x_23 => (impl_within (w64 ((w64 n1.fAt) + (w64 x_8))) 0 (w64 ((w64 f0.fSteps) - 1))).bind fun t_24 => (if (t_24 && ((w64 x_23.fPitch) == (w64 ((w64 n1.fPitch) + (w64 (12 * (w64 x_16))))))) = true then (if xs_19.length + [(⟨false, x_8, x_16, (w8 i_20)⟩ : GChoice)].length ≤ 4294967296 then some (.inl ((xs_19 ++ [(⟨false, x_8, x_16, (w8 i_20)⟩ : GChoice)]), (w64 (i_20 + 1)))) else none) else some (.inl (xs_19, (w64 (i_20 + 1))))) else some (.inr xs_19))
noncomputable def impl_Frame_choices.l_14 (f0 : GFrame) (n1 : GNote) (x_8 : Int) (t_9 : (List Int)) : ((List GChoice) × Int) → Option (((List GChoice) × Int) ⊕ ((List GChoice)))
  | (xs_12, i_13) => (if (decide (i_13 < (t_9.length : Int))) = true then (ix t_9 i_13).bind fun x_16 => (loop (impl_Frame_choices.l_21 f0 n1 x_8 x_16) (xs_12, 0)).bind fun t_22 => impl_Frame_choices.k_18 i_13 t_22 else some (.inr xs_12))
noncomputable def impl_Frame_choices.l_6 (f0 : GFrame) (n1 : GNote) (t_1 : (List Int)) : ((List GChoice) × Int) → Option (((List GChoice) × Int) ⊕ ((List GChoice)))
  | (xs_4, i_5) => (if (decide (i_5 < (t_1.length : Int))) = true then (ix t_1 i_5).bind fun x_8 => (impl_nearest 1).bind fun t_9 => (loop (impl_Frame_choices.l_14 f0 n1 x_8 t_9) (xs_4, 0)).bind fun t_15 => impl_Frame_choices.k_11 i_5 t_15 else some (.inr xs_4))
noncomputable def impl_Frame_choices (f0 : GFrame) (n1 : GNote) : Option ((List GChoice)) := (impl_nearest 3).bind fun t_1 => (loop (impl_Frame_choices.l_6 f0 n1 t_1) (([] : List GChoice), 0)).bind fun t_7 => impl_Frame_choices.k_3 t_7
set_option maxRecDepth 100000 in
theorem impl_Frame_choices.calls (f0 : GFrame) (n1 : GNote) (w : World) (r : (List GChoice)) (f0_fHammers_a : Option Addr) (f0_fHammers_an : Nat) (f0_fHammers_c : Nat) (f0_fHammers_h : Rw w f0_fHammers_a 2 encGHammer f0.fHammers) (f0_fHammers_hn : f0.fHammers.length = f0_fHammers_an) (h : impl_Frame_choices f0 n1 = some r) :
    Calls Tryz.prog 47 #[(.agg #[(.int .i16 f0.fSteps), (.slice f0_fHammers_a f0_fHammers_an f0_fHammers_c)]), (.agg #[(.int .i16 n1.fAt), (.int .i8 n1.fPitch)])] w fun e w' => ∃ v, e = .returned v ∧ (∃ (o0 : Option Nat) (c0 : Nat) (s0 : List Value) (n0 : Nat), r.length = n0 ∧ (o0 ≠ none → n0 ≤ c0 ∧ s0.length = (c0 - n0) * 4) ∧ (o0 = none → r = [] ∧ c0 = 0) ∧ v = .slice (o0.map fun b => ⟨b, 0, none⟩) n0 c0 ∧ Mem w [] [⟨o0, 58, row encGChoice r s0⟩] w') := by
  subst f0_fHammers_hn
  rw [impl_Frame_choices] at h
  refine enter (args := [(.agg #[(.int .i16 f0.fSteps), (.slice f0_fHammers_a f0.fHammers.length f0_fHammers_c)]), (.agg #[(.int .i16 n1.fAt), (.int .i8 n1.fPitch)])]) Tryz.func47 rfl Tryz.ntmps47 (by kernel_rfl) (L := []) (W := []) (Mem.start w) ?_
  refine jc_seq ?_
  refine jc_region ?_
  refine toO (by kernel_rfl) (p_a 0 [0] (by kernel_rfl) (fun b => by kernel_rfl) (fun b_1 => jkO ?_))
  refine toO (by kernel_rfl) (p_a 0 [0] (by kernel_rfl) (fun b => by kernel_rfl) (fun b_2 => jkO ?_))
  refine jo_f [(0, 0)] (by kernel_rfl) ?_
  refine jo_end (by kernel_rfl) ?_
  refine jx_then ?_
  refine jc_seq ?_
  refine jc_region ?_
  refine toO (by kernel_rfl) (p_a 0 [0] (by kernel_rfl) (fun b => by kernel_rfl) (fun b_3 => jkO ?_))
  refine jo_f [(0, 0)] (by kernel_rfl) ?_
  refine jo_end (by kernel_rfl) ?_
  refine jx_then ?_
  refine jc_seq ?_
  refine jc_seq ?_
  refine jc_region ?_
  obtain ⟨t_1, ht_4830, h⟩ := bd h
  refine toO (by kernel_rfl) (p_call 0 86 #[(.int .i8 3)] (by kernel_rfl) (by kernel_rfl) (fun w hm => impl_nearest.calls 3 w _ ht_4830) ?_)
  rintro w v w' hm ⟨o_4831, cap_4832, sp_4833, _, rfl, hs_4834, ho_4835, rfl, hm'⟩
  refine ⟨_, hm.app hm', jkO ?_⟩
  clear hm hm'
  refine jo_f [(0, 0), (0, 0)] (by kernel_rfl) ?_
  refine jo_end (by kernel_rfl) ?_
  refine jx_then ?_
  refine jc_meet (fun (j : (List GChoice) × (Option Nat) × Nat × (List Value) × Nat) => match j with | ⟨xs_2, o_7243, cap_7244, sp_7245, n_7246⟩ => impl_Frame_choices.k_3 xs_2 = some r ∧ (xs_2.length = n_7246) ∧ ((o_7243 ≠ none → n_7246 ≤ cap_7244 ∧ sp_7245.length = (cap_7244 - n_7246) * 4)) ∧ ((o_7243 = none → xs_2 = [] ∧ cap_7244 = 0))) (fun (j : (List GChoice) × (Option Nat) × Nat × (List Value) × Nat) => match j with | ⟨xs_2, o_7243, cap_7244, sp_7245, n_7246⟩ => [(4, [], (.slice none 0 0)), (5, [], (.slice (o_7243.map fun b => ⟨b, 0, none⟩) n_7246 cap_7244))]) (fun (j : (List GChoice) × (Option Nat) × Nat × (List Value) × Nat) => match j with | ⟨xs_2, o_7243, cap_7244, sp_7245, n_7246⟩ => [⟨some b_1, 27, [(.int .i16 f0.fSteps), (.slice f0_fHammers_a f0.fHammers.length f0_fHammers_c)]⟩, ⟨some b_2, 56, [(.int .i16 n1.fAt), (.int .i8 n1.fPitch)]⟩, ⟨o_7243, 58, row encGChoice xs_2 sp_7245⟩, ⟨o_4831, 54, row encI8 t_1 sp_4833⟩]) ?_ ?_
  · refine jc_block ?_
    obtain ⟨t_7, ht_9662, hr_8862⟩ := bd h
    refine jc_loop (fun (s : (List GChoice) × Int) (x : (Option Nat) × Nat × (List Value) × Nat) => match s, x with | ⟨xs_4, i_5⟩, ⟨o_8856, cap_8857, sp_8858, n_8859⟩ => (xs_4.length = n_8859) ∧ ((o_8856 ≠ none → n_8859 ≤ cap_8857 ∧ sp_8858.length = (cap_8857 - n_8859) * 4)) ∧ ((o_8856 = none → xs_4 = [] ∧ cap_8857 = 0))) (fun (s : (List GChoice) × Int) (x : (Option Nat) × Nat × (List Value) × Nat) => match s, x with | ⟨xs_4, i_5⟩, ⟨o_8856, cap_8857, sp_8858, n_8859⟩ => [(2, [], (.pointer (some ⟨b_1, 0, none⟩))), (3, [], (.pointer (some ⟨b_2, 0, none⟩))), (4, [], (.slice none 0 0)), (5, [], (.slice (o_8856.map fun b => ⟨b, 0, none⟩) n_8859 cap_8857)), (15, [], (.slice (o_4831.map fun b => ⟨b, 0, none⟩) t_1.length cap_4832)), (16, [], (.int .i64 (t_1.length : Int))), (17, [], (.int .i64 i_5))]) (fun (s : (List GChoice) × Int) (x : (Option Nat) × Nat × (List Value) × Nat) => match s, x with | ⟨xs_4, i_5⟩, ⟨o_8856, cap_8857, sp_8858, n_8859⟩ => [⟨some b_1, 27, [(.int .i16 f0.fSteps), (.slice f0_fHammers_a f0.fHammers.length f0_fHammers_c)]⟩, ⟨some b_2, 56, [(.int .i16 n1.fAt), (.int .i8 n1.fPitch)]⟩, ⟨o_8856, 58, row encGChoice xs_4 sp_8858⟩, ⟨o_4831, 54, row encI8 t_1 sp_4833⟩]) ht_9662 ⟨(some b_3), 0, [], 0⟩ ⟨rfl, (fun _ => ⟨Nat.le_refl _, by simp⟩), (fun e => nomatch e)⟩ (by kernel_rfl) [0, 1, 2, 3] (by kernel_rfl) (by kernel_rfl) ?_
    rintro ⟨xs_4, i_5⟩ ⟨o_8856, cap_8857, sp_8858, n_8859⟩ y_8863 ⟨rfl, hs_8860, ho_8861⟩ h
    rw [impl_Frame_choices.l_6] at h
    refine jc_seq ?_
    refine jc_region ?_
    refine jo_f [(0, 0)] (by kernel_rfl) ?_
    refine jo_end (by kernel_rfl) ?_
    refine jx_then ?_
    refine jc_seq ?_
    refine jc_cond (decide (i_5 < (t_1.length : Int))) (by kernel_rfl) (fun hc_8865 => ?_) (fun hc_8865 => ?_)
    · replace h := ifT hc_8865 h
      refine jc_skip ?_
      refine jx_then ?_
      refine jc_seq ?_
      refine jc_block ?_
      refine jc_seq ?_
      refine jc_region ?_
      obtain ⟨x_8, hx_8866, h⟩ := bd h
      refine toO (by kernel_rfl) (p_idx 0 (o_4831.map fun b => ⟨b, 0, none⟩) t_1.length i_5 1 (by kernel_rfl) (by kernel_rfl) (ix_some hx_8866).1 (ltn hx_8866 rfl) (spo ho_4835 hx_8866) (jkO ?_))
      refine toO (by kernel_rfl) (p_ld 0 (aB (o_4831.map fun b => ⟨b, 0, none⟩)) (aO (o_4831.map fun b => ⟨b, 0, none⟩) + i_5.toNat * 1) false (encI8 x_8) (by kernel_rfl) (by kernel_rfl) (by kernel_rfl) (fun w hm => ((hm.ownRow (hh := 3) (o := o_4831) (T := 54) (enc := encI8) (xs := t_1) (sp := sp_4833) (by kernel_rfl) (fun e => (ho_4835 e).1) encI8_len).at hx_8866)) (jkO ?_))
      refine jo_f [(0, 0)] (by kernel_rfl) ?_
      refine jo_end (by kernel_rfl) ?_
      refine jx_then ?_
      refine jc_seq ?_
      refine jc_region ?_
      obtain ⟨t_9, ht_8867, h⟩ := bd h
      refine toO (by kernel_rfl) (p_call 0 86 #[(.int .i8 1)] (by kernel_rfl) (by kernel_rfl) (fun w hm => impl_nearest.calls 1 w _ ht_8867) ?_)
      rintro w v w' hm ⟨o_8868, cap_8869, sp_8870, _, rfl, hs_8871, ho_8872, rfl, hm'⟩
      refine ⟨_, hm.app hm', jkO ?_⟩
      clear hm hm'
      refine jo_f [(0, 0), (0, 0)] (by kernel_rfl) ?_
      refine jo_end (by kernel_rfl) ?_
      refine jx_then ?_
      refine jc_meet (fun (j : (List GChoice) × (Option Nat) × Nat × (List Value) × Nat) => match j with | ⟨xs_10, o_9264, cap_9265, sp_9266, n_9267⟩ => impl_Frame_choices.k_11 i_5 xs_10 = some y_8863 ∧ (xs_10.length = n_9267) ∧ ((o_9264 ≠ none → n_9267 ≤ cap_9265 ∧ sp_9266.length = (cap_9265 - n_9267) * 4)) ∧ ((o_9264 = none → xs_10 = [] ∧ cap_9265 = 0))) (fun (j : (List GChoice) × (Option Nat) × Nat × (List Value) × Nat) => match j with | ⟨xs_10, o_9264, cap_9265, sp_9266, n_9267⟩ => [(2, [], (.pointer (some ⟨b_1, 0, none⟩))), (3, [], (.pointer (some ⟨b_2, 0, none⟩))), (4, [], (.slice none 0 0)), (5, [], (.slice (o_9264.map fun b => ⟨b, 0, none⟩) n_9267 cap_9265)), (15, [], (.slice (o_4831.map fun b => ⟨b, 0, none⟩) t_1.length cap_4832)), (16, [], (.int .i64 (t_1.length : Int))), (17, [], (.int .i64 i_5))]) (fun (j : (List GChoice) × (Option Nat) × Nat × (List Value) × Nat) => match j with | ⟨xs_10, o_9264, cap_9265, sp_9266, n_9267⟩ => [⟨some b_1, 27, [(.int .i16 f0.fSteps), (.slice f0_fHammers_a f0.fHammers.length f0_fHammers_c)]⟩, ⟨some b_2, 56, [(.int .i16 n1.fAt), (.int .i8 n1.fPitch)]⟩, ⟨o_9264, 58, row encGChoice xs_10 sp_9266⟩, ⟨o_4831, 54, row encI8 t_1 sp_4833⟩, ⟨o_8868, 54, row encI8 t_9 sp_8870⟩]) ?_ ?_
      · refine jc_block ?_
        obtain ⟨t_15, ht_9660, hr_9532⟩ := bd h
        refine jc_loop (fun (s : (List GChoice) × Int) (x : (Option Nat) × Nat × (List Value) × Nat) => match s, x with | ⟨xs_12, i_13⟩, ⟨o_9526, cap_9527, sp_9528, n_9529⟩ => (xs_12.length = n_9529) ∧ ((o_9526 ≠ none → n_9529 ≤ cap_9527 ∧ sp_9528.length = (cap_9527 - n_9529) * 4)) ∧ ((o_9526 = none → xs_12 = [] ∧ cap_9527 = 0))) (fun (s : (List GChoice) × Int) (x : (Option Nat) × Nat × (List Value) × Nat) => match s, x with | ⟨xs_12, i_13⟩, ⟨o_9526, cap_9527, sp_9528, n_9529⟩ => [(2, [], (.pointer (some ⟨b_1, 0, none⟩))), (3, [], (.pointer (some ⟨b_2, 0, none⟩))), (4, [], (.slice none 0 0)), (5, [], (.slice (o_9526.map fun b => ⟨b, 0, none⟩) n_9529 cap_9527)), (7, [], (.int .i8 x_8)), (15, [], (.slice (o_4831.map fun b => ⟨b, 0, none⟩) t_1.length cap_4832)), (16, [], (.int .i64 (t_1.length : Int))), (17, [], (.int .i64 i_5)), (21, [], (.slice (o_8868.map fun b => ⟨b, 0, none⟩) t_9.length cap_8869)), (22, [], (.int .i64 (t_9.length : Int))), (23, [], (.int .i64 i_13))]) (fun (s : (List GChoice) × Int) (x : (Option Nat) × Nat × (List Value) × Nat) => match s, x with | ⟨xs_12, i_13⟩, ⟨o_9526, cap_9527, sp_9528, n_9529⟩ => [⟨some b_1, 27, [(.int .i16 f0.fSteps), (.slice f0_fHammers_a f0.fHammers.length f0_fHammers_c)]⟩, ⟨some b_2, 56, [(.int .i16 n1.fAt), (.int .i8 n1.fPitch)]⟩, ⟨o_9526, 58, row encGChoice xs_12 sp_9528⟩, ⟨o_4831, 54, row encI8 t_1 sp_4833⟩, ⟨o_8868, 54, row encI8 t_9 sp_8870⟩]) ht_9660 ⟨o_8856, cap_8857, sp_8858, xs_4.length⟩ ⟨rfl, hs_8860, ho_8861⟩ (by kernel_rfl) [0, 1, 2, 3, 4] (by kernel_rfl) (by kernel_rfl) ?_
        rintro ⟨xs_12, i_13⟩ ⟨o_9526, cap_9527, sp_9528, n_9529⟩ y_9533 ⟨rfl, hs_9530, ho_9531⟩ h
        rw [impl_Frame_choices.l_14] at h
        refine jc_seq ?_
        refine jc_region ?_
        refine jo_f [(0, 0)] (by kernel_rfl) ?_
        refine jo_end (by kernel_rfl) ?_
        refine jx_then ?_
        refine jc_seq ?_
        refine jc_cond (decide (i_13 < (t_9.length : Int))) (by kernel_rfl) (fun hc_9535 => ?_) (fun hc_9535 => ?_)
        · replace h := ifT hc_9535 h
          refine jc_skip ?_
          refine jx_then ?_
          refine jc_seq ?_
          refine jc_block ?_
          refine jc_seq ?_
          refine jc_region ?_
          obtain ⟨x_16, hx_9536, h⟩ := bd h
          refine toO (by kernel_rfl) (p_idx 0 (o_8868.map fun b => ⟨b, 0, none⟩) t_9.length i_13 1 (by kernel_rfl) (by kernel_rfl) (ix_some hx_9536).1 (ltn hx_9536 rfl) (spo ho_8872 hx_9536) (jkO ?_))
          refine toO (by kernel_rfl) (p_ld 0 (aB (o_8868.map fun b => ⟨b, 0, none⟩)) (aO (o_8868.map fun b => ⟨b, 0, none⟩) + i_13.toNat * 1) false (encI8 x_16) (by kernel_rfl) (by kernel_rfl) (by kernel_rfl) (fun w hm => ((hm.ownRow (hh := 4) (o := o_8868) (T := 54) (enc := encI8) (xs := t_9) (sp := sp_8870) (by kernel_rfl) (fun e => (ho_8872 e).1) encI8_len).at hx_9536)) (jkO ?_))
          refine jo_f [(0, 0)] (by kernel_rfl) ?_
          refine jo_end (by kernel_rfl) ?_
          refine jx_then ?_
          refine jc_seq ?_
          refine jc_region ?_
          refine jo_f [(0, 0), (0, 0), (0, 0), (0, 0)] (by kernel_rfl) ?_
          refine jo_end (by kernel_rfl) ?_
          refine jx_then ?_
          refine jc_meet (fun (j : (List GChoice) × (Option Nat) × Nat × (List Value) × Nat) => match j with | ⟨xs_17, o_9595, cap_9596, sp_9597, n_9598⟩ => impl_Frame_choices.k_18 i_13 xs_17 = some y_9533 ∧ (xs_17.length = n_9598) ∧ ((o_9595 ≠ none → n_9598 ≤ cap_9596 ∧ sp_9597.length = (cap_9596 - n_9598) * 4)) ∧ ((o_9595 = none → xs_17 = [] ∧ cap_9596 = 0))) (fun (j : (List GChoice) × (Option Nat) × Nat × (List Value) × Nat) => match j with | ⟨xs_17, o_9595, cap_9596, sp_9597, n_9598⟩ => [(2, [], (.pointer (some ⟨b_1, 0, none⟩))), (3, [], (.pointer (some ⟨b_2, 0, none⟩))), (4, [], (.slice none 0 0)), (5, [], (.slice (o_9595.map fun b => ⟨b, 0, none⟩) n_9598 cap_9596)), (7, [], (.int .i8 x_8)), (15, [], (.slice (o_4831.map fun b => ⟨b, 0, none⟩) t_1.length cap_4832)), (16, [], (.int .i64 (t_1.length : Int))), (17, [], (.int .i64 i_5)), (21, [], (.slice (o_8868.map fun b => ⟨b, 0, none⟩) t_9.length cap_8869)), (22, [], (.int .i64 (t_9.length : Int))), (23, [], (.int .i64 i_13))]) (fun (j : (List GChoice) × (Option Nat) × Nat × (List Value) × Nat) => match j with | ⟨xs_17, o_9595, cap_9596, sp_9597, n_9598⟩ => [⟨some b_1, 27, [(.int .i16 f0.fSteps), (.slice f0_fHammers_a f0.fHammers.length f0_fHammers_c)]⟩, ⟨some b_2, 56, [(.int .i16 n1.fAt), (.int .i8 n1.fPitch)]⟩, ⟨o_9595, 58, row encGChoice xs_17 sp_9597⟩, ⟨o_4831, 54, row encI8 t_1 sp_4833⟩, ⟨o_8868, 54, row encI8 t_9 sp_8870⟩]) ?_ ?_
          · refine jc_block ?_
            obtain ⟨t_22, ht_9658, hr_9641⟩ := bd h
            refine jc_loop (fun (s : (List GChoice) × Int) (x : (Option Nat) × Nat × (List Value) × Nat) => match s, x with | ⟨xs_19, i_20⟩, ⟨o_9635, cap_9636, sp_9637, n_9638⟩ => (xs_19.length = n_9638) ∧ ((o_9635 ≠ none → n_9638 ≤ cap_9636 ∧ sp_9637.length = (cap_9636 - n_9638) * 4)) ∧ ((o_9635 = none → xs_19 = [] ∧ cap_9636 = 0))) (fun (s : (List GChoice) × Int) (x : (Option Nat) × Nat × (List Value) × Nat) => match s, x with | ⟨xs_19, i_20⟩, ⟨o_9635, cap_9636, sp_9637, n_9638⟩ => [(2, [], (.pointer (some ⟨b_1, 0, none⟩))), (3, [], (.pointer (some ⟨b_2, 0, none⟩))), (4, [], (.slice none 0 0)), (5, [], (.slice (o_9635.map fun b => ⟨b, 0, none⟩) n_9638 cap_9636)), (7, [], (.int .i8 x_8)), (9, [], (.int .i8 x_16)), (15, [], (.slice (o_4831.map fun b => ⟨b, 0, none⟩) t_1.length cap_4832)), (16, [], (.int .i64 (t_1.length : Int))), (17, [], (.int .i64 i_5)), (21, [], (.slice (o_8868.map fun b => ⟨b, 0, none⟩) t_9.length cap_8869)), (22, [], (.int .i64 (t_9.length : Int))), (23, [], (.int .i64 i_13)), (28, [], (.slice f0_fHammers_a f0.fHammers.length f0_fHammers_c)), (29, [], (.int .i64 (f0.fHammers.length : Int))), (30, [], (.int .i64 i_20))]) (fun (s : (List GChoice) × Int) (x : (Option Nat) × Nat × (List Value) × Nat) => match s, x with | ⟨xs_19, i_20⟩, ⟨o_9635, cap_9636, sp_9637, n_9638⟩ => [⟨some b_1, 27, [(.int .i16 f0.fSteps), (.slice f0_fHammers_a f0.fHammers.length f0_fHammers_c)]⟩, ⟨some b_2, 56, [(.int .i16 n1.fAt), (.int .i8 n1.fPitch)]⟩, ⟨o_9635, 58, row encGChoice xs_19 sp_9637⟩, ⟨o_4831, 54, row encI8 t_1 sp_4833⟩, ⟨o_8868, 54, row encI8 t_9 sp_8870⟩]) ht_9658 ⟨o_9526, cap_9527, sp_9528, xs_12.length⟩ ⟨rfl, hs_9530, ho_9531⟩ (by kernel_rfl) [0, 1, 2, 3, 4] (by kernel_rfl) (by kernel_rfl) ?_
            rintro ⟨xs_19, i_20⟩ ⟨o_9635, cap_9636, sp_9637, n_9638⟩ y_9642 ⟨rfl, hs_9639, ho_9640⟩ h
            rw [impl_Frame_choices.l_21] at h
            refine jc_seq ?_
            refine jc_region ?_
            refine jo_f [(0, 0)] (by kernel_rfl) ?_
            refine jo_end (by kernel_rfl) ?_
            refine jx_then ?_
            refine jc_seq ?_
            refine jc_cond (decide (i_20 < (f0.fHammers.length : Int))) (by kernel_rfl) (fun hc_9644 => ?_) (fun hc_9644 => ?_)
            · replace h := ifT hc_9644 h
              refine jc_skip ?_
              refine jx_then ?_
              refine jc_seq ?_
              refine jc_block ?_
              refine jc_seq ?_
              refine jc_region ?_
              refine jo_f [(0, 0)] (by kernel_rfl) ?_
              obtain ⟨x_23, hx_9645, h⟩ := bd h
              refine toO (by kernel_rfl) (p_idx 0 f0_fHammers_a f0.fHammers.length i_20 2 (by kernel_rfl) (by kernel_rfl) (ix_some hx_9645).1 (ltn hx_9645 rfl) (f0_fHammers_h.sp hx_9645) (jkO ?_))
              refine toO (by kernel_rfl) (p_ld 0 (aB f0_fHammers_a) (aO f0_fHammers_a + i_20.toNat * 2) true (encGHammer x_23) (by kernel_rfl) (by kernel_rfl) (by kernel_rfl) (fun w hm => ((hm.exRow f0_fHammers_h List.not_mem_nil).at hx_9645)) (jkO ?_))
              refine toO (by kernel_rfl) (p_a 0 [0] (by kernel_rfl) (fun b => by kernel_rfl) (fun b_9646 => jkO ?_))
              refine jo_f [(0, 0)] (by kernel_rfl) ?_
              refine toO (by kernel_rfl) (p_s 0 [5] (by kernel_rfl) (by kernel_rfl) (jkO ?_))
              refine jo_end (by kernel_rfl) ?_
              refine jx_then ?_
              refine jc_seq ?_
              refine jc_draw [⟨some b_1, 27, [(.int .i16 f0.fSteps), (.slice f0_fHammers_a f0.fHammers.length f0_fHammers_c)]⟩, ⟨some b_2, 56, [(.int .i16 n1.fAt), (.int .i8 n1.fPitch)]⟩, ⟨o_9635, 58, row encGChoice xs_19 sp_9637⟩, ⟨o_4831, 54, row encI8 t_1 sp_4833⟩, ⟨o_8868, 54, row encI8 t_9 sp_8870⟩, ⟨some b_9646, 63, [(.int .i8 x_23.fPitch), (.int .i8 x_23.fReady)]⟩] 15 (by kernel_rfl) (by kernel_rfl) ?_
              refine jd_f [⟨0, 0, 0⟩, ⟨1, 1, 0⟩, ⟨2, 0, 0⟩, ⟨3, 0, 0⟩, ⟨4, 0, 0⟩, ⟨5, 0, 0⟩, ⟨6, 0, 0⟩, ⟨7, 1, 0⟩, ⟨8, 0, 0⟩, ⟨9, 0, 0⟩, ⟨10, 0, 0⟩, ⟨11, 0, 0⟩, ⟨12, 0, 0⟩, ⟨13, 0, 0⟩, ⟨14, 0, 0⟩] 0 (by kernel_rfl) (by kernel_rfl) (fun w h => h.pick [0, 1, 2, 3, 4, 5] (by kernel_rfl) (by kernel_rfl)) (by kernel_rfl) (by kernel_rfl) ?_
              refine jd_end (by kernel_rfl) ?_
              refine jx_then ?_
              refine jc_seq ?_
              refine jc_region ?_
              refine jo_f [(0, 0), (0, 0), (0, 0), (0, 0), (0, 0)] (by kernel_rfl) ?_
              obtain ⟨t_24, ht_9648, h⟩ := bd h
              refine toO (by kernel_rfl) (p_call 0 50 #[(.int .i64 (w64 ((w64 n1.fAt) + (w64 x_8)))), (.int .i64 0), (.int .i64 (w64 ((w64 f0.fSteps) - 1)))] (by kernel_rfl) (by kernel_rfl) (fun w hm => impl_within.calls (w64 ((w64 n1.fAt) + (w64 x_8))) 0 (w64 ((w64 f0.fSteps) - 1)) w _ ht_9648) ?_)
              rintro w v w' hm ⟨rfl, hm'⟩
              refine ⟨_, hm.app hm', jkO ?_⟩
              clear hm hm'
              refine jo_f [(0, 0), (0, 1), (5, 1), (0, 1), (0, 1), (0, 1), (0, 0)] (by kernel_rfl) ?_
              refine jo_end (by kernel_rfl) ?_
              refine jx_then ?_
              refine jc_cond (t_24 && ((w64 x_23.fPitch) == (w64 ((w64 n1.fPitch) + (w64 (12 * (w64 x_16))))))) (by kernel_rfl) (fun hc_9649 => ?_) (fun hc_9649 => ?_)
              · replace h := ifT hc_9649 h
                refine jc_region ?_
                refine jo_f [(0, 0), (0, 0), (0, 0), (0, 0), (0, 0), (0, 0)] (by kernel_rfl) ?_
                refine toO (by kernel_rfl) (p_a 0 [0] (by kernel_rfl) (fun b => by kernel_rfl) (fun b_9650 => jkO ?_))
                obtain ⟨hg_9651, h⟩ := gd h
                refine toO (by kernel_rfl) (p_apn 0 2 o_9635 58 xs_19.length 1 cap_9636 4 4 (some ⟨b_9650, 0, none⟩) encGChoice xs_19 [(⟨false, x_8, x_16, (w8 i_20)⟩ : GChoice)] sp_9637 (.agg #[(.bool false), (.int .i8 0), (.int .i8 0), (.int .i8 0)]) rfl rfl (by kernel_rfl) (by kernel_rfl) (by kernel_rfl) encGChoice_len encGChoice_cell hs_9639 ho_9640 (fun w hm => (hm.ownRow (hh := 6) (o := (some b_9650)) (T := 58) (enc := encGChoice) (xs := [(⟨false, x_8, x_16, (w8 i_20)⟩ : GChoice)]) (sp := []) (by kernel_rfl) (fun e => nomatch e) encGChoice_len)) hg_9651 (by kernel_rfl) (by kernel_rfl) (fun o_9652 cap_9653 sp_9654 hs_9655 ho_9656 => jkO ?_))
                refine jo_f [(0, 0)] (by kernel_rfl) ?_
                refine jo_end (by kernel_rfl) ?_
                refine jx_inn ?_
                refine jx_then ?_
                refine jc_region ?_
                refine jo_f [(0, 0), (0, 0)] (by kernel_rfl) ?_
                refine jo_end (by kernel_rfl) ?_
                exact jx_back ((xs_19 ++ [(⟨false, x_8, x_16, (w8 i_20)⟩ : GChoice)]), (w64 (i_20 + 1))) ⟨o_9652, cap_9653, sp_9654, (xs_19 ++ [(⟨false, x_8, x_16, (w8 i_20)⟩ : GChoice)]).length⟩ (Option.some.inj h).symm ⟨rfl, hs_9655, ho_9656⟩ [0, 1, 2, 3, 4] (by kernel_rfl) (by kernel_rfl) (by kernel_rfl)
              · replace h := ifF hc_9649 h
                refine jc_skip ?_
                refine jx_inn ?_
                refine jx_then ?_
                refine jc_region ?_
                refine jo_f [(0, 0), (0, 0)] (by kernel_rfl) ?_
                refine jo_end (by kernel_rfl) ?_
                exact jx_back (xs_19, (w64 (i_20 + 1))) ⟨o_9635, cap_9636, sp_9637, xs_19.length⟩ (Option.some.inj h).symm ⟨rfl, hs_9639, ho_9640⟩ [0, 1, 2, 3, 4] (by kernel_rfl) (by kernel_rfl) (by kernel_rfl)
            · replace h := ifF hc_9644 h
              refine jc_exit ?_
              refine jx_thenx ?_
              refine jx_leave xs_19 (Option.some.inj h).symm (fun e_9657 => ?_)
              subst e_9657
              refine jx_ine ?_
              exact jx_meet ⟨xs_19, o_9635, cap_9636, sp_9637, xs_19.length⟩ ⟨hr_9641, rfl, hs_9639, ho_9640⟩ (by kernel_rfl) [0, 1, 2, 3, 4] (by kernel_rfl) (by kernel_rfl)
          · rintro ⟨xs_17, o_9595, cap_9596, sp_9597, n_9598⟩ ⟨h, rfl, hs_9599, ho_9600⟩
            replace h : impl_Frame_choices.k_18 i_13 xs_17 = some y_9533 := h
            rw [impl_Frame_choices.k_18] at h
            refine jx_inn ?_
            refine jx_then ?_
            refine jc_region ?_
            refine jo_f [(0, 0), (0, 0)] (by kernel_rfl) ?_
            refine jo_end (by kernel_rfl) ?_
            exact jx_back (xs_17, (w64 (i_13 + 1))) ⟨o_9595, cap_9596, sp_9597, xs_17.length⟩ (Option.some.inj h).symm ⟨rfl, hs_9599, ho_9600⟩ [0, 1, 2, 3, 4] (by kernel_rfl) (by kernel_rfl) (by kernel_rfl)
        · replace h := ifF hc_9535 h
          refine jc_exit ?_
          refine jx_thenx ?_
          refine jx_leave xs_12 (Option.some.inj h).symm (fun e_9659 => ?_)
          subst e_9659
          refine jx_ine ?_
          exact jx_meet ⟨xs_12, o_9526, cap_9527, sp_9528, xs_12.length⟩ ⟨hr_9532, rfl, hs_9530, ho_9531⟩ (by kernel_rfl) [0, 1, 2, 3, 4] (by kernel_rfl) (by kernel_rfl)
      · rintro ⟨xs_10, o_9264, cap_9265, sp_9266, n_9267⟩ ⟨h, rfl, hs_9268, ho_9269⟩
        replace h : impl_Frame_choices.k_11 i_5 xs_10 = some y_8863 := h
        rw [impl_Frame_choices.k_11] at h
        refine jx_inn ?_
        refine jx_then ?_
        refine jc_region ?_
        refine jo_f [(0, 0), (0, 0)] (by kernel_rfl) ?_
        refine jo_end (by kernel_rfl) ?_
        exact jx_back (xs_10, (w64 (i_5 + 1))) ⟨o_9264, cap_9265, sp_9266, xs_10.length⟩ (Option.some.inj h).symm ⟨rfl, hs_9268, ho_9269⟩ [0, 1, 2, 3] (by kernel_rfl) (by kernel_rfl) (by kernel_rfl)
    · replace h := ifF hc_8865 h
      refine jc_exit ?_
      refine jx_thenx ?_
      refine jx_leave xs_4 (Option.some.inj h).symm (fun e_9661 => ?_)
      subst e_9661
      refine jx_ine ?_
      exact jx_meet ⟨xs_4, o_8856, cap_8857, sp_8858, xs_4.length⟩ ⟨hr_8862, rfl, hs_8860, ho_8861⟩ (by kernel_rfl) [0, 1, 2, 3] (by kernel_rfl) (by kernel_rfl)
  · rintro ⟨xs_2, o_7243, cap_7244, sp_7245, n_7246⟩ ⟨h, rfl, hs_7247, ho_7248⟩
    replace h : impl_Frame_choices.k_3 xs_2 = some r := h
    rw [impl_Frame_choices.k_3] at h
    refine jx_then ?_
    refine jc_seq ?_
    refine jc_region ?_
    refine jo_f [(0, 0), (0, 0)] (by kernel_rfl) ?_
    refine toO (by kernel_rfl) (p_a 0 [0] (by kernel_rfl) (fun b => by kernel_rfl) (fun b_7249 => jkO ?_))
    obtain ⟨hg_7250, h⟩ := gd h
    refine toO (by kernel_rfl) (p_apn 0 2 o_7243 58 xs_2.length 1 cap_7244 4 4 (some ⟨b_7249, 0, none⟩) encGChoice xs_2 [(⟨true, 0, 0, 0⟩ : GChoice)] sp_7245 (.agg #[(.bool false), (.int .i8 0), (.int .i8 0), (.int .i8 0)]) rfl rfl (by kernel_rfl) (by kernel_rfl) (by kernel_rfl) encGChoice_len encGChoice_cell hs_7247 ho_7248 (fun w hm => (hm.ownRow (hh := 4) (o := (some b_7249)) (T := 58) (enc := encGChoice) (xs := [(⟨true, 0, 0, 0⟩ : GChoice)]) (sp := []) (by kernel_rfl) (fun e => nomatch e) encGChoice_len)) hg_7250 (by kernel_rfl) (by kernel_rfl) (fun o_7251 cap_7252 sp_7253 hs_7254 ho_7255 => jkO ?_))
    refine jo_f [(0, 0)] (by kernel_rfl) ?_
    refine jo_end (by kernel_rfl) ?_
    refine jx_then ?_
    refine jc_ret ?_
    obtain rfl := Option.some.inj h
    exact jx_ret [] (.slice (o_7251.map fun b => ⟨b, 0, none⟩) ((xs_2 ++ [(⟨true, 0, 0, 0⟩ : GChoice)]).length) cap_7252) [] rfl (by kernel_rfl) (by kernel_rfl) (fun w hm => ⟨o_7251, cap_7252, sp_7253, ((xs_2 ++ [(⟨true, 0, 0, 0⟩ : GChoice)]).length), rfl, hs_7254, ho_7255, rfl, hm.pick [2] (by kernel_rfl) (by kernel_rfl)⟩)

/-! ### slices.Index[[]impl.Choice,impl.Choice] -/
noncomputable def slices_Index_Choice.k_1 : Option (Int) := some (-1)
noncomputable def slices_Index_Choice.l_3 (s0 : List GChoice) (v1 : GChoice) : Int → Option ((Int) ⊕ (Int ⊕ Unit))
  | i_2 => (if (decide (i_2 < (s0.length : Int))) = true then (ix s0 i_2).bind fun x_5 => (if ((v1.fAway == x_5.fAway) && ((v1.fLate == x_5.fLate) && ((v1.fOctave == x_5.fOctave) && (v1.fTrack == x_5.fTrack)))) = true then some (.inr (.inl i_2)) else some (.inl (w64 (i_2 + 1)))) else some (.inr (.inr ())))
noncomputable def slices_Index_Choice (s0 : List GChoice) (v1 : GChoice) : Option (Int) := (loop (slices_Index_Choice.l_3 s0 v1) 0).bind fun t_4 => match t_4 with | .inl p => some p | .inr p => slices_Index_Choice.k_1
set_option maxRecDepth 100000 in
theorem slices_Index_Choice.calls (s0 : List GChoice) (v1 : GChoice) (w : World) (r : Int) (s0_a : Option Addr) (s0_an : Nat) (s0_c : Nat) (s0_h : Rw w s0_a 4 encGChoice s0) (s0_hn : s0.length = s0_an) (h : slices_Index_Choice s0 v1 = some r) :
    Calls Tryz.prog 134 #[(.slice s0_a s0_an s0_c), (.agg #[(.bool v1.fAway), (.int .i8 v1.fLate), (.int .i8 v1.fOctave), (.int .i8 v1.fTrack)])] w fun e w' => ∃ v, e = .returned v ∧ (v = (.int .i64 r) ∧ Mem w [] [] w') := by
  subst s0_hn
  rw [slices_Index_Choice] at h
  refine enter (args := [(.slice s0_a s0.length s0_c), (.agg #[(.bool v1.fAway), (.int .i8 v1.fLate), (.int .i8 v1.fOctave), (.int .i8 v1.fTrack)])]) Tryz.func134 rfl Tryz.ntmps134 (by kernel_rfl) (L := []) (W := []) (Mem.start w) ?_
  refine jc_seq ?_
  refine jc_region ?_
  refine toO (by kernel_rfl) (p_a 0 [0] (by kernel_rfl) (fun b => by kernel_rfl) (fun b_1 => jkO ?_))
  refine jo_f [(0, 0)] (by kernel_rfl) ?_
  refine jo_end (by kernel_rfl) ?_
  refine jx_then ?_
  refine jc_seq ?_
  refine jc_seq ?_
  refine jc_region ?_
  refine jo_f [(0, 0), (0, 0), (0, 0)] (by kernel_rfl) ?_
  refine jo_end (by kernel_rfl) ?_
  refine jx_then ?_
  refine jc_meet (fun (_ : Unit) => slices_Index_Choice.k_1 = some r) (fun (_ : Unit) => [(4, [], (.int .i64 0))]) (fun (_ : Unit) => [⟨some b_1, 58, [(.bool v1.fAway), (.int .i8 v1.fLate), (.int .i8 v1.fOctave), (.int .i8 v1.fTrack)]⟩]) ?_ ?_
  · refine jc_block ?_
    obtain ⟨t_4, ht_35, hr_27⟩ := bd h
    refine jc_loop (fun (s : Int) (x : Unit) => match s, x with | i_2, _ => True) (fun (s : Int) (x : Unit) => match s, x with | i_2, _ => [(0, [], (.slice s0_a s0.length s0_c)), (3, [], (.pointer (some ⟨b_1, 0, none⟩))), (4, [], (.int .i64 0)), (7, [], (.int .i64 (s0.length : Int))), (8, [], (.int .i64 i_2))]) (fun (s : Int) (x : Unit) => match s, x with | i_2, _ => [⟨some b_1, 58, [(.bool v1.fAway), (.int .i8 v1.fLate), (.int .i8 v1.fOctave), (.int .i8 v1.fTrack)]⟩]) ht_35 () trivial (by kernel_rfl) [0] (by kernel_rfl) (by kernel_rfl) ?_
    rintro i_2 _ y_28 _ h
    rw [slices_Index_Choice.l_3] at h
    refine jc_seq ?_
    refine jc_region ?_
    refine jo_f [(0, 0)] (by kernel_rfl) ?_
    refine jo_end (by kernel_rfl) ?_
    refine jx_then ?_
    refine jc_seq ?_
    refine jc_cond (decide (i_2 < (s0.length : Int))) (by kernel_rfl) (fun hc_30 => ?_) (fun hc_30 => ?_)
    · replace h := ifT hc_30 h
      refine jc_skip ?_
      refine jx_then ?_
      refine jc_seq ?_
      refine jc_block ?_
      refine jc_seq ?_
      refine jc_region ?_
      refine jo_f [(0, 0), (0, 0)] (by kernel_rfl) ?_
      refine jo_end (by kernel_rfl) ?_
      refine jx_then ?_
      refine jc_seq ?_
      refine jc_draw [⟨some b_1, 58, [(.bool v1.fAway), (.int .i8 v1.fLate), (.int .i8 v1.fOctave), (.int .i8 v1.fTrack)]⟩] 6 (by kernel_rfl) (by kernel_rfl) ?_
      refine jd_f [⟨0, 0, 0⟩, ⟨1, 0, 0⟩, ⟨2, 0, 0⟩] 3 (by kernel_rfl) (by kernel_rfl) (fun w h => h.pick [0] (by kernel_rfl) (by kernel_rfl)) (by kernel_rfl) (by kernel_rfl) ?_
      obtain ⟨x_5, hx_31, h⟩ := bd h
      refine jd_v 3 0 (by kernel_rfl) (fun w h => h.pick [0] (by kernel_rfl) (by kernel_rfl)) (by kernel_rfl) (by kernel_rfl) _ (fun w hm => idx_run (a := s0_a) (len := s0.length) (s := 4) (j := i_2) (by kernel_rfl) (ix_some hx_31).1 (ltn hx_31 rfl) (s0_h.sp hx_31)) ?_
      refine jd_v 4 0 (by kernel_rfl) (fun w h => h.pick [0] (by kernel_rfl) (by kernel_rfl)) (by kernel_rfl) (by kernel_rfl) _ (fun w hm => ld_run (b := aB s0_a) (off := (aO s0_a + i_2.toNat * 4)) (s := 4) (agg := true) (vs := (encGChoice x_5)) (by kernel_rfl) (by kernel_rfl) (.inl rfl) ((hm.exRow s0_h List.not_mem_nil).at hx_31)) ?_
      refine jd_f [⟨5, 0, 0⟩] 0 (by kernel_rfl) (by kernel_rfl) (fun w h => h.pick [0] (by kernel_rfl) (by kernel_rfl)) (by kernel_rfl) (by kernel_rfl) ?_
      refine jd_end (by kernel_rfl) ?_
      refine jx_then ?_
      refine jc_cond ((v1.fAway == x_5.fAway) && ((v1.fLate == x_5.fLate) && ((v1.fOctave == x_5.fOctave) && (v1.fTrack == x_5.fTrack)))) (by kernel_rfl) (fun hc_32 => ?_) (fun hc_32 => ?_)
      · replace h := ifT hc_32 h
        refine jc_seq ?_
        refine jc_region ?_
        refine jo_f [(0, 0), (0, 0)] (by kernel_rfl) ?_
        refine jo_end (by kernel_rfl) ?_
        refine jx_then ?_
        refine jc_ret ?_
        refine jx_inr ?_
        refine jx_thenr ?_
        refine jx_leaver (.inl i_2) (Option.some.inj h).symm (fun e_33 => ?_)
        subst e_33
        refine jx_inr ?_
        refine jx_thenr ?_
        refine jx_thenr ?_
        obtain rfl := Option.some.inj hr_27
        exact jx_ret [] (.int .i64 i_2) [] rfl (by kernel_rfl) (by kernel_rfl) (fun w hm => ⟨rfl, hm.pick [] (by kernel_rfl) (by kernel_rfl)⟩)
      · replace h := ifF hc_32 h
        refine jc_skip ?_
        refine jx_inn ?_
        refine jx_then ?_
        refine jc_region ?_
        refine jo_f [(0, 0), (0, 0)] (by kernel_rfl) ?_
        refine jo_end (by kernel_rfl) ?_
        exact jx_back (w64 (i_2 + 1)) () (Option.some.inj h).symm trivial [0] (by kernel_rfl) (by kernel_rfl) (by kernel_rfl)
    · replace h := ifF hc_30 h
      refine jc_exit ?_
      refine jx_thenx ?_
      refine jx_leave (.inr ()) (Option.some.inj h).symm (fun e_34 => ?_)
      subst e_34
      refine jx_ine ?_
      exact jx_meet () hr_27 (by kernel_rfl) [0] (by kernel_rfl) (by kernel_rfl)
  · rintro _ h
    replace h : slices_Index_Choice.k_1 = some r := h
    rw [slices_Index_Choice.k_1] at h
    refine jx_then ?_
    refine jc_seq ?_
    refine jc_region ?_
    refine jo_f [(0, 0)] (by kernel_rfl) ?_
    refine jo_end (by kernel_rfl) ?_
    refine jx_then ?_
    refine jc_ret ?_
    obtain rfl := Option.some.inj h
    exact jx_ret [] (.int .i64 (-1)) [] rfl (by kernel_rfl) (by kernel_rfl) (fun w hm => ⟨rfl, hm.pick [] (by kernel_rfl) (by kernel_rfl)⟩)

/-! ### slices.Contains[[]impl.Choice,impl.Choice] -/
noncomputable def slices_Contains_Choice (s0 : List GChoice) (v1 : GChoice) : Option (Bool) := (slices_Index_Choice s0 v1).bind fun t_1 => some (decide (t_1 ≥ 0))
set_option maxRecDepth 100000 in
theorem slices_Contains_Choice.calls (s0 : List GChoice) (v1 : GChoice) (w : World) (r : Bool) (s0_a : Option Addr) (s0_an : Nat) (s0_c : Nat) (s0_h : Rw w s0_a 4 encGChoice s0) (s0_hn : s0.length = s0_an) (h : slices_Contains_Choice s0 v1 = some r) :
    Calls Tryz.prog 100 #[(.slice s0_a s0_an s0_c), (.agg #[(.bool v1.fAway), (.int .i8 v1.fLate), (.int .i8 v1.fOctave), (.int .i8 v1.fTrack)])] w fun e w' => ∃ v, e = .returned v ∧ (v = (.bool r) ∧ Mem w [] [] w') := by
  subst s0_hn
  rw [slices_Contains_Choice] at h
  refine enter (args := [(.slice s0_a s0.length s0_c), (.agg #[(.bool v1.fAway), (.int .i8 v1.fLate), (.int .i8 v1.fOctave), (.int .i8 v1.fTrack)])]) Tryz.func100 rfl Tryz.ntmps100 (by kernel_rfl) (L := []) (W := []) (Mem.start w) ?_
  refine jc_seq ?_
  refine jc_region ?_
  refine toO (by kernel_rfl) (p_a 0 [0] (by kernel_rfl) (fun b => by kernel_rfl) (fun b_1 => jkO ?_))
  refine jo_f [(0, 0)] (by kernel_rfl) ?_
  refine jo_end (by kernel_rfl) ?_
  refine jx_then ?_
  refine jc_seq ?_
  refine jc_region ?_
  refine jo_f [(0, 0), (0, 0)] (by kernel_rfl) ?_
  obtain ⟨t_1, ht_2, h⟩ := bd h
  refine toO (by kernel_rfl) (p_call 0 134 #[(.slice s0_a s0.length s0_c), (.agg #[(.bool v1.fAway), (.int .i8 v1.fLate), (.int .i8 v1.fOctave), (.int .i8 v1.fTrack)])] (by kernel_rfl) (by kernel_rfl) (fun w hm => slices_Index_Choice.calls s0 v1 w _ s0_a s0.length s0_c (hm.exRow s0_h List.not_mem_nil) rfl ht_2) ?_)
  rintro w v w' hm ⟨rfl, hm'⟩
  refine ⟨_, hm.app hm', jkO ?_⟩
  clear hm hm'
  refine jo_f [(0, 0), (0, 0)] (by kernel_rfl) ?_
  refine jo_end (by kernel_rfl) ?_
  refine jx_then ?_
  refine jc_ret ?_
  obtain rfl := Option.some.inj h
  exact jx_ret [] (.bool (decide (t_1 ≥ 0))) [] rfl (by kernel_rfl) (by kernel_rfl) (fun w hm => ⟨rfl, hm.pick [] (by kernel_rfl) (by kernel_rfl)⟩)

/-! ### (*impl.Drum).has -/
noncomputable def impl_Drum_has (d0 : Arr 96 Int) (step1 : Int) (track2 : Int) : Option (Bool) := (ix d0.1 step1).bind fun x_1 => (if 0 ≤ track2 then some ((bAnd .u32 (bShr .u32 x_1 track2) 1) == 1) else none)
set_option maxRecDepth 100000 in
theorem impl_Drum_has.calls (d0 : Arr 96 Int) (step1 : Int) (track2 : Int) (w : World) (r : Bool) (d0_b : Nat) (hm0 : Mem w (bs [some d0_b]) [⟨(some d0_b), 39, row encU32 d0.1 []⟩] w) (h : impl_Drum_has d0 step1 track2 = some r) :
    Calls Tryz.prog 107 #[(.pointer (some ⟨d0_b, 0, none⟩)), (.int .i64 step1), (.int .i64 track2)] w fun e w' => ∃ v, e = .returned v ∧ (v = (.bool r) ∧ Mem w (bs [some d0_b]) [⟨(some d0_b), 39, row encU32 d0.1 []⟩] w') := by
  rw [impl_Drum_has] at h
  refine enter (args := [(.pointer (some ⟨d0_b, 0, none⟩)), (.int .i64 step1), (.int .i64 track2)]) Tryz.func107 rfl Tryz.ntmps107 (by kernel_rfl) (L := [⟨(some d0_b), 39, row encU32 d0.1 []⟩]) (W := bs [some d0_b]) hm0 ?_
  refine jc_seq ?_
  refine jc_region ?_
  refine jo_f [(0, 0)] (by kernel_rfl) ?_
  refine jo_end (by kernel_rfl) ?_
  refine jx_then ?_
  refine jc_seq ?_
  refine jc_region ?_
  refine jo_f [(0, 0), (0, 0), (0, 0)] (by kernel_rfl) ?_
  obtain ⟨x_1, hx_1, h⟩ := bd h
  refine toO (by kernel_rfl) (p_idx 0 (some ⟨d0_b, 0, none⟩) 96 step1 1 (by kernel_rfl) (by kernel_rfl) (ix_some hx_1).1 (ltn hx_1 d0.2) rfl (jkO ?_))
  refine toO (by kernel_rfl) (p_ld 0 (aB (some ⟨d0_b, 0, none⟩)) (aO (some ⟨d0_b, 0, none⟩) + step1.toNat * 1) false (encU32 x_1) (by kernel_rfl) (by kernel_rfl) (by kernel_rfl) (fun w hm => ((hm.ownRow (hh := 0) (o := (some d0_b)) (T := 39) (enc := encU32) (xs := d0.1) (sp := []) (by kernel_rfl) (fun e => nomatch e) encU32_len).at hx_1)) (jkO ?_))
  refine jo_f [(0, 0)] (by kernel_rfl) ?_
  obtain ⟨hg_2, h⟩ := gd h
  refine toO (by kernel_rfl) (p_shr 0 .u32 x_1 .i64 track2 (by kernel_rfl) (by kernel_rfl) hg_2 (jkO ?_))
  refine jo_f [(0, 0), (0, 0), (0, 0)] (by kernel_rfl) ?_
  refine jo_end (by kernel_rfl) ?_
  refine jx_then ?_
  refine jc_ret ?_
  obtain rfl := Option.some.inj h
  exact jx_ret [] (.bool ((bAnd .u32 (bShr .u32 x_1 track2) 1) == 1)) [] rfl (by kernel_rfl) (by kernel_rfl) (fun w hm => ⟨rfl, hm.pick [0] (by kernel_rfl) (by kernel_rfl)⟩)

/-! ### (impl.Frame).behind -/
noncomputable def impl_Frame_behind.k_1 (f0 : GFrame) : Option (Int) := some (w64 f0.fSteps)
noncomputable def impl_Frame_behind.l_3 (f0 : GFrame) (d1 : Arr 96 Int) (step2 : Int) (track3 : Int) (way4 : Int) : Int → Option ((Int) ⊕ (Int ⊕ Unit))
  | i_2 => (if (decide (i_2 < (w64 f0.fSteps))) = true then (if (w64 f0.fSteps) ≠ 0 then (impl_Drum_has d1 (Int.tmod (w64 ((w64 (step2 + (w64 (way4 * i_2)))) + (w64 f0.fSteps))) (w64 f0.fSteps)) track3).bind fun t_5 => (if t_5 = true then some (.inr (.inl i_2)) else some (.inl (w64 (i_2 + 1)))) else none) else some (.inr (.inr ())))
noncomputable def impl_Frame_behind (f0 : GFrame) (d1 : Arr 96 Int) (step2 : Int) (track3 : Int) (way4 : Int) : Option (Int) := (loop (impl_Frame_behind.l_3 f0 d1 step2 track3 way4) 1).bind fun t_4 => match t_4 with | .inl p => some p | .inr p => impl_Frame_behind.k_1 f0
set_option maxRecDepth 100000 in
theorem impl_Frame_behind.calls (f0 : GFrame) (d1 : Arr 96 Int) (step2 : Int) (track3 : Int) (way4 : Int) (w : World) (r : Int) (f0_fHammers_a : Option Addr) (f0_fHammers_an : Nat) (f0_fHammers_c : Nat) (f0_fHammers_h : Rw w f0_fHammers_a 2 encGHammer f0.fHammers) (f0_fHammers_hn : f0.fHammers.length = f0_fHammers_an) (d1_b : Nat) (hm0 : Mem w (bs [some d1_b]) [⟨(some d1_b), 39, row encU32 d1.1 []⟩] w) (f0_fHammers_ha : f0.fHammers ≠ [] → aB f0_fHammers_a ∉ bs [some d1_b]) (h : impl_Frame_behind f0 d1 step2 track3 way4 = some r) :
    Calls Tryz.prog 138 #[(.agg #[(.int .i16 f0.fSteps), (.slice f0_fHammers_a f0_fHammers_an f0_fHammers_c)]), (.pointer (some ⟨d1_b, 0, none⟩)), (.int .i64 step2), (.int .i64 track3), (.int .i64 way4)] w fun e w' => ∃ v, e = .returned v ∧ (v = (.int .i64 r) ∧ Mem w (bs [some d1_b]) [⟨(some d1_b), 39, row encU32 d1.1 []⟩] w') := by
  subst f0_fHammers_hn
  rw [impl_Frame_behind] at h
  refine enter (args := [(.agg #[(.int .i16 f0.fSteps), (.slice f0_fHammers_a f0.fHammers.length f0_fHammers_c)]), (.pointer (some ⟨d1_b, 0, none⟩)), (.int .i64 step2), (.int .i64 track3), (.int .i64 way4)]) Tryz.func138 rfl Tryz.ntmps138 (by kernel_rfl) (L := [⟨(some d1_b), 39, row encU32 d1.1 []⟩]) (W := bs [some d1_b]) hm0 ?_
  refine jc_seq ?_
  refine jc_region ?_
  refine toO (by kernel_rfl) (p_a 0 [0] (by kernel_rfl) (fun b => by kernel_rfl) (fun b_1 => jkO ?_))
  refine jo_f [(0, 0)] (by kernel_rfl) ?_
  refine jo_end (by kernel_rfl) ?_
  refine jx_then ?_
  refine jc_seq ?_
  refine jc_region ?_
  refine jo_f [(0, 0), (1, 0), (0, 0), (0, 0)] (by kernel_rfl) ?_
  refine jo_end (by kernel_rfl) ?_
  refine jx_then ?_
  refine jc_seq ?_
  refine jc_seq ?_
  refine jc_region ?_
  refine jo_f [(0, 0)] (by kernel_rfl) ?_
  refine jo_end (by kernel_rfl) ?_
  refine jx_then ?_
  refine jc_meet (fun (_ : Unit) => impl_Frame_behind.k_1 f0 = some r) (fun (_ : Unit) => [(10, [], (.int .i64 0)), (11, [], (.int .i64 (w64 f0.fSteps)))]) (fun (_ : Unit) => [⟨(some d1_b), 39, row encU32 d1.1 []⟩, ⟨some b_1, 27, [(.int .i16 f0.fSteps), (.slice f0_fHammers_a f0.fHammers.length f0_fHammers_c)]⟩]) ?_ ?_
  · refine jc_block ?_
    obtain ⟨t_4, ht_81, hr_72⟩ := bd h
    refine jc_loop (fun (s : Int) (x : Unit) => match s, x with | i_2, _ => True) (fun (s : Int) (x : Unit) => match s, x with | i_2, _ => [(1, [], (.pointer (some ⟨d1_b, 0, none⟩))), (2, [], (.int .i64 step2)), (3, [], (.int .i64 track3)), (4, [], (.int .i64 way4)), (10, [], (.int .i64 0)), (11, [], (.int .i64 (w64 f0.fSteps))), (12, [], (.int .i64 i_2))]) (fun (s : Int) (x : Unit) => match s, x with | i_2, _ => [⟨(some d1_b), 39, row encU32 d1.1 []⟩, ⟨some b_1, 27, [(.int .i16 f0.fSteps), (.slice f0_fHammers_a f0.fHammers.length f0_fHammers_c)]⟩]) ht_81 () trivial (by kernel_rfl) [0, 1] (by kernel_rfl) (by kernel_rfl) ?_
    rintro i_2 _ y_73 _ h
    rw [impl_Frame_behind.l_3] at h
    refine jc_seq ?_
    refine jc_seq ?_
    refine jc_region ?_
    refine jo_f [(0, 0), (0, 0), (0, 0)] (by kernel_rfl) ?_
    refine jo_end (by kernel_rfl) ?_
    refine jx_then ?_
    refine jc_cond (decide (i_2 < (w64 f0.fSteps))) (by kernel_rfl) (fun hc_75 => ?_) (fun hc_75 => ?_)
    · replace h := ifT hc_75 h
      refine jc_skip ?_
      refine jx_then ?_
      refine jc_seq ?_
      refine jc_block ?_
      refine jc_seq ?_
      refine jc_region ?_
      refine jo_f [(0, 0), (0, 0), (0, 0), (0, 0), (0, 0), (0, 0), (0, 0), (0, 0), (0, 0)] (by kernel_rfl) ?_
      obtain ⟨hg_76, h⟩ := gd h
      refine toO (by kernel_rfl) (p_rem 0 .i64 (w64 ((w64 (step2 + (w64 (way4 * i_2)))) + (w64 f0.fSteps))) (w64 f0.fSteps) (by kernel_rfl) (by kernel_rfl) hg_76 (jkO ?_))
      refine jo_f [(0, 0)] (by kernel_rfl) ?_
      obtain ⟨t_5, ht_77, h⟩ := bd h
      refine toO (by kernel_rfl) (p_call 0 107 #[(.pointer (some ⟨d1_b, 0, none⟩)), (.int .i64 (Int.tmod (w64 ((w64 (step2 + (w64 (way4 * i_2)))) + (w64 f0.fSteps))) (w64 f0.fSteps))), (.int .i64 track3)] (by kernel_rfl) (by kernel_rfl) (fun w hm => impl_Drum_has.calls d1 (Int.tmod (w64 ((w64 (step2 + (w64 (way4 * i_2)))) + (w64 f0.fSteps))) (w64 f0.fSteps)) track3 w _ d1_b (hm.pass (N := [⟨(some d1_b), 39, row encU32 d1.1 []⟩]) [0] (by kernel_rfl) (by kernel_rfl)) ht_77) ?_)
      rintro w v w' hm ⟨rfl, hm'⟩
      refine ⟨_, hm.appW (ps := [(0, ⟨(some d1_b), 39, row encU32 d1.1 []⟩)]) (N := []) hm' (by kernel_rfl) (by kernel_rfl), jkO ?_⟩
      clear hm hm'
      refine jo_end (by kernel_rfl) ?_
      refine jx_then ?_
      refine jc_cond t_5 (by kernel_rfl) (fun hc_78 => ?_) (fun hc_78 => ?_)
      · replace h := ifT hc_78 h
        refine jc_seq ?_
        refine jc_region ?_
        refine jo_f [(0, 0), (0, 0)] (by kernel_rfl) ?_
        refine jo_end (by kernel_rfl) ?_
        refine jx_then ?_
        refine jc_ret ?_
        refine jx_inr ?_
        refine jx_thenr ?_
        refine jx_leaver (.inl i_2) (Option.some.inj h).symm (fun e_79 => ?_)
        subst e_79
        refine jx_inr ?_
        refine jx_thenr ?_
        refine jx_thenr ?_
        obtain rfl := Option.some.inj hr_72
        exact jx_ret [] (.int .i64 i_2) [] rfl (by kernel_rfl) (by kernel_rfl) (fun w hm => ⟨rfl, hm.pick [0] (by kernel_rfl) (by kernel_rfl)⟩)
      · replace h := ifF hc_78 h
        refine jc_skip ?_
        refine jx_inn ?_
        refine jx_then ?_
        refine jc_region ?_
        refine jo_f [(0, 0), (0, 0), (0, 0)] (by kernel_rfl) ?_
        refine jo_end (by kernel_rfl) ?_
        exact jx_back (w64 (i_2 + 1)) () (Option.some.inj h).symm trivial [0, 1] (by kernel_rfl) (by kernel_rfl) (by kernel_rfl)
    · replace h := ifF hc_75 h
      refine jc_exit ?_
      refine jx_thenx ?_
      refine jx_leave (.inr ()) (Option.some.inj h).symm (fun e_80 => ?_)
      subst e_80
      refine jx_ine ?_
      exact jx_meet () hr_72 (by kernel_rfl) [0, 1] (by kernel_rfl) (by kernel_rfl)
  · rintro _ h
    replace h : impl_Frame_behind.k_1 f0 = some r := h
    rw [impl_Frame_behind.k_1] at h
    refine jx_then ?_
    refine jc_seq ?_
    refine jc_region ?_
    refine jo_f [(0, 0), (0, 0)] (by kernel_rfl) ?_
    refine jo_end (by kernel_rfl) ?_
    refine jx_then ?_
    refine jc_ret ?_
    obtain rfl := Option.some.inj h
    exact jx_ret [] (.int .i64 (w64 f0.fSteps)) [] rfl (by kernel_rfl) (by kernel_rfl) (fun w hm => ⟨rfl, hm.pick [0] (by kernel_rfl) (by kernel_rfl)⟩)

/-! ### (impl.Frame).isFree -/
noncomputable def impl_Frame_isFree (f0 : GFrame) (d1 : Arr 96 Int) (step2 : Int) (track3 : Int) : Option (Bool) := (ix f0.fHammers track3).bind fun x_1 => (impl_Drum_has d1 step2 track3).bind fun t_2 => (if (!t_2) = true then (impl_Frame_behind f0 d1 step2 track3 1).bind fun t_3 => (if (decide (t_3 ≥ (w64 x_1.fReady))) = true then (impl_Frame_behind f0 d1 step2 track3 (-1)).bind fun t_4 => some (decide (t_4 ≥ (w64 x_1.fReady))) else some false) else some false)
set_option maxRecDepth 100000 in
theorem impl_Frame_isFree.calls (f0 : GFrame) (d1 : Arr 96 Int) (step2 : Int) (track3 : Int) (w : World) (r : Bool) (f0_fHammers_a : Option Addr) (f0_fHammers_an : Nat) (f0_fHammers_c : Nat) (f0_fHammers_h : Rw w f0_fHammers_a 2 encGHammer f0.fHammers) (f0_fHammers_hn : f0.fHammers.length = f0_fHammers_an) (d1_b : Nat) (hm0 : Mem w (bs [some d1_b]) [⟨(some d1_b), 39, row encU32 d1.1 []⟩] w) (f0_fHammers_ha : f0.fHammers ≠ [] → aB f0_fHammers_a ∉ bs [some d1_b]) (h : impl_Frame_isFree f0 d1 step2 track3 = some r) :
    Calls Tryz.prog 135 #[(.agg #[(.int .i16 f0.fSteps), (.slice f0_fHammers_a f0_fHammers_an f0_fHammers_c)]), (.pointer (some ⟨d1_b, 0, none⟩)), (.int .i64 step2), (.int .i64 track3)] w fun e w' => ∃ v, e = .returned v ∧ (v = (.bool r) ∧ Mem w (bs [some d1_b]) [⟨(some d1_b), 39, row encU32 d1.1 []⟩] w') := by
  subst f0_fHammers_hn
  rw [impl_Frame_isFree] at h
  refine enter (args := [(.agg #[(.int .i16 f0.fSteps), (.slice f0_fHammers_a f0.fHammers.length f0_fHammers_c)]), (.pointer (some ⟨d1_b, 0, none⟩)), (.int .i64 step2), (.int .i64 track3)]) Tryz.func135 rfl Tryz.ntmps135 (by kernel_rfl) (L := [⟨(some d1_b), 39, row encU32 d1.1 []⟩]) (W := bs [some d1_b]) hm0 ?_
  refine jc_seq ?_
  refine jc_region ?_
  refine toO (by kernel_rfl) (p_a 0 [0] (by kernel_rfl) (fun b => by kernel_rfl) (fun b_1 => jkO ?_))
  refine jo_f [(0, 0)] (by kernel_rfl) ?_
  refine jo_end (by kernel_rfl) ?_
  refine jx_then ?_
  refine jc_seq ?_
  refine jc_region ?_
  refine jo_f [(0, 0), (1, 0), (0, 0)] (by kernel_rfl) ?_
  obtain ⟨x_1, hx_2, h⟩ := bd h
  refine toO (by kernel_rfl) (p_idx 0 f0_fHammers_a f0.fHammers.length track3 2 (by kernel_rfl) (by kernel_rfl) (ix_some hx_2).1 (ltn hx_2 rfl) (f0_fHammers_h.sp hx_2) (jkO ?_))
  refine jo_f [(0, 0)] (by kernel_rfl) ?_
  refine toO (by kernel_rfl) (p_ld 0 (aB f0_fHammers_a) (aO f0_fHammers_a + track3.toNat * 2 + 1) false (((encGHammer x_1).drop 1).take 1) (by kernel_rfl) (by kernel_rfl) (by kernel_rfl) (fun w hm => (((hm.exRowW f0_fHammers_h f0_fHammers_ha).at hx_2).sub 1 1)) (jkO ?_))
  refine jo_f [(0, 0), (0, 0)] (by kernel_rfl) ?_
  refine jo_end (by kernel_rfl) ?_
  refine jx_then ?_
  refine jc_seq ?_
  refine jc_region ?_
  refine jo_f [(0, 0), (0, 0), (0, 0)] (by kernel_rfl) ?_
  obtain ⟨t_2, ht_3, h⟩ := bd h
  refine toO (by kernel_rfl) (p_call 0 107 #[(.pointer (some ⟨d1_b, 0, none⟩)), (.int .i64 step2), (.int .i64 track3)] (by kernel_rfl) (by kernel_rfl) (fun w hm => impl_Drum_has.calls d1 step2 track3 w _ d1_b (hm.pass (N := [⟨(some d1_b), 39, row encU32 d1.1 []⟩]) [0] (by kernel_rfl) (by kernel_rfl)) ht_3) ?_)
  rintro w v w' hm ⟨rfl, hm'⟩
  refine ⟨_, hm.appW (ps := [(0, ⟨(some d1_b), 39, row encU32 d1.1 []⟩)]) (N := []) hm' (by kernel_rfl) (by kernel_rfl), jkO ?_⟩
  clear hm hm'
  refine jo_f [(0, 0), (0, 0), (1, 1), (0, 1), (0, 1), (0, 1)] (by kernel_rfl) ?_
  refine jo_split 22 (!t_2) (by kernel_rfl) (fun hc_4 => ?_) (fun hc_4 => ?_)
  · replace h := ifT hc_4 h
    obtain ⟨t_3, ht_5, h⟩ := bd h
    refine toO (by kernel_rfl) (p_call 2 138 #[(.agg #[(.int .i16 f0.fSteps), (.slice f0_fHammers_a f0.fHammers.length f0_fHammers_c)]), (.pointer (some ⟨d1_b, 0, none⟩)), (.int .i64 step2), (.int .i64 track3), (.int .i64 1)] (by kernel_rfl) (by kernel_rfl) (fun w hm => impl_Frame_behind.calls f0 d1 step2 track3 1 w _ f0_fHammers_a f0.fHammers.length f0_fHammers_c (hm.exRowW f0_fHammers_h f0_fHammers_ha) rfl d1_b (hm.pass (N := [⟨(some d1_b), 39, row encU32 d1.1 []⟩]) [0] (by kernel_rfl) (by kernel_rfl)) (hm.exApart (N := [⟨(some d1_b), 39, row encU32 d1.1 []⟩]) f0_fHammers_h f0_fHammers_ha [0] (by kernel_rfl)) ht_5) ?_)
    rintro w v w' hm ⟨rfl, hm'⟩
    refine ⟨_, hm.appW (ps := [(0, ⟨(some d1_b), 39, row encU32 d1.1 []⟩)]) (N := []) hm' (by kernel_rfl) (by kernel_rfl), jkO ?_⟩
    clear hm hm'
    refine jo_f [(0, 2), (0, 2), (0, 4), (0, 0), (1, 1), (0, 1), (0, 1), (0, 1)] (by kernel_rfl) ?_
    refine jo_split 31 (decide (t_3 ≥ (w64 x_1.fReady))) (by kernel_rfl) (fun hc_6 => ?_) (fun hc_6 => ?_)
    · replace h := ifT hc_6 h
      obtain ⟨t_4, ht_7, h⟩ := bd h
      refine toO (by kernel_rfl) (p_call 2 138 #[(.agg #[(.int .i16 f0.fSteps), (.slice f0_fHammers_a f0.fHammers.length f0_fHammers_c)]), (.pointer (some ⟨d1_b, 0, none⟩)), (.int .i64 step2), (.int .i64 track3), (.int .i64 (-1))] (by kernel_rfl) (by kernel_rfl) (fun w hm => impl_Frame_behind.calls f0 d1 step2 track3 (-1) w _ f0_fHammers_a f0.fHammers.length f0_fHammers_c (hm.exRowW f0_fHammers_h f0_fHammers_ha) rfl d1_b (hm.pass (N := [⟨(some d1_b), 39, row encU32 d1.1 []⟩]) [0] (by kernel_rfl) (by kernel_rfl)) (hm.exApart (N := [⟨(some d1_b), 39, row encU32 d1.1 []⟩]) f0_fHammers_h f0_fHammers_ha [0] (by kernel_rfl)) ht_7) ?_)
      rintro w v w' hm ⟨rfl, hm'⟩
      refine ⟨_, hm.appW (ps := [(0, ⟨(some d1_b), 39, row encU32 d1.1 []⟩)]) (N := []) hm' (by kernel_rfl) (by kernel_rfl), jkO ?_⟩
      clear hm hm'
      refine jo_f [(0, 2), (0, 2), (0, 4), (0, 0)] (by kernel_rfl) ?_
      refine jo_end (by kernel_rfl) ?_
      refine jx_then ?_
      refine jc_ret ?_
      obtain rfl := Option.some.inj h
      exact jx_ret [] (.bool (decide (t_4 ≥ (w64 x_1.fReady)))) [] rfl (by kernel_rfl) (by kernel_rfl) (fun w hm => ⟨rfl, hm.pick [0] (by kernel_rfl) (by kernel_rfl)⟩)
    · replace h := ifF hc_6 h
      refine jo_f [(0, 3), (0, 3), (0, 3), (0, 5), (0, 0)] (by kernel_rfl) ?_
      refine jo_end (by kernel_rfl) ?_
      refine jx_then ?_
      refine jc_ret ?_
      obtain rfl := Option.some.inj h
      exact jx_ret [] (.bool false) [] rfl (by kernel_rfl) (by kernel_rfl) (fun w hm => ⟨rfl, hm.pick [0] (by kernel_rfl) (by kernel_rfl)⟩)
  · replace h := ifF hc_4 h
    refine jo_f [(0, 3), (0, 3), (0, 3), (0, 5), (0, 0), (0, 3), (0, 3), (0, 3), (0, 3), (0, 3), (0, 3), (0, 3), (0, 5), (0, 0)] (by kernel_rfl) ?_
    refine jo_end (by kernel_rfl) ?_
    refine jx_then ?_
    refine jc_ret ?_
    obtain rfl := Option.some.inj h
    exact jx_ret [] (.bool false) [] rfl (by kernel_rfl) (by kernel_rfl) (fun w hm => ⟨rfl, hm.pick [0] (by kernel_rfl) (by kernel_rfl)⟩)

/-! ### (impl.Frame).canPut -/
noncomputable def impl_Frame_canPut (f0 : GFrame) (d1 : Arr 96 Int) (n2 : GNote) (x3 : GChoice) : Option (Bool) := (if x3.fAway = true then some true else (impl_Frame_isFree f0 d1 (w64 ((w64 n2.fAt) + (w64 x3.fLate))) (w64 x3.fTrack)).bind fun t_1 => some t_1)
set_option maxRecDepth 100000 in
theorem impl_Frame_canPut.calls (f0 : GFrame) (d1 : Arr 96 Int) (n2 : GNote) (x3 : GChoice) (w : World) (r : Bool) (f0_fHammers_a : Option Addr) (f0_fHammers_an : Nat) (f0_fHammers_c : Nat) (f0_fHammers_h : Rw w f0_fHammers_a 2 encGHammer f0.fHammers) (f0_fHammers_hn : f0.fHammers.length = f0_fHammers_an) (d1_b : Nat) (hm0 : Mem w (bs [some d1_b]) [⟨(some d1_b), 39, row encU32 d1.1 []⟩] w) (f0_fHammers_ha : f0.fHammers ≠ [] → aB f0_fHammers_a ∉ bs [some d1_b]) (h : impl_Frame_canPut f0 d1 n2 x3 = some r) :
    Calls Tryz.prog 101 #[(.agg #[(.int .i16 f0.fSteps), (.slice f0_fHammers_a f0_fHammers_an f0_fHammers_c)]), (.pointer (some ⟨d1_b, 0, none⟩)), (.agg #[(.int .i16 n2.fAt), (.int .i8 n2.fPitch)]), (.agg #[(.bool x3.fAway), (.int .i8 x3.fLate), (.int .i8 x3.fOctave), (.int .i8 x3.fTrack)])] w fun e w' => ∃ v, e = .returned v ∧ (v = (.bool r) ∧ Mem w (bs [some d1_b]) [⟨(some d1_b), 39, row encU32 d1.1 []⟩] w') := by
  subst f0_fHammers_hn
  rw [impl_Frame_canPut] at h
  refine enter (args := [(.agg #[(.int .i16 f0.fSteps), (.slice f0_fHammers_a f0.fHammers.length f0_fHammers_c)]), (.pointer (some ⟨d1_b, 0, none⟩)), (.agg #[(.int .i16 n2.fAt), (.int .i8 n2.fPitch)]), (.agg #[(.bool x3.fAway), (.int .i8 x3.fLate), (.int .i8 x3.fOctave), (.int .i8 x3.fTrack)])]) Tryz.func101 rfl Tryz.ntmps101 (by kernel_rfl) (L := [⟨(some d1_b), 39, row encU32 d1.1 []⟩]) (W := bs [some d1_b]) hm0 ?_
  refine jc_seq ?_
  refine jc_region ?_
  refine toO (by kernel_rfl) (p_a 0 [0] (by kernel_rfl) (fun b => by kernel_rfl) (fun b_1 => jkO ?_))
  refine toO (by kernel_rfl) (p_a 0 [0] (by kernel_rfl) (fun b => by kernel_rfl) (fun b_2 => jkO ?_))
  refine toO (by kernel_rfl) (p_a 0 [0] (by kernel_rfl) (fun b => by kernel_rfl) (fun b_3 => jkO ?_))
  refine jo_f [(0, 0)] (by kernel_rfl) ?_
  refine jo_end (by kernel_rfl) ?_
  refine jx_then ?_
  refine jc_seq ?_
  refine jc_region ?_
  refine jo_f [(0, 0), (3, 0), (0, 0), (1, 1), (0, 1), (0, 1), (2, 1), (0, 1), (0, 1), (3, 1), (0, 1), (0, 1), (0, 1), (3, 1), (0, 1)] (by kernel_rfl) ?_
  refine jo_split 11 x3.fAway (by kernel_rfl) (fun hc_4 => ?_) (fun hc_4 => ?_)
  · replace h := ifT hc_4 h
    refine jo_f [(0, 3), (0, 4), (0, 0)] (by kernel_rfl) ?_
    refine jo_end (by kernel_rfl) ?_
    refine jx_then ?_
    refine jc_ret ?_
    obtain rfl := Option.some.inj h
    exact jx_ret [] (.bool true) [] rfl (by kernel_rfl) (by kernel_rfl) (fun w hm => ⟨rfl, hm.pick [0] (by kernel_rfl) (by kernel_rfl)⟩)
  · replace h := ifF hc_4 h
    obtain ⟨t_1, ht_5, h⟩ := bd h
    refine toO (by kernel_rfl) (p_call 2 135 #[(.agg #[(.int .i16 f0.fSteps), (.slice f0_fHammers_a f0.fHammers.length f0_fHammers_c)]), (.pointer (some ⟨d1_b, 0, none⟩)), (.int .i64 (w64 ((w64 n2.fAt) + (w64 x3.fLate)))), (.int .i64 (w64 x3.fTrack))] (by kernel_rfl) (by kernel_rfl) (fun w hm => impl_Frame_isFree.calls f0 d1 (w64 ((w64 n2.fAt) + (w64 x3.fLate))) (w64 x3.fTrack) w _ f0_fHammers_a f0.fHammers.length f0_fHammers_c (hm.exRowW f0_fHammers_h f0_fHammers_ha) rfl d1_b (hm.pass (N := [⟨(some d1_b), 39, row encU32 d1.1 []⟩]) [0] (by kernel_rfl) (by kernel_rfl)) (hm.exApart (N := [⟨(some d1_b), 39, row encU32 d1.1 []⟩]) f0_fHammers_h f0_fHammers_ha [0] (by kernel_rfl)) ht_5) ?_)
    rintro w v w' hm ⟨rfl, hm'⟩
    refine ⟨_, hm.appW (ps := [(0, ⟨(some d1_b), 39, row encU32 d1.1 []⟩)]) (N := []) hm' (by kernel_rfl) (by kernel_rfl), jkO ?_⟩
    clear hm hm'
    refine jo_f [(0, 5), (0, 0)] (by kernel_rfl) ?_
    refine jo_end (by kernel_rfl) ?_
    refine jx_then ?_
    refine jc_ret ?_
    obtain rfl := Option.some.inj h
    exact jx_ret [] (.bool t_1) [] rfl (by kernel_rfl) (by kernel_rfl) (fun w hm => ⟨rfl, hm.pick [0] (by kernel_rfl) (by kernel_rfl)⟩)

/-! ### (*impl.Drum).put -/
noncomputable def impl_Drum_put (d0 : Arr 96 Int) (step1 : Int) (track2 : Int) (on3 : Bool) : Option ((Arr 96 Int)) := (ix d0.1 step1).bind fun x_1 => (if 0 ≤ track2 then (ix d0.1 step1).bind fun x_2 => (if on3 = true then (ix ((Arr.set d0 step1 (bClr .u32 x_1 (bShl .u32 1 track2))).1) step1).bind fun x_3 => (if 0 ≤ track2 then (ix ((Arr.set d0 step1 (bClr .u32 x_1 (bShl .u32 1 track2))).1) step1).bind fun x_4 => some (Arr.set (Arr.set d0 step1 (bClr .u32 x_1 (bShl .u32 1 track2))) step1 (bOr .u32 x_3 (bShl .u32 1 track2))) else none) else some (Arr.set d0 step1 (bClr .u32 x_1 (bShl .u32 1 track2)))) else none)
set_option maxRecDepth 100000 in
theorem impl_Drum_put.calls (d0 : Arr 96 Int) (step1 : Int) (track2 : Int) (on3 : Bool) (w : World) (r : (Arr 96 Int)) (d0_b : Nat) (hm0 : Mem w (bs [some d0_b]) [⟨(some d0_b), 39, row encU32 d0.1 []⟩] w) (h : impl_Drum_put d0 step1 track2 on3 = some r) :
    Calls Tryz.prog 136 #[(.pointer (some ⟨d0_b, 0, none⟩)), (.int .i64 step1), (.int .i64 track2), (.bool on3)] w fun e w' => ∃ v, e = .returned v ∧ (v = .tuple #[] ∧ Mem w (bs [some d0_b]) [⟨(some d0_b), 39, row encU32 r.1 []⟩] w') := by
  rw [impl_Drum_put] at h
  refine enter (args := [(.pointer (some ⟨d0_b, 0, none⟩)), (.int .i64 step1), (.int .i64 track2), (.bool on3)]) Tryz.func136 rfl Tryz.ntmps136 (by kernel_rfl) (L := [⟨(some d0_b), 39, row encU32 d0.1 []⟩]) (W := bs [some d0_b]) hm0 ?_
  refine jc_seq ?_
  refine jc_draw [] 11 (by kernel_rfl) (by kernel_rfl) ?_
  refine jd_f [⟨0, 0, 0⟩, ⟨1, 0, 0⟩, ⟨2, 0, 0⟩, ⟨5, 0, 0⟩, ⟨8, 0, 0⟩] 6 (by kernel_rfl) (by kernel_rfl) (fun w h => h.pick [] (by kernel_rfl) (by kernel_rfl)) (by kernel_rfl) (by kernel_rfl) ?_
  obtain ⟨x_1, hx_4, h⟩ := bd h
  refine jd_v 3 0 (by kernel_rfl) (fun w h => h.pick [] (by kernel_rfl) (by kernel_rfl)) (by kernel_rfl) (by kernel_rfl) _ (fun w hm => idx_run (a := (some ⟨d0_b, 0, none⟩)) (len := 96) (s := 1) (j := step1) (by kernel_rfl) (ix_some hx_4).1 (ltn hx_4 d0.2) rfl) ?_
  refine toD2 4 6 (by kernel_rfl) ?_ ?_
  · refine p_ld 0 (aB (some ⟨d0_b, 0, none⟩)) (aO (some ⟨d0_b, 0, none⟩) + step1.toNat * 1) false (encU32 x_1) (by kernel_rfl) (by kernel_rfl) (by kernel_rfl) (fun w hm => ((hm.ownRow (hh := 0) (o := (some d0_b)) (T := 39) (enc := encU32) (xs := d0.1) (sp := []) (by kernel_rfl) (fun e => nomatch e) encU32_len).at hx_4)) (jkD (fun w h => h.pick [] (by kernel_rfl) (by kernel_rfl)) ?_)
    obtain ⟨hg_5, h⟩ := gd h
    refine toD 6 (by kernel_rfl) (p_shl 0 .u32 1 .i64 track2 (by kernel_rfl) (by kernel_rfl) hg_5 (jkD (fun w h => h.pick [] (by kernel_rfl) (by kernel_rfl)) ?_))
    refine jd_f [⟨7, 0, 0⟩] 2 (by kernel_rfl) (by kernel_rfl) (fun w h => h.pick [] (by kernel_rfl) (by kernel_rfl)) (by kernel_rfl) (by kernel_rfl) ?_
    obtain ⟨x_2, hx_6, h⟩ := bd h
    refine jd_v 9 0 (by kernel_rfl) (fun w h => h.pick [] (by kernel_rfl) (by kernel_rfl)) (by kernel_rfl) (by kernel_rfl) _ (fun w hm => idx_run (a := (some ⟨d0_b, 0, none⟩)) (len := 96) (s := 1) (j := step1) (by kernel_rfl) (ix_some hx_6).1 (ltn hx_6 d0.2) rfl) ?_
    refine toD 10 (by kernel_rfl) (p_str 0 0 d0_b 39 encU32 d0.1 [] step1 (bClr .u32 x_1 (bShl .u32 1 track2)) 1 0 [(.int .u32 (bClr .u32 x_1 (bShl .u32 1 track2)))] (by kernel_rfl) (by kernel_rfl) (by kernel_rfl) encU32_len hx_6 (by kernel_rfl) (by kernel_rfl) (jkD (fun w h => h.pick [] (by kernel_rfl) (by kernel_rfl)) ?_))
    refine jd_end (by kernel_rfl) ?_
    refine jx_then ?_
    refine jc_seq ?_
    refine jc_region ?_
    refine jo_f [(0, 0)] (by kernel_rfl) ?_
    refine jo_end (by kernel_rfl) ?_
    refine jx_then ?_
    refine jc_cond on3 (by kernel_rfl) (fun hc_7 => ?_) (fun hc_7 => ?_)
    · replace h := ifT hc_7 h
      refine jc_draw [] 11 (by kernel_rfl) (by kernel_rfl) ?_
      refine jd_f [⟨0, 0, 0⟩, ⟨1, 0, 0⟩, ⟨2, 0, 0⟩, ⟨5, 0, 0⟩, ⟨8, 0, 0⟩] 6 (by kernel_rfl) (by kernel_rfl) (fun w h => h.pick [] (by kernel_rfl) (by kernel_rfl)) (by kernel_rfl) (by kernel_rfl) ?_
      obtain ⟨x_3, hx_11, h⟩ := bd h
      refine jd_v 3 0 (by kernel_rfl) (fun w h => h.pick [] (by kernel_rfl) (by kernel_rfl)) (by kernel_rfl) (by kernel_rfl) _ (fun w hm => idx_run (a := (some ⟨d0_b, 0, none⟩)) (len := 96) (s := 1) (j := step1) (by kernel_rfl) (ix_some hx_11).1 (ltn hx_11 (Arr.set d0 step1 (bClr .u32 x_1 (bShl .u32 1 track2))).2) rfl) ?_
      refine toD2 4 6 (by kernel_rfl) ?_ ?_
      · refine p_ld 0 (aB (some ⟨d0_b, 0, none⟩)) (aO (some ⟨d0_b, 0, none⟩) + step1.toNat * 1) false (encU32 x_3) (by kernel_rfl) (by kernel_rfl) (by kernel_rfl) (fun w hm => ((hm.ownRow (hh := 0) (o := (some d0_b)) (T := 39) (enc := encU32) (xs := ((Arr.set d0 step1 (bClr .u32 x_1 (bShl .u32 1 track2))).1)) (sp := []) (by kernel_rfl) (fun e => nomatch e) encU32_len).at hx_11)) (jkD (fun w h => h.pick [] (by kernel_rfl) (by kernel_rfl)) ?_)
        obtain ⟨hg_12, h⟩ := gd h
        refine toD 6 (by kernel_rfl) (p_shl 0 .u32 1 .i64 track2 (by kernel_rfl) (by kernel_rfl) hg_12 (jkD (fun w h => h.pick [] (by kernel_rfl) (by kernel_rfl)) ?_))
        refine jd_f [⟨7, 0, 0⟩] 2 (by kernel_rfl) (by kernel_rfl) (fun w h => h.pick [] (by kernel_rfl) (by kernel_rfl)) (by kernel_rfl) (by kernel_rfl) ?_
        obtain ⟨x_4, hx_13, h⟩ := bd h
        refine jd_v 9 0 (by kernel_rfl) (fun w h => h.pick [] (by kernel_rfl) (by kernel_rfl)) (by kernel_rfl) (by kernel_rfl) _ (fun w hm => idx_run (a := (some ⟨d0_b, 0, none⟩)) (len := 96) (s := 1) (j := step1) (by kernel_rfl) (ix_some hx_13).1 (ltn hx_13 (Arr.set d0 step1 (bClr .u32 x_1 (bShl .u32 1 track2))).2) rfl) ?_
        refine toD 10 (by kernel_rfl) (p_str 0 0 d0_b 39 encU32 ((Arr.set d0 step1 (bClr .u32 x_1 (bShl .u32 1 track2))).1) [] step1 (bOr .u32 x_3 (bShl .u32 1 track2)) 1 0 [(.int .u32 (bOr .u32 x_3 (bShl .u32 1 track2)))] (by kernel_rfl) (by kernel_rfl) (by kernel_rfl) encU32_len hx_13 (by kernel_rfl) (by kernel_rfl) (jkD (fun w h => h.pick [] (by kernel_rfl) (by kernel_rfl)) ?_))
        refine jd_end (by kernel_rfl) ?_
        refine jx_fall ?_
        obtain rfl := Option.some.inj h
        exact jx_ret [] (.tuple #[]) [] rfl (by kernel_rfl) (by kernel_rfl) (fun w hm => ⟨rfl, hm.pick [0] (by kernel_rfl) (by kernel_rfl)⟩)
      · obtain ⟨hg_14, h⟩ := gd h
        refine p_shl 0 .u32 1 .i64 track2 (by kernel_rfl) (by kernel_rfl) hg_14 (jkD (fun w h => h.pick [] (by kernel_rfl) (by kernel_rfl)) ?_)
        refine toD 4 (by kernel_rfl) (p_ld 0 (aB (some ⟨d0_b, 0, none⟩)) (aO (some ⟨d0_b, 0, none⟩) + step1.toNat * 1) false (encU32 x_3) (by kernel_rfl) (by kernel_rfl) (by kernel_rfl) (fun w hm => ((hm.ownRow (hh := 0) (o := (some d0_b)) (T := 39) (enc := encU32) (xs := ((Arr.set d0 step1 (bClr .u32 x_1 (bShl .u32 1 track2))).1)) (sp := []) (by kernel_rfl) (fun e => nomatch e) encU32_len).at hx_11)) (jkD (fun w h => h.pick [] (by kernel_rfl) (by kernel_rfl)) ?_))
        refine jd_f [⟨7, 0, 0⟩] 2 (by kernel_rfl) (by kernel_rfl) (fun w h => h.pick [] (by kernel_rfl) (by kernel_rfl)) (by kernel_rfl) (by kernel_rfl) ?_
        obtain ⟨x_4, hx_15, h⟩ := bd h
        refine jd_v 9 0 (by kernel_rfl) (fun w h => h.pick [] (by kernel_rfl) (by kernel_rfl)) (by kernel_rfl) (by kernel_rfl) _ (fun w hm => idx_run (a := (some ⟨d0_b, 0, none⟩)) (len := 96) (s := 1) (j := step1) (by kernel_rfl) (ix_some hx_15).1 (ltn hx_15 (Arr.set d0 step1 (bClr .u32 x_1 (bShl .u32 1 track2))).2) rfl) ?_
        refine toD 10 (by kernel_rfl) (p_str 0 0 d0_b 39 encU32 ((Arr.set d0 step1 (bClr .u32 x_1 (bShl .u32 1 track2))).1) [] step1 (bOr .u32 x_3 (bShl .u32 1 track2)) 1 0 [(.int .u32 (bOr .u32 x_3 (bShl .u32 1 track2)))] (by kernel_rfl) (by kernel_rfl) (by kernel_rfl) encU32_len hx_15 (by kernel_rfl) (by kernel_rfl) (jkD (fun w h => h.pick [] (by kernel_rfl) (by kernel_rfl)) ?_))
        refine jd_end (by kernel_rfl) ?_
        refine jx_fall ?_
        obtain rfl := Option.some.inj h
        exact jx_ret [] (.tuple #[]) [] rfl (by kernel_rfl) (by kernel_rfl) (fun w hm => ⟨rfl, hm.pick [0] (by kernel_rfl) (by kernel_rfl)⟩)
    · replace h := ifF hc_7 h
      refine jc_skip ?_
      refine jx_fall ?_
      obtain rfl := Option.some.inj h
      exact jx_ret [] (.tuple #[]) [] rfl (by kernel_rfl) (by kernel_rfl) (fun w hm => ⟨rfl, hm.pick [0] (by kernel_rfl) (by kernel_rfl)⟩)
  · obtain ⟨hg_16, h⟩ := gd h
    refine p_shl 0 .u32 1 .i64 track2 (by kernel_rfl) (by kernel_rfl) hg_16 (jkD (fun w h => h.pick [] (by kernel_rfl) (by kernel_rfl)) ?_)
    refine toD 4 (by kernel_rfl) (p_ld 0 (aB (some ⟨d0_b, 0, none⟩)) (aO (some ⟨d0_b, 0, none⟩) + step1.toNat * 1) false (encU32 x_1) (by kernel_rfl) (by kernel_rfl) (by kernel_rfl) (fun w hm => ((hm.ownRow (hh := 0) (o := (some d0_b)) (T := 39) (enc := encU32) (xs := d0.1) (sp := []) (by kernel_rfl) (fun e => nomatch e) encU32_len).at hx_4)) (jkD (fun w h => h.pick [] (by kernel_rfl) (by kernel_rfl)) ?_))
    refine jd_f [⟨7, 0, 0⟩] 2 (by kernel_rfl) (by kernel_rfl) (fun w h => h.pick [] (by kernel_rfl) (by kernel_rfl)) (by kernel_rfl) (by kernel_rfl) ?_
    obtain ⟨x_2, hx_17, h⟩ := bd h
    refine jd_v 9 0 (by kernel_rfl) (fun w h => h.pick [] (by kernel_rfl) (by kernel_rfl)) (by kernel_rfl) (by kernel_rfl) _ (fun w hm => idx_run (a := (some ⟨d0_b, 0, none⟩)) (len := 96) (s := 1) (j := step1) (by kernel_rfl) (ix_some hx_17).1 (ltn hx_17 d0.2) rfl) ?_
    refine toD 10 (by kernel_rfl) (p_str 0 0 d0_b 39 encU32 d0.1 [] step1 (bClr .u32 x_1 (bShl .u32 1 track2)) 1 0 [(.int .u32 (bClr .u32 x_1 (bShl .u32 1 track2)))] (by kernel_rfl) (by kernel_rfl) (by kernel_rfl) encU32_len hx_17 (by kernel_rfl) (by kernel_rfl) (jkD (fun w h => h.pick [] (by kernel_rfl) (by kernel_rfl)) ?_))
    refine jd_end (by kernel_rfl) ?_
    refine jx_then ?_
    refine jc_seq ?_
    refine jc_region ?_
    refine jo_f [(0, 0)] (by kernel_rfl) ?_
    refine jo_end (by kernel_rfl) ?_
    refine jx_then ?_
    refine jc_cond on3 (by kernel_rfl) (fun hc_18 => ?_) (fun hc_18 => ?_)
    · replace h := ifT hc_18 h
      refine jc_draw [] 11 (by kernel_rfl) (by kernel_rfl) ?_
      refine jd_f [⟨0, 0, 0⟩, ⟨1, 0, 0⟩, ⟨2, 0, 0⟩, ⟨5, 0, 0⟩, ⟨8, 0, 0⟩] 6 (by kernel_rfl) (by kernel_rfl) (fun w h => h.pick [] (by kernel_rfl) (by kernel_rfl)) (by kernel_rfl) (by kernel_rfl) ?_
      obtain ⟨x_3, hx_22, h⟩ := bd h
      refine jd_v 3 0 (by kernel_rfl) (fun w h => h.pick [] (by kernel_rfl) (by kernel_rfl)) (by kernel_rfl) (by kernel_rfl) _ (fun w hm => idx_run (a := (some ⟨d0_b, 0, none⟩)) (len := 96) (s := 1) (j := step1) (by kernel_rfl) (ix_some hx_22).1 (ltn hx_22 (Arr.set d0 step1 (bClr .u32 x_1 (bShl .u32 1 track2))).2) rfl) ?_
      refine toD2 4 6 (by kernel_rfl) ?_ ?_
      · refine p_ld 0 (aB (some ⟨d0_b, 0, none⟩)) (aO (some ⟨d0_b, 0, none⟩) + step1.toNat * 1) false (encU32 x_3) (by kernel_rfl) (by kernel_rfl) (by kernel_rfl) (fun w hm => ((hm.ownRow (hh := 0) (o := (some d0_b)) (T := 39) (enc := encU32) (xs := ((Arr.set d0 step1 (bClr .u32 x_1 (bShl .u32 1 track2))).1)) (sp := []) (by kernel_rfl) (fun e => nomatch e) encU32_len).at hx_22)) (jkD (fun w h => h.pick [] (by kernel_rfl) (by kernel_rfl)) ?_)
        obtain ⟨hg_23, h⟩ := gd h
        refine toD 6 (by kernel_rfl) (p_shl 0 .u32 1 .i64 track2 (by kernel_rfl) (by kernel_rfl) hg_23 (jkD (fun w h => h.pick [] (by kernel_rfl) (by kernel_rfl)) ?_))
        refine jd_f [⟨7, 0, 0⟩] 2 (by kernel_rfl) (by kernel_rfl) (fun w h => h.pick [] (by kernel_rfl) (by kernel_rfl)) (by kernel_rfl) (by kernel_rfl) ?_
        obtain ⟨x_4, hx_24, h⟩ := bd h
        refine jd_v 9 0 (by kernel_rfl) (fun w h => h.pick [] (by kernel_rfl) (by kernel_rfl)) (by kernel_rfl) (by kernel_rfl) _ (fun w hm => idx_run (a := (some ⟨d0_b, 0, none⟩)) (len := 96) (s := 1) (j := step1) (by kernel_rfl) (ix_some hx_24).1 (ltn hx_24 (Arr.set d0 step1 (bClr .u32 x_1 (bShl .u32 1 track2))).2) rfl) ?_
        refine toD 10 (by kernel_rfl) (p_str 0 0 d0_b 39 encU32 ((Arr.set d0 step1 (bClr .u32 x_1 (bShl .u32 1 track2))).1) [] step1 (bOr .u32 x_3 (bShl .u32 1 track2)) 1 0 [(.int .u32 (bOr .u32 x_3 (bShl .u32 1 track2)))] (by kernel_rfl) (by kernel_rfl) (by kernel_rfl) encU32_len hx_24 (by kernel_rfl) (by kernel_rfl) (jkD (fun w h => h.pick [] (by kernel_rfl) (by kernel_rfl)) ?_))
        refine jd_end (by kernel_rfl) ?_
        refine jx_fall ?_
        obtain rfl := Option.some.inj h
        exact jx_ret [] (.tuple #[]) [] rfl (by kernel_rfl) (by kernel_rfl) (fun w hm => ⟨rfl, hm.pick [0] (by kernel_rfl) (by kernel_rfl)⟩)
      · obtain ⟨hg_25, h⟩ := gd h
        refine p_shl 0 .u32 1 .i64 track2 (by kernel_rfl) (by kernel_rfl) hg_25 (jkD (fun w h => h.pick [] (by kernel_rfl) (by kernel_rfl)) ?_)
        refine toD 4 (by kernel_rfl) (p_ld 0 (aB (some ⟨d0_b, 0, none⟩)) (aO (some ⟨d0_b, 0, none⟩) + step1.toNat * 1) false (encU32 x_3) (by kernel_rfl) (by kernel_rfl) (by kernel_rfl) (fun w hm => ((hm.ownRow (hh := 0) (o := (some d0_b)) (T := 39) (enc := encU32) (xs := ((Arr.set d0 step1 (bClr .u32 x_1 (bShl .u32 1 track2))).1)) (sp := []) (by kernel_rfl) (fun e => nomatch e) encU32_len).at hx_22)) (jkD (fun w h => h.pick [] (by kernel_rfl) (by kernel_rfl)) ?_))
        refine jd_f [⟨7, 0, 0⟩] 2 (by kernel_rfl) (by kernel_rfl) (fun w h => h.pick [] (by kernel_rfl) (by kernel_rfl)) (by kernel_rfl) (by kernel_rfl) ?_
        obtain ⟨x_4, hx_26, h⟩ := bd h
        refine jd_v 9 0 (by kernel_rfl) (fun w h => h.pick [] (by kernel_rfl) (by kernel_rfl)) (by kernel_rfl) (by kernel_rfl) _ (fun w hm => idx_run (a := (some ⟨d0_b, 0, none⟩)) (len := 96) (s := 1) (j := step1) (by kernel_rfl) (ix_some hx_26).1 (ltn hx_26 (Arr.set d0 step1 (bClr .u32 x_1 (bShl .u32 1 track2))).2) rfl) ?_
        refine toD 10 (by kernel_rfl) (p_str 0 0 d0_b 39 encU32 ((Arr.set d0 step1 (bClr .u32 x_1 (bShl .u32 1 track2))).1) [] step1 (bOr .u32 x_3 (bShl .u32 1 track2)) 1 0 [(.int .u32 (bOr .u32 x_3 (bShl .u32 1 track2)))] (by kernel_rfl) (by kernel_rfl) (by kernel_rfl) encU32_len hx_26 (by kernel_rfl) (by kernel_rfl) (jkD (fun w h => h.pick [] (by kernel_rfl) (by kernel_rfl)) ?_))
        refine jd_end (by kernel_rfl) ?_
        refine jx_fall ?_
        obtain rfl := Option.some.inj h
        exact jx_ret [] (.tuple #[]) [] rfl (by kernel_rfl) (by kernel_rfl) (fun w hm => ⟨rfl, hm.pick [0] (by kernel_rfl) (by kernel_rfl)⟩)
    · replace h := ifF hc_18 h
      refine jc_skip ?_
      refine jx_fall ?_
      obtain rfl := Option.some.inj h
      exact jx_ret [] (.tuple #[]) [] rfl (by kernel_rfl) (by kernel_rfl) (fun w hm => ⟨rfl, hm.pick [0] (by kernel_rfl) (by kernel_rfl)⟩)

/-! ### (*impl.Drum).puts -/
noncomputable def impl_Drum_puts (d0 : Arr 96 Int) (n1 : GNote) (x2 : GChoice) : Option ((Arr 96 Int)) := (if (!x2.fAway) = true then (impl_Drum_put d0 (w64 ((w64 n1.fAt) + (w64 x2.fLate))) (w64 x2.fTrack) true).bind fun t_1 => some t_1 else some d0)
set_option maxRecDepth 100000 in
theorem impl_Drum_puts.calls (d0 : Arr 96 Int) (n1 : GNote) (x2 : GChoice) (w : World) (r : (Arr 96 Int)) (d0_b : Nat) (hm0 : Mem w (bs [some d0_b]) [⟨(some d0_b), 39, row encU32 d0.1 []⟩] w) (h : impl_Drum_puts d0 n1 x2 = some r) :
    Calls Tryz.prog 102 #[(.pointer (some ⟨d0_b, 0, none⟩)), (.agg #[(.int .i16 n1.fAt), (.int .i8 n1.fPitch)]), (.agg #[(.bool x2.fAway), (.int .i8 x2.fLate), (.int .i8 x2.fOctave), (.int .i8 x2.fTrack)])] w fun e w' => ∃ v, e = .returned v ∧ (v = .tuple #[] ∧ Mem w (bs [some d0_b]) [⟨(some d0_b), 39, row encU32 r.1 []⟩] w') := by
  rw [impl_Drum_puts] at h
  refine enter (args := [(.pointer (some ⟨d0_b, 0, none⟩)), (.agg #[(.int .i16 n1.fAt), (.int .i8 n1.fPitch)]), (.agg #[(.bool x2.fAway), (.int .i8 x2.fLate), (.int .i8 x2.fOctave), (.int .i8 x2.fTrack)])]) Tryz.func102 rfl Tryz.ntmps102 (by kernel_rfl) (L := [⟨(some d0_b), 39, row encU32 d0.1 []⟩]) (W := bs [some d0_b]) hm0 ?_
  refine jc_seq ?_
  refine jc_region ?_
  refine toO (by kernel_rfl) (p_a 0 [0] (by kernel_rfl) (fun b => by kernel_rfl) (fun b_1 => jkO ?_))
  refine toO (by kernel_rfl) (p_a 0 [0] (by kernel_rfl) (fun b => by kernel_rfl) (fun b_2 => jkO ?_))
  refine jo_end (by kernel_rfl) ?_
  refine jx_then ?_
  refine jc_seq ?_
  refine jc_region ?_
  refine jo_f [(0, 0), (2, 0), (0, 0)] (by kernel_rfl) ?_
  refine jo_end (by kernel_rfl) ?_
  refine jx_then ?_
  refine jc_cond (!x2.fAway) (by kernel_rfl) (fun hc_3 => ?_) (fun hc_3 => ?_)
  · replace h := ifT hc_3 h
    refine jc_region ?_
    refine jo_f [(0, 0), (0, 0), (1, 0), (0, 0), (0, 0), (2, 0), (0, 0), (0, 0), (0, 0), (2, 0), (0, 0)] (by kernel_rfl) ?_
    obtain ⟨t_1, ht_4, h⟩ := bd h
    refine toO (by kernel_rfl) (p_call 0 136 #[(.pointer (some ⟨d0_b, 0, none⟩)), (.int .i64 (w64 ((w64 n1.fAt) + (w64 x2.fLate)))), (.int .i64 (w64 x2.fTrack)), (.bool true)] (by kernel_rfl) (by kernel_rfl) (fun w hm => impl_Drum_put.calls d0 (w64 ((w64 n1.fAt) + (w64 x2.fLate))) (w64 x2.fTrack) true w _ d0_b (hm.pass (N := [⟨(some d0_b), 39, row encU32 d0.1 []⟩]) [0] (by kernel_rfl) (by kernel_rfl)) ht_4) ?_)
    rintro w v w' hm ⟨rfl, hm'⟩
    refine ⟨_, hm.appW (ps := [(0, ⟨(some d0_b), 39, row encU32 t_1.1 []⟩)]) (N := []) hm' (by kernel_rfl) (by kernel_rfl), jkO ?_⟩
    clear hm hm'
    refine jo_end (by kernel_rfl) ?_
    refine jx_fall ?_
    obtain rfl := Option.some.inj h
    exact jx_ret [] (.tuple #[]) [] rfl (by kernel_rfl) (by kernel_rfl) (fun w hm => ⟨rfl, hm.pick [0] (by kernel_rfl) (by kernel_rfl)⟩)
  · replace h := ifF hc_3 h
    refine jc_skip ?_
    refine jx_fall ?_
    obtain rfl := Option.some.inj h
    exact jx_ret [] (.tuple #[]) [] rfl (by kernel_rfl) (by kernel_rfl) (fun w hm => ⟨rfl, hm.pick [0] (by kernel_rfl) (by kernel_rfl)⟩)

/-! ### (impl.Frame).fit -/
noncomputable def impl_Frame_fit.k_2 (list2 : List GChoice) (a_1 : Arr 96 Int) : Option ((Arr 96 Int) × Int) := some (a_1, (list2.length : Int))
noncomputable def impl_Frame_fit.k_9 (t1 : List GNote) (a_3 : Arr 96 Int) (i_4 : Int) (x_7 : GChoice) (q_8 : Bool) : Option (((Arr 96 Int) × Int) ⊕ (((Arr 96 Int) × Int) ⊕ (Arr 96 Int))) := (if q_8 = true then some (.inr (.inl ((Arr.rep 96 0), i_4))) else (ix t1 i_4).bind fun x_10 => (impl_Drum_puts a_3 x_10 x_7).bind fun t_11 => some (.inl (t_11, (w64 (i_4 + 1)))))
noncomputable def impl_Frame_fit.l_5 (f0 : GFrame) (t1 : List GNote) (list2 : List GChoice) : ((Arr 96 Int) × Int) → Option (((Arr 96 Int) × Int) ⊕ (((Arr 96 Int) × Int) ⊕ (Arr 96 Int)))
  | (a_3, i_4) => (if (decide (i_4 < (list2.length : Int))) = true then (ix list2 i_4).bind fun x_7 => (ix t1 i_4).bind fun x_12 => (impl_Frame_choices f0 x_12).bind fun t_13 => (slices_Contains_Choice t_13 x_7).bind fun t_14 => (if (!t_14) = true then impl_Frame_fit.k_9 t1 a_3 i_4 x_7 true else (ix t1 i_4).bind fun x_15 => (impl_Frame_canPut f0 a_3 x_15 x_7).bind fun t_16 => impl_Frame_fit.k_9 t1 a_3 i_4 x_7 (!t_16)) else some (.inr (.inr a_3)))
noncomputable def impl_Frame_fit (f0 : GFrame) (t1 : List GNote) (list2 : List GChoice) : Option ((Arr 96 Int) × Int) := (loop (impl_Frame_fit.l_5 f0 t1 list2) ((Arr.rep 96 0), 0)).bind fun t_6 => match t_6 with | .inl p => some p | .inr p => impl_Frame_fit.k_2 list2 p
set_option maxRecDepth 100000 in
theorem impl_Frame_fit.calls (f0 : GFrame) (t1 : List GNote) (list2 : List GChoice) (w : World) (r : (Arr 96 Int) × Int) (f0_fHammers_a : Option Addr) (f0_fHammers_an : Nat) (f0_fHammers_c : Nat) (f0_fHammers_h : Rw w f0_fHammers_a 2 encGHammer f0.fHammers) (f0_fHammers_hn : f0.fHammers.length = f0_fHammers_an) (t1_a : Option Addr) (t1_an : Nat) (t1_c : Nat) (t1_h : Rw w t1_a 2 encGNote t1) (t1_hn : t1.length = t1_an) (list2_a : Option Addr) (list2_an : Nat) (list2_c : Nat) (list2_h : Rw w list2_a 4 encGChoice list2) (list2_hn : list2.length = list2_an) (h : impl_Frame_fit f0 t1 list2 = some r) :
    Calls Tryz.prog 69 #[(.agg #[(.int .i16 f0.fSteps), (.slice f0_fHammers_a f0_fHammers_an f0_fHammers_c)]), (.slice t1_a t1_an t1_c), (.slice list2_a list2_an list2_c)] w fun e w' => ∃ v, e = .returned v ∧ (v = .tuple #[(.agg (row encU32 r.1.1 []).toArray), (.int .i64 r.2)] ∧ Mem w [] [] w') := by
  subst f0_fHammers_hn t1_hn list2_hn
  rw [impl_Frame_fit] at h
  refine enter (args := [(.agg #[(.int .i16 f0.fSteps), (.slice f0_fHammers_a f0.fHammers.length f0_fHammers_c)]), (.slice t1_a t1.length t1_c), (.slice list2_a list2.length list2_c)]) Tryz.func69 rfl Tryz.ntmps69 (by kernel_rfl) (L := []) (W := []) (Mem.start w) ?_
  refine jc_seq ?_
  refine jc_region ?_
  refine toO (by kernel_rfl) (p_a 0 [0] (by kernel_rfl) (fun b => by kernel_rfl) (fun b_1 => jkO ?_))
  refine toO (by kernel_rfl) (p_a 0 [0] (by kernel_rfl) (fun b => by kernel_rfl) (fun b_2 => jkO ?_))
  refine jo_f [(0, 0)] (by kernel_rfl) ?_
  refine jo_end (by kernel_rfl) ?_
  refine jx_then ?_
  refine jc_seq ?_
  refine jc_region ?_
  refine jo_f [(0, 0)] (by kernel_rfl) ?_
  refine toO (by kernel_rfl) (p_a 0 [0] (by kernel_rfl) (fun b => by kernel_rfl) (fun b_3 => jkO ?_))
  refine toO (by kernel_rfl) (p_sA 0 2 b_3 96 1 39 encU32 (Arr.rep 96 0) (Arr.rep 96 0) (by kernel_rfl) (by kernel_rfl) (by kernel_rfl) encU32_len encU32_cell (by kernel_rfl) (jkO ?_))
  refine jo_end (by kernel_rfl) ?_
  refine jx_then ?_
  refine jc_seq ?_
  refine jc_seq ?_
  refine jc_region ?_
  refine jo_f [(0, 0), (0, 0), (0, 0)] (by kernel_rfl) ?_
  refine jo_end (by kernel_rfl) ?_
  refine jx_then ?_
  refine jc_meet (fun (j : (Arr 96 Int)) => match j with | a_1 => impl_Frame_fit.k_2 list2 a_1 = some r) (fun (j : (Arr 96 Int)) => match j with | a_1 => [(2, [], (.slice list2_a list2.length list2_c)), (6, [], (.pointer (some ⟨b_2, 0, none⟩))), (7, [], (.int .i64 0)), (8, [], (.pointer (some ⟨b_3, 0, none⟩)))]) (fun (j : (Arr 96 Int)) => match j with | a_1 => [⟨some b_1, 27, [(.int .i16 f0.fSteps), (.slice f0_fHammers_a f0.fHammers.length f0_fHammers_c)]⟩, ⟨(some b_2), 39, row encU32 ((Arr.rep 96 0).1) []⟩, ⟨(some b_3), 39, row encU32 a_1.1 []⟩]) ?_ ?_
  · refine jc_block ?_
    obtain ⟨t_6, ht_659, hr_602⟩ := bd h
    refine jc_loop (fun (s : (Arr 96 Int) × Int) (x : Unit) => match s, x with | ⟨a_3, i_4⟩, _ => True) (fun (s : (Arr 96 Int) × Int) (x : Unit) => match s, x with | ⟨a_3, i_4⟩, _ => [(1, [], (.slice t1_a t1.length t1_c)), (2, [], (.slice list2_a list2.length list2_c)), (3, [], (.pointer (some ⟨b_1, 0, none⟩))), (6, [], (.pointer (some ⟨b_2, 0, none⟩))), (7, [], (.int .i64 0)), (8, [], (.pointer (some ⟨b_3, 0, none⟩))), (12, [], (.slice list2_a list2.length list2_c)), (13, [], (.int .i64 (list2.length : Int))), (14, [], (.int .i64 i_4))]) (fun (s : (Arr 96 Int) × Int) (x : Unit) => match s, x with | ⟨a_3, i_4⟩, _ => [⟨some b_1, 27, [(.int .i16 f0.fSteps), (.slice f0_fHammers_a f0.fHammers.length f0_fHammers_c)]⟩, ⟨(some b_2), 39, row encU32 ((Arr.rep 96 0).1) []⟩, ⟨(some b_3), 39, row encU32 a_3.1 []⟩]) ht_659 () trivial (by kernel_rfl) [0, 1, 2] (by kernel_rfl) (by kernel_rfl) ?_
    rintro ⟨a_3, i_4⟩ _ y_603 _ h
    rw [impl_Frame_fit.l_5] at h
    refine jc_seq ?_
    refine jc_region ?_
    refine jo_f [(0, 0)] (by kernel_rfl) ?_
    refine jo_end (by kernel_rfl) ?_
    refine jx_then ?_
    refine jc_seq ?_
    refine jc_cond (decide (i_4 < (list2.length : Int))) (by kernel_rfl) (fun hc_605 => ?_) (fun hc_605 => ?_)
    · replace h := ifT hc_605 h
      refine jc_skip ?_
      refine jx_then ?_
      refine jc_seq ?_
      refine jc_block ?_
      refine jc_seq ?_
      refine jc_region ?_
      refine jo_f [(0, 0)] (by kernel_rfl) ?_
      obtain ⟨x_7, hx_606, h⟩ := bd h
      refine toO (by kernel_rfl) (p_idx 0 list2_a list2.length i_4 4 (by kernel_rfl) (by kernel_rfl) (ix_some hx_606).1 (ltn hx_606 rfl) (list2_h.sp hx_606) (jkO ?_))
      refine toO (by kernel_rfl) (p_ld 0 (aB list2_a) (aO list2_a + i_4.toNat * 4) true (encGChoice x_7) (by kernel_rfl) (by kernel_rfl) (by kernel_rfl) (fun w hm => ((hm.exRow list2_h List.not_mem_nil).at hx_606)) (jkO ?_))
      refine toO (by kernel_rfl) (p_a 0 [0] (by kernel_rfl) (fun b => by kernel_rfl) (fun b_607 => jkO ?_))
      refine jo_f [(0, 0)] (by kernel_rfl) ?_
      refine toO (by kernel_rfl) (p_s 0 [3] (by kernel_rfl) (by kernel_rfl) (jkO ?_))
      refine jo_end (by kernel_rfl) ?_
      refine jx_then ?_
      refine jc_seq ?_
      refine jc_seq ?_
      refine jc_meet (fun (j : Bool) => match j with | q_8 => impl_Frame_fit.k_9 t1 a_3 i_4 x_7 q_8 = some y_603) (fun (j : Bool) => match j with | q_8 => [(1, [], (.slice t1_a t1.length t1_c)), (2, [], (.slice list2_a list2.length list2_c)), (3, [], (.pointer (some ⟨b_1, 0, none⟩))), (6, [], (.pointer (some ⟨b_2, 0, none⟩))), (7, [], (.int .i64 0)), (8, [], (.pointer (some ⟨b_3, 0, none⟩))), (9, [], (.int .i64 i_4)), (10, [], (.pointer (some ⟨b_607, 0, none⟩))), (12, [], (.slice list2_a list2.length list2_c)), (13, [], (.int .i64 (list2.length : Int))), (14, [], (.int .i64 i_4)), (37, [], (.bool q_8))]) (fun (j : Bool) => match j with | q_8 => [⟨some b_1, 27, [(.int .i16 f0.fSteps), (.slice f0_fHammers_a f0.fHammers.length f0_fHammers_c)]⟩, ⟨(some b_2), 39, row encU32 ((Arr.rep 96 0).1) []⟩, ⟨(some b_3), 39, row encU32 a_3.1 []⟩, ⟨some b_607, 58, [(.bool x_7.fAway), (.int .i8 x_7.fLate), (.int .i8 x_7.fOctave), (.int .i8 x_7.fTrack)]⟩]) ?_ ?_
      · refine jc_draw [⟨some b_1, 27, [(.int .i16 f0.fSteps), (.slice f0_fHammers_a f0.fHammers.length f0_fHammers_c)]⟩, ⟨(some b_2), 39, row encU32 ((Arr.rep 96 0).1) []⟩, ⟨(some b_3), 39, row encU32 a_3.1 []⟩, ⟨some b_607, 58, [(.bool x_7.fAway), (.int .i8 x_7.fLate), (.int .i8 x_7.fOctave), (.int .i8 x_7.fTrack)]⟩] 19 (by kernel_rfl) (by kernel_rfl) ?_
        refine jd_f [⟨0, 0, 0⟩, ⟨1, 0, 0⟩, ⟨2, 0, 0⟩, ⟨6, 3, 0⟩] 15 (by kernel_rfl) (by kernel_rfl) (fun w h => h.pick [0, 1, 2, 3] (by kernel_rfl) (by kernel_rfl)) (by kernel_rfl) (by kernel_rfl) ?_
        obtain ⟨x_12, hx_647, h⟩ := bd h
        refine jd_v 3 0 (by kernel_rfl) (fun w h => h.pick [0, 1, 2, 3] (by kernel_rfl) (by kernel_rfl)) (by kernel_rfl) (by kernel_rfl) _ (fun w hm => idx_run (a := t1_a) (len := t1.length) (s := 2) (j := i_4) (by kernel_rfl) (ix_some hx_647).1 (ltn hx_647 rfl) (t1_h.sp hx_647)) ?_
        refine jd_v 4 0 (by kernel_rfl) (fun w h => h.pick [0, 1, 2, 3] (by kernel_rfl) (by kernel_rfl)) (by kernel_rfl) (by kernel_rfl) _ (fun w hm => ld_run (b := aB t1_a) (off := (aO t1_a + i_4.toNat * 2)) (s := 2) (agg := true) (vs := (encGNote x_12)) (by kernel_rfl) (by kernel_rfl) (.inl rfl) ((hm.exRow t1_h List.not_mem_nil).at hx_647)) ?_
        obtain ⟨t_13, ht_648, h⟩ := bd h
        refine toD 5 (by kernel_rfl) (p_call 0 47 #[(.agg #[(.int .i16 f0.fSteps), (.slice f0_fHammers_a f0.fHammers.length f0_fHammers_c)]), (.agg #[(.int .i16 x_12.fAt), (.int .i8 x_12.fPitch)])] (by kernel_rfl) (by kernel_rfl) (fun w hm => impl_Frame_choices.calls f0 x_12 w _ f0_fHammers_a f0.fHammers.length f0_fHammers_c (hm.exRow f0_fHammers_h List.not_mem_nil) rfl ht_648) ?_)
        rintro w v w' hm ⟨o_649, cap_650, sp_651, _, rfl, hs_652, ho_653, rfl, hm'⟩
        refine ⟨_, hm.app hm', jkD (fun w h => h.pick [0, 1, 2, 3] (by kernel_rfl) (by kernel_rfl)) ?_⟩
        clear hm hm'
        obtain ⟨t_14, ht_654, h⟩ := bd h
        refine toD 7 (by kernel_rfl) (p_call 0 100 #[(.slice (o_649.map fun b => ⟨b, 0, none⟩) t_13.length cap_650), (.agg #[(.bool x_7.fAway), (.int .i8 x_7.fLate), (.int .i8 x_7.fOctave), (.int .i8 x_7.fTrack)])] (by kernel_rfl) (by kernel_rfl) (fun w hm => slices_Contains_Choice.calls t_13 x_7 w _ (o_649.map fun b => ⟨b, 0, none⟩) t_13.length cap_650 (hm.ownRow (hh := 4) (o := o_649) (T := 58) (enc := encGChoice) (xs := t_13) (sp := sp_651) (by kernel_rfl) (fun e => (ho_653 e).1) encGChoice_len) rfl ht_654) ?_)
        rintro w v w' hm ⟨rfl, hm'⟩
        refine ⟨_, hm.app hm', jkD (fun w h => h.pick [0, 1, 2, 3] (by kernel_rfl) (by kernel_rfl)) ?_⟩
        clear hm hm'
        refine jd_f [⟨8, 0, 0⟩, ⟨9, 0, 0⟩, ⟨10, 0, 1⟩, ⟨11, 0, 1⟩, ⟨12, 0, 1⟩, ⟨15, 3, 1⟩] 5 (by kernel_rfl) (by kernel_rfl) (fun w h => h.pick [0, 1, 2, 3] (by kernel_rfl) (by kernel_rfl)) (by kernel_rfl) (by kernel_rfl) ?_
        refine jd_split 28 (!t_14) (by kernel_rfl) (fun hc_655 => ?_) (fun hc_655 => ?_)
        · replace h := ifT hc_655 h
          refine jd_f [⟨13, 0, 3⟩, ⟨14, 0, 3⟩, ⟨16, 0, 3⟩, ⟨17, 0, 3⟩, ⟨18, 0, 4⟩] 0 (by kernel_rfl) (by kernel_rfl) (fun w h => h.pick [0, 1, 2, 3] (by kernel_rfl) (by kernel_rfl)) (by kernel_rfl) (by kernel_rfl) ?_
          refine jd_end (by kernel_rfl) ?_
          exact jx_meet true h (by kernel_rfl) [0, 1, 2, 3] (by kernel_rfl) (by kernel_rfl)
        · replace h := ifF hc_655 h
          obtain ⟨x_15, hx_656, h⟩ := bd h
          refine jd_v 13 2 (by kernel_rfl) (fun w h => h.pick [0, 1, 2, 3] (by kernel_rfl) (by kernel_rfl)) (by kernel_rfl) (by kernel_rfl) _ (fun w hm => idx_run (a := t1_a) (len := t1.length) (s := 2) (j := i_4) (by kernel_rfl) (ix_some hx_656).1 (ltn hx_656 rfl) (t1_h.sp hx_656)) ?_
          refine jd_v 14 2 (by kernel_rfl) (fun w h => h.pick [0, 1, 2, 3] (by kernel_rfl) (by kernel_rfl)) (by kernel_rfl) (by kernel_rfl) _ (fun w hm => ld_run (b := aB t1_a) (off := (aO t1_a + i_4.toNat * 2)) (s := 2) (agg := true) (vs := (encGNote x_15)) (by kernel_rfl) (by kernel_rfl) (.inl rfl) ((hm.exRow t1_h List.not_mem_nil).at hx_656)) ?_
          obtain ⟨t_16, ht_657, h⟩ := bd h
          refine toD 16 (by kernel_rfl) (p_call 2 101 #[(.agg #[(.int .i16 f0.fSteps), (.slice f0_fHammers_a f0.fHammers.length f0_fHammers_c)]), (.pointer (some ⟨b_3, 0, none⟩)), (.agg #[(.int .i16 x_15.fAt), (.int .i8 x_15.fPitch)]), (.agg #[(.bool x_7.fAway), (.int .i8 x_7.fLate), (.int .i8 x_7.fOctave), (.int .i8 x_7.fTrack)])] (by kernel_rfl) (by kernel_rfl) (fun w hm => impl_Frame_canPut.calls f0 a_3 x_15 x_7 w _ f0_fHammers_a f0.fHammers.length f0_fHammers_c (hm.exRow f0_fHammers_h List.not_mem_nil) rfl b_3 (hm.pass (N := [⟨(some b_3), 39, row encU32 a_3.1 []⟩]) [2] (by kernel_rfl) (by kernel_rfl)) (hm.exApart (N := [⟨(some b_3), 39, row encU32 a_3.1 []⟩]) f0_fHammers_h (fun _ => List.not_mem_nil) [2] (by kernel_rfl)) ht_657) ?_)
          rintro w v w' hm ⟨rfl, hm'⟩
          refine ⟨_, hm.appW (ps := [(2, ⟨(some b_3), 39, row encU32 a_3.1 []⟩)]) (N := []) hm' (by kernel_rfl) (by kernel_rfl), jkD (fun w h => h.pick [0, 1, 2, 3] (by kernel_rfl) (by kernel_rfl)) ?_⟩
          clear hm hm'
          refine jd_f [⟨17, 0, 2⟩, ⟨18, 0, 5⟩] 0 (by kernel_rfl) (by kernel_rfl) (fun w h => h.pick [0, 1, 2, 3] (by kernel_rfl) (by kernel_rfl)) (by kernel_rfl) (by kernel_rfl) ?_
          refine jd_end (by kernel_rfl) ?_
          exact jx_meet (!t_16) h (by kernel_rfl) [0, 1, 2, 3] (by kernel_rfl) (by kernel_rfl)
      · rintro q_8 h
        replace h : impl_Frame_fit.k_9 t1 a_3 i_4 x_7 q_8 = some y_603 := h
        rw [impl_Frame_fit.k_9] at h
        refine jx_then ?_
        refine jc_cond q_8 (by kernel_rfl) (fun hc_642 => ?_) (fun hc_642 => ?_)
        · replace h := ifT hc_642 h
          refine jc_seq ?_
          refine jc_region ?_
          refine jo_f [(0, 0), (0, 0)] (by kernel_rfl) ?_
          refine toO (by kernel_rfl) (p_sA 0 1 b_2 96 1 39 encU32 (Arr.rep 96 0) (Arr.rep 96 0) (by kernel_rfl) (by kernel_rfl) (by kernel_rfl) encU32_len encU32_cell (by kernel_rfl) (jkO ?_))
          refine jo_f [(0, 0)] (by kernel_rfl) ?_
          refine jo_end (by kernel_rfl) ?_
          refine jx_then ?_
          refine jc_ret ?_
          refine jx_thenr ?_
          refine jx_inr ?_
          refine jx_thenr ?_
          refine jx_leaver (.inl ((Arr.rep 96 0), i_4)) (Option.some.inj h).symm (fun e_643 => ?_)
          subst e_643
          refine jx_inr ?_
          refine jx_thenr ?_
          refine jx_thenr ?_
          obtain rfl := Option.some.inj hr_602
          exact jx_retV rfl (rq_arr (b := b_2) (T' := 39) (hh := 1) (mm := 1) encU32 (Arr.rep 96 0) (by kernel_rfl) (by kernel_rfl) encU32_len (by kernel_rfl) (rq_tmp (by kernel_rfl) rq_nil)) (fun w hm => ⟨rfl, hm.pick [] (by kernel_rfl) (by kernel_rfl)⟩)
        · replace h := ifF hc_642 h
          refine jc_skip ?_
          refine jx_then ?_
          refine jc_draw [⟨some b_1, 27, [(.int .i16 f0.fSteps), (.slice f0_fHammers_a f0.fHammers.length f0_fHammers_c)]⟩, ⟨(some b_2), 39, row encU32 ((Arr.rep 96 0).1) []⟩, ⟨some b_607, 58, [(.bool x_7.fAway), (.int .i8 x_7.fLate), (.int .i8 x_7.fOctave), (.int .i8 x_7.fTrack)]⟩] 6 (by kernel_rfl) (by kernel_rfl) ?_
          refine jd_f [⟨0, 0, 0⟩, ⟨1, 0, 0⟩, ⟨4, 2, 0⟩] 3 (by kernel_rfl) (by kernel_rfl) (fun w h => h.pick [0, 1, 3] (by kernel_rfl) (by kernel_rfl)) (by kernel_rfl) (by kernel_rfl) ?_
          obtain ⟨x_10, hx_645, h⟩ := bd h
          refine jd_v 2 0 (by kernel_rfl) (fun w h => h.pick [0, 1, 3] (by kernel_rfl) (by kernel_rfl)) (by kernel_rfl) (by kernel_rfl) _ (fun w hm => idx_run (a := t1_a) (len := t1.length) (s := 2) (j := i_4) (by kernel_rfl) (ix_some hx_645).1 (ltn hx_645 rfl) (t1_h.sp hx_645)) ?_
          refine jd_v 3 0 (by kernel_rfl) (fun w h => h.pick [0, 1, 3] (by kernel_rfl) (by kernel_rfl)) (by kernel_rfl) (by kernel_rfl) _ (fun w hm => ld_run (b := aB t1_a) (off := (aO t1_a + i_4.toNat * 2)) (s := 2) (agg := true) (vs := (encGNote x_10)) (by kernel_rfl) (by kernel_rfl) (.inl rfl) ((hm.exRow t1_h List.not_mem_nil).at hx_645)) ?_
          obtain ⟨t_11, ht_646, h⟩ := bd h
          refine toD 5 (by kernel_rfl) (p_call 0 102 #[(.pointer (some ⟨b_3, 0, none⟩)), (.agg #[(.int .i16 x_10.fAt), (.int .i8 x_10.fPitch)]), (.agg #[(.bool x_7.fAway), (.int .i8 x_7.fLate), (.int .i8 x_7.fOctave), (.int .i8 x_7.fTrack)])] (by kernel_rfl) (by kernel_rfl) (fun w hm => impl_Drum_puts.calls a_3 x_10 x_7 w _ b_3 (hm.pass (N := [⟨(some b_3), 39, row encU32 a_3.1 []⟩]) [2] (by kernel_rfl) (by kernel_rfl)) ht_646) ?_)
          rintro w v w' hm ⟨rfl, hm'⟩
          refine ⟨_, hm.appW (ps := [(2, ⟨(some b_3), 39, row encU32 t_11.1 []⟩)]) (N := []) hm' (by kernel_rfl) (by kernel_rfl), jkD (fun w h => h.pick [0, 1, 3] (by kernel_rfl) (by kernel_rfl)) ?_⟩
          clear hm hm'
          refine jd_end (by kernel_rfl) ?_
          refine jx_inn ?_
          refine jx_then ?_
          refine jc_region ?_
          refine jo_f [(0, 0), (0, 0)] (by kernel_rfl) ?_
          refine jo_end (by kernel_rfl) ?_
          exact jx_back (t_11, (w64 (i_4 + 1))) () (Option.some.inj h).symm trivial [0, 1, 2] (by kernel_rfl) (by kernel_rfl) (by kernel_rfl)
    · replace h := ifF hc_605 h
      refine jc_exit ?_
      refine jx_thenx ?_
      refine jx_leave (.inr a_3) (Option.some.inj h).symm (fun e_658 => ?_)
      subst e_658
      refine jx_ine ?_
      exact jx_meet a_3 hr_602 (by kernel_rfl) [0, 1, 2] (by kernel_rfl) (by kernel_rfl)
  · rintro a_1 h
    replace h : impl_Frame_fit.k_2 list2 a_1 = some r := h
    rw [impl_Frame_fit.k_2] at h
    refine jx_then ?_
    refine jc_seq ?_
    refine jc_region ?_
    refine toO (by kernel_rfl) (p_ldA 0 2 b_3 96 1 39 encU32 a_1 (by kernel_rfl) (by kernel_rfl) (by kernel_rfl) encU32_len (by kernel_rfl) (jkO ?_))
    refine jo_f [(0, 0), (0, 0)] (by kernel_rfl) ?_
    refine toO (by kernel_rfl) (p_sA 0 1 b_2 96 1 39 encU32 (Arr.rep 96 0) a_1 (by kernel_rfl) (by kernel_rfl) (by kernel_rfl) encU32_len encU32_cell (by kernel_rfl) (jkO ?_))
    refine jo_f [(0, 0)] (by kernel_rfl) ?_
    refine jo_end (by kernel_rfl) ?_
    refine jx_then ?_
    refine jc_ret ?_
    obtain rfl := Option.some.inj h
    exact jx_retV rfl (rq_arr (b := b_2) (T' := 39) (hh := 1) (mm := 1) encU32 a_1 (by kernel_rfl) (by kernel_rfl) encU32_len (by kernel_rfl) (rq_tmp (by kernel_rfl) rq_nil)) (fun w hm => ⟨rfl, hm.pick [] (by kernel_rfl) (by kernel_rfl)⟩)

/-! ### impl.fitted -/
noncomputable def impl_fitted (f0 : GFrame) (t1 : List GNote) (list2 : List GChoice) : Option ((Arr 96 Int) × Int × Int) := (impl_tuneFrameCode f0 t1 list2).bind fun t_1 => (impl_unless ((list2.length : Int) == (t1.length : Int)) 2).bind fun t_2 => (impl_firstOf [t_1, t_2]).bind fun t_3 => (if (t_3 != 0) = true then some ((Arr.rep 96 0), 0, t_3) else (impl_Frame_fit f0 t1 list2).bind fun t_4 => (impl_unless (t_4.2 == (t1.length : Int)) 4).bind fun t_5 => some (t_4.1, t_4.2, t_5))
set_option maxRecDepth 100000 in
theorem impl_fitted.calls (f0 : GFrame) (t1 : List GNote) (list2 : List GChoice) (w : World) (r : (Arr 96 Int) × Int × Int) (f0_fHammers_a : Option Addr) (f0_fHammers_an : Nat) (f0_fHammers_c : Nat) (f0_fHammers_h : Rw w f0_fHammers_a 2 encGHammer f0.fHammers) (f0_fHammers_hn : f0.fHammers.length = f0_fHammers_an) (t1_a : Option Addr) (t1_an : Nat) (t1_c : Nat) (t1_h : Rw w t1_a 2 encGNote t1) (t1_hn : t1.length = t1_an) (list2_a : Option Addr) (list2_an : Nat) (list2_c : Nat) (list2_h : Rw w list2_a 4 encGChoice list2) (list2_hn : list2.length = list2_an) (h : impl_fitted f0 t1 list2 = some r) :
    Calls Tryz.prog 35 #[(.agg #[(.int .i16 f0.fSteps), (.slice f0_fHammers_a f0_fHammers_an f0_fHammers_c)]), (.slice t1_a t1_an t1_c), (.slice list2_a list2_an list2_c)] w fun e w' => ∃ v, e = .returned v ∧ (v = .tuple #[(.agg (row encU32 r.1.1 []).toArray), (.int .i64 r.2.1), (.int .i64 r.2.2)] ∧ Mem w [] [] w') := by
  subst f0_fHammers_hn t1_hn list2_hn
  rw [impl_fitted] at h
  refine enter (args := [(.agg #[(.int .i16 f0.fSteps), (.slice f0_fHammers_a f0.fHammers.length f0_fHammers_c)]), (.slice t1_a t1.length t1_c), (.slice list2_a list2.length list2_c)]) Tryz.func35 rfl Tryz.ntmps35 (by kernel_rfl) (L := []) (W := []) (Mem.start w) ?_
  refine jc_seq ?_
  refine jc_region ?_
  refine toO (by kernel_rfl) (p_a 0 [0] (by kernel_rfl) (fun b => by kernel_rfl) (fun b_1 => jkO ?_))
  refine toO (by kernel_rfl) (p_a 0 [0] (by kernel_rfl) (fun b => by kernel_rfl) (fun b_2 => jkO ?_))
  refine jo_f [(0, 0), (0, 0)] (by kernel_rfl) ?_
  refine jo_end (by kernel_rfl) ?_
  refine jx_then ?_
  refine jc_seq ?_
  refine jc_seq ?_
  refine jc_region ?_
  refine jo_f [(0, 0), (0, 0), (0, 0)] (by kernel_rfl) ?_
  obtain ⟨t_1, ht_8, h⟩ := bd h
  refine toO (by kernel_rfl) (p_call 0 68 #[(.agg #[(.int .i16 f0.fSteps), (.slice f0_fHammers_a f0.fHammers.length f0_fHammers_c)]), (.slice t1_a t1.length t1_c), (.slice list2_a list2.length list2_c)] (by kernel_rfl) (by kernel_rfl) (fun w hm => impl_tuneFrameCode.calls f0 t1 list2 w _ f0_fHammers_a f0.fHammers.length f0_fHammers_c (hm.exRow f0_fHammers_h List.not_mem_nil) rfl t1_a t1.length t1_c (hm.exRow t1_h List.not_mem_nil) rfl list2_a list2.length list2_c (hm.exRow list2_h List.not_mem_nil) rfl ht_8) ?_)
  rintro w v w' hm ⟨rfl, hm'⟩
  refine ⟨_, hm.app hm', jkO ?_⟩
  clear hm hm'
  refine jo_f [(0, 0), (0, 0), (0, 0), (0, 0), (0, 0)] (by kernel_rfl) ?_
  obtain ⟨t_2, ht_9, h⟩ := bd h
  refine toO (by kernel_rfl) (p_call 0 60 #[(.bool ((list2.length : Int) == (t1.length : Int))), (.int .i64 2)] (by kernel_rfl) (by kernel_rfl) (fun w hm => impl_unless.calls ((list2.length : Int) == (t1.length : Int)) 2 w _ ht_9) ?_)
  rintro w v w' hm ⟨rfl, hm'⟩
  refine ⟨_, hm.app hm', jkO ?_⟩
  clear hm hm'
  refine toO (by kernel_rfl) (p_a 0 [0] (by kernel_rfl) (fun b => by kernel_rfl) (fun b_10 => jkO ?_))
  obtain ⟨t_3, ht_11, h⟩ := bd h
  refine toO (by kernel_rfl) (p_call 0 67 #[(.slice (some ⟨b_10, 0, none⟩) 2 2)] (by kernel_rfl) (by kernel_rfl) (fun w hm => impl_firstOf.calls [t_1, t_2] w _ (some ⟨b_10, 0, none⟩) 2 2 (hm.ownRow (hh := 2) (o := (some b_10)) (T := 2) (enc := encI64) (xs := [t_1, t_2]) (sp := []) (by kernel_rfl) (fun e => nomatch e) encI64_len) rfl ht_11) ?_)
  rintro w v w' hm ⟨rfl, hm'⟩
  refine ⟨_, hm.app hm', jkO ?_⟩
  clear hm hm'
  refine jo_f [(0, 0)] (by kernel_rfl) ?_
  refine jo_end (by kernel_rfl) ?_
  refine jx_then ?_
  refine jc_seq ?_
  refine jc_region ?_
  refine jo_f [(0, 0), (0, 0)] (by kernel_rfl) ?_
  refine jo_end (by kernel_rfl) ?_
  refine jx_then ?_
  refine jc_cond (t_3 != 0) (by kernel_rfl) (fun hc_12 => ?_) (fun hc_12 => ?_)
  · replace h := ifT hc_12 h
    refine jc_seq ?_
    refine jc_region ?_
    refine jo_f [(0, 0), (0, 0)] (by kernel_rfl) ?_
    refine toO (by kernel_rfl) (p_sA 0 1 b_2 96 1 39 encU32 (Arr.rep 96 0) (Arr.rep 96 0) (by kernel_rfl) (by kernel_rfl) (by kernel_rfl) encU32_len encU32_cell (by kernel_rfl) (jkO ?_))
    refine jo_f [(0, 0), (0, 0)] (by kernel_rfl) ?_
    refine jo_end (by kernel_rfl) ?_
    refine jx_then ?_
    refine jc_ret ?_
    refine jx_thenr ?_
    obtain rfl := Option.some.inj h
    exact jx_retV rfl (rq_arr (b := b_2) (T' := 39) (hh := 1) (mm := 1) encU32 (Arr.rep 96 0) (by kernel_rfl) (by kernel_rfl) encU32_len (by kernel_rfl) (rq_tmp (by kernel_rfl) (rq_tmp (by kernel_rfl) rq_nil))) (fun w hm => ⟨rfl, hm.pick [] (by kernel_rfl) (by kernel_rfl)⟩)
  · replace h := ifF hc_12 h
    refine jc_skip ?_
    refine jx_then ?_
    refine jc_seq ?_
    refine jc_region ?_
    refine jo_f [(0, 0), (0, 0), (0, 0)] (by kernel_rfl) ?_
    obtain ⟨t_4, ht_13, h⟩ := bd h
    refine toO (by kernel_rfl) (p_call 0 69 #[(.agg #[(.int .i16 f0.fSteps), (.slice f0_fHammers_a f0.fHammers.length f0_fHammers_c)]), (.slice t1_a t1.length t1_c), (.slice list2_a list2.length list2_c)] (by kernel_rfl) (by kernel_rfl) (fun w hm => impl_Frame_fit.calls f0 t1 list2 w _ f0_fHammers_a f0.fHammers.length f0_fHammers_c (hm.exRow f0_fHammers_h List.not_mem_nil) rfl t1_a t1.length t1_c (hm.exRow t1_h List.not_mem_nil) rfl list2_a list2.length list2_c (hm.exRow list2_h List.not_mem_nil) rfl ht_13) ?_)
    rintro w v w' hm ⟨rfl, hm'⟩
    refine ⟨_, hm.app hm', jkO ?_⟩
    clear hm hm'
    refine jo_f [(0, 0), (0, 0), (0, 0)] (by kernel_rfl) ?_
    refine toO (by kernel_rfl) (p_a 0 [0] (by kernel_rfl) (fun b => by kernel_rfl) (fun b_14 => jkO ?_))
    refine toO (by kernel_rfl) (p_sA 0 3 b_14 96 1 39 encU32 (Arr.rep 96 0) t_4.1 (by kernel_rfl) (by kernel_rfl) (by kernel_rfl) encU32_len encU32_cell (by kernel_rfl) (jkO ?_))
    refine jo_f [(0, 0)] (by kernel_rfl) ?_
    refine jo_end (by kernel_rfl) ?_
    refine jx_then ?_
    refine jc_seq ?_
    refine jc_draw [⟨some b_1, 27, [(.int .i16 f0.fSteps), (.slice f0_fHammers_a f0.fHammers.length f0_fHammers_c)]⟩, ⟨(some b_10), 2, row encI64 [t_1, t_2] []⟩, ⟨(some b_14), 39, row encU32 t_4.1.1 []⟩] 10 (by kernel_rfl) (by kernel_rfl) ?_
    refine jd_f [⟨1, 0, 0⟩, ⟨2, 0, 0⟩, ⟨3, 0, 0⟩, ⟨4, 0, 0⟩, ⟨5, 0, 0⟩] 5 (by kernel_rfl) (by kernel_rfl) (fun w h => h.pick [0, 2, 3] (by kernel_rfl) (by kernel_rfl)) (by kernel_rfl) (by kernel_rfl) ?_
    refine jd_v 0 0 (by kernel_rfl) (fun w h => h.pick [0, 2, 3] (by kernel_rfl) (by kernel_rfl)) (by kernel_rfl) (by kernel_rfl) _ (fun w hm => ld_run (b := b_14) (off := 0) (s := 96) (agg := true) (vs := row encU32 t_4.1.1 []) (by kernel_rfl) ((row_len encU32_len t_4.1).trans rfl) (.inl rfl) (hm.all (hh := 2) (T := 39) (by kernel_rfl))) ?_
    obtain ⟨t_5, ht_16, h⟩ := bd h
    refine toD 6 (by kernel_rfl) (p_call 0 60 #[(.bool (t_4.2 == (t1.length : Int))), (.int .i64 4)] (by kernel_rfl) (by kernel_rfl) (fun w hm => impl_unless.calls (t_4.2 == (t1.length : Int)) 4 w _ ht_16) ?_)
    rintro w v w' hm ⟨rfl, hm'⟩
    refine ⟨_, hm.app hm', jkD (fun w h => h.pick [0, 2, 3] (by kernel_rfl) (by kernel_rfl)) ?_⟩
    clear hm hm'
    refine toD 7 (by kernel_rfl) (p_sA 0 1 b_2 96 1 39 encU32 (Arr.rep 96 0) t_4.1 (by kernel_rfl) (by kernel_rfl) (by kernel_rfl) encU32_len encU32_cell (by kernel_rfl) (jkD (fun w h => h.pick [0, 2, 3] (by kernel_rfl) (by kernel_rfl)) ?_))
    refine jd_f [⟨8, 0, 0⟩, ⟨9, 0, 0⟩] 0 (by kernel_rfl) (by kernel_rfl) (fun w h => h.pick [0, 2, 3] (by kernel_rfl) (by kernel_rfl)) (by kernel_rfl) (by kernel_rfl) ?_
    refine jd_end (by kernel_rfl) ?_
    refine jx_then ?_
    refine jc_ret ?_
    obtain rfl := Option.some.inj h
    exact jx_retV rfl (rq_arr (b := b_2) (T' := 39) (hh := 1) (mm := 1) encU32 t_4.1 (by kernel_rfl) (by kernel_rfl) encU32_len (by kernel_rfl) (rq_tmp (by kernel_rfl) (rq_tmp (by kernel_rfl) rq_nil))) (fun w hm => ⟨rfl, hm.pick [] (by kernel_rfl) (by kernel_rfl)⟩)

/-! ### impl.DrumFor -/
noncomputable def impl_DrumFor (f0 : GFrame) (t1 : List GNote) (list2 : List GChoice) : Option ((Arr 96 Int) × Int) := (impl_fitted f0 t1 list2).bind fun t_1 => (if (t_1.2.2 != 0) = true then some ((Arr.rep 96 0), t_1.2.2) else some (t_1.1, 0))
set_option maxRecDepth 100000 in
theorem impl_DrumFor.calls (f0 : GFrame) (t1 : List GNote) (list2 : List GChoice) (w : World) (r : (Arr 96 Int) × Int) (f0_fHammers_a : Option Addr) (f0_fHammers_an : Nat) (f0_fHammers_c : Nat) (f0_fHammers_h : Rw w f0_fHammers_a 2 encGHammer f0.fHammers) (f0_fHammers_hn : f0.fHammers.length = f0_fHammers_an) (t1_a : Option Addr) (t1_an : Nat) (t1_c : Nat) (t1_h : Rw w t1_a 2 encGNote t1) (t1_hn : t1.length = t1_an) (list2_a : Option Addr) (list2_an : Nat) (list2_c : Nat) (list2_h : Rw w list2_a 4 encGChoice list2) (list2_hn : list2.length = list2_an) (h : impl_DrumFor f0 t1 list2 = some r) :
    Calls Tryz.prog 9 #[(.agg #[(.int .i16 f0.fSteps), (.slice f0_fHammers_a f0_fHammers_an f0_fHammers_c)]), (.slice t1_a t1_an t1_c), (.slice list2_a list2_an list2_c)] w fun e w' => ∃ v, e = .returned v ∧ (v = .tuple #[(.agg (row encU32 r.1.1 []).toArray), (.int .i64 r.2)] ∧ Mem w [] [] w') := by
  subst f0_fHammers_hn t1_hn list2_hn
  rw [impl_DrumFor] at h
  refine enter (args := [(.agg #[(.int .i16 f0.fSteps), (.slice f0_fHammers_a f0.fHammers.length f0_fHammers_c)]), (.slice t1_a t1.length t1_c), (.slice list2_a list2.length list2_c)]) Tryz.func9 rfl Tryz.ntmps9 (by kernel_rfl) (L := []) (W := []) (Mem.start w) ?_
  refine jc_seq ?_
  refine jc_region ?_
  refine toO (by kernel_rfl) (p_a 0 [0] (by kernel_rfl) (fun b => by kernel_rfl) (fun b_1 => jkO ?_))
  refine toO (by kernel_rfl) (p_a 0 [0] (by kernel_rfl) (fun b => by kernel_rfl) (fun b_2 => jkO ?_))
  refine jo_f [(0, 0)] (by kernel_rfl) ?_
  refine jo_end (by kernel_rfl) ?_
  refine jx_then ?_
  refine jc_seq ?_
  refine jc_region ?_
  refine jo_f [(0, 0), (0, 0), (0, 0)] (by kernel_rfl) ?_
  obtain ⟨t_1, ht_3, h⟩ := bd h
  refine toO (by kernel_rfl) (p_call 0 35 #[(.agg #[(.int .i16 f0.fSteps), (.slice f0_fHammers_a f0.fHammers.length f0_fHammers_c)]), (.slice t1_a t1.length t1_c), (.slice list2_a list2.length list2_c)] (by kernel_rfl) (by kernel_rfl) (fun w hm => impl_fitted.calls f0 t1 list2 w _ f0_fHammers_a f0.fHammers.length f0_fHammers_c (hm.exRow f0_fHammers_h List.not_mem_nil) rfl t1_a t1.length t1_c (hm.exRow t1_h List.not_mem_nil) rfl list2_a list2.length list2_c (hm.exRow list2_h List.not_mem_nil) rfl ht_3) ?_)
  rintro w v w' hm ⟨rfl, hm'⟩
  refine ⟨_, hm.app hm', jkO ?_⟩
  clear hm hm'
  refine jo_f [(0, 0), (0, 0), (0, 0), (0, 0)] (by kernel_rfl) ?_
  refine toO (by kernel_rfl) (p_a 0 [0] (by kernel_rfl) (fun b => by kernel_rfl) (fun b_4 => jkO ?_))
  refine toO (by kernel_rfl) (p_sA 0 2 b_4 96 1 39 encU32 (Arr.rep 96 0) t_1.1 (by kernel_rfl) (by kernel_rfl) (by kernel_rfl) encU32_len encU32_cell (by kernel_rfl) (jkO ?_))
  refine jo_f [(0, 0), (0, 0)] (by kernel_rfl) ?_
  refine jo_end (by kernel_rfl) ?_
  refine jx_then ?_
  refine jc_seq ?_
  refine jc_seq ?_
  refine jc_region ?_
  refine jo_f [(0, 0), (0, 0)] (by kernel_rfl) ?_
  refine jo_end (by kernel_rfl) ?_
  refine jx_then ?_
  refine jc_cond (t_1.2.2 != 0) (by kernel_rfl) (fun hc_6 => ?_) (fun hc_6 => ?_)
  · replace h := ifT hc_6 h
    refine jc_seq ?_
    refine jc_region ?_
    refine jo_f [(0, 0), (0, 0)] (by kernel_rfl) ?_
    refine toO (by kernel_rfl) (p_sA 0 1 b_2 96 1 39 encU32 (Arr.rep 96 0) (Arr.rep 96 0) (by kernel_rfl) (by kernel_rfl) (by kernel_rfl) encU32_len encU32_cell (by kernel_rfl) (jkO ?_))
    refine jo_f [(0, 0)] (by kernel_rfl) ?_
    refine jo_end (by kernel_rfl) ?_
    refine jx_then ?_
    refine jc_ret ?_
    refine jx_thenr ?_
    obtain rfl := Option.some.inj h
    exact jx_retV rfl (rq_arr (b := b_2) (T' := 39) (hh := 1) (mm := 1) encU32 (Arr.rep 96 0) (by kernel_rfl) (by kernel_rfl) encU32_len (by kernel_rfl) (rq_tmp (by kernel_rfl) rq_nil)) (fun w hm => ⟨rfl, hm.pick [] (by kernel_rfl) (by kernel_rfl)⟩)
  · replace h := ifF hc_6 h
    refine jc_skip ?_
    refine jx_then ?_
    refine jc_seq ?_
    refine jc_region ?_
    refine toO (by kernel_rfl) (p_ldA 0 2 b_4 96 1 39 encU32 t_1.1 (by kernel_rfl) (by kernel_rfl) (by kernel_rfl) encU32_len (by kernel_rfl) (jkO ?_))
    refine toO (by kernel_rfl) (p_sA 0 1 b_2 96 1 39 encU32 (Arr.rep 96 0) t_1.1 (by kernel_rfl) (by kernel_rfl) (by kernel_rfl) encU32_len encU32_cell (by kernel_rfl) (jkO ?_))
    refine jo_f [(0, 0)] (by kernel_rfl) ?_
    refine jo_end (by kernel_rfl) ?_
    refine jx_then ?_
    refine jc_ret ?_
    obtain rfl := Option.some.inj h
    exact jx_retV rfl (rq_arr (b := b_2) (T' := 39) (hh := 1) (mm := 1) encU32 t_1.1 (by kernel_rfl) (by kernel_rfl) encU32_len (by kernel_rfl) (rq_tmp (by kernel_rfl) rq_nil)) (fun w hm => ⟨rfl, hm.pick [] (by kernel_rfl) (by kernel_rfl)⟩)

/-! ### spec.l00Min -/
noncomputable def spec_l00Min (a0 : Int) (b1 : Int) : Option (Int) := (if (decide (a0 < b1)) = true then some a0 else some b1)
set_option maxRecDepth 100000 in
theorem spec_l00Min.calls (a0 : Int) (b1 : Int) (w : World) (r : Int) (h : spec_l00Min a0 b1 = some r) :
    Calls Tryz.prog 87 #[(.int .i64 a0), (.int .i64 b1)] w fun e w' => ∃ v, e = .returned v ∧ (v = (.int .i64 r) ∧ Mem w [] [] w') := by
  rw [spec_l00Min] at h
  refine enter (args := [(.int .i64 a0), (.int .i64 b1)]) Tryz.func87 rfl Tryz.ntmps87 (by kernel_rfl) (L := []) (W := []) (Mem.start w) ?_
  refine jc_seq ?_
  refine jc_region ?_
  refine jo_f [(0, 0)] (by kernel_rfl) ?_
  refine jo_end (by kernel_rfl) ?_
  refine jx_then ?_
  refine jc_seq ?_
  refine jc_seq ?_
  refine jc_region ?_
  refine jo_f [(0, 0), (0, 0), (0, 0)] (by kernel_rfl) ?_
  refine jo_end (by kernel_rfl) ?_
  refine jx_then ?_
  refine jc_cond (decide (a0 < b1)) (by kernel_rfl) (fun hc_2 => ?_) (fun hc_2 => ?_)
  · replace h := ifT hc_2 h
    refine jc_seq ?_
    refine jc_region ?_
    refine jo_f [(0, 0), (0, 0)] (by kernel_rfl) ?_
    refine jo_end (by kernel_rfl) ?_
    refine jx_then ?_
    refine jc_ret ?_
    refine jx_thenr ?_
    obtain rfl := Option.some.inj h
    exact jx_ret [] (.int .i64 a0) [] rfl (by kernel_rfl) (by kernel_rfl) (fun w hm => ⟨rfl, hm.pick [] (by kernel_rfl) (by kernel_rfl)⟩)
  · replace h := ifF hc_2 h
    refine jc_skip ?_
    refine jx_then ?_
    refine jc_seq ?_
    refine jc_region ?_
    refine jo_f [(0, 0), (0, 0)] (by kernel_rfl) ?_
    refine jo_end (by kernel_rfl) ?_
    refine jx_then ?_
    refine jc_ret ?_
    obtain rfl := Option.some.inj h
    exact jx_ret [] (.int .i64 b1) [] rfl (by kernel_rfl) (by kernel_rfl) (fun w hm => ⟨rfl, hm.pick [] (by kernel_rfl) (by kernel_rfl)⟩)

/-! ### spec.l02Frame -/
noncomputable def spec_l02Frame.k_3 : Option (Bool) := some true
noncomputable def spec_l02Frame.k_9 (i_4 : Int) (q_8 : Bool) : Option ((Int) ⊕ (Bool ⊕ Unit)) := (if q_8 = true then some (.inr (.inl false)) else some (.inl (w64 (i_4 + 1))))
noncomputable def spec_l02Frame.l_5 (f0 : GFrame) : Int → Option ((Int) ⊕ (Bool ⊕ Unit))
  | i_4 => (if (decide (i_4 < (f0.fHammers.length : Int))) = true then (ix f0.fHammers i_4).bind fun x_7 => (spec_l00In (w64 x_7.fPitch) 0 47).bind fun t_10 => (if (!t_10) = true then spec_l02Frame.k_9 i_4 true else (spec_l00Min 20 (w64 f0.fSteps)).bind fun t_11 => (spec_l00In (w64 x_7.fReady) 1 t_11).bind fun t_12 => spec_l02Frame.k_9 i_4 (!t_12)) else some (.inr (.inr ())))
noncomputable def spec_l02Frame.k_2 (f0 : GFrame) (q_1 : Bool) : Option (Bool) := (if q_1 = true then some false else (loop (spec_l02Frame.l_5 f0) 0).bind fun t_6 => match t_6 with | .inl p => some p | .inr p => spec_l02Frame.k_3)
noncomputable def spec_l02Frame (f0 : GFrame) : Option (Bool) := (spec_l00In (w64 f0.fSteps) 2 96).bind fun t_13 => (if (!t_13) = true then spec_l02Frame.k_2 f0 true else (spec_l00In (f0.fHammers.length : Int) 1 24).bind fun t_14 => spec_l02Frame.k_2 f0 (!t_14))
set_option maxRecDepth 100000 in
theorem spec_l02Frame.calls (f0 : GFrame) (w : World) (r : Bool) (f0_fHammers_a : Option Addr) (f0_fHammers_an : Nat) (f0_fHammers_c : Nat) (f0_fHammers_h : Rw w f0_fHammers_a 2 encGHammer f0.fHammers) (f0_fHammers_hn : f0.fHammers.length = f0_fHammers_an) (f0_b : Nat) (hm0 : Mem w (bs [some f0_b]) [⟨some f0_b, 27, [(.int .i16 f0.fSteps), (.slice f0_fHammers_a f0_fHammers_an f0_fHammers_c)]⟩] w) (f0_fHammers_ha : f0.fHammers ≠ [] → aB f0_fHammers_a ∉ bs [some f0_b]) (h : spec_l02Frame f0 = some r) :
    Calls Tryz.prog 48 #[(.pointer (some ⟨f0_b, 0, none⟩))] w fun e w' => ∃ v, e = .returned v ∧ (v = (.bool r) ∧ Mem w (bs [some f0_b]) [⟨some f0_b, 27, [(.int .i16 f0.fSteps), (.slice f0_fHammers_a f0_fHammers_an f0_fHammers_c)]⟩] w') := by
  subst f0_fHammers_hn
  rw [spec_l02Frame] at h
  refine enter (args := [(.pointer (some ⟨f0_b, 0, none⟩))]) Tryz.func48 rfl Tryz.ntmps48 (by kernel_rfl) (L := [⟨some f0_b, 27, [(.int .i16 f0.fSteps), (.slice f0_fHammers_a f0.fHammers.length f0_fHammers_c)]⟩]) (W := bs [some f0_b]) hm0 ?_
  refine jc_seq ?_
  refine jc_region ?_
  refine jo_f [(0, 0)] (by kernel_rfl) ?_
  refine jo_end (by kernel_rfl) ?_
  refine jx_then ?_
  refine jc_seq ?_
  refine jc_seq ?_
  refine jc_meet (fun (j : Bool) => match j with | q_1 => spec_l02Frame.k_2 f0 q_1 = some r) (fun (j : Bool) => match j with | q_1 => [(0, [], (.pointer (some ⟨f0_b, 0, none⟩))), (2, [], (.bool false)), (20, [], (.bool q_1))]) (fun (j : Bool) => match j with | q_1 => [⟨some f0_b, 27, [(.int .i16 f0.fSteps), (.slice f0_fHammers_a f0.fHammers.length f0_fHammers_c)]⟩]) ?_ ?_
  · refine jc_region ?_
    refine jo_f [(0, 0), (0, 0), (0, 0), (0, 0), (0, 0)] (by kernel_rfl) ?_
    obtain ⟨t_13, ht_100, h⟩ := bd h
    refine toO (by kernel_rfl) (p_call 0 54 #[(.int .i64 (w64 f0.fSteps)), (.int .i64 2), (.int .i64 96)] (by kernel_rfl) (by kernel_rfl) (fun w hm => spec_l00In.calls (w64 f0.fSteps) 2 96 w _ ht_100) ?_)
    rintro w v w' hm ⟨rfl, hm'⟩
    refine ⟨_, hm.app hm', jkO ?_⟩
    clear hm hm'
    refine jo_f [(0, 0), (0, 0), (0, 1), (0, 1), (0, 1), (0, 1), (0, 1)] (by kernel_rfl) ?_
    refine jo_split 12 (!t_13) (by kernel_rfl) (fun hc_101 => ?_) (fun hc_101 => ?_)
    · replace h := ifT hc_101 h
      refine jo_f [(0, 3), (0, 3), (0, 4)] (by kernel_rfl) ?_
      refine jo_end (by kernel_rfl) ?_
      exact jx_meet true h (by kernel_rfl) [0] (by kernel_rfl) (by kernel_rfl)
    · replace h := ifF hc_101 h
      obtain ⟨t_14, ht_102, h⟩ := bd h
      refine toO (by kernel_rfl) (p_call 2 54 #[(.int .i64 (f0.fHammers.length : Int)), (.int .i64 1), (.int .i64 24)] (by kernel_rfl) (by kernel_rfl) (fun w hm => spec_l00In.calls (f0.fHammers.length : Int) 1 24 w _ ht_102) ?_)
      rintro w v w' hm ⟨rfl, hm'⟩
      refine ⟨_, hm.app hm', jkO ?_⟩
      clear hm hm'
      refine jo_f [(0, 2), (0, 5)] (by kernel_rfl) ?_
      refine jo_end (by kernel_rfl) ?_
      exact jx_meet (!t_14) h (by kernel_rfl) [0] (by kernel_rfl) (by kernel_rfl)
  · rintro q_1 h
    replace h : spec_l02Frame.k_2 f0 q_1 = some r := h
    rw [spec_l02Frame.k_2] at h
    refine jx_then ?_
    refine jc_cond q_1 (by kernel_rfl) (fun hc_11 => ?_) (fun hc_11 => ?_)
    · replace h := ifT hc_11 h
      refine jc_seq ?_
      refine jc_region ?_
      refine jo_f [(0, 0)] (by kernel_rfl) ?_
      refine jo_end (by kernel_rfl) ?_
      refine jx_then ?_
      refine jc_ret ?_
      refine jx_thenr ?_
      obtain rfl := Option.some.inj h
      exact jx_ret [] (.bool false) [] rfl (by kernel_rfl) (by kernel_rfl) (fun w hm => ⟨rfl, hm.pick [0] (by kernel_rfl) (by kernel_rfl)⟩)
    · replace h := ifF hc_11 h
      refine jc_skip ?_
      refine jx_then ?_
      refine jc_seq ?_
      refine jc_seq ?_
      refine jc_region ?_
      refine jo_f [(0, 0)] (by kernel_rfl) ?_
      refine jo_end (by kernel_rfl) ?_
      refine jx_then ?_
      refine jc_meet (fun (_ : Unit) => spec_l02Frame.k_3 = some r) (fun (_ : Unit) => [(2, [], (.bool false))]) (fun (_ : Unit) => [⟨some f0_b, 27, [(.int .i16 f0.fSteps), (.slice f0_fHammers_a f0.fHammers.length f0_fHammers_c)]⟩]) ?_ ?_
      · refine jc_block ?_
        obtain ⟨t_6, ht_99, hr_82⟩ := bd h
        refine jc_loop (fun (s : Int) (x : Unit) => match s, x with | i_4, _ => True) (fun (s : Int) (x : Unit) => match s, x with | i_4, _ => [(0, [], (.pointer (some ⟨f0_b, 0, none⟩))), (2, [], (.bool false)), (3, [], (.int .i64 i_4))]) (fun (s : Int) (x : Unit) => match s, x with | i_4, _ => [⟨some f0_b, 27, [(.int .i16 f0.fSteps), (.slice f0_fHammers_a f0.fHammers.length f0_fHammers_c)]⟩]) ht_99 () trivial (by kernel_rfl) [0] (by kernel_rfl) (by kernel_rfl) ?_
        rintro i_4 _ y_83 _ h
        rw [spec_l02Frame.l_5] at h
        refine jc_seq ?_
        refine jc_seq ?_
        refine jc_region ?_
        refine jo_f [(0, 0), (0, 0), (0, 0), (0, 0), (0, 0), (0, 0), (0, 0)] (by kernel_rfl) ?_
        refine jo_end (by kernel_rfl) ?_
        refine jx_then ?_
        refine jc_cond (decide (i_4 < (f0.fHammers.length : Int))) (by kernel_rfl) (fun hc_85 => ?_) (fun hc_85 => ?_)
        · replace h := ifT hc_85 h
          refine jc_skip ?_
          refine jx_then ?_
          refine jc_seq ?_
          refine jc_block ?_
          refine jc_seq ?_
          refine jc_region ?_
          refine jo_f [(0, 0), (0, 0), (0, 0), (0, 0), (0, 0)] (by kernel_rfl) ?_
          obtain ⟨x_7, hx_86, h⟩ := bd h
          refine toO (by kernel_rfl) (p_idx 0 f0_fHammers_a f0.fHammers.length i_4 2 (by kernel_rfl) (by kernel_rfl) (ix_some hx_86).1 (ltn hx_86 rfl) (f0_fHammers_h.sp hx_86) (jkO ?_))
          refine toO (by kernel_rfl) (p_ld 0 (aB f0_fHammers_a) (aO f0_fHammers_a + i_4.toNat * 2) true (encGHammer x_7) (by kernel_rfl) (by kernel_rfl) (by kernel_rfl) (fun w hm => ((hm.exRowW f0_fHammers_h f0_fHammers_ha).at hx_86)) (jkO ?_))
          refine toO (by kernel_rfl) (p_a 0 [0] (by kernel_rfl) (fun b => by kernel_rfl) (fun b_87 => jkO ?_))
          refine toO (by kernel_rfl) (p_s 0 [1] (by kernel_rfl) (by kernel_rfl) (jkO ?_))
          refine jo_end (by kernel_rfl) ?_
          refine jx_then ?_
          refine jc_seq ?_
          refine jc_meet (fun (j : Bool) => match j with | q_8 => spec_l02Frame.k_9 i_4 q_8 = some y_83) (fun (j : Bool) => match j with | q_8 => [(0, [], (.pointer (some ⟨f0_b, 0, none⟩))), (2, [], (.bool false)), (3, [], (.int .i64 i_4)), (54, [], (.bool q_8))]) (fun (j : Bool) => match j with | q_8 => [⟨some f0_b, 27, [(.int .i16 f0.fSteps), (.slice f0_fHammers_a f0.fHammers.length f0_fHammers_c)]⟩, ⟨some b_87, 63, [(.int .i8 x_7.fPitch), (.int .i8 x_7.fReady)]⟩]) ?_ ?_
          · refine jc_draw [⟨some f0_b, 27, [(.int .i16 f0.fSteps), (.slice f0_fHammers_a f0.fHammers.length f0_fHammers_c)]⟩, ⟨some b_87, 63, [(.int .i8 x_7.fPitch), (.int .i8 x_7.fReady)]⟩] 18 (by kernel_rfl) (by kernel_rfl) ?_
            refine jd_f [⟨0, 0, 0⟩, ⟨1, 1, 0⟩, ⟨2, 0, 0⟩] 15 (by kernel_rfl) (by kernel_rfl) (fun w h => h.pick [0, 1] (by kernel_rfl) (by kernel_rfl)) (by kernel_rfl) (by kernel_rfl) ?_
            obtain ⟨t_10, ht_94, h⟩ := bd h
            refine toD 3 (by kernel_rfl) (p_call 0 54 #[(.int .i64 (w64 x_7.fPitch)), (.int .i64 0), (.int .i64 47)] (by kernel_rfl) (by kernel_rfl) (fun w hm => spec_l00In.calls (w64 x_7.fPitch) 0 47 w _ ht_94) ?_)
            rintro w v w' hm ⟨rfl, hm'⟩
            refine ⟨_, hm.app hm', jkD (fun w h => h.pick [0, 1] (by kernel_rfl) (by kernel_rfl)) ?_⟩
            clear hm hm'
            refine jd_f [⟨4, 0, 0⟩, ⟨5, 0, 0⟩, ⟨6, 0, 1⟩, ⟨7, 1, 1⟩, ⟨8, 0, 1⟩, ⟨9, 0, 1⟩, ⟨10, 0, 1⟩, ⟨11, 0, 1⟩, ⟨12, 0, 1⟩, ⟨13, 0, 1⟩] 4 (by kernel_rfl) (by kernel_rfl) (fun w h => h.pick [0, 1] (by kernel_rfl) (by kernel_rfl)) (by kernel_rfl) (by kernel_rfl) ?_
            refine jd_split 42 (!t_10) (by kernel_rfl) (fun hc_95 => ?_) (fun hc_95 => ?_)
            · replace h := ifT hc_95 h
              refine jd_f [⟨14, 0, 3⟩, ⟨15, 0, 3⟩, ⟨16, 0, 3⟩, ⟨17, 0, 4⟩] 0 (by kernel_rfl) (by kernel_rfl) (fun w h => h.pick [0, 1] (by kernel_rfl) (by kernel_rfl)) (by kernel_rfl) (by kernel_rfl) ?_
              refine jd_end (by kernel_rfl) ?_
              exact jx_meet true h (by kernel_rfl) [0, 1] (by kernel_rfl) (by kernel_rfl)
            · replace h := ifF hc_95 h
              obtain ⟨t_11, ht_96, h⟩ := bd h
              refine toD 14 (by kernel_rfl) (p_call 2 87 #[(.int .i64 20), (.int .i64 (w64 f0.fSteps))] (by kernel_rfl) (by kernel_rfl) (fun w hm => spec_l00Min.calls 20 (w64 f0.fSteps) w _ ht_96) ?_)
              rintro w v w' hm ⟨rfl, hm'⟩
              refine ⟨_, hm.app hm', jkD (fun w h => h.pick [0, 1] (by kernel_rfl) (by kernel_rfl)) ?_⟩
              clear hm hm'
              obtain ⟨t_12, ht_97, h⟩ := bd h
              refine toD 15 (by kernel_rfl) (p_call 2 54 #[(.int .i64 (w64 x_7.fReady)), (.int .i64 1), (.int .i64 t_11)] (by kernel_rfl) (by kernel_rfl) (fun w hm => spec_l00In.calls (w64 x_7.fReady) 1 t_11 w _ ht_97) ?_)
              rintro w v w' hm ⟨rfl, hm'⟩
              refine ⟨_, hm.app hm', jkD (fun w h => h.pick [0, 1] (by kernel_rfl) (by kernel_rfl)) ?_⟩
              clear hm hm'
              refine jd_f [⟨16, 0, 2⟩, ⟨17, 0, 5⟩] 0 (by kernel_rfl) (by kernel_rfl) (fun w h => h.pick [0, 1] (by kernel_rfl) (by kernel_rfl)) (by kernel_rfl) (by kernel_rfl) ?_
              refine jd_end (by kernel_rfl) ?_
              exact jx_meet (!t_12) h (by kernel_rfl) [0, 1] (by kernel_rfl) (by kernel_rfl)
          · rintro q_8 h
            replace h : spec_l02Frame.k_9 i_4 q_8 = some y_83 := h
            rw [spec_l02Frame.k_9] at h
            refine jx_then ?_
            refine jc_cond q_8 (by kernel_rfl) (fun hc_92 => ?_) (fun hc_92 => ?_)
            · replace h := ifT hc_92 h
              refine jc_seq ?_
              refine jc_region ?_
              refine jo_f [(0, 0)] (by kernel_rfl) ?_
              refine jo_end (by kernel_rfl) ?_
              refine jx_then ?_
              refine jc_ret ?_
              refine jx_inr ?_
              refine jx_thenr ?_
              refine jx_leaver (.inl false) (Option.some.inj h).symm (fun e_93 => ?_)
              subst e_93
              refine jx_inr ?_
              refine jx_thenr ?_
              refine jx_thenr ?_
              obtain rfl := Option.some.inj hr_82
              exact jx_ret [] (.bool false) [] rfl (by kernel_rfl) (by kernel_rfl) (fun w hm => ⟨rfl, hm.pick [0] (by kernel_rfl) (by kernel_rfl)⟩)
            · replace h := ifF hc_92 h
              refine jc_skip ?_
              refine jx_inn ?_
              refine jx_then ?_
              refine jc_region ?_
              refine jo_f [(0, 0), (0, 0), (0, 0)] (by kernel_rfl) ?_
              refine jo_end (by kernel_rfl) ?_
              exact jx_back (w64 (i_4 + 1)) () (Option.some.inj h).symm trivial [0] (by kernel_rfl) (by kernel_rfl) (by kernel_rfl)
        · replace h := ifF hc_85 h
          refine jc_exit ?_
          refine jx_thenx ?_
          refine jx_leave (.inr ()) (Option.some.inj h).symm (fun e_98 => ?_)
          subst e_98
          refine jx_ine ?_
          exact jx_meet () hr_82 (by kernel_rfl) [0] (by kernel_rfl) (by kernel_rfl)
      · rintro _ h
        replace h : spec_l02Frame.k_3 = some r := h
        rw [spec_l02Frame.k_3] at h
        refine jx_then ?_
        refine jc_seq ?_
        refine jc_region ?_
        refine jo_f [(0, 0)] (by kernel_rfl) ?_
        refine jo_end (by kernel_rfl) ?_
        refine jx_then ?_
        refine jc_ret ?_
        obtain rfl := Option.some.inj h
        exact jx_ret [] (.bool true) [] rfl (by kernel_rfl) (by kernel_rfl) (fun w hm => ⟨rfl, hm.pick [0] (by kernel_rfl) (by kernel_rfl)⟩)

/-! ### spec.l01Note -/
noncomputable def spec_l01Note (n0 : GNote) : Option (Bool) := (spec_l00In (w64 n0.fAt) 0 199).bind fun t_1 => (if t_1 = true then (spec_l00In (w64 n0.fPitch) 0 47).bind fun t_2 => some t_2 else some false)
set_option maxRecDepth 100000 in
theorem spec_l01Note.calls (n0 : GNote) (w : World) (r : Bool) (h : spec_l01Note n0 = some r) :
    Calls Tryz.prog 49 #[(.agg #[(.int .i16 n0.fAt), (.int .i8 n0.fPitch)])] w fun e w' => ∃ v, e = .returned v ∧ (v = (.bool r) ∧ Mem w [] [] w') := by
  rw [spec_l01Note] at h
  refine enter (args := [(.agg #[(.int .i16 n0.fAt), (.int .i8 n0.fPitch)])]) Tryz.func49 rfl Tryz.ntmps49 (by kernel_rfl) (L := []) (W := []) (Mem.start w) ?_
  refine jc_seq ?_
  refine jc_region ?_
  refine toO (by kernel_rfl) (p_a 0 [0] (by kernel_rfl) (fun b => by kernel_rfl) (fun b_1 => jkO ?_))
  refine jo_f [(0, 0)] (by kernel_rfl) ?_
  refine jo_end (by kernel_rfl) ?_
  refine jx_then ?_
  refine jc_seq ?_
  refine jc_region ?_
  refine jo_f [(0, 0), (0, 0), (0, 0)] (by kernel_rfl) ?_
  obtain ⟨t_1, ht_2, h⟩ := bd h
  refine toO (by kernel_rfl) (p_call 0 54 #[(.int .i64 (w64 n0.fAt)), (.int .i64 0), (.int .i64 199)] (by kernel_rfl) (by kernel_rfl) (fun w hm => spec_l00In.calls (w64 n0.fAt) 0 199 w _ ht_2) ?_)
  rintro w v w' hm ⟨rfl, hm'⟩
  refine ⟨_, hm.app hm', jkO ?_⟩
  clear hm hm'
  refine jo_f [(0, 0), (0, 1), (0, 1), (0, 1)] (by kernel_rfl) ?_
  refine jo_split 7 t_1 (by kernel_rfl) (fun hc_3 => ?_) (fun hc_3 => ?_)
  · replace h := ifT hc_3 h
    obtain ⟨t_2, ht_4, h⟩ := bd h
    refine toO (by kernel_rfl) (p_call 2 54 #[(.int .i64 (w64 n0.fPitch)), (.int .i64 0), (.int .i64 47)] (by kernel_rfl) (by kernel_rfl) (fun w hm => spec_l00In.calls (w64 n0.fPitch) 0 47 w _ ht_4) ?_)
    rintro w v w' hm ⟨rfl, hm'⟩
    refine ⟨_, hm.app hm', jkO ?_⟩
    clear hm hm'
    refine jo_f [(0, 4), (0, 0)] (by kernel_rfl) ?_
    refine jo_end (by kernel_rfl) ?_
    refine jx_then ?_
    refine jc_ret ?_
    obtain rfl := Option.some.inj h
    exact jx_ret [] (.bool t_2) [] rfl (by kernel_rfl) (by kernel_rfl) (fun w hm => ⟨rfl, hm.pick [] (by kernel_rfl) (by kernel_rfl)⟩)
  · replace h := ifF hc_3 h
    refine jo_f [(0, 3), (0, 5), (0, 0)] (by kernel_rfl) ?_
    refine jo_end (by kernel_rfl) ?_
    refine jx_then ?_
    refine jc_ret ?_
    obtain rfl := Option.some.inj h
    exact jx_ret [] (.bool false) [] rfl (by kernel_rfl) (by kernel_rfl) (fun w hm => ⟨rfl, hm.pick [] (by kernel_rfl) (by kernel_rfl)⟩)

/-! ### spec.l01Ok -/
noncomputable def spec_l01Ok.k_1 (t0 : List GNote) : Option (Bool) := some (decide ((t0.length : Int) ≤ 120))
noncomputable def spec_l01Ok.k_6 (i_2 : Int) (q_5 : Bool) : Option ((Int) ⊕ (Bool ⊕ Unit)) := (if q_5 = true then some (.inr (.inl false)) else some (.inl (w64 (i_2 + 1))))
noncomputable def spec_l01Ok.l_3 (t0 : List GNote) : Int → Option ((Int) ⊕ (Bool ⊕ Unit))
  | i_2 => (if (decide (i_2 < (t0.length : Int))) = true then (ix t0 i_2).bind fun x_7 => (spec_l01Note x_7).bind fun t_8 => (if (!t_8) = true then spec_l01Ok.k_6 i_2 true else (if (decide (i_2 > 0)) = true then (ix t0 (w64 (i_2 - 1))).bind fun x_9 => (ix t0 i_2).bind fun x_10 => (spec_l01Before x_9 x_10).bind fun t_11 => spec_l01Ok.k_6 i_2 (!t_11) else spec_l01Ok.k_6 i_2 false)) else some (.inr (.inr ())))
noncomputable def spec_l01Ok (t0 : List GNote) : Option (Bool) := (loop (spec_l01Ok.l_3 t0) 0).bind fun t_4 => match t_4 with | .inl p => some p | .inr p => spec_l01Ok.k_1 t0
set_option maxRecDepth 100000 in
theorem spec_l01Ok.calls (t0 : List GNote) (w : World) (r : Bool) (t0_a : Option Addr) (t0_an : Nat) (t0_c : Nat) (t0_h : Rw w t0_a 2 encGNote t0) (t0_hn : t0.length = t0_an) (h : spec_l01Ok t0 = some r) :
    Calls Tryz.prog 103 #[(.slice t0_a t0_an t0_c)] w fun e w' => ∃ v, e = .returned v ∧ (v = (.bool r) ∧ Mem w [] [] w') := by
  subst t0_hn
  rw [spec_l01Ok] at h
  refine enter (args := [(.slice t0_a t0.length t0_c)]) Tryz.func103 rfl Tryz.ntmps103 (by kernel_rfl) (L := []) (W := []) (Mem.start w) ?_
  refine jc_seq ?_
  refine jc_region ?_
  refine jo_f [(0, 0)] (by kernel_rfl) ?_
  refine jo_end (by kernel_rfl) ?_
  refine jx_then ?_
  refine jc_seq ?_
  refine jc_seq ?_
  refine jc_region ?_
  refine jo_f [(0, 0)] (by kernel_rfl) ?_
  refine jo_end (by kernel_rfl) ?_
  refine jx_then ?_
  refine jc_meet (fun (_ : Unit) => spec_l01Ok.k_1 t0 = some r) (fun (_ : Unit) => [(0, [], (.slice t0_a t0.length t0_c)), (2, [], (.bool false))]) (fun (_ : Unit) => []) ?_ ?_
  · refine jc_block ?_
    obtain ⟨t_4, ht_224, hr_203⟩ := bd h
    refine jc_loop (fun (s : Int) (x : Unit) => match s, x with | i_2, _ => True) (fun (s : Int) (x : Unit) => match s, x with | i_2, _ => [(0, [], (.slice t0_a t0.length t0_c)), (2, [], (.bool false)), (3, [], (.int .i64 i_2))]) (fun (s : Int) (x : Unit) => match s, x with | i_2, _ => []) ht_224 () trivial (by kernel_rfl) [] (by kernel_rfl) (by kernel_rfl) ?_
    rintro i_2 _ y_204 _ h
    rw [spec_l01Ok.l_3] at h
    refine jc_seq ?_
    refine jc_seq ?_
    refine jc_region ?_
    refine jo_f [(0, 0), (0, 0), (0, 0), (0, 0)] (by kernel_rfl) ?_
    refine jo_end (by kernel_rfl) ?_
    refine jx_then ?_
    refine jc_cond (decide (i_2 < (t0.length : Int))) (by kernel_rfl) (fun hc_206 => ?_) (fun hc_206 => ?_)
    · replace h := ifT hc_206 h
      refine jc_skip ?_
      refine jx_then ?_
      refine jc_seq ?_
      refine jc_block ?_
      refine jc_seq ?_
      refine jc_meet (fun (j : Bool) => match j with | q_5 => spec_l01Ok.k_6 i_2 q_5 = some y_204) (fun (j : Bool) => match j with | q_5 => [(0, [], (.slice t0_a t0.length t0_c)), (2, [], (.bool false)), (3, [], (.int .i64 i_2)), (32, [], (.bool q_5))]) (fun (j : Bool) => match j with | q_5 => []) ?_ ?_
      · refine jc_draw [] 23 (by kernel_rfl) (by kernel_rfl) ?_
        refine jd_f [⟨0, 0, 0⟩, ⟨1, 0, 0⟩] 21 (by kernel_rfl) (by kernel_rfl) (fun w h => h.pick [] (by kernel_rfl) (by kernel_rfl)) (by kernel_rfl) (by kernel_rfl) ?_
        obtain ⟨x_7, hx_216, h⟩ := bd h
        refine jd_v 2 0 (by kernel_rfl) (fun w h => h.pick [] (by kernel_rfl) (by kernel_rfl)) (by kernel_rfl) (by kernel_rfl) _ (fun w hm => idx_run (a := t0_a) (len := t0.length) (s := 2) (j := i_2) (by kernel_rfl) (ix_some hx_216).1 (ltn hx_216 rfl) (t0_h.sp hx_216)) ?_
        refine jd_v 3 0 (by kernel_rfl) (fun w h => h.pick [] (by kernel_rfl) (by kernel_rfl)) (by kernel_rfl) (by kernel_rfl) _ (fun w hm => ld_run (b := aB t0_a) (off := (aO t0_a + i_2.toNat * 2)) (s := 2) (agg := true) (vs := (encGNote x_7)) (by kernel_rfl) (by kernel_rfl) (.inl rfl) ((hm.exRow t0_h List.not_mem_nil).at hx_216)) ?_
        obtain ⟨t_8, ht_217, h⟩ := bd h
        refine toD 4 (by kernel_rfl) (p_call 0 49 #[(.agg #[(.int .i16 x_7.fAt), (.int .i8 x_7.fPitch)])] (by kernel_rfl) (by kernel_rfl) (fun w hm => spec_l01Note.calls x_7 w _ ht_217) ?_)
        rintro w v w' hm ⟨rfl, hm'⟩
        refine ⟨_, hm.app hm', jkD (fun w h => h.pick [] (by kernel_rfl) (by kernel_rfl)) ?_⟩
        clear hm hm'
        refine jd_f [⟨5, 0, 0⟩, ⟨6, 0, 0⟩, ⟨7, 0, 1⟩, ⟨8, 0, 1⟩] 14 (by kernel_rfl) (by kernel_rfl) (fun w h => h.pick [] (by kernel_rfl) (by kernel_rfl)) (by kernel_rfl) (by kernel_rfl) ?_
        refine jd_split 16 (!t_8) (by kernel_rfl) (fun hc_218 => ?_) (fun hc_218 => ?_)
        · replace h := ifT hc_218 h
          refine jd_f [⟨9, 0, 3⟩, ⟨10, 0, 3⟩, ⟨11, 0, 3⟩, ⟨12, 0, 3⟩, ⟨13, 0, 3⟩, ⟨14, 0, 3⟩, ⟨15, 0, 3⟩, ⟨16, 0, 3⟩, ⟨17, 0, 3⟩, ⟨18, 0, 3⟩, ⟨19, 0, 3⟩, ⟨20, 0, 3⟩, ⟨21, 0, 3⟩, ⟨22, 0, 4⟩] 0 (by kernel_rfl) (by kernel_rfl) (fun w h => h.pick [] (by kernel_rfl) (by kernel_rfl)) (by kernel_rfl) (by kernel_rfl) ?_
          refine jd_end (by kernel_rfl) ?_
          exact jx_meet true h (by kernel_rfl) [] (by kernel_rfl) (by kernel_rfl)
        · replace h := ifF hc_218 h
          refine jd_f [⟨9, 0, 2⟩, ⟨10, 0, 1⟩, ⟨11, 0, 1⟩, ⟨12, 0, 1⟩, ⟨15, 0, 1⟩, ⟨16, 0, 1⟩] 8 (by kernel_rfl) (by kernel_rfl) (fun w h => h.pick [] (by kernel_rfl) (by kernel_rfl)) (by kernel_rfl) (by kernel_rfl) ?_
          refine jd_split 19 (decide (i_2 > 0)) (by kernel_rfl) (fun hc_219 => ?_) (fun hc_219 => ?_)
          · replace h := ifT hc_219 h
            obtain ⟨x_9, hx_220, h⟩ := bd h
            refine jd_v 13 2 (by kernel_rfl) (fun w h => h.pick [] (by kernel_rfl) (by kernel_rfl)) (by kernel_rfl) (by kernel_rfl) _ (fun w hm => idx_run (a := t0_a) (len := t0.length) (s := 2) (j := (w64 (i_2 - 1))) (by kernel_rfl) (ix_some hx_220).1 (ltn hx_220 rfl) (t0_h.sp hx_220)) ?_
            refine jd_v 14 2 (by kernel_rfl) (fun w h => h.pick [] (by kernel_rfl) (by kernel_rfl)) (by kernel_rfl) (by kernel_rfl) _ (fun w hm => ld_run (b := aB t0_a) (off := (aO t0_a + (w64 (i_2 - 1)).toNat * 2)) (s := 2) (agg := true) (vs := (encGNote x_9)) (by kernel_rfl) (by kernel_rfl) (.inl rfl) ((hm.exRow t0_h List.not_mem_nil).at hx_220)) ?_
            obtain ⟨x_10, hx_221, h⟩ := bd h
            refine jd_v 17 2 (by kernel_rfl) (fun w h => h.pick [] (by kernel_rfl) (by kernel_rfl)) (by kernel_rfl) (by kernel_rfl) _ (fun w hm => idx_run (a := t0_a) (len := t0.length) (s := 2) (j := i_2) (by kernel_rfl) (ix_some hx_221).1 (ltn hx_221 rfl) (t0_h.sp hx_221)) ?_
            refine jd_v 18 2 (by kernel_rfl) (fun w h => h.pick [] (by kernel_rfl) (by kernel_rfl)) (by kernel_rfl) (by kernel_rfl) _ (fun w hm => ld_run (b := aB t0_a) (off := (aO t0_a + i_2.toNat * 2)) (s := 2) (agg := true) (vs := (encGNote x_10)) (by kernel_rfl) (by kernel_rfl) (.inl rfl) ((hm.exRow t0_h List.not_mem_nil).at hx_221)) ?_
            obtain ⟨t_11, ht_222, h⟩ := bd h
            refine toD 19 (by kernel_rfl) (p_call 2 88 #[(.agg #[(.int .i16 x_9.fAt), (.int .i8 x_9.fPitch)]), (.agg #[(.int .i16 x_10.fAt), (.int .i8 x_10.fPitch)])] (by kernel_rfl) (by kernel_rfl) (fun w hm => spec_l01Before.calls x_9 x_10 w _ ht_222) ?_)
            rintro w v w' hm ⟨rfl, hm'⟩
            refine ⟨_, hm.app hm', jkD (fun w h => h.pick [] (by kernel_rfl) (by kernel_rfl)) ?_⟩
            clear hm hm'
            refine jd_f [⟨20, 0, 2⟩, ⟨21, 0, 4⟩, ⟨22, 0, 5⟩] 0 (by kernel_rfl) (by kernel_rfl) (fun w h => h.pick [] (by kernel_rfl) (by kernel_rfl)) (by kernel_rfl) (by kernel_rfl) ?_
            refine jd_end (by kernel_rfl) ?_
            exact jx_meet (!t_11) h (by kernel_rfl) [] (by kernel_rfl) (by kernel_rfl)
          · replace h := ifF hc_219 h
            refine jd_f [⟨13, 0, 3⟩, ⟨14, 0, 3⟩, ⟨17, 0, 3⟩, ⟨18, 0, 3⟩, ⟨19, 0, 3⟩, ⟨20, 0, 3⟩, ⟨21, 0, 5⟩, ⟨22, 0, 5⟩] 0 (by kernel_rfl) (by kernel_rfl) (fun w h => h.pick [] (by kernel_rfl) (by kernel_rfl)) (by kernel_rfl) (by kernel_rfl) ?_
            refine jd_end (by kernel_rfl) ?_
            exact jx_meet false h (by kernel_rfl) [] (by kernel_rfl) (by kernel_rfl)
      · rintro q_5 h
        replace h : spec_l01Ok.k_6 i_2 q_5 = some y_204 := h
        rw [spec_l01Ok.k_6] at h
        refine jx_then ?_
        refine jc_cond q_5 (by kernel_rfl) (fun hc_214 => ?_) (fun hc_214 => ?_)
        · replace h := ifT hc_214 h
          refine jc_seq ?_
          refine jc_region ?_
          refine jo_f [(0, 0)] (by kernel_rfl) ?_
          refine jo_end (by kernel_rfl) ?_
          refine jx_then ?_
          refine jc_ret ?_
          refine jx_inr ?_
          refine jx_thenr ?_
          refine jx_leaver (.inl false) (Option.some.inj h).symm (fun e_215 => ?_)
          subst e_215
          refine jx_inr ?_
          refine jx_thenr ?_
          refine jx_thenr ?_
          obtain rfl := Option.some.inj hr_203
          exact jx_ret [] (.bool false) [] rfl (by kernel_rfl) (by kernel_rfl) (fun w hm => ⟨rfl, hm.pick [] (by kernel_rfl) (by kernel_rfl)⟩)
        · replace h := ifF hc_214 h
          refine jc_skip ?_
          refine jx_inn ?_
          refine jx_then ?_
          refine jc_region ?_
          refine jo_f [(0, 0), (0, 0), (0, 0)] (by kernel_rfl) ?_
          refine jo_end (by kernel_rfl) ?_
          exact jx_back (w64 (i_2 + 1)) () (Option.some.inj h).symm trivial [] (by kernel_rfl) (by kernel_rfl) (by kernel_rfl)
    · replace h := ifF hc_206 h
      refine jc_exit ?_
      refine jx_thenx ?_
      refine jx_leave (.inr ()) (Option.some.inj h).symm (fun e_223 => ?_)
      subst e_223
      refine jx_ine ?_
      exact jx_meet () hr_203 (by kernel_rfl) [] (by kernel_rfl) (by kernel_rfl)
  · rintro _ h
    replace h : spec_l01Ok.k_1 t0 = some r := h
    rw [spec_l01Ok.k_1] at h
    refine jx_then ?_
    refine jc_seq ?_
    refine jc_region ?_
    refine jo_f [(0, 0), (0, 0), (0, 0), (0, 0)] (by kernel_rfl) ?_
    refine jo_end (by kernel_rfl) ?_
    refine jx_then ?_
    refine jc_ret ?_
    obtain rfl := Option.some.inj h
    exact jx_ret [] (.bool (decide ((t0.length : Int) ≤ 120))) [] rfl (by kernel_rfl) (by kernel_rfl) (fun w hm => ⟨rfl, hm.pick [] (by kernel_rfl) (by kernel_rfl)⟩)

/-! ### spec.l07Choice -/
noncomputable def spec_l07Choice (x0 : GChoice) : Option (Bool) := (if x0.fAway = true then some ((x0.fAway == true) && ((x0.fLate == 0) && ((x0.fOctave == 0) && (x0.fTrack == 0)))) else (spec_l00In (w64 x0.fLate) (-3) 3).bind fun t_1 => (if t_1 = true then (spec_l00In (w64 x0.fOctave) (-1) 1).bind fun t_2 => (if t_2 = true then (spec_l00In (w64 x0.fTrack) 0 23).bind fun t_3 => some t_3 else some false) else some false))
set_option maxRecDepth 100000 in
theorem spec_l07Choice.calls (x0 : GChoice) (w : World) (r : Bool) (h : spec_l07Choice x0 = some r) :
    Calls Tryz.prog 137 #[(.agg #[(.bool x0.fAway), (.int .i8 x0.fLate), (.int .i8 x0.fOctave), (.int .i8 x0.fTrack)])] w fun e w' => ∃ v, e = .returned v ∧ (v = (.bool r) ∧ Mem w [] [] w') := by
  rw [spec_l07Choice] at h
  refine enter (args := [(.agg #[(.bool x0.fAway), (.int .i8 x0.fLate), (.int .i8 x0.fOctave), (.int .i8 x0.fTrack)])]) Tryz.func137 rfl Tryz.ntmps137 (by kernel_rfl) (L := []) (W := []) (Mem.start w) ?_
  refine jc_seq ?_
  refine jc_region ?_
  refine toO (by kernel_rfl) (p_a 0 [0] (by kernel_rfl) (fun b => by kernel_rfl) (fun b_1 => jkO ?_))
  refine jo_f [(0, 0)] (by kernel_rfl) ?_
  refine jo_end (by kernel_rfl) ?_
  refine jx_then ?_
  refine jc_seq ?_
  refine jc_seq ?_
  refine jc_region ?_
  refine jo_f [(0, 0), (0, 0)] (by kernel_rfl) ?_
  refine jo_end (by kernel_rfl) ?_
  refine jx_then ?_
  refine jc_cond x0.fAway (by kernel_rfl) (fun hc_3 => ?_) (fun hc_3 => ?_)
  · replace h := ifT hc_3 h
    refine jc_seq ?_
    refine jc_region ?_
    refine jo_f [(0, 0), (0, 0), (0, 0), (0, 0)] (by kernel_rfl) ?_
    refine jo_end (by kernel_rfl) ?_
    refine jx_then ?_
    refine jc_ret ?_
    refine jx_thenr ?_
    obtain rfl := Option.some.inj h
    exact jx_ret [] (.bool ((x0.fAway == true) && ((x0.fLate == 0) && ((x0.fOctave == 0) && (x0.fTrack == 0))))) [] rfl (by kernel_rfl) (by kernel_rfl) (fun w hm => ⟨rfl, hm.pick [] (by kernel_rfl) (by kernel_rfl)⟩)
  · replace h := ifF hc_3 h
    refine jc_skip ?_
    refine jx_then ?_
    refine jc_seq ?_
    refine jc_region ?_
    refine jo_f [(0, 0), (0, 0), (0, 0)] (by kernel_rfl) ?_
    obtain ⟨t_1, ht_4, h⟩ := bd h
    refine toO (by kernel_rfl) (p_call 0 54 #[(.int .i64 (w64 x0.fLate)), (.int .i64 (-3)), (.int .i64 3)] (by kernel_rfl) (by kernel_rfl) (fun w hm => spec_l00In.calls (w64 x0.fLate) (-3) 3 w _ ht_4) ?_)
    rintro w v w' hm ⟨rfl, hm'⟩
    refine ⟨_, hm.app hm', jkO ?_⟩
    clear hm hm'
    refine jo_f [(0, 0), (0, 1), (0, 1), (0, 1)] (by kernel_rfl) ?_
    refine jo_split 12 t_1 (by kernel_rfl) (fun hc_5 => ?_) (fun hc_5 => ?_)
    · replace h := ifT hc_5 h
      obtain ⟨t_2, ht_6, h⟩ := bd h
      refine toO (by kernel_rfl) (p_call 2 54 #[(.int .i64 (w64 x0.fOctave)), (.int .i64 (-1)), (.int .i64 1)] (by kernel_rfl) (by kernel_rfl) (fun w hm => spec_l00In.calls (w64 x0.fOctave) (-1) 1 w _ ht_6) ?_)
      rintro w v w' hm ⟨rfl, hm'⟩
      refine ⟨_, hm.app hm', jkO ?_⟩
      clear hm hm'
      refine jo_f [(0, 4), (0, 0), (0, 1), (0, 1), (0, 1)] (by kernel_rfl) ?_
      refine jo_split 18 t_2 (by kernel_rfl) (fun hc_7 => ?_) (fun hc_7 => ?_)
      · replace h := ifT hc_7 h
        obtain ⟨t_3, ht_8, h⟩ := bd h
        refine toO (by kernel_rfl) (p_call 2 54 #[(.int .i64 (w64 x0.fTrack)), (.int .i64 0), (.int .i64 23)] (by kernel_rfl) (by kernel_rfl) (fun w hm => spec_l00In.calls (w64 x0.fTrack) 0 23 w _ ht_8) ?_)
        rintro w v w' hm ⟨rfl, hm'⟩
        refine ⟨_, hm.app hm', jkO ?_⟩
        clear hm hm'
        refine jo_f [(0, 4), (0, 0)] (by kernel_rfl) ?_
        refine jo_end (by kernel_rfl) ?_
        refine jx_then ?_
        refine jc_ret ?_
        obtain rfl := Option.some.inj h
        exact jx_ret [] (.bool t_3) [] rfl (by kernel_rfl) (by kernel_rfl) (fun w hm => ⟨rfl, hm.pick [] (by kernel_rfl) (by kernel_rfl)⟩)
      · replace h := ifF hc_7 h
        refine jo_f [(0, 3), (0, 5), (0, 0)] (by kernel_rfl) ?_
        refine jo_end (by kernel_rfl) ?_
        refine jx_then ?_
        refine jc_ret ?_
        obtain rfl := Option.some.inj h
        exact jx_ret [] (.bool false) [] rfl (by kernel_rfl) (by kernel_rfl) (fun w hm => ⟨rfl, hm.pick [] (by kernel_rfl) (by kernel_rfl)⟩)
    · replace h := ifF hc_5 h
      refine jo_f [(0, 3), (0, 5), (0, 0), (0, 3), (0, 3), (0, 3), (0, 3), (0, 5), (0, 0)] (by kernel_rfl) ?_
      refine jo_end (by kernel_rfl) ?_
      refine jx_then ?_
      refine jc_ret ?_
      obtain rfl := Option.some.inj h
      exact jx_ret [] (.bool false) [] rfl (by kernel_rfl) (by kernel_rfl) (fun w hm => ⟨rfl, hm.pick [] (by kernel_rfl) (by kernel_rfl)⟩)

/-! ### spec.l07Choices -/
noncomputable def spec_l07Choices.k_1 : Option (Bool) := some true
noncomputable def spec_l07Choices.l_3 (list0 : List GChoice) : Int → Option ((Int) ⊕ (Bool ⊕ Unit))
  | i_2 => (if (decide (i_2 < (list0.length : Int))) = true then (ix list0 i_2).bind fun x_5 => (spec_l07Choice x_5).bind fun t_6 => (if (!t_6) = true then some (.inr (.inl false)) else some (.inl (w64 (i_2 + 1)))) else some (.inr (.inr ())))
noncomputable def spec_l07Choices (list0 : List GChoice) : Option (Bool) := (loop (spec_l07Choices.l_3 list0) 0).bind fun t_4 => match t_4 with | .inl p => some p | .inr p => spec_l07Choices.k_1
set_option maxRecDepth 100000 in
theorem spec_l07Choices.calls (list0 : List GChoice) (w : World) (r : Bool) (list0_a : Option Addr) (list0_an : Nat) (list0_c : Nat) (list0_h : Rw w list0_a 4 encGChoice list0) (list0_hn : list0.length = list0_an) (h : spec_l07Choices list0 = some r) :
    Calls Tryz.prog 104 #[(.slice list0_a list0_an list0_c)] w fun e w' => ∃ v, e = .returned v ∧ (v = (.bool r) ∧ Mem w [] [] w') := by
  subst list0_hn
  rw [spec_l07Choices] at h
  refine enter (args := [(.slice list0_a list0.length list0_c)]) Tryz.func104 rfl Tryz.ntmps104 (by kernel_rfl) (L := []) (W := []) (Mem.start w) ?_
  refine jc_seq ?_
  refine jc_region ?_
  refine jo_f [(0, 0)] (by kernel_rfl) ?_
  refine jo_end (by kernel_rfl) ?_
  refine jx_then ?_
  refine jc_seq ?_
  refine jc_seq ?_
  refine jc_region ?_
  refine jo_f [(0, 0)] (by kernel_rfl) ?_
  refine jo_end (by kernel_rfl) ?_
  refine jx_then ?_
  refine jc_meet (fun (_ : Unit) => spec_l07Choices.k_1 = some r) (fun (_ : Unit) => [(2, [], (.bool false))]) (fun (_ : Unit) => []) ?_ ?_
  · refine jc_block ?_
    obtain ⟨t_4, ht_40, hr_31⟩ := bd h
    refine jc_loop (fun (s : Int) (x : Unit) => match s, x with | i_2, _ => True) (fun (s : Int) (x : Unit) => match s, x with | i_2, _ => [(0, [], (.slice list0_a list0.length list0_c)), (2, [], (.bool false)), (3, [], (.int .i64 i_2))]) (fun (s : Int) (x : Unit) => match s, x with | i_2, _ => []) ht_40 () trivial (by kernel_rfl) [] (by kernel_rfl) (by kernel_rfl) ?_
    rintro i_2 _ y_32 _ h
    rw [spec_l07Choices.l_3] at h
    refine jc_seq ?_
    refine jc_seq ?_
    refine jc_region ?_
    refine jo_f [(0, 0), (0, 0), (0, 0), (0, 0)] (by kernel_rfl) ?_
    refine jo_end (by kernel_rfl) ?_
    refine jx_then ?_
    refine jc_cond (decide (i_2 < (list0.length : Int))) (by kernel_rfl) (fun hc_34 => ?_) (fun hc_34 => ?_)
    · replace h := ifT hc_34 h
      refine jc_skip ?_
      refine jx_then ?_
      refine jc_seq ?_
      refine jc_block ?_
      refine jc_seq ?_
      refine jc_region ?_
      refine jo_f [(0, 0), (0, 0)] (by kernel_rfl) ?_
      obtain ⟨x_5, hx_35, h⟩ := bd h
      refine toO (by kernel_rfl) (p_idx 0 list0_a list0.length i_2 4 (by kernel_rfl) (by kernel_rfl) (ix_some hx_35).1 (ltn hx_35 rfl) (list0_h.sp hx_35) (jkO ?_))
      refine toO (by kernel_rfl) (p_ld 0 (aB list0_a) (aO list0_a + i_2.toNat * 4) true (encGChoice x_5) (by kernel_rfl) (by kernel_rfl) (by kernel_rfl) (fun w hm => ((hm.exRow list0_h List.not_mem_nil).at hx_35)) (jkO ?_))
      obtain ⟨t_6, ht_36, h⟩ := bd h
      refine toO (by kernel_rfl) (p_call 0 137 #[(.agg #[(.bool x_5.fAway), (.int .i8 x_5.fLate), (.int .i8 x_5.fOctave), (.int .i8 x_5.fTrack)])] (by kernel_rfl) (by kernel_rfl) (fun w hm => spec_l07Choice.calls x_5 w _ ht_36) ?_)
      rintro w v w' hm ⟨rfl, hm'⟩
      refine ⟨_, hm.app hm', jkO ?_⟩
      clear hm hm'
      refine jo_f [(0, 0)] (by kernel_rfl) ?_
      refine jo_end (by kernel_rfl) ?_
      refine jx_then ?_
      refine jc_cond (!t_6) (by kernel_rfl) (fun hc_37 => ?_) (fun hc_37 => ?_)
      · replace h := ifT hc_37 h
        refine jc_seq ?_
        refine jc_region ?_
        refine jo_f [(0, 0)] (by kernel_rfl) ?_
        refine jo_end (by kernel_rfl) ?_
        refine jx_then ?_
        refine jc_ret ?_
        refine jx_inr ?_
        refine jx_thenr ?_
        refine jx_leaver (.inl false) (Option.some.inj h).symm (fun e_38 => ?_)
        subst e_38
        refine jx_inr ?_
        refine jx_thenr ?_
        refine jx_thenr ?_
        obtain rfl := Option.some.inj hr_31
        exact jx_ret [] (.bool false) [] rfl (by kernel_rfl) (by kernel_rfl) (fun w hm => ⟨rfl, hm.pick [] (by kernel_rfl) (by kernel_rfl)⟩)
      · replace h := ifF hc_37 h
        refine jc_skip ?_
        refine jx_inn ?_
        refine jx_then ?_
        refine jc_region ?_
        refine jo_f [(0, 0), (0, 0), (0, 0)] (by kernel_rfl) ?_
        refine jo_end (by kernel_rfl) ?_
        exact jx_back (w64 (i_2 + 1)) () (Option.some.inj h).symm trivial [] (by kernel_rfl) (by kernel_rfl) (by kernel_rfl)
    · replace h := ifF hc_34 h
      refine jc_exit ?_
      refine jx_thenx ?_
      refine jx_leave (.inr ()) (Option.some.inj h).symm (fun e_39 => ?_)
      subst e_39
      refine jx_ine ?_
      exact jx_meet () hr_31 (by kernel_rfl) [] (by kernel_rfl) (by kernel_rfl)
  · rintro _ h
    replace h : spec_l07Choices.k_1 = some r := h
    rw [spec_l07Choices.k_1] at h
    refine jx_then ?_
    refine jc_seq ?_
    refine jc_region ?_
    refine jo_f [(0, 0)] (by kernel_rfl) ?_
    refine jo_end (by kernel_rfl) ?_
    refine jx_then ?_
    refine jc_ret ?_
    obtain rfl := Option.some.inj h
    exact jx_ret [] (.bool true) [] rfl (by kernel_rfl) (by kernel_rfl) (fun w hm => ⟨rfl, hm.pick [] (by kernel_rfl) (by kernel_rfl)⟩)

/-! ### spec.l07Asked -/
noncomputable def spec_l07Asked.k_2 (t1 : List GNote) (list2 : List GChoice) (q_1 : Bool) : Option (Int) := (if q_1 = true then some 1 else (if ((list2.length : Int) != (t1.length : Int)) = true then some 2 else some 0))
noncomputable def spec_l07Asked (f0 : GFrame) (t1 : List GNote) (list2 : List GChoice) : Option (Int) := (spec_l02Frame f0).bind fun t_3 => (if (!t_3) = true then spec_l07Asked.k_2 t1 list2 true else (spec_l01Ok t1).bind fun t_4 => (if (!t_4) = true then spec_l07Asked.k_2 t1 list2 true else (spec_l07Choices list2).bind fun t_5 => spec_l07Asked.k_2 t1 list2 (!t_5)))
set_option maxRecDepth 100000 in
theorem spec_l07Asked.calls (f0 : GFrame) (t1 : List GNote) (list2 : List GChoice) (w : World) (r : Int) (f0_fHammers_a : Option Addr) (f0_fHammers_an : Nat) (f0_fHammers_c : Nat) (f0_fHammers_h : Rw w f0_fHammers_a 2 encGHammer f0.fHammers) (f0_fHammers_hn : f0.fHammers.length = f0_fHammers_an) (t1_a : Option Addr) (t1_an : Nat) (t1_c : Nat) (t1_h : Rw w t1_a 2 encGNote t1) (t1_hn : t1.length = t1_an) (list2_a : Option Addr) (list2_an : Nat) (list2_c : Nat) (list2_h : Rw w list2_a 4 encGChoice list2) (list2_hn : list2.length = list2_an) (f0_b : Nat) (hm0 : Mem w (bs [some f0_b]) [⟨some f0_b, 27, [(.int .i16 f0.fSteps), (.slice f0_fHammers_a f0_fHammers_an f0_fHammers_c)]⟩] w) (f0_fHammers_ha : f0.fHammers ≠ [] → aB f0_fHammers_a ∉ bs [some f0_b]) (t1_ha : t1 ≠ [] → aB t1_a ∉ bs [some f0_b]) (list2_ha : list2 ≠ [] → aB list2_a ∉ bs [some f0_b]) (h : spec_l07Asked f0 t1 list2 = some r) :
    Calls Tryz.prog 70 #[(.pointer (some ⟨f0_b, 0, none⟩)), (.slice t1_a t1_an t1_c), (.slice list2_a list2_an list2_c)] w fun e w' => ∃ v, e = .returned v ∧ (v = (.int .i64 r) ∧ Mem w (bs [some f0_b]) [⟨some f0_b, 27, [(.int .i16 f0.fSteps), (.slice f0_fHammers_a f0_fHammers_an f0_fHammers_c)]⟩] w') := by
  subst f0_fHammers_hn t1_hn list2_hn
  rw [spec_l07Asked] at h
  refine enter (args := [(.pointer (some ⟨f0_b, 0, none⟩)), (.slice t1_a t1.length t1_c), (.slice list2_a list2.length list2_c)]) Tryz.func70 rfl Tryz.ntmps70 (by kernel_rfl) (L := [⟨some f0_b, 27, [(.int .i16 f0.fSteps), (.slice f0_fHammers_a f0.fHammers.length f0_fHammers_c)]⟩]) (W := bs [some f0_b]) hm0 ?_
  refine jc_seq ?_
  refine jc_region ?_
  refine jo_f [(0, 0)] (by kernel_rfl) ?_
  refine jo_end (by kernel_rfl) ?_
  refine jx_then ?_
  refine jc_seq ?_
  refine jc_seq ?_
  refine jc_meet (fun (j : Bool) => match j with | q_1 => spec_l07Asked.k_2 t1 list2 q_1 = some r) (fun (j : Bool) => match j with | q_1 => [(1, [], (.slice t1_a t1.length t1_c)), (2, [], (.slice list2_a list2.length list2_c)), (6, [], (.int .i64 0)), (19, [], (.bool q_1))]) (fun (j : Bool) => match j with | q_1 => [⟨some f0_b, 27, [(.int .i16 f0.fSteps), (.slice f0_fHammers_a f0.fHammers.length f0_fHammers_c)]⟩]) ?_ ?_
  · refine jc_region ?_
    refine jo_f [(0, 0)] (by kernel_rfl) ?_
    obtain ⟨t_3, ht_19, h⟩ := bd h
    refine toO (by kernel_rfl) (p_call 0 48 #[(.pointer (some ⟨f0_b, 0, none⟩))] (by kernel_rfl) (by kernel_rfl) (fun w hm => spec_l02Frame.calls f0 w _ f0_fHammers_a f0.fHammers.length f0_fHammers_c (hm.exRowW f0_fHammers_h f0_fHammers_ha) rfl f0_b (hm.pass (N := [⟨some f0_b, 27, [(.int .i16 f0.fSteps), (.slice f0_fHammers_a f0.fHammers.length f0_fHammers_c)]⟩]) [0] (by kernel_rfl) (by kernel_rfl)) (hm.exApart (N := [⟨some f0_b, 27, [(.int .i16 f0.fSteps), (.slice f0_fHammers_a f0.fHammers.length f0_fHammers_c)]⟩]) f0_fHammers_h f0_fHammers_ha [0] (by kernel_rfl)) ht_19) ?_)
    rintro w v w' hm ⟨rfl, hm'⟩
    refine ⟨_, hm.appW (ps := [(0, ⟨some f0_b, 27, [(.int .i16 f0.fSteps), (.slice f0_fHammers_a f0.fHammers.length f0_fHammers_c)]⟩)]) (N := []) hm' (by kernel_rfl) (by kernel_rfl), jkO ?_⟩
    clear hm hm'
    refine jo_f [(0, 0), (0, 0), (0, 1)] (by kernel_rfl) ?_
    refine jo_split 10 (!t_3) (by kernel_rfl) (fun hc_20 => ?_) (fun hc_20 => ?_)
    · replace h := ifT hc_20 h
      refine jo_f [(0, 3), (0, 3), (0, 4), (0, 0), (0, 3), (0, 3), (0, 3), (0, 4)] (by kernel_rfl) ?_
      refine jo_end (by kernel_rfl) ?_
      exact jx_meet true h (by kernel_rfl) [0] (by kernel_rfl) (by kernel_rfl)
    · replace h := ifF hc_20 h
      obtain ⟨t_4, ht_21, h⟩ := bd h
      refine toO (by kernel_rfl) (p_call 2 103 #[(.slice t1_a t1.length t1_c)] (by kernel_rfl) (by kernel_rfl) (fun w hm => spec_l01Ok.calls t1 w _ t1_a t1.length t1_c (hm.exRowW t1_h t1_ha) rfl ht_21) ?_)
      rintro w v w' hm ⟨rfl, hm'⟩
      refine ⟨_, hm.app hm', jkO ?_⟩
      clear hm hm'
      refine jo_f [(0, 2), (0, 5), (0, 0), (0, 1)] (by kernel_rfl) ?_
      refine jo_split 15 (!t_4) (by kernel_rfl) (fun hc_22 => ?_) (fun hc_22 => ?_)
      · replace h := ifT hc_22 h
        refine jo_f [(0, 3), (0, 3), (0, 4)] (by kernel_rfl) ?_
        refine jo_end (by kernel_rfl) ?_
        exact jx_meet true h (by kernel_rfl) [0] (by kernel_rfl) (by kernel_rfl)
      · replace h := ifF hc_22 h
        obtain ⟨t_5, ht_23, h⟩ := bd h
        refine toO (by kernel_rfl) (p_call 2 104 #[(.slice list2_a list2.length list2_c)] (by kernel_rfl) (by kernel_rfl) (fun w hm => spec_l07Choices.calls list2 w _ list2_a list2.length list2_c (hm.exRowW list2_h list2_ha) rfl ht_23) ?_)
        rintro w v w' hm ⟨rfl, hm'⟩
        refine ⟨_, hm.app hm', jkO ?_⟩
        clear hm hm'
        refine jo_f [(0, 2), (0, 5)] (by kernel_rfl) ?_
        refine jo_end (by kernel_rfl) ?_
        exact jx_meet (!t_5) h (by kernel_rfl) [0] (by kernel_rfl) (by kernel_rfl)
  · rintro q_1 h
    replace h : spec_l07Asked.k_2 t1 list2 q_1 = some r := h
    rw [spec_l07Asked.k_2] at h
    refine jx_then ?_
    refine jc_cond q_1 (by kernel_rfl) (fun hc_17 => ?_) (fun hc_17 => ?_)
    · replace h := ifT hc_17 h
      refine jc_seq ?_
      refine jc_region ?_
      refine jo_f [(0, 0)] (by kernel_rfl) ?_
      refine jo_end (by kernel_rfl) ?_
      refine jx_then ?_
      refine jc_ret ?_
      refine jx_thenr ?_
      obtain rfl := Option.some.inj h
      exact jx_ret [] (.int .i64 1) [] rfl (by kernel_rfl) (by kernel_rfl) (fun w hm => ⟨rfl, hm.pick [0] (by kernel_rfl) (by kernel_rfl)⟩)
    · replace h := ifF hc_17 h
      refine jc_skip ?_
      refine jx_then ?_
      refine jc_seq ?_
      refine jc_seq ?_
      refine jc_region ?_
      refine jo_f [(0, 0), (0, 0), (0, 0), (0, 0), (0, 0)] (by kernel_rfl) ?_
      refine jo_end (by kernel_rfl) ?_
      refine jx_then ?_
      refine jc_cond ((list2.length : Int) != (t1.length : Int)) (by kernel_rfl) (fun hc_18 => ?_) (fun hc_18 => ?_)
      · replace h := ifT hc_18 h
        refine jc_seq ?_
        refine jc_region ?_
        refine jo_f [(0, 0)] (by kernel_rfl) ?_
        refine jo_end (by kernel_rfl) ?_
        refine jx_then ?_
        refine jc_ret ?_
        refine jx_thenr ?_
        obtain rfl := Option.some.inj h
        exact jx_ret [] (.int .i64 2) [] rfl (by kernel_rfl) (by kernel_rfl) (fun w hm => ⟨rfl, hm.pick [0] (by kernel_rfl) (by kernel_rfl)⟩)
      · replace h := ifF hc_18 h
        refine jc_skip ?_
        refine jx_then ?_
        refine jc_seq ?_
        refine jc_region ?_
        refine jo_f [(0, 0)] (by kernel_rfl) ?_
        refine jo_end (by kernel_rfl) ?_
        refine jx_then ?_
        refine jc_ret ?_
        obtain rfl := Option.some.inj h
        exact jx_ret [] (.int .i64 0) [] rfl (by kernel_rfl) (by kernel_rfl) (fun w hm => ⟨rfl, hm.pick [0] (by kernel_rfl) (by kernel_rfl)⟩)
end Go.Proofs.YtplklknkkaeniaaGreatDoor
