/- Functions of the program that the laws reach: a plain function each, and that the call comes to its answer if the plain function has one. Printed by a program. -/
import Derived.Test.YtpldkddkmnpdcaaGreatDoorT
import Derived.Test.YtpldkddkmnpdcaaGreatDoorM0
namespace Go.Proofs.YtpldkddkmnpdcaaGreatDoor
open Eng
set_option linter.unusedVariables false

set_option linter.unusedSectionVars false
variable [dsW : DrwS]

/-! ### spec.ChangesBetween -/
noncomputable def spec_ChangesBetween (f0 : GFrame) (a1 : Arr 96 Int) (b2 : Arr 96 Int) : Option ((List GChange) × Int) := (spec_l05Both f0 a1 b2).bind fun t_1 => (if (t_1 != 0) = true then some (([] : List GChange), t_1) else (spec_l05Changes b2 a1 false).bind fun t_2 => (spec_l05Changes a1 b2 true).bind fun t_3 => (if t_2.length + t_3.length ≤ 4294967296 then some ((t_2 ++ t_3), 0) else none))
set_option maxRecDepth 100000 in
theorem spec_ChangesBetween.calls (f0 : GFrame) (a1 : Arr 96 Int) (b2 : Arr 96 Int) (w : World) (r : (List GChange) × Int) (f0_fHammers_a : Option Addr) (f0_fHammers_an : Nat) (f0_fHammers_c : Nat) (f0_fHammers_h : Rw w f0_fHammers_a 2 encGHammer f0.fHammers) (f0_fHammers_hn : f0.fHammers.length = f0_fHammers_an) (h : spec_ChangesBetween f0 a1 b2 = some r) :
    Calls Tryz.prog 10 #[(.agg #[(.int .i16 f0.fSteps), (.slice f0_fHammers_a f0_fHammers_an f0_fHammers_c)]), (.agg (row encU32 a1.1 []).toArray), (.agg (row encU32 b2.1 []).toArray)] w fun e w' => ∃ v, e = .returned v ∧ (∃ (o0 : Option Nat) (c0 : Nat) (s0 : List Value) (n0 : Nat), r.1.length = n0 ∧ (o0 ≠ none → n0 ≤ c0 ∧ s0.length = (c0 - n0) * 3) ∧ (o0 = none → r.1 = [] ∧ c0 = 0) ∧ v = .tuple #[.slice (o0.map fun b => ⟨b, 0, none⟩) n0 c0, (.int .i64 r.2)] ∧ Mem w [] [⟨o0, 106, row encGChange r.1 s0⟩] w') := by
  subst f0_fHammers_hn
  rw [spec_ChangesBetween] at h
  refine enter (args := [(.agg #[(.int .i16 f0.fSteps), (.slice f0_fHammers_a f0.fHammers.length f0_fHammers_c)]), (.agg (row encU32 a1.1 []).toArray), (.agg (row encU32 b2.1 []).toArray)]) Tryz.func10 rfl Tryz.ntmps10 (by kernel_rfl) (L := []) (W := []) (Mem.start w) ?_
  refine jc_seq ?_
  refine jc_region ?_
  refine toO (by kernel_rfl) (p_a 0 [0] (by kernel_rfl) (fun b => by kernel_rfl) (fun b_1 => jkO ?_))
  refine toO (by kernel_rfl) (p_a 0 [0] (by kernel_rfl) (fun b => by kernel_rfl) (fun b_2 => jkO ?_))
  refine toO (by kernel_rfl) (p_a 0 [0] (by kernel_rfl) (fun b => by kernel_rfl) (fun b_3 => jkO ?_))
  refine jo_f [(0, 0), (0, 0)] (by kernel_rfl) ?_
  refine jo_end (by kernel_rfl) ?_
  refine jx_then ?_
  refine jc_seq ?_
  refine jc_seq ?_
  refine jc_region ?_
  obtain ⟨t_1, ht_7, h⟩ := bd h
  refine toO (by kernel_rfl) (p_call 0 66 #[(.pointer (some ⟨b_1, 0, none⟩)), (.pointer (some ⟨b_2, 0, none⟩)), (.pointer (some ⟨b_3, 0, none⟩))] (by kernel_rfl) (by kernel_rfl) (fun w hm => spec_l05Both.calls f0 a1 b2 w _ f0_fHammers_a f0.fHammers.length f0_fHammers_c (hm.exRow f0_fHammers_h List.not_mem_nil) rfl b_1 b_2 b_3 (hm.pass (N := [⟨some b_1, 27, [(.int .i16 f0.fSteps), (.slice f0_fHammers_a f0.fHammers.length f0_fHammers_c)]⟩, ⟨(some b_2), 31, row encU32 a1.1 []⟩, ⟨(some b_3), 31, row encU32 b2.1 []⟩]) [0, 1, 2] (by kernel_rfl) (by kernel_rfl)) (hm.exApart (N := [⟨some b_1, 27, [(.int .i16 f0.fSteps), (.slice f0_fHammers_a f0.fHammers.length f0_fHammers_c)]⟩, ⟨(some b_2), 31, row encU32 a1.1 []⟩, ⟨(some b_3), 31, row encU32 b2.1 []⟩]) f0_fHammers_h (fun _ => List.not_mem_nil) [0, 1, 2] (by kernel_rfl)) ht_7) ?_)
  rintro w v w' hm ⟨rfl, hm'⟩
  refine ⟨_, hm.appW (ps := [(0, ⟨some b_1, 27, [(.int .i16 f0.fSteps), (.slice f0_fHammers_a f0.fHammers.length f0_fHammers_c)]⟩), (1, ⟨(some b_2), 31, row encU32 a1.1 []⟩), (2, ⟨(some b_3), 31, row encU32 b2.1 []⟩)]) (N := []) hm' (by kernel_rfl) (by kernel_rfl), jkO ?_⟩
  clear hm hm'
  refine jo_f [(0, 0)] (by kernel_rfl) ?_
  refine jo_end (by kernel_rfl) ?_
  refine jx_then ?_
  refine jc_seq ?_
  refine jc_region ?_
  refine jo_f [(0, 0), (0, 0)] (by kernel_rfl) ?_
  refine jo_end (by kernel_rfl) ?_
  refine jx_then ?_
  refine jc_cond (t_1 != 0) (by kernel_rfl) (fun hc_8 => ?_) (fun hc_8 => ?_)
  · replace h := ifT hc_8 h
    refine jc_seq ?_
    refine jc_region ?_
    refine toO (by kernel_rfl) (p_a 0 [0] (by kernel_rfl) (fun b => by kernel_rfl) (fun b_9 => jkO ?_))
    refine jo_f [(0, 0), (0, 0), (0, 0)] (by kernel_rfl) ?_
    refine jo_end (by kernel_rfl) ?_
    refine jx_then ?_
    refine jc_ret ?_
    refine jx_thenr ?_
    obtain rfl := Option.some.inj h
    exact jx_ret [] (.tuple #[(.slice (some ⟨b_9, 0, none⟩) 0 0), (.int .i64 t_1)]) [] rfl (by kernel_rfl) (by kernel_rfl) (fun w hm => ⟨(some b_9), 0, [], 0, rfl, (fun _ => ⟨Nat.le_refl _, by simp⟩), (fun e => nomatch e), rfl, hm.pick [3] (by kernel_rfl) (by kernel_rfl)⟩)
  · replace h := ifF hc_8 h
    refine jc_skip ?_
    refine jx_then ?_
    refine jc_seq ?_
    refine jc_region ?_
    obtain ⟨t_2, ht_10, h⟩ := bd h
    refine toO (by kernel_rfl) (p_call 0 67 #[(.pointer (some ⟨b_3, 0, none⟩)), (.pointer (some ⟨b_2, 0, none⟩)), (.bool false)] (by kernel_rfl) (by kernel_rfl) (fun w hm => spec_l05Changes.calls b2 a1 false w _ b_3 b_2 (hm.pass (N := [⟨(some b_3), 31, row encU32 b2.1 []⟩, ⟨(some b_2), 31, row encU32 a1.1 []⟩]) [2, 1] (by kernel_rfl) (by kernel_rfl)) ht_10) ?_)
    rintro w v w' hm ⟨o_11, cap_12, sp_13, _, rfl, hs_14, ho_15, rfl, hm'⟩
    refine ⟨_, hm.appW (ps := [(2, ⟨(some b_3), 31, row encU32 b2.1 []⟩), (1, ⟨(some b_2), 31, row encU32 a1.1 []⟩)]) (N := [⟨o_11, 106, row encGChange t_2 sp_13⟩]) hm' (by kernel_rfl) (by kernel_rfl), jkO ?_⟩
    clear hm hm'
    obtain ⟨t_3, ht_16, h⟩ := bd h
    refine toO (by kernel_rfl) (p_call 0 67 #[(.pointer (some ⟨b_2, 0, none⟩)), (.pointer (some ⟨b_3, 0, none⟩)), (.bool true)] (by kernel_rfl) (by kernel_rfl) (fun w hm => spec_l05Changes.calls a1 b2 true w _ b_2 b_3 (hm.pass (N := [⟨(some b_2), 31, row encU32 a1.1 []⟩, ⟨(some b_3), 31, row encU32 b2.1 []⟩]) [1, 2] (by kernel_rfl) (by kernel_rfl)) ht_16) ?_)
    rintro w v w' hm ⟨o_17, cap_18, sp_19, _, rfl, hs_20, ho_21, rfl, hm'⟩
    refine ⟨_, hm.appW (ps := [(1, ⟨(some b_2), 31, row encU32 a1.1 []⟩), (2, ⟨(some b_3), 31, row encU32 b2.1 []⟩)]) (N := [⟨o_17, 106, row encGChange t_3 sp_19⟩]) hm' (by kernel_rfl) (by kernel_rfl), jkO ?_⟩
    clear hm hm'
    obtain ⟨hg_22, h⟩ := gd h
    refine toO (by kernel_rfl) (p_apn 0 3 o_11 106 t_2.length t_3.length cap_12 3 4 (o_17.map fun b => ⟨b, 0, none⟩) encGChange t_2 t_3 sp_13 (.agg #[(.int .i16 0), (.int .i8 0), (.bool false)]) rfl rfl (by kernel_rfl) (by kernel_rfl) (by kernel_rfl) encGChange_len encGChange_cell hs_14 ho_15 (fun w hm => (hm.ownRow (hh := 4) (o := o_17) (T := 106) (enc := encGChange) (xs := t_3) (sp := sp_19) (by kernel_rfl) (fun e => (ho_21 e).1) encGChange_len)) hg_22 (by kernel_rfl) (by kernel_rfl) (fun o_23 cap_24 sp_25 hs_26 ho_27 => jkO ?_))
    refine jo_f [(0, 0), (0, 0)] (by kernel_rfl) ?_
    refine jo_end (by kernel_rfl) ?_
    refine jx_then ?_
    refine jc_ret ?_
    obtain rfl := Option.some.inj h
    exact jx_ret [] (.tuple #[(.slice (o_23.map fun b => ⟨b, 0, none⟩) ((t_2 ++ t_3).length) cap_24), (.int .i64 0)]) [] rfl (by kernel_rfl) (by kernel_rfl) (fun w hm => ⟨o_23, cap_24, sp_25, ((t_2 ++ t_3).length), rfl, hs_26, ho_27, rfl, hm.pick [3] (by kernel_rfl) (by kernel_rfl)⟩)

/-! ### impl.ChangesText$1 -/
noncomputable def impl_ChangesText_1 (c0 : GChange) : Option (Bool) := (impl_within (w64 c0.fStep) 0 95).bind fun t_1 => (if (!t_1) = true then some true else (impl_within (w64 c0.fTrack) 0 23).bind fun t_2 => some (!t_2))
set_option maxRecDepth 100000 in
theorem impl_ChangesText_1.calls (c0 : GChange) (w : World) (r : Bool) (h : impl_ChangesText_1 c0 = some r) :
    Calls Tryz.prog 73 #[(.agg #[(.int .i16 c0.fStep), (.int .i8 c0.fTrack), (.bool c0.fPut)])] w fun e w' => ∃ v, e = .returned v ∧ (v = (.bool r) ∧ Mem w [] [] w') := by
  rw [impl_ChangesText_1] at h
  refine enter (args := [(.agg #[(.int .i16 c0.fStep), (.int .i8 c0.fTrack), (.bool c0.fPut)])]) Tryz.func73 rfl Tryz.ntmps73 (by kernel_rfl) (L := []) (W := []) (Mem.start w) ?_
  refine jc_seq ?_
  refine jc_region ?_
  refine toO (by kernel_rfl) (p_a 0 [0] (by kernel_rfl) (fun b => by kernel_rfl) (fun b_1 => jkO ?_))
  refine jo_f [(0, 0)] (by kernel_rfl) ?_
  refine jo_end (by kernel_rfl) ?_
  refine jx_then ?_
  refine jc_seq ?_
  refine jc_region ?_
  refine jo_f [(0, 0), (0, 0), (0, 0)] (by kernel_rfl) ?_
  obtain ⟨t_1, ht_2, h⟩ := bd h
  refine toO (by kernel_rfl) (p_call 0 74 #[(.int .i64 (w64 c0.fStep)), (.int .i64 0), (.int .i64 95)] (by kernel_rfl) (by kernel_rfl) (fun w hm => impl_within.calls (w64 c0.fStep) 0 95 w _ ht_2) ?_)
  rintro w v w' hm ⟨rfl, hm'⟩
  refine ⟨_, hm.app hm', jkO ?_⟩
  clear hm hm'
  refine jo_f [(0, 0), (0, 0), (0, 1), (0, 1), (0, 1)] (by kernel_rfl) ?_
  refine jo_split 8 (!t_1) (by kernel_rfl) (fun hc_3 => ?_) (fun hc_3 => ?_)
  · replace h := ifT hc_3 h
    refine jo_f [(0, 3), (0, 3), (0, 4), (0, 0)] (by kernel_rfl) ?_
    refine jo_end (by kernel_rfl) ?_
    refine jx_then ?_
    refine jc_ret ?_
    obtain rfl := Option.some.inj h
    exact jx_ret [] (.bool true) [] rfl (by kernel_rfl) (by kernel_rfl) (fun w hm => ⟨rfl, hm.pick [] (by kernel_rfl) (by kernel_rfl)⟩)
  · replace h := ifF hc_3 h
    obtain ⟨t_2, ht_4, h⟩ := bd h
    refine toO (by kernel_rfl) (p_call 2 74 #[(.int .i64 (w64 c0.fTrack)), (.int .i64 0), (.int .i64 23)] (by kernel_rfl) (by kernel_rfl) (fun w hm => impl_within.calls (w64 c0.fTrack) 0 23 w _ ht_4) ?_)
    rintro w v w' hm ⟨rfl, hm'⟩
    refine ⟨_, hm.app hm', jkO ?_⟩
    clear hm hm'
    refine jo_f [(0, 2), (0, 5), (0, 0)] (by kernel_rfl) ?_
    refine jo_end (by kernel_rfl) ?_
    refine jx_then ?_
    refine jc_ret ?_
    obtain rfl := Option.some.inj h
    exact jx_ret [] (.bool (!t_2)) [] rfl (by kernel_rfl) (by kernel_rfl) (fun w hm => ⟨rfl, hm.pick [] (by kernel_rfl) (by kernel_rfl)⟩)

/-! ### slices.IndexFunc[[]impl.Change,impl.Change] -/
noncomputable def slices_IndexFunc_Change_at_impl_ChangesText_1.k_1 : Option (Int) := some (-1)
noncomputable def slices_IndexFunc_Change_at_impl_ChangesText_1.l_3 (s0 : List GChange) : Int → Option ((Int) ⊕ (Int ⊕ Unit))
  | i_2 => (if (decide (i_2 < (s0.length : Int))) = true then (ix s0 i_2).bind fun x_5 => (impl_ChangesText_1 x_5).bind fun t_6 => (if t_6 = true then some (.inr (.inl i_2)) else some (.inl (w64 (i_2 + 1)))) else some (.inr (.inr ())))
noncomputable def slices_IndexFunc_Change_at_impl_ChangesText_1 (s0 : List GChange) : Option (Int) := (loop (slices_IndexFunc_Change_at_impl_ChangesText_1.l_3 s0) 0).bind fun t_4 => match t_4 with | .inl p => some p | .inr p => slices_IndexFunc_Change_at_impl_ChangesText_1.k_1
set_option maxRecDepth 100000 in
theorem slices_IndexFunc_Change_at_impl_ChangesText_1.calls (s0 : List GChange) (w : World) (r : Int) (s0_a : Option Addr) (s0_an : Nat) (s0_c : Nat) (s0_h : Rw w s0_a 3 encGChange s0) (s0_hn : s0.length = s0_an) (h : slices_IndexFunc_Change_at_impl_ChangesText_1 s0 = some r) :
    Calls Tryz.prog 161 #[(.slice s0_a s0_an s0_c), (.func (.func 73) #[] #[])] w fun e w' => ∃ v, e = .returned v ∧ (v = (.int .i64 r) ∧ Mem w [] [] w') := by
  subst s0_hn
  rw [slices_IndexFunc_Change_at_impl_ChangesText_1] at h
  refine enter (args := [(.slice s0_a s0.length s0_c), (.func (.func 73) #[] #[])]) Tryz.func161 rfl Tryz.ntmps161 (by kernel_rfl) (L := []) (W := []) (Mem.start w) ?_
  refine jc_seq ?_
  refine jc_region ?_
  refine jo_f [(0, 0)] (by kernel_rfl) ?_
  refine jo_end (by kernel_rfl) ?_
  refine jx_then ?_
  refine jc_seq ?_
  refine jc_seq ?_
  refine jc_region ?_
  refine jo_f [(0, 0), (0, 0), (0, 0)] (by kernel_rfl) ?_
  refine jo_end (by kernel_rfl) ?_
  refine jx_then ?_
  refine jc_meet (fun (_ : Unit) => slices_IndexFunc_Change_at_impl_ChangesText_1.k_1 = some r) (fun (_ : Unit) => [(4, [], (.int .i64 0))]) (fun (_ : Unit) => []) ?_ ?_
  · refine jc_block ?_
    obtain ⟨t_4, ht_40, hr_31⟩ := bd h
    refine jc_loop (fun (s : Int) (x : Unit) => match s, x with | i_2, _ => True) (fun (s : Int) (x : Unit) => match s, x with | i_2, _ => [(0, [], (.slice s0_a s0.length s0_c)), (1, [], (.func (.func 73) #[] #[])), (4, [], (.int .i64 0)), (7, [], (.int .i64 (s0.length : Int))), (8, [], (.int .i64 i_2))]) (fun (s : Int) (x : Unit) => match s, x with | i_2, _ => []) ht_40 () trivial (by kernel_rfl) [] (by kernel_rfl) (by kernel_rfl) ?_
    rintro i_2 _ y_32 _ h
    rw [slices_IndexFunc_Change_at_impl_ChangesText_1.l_3] at h
    refine jc_seq ?_
    refine jc_region ?_
    refine jo_f [(0, 0)] (by kernel_rfl) ?_
    refine jo_end (by kernel_rfl) ?_
    refine jx_then ?_
    refine jc_seq ?_
    refine jc_cond (decide (i_2 < (s0.length : Int))) (by kernel_rfl) (fun hc_34 => ?_) (fun hc_34 => ?_)
    · replace h := ifT hc_34 h
      refine jc_skip ?_
      refine jx_then ?_
      refine jc_seq ?_
      refine jc_block ?_
      refine jc_seq ?_
      refine jc_region ?_
      refine jo_f [(0, 0), (0, 0)] (by kernel_rfl) ?_
      refine jo_end (by kernel_rfl) ?_
      refine jx_then ?_
      refine jc_seq ?_
      refine jc_region ?_
      refine jo_f [(0, 0), (0, 0), (0, 0)] (by kernel_rfl) ?_
      obtain ⟨x_5, hx_35, h⟩ := bd h
      refine toO (by kernel_rfl) (p_idx 0 s0_a s0.length i_2 3 (by kernel_rfl) (by kernel_rfl) (ix_some hx_35).1 (ltn hx_35 rfl) (s0_h.sp hx_35) (jkO ?_))
      refine toO (by kernel_rfl) (p_ld 0 (aB s0_a) (aO s0_a + i_2.toNat * 3) true (encGChange x_5) (by kernel_rfl) (by kernel_rfl) (by kernel_rfl) (fun w hm => ((hm.exRow s0_h List.not_mem_nil).at hx_35)) (jkO ?_))
      obtain ⟨t_6, ht_36, h⟩ := bd h
      refine toO (by kernel_rfl) (p_call 0 73 #[(.agg #[(.int .i16 x_5.fStep), (.int .i8 x_5.fTrack), (.bool x_5.fPut)])] (by kernel_rfl) (by kernel_rfl) (fun w hm => impl_ChangesText_1.calls x_5 w _ ht_36) ?_)
      rintro w v w' hm ⟨rfl, hm'⟩
      refine ⟨_, hm.app hm', jkO ?_⟩
      clear hm hm'
      refine jo_end (by kernel_rfl) ?_
      refine jx_then ?_
      refine jc_cond t_6 (by kernel_rfl) (fun hc_37 => ?_) (fun hc_37 => ?_)
      · replace h := ifT hc_37 h
        refine jc_seq ?_
        refine jc_region ?_
        refine jo_f [(0, 0), (0, 0)] (by kernel_rfl) ?_
        refine jo_end (by kernel_rfl) ?_
        refine jx_then ?_
        refine jc_ret ?_
        refine jx_inr ?_
        refine jx_thenr ?_
        refine jx_leaver (.inl i_2) (Option.some.inj h).symm (fun e_38 => ?_)
        subst e_38
        refine jx_inr ?_
        refine jx_thenr ?_
        refine jx_thenr ?_
        obtain rfl := Option.some.inj hr_31
        exact jx_ret [] (.int .i64 i_2) [] rfl (by kernel_rfl) (by kernel_rfl) (fun w hm => ⟨rfl, hm.pick [] (by kernel_rfl) (by kernel_rfl)⟩)
      · replace h := ifF hc_37 h
        refine jc_skip ?_
        refine jx_inn ?_
        refine jx_then ?_
        refine jc_region ?_
        refine jo_f [(0, 0), (0, 0)] (by kernel_rfl) ?_
        refine jo_end (by kernel_rfl) ?_
        exact jx_back (w64 (i_2 + 1)) () (Option.some.inj h).symm trivial [] (by kernel_rfl) (by kernel_rfl) (by kernel_rfl)
    · replace h := ifF hc_34 h
      refine jc_exit ?_
      refine jx_thenx ?_
      refine jx_leave (.inr ()) (Option.some.inj h).symm (fun e_39 => ?_)
      subst e_39
      refine jx_ine ?_
      exact jx_meet () hr_31 (by kernel_rfl) [] (by kernel_rfl) (by kernel_rfl)
  · rintro _ h
    replace h : slices_IndexFunc_Change_at_impl_ChangesText_1.k_1 = some r := h
    rw [slices_IndexFunc_Change_at_impl_ChangesText_1.k_1] at h
    refine jx_then ?_
    refine jc_seq ?_
    refine jc_region ?_
    refine jo_f [(0, 0)] (by kernel_rfl) ?_
    refine jo_end (by kernel_rfl) ?_
    refine jx_then ?_
    refine jc_ret ?_
    obtain rfl := Option.some.inj h
    exact jx_ret [] (.int .i64 (-1)) [] rfl (by kernel_rfl) (by kernel_rfl) (fun w hm => ⟨rfl, hm.pick [] (by kernel_rfl) (by kernel_rfl)⟩)

/-! ### slices.ContainsFunc[[]impl.Change,impl.Change] -/
noncomputable def slices_ContainsFunc_Change_at_impl_ChangesText_1 (s0 : List GChange) : Option (Bool) := (slices_IndexFunc_Change_at_impl_ChangesText_1 s0).bind fun t_1 => some (decide (t_1 ≥ 0))
set_option maxRecDepth 100000 in
theorem slices_ContainsFunc_Change_at_impl_ChangesText_1.calls (s0 : List GChange) (w : World) (r : Bool) (s0_a : Option Addr) (s0_an : Nat) (s0_c : Nat) (s0_h : Rw w s0_a 3 encGChange s0) (s0_hn : s0.length = s0_an) (h : slices_ContainsFunc_Change_at_impl_ChangesText_1 s0 = some r) :
    Calls Tryz.prog 72 #[(.slice s0_a s0_an s0_c), (.func (.func 73) #[] #[])] w fun e w' => ∃ v, e = .returned v ∧ (v = (.bool r) ∧ Mem w [] [] w') := by
  subst s0_hn
  rw [slices_ContainsFunc_Change_at_impl_ChangesText_1] at h
  refine enter (args := [(.slice s0_a s0.length s0_c), (.func (.func 73) #[] #[])]) Tryz.func72 rfl Tryz.ntmps72 (by kernel_rfl) (L := []) (W := []) (Mem.start w) ?_
  refine jc_seq ?_
  refine jc_region ?_
  refine jo_f [(0, 0)] (by kernel_rfl) ?_
  refine jo_end (by kernel_rfl) ?_
  refine jx_then ?_
  refine jc_seq ?_
  refine jc_region ?_
  refine jo_f [(0, 0), (0, 0)] (by kernel_rfl) ?_
  obtain ⟨t_1, ht_1, h⟩ := bd h
  refine toO (by kernel_rfl) (p_call 0 161 #[(.slice s0_a s0.length s0_c), (.func (.func 73) #[] #[])] (by kernel_rfl) (by kernel_rfl) (fun w hm => slices_IndexFunc_Change_at_impl_ChangesText_1.calls s0 w _ s0_a s0.length s0_c (hm.exRow s0_h List.not_mem_nil) rfl ht_1) ?_)
  rintro w v w' hm ⟨rfl, hm'⟩
  refine ⟨_, hm.app hm', jkO ?_⟩
  clear hm hm'
  refine jo_f [(0, 0), (0, 0)] (by kernel_rfl) ?_
  refine jo_end (by kernel_rfl) ?_
  refine jx_then ?_
  refine jc_ret ?_
  obtain rfl := Option.some.inj h
  exact jx_ret [] (.bool (decide (t_1 ≥ 0))) [] rfl (by kernel_rfl) (by kernel_rfl) (fun w hm => ⟨rfl, hm.pick [] (by kernel_rfl) (by kernel_rfl)⟩)

def lay_strconv_FormatInt_ren : Go.Shelf.Ren := ⟨fun | 173 => 162 | 246 => 237 | 283 => 284 | 284 => 285 | 285 => 286 | 286 => 287 | 129 => 308 | 317 => 307 | 318 => 309 | 319 => 310 | 320 => 311 | 337 => 332 | 338 => 333 | n => n, fun | 2 => 2 | 3 => 3 | 9 => 9 | 4 => 4 | 171 => 323 | 0 => 0 | 53 => 218 | 37 => 22 | 5 => 5 | 173 => 326 | 212 => 347 | 51 => 29 | 20 => 20 | 213 => 348 | 46 => 165 | 232 => 380 | 233 => 381 | n => n, fun | 17 => 3 | 18 => 6 | 19 => 7 | n => n⟩
theorem lay_strconv_FormatInt : Go.Proofs.LaysM.n173 Tryz.prog lay_strconv_FormatInt_ren where
  mixed := by kernel_rfl
  f129 := Tryz.func308.trans (congrArg some (by kernel_rfl))
  f173 := Tryz.func162.trans (congrArg some (by kernel_rfl))
  f246 := Tryz.func237.trans (congrArg some (by kernel_rfl))
  f283 := Tryz.func284.trans (congrArg some (by kernel_rfl))
  f284 := Tryz.func285.trans (congrArg some (by kernel_rfl))
  f285 := Tryz.func286.trans (congrArg some (by kernel_rfl))
  f286 := Tryz.func287.trans (congrArg some (by kernel_rfl))
  f317 := Tryz.func307.trans (congrArg some (by kernel_rfl))
  f318 := Tryz.func309.trans (congrArg some (by kernel_rfl))
  f319 := Tryz.func310.trans (congrArg some (by kernel_rfl))
  f320 := Tryz.func311.trans (congrArg some (by kernel_rfl))
  f337 := Tryz.func332.trans (congrArg some (by kernel_rfl))
  f338 := Tryz.func333.trans (congrArg some (by kernel_rfl))
  t0 := Tryz.underlying0
  a0 := Tryz.isAgg0
  z0 := Tryz.sizeOf0
  v0 := Tryz.zeroValue0
  t2 := Tryz.underlying2
  a2 := Tryz.isAgg2
  z2 := Tryz.sizeOf2
  v2 := Tryz.zeroValue2
  t3 := Tryz.underlying3
  a3 := Tryz.isAgg3
  z3 := Tryz.sizeOf3
  v3 := Tryz.zeroValue3
  t4 := Tryz.underlying4
  a4 := Tryz.isAgg4
  z4 := Tryz.sizeOf4
  v4 := Tryz.zeroValue4
  t5 := Tryz.underlying5
  a5 := Tryz.isAgg5
  z5 := Tryz.sizeOf5
  v5 := Tryz.zeroValue5
  t9 := Tryz.underlying9
  a9 := Tryz.isAgg9
  z9 := Tryz.sizeOf9
  v9 := Tryz.zeroValue9
  t20 := Tryz.underlying20
  a20 := Tryz.isAgg20
  z20 := Tryz.sizeOf20
  v20 := Tryz.zeroValue20
  t37 := Tryz.underlying22
  a37 := Tryz.isAgg22
  z37 := Tryz.sizeOf22
  v37 := Tryz.zeroValue22
  t46 := Tryz.underlying165
  a46 := Tryz.isAgg165
  z46 := Tryz.sizeOf165
  v46 := Tryz.zeroValue165
  t51 := Tryz.underlying29
  a51 := Tryz.isAgg29
  z51 := Tryz.sizeOf29
  v51 := Tryz.zeroValue29
  t53 := Tryz.underlying218
  a53 := Tryz.isAgg218
  z53 := Tryz.sizeOf218
  v53 := Tryz.zeroValue218
  t171 := Tryz.underlying323
  a171 := Tryz.isAgg323
  z171 := Tryz.sizeOf323
  v171 := Tryz.zeroValue323
  t173 := Tryz.underlying326
  a173 := Tryz.isAgg326
  z173 := Tryz.sizeOf326
  v173 := Tryz.zeroValue326
  t212 := Tryz.underlying347
  a212 := Tryz.isAgg347
  z212 := Tryz.sizeOf347
  v212 := Tryz.zeroValue347
  t213 := Tryz.underlying348
  a213 := Tryz.isAgg348
  z213 := Tryz.sizeOf348
  t232 := Tryz.underlying380
  a232 := Tryz.isAgg380
  z232 := Tryz.sizeOf380
  v232 := Tryz.zeroValue380
  t233 := Tryz.underlying381
  a233 := Tryz.isAgg381
  z233 := Tryz.sizeOf381
  v233 := Tryz.zeroValue381
  g17 := by kernel_rfl
  g18 := by kernel_rfl
  g19 := by kernel_rfl
  i0 := by kernel_rfl
  i2 := by kernel_rfl
  i3 := by kernel_rfl
  i4 := by kernel_rfl
  i5 := by kernel_rfl
  i9 := by kernel_rfl
  i20 := by kernel_rfl
  i37 := by kernel_rfl
  i46 := by kernel_rfl
  i51 := by kernel_rfl
  i53 := by kernel_rfl
  i171 := by kernel_rfl
  i173 := by kernel_rfl
  i212 := by kernel_rfl
  i232 := by kernel_rfl
  i233 := by kernel_rfl
  m17 := by kernel_rfl
  m18 := by kernel_rfl
  m19 := by kernel_rfl
/-! ### strconv.FormatInt -/
noncomputable def strconv_FormatInt (i0 : Int) (base1 : Int) : Option (ByteArray) := fmtF i0 base1
set_option maxRecDepth 100000 in
theorem strconv_FormatInt.calls (i0 : Int) (base1 : Int) (w : World) (r : ByteArray) (g_pw : Glpw w) (h : strconv_FormatInt i0 base1 = some r) :
    Calls Tryz.prog 162 #[(.int .i64 i0), (.int .i64 base1)] w fun e w' => ∃ v, e = .returned v ∧ (v = (.string r) ∧ Mem w [] [] w') := by
  rw [strconv_FormatInt] at h
  exact fmt_calls lay_strconv_FormatInt i0 base1 w r g_pw.pw h

/-! ### impl.decimal -/
noncomputable def impl_decimal (n0 : Int) : Option (ByteArray) := (strconv_FormatInt n0 10).bind fun t_1 => some t_1
set_option maxRecDepth 100000 in
theorem impl_decimal.calls (n0 : Int) (w : World) (r : ByteArray) (g_pw : Glpw w) (h : impl_decimal n0 = some r) :
    Calls Tryz.prog 75 #[(.int .i64 n0)] w fun e w' => ∃ v, e = .returned v ∧ (v = (.string r) ∧ Mem w [] [] w') := by
  rw [impl_decimal] at h
  refine enter (args := [(.int .i64 n0)]) Tryz.func75 rfl Tryz.ntmps75 (by kernel_rfl) (L := []) (W := []) (Mem.start w) ?_
  refine jc_seq ?_
  refine jc_region ?_
  refine jo_f [(0, 0)] (by kernel_rfl) ?_
  refine jo_end (by kernel_rfl) ?_
  refine jx_then ?_
  refine jc_seq ?_
  refine jc_region ?_
  refine jo_f [(0, 0)] (by kernel_rfl) ?_
  obtain ⟨t_1, ht_1, h⟩ := bd h
  refine toO (by kernel_rfl) (p_call 0 162 #[(.int .i64 n0), (.int .i64 10)] (by kernel_rfl) (by kernel_rfl) (fun w hm => strconv_FormatInt.calls n0 10 w _ (g_pw.keep hm) ht_1) ?_)
  rintro w v w' hm ⟨rfl, hm'⟩
  refine ⟨_, hm.app hm', jkO ?_⟩
  clear hm hm'
  refine jo_f [(0, 0)] (by kernel_rfl) ?_
  refine jo_end (by kernel_rfl) ?_
  refine jx_then ?_
  refine jc_ret ?_
  obtain rfl := Option.some.inj h
  exact jx_ret [] (.string t_1) [] rfl (by kernel_rfl) (by kernel_rfl) (fun w hm => ⟨rfl, hm.pick [] (by kernel_rfl) (by kernel_rfl)⟩)

def lay_strings_Join_ren : Go.Shelf.Ren := ⟨fun | 156 => 76 | 165 => 163 | 166 => 151 | 169 => 153 | 240 => 229 | 241 => 238 | 276 => 272 | 277 => 288 | n => n, fun | 31 => 110 | 9 => 9 | 3 => 3 | 4 => 4 | 0 => 0 | 20 => 20 | 72 => 211 | 76 => 214 | 70 => 209 | 37 => 22 | 75 => 213 | 127 => 282 | 164 => 310 | 5 => 5 | 80 => 217 | n => n, fun | n => n⟩
theorem lay_strings_Join : Go.Proofs.Lays.n156 Tryz.prog lay_strings_Join_ren where
  mixed := by kernel_rfl
  f156 := Tryz.func76.trans (congrArg some (by kernel_rfl))
  f165 := Tryz.func163.trans (congrArg some (by kernel_rfl))
  f166 := Tryz.func151.trans (congrArg some (by kernel_rfl))
  f169 := Tryz.func153.trans (congrArg some (by kernel_rfl))
  f240 := Tryz.func229.trans (congrArg some (by kernel_rfl))
  f241 := Tryz.func238.trans (congrArg some (by kernel_rfl))
  f276 := Tryz.func272.trans (congrArg some (by kernel_rfl))
  f277 := Tryz.func288.trans (congrArg some (by kernel_rfl))
  t0 := Tryz.underlying0
  a0 := Tryz.isAgg0
  z0 := Tryz.sizeOf0
  v0 := Tryz.zeroValue0
  t3 := Tryz.underlying3
  a3 := Tryz.isAgg3
  z3 := Tryz.sizeOf3
  v3 := Tryz.zeroValue3
  t4 := Tryz.underlying4
  a4 := Tryz.isAgg4
  z4 := Tryz.sizeOf4
  v4 := Tryz.zeroValue4
  t9 := Tryz.underlying9
  a9 := Tryz.isAgg9
  z9 := Tryz.sizeOf9
  v9 := Tryz.zeroValue9
  t20 := Tryz.underlying20
  a20 := Tryz.isAgg20
  z20 := Tryz.sizeOf20
  v20 := Tryz.zeroValue20
  t31 := Tryz.underlying110
  a31 := Tryz.isAgg110
  z31 := Tryz.sizeOf110
  v31 := Tryz.zeroValue110
  t37 := Tryz.underlying22
  a37 := Tryz.isAgg22
  z37 := Tryz.sizeOf22
  v37 := Tryz.zeroValue22
  t70 := Tryz.underlying209
  a70 := Tryz.isAgg209
  z70 := Tryz.sizeOf209
  v70 := Tryz.zeroValue209
  t72 := Tryz.underlying211
  a72 := Tryz.isAgg211
  z72 := Tryz.sizeOf211
  v72 := Tryz.zeroValue211
  t75 := Tryz.underlying213
  a75 := Tryz.isAgg213
  z75 := Tryz.sizeOf213
  v75 := Tryz.zeroValue213
  t76 := Tryz.underlying214
  a76 := Tryz.isAgg214
  z76 := Tryz.sizeOf214
  v76 := Tryz.zeroValue214
  t127 := Tryz.underlying282
  a127 := Tryz.isAgg282
  z127 := Tryz.sizeOf282
  v127 := Tryz.zeroValue282
  t164 := Tryz.underlying310
  a164 := Tryz.isAgg310
  z164 := Tryz.sizeOf310
  v164 := Tryz.zeroValue310
theorem lay_strings_Join_x : Go.Proofs.Builder.Extra Tryz.prog lay_strings_Join_ren where
  sizeBuilder := by kernel_rfl
  liesBuilder := by kernel_rfl
  t5 := Tryz.underlying5
  a5 := Tryz.isAgg5
  z5 := Tryz.sizeOf5
  v5 := Tryz.zeroValue5
  infoByte := by kernel_rfl
  cellsByte := by kernel_rfl
  sizeByte := by kernel_rfl
  neB5 := by decide
/-! ### strings.Join -/
noncomputable def strings_Join (elems0 : List ByteArray) (sep1 : ByteArray) : Option (ByteArray) := joinF elems0 sep1
set_option maxRecDepth 100000 in
theorem strings_Join.calls (elems0 : List ByteArray) (sep1 : ByteArray) (w : World) (r : ByteArray) (g_lo : Gllo w) (elems0_o : Option Nat) (elems0_on : Nat) (elems0_c : Nat) (elems0_sp : List Value) (elems0_hn : elems0.length = elems0_on) (elems0_hs : elems0_o ≠ none → elems0_on ≤ elems0_c ∧ elems0_sp.length = (elems0_c - elems0_on) * 1) (elems0_ho : elems0_o = none → elems0 = [] ∧ elems0_c = 0) (hm0 : Mem w (bs [elems0_o]) [⟨elems0_o, 9, row encStr elems0 elems0_sp⟩] w) (h : strings_Join elems0 sep1 = some r) :
    Calls Tryz.prog 76 #[(.slice (elems0_o.map fun b => ⟨b, 0, none⟩) elems0_on elems0_c), (.string sep1)] w fun e w' => ∃ v, e = .returned v ∧ (v = (.string r) ∧ Mem w (bs [elems0_o]) [⟨elems0_o, 9, row encStr elems0 elems0_sp⟩] w') := by
  rw [strings_Join] at h
  exact join_calls lay_strings_Join lay_strings_Join_x g_lo.lo _ elems0 sep1 w r elems0_o elems0_on elems0_c elems0_sp elems0_hn elems0_hs elems0_ho hm0 h

/-! ### impl.ChangesText -/
noncomputable def impl_ChangesText.k_4 (xs_3 : List ByteArray) : Option (ByteArray) := (strings_Join xs_3 (ByteArray.mk #[32])).bind fun t_5 => some t_5
noncomputable def impl_ChangesText.k_12 (xs_6 : List ByteArray) (i_7 : Int) (x_10 : GChange) (s_11 : ByteArray) : Option (((List ByteArray) × Int) ⊕ ((List ByteArray))) := (impl_decimal (w64 x_10.fStep)).bind fun t_13 => (if s_11.size + t_13.size ≤ 9223372036854775807 then (if (s_11 ++ t_13).size + (ByteArray.mk #[47]).size ≤ 9223372036854775807 then (impl_decimal (w64 x_10.fTrack)).bind fun t_14 => (if ((s_11 ++ t_13) ++ (ByteArray.mk #[47])).size + t_14.size ≤ 9223372036854775807 then (if xs_6.length + [(((s_11 ++ t_13) ++ (ByteArray.mk #[47])) ++ t_14)].length ≤ 4294967296 then some (.inl ((xs_6 ++ [(((s_11 ++ t_13) ++ (ByteArray.mk #[47])) ++ t_14)]), (w64 (i_7 + 1)))) else none) else none) else none) else none)
noncomputable def impl_ChangesText.l_8 (list0 : List GChange) : ((List ByteArray) × Int) → Option (((List ByteArray) × Int) ⊕ ((List ByteArray)))
  | (xs_6, i_7) => (if (decide (i_7 < (list0.length : Int))) = true then (ix list0 i_7).bind fun x_10 => (if x_10.fPut = true then impl_ChangesText.k_12 xs_6 i_7 x_10 (ByteArray.mk #[43]) else impl_ChangesText.k_12 xs_6 i_7 x_10 (ByteArray.mk #[45])) else some (.inr xs_6))
noncomputable def impl_ChangesText.k_2 (list0 : List GChange) (q_1 : Bool) : Option (ByteArray) := (if q_1 = true then some (ByteArray.mk #[]) else (loop (impl_ChangesText.l_8 list0) (([] : List ByteArray), 0)).bind fun t_9 => impl_ChangesText.k_4 t_9)
noncomputable def impl_ChangesText (list0 : List GChange) : Option (ByteArray) := (if (decide ((list0.length : Int) > 2400)) = true then impl_ChangesText.k_2 list0 true else (slices_ContainsFunc_Change_at_impl_ChangesText_1 list0).bind fun t_15 => impl_ChangesText.k_2 list0 t_15)
set_option maxRecDepth 100000 in
theorem impl_ChangesText.calls (list0 : List GChange) (w : World) (r : ByteArray) (g_lo : Gllo w) (g_pw : Glpw w) (list0_a : Option Addr) (list0_an : Nat) (list0_c : Nat) (list0_h : Rw w list0_a 3 encGChange list0) (list0_hn : list0.length = list0_an) (h : impl_ChangesText list0 = some r) :
    Calls Tryz.prog 12 #[(.slice list0_a list0_an list0_c)] w fun e w' => ∃ v, e = .returned v ∧ (v = (.string r) ∧ Mem w [] [] w') := by
  subst list0_hn
  rw [impl_ChangesText] at h
  refine enter (args := [(.slice list0_a list0.length list0_c)]) Tryz.func12 rfl Tryz.ntmps12 (by kernel_rfl) (L := []) (W := []) (Mem.start w) ?_
  refine jc_seq ?_
  refine jc_region ?_
  refine jo_f [(0, 0)] (by kernel_rfl) ?_
  refine jo_end (by kernel_rfl) ?_
  refine jx_then ?_
  refine jc_seq ?_
  refine jc_seq ?_
  refine jc_meet (fun (j : Bool) => match j with | q_1 => impl_ChangesText.k_2 list0 q_1 = some r) (fun (j : Bool) => match j with | q_1 => [(0, [], (.slice list0_a list0.length list0_c)), (2, [], (.string (ByteArray.mk #[]))), (13, [], (.bool q_1))]) (fun (j : Bool) => match j with | q_1 => []) ?_ ?_
  · refine jc_region ?_
    refine jo_f [(0, 0), (0, 0), (0, 0), (0, 0), (0, 1)] (by kernel_rfl) ?_
    refine jo_split 10 (decide ((list0.length : Int) > 2400)) (by kernel_rfl) (fun hc_375 => ?_) (fun hc_375 => ?_)
    · replace h := ifT hc_375 h
      refine jo_f [(0, 3), (0, 4)] (by kernel_rfl) ?_
      refine jo_end (by kernel_rfl) ?_
      exact jx_meet true h (by kernel_rfl) [] (by kernel_rfl) (by kernel_rfl)
    · replace h := ifF hc_375 h
      obtain ⟨t_15, ht_376, h⟩ := bd h
      refine toO (by kernel_rfl) (p_call 2 72 #[(.slice list0_a list0.length list0_c), (.func (.func 73) #[] #[])] (by kernel_rfl) (by kernel_rfl) (fun w hm => slices_ContainsFunc_Change_at_impl_ChangesText_1.calls list0 w _ list0_a list0.length list0_c (hm.exRow list0_h List.not_mem_nil) rfl ht_376) ?_)
      rintro w v w' hm ⟨rfl, hm'⟩
      refine ⟨_, hm.app hm', jkO ?_⟩
      clear hm hm'
      refine jo_f [(0, 5)] (by kernel_rfl) ?_
      refine jo_end (by kernel_rfl) ?_
      exact jx_meet t_15 h (by kernel_rfl) [] (by kernel_rfl) (by kernel_rfl)
  · rintro q_1 h
    replace h : impl_ChangesText.k_2 list0 q_1 = some r := h
    rw [impl_ChangesText.k_2] at h
    refine jx_then ?_
    refine jc_cond q_1 (by kernel_rfl) (fun hc_8 => ?_) (fun hc_8 => ?_)
    · replace h := ifT hc_8 h
      refine jc_seq ?_
      refine jc_region ?_
      refine jo_f [(0, 0)] (by kernel_rfl) ?_
      refine jo_end (by kernel_rfl) ?_
      refine jx_then ?_
      refine jc_ret ?_
      refine jx_thenr ?_
      obtain rfl := Option.some.inj h
      exact jx_ret [] (.string (ByteArray.mk #[])) [] rfl (by kernel_rfl) (by kernel_rfl) (fun w hm => ⟨rfl, hm.pick [] (by kernel_rfl) (by kernel_rfl)⟩)
    · replace h := ifF hc_8 h
      refine jc_skip ?_
      refine jx_then ?_
      refine jc_seq ?_
      refine jc_region ?_
      refine toO (by kernel_rfl) (p_a 0 [0] (by kernel_rfl) (fun b => by kernel_rfl) (fun b_9 => jkO ?_))
      refine jo_f [(0, 0)] (by kernel_rfl) ?_
      refine jo_end (by kernel_rfl) ?_
      refine jx_then ?_
      refine jc_seq ?_
      refine jc_seq ?_
      refine jc_region ?_
      refine jo_f [(0, 0), (0, 0), (0, 0)] (by kernel_rfl) ?_
      refine jo_end (by kernel_rfl) ?_
      refine jx_then ?_
      refine jc_meet (fun (j : (List ByteArray) × (Option Nat) × Nat × (List Value) × Nat) => match j with | ⟨xs_3, o_280, cap_281, sp_282, n_283⟩ => impl_ChangesText.k_4 xs_3 = some r ∧ (xs_3.length = n_283) ∧ ((o_280 ≠ none → n_283 ≤ cap_281 ∧ sp_282.length = (cap_281 - n_283) * 1)) ∧ ((o_280 = none → xs_3 = [] ∧ cap_281 = 0))) (fun (j : (List ByteArray) × (Option Nat) × Nat × (List Value) × Nat) => match j with | ⟨xs_3, o_280, cap_281, sp_282, n_283⟩ => [(2, [], (.string (ByteArray.mk #[]))), (3, [], (.slice (o_280.map fun b => ⟨b, 0, none⟩) n_283 cap_281))]) (fun (j : (List ByteArray) × (Option Nat) × Nat × (List Value) × Nat) => match j with | ⟨xs_3, o_280, cap_281, sp_282, n_283⟩ => [⟨o_280, 9, row encStr xs_3 sp_282⟩]) ?_ ?_
      · refine jc_block ?_
        obtain ⟨t_9, ht_374, hr_347⟩ := bd h
        refine jc_loop (fun (s : (List ByteArray) × Int) (x : (Option Nat) × Nat × (List Value) × Nat) => match s, x with | ⟨xs_6, i_7⟩, ⟨o_341, cap_342, sp_343, n_344⟩ => (xs_6.length = n_344) ∧ ((o_341 ≠ none → n_344 ≤ cap_342 ∧ sp_343.length = (cap_342 - n_344) * 1)) ∧ ((o_341 = none → xs_6 = [] ∧ cap_342 = 0))) (fun (s : (List ByteArray) × Int) (x : (Option Nat) × Nat × (List Value) × Nat) => match s, x with | ⟨xs_6, i_7⟩, ⟨o_341, cap_342, sp_343, n_344⟩ => [(2, [], (.string (ByteArray.mk #[]))), (3, [], (.slice (o_341.map fun b => ⟨b, 0, none⟩) n_344 cap_342)), (15, [], (.slice list0_a list0.length list0_c)), (16, [], (.int .i64 (list0.length : Int))), (17, [], (.int .i64 i_7))]) (fun (s : (List ByteArray) × Int) (x : (Option Nat) × Nat × (List Value) × Nat) => match s, x with | ⟨xs_6, i_7⟩, ⟨o_341, cap_342, sp_343, n_344⟩ => [⟨o_341, 9, row encStr xs_6 sp_343⟩]) ht_374 ⟨(some b_9), 0, [], 0⟩ ⟨rfl, (fun _ => ⟨Nat.le_refl _, by simp⟩), (fun e => nomatch e)⟩ (by kernel_rfl) [0] (by kernel_rfl) (by kernel_rfl) ?_
        rintro ⟨xs_6, i_7⟩ ⟨o_341, cap_342, sp_343, n_344⟩ y_348 ⟨rfl, hs_345, ho_346⟩ h
        rw [impl_ChangesText.l_8] at h
        refine jc_seq ?_
        refine jc_region ?_
        refine jo_f [(0, 0)] (by kernel_rfl) ?_
        refine jo_end (by kernel_rfl) ?_
        refine jx_then ?_
        refine jc_seq ?_
        refine jc_cond (decide (i_7 < (list0.length : Int))) (by kernel_rfl) (fun hc_350 => ?_) (fun hc_350 => ?_)
        · replace h := ifT hc_350 h
          refine jc_skip ?_
          refine jx_then ?_
          refine jc_seq ?_
          refine jc_block ?_
          refine jc_seq ?_
          refine jc_region ?_
          obtain ⟨x_10, hx_351, h⟩ := bd h
          refine toO (by kernel_rfl) (p_idx 0 list0_a list0.length i_7 3 (by kernel_rfl) (by kernel_rfl) (ix_some hx_351).1 (ltn hx_351 rfl) (list0_h.sp hx_351) (jkO ?_))
          refine toO (by kernel_rfl) (p_ld 0 (aB list0_a) (aO list0_a + i_7.toNat * 3) true (encGChange x_10) (by kernel_rfl) (by kernel_rfl) (by kernel_rfl) (fun w hm => ((hm.exRow list0_h List.not_mem_nil).at hx_351)) (jkO ?_))
          refine toO (by kernel_rfl) (p_a 0 [0] (by kernel_rfl) (fun b => by kernel_rfl) (fun b_352 => jkO ?_))
          refine toO (by kernel_rfl) (p_s 0 [1] (by kernel_rfl) (by kernel_rfl) (jkO ?_))
          refine jo_end (by kernel_rfl) ?_
          refine jx_then ?_
          refine jc_seq ?_
          refine jc_region ?_
          refine jo_f [(0, 0)] (by kernel_rfl) ?_
          refine jo_end (by kernel_rfl) ?_
          refine jx_then ?_
          refine jc_seq ?_
          refine jc_meet (fun (j : ByteArray) => match j with | s_11 => impl_ChangesText.k_12 xs_6 i_7 x_10 s_11 = some y_348) (fun (j : ByteArray) => match j with | s_11 => [(2, [], (.string (ByteArray.mk #[]))), (3, [], (.slice (o_341.map fun b => ⟨b, 0, none⟩) xs_6.length cap_342)), (5, [], (.pointer (some ⟨b_352, 0, none⟩))), (6, [], (.string s_11)), (15, [], (.slice list0_a list0.length list0_c)), (16, [], (.int .i64 (list0.length : Int))), (17, [], (.int .i64 i_7))]) (fun (j : ByteArray) => match j with | s_11 => [⟨o_341, 9, row encStr xs_6 sp_343⟩, ⟨some b_352, 106, [(.int .i16 x_10.fStep), (.int .i8 x_10.fTrack), (.bool x_10.fPut)]⟩]) ?_ ?_
          · refine jc_seq ?_
            refine jc_region ?_
            refine jo_f [(0, 0), (1, 0)] (by kernel_rfl) ?_
            refine jo_end (by kernel_rfl) ?_
            refine jx_then ?_
            refine jc_cond x_10.fPut (by kernel_rfl) (fun hc_372 => ?_) (fun hc_372 => ?_)
            · replace h := ifT hc_372 h
              refine jc_region ?_
              refine jo_f [(0, 0)] (by kernel_rfl) ?_
              refine jo_end (by kernel_rfl) ?_
              exact jx_meet (ByteArray.mk #[43]) h (by kernel_rfl) [0, 1] (by kernel_rfl) (by kernel_rfl)
            · replace h := ifF hc_372 h
              refine jc_skip ?_
              exact jx_meet (ByteArray.mk #[45]) h (by kernel_rfl) [0, 1] (by kernel_rfl) (by kernel_rfl)
          · rintro s_11 h
            replace h : impl_ChangesText.k_12 xs_6 i_7 x_10 s_11 = some y_348 := h
            rw [impl_ChangesText.k_12] at h
            refine jx_then ?_
            refine jc_draw [⟨some b_352, 106, [(.int .i16 x_10.fStep), (.int .i8 x_10.fTrack), (.bool x_10.fPut)]⟩] 16 (by kernel_rfl) (by kernel_rfl) ?_
            refine jd_f [⟨0, 0, 0⟩, ⟨1, 0, 0⟩, ⟨2, 0, 0⟩, ⟨3, 0, 0⟩, ⟨4, 0, 0⟩, ⟨8, 0, 0⟩, ⟨9, 0, 0⟩, ⟨10, 0, 0⟩] 8 (by kernel_rfl) (by kernel_rfl) (fun w h => h.pick [1] (by kernel_rfl) (by kernel_rfl)) (by kernel_rfl) (by kernel_rfl) ?_
            obtain ⟨t_13, ht_360, h⟩ := bd h
            refine toD 5 (by kernel_rfl) (p_call 0 75 #[(.int .i64 (w64 x_10.fStep))] (by kernel_rfl) (by kernel_rfl) (fun w hm => impl_decimal.calls (w64 x_10.fStep) w _ (g_pw.keep hm) ht_360) ?_)
            rintro w v w' hm ⟨rfl, hm'⟩
            refine ⟨_, hm.app hm', jkD (fun w h => h.pick [1] (by kernel_rfl) (by kernel_rfl)) ?_⟩
            clear hm hm'
            obtain ⟨hg_361, h⟩ := gd h
            refine jd_v 6 0 (by kernel_rfl) (fun w h => h.pick [1] (by kernel_rfl) (by kernel_rfl)) (by kernel_rfl) (by kernel_rfl) _ (fun w hm => cat_run (a := s_11) (b := t_13) (by kernel_rfl) hg_361) ?_
            obtain ⟨hg_362, h⟩ := gd h
            refine jd_v 7 0 (by kernel_rfl) (fun w h => h.pick [1] (by kernel_rfl) (by kernel_rfl)) (by kernel_rfl) (by kernel_rfl) _ (fun w hm => cat_run (a := (s_11 ++ t_13)) (b := (ByteArray.mk #[47])) (by kernel_rfl) hg_362) ?_
            obtain ⟨t_14, ht_363, h⟩ := bd h
            refine toD 11 (by kernel_rfl) (p_call 0 75 #[(.int .i64 (w64 x_10.fTrack))] (by kernel_rfl) (by kernel_rfl) (fun w hm => impl_decimal.calls (w64 x_10.fTrack) w _ (g_pw.keep hm) ht_363) ?_)
            rintro w v w' hm ⟨rfl, hm'⟩
            refine ⟨_, hm.app hm', jkD (fun w h => h.pick [1] (by kernel_rfl) (by kernel_rfl)) ?_⟩
            clear hm hm'
            obtain ⟨hg_364, h⟩ := gd h
            refine jd_v 12 0 (by kernel_rfl) (fun w h => h.pick [1] (by kernel_rfl) (by kernel_rfl)) (by kernel_rfl) (by kernel_rfl) _ (fun w hm => cat_run (a := ((s_11 ++ t_13) ++ (ByteArray.mk #[47]))) (b := t_14) (by kernel_rfl) hg_364) ?_
            refine toD 13 (by kernel_rfl) (p_a 0 [0] (by kernel_rfl) (fun b => by kernel_rfl) (fun b_365 => jkD (fun w h => h.pick [1] (by kernel_rfl) (by kernel_rfl)) ?_))
            obtain ⟨hg_366, h⟩ := gd h
            refine toD 14 (by kernel_rfl) (p_apn 0 0 o_341 9 xs_6.length 1 cap_342 1 16 (some ⟨b_365, 0, none⟩) encStr xs_6 [(((s_11 ++ t_13) ++ (ByteArray.mk #[47])) ++ t_14)] sp_343 (.string ByteArray.empty) rfl rfl (by kernel_rfl) (by kernel_rfl) (by kernel_rfl) encStr_len encStr_cell hs_345 ho_346 (fun w hm => (hm.ownRow (hh := 2) (o := (some b_365)) (T := 9) (enc := encStr) (xs := [(((s_11 ++ t_13) ++ (ByteArray.mk #[47])) ++ t_14)]) (sp := []) (by kernel_rfl) (fun e => nomatch e) encStr_len)) hg_366 (by kernel_rfl) (by kernel_rfl) (fun o_367 cap_368 sp_369 hs_370 ho_371 => jkD (fun w h => h.pick [1] (by kernel_rfl) (by kernel_rfl)) ?_))
            refine jd_f [⟨15, 0, 0⟩] 0 (by kernel_rfl) (by kernel_rfl) (fun w h => h.pick [1] (by kernel_rfl) (by kernel_rfl)) (by kernel_rfl) (by kernel_rfl) ?_
            refine jd_end (by kernel_rfl) ?_
            refine jx_inn ?_
            refine jx_then ?_
            refine jc_region ?_
            refine jo_f [(0, 0), (0, 0)] (by kernel_rfl) ?_
            refine jo_end (by kernel_rfl) ?_
            exact jx_back ((xs_6 ++ [(((s_11 ++ t_13) ++ (ByteArray.mk #[47])) ++ t_14)]), (w64 (i_7 + 1))) ⟨o_367, cap_368, sp_369, (xs_6 ++ [(((s_11 ++ t_13) ++ (ByteArray.mk #[47])) ++ t_14)]).length⟩ (Option.some.inj h).symm ⟨rfl, hs_370, ho_371⟩ [0] (by kernel_rfl) (by kernel_rfl) (by kernel_rfl)
        · replace h := ifF hc_350 h
          refine jc_exit ?_
          refine jx_thenx ?_
          refine jx_leave xs_6 (Option.some.inj h).symm (fun e_373 => ?_)
          subst e_373
          refine jx_ine ?_
          exact jx_meet ⟨xs_6, o_341, cap_342, sp_343, xs_6.length⟩ ⟨hr_347, rfl, hs_345, ho_346⟩ (by kernel_rfl) [0] (by kernel_rfl) (by kernel_rfl)
      · rintro ⟨xs_3, o_280, cap_281, sp_282, n_283⟩ ⟨h, rfl, hs_284, ho_285⟩
        replace h : impl_ChangesText.k_4 xs_3 = some r := h
        rw [impl_ChangesText.k_4] at h
        refine jx_then ?_
        refine jc_seq ?_
        refine jc_region ?_
        refine jo_f [(0, 0)] (by kernel_rfl) ?_
        obtain ⟨t_5, ht_286, h⟩ := bd h
        refine toO (by kernel_rfl) (p_call 0 76 #[(.slice (o_280.map fun b => ⟨b, 0, none⟩) xs_3.length cap_281), (.string (ByteArray.mk #[32]))] (by kernel_rfl) (by kernel_rfl) (fun w hm => strings_Join.calls xs_3 (ByteArray.mk #[32]) w _ (g_lo.keep hm) o_280 xs_3.length cap_281 sp_282 rfl hs_284 ho_285 (hm.pass (N := [⟨o_280, 9, row encStr xs_3 sp_282⟩]) [0] (by kernel_rfl) (by kernel_rfl)) ht_286) ?_)
        rintro w v w' hm ⟨rfl, hm'⟩
        refine ⟨_, hm.appW (ps := [(0, ⟨o_280, 9, row encStr xs_3 sp_282⟩)]) (N := []) hm' (by kernel_rfl) (by kernel_rfl), jkO ?_⟩
        clear hm hm'
        refine jo_f [(0, 0)] (by kernel_rfl) ?_
        refine jo_end (by kernel_rfl) ?_
        refine jx_then ?_
        refine jc_ret ?_
        obtain rfl := Option.some.inj h
        exact jx_ret [] (.string t_5) [] rfl (by kernel_rfl) (by kernel_rfl) (fun w hm => ⟨rfl, hm.pick [] (by kernel_rfl) (by kernel_rfl)⟩)

def lay_strings_Split_ren : Go.Shelf.Ren := ⟨fun | 146 => 68 | 221 => 157 | 268 => 230 | 138 => 231 | 143 => 232 | 195 => 273 | 197 => 274 | 218 => 275 | 219 => 234 | 260 => 300 | 217 => 270 | 225 => 276 | 224 => 277 | 267 => 278 | 266 => 299 | 314 => 301 | n => n, fun | 9 => 9 | 31 => 110 | 3 => 3 | 4 => 4 | 0 => 0 | 105 => 313 | 21 => 21 | 5 => 5 | 46 => 165 | 119 => 365 | 139 => 368 | 138 => 367 | 146 => 339 | 51 => 29 | n => n, fun | 1 => 0 | 3 => 4 | 4 => 5 | n => n⟩
theorem lay_strings_Split : Go.Proofs.Lays.n146 Tryz.prog lay_strings_Split_ren where
  mixed := by kernel_rfl
  f138 := Tryz.func231.trans (congrArg some (by kernel_rfl))
  f143 := Tryz.func232.trans (congrArg some (by kernel_rfl))
  f146 := Tryz.func68.trans (congrArg some (by kernel_rfl))
  f195 := Tryz.func273.trans (congrArg some (by kernel_rfl))
  f197 := Tryz.func274.trans (congrArg some (by kernel_rfl))
  f217 := Tryz.func270.trans (congrArg some (by kernel_rfl))
  f218 := Tryz.func275.trans (congrArg some (by kernel_rfl))
  f219 := Tryz.func234.trans (congrArg some (by kernel_rfl))
  f221 := Tryz.func157.trans (congrArg some (by kernel_rfl))
  f224 := Tryz.func277.trans (congrArg some (by kernel_rfl))
  f225 := Tryz.func276.trans (congrArg some (by kernel_rfl))
  f260 := Tryz.func300.trans (congrArg some (by kernel_rfl))
  f266 := Tryz.func299.trans (congrArg some (by kernel_rfl))
  f267 := Tryz.func278.trans (congrArg some (by kernel_rfl))
  f268 := Tryz.func230.trans (congrArg some (by kernel_rfl))
  f314 := Tryz.func301.trans (congrArg some (by kernel_rfl))
  t0 := Tryz.underlying0
  a0 := Tryz.isAgg0
  z0 := Tryz.sizeOf0
  v0 := Tryz.zeroValue0
  t3 := Tryz.underlying3
  a3 := Tryz.isAgg3
  z3 := Tryz.sizeOf3
  v3 := Tryz.zeroValue3
  t4 := Tryz.underlying4
  a4 := Tryz.isAgg4
  z4 := Tryz.sizeOf4
  v4 := Tryz.zeroValue4
  t5 := Tryz.underlying5
  a5 := Tryz.isAgg5
  z5 := Tryz.sizeOf5
  v5 := Tryz.zeroValue5
  t9 := Tryz.underlying9
  a9 := Tryz.isAgg9
  z9 := Tryz.sizeOf9
  v9 := Tryz.zeroValue9
  t21 := Tryz.underlying21
  a21 := Tryz.isAgg21
  z21 := Tryz.sizeOf21
  v21 := Tryz.zeroValue21
  t31 := Tryz.underlying110
  a31 := Tryz.isAgg110
  z31 := Tryz.sizeOf110
  v31 := Tryz.zeroValue110
  t46 := Tryz.underlying165
  a46 := Tryz.isAgg165
  z46 := Tryz.sizeOf165
  v46 := Tryz.zeroValue165
  t51 := Tryz.underlying29
  a51 := Tryz.isAgg29
  z51 := Tryz.sizeOf29
  v51 := Tryz.zeroValue29
  t105 := Tryz.underlying313
  a105 := Tryz.isAgg313
  z105 := Tryz.sizeOf313
  v105 := Tryz.zeroValue313
  t119 := Tryz.underlying365
  a119 := Tryz.isAgg365
  z119 := Tryz.sizeOf365
  t138 := Tryz.underlying367
  a138 := Tryz.isAgg367
  z138 := Tryz.sizeOf367
  v138 := Tryz.zeroValue367
  t139 := Tryz.underlying368
  a139 := Tryz.isAgg368
  z139 := Tryz.sizeOf368
  v139 := Tryz.zeroValue368
  t146 := Tryz.underlying339
  a146 := Tryz.isAgg339
  z146 := Tryz.sizeOf339
  v146 := Tryz.zeroValue339
  g1 := by kernel_rfl
  g3 := by kernel_rfl
  g4 := by kernel_rfl
/-! ### strings.Split -/
noncomputable def strings_Split (s0 : ByteArray) (sep1 : ByteArray) : Option ((List ByteArray)) := splitF s0 sep1
set_option maxRecDepth 100000 in
theorem strings_Split.calls (s0 : ByteArray) (sep1 : ByteArray) (w : World) (r : (List ByteArray)) (g_ml : Glml w) (h : strings_Split s0 sep1 = some r) :
    Calls Tryz.prog 68 #[(.string s0), (.string sep1)] w fun e w' => ∃ v, e = .returned v ∧ (∃ (o0 : Option Nat) (c0 : Nat) (s0 : List Value) (n0 : Nat), r.length = n0 ∧ (o0 ≠ none → n0 ≤ c0 ∧ s0.length = (c0 - n0) * 1) ∧ (o0 = none → r = [] ∧ c0 = 0) ∧ v = .slice (o0.map fun b => ⟨b, 0, none⟩) n0 c0 ∧ Mem w [] [⟨o0, 9, row encStr r s0⟩] w') := by
  rw [strings_Split] at h
  exact split_calls lay_strings_Split (by kernel_rfl) s0 sep1 w r g_ml.ml h

/-! ### internal/stringslite.HasPrefix -/
noncomputable def stringslite_HasPrefix (s0 : ByteArray) (prefix1 : ByteArray) : Option (Bool) := (if (decide ((s0.size : Int) ≥ (prefix1.size : Int))) = true then (if 0 ≤ (0 : Int) ∧ (0 : Int) ≤ (prefix1.size : Int) ∧ (prefix1.size : Int) ≤ (s0.size : Int) then some ((s0.extract (0 : Int).toNat (prefix1.size : Int).toNat).toList == prefix1.toList) else none) else some false)
set_option maxRecDepth 100000 in
theorem stringslite_HasPrefix.calls (s0 : ByteArray) (prefix1 : ByteArray) (w : World) (r : Bool) (h : stringslite_HasPrefix s0 prefix1 = some r) :
    Calls Tryz.prog 233 #[(.string s0), (.string prefix1)] w fun e w' => ∃ v, e = .returned v ∧ (v = (.bool r) ∧ Mem w [] [] w') := by
  rw [stringslite_HasPrefix] at h
  refine enter (args := [(.string s0), (.string prefix1)]) Tryz.func233 rfl Tryz.ntmps233 (by kernel_rfl) (L := []) (W := []) (Mem.start w) ?_
  refine jc_seq ?_
  refine jc_region ?_
  refine jo_f [(0, 0)] (by kernel_rfl) ?_
  refine jo_end (by kernel_rfl) ?_
  refine jx_then ?_
  refine jc_seq ?_
  refine jc_region ?_
  refine jo_f [(0, 0), (0, 0), (0, 0), (0, 0), (0, 0), (0, 0), (0, 1), (0, 1), (0, 1)] (by kernel_rfl) ?_
  refine jo_split 10 (decide ((s0.size : Int) ≥ (prefix1.size : Int))) (by kernel_rfl) (fun hc_1 => ?_) (fun hc_1 => ?_)
  · replace h := ifT hc_1 h
    obtain ⟨hg_2, h⟩ := gd h
    refine toO (by kernel_rfl) (p_v 2 (by kernel_rfl) _ (fun w hm => ssl_run (s := s0) (lo := none) (hi := some (prefix1.size : Int)) (l := (0 : Int)) (h := (prefix1.size : Int)) (by kernel_rfl) rfl rfl hg_2) (jkO ?_))
    refine jo_f [(0, 2), (0, 2), (0, 4), (0, 0)] (by kernel_rfl) ?_
    refine jo_end (by kernel_rfl) ?_
    refine jx_then ?_
    refine jc_ret ?_
    obtain rfl := Option.some.inj h
    exact jx_ret [] (.bool ((s0.extract (0 : Int).toNat (prefix1.size : Int).toNat).toList == prefix1.toList)) [] rfl (by kernel_rfl) (by kernel_rfl) (fun w hm => ⟨rfl, hm.pick [] (by kernel_rfl) (by kernel_rfl)⟩)
  · replace h := ifF hc_1 h
    refine jo_f [(0, 3), (0, 3), (0, 3), (0, 5), (0, 0)] (by kernel_rfl) ?_
    refine jo_end (by kernel_rfl) ?_
    refine jx_then ?_
    refine jc_ret ?_
    obtain rfl := Option.some.inj h
    exact jx_ret [] (.bool false) [] rfl (by kernel_rfl) (by kernel_rfl) (fun w hm => ⟨rfl, hm.pick [] (by kernel_rfl) (by kernel_rfl)⟩)

/-! ### internal/stringslite.CutPrefix -/
noncomputable def stringslite_CutPrefix (s0 : ByteArray) (prefix1 : ByteArray) : Option (ByteArray × Bool) := (stringslite_HasPrefix s0 prefix1).bind fun t_1 => (if (!t_1) = true then some (s0, false) else (if 0 ≤ (prefix1.size : Int) ∧ (prefix1.size : Int) ≤ (s0.size : Int) ∧ (s0.size : Int) ≤ (s0.size : Int) then some ((s0.extract (prefix1.size : Int).toNat (s0.size : Int).toNat), true) else none))
set_option maxRecDepth 100000 in
theorem stringslite_CutPrefix.calls (s0 : ByteArray) (prefix1 : ByteArray) (w : World) (r : ByteArray × Bool) (h : stringslite_CutPrefix s0 prefix1 = some r) :
    Calls Tryz.prog 158 #[(.string s0), (.string prefix1)] w fun e w' => ∃ v, e = .returned v ∧ (v = .tuple #[(.string r.1), (.bool r.2)] ∧ Mem w [] [] w') := by
  rw [stringslite_CutPrefix] at h
  refine enter (args := [(.string s0), (.string prefix1)]) Tryz.func158 rfl Tryz.ntmps158 (by kernel_rfl) (L := []) (W := []) (Mem.start w) ?_
  refine jc_seq ?_
  refine jc_region ?_
  refine jo_f [(0, 0), (0, 0)] (by kernel_rfl) ?_
  refine jo_end (by kernel_rfl) ?_
  refine jx_then ?_
  refine jc_seq ?_
  refine jc_seq ?_
  refine jc_region ?_
  refine jo_f [(0, 0), (0, 0)] (by kernel_rfl) ?_
  obtain ⟨t_1, ht_3, h⟩ := bd h
  refine toO (by kernel_rfl) (p_call 0 233 #[(.string s0), (.string prefix1)] (by kernel_rfl) (by kernel_rfl) (fun w hm => stringslite_HasPrefix.calls s0 prefix1 w _ ht_3) ?_)
  rintro w v w' hm ⟨rfl, hm'⟩
  refine ⟨_, hm.app hm', jkO ?_⟩
  clear hm hm'
  refine jo_f [(0, 0)] (by kernel_rfl) ?_
  refine jo_end (by kernel_rfl) ?_
  refine jx_then ?_
  refine jc_cond (!t_1) (by kernel_rfl) (fun hc_4 => ?_) (fun hc_4 => ?_)
  · replace h := ifT hc_4 h
    refine jc_seq ?_
    refine jc_region ?_
    refine jo_f [(0, 0), (0, 0), (0, 0)] (by kernel_rfl) ?_
    refine jo_end (by kernel_rfl) ?_
    refine jx_then ?_
    refine jc_ret ?_
    refine jx_thenr ?_
    obtain rfl := Option.some.inj h
    exact jx_ret [] (.tuple #[(.string s0), (.bool false)]) [] rfl (by kernel_rfl) (by kernel_rfl) (fun w hm => ⟨rfl, hm.pick [] (by kernel_rfl) (by kernel_rfl)⟩)
  · replace h := ifF hc_4 h
    refine jc_skip ?_
    refine jx_then ?_
    refine jc_seq ?_
    refine jc_region ?_
    refine jo_f [(0, 0), (0, 0), (0, 0)] (by kernel_rfl) ?_
    obtain ⟨hg_5, h⟩ := gd h
    refine toO (by kernel_rfl) (p_v 0 (by kernel_rfl) _ (fun w hm => ssl_run (s := s0) (lo := some (prefix1.size : Int)) (hi := none) (l := (prefix1.size : Int)) (h := (s0.size : Int)) (by kernel_rfl) rfl rfl hg_5) (jkO ?_))
    refine jo_f [(0, 0), (0, 0)] (by kernel_rfl) ?_
    refine jo_end (by kernel_rfl) ?_
    refine jx_then ?_
    refine jc_ret ?_
    obtain rfl := Option.some.inj h
    exact jx_ret [] (.tuple #[(.string (s0.extract (prefix1.size : Int).toNat (s0.size : Int).toNat)), (.bool true)]) [] rfl (by kernel_rfl) (by kernel_rfl) (fun w hm => ⟨rfl, hm.pick [] (by kernel_rfl) (by kernel_rfl)⟩)

/-! ### strings.CutPrefix -/
noncomputable def strings_CutPrefix (s0 : ByteArray) (prefix1 : ByteArray) : Option (ByteArray × Bool) := (stringslite_CutPrefix s0 prefix1).bind fun t_1 => some (t_1.1, t_1.2)
set_option maxRecDepth 100000 in
theorem strings_CutPrefix.calls (s0 : ByteArray) (prefix1 : ByteArray) (w : World) (r : ByteArray × Bool) (h : strings_CutPrefix s0 prefix1 = some r) :
    Calls Tryz.prog 69 #[(.string s0), (.string prefix1)] w fun e w' => ∃ v, e = .returned v ∧ (v = .tuple #[(.string r.1), (.bool r.2)] ∧ Mem w [] [] w') := by
  rw [strings_CutPrefix] at h
  refine enter (args := [(.string s0), (.string prefix1)]) Tryz.func69 rfl Tryz.ntmps69 (by kernel_rfl) (L := []) (W := []) (Mem.start w) ?_
  refine jc_seq ?_
  refine jc_region ?_
  refine jo_f [(0, 0), (0, 0)] (by kernel_rfl) ?_
  refine jo_end (by kernel_rfl) ?_
  refine jx_then ?_
  refine jc_seq ?_
  refine jc_region ?_
  refine jo_f [(0, 0), (0, 0)] (by kernel_rfl) ?_
  obtain ⟨t_1, ht_1, h⟩ := bd h
  refine toO (by kernel_rfl) (p_call 0 158 #[(.string s0), (.string prefix1)] (by kernel_rfl) (by kernel_rfl) (fun w hm => stringslite_CutPrefix.calls s0 prefix1 w _ ht_1) ?_)
  rintro w v w' hm ⟨rfl, hm'⟩
  refine ⟨_, hm.app hm', jkO ?_⟩
  clear hm hm'
  refine jo_f [(0, 0), (0, 0), (0, 0), (0, 0)] (by kernel_rfl) ?_
  refine jo_end (by kernel_rfl) ?_
  refine jx_then ?_
  refine jc_ret ?_
  obtain rfl := Option.some.inj h
  exact jx_ret [] (.tuple #[(.string t_1.1), (.bool t_1.2)]) [] rfl (by kernel_rfl) (by kernel_rfl) (fun w hm => ⟨rfl, hm.pick [] (by kernel_rfl) (by kernel_rfl)⟩)

def lay_strings_Cut_ren : Go.Shelf.Ren := ⟨fun | 145 => 70 | 220 => 159 | 219 => 234 | 217 => 270 | 225 => 276 | 224 => 277 | 267 => 278 | 266 => 299 | 314 => 301 | n => n, fun | 9 => 9 | 4 => 4 | 59 => 114 | 3 => 3 | 5 => 5 | 46 => 165 | 146 => 339 | 51 => 29 | n => n, fun | 1 => 0 | n => n⟩
theorem lay_strings_Cut : Go.Proofs.Lays.n145 Tryz.prog lay_strings_Cut_ren where
  mixed := by kernel_rfl
  f145 := Tryz.func70.trans (congrArg some (by kernel_rfl))
  f217 := Tryz.func270.trans (congrArg some (by kernel_rfl))
  f219 := Tryz.func234.trans (congrArg some (by kernel_rfl))
  f220 := Tryz.func159.trans (congrArg some (by kernel_rfl))
  f224 := Tryz.func277.trans (congrArg some (by kernel_rfl))
  f225 := Tryz.func276.trans (congrArg some (by kernel_rfl))
  f266 := Tryz.func299.trans (congrArg some (by kernel_rfl))
  f267 := Tryz.func278.trans (congrArg some (by kernel_rfl))
  f314 := Tryz.func301.trans (congrArg some (by kernel_rfl))
  t3 := Tryz.underlying3
  a3 := Tryz.isAgg3
  z3 := Tryz.sizeOf3
  v3 := Tryz.zeroValue3
  t4 := Tryz.underlying4
  a4 := Tryz.isAgg4
  z4 := Tryz.sizeOf4
  v4 := Tryz.zeroValue4
  t5 := Tryz.underlying5
  a5 := Tryz.isAgg5
  z5 := Tryz.sizeOf5
  v5 := Tryz.zeroValue5
  t9 := Tryz.underlying9
  a9 := Tryz.isAgg9
  z9 := Tryz.sizeOf9
  v9 := Tryz.zeroValue9
  t46 := Tryz.underlying165
  a46 := Tryz.isAgg165
  z46 := Tryz.sizeOf165
  v46 := Tryz.zeroValue165
  t51 := Tryz.underlying29
  a51 := Tryz.isAgg29
  z51 := Tryz.sizeOf29
  v51 := Tryz.zeroValue29
  t59 := Tryz.underlying114
  a59 := Tryz.isAgg114
  z59 := Tryz.sizeOf114
  v59 := Tryz.zeroValue114
  t146 := Tryz.underlying339
  a146 := Tryz.isAgg339
  z146 := Tryz.sizeOf339
  v146 := Tryz.zeroValue339
  g1 := by kernel_rfl
/-! ### strings.Cut -/
noncomputable def strings_Cut (s0 : ByteArray) (sep1 : ByteArray) : Option (ByteArray × ByteArray × Bool) := cutF s0 sep1
set_option maxRecDepth 100000 in
theorem strings_Cut.calls (s0 : ByteArray) (sep1 : ByteArray) (w : World) (r : ByteArray × ByteArray × Bool) (g_ml : Glml w) (h : strings_Cut s0 sep1 = some r) :
    Calls Tryz.prog 70 #[(.string s0), (.string sep1)] w fun e w' => ∃ v, e = .returned v ∧ (v = .tuple #[(.string r.1), (.string r.2.1), (.bool r.2.2)] ∧ Mem w [] [] w') := by
  rw [strings_Cut] at h
  exact cut_calls lay_strings_Cut s0 sep1 w r g_ml.ml h

def lay_strconv_ParseInt_ren : Go.Shelf.Ren := ⟨fun | 174 => 160 | 247 => 235 | 245 => 236 | 287 => 279 | 279 => 280 | 280 => 281 | 281 => 282 | 282 => 283 | 321 => 302 | 322 => 303 | 316 => 304 | 171 => 306 | 205 => 305 | 243 => 331 | 246 => 237 | 283 => 284 | 284 => 285 | 285 => 286 | 286 => 287 | 129 => 308 | 317 => 307 | 318 => 309 | 319 => 310 | 320 => 311 | 337 => 332 | 338 => 333 | n => n, fun | 9 => 9 | 3 => 3 | 2 => 2 | 75 => 213 | 85 => 226 | 4 => 4 | 167 => 316 | 5 => 5 | 53 => 218 | 175 => 317 | 46 => 165 | 168 => 319 | 37 => 22 | 0 => 0 | 210 => 344 | 21 => 21 | 127 => 282 | 145 => 371 | 143 => 369 | 171 => 323 | 173 => 326 | 212 => 347 | 51 => 29 | 20 => 20 | 213 => 348 | 232 => 380 | 233 => 381 | 80 => 217 | n => n, fun | 15 => 1 | 16 => 2 | 17 => 3 | 18 => 6 | 19 => 7 | n => n⟩
theorem lay_strconv_ParseInt : Go.Proofs.LaysC.n174 Tryz.prog lay_strconv_ParseInt_ren where
  mixed := by kernel_rfl
  f129 := Tryz.func308.trans (congrArg some (by kernel_rfl))
  f171 := Tryz.func306.trans (congrArg some (by kernel_rfl))
  f174 := Tryz.func160.trans (congrArg some (by kernel_rfl))
  f205 := Tryz.func305.trans (congrArg some (by kernel_rfl))
  f243 := Tryz.func331.trans (congrArg some (by kernel_rfl))
  f245 := Tryz.func236.trans (congrArg some (by kernel_rfl))
  f246 := Tryz.func237.trans (congrArg some (by kernel_rfl))
  f247 := Tryz.func235.trans (congrArg some (by kernel_rfl))
  f279 := Tryz.func280.trans (congrArg some (by kernel_rfl))
  f280 := Tryz.func281.trans (congrArg some (by kernel_rfl))
  f281 := Tryz.func282.trans (congrArg some (by kernel_rfl))
  f282 := Tryz.func283.trans (congrArg some (by kernel_rfl))
  f283 := Tryz.func284.trans (congrArg some (by kernel_rfl))
  f284 := Tryz.func285.trans (congrArg some (by kernel_rfl))
  f285 := Tryz.func286.trans (congrArg some (by kernel_rfl))
  f286 := Tryz.func287.trans (congrArg some (by kernel_rfl))
  f287 := Tryz.func279.trans (congrArg some (by kernel_rfl))
  f316 := Tryz.func304.trans (congrArg some (by kernel_rfl))
  f317 := Tryz.func307.trans (congrArg some (by kernel_rfl))
  f318 := Tryz.func309.trans (congrArg some (by kernel_rfl))
  f319 := Tryz.func310.trans (congrArg some (by kernel_rfl))
  f320 := Tryz.func311.trans (congrArg some (by kernel_rfl))
  f321 := Tryz.func302.trans (congrArg some (by kernel_rfl))
  f322 := Tryz.func303.trans (congrArg some (by kernel_rfl))
  f337 := Tryz.func332.trans (congrArg some (by kernel_rfl))
  f338 := Tryz.func333.trans (congrArg some (by kernel_rfl))
  t0 := Tryz.underlying0
  a0 := Tryz.isAgg0
  z0 := Tryz.sizeOf0
  v0 := Tryz.zeroValue0
  t2 := Tryz.underlying2
  a2 := Tryz.isAgg2
  z2 := Tryz.sizeOf2
  v2 := Tryz.zeroValue2
  t3 := Tryz.underlying3
  a3 := Tryz.isAgg3
  z3 := Tryz.sizeOf3
  v3 := Tryz.zeroValue3
  t4 := Tryz.underlying4
  a4 := Tryz.isAgg4
  z4 := Tryz.sizeOf4
  v4 := Tryz.zeroValue4
  t5 := Tryz.underlying5
  a5 := Tryz.isAgg5
  z5 := Tryz.sizeOf5
  v5 := Tryz.zeroValue5
  t9 := Tryz.underlying9
  a9 := Tryz.isAgg9
  z9 := Tryz.sizeOf9
  v9 := Tryz.zeroValue9
  t20 := Tryz.underlying20
  a20 := Tryz.isAgg20
  z20 := Tryz.sizeOf20
  v20 := Tryz.zeroValue20
  t21 := Tryz.underlying21
  a21 := Tryz.isAgg21
  z21 := Tryz.sizeOf21
  v21 := Tryz.zeroValue21
  t37 := Tryz.underlying22
  a37 := Tryz.isAgg22
  z37 := Tryz.sizeOf22
  v37 := Tryz.zeroValue22
  t46 := Tryz.underlying165
  a46 := Tryz.isAgg165
  z46 := Tryz.sizeOf165
  v46 := Tryz.zeroValue165
  t51 := Tryz.underlying29
  a51 := Tryz.isAgg29
  z51 := Tryz.sizeOf29
  v51 := Tryz.zeroValue29
  t53 := Tryz.underlying218
  a53 := Tryz.isAgg218
  z53 := Tryz.sizeOf218
  v53 := Tryz.zeroValue218
  t75 := Tryz.underlying213
  a75 := Tryz.isAgg213
  z75 := Tryz.sizeOf213
  v75 := Tryz.zeroValue213
  t85 := Tryz.underlying226
  a85 := Tryz.isAgg226
  z85 := Tryz.sizeOf226
  v85 := Tryz.zeroValue226
  t127 := Tryz.underlying282
  a127 := Tryz.isAgg282
  z127 := Tryz.sizeOf282
  v127 := Tryz.zeroValue282
  t143 := Tryz.underlying369
  a143 := Tryz.isAgg369
  z143 := Tryz.sizeOf369
  v143 := Tryz.zeroValue369
  t145 := Tryz.underlying371
  a145 := Tryz.isAgg371
  z145 := Tryz.sizeOf371
  v145 := Tryz.zeroValue371
  t167 := Tryz.underlying316
  a167 := Tryz.isAgg316
  z167 := Tryz.sizeOf316
  v167 := Tryz.zeroValue316
  t168 := Tryz.underlying319
  a168 := Tryz.isAgg319
  z168 := Tryz.sizeOf319
  v168 := Tryz.zeroValue319
  t171 := Tryz.underlying323
  a171 := Tryz.isAgg323
  z171 := Tryz.sizeOf323
  v171 := Tryz.zeroValue323
  t173 := Tryz.underlying326
  a173 := Tryz.isAgg326
  z173 := Tryz.sizeOf326
  v173 := Tryz.zeroValue326
  t175 := Tryz.underlying317
  a175 := Tryz.isAgg317
  z175 := Tryz.sizeOf317
  v175 := Tryz.zeroValue317
  t210 := Tryz.underlying344
  a210 := Tryz.isAgg344
  z210 := Tryz.sizeOf344
  v210 := Tryz.zeroValue344
  t212 := Tryz.underlying347
  a212 := Tryz.isAgg347
  z212 := Tryz.sizeOf347
  v212 := Tryz.zeroValue347
  t213 := Tryz.underlying348
  a213 := Tryz.isAgg348
  z213 := Tryz.sizeOf348
  t232 := Tryz.underlying380
  a232 := Tryz.isAgg380
  z232 := Tryz.sizeOf380
  v232 := Tryz.zeroValue380
  t233 := Tryz.underlying381
  a233 := Tryz.isAgg381
  z233 := Tryz.sizeOf381
  v233 := Tryz.zeroValue381
  g15 := by kernel_rfl
  g16 := by kernel_rfl
  g17 := by kernel_rfl
  g18 := by kernel_rfl
  g19 := by kernel_rfl
  t80 := Tryz.underlying217
  a80 := Tryz.isAgg217
  z80 := Tryz.sizeOf217
  v80 := Tryz.zeroValue217
  i0 := by kernel_rfl
  i2 := by kernel_rfl
  i3 := by kernel_rfl
  i4 := by kernel_rfl
  i5 := by kernel_rfl
  i9 := by kernel_rfl
  i20 := by kernel_rfl
  i21 := by kernel_rfl
  i37 := by kernel_rfl
  i46 := by kernel_rfl
  i51 := by kernel_rfl
  i53 := by kernel_rfl
  i75 := by kernel_rfl
  i80 := by kernel_rfl
  i85 := by kernel_rfl
  i127 := by kernel_rfl
  i143 := by kernel_rfl
  i145 := by kernel_rfl
  i167 := by kernel_rfl
  i168 := by kernel_rfl
  i171 := by kernel_rfl
  i173 := by kernel_rfl
  i175 := by kernel_rfl
  i210 := by kernel_rfl
  i212 := by kernel_rfl
  i232 := by kernel_rfl
  i233 := by kernel_rfl
  m15 := by kernel_rfl
  m16 := by kernel_rfl
  m17 := by kernel_rfl
  m18 := by kernel_rfl
  m19 := by kernel_rfl
  c0 := by kernel_rfl
  c2 := by kernel_rfl
  c3 := by kernel_rfl
  c4 := by kernel_rfl
  c5 := by kernel_rfl
  c9 := by kernel_rfl
  c20 := by kernel_rfl
  c21 := by kernel_rfl
  c37 := by kernel_rfl
  c46 := by kernel_rfl
  c51 := by kernel_rfl
  c53 := by kernel_rfl
  c75 := by kernel_rfl
  c80 := by kernel_rfl
  c85 := by kernel_rfl
  c127 := by kernel_rfl
  c143 := by kernel_rfl
  c145 := by kernel_rfl
  c167 := by kernel_rfl
  c168 := by kernel_rfl
  c171 := by kernel_rfl
  c173 := by kernel_rfl
  c175 := by kernel_rfl
  c210 := by kernel_rfl
  c212 := by kernel_rfl
  c213 := by kernel_rfl
  c232 := by kernel_rfl
  c233 := by kernel_rfl
/-! ### strconv.ParseInt -/
noncomputable def strconv_ParseInt (s0 : ByteArray) (base1 : Int) (bitSize2 : Int) : Option (Int × Bool) := parseF s0 base1 bitSize2
set_option maxRecDepth 100000 in
theorem strconv_ParseInt.calls (s0 : ByteArray) (base1 : Int) (bitSize2 : Int) (w : World) (r : Int × Bool) (g_er : Gler w) (g_lo : Gllo w) (h : strconv_ParseInt s0 base1 bitSize2 = some r) :
    Calls Tryz.prog 160 #[(.string s0), (.int .i64 base1), (.int .i64 bitSize2)] w fun e w' => ∃ v, e = .returned v ∧ (∃ (ev0 : Value), ErrIs r.2 ev0 ∧ v = .tuple #[(.int .i64 r.1), ev0] ∧ Mem w [] [] w') := by
  rw [strconv_ParseInt] at h
  exact parse_calls lay_strconv_ParseInt g_lo.lo s0 base1 bitSize2 w r g_er.es g_er.er h

/-! ### impl.number -/
noncomputable def impl_number.k_3 (t_1 : Int × Bool) (q_2 : Bool) : Option (Int × Bool) := (if q_2 = true then some (0, false) else some (t_1.1, true))
noncomputable def impl_number (s0 : ByteArray) (most1 : Int) : Option (Int × Bool) := (strconv_ParseInt s0 10 64).bind fun t_1 => (if t_1.2 = true then impl_number.k_3 t_1 true else (impl_decimal t_1.1).bind fun t_4 => (if (!(t_4.toList == s0.toList)) = true then impl_number.k_3 t_1 true else (impl_within t_1.1 0 most1).bind fun t_5 => impl_number.k_3 t_1 (!t_5)))
set_option maxRecDepth 100000 in
theorem impl_number.calls (s0 : ByteArray) (most1 : Int) (w : World) (r : Int × Bool) (g_er : Gler w) (g_lo : Gllo w) (g_pw : Glpw w) (h : impl_number s0 most1 = some r) :
    Calls Tryz.prog 71 #[(.string s0), (.int .i64 most1)] w fun e w' => ∃ v, e = .returned v ∧ (v = .tuple #[(.int .i64 r.1), (.bool r.2)] ∧ Mem w [] [] w') := by
  rw [impl_number] at h
  refine enter (args := [(.string s0), (.int .i64 most1)]) Tryz.func71 rfl Tryz.ntmps71 (by kernel_rfl) (L := []) (W := []) (Mem.start w) ?_
  refine jc_seq ?_
  refine jc_region ?_
  refine jo_f [(0, 0), (0, 0)] (by kernel_rfl) ?_
  refine jo_end (by kernel_rfl) ?_
  refine jx_then ?_
  refine jc_seq ?_
  refine jc_region ?_
  refine jo_f [(0, 0)] (by kernel_rfl) ?_
  obtain ⟨t_1, ht_1, h⟩ := bd h
  refine toO (by kernel_rfl) (p_call 0 160 #[(.string s0), (.int .i64 10), (.int .i64 64)] (by kernel_rfl) (by kernel_rfl) (fun w hm => strconv_ParseInt.calls s0 10 64 w _ (g_er.keep hm) (g_lo.keep hm) ht_1) ?_)
  rintro w v w' hm ⟨ev_2, hev_3, rfl, hm'⟩
  refine ⟨_, hm.app hm', jkO ?_⟩
  clear hm hm'
  refine jo_f [(0, 0), (0, 0), (0, 0), (0, 0), (0, 0)] (by kernel_rfl) ?_
  refine jo_end (by kernel_rfl) ?_
  refine jx_then ?_
  refine jc_seq ?_
  refine jc_seq ?_
  refine jc_meet (fun (j : Bool) => match j with | q_2 => impl_number.k_3 t_1 q_2 = some r) (fun (j : Bool) => match j with | q_2 => [(4, [], (.int .i64 0)), (5, [], (.bool false)), (6, [], (.int .i64 t_1.1)), (26, [], (.bool q_2))]) (fun (j : Bool) => match j with | q_2 => []) ?_ ?_
  · refine jc_region ?_
    refine jo_f [(0, 0)] (by kernel_rfl) ?_
    refine toO (by kernel_rfl) (p_v 0 (by kernel_rfl) _ (fun w hm => err_ne (ev := ev_2) (b := t_1.2) (by kernel_rfl) hev_3) (jkO ?_))
    refine jo_f [(0, 0), (0, 1)] (by kernel_rfl) ?_
    refine jo_split 15 t_1.2 (by kernel_rfl) (fun hc_18 => ?_) (fun hc_18 => ?_)
    · replace h := ifT hc_18 h
      refine jo_f [(0, 3), (0, 3), (0, 3), (0, 4), (0, 0), (0, 3), (0, 3), (0, 3), (0, 3), (0, 4)] (by kernel_rfl) ?_
      refine jo_end (by kernel_rfl) ?_
      exact jx_meet true h (by kernel_rfl) [] (by kernel_rfl) (by kernel_rfl)
    · replace h := ifF hc_18 h
      obtain ⟨t_4, ht_19, h⟩ := bd h
      refine toO (by kernel_rfl) (p_call 2 75 #[(.int .i64 t_1.1)] (by kernel_rfl) (by kernel_rfl) (fun w hm => impl_decimal.calls t_1.1 w _ (g_pw.keep hm) ht_19) ?_)
      rintro w v w' hm ⟨rfl, hm'⟩
      refine ⟨_, hm.app hm', jkO ?_⟩
      clear hm hm'
      refine jo_f [(0, 2), (0, 2), (0, 5), (0, 0), (0, 1), (0, 1)] (by kernel_rfl) ?_
      refine jo_split 21 (!(t_4.toList == s0.toList)) (by kernel_rfl) (fun hc_20 => ?_) (fun hc_20 => ?_)
      · replace h := ifT hc_20 h
        refine jo_f [(0, 3), (0, 3), (0, 4)] (by kernel_rfl) ?_
        refine jo_end (by kernel_rfl) ?_
        exact jx_meet true h (by kernel_rfl) [] (by kernel_rfl) (by kernel_rfl)
      · replace h := ifF hc_20 h
        obtain ⟨t_5, ht_21, h⟩ := bd h
        refine toO (by kernel_rfl) (p_call 2 74 #[(.int .i64 t_1.1), (.int .i64 0), (.int .i64 most1)] (by kernel_rfl) (by kernel_rfl) (fun w hm => impl_within.calls t_1.1 0 most1 w _ ht_21) ?_)
        rintro w v w' hm ⟨rfl, hm'⟩
        refine ⟨_, hm.app hm', jkO ?_⟩
        clear hm hm'
        refine jo_f [(0, 2), (0, 5)] (by kernel_rfl) ?_
        refine jo_end (by kernel_rfl) ?_
        exact jx_meet (!t_5) h (by kernel_rfl) [] (by kernel_rfl) (by kernel_rfl)
  · rintro q_2 h
    replace h : impl_number.k_3 t_1 q_2 = some r := h
    rw [impl_number.k_3] at h
    refine jx_then ?_
    refine jc_cond q_2 (by kernel_rfl) (fun hc_17 => ?_) (fun hc_17 => ?_)
    · replace h := ifT hc_17 h
      refine jc_seq ?_
      refine jc_region ?_
      refine jo_f [(0, 0), (0, 0)] (by kernel_rfl) ?_
      refine jo_end (by kernel_rfl) ?_
      refine jx_then ?_
      refine jc_ret ?_
      refine jx_thenr ?_
      obtain rfl := Option.some.inj h
      exact jx_ret [] (.tuple #[(.int .i64 0), (.bool false)]) [] rfl (by kernel_rfl) (by kernel_rfl) (fun w hm => ⟨rfl, hm.pick [] (by kernel_rfl) (by kernel_rfl)⟩)
    · replace h := ifF hc_17 h
      refine jc_skip ?_
      refine jx_then ?_
      refine jc_seq ?_
      refine jc_region ?_
      refine jo_f [(0, 0), (0, 0), (0, 0)] (by kernel_rfl) ?_
      refine jo_end (by kernel_rfl) ?_
      refine jx_then ?_
      refine jc_ret ?_
      obtain rfl := Option.some.inj h
      exact jx_ret [] (.tuple #[(.int .i64 t_1.1), (.bool true)]) [] rfl (by kernel_rfl) (by kernel_rfl) (fun w hm => ⟨rfl, hm.pick [] (by kernel_rfl) (by kernel_rfl)⟩)

/-! ### impl.ReadChanges -/
noncomputable def impl_ReadChanges.k_3 (xs_2 : List GChange) : Option ((List GChange) × Int) := some (xs_2, 0)
noncomputable def impl_ReadChanges.l_6 (t_1 : (List ByteArray)) : ((List GChange) × Int) → Option (((List GChange) × Int) ⊕ (((List GChange) × Int) ⊕ (List GChange)))
  | (xs_4, i_5) => (if (decide (i_5 < (t_1.length : Int))) = true then (ix t_1 i_5).bind fun x_8 => (strings_CutPrefix x_8 (ByteArray.mk #[43])).bind fun t_9 => (strings_CutPrefix t_9.1 (ByteArray.mk #[45])).bind fun t_10 => (strings_Cut t_10.1 (ByteArray.mk #[47])).bind fun t_11 => (impl_number t_11.1 95).bind fun t_12 => (impl_number t_11.2.1 23).bind fun t_13 => (if ((((t_9.2 == t_10.2) || (!t_12.2)) || (!t_13.2)) || ((xs_4.length : Int) == 2400)) = true then some (.inr (.inl ([], 5))) else (if xs_4.length + [(⟨(w16 t_12.1), (w8 t_13.1), t_9.2⟩ : GChange)].length ≤ 4294967296 then some (.inl ((xs_4 ++ [(⟨(w16 t_12.1), (w8 t_13.1), t_9.2⟩ : GChange)]), (w64 (i_5 + 1)))) else none)) else some (.inr (.inr xs_4)))
noncomputable def impl_ReadChanges (text0 : ByteArray) : Option ((List GChange) × Int) := (if (text0.toList == (ByteArray.mk #[]).toList) = true then some (([] : List GChange), 0) else (strings_Split text0 (ByteArray.mk #[32])).bind fun t_1 => (loop (impl_ReadChanges.l_6 t_1) (([] : List GChange), 0)).bind fun t_7 => match t_7 with | .inl p => some p | .inr p => impl_ReadChanges.k_3 p)
set_option maxRecDepth 100000 in
theorem impl_ReadChanges.calls (text0 : ByteArray) (w : World) (r : (List GChange) × Int) (g_er : Gler w) (g_lo : Gllo w) (g_ml : Glml w) (g_pw : Glpw w) (h : impl_ReadChanges text0 = some r) :
    Calls Tryz.prog 11 #[(.string text0)] w fun e w' => ∃ v, e = .returned v ∧ (∃ (o0 : Option Nat) (c0 : Nat) (s0 : List Value) (n0 : Nat), r.1.length = n0 ∧ (o0 ≠ none → n0 ≤ c0 ∧ s0.length = (c0 - n0) * 3) ∧ (o0 = none → r.1 = [] ∧ c0 = 0) ∧ v = .tuple #[.slice (o0.map fun b => ⟨b, 0, none⟩) n0 c0, (.int .i64 r.2)] ∧ Mem w [] [⟨o0, 106, row encGChange r.1 s0⟩] w') := by
  rw [impl_ReadChanges] at h
  refine enter (args := [(.string text0)]) Tryz.func11 rfl Tryz.ntmps11 (by kernel_rfl) (L := []) (W := []) (Mem.start w) ?_
  refine jc_seq ?_
  refine jc_region ?_
  refine jo_f [(0, 0), (0, 0)] (by kernel_rfl) ?_
  refine jo_end (by kernel_rfl) ?_
  refine jx_then ?_
  refine jc_seq ?_
  refine jc_region ?_
  refine toO (by kernel_rfl) (p_a 0 [0] (by kernel_rfl) (fun b => by kernel_rfl) (fun b_1 => jkO ?_))
  refine jo_f [(0, 0)] (by kernel_rfl) ?_
  refine jo_end (by kernel_rfl) ?_
  refine jx_then ?_
  refine jc_seq ?_
  refine jc_seq ?_
  refine jc_region ?_
  refine jo_f [(0, 0), (0, 0)] (by kernel_rfl) ?_
  refine jo_end (by kernel_rfl) ?_
  refine jx_then ?_
  refine jc_cond (text0.toList == (ByteArray.mk #[]).toList) (by kernel_rfl) (fun hc_3 => ?_) (fun hc_3 => ?_)
  · replace h := ifT hc_3 h
    refine jc_seq ?_
    refine jc_region ?_
    refine jo_f [(0, 0), (0, 0), (0, 0)] (by kernel_rfl) ?_
    refine jo_end (by kernel_rfl) ?_
    refine jx_then ?_
    refine jc_ret ?_
    refine jx_thenr ?_
    obtain rfl := Option.some.inj h
    exact jx_ret [] (.tuple #[(.slice (some ⟨b_1, 0, none⟩) 0 0), (.int .i64 0)]) [] rfl (by kernel_rfl) (by kernel_rfl) (fun w hm => ⟨(some b_1), 0, [], 0, rfl, (fun _ => ⟨Nat.le_refl _, by simp⟩), (fun e => nomatch e), rfl, hm.pick [0] (by kernel_rfl) (by kernel_rfl)⟩)
  · replace h := ifF hc_3 h
    refine jc_skip ?_
    refine jx_then ?_
    refine jc_seq ?_
    refine jc_seq ?_
    refine jc_region ?_
    refine jo_f [(0, 0)] (by kernel_rfl) ?_
    obtain ⟨t_1, ht_152, h⟩ := bd h
    refine toO (by kernel_rfl) (p_call 0 68 #[(.string text0), (.string (ByteArray.mk #[32]))] (by kernel_rfl) (by kernel_rfl) (fun w hm => strings_Split.calls text0 (ByteArray.mk #[32]) w _ (g_ml.keep hm) ht_152) ?_)
    rintro w v w' hm ⟨o_153, cap_154, sp_155, _, rfl, hs_156, ho_157, rfl, hm'⟩
    refine ⟨_, hm.app hm', jkO ?_⟩
    clear hm hm'
    refine jo_f [(0, 0), (0, 0)] (by kernel_rfl) ?_
    refine jo_end (by kernel_rfl) ?_
    refine jx_then ?_
    refine jc_meet (fun (j : (List GChange) × (Option Nat) × Nat × (List Value) × Nat) => match j with | ⟨xs_2, o_226, cap_227, sp_228, n_229⟩ => impl_ReadChanges.k_3 xs_2 = some r ∧ (xs_2.length = n_229) ∧ ((o_226 ≠ none → n_229 ≤ cap_227 ∧ sp_228.length = (cap_227 - n_229) * 3)) ∧ ((o_226 = none → xs_2 = [] ∧ cap_227 = 0))) (fun (j : (List GChange) × (Option Nat) × Nat × (List Value) × Nat) => match j with | ⟨xs_2, o_226, cap_227, sp_228, n_229⟩ => [(2, [], (.slice none 0 0)), (3, [], (.int .i64 0)), (4, [], (.slice (o_226.map fun b => ⟨b, 0, none⟩) n_229 cap_227))]) (fun (j : (List GChange) × (Option Nat) × Nat × (List Value) × Nat) => match j with | ⟨xs_2, o_226, cap_227, sp_228, n_229⟩ => [⟨o_226, 106, row encGChange xs_2 sp_228⟩, ⟨o_153, 9, row encStr t_1 sp_155⟩]) ?_ ?_
    · refine jc_block ?_
      obtain ⟨t_7, ht_299, hr_278⟩ := bd h
      refine jc_loop (fun (s : (List GChange) × Int) (x : (Option Nat) × Nat × (List Value) × Nat) => match s, x with | ⟨xs_4, i_5⟩, ⟨o_272, cap_273, sp_274, n_275⟩ => (xs_4.length = n_275) ∧ ((o_272 ≠ none → n_275 ≤ cap_273 ∧ sp_274.length = (cap_273 - n_275) * 3)) ∧ ((o_272 = none → xs_4 = [] ∧ cap_273 = 0))) (fun (s : (List GChange) × Int) (x : (Option Nat) × Nat × (List Value) × Nat) => match s, x with | ⟨xs_4, i_5⟩, ⟨o_272, cap_273, sp_274, n_275⟩ => [(2, [], (.slice none 0 0)), (3, [], (.int .i64 0)), (4, [], (.slice (o_272.map fun b => ⟨b, 0, none⟩) n_275 cap_273)), (22, [], (.slice (o_153.map fun b => ⟨b, 0, none⟩) t_1.length cap_154)), (23, [], (.int .i64 (t_1.length : Int))), (24, [], (.int .i64 i_5))]) (fun (s : (List GChange) × Int) (x : (Option Nat) × Nat × (List Value) × Nat) => match s, x with | ⟨xs_4, i_5⟩, ⟨o_272, cap_273, sp_274, n_275⟩ => [⟨o_272, 106, row encGChange xs_4 sp_274⟩, ⟨o_153, 9, row encStr t_1 sp_155⟩]) ht_299 ⟨(some b_1), 0, [], 0⟩ ⟨rfl, (fun _ => ⟨Nat.le_refl _, by simp⟩), (fun e => nomatch e)⟩ (by kernel_rfl) [0, 1] (by kernel_rfl) (by kernel_rfl) ?_
      rintro ⟨xs_4, i_5⟩ ⟨o_272, cap_273, sp_274, n_275⟩ y_279 ⟨rfl, hs_276, ho_277⟩ h
      rw [impl_ReadChanges.l_6] at h
      refine jc_seq ?_
      refine jc_region ?_
      refine jo_f [(0, 0)] (by kernel_rfl) ?_
      refine jo_end (by kernel_rfl) ?_
      refine jx_then ?_
      refine jc_seq ?_
      refine jc_cond (decide (i_5 < (t_1.length : Int))) (by kernel_rfl) (fun hc_281 => ?_) (fun hc_281 => ?_)
      · replace h := ifT hc_281 h
        refine jc_skip ?_
        refine jx_then ?_
        refine jc_seq ?_
        refine jc_block ?_
        refine jc_seq ?_
        refine jc_region ?_
        obtain ⟨x_8, hx_282, h⟩ := bd h
        refine toO (by kernel_rfl) (p_idx 0 (o_153.map fun b => ⟨b, 0, none⟩) t_1.length i_5 1 (by kernel_rfl) (by kernel_rfl) (ix_some hx_282).1 (ltn hx_282 rfl) (spo ho_157 hx_282) (jkO ?_))
        refine toO (by kernel_rfl) (p_ld 0 (aB (o_153.map fun b => ⟨b, 0, none⟩)) (aO (o_153.map fun b => ⟨b, 0, none⟩) + i_5.toNat * 1) false (encStr x_8) (by kernel_rfl) (by kernel_rfl) (by kernel_rfl) (fun w hm => ((hm.ownRow (hh := 1) (o := o_153) (T := 9) (enc := encStr) (xs := t_1) (sp := sp_155) (by kernel_rfl) (fun e => (ho_157 e).1) encStr_len).at hx_282)) (jkO ?_))
        refine jo_f [(0, 0)] (by kernel_rfl) ?_
        refine jo_end (by kernel_rfl) ?_
        refine jx_then ?_
        refine jc_seq ?_
        refine jc_region ?_
        refine jo_f [(0, 0)] (by kernel_rfl) ?_
        obtain ⟨t_9, ht_283, h⟩ := bd h
        refine toO (by kernel_rfl) (p_call 0 69 #[(.string x_8), (.string (ByteArray.mk #[43]))] (by kernel_rfl) (by kernel_rfl) (fun w hm => strings_CutPrefix.calls x_8 (ByteArray.mk #[43]) w _ ht_283) ?_)
        rintro w v w' hm ⟨rfl, hm'⟩
        refine ⟨_, hm.app hm', jkO ?_⟩
        clear hm hm'
        refine jo_f [(0, 0), (0, 0), (0, 0), (0, 0), (0, 0)] (by kernel_rfl) ?_
        refine jo_end (by kernel_rfl) ?_
        refine jx_then ?_
        refine jc_seq ?_
        refine jc_region ?_
        refine jo_f [(0, 0)] (by kernel_rfl) ?_
        obtain ⟨t_10, ht_284, h⟩ := bd h
        refine toO (by kernel_rfl) (p_call 0 69 #[(.string t_9.1), (.string (ByteArray.mk #[45]))] (by kernel_rfl) (by kernel_rfl) (fun w hm => strings_CutPrefix.calls t_9.1 (ByteArray.mk #[45]) w _ ht_284) ?_)
        rintro w v w' hm ⟨rfl, hm'⟩
        refine ⟨_, hm.app hm', jkO ?_⟩
        clear hm hm'
        refine jo_f [(0, 0), (0, 0), (0, 0), (0, 0), (0, 0)] (by kernel_rfl) ?_
        refine jo_end (by kernel_rfl) ?_
        refine jx_then ?_
        refine jc_seq ?_
        refine jc_region ?_
        refine jo_f [(0, 0)] (by kernel_rfl) ?_
        obtain ⟨t_11, ht_285, h⟩ := bd h
        refine toO (by kernel_rfl) (p_call 0 70 #[(.string t_10.1), (.string (ByteArray.mk #[47]))] (by kernel_rfl) (by kernel_rfl) (fun w hm => strings_Cut.calls t_10.1 (ByteArray.mk #[47]) w _ (g_ml.keep hm) ht_285) ?_)
        rintro w v w' hm ⟨rfl, hm'⟩
        refine ⟨_, hm.app hm', jkO ?_⟩
        clear hm hm'
        refine jo_f [(0, 0), (0, 0), (0, 0), (0, 0), (0, 0), (0, 0), (0, 0)] (by kernel_rfl) ?_
        refine jo_end (by kernel_rfl) ?_
        refine jx_then ?_
        refine jc_seq ?_
        refine jc_region ?_
        refine jo_f [(0, 0)] (by kernel_rfl) ?_
        obtain ⟨t_12, ht_286, h⟩ := bd h
        refine toO (by kernel_rfl) (p_call 0 71 #[(.string t_11.1), (.int .i64 95)] (by kernel_rfl) (by kernel_rfl) (fun w hm => impl_number.calls t_11.1 95 w _ (g_er.keep hm) (g_lo.keep hm) (g_pw.keep hm) ht_286) ?_)
        rintro w v w' hm ⟨rfl, hm'⟩
        refine ⟨_, hm.app hm', jkO ?_⟩
        clear hm hm'
        refine jo_f [(0, 0), (0, 0), (0, 0), (0, 0), (0, 0)] (by kernel_rfl) ?_
        refine jo_end (by kernel_rfl) ?_
        refine jx_then ?_
        refine jc_seq ?_
        refine jc_region ?_
        refine jo_f [(0, 0)] (by kernel_rfl) ?_
        obtain ⟨t_13, ht_287, h⟩ := bd h
        refine toO (by kernel_rfl) (p_call 0 71 #[(.string t_11.2.1), (.int .i64 23)] (by kernel_rfl) (by kernel_rfl) (fun w hm => impl_number.calls t_11.2.1 23 w _ (g_er.keep hm) (g_lo.keep hm) (g_pw.keep hm) ht_287) ?_)
        rintro w v w' hm ⟨rfl, hm'⟩
        refine ⟨_, hm.app hm', jkO ?_⟩
        clear hm hm'
        refine jo_f [(0, 0), (0, 0), (0, 0), (0, 0), (0, 0)] (by kernel_rfl) ?_
        refine jo_end (by kernel_rfl) ?_
        refine jx_then ?_
        refine jc_seq ?_
        refine jc_seq ?_
        refine jc_region ?_
        refine jo_f [(0, 0), (0, 0), (0, 0), (0, 0), (0, 1), (0, 1), (0, 0), (0, 0), (0, 1), (0, 1), (0, 0), (0, 0), (0, 1), (0, 1), (0, 1), (0, 0)] (by kernel_rfl) ?_
        refine jo_end (by kernel_rfl) ?_
        refine jx_then ?_
        refine jc_cond ((((t_9.2 == t_10.2) || (!t_12.2)) || (!t_13.2)) || ((xs_4.length : Int) == 2400)) (by kernel_rfl) (fun hc_289 => ?_) (fun hc_289 => ?_)
        · replace h := ifT hc_289 h
          refine jc_seq ?_
          refine jc_region ?_
          refine jo_f [(0, 0), (0, 0)] (by kernel_rfl) ?_
          refine jo_end (by kernel_rfl) ?_
          refine jx_then ?_
          refine jc_ret ?_
          refine jx_thenr ?_
          refine jx_inr ?_
          refine jx_thenr ?_
          refine jx_leaver (.inl ([], 5)) (Option.some.inj h).symm (fun e_290 => ?_)
          subst e_290
          refine jx_inr ?_
          refine jx_thenr ?_
          refine jx_thenr ?_
          obtain rfl := Option.some.inj hr_278
          refine jx_ghost 106 encGChange ?_
          exact jx_ret [] (.tuple #[(.slice none 0 0), (.int .i64 5)]) [] rfl (by kernel_rfl) (by kernel_rfl) (fun w hm => ⟨none, 0, [], 0, rfl, (fun e => absurd rfl e), (fun _ => ⟨rfl, rfl⟩), rfl, hm.pick [2] (by kernel_rfl) (by kernel_rfl)⟩)
        · replace h := ifF hc_289 h
          refine jc_skip ?_
          refine jx_then ?_
          refine jc_region ?_
          refine jo_f [(0, 0), (0, 0), (0, 0), (0, 0), (0, 0), (0, 0), (0, 0)] (by kernel_rfl) ?_
          refine toO (by kernel_rfl) (p_a 0 [0] (by kernel_rfl) (fun b => by kernel_rfl) (fun b_291 => jkO ?_))
          obtain ⟨hg_292, h⟩ := gd h
          refine toO (by kernel_rfl) (p_apn 0 0 o_272 106 xs_4.length 1 cap_273 3 4 (some ⟨b_291, 0, none⟩) encGChange xs_4 [(⟨(w16 t_12.1), (w8 t_13.1), t_9.2⟩ : GChange)] sp_274 (.agg #[(.int .i16 0), (.int .i8 0), (.bool false)]) rfl rfl (by kernel_rfl) (by kernel_rfl) (by kernel_rfl) encGChange_len encGChange_cell hs_276 ho_277 (fun w hm => (hm.ownRow (hh := 2) (o := (some b_291)) (T := 106) (enc := encGChange) (xs := [(⟨(w16 t_12.1), (w8 t_13.1), t_9.2⟩ : GChange)]) (sp := []) (by kernel_rfl) (fun e => nomatch e) encGChange_len)) hg_292 (by kernel_rfl) (by kernel_rfl) (fun o_293 cap_294 sp_295 hs_296 ho_297 => jkO ?_))
          refine jo_f [(0, 0)] (by kernel_rfl) ?_
          refine jo_end (by kernel_rfl) ?_
          refine jx_inn ?_
          refine jx_then ?_
          refine jc_region ?_
          refine jo_f [(0, 0), (0, 0)] (by kernel_rfl) ?_
          refine jo_end (by kernel_rfl) ?_
          exact jx_back ((xs_4 ++ [(⟨(w16 t_12.1), (w8 t_13.1), t_9.2⟩ : GChange)]), (w64 (i_5 + 1))) ⟨o_293, cap_294, sp_295, (xs_4 ++ [(⟨(w16 t_12.1), (w8 t_13.1), t_9.2⟩ : GChange)]).length⟩ (Option.some.inj h).symm ⟨rfl, hs_296, ho_297⟩ [0, 1] (by kernel_rfl) (by kernel_rfl) (by kernel_rfl)
      · replace h := ifF hc_281 h
        refine jc_exit ?_
        refine jx_thenx ?_
        refine jx_leave (.inr xs_4) (Option.some.inj h).symm (fun e_298 => ?_)
        subst e_298
        refine jx_ine ?_
        exact jx_meet ⟨xs_4, o_272, cap_273, sp_274, xs_4.length⟩ ⟨hr_278, rfl, hs_276, ho_277⟩ (by kernel_rfl) [0, 1] (by kernel_rfl) (by kernel_rfl)
    · rintro ⟨xs_2, o_226, cap_227, sp_228, n_229⟩ ⟨h, rfl, hs_230, ho_231⟩
      replace h : impl_ReadChanges.k_3 xs_2 = some r := h
      rw [impl_ReadChanges.k_3] at h
      refine jx_then ?_
      refine jc_seq ?_
      refine jc_region ?_
      refine jo_f [(0, 0), (0, 0), (0, 0)] (by kernel_rfl) ?_
      refine jo_end (by kernel_rfl) ?_
      refine jx_then ?_
      refine jc_ret ?_
      obtain rfl := Option.some.inj h
      exact jx_ret [] (.tuple #[(.slice (o_226.map fun b => ⟨b, 0, none⟩) xs_2.length cap_227), (.int .i64 0)]) [] rfl (by kernel_rfl) (by kernel_rfl) (fun w hm => ⟨o_226, cap_227, sp_228, xs_2.length, rfl, hs_230, ho_231, rfl, hm.pick [0] (by kernel_rfl) (by kernel_rfl)⟩)

/-! ### impl.firstOf -/
noncomputable def impl_firstOf.k_1 : Option (Int) := some 0
noncomputable def impl_firstOf.l_3 (codes0 : List Int) : Int → Option ((Int) ⊕ (Int ⊕ Unit))
  | i_2 => (if (decide (i_2 < (codes0.length : Int))) = true then (ix codes0 i_2).bind fun x_5 => (if (x_5 != 0) = true then some (.inr (.inl x_5)) else some (.inl (w64 (i_2 + 1)))) else some (.inr (.inr ())))
noncomputable def impl_firstOf (codes0 : List Int) : Option (Int) := (loop (impl_firstOf.l_3 codes0) 0).bind fun t_4 => match t_4 with | .inl p => some p | .inr p => impl_firstOf.k_1
set_option maxRecDepth 100000 in
theorem impl_firstOf.calls (codes0 : List Int) (w : World) (r : Int) (codes0_a : Option Addr) (codes0_an : Nat) (codes0_c : Nat) (codes0_h : Rw w codes0_a 1 encI64 codes0) (codes0_hn : codes0.length = codes0_an) (h : impl_firstOf codes0 = some r) :
    Calls Tryz.prog 133 #[(.slice codes0_a codes0_an codes0_c)] w fun e w' => ∃ v, e = .returned v ∧ (v = (.int .i64 r) ∧ Mem w [] [] w') := by
  subst codes0_hn
  rw [impl_firstOf] at h
  refine enter (args := [(.slice codes0_a codes0.length codes0_c)]) Tryz.func133 rfl Tryz.ntmps133 (by kernel_rfl) (L := []) (W := []) (Mem.start w) ?_
  refine jc_seq ?_
  refine jc_region ?_
  refine jo_f [(0, 0)] (by kernel_rfl) ?_
  refine jo_end (by kernel_rfl) ?_
  refine jx_then ?_
  refine jc_seq ?_
  refine jc_seq ?_
  refine jc_region ?_
  refine jo_f [(0, 0), (0, 0), (0, 0)] (by kernel_rfl) ?_
  refine jo_end (by kernel_rfl) ?_
  refine jx_then ?_
  refine jc_meet (fun (_ : Unit) => impl_firstOf.k_1 = some r) (fun (_ : Unit) => [(2, [], (.int .i64 0))]) (fun (_ : Unit) => []) ?_ ?_
  · refine jc_block ?_
    obtain ⟨t_4, ht_34, hr_26⟩ := bd h
    refine jc_loop (fun (s : Int) (x : Unit) => match s, x with | i_2, _ => True) (fun (s : Int) (x : Unit) => match s, x with | i_2, _ => [(2, [], (.int .i64 0)), (5, [], (.slice codes0_a codes0.length codes0_c)), (6, [], (.int .i64 (codes0.length : Int))), (7, [], (.int .i64 i_2))]) (fun (s : Int) (x : Unit) => match s, x with | i_2, _ => []) ht_34 () trivial (by kernel_rfl) [] (by kernel_rfl) (by kernel_rfl) ?_
    rintro i_2 _ y_27 _ h
    rw [impl_firstOf.l_3] at h
    refine jc_seq ?_
    refine jc_region ?_
    refine jo_f [(0, 0)] (by kernel_rfl) ?_
    refine jo_end (by kernel_rfl) ?_
    refine jx_then ?_
    refine jc_seq ?_
    refine jc_cond (decide (i_2 < (codes0.length : Int))) (by kernel_rfl) (fun hc_29 => ?_) (fun hc_29 => ?_)
    · replace h := ifT hc_29 h
      refine jc_skip ?_
      refine jx_then ?_
      refine jc_seq ?_
      refine jc_block ?_
      refine jc_seq ?_
      refine jc_region ?_
      obtain ⟨x_5, hx_30, h⟩ := bd h
      refine toO (by kernel_rfl) (p_idx 0 codes0_a codes0.length i_2 1 (by kernel_rfl) (by kernel_rfl) (ix_some hx_30).1 (ltn hx_30 rfl) (codes0_h.sp hx_30) (jkO ?_))
      refine toO (by kernel_rfl) (p_ld 0 (aB codes0_a) (aO codes0_a + i_2.toNat * 1) false (encI64 x_5) (by kernel_rfl) (by kernel_rfl) (by kernel_rfl) (fun w hm => ((hm.exRow codes0_h List.not_mem_nil).at hx_30)) (jkO ?_))
      refine jo_f [(0, 0)] (by kernel_rfl) ?_
      refine jo_end (by kernel_rfl) ?_
      refine jx_then ?_
      refine jc_seq ?_
      refine jc_region ?_
      refine jo_f [(0, 0), (0, 0)] (by kernel_rfl) ?_
      refine jo_end (by kernel_rfl) ?_
      refine jx_then ?_
      refine jc_cond (x_5 != 0) (by kernel_rfl) (fun hc_31 => ?_) (fun hc_31 => ?_)
      · replace h := ifT hc_31 h
        refine jc_seq ?_
        refine jc_region ?_
        refine jo_f [(0, 0), (0, 0)] (by kernel_rfl) ?_
        refine jo_end (by kernel_rfl) ?_
        refine jx_then ?_
        refine jc_ret ?_
        refine jx_inr ?_
        refine jx_thenr ?_
        refine jx_leaver (.inl x_5) (Option.some.inj h).symm (fun e_32 => ?_)
        subst e_32
        refine jx_inr ?_
        refine jx_thenr ?_
        refine jx_thenr ?_
        obtain rfl := Option.some.inj hr_26
        exact jx_ret [] (.int .i64 x_5) [] rfl (by kernel_rfl) (by kernel_rfl) (fun w hm => ⟨rfl, hm.pick [] (by kernel_rfl) (by kernel_rfl)⟩)
      · replace h := ifF hc_31 h
        refine jc_skip ?_
        refine jx_inn ?_
        refine jx_then ?_
        refine jc_region ?_
        refine jo_f [(0, 0), (0, 0)] (by kernel_rfl) ?_
        refine jo_end (by kernel_rfl) ?_
        exact jx_back (w64 (i_2 + 1)) () (Option.some.inj h).symm trivial [] (by kernel_rfl) (by kernel_rfl) (by kernel_rfl)
    · replace h := ifF hc_29 h
      refine jc_exit ?_
      refine jx_thenx ?_
      refine jx_leave (.inr ()) (Option.some.inj h).symm (fun e_33 => ?_)
      subst e_33
      refine jx_ine ?_
      exact jx_meet () hr_26 (by kernel_rfl) [] (by kernel_rfl) (by kernel_rfl)
  · rintro _ h
    replace h : impl_firstOf.k_1 = some r := h
    rw [impl_firstOf.k_1] at h
    refine jx_then ?_
    refine jc_seq ?_
    refine jc_region ?_
    refine jo_f [(0, 0)] (by kernel_rfl) ?_
    refine jo_end (by kernel_rfl) ?_
    refine jx_then ?_
    refine jc_ret ?_
    obtain rfl := Option.some.inj h
    exact jx_ret [] (.int .i64 0) [] rfl (by kernel_rfl) (by kernel_rfl) (fun w hm => ⟨rfl, hm.pick [] (by kernel_rfl) (by kernel_rfl)⟩)

/-! ### impl.changesCode -/
noncomputable def impl_changesCode (f0 : GFrame) (d1 : Arr 96 Int) (list2 : List GChange) : Option (Int) := (impl_drumCode f0 [d1]).bind fun t_1 => (impl_unless (decide ((list2.length : Int) ≤ 2400)) 3).bind fun t_2 => (impl_firstOf [t_1, t_2]).bind fun t_3 => some t_3
set_option maxRecDepth 100000 in
theorem impl_changesCode.calls (f0 : GFrame) (d1 : Arr 96 Int) (list2 : List GChange) (w : World) (r : Int) (f0_fHammers_a : Option Addr) (f0_fHammers_an : Nat) (f0_fHammers_c : Nat) (f0_fHammers_h : Rw w f0_fHammers_a 2 encGHammer f0.fHammers) (f0_fHammers_hn : f0.fHammers.length = f0_fHammers_an) (list2_a : Option Addr) (list2_an : Nat) (list2_c : Nat) (list2_h : Rw w list2_a 3 encGChange list2) (list2_hn : list2.length = list2_an) (h : impl_changesCode f0 d1 list2 = some r) :
    Calls Tryz.prog 77 #[(.agg #[(.int .i16 f0.fSteps), (.slice f0_fHammers_a f0_fHammers_an f0_fHammers_c)]), (.agg (row encU32 d1.1 []).toArray), (.slice list2_a list2_an list2_c)] w fun e w' => ∃ v, e = .returned v ∧ (v = (.int .i64 r) ∧ Mem w [] [] w') := by
  subst f0_fHammers_hn list2_hn
  rw [impl_changesCode] at h
  refine enter (args := [(.agg #[(.int .i16 f0.fSteps), (.slice f0_fHammers_a f0.fHammers.length f0_fHammers_c)]), (.agg (row encU32 d1.1 []).toArray), (.slice list2_a list2.length list2_c)]) Tryz.func77 rfl Tryz.ntmps77 (by kernel_rfl) (L := []) (W := []) (Mem.start w) ?_
  refine jc_seq ?_
  refine jc_region ?_
  refine toO (by kernel_rfl) (p_a 0 [0] (by kernel_rfl) (fun b => by kernel_rfl) (fun b_1 => jkO ?_))
  refine toO (by kernel_rfl) (p_a 0 [0] (by kernel_rfl) (fun b => by kernel_rfl) (fun b_2 => jkO ?_))
  refine jo_f [(0, 0)] (by kernel_rfl) ?_
  refine jo_end (by kernel_rfl) ?_
  refine jx_then ?_
  refine jc_seq ?_
  refine jc_region ?_
  refine jo_f [(0, 0)] (by kernel_rfl) ?_
  refine toO (by kernel_rfl) (p_ldA 0 1 b_2 96 1 31 encU32 d1 (by kernel_rfl) (by kernel_rfl) (by kernel_rfl) encU32_len (by kernel_rfl) (jkO ?_))
  refine toO (by kernel_rfl) (p_bs 0 31 96 1 encA96U32 [(.agg (row encU32 d1.1 []).toArray)] [d1] (by kernel_rfl) (by kernel_rfl) rfl (by kernel_rfl) (by kernel_rfl) encA96U32_len (fun b_3 => jkO ?_))
  obtain ⟨t_1, ht_4, h⟩ := bd h
  refine toO (by kernel_rfl) (p_call 0 81 #[(.agg #[(.int .i16 f0.fSteps), (.slice f0_fHammers_a f0.fHammers.length f0_fHammers_c)]), (.slice (some ⟨b_3, 0, none⟩) 1 1)] (by kernel_rfl) (by kernel_rfl) (fun w hm => impl_drumCode.calls f0 [d1] w _ f0_fHammers_a f0.fHammers.length f0_fHammers_c (hm.exRow f0_fHammers_h List.not_mem_nil) rfl (some ⟨b_3, 0, none⟩) 1 1 (hm.ownRow (hh := 2) (o := (some b_3)) (T := 31) (enc := encA96U32) (xs := [d1]) (sp := []) (by kernel_rfl) (fun e => nomatch e) encA96U32_len) rfl ht_4) ?_)
  rintro w v w' hm ⟨rfl, hm'⟩
  refine ⟨_, hm.app hm', jkO ?_⟩
  clear hm hm'
  refine jo_f [(0, 0), (0, 0), (0, 0)] (by kernel_rfl) ?_
  obtain ⟨t_2, ht_5, h⟩ := bd h
  refine toO (by kernel_rfl) (p_call 0 164 #[(.bool (decide ((list2.length : Int) ≤ 2400))), (.int .i64 3)] (by kernel_rfl) (by kernel_rfl) (fun w hm => impl_unless.calls (decide ((list2.length : Int) ≤ 2400)) 3 w _ ht_5) ?_)
  rintro w v w' hm ⟨rfl, hm'⟩
  refine ⟨_, hm.app hm', jkO ?_⟩
  clear hm hm'
  refine toO (by kernel_rfl) (p_a 0 [0] (by kernel_rfl) (fun b => by kernel_rfl) (fun b_6 => jkO ?_))
  obtain ⟨t_3, ht_7, h⟩ := bd h
  refine toO (by kernel_rfl) (p_call 0 133 #[(.slice (some ⟨b_6, 0, none⟩) 2 2)] (by kernel_rfl) (by kernel_rfl) (fun w hm => impl_firstOf.calls [t_1, t_2] w _ (some ⟨b_6, 0, none⟩) 2 2 (hm.ownRow (hh := 3) (o := (some b_6)) (T := 2) (enc := encI64) (xs := [t_1, t_2]) (sp := []) (by kernel_rfl) (fun e => nomatch e) encI64_len) rfl ht_7) ?_)
  rintro w v w' hm ⟨rfl, hm'⟩
  refine ⟨_, hm.app hm', jkO ?_⟩
  clear hm hm'
  refine jo_f [(0, 0)] (by kernel_rfl) ?_
  refine jo_end (by kernel_rfl) ?_
  refine jx_then ?_
  refine jc_ret ?_
  obtain rfl := Option.some.inj h
  exact jx_ret [] (.int .i64 t_3) [] rfl (by kernel_rfl) (by kernel_rfl) (fun w hm => ⟨rfl, hm.pick [] (by kernel_rfl) (by kernel_rfl)⟩)

/-! ### (impl.Frame).isPlace -/
noncomputable def impl_Frame_isPlace (f0 : GFrame) (step1 : Int) (track2 : Int) : Option (Bool) := (impl_within step1 0 (w64 ((w64 f0.fSteps) - 1))).bind fun t_1 => (if t_1 = true then (impl_size_Hammer f0.fHammers).bind fun t_2 => (impl_within track2 0 (w64 (t_2 - 1))).bind fun t_3 => some t_3 else some false)
set_option maxRecDepth 100000 in
theorem impl_Frame_isPlace.calls (f0 : GFrame) (step1 : Int) (track2 : Int) (w : World) (r : Bool) (f0_fHammers_a : Option Addr) (f0_fHammers_an : Nat) (f0_fHammers_c : Nat) (f0_fHammers_h : Rw w f0_fHammers_a 2 encGHammer f0.fHammers) (f0_fHammers_hn : f0.fHammers.length = f0_fHammers_an) (h : impl_Frame_isPlace f0 step1 track2 = some r) :
    Calls Tryz.prog 103 #[(.agg #[(.int .i16 f0.fSteps), (.slice f0_fHammers_a f0_fHammers_an f0_fHammers_c)]), (.int .i64 step1), (.int .i64 track2)] w fun e w' => ∃ v, e = .returned v ∧ (v = (.bool r) ∧ Mem w [] [] w') := by
  subst f0_fHammers_hn
  rw [impl_Frame_isPlace] at h
  refine enter (args := [(.agg #[(.int .i16 f0.fSteps), (.slice f0_fHammers_a f0.fHammers.length f0_fHammers_c)]), (.int .i64 step1), (.int .i64 track2)]) Tryz.func103 rfl Tryz.ntmps103 (by kernel_rfl) (L := []) (W := []) (Mem.start w) ?_
  refine jc_seq ?_
  refine jc_region ?_
  refine toO (by kernel_rfl) (p_a 0 [0] (by kernel_rfl) (fun b => by kernel_rfl) (fun b_1 => jkO ?_))
  refine jo_f [(0, 0)] (by kernel_rfl) ?_
  refine jo_end (by kernel_rfl) ?_
  refine jx_then ?_
  refine jc_seq ?_
  refine jc_region ?_
  refine jo_f [(0, 0), (0, 0), (0, 0), (0, 0), (0, 0)] (by kernel_rfl) ?_
  obtain ⟨t_1, ht_2, h⟩ := bd h
  refine toO (by kernel_rfl) (p_call 0 74 #[(.int .i64 step1), (.int .i64 0), (.int .i64 (w64 ((w64 f0.fSteps) - 1)))] (by kernel_rfl) (by kernel_rfl) (fun w hm => impl_within.calls step1 0 (w64 ((w64 f0.fSteps) - 1)) w _ ht_2) ?_)
  rintro w v w' hm ⟨rfl, hm'⟩
  refine ⟨_, hm.app hm', jkO ?_⟩
  clear hm hm'
  refine jo_f [(0, 0), (0, 1), (0, 1), (0, 1)] (by kernel_rfl) ?_
  refine jo_split 13 t_1 (by kernel_rfl) (fun hc_3 => ?_) (fun hc_3 => ?_)
  · replace h := ifT hc_3 h
    obtain ⟨t_2, ht_4, h⟩ := bd h
    refine toO (by kernel_rfl) (p_call 2 181 #[(.slice f0_fHammers_a f0.fHammers.length f0_fHammers_c)] (by kernel_rfl) (by kernel_rfl) (fun w hm => impl_size_Hammer.calls f0.fHammers w _ f0_fHammers_a f0.fHammers.length f0_fHammers_c (hm.exRow f0_fHammers_h List.not_mem_nil) rfl ht_4) ?_)
    rintro w v w' hm ⟨rfl, hm'⟩
    refine ⟨_, hm.app hm', jkO ?_⟩
    clear hm hm'
    refine jo_f [(0, 2)] (by kernel_rfl) ?_
    obtain ⟨t_3, ht_5, h⟩ := bd h
    refine toO (by kernel_rfl) (p_call 2 74 #[(.int .i64 track2), (.int .i64 0), (.int .i64 (w64 (t_2 - 1)))] (by kernel_rfl) (by kernel_rfl) (fun w hm => impl_within.calls track2 0 (w64 (t_2 - 1)) w _ ht_5) ?_)
    rintro w v w' hm ⟨rfl, hm'⟩
    refine ⟨_, hm.app hm', jkO ?_⟩
    clear hm hm'
    refine jo_f [(0, 4), (0, 0)] (by kernel_rfl) ?_
    refine jo_end (by kernel_rfl) ?_
    refine jx_then ?_
    refine jc_ret ?_
    obtain rfl := Option.some.inj h
    exact jx_ret [] (.bool t_3) [] rfl (by kernel_rfl) (by kernel_rfl) (fun w hm => ⟨rfl, hm.pick [] (by kernel_rfl) (by kernel_rfl)⟩)
  · replace h := ifF hc_3 h
    refine jo_f [(0, 3), (0, 3), (0, 3), (0, 5), (0, 0)] (by kernel_rfl) ?_
    refine jo_end (by kernel_rfl) ?_
    refine jx_then ?_
    refine jc_ret ?_
    obtain rfl := Option.some.inj h
    exact jx_ret [] (.bool false) [] rfl (by kernel_rfl) (by kernel_rfl) (fun w hm => ⟨rfl, hm.pick [] (by kernel_rfl) (by kernel_rfl)⟩)

/-! ### impl.placeCode -/
noncomputable def impl_placeCode (f0 : GFrame) (d1 : Arr 96 Int) (step2 : Int) (track3 : Int) : Option (Int) := (impl_drumCode f0 [d1]).bind fun t_1 => (impl_Frame_isPlace f0 step2 track3).bind fun t_2 => (impl_unless t_2 2).bind fun t_3 => (impl_firstOf [t_1, t_3]).bind fun t_4 => some t_4
set_option maxRecDepth 100000 in
theorem impl_placeCode.calls (f0 : GFrame) (d1 : Arr 96 Int) (step2 : Int) (track3 : Int) (w : World) (r : Int) (f0_fHammers_a : Option Addr) (f0_fHammers_an : Nat) (f0_fHammers_c : Nat) (f0_fHammers_h : Rw w f0_fHammers_a 2 encGHammer f0.fHammers) (f0_fHammers_hn : f0.fHammers.length = f0_fHammers_an) (h : impl_placeCode f0 d1 step2 track3 = some r) :
    Calls Tryz.prog 87 #[(.agg #[(.int .i16 f0.fSteps), (.slice f0_fHammers_a f0_fHammers_an f0_fHammers_c)]), (.agg (row encU32 d1.1 []).toArray), (.int .i64 step2), (.int .i64 track3)] w fun e w' => ∃ v, e = .returned v ∧ (v = (.int .i64 r) ∧ Mem w [] [] w') := by
  subst f0_fHammers_hn
  rw [impl_placeCode] at h
  refine enter (args := [(.agg #[(.int .i16 f0.fSteps), (.slice f0_fHammers_a f0.fHammers.length f0_fHammers_c)]), (.agg (row encU32 d1.1 []).toArray), (.int .i64 step2), (.int .i64 track3)]) Tryz.func87 rfl Tryz.ntmps87 (by kernel_rfl) (L := []) (W := []) (Mem.start w) ?_
  refine jc_seq ?_
  refine jc_region ?_
  refine toO (by kernel_rfl) (p_a 0 [0] (by kernel_rfl) (fun b => by kernel_rfl) (fun b_1 => jkO ?_))
  refine toO (by kernel_rfl) (p_a 0 [0] (by kernel_rfl) (fun b => by kernel_rfl) (fun b_2 => jkO ?_))
  refine jo_f [(0, 0)] (by kernel_rfl) ?_
  refine jo_end (by kernel_rfl) ?_
  refine jx_then ?_
  refine jc_seq ?_
  refine jc_draw [⟨some b_1, 27, [(.int .i16 f0.fSteps), (.slice f0_fHammers_a f0.fHammers.length f0_fHammers_c)]⟩, ⟨(some b_2), 31, row encU32 d1.1 []⟩] 12 (by kernel_rfl) (by kernel_rfl) ?_
  refine jd_f [⟨0, 0, 0⟩, ⟨4, 0, 0⟩, ⟨5, 0, 0⟩, ⟨6, 0, 0⟩] 8 (by kernel_rfl) (by kernel_rfl) (fun w h => h.pick [0, 1] (by kernel_rfl) (by kernel_rfl)) (by kernel_rfl) (by kernel_rfl) ?_
  refine jd_v 1 0 (by kernel_rfl) (fun w h => h.pick [0, 1] (by kernel_rfl) (by kernel_rfl)) (by kernel_rfl) (by kernel_rfl) _ (fun w hm => ld_run (b := b_2) (off := 0) (s := 96) (agg := true) (vs := row encU32 d1.1 []) (by kernel_rfl) ((row_len encU32_len d1).trans rfl) (.inl rfl) (hm.all (hh := 1) (T := 31) (by kernel_rfl))) ?_
  refine toD 2 (by kernel_rfl) (p_bs 0 31 96 1 encA96U32 [(.agg (row encU32 d1.1 []).toArray)] [d1] (by kernel_rfl) (by kernel_rfl) rfl (by kernel_rfl) (by kernel_rfl) encA96U32_len (fun b_3 => jkD (fun w h => h.pick [0, 1] (by kernel_rfl) (by kernel_rfl)) ?_))
  obtain ⟨t_1, ht_4, h⟩ := bd h
  refine toD 3 (by kernel_rfl) (p_call 0 81 #[(.agg #[(.int .i16 f0.fSteps), (.slice f0_fHammers_a f0.fHammers.length f0_fHammers_c)]), (.slice (some ⟨b_3, 0, none⟩) 1 1)] (by kernel_rfl) (by kernel_rfl) (fun w hm => impl_drumCode.calls f0 [d1] w _ f0_fHammers_a f0.fHammers.length f0_fHammers_c (hm.exRow f0_fHammers_h List.not_mem_nil) rfl (some ⟨b_3, 0, none⟩) 1 1 (hm.ownRow (hh := 2) (o := (some b_3)) (T := 31) (enc := encA96U32) (xs := [d1]) (sp := []) (by kernel_rfl) (fun e => nomatch e) encA96U32_len) rfl ht_4) ?_)
  rintro w v w' hm ⟨rfl, hm'⟩
  refine ⟨_, hm.app hm', jkD (fun w h => h.pick [0, 1] (by kernel_rfl) (by kernel_rfl)) ?_⟩
  clear hm hm'
  obtain ⟨t_2, ht_5, h⟩ := bd h
  refine toD 7 (by kernel_rfl) (p_call 0 103 #[(.agg #[(.int .i16 f0.fSteps), (.slice f0_fHammers_a f0.fHammers.length f0_fHammers_c)]), (.int .i64 step2), (.int .i64 track3)] (by kernel_rfl) (by kernel_rfl) (fun w hm => impl_Frame_isPlace.calls f0 step2 track3 w _ f0_fHammers_a f0.fHammers.length f0_fHammers_c (hm.exRow f0_fHammers_h List.not_mem_nil) rfl ht_5) ?_)
  rintro w v w' hm ⟨rfl, hm'⟩
  refine ⟨_, hm.app hm', jkD (fun w h => h.pick [0, 1] (by kernel_rfl) (by kernel_rfl)) ?_⟩
  clear hm hm'
  obtain ⟨t_3, ht_6, h⟩ := bd h
  refine toD 8 (by kernel_rfl) (p_call 0 164 #[(.bool t_2), (.int .i64 2)] (by kernel_rfl) (by kernel_rfl) (fun w hm => impl_unless.calls t_2 2 w _ ht_6) ?_)
  rintro w v w' hm ⟨rfl, hm'⟩
  refine ⟨_, hm.app hm', jkD (fun w h => h.pick [0, 1] (by kernel_rfl) (by kernel_rfl)) ?_⟩
  clear hm hm'
  refine toD 9 (by kernel_rfl) (p_a 0 [0] (by kernel_rfl) (fun b => by kernel_rfl) (fun b_7 => jkD (fun w h => h.pick [0, 1] (by kernel_rfl) (by kernel_rfl)) ?_))
  obtain ⟨t_4, ht_8, h⟩ := bd h
  refine toD 10 (by kernel_rfl) (p_call 0 133 #[(.slice (some ⟨b_7, 0, none⟩) 2 2)] (by kernel_rfl) (by kernel_rfl) (fun w hm => impl_firstOf.calls [t_1, t_3] w _ (some ⟨b_7, 0, none⟩) 2 2 (hm.ownRow (hh := 3) (o := (some b_7)) (T := 2) (enc := encI64) (xs := [t_1, t_3]) (sp := []) (by kernel_rfl) (fun e => nomatch e) encI64_len) rfl ht_8) ?_)
  rintro w v w' hm ⟨rfl, hm'⟩
  refine ⟨_, hm.app hm', jkD (fun w h => h.pick [0, 1] (by kernel_rfl) (by kernel_rfl)) ?_⟩
  clear hm hm'
  refine jd_f [⟨11, 0, 0⟩] 0 (by kernel_rfl) (by kernel_rfl) (fun w h => h.pick [0, 1] (by kernel_rfl) (by kernel_rfl)) (by kernel_rfl) (by kernel_rfl) ?_
  refine jd_end (by kernel_rfl) ?_
  refine jx_then ?_
  refine jc_ret ?_
  obtain rfl := Option.some.inj h
  exact jx_ret [] (.int .i64 t_4) [] rfl (by kernel_rfl) (by kernel_rfl) (fun w hm => ⟨rfl, hm.pick [] (by kernel_rfl) (by kernel_rfl)⟩)

/-! ### (*impl.Drum).put -/
noncomputable def impl_Drum_put (d0 : Arr 96 Int) (step1 : Int) (track2 : Int) (on3 : Bool) : Option ((Arr 96 Int)) := (ix d0.1 step1).bind fun x_1 => (if 0 ≤ track2 then (ix d0.1 step1).bind fun x_2 => (if on3 = true then (ix ((Arr.set d0 step1 (bClr .u32 x_1 (bShl .u32 1 track2))).1) step1).bind fun x_3 => (if 0 ≤ track2 then (ix ((Arr.set d0 step1 (bClr .u32 x_1 (bShl .u32 1 track2))).1) step1).bind fun x_4 => some (Arr.set (Arr.set d0 step1 (bClr .u32 x_1 (bShl .u32 1 track2))) step1 (bOr .u32 x_3 (bShl .u32 1 track2))) else none) else some (Arr.set d0 step1 (bClr .u32 x_1 (bShl .u32 1 track2)))) else none)
set_option maxRecDepth 100000 in
theorem impl_Drum_put.calls (d0 : Arr 96 Int) (step1 : Int) (track2 : Int) (on3 : Bool) (w : World) (r : (Arr 96 Int)) (d0_b : Nat) (hm0 : Mem w (bs [some d0_b]) [⟨(some d0_b), 31, row encU32 d0.1 []⟩] w) (h : impl_Drum_put d0 step1 track2 on3 = some r) :
    Calls Tryz.prog 105 #[(.pointer (some ⟨d0_b, 0, none⟩)), (.int .i64 step1), (.int .i64 track2), (.bool on3)] w fun e w' => ∃ v, e = .returned v ∧ (v = .tuple #[] ∧ Mem w (bs [some d0_b]) [⟨(some d0_b), 31, row encU32 r.1 []⟩] w') := by
  rw [impl_Drum_put] at h
  refine enter (args := [(.pointer (some ⟨d0_b, 0, none⟩)), (.int .i64 step1), (.int .i64 track2), (.bool on3)]) Tryz.func105 rfl Tryz.ntmps105 (by kernel_rfl) (L := [⟨(some d0_b), 31, row encU32 d0.1 []⟩]) (W := bs [some d0_b]) hm0 ?_
  refine jc_seq ?_
  refine jc_draw [] 11 (by kernel_rfl) (by kernel_rfl) ?_
  refine jd_f [⟨0, 0, 0⟩, ⟨1, 0, 0⟩, ⟨2, 0, 0⟩, ⟨5, 0, 0⟩, ⟨8, 0, 0⟩] 6 (by kernel_rfl) (by kernel_rfl) (fun w h => h.pick [] (by kernel_rfl) (by kernel_rfl)) (by kernel_rfl) (by kernel_rfl) ?_
  obtain ⟨x_1, hx_4, h⟩ := bd h
  refine jd_v 3 0 (by kernel_rfl) (fun w h => h.pick [] (by kernel_rfl) (by kernel_rfl)) (by kernel_rfl) (by kernel_rfl) _ (fun w hm => idx_run (a := (some ⟨d0_b, 0, none⟩)) (len := 96) (s := 1) (j := step1) (by kernel_rfl) (ix_some hx_4).1 (ltn hx_4 d0.2) rfl) ?_
  refine toD2 4 6 (by kernel_rfl) ?_ ?_
  · refine p_ld 0 (aB (some ⟨d0_b, 0, none⟩)) (aO (some ⟨d0_b, 0, none⟩) + step1.toNat * 1) false (encU32 x_1) (by kernel_rfl) (by kernel_rfl) (by kernel_rfl) (fun w hm => ((hm.ownRow (hh := 0) (o := (some d0_b)) (T := 31) (enc := encU32) (xs := d0.1) (sp := []) (by kernel_rfl) (fun e => nomatch e) encU32_len).at hx_4)) (jkD (fun w h => h.pick [] (by kernel_rfl) (by kernel_rfl)) ?_)
    obtain ⟨hg_5, h⟩ := gd h
    refine toD 6 (by kernel_rfl) (p_shl 0 .u32 1 .i64 track2 (by kernel_rfl) (by kernel_rfl) hg_5 (jkD (fun w h => h.pick [] (by kernel_rfl) (by kernel_rfl)) ?_))
    refine jd_f [⟨7, 0, 0⟩] 2 (by kernel_rfl) (by kernel_rfl) (fun w h => h.pick [] (by kernel_rfl) (by kernel_rfl)) (by kernel_rfl) (by kernel_rfl) ?_
    obtain ⟨x_2, hx_6, h⟩ := bd h
    refine jd_v 9 0 (by kernel_rfl) (fun w h => h.pick [] (by kernel_rfl) (by kernel_rfl)) (by kernel_rfl) (by kernel_rfl) _ (fun w hm => idx_run (a := (some ⟨d0_b, 0, none⟩)) (len := 96) (s := 1) (j := step1) (by kernel_rfl) (ix_some hx_6).1 (ltn hx_6 d0.2) rfl) ?_
    refine toD 10 (by kernel_rfl) (p_str 0 0 d0_b 31 encU32 d0.1 [] step1 (bClr .u32 x_1 (bShl .u32 1 track2)) 1 0 [(.int .u32 (bClr .u32 x_1 (bShl .u32 1 track2)))] (by kernel_rfl) (by kernel_rfl) (by kernel_rfl) encU32_len hx_6 (by kernel_rfl) (by kernel_rfl) (jkD (fun w h => h.pick [] (by kernel_rfl) (by kernel_rfl)) ?_))
    refine jd_end (by kernel_rfl) ?_
    refine jx_then ?_
    refine jc_seq ?_
    refine jc_region ?_
    refine jo_f [(0, 0)] (by kernel_rfl) ?_
    refine jo_end (by kernel_rfl) ?_
    refine jx_then ?_
    refine jc_cond on3 (by kernel_rfl) (fun hc_7 => ?_) (fun hc_7 => ?_)
    · replace h := ifT hc_7 h
      refine jc_draw [] 11 (by kernel_rfl) (by kernel_rfl) ?_
      refine jd_f [⟨0, 0, 0⟩, ⟨1, 0, 0⟩, ⟨2, 0, 0⟩, ⟨5, 0, 0⟩, ⟨8, 0, 0⟩] 6 (by kernel_rfl) (by kernel_rfl) (fun w h => h.pick [] (by kernel_rfl) (by kernel_rfl)) (by kernel_rfl) (by kernel_rfl) ?_
      obtain ⟨x_3, hx_11, h⟩ := bd h
      refine jd_v 3 0 (by kernel_rfl) (fun w h => h.pick [] (by kernel_rfl) (by kernel_rfl)) (by kernel_rfl) (by kernel_rfl) _ (fun w hm => idx_run (a := (some ⟨d0_b, 0, none⟩)) (len := 96) (s := 1) (j := step1) (by kernel_rfl) (ix_some hx_11).1 (ltn hx_11 (Arr.set d0 step1 (bClr .u32 x_1 (bShl .u32 1 track2))).2) rfl) ?_
      refine toD2 4 6 (by kernel_rfl) ?_ ?_
      · refine p_ld 0 (aB (some ⟨d0_b, 0, none⟩)) (aO (some ⟨d0_b, 0, none⟩) + step1.toNat * 1) false (encU32 x_3) (by kernel_rfl) (by kernel_rfl) (by kernel_rfl) (fun w hm => ((hm.ownRow (hh := 0) (o := (some d0_b)) (T := 31) (enc := encU32) (xs := ((Arr.set d0 step1 (bClr .u32 x_1 (bShl .u32 1 track2))).1)) (sp := []) (by kernel_rfl) (fun e => nomatch e) encU32_len).at hx_11)) (jkD (fun w h => h.pick [] (by kernel_rfl) (by kernel_rfl)) ?_)
        obtain ⟨hg_12, h⟩ := gd h
        refine toD 6 (by kernel_rfl) (p_shl 0 .u32 1 .i64 track2 (by kernel_rfl) (by kernel_rfl) hg_12 (jkD (fun w h => h.pick [] (by kernel_rfl) (by kernel_rfl)) ?_))
        refine jd_f [⟨7, 0, 0⟩] 2 (by kernel_rfl) (by kernel_rfl) (fun w h => h.pick [] (by kernel_rfl) (by kernel_rfl)) (by kernel_rfl) (by kernel_rfl) ?_
        obtain ⟨x_4, hx_13, h⟩ := bd h
        refine jd_v 9 0 (by kernel_rfl) (fun w h => h.pick [] (by kernel_rfl) (by kernel_rfl)) (by kernel_rfl) (by kernel_rfl) _ (fun w hm => idx_run (a := (some ⟨d0_b, 0, none⟩)) (len := 96) (s := 1) (j := step1) (by kernel_rfl) (ix_some hx_13).1 (ltn hx_13 (Arr.set d0 step1 (bClr .u32 x_1 (bShl .u32 1 track2))).2) rfl) ?_
        refine toD 10 (by kernel_rfl) (p_str 0 0 d0_b 31 encU32 ((Arr.set d0 step1 (bClr .u32 x_1 (bShl .u32 1 track2))).1) [] step1 (bOr .u32 x_3 (bShl .u32 1 track2)) 1 0 [(.int .u32 (bOr .u32 x_3 (bShl .u32 1 track2)))] (by kernel_rfl) (by kernel_rfl) (by kernel_rfl) encU32_len hx_13 (by kernel_rfl) (by kernel_rfl) (jkD (fun w h => h.pick [] (by kernel_rfl) (by kernel_rfl)) ?_))
        refine jd_end (by kernel_rfl) ?_
        refine jx_fall ?_
        obtain rfl := Option.some.inj h
        exact jx_ret [] (.tuple #[]) [] rfl (by kernel_rfl) (by kernel_rfl) (fun w hm => ⟨rfl, hm.pick [0] (by kernel_rfl) (by kernel_rfl)⟩)
      · obtain ⟨hg_14, h⟩ := gd h
        refine p_shl 0 .u32 1 .i64 track2 (by kernel_rfl) (by kernel_rfl) hg_14 (jkD (fun w h => h.pick [] (by kernel_rfl) (by kernel_rfl)) ?_)
        refine toD 4 (by kernel_rfl) (p_ld 0 (aB (some ⟨d0_b, 0, none⟩)) (aO (some ⟨d0_b, 0, none⟩) + step1.toNat * 1) false (encU32 x_3) (by kernel_rfl) (by kernel_rfl) (by kernel_rfl) (fun w hm => ((hm.ownRow (hh := 0) (o := (some d0_b)) (T := 31) (enc := encU32) (xs := ((Arr.set d0 step1 (bClr .u32 x_1 (bShl .u32 1 track2))).1)) (sp := []) (by kernel_rfl) (fun e => nomatch e) encU32_len).at hx_11)) (jkD (fun w h => h.pick [] (by kernel_rfl) (by kernel_rfl)) ?_))
        refine jd_f [⟨7, 0, 0⟩] 2 (by kernel_rfl) (by kernel_rfl) (fun w h => h.pick [] (by kernel_rfl) (by kernel_rfl)) (by kernel_rfl) (by kernel_rfl) ?_
        obtain ⟨x_4, hx_15, h⟩ := bd h
        refine jd_v 9 0 (by kernel_rfl) (fun w h => h.pick [] (by kernel_rfl) (by kernel_rfl)) (by kernel_rfl) (by kernel_rfl) _ (fun w hm => idx_run (a := (some ⟨d0_b, 0, none⟩)) (len := 96) (s := 1) (j := step1) (by kernel_rfl) (ix_some hx_15).1 (ltn hx_15 (Arr.set d0 step1 (bClr .u32 x_1 (bShl .u32 1 track2))).2) rfl) ?_
        refine toD 10 (by kernel_rfl) (p_str 0 0 d0_b 31 encU32 ((Arr.set d0 step1 (bClr .u32 x_1 (bShl .u32 1 track2))).1) [] step1 (bOr .u32 x_3 (bShl .u32 1 track2)) 1 0 [(.int .u32 (bOr .u32 x_3 (bShl .u32 1 track2)))] (by kernel_rfl) (by kernel_rfl) (by kernel_rfl) encU32_len hx_15 (by kernel_rfl) (by kernel_rfl) (jkD (fun w h => h.pick [] (by kernel_rfl) (by kernel_rfl)) ?_))
        refine jd_end (by kernel_rfl) ?_
        refine jx_fall ?_
        obtain rfl := Option.some.inj h
        exact jx_ret [] (.tuple #[]) [] rfl (by kernel_rfl) (by kernel_rfl) (fun w hm => ⟨rfl, hm.pick [0] (by kernel_rfl) (by kernel_rfl)⟩)
    · replace h := ifF hc_7 h
      refine jc_skip ?_
      refine jx_fall ?_
      obtain rfl := Option.some.inj h
      exact jx_ret [] (.tuple #[]) [] rfl (by kernel_rfl) (by kernel_rfl) (fun w hm => ⟨rfl, hm.pick [0] (by kernel_rfl) (by kernel_rfl)⟩)
  · obtain ⟨hg_16, h⟩ := gd h
    refine p_shl 0 .u32 1 .i64 track2 (by kernel_rfl) (by kernel_rfl) hg_16 (jkD (fun w h => h.pick [] (by kernel_rfl) (by kernel_rfl)) ?_)
    refine toD 4 (by kernel_rfl) (p_ld 0 (aB (some ⟨d0_b, 0, none⟩)) (aO (some ⟨d0_b, 0, none⟩) + step1.toNat * 1) false (encU32 x_1) (by kernel_rfl) (by kernel_rfl) (by kernel_rfl) (fun w hm => ((hm.ownRow (hh := 0) (o := (some d0_b)) (T := 31) (enc := encU32) (xs := d0.1) (sp := []) (by kernel_rfl) (fun e => nomatch e) encU32_len).at hx_4)) (jkD (fun w h => h.pick [] (by kernel_rfl) (by kernel_rfl)) ?_))
    refine jd_f [⟨7, 0, 0⟩] 2 (by kernel_rfl) (by kernel_rfl) (fun w h => h.pick [] (by kernel_rfl) (by kernel_rfl)) (by kernel_rfl) (by kernel_rfl) ?_
    obtain ⟨x_2, hx_17, h⟩ := bd h
    refine jd_v 9 0 (by kernel_rfl) (fun w h => h.pick [] (by kernel_rfl) (by kernel_rfl)) (by kernel_rfl) (by kernel_rfl) _ (fun w hm => idx_run (a := (some ⟨d0_b, 0, none⟩)) (len := 96) (s := 1) (j := step1) (by kernel_rfl) (ix_some hx_17).1 (ltn hx_17 d0.2) rfl) ?_
    refine toD 10 (by kernel_rfl) (p_str 0 0 d0_b 31 encU32 d0.1 [] step1 (bClr .u32 x_1 (bShl .u32 1 track2)) 1 0 [(.int .u32 (bClr .u32 x_1 (bShl .u32 1 track2)))] (by kernel_rfl) (by kernel_rfl) (by kernel_rfl) encU32_len hx_17 (by kernel_rfl) (by kernel_rfl) (jkD (fun w h => h.pick [] (by kernel_rfl) (by kernel_rfl)) ?_))
    refine jd_end (by kernel_rfl) ?_
    refine jx_then ?_
    refine jc_seq ?_
    refine jc_region ?_
    refine jo_f [(0, 0)] (by kernel_rfl) ?_
    refine jo_end (by kernel_rfl) ?_
    refine jx_then ?_
    refine jc_cond on3 (by kernel_rfl) (fun hc_18 => ?_) (fun hc_18 => ?_)
    · replace h := ifT hc_18 h
      refine jc_draw [] 11 (by kernel_rfl) (by kernel_rfl) ?_
      refine jd_f [⟨0, 0, 0⟩, ⟨1, 0, 0⟩, ⟨2, 0, 0⟩, ⟨5, 0, 0⟩, ⟨8, 0, 0⟩] 6 (by kernel_rfl) (by kernel_rfl) (fun w h => h.pick [] (by kernel_rfl) (by kernel_rfl)) (by kernel_rfl) (by kernel_rfl) ?_
      obtain ⟨x_3, hx_22, h⟩ := bd h
      refine jd_v 3 0 (by kernel_rfl) (fun w h => h.pick [] (by kernel_rfl) (by kernel_rfl)) (by kernel_rfl) (by kernel_rfl) _ (fun w hm => idx_run (a := (some ⟨d0_b, 0, none⟩)) (len := 96) (s := 1) (j := step1) (by kernel_rfl) (ix_some hx_22).1 (ltn hx_22 (Arr.set d0 step1 (bClr .u32 x_1 (bShl .u32 1 track2))).2) rfl) ?_
      refine toD2 4 6 (by kernel_rfl) ?_ ?_
      · refine p_ld 0 (aB (some ⟨d0_b, 0, none⟩)) (aO (some ⟨d0_b, 0, none⟩) + step1.toNat * 1) false (encU32 x_3) (by kernel_rfl) (by kernel_rfl) (by kernel_rfl) (fun w hm => ((hm.ownRow (hh := 0) (o := (some d0_b)) (T := 31) (enc := encU32) (xs := ((Arr.set d0 step1 (bClr .u32 x_1 (bShl .u32 1 track2))).1)) (sp := []) (by kernel_rfl) (fun e => nomatch e) encU32_len).at hx_22)) (jkD (fun w h => h.pick [] (by kernel_rfl) (by kernel_rfl)) ?_)
        obtain ⟨hg_23, h⟩ := gd h
        refine toD 6 (by kernel_rfl) (p_shl 0 .u32 1 .i64 track2 (by kernel_rfl) (by kernel_rfl) hg_23 (jkD (fun w h => h.pick [] (by kernel_rfl) (by kernel_rfl)) ?_))
        refine jd_f [⟨7, 0, 0⟩] 2 (by kernel_rfl) (by kernel_rfl) (fun w h => h.pick [] (by kernel_rfl) (by kernel_rfl)) (by kernel_rfl) (by kernel_rfl) ?_
        obtain ⟨x_4, hx_24, h⟩ := bd h
        refine jd_v 9 0 (by kernel_rfl) (fun w h => h.pick [] (by kernel_rfl) (by kernel_rfl)) (by kernel_rfl) (by kernel_rfl) _ (fun w hm => idx_run (a := (some ⟨d0_b, 0, none⟩)) (len := 96) (s := 1) (j := step1) (by kernel_rfl) (ix_some hx_24).1 (ltn hx_24 (Arr.set d0 step1 (bClr .u32 x_1 (bShl .u32 1 track2))).2) rfl) ?_
        refine toD 10 (by kernel_rfl) (p_str 0 0 d0_b 31 encU32 ((Arr.set d0 step1 (bClr .u32 x_1 (bShl .u32 1 track2))).1) [] step1 (bOr .u32 x_3 (bShl .u32 1 track2)) 1 0 [(.int .u32 (bOr .u32 x_3 (bShl .u32 1 track2)))] (by kernel_rfl) (by kernel_rfl) (by kernel_rfl) encU32_len hx_24 (by kernel_rfl) (by kernel_rfl) (jkD (fun w h => h.pick [] (by kernel_rfl) (by kernel_rfl)) ?_))
        refine jd_end (by kernel_rfl) ?_
        refine jx_fall ?_
        obtain rfl := Option.some.inj h
        exact jx_ret [] (.tuple #[]) [] rfl (by kernel_rfl) (by kernel_rfl) (fun w hm => ⟨rfl, hm.pick [0] (by kernel_rfl) (by kernel_rfl)⟩)
      · obtain ⟨hg_25, h⟩ := gd h
        refine p_shl 0 .u32 1 .i64 track2 (by kernel_rfl) (by kernel_rfl) hg_25 (jkD (fun w h => h.pick [] (by kernel_rfl) (by kernel_rfl)) ?_)
        refine toD 4 (by kernel_rfl) (p_ld 0 (aB (some ⟨d0_b, 0, none⟩)) (aO (some ⟨d0_b, 0, none⟩) + step1.toNat * 1) false (encU32 x_3) (by kernel_rfl) (by kernel_rfl) (by kernel_rfl) (fun w hm => ((hm.ownRow (hh := 0) (o := (some d0_b)) (T := 31) (enc := encU32) (xs := ((Arr.set d0 step1 (bClr .u32 x_1 (bShl .u32 1 track2))).1)) (sp := []) (by kernel_rfl) (fun e => nomatch e) encU32_len).at hx_22)) (jkD (fun w h => h.pick [] (by kernel_rfl) (by kernel_rfl)) ?_))
        refine jd_f [⟨7, 0, 0⟩] 2 (by kernel_rfl) (by kernel_rfl) (fun w h => h.pick [] (by kernel_rfl) (by kernel_rfl)) (by kernel_rfl) (by kernel_rfl) ?_
        obtain ⟨x_4, hx_26, h⟩ := bd h
        refine jd_v 9 0 (by kernel_rfl) (fun w h => h.pick [] (by kernel_rfl) (by kernel_rfl)) (by kernel_rfl) (by kernel_rfl) _ (fun w hm => idx_run (a := (some ⟨d0_b, 0, none⟩)) (len := 96) (s := 1) (j := step1) (by kernel_rfl) (ix_some hx_26).1 (ltn hx_26 (Arr.set d0 step1 (bClr .u32 x_1 (bShl .u32 1 track2))).2) rfl) ?_
        refine toD 10 (by kernel_rfl) (p_str 0 0 d0_b 31 encU32 ((Arr.set d0 step1 (bClr .u32 x_1 (bShl .u32 1 track2))).1) [] step1 (bOr .u32 x_3 (bShl .u32 1 track2)) 1 0 [(.int .u32 (bOr .u32 x_3 (bShl .u32 1 track2)))] (by kernel_rfl) (by kernel_rfl) (by kernel_rfl) encU32_len hx_26 (by kernel_rfl) (by kernel_rfl) (jkD (fun w h => h.pick [] (by kernel_rfl) (by kernel_rfl)) ?_))
        refine jd_end (by kernel_rfl) ?_
        refine jx_fall ?_
        obtain rfl := Option.some.inj h
        exact jx_ret [] (.tuple #[]) [] rfl (by kernel_rfl) (by kernel_rfl) (fun w hm => ⟨rfl, hm.pick [0] (by kernel_rfl) (by kernel_rfl)⟩)
    · replace h := ifF hc_18 h
      refine jc_skip ?_
      refine jx_fall ?_
      obtain rfl := Option.some.inj h
      exact jx_ret [] (.tuple #[]) [] rfl (by kernel_rfl) (by kernel_rfl) (fun w hm => ⟨rfl, hm.pick [0] (by kernel_rfl) (by kernel_rfl)⟩)

/-! ### impl.withPut -/
noncomputable def impl_withPut.k_3 (d1 : Arr 96 Int) (step2 : Int) (track3 : Int) (on4 : Bool) (i_2 : Int) : Option ((Arr 96 Int) × Int) := (if (i_2 != 0) = true then some ((Arr.rep 96 0), i_2) else (impl_Drum_put d1 step2 track3 on4).bind fun t_4 => some (t_4, 0))
noncomputable def impl_withPut (f0 : GFrame) (d1 : Arr 96 Int) (step2 : Int) (track3 : Int) (on4 : Bool) : Option ((Arr 96 Int) × Int) := (impl_placeCode f0 d1 step2 track3).bind fun t_1 => (if (t_1 == 0) = true then (impl_Drum_has d1 step2 track3).bind fun t_5 => (if (t_5 == on4) = true then impl_withPut.k_3 d1 step2 track3 on4 4 else impl_withPut.k_3 d1 step2 track3 on4 t_1) else impl_withPut.k_3 d1 step2 track3 on4 t_1)
set_option maxRecDepth 100000 in
theorem impl_withPut.calls (f0 : GFrame) (d1 : Arr 96 Int) (step2 : Int) (track3 : Int) (on4 : Bool) (w : World) (r : (Arr 96 Int) × Int) (f0_fHammers_a : Option Addr) (f0_fHammers_an : Nat) (f0_fHammers_c : Nat) (f0_fHammers_h : Rw w f0_fHammers_a 2 encGHammer f0.fHammers) (f0_fHammers_hn : f0.fHammers.length = f0_fHammers_an) (h : impl_withPut f0 d1 step2 track3 on4 = some r) :
    Calls Tryz.prog 165 #[(.agg #[(.int .i16 f0.fSteps), (.slice f0_fHammers_a f0_fHammers_an f0_fHammers_c)]), (.agg (row encU32 d1.1 []).toArray), (.int .i64 step2), (.int .i64 track3), (.bool on4)] w fun e w' => ∃ v, e = .returned v ∧ (v = .tuple #[(.agg (row encU32 r.1.1 []).toArray), (.int .i64 r.2)] ∧ Mem w [] [] w') := by
  subst f0_fHammers_hn
  rw [impl_withPut] at h
  refine enter (args := [(.agg #[(.int .i16 f0.fSteps), (.slice f0_fHammers_a f0.fHammers.length f0_fHammers_c)]), (.agg (row encU32 d1.1 []).toArray), (.int .i64 step2), (.int .i64 track3), (.bool on4)]) Tryz.func165 rfl Tryz.ntmps165 (by kernel_rfl) (L := []) (W := []) (Mem.start w) ?_
  refine jc_seq ?_
  refine jc_region ?_
  refine toO (by kernel_rfl) (p_a 0 [0] (by kernel_rfl) (fun b => by kernel_rfl) (fun b_1 => jkO ?_))
  refine toO (by kernel_rfl) (p_a 0 [0] (by kernel_rfl) (fun b => by kernel_rfl) (fun b_2 => jkO ?_))
  refine toO (by kernel_rfl) (p_a 0 [0] (by kernel_rfl) (fun b => by kernel_rfl) (fun b_3 => jkO ?_))
  refine jo_f [(0, 0)] (by kernel_rfl) ?_
  refine jo_end (by kernel_rfl) ?_
  refine jx_then ?_
  refine jc_seq ?_
  refine jc_region ?_
  refine jo_f [(0, 0)] (by kernel_rfl) ?_
  refine toO (by kernel_rfl) (p_ldA 0 1 b_2 96 1 31 encU32 d1 (by kernel_rfl) (by kernel_rfl) (by kernel_rfl) encU32_len (by kernel_rfl) (jkO ?_))
  refine jo_f [(0, 0), (0, 0)] (by kernel_rfl) ?_
  obtain ⟨t_1, ht_4, h⟩ := bd h
  refine toO (by kernel_rfl) (p_call 0 87 #[(.agg #[(.int .i16 f0.fSteps), (.slice f0_fHammers_a f0.fHammers.length f0_fHammers_c)]), (.agg (row encU32 d1.1 []).toArray), (.int .i64 step2), (.int .i64 track3)] (by kernel_rfl) (by kernel_rfl) (fun w hm => impl_placeCode.calls f0 d1 step2 track3 w _ f0_fHammers_a f0.fHammers.length f0_fHammers_c (hm.exRow f0_fHammers_h List.not_mem_nil) rfl ht_4) ?_)
  rintro w v w' hm ⟨rfl, hm'⟩
  refine ⟨_, hm.app hm', jkO ?_⟩
  clear hm hm'
  refine jo_f [(0, 0)] (by kernel_rfl) ?_
  refine jo_end (by kernel_rfl) ?_
  refine jx_then ?_
  refine jc_seq ?_
  refine jc_meet (fun (j : Int) => match j with | i_2 => impl_withPut.k_3 d1 step2 track3 on4 i_2 = some r) (fun (j : Int) => match j with | i_2 => [(2, [], (.int .i64 step2)), (3, [], (.int .i64 track3)), (4, [], (.bool on4)), (6, [], (.pointer (some ⟨b_2, 0, none⟩))), (10, [], (.pointer (some ⟨b_3, 0, none⟩))), (11, [], (.int .i64 0)), (12, [], (.int .i64 i_2))]) (fun (j : Int) => match j with | i_2 => [⟨some b_1, 27, [(.int .i16 f0.fSteps), (.slice f0_fHammers_a f0.fHammers.length f0_fHammers_c)]⟩, ⟨(some b_2), 31, row encU32 d1.1 []⟩, ⟨(some b_3), 31, row encU32 ((Arr.rep 96 0).1) []⟩]) ?_ ?_
  · refine jc_seq ?_
    refine jc_region ?_
    refine jo_f [(0, 0), (0, 0), (0, 0), (0, 1), (0, 1)] (by kernel_rfl) ?_
    refine jo_split 20 (t_1 == 0) (by kernel_rfl) (fun hc_12 => ?_) (fun hc_12 => ?_)
    · replace h := ifT hc_12 h
      obtain ⟨t_5, ht_13, h⟩ := bd h
      refine toO (by kernel_rfl) (p_call 2 104 #[(.pointer (some ⟨b_2, 0, none⟩)), (.int .i64 step2), (.int .i64 track3)] (by kernel_rfl) (by kernel_rfl) (fun w hm => impl_Drum_has.calls d1 step2 track3 w _ b_2 (hm.pass (N := [⟨(some b_2), 31, row encU32 d1.1 []⟩]) [1] (by kernel_rfl) (by kernel_rfl)) ht_13) ?_)
      rintro w v w' hm ⟨rfl, hm'⟩
      refine ⟨_, hm.appW (ps := [(1, ⟨(some b_2), 31, row encU32 d1.1 []⟩)]) (N := []) hm' (by kernel_rfl) (by kernel_rfl), jkO ?_⟩
      clear hm hm'
      refine jo_f [(0, 2), (0, 2), (0, 4)] (by kernel_rfl) ?_
      refine jo_end (by kernel_rfl) ?_
      refine jx_then ?_
      refine jc_cond (t_5 == on4) (by kernel_rfl) (fun hc_14 => ?_) (fun hc_14 => ?_)
      · replace h := ifT hc_14 h
        refine jc_region ?_
        refine jo_f [(0, 0)] (by kernel_rfl) ?_
        refine jo_end (by kernel_rfl) ?_
        exact jx_meet 4 h (by kernel_rfl) [0, 1, 2] (by kernel_rfl) (by kernel_rfl)
      · replace h := ifF hc_14 h
        refine jc_skip ?_
        exact jx_meet t_1 h (by kernel_rfl) [0, 1, 2] (by kernel_rfl) (by kernel_rfl)
    · replace h := ifF hc_12 h
      refine jo_f [(0, 3), (0, 3), (0, 3), (0, 5)] (by kernel_rfl) ?_
      refine jo_end (by kernel_rfl) ?_
      refine jx_then ?_
      refine jc_cond false (by kernel_rfl) (fun hc_15 => nomatch hc_15) (fun hc_15 => ?_)
      refine jc_skip ?_
      exact jx_meet t_1 h (by kernel_rfl) [0, 1, 2] (by kernel_rfl) (by kernel_rfl)
  · rintro i_2 h
    replace h : impl_withPut.k_3 d1 step2 track3 on4 i_2 = some r := h
    rw [impl_withPut.k_3] at h
    refine jx_then ?_
    refine jc_seq ?_
    refine jc_seq ?_
    refine jc_region ?_
    refine jo_f [(0, 0), (0, 0)] (by kernel_rfl) ?_
    refine jo_end (by kernel_rfl) ?_
    refine jx_then ?_
    refine jc_cond (i_2 != 0) (by kernel_rfl) (fun hc_10 => ?_) (fun hc_10 => ?_)
    · replace h := ifT hc_10 h
      refine jc_seq ?_
      refine jc_region ?_
      refine jo_f [(0, 0), (0, 0)] (by kernel_rfl) ?_
      refine toO (by kernel_rfl) (p_sA 0 2 b_3 96 1 31 encU32 (Arr.rep 96 0) (Arr.rep 96 0) (by kernel_rfl) (by kernel_rfl) (by kernel_rfl) encU32_len encU32_cell (by kernel_rfl) (jkO ?_))
      refine jo_f [(0, 0)] (by kernel_rfl) ?_
      refine jo_end (by kernel_rfl) ?_
      refine jx_then ?_
      refine jc_ret ?_
      refine jx_thenr ?_
      obtain rfl := Option.some.inj h
      exact jx_retV rfl (rq_arr (b := b_3) (T' := 31) (hh := 2) (mm := 1) encU32 (Arr.rep 96 0) (by kernel_rfl) (by kernel_rfl) encU32_len (by kernel_rfl) (rq_tmp (by kernel_rfl) rq_nil)) (fun w hm => ⟨rfl, hm.pick [] (by kernel_rfl) (by kernel_rfl)⟩)
    · replace h := ifF hc_10 h
      refine jc_skip ?_
      refine jx_then ?_
      refine jc_seq ?_
      refine jc_region ?_
      refine jo_f [(0, 0), (0, 0), (0, 0)] (by kernel_rfl) ?_
      obtain ⟨t_4, ht_11, h⟩ := bd h
      refine toO (by kernel_rfl) (p_call 0 105 #[(.pointer (some ⟨b_2, 0, none⟩)), (.int .i64 step2), (.int .i64 track3), (.bool on4)] (by kernel_rfl) (by kernel_rfl) (fun w hm => impl_Drum_put.calls d1 step2 track3 on4 w _ b_2 (hm.pass (N := [⟨(some b_2), 31, row encU32 d1.1 []⟩]) [1] (by kernel_rfl) (by kernel_rfl)) ht_11) ?_)
      rintro w v w' hm ⟨rfl, hm'⟩
      refine ⟨_, hm.appW (ps := [(1, ⟨(some b_2), 31, row encU32 t_4.1 []⟩)]) (N := []) hm' (by kernel_rfl) (by kernel_rfl), jkO ?_⟩
      clear hm hm'
      refine jo_end (by kernel_rfl) ?_
      refine jx_then ?_
      refine jc_seq ?_
      refine jc_region ?_
      refine toO (by kernel_rfl) (p_ldA 0 1 b_2 96 1 31 encU32 t_4 (by kernel_rfl) (by kernel_rfl) (by kernel_rfl) encU32_len (by kernel_rfl) (jkO ?_))
      refine toO (by kernel_rfl) (p_sA 0 2 b_3 96 1 31 encU32 (Arr.rep 96 0) t_4 (by kernel_rfl) (by kernel_rfl) (by kernel_rfl) encU32_len encU32_cell (by kernel_rfl) (jkO ?_))
      refine jo_f [(0, 0)] (by kernel_rfl) ?_
      refine jo_end (by kernel_rfl) ?_
      refine jx_then ?_
      refine jc_ret ?_
      obtain rfl := Option.some.inj h
      exact jx_retV rfl (rq_arr (b := b_3) (T' := 31) (hh := 2) (mm := 1) encU32 t_4 (by kernel_rfl) (by kernel_rfl) encU32_len (by kernel_rfl) (rq_tmp (by kernel_rfl) rq_nil)) (fun w hm => ⟨rfl, hm.pick [] (by kernel_rfl) (by kernel_rfl)⟩)

/-! ### impl.makeChanges -/
noncomputable def impl_makeChanges.k_2 (a_1 : Arr 96 Int) : Option ((Arr 96 Int) × Int × Int) := some (a_1, 0, 0)
noncomputable def impl_makeChanges.l_5 (f0 : GFrame) (list2 : List GChange) : ((Arr 96 Int) × Int) → Option (((Arr 96 Int) × Int) ⊕ (((Arr 96 Int) × Int × Int) ⊕ (Arr 96 Int)))
  | (a_3, i_4) => (if (decide (i_4 < (list2.length : Int))) = true then (ix list2 i_4).bind fun x_7 => (impl_withPut f0 a_3 (w64 x_7.fStep) (w64 x_7.fTrack) x_7.fPut).bind fun t_8 => (if (t_8.2 != 0) = true then some (.inr (.inl ((Arr.rep 96 0), i_4, t_8.2))) else some (.inl (t_8.1, (w64 (i_4 + 1))))) else some (.inr (.inr a_3)))
noncomputable def impl_makeChanges (f0 : GFrame) (d1 : Arr 96 Int) (list2 : List GChange) : Option ((Arr 96 Int) × Int × Int) := (loop (impl_makeChanges.l_5 f0 list2) (d1, 0)).bind fun t_6 => match t_6 with | .inl p => some p | .inr p => impl_makeChanges.k_2 p
set_option maxRecDepth 100000 in
theorem impl_makeChanges.calls (f0 : GFrame) (d1 : Arr 96 Int) (list2 : List GChange) (w : World) (r : (Arr 96 Int) × Int × Int) (f0_fHammers_a : Option Addr) (f0_fHammers_an : Nat) (f0_fHammers_c : Nat) (f0_fHammers_h : Rw w f0_fHammers_a 2 encGHammer f0.fHammers) (f0_fHammers_hn : f0.fHammers.length = f0_fHammers_an) (list2_a : Option Addr) (list2_an : Nat) (list2_c : Nat) (list2_h : Rw w list2_a 3 encGChange list2) (list2_hn : list2.length = list2_an) (h : impl_makeChanges f0 d1 list2 = some r) :
    Calls Tryz.prog 78 #[(.agg #[(.int .i16 f0.fSteps), (.slice f0_fHammers_a f0_fHammers_an f0_fHammers_c)]), (.agg (row encU32 d1.1 []).toArray), (.slice list2_a list2_an list2_c)] w fun e w' => ∃ v, e = .returned v ∧ (v = .tuple #[(.agg (row encU32 r.1.1 []).toArray), (.int .i64 r.2.1), (.int .i64 r.2.2)] ∧ Mem w [] [] w') := by
  subst f0_fHammers_hn list2_hn
  rw [impl_makeChanges] at h
  refine enter (args := [(.agg #[(.int .i16 f0.fSteps), (.slice f0_fHammers_a f0.fHammers.length f0_fHammers_c)]), (.agg (row encU32 d1.1 []).toArray), (.slice list2_a list2.length list2_c)]) Tryz.func78 rfl Tryz.ntmps78 (by kernel_rfl) (L := []) (W := []) (Mem.start w) ?_
  refine jc_seq ?_
  refine jc_region ?_
  refine toO (by kernel_rfl) (p_a 0 [0] (by kernel_rfl) (fun b => by kernel_rfl) (fun b_1 => jkO ?_))
  refine toO (by kernel_rfl) (p_a 0 [0] (by kernel_rfl) (fun b => by kernel_rfl) (fun b_2 => jkO ?_))
  refine toO (by kernel_rfl) (p_a 0 [0] (by kernel_rfl) (fun b => by kernel_rfl) (fun b_3 => jkO ?_))
  refine jo_f [(0, 0), (0, 0)] (by kernel_rfl) ?_
  refine jo_end (by kernel_rfl) ?_
  refine jx_then ?_
  refine jc_seq ?_
  refine jc_seq ?_
  refine jc_region ?_
  refine jo_f [(0, 0), (0, 0), (0, 0)] (by kernel_rfl) ?_
  refine jo_end (by kernel_rfl) ?_
  refine jx_then ?_
  refine jc_meet (fun (j : (Arr 96 Int)) => match j with | a_1 => impl_makeChanges.k_2 a_1 = some r) (fun (j : (Arr 96 Int)) => match j with | a_1 => [(4, [], (.pointer (some ⟨b_2, 0, none⟩))), (6, [], (.pointer (some ⟨b_3, 0, none⟩))), (7, [], (.int .i64 0)), (8, [], (.int .i64 0))]) (fun (j : (Arr 96 Int)) => match j with | a_1 => [⟨some b_1, 27, [(.int .i16 f0.fSteps), (.slice f0_fHammers_a f0.fHammers.length f0_fHammers_c)]⟩, ⟨(some b_2), 31, row encU32 a_1.1 []⟩, ⟨(some b_3), 31, row encU32 ((Arr.rep 96 0).1) []⟩]) ?_ ?_
  · refine jc_block ?_
    obtain ⟨t_6, ht_107, hr_96⟩ := bd h
    refine jc_loop (fun (s : (Arr 96 Int) × Int) (x : Unit) => match s, x with | ⟨a_3, i_4⟩, _ => True) (fun (s : (Arr 96 Int) × Int) (x : Unit) => match s, x with | ⟨a_3, i_4⟩, _ => [(3, [], (.pointer (some ⟨b_1, 0, none⟩))), (4, [], (.pointer (some ⟨b_2, 0, none⟩))), (6, [], (.pointer (some ⟨b_3, 0, none⟩))), (7, [], (.int .i64 0)), (8, [], (.int .i64 0)), (13, [], (.slice list2_a list2.length list2_c)), (14, [], (.int .i64 (list2.length : Int))), (15, [], (.int .i64 i_4))]) (fun (s : (Arr 96 Int) × Int) (x : Unit) => match s, x with | ⟨a_3, i_4⟩, _ => [⟨some b_1, 27, [(.int .i16 f0.fSteps), (.slice f0_fHammers_a f0.fHammers.length f0_fHammers_c)]⟩, ⟨(some b_2), 31, row encU32 a_3.1 []⟩, ⟨(some b_3), 31, row encU32 ((Arr.rep 96 0).1) []⟩]) ht_107 () trivial (by kernel_rfl) [0, 1, 2] (by kernel_rfl) (by kernel_rfl) ?_
    rintro ⟨a_3, i_4⟩ _ y_97 _ h
    rw [impl_makeChanges.l_5] at h
    refine jc_seq ?_
    refine jc_region ?_
    refine jo_f [(0, 0)] (by kernel_rfl) ?_
    refine jo_end (by kernel_rfl) ?_
    refine jx_then ?_
    refine jc_seq ?_
    refine jc_cond (decide (i_4 < (list2.length : Int))) (by kernel_rfl) (fun hc_99 => ?_) (fun hc_99 => ?_)
    · replace h := ifT hc_99 h
      refine jc_skip ?_
      refine jx_then ?_
      refine jc_seq ?_
      refine jc_block ?_
      refine jc_seq ?_
      refine jc_region ?_
      refine jo_f [(0, 0)] (by kernel_rfl) ?_
      obtain ⟨x_7, hx_100, h⟩ := bd h
      refine toO (by kernel_rfl) (p_idx 0 list2_a list2.length i_4 3 (by kernel_rfl) (by kernel_rfl) (ix_some hx_100).1 (ltn hx_100 rfl) (list2_h.sp hx_100) (jkO ?_))
      refine toO (by kernel_rfl) (p_ld 0 (aB list2_a) (aO list2_a + i_4.toNat * 3) true (encGChange x_7) (by kernel_rfl) (by kernel_rfl) (by kernel_rfl) (fun w hm => ((hm.exRow list2_h List.not_mem_nil).at hx_100)) (jkO ?_))
      refine toO (by kernel_rfl) (p_a 0 [0] (by kernel_rfl) (fun b => by kernel_rfl) (fun b_101 => jkO ?_))
      refine jo_f [(0, 0)] (by kernel_rfl) ?_
      refine toO (by kernel_rfl) (p_s 0 [3] (by kernel_rfl) (by kernel_rfl) (jkO ?_))
      refine jo_end (by kernel_rfl) ?_
      refine jx_then ?_
      refine jc_seq ?_
      refine jc_region ?_
      refine jo_f [(0, 0)] (by kernel_rfl) ?_
      refine toO (by kernel_rfl) (p_ldA 0 1 b_2 96 1 31 encU32 a_3 (by kernel_rfl) (by kernel_rfl) (by kernel_rfl) encU32_len (by kernel_rfl) (jkO ?_))
      refine jo_f [(0, 0), (3, 0), (0, 0), (0, 0), (3, 0), (0, 0), (0, 0), (3, 0)] (by kernel_rfl) ?_
      obtain ⟨t_8, ht_102, h⟩ := bd h
      refine toO (by kernel_rfl) (p_call 0 165 #[(.agg #[(.int .i16 f0.fSteps), (.slice f0_fHammers_a f0.fHammers.length f0_fHammers_c)]), (.agg (row encU32 a_3.1 []).toArray), (.int .i64 (w64 x_7.fStep)), (.int .i64 (w64 x_7.fTrack)), (.bool x_7.fPut)] (by kernel_rfl) (by kernel_rfl) (fun w hm => impl_withPut.calls f0 a_3 (w64 x_7.fStep) (w64 x_7.fTrack) x_7.fPut w _ f0_fHammers_a f0.fHammers.length f0_fHammers_c (hm.exRow f0_fHammers_h List.not_mem_nil) rfl ht_102) ?_)
      rintro w v w' hm ⟨rfl, hm'⟩
      refine ⟨_, hm.app hm', jkO ?_⟩
      clear hm hm'
      refine jo_f [(0, 0), (0, 0), (0, 0)] (by kernel_rfl) ?_
      refine toO (by kernel_rfl) (p_a 0 [0] (by kernel_rfl) (fun b => by kernel_rfl) (fun b_103 => jkO ?_))
      refine toO (by kernel_rfl) (p_sA 0 4 b_103 96 1 31 encU32 (Arr.rep 96 0) t_8.1 (by kernel_rfl) (by kernel_rfl) (by kernel_rfl) encU32_len encU32_cell (by kernel_rfl) (jkO ?_))
      refine jo_f [(0, 0)] (by kernel_rfl) ?_
      refine jo_end (by kernel_rfl) ?_
      refine jx_then ?_
      refine jc_seq ?_
      refine jc_seq ?_
      refine jc_region ?_
      refine jo_f [(0, 0), (0, 0)] (by kernel_rfl) ?_
      refine jo_end (by kernel_rfl) ?_
      refine jx_then ?_
      refine jc_cond (t_8.2 != 0) (by kernel_rfl) (fun hc_104 => ?_) (fun hc_104 => ?_)
      · replace h := ifT hc_104 h
        refine jc_seq ?_
        refine jc_region ?_
        refine jo_f [(0, 0), (0, 0), (0, 0)] (by kernel_rfl) ?_
        refine toO (by kernel_rfl) (p_sA 0 2 b_3 96 1 31 encU32 (Arr.rep 96 0) (Arr.rep 96 0) (by kernel_rfl) (by kernel_rfl) (by kernel_rfl) encU32_len encU32_cell (by kernel_rfl) (jkO ?_))
        refine jo_f [(0, 0), (0, 0)] (by kernel_rfl) ?_
        refine jo_end (by kernel_rfl) ?_
        refine jx_then ?_
        refine jc_ret ?_
        refine jx_thenr ?_
        refine jx_inr ?_
        refine jx_thenr ?_
        refine jx_leaver (.inl ((Arr.rep 96 0), i_4, t_8.2)) (Option.some.inj h).symm (fun e_105 => ?_)
        subst e_105
        refine jx_inr ?_
        refine jx_thenr ?_
        refine jx_thenr ?_
        obtain rfl := Option.some.inj hr_96
        exact jx_retV rfl (rq_arr (b := b_3) (T' := 31) (hh := 2) (mm := 1) encU32 (Arr.rep 96 0) (by kernel_rfl) (by kernel_rfl) encU32_len (by kernel_rfl) (rq_tmp (by kernel_rfl) (rq_tmp (by kernel_rfl) rq_nil))) (fun w hm => ⟨rfl, hm.pick [] (by kernel_rfl) (by kernel_rfl)⟩)
      · replace h := ifF hc_104 h
        refine jc_skip ?_
        refine jx_then ?_
        refine jc_region ?_
        refine toO (by kernel_rfl) (p_ldA 0 4 b_103 96 1 31 encU32 t_8.1 (by kernel_rfl) (by kernel_rfl) (by kernel_rfl) encU32_len (by kernel_rfl) (jkO ?_))
        refine toO (by kernel_rfl) (p_sA 0 1 b_2 96 1 31 encU32 a_3 t_8.1 (by kernel_rfl) (by kernel_rfl) (by kernel_rfl) encU32_len encU32_cell (by kernel_rfl) (jkO ?_))
        refine jo_end (by kernel_rfl) ?_
        refine jx_inn ?_
        refine jx_then ?_
        refine jc_region ?_
        refine jo_f [(0, 0), (0, 0)] (by kernel_rfl) ?_
        refine jo_end (by kernel_rfl) ?_
        exact jx_back (t_8.1, (w64 (i_4 + 1))) () (Option.some.inj h).symm trivial [0, 1, 2] (by kernel_rfl) (by kernel_rfl) (by kernel_rfl)
    · replace h := ifF hc_99 h
      refine jc_exit ?_
      refine jx_thenx ?_
      refine jx_leave (.inr a_3) (Option.some.inj h).symm (fun e_106 => ?_)
      subst e_106
      refine jx_ine ?_
      exact jx_meet a_3 hr_96 (by kernel_rfl) [0, 1, 2] (by kernel_rfl) (by kernel_rfl)
  · rintro a_1 h
    replace h : impl_makeChanges.k_2 a_1 = some r := h
    rw [impl_makeChanges.k_2] at h
    refine jx_then ?_
    refine jc_seq ?_
    refine jc_region ?_
    refine toO (by kernel_rfl) (p_ldA 0 1 b_2 96 1 31 encU32 a_1 (by kernel_rfl) (by kernel_rfl) (by kernel_rfl) encU32_len (by kernel_rfl) (jkO ?_))
    refine toO (by kernel_rfl) (p_sA 0 2 b_3 96 1 31 encU32 (Arr.rep 96 0) a_1 (by kernel_rfl) (by kernel_rfl) (by kernel_rfl) encU32_len encU32_cell (by kernel_rfl) (jkO ?_))
    refine jo_f [(0, 0), (0, 0)] (by kernel_rfl) ?_
    refine jo_end (by kernel_rfl) ?_
    refine jx_then ?_
    refine jc_ret ?_
    obtain rfl := Option.some.inj h
    exact jx_retV rfl (rq_arr (b := b_3) (T' := 31) (hh := 2) (mm := 1) encU32 a_1 (by kernel_rfl) (by kernel_rfl) encU32_len (by kernel_rfl) (rq_tmp (by kernel_rfl) (rq_tmp (by kernel_rfl) rq_nil))) (fun w hm => ⟨rfl, hm.pick [] (by kernel_rfl) (by kernel_rfl)⟩)

/-! ### impl.MakeChanges -/
noncomputable def impl_MakeChanges (f0 : GFrame) (d1 : Arr 96 Int) (list2 : List GChange) : Option ((Arr 96 Int) × Int) := (impl_changesCode f0 d1 list2).bind fun t_1 => (if (t_1 != 0) = true then some ((Arr.rep 96 0), t_1) else (impl_makeChanges f0 d1 list2).bind fun t_2 => some (t_2.1, t_2.2.2))
set_option maxRecDepth 100000 in
theorem impl_MakeChanges.calls (f0 : GFrame) (d1 : Arr 96 Int) (list2 : List GChange) (w : World) (r : (Arr 96 Int) × Int) (f0_fHammers_a : Option Addr) (f0_fHammers_an : Nat) (f0_fHammers_c : Nat) (f0_fHammers_h : Rw w f0_fHammers_a 2 encGHammer f0.fHammers) (f0_fHammers_hn : f0.fHammers.length = f0_fHammers_an) (list2_a : Option Addr) (list2_an : Nat) (list2_c : Nat) (list2_h : Rw w list2_a 3 encGChange list2) (list2_hn : list2.length = list2_an) (h : impl_MakeChanges f0 d1 list2 = some r) :
    Calls Tryz.prog 13 #[(.agg #[(.int .i16 f0.fSteps), (.slice f0_fHammers_a f0_fHammers_an f0_fHammers_c)]), (.agg (row encU32 d1.1 []).toArray), (.slice list2_a list2_an list2_c)] w fun e w' => ∃ v, e = .returned v ∧ (v = .tuple #[(.agg (row encU32 r.1.1 []).toArray), (.int .i64 r.2)] ∧ Mem w [] [] w') := by
  subst f0_fHammers_hn list2_hn
  rw [impl_MakeChanges] at h
  refine enter (args := [(.agg #[(.int .i16 f0.fSteps), (.slice f0_fHammers_a f0.fHammers.length f0_fHammers_c)]), (.agg (row encU32 d1.1 []).toArray), (.slice list2_a list2.length list2_c)]) Tryz.func13 rfl Tryz.ntmps13 (by kernel_rfl) (L := []) (W := []) (Mem.start w) ?_
  refine jc_seq ?_
  refine jc_region ?_
  refine toO (by kernel_rfl) (p_a 0 [0] (by kernel_rfl) (fun b => by kernel_rfl) (fun b_1 => jkO ?_))
  refine toO (by kernel_rfl) (p_a 0 [0] (by kernel_rfl) (fun b => by kernel_rfl) (fun b_2 => jkO ?_))
  refine toO (by kernel_rfl) (p_a 0 [0] (by kernel_rfl) (fun b => by kernel_rfl) (fun b_3 => jkO ?_))
  refine jo_f [(0, 0)] (by kernel_rfl) ?_
  refine jo_end (by kernel_rfl) ?_
  refine jx_then ?_
  refine jc_seq ?_
  refine jc_seq ?_
  refine jc_region ?_
  refine jo_f [(0, 0)] (by kernel_rfl) ?_
  refine toO (by kernel_rfl) (p_ldA 0 1 b_2 96 1 31 encU32 d1 (by kernel_rfl) (by kernel_rfl) (by kernel_rfl) encU32_len (by kernel_rfl) (jkO ?_))
  refine jo_f [(0, 0)] (by kernel_rfl) ?_
  obtain ⟨t_1, ht_6, h⟩ := bd h
  refine toO (by kernel_rfl) (p_call 0 77 #[(.agg #[(.int .i16 f0.fSteps), (.slice f0_fHammers_a f0.fHammers.length f0_fHammers_c)]), (.agg (row encU32 d1.1 []).toArray), (.slice list2_a list2.length list2_c)] (by kernel_rfl) (by kernel_rfl) (fun w hm => impl_changesCode.calls f0 d1 list2 w _ f0_fHammers_a f0.fHammers.length f0_fHammers_c (hm.exRow f0_fHammers_h List.not_mem_nil) rfl list2_a list2.length list2_c (hm.exRow list2_h List.not_mem_nil) rfl ht_6) ?_)
  rintro w v w' hm ⟨rfl, hm'⟩
  refine ⟨_, hm.app hm', jkO ?_⟩
  clear hm hm'
  refine jo_f [(0, 0)] (by kernel_rfl) ?_
  refine jo_end (by kernel_rfl) ?_
  refine jx_then ?_
  refine jc_seq ?_
  refine jc_region ?_
  refine jo_f [(0, 0), (0, 0)] (by kernel_rfl) ?_
  refine jo_end (by kernel_rfl) ?_
  refine jx_then ?_
  refine jc_cond (t_1 != 0) (by kernel_rfl) (fun hc_7 => ?_) (fun hc_7 => ?_)
  · replace h := ifT hc_7 h
    refine jc_seq ?_
    refine jc_region ?_
    refine jo_f [(0, 0), (0, 0)] (by kernel_rfl) ?_
    refine toO (by kernel_rfl) (p_sA 0 2 b_3 96 1 31 encU32 (Arr.rep 96 0) (Arr.rep 96 0) (by kernel_rfl) (by kernel_rfl) (by kernel_rfl) encU32_len encU32_cell (by kernel_rfl) (jkO ?_))
    refine jo_f [(0, 0)] (by kernel_rfl) ?_
    refine jo_end (by kernel_rfl) ?_
    refine jx_then ?_
    refine jc_ret ?_
    refine jx_thenr ?_
    obtain rfl := Option.some.inj h
    exact jx_retV rfl (rq_arr (b := b_3) (T' := 31) (hh := 2) (mm := 1) encU32 (Arr.rep 96 0) (by kernel_rfl) (by kernel_rfl) encU32_len (by kernel_rfl) (rq_tmp (by kernel_rfl) rq_nil)) (fun w hm => ⟨rfl, hm.pick [] (by kernel_rfl) (by kernel_rfl)⟩)
  · replace h := ifF hc_7 h
    refine jc_skip ?_
    refine jx_then ?_
    refine jc_seq ?_
    refine jc_region ?_
    refine jo_f [(0, 0)] (by kernel_rfl) ?_
    refine toO (by kernel_rfl) (p_ldA 0 1 b_2 96 1 31 encU32 d1 (by kernel_rfl) (by kernel_rfl) (by kernel_rfl) encU32_len (by kernel_rfl) (jkO ?_))
    refine jo_f [(0, 0)] (by kernel_rfl) ?_
    obtain ⟨t_2, ht_8, h⟩ := bd h
    refine toO (by kernel_rfl) (p_call 0 78 #[(.agg #[(.int .i16 f0.fSteps), (.slice f0_fHammers_a f0.fHammers.length f0_fHammers_c)]), (.agg (row encU32 d1.1 []).toArray), (.slice list2_a list2.length list2_c)] (by kernel_rfl) (by kernel_rfl) (fun w hm => impl_makeChanges.calls f0 d1 list2 w _ f0_fHammers_a f0.fHammers.length f0_fHammers_c (hm.exRow f0_fHammers_h List.not_mem_nil) rfl list2_a list2.length list2_c (hm.exRow list2_h List.not_mem_nil) rfl ht_8) ?_)
    rintro w v w' hm ⟨rfl, hm'⟩
    refine ⟨_, hm.app hm', jkO ?_⟩
    clear hm hm'
    refine jo_f [(0, 0), (0, 0), (0, 0), (0, 0)] (by kernel_rfl) ?_
    refine toO (by kernel_rfl) (p_a 0 [0] (by kernel_rfl) (fun b => by kernel_rfl) (fun b_9 => jkO ?_))
    refine toO (by kernel_rfl) (p_sA 0 3 b_9 96 1 31 encU32 (Arr.rep 96 0) t_2.1 (by kernel_rfl) (by kernel_rfl) (by kernel_rfl) encU32_len encU32_cell (by kernel_rfl) (jkO ?_))
    refine jo_f [(0, 0), (0, 0)] (by kernel_rfl) ?_
    refine jo_end (by kernel_rfl) ?_
    refine jx_then ?_
    refine jc_seq ?_
    refine jc_region ?_
    refine toO (by kernel_rfl) (p_ldA 0 3 b_9 96 1 31 encU32 t_2.1 (by kernel_rfl) (by kernel_rfl) (by kernel_rfl) encU32_len (by kernel_rfl) (jkO ?_))
    refine jo_f [(0, 0)] (by kernel_rfl) ?_
    refine toO (by kernel_rfl) (p_sA 0 2 b_3 96 1 31 encU32 (Arr.rep 96 0) t_2.1 (by kernel_rfl) (by kernel_rfl) (by kernel_rfl) encU32_len encU32_cell (by kernel_rfl) (jkO ?_))
    refine jo_f [(0, 0)] (by kernel_rfl) ?_
    refine jo_end (by kernel_rfl) ?_
    refine jx_then ?_
    refine jc_ret ?_
    obtain rfl := Option.some.inj h
    exact jx_retV rfl (rq_arr (b := b_3) (T' := 31) (hh := 2) (mm := 1) encU32 t_2.1 (by kernel_rfl) (by kernel_rfl) encU32_len (by kernel_rfl) (rq_tmp (by kernel_rfl) rq_nil)) (fun w hm => ⟨rfl, hm.pick [] (by kernel_rfl) (by kernel_rfl)⟩)

/-! ### slices.Clone[[]impl.Change,impl.Change] -/
noncomputable def slices_Clone_Change (s0 : List GChange) : Option ((List GChange)) := (if ([] : List GChange).length + s0.length ≤ 4294967296 then some (([] : List GChange) ++ s0) else none)
set_option maxRecDepth 100000 in
theorem slices_Clone_Change.calls (s0 : List GChange) (w : World) (r : (List GChange)) (s0_a : Option Addr) (s0_an : Nat) (s0_c : Nat) (s0_h : Rw w s0_a 3 encGChange s0) (s0_hn : s0.length = s0_an) (h : slices_Clone_Change s0 = some r) :
    Calls Tryz.prog 79 #[(.slice s0_a s0_an s0_c)] w fun e w' => ∃ v, e = .returned v ∧ (∃ (o0 : Option Nat) (c0 : Nat) (s0 : List Value) (n0 : Nat), r.length = n0 ∧ (o0 ≠ none → n0 ≤ c0 ∧ s0.length = (c0 - n0) * 3) ∧ (o0 = none → r = [] ∧ c0 = 0) ∧ v = .slice (o0.map fun b => ⟨b, 0, none⟩) n0 c0 ∧ Mem w [] [⟨o0, 106, row encGChange r s0⟩] w') := by
  subst s0_hn
  rw [slices_Clone_Change] at h
  refine enter (args := [(.slice s0_a s0.length s0_c)]) Tryz.func79 rfl Tryz.ntmps79 (by kernel_rfl) (L := []) (W := []) (Mem.start w) ?_
  refine jc_seq ?_
  refine jc_region ?_
  refine jo_f [(0, 0)] (by kernel_rfl) ?_
  refine jo_end (by kernel_rfl) ?_
  refine jx_then ?_
  refine jc_seq ?_
  refine jc_seq ?_
  refine jc_region ?_
  refine jo_f [(0, 0)] (by kernel_rfl) ?_
  by_cases hn_4 : s0_a = none
  · have hx0 : s0 = [] := (nil_of s0_h hn_4)
    replace h : some [] = some r := by simpa [hx0] using h
    refine toO (by kernel_rfl) (p_nil 0 s0_a true true (by kernel_rfl) (by kernel_rfl) (by rw [hn_4]; rfl) (jkO ?_))
    refine jo_end (by kernel_rfl) ?_
    refine jx_then ?_
    refine jc_cond true (by kernel_rfl) (fun hc_5 => ?_) (fun hc_5 => nomatch hc_5)
    refine jc_seq ?_
    refine jc_region ?_
    refine jo_f [(0, 0)] (by kernel_rfl) ?_
    refine jo_end (by kernel_rfl) ?_
    refine jx_then ?_
    refine jc_ret ?_
    refine jx_thenr ?_
    obtain rfl := Option.some.inj h
    refine jx_ghost 106 encGChange ?_
    exact jx_ret [] (.slice none 0 0) [] rfl (by kernel_rfl) (by kernel_rfl) (fun w hm => ⟨none, 0, [], 0, rfl, (fun e => absurd rfl e), (fun _ => ⟨rfl, rfl⟩), rfl, hm.pick [0] (by kernel_rfl) (by kernel_rfl)⟩)
  · refine toO (by kernel_rfl) (p_nil 0 s0_a true false (by kernel_rfl) (by kernel_rfl) (by rw [Option.isNone_eq_false_iff.2 (Option.ne_none_iff_isSome.1 hn_4)]; rfl) (jkO ?_))
    refine jo_end (by kernel_rfl) ?_
    refine jx_then ?_
    refine jc_cond false (by kernel_rfl) (fun hc_6 => nomatch hc_6) (fun hc_6 => ?_)
    refine jc_skip ?_
    refine jx_then ?_
    refine jc_seq ?_
    refine jc_region ?_
    refine toO (by kernel_rfl) (p_a 0 [0] (by kernel_rfl) (fun b => by kernel_rfl) (fun b_7 => jkO ?_))
    refine jo_f [(0, 0)] (by kernel_rfl) ?_
    obtain ⟨hg_8, h⟩ := gd h
    refine toO (by kernel_rfl) (p_apn 0 0 (some b_7) 106 0 s0.length 0 3 4 s0_a encGChange ([] : List GChange) s0 [] (.agg #[(.int .i16 0), (.int .i8 0), (.bool false)]) rfl rfl (by kernel_rfl) (by kernel_rfl) (by kernel_rfl) encGChange_len encGChange_cell (fun _ => ⟨Nat.le_refl _, by simp⟩) (fun e => nomatch e) (fun w hm => (hm.exRow s0_h List.not_mem_nil)) hg_8 (by kernel_rfl) (by kernel_rfl) (fun o_9 cap_10 sp_11 hs_12 ho_13 => jkO ?_))
    refine jo_f [(0, 0)] (by kernel_rfl) ?_
    refine jo_end (by kernel_rfl) ?_
    refine jx_then ?_
    refine jc_ret ?_
    obtain rfl := Option.some.inj h
    exact jx_ret [] (.slice (o_9.map fun b => ⟨b, 0, none⟩) ((([] : List GChange) ++ s0).length) cap_10) [] rfl (by kernel_rfl) (by kernel_rfl) (fun w hm => ⟨o_9, cap_10, sp_11, ((([] : List GChange) ++ s0).length), rfl, hs_12, ho_13, rfl, hm.pick [0] (by kernel_rfl) (by kernel_rfl)⟩)

/-! ### slices.Reverse[[]impl.Change,impl.Change] -/
noncomputable def slices_Reverse_Change.k_2 (xs_1 : List GChange) : Option ((List GChange)) := some xs_1
noncomputable def slices_Reverse_Change.l_6 : ((List GChange) × Int × Int) → Option (((List GChange) × Int × Int) ⊕ ((List GChange)))
  | (xs_3, i_4, i_5) => (if (decide (i_4 < i_5)) = true then (ix xs_3 i_5).bind fun x_8 => (ix xs_3 i_4).bind fun x_9 => (ix xs_3 i_4).bind fun x_10 => (ix (xs_3.set i_4.toNat x_8) i_5).bind fun x_11 => some (.inl (((xs_3.set i_4.toNat x_8).set i_5.toNat x_9), (w64 (i_4 + 1)), (w64 (i_5 - 1)))) else some (.inr xs_3))
noncomputable def slices_Reverse_Change (s0 : List GChange) : Option ((List GChange)) := (loop slices_Reverse_Change.l_6 (s0, 0, (w64 ((s0.length : Int) - 1)))).bind fun t_7 => slices_Reverse_Change.k_2 t_7
set_option maxRecDepth 100000 in
theorem slices_Reverse_Change.calls (s0 : List GChange) (w : World) (r : (List GChange)) (s0_o : Option Nat) (s0_on : Nat) (s0_c : Nat) (s0_sp : List Value) (s0_hn : s0.length = s0_on) (s0_hs : s0_o ≠ none → s0_on ≤ s0_c ∧ s0_sp.length = (s0_c - s0_on) * 3) (s0_ho : s0_o = none → s0 = [] ∧ s0_c = 0) (hm0 : Mem w (bs [s0_o]) [⟨s0_o, 106, row encGChange s0 s0_sp⟩] w) (h : slices_Reverse_Change s0 = some r) :
    Calls Tryz.prog 80 #[(.slice (s0_o.map fun b => ⟨b, 0, none⟩) s0_on s0_c)] w fun e w' => ∃ v, e = .returned v ∧ (r.length = s0_on ∧ (s0_o = none → r = [] ∧ s0_c = 0) ∧ v = .tuple #[] ∧ Mem w (bs [s0_o]) [⟨s0_o, 106, row encGChange r s0_sp⟩] w') := by
  subst s0_hn
  rw [slices_Reverse_Change] at h
  refine enter (args := [(.slice (s0_o.map fun b => ⟨b, 0, none⟩) s0.length s0_c)]) Tryz.func80 rfl Tryz.ntmps80 (by kernel_rfl) (L := [⟨s0_o, 106, row encGChange s0 s0_sp⟩]) (W := bs [s0_o]) hm0 ?_
  refine jc_seq ?_
  refine jc_region ?_
  refine jo_f [(0, 0), (0, 0), (0, 0), (0, 0), (0, 0)] (by kernel_rfl) ?_
  refine jo_end (by kernel_rfl) ?_
  refine jx_then ?_
  refine jc_meet (fun (j : (List GChange)) => match j with | xs_1 => slices_Reverse_Change.k_2 xs_1 = some r ∧ (xs_1.length = s0.length) ∧ ((s0_o = none → xs_1 = [] ∧ s0_c = 0))) (fun (j : (List GChange)) => match j with | xs_1 => []) (fun (j : (List GChange)) => match j with | xs_1 => [⟨s0_o, 106, row encGChange xs_1 s0_sp⟩]) ?_ ?_
  · refine jc_block ?_
    obtain ⟨t_7, ht_84, hr_70⟩ := bd h
    refine jc_loop (fun (s : (List GChange) × Int × Int) (x : Unit) => match s, x with | ⟨xs_3, i_4, i_5⟩, _ => (xs_3.length = s0.length) ∧ ((s0_o = none → xs_3 = [] ∧ s0_c = 0))) (fun (s : (List GChange) × Int × Int) (x : Unit) => match s, x with | ⟨xs_3, i_4, i_5⟩, _ => [(0, [], (.slice (s0_o.map fun b => ⟨b, 0, none⟩) s0.length s0_c)), (2, [], (.int .i64 i_4)), (3, [], (.int .i64 i_5))]) (fun (s : (List GChange) × Int × Int) (x : Unit) => match s, x with | ⟨xs_3, i_4, i_5⟩, _ => [⟨s0_o, 106, row encGChange xs_3 s0_sp⟩]) ht_84 () ⟨rfl, s0_ho⟩ (by kernel_rfl) [0] (by kernel_rfl) (by kernel_rfl) ?_
    rintro ⟨xs_3, i_4, i_5⟩ _ y_71 ⟨hn_69, ho_68⟩ h
    rw [slices_Reverse_Change.l_6] at h
    refine jc_seq ?_
    refine jc_seq ?_
    refine jc_region ?_
    refine jo_f [(0, 0), (0, 0), (0, 0)] (by kernel_rfl) ?_
    refine jo_end (by kernel_rfl) ?_
    refine jx_then ?_
    refine jc_cond (decide (i_4 < i_5)) (by kernel_rfl) (fun hc_73 => ?_) (fun hc_73 => ?_)
    · replace h := ifT hc_73 h
      refine jc_skip ?_
      refine jx_then ?_
      refine jc_seq ?_
      refine jc_block ?_
      refine jc_draw [] 16 (by kernel_rfl) (by kernel_rfl) ?_
      refine jd_f [⟨0, 0, 0⟩, ⟨1, 0, 0⟩, ⟨2, 0, 0⟩, ⟨3, 0, 0⟩, ⟨4, 0, 0⟩, ⟨5, 0, 0⟩, ⟨8, 0, 0⟩, ⟨9, 0, 0⟩] 8 (by kernel_rfl) (by kernel_rfl) (fun w h => h.pick [] (by kernel_rfl) (by kernel_rfl)) (by kernel_rfl) (by kernel_rfl) ?_
      obtain ⟨x_8, hx_77, h⟩ := bd h
      refine jd_v 6 0 (by kernel_rfl) (fun w h => h.pick [] (by kernel_rfl) (by kernel_rfl)) (by kernel_rfl) (by kernel_rfl) _ (fun w hm => idx_run (a := (s0_o.map fun b => ⟨b, 0, none⟩)) (len := s0.length) (s := 3) (j := i_5) (by kernel_rfl) (ix_some hx_77).1 (ltn hx_77 hn_69) (spo ho_68 hx_77)) ?_
      obtain ⟨x_9, hx_78, h⟩ := bd h
      refine jd_v 10 0 (by kernel_rfl) (fun w h => h.pick [] (by kernel_rfl) (by kernel_rfl)) (by kernel_rfl) (by kernel_rfl) _ (fun w hm => idx_run (a := (s0_o.map fun b => ⟨b, 0, none⟩)) (len := s0.length) (s := 3) (j := i_4) (by kernel_rfl) (ix_some hx_78).1 (ltn hx_78 hn_69) (spo ho_68 hx_78)) ?_
      refine toD2 7 11 (by kernel_rfl) ?_ ?_
      · refine p_ld 0 (aB (s0_o.map fun b => ⟨b, 0, none⟩)) (aO (s0_o.map fun b => ⟨b, 0, none⟩) + i_5.toNat * 3) true (encGChange x_8) (by kernel_rfl) (by kernel_rfl) (by kernel_rfl) (fun w hm => ((hm.ownRow (hh := 0) (o := s0_o) (T := 106) (enc := encGChange) (xs := xs_3) (sp := s0_sp) (by kernel_rfl) (fun e => (ho_68 e).1) encGChange_len).at hx_77)) (jkD (fun w h => h.pick [] (by kernel_rfl) (by kernel_rfl)) ?_)
        refine toD 11 (by kernel_rfl) (p_ld 0 (aB (s0_o.map fun b => ⟨b, 0, none⟩)) (aO (s0_o.map fun b => ⟨b, 0, none⟩) + i_4.toNat * 3) true (encGChange x_9) (by kernel_rfl) (by kernel_rfl) (by kernel_rfl) (fun w hm => ((hm.ownRow (hh := 0) (o := s0_o) (T := 106) (enc := encGChange) (xs := xs_3) (sp := s0_sp) (by kernel_rfl) (fun e => (ho_68 e).1) encGChange_len).at hx_78)) (jkD (fun w h => h.pick [] (by kernel_rfl) (by kernel_rfl)) ?_))
        obtain ⟨x_10, hx_79, h⟩ := bd h
        refine jd_v 12 0 (by kernel_rfl) (fun w h => h.pick [] (by kernel_rfl) (by kernel_rfl)) (by kernel_rfl) (by kernel_rfl) _ (fun w hm => idx_run (a := (s0_o.map fun b => ⟨b, 0, none⟩)) (len := s0.length) (s := 3) (j := i_4) (by kernel_rfl) (ix_some hx_79).1 (ltn hx_79 hn_69) (spo ho_68 hx_79)) ?_
        refine toD 13 (by kernel_rfl) (p_strO 0 0 s0_o 106 encGChange xs_3 s0_sp i_4 x_8 3 0 [(.int .i16 x_8.fStep), (.int .i8 x_8.fTrack), (.bool x_8.fPut)] (by kernel_rfl) (by kernel_rfl) (by kernel_rfl) (fun e => (ho_68 e).1) encGChange_len hx_79 (by kernel_rfl) (by kernel_rfl) (jkD (fun w h => h.pick [] (by kernel_rfl) (by kernel_rfl)) ?_))
        obtain ⟨x_11, hx_80, h⟩ := bd h
        refine jd_v 14 0 (by kernel_rfl) (fun w h => h.pick [] (by kernel_rfl) (by kernel_rfl)) (by kernel_rfl) (by kernel_rfl) _ (fun w hm => idx_run (a := (s0_o.map fun b => ⟨b, 0, none⟩)) (len := s0.length) (s := 3) (j := i_5) (by kernel_rfl) (ix_some hx_80).1 (ltn hx_80 (List.length_set.trans hn_69)) (spo (set_ho ho_68) hx_80)) ?_
        refine toD 15 (by kernel_rfl) (p_strO 0 0 s0_o 106 encGChange (xs_3.set i_4.toNat x_8) s0_sp i_5 x_9 3 0 [(.int .i16 x_9.fStep), (.int .i8 x_9.fTrack), (.bool x_9.fPut)] (by kernel_rfl) (by kernel_rfl) (by kernel_rfl) (fun e => ((set_ho ho_68) e).1) encGChange_len hx_80 (by kernel_rfl) (by kernel_rfl) (jkD (fun w h => h.pick [] (by kernel_rfl) (by kernel_rfl)) ?_))
        refine jd_end (by kernel_rfl) ?_
        refine jx_inn ?_
        refine jx_then ?_
        refine jc_region ?_
        refine jo_f [(0, 0), (0, 0), (0, 0), (0, 0), (0, 0), (0, 0)] (by kernel_rfl) ?_
        refine jo_end (by kernel_rfl) ?_
        exact jx_back (((xs_3.set i_4.toNat x_8).set i_5.toNat x_9), (w64 (i_4 + 1)), (w64 (i_5 - 1))) () (Option.some.inj h).symm ⟨(List.length_set.trans (List.length_set.trans hn_69)), (set_ho (set_ho ho_68))⟩ [0] (by kernel_rfl) (by kernel_rfl) (by kernel_rfl)
      · refine p_ld 0 (aB (s0_o.map fun b => ⟨b, 0, none⟩)) (aO (s0_o.map fun b => ⟨b, 0, none⟩) + i_4.toNat * 3) true (encGChange x_9) (by kernel_rfl) (by kernel_rfl) (by kernel_rfl) (fun w hm => ((hm.ownRow (hh := 0) (o := s0_o) (T := 106) (enc := encGChange) (xs := xs_3) (sp := s0_sp) (by kernel_rfl) (fun e => (ho_68 e).1) encGChange_len).at hx_78)) (jkD (fun w h => h.pick [] (by kernel_rfl) (by kernel_rfl)) ?_)
        refine toD 7 (by kernel_rfl) (p_ld 0 (aB (s0_o.map fun b => ⟨b, 0, none⟩)) (aO (s0_o.map fun b => ⟨b, 0, none⟩) + i_5.toNat * 3) true (encGChange x_8) (by kernel_rfl) (by kernel_rfl) (by kernel_rfl) (fun w hm => ((hm.ownRow (hh := 0) (o := s0_o) (T := 106) (enc := encGChange) (xs := xs_3) (sp := s0_sp) (by kernel_rfl) (fun e => (ho_68 e).1) encGChange_len).at hx_77)) (jkD (fun w h => h.pick [] (by kernel_rfl) (by kernel_rfl)) ?_))
        obtain ⟨x_10, hx_81, h⟩ := bd h
        refine jd_v 12 0 (by kernel_rfl) (fun w h => h.pick [] (by kernel_rfl) (by kernel_rfl)) (by kernel_rfl) (by kernel_rfl) _ (fun w hm => idx_run (a := (s0_o.map fun b => ⟨b, 0, none⟩)) (len := s0.length) (s := 3) (j := i_4) (by kernel_rfl) (ix_some hx_81).1 (ltn hx_81 hn_69) (spo ho_68 hx_81)) ?_
        refine toD 13 (by kernel_rfl) (p_strO 0 0 s0_o 106 encGChange xs_3 s0_sp i_4 x_8 3 0 [(.int .i16 x_8.fStep), (.int .i8 x_8.fTrack), (.bool x_8.fPut)] (by kernel_rfl) (by kernel_rfl) (by kernel_rfl) (fun e => (ho_68 e).1) encGChange_len hx_81 (by kernel_rfl) (by kernel_rfl) (jkD (fun w h => h.pick [] (by kernel_rfl) (by kernel_rfl)) ?_))
        obtain ⟨x_11, hx_82, h⟩ := bd h
        refine jd_v 14 0 (by kernel_rfl) (fun w h => h.pick [] (by kernel_rfl) (by kernel_rfl)) (by kernel_rfl) (by kernel_rfl) _ (fun w hm => idx_run (a := (s0_o.map fun b => ⟨b, 0, none⟩)) (len := s0.length) (s := 3) (j := i_5) (by kernel_rfl) (ix_some hx_82).1 (ltn hx_82 (List.length_set.trans hn_69)) (spo (set_ho ho_68) hx_82)) ?_
        refine toD 15 (by kernel_rfl) (p_strO 0 0 s0_o 106 encGChange (xs_3.set i_4.toNat x_8) s0_sp i_5 x_9 3 0 [(.int .i16 x_9.fStep), (.int .i8 x_9.fTrack), (.bool x_9.fPut)] (by kernel_rfl) (by kernel_rfl) (by kernel_rfl) (fun e => ((set_ho ho_68) e).1) encGChange_len hx_82 (by kernel_rfl) (by kernel_rfl) (jkD (fun w h => h.pick [] (by kernel_rfl) (by kernel_rfl)) ?_))
        refine jd_end (by kernel_rfl) ?_
        refine jx_inn ?_
        refine jx_then ?_
        refine jc_region ?_
        refine jo_f [(0, 0), (0, 0), (0, 0), (0, 0), (0, 0), (0, 0)] (by kernel_rfl) ?_
        refine jo_end (by kernel_rfl) ?_
        exact jx_back (((xs_3.set i_4.toNat x_8).set i_5.toNat x_9), (w64 (i_4 + 1)), (w64 (i_5 - 1))) () (Option.some.inj h).symm ⟨(List.length_set.trans (List.length_set.trans hn_69)), (set_ho (set_ho ho_68))⟩ [0] (by kernel_rfl) (by kernel_rfl) (by kernel_rfl)
    · replace h := ifF hc_73 h
      refine jc_exit ?_
      refine jx_thenx ?_
      refine jx_leave xs_3 (Option.some.inj h).symm (fun e_83 => ?_)
      subst e_83
      refine jx_ine ?_
      exact jx_meet xs_3 ⟨hr_70, hn_69, ho_68⟩ (by kernel_rfl) [0] (by kernel_rfl) (by kernel_rfl)
  · rintro xs_1 ⟨h, hn_43, ho_42⟩
    replace h : slices_Reverse_Change.k_2 xs_1 = some r := h
    rw [slices_Reverse_Change.k_2] at h
    refine jx_fall ?_
    obtain rfl := Option.some.inj h
    exact jx_ret [] (.tuple #[]) [] rfl (by kernel_rfl) (by kernel_rfl) (fun w hm => ⟨hn_43, ho_42, rfl, hm.pick [0] (by kernel_rfl) (by kernel_rfl)⟩)

/-! ### impl.UndoChanges -/
noncomputable def impl_UndoChanges.k_4 (xs_3 : List GChange) : Option ((List GChange) × Int) := some (xs_3, 0)
noncomputable def impl_UndoChanges.l_7 (t_1 : (List GChange)) : ((List GChange) × Int) → Option (((List GChange) × Int) ⊕ ((List GChange)))
  | (xs_5, i_6) => (if (decide (i_6 < (t_1.length : Int))) = true then (ix xs_5 i_6).bind fun x_9 => (ix xs_5 i_6).bind fun x_10 => some (.inl ((xs_5.set i_6.toNat (⟨x_10.fStep, x_10.fTrack, (!x_9.fPut)⟩ : GChange)), (w64 (i_6 + 1)))) else some (.inr xs_5))
noncomputable def impl_UndoChanges (list0 : List GChange) : Option ((List GChange) × Int) := (if (decide ((list0.length : Int) > 2400)) = true then some ([], 3) else (slices_Clone_Change list0).bind fun t_1 => (slices_Reverse_Change t_1).bind fun t_2 => (loop (impl_UndoChanges.l_7 t_1) (t_2, 0)).bind fun t_8 => impl_UndoChanges.k_4 t_8)
set_option maxRecDepth 100000 in
theorem impl_UndoChanges.calls (list0 : List GChange) (w : World) (r : (List GChange) × Int) (list0_a : Option Addr) (list0_an : Nat) (list0_c : Nat) (list0_h : Rw w list0_a 3 encGChange list0) (list0_hn : list0.length = list0_an) (h : impl_UndoChanges list0 = some r) :
    Calls Tryz.prog 14 #[(.slice list0_a list0_an list0_c)] w fun e w' => ∃ v, e = .returned v ∧ (∃ (o0 : Option Nat) (c0 : Nat) (s0 : List Value) (n0 : Nat), r.1.length = n0 ∧ (o0 ≠ none → n0 ≤ c0 ∧ s0.length = (c0 - n0) * 3) ∧ (o0 = none → r.1 = [] ∧ c0 = 0) ∧ v = .tuple #[.slice (o0.map fun b => ⟨b, 0, none⟩) n0 c0, (.int .i64 r.2)] ∧ Mem w [] [⟨o0, 106, row encGChange r.1 s0⟩] w') := by
  subst list0_hn
  rw [impl_UndoChanges] at h
  refine enter (args := [(.slice list0_a list0.length list0_c)]) Tryz.func14 rfl Tryz.ntmps14 (by kernel_rfl) (L := []) (W := []) (Mem.start w) ?_
  refine jc_seq ?_
  refine jc_region ?_
  refine jo_f [(0, 0), (0, 0)] (by kernel_rfl) ?_
  refine jo_end (by kernel_rfl) ?_
  refine jx_then ?_
  refine jc_seq ?_
  refine jc_seq ?_
  refine jc_region ?_
  refine jo_f [(0, 0), (0, 0), (0, 0)] (by kernel_rfl) ?_
  refine jo_end (by kernel_rfl) ?_
  refine jx_then ?_
  refine jc_cond (decide ((list0.length : Int) > 2400)) (by kernel_rfl) (fun hc_2 => ?_) (fun hc_2 => ?_)
  · replace h := ifT hc_2 h
    refine jc_seq ?_
    refine jc_region ?_
    refine jo_f [(0, 0), (0, 0)] (by kernel_rfl) ?_
    refine jo_end (by kernel_rfl) ?_
    refine jx_then ?_
    refine jc_ret ?_
    refine jx_thenr ?_
    obtain rfl := Option.some.inj h
    refine jx_ghost 106 encGChange ?_
    exact jx_ret [] (.tuple #[(.slice none 0 0), (.int .i64 3)]) [] rfl (by kernel_rfl) (by kernel_rfl) (fun w hm => ⟨none, 0, [], 0, rfl, (fun e => absurd rfl e), (fun _ => ⟨rfl, rfl⟩), rfl, hm.pick [0] (by kernel_rfl) (by kernel_rfl)⟩)
  · replace h := ifF hc_2 h
    refine jc_skip ?_
    refine jx_then ?_
    refine jc_seq ?_
    refine jc_region ?_
    refine jo_f [(0, 0)] (by kernel_rfl) ?_
    obtain ⟨t_1, ht_3, h⟩ := bd h
    refine toO (by kernel_rfl) (p_call 0 79 #[(.slice list0_a list0.length list0_c)] (by kernel_rfl) (by kernel_rfl) (fun w hm => slices_Clone_Change.calls list0 w _ list0_a list0.length list0_c (hm.exRow list0_h List.not_mem_nil) rfl ht_3) ?_)
    rintro w v w' hm ⟨o_4, cap_5, sp_6, _, rfl, hs_7, ho_8, rfl, hm'⟩
    refine ⟨_, hm.app hm', jkO ?_⟩
    clear hm hm'
    refine jo_f [(0, 0)] (by kernel_rfl) ?_
    refine jo_end (by kernel_rfl) ?_
    refine jx_then ?_
    refine jc_seq ?_
    refine jc_region ?_
    refine jo_f [(0, 0)] (by kernel_rfl) ?_
    obtain ⟨t_2, ht_9, h⟩ := bd h
    refine toO (by kernel_rfl) (p_call 0 80 #[(.slice (o_4.map fun b => ⟨b, 0, none⟩) t_1.length cap_5)] (by kernel_rfl) (by kernel_rfl) (fun w hm => slices_Reverse_Change.calls t_1 w _ o_4 t_1.length cap_5 sp_6 rfl hs_7 ho_8 (hm.pass (N := [⟨o_4, 106, row encGChange t_1 sp_6⟩]) [0] (by kernel_rfl) (by kernel_rfl)) ht_9) ?_)
    rintro w v w' hm ⟨hn_10, ho_11, rfl, hm'⟩
    refine ⟨_, hm.appW (ps := [(0, ⟨o_4, 106, row encGChange t_2 sp_6⟩)]) (N := []) hm' (by kernel_rfl) (by kernel_rfl), jkO ?_⟩
    clear hm hm'
    refine jo_end (by kernel_rfl) ?_
    refine jx_then ?_
    refine jc_seq ?_
    refine jc_seq ?_
    refine jc_region ?_
    refine jo_f [(0, 0), (0, 0), (0, 0)] (by kernel_rfl) ?_
    refine jo_end (by kernel_rfl) ?_
    refine jx_then ?_
    refine jc_meet (fun (j : (List GChange)) => match j with | xs_3 => impl_UndoChanges.k_4 xs_3 = some r ∧ (xs_3.length = t_1.length) ∧ ((o_4 = none → xs_3 = [] ∧ cap_5 = 0))) (fun (j : (List GChange)) => match j with | xs_3 => [(2, [], (.slice none 0 0)), (3, [], (.int .i64 0)), (4, [], (.slice (o_4.map fun b => ⟨b, 0, none⟩) t_1.length cap_5))]) (fun (j : (List GChange)) => match j with | xs_3 => [⟨o_4, 106, row encGChange xs_3 sp_6⟩]) ?_ ?_
    · refine jc_block ?_
      obtain ⟨t_8, ht_95, hr_88⟩ := bd h
      refine jc_loop (fun (s : (List GChange) × Int) (x : Unit) => match s, x with | ⟨xs_5, i_6⟩, _ => (xs_5.length = t_1.length) ∧ ((o_4 = none → xs_5 = [] ∧ cap_5 = 0))) (fun (s : (List GChange) × Int) (x : Unit) => match s, x with | ⟨xs_5, i_6⟩, _ => [(2, [], (.slice none 0 0)), (3, [], (.int .i64 0)), (4, [], (.slice (o_4.map fun b => ⟨b, 0, none⟩) t_1.length cap_5)), (14, [], (.int .i64 (t_1.length : Int))), (15, [], (.int .i64 i_6))]) (fun (s : (List GChange) × Int) (x : Unit) => match s, x with | ⟨xs_5, i_6⟩, _ => [⟨o_4, 106, row encGChange xs_5 sp_6⟩]) ht_95 () ⟨hn_10, ho_11⟩ (by kernel_rfl) [0] (by kernel_rfl) (by kernel_rfl) ?_
      rintro ⟨xs_5, i_6⟩ _ y_89 ⟨hn_87, ho_86⟩ h
      rw [impl_UndoChanges.l_7] at h
      refine jc_seq ?_
      refine jc_region ?_
      refine jo_f [(0, 0)] (by kernel_rfl) ?_
      refine jo_end (by kernel_rfl) ?_
      refine jx_then ?_
      refine jc_seq ?_
      refine jc_cond (decide (i_6 < (t_1.length : Int))) (by kernel_rfl) (fun hc_91 => ?_) (fun hc_91 => ?_)
      · replace h := ifT hc_91 h
        refine jc_skip ?_
        refine jx_then ?_
        refine jc_seq ?_
        refine jc_block ?_
        refine jc_seq ?_
        refine jc_region ?_
        refine jo_f [(0, 0), (0, 0)] (by kernel_rfl) ?_
        refine jo_end (by kernel_rfl) ?_
        refine jx_then ?_
        refine jc_region ?_
        refine jo_f [(0, 0), (0, 0), (0, 0), (0, 0)] (by kernel_rfl) ?_
        obtain ⟨x_9, hx_92, h⟩ := bd h
        refine toO (by kernel_rfl) (p_idx 0 (o_4.map fun b => ⟨b, 0, none⟩) t_1.length i_6 3 (by kernel_rfl) (by kernel_rfl) (ix_some hx_92).1 (ltn hx_92 hn_87) (spo ho_86 hx_92) (jkO ?_))
        refine jo_f [(0, 0)] (by kernel_rfl) ?_
        refine toO (by kernel_rfl) (p_ld 0 (aB (o_4.map fun b => ⟨b, 0, none⟩)) (aO (o_4.map fun b => ⟨b, 0, none⟩) + i_6.toNat * 3 + 2) false (((encGChange x_9).drop 2).take 1) (by kernel_rfl) (by kernel_rfl) (by kernel_rfl) (fun w hm => (((hm.ownRow (hh := 0) (o := o_4) (T := 106) (enc := encGChange) (xs := xs_5) (sp := sp_6) (by kernel_rfl) (fun e => (ho_86 e).1) encGChange_len).at hx_92).sub 2 1)) (jkO ?_))
        refine jo_f [(0, 0)] (by kernel_rfl) ?_
        obtain ⟨x_10, hx_93, h⟩ := bd h
        refine toO (by kernel_rfl) (p_idx 0 (o_4.map fun b => ⟨b, 0, none⟩) t_1.length i_6 3 (by kernel_rfl) (by kernel_rfl) (ix_some hx_93).1 (ltn hx_93 hn_87) (spo ho_86 hx_93) (jkO ?_))
        refine jo_f [(0, 0)] (by kernel_rfl) ?_
        refine toO (by kernel_rfl) (p_strO 0 0 o_4 106 encGChange xs_5 sp_6 i_6 (⟨x_10.fStep, x_10.fTrack, (!x_9.fPut)⟩ : GChange) 3 2 [(.bool (!x_9.fPut))] (by kernel_rfl) (by kernel_rfl) (by kernel_rfl) (fun e => (ho_86 e).1) encGChange_len hx_93 (by kernel_rfl) (by kernel_rfl) (jkO ?_))
        refine jo_end (by kernel_rfl) ?_
        refine jx_inn ?_
        refine jx_then ?_
        refine jc_region ?_
        refine jo_f [(0, 0), (0, 0)] (by kernel_rfl) ?_
        refine jo_end (by kernel_rfl) ?_
        exact jx_back ((xs_5.set i_6.toNat (⟨x_10.fStep, x_10.fTrack, (!x_9.fPut)⟩ : GChange)), (w64 (i_6 + 1))) () (Option.some.inj h).symm ⟨(List.length_set.trans hn_87), (set_ho ho_86)⟩ [0] (by kernel_rfl) (by kernel_rfl) (by kernel_rfl)
      · replace h := ifF hc_91 h
        refine jc_exit ?_
        refine jx_thenx ?_
        refine jx_leave xs_5 (Option.some.inj h).symm (fun e_94 => ?_)
        subst e_94
        refine jx_ine ?_
        exact jx_meet xs_5 ⟨hr_88, hn_87, ho_86⟩ (by kernel_rfl) [0] (by kernel_rfl) (by kernel_rfl)
    · rintro xs_3 ⟨h, hn_75, ho_74⟩
      replace h : impl_UndoChanges.k_4 xs_3 = some r := h
      rw [impl_UndoChanges.k_4] at h
      refine jx_then ?_
      refine jc_seq ?_
      refine jc_region ?_
      refine jo_f [(0, 0), (0, 0), (0, 0)] (by kernel_rfl) ?_
      refine jo_end (by kernel_rfl) ?_
      refine jx_then ?_
      refine jc_ret ?_
      obtain rfl := Option.some.inj h
      exact jx_ret [] (.tuple #[(.slice (o_4.map fun b => ⟨b, 0, none⟩) t_1.length cap_5), (.int .i64 0)]) [] rfl (by kernel_rfl) (by kernel_rfl) (fun w hm => ⟨o_4, cap_5, sp_6, t_1.length, hn_75, hs_7, ho_74, rfl, hm.pick [0] (by kernel_rfl) (by kernel_rfl)⟩)

/-! ### spec.UndoChanges -/
noncomputable def spec_UndoChanges.k_2 (xs_1 : List GChange) : Option ((List GChange) × Int) := some (xs_1, 0)
noncomputable def spec_UndoChanges.l_5 (list0 : List GChange) : ((List GChange) × Int) → Option (((List GChange) × Int) ⊕ ((List GChange)))
  | (xs_3, i_4) => (if (decide (i_4 ≥ 0)) = true then (ix list0 i_4).bind fun x_7 => (ix list0 i_4).bind fun x_8 => (ix list0 i_4).bind fun x_9 => (if xs_3.length + [(⟨x_7.fStep, x_8.fTrack, (!x_9.fPut)⟩ : GChange)].length ≤ 4294967296 then some (.inl ((xs_3 ++ [(⟨x_7.fStep, x_8.fTrack, (!x_9.fPut)⟩ : GChange)]), (w64 (i_4 - 1)))) else none) else some (.inr xs_3))
noncomputable def spec_UndoChanges (list0 : List GChange) : Option ((List GChange) × Int) := (if (decide ((list0.length : Int) > 2400)) = true then some (([] : List GChange), 3) else (loop (spec_UndoChanges.l_5 list0) (([] : List GChange), (w64 ((list0.length : Int) - 1)))).bind fun t_6 => spec_UndoChanges.k_2 t_6)
set_option maxRecDepth 100000 in
theorem spec_UndoChanges.calls (list0 : List GChange) (w : World) (r : (List GChange) × Int) (list0_a : Option Addr) (list0_an : Nat) (list0_c : Nat) (list0_h : Rw w list0_a 3 encGChange list0) (list0_hn : list0.length = list0_an) (h : spec_UndoChanges list0 = some r) :
    Calls Tryz.prog 15 #[(.slice list0_a list0_an list0_c)] w fun e w' => ∃ v, e = .returned v ∧ (∃ (o0 : Option Nat) (c0 : Nat) (s0 : List Value) (n0 : Nat), r.1.length = n0 ∧ (o0 ≠ none → n0 ≤ c0 ∧ s0.length = (c0 - n0) * 3) ∧ (o0 = none → r.1 = [] ∧ c0 = 0) ∧ v = .tuple #[.slice (o0.map fun b => ⟨b, 0, none⟩) n0 c0, (.int .i64 r.2)] ∧ Mem w [] [⟨o0, 106, row encGChange r.1 s0⟩] w') := by
  subst list0_hn
  rw [spec_UndoChanges] at h
  refine enter (args := [(.slice list0_a list0.length list0_c)]) Tryz.func15 rfl Tryz.ntmps15 (by kernel_rfl) (L := []) (W := []) (Mem.start w) ?_
  refine jc_seq ?_
  refine jc_region ?_
  refine jo_f [(0, 0), (0, 0)] (by kernel_rfl) ?_
  refine jo_end (by kernel_rfl) ?_
  refine jx_then ?_
  refine jc_seq ?_
  refine jc_seq ?_
  refine jc_region ?_
  refine jo_f [(0, 0), (0, 0), (0, 0)] (by kernel_rfl) ?_
  refine jo_end (by kernel_rfl) ?_
  refine jx_then ?_
  refine jc_cond (decide ((list0.length : Int) > 2400)) (by kernel_rfl) (fun hc_3 => ?_) (fun hc_3 => ?_)
  · replace h := ifT hc_3 h
    refine jc_seq ?_
    refine jc_region ?_
    refine toO (by kernel_rfl) (p_a 0 [0] (by kernel_rfl) (fun b => by kernel_rfl) (fun b_4 => jkO ?_))
    refine jo_f [(0, 0), (0, 0)] (by kernel_rfl) ?_
    refine jo_end (by kernel_rfl) ?_
    refine jx_then ?_
    refine jc_ret ?_
    refine jx_thenr ?_
    obtain rfl := Option.some.inj h
    exact jx_ret [] (.tuple #[(.slice (some ⟨b_4, 0, none⟩) 0 0), (.int .i64 3)]) [] rfl (by kernel_rfl) (by kernel_rfl) (fun w hm => ⟨(some b_4), 0, [], 0, rfl, (fun _ => ⟨Nat.le_refl _, by simp⟩), (fun e => nomatch e), rfl, hm.pick [0] (by kernel_rfl) (by kernel_rfl)⟩)
  · replace h := ifF hc_3 h
    refine jc_skip ?_
    refine jx_then ?_
    refine jc_seq ?_
    refine jc_region ?_
    refine toO (by kernel_rfl) (p_a 0 [0] (by kernel_rfl) (fun b => by kernel_rfl) (fun b_5 => jkO ?_))
    refine jo_f [(0, 0)] (by kernel_rfl) ?_
    refine jo_end (by kernel_rfl) ?_
    refine jx_then ?_
    refine jc_seq ?_
    refine jc_seq ?_
    refine jc_region ?_
    refine jo_f [(0, 0), (0, 0), (0, 0), (0, 0)] (by kernel_rfl) ?_
    refine jo_end (by kernel_rfl) ?_
    refine jx_then ?_
    refine jc_meet (fun (j : (List GChange) × (Option Nat) × Nat × (List Value) × Nat) => match j with | ⟨xs_1, o_204, cap_205, sp_206, n_207⟩ => spec_UndoChanges.k_2 xs_1 = some r ∧ (xs_1.length = n_207) ∧ ((o_204 ≠ none → n_207 ≤ cap_205 ∧ sp_206.length = (cap_205 - n_207) * 3)) ∧ ((o_204 = none → xs_1 = [] ∧ cap_205 = 0))) (fun (j : (List GChange) × (Option Nat) × Nat × (List Value) × Nat) => match j with | ⟨xs_1, o_204, cap_205, sp_206, n_207⟩ => [(2, [], (.slice none 0 0)), (3, [], (.int .i64 0)), (4, [], (.slice (o_204.map fun b => ⟨b, 0, none⟩) n_207 cap_205))]) (fun (j : (List GChange) × (Option Nat) × Nat × (List Value) × Nat) => match j with | ⟨xs_1, o_204, cap_205, sp_206, n_207⟩ => [⟨o_204, 106, row encGChange xs_1 sp_206⟩]) ?_ ?_
    · refine jc_block ?_
      obtain ⟨t_6, ht_273, hr_254⟩ := bd h
      refine jc_loop (fun (s : (List GChange) × Int) (x : (Option Nat) × Nat × (List Value) × Nat) => match s, x with | ⟨xs_3, i_4⟩, ⟨o_248, cap_249, sp_250, n_251⟩ => (xs_3.length = n_251) ∧ ((o_248 ≠ none → n_251 ≤ cap_249 ∧ sp_250.length = (cap_249 - n_251) * 3)) ∧ ((o_248 = none → xs_3 = [] ∧ cap_249 = 0))) (fun (s : (List GChange) × Int) (x : (Option Nat) × Nat × (List Value) × Nat) => match s, x with | ⟨xs_3, i_4⟩, ⟨o_248, cap_249, sp_250, n_251⟩ => [(0, [], (.slice list0_a list0.length list0_c)), (2, [], (.slice none 0 0)), (3, [], (.int .i64 0)), (4, [], (.slice (o_248.map fun b => ⟨b, 0, none⟩) n_251 cap_249)), (5, [], (.int .i64 i_4))]) (fun (s : (List GChange) × Int) (x : (Option Nat) × Nat × (List Value) × Nat) => match s, x with | ⟨xs_3, i_4⟩, ⟨o_248, cap_249, sp_250, n_251⟩ => [⟨o_248, 106, row encGChange xs_3 sp_250⟩]) ht_273 ⟨(some b_5), 0, [], 0⟩ ⟨rfl, (fun _ => ⟨Nat.le_refl _, by simp⟩), (fun e => nomatch e)⟩ (by kernel_rfl) [0] (by kernel_rfl) (by kernel_rfl) ?_
      rintro ⟨xs_3, i_4⟩ ⟨o_248, cap_249, sp_250, n_251⟩ y_255 ⟨rfl, hs_252, ho_253⟩ h
      rw [spec_UndoChanges.l_5] at h
      refine jc_seq ?_
      refine jc_seq ?_
      refine jc_region ?_
      refine jo_f [(0, 0), (0, 0)] (by kernel_rfl) ?_
      refine jo_end (by kernel_rfl) ?_
      refine jx_then ?_
      refine jc_cond (decide (i_4 ≥ 0)) (by kernel_rfl) (fun hc_257 => ?_) (fun hc_257 => ?_)
      · replace h := ifT hc_257 h
        refine jc_skip ?_
        refine jx_then ?_
        refine jc_seq ?_
        refine jc_block ?_
        refine jc_draw [] 21 (by kernel_rfl) (by kernel_rfl) ?_
        refine jd_f [⟨0, 0, 0⟩, ⟨1, 0, 0⟩, ⟨2, 0, 0⟩, ⟨6, 0, 0⟩, ⟨7, 0, 0⟩, ⟨11, 0, 0⟩, ⟨12, 0, 0⟩] 14 (by kernel_rfl) (by kernel_rfl) (fun w h => h.pick [] (by kernel_rfl) (by kernel_rfl)) (by kernel_rfl) (by kernel_rfl) ?_
        obtain ⟨x_7, hx_262, h⟩ := bd h
        refine jd_v 3 0 (by kernel_rfl) (fun w h => h.pick [] (by kernel_rfl) (by kernel_rfl)) (by kernel_rfl) (by kernel_rfl) _ (fun w hm => idx_run (a := list0_a) (len := list0.length) (s := 3) (j := i_4) (by kernel_rfl) (ix_some hx_262).1 (ltn hx_262 rfl) (list0_h.sp hx_262)) ?_
        refine jd_f [⟨4, 0, 0⟩] 12 (by kernel_rfl) (by kernel_rfl) (fun w h => h.pick [] (by kernel_rfl) (by kernel_rfl)) (by kernel_rfl) (by kernel_rfl) ?_
        refine jd_v 5 0 (by kernel_rfl) (fun w h => h.pick [] (by kernel_rfl) (by kernel_rfl)) (by kernel_rfl) (by kernel_rfl) _ (fun w hm => ld_run (b := aB list0_a) (off := (aO list0_a + i_4.toNat * 3)) (s := 1) (agg := false) (vs := (((encGChange x_7).drop 0).take 1)) (by kernel_rfl) (by kernel_rfl) (.inr rfl) (((hm.exRow list0_h List.not_mem_nil).at hx_262).sub 0 1)) ?_
        obtain ⟨x_8, hx_263, h⟩ := bd h
        refine jd_v 8 0 (by kernel_rfl) (fun w h => h.pick [] (by kernel_rfl) (by kernel_rfl)) (by kernel_rfl) (by kernel_rfl) _ (fun w hm => idx_run (a := list0_a) (len := list0.length) (s := 3) (j := i_4) (by kernel_rfl) (ix_some hx_263).1 (ltn hx_263 rfl) (list0_h.sp hx_263)) ?_
        refine jd_f [⟨9, 0, 0⟩] 9 (by kernel_rfl) (by kernel_rfl) (fun w h => h.pick [] (by kernel_rfl) (by kernel_rfl)) (by kernel_rfl) (by kernel_rfl) ?_
        refine jd_v 10 0 (by kernel_rfl) (fun w h => h.pick [] (by kernel_rfl) (by kernel_rfl)) (by kernel_rfl) (by kernel_rfl) _ (fun w hm => ld_run (b := aB list0_a) (off := (aO list0_a + i_4.toNat * 3 + 1)) (s := 1) (agg := false) (vs := (((encGChange x_8).drop 1).take 1)) (by kernel_rfl) (by kernel_rfl) (.inr rfl) (((hm.exRow list0_h List.not_mem_nil).at hx_263).sub 1 1)) ?_
        obtain ⟨x_9, hx_264, h⟩ := bd h
        refine jd_v 13 0 (by kernel_rfl) (fun w h => h.pick [] (by kernel_rfl) (by kernel_rfl)) (by kernel_rfl) (by kernel_rfl) _ (fun w hm => idx_run (a := list0_a) (len := list0.length) (s := 3) (j := i_4) (by kernel_rfl) (ix_some hx_264).1 (ltn hx_264 rfl) (list0_h.sp hx_264)) ?_
        refine jd_f [⟨14, 0, 0⟩] 6 (by kernel_rfl) (by kernel_rfl) (fun w h => h.pick [] (by kernel_rfl) (by kernel_rfl)) (by kernel_rfl) (by kernel_rfl) ?_
        refine jd_v 15 0 (by kernel_rfl) (fun w h => h.pick [] (by kernel_rfl) (by kernel_rfl)) (by kernel_rfl) (by kernel_rfl) _ (fun w hm => ld_run (b := aB list0_a) (off := (aO list0_a + i_4.toNat * 3 + 2)) (s := 1) (agg := false) (vs := (((encGChange x_9).drop 2).take 1)) (by kernel_rfl) (by kernel_rfl) (.inr rfl) (((hm.exRow list0_h List.not_mem_nil).at hx_264).sub 2 1)) ?_
        refine jd_f [⟨16, 0, 0⟩, ⟨17, 0, 0⟩] 3 (by kernel_rfl) (by kernel_rfl) (fun w h => h.pick [] (by kernel_rfl) (by kernel_rfl)) (by kernel_rfl) (by kernel_rfl) ?_
        refine toD 18 (by kernel_rfl) (p_a 0 [0] (by kernel_rfl) (fun b => by kernel_rfl) (fun b_265 => jkD (fun w h => h.pick [] (by kernel_rfl) (by kernel_rfl)) ?_))
        obtain ⟨hg_266, h⟩ := gd h
        refine toD 19 (by kernel_rfl) (p_apn 0 0 o_248 106 xs_3.length 1 cap_249 3 4 (some ⟨b_265, 0, none⟩) encGChange xs_3 [(⟨x_7.fStep, x_8.fTrack, (!x_9.fPut)⟩ : GChange)] sp_250 (.agg #[(.int .i16 0), (.int .i8 0), (.bool false)]) rfl rfl (by kernel_rfl) (by kernel_rfl) (by kernel_rfl) encGChange_len encGChange_cell hs_252 ho_253 (fun w hm => (hm.ownRow (hh := 1) (o := (some b_265)) (T := 106) (enc := encGChange) (xs := [(⟨x_7.fStep, x_8.fTrack, (!x_9.fPut)⟩ : GChange)]) (sp := []) (by kernel_rfl) (fun e => nomatch e) encGChange_len)) hg_266 (by kernel_rfl) (by kernel_rfl) (fun o_267 cap_268 sp_269 hs_270 ho_271 => jkD (fun w h => h.pick [] (by kernel_rfl) (by kernel_rfl)) ?_))
        refine jd_f [⟨20, 0, 0⟩] 0 (by kernel_rfl) (by kernel_rfl) (fun w h => h.pick [] (by kernel_rfl) (by kernel_rfl)) (by kernel_rfl) (by kernel_rfl) ?_
        refine jd_end (by kernel_rfl) ?_
        refine jx_inn ?_
        refine jx_then ?_
        refine jc_region ?_
        refine jo_f [(0, 0), (0, 0), (0, 0)] (by kernel_rfl) ?_
        refine jo_end (by kernel_rfl) ?_
        exact jx_back ((xs_3 ++ [(⟨x_7.fStep, x_8.fTrack, (!x_9.fPut)⟩ : GChange)]), (w64 (i_4 - 1))) ⟨o_267, cap_268, sp_269, (xs_3 ++ [(⟨x_7.fStep, x_8.fTrack, (!x_9.fPut)⟩ : GChange)]).length⟩ (Option.some.inj h).symm ⟨rfl, hs_270, ho_271⟩ [0] (by kernel_rfl) (by kernel_rfl) (by kernel_rfl)
      · replace h := ifF hc_257 h
        refine jc_exit ?_
        refine jx_thenx ?_
        refine jx_leave xs_3 (Option.some.inj h).symm (fun e_272 => ?_)
        subst e_272
        refine jx_ine ?_
        exact jx_meet ⟨xs_3, o_248, cap_249, sp_250, xs_3.length⟩ ⟨hr_254, rfl, hs_252, ho_253⟩ (by kernel_rfl) [0] (by kernel_rfl) (by kernel_rfl)
    · rintro ⟨xs_1, o_204, cap_205, sp_206, n_207⟩ ⟨h, rfl, hs_208, ho_209⟩
      replace h : spec_UndoChanges.k_2 xs_1 = some r := h
      rw [spec_UndoChanges.k_2] at h
      refine jx_then ?_
      refine jc_seq ?_
      refine jc_region ?_
      refine jo_f [(0, 0), (0, 0), (0, 0)] (by kernel_rfl) ?_
      refine jo_end (by kernel_rfl) ?_
      refine jx_then ?_
      refine jc_ret ?_
      obtain rfl := Option.some.inj h
      exact jx_ret [] (.tuple #[(.slice (o_204.map fun b => ⟨b, 0, none⟩) xs_1.length cap_205), (.int .i64 0)]) [] rfl (by kernel_rfl) (by kernel_rfl) (fun w hm => ⟨o_204, cap_205, sp_206, xs_1.length, rfl, hs_208, ho_209, rfl, hm.pick [0] (by kernel_rfl) (by kernel_rfl)⟩)

/-! ### math/bits.OnesCount32 -/
noncomputable def math_bits_OnesCount32 (x0 : Int) : Option (Int) := (sIx (ByteArray.mk #[0, 1, 1, 2, 1, 2, 2, 3, 1, 2, 2, 3, 2, 3, 3, 4, 1, 2, 2, 3, 2, 3, 3, 4, 2, 3, 3, 4, 3, 4, 4, 5, 1, 2, 2, 3, 2, 3, 3, 4, 2, 3, 3, 4, 3, 4, 4, 5, 2, 3, 3, 4, 3, 4, 4, 5, 3, 4, 4, 5, 4, 5, 5, 6, 1, 2, 2, 3, 2, 3, 3, 4, 2, 3, 3, 4, 3, 4, 4, 5, 2, 3, 3, 4, 3, 4, 4, 5, 3, 4, 4, 5, 4, 5, 5, 6, 2, 3, 3, 4, 3, 4, 4, 5, 3, 4, 4, 5, 4, 5, 5, 6, 3, 4, 4, 5, 4, 5, 5, 6, 4, 5, 5, 6, 5, 6, 6, 7, 1, 2, 2, 3, 2, 3, 3, 4, 2, 3, 3, 4, 3, 4, 4, 5, 2, 3, 3, 4, 3, 4, 4, 5, 3, 4, 4, 5, 4, 5, 5, 6, 2, 3, 3, 4, 3, 4, 4, 5, 3, 4, 4, 5, 4, 5, 5, 6, 3, 4, 4, 5, 4, 5, 5, 6, 4, 5, 5, 6, 5, 6, 6, 7, 2, 3, 3, 4, 3, 4, 4, 5, 3, 4, 4, 5, 4, 5, 5, 6, 3, 4, 4, 5, 4, 5, 5, 6, 4, 5, 5, 6, 5, 6, 6, 7, 3, 4, 4, 5, 4, 5, 5, 6, 4, 5, 5, 6, 5, 6, 6, 7, 4, 5, 5, 6, 5, 6, 6, 7, 5, 6, 6, 7, 6, 7, 7, 8]) (bShr .u32 x0 24)).bind fun x_1 => (sIx (ByteArray.mk #[0, 1, 1, 2, 1, 2, 2, 3, 1, 2, 2, 3, 2, 3, 3, 4, 1, 2, 2, 3, 2, 3, 3, 4, 2, 3, 3, 4, 3, 4, 4, 5, 1, 2, 2, 3, 2, 3, 3, 4, 2, 3, 3, 4, 3, 4, 4, 5, 2, 3, 3, 4, 3, 4, 4, 5, 3, 4, 4, 5, 4, 5, 5, 6, 1, 2, 2, 3, 2, 3, 3, 4, 2, 3, 3, 4, 3, 4, 4, 5, 2, 3, 3, 4, 3, 4, 4, 5, 3, 4, 4, 5, 4, 5, 5, 6, 2, 3, 3, 4, 3, 4, 4, 5, 3, 4, 4, 5, 4, 5, 5, 6, 3, 4, 4, 5, 4, 5, 5, 6, 4, 5, 5, 6, 5, 6, 6, 7, 1, 2, 2, 3, 2, 3, 3, 4, 2, 3, 3, 4, 3, 4, 4, 5, 2, 3, 3, 4, 3, 4, 4, 5, 3, 4, 4, 5, 4, 5, 5, 6, 2, 3, 3, 4, 3, 4, 4, 5, 3, 4, 4, 5, 4, 5, 5, 6, 3, 4, 4, 5, 4, 5, 5, 6, 4, 5, 5, 6, 5, 6, 6, 7, 2, 3, 3, 4, 3, 4, 4, 5, 3, 4, 4, 5, 4, 5, 5, 6, 3, 4, 4, 5, 4, 5, 5, 6, 4, 5, 5, 6, 5, 6, 6, 7, 3, 4, 4, 5, 4, 5, 5, 6, 4, 5, 5, 6, 5, 6, 6, 7, 4, 5, 5, 6, 5, 6, 6, 7, 5, 6, 6, 7, 6, 7, 7, 8]) (bAnd .u32 (bShr .u32 x0 16) 255)).bind fun x_2 => (sIx (ByteArray.mk #[0, 1, 1, 2, 1, 2, 2, 3, 1, 2, 2, 3, 2, 3, 3, 4, 1, 2, 2, 3, 2, 3, 3, 4, 2, 3, 3, 4, 3, 4, 4, 5, 1, 2, 2, 3, 2, 3, 3, 4, 2, 3, 3, 4, 3, 4, 4, 5, 2, 3, 3, 4, 3, 4, 4, 5, 3, 4, 4, 5, 4, 5, 5, 6, 1, 2, 2, 3, 2, 3, 3, 4, 2, 3, 3, 4, 3, 4, 4, 5, 2, 3, 3, 4, 3, 4, 4, 5, 3, 4, 4, 5, 4, 5, 5, 6, 2, 3, 3, 4, 3, 4, 4, 5, 3, 4, 4, 5, 4, 5, 5, 6, 3, 4, 4, 5, 4, 5, 5, 6, 4, 5, 5, 6, 5, 6, 6, 7, 1, 2, 2, 3, 2, 3, 3, 4, 2, 3, 3, 4, 3, 4, 4, 5, 2, 3, 3, 4, 3, 4, 4, 5, 3, 4, 4, 5, 4, 5, 5, 6, 2, 3, 3, 4, 3, 4, 4, 5, 3, 4, 4, 5, 4, 5, 5, 6, 3, 4, 4, 5, 4, 5, 5, 6, 4, 5, 5, 6, 5, 6, 6, 7, 2, 3, 3, 4, 3, 4, 4, 5, 3, 4, 4, 5, 4, 5, 5, 6, 3, 4, 4, 5, 4, 5, 5, 6, 4, 5, 5, 6, 5, 6, 6, 7, 3, 4, 4, 5, 4, 5, 5, 6, 4, 5, 5, 6, 5, 6, 6, 7, 4, 5, 5, 6, 5, 6, 6, 7, 5, 6, 6, 7, 6, 7, 7, 8]) (bAnd .u32 (bShr .u32 x0 8) 255)).bind fun x_3 => (sIx (ByteArray.mk #[0, 1, 1, 2, 1, 2, 2, 3, 1, 2, 2, 3, 2, 3, 3, 4, 1, 2, 2, 3, 2, 3, 3, 4, 2, 3, 3, 4, 3, 4, 4, 5, 1, 2, 2, 3, 2, 3, 3, 4, 2, 3, 3, 4, 3, 4, 4, 5, 2, 3, 3, 4, 3, 4, 4, 5, 3, 4, 4, 5, 4, 5, 5, 6, 1, 2, 2, 3, 2, 3, 3, 4, 2, 3, 3, 4, 3, 4, 4, 5, 2, 3, 3, 4, 3, 4, 4, 5, 3, 4, 4, 5, 4, 5, 5, 6, 2, 3, 3, 4, 3, 4, 4, 5, 3, 4, 4, 5, 4, 5, 5, 6, 3, 4, 4, 5, 4, 5, 5, 6, 4, 5, 5, 6, 5, 6, 6, 7, 1, 2, 2, 3, 2, 3, 3, 4, 2, 3, 3, 4, 3, 4, 4, 5, 2, 3, 3, 4, 3, 4, 4, 5, 3, 4, 4, 5, 4, 5, 5, 6, 2, 3, 3, 4, 3, 4, 4, 5, 3, 4, 4, 5, 4, 5, 5, 6, 3, 4, 4, 5, 4, 5, 5, 6, 4, 5, 5, 6, 5, 6, 6, 7, 2, 3, 3, 4, 3, 4, 4, 5, 3, 4, 4, 5, 4, 5, 5, 6, 3, 4, 4, 5, 4, 5, 5, 6, 4, 5, 5, 6, 5, 6, 6, 7, 3, 4, 4, 5, 4, 5, 5, 6, 4, 5, 5, 6, 5, 6, 6, 7, 4, 5, 5, 6, 5, 6, 6, 7, 5, 6, 6, 7, 6, 7, 7, 8]) (bAnd .u32 x0 255)).bind fun x_4 => some (w64 (u8 ((u8 ((u8 (x_1 + x_2)) + x_3)) + x_4)))
set_option maxRecDepth 100000 in
theorem math_bits_OnesCount32.calls (x0 : Int) (w : World) (r : Int) (h : math_bits_OnesCount32 x0 = some r) :
    Calls Tryz.prog 240 #[(.int .u32 x0)] w fun e w' => ∃ v, e = .returned v ∧ (v = (.int .i64 r) ∧ Mem w [] [] w') := by
  rw [math_bits_OnesCount32] at h
  refine enter (args := [(.int .u32 x0)]) Tryz.func240 rfl Tryz.ntmps240 (by kernel_rfl) (L := []) (W := []) (Mem.start w) ?_
  refine jc_seq ?_
  refine jc_region ?_
  refine jo_f [(0, 0)] (by kernel_rfl) ?_
  refine jo_end (by kernel_rfl) ?_
  refine jx_then ?_
  refine jc_seq ?_
  refine jc_draw [] 19 (by kernel_rfl) (by kernel_rfl) ?_
  refine jd_f [⟨0, 0, 0⟩, ⟨1, 0, 0⟩, ⟨3, 0, 0⟩, ⟨4, 0, 0⟩, ⟨5, 0, 0⟩, ⟨8, 0, 0⟩, ⟨9, 0, 0⟩, ⟨10, 0, 0⟩, ⟨13, 0, 0⟩, ⟨14, 0, 0⟩] 9 (by kernel_rfl) (by kernel_rfl) (fun w h => h.pick [] (by kernel_rfl) (by kernel_rfl)) (by kernel_rfl) (by kernel_rfl) ?_
  obtain ⟨x_1, hx_1, h⟩ := bd h
  refine jd_v 2 0 (by kernel_rfl) (fun w h => h.pick [] (by kernel_rfl) (by kernel_rfl)) (by kernel_rfl) (by kernel_rfl) _ (fun w hm => six_run (s := (ByteArray.mk #[0, 1, 1, 2, 1, 2, 2, 3, 1, 2, 2, 3, 2, 3, 3, 4, 1, 2, 2, 3, 2, 3, 3, 4, 2, 3, 3, 4, 3, 4, 4, 5, 1, 2, 2, 3, 2, 3, 3, 4, 2, 3, 3, 4, 3, 4, 4, 5, 2, 3, 3, 4, 3, 4, 4, 5, 3, 4, 4, 5, 4, 5, 5, 6, 1, 2, 2, 3, 2, 3, 3, 4, 2, 3, 3, 4, 3, 4, 4, 5, 2, 3, 3, 4, 3, 4, 4, 5, 3, 4, 4, 5, 4, 5, 5, 6, 2, 3, 3, 4, 3, 4, 4, 5, 3, 4, 4, 5, 4, 5, 5, 6, 3, 4, 4, 5, 4, 5, 5, 6, 4, 5, 5, 6, 5, 6, 6, 7, 1, 2, 2, 3, 2, 3, 3, 4, 2, 3, 3, 4, 3, 4, 4, 5, 2, 3, 3, 4, 3, 4, 4, 5, 3, 4, 4, 5, 4, 5, 5, 6, 2, 3, 3, 4, 3, 4, 4, 5, 3, 4, 4, 5, 4, 5, 5, 6, 3, 4, 4, 5, 4, 5, 5, 6, 4, 5, 5, 6, 5, 6, 6, 7, 2, 3, 3, 4, 3, 4, 4, 5, 3, 4, 4, 5, 4, 5, 5, 6, 3, 4, 4, 5, 4, 5, 5, 6, 4, 5, 5, 6, 5, 6, 6, 7, 3, 4, 4, 5, 4, 5, 5, 6, 4, 5, 5, 6, 5, 6, 6, 7, 4, 5, 5, 6, 5, 6, 6, 7, 5, 6, 6, 7, 6, 7, 7, 8])) (j := (bShr .u32 x0 24)) (by kernel_rfl) hx_1) ?_
  obtain ⟨x_2, hx_2, h⟩ := bd h
  refine jd_v 6 0 (by kernel_rfl) (fun w h => h.pick [] (by kernel_rfl) (by kernel_rfl)) (by kernel_rfl) (by kernel_rfl) _ (fun w hm => six_run (s := (ByteArray.mk #[0, 1, 1, 2, 1, 2, 2, 3, 1, 2, 2, 3, 2, 3, 3, 4, 1, 2, 2, 3, 2, 3, 3, 4, 2, 3, 3, 4, 3, 4, 4, 5, 1, 2, 2, 3, 2, 3, 3, 4, 2, 3, 3, 4, 3, 4, 4, 5, 2, 3, 3, 4, 3, 4, 4, 5, 3, 4, 4, 5, 4, 5, 5, 6, 1, 2, 2, 3, 2, 3, 3, 4, 2, 3, 3, 4, 3, 4, 4, 5, 2, 3, 3, 4, 3, 4, 4, 5, 3, 4, 4, 5, 4, 5, 5, 6, 2, 3, 3, 4, 3, 4, 4, 5, 3, 4, 4, 5, 4, 5, 5, 6, 3, 4, 4, 5, 4, 5, 5, 6, 4, 5, 5, 6, 5, 6, 6, 7, 1, 2, 2, 3, 2, 3, 3, 4, 2, 3, 3, 4, 3, 4, 4, 5, 2, 3, 3, 4, 3, 4, 4, 5, 3, 4, 4, 5, 4, 5, 5, 6, 2, 3, 3, 4, 3, 4, 4, 5, 3, 4, 4, 5, 4, 5, 5, 6, 3, 4, 4, 5, 4, 5, 5, 6, 4, 5, 5, 6, 5, 6, 6, 7, 2, 3, 3, 4, 3, 4, 4, 5, 3, 4, 4, 5, 4, 5, 5, 6, 3, 4, 4, 5, 4, 5, 5, 6, 4, 5, 5, 6, 5, 6, 6, 7, 3, 4, 4, 5, 4, 5, 5, 6, 4, 5, 5, 6, 5, 6, 6, 7, 4, 5, 5, 6, 5, 6, 6, 7, 5, 6, 6, 7, 6, 7, 7, 8])) (j := (bAnd .u32 (bShr .u32 x0 16) 255)) (by kernel_rfl) hx_2) ?_
  refine jd_f [⟨7, 0, 0⟩] 6 (by kernel_rfl) (by kernel_rfl) (fun w h => h.pick [] (by kernel_rfl) (by kernel_rfl)) (by kernel_rfl) (by kernel_rfl) ?_
  obtain ⟨x_3, hx_3, h⟩ := bd h
  refine jd_v 11 0 (by kernel_rfl) (fun w h => h.pick [] (by kernel_rfl) (by kernel_rfl)) (by kernel_rfl) (by kernel_rfl) _ (fun w hm => six_run (s := (ByteArray.mk #[0, 1, 1, 2, 1, 2, 2, 3, 1, 2, 2, 3, 2, 3, 3, 4, 1, 2, 2, 3, 2, 3, 3, 4, 2, 3, 3, 4, 3, 4, 4, 5, 1, 2, 2, 3, 2, 3, 3, 4, 2, 3, 3, 4, 3, 4, 4, 5, 2, 3, 3, 4, 3, 4, 4, 5, 3, 4, 4, 5, 4, 5, 5, 6, 1, 2, 2, 3, 2, 3, 3, 4, 2, 3, 3, 4, 3, 4, 4, 5, 2, 3, 3, 4, 3, 4, 4, 5, 3, 4, 4, 5, 4, 5, 5, 6, 2, 3, 3, 4, 3, 4, 4, 5, 3, 4, 4, 5, 4, 5, 5, 6, 3, 4, 4, 5, 4, 5, 5, 6, 4, 5, 5, 6, 5, 6, 6, 7, 1, 2, 2, 3, 2, 3, 3, 4, 2, 3, 3, 4, 3, 4, 4, 5, 2, 3, 3, 4, 3, 4, 4, 5, 3, 4, 4, 5, 4, 5, 5, 6, 2, 3, 3, 4, 3, 4, 4, 5, 3, 4, 4, 5, 4, 5, 5, 6, 3, 4, 4, 5, 4, 5, 5, 6, 4, 5, 5, 6, 5, 6, 6, 7, 2, 3, 3, 4, 3, 4, 4, 5, 3, 4, 4, 5, 4, 5, 5, 6, 3, 4, 4, 5, 4, 5, 5, 6, 4, 5, 5, 6, 5, 6, 6, 7, 3, 4, 4, 5, 4, 5, 5, 6, 4, 5, 5, 6, 5, 6, 6, 7, 4, 5, 5, 6, 5, 6, 6, 7, 5, 6, 6, 7, 6, 7, 7, 8])) (j := (bAnd .u32 (bShr .u32 x0 8) 255)) (by kernel_rfl) hx_3) ?_
  refine jd_f [⟨12, 0, 0⟩] 4 (by kernel_rfl) (by kernel_rfl) (fun w h => h.pick [] (by kernel_rfl) (by kernel_rfl)) (by kernel_rfl) (by kernel_rfl) ?_
  obtain ⟨x_4, hx_4, h⟩ := bd h
  refine jd_v 15 0 (by kernel_rfl) (fun w h => h.pick [] (by kernel_rfl) (by kernel_rfl)) (by kernel_rfl) (by kernel_rfl) _ (fun w hm => six_run (s := (ByteArray.mk #[0, 1, 1, 2, 1, 2, 2, 3, 1, 2, 2, 3, 2, 3, 3, 4, 1, 2, 2, 3, 2, 3, 3, 4, 2, 3, 3, 4, 3, 4, 4, 5, 1, 2, 2, 3, 2, 3, 3, 4, 2, 3, 3, 4, 3, 4, 4, 5, 2, 3, 3, 4, 3, 4, 4, 5, 3, 4, 4, 5, 4, 5, 5, 6, 1, 2, 2, 3, 2, 3, 3, 4, 2, 3, 3, 4, 3, 4, 4, 5, 2, 3, 3, 4, 3, 4, 4, 5, 3, 4, 4, 5, 4, 5, 5, 6, 2, 3, 3, 4, 3, 4, 4, 5, 3, 4, 4, 5, 4, 5, 5, 6, 3, 4, 4, 5, 4, 5, 5, 6, 4, 5, 5, 6, 5, 6, 6, 7, 1, 2, 2, 3, 2, 3, 3, 4, 2, 3, 3, 4, 3, 4, 4, 5, 2, 3, 3, 4, 3, 4, 4, 5, 3, 4, 4, 5, 4, 5, 5, 6, 2, 3, 3, 4, 3, 4, 4, 5, 3, 4, 4, 5, 4, 5, 5, 6, 3, 4, 4, 5, 4, 5, 5, 6, 4, 5, 5, 6, 5, 6, 6, 7, 2, 3, 3, 4, 3, 4, 4, 5, 3, 4, 4, 5, 4, 5, 5, 6, 3, 4, 4, 5, 4, 5, 5, 6, 4, 5, 5, 6, 5, 6, 6, 7, 3, 4, 4, 5, 4, 5, 5, 6, 4, 5, 5, 6, 5, 6, 6, 7, 4, 5, 5, 6, 5, 6, 6, 7, 5, 6, 6, 7, 6, 7, 7, 8])) (j := (bAnd .u32 x0 255)) (by kernel_rfl) hx_4) ?_
  refine jd_f [⟨16, 0, 0⟩, ⟨17, 0, 0⟩, ⟨18, 0, 0⟩] 0 (by kernel_rfl) (by kernel_rfl) (fun w h => h.pick [] (by kernel_rfl) (by kernel_rfl)) (by kernel_rfl) (by kernel_rfl) ?_
  refine jd_end (by kernel_rfl) ?_
  refine jx_then ?_
  refine jc_ret ?_
  obtain rfl := Option.some.inj h
  exact jx_ret [] (.int .i64 (w64 (u8 ((u8 ((u8 (x_1 + x_2)) + x_3)) + x_4)))) [] rfl (by kernel_rfl) (by kernel_rfl) (fun w hm => ⟨rfl, hm.pick [] (by kernel_rfl) (by kernel_rfl)⟩)

/-! ### impl.countBits -/
noncomputable def impl_countBits (n0 : Int) : Option (Int) := (math_bits_OnesCount32 n0).bind fun t_1 => some t_1
set_option maxRecDepth 100000 in
theorem impl_countBits.calls (n0 : Int) (w : World) (r : Int) (h : impl_countBits n0 = some r) :
    Calls Tryz.prog 169 #[(.int .u32 n0)] w fun e w' => ∃ v, e = .returned v ∧ (v = (.int .i64 r) ∧ Mem w [] [] w') := by
  rw [impl_countBits] at h
  refine enter (args := [(.int .u32 n0)]) Tryz.func169 rfl Tryz.ntmps169 (by kernel_rfl) (L := []) (W := []) (Mem.start w) ?_
  refine jc_seq ?_
  refine jc_region ?_
  refine jo_f [(0, 0)] (by kernel_rfl) ?_
  refine jo_end (by kernel_rfl) ?_
  refine jx_then ?_
  refine jc_seq ?_
  refine jc_region ?_
  refine jo_f [(0, 0)] (by kernel_rfl) ?_
  obtain ⟨t_1, ht_1, h⟩ := bd h
  refine toO (by kernel_rfl) (p_call 0 240 #[(.int .u32 n0)] (by kernel_rfl) (by kernel_rfl) (fun w hm => math_bits_OnesCount32.calls n0 w _ ht_1) ?_)
  rintro w v w' hm ⟨rfl, hm'⟩
  refine ⟨_, hm.app hm', jkO ?_⟩
  clear hm hm'
  refine jo_f [(0, 0)] (by kernel_rfl) ?_
  refine jo_end (by kernel_rfl) ?_
  refine jx_then ?_
  refine jc_ret ?_
  obtain rfl := Option.some.inj h
  exact jx_ret [] (.int .i64 t_1) [] rfl (by kernel_rfl) (by kernel_rfl) (fun w hm => ⟨rfl, hm.pick [] (by kernel_rfl) (by kernel_rfl)⟩)

/-! ### (impl.Drum).count -/
noncomputable def impl_Drum_count.k_2 (i_1 : Int) : Option (Int) := some i_1
noncomputable def impl_Drum_count.l_5 (d0 : Arr 96 Int) : (Int × Int) → Option ((Int × Int) ⊕ (Int))
  | (i_3, i_4) => (if (decide (i_4 < 96)) = true then (ix d0.1 i_4).bind fun x_7 => (impl_countBits x_7).bind fun t_8 => some (.inl ((w64 (i_3 + t_8)), (w64 (i_4 + 1)))) else some (.inr i_3))
noncomputable def impl_Drum_count (d0 : Arr 96 Int) : Option (Int) := (loop (impl_Drum_count.l_5 d0) (0, 0)).bind fun t_6 => impl_Drum_count.k_2 t_6
set_option maxRecDepth 100000 in
theorem impl_Drum_count.calls (d0 : Arr 96 Int) (w : World) (r : Int) (h : impl_Drum_count d0 = some r) :
    Calls Tryz.prog 84 #[(.agg (row encU32 d0.1 []).toArray)] w fun e w' => ∃ v, e = .returned v ∧ (v = (.int .i64 r) ∧ Mem w [] [] w') := by
  rw [impl_Drum_count] at h
  refine enter (args := [(.agg (row encU32 d0.1 []).toArray)]) Tryz.func84 rfl Tryz.ntmps84 (by kernel_rfl) (L := []) (W := []) (Mem.start w) ?_
  refine jc_seq ?_
  refine jc_region ?_
  refine toO (by kernel_rfl) (p_a 0 [0] (by kernel_rfl) (fun b => by kernel_rfl) (fun b_1 => jkO ?_))
  refine jo_f [(0, 0)] (by kernel_rfl) ?_
  refine jo_end (by kernel_rfl) ?_
  refine jx_then ?_
  refine jc_seq ?_
  refine jc_region ?_
  refine jo_f [(0, 0)] (by kernel_rfl) ?_
  refine jo_end (by kernel_rfl) ?_
  refine jx_then ?_
  refine jc_seq ?_
  refine jc_seq ?_
  refine jc_region ?_
  refine toO (by kernel_rfl) (p_ldA 0 0 b_1 96 1 31 encU32 d0 (by kernel_rfl) (by kernel_rfl) (by kernel_rfl) encU32_len (by kernel_rfl) (jkO ?_))
  refine jo_f [(0, 0)] (by kernel_rfl) ?_
  refine jo_end (by kernel_rfl) ?_
  refine jx_then ?_
  refine jc_meet (fun (j : Int) => match j with | i_1 => impl_Drum_count.k_2 i_1 = some r) (fun (j : Int) => match j with | i_1 => [(2, [], (.int .i64 0)), (3, [], (.int .i64 i_1))]) (fun (j : Int) => match j with | i_1 => [⟨(some b_1), 31, row encU32 d0.1 []⟩]) ?_ ?_
  · refine jc_block ?_
    obtain ⟨t_6, ht_65, hr_58⟩ := bd h
    refine jc_loop (fun (s : Int × Int) (x : Unit) => match s, x with | ⟨i_3, i_4⟩, _ => True) (fun (s : Int × Int) (x : Unit) => match s, x with | ⟨i_3, i_4⟩, _ => [(2, [], (.int .i64 0)), (3, [], (.int .i64 i_3)), (6, [], (.agg (row encU32 d0.1 []).toArray)), (7, [], (.int .i64 i_4))]) (fun (s : Int × Int) (x : Unit) => match s, x with | ⟨i_3, i_4⟩, _ => [⟨(some b_1), 31, row encU32 d0.1 []⟩]) ht_65 () trivial (by kernel_rfl) [0] (by kernel_rfl) (by kernel_rfl) ?_
    rintro ⟨i_3, i_4⟩ _ y_59 _ h
    rw [impl_Drum_count.l_5] at h
    refine jc_seq ?_
    refine jc_region ?_
    refine jo_f [(0, 0)] (by kernel_rfl) ?_
    refine jo_end (by kernel_rfl) ?_
    refine jx_then ?_
    refine jc_seq ?_
    refine jc_cond (decide (i_4 < 96)) (by kernel_rfl) (fun hc_61 => ?_) (fun hc_61 => ?_)
    · replace h := ifT hc_61 h
      refine jc_skip ?_
      refine jx_then ?_
      refine jc_seq ?_
      refine jc_block ?_
      refine jc_seq ?_
      refine jc_region ?_
      obtain ⟨x_7, hx_62, h⟩ := bd h
      refine toO (by kernel_rfl) (p_ixA 0 encU32 (fun x => (.int .u32 x)) d0 i_4 (by kernel_rfl) (by kernel_rfl) (fun _ => rfl) hx_62 (jkO ?_))
      refine jo_f [(0, 0)] (by kernel_rfl) ?_
      refine jo_end (by kernel_rfl) ?_
      refine jx_then ?_
      refine jc_region ?_
      refine jo_f [(0, 0), (0, 0)] (by kernel_rfl) ?_
      obtain ⟨t_8, ht_63, h⟩ := bd h
      refine toO (by kernel_rfl) (p_call 0 169 #[(.int .u32 x_7)] (by kernel_rfl) (by kernel_rfl) (fun w hm => impl_countBits.calls x_7 w _ ht_63) ?_)
      rintro w v w' hm ⟨rfl, hm'⟩
      refine ⟨_, hm.app hm', jkO ?_⟩
      clear hm hm'
      refine jo_f [(0, 0), (0, 0)] (by kernel_rfl) ?_
      refine jo_end (by kernel_rfl) ?_
      refine jx_inn ?_
      refine jx_then ?_
      refine jc_region ?_
      refine jo_f [(0, 0), (0, 0)] (by kernel_rfl) ?_
      refine jo_end (by kernel_rfl) ?_
      exact jx_back ((w64 (i_3 + t_8)), (w64 (i_4 + 1))) () (Option.some.inj h).symm trivial [0] (by kernel_rfl) (by kernel_rfl) (by kernel_rfl)
    · replace h := ifF hc_61 h
      refine jc_exit ?_
      refine jx_thenx ?_
      refine jx_leave i_3 (Option.some.inj h).symm (fun e_64 => ?_)
      subst e_64
      refine jx_ine ?_
      exact jx_meet i_3 hr_58 (by kernel_rfl) [0] (by kernel_rfl) (by kernel_rfl)
  · rintro i_1 h
    replace h : impl_Drum_count.k_2 i_1 = some r := h
    rw [impl_Drum_count.k_2] at h
    refine jx_then ?_
    refine jc_seq ?_
    refine jc_region ?_
    refine jo_f [(0, 0), (0, 0)] (by kernel_rfl) ?_
    refine jo_end (by kernel_rfl) ?_
    refine jx_then ?_
    refine jc_ret ?_
    obtain rfl := Option.some.inj h
    exact jx_ret [] (.int .i64 i_1) [] rfl (by kernel_rfl) (by kernel_rfl) (fun w hm => ⟨rfl, hm.pick [] (by kernel_rfl) (by kernel_rfl)⟩)

/-! ### impl.cost -/
noncomputable def impl_cost (a0 : Arr 96 Int) (b1 : Arr 96 Int) : Option (Int) := (impl_Drum_less a0 b1).bind fun t_1 => (impl_Drum_count t_1).bind fun t_2 => (impl_Drum_less b1 a0).bind fun t_3 => (impl_Drum_count t_3).bind fun t_4 => some (w64 (t_2 + t_4))
set_option maxRecDepth 100000 in
theorem impl_cost.calls (a0 : Arr 96 Int) (b1 : Arr 96 Int) (w : World) (r : Int) (h : impl_cost a0 b1 = some r) :
    Calls Tryz.prog 82 #[(.agg (row encU32 a0.1 []).toArray), (.agg (row encU32 b1.1 []).toArray)] w fun e w' => ∃ v, e = .returned v ∧ (v = (.int .i64 r) ∧ Mem w [] [] w') := by
  rw [impl_cost] at h
  refine enter (args := [(.agg (row encU32 a0.1 []).toArray), (.agg (row encU32 b1.1 []).toArray)]) Tryz.func82 rfl Tryz.ntmps82 (by kernel_rfl) (L := []) (W := []) (Mem.start w) ?_
  refine jc_seq ?_
  refine jc_region ?_
  refine toO (by kernel_rfl) (p_a 0 [0] (by kernel_rfl) (fun b => by kernel_rfl) (fun b_1 => jkO ?_))
  refine toO (by kernel_rfl) (p_a 0 [0] (by kernel_rfl) (fun b => by kernel_rfl) (fun b_2 => jkO ?_))
  refine jo_f [(0, 0)] (by kernel_rfl) ?_
  refine jo_end (by kernel_rfl) ?_
  refine jx_then ?_
  refine jc_seq ?_
  refine jc_draw [⟨(some b_1), 31, row encU32 a0.1 []⟩, ⟨(some b_2), 31, row encU32 b1.1 []⟩] 10 (by kernel_rfl) (by kernel_rfl) ?_
  refine jd_v 0 0 (by kernel_rfl) (fun w h => h.pick [0, 1] (by kernel_rfl) (by kernel_rfl)) (by kernel_rfl) (by kernel_rfl) _ (fun w hm => ld_run (b := b_1) (off := 0) (s := 96) (agg := true) (vs := row encU32 a0.1 []) (by kernel_rfl) ((row_len encU32_len a0).trans rfl) (.inl rfl) (hm.all (hh := 0) (T := 31) (by kernel_rfl))) ?_
  refine jd_v 1 0 (by kernel_rfl) (fun w h => h.pick [0, 1] (by kernel_rfl) (by kernel_rfl)) (by kernel_rfl) (by kernel_rfl) _ (fun w hm => ld_run (b := b_2) (off := 0) (s := 96) (agg := true) (vs := row encU32 b1.1 []) (by kernel_rfl) ((row_len encU32_len b1).trans rfl) (.inl rfl) (hm.all (hh := 1) (T := 31) (by kernel_rfl))) ?_
  refine jd_v 4 0 (by kernel_rfl) (fun w h => h.pick [0, 1] (by kernel_rfl) (by kernel_rfl)) (by kernel_rfl) (by kernel_rfl) _ (fun w hm => ld_run (b := b_2) (off := 0) (s := 96) (agg := true) (vs := row encU32 b1.1 []) (by kernel_rfl) ((row_len encU32_len b1).trans rfl) (.inl rfl) (hm.all (hh := 1) (T := 31) (by kernel_rfl))) ?_
  refine jd_v 5 0 (by kernel_rfl) (fun w h => h.pick [0, 1] (by kernel_rfl) (by kernel_rfl)) (by kernel_rfl) (by kernel_rfl) _ (fun w hm => ld_run (b := b_1) (off := 0) (s := 96) (agg := true) (vs := row encU32 a0.1 []) (by kernel_rfl) ((row_len encU32_len a0).trans rfl) (.inl rfl) (hm.all (hh := 0) (T := 31) (by kernel_rfl))) ?_
  obtain ⟨t_1, ht_3, h⟩ := bd h
  refine toD 2 (by kernel_rfl) (p_call 0 83 #[(.agg (row encU32 a0.1 []).toArray), (.agg (row encU32 b1.1 []).toArray)] (by kernel_rfl) (by kernel_rfl) (fun w hm => impl_Drum_less.calls a0 b1 w _ ht_3) ?_)
  rintro w v w' hm ⟨rfl, hm'⟩
  refine ⟨_, hm.app hm', jkD (fun w h => h.pick [0, 1] (by kernel_rfl) (by kernel_rfl)) ?_⟩
  clear hm hm'
  obtain ⟨t_2, ht_4, h⟩ := bd h
  refine toD 3 (by kernel_rfl) (p_call 0 84 #[(.agg (row encU32 t_1.1 []).toArray)] (by kernel_rfl) (by kernel_rfl) (fun w hm => impl_Drum_count.calls t_1 w _ ht_4) ?_)
  rintro w v w' hm ⟨rfl, hm'⟩
  refine ⟨_, hm.app hm', jkD (fun w h => h.pick [0, 1] (by kernel_rfl) (by kernel_rfl)) ?_⟩
  clear hm hm'
  obtain ⟨t_3, ht_5, h⟩ := bd h
  refine toD 6 (by kernel_rfl) (p_call 0 83 #[(.agg (row encU32 b1.1 []).toArray), (.agg (row encU32 a0.1 []).toArray)] (by kernel_rfl) (by kernel_rfl) (fun w hm => impl_Drum_less.calls b1 a0 w _ ht_5) ?_)
  rintro w v w' hm ⟨rfl, hm'⟩
  refine ⟨_, hm.app hm', jkD (fun w h => h.pick [0, 1] (by kernel_rfl) (by kernel_rfl)) ?_⟩
  clear hm hm'
  obtain ⟨t_4, ht_6, h⟩ := bd h
  refine toD 7 (by kernel_rfl) (p_call 0 84 #[(.agg (row encU32 t_3.1 []).toArray)] (by kernel_rfl) (by kernel_rfl) (fun w hm => impl_Drum_count.calls t_3 w _ ht_6) ?_)
  rintro w v w' hm ⟨rfl, hm'⟩
  refine ⟨_, hm.app hm', jkD (fun w h => h.pick [0, 1] (by kernel_rfl) (by kernel_rfl)) ?_⟩
  clear hm hm'
  refine jd_f [⟨8, 0, 0⟩, ⟨9, 0, 0⟩] 0 (by kernel_rfl) (by kernel_rfl) (fun w h => h.pick [0, 1] (by kernel_rfl) (by kernel_rfl)) (by kernel_rfl) (by kernel_rfl) ?_
  refine jd_end (by kernel_rfl) ?_
  refine jx_then ?_
  refine jc_ret ?_
  obtain rfl := Option.some.inj h
  exact jx_ret [] (.int .i64 (w64 (t_2 + t_4))) [] rfl (by kernel_rfl) (by kernel_rfl) (fun w hm => ⟨rfl, hm.pick [] (by kernel_rfl) (by kernel_rfl)⟩)

/-! ### impl.ChangeCost -/
noncomputable def impl_ChangeCost (f0 : GFrame) (a1 : Arr 96 Int) (b2 : Arr 96 Int) : Option (Int × Int) := (impl_drumCode f0 [a1, b2]).bind fun t_1 => (if (t_1 != 0) = true then some (0, t_1) else (impl_cost a1 b2).bind fun t_2 => some (t_2, 0))
set_option maxRecDepth 100000 in
theorem impl_ChangeCost.calls (f0 : GFrame) (a1 : Arr 96 Int) (b2 : Arr 96 Int) (w : World) (r : Int × Int) (f0_fHammers_a : Option Addr) (f0_fHammers_an : Nat) (f0_fHammers_c : Nat) (f0_fHammers_h : Rw w f0_fHammers_a 2 encGHammer f0.fHammers) (f0_fHammers_hn : f0.fHammers.length = f0_fHammers_an) (h : impl_ChangeCost f0 a1 b2 = some r) :
    Calls Tryz.prog 16 #[(.agg #[(.int .i16 f0.fSteps), (.slice f0_fHammers_a f0_fHammers_an f0_fHammers_c)]), (.agg (row encU32 a1.1 []).toArray), (.agg (row encU32 b2.1 []).toArray)] w fun e w' => ∃ v, e = .returned v ∧ (v = .tuple #[(.int .i64 r.1), (.int .i64 r.2)] ∧ Mem w [] [] w') := by
  subst f0_fHammers_hn
  rw [impl_ChangeCost] at h
  refine enter (args := [(.agg #[(.int .i16 f0.fSteps), (.slice f0_fHammers_a f0.fHammers.length f0_fHammers_c)]), (.agg (row encU32 a1.1 []).toArray), (.agg (row encU32 b2.1 []).toArray)]) Tryz.func16 rfl Tryz.ntmps16 (by kernel_rfl) (L := []) (W := []) (Mem.start w) ?_
  refine jc_seq ?_
  refine jc_region ?_
  refine toO (by kernel_rfl) (p_a 0 [0] (by kernel_rfl) (fun b => by kernel_rfl) (fun b_1 => jkO ?_))
  refine toO (by kernel_rfl) (p_a 0 [0] (by kernel_rfl) (fun b => by kernel_rfl) (fun b_2 => jkO ?_))
  refine toO (by kernel_rfl) (p_a 0 [0] (by kernel_rfl) (fun b => by kernel_rfl) (fun b_3 => jkO ?_))
  refine jo_f [(0, 0), (0, 0)] (by kernel_rfl) ?_
  refine jo_end (by kernel_rfl) ?_
  refine jx_then ?_
  refine jc_seq ?_
  refine jc_seq ?_
  refine jc_region ?_
  refine jo_f [(0, 0)] (by kernel_rfl) ?_
  refine toO (by kernel_rfl) (p_ldA 0 1 b_2 96 1 31 encU32 a1 (by kernel_rfl) (by kernel_rfl) (by kernel_rfl) encU32_len (by kernel_rfl) (jkO ?_))
  refine toO (by kernel_rfl) (p_ldA 0 2 b_3 96 1 31 encU32 b2 (by kernel_rfl) (by kernel_rfl) (by kernel_rfl) encU32_len (by kernel_rfl) (jkO ?_))
  refine toO (by kernel_rfl) (p_bs 0 31 96 2 encA96U32 [(.agg (row encU32 a1.1 []).toArray), (.agg (row encU32 b2.1 []).toArray)] [a1, b2] (by kernel_rfl) (by kernel_rfl) rfl (by kernel_rfl) (by kernel_rfl) encA96U32_len (fun b_7 => jkO ?_))
  obtain ⟨t_1, ht_8, h⟩ := bd h
  refine toO (by kernel_rfl) (p_call 0 81 #[(.agg #[(.int .i16 f0.fSteps), (.slice f0_fHammers_a f0.fHammers.length f0_fHammers_c)]), (.slice (some ⟨b_7, 0, none⟩) 2 2)] (by kernel_rfl) (by kernel_rfl) (fun w hm => impl_drumCode.calls f0 [a1, b2] w _ f0_fHammers_a f0.fHammers.length f0_fHammers_c (hm.exRow f0_fHammers_h List.not_mem_nil) rfl (some ⟨b_7, 0, none⟩) 2 2 (hm.ownRow (hh := 3) (o := (some b_7)) (T := 31) (enc := encA96U32) (xs := [a1, b2]) (sp := []) (by kernel_rfl) (fun e => nomatch e) encA96U32_len) rfl ht_8) ?_)
  rintro w v w' hm ⟨rfl, hm'⟩
  refine ⟨_, hm.app hm', jkO ?_⟩
  clear hm hm'
  refine jo_f [(0, 0)] (by kernel_rfl) ?_
  refine jo_end (by kernel_rfl) ?_
  refine jx_then ?_
  refine jc_seq ?_
  refine jc_region ?_
  refine jo_f [(0, 0), (0, 0)] (by kernel_rfl) ?_
  refine jo_end (by kernel_rfl) ?_
  refine jx_then ?_
  refine jc_cond (t_1 != 0) (by kernel_rfl) (fun hc_9 => ?_) (fun hc_9 => ?_)
  · replace h := ifT hc_9 h
    refine jc_seq ?_
    refine jc_region ?_
    refine jo_f [(0, 0), (0, 0), (0, 0)] (by kernel_rfl) ?_
    refine jo_end (by kernel_rfl) ?_
    refine jx_then ?_
    refine jc_ret ?_
    refine jx_thenr ?_
    obtain rfl := Option.some.inj h
    exact jx_ret [] (.tuple #[(.int .i64 0), (.int .i64 t_1)]) [] rfl (by kernel_rfl) (by kernel_rfl) (fun w hm => ⟨rfl, hm.pick [] (by kernel_rfl) (by kernel_rfl)⟩)
  · replace h := ifF hc_9 h
    refine jc_skip ?_
    refine jx_then ?_
    refine jc_seq ?_
    refine jc_region ?_
    refine toO (by kernel_rfl) (p_ldA 0 1 b_2 96 1 31 encU32 a1 (by kernel_rfl) (by kernel_rfl) (by kernel_rfl) encU32_len (by kernel_rfl) (jkO ?_))
    refine toO (by kernel_rfl) (p_ldA 0 2 b_3 96 1 31 encU32 b2 (by kernel_rfl) (by kernel_rfl) (by kernel_rfl) encU32_len (by kernel_rfl) (jkO ?_))
    obtain ⟨t_2, ht_10, h⟩ := bd h
    refine toO (by kernel_rfl) (p_call 0 82 #[(.agg (row encU32 a1.1 []).toArray), (.agg (row encU32 b2.1 []).toArray)] (by kernel_rfl) (by kernel_rfl) (fun w hm => impl_cost.calls a1 b2 w _ ht_10) ?_)
    rintro w v w' hm ⟨rfl, hm'⟩
    refine ⟨_, hm.app hm', jkO ?_⟩
    clear hm hm'
    refine jo_f [(0, 0), (0, 0)] (by kernel_rfl) ?_
    refine jo_end (by kernel_rfl) ?_
    refine jx_then ?_
    refine jc_ret ?_
    obtain rfl := Option.some.inj h
    exact jx_ret [] (.tuple #[(.int .i64 t_2), (.int .i64 0)]) [] rfl (by kernel_rfl) (by kernel_rfl) (fun w hm => ⟨rfl, hm.pick [] (by kernel_rfl) (by kernel_rfl)⟩)

/-! ### impl.PinsToMove -/
noncomputable def impl_PinsToMove (f0 : GFrame) (a1 : Arr 96 Int) (b2 : Arr 96 Int) : Option (Int × Int × Int) := (impl_drumCode f0 [a1, b2]).bind fun t_1 => (if (t_1 != 0) = true then some (0, 0, t_1) else (impl_Drum_less b2 a1).bind fun t_2 => (impl_Drum_count t_2).bind fun t_3 => (impl_Drum_less a1 b2).bind fun t_4 => (impl_Drum_count t_4).bind fun t_5 => some (t_3, t_5, 0))
set_option maxRecDepth 100000 in
theorem impl_PinsToMove.calls (f0 : GFrame) (a1 : Arr 96 Int) (b2 : Arr 96 Int) (w : World) (r : Int × Int × Int) (f0_fHammers_a : Option Addr) (f0_fHammers_an : Nat) (f0_fHammers_c : Nat) (f0_fHammers_h : Rw w f0_fHammers_a 2 encGHammer f0.fHammers) (f0_fHammers_hn : f0.fHammers.length = f0_fHammers_an) (h : impl_PinsToMove f0 a1 b2 = some r) :
    Calls Tryz.prog 17 #[(.agg #[(.int .i16 f0.fSteps), (.slice f0_fHammers_a f0_fHammers_an f0_fHammers_c)]), (.agg (row encU32 a1.1 []).toArray), (.agg (row encU32 b2.1 []).toArray)] w fun e w' => ∃ v, e = .returned v ∧ (v = .tuple #[(.int .i64 r.1), (.int .i64 r.2.1), (.int .i64 r.2.2)] ∧ Mem w [] [] w') := by
  subst f0_fHammers_hn
  rw [impl_PinsToMove] at h
  refine enter (args := [(.agg #[(.int .i16 f0.fSteps), (.slice f0_fHammers_a f0.fHammers.length f0_fHammers_c)]), (.agg (row encU32 a1.1 []).toArray), (.agg (row encU32 b2.1 []).toArray)]) Tryz.func17 rfl Tryz.ntmps17 (by kernel_rfl) (L := []) (W := []) (Mem.start w) ?_
  refine jc_seq ?_
  refine jc_region ?_
  refine toO (by kernel_rfl) (p_a 0 [0] (by kernel_rfl) (fun b => by kernel_rfl) (fun b_1 => jkO ?_))
  refine toO (by kernel_rfl) (p_a 0 [0] (by kernel_rfl) (fun b => by kernel_rfl) (fun b_2 => jkO ?_))
  refine toO (by kernel_rfl) (p_a 0 [0] (by kernel_rfl) (fun b => by kernel_rfl) (fun b_3 => jkO ?_))
  refine jo_f [(0, 0), (0, 0), (0, 0)] (by kernel_rfl) ?_
  refine jo_end (by kernel_rfl) ?_
  refine jx_then ?_
  refine jc_seq ?_
  refine jc_seq ?_
  refine jc_region ?_
  refine jo_f [(0, 0)] (by kernel_rfl) ?_
  refine toO (by kernel_rfl) (p_ldA 0 1 b_2 96 1 31 encU32 a1 (by kernel_rfl) (by kernel_rfl) (by kernel_rfl) encU32_len (by kernel_rfl) (jkO ?_))
  refine toO (by kernel_rfl) (p_ldA 0 2 b_3 96 1 31 encU32 b2 (by kernel_rfl) (by kernel_rfl) (by kernel_rfl) encU32_len (by kernel_rfl) (jkO ?_))
  refine toO (by kernel_rfl) (p_bs 0 31 96 2 encA96U32 [(.agg (row encU32 a1.1 []).toArray), (.agg (row encU32 b2.1 []).toArray)] [a1, b2] (by kernel_rfl) (by kernel_rfl) rfl (by kernel_rfl) (by kernel_rfl) encA96U32_len (fun b_7 => jkO ?_))
  obtain ⟨t_1, ht_8, h⟩ := bd h
  refine toO (by kernel_rfl) (p_call 0 81 #[(.agg #[(.int .i16 f0.fSteps), (.slice f0_fHammers_a f0.fHammers.length f0_fHammers_c)]), (.slice (some ⟨b_7, 0, none⟩) 2 2)] (by kernel_rfl) (by kernel_rfl) (fun w hm => impl_drumCode.calls f0 [a1, b2] w _ f0_fHammers_a f0.fHammers.length f0_fHammers_c (hm.exRow f0_fHammers_h List.not_mem_nil) rfl (some ⟨b_7, 0, none⟩) 2 2 (hm.ownRow (hh := 3) (o := (some b_7)) (T := 31) (enc := encA96U32) (xs := [a1, b2]) (sp := []) (by kernel_rfl) (fun e => nomatch e) encA96U32_len) rfl ht_8) ?_)
  rintro w v w' hm ⟨rfl, hm'⟩
  refine ⟨_, hm.app hm', jkO ?_⟩
  clear hm hm'
  refine jo_f [(0, 0)] (by kernel_rfl) ?_
  refine jo_end (by kernel_rfl) ?_
  refine jx_then ?_
  refine jc_seq ?_
  refine jc_region ?_
  refine jo_f [(0, 0), (0, 0)] (by kernel_rfl) ?_
  refine jo_end (by kernel_rfl) ?_
  refine jx_then ?_
  refine jc_cond (t_1 != 0) (by kernel_rfl) (fun hc_9 => ?_) (fun hc_9 => ?_)
  · replace h := ifT hc_9 h
    refine jc_seq ?_
    refine jc_region ?_
    refine jo_f [(0, 0), (0, 0), (0, 0), (0, 0)] (by kernel_rfl) ?_
    refine jo_end (by kernel_rfl) ?_
    refine jx_then ?_
    refine jc_ret ?_
    refine jx_thenr ?_
    obtain rfl := Option.some.inj h
    exact jx_ret [] (.tuple #[(.int .i64 0), (.int .i64 0), (.int .i64 t_1)]) [] rfl (by kernel_rfl) (by kernel_rfl) (fun w hm => ⟨rfl, hm.pick [] (by kernel_rfl) (by kernel_rfl)⟩)
  · replace h := ifF hc_9 h
    refine jc_skip ?_
    refine jx_then ?_
    refine jc_seq ?_
    refine jc_draw [⟨some b_1, 27, [(.int .i16 f0.fSteps), (.slice f0_fHammers_a f0.fHammers.length f0_fHammers_c)]⟩, ⟨(some b_2), 31, row encU32 a1.1 []⟩, ⟨(some b_3), 31, row encU32 b2.1 []⟩, ⟨(some b_7), 31, row encA96U32 [a1, b2] []⟩] 11 (by kernel_rfl) (by kernel_rfl) ?_
    refine jd_v 0 0 (by kernel_rfl) (fun w h => h.pick [0, 1, 2, 3] (by kernel_rfl) (by kernel_rfl)) (by kernel_rfl) (by kernel_rfl) _ (fun w hm => ld_run (b := b_3) (off := 0) (s := 96) (agg := true) (vs := row encU32 b2.1 []) (by kernel_rfl) ((row_len encU32_len b2).trans rfl) (.inl rfl) (hm.all (hh := 2) (T := 31) (by kernel_rfl))) ?_
    refine jd_v 1 0 (by kernel_rfl) (fun w h => h.pick [0, 1, 2, 3] (by kernel_rfl) (by kernel_rfl)) (by kernel_rfl) (by kernel_rfl) _ (fun w hm => ld_run (b := b_2) (off := 0) (s := 96) (agg := true) (vs := row encU32 a1.1 []) (by kernel_rfl) ((row_len encU32_len a1).trans rfl) (.inl rfl) (hm.all (hh := 1) (T := 31) (by kernel_rfl))) ?_
    refine jd_v 4 0 (by kernel_rfl) (fun w h => h.pick [0, 1, 2, 3] (by kernel_rfl) (by kernel_rfl)) (by kernel_rfl) (by kernel_rfl) _ (fun w hm => ld_run (b := b_2) (off := 0) (s := 96) (agg := true) (vs := row encU32 a1.1 []) (by kernel_rfl) ((row_len encU32_len a1).trans rfl) (.inl rfl) (hm.all (hh := 1) (T := 31) (by kernel_rfl))) ?_
    refine jd_v 5 0 (by kernel_rfl) (fun w h => h.pick [0, 1, 2, 3] (by kernel_rfl) (by kernel_rfl)) (by kernel_rfl) (by kernel_rfl) _ (fun w hm => ld_run (b := b_3) (off := 0) (s := 96) (agg := true) (vs := row encU32 b2.1 []) (by kernel_rfl) ((row_len encU32_len b2).trans rfl) (.inl rfl) (hm.all (hh := 2) (T := 31) (by kernel_rfl))) ?_
    obtain ⟨t_2, ht_10, h⟩ := bd h
    refine toD 2 (by kernel_rfl) (p_call 0 83 #[(.agg (row encU32 b2.1 []).toArray), (.agg (row encU32 a1.1 []).toArray)] (by kernel_rfl) (by kernel_rfl) (fun w hm => impl_Drum_less.calls b2 a1 w _ ht_10) ?_)
    rintro w v w' hm ⟨rfl, hm'⟩
    refine ⟨_, hm.app hm', jkD (fun w h => h.pick [0, 1, 2, 3] (by kernel_rfl) (by kernel_rfl)) ?_⟩
    clear hm hm'
    obtain ⟨t_3, ht_11, h⟩ := bd h
    refine toD 3 (by kernel_rfl) (p_call 0 84 #[(.agg (row encU32 t_2.1 []).toArray)] (by kernel_rfl) (by kernel_rfl) (fun w hm => impl_Drum_count.calls t_2 w _ ht_11) ?_)
    rintro w v w' hm ⟨rfl, hm'⟩
    refine ⟨_, hm.app hm', jkD (fun w h => h.pick [0, 1, 2, 3] (by kernel_rfl) (by kernel_rfl)) ?_⟩
    clear hm hm'
    obtain ⟨t_4, ht_12, h⟩ := bd h
    refine toD 6 (by kernel_rfl) (p_call 0 83 #[(.agg (row encU32 a1.1 []).toArray), (.agg (row encU32 b2.1 []).toArray)] (by kernel_rfl) (by kernel_rfl) (fun w hm => impl_Drum_less.calls a1 b2 w _ ht_12) ?_)
    rintro w v w' hm ⟨rfl, hm'⟩
    refine ⟨_, hm.app hm', jkD (fun w h => h.pick [0, 1, 2, 3] (by kernel_rfl) (by kernel_rfl)) ?_⟩
    clear hm hm'
    obtain ⟨t_5, ht_13, h⟩ := bd h
    refine toD 7 (by kernel_rfl) (p_call 0 84 #[(.agg (row encU32 t_4.1 []).toArray)] (by kernel_rfl) (by kernel_rfl) (fun w hm => impl_Drum_count.calls t_4 w _ ht_13) ?_)
    rintro w v w' hm ⟨rfl, hm'⟩
    refine ⟨_, hm.app hm', jkD (fun w h => h.pick [0, 1, 2, 3] (by kernel_rfl) (by kernel_rfl)) ?_⟩
    clear hm hm'
    refine jd_f [⟨8, 0, 0⟩, ⟨9, 0, 0⟩, ⟨10, 0, 0⟩] 0 (by kernel_rfl) (by kernel_rfl) (fun w h => h.pick [0, 1, 2, 3] (by kernel_rfl) (by kernel_rfl)) (by kernel_rfl) (by kernel_rfl) ?_
    refine jd_end (by kernel_rfl) ?_
    refine jx_then ?_
    refine jc_ret ?_
    obtain rfl := Option.some.inj h
    exact jx_ret [] (.tuple #[(.int .i64 t_3), (.int .i64 t_5), (.int .i64 0)]) [] rfl (by kernel_rfl) (by kernel_rfl) (fun w hm => ⟨rfl, hm.pick [] (by kernel_rfl) (by kernel_rfl)⟩)

/-! ### impl.FirstBadChange -/
noncomputable def impl_FirstBadChange (f0 : GFrame) (d1 : Arr 96 Int) (list2 : List GChange) : Option (Int × Int) := (impl_changesCode f0 d1 list2).bind fun t_1 => (if (t_1 != 0) = true then some (0, t_1) else (impl_makeChanges f0 d1 list2).bind fun t_2 => (if (t_2.2.2 == 0) = true then some (0, 6) else some (t_2.2.1, 0)))
set_option maxRecDepth 100000 in
theorem impl_FirstBadChange.calls (f0 : GFrame) (d1 : Arr 96 Int) (list2 : List GChange) (w : World) (r : Int × Int) (f0_fHammers_a : Option Addr) (f0_fHammers_an : Nat) (f0_fHammers_c : Nat) (f0_fHammers_h : Rw w f0_fHammers_a 2 encGHammer f0.fHammers) (f0_fHammers_hn : f0.fHammers.length = f0_fHammers_an) (list2_a : Option Addr) (list2_an : Nat) (list2_c : Nat) (list2_h : Rw w list2_a 3 encGChange list2) (list2_hn : list2.length = list2_an) (h : impl_FirstBadChange f0 d1 list2 = some r) :
    Calls Tryz.prog 18 #[(.agg #[(.int .i16 f0.fSteps), (.slice f0_fHammers_a f0_fHammers_an f0_fHammers_c)]), (.agg (row encU32 d1.1 []).toArray), (.slice list2_a list2_an list2_c)] w fun e w' => ∃ v, e = .returned v ∧ (v = .tuple #[(.int .i64 r.1), (.int .i64 r.2)] ∧ Mem w [] [] w') := by
  subst f0_fHammers_hn list2_hn
  rw [impl_FirstBadChange] at h
  refine enter (args := [(.agg #[(.int .i16 f0.fSteps), (.slice f0_fHammers_a f0.fHammers.length f0_fHammers_c)]), (.agg (row encU32 d1.1 []).toArray), (.slice list2_a list2.length list2_c)]) Tryz.func18 rfl Tryz.ntmps18 (by kernel_rfl) (L := []) (W := []) (Mem.start w) ?_
  refine jc_seq ?_
  refine jc_region ?_
  refine toO (by kernel_rfl) (p_a 0 [0] (by kernel_rfl) (fun b => by kernel_rfl) (fun b_1 => jkO ?_))
  refine toO (by kernel_rfl) (p_a 0 [0] (by kernel_rfl) (fun b => by kernel_rfl) (fun b_2 => jkO ?_))
  refine jo_f [(0, 0), (0, 0)] (by kernel_rfl) ?_
  refine jo_end (by kernel_rfl) ?_
  refine jx_then ?_
  refine jc_seq ?_
  refine jc_seq ?_
  refine jc_region ?_
  refine jo_f [(0, 0)] (by kernel_rfl) ?_
  refine toO (by kernel_rfl) (p_ldA 0 1 b_2 96 1 31 encU32 d1 (by kernel_rfl) (by kernel_rfl) (by kernel_rfl) encU32_len (by kernel_rfl) (jkO ?_))
  refine jo_f [(0, 0)] (by kernel_rfl) ?_
  obtain ⟨t_1, ht_5, h⟩ := bd h
  refine toO (by kernel_rfl) (p_call 0 77 #[(.agg #[(.int .i16 f0.fSteps), (.slice f0_fHammers_a f0.fHammers.length f0_fHammers_c)]), (.agg (row encU32 d1.1 []).toArray), (.slice list2_a list2.length list2_c)] (by kernel_rfl) (by kernel_rfl) (fun w hm => impl_changesCode.calls f0 d1 list2 w _ f0_fHammers_a f0.fHammers.length f0_fHammers_c (hm.exRow f0_fHammers_h List.not_mem_nil) rfl list2_a list2.length list2_c (hm.exRow list2_h List.not_mem_nil) rfl ht_5) ?_)
  rintro w v w' hm ⟨rfl, hm'⟩
  refine ⟨_, hm.app hm', jkO ?_⟩
  clear hm hm'
  refine jo_f [(0, 0)] (by kernel_rfl) ?_
  refine jo_end (by kernel_rfl) ?_
  refine jx_then ?_
  refine jc_seq ?_
  refine jc_region ?_
  refine jo_f [(0, 0), (0, 0)] (by kernel_rfl) ?_
  refine jo_end (by kernel_rfl) ?_
  refine jx_then ?_
  refine jc_cond (t_1 != 0) (by kernel_rfl) (fun hc_6 => ?_) (fun hc_6 => ?_)
  · replace h := ifT hc_6 h
    refine jc_seq ?_
    refine jc_region ?_
    refine jo_f [(0, 0), (0, 0), (0, 0)] (by kernel_rfl) ?_
    refine jo_end (by kernel_rfl) ?_
    refine jx_then ?_
    refine jc_ret ?_
    refine jx_thenr ?_
    obtain rfl := Option.some.inj h
    exact jx_ret [] (.tuple #[(.int .i64 0), (.int .i64 t_1)]) [] rfl (by kernel_rfl) (by kernel_rfl) (fun w hm => ⟨rfl, hm.pick [] (by kernel_rfl) (by kernel_rfl)⟩)
  · replace h := ifF hc_6 h
    refine jc_skip ?_
    refine jx_then ?_
    refine jc_seq ?_
    refine jc_region ?_
    refine jo_f [(0, 0)] (by kernel_rfl) ?_
    refine toO (by kernel_rfl) (p_ldA 0 1 b_2 96 1 31 encU32 d1 (by kernel_rfl) (by kernel_rfl) (by kernel_rfl) encU32_len (by kernel_rfl) (jkO ?_))
    refine jo_f [(0, 0)] (by kernel_rfl) ?_
    obtain ⟨t_2, ht_7, h⟩ := bd h
    refine toO (by kernel_rfl) (p_call 0 78 #[(.agg #[(.int .i16 f0.fSteps), (.slice f0_fHammers_a f0.fHammers.length f0_fHammers_c)]), (.agg (row encU32 d1.1 []).toArray), (.slice list2_a list2.length list2_c)] (by kernel_rfl) (by kernel_rfl) (fun w hm => impl_makeChanges.calls f0 d1 list2 w _ f0_fHammers_a f0.fHammers.length f0_fHammers_c (hm.exRow f0_fHammers_h List.not_mem_nil) rfl list2_a list2.length list2_c (hm.exRow list2_h List.not_mem_nil) rfl ht_7) ?_)
    rintro w v w' hm ⟨rfl, hm'⟩
    refine ⟨_, hm.app hm', jkO ?_⟩
    clear hm hm'
    refine jo_f [(0, 0), (0, 0), (0, 0), (0, 0)] (by kernel_rfl) ?_
    refine toO (by kernel_rfl) (p_a 0 [0] (by kernel_rfl) (fun b => by kernel_rfl) (fun b_8 => jkO ?_))
    refine toO (by kernel_rfl) (p_sA 0 2 b_8 96 1 31 encU32 (Arr.rep 96 0) t_2.1 (by kernel_rfl) (by kernel_rfl) (by kernel_rfl) encU32_len encU32_cell (by kernel_rfl) (jkO ?_))
    refine jo_f [(0, 0), (0, 0)] (by kernel_rfl) ?_
    refine jo_end (by kernel_rfl) ?_
    refine jx_then ?_
    refine jc_seq ?_
    refine jc_seq ?_
    refine jc_region ?_
    refine jo_f [(0, 0), (0, 0)] (by kernel_rfl) ?_
    refine jo_end (by kernel_rfl) ?_
    refine jx_then ?_
    refine jc_cond (t_2.2.2 == 0) (by kernel_rfl) (fun hc_10 => ?_) (fun hc_10 => ?_)
    · replace h := ifT hc_10 h
      refine jc_seq ?_
      refine jc_region ?_
      refine jo_f [(0, 0), (0, 0)] (by kernel_rfl) ?_
      refine jo_end (by kernel_rfl) ?_
      refine jx_then ?_
      refine jc_ret ?_
      refine jx_thenr ?_
      obtain rfl := Option.some.inj h
      exact jx_ret [] (.tuple #[(.int .i64 0), (.int .i64 6)]) [] rfl (by kernel_rfl) (by kernel_rfl) (fun w hm => ⟨rfl, hm.pick [] (by kernel_rfl) (by kernel_rfl)⟩)
    · replace h := ifF hc_10 h
      refine jc_skip ?_
      refine jx_then ?_
      refine jc_seq ?_
      refine jc_region ?_
      refine jo_f [(0, 0), (0, 0), (0, 0)] (by kernel_rfl) ?_
      refine jo_end (by kernel_rfl) ?_
      refine jx_then ?_
      refine jc_ret ?_
      obtain rfl := Option.some.inj h
      exact jx_ret [] (.tuple #[(.int .i64 t_2.2.1), (.int .i64 0)]) [] rfl (by kernel_rfl) (by kernel_rfl) (fun w hm => ⟨rfl, hm.pick [] (by kernel_rfl) (by kernel_rfl)⟩)

/-! ### spec.A2SameChanges -/
noncomputable def spec_A2SameChanges.k_1 : Option (Bool) := some true
noncomputable def spec_A2SameChanges.l_3 (a0 : List GChange) (b1 : List GChange) : Int → Option ((Int) ⊕ (Bool ⊕ Unit))
  | i_2 => (if (decide (i_2 < (a0.length : Int))) = true then (ix a0 i_2).bind fun x_5 => (ix b1 i_2).bind fun x_6 => (if (!((x_5.fStep == x_6.fStep) && ((x_5.fTrack == x_6.fTrack) && (x_5.fPut == x_6.fPut)))) = true then some (.inr (.inl false)) else some (.inl (w64 (i_2 + 1)))) else some (.inr (.inr ())))
noncomputable def spec_A2SameChanges (a0 : List GChange) (b1 : List GChange) : Option (Bool) := (if ((a0.length : Int) != (b1.length : Int)) = true then some false else (loop (spec_A2SameChanges.l_3 a0 b1) 0).bind fun t_4 => match t_4 with | .inl p => some p | .inr p => spec_A2SameChanges.k_1)
set_option maxRecDepth 100000 in
theorem spec_A2SameChanges.calls (a0 : List GChange) (b1 : List GChange) (w : World) (r : Bool) (a0_a : Option Addr) (a0_an : Nat) (a0_c : Nat) (a0_h : Rw w a0_a 3 encGChange a0) (a0_hn : a0.length = a0_an) (b1_a : Option Addr) (b1_an : Nat) (b1_c : Nat) (b1_h : Rw w b1_a 3 encGChange b1) (b1_hn : b1.length = b1_an) (h : spec_A2SameChanges a0 b1 = some r) :
    Calls Tryz.prog 19 #[(.slice a0_a a0_an a0_c), (.slice b1_a b1_an b1_c)] w fun e w' => ∃ v, e = .returned v ∧ (v = (.bool r) ∧ Mem w [] [] w') := by
  subst a0_hn b1_hn
  rw [spec_A2SameChanges] at h
  refine enter (args := [(.slice a0_a a0.length a0_c), (.slice b1_a b1.length b1_c)]) Tryz.func19 rfl Tryz.ntmps19 (by kernel_rfl) (L := []) (W := []) (Mem.start w) ?_
  refine jc_seq ?_
  refine jc_region ?_
  refine jo_f [(0, 0)] (by kernel_rfl) ?_
  refine jo_end (by kernel_rfl) ?_
  refine jx_then ?_
  refine jc_seq ?_
  refine jc_seq ?_
  refine jc_region ?_
  refine jo_f [(0, 0), (0, 0), (0, 0), (0, 0), (0, 0)] (by kernel_rfl) ?_
  refine jo_end (by kernel_rfl) ?_
  refine jx_then ?_
  refine jc_cond ((a0.length : Int) != (b1.length : Int)) (by kernel_rfl) (fun hc_2 => ?_) (fun hc_2 => ?_)
  · replace h := ifT hc_2 h
    refine jc_seq ?_
    refine jc_region ?_
    refine jo_f [(0, 0)] (by kernel_rfl) ?_
    refine jo_end (by kernel_rfl) ?_
    refine jx_then ?_
    refine jc_ret ?_
    refine jx_thenr ?_
    obtain rfl := Option.some.inj h
    exact jx_ret [] (.bool false) [] rfl (by kernel_rfl) (by kernel_rfl) (fun w hm => ⟨rfl, hm.pick [] (by kernel_rfl) (by kernel_rfl)⟩)
  · replace h := ifF hc_2 h
    refine jc_skip ?_
    refine jx_then ?_
    refine jc_seq ?_
    refine jc_seq ?_
    refine jc_region ?_
    refine jo_f [(0, 0)] (by kernel_rfl) ?_
    refine jo_end (by kernel_rfl) ?_
    refine jx_then ?_
    refine jc_meet (fun (_ : Unit) => spec_A2SameChanges.k_1 = some r) (fun (_ : Unit) => [(4, [], (.bool false))]) (fun (_ : Unit) => []) ?_ ?_
    · refine jc_block ?_
      obtain ⟨t_4, ht_42, hr_33⟩ := bd h
      refine jc_loop (fun (s : Int) (x : Unit) => match s, x with | i_2, _ => True) (fun (s : Int) (x : Unit) => match s, x with | i_2, _ => [(0, [], (.slice a0_a a0.length a0_c)), (1, [], (.slice b1_a b1.length b1_c)), (4, [], (.bool false)), (5, [], (.int .i64 i_2))]) (fun (s : Int) (x : Unit) => match s, x with | i_2, _ => []) ht_42 () trivial (by kernel_rfl) [] (by kernel_rfl) (by kernel_rfl) ?_
      rintro i_2 _ y_34 _ h
      rw [spec_A2SameChanges.l_3] at h
      refine jc_seq ?_
      refine jc_seq ?_
      refine jc_region ?_
      refine jo_f [(0, 0), (0, 0), (0, 0), (0, 0)] (by kernel_rfl) ?_
      refine jo_end (by kernel_rfl) ?_
      refine jx_then ?_
      refine jc_cond (decide (i_2 < (a0.length : Int))) (by kernel_rfl) (fun hc_36 => ?_) (fun hc_36 => ?_)
      · replace h := ifT hc_36 h
        refine jc_skip ?_
        refine jx_then ?_
        refine jc_seq ?_
        refine jc_block ?_
        refine jc_seq ?_
        refine jc_draw [] 9 (by kernel_rfl) (by kernel_rfl) ?_
        refine jd_f [⟨0, 0, 0⟩, ⟨1, 0, 0⟩, ⟨4, 0, 0⟩, ⟨5, 0, 0⟩] 5 (by kernel_rfl) (by kernel_rfl) (fun w h => h.pick [] (by kernel_rfl) (by kernel_rfl)) (by kernel_rfl) (by kernel_rfl) ?_
        obtain ⟨x_5, hx_37, h⟩ := bd h
        refine jd_v 2 0 (by kernel_rfl) (fun w h => h.pick [] (by kernel_rfl) (by kernel_rfl)) (by kernel_rfl) (by kernel_rfl) _ (fun w hm => idx_run (a := a0_a) (len := a0.length) (s := 3) (j := i_2) (by kernel_rfl) (ix_some hx_37).1 (ltn hx_37 rfl) (a0_h.sp hx_37)) ?_
        refine jd_v 3 0 (by kernel_rfl) (fun w h => h.pick [] (by kernel_rfl) (by kernel_rfl)) (by kernel_rfl) (by kernel_rfl) _ (fun w hm => ld_run (b := aB a0_a) (off := (aO a0_a + i_2.toNat * 3)) (s := 3) (agg := true) (vs := (encGChange x_5)) (by kernel_rfl) (by kernel_rfl) (.inl rfl) ((hm.exRow a0_h List.not_mem_nil).at hx_37)) ?_
        obtain ⟨x_6, hx_38, h⟩ := bd h
        refine jd_v 6 0 (by kernel_rfl) (fun w h => h.pick [] (by kernel_rfl) (by kernel_rfl)) (by kernel_rfl) (by kernel_rfl) _ (fun w hm => idx_run (a := b1_a) (len := b1.length) (s := 3) (j := i_2) (by kernel_rfl) (ix_some hx_38).1 (ltn hx_38 rfl) (b1_h.sp hx_38)) ?_
        refine jd_v 7 0 (by kernel_rfl) (fun w h => h.pick [] (by kernel_rfl) (by kernel_rfl)) (by kernel_rfl) (by kernel_rfl) _ (fun w hm => ld_run (b := aB b1_a) (off := (aO b1_a + i_2.toNat * 3)) (s := 3) (agg := true) (vs := (encGChange x_6)) (by kernel_rfl) (by kernel_rfl) (.inl rfl) ((hm.exRow b1_h List.not_mem_nil).at hx_38)) ?_
        refine jd_f [⟨8, 0, 0⟩] 0 (by kernel_rfl) (by kernel_rfl) (fun w h => h.pick [] (by kernel_rfl) (by kernel_rfl)) (by kernel_rfl) (by kernel_rfl) ?_
        refine jd_end (by kernel_rfl) ?_
        refine jx_then ?_
        refine jc_cond (!((x_5.fStep == x_6.fStep) && ((x_5.fTrack == x_6.fTrack) && (x_5.fPut == x_6.fPut)))) (by kernel_rfl) (fun hc_39 => ?_) (fun hc_39 => ?_)
        · replace h := ifT hc_39 h
          refine jc_seq ?_
          refine jc_region ?_
          refine jo_f [(0, 0)] (by kernel_rfl) ?_
          refine jo_end (by kernel_rfl) ?_
          refine jx_then ?_
          refine jc_ret ?_
          refine jx_inr ?_
          refine jx_thenr ?_
          refine jx_leaver (.inl false) (Option.some.inj h).symm (fun e_40 => ?_)
          subst e_40
          refine jx_inr ?_
          refine jx_thenr ?_
          refine jx_thenr ?_
          obtain rfl := Option.some.inj hr_33
          exact jx_ret [] (.bool false) [] rfl (by kernel_rfl) (by kernel_rfl) (fun w hm => ⟨rfl, hm.pick [] (by kernel_rfl) (by kernel_rfl)⟩)
        · replace h := ifF hc_39 h
          refine jc_skip ?_
          refine jx_inn ?_
          refine jx_then ?_
          refine jc_region ?_
          refine jo_f [(0, 0), (0, 0), (0, 0)] (by kernel_rfl) ?_
          refine jo_end (by kernel_rfl) ?_
          exact jx_back (w64 (i_2 + 1)) () (Option.some.inj h).symm trivial [] (by kernel_rfl) (by kernel_rfl) (by kernel_rfl)
      · replace h := ifF hc_36 h
        refine jc_exit ?_
        refine jx_thenx ?_
        refine jx_leave (.inr ()) (Option.some.inj h).symm (fun e_41 => ?_)
        subst e_41
        refine jx_ine ?_
        exact jx_meet () hr_33 (by kernel_rfl) [] (by kernel_rfl) (by kernel_rfl)
    · rintro _ h
      replace h : spec_A2SameChanges.k_1 = some r := h
      rw [spec_A2SameChanges.k_1] at h
      refine jx_then ?_
      refine jc_seq ?_
      refine jc_region ?_
      refine jo_f [(0, 0)] (by kernel_rfl) ?_
      refine jo_end (by kernel_rfl) ?_
      refine jx_then ?_
      refine jc_ret ?_
      obtain rfl := Option.some.inj h
      exact jx_ret [] (.bool true) [] rfl (by kernel_rfl) (by kernel_rfl) (fun w hm => ⟨rfl, hm.pick [] (by kernel_rfl) (by kernel_rfl)⟩)

/-! ### (impl.Frame).turned -/
noncomputable def impl_Frame_turned.k_2 (a_1 : Arr 96 Int) : Option ((Arr 96 Int)) := some a_1
noncomputable def impl_Frame_turned.l_5 (f0 : GFrame) (d1 : Arr 96 Int) (by2 : Int) : ((Arr 96 Int) × Int) → Option (((Arr 96 Int) × Int) ⊕ ((Arr 96 Int)))
  | (a_3, i_4) => (if (decide (i_4 < (w64 f0.fSteps))) = true then (ix d1.1 i_4).bind fun x_7 => (if (w64 f0.fSteps) ≠ 0 then (ix a_3.1 (Int.tmod (w64 (i_4 + by2)) (w64 f0.fSteps))).bind fun x_8 => some (.inl ((Arr.set a_3 (Int.tmod (w64 (i_4 + by2)) (w64 f0.fSteps)) x_7), (w64 (i_4 + 1)))) else none) else some (.inr a_3))
noncomputable def impl_Frame_turned (f0 : GFrame) (d1 : Arr 96 Int) (by2 : Int) : Option ((Arr 96 Int)) := (loop (impl_Frame_turned.l_5 f0 d1 by2) ((Arr.rep 96 0), 0)).bind fun t_6 => impl_Frame_turned.k_2 t_6
set_option maxRecDepth 100000 in
theorem impl_Frame_turned.calls (f0 : GFrame) (d1 : Arr 96 Int) (by2 : Int) (w : World) (r : (Arr 96 Int)) (f0_fHammers_a : Option Addr) (f0_fHammers_an : Nat) (f0_fHammers_c : Nat) (f0_fHammers_h : Rw w f0_fHammers_a 2 encGHammer f0.fHammers) (f0_fHammers_hn : f0.fHammers.length = f0_fHammers_an) (h : impl_Frame_turned f0 d1 by2 = some r) :
    Calls Tryz.prog 85 #[(.agg #[(.int .i16 f0.fSteps), (.slice f0_fHammers_a f0_fHammers_an f0_fHammers_c)]), (.agg (row encU32 d1.1 []).toArray), (.int .i64 by2)] w fun e w' => ∃ v, e = .returned v ∧ (v = (.agg (row encU32 r.1 []).toArray) ∧ Mem w [] [] w') := by
  subst f0_fHammers_hn
  rw [impl_Frame_turned] at h
  refine enter (args := [(.agg #[(.int .i16 f0.fSteps), (.slice f0_fHammers_a f0.fHammers.length f0_fHammers_c)]), (.agg (row encU32 d1.1 []).toArray), (.int .i64 by2)]) Tryz.func85 rfl Tryz.ntmps85 (by kernel_rfl) (L := []) (W := []) (Mem.start w) ?_
  refine jc_seq ?_
  refine jc_region ?_
  refine toO (by kernel_rfl) (p_a 0 [0] (by kernel_rfl) (fun b => by kernel_rfl) (fun b_1 => jkO ?_))
  refine toO (by kernel_rfl) (p_a 0 [0] (by kernel_rfl) (fun b => by kernel_rfl) (fun b_2 => jkO ?_))
  refine toO (by kernel_rfl) (p_a 0 [0] (by kernel_rfl) (fun b => by kernel_rfl) (fun b_3 => jkO ?_))
  refine jo_end (by kernel_rfl) ?_
  refine jx_then ?_
  refine jc_seq ?_
  refine jc_region ?_
  refine jo_f [(0, 0)] (by kernel_rfl) ?_
  refine toO (by kernel_rfl) (p_a 0 [0] (by kernel_rfl) (fun b => by kernel_rfl) (fun b_4 => jkO ?_))
  refine toO (by kernel_rfl) (p_sA 0 3 b_4 96 1 31 encU32 (Arr.rep 96 0) (Arr.rep 96 0) (by kernel_rfl) (by kernel_rfl) (by kernel_rfl) encU32_len encU32_cell (by kernel_rfl) (jkO ?_))
  refine jo_end (by kernel_rfl) ?_
  refine jx_then ?_
  refine jc_seq ?_
  refine jc_seq ?_
  refine jc_region ?_
  refine jo_f [(0, 0), (0, 0), (0, 0), (0, 0)] (by kernel_rfl) ?_
  refine jo_end (by kernel_rfl) ?_
  refine jx_then ?_
  refine jc_meet (fun (j : (Arr 96 Int)) => match j with | a_1 => impl_Frame_turned.k_2 a_1 = some r) (fun (j : (Arr 96 Int)) => match j with | a_1 => [(6, [], (.pointer (some ⟨b_3, 0, none⟩))), (7, [], (.pointer (some ⟨b_4, 0, none⟩)))]) (fun (j : (Arr 96 Int)) => match j with | a_1 => [⟨some b_1, 27, [(.int .i16 f0.fSteps), (.slice f0_fHammers_a f0.fHammers.length f0_fHammers_c)]⟩, ⟨(some b_2), 31, row encU32 d1.1 []⟩, ⟨(some b_3), 31, row encU32 ((Arr.rep 96 0).1) []⟩, ⟨(some b_4), 31, row encU32 a_1.1 []⟩]) ?_ ?_
  · refine jc_block ?_
    obtain ⟨t_6, ht_116, hr_105⟩ := bd h
    refine jc_loop (fun (s : (Arr 96 Int) × Int) (x : Unit) => match s, x with | ⟨a_3, i_4⟩, _ => True) (fun (s : (Arr 96 Int) × Int) (x : Unit) => match s, x with | ⟨a_3, i_4⟩, _ => [(2, [], (.int .i64 by2)), (3, [], (.pointer (some ⟨b_1, 0, none⟩))), (4, [], (.pointer (some ⟨b_2, 0, none⟩))), (6, [], (.pointer (some ⟨b_3, 0, none⟩))), (7, [], (.pointer (some ⟨b_4, 0, none⟩))), (12, [], (.int .i64 (w64 f0.fSteps))), (13, [], (.int .i64 i_4))]) (fun (s : (Arr 96 Int) × Int) (x : Unit) => match s, x with | ⟨a_3, i_4⟩, _ => [⟨some b_1, 27, [(.int .i16 f0.fSteps), (.slice f0_fHammers_a f0.fHammers.length f0_fHammers_c)]⟩, ⟨(some b_2), 31, row encU32 d1.1 []⟩, ⟨(some b_3), 31, row encU32 ((Arr.rep 96 0).1) []⟩, ⟨(some b_4), 31, row encU32 a_3.1 []⟩]) ht_116 () trivial (by kernel_rfl) [0, 1, 2, 3] (by kernel_rfl) (by kernel_rfl) ?_
    rintro ⟨a_3, i_4⟩ _ y_106 _ h
    rw [impl_Frame_turned.l_5] at h
    refine jc_seq ?_
    refine jc_region ?_
    refine jo_f [(0, 0)] (by kernel_rfl) ?_
    refine jo_end (by kernel_rfl) ?_
    refine jx_then ?_
    refine jc_seq ?_
    refine jc_cond (decide (i_4 < (w64 f0.fSteps))) (by kernel_rfl) (fun hc_108 => ?_) (fun hc_108 => ?_)
    · replace h := ifT hc_108 h
      refine jc_skip ?_
      refine jx_then ?_
      refine jc_seq ?_
      refine jc_block ?_
      refine jc_seq ?_
      refine jc_region ?_
      refine jo_f [(0, 0), (0, 0)] (by kernel_rfl) ?_
      refine jo_end (by kernel_rfl) ?_
      refine jx_then ?_
      refine jc_draw [⟨some b_1, 27, [(.int .i16 f0.fSteps), (.slice f0_fHammers_a f0.fHammers.length f0_fHammers_c)]⟩, ⟨(some b_2), 31, row encU32 d1.1 []⟩, ⟨(some b_3), 31, row encU32 ((Arr.rep 96 0).1) []⟩] 12 (by kernel_rfl) (by kernel_rfl) ?_
      refine jd_f [⟨0, 0, 0⟩, ⟨1, 0, 0⟩, ⟨2, 0, 0⟩, ⟨3, 0, 0⟩, ⟨4, 0, 0⟩, ⟨5, 0, 0⟩, ⟨7, 0, 0⟩] 5 (by kernel_rfl) (by kernel_rfl) (fun w h => h.pick [0, 1, 2] (by kernel_rfl) (by kernel_rfl)) (by kernel_rfl) (by kernel_rfl) ?_
      obtain ⟨x_7, hx_112, h⟩ := bd h
      refine jd_v 8 0 (by kernel_rfl) (fun w h => h.pick [0, 1, 2] (by kernel_rfl) (by kernel_rfl)) (by kernel_rfl) (by kernel_rfl) _ (fun w hm => idx_run (a := (some ⟨b_2, 0, none⟩)) (len := 96) (s := 1) (j := i_4) (by kernel_rfl) (ix_some hx_112).1 (ltn hx_112 d1.2) rfl) ?_
      refine jd_v 9 0 (by kernel_rfl) (fun w h => h.pick [0, 1, 2] (by kernel_rfl) (by kernel_rfl)) (by kernel_rfl) (by kernel_rfl) _ (fun w hm => ld_run (b := aB (some ⟨b_2, 0, none⟩)) (off := (aO (some ⟨b_2, 0, none⟩) + i_4.toNat * 1)) (s := 1) (agg := false) (vs := (encU32 x_7)) (by kernel_rfl) (by kernel_rfl) (.inr rfl) ((hm.ownRow (hh := 1) (o := (some b_2)) (T := 31) (enc := encU32) (xs := d1.1) (sp := []) (by kernel_rfl) (fun e => nomatch e) encU32_len).at hx_112)) ?_
      obtain ⟨hg_113, h⟩ := gd h
      refine toD 6 (by kernel_rfl) (p_rem 0 .i64 (w64 (i_4 + by2)) (w64 f0.fSteps) (by kernel_rfl) (by kernel_rfl) hg_113 (jkD (fun w h => h.pick [0, 1, 2] (by kernel_rfl) (by kernel_rfl)) ?_))
      obtain ⟨x_8, hx_114, h⟩ := bd h
      refine jd_v 10 0 (by kernel_rfl) (fun w h => h.pick [0, 1, 2] (by kernel_rfl) (by kernel_rfl)) (by kernel_rfl) (by kernel_rfl) _ (fun w hm => idx_run (a := (some ⟨b_4, 0, none⟩)) (len := 96) (s := 1) (j := (Int.tmod (w64 (i_4 + by2)) (w64 f0.fSteps))) (by kernel_rfl) (ix_some hx_114).1 (ltn hx_114 a_3.2) rfl) ?_
      refine toD 11 (by kernel_rfl) (p_str 0 3 b_4 31 encU32 a_3.1 [] (Int.tmod (w64 (i_4 + by2)) (w64 f0.fSteps)) x_7 1 0 [(.int .u32 x_7)] (by kernel_rfl) (by kernel_rfl) (by kernel_rfl) encU32_len hx_114 (by kernel_rfl) (by kernel_rfl) (jkD (fun w h => h.pick [0, 1, 2] (by kernel_rfl) (by kernel_rfl)) ?_))
      refine jd_end (by kernel_rfl) ?_
      refine jx_inn ?_
      refine jx_then ?_
      refine jc_region ?_
      refine jo_f [(0, 0), (0, 0)] (by kernel_rfl) ?_
      refine jo_end (by kernel_rfl) ?_
      exact jx_back ((Arr.set a_3 (Int.tmod (w64 (i_4 + by2)) (w64 f0.fSteps)) x_7), (w64 (i_4 + 1))) () (Option.some.inj h).symm trivial [0, 1, 2, 3] (by kernel_rfl) (by kernel_rfl) (by kernel_rfl)
    · replace h := ifF hc_108 h
      refine jc_exit ?_
      refine jx_thenx ?_
      refine jx_leave a_3 (Option.some.inj h).symm (fun e_115 => ?_)
      subst e_115
      refine jx_ine ?_
      exact jx_meet a_3 hr_105 (by kernel_rfl) [0, 1, 2, 3] (by kernel_rfl) (by kernel_rfl)
  · rintro a_1 h
    replace h : impl_Frame_turned.k_2 a_1 = some r := h
    rw [impl_Frame_turned.k_2] at h
    refine jx_then ?_
    refine jc_seq ?_
    refine jc_region ?_
    refine toO (by kernel_rfl) (p_ldA 0 3 b_4 96 1 31 encU32 a_1 (by kernel_rfl) (by kernel_rfl) (by kernel_rfl) encU32_len (by kernel_rfl) (jkO ?_))
    refine toO (by kernel_rfl) (p_sA 0 2 b_3 96 1 31 encU32 (Arr.rep 96 0) a_1 (by kernel_rfl) (by kernel_rfl) (by kernel_rfl) encU32_len encU32_cell (by kernel_rfl) (jkO ?_))
    refine jo_end (by kernel_rfl) ?_
    refine jx_then ?_
    refine jc_ret ?_
    obtain rfl := Option.some.inj h
    exact jx_retV rfl (rq_arr (b := b_3) (T' := 31) (hh := 2) (mm := 1) encU32 a_1 (by kernel_rfl) (by kernel_rfl) encU32_len (by kernel_rfl) rq_nil) (fun w hm => ⟨rfl, hm.pick [] (by kernel_rfl) (by kernel_rfl)⟩)

/-! ### impl.TurnedCost -/
noncomputable def impl_TurnedCost.k_4 (i_2 : Int) (i_3 : Int) : Option (Int × Int × Int) := some (i_3, i_2, 0)
noncomputable def impl_TurnedCost.l_8 (f0 : GFrame) (a1 : Arr 96 Int) (b2 : Arr 96 Int) : (Int × Int × Int) → Option ((Int × Int × Int) ⊕ ((Int × Int)))
  | (i_5, i_6, i_7) => (if (decide (i_7 < (w64 f0.fSteps))) = true then (impl_Frame_turned f0 b2 i_7).bind fun t_10 => (impl_cost a1 t_10).bind fun t_11 => (if ((decide (i_6 < 0)) || (decide (t_11 < i_6))) = true then some (.inl (i_7, t_11, (w64 (i_7 + 1)))) else some (.inl (i_5, i_6, (w64 (i_7 + 1))))) else some (.inr (i_5, i_6)))
noncomputable def impl_TurnedCost (f0 : GFrame) (a1 : Arr 96 Int) (b2 : Arr 96 Int) : Option (Int × Int × Int) := (impl_drumCode f0 [a1, b2]).bind fun t_1 => (if (t_1 != 0) = true then some (0, 0, t_1) else (loop (impl_TurnedCost.l_8 f0 a1 b2) (0, (-1), 0)).bind fun t_9 => impl_TurnedCost.k_4 t_9.1 t_9.2)
set_option maxRecDepth 100000 in
theorem impl_TurnedCost.calls (f0 : GFrame) (a1 : Arr 96 Int) (b2 : Arr 96 Int) (w : World) (r : Int × Int × Int) (f0_fHammers_a : Option Addr) (f0_fHammers_an : Nat) (f0_fHammers_c : Nat) (f0_fHammers_h : Rw w f0_fHammers_a 2 encGHammer f0.fHammers) (f0_fHammers_hn : f0.fHammers.length = f0_fHammers_an) (h : impl_TurnedCost f0 a1 b2 = some r) :
    Calls Tryz.prog 20 #[(.agg #[(.int .i16 f0.fSteps), (.slice f0_fHammers_a f0_fHammers_an f0_fHammers_c)]), (.agg (row encU32 a1.1 []).toArray), (.agg (row encU32 b2.1 []).toArray)] w fun e w' => ∃ v, e = .returned v ∧ (v = .tuple #[(.int .i64 r.1), (.int .i64 r.2.1), (.int .i64 r.2.2)] ∧ Mem w [] [] w') := by
  subst f0_fHammers_hn
  rw [impl_TurnedCost] at h
  refine enter (args := [(.agg #[(.int .i16 f0.fSteps), (.slice f0_fHammers_a f0.fHammers.length f0_fHammers_c)]), (.agg (row encU32 a1.1 []).toArray), (.agg (row encU32 b2.1 []).toArray)]) Tryz.func20 rfl Tryz.ntmps20 (by kernel_rfl) (L := []) (W := []) (Mem.start w) ?_
  refine jc_seq ?_
  refine jc_region ?_
  refine toO (by kernel_rfl) (p_a 0 [0] (by kernel_rfl) (fun b => by kernel_rfl) (fun b_1 => jkO ?_))
  refine toO (by kernel_rfl) (p_a 0 [0] (by kernel_rfl) (fun b => by kernel_rfl) (fun b_2 => jkO ?_))
  refine toO (by kernel_rfl) (p_a 0 [0] (by kernel_rfl) (fun b => by kernel_rfl) (fun b_3 => jkO ?_))
  refine jo_f [(0, 0), (0, 0), (0, 0)] (by kernel_rfl) ?_
  refine jo_end (by kernel_rfl) ?_
  refine jx_then ?_
  refine jc_seq ?_
  refine jc_seq ?_
  refine jc_region ?_
  refine jo_f [(0, 0)] (by kernel_rfl) ?_
  refine toO (by kernel_rfl) (p_ldA 0 1 b_2 96 1 31 encU32 a1 (by kernel_rfl) (by kernel_rfl) (by kernel_rfl) encU32_len (by kernel_rfl) (jkO ?_))
  refine toO (by kernel_rfl) (p_ldA 0 2 b_3 96 1 31 encU32 b2 (by kernel_rfl) (by kernel_rfl) (by kernel_rfl) encU32_len (by kernel_rfl) (jkO ?_))
  refine toO (by kernel_rfl) (p_bs 0 31 96 2 encA96U32 [(.agg (row encU32 a1.1 []).toArray), (.agg (row encU32 b2.1 []).toArray)] [a1, b2] (by kernel_rfl) (by kernel_rfl) rfl (by kernel_rfl) (by kernel_rfl) encA96U32_len (fun b_7 => jkO ?_))
  obtain ⟨t_1, ht_8, h⟩ := bd h
  refine toO (by kernel_rfl) (p_call 0 81 #[(.agg #[(.int .i16 f0.fSteps), (.slice f0_fHammers_a f0.fHammers.length f0_fHammers_c)]), (.slice (some ⟨b_7, 0, none⟩) 2 2)] (by kernel_rfl) (by kernel_rfl) (fun w hm => impl_drumCode.calls f0 [a1, b2] w _ f0_fHammers_a f0.fHammers.length f0_fHammers_c (hm.exRow f0_fHammers_h List.not_mem_nil) rfl (some ⟨b_7, 0, none⟩) 2 2 (hm.ownRow (hh := 3) (o := (some b_7)) (T := 31) (enc := encA96U32) (xs := [a1, b2]) (sp := []) (by kernel_rfl) (fun e => nomatch e) encA96U32_len) rfl ht_8) ?_)
  rintro w v w' hm ⟨rfl, hm'⟩
  refine ⟨_, hm.app hm', jkO ?_⟩
  clear hm hm'
  refine jo_f [(0, 0)] (by kernel_rfl) ?_
  refine jo_end (by kernel_rfl) ?_
  refine jx_then ?_
  refine jc_seq ?_
  refine jc_region ?_
  refine jo_f [(0, 0), (0, 0)] (by kernel_rfl) ?_
  refine jo_end (by kernel_rfl) ?_
  refine jx_then ?_
  refine jc_cond (t_1 != 0) (by kernel_rfl) (fun hc_9 => ?_) (fun hc_9 => ?_)
  · replace h := ifT hc_9 h
    refine jc_seq ?_
    refine jc_region ?_
    refine jo_f [(0, 0), (0, 0), (0, 0), (0, 0)] (by kernel_rfl) ?_
    refine jo_end (by kernel_rfl) ?_
    refine jx_then ?_
    refine jc_ret ?_
    refine jx_thenr ?_
    obtain rfl := Option.some.inj h
    exact jx_ret [] (.tuple #[(.int .i64 0), (.int .i64 0), (.int .i64 t_1)]) [] rfl (by kernel_rfl) (by kernel_rfl) (fun w hm => ⟨rfl, hm.pick [] (by kernel_rfl) (by kernel_rfl)⟩)
  · replace h := ifF hc_9 h
    refine jc_skip ?_
    refine jx_then ?_
    refine jc_seq ?_
    refine jc_region ?_
    refine jo_f [(0, 0), (0, 0)] (by kernel_rfl) ?_
    refine jo_end (by kernel_rfl) ?_
    refine jx_then ?_
    refine jc_seq ?_
    refine jc_seq ?_
    refine jc_region ?_
    refine jo_f [(0, 0), (0, 0), (0, 0), (0, 0)] (by kernel_rfl) ?_
    refine jo_end (by kernel_rfl) ?_
    refine jx_then ?_
    refine jc_meet (fun (j : Int × Int) => match j with | ⟨i_2, i_3⟩ => impl_TurnedCost.k_4 i_2 i_3 = some r) (fun (j : Int × Int) => match j with | ⟨i_2, i_3⟩ => [(6, [], (.int .i64 0)), (7, [], (.int .i64 0)), (8, [], (.int .i64 0)), (10, [], (.int .i64 i_2)), (11, [], (.int .i64 i_3))]) (fun (j : Int × Int) => match j with | ⟨i_2, i_3⟩ => [⟨some b_1, 27, [(.int .i16 f0.fSteps), (.slice f0_fHammers_a f0.fHammers.length f0_fHammers_c)]⟩, ⟨(some b_2), 31, row encU32 a1.1 []⟩, ⟨(some b_3), 31, row encU32 b2.1 []⟩, ⟨(some b_7), 31, row encA96U32 [a1, b2] []⟩]) ?_ ?_
    · refine jc_block ?_
      obtain ⟨t_9, ht_137, hr_127⟩ := bd h
      refine jc_loop (fun (s : Int × Int × Int) (x : Unit) => match s, x with | ⟨i_5, i_6, i_7⟩, _ => True) (fun (s : Int × Int × Int) (x : Unit) => match s, x with | ⟨i_5, i_6, i_7⟩, _ => [(3, [], (.pointer (some ⟨b_1, 0, none⟩))), (4, [], (.pointer (some ⟨b_2, 0, none⟩))), (5, [], (.pointer (some ⟨b_3, 0, none⟩))), (6, [], (.int .i64 0)), (7, [], (.int .i64 0)), (8, [], (.int .i64 0)), (10, [], (.int .i64 i_5)), (11, [], (.int .i64 i_6)), (24, [], (.int .i64 (w64 f0.fSteps))), (25, [], (.int .i64 i_7))]) (fun (s : Int × Int × Int) (x : Unit) => match s, x with | ⟨i_5, i_6, i_7⟩, _ => [⟨some b_1, 27, [(.int .i16 f0.fSteps), (.slice f0_fHammers_a f0.fHammers.length f0_fHammers_c)]⟩, ⟨(some b_2), 31, row encU32 a1.1 []⟩, ⟨(some b_3), 31, row encU32 b2.1 []⟩, ⟨(some b_7), 31, row encA96U32 [a1, b2] []⟩]) ht_137 () trivial (by kernel_rfl) [0, 1, 2, 3] (by kernel_rfl) (by kernel_rfl) ?_
      rintro ⟨i_5, i_6, i_7⟩ _ y_128 _ h
      rw [impl_TurnedCost.l_8] at h
      refine jc_seq ?_
      refine jc_region ?_
      refine jo_f [(0, 0)] (by kernel_rfl) ?_
      refine jo_end (by kernel_rfl) ?_
      refine jx_then ?_
      refine jc_seq ?_
      refine jc_cond (decide (i_7 < (w64 f0.fSteps))) (by kernel_rfl) (fun hc_130 => ?_) (fun hc_130 => ?_)
      · replace h := ifT hc_130 h
        refine jc_skip ?_
        refine jx_then ?_
        refine jc_seq ?_
        refine jc_block ?_
        refine jc_seq ?_
        refine jc_region ?_
        refine jo_f [(0, 0), (0, 0)] (by kernel_rfl) ?_
        refine jo_end (by kernel_rfl) ?_
        refine jx_then ?_
        refine jc_seq ?_
        refine jc_draw [⟨some b_1, 27, [(.int .i16 f0.fSteps), (.slice f0_fHammers_a f0.fHammers.length f0_fHammers_c)]⟩, ⟨(some b_2), 31, row encU32 a1.1 []⟩, ⟨(some b_3), 31, row encU32 b2.1 []⟩, ⟨(some b_7), 31, row encA96U32 [a1, b2] []⟩] 7 (by kernel_rfl) (by kernel_rfl) ?_
        refine jd_f [⟨1, 0, 0⟩, ⟨3, 0, 0⟩] 5 (by kernel_rfl) (by kernel_rfl) (fun w h => h.pick [0, 1, 2, 3] (by kernel_rfl) (by kernel_rfl)) (by kernel_rfl) (by kernel_rfl) ?_
        refine jd_v 0 0 (by kernel_rfl) (fun w h => h.pick [0, 1, 2, 3] (by kernel_rfl) (by kernel_rfl)) (by kernel_rfl) (by kernel_rfl) _ (fun w hm => ld_run (b := b_2) (off := 0) (s := 96) (agg := true) (vs := row encU32 a1.1 []) (by kernel_rfl) ((row_len encU32_len a1).trans rfl) (.inl rfl) (hm.all (hh := 1) (T := 31) (by kernel_rfl))) ?_
        refine jd_v 2 0 (by kernel_rfl) (fun w h => h.pick [0, 1, 2, 3] (by kernel_rfl) (by kernel_rfl)) (by kernel_rfl) (by kernel_rfl) _ (fun w hm => ld_run (b := b_3) (off := 0) (s := 96) (agg := true) (vs := row encU32 b2.1 []) (by kernel_rfl) ((row_len encU32_len b2).trans rfl) (.inl rfl) (hm.all (hh := 2) (T := 31) (by kernel_rfl))) ?_
        obtain ⟨t_10, ht_133, h⟩ := bd h
        refine toD 4 (by kernel_rfl) (p_call 0 85 #[(.agg #[(.int .i16 f0.fSteps), (.slice f0_fHammers_a f0.fHammers.length f0_fHammers_c)]), (.agg (row encU32 b2.1 []).toArray), (.int .i64 i_7)] (by kernel_rfl) (by kernel_rfl) (fun w hm => impl_Frame_turned.calls f0 b2 i_7 w _ f0_fHammers_a f0.fHammers.length f0_fHammers_c (hm.exRow f0_fHammers_h List.not_mem_nil) rfl ht_133) ?_)
        rintro w v w' hm ⟨rfl, hm'⟩
        refine ⟨_, hm.app hm', jkD (fun w h => h.pick [0, 1, 2, 3] (by kernel_rfl) (by kernel_rfl)) ?_⟩
        clear hm hm'
        obtain ⟨t_11, ht_134, h⟩ := bd h
        refine toD 5 (by kernel_rfl) (p_call 0 82 #[(.agg (row encU32 a1.1 []).toArray), (.agg (row encU32 t_10.1 []).toArray)] (by kernel_rfl) (by kernel_rfl) (fun w hm => impl_cost.calls a1 t_10 w _ ht_134) ?_)
        rintro w v w' hm ⟨rfl, hm'⟩
        refine ⟨_, hm.app hm', jkD (fun w h => h.pick [0, 1, 2, 3] (by kernel_rfl) (by kernel_rfl)) ?_⟩
        clear hm hm'
        refine jd_f [⟨6, 0, 0⟩] 0 (by kernel_rfl) (by kernel_rfl) (fun w h => h.pick [0, 1, 2, 3] (by kernel_rfl) (by kernel_rfl)) (by kernel_rfl) (by kernel_rfl) ?_
        refine jd_end (by kernel_rfl) ?_
        refine jx_then ?_
        refine jc_seq ?_
        refine jc_region ?_
        refine jo_f [(0, 0), (0, 0), (0, 0), (0, 1), (0, 1), (0, 1), (0, 0)] (by kernel_rfl) ?_
        refine jo_end (by kernel_rfl) ?_
        refine jx_then ?_
        refine jc_cond ((decide (i_6 < 0)) || (decide (t_11 < i_6))) (by kernel_rfl) (fun hc_135 => ?_) (fun hc_135 => ?_)
        · replace h := ifT hc_135 h
          refine jc_region ?_
          refine jo_f [(0, 0), (0, 0), (0, 0), (0, 0)] (by kernel_rfl) ?_
          refine jo_end (by kernel_rfl) ?_
          refine jx_inn ?_
          refine jx_then ?_
          refine jc_region ?_
          refine jo_f [(0, 0), (0, 0)] (by kernel_rfl) ?_
          refine jo_end (by kernel_rfl) ?_
          exact jx_back (i_7, t_11, (w64 (i_7 + 1))) () (Option.some.inj h).symm trivial [0, 1, 2, 3] (by kernel_rfl) (by kernel_rfl) (by kernel_rfl)
        · replace h := ifF hc_135 h
          refine jc_skip ?_
          refine jx_inn ?_
          refine jx_then ?_
          refine jc_region ?_
          refine jo_f [(0, 0), (0, 0)] (by kernel_rfl) ?_
          refine jo_end (by kernel_rfl) ?_
          exact jx_back (i_5, i_6, (w64 (i_7 + 1))) () (Option.some.inj h).symm trivial [0, 1, 2, 3] (by kernel_rfl) (by kernel_rfl) (by kernel_rfl)
      · replace h := ifF hc_130 h
        refine jc_exit ?_
        refine jx_thenx ?_
        refine jx_leave (i_5, i_6) (Option.some.inj h).symm (fun e_136 => ?_)
        subst e_136
        refine jx_ine ?_
        exact jx_meet ⟨i_5, i_6⟩ hr_127 (by kernel_rfl) [0, 1, 2, 3] (by kernel_rfl) (by kernel_rfl)
    · rintro ⟨i_2, i_3⟩ h
      replace h : impl_TurnedCost.k_4 i_2 i_3 = some r := h
      rw [impl_TurnedCost.k_4] at h
      refine jx_then ?_
      refine jc_seq ?_
      refine jc_region ?_
      refine jo_f [(0, 0), (0, 0), (0, 0), (0, 0), (0, 0)] (by kernel_rfl) ?_
      refine jo_end (by kernel_rfl) ?_
      refine jx_then ?_
      refine jc_ret ?_
      obtain rfl := Option.some.inj h
      exact jx_ret [] (.tuple #[(.int .i64 i_3), (.int .i64 i_2), (.int .i64 0)]) [] rfl (by kernel_rfl) (by kernel_rfl) (fun w hm => ⟨rfl, hm.pick [] (by kernel_rfl) (by kernel_rfl)⟩)

/-! ### spec.l02Count -/
noncomputable def spec_l02Count.k_2 (i_1 : Int) : Option (Int) := some i_1
noncomputable def spec_l02Count.l_5 : (Int × Int) → Option ((Int × Int) ⊕ (Int))
  | (i_3, i_4) => (if (decide (i_3 > 0)) = true then some (.inl ((u32 (Int.tdiv i_3 2)), (w64 (i_4 + (w64 (Int.tmod i_3 2)))))) else some (.inr i_4))
noncomputable def spec_l02Count (bits0 : Int) : Option (Int) := (loop spec_l02Count.l_5 (bits0, 0)).bind fun t_6 => spec_l02Count.k_2 t_6
set_option maxRecDepth 100000 in
theorem spec_l02Count.calls (bits0 : Int) (w : World) (r : Int) (h : spec_l02Count bits0 = some r) :
    Calls Tryz.prog 241 #[(.int .u32 bits0)] w fun e w' => ∃ v, e = .returned v ∧ (v = (.int .i64 r) ∧ Mem w [] [] w') := by
  rw [spec_l02Count] at h
  refine enter (args := [(.int .u32 bits0)]) Tryz.func241 rfl Tryz.ntmps241 (by kernel_rfl) (L := []) (W := []) (Mem.start w) ?_
  refine jc_seq ?_
  refine jc_region ?_
  refine jo_f [(0, 0)] (by kernel_rfl) ?_
  refine jo_end (by kernel_rfl) ?_
  refine jx_then ?_
  refine jc_seq ?_
  refine jc_region ?_
  refine jo_f [(0, 0)] (by kernel_rfl) ?_
  refine jo_end (by kernel_rfl) ?_
  refine jx_then ?_
  refine jc_seq ?_
  refine jc_meet (fun (j : Int) => match j with | i_1 => spec_l02Count.k_2 i_1 = some r) (fun (j : Int) => match j with | i_1 => [(2, [], (.int .i64 0)), (3, [], (.int .i64 i_1))]) (fun (j : Int) => match j with | i_1 => []) ?_ ?_
  · refine jc_block ?_
    obtain ⟨t_6, ht_20, hr_15⟩ := bd h
    refine jc_loop (fun (s : Int × Int) (x : Unit) => match s, x with | ⟨i_3, i_4⟩, _ => True) (fun (s : Int × Int) (x : Unit) => match s, x with | ⟨i_3, i_4⟩, _ => [(0, [], (.int .u32 i_3)), (2, [], (.int .i64 0)), (3, [], (.int .i64 i_4))]) (fun (s : Int × Int) (x : Unit) => match s, x with | ⟨i_3, i_4⟩, _ => []) ht_20 () trivial (by kernel_rfl) [] (by kernel_rfl) (by kernel_rfl) ?_
    rintro ⟨i_3, i_4⟩ _ y_16 _ h
    rw [spec_l02Count.l_5] at h
    refine jc_seq ?_
    refine jc_seq ?_
    refine jc_region ?_
    refine jo_f [(0, 0), (0, 0)] (by kernel_rfl) ?_
    refine jo_end (by kernel_rfl) ?_
    refine jx_then ?_
    refine jc_cond (decide (i_3 > 0)) (by kernel_rfl) (fun hc_18 => ?_) (fun hc_18 => ?_)
    · replace h := ifT hc_18 h
      refine jc_skip ?_
      refine jx_then ?_
      refine jc_seq ?_
      refine jc_block ?_
      refine jc_region ?_
      refine jo_f [(0, 0), (0, 0), (0, 0), (0, 0), (0, 0), (0, 0)] (by kernel_rfl) ?_
      refine jo_end (by kernel_rfl) ?_
      refine jx_inn ?_
      refine jx_then ?_
      refine jc_region ?_
      refine jo_f [(0, 0), (0, 0), (0, 0)] (by kernel_rfl) ?_
      refine jo_end (by kernel_rfl) ?_
      exact jx_back ((u32 (Int.tdiv i_3 2)), (w64 (i_4 + (w64 (Int.tmod i_3 2))))) () (Option.some.inj h).symm trivial [] (by kernel_rfl) (by kernel_rfl) (by kernel_rfl)
    · replace h := ifF hc_18 h
      refine jc_exit ?_
      refine jx_thenx ?_
      refine jx_leave i_4 (Option.some.inj h).symm (fun e_19 => ?_)
      subst e_19
      refine jx_ine ?_
      exact jx_meet i_4 hr_15 (by kernel_rfl) [] (by kernel_rfl) (by kernel_rfl)
  · rintro i_1 h
    replace h : spec_l02Count.k_2 i_1 = some r := h
    rw [spec_l02Count.k_2] at h
    refine jx_then ?_
    refine jc_seq ?_
    refine jc_region ?_
    refine jo_f [(0, 0), (0, 0)] (by kernel_rfl) ?_
    refine jo_end (by kernel_rfl) ?_
    refine jx_then ?_
    refine jc_ret ?_
    obtain rfl := Option.some.inj h
    exact jx_ret [] (.int .i64 i_1) [] rfl (by kernel_rfl) (by kernel_rfl) (fun w hm => ⟨rfl, hm.pick [] (by kernel_rfl) (by kernel_rfl)⟩)

/-! ### spec.l02Moves -/
noncomputable def spec_l02Moves.k_2 (i_1 : Int) : Option (Int) := some i_1
noncomputable def spec_l02Moves.l_5 (a0 : Arr 96 Int) (b1 : Arr 96 Int) : (Int × Int) → Option ((Int × Int) ⊕ (Int))
  | (i_3, i_4) => (if (decide (i_4 < 96)) = true then (ix b1.1 i_4).bind fun x_7 => (ix a0.1 i_4).bind fun x_8 => (spec_l02Count (bClr .u32 x_7 x_8)).bind fun t_9 => some (.inl ((w64 (i_3 + t_9)), (w64 (i_4 + 1)))) else some (.inr i_3))
noncomputable def spec_l02Moves (a0 : Arr 96 Int) (b1 : Arr 96 Int) : Option (Int) := (loop (spec_l02Moves.l_5 a0 b1) (0, 0)).bind fun t_6 => spec_l02Moves.k_2 t_6
set_option maxRecDepth 100000 in
theorem spec_l02Moves.calls (a0 : Arr 96 Int) (b1 : Arr 96 Int) (w : World) (r : Int) (a0_b : Nat) (b1_b : Nat) (hm0 : Mem w (bs [some a0_b, some b1_b]) [⟨(some a0_b), 31, row encU32 a0.1 []⟩, ⟨(some b1_b), 31, row encU32 b1.1 []⟩] w) (h : spec_l02Moves a0 b1 = some r) :
    Calls Tryz.prog 170 #[(.pointer (some ⟨a0_b, 0, none⟩)), (.pointer (some ⟨b1_b, 0, none⟩))] w fun e w' => ∃ v, e = .returned v ∧ (v = (.int .i64 r) ∧ Mem w (bs [some a0_b, some b1_b]) [⟨(some a0_b), 31, row encU32 a0.1 []⟩, ⟨(some b1_b), 31, row encU32 b1.1 []⟩] w') := by
  rw [spec_l02Moves] at h
  refine enter (args := [(.pointer (some ⟨a0_b, 0, none⟩)), (.pointer (some ⟨b1_b, 0, none⟩))]) Tryz.func170 rfl Tryz.ntmps170 (by kernel_rfl) (L := [⟨(some a0_b), 31, row encU32 a0.1 []⟩, ⟨(some b1_b), 31, row encU32 b1.1 []⟩]) (W := bs [some a0_b, some b1_b]) hm0 ?_
  refine jc_seq ?_
  refine jc_region ?_
  refine jo_f [(0, 0)] (by kernel_rfl) ?_
  refine jo_end (by kernel_rfl) ?_
  refine jx_then ?_
  refine jc_seq ?_
  refine jc_region ?_
  refine jo_f [(0, 0)] (by kernel_rfl) ?_
  refine jo_end (by kernel_rfl) ?_
  refine jx_then ?_
  refine jc_seq ?_
  refine jc_seq ?_
  refine jc_region ?_
  refine jo_f [(0, 0)] (by kernel_rfl) ?_
  refine jo_end (by kernel_rfl) ?_
  refine jx_then ?_
  refine jc_meet (fun (j : Int) => match j with | i_1 => spec_l02Moves.k_2 i_1 = some r) (fun (j : Int) => match j with | i_1 => [(4, [], (.int .i64 0)), (5, [], (.int .i64 i_1))]) (fun (j : Int) => match j with | i_1 => [⟨(some a0_b), 31, row encU32 a0.1 []⟩, ⟨(some b1_b), 31, row encU32 b1.1 []⟩]) ?_ ?_
  · refine jc_block ?_
    obtain ⟨t_6, ht_76, hr_68⟩ := bd h
    refine jc_loop (fun (s : Int × Int) (x : Unit) => match s, x with | ⟨i_3, i_4⟩, _ => True) (fun (s : Int × Int) (x : Unit) => match s, x with | ⟨i_3, i_4⟩, _ => [(0, [], (.pointer (some ⟨a0_b, 0, none⟩))), (1, [], (.pointer (some ⟨b1_b, 0, none⟩))), (4, [], (.int .i64 0)), (5, [], (.int .i64 i_3)), (6, [], (.int .i64 i_4))]) (fun (s : Int × Int) (x : Unit) => match s, x with | ⟨i_3, i_4⟩, _ => [⟨(some a0_b), 31, row encU32 a0.1 []⟩, ⟨(some b1_b), 31, row encU32 b1.1 []⟩]) ht_76 () trivial (by kernel_rfl) [0, 1] (by kernel_rfl) (by kernel_rfl) ?_
    rintro ⟨i_3, i_4⟩ _ y_69 _ h
    rw [spec_l02Moves.l_5] at h
    refine jc_seq ?_
    refine jc_seq ?_
    refine jc_region ?_
    refine jo_f [(0, 0), (0, 0)] (by kernel_rfl) ?_
    refine jo_end (by kernel_rfl) ?_
    refine jx_then ?_
    refine jc_cond (decide (i_4 < 96)) (by kernel_rfl) (fun hc_71 => ?_) (fun hc_71 => ?_)
    · replace h := ifT hc_71 h
      refine jc_skip ?_
      refine jx_then ?_
      refine jc_seq ?_
      refine jc_block ?_
      refine jc_draw [⟨(some a0_b), 31, row encU32 a0.1 []⟩, ⟨(some b1_b), 31, row encU32 b1.1 []⟩] 15 (by kernel_rfl) (by kernel_rfl) ?_
      refine jd_f [⟨0, 0, 0⟩, ⟨1, 0, 0⟩, ⟨2, 0, 0⟩, ⟨3, 0, 0⟩, ⟨6, 0, 0⟩, ⟨7, 0, 0⟩, ⟨8, 0, 0⟩] 8 (by kernel_rfl) (by kernel_rfl) (fun w h => h.pick [0, 1] (by kernel_rfl) (by kernel_rfl)) (by kernel_rfl) (by kernel_rfl) ?_
      obtain ⟨x_7, hx_72, h⟩ := bd h
      refine jd_v 4 0 (by kernel_rfl) (fun w h => h.pick [0, 1] (by kernel_rfl) (by kernel_rfl)) (by kernel_rfl) (by kernel_rfl) _ (fun w hm => idx_run (a := (some ⟨b1_b, 0, none⟩)) (len := 96) (s := 1) (j := i_4) (by kernel_rfl) (ix_some hx_72).1 (ltn hx_72 b1.2) rfl) ?_
      refine jd_v 5 0 (by kernel_rfl) (fun w h => h.pick [0, 1] (by kernel_rfl) (by kernel_rfl)) (by kernel_rfl) (by kernel_rfl) _ (fun w hm => ld_run (b := aB (some ⟨b1_b, 0, none⟩)) (off := (aO (some ⟨b1_b, 0, none⟩) + i_4.toNat * 1)) (s := 1) (agg := false) (vs := (encU32 x_7)) (by kernel_rfl) (by kernel_rfl) (.inr rfl) ((hm.ownRow (hh := 1) (o := (some b1_b)) (T := 31) (enc := encU32) (xs := b1.1) (sp := []) (by kernel_rfl) (fun e => nomatch e) encU32_len).at hx_72)) ?_
      obtain ⟨x_8, hx_73, h⟩ := bd h
      refine jd_v 9 0 (by kernel_rfl) (fun w h => h.pick [0, 1] (by kernel_rfl) (by kernel_rfl)) (by kernel_rfl) (by kernel_rfl) _ (fun w hm => idx_run (a := (some ⟨a0_b, 0, none⟩)) (len := 96) (s := 1) (j := i_4) (by kernel_rfl) (ix_some hx_73).1 (ltn hx_73 a0.2) rfl) ?_
      refine jd_v 10 0 (by kernel_rfl) (fun w h => h.pick [0, 1] (by kernel_rfl) (by kernel_rfl)) (by kernel_rfl) (by kernel_rfl) _ (fun w hm => ld_run (b := aB (some ⟨a0_b, 0, none⟩)) (off := (aO (some ⟨a0_b, 0, none⟩) + i_4.toNat * 1)) (s := 1) (agg := false) (vs := (encU32 x_8)) (by kernel_rfl) (by kernel_rfl) (.inr rfl) ((hm.ownRow (hh := 0) (o := (some a0_b)) (T := 31) (enc := encU32) (xs := a0.1) (sp := []) (by kernel_rfl) (fun e => nomatch e) encU32_len).at hx_73)) ?_
      refine jd_f [⟨11, 0, 0⟩] 3 (by kernel_rfl) (by kernel_rfl) (fun w h => h.pick [0, 1] (by kernel_rfl) (by kernel_rfl)) (by kernel_rfl) (by kernel_rfl) ?_
      obtain ⟨t_9, ht_74, h⟩ := bd h
      refine toD 12 (by kernel_rfl) (p_call 0 241 #[(.int .u32 (bClr .u32 x_7 x_8))] (by kernel_rfl) (by kernel_rfl) (fun w hm => spec_l02Count.calls (bClr .u32 x_7 x_8) w _ ht_74) ?_)
      rintro w v w' hm ⟨rfl, hm'⟩
      refine ⟨_, hm.app hm', jkD (fun w h => h.pick [0, 1] (by kernel_rfl) (by kernel_rfl)) ?_⟩
      clear hm hm'
      refine jd_f [⟨13, 0, 0⟩, ⟨14, 0, 0⟩] 0 (by kernel_rfl) (by kernel_rfl) (fun w h => h.pick [0, 1] (by kernel_rfl) (by kernel_rfl)) (by kernel_rfl) (by kernel_rfl) ?_
      refine jd_end (by kernel_rfl) ?_
      refine jx_inn ?_
      refine jx_then ?_
      refine jc_region ?_
      refine jo_f [(0, 0), (0, 0), (0, 0)] (by kernel_rfl) ?_
      refine jo_end (by kernel_rfl) ?_
      exact jx_back ((w64 (i_3 + t_9)), (w64 (i_4 + 1))) () (Option.some.inj h).symm trivial [0, 1] (by kernel_rfl) (by kernel_rfl) (by kernel_rfl)
    · replace h := ifF hc_71 h
      refine jc_exit ?_
      refine jx_thenx ?_
      refine jx_leave i_3 (Option.some.inj h).symm (fun e_75 => ?_)
      subst e_75
      refine jx_ine ?_
      exact jx_meet i_3 hr_68 (by kernel_rfl) [0, 1] (by kernel_rfl) (by kernel_rfl)
  · rintro i_1 h
    replace h : spec_l02Moves.k_2 i_1 = some r := h
    rw [spec_l02Moves.k_2] at h
    refine jx_then ?_
    refine jc_seq ?_
    refine jc_region ?_
    refine jo_f [(0, 0), (0, 0)] (by kernel_rfl) ?_
    refine jo_end (by kernel_rfl) ?_
    refine jx_then ?_
    refine jc_ret ?_
    obtain rfl := Option.some.inj h
    exact jx_ret [] (.int .i64 i_1) [] rfl (by kernel_rfl) (by kernel_rfl) (fun w hm => ⟨rfl, hm.pick [0, 1] (by kernel_rfl) (by kernel_rfl)⟩)

/-! ### spec.l05Cost -/
noncomputable def spec_l05Cost (a0 : Arr 96 Int) (b1 : Arr 96 Int) : Option (Int) := (spec_l02Moves a0 b1).bind fun t_1 => (spec_l02Moves b1 a0).bind fun t_2 => some (w64 (t_1 + t_2))
set_option maxRecDepth 100000 in
theorem spec_l05Cost.calls (a0 : Arr 96 Int) (b1 : Arr 96 Int) (w : World) (r : Int) (a0_b : Nat) (b1_b : Nat) (hm0 : Mem w (bs [some a0_b, some b1_b]) [⟨(some a0_b), 31, row encU32 a0.1 []⟩, ⟨(some b1_b), 31, row encU32 b1.1 []⟩] w) (h : spec_l05Cost a0 b1 = some r) :
    Calls Tryz.prog 86 #[(.pointer (some ⟨a0_b, 0, none⟩)), (.pointer (some ⟨b1_b, 0, none⟩))] w fun e w' => ∃ v, e = .returned v ∧ (v = (.int .i64 r) ∧ Mem w (bs [some a0_b, some b1_b]) [⟨(some a0_b), 31, row encU32 a0.1 []⟩, ⟨(some b1_b), 31, row encU32 b1.1 []⟩] w') := by
  rw [spec_l05Cost] at h
  refine enter (args := [(.pointer (some ⟨a0_b, 0, none⟩)), (.pointer (some ⟨b1_b, 0, none⟩))]) Tryz.func86 rfl Tryz.ntmps86 (by kernel_rfl) (L := [⟨(some a0_b), 31, row encU32 a0.1 []⟩, ⟨(some b1_b), 31, row encU32 b1.1 []⟩]) (W := bs [some a0_b, some b1_b]) hm0 ?_
  refine jc_seq ?_
  refine jc_region ?_
  refine jo_f [(0, 0)] (by kernel_rfl) ?_
  refine jo_end (by kernel_rfl) ?_
  refine jx_then ?_
  refine jc_seq ?_
  refine jc_region ?_
  refine jo_f [(0, 0), (0, 0)] (by kernel_rfl) ?_
  obtain ⟨t_1, ht_1, h⟩ := bd h
  refine toO (by kernel_rfl) (p_call 0 170 #[(.pointer (some ⟨a0_b, 0, none⟩)), (.pointer (some ⟨b1_b, 0, none⟩))] (by kernel_rfl) (by kernel_rfl) (fun w hm => spec_l02Moves.calls a0 b1 w _ a0_b b1_b (hm.pass (N := [⟨(some a0_b), 31, row encU32 a0.1 []⟩, ⟨(some b1_b), 31, row encU32 b1.1 []⟩]) [0, 1] (by kernel_rfl) (by kernel_rfl)) ht_1) ?_)
  rintro w v w' hm ⟨rfl, hm'⟩
  refine ⟨_, hm.appW (ps := [(0, ⟨(some a0_b), 31, row encU32 a0.1 []⟩), (1, ⟨(some b1_b), 31, row encU32 b1.1 []⟩)]) (N := []) hm' (by kernel_rfl) (by kernel_rfl), jkO ?_⟩
  clear hm hm'
  refine jo_f [(0, 0), (0, 0)] (by kernel_rfl) ?_
  obtain ⟨t_2, ht_2, h⟩ := bd h
  refine toO (by kernel_rfl) (p_call 0 170 #[(.pointer (some ⟨b1_b, 0, none⟩)), (.pointer (some ⟨a0_b, 0, none⟩))] (by kernel_rfl) (by kernel_rfl) (fun w hm => spec_l02Moves.calls b1 a0 w _ b1_b a0_b (hm.pass (N := [⟨(some b1_b), 31, row encU32 b1.1 []⟩, ⟨(some a0_b), 31, row encU32 a0.1 []⟩]) [1, 0] (by kernel_rfl) (by kernel_rfl)) ht_2) ?_)
  rintro w v w' hm ⟨rfl, hm'⟩
  refine ⟨_, hm.appW (ps := [(1, ⟨(some b1_b), 31, row encU32 b1.1 []⟩), (0, ⟨(some a0_b), 31, row encU32 a0.1 []⟩)]) (N := []) hm' (by kernel_rfl) (by kernel_rfl), jkO ?_⟩
  clear hm hm'
  refine jo_f [(0, 0), (0, 0)] (by kernel_rfl) ?_
  refine jo_end (by kernel_rfl) ?_
  refine jx_then ?_
  refine jc_ret ?_
  obtain rfl := Option.some.inj h
  exact jx_ret [] (.int .i64 (w64 (t_1 + t_2))) [] rfl (by kernel_rfl) (by kernel_rfl) (fun w hm => ⟨rfl, hm.pick [0, 1] (by kernel_rfl) (by kernel_rfl)⟩)
end Go.Proofs.YtpldkddkmnpdcaaGreatDoor
