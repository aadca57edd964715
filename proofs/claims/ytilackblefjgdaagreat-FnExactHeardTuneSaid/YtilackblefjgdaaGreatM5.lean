/- Functions of the program that the laws reach: a plain function each, and that the call comes to its answer if the plain function has one. Printed by a program. -/
import Derived.Test.YtilackblefjgdaaGreatT
import Derived.Test.YtilackblefjgdaaGreatSort
import Derived.Test.YtilackblefjgdaaGreatM0
import Derived.Test.YtilackblefjgdaaGreatM4
namespace Go.Proofs.YtilackblefjgdaaGreat
open Eng
set_option linter.unusedVariables false

/-! ### impl.tuneFrameCode -/
noncomputable def impl_tuneFrameCode (f0 : GFrame) (t1 : List GNote) (list2 : List GChoice) : Option (Int) := (impl_ValidFrame f0).bind fun t_1 => (impl_unless t_1 1).bind fun t_2 => (impl_tuneCode [t1]).bind fun t_3 => (impl_choicesCode list2).bind fun t_4 => (impl_firstOf [t_2, t_3, t_4]).bind fun t_5 => some t_5
set_option maxRecDepth 100000 in
theorem impl_tuneFrameCode.calls (f0 : GFrame) (t1 : List GNote) (list2 : List GChoice) (w : World) (r : Int) (f0_fHammers_a : Option Addr) (f0_fHammers_an : Nat) (f0_fHammers_c : Nat) (f0_fHammers_h : Rw w f0_fHammers_a 2 encGHammer f0.fHammers) (f0_fHammers_hn : f0.fHammers.length = f0_fHammers_an) (t1_a : Option Addr) (t1_an : Nat) (t1_c : Nat) (t1_h : Rw w t1_a 2 encGNote t1) (t1_hn : t1.length = t1_an) (list2_a : Option Addr) (list2_an : Nat) (list2_c : Nat) (list2_h : Rw w list2_a 4 encGChoice list2) (list2_hn : list2.length = list2_an) (h : impl_tuneFrameCode f0 t1 list2 = some r) :
    Calls Tryz.prog 119 #[(.agg #[(.int .i16 f0.fSteps), (.slice f0_fHammers_a f0_fHammers_an f0_fHammers_c)]), (.slice t1_a t1_an t1_c), (.slice list2_a list2_an list2_c)] w fun e w' => ∃ v, e = .returned v ∧ (v = (.int .i64 r) ∧ Mem w [] [] w') := by
  subst f0_fHammers_hn t1_hn list2_hn
  rw [impl_tuneFrameCode] at h
  refine enter (args := [(.agg #[(.int .i16 f0.fSteps), (.slice f0_fHammers_a f0.fHammers.length f0_fHammers_c)]), (.slice t1_a t1.length t1_c), (.slice list2_a list2.length list2_c)]) Tryz.func119 rfl Tryz.ntmps119 (by kernel_rfl) (L := []) (W := []) (Mem.start w) ?_
  refine jc_seq ?_
  refine jc_region ?_
  refine toO (by kernel_rfl) (p_a 0 [0] (by kernel_rfl) (fun b => by kernel_rfl) (fun b_1 => jkO ?_))
  refine jo_f [(0, 0)] (by kernel_rfl) ?_
  refine jo_end (by kernel_rfl) ?_
  refine jx_then ?_
  refine jc_seq ?_
  refine jc_region ?_
  refine jo_f [(0, 0)] (by kernel_rfl) ?_
  obtain ⟨t_1, ht_2, h⟩ := bd h
  refine toO (by kernel_rfl) (p_call 0 102 #[(.agg #[(.int .i16 f0.fSteps), (.slice f0_fHammers_a f0.fHammers.length f0_fHammers_c)])] (by kernel_rfl) (by kernel_rfl) (fun w hm => impl_ValidFrame.calls f0 w _ f0_fHammers_a f0.fHammers.length f0_fHammers_c (hm.exRow f0_fHammers_h List.not_mem_nil) rfl ht_2) ?_)
  rintro w v w' hm ⟨rfl, hm'⟩
  refine ⟨_, hm.app hm', jkO ?_⟩
  clear hm hm'
  obtain ⟨t_2, ht_3, h⟩ := bd h
  refine toO (by kernel_rfl) (p_call 0 72 #[(.bool t_1), (.int .i64 1)] (by kernel_rfl) (by kernel_rfl) (fun w hm => impl_unless.calls t_1 1 w _ ht_3) ?_)
  rintro w v w' hm ⟨rfl, hm'⟩
  refine ⟨_, hm.app hm', jkO ?_⟩
  clear hm hm'
  refine jo_f [(0, 0)] (by kernel_rfl) ?_
  refine toO (by kernel_rfl) (p_a 0 [0] (by kernel_rfl) (fun b => by kernel_rfl) (fun b_4 => jkO ?_))
  obtain ⟨t_3, ht_5, h⟩ := bd h
  refine toO (by kernel_rfl) (p_call 0 140 #[(.slice (some ⟨b_4, 0, none⟩) 1 1)] (by kernel_rfl) (by kernel_rfl) (fun w hm => impl_tuneCode.calls [t1] w _ (some ⟨b_4, 0, none⟩) 1 1 [⟨t1_a, t1.length, t1_c⟩] (hm.ownRow (hh := 1) (o := (some b_4)) (T := 57) (enc := encHd) (xs := [⟨t1_a, t1.length, t1_c⟩]) (sp := []) (by kernel_rfl) (fun e => nomatch e) encHd_len) rfl (Inn.cons (hm.exRow t1_h List.not_mem_nil) rfl (fun _ => List.not_mem_nil) Inn.nil) ht_5) ?_)
  rintro w v w' hm ⟨rfl, hm'⟩
  refine ⟨_, hm.app hm', jkO ?_⟩
  clear hm hm'
  refine jo_f [(0, 0)] (by kernel_rfl) ?_
  obtain ⟨t_4, ht_6, h⟩ := bd h
  refine toO (by kernel_rfl) (p_call 0 141 #[(.slice list2_a list2.length list2_c)] (by kernel_rfl) (by kernel_rfl) (fun w hm => impl_choicesCode.calls list2 w _ list2_a list2.length list2_c (hm.exRow list2_h List.not_mem_nil) rfl ht_6) ?_)
  rintro w v w' hm ⟨rfl, hm'⟩
  refine ⟨_, hm.app hm', jkO ?_⟩
  clear hm hm'
  refine toO (by kernel_rfl) (p_a 0 [0] (by kernel_rfl) (fun b => by kernel_rfl) (fun b_7 => jkO ?_))
  obtain ⟨t_5, ht_8, h⟩ := bd h
  refine toO (by kernel_rfl) (p_call 0 43 #[(.slice (some ⟨b_7, 0, none⟩) 3 3)] (by kernel_rfl) (by kernel_rfl) (fun w hm => impl_firstOf.calls [t_2, t_3, t_4] w _ (some ⟨b_7, 0, none⟩) 3 3 (hm.ownRow (hh := 2) (o := (some b_7)) (T := 2) (enc := encI64) (xs := [t_2, t_3, t_4]) (sp := []) (by kernel_rfl) (fun e => nomatch e) encI64_len) rfl ht_8) ?_)
  rintro w v w' hm ⟨rfl, hm'⟩
  refine ⟨_, hm.app hm', jkO ?_⟩
  clear hm hm'
  refine jo_f [(0, 0)] (by kernel_rfl) ?_
  refine jo_end (by kernel_rfl) ?_
  refine jx_then ?_
  refine jc_ret ?_
  obtain rfl := Option.some.inj h
  exact jx_ret [] (.int .i64 t_5) [] rfl (by kernel_rfl) (by kernel_rfl) (fun w hm => ⟨rfl, hm.pick [] (by kernel_rfl) (by kernel_rfl)⟩)

/-! ### impl.nearest -/
noncomputable def impl_nearest.k_2 (xs_1 : List Int) : Option ((List Int)) := some xs_1
noncomputable def impl_nearest.l_5 (most0 : Int) : ((List Int) × Int) → Option (((List Int) × Int) ⊕ ((List Int)))
  | (xs_3, i_4) => (if (decide (i_4 ≤ most0)) = true then (if xs_3.length + [(w8 (0 - i_4)), i_4].length ≤ 4294967296 then some (.inl ((xs_3 ++ [(w8 (0 - i_4)), i_4]), (w8 (i_4 + 1)))) else none) else some (.inr xs_3))
noncomputable def impl_nearest (most0 : Int) : Option ((List Int)) := (loop (impl_nearest.l_5 most0) ([0], 1)).bind fun t_6 => impl_nearest.k_2 t_6
set_option maxRecDepth 100000 in
theorem impl_nearest.calls (most0 : Int) (w : World) (r : (List Int)) (h : impl_nearest most0 = some r) :
    Calls Tryz.prog 167 #[(.int .i8 most0)] w fun e w' => ∃ v, e = .returned v ∧ (∃ (o0 : Option Nat) (c0 : Nat) (s0 : List Value) (n0 : Nat), r.length = n0 ∧ (o0 ≠ none → n0 ≤ c0 ∧ s0.length = (c0 - n0) * 1) ∧ (o0 = none → r = [] ∧ c0 = 0) ∧ v = .slice (o0.map fun b => ⟨b, 0, none⟩) n0 c0 ∧ Mem w [] [⟨o0, 30, row encI8 r s0⟩] w') := by
  rw [impl_nearest] at h
  refine enter (args := [(.int .i8 most0)]) Tryz.func167 rfl Tryz.ntmps167 (by kernel_rfl) (L := []) (W := []) (Mem.start w) ?_
  refine jc_seq ?_
  refine jc_region ?_
  refine jo_f [(0, 0)] (by kernel_rfl) ?_
  refine jo_end (by kernel_rfl) ?_
  refine jx_then ?_
  refine jc_seq ?_
  refine jc_region ?_
  refine toO (by kernel_rfl) (p_a 0 [0] (by kernel_rfl) (fun b => by kernel_rfl) (fun b_1 => jkO ?_))
  refine jo_f [(0, 0)] (by kernel_rfl) ?_
  refine jo_end (by kernel_rfl) ?_
  refine jx_then ?_
  refine jc_seq ?_
  refine jc_seq ?_
  refine jc_region ?_
  refine jo_f [(0, 0)] (by kernel_rfl) ?_
  refine jo_end (by kernel_rfl) ?_
  refine jx_then ?_
  refine jc_meet (fun (j : (List Int) × (Option Nat) × Nat × (List Value) × Nat) => match j with | ⟨xs_1, o_137, cap_138, sp_139, n_140⟩ => impl_nearest.k_2 xs_1 = some r ∧ (xs_1.length = n_140) ∧ ((o_137 ≠ none → n_140 ≤ cap_138 ∧ sp_139.length = (cap_138 - n_140) * 1)) ∧ ((o_137 = none → xs_1 = [] ∧ cap_138 = 0))) (fun (j : (List Int) × (Option Nat) × Nat × (List Value) × Nat) => match j with | ⟨xs_1, o_137, cap_138, sp_139, n_140⟩ => [(2, [], (.slice none 0 0)), (3, [], (.slice (o_137.map fun b => ⟨b, 0, none⟩) n_140 cap_138))]) (fun (j : (List Int) × (Option Nat) × Nat × (List Value) × Nat) => match j with | ⟨xs_1, o_137, cap_138, sp_139, n_140⟩ => [⟨o_137, 30, row encI8 xs_1 sp_139⟩]) ?_ ?_
  · refine jc_block ?_
    obtain ⟨t_6, ht_185, hr_173⟩ := bd h
    refine jc_loop (fun (s : (List Int) × Int) (x : (Option Nat) × Nat × (List Value) × Nat) => match s, x with | ⟨xs_3, i_4⟩, ⟨o_167, cap_168, sp_169, n_170⟩ => (xs_3.length = n_170) ∧ ((o_167 ≠ none → n_170 ≤ cap_168 ∧ sp_169.length = (cap_168 - n_170) * 1)) ∧ ((o_167 = none → xs_3 = [] ∧ cap_168 = 0))) (fun (s : (List Int) × Int) (x : (Option Nat) × Nat × (List Value) × Nat) => match s, x with | ⟨xs_3, i_4⟩, ⟨o_167, cap_168, sp_169, n_170⟩ => [(0, [], (.int .i8 most0)), (2, [], (.slice none 0 0)), (3, [], (.slice (o_167.map fun b => ⟨b, 0, none⟩) n_170 cap_168)), (4, [], (.int .i8 i_4))]) (fun (s : (List Int) × Int) (x : (Option Nat) × Nat × (List Value) × Nat) => match s, x with | ⟨xs_3, i_4⟩, ⟨o_167, cap_168, sp_169, n_170⟩ => [⟨o_167, 30, row encI8 xs_3 sp_169⟩]) ht_185 ⟨(some b_1), 1, [], 1⟩ ⟨rfl, (fun _ => ⟨Nat.le_refl _, by simp⟩), (fun e => nomatch e)⟩ (by kernel_rfl) [0] (by kernel_rfl) (by kernel_rfl) ?_
    rintro ⟨xs_3, i_4⟩ ⟨o_167, cap_168, sp_169, n_170⟩ y_174 ⟨rfl, hs_171, ho_172⟩ h
    rw [impl_nearest.l_5] at h
    refine jc_seq ?_
    refine jc_seq ?_
    refine jc_region ?_
    refine jo_f [(0, 0), (0, 0), (0, 0)] (by kernel_rfl) ?_
    refine jo_end (by kernel_rfl) ?_
    refine jx_then ?_
    refine jc_cond (decide (i_4 ≤ most0)) (by kernel_rfl) (fun hc_176 => ?_) (fun hc_176 => ?_)
    · replace h := ifT hc_176 h
      refine jc_skip ?_
      refine jx_then ?_
      refine jc_seq ?_
      refine jc_block ?_
      refine jc_region ?_
      refine jo_f [(0, 0), (0, 0), (0, 0), (0, 0)] (by kernel_rfl) ?_
      refine toO (by kernel_rfl) (p_a 0 [0] (by kernel_rfl) (fun b => by kernel_rfl) (fun b_177 => jkO ?_))
      obtain ⟨hg_178, h⟩ := gd h
      refine toO (by kernel_rfl) (p_apn 0 0 o_167 30 xs_3.length 2 cap_168 1 1 (some ⟨b_177, 0, none⟩) encI8 xs_3 [(w8 (0 - i_4)), i_4] sp_169 (.int .i8 0) rfl rfl (by kernel_rfl) (by kernel_rfl) (by kernel_rfl) encI8_len encI8_cell hs_171 ho_172 (fun w hm => (hm.ownRow (hh := 1) (o := (some b_177)) (T := 30) (enc := encI8) (xs := [(w8 (0 - i_4)), i_4]) (sp := []) (by kernel_rfl) (fun e => nomatch e) encI8_len)) hg_178 (by kernel_rfl) (by kernel_rfl) (fun o_179 cap_180 sp_181 hs_182 ho_183 => jkO ?_))
      refine jo_f [(0, 0)] (by kernel_rfl) ?_
      refine jo_end (by kernel_rfl) ?_
      refine jx_inn ?_
      refine jx_then ?_
      refine jc_region ?_
      refine jo_f [(0, 0), (0, 0), (0, 0)] (by kernel_rfl) ?_
      refine jo_end (by kernel_rfl) ?_
      exact jx_back ((xs_3 ++ [(w8 (0 - i_4)), i_4]), (w8 (i_4 + 1))) ⟨o_179, cap_180, sp_181, (xs_3 ++ [(w8 (0 - i_4)), i_4]).length⟩ (Option.some.inj h).symm ⟨rfl, hs_182, ho_183⟩ [0] (by kernel_rfl) (by kernel_rfl) (by kernel_rfl)
    · replace h := ifF hc_176 h
      refine jc_exit ?_
      refine jx_thenx ?_
      refine jx_leave xs_3 (Option.some.inj h).symm (fun e_184 => ?_)
      subst e_184
      refine jx_ine ?_
      exact jx_meet ⟨xs_3, o_167, cap_168, sp_169, xs_3.length⟩ ⟨hr_173, rfl, hs_171, ho_172⟩ (by kernel_rfl) [0] (by kernel_rfl) (by kernel_rfl)
  · rintro ⟨xs_1, o_137, cap_138, sp_139, n_140⟩ ⟨h, rfl, hs_141, ho_142⟩
    replace h : impl_nearest.k_2 xs_1 = some r := h
    rw [impl_nearest.k_2] at h
    refine jx_then ?_
    refine jc_seq ?_
    refine jc_region ?_
    refine jo_f [(0, 0), (0, 0)] (by kernel_rfl) ?_
    refine jo_end (by kernel_rfl) ?_
    refine jx_then ?_
    refine jc_ret ?_
    obtain rfl := Option.some.inj h
    exact jx_ret [] (.slice (o_137.map fun b => ⟨b, 0, none⟩) xs_1.length cap_138) [] rfl (by kernel_rfl) (by kernel_rfl) (fun w hm => ⟨o_137, cap_138, sp_139, xs_1.length, rfl, hs_141, ho_142, rfl, hm.pick [0] (by kernel_rfl) (by kernel_rfl)⟩)

/-! ### (impl.Frame).choices -/
noncomputable def impl_Frame_choices.k_3 (xs_2 : List GChoice) : Option ((List GChoice)) := (if xs_2.length + [(⟨true, 0, 0, 0⟩ : GChoice)].length ≤ 4294967296 then some (xs_2 ++ [(⟨true, 0, 0, 0⟩ : GChoice)]) else none)
noncomputable def impl_Frame_choices.k_11 (i_5 : Int) (xs_10 : List GChoice) : Option (((List GChoice) × Int) ⊕ ((List GChoice))) := some (.inl (xs_10, (w64 (i_5 + 1))))
noncomputable def impl_Frame_choices.k_18 (i_13 : Int) (xs_17 : List GChoice) : Option (((List GChoice) × Int) ⊕ ((List GChoice))) := some (.inl (xs_17, (w64 (i_13 + 1))))
noncomputable def impl_Frame_choices.l_21 (f0 : GFrame) (n1 : GNote) (x_8 : Int) (x_16 : Int) : ((List GChoice) × Int) → Option (((List GChoice) × Int) ⊕ ((List GChoice)))
  | (xs_19, i_20) => (if (decide (i_20 < (f0.fHammers.length : Int))) = true then (ix f0.fHammers i_20).bind fun x_23 => (impl_within (w64 ((w64 n1.fAt) + (w64 x_8))) 0 (w64 ((w64 f0.fSteps) - 1))).bind fun t_24 => (if (t_24 && ((w64 x_23.fPitch) == (w64 ((w64 n1.fPitch) + (w64 (12 * (w64 x_16))))))) = true then (if xs_19.length + [(⟨false, x_8, x_16, (w8 i_20)⟩ : GChoice)].length ≤ 4294967296 then some (.inl ((xs_19 ++ [(⟨false, x_8, x_16, (w8 i_20)⟩ : GChoice)]), (w64 (i_20 + 1)))) else none) else some (.inl (xs_19, (w64 (i_20 + 1))))) else some (.inr xs_19))
noncomputable def impl_Frame_choices.l_14 (f0 : GFrame) (n1 : GNote) (x_8 : Int) (t_9 : (List Int)) : ((List GChoice) × Int) → Option (((List GChoice) × Int) ⊕ ((List GChoice)))
  | (xs_12, i_13) => (if (decide (i_13 < (t_9.length : Int))) = true then (ix t_9 i_13).bind fun x_16 => (loop (impl_Frame_choices.l_21 f0 n1 x_8 x_16) (xs_12, 0)).bind fun t_22 => impl_Frame_choices.k_18 i_13 t_22 else some (.inr xs_12))
noncomputable def impl_Frame_choices.l_6 (f0 : GFrame) (n1 : GNote) (t_1 : (List Int)) : ((List GChoice) × Int) → Option (((List GChoice) × Int) ⊕ ((List GChoice)))
  | (xs_4, i_5) => (if (decide (i_5 < (t_1.length : Int))) = true then (ix t_1 i_5).bind fun x_8 => (impl_nearest 1).bind fun t_9 => (loop (impl_Frame_choices.l_14 f0 n1 x_8 t_9) (xs_4, 0)).bind fun t_15 => impl_Frame_choices.k_11 i_5 t_15 else some (.inr xs_4))
noncomputable def impl_Frame_choices (f0 : GFrame) (n1 : GNote) : Option ((List GChoice)) := (impl_nearest 3).bind fun t_1 => (loop (impl_Frame_choices.l_6 f0 n1 t_1) (([] : List GChoice), 0)).bind fun t_7 => impl_Frame_choices.k_3 t_7
set_option maxRecDepth 100000 in
theorem impl_Frame_choices.calls (f0 : GFrame) (n1 : GNote) (w : World) (r : (List GChoice)) (f0_fHammers_a : Option Addr) (f0_fHammers_an : Nat) (f0_fHammers_c : Nat) (f0_fHammers_h : Rw w f0_fHammers_a 2 encGHammer f0.fHammers) (f0_fHammers_hn : f0.fHammers.length = f0_fHammers_an) (h : impl_Frame_choices f0 n1 = some r) :
    Calls Tryz.prog 143 #[(.agg #[(.int .i16 f0.fSteps), (.slice f0_fHammers_a f0_fHammers_an f0_fHammers_c)]), (.agg #[(.int .i16 n1.fAt), (.int .i8 n1.fPitch)])] w fun e w' => ∃ v, e = .returned v ∧ (∃ (o0 : Option Nat) (c0 : Nat) (s0 : List Value) (n0 : Nat), r.length = n0 ∧ (o0 ≠ none → n0 ≤ c0 ∧ s0.length = (c0 - n0) * 4) ∧ (o0 = none → r = [] ∧ c0 = 0) ∧ v = .slice (o0.map fun b => ⟨b, 0, none⟩) n0 c0 ∧ Mem w [] [⟨o0, 99, row encGChoice r s0⟩] w') := by
  subst f0_fHammers_hn
  rw [impl_Frame_choices] at h
  refine enter (args := [(.agg #[(.int .i16 f0.fSteps), (.slice f0_fHammers_a f0.fHammers.length f0_fHammers_c)]), (.agg #[(.int .i16 n1.fAt), (.int .i8 n1.fPitch)])]) Tryz.func143 rfl Tryz.ntmps143 (by kernel_rfl) (L := []) (W := []) (Mem.start w) ?_
  refine jc_seq ?_
  refine jc_region ?_
  refine toO (by kernel_rfl) (p_a 0 [0] (by kernel_rfl) (fun b => by kernel_rfl) (fun b_1 => jkO ?_))
  refine toO (by kernel_rfl) (p_a 0 [0] (by kernel_rfl) (fun b => by kernel_rfl) (fun b_2 => jkO ?_))
  refine jo_f [(0, 0)] (by kernel_rfl) ?_
  refine jo_end (by kernel_rfl) ?_
  refine jx_then ?_
  refine jc_seq ?_
  refine jc_region ?_
  refine toO (by kernel_rfl) (p_a 0 [0] (by kernel_rfl) (fun b => by kernel_rfl) (fun b_3 => jkO ?_))
  refine jo_f [(0, 0)] (by kernel_rfl) ?_
  refine jo_end (by kernel_rfl) ?_
  refine jx_then ?_
  refine jc_seq ?_
  refine jc_seq ?_
  refine jc_region ?_
  obtain ⟨t_1, ht_4830, h⟩ := bd h
  refine toO (by kernel_rfl) (p_call 0 167 #[(.int .i8 3)] (by kernel_rfl) (by kernel_rfl) (fun w hm => impl_nearest.calls 3 w _ ht_4830) ?_)
  rintro w v w' hm ⟨o_4831, cap_4832, sp_4833, _, rfl, hs_4834, ho_4835, rfl, hm'⟩
  refine ⟨_, hm.app hm', jkO ?_⟩
  clear hm hm'
  refine jo_f [(0, 0), (0, 0)] (by kernel_rfl) ?_
  refine jo_end (by kernel_rfl) ?_
  refine jx_then ?_
  refine jc_meet (fun (j : (List GChoice) × (Option Nat) × Nat × (List Value) × Nat) => match j with | ⟨xs_2, o_7243, cap_7244, sp_7245, n_7246⟩ => impl_Frame_choices.k_3 xs_2 = some r ∧ (xs_2.length = n_7246) ∧ ((o_7243 ≠ none → n_7246 ≤ cap_7244 ∧ sp_7245.length = (cap_7244 - n_7246) * 4)) ∧ ((o_7243 = none → xs_2 = [] ∧ cap_7244 = 0))) (fun (j : (List GChoice) × (Option Nat) × Nat × (List Value) × Nat) => match j with | ⟨xs_2, o_7243, cap_7244, sp_7245, n_7246⟩ => [(4, [], (.slice none 0 0)), (5, [], (.slice (o_7243.map fun b => ⟨b, 0, none⟩) n_7246 cap_7244))]) (fun (j : (List GChoice) × (Option Nat) × Nat × (List Value) × Nat) => match j with | ⟨xs_2, o_7243, cap_7244, sp_7245, n_7246⟩ => [⟨some b_1, 42, [(.int .i16 f0.fSteps), (.slice f0_fHammers_a f0.fHammers.length f0_fHammers_c)]⟩, ⟨some b_2, 95, [(.int .i16 n1.fAt), (.int .i8 n1.fPitch)]⟩, ⟨o_7243, 99, row encGChoice xs_2 sp_7245⟩, ⟨o_4831, 30, row encI8 t_1 sp_4833⟩]) ?_ ?_
  · refine jc_block ?_
    obtain ⟨t_7, ht_9662, hr_8862⟩ := bd h
    refine jc_loop (fun (s : (List GChoice) × Int) (x : (Option Nat) × Nat × (List Value) × Nat) => match s, x with | ⟨xs_4, i_5⟩, ⟨o_8856, cap_8857, sp_8858, n_8859⟩ => (xs_4.length = n_8859) ∧ ((o_8856 ≠ none → n_8859 ≤ cap_8857 ∧ sp_8858.length = (cap_8857 - n_8859) * 4)) ∧ ((o_8856 = none → xs_4 = [] ∧ cap_8857 = 0))) (fun (s : (List GChoice) × Int) (x : (Option Nat) × Nat × (List Value) × Nat) => match s, x with | ⟨xs_4, i_5⟩, ⟨o_8856, cap_8857, sp_8858, n_8859⟩ => [(2, [], (.pointer (some ⟨b_1, 0, none⟩))), (3, [], (.pointer (some ⟨b_2, 0, none⟩))), (4, [], (.slice none 0 0)), (5, [], (.slice (o_8856.map fun b => ⟨b, 0, none⟩) n_8859 cap_8857)), (15, [], (.slice (o_4831.map fun b => ⟨b, 0, none⟩) t_1.length cap_4832)), (16, [], (.int .i64 (t_1.length : Int))), (17, [], (.int .i64 i_5))]) (fun (s : (List GChoice) × Int) (x : (Option Nat) × Nat × (List Value) × Nat) => match s, x with | ⟨xs_4, i_5⟩, ⟨o_8856, cap_8857, sp_8858, n_8859⟩ => [⟨some b_1, 42, [(.int .i16 f0.fSteps), (.slice f0_fHammers_a f0.fHammers.length f0_fHammers_c)]⟩, ⟨some b_2, 95, [(.int .i16 n1.fAt), (.int .i8 n1.fPitch)]⟩, ⟨o_8856, 99, row encGChoice xs_4 sp_8858⟩, ⟨o_4831, 30, row encI8 t_1 sp_4833⟩]) ht_9662 ⟨(some b_3), 0, [], 0⟩ ⟨rfl, (fun _ => ⟨Nat.le_refl _, by simp⟩), (fun e => nomatch e)⟩ (by kernel_rfl) [0, 1, 2, 3] (by kernel_rfl) (by kernel_rfl) ?_
    rintro ⟨xs_4, i_5⟩ ⟨o_8856, cap_8857, sp_8858, n_8859⟩ y_8863 ⟨rfl, hs_8860, ho_8861⟩ h
    rw [impl_Frame_choices.l_6] at h
    refine jc_seq ?_
    refine jc_region ?_
    refine jo_f [(0, 0)] (by kernel_rfl) ?_
    refine jo_end (by kernel_rfl) ?_
    refine jx_then ?_
    refine jc_seq ?_
    refine jc_cond (decide (i_5 < (t_1.length : Int))) (by kernel_rfl) (fun hc_8865 => ?_) (fun hc_8865 => ?_)
    · replace h := ifT hc_8865 h
      refine jc_skip ?_
      refine jx_then ?_
      refine jc_seq ?_
      refine jc_block ?_
      refine jc_seq ?_
      refine jc_region ?_
      obtain ⟨x_8, hx_8866, h⟩ := bd h
      refine toO (by kernel_rfl) (p_idx 0 (o_4831.map fun b => ⟨b, 0, none⟩) t_1.length i_5 1 (by kernel_rfl) (by kernel_rfl) (ix_some hx_8866).1 (ltn hx_8866 rfl) (spo ho_4835 hx_8866) (jkO ?_))
      refine toO (by kernel_rfl) (p_ld 0 (aB (o_4831.map fun b => ⟨b, 0, none⟩)) (aO (o_4831.map fun b => ⟨b, 0, none⟩) + i_5.toNat * 1) false (encI8 x_8) (by kernel_rfl) (by kernel_rfl) (by kernel_rfl) (fun w hm => ((hm.ownRow (hh := 3) (o := o_4831) (T := 30) (enc := encI8) (xs := t_1) (sp := sp_4833) (by kernel_rfl) (fun e => (ho_4835 e).1) encI8_len).at hx_8866)) (jkO ?_))
      refine jo_f [(0, 0)] (by kernel_rfl) ?_
      refine jo_end (by kernel_rfl) ?_
      refine jx_then ?_
      refine jc_seq ?_
      refine jc_region ?_
      obtain ⟨t_9, ht_8867, h⟩ := bd h
      refine toO (by kernel_rfl) (p_call 0 167 #[(.int .i8 1)] (by kernel_rfl) (by kernel_rfl) (fun w hm => impl_nearest.calls 1 w _ ht_8867) ?_)
      rintro w v w' hm ⟨o_8868, cap_8869, sp_8870, _, rfl, hs_8871, ho_8872, rfl, hm'⟩
      refine ⟨_, hm.app hm', jkO ?_⟩
      clear hm hm'
      refine jo_f [(0, 0), (0, 0)] (by kernel_rfl) ?_
      refine jo_end (by kernel_rfl) ?_
      refine jx_then ?_
      refine jc_meet (fun (j : (List GChoice) × (Option Nat) × Nat × (List Value) × Nat) => match j with | ⟨xs_10, o_9264, cap_9265, sp_9266, n_9267⟩ => impl_Frame_choices.k_11 i_5 xs_10 = some y_8863 ∧ (xs_10.length = n_9267) ∧ ((o_9264 ≠ none → n_9267 ≤ cap_9265 ∧ sp_9266.length = (cap_9265 - n_9267) * 4)) ∧ ((o_9264 = none → xs_10 = [] ∧ cap_9265 = 0))) (fun (j : (List GChoice) × (Option Nat) × Nat × (List Value) × Nat) => match j with | ⟨xs_10, o_9264, cap_9265, sp_9266, n_9267⟩ => [(2, [], (.pointer (some ⟨b_1, 0, none⟩))), (3, [], (.pointer (some ⟨b_2, 0, none⟩))), (4, [], (.slice none 0 0)), (5, [], (.slice (o_9264.map fun b => ⟨b, 0, none⟩) n_9267 cap_9265)), (15, [], (.slice (o_4831.map fun b => ⟨b, 0, none⟩) t_1.length cap_4832)), (16, [], (.int .i64 (t_1.length : Int))), (17, [], (.int .i64 i_5))]) (fun (j : (List GChoice) × (Option Nat) × Nat × (List Value) × Nat) => match j with | ⟨xs_10, o_9264, cap_9265, sp_9266, n_9267⟩ => [⟨some b_1, 42, [(.int .i16 f0.fSteps), (.slice f0_fHammers_a f0.fHammers.length f0_fHammers_c)]⟩, ⟨some b_2, 95, [(.int .i16 n1.fAt), (.int .i8 n1.fPitch)]⟩, ⟨o_9264, 99, row encGChoice xs_10 sp_9266⟩, ⟨o_4831, 30, row encI8 t_1 sp_4833⟩, ⟨o_8868, 30, row encI8 t_9 sp_8870⟩]) ?_ ?_
      · refine jc_block ?_
        obtain ⟨t_15, ht_9660, hr_9532⟩ := bd h
        refine jc_loop (fun (s : (List GChoice) × Int) (x : (Option Nat) × Nat × (List Value) × Nat) => match s, x with | ⟨xs_12, i_13⟩, ⟨o_9526, cap_9527, sp_9528, n_9529⟩ => (xs_12.length = n_9529) ∧ ((o_9526 ≠ none → n_9529 ≤ cap_9527 ∧ sp_9528.length = (cap_9527 - n_9529) * 4)) ∧ ((o_9526 = none → xs_12 = [] ∧ cap_9527 = 0))) (fun (s : (List GChoice) × Int) (x : (Option Nat) × Nat × (List Value) × Nat) => match s, x with | ⟨xs_12, i_13⟩, ⟨o_9526, cap_9527, sp_9528, n_9529⟩ => [(2, [], (.pointer (some ⟨b_1, 0, none⟩))), (3, [], (.pointer (some ⟨b_2, 0, none⟩))), (4, [], (.slice none 0 0)), (5, [], (.slice (o_9526.map fun b => ⟨b, 0, none⟩) n_9529 cap_9527)), (7, [], (.int .i8 x_8)), (15, [], (.slice (o_4831.map fun b => ⟨b, 0, none⟩) t_1.length cap_4832)), (16, [], (.int .i64 (t_1.length : Int))), (17, [], (.int .i64 i_5)), (21, [], (.slice (o_8868.map fun b => ⟨b, 0, none⟩) t_9.length cap_8869)), (22, [], (.int .i64 (t_9.length : Int))), (23, [], (.int .i64 i_13))]) (fun (s : (List GChoice) × Int) (x : (Option Nat) × Nat × (List Value) × Nat) => match s, x with | ⟨xs_12, i_13⟩, ⟨o_9526, cap_9527, sp_9528, n_9529⟩ => [⟨some b_1, 42, [(.int .i16 f0.fSteps), (.slice f0_fHammers_a f0.fHammers.length f0_fHammers_c)]⟩, ⟨some b_2, 95, [(.int .i16 n1.fAt), (.int .i8 n1.fPitch)]⟩, ⟨o_9526, 99, row encGChoice xs_12 sp_9528⟩, ⟨o_4831, 30, row encI8 t_1 sp_4833⟩, ⟨o_8868, 30, row encI8 t_9 sp_8870⟩]) ht_9660 ⟨o_8856, cap_8857, sp_8858, xs_4.length⟩ ⟨rfl, hs_8860, ho_8861⟩ (by kernel_rfl) [0, 1, 2, 3, 4] (by kernel_rfl) (by kernel_rfl) ?_
        rintro ⟨xs_12, i_13⟩ ⟨o_9526, cap_9527, sp_9528, n_9529⟩ y_9533 ⟨rfl, hs_9530, ho_9531⟩ h
        rw [impl_Frame_choices.l_14] at h
        refine jc_seq ?_
        refine jc_region ?_
        refine jo_f [(0, 0)] (by kernel_rfl) ?_
        refine jo_end (by kernel_rfl) ?_
        refine jx_then ?_
        refine jc_seq ?_
        refine jc_cond (decide (i_13 < (t_9.length : Int))) (by kernel_rfl) (fun hc_9535 => ?_) (fun hc_9535 => ?_)
        · replace h := ifT hc_9535 h
          refine jc_skip ?_
          refine jx_then ?_
          refine jc_seq ?_
          refine jc_block ?_
          refine jc_seq ?_
          refine jc_region ?_
          obtain ⟨x_16, hx_9536, h⟩ := bd h
          refine toO (by kernel_rfl) (p_idx 0 (o_8868.map fun b => ⟨b, 0, none⟩) t_9.length i_13 1 (by kernel_rfl) (by kernel_rfl) (ix_some hx_9536).1 (ltn hx_9536 rfl) (spo ho_8872 hx_9536) (jkO ?_))
          refine toO (by kernel_rfl) (p_ld 0 (aB (o_8868.map fun b => ⟨b, 0, none⟩)) (aO (o_8868.map fun b => ⟨b, 0, none⟩) + i_13.toNat * 1) false (encI8 x_16) (by kernel_rfl) (by kernel_rfl) (by kernel_rfl) (fun w hm => ((hm.ownRow (hh := 4) (o := o_8868) (T := 30) (enc := encI8) (xs := t_9) (sp := sp_8870) (by kernel_rfl) (fun e => (ho_8872 e).1) encI8_len).at hx_9536)) (jkO ?_))
          refine jo_f [(0, 0)] (by kernel_rfl) ?_
          refine jo_end (by kernel_rfl) ?_
          refine jx_then ?_
          refine jc_seq ?_
          refine jc_region ?_
          refine jo_f [(0, 0), (0, 0), (0, 0), (0, 0)] (by kernel_rfl) ?_
          refine jo_end (by kernel_rfl) ?_
          refine jx_then ?_
          refine jc_meet (fun (j : (List GChoice) × (Option Nat) × Nat × (List Value) × Nat) => match j with | ⟨xs_17, o_9595, cap_9596, sp_9597, n_9598⟩ => impl_Frame_choices.k_18 i_13 xs_17 = some y_9533 ∧ (xs_17.length = n_9598) ∧ ((o_9595 ≠ none → n_9598 ≤ cap_9596 ∧ sp_9597.length = (cap_9596 - n_9598) * 4)) ∧ ((o_9595 = none → xs_17 = [] ∧ cap_9596 = 0))) (fun (j : (List GChoice) × (Option Nat) × Nat × (List Value) × Nat) => match j with | ⟨xs_17, o_9595, cap_9596, sp_9597, n_9598⟩ => [(2, [], (.pointer (some ⟨b_1, 0, none⟩))), (3, [], (.pointer (some ⟨b_2, 0, none⟩))), (4, [], (.slice none 0 0)), (5, [], (.slice (o_9595.map fun b => ⟨b, 0, none⟩) n_9598 cap_9596)), (7, [], (.int .i8 x_8)), (15, [], (.slice (o_4831.map fun b => ⟨b, 0, none⟩) t_1.length cap_4832)), (16, [], (.int .i64 (t_1.length : Int))), (17, [], (.int .i64 i_5)), (21, [], (.slice (o_8868.map fun b => ⟨b, 0, none⟩) t_9.length cap_8869)), (22, [], (.int .i64 (t_9.length : Int))), (23, [], (.int .i64 i_13))]) (fun (j : (List GChoice) × (Option Nat) × Nat × (List Value) × Nat) => match j with | ⟨xs_17, o_9595, cap_9596, sp_9597, n_9598⟩ => [⟨some b_1, 42, [(.int .i16 f0.fSteps), (.slice f0_fHammers_a f0.fHammers.length f0_fHammers_c)]⟩, ⟨some b_2, 95, [(.int .i16 n1.fAt), (.int .i8 n1.fPitch)]⟩, ⟨o_9595, 99, row encGChoice xs_17 sp_9597⟩, ⟨o_4831, 30, row encI8 t_1 sp_4833⟩, ⟨o_8868, 30, row encI8 t_9 sp_8870⟩]) ?_ ?_
          · refine jc_block ?_
            obtain ⟨t_22, ht_9658, hr_9641⟩ := bd h
            refine jc_loop (fun (s : (List GChoice) × Int) (x : (Option Nat) × Nat × (List Value) × Nat) => match s, x with | ⟨xs_19, i_20⟩, ⟨o_9635, cap_9636, sp_9637, n_9638⟩ => (xs_19.length = n_9638) ∧ ((o_9635 ≠ none → n_9638 ≤ cap_9636 ∧ sp_9637.length = (cap_9636 - n_9638) * 4)) ∧ ((o_9635 = none → xs_19 = [] ∧ cap_9636 = 0))) (fun (s : (List GChoice) × Int) (x : (Option Nat) × Nat × (List Value) × Nat) => match s, x with | ⟨xs_19, i_20⟩, ⟨o_9635, cap_9636, sp_9637, n_9638⟩ => [(2, [], (.pointer (some ⟨b_1, 0, none⟩))), (3, [], (.pointer (some ⟨b_2, 0, none⟩))), (4, [], (.slice none 0 0)), (5, [], (.slice (o_9635.map fun b => ⟨b, 0, none⟩) n_9638 cap_9636)), (7, [], (.int .i8 x_8)), (9, [], (.int .i8 x_16)), (15, [], (.slice (o_4831.map fun b => ⟨b, 0, none⟩) t_1.length cap_4832)), (16, [], (.int .i64 (t_1.length : Int))), (17, [], (.int .i64 i_5)), (21, [], (.slice (o_8868.map fun b => ⟨b, 0, none⟩) t_9.length cap_8869)), (22, [], (.int .i64 (t_9.length : Int))), (23, [], (.int .i64 i_13)), (28, [], (.slice f0_fHammers_a f0.fHammers.length f0_fHammers_c)), (29, [], (.int .i64 (f0.fHammers.length : Int))), (30, [], (.int .i64 i_20))]) (fun (s : (List GChoice) × Int) (x : (Option Nat) × Nat × (List Value) × Nat) => match s, x with | ⟨xs_19, i_20⟩, ⟨o_9635, cap_9636, sp_9637, n_9638⟩ => [⟨some b_1, 42, [(.int .i16 f0.fSteps), (.slice f0_fHammers_a f0.fHammers.length f0_fHammers_c)]⟩, ⟨some b_2, 95, [(.int .i16 n1.fAt), (.int .i8 n1.fPitch)]⟩, ⟨o_9635, 99, row encGChoice xs_19 sp_9637⟩, ⟨o_4831, 30, row encI8 t_1 sp_4833⟩, ⟨o_8868, 30, row encI8 t_9 sp_8870⟩]) ht_9658 ⟨o_9526, cap_9527, sp_9528, xs_12.length⟩ ⟨rfl, hs_9530, ho_9531⟩ (by kernel_rfl) [0, 1, 2, 3, 4] (by kernel_rfl) (by kernel_rfl) ?_
            rintro ⟨xs_19, i_20⟩ ⟨o_9635, cap_9636, sp_9637, n_9638⟩ y_9642 ⟨rfl, hs_9639, ho_9640⟩ h
            rw [impl_Frame_choices.l_21] at h
            refine jc_seq ?_
            refine jc_region ?_
            refine jo_f [(0, 0)] (by kernel_rfl) ?_
            refine jo_end (by kernel_rfl) ?_
            refine jx_then ?_
            refine jc_seq ?_
            refine jc_cond (decide (i_20 < (f0.fHammers.length : Int))) (by kernel_rfl) (fun hc_9644 => ?_) (fun hc_9644 => ?_)
            · replace h := ifT hc_9644 h
              refine jc_skip ?_
              refine jx_then ?_
              refine jc_seq ?_
              refine jc_block ?_
              refine jc_seq ?_
              refine jc_region ?_
              refine jo_f [(0, 0)] (by kernel_rfl) ?_
              obtain ⟨x_23, hx_9645, h⟩ := bd h
              refine toO (by kernel_rfl) (p_idx 0 f0_fHammers_a f0.fHammers.length i_20 2 (by kernel_rfl) (by kernel_rfl) (ix_some hx_9645).1 (ltn hx_9645 rfl) (f0_fHammers_h.sp hx_9645) (jkO ?_))
              refine toO (by kernel_rfl) (p_ld 0 (aB f0_fHammers_a) (aO f0_fHammers_a + i_20.toNat * 2) true (encGHammer x_23) (by kernel_rfl) (by kernel_rfl) (by kernel_rfl) (fun w hm => ((hm.exRow f0_fHammers_h List.not_mem_nil).at hx_9645)) (jkO ?_))
              refine toO (by kernel_rfl) (p_a 0 [0] (by kernel_rfl) (fun b => by kernel_rfl) (fun b_9646 => jkO ?_))
              refine jo_f [(0, 0)] (by kernel_rfl) ?_
              refine toO (by kernel_rfl) (p_s 0 [5] (by kernel_rfl) (by kernel_rfl) (jkO ?_))
              refine jo_end (by kernel_rfl) ?_
              refine jx_then ?_
              refine jc_seq ?_
              refine jc_draw [⟨some b_1, 42, [(.int .i16 f0.fSteps), (.slice f0_fHammers_a f0.fHammers.length f0_fHammers_c)]⟩, ⟨some b_2, 95, [(.int .i16 n1.fAt), (.int .i8 n1.fPitch)]⟩, ⟨o_9635, 99, row encGChoice xs_19 sp_9637⟩, ⟨o_4831, 30, row encI8 t_1 sp_4833⟩, ⟨o_8868, 30, row encI8 t_9 sp_8870⟩, ⟨some b_9646, 119, [(.int .i8 x_23.fPitch), (.int .i8 x_23.fReady)]⟩] 15 (by kernel_rfl) (by kernel_rfl) ?_
              refine jd_f [⟨0, 0, 0⟩, ⟨1, 1, 0⟩, ⟨2, 0, 0⟩, ⟨3, 0, 0⟩, ⟨4, 0, 0⟩, ⟨5, 0, 0⟩, ⟨6, 0, 0⟩, ⟨7, 1, 0⟩, ⟨8, 0, 0⟩, ⟨9, 0, 0⟩, ⟨10, 0, 0⟩, ⟨11, 0, 0⟩, ⟨12, 0, 0⟩, ⟨13, 0, 0⟩, ⟨14, 0, 0⟩] 0 (by kernel_rfl) (by kernel_rfl) (fun w h => h.pick [0, 1, 2, 3, 4, 5] (by kernel_rfl) (by kernel_rfl)) (by kernel_rfl) (by kernel_rfl) ?_
              refine jd_end (by kernel_rfl) ?_
              refine jx_then ?_
              refine jc_seq ?_
              refine jc_region ?_
              refine jo_f [(0, 0), (0, 0), (0, 0), (0, 0), (0, 0)] (by kernel_rfl) ?_
              obtain ⟨t_24, ht_9648, h⟩ := bd h
              refine toO (by kernel_rfl) (p_call 0 94 #[(.int .i64 (w64 ((w64 n1.fAt) + (w64 x_8)))), (.int .i64 0), (.int .i64 (w64 ((w64 f0.fSteps) - 1)))] (by kernel_rfl) (by kernel_rfl) (fun w hm => impl_within.calls (w64 ((w64 n1.fAt) + (w64 x_8))) 0 (w64 ((w64 f0.fSteps) - 1)) w _ ht_9648) ?_)
              rintro w v w' hm ⟨rfl, hm'⟩
              refine ⟨_, hm.app hm', jkO ?_⟩
              clear hm hm'
              refine jo_f [(0, 0), (0, 1), (5, 1), (0, 1), (0, 1), (0, 1), (0, 0)] (by kernel_rfl) ?_
              refine jo_end (by kernel_rfl) ?_
              refine jx_then ?_
              refine jc_cond (t_24 && ((w64 x_23.fPitch) == (w64 ((w64 n1.fPitch) + (w64 (12 * (w64 x_16))))))) (by kernel_rfl) (fun hc_9649 => ?_) (fun hc_9649 => ?_)
              · replace h := ifT hc_9649 h
                refine jc_region ?_
                refine jo_f [(0, 0), (0, 0), (0, 0), (0, 0), (0, 0), (0, 0)] (by kernel_rfl) ?_
                refine toO (by kernel_rfl) (p_a 0 [0] (by kernel_rfl) (fun b => by kernel_rfl) (fun b_9650 => jkO ?_))
                obtain ⟨hg_9651, h⟩ := gd h
                refine toO (by kernel_rfl) (p_apn 0 2 o_9635 99 xs_19.length 1 cap_9636 4 4 (some ⟨b_9650, 0, none⟩) encGChoice xs_19 [(⟨false, x_8, x_16, (w8 i_20)⟩ : GChoice)] sp_9637 (.agg #[(.bool false), (.int .i8 0), (.int .i8 0), (.int .i8 0)]) rfl rfl (by kernel_rfl) (by kernel_rfl) (by kernel_rfl) encGChoice_len encGChoice_cell hs_9639 ho_9640 (fun w hm => (hm.ownRow (hh := 6) (o := (some b_9650)) (T := 99) (enc := encGChoice) (xs := [(⟨false, x_8, x_16, (w8 i_20)⟩ : GChoice)]) (sp := []) (by kernel_rfl) (fun e => nomatch e) encGChoice_len)) hg_9651 (by kernel_rfl) (by kernel_rfl) (fun o_9652 cap_9653 sp_9654 hs_9655 ho_9656 => jkO ?_))
                refine jo_f [(0, 0)] (by kernel_rfl) ?_
                refine jo_end (by kernel_rfl) ?_
                refine jx_inn ?_
                refine jx_then ?_
                refine jc_region ?_
                refine jo_f [(0, 0), (0, 0)] (by kernel_rfl) ?_
                refine jo_end (by kernel_rfl) ?_
                exact jx_back ((xs_19 ++ [(⟨false, x_8, x_16, (w8 i_20)⟩ : GChoice)]), (w64 (i_20 + 1))) ⟨o_9652, cap_9653, sp_9654, (xs_19 ++ [(⟨false, x_8, x_16, (w8 i_20)⟩ : GChoice)]).length⟩ (Option.some.inj h).symm ⟨rfl, hs_9655, ho_9656⟩ [0, 1, 2, 3, 4] (by kernel_rfl) (by kernel_rfl) (by kernel_rfl)
              · replace h := ifF hc_9649 h
                refine jc_skip ?_
                refine jx_inn ?_
                refine jx_then ?_
                refine jc_region ?_
                refine jo_f [(0, 0), (0, 0)] (by kernel_rfl) ?_
                refine jo_end (by kernel_rfl) ?_
                exact jx_back (xs_19, (w64 (i_20 + 1))) ⟨o_9635, cap_9636, sp_9637, xs_19.length⟩ (Option.some.inj h).symm ⟨rfl, hs_9639, ho_9640⟩ [0, 1, 2, 3, 4] (by kernel_rfl) (by kernel_rfl) (by kernel_rfl)
            · replace h := ifF hc_9644 h
              refine jc_exit ?_
              refine jx_thenx ?_
              refine jx_leave xs_19 (Option.some.inj h).symm (fun e_9657 => ?_)
              subst e_9657
              refine jx_ine ?_
              exact jx_meet ⟨xs_19, o_9635, cap_9636, sp_9637, xs_19.length⟩ ⟨hr_9641, rfl, hs_9639, ho_9640⟩ (by kernel_rfl) [0, 1, 2, 3, 4] (by kernel_rfl) (by kernel_rfl)
          · rintro ⟨xs_17, o_9595, cap_9596, sp_9597, n_9598⟩ ⟨h, rfl, hs_9599, ho_9600⟩
            replace h : impl_Frame_choices.k_18 i_13 xs_17 = some y_9533 := h
            rw [impl_Frame_choices.k_18] at h
            refine jx_inn ?_
            refine jx_then ?_
            refine jc_region ?_
            refine jo_f [(0, 0), (0, 0)] (by kernel_rfl) ?_
            refine jo_end (by kernel_rfl) ?_
            exact jx_back (xs_17, (w64 (i_13 + 1))) ⟨o_9595, cap_9596, sp_9597, xs_17.length⟩ (Option.some.inj h).symm ⟨rfl, hs_9599, ho_9600⟩ [0, 1, 2, 3, 4] (by kernel_rfl) (by kernel_rfl) (by kernel_rfl)
        · replace h := ifF hc_9535 h
          refine jc_exit ?_
          refine jx_thenx ?_
          refine jx_leave xs_12 (Option.some.inj h).symm (fun e_9659 => ?_)
          subst e_9659
          refine jx_ine ?_
          exact jx_meet ⟨xs_12, o_9526, cap_9527, sp_9528, xs_12.length⟩ ⟨hr_9532, rfl, hs_9530, ho_9531⟩ (by kernel_rfl) [0, 1, 2, 3, 4] (by kernel_rfl) (by kernel_rfl)
      · rintro ⟨xs_10, o_9264, cap_9265, sp_9266, n_9267⟩ ⟨h, rfl, hs_9268, ho_9269⟩
        replace h : impl_Frame_choices.k_11 i_5 xs_10 = some y_8863 := h
        rw [impl_Frame_choices.k_11] at h
        refine jx_inn ?_
        refine jx_then ?_
        refine jc_region ?_
        refine jo_f [(0, 0), (0, 0)] (by kernel_rfl) ?_
        refine jo_end (by kernel_rfl) ?_
        exact jx_back (xs_10, (w64 (i_5 + 1))) ⟨o_9264, cap_9265, sp_9266, xs_10.length⟩ (Option.some.inj h).symm ⟨rfl, hs_9268, ho_9269⟩ [0, 1, 2, 3] (by kernel_rfl) (by kernel_rfl) (by kernel_rfl)
    · replace h := ifF hc_8865 h
      refine jc_exit ?_
      refine jx_thenx ?_
      refine jx_leave xs_4 (Option.some.inj h).symm (fun e_9661 => ?_)
      subst e_9661
      refine jx_ine ?_
      exact jx_meet ⟨xs_4, o_8856, cap_8857, sp_8858, xs_4.length⟩ ⟨hr_8862, rfl, hs_8860, ho_8861⟩ (by kernel_rfl) [0, 1, 2, 3] (by kernel_rfl) (by kernel_rfl)
  · rintro ⟨xs_2, o_7243, cap_7244, sp_7245, n_7246⟩ ⟨h, rfl, hs_7247, ho_7248⟩
    replace h : impl_Frame_choices.k_3 xs_2 = some r := h
    rw [impl_Frame_choices.k_3] at h
    refine jx_then ?_
    refine jc_seq ?_
    refine jc_region ?_
    refine jo_f [(0, 0), (0, 0)] (by kernel_rfl) ?_
    refine toO (by kernel_rfl) (p_a 0 [0] (by kernel_rfl) (fun b => by kernel_rfl) (fun b_7249 => jkO ?_))
    obtain ⟨hg_7250, h⟩ := gd h
    refine toO (by kernel_rfl) (p_apn 0 2 o_7243 99 xs_2.length 1 cap_7244 4 4 (some ⟨b_7249, 0, none⟩) encGChoice xs_2 [(⟨true, 0, 0, 0⟩ : GChoice)] sp_7245 (.agg #[(.bool false), (.int .i8 0), (.int .i8 0), (.int .i8 0)]) rfl rfl (by kernel_rfl) (by kernel_rfl) (by kernel_rfl) encGChoice_len encGChoice_cell hs_7247 ho_7248 (fun w hm => (hm.ownRow (hh := 4) (o := (some b_7249)) (T := 99) (enc := encGChoice) (xs := [(⟨true, 0, 0, 0⟩ : GChoice)]) (sp := []) (by kernel_rfl) (fun e => nomatch e) encGChoice_len)) hg_7250 (by kernel_rfl) (by kernel_rfl) (fun o_7251 cap_7252 sp_7253 hs_7254 ho_7255 => jkO ?_))
    refine jo_f [(0, 0)] (by kernel_rfl) ?_
    refine jo_end (by kernel_rfl) ?_
    refine jx_then ?_
    refine jc_ret ?_
    obtain rfl := Option.some.inj h
    exact jx_ret [] (.slice (o_7251.map fun b => ⟨b, 0, none⟩) ((xs_2 ++ [(⟨true, 0, 0, 0⟩ : GChoice)]).length) cap_7252) [] rfl (by kernel_rfl) (by kernel_rfl) (fun w hm => ⟨o_7251, cap_7252, sp_7253, ((xs_2 ++ [(⟨true, 0, 0, 0⟩ : GChoice)]).length), rfl, hs_7254, ho_7255, rfl, hm.pick [2] (by kernel_rfl) (by kernel_rfl)⟩)

/-! ### slices.Index[[]impl.Choice,impl.Choice] -/
noncomputable def slices_Index_Choice.k_1 : Option (Int) := some (-1)
noncomputable def slices_Index_Choice.l_3 (s0 : List GChoice) (v1 : GChoice) : Int → Option ((Int) ⊕ (Int ⊕ Unit))
  | i_2 => (if (decide (i_2 < (s0.length : Int))) = true then (ix s0 i_2).bind fun x_5 => (if ((v1.fAway == x_5.fAway) && ((v1.fLate == x_5.fLate) && ((v1.fOctave == x_5.fOctave) && (v1.fTrack == x_5.fTrack)))) = true then some (.inr (.inl i_2)) else some (.inl (w64 (i_2 + 1)))) else some (.inr (.inr ())))
noncomputable def slices_Index_Choice (s0 : List GChoice) (v1 : GChoice) : Option (Int) := (loop (slices_Index_Choice.l_3 s0 v1) 0).bind fun t_4 => match t_4 with | .inl p => some p | .inr p => slices_Index_Choice.k_1
set_option maxRecDepth 100000 in
theorem slices_Index_Choice.calls (s0 : List GChoice) (v1 : GChoice) (w : World) (r : Int) (s0_a : Option Addr) (s0_an : Nat) (s0_c : Nat) (s0_h : Rw w s0_a 4 encGChoice s0) (s0_hn : s0.length = s0_an) (h : slices_Index_Choice s0 v1 = some r) :
    Calls Tryz.prog 166 #[(.slice s0_a s0_an s0_c), (.agg #[(.bool v1.fAway), (.int .i8 v1.fLate), (.int .i8 v1.fOctave), (.int .i8 v1.fTrack)])] w fun e w' => ∃ v, e = .returned v ∧ (v = (.int .i64 r) ∧ Mem w [] [] w') := by
  subst s0_hn
  rw [slices_Index_Choice] at h
  refine enter (args := [(.slice s0_a s0.length s0_c), (.agg #[(.bool v1.fAway), (.int .i8 v1.fLate), (.int .i8 v1.fOctave), (.int .i8 v1.fTrack)])]) Tryz.func166 rfl Tryz.ntmps166 (by kernel_rfl) (L := []) (W := []) (Mem.start w) ?_
  refine jc_seq ?_
  refine jc_region ?_
  refine toO (by kernel_rfl) (p_a 0 [0] (by kernel_rfl) (fun b => by kernel_rfl) (fun b_1 => jkO ?_))
  refine jo_f [(0, 0)] (by kernel_rfl) ?_
  refine jo_end (by kernel_rfl) ?_
  refine jx_then ?_
  refine jc_seq ?_
  refine jc_seq ?_
  refine jc_region ?_
  refine jo_f [(0, 0), (0, 0), (0, 0)] (by kernel_rfl) ?_
  refine jo_end (by kernel_rfl) ?_
  refine jx_then ?_
  refine jc_meet (fun (_ : Unit) => slices_Index_Choice.k_1 = some r) (fun (_ : Unit) => [(4, [], (.int .i64 0))]) (fun (_ : Unit) => [⟨some b_1, 99, [(.bool v1.fAway), (.int .i8 v1.fLate), (.int .i8 v1.fOctave), (.int .i8 v1.fTrack)]⟩]) ?_ ?_
  · refine jc_block ?_
    obtain ⟨t_4, ht_35, hr_27⟩ := bd h
    refine jc_loop (fun (s : Int) (x : Unit) => match s, x with | i_2, _ => True) (fun (s : Int) (x : Unit) => match s, x with | i_2, _ => [(0, [], (.slice s0_a s0.length s0_c)), (3, [], (.pointer (some ⟨b_1, 0, none⟩))), (4, [], (.int .i64 0)), (7, [], (.int .i64 (s0.length : Int))), (8, [], (.int .i64 i_2))]) (fun (s : Int) (x : Unit) => match s, x with | i_2, _ => [⟨some b_1, 99, [(.bool v1.fAway), (.int .i8 v1.fLate), (.int .i8 v1.fOctave), (.int .i8 v1.fTrack)]⟩]) ht_35 () trivial (by kernel_rfl) [0] (by kernel_rfl) (by kernel_rfl) ?_
    rintro i_2 _ y_28 _ h
    rw [slices_Index_Choice.l_3] at h
    refine jc_seq ?_
    refine jc_region ?_
    refine jo_f [(0, 0)] (by kernel_rfl) ?_
    refine jo_end (by kernel_rfl) ?_
    refine jx_then ?_
    refine jc_seq ?_
    refine jc_cond (decide (i_2 < (s0.length : Int))) (by kernel_rfl) (fun hc_30 => ?_) (fun hc_30 => ?_)
    · replace h := ifT hc_30 h
      refine jc_skip ?_
      refine jx_then ?_
      refine jc_seq ?_
      refine jc_block ?_
      refine jc_seq ?_
      refine jc_region ?_
      refine jo_f [(0, 0), (0, 0)] (by kernel_rfl) ?_
      refine jo_end (by kernel_rfl) ?_
      refine jx_then ?_
      refine jc_seq ?_
      refine jc_draw [⟨some b_1, 99, [(.bool v1.fAway), (.int .i8 v1.fLate), (.int .i8 v1.fOctave), (.int .i8 v1.fTrack)]⟩] 6 (by kernel_rfl) (by kernel_rfl) ?_
      refine jd_f [⟨0, 0, 0⟩, ⟨1, 0, 0⟩, ⟨2, 0, 0⟩] 3 (by kernel_rfl) (by kernel_rfl) (fun w h => h.pick [0] (by kernel_rfl) (by kernel_rfl)) (by kernel_rfl) (by kernel_rfl) ?_
      obtain ⟨x_5, hx_31, h⟩ := bd h
      refine jd_v 3 0 (by kernel_rfl) (fun w h => h.pick [0] (by kernel_rfl) (by kernel_rfl)) (by kernel_rfl) (by kernel_rfl) _ (fun w hm => idx_run (a := s0_a) (len := s0.length) (s := 4) (j := i_2) (by kernel_rfl) (ix_some hx_31).1 (ltn hx_31 rfl) (s0_h.sp hx_31)) ?_
      refine jd_v 4 0 (by kernel_rfl) (fun w h => h.pick [0] (by kernel_rfl) (by kernel_rfl)) (by kernel_rfl) (by kernel_rfl) _ (fun w hm => ld_run (b := aB s0_a) (off := (aO s0_a + i_2.toNat * 4)) (s := 4) (agg := true) (vs := (encGChoice x_5)) (by kernel_rfl) (by kernel_rfl) (.inl rfl) ((hm.exRow s0_h List.not_mem_nil).at hx_31)) ?_
      refine jd_f [⟨5, 0, 0⟩] 0 (by kernel_rfl) (by kernel_rfl) (fun w h => h.pick [0] (by kernel_rfl) (by kernel_rfl)) (by kernel_rfl) (by kernel_rfl) ?_
      refine jd_end (by kernel_rfl) ?_
      refine jx_then ?_
      refine jc_cond ((v1.fAway == x_5.fAway) && ((v1.fLate == x_5.fLate) && ((v1.fOctave == x_5.fOctave) && (v1.fTrack == x_5.fTrack)))) (by kernel_rfl) (fun hc_32 => ?_) (fun hc_32 => ?_)
      · replace h := ifT hc_32 h
        refine jc_seq ?_
        refine jc_region ?_
        refine jo_f [(0, 0), (0, 0)] (by kernel_rfl) ?_
        refine jo_end (by kernel_rfl) ?_
        refine jx_then ?_
        refine jc_ret ?_
        refine jx_inr ?_
        refine jx_thenr ?_
        refine jx_leaver (.inl i_2) (Option.some.inj h).symm (fun e_33 => ?_)
        subst e_33
        refine jx_inr ?_
        refine jx_thenr ?_
        refine jx_thenr ?_
        obtain rfl := Option.some.inj hr_27
        exact jx_ret [] (.int .i64 i_2) [] rfl (by kernel_rfl) (by kernel_rfl) (fun w hm => ⟨rfl, hm.pick [] (by kernel_rfl) (by kernel_rfl)⟩)
      · replace h := ifF hc_32 h
        refine jc_skip ?_
        refine jx_inn ?_
        refine jx_then ?_
        refine jc_region ?_
        refine jo_f [(0, 0), (0, 0)] (by kernel_rfl) ?_
        refine jo_end (by kernel_rfl) ?_
        exact jx_back (w64 (i_2 + 1)) () (Option.some.inj h).symm trivial [0] (by kernel_rfl) (by kernel_rfl) (by kernel_rfl)
    · replace h := ifF hc_30 h
      refine jc_exit ?_
      refine jx_thenx ?_
      refine jx_leave (.inr ()) (Option.some.inj h).symm (fun e_34 => ?_)
      subst e_34
      refine jx_ine ?_
      exact jx_meet () hr_27 (by kernel_rfl) [0] (by kernel_rfl) (by kernel_rfl)
  · rintro _ h
    replace h : slices_Index_Choice.k_1 = some r := h
    rw [slices_Index_Choice.k_1] at h
    refine jx_then ?_
    refine jc_seq ?_
    refine jc_region ?_
    refine jo_f [(0, 0)] (by kernel_rfl) ?_
    refine jo_end (by kernel_rfl) ?_
    refine jx_then ?_
    refine jc_ret ?_
    obtain rfl := Option.some.inj h
    exact jx_ret [] (.int .i64 (-1)) [] rfl (by kernel_rfl) (by kernel_rfl) (fun w hm => ⟨rfl, hm.pick [] (by kernel_rfl) (by kernel_rfl)⟩)

/-! ### slices.Contains[[]impl.Choice,impl.Choice] -/
noncomputable def slices_Contains_Choice (s0 : List GChoice) (v1 : GChoice) : Option (Bool) := (slices_Index_Choice s0 v1).bind fun t_1 => some (decide (t_1 ≥ 0))
set_option maxRecDepth 100000 in
theorem slices_Contains_Choice.calls (s0 : List GChoice) (v1 : GChoice) (w : World) (r : Bool) (s0_a : Option Addr) (s0_an : Nat) (s0_c : Nat) (s0_h : Rw w s0_a 4 encGChoice s0) (s0_hn : s0.length = s0_an) (h : slices_Contains_Choice s0 v1 = some r) :
    Calls Tryz.prog 142 #[(.slice s0_a s0_an s0_c), (.agg #[(.bool v1.fAway), (.int .i8 v1.fLate), (.int .i8 v1.fOctave), (.int .i8 v1.fTrack)])] w fun e w' => ∃ v, e = .returned v ∧ (v = (.bool r) ∧ Mem w [] [] w') := by
  subst s0_hn
  rw [slices_Contains_Choice] at h
  refine enter (args := [(.slice s0_a s0.length s0_c), (.agg #[(.bool v1.fAway), (.int .i8 v1.fLate), (.int .i8 v1.fOctave), (.int .i8 v1.fTrack)])]) Tryz.func142 rfl Tryz.ntmps142 (by kernel_rfl) (L := []) (W := []) (Mem.start w) ?_
  refine jc_seq ?_
  refine jc_region ?_
  refine toO (by kernel_rfl) (p_a 0 [0] (by kernel_rfl) (fun b => by kernel_rfl) (fun b_1 => jkO ?_))
  refine jo_f [(0, 0)] (by kernel_rfl) ?_
  refine jo_end (by kernel_rfl) ?_
  refine jx_then ?_
  refine jc_seq ?_
  refine jc_region ?_
  refine jo_f [(0, 0), (0, 0)] (by kernel_rfl) ?_
  obtain ⟨t_1, ht_2, h⟩ := bd h
  refine toO (by kernel_rfl) (p_call 0 166 #[(.slice s0_a s0.length s0_c), (.agg #[(.bool v1.fAway), (.int .i8 v1.fLate), (.int .i8 v1.fOctave), (.int .i8 v1.fTrack)])] (by kernel_rfl) (by kernel_rfl) (fun w hm => slices_Index_Choice.calls s0 v1 w _ s0_a s0.length s0_c (hm.exRow s0_h List.not_mem_nil) rfl ht_2) ?_)
  rintro w v w' hm ⟨rfl, hm'⟩
  refine ⟨_, hm.app hm', jkO ?_⟩
  clear hm hm'
  refine jo_f [(0, 0), (0, 0)] (by kernel_rfl) ?_
  refine jo_end (by kernel_rfl) ?_
  refine jx_then ?_
  refine jc_ret ?_
  obtain rfl := Option.some.inj h
  exact jx_ret [] (.bool (decide (t_1 ≥ 0))) [] rfl (by kernel_rfl) (by kernel_rfl) (fun w hm => ⟨rfl, hm.pick [] (by kernel_rfl) (by kernel_rfl)⟩)

/-! ### (impl.Frame).behind -/
noncomputable def impl_Frame_behind.k_1 (f0 : GFrame) : Option (Int) := some (w64 f0.fSteps)
noncomputable def impl_Frame_behind.l_3 (f0 : GFrame) (d1 : Arr 96 Int) (step2 : Int) (track3 : Int) (way4 : Int) : Int → Option ((Int) ⊕ (Int ⊕ Unit))
  | i_2 => (if (decide (i_2 < (w64 f0.fSteps))) = true then (if (w64 f0.fSteps) ≠ 0 then (impl_Drum_has d1 (Int.tmod (w64 ((w64 (step2 + (w64 (way4 * i_2)))) + (w64 f0.fSteps))) (w64 f0.fSteps)) track3).bind fun t_5 => (if t_5 = true then some (.inr (.inl i_2)) else some (.inl (w64 (i_2 + 1)))) else none) else some (.inr (.inr ())))
noncomputable def impl_Frame_behind (f0 : GFrame) (d1 : Arr 96 Int) (step2 : Int) (track3 : Int) (way4 : Int) : Option (Int) := (loop (impl_Frame_behind.l_3 f0 d1 step2 track3 way4) 1).bind fun t_4 => match t_4 with | .inl p => some p | .inr p => impl_Frame_behind.k_1 f0
set_option maxRecDepth 100000 in
theorem impl_Frame_behind.calls (f0 : GFrame) (d1 : Arr 96 Int) (step2 : Int) (track3 : Int) (way4 : Int) (w : World) (r : Int) (f0_fHammers_a : Option Addr) (f0_fHammers_an : Nat) (f0_fHammers_c : Nat) (f0_fHammers_h : Rw w f0_fHammers_a 2 encGHammer f0.fHammers) (f0_fHammers_hn : f0.fHammers.length = f0_fHammers_an) (d1_b : Nat) (hm0 : Mem w (bs [some d1_b]) [⟨(some d1_b), 89, row encU32 d1.1 []⟩] w) (f0_fHammers_ha : f0.fHammers ≠ [] → aB f0_fHammers_a ∉ bs [some d1_b]) (h : impl_Frame_behind f0 d1 step2 track3 way4 = some r) :
    Calls Tryz.prog 186 #[(.agg #[(.int .i16 f0.fSteps), (.slice f0_fHammers_a f0_fHammers_an f0_fHammers_c)]), (.pointer (some ⟨d1_b, 0, none⟩)), (.int .i64 step2), (.int .i64 track3), (.int .i64 way4)] w fun e w' => ∃ v, e = .returned v ∧ (v = (.int .i64 r) ∧ Mem w (bs [some d1_b]) [⟨(some d1_b), 89, row encU32 d1.1 []⟩] w') := by
  subst f0_fHammers_hn
  rw [impl_Frame_behind] at h
  refine enter (args := [(.agg #[(.int .i16 f0.fSteps), (.slice f0_fHammers_a f0.fHammers.length f0_fHammers_c)]), (.pointer (some ⟨d1_b, 0, none⟩)), (.int .i64 step2), (.int .i64 track3), (.int .i64 way4)]) Tryz.func186 rfl Tryz.ntmps186 (by kernel_rfl) (L := [⟨(some d1_b), 89, row encU32 d1.1 []⟩]) (W := bs [some d1_b]) hm0 ?_
  refine jc_seq ?_
  refine jc_region ?_
  refine toO (by kernel_rfl) (p_a 0 [0] (by kernel_rfl) (fun b => by kernel_rfl) (fun b_1 => jkO ?_))
  refine jo_f [(0, 0)] (by kernel_rfl) ?_
  refine jo_end (by kernel_rfl) ?_
  refine jx_then ?_
  refine jc_seq ?_
  refine jc_region ?_
  refine jo_f [(0, 0), (1, 0), (0, 0), (0, 0)] (by kernel_rfl) ?_
  refine jo_end (by kernel_rfl) ?_
  refine jx_then ?_
  refine jc_seq ?_
  refine jc_seq ?_
  refine jc_region ?_
  refine jo_f [(0, 0)] (by kernel_rfl) ?_
  refine jo_end (by kernel_rfl) ?_
  refine jx_then ?_
  refine jc_meet (fun (_ : Unit) => impl_Frame_behind.k_1 f0 = some r) (fun (_ : Unit) => [(10, [], (.int .i64 0)), (11, [], (.int .i64 (w64 f0.fSteps)))]) (fun (_ : Unit) => [⟨(some d1_b), 89, row encU32 d1.1 []⟩, ⟨some b_1, 42, [(.int .i16 f0.fSteps), (.slice f0_fHammers_a f0.fHammers.length f0_fHammers_c)]⟩]) ?_ ?_
  · refine jc_block ?_
    obtain ⟨t_4, ht_81, hr_72⟩ := bd h
    refine jc_loop (fun (s : Int) (x : Unit) => match s, x with | i_2, _ => True) (fun (s : Int) (x : Unit) => match s, x with | i_2, _ => [(1, [], (.pointer (some ⟨d1_b, 0, none⟩))), (2, [], (.int .i64 step2)), (3, [], (.int .i64 track3)), (4, [], (.int .i64 way4)), (10, [], (.int .i64 0)), (11, [], (.int .i64 (w64 f0.fSteps))), (12, [], (.int .i64 i_2))]) (fun (s : Int) (x : Unit) => match s, x with | i_2, _ => [⟨(some d1_b), 89, row encU32 d1.1 []⟩, ⟨some b_1, 42, [(.int .i16 f0.fSteps), (.slice f0_fHammers_a f0.fHammers.length f0_fHammers_c)]⟩]) ht_81 () trivial (by kernel_rfl) [0, 1] (by kernel_rfl) (by kernel_rfl) ?_
    rintro i_2 _ y_73 _ h
    rw [impl_Frame_behind.l_3] at h
    refine jc_seq ?_
    refine jc_seq ?_
    refine jc_region ?_
    refine jo_f [(0, 0), (0, 0), (0, 0)] (by kernel_rfl) ?_
    refine jo_end (by kernel_rfl) ?_
    refine jx_then ?_
    refine jc_cond (decide (i_2 < (w64 f0.fSteps))) (by kernel_rfl) (fun hc_75 => ?_) (fun hc_75 => ?_)
    · replace h := ifT hc_75 h
      refine jc_skip ?_
      refine jx_then ?_
      refine jc_seq ?_
      refine jc_block ?_
      refine jc_seq ?_
      refine jc_region ?_
      refine jo_f [(0, 0), (0, 0), (0, 0), (0, 0), (0, 0), (0, 0), (0, 0), (0, 0), (0, 0)] (by kernel_rfl) ?_
      obtain ⟨hg_76, h⟩ := gd h
      refine toO (by kernel_rfl) (p_rem 0 .i64 (w64 ((w64 (step2 + (w64 (way4 * i_2)))) + (w64 f0.fSteps))) (w64 f0.fSteps) (by kernel_rfl) (by kernel_rfl) hg_76 (jkO ?_))
      refine jo_f [(0, 0)] (by kernel_rfl) ?_
      obtain ⟨t_5, ht_77, h⟩ := bd h
      refine toO (by kernel_rfl) (p_call 0 122 #[(.pointer (some ⟨d1_b, 0, none⟩)), (.int .i64 (Int.tmod (w64 ((w64 (step2 + (w64 (way4 * i_2)))) + (w64 f0.fSteps))) (w64 f0.fSteps))), (.int .i64 track3)] (by kernel_rfl) (by kernel_rfl) (fun w hm => impl_Drum_has.calls d1 (Int.tmod (w64 ((w64 (step2 + (w64 (way4 * i_2)))) + (w64 f0.fSteps))) (w64 f0.fSteps)) track3 w _ d1_b (hm.pass (N := [⟨(some d1_b), 89, row encU32 d1.1 []⟩]) [0] (by kernel_rfl) (by kernel_rfl)) ht_77) ?_)
      rintro w v w' hm ⟨rfl, hm'⟩
      refine ⟨_, hm.appW (ps := [(0, ⟨(some d1_b), 89, row encU32 d1.1 []⟩)]) (N := []) hm' (by kernel_rfl) (by kernel_rfl), jkO ?_⟩
      clear hm hm'
      refine jo_end (by kernel_rfl) ?_
      refine jx_then ?_
      refine jc_cond t_5 (by kernel_rfl) (fun hc_78 => ?_) (fun hc_78 => ?_)
      · replace h := ifT hc_78 h
        refine jc_seq ?_
        refine jc_region ?_
        refine jo_f [(0, 0), (0, 0)] (by kernel_rfl) ?_
        refine jo_end (by kernel_rfl) ?_
        refine jx_then ?_
        refine jc_ret ?_
        refine jx_inr ?_
        refine jx_thenr ?_
        refine jx_leaver (.inl i_2) (Option.some.inj h).symm (fun e_79 => ?_)
        subst e_79
        refine jx_inr ?_
        refine jx_thenr ?_
        refine jx_thenr ?_
        obtain rfl := Option.some.inj hr_72
        exact jx_ret [] (.int .i64 i_2) [] rfl (by kernel_rfl) (by kernel_rfl) (fun w hm => ⟨rfl, hm.pick [0] (by kernel_rfl) (by kernel_rfl)⟩)
      · replace h := ifF hc_78 h
        refine jc_skip ?_
        refine jx_inn ?_
        refine jx_then ?_
        refine jc_region ?_
        refine jo_f [(0, 0), (0, 0), (0, 0)] (by kernel_rfl) ?_
        refine jo_end (by kernel_rfl) ?_
        exact jx_back (w64 (i_2 + 1)) () (Option.some.inj h).symm trivial [0, 1] (by kernel_rfl) (by kernel_rfl) (by kernel_rfl)
    · replace h := ifF hc_75 h
      refine jc_exit ?_
      refine jx_thenx ?_
      refine jx_leave (.inr ()) (Option.some.inj h).symm (fun e_80 => ?_)
      subst e_80
      refine jx_ine ?_
      exact jx_meet () hr_72 (by kernel_rfl) [0, 1] (by kernel_rfl) (by kernel_rfl)
  · rintro _ h
    replace h : impl_Frame_behind.k_1 f0 = some r := h
    rw [impl_Frame_behind.k_1] at h
    refine jx_then ?_
    refine jc_seq ?_
    refine jc_region ?_
    refine jo_f [(0, 0), (0, 0)] (by kernel_rfl) ?_
    refine jo_end (by kernel_rfl) ?_
    refine jx_then ?_
    refine jc_ret ?_
    obtain rfl := Option.some.inj h
    exact jx_ret [] (.int .i64 (w64 f0.fSteps)) [] rfl (by kernel_rfl) (by kernel_rfl) (fun w hm => ⟨rfl, hm.pick [0] (by kernel_rfl) (by kernel_rfl)⟩)

/-! ### (impl.Frame).isFree -/
noncomputable def impl_Frame_isFree (f0 : GFrame) (d1 : Arr 96 Int) (step2 : Int) (track3 : Int) : Option (Bool) := (ix f0.fHammers track3).bind fun x_1 => (impl_Drum_has d1 step2 track3).bind fun t_2 => (if (!t_2) = true then (impl_Frame_behind f0 d1 step2 track3 1).bind fun t_3 => (if (decide (t_3 ≥ (w64 x_1.fReady))) = true then (impl_Frame_behind f0 d1 step2 track3 (-1)).bind fun t_4 => some (decide (t_4 ≥ (w64 x_1.fReady))) else some false) else some false)
set_option maxRecDepth 100000 in
theorem impl_Frame_isFree.calls (f0 : GFrame) (d1 : Arr 96 Int) (step2 : Int) (track3 : Int) (w : World) (r : Bool) (f0_fHammers_a : Option Addr) (f0_fHammers_an : Nat) (f0_fHammers_c : Nat) (f0_fHammers_h : Rw w f0_fHammers_a 2 encGHammer f0.fHammers) (f0_fHammers_hn : f0.fHammers.length = f0_fHammers_an) (d1_b : Nat) (hm0 : Mem w (bs [some d1_b]) [⟨(some d1_b), 89, row encU32 d1.1 []⟩] w) (f0_fHammers_ha : f0.fHammers ≠ [] → aB f0_fHammers_a ∉ bs [some d1_b]) (h : impl_Frame_isFree f0 d1 step2 track3 = some r) :
    Calls Tryz.prog 168 #[(.agg #[(.int .i16 f0.fSteps), (.slice f0_fHammers_a f0_fHammers_an f0_fHammers_c)]), (.pointer (some ⟨d1_b, 0, none⟩)), (.int .i64 step2), (.int .i64 track3)] w fun e w' => ∃ v, e = .returned v ∧ (v = (.bool r) ∧ Mem w (bs [some d1_b]) [⟨(some d1_b), 89, row encU32 d1.1 []⟩] w') := by
  subst f0_fHammers_hn
  rw [impl_Frame_isFree] at h
  refine enter (args := [(.agg #[(.int .i16 f0.fSteps), (.slice f0_fHammers_a f0.fHammers.length f0_fHammers_c)]), (.pointer (some ⟨d1_b, 0, none⟩)), (.int .i64 step2), (.int .i64 track3)]) Tryz.func168 rfl Tryz.ntmps168 (by kernel_rfl) (L := [⟨(some d1_b), 89, row encU32 d1.1 []⟩]) (W := bs [some d1_b]) hm0 ?_
  refine jc_seq ?_
  refine jc_region ?_
  refine toO (by kernel_rfl) (p_a 0 [0] (by kernel_rfl) (fun b => by kernel_rfl) (fun b_1 => jkO ?_))
  refine jo_f [(0, 0)] (by kernel_rfl) ?_
  refine jo_end (by kernel_rfl) ?_
  refine jx_then ?_
  refine jc_seq ?_
  refine jc_region ?_
  refine jo_f [(0, 0), (1, 0), (0, 0)] (by kernel_rfl) ?_
  obtain ⟨x_1, hx_2, h⟩ := bd h
  refine toO (by kernel_rfl) (p_idx 0 f0_fHammers_a f0.fHammers.length track3 2 (by kernel_rfl) (by kernel_rfl) (ix_some hx_2).1 (ltn hx_2 rfl) (f0_fHammers_h.sp hx_2) (jkO ?_))
  refine jo_f [(0, 0)] (by kernel_rfl) ?_
  refine toO (by kernel_rfl) (p_ld 0 (aB f0_fHammers_a) (aO f0_fHammers_a + track3.toNat * 2 + 1) false (((encGHammer x_1).drop 1).take 1) (by kernel_rfl) (by kernel_rfl) (by kernel_rfl) (fun w hm => (((hm.exRowW f0_fHammers_h f0_fHammers_ha).at hx_2).sub 1 1)) (jkO ?_))
  refine jo_f [(0, 0), (0, 0)] (by kernel_rfl) ?_
  refine jo_end (by kernel_rfl) ?_
  refine jx_then ?_
  refine jc_seq ?_
  refine jc_region ?_
  refine jo_f [(0, 0), (0, 0), (0, 0)] (by kernel_rfl) ?_
  obtain ⟨t_2, ht_3, h⟩ := bd h
  refine toO (by kernel_rfl) (p_call 0 122 #[(.pointer (some ⟨d1_b, 0, none⟩)), (.int .i64 step2), (.int .i64 track3)] (by kernel_rfl) (by kernel_rfl) (fun w hm => impl_Drum_has.calls d1 step2 track3 w _ d1_b (hm.pass (N := [⟨(some d1_b), 89, row encU32 d1.1 []⟩]) [0] (by kernel_rfl) (by kernel_rfl)) ht_3) ?_)
  rintro w v w' hm ⟨rfl, hm'⟩
  refine ⟨_, hm.appW (ps := [(0, ⟨(some d1_b), 89, row encU32 d1.1 []⟩)]) (N := []) hm' (by kernel_rfl) (by kernel_rfl), jkO ?_⟩
  clear hm hm'
  refine jo_f [(0, 0), (0, 0), (1, 1), (0, 1), (0, 1), (0, 1)] (by kernel_rfl) ?_
  refine jo_split 22 (!t_2) (by kernel_rfl) (fun hc_4 => ?_) (fun hc_4 => ?_)
  · replace h := ifT hc_4 h
    obtain ⟨t_3, ht_5, h⟩ := bd h
    refine toO (by kernel_rfl) (p_call 2 186 #[(.agg #[(.int .i16 f0.fSteps), (.slice f0_fHammers_a f0.fHammers.length f0_fHammers_c)]), (.pointer (some ⟨d1_b, 0, none⟩)), (.int .i64 step2), (.int .i64 track3), (.int .i64 1)] (by kernel_rfl) (by kernel_rfl) (fun w hm => impl_Frame_behind.calls f0 d1 step2 track3 1 w _ f0_fHammers_a f0.fHammers.length f0_fHammers_c (hm.exRowW f0_fHammers_h f0_fHammers_ha) rfl d1_b (hm.pass (N := [⟨(some d1_b), 89, row encU32 d1.1 []⟩]) [0] (by kernel_rfl) (by kernel_rfl)) (hm.exApart (N := [⟨(some d1_b), 89, row encU32 d1.1 []⟩]) f0_fHammers_h f0_fHammers_ha [0] (by kernel_rfl)) ht_5) ?_)
    rintro w v w' hm ⟨rfl, hm'⟩
    refine ⟨_, hm.appW (ps := [(0, ⟨(some d1_b), 89, row encU32 d1.1 []⟩)]) (N := []) hm' (by kernel_rfl) (by kernel_rfl), jkO ?_⟩
    clear hm hm'
    refine jo_f [(0, 2), (0, 2), (0, 4), (0, 0), (1, 1), (0, 1), (0, 1), (0, 1)] (by kernel_rfl) ?_
    refine jo_split 31 (decide (t_3 ≥ (w64 x_1.fReady))) (by kernel_rfl) (fun hc_6 => ?_) (fun hc_6 => ?_)
    · replace h := ifT hc_6 h
      obtain ⟨t_4, ht_7, h⟩ := bd h
      refine toO (by kernel_rfl) (p_call 2 186 #[(.agg #[(.int .i16 f0.fSteps), (.slice f0_fHammers_a f0.fHammers.length f0_fHammers_c)]), (.pointer (some ⟨d1_b, 0, none⟩)), (.int .i64 step2), (.int .i64 track3), (.int .i64 (-1))] (by kernel_rfl) (by kernel_rfl) (fun w hm => impl_Frame_behind.calls f0 d1 step2 track3 (-1) w _ f0_fHammers_a f0.fHammers.length f0_fHammers_c (hm.exRowW f0_fHammers_h f0_fHammers_ha) rfl d1_b (hm.pass (N := [⟨(some d1_b), 89, row encU32 d1.1 []⟩]) [0] (by kernel_rfl) (by kernel_rfl)) (hm.exApart (N := [⟨(some d1_b), 89, row encU32 d1.1 []⟩]) f0_fHammers_h f0_fHammers_ha [0] (by kernel_rfl)) ht_7) ?_)
      rintro w v w' hm ⟨rfl, hm'⟩
      refine ⟨_, hm.appW (ps := [(0, ⟨(some d1_b), 89, row encU32 d1.1 []⟩)]) (N := []) hm' (by kernel_rfl) (by kernel_rfl), jkO ?_⟩
      clear hm hm'
      refine jo_f [(0, 2), (0, 2), (0, 4), (0, 0)] (by kernel_rfl) ?_
      refine jo_end (by kernel_rfl) ?_
      refine jx_then ?_
      refine jc_ret ?_
      obtain rfl := Option.some.inj h
      exact jx_ret [] (.bool (decide (t_4 ≥ (w64 x_1.fReady)))) [] rfl (by kernel_rfl) (by kernel_rfl) (fun w hm => ⟨rfl, hm.pick [0] (by kernel_rfl) (by kernel_rfl)⟩)
    · replace h := ifF hc_6 h
      refine jo_f [(0, 3), (0, 3), (0, 3), (0, 5), (0, 0)] (by kernel_rfl) ?_
      refine jo_end (by kernel_rfl) ?_
      refine jx_then ?_
      refine jc_ret ?_
      obtain rfl := Option.some.inj h
      exact jx_ret [] (.bool false) [] rfl (by kernel_rfl) (by kernel_rfl) (fun w hm => ⟨rfl, hm.pick [0] (by kernel_rfl) (by kernel_rfl)⟩)
  · replace h := ifF hc_4 h
    refine jo_f [(0, 3), (0, 3), (0, 3), (0, 5), (0, 0), (0, 3), (0, 3), (0, 3), (0, 3), (0, 3), (0, 3), (0, 3), (0, 5), (0, 0)] (by kernel_rfl) ?_
    refine jo_end (by kernel_rfl) ?_
    refine jx_then ?_
    refine jc_ret ?_
    obtain rfl := Option.some.inj h
    exact jx_ret [] (.bool false) [] rfl (by kernel_rfl) (by kernel_rfl) (fun w hm => ⟨rfl, hm.pick [0] (by kernel_rfl) (by kernel_rfl)⟩)

/-! ### (impl.Frame).canPut -/
noncomputable def impl_Frame_canPut (f0 : GFrame) (d1 : Arr 96 Int) (n2 : GNote) (x3 : GChoice) : Option (Bool) := (if x3.fAway = true then some true else (impl_Frame_isFree f0 d1 (w64 ((w64 n2.fAt) + (w64 x3.fLate))) (w64 x3.fTrack)).bind fun t_1 => some t_1)
set_option maxRecDepth 100000 in
theorem impl_Frame_canPut.calls (f0 : GFrame) (d1 : Arr 96 Int) (n2 : GNote) (x3 : GChoice) (w : World) (r : Bool) (f0_fHammers_a : Option Addr) (f0_fHammers_an : Nat) (f0_fHammers_c : Nat) (f0_fHammers_h : Rw w f0_fHammers_a 2 encGHammer f0.fHammers) (f0_fHammers_hn : f0.fHammers.length = f0_fHammers_an) (d1_b : Nat) (hm0 : Mem w (bs [some d1_b]) [⟨(some d1_b), 89, row encU32 d1.1 []⟩] w) (f0_fHammers_ha : f0.fHammers ≠ [] → aB f0_fHammers_a ∉ bs [some d1_b]) (h : impl_Frame_canPut f0 d1 n2 x3 = some r) :
    Calls Tryz.prog 144 #[(.agg #[(.int .i16 f0.fSteps), (.slice f0_fHammers_a f0_fHammers_an f0_fHammers_c)]), (.pointer (some ⟨d1_b, 0, none⟩)), (.agg #[(.int .i16 n2.fAt), (.int .i8 n2.fPitch)]), (.agg #[(.bool x3.fAway), (.int .i8 x3.fLate), (.int .i8 x3.fOctave), (.int .i8 x3.fTrack)])] w fun e w' => ∃ v, e = .returned v ∧ (v = (.bool r) ∧ Mem w (bs [some d1_b]) [⟨(some d1_b), 89, row encU32 d1.1 []⟩] w') := by
  subst f0_fHammers_hn
  rw [impl_Frame_canPut] at h
  refine enter (args := [(.agg #[(.int .i16 f0.fSteps), (.slice f0_fHammers_a f0.fHammers.length f0_fHammers_c)]), (.pointer (some ⟨d1_b, 0, none⟩)), (.agg #[(.int .i16 n2.fAt), (.int .i8 n2.fPitch)]), (.agg #[(.bool x3.fAway), (.int .i8 x3.fLate), (.int .i8 x3.fOctave), (.int .i8 x3.fTrack)])]) Tryz.func144 rfl Tryz.ntmps144 (by kernel_rfl) (L := [⟨(some d1_b), 89, row encU32 d1.1 []⟩]) (W := bs [some d1_b]) hm0 ?_
  refine jc_seq ?_
  refine jc_region ?_
  refine toO (by kernel_rfl) (p_a 0 [0] (by kernel_rfl) (fun b => by kernel_rfl) (fun b_1 => jkO ?_))
  refine toO (by kernel_rfl) (p_a 0 [0] (by kernel_rfl) (fun b => by kernel_rfl) (fun b_2 => jkO ?_))
  refine toO (by kernel_rfl) (p_a 0 [0] (by kernel_rfl) (fun b => by kernel_rfl) (fun b_3 => jkO ?_))
  refine jo_f [(0, 0)] (by kernel_rfl) ?_
  refine jo_end (by kernel_rfl) ?_
  refine jx_then ?_
  refine jc_seq ?_
  refine jc_region ?_
  refine jo_f [(0, 0), (3, 0), (0, 0), (1, 1), (0, 1), (0, 1), (2, 1), (0, 1), (0, 1), (3, 1), (0, 1), (0, 1), (0, 1), (3, 1), (0, 1)] (by kernel_rfl) ?_
  refine jo_split 11 x3.fAway (by kernel_rfl) (fun hc_4 => ?_) (fun hc_4 => ?_)
  · replace h := ifT hc_4 h
    refine jo_f [(0, 3), (0, 4), (0, 0)] (by kernel_rfl) ?_
    refine jo_end (by kernel_rfl) ?_
    refine jx_then ?_
    refine jc_ret ?_
    obtain rfl := Option.some.inj h
    exact jx_ret [] (.bool true) [] rfl (by kernel_rfl) (by kernel_rfl) (fun w hm => ⟨rfl, hm.pick [0] (by kernel_rfl) (by kernel_rfl)⟩)
  · replace h := ifF hc_4 h
    obtain ⟨t_1, ht_5, h⟩ := bd h
    refine toO (by kernel_rfl) (p_call 2 168 #[(.agg #[(.int .i16 f0.fSteps), (.slice f0_fHammers_a f0.fHammers.length f0_fHammers_c)]), (.pointer (some ⟨d1_b, 0, none⟩)), (.int .i64 (w64 ((w64 n2.fAt) + (w64 x3.fLate)))), (.int .i64 (w64 x3.fTrack))] (by kernel_rfl) (by kernel_rfl) (fun w hm => impl_Frame_isFree.calls f0 d1 (w64 ((w64 n2.fAt) + (w64 x3.fLate))) (w64 x3.fTrack) w _ f0_fHammers_a f0.fHammers.length f0_fHammers_c (hm.exRowW f0_fHammers_h f0_fHammers_ha) rfl d1_b (hm.pass (N := [⟨(some d1_b), 89, row encU32 d1.1 []⟩]) [0] (by kernel_rfl) (by kernel_rfl)) (hm.exApart (N := [⟨(some d1_b), 89, row encU32 d1.1 []⟩]) f0_fHammers_h f0_fHammers_ha [0] (by kernel_rfl)) ht_5) ?_)
    rintro w v w' hm ⟨rfl, hm'⟩
    refine ⟨_, hm.appW (ps := [(0, ⟨(some d1_b), 89, row encU32 d1.1 []⟩)]) (N := []) hm' (by kernel_rfl) (by kernel_rfl), jkO ?_⟩
    clear hm hm'
    refine jo_f [(0, 5), (0, 0)] (by kernel_rfl) ?_
    refine jo_end (by kernel_rfl) ?_
    refine jx_then ?_
    refine jc_ret ?_
    obtain rfl := Option.some.inj h
    exact jx_ret [] (.bool t_1) [] rfl (by kernel_rfl) (by kernel_rfl) (fun w hm => ⟨rfl, hm.pick [0] (by kernel_rfl) (by kernel_rfl)⟩)

/-! ### (*impl.Drum).puts -/
noncomputable def impl_Drum_puts (d0 : Arr 96 Int) (n1 : GNote) (x2 : GChoice) : Option ((Arr 96 Int)) := (if (!x2.fAway) = true then (impl_Drum_put d0 (w64 ((w64 n1.fAt) + (w64 x2.fLate))) (w64 x2.fTrack) true).bind fun t_1 => some t_1 else some d0)
set_option maxRecDepth 100000 in
theorem impl_Drum_puts.calls (d0 : Arr 96 Int) (n1 : GNote) (x2 : GChoice) (w : World) (r : (Arr 96 Int)) (d0_b : Nat) (hm0 : Mem w (bs [some d0_b]) [⟨(some d0_b), 89, row encU32 d0.1 []⟩] w) (h : impl_Drum_puts d0 n1 x2 = some r) :
    Calls Tryz.prog 145 #[(.pointer (some ⟨d0_b, 0, none⟩)), (.agg #[(.int .i16 n1.fAt), (.int .i8 n1.fPitch)]), (.agg #[(.bool x2.fAway), (.int .i8 x2.fLate), (.int .i8 x2.fOctave), (.int .i8 x2.fTrack)])] w fun e w' => ∃ v, e = .returned v ∧ (v = .tuple #[] ∧ Mem w (bs [some d0_b]) [⟨(some d0_b), 89, row encU32 r.1 []⟩] w') := by
  rw [impl_Drum_puts] at h
  refine enter (args := [(.pointer (some ⟨d0_b, 0, none⟩)), (.agg #[(.int .i16 n1.fAt), (.int .i8 n1.fPitch)]), (.agg #[(.bool x2.fAway), (.int .i8 x2.fLate), (.int .i8 x2.fOctave), (.int .i8 x2.fTrack)])]) Tryz.func145 rfl Tryz.ntmps145 (by kernel_rfl) (L := [⟨(some d0_b), 89, row encU32 d0.1 []⟩]) (W := bs [some d0_b]) hm0 ?_
  refine jc_seq ?_
  refine jc_region ?_
  refine toO (by kernel_rfl) (p_a 0 [0] (by kernel_rfl) (fun b => by kernel_rfl) (fun b_1 => jkO ?_))
  refine toO (by kernel_rfl) (p_a 0 [0] (by kernel_rfl) (fun b => by kernel_rfl) (fun b_2 => jkO ?_))
  refine jo_end (by kernel_rfl) ?_
  refine jx_then ?_
  refine jc_seq ?_
  refine jc_region ?_
  refine jo_f [(0, 0), (2, 0), (0, 0)] (by kernel_rfl) ?_
  refine jo_end (by kernel_rfl) ?_
  refine jx_then ?_
  refine jc_cond (!x2.fAway) (by kernel_rfl) (fun hc_3 => ?_) (fun hc_3 => ?_)
  · replace h := ifT hc_3 h
    refine jc_region ?_
    refine jo_f [(0, 0), (0, 0), (1, 0), (0, 0), (0, 0), (2, 0), (0, 0), (0, 0), (0, 0), (2, 0), (0, 0)] (by kernel_rfl) ?_
    obtain ⟨t_1, ht_4, h⟩ := bd h
    refine toO (by kernel_rfl) (p_call 0 101 #[(.pointer (some ⟨d0_b, 0, none⟩)), (.int .i64 (w64 ((w64 n1.fAt) + (w64 x2.fLate)))), (.int .i64 (w64 x2.fTrack)), (.bool true)] (by kernel_rfl) (by kernel_rfl) (fun w hm => impl_Drum_put.calls d0 (w64 ((w64 n1.fAt) + (w64 x2.fLate))) (w64 x2.fTrack) true w _ d0_b (hm.pass (N := [⟨(some d0_b), 89, row encU32 d0.1 []⟩]) [0] (by kernel_rfl) (by kernel_rfl)) ht_4) ?_)
    rintro w v w' hm ⟨rfl, hm'⟩
    refine ⟨_, hm.appW (ps := [(0, ⟨(some d0_b), 89, row encU32 t_1.1 []⟩)]) (N := []) hm' (by kernel_rfl) (by kernel_rfl), jkO ?_⟩
    clear hm hm'
    refine jo_end (by kernel_rfl) ?_
    refine jx_fall ?_
    obtain rfl := Option.some.inj h
    exact jx_ret [] (.tuple #[]) [] rfl (by kernel_rfl) (by kernel_rfl) (fun w hm => ⟨rfl, hm.pick [0] (by kernel_rfl) (by kernel_rfl)⟩)
  · replace h := ifF hc_3 h
    refine jc_skip ?_
    refine jx_fall ?_
    obtain rfl := Option.some.inj h
    exact jx_ret [] (.tuple #[]) [] rfl (by kernel_rfl) (by kernel_rfl) (fun w hm => ⟨rfl, hm.pick [0] (by kernel_rfl) (by kernel_rfl)⟩)

/-! ### (impl.Frame).fit -/
noncomputable def impl_Frame_fit.k_2 (list2 : List GChoice) (a_1 : Arr 96 Int) : Option ((Arr 96 Int) × Int) := some (a_1, (list2.length : Int))
noncomputable def impl_Frame_fit.k_9 (t1 : List GNote) (a_3 : Arr 96 Int) (i_4 : Int) (x_7 : GChoice) (q_8 : Bool) : Option (((Arr 96 Int) × Int) ⊕ (((Arr 96 Int) × Int) ⊕ (Arr 96 Int))) := (if q_8 = true then some (.inr (.inl ((Arr.rep 96 0), i_4))) else (ix t1 i_4).bind fun x_10 => (impl_Drum_puts a_3 x_10 x_7).bind fun t_11 => some (.inl (t_11, (w64 (i_4 + 1)))))
noncomputable def impl_Frame_fit.l_5 (f0 : GFrame) (t1 : List GNote) (list2 : List GChoice) : ((Arr 96 Int) × Int) → Option (((Arr 96 Int) × Int) ⊕ (((Arr 96 Int) × Int) ⊕ (Arr 96 Int)))
  | (a_3, i_4) => (if (decide (i_4 < (list2.length : Int))) = true then (ix list2 i_4).bind fun x_7 => (ix t1 i_4).bind fun x_12 => (impl_Frame_choices f0 x_12).bind fun t_13 => (slices_Contains_Choice t_13 x_7).bind fun t_14 => (if (!t_14) = true then impl_Frame_fit.k_9 t1 a_3 i_4 x_7 true else (ix t1 i_4).bind fun x_15 => (impl_Frame_canPut f0 a_3 x_15 x_7).bind fun t_16 => impl_Frame_fit.k_9 t1 a_3 i_4 x_7 (!t_16)) else some (.inr (.inr a_3)))
noncomputable def impl_Frame_fit (f0 : GFrame) (t1 : List GNote) (list2 : List GChoice) : Option ((Arr 96 Int) × Int) := (loop (impl_Frame_fit.l_5 f0 t1 list2) ((Arr.rep 96 0), 0)).bind fun t_6 => match t_6 with | .inl p => some p | .inr p => impl_Frame_fit.k_2 list2 p
set_option maxRecDepth 100000 in
theorem impl_Frame_fit.calls (f0 : GFrame) (t1 : List GNote) (list2 : List GChoice) (w : World) (r : (Arr 96 Int) × Int) (f0_fHammers_a : Option Addr) (f0_fHammers_an : Nat) (f0_fHammers_c : Nat) (f0_fHammers_h : Rw w f0_fHammers_a 2 encGHammer f0.fHammers) (f0_fHammers_hn : f0.fHammers.length = f0_fHammers_an) (t1_a : Option Addr) (t1_an : Nat) (t1_c : Nat) (t1_h : Rw w t1_a 2 encGNote t1) (t1_hn : t1.length = t1_an) (list2_a : Option Addr) (list2_an : Nat) (list2_c : Nat) (list2_h : Rw w list2_a 4 encGChoice list2) (list2_hn : list2.length = list2_an) (h : impl_Frame_fit f0 t1 list2 = some r) :
    Calls Tryz.prog 120 #[(.agg #[(.int .i16 f0.fSteps), (.slice f0_fHammers_a f0_fHammers_an f0_fHammers_c)]), (.slice t1_a t1_an t1_c), (.slice list2_a list2_an list2_c)] w fun e w' => ∃ v, e = .returned v ∧ (v = .tuple #[(.agg (row encU32 r.1.1 []).toArray), (.int .i64 r.2)] ∧ Mem w [] [] w') := by
  subst f0_fHammers_hn t1_hn list2_hn
  rw [impl_Frame_fit] at h
  refine enter (args := [(.agg #[(.int .i16 f0.fSteps), (.slice f0_fHammers_a f0.fHammers.length f0_fHammers_c)]), (.slice t1_a t1.length t1_c), (.slice list2_a list2.length list2_c)]) Tryz.func120 rfl Tryz.ntmps120 (by kernel_rfl) (L := []) (W := []) (Mem.start w) ?_
  refine jc_seq ?_
  refine jc_region ?_
  refine toO (by kernel_rfl) (p_a 0 [0] (by kernel_rfl) (fun b => by kernel_rfl) (fun b_1 => jkO ?_))
  refine toO (by kernel_rfl) (p_a 0 [0] (by kernel_rfl) (fun b => by kernel_rfl) (fun b_2 => jkO ?_))
  refine jo_f [(0, 0)] (by kernel_rfl) ?_
  refine jo_end (by kernel_rfl) ?_
  refine jx_then ?_
  refine jc_seq ?_
  refine jc_region ?_
  refine jo_f [(0, 0)] (by kernel_rfl) ?_
  refine toO (by kernel_rfl) (p_a 0 [0] (by kernel_rfl) (fun b => by kernel_rfl) (fun b_3 => jkO ?_))
  refine toO (by kernel_rfl) (p_sA 0 2 b_3 96 1 89 encU32 (Arr.rep 96 0) (Arr.rep 96 0) (by kernel_rfl) (by kernel_rfl) (by kernel_rfl) encU32_len encU32_cell (by kernel_rfl) (jkO ?_))
  refine jo_end (by kernel_rfl) ?_
  refine jx_then ?_
  refine jc_seq ?_
  refine jc_seq ?_
  refine jc_region ?_
  refine jo_f [(0, 0), (0, 0), (0, 0)] (by kernel_rfl) ?_
  refine jo_end (by kernel_rfl) ?_
  refine jx_then ?_
  refine jc_meet (fun (j : (Arr 96 Int)) => match j with | a_1 => impl_Frame_fit.k_2 list2 a_1 = some r) (fun (j : (Arr 96 Int)) => match j with | a_1 => [(2, [], (.slice list2_a list2.length list2_c)), (6, [], (.pointer (some ⟨b_2, 0, none⟩))), (7, [], (.int .i64 0)), (8, [], (.pointer (some ⟨b_3, 0, none⟩)))]) (fun (j : (Arr 96 Int)) => match j with | a_1 => [⟨some b_1, 42, [(.int .i16 f0.fSteps), (.slice f0_fHammers_a f0.fHammers.length f0_fHammers_c)]⟩, ⟨(some b_2), 89, row encU32 ((Arr.rep 96 0).1) []⟩, ⟨(some b_3), 89, row encU32 a_1.1 []⟩]) ?_ ?_
  · refine jc_block ?_
    obtain ⟨t_6, ht_659, hr_602⟩ := bd h
    refine jc_loop (fun (s : (Arr 96 Int) × Int) (x : Unit) => match s, x with | ⟨a_3, i_4⟩, _ => True) (fun (s : (Arr 96 Int) × Int) (x : Unit) => match s, x with | ⟨a_3, i_4⟩, _ => [(1, [], (.slice t1_a t1.length t1_c)), (2, [], (.slice list2_a list2.length list2_c)), (3, [], (.pointer (some ⟨b_1, 0, none⟩))), (6, [], (.pointer (some ⟨b_2, 0, none⟩))), (7, [], (.int .i64 0)), (8, [], (.pointer (some ⟨b_3, 0, none⟩))), (12, [], (.slice list2_a list2.length list2_c)), (13, [], (.int .i64 (list2.length : Int))), (14, [], (.int .i64 i_4))]) (fun (s : (Arr 96 Int) × Int) (x : Unit) => match s, x with | ⟨a_3, i_4⟩, _ => [⟨some b_1, 42, [(.int .i16 f0.fSteps), (.slice f0_fHammers_a f0.fHammers.length f0_fHammers_c)]⟩, ⟨(some b_2), 89, row encU32 ((Arr.rep 96 0).1) []⟩, ⟨(some b_3), 89, row encU32 a_3.1 []⟩]) ht_659 () trivial (by kernel_rfl) [0, 1, 2] (by kernel_rfl) (by kernel_rfl) ?_
    rintro ⟨a_3, i_4⟩ _ y_603 _ h
    rw [impl_Frame_fit.l_5] at h
    refine jc_seq ?_
    refine jc_region ?_
    refine jo_f [(0, 0)] (by kernel_rfl) ?_
    refine jo_end (by kernel_rfl) ?_
    refine jx_then ?_
    refine jc_seq ?_
    refine jc_cond (decide (i_4 < (list2.length : Int))) (by kernel_rfl) (fun hc_605 => ?_) (fun hc_605 => ?_)
    · replace h := ifT hc_605 h
      refine jc_skip ?_
      refine jx_then ?_
      refine jc_seq ?_
      refine jc_block ?_
      refine jc_seq ?_
      refine jc_region ?_
      refine jo_f [(0, 0)] (by kernel_rfl) ?_
      obtain ⟨x_7, hx_606, h⟩ := bd h
      refine toO (by kernel_rfl) (p_idx 0 list2_a list2.length i_4 4 (by kernel_rfl) (by kernel_rfl) (ix_some hx_606).1 (ltn hx_606 rfl) (list2_h.sp hx_606) (jkO ?_))
      refine toO (by kernel_rfl) (p_ld 0 (aB list2_a) (aO list2_a + i_4.toNat * 4) true (encGChoice x_7) (by kernel_rfl) (by kernel_rfl) (by kernel_rfl) (fun w hm => ((hm.exRow list2_h List.not_mem_nil).at hx_606)) (jkO ?_))
      refine toO (by kernel_rfl) (p_a 0 [0] (by kernel_rfl) (fun b => by kernel_rfl) (fun b_607 => jkO ?_))
      refine jo_f [(0, 0)] (by kernel_rfl) ?_
      refine toO (by kernel_rfl) (p_s 0 [3] (by kernel_rfl) (by kernel_rfl) (jkO ?_))
      refine jo_end (by kernel_rfl) ?_
      refine jx_then ?_
      refine jc_seq ?_
      refine jc_seq ?_
      refine jc_meet (fun (j : Bool) => match j with | q_8 => impl_Frame_fit.k_9 t1 a_3 i_4 x_7 q_8 = some y_603) (fun (j : Bool) => match j with | q_8 => [(1, [], (.slice t1_a t1.length t1_c)), (2, [], (.slice list2_a list2.length list2_c)), (3, [], (.pointer (some ⟨b_1, 0, none⟩))), (6, [], (.pointer (some ⟨b_2, 0, none⟩))), (7, [], (.int .i64 0)), (8, [], (.pointer (some ⟨b_3, 0, none⟩))), (9, [], (.int .i64 i_4)), (10, [], (.pointer (some ⟨b_607, 0, none⟩))), (12, [], (.slice list2_a list2.length list2_c)), (13, [], (.int .i64 (list2.length : Int))), (14, [], (.int .i64 i_4)), (37, [], (.bool q_8))]) (fun (j : Bool) => match j with | q_8 => [⟨some b_1, 42, [(.int .i16 f0.fSteps), (.slice f0_fHammers_a f0.fHammers.length f0_fHammers_c)]⟩, ⟨(some b_2), 89, row encU32 ((Arr.rep 96 0).1) []⟩, ⟨(some b_3), 89, row encU32 a_3.1 []⟩, ⟨some b_607, 99, [(.bool x_7.fAway), (.int .i8 x_7.fLate), (.int .i8 x_7.fOctave), (.int .i8 x_7.fTrack)]⟩]) ?_ ?_
      · refine jc_draw [⟨some b_1, 42, [(.int .i16 f0.fSteps), (.slice f0_fHammers_a f0.fHammers.length f0_fHammers_c)]⟩, ⟨(some b_2), 89, row encU32 ((Arr.rep 96 0).1) []⟩, ⟨(some b_3), 89, row encU32 a_3.1 []⟩, ⟨some b_607, 99, [(.bool x_7.fAway), (.int .i8 x_7.fLate), (.int .i8 x_7.fOctave), (.int .i8 x_7.fTrack)]⟩] 19 (by kernel_rfl) (by kernel_rfl) ?_
        refine jd_f [⟨0, 0, 0⟩, ⟨1, 0, 0⟩, ⟨2, 0, 0⟩, ⟨6, 3, 0⟩] 15 (by kernel_rfl) (by kernel_rfl) (fun w h => h.pick [0, 1, 2, 3] (by kernel_rfl) (by kernel_rfl)) (by kernel_rfl) (by kernel_rfl) ?_
        obtain ⟨x_12, hx_647, h⟩ := bd h
        refine jd_v 3 0 (by kernel_rfl) (fun w h => h.pick [0, 1, 2, 3] (by kernel_rfl) (by kernel_rfl)) (by kernel_rfl) (by kernel_rfl) _ (fun w hm => idx_run (a := t1_a) (len := t1.length) (s := 2) (j := i_4) (by kernel_rfl) (ix_some hx_647).1 (ltn hx_647 rfl) (t1_h.sp hx_647)) ?_
        refine jd_v 4 0 (by kernel_rfl) (fun w h => h.pick [0, 1, 2, 3] (by kernel_rfl) (by kernel_rfl)) (by kernel_rfl) (by kernel_rfl) _ (fun w hm => ld_run (b := aB t1_a) (off := (aO t1_a + i_4.toNat * 2)) (s := 2) (agg := true) (vs := (encGNote x_12)) (by kernel_rfl) (by kernel_rfl) (.inl rfl) ((hm.exRow t1_h List.not_mem_nil).at hx_647)) ?_
        obtain ⟨t_13, ht_648, h⟩ := bd h
        refine toD 5 (by kernel_rfl) (p_call 0 143 #[(.agg #[(.int .i16 f0.fSteps), (.slice f0_fHammers_a f0.fHammers.length f0_fHammers_c)]), (.agg #[(.int .i16 x_12.fAt), (.int .i8 x_12.fPitch)])] (by kernel_rfl) (by kernel_rfl) (fun w hm => impl_Frame_choices.calls f0 x_12 w _ f0_fHammers_a f0.fHammers.length f0_fHammers_c (hm.exRow f0_fHammers_h List.not_mem_nil) rfl ht_648) ?_)
        rintro w v w' hm ⟨o_649, cap_650, sp_651, _, rfl, hs_652, ho_653, rfl, hm'⟩
        refine ⟨_, hm.app hm', jkD (fun w h => h.pick [0, 1, 2, 3] (by kernel_rfl) (by kernel_rfl)) ?_⟩
        clear hm hm'
        obtain ⟨t_14, ht_654, h⟩ := bd h
        refine toD 7 (by kernel_rfl) (p_call 0 142 #[(.slice (o_649.map fun b => ⟨b, 0, none⟩) t_13.length cap_650), (.agg #[(.bool x_7.fAway), (.int .i8 x_7.fLate), (.int .i8 x_7.fOctave), (.int .i8 x_7.fTrack)])] (by kernel_rfl) (by kernel_rfl) (fun w hm => slices_Contains_Choice.calls t_13 x_7 w _ (o_649.map fun b => ⟨b, 0, none⟩) t_13.length cap_650 (hm.ownRow (hh := 4) (o := o_649) (T := 99) (enc := encGChoice) (xs := t_13) (sp := sp_651) (by kernel_rfl) (fun e => (ho_653 e).1) encGChoice_len) rfl ht_654) ?_)
        rintro w v w' hm ⟨rfl, hm'⟩
        refine ⟨_, hm.app hm', jkD (fun w h => h.pick [0, 1, 2, 3] (by kernel_rfl) (by kernel_rfl)) ?_⟩
        clear hm hm'
        refine jd_f [⟨8, 0, 0⟩, ⟨9, 0, 0⟩, ⟨10, 0, 1⟩, ⟨11, 0, 1⟩, ⟨12, 0, 1⟩, ⟨15, 3, 1⟩] 5 (by kernel_rfl) (by kernel_rfl) (fun w h => h.pick [0, 1, 2, 3] (by kernel_rfl) (by kernel_rfl)) (by kernel_rfl) (by kernel_rfl) ?_
        refine jd_split 28 (!t_14) (by kernel_rfl) (fun hc_655 => ?_) (fun hc_655 => ?_)
        · replace h := ifT hc_655 h
          refine jd_f [⟨13, 0, 3⟩, ⟨14, 0, 3⟩, ⟨16, 0, 3⟩, ⟨17, 0, 3⟩, ⟨18, 0, 4⟩] 0 (by kernel_rfl) (by kernel_rfl) (fun w h => h.pick [0, 1, 2, 3] (by kernel_rfl) (by kernel_rfl)) (by kernel_rfl) (by kernel_rfl) ?_
          refine jd_end (by kernel_rfl) ?_
          exact jx_meet true h (by kernel_rfl) [0, 1, 2, 3] (by kernel_rfl) (by kernel_rfl)
        · replace h := ifF hc_655 h
          obtain ⟨x_15, hx_656, h⟩ := bd h
          refine jd_v 13 2 (by kernel_rfl) (fun w h => h.pick [0, 1, 2, 3] (by kernel_rfl) (by kernel_rfl)) (by kernel_rfl) (by kernel_rfl) _ (fun w hm => idx_run (a := t1_a) (len := t1.length) (s := 2) (j := i_4) (by kernel_rfl) (ix_some hx_656).1 (ltn hx_656 rfl) (t1_h.sp hx_656)) ?_
          refine jd_v 14 2 (by kernel_rfl) (fun w h => h.pick [0, 1, 2, 3] (by kernel_rfl) (by kernel_rfl)) (by kernel_rfl) (by kernel_rfl) _ (fun w hm => ld_run (b := aB t1_a) (off := (aO t1_a + i_4.toNat * 2)) (s := 2) (agg := true) (vs := (encGNote x_15)) (by kernel_rfl) (by kernel_rfl) (.inl rfl) ((hm.exRow t1_h List.not_mem_nil).at hx_656)) ?_
          obtain ⟨t_16, ht_657, h⟩ := bd h
          refine toD 16 (by kernel_rfl) (p_call 2 144 #[(.agg #[(.int .i16 f0.fSteps), (.slice f0_fHammers_a f0.fHammers.length f0_fHammers_c)]), (.pointer (some ⟨b_3, 0, none⟩)), (.agg #[(.int .i16 x_15.fAt), (.int .i8 x_15.fPitch)]), (.agg #[(.bool x_7.fAway), (.int .i8 x_7.fLate), (.int .i8 x_7.fOctave), (.int .i8 x_7.fTrack)])] (by kernel_rfl) (by kernel_rfl) (fun w hm => impl_Frame_canPut.calls f0 a_3 x_15 x_7 w _ f0_fHammers_a f0.fHammers.length f0_fHammers_c (hm.exRow f0_fHammers_h List.not_mem_nil) rfl b_3 (hm.pass (N := [⟨(some b_3), 89, row encU32 a_3.1 []⟩]) [2] (by kernel_rfl) (by kernel_rfl)) (hm.exApart (N := [⟨(some b_3), 89, row encU32 a_3.1 []⟩]) f0_fHammers_h (fun _ => List.not_mem_nil) [2] (by kernel_rfl)) ht_657) ?_)
          rintro w v w' hm ⟨rfl, hm'⟩
          refine ⟨_, hm.appW (ps := [(2, ⟨(some b_3), 89, row encU32 a_3.1 []⟩)]) (N := []) hm' (by kernel_rfl) (by kernel_rfl), jkD (fun w h => h.pick [0, 1, 2, 3] (by kernel_rfl) (by kernel_rfl)) ?_⟩
          clear hm hm'
          refine jd_f [⟨17, 0, 2⟩, ⟨18, 0, 5⟩] 0 (by kernel_rfl) (by kernel_rfl) (fun w h => h.pick [0, 1, 2, 3] (by kernel_rfl) (by kernel_rfl)) (by kernel_rfl) (by kernel_rfl) ?_
          refine jd_end (by kernel_rfl) ?_
          exact jx_meet (!t_16) h (by kernel_rfl) [0, 1, 2, 3] (by kernel_rfl) (by kernel_rfl)
      · rintro q_8 h
        replace h : impl_Frame_fit.k_9 t1 a_3 i_4 x_7 q_8 = some y_603 := h
        rw [impl_Frame_fit.k_9] at h
        refine jx_then ?_
        refine jc_cond q_8 (by kernel_rfl) (fun hc_642 => ?_) (fun hc_642 => ?_)
        · replace h := ifT hc_642 h
          refine jc_seq ?_
          refine jc_region ?_
          refine jo_f [(0, 0), (0, 0)] (by kernel_rfl) ?_
          refine toO (by kernel_rfl) (p_sA 0 1 b_2 96 1 89 encU32 (Arr.rep 96 0) (Arr.rep 96 0) (by kernel_rfl) (by kernel_rfl) (by kernel_rfl) encU32_len encU32_cell (by kernel_rfl) (jkO ?_))
          refine jo_f [(0, 0)] (by kernel_rfl) ?_
          refine jo_end (by kernel_rfl) ?_
          refine jx_then ?_
          refine jc_ret ?_
          refine jx_thenr ?_
          refine jx_inr ?_
          refine jx_thenr ?_
          refine jx_leaver (.inl ((Arr.rep 96 0), i_4)) (Option.some.inj h).symm (fun e_643 => ?_)
          subst e_643
          refine jx_inr ?_
          refine jx_thenr ?_
          refine jx_thenr ?_
          obtain rfl := Option.some.inj hr_602
          exact jx_retV rfl (rq_arr (b := b_2) (T' := 89) (hh := 1) (mm := 1) encU32 (Arr.rep 96 0) (by kernel_rfl) (by kernel_rfl) encU32_len (by kernel_rfl) (rq_tmp (by kernel_rfl) rq_nil)) (fun w hm => ⟨rfl, hm.pick [] (by kernel_rfl) (by kernel_rfl)⟩)
        · replace h := ifF hc_642 h
          refine jc_skip ?_
          refine jx_then ?_
          refine jc_draw [⟨some b_1, 42, [(.int .i16 f0.fSteps), (.slice f0_fHammers_a f0.fHammers.length f0_fHammers_c)]⟩, ⟨(some b_2), 89, row encU32 ((Arr.rep 96 0).1) []⟩, ⟨some b_607, 99, [(.bool x_7.fAway), (.int .i8 x_7.fLate), (.int .i8 x_7.fOctave), (.int .i8 x_7.fTrack)]⟩] 6 (by kernel_rfl) (by kernel_rfl) ?_
          refine jd_f [⟨0, 0, 0⟩, ⟨1, 0, 0⟩, ⟨4, 2, 0⟩] 3 (by kernel_rfl) (by kernel_rfl) (fun w h => h.pick [0, 1, 3] (by kernel_rfl) (by kernel_rfl)) (by kernel_rfl) (by kernel_rfl) ?_
          obtain ⟨x_10, hx_645, h⟩ := bd h
          refine jd_v 2 0 (by kernel_rfl) (fun w h => h.pick [0, 1, 3] (by kernel_rfl) (by kernel_rfl)) (by kernel_rfl) (by kernel_rfl) _ (fun w hm => idx_run (a := t1_a) (len := t1.length) (s := 2) (j := i_4) (by kernel_rfl) (ix_some hx_645).1 (ltn hx_645 rfl) (t1_h.sp hx_645)) ?_
          refine jd_v 3 0 (by kernel_rfl) (fun w h => h.pick [0, 1, 3] (by kernel_rfl) (by kernel_rfl)) (by kernel_rfl) (by kernel_rfl) _ (fun w hm => ld_run (b := aB t1_a) (off := (aO t1_a + i_4.toNat * 2)) (s := 2) (agg := true) (vs := (encGNote x_10)) (by kernel_rfl) (by kernel_rfl) (.inl rfl) ((hm.exRow t1_h List.not_mem_nil).at hx_645)) ?_
          obtain ⟨t_11, ht_646, h⟩ := bd h
          refine toD 5 (by kernel_rfl) (p_call 0 145 #[(.pointer (some ⟨b_3, 0, none⟩)), (.agg #[(.int .i16 x_10.fAt), (.int .i8 x_10.fPitch)]), (.agg #[(.bool x_7.fAway), (.int .i8 x_7.fLate), (.int .i8 x_7.fOctave), (.int .i8 x_7.fTrack)])] (by kernel_rfl) (by kernel_rfl) (fun w hm => impl_Drum_puts.calls a_3 x_10 x_7 w _ b_3 (hm.pass (N := [⟨(some b_3), 89, row encU32 a_3.1 []⟩]) [2] (by kernel_rfl) (by kernel_rfl)) ht_646) ?_)
          rintro w v w' hm ⟨rfl, hm'⟩
          refine ⟨_, hm.appW (ps := [(2, ⟨(some b_3), 89, row encU32 t_11.1 []⟩)]) (N := []) hm' (by kernel_rfl) (by kernel_rfl), jkD (fun w h => h.pick [0, 1, 3] (by kernel_rfl) (by kernel_rfl)) ?_⟩
          clear hm hm'
          refine jd_end (by kernel_rfl) ?_
          refine jx_inn ?_
          refine jx_then ?_
          refine jc_region ?_
          refine jo_f [(0, 0), (0, 0)] (by kernel_rfl) ?_
          refine jo_end (by kernel_rfl) ?_
          exact jx_back (t_11, (w64 (i_4 + 1))) () (Option.some.inj h).symm trivial [0, 1, 2] (by kernel_rfl) (by kernel_rfl) (by kernel_rfl)
    · replace h := ifF hc_605 h
      refine jc_exit ?_
      refine jx_thenx ?_
      refine jx_leave (.inr a_3) (Option.some.inj h).symm (fun e_658 => ?_)
      subst e_658
      refine jx_ine ?_
      exact jx_meet a_3 hr_602 (by kernel_rfl) [0, 1, 2] (by kernel_rfl) (by kernel_rfl)
  · rintro a_1 h
    replace h : impl_Frame_fit.k_2 list2 a_1 = some r := h
    rw [impl_Frame_fit.k_2] at h
    refine jx_then ?_
    refine jc_seq ?_
    refine jc_region ?_
    refine toO (by kernel_rfl) (p_ldA 0 2 b_3 96 1 89 encU32 a_1 (by kernel_rfl) (by kernel_rfl) (by kernel_rfl) encU32_len (by kernel_rfl) (jkO ?_))
    refine jo_f [(0, 0), (0, 0)] (by kernel_rfl) ?_
    refine toO (by kernel_rfl) (p_sA 0 1 b_2 96 1 89 encU32 (Arr.rep 96 0) a_1 (by kernel_rfl) (by kernel_rfl) (by kernel_rfl) encU32_len encU32_cell (by kernel_rfl) (jkO ?_))
    refine jo_f [(0, 0)] (by kernel_rfl) ?_
    refine jo_end (by kernel_rfl) ?_
    refine jx_then ?_
    refine jc_ret ?_
    obtain rfl := Option.some.inj h
    exact jx_retV rfl (rq_arr (b := b_2) (T' := 89) (hh := 1) (mm := 1) encU32 a_1 (by kernel_rfl) (by kernel_rfl) encU32_len (by kernel_rfl) (rq_tmp (by kernel_rfl) rq_nil)) (fun w hm => ⟨rfl, hm.pick [] (by kernel_rfl) (by kernel_rfl)⟩)

/-! ### impl.fitted -/
noncomputable def impl_fitted (f0 : GFrame) (t1 : List GNote) (list2 : List GChoice) : Option ((Arr 96 Int) × Int × Int) := (impl_tuneFrameCode f0 t1 list2).bind fun t_1 => (impl_unless ((list2.length : Int) == (t1.length : Int)) 2).bind fun t_2 => (impl_firstOf [t_1, t_2]).bind fun t_3 => (if (t_3 != 0) = true then some ((Arr.rep 96 0), 0, t_3) else (impl_Frame_fit f0 t1 list2).bind fun t_4 => (impl_unless (t_4.2 == (t1.length : Int)) 4).bind fun t_5 => some (t_4.1, t_4.2, t_5))
set_option maxRecDepth 100000 in
theorem impl_fitted.calls (f0 : GFrame) (t1 : List GNote) (list2 : List GChoice) (w : World) (r : (Arr 96 Int) × Int × Int) (f0_fHammers_a : Option Addr) (f0_fHammers_an : Nat) (f0_fHammers_c : Nat) (f0_fHammers_h : Rw w f0_fHammers_a 2 encGHammer f0.fHammers) (f0_fHammers_hn : f0.fHammers.length = f0_fHammers_an) (t1_a : Option Addr) (t1_an : Nat) (t1_c : Nat) (t1_h : Rw w t1_a 2 encGNote t1) (t1_hn : t1.length = t1_an) (list2_a : Option Addr) (list2_an : Nat) (list2_c : Nat) (list2_h : Rw w list2_a 4 encGChoice list2) (list2_hn : list2.length = list2_an) (h : impl_fitted f0 t1 list2 = some r) :
    Calls Tryz.prog 91 #[(.agg #[(.int .i16 f0.fSteps), (.slice f0_fHammers_a f0_fHammers_an f0_fHammers_c)]), (.slice t1_a t1_an t1_c), (.slice list2_a list2_an list2_c)] w fun e w' => ∃ v, e = .returned v ∧ (v = .tuple #[(.agg (row encU32 r.1.1 []).toArray), (.int .i64 r.2.1), (.int .i64 r.2.2)] ∧ Mem w [] [] w') := by
  subst f0_fHammers_hn t1_hn list2_hn
  rw [impl_fitted] at h
  refine enter (args := [(.agg #[(.int .i16 f0.fSteps), (.slice f0_fHammers_a f0.fHammers.length f0_fHammers_c)]), (.slice t1_a t1.length t1_c), (.slice list2_a list2.length list2_c)]) Tryz.func91 rfl Tryz.ntmps91 (by kernel_rfl) (L := []) (W := []) (Mem.start w) ?_
  refine jc_seq ?_
  refine jc_region ?_
  refine toO (by kernel_rfl) (p_a 0 [0] (by kernel_rfl) (fun b => by kernel_rfl) (fun b_1 => jkO ?_))
  refine toO (by kernel_rfl) (p_a 0 [0] (by kernel_rfl) (fun b => by kernel_rfl) (fun b_2 => jkO ?_))
  refine jo_f [(0, 0), (0, 0)] (by kernel_rfl) ?_
  refine jo_end (by kernel_rfl) ?_
  refine jx_then ?_
  refine jc_seq ?_
  refine jc_seq ?_
  refine jc_region ?_
  refine jo_f [(0, 0), (0, 0), (0, 0)] (by kernel_rfl) ?_
  obtain ⟨t_1, ht_8, h⟩ := bd h
  refine toO (by kernel_rfl) (p_call 0 119 #[(.agg #[(.int .i16 f0.fSteps), (.slice f0_fHammers_a f0.fHammers.length f0_fHammers_c)]), (.slice t1_a t1.length t1_c), (.slice list2_a list2.length list2_c)] (by kernel_rfl) (by kernel_rfl) (fun w hm => impl_tuneFrameCode.calls f0 t1 list2 w _ f0_fHammers_a f0.fHammers.length f0_fHammers_c (hm.exRow f0_fHammers_h List.not_mem_nil) rfl t1_a t1.length t1_c (hm.exRow t1_h List.not_mem_nil) rfl list2_a list2.length list2_c (hm.exRow list2_h List.not_mem_nil) rfl ht_8) ?_)
  rintro w v w' hm ⟨rfl, hm'⟩
  refine ⟨_, hm.app hm', jkO ?_⟩
  clear hm hm'
  refine jo_f [(0, 0), (0, 0), (0, 0), (0, 0), (0, 0)] (by kernel_rfl) ?_
  obtain ⟨t_2, ht_9, h⟩ := bd h
  refine toO (by kernel_rfl) (p_call 0 72 #[(.bool ((list2.length : Int) == (t1.length : Int))), (.int .i64 2)] (by kernel_rfl) (by kernel_rfl) (fun w hm => impl_unless.calls ((list2.length : Int) == (t1.length : Int)) 2 w _ ht_9) ?_)
  rintro w v w' hm ⟨rfl, hm'⟩
  refine ⟨_, hm.app hm', jkO ?_⟩
  clear hm hm'
  refine toO (by kernel_rfl) (p_a 0 [0] (by kernel_rfl) (fun b => by kernel_rfl) (fun b_10 => jkO ?_))
  obtain ⟨t_3, ht_11, h⟩ := bd h
  refine toO (by kernel_rfl) (p_call 0 43 #[(.slice (some ⟨b_10, 0, none⟩) 2 2)] (by kernel_rfl) (by kernel_rfl) (fun w hm => impl_firstOf.calls [t_1, t_2] w _ (some ⟨b_10, 0, none⟩) 2 2 (hm.ownRow (hh := 2) (o := (some b_10)) (T := 2) (enc := encI64) (xs := [t_1, t_2]) (sp := []) (by kernel_rfl) (fun e => nomatch e) encI64_len) rfl ht_11) ?_)
  rintro w v w' hm ⟨rfl, hm'⟩
  refine ⟨_, hm.app hm', jkO ?_⟩
  clear hm hm'
  refine jo_f [(0, 0)] (by kernel_rfl) ?_
  refine jo_end (by kernel_rfl) ?_
  refine jx_then ?_
  refine jc_seq ?_
  refine jc_region ?_
  refine jo_f [(0, 0), (0, 0)] (by kernel_rfl) ?_
  refine jo_end (by kernel_rfl) ?_
  refine jx_then ?_
  refine jc_cond (t_3 != 0) (by kernel_rfl) (fun hc_12 => ?_) (fun hc_12 => ?_)
  · replace h := ifT hc_12 h
    refine jc_seq ?_
    refine jc_region ?_
    refine jo_f [(0, 0), (0, 0)] (by kernel_rfl) ?_
    refine toO (by kernel_rfl) (p_sA 0 1 b_2 96 1 89 encU32 (Arr.rep 96 0) (Arr.rep 96 0) (by kernel_rfl) (by kernel_rfl) (by kernel_rfl) encU32_len encU32_cell (by kernel_rfl) (jkO ?_))
    refine jo_f [(0, 0), (0, 0)] (by kernel_rfl) ?_
    refine jo_end (by kernel_rfl) ?_
    refine jx_then ?_
    refine jc_ret ?_
    refine jx_thenr ?_
    obtain rfl := Option.some.inj h
    exact jx_retV rfl (rq_arr (b := b_2) (T' := 89) (hh := 1) (mm := 1) encU32 (Arr.rep 96 0) (by kernel_rfl) (by kernel_rfl) encU32_len (by kernel_rfl) (rq_tmp (by kernel_rfl) (rq_tmp (by kernel_rfl) rq_nil))) (fun w hm => ⟨rfl, hm.pick [] (by kernel_rfl) (by kernel_rfl)⟩)
  · replace h := ifF hc_12 h
    refine jc_skip ?_
    refine jx_then ?_
    refine jc_seq ?_
    refine jc_region ?_
    refine jo_f [(0, 0), (0, 0), (0, 0)] (by kernel_rfl) ?_
    obtain ⟨t_4, ht_13, h⟩ := bd h
    refine toO (by kernel_rfl) (p_call 0 120 #[(.agg #[(.int .i16 f0.fSteps), (.slice f0_fHammers_a f0.fHammers.length f0_fHammers_c)]), (.slice t1_a t1.length t1_c), (.slice list2_a list2.length list2_c)] (by kernel_rfl) (by kernel_rfl) (fun w hm => impl_Frame_fit.calls f0 t1 list2 w _ f0_fHammers_a f0.fHammers.length f0_fHammers_c (hm.exRow f0_fHammers_h List.not_mem_nil) rfl t1_a t1.length t1_c (hm.exRow t1_h List.not_mem_nil) rfl list2_a list2.length list2_c (hm.exRow list2_h List.not_mem_nil) rfl ht_13) ?_)
    rintro w v w' hm ⟨rfl, hm'⟩
    refine ⟨_, hm.app hm', jkO ?_⟩
    clear hm hm'
    refine jo_f [(0, 0), (0, 0), (0, 0)] (by kernel_rfl) ?_
    refine toO (by kernel_rfl) (p_a 0 [0] (by kernel_rfl) (fun b => by kernel_rfl) (fun b_14 => jkO ?_))
    refine toO (by kernel_rfl) (p_sA 0 3 b_14 96 1 89 encU32 (Arr.rep 96 0) t_4.1 (by kernel_rfl) (by kernel_rfl) (by kernel_rfl) encU32_len encU32_cell (by kernel_rfl) (jkO ?_))
    refine jo_f [(0, 0)] (by kernel_rfl) ?_
    refine jo_end (by kernel_rfl) ?_
    refine jx_then ?_
    refine jc_seq ?_
    refine jc_draw [⟨some b_1, 42, [(.int .i16 f0.fSteps), (.slice f0_fHammers_a f0.fHammers.length f0_fHammers_c)]⟩, ⟨(some b_10), 2, row encI64 [t_1, t_2] []⟩, ⟨(some b_14), 89, row encU32 t_4.1.1 []⟩] 10 (by kernel_rfl) (by kernel_rfl) ?_
    refine jd_f [⟨1, 0, 0⟩, ⟨2, 0, 0⟩, ⟨3, 0, 0⟩, ⟨4, 0, 0⟩, ⟨5, 0, 0⟩] 5 (by kernel_rfl) (by kernel_rfl) (fun w h => h.pick [0, 2, 3] (by kernel_rfl) (by kernel_rfl)) (by kernel_rfl) (by kernel_rfl) ?_
    refine jd_v 0 0 (by kernel_rfl) (fun w h => h.pick [0, 2, 3] (by kernel_rfl) (by kernel_rfl)) (by kernel_rfl) (by kernel_rfl) _ (fun w hm => ld_run (b := b_14) (off := 0) (s := 96) (agg := true) (vs := row encU32 t_4.1.1 []) (by kernel_rfl) ((row_len encU32_len t_4.1).trans rfl) (.inl rfl) (hm.all (hh := 2) (T := 89) (by kernel_rfl))) ?_
    obtain ⟨t_5, ht_16, h⟩ := bd h
    refine toD 6 (by kernel_rfl) (p_call 0 72 #[(.bool (t_4.2 == (t1.length : Int))), (.int .i64 4)] (by kernel_rfl) (by kernel_rfl) (fun w hm => impl_unless.calls (t_4.2 == (t1.length : Int)) 4 w _ ht_16) ?_)
    rintro w v w' hm ⟨rfl, hm'⟩
    refine ⟨_, hm.app hm', jkD (fun w h => h.pick [0, 2, 3] (by kernel_rfl) (by kernel_rfl)) ?_⟩
    clear hm hm'
    refine toD 7 (by kernel_rfl) (p_sA 0 1 b_2 96 1 89 encU32 (Arr.rep 96 0) t_4.1 (by kernel_rfl) (by kernel_rfl) (by kernel_rfl) encU32_len encU32_cell (by kernel_rfl) (jkD (fun w h => h.pick [0, 2, 3] (by kernel_rfl) (by kernel_rfl)) ?_))
    refine jd_f [⟨8, 0, 0⟩, ⟨9, 0, 0⟩] 0 (by kernel_rfl) (by kernel_rfl) (fun w h => h.pick [0, 2, 3] (by kernel_rfl) (by kernel_rfl)) (by kernel_rfl) (by kernel_rfl) ?_
    refine jd_end (by kernel_rfl) ?_
    refine jx_then ?_
    refine jc_ret ?_
    obtain rfl := Option.some.inj h
    exact jx_retV rfl (rq_arr (b := b_2) (T' := 89) (hh := 1) (mm := 1) encU32 t_4.1 (by kernel_rfl) (by kernel_rfl) encU32_len (by kernel_rfl) (rq_tmp (by kernel_rfl) (rq_tmp (by kernel_rfl) rq_nil))) (fun w hm => ⟨rfl, hm.pick [] (by kernel_rfl) (by kernel_rfl)⟩)

/-! ### impl.DrumFor -/
noncomputable def impl_DrumFor (f0 : GFrame) (t1 : List GNote) (list2 : List GChoice) : Option ((Arr 96 Int) × Int) := (impl_fitted f0 t1 list2).bind fun t_1 => (if (t_1.2.2 != 0) = true then some ((Arr.rep 96 0), t_1.2.2) else some (t_1.1, 0))
set_option maxRecDepth 100000 in
theorem impl_DrumFor.calls (f0 : GFrame) (t1 : List GNote) (list2 : List GChoice) (w : World) (r : (Arr 96 Int) × Int) (f0_fHammers_a : Option Addr) (f0_fHammers_an : Nat) (f0_fHammers_c : Nat) (f0_fHammers_h : Rw w f0_fHammers_a 2 encGHammer f0.fHammers) (f0_fHammers_hn : f0.fHammers.length = f0_fHammers_an) (t1_a : Option Addr) (t1_an : Nat) (t1_c : Nat) (t1_h : Rw w t1_a 2 encGNote t1) (t1_hn : t1.length = t1_an) (list2_a : Option Addr) (list2_an : Nat) (list2_c : Nat) (list2_h : Rw w list2_a 4 encGChoice list2) (list2_hn : list2.length = list2_an) (h : impl_DrumFor f0 t1 list2 = some r) :
    Calls Tryz.prog 57 #[(.agg #[(.int .i16 f0.fSteps), (.slice f0_fHammers_a f0_fHammers_an f0_fHammers_c)]), (.slice t1_a t1_an t1_c), (.slice list2_a list2_an list2_c)] w fun e w' => ∃ v, e = .returned v ∧ (v = .tuple #[(.agg (row encU32 r.1.1 []).toArray), (.int .i64 r.2)] ∧ Mem w [] [] w') := by
  subst f0_fHammers_hn t1_hn list2_hn
  rw [impl_DrumFor] at h
  refine enter (args := [(.agg #[(.int .i16 f0.fSteps), (.slice f0_fHammers_a f0.fHammers.length f0_fHammers_c)]), (.slice t1_a t1.length t1_c), (.slice list2_a list2.length list2_c)]) Tryz.func57 rfl Tryz.ntmps57 (by kernel_rfl) (L := []) (W := []) (Mem.start w) ?_
  refine jc_seq ?_
  refine jc_region ?_
  refine toO (by kernel_rfl) (p_a 0 [0] (by kernel_rfl) (fun b => by kernel_rfl) (fun b_1 => jkO ?_))
  refine toO (by kernel_rfl) (p_a 0 [0] (by kernel_rfl) (fun b => by kernel_rfl) (fun b_2 => jkO ?_))
  refine jo_f [(0, 0)] (by kernel_rfl) ?_
  refine jo_end (by kernel_rfl) ?_
  refine jx_then ?_
  refine jc_seq ?_
  refine jc_region ?_
  refine jo_f [(0, 0), (0, 0), (0, 0)] (by kernel_rfl) ?_
  obtain ⟨t_1, ht_3, h⟩ := bd h
  refine toO (by kernel_rfl) (p_call 0 91 #[(.agg #[(.int .i16 f0.fSteps), (.slice f0_fHammers_a f0.fHammers.length f0_fHammers_c)]), (.slice t1_a t1.length t1_c), (.slice list2_a list2.length list2_c)] (by kernel_rfl) (by kernel_rfl) (fun w hm => impl_fitted.calls f0 t1 list2 w _ f0_fHammers_a f0.fHammers.length f0_fHammers_c (hm.exRow f0_fHammers_h List.not_mem_nil) rfl t1_a t1.length t1_c (hm.exRow t1_h List.not_mem_nil) rfl list2_a list2.length list2_c (hm.exRow list2_h List.not_mem_nil) rfl ht_3) ?_)
  rintro w v w' hm ⟨rfl, hm'⟩
  refine ⟨_, hm.app hm', jkO ?_⟩
  clear hm hm'
  refine jo_f [(0, 0), (0, 0), (0, 0), (0, 0)] (by kernel_rfl) ?_
  refine toO (by kernel_rfl) (p_a 0 [0] (by kernel_rfl) (fun b => by kernel_rfl) (fun b_4 => jkO ?_))
  refine toO (by kernel_rfl) (p_sA 0 2 b_4 96 1 89 encU32 (Arr.rep 96 0) t_1.1 (by kernel_rfl) (by kernel_rfl) (by kernel_rfl) encU32_len encU32_cell (by kernel_rfl) (jkO ?_))
  refine jo_f [(0, 0), (0, 0)] (by kernel_rfl) ?_
  refine jo_end (by kernel_rfl) ?_
  refine jx_then ?_
  refine jc_seq ?_
  refine jc_seq ?_
  refine jc_region ?_
  refine jo_f [(0, 0), (0, 0)] (by kernel_rfl) ?_
  refine jo_end (by kernel_rfl) ?_
  refine jx_then ?_
  refine jc_cond (t_1.2.2 != 0) (by kernel_rfl) (fun hc_6 => ?_) (fun hc_6 => ?_)
  · replace h := ifT hc_6 h
    refine jc_seq ?_
    refine jc_region ?_
    refine jo_f [(0, 0), (0, 0)] (by kernel_rfl) ?_
    refine toO (by kernel_rfl) (p_sA 0 1 b_2 96 1 89 encU32 (Arr.rep 96 0) (Arr.rep 96 0) (by kernel_rfl) (by kernel_rfl) (by kernel_rfl) encU32_len encU32_cell (by kernel_rfl) (jkO ?_))
    refine jo_f [(0, 0)] (by kernel_rfl) ?_
    refine jo_end (by kernel_rfl) ?_
    refine jx_then ?_
    refine jc_ret ?_
    refine jx_thenr ?_
    obtain rfl := Option.some.inj h
    exact jx_retV rfl (rq_arr (b := b_2) (T' := 89) (hh := 1) (mm := 1) encU32 (Arr.rep 96 0) (by kernel_rfl) (by kernel_rfl) encU32_len (by kernel_rfl) (rq_tmp (by kernel_rfl) rq_nil)) (fun w hm => ⟨rfl, hm.pick [] (by kernel_rfl) (by kernel_rfl)⟩)
  · replace h := ifF hc_6 h
    refine jc_skip ?_
    refine jx_then ?_
    refine jc_seq ?_
    refine jc_region ?_
    refine toO (by kernel_rfl) (p_ldA 0 2 b_4 96 1 89 encU32 t_1.1 (by kernel_rfl) (by kernel_rfl) (by kernel_rfl) encU32_len (by kernel_rfl) (jkO ?_))
    refine toO (by kernel_rfl) (p_sA 0 1 b_2 96 1 89 encU32 (Arr.rep 96 0) t_1.1 (by kernel_rfl) (by kernel_rfl) (by kernel_rfl) encU32_len encU32_cell (by kernel_rfl) (jkO ?_))
    refine jo_f [(0, 0)] (by kernel_rfl) ?_
    refine jo_end (by kernel_rfl) ?_
    refine jx_then ?_
    refine jc_ret ?_
    obtain rfl := Option.some.inj h
    exact jx_retV rfl (rq_arr (b := b_2) (T' := 89) (hh := 1) (mm := 1) encU32 t_1.1 (by kernel_rfl) (by kernel_rfl) encU32_len (by kernel_rfl) (rq_tmp (by kernel_rfl) rq_nil)) (fun w hm => ⟨rfl, hm.pick [] (by kernel_rfl) (by kernel_rfl)⟩)

/-! ### (impl.Frame).played$1 -/
noncomputable def impl_Frame_played_1 (step0 : Int) (track1 : Int) (p2 : Int) (p3 : Int) (p4 : List GNote) (p5 : GFrame) : Option ((List GNote)) := (impl_within step0 p2 (w64 ((w64 (p2 + p3)) - 1))).bind fun t_1 => (if t_1 = true then (ix p5.fHammers track1).bind fun x_2 => (if p4.length + [(⟨(w16 (w64 (step0 - p2))), x_2.fPitch⟩ : GNote)].length ≤ 4294967296 then some (p4 ++ [(⟨(w16 (w64 (step0 - p2))), x_2.fPitch⟩ : GNote)]) else none) else some p4)
set_option maxRecDepth 100000 in
theorem impl_Frame_played_1.calls (step0 : Int) (track1 : Int) (p2 : Int) (p3 : Int) (p4 : List GNote) (p5 : GFrame) (w : World) (r : (List GNote)) (p5_fHammers_a : Option Addr) (p5_fHammers_an : Nat) (p5_fHammers_c : Nat) (p5_fHammers_h : Rw w p5_fHammers_a 2 encGHammer p5.fHammers) (p5_fHammers_hn : p5.fHammers.length = p5_fHammers_an) (p2_b : Nat) (p3_b : Nat) (p4_b : Nat) (p4_o : Option Nat) (p4_on : Nat) (p4_c : Nat) (p4_sp : List Value) (p4_hn : p4.length = p4_on) (p4_hs : p4_o ≠ none → p4_on ≤ p4_c ∧ p4_sp.length = (p4_c - p4_on) * 2) (p4_ho : p4_o = none → p4 = [] ∧ p4_c = 0) (p5_b : Nat) (hm0 : Mem w (bs [some p2_b, some p3_b, some p4_b, p4_o, some p5_b]) [⟨some p2_b, 2, [(.int .i64 p2)]⟩, ⟨some p3_b, 2, [(.int .i64 p3)]⟩, ⟨some p4_b, 56, [(.slice (p4_o.map fun b => ⟨b, 0, none⟩) p4_on p4_c)]⟩, ⟨p4_o, 95, row encGNote p4 p4_sp⟩, ⟨some p5_b, 42, [(.int .i16 p5.fSteps), (.slice p5_fHammers_a p5_fHammers_an p5_fHammers_c)]⟩] w) (p5_fHammers_ha : p5.fHammers ≠ [] → aB p5_fHammers_a ∉ bs [some p2_b, some p3_b, some p4_b, p4_o, some p5_b]) (h : impl_Frame_played_1 step0 track1 p2 p3 p4 p5 = some r) :
    Calls Tryz.prog 93 #[(.int .i64 step0), (.int .i64 track1), (.pointer (some ⟨p2_b, 0, none⟩)), (.pointer (some ⟨p3_b, 0, none⟩)), (.pointer (some ⟨p4_b, 0, none⟩)), (.pointer (some ⟨p5_b, 0, none⟩))] w fun e w' => ∃ v, e = .returned v ∧ (∃ (mo0 : Option Nat) (mc0 : Nat) (ms0 : List Value) (mn0 : Nat), r.length = mn0 ∧ (mo0 ≠ none → mn0 ≤ mc0 ∧ ms0.length = (mc0 - mn0) * 2) ∧ (mo0 = none → r = [] ∧ mc0 = 0) ∧ v = .tuple #[] ∧ Mem w (bs [some p2_b, some p3_b, some p4_b, p4_o, some p5_b]) [⟨some p2_b, 2, [(.int .i64 p2)]⟩, ⟨some p3_b, 2, [(.int .i64 p3)]⟩, ⟨some p4_b, 56, [(.slice (mo0.map fun b => ⟨b, 0, none⟩) mn0 mc0)]⟩, ⟨some p5_b, 42, [(.int .i16 p5.fSteps), (.slice p5_fHammers_a p5_fHammers_an p5_fHammers_c)]⟩, ⟨mo0, 95, row encGNote r ms0⟩] w') := by
  subst p5_fHammers_hn p4_hn
  rw [impl_Frame_played_1] at h
  refine enter (args := [(.int .i64 step0), (.int .i64 track1), (.pointer (some ⟨p2_b, 0, none⟩)), (.pointer (some ⟨p3_b, 0, none⟩)), (.pointer (some ⟨p4_b, 0, none⟩)), (.pointer (some ⟨p5_b, 0, none⟩))]) Tryz.func93 rfl Tryz.ntmps93 (by kernel_rfl) (L := [⟨some p2_b, 2, [(.int .i64 p2)]⟩, ⟨some p3_b, 2, [(.int .i64 p3)]⟩, ⟨some p4_b, 56, [(.slice (p4_o.map fun b => ⟨b, 0, none⟩) p4.length p4_c)]⟩, ⟨p4_o, 95, row encGNote p4 p4_sp⟩, ⟨some p5_b, 42, [(.int .i16 p5.fSteps), (.slice p5_fHammers_a p5.fHammers.length p5_fHammers_c)]⟩]) (W := bs [some p2_b, some p3_b, some p4_b, p4_o, some p5_b]) hm0 ?_
  refine jc_seq ?_
  refine jc_region ?_
  refine jo_f [(0, 0), (0, 0), (0, 0), (1, 0), (0, 0), (0, 0)] (by kernel_rfl) ?_
  obtain ⟨t_1, ht_1, h⟩ := bd h
  refine toO (by kernel_rfl) (p_call 0 94 #[(.int .i64 step0), (.int .i64 p2), (.int .i64 (w64 ((w64 (p2 + p3)) - 1)))] (by kernel_rfl) (by kernel_rfl) (fun w hm => impl_within.calls step0 p2 (w64 ((w64 (p2 + p3)) - 1)) w _ ht_1) ?_)
  rintro w v w' hm ⟨rfl, hm'⟩
  refine ⟨_, hm.app hm', jkO ?_⟩
  clear hm hm'
  refine jo_end (by kernel_rfl) ?_
  refine jx_then ?_
  refine jc_cond t_1 (by kernel_rfl) (fun hc_2 => ?_) (fun hc_2 => ?_)
  · replace h := ifT hc_2 h
    refine jc_draw [⟨some p2_b, 2, [(.int .i64 p2)]⟩, ⟨some p3_b, 2, [(.int .i64 p3)]⟩, ⟨some p5_b, 42, [(.int .i16 p5.fSteps), (.slice p5_fHammers_a p5.fHammers.length p5_fHammers_c)]⟩] 15 (by kernel_rfl) (by kernel_rfl) ?_
    refine jd_f [⟨1, 0, 0⟩, ⟨2, 0, 0⟩, ⟨3, 0, 0⟩, ⟨4, 0, 0⟩, ⟨5, 0, 0⟩, ⟨6, 2, 0⟩, ⟨7, 0, 0⟩] 8 (by kernel_rfl) (by kernel_rfl) (fun w h => h.pick [0, 1, 4] (by kernel_rfl) (by kernel_rfl)) (by kernel_rfl) (by kernel_rfl) ?_
    obtain ⟨x_2, hx_13, h⟩ := bd h
    refine jd_v 8 0 (by kernel_rfl) (fun w h => h.pick [0, 1, 4] (by kernel_rfl) (by kernel_rfl)) (by kernel_rfl) (by kernel_rfl) _ (fun w hm => idx_run (a := p5_fHammers_a) (len := p5.fHammers.length) (s := 2) (j := track1) (by kernel_rfl) (ix_some hx_13).1 (ltn hx_13 rfl) (p5_fHammers_h.sp hx_13)) ?_
    refine jd_f [⟨9, 0, 0⟩] 6 (by kernel_rfl) (by kernel_rfl) (fun w h => h.pick [0, 1, 4] (by kernel_rfl) (by kernel_rfl)) (by kernel_rfl) (by kernel_rfl) ?_
    refine jd_v 10 0 (by kernel_rfl) (fun w h => h.pick [0, 1, 4] (by kernel_rfl) (by kernel_rfl)) (by kernel_rfl) (by kernel_rfl) _ (fun w hm => ld_run (b := aB p5_fHammers_a) (off := (aO p5_fHammers_a + track1.toNat * 2)) (s := 1) (agg := false) (vs := (((encGHammer x_2).drop 0).take 1)) (by kernel_rfl) (by kernel_rfl) (.inr rfl) (((hm.exRowW p5_fHammers_h p5_fHammers_ha).at hx_13).sub 0 1)) ?_
    refine jd_f [⟨11, 0, 0⟩] 4 (by kernel_rfl) (by kernel_rfl) (fun w h => h.pick [0, 1, 4] (by kernel_rfl) (by kernel_rfl)) (by kernel_rfl) (by kernel_rfl) ?_
    refine toD2 0 12 (by kernel_rfl) ?_ ?_
    · refine p_s 0 [2] (by kernel_rfl) (by kernel_rfl) (jkD (fun w h => h.pick [0, 1, 4] (by kernel_rfl) (by kernel_rfl)) ?_)
      refine toD 12 (by kernel_rfl) (p_a 0 [0] (by kernel_rfl) (fun b => by kernel_rfl) (fun b_14 => jkD (fun w h => h.pick [0, 1, 4] (by kernel_rfl) (by kernel_rfl)) ?_))
      obtain ⟨hg_15, h⟩ := gd h
      refine toD 13 (by kernel_rfl) (p_apn 0 3 p4_o 95 p4.length 1 p4_c 2 4 (some ⟨b_14, 0, none⟩) encGNote p4 [(⟨(w16 (w64 (step0 - p2))), x_2.fPitch⟩ : GNote)] p4_sp (.agg #[(.int .i16 0), (.int .i8 0)]) rfl rfl (by kernel_rfl) (by kernel_rfl) (by kernel_rfl) encGNote_len encGNote_cell p4_hs p4_ho (fun w hm => (hm.ownRow (hh := 5) (o := (some b_14)) (T := 95) (enc := encGNote) (xs := [(⟨(w16 (w64 (step0 - p2))), x_2.fPitch⟩ : GNote)]) (sp := []) (by kernel_rfl) (fun e => nomatch e) encGNote_len)) hg_15 (by kernel_rfl) (by kernel_rfl) (fun o_16 cap_17 sp_18 hs_19 ho_20 => jkD (fun w h => h.pick [0, 1, 4] (by kernel_rfl) (by kernel_rfl)) ?_))
      refine toD 14 (by kernel_rfl) (p_s 0 [2] (by kernel_rfl) (by kernel_rfl) (jkD (fun w h => h.pick [0, 1, 4] (by kernel_rfl) (by kernel_rfl)) ?_))
      refine jd_end (by kernel_rfl) ?_
      refine jx_fall ?_
      obtain rfl := Option.some.inj h
      exact jx_ret [] (.tuple #[]) [] rfl (by kernel_rfl) (by kernel_rfl) (fun w hm => ⟨o_16, cap_17, sp_18, ((p4 ++ [(⟨(w16 (w64 (step0 - p2))), x_2.fPitch⟩ : GNote)]).length), rfl, hs_19, ho_20, rfl, hm.pick [0, 1, 2, 4, 3] (by kernel_rfl) (by kernel_rfl)⟩)
    · refine p_a 0 [0] (by kernel_rfl) (fun b => by kernel_rfl) (fun b_21 => jkD (fun w h => h.pick [0, 1, 4] (by kernel_rfl) (by kernel_rfl)) ?_)
      refine toD 0 (by kernel_rfl) (p_s 0 [2] (by kernel_rfl) (by kernel_rfl) (jkD (fun w h => h.pick [0, 1, 4] (by kernel_rfl) (by kernel_rfl)) ?_))
      obtain ⟨hg_22, h⟩ := gd h
      refine toD 13 (by kernel_rfl) (p_apn 0 3 p4_o 95 p4.length 1 p4_c 2 4 (some ⟨b_21, 0, none⟩) encGNote p4 [(⟨(w16 (w64 (step0 - p2))), x_2.fPitch⟩ : GNote)] p4_sp (.agg #[(.int .i16 0), (.int .i8 0)]) rfl rfl (by kernel_rfl) (by kernel_rfl) (by kernel_rfl) encGNote_len encGNote_cell p4_hs p4_ho (fun w hm => (hm.ownRow (hh := 5) (o := (some b_21)) (T := 95) (enc := encGNote) (xs := [(⟨(w16 (w64 (step0 - p2))), x_2.fPitch⟩ : GNote)]) (sp := []) (by kernel_rfl) (fun e => nomatch e) encGNote_len)) hg_22 (by kernel_rfl) (by kernel_rfl) (fun o_23 cap_24 sp_25 hs_26 ho_27 => jkD (fun w h => h.pick [0, 1, 4] (by kernel_rfl) (by kernel_rfl)) ?_))
      refine toD 14 (by kernel_rfl) (p_s 0 [2] (by kernel_rfl) (by kernel_rfl) (jkD (fun w h => h.pick [0, 1, 4] (by kernel_rfl) (by kernel_rfl)) ?_))
      refine jd_end (by kernel_rfl) ?_
      refine jx_fall ?_
      obtain rfl := Option.some.inj h
      exact jx_ret [] (.tuple #[]) [] rfl (by kernel_rfl) (by kernel_rfl) (fun w hm => ⟨o_23, cap_24, sp_25, ((p4 ++ [(⟨(w16 (w64 (step0 - p2))), x_2.fPitch⟩ : GNote)]).length), rfl, hs_26, ho_27, rfl, hm.pick [0, 1, 2, 4, 3] (by kernel_rfl) (by kernel_rfl)⟩)
  · replace h := ifF hc_2 h
    refine jc_skip ?_
    refine jx_fall ?_
    obtain rfl := Option.some.inj h
    exact jx_ret [] (.tuple #[]) [] rfl (by kernel_rfl) (by kernel_rfl) (fun w hm => ⟨p4_o, p4_c, p4_sp, p4.length, rfl, p4_hs, p4_ho, rfl, hm.pick [0, 1, 2, 4, 3] (by kernel_rfl) (by kernel_rfl)⟩)

/-! ### (impl.Frame).pins -/
noncomputable def impl_Frame_pins_at_impl_Frame_played_1.k_2 (xs_1 : List GNote) : Option ((List GNote)) := some xs_1
noncomputable def impl_Frame_pins_at_impl_Frame_played_1.k_9 (i_4 : Int) (xs_8 : List GNote) : Option (((List GNote) × Int) ⊕ ((List GNote))) := some (.inl (xs_8, (w64 (i_4 + 1))))
noncomputable def impl_Frame_pins_at_impl_Frame_played_1.l_12 (d1 : Arr 96 Int) (g2c0 : Int) (g2c1 : Int) (g2c3 : GFrame) (i_4 : Int) (t_7 : Int) : ((List GNote) × Int) → Option (((List GNote) × Int) ⊕ ((List GNote)))
  | (xs_10, i_11) => (if (decide (i_11 < t_7)) = true then (impl_Drum_has d1 i_4 i_11).bind fun t_14 => (if t_14 = true then (impl_Frame_played_1 i_4 i_11 g2c0 g2c1 xs_10 g2c3).bind fun t_15 => some (.inl (t_15, (w64 (i_11 + 1)))) else some (.inl (xs_10, (w64 (i_11 + 1))))) else some (.inr xs_10))
noncomputable def impl_Frame_pins_at_impl_Frame_played_1.l_5 (f0 : GFrame) (d1 : Arr 96 Int) (g2c0 : Int) (g2c1 : Int) (g2c3 : GFrame) : ((List GNote) × Int) → Option (((List GNote) × Int) ⊕ ((List GNote)))
  | (xs_3, i_4) => (if (decide (i_4 < (w64 f0.fSteps))) = true then (impl_size_Hammer f0.fHammers).bind fun t_7 => (loop (impl_Frame_pins_at_impl_Frame_played_1.l_12 d1 g2c0 g2c1 g2c3 i_4 t_7) (xs_3, 0)).bind fun t_13 => impl_Frame_pins_at_impl_Frame_played_1.k_9 i_4 t_13 else some (.inr xs_3))
noncomputable def impl_Frame_pins_at_impl_Frame_played_1 (f0 : GFrame) (d1 : Arr 96 Int) (g2c0 : Int) (g2c1 : Int) (g2c2 : List GNote) (g2c3 : GFrame) : Option ((List GNote)) := (loop (impl_Frame_pins_at_impl_Frame_played_1.l_5 f0 d1 g2c0 g2c1 g2c3) (g2c2, 0)).bind fun t_6 => impl_Frame_pins_at_impl_Frame_played_1.k_2 t_6
set_option maxRecDepth 100000 in
theorem impl_Frame_pins_at_impl_Frame_played_1.calls (f0 : GFrame) (d1 : Arr 96 Int) (g2c0 : Int) (g2c1 : Int) (g2c2 : List GNote) (g2c3 : GFrame) (w : World) (r : (List GNote)) (f0_fHammers_a : Option Addr) (f0_fHammers_an : Nat) (f0_fHammers_c : Nat) (f0_fHammers_h : Rw w f0_fHammers_a 2 encGHammer f0.fHammers) (f0_fHammers_hn : f0.fHammers.length = f0_fHammers_an) (g2c3_fHammers_a : Option Addr) (g2c3_fHammers_an : Nat) (g2c3_fHammers_c : Nat) (g2c3_fHammers_h : Rw w g2c3_fHammers_a 2 encGHammer g2c3.fHammers) (g2c3_fHammers_hn : g2c3.fHammers.length = g2c3_fHammers_an) (g2c0_b : Nat) (g2c1_b : Nat) (g2c2_b : Nat) (g2c2_o : Option Nat) (g2c2_on : Nat) (g2c2_c : Nat) (g2c2_sp : List Value) (g2c2_hn : g2c2.length = g2c2_on) (g2c2_hs : g2c2_o ≠ none → g2c2_on ≤ g2c2_c ∧ g2c2_sp.length = (g2c2_c - g2c2_on) * 2) (g2c2_ho : g2c2_o = none → g2c2 = [] ∧ g2c2_c = 0) (g2c3_b : Nat) (hm0 : Mem w (bs [some g2c0_b, some g2c1_b, some g2c2_b, g2c2_o, some g2c3_b]) [⟨some g2c0_b, 2, [(.int .i64 g2c0)]⟩, ⟨some g2c1_b, 2, [(.int .i64 g2c1)]⟩, ⟨some g2c2_b, 56, [(.slice (g2c2_o.map fun b => ⟨b, 0, none⟩) g2c2_on g2c2_c)]⟩, ⟨g2c2_o, 95, row encGNote g2c2 g2c2_sp⟩, ⟨some g2c3_b, 42, [(.int .i16 g2c3.fSteps), (.slice g2c3_fHammers_a g2c3_fHammers_an g2c3_fHammers_c)]⟩] w) (f0_fHammers_ha : f0.fHammers ≠ [] → aB f0_fHammers_a ∉ bs [some g2c0_b, some g2c1_b, some g2c2_b, g2c2_o, some g2c3_b]) (g2c3_fHammers_ha : g2c3.fHammers ≠ [] → aB g2c3_fHammers_a ∉ bs [some g2c0_b, some g2c1_b, some g2c2_b, g2c2_o, some g2c3_b]) (h : impl_Frame_pins_at_impl_Frame_played_1 f0 d1 g2c0 g2c1 g2c2 g2c3 = some r) :
    Calls Tryz.prog 92 #[(.agg #[(.int .i16 f0.fSteps), (.slice f0_fHammers_a f0_fHammers_an f0_fHammers_c)]), (.agg (row encU32 d1.1 []).toArray), (.func (.func 93) #[] #[(.pointer (some ⟨g2c0_b, 0, none⟩)), (.pointer (some ⟨g2c1_b, 0, none⟩)), (.pointer (some ⟨g2c2_b, 0, none⟩)), (.pointer (some ⟨g2c3_b, 0, none⟩))])] w fun e w' => ∃ v, e = .returned v ∧ (∃ (mo0 : Option Nat) (mc0 : Nat) (ms0 : List Value) (mn0 : Nat), r.length = mn0 ∧ (mo0 ≠ none → mn0 ≤ mc0 ∧ ms0.length = (mc0 - mn0) * 2) ∧ (mo0 = none → r = [] ∧ mc0 = 0) ∧ v = .tuple #[] ∧ Mem w (bs [some g2c0_b, some g2c1_b, some g2c2_b, g2c2_o, some g2c3_b]) [⟨some g2c0_b, 2, [(.int .i64 g2c0)]⟩, ⟨some g2c1_b, 2, [(.int .i64 g2c1)]⟩, ⟨some g2c2_b, 56, [(.slice (mo0.map fun b => ⟨b, 0, none⟩) mn0 mc0)]⟩, ⟨some g2c3_b, 42, [(.int .i16 g2c3.fSteps), (.slice g2c3_fHammers_a g2c3_fHammers_an g2c3_fHammers_c)]⟩, ⟨mo0, 95, row encGNote r ms0⟩] w') := by
  subst f0_fHammers_hn g2c3_fHammers_hn g2c2_hn
  rw [impl_Frame_pins_at_impl_Frame_played_1] at h
  refine enter (args := [(.agg #[(.int .i16 f0.fSteps), (.slice f0_fHammers_a f0.fHammers.length f0_fHammers_c)]), (.agg (row encU32 d1.1 []).toArray), (.func (.func 93) #[] #[(.pointer (some ⟨g2c0_b, 0, none⟩)), (.pointer (some ⟨g2c1_b, 0, none⟩)), (.pointer (some ⟨g2c2_b, 0, none⟩)), (.pointer (some ⟨g2c3_b, 0, none⟩))])]) Tryz.func92 rfl Tryz.ntmps92 (by kernel_rfl) (L := [⟨some g2c0_b, 2, [(.int .i64 g2c0)]⟩, ⟨some g2c1_b, 2, [(.int .i64 g2c1)]⟩, ⟨some g2c2_b, 56, [(.slice (g2c2_o.map fun b => ⟨b, 0, none⟩) g2c2.length g2c2_c)]⟩, ⟨g2c2_o, 95, row encGNote g2c2 g2c2_sp⟩, ⟨some g2c3_b, 42, [(.int .i16 g2c3.fSteps), (.slice g2c3_fHammers_a g2c3.fHammers.length g2c3_fHammers_c)]⟩]) (W := bs [some g2c0_b, some g2c1_b, some g2c2_b, g2c2_o, some g2c3_b]) hm0 ?_
  refine jc_seq ?_
  refine jc_region ?_
  refine toO (by kernel_rfl) (p_a 0 [0] (by kernel_rfl) (fun b => by kernel_rfl) (fun b_1 => jkO ?_))
  refine toO (by kernel_rfl) (p_a 0 [0] (by kernel_rfl) (fun b => by kernel_rfl) (fun b_2 => jkO ?_))
  refine jo_end (by kernel_rfl) ?_
  refine jx_then ?_
  refine jc_seq ?_
  refine jc_region ?_
  refine jo_f [(0, 0), (5, 0), (0, 0), (0, 0)] (by kernel_rfl) ?_
  refine jo_end (by kernel_rfl) ?_
  refine jx_then ?_
  refine jc_meet (fun (j : (List GNote) × (Option Nat) × Nat × (List Value) × Nat) => match j with | ⟨xs_1, o_322, cap_323, sp_324, n_325⟩ => impl_Frame_pins_at_impl_Frame_played_1.k_2 xs_1 = some r ∧ (xs_1.length = n_325) ∧ ((o_322 ≠ none → n_325 ≤ cap_323 ∧ sp_324.length = (cap_323 - n_325) * 2)) ∧ ((o_322 = none → xs_1 = [] ∧ cap_323 = 0))) (fun (j : (List GNote) × (Option Nat) × Nat × (List Value) × Nat) => match j with | ⟨xs_1, o_322, cap_323, sp_324, n_325⟩ => []) (fun (j : (List GNote) × (Option Nat) × Nat × (List Value) × Nat) => match j with | ⟨xs_1, o_322, cap_323, sp_324, n_325⟩ => [⟨some g2c0_b, 2, [(.int .i64 g2c0)]⟩, ⟨some g2c1_b, 2, [(.int .i64 g2c1)]⟩, ⟨some g2c2_b, 56, [(.slice (o_322.map fun b => ⟨b, 0, none⟩) n_325 cap_323)]⟩, ⟨o_322, 95, row encGNote xs_1 sp_324⟩, ⟨some g2c3_b, 42, [(.int .i16 g2c3.fSteps), (.slice g2c3_fHammers_a g2c3.fHammers.length g2c3_fHammers_c)]⟩, ⟨some b_1, 42, [(.int .i16 f0.fSteps), (.slice f0_fHammers_a f0.fHammers.length f0_fHammers_c)]⟩, ⟨(some b_2), 89, row encU32 d1.1 []⟩]) ?_ ?_
  · refine jc_block ?_
    obtain ⟨t_6, ht_646, hr_542⟩ := bd h
    refine jc_loop (fun (s : (List GNote) × Int) (x : (Option Nat) × Nat × (List Value) × Nat) => match s, x with | ⟨xs_3, i_4⟩, ⟨o_536, cap_537, sp_538, n_539⟩ => (xs_3.length = n_539) ∧ ((o_536 ≠ none → n_539 ≤ cap_537 ∧ sp_538.length = (cap_537 - n_539) * 2)) ∧ ((o_536 = none → xs_3 = [] ∧ cap_537 = 0))) (fun (s : (List GNote) × Int) (x : (Option Nat) × Nat × (List Value) × Nat) => match s, x with | ⟨xs_3, i_4⟩, ⟨o_536, cap_537, sp_538, n_539⟩ => [(2, [], (.func (.func 93) #[] #[(.pointer (some ⟨g2c0_b, 0, none⟩)), (.pointer (some ⟨g2c1_b, 0, none⟩)), (.pointer (some ⟨g2c2_b, 0, none⟩)), (.pointer (some ⟨g2c3_b, 0, none⟩))])), (3, [], (.pointer (some ⟨b_1, 0, none⟩))), (4, [], (.pointer (some ⟨b_2, 0, none⟩))), (10, [], (.int .i64 (w64 f0.fSteps))), (11, [], (.int .i64 i_4))]) (fun (s : (List GNote) × Int) (x : (Option Nat) × Nat × (List Value) × Nat) => match s, x with | ⟨xs_3, i_4⟩, ⟨o_536, cap_537, sp_538, n_539⟩ => [⟨some g2c0_b, 2, [(.int .i64 g2c0)]⟩, ⟨some g2c1_b, 2, [(.int .i64 g2c1)]⟩, ⟨some g2c2_b, 56, [(.slice (o_536.map fun b => ⟨b, 0, none⟩) n_539 cap_537)]⟩, ⟨o_536, 95, row encGNote xs_3 sp_538⟩, ⟨some g2c3_b, 42, [(.int .i16 g2c3.fSteps), (.slice g2c3_fHammers_a g2c3.fHammers.length g2c3_fHammers_c)]⟩, ⟨some b_1, 42, [(.int .i16 f0.fSteps), (.slice f0_fHammers_a f0.fHammers.length f0_fHammers_c)]⟩, ⟨(some b_2), 89, row encU32 d1.1 []⟩]) ht_646 ⟨g2c2_o, g2c2_c, g2c2_sp, g2c2.length⟩ ⟨rfl, g2c2_hs, g2c2_ho⟩ (by kernel_rfl) [0, 1, 2, 3, 4, 5, 6] (by kernel_rfl) (by kernel_rfl) ?_
    rintro ⟨xs_3, i_4⟩ ⟨o_536, cap_537, sp_538, n_539⟩ y_543 ⟨rfl, hs_540, ho_541⟩ h
    rw [impl_Frame_pins_at_impl_Frame_played_1.l_5] at h
    refine jc_seq ?_
    refine jc_region ?_
    refine jo_f [(0, 0)] (by kernel_rfl) ?_
    refine jo_end (by kernel_rfl) ?_
    refine jx_then ?_
    refine jc_seq ?_
    refine jc_cond (decide (i_4 < (w64 f0.fSteps))) (by kernel_rfl) (fun hc_545 => ?_) (fun hc_545 => ?_)
    · replace h := ifT hc_545 h
      refine jc_skip ?_
      refine jx_then ?_
      refine jc_seq ?_
      refine jc_block ?_
      refine jc_seq ?_
      refine jc_region ?_
      refine jo_f [(0, 0), (0, 0)] (by kernel_rfl) ?_
      refine jo_end (by kernel_rfl) ?_
      refine jx_then ?_
      refine jc_seq ?_
      refine jc_region ?_
      refine jo_f [(0, 0), (5, 0)] (by kernel_rfl) ?_
      obtain ⟨t_7, ht_546, h⟩ := bd h
      refine toO (by kernel_rfl) (p_call 0 121 #[(.slice f0_fHammers_a f0.fHammers.length f0_fHammers_c)] (by kernel_rfl) (by kernel_rfl) (fun w hm => impl_size_Hammer.calls f0.fHammers w _ f0_fHammers_a f0.fHammers.length f0_fHammers_c (hm.exRowW f0_fHammers_h f0_fHammers_ha) rfl ht_546) ?_)
      rintro w v w' hm ⟨rfl, hm'⟩
      refine ⟨_, hm.app hm', jkO ?_⟩
      clear hm hm'
      refine jo_f [(0, 0)] (by kernel_rfl) ?_
      refine jo_end (by kernel_rfl) ?_
      refine jx_then ?_
      refine jc_meet (fun (j : (List GNote) × (Option Nat) × Nat × (List Value) × Nat) => match j with | ⟨xs_8, o_593, cap_594, sp_595, n_596⟩ => impl_Frame_pins_at_impl_Frame_played_1.k_9 i_4 xs_8 = some y_543 ∧ (xs_8.length = n_596) ∧ ((o_593 ≠ none → n_596 ≤ cap_594 ∧ sp_595.length = (cap_594 - n_596) * 2)) ∧ ((o_593 = none → xs_8 = [] ∧ cap_594 = 0))) (fun (j : (List GNote) × (Option Nat) × Nat × (List Value) × Nat) => match j with | ⟨xs_8, o_593, cap_594, sp_595, n_596⟩ => [(2, [], (.func (.func 93) #[] #[(.pointer (some ⟨g2c0_b, 0, none⟩)), (.pointer (some ⟨g2c1_b, 0, none⟩)), (.pointer (some ⟨g2c2_b, 0, none⟩)), (.pointer (some ⟨g2c3_b, 0, none⟩))])), (3, [], (.pointer (some ⟨b_1, 0, none⟩))), (4, [], (.pointer (some ⟨b_2, 0, none⟩))), (10, [], (.int .i64 (w64 f0.fSteps))), (11, [], (.int .i64 i_4))]) (fun (j : (List GNote) × (Option Nat) × Nat × (List Value) × Nat) => match j with | ⟨xs_8, o_593, cap_594, sp_595, n_596⟩ => [⟨some g2c0_b, 2, [(.int .i64 g2c0)]⟩, ⟨some g2c1_b, 2, [(.int .i64 g2c1)]⟩, ⟨some g2c2_b, 56, [(.slice (o_593.map fun b => ⟨b, 0, none⟩) n_596 cap_594)]⟩, ⟨o_593, 95, row encGNote xs_8 sp_595⟩, ⟨some g2c3_b, 42, [(.int .i16 g2c3.fSteps), (.slice g2c3_fHammers_a g2c3.fHammers.length g2c3_fHammers_c)]⟩, ⟨some b_1, 42, [(.int .i16 f0.fSteps), (.slice f0_fHammers_a f0.fHammers.length f0_fHammers_c)]⟩, ⟨(some b_2), 89, row encU32 d1.1 []⟩]) ?_ ?_
      · refine jc_block ?_
        obtain ⟨t_13, ht_644, hr_631⟩ := bd h
        refine jc_loop (fun (s : (List GNote) × Int) (x : (Option Nat) × Nat × (List Value) × Nat) => match s, x with | ⟨xs_10, i_11⟩, ⟨o_625, cap_626, sp_627, n_628⟩ => (xs_10.length = n_628) ∧ ((o_625 ≠ none → n_628 ≤ cap_626 ∧ sp_627.length = (cap_626 - n_628) * 2)) ∧ ((o_625 = none → xs_10 = [] ∧ cap_626 = 0))) (fun (s : (List GNote) × Int) (x : (Option Nat) × Nat × (List Value) × Nat) => match s, x with | ⟨xs_10, i_11⟩, ⟨o_625, cap_626, sp_627, n_628⟩ => [(2, [], (.func (.func 93) #[] #[(.pointer (some ⟨g2c0_b, 0, none⟩)), (.pointer (some ⟨g2c1_b, 0, none⟩)), (.pointer (some ⟨g2c2_b, 0, none⟩)), (.pointer (some ⟨g2c3_b, 0, none⟩))])), (3, [], (.pointer (some ⟨b_1, 0, none⟩))), (4, [], (.pointer (some ⟨b_2, 0, none⟩))), (6, [], (.int .i64 i_4)), (10, [], (.int .i64 (w64 f0.fSteps))), (11, [], (.int .i64 i_4)), (16, [], (.int .i64 t_7)), (17, [], (.int .i64 i_11))]) (fun (s : (List GNote) × Int) (x : (Option Nat) × Nat × (List Value) × Nat) => match s, x with | ⟨xs_10, i_11⟩, ⟨o_625, cap_626, sp_627, n_628⟩ => [⟨some g2c0_b, 2, [(.int .i64 g2c0)]⟩, ⟨some g2c1_b, 2, [(.int .i64 g2c1)]⟩, ⟨some g2c2_b, 56, [(.slice (o_625.map fun b => ⟨b, 0, none⟩) n_628 cap_626)]⟩, ⟨o_625, 95, row encGNote xs_10 sp_627⟩, ⟨some g2c3_b, 42, [(.int .i16 g2c3.fSteps), (.slice g2c3_fHammers_a g2c3.fHammers.length g2c3_fHammers_c)]⟩, ⟨some b_1, 42, [(.int .i16 f0.fSteps), (.slice f0_fHammers_a f0.fHammers.length f0_fHammers_c)]⟩, ⟨(some b_2), 89, row encU32 d1.1 []⟩]) ht_644 ⟨o_536, cap_537, sp_538, xs_3.length⟩ ⟨rfl, hs_540, ho_541⟩ (by kernel_rfl) [0, 1, 2, 3, 4, 5, 6] (by kernel_rfl) (by kernel_rfl) ?_
        rintro ⟨xs_10, i_11⟩ ⟨o_625, cap_626, sp_627, n_628⟩ y_632 ⟨rfl, hs_629, ho_630⟩ h
        rw [impl_Frame_pins_at_impl_Frame_played_1.l_12] at h
        refine jc_seq ?_
        refine jc_region ?_
        refine jo_f [(0, 0)] (by kernel_rfl) ?_
        refine jo_end (by kernel_rfl) ?_
        refine jx_then ?_
        refine jc_seq ?_
        refine jc_cond (decide (i_11 < t_7)) (by kernel_rfl) (fun hc_634 => ?_) (fun hc_634 => ?_)
        · replace h := ifT hc_634 h
          refine jc_skip ?_
          refine jx_then ?_
          refine jc_seq ?_
          refine jc_block ?_
          refine jc_seq ?_
          refine jc_region ?_
          refine jo_f [(0, 0), (0, 0)] (by kernel_rfl) ?_
          refine jo_end (by kernel_rfl) ?_
          refine jx_then ?_
          refine jc_seq ?_
          refine jc_region ?_
          refine jo_f [(0, 0), (0, 0)] (by kernel_rfl) ?_
          obtain ⟨t_14, ht_635, h⟩ := bd h
          refine toO (by kernel_rfl) (p_call 0 122 #[(.pointer (some ⟨b_2, 0, none⟩)), (.int .i64 i_4), (.int .i64 i_11)] (by kernel_rfl) (by kernel_rfl) (fun w hm => impl_Drum_has.calls d1 i_4 i_11 w _ b_2 (hm.pass (N := [⟨(some b_2), 89, row encU32 d1.1 []⟩]) [6] (by kernel_rfl) (by kernel_rfl)) ht_635) ?_)
          rintro w v w' hm ⟨rfl, hm'⟩
          refine ⟨_, hm.appW (ps := [(6, ⟨(some b_2), 89, row encU32 d1.1 []⟩)]) (N := []) hm' (by kernel_rfl) (by kernel_rfl), jkO ?_⟩
          clear hm hm'
          refine jo_end (by kernel_rfl) ?_
          refine jx_then ?_
          refine jc_cond t_14 (by kernel_rfl) (fun hc_636 => ?_) (fun hc_636 => ?_)
          · replace h := ifT hc_636 h
            refine jc_region ?_
            refine jo_f [(0, 0), (0, 0), (0, 0)] (by kernel_rfl) ?_
            obtain ⟨t_15, ht_637, h⟩ := bd h
            refine toO (by kernel_rfl) (p_call 0 93 #[(.int .i64 i_4), (.int .i64 i_11), (.pointer (some ⟨g2c0_b, 0, none⟩)), (.pointer (some ⟨g2c1_b, 0, none⟩)), (.pointer (some ⟨g2c2_b, 0, none⟩)), (.pointer (some ⟨g2c3_b, 0, none⟩))] (by kernel_rfl) (by kernel_rfl) (fun w hm => impl_Frame_played_1.calls i_4 i_11 g2c0 g2c1 xs_10 g2c3 w _ g2c3_fHammers_a g2c3.fHammers.length g2c3_fHammers_c (hm.exRowW g2c3_fHammers_h g2c3_fHammers_ha) rfl g2c0_b g2c1_b g2c2_b o_625 xs_10.length cap_626 sp_627 rfl hs_629 ho_630 g2c3_b (hm.pass (N := [⟨some g2c0_b, 2, [(.int .i64 g2c0)]⟩, ⟨some g2c1_b, 2, [(.int .i64 g2c1)]⟩, ⟨some g2c2_b, 56, [(.slice (o_625.map fun b => ⟨b, 0, none⟩) xs_10.length cap_626)]⟩, ⟨o_625, 95, row encGNote xs_10 sp_627⟩, ⟨some g2c3_b, 42, [(.int .i16 g2c3.fSteps), (.slice g2c3_fHammers_a g2c3.fHammers.length g2c3_fHammers_c)]⟩]) [0, 1, 2, 3, 4] (by kernel_rfl) (by kernel_rfl)) (hm.exApart (N := [⟨some g2c0_b, 2, [(.int .i64 g2c0)]⟩, ⟨some g2c1_b, 2, [(.int .i64 g2c1)]⟩, ⟨some g2c2_b, 56, [(.slice (o_625.map fun b => ⟨b, 0, none⟩) xs_10.length cap_626)]⟩, ⟨o_625, 95, row encGNote xs_10 sp_627⟩, ⟨some g2c3_b, 42, [(.int .i16 g2c3.fSteps), (.slice g2c3_fHammers_a g2c3.fHammers.length g2c3_fHammers_c)]⟩]) g2c3_fHammers_h g2c3_fHammers_ha [0, 1, 2, 3, 4] (by kernel_rfl)) ht_637) ?_)
            rintro w v w' hm ⟨o_638, cap_639, sp_640, _, rfl, hs_641, ho_642, rfl, hm'⟩
            refine ⟨_, Mem.pick (hm.appP (ps := [(0, ⟨some g2c0_b, 2, [(.int .i64 g2c0)]⟩), (1, ⟨some g2c1_b, 2, [(.int .i64 g2c1)]⟩), (2, ⟨some g2c2_b, 56, [(.slice (o_638.map fun b => ⟨b, 0, none⟩) t_15.length cap_639)]⟩), (4, ⟨some g2c3_b, 42, [(.int .i16 g2c3.fSteps), (.slice g2c3_fHammers_a g2c3.fHammers.length g2c3_fHammers_c)]⟩)]) (ds := [3]) (N := [⟨o_638, 95, row encGNote t_15 sp_640⟩]) hm' [0, 1, 2, 4, 3] (by kernel_rfl) (by kernel_rfl) (by kernel_rfl)) (N := [⟨some g2c0_b, 2, [(.int .i64 g2c0)]⟩, ⟨some g2c1_b, 2, [(.int .i64 g2c1)]⟩, ⟨some g2c2_b, 56, [(.slice (o_638.map fun b => ⟨b, 0, none⟩) t_15.length cap_639)]⟩, ⟨o_638, 95, row encGNote t_15 sp_640⟩, ⟨some g2c3_b, 42, [(.int .i16 g2c3.fSteps), (.slice g2c3_fHammers_a g2c3.fHammers.length g2c3_fHammers_c)]⟩, ⟨some b_1, 42, [(.int .i16 f0.fSteps), (.slice f0_fHammers_a f0.fHammers.length f0_fHammers_c)]⟩, ⟨(some b_2), 89, row encU32 d1.1 []⟩]) [0, 1, 2, 7, 4, 5, 6] (by kernel_rfl) (by kernel_rfl), jkO ?_⟩
            clear hm hm'
            refine jo_end (by kernel_rfl) ?_
            refine jx_inn ?_
            refine jx_then ?_
            refine jc_region ?_
            refine jo_f [(0, 0), (0, 0)] (by kernel_rfl) ?_
            refine jo_end (by kernel_rfl) ?_
            exact jx_back (t_15, (w64 (i_11 + 1))) ⟨o_638, cap_639, sp_640, t_15.length⟩ (Option.some.inj h).symm ⟨rfl, hs_641, ho_642⟩ [0, 1, 2, 3, 4, 5, 6] (by kernel_rfl) (by kernel_rfl) (by kernel_rfl)
          · replace h := ifF hc_636 h
            refine jc_skip ?_
            refine jx_inn ?_
            refine jx_then ?_
            refine jc_region ?_
            refine jo_f [(0, 0), (0, 0)] (by kernel_rfl) ?_
            refine jo_end (by kernel_rfl) ?_
            exact jx_back (xs_10, (w64 (i_11 + 1))) ⟨o_625, cap_626, sp_627, xs_10.length⟩ (Option.some.inj h).symm ⟨rfl, hs_629, ho_630⟩ [0, 1, 2, 3, 4, 5, 6] (by kernel_rfl) (by kernel_rfl) (by kernel_rfl)
        · replace h := ifF hc_634 h
          refine jc_exit ?_
          refine jx_thenx ?_
          refine jx_leave xs_10 (Option.some.inj h).symm (fun e_643 => ?_)
          subst e_643
          refine jx_ine ?_
          exact jx_meet ⟨xs_10, o_625, cap_626, sp_627, xs_10.length⟩ ⟨hr_631, rfl, hs_629, ho_630⟩ (by kernel_rfl) [0, 1, 2, 3, 4, 5, 6] (by kernel_rfl) (by kernel_rfl)
      · rintro ⟨xs_8, o_593, cap_594, sp_595, n_596⟩ ⟨h, rfl, hs_597, ho_598⟩
        replace h : impl_Frame_pins_at_impl_Frame_played_1.k_9 i_4 xs_8 = some y_543 := h
        rw [impl_Frame_pins_at_impl_Frame_played_1.k_9] at h
        refine jx_inn ?_
        refine jx_then ?_
        refine jc_region ?_
        refine jo_f [(0, 0), (0, 0)] (by kernel_rfl) ?_
        refine jo_end (by kernel_rfl) ?_
        exact jx_back (xs_8, (w64 (i_4 + 1))) ⟨o_593, cap_594, sp_595, xs_8.length⟩ (Option.some.inj h).symm ⟨rfl, hs_597, ho_598⟩ [0, 1, 2, 3, 4, 5, 6] (by kernel_rfl) (by kernel_rfl) (by kernel_rfl)
    · replace h := ifF hc_545 h
      refine jc_exit ?_
      refine jx_thenx ?_
      refine jx_leave xs_3 (Option.some.inj h).symm (fun e_645 => ?_)
      subst e_645
      refine jx_ine ?_
      exact jx_meet ⟨xs_3, o_536, cap_537, sp_538, xs_3.length⟩ ⟨hr_542, rfl, hs_540, ho_541⟩ (by kernel_rfl) [0, 1, 2, 3, 4, 5, 6] (by kernel_rfl) (by kernel_rfl)
  · rintro ⟨xs_1, o_322, cap_323, sp_324, n_325⟩ ⟨h, rfl, hs_326, ho_327⟩
    replace h : impl_Frame_pins_at_impl_Frame_played_1.k_2 xs_1 = some r := h
    rw [impl_Frame_pins_at_impl_Frame_played_1.k_2] at h
    refine jx_fall ?_
    obtain rfl := Option.some.inj h
    exact jx_ret [] (.tuple #[]) [] rfl (by kernel_rfl) (by kernel_rfl) (fun w hm => ⟨o_322, cap_323, sp_324, xs_1.length, rfl, hs_326, ho_327, rfl, hm.pick [0, 1, 2, 4, 3] (by kernel_rfl) (by kernel_rfl)⟩)

/-! ### slices.Clone[[]impl.Note,impl.Note] -/
noncomputable def slices_Clone_Note (s0 : List GNote) : Option ((List GNote)) := (if ([] : List GNote).length + s0.length ≤ 4294967296 then some (([] : List GNote) ++ s0) else none)
set_option maxRecDepth 100000 in
theorem slices_Clone_Note.calls (s0 : List GNote) (w : World) (r : (List GNote)) (s0_a : Option Addr) (s0_an : Nat) (s0_c : Nat) (s0_h : Rw w s0_a 2 encGNote s0) (s0_hn : s0.length = s0_an) (h : slices_Clone_Note s0 = some r) :
    Calls Tryz.prog 123 #[(.slice s0_a s0_an s0_c)] w fun e w' => ∃ v, e = .returned v ∧ (∃ (o0 : Option Nat) (c0 : Nat) (s0 : List Value) (n0 : Nat), r.length = n0 ∧ (o0 ≠ none → n0 ≤ c0 ∧ s0.length = (c0 - n0) * 2) ∧ (o0 = none → r = [] ∧ c0 = 0) ∧ v = .slice (o0.map fun b => ⟨b, 0, none⟩) n0 c0 ∧ Mem w [] [⟨o0, 95, row encGNote r s0⟩] w') := by
  subst s0_hn
  rw [slices_Clone_Note] at h
  refine enter (args := [(.slice s0_a s0.length s0_c)]) Tryz.func123 rfl Tryz.ntmps123 (by kernel_rfl) (L := []) (W := []) (Mem.start w) ?_
  refine jc_seq ?_
  refine jc_region ?_
  refine jo_f [(0, 0)] (by kernel_rfl) ?_
  refine jo_end (by kernel_rfl) ?_
  refine jx_then ?_
  refine jc_seq ?_
  refine jc_seq ?_
  refine jc_region ?_
  refine jo_f [(0, 0)] (by kernel_rfl) ?_
  by_cases hn_4 : s0_a = none
  · have hx0 : s0 = [] := (nil_of s0_h hn_4)
    replace h : some [] = some r := by simpa [hx0] using h
    refine toO (by kernel_rfl) (p_nil 0 s0_a true true (by kernel_rfl) (by kernel_rfl) (by rw [hn_4]; rfl) (jkO ?_))
    refine jo_end (by kernel_rfl) ?_
    refine jx_then ?_
    refine jc_cond true (by kernel_rfl) (fun hc_5 => ?_) (fun hc_5 => nomatch hc_5)
    refine jc_seq ?_
    refine jc_region ?_
    refine jo_f [(0, 0)] (by kernel_rfl) ?_
    refine jo_end (by kernel_rfl) ?_
    refine jx_then ?_
    refine jc_ret ?_
    refine jx_thenr ?_
    obtain rfl := Option.some.inj h
    refine jx_ghost 95 encGNote ?_
    exact jx_ret [] (.slice none 0 0) [] rfl (by kernel_rfl) (by kernel_rfl) (fun w hm => ⟨none, 0, [], 0, rfl, (fun e => absurd rfl e), (fun _ => ⟨rfl, rfl⟩), rfl, hm.pick [0] (by kernel_rfl) (by kernel_rfl)⟩)
  · refine toO (by kernel_rfl) (p_nil 0 s0_a true false (by kernel_rfl) (by kernel_rfl) (by rw [Option.isNone_eq_false_iff.2 (Option.ne_none_iff_isSome.1 hn_4)]; rfl) (jkO ?_))
    refine jo_end (by kernel_rfl) ?_
    refine jx_then ?_
    refine jc_cond false (by kernel_rfl) (fun hc_6 => nomatch hc_6) (fun hc_6 => ?_)
    refine jc_skip ?_
    refine jx_then ?_
    refine jc_seq ?_
    refine jc_region ?_
    refine toO (by kernel_rfl) (p_a 0 [0] (by kernel_rfl) (fun b => by kernel_rfl) (fun b_7 => jkO ?_))
    refine jo_f [(0, 0)] (by kernel_rfl) ?_
    obtain ⟨hg_8, h⟩ := gd h
    refine toO (by kernel_rfl) (p_apn 0 0 (some b_7) 95 0 s0.length 0 2 4 s0_a encGNote ([] : List GNote) s0 [] (.agg #[(.int .i16 0), (.int .i8 0)]) rfl rfl (by kernel_rfl) (by kernel_rfl) (by kernel_rfl) encGNote_len encGNote_cell (fun _ => ⟨Nat.le_refl _, by simp⟩) (fun e => nomatch e) (fun w hm => (hm.exRow s0_h List.not_mem_nil)) hg_8 (by kernel_rfl) (by kernel_rfl) (fun o_9 cap_10 sp_11 hs_12 ho_13 => jkO ?_))
    refine jo_f [(0, 0)] (by kernel_rfl) ?_
    refine jo_end (by kernel_rfl) ?_
    refine jx_then ?_
    refine jc_ret ?_
    obtain rfl := Option.some.inj h
    exact jx_ret [] (.slice (o_9.map fun b => ⟨b, 0, none⟩) ((([] : List GNote) ++ s0).length) cap_10) [] rfl (by kernel_rfl) (by kernel_rfl) (fun w hm => ⟨o_9, cap_10, sp_11, ((([] : List GNote) ++ s0).length), rfl, hs_12, ho_13, rfl, hm.pick [0] (by kernel_rfl) (by kernel_rfl)⟩)

def lay_slices_SortFunc_Note_at_impl_compareNotes_ren : Go.Shelf.Ren := ⟨fun | 6 => 124 | 15 => 135 | 14 => 146 | 28 => 158 | 29 => 159 | 20 => 169 | 21 => 170 | 22 => 171 | 23 => 172 | 24 => 173 | 25 => 174 | 26 => 175 | 27 => 176 | 46 => 187 | 47 => 179 | 48 => 180 | 49 => 188 | 50 => 189 | 57 => 191 | n => n, fun | 22 => 56 | 24 => 95 | 25 => 175 | 3 => 3 | 39 => 169 | 0 => 0 | 53 => 87 | 55 => 210 | 4 => 4 | 46 => 202 | 45 => 201 | 50 => 206 | 5 => 5 | 9 => 9 | 66 => 221 | 70 => 225 | 76 => 232 | 77 => 233 | n => n, fun | n => n⟩
theorem lay_slices_SortFunc_Note_at_impl_compareNotes : Go.Proofs.SlLaysF0.n6 Tryz.prog lay_slices_SortFunc_Note_at_impl_compareNotes_ren where
  mixed := by kernel_rfl
  f6 := ⟨ "slices.SortFunc[[]loop.example/g01311/impl.Note,loop.example/g01311/impl.Note]", by decide, Tryz.func124.trans (congrArg some (by kernel_rfl))⟩
  f14 := ⟨ "slices.pdqsortCmpFunc[loop.example/g01311/impl.Note]", by decide, Tryz.func146.trans (congrArg some (by kernel_rfl))⟩
  f15 := Tryz.func135.trans (congrArg some (by kernel_rfl))
  f20 := ⟨ "slices.insertionSortCmpFunc[loop.example/g01311/impl.Note]", by decide, Tryz.func169.trans (congrArg some (by kernel_rfl))⟩
  f21 := ⟨ "slices.heapSortCmpFunc[loop.example/g01311/impl.Note]", by decide, Tryz.func170.trans (congrArg some (by kernel_rfl))⟩
  f22 := ⟨ "slices.breakPatternsCmpFunc[loop.example/g01311/impl.Note]", by decide, Tryz.func171.trans (congrArg some (by kernel_rfl))⟩
  f23 := ⟨ "slices.choosePivotCmpFunc[loop.example/g01311/impl.Note]", by decide, Tryz.func172.trans (congrArg some (by kernel_rfl))⟩
  f24 := ⟨ "slices.reverseRangeCmpFunc[loop.example/g01311/impl.Note]", by decide, Tryz.func173.trans (congrArg some (by kernel_rfl))⟩
  f25 := ⟨ "slices.partialInsertionSortCmpFunc[loop.example/g01311/impl.Note]", by decide, Tryz.func174.trans (congrArg some (by kernel_rfl))⟩
  f26 := ⟨ "slices.partitionEqualCmpFunc[loop.example/g01311/impl.Note]", by decide, Tryz.func175.trans (congrArg some (by kernel_rfl))⟩
  f27 := ⟨ "slices.partitionCmpFunc[loop.example/g01311/impl.Note]", by decide, Tryz.func176.trans (congrArg some (by kernel_rfl))⟩
  f28 := Tryz.func158.trans (congrArg some (by kernel_rfl))
  f29 := Tryz.func159.trans (congrArg some (by kernel_rfl))
  f46 := ⟨ "slices.siftDownCmpFunc[loop.example/g01311/impl.Note]", by decide, Tryz.func187.trans (congrArg some (by kernel_rfl))⟩
  f47 := Tryz.func179.trans (congrArg some (by kernel_rfl))
  f48 := Tryz.func180.trans (congrArg some (by kernel_rfl))
  f49 := ⟨ "slices.medianAdjacentCmpFunc[loop.example/g01311/impl.Note]", by decide, Tryz.func188.trans (congrArg some (by kernel_rfl))⟩
  f50 := ⟨ "slices.medianCmpFunc[loop.example/g01311/impl.Note]", by decide, Tryz.func189.trans (congrArg some (by kernel_rfl))⟩
  f57 := ⟨ "slices.order2CmpFunc[loop.example/g01311/impl.Note]", by decide, Tryz.func191.trans (congrArg some (by kernel_rfl))⟩
  t0 := Tryz.underlying0
  a0 := Tryz.isAgg0
  z0 := Tryz.sizeOf0
  v0 := Tryz.zeroValue0
  t3 := Tryz.underlying3
  a3 := Tryz.isAgg3
  z3 := Tryz.sizeOf3
  v3 := Tryz.zeroValue3
  t4 := Tryz.underlying4
  a4 := Tryz.isAgg4
  z4 := Tryz.sizeOf4
  v4 := Tryz.zeroValue4
  t5 := Tryz.underlying5
  a5 := Tryz.isAgg5
  z5 := Tryz.sizeOf5
  v5 := Tryz.zeroValue5
  t9 := Tryz.underlying9
  a9 := Tryz.isAgg9
  z9 := Tryz.sizeOf9
  v9 := Tryz.zeroValue9
  t22 := Tryz.underlying56
  a22 := Tryz.isAgg56
  z22 := Tryz.sizeOf56
  v22 := Tryz.zeroValue56
  t25 := Tryz.underlying175
  a25 := Tryz.isAgg175
  z25 := Tryz.sizeOf175
  v25 := Tryz.zeroValue175
  t39 := Tryz.underlying169
  a39 := Tryz.isAgg169
  z39 := Tryz.sizeOf169
  v39 := Tryz.zeroValue169
  t45 := Tryz.underlying201
  a45 := Tryz.isAgg201
  z45 := Tryz.sizeOf201
  v45 := Tryz.zeroValue201
  t46 := Tryz.underlying202
  a46 := Tryz.isAgg202
  z46 := Tryz.sizeOf202
  v46 := Tryz.zeroValue202
  t50 := Tryz.underlying206
  a50 := Tryz.isAgg206
  z50 := Tryz.sizeOf206
  v50 := Tryz.zeroValue206
  t53 := Tryz.underlying87
  a53 := Tryz.isAgg87
  z53 := Tryz.sizeOf87
  v53 := Tryz.zeroValue87
  t55 := Tryz.underlying210
  a55 := Tryz.isAgg210
  z55 := Tryz.sizeOf210
  v55 := Tryz.zeroValue210
  t66 := Tryz.underlying221
  a66 := Tryz.isAgg221
  z66 := Tryz.sizeOf221
  v66 := Tryz.zeroValue221
  t70 := Tryz.underlying225
  a70 := Tryz.isAgg225
  z70 := Tryz.sizeOf225
  v70 := Tryz.zeroValue225
  t76 := Tryz.underlying232
  a76 := Tryz.isAgg232
  z76 := Tryz.sizeOf232
  v76 := Tryz.zeroValue232
  t77 := Tryz.underlying233
  a77 := Tryz.isAgg233
  z77 := Tryz.sizeOf233
  v77 := Tryz.zeroValue233
/-! ### slices.SortFunc[[]impl.Note,impl.Note] -/
noncomputable def slices_SortFunc_Note_at_impl_compareNotes (x0 : List GNote) : Option ((List GNote)) := sortF (fun a b => impl_compareNotes a b) x0
set_option maxRecDepth 100000 in
theorem slices_SortFunc_Note_at_impl_compareNotes.calls (x0 : List GNote) (w : World) (r : (List GNote)) (x0_o : Option Nat) (x0_on : Nat) (x0_c : Nat) (x0_sp : List Value) (x0_hn : x0.length = x0_on) (x0_hs : x0_o ≠ none → x0_on ≤ x0_c ∧ x0_sp.length = (x0_c - x0_on) * 2) (x0_ho : x0_o = none → x0 = [] ∧ x0_c = 0) (hm0 : Mem w (bs [x0_o]) [⟨x0_o, 95, row encGNote x0 x0_sp⟩] w) (h : slices_SortFunc_Note_at_impl_compareNotes x0 = some r) :
    Calls Tryz.prog 124 #[(.slice (x0_o.map fun b => ⟨b, 0, none⟩) x0_on x0_c), (.func (.func 125) #[] #[])] w fun e w' => ∃ v, e = .returned v ∧ (r.length = x0_on ∧ (x0_o = none → r = [] ∧ x0_c = 0) ∧ v = .tuple #[] ∧ Mem w (bs [x0_o]) [⟨x0_o, 95, row encGNote r x0_sp⟩] w') := by
  exact sort_calls lay_slices_SortFunc_Note_at_impl_compareNotes 2 Tryz.isAgg95 Tryz.sizeOf95 encGNote encGNote_len (fun x v hv => by simp [encGNote] at hv; rcases hv with rfl | rfl <;> rfl) (fun a b => impl_compareNotes a b) 125 (enters_of Tryz.func125 (by kernel_rfl) rfl) (fun x y r w hxy => impl_compareNotes.calls x y w r hxy) 95 x0 w r x0_o x0_on x0_c x0_sp x0_hn x0_hs x0_ho hm0 (by rw [slices_SortFunc_Note_at_impl_compareNotes] at h; exact h)

/-! ### slices.Compact[[]impl.Note,impl.Note] -/
noncomputable def slices_Compact_Note.k_1 (s0 : List GNote) : Option ((List GNote)) := some s0
noncomputable def slices_Compact_Note.k_9 (xs_7 : List GNote) (i_8 : Int) : Option ((Int) ⊕ ((List GNote) ⊕ Unit)) := (if 0 ≤ i_8 ∧ i_8 ≤ (xs_7.length : Int) then some (.inr (.inl (xs_7.take i_8.toNat))) else none)
noncomputable def slices_Compact_Note.l_13 (s0 : List GNote) (i_2 : Int) : ((List GNote) × Int × Int) → Option (((List GNote) × Int × Int) ⊕ (((List GNote) × Int)))
  | (xs_10, i_11, i_12) => (if (decide (i_12 < (((s0.length - i_2.toNat) : Nat) : Int))) = true then (ix (xs_10.drop i_2.toNat) i_12).bind fun x_15 => (ix (xs_10.drop i_2.toNat) (w64 (i_12 - 1))).bind fun x_16 => (if (!((x_15.fAt == x_16.fAt) && (x_15.fPitch == x_16.fPitch))) = true then (ix (xs_10.drop i_2.toNat) i_12).bind fun x_17 => (ix xs_10 i_11).bind fun x_18 => some (.inl ((xs_10.set i_11.toNat x_17), (w64 (i_11 + 1)), (w64 (i_12 + 1)))) else some (.inl (xs_10, i_11, (w64 (i_12 + 1))))) else some (.inr (xs_10, i_11)))
noncomputable def slices_Compact_Note.l_3 (s0 : List GNote) : Int → Option ((Int) ⊕ ((List GNote) ⊕ Unit))
  | i_2 => (if (decide (i_2 < (s0.length : Int))) = true then (ix s0 i_2).bind fun x_5 => (ix s0 (w64 (i_2 - 1))).bind fun x_6 => (if ((x_5.fAt == x_6.fAt) && (x_5.fPitch == x_6.fPitch)) = true then (if 0 ≤ i_2 ∧ i_2 ≤ (s0.length : Int) then (loop (slices_Compact_Note.l_13 s0 i_2) (s0, i_2, 1)).bind fun t_14 => slices_Compact_Note.k_9 t_14.1 t_14.2 else none) else some (.inl (w64 (i_2 + 1)))) else some (.inr (.inr ())))
noncomputable def slices_Compact_Note (s0 : List GNote) : Option ((List GNote)) := (if (decide ((s0.length : Int) < 2)) = true then some s0 else (loop (slices_Compact_Note.l_3 s0) 1).bind fun t_4 => match t_4 with | .inl p => some p | .inr p => slices_Compact_Note.k_1 s0)
set_option maxRecDepth 100000 in
theorem slices_Compact_Note.calls (s0 : List GNote) (w : World) (r : (List GNote)) (s0_o : Option Nat) (s0_on : Nat) (s0_c : Nat) (s0_sp : List Value) (s0_hn : s0.length = s0_on) (s0_hs : s0_o ≠ none → s0_on ≤ s0_c ∧ s0_sp.length = (s0_c - s0_on) * 2) (s0_ho : s0_o = none → s0 = [] ∧ s0_c = 0) (hm0 : Mem w (bs [s0_o]) [⟨s0_o, 95, row encGNote s0 s0_sp⟩] w) (h : slices_Compact_Note s0 = some r) :
    Calls Tryz.prog 126 #[(.slice (s0_o.map fun b => ⟨b, 0, none⟩) s0_on s0_c)] w fun e w' => ∃ v, e = .returned v ∧ (∃ (o0 : Option Nat) (c0 : Nat) (s0 : List Value) (n0 : Nat), r.length = n0 ∧ (o0 ≠ none → n0 ≤ c0 ∧ s0.length = (c0 - n0) * 2) ∧ (o0 = none → r = [] ∧ c0 = 0) ∧ v = .slice (o0.map fun b => ⟨b, 0, none⟩) n0 c0 ∧ Mem w (bs [s0_o]) [⟨o0, 95, row encGNote r s0⟩] w') := by
  subst s0_hn
  rw [slices_Compact_Note] at h
  refine enter (args := [(.slice (s0_o.map fun b => ⟨b, 0, none⟩) s0.length s0_c)]) Tryz.func126 rfl Tryz.ntmps126 (by kernel_rfl) (L := [⟨s0_o, 95, row encGNote s0 s0_sp⟩]) (W := bs [s0_o]) hm0 ?_
  refine jc_seq ?_
  refine jc_region ?_
  refine jo_f [(0, 0)] (by kernel_rfl) ?_
  refine jo_end (by kernel_rfl) ?_
  refine jx_then ?_
  refine jc_seq ?_
  refine jc_seq ?_
  refine jc_region ?_
  refine jo_f [(0, 0), (0, 0), (0, 0)] (by kernel_rfl) ?_
  refine jo_end (by kernel_rfl) ?_
  refine jx_then ?_
  refine jc_cond (decide ((s0.length : Int) < 2)) (by kernel_rfl) (fun hc_2 => ?_) (fun hc_2 => ?_)
  · replace h := ifT hc_2 h
    refine jc_seq ?_
    refine jc_region ?_
    refine jo_f [(0, 0), (0, 0)] (by kernel_rfl) ?_
    refine jo_end (by kernel_rfl) ?_
    refine jx_then ?_
    refine jc_ret ?_
    refine jx_thenr ?_
    obtain rfl := Option.some.inj h
    exact jx_ret [] (.slice (s0_o.map fun b => ⟨b, 0, none⟩) s0.length s0_c) [] rfl (by kernel_rfl) (by kernel_rfl) (fun w hm => ⟨s0_o, s0_c, s0_sp, s0.length, rfl, s0_hs, s0_ho, rfl, hm.pick [0] (by kernel_rfl) (by kernel_rfl)⟩)
  · replace h := ifF hc_2 h
    refine jc_skip ?_
    refine jx_then ?_
    refine jc_seq ?_
    refine jc_seq ?_
    refine jc_region ?_
    refine jo_f [(0, 0)] (by kernel_rfl) ?_
    refine jo_end (by kernel_rfl) ?_
    refine jx_then ?_
    refine jc_meet (fun (_ : Unit) => slices_Compact_Note.k_1 s0 = some r) (fun (_ : Unit) => [(0, [], (.slice (s0_o.map fun b => ⟨b, 0, none⟩) s0.length s0_c)), (2, [], (.slice none 0 0))]) (fun (_ : Unit) => [⟨s0_o, 95, row encGNote s0 s0_sp⟩]) ?_ ?_
    · refine jc_block ?_
      obtain ⟨t_4, ht_1582, hr_1448⟩ := bd h
      refine jc_loop (fun (s : Int) (x : Unit) => match s, x with | i_2, _ => True) (fun (s : Int) (x : Unit) => match s, x with | i_2, _ => [(0, [], (.slice (s0_o.map fun b => ⟨b, 0, none⟩) s0.length s0_c)), (2, [], (.slice none 0 0)), (3, [], (.int .i64 i_2))]) (fun (s : Int) (x : Unit) => match s, x with | i_2, _ => [⟨s0_o, 95, row encGNote s0 s0_sp⟩]) ht_1582 () trivial (by kernel_rfl) [0] (by kernel_rfl) (by kernel_rfl) ?_
      rintro i_2 _ y_1449 _ h
      rw [slices_Compact_Note.l_3] at h
      refine jc_seq ?_
      refine jc_seq ?_
      refine jc_region ?_
      refine jo_f [(0, 0), (0, 0), (0, 0), (0, 0)] (by kernel_rfl) ?_
      refine jo_end (by kernel_rfl) ?_
      refine jx_then ?_
      refine jc_cond (decide (i_2 < (s0.length : Int))) (by kernel_rfl) (fun hc_1451 => ?_) (fun hc_1451 => ?_)
      · replace h := ifT hc_1451 h
        refine jc_skip ?_
        refine jx_then ?_
        refine jc_seq ?_
        refine jc_block ?_
        refine jc_seq ?_
        refine jc_draw [⟨s0_o, 95, row encGNote s0 s0_sp⟩] 10 (by kernel_rfl) (by kernel_rfl) ?_
        refine jd_f [⟨0, 0, 0⟩, ⟨1, 0, 0⟩, ⟨4, 0, 0⟩, ⟨5, 0, 0⟩, ⟨6, 0, 0⟩] 5 (by kernel_rfl) (by kernel_rfl) (fun w h => h.pick [0] (by kernel_rfl) (by kernel_rfl)) (by kernel_rfl) (by kernel_rfl) ?_
        obtain ⟨x_5, hx_1452, h⟩ := bd h
        refine jd_v 2 0 (by kernel_rfl) (fun w h => h.pick [0] (by kernel_rfl) (by kernel_rfl)) (by kernel_rfl) (by kernel_rfl) _ (fun w hm => idx_run (a := (s0_o.map fun b => ⟨b, 0, none⟩)) (len := s0.length) (s := 2) (j := i_2) (by kernel_rfl) (ix_some hx_1452).1 (ltn hx_1452 rfl) (spo s0_ho hx_1452)) ?_
        refine jd_v 3 0 (by kernel_rfl) (fun w h => h.pick [0] (by kernel_rfl) (by kernel_rfl)) (by kernel_rfl) (by kernel_rfl) _ (fun w hm => ld_run (b := aB (s0_o.map fun b => ⟨b, 0, none⟩)) (off := (aO (s0_o.map fun b => ⟨b, 0, none⟩) + i_2.toNat * 2)) (s := 2) (agg := true) (vs := (encGNote x_5)) (by kernel_rfl) (by kernel_rfl) (.inl rfl) ((hm.ownRow (hh := 0) (o := s0_o) (T := 95) (enc := encGNote) (xs := s0) (sp := s0_sp) (by kernel_rfl) (fun e => (s0_ho e).1) encGNote_len).at hx_1452)) ?_
        obtain ⟨x_6, hx_1453, h⟩ := bd h
        refine jd_v 7 0 (by kernel_rfl) (fun w h => h.pick [0] (by kernel_rfl) (by kernel_rfl)) (by kernel_rfl) (by kernel_rfl) _ (fun w hm => idx_run (a := (s0_o.map fun b => ⟨b, 0, none⟩)) (len := s0.length) (s := 2) (j := (w64 (i_2 - 1))) (by kernel_rfl) (ix_some hx_1453).1 (ltn hx_1453 rfl) (spo s0_ho hx_1453)) ?_
        refine jd_v 8 0 (by kernel_rfl) (fun w h => h.pick [0] (by kernel_rfl) (by kernel_rfl)) (by kernel_rfl) (by kernel_rfl) _ (fun w hm => ld_run (b := aB (s0_o.map fun b => ⟨b, 0, none⟩)) (off := (aO (s0_o.map fun b => ⟨b, 0, none⟩) + (w64 (i_2 - 1)).toNat * 2)) (s := 2) (agg := true) (vs := (encGNote x_6)) (by kernel_rfl) (by kernel_rfl) (.inl rfl) ((hm.ownRow (hh := 0) (o := s0_o) (T := 95) (enc := encGNote) (xs := s0) (sp := s0_sp) (by kernel_rfl) (fun e => (s0_ho e).1) encGNote_len).at hx_1453)) ?_
        refine jd_f [⟨9, 0, 0⟩] 0 (by kernel_rfl) (by kernel_rfl) (fun w h => h.pick [0] (by kernel_rfl) (by kernel_rfl)) (by kernel_rfl) (by kernel_rfl) ?_
        refine jd_end (by kernel_rfl) ?_
        refine jx_then ?_
        refine jc_cond ((x_5.fAt == x_6.fAt) && (x_5.fPitch == x_6.fPitch)) (by kernel_rfl) (fun hc_1454 => ?_) (fun hc_1454 => ?_)
        · replace h := ifT hc_1454 h
          refine jc_seq ?_
          refine jc_region ?_
          refine jo_f [(0, 0), (0, 0)] (by kernel_rfl) ?_
          obtain ⟨hg_1455, h⟩ := gd h
          refine toO (by kernel_rfl) (p_slL 0 (s0_o.map fun b => ⟨b, 0, none⟩) s0.length s0_c 2 i_2 (by kernel_rfl) (by kernel_rfl) hg_1455.1 (Int.le_trans hg_1455.2 (Int.ofNat_le.2 (Nat.le_of_eq rfl))) (jkO ?_))
          refine jo_f [(0, 0)] (by kernel_rfl) ?_
          refine jo_end (by kernel_rfl) ?_
          refine jx_then ?_
          refine jc_seq ?_
          refine jc_seq ?_
          refine jc_region ?_
          refine jo_f [(0, 0)] (by kernel_rfl) ?_
          refine jo_end (by kernel_rfl) ?_
          refine jx_then ?_
          refine jc_meet (fun (j : (List GNote) × Int) => match j with | ⟨xs_7, i_8⟩ => slices_Compact_Note.k_9 xs_7 i_8 = some y_1449 ∧ (xs_7.length = s0.length) ∧ ((s0_o = none → xs_7 = [] ∧ s0_c = 0))) (fun (j : (List GNote) × Int) => match j with | ⟨xs_7, i_8⟩ => [(0, [], (.slice (s0_o.map fun b => ⟨b, 0, none⟩) s0.length s0_c)), (2, [], (.slice none 0 0)), (3, [], (.int .i64 i_8))]) (fun (j : (List GNote) × Int) => match j with | ⟨xs_7, i_8⟩ => [⟨s0_o, 95, row encGNote xs_7 s0_sp⟩]) ?_ ?_
          · refine jc_block ?_
            obtain ⟨t_14, ht_1580, hr_1570⟩ := bd h
            refine jc_loop (fun (s : (List GNote) × Int × Int) (x : Unit) => match s, x with | ⟨xs_10, i_11, i_12⟩, _ => (xs_10.length = s0.length) ∧ ((s0_o = none → xs_10 = [] ∧ s0_c = 0))) (fun (s : (List GNote) × Int × Int) (x : Unit) => match s, x with | ⟨xs_10, i_11, i_12⟩, _ => [(0, [], (.slice (s0_o.map fun b => ⟨b, 0, none⟩) s0.length s0_c)), (2, [], (.slice none 0 0)), (3, [], (.int .i64 i_11)), (4, [], (.slice (pa (s0_o.map fun b => ⟨b, 0, none⟩) i_2.toNat s0_c 2) (s0.length - i_2.toNat) (s0_c - i_2.toNat))), (5, [], (.int .i64 i_12))]) (fun (s : (List GNote) × Int × Int) (x : Unit) => match s, x with | ⟨xs_10, i_11, i_12⟩, _ => [⟨s0_o, 95, row encGNote xs_10 s0_sp⟩]) ht_1580 () ⟨rfl, s0_ho⟩ (by kernel_rfl) [0] (by kernel_rfl) (by kernel_rfl) ?_
            rintro ⟨xs_10, i_11, i_12⟩ _ y_1571 ⟨hn_1569, ho_1568⟩ h
            rw [slices_Compact_Note.l_13] at h
            refine jc_seq ?_
            refine jc_seq ?_
            refine jc_region ?_
            refine jo_f [(0, 0), (0, 0), (0, 0), (0, 0)] (by kernel_rfl) ?_
            refine jo_end (by kernel_rfl) ?_
            refine jx_then ?_
            refine jc_cond (decide (i_12 < (((s0.length - i_2.toNat) : Nat) : Int))) (by kernel_rfl) (fun hc_1573 => ?_) (fun hc_1573 => ?_)
            · replace h := ifT hc_1573 h
              refine jc_skip ?_
              refine jx_then ?_
              refine jc_seq ?_
              refine jc_block ?_
              refine jc_seq ?_
              refine jc_draw [⟨s0_o, 95, row encGNote xs_10 s0_sp⟩] 10 (by kernel_rfl) (by kernel_rfl) ?_
              refine jd_f [⟨0, 0, 0⟩, ⟨1, 0, 0⟩, ⟨4, 0, 0⟩, ⟨5, 0, 0⟩, ⟨6, 0, 0⟩] 5 (by kernel_rfl) (by kernel_rfl) (fun w h => h.pick [0] (by kernel_rfl) (by kernel_rfl)) (by kernel_rfl) (by kernel_rfl) ?_
              obtain ⟨x_15, hx_1574, h⟩ := bd h
              refine jd_v 2 0 (by kernel_rfl) (fun w h => h.pick [0] (by kernel_rfl) (by kernel_rfl)) (by kernel_rfl) (by kernel_rfl) _ (fun w hm => idx_run (a := (pa (s0_o.map fun b => ⟨b, 0, none⟩) i_2.toNat s0_c 2)) (len := (s0.length - i_2.toNat)) (s := 2) (j := i_12) (by kernel_rfl) (ix_some hx_1574).1 (ltn hx_1574 (tl_len hn_1569 (i_2))) (spo_tl (o := s0_o) (m := 2) ho_1568 hx_1574)) ?_
              refine jd_v 3 0 (by kernel_rfl) (fun w h => h.pick [0] (by kernel_rfl) (by kernel_rfl)) (by kernel_rfl) (by kernel_rfl) _ (fun w hm => ld_run (b := aB (pa (s0_o.map fun b => ⟨b, 0, none⟩) i_2.toNat s0_c 2)) (off := (aO (pa (s0_o.map fun b => ⟨b, 0, none⟩) i_2.toNat s0_c 2) + i_12.toNat * 2)) (s := 2) (agg := true) (vs := (encGNote x_15)) (by kernel_rfl) (by kernel_rfl) (.inl rfl) (((hm.ownRow (hh := 0) (o := s0_o) (T := 95) (enc := encGNote) (xs := xs_10) (sp := s0_sp) (by kernel_rfl) (fun e => (ho_1568 e).1) encGNote_len).tl i_2.toNat s0_c (cap_le hn_1569 s0_hs ho_1568)).at hx_1574)) ?_
              obtain ⟨x_16, hx_1575, h⟩ := bd h
              refine jd_v 7 0 (by kernel_rfl) (fun w h => h.pick [0] (by kernel_rfl) (by kernel_rfl)) (by kernel_rfl) (by kernel_rfl) _ (fun w hm => idx_run (a := (pa (s0_o.map fun b => ⟨b, 0, none⟩) i_2.toNat s0_c 2)) (len := (s0.length - i_2.toNat)) (s := 2) (j := (w64 (i_12 - 1))) (by kernel_rfl) (ix_some hx_1575).1 (ltn hx_1575 (tl_len hn_1569 (i_2))) (spo_tl (o := s0_o) (m := 2) ho_1568 hx_1575)) ?_
              refine jd_v 8 0 (by kernel_rfl) (fun w h => h.pick [0] (by kernel_rfl) (by kernel_rfl)) (by kernel_rfl) (by kernel_rfl) _ (fun w hm => ld_run (b := aB (pa (s0_o.map fun b => ⟨b, 0, none⟩) i_2.toNat s0_c 2)) (off := (aO (pa (s0_o.map fun b => ⟨b, 0, none⟩) i_2.toNat s0_c 2) + (w64 (i_12 - 1)).toNat * 2)) (s := 2) (agg := true) (vs := (encGNote x_16)) (by kernel_rfl) (by kernel_rfl) (.inl rfl) (((hm.ownRow (hh := 0) (o := s0_o) (T := 95) (enc := encGNote) (xs := xs_10) (sp := s0_sp) (by kernel_rfl) (fun e => (ho_1568 e).1) encGNote_len).tl i_2.toNat s0_c (cap_le hn_1569 s0_hs ho_1568)).at hx_1575)) ?_
              refine jd_f [⟨9, 0, 0⟩] 0 (by kernel_rfl) (by kernel_rfl) (fun w h => h.pick [0] (by kernel_rfl) (by kernel_rfl)) (by kernel_rfl) (by kernel_rfl) ?_
              refine jd_end (by kernel_rfl) ?_
              refine jx_then ?_
              refine jc_cond (!((x_15.fAt == x_16.fAt) && (x_15.fPitch == x_16.fPitch))) (by kernel_rfl) (fun hc_1576 => ?_) (fun hc_1576 => ?_)
              · replace h := ifT hc_1576 h
                refine jc_seq ?_
                refine jc_region ?_
                refine jo_f [(0, 0), (0, 0), (0, 0), (0, 0)] (by kernel_rfl) ?_
                obtain ⟨x_17, hx_1577, h⟩ := bd h
                refine toO (by kernel_rfl) (p_idx 0 (pa (s0_o.map fun b => ⟨b, 0, none⟩) i_2.toNat s0_c 2) (s0.length - i_2.toNat) i_12 2 (by kernel_rfl) (by kernel_rfl) (ix_some hx_1577).1 (ltn hx_1577 (tl_len hn_1569 (i_2))) (spo_tl (o := s0_o) (m := 2) ho_1568 hx_1577) (jkO ?_))
                refine toO (by kernel_rfl) (p_ld 0 (aB (pa (s0_o.map fun b => ⟨b, 0, none⟩) i_2.toNat s0_c 2)) (aO (pa (s0_o.map fun b => ⟨b, 0, none⟩) i_2.toNat s0_c 2) + i_12.toNat * 2) true (encGNote x_17) (by kernel_rfl) (by kernel_rfl) (by kernel_rfl) (fun w hm => (((hm.ownRow (hh := 0) (o := s0_o) (T := 95) (enc := encGNote) (xs := xs_10) (sp := s0_sp) (by kernel_rfl) (fun e => (ho_1568 e).1) encGNote_len).tl i_2.toNat s0_c (cap_le hn_1569 s0_hs ho_1568)).at hx_1577)) (jkO ?_))
                obtain ⟨x_18, hx_1578, h⟩ := bd h
                refine toO (by kernel_rfl) (p_idx 0 (s0_o.map fun b => ⟨b, 0, none⟩) s0.length i_11 2 (by kernel_rfl) (by kernel_rfl) (ix_some hx_1578).1 (ltn hx_1578 hn_1569) (spo ho_1568 hx_1578) (jkO ?_))
                refine toO (by kernel_rfl) (p_strO 0 0 s0_o 95 encGNote xs_10 s0_sp i_11 x_17 2 0 [(.int .i16 x_17.fAt), (.int .i8 x_17.fPitch)] (by kernel_rfl) (by kernel_rfl) (by kernel_rfl) (fun e => (ho_1568 e).1) encGNote_len hx_1578 (by kernel_rfl) (by kernel_rfl) (jkO ?_))
                refine jo_end (by kernel_rfl) ?_
                refine jx_then ?_
                refine jc_region ?_
                refine jo_f [(0, 0), (0, 0), (0, 0)] (by kernel_rfl) ?_
                refine jo_end (by kernel_rfl) ?_
                refine jx_inn ?_
                refine jx_then ?_
                refine jc_region ?_
                refine jo_f [(0, 0), (0, 0), (0, 0)] (by kernel_rfl) ?_
                refine jo_end (by kernel_rfl) ?_
                exact jx_back ((xs_10.set i_11.toNat x_17), (w64 (i_11 + 1)), (w64 (i_12 + 1))) () (Option.some.inj h).symm ⟨(List.length_set.trans hn_1569), (set_ho ho_1568)⟩ [0] (by kernel_rfl) (by kernel_rfl) (by kernel_rfl)
              · replace h := ifF hc_1576 h
                refine jc_skip ?_
                refine jx_inn ?_
                refine jx_then ?_
                refine jc_region ?_
                refine jo_f [(0, 0), (0, 0), (0, 0)] (by kernel_rfl) ?_
                refine jo_end (by kernel_rfl) ?_
                exact jx_back (xs_10, i_11, (w64 (i_12 + 1))) () (Option.some.inj h).symm ⟨hn_1569, ho_1568⟩ [0] (by kernel_rfl) (by kernel_rfl) (by kernel_rfl)
            · replace h := ifF hc_1573 h
              refine jc_exit ?_
              refine jx_thenx ?_
              refine jx_leave (xs_10, i_11) (Option.some.inj h).symm (fun e_1579 => ?_)
              subst e_1579
              refine jx_ine ?_
              exact jx_meet ⟨xs_10, i_11⟩ ⟨hr_1570, hn_1569, ho_1568⟩ (by kernel_rfl) [0] (by kernel_rfl) (by kernel_rfl)
          · rintro ⟨xs_7, i_8⟩ ⟨h, hn_1546, ho_1545⟩
            replace h : slices_Compact_Note.k_9 xs_7 i_8 = some y_1449 := h
            rw [slices_Compact_Note.k_9] at h
            refine jx_then ?_
            refine jc_seq ?_
            refine jc_region ?_
            refine jo_f [(0, 0), (0, 0)] (by kernel_rfl) ?_
            obtain ⟨hg_1547, h⟩ := gd h
            refine toO (by kernel_rfl) (p_slL 0 (s0_o.map fun b => ⟨b, 0, none⟩) s0.length s0_c 2 i_8 (by kernel_rfl) (by kernel_rfl) hg_1547.1 (Int.le_trans hg_1547.2 (Int.ofNat_le.2 (Nat.le_of_eq hn_1546))) (jkO ?_))
            refine toO (by kernel_rfl) (jp_cut (hh := 0) (o := s0_o) (T := 95) (enc := encGNote) (xs := xs_7) (sp := s0_sp) i_8.toNat (by kernel_rfl) (p_clr 0 0 s0_o 95 i_8.toNat i_8.toNat (s0.length - i_8.toNat) s0_c 2 [(.int .i16 0), (.int .i8 0)] encGNote (xs_7.take i_8.toNat) ((xs_7.drop i_8.toNat).flatMap encGNote ++ s0_sp) (hd_len hg_1547) rfl (by kernel_rfl) (by kernel_rfl) (by kernel_rfl) encGNote_len (by kernel_rfl) (cut_hs encGNote_len (show i_8.toNat ≤ xs_7.length by have := hg_1547; omega) hn_1546 s0_hs) (cut_ho i_8.toNat ho_1545) (by have := (cap_le hn_1546 s0_hs ho_1545); have : xs_7.length = s0.length := hn_1546; omega) (fun sp_1548 hl_1549 => jkO ?_)))
            refine jo_end (by kernel_rfl) ?_
            refine jx_then ?_
            refine jc_seq ?_
            refine jc_region ?_
            refine jo_f [(0, 0), (0, 0)] (by kernel_rfl) ?_
            refine toO (by kernel_rfl) (p_slH 0 (s0_o.map fun b => ⟨b, 0, none⟩) s0.length s0_c 2 i_8 (by kernel_rfl) (by kernel_rfl) hg_1547.1 (by have h1 := (cap_le (hd_len hg_1547) (fun e => ⟨((cut_hs encGNote_len (show i_8.toNat ≤ xs_7.length by have := hg_1547; omega) hn_1546 s0_hs) e).1, hl_1549.trans ((cut_hs encGNote_len (show i_8.toNat ≤ xs_7.length by have := hg_1547; omega) hn_1546 s0_hs) e).2⟩) (cut_ho i_8.toNat ho_1545)); have h2 := (hd_len hg_1547); omega) (jkO ?_))
            refine jo_f [(0, 0)] (by kernel_rfl) ?_
            refine jo_end (by kernel_rfl) ?_
            refine jx_then ?_
            refine jc_ret ?_
            refine jx_inr ?_
            refine jx_thenr ?_
            refine jx_leaver (.inl (xs_7.take i_8.toNat)) (Option.some.inj h).symm (fun e_1551 => ?_)
            subst e_1551
            refine jx_inr ?_
            refine jx_thenr ?_
            refine jx_thenr ?_
            obtain rfl := Option.some.inj hr_1448
            exact jx_ret [] (.slice (s0_o.map fun b => ⟨b, 0, none⟩) i_8.toNat s0_c) [] rfl (by kernel_rfl) (by kernel_rfl) (fun w hm => ⟨s0_o, s0_c, sp_1548, i_8.toNat, (hd_len hg_1547), (fun e => ⟨((cut_hs encGNote_len (show i_8.toNat ≤ xs_7.length by have := hg_1547; omega) hn_1546 s0_hs) e).1, hl_1549.trans ((cut_hs encGNote_len (show i_8.toNat ≤ xs_7.length by have := hg_1547; omega) hn_1546 s0_hs) e).2⟩), (cut_ho i_8.toNat ho_1545), rfl, hm.pick [0] (by kernel_rfl) (by kernel_rfl)⟩)
        · replace h := ifF hc_1454 h
          refine jc_skip ?_
          refine jx_inn ?_
          refine jx_then ?_
          refine jc_region ?_
          refine jo_f [(0, 0), (0, 0), (0, 0)] (by kernel_rfl) ?_
          refine jo_end (by kernel_rfl) ?_
          exact jx_back (w64 (i_2 + 1)) () (Option.some.inj h).symm trivial [0] (by kernel_rfl) (by kernel_rfl) (by kernel_rfl)
      · replace h := ifF hc_1451 h
        refine jc_exit ?_
        refine jx_thenx ?_
        refine jx_leave (.inr ()) (Option.some.inj h).symm (fun e_1581 => ?_)
        subst e_1581
        refine jx_ine ?_
        exact jx_meet () hr_1448 (by kernel_rfl) [0] (by kernel_rfl) (by kernel_rfl)
    · rintro _ h
      replace h : slices_Compact_Note.k_1 s0 = some r := h
      rw [slices_Compact_Note.k_1] at h
      refine jx_then ?_
      refine jc_seq ?_
      refine jc_region ?_
      refine jo_f [(0, 0), (0, 0)] (by kernel_rfl) ?_
      refine jo_end (by kernel_rfl) ?_
      refine jx_then ?_
      refine jc_ret ?_
      obtain rfl := Option.some.inj h
      exact jx_ret [] (.slice (s0_o.map fun b => ⟨b, 0, none⟩) s0.length s0_c) [] rfl (by kernel_rfl) (by kernel_rfl) (fun w hm => ⟨s0_o, s0_c, s0_sp, s0.length, rfl, s0_hs, s0_ho, rfl, hm.pick [0] (by kernel_rfl) (by kernel_rfl)⟩)

/-! ### impl.made -/
noncomputable def impl_made (list0 : List GNote) : Option ((List GNote)) := (slices_Clone_Note list0).bind fun t_1 => (slices_SortFunc_Note_at_impl_compareNotes t_1).bind fun t_2 => (slices_Compact_Note t_2).bind fun t_3 => some t_3
set_option maxRecDepth 100000 in
theorem impl_made.calls (list0 : List GNote) (w : World) (r : (List GNote)) (list0_a : Option Addr) (list0_an : Nat) (list0_c : Nat) (list0_h : Rw w list0_a 2 encGNote list0) (list0_hn : list0.length = list0_an) (h : impl_made list0 = some r) :
    Calls Tryz.prog 95 #[(.slice list0_a list0_an list0_c)] w fun e w' => ∃ v, e = .returned v ∧ (∃ (o0 : Option Nat) (c0 : Nat) (s0 : List Value) (n0 : Nat), r.length = n0 ∧ (o0 ≠ none → n0 ≤ c0 ∧ s0.length = (c0 - n0) * 2) ∧ (o0 = none → r = [] ∧ c0 = 0) ∧ v = .slice (o0.map fun b => ⟨b, 0, none⟩) n0 c0 ∧ Mem w [] [⟨o0, 95, row encGNote r s0⟩] w') := by
  subst list0_hn
  rw [impl_made] at h
  refine enter (args := [(.slice list0_a list0.length list0_c)]) Tryz.func95 rfl Tryz.ntmps95 (by kernel_rfl) (L := []) (W := []) (Mem.start w) ?_
  refine jc_seq ?_
  refine jc_region ?_
  refine jo_f [(0, 0)] (by kernel_rfl) ?_
  refine jo_end (by kernel_rfl) ?_
  refine jx_then ?_
  refine jc_seq ?_
  refine jc_region ?_
  refine jo_f [(0, 0)] (by kernel_rfl) ?_
  obtain ⟨t_1, ht_1, h⟩ := bd h
  refine toO (by kernel_rfl) (p_call 0 123 #[(.slice list0_a list0.length list0_c)] (by kernel_rfl) (by kernel_rfl) (fun w hm => slices_Clone_Note.calls list0 w _ list0_a list0.length list0_c (hm.exRow list0_h List.not_mem_nil) rfl ht_1) ?_)
  rintro w v w' hm ⟨o_2, cap_3, sp_4, _, rfl, hs_5, ho_6, rfl, hm'⟩
  refine ⟨_, hm.app hm', jkO ?_⟩
  clear hm hm'
  refine jo_f [(0, 0)] (by kernel_rfl) ?_
  refine jo_end (by kernel_rfl) ?_
  refine jx_then ?_
  refine jc_seq ?_
  refine jc_region ?_
  refine jo_f [(0, 0)] (by kernel_rfl) ?_
  obtain ⟨t_2, ht_7, h⟩ := bd h
  refine toO (by kernel_rfl) (p_call 0 124 #[(.slice (o_2.map fun b => ⟨b, 0, none⟩) t_1.length cap_3), (.func (.func 125) #[] #[])] (by kernel_rfl) (by kernel_rfl) (fun w hm => slices_SortFunc_Note_at_impl_compareNotes.calls t_1 w _ o_2 t_1.length cap_3 sp_4 rfl hs_5 ho_6 (hm.pass (N := [⟨o_2, 95, row encGNote t_1 sp_4⟩]) [0] (by kernel_rfl) (by kernel_rfl)) ht_7) ?_)
  rintro w v w' hm ⟨hn_8, ho_9, rfl, hm'⟩
  refine ⟨_, hm.appW (ps := [(0, ⟨o_2, 95, row encGNote t_2 sp_4⟩)]) (N := []) hm' (by kernel_rfl) (by kernel_rfl), jkO ?_⟩
  clear hm hm'
  refine jo_end (by kernel_rfl) ?_
  refine jx_then ?_
  refine jc_seq ?_
  refine jc_region ?_
  refine jo_f [(0, 0)] (by kernel_rfl) ?_
  obtain ⟨t_3, ht_10, h⟩ := bd h
  refine toO (by kernel_rfl) (p_call 0 126 #[(.slice (o_2.map fun b => ⟨b, 0, none⟩) t_1.length cap_3)] (by kernel_rfl) (by kernel_rfl) (fun w hm => slices_Compact_Note.calls t_2 w _ o_2 t_1.length cap_3 sp_4 hn_8 hs_5 ho_9 (hm.pass (N := [⟨o_2, 95, row encGNote t_2 sp_4⟩]) [0] (by kernel_rfl) (by kernel_rfl)) ht_10) ?_)
  rintro w v w' hm ⟨o_11, cap_12, sp_13, _, rfl, hs_14, ho_15, rfl, hm'⟩
  refine ⟨_, hm.appP (ps := []) (ds := [0]) (N := [⟨o_11, 95, row encGNote t_3 sp_13⟩]) hm' [0] (by kernel_rfl) (by kernel_rfl) (by kernel_rfl), jkO ?_⟩
  clear hm hm'
  refine jo_f [(0, 0)] (by kernel_rfl) ?_
  refine jo_end (by kernel_rfl) ?_
  refine jx_then ?_
  refine jc_ret ?_
  obtain rfl := Option.some.inj h
  exact jx_ret [] (.slice (o_11.map fun b => ⟨b, 0, none⟩) t_3.length cap_12) [] rfl (by kernel_rfl) (by kernel_rfl) (fun w hm => ⟨o_11, cap_12, sp_13, t_3.length, rfl, hs_14, ho_15, rfl, hm.pick [1] (by kernel_rfl) (by kernel_rfl)⟩)

/-! ### (impl.Frame).played -/
noncomputable def impl_Frame_played (f0 : GFrame) (d1 : Arr 96 Int) (from2 : Int) (steps3 : Int) : Option ((List GNote)) := (impl_Frame_pins_at_impl_Frame_played_1 f0 d1 from2 steps3 ([] : List GNote) f0).bind fun t_1 => (impl_made t_1).bind fun t_2 => some t_2
set_option maxRecDepth 100000 in
theorem impl_Frame_played.calls (f0 : GFrame) (d1 : Arr 96 Int) (from2 : Int) (steps3 : Int) (w : World) (r : (List GNote)) (f0_fHammers_a : Option Addr) (f0_fHammers_an : Nat) (f0_fHammers_c : Nat) (f0_fHammers_h : Rw w f0_fHammers_a 2 encGHammer f0.fHammers) (f0_fHammers_hn : f0.fHammers.length = f0_fHammers_an) (h : impl_Frame_played f0 d1 from2 steps3 = some r) :
    Calls Tryz.prog 58 #[(.agg #[(.int .i16 f0.fSteps), (.slice f0_fHammers_a f0_fHammers_an f0_fHammers_c)]), (.agg (row encU32 d1.1 []).toArray), (.int .i64 from2), (.int .i64 steps3)] w fun e w' => ∃ v, e = .returned v ∧ (∃ (o0 : Option Nat) (c0 : Nat) (s0 : List Value) (n0 : Nat), r.length = n0 ∧ (o0 ≠ none → n0 ≤ c0 ∧ s0.length = (c0 - n0) * 2) ∧ (o0 = none → r = [] ∧ c0 = 0) ∧ v = .slice (o0.map fun b => ⟨b, 0, none⟩) n0 c0 ∧ Mem w [] [⟨o0, 95, row encGNote r s0⟩] w') := by
  subst f0_fHammers_hn
  rw [impl_Frame_played] at h
  refine enter (args := [(.agg #[(.int .i16 f0.fSteps), (.slice f0_fHammers_a f0.fHammers.length f0_fHammers_c)]), (.agg (row encU32 d1.1 []).toArray), (.int .i64 from2), (.int .i64 steps3)]) Tryz.func58 rfl Tryz.ntmps58 (by kernel_rfl) (L := []) (W := []) (Mem.start w) ?_
  refine jc_seq ?_
  refine jc_region ?_
  refine toO (by kernel_rfl) (p_a 0 [0] (by kernel_rfl) (fun b => by kernel_rfl) (fun b_1 => jkO ?_))
  refine toO (by kernel_rfl) (p_a 0 [0] (by kernel_rfl) (fun b => by kernel_rfl) (fun b_2 => jkO ?_))
  refine toO (by kernel_rfl) (p_a 0 [0] (by kernel_rfl) (fun b => by kernel_rfl) (fun b_3 => jkO ?_))
  refine toO (by kernel_rfl) (p_a 0 [0] (by kernel_rfl) (fun b => by kernel_rfl) (fun b_4 => jkO ?_))
  refine jo_f [(0, 0)] (by kernel_rfl) ?_
  refine jo_end (by kernel_rfl) ?_
  refine jx_then ?_
  refine jc_seq ?_
  refine jc_region ?_
  refine toO (by kernel_rfl) (p_a 0 [0] (by kernel_rfl) (fun b => by kernel_rfl) (fun b_5 => jkO ?_))
  refine toO (by kernel_rfl) (p_a 0 [0] (by kernel_rfl) (fun b => by kernel_rfl) (fun b_6 => jkO ?_))
  refine toO (by kernel_rfl) (p_s 0 [5] (by kernel_rfl) (by kernel_rfl) (jkO ?_))
  refine jo_end (by kernel_rfl) ?_
  refine jx_then ?_
  refine jc_seq ?_
  refine jc_region ?_
  refine jo_f [(0, 0)] (by kernel_rfl) ?_
  refine toO (by kernel_rfl) (p_ldA 0 1 b_2 96 1 89 encU32 d1 (by kernel_rfl) (by kernel_rfl) (by kernel_rfl) encU32_len (by kernel_rfl) (jkO ?_))
  refine jo_f [(0, 0)] (by kernel_rfl) ?_
  obtain ⟨t_1, ht_7, h⟩ := bd h
  refine toO (by kernel_rfl) (p_call 0 92 #[(.agg #[(.int .i16 f0.fSteps), (.slice f0_fHammers_a f0.fHammers.length f0_fHammers_c)]), (.agg (row encU32 d1.1 []).toArray), (.func (.func 93) #[] #[(.pointer (some ⟨b_3, 0, none⟩)), (.pointer (some ⟨b_4, 0, none⟩)), (.pointer (some ⟨b_6, 0, none⟩)), (.pointer (some ⟨b_1, 0, none⟩))])] (by kernel_rfl) (by kernel_rfl) (fun w hm => impl_Frame_pins_at_impl_Frame_played_1.calls f0 d1 from2 steps3 ([] : List GNote) f0 w _ f0_fHammers_a f0.fHammers.length f0_fHammers_c (hm.exRow f0_fHammers_h List.not_mem_nil) rfl f0_fHammers_a f0.fHammers.length f0_fHammers_c (hm.exRow f0_fHammers_h List.not_mem_nil) rfl b_3 b_4 b_6 (some b_5) 0 0 [] rfl (fun _ => ⟨Nat.le_refl _, by simp⟩) (fun e => nomatch e) b_1 (hm.pass (N := [⟨some b_3, 2, [(.int .i64 from2)]⟩, ⟨some b_4, 2, [(.int .i64 steps3)]⟩, ⟨some b_6, 56, [(.slice (some ⟨b_5, 0, none⟩) 0 0)]⟩, ⟨(some b_5), 95, row encGNote ([] : List GNote) []⟩, ⟨some b_1, 42, [(.int .i16 f0.fSteps), (.slice f0_fHammers_a f0.fHammers.length f0_fHammers_c)]⟩]) [2, 3, 5, 4, 0] (by kernel_rfl) (by kernel_rfl)) (hm.exApart (N := [⟨some b_3, 2, [(.int .i64 from2)]⟩, ⟨some b_4, 2, [(.int .i64 steps3)]⟩, ⟨some b_6, 56, [(.slice (some ⟨b_5, 0, none⟩) 0 0)]⟩, ⟨(some b_5), 95, row encGNote ([] : List GNote) []⟩, ⟨some b_1, 42, [(.int .i16 f0.fSteps), (.slice f0_fHammers_a f0.fHammers.length f0_fHammers_c)]⟩]) f0_fHammers_h (fun _ => List.not_mem_nil) [2, 3, 5, 4, 0] (by kernel_rfl)) (hm.exApart (N := [⟨some b_3, 2, [(.int .i64 from2)]⟩, ⟨some b_4, 2, [(.int .i64 steps3)]⟩, ⟨some b_6, 56, [(.slice (some ⟨b_5, 0, none⟩) 0 0)]⟩, ⟨(some b_5), 95, row encGNote ([] : List GNote) []⟩, ⟨some b_1, 42, [(.int .i16 f0.fSteps), (.slice f0_fHammers_a f0.fHammers.length f0_fHammers_c)]⟩]) f0_fHammers_h (fun _ => List.not_mem_nil) [2, 3, 5, 4, 0] (by kernel_rfl)) ht_7) ?_)
  rintro w v w' hm ⟨o_8, cap_9, sp_10, _, rfl, hs_11, ho_12, rfl, hm'⟩
  refine ⟨_, Mem.pick (hm.appP (ps := [(2, ⟨some b_3, 2, [(.int .i64 from2)]⟩), (3, ⟨some b_4, 2, [(.int .i64 steps3)]⟩), (5, ⟨some b_6, 56, [(.slice (o_8.map fun b => ⟨b, 0, none⟩) t_1.length cap_9)]⟩), (0, ⟨some b_1, 42, [(.int .i16 f0.fSteps), (.slice f0_fHammers_a f0.fHammers.length f0_fHammers_c)]⟩)]) (ds := [4]) (N := [⟨o_8, 95, row encGNote t_1 sp_10⟩]) hm' [0, 1, 2, 4, 3] (by kernel_rfl) (by kernel_rfl) (by kernel_rfl)) (N := [⟨some b_1, 42, [(.int .i16 f0.fSteps), (.slice f0_fHammers_a f0.fHammers.length f0_fHammers_c)]⟩, ⟨(some b_2), 89, row encU32 d1.1 []⟩, ⟨some b_3, 2, [(.int .i64 from2)]⟩, ⟨some b_4, 2, [(.int .i64 steps3)]⟩, ⟨o_8, 95, row encGNote t_1 sp_10⟩, ⟨some b_6, 56, [(.slice (o_8.map fun b => ⟨b, 0, none⟩) t_1.length cap_9)]⟩]) [0, 1, 2, 3, 6, 5] (by kernel_rfl) (by kernel_rfl), jkO ?_⟩
  clear hm hm'
  refine jo_end (by kernel_rfl) ?_
  refine jx_then ?_
  refine jc_seq ?_
  refine jc_region ?_
  refine jo_f [(5, 0)] (by kernel_rfl) ?_
  obtain ⟨t_2, ht_13, h⟩ := bd h
  refine toO (by kernel_rfl) (p_call 0 95 #[(.slice (o_8.map fun b => ⟨b, 0, none⟩) t_1.length cap_9)] (by kernel_rfl) (by kernel_rfl) (fun w hm => impl_made.calls t_1 w _ (o_8.map fun b => ⟨b, 0, none⟩) t_1.length cap_9 (hm.ownRow (hh := 4) (o := o_8) (T := 95) (enc := encGNote) (xs := t_1) (sp := sp_10) (by kernel_rfl) (fun e => (ho_12 e).1) encGNote_len) rfl ht_13) ?_)
  rintro w v w' hm ⟨o_14, cap_15, sp_16, _, rfl, hs_17, ho_18, rfl, hm'⟩
  refine ⟨_, hm.app hm', jkO ?_⟩
  clear hm hm'
  refine jo_f [(0, 0)] (by kernel_rfl) ?_
  refine jo_end (by kernel_rfl) ?_
  refine jx_then ?_
  refine jc_ret ?_
  obtain rfl := Option.some.inj h
  exact jx_ret [] (.slice (o_14.map fun b => ⟨b, 0, none⟩) t_2.length cap_15) [] rfl (by kernel_rfl) (by kernel_rfl) (fun w hm => ⟨o_14, cap_15, sp_16, t_2.length, rfl, hs_17, ho_18, rfl, hm.pick [6] (by kernel_rfl) (by kernel_rfl)⟩)

/-! ### impl.HeardTune -/
noncomputable def impl_HeardTune (f0 : GFrame) (t1 : List GNote) (list2 : List GChoice) : Option ((List GNote) × Int) := (impl_DrumFor f0 t1 list2).bind fun t_1 => (if (t_1.2 != 0) = true then some ([], t_1.2) else (impl_Frame_played f0 t_1.1 0 (w64 f0.fSteps)).bind fun t_2 => some (t_2, 0))
set_option maxRecDepth 100000 in
theorem impl_HeardTune.calls (f0 : GFrame) (t1 : List GNote) (list2 : List GChoice) (w : World) (r : (List GNote) × Int) (f0_fHammers_a : Option Addr) (f0_fHammers_an : Nat) (f0_fHammers_c : Nat) (f0_fHammers_h : Rw w f0_fHammers_a 2 encGHammer f0.fHammers) (f0_fHammers_hn : f0.fHammers.length = f0_fHammers_an) (t1_a : Option Addr) (t1_an : Nat) (t1_c : Nat) (t1_h : Rw w t1_a 2 encGNote t1) (t1_hn : t1.length = t1_an) (list2_a : Option Addr) (list2_an : Nat) (list2_c : Nat) (list2_h : Rw w list2_a 4 encGChoice list2) (list2_hn : list2.length = list2_an) (h : impl_HeardTune f0 t1 list2 = some r) :
    Calls Tryz.prog 22 #[(.agg #[(.int .i16 f0.fSteps), (.slice f0_fHammers_a f0_fHammers_an f0_fHammers_c)]), (.slice t1_a t1_an t1_c), (.slice list2_a list2_an list2_c)] w fun e w' => ∃ v, e = .returned v ∧ (∃ (o0 : Option Nat) (c0 : Nat) (s0 : List Value) (n0 : Nat), r.1.length = n0 ∧ (o0 ≠ none → n0 ≤ c0 ∧ s0.length = (c0 - n0) * 2) ∧ (o0 = none → r.1 = [] ∧ c0 = 0) ∧ v = .tuple #[.slice (o0.map fun b => ⟨b, 0, none⟩) n0 c0, (.int .i64 r.2)] ∧ Mem w [] [⟨o0, 95, row encGNote r.1 s0⟩] w') := by
  subst f0_fHammers_hn t1_hn list2_hn
  rw [impl_HeardTune] at h
  refine enter (args := [(.agg #[(.int .i16 f0.fSteps), (.slice f0_fHammers_a f0.fHammers.length f0_fHammers_c)]), (.slice t1_a t1.length t1_c), (.slice list2_a list2.length list2_c)]) Tryz.func22 rfl Tryz.ntmps22 (by kernel_rfl) (L := []) (W := []) (Mem.start w) ?_
  refine jc_seq ?_
  refine jc_region ?_
  refine toO (by kernel_rfl) (p_a 0 [0] (by kernel_rfl) (fun b => by kernel_rfl) (fun b_1 => jkO ?_))
  refine jo_f [(0, 0), (0, 0)] (by kernel_rfl) ?_
  refine jo_end (by kernel_rfl) ?_
  refine jx_then ?_
  refine jc_seq ?_
  refine jc_region ?_
  refine jo_f [(0, 0), (0, 0), (0, 0)] (by kernel_rfl) ?_
  obtain ⟨t_1, ht_2, h⟩ := bd h
  refine toO (by kernel_rfl) (p_call 0 57 #[(.agg #[(.int .i16 f0.fSteps), (.slice f0_fHammers_a f0.fHammers.length f0_fHammers_c)]), (.slice t1_a t1.length t1_c), (.slice list2_a list2.length list2_c)] (by kernel_rfl) (by kernel_rfl) (fun w hm => impl_DrumFor.calls f0 t1 list2 w _ f0_fHammers_a f0.fHammers.length f0_fHammers_c (hm.exRow f0_fHammers_h List.not_mem_nil) rfl t1_a t1.length t1_c (hm.exRow t1_h List.not_mem_nil) rfl list2_a list2.length list2_c (hm.exRow list2_h List.not_mem_nil) rfl ht_2) ?_)
  rintro w v w' hm ⟨rfl, hm'⟩
  refine ⟨_, hm.app hm', jkO ?_⟩
  clear hm hm'
  refine jo_f [(0, 0), (0, 0), (0, 0)] (by kernel_rfl) ?_
  refine toO (by kernel_rfl) (p_a 0 [0] (by kernel_rfl) (fun b => by kernel_rfl) (fun b_3 => jkO ?_))
  refine toO (by kernel_rfl) (p_sA 0 1 b_3 96 1 89 encU32 (Arr.rep 96 0) t_1.1 (by kernel_rfl) (by kernel_rfl) (by kernel_rfl) encU32_len encU32_cell (by kernel_rfl) (jkO ?_))
  refine jo_f [(0, 0)] (by kernel_rfl) ?_
  refine jo_end (by kernel_rfl) ?_
  refine jx_then ?_
  refine jc_seq ?_
  refine jc_seq ?_
  refine jc_region ?_
  refine jo_f [(0, 0), (0, 0)] (by kernel_rfl) ?_
  refine jo_end (by kernel_rfl) ?_
  refine jx_then ?_
  refine jc_cond (t_1.2 != 0) (by kernel_rfl) (fun hc_5 => ?_) (fun hc_5 => ?_)
  · replace h := ifT hc_5 h
    refine jc_seq ?_
    refine jc_region ?_
    refine jo_f [(0, 0), (0, 0), (0, 0)] (by kernel_rfl) ?_
    refine jo_end (by kernel_rfl) ?_
    refine jx_then ?_
    refine jc_ret ?_
    refine jx_thenr ?_
    obtain rfl := Option.some.inj h
    refine jx_ghost 95 encGNote ?_
    exact jx_ret [] (.tuple #[(.slice none 0 0), (.int .i64 t_1.2)]) [] rfl (by kernel_rfl) (by kernel_rfl) (fun w hm => ⟨none, 0, [], 0, rfl, (fun e => absurd rfl e), (fun _ => ⟨rfl, rfl⟩), rfl, hm.pick [2] (by kernel_rfl) (by kernel_rfl)⟩)
  · replace h := ifF hc_5 h
    refine jc_skip ?_
    refine jx_then ?_
    refine jc_seq ?_
    refine jc_region ?_
    refine jo_f [(0, 0)] (by kernel_rfl) ?_
    refine toO (by kernel_rfl) (p_ldA 0 1 b_3 96 1 89 encU32 t_1.1 (by kernel_rfl) (by kernel_rfl) (by kernel_rfl) encU32_len (by kernel_rfl) (jkO ?_))
    refine jo_f [(0, 0), (0, 0), (0, 0)] (by kernel_rfl) ?_
    obtain ⟨t_2, ht_6, h⟩ := bd h
    refine toO (by kernel_rfl) (p_call 0 58 #[(.agg #[(.int .i16 f0.fSteps), (.slice f0_fHammers_a f0.fHammers.length f0_fHammers_c)]), (.agg (row encU32 t_1.1.1 []).toArray), (.int .i64 0), (.int .i64 (w64 f0.fSteps))] (by kernel_rfl) (by kernel_rfl) (fun w hm => impl_Frame_played.calls f0 t_1.1 0 (w64 f0.fSteps) w _ f0_fHammers_a f0.fHammers.length f0_fHammers_c (hm.exRow f0_fHammers_h List.not_mem_nil) rfl ht_6) ?_)
    rintro w v w' hm ⟨o_7, cap_8, sp_9, _, rfl, hs_10, ho_11, rfl, hm'⟩
    refine ⟨_, hm.app hm', jkO ?_⟩
    clear hm hm'
    refine jo_f [(0, 0), (0, 0)] (by kernel_rfl) ?_
    refine jo_end (by kernel_rfl) ?_
    refine jx_then ?_
    refine jc_ret ?_
    obtain rfl := Option.some.inj h
    exact jx_ret [] (.tuple #[(.slice (o_7.map fun b => ⟨b, 0, none⟩) t_2.length cap_8), (.int .i64 0)]) [] rfl (by kernel_rfl) (by kernel_rfl) (fun w hm => ⟨o_7, cap_8, sp_9, t_2.length, rfl, hs_10, ho_11, rfl, hm.pick [2] (by kernel_rfl) (by kernel_rfl)⟩)

/-! ### laws.eqNote -/
noncomputable def laws_eqNote (a0 : GNote) (b1 : GNote) : Option (Bool) := (if (a0.fAt != b1.fAt) = true then some false else (if (a0.fPitch != b1.fPitch) = true then some false else some true))
set_option maxRecDepth 100000 in
theorem laws_eqNote.calls (a0 : GNote) (b1 : GNote) (w : World) (r : Bool) (h : laws_eqNote a0 b1 = some r) :
    Calls Tryz.prog 59 #[(.agg #[(.int .i16 a0.fAt), (.int .i8 a0.fPitch)]), (.agg #[(.int .i16 b1.fAt), (.int .i8 b1.fPitch)])] w fun e w' => ∃ v, e = .returned v ∧ (v = (.bool r) ∧ Mem w [] [] w') := by
  rw [laws_eqNote] at h
  refine enter (args := [(.agg #[(.int .i16 a0.fAt), (.int .i8 a0.fPitch)]), (.agg #[(.int .i16 b1.fAt), (.int .i8 b1.fPitch)])]) Tryz.func59 rfl Tryz.ntmps59 (by kernel_rfl) (L := []) (W := []) (Mem.start w) ?_
  refine jc_seq ?_
  refine jc_region ?_
  refine toO (by kernel_rfl) (p_a 0 [0] (by kernel_rfl) (fun b => by kernel_rfl) (fun b_1 => jkO ?_))
  refine toO (by kernel_rfl) (p_a 0 [0] (by kernel_rfl) (fun b => by kernel_rfl) (fun b_2 => jkO ?_))
  refine jo_f [(0, 0)] (by kernel_rfl) ?_
  refine jo_end (by kernel_rfl) ?_
  refine jx_then ?_
  refine jc_seq ?_
  refine jc_seq ?_
  refine jc_region ?_
  refine jo_f [(0, 0), (0, 0), (0, 0), (1, 0), (0, 0)] (by kernel_rfl) ?_
  refine jo_end (by kernel_rfl) ?_
  refine jx_then ?_
  refine jc_cond (a0.fAt != b1.fAt) (by kernel_rfl) (fun hc_4 => ?_) (fun hc_4 => ?_)
  · replace h := ifT hc_4 h
    refine jc_seq ?_
    refine jc_region ?_
    refine jo_f [(0, 0)] (by kernel_rfl) ?_
    refine jo_end (by kernel_rfl) ?_
    refine jx_then ?_
    refine jc_ret ?_
    refine jx_thenr ?_
    obtain rfl := Option.some.inj h
    exact jx_ret [] (.bool false) [] rfl (by kernel_rfl) (by kernel_rfl) (fun w hm => ⟨rfl, hm.pick [] (by kernel_rfl) (by kernel_rfl)⟩)
  · replace h := ifF hc_4 h
    refine jc_skip ?_
    refine jx_then ?_
    refine jc_seq ?_
    refine jc_seq ?_
    refine jc_region ?_
    refine jo_f [(0, 0), (0, 0), (0, 0), (1, 0), (0, 0)] (by kernel_rfl) ?_
    refine jo_end (by kernel_rfl) ?_
    refine jx_then ?_
    refine jc_cond (a0.fPitch != b1.fPitch) (by kernel_rfl) (fun hc_5 => ?_) (fun hc_5 => ?_)
    · replace h := ifT hc_5 h
      refine jc_seq ?_
      refine jc_region ?_
      refine jo_f [(0, 0)] (by kernel_rfl) ?_
      refine jo_end (by kernel_rfl) ?_
      refine jx_then ?_
      refine jc_ret ?_
      refine jx_thenr ?_
      obtain rfl := Option.some.inj h
      exact jx_ret [] (.bool false) [] rfl (by kernel_rfl) (by kernel_rfl) (fun w hm => ⟨rfl, hm.pick [] (by kernel_rfl) (by kernel_rfl)⟩)
    · replace h := ifF hc_5 h
      refine jc_skip ?_
      refine jx_then ?_
      refine jc_seq ?_
      refine jc_region ?_
      refine jo_f [(0, 0)] (by kernel_rfl) ?_
      refine jo_end (by kernel_rfl) ?_
      refine jx_then ?_
      refine jc_ret ?_
      obtain rfl := Option.some.inj h
      exact jx_ret [] (.bool true) [] rfl (by kernel_rfl) (by kernel_rfl) (fun w hm => ⟨rfl, hm.pick [] (by kernel_rfl) (by kernel_rfl)⟩)

/-! ### laws.eqTune -/
noncomputable def laws_eqTune.k_1 : Option (Bool) := some true
noncomputable def laws_eqTune.l_3 (a0 : List GNote) (b1 : List GNote) : Int → Option ((Int) ⊕ (Bool ⊕ Unit))
  | i_2 => (if (decide (i_2 < (a0.length : Int))) = true then (ix a0 i_2).bind fun x_5 => (ix b1 i_2).bind fun x_6 => (laws_eqNote x_5 x_6).bind fun t_7 => (if (!t_7) = true then some (.inr (.inl false)) else some (.inl (w64 (i_2 + 1)))) else some (.inr (.inr ())))
noncomputable def laws_eqTune (a0 : List GNote) (b1 : List GNote) : Option (Bool) := (if ((a0.length : Int) != (b1.length : Int)) = true then some false else (loop (laws_eqTune.l_3 a0 b1) 0).bind fun t_4 => match t_4 with | .inl p => some p | .inr p => laws_eqTune.k_1)
set_option maxRecDepth 100000 in
theorem laws_eqTune.calls (a0 : List GNote) (b1 : List GNote) (w : World) (r : Bool) (a0_a : Option Addr) (a0_an : Nat) (a0_c : Nat) (a0_h : Rw w a0_a 2 encGNote a0) (a0_hn : a0.length = a0_an) (b1_a : Option Addr) (b1_an : Nat) (b1_c : Nat) (b1_h : Rw w b1_a 2 encGNote b1) (b1_hn : b1.length = b1_an) (h : laws_eqTune a0 b1 = some r) :
    Calls Tryz.prog 23 #[(.slice a0_a a0_an a0_c), (.slice b1_a b1_an b1_c)] w fun e w' => ∃ v, e = .returned v ∧ (v = (.bool r) ∧ Mem w [] [] w') := by
  subst a0_hn b1_hn
  rw [laws_eqTune] at h
  refine enter (args := [(.slice a0_a a0.length a0_c), (.slice b1_a b1.length b1_c)]) Tryz.func23 rfl Tryz.ntmps23 (by kernel_rfl) (L := []) (W := []) (Mem.start w) ?_
  refine jc_seq ?_
  refine jc_region ?_
  refine jo_f [(0, 0)] (by kernel_rfl) ?_
  refine jo_end (by kernel_rfl) ?_
  refine jx_then ?_
  refine jc_seq ?_
  refine jc_seq ?_
  refine jc_region ?_
  refine jo_f [(0, 0), (0, 0), (0, 0), (0, 0), (0, 0)] (by kernel_rfl) ?_
  refine jo_end (by kernel_rfl) ?_
  refine jx_then ?_
  refine jc_cond ((a0.length : Int) != (b1.length : Int)) (by kernel_rfl) (fun hc_2 => ?_) (fun hc_2 => ?_)
  · replace h := ifT hc_2 h
    refine jc_seq ?_
    refine jc_region ?_
    refine jo_f [(0, 0)] (by kernel_rfl) ?_
    refine jo_end (by kernel_rfl) ?_
    refine jx_then ?_
    refine jc_ret ?_
    refine jx_thenr ?_
    obtain rfl := Option.some.inj h
    exact jx_ret [] (.bool false) [] rfl (by kernel_rfl) (by kernel_rfl) (fun w hm => ⟨rfl, hm.pick [] (by kernel_rfl) (by kernel_rfl)⟩)
  · replace h := ifF hc_2 h
    refine jc_skip ?_
    refine jx_then ?_
    refine jc_seq ?_
    refine jc_seq ?_
    refine jc_region ?_
    refine jo_f [(0, 0)] (by kernel_rfl) ?_
    refine jo_end (by kernel_rfl) ?_
    refine jx_then ?_
    refine jc_meet (fun (_ : Unit) => laws_eqTune.k_1 = some r) (fun (_ : Unit) => [(4, [], (.bool false))]) (fun (_ : Unit) => []) ?_ ?_
    · refine jc_block ?_
      obtain ⟨t_4, ht_48, hr_38⟩ := bd h
      refine jc_loop (fun (s : Int) (x : Unit) => match s, x with | i_2, _ => True) (fun (s : Int) (x : Unit) => match s, x with | i_2, _ => [(0, [], (.slice a0_a a0.length a0_c)), (1, [], (.slice b1_a b1.length b1_c)), (4, [], (.bool false)), (5, [], (.int .i64 i_2))]) (fun (s : Int) (x : Unit) => match s, x with | i_2, _ => []) ht_48 () trivial (by kernel_rfl) [] (by kernel_rfl) (by kernel_rfl) ?_
      rintro i_2 _ y_39 _ h
      rw [laws_eqTune.l_3] at h
      refine jc_seq ?_
      refine jc_seq ?_
      refine jc_region ?_
      refine jo_f [(0, 0), (0, 0), (0, 0), (0, 0)] (by kernel_rfl) ?_
      refine jo_end (by kernel_rfl) ?_
      refine jx_then ?_
      refine jc_cond (decide (i_2 < (a0.length : Int))) (by kernel_rfl) (fun hc_41 => ?_) (fun hc_41 => ?_)
      · replace h := ifT hc_41 h
        refine jc_skip ?_
        refine jx_then ?_
        refine jc_seq ?_
        refine jc_block ?_
        refine jc_seq ?_
        refine jc_draw [] 10 (by kernel_rfl) (by kernel_rfl) ?_
        refine jd_f [⟨0, 0, 0⟩, ⟨1, 0, 0⟩, ⟨4, 0, 0⟩, ⟨5, 0, 0⟩] 6 (by kernel_rfl) (by kernel_rfl) (fun w h => h.pick [] (by kernel_rfl) (by kernel_rfl)) (by kernel_rfl) (by kernel_rfl) ?_
        obtain ⟨x_5, hx_42, h⟩ := bd h
        refine jd_v 2 0 (by kernel_rfl) (fun w h => h.pick [] (by kernel_rfl) (by kernel_rfl)) (by kernel_rfl) (by kernel_rfl) _ (fun w hm => idx_run (a := a0_a) (len := a0.length) (s := 2) (j := i_2) (by kernel_rfl) (ix_some hx_42).1 (ltn hx_42 rfl) (a0_h.sp hx_42)) ?_
        refine jd_v 3 0 (by kernel_rfl) (fun w h => h.pick [] (by kernel_rfl) (by kernel_rfl)) (by kernel_rfl) (by kernel_rfl) _ (fun w hm => ld_run (b := aB a0_a) (off := (aO a0_a + i_2.toNat * 2)) (s := 2) (agg := true) (vs := (encGNote x_5)) (by kernel_rfl) (by kernel_rfl) (.inl rfl) ((hm.exRow a0_h List.not_mem_nil).at hx_42)) ?_
        obtain ⟨x_6, hx_43, h⟩ := bd h
        refine jd_v 6 0 (by kernel_rfl) (fun w h => h.pick [] (by kernel_rfl) (by kernel_rfl)) (by kernel_rfl) (by kernel_rfl) _ (fun w hm => idx_run (a := b1_a) (len := b1.length) (s := 2) (j := i_2) (by kernel_rfl) (ix_some hx_43).1 (ltn hx_43 rfl) (b1_h.sp hx_43)) ?_
        refine jd_v 7 0 (by kernel_rfl) (fun w h => h.pick [] (by kernel_rfl) (by kernel_rfl)) (by kernel_rfl) (by kernel_rfl) _ (fun w hm => ld_run (b := aB b1_a) (off := (aO b1_a + i_2.toNat * 2)) (s := 2) (agg := true) (vs := (encGNote x_6)) (by kernel_rfl) (by kernel_rfl) (.inl rfl) ((hm.exRow b1_h List.not_mem_nil).at hx_43)) ?_
        obtain ⟨t_7, ht_44, h⟩ := bd h
        refine toD 8 (by kernel_rfl) (p_call 0 59 #[(.agg #[(.int .i16 x_5.fAt), (.int .i8 x_5.fPitch)]), (.agg #[(.int .i16 x_6.fAt), (.int .i8 x_6.fPitch)])] (by kernel_rfl) (by kernel_rfl) (fun w hm => laws_eqNote.calls x_5 x_6 w _ ht_44) ?_)
        rintro w v w' hm ⟨rfl, hm'⟩
        refine ⟨_, hm.app hm', jkD (fun w h => h.pick [] (by kernel_rfl) (by kernel_rfl)) ?_⟩
        clear hm hm'
        refine jd_f [⟨9, 0, 0⟩] 0 (by kernel_rfl) (by kernel_rfl) (fun w h => h.pick [] (by kernel_rfl) (by kernel_rfl)) (by kernel_rfl) (by kernel_rfl) ?_
        refine jd_end (by kernel_rfl) ?_
        refine jx_then ?_
        refine jc_cond (!t_7) (by kernel_rfl) (fun hc_45 => ?_) (fun hc_45 => ?_)
        · replace h := ifT hc_45 h
          refine jc_seq ?_
          refine jc_region ?_
          refine jo_f [(0, 0)] (by kernel_rfl) ?_
          refine jo_end (by kernel_rfl) ?_
          refine jx_then ?_
          refine jc_ret ?_
          refine jx_inr ?_
          refine jx_thenr ?_
          refine jx_leaver (.inl false) (Option.some.inj h).symm (fun e_46 => ?_)
          subst e_46
          refine jx_inr ?_
          refine jx_thenr ?_
          refine jx_thenr ?_
          obtain rfl := Option.some.inj hr_38
          exact jx_ret [] (.bool false) [] rfl (by kernel_rfl) (by kernel_rfl) (fun w hm => ⟨rfl, hm.pick [] (by kernel_rfl) (by kernel_rfl)⟩)
        · replace h := ifF hc_45 h
          refine jc_skip ?_
          refine jx_inn ?_
          refine jx_then ?_
          refine jc_region ?_
          refine jo_f [(0, 0), (0, 0), (0, 0)] (by kernel_rfl) ?_
          refine jo_end (by kernel_rfl) ?_
          exact jx_back (w64 (i_2 + 1)) () (Option.some.inj h).symm trivial [] (by kernel_rfl) (by kernel_rfl) (by kernel_rfl)
      · replace h := ifF hc_41 h
        refine jc_exit ?_
        refine jx_thenx ?_
        refine jx_leave (.inr ()) (Option.some.inj h).symm (fun e_47 => ?_)
        subst e_47
        refine jx_ine ?_
        exact jx_meet () hr_38 (by kernel_rfl) [] (by kernel_rfl) (by kernel_rfl)
    · rintro _ h
      replace h : laws_eqTune.k_1 = some r := h
      rw [laws_eqTune.k_1] at h
      refine jx_then ?_
      refine jc_seq ?_
      refine jc_region ?_
      refine jo_f [(0, 0)] (by kernel_rfl) ?_
      refine jo_end (by kernel_rfl) ?_
      refine jx_then ?_
      refine jc_ret ?_
      obtain rfl := Option.some.inj h
      exact jx_ret [] (.bool true) [] rfl (by kernel_rfl) (by kernel_rfl) (fun w hm => ⟨rfl, hm.pick [] (by kernel_rfl) (by kernel_rfl)⟩)

/-! ### laws.eqChoice -/
noncomputable def laws_eqChoice (a0 : GChoice) (b1 : GChoice) : Option (Bool) := (if (a0.fAway != b1.fAway) = true then some false else (if (a0.fLate != b1.fLate) = true then some false else (if (a0.fOctave != b1.fOctave) = true then some false else (if (a0.fTrack != b1.fTrack) = true then some false else some true))))
set_option maxRecDepth 100000 in
theorem laws_eqChoice.calls (a0 : GChoice) (b1 : GChoice) (w : World) (r : Bool) (h : laws_eqChoice a0 b1 = some r) :
    Calls Tryz.prog 60 #[(.agg #[(.bool a0.fAway), (.int .i8 a0.fLate), (.int .i8 a0.fOctave), (.int .i8 a0.fTrack)]), (.agg #[(.bool b1.fAway), (.int .i8 b1.fLate), (.int .i8 b1.fOctave), (.int .i8 b1.fTrack)])] w fun e w' => ∃ v, e = .returned v ∧ (v = (.bool r) ∧ Mem w [] [] w') := by
  rw [laws_eqChoice] at h
  refine enter (args := [(.agg #[(.bool a0.fAway), (.int .i8 a0.fLate), (.int .i8 a0.fOctave), (.int .i8 a0.fTrack)]), (.agg #[(.bool b1.fAway), (.int .i8 b1.fLate), (.int .i8 b1.fOctave), (.int .i8 b1.fTrack)])]) Tryz.func60 rfl Tryz.ntmps60 (by kernel_rfl) (L := []) (W := []) (Mem.start w) ?_
  refine jc_seq ?_
  refine jc_region ?_
  refine toO (by kernel_rfl) (p_a 0 [0] (by kernel_rfl) (fun b => by kernel_rfl) (fun b_1 => jkO ?_))
  refine toO (by kernel_rfl) (p_a 0 [0] (by kernel_rfl) (fun b => by kernel_rfl) (fun b_2 => jkO ?_))
  refine jo_f [(0, 0)] (by kernel_rfl) ?_
  refine jo_end (by kernel_rfl) ?_
  refine jx_then ?_
  refine jc_seq ?_
  refine jc_seq ?_
  refine jc_region ?_
  refine jo_f [(0, 0), (0, 0), (0, 0), (1, 0), (0, 0)] (by kernel_rfl) ?_
  refine jo_end (by kernel_rfl) ?_
  refine jx_then ?_
  refine jc_cond (a0.fAway != b1.fAway) (by kernel_rfl) (fun hc_4 => ?_) (fun hc_4 => ?_)
  · replace h := ifT hc_4 h
    refine jc_seq ?_
    refine jc_region ?_
    refine jo_f [(0, 0)] (by kernel_rfl) ?_
    refine jo_end (by kernel_rfl) ?_
    refine jx_then ?_
    refine jc_ret ?_
    refine jx_thenr ?_
    obtain rfl := Option.some.inj h
    exact jx_ret [] (.bool false) [] rfl (by kernel_rfl) (by kernel_rfl) (fun w hm => ⟨rfl, hm.pick [] (by kernel_rfl) (by kernel_rfl)⟩)
  · replace h := ifF hc_4 h
    refine jc_skip ?_
    refine jx_then ?_
    refine jc_seq ?_
    refine jc_seq ?_
    refine jc_region ?_
    refine jo_f [(0, 0), (0, 0), (0, 0), (1, 0), (0, 0)] (by kernel_rfl) ?_
    refine jo_end (by kernel_rfl) ?_
    refine jx_then ?_
    refine jc_cond (a0.fLate != b1.fLate) (by kernel_rfl) (fun hc_6 => ?_) (fun hc_6 => ?_)
    · replace h := ifT hc_6 h
      refine jc_seq ?_
      refine jc_region ?_
      refine jo_f [(0, 0)] (by kernel_rfl) ?_
      refine jo_end (by kernel_rfl) ?_
      refine jx_then ?_
      refine jc_ret ?_
      refine jx_thenr ?_
      obtain rfl := Option.some.inj h
      exact jx_ret [] (.bool false) [] rfl (by kernel_rfl) (by kernel_rfl) (fun w hm => ⟨rfl, hm.pick [] (by kernel_rfl) (by kernel_rfl)⟩)
    · replace h := ifF hc_6 h
      refine jc_skip ?_
      refine jx_then ?_
      refine jc_seq ?_
      refine jc_seq ?_
      refine jc_region ?_
      refine jo_f [(0, 0), (0, 0), (0, 0), (1, 0), (0, 0)] (by kernel_rfl) ?_
      refine jo_end (by kernel_rfl) ?_
      refine jx_then ?_
      refine jc_cond (a0.fOctave != b1.fOctave) (by kernel_rfl) (fun hc_8 => ?_) (fun hc_8 => ?_)
      · replace h := ifT hc_8 h
        refine jc_seq ?_
        refine jc_region ?_
        refine jo_f [(0, 0)] (by kernel_rfl) ?_
        refine jo_end (by kernel_rfl) ?_
        refine jx_then ?_
        refine jc_ret ?_
        refine jx_thenr ?_
        obtain rfl := Option.some.inj h
        exact jx_ret [] (.bool false) [] rfl (by kernel_rfl) (by kernel_rfl) (fun w hm => ⟨rfl, hm.pick [] (by kernel_rfl) (by kernel_rfl)⟩)
      · replace h := ifF hc_8 h
        refine jc_skip ?_
        refine jx_then ?_
        refine jc_seq ?_
        refine jc_seq ?_
        refine jc_region ?_
        refine jo_f [(0, 0), (0, 0), (0, 0), (1, 0), (0, 0)] (by kernel_rfl) ?_
        refine jo_end (by kernel_rfl) ?_
        refine jx_then ?_
        refine jc_cond (a0.fTrack != b1.fTrack) (by kernel_rfl) (fun hc_9 => ?_) (fun hc_9 => ?_)
        · replace h := ifT hc_9 h
          refine jc_seq ?_
          refine jc_region ?_
          refine jo_f [(0, 0)] (by kernel_rfl) ?_
          refine jo_end (by kernel_rfl) ?_
          refine jx_then ?_
          refine jc_ret ?_
          refine jx_thenr ?_
          obtain rfl := Option.some.inj h
          exact jx_ret [] (.bool false) [] rfl (by kernel_rfl) (by kernel_rfl) (fun w hm => ⟨rfl, hm.pick [] (by kernel_rfl) (by kernel_rfl)⟩)
        · replace h := ifF hc_9 h
          refine jc_skip ?_
          refine jx_then ?_
          refine jc_seq ?_
          refine jc_region ?_
          refine jo_f [(0, 0)] (by kernel_rfl) ?_
          refine jo_end (by kernel_rfl) ?_
          refine jx_then ?_
          refine jc_ret ?_
          obtain rfl := Option.some.inj h
          exact jx_ret [] (.bool true) [] rfl (by kernel_rfl) (by kernel_rfl) (fun w hm => ⟨rfl, hm.pick [] (by kernel_rfl) (by kernel_rfl)⟩)

/-! ### laws.eqChoiceS -/
noncomputable def laws_eqChoiceS.k_1 : Option (Bool) := some true
noncomputable def laws_eqChoiceS.l_3 (a0 : List GChoice) (b1 : List GChoice) : Int → Option ((Int) ⊕ (Bool ⊕ Unit))
  | i_2 => (if (decide (i_2 < (a0.length : Int))) = true then (ix a0 i_2).bind fun x_5 => (ix b1 i_2).bind fun x_6 => (laws_eqChoice x_5 x_6).bind fun t_7 => (if (!t_7) = true then some (.inr (.inl false)) else some (.inl (w64 (i_2 + 1)))) else some (.inr (.inr ())))
noncomputable def laws_eqChoiceS (a0 : List GChoice) (b1 : List GChoice) : Option (Bool) := (if ((a0.length : Int) != (b1.length : Int)) = true then some false else (loop (laws_eqChoiceS.l_3 a0 b1) 0).bind fun t_4 => match t_4 with | .inl p => some p | .inr p => laws_eqChoiceS.k_1)
set_option maxRecDepth 100000 in
theorem laws_eqChoiceS.calls (a0 : List GChoice) (b1 : List GChoice) (w : World) (r : Bool) (a0_a : Option Addr) (a0_an : Nat) (a0_c : Nat) (a0_h : Rw w a0_a 4 encGChoice a0) (a0_hn : a0.length = a0_an) (b1_a : Option Addr) (b1_an : Nat) (b1_c : Nat) (b1_h : Rw w b1_a 4 encGChoice b1) (b1_hn : b1.length = b1_an) (h : laws_eqChoiceS a0 b1 = some r) :
    Calls Tryz.prog 24 #[(.slice a0_a a0_an a0_c), (.slice b1_a b1_an b1_c)] w fun e w' => ∃ v, e = .returned v ∧ (v = (.bool r) ∧ Mem w [] [] w') := by
  subst a0_hn b1_hn
  rw [laws_eqChoiceS] at h
  refine enter (args := [(.slice a0_a a0.length a0_c), (.slice b1_a b1.length b1_c)]) Tryz.func24 rfl Tryz.ntmps24 (by kernel_rfl) (L := []) (W := []) (Mem.start w) ?_
  refine jc_seq ?_
  refine jc_region ?_
  refine jo_f [(0, 0)] (by kernel_rfl) ?_
  refine jo_end (by kernel_rfl) ?_
  refine jx_then ?_
  refine jc_seq ?_
  refine jc_seq ?_
  refine jc_region ?_
  refine jo_f [(0, 0), (0, 0), (0, 0), (0, 0), (0, 0)] (by kernel_rfl) ?_
  refine jo_end (by kernel_rfl) ?_
  refine jx_then ?_
  refine jc_cond ((a0.length : Int) != (b1.length : Int)) (by kernel_rfl) (fun hc_2 => ?_) (fun hc_2 => ?_)
  · replace h := ifT hc_2 h
    refine jc_seq ?_
    refine jc_region ?_
    refine jo_f [(0, 0)] (by kernel_rfl) ?_
    refine jo_end (by kernel_rfl) ?_
    refine jx_then ?_
    refine jc_ret ?_
    refine jx_thenr ?_
    obtain rfl := Option.some.inj h
    exact jx_ret [] (.bool false) [] rfl (by kernel_rfl) (by kernel_rfl) (fun w hm => ⟨rfl, hm.pick [] (by kernel_rfl) (by kernel_rfl)⟩)
  · replace h := ifF hc_2 h
    refine jc_skip ?_
    refine jx_then ?_
    refine jc_seq ?_
    refine jc_seq ?_
    refine jc_region ?_
    refine jo_f [(0, 0)] (by kernel_rfl) ?_
    refine jo_end (by kernel_rfl) ?_
    refine jx_then ?_
    refine jc_meet (fun (_ : Unit) => laws_eqChoiceS.k_1 = some r) (fun (_ : Unit) => [(4, [], (.bool false))]) (fun (_ : Unit) => []) ?_ ?_
    · refine jc_block ?_
      obtain ⟨t_4, ht_48, hr_38⟩ := bd h
      refine jc_loop (fun (s : Int) (x : Unit) => match s, x with | i_2, _ => True) (fun (s : Int) (x : Unit) => match s, x with | i_2, _ => [(0, [], (.slice a0_a a0.length a0_c)), (1, [], (.slice b1_a b1.length b1_c)), (4, [], (.bool false)), (5, [], (.int .i64 i_2))]) (fun (s : Int) (x : Unit) => match s, x with | i_2, _ => []) ht_48 () trivial (by kernel_rfl) [] (by kernel_rfl) (by kernel_rfl) ?_
      rintro i_2 _ y_39 _ h
      rw [laws_eqChoiceS.l_3] at h
      refine jc_seq ?_
      refine jc_seq ?_
      refine jc_region ?_
      refine jo_f [(0, 0), (0, 0), (0, 0), (0, 0)] (by kernel_rfl) ?_
      refine jo_end (by kernel_rfl) ?_
      refine jx_then ?_
      refine jc_cond (decide (i_2 < (a0.length : Int))) (by kernel_rfl) (fun hc_41 => ?_) (fun hc_41 => ?_)
      · replace h := ifT hc_41 h
        refine jc_skip ?_
        refine jx_then ?_
        refine jc_seq ?_
        refine jc_block ?_
        refine jc_seq ?_
        refine jc_draw [] 10 (by kernel_rfl) (by kernel_rfl) ?_
        refine jd_f [⟨0, 0, 0⟩, ⟨1, 0, 0⟩, ⟨4, 0, 0⟩, ⟨5, 0, 0⟩] 6 (by kernel_rfl) (by kernel_rfl) (fun w h => h.pick [] (by kernel_rfl) (by kernel_rfl)) (by kernel_rfl) (by kernel_rfl) ?_
        obtain ⟨x_5, hx_42, h⟩ := bd h
        refine jd_v 2 0 (by kernel_rfl) (fun w h => h.pick [] (by kernel_rfl) (by kernel_rfl)) (by kernel_rfl) (by kernel_rfl) _ (fun w hm => idx_run (a := a0_a) (len := a0.length) (s := 4) (j := i_2) (by kernel_rfl) (ix_some hx_42).1 (ltn hx_42 rfl) (a0_h.sp hx_42)) ?_
        refine jd_v 3 0 (by kernel_rfl) (fun w h => h.pick [] (by kernel_rfl) (by kernel_rfl)) (by kernel_rfl) (by kernel_rfl) _ (fun w hm => ld_run (b := aB a0_a) (off := (aO a0_a + i_2.toNat * 4)) (s := 4) (agg := true) (vs := (encGChoice x_5)) (by kernel_rfl) (by kernel_rfl) (.inl rfl) ((hm.exRow a0_h List.not_mem_nil).at hx_42)) ?_
        obtain ⟨x_6, hx_43, h⟩ := bd h
        refine jd_v 6 0 (by kernel_rfl) (fun w h => h.pick [] (by kernel_rfl) (by kernel_rfl)) (by kernel_rfl) (by kernel_rfl) _ (fun w hm => idx_run (a := b1_a) (len := b1.length) (s := 4) (j := i_2) (by kernel_rfl) (ix_some hx_43).1 (ltn hx_43 rfl) (b1_h.sp hx_43)) ?_
        refine jd_v 7 0 (by kernel_rfl) (fun w h => h.pick [] (by kernel_rfl) (by kernel_rfl)) (by kernel_rfl) (by kernel_rfl) _ (fun w hm => ld_run (b := aB b1_a) (off := (aO b1_a + i_2.toNat * 4)) (s := 4) (agg := true) (vs := (encGChoice x_6)) (by kernel_rfl) (by kernel_rfl) (.inl rfl) ((hm.exRow b1_h List.not_mem_nil).at hx_43)) ?_
        obtain ⟨t_7, ht_44, h⟩ := bd h
        refine toD 8 (by kernel_rfl) (p_call 0 60 #[(.agg #[(.bool x_5.fAway), (.int .i8 x_5.fLate), (.int .i8 x_5.fOctave), (.int .i8 x_5.fTrack)]), (.agg #[(.bool x_6.fAway), (.int .i8 x_6.fLate), (.int .i8 x_6.fOctave), (.int .i8 x_6.fTrack)])] (by kernel_rfl) (by kernel_rfl) (fun w hm => laws_eqChoice.calls x_5 x_6 w _ ht_44) ?_)
        rintro w v w' hm ⟨rfl, hm'⟩
        refine ⟨_, hm.app hm', jkD (fun w h => h.pick [] (by kernel_rfl) (by kernel_rfl)) ?_⟩
        clear hm hm'
        refine jd_f [⟨9, 0, 0⟩] 0 (by kernel_rfl) (by kernel_rfl) (fun w h => h.pick [] (by kernel_rfl) (by kernel_rfl)) (by kernel_rfl) (by kernel_rfl) ?_
        refine jd_end (by kernel_rfl) ?_
        refine jx_then ?_
        refine jc_cond (!t_7) (by kernel_rfl) (fun hc_45 => ?_) (fun hc_45 => ?_)
        · replace h := ifT hc_45 h
          refine jc_seq ?_
          refine jc_region ?_
          refine jo_f [(0, 0)] (by kernel_rfl) ?_
          refine jo_end (by kernel_rfl) ?_
          refine jx_then ?_
          refine jc_ret ?_
          refine jx_inr ?_
          refine jx_thenr ?_
          refine jx_leaver (.inl false) (Option.some.inj h).symm (fun e_46 => ?_)
          subst e_46
          refine jx_inr ?_
          refine jx_thenr ?_
          refine jx_thenr ?_
          obtain rfl := Option.some.inj hr_38
          exact jx_ret [] (.bool false) [] rfl (by kernel_rfl) (by kernel_rfl) (fun w hm => ⟨rfl, hm.pick [] (by kernel_rfl) (by kernel_rfl)⟩)
        · replace h := ifF hc_45 h
          refine jc_skip ?_
          refine jx_inn ?_
          refine jx_then ?_
          refine jc_region ?_
          refine jo_f [(0, 0), (0, 0), (0, 0)] (by kernel_rfl) ?_
          refine jo_end (by kernel_rfl) ?_
          exact jx_back (w64 (i_2 + 1)) () (Option.some.inj h).symm trivial [] (by kernel_rfl) (by kernel_rfl) (by kernel_rfl)
      · replace h := ifF hc_41 h
        refine jc_exit ?_
        refine jx_thenx ?_
        refine jx_leave (.inr ()) (Option.some.inj h).symm (fun e_47 => ?_)
        subst e_47
        refine jx_ine ?_
        exact jx_meet () hr_38 (by kernel_rfl) [] (by kernel_rfl) (by kernel_rfl)
    · rintro _ h
      replace h : laws_eqChoiceS.k_1 = some r := h
      rw [laws_eqChoiceS.k_1] at h
      refine jx_then ?_
      refine jc_seq ?_
      refine jc_region ?_
      refine jo_f [(0, 0)] (by kernel_rfl) ?_
      refine jo_end (by kernel_rfl) ?_
      refine jx_then ?_
      refine jc_ret ?_
      obtain rfl := Option.some.inj h
      exact jx_ret [] (.bool true) [] rfl (by kernel_rfl) (by kernel_rfl) (fun w hm => ⟨rfl, hm.pick [] (by kernel_rfl) (by kernel_rfl)⟩)

/-! ### laws.markTune -/
noncomputable def laws_markTune.k_3 (xs_1 : List GNote) (i_2 : Int) : Option (Int × (List GNote)) := some (i_2, xs_1)
noncomputable def laws_markTune.l_7 (a0 : List GNote) : ((List GNote) × Int × Int) → Option (((List GNote) × Int × Int) ⊕ (((List GNote) × Int)))
  | (xs_4, i_5, i_6) => (if (decide (i_6 < (a0.length : Int))) = true then (ix xs_4 i_6).bind fun x_9 => (ix (xs_4.set i_6.toNat (⟨(w16 i_5), x_9.fPitch⟩ : GNote)) i_6).bind fun x_10 => some (.inl (((xs_4.set i_6.toNat (⟨(w16 i_5), x_9.fPitch⟩ : GNote)).set i_6.toNat (⟨x_10.fAt, (w8 (w64 (i_5 + 1)))⟩ : GNote)), (w64 ((w64 (i_5 + 1)) + 1)), (w64 (i_6 + 1)))) else some (.inr (xs_4, i_5)))
noncomputable def laws_markTune (a0 : List GNote) (k1 : Int) : Option (Int × (List GNote)) := (loop (laws_markTune.l_7 a0) (a0, k1, 0)).bind fun t_8 => laws_markTune.k_3 t_8.1 t_8.2
set_option maxRecDepth 100000 in
theorem laws_markTune.calls (a0 : List GNote) (k1 : Int) (w : World) (r : Int × (List GNote)) (a0_o : Option Nat) (a0_on : Nat) (a0_c : Nat) (a0_sp : List Value) (a0_hn : a0.length = a0_on) (a0_hs : a0_o ≠ none → a0_on ≤ a0_c ∧ a0_sp.length = (a0_c - a0_on) * 2) (a0_ho : a0_o = none → a0 = [] ∧ a0_c = 0) (hm0 : Mem w (bs [a0_o]) [⟨a0_o, 95, row encGNote a0 a0_sp⟩] w) (h : laws_markTune a0 k1 = some r) :
    Calls Tryz.prog 25 #[(.slice (a0_o.map fun b => ⟨b, 0, none⟩) a0_on a0_c), (.int .i64 k1)] w fun e w' => ∃ v, e = .returned v ∧ (r.2.length = a0_on ∧ (a0_o = none → r.2 = [] ∧ a0_c = 0) ∧ v = (.int .i64 r.1) ∧ Mem w (bs [a0_o]) [⟨a0_o, 95, row encGNote r.2 a0_sp⟩] w') := by
  subst a0_hn
  rw [laws_markTune] at h
  refine enter (args := [(.slice (a0_o.map fun b => ⟨b, 0, none⟩) a0.length a0_c), (.int .i64 k1)]) Tryz.func25 rfl Tryz.ntmps25 (by kernel_rfl) (L := [⟨a0_o, 95, row encGNote a0 a0_sp⟩]) (W := bs [a0_o]) hm0 ?_
  refine jc_seq ?_
  refine jc_region ?_
  refine jo_f [(0, 0)] (by kernel_rfl) ?_
  refine jo_end (by kernel_rfl) ?_
  refine jx_then ?_
  refine jc_seq ?_
  refine jc_seq ?_
  refine jc_region ?_
  refine jo_f [(0, 0)] (by kernel_rfl) ?_
  refine jo_end (by kernel_rfl) ?_
  refine jx_then ?_
  refine jc_meet (fun (j : (List GNote) × Int) => match j with | ⟨xs_1, i_2⟩ => laws_markTune.k_3 xs_1 i_2 = some r ∧ (xs_1.length = a0.length) ∧ ((a0_o = none → xs_1 = [] ∧ a0_c = 0))) (fun (j : (List GNote) × Int) => match j with | ⟨xs_1, i_2⟩ => [(1, [], (.int .i64 i_2)), (4, [], (.int .i64 0))]) (fun (j : (List GNote) × Int) => match j with | ⟨xs_1, i_2⟩ => [⟨a0_o, 95, row encGNote xs_1 a0_sp⟩]) ?_ ?_
  · refine jc_block ?_
    obtain ⟨t_8, ht_84, hr_77⟩ := bd h
    refine jc_loop (fun (s : (List GNote) × Int × Int) (x : Unit) => match s, x with | ⟨xs_4, i_5, i_6⟩, _ => (xs_4.length = a0.length) ∧ ((a0_o = none → xs_4 = [] ∧ a0_c = 0))) (fun (s : (List GNote) × Int × Int) (x : Unit) => match s, x with | ⟨xs_4, i_5, i_6⟩, _ => [(0, [], (.slice (a0_o.map fun b => ⟨b, 0, none⟩) a0.length a0_c)), (1, [], (.int .i64 i_5)), (4, [], (.int .i64 0)), (5, [], (.int .i64 i_6))]) (fun (s : (List GNote) × Int × Int) (x : Unit) => match s, x with | ⟨xs_4, i_5, i_6⟩, _ => [⟨a0_o, 95, row encGNote xs_4 a0_sp⟩]) ht_84 () ⟨rfl, a0_ho⟩ (by kernel_rfl) [0] (by kernel_rfl) (by kernel_rfl) ?_
    rintro ⟨xs_4, i_5, i_6⟩ _ y_78 ⟨hn_76, ho_75⟩ h
    rw [laws_markTune.l_7] at h
    refine jc_seq ?_
    refine jc_seq ?_
    refine jc_region ?_
    refine jo_f [(0, 0), (0, 0), (0, 0), (0, 0)] (by kernel_rfl) ?_
    refine jo_end (by kernel_rfl) ?_
    refine jx_then ?_
    refine jc_cond (decide (i_6 < (a0.length : Int))) (by kernel_rfl) (fun hc_80 => ?_) (fun hc_80 => ?_)
    · replace h := ifT hc_80 h
      refine jc_skip ?_
      refine jx_then ?_
      refine jc_seq ?_
      refine jc_block ?_
      refine jc_seq ?_
      refine jc_region ?_
      refine jo_f [(0, 0), (0, 0), (0, 0), (0, 0)] (by kernel_rfl) ?_
      obtain ⟨x_9, hx_81, h⟩ := bd h
      refine toO (by kernel_rfl) (p_idx 0 (a0_o.map fun b => ⟨b, 0, none⟩) a0.length i_6 2 (by kernel_rfl) (by kernel_rfl) (ix_some hx_81).1 (ltn hx_81 hn_76) (spo ho_75 hx_81) (jkO ?_))
      refine jo_f [(0, 0)] (by kernel_rfl) ?_
      refine toO (by kernel_rfl) (p_strO 0 0 a0_o 95 encGNote xs_4 a0_sp i_6 (⟨(w16 i_5), x_9.fPitch⟩ : GNote) 2 0 [(.int .i16 (w16 i_5))] (by kernel_rfl) (by kernel_rfl) (by kernel_rfl) (fun e => (ho_75 e).1) encGNote_len hx_81 (by kernel_rfl) (by kernel_rfl) (jkO ?_))
      refine jo_end (by kernel_rfl) ?_
      refine jx_then ?_
      refine jc_seq ?_
      refine jc_region ?_
      refine jo_f [(0, 0), (0, 0), (0, 0)] (by kernel_rfl) ?_
      refine jo_end (by kernel_rfl) ?_
      refine jx_then ?_
      refine jc_seq ?_
      refine jc_region ?_
      refine jo_f [(0, 0), (0, 0), (0, 0), (0, 0)] (by kernel_rfl) ?_
      obtain ⟨x_10, hx_82, h⟩ := bd h
      refine toO (by kernel_rfl) (p_idx 0 (a0_o.map fun b => ⟨b, 0, none⟩) a0.length i_6 2 (by kernel_rfl) (by kernel_rfl) (ix_some hx_82).1 (ltn hx_82 (List.length_set.trans hn_76)) (spo (set_ho ho_75) hx_82) (jkO ?_))
      refine jo_f [(0, 0)] (by kernel_rfl) ?_
      refine toO (by kernel_rfl) (p_strO 0 0 a0_o 95 encGNote (xs_4.set i_6.toNat (⟨(w16 i_5), x_9.fPitch⟩ : GNote)) a0_sp i_6 (⟨x_10.fAt, (w8 (w64 (i_5 + 1)))⟩ : GNote) 2 1 [(.int .i8 (w8 (w64 (i_5 + 1))))] (by kernel_rfl) (by kernel_rfl) (by kernel_rfl) (fun e => ((set_ho ho_75) e).1) encGNote_len hx_82 (by kernel_rfl) (by kernel_rfl) (jkO ?_))
      refine jo_end (by kernel_rfl) ?_
      refine jx_then ?_
      refine jc_region ?_
      refine jo_f [(0, 0), (0, 0), (0, 0)] (by kernel_rfl) ?_
      refine jo_end (by kernel_rfl) ?_
      refine jx_inn ?_
      refine jx_then ?_
      refine jc_region ?_
      refine jo_f [(0, 0), (0, 0), (0, 0)] (by kernel_rfl) ?_
      refine jo_end (by kernel_rfl) ?_
      exact jx_back (((xs_4.set i_6.toNat (⟨(w16 i_5), x_9.fPitch⟩ : GNote)).set i_6.toNat (⟨x_10.fAt, (w8 (w64 (i_5 + 1)))⟩ : GNote)), (w64 ((w64 (i_5 + 1)) + 1)), (w64 (i_6 + 1))) () (Option.some.inj h).symm ⟨(List.length_set.trans (List.length_set.trans hn_76)), (set_ho (set_ho ho_75))⟩ [0] (by kernel_rfl) (by kernel_rfl) (by kernel_rfl)
    · replace h := ifF hc_80 h
      refine jc_exit ?_
      refine jx_thenx ?_
      refine jx_leave (xs_4, i_5) (Option.some.inj h).symm (fun e_83 => ?_)
      subst e_83
      refine jx_ine ?_
      exact jx_meet ⟨xs_4, i_5⟩ ⟨hr_77, hn_76, ho_75⟩ (by kernel_rfl) [0] (by kernel_rfl) (by kernel_rfl)
  · rintro ⟨xs_1, i_2⟩ ⟨h, hn_64, ho_63⟩
    replace h : laws_markTune.k_3 xs_1 i_2 = some r := h
    rw [laws_markTune.k_3] at h
    refine jx_then ?_
    refine jc_seq ?_
    refine jc_region ?_
    refine jo_f [(0, 0), (0, 0)] (by kernel_rfl) ?_
    refine jo_end (by kernel_rfl) ?_
    refine jx_then ?_
    refine jc_ret ?_
    obtain rfl := Option.some.inj h
    exact jx_ret [] (.int .i64 i_2) [] rfl (by kernel_rfl) (by kernel_rfl) (fun w hm => ⟨hn_64, ho_63, rfl, hm.pick [0] (by kernel_rfl) (by kernel_rfl)⟩)

/-! ### laws.markChoiceS -/
noncomputable def laws_markChoiceS.k_3 (xs_1 : List GChoice) (i_2 : Int) : Option (Int × (List GChoice)) := some (i_2, xs_1)
noncomputable def laws_markChoiceS.l_7 (a0 : List GChoice) : ((List GChoice) × Int × Int) → Option (((List GChoice) × Int × Int) ⊕ (((List GChoice) × Int)))
  | (xs_4, i_5, i_6) => (if (decide (i_6 < (a0.length : Int))) = true then (ix xs_4 i_6).bind fun x_9 => (ix (xs_4.set i_6.toNat (⟨((Int.tmod i_5 3) == 0), x_9.fLate, x_9.fOctave, x_9.fTrack⟩ : GChoice)) i_6).bind fun x_10 => (ix ((xs_4.set i_6.toNat (⟨((Int.tmod i_5 3) == 0), x_9.fLate, x_9.fOctave, x_9.fTrack⟩ : GChoice)).set i_6.toNat (⟨x_10.fAway, (w8 (w64 (i_5 + 1))), x_10.fOctave, x_10.fTrack⟩ : GChoice)) i_6).bind fun x_11 => (ix (((xs_4.set i_6.toNat (⟨((Int.tmod i_5 3) == 0), x_9.fLate, x_9.fOctave, x_9.fTrack⟩ : GChoice)).set i_6.toNat (⟨x_10.fAway, (w8 (w64 (i_5 + 1))), x_10.fOctave, x_10.fTrack⟩ : GChoice)).set i_6.toNat (⟨x_11.fAway, x_11.fLate, (w8 (w64 ((w64 (i_5 + 1)) + 1))), x_11.fTrack⟩ : GChoice)) i_6).bind fun x_12 => some (.inl (((((xs_4.set i_6.toNat (⟨((Int.tmod i_5 3) == 0), x_9.fLate, x_9.fOctave, x_9.fTrack⟩ : GChoice)).set i_6.toNat (⟨x_10.fAway, (w8 (w64 (i_5 + 1))), x_10.fOctave, x_10.fTrack⟩ : GChoice)).set i_6.toNat (⟨x_11.fAway, x_11.fLate, (w8 (w64 ((w64 (i_5 + 1)) + 1))), x_11.fTrack⟩ : GChoice)).set i_6.toNat (⟨x_12.fAway, x_12.fLate, x_12.fOctave, (w8 (w64 ((w64 ((w64 (i_5 + 1)) + 1)) + 1)))⟩ : GChoice)), (w64 ((w64 ((w64 ((w64 (i_5 + 1)) + 1)) + 1)) + 1)), (w64 (i_6 + 1)))) else some (.inr (xs_4, i_5)))
noncomputable def laws_markChoiceS (a0 : List GChoice) (k1 : Int) : Option (Int × (List GChoice)) := (loop (laws_markChoiceS.l_7 a0) (a0, k1, 0)).bind fun t_8 => laws_markChoiceS.k_3 t_8.1 t_8.2
set_option maxRecDepth 100000 in
theorem laws_markChoiceS.calls (a0 : List GChoice) (k1 : Int) (w : World) (r : Int × (List GChoice)) (a0_o : Option Nat) (a0_on : Nat) (a0_c : Nat) (a0_sp : List Value) (a0_hn : a0.length = a0_on) (a0_hs : a0_o ≠ none → a0_on ≤ a0_c ∧ a0_sp.length = (a0_c - a0_on) * 4) (a0_ho : a0_o = none → a0 = [] ∧ a0_c = 0) (hm0 : Mem w (bs [a0_o]) [⟨a0_o, 99, row encGChoice a0 a0_sp⟩] w) (h : laws_markChoiceS a0 k1 = some r) :
    Calls Tryz.prog 26 #[(.slice (a0_o.map fun b => ⟨b, 0, none⟩) a0_on a0_c), (.int .i64 k1)] w fun e w' => ∃ v, e = .returned v ∧ (r.2.length = a0_on ∧ (a0_o = none → r.2 = [] ∧ a0_c = 0) ∧ v = (.int .i64 r.1) ∧ Mem w (bs [a0_o]) [⟨a0_o, 99, row encGChoice r.2 a0_sp⟩] w') := by
  subst a0_hn
  rw [laws_markChoiceS] at h
  refine enter (args := [(.slice (a0_o.map fun b => ⟨b, 0, none⟩) a0.length a0_c), (.int .i64 k1)]) Tryz.func26 rfl Tryz.ntmps26 (by kernel_rfl) (L := [⟨a0_o, 99, row encGChoice a0 a0_sp⟩]) (W := bs [a0_o]) hm0 ?_
  refine jc_seq ?_
  refine jc_region ?_
  refine jo_f [(0, 0)] (by kernel_rfl) ?_
  refine jo_end (by kernel_rfl) ?_
  refine jx_then ?_
  refine jc_seq ?_
  refine jc_seq ?_
  refine jc_region ?_
  refine jo_f [(0, 0)] (by kernel_rfl) ?_
  refine jo_end (by kernel_rfl) ?_
  refine jx_then ?_
  refine jc_meet (fun (j : (List GChoice) × Int) => match j with | ⟨xs_1, i_2⟩ => laws_markChoiceS.k_3 xs_1 i_2 = some r ∧ (xs_1.length = a0.length) ∧ ((a0_o = none → xs_1 = [] ∧ a0_c = 0))) (fun (j : (List GChoice) × Int) => match j with | ⟨xs_1, i_2⟩ => [(1, [], (.int .i64 i_2)), (4, [], (.int .i64 0))]) (fun (j : (List GChoice) × Int) => match j with | ⟨xs_1, i_2⟩ => [⟨a0_o, 99, row encGChoice xs_1 a0_sp⟩]) ?_ ?_
  · refine jc_block ?_
    obtain ⟨t_8, ht_108, hr_99⟩ := bd h
    refine jc_loop (fun (s : (List GChoice) × Int × Int) (x : Unit) => match s, x with | ⟨xs_4, i_5, i_6⟩, _ => (xs_4.length = a0.length) ∧ ((a0_o = none → xs_4 = [] ∧ a0_c = 0))) (fun (s : (List GChoice) × Int × Int) (x : Unit) => match s, x with | ⟨xs_4, i_5, i_6⟩, _ => [(0, [], (.slice (a0_o.map fun b => ⟨b, 0, none⟩) a0.length a0_c)), (1, [], (.int .i64 i_5)), (4, [], (.int .i64 0)), (5, [], (.int .i64 i_6))]) (fun (s : (List GChoice) × Int × Int) (x : Unit) => match s, x with | ⟨xs_4, i_5, i_6⟩, _ => [⟨a0_o, 99, row encGChoice xs_4 a0_sp⟩]) ht_108 () ⟨rfl, a0_ho⟩ (by kernel_rfl) [0] (by kernel_rfl) (by kernel_rfl) ?_
    rintro ⟨xs_4, i_5, i_6⟩ _ y_100 ⟨hn_98, ho_97⟩ h
    rw [laws_markChoiceS.l_7] at h
    refine jc_seq ?_
    refine jc_seq ?_
    refine jc_region ?_
    refine jo_f [(0, 0), (0, 0), (0, 0), (0, 0)] (by kernel_rfl) ?_
    refine jo_end (by kernel_rfl) ?_
    refine jx_then ?_
    refine jc_cond (decide (i_6 < (a0.length : Int))) (by kernel_rfl) (fun hc_102 => ?_) (fun hc_102 => ?_)
    · replace h := ifT hc_102 h
      refine jc_skip ?_
      refine jx_then ?_
      refine jc_seq ?_
      refine jc_block ?_
      refine jc_seq ?_
      refine jc_region ?_
      refine jo_f [(0, 0), (0, 0), (0, 0), (0, 0), (0, 0)] (by kernel_rfl) ?_
      obtain ⟨x_9, hx_103, h⟩ := bd h
      refine toO (by kernel_rfl) (p_idx 0 (a0_o.map fun b => ⟨b, 0, none⟩) a0.length i_6 4 (by kernel_rfl) (by kernel_rfl) (ix_some hx_103).1 (ltn hx_103 hn_98) (spo ho_97 hx_103) (jkO ?_))
      refine jo_f [(0, 0)] (by kernel_rfl) ?_
      refine toO (by kernel_rfl) (p_strO 0 0 a0_o 99 encGChoice xs_4 a0_sp i_6 (⟨((Int.tmod i_5 3) == 0), x_9.fLate, x_9.fOctave, x_9.fTrack⟩ : GChoice) 4 0 [(.bool ((Int.tmod i_5 3) == 0))] (by kernel_rfl) (by kernel_rfl) (by kernel_rfl) (fun e => (ho_97 e).1) encGChoice_len hx_103 (by kernel_rfl) (by kernel_rfl) (jkO ?_))
      refine jo_end (by kernel_rfl) ?_
      refine jx_then ?_
      refine jc_seq ?_
      refine jc_region ?_
      refine jo_f [(0, 0), (0, 0), (0, 0)] (by kernel_rfl) ?_
      refine jo_end (by kernel_rfl) ?_
      refine jx_then ?_
      refine jc_seq ?_
      refine jc_region ?_
      refine jo_f [(0, 0), (0, 0), (0, 0), (0, 0)] (by kernel_rfl) ?_
      obtain ⟨x_10, hx_104, h⟩ := bd h
      refine toO (by kernel_rfl) (p_idx 0 (a0_o.map fun b => ⟨b, 0, none⟩) a0.length i_6 4 (by kernel_rfl) (by kernel_rfl) (ix_some hx_104).1 (ltn hx_104 (List.length_set.trans hn_98)) (spo (set_ho ho_97) hx_104) (jkO ?_))
      refine jo_f [(0, 0)] (by kernel_rfl) ?_
      refine toO (by kernel_rfl) (p_strO 0 0 a0_o 99 encGChoice (xs_4.set i_6.toNat (⟨((Int.tmod i_5 3) == 0), x_9.fLate, x_9.fOctave, x_9.fTrack⟩ : GChoice)) a0_sp i_6 (⟨x_10.fAway, (w8 (w64 (i_5 + 1))), x_10.fOctave, x_10.fTrack⟩ : GChoice) 4 1 [(.int .i8 (w8 (w64 (i_5 + 1))))] (by kernel_rfl) (by kernel_rfl) (by kernel_rfl) (fun e => ((set_ho ho_97) e).1) encGChoice_len hx_104 (by kernel_rfl) (by kernel_rfl) (jkO ?_))
      refine jo_end (by kernel_rfl) ?_
      refine jx_then ?_
      refine jc_seq ?_
      refine jc_region ?_
      refine jo_f [(0, 0), (0, 0), (0, 0)] (by kernel_rfl) ?_
      refine jo_end (by kernel_rfl) ?_
      refine jx_then ?_
      refine jc_seq ?_
      refine jc_region ?_
      refine jo_f [(0, 0), (0, 0), (0, 0), (0, 0)] (by kernel_rfl) ?_
      obtain ⟨x_11, hx_105, h⟩ := bd h
      refine toO (by kernel_rfl) (p_idx 0 (a0_o.map fun b => ⟨b, 0, none⟩) a0.length i_6 4 (by kernel_rfl) (by kernel_rfl) (ix_some hx_105).1 (ltn hx_105 (List.length_set.trans (List.length_set.trans hn_98))) (spo (set_ho (set_ho ho_97)) hx_105) (jkO ?_))
      refine jo_f [(0, 0)] (by kernel_rfl) ?_
      refine toO (by kernel_rfl) (p_strO 0 0 a0_o 99 encGChoice ((xs_4.set i_6.toNat (⟨((Int.tmod i_5 3) == 0), x_9.fLate, x_9.fOctave, x_9.fTrack⟩ : GChoice)).set i_6.toNat (⟨x_10.fAway, (w8 (w64 (i_5 + 1))), x_10.fOctave, x_10.fTrack⟩ : GChoice)) a0_sp i_6 (⟨x_11.fAway, x_11.fLate, (w8 (w64 ((w64 (i_5 + 1)) + 1))), x_11.fTrack⟩ : GChoice) 4 2 [(.int .i8 (w8 (w64 ((w64 (i_5 + 1)) + 1))))] (by kernel_rfl) (by kernel_rfl) (by kernel_rfl) (fun e => ((set_ho (set_ho ho_97)) e).1) encGChoice_len hx_105 (by kernel_rfl) (by kernel_rfl) (jkO ?_))
      refine jo_end (by kernel_rfl) ?_
      refine jx_then ?_
      refine jc_seq ?_
      refine jc_region ?_
      refine jo_f [(0, 0), (0, 0), (0, 0)] (by kernel_rfl) ?_
      refine jo_end (by kernel_rfl) ?_
      refine jx_then ?_
      refine jc_seq ?_
      refine jc_region ?_
      refine jo_f [(0, 0), (0, 0), (0, 0), (0, 0)] (by kernel_rfl) ?_
      obtain ⟨x_12, hx_106, h⟩ := bd h
      refine toO (by kernel_rfl) (p_idx 0 (a0_o.map fun b => ⟨b, 0, none⟩) a0.length i_6 4 (by kernel_rfl) (by kernel_rfl) (ix_some hx_106).1 (ltn hx_106 (List.length_set.trans (List.length_set.trans (List.length_set.trans hn_98)))) (spo (set_ho (set_ho (set_ho ho_97))) hx_106) (jkO ?_))
      refine jo_f [(0, 0)] (by kernel_rfl) ?_
      refine toO (by kernel_rfl) (p_strO 0 0 a0_o 99 encGChoice (((xs_4.set i_6.toNat (⟨((Int.tmod i_5 3) == 0), x_9.fLate, x_9.fOctave, x_9.fTrack⟩ : GChoice)).set i_6.toNat (⟨x_10.fAway, (w8 (w64 (i_5 + 1))), x_10.fOctave, x_10.fTrack⟩ : GChoice)).set i_6.toNat (⟨x_11.fAway, x_11.fLate, (w8 (w64 ((w64 (i_5 + 1)) + 1))), x_11.fTrack⟩ : GChoice)) a0_sp i_6 (⟨x_12.fAway, x_12.fLate, x_12.fOctave, (w8 (w64 ((w64 ((w64 (i_5 + 1)) + 1)) + 1)))⟩ : GChoice) 4 3 [(.int .i8 (w8 (w64 ((w64 ((w64 (i_5 + 1)) + 1)) + 1))))] (by kernel_rfl) (by kernel_rfl) (by kernel_rfl) (fun e => ((set_ho (set_ho (set_ho ho_97))) e).1) encGChoice_len hx_106 (by kernel_rfl) (by kernel_rfl) (jkO ?_))
      refine jo_end (by kernel_rfl) ?_
      refine jx_then ?_
      refine jc_region ?_
      refine jo_f [(0, 0), (0, 0), (0, 0)] (by kernel_rfl) ?_
      refine jo_end (by kernel_rfl) ?_
      refine jx_inn ?_
      refine jx_then ?_
      refine jc_region ?_
      refine jo_f [(0, 0), (0, 0), (0, 0)] (by kernel_rfl) ?_
      refine jo_end (by kernel_rfl) ?_
      exact jx_back (((((xs_4.set i_6.toNat (⟨((Int.tmod i_5 3) == 0), x_9.fLate, x_9.fOctave, x_9.fTrack⟩ : GChoice)).set i_6.toNat (⟨x_10.fAway, (w8 (w64 (i_5 + 1))), x_10.fOctave, x_10.fTrack⟩ : GChoice)).set i_6.toNat (⟨x_11.fAway, x_11.fLate, (w8 (w64 ((w64 (i_5 + 1)) + 1))), x_11.fTrack⟩ : GChoice)).set i_6.toNat (⟨x_12.fAway, x_12.fLate, x_12.fOctave, (w8 (w64 ((w64 ((w64 (i_5 + 1)) + 1)) + 1)))⟩ : GChoice)), (w64 ((w64 ((w64 ((w64 (i_5 + 1)) + 1)) + 1)) + 1)), (w64 (i_6 + 1))) () (Option.some.inj h).symm ⟨(List.length_set.trans (List.length_set.trans (List.length_set.trans (List.length_set.trans hn_98)))), (set_ho (set_ho (set_ho (set_ho ho_97))))⟩ [0] (by kernel_rfl) (by kernel_rfl) (by kernel_rfl)
    · replace h := ifF hc_102 h
      refine jc_exit ?_
      refine jx_thenx ?_
      refine jx_leave (xs_4, i_5) (Option.some.inj h).symm (fun e_107 => ?_)
      subst e_107
      refine jx_ine ?_
      exact jx_meet ⟨xs_4, i_5⟩ ⟨hr_99, hn_98, ho_97⟩ (by kernel_rfl) [0] (by kernel_rfl) (by kernel_rfl)
  · rintro ⟨xs_1, i_2⟩ ⟨h, hn_82, ho_81⟩
    replace h : laws_markChoiceS.k_3 xs_1 i_2 = some r := h
    rw [laws_markChoiceS.k_3] at h
    refine jx_then ?_
    refine jc_seq ?_
    refine jc_region ?_
    refine jo_f [(0, 0), (0, 0)] (by kernel_rfl) ?_
    refine jo_end (by kernel_rfl) ?_
    refine jx_then ?_
    refine jc_ret ?_
    obtain rfl := Option.some.inj h
    exact jx_ret [] (.int .i64 i_2) [] rfl (by kernel_rfl) (by kernel_rfl) (fun w hm => ⟨hn_82, ho_81, rfl, hm.pick [0] (by kernel_rfl) (by kernel_rfl)⟩)

/-! ### laws.heldTune -/
noncomputable def laws_heldTune.k_2 (i_1 : Int) : Option (Int) := some i_1
noncomputable def laws_heldTune.l_5 (a0 : List GNote) : (Int × Int) → Option ((Int × Int) ⊕ (Int ⊕ Int))
  | (i_3, i_4) => (if (decide (i_4 < (a0.length : Int))) = true then (ix a0 i_4).bind fun x_7 => (if (x_7.fAt != (w16 i_3)) = true then some (.inr (.inl (-1))) else (ix a0 i_4).bind fun x_8 => (if (x_8.fPitch != (w8 (w64 (i_3 + 1)))) = true then some (.inr (.inl (-1))) else some (.inl ((w64 ((w64 (i_3 + 1)) + 1)), (w64 (i_4 + 1)))))) else some (.inr (.inr i_3)))
noncomputable def laws_heldTune (a0 : List GNote) (k1 : Int) : Option (Int) := (loop (laws_heldTune.l_5 a0) (k1, 0)).bind fun t_6 => match t_6 with | .inl p => some p | .inr p => laws_heldTune.k_2 p
set_option maxRecDepth 100000 in
theorem laws_heldTune.calls (a0 : List GNote) (k1 : Int) (w : World) (r : Int) (a0_a : Option Addr) (a0_an : Nat) (a0_c : Nat) (a0_h : Rw w a0_a 2 encGNote a0) (a0_hn : a0.length = a0_an) (h : laws_heldTune a0 k1 = some r) :
    Calls Tryz.prog 27 #[(.slice a0_a a0_an a0_c), (.int .i64 k1)] w fun e w' => ∃ v, e = .returned v ∧ (v = (.int .i64 r) ∧ Mem w [] [] w') := by
  subst a0_hn
  rw [laws_heldTune] at h
  refine enter (args := [(.slice a0_a a0.length a0_c), (.int .i64 k1)]) Tryz.func27 rfl Tryz.ntmps27 (by kernel_rfl) (L := []) (W := []) (Mem.start w) ?_
  refine jc_seq ?_
  refine jc_region ?_
  refine jo_f [(0, 0)] (by kernel_rfl) ?_
  refine jo_end (by kernel_rfl) ?_
  refine jx_then ?_
  refine jc_seq ?_
  refine jc_seq ?_
  refine jc_region ?_
  refine jo_f [(0, 0)] (by kernel_rfl) ?_
  refine jo_end (by kernel_rfl) ?_
  refine jx_then ?_
  refine jc_meet (fun (j : Int) => match j with | i_1 => laws_heldTune.k_2 i_1 = some r) (fun (j : Int) => match j with | i_1 => [(1, [], (.int .i64 i_1)), (4, [], (.int .i64 0))]) (fun (j : Int) => match j with | i_1 => []) ?_ ?_
  · refine jc_block ?_
    obtain ⟨t_6, ht_120, hr_107⟩ := bd h
    refine jc_loop (fun (s : Int × Int) (x : Unit) => match s, x with | ⟨i_3, i_4⟩, _ => True) (fun (s : Int × Int) (x : Unit) => match s, x with | ⟨i_3, i_4⟩, _ => [(0, [], (.slice a0_a a0.length a0_c)), (1, [], (.int .i64 i_3)), (4, [], (.int .i64 0)), (5, [], (.int .i64 i_4))]) (fun (s : Int × Int) (x : Unit) => match s, x with | ⟨i_3, i_4⟩, _ => []) ht_120 () trivial (by kernel_rfl) [] (by kernel_rfl) (by kernel_rfl) ?_
    rintro ⟨i_3, i_4⟩ _ y_108 _ h
    rw [laws_heldTune.l_5] at h
    refine jc_seq ?_
    refine jc_seq ?_
    refine jc_region ?_
    refine jo_f [(0, 0), (0, 0), (0, 0), (0, 0)] (by kernel_rfl) ?_
    refine jo_end (by kernel_rfl) ?_
    refine jx_then ?_
    refine jc_cond (decide (i_4 < (a0.length : Int))) (by kernel_rfl) (fun hc_110 => ?_) (fun hc_110 => ?_)
    · replace h := ifT hc_110 h
      refine jc_skip ?_
      refine jx_then ?_
      refine jc_seq ?_
      refine jc_block ?_
      refine jc_seq ?_
      refine jc_seq ?_
      refine jc_region ?_
      refine jo_f [(0, 0), (0, 0)] (by kernel_rfl) ?_
      obtain ⟨x_7, hx_113, h⟩ := bd h
      refine toO (by kernel_rfl) (p_idx 0 a0_a a0.length i_4 2 (by kernel_rfl) (by kernel_rfl) (ix_some hx_113).1 (ltn hx_113 rfl) (a0_h.sp hx_113) (jkO ?_))
      refine jo_f [(0, 0)] (by kernel_rfl) ?_
      refine toO (by kernel_rfl) (p_ld 0 (aB a0_a) (aO a0_a + i_4.toNat * 2) false (((encGNote x_7).drop 0).take 1) (by kernel_rfl) (by kernel_rfl) (by kernel_rfl) (fun w hm => (((hm.exRow a0_h List.not_mem_nil).at hx_113).sub 0 1)) (jkO ?_))
      refine jo_f [(0, 0), (0, 0), (0, 0)] (by kernel_rfl) ?_
      refine jo_end (by kernel_rfl) ?_
      refine jx_then ?_
      refine jc_cond (x_7.fAt != (w16 i_3)) (by kernel_rfl) (fun hc_114 => ?_) (fun hc_114 => ?_)
      · replace h := ifT hc_114 h
        refine jc_seq ?_
        refine jc_region ?_
        refine jo_f [(0, 0)] (by kernel_rfl) ?_
        refine jo_end (by kernel_rfl) ?_
        refine jx_then ?_
        refine jc_ret ?_
        refine jx_thenr ?_
        refine jx_inr ?_
        refine jx_thenr ?_
        refine jx_leaver (.inl (-1)) (Option.some.inj h).symm (fun e_115 => ?_)
        subst e_115
        refine jx_inr ?_
        refine jx_thenr ?_
        refine jx_thenr ?_
        obtain rfl := Option.some.inj hr_107
        exact jx_ret [] (.int .i64 (-1)) [] rfl (by kernel_rfl) (by kernel_rfl) (fun w hm => ⟨rfl, hm.pick [] (by kernel_rfl) (by kernel_rfl)⟩)
      · replace h := ifF hc_114 h
        refine jc_skip ?_
        refine jx_then ?_
        refine jc_seq ?_
        refine jc_region ?_
        refine jo_f [(0, 0), (0, 0), (0, 0)] (by kernel_rfl) ?_
        refine jo_end (by kernel_rfl) ?_
        refine jx_then ?_
        refine jc_seq ?_
        refine jc_seq ?_
        refine jc_region ?_
        refine jo_f [(0, 0), (0, 0)] (by kernel_rfl) ?_
        obtain ⟨x_8, hx_116, h⟩ := bd h
        refine toO (by kernel_rfl) (p_idx 0 a0_a a0.length i_4 2 (by kernel_rfl) (by kernel_rfl) (ix_some hx_116).1 (ltn hx_116 rfl) (a0_h.sp hx_116) (jkO ?_))
        refine jo_f [(0, 0)] (by kernel_rfl) ?_
        refine toO (by kernel_rfl) (p_ld 0 (aB a0_a) (aO a0_a + i_4.toNat * 2 + 1) false (((encGNote x_8).drop 1).take 1) (by kernel_rfl) (by kernel_rfl) (by kernel_rfl) (fun w hm => (((hm.exRow a0_h List.not_mem_nil).at hx_116).sub 1 1)) (jkO ?_))
        refine jo_f [(0, 0), (0, 0), (0, 0)] (by kernel_rfl) ?_
        refine jo_end (by kernel_rfl) ?_
        refine jx_then ?_
        refine jc_cond (x_8.fPitch != (w8 (w64 (i_3 + 1)))) (by kernel_rfl) (fun hc_117 => ?_) (fun hc_117 => ?_)
        · replace h := ifT hc_117 h
          refine jc_seq ?_
          refine jc_region ?_
          refine jo_f [(0, 0)] (by kernel_rfl) ?_
          refine jo_end (by kernel_rfl) ?_
          refine jx_then ?_
          refine jc_ret ?_
          refine jx_thenr ?_
          refine jx_inr ?_
          refine jx_thenr ?_
          refine jx_leaver (.inl (-1)) (Option.some.inj h).symm (fun e_118 => ?_)
          subst e_118
          refine jx_inr ?_
          refine jx_thenr ?_
          refine jx_thenr ?_
          obtain rfl := Option.some.inj hr_107
          exact jx_ret [] (.int .i64 (-1)) [] rfl (by kernel_rfl) (by kernel_rfl) (fun w hm => ⟨rfl, hm.pick [] (by kernel_rfl) (by kernel_rfl)⟩)
        · replace h := ifF hc_117 h
          refine jc_skip ?_
          refine jx_then ?_
          refine jc_region ?_
          refine jo_f [(0, 0), (0, 0), (0, 0)] (by kernel_rfl) ?_
          refine jo_end (by kernel_rfl) ?_
          refine jx_inn ?_
          refine jx_then ?_
          refine jc_region ?_
          refine jo_f [(0, 0), (0, 0), (0, 0)] (by kernel_rfl) ?_
          refine jo_end (by kernel_rfl) ?_
          exact jx_back ((w64 ((w64 (i_3 + 1)) + 1)), (w64 (i_4 + 1))) () (Option.some.inj h).symm trivial [] (by kernel_rfl) (by kernel_rfl) (by kernel_rfl)
    · replace h := ifF hc_110 h
      refine jc_exit ?_
      refine jx_thenx ?_
      refine jx_leave (.inr i_3) (Option.some.inj h).symm (fun e_119 => ?_)
      subst e_119
      refine jx_ine ?_
      exact jx_meet i_3 hr_107 (by kernel_rfl) [] (by kernel_rfl) (by kernel_rfl)
  · rintro i_1 h
    replace h : laws_heldTune.k_2 i_1 = some r := h
    rw [laws_heldTune.k_2] at h
    refine jx_then ?_
    refine jc_seq ?_
    refine jc_region ?_
    refine jo_f [(0, 0), (0, 0)] (by kernel_rfl) ?_
    refine jo_end (by kernel_rfl) ?_
    refine jx_then ?_
    refine jc_ret ?_
    obtain rfl := Option.some.inj h
    exact jx_ret [] (.int .i64 i_1) [] rfl (by kernel_rfl) (by kernel_rfl) (fun w hm => ⟨rfl, hm.pick [] (by kernel_rfl) (by kernel_rfl)⟩)
end Go.Proofs.YtilackblefjgdaaGreat
