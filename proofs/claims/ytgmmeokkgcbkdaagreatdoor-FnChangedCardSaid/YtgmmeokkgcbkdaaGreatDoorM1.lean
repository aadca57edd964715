/- Functions of the program that the laws reach: a plain function each, and that the call comes to its answer if the plain function has one. Printed by a program. -/
import Derived.Test.YtgmmeokkgcbkdaaGreatDoorT
import Derived.Test.YtgmmeokkgcbkdaaGreatDoorM0
namespace Go.Proofs.YtgmmeokkgcbkdaaGreatDoor
open Eng
set_option linter.unusedVariables false

set_option linter.unusedSectionVars false
set_option maxRecDepth 100000
variable [dsW : DrwS]
noncomputable section
/-! ### impl.MakeChanges -/
def impl_MakeChanges (f0 : GFrame) (d1 : Arr 96 Int) (list2 : List GChange) : Option ((Arr 96 Int) × Int) := (impl_changesCode f0 d1 list2).bind fun t_1 => (if (t_1 != 0) = true then some ((Arr.rep 96 0), t_1) else (impl_makeChanges f0 d1 list2).bind fun t_2 => some (t_2.1, t_2.2.2))
theorem impl_MakeChanges.calls (f0 : GFrame) (d1 : Arr 96 Int) (list2 : List GChange) (w : World) (r : (Arr 96 Int) × Int) {C_a : Option Addr} {C_an : Nat} (C_c : Nat) (C_h : Rw w C_a 2 encGHammer f0.fHammers) (C_hn : f0.fHammers.length = C_an) {E_a : Option Addr} {E_an : Nat} (E_c : Nat) (E_h : Rw w E_a 3 encGChange list2) (E_hn : list2.length = E_an) (h : impl_MakeChanges f0 d1 list2 = some r) :
    Calls Tryz.prog 11 #[(.agg #[(.int .i16 f0.fSteps), (.slice C_a C_an C_c)]), (.agg (row encU32 d1.1 []).toArray), (.slice E_a E_an E_c)] w fun e w' => ∃ v, e = .returned v ∧ (v = .tuple #[(.agg (row encU32 r.1.1 []).toArray), (.int .i64 r.2)] ∧ Mem w [] [] w') := by
  subst C_hn E_hn
  rw [impl_MakeChanges] at h
  refine enter (args := [(.agg #[(.int .i16 f0.fSteps), (.slice C_a f0.fHammers.length C_c)]), (.agg (row encU32 d1.1 []).toArray), (.slice E_a list2.length E_c)]) Tryz.func11 rfl Tryz.ntmps11 (by kernel_rfl) (L := []) (W := []) (Mem.start w) ?_
  refine jc_seq (jc_region (tO (qa 0 (fun b_1 => jkO (tO (qa 0 (fun b_2 => jkO (tO (qa 0 (fun b_3 => jkO (qh [0] (qe (jx_then (jc_seq (jc_seq (jc_region (qh [0] (tO (p_ldA 0 1 b_2 96 1 31 encU32 d1 (by kernel_rfl) (by kernel_rfl) (by kernel_rfl) encU32_len (by kernel_rfl) (jkO (qh [0] ?_)))))))))))))))))))))
  obtain ⟨t_1, ht_6, h⟩ := bd h
  refine tO (pc 0 (fun w hm => impl_changesCode.calls f0 d1 list2 w _ C_c (hm.xr C_h) rfl E_c (hm.xr E_h) rfl ht_6) ?_)
  rintro w v w' hm ⟨rfl, hm'⟩
  refine ⟨_, hm.app hm', jkO ?_⟩
  clear hm hm'
  refine qh [0] (qe (jx_then (jc_seq (jc_region (qh [0,0] (qe (jx_then (qi h (fun h => ?_) (fun h => ?_)))))))))
  ·refine jc_seq (jc_region (qh [0,0] (tO (p_sA 0 2 b_3 96 1 31 encU32 (Arr.rep 96 0) (Arr.rep 96 0) (by kernel_rfl) (by kernel_rfl) (by kernel_rfl) encU32_len encU32_cell (by kernel_rfl) (jkO (qh [0] (qe (jx_then (jc_ret (jx_thenr ?_))))))))))
   obtain rfl := Option.some.inj h
   exact jx_retV rfl (rq_arr (b := b_3) (T' := 31) (hh := 2) (mm := 1) encU32 (Arr.rep 96 0) (by kernel_rfl) (by kernel_rfl) encU32_len (by kernel_rfl) (rq_tmp (by kernel_rfl) rq_nil)) (fun w hm => ⟨rfl, hm.pk []⟩)
  ·refine jc_skip (jx_then (jc_seq (jc_region (qh [0] (tO (p_ldA 0 1 b_2 96 1 31 encU32 d1 (by kernel_rfl) (by kernel_rfl) (by kernel_rfl) encU32_len (by kernel_rfl) (jkO (qh [0] ?_))))))))
   obtain ⟨t_2, ht_8, h⟩ := bd h
   refine tO (pc 0 (fun w hm => impl_makeChanges.calls f0 d1 list2 w _ C_c (hm.xr C_h) rfl E_c (hm.xr E_h) rfl ht_8) ?_)
   rintro w v w' hm ⟨rfl, hm'⟩
   refine ⟨_, hm.app hm', jkO ?_⟩
   clear hm hm'
   refine qh [0,0,0,0] (tO (qa 0 (fun b_9 => jkO (tO (p_sA 0 3 b_9 96 1 31 encU32 (Arr.rep 96 0) t_2.1 (by kernel_rfl) (by kernel_rfl) (by kernel_rfl) encU32_len encU32_cell (by kernel_rfl) (jkO (qh [0,0] (qe (jx_then (jc_seq (jc_region (tO (p_ldA 0 3 b_9 96 1 31 encU32 t_2.1 (by kernel_rfl) (by kernel_rfl) (by kernel_rfl) encU32_len (by kernel_rfl) (jkO (qh [0] (tO (p_sA 0 2 b_3 96 1 31 encU32 (Arr.rep 96 0) t_2.1 (by kernel_rfl) (by kernel_rfl) (by kernel_rfl) encU32_len encU32_cell (by kernel_rfl) (jkO (qh [0] (qe (jx_then (jc_ret ?_))))))))))))))))))))))
   obtain rfl := Option.some.inj h
   exact jx_retV rfl (rq_arr (b := b_3) (T' := 31) (hh := 2) (mm := 1) encU32 t_2.1 (by kernel_rfl) (by kernel_rfl) encU32_len (by kernel_rfl) (rq_tmp (by kernel_rfl) rq_nil)) (fun w hm => ⟨rfl, hm.pk []⟩)
/-! ### slices.Clone[[]impl.Change,impl.Change] -/
def slices_Clone_Change (s0 : List GChange) : Option ((List GChange)) := (if ([] : List GChange).length + s0.length ≤ 4294967296 then some (([] : List GChange) ++ s0) else none)
theorem slices_Clone_Change.calls (s0 : List GChange) (w : World) (r : (List GChange)) {A_a : Option Addr} {A_an : Nat} (A_c : Nat) (A_h : Rw w A_a 3 encGChange s0) (A_hn : s0.length = A_an) (h : slices_Clone_Change s0 = some r) :
    Calls Tryz.prog 40 #[(.slice A_a A_an A_c)] w fun e w' => ∃ v, e = .returned v ∧ (∃ (o0 : Option Nat) (c0 : Nat) (s0 : List Value) (n0 : Nat), r.length = n0 ∧ (o0 ≠ none → n0 ≤ c0 ∧ s0.length = (c0 - n0) * 3) ∧ (o0 = none → r = [] ∧ c0 = 0) ∧ v = .slice (o0.map fun b => ⟨b, 0, none⟩) n0 c0 ∧ Mem w [] [⟨o0, 61, row encGChange r s0⟩] w') := by
  subst A_hn
  rw [slices_Clone_Change] at h
  refine enter (args := [(.slice A_a s0.length A_c)]) Tryz.func40 rfl Tryz.ntmps40 (by kernel_rfl) (L := []) (W := []) (Mem.start w) ?_
  refine jc_seq (jc_region (qh [0] (qe (jx_then (jc_seq (jc_seq (jc_region (qh [0] ?_))))))))
  by_cases hn_4 : A_a = none
  ·have hx0 : s0 = [] := (nil_of A_h hn_4)
   replace h : some [] = some r := by simpa [hx0] using h
   refine tO (p_nil 0 A_a true true (by kernel_rfl) (by kernel_rfl) (by rw [hn_4]; rfl) (jkO (qe (jx_then (jc_cond true (by kernel_rfl) (fun hc_5 => (jc_seq (jc_region (qh [0] (qe (jx_then (jc_ret (jx_thenr ?_)))))))) (fun hc_5 => nomatch hc_5))))))
   obtain rfl := Option.some.inj h
   exact jx_ghost 61 encGChange (qr [] (fun w hm => ⟨none, 0, [], 0, rfl, (fun e => absurd rfl e), (fun _ => ⟨rfl, rfl⟩), rfl, hm.pk [0]⟩))
  ·refine tO (p_nil 0 A_a true false (by kernel_rfl) (by kernel_rfl) (by rw [Option.isNone_eq_false_iff.2 (Option.ne_none_iff_isSome.1 hn_4)]; rfl) (jkO (qe (jx_then (jc_cond false (by kernel_rfl) (fun hc_6 => nomatch hc_6) (fun hc_6 => (jc_skip (jx_then (jc_seq (jc_region (tO (qa 0 (fun b_7 => jkO (qh [0] ?_))))))))))))))
   obtain ⟨hg_8, h⟩ := gd h
   refine tO (p_apn 0 0 (some b_7) 61 0 s0.length 0 3 4 A_a encGChange ([] : List GChange) s0 [] (.agg #[(.int .i16 0), (.int .i8 0), (.bool false)]) rfl rfl (by kernel_rfl) (by kernel_rfl) (by kernel_rfl) encGChange_len encGChange_cell (fun _ => ⟨Nat.le_refl _, by simp⟩) (fun e => nomatch e) (fun w hm => (hm.xr A_h)) hg_8 (by kernel_rfl) (by kernel_rfl) (fun o_9 cap_10 sp_11 hs_12 ho_13 => jkO (qh [0] (qe (jx_then (jc_ret ?_))))))
   obtain rfl := Option.some.inj h
   exact qr [] (fun w hm => ⟨o_9, cap_10, sp_11, ((([] : List GChange) ++ s0).length), rfl, hs_12, ho_13, rfl, hm.pk [0]⟩)
/-! ### slices.Reverse[[]impl.Change,impl.Change] -/
def slices_Reverse_Change.k_2 (xs_1 : List GChange) : Option ((List GChange)) := some xs_1
def slices_Reverse_Change.l_6 : ((List GChange) × Int × Int) → Option (((List GChange) × Int × Int) ⊕ ((List GChange)))
  | (xs_3, i_4, i_5) => (if (decide (i_4 < i_5)) = true then (ix xs_3 i_5).bind fun x_8 => (ix xs_3 i_4).bind fun x_9 => (ix xs_3 i_4).bind fun x_10 => (ix (xs_3.set i_4.toNat x_8) i_5).bind fun x_11 => some (.inl (((xs_3.set i_4.toNat x_8).set i_5.toNat x_9), (w64 (i_4 + 1)), (w64 (i_5 - 1)))) else some (.inr xs_3))
def slices_Reverse_Change (s0 : List GChange) : Option ((List GChange)) := (loop slices_Reverse_Change.l_6 (s0, 0, (w64 ((s0.length : Int) - 1)))).bind fun t_7 => slices_Reverse_Change.k_2 t_7
theorem slices_Reverse_Change.calls (s0 : List GChange) (w : World) (r : (List GChange)) (A_o : Option Nat) {A_on : Nat} {A_c : Nat} {A_sp : List Value} (A_hn : s0.length = A_on) (A_hs : A_o ≠ none → A_on ≤ A_c ∧ A_sp.length = (A_c - A_on) * 3) (A_ho : A_o = none → s0 = [] ∧ A_c = 0) (hm0 : Mem w (bs [A_o]) [⟨A_o, 61, row encGChange s0 A_sp⟩] w) (h : slices_Reverse_Change s0 = some r) :
    Calls Tryz.prog 41 #[(.slice (A_o.map fun b => ⟨b, 0, none⟩) A_on A_c)] w fun e w' => ∃ v, e = .returned v ∧ (r.length = A_on ∧ (A_o = none → r = [] ∧ A_c = 0) ∧ v = .tuple #[] ∧ Mem w (bs [A_o]) [⟨A_o, 61, row encGChange r A_sp⟩] w') := by
  subst A_hn
  rw [slices_Reverse_Change] at h
  refine enter (args := [(.slice (A_o.map fun b => ⟨b, 0, none⟩) s0.length A_c)]) Tryz.func41 rfl Tryz.ntmps41 (by kernel_rfl) (L := [⟨A_o, 61, row encGChange s0 A_sp⟩]) (W := bs [A_o]) hm0 ?_
  refine jc_seq (jc_region (qh [0,0,0,0,0] (qe (jx_then (jc_meet (fun (j : (List GChange)) => match j with | xs_1 => slices_Reverse_Change.k_2 xs_1 = some r ∧ (xs_1.length = s0.length) ∧ ((A_o = none → xs_1 = [] ∧ A_c = 0))) (fun (j : (List GChange)) => match j with | xs_1 => []) (fun (j : (List GChange)) => match j with | xs_1 => [⟨A_o, 61, row encGChange xs_1 A_sp⟩]) ?_ ?_)))))
  ·refine jc_block ?_
   obtain ⟨t_7, ht_84, hr_70⟩ := bd h
   refine jc_loop (fun (s : (List GChange) × Int × Int) (x : Unit) => match s, x with | ⟨xs_3, i_4, i_5⟩, _ => (xs_3.length = s0.length) ∧ ((A_o = none → xs_3 = [] ∧ A_c = 0))) (fun (s : (List GChange) × Int × Int) (x : Unit) => match s, x with | ⟨xs_3, i_4, i_5⟩, _ => [(0, [], (.slice (A_o.map fun b => ⟨b, 0, none⟩) s0.length A_c)), (2, [], (.int .i64 i_4)), (3, [], (.int .i64 i_5))]) (fun (s : (List GChange) × Int × Int) (x : Unit) => match s, x with | ⟨xs_3, i_4, i_5⟩, _ => [⟨A_o, 61, row encGChange xs_3 A_sp⟩]) ht_84 () ⟨rfl, A_ho⟩ (by kernel_rfl) [0] (by kernel_rfl) (by kernel_rfl) ?_
   rintro ⟨xs_3, i_4, i_5⟩ _ y_71 ⟨hn_69, ho_68⟩ h
   rw [slices_Reverse_Change.l_6] at h
   refine jc_seq (jc_seq (jc_region (qh [0,0,0] (qe (jx_then (qi h (fun h => ?_) (fun h => ?_)))))))
   ·refine jc_skip (jx_then (jc_seq (jc_block (qg [] 16 (qd [⟨0, 0, 0⟩,⟨1, 0, 0⟩,⟨2, 0, 0⟩,⟨3, 0, 0⟩,⟨4, 0, 0⟩,⟨5, 0, 0⟩,⟨8, 0, 0⟩,⟨9, 0, 0⟩] 8 [] ?_)))))
    obtain ⟨x_8, hx_77, h⟩ := bd h
    refine qv 6 0 [] (fun w hm => idx_run (a := (A_o.map fun b => ⟨b, 0, none⟩)) (len := s0.length) (s := 3) (j := i_5) (by kernel_rfl) (ix_some hx_77).1 (ltn hx_77 hn_69) (spo ho_68 hx_77)) ?_
    obtain ⟨x_9, hx_78, h⟩ := bd h
    refine qv 10 0 [] (fun w hm => idx_run (a := (A_o.map fun b => ⟨b, 0, none⟩)) (len := s0.length) (s := 3) (j := i_4) (by kernel_rfl) (ix_some hx_78).1 (ltn hx_78 hn_69) (spo ho_68 hx_78)) (toD2 7 11 (by kernel_rfl) ?_ ?_)
    ·refine ql 0 true (fun w hm => ((hm.ow 0 A_o 61 xs_3 A_sp (fun e => (ho_68 e).1) encGChange_len).at hx_77)) (kD [] (tD 11 (ql 0 true (fun w hm => ((hm.ow 0 A_o 61 xs_3 A_sp (fun e => (ho_68 e).1) encGChange_len).at hx_78)) (kD [] ?_))))
     obtain ⟨x_10, hx_79, h⟩ := bd h
     refine qv 12 0 [] (fun w hm => idx_run (a := (A_o.map fun b => ⟨b, 0, none⟩)) (len := s0.length) (s := 3) (j := i_4) (by kernel_rfl) (ix_some hx_79).1 (ltn hx_79 hn_69) (spo ho_68 hx_79)) (tD 13 (p_strO 0 0 A_o 61 encGChange xs_3 A_sp i_4 x_8 3 0 [(.int .i16 x_8.fStep), (.int .i8 x_8.fTrack), (.bool x_8.fPut)] (by kernel_rfl) (by kernel_rfl) (by kernel_rfl) (fun e => (ho_68 e).1) encGChange_len hx_79 (by kernel_rfl) (by kernel_rfl) (kD [] ?_)))
     obtain ⟨x_11, hx_80, h⟩ := bd h
     exact qv 14 0 [] (fun w hm => idx_run (a := (A_o.map fun b => ⟨b, 0, none⟩)) (len := s0.length) (s := 3) (j := i_5) (by kernel_rfl) (ix_some hx_80).1 (ltn hx_80 (List.length_set.trans hn_69)) (spo (set_ho ho_68) hx_80)) (tD 15 (p_strO 0 0 A_o 61 encGChange (xs_3.set i_4.toNat x_8) A_sp i_5 x_9 3 0 [(.int .i16 x_9.fStep), (.int .i8 x_9.fTrack), (.bool x_9.fPut)] (by kernel_rfl) (by kernel_rfl) (by kernel_rfl) (fun e => ((set_ho ho_68) e).1) encGChange_len hx_80 (by kernel_rfl) (by kernel_rfl) (kD [] (qz (jx_inn (jx_then (jc_region (qh [0,0,0,0,0,0] (qe (qb (((xs_3.set i_4.toNat x_8).set i_5.toNat x_9), (w64 (i_4 + 1)), (w64 (i_5 - 1))) () h ⟨(List.length_set.trans (List.length_set.trans hn_69)), (set_ho (set_ho ho_68))⟩ [0]))))))))))
    ·refine ql 0 true (fun w hm => ((hm.ow 0 A_o 61 xs_3 A_sp (fun e => (ho_68 e).1) encGChange_len).at hx_78)) (kD [] (tD 7 (ql 0 true (fun w hm => ((hm.ow 0 A_o 61 xs_3 A_sp (fun e => (ho_68 e).1) encGChange_len).at hx_77)) (kD [] ?_))))
     obtain ⟨x_10, hx_81, h⟩ := bd h
     refine qv 12 0 [] (fun w hm => idx_run (a := (A_o.map fun b => ⟨b, 0, none⟩)) (len := s0.length) (s := 3) (j := i_4) (by kernel_rfl) (ix_some hx_81).1 (ltn hx_81 hn_69) (spo ho_68 hx_81)) (tD 13 (p_strO 0 0 A_o 61 encGChange xs_3 A_sp i_4 x_8 3 0 [(.int .i16 x_8.fStep), (.int .i8 x_8.fTrack), (.bool x_8.fPut)] (by kernel_rfl) (by kernel_rfl) (by kernel_rfl) (fun e => (ho_68 e).1) encGChange_len hx_81 (by kernel_rfl) (by kernel_rfl) (kD [] ?_)))
     obtain ⟨x_11, hx_82, h⟩ := bd h
     exact qv 14 0 [] (fun w hm => idx_run (a := (A_o.map fun b => ⟨b, 0, none⟩)) (len := s0.length) (s := 3) (j := i_5) (by kernel_rfl) (ix_some hx_82).1 (ltn hx_82 (List.length_set.trans hn_69)) (spo (set_ho ho_68) hx_82)) (tD 15 (p_strO 0 0 A_o 61 encGChange (xs_3.set i_4.toNat x_8) A_sp i_5 x_9 3 0 [(.int .i16 x_9.fStep), (.int .i8 x_9.fTrack), (.bool x_9.fPut)] (by kernel_rfl) (by kernel_rfl) (by kernel_rfl) (fun e => ((set_ho ho_68) e).1) encGChange_len hx_82 (by kernel_rfl) (by kernel_rfl) (kD [] (qz (jx_inn (jx_then (jc_region (qh [0,0,0,0,0,0] (qe (qb (((xs_3.set i_4.toNat x_8).set i_5.toNat x_9), (w64 (i_4 + 1)), (w64 (i_5 - 1))) () h ⟨(List.length_set.trans (List.length_set.trans hn_69)), (set_ho (set_ho ho_68))⟩ [0]))))))))))
   ·refine jc_exit (jx_thenx (jx_leave xs_3 (Option.some.inj h).symm (fun e_83 => ?_)))
    subst e_83
    exact jx_ine (qm xs_3 ⟨hr_70, hn_69, ho_68⟩ [0])
  ·rintro xs_1 ⟨h, hn_43, ho_42⟩
   replace h : slices_Reverse_Change.k_2 xs_1 = some r := h
   rw [slices_Reverse_Change.k_2] at h
   refine jx_fall ?_
   obtain rfl := Option.some.inj h
   exact qr [] (fun w hm => ⟨hn_43, ho_42, rfl, hm.pk [0]⟩)
/-! ### impl.UndoChanges -/
def impl_UndoChanges.k_4 (xs_3 : List GChange) : Option ((List GChange) × Int) := some (xs_3, 0)
def impl_UndoChanges.l_7 (t_1 : (List GChange)) : ((List GChange) × Int) → Option (((List GChange) × Int) ⊕ ((List GChange)))
  | (xs_5, i_6) => (if (decide (i_6 < (t_1.length : Int))) = true then (ix xs_5 i_6).bind fun x_9 => (ix xs_5 i_6).bind fun x_10 => some (.inl ((xs_5.set i_6.toNat (⟨x_10.fStep, x_10.fTrack, (!x_9.fPut)⟩ : GChange)), (w64 (i_6 + 1)))) else some (.inr xs_5))
def impl_UndoChanges (list0 : List GChange) : Option ((List GChange) × Int) := (if (decide ((list0.length : Int) > 2400)) = true then some ([], 3) else (slices_Clone_Change list0).bind fun t_1 => (slices_Reverse_Change t_1).bind fun t_2 => (loop (impl_UndoChanges.l_7 t_1) (t_2, 0)).bind fun t_8 => impl_UndoChanges.k_4 t_8)
theorem impl_UndoChanges.calls (list0 : List GChange) (w : World) (r : (List GChange) × Int) {A_a : Option Addr} {A_an : Nat} (A_c : Nat) (A_h : Rw w A_a 3 encGChange list0) (A_hn : list0.length = A_an) (h : impl_UndoChanges list0 = some r) :
    Calls Tryz.prog 12 #[(.slice A_a A_an A_c)] w fun e w' => ∃ v, e = .returned v ∧ (∃ (o0 : Option Nat) (c0 : Nat) (s0 : List Value) (n0 : Nat), r.1.length = n0 ∧ (o0 ≠ none → n0 ≤ c0 ∧ s0.length = (c0 - n0) * 3) ∧ (o0 = none → r.1 = [] ∧ c0 = 0) ∧ v = .tuple #[.slice (o0.map fun b => ⟨b, 0, none⟩) n0 c0, (.int .i64 r.2)] ∧ Mem w [] [⟨o0, 61, row encGChange r.1 s0⟩] w') := by
  subst A_hn
  rw [impl_UndoChanges] at h
  refine enter (args := [(.slice A_a list0.length A_c)]) Tryz.func12 rfl Tryz.ntmps12 (by kernel_rfl) (L := []) (W := []) (Mem.start w) ?_
  refine jc_seq (jc_region (qh [0,0] (qe (jx_then (jc_seq (jc_seq (jc_region (qh [0,0,0] (qe (jx_then (qi h (fun h => ?_) (fun h => ?_))))))))))))
  ·refine jc_seq (jc_region (qh [0,0] (qe (jx_then (jc_ret (jx_thenr ?_))))))
   obtain rfl := Option.some.inj h
   exact jx_ghost 61 encGChange (qr [] (fun w hm => ⟨none, 0, [], 0, rfl, (fun e => absurd rfl e), (fun _ => ⟨rfl, rfl⟩), rfl, hm.pk [0]⟩))
  ·refine jc_skip (jx_then (jc_seq (jc_region (qh [0] ?_))))
   obtain ⟨t_1, ht_3, h⟩ := bd h
   refine tO (pc 0 (fun w hm => slices_Clone_Change.calls list0 w _ A_c (hm.xr A_h) rfl ht_3) ?_)
   rintro w v w' hm ⟨o_4, cap_5, sp_6, _, rfl, hs_7, ho_8, rfl, hm'⟩
   refine ⟨_, hm.app hm', jkO ?_⟩
   clear hm hm'
   refine qh [0] (qe (jx_then (jc_seq (jc_region (qh [0] ?_)))))
   obtain ⟨t_2, ht_9, h⟩ := bd h
   refine tO (pc 0 (fun w hm => slices_Reverse_Change.calls t_1 w _ o_4 rfl hs_7 ho_8 (hm.pass (N := [⟨o_4, 61, row encGChange t_1 sp_6⟩]) [0] (by kernel_rfl) (by kernel_rfl)) ht_9) ?_)
   rintro w v w' hm ⟨hn_10, ho_11, rfl, hm'⟩
   refine ⟨_, hm.appW (ps := [(0, ⟨o_4, 61, row encGChange t_2 sp_6⟩)]) (N := []) hm' (by kernel_rfl) (by kernel_rfl), jkO ?_⟩
   clear hm hm'
   refine qe (jx_then (jc_seq (jc_seq (jc_region (qh [0,0,0] (qe (jx_then (jc_meet (fun (j : (List GChange)) => match j with | xs_3 => impl_UndoChanges.k_4 xs_3 = some r ∧ (xs_3.length = t_1.length) ∧ ((o_4 = none → xs_3 = [] ∧ cap_5 = 0))) (fun (j : (List GChange)) => match j with | xs_3 => [(2, [], (.slice none 0 0)), (3, [], (.int .i64 0)), (4, [], (.slice (o_4.map fun b => ⟨b, 0, none⟩) t_1.length cap_5))]) (fun (j : (List GChange)) => match j with | xs_3 => [⟨o_4, 61, row encGChange xs_3 sp_6⟩]) ?_ ?_))))))))
   ·refine jc_block ?_
    obtain ⟨t_8, ht_95, hr_88⟩ := bd h
    refine jc_loop (fun (s : (List GChange) × Int) (x : Unit) => match s, x with | ⟨xs_5, i_6⟩, _ => (xs_5.length = t_1.length) ∧ ((o_4 = none → xs_5 = [] ∧ cap_5 = 0))) (fun (s : (List GChange) × Int) (x : Unit) => match s, x with | ⟨xs_5, i_6⟩, _ => [(2, [], (.slice none 0 0)), (3, [], (.int .i64 0)), (4, [], (.slice (o_4.map fun b => ⟨b, 0, none⟩) t_1.length cap_5)), (14, [], (.int .i64 (t_1.length : Int))), (15, [], (.int .i64 i_6))]) (fun (s : (List GChange) × Int) (x : Unit) => match s, x with | ⟨xs_5, i_6⟩, _ => [⟨o_4, 61, row encGChange xs_5 sp_6⟩]) ht_95 () ⟨hn_10, ho_11⟩ (by kernel_rfl) [0] (by kernel_rfl) (by kernel_rfl) ?_
    rintro ⟨xs_5, i_6⟩ _ y_89 ⟨hn_87, ho_86⟩ h
    rw [impl_UndoChanges.l_7] at h
    refine jc_seq (jc_region (qh [0] (qe (jx_then (jc_seq (qi h (fun h => ?_) (fun h => ?_)))))))
    ·refine jc_skip (jx_then (jc_seq (jc_block (jc_seq (jc_region (qh [0,0] (qe (jx_then (jc_region (qh [0,0,0,0] ?_))))))))))
     obtain ⟨x_9, hx_92, h⟩ := bd h
     refine tO (qx 0 (o_4.map fun b => ⟨b, 0, none⟩) 3 hx_92 hn_87 (spo ho_86 hx_92) (jkO (qh [0] (tO (ql 0 false (fun w hm => (((hm.ow 0 o_4 61 xs_5 sp_6 (fun e => (ho_86 e).1) encGChange_len).at hx_92).sub 2 1)) (jkO (qh [0] ?_)))))))
     obtain ⟨x_10, hx_93, h⟩ := bd h
     exact tO (qx 0 (o_4.map fun b => ⟨b, 0, none⟩) 3 hx_93 hn_87 (spo ho_86 hx_93) (jkO (qh [0] (tO (p_strO 0 0 o_4 61 encGChange xs_5 sp_6 i_6 (⟨x_10.fStep, x_10.fTrack, (!x_9.fPut)⟩ : GChange) 3 2 [(.bool (!x_9.fPut))] (by kernel_rfl) (by kernel_rfl) (by kernel_rfl) (fun e => (ho_86 e).1) encGChange_len hx_93 (by kernel_rfl) (by kernel_rfl) (jkO (qe (jx_inn (jx_then (jc_region (qh [0,0] (qe (qb ((xs_5.set i_6.toNat (⟨x_10.fStep, x_10.fTrack, (!x_9.fPut)⟩ : GChange)), (w64 (i_6 + 1))) () h ⟨(List.length_set.trans hn_87), (set_ho ho_86)⟩ [0])))))))))))))
    ·refine jc_exit (jx_thenx (jx_leave xs_5 (Option.some.inj h).symm (fun e_94 => ?_)))
     subst e_94
     exact jx_ine (qm xs_5 ⟨hr_88, hn_87, ho_86⟩ [0])
   ·rintro xs_3 ⟨h, hn_75, ho_74⟩
    replace h : impl_UndoChanges.k_4 xs_3 = some r := h
    rw [impl_UndoChanges.k_4] at h
    refine jx_then (jc_seq (jc_region (qh [0,0,0] (qe (jx_then (jc_ret ?_))))))
    obtain rfl := Option.some.inj h
    exact qr [] (fun w hm => ⟨o_4, cap_5, sp_6, t_1.length, hn_75, hs_7, ho_74, rfl, hm.pk [0]⟩)
/-! ### spec.UndoChanges -/
def spec_UndoChanges.k_2 (xs_1 : List GChange) : Option ((List GChange) × Int) := some (xs_1, 0)
def spec_UndoChanges.l_5 (list0 : List GChange) : ((List GChange) × Int) → Option (((List GChange) × Int) ⊕ ((List GChange)))
  | (xs_3, i_4) => (if (decide (i_4 ≥ 0)) = true then (ix list0 i_4).bind fun x_7 => (ix list0 i_4).bind fun x_8 => (ix list0 i_4).bind fun x_9 => (if xs_3.length + ([(⟨x_7.fStep, x_8.fTrack, (!x_9.fPut)⟩ : GChange)] : List GChange).length ≤ 4294967296 then some (.inl ((xs_3 ++ ([(⟨x_7.fStep, x_8.fTrack, (!x_9.fPut)⟩ : GChange)] : List GChange)), (w64 (i_4 - 1)))) else none) else some (.inr xs_3))
def spec_UndoChanges (list0 : List GChange) : Option ((List GChange) × Int) := (if (decide ((list0.length : Int) > 2400)) = true then some (([] : List GChange), 3) else (loop (spec_UndoChanges.l_5 list0) (([] : List GChange), (w64 ((list0.length : Int) - 1)))).bind fun t_6 => spec_UndoChanges.k_2 t_6)
theorem spec_UndoChanges.calls (list0 : List GChange) (w : World) (r : (List GChange) × Int) {A_a : Option Addr} {A_an : Nat} (A_c : Nat) (A_h : Rw w A_a 3 encGChange list0) (A_hn : list0.length = A_an) (h : spec_UndoChanges list0 = some r) :
    Calls Tryz.prog 13 #[(.slice A_a A_an A_c)] w fun e w' => ∃ v, e = .returned v ∧ (∃ (o0 : Option Nat) (c0 : Nat) (s0 : List Value) (n0 : Nat), r.1.length = n0 ∧ (o0 ≠ none → n0 ≤ c0 ∧ s0.length = (c0 - n0) * 3) ∧ (o0 = none → r.1 = [] ∧ c0 = 0) ∧ v = .tuple #[.slice (o0.map fun b => ⟨b, 0, none⟩) n0 c0, (.int .i64 r.2)] ∧ Mem w [] [⟨o0, 61, row encGChange r.1 s0⟩] w') := by
  subst A_hn
  rw [spec_UndoChanges] at h
  refine enter (args := [(.slice A_a list0.length A_c)]) Tryz.func13 rfl Tryz.ntmps13 (by kernel_rfl) (L := []) (W := []) (Mem.start w) ?_
  refine jc_seq (jc_region (qh [0,0] (qe (jx_then (jc_seq (jc_seq (jc_region (qh [0,0,0] (qe (jx_then (qi h (fun h => ?_) (fun h => ?_))))))))))))
  ·refine jc_seq (jc_region (tO (qa 0 (fun b_4 => jkO (qh [0,0] (qe (jx_then (jc_ret (jx_thenr ?_)))))))))
   obtain rfl := Option.some.inj h
   exact qr [] (fun w hm => ⟨(some b_4), 0, [], 0, rfl, (fun _ => ⟨Nat.le_refl _, by simp⟩), (fun e => nomatch e), rfl, hm.pk [0]⟩)
  ·refine jc_skip (jx_then (jc_seq (jc_region (tO (qa 0 (fun b_5 => jkO (qh [0] (qe (jx_then (jc_seq (jc_seq (jc_region (qh [0,0,0,0] (qe (jx_then (jc_meet (fun (j : (List GChange) × (Option Nat) × Nat × (List Value) × Nat) => match j with | ⟨xs_1, o_204, cap_205, sp_206, n_207⟩ => spec_UndoChanges.k_2 xs_1 = some r ∧ (xs_1.length = n_207) ∧ ((o_204 ≠ none → n_207 ≤ cap_205 ∧ sp_206.length = (cap_205 - n_207) * 3)) ∧ ((o_204 = none → xs_1 = [] ∧ cap_205 = 0))) (fun (j : (List GChange) × (Option Nat) × Nat × (List Value) × Nat) => match j with | ⟨xs_1, o_204, cap_205, sp_206, n_207⟩ => [(2, [], (.slice none 0 0)), (3, [], (.int .i64 0)), (4, [], (.slice (o_204.map fun b => ⟨b, 0, none⟩) n_207 cap_205))]) (fun (j : (List GChange) × (Option Nat) × Nat × (List Value) × Nat) => match j with | ⟨xs_1, o_204, cap_205, sp_206, n_207⟩ => [⟨o_204, 61, row encGChange xs_1 sp_206⟩]) ?_ ?_))))))))))))))))
   ·refine jc_block ?_
    obtain ⟨t_6, ht_273, hr_254⟩ := bd h
    refine jc_loop (fun (s : (List GChange) × Int) (x : (Option Nat) × Nat × (List Value) × Nat) => match s, x with | ⟨xs_3, i_4⟩, ⟨o_248, cap_249, sp_250, n_251⟩ => (xs_3.length = n_251) ∧ ((o_248 ≠ none → n_251 ≤ cap_249 ∧ sp_250.length = (cap_249 - n_251) * 3)) ∧ ((o_248 = none → xs_3 = [] ∧ cap_249 = 0))) (fun (s : (List GChange) × Int) (x : (Option Nat) × Nat × (List Value) × Nat) => match s, x with | ⟨xs_3, i_4⟩, ⟨o_248, cap_249, sp_250, n_251⟩ => [(0, [], (.slice A_a list0.length A_c)), (2, [], (.slice none 0 0)), (3, [], (.int .i64 0)), (4, [], (.slice (o_248.map fun b => ⟨b, 0, none⟩) n_251 cap_249)), (5, [], (.int .i64 i_4))]) (fun (s : (List GChange) × Int) (x : (Option Nat) × Nat × (List Value) × Nat) => match s, x with | ⟨xs_3, i_4⟩, ⟨o_248, cap_249, sp_250, n_251⟩ => [⟨o_248, 61, row encGChange xs_3 sp_250⟩]) ht_273 ⟨(some b_5), 0, [], 0⟩ ⟨rfl, (fun _ => ⟨Nat.le_refl _, by simp⟩), (fun e => nomatch e)⟩ (by kernel_rfl) [0] (by kernel_rfl) (by kernel_rfl) ?_
    rintro ⟨xs_3, i_4⟩ ⟨o_248, cap_249, sp_250, n_251⟩ y_255 ⟨rfl, hs_252, ho_253⟩ h
    rw [spec_UndoChanges.l_5] at h
    refine jc_seq (jc_seq (jc_region (qh [0,0] (qe (jx_then (qi h (fun h => ?_) (fun h => ?_)))))))
    ·refine jc_skip (jx_then (jc_seq (jc_block (qg [] 21 (qd [⟨0, 0, 0⟩,⟨1, 0, 0⟩,⟨2, 0, 0⟩,⟨6, 0, 0⟩,⟨7, 0, 0⟩,⟨11, 0, 0⟩,⟨12, 0, 0⟩] 14 [] ?_)))))
     obtain ⟨x_7, hx_262, h⟩ := bd h
     refine qv 3 0 [] (fun w hm => idx_run (a := A_a) (len := list0.length) (s := 3) (j := i_4) (by kernel_rfl) (ix_some hx_262).1 (ltn hx_262 rfl) (A_h.sp hx_262)) (qd [⟨4, 0, 0⟩] 12 [] (qv 5 0 [] (fun w hm => ld_run (b := aB A_a) (off := (aO A_a + i_4.toNat * 3)) (s := 1) (agg := false) (vs := (((encGChange x_7).drop 0).take 1)) (by kernel_rfl) (by kernel_rfl) (.inr rfl) (((hm.xr A_h).at hx_262).sub 0 1)) ?_))
     obtain ⟨x_8, hx_263, h⟩ := bd h
     refine qv 8 0 [] (fun w hm => idx_run (a := A_a) (len := list0.length) (s := 3) (j := i_4) (by kernel_rfl) (ix_some hx_263).1 (ltn hx_263 rfl) (A_h.sp hx_263)) (qd [⟨9, 0, 0⟩] 9 [] (qv 10 0 [] (fun w hm => ld_run (b := aB A_a) (off := (aO A_a + i_4.toNat * 3 + 1)) (s := 1) (agg := false) (vs := (((encGChange x_8).drop 1).take 1)) (by kernel_rfl) (by kernel_rfl) (.inr rfl) (((hm.xr A_h).at hx_263).sub 1 1)) ?_))
     obtain ⟨x_9, hx_264, h⟩ := bd h
     refine qv 13 0 [] (fun w hm => idx_run (a := A_a) (len := list0.length) (s := 3) (j := i_4) (by kernel_rfl) (ix_some hx_264).1 (ltn hx_264 rfl) (A_h.sp hx_264)) (qd [⟨14, 0, 0⟩] 6 [] (qv 15 0 [] (fun w hm => ld_run (b := aB A_a) (off := (aO A_a + i_4.toNat * 3 + 2)) (s := 1) (agg := false) (vs := (((encGChange x_9).drop 2).take 1)) (by kernel_rfl) (by kernel_rfl) (.inr rfl) (((hm.xr A_h).at hx_264).sub 2 1)) (qd [⟨16, 0, 0⟩,⟨17, 0, 0⟩] 3 [] (tD 18 (qa 0 (fun b_265 => kD [] ?_))))))
     obtain ⟨hg_266, h⟩ := gd h
     exact tD 19 (p_apn 0 0 o_248 61 xs_3.length 1 cap_249 3 4 (some ⟨b_265, 0, none⟩) encGChange xs_3 ([(⟨x_7.fStep, x_8.fTrack, (!x_9.fPut)⟩ : GChange)] : List GChange) sp_250 (.agg #[(.int .i16 0), (.int .i8 0), (.bool false)]) rfl rfl (by kernel_rfl) (by kernel_rfl) (by kernel_rfl) encGChange_len encGChange_cell hs_252 ho_253 (fun w hm => (hm.ow 1 (some b_265) 61 ([(⟨x_7.fStep, x_8.fTrack, (!x_9.fPut)⟩ : GChange)] : List GChange) [] (fun e => nomatch e) encGChange_len)) hg_266 (by kernel_rfl) (by kernel_rfl) (fun o_267 cap_268 sp_269 hs_270 ho_271 => kD [] (qd [⟨20, 0, 0⟩] 0 [] (qz (jx_inn (jx_then (jc_region (qh [0,0,0] (qe (qb ((xs_3 ++ ([(⟨x_7.fStep, x_8.fTrack, (!x_9.fPut)⟩ : GChange)] : List GChange)), (w64 (i_4 - 1))) ⟨o_267, cap_268, sp_269, (xs_3 ++ ([(⟨x_7.fStep, x_8.fTrack, (!x_9.fPut)⟩ : GChange)] : List GChange)).length⟩ h ⟨rfl, hs_270, ho_271⟩ [0]))))))))))
    ·refine jc_exit (jx_thenx (jx_leave xs_3 (Option.some.inj h).symm (fun e_272 => ?_)))
     subst e_272
     exact jx_ine (qm ⟨xs_3, o_248, cap_249, sp_250, xs_3.length⟩ ⟨hr_254, rfl, hs_252, ho_253⟩ [0])
   ·rintro ⟨xs_1, o_204, cap_205, sp_206, n_207⟩ ⟨h, rfl, hs_208, ho_209⟩
    replace h : spec_UndoChanges.k_2 xs_1 = some r := h
    rw [spec_UndoChanges.k_2] at h
    refine jx_then (jc_seq (jc_region (qh [0,0,0] (qe (jx_then (jc_ret ?_))))))
    obtain rfl := Option.some.inj h
    exact qr [] (fun w hm => ⟨o_204, cap_205, sp_206, xs_1.length, rfl, hs_208, ho_209, rfl, hm.pk [0]⟩)
/-! ### math/bits.OnesCount32 -/
def math_bits_OnesCount32 (x0 : Int) : Option (Int) := (sIx (ByteArray.mk #[0, 1, 1, 2, 1, 2, 2, 3, 1, 2, 2, 3, 2, 3, 3, 4, 1, 2, 2, 3, 2, 3, 3, 4, 2, 3, 3, 4, 3, 4, 4, 5, 1, 2, 2, 3, 2, 3, 3, 4, 2, 3, 3, 4, 3, 4, 4, 5, 2, 3, 3, 4, 3, 4, 4, 5, 3, 4, 4, 5, 4, 5, 5, 6, 1, 2, 2, 3, 2, 3, 3, 4, 2, 3, 3, 4, 3, 4, 4, 5, 2, 3, 3, 4, 3, 4, 4, 5, 3, 4, 4, 5, 4, 5, 5, 6, 2, 3, 3, 4, 3, 4, 4, 5, 3, 4, 4, 5, 4, 5, 5, 6, 3, 4, 4, 5, 4, 5, 5, 6, 4, 5, 5, 6, 5, 6, 6, 7, 1, 2, 2, 3, 2, 3, 3, 4, 2, 3, 3, 4, 3, 4, 4, 5, 2, 3, 3, 4, 3, 4, 4, 5, 3, 4, 4, 5, 4, 5, 5, 6, 2, 3, 3, 4, 3, 4, 4, 5, 3, 4, 4, 5, 4, 5, 5, 6, 3, 4, 4, 5, 4, 5, 5, 6, 4, 5, 5, 6, 5, 6, 6, 7, 2, 3, 3, 4, 3, 4, 4, 5, 3, 4, 4, 5, 4, 5, 5, 6, 3, 4, 4, 5, 4, 5, 5, 6, 4, 5, 5, 6, 5, 6, 6, 7, 3, 4, 4, 5, 4, 5, 5, 6, 4, 5, 5, 6, 5, 6, 6, 7, 4, 5, 5, 6, 5, 6, 6, 7, 5, 6, 6, 7, 6, 7, 7, 8]) (bShr .u32 x0 24)).bind fun x_1 => (sIx (ByteArray.mk #[0, 1, 1, 2, 1, 2, 2, 3, 1, 2, 2, 3, 2, 3, 3, 4, 1, 2, 2, 3, 2, 3, 3, 4, 2, 3, 3, 4, 3, 4, 4, 5, 1, 2, 2, 3, 2, 3, 3, 4, 2, 3, 3, 4, 3, 4, 4, 5, 2, 3, 3, 4, 3, 4, 4, 5, 3, 4, 4, 5, 4, 5, 5, 6, 1, 2, 2, 3, 2, 3, 3, 4, 2, 3, 3, 4, 3, 4, 4, 5, 2, 3, 3, 4, 3, 4, 4, 5, 3, 4, 4, 5, 4, 5, 5, 6, 2, 3, 3, 4, 3, 4, 4, 5, 3, 4, 4, 5, 4, 5, 5, 6, 3, 4, 4, 5, 4, 5, 5, 6, 4, 5, 5, 6, 5, 6, 6, 7, 1, 2, 2, 3, 2, 3, 3, 4, 2, 3, 3, 4, 3, 4, 4, 5, 2, 3, 3, 4, 3, 4, 4, 5, 3, 4, 4, 5, 4, 5, 5, 6, 2, 3, 3, 4, 3, 4, 4, 5, 3, 4, 4, 5, 4, 5, 5, 6, 3, 4, 4, 5, 4, 5, 5, 6, 4, 5, 5, 6, 5, 6, 6, 7, 2, 3, 3, 4, 3, 4, 4, 5, 3, 4, 4, 5, 4, 5, 5, 6, 3, 4, 4, 5, 4, 5, 5, 6, 4, 5, 5, 6, 5, 6, 6, 7, 3, 4, 4, 5, 4, 5, 5, 6, 4, 5, 5, 6, 5, 6, 6, 7, 4, 5, 5, 6, 5, 6, 6, 7, 5, 6, 6, 7, 6, 7, 7, 8]) (bAnd .u32 (bShr .u32 x0 16) 255)).bind fun x_2 => (sIx (ByteArray.mk #[0, 1, 1, 2, 1, 2, 2, 3, 1, 2, 2, 3, 2, 3, 3, 4, 1, 2, 2, 3, 2, 3, 3, 4, 2, 3, 3, 4, 3, 4, 4, 5, 1, 2, 2, 3, 2, 3, 3, 4, 2, 3, 3, 4, 3, 4, 4, 5, 2, 3, 3, 4, 3, 4, 4, 5, 3, 4, 4, 5, 4, 5, 5, 6, 1, 2, 2, 3, 2, 3, 3, 4, 2, 3, 3, 4, 3, 4, 4, 5, 2, 3, 3, 4, 3, 4, 4, 5, 3, 4, 4, 5, 4, 5, 5, 6, 2, 3, 3, 4, 3, 4, 4, 5, 3, 4, 4, 5, 4, 5, 5, 6, 3, 4, 4, 5, 4, 5, 5, 6, 4, 5, 5, 6, 5, 6, 6, 7, 1, 2, 2, 3, 2, 3, 3, 4, 2, 3, 3, 4, 3, 4, 4, 5, 2, 3, 3, 4, 3, 4, 4, 5, 3, 4, 4, 5, 4, 5, 5, 6, 2, 3, 3, 4, 3, 4, 4, 5, 3, 4, 4, 5, 4, 5, 5, 6, 3, 4, 4, 5, 4, 5, 5, 6, 4, 5, 5, 6, 5, 6, 6, 7, 2, 3, 3, 4, 3, 4, 4, 5, 3, 4, 4, 5, 4, 5, 5, 6, 3, 4, 4, 5, 4, 5, 5, 6, 4, 5, 5, 6, 5, 6, 6, 7, 3, 4, 4, 5, 4, 5, 5, 6, 4, 5, 5, 6, 5, 6, 6, 7, 4, 5, 5, 6, 5, 6, 6, 7, 5, 6, 6, 7, 6, 7, 7, 8]) (bAnd .u32 (bShr .u32 x0 8) 255)).bind fun x_3 => (sIx (ByteArray.mk #[0, 1, 1, 2, 1, 2, 2, 3, 1, 2, 2, 3, 2, 3, 3, 4, 1, 2, 2, 3, 2, 3, 3, 4, 2, 3, 3, 4, 3, 4, 4, 5, 1, 2, 2, 3, 2, 3, 3, 4, 2, 3, 3, 4, 3, 4, 4, 5, 2, 3, 3, 4, 3, 4, 4, 5, 3, 4, 4, 5, 4, 5, 5, 6, 1, 2, 2, 3, 2, 3, 3, 4, 2, 3, 3, 4, 3, 4, 4, 5, 2, 3, 3, 4, 3, 4, 4, 5, 3, 4, 4, 5, 4, 5, 5, 6, 2, 3, 3, 4, 3, 4, 4, 5, 3, 4, 4, 5, 4, 5, 5, 6, 3, 4, 4, 5, 4, 5, 5, 6, 4, 5, 5, 6, 5, 6, 6, 7, 1, 2, 2, 3, 2, 3, 3, 4, 2, 3, 3, 4, 3, 4, 4, 5, 2, 3, 3, 4, 3, 4, 4, 5, 3, 4, 4, 5, 4, 5, 5, 6, 2, 3, 3, 4, 3, 4, 4, 5, 3, 4, 4, 5, 4, 5, 5, 6, 3, 4, 4, 5, 4, 5, 5, 6, 4, 5, 5, 6, 5, 6, 6, 7, 2, 3, 3, 4, 3, 4, 4, 5, 3, 4, 4, 5, 4, 5, 5, 6, 3, 4, 4, 5, 4, 5, 5, 6, 4, 5, 5, 6, 5, 6, 6, 7, 3, 4, 4, 5, 4, 5, 5, 6, 4, 5, 5, 6, 5, 6, 6, 7, 4, 5, 5, 6, 5, 6, 6, 7, 5, 6, 6, 7, 6, 7, 7, 8]) (bAnd .u32 x0 255)).bind fun x_4 => some (w64 (u8 ((u8 ((u8 (x_1 + x_2)) + x_3)) + x_4)))
theorem math_bits_OnesCount32.calls (x0 : Int) (w : World) (r : Int) (h : math_bits_OnesCount32 x0 = some r) :
    Calls Tryz.prog 98 #[(.int .u32 x0)] w fun e w' => ∃ v, e = .returned v ∧ (v = (.int .i64 r) ∧ Mem w [] [] w') := by
  rw [math_bits_OnesCount32] at h
  refine enter (args := [(.int .u32 x0)]) Tryz.func98 rfl Tryz.ntmps98 (by kernel_rfl) (L := []) (W := []) (Mem.start w) ?_
  refine jc_seq (jc_region (qh [0] (qe (jx_then (jc_seq (qg [] 19 (qd [⟨0, 0, 0⟩,⟨1, 0, 0⟩,⟨3, 0, 0⟩,⟨4, 0, 0⟩,⟨5, 0, 0⟩,⟨8, 0, 0⟩,⟨9, 0, 0⟩,⟨10, 0, 0⟩,⟨13, 0, 0⟩,⟨14, 0, 0⟩] 9 [] ?_)))))))
  obtain ⟨x_1, hx_1, h⟩ := bd h
  refine qv 2 0 [] (fun w hm => six_run (s := (ByteArray.mk #[0, 1, 1, 2, 1, 2, 2, 3, 1, 2, 2, 3, 2, 3, 3, 4, 1, 2, 2, 3, 2, 3, 3, 4, 2, 3, 3, 4, 3, 4, 4, 5, 1, 2, 2, 3, 2, 3, 3, 4, 2, 3, 3, 4, 3, 4, 4, 5, 2, 3, 3, 4, 3, 4, 4, 5, 3, 4, 4, 5, 4, 5, 5, 6, 1, 2, 2, 3, 2, 3, 3, 4, 2, 3, 3, 4, 3, 4, 4, 5, 2, 3, 3, 4, 3, 4, 4, 5, 3, 4, 4, 5, 4, 5, 5, 6, 2, 3, 3, 4, 3, 4, 4, 5, 3, 4, 4, 5, 4, 5, 5, 6, 3, 4, 4, 5, 4, 5, 5, 6, 4, 5, 5, 6, 5, 6, 6, 7, 1, 2, 2, 3, 2, 3, 3, 4, 2, 3, 3, 4, 3, 4, 4, 5, 2, 3, 3, 4, 3, 4, 4, 5, 3, 4, 4, 5, 4, 5, 5, 6, 2, 3, 3, 4, 3, 4, 4, 5, 3, 4, 4, 5, 4, 5, 5, 6, 3, 4, 4, 5, 4, 5, 5, 6, 4, 5, 5, 6, 5, 6, 6, 7, 2, 3, 3, 4, 3, 4, 4, 5, 3, 4, 4, 5, 4, 5, 5, 6, 3, 4, 4, 5, 4, 5, 5, 6, 4, 5, 5, 6, 5, 6, 6, 7, 3, 4, 4, 5, 4, 5, 5, 6, 4, 5, 5, 6, 5, 6, 6, 7, 4, 5, 5, 6, 5, 6, 6, 7, 5, 6, 6, 7, 6, 7, 7, 8])) (j := (bShr .u32 x0 24)) (by kernel_rfl) hx_1) ?_
  obtain ⟨x_2, hx_2, h⟩ := bd h
  refine qv 6 0 [] (fun w hm => six_run (s := (ByteArray.mk #[0, 1, 1, 2, 1, 2, 2, 3, 1, 2, 2, 3, 2, 3, 3, 4, 1, 2, 2, 3, 2, 3, 3, 4, 2, 3, 3, 4, 3, 4, 4, 5, 1, 2, 2, 3, 2, 3, 3, 4, 2, 3, 3, 4, 3, 4, 4, 5, 2, 3, 3, 4, 3, 4, 4, 5, 3, 4, 4, 5, 4, 5, 5, 6, 1, 2, 2, 3, 2, 3, 3, 4, 2, 3, 3, 4, 3, 4, 4, 5, 2, 3, 3, 4, 3, 4, 4, 5, 3, 4, 4, 5, 4, 5, 5, 6, 2, 3, 3, 4, 3, 4, 4, 5, 3, 4, 4, 5, 4, 5, 5, 6, 3, 4, 4, 5, 4, 5, 5, 6, 4, 5, 5, 6, 5, 6, 6, 7, 1, 2, 2, 3, 2, 3, 3, 4, 2, 3, 3, 4, 3, 4, 4, 5, 2, 3, 3, 4, 3, 4, 4, 5, 3, 4, 4, 5, 4, 5, 5, 6, 2, 3, 3, 4, 3, 4, 4, 5, 3, 4, 4, 5, 4, 5, 5, 6, 3, 4, 4, 5, 4, 5, 5, 6, 4, 5, 5, 6, 5, 6, 6, 7, 2, 3, 3, 4, 3, 4, 4, 5, 3, 4, 4, 5, 4, 5, 5, 6, 3, 4, 4, 5, 4, 5, 5, 6, 4, 5, 5, 6, 5, 6, 6, 7, 3, 4, 4, 5, 4, 5, 5, 6, 4, 5, 5, 6, 5, 6, 6, 7, 4, 5, 5, 6, 5, 6, 6, 7, 5, 6, 6, 7, 6, 7, 7, 8])) (j := (bAnd .u32 (bShr .u32 x0 16) 255)) (by kernel_rfl) hx_2) (qd [⟨7, 0, 0⟩] 6 [] ?_)
  obtain ⟨x_3, hx_3, h⟩ := bd h
  refine qv 11 0 [] (fun w hm => six_run (s := (ByteArray.mk #[0, 1, 1, 2, 1, 2, 2, 3, 1, 2, 2, 3, 2, 3, 3, 4, 1, 2, 2, 3, 2, 3, 3, 4, 2, 3, 3, 4, 3, 4, 4, 5, 1, 2, 2, 3, 2, 3, 3, 4, 2, 3, 3, 4, 3, 4, 4, 5, 2, 3, 3, 4, 3, 4, 4, 5, 3, 4, 4, 5, 4, 5, 5, 6, 1, 2, 2, 3, 2, 3, 3, 4, 2, 3, 3, 4, 3, 4, 4, 5, 2, 3, 3, 4, 3, 4, 4, 5, 3, 4, 4, 5, 4, 5, 5, 6, 2, 3, 3, 4, 3, 4, 4, 5, 3, 4, 4, 5, 4, 5, 5, 6, 3, 4, 4, 5, 4, 5, 5, 6, 4, 5, 5, 6, 5, 6, 6, 7, 1, 2, 2, 3, 2, 3, 3, 4, 2, 3, 3, 4, 3, 4, 4, 5, 2, 3, 3, 4, 3, 4, 4, 5, 3, 4, 4, 5, 4, 5, 5, 6, 2, 3, 3, 4, 3, 4, 4, 5, 3, 4, 4, 5, 4, 5, 5, 6, 3, 4, 4, 5, 4, 5, 5, 6, 4, 5, 5, 6, 5, 6, 6, 7, 2, 3, 3, 4, 3, 4, 4, 5, 3, 4, 4, 5, 4, 5, 5, 6, 3, 4, 4, 5, 4, 5, 5, 6, 4, 5, 5, 6, 5, 6, 6, 7, 3, 4, 4, 5, 4, 5, 5, 6, 4, 5, 5, 6, 5, 6, 6, 7, 4, 5, 5, 6, 5, 6, 6, 7, 5, 6, 6, 7, 6, 7, 7, 8])) (j := (bAnd .u32 (bShr .u32 x0 8) 255)) (by kernel_rfl) hx_3) (qd [⟨12, 0, 0⟩] 4 [] ?_)
  obtain ⟨x_4, hx_4, h⟩ := bd h
  refine qv 15 0 [] (fun w hm => six_run (s := (ByteArray.mk #[0, 1, 1, 2, 1, 2, 2, 3, 1, 2, 2, 3, 2, 3, 3, 4, 1, 2, 2, 3, 2, 3, 3, 4, 2, 3, 3, 4, 3, 4, 4, 5, 1, 2, 2, 3, 2, 3, 3, 4, 2, 3, 3, 4, 3, 4, 4, 5, 2, 3, 3, 4, 3, 4, 4, 5, 3, 4, 4, 5, 4, 5, 5, 6, 1, 2, 2, 3, 2, 3, 3, 4, 2, 3, 3, 4, 3, 4, 4, 5, 2, 3, 3, 4, 3, 4, 4, 5, 3, 4, 4, 5, 4, 5, 5, 6, 2, 3, 3, 4, 3, 4, 4, 5, 3, 4, 4, 5, 4, 5, 5, 6, 3, 4, 4, 5, 4, 5, 5, 6, 4, 5, 5, 6, 5, 6, 6, 7, 1, 2, 2, 3, 2, 3, 3, 4, 2, 3, 3, 4, 3, 4, 4, 5, 2, 3, 3, 4, 3, 4, 4, 5, 3, 4, 4, 5, 4, 5, 5, 6, 2, 3, 3, 4, 3, 4, 4, 5, 3, 4, 4, 5, 4, 5, 5, 6, 3, 4, 4, 5, 4, 5, 5, 6, 4, 5, 5, 6, 5, 6, 6, 7, 2, 3, 3, 4, 3, 4, 4, 5, 3, 4, 4, 5, 4, 5, 5, 6, 3, 4, 4, 5, 4, 5, 5, 6, 4, 5, 5, 6, 5, 6, 6, 7, 3, 4, 4, 5, 4, 5, 5, 6, 4, 5, 5, 6, 5, 6, 6, 7, 4, 5, 5, 6, 5, 6, 6, 7, 5, 6, 6, 7, 6, 7, 7, 8])) (j := (bAnd .u32 x0 255)) (by kernel_rfl) hx_4) (qd [⟨16, 0, 0⟩,⟨17, 0, 0⟩,⟨18, 0, 0⟩] 0 [] (qz (jx_then (jc_ret ?_))))
  obtain rfl := Option.some.inj h
  exact qr [] (fun w hm => ⟨rfl, hm.pk []⟩)
/-! ### impl.countBits -/
def impl_countBits (n0 : Int) : Option (Int) := (math_bits_OnesCount32 n0).bind fun t_1 => some t_1
theorem impl_countBits.calls (n0 : Int) (w : World) (r : Int) (h : impl_countBits n0 = some r) :
    Calls Tryz.prog 72 #[(.int .u32 n0)] w fun e w' => ∃ v, e = .returned v ∧ (v = (.int .i64 r) ∧ Mem w [] [] w') := by
  rw [impl_countBits] at h
  refine enter (args := [(.int .u32 n0)]) Tryz.func72 rfl Tryz.ntmps72 (by kernel_rfl) (L := []) (W := []) (Mem.start w) ?_
  refine jc_seq (jc_region (qh [0] (qe (jx_then (jc_seq (jc_region (qh [0] ?_)))))))
  obtain ⟨t_1, ht_1, h⟩ := bd h
  refine tO (pc 0 (fun w hm => math_bits_OnesCount32.calls n0 w _ ht_1) ?_)
  rintro w v w' hm ⟨rfl, hm'⟩
  refine ⟨_, hm.app hm', jkO ?_⟩
  clear hm hm'
  refine qh [0] (qe (jx_then (jc_ret ?_)))
  obtain rfl := Option.some.inj h
  exact qr [] (fun w hm => ⟨rfl, hm.pk []⟩)
/-! ### (impl.Drum).count -/
def impl_Drum_count.k_2 (i_1 : Int) : Option (Int) := some i_1
def impl_Drum_count.l_5 (d0 : Arr 96 Int) : (Int × Int) → Option ((Int × Int) ⊕ (Int))
  | (i_3, i_4) => (if (decide (i_4 < 96)) = true then (ix d0.1 i_4).bind fun x_7 => (impl_countBits x_7).bind fun t_8 => some (.inl ((w64 (i_3 + t_8)), (w64 (i_4 + 1)))) else some (.inr i_3))
def impl_Drum_count (d0 : Arr 96 Int) : Option (Int) := (loop (impl_Drum_count.l_5 d0) (0, 0)).bind fun t_6 => impl_Drum_count.k_2 t_6
theorem impl_Drum_count.calls (d0 : Arr 96 Int) (w : World) (r : Int) (h : impl_Drum_count d0 = some r) :
    Calls Tryz.prog 45 #[(.agg (row encU32 d0.1 []).toArray)] w fun e w' => ∃ v, e = .returned v ∧ (v = (.int .i64 r) ∧ Mem w [] [] w') := by
  rw [impl_Drum_count] at h
  refine enter (args := [(.agg (row encU32 d0.1 []).toArray)]) Tryz.func45 rfl Tryz.ntmps45 (by kernel_rfl) (L := []) (W := []) (Mem.start w) ?_
  refine jc_seq (jc_region (tO (qa 0 (fun b_1 => jkO (qh [0] (qe (jx_then (jc_seq (jc_region (qh [0] (qe (jx_then (jc_seq (jc_seq (jc_region (tO (p_ldA 0 0 b_1 96 1 31 encU32 d0 (by kernel_rfl) (by kernel_rfl) (by kernel_rfl) encU32_len (by kernel_rfl) (jkO (qh [0] (qe (jx_then (jc_meet (fun (j : Int) => match j with | i_1 => impl_Drum_count.k_2 i_1 = some r) (fun (j : Int) => match j with | i_1 => [(2, [], (.int .i64 0)), (3, [], (.int .i64 i_1))]) (fun (j : Int) => match j with | i_1 => [⟨(some b_1), 31, row encU32 d0.1 []⟩]) ?_ ?_))))))))))))))))))))))
  ·refine jc_block ?_
   obtain ⟨t_6, ht_65, hr_58⟩ := bd h
   refine jc_loop (fun (s : Int × Int) (x : Unit) => match s, x with | ⟨i_3, i_4⟩, _ => True) (fun (s : Int × Int) (x : Unit) => match s, x with | ⟨i_3, i_4⟩, _ => [(2, [], (.int .i64 0)), (3, [], (.int .i64 i_3)), (6, [], (.agg (row encU32 d0.1 []).toArray)), (7, [], (.int .i64 i_4))]) (fun (s : Int × Int) (x : Unit) => match s, x with | ⟨i_3, i_4⟩, _ => [⟨(some b_1), 31, row encU32 d0.1 []⟩]) ht_65 () trivial (by kernel_rfl) [0] (by kernel_rfl) (by kernel_rfl) ?_
   rintro ⟨i_3, i_4⟩ _ y_59 _ h
   rw [impl_Drum_count.l_5] at h
   refine jc_seq (jc_region (qh [0] (qe (jx_then (jc_seq (qi h (fun h => ?_) (fun h => ?_)))))))
   ·refine jc_skip (jx_then (jc_seq (jc_block (jc_seq (jc_region ?_)))))
    obtain ⟨x_7, hx_62, h⟩ := bd h
    refine tO (p_ixA 0 encU32 (fun x => (.int .u32 x)) d0 i_4 (by kernel_rfl) (by kernel_rfl) (fun _ => rfl) hx_62 (jkO (qh [0] (qe (jx_then (jc_region (qh [0,0] ?_)))))))
    obtain ⟨t_8, ht_63, h⟩ := bd h
    refine tO (pc 0 (fun w hm => impl_countBits.calls x_7 w _ ht_63) ?_)
    rintro w v w' hm ⟨rfl, hm'⟩
    refine ⟨_, hm.app hm', jkO ?_⟩
    clear hm hm'
    exact qh [0,0] (qe (jx_inn (jx_then (jc_region (qh [0,0] (qe (qb ((w64 (i_3 + t_8)), (w64 (i_4 + 1))) () h trivial [0])))))))
   ·refine jc_exit (jx_thenx (jx_leave i_3 (Option.some.inj h).symm (fun e_64 => ?_)))
    subst e_64
    exact jx_ine (qm i_3 hr_58 [0])
  ·rintro i_1 h
   replace h : impl_Drum_count.k_2 i_1 = some r := h
   rw [impl_Drum_count.k_2] at h
   refine jx_then (jc_seq (jc_region (qh [0,0] (qe (jx_then (jc_ret ?_))))))
   obtain rfl := Option.some.inj h
   exact qr [] (fun w hm => ⟨rfl, hm.pk []⟩)
/-! ### impl.cost -/
def impl_cost (a0 : Arr 96 Int) (b1 : Arr 96 Int) : Option (Int) := (impl_Drum_less a0 b1).bind fun t_1 => (impl_Drum_count t_1).bind fun t_2 => (impl_Drum_less b1 a0).bind fun t_3 => (impl_Drum_count t_3).bind fun t_4 => some (w64 (t_2 + t_4))
theorem impl_cost.calls (a0 : Arr 96 Int) (b1 : Arr 96 Int) (w : World) (r : Int) (h : impl_cost a0 b1 = some r) :
    Calls Tryz.prog 43 #[(.agg (row encU32 a0.1 []).toArray), (.agg (row encU32 b1.1 []).toArray)] w fun e w' => ∃ v, e = .returned v ∧ (v = (.int .i64 r) ∧ Mem w [] [] w') := by
  rw [impl_cost] at h
  refine enter (args := [(.agg (row encU32 a0.1 []).toArray), (.agg (row encU32 b1.1 []).toArray)]) Tryz.func43 rfl Tryz.ntmps43 (by kernel_rfl) (L := []) (W := []) (Mem.start w) ?_
  refine jc_seq (jc_region (tO (qa 0 (fun b_1 => jkO (tO (qa 0 (fun b_2 => jkO (qh [0] (qe (jx_then (jc_seq (qg [⟨(some b_1), 31, row encU32 a0.1 []⟩, ⟨(some b_2), 31, row encU32 b1.1 []⟩] 10 (qv 0 0 [0, 1] (fun w hm => ld_run (b := b_1) (off := 0) (s := 96) (agg := true) (vs := row encU32 a0.1 []) (by kernel_rfl) ((row_len encU32_len a0).trans rfl) (.inl rfl) (hm.all (hh := 0) (T := 31) (by kernel_rfl))) (qv 1 0 [0, 1] (fun w hm => ld_run (b := b_2) (off := 0) (s := 96) (agg := true) (vs := row encU32 b1.1 []) (by kernel_rfl) ((row_len encU32_len b1).trans rfl) (.inl rfl) (hm.all (hh := 1) (T := 31) (by kernel_rfl))) (qv 4 0 [0, 1] (fun w hm => ld_run (b := b_2) (off := 0) (s := 96) (agg := true) (vs := row encU32 b1.1 []) (by kernel_rfl) ((row_len encU32_len b1).trans rfl) (.inl rfl) (hm.all (hh := 1) (T := 31) (by kernel_rfl))) (qv 5 0 [0, 1] (fun w hm => ld_run (b := b_1) (off := 0) (s := 96) (agg := true) (vs := row encU32 a0.1 []) (by kernel_rfl) ((row_len encU32_len a0).trans rfl) (.inl rfl) (hm.all (hh := 0) (T := 31) (by kernel_rfl))) ?_))))))))))))))))
  obtain ⟨t_1, ht_3, h⟩ := bd h
  refine tD 2 (pc 0 (fun w hm => impl_Drum_less.calls a0 b1 w _ ht_3) ?_)
  rintro w v w' hm ⟨rfl, hm'⟩
  refine ⟨_, hm.app hm', kD [0, 1] ?_⟩
  clear hm hm'
  obtain ⟨t_2, ht_4, h⟩ := bd h
  refine tD 3 (pc 0 (fun w hm => impl_Drum_count.calls t_1 w _ ht_4) ?_)
  rintro w v w' hm ⟨rfl, hm'⟩
  refine ⟨_, hm.app hm', kD [0, 1] ?_⟩
  clear hm hm'
  obtain ⟨t_3, ht_5, h⟩ := bd h
  refine tD 6 (pc 0 (fun w hm => impl_Drum_less.calls b1 a0 w _ ht_5) ?_)
  rintro w v w' hm ⟨rfl, hm'⟩
  refine ⟨_, hm.app hm', kD [0, 1] ?_⟩
  clear hm hm'
  obtain ⟨t_4, ht_6, h⟩ := bd h
  refine tD 7 (pc 0 (fun w hm => impl_Drum_count.calls t_3 w _ ht_6) ?_)
  rintro w v w' hm ⟨rfl, hm'⟩
  refine ⟨_, hm.app hm', kD [0, 1] ?_⟩
  clear hm hm'
  refine qd [⟨8, 0, 0⟩,⟨9, 0, 0⟩] 0 [0, 1] (qz (jx_then (jc_ret ?_)))
  obtain rfl := Option.some.inj h
  exact qr [] (fun w hm => ⟨rfl, hm.pk []⟩)
/-! ### impl.ChangeCost -/
def impl_ChangeCost (f0 : GFrame) (a1 : Arr 96 Int) (b2 : Arr 96 Int) : Option (Int × Int) := (impl_drumCode f0 ([a1, b2] : List (Arr 96 Int))).bind fun t_1 => (if (t_1 != 0) = true then some (0, t_1) else (impl_cost a1 b2).bind fun t_2 => some (t_2, 0))
theorem impl_ChangeCost.calls (f0 : GFrame) (a1 : Arr 96 Int) (b2 : Arr 96 Int) (w : World) (r : Int × Int) {C_a : Option Addr} {C_an : Nat} (C_c : Nat) (C_h : Rw w C_a 2 encGHammer f0.fHammers) (C_hn : f0.fHammers.length = C_an) (h : impl_ChangeCost f0 a1 b2 = some r) :
    Calls Tryz.prog 14 #[(.agg #[(.int .i16 f0.fSteps), (.slice C_a C_an C_c)]), (.agg (row encU32 a1.1 []).toArray), (.agg (row encU32 b2.1 []).toArray)] w fun e w' => ∃ v, e = .returned v ∧ (v = .tuple #[(.int .i64 r.1), (.int .i64 r.2)] ∧ Mem w [] [] w') := by
  subst C_hn
  rw [impl_ChangeCost] at h
  refine enter (args := [(.agg #[(.int .i16 f0.fSteps), (.slice C_a f0.fHammers.length C_c)]), (.agg (row encU32 a1.1 []).toArray), (.agg (row encU32 b2.1 []).toArray)]) Tryz.func14 rfl Tryz.ntmps14 (by kernel_rfl) (L := []) (W := []) (Mem.start w) ?_
  refine jc_seq (jc_region (tO (qa 0 (fun b_1 => jkO (tO (qa 0 (fun b_2 => jkO (tO (qa 0 (fun b_3 => jkO (qh [0,0] (qe (jx_then (jc_seq (jc_seq (jc_region (qh [0] (tO (p_ldA 0 1 b_2 96 1 31 encU32 a1 (by kernel_rfl) (by kernel_rfl) (by kernel_rfl) encU32_len (by kernel_rfl) (jkO (tO (p_ldA 0 2 b_3 96 1 31 encU32 b2 (by kernel_rfl) (by kernel_rfl) (by kernel_rfl) encU32_len (by kernel_rfl) (jkO (tO (p_bs 0 31 96 2 encA96U32 [(.agg (row encU32 a1.1 []).toArray), (.agg (row encU32 b2.1 []).toArray)] [a1, b2] (by kernel_rfl) (by kernel_rfl) rfl (by kernel_rfl) (by kernel_rfl) encA96U32_len (fun b_7 => jkO ?_))))))))))))))))))))))))))
  obtain ⟨t_1, ht_8, h⟩ := bd h
  refine tO (pc 0 (fun w hm => impl_drumCode.calls f0 ([a1, b2] : List (Arr 96 Int)) w _ C_c (hm.xr C_h) rfl 2 (hm.ow 3 (some b_7) 31 ([a1, b2] : List (Arr 96 Int)) [] (fun e => nomatch e) encA96U32_len) rfl ht_8) ?_)
  rintro w v w' hm ⟨rfl, hm'⟩
  refine ⟨_, hm.app hm', jkO ?_⟩
  clear hm hm'
  refine qh [0] (qe (jx_then (jc_seq (jc_region (qh [0,0] (qe (jx_then (qi h (fun h => ?_) (fun h => ?_)))))))))
  ·refine jc_seq (jc_region (qh [0,0,0] (qe (jx_then (jc_ret (jx_thenr ?_))))))
   obtain rfl := Option.some.inj h
   exact qr [] (fun w hm => ⟨rfl, hm.pk []⟩)
  ·refine jc_skip (jx_then (jc_seq (jc_region (tO (p_ldA 0 1 b_2 96 1 31 encU32 a1 (by kernel_rfl) (by kernel_rfl) (by kernel_rfl) encU32_len (by kernel_rfl) (jkO (tO (p_ldA 0 2 b_3 96 1 31 encU32 b2 (by kernel_rfl) (by kernel_rfl) (by kernel_rfl) encU32_len (by kernel_rfl) (jkO ?_)))))))))
   obtain ⟨t_2, ht_10, h⟩ := bd h
   refine tO (pc 0 (fun w hm => impl_cost.calls a1 b2 w _ ht_10) ?_)
   rintro w v w' hm ⟨rfl, hm'⟩
   refine ⟨_, hm.app hm', jkO ?_⟩
   clear hm hm'
   refine qh [0,0] (qe (jx_then (jc_ret ?_)))
   obtain rfl := Option.some.inj h
   exact qr [] (fun w hm => ⟨rfl, hm.pk []⟩)
/-! ### impl.PinsToMove -/
def impl_PinsToMove (f0 : GFrame) (a1 : Arr 96 Int) (b2 : Arr 96 Int) : Option (Int × Int × Int) := (impl_drumCode f0 ([a1, b2] : List (Arr 96 Int))).bind fun t_1 => (if (t_1 != 0) = true then some (0, 0, t_1) else (impl_Drum_less b2 a1).bind fun t_2 => (impl_Drum_count t_2).bind fun t_3 => (impl_Drum_less a1 b2).bind fun t_4 => (impl_Drum_count t_4).bind fun t_5 => some (t_3, t_5, 0))
theorem impl_PinsToMove.calls (f0 : GFrame) (a1 : Arr 96 Int) (b2 : Arr 96 Int) (w : World) (r : Int × Int × Int) {C_a : Option Addr} {C_an : Nat} (C_c : Nat) (C_h : Rw w C_a 2 encGHammer f0.fHammers) (C_hn : f0.fHammers.length = C_an) (h : impl_PinsToMove f0 a1 b2 = some r) :
    Calls Tryz.prog 15 #[(.agg #[(.int .i16 f0.fSteps), (.slice C_a C_an C_c)]), (.agg (row encU32 a1.1 []).toArray), (.agg (row encU32 b2.1 []).toArray)] w fun e w' => ∃ v, e = .returned v ∧ (v = .tuple #[(.int .i64 r.1), (.int .i64 r.2.1), (.int .i64 r.2.2)] ∧ Mem w [] [] w') := by
  subst C_hn
  rw [impl_PinsToMove] at h
  refine enter (args := [(.agg #[(.int .i16 f0.fSteps), (.slice C_a f0.fHammers.length C_c)]), (.agg (row encU32 a1.1 []).toArray), (.agg (row encU32 b2.1 []).toArray)]) Tryz.func15 rfl Tryz.ntmps15 (by kernel_rfl) (L := []) (W := []) (Mem.start w) ?_
  refine jc_seq (jc_region (tO (qa 0 (fun b_1 => jkO (tO (qa 0 (fun b_2 => jkO (tO (qa 0 (fun b_3 => jkO (qh [0,0,0] (qe (jx_then (jc_seq (jc_seq (jc_region (qh [0] (tO (p_ldA 0 1 b_2 96 1 31 encU32 a1 (by kernel_rfl) (by kernel_rfl) (by kernel_rfl) encU32_len (by kernel_rfl) (jkO (tO (p_ldA 0 2 b_3 96 1 31 encU32 b2 (by kernel_rfl) (by kernel_rfl) (by kernel_rfl) encU32_len (by kernel_rfl) (jkO (tO (p_bs 0 31 96 2 encA96U32 [(.agg (row encU32 a1.1 []).toArray), (.agg (row encU32 b2.1 []).toArray)] [a1, b2] (by kernel_rfl) (by kernel_rfl) rfl (by kernel_rfl) (by kernel_rfl) encA96U32_len (fun b_7 => jkO ?_))))))))))))))))))))))))))
  obtain ⟨t_1, ht_8, h⟩ := bd h
  refine tO (pc 0 (fun w hm => impl_drumCode.calls f0 ([a1, b2] : List (Arr 96 Int)) w _ C_c (hm.xr C_h) rfl 2 (hm.ow 3 (some b_7) 31 ([a1, b2] : List (Arr 96 Int)) [] (fun e => nomatch e) encA96U32_len) rfl ht_8) ?_)
  rintro w v w' hm ⟨rfl, hm'⟩
  refine ⟨_, hm.app hm', jkO ?_⟩
  clear hm hm'
  refine qh [0] (qe (jx_then (jc_seq (jc_region (qh [0,0] (qe (jx_then (qi h (fun h => ?_) (fun h => ?_)))))))))
  ·refine jc_seq (jc_region (qh [0,0,0,0] (qe (jx_then (jc_ret (jx_thenr ?_))))))
   obtain rfl := Option.some.inj h
   exact qr [] (fun w hm => ⟨rfl, hm.pk []⟩)
  ·refine jc_skip (jx_then (jc_seq (qg [⟨some b_1, 27, [(.int .i16 f0.fSteps), (.slice C_a f0.fHammers.length C_c)]⟩, ⟨(some b_2), 31, row encU32 a1.1 []⟩, ⟨(some b_3), 31, row encU32 b2.1 []⟩, ⟨(some b_7), 31, row encA96U32 ([a1, b2] : List (Arr 96 Int)) []⟩] 11 (qv 0 0 [0, 1, 2, 3] (fun w hm => ld_run (b := b_3) (off := 0) (s := 96) (agg := true) (vs := row encU32 b2.1 []) (by kernel_rfl) ((row_len encU32_len b2).trans rfl) (.inl rfl) (hm.all (hh := 2) (T := 31) (by kernel_rfl))) (qv 1 0 [0, 1, 2, 3] (fun w hm => ld_run (b := b_2) (off := 0) (s := 96) (agg := true) (vs := row encU32 a1.1 []) (by kernel_rfl) ((row_len encU32_len a1).trans rfl) (.inl rfl) (hm.all (hh := 1) (T := 31) (by kernel_rfl))) (qv 4 0 [0, 1, 2, 3] (fun w hm => ld_run (b := b_2) (off := 0) (s := 96) (agg := true) (vs := row encU32 a1.1 []) (by kernel_rfl) ((row_len encU32_len a1).trans rfl) (.inl rfl) (hm.all (hh := 1) (T := 31) (by kernel_rfl))) (qv 5 0 [0, 1, 2, 3] (fun w hm => ld_run (b := b_3) (off := 0) (s := 96) (agg := true) (vs := row encU32 b2.1 []) (by kernel_rfl) ((row_len encU32_len b2).trans rfl) (.inl rfl) (hm.all (hh := 2) (T := 31) (by kernel_rfl))) ?_)))))))
   obtain ⟨t_2, ht_10, h⟩ := bd h
   refine tD 2 (pc 0 (fun w hm => impl_Drum_less.calls b2 a1 w _ ht_10) ?_)
   rintro w v w' hm ⟨rfl, hm'⟩
   refine ⟨_, hm.app hm', kD [0, 1, 2, 3] ?_⟩
   clear hm hm'
   obtain ⟨t_3, ht_11, h⟩ := bd h
   refine tD 3 (pc 0 (fun w hm => impl_Drum_count.calls t_2 w _ ht_11) ?_)
   rintro w v w' hm ⟨rfl, hm'⟩
   refine ⟨_, hm.app hm', kD [0, 1, 2, 3] ?_⟩
   clear hm hm'
   obtain ⟨t_4, ht_12, h⟩ := bd h
   refine tD 6 (pc 0 (fun w hm => impl_Drum_less.calls a1 b2 w _ ht_12) ?_)
   rintro w v w' hm ⟨rfl, hm'⟩
   refine ⟨_, hm.app hm', kD [0, 1, 2, 3] ?_⟩
   clear hm hm'
   obtain ⟨t_5, ht_13, h⟩ := bd h
   refine tD 7 (pc 0 (fun w hm => impl_Drum_count.calls t_4 w _ ht_13) ?_)
   rintro w v w' hm ⟨rfl, hm'⟩
   refine ⟨_, hm.app hm', kD [0, 1, 2, 3] ?_⟩
   clear hm hm'
   refine qd [⟨8, 0, 0⟩,⟨9, 0, 0⟩,⟨10, 0, 0⟩] 0 [0, 1, 2, 3] (qz (jx_then (jc_ret ?_)))
   obtain rfl := Option.some.inj h
   exact qr [] (fun w hm => ⟨rfl, hm.pk []⟩)
/-! ### impl.FirstBadChange -/
def impl_FirstBadChange (f0 : GFrame) (d1 : Arr 96 Int) (list2 : List GChange) : Option (Int × Int) := (impl_changesCode f0 d1 list2).bind fun t_1 => (if (t_1 != 0) = true then some (0, t_1) else (impl_makeChanges f0 d1 list2).bind fun t_2 => (if (t_2.2.2 == 0) = true then some (0, 6) else some (t_2.2.1, 0)))
theorem impl_FirstBadChange.calls (f0 : GFrame) (d1 : Arr 96 Int) (list2 : List GChange) (w : World) (r : Int × Int) {C_a : Option Addr} {C_an : Nat} (C_c : Nat) (C_h : Rw w C_a 2 encGHammer f0.fHammers) (C_hn : f0.fHammers.length = C_an) {E_a : Option Addr} {E_an : Nat} (E_c : Nat) (E_h : Rw w E_a 3 encGChange list2) (E_hn : list2.length = E_an) (h : impl_FirstBadChange f0 d1 list2 = some r) :
    Calls Tryz.prog 16 #[(.agg #[(.int .i16 f0.fSteps), (.slice C_a C_an C_c)]), (.agg (row encU32 d1.1 []).toArray), (.slice E_a E_an E_c)] w fun e w' => ∃ v, e = .returned v ∧ (v = .tuple #[(.int .i64 r.1), (.int .i64 r.2)] ∧ Mem w [] [] w') := by
  subst C_hn E_hn
  rw [impl_FirstBadChange] at h
  refine enter (args := [(.agg #[(.int .i16 f0.fSteps), (.slice C_a f0.fHammers.length C_c)]), (.agg (row encU32 d1.1 []).toArray), (.slice E_a list2.length E_c)]) Tryz.func16 rfl Tryz.ntmps16 (by kernel_rfl) (L := []) (W := []) (Mem.start w) ?_
  refine jc_seq (jc_region (tO (qa 0 (fun b_1 => jkO (tO (qa 0 (fun b_2 => jkO (qh [0,0] (qe (jx_then (jc_seq (jc_seq (jc_region (qh [0] (tO (p_ldA 0 1 b_2 96 1 31 encU32 d1 (by kernel_rfl) (by kernel_rfl) (by kernel_rfl) encU32_len (by kernel_rfl) (jkO (qh [0] ?_))))))))))))))))))
  obtain ⟨t_1, ht_5, h⟩ := bd h
  refine tO (pc 0 (fun w hm => impl_changesCode.calls f0 d1 list2 w _ C_c (hm.xr C_h) rfl E_c (hm.xr E_h) rfl ht_5) ?_)
  rintro w v w' hm ⟨rfl, hm'⟩
  refine ⟨_, hm.app hm', jkO ?_⟩
  clear hm hm'
  refine qh [0] (qe (jx_then (jc_seq (jc_region (qh [0,0] (qe (jx_then (qi h (fun h => ?_) (fun h => ?_)))))))))
  ·refine jc_seq (jc_region (qh [0,0,0] (qe (jx_then (jc_ret (jx_thenr ?_))))))
   obtain rfl := Option.some.inj h
   exact qr [] (fun w hm => ⟨rfl, hm.pk []⟩)
  ·refine jc_skip (jx_then (jc_seq (jc_region (qh [0] (tO (p_ldA 0 1 b_2 96 1 31 encU32 d1 (by kernel_rfl) (by kernel_rfl) (by kernel_rfl) encU32_len (by kernel_rfl) (jkO (qh [0] ?_))))))))
   obtain ⟨t_2, ht_7, h⟩ := bd h
   refine tO (pc 0 (fun w hm => impl_makeChanges.calls f0 d1 list2 w _ C_c (hm.xr C_h) rfl E_c (hm.xr E_h) rfl ht_7) ?_)
   rintro w v w' hm ⟨rfl, hm'⟩
   refine ⟨_, hm.app hm', jkO ?_⟩
   clear hm hm'
   refine qh [0,0,0,0] (tO (qa 0 (fun b_8 => jkO (tO (p_sA 0 2 b_8 96 1 31 encU32 (Arr.rep 96 0) t_2.1 (by kernel_rfl) (by kernel_rfl) (by kernel_rfl) encU32_len encU32_cell (by kernel_rfl) (jkO (qh [0,0] (qe (jx_then (jc_seq (jc_seq (jc_region (qh [0,0] (qe (jx_then (qi h (fun h => ?_) (fun h => ?_)))))))))))))))))
   ·refine jc_seq (jc_region (qh [0,0] (qe (jx_then (jc_ret (jx_thenr ?_))))))
    obtain rfl := Option.some.inj h
    exact qr [] (fun w hm => ⟨rfl, hm.pk []⟩)
   ·refine jc_skip (jx_then (jc_seq (jc_region (qh [0,0,0] (qe (jx_then (jc_ret ?_)))))))
    obtain rfl := Option.some.inj h
    exact qr [] (fun w hm => ⟨rfl, hm.pk []⟩)
/-! ### spec.A2SameChanges -/
def spec_A2SameChanges.k_1 : Option (Bool) := some true
def spec_A2SameChanges.l_3 (a0 : List GChange) (b1 : List GChange) : Int → Option ((Int) ⊕ (Bool ⊕ Unit))
  | i_2 => (if (decide (i_2 < (a0.length : Int))) = true then (ix a0 i_2).bind fun x_5 => (ix b1 i_2).bind fun x_6 => (if (!((x_5.fStep == x_6.fStep) && ((x_5.fTrack == x_6.fTrack) && (x_5.fPut == x_6.fPut)))) = true then some (.inr (.inl false)) else some (.inl (w64 (i_2 + 1)))) else some (.inr (.inr ())))
def spec_A2SameChanges (a0 : List GChange) (b1 : List GChange) : Option (Bool) := (if ((a0.length : Int) != (b1.length : Int)) = true then some false else (loop (spec_A2SameChanges.l_3 a0 b1) 0).bind fun t_4 => match t_4 with | .inl p => some p | .inr p => spec_A2SameChanges.k_1)
theorem spec_A2SameChanges.calls (a0 : List GChange) (b1 : List GChange) (w : World) (r : Bool) {A_a : Option Addr} {A_an : Nat} (A_c : Nat) (A_h : Rw w A_a 3 encGChange a0) (A_hn : a0.length = A_an) {B_a : Option Addr} {B_an : Nat} (B_c : Nat) (B_h : Rw w B_a 3 encGChange b1) (B_hn : b1.length = B_an) (h : spec_A2SameChanges a0 b1 = some r) :
    Calls Tryz.prog 17 #[(.slice A_a A_an A_c), (.slice B_a B_an B_c)] w fun e w' => ∃ v, e = .returned v ∧ (v = (.bool r) ∧ Mem w [] [] w') := by
  subst A_hn B_hn
  rw [spec_A2SameChanges] at h
  refine enter (args := [(.slice A_a a0.length A_c), (.slice B_a b1.length B_c)]) Tryz.func17 rfl Tryz.ntmps17 (by kernel_rfl) (L := []) (W := []) (Mem.start w) ?_
  refine jc_seq (jc_region (qh [0] (qe (jx_then (jc_seq (jc_seq (jc_region (qh [0,0,0,0,0] (qe (jx_then (qi h (fun h => ?_) (fun h => ?_))))))))))))
  ·refine jc_seq (jc_region (qh [0] (qe (jx_then (jc_ret (jx_thenr ?_))))))
   obtain rfl := Option.some.inj h
   exact qr [] (fun w hm => ⟨rfl, hm.pk []⟩)
  ·refine jc_skip (jx_then (jc_seq (jc_seq (jc_region (qh [0] (qe (jx_then (jc_meet (fun (_ : Unit) => spec_A2SameChanges.k_1 = some r) (fun (_ : Unit) => [(4, [], (.bool false))]) (fun (_ : Unit) => []) ?_ ?_))))))))
   ·refine jc_block ?_
    obtain ⟨t_4, ht_42, hr_33⟩ := bd h
    refine jc_loop (fun (s : Int) (x : Unit) => match s, x with | i_2, _ => True) (fun (s : Int) (x : Unit) => match s, x with | i_2, _ => [(0, [], (.slice A_a a0.length A_c)), (1, [], (.slice B_a b1.length B_c)), (4, [], (.bool false)), (5, [], (.int .i64 i_2))]) (fun (s : Int) (x : Unit) => match s, x with | i_2, _ => []) ht_42 () trivial (by kernel_rfl) [] (by kernel_rfl) (by kernel_rfl) ?_
    rintro i_2 _ y_34 _ h
    rw [spec_A2SameChanges.l_3] at h
    refine jc_seq (jc_seq (jc_region (qh [0,0,0,0] (qe (jx_then (qi h (fun h => ?_) (fun h => ?_)))))))
    ·refine jc_skip (jx_then (jc_seq (jc_block (jc_seq (qg [] 9 (qd [⟨0, 0, 0⟩,⟨1, 0, 0⟩,⟨4, 0, 0⟩,⟨5, 0, 0⟩] 5 [] ?_))))))
     obtain ⟨x_5, hx_37, h⟩ := bd h
     refine qv 2 0 [] (fun w hm => idx_run (a := A_a) (len := a0.length) (s := 3) (j := i_2) (by kernel_rfl) (ix_some hx_37).1 (ltn hx_37 rfl) (A_h.sp hx_37)) (qv 3 0 [] (fun w hm => ld_run (b := aB A_a) (off := (aO A_a + i_2.toNat * 3)) (s := 3) (agg := true) (vs := (encGChange x_5)) (by kernel_rfl) (by kernel_rfl) (.inl rfl) ((hm.xr A_h).at hx_37)) ?_)
     obtain ⟨x_6, hx_38, h⟩ := bd h
     refine qv 6 0 [] (fun w hm => idx_run (a := B_a) (len := b1.length) (s := 3) (j := i_2) (by kernel_rfl) (ix_some hx_38).1 (ltn hx_38 rfl) (B_h.sp hx_38)) (qv 7 0 [] (fun w hm => ld_run (b := aB B_a) (off := (aO B_a + i_2.toNat * 3)) (s := 3) (agg := true) (vs := (encGChange x_6)) (by kernel_rfl) (by kernel_rfl) (.inl rfl) ((hm.xr B_h).at hx_38)) (qd [⟨8, 0, 0⟩] 0 [] (qz (jx_then (qi h (fun h => ?_) (fun h => ?_))))))
     ·refine jc_seq (jc_region (qh [0] (qe (jx_then (jc_ret (jx_inr (jx_thenr (jx_leaver (.inl false) (Option.some.inj h).symm (fun e_40 => ?_)))))))))
      subst e_40
      refine jx_inr (jx_thenr (jx_thenr ?_))
      obtain rfl := Option.some.inj hr_33
      exact qr [] (fun w hm => ⟨rfl, hm.pk []⟩)
     ·exact jc_skip (jx_inn (jx_then (jc_region (qh [0,0,0] (qe (qb (w64 (i_2 + 1)) () h trivial []))))))
    ·refine jc_exit (jx_thenx (jx_leave (.inr ()) (Option.some.inj h).symm (fun e_41 => ?_)))
     subst e_41
     exact jx_ine (qm () hr_33 [])
   ·rintro _ h
    replace h : spec_A2SameChanges.k_1 = some r := h
    rw [spec_A2SameChanges.k_1] at h
    refine jx_then (jc_seq (jc_region (qh [0] (qe (jx_then (jc_ret ?_))))))
    obtain rfl := Option.some.inj h
    exact qr [] (fun w hm => ⟨rfl, hm.pk []⟩)
/-! ### (impl.Frame).turned -/
def impl_Frame_turned.k_2 (a_1 : Arr 96 Int) : Option ((Arr 96 Int)) := some a_1
def impl_Frame_turned.l_5 (f0 : GFrame) (d1 : Arr 96 Int) (by2 : Int) : ((Arr 96 Int) × Int) → Option (((Arr 96 Int) × Int) ⊕ ((Arr 96 Int)))
  | (a_3, i_4) => (if (decide (i_4 < (w64 f0.fSteps))) = true then (ix d1.1 i_4).bind fun x_7 => (if (w64 f0.fSteps) ≠ 0 then (ix a_3.1 (Int.tmod (w64 (i_4 + by2)) (w64 f0.fSteps))).bind fun x_8 => some (.inl ((Arr.set a_3 (Int.tmod (w64 (i_4 + by2)) (w64 f0.fSteps)) x_7), (w64 (i_4 + 1)))) else none) else some (.inr a_3))
def impl_Frame_turned (f0 : GFrame) (d1 : Arr 96 Int) (by2 : Int) : Option ((Arr 96 Int)) := (loop (impl_Frame_turned.l_5 f0 d1 by2) ((Arr.rep 96 0), 0)).bind fun t_6 => impl_Frame_turned.k_2 t_6
theorem impl_Frame_turned.calls (f0 : GFrame) (d1 : Arr 96 Int) (by2 : Int) (w : World) (r : (Arr 96 Int)) {C_a : Option Addr} {C_an : Nat} (C_c : Nat) (C_h : Rw w C_a 2 encGHammer f0.fHammers) (C_hn : f0.fHammers.length = C_an) (h : impl_Frame_turned f0 d1 by2 = some r) :
    Calls Tryz.prog 46 #[(.agg #[(.int .i16 f0.fSteps), (.slice C_a C_an C_c)]), (.agg (row encU32 d1.1 []).toArray), (.int .i64 by2)] w fun e w' => ∃ v, e = .returned v ∧ (v = (.agg (row encU32 r.1 []).toArray) ∧ Mem w [] [] w') := by
  subst C_hn
  rw [impl_Frame_turned] at h
  refine enter (args := [(.agg #[(.int .i16 f0.fSteps), (.slice C_a f0.fHammers.length C_c)]), (.agg (row encU32 d1.1 []).toArray), (.int .i64 by2)]) Tryz.func46 rfl Tryz.ntmps46 (by kernel_rfl) (L := []) (W := []) (Mem.start w) ?_
  refine jc_seq (jc_region (tO (qa 0 (fun b_1 => jkO (tO (qa 0 (fun b_2 => jkO (tO (qa 0 (fun b_3 => jkO (qe (jx_then (jc_seq (jc_region (qh [0] (tO (qa 0 (fun b_4 => jkO (tO (p_sA 0 3 b_4 96 1 31 encU32 (Arr.rep 96 0) (Arr.rep 96 0) (by kernel_rfl) (by kernel_rfl) (by kernel_rfl) encU32_len encU32_cell (by kernel_rfl) (jkO (qe (jx_then (jc_seq (jc_seq (jc_region (qh [0,0,0,0] (qe (jx_then (jc_meet (fun (j : (Arr 96 Int)) => match j with | a_1 => impl_Frame_turned.k_2 a_1 = some r) (fun (j : (Arr 96 Int)) => match j with | a_1 => [(6, [], (.pointer (some ⟨b_3, 0, none⟩))), (7, [], (.pointer (some ⟨b_4, 0, none⟩)))]) (fun (j : (Arr 96 Int)) => match j with | a_1 => [⟨some b_1, 27, [(.int .i16 f0.fSteps), (.slice C_a f0.fHammers.length C_c)]⟩, ⟨(some b_2), 31, row encU32 d1.1 []⟩, ⟨(some b_3), 31, row encU32 ((Arr.rep 96 0).1) []⟩, ⟨(some b_4), 31, row encU32 a_1.1 []⟩]) ?_ ?_))))))))))))))))))))))))))))))
  ·refine jc_block ?_
   obtain ⟨t_6, ht_116, hr_105⟩ := bd h
   refine jc_loop (fun (s : (Arr 96 Int) × Int) (x : Unit) => match s, x with | ⟨a_3, i_4⟩, _ => True) (fun (s : (Arr 96 Int) × Int) (x : Unit) => match s, x with | ⟨a_3, i_4⟩, _ => [(2, [], (.int .i64 by2)), (3, [], (.pointer (some ⟨b_1, 0, none⟩))), (4, [], (.pointer (some ⟨b_2, 0, none⟩))), (6, [], (.pointer (some ⟨b_3, 0, none⟩))), (7, [], (.pointer (some ⟨b_4, 0, none⟩))), (12, [], (.int .i64 (w64 f0.fSteps))), (13, [], (.int .i64 i_4))]) (fun (s : (Arr 96 Int) × Int) (x : Unit) => match s, x with | ⟨a_3, i_4⟩, _ => [⟨some b_1, 27, [(.int .i16 f0.fSteps), (.slice C_a f0.fHammers.length C_c)]⟩, ⟨(some b_2), 31, row encU32 d1.1 []⟩, ⟨(some b_3), 31, row encU32 ((Arr.rep 96 0).1) []⟩, ⟨(some b_4), 31, row encU32 a_3.1 []⟩]) ht_116 () trivial (by kernel_rfl) [0, 1, 2, 3] (by kernel_rfl) (by kernel_rfl) ?_
   rintro ⟨a_3, i_4⟩ _ y_106 _ h
   rw [impl_Frame_turned.l_5] at h
   refine jc_seq (jc_region (qh [0] (qe (jx_then (jc_seq (qi h (fun h => ?_) (fun h => ?_)))))))
   ·refine jc_skip (jx_then (jc_seq (jc_block (jc_seq (jc_region (qh [0,0] (qe (jx_then (qg [⟨some b_1, 27, [(.int .i16 f0.fSteps), (.slice C_a f0.fHammers.length C_c)]⟩, ⟨(some b_2), 31, row encU32 d1.1 []⟩, ⟨(some b_3), 31, row encU32 ((Arr.rep 96 0).1) []⟩] 12 (qd [⟨0, 0, 0⟩,⟨1, 0, 0⟩,⟨2, 0, 0⟩,⟨3, 0, 0⟩,⟨4, 0, 0⟩,⟨5, 0, 0⟩,⟨7, 0, 0⟩] 5 [0, 1, 2] ?_))))))))))
    obtain ⟨x_7, hx_112, h⟩ := bd h
    refine qv 8 0 [0, 1, 2] (fun w hm => idx_run (a := (some ⟨b_2, 0, none⟩)) (len := 96) (s := 1) (j := i_4) (by kernel_rfl) (ix_some hx_112).1 (ltn hx_112 d1.2) rfl) (qv 9 0 [0, 1, 2] (fun w hm => ld_run (b := aB (some ⟨b_2, 0, none⟩)) (off := (aO (some ⟨b_2, 0, none⟩) + i_4.toNat * 1)) (s := 1) (agg := false) (vs := (encU32 x_7)) (by kernel_rfl) (by kernel_rfl) (.inr rfl) ((hm.ow 1 (some b_2) 31 d1.1 [] (fun e => nomatch e) encU32_len).at hx_112)) ?_)
    obtain ⟨hg_113, h⟩ := gd h
    refine tD 6 (p_rem 0 .i64 (w64 (i_4 + by2)) (w64 f0.fSteps) (by kernel_rfl) (by kernel_rfl) hg_113 (kD [0, 1, 2] ?_))
    obtain ⟨x_8, hx_114, h⟩ := bd h
    exact qv 10 0 [0, 1, 2] (fun w hm => idx_run (a := (some ⟨b_4, 0, none⟩)) (len := 96) (s := 1) (j := (Int.tmod (w64 (i_4 + by2)) (w64 f0.fSteps))) (by kernel_rfl) (ix_some hx_114).1 (ltn hx_114 a_3.2) rfl) (tD 11 (p_str 0 3 b_4 31 encU32 a_3.1 [] (Int.tmod (w64 (i_4 + by2)) (w64 f0.fSteps)) x_7 1 0 [(.int .u32 x_7)] (by kernel_rfl) (by kernel_rfl) (by kernel_rfl) encU32_len hx_114 (by kernel_rfl) (by kernel_rfl) (kD [0, 1, 2] (qz (jx_inn (jx_then (jc_region (qh [0,0] (qe (qb ((Arr.set a_3 (Int.tmod (w64 (i_4 + by2)) (w64 f0.fSteps)) x_7), (w64 (i_4 + 1))) () h trivial [0, 1, 2, 3]))))))))))
   ·refine jc_exit (jx_thenx (jx_leave a_3 (Option.some.inj h).symm (fun e_115 => ?_)))
    subst e_115
    exact jx_ine (qm a_3 hr_105 [0, 1, 2, 3])
  ·rintro a_1 h
   replace h : impl_Frame_turned.k_2 a_1 = some r := h
   rw [impl_Frame_turned.k_2] at h
   refine jx_then (jc_seq (jc_region (tO (p_ldA 0 3 b_4 96 1 31 encU32 a_1 (by kernel_rfl) (by kernel_rfl) (by kernel_rfl) encU32_len (by kernel_rfl) (jkO (tO (p_sA 0 2 b_3 96 1 31 encU32 (Arr.rep 96 0) a_1 (by kernel_rfl) (by kernel_rfl) (by kernel_rfl) encU32_len encU32_cell (by kernel_rfl) (jkO (qe (jx_then (jc_ret ?_)))))))))))
   obtain rfl := Option.some.inj h
   exact jx_retV rfl (rq_arr (b := b_3) (T' := 31) (hh := 2) (mm := 1) encU32 a_1 (by kernel_rfl) (by kernel_rfl) encU32_len (by kernel_rfl) rq_nil) (fun w hm => ⟨rfl, hm.pk []⟩)
/-! ### impl.TurnedCost -/
def impl_TurnedCost.k_4 (i_2 : Int) (i_3 : Int) : Option (Int × Int × Int) := some (i_3, i_2, 0)
def impl_TurnedCost.l_8 (f0 : GFrame) (a1 : Arr 96 Int) (b2 : Arr 96 Int) : (Int × Int × Int) → Option ((Int × Int × Int) ⊕ ((Int × Int)))
  | (i_5, i_6, i_7) => (if (decide (i_7 < (w64 f0.fSteps))) = true then (impl_Frame_turned f0 b2 i_7).bind fun t_10 => (impl_cost a1 t_10).bind fun t_11 => (if ((decide (i_6 < 0)) || (decide (t_11 < i_6))) = true then some (.inl (i_7, t_11, (w64 (i_7 + 1)))) else some (.inl (i_5, i_6, (w64 (i_7 + 1))))) else some (.inr (i_5, i_6)))
def impl_TurnedCost (f0 : GFrame) (a1 : Arr 96 Int) (b2 : Arr 96 Int) : Option (Int × Int × Int) := (impl_drumCode f0 ([a1, b2] : List (Arr 96 Int))).bind fun t_1 => (if (t_1 != 0) = true then some (0, 0, t_1) else (loop (impl_TurnedCost.l_8 f0 a1 b2) (0, (-1), 0)).bind fun t_9 => impl_TurnedCost.k_4 t_9.1 t_9.2)
theorem impl_TurnedCost.calls (f0 : GFrame) (a1 : Arr 96 Int) (b2 : Arr 96 Int) (w : World) (r : Int × Int × Int) {C_a : Option Addr} {C_an : Nat} (C_c : Nat) (C_h : Rw w C_a 2 encGHammer f0.fHammers) (C_hn : f0.fHammers.length = C_an) (h : impl_TurnedCost f0 a1 b2 = some r) :
    Calls Tryz.prog 18 #[(.agg #[(.int .i16 f0.fSteps), (.slice C_a C_an C_c)]), (.agg (row encU32 a1.1 []).toArray), (.agg (row encU32 b2.1 []).toArray)] w fun e w' => ∃ v, e = .returned v ∧ (v = .tuple #[(.int .i64 r.1), (.int .i64 r.2.1), (.int .i64 r.2.2)] ∧ Mem w [] [] w') := by
  subst C_hn
  rw [impl_TurnedCost] at h
  refine enter (args := [(.agg #[(.int .i16 f0.fSteps), (.slice C_a f0.fHammers.length C_c)]), (.agg (row encU32 a1.1 []).toArray), (.agg (row encU32 b2.1 []).toArray)]) Tryz.func18 rfl Tryz.ntmps18 (by kernel_rfl) (L := []) (W := []) (Mem.start w) ?_
  refine jc_seq (jc_region (tO (qa 0 (fun b_1 => jkO (tO (qa 0 (fun b_2 => jkO (tO (qa 0 (fun b_3 => jkO (qh [0,0,0] (qe (jx_then (jc_seq (jc_seq (jc_region (qh [0] (tO (p_ldA 0 1 b_2 96 1 31 encU32 a1 (by kernel_rfl) (by kernel_rfl) (by kernel_rfl) encU32_len (by kernel_rfl) (jkO (tO (p_ldA 0 2 b_3 96 1 31 encU32 b2 (by kernel_rfl) (by kernel_rfl) (by kernel_rfl) encU32_len (by kernel_rfl) (jkO (tO (p_bs 0 31 96 2 encA96U32 [(.agg (row encU32 a1.1 []).toArray), (.agg (row encU32 b2.1 []).toArray)] [a1, b2] (by kernel_rfl) (by kernel_rfl) rfl (by kernel_rfl) (by kernel_rfl) encA96U32_len (fun b_7 => jkO ?_))))))))))))))))))))))))))
  obtain ⟨t_1, ht_8, h⟩ := bd h
  refine tO (pc 0 (fun w hm => impl_drumCode.calls f0 ([a1, b2] : List (Arr 96 Int)) w _ C_c (hm.xr C_h) rfl 2 (hm.ow 3 (some b_7) 31 ([a1, b2] : List (Arr 96 Int)) [] (fun e => nomatch e) encA96U32_len) rfl ht_8) ?_)
  rintro w v w' hm ⟨rfl, hm'⟩
  refine ⟨_, hm.app hm', jkO ?_⟩
  clear hm hm'
  refine qh [0] (qe (jx_then (jc_seq (jc_region (qh [0,0] (qe (jx_then (qi h (fun h => ?_) (fun h => ?_)))))))))
  ·refine jc_seq (jc_region (qh [0,0,0,0] (qe (jx_then (jc_ret (jx_thenr ?_))))))
   obtain rfl := Option.some.inj h
   exact qr [] (fun w hm => ⟨rfl, hm.pk []⟩)
  ·refine jc_skip (jx_then (jc_seq (jc_region (qh [0,0] (qe (jx_then (jc_seq (jc_seq (jc_region (qh [0,0,0,0] (qe (jx_then (jc_meet (fun (j : Int × Int) => match j with | ⟨i_2, i_3⟩ => impl_TurnedCost.k_4 i_2 i_3 = some r) (fun (j : Int × Int) => match j with | ⟨i_2, i_3⟩ => [(6, [], (.int .i64 0)), (7, [], (.int .i64 0)), (8, [], (.int .i64 0)), (10, [], (.int .i64 i_2)), (11, [], (.int .i64 i_3))]) (fun (j : Int × Int) => match j with | ⟨i_2, i_3⟩ => [⟨some b_1, 27, [(.int .i16 f0.fSteps), (.slice C_a f0.fHammers.length C_c)]⟩, ⟨(some b_2), 31, row encU32 a1.1 []⟩, ⟨(some b_3), 31, row encU32 b2.1 []⟩, ⟨(some b_7), 31, row encA96U32 ([a1, b2] : List (Arr 96 Int)) []⟩]) ?_ ?_)))))))))))))
   ·refine jc_block ?_
    obtain ⟨t_9, ht_137, hr_127⟩ := bd h
    refine jc_loop (fun (s : Int × Int × Int) (x : Unit) => match s, x with | ⟨i_5, i_6, i_7⟩, _ => True) (fun (s : Int × Int × Int) (x : Unit) => match s, x with | ⟨i_5, i_6, i_7⟩, _ => [(3, [], (.pointer (some ⟨b_1, 0, none⟩))), (4, [], (.pointer (some ⟨b_2, 0, none⟩))), (5, [], (.pointer (some ⟨b_3, 0, none⟩))), (6, [], (.int .i64 0)), (7, [], (.int .i64 0)), (8, [], (.int .i64 0)), (10, [], (.int .i64 i_5)), (11, [], (.int .i64 i_6)), (24, [], (.int .i64 (w64 f0.fSteps))), (25, [], (.int .i64 i_7))]) (fun (s : Int × Int × Int) (x : Unit) => match s, x with | ⟨i_5, i_6, i_7⟩, _ => [⟨some b_1, 27, [(.int .i16 f0.fSteps), (.slice C_a f0.fHammers.length C_c)]⟩, ⟨(some b_2), 31, row encU32 a1.1 []⟩, ⟨(some b_3), 31, row encU32 b2.1 []⟩, ⟨(some b_7), 31, row encA96U32 ([a1, b2] : List (Arr 96 Int)) []⟩]) ht_137 () trivial (by kernel_rfl) [0, 1, 2, 3] (by kernel_rfl) (by kernel_rfl) ?_
    rintro ⟨i_5, i_6, i_7⟩ _ y_128 _ h
    rw [impl_TurnedCost.l_8] at h
    refine jc_seq (jc_region (qh [0] (qe (jx_then (jc_seq (qi h (fun h => ?_) (fun h => ?_)))))))
    ·refine jc_skip (jx_then (jc_seq (jc_block (jc_seq (jc_region (qh [0,0] (qe (jx_then (jc_seq (qg [⟨some b_1, 27, [(.int .i16 f0.fSteps), (.slice C_a f0.fHammers.length C_c)]⟩, ⟨(some b_2), 31, row encU32 a1.1 []⟩, ⟨(some b_3), 31, row encU32 b2.1 []⟩, ⟨(some b_7), 31, row encA96U32 ([a1, b2] : List (Arr 96 Int)) []⟩] 7 (qd [⟨1, 0, 0⟩,⟨3, 0, 0⟩] 5 [0, 1, 2, 3] (qv 0 0 [0, 1, 2, 3] (fun w hm => ld_run (b := b_2) (off := 0) (s := 96) (agg := true) (vs := row encU32 a1.1 []) (by kernel_rfl) ((row_len encU32_len a1).trans rfl) (.inl rfl) (hm.all (hh := 1) (T := 31) (by kernel_rfl))) (qv 2 0 [0, 1, 2, 3] (fun w hm => ld_run (b := b_3) (off := 0) (s := 96) (agg := true) (vs := row encU32 b2.1 []) (by kernel_rfl) ((row_len encU32_len b2).trans rfl) (.inl rfl) (hm.all (hh := 2) (T := 31) (by kernel_rfl))) ?_)))))))))))))
     obtain ⟨t_10, ht_133, h⟩ := bd h
     refine tD 4 (pc 0 (fun w hm => impl_Frame_turned.calls f0 b2 i_7 w _ C_c (hm.xr C_h) rfl ht_133) ?_)
     rintro w v w' hm ⟨rfl, hm'⟩
     refine ⟨_, hm.app hm', kD [0, 1, 2, 3] ?_⟩
     clear hm hm'
     obtain ⟨t_11, ht_134, h⟩ := bd h
     refine tD 5 (pc 0 (fun w hm => impl_cost.calls a1 t_10 w _ ht_134) ?_)
     rintro w v w' hm ⟨rfl, hm'⟩
     refine ⟨_, hm.app hm', kD [0, 1, 2, 3] ?_⟩
     clear hm hm'
     refine qd [⟨6, 0, 0⟩] 0 [0, 1, 2, 3] (qz (jx_then (jc_seq (jc_region (qf [(0, 0), (0, 0), (0, 0), (0, 1), (0, 1), (0, 1), (0, 0)] (qe (jx_then (qi h (fun h => ?_) (fun h => ?_)))))))))
     ·exact jc_region (qh [0,0,0,0] (qe (jx_inn (jx_then (jc_region (qh [0,0] (qe (qb (i_7, t_11, (w64 (i_7 + 1))) () h trivial [0, 1, 2, 3]))))))))
     ·exact jc_skip (jx_inn (jx_then (jc_region (qh [0,0] (qe (qb (i_5, i_6, (w64 (i_7 + 1))) () h trivial [0, 1, 2, 3]))))))
    ·refine jc_exit (jx_thenx (jx_leave (i_5, i_6) (Option.some.inj h).symm (fun e_136 => ?_)))
     subst e_136
     exact jx_ine (qm ⟨i_5, i_6⟩ hr_127 [0, 1, 2, 3])
   ·rintro ⟨i_2, i_3⟩ h
    replace h : impl_TurnedCost.k_4 i_2 i_3 = some r := h
    rw [impl_TurnedCost.k_4] at h
    refine jx_then (jc_seq (jc_region (qh [0,0,0,0,0] (qe (jx_then (jc_ret ?_))))))
    obtain rfl := Option.some.inj h
    exact qr [] (fun w hm => ⟨rfl, hm.pk []⟩)
/-! ### spec.l02Count -/
def spec_l02Count.k_2 (i_1 : Int) : Option (Int) := some i_1
def spec_l02Count.l_5 : (Int × Int) → Option ((Int × Int) ⊕ (Int))
  | (i_3, i_4) => (if (decide (i_3 > 0)) = true then some (.inl ((u32 (Int.tdiv i_3 2)), (w64 (i_4 + (w64 (Int.tmod i_3 2)))))) else some (.inr i_4))
def spec_l02Count (bits0 : Int) : Option (Int) := (loop spec_l02Count.l_5 (bits0, 0)).bind fun t_6 => spec_l02Count.k_2 t_6
theorem spec_l02Count.calls (bits0 : Int) (w : World) (r : Int) (h : spec_l02Count bits0 = some r) :
    Calls Tryz.prog 99 #[(.int .u32 bits0)] w fun e w' => ∃ v, e = .returned v ∧ (v = (.int .i64 r) ∧ Mem w [] [] w') := by
  rw [spec_l02Count] at h
  refine enter (args := [(.int .u32 bits0)]) Tryz.func99 rfl Tryz.ntmps99 (by kernel_rfl) (L := []) (W := []) (Mem.start w) ?_
  refine jc_seq (jc_region (qh [0] (qe (jx_then (jc_seq (jc_region (qh [0] (qe (jx_then (jc_seq (jc_meet (fun (j : Int) => match j with | i_1 => spec_l02Count.k_2 i_1 = some r) (fun (j : Int) => match j with | i_1 => [(2, [], (.int .i64 0)), (3, [], (.int .i64 i_1))]) (fun (j : Int) => match j with | i_1 => []) ?_ ?_)))))))))))
  ·refine jc_block ?_
   obtain ⟨t_6, ht_20, hr_15⟩ := bd h
   refine jc_loop (fun (s : Int × Int) (x : Unit) => match s, x with | ⟨i_3, i_4⟩, _ => True) (fun (s : Int × Int) (x : Unit) => match s, x with | ⟨i_3, i_4⟩, _ => [(0, [], (.int .u32 i_3)), (2, [], (.int .i64 0)), (3, [], (.int .i64 i_4))]) (fun (s : Int × Int) (x : Unit) => match s, x with | ⟨i_3, i_4⟩, _ => []) ht_20 () trivial (by kernel_rfl) [] (by kernel_rfl) (by kernel_rfl) ?_
   rintro ⟨i_3, i_4⟩ _ y_16 _ h
   rw [spec_l02Count.l_5] at h
   refine jc_seq (jc_seq (jc_region (qh [0,0] (qe (jx_then (qi h (fun h => ?_) (fun h => ?_)))))))
   ·exact jc_skip (jx_then (jc_seq (jc_block (jc_region (qh [0,0,0,0,0,0] (qe (jx_inn (jx_then (jc_region (qh [0,0,0] (qe (qb ((u32 (Int.tdiv i_3 2)), (w64 (i_4 + (w64 (Int.tmod i_3 2))))) () h trivial []))))))))))))
   ·refine jc_exit (jx_thenx (jx_leave i_4 (Option.some.inj h).symm (fun e_19 => ?_)))
    subst e_19
    exact jx_ine (qm i_4 hr_15 [])
  ·rintro i_1 h
   replace h : spec_l02Count.k_2 i_1 = some r := h
   rw [spec_l02Count.k_2] at h
   refine jx_then (jc_seq (jc_region (qh [0,0] (qe (jx_then (jc_ret ?_))))))
   obtain rfl := Option.some.inj h
   exact qr [] (fun w hm => ⟨rfl, hm.pk []⟩)
/-! ### spec.l02Moves -/
def spec_l02Moves.k_2 (i_1 : Int) : Option (Int) := some i_1
def spec_l02Moves.l_5 (a0 : Arr 96 Int) (b1 : Arr 96 Int) : (Int × Int) → Option ((Int × Int) ⊕ (Int))
  | (i_3, i_4) => (if (decide (i_4 < 96)) = true then (ix b1.1 i_4).bind fun x_7 => (ix a0.1 i_4).bind fun x_8 => (spec_l02Count (bClr .u32 x_7 x_8)).bind fun t_9 => some (.inl ((w64 (i_3 + t_9)), (w64 (i_4 + 1)))) else some (.inr i_3))
def spec_l02Moves (a0 : Arr 96 Int) (b1 : Arr 96 Int) : Option (Int) := (loop (spec_l02Moves.l_5 a0 b1) (0, 0)).bind fun t_6 => spec_l02Moves.k_2 t_6
theorem spec_l02Moves.calls (a0 : Arr 96 Int) (b1 : Arr 96 Int) (w : World) (r : Int) {A_b A_q : Nat} (A_h : Rw w (some ⟨A_b, A_q, none⟩) 1 encU32 a0.1) {B_b B_q : Nat} (B_h : Rw w (some ⟨B_b, B_q, none⟩) 1 encU32 b1.1) (h : spec_l02Moves a0 b1 = some r) :
    Calls Tryz.prog 73 #[(.pointer (some ⟨A_b, A_q, none⟩)), (.pointer (some ⟨B_b, B_q, none⟩))] w fun e w' => ∃ v, e = .returned v ∧ (v = (.int .i64 r) ∧ Mem w [] [] w') := by
  rw [spec_l02Moves] at h
  refine enter (args := [(.pointer (some ⟨A_b, A_q, none⟩)), (.pointer (some ⟨B_b, B_q, none⟩))]) Tryz.func73 rfl Tryz.ntmps73 (by kernel_rfl) (L := []) (W := []) (Mem.start w) ?_
  refine jc_seq (jc_region (qh [0] (qe (jx_then (jc_seq (jc_region (qh [0] (qe (jx_then (jc_seq (jc_seq (jc_region (qh [0] (qe (jx_then (jc_meet (fun (j : Int) => match j with | i_1 => spec_l02Moves.k_2 i_1 = some r) (fun (j : Int) => match j with | i_1 => [(4, [], (.int .i64 0)), (5, [], (.int .i64 i_1))]) (fun (j : Int) => match j with | i_1 => []) ?_ ?_))))))))))))))))
  ·refine jc_block ?_
   obtain ⟨t_6, ht_76, hr_68⟩ := bd h
   refine jc_loop (fun (s : Int × Int) (x : Unit) => match s, x with | ⟨i_3, i_4⟩, _ => True) (fun (s : Int × Int) (x : Unit) => match s, x with | ⟨i_3, i_4⟩, _ => [(0, [], (.pointer (some ⟨A_b, A_q, none⟩))), (1, [], (.pointer (some ⟨B_b, B_q, none⟩))), (4, [], (.int .i64 0)), (5, [], (.int .i64 i_3)), (6, [], (.int .i64 i_4))]) (fun (s : Int × Int) (x : Unit) => match s, x with | ⟨i_3, i_4⟩, _ => []) ht_76 () trivial (by kernel_rfl) [] (by kernel_rfl) (by kernel_rfl) ?_
   rintro ⟨i_3, i_4⟩ _ y_69 _ h
   rw [spec_l02Moves.l_5] at h
   refine jc_seq (jc_seq (jc_region (qh [0,0] (qe (jx_then (qi h (fun h => ?_) (fun h => ?_)))))))
   ·refine jc_skip (jx_then (jc_seq (jc_block (qg [] 15 (qd [⟨0, 0, 0⟩,⟨1, 0, 0⟩,⟨2, 0, 0⟩,⟨3, 0, 0⟩,⟨6, 0, 0⟩,⟨7, 0, 0⟩,⟨8, 0, 0⟩] 8 [] ?_)))))
    obtain ⟨x_7, hx_72, h⟩ := bd h
    refine qv 4 0 [] (fun w hm => idx_run (a := (some ⟨B_b, B_q, none⟩)) (len := 96) (s := 1) (j := i_4) (by kernel_rfl) (ix_some hx_72).1 (ltn hx_72 b1.2) (B_h.sp hx_72)) (qv 5 0 [] (fun w hm => ld_run (b := aB (some ⟨B_b, B_q, none⟩)) (off := (aO (some ⟨B_b, B_q, none⟩) + i_4.toNat * 1)) (s := 1) (agg := false) (vs := (encU32 x_7)) (by kernel_rfl) (by kernel_rfl) (.inr rfl) ((hm.xr B_h).at hx_72)) ?_)
    obtain ⟨x_8, hx_73, h⟩ := bd h
    refine qv 9 0 [] (fun w hm => idx_run (a := (some ⟨A_b, A_q, none⟩)) (len := 96) (s := 1) (j := i_4) (by kernel_rfl) (ix_some hx_73).1 (ltn hx_73 a0.2) (A_h.sp hx_73)) (qv 10 0 [] (fun w hm => ld_run (b := aB (some ⟨A_b, A_q, none⟩)) (off := (aO (some ⟨A_b, A_q, none⟩) + i_4.toNat * 1)) (s := 1) (agg := false) (vs := (encU32 x_8)) (by kernel_rfl) (by kernel_rfl) (.inr rfl) ((hm.xr A_h).at hx_73)) (qd [⟨11, 0, 0⟩] 3 [] ?_))
    obtain ⟨t_9, ht_74, h⟩ := bd h
    refine tD 12 (pc 0 (fun w hm => spec_l02Count.calls (bClr .u32 x_7 x_8) w _ ht_74) ?_)
    rintro w v w' hm ⟨rfl, hm'⟩
    refine ⟨_, hm.app hm', kD [] ?_⟩
    clear hm hm'
    exact qd [⟨13, 0, 0⟩,⟨14, 0, 0⟩] 0 [] (qz (jx_inn (jx_then (jc_region (qh [0,0,0] (qe (qb ((w64 (i_3 + t_9)), (w64 (i_4 + 1))) () h trivial [])))))))
   ·refine jc_exit (jx_thenx (jx_leave i_3 (Option.some.inj h).symm (fun e_75 => ?_)))
    subst e_75
    exact jx_ine (qm i_3 hr_68 [])
  ·rintro i_1 h
   replace h : spec_l02Moves.k_2 i_1 = some r := h
   rw [spec_l02Moves.k_2] at h
   refine jx_then (jc_seq (jc_region (qh [0,0] (qe (jx_then (jc_ret ?_))))))
   obtain rfl := Option.some.inj h
   exact qr [] (fun w hm => ⟨rfl, hm.pk []⟩)
/-! ### spec.l05Cost -/
def spec_l05Cost (a0 : Arr 96 Int) (b1 : Arr 96 Int) : Option (Int) := (spec_l02Moves a0 b1).bind fun t_1 => (spec_l02Moves b1 a0).bind fun t_2 => some (w64 (t_1 + t_2))
theorem spec_l05Cost.calls (a0 : Arr 96 Int) (b1 : Arr 96 Int) (w : World) (r : Int) {A_b A_q : Nat} (A_h : Rw w (some ⟨A_b, A_q, none⟩) 1 encU32 a0.1) {B_b B_q : Nat} (B_h : Rw w (some ⟨B_b, B_q, none⟩) 1 encU32 b1.1) (h : spec_l05Cost a0 b1 = some r) :
    Calls Tryz.prog 47 #[(.pointer (some ⟨A_b, A_q, none⟩)), (.pointer (some ⟨B_b, B_q, none⟩))] w fun e w' => ∃ v, e = .returned v ∧ (v = (.int .i64 r) ∧ Mem w [] [] w') := by
  rw [spec_l05Cost] at h
  refine enter (args := [(.pointer (some ⟨A_b, A_q, none⟩)), (.pointer (some ⟨B_b, B_q, none⟩))]) Tryz.func47 rfl Tryz.ntmps47 (by kernel_rfl) (L := []) (W := []) (Mem.start w) ?_
  refine jc_seq (jc_region (qh [0] (qe (jx_then (jc_seq (jc_region (qh [0,0] ?_)))))))
  obtain ⟨t_1, ht_1, h⟩ := bd h
  refine tO (pc 0 (fun w hm => spec_l02Moves.calls a0 b1 w _ (hm.xr A_h) (hm.xr B_h) ht_1) ?_)
  rintro w v w' hm ⟨rfl, hm'⟩
  refine ⟨_, hm.app hm', jkO ?_⟩
  clear hm hm'
  refine qh [0,0] ?_
  obtain ⟨t_2, ht_2, h⟩ := bd h
  refine tO (pc 0 (fun w hm => spec_l02Moves.calls b1 a0 w _ (hm.xr B_h) (hm.xr A_h) ht_2) ?_)
  rintro w v w' hm ⟨rfl, hm'⟩
  refine ⟨_, hm.app hm', jkO ?_⟩
  clear hm hm'
  refine qh [0,0] (qe (jx_then (jc_ret ?_)))
  obtain rfl := Option.some.inj h
  exact qr [] (fun w hm => ⟨rfl, hm.pk []⟩)
/-! ### spec.TurnedCost -/
def spec_TurnedCost.k_4 (i_2 : Int) (i_3 : Int) : Option (Int × Int × Int) := some (i_2, i_3, 0)
def spec_TurnedCost.k_11 (a1 : Arr 96 Int) (i_5 : Int) (i_6 : Int) (i_7 : Int) (a_10 : Arr 96 Int) : Option ((Int × Int × Int) ⊕ ((Int × Int))) := (spec_l05Cost a1 a_10).bind fun t_12 => (if ((decide (i_5 < 0)) || (decide (t_12 < i_5))) = true then some (.inl (t_12, i_7, (w64 (i_7 + 1)))) else some (.inl (i_5, i_6, (w64 (i_7 + 1)))))
def spec_TurnedCost.l_15 (f0 : GFrame) (b2 : Arr 96 Int) (i_7 : Int) : ((Arr 96 Int) × Int) → Option (((Arr 96 Int) × Int) ⊕ ((Arr 96 Int)))
  | (a_13, i_14) => (if (decide (i_14 < (w64 f0.fSteps))) = true then (ix b2.1 i_14).bind fun x_17 => (if (w64 f0.fSteps) ≠ 0 then (ix a_13.1 (Int.tmod (w64 (i_14 + i_7)) (w64 f0.fSteps))).bind fun x_18 => some (.inl ((Arr.set a_13 (Int.tmod (w64 (i_14 + i_7)) (w64 f0.fSteps)) x_17), (w64 (i_14 + 1)))) else none) else some (.inr a_13))
def spec_TurnedCost.l_8 (f0 : GFrame) (a1 : Arr 96 Int) (b2 : Arr 96 Int) : (Int × Int × Int) → Option ((Int × Int × Int) ⊕ ((Int × Int)))
  | (i_5, i_6, i_7) => (if (decide (i_7 < (w64 f0.fSteps))) = true then (loop (spec_TurnedCost.l_15 f0 b2 i_7) ((Arr.rep 96 0), 0)).bind fun t_16 => spec_TurnedCost.k_11 a1 i_5 i_6 i_7 t_16 else some (.inr (i_5, i_6)))
def spec_TurnedCost (f0 : GFrame) (a1 : Arr 96 Int) (b2 : Arr 96 Int) : Option (Int × Int × Int) := (spec_l05Both f0 a1 b2).bind fun t_1 => (if (t_1 != 0) = true then some (0, 0, t_1) else (loop (spec_TurnedCost.l_8 f0 a1 b2) ((-1), 0, 0)).bind fun t_9 => spec_TurnedCost.k_4 t_9.1 t_9.2)
theorem spec_TurnedCost.calls (f0 : GFrame) (a1 : Arr 96 Int) (b2 : Arr 96 Int) (w : World) (r : Int × Int × Int) {C_a : Option Addr} {C_an : Nat} (C_c : Nat) (C_h : Rw w C_a 2 encGHammer f0.fHammers) (C_hn : f0.fHammers.length = C_an) (h : spec_TurnedCost f0 a1 b2 = some r) :
    Calls Tryz.prog 19 #[(.agg #[(.int .i16 f0.fSteps), (.slice C_a C_an C_c)]), (.agg (row encU32 a1.1 []).toArray), (.agg (row encU32 b2.1 []).toArray)] w fun e w' => ∃ v, e = .returned v ∧ (v = .tuple #[(.int .i64 r.1), (.int .i64 r.2.1), (.int .i64 r.2.2)] ∧ Mem w [] [] w') := by
  subst C_hn
  rw [spec_TurnedCost] at h
  refine enter (args := [(.agg #[(.int .i16 f0.fSteps), (.slice C_a f0.fHammers.length C_c)]), (.agg (row encU32 a1.1 []).toArray), (.agg (row encU32 b2.1 []).toArray)]) Tryz.func19 rfl Tryz.ntmps19 (by kernel_rfl) (L := []) (W := []) (Mem.start w) ?_
  refine jc_seq (jc_region (tO (qa 0 (fun b_1 => jkO (tO (qa 0 (fun b_2 => jkO (tO (qa 0 (fun b_3 => jkO (qh [0,0,0] (qe (jx_then (jc_seq (jc_seq (jc_region ?_))))))))))))))))
  obtain ⟨t_1, ht_6, h⟩ := bd h
  refine tO (pc 0 (fun w hm => spec_l05Both.calls f0 a1 b2 w _ C_c (hm.xr C_h) rfl (hm.ow 1 (some b_2) 31 a1.1 [] (fun e => nomatch e) encU32_len) (hm.ow 2 (some b_3) 31 b2.1 [] (fun e => nomatch e) encU32_len) b_1 (hm.pass (N := [⟨some b_1, 27, [(.int .i16 f0.fSteps), (.slice C_a f0.fHammers.length C_c)]⟩]) [0] (by kernel_rfl) (by kernel_rfl)) (hm.exApart (N := [⟨some b_1, 27, [(.int .i16 f0.fSteps), (.slice C_a f0.fHammers.length C_c)]⟩]) C_h (fun _ => List.not_mem_nil) [0] (by kernel_rfl)) (hm.ownApart (S := Int) (N := [⟨some b_1, 27, [(.int .i16 f0.fSteps), (.slice C_a f0.fHammers.length C_c)]⟩]) (hh := 1) (o := (some b_2)) (T := 31) (cs := row encU32 a1.1 []) (xs := a1.1) (by kernel_rfl) (fun e => nomatch e) [0] (by kernel_rfl) (by kernel_rfl)) (hm.ownApart (S := Int) (N := [⟨some b_1, 27, [(.int .i16 f0.fSteps), (.slice C_a f0.fHammers.length C_c)]⟩]) (hh := 2) (o := (some b_3)) (T := 31) (cs := row encU32 b2.1 []) (xs := b2.1) (by kernel_rfl) (fun e => nomatch e) [0] (by kernel_rfl) (by kernel_rfl)) ht_6) ?_)
  rintro w v w' hm ⟨rfl, hm'⟩
  refine ⟨_, hm.appW (ps := [(0, ⟨some b_1, 27, [(.int .i16 f0.fSteps), (.slice C_a f0.fHammers.length C_c)]⟩)]) (N := []) hm' (by kernel_rfl) (by kernel_rfl), jkO ?_⟩
  clear hm hm'
  refine qh [0] (qe (jx_then (jc_seq (jc_region (qh [0,0] (qe (jx_then (qi h (fun h => ?_) (fun h => ?_)))))))))
  ·refine jc_seq (jc_region (qh [0,0,0,0] (qe (jx_then (jc_ret (jx_thenr ?_))))))
   obtain rfl := Option.some.inj h
   exact qr [] (fun w hm => ⟨rfl, hm.pk []⟩)
  ·refine jc_skip (jx_then (jc_seq (jc_region (qh [0] (qe (jx_then (jc_seq (jc_region (qh [0] (qe (jx_then (jc_seq (jc_region (qh [0,0,0,0] (qe (jx_then (jc_seq (jc_seq (jc_region (qh [0] (qe (jx_then (jc_meet (fun (j : Int × Int) => match j with | ⟨i_2, i_3⟩ => spec_TurnedCost.k_4 i_2 i_3 = some r) (fun (j : Int × Int) => match j with | ⟨i_2, i_3⟩ => [(6, [], (.int .i64 0)), (7, [], (.int .i64 0)), (8, [], (.int .i64 0)), (10, [], (.int .i64 i_2)), (11, [], (.int .i64 i_3))]) (fun (j : Int × Int) => match j with | ⟨i_2, i_3⟩ => [⟨some b_1, 27, [(.int .i16 f0.fSteps), (.slice C_a f0.fHammers.length C_c)]⟩, ⟨(some b_2), 31, row encU32 a1.1 []⟩, ⟨(some b_3), 31, row encU32 b2.1 []⟩]) ?_ ?_)))))))))))))))))))))))
   ·refine jc_block ?_
    obtain ⟨t_9, ht_1895, hr_1775⟩ := bd h
    refine jc_loop (fun (s : Int × Int × Int) (x : Unit) => match s, x with | ⟨i_5, i_6, i_7⟩, _ => True) (fun (s : Int × Int × Int) (x : Unit) => match s, x with | ⟨i_5, i_6, i_7⟩, _ => [(4, [], (.pointer (some ⟨b_2, 0, none⟩))), (5, [], (.pointer (some ⟨b_3, 0, none⟩))), (6, [], (.int .i64 0)), (7, [], (.int .i64 0)), (8, [], (.int .i64 0)), (10, [], (.int .i64 i_5)), (11, [], (.int .i64 i_6)), (12, [], (.int .i64 (w64 f0.fSteps))), (13, [], (.int .i64 i_7))]) (fun (s : Int × Int × Int) (x : Unit) => match s, x with | ⟨i_5, i_6, i_7⟩, _ => [⟨some b_1, 27, [(.int .i16 f0.fSteps), (.slice C_a f0.fHammers.length C_c)]⟩, ⟨(some b_2), 31, row encU32 a1.1 []⟩, ⟨(some b_3), 31, row encU32 b2.1 []⟩]) ht_1895 () trivial (by kernel_rfl) [0, 1, 2] (by kernel_rfl) (by kernel_rfl) ?_
    rintro ⟨i_5, i_6, i_7⟩ _ y_1776 _ h
    rw [spec_TurnedCost.l_8] at h
    refine jc_seq (jc_seq (jc_region (qh [0,0,0] (qe (jx_then (qi h (fun h => ?_) (fun h => ?_)))))))
    ·refine jc_skip (jx_then (jc_seq (jc_block (jc_seq (jc_region (qh [0] (tO (qa 0 (fun b_1779 => jkO (tO (p_sA 0 3 b_1779 96 1 31 encU32 (Arr.rep 96 0) (Arr.rep 96 0) (by kernel_rfl) (by kernel_rfl) (by kernel_rfl) encU32_len encU32_cell (by kernel_rfl) (jkO (qe (jx_then (jc_seq (jc_seq (jc_region (qh [0] (qe (jx_then (jc_meet (fun (j : (Arr 96 Int)) => match j with | a_10 => spec_TurnedCost.k_11 a1 i_5 i_6 i_7 a_10 = some y_1776) (fun (j : (Arr 96 Int)) => match j with | a_10 => [(4, [], (.pointer (some ⟨b_2, 0, none⟩))), (5, [], (.pointer (some ⟨b_3, 0, none⟩))), (6, [], (.int .i64 0)), (7, [], (.int .i64 0)), (8, [], (.int .i64 0)), (10, [], (.int .i64 i_5)), (11, [], (.int .i64 i_6)), (12, [], (.int .i64 (w64 f0.fSteps))), (13, [], (.int .i64 i_7)), (14, [], (.pointer (some ⟨b_1779, 0, none⟩)))]) (fun (j : (Arr 96 Int)) => match j with | a_10 => [⟨some b_1, 27, [(.int .i16 f0.fSteps), (.slice C_a f0.fHammers.length C_c)]⟩, ⟨(some b_2), 31, row encU32 a1.1 []⟩, ⟨(some b_3), 31, row encU32 b2.1 []⟩, ⟨(some b_1779), 31, row encU32 a_10.1 []⟩]) ?_ ?_)))))))))))))))))))))
     ·refine jc_block ?_
      obtain ⟨t_16, ht_1893, hr_1882⟩ := bd h
      refine jc_loop (fun (s : (Arr 96 Int) × Int) (x : Unit) => match s, x with | ⟨a_13, i_14⟩, _ => True) (fun (s : (Arr 96 Int) × Int) (x : Unit) => match s, x with | ⟨a_13, i_14⟩, _ => [(4, [], (.pointer (some ⟨b_2, 0, none⟩))), (5, [], (.pointer (some ⟨b_3, 0, none⟩))), (6, [], (.int .i64 0)), (7, [], (.int .i64 0)), (8, [], (.int .i64 0)), (10, [], (.int .i64 i_5)), (11, [], (.int .i64 i_6)), (12, [], (.int .i64 (w64 f0.fSteps))), (13, [], (.int .i64 i_7)), (14, [], (.pointer (some ⟨b_1779, 0, none⟩))), (15, [], (.int .i64 i_14))]) (fun (s : (Arr 96 Int) × Int) (x : Unit) => match s, x with | ⟨a_13, i_14⟩, _ => [⟨some b_1, 27, [(.int .i16 f0.fSteps), (.slice C_a f0.fHammers.length C_c)]⟩, ⟨(some b_2), 31, row encU32 a1.1 []⟩, ⟨(some b_3), 31, row encU32 b2.1 []⟩, ⟨(some b_1779), 31, row encU32 a_13.1 []⟩]) ht_1893 () trivial (by kernel_rfl) [0, 1, 2, 3] (by kernel_rfl) (by kernel_rfl) ?_
      rintro ⟨a_13, i_14⟩ _ y_1883 _ h
      rw [spec_TurnedCost.l_15] at h
      refine jc_seq (jc_seq (jc_region (qh [0,0,0] (qe (jx_then (qi h (fun h => ?_) (fun h => ?_)))))))
      ·refine jc_skip (jx_then (jc_seq (jc_block (qg [⟨some b_1, 27, [(.int .i16 f0.fSteps), (.slice C_a f0.fHammers.length C_c)]⟩, ⟨(some b_2), 31, row encU32 a1.1 []⟩, ⟨(some b_3), 31, row encU32 b2.1 []⟩] 10 (qd [⟨0, 0, 0⟩,⟨1, 0, 0⟩,⟨2, 0, 0⟩,⟨3, 0, 0⟩,⟨5, 0, 0⟩] 5 [0, 1, 2] ?_)))))
       obtain ⟨x_17, hx_1889, h⟩ := bd h
       refine qv 6 0 [0, 1, 2] (fun w hm => idx_run (a := (some ⟨b_3, 0, none⟩)) (len := 96) (s := 1) (j := i_14) (by kernel_rfl) (ix_some hx_1889).1 (ltn hx_1889 b2.2) rfl) (qv 7 0 [0, 1, 2] (fun w hm => ld_run (b := aB (some ⟨b_3, 0, none⟩)) (off := (aO (some ⟨b_3, 0, none⟩) + i_14.toNat * 1)) (s := 1) (agg := false) (vs := (encU32 x_17)) (by kernel_rfl) (by kernel_rfl) (.inr rfl) ((hm.ow 2 (some b_3) 31 b2.1 [] (fun e => nomatch e) encU32_len).at hx_1889)) ?_)
       obtain ⟨hg_1890, h⟩ := gd h
       refine tD 4 (p_rem 0 .i64 (w64 (i_14 + i_7)) (w64 f0.fSteps) (by kernel_rfl) (by kernel_rfl) hg_1890 (kD [0, 1, 2] ?_))
       obtain ⟨x_18, hx_1891, h⟩ := bd h
       exact qv 8 0 [0, 1, 2] (fun w hm => idx_run (a := (some ⟨b_1779, 0, none⟩)) (len := 96) (s := 1) (j := (Int.tmod (w64 (i_14 + i_7)) (w64 f0.fSteps))) (by kernel_rfl) (ix_some hx_1891).1 (ltn hx_1891 a_13.2) rfl) (tD 9 (p_str 0 3 b_1779 31 encU32 a_13.1 [] (Int.tmod (w64 (i_14 + i_7)) (w64 f0.fSteps)) x_17 1 0 [(.int .u32 x_17)] (by kernel_rfl) (by kernel_rfl) (by kernel_rfl) encU32_len hx_1891 (by kernel_rfl) (by kernel_rfl) (kD [0, 1, 2] (qz (jx_inn (jx_then (jc_region (qh [0,0,0] (qe (qb ((Arr.set a_13 (Int.tmod (w64 (i_14 + i_7)) (w64 f0.fSteps)) x_17), (w64 (i_14 + 1))) () h trivial [0, 1, 2, 3]))))))))))
      ·refine jc_exit (jx_thenx (jx_leave a_13 (Option.some.inj h).symm (fun e_1892 => ?_)))
       subst e_1892
       exact jx_ine (qm a_13 hr_1882 [0, 1, 2, 3])
     ·rintro a_10 h
      replace h : spec_TurnedCost.k_11 a1 i_5 i_6 i_7 a_10 = some y_1776 := h
      rw [spec_TurnedCost.k_11] at h
      refine jx_then (jc_seq (jc_region ?_))
      obtain ⟨t_12, ht_1864, h⟩ := bd h
      refine tO (pc 0 (fun w hm => spec_l05Cost.calls a1 a_10 w _ (hm.ow 1 (some b_2) 31 a1.1 [] (fun e => nomatch e) encU32_len) (hm.ow 3 (some b_1779) 31 a_10.1 [] (fun e => nomatch e) encU32_len) ht_1864) ?_)
      rintro w v w' hm ⟨rfl, hm'⟩
      refine ⟨_, hm.app hm', jkO ?_⟩
      clear hm hm'
      refine qh [0] (qe (jx_then (jc_seq (jc_region (qf [(0, 0), (0, 0), (0, 0), (0, 1), (0, 1), (0, 1), (0, 0)] (qe (jx_then (qi h (fun h => ?_) (fun h => ?_)))))))))
      ·exact jc_seq (jc_region (qh [0,0] (qe (jx_then (jc_region (qh [0,0] (qe (jx_inn (jx_then (jc_region (qh [0,0,0] (qe (qb (t_12, i_7, (w64 (i_7 + 1))) () h trivial [0, 1, 2])))))))))))))
      ·exact jc_skip (jx_inn (jx_then (jc_region (qh [0,0,0] (qe (qb (i_5, i_6, (w64 (i_7 + 1))) () h trivial [0, 1, 2]))))))
    ·refine jc_exit (jx_thenx (jx_leave (i_5, i_6) (Option.some.inj h).symm (fun e_1894 => ?_)))
     subst e_1894
     exact jx_ine (qm ⟨i_5, i_6⟩ hr_1775 [0, 1, 2])
   ·rintro ⟨i_2, i_3⟩ h
    replace h : spec_TurnedCost.k_4 i_2 i_3 = some r := h
    rw [spec_TurnedCost.k_4] at h
    refine jx_then (jc_seq (jc_region (qh [0,0,0,0,0] (qe (jx_then (jc_ret ?_))))))
    obtain rfl := Option.some.inj h
    exact qr [] (fun w hm => ⟨rfl, hm.pk []⟩)
/-! ### impl.TurnDrum -/
def impl_TurnDrum (f0 : GFrame) (d1 : Arr 96 Int) (by2 : Int) : Option ((Arr 96 Int) × Int) := (impl_placeCode f0 d1 by2 0).bind fun t_1 => (if (t_1 != 0) = true then some ((Arr.rep 96 0), t_1) else (impl_Frame_turned f0 d1 by2).bind fun t_2 => some (t_2, 0))
theorem impl_TurnDrum.calls (f0 : GFrame) (d1 : Arr 96 Int) (by2 : Int) (w : World) (r : (Arr 96 Int) × Int) {C_a : Option Addr} {C_an : Nat} (C_c : Nat) (C_h : Rw w C_a 2 encGHammer f0.fHammers) (C_hn : f0.fHammers.length = C_an) (h : impl_TurnDrum f0 d1 by2 = some r) :
    Calls Tryz.prog 20 #[(.agg #[(.int .i16 f0.fSteps), (.slice C_a C_an C_c)]), (.agg (row encU32 d1.1 []).toArray), (.int .i64 by2)] w fun e w' => ∃ v, e = .returned v ∧ (v = .tuple #[(.agg (row encU32 r.1.1 []).toArray), (.int .i64 r.2)] ∧ Mem w [] [] w') := by
  subst C_hn
  rw [impl_TurnDrum] at h
  refine enter (args := [(.agg #[(.int .i16 f0.fSteps), (.slice C_a f0.fHammers.length C_c)]), (.agg (row encU32 d1.1 []).toArray), (.int .i64 by2)]) Tryz.func20 rfl Tryz.ntmps20 (by kernel_rfl) (L := []) (W := []) (Mem.start w) ?_
  refine jc_seq (jc_region (tO (qa 0 (fun b_1 => jkO (tO (qa 0 (fun b_2 => jkO (tO (qa 0 (fun b_3 => jkO (qh [0] (qe (jx_then (jc_seq (jc_seq (jc_region (qh [0] (tO (p_ldA 0 1 b_2 96 1 31 encU32 d1 (by kernel_rfl) (by kernel_rfl) (by kernel_rfl) encU32_len (by kernel_rfl) (jkO (qh [0] ?_)))))))))))))))))))))
  obtain ⟨t_1, ht_6, h⟩ := bd h
  refine tO (pc 0 (fun w hm => impl_placeCode.calls f0 d1 by2 0 w _ C_c (hm.xr C_h) rfl ht_6) ?_)
  rintro w v w' hm ⟨rfl, hm'⟩
  refine ⟨_, hm.app hm', jkO ?_⟩
  clear hm hm'
  refine qh [0] (qe (jx_then (jc_seq (jc_region (qh [0,0] (qe (jx_then (qi h (fun h => ?_) (fun h => ?_)))))))))
  ·refine jc_seq (jc_region (qh [0,0] (tO (p_sA 0 2 b_3 96 1 31 encU32 (Arr.rep 96 0) (Arr.rep 96 0) (by kernel_rfl) (by kernel_rfl) (by kernel_rfl) encU32_len encU32_cell (by kernel_rfl) (jkO (qh [0] (qe (jx_then (jc_ret (jx_thenr ?_))))))))))
   obtain rfl := Option.some.inj h
   exact jx_retV rfl (rq_arr (b := b_3) (T' := 31) (hh := 2) (mm := 1) encU32 (Arr.rep 96 0) (by kernel_rfl) (by kernel_rfl) encU32_len (by kernel_rfl) (rq_tmp (by kernel_rfl) rq_nil)) (fun w hm => ⟨rfl, hm.pk []⟩)
  ·refine jc_skip (jx_then (jc_seq (jc_region (qh [0] (tO (p_ldA 0 1 b_2 96 1 31 encU32 d1 (by kernel_rfl) (by kernel_rfl) (by kernel_rfl) encU32_len (by kernel_rfl) (jkO (qh [0] ?_))))))))
   obtain ⟨t_2, ht_8, h⟩ := bd h
   refine tO (pc 0 (fun w hm => impl_Frame_turned.calls f0 d1 by2 w _ C_c (hm.xr C_h) rfl ht_8) ?_)
   rintro w v w' hm ⟨rfl, hm'⟩
   refine ⟨_, hm.app hm', jkO ?_⟩
   clear hm hm'
   refine tO (p_sA 0 2 b_3 96 1 31 encU32 (Arr.rep 96 0) t_2 (by kernel_rfl) (by kernel_rfl) (by kernel_rfl) encU32_len encU32_cell (by kernel_rfl) (jkO (qh [0] (qe (jx_then (jc_ret ?_))))))
   obtain rfl := Option.some.inj h
   exact jx_retV rfl (rq_arr (b := b_3) (T' := 31) (hh := 2) (mm := 1) encU32 t_2 (by kernel_rfl) (by kernel_rfl) encU32_len (by kernel_rfl) (rq_tmp (by kernel_rfl) rq_nil)) (fun w hm => ⟨rfl, hm.pk []⟩)
/-! ### laws.a2At -/
def laws_a2At (code0 : List Int) (at1 : Int) (n2 : Int) : Option (Int) := (if ((decide (at1 ≥ (code0.length : Int))) || (decide (n2 < 1))) = true then some 0 else (ix code0 at1).bind fun x_1 => (if n2 ≠ 0 then some (Int.tmod (w64 x_1) n2) else none))
theorem laws_a2At.calls (code0 : List Int) (at1 : Int) (n2 : Int) (w : World) (r : Int) {A_a : Option Addr} {A_an : Nat} (A_c : Nat) (A_h : Rw w A_a 1 encU8 code0) (A_hn : code0.length = A_an) (h : laws_a2At code0 at1 n2 = some r) :
    Calls Tryz.prog 21 #[(.slice A_a A_an A_c), (.int .i64 at1), (.int .i64 n2)] w fun e w' => ∃ v, e = .returned v ∧ (v = (.int .i64 r) ∧ Mem w [] [] w') := by
  subst A_hn
  rw [laws_a2At] at h
  refine enter (args := [(.slice A_a code0.length A_c), (.int .i64 at1), (.int .i64 n2)]) Tryz.func21 rfl Tryz.ntmps21 (by kernel_rfl) (L := []) (W := []) (Mem.start w) ?_
  refine jc_seq (jc_region (qh [0] (qe (jx_then (jc_seq (jc_seq (jc_region (qf [(0, 0), (0, 0), (0, 0), (0, 0), (0, 0), (0, 1), (0, 1), (0, 0)] (qe (jx_then (qi h (fun h => ?_) (fun h => ?_))))))))))))
  ·refine jc_seq (jc_region (qh [0] (qe (jx_then (jc_ret (jx_thenr ?_))))))
   obtain rfl := Option.some.inj h
   exact qr [] (fun w hm => ⟨rfl, hm.pk []⟩)
  ·refine jc_skip (jx_then (jc_seq (jc_region (qh [0,0] ?_))))
   obtain ⟨x_1, hx_3, h⟩ := bd h
   refine tO (qx 0 A_a 1 hx_3 rfl (A_h.sp hx_3) (jkO (tO (ql 0 false (fun w hm => ((hm.xr A_h).at hx_3)) (jkO (qh [0,0] ?_))))))
   obtain ⟨hg_4, h⟩ := gd h
   refine tO (p_rem 0 .i64 (w64 x_1) n2 (by kernel_rfl) (by kernel_rfl) hg_4 (jkO (qh [0] (qe (jx_then (jc_ret ?_))))))
   obtain rfl := Option.some.inj h
   exact qr [] (fun w hm => ⟨rfl, hm.pk []⟩)
/-! ### laws.FnChanged -/
def laws_FnChanged.k_28 (t_2 : GFrame) (t_3 : (Arr 96 Int)) (a_4 : Arr 96 Int) (t_14 : Int × Int) (t_24 : Int) (t_25 : Int × Int) (t_26 : (Arr 96 Int) × Int) (a_27 : Arr 96 Int) : Option (Bool) := (impl_ChangeCost t_2 t_3 a_27).bind fun t_29 => (impl_ChangeCost t_2 a_27 a_4).bind fun t_30 => some ((((((t_25.2 == 0) && (t_25.1 == (w64 (t_24 + 1)))) && (t_26.2 == 4)) && (t_29.2 == 0)) && (t_30.2 == 0)) && (decide ((w64 (t_29.1 + t_30.1)) ≥ t_14.1)))
def laws_FnChanged.k_19 (more1 : List Int) (t_2 : GFrame) (t_3 : (Arr 96 Int)) (a_4 : Arr 96 Int) (t_7 : (List GChange) × Int) (t_14 : Int × Int) (q_18 : Bool) : Option (Bool) := (if q_18 = true then some false else (impl_TurnedCost t_2 t_3 a_4).bind fun t_20 => (spec_TurnedCost t_2 t_3 a_4).bind fun t_21 => (impl_TurnDrum t_2 a_4 t_21.2.1).bind fun t_22 => (impl_ChangeCost t_2 t_3 t_22.1).bind fun t_23 => (if ((((((((t_20.2.2 != t_21.2.2) || (t_20.2.2 != 0)) || (t_20.1 != t_21.1)) || (t_20.2.1 != t_21.2.1)) || (decide (t_21.1 > t_14.1))) || (t_22.2 != 0)) || (t_23.2 != 0)) || (t_23.1 != t_21.1)) = true then some false else (if ((t_7.1.length : Int) == 0) = true then some true else (laws_a2At more1 0 (t_7.1.length : Int)).bind fun t_24 => (if 0 ≤ (w64 (t_24 + 1)) ∧ (w64 (t_24 + 1)) ≤ (t_7.1.length : Int) then (if 0 ≤ t_24 ∧ t_24 ≤ (t_7.1.length : Int) then (if ([] : List GChange).length + (t_7.1.take (w64 (t_24 + 1)).toNat).length ≤ 4294967296 then (if (([] : List GChange) ++ (t_7.1.take (w64 (t_24 + 1)).toNat)).length + (t_7.1.drop t_24.toNat).length ≤ 4294967296 then (impl_FirstBadChange t_2 t_3 ((([] : List GChange) ++ (t_7.1.take (w64 (t_24 + 1)).toNat)) ++ (t_7.1.drop t_24.toNat))).bind fun t_25 => (impl_MakeChanges t_2 t_3 ((([] : List GChange) ++ (t_7.1.take (w64 (t_24 + 1)).toNat)) ++ (t_7.1.drop t_24.toNat))).bind fun t_26 => (if ([5] : List Int).length + more1.length ≤ 4294967296 then (spec_A2Drum (([5] : List Int) ++ more1) t_2).bind fun t_31 => laws_FnChanged.k_28 t_2 t_3 a_4 t_14 t_24 t_25 t_26 t_31 else none) else none) else none) else none) else none))))
def laws_FnChanged.k_5 (more1 : List Int) (t_2 : GFrame) (t_3 : (Arr 96 Int)) (a_4 : Arr 96 Int) : Option (Bool) := (impl_ChangesBetween t_2 t_3 a_4).bind fun t_6 => (spec_ChangesBetween t_2 t_3 a_4).bind fun t_7 => (impl_ChangesText t_7.1).bind fun t_8 => (impl_ReadChanges t_8).bind fun t_9 => (impl_MakeChanges t_2 t_3 t_7.1).bind fun t_10 => (impl_UndoChanges t_7.1).bind fun t_11 => (spec_UndoChanges t_7.1).bind fun t_12 => (impl_MakeChanges t_2 a_4 t_12.1).bind fun t_13 => (impl_ChangeCost t_2 t_3 a_4).bind fun t_14 => (impl_ChangeCost t_2 a_4 t_3).bind fun t_15 => (impl_PinsToMove t_2 t_3 a_4).bind fun t_16 => (impl_FirstBadChange t_2 t_3 t_7.1).bind fun t_17 => (if ((t_6.2 != t_7.2) || (t_6.2 != 0)) = true then laws_FnChanged.k_19 more1 t_2 t_3 a_4 t_7 t_14 true else (spec_A2SameChanges t_6.1 t_7.1).bind fun t_32 => (if ((!t_32) || (t_9.2 != 0)) = true then laws_FnChanged.k_19 more1 t_2 t_3 a_4 t_7 t_14 true else (spec_A2SameChanges t_9.1 t_7.1).bind fun t_33 => (if ((!t_33) || (t_10.2 != 0)) = true then laws_FnChanged.k_19 more1 t_2 t_3 a_4 t_7 t_14 true else (if (((!(t_10.1.1 == a_4.1)) || (t_11.2 != t_12.2)) || (t_11.2 != 0)) = true then laws_FnChanged.k_19 more1 t_2 t_3 a_4 t_7 t_14 true else (spec_A2SameChanges t_11.1 t_12.1).bind fun t_34 => (if ((!t_34) || (t_13.2 != 0)) = true then laws_FnChanged.k_19 more1 t_2 t_3 a_4 t_7 t_14 true else (if ((((((((!(t_13.1.1 == t_3.1)) || (t_14.2 != 0)) || (t_15.2 != 0)) || (t_14.1 != (t_7.1.length : Int))) || (t_15.1 != t_14.1)) || (t_16.2.2 != 0)) || ((w64 (t_16.1 + t_16.2.1)) != t_14.1)) || (t_17.2 != 6)) = true then laws_FnChanged.k_19 more1 t_2 t_3 a_4 t_7 t_14 true else laws_FnChanged.k_19 more1 t_2 t_3 a_4 t_7 t_14 ((t_14.1 == 0) != (t_3.1 == a_4.1))))))))
def laws_FnChanged (code0 : List Int) (more1 : List Int) : Option (Bool) := (laws_a2Long code0 more1).bind fun t_1 => (if t_1 = true then some true else (spec_A2Frame code0).bind fun t_2 => (spec_A2Drum more1 t_2).bind fun t_3 => (if ([3] : List Int).length + more1.length ≤ 4294967296 then (spec_A2Drum (([3] : List Int) ++ more1) t_2).bind fun t_35 => laws_FnChanged.k_5 more1 t_2 t_3 t_35 else none))
set_option maxHeartbeats 8000000 in
theorem laws_FnChanged.calls (code0 : List Int) (more1 : List Int) (w : World) (r : Bool) (g_er : Gler w) (g_lo : Gllo w) (g_ml : Glml w) (g_pw : Glpw w) {A_a : Option Addr} {A_an : Nat} (A_c : Nat) (A_h : Rw w A_a 1 encU8 code0) (A_hn : code0.length = A_an) {B_a : Option Addr} {B_an : Nat} (B_c : Nat) (B_h : Rw w B_a 1 encU8 more1) (B_hn : more1.length = B_an) (h : laws_FnChanged code0 more1 = some r) :
    Calls Tryz.prog 3 #[(.slice A_a A_an A_c), (.slice B_a B_an B_c)] w fun e w' => ∃ v, e = .returned v ∧ (v = (.bool r) ∧ Mem w [] [] w') := by
  subst A_hn B_hn
  rw [laws_FnChanged] at h
  refine enter (args := [(.slice A_a code0.length A_c), (.slice B_a more1.length B_c)]) Tryz.func3 rfl Tryz.ntmps3 (by kernel_rfl) (L := []) (W := []) (Mem.start w) ?_
  refine jc_seq (jc_region (qh [0] (qe (jx_then (jc_seq (jc_seq (jc_region (qh [0,0] ?_))))))))
  obtain ⟨t_1, ht_3, h⟩ := bd h
  refine tO (pc 0 (fun w hm => laws_a2Long.calls code0 more1 w _ A_c (hm.xr A_h) rfl B_c (hm.xr B_h) rfl ht_3) ?_)
  rintro w v w' hm ⟨rfl, hm'⟩
  refine ⟨_, hm.app hm', jkO ?_⟩
  clear hm hm'
  refine qe (jx_then (qi h (fun h => ?_) (fun h => ?_)))
  ·refine jc_seq (jc_region (qh [0] (qe (jx_then (jc_ret (jx_thenr ?_))))))
   obtain rfl := Option.some.inj h
   exact qr [] (fun w hm => ⟨rfl, hm.pk []⟩)
  ·refine jc_skip (jx_then (jc_seq (jc_region (qh [0] ?_))))
   obtain ⟨t_2, ht_5, h⟩ := bd h
   refine tO (pc 0 (fun w hm => spec_A2Frame.calls code0 w _ A_c (hm.xr A_h) rfl ht_5) ?_)
   rintro w v w' hm ⟨o_6, cap_7, sp_8, _, rfl, hs_9, ho_10, rfl, hm'⟩
   refine ⟨_, hm.app hm', jkO ?_⟩
   clear hm hm'
   refine tO (qa 0 (fun b_11 => jkO (tO (qs 0 [1] (jkO (qe (jx_then (jc_seq (jc_region (qh [0,1] ?_))))))))))
   obtain ⟨t_3, ht_12, h⟩ := bd h
   refine tO (pc 0 (fun w hm => spec_A2Drum.calls more1 t_2 w _ B_c (hm.xr B_h) rfl cap_7 (hm.ow 0 o_6 92 t_2.fHammers sp_8 (fun e => (ho_10 e).1) encGHammer_len) rfl ht_12) ?_)
   rintro w v w' hm ⟨rfl, hm'⟩
   refine ⟨_, hm.app hm', jkO ?_⟩
   clear hm hm'
   refine tO (qa 0 (fun b_13 => jkO (tO (p_sA 0 2 b_13 96 1 31 encU32 (Arr.rep 96 0) t_3 (by kernel_rfl) (by kernel_rfl) (by kernel_rfl) encU32_len encU32_cell (by kernel_rfl) (jkO (qe (jx_then (jc_seq (jc_meet (fun (j : (Arr 96 Int) × Nat) => match j with | ⟨a_4, b_42⟩ => laws_FnChanged.k_5 more1 t_2 t_3 a_4 = some r) (fun (j : (Arr 96 Int) × Nat) => match j with | ⟨a_4, b_42⟩ => [(1, [], (.slice B_a more1.length B_c)), (4, [], (.bool false)), (5, [], (.pointer (some ⟨b_11, 0, none⟩))), (6, [], (.pointer (some ⟨b_13, 0, none⟩))), (7, [], (.pointer (some ⟨b_42, 0, none⟩)))]) (fun (j : (Arr 96 Int) × Nat) => match j with | ⟨a_4, b_42⟩ => [⟨o_6, 92, row encGHammer t_2.fHammers sp_8⟩, ⟨some b_11, 27, [(.int .i16 t_2.fSteps), (.slice (o_6.map fun b => ⟨b, 0, none⟩) t_2.fHammers.length cap_7)]⟩, ⟨(some b_13), 31, row encU32 t_3.1 []⟩, ⟨(some b_42), 31, row encU32 a_4.1 []⟩]) ?_ ?_)))))))))
   ·refine qg [⟨o_6, 92, row encGHammer t_2.fHammers sp_8⟩, ⟨some b_11, 27, [(.int .i16 t_2.fSteps), (.slice (o_6.map fun b => ⟨b, 0, none⟩) t_2.fHammers.length cap_7)]⟩, ⟨(some b_13), 31, row encU32 t_3.1 []⟩] 7 (qd [⟨1, 0, 0⟩,⟨3, 1, 0⟩] 5 [0, 1, 2] (toD2 0 5 (by kernel_rfl) ?_ ?_))
    ·refine qa 0 (fun b_207 => kD [0, 1, 2] (toD2 2 5 (by kernel_rfl) ?_ ?_))
     ·obtain ⟨hg_208, h⟩ := gd h
      refine p_apn 0 3 (some b_207) 5 1 more1.length 1 1 1 B_a encU8 ([3] : List Int) more1 [] (.int .u8 0) rfl rfl (by kernel_rfl) (by kernel_rfl) (by kernel_rfl) encU8_len encU8_cell (fun _ => ⟨Nat.le_refl _, by simp⟩) (fun e => nomatch e) (fun w hm => (hm.xr B_h)) hg_208 (by kernel_rfl) (by kernel_rfl) (fun o_209 cap_210 sp_211 hs_212 ho_213 => kD [0, 1, 2] (toD2 4 5 (by kernel_rfl) ?_ ?_))
      ·obtain ⟨t_35, ht_214, h⟩ := bd h
       refine pc 0 (fun w hm => spec_A2Drum.calls (([3] : List Int) ++ more1) t_2 w _ cap_210 (hm.ow 3 o_209 5 (([3] : List Int) ++ more1) sp_211 (fun e => (ho_213 e).1) encU8_len) rfl cap_7 (hm.ow 0 o_6 92 t_2.fHammers sp_8 (fun e => (ho_10 e).1) encGHammer_len) rfl ht_214) ?_
       rintro w v w' hm ⟨rfl, hm'⟩
       refine ⟨_, hm.app hm', kD [0, 1, 2] ?_⟩
       clear hm hm'
       exact tD 5 (qa 0 (fun b_215 => kD [0, 1, 2] (tD 6 (p_sA 0 4 b_215 96 1 31 encU32 (Arr.rep 96 0) t_35 (by kernel_rfl) (by kernel_rfl) (by kernel_rfl) encU32_len encU32_cell (by kernel_rfl) (kD [0, 1, 2] (qz (qm ⟨t_35, b_215⟩ h [0, 1, 2, 4])))))))
      ·refine qa 0 (fun b_216 => kD [0, 1, 2] ?_)
       obtain ⟨t_35, ht_217, h⟩ := bd h
       refine tD 4 (pc 0 (fun w hm => spec_A2Drum.calls (([3] : List Int) ++ more1) t_2 w _ cap_210 (hm.ow 3 o_209 5 (([3] : List Int) ++ more1) sp_211 (fun e => (ho_213 e).1) encU8_len) rfl cap_7 (hm.ow 0 o_6 92 t_2.fHammers sp_8 (fun e => (ho_10 e).1) encGHammer_len) rfl ht_217) ?_)
       rintro w v w' hm ⟨rfl, hm'⟩
       refine ⟨_, hm.app hm', kD [0, 1, 2] ?_⟩
       clear hm hm'
       exact tD 6 (p_sA 0 4 b_216 96 1 31 encU32 (Arr.rep 96 0) t_35 (by kernel_rfl) (by kernel_rfl) (by kernel_rfl) encU32_len encU32_cell (by kernel_rfl) (kD [0, 1, 2] (qz (qm ⟨t_35, b_216⟩ h [0, 1, 2, 4]))))
     ·refine qa 0 (fun b_218 => kD [0, 1, 2] ?_)
      obtain ⟨hg_219, h⟩ := gd h
      refine tD 2 (p_apn 0 3 (some b_207) 5 1 more1.length 1 1 1 B_a encU8 ([3] : List Int) more1 [] (.int .u8 0) rfl rfl (by kernel_rfl) (by kernel_rfl) (by kernel_rfl) encU8_len encU8_cell (fun _ => ⟨Nat.le_refl _, by simp⟩) (fun e => nomatch e) (fun w hm => (hm.xr B_h)) hg_219 (by kernel_rfl) (by kernel_rfl) (fun o_220 cap_221 sp_222 hs_223 ho_224 => kD [0, 1, 2] ?_))
      obtain ⟨t_35, ht_225, h⟩ := bd h
      refine tD 4 (pc 0 (fun w hm => spec_A2Drum.calls (([3] : List Int) ++ more1) t_2 w _ cap_221 (hm.ow 3 o_220 5 (([3] : List Int) ++ more1) sp_222 (fun e => (ho_224 e).1) encU8_len) rfl cap_7 (hm.ow 0 o_6 92 t_2.fHammers sp_8 (fun e => (ho_10 e).1) encGHammer_len) rfl ht_225) ?_)
      rintro w v w' hm ⟨rfl, hm'⟩
      refine ⟨_, hm.app hm', kD [0, 1, 2] ?_⟩
      clear hm hm'
      exact tD 6 (p_sA 0 4 b_218 96 1 31 encU32 (Arr.rep 96 0) t_35 (by kernel_rfl) (by kernel_rfl) (by kernel_rfl) encU32_len encU32_cell (by kernel_rfl) (kD [0, 1, 2] (qz (qm ⟨t_35, b_218⟩ h [0, 1, 2, 4]))))
    ·refine qa 0 (fun b_226 => kD [0, 1, 2] (tD 0 (qa 0 (fun b_227 => kD [0, 1, 2] ?_))))
     obtain ⟨hg_228, h⟩ := gd h
     refine tD 2 (p_apn 0 4 (some b_227) 5 1 more1.length 1 1 1 B_a encU8 ([3] : List Int) more1 [] (.int .u8 0) rfl rfl (by kernel_rfl) (by kernel_rfl) (by kernel_rfl) encU8_len encU8_cell (fun _ => ⟨Nat.le_refl _, by simp⟩) (fun e => nomatch e) (fun w hm => (hm.xr B_h)) hg_228 (by kernel_rfl) (by kernel_rfl) (fun o_229 cap_230 sp_231 hs_232 ho_233 => kD [0, 1, 2] ?_))
     obtain ⟨t_35, ht_234, h⟩ := bd h
     refine tD 4 (pc 0 (fun w hm => spec_A2Drum.calls (([3] : List Int) ++ more1) t_2 w _ cap_230 (hm.ow 4 o_229 5 (([3] : List Int) ++ more1) sp_231 (fun e => (ho_233 e).1) encU8_len) rfl cap_7 (hm.ow 0 o_6 92 t_2.fHammers sp_8 (fun e => (ho_10 e).1) encGHammer_len) rfl ht_234) ?_)
     rintro w v w' hm ⟨rfl, hm'⟩
     refine ⟨_, hm.app hm', kD [0, 1, 2] ?_⟩
     clear hm hm'
     exact tD 6 (p_sA 0 3 b_226 96 1 31 encU32 (Arr.rep 96 0) t_35 (by kernel_rfl) (by kernel_rfl) (by kernel_rfl) encU32_len encU32_cell (by kernel_rfl) (kD [0, 1, 2] (qz (qm ⟨t_35, b_226⟩ h [0, 1, 2, 3]))))
   ·rintro ⟨a_4, b_42⟩ h
    replace h : laws_FnChanged.k_5 more1 t_2 t_3 a_4 = some r := h
    rw [laws_FnChanged.k_5] at h
    refine jx_then (jc_seq (jc_region (qh [1] (tO (p_ldA 0 2 b_13 96 1 31 encU32 t_3 (by kernel_rfl) (by kernel_rfl) (by kernel_rfl) encU32_len (by kernel_rfl) (jkO (tO (p_ldA 0 3 b_42 96 1 31 encU32 a_4 (by kernel_rfl) (by kernel_rfl) (by kernel_rfl) encU32_len (by kernel_rfl) (jkO ?_)))))))))
    obtain ⟨t_6, ht_43, h⟩ := bd h
    refine tO (pc 0 (fun w hm => impl_ChangesBetween.calls t_2 t_3 a_4 w _ cap_7 (hm.ow 0 o_6 92 t_2.fHammers sp_8 (fun e => (ho_10 e).1) encGHammer_len) rfl ht_43) ?_)
    rintro w v w' hm ⟨o_44, cap_45, sp_46, _, rfl, hs_47, ho_48, rfl, hm'⟩
    refine ⟨_, hm.app hm', jkO ?_⟩
    clear hm hm'
    refine qh [0,0,0,0,0] (qe (jx_then (jc_seq (jc_region (qh [1] (tO (p_ldA 0 2 b_13 96 1 31 encU32 t_3 (by kernel_rfl) (by kernel_rfl) (by kernel_rfl) encU32_len (by kernel_rfl) (jkO (tO (p_ldA 0 3 b_42 96 1 31 encU32 a_4 (by kernel_rfl) (by kernel_rfl) (by kernel_rfl) encU32_len (by kernel_rfl) (jkO ?_)))))))))))
    obtain ⟨t_7, ht_49, h⟩ := bd h
    refine tO (pc 0 (fun w hm => spec_ChangesBetween.calls t_2 t_3 a_4 w _ cap_7 (hm.ow 0 o_6 92 t_2.fHammers sp_8 (fun e => (ho_10 e).1) encGHammer_len) rfl ht_49) ?_)
    rintro w v w' hm ⟨o_50, cap_51, sp_52, _, rfl, hs_53, ho_54, rfl, hm'⟩
    refine ⟨_, hm.app hm', jkO ?_⟩
    clear hm hm'
    refine qh [0,0,0,0,0] (qe (jx_then (jc_seq (jc_region (qh [0] ?_)))))
    obtain ⟨t_8, ht_55, h⟩ := bd h
    refine tO (pc 0 (fun w hm => impl_ChangesText.calls t_7.1 w _ (g_lo.keep hm) (g_pw.keep hm) cap_51 (hm.ow 5 o_50 61 t_7.1 sp_52 (fun e => (ho_54 e).1) encGChange_len) rfl ht_55) ?_)
    rintro w v w' hm ⟨rfl, hm'⟩
    refine ⟨_, hm.app hm', jkO ?_⟩
    clear hm hm'
    obtain ⟨t_9, ht_56, h⟩ := bd h
    refine tO (pc 0 (fun w hm => impl_ReadChanges.calls t_8 w _ (g_er.keep hm) (g_lo.keep hm) (g_ml.keep hm) (g_pw.keep hm) ht_56) ?_)
    rintro w v w' hm ⟨o_57, cap_58, sp_59, _, rfl, hs_60, ho_61, rfl, hm'⟩
    refine ⟨_, hm.app hm', jkO ?_⟩
    clear hm hm'
    refine qh [0,0,0,0,0] (qe (jx_then (jc_seq (jc_region (qh [1] (tO (p_ldA 0 2 b_13 96 1 31 encU32 t_3 (by kernel_rfl) (by kernel_rfl) (by kernel_rfl) encU32_len (by kernel_rfl) (jkO (qh [0] ?_)))))))))
    obtain ⟨t_10, ht_62, h⟩ := bd h
    refine tO (pc 0 (fun w hm => impl_MakeChanges.calls t_2 t_3 t_7.1 w _ cap_7 (hm.ow 0 o_6 92 t_2.fHammers sp_8 (fun e => (ho_10 e).1) encGHammer_len) rfl cap_51 (hm.ow 5 o_50 61 t_7.1 sp_52 (fun e => (ho_54 e).1) encGChange_len) rfl ht_62) ?_)
    rintro w v w' hm ⟨rfl, hm'⟩
    refine ⟨_, hm.app hm', jkO ?_⟩
    clear hm hm'
    refine qh [0,0,0] (tO (qa 0 (fun b_63 => jkO (tO (p_sA 0 7 b_63 96 1 31 encU32 (Arr.rep 96 0) t_10.1 (by kernel_rfl) (by kernel_rfl) (by kernel_rfl) encU32_len encU32_cell (by kernel_rfl) (jkO (qh [0] (qe (jx_then (jc_seq (jc_region (qh [0] ?_))))))))))))
    obtain ⟨t_11, ht_64, h⟩ := bd h
    refine tO (pc 0 (fun w hm => impl_UndoChanges.calls t_7.1 w _ cap_51 (hm.ow 5 o_50 61 t_7.1 sp_52 (fun e => (ho_54 e).1) encGChange_len) rfl ht_64) ?_)
    rintro w v w' hm ⟨o_65, cap_66, sp_67, _, rfl, hs_68, ho_69, rfl, hm'⟩
    refine ⟨_, hm.app hm', jkO ?_⟩
    clear hm hm'
    refine qh [0,0,0,0,0] (qe (jx_then (jc_seq (jc_region (qh [0] ?_)))))
    obtain ⟨t_12, ht_70, h⟩ := bd h
    refine tO (pc 0 (fun w hm => spec_UndoChanges.calls t_7.1 w _ cap_51 (hm.ow 5 o_50 61 t_7.1 sp_52 (fun e => (ho_54 e).1) encGChange_len) rfl ht_70) ?_)
    rintro w v w' hm ⟨o_71, cap_72, sp_73, _, rfl, hs_74, ho_75, rfl, hm'⟩
    refine ⟨_, hm.app hm', jkO ?_⟩
    clear hm hm'
    refine qh [0,0,0,0,0] (qe (jx_then (jc_seq (jc_region (qh [1] (tO (p_ldA 0 3 b_42 96 1 31 encU32 a_4 (by kernel_rfl) (by kernel_rfl) (by kernel_rfl) encU32_len (by kernel_rfl) (jkO (qh [0] ?_)))))))))
    obtain ⟨t_13, ht_76, h⟩ := bd h
    refine tO (pc 0 (fun w hm => impl_MakeChanges.calls t_2 a_4 t_12.1 w _ cap_7 (hm.ow 0 o_6 92 t_2.fHammers sp_8 (fun e => (ho_10 e).1) encGHammer_len) rfl cap_72 (hm.ow 9 o_71 61 t_12.1 sp_73 (fun e => (ho_75 e).1) encGChange_len) rfl ht_76) ?_)
    rintro w v w' hm ⟨rfl, hm'⟩
    refine ⟨_, hm.app hm', jkO ?_⟩
    clear hm hm'
    refine qh [0,0,0] (tO (qa 0 (fun b_77 => jkO (tO (p_sA 0 10 b_77 96 1 31 encU32 (Arr.rep 96 0) t_13.1 (by kernel_rfl) (by kernel_rfl) (by kernel_rfl) encU32_len encU32_cell (by kernel_rfl) (jkO (qh [0] (qe (jx_then (jc_seq (jc_region (qh [1] (tO (p_ldA 0 2 b_13 96 1 31 encU32 t_3 (by kernel_rfl) (by kernel_rfl) (by kernel_rfl) encU32_len (by kernel_rfl) (jkO (tO (p_ldA 0 3 b_42 96 1 31 encU32 a_4 (by kernel_rfl) (by kernel_rfl) (by kernel_rfl) encU32_len (by kernel_rfl) (jkO ?_))))))))))))))))))
    obtain ⟨t_14, ht_78, h⟩ := bd h
    refine tO (pc 0 (fun w hm => impl_ChangeCost.calls t_2 t_3 a_4 w _ cap_7 (hm.ow 0 o_6 92 t_2.fHammers sp_8 (fun e => (ho_10 e).1) encGHammer_len) rfl ht_78) ?_)
    rintro w v w' hm ⟨rfl, hm'⟩
    refine ⟨_, hm.app hm', jkO ?_⟩
    clear hm hm'
    refine qh [0,0,0,0,0] (qe (jx_then (jc_seq (jc_region (qh [1] (tO (p_ldA 0 3 b_42 96 1 31 encU32 a_4 (by kernel_rfl) (by kernel_rfl) (by kernel_rfl) encU32_len (by kernel_rfl) (jkO (tO (p_ldA 0 2 b_13 96 1 31 encU32 t_3 (by kernel_rfl) (by kernel_rfl) (by kernel_rfl) encU32_len (by kernel_rfl) (jkO ?_)))))))))))
    obtain ⟨t_15, ht_79, h⟩ := bd h
    refine tO (pc 0 (fun w hm => impl_ChangeCost.calls t_2 a_4 t_3 w _ cap_7 (hm.ow 0 o_6 92 t_2.fHammers sp_8 (fun e => (ho_10 e).1) encGHammer_len) rfl ht_79) ?_)
    rintro w v w' hm ⟨rfl, hm'⟩
    refine ⟨_, hm.app hm', jkO ?_⟩
    clear hm hm'
    refine qh [0,0,0,0,0] (qe (jx_then (jc_seq (jc_region (qh [1] (tO (p_ldA 0 2 b_13 96 1 31 encU32 t_3 (by kernel_rfl) (by kernel_rfl) (by kernel_rfl) encU32_len (by kernel_rfl) (jkO (tO (p_ldA 0 3 b_42 96 1 31 encU32 a_4 (by kernel_rfl) (by kernel_rfl) (by kernel_rfl) encU32_len (by kernel_rfl) (jkO ?_)))))))))))
    obtain ⟨t_16, ht_80, h⟩ := bd h
    refine tO (pc 0 (fun w hm => impl_PinsToMove.calls t_2 t_3 a_4 w _ cap_7 (hm.ow 0 o_6 92 t_2.fHammers sp_8 (fun e => (ho_10 e).1) encGHammer_len) rfl ht_80) ?_)
    rintro w v w' hm ⟨rfl, hm'⟩
    refine ⟨_, hm.app hm', jkO ?_⟩
    clear hm hm'
    refine qh [0,0,0,0,0,0,0] (qe (jx_then (jc_seq (jc_region (qh [1] (tO (p_ldA 0 2 b_13 96 1 31 encU32 t_3 (by kernel_rfl) (by kernel_rfl) (by kernel_rfl) encU32_len (by kernel_rfl) (jkO (qh [0] ?_)))))))))
    obtain ⟨t_17, ht_81, h⟩ := bd h
    refine tO (pc 0 (fun w hm => impl_FirstBadChange.calls t_2 t_3 t_7.1 w _ cap_7 (hm.ow 0 o_6 92 t_2.fHammers sp_8 (fun e => (ho_10 e).1) encGHammer_len) rfl cap_51 (hm.ow 5 o_50 61 t_7.1 sp_52 (fun e => (ho_54 e).1) encGChange_len) rfl ht_81) ?_)
    rintro w v w' hm ⟨rfl, hm'⟩
    refine ⟨_, hm.app hm', jkO ?_⟩
    clear hm hm'
    refine qh [0,0,0,0,0] (qe (jx_then (jc_seq (jc_seq (jc_meet (fun (j : Bool) => match j with | q_18 => laws_FnChanged.k_19 more1 t_2 t_3 a_4 t_7 t_14 q_18 = some r) (fun (j : Bool) => match j with | q_18 => [(1, [], (.slice B_a more1.length B_c)), (4, [], (.bool false)), (5, [], (.pointer (some ⟨b_11, 0, none⟩))), (6, [], (.pointer (some ⟨b_13, 0, none⟩))), (7, [], (.pointer (some ⟨b_42, 0, none⟩))), (10, [], (.slice (o_50.map fun b => ⟨b, 0, none⟩) t_7.1.length cap_51)), (22, [], (.int .i64 t_14.1)), (235, [], (.bool q_18))]) (fun (j : Bool) => match j with | q_18 => [⟨o_6, 92, row encGHammer t_2.fHammers sp_8⟩, ⟨some b_11, 27, [(.int .i16 t_2.fSteps), (.slice (o_6.map fun b => ⟨b, 0, none⟩) t_2.fHammers.length cap_7)]⟩, ⟨(some b_13), 31, row encU32 t_3.1 []⟩, ⟨(some b_42), 31, row encU32 a_4.1 []⟩, ⟨o_44, 61, row encGChange t_6.1 sp_46⟩, ⟨o_50, 61, row encGChange t_7.1 sp_52⟩, ⟨o_57, 61, row encGChange t_9.1 sp_59⟩, ⟨(some b_63), 31, row encU32 t_10.1.1 []⟩, ⟨o_65, 61, row encGChange t_11.1 sp_67⟩, ⟨o_71, 61, row encGChange t_12.1 sp_73⟩, ⟨(some b_77), 31, row encU32 t_13.1.1 []⟩]) ?_ ?_)))))
    ·refine jc_region (qf [(0, 0), (0, 0), (0, 0), (0, 0), (0, 1), (0, 1), (0, 0), (0, 0), (0, 1), (0, 1)] (qp 145 h (fun h => ?_) (fun h => ?_)))
     ·exact qf [(0, 3), (0, 3), (0, 4), (0, 0), (0, 3), (0, 3), (0, 4), (0, 0), (0, 3), (0, 3), (0, 3), (0, 3), (0, 4), (0, 0), (0, 3), (0, 3), (0, 4), (0, 0), (0, 3), (0, 3), (0, 3), (0, 4), (0, 0), (0, 3), (0, 3), (0, 3), (0, 4), (0, 0), (0, 3), (0, 3), (0, 4), (0, 0), (0, 3), (0, 3), (0, 3), (0, 3), (0, 4), (0, 0), (0, 3), (0, 3), (0, 4), (0, 0), (0, 3), (0, 3), (0, 3), (0, 4), (0, 0), (0, 3), (0, 3), (0, 4), (0, 0), (0, 3), (0, 3), (0, 4), (0, 0), (0, 3), (0, 3), (0, 3), (0, 3), (0, 4), (0, 0), (0, 3), (0, 3), (0, 3), (0, 4), (0, 0), (0, 3), (0, 3), (0, 4), (0, 0), (0, 3), (0, 3), (0, 3), (0, 3), (0, 3), (0, 4), (0, 0), (0, 3), (0, 3), (0, 4), (0, 0), (0, 3), (0, 3), (0, 3), (0, 3), (0, 3), (0, 3), (0, 4)] (qe (qm true h [0, 1, 2, 3, 4, 5, 6, 7, 8, 9, 10]))
     ·obtain ⟨t_32, ht_199, h⟩ := bd h
      refine tO (pc 2 (fun w hm => spec_A2SameChanges.calls t_6.1 t_7.1 w _ cap_45 (hm.ow 4 o_44 61 t_6.1 sp_46 (fun e => (ho_48 e).1) encGChange_len) rfl cap_51 (hm.ow 5 o_50 61 t_7.1 sp_52 (fun e => (ho_54 e).1) encGChange_len) rfl ht_199) ?_)
      rintro w v w' hm ⟨rfl, hm'⟩
      refine ⟨_, hm.app hm', jkO ?_⟩
      clear hm hm'
      refine qf [(0, 2), (0, 5), (0, 0), (0, 1), (0, 1), (0, 0), (0, 0), (0, 1), (0, 1)] (qp 155 h (fun h => ?_) (fun h => ?_))
      ·exact qf [(0, 3), (0, 3), (0, 4), (0, 0), (0, 3), (0, 3), (0, 4), (0, 0), (0, 3), (0, 3), (0, 3), (0, 4), (0, 0), (0, 3), (0, 3), (0, 3), (0, 4), (0, 0), (0, 3), (0, 3), (0, 4), (0, 0), (0, 3), (0, 3), (0, 3), (0, 3), (0, 4), (0, 0), (0, 3), (0, 3), (0, 4), (0, 0), (0, 3), (0, 3), (0, 3), (0, 4), (0, 0), (0, 3), (0, 3), (0, 4), (0, 0), (0, 3), (0, 3), (0, 4), (0, 0), (0, 3), (0, 3), (0, 3), (0, 3), (0, 4), (0, 0), (0, 3), (0, 3), (0, 3), (0, 4), (0, 0), (0, 3), (0, 3), (0, 4), (0, 0), (0, 3), (0, 3), (0, 3), (0, 3), (0, 3), (0, 4), (0, 0), (0, 3), (0, 3), (0, 4), (0, 0), (0, 3), (0, 3), (0, 3), (0, 3), (0, 3), (0, 3), (0, 4)] (qe (qm true h [0, 1, 2, 3, 4, 5, 6, 7, 8, 9, 10]))
      ·obtain ⟨t_33, ht_201, h⟩ := bd h
       refine tO (pc 2 (fun w hm => spec_A2SameChanges.calls t_9.1 t_7.1 w _ cap_58 (hm.ow 6 o_57 61 t_9.1 sp_59 (fun e => (ho_61 e).1) encGChange_len) rfl cap_51 (hm.ow 5 o_50 61 t_7.1 sp_52 (fun e => (ho_54 e).1) encGChange_len) rfl ht_201) ?_)
       rintro w v w' hm ⟨rfl, hm'⟩
       refine ⟨_, hm.app hm', jkO ?_⟩
       clear hm hm'
       refine qf [(0, 2), (0, 5), (0, 0), (0, 1), (0, 1), (0, 0), (0, 0)] (qp 165 h (fun h => ?_) (fun h => ?_))
       ·exact qf [(0, 3), (0, 3), (0, 3), (0, 4), (0, 0), (0, 3), (0, 3), (0, 3), (0, 4), (0, 0), (0, 3), (0, 3), (0, 4), (0, 0), (0, 3), (0, 3), (0, 3), (0, 3), (0, 4), (0, 0), (0, 3), (0, 3), (0, 4), (0, 0), (0, 3), (0, 3), (0, 3), (0, 4), (0, 0), (0, 3), (0, 3), (0, 4), (0, 0), (0, 3), (0, 3), (0, 4), (0, 0), (0, 3), (0, 3), (0, 3), (0, 3), (0, 4), (0, 0), (0, 3), (0, 3), (0, 3), (0, 4), (0, 0), (0, 3), (0, 3), (0, 4), (0, 0), (0, 3), (0, 3), (0, 3), (0, 3), (0, 3), (0, 4), (0, 0), (0, 3), (0, 3), (0, 4), (0, 0), (0, 3), (0, 3), (0, 3), (0, 3), (0, 3), (0, 3), (0, 4)] (qe (qm true h [0, 1, 2, 3, 4, 5, 6, 7, 8, 9, 10]))
       ·refine tO (p_ldA 2 7 b_63 96 1 31 encU32 t_10.1 (by kernel_rfl) (by kernel_rfl) (by kernel_rfl) encU32_len (by kernel_rfl) (jkO (tO (p_ldA 2 3 b_42 96 1 31 encU32 a_4 (by kernel_rfl) (by kernel_rfl) (by kernel_rfl) encU32_len (by kernel_rfl) (jkO (tO (p_eqA 2 true 31 29 96 .u32 encU32 t_10.1 a_4 (by kernel_rfl) (by kernel_rfl) Tryz.underlying31 Tryz.underlying29 (fun w => Tryz.sizeOf29 w) (fun w => Tryz.isAgg29 w) (fun _ => rfl) (!(t_10.1.1 == a_4.1)) rfl (jkO (qf [(0, 5), (0, 0), (0, 1), (0, 1), (0, 1), (0, 0), (0, 0), (0, 1), (0, 1), (0, 0), (0, 0), (0, 1), (0, 1)] (qp 179 h (fun h => ?_) (fun h => ?_)))))))))))
        ·exact qf [(0, 3), (0, 3), (0, 4), (0, 0), (0, 3), (0, 3), (0, 4), (0, 0), (0, 3), (0, 3), (0, 3), (0, 4), (0, 0), (0, 3), (0, 3), (0, 4), (0, 0), (0, 3), (0, 3), (0, 4), (0, 0), (0, 3), (0, 3), (0, 3), (0, 3), (0, 4), (0, 0), (0, 3), (0, 3), (0, 3), (0, 4), (0, 0), (0, 3), (0, 3), (0, 4), (0, 0), (0, 3), (0, 3), (0, 3), (0, 3), (0, 3), (0, 4), (0, 0), (0, 3), (0, 3), (0, 4), (0, 0), (0, 3), (0, 3), (0, 3), (0, 3), (0, 3), (0, 3), (0, 4)] (qe (qm true h [0, 1, 2, 3, 4, 5, 6, 7, 8, 9, 10]))
        ·obtain ⟨t_34, ht_204, h⟩ := bd h
         refine tO (pc 2 (fun w hm => spec_A2SameChanges.calls t_11.1 t_12.1 w _ cap_66 (hm.ow 8 o_65 61 t_11.1 sp_67 (fun e => (ho_69 e).1) encGChange_len) rfl cap_72 (hm.ow 9 o_71 61 t_12.1 sp_73 (fun e => (ho_75 e).1) encGChange_len) rfl ht_204) ?_)
         rintro w v w' hm ⟨rfl, hm'⟩
         refine ⟨_, hm.app hm', jkO ?_⟩
         clear hm hm'
         refine qf [(0, 2), (0, 5), (0, 0), (0, 1), (0, 1), (0, 0), (0, 0)] (qp 189 h (fun h => ?_) (fun h => ?_))
         ·exact qf [(0, 3), (0, 3), (0, 3), (0, 4), (0, 0), (0, 3), (0, 3), (0, 4), (0, 0), (0, 3), (0, 3), (0, 4), (0, 0), (0, 3), (0, 3), (0, 3), (0, 3), (0, 4), (0, 0), (0, 3), (0, 3), (0, 3), (0, 4), (0, 0), (0, 3), (0, 3), (0, 4), (0, 0), (0, 3), (0, 3), (0, 3), (0, 3), (0, 3), (0, 4), (0, 0), (0, 3), (0, 3), (0, 4), (0, 0), (0, 3), (0, 3), (0, 3), (0, 3), (0, 3), (0, 3), (0, 4)] (qe (qm true h [0, 1, 2, 3, 4, 5, 6, 7, 8, 9, 10]))
         ·refine tO (p_ldA 2 10 b_77 96 1 31 encU32 t_13.1 (by kernel_rfl) (by kernel_rfl) (by kernel_rfl) encU32_len (by kernel_rfl) (jkO (tO (p_ldA 2 2 b_13 96 1 31 encU32 t_3 (by kernel_rfl) (by kernel_rfl) (by kernel_rfl) encU32_len (by kernel_rfl) (jkO (tO (p_eqA 2 true 31 29 96 .u32 encU32 t_13.1 t_3 (by kernel_rfl) (by kernel_rfl) Tryz.underlying31 Tryz.underlying29 (fun w => Tryz.sizeOf29 w) (fun w => Tryz.isAgg29 w) (fun _ => rfl) (!(t_13.1.1 == t_3.1)) rfl (jkO (qf [(0, 5), (0, 0), (0, 1), (0, 1), (0, 0), (0, 0), (0, 1), (0, 1), (0, 0), (0, 0), (0, 1), (0, 1), (0, 1), (0, 1), (0, 0), (0, 0), (0, 1), (0, 1), (0, 1), (0, 0), (0, 0), (0, 1), (0, 1), (0, 0), (0, 0), (0, 1), (0, 1), (0, 1), (0, 1), (0, 1), (0, 0), (0, 0), (0, 1), (0, 1), (0, 0), (0, 0), (0, 1), (0, 1)] (qp 228 h (fun h => ?_) (fun h => ?_)))))))))))
          ·exact qf [(0, 3), (0, 3), (0, 3), (0, 3), (0, 4)] (qe (qm true h [0, 1, 2, 3, 4, 5, 6, 7, 8, 9, 10]))
          ·exact tO (p_ldA 2 2 b_13 96 1 31 encU32 t_3 (by kernel_rfl) (by kernel_rfl) (by kernel_rfl) encU32_len (by kernel_rfl) (jkO (tO (p_ldA 2 3 b_42 96 1 31 encU32 a_4 (by kernel_rfl) (by kernel_rfl) (by kernel_rfl) encU32_len (by kernel_rfl) (jkO (tO (p_eqA 2 false 31 29 96 .u32 encU32 t_3 a_4 (by kernel_rfl) (by kernel_rfl) Tryz.underlying31 Tryz.underlying29 (fun w => Tryz.sizeOf29 w) (fun w => Tryz.isAgg29 w) (fun _ => rfl) (t_3.1 == a_4.1) rfl (jkO (qf [(0, 2), (0, 5)] (qe (qm ((t_14.1 == 0) != (t_3.1 == a_4.1)) h [0, 1, 2, 3, 4, 5, 6, 7, 8, 9, 10])))))))))))
    ·rintro q_18 h
     replace h : laws_FnChanged.k_19 more1 t_2 t_3 a_4 t_7 t_14 q_18 = some r := h
     rw [laws_FnChanged.k_19] at h
     refine jx_then (qi h (fun h => ?_) (fun h => ?_))
     ·refine jc_seq (jc_region (qh [0] (qe (jx_then (jc_ret (jx_thenr ?_))))))
      obtain rfl := Option.some.inj h
      exact qr [] (fun w hm => ⟨rfl, hm.pk []⟩)
     ·refine jc_skip (jx_then (jc_seq (jc_region (qh [1] (tO (p_ldA 0 2 b_13 96 1 31 encU32 t_3 (by kernel_rfl) (by kernel_rfl) (by kernel_rfl) encU32_len (by kernel_rfl) (jkO (tO (p_ldA 0 3 b_42 96 1 31 encU32 a_4 (by kernel_rfl) (by kernel_rfl) (by kernel_rfl) encU32_len (by kernel_rfl) (jkO ?_))))))))))
      obtain ⟨t_20, ht_111, h⟩ := bd h
      refine tO (pc 0 (fun w hm => impl_TurnedCost.calls t_2 t_3 a_4 w _ cap_7 (hm.ow 0 o_6 92 t_2.fHammers sp_8 (fun e => (ho_10 e).1) encGHammer_len) rfl ht_111) ?_)
      rintro w v w' hm ⟨rfl, hm'⟩
      refine ⟨_, hm.app hm', jkO ?_⟩
      clear hm hm'
      refine qh [0,0,0,0,0,0,0] (qe (jx_then (jc_seq (jc_region (qh [1] (tO (p_ldA 0 2 b_13 96 1 31 encU32 t_3 (by kernel_rfl) (by kernel_rfl) (by kernel_rfl) encU32_len (by kernel_rfl) (jkO (tO (p_ldA 0 3 b_42 96 1 31 encU32 a_4 (by kernel_rfl) (by kernel_rfl) (by kernel_rfl) encU32_len (by kernel_rfl) (jkO ?_)))))))))))
      obtain ⟨t_21, ht_112, h⟩ := bd h
      refine tO (pc 0 (fun w hm => spec_TurnedCost.calls t_2 t_3 a_4 w _ cap_7 (hm.ow 0 o_6 92 t_2.fHammers sp_8 (fun e => (ho_10 e).1) encGHammer_len) rfl ht_112) ?_)
      rintro w v w' hm ⟨rfl, hm'⟩
      refine ⟨_, hm.app hm', jkO ?_⟩
      clear hm hm'
      refine qh [0,0,0,0,0,0,0] (qe (jx_then (jc_seq (jc_region (qh [1] (tO (p_ldA 0 3 b_42 96 1 31 encU32 a_4 (by kernel_rfl) (by kernel_rfl) (by kernel_rfl) encU32_len (by kernel_rfl) (jkO (qh [0] ?_)))))))))
      obtain ⟨t_22, ht_113, h⟩ := bd h
      refine tO (pc 0 (fun w hm => impl_TurnDrum.calls t_2 a_4 t_21.2.1 w _ cap_7 (hm.ow 0 o_6 92 t_2.fHammers sp_8 (fun e => (ho_10 e).1) encGHammer_len) rfl ht_113) ?_)
      rintro w v w' hm ⟨rfl, hm'⟩
      refine ⟨_, hm.app hm', jkO ?_⟩
      clear hm hm'
      refine qh [0,0,0] (tO (qa 0 (fun b_114 => jkO (tO (p_sA 0 11 b_114 96 1 31 encU32 (Arr.rep 96 0) t_22.1 (by kernel_rfl) (by kernel_rfl) (by kernel_rfl) encU32_len encU32_cell (by kernel_rfl) (jkO (qh [0] (qe (jx_then (jc_seq (jc_region (qh [1] (tO (p_ldA 0 2 b_13 96 1 31 encU32 t_3 (by kernel_rfl) (by kernel_rfl) (by kernel_rfl) encU32_len (by kernel_rfl) (jkO (tO (p_ldA 0 11 b_114 96 1 31 encU32 t_22.1 (by kernel_rfl) (by kernel_rfl) (by kernel_rfl) encU32_len (by kernel_rfl) (jkO ?_))))))))))))))))))
      obtain ⟨t_23, ht_115, h⟩ := bd h
      refine tO (pc 0 (fun w hm => impl_ChangeCost.calls t_2 t_3 t_22.1 w _ cap_7 (hm.ow 0 o_6 92 t_2.fHammers sp_8 (fun e => (ho_10 e).1) encGHammer_len) rfl ht_115) ?_)
      rintro w v w' hm ⟨rfl, hm'⟩
      refine ⟨_, hm.app hm', jkO ?_⟩
      clear hm hm'
      refine qh [0,0,0,0,0] (qe (jx_then (jc_seq (jc_seq (jc_region (qf [(0, 0), (0, 0), (0, 0), (0, 0), (0, 1), (0, 1), (0, 0), (0, 0), (0, 1), (0, 1), (0, 1), (0, 0), (0, 0), (0, 1), (0, 1), (0, 1), (0, 0), (0, 0), (0, 1), (0, 1), (0, 1), (0, 0), (0, 0), (0, 1), (0, 1), (0, 0), (0, 0), (0, 1), (0, 1), (0, 0), (0, 0), (0, 1), (0, 1), (0, 1), (0, 0)] (qe (jx_then (qi h (fun h => ?_) (fun h => ?_))))))))))
      ·refine jc_seq (jc_region (qh [0] (qe (jx_then (jc_ret (jx_thenr ?_))))))
       obtain rfl := Option.some.inj h
       exact qr [] (fun w hm => ⟨rfl, hm.pk []⟩)
      ·refine jc_skip (jx_then (jc_seq (jc_seq (jc_region (qh [0,0,0] (qe (jx_then (qi h (fun h => ?_) (fun h => ?_)))))))))
       ·refine jc_seq (jc_region (qh [0] (qe (jx_then (jc_ret (jx_thenr ?_))))))
        obtain rfl := Option.some.inj h
        exact qr [] (fun w hm => ⟨rfl, hm.pk []⟩)
       ·refine jc_skip (jx_then (jc_seq (jc_region (qh [0,0,0] ?_))))
        obtain ⟨t_24, ht_120, h⟩ := bd h
        refine tO (pc 0 (fun w hm => laws_a2At.calls more1 0 (t_7.1.length : Int) w _ B_c (hm.xr B_h) rfl ht_120) ?_)
        rintro w v w' hm ⟨rfl, hm'⟩
        refine ⟨_, hm.app hm', jkO ?_⟩
        clear hm hm'
        refine qh [0] (qe (jx_then (jc_seq (qg [⟨o_6, 92, row encGHammer t_2.fHammers sp_8⟩, ⟨some b_11, 27, [(.int .i16 t_2.fSteps), (.slice (o_6.map fun b => ⟨b, 0, none⟩) t_2.fHammers.length cap_7)]⟩, ⟨(some b_13), 31, row encU32 t_3.1 []⟩, ⟨(some b_42), 31, row encU32 a_4.1 []⟩, ⟨o_44, 61, row encGChange t_6.1 sp_46⟩, ⟨o_50, 61, row encGChange t_7.1 sp_52⟩, ⟨o_57, 61, row encGChange t_9.1 sp_59⟩, ⟨(some b_63), 31, row encU32 t_10.1.1 []⟩, ⟨o_65, 61, row encGChange t_11.1 sp_67⟩, ⟨o_71, 61, row encGChange t_12.1 sp_73⟩, ⟨(some b_77), 31, row encU32 t_13.1.1 []⟩, ⟨(some b_114), 31, row encU32 t_22.1.1 []⟩] 11 (qd [⟨1, 0, 0⟩,⟨2, 0, 0⟩,⟨3, 0, 0⟩,⟨6, 0, 0⟩,⟨7, 0, 0⟩] 6 [0, 1, 2, 3, 4, 5, 6, 7, 8, 9, 10, 11] ?_)))))
        obtain ⟨hg_121, h⟩ := gd h
        refine qv 4 0 [0, 1, 2, 3, 4, 5, 6, 7, 8, 9, 10, 11] (fun w hm => slH_run (a := (o_50.map fun b => ⟨b, 0, none⟩)) (len := t_7.1.length) (cap := cap_51) (size := 3) (h := (w64 (t_24 + 1))) (by kernel_rfl) hg_121.1 (Int.le_trans hg_121.2 (Int.ofNat_le.2 (cap_le rfl hs_53 ho_54)))) ?_
        obtain ⟨hg_122, h⟩ := gd h
        refine qv 8 0 [0, 1, 2, 3, 4, 5, 6, 7, 8, 9, 10, 11] (fun w hm => slL_run (a := (o_50.map fun b => ⟨b, 0, none⟩)) (len := t_7.1.length) (cap := cap_51) (size := 3) (l := t_24) (by kernel_rfl) hg_122.1 (Int.le_trans hg_122.2 (Int.ofNat_le.2 (Nat.le_of_eq rfl)))) (tD 0 (qa 0 (fun b_123 => kD [0, 1, 2, 3, 4, 5, 6, 7, 8, 9, 10, 11] ?_)))
        obtain ⟨hg_124, h⟩ := gd h
        refine tD 5 (p_apn 0 12 (some b_123) 61 0 ((w64 (t_24 + 1)).toNat) 0 3 4 (o_50.map fun b => ⟨b, 0, none⟩) encGChange ([] : List GChange) (t_7.1.take (w64 (t_24 + 1)).toNat) [] (.agg #[(.int .i16 0), (.int .i8 0), (.bool false)]) rfl (hd_len hg_121) (by kernel_rfl) (by kernel_rfl) (by kernel_rfl) encGChange_len encGChange_cell (fun _ => ⟨Nat.le_refl _, by simp⟩) (fun e => nomatch e) (fun w hm => ((hm.ow 5 o_50 61 t_7.1 sp_52 (fun e => (ho_54 e).1) encGChange_len).hd ((w64 (t_24 + 1)).toNat))) hg_124 (by kernel_rfl) (by kernel_rfl) (fun o_125 cap_126 sp_127 hs_128 ho_129 => kD [0, 1, 2, 3, 4, 5, 6, 7, 8, 9, 10, 11] ?_))
        obtain ⟨hg_130, h⟩ := gd h
        refine tD 9 (p_apn 0 12 o_125 61 ((([] : List GChange) ++ (t_7.1.take (w64 (t_24 + 1)).toNat)).length) (t_7.1.length - t_24.toNat) cap_126 3 4 (pa (o_50.map fun b => ⟨b, 0, none⟩) t_24.toNat cap_51 3) encGChange (([] : List GChange) ++ (t_7.1.take (w64 (t_24 + 1)).toNat)) (t_7.1.drop t_24.toNat) sp_127 (.agg #[(.int .i16 0), (.int .i8 0), (.bool false)]) rfl (tl_len rfl t_24) (by kernel_rfl) (by kernel_rfl) (by kernel_rfl) encGChange_len encGChange_cell hs_128 ho_129 (fun w hm => ((hm.ow 5 o_50 61 t_7.1 sp_52 (fun e => (ho_54 e).1) encGChange_len).tl t_24.toNat cap_51 (cap_le rfl hs_53 ho_54))) hg_130 (by kernel_rfl) (by kernel_rfl) (fun o_131 cap_132 sp_133 hs_134 ho_135 => kD [0, 1, 2, 3, 4, 5, 6, 7, 8, 9, 10, 11] (qd [⟨10, 0, 0⟩] 0 [0, 1, 2, 3, 4, 5, 6, 7, 8, 9, 10, 11] (qz (jx_then (jc_seq (jc_region (qh [1] (tO (p_ldA 0 2 b_13 96 1 31 encU32 t_3 (by kernel_rfl) (by kernel_rfl) (by kernel_rfl) encU32_len (by kernel_rfl) (jkO (qh [0] ?_))))))))))))
        obtain ⟨t_25, ht_136, h⟩ := bd h
        refine tO (pc 0 (fun w hm => impl_FirstBadChange.calls t_2 t_3 ((([] : List GChange) ++ (t_7.1.take (w64 (t_24 + 1)).toNat)) ++ (t_7.1.drop t_24.toNat)) w _ cap_7 (hm.ow 0 o_6 92 t_2.fHammers sp_8 (fun e => (ho_10 e).1) encGHammer_len) rfl cap_132 (hm.ow 12 o_131 61 ((([] : List GChange) ++ (t_7.1.take (w64 (t_24 + 1)).toNat)) ++ (t_7.1.drop t_24.toNat)) sp_133 (fun e => (ho_135 e).1) encGChange_len) rfl ht_136) ?_)
        rintro w v w' hm ⟨rfl, hm'⟩
        refine ⟨_, hm.app hm', jkO ?_⟩
        clear hm hm'
        refine qh [0,0,0,0,0] (qe (jx_then (jc_seq (jc_region (qh [1] (tO (p_ldA 0 2 b_13 96 1 31 encU32 t_3 (by kernel_rfl) (by kernel_rfl) (by kernel_rfl) encU32_len (by kernel_rfl) (jkO (qh [0] ?_)))))))))
        obtain ⟨t_26, ht_137, h⟩ := bd h
        refine tO (pc 0 (fun w hm => impl_MakeChanges.calls t_2 t_3 ((([] : List GChange) ++ (t_7.1.take (w64 (t_24 + 1)).toNat)) ++ (t_7.1.drop t_24.toNat)) w _ cap_7 (hm.ow 0 o_6 92 t_2.fHammers sp_8 (fun e => (ho_10 e).1) encGHammer_len) rfl cap_132 (hm.ow 12 o_131 61 ((([] : List GChange) ++ (t_7.1.take (w64 (t_24 + 1)).toNat)) ++ (t_7.1.drop t_24.toNat)) sp_133 (fun e => (ho_135 e).1) encGChange_len) rfl ht_137) ?_)
        rintro w v w' hm ⟨rfl, hm'⟩
        refine ⟨_, hm.app hm', jkO ?_⟩
        clear hm hm'
        refine qh [0,0,0] (tO (qa 0 (fun b_138 => jkO (tO (p_sA 0 13 b_138 96 1 31 encU32 (Arr.rep 96 0) t_26.1 (by kernel_rfl) (by kernel_rfl) (by kernel_rfl) encU32_len encU32_cell (by kernel_rfl) (jkO (qh [0] (qe (jx_then (jc_seq (jc_meet (fun (j : (Arr 96 Int) × Nat) => match j with | ⟨a_27, b_167⟩ => laws_FnChanged.k_28 t_2 t_3 a_4 t_14 t_24 t_25 t_26 a_27 = some r) (fun (j : (Arr 96 Int) × Nat) => match j with | ⟨a_27, b_167⟩ => [(4, [], (.bool false)), (5, [], (.pointer (some ⟨b_11, 0, none⟩))), (6, [], (.pointer (some ⟨b_13, 0, none⟩))), (7, [], (.pointer (some ⟨b_42, 0, none⟩))), (22, [], (.int .i64 t_14.1)), (41, [], (.int .i64 t_24)), (43, [], (.int .i64 t_25.1)), (44, [], (.int .i64 t_25.2)), (46, [], (.int .i64 t_26.2)), (47, [], (.pointer (some ⟨b_167, 0, none⟩)))]) (fun (j : (Arr 96 Int) × Nat) => match j with | ⟨a_27, b_167⟩ => [⟨o_6, 92, row encGHammer t_2.fHammers sp_8⟩, ⟨some b_11, 27, [(.int .i16 t_2.fSteps), (.slice (o_6.map fun b => ⟨b, 0, none⟩) t_2.fHammers.length cap_7)]⟩, ⟨(some b_13), 31, row encU32 t_3.1 []⟩, ⟨(some b_42), 31, row encU32 a_4.1 []⟩, ⟨o_44, 61, row encGChange t_6.1 sp_46⟩, ⟨o_50, 61, row encGChange t_7.1 sp_52⟩, ⟨o_57, 61, row encGChange t_9.1 sp_59⟩, ⟨(some b_63), 31, row encU32 t_10.1.1 []⟩, ⟨o_65, 61, row encGChange t_11.1 sp_67⟩, ⟨o_71, 61, row encGChange t_12.1 sp_73⟩, ⟨(some b_77), 31, row encU32 t_13.1.1 []⟩, ⟨(some b_114), 31, row encU32 t_22.1.1 []⟩, ⟨o_131, 61, row encGChange ((([] : List GChange) ++ (t_7.1.take (w64 (t_24 + 1)).toNat)) ++ (t_7.1.drop t_24.toNat)) sp_133⟩, ⟨(some b_138), 31, row encU32 t_26.1.1 []⟩, ⟨(some b_167), 31, row encU32 a_27.1 []⟩]) ?_ ?_)))))))))))
        ·refine qg [⟨o_6, 92, row encGHammer t_2.fHammers sp_8⟩, ⟨some b_11, 27, [(.int .i16 t_2.fSteps), (.slice (o_6.map fun b => ⟨b, 0, none⟩) t_2.fHammers.length cap_7)]⟩, ⟨(some b_13), 31, row encU32 t_3.1 []⟩, ⟨(some b_42), 31, row encU32 a_4.1 []⟩, ⟨o_44, 61, row encGChange t_6.1 sp_46⟩, ⟨o_50, 61, row encGChange t_7.1 sp_52⟩, ⟨o_57, 61, row encGChange t_9.1 sp_59⟩, ⟨(some b_63), 31, row encU32 t_10.1.1 []⟩, ⟨o_65, 61, row encGChange t_11.1 sp_67⟩, ⟨o_71, 61, row encGChange t_12.1 sp_73⟩, ⟨(some b_77), 31, row encU32 t_13.1.1 []⟩, ⟨(some b_114), 31, row encU32 t_22.1.1 []⟩, ⟨o_131, 61, row encGChange ((([] : List GChange) ++ (t_7.1.take (w64 (t_24 + 1)).toNat)) ++ (t_7.1.drop t_24.toNat)) sp_133⟩, ⟨(some b_138), 31, row encU32 t_26.1.1 []⟩] 7 (qd [⟨1, 0, 0⟩,⟨3, 1, 0⟩] 5 [0, 1, 2, 3, 4, 5, 6, 7, 8, 9, 10, 11, 12, 13] (toD2 0 5 (by kernel_rfl) ?_ ?_))
         ·refine qa 0 (fun b_170 => kD [0, 1, 2, 3, 4, 5, 6, 7, 8, 9, 10, 11, 12, 13] (toD2 2 5 (by kernel_rfl) ?_ ?_))
          ·obtain ⟨hg_171, h⟩ := gd h
           refine p_apn 0 14 (some b_170) 5 1 more1.length 1 1 1 B_a encU8 ([5] : List Int) more1 [] (.int .u8 0) rfl rfl (by kernel_rfl) (by kernel_rfl) (by kernel_rfl) encU8_len encU8_cell (fun _ => ⟨Nat.le_refl _, by simp⟩) (fun e => nomatch e) (fun w hm => (hm.xr B_h)) hg_171 (by kernel_rfl) (by kernel_rfl) (fun o_172 cap_173 sp_174 hs_175 ho_176 => kD [0, 1, 2, 3, 4, 5, 6, 7, 8, 9, 10, 11, 12, 13] (toD2 4 5 (by kernel_rfl) ?_ ?_))
           ·obtain ⟨t_31, ht_177, h⟩ := bd h
            refine pc 0 (fun w hm => spec_A2Drum.calls (([5] : List Int) ++ more1) t_2 w _ cap_173 (hm.ow 14 o_172 5 (([5] : List Int) ++ more1) sp_174 (fun e => (ho_176 e).1) encU8_len) rfl cap_7 (hm.ow 0 o_6 92 t_2.fHammers sp_8 (fun e => (ho_10 e).1) encGHammer_len) rfl ht_177) ?_
            rintro w v w' hm ⟨rfl, hm'⟩
            refine ⟨_, hm.app hm', kD [0, 1, 2, 3, 4, 5, 6, 7, 8, 9, 10, 11, 12, 13] ?_⟩
            clear hm hm'
            exact tD 5 (qa 0 (fun b_178 => kD [0, 1, 2, 3, 4, 5, 6, 7, 8, 9, 10, 11, 12, 13] (tD 6 (p_sA 0 15 b_178 96 1 31 encU32 (Arr.rep 96 0) t_31 (by kernel_rfl) (by kernel_rfl) (by kernel_rfl) encU32_len encU32_cell (by kernel_rfl) (kD [0, 1, 2, 3, 4, 5, 6, 7, 8, 9, 10, 11, 12, 13] (qz (qm ⟨t_31, b_178⟩ h [0, 1, 2, 3, 4, 5, 6, 7, 8, 9, 10, 11, 12, 13, 15])))))))
           ·refine qa 0 (fun b_179 => kD [0, 1, 2, 3, 4, 5, 6, 7, 8, 9, 10, 11, 12, 13] ?_)
            obtain ⟨t_31, ht_180, h⟩ := bd h
            refine tD 4 (pc 0 (fun w hm => spec_A2Drum.calls (([5] : List Int) ++ more1) t_2 w _ cap_173 (hm.ow 14 o_172 5 (([5] : List Int) ++ more1) sp_174 (fun e => (ho_176 e).1) encU8_len) rfl cap_7 (hm.ow 0 o_6 92 t_2.fHammers sp_8 (fun e => (ho_10 e).1) encGHammer_len) rfl ht_180) ?_)
            rintro w v w' hm ⟨rfl, hm'⟩
            refine ⟨_, hm.app hm', kD [0, 1, 2, 3, 4, 5, 6, 7, 8, 9, 10, 11, 12, 13] ?_⟩
            clear hm hm'
            exact tD 6 (p_sA 0 15 b_179 96 1 31 encU32 (Arr.rep 96 0) t_31 (by kernel_rfl) (by kernel_rfl) (by kernel_rfl) encU32_len encU32_cell (by kernel_rfl) (kD [0, 1, 2, 3, 4, 5, 6, 7, 8, 9, 10, 11, 12, 13] (qz (qm ⟨t_31, b_179⟩ h [0, 1, 2, 3, 4, 5, 6, 7, 8, 9, 10, 11, 12, 13, 15]))))
          ·refine qa 0 (fun b_181 => kD [0, 1, 2, 3, 4, 5, 6, 7, 8, 9, 10, 11, 12, 13] ?_)
           obtain ⟨hg_182, h⟩ := gd h
           refine tD 2 (p_apn 0 14 (some b_170) 5 1 more1.length 1 1 1 B_a encU8 ([5] : List Int) more1 [] (.int .u8 0) rfl rfl (by kernel_rfl) (by kernel_rfl) (by kernel_rfl) encU8_len encU8_cell (fun _ => ⟨Nat.le_refl _, by simp⟩) (fun e => nomatch e) (fun w hm => (hm.xr B_h)) hg_182 (by kernel_rfl) (by kernel_rfl) (fun o_183 cap_184 sp_185 hs_186 ho_187 => kD [0, 1, 2, 3, 4, 5, 6, 7, 8, 9, 10, 11, 12, 13] ?_))
           obtain ⟨t_31, ht_188, h⟩ := bd h
           refine tD 4 (pc 0 (fun w hm => spec_A2Drum.calls (([5] : List Int) ++ more1) t_2 w _ cap_184 (hm.ow 14 o_183 5 (([5] : List Int) ++ more1) sp_185 (fun e => (ho_187 e).1) encU8_len) rfl cap_7 (hm.ow 0 o_6 92 t_2.fHammers sp_8 (fun e => (ho_10 e).1) encGHammer_len) rfl ht_188) ?_)
           rintro w v w' hm ⟨rfl, hm'⟩
           refine ⟨_, hm.app hm', kD [0, 1, 2, 3, 4, 5, 6, 7, 8, 9, 10, 11, 12, 13] ?_⟩
           clear hm hm'
           exact tD 6 (p_sA 0 15 b_181 96 1 31 encU32 (Arr.rep 96 0) t_31 (by kernel_rfl) (by kernel_rfl) (by kernel_rfl) encU32_len encU32_cell (by kernel_rfl) (kD [0, 1, 2, 3, 4, 5, 6, 7, 8, 9, 10, 11, 12, 13] (qz (qm ⟨t_31, b_181⟩ h [0, 1, 2, 3, 4, 5, 6, 7, 8, 9, 10, 11, 12, 13, 15]))))
         ·refine qa 0 (fun b_189 => kD [0, 1, 2, 3, 4, 5, 6, 7, 8, 9, 10, 11, 12, 13] (tD 0 (qa 0 (fun b_190 => kD [0, 1, 2, 3, 4, 5, 6, 7, 8, 9, 10, 11, 12, 13] ?_))))
          obtain ⟨hg_191, h⟩ := gd h
          refine tD 2 (p_apn 0 15 (some b_190) 5 1 more1.length 1 1 1 B_a encU8 ([5] : List Int) more1 [] (.int .u8 0) rfl rfl (by kernel_rfl) (by kernel_rfl) (by kernel_rfl) encU8_len encU8_cell (fun _ => ⟨Nat.le_refl _, by simp⟩) (fun e => nomatch e) (fun w hm => (hm.xr B_h)) hg_191 (by kernel_rfl) (by kernel_rfl) (fun o_192 cap_193 sp_194 hs_195 ho_196 => kD [0, 1, 2, 3, 4, 5, 6, 7, 8, 9, 10, 11, 12, 13] ?_))
          obtain ⟨t_31, ht_197, h⟩ := bd h
          refine tD 4 (pc 0 (fun w hm => spec_A2Drum.calls (([5] : List Int) ++ more1) t_2 w _ cap_193 (hm.ow 15 o_192 5 (([5] : List Int) ++ more1) sp_194 (fun e => (ho_196 e).1) encU8_len) rfl cap_7 (hm.ow 0 o_6 92 t_2.fHammers sp_8 (fun e => (ho_10 e).1) encGHammer_len) rfl ht_197) ?_)
          rintro w v w' hm ⟨rfl, hm'⟩
          refine ⟨_, hm.app hm', kD [0, 1, 2, 3, 4, 5, 6, 7, 8, 9, 10, 11, 12, 13] ?_⟩
          clear hm hm'
          exact tD 6 (p_sA 0 14 b_189 96 1 31 encU32 (Arr.rep 96 0) t_31 (by kernel_rfl) (by kernel_rfl) (by kernel_rfl) encU32_len encU32_cell (by kernel_rfl) (kD [0, 1, 2, 3, 4, 5, 6, 7, 8, 9, 10, 11, 12, 13] (qz (qm ⟨t_31, b_189⟩ h [0, 1, 2, 3, 4, 5, 6, 7, 8, 9, 10, 11, 12, 13, 14]))))
        ·rintro ⟨a_27, b_167⟩ h
         replace h : laws_FnChanged.k_28 t_2 t_3 a_4 t_14 t_24 t_25 t_26 a_27 = some r := h
         rw [laws_FnChanged.k_28] at h
         refine jx_then (jc_seq (jc_region (qh [1] (tO (p_ldA 0 2 b_13 96 1 31 encU32 t_3 (by kernel_rfl) (by kernel_rfl) (by kernel_rfl) encU32_len (by kernel_rfl) (jkO (tO (p_ldA 0 14 b_167 96 1 31 encU32 a_27 (by kernel_rfl) (by kernel_rfl) (by kernel_rfl) encU32_len (by kernel_rfl) (jkO ?_)))))))))
         obtain ⟨t_29, ht_168, h⟩ := bd h
         refine tO (pc 0 (fun w hm => impl_ChangeCost.calls t_2 t_3 a_27 w _ cap_7 (hm.ow 0 o_6 92 t_2.fHammers sp_8 (fun e => (ho_10 e).1) encGHammer_len) rfl ht_168) ?_)
         rintro w v w' hm ⟨rfl, hm'⟩
         refine ⟨_, hm.app hm', jkO ?_⟩
         clear hm hm'
         refine qh [0,0,0,0,0] (qe (jx_then (jc_seq (jc_region (qh [1] (tO (p_ldA 0 14 b_167 96 1 31 encU32 a_27 (by kernel_rfl) (by kernel_rfl) (by kernel_rfl) encU32_len (by kernel_rfl) (jkO (tO (p_ldA 0 3 b_42 96 1 31 encU32 a_4 (by kernel_rfl) (by kernel_rfl) (by kernel_rfl) encU32_len (by kernel_rfl) (jkO ?_)))))))))))
         obtain ⟨t_30, ht_169, h⟩ := bd h
         refine tO (pc 0 (fun w hm => impl_ChangeCost.calls t_2 a_27 a_4 w _ cap_7 (hm.ow 0 o_6 92 t_2.fHammers sp_8 (fun e => (ho_10 e).1) encGHammer_len) rfl ht_169) ?_)
         rintro w v w' hm ⟨rfl, hm'⟩
         refine ⟨_, hm.app hm', jkO ?_⟩
         clear hm hm'
         refine qh [0,0,0,0,0] (qe (jx_then (jc_seq (jc_region (qf [(0, 0), (0, 0), (0, 0), (0, 1), (0, 1), (0, 1), (0, 1), (0, 0), (0, 0), (0, 1), (0, 1), (0, 0), (0, 0), (0, 1), (0, 1), (0, 0), (0, 0), (0, 1), (0, 1), (0, 0), (0, 0), (0, 1), (0, 1), (0, 1), (0, 1), (0, 1), (0, 0), (0, 0)] (qe (jx_then (jc_ret ?_))))))))
         obtain rfl := Option.some.inj h
         exact qr [] (fun w hm => ⟨rfl, hm.pk []⟩)
end

end Go.Proofs.YtgmmeokkgcbkdaaGreatDoor
