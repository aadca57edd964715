/- Functions of the program that the laws reach: a plain function each, and that the call comes to its answer if the plain function has one. Printed by a program. -/
import Derived.Test.YteedohcicmgkaaaT
import Derived.Test.YteedohcicmgkaaaRange
import Derived.Test.YteedohcicmgkaaaM0
import Derived.RangeFuncBox
import Derived.Shelf.Abstract
import Derived.WalkKit
import Derived.OwnWalkIn
import Derived.TacticsInMore
import Derived.LoopNIn
import Derived.LoopIn
namespace Go.Proofs.Yteedohcicmgkaaa
open Eng
set_option linter.unusedVariables false

set_option linter.unusedSectionVars false
set_option maxRecDepth 100000
variable [dsW : DrwS]
noncomputable section
/-! ### impl.ValidTune -/
def impl_ValidTune.k_1 (t0 : List GNote) : Option (Bool) := some (decide ((t0.length : Int) ≤ 120))
def impl_ValidTune.k_7 (i_2 : Int) (q_6 : Bool) : Option ((Int) ⊕ (Bool ⊕ Unit)) := (if q_6 = true then some (.inr (.inl false)) else some (.inl (w64 (i_2 + 1))))
def impl_ValidTune.l_3 (t0 : List GNote) : Int → Option ((Int) ⊕ (Bool ⊕ Unit))
  | i_2 => (if (decide (i_2 < (t0.length : Int))) = true then (ix t0 i_2).bind fun x_5 => (impl_isNote x_5).bind fun t_8 => (if (!t_8) = true then impl_ValidTune.k_7 i_2 true else (if (decide (i_2 > 0)) = true then (ix t0 (w64 (i_2 - 1))).bind fun x_9 => (impl_compareNotes x_9 x_5).bind fun t_10 => impl_ValidTune.k_7 i_2 (decide (t_10 ≥ 0)) else impl_ValidTune.k_7 i_2 false)) else some (.inr (.inr ())))
def impl_ValidTune (t0 : List GNote) : Option (Bool) := (loop (impl_ValidTune.l_3 t0) 0).bind fun t_4 => match t_4 with | .inl p => some p | .inr p => impl_ValidTune.k_1 t0
theorem impl_ValidTune.calls (t0 : List GNote) (w : World) (r : Bool) {A_a : Option Addr} {A_an : Nat} (A_c : Nat) (A_h : Rw w A_a 2 encGNote t0) (A_hn : t0.length = A_an) (h : impl_ValidTune t0 = some r) :
    Calls Try.prog 157 #[(.slice A_a A_an A_c)] w fun e w' => ∃ v, e = .returned v ∧ (v = (.bool r) ∧ Mem w [] [] w') := by
  subst A_hn
  rw [impl_ValidTune] at h
  refine enter (args := [(.slice A_a t0.length A_c)]) Try.func157 rfl Try.ntmps157 (by kernel_rfl) (L := []) (W := []) (Mem.start w) ?_
  refine jc_seq (jc_region (qh [0] (qe (jx_then (jc_seq (jc_seq (jc_region (qh [0,0,0] (qe (jx_then (jc_meet (fun (_ : Unit) => impl_ValidTune.k_1 t0 = some r) (fun (_ : Unit) => [(0, [], (.slice A_a t0.length A_c)), (2, [], (.bool false))]) (fun (_ : Unit) => []) ?_ ?_)))))))))))
  ·refine jc_block ?_
   obtain ⟨t_4, ht_200, hr_181⟩ := bd h
   refine jc_loop (fun (s : Int) (x : Unit) => match s, x with | i_2, _ => True) (fun (s : Int) (x : Unit) => match s, x with | i_2, _ => [(0, [], (.slice A_a t0.length A_c)), (2, [], (.bool false)), (5, [], (.slice A_a t0.length A_c)), (6, [], (.int .i64 (t0.length : Int))), (7, [], (.int .i64 i_2))]) (fun (s : Int) (x : Unit) => match s, x with | i_2, _ => []) ht_200 () trivial (by kernel_rfl) [] (by kernel_rfl) (by kernel_rfl) ?_
   rintro i_2 _ y_182 _ h
   rw [impl_ValidTune.l_3] at h
   refine jc_seq (jc_region (qh [0] (qe (jx_then (jc_seq (qi h (fun h => ?_) (fun h => ?_)))))))
   ·refine jc_skip (jx_then (jc_seq (jc_block (jc_seq (jc_region (qh [0] ?_))))))
    obtain ⟨x_5, hx_185, h⟩ := bd h
    refine tO (qx 0 A_a 2 hx_185 rfl (A_h.sp hx_185) (jkO (tO (ql 0 true (fun w hm => ((hm.xr A_h).at hx_185)) (jkO (tO (qa 0 (fun b_186 => jkO (qh [0] (tO (qs 0 [0] (jkO (qe (jx_then (jc_seq (jc_meet (fun (j : Bool) => match j with | q_6 => impl_ValidTune.k_7 i_2 q_6 = some y_182) (fun (j : Bool) => match j with | q_6 => [(0, [], (.slice A_a t0.length A_c)), (2, [], (.bool false)), (5, [], (.slice A_a t0.length A_c)), (6, [], (.int .i64 (t0.length : Int))), (7, [], (.int .i64 i_2)), (28, [], (.bool q_6))]) (fun (j : Bool) => match j with | q_6 => [⟨some b_186, 104, [(.int .i16 x_5.fAt), (.int .i8 x_5.fPitch)]⟩]) ?_ ?_))))))))))))))))
    ·refine qg [⟨some b_186, 104, [(.int .i16 x_5.fAt), (.int .i8 x_5.fPitch)]⟩] 17 (qd [⟨0, 0, 0⟩] 16 [0] ?_)
     obtain ⟨t_8, ht_194, h⟩ := bd h
     refine tD 1 (pc 0 (fun w hm => impl_isNote.calls x_5 w _ ht_194) ?_)
     rintro w v w' hm ⟨rfl, hm'⟩
     refine ⟨_, hm.app hm', kD [0] ?_⟩
     clear hm hm'
     refine qd [⟨2, 0, 0⟩,⟨3, 0, 0⟩,⟨4, 0, 1⟩,⟨5, 0, 1⟩] 11 [0] (jd_split 15 (!t_8) (by kernel_rfl) (fun hc_195 => ?_) (fun hc_195 => ?_))
     ·replace h := ifT hc_195 h
      exact qd [⟨6, 0, 3⟩,⟨7, 0, 3⟩,⟨8, 0, 3⟩,⟨9, 0, 3⟩,⟨10, 0, 3⟩,⟨11, 0, 3⟩,⟨12, 0, 3⟩,⟨13, 0, 3⟩,⟨14, 0, 3⟩,⟨15, 0, 3⟩,⟨16, 0, 4⟩] 0 [0] (qz (qm true h [0]))
     ·replace h := ifF hc_195 h
      refine qd [⟨6, 0, 2⟩,⟨7, 0, 1⟩,⟨8, 0, 1⟩,⟨9, 0, 1⟩,⟨12, 0, 1⟩] 6 [0] (jd_split 18 (decide (i_2 > 0)) (by kernel_rfl) (fun hc_196 => ?_) (fun hc_196 => ?_))
      ·replace h := ifT hc_196 h
       obtain ⟨x_9, hx_197, h⟩ := bd h
       refine qv 10 2 [0] (fun w hm => idx_run (a := A_a) (len := t0.length) (s := 2) (j := (w64 (i_2 - 1))) (by kernel_rfl) (ix_some hx_197).1 (ltn hx_197 rfl) (A_h.sp hx_197)) (qv 11 2 [0] (fun w hm => ld_run (b := aB A_a) (off := (aO A_a + (w64 (i_2 - 1)).toNat * 2)) (s := 2) (agg := true) (vs := (encGNote x_9)) (by kernel_rfl) (by kernel_rfl) (.inl rfl) ((hm.xr A_h).at hx_197)) ?_)
       obtain ⟨t_10, ht_198, h⟩ := bd h
       refine tD 13 (pc 2 (fun w hm => impl_compareNotes.calls x_9 x_5 w _ ht_198) ?_)
       rintro w v w' hm ⟨rfl, hm'⟩
       refine ⟨_, hm.app hm', kD [0] ?_⟩
       clear hm hm'
       exact qd [⟨14, 0, 2⟩,⟨15, 0, 4⟩,⟨16, 0, 5⟩] 0 [0] (qz (qm (decide (t_10 ≥ 0)) h [0]))
      ·replace h := ifF hc_196 h
       exact qd [⟨10, 0, 3⟩,⟨11, 0, 3⟩,⟨13, 0, 3⟩,⟨14, 0, 3⟩,⟨15, 0, 5⟩,⟨16, 0, 5⟩] 0 [0] (qz (qm false h [0]))
    ·rintro q_6 h
     replace h : impl_ValidTune.k_7 i_2 q_6 = some y_182 := h
     rw [impl_ValidTune.k_7] at h
     refine jx_then (qi h (fun h => ?_) (fun h => ?_))
     ·refine jc_seq (jc_region (qh [0] (qe (jx_then (jc_ret (jx_inr (jx_thenr (jx_leaver (.inl false) (Option.some.inj h).symm (fun e_193 => ?_)))))))))
      subst e_193
      refine jx_inr (jx_thenr (jx_thenr ?_))
      obtain rfl := Option.some.inj hr_181
      exact qr [] (fun w hm => ⟨rfl, hm.pk []⟩)
     ·exact jc_skip (jx_inn (jx_then (jc_region (qh [0,0] (qe (qb (w64 (i_2 + 1)) () h trivial []))))))
   ·refine jc_exit (jx_thenx (jx_leave (.inr ()) (Option.some.inj h).symm (fun e_199 => ?_)))
    subst e_199
    exact jx_ine (qm () hr_181 [])
  ·rintro _ h
   replace h : impl_ValidTune.k_1 t0 = some r := h
   rw [impl_ValidTune.k_1] at h
   refine jx_then (jc_seq (jc_region (qh [0,0,0,0] (qe (jx_then (jc_ret ?_))))))
   obtain rfl := Option.some.inj h
   exact qr [] (fun w hm => ⟨rfl, hm.pk []⟩)
/-! ### impl.tuneCode$1 -/
def impl_tuneCode_1 (t0 : List GNote) : Option (Bool) := (impl_ValidTune t0).bind fun t_1 => some (!t_1)
theorem impl_tuneCode_1.calls (t0 : List GNote) (w : World) (r : Bool) {A_a : Option Addr} {A_an : Nat} (A_c : Nat) (A_h : Rw w A_a 2 encGNote t0) (A_hn : t0.length = A_an) (h : impl_tuneCode_1 t0 = some r) :
    Calls Try.prog 156 #[(.slice A_a A_an A_c)] w fun e w' => ∃ v, e = .returned v ∧ (v = (.bool r) ∧ Mem w [] [] w') := by
  subst A_hn
  rw [impl_tuneCode_1] at h
  refine enter (args := [(.slice A_a t0.length A_c)]) Try.func156 rfl Try.ntmps156 (by kernel_rfl) (L := []) (W := []) (Mem.start w) ?_
  refine jc_seq (jc_region (qh [0] (qe (jx_then (jc_seq (jc_region (qh [0] ?_)))))))
  obtain ⟨t_1, ht_1, h⟩ := bd h
  refine tO (pc 0 (fun w hm => impl_ValidTune.calls t0 w _ A_c (hm.xr A_h) rfl ht_1) ?_)
  rintro w v w' hm ⟨rfl, hm'⟩
  refine ⟨_, hm.app hm', jkO ?_⟩
  clear hm hm'
  refine qh [0,0] (qe (jx_then (jc_ret ?_)))
  obtain rfl := Option.some.inj h
  exact qr [] (fun w hm => ⟨rfl, hm.pk []⟩)
/-! ### slices.IndexFunc[[]impl.Tune,impl.Tune] -/
def slices_IndexFunc_Tune_at_impl_tuneCode_1.k_1 : Option (Int) := some (-1)
def slices_IndexFunc_Tune_at_impl_tuneCode_1.l_3 (s0 : List (List GNote)) : Int → Option ((Int) ⊕ (Int ⊕ Unit))
  | i_2 => (if (decide (i_2 < (s0.length : Int))) = true then (ix s0 i_2).bind fun x_5 => (impl_tuneCode_1 x_5).bind fun t_6 => (if t_6 = true then some (.inr (.inl i_2)) else some (.inl (w64 (i_2 + 1)))) else some (.inr (.inr ())))
def slices_IndexFunc_Tune_at_impl_tuneCode_1 (s0 : List (List GNote)) : Option (Int) := (loop (slices_IndexFunc_Tune_at_impl_tuneCode_1.l_3 s0) 0).bind fun t_4 => match t_4 with | .inl p => some p | .inr p => slices_IndexFunc_Tune_at_impl_tuneCode_1.k_1
theorem slices_IndexFunc_Tune_at_impl_tuneCode_1.calls (s0 : List (List GNote)) (w : World) (r : Int) {A_a : Option Addr} {A_an : Nat} (A_c : Nat) {A_hs : List Hd} (A_h : Rw w A_a 1 encHd A_hs) (A_hn : s0.length = A_an) (A_i : Inn w [] 2 encGNote A_hs s0) (h : slices_IndexFunc_Tune_at_impl_tuneCode_1 s0 = some r) :
    Calls Try.prog 179 #[(.slice A_a A_an A_c), (.func (.func 156) #[] #[])] w fun e w' => ∃ v, e = .returned v ∧ (v = (.int .i64 r) ∧ Mem w [] [] w') := by
  subst A_hn
  rw [slices_IndexFunc_Tune_at_impl_tuneCode_1] at h
  refine enter (args := [(.slice A_a s0.length A_c), (.func (.func 156) #[] #[])]) Try.func179 rfl Try.ntmps179 (by kernel_rfl) (L := []) (W := []) (Mem.start w) ?_
  refine jc_seq (jc_region (qh [0] (qe (jx_then (jc_seq (jc_seq (jc_region (qh [0,0,0] (qe (jx_then (jc_meet (fun (_ : Unit) => slices_IndexFunc_Tune_at_impl_tuneCode_1.k_1 = some r) (fun (_ : Unit) => [(4, [], (.int .i64 0))]) (fun (_ : Unit) => []) ?_ ?_)))))))))))
  ·refine jc_block ?_
   obtain ⟨t_4, ht_40, hr_31⟩ := bd h
   refine jc_loop (fun (s : Int) (x : Unit) => match s, x with | i_2, _ => True) (fun (s : Int) (x : Unit) => match s, x with | i_2, _ => [(0, [], (.slice A_a s0.length A_c)), (1, [], (.func (.func 156) #[] #[])), (4, [], (.int .i64 0)), (7, [], (.int .i64 (s0.length : Int))), (8, [], (.int .i64 i_2))]) (fun (s : Int) (x : Unit) => match s, x with | i_2, _ => []) ht_40 () trivial (by kernel_rfl) [] (by kernel_rfl) (by kernel_rfl) ?_
   rintro i_2 _ y_32 _ h
   rw [slices_IndexFunc_Tune_at_impl_tuneCode_1.l_3] at h
   refine jc_seq (jc_region (qh [0] (qe (jx_then (jc_seq (qi h (fun h => ?_) (fun h => ?_)))))))
   ·refine jc_skip (jx_then (jc_seq (jc_block (jc_seq (jc_region (qh [0,0] (qe (jx_then (jc_seq (jc_region (qh [0,0,0] ?_)))))))))))
    obtain ⟨x_5, hx_35, h⟩ := bd h
    refine tO (qx 0 A_a 1 hx_35 rfl (A_h.sp (A_i.ixh hx_35)) (jkO (tO (ql 0 false (fun w hm => ((hm.xr A_h).at (A_i.ixh hx_35))) (jkO ?_)))))
    obtain ⟨t_6, ht_36, h⟩ := bd h
    refine tO (pc 0 (fun w hm => impl_tuneCode_1.calls x_5 w _ ((hd A_hs i_2).c) (hm.exRow (A_i.get hx_35).1 List.not_mem_nil) (A_i.get hx_35).2.1 ht_36) ?_)
    rintro w v w' hm ⟨rfl, hm'⟩
    refine ⟨_, hm.app hm', jkO ?_⟩
    clear hm hm'
    refine qe (jx_then (qi h (fun h => ?_) (fun h => ?_)))
    ·refine jc_seq (jc_region (qh [0,0] (qe (jx_then (jc_ret (jx_inr (jx_thenr (jx_leaver (.inl i_2) (Option.some.inj h).symm (fun e_38 => ?_)))))))))
     subst e_38
     refine jx_inr (jx_thenr (jx_thenr ?_))
     obtain rfl := Option.some.inj hr_31
     exact qr [] (fun w hm => ⟨rfl, hm.pk []⟩)
    ·exact jc_skip (jx_inn (jx_then (jc_region (qh [0,0] (qe (qb (w64 (i_2 + 1)) () h trivial []))))))
   ·refine jc_exit (jx_thenx (jx_leave (.inr ()) (Option.some.inj h).symm (fun e_39 => ?_)))
    subst e_39
    exact jx_ine (qm () hr_31 [])
  ·rintro _ h
   replace h : slices_IndexFunc_Tune_at_impl_tuneCode_1.k_1 = some r := h
   rw [slices_IndexFunc_Tune_at_impl_tuneCode_1.k_1] at h
   refine jx_then (jc_seq (jc_region (qh [0] (qe (jx_then (jc_ret ?_))))))
   obtain rfl := Option.some.inj h
   exact qr [] (fun w hm => ⟨rfl, hm.pk []⟩)
/-! ### slices.ContainsFunc[[]impl.Tune,impl.Tune] -/
def slices_ContainsFunc_Tune_at_impl_tuneCode_1 (s0 : List (List GNote)) : Option (Bool) := (slices_IndexFunc_Tune_at_impl_tuneCode_1 s0).bind fun t_1 => some (decide (t_1 ≥ 0))
theorem slices_ContainsFunc_Tune_at_impl_tuneCode_1.calls (s0 : List (List GNote)) (w : World) (r : Bool) {A_a : Option Addr} {A_an : Nat} (A_c : Nat) {A_hs : List Hd} (A_h : Rw w A_a 1 encHd A_hs) (A_hn : s0.length = A_an) (A_i : Inn w [] 2 encGNote A_hs s0) (h : slices_ContainsFunc_Tune_at_impl_tuneCode_1 s0 = some r) :
    Calls Try.prog 155 #[(.slice A_a A_an A_c), (.func (.func 156) #[] #[])] w fun e w' => ∃ v, e = .returned v ∧ (v = (.bool r) ∧ Mem w [] [] w') := by
  subst A_hn
  rw [slices_ContainsFunc_Tune_at_impl_tuneCode_1] at h
  refine enter (args := [(.slice A_a s0.length A_c), (.func (.func 156) #[] #[])]) Try.func155 rfl Try.ntmps155 (by kernel_rfl) (L := []) (W := []) (Mem.start w) ?_
  refine jc_seq (jc_region (qh [0] (qe (jx_then (jc_seq (jc_region (qh [0,0] ?_)))))))
  obtain ⟨t_1, ht_1, h⟩ := bd h
  refine tO (pc 0 (fun w hm => slices_IndexFunc_Tune_at_impl_tuneCode_1.calls s0 w _ A_c (hm.xr A_h) rfl (hm.innPass (N := []) A_i [] (by kernel_rfl)) ht_1) ?_)
  rintro w v w' hm ⟨rfl, hm'⟩
  refine ⟨_, hm.app hm', jkO ?_⟩
  clear hm hm'
  refine qh [0,0] (qe (jx_then (jc_ret ?_)))
  obtain rfl := Option.some.inj h
  exact qr [] (fun w hm => ⟨rfl, hm.pk []⟩)
/-! ### impl.tuneCode -/
def impl_tuneCode (list0 : List (List GNote)) : Option (Int) := (slices_ContainsFunc_Tune_at_impl_tuneCode_1 list0).bind fun t_1 => (impl_unless (!t_1) 1).bind fun t_2 => some t_2
theorem impl_tuneCode.calls (list0 : List (List GNote)) (w : World) (r : Int) {A_a : Option Addr} {A_an : Nat} (A_c : Nat) {A_hs : List Hd} (A_h : Rw w A_a 1 encHd A_hs) (A_hn : list0.length = A_an) (A_i : Inn w [] 2 encGNote A_hs list0) (h : impl_tuneCode list0 = some r) :
    Calls Try.prog 115 #[(.slice A_a A_an A_c)] w fun e w' => ∃ v, e = .returned v ∧ (v = (.int .i64 r) ∧ Mem w [] [] w') := by
  subst A_hn
  rw [impl_tuneCode] at h
  refine enter (args := [(.slice A_a list0.length A_c)]) Try.func115 rfl Try.ntmps115 (by kernel_rfl) (L := []) (W := []) (Mem.start w) ?_
  refine jc_seq (jc_region (qh [0] (qe (jx_then (jc_seq (jc_region (qh [0] ?_)))))))
  obtain ⟨t_1, ht_1, h⟩ := bd h
  refine tO (pc 0 (fun w hm => slices_ContainsFunc_Tune_at_impl_tuneCode_1.calls list0 w _ A_c (hm.xr A_h) rfl (hm.innPass (N := []) A_i [] (by kernel_rfl)) ht_1) ?_)
  rintro w v w' hm ⟨rfl, hm'⟩
  refine ⟨_, hm.app hm', jkO ?_⟩
  clear hm hm'
  refine qh [0] ?_
  obtain ⟨t_2, ht_2, h⟩ := bd h
  refine tO (pc 0 (fun w hm => impl_unless.calls (!t_1) 1 w _ ht_2) ?_)
  rintro w v w' hm ⟨rfl, hm'⟩
  refine ⟨_, hm.app hm', jkO ?_⟩
  clear hm hm'
  refine qh [0] (qe (jx_then (jc_ret ?_)))
  obtain rfl := Option.some.inj h
  exact qr [] (fun w hm => ⟨rfl, hm.pk []⟩)
/-! ### impl.ValidChoice -/
def impl_ValidChoice (x0 : GChoice) : Option (Bool) := (if x0.fAway = true then some ((x0.fAway == true) && ((x0.fLate == 0) && ((x0.fOctave == 0) && (x0.fTrack == 0)))) else (impl_within (w64 x0.fLate) (-3) 3).bind fun t_1 => (if t_1 = true then (impl_within (w64 x0.fOctave) (-1) 1).bind fun t_2 => (if t_2 = true then (impl_within (w64 x0.fTrack) 0 23).bind fun t_3 => some t_3 else some false) else some false))
theorem impl_ValidChoice.calls (x0 : GChoice) (w : World) (r : Bool) (h : impl_ValidChoice x0 = some r) :
    Calls Try.prog 188 #[(.agg #[(.bool x0.fAway), (.int .i8 x0.fLate), (.int .i8 x0.fOctave), (.int .i8 x0.fTrack)])] w fun e w' => ∃ v, e = .returned v ∧ (v = (.bool r) ∧ Mem w [] [] w') := by
  rw [impl_ValidChoice] at h
  refine enter (args := [(.agg #[(.bool x0.fAway), (.int .i8 x0.fLate), (.int .i8 x0.fOctave), (.int .i8 x0.fTrack)])]) Try.func188 rfl Try.ntmps188 (by kernel_rfl) (L := []) (W := []) (Mem.start w) ?_
  refine jc_seq (jc_region (tO (qa 0 (fun b_1 => jkO (qh [0] (qe (jx_then (jc_seq (jc_seq (jc_region (qh [0,0] (qe (jx_then (qi h (fun h => ?_) (fun h => ?_)))))))))))))))
  ·refine jc_seq (jc_region (qh [0,0,0,0] (qe (jx_then (jc_ret (jx_thenr ?_))))))
   obtain rfl := Option.some.inj h
   exact qr [] (fun w hm => ⟨rfl, hm.pk []⟩)
  ·refine jc_skip (jx_then (jc_seq (jc_region (qh [0,0,0] ?_))))
   obtain ⟨t_1, ht_4, h⟩ := bd h
   refine tO (pc 0 (fun w hm => impl_within.calls (w64 x0.fLate) (-3) 3 w _ ht_4) ?_)
   rintro w v w' hm ⟨rfl, hm'⟩
   refine ⟨_, hm.app hm', jkO ?_⟩
   clear hm hm'
   refine qf [(0, 0), (0, 1), (0, 1), (0, 1)] (qp 12 h (fun h => ?_) (fun h => ?_))
   ·obtain ⟨t_2, ht_6, h⟩ := bd h
    refine tO (pc 2 (fun w hm => impl_within.calls (w64 x0.fOctave) (-1) 1 w _ ht_6) ?_)
    rintro w v w' hm ⟨rfl, hm'⟩
    refine ⟨_, hm.app hm', jkO ?_⟩
    clear hm hm'
    refine qf [(0, 4), (0, 0), (0, 1), (0, 1), (0, 1)] (qp 18 h (fun h => ?_) (fun h => ?_))
    ·obtain ⟨t_3, ht_8, h⟩ := bd h
     refine tO (pc 2 (fun w hm => impl_within.calls (w64 x0.fTrack) 0 23 w _ ht_8) ?_)
     rintro w v w' hm ⟨rfl, hm'⟩
     refine ⟨_, hm.app hm', jkO ?_⟩
     clear hm hm'
     refine qf [(0, 4), (0, 0)] (qe (jx_then (jc_ret ?_)))
     obtain rfl := Option.some.inj h
     exact qr [] (fun w hm => ⟨rfl, hm.pk []⟩)
    ·refine qf [(0, 3), (0, 5), (0, 0)] (qe (jx_then (jc_ret ?_)))
     obtain rfl := Option.some.inj h
     exact qr [] (fun w hm => ⟨rfl, hm.pk []⟩)
   ·refine qf [(0, 3), (0, 5), (0, 0), (0, 3), (0, 3), (0, 3), (0, 3), (0, 5), (0, 0)] (qe (jx_then (jc_ret ?_)))
    obtain rfl := Option.some.inj h
    exact qr [] (fun w hm => ⟨rfl, hm.pk []⟩)
/-! ### impl.choicesCode$1 -/
def impl_choicesCode_1 (x0 : GChoice) : Option (Bool) := (impl_ValidChoice x0).bind fun t_1 => some (!t_1)
theorem impl_choicesCode_1.calls (x0 : GChoice) (w : World) (r : Bool) (h : impl_choicesCode_1 x0 = some r) :
    Calls Try.prog 187 #[(.agg #[(.bool x0.fAway), (.int .i8 x0.fLate), (.int .i8 x0.fOctave), (.int .i8 x0.fTrack)])] w fun e w' => ∃ v, e = .returned v ∧ (v = (.bool r) ∧ Mem w [] [] w') := by
  rw [impl_choicesCode_1] at h
  refine enter (args := [(.agg #[(.bool x0.fAway), (.int .i8 x0.fLate), (.int .i8 x0.fOctave), (.int .i8 x0.fTrack)])]) Try.func187 rfl Try.ntmps187 (by kernel_rfl) (L := []) (W := []) (Mem.start w) ?_
  refine jc_seq (jc_region (tO (qa 0 (fun b_1 => jkO (qh [0] (qe (jx_then (jc_seq (jc_region (qh [0] ?_))))))))))
  obtain ⟨t_1, ht_2, h⟩ := bd h
  refine tO (pc 0 (fun w hm => impl_ValidChoice.calls x0 w _ ht_2) ?_)
  rintro w v w' hm ⟨rfl, hm'⟩
  refine ⟨_, hm.app hm', jkO ?_⟩
  clear hm hm'
  refine qh [0,0] (qe (jx_then (jc_ret ?_)))
  obtain rfl := Option.some.inj h
  exact qr [] (fun w hm => ⟨rfl, hm.pk []⟩)
/-! ### slices.IndexFunc[[]impl.Choice,impl.Choice] -/
def slices_IndexFunc_Choice_at_impl_choicesCode_1.k_1 : Option (Int) := some (-1)
def slices_IndexFunc_Choice_at_impl_choicesCode_1.l_3 (s0 : List GChoice) : Int → Option ((Int) ⊕ (Int ⊕ Unit))
  | i_2 => (if (decide (i_2 < (s0.length : Int))) = true then (ix s0 i_2).bind fun x_5 => (impl_choicesCode_1 x_5).bind fun t_6 => (if t_6 = true then some (.inr (.inl i_2)) else some (.inl (w64 (i_2 + 1)))) else some (.inr (.inr ())))
def slices_IndexFunc_Choice_at_impl_choicesCode_1 (s0 : List GChoice) : Option (Int) := (loop (slices_IndexFunc_Choice_at_impl_choicesCode_1.l_3 s0) 0).bind fun t_4 => match t_4 with | .inl p => some p | .inr p => slices_IndexFunc_Choice_at_impl_choicesCode_1.k_1
theorem slices_IndexFunc_Choice_at_impl_choicesCode_1.calls (s0 : List GChoice) (w : World) (r : Int) {A_a : Option Addr} {A_an : Nat} (A_c : Nat) (A_h : Rw w A_a 4 encGChoice s0) (A_hn : s0.length = A_an) (h : slices_IndexFunc_Choice_at_impl_choicesCode_1 s0 = some r) :
    Calls Try.prog 198 #[(.slice A_a A_an A_c), (.func (.func 187) #[] #[])] w fun e w' => ∃ v, e = .returned v ∧ (v = (.int .i64 r) ∧ Mem w [] [] w') := by
  subst A_hn
  rw [slices_IndexFunc_Choice_at_impl_choicesCode_1] at h
  refine enter (args := [(.slice A_a s0.length A_c), (.func (.func 187) #[] #[])]) Try.func198 rfl Try.ntmps198 (by kernel_rfl) (L := []) (W := []) (Mem.start w) ?_
  refine jc_seq (jc_region (qh [0] (qe (jx_then (jc_seq (jc_seq (jc_region (qh [0,0,0] (qe (jx_then (jc_meet (fun (_ : Unit) => slices_IndexFunc_Choice_at_impl_choicesCode_1.k_1 = some r) (fun (_ : Unit) => [(4, [], (.int .i64 0))]) (fun (_ : Unit) => []) ?_ ?_)))))))))))
  ·refine jc_block ?_
   obtain ⟨t_4, ht_40, hr_31⟩ := bd h
   refine jc_loop (fun (s : Int) (x : Unit) => match s, x with | i_2, _ => True) (fun (s : Int) (x : Unit) => match s, x with | i_2, _ => [(0, [], (.slice A_a s0.length A_c)), (1, [], (.func (.func 187) #[] #[])), (4, [], (.int .i64 0)), (7, [], (.int .i64 (s0.length : Int))), (8, [], (.int .i64 i_2))]) (fun (s : Int) (x : Unit) => match s, x with | i_2, _ => []) ht_40 () trivial (by kernel_rfl) [] (by kernel_rfl) (by kernel_rfl) ?_
   rintro i_2 _ y_32 _ h
   rw [slices_IndexFunc_Choice_at_impl_choicesCode_1.l_3] at h
   refine jc_seq (jc_region (qh [0] (qe (jx_then (jc_seq (qi h (fun h => ?_) (fun h => ?_)))))))
   ·refine jc_skip (jx_then (jc_seq (jc_block (jc_seq (jc_region (qh [0,0] (qe (jx_then (jc_seq (jc_region (qh [0,0,0] ?_)))))))))))
    obtain ⟨x_5, hx_35, h⟩ := bd h
    refine tO (qx 0 A_a 4 hx_35 rfl (A_h.sp hx_35) (jkO (tO (ql 0 true (fun w hm => ((hm.xr A_h).at hx_35)) (jkO ?_)))))
    obtain ⟨t_6, ht_36, h⟩ := bd h
    refine tO (pc 0 (fun w hm => impl_choicesCode_1.calls x_5 w _ ht_36) ?_)
    rintro w v w' hm ⟨rfl, hm'⟩
    refine ⟨_, hm.app hm', jkO ?_⟩
    clear hm hm'
    refine qe (jx_then (qi h (fun h => ?_) (fun h => ?_)))
    ·refine jc_seq (jc_region (qh [0,0] (qe (jx_then (jc_ret (jx_inr (jx_thenr (jx_leaver (.inl i_2) (Option.some.inj h).symm (fun e_38 => ?_)))))))))
     subst e_38
     refine jx_inr (jx_thenr (jx_thenr ?_))
     obtain rfl := Option.some.inj hr_31
     exact qr [] (fun w hm => ⟨rfl, hm.pk []⟩)
    ·exact jc_skip (jx_inn (jx_then (jc_region (qh [0,0] (qe (qb (w64 (i_2 + 1)) () h trivial []))))))
   ·refine jc_exit (jx_thenx (jx_leave (.inr ()) (Option.some.inj h).symm (fun e_39 => ?_)))
    subst e_39
    exact jx_ine (qm () hr_31 [])
  ·rintro _ h
   replace h : slices_IndexFunc_Choice_at_impl_choicesCode_1.k_1 = some r := h
   rw [slices_IndexFunc_Choice_at_impl_choicesCode_1.k_1] at h
   refine jx_then (jc_seq (jc_region (qh [0] (qe (jx_then (jc_ret ?_))))))
   obtain rfl := Option.some.inj h
   exact qr [] (fun w hm => ⟨rfl, hm.pk []⟩)
/-! ### slices.ContainsFunc[[]impl.Choice,impl.Choice] -/
def slices_ContainsFunc_Choice_at_impl_choicesCode_1 (s0 : List GChoice) : Option (Bool) := (slices_IndexFunc_Choice_at_impl_choicesCode_1 s0).bind fun t_1 => some (decide (t_1 ≥ 0))
theorem slices_ContainsFunc_Choice_at_impl_choicesCode_1.calls (s0 : List GChoice) (w : World) (r : Bool) {A_a : Option Addr} {A_an : Nat} (A_c : Nat) (A_h : Rw w A_a 4 encGChoice s0) (A_hn : s0.length = A_an) (h : slices_ContainsFunc_Choice_at_impl_choicesCode_1 s0 = some r) :
    Calls Try.prog 186 #[(.slice A_a A_an A_c), (.func (.func 187) #[] #[])] w fun e w' => ∃ v, e = .returned v ∧ (v = (.bool r) ∧ Mem w [] [] w') := by
  subst A_hn
  rw [slices_ContainsFunc_Choice_at_impl_choicesCode_1] at h
  refine enter (args := [(.slice A_a s0.length A_c), (.func (.func 187) #[] #[])]) Try.func186 rfl Try.ntmps186 (by kernel_rfl) (L := []) (W := []) (Mem.start w) ?_
  refine jc_seq (jc_region (qh [0] (qe (jx_then (jc_seq (jc_region (qh [0,0] ?_)))))))
  obtain ⟨t_1, ht_1, h⟩ := bd h
  refine tO (pc 0 (fun w hm => slices_IndexFunc_Choice_at_impl_choicesCode_1.calls s0 w _ A_c (hm.xr A_h) rfl ht_1) ?_)
  rintro w v w' hm ⟨rfl, hm'⟩
  refine ⟨_, hm.app hm', jkO ?_⟩
  clear hm hm'
  refine qh [0,0] (qe (jx_then (jc_ret ?_)))
  obtain rfl := Option.some.inj h
  exact qr [] (fun w hm => ⟨rfl, hm.pk []⟩)
/-! ### impl.choicesCode -/
def impl_choicesCode (list0 : List GChoice) : Option (Int) := (slices_ContainsFunc_Choice_at_impl_choicesCode_1 list0).bind fun t_1 => (impl_unless (!t_1) 1).bind fun t_2 => some t_2
theorem impl_choicesCode.calls (list0 : List GChoice) (w : World) (r : Int) {A_a : Option Addr} {A_an : Nat} (A_c : Nat) (A_h : Rw w A_a 4 encGChoice list0) (A_hn : list0.length = A_an) (h : impl_choicesCode list0 = some r) :
    Calls Try.prog 167 #[(.slice A_a A_an A_c)] w fun e w' => ∃ v, e = .returned v ∧ (v = (.int .i64 r) ∧ Mem w [] [] w') := by
  subst A_hn
  rw [impl_choicesCode] at h
  refine enter (args := [(.slice A_a list0.length A_c)]) Try.func167 rfl Try.ntmps167 (by kernel_rfl) (L := []) (W := []) (Mem.start w) ?_
  refine jc_seq (jc_region (qh [0] (qe (jx_then (jc_seq (jc_region (qh [0] ?_)))))))
  obtain ⟨t_1, ht_1, h⟩ := bd h
  refine tO (pc 0 (fun w hm => slices_ContainsFunc_Choice_at_impl_choicesCode_1.calls list0 w _ A_c (hm.xr A_h) rfl ht_1) ?_)
  rintro w v w' hm ⟨rfl, hm'⟩
  refine ⟨_, hm.app hm', jkO ?_⟩
  clear hm hm'
  refine qh [0] ?_
  obtain ⟨t_2, ht_2, h⟩ := bd h
  refine tO (pc 0 (fun w hm => impl_unless.calls (!t_1) 1 w _ ht_2) ?_)
  rintro w v w' hm ⟨rfl, hm'⟩
  refine ⟨_, hm.app hm', jkO ?_⟩
  clear hm hm'
  refine qh [0] (qe (jx_then (jc_ret ?_)))
  obtain rfl := Option.some.inj h
  exact qr [] (fun w hm => ⟨rfl, hm.pk []⟩)
/-! ### impl.firstOf -/
def impl_firstOf.k_1 : Option (Int) := some 0
def impl_firstOf.l_3 (codes0 : List Int) : Int → Option ((Int) ⊕ (Int ⊕ Unit))
  | i_2 => (if (decide (i_2 < (codes0.length : Int))) = true then (ix codes0 i_2).bind fun x_5 => (if (x_5 != 0) = true then some (.inr (.inl x_5)) else some (.inl (w64 (i_2 + 1)))) else some (.inr (.inr ())))
def impl_firstOf (codes0 : List Int) : Option (Int) := (loop (impl_firstOf.l_3 codes0) 0).bind fun t_4 => match t_4 with | .inl p => some p | .inr p => impl_firstOf.k_1
theorem impl_firstOf.calls (codes0 : List Int) (w : World) (r : Int) {A_a : Option Addr} {A_an : Nat} (A_c : Nat) (A_h : Rw w A_a 1 encI64 codes0) (A_hn : codes0.length = A_an) (h : impl_firstOf codes0 = some r) :
    Calls Try.prog 92 #[(.slice A_a A_an A_c)] w fun e w' => ∃ v, e = .returned v ∧ (v = (.int .i64 r) ∧ Mem w [] [] w') := by
  subst A_hn
  rw [impl_firstOf] at h
  refine enter (args := [(.slice A_a codes0.length A_c)]) Try.func92 rfl Try.ntmps92 (by kernel_rfl) (L := []) (W := []) (Mem.start w) ?_
  refine jc_seq (jc_region (qh [0] (qe (jx_then (jc_seq (jc_seq (jc_region (qh [0,0,0] (qe (jx_then (jc_meet (fun (_ : Unit) => impl_firstOf.k_1 = some r) (fun (_ : Unit) => [(2, [], (.int .i64 0))]) (fun (_ : Unit) => []) ?_ ?_)))))))))))
  ·refine jc_block ?_
   obtain ⟨t_4, ht_34, hr_26⟩ := bd h
   refine jc_loop (fun (s : Int) (x : Unit) => match s, x with | i_2, _ => True) (fun (s : Int) (x : Unit) => match s, x with | i_2, _ => [(2, [], (.int .i64 0)), (5, [], (.slice A_a codes0.length A_c)), (6, [], (.int .i64 (codes0.length : Int))), (7, [], (.int .i64 i_2))]) (fun (s : Int) (x : Unit) => match s, x with | i_2, _ => []) ht_34 () trivial (by kernel_rfl) [] (by kernel_rfl) (by kernel_rfl) ?_
   rintro i_2 _ y_27 _ h
   rw [impl_firstOf.l_3] at h
   refine jc_seq (jc_region (qh [0] (qe (jx_then (jc_seq (qi h (fun h => ?_) (fun h => ?_)))))))
   ·refine jc_skip (jx_then (jc_seq (jc_block (jc_seq (jc_region ?_)))))
    obtain ⟨x_5, hx_30, h⟩ := bd h
    refine tO (qx 0 A_a 1 hx_30 rfl (A_h.sp hx_30) (jkO (tO (ql 0 false (fun w hm => ((hm.xr A_h).at hx_30)) (jkO (qh [0] (qe (jx_then (jc_seq (jc_region (qh [0,0] (qe (jx_then (qi h (fun h => ?_) (fun h => ?_)))))))))))))))
    ·refine jc_seq (jc_region (qh [0,0] (qe (jx_then (jc_ret (jx_inr (jx_thenr (jx_leaver (.inl x_5) (Option.some.inj h).symm (fun e_32 => ?_)))))))))
     subst e_32
     refine jx_inr (jx_thenr (jx_thenr ?_))
     obtain rfl := Option.some.inj hr_26
     exact qr [] (fun w hm => ⟨rfl, hm.pk []⟩)
    ·exact jc_skip (jx_inn (jx_then (jc_region (qh [0,0] (qe (qb (w64 (i_2 + 1)) () h trivial []))))))
   ·refine jc_exit (jx_thenx (jx_leave (.inr ()) (Option.some.inj h).symm (fun e_33 => ?_)))
    subst e_33
    exact jx_ine (qm () hr_26 [])
  ·rintro _ h
   replace h : impl_firstOf.k_1 = some r := h
   rw [impl_firstOf.k_1] at h
   refine jx_then (jc_seq (jc_region (qh [0] (qe (jx_then (jc_ret ?_))))))
   obtain rfl := Option.some.inj h
   exact qr [] (fun w hm => ⟨rfl, hm.pk []⟩)
/-! ### impl.tuneFrameCode -/
def impl_tuneFrameCode (f0 : GFrame) (t1 : List GNote) (list2 : List GChoice) : Option (Int) := (impl_ValidFrame f0).bind fun t_1 => (impl_unless t_1 1).bind fun t_2 => (impl_tuneCode [t1]).bind fun t_3 => (impl_choicesCode list2).bind fun t_4 => (impl_firstOf ([t_2, t_3, t_4] : List Int)).bind fun t_5 => some t_5
theorem impl_tuneFrameCode.calls (f0 : GFrame) (t1 : List GNote) (list2 : List GChoice) (w : World) (r : Int) {C_a : Option Addr} {C_an : Nat} (C_c : Nat) (C_h : Rw w C_a 2 encGHammer f0.fHammers) (C_hn : f0.fHammers.length = C_an) {D_a : Option Addr} {D_an : Nat} (D_c : Nat) (D_h : Rw w D_a 2 encGNote t1) (D_hn : t1.length = D_an) {E_a : Option Addr} {E_an : Nat} (E_c : Nat) (E_h : Rw w E_a 4 encGChoice list2) (E_hn : list2.length = E_an) (h : impl_tuneFrameCode f0 t1 list2 = some r) :
    Calls Try.prog 131 #[(.agg #[(.int .i16 f0.fSteps), (.slice C_a C_an C_c)]), (.slice D_a D_an D_c), (.slice E_a E_an E_c)] w fun e w' => ∃ v, e = .returned v ∧ (v = (.int .i64 r) ∧ Mem w [] [] w') := by
  subst C_hn D_hn E_hn
  rw [impl_tuneFrameCode] at h
  refine enter (args := [(.agg #[(.int .i16 f0.fSteps), (.slice C_a f0.fHammers.length C_c)]), (.slice D_a t1.length D_c), (.slice E_a list2.length E_c)]) Try.func131 rfl Try.ntmps131 (by kernel_rfl) (L := []) (W := []) (Mem.start w) ?_
  refine jc_seq (jc_region (tO (qa 0 (fun b_1 => jkO (qh [0] (qe (jx_then (jc_seq (jc_region (qh [0] ?_))))))))))
  obtain ⟨t_1, ht_2, h⟩ := bd h
  refine tO (pc 0 (fun w hm => impl_ValidFrame.calls f0 w _ C_c (hm.xr C_h) rfl ht_2) ?_)
  rintro w v w' hm ⟨rfl, hm'⟩
  refine ⟨_, hm.app hm', jkO ?_⟩
  clear hm hm'
  obtain ⟨t_2, ht_3, h⟩ := bd h
  refine tO (pc 0 (fun w hm => impl_unless.calls t_1 1 w _ ht_3) ?_)
  rintro w v w' hm ⟨rfl, hm'⟩
  refine ⟨_, hm.app hm', jkO ?_⟩
  clear hm hm'
  refine qh [0] (tO (qa 0 (fun b_4 => jkO ?_)))
  obtain ⟨t_3, ht_5, h⟩ := bd h
  refine tO (pc 0 (fun w hm => impl_tuneCode.calls [t1] w _ 1 (hm.ow 1 (some b_4) 52 ([(Hd.mk D_a t1.length D_c)]) [] (fun e => nomatch e) encHd_len) rfl (Inn.cons (hm.xr D_h) rfl (fun _ => List.not_mem_nil) Inn.nil) ht_5) ?_)
  rintro w v w' hm ⟨rfl, hm'⟩
  refine ⟨_, hm.app hm', jkO ?_⟩
  clear hm hm'
  refine qh [0] ?_
  obtain ⟨t_4, ht_6, h⟩ := bd h
  refine tO (pc 0 (fun w hm => impl_choicesCode.calls list2 w _ E_c (hm.xr E_h) rfl ht_6) ?_)
  rintro w v w' hm ⟨rfl, hm'⟩
  refine ⟨_, hm.app hm', jkO ?_⟩
  clear hm hm'
  refine tO (qa 0 (fun b_7 => jkO ?_))
  obtain ⟨t_5, ht_8, h⟩ := bd h
  refine tO (pc 0 (fun w hm => impl_firstOf.calls ([t_2, t_3, t_4] : List Int) w _ 3 (hm.ow 2 (some b_7) 2 ([t_2, t_3, t_4] : List Int) [] (fun e => nomatch e) encI64_len) rfl ht_8) ?_)
  rintro w v w' hm ⟨rfl, hm'⟩
  refine ⟨_, hm.app hm', jkO ?_⟩
  clear hm hm'
  refine qh [0] (qe (jx_then (jc_ret ?_)))
  obtain rfl := Option.some.inj h
  exact qr [] (fun w hm => ⟨rfl, hm.pk []⟩)
/-! ### impl.ValidCosts -/
def impl_ValidCosts (c0 : GCosts) : Option (Bool) := (impl_within (w64 c0.fAway) 0 1000).bind fun t_1 => (if t_1 = true then (impl_within (w64 c0.fOctave) 0 1000).bind fun t_2 => (if t_2 = true then (impl_within (w64 c0.fStep) 0 1000).bind fun t_3 => some t_3 else some false) else some false)
theorem impl_ValidCosts.calls (c0 : GCosts) (w : World) (r : Bool) (h : impl_ValidCosts c0 = some r) :
    Calls Try.prog 132 #[(.agg #[(.int .i16 c0.fAway), (.int .i16 c0.fOctave), (.int .i16 c0.fStep)])] w fun e w' => ∃ v, e = .returned v ∧ (v = (.bool r) ∧ Mem w [] [] w') := by
  rw [impl_ValidCosts] at h
  refine enter (args := [(.agg #[(.int .i16 c0.fAway), (.int .i16 c0.fOctave), (.int .i16 c0.fStep)])]) Try.func132 rfl Try.ntmps132 (by kernel_rfl) (L := []) (W := []) (Mem.start w) ?_
  refine jc_seq (jc_region (tO (qa 0 (fun b_1 => jkO (qh [0] (qe (jx_then (jc_seq (jc_region (qh [0,0,0] ?_))))))))))
  obtain ⟨t_1, ht_2, h⟩ := bd h
  refine tO (pc 0 (fun w hm => impl_within.calls (w64 c0.fAway) 0 1000 w _ ht_2) ?_)
  rintro w v w' hm ⟨rfl, hm'⟩
  refine ⟨_, hm.app hm', jkO ?_⟩
  clear hm hm'
  refine qf [(0, 0), (0, 1), (0, 1), (0, 1)] (qp 7 h (fun h => ?_) (fun h => ?_))
  ·obtain ⟨t_2, ht_4, h⟩ := bd h
   refine tO (pc 2 (fun w hm => impl_within.calls (w64 c0.fOctave) 0 1000 w _ ht_4) ?_)
   rintro w v w' hm ⟨rfl, hm'⟩
   refine ⟨_, hm.app hm', jkO ?_⟩
   clear hm hm'
   refine qf [(0, 4), (0, 0), (0, 1), (0, 1), (0, 1)] (qp 13 h (fun h => ?_) (fun h => ?_))
   ·obtain ⟨t_3, ht_6, h⟩ := bd h
    refine tO (pc 2 (fun w hm => impl_within.calls (w64 c0.fStep) 0 1000 w _ ht_6) ?_)
    rintro w v w' hm ⟨rfl, hm'⟩
    refine ⟨_, hm.app hm', jkO ?_⟩
    clear hm hm'
    refine qf [(0, 4), (0, 0)] (qe (jx_then (jc_ret ?_)))
    obtain rfl := Option.some.inj h
    exact qr [] (fun w hm => ⟨rfl, hm.pk []⟩)
   ·refine qf [(0, 3), (0, 5), (0, 0)] (qe (jx_then (jc_ret ?_)))
    obtain rfl := Option.some.inj h
    exact qr [] (fun w hm => ⟨rfl, hm.pk []⟩)
  ·refine qf [(0, 3), (0, 5), (0, 0), (0, 3), (0, 3), (0, 3), (0, 3), (0, 5), (0, 0)] (qe (jx_then (jc_ret ?_)))
   obtain rfl := Option.some.inj h
   exact qr [] (fun w hm => ⟨rfl, hm.pk []⟩)
/-! ### impl.arrangeCode -/
def impl_arrangeCode (f0 : GFrame) (t1 : List GNote) (c2 : GCosts) : Option (Int) := (impl_tuneFrameCode f0 t1 []).bind fun t_1 => (impl_ValidCosts c2).bind fun t_2 => (impl_unless t_2 1).bind fun t_3 => (impl_firstOf ([t_1, t_3] : List Int)).bind fun t_4 => some t_4
theorem impl_arrangeCode.calls (f0 : GFrame) (t1 : List GNote) (c2 : GCosts) (w : World) (r : Int) {C_a : Option Addr} {C_an : Nat} (C_c : Nat) (C_h : Rw w C_a 2 encGHammer f0.fHammers) (C_hn : f0.fHammers.length = C_an) {D_a : Option Addr} {D_an : Nat} (D_c : Nat) (D_h : Rw w D_a 2 encGNote t1) (D_hn : t1.length = D_an) (h : impl_arrangeCode f0 t1 c2 = some r) :
    Calls Try.prog 93 #[(.agg #[(.int .i16 f0.fSteps), (.slice C_a C_an C_c)]), (.slice D_a D_an D_c), (.agg #[(.int .i16 c2.fAway), (.int .i16 c2.fOctave), (.int .i16 c2.fStep)])] w fun e w' => ∃ v, e = .returned v ∧ (v = (.int .i64 r) ∧ Mem w [] [] w') := by
  subst C_hn D_hn
  rw [impl_arrangeCode] at h
  refine enter (args := [(.agg #[(.int .i16 f0.fSteps), (.slice C_a f0.fHammers.length C_c)]), (.slice D_a t1.length D_c), (.agg #[(.int .i16 c2.fAway), (.int .i16 c2.fOctave), (.int .i16 c2.fStep)])]) Try.func93 rfl Try.ntmps93 (by kernel_rfl) (L := []) (W := []) (Mem.start w) ?_
  refine jc_seq (jc_region (tO (qa 0 (fun b_1 => jkO (tO (qa 0 (fun b_2 => jkO (qh [0] (qe (jx_then (jc_seq (qg [⟨some b_1, 34, [(.int .i16 f0.fSteps), (.slice C_a f0.fHammers.length C_c)]⟩, ⟨some b_2, 74, [(.int .i16 c2.fAway), (.int .i16 c2.fOctave), (.int .i16 c2.fStep)]⟩] 9 (qd [⟨0, 0, 0⟩,⟨1, 0, 0⟩,⟨3, 1, 0⟩] 6 [0, 1] ?_)))))))))))))
  obtain ⟨t_1, ht_3, h⟩ := bd h
  refine tD 2 (pc 0 (fun w hm => impl_tuneFrameCode.calls f0 t1 [] w _ C_c (hm.xr C_h) rfl D_c (hm.xr D_h) rfl 0 Rw.nil rfl ht_3) ?_)
  rintro w v w' hm ⟨rfl, hm'⟩
  refine ⟨_, hm.app hm', kD [0, 1] ?_⟩
  clear hm hm'
  obtain ⟨t_2, ht_4, h⟩ := bd h
  refine tD 4 (pc 0 (fun w hm => impl_ValidCosts.calls c2 w _ ht_4) ?_)
  rintro w v w' hm ⟨rfl, hm'⟩
  refine ⟨_, hm.app hm', kD [0, 1] ?_⟩
  clear hm hm'
  obtain ⟨t_3, ht_5, h⟩ := bd h
  refine tD 5 (pc 0 (fun w hm => impl_unless.calls t_2 1 w _ ht_5) ?_)
  rintro w v w' hm ⟨rfl, hm'⟩
  refine ⟨_, hm.app hm', kD [0, 1] ?_⟩
  clear hm hm'
  refine tD 6 (qa 0 (fun b_6 => kD [0, 1] ?_))
  obtain ⟨t_4, ht_7, h⟩ := bd h
  refine tD 7 (pc 0 (fun w hm => impl_firstOf.calls ([t_1, t_3] : List Int) w _ 2 (hm.ow 2 (some b_6) 2 ([t_1, t_3] : List Int) [] (fun e => nomatch e) encI64_len) rfl ht_7) ?_)
  rintro w v w' hm ⟨rfl, hm'⟩
  refine ⟨_, hm.app hm', kD [0, 1] ?_⟩
  clear hm hm'
  refine qd [⟨8, 0, 0⟩] 0 [0, 1] (qz (jx_then (jc_ret ?_)))
  obtain rfl := Option.some.inj h
  exact qr [] (fun w hm => ⟨rfl, hm.pk []⟩)
/-! ### impl.nearest -/
def impl_nearest.k_2 (xs_1 : List Int) : Option ((List Int)) := some xs_1
def impl_nearest.l_5 (most0 : Int) : ((List Int) × Int) → Option (((List Int) × Int) ⊕ ((List Int)))
  | (xs_3, i_4) => (if (decide (i_4 ≤ most0)) = true then (if xs_3.length + ([(w8 (0 - i_4)), i_4] : List Int).length ≤ 4294967296 then some (.inl ((xs_3 ++ ([(w8 (0 - i_4)), i_4] : List Int)), (w8 (i_4 + 1)))) else none) else some (.inr xs_3))
def impl_nearest (most0 : Int) : Option ((List Int)) := (loop (impl_nearest.l_5 most0) (([0] : List Int), 1)).bind fun t_6 => impl_nearest.k_2 t_6
theorem impl_nearest.calls (most0 : Int) (w : World) (r : (List Int)) (h : impl_nearest most0 = some r) :
    Calls Try.prog 135 #[(.int .i8 most0)] w fun e w' => ∃ v, e = .returned v ∧ (∃ (o0 : Option Nat) (c0 : Nat) (s0 : List Value) (n0 : Nat), r.length = n0 ∧ (o0 ≠ none → n0 ≤ c0 ∧ s0.length = (c0 - n0) * 1) ∧ (o0 = none → r = [] ∧ c0 = 0) ∧ v = .slice (o0.map fun b => ⟨b, 0, none⟩) n0 c0 ∧ Mem w [] [⟨o0, 102, row encI8 r s0⟩] w') := by
  rw [impl_nearest] at h
  refine enter (args := [(.int .i8 most0)]) Try.func135 rfl Try.ntmps135 (by kernel_rfl) (L := []) (W := []) (Mem.start w) ?_
  refine jc_seq (jc_region (qh [0] (qe (jx_then (jc_seq (jc_region (tO (qa 0 (fun b_1 => jkO (qh [0] (qe (jx_then (jc_seq (jc_seq (jc_region (qh [0] (qe (jx_then (jc_meet (fun (j : (List Int) × (Option Nat) × Nat × (List Value) × Nat) => match j with | ⟨xs_1, o_137, cap_138, sp_139, n_140⟩ => impl_nearest.k_2 xs_1 = some r ∧ (xs_1.length = n_140) ∧ ((o_137 ≠ none → n_140 ≤ cap_138 ∧ sp_139.length = (cap_138 - n_140) * 1)) ∧ ((o_137 = none → xs_1 = [] ∧ cap_138 = 0))) (fun (j : (List Int) × (Option Nat) × Nat × (List Value) × Nat) => match j with | ⟨xs_1, o_137, cap_138, sp_139, n_140⟩ => [(2, [], (.slice none 0 0)), (3, [], (.slice (o_137.map fun b => ⟨b, 0, none⟩) n_140 cap_138))]) (fun (j : (List Int) × (Option Nat) × Nat × (List Value) × Nat) => match j with | ⟨xs_1, o_137, cap_138, sp_139, n_140⟩ => [⟨o_137, 102, row encI8 xs_1 sp_139⟩]) ?_ ?_)))))))))))))))))))
  ·refine jc_block ?_
   obtain ⟨t_6, ht_185, hr_173⟩ := bd h
   refine jc_loop (fun (s : (List Int) × Int) (x : (Option Nat) × Nat × (List Value) × Nat) => match s, x with | ⟨xs_3, i_4⟩, ⟨o_167, cap_168, sp_169, n_170⟩ => (xs_3.length = n_170) ∧ ((o_167 ≠ none → n_170 ≤ cap_168 ∧ sp_169.length = (cap_168 - n_170) * 1)) ∧ ((o_167 = none → xs_3 = [] ∧ cap_168 = 0))) (fun (s : (List Int) × Int) (x : (Option Nat) × Nat × (List Value) × Nat) => match s, x with | ⟨xs_3, i_4⟩, ⟨o_167, cap_168, sp_169, n_170⟩ => [(0, [], (.int .i8 most0)), (2, [], (.slice none 0 0)), (3, [], (.slice (o_167.map fun b => ⟨b, 0, none⟩) n_170 cap_168)), (4, [], (.int .i8 i_4))]) (fun (s : (List Int) × Int) (x : (Option Nat) × Nat × (List Value) × Nat) => match s, x with | ⟨xs_3, i_4⟩, ⟨o_167, cap_168, sp_169, n_170⟩ => [⟨o_167, 102, row encI8 xs_3 sp_169⟩]) ht_185 ⟨(some b_1), 1, [], 1⟩ ⟨rfl, (fun _ => ⟨Nat.le_refl _, by simp⟩), (fun e => nomatch e)⟩ (by kernel_rfl) [0] (by kernel_rfl) (by kernel_rfl) ?_
   rintro ⟨xs_3, i_4⟩ ⟨o_167, cap_168, sp_169, n_170⟩ y_174 ⟨rfl, hs_171, ho_172⟩ h
   rw [impl_nearest.l_5] at h
   refine jc_seq (jc_seq (jc_region (qh [0,0,0] (qe (jx_then (qi h (fun h => ?_) (fun h => ?_)))))))
   ·refine jc_skip (jx_then (jc_seq (jc_block (jc_region (qh [0,0,0,0] (tO (qa 0 (fun b_177 => jkO ?_))))))))
    obtain ⟨hg_178, h⟩ := gd h
    exact tO (p_apn 0 0 o_167 102 xs_3.length 2 cap_168 1 1 (some ⟨b_177, 0, none⟩) encI8 xs_3 ([(w8 (0 - i_4)), i_4] : List Int) sp_169 (.int .i8 0) rfl rfl (by kernel_rfl) (by kernel_rfl) (by kernel_rfl) encI8_len encI8_cell hs_171 ho_172 (fun w hm => (hm.ow 1 (some b_177) 102 ([(w8 (0 - i_4)), i_4] : List Int) [] (fun e => nomatch e) encI8_len)) hg_178 (by kernel_rfl) (by kernel_rfl) (fun o_179 cap_180 sp_181 hs_182 ho_183 => jkO (qh [0] (qe (jx_inn (jx_then (jc_region (qh [0,0,0] (qe (qb ((xs_3 ++ ([(w8 (0 - i_4)), i_4] : List Int)), (w8 (i_4 + 1))) ⟨o_179, cap_180, sp_181, (xs_3 ++ ([(w8 (0 - i_4)), i_4] : List Int)).length⟩ h ⟨rfl, hs_182, ho_183⟩ [0]))))))))))
   ·refine jc_exit (jx_thenx (jx_leave xs_3 (Option.some.inj h).symm (fun e_184 => ?_)))
    subst e_184
    exact jx_ine (qm ⟨xs_3, o_167, cap_168, sp_169, xs_3.length⟩ ⟨hr_173, rfl, hs_171, ho_172⟩ [0])
  ·rintro ⟨xs_1, o_137, cap_138, sp_139, n_140⟩ ⟨h, rfl, hs_141, ho_142⟩
   replace h : impl_nearest.k_2 xs_1 = some r := h
   rw [impl_nearest.k_2] at h
   refine jx_then (jc_seq (jc_region (qh [0,0] (qe (jx_then (jc_ret ?_))))))
   obtain rfl := Option.some.inj h
   exact qr [] (fun w hm => ⟨o_137, cap_138, sp_139, xs_1.length, rfl, hs_141, ho_142, rfl, hm.pk [0]⟩)
/-! ### (impl.Frame).choices -/
def impl_Frame_choices.k_3 (xs_2 : List GChoice) : Option ((List GChoice)) := (if xs_2.length + ([(⟨true, 0, 0, 0⟩ : GChoice)] : List GChoice).length ≤ 4294967296 then some (xs_2 ++ ([(⟨true, 0, 0, 0⟩ : GChoice)] : List GChoice)) else none)
def impl_Frame_choices.k_11 (i_5 : Int) (xs_10 : List GChoice) : Option (((List GChoice) × Int) ⊕ ((List GChoice))) := some (.inl (xs_10, (w64 (i_5 + 1))))
def impl_Frame_choices.k_18 (i_13 : Int) (xs_17 : List GChoice) : Option (((List GChoice) × Int) ⊕ ((List GChoice))) := some (.inl (xs_17, (w64 (i_13 + 1))))
def impl_Frame_choices.l_21 (f0 : GFrame) (n1 : GNote) (x_8 : Int) (x_16 : Int) : ((List GChoice) × Int) → Option (((List GChoice) × Int) ⊕ ((List GChoice)))
  | (xs_19, i_20) => (if (decide (i_20 < (f0.fHammers.length : Int))) = true then (ix f0.fHammers i_20).bind fun x_23 => (impl_within (w64 ((w64 n1.fAt) + (w64 x_8))) 0 (w64 ((w64 f0.fSteps) - 1))).bind fun t_24 => (if (t_24 && ((w64 x_23.fPitch) == (w64 ((w64 n1.fPitch) + (w64 (12 * (w64 x_16))))))) = true then (if xs_19.length + ([(⟨false, x_8, x_16, (w8 i_20)⟩ : GChoice)] : List GChoice).length ≤ 4294967296 then some (.inl ((xs_19 ++ ([(⟨false, x_8, x_16, (w8 i_20)⟩ : GChoice)] : List GChoice)), (w64 (i_20 + 1)))) else none) else some (.inl (xs_19, (w64 (i_20 + 1))))) else some (.inr xs_19))
def impl_Frame_choices.l_14 (f0 : GFrame) (n1 : GNote) (x_8 : Int) (t_9 : (List Int)) : ((List GChoice) × Int) → Option (((List GChoice) × Int) ⊕ ((List GChoice)))
  | (xs_12, i_13) => (if (decide (i_13 < (t_9.length : Int))) = true then (ix t_9 i_13).bind fun x_16 => (loop (impl_Frame_choices.l_21 f0 n1 x_8 x_16) (xs_12, 0)).bind fun t_22 => impl_Frame_choices.k_18 i_13 t_22 else some (.inr xs_12))
def impl_Frame_choices.l_6 (f0 : GFrame) (n1 : GNote) (t_1 : (List Int)) : ((List GChoice) × Int) → Option (((List GChoice) × Int) ⊕ ((List GChoice)))
  | (xs_4, i_5) => (if (decide (i_5 < (t_1.length : Int))) = true then (ix t_1 i_5).bind fun x_8 => (impl_nearest 1).bind fun t_9 => (loop (impl_Frame_choices.l_14 f0 n1 x_8 t_9) (xs_4, 0)).bind fun t_15 => impl_Frame_choices.k_11 i_5 t_15 else some (.inr xs_4))
def impl_Frame_choices (f0 : GFrame) (n1 : GNote) : Option ((List GChoice)) := (impl_nearest 3).bind fun t_1 => (loop (impl_Frame_choices.l_6 f0 n1 t_1) (([] : List GChoice), 0)).bind fun t_7 => impl_Frame_choices.k_3 t_7
theorem impl_Frame_choices.calls (f0 : GFrame) (n1 : GNote) (w : World) (r : (List GChoice)) {C_a : Option Addr} {C_an : Nat} (C_c : Nat) (C_h : Rw w C_a 2 encGHammer f0.fHammers) (C_hn : f0.fHammers.length = C_an) (h : impl_Frame_choices f0 n1 = some r) :
    Calls Try.prog 96 #[(.agg #[(.int .i16 f0.fSteps), (.slice C_a C_an C_c)]), (.agg #[(.int .i16 n1.fAt), (.int .i8 n1.fPitch)])] w fun e w' => ∃ v, e = .returned v ∧ (∃ (o0 : Option Nat) (c0 : Nat) (s0 : List Value) (n0 : Nat), r.length = n0 ∧ (o0 ≠ none → n0 ≤ c0 ∧ s0.length = (c0 - n0) * 4) ∧ (o0 = none → r = [] ∧ c0 = 0) ∧ v = .slice (o0.map fun b => ⟨b, 0, none⟩) n0 c0 ∧ Mem w [] [⟨o0, 144, row encGChoice r s0⟩] w') := by
  subst C_hn
  rw [impl_Frame_choices] at h
  refine enter (args := [(.agg #[(.int .i16 f0.fSteps), (.slice C_a f0.fHammers.length C_c)]), (.agg #[(.int .i16 n1.fAt), (.int .i8 n1.fPitch)])]) Try.func96 rfl Try.ntmps96 (by kernel_rfl) (L := []) (W := []) (Mem.start w) ?_
  refine jc_seq (jc_region (tO (qa 0 (fun b_1 => jkO (tO (qa 0 (fun b_2 => jkO (qh [0] (qe (jx_then (jc_seq (jc_region (tO (qa 0 (fun b_3 => jkO (qh [0] (qe (jx_then (jc_seq (jc_seq (jc_region ?_)))))))))))))))))))))
  obtain ⟨t_1, ht_4830, h⟩ := bd h
  refine tO (pc 0 (fun w hm => impl_nearest.calls 3 w _ ht_4830) ?_)
  rintro w v w' hm ⟨o_4831, cap_4832, sp_4833, _, rfl, hs_4834, ho_4835, rfl, hm'⟩
  refine ⟨_, hm.app hm', jkO ?_⟩
  clear hm hm'
  refine qh [0,0] (qe (jx_then (jc_meet (fun (j : (List GChoice) × (Option Nat) × Nat × (List Value) × Nat) => match j with | ⟨xs_2, o_7243, cap_7244, sp_7245, n_7246⟩ => impl_Frame_choices.k_3 xs_2 = some r ∧ (xs_2.length = n_7246) ∧ ((o_7243 ≠ none → n_7246 ≤ cap_7244 ∧ sp_7245.length = (cap_7244 - n_7246) * 4)) ∧ ((o_7243 = none → xs_2 = [] ∧ cap_7244 = 0))) (fun (j : (List GChoice) × (Option Nat) × Nat × (List Value) × Nat) => match j with | ⟨xs_2, o_7243, cap_7244, sp_7245, n_7246⟩ => [(4, [], (.slice none 0 0)), (5, [], (.slice (o_7243.map fun b => ⟨b, 0, none⟩) n_7246 cap_7244))]) (fun (j : (List GChoice) × (Option Nat) × Nat × (List Value) × Nat) => match j with | ⟨xs_2, o_7243, cap_7244, sp_7245, n_7246⟩ => [⟨some b_1, 34, [(.int .i16 f0.fSteps), (.slice C_a f0.fHammers.length C_c)]⟩, ⟨some b_2, 104, [(.int .i16 n1.fAt), (.int .i8 n1.fPitch)]⟩, ⟨o_7243, 144, row encGChoice xs_2 sp_7245⟩, ⟨o_4831, 102, row encI8 t_1 sp_4833⟩]) ?_ ?_)))
  ·refine jc_block ?_
   obtain ⟨t_7, ht_9662, hr_8862⟩ := bd h
   refine jc_loop (fun (s : (List GChoice) × Int) (x : (Option Nat) × Nat × (List Value) × Nat) => match s, x with | ⟨xs_4, i_5⟩, ⟨o_8856, cap_8857, sp_8858, n_8859⟩ => (xs_4.length = n_8859) ∧ ((o_8856 ≠ none → n_8859 ≤ cap_8857 ∧ sp_8858.length = (cap_8857 - n_8859) * 4)) ∧ ((o_8856 = none → xs_4 = [] ∧ cap_8857 = 0))) (fun (s : (List GChoice) × Int) (x : (Option Nat) × Nat × (List Value) × Nat) => match s, x with | ⟨xs_4, i_5⟩, ⟨o_8856, cap_8857, sp_8858, n_8859⟩ => [(2, [], (.pointer (some ⟨b_1, 0, none⟩))), (3, [], (.pointer (some ⟨b_2, 0, none⟩))), (4, [], (.slice none 0 0)), (5, [], (.slice (o_8856.map fun b => ⟨b, 0, none⟩) n_8859 cap_8857)), (15, [], (.slice (o_4831.map fun b => ⟨b, 0, none⟩) t_1.length cap_4832)), (16, [], (.int .i64 (t_1.length : Int))), (17, [], (.int .i64 i_5))]) (fun (s : (List GChoice) × Int) (x : (Option Nat) × Nat × (List Value) × Nat) => match s, x with | ⟨xs_4, i_5⟩, ⟨o_8856, cap_8857, sp_8858, n_8859⟩ => [⟨some b_1, 34, [(.int .i16 f0.fSteps), (.slice C_a f0.fHammers.length C_c)]⟩, ⟨some b_2, 104, [(.int .i16 n1.fAt), (.int .i8 n1.fPitch)]⟩, ⟨o_8856, 144, row encGChoice xs_4 sp_8858⟩, ⟨o_4831, 102, row encI8 t_1 sp_4833⟩]) ht_9662 ⟨(some b_3), 0, [], 0⟩ ⟨rfl, (fun _ => ⟨Nat.le_refl _, by simp⟩), (fun e => nomatch e)⟩ (by kernel_rfl) [0, 1, 2, 3] (by kernel_rfl) (by kernel_rfl) ?_
   rintro ⟨xs_4, i_5⟩ ⟨o_8856, cap_8857, sp_8858, n_8859⟩ y_8863 ⟨rfl, hs_8860, ho_8861⟩ h
   rw [impl_Frame_choices.l_6] at h
   refine jc_seq (jc_region (qh [0] (qe (jx_then (jc_seq (qi h (fun h => ?_) (fun h => ?_)))))))
   ·refine jc_skip (jx_then (jc_seq (jc_block (jc_seq (jc_region ?_)))))
    obtain ⟨x_8, hx_8866, h⟩ := bd h
    refine tO (qx 0 (o_4831.map fun b => ⟨b, 0, none⟩) 1 hx_8866 rfl (spo ho_4835 hx_8866) (jkO (tO (ql 0 false (fun w hm => ((hm.ow 3 o_4831 102 t_1 sp_4833 (fun e => (ho_4835 e).1) encI8_len).at hx_8866)) (jkO (qh [0] (qe (jx_then (jc_seq (jc_region ?_))))))))))
    obtain ⟨t_9, ht_8867, h⟩ := bd h
    refine tO (pc 0 (fun w hm => impl_nearest.calls 1 w _ ht_8867) ?_)
    rintro w v w' hm ⟨o_8868, cap_8869, sp_8870, _, rfl, hs_8871, ho_8872, rfl, hm'⟩
    refine ⟨_, hm.app hm', jkO ?_⟩
    clear hm hm'
    refine qh [0,0] (qe (jx_then (jc_meet (fun (j : (List GChoice) × (Option Nat) × Nat × (List Value) × Nat) => match j with | ⟨xs_10, o_9264, cap_9265, sp_9266, n_9267⟩ => impl_Frame_choices.k_11 i_5 xs_10 = some y_8863 ∧ (xs_10.length = n_9267) ∧ ((o_9264 ≠ none → n_9267 ≤ cap_9265 ∧ sp_9266.length = (cap_9265 - n_9267) * 4)) ∧ ((o_9264 = none → xs_10 = [] ∧ cap_9265 = 0))) (fun (j : (List GChoice) × (Option Nat) × Nat × (List Value) × Nat) => match j with | ⟨xs_10, o_9264, cap_9265, sp_9266, n_9267⟩ => [(2, [], (.pointer (some ⟨b_1, 0, none⟩))), (3, [], (.pointer (some ⟨b_2, 0, none⟩))), (4, [], (.slice none 0 0)), (5, [], (.slice (o_9264.map fun b => ⟨b, 0, none⟩) n_9267 cap_9265)), (15, [], (.slice (o_4831.map fun b => ⟨b, 0, none⟩) t_1.length cap_4832)), (16, [], (.int .i64 (t_1.length : Int))), (17, [], (.int .i64 i_5))]) (fun (j : (List GChoice) × (Option Nat) × Nat × (List Value) × Nat) => match j with | ⟨xs_10, o_9264, cap_9265, sp_9266, n_9267⟩ => [⟨some b_1, 34, [(.int .i16 f0.fSteps), (.slice C_a f0.fHammers.length C_c)]⟩, ⟨some b_2, 104, [(.int .i16 n1.fAt), (.int .i8 n1.fPitch)]⟩, ⟨o_9264, 144, row encGChoice xs_10 sp_9266⟩, ⟨o_4831, 102, row encI8 t_1 sp_4833⟩, ⟨o_8868, 102, row encI8 t_9 sp_8870⟩]) ?_ ?_)))
    ·refine jc_block ?_
     obtain ⟨t_15, ht_9660, hr_9532⟩ := bd h
     refine jc_loop (fun (s : (List GChoice) × Int) (x : (Option Nat) × Nat × (List Value) × Nat) => match s, x with | ⟨xs_12, i_13⟩, ⟨o_9526, cap_9527, sp_9528, n_9529⟩ => (xs_12.length = n_9529) ∧ ((o_9526 ≠ none → n_9529 ≤ cap_9527 ∧ sp_9528.length = (cap_9527 - n_9529) * 4)) ∧ ((o_9526 = none → xs_12 = [] ∧ cap_9527 = 0))) (fun (s : (List GChoice) × Int) (x : (Option Nat) × Nat × (List Value) × Nat) => match s, x with | ⟨xs_12, i_13⟩, ⟨o_9526, cap_9527, sp_9528, n_9529⟩ => [(2, [], (.pointer (some ⟨b_1, 0, none⟩))), (3, [], (.pointer (some ⟨b_2, 0, none⟩))), (4, [], (.slice none 0 0)), (5, [], (.slice (o_9526.map fun b => ⟨b, 0, none⟩) n_9529 cap_9527)), (7, [], (.int .i8 x_8)), (15, [], (.slice (o_4831.map fun b => ⟨b, 0, none⟩) t_1.length cap_4832)), (16, [], (.int .i64 (t_1.length : Int))), (17, [], (.int .i64 i_5)), (21, [], (.slice (o_8868.map fun b => ⟨b, 0, none⟩) t_9.length cap_8869)), (22, [], (.int .i64 (t_9.length : Int))), (23, [], (.int .i64 i_13))]) (fun (s : (List GChoice) × Int) (x : (Option Nat) × Nat × (List Value) × Nat) => match s, x with | ⟨xs_12, i_13⟩, ⟨o_9526, cap_9527, sp_9528, n_9529⟩ => [⟨some b_1, 34, [(.int .i16 f0.fSteps), (.slice C_a f0.fHammers.length C_c)]⟩, ⟨some b_2, 104, [(.int .i16 n1.fAt), (.int .i8 n1.fPitch)]⟩, ⟨o_9526, 144, row encGChoice xs_12 sp_9528⟩, ⟨o_4831, 102, row encI8 t_1 sp_4833⟩, ⟨o_8868, 102, row encI8 t_9 sp_8870⟩]) ht_9660 ⟨o_8856, cap_8857, sp_8858, xs_4.length⟩ ⟨rfl, hs_8860, ho_8861⟩ (by kernel_rfl) [0, 1, 2, 3, 4] (by kernel_rfl) (by kernel_rfl) ?_
     rintro ⟨xs_12, i_13⟩ ⟨o_9526, cap_9527, sp_9528, n_9529⟩ y_9533 ⟨rfl, hs_9530, ho_9531⟩ h
     rw [impl_Frame_choices.l_14] at h
     refine jc_seq (jc_region (qh [0] (qe (jx_then (jc_seq (qi h (fun h => ?_) (fun h => ?_)))))))
     ·refine jc_skip (jx_then (jc_seq (jc_block (jc_seq (jc_region ?_)))))
      obtain ⟨x_16, hx_9536, h⟩ := bd h
      refine tO (qx 0 (o_8868.map fun b => ⟨b, 0, none⟩) 1 hx_9536 rfl (spo ho_8872 hx_9536) (jkO (tO (ql 0 false (fun w hm => ((hm.ow 4 o_8868 102 t_9 sp_8870 (fun e => (ho_8872 e).1) encI8_len).at hx_9536)) (jkO (qh [0] (qe (jx_then (jc_seq (jc_region (qh [0,0,0,0] (qe (jx_then (jc_meet (fun (j : (List GChoice) × (Option Nat) × Nat × (List Value) × Nat) => match j with | ⟨xs_17, o_9595, cap_9596, sp_9597, n_9598⟩ => impl_Frame_choices.k_18 i_13 xs_17 = some y_9533 ∧ (xs_17.length = n_9598) ∧ ((o_9595 ≠ none → n_9598 ≤ cap_9596 ∧ sp_9597.length = (cap_9596 - n_9598) * 4)) ∧ ((o_9595 = none → xs_17 = [] ∧ cap_9596 = 0))) (fun (j : (List GChoice) × (Option Nat) × Nat × (List Value) × Nat) => match j with | ⟨xs_17, o_9595, cap_9596, sp_9597, n_9598⟩ => [(2, [], (.pointer (some ⟨b_1, 0, none⟩))), (3, [], (.pointer (some ⟨b_2, 0, none⟩))), (4, [], (.slice none 0 0)), (5, [], (.slice (o_9595.map fun b => ⟨b, 0, none⟩) n_9598 cap_9596)), (7, [], (.int .i8 x_8)), (15, [], (.slice (o_4831.map fun b => ⟨b, 0, none⟩) t_1.length cap_4832)), (16, [], (.int .i64 (t_1.length : Int))), (17, [], (.int .i64 i_5)), (21, [], (.slice (o_8868.map fun b => ⟨b, 0, none⟩) t_9.length cap_8869)), (22, [], (.int .i64 (t_9.length : Int))), (23, [], (.int .i64 i_13))]) (fun (j : (List GChoice) × (Option Nat) × Nat × (List Value) × Nat) => match j with | ⟨xs_17, o_9595, cap_9596, sp_9597, n_9598⟩ => [⟨some b_1, 34, [(.int .i16 f0.fSteps), (.slice C_a f0.fHammers.length C_c)]⟩, ⟨some b_2, 104, [(.int .i16 n1.fAt), (.int .i8 n1.fPitch)]⟩, ⟨o_9595, 144, row encGChoice xs_17 sp_9597⟩, ⟨o_4831, 102, row encI8 t_1 sp_4833⟩, ⟨o_8868, 102, row encI8 t_9 sp_8870⟩]) ?_ ?_))))))))))))))
      ·refine jc_block ?_
       obtain ⟨t_22, ht_9658, hr_9641⟩ := bd h
       refine jc_loop (fun (s : (List GChoice) × Int) (x : (Option Nat) × Nat × (List Value) × Nat) => match s, x with | ⟨xs_19, i_20⟩, ⟨o_9635, cap_9636, sp_9637, n_9638⟩ => (xs_19.length = n_9638) ∧ ((o_9635 ≠ none → n_9638 ≤ cap_9636 ∧ sp_9637.length = (cap_9636 - n_9638) * 4)) ∧ ((o_9635 = none → xs_19 = [] ∧ cap_9636 = 0))) (fun (s : (List GChoice) × Int) (x : (Option Nat) × Nat × (List Value) × Nat) => match s, x with | ⟨xs_19, i_20⟩, ⟨o_9635, cap_9636, sp_9637, n_9638⟩ => [(2, [], (.pointer (some ⟨b_1, 0, none⟩))), (3, [], (.pointer (some ⟨b_2, 0, none⟩))), (4, [], (.slice none 0 0)), (5, [], (.slice (o_9635.map fun b => ⟨b, 0, none⟩) n_9638 cap_9636)), (7, [], (.int .i8 x_8)), (9, [], (.int .i8 x_16)), (15, [], (.slice (o_4831.map fun b => ⟨b, 0, none⟩) t_1.length cap_4832)), (16, [], (.int .i64 (t_1.length : Int))), (17, [], (.int .i64 i_5)), (21, [], (.slice (o_8868.map fun b => ⟨b, 0, none⟩) t_9.length cap_8869)), (22, [], (.int .i64 (t_9.length : Int))), (23, [], (.int .i64 i_13)), (28, [], (.slice C_a f0.fHammers.length C_c)), (29, [], (.int .i64 (f0.fHammers.length : Int))), (30, [], (.int .i64 i_20))]) (fun (s : (List GChoice) × Int) (x : (Option Nat) × Nat × (List Value) × Nat) => match s, x with | ⟨xs_19, i_20⟩, ⟨o_9635, cap_9636, sp_9637, n_9638⟩ => [⟨some b_1, 34, [(.int .i16 f0.fSteps), (.slice C_a f0.fHammers.length C_c)]⟩, ⟨some b_2, 104, [(.int .i16 n1.fAt), (.int .i8 n1.fPitch)]⟩, ⟨o_9635, 144, row encGChoice xs_19 sp_9637⟩, ⟨o_4831, 102, row encI8 t_1 sp_4833⟩, ⟨o_8868, 102, row encI8 t_9 sp_8870⟩]) ht_9658 ⟨o_9526, cap_9527, sp_9528, xs_12.length⟩ ⟨rfl, hs_9530, ho_9531⟩ (by kernel_rfl) [0, 1, 2, 3, 4] (by kernel_rfl) (by kernel_rfl) ?_
       rintro ⟨xs_19, i_20⟩ ⟨o_9635, cap_9636, sp_9637, n_9638⟩ y_9642 ⟨rfl, hs_9639, ho_9640⟩ h
       rw [impl_Frame_choices.l_21] at h
       refine jc_seq (jc_region (qh [0] (qe (jx_then (jc_seq (qi h (fun h => ?_) (fun h => ?_)))))))
       ·refine jc_skip (jx_then (jc_seq (jc_block (jc_seq (jc_region (qh [0] ?_))))))
        obtain ⟨x_23, hx_9645, h⟩ := bd h
        refine tO (qx 0 C_a 2 hx_9645 rfl (C_h.sp hx_9645) (jkO (tO (ql 0 true (fun w hm => ((hm.xr C_h).at hx_9645)) (jkO (tO (qa 0 (fun b_9646 => jkO (qh [0] (tO (qs 0 [5] (jkO (qe (jx_then (jc_seq (qg [⟨some b_1, 34, [(.int .i16 f0.fSteps), (.slice C_a f0.fHammers.length C_c)]⟩, ⟨some b_2, 104, [(.int .i16 n1.fAt), (.int .i8 n1.fPitch)]⟩, ⟨o_9635, 144, row encGChoice xs_19 sp_9637⟩, ⟨o_4831, 102, row encI8 t_1 sp_4833⟩, ⟨o_8868, 102, row encI8 t_9 sp_8870⟩, ⟨some b_9646, 110, [(.int .i8 x_23.fPitch), (.int .i8 x_23.fReady)]⟩] 15 (qd [⟨0, 0, 0⟩,⟨1, 1, 0⟩,⟨2, 0, 0⟩,⟨3, 0, 0⟩,⟨4, 0, 0⟩,⟨5, 0, 0⟩,⟨6, 0, 0⟩,⟨7, 1, 0⟩,⟨8, 0, 0⟩,⟨9, 0, 0⟩,⟨10, 0, 0⟩,⟨11, 0, 0⟩,⟨12, 0, 0⟩,⟨13, 0, 0⟩,⟨14, 0, 0⟩] 0 [0, 1, 2, 3, 4, 5] (qz (jx_then (jc_seq (jc_region (qh [0,0,0,0,0] ?_))))))))))))))))))))))
        obtain ⟨t_24, ht_9648, h⟩ := bd h
        refine tO (pc 0 (fun w hm => impl_within.calls (w64 ((w64 n1.fAt) + (w64 x_8))) 0 (w64 ((w64 f0.fSteps) - 1)) w _ ht_9648) ?_)
        rintro w v w' hm ⟨rfl, hm'⟩
        refine ⟨_, hm.app hm', jkO ?_⟩
        clear hm hm'
        refine qf [(0, 0), (0, 1), (5, 1), (0, 1), (0, 1), (0, 1), (0, 0)] (qe (jx_then (qi h (fun h => ?_) (fun h => ?_))))
        ·refine jc_region (qh [0,0,0,0,0,0] (tO (qa 0 (fun b_9650 => jkO ?_))))
         obtain ⟨hg_9651, h⟩ := gd h
         exact tO (p_apn 0 2 o_9635 144 xs_19.length 1 cap_9636 4 4 (some ⟨b_9650, 0, none⟩) encGChoice xs_19 ([(⟨false, x_8, x_16, (w8 i_20)⟩ : GChoice)] : List GChoice) sp_9637 (.agg #[(.bool false), (.int .i8 0), (.int .i8 0), (.int .i8 0)]) rfl rfl (by kernel_rfl) (by kernel_rfl) (by kernel_rfl) encGChoice_len encGChoice_cell hs_9639 ho_9640 (fun w hm => (hm.ow 6 (some b_9650) 144 ([(⟨false, x_8, x_16, (w8 i_20)⟩ : GChoice)] : List GChoice) [] (fun e => nomatch e) encGChoice_len)) hg_9651 (by kernel_rfl) (by kernel_rfl) (fun o_9652 cap_9653 sp_9654 hs_9655 ho_9656 => jkO (qh [0] (qe (jx_inn (jx_then (jc_region (qh [0,0] (qe (qb ((xs_19 ++ ([(⟨false, x_8, x_16, (w8 i_20)⟩ : GChoice)] : List GChoice)), (w64 (i_20 + 1))) ⟨o_9652, cap_9653, sp_9654, (xs_19 ++ ([(⟨false, x_8, x_16, (w8 i_20)⟩ : GChoice)] : List GChoice)).length⟩ h ⟨rfl, hs_9655, ho_9656⟩ [0, 1, 2, 3, 4]))))))))))
        ·exact jc_skip (jx_inn (jx_then (jc_region (qh [0,0] (qe (qb (xs_19, (w64 (i_20 + 1))) ⟨o_9635, cap_9636, sp_9637, xs_19.length⟩ h ⟨rfl, hs_9639, ho_9640⟩ [0, 1, 2, 3, 4]))))))
       ·refine jc_exit (jx_thenx (jx_leave xs_19 (Option.some.inj h).symm (fun e_9657 => ?_)))
        subst e_9657
        exact jx_ine (qm ⟨xs_19, o_9635, cap_9636, sp_9637, xs_19.length⟩ ⟨hr_9641, rfl, hs_9639, ho_9640⟩ [0, 1, 2, 3, 4])
      ·rintro ⟨xs_17, o_9595, cap_9596, sp_9597, n_9598⟩ ⟨h, rfl, hs_9599, ho_9600⟩
       replace h : impl_Frame_choices.k_18 i_13 xs_17 = some y_9533 := h
       rw [impl_Frame_choices.k_18] at h
       exact jx_inn (jx_then (jc_region (qh [0,0] (qe (qb (xs_17, (w64 (i_13 + 1))) ⟨o_9595, cap_9596, sp_9597, xs_17.length⟩ h ⟨rfl, hs_9599, ho_9600⟩ [0, 1, 2, 3, 4])))))
     ·refine jc_exit (jx_thenx (jx_leave xs_12 (Option.some.inj h).symm (fun e_9659 => ?_)))
      subst e_9659
      exact jx_ine (qm ⟨xs_12, o_9526, cap_9527, sp_9528, xs_12.length⟩ ⟨hr_9532, rfl, hs_9530, ho_9531⟩ [0, 1, 2, 3, 4])
    ·rintro ⟨xs_10, o_9264, cap_9265, sp_9266, n_9267⟩ ⟨h, rfl, hs_9268, ho_9269⟩
     replace h : impl_Frame_choices.k_11 i_5 xs_10 = some y_8863 := h
     rw [impl_Frame_choices.k_11] at h
     exact jx_inn (jx_then (jc_region (qh [0,0] (qe (qb (xs_10, (w64 (i_5 + 1))) ⟨o_9264, cap_9265, sp_9266, xs_10.length⟩ h ⟨rfl, hs_9268, ho_9269⟩ [0, 1, 2, 3])))))
   ·refine jc_exit (jx_thenx (jx_leave xs_4 (Option.some.inj h).symm (fun e_9661 => ?_)))
    subst e_9661
    exact jx_ine (qm ⟨xs_4, o_8856, cap_8857, sp_8858, xs_4.length⟩ ⟨hr_8862, rfl, hs_8860, ho_8861⟩ [0, 1, 2, 3])
  ·rintro ⟨xs_2, o_7243, cap_7244, sp_7245, n_7246⟩ ⟨h, rfl, hs_7247, ho_7248⟩
   replace h : impl_Frame_choices.k_3 xs_2 = some r := h
   rw [impl_Frame_choices.k_3] at h
   refine jx_then (jc_seq (jc_region (qh [0,0] (tO (qa 0 (fun b_7249 => jkO ?_))))))
   obtain ⟨hg_7250, h⟩ := gd h
   refine tO (p_apn 0 2 o_7243 144 xs_2.length 1 cap_7244 4 4 (some ⟨b_7249, 0, none⟩) encGChoice xs_2 ([(⟨true, 0, 0, 0⟩ : GChoice)] : List GChoice) sp_7245 (.agg #[(.bool false), (.int .i8 0), (.int .i8 0), (.int .i8 0)]) rfl rfl (by kernel_rfl) (by kernel_rfl) (by kernel_rfl) encGChoice_len encGChoice_cell hs_7247 ho_7248 (fun w hm => (hm.ow 4 (some b_7249) 144 ([(⟨true, 0, 0, 0⟩ : GChoice)] : List GChoice) [] (fun e => nomatch e) encGChoice_len)) hg_7250 (by kernel_rfl) (by kernel_rfl) (fun o_7251 cap_7252 sp_7253 hs_7254 ho_7255 => jkO (qh [0] (qe (jx_then (jc_ret ?_))))))
   obtain rfl := Option.some.inj h
   exact qr [] (fun w hm => ⟨o_7251, cap_7252, sp_7253, ((xs_2 ++ ([(⟨true, 0, 0, 0⟩ : GChoice)] : List GChoice)).length), rfl, hs_7254, ho_7255, rfl, hm.pk [2]⟩)
/-! ### impl.bit -/
def impl_bit (b0 : Bool) : Option (Int) := (if b0 = true then some 1 else some 0)
theorem impl_bit.calls (b0 : Bool) (w : World) (r : Int) (h : impl_bit b0 = some r) :
    Calls Try.prog 138 #[(.bool b0)] w fun e w' => ∃ v, e = .returned v ∧ (v = (.int .i64 r) ∧ Mem w [] [] w') := by
  rw [impl_bit] at h
  refine enter (args := [(.bool b0)]) Try.func138 rfl Try.ntmps138 (by kernel_rfl) (L := []) (W := []) (Mem.start w) ?_
  refine jc_seq (jc_region (qh [0] (qe (jx_then (jc_seq (jc_seq (jc_region (qh [0] (qe (jx_then (qi h (fun h => ?_) (fun h => ?_))))))))))))
  ·refine jc_seq (jc_region (qh [0] (qe (jx_then (jc_ret (jx_thenr ?_))))))
   obtain rfl := Option.some.inj h
   exact qr [] (fun w hm => ⟨rfl, hm.pk []⟩)
  ·refine jc_skip (jx_then (jc_seq (jc_region (qh [0] (qe (jx_then (jc_ret ?_)))))))
   obtain rfl := Option.some.inj h
   exact qr [] (fun w hm => ⟨rfl, hm.pk []⟩)
/-! ### (impl.Costs).of -/
def impl_Costs_of (c0 : GCosts) (x1 : GChoice) : Option (Int) := (if x1.fAway = true then some (w64 c0.fAway) else (impl_bit (x1.fOctave != 0)).bind fun t_1 => some (w64 ((w64 ((w64 c0.fStep) * (w64 (if (w8 (0 - x1.fLate)) > x1.fLate then (w8 (0 - x1.fLate)) else x1.fLate)))) + (w64 ((w64 c0.fOctave) * t_1)))))
theorem impl_Costs_of.calls (c0 : GCosts) (x1 : GChoice) (w : World) (r : Int) (h : impl_Costs_of c0 x1 = some r) :
    Calls Try.prog 100 #[(.agg #[(.int .i16 c0.fAway), (.int .i16 c0.fOctave), (.int .i16 c0.fStep)]), (.agg #[(.bool x1.fAway), (.int .i8 x1.fLate), (.int .i8 x1.fOctave), (.int .i8 x1.fTrack)])] w fun e w' => ∃ v, e = .returned v ∧ (v = (.int .i64 r) ∧ Mem w [] [] w') := by
  rw [impl_Costs_of] at h
  refine enter (args := [(.agg #[(.int .i16 c0.fAway), (.int .i16 c0.fOctave), (.int .i16 c0.fStep)]), (.agg #[(.bool x1.fAway), (.int .i8 x1.fLate), (.int .i8 x1.fOctave), (.int .i8 x1.fTrack)])]) Try.func100 rfl Try.ntmps100 (by kernel_rfl) (L := []) (W := []) (Mem.start w) ?_
  refine jc_seq (jc_region (tO (qa 0 (fun b_1 => jkO (tO (qa 0 (fun b_2 => jkO (qh [0] (qe (jx_then (jc_seq (jc_seq (jc_region (qh [0,1] (qe (jx_then (qi h (fun h => ?_) (fun h => ?_))))))))))))))))))
  ·refine jc_seq (jc_region (qh [0,0,0,0] (qe (jx_then (jc_ret (jx_thenr ?_))))))
   obtain rfl := Option.some.inj h
   exact qr [] (fun w hm => ⟨rfl, hm.pk []⟩)
  ·refine jc_skip (jx_then (jc_seq (jc_region (qh [0,1,0,1,0,0,0,0] (qe (jx_then (jc_seq (qg [⟨some b_1, 74, [(.int .i16 c0.fAway), (.int .i16 c0.fOctave), (.int .i16 c0.fStep)]⟩, ⟨some b_2, 144, [(.bool x1.fAway), (.int .i8 x1.fLate), (.int .i8 x1.fOctave), (.int .i8 x1.fTrack)]⟩] 15 (qd [⟨0, 0, 0⟩,⟨1, 0, 0⟩,⟨2, 0, 0⟩,⟨3, 0, 0⟩,⟨4, 0, 0⟩,⟨5, 0, 0⟩,⟨6, 0, 0⟩,⟨7, 0, 0⟩,⟨8, 0, 0⟩,⟨9, 1, 0⟩,⟨10, 0, 0⟩] 4 [0, 1] ?_)))))))))
   obtain ⟨t_1, ht_5, h⟩ := bd h
   refine tD 11 (pc 0 (fun w hm => impl_bit.calls (x1.fOctave != 0) w _ ht_5) ?_)
   rintro w v w' hm ⟨rfl, hm'⟩
   refine ⟨_, hm.app hm', kD [0, 1] ?_⟩
   clear hm hm'
   refine qd [⟨12, 0, 0⟩,⟨13, 0, 0⟩,⟨14, 0, 0⟩] 0 [0, 1] (qz (jx_then (jc_ret ?_)))
   obtain rfl := Option.some.inj h
   exact qr [] (fun w hm => ⟨rfl, hm.pk []⟩)
/-! ### impl.leastEach -/
def impl_leastEach.k_2 (xs_1 : List Int) : Option ((List Int)) := some xs_1
def impl_leastEach.k_10 (xs_3 : List Int) (i_4 : Int) (i_9 : Int) : Option (((List Int) × Int) ⊕ ((List Int))) := (if xs_3.length + ([i_9] : List Int).length ≤ 4294967296 then some (.inl ((xs_3 ++ ([i_9] : List Int)), (w64 (i_4 + 1)))) else none)
def impl_leastEach.l_13 (c2 : GCosts) (t_8 : (List GChoice)) : (Int × Int) → Option ((Int × Int) ⊕ (Int))
  | (i_11, i_12) => (if (decide (i_12 < (t_8.length : Int))) = true then (ix t_8 i_12).bind fun x_15 => (impl_Costs_of c2 x_15).bind fun t_16 => some (.inl ((if t_16 < i_11 then t_16 else i_11), (w64 (i_12 + 1)))) else some (.inr i_11))
def impl_leastEach.l_5 (f0 : GFrame) (t1 : List GNote) (c2 : GCosts) : ((List Int) × Int) → Option (((List Int) × Int) ⊕ ((List Int)))
  | (xs_3, i_4) => (if (decide (i_4 < (t1.length : Int))) = true then (ix t1 i_4).bind fun x_7 => (impl_Frame_choices f0 x_7).bind fun t_8 => (loop (impl_leastEach.l_13 c2 t_8) ((w64 c2.fAway), 0)).bind fun t_14 => impl_leastEach.k_10 xs_3 i_4 t_14 else some (.inr xs_3))
def impl_leastEach (f0 : GFrame) (t1 : List GNote) (c2 : GCosts) : Option ((List Int)) := (loop (impl_leastEach.l_5 f0 t1 c2) (([] : List Int), 0)).bind fun t_6 => impl_leastEach.k_2 t_6
theorem impl_leastEach.calls (f0 : GFrame) (t1 : List GNote) (c2 : GCosts) (w : World) (r : (List Int)) {C_a : Option Addr} {C_an : Nat} (C_c : Nat) (C_h : Rw w C_a 2 encGHammer f0.fHammers) (C_hn : f0.fHammers.length = C_an) {D_a : Option Addr} {D_an : Nat} (D_c : Nat) (D_h : Rw w D_a 2 encGNote t1) (D_hn : t1.length = D_an) (h : impl_leastEach f0 t1 c2 = some r) :
    Calls Try.prog 134 #[(.agg #[(.int .i16 f0.fSteps), (.slice C_a C_an C_c)]), (.slice D_a D_an D_c), (.agg #[(.int .i16 c2.fAway), (.int .i16 c2.fOctave), (.int .i16 c2.fStep)])] w fun e w' => ∃ v, e = .returned v ∧ (∃ (o0 : Option Nat) (c0 : Nat) (s0 : List Value) (n0 : Nat), r.length = n0 ∧ (o0 ≠ none → n0 ≤ c0 ∧ s0.length = (c0 - n0) * 1) ∧ (o0 = none → r = [] ∧ c0 = 0) ∧ v = .slice (o0.map fun b => ⟨b, 0, none⟩) n0 c0 ∧ Mem w [] [⟨o0, 2, row encI64 r s0⟩] w') := by
  subst C_hn D_hn
  rw [impl_leastEach] at h
  refine enter (args := [(.agg #[(.int .i16 f0.fSteps), (.slice C_a f0.fHammers.length C_c)]), (.slice D_a t1.length D_c), (.agg #[(.int .i16 c2.fAway), (.int .i16 c2.fOctave), (.int .i16 c2.fStep)])]) Try.func134 rfl Try.ntmps134 (by kernel_rfl) (L := []) (W := []) (Mem.start w) ?_
  refine jc_seq (jc_region (tO (qa 0 (fun b_1 => jkO (tO (qa 0 (fun b_2 => jkO (qh [0] (qe (jx_then (jc_seq (jc_region (tO (qa 0 (fun b_3 => jkO (qh [0] (qe (jx_then (jc_seq (jc_seq (jc_region (qh [0,0,0] (qe (jx_then (jc_meet (fun (j : (List Int) × (Option Nat) × Nat × (List Value) × Nat) => match j with | ⟨xs_1, o_949, cap_950, sp_951, n_952⟩ => impl_leastEach.k_2 xs_1 = some r ∧ (xs_1.length = n_952) ∧ ((o_949 ≠ none → n_952 ≤ cap_950 ∧ sp_951.length = (cap_950 - n_952) * 1)) ∧ ((o_949 = none → xs_1 = [] ∧ cap_950 = 0))) (fun (j : (List Int) × (Option Nat) × Nat × (List Value) × Nat) => match j with | ⟨xs_1, o_949, cap_950, sp_951, n_952⟩ => [(6, [], (.slice none 0 0)), (7, [], (.slice (o_949.map fun b => ⟨b, 0, none⟩) n_952 cap_950))]) (fun (j : (List Int) × (Option Nat) × Nat × (List Value) × Nat) => match j with | ⟨xs_1, o_949, cap_950, sp_951, n_952⟩ => [⟨some b_1, 34, [(.int .i16 f0.fSteps), (.slice C_a f0.fHammers.length C_c)]⟩, ⟨some b_2, 74, [(.int .i16 c2.fAway), (.int .i16 c2.fOctave), (.int .i16 c2.fStep)]⟩, ⟨o_949, 2, row encI64 xs_1 sp_951⟩]) ?_ ?_)))))))))))))))))))))))))
  ·refine jc_block ?_
   obtain ⟨t_6, ht_1267, hr_1165⟩ := bd h
   refine jc_loop (fun (s : (List Int) × Int) (x : (Option Nat) × Nat × (List Value) × Nat) => match s, x with | ⟨xs_3, i_4⟩, ⟨o_1159, cap_1160, sp_1161, n_1162⟩ => (xs_3.length = n_1162) ∧ ((o_1159 ≠ none → n_1162 ≤ cap_1160 ∧ sp_1161.length = (cap_1160 - n_1162) * 1)) ∧ ((o_1159 = none → xs_3 = [] ∧ cap_1160 = 0))) (fun (s : (List Int) × Int) (x : (Option Nat) × Nat × (List Value) × Nat) => match s, x with | ⟨xs_3, i_4⟩, ⟨o_1159, cap_1160, sp_1161, n_1162⟩ => [(3, [], (.pointer (some ⟨b_1, 0, none⟩))), (5, [], (.pointer (some ⟨b_2, 0, none⟩))), (6, [], (.slice none 0 0)), (7, [], (.slice (o_1159.map fun b => ⟨b, 0, none⟩) n_1162 cap_1160)), (14, [], (.slice D_a t1.length D_c)), (15, [], (.int .i64 (t1.length : Int))), (16, [], (.int .i64 i_4))]) (fun (s : (List Int) × Int) (x : (Option Nat) × Nat × (List Value) × Nat) => match s, x with | ⟨xs_3, i_4⟩, ⟨o_1159, cap_1160, sp_1161, n_1162⟩ => [⟨some b_1, 34, [(.int .i16 f0.fSteps), (.slice C_a f0.fHammers.length C_c)]⟩, ⟨some b_2, 74, [(.int .i16 c2.fAway), (.int .i16 c2.fOctave), (.int .i16 c2.fStep)]⟩, ⟨o_1159, 2, row encI64 xs_3 sp_1161⟩]) ht_1267 ⟨(some b_3), 0, [], 0⟩ ⟨rfl, (fun _ => ⟨Nat.le_refl _, by simp⟩), (fun e => nomatch e)⟩ (by kernel_rfl) [0, 1, 2] (by kernel_rfl) (by kernel_rfl) ?_
   rintro ⟨xs_3, i_4⟩ ⟨o_1159, cap_1160, sp_1161, n_1162⟩ y_1166 ⟨rfl, hs_1163, ho_1164⟩ h
   rw [impl_leastEach.l_5] at h
   refine jc_seq (jc_region (qh [0] (qe (jx_then (jc_seq (qi h (fun h => ?_) (fun h => ?_)))))))
   ·refine jc_skip (jx_then (jc_seq (jc_block (jc_seq (jc_region ?_)))))
    obtain ⟨x_7, hx_1169, h⟩ := bd h
    refine tO (qx 0 D_a 2 hx_1169 rfl (D_h.sp hx_1169) (jkO (tO (ql 0 true (fun w hm => ((hm.xr D_h).at hx_1169)) (jkO (tO (qa 0 (fun b_1170 => jkO (tO (qs 0 [3] (jkO (qe (jx_then (jc_seq (jc_region (qh [0,1,0,0] (qe (jx_then (jc_seq (jc_seq (jc_region (qh [0,3] ?_))))))))))))))))))))))
    obtain ⟨t_8, ht_1215, h⟩ := bd h
    refine tO (pc 0 (fun w hm => impl_Frame_choices.calls f0 x_7 w _ C_c (hm.xr C_h) rfl ht_1215) ?_)
    rintro w v w' hm ⟨o_1216, cap_1217, sp_1218, _, rfl, hs_1219, ho_1220, rfl, hm'⟩
    refine ⟨_, hm.app hm', jkO ?_⟩
    clear hm hm'
    refine qh [0,0] (qe (jx_then (jc_meet (fun (j : Int) => match j with | i_9 => impl_leastEach.k_10 xs_3 i_4 i_9 = some y_1166) (fun (j : Int) => match j with | i_9 => [(3, [], (.pointer (some ⟨b_1, 0, none⟩))), (5, [], (.pointer (some ⟨b_2, 0, none⟩))), (6, [], (.slice none 0 0)), (7, [], (.slice (o_1159.map fun b => ⟨b, 0, none⟩) xs_3.length cap_1160)), (10, [], (.int .i64 i_9)), (14, [], (.slice D_a t1.length D_c)), (15, [], (.int .i64 (t1.length : Int))), (16, [], (.int .i64 i_4))]) (fun (j : Int) => match j with | i_9 => [⟨some b_1, 34, [(.int .i16 f0.fSteps), (.slice C_a f0.fHammers.length C_c)]⟩, ⟨some b_2, 74, [(.int .i16 c2.fAway), (.int .i16 c2.fOctave), (.int .i16 c2.fStep)]⟩, ⟨o_1159, 2, row encI64 xs_3 sp_1161⟩, ⟨some b_1170, 104, [(.int .i16 x_7.fAt), (.int .i8 x_7.fPitch)]⟩, ⟨o_1216, 144, row encGChoice t_8 sp_1218⟩]) ?_ ?_)))
    ·refine jc_block ?_
     obtain ⟨t_14, ht_1265, hr_1257⟩ := bd h
     refine jc_loop (fun (s : Int × Int) (x : Unit) => match s, x with | ⟨i_11, i_12⟩, _ => True) (fun (s : Int × Int) (x : Unit) => match s, x with | ⟨i_11, i_12⟩, _ => [(3, [], (.pointer (some ⟨b_1, 0, none⟩))), (5, [], (.pointer (some ⟨b_2, 0, none⟩))), (6, [], (.slice none 0 0)), (7, [], (.slice (o_1159.map fun b => ⟨b, 0, none⟩) xs_3.length cap_1160)), (10, [], (.int .i64 i_11)), (14, [], (.slice D_a t1.length D_c)), (15, [], (.int .i64 (t1.length : Int))), (16, [], (.int .i64 i_4)), (25, [], (.slice (o_1216.map fun b => ⟨b, 0, none⟩) t_8.length cap_1217)), (26, [], (.int .i64 (t_8.length : Int))), (27, [], (.int .i64 i_12))]) (fun (s : Int × Int) (x : Unit) => match s, x with | ⟨i_11, i_12⟩, _ => [⟨some b_1, 34, [(.int .i16 f0.fSteps), (.slice C_a f0.fHammers.length C_c)]⟩, ⟨some b_2, 74, [(.int .i16 c2.fAway), (.int .i16 c2.fOctave), (.int .i16 c2.fStep)]⟩, ⟨o_1159, 2, row encI64 xs_3 sp_1161⟩, ⟨some b_1170, 104, [(.int .i16 x_7.fAt), (.int .i8 x_7.fPitch)]⟩, ⟨o_1216, 144, row encGChoice t_8 sp_1218⟩]) ht_1265 () trivial (by kernel_rfl) [0, 1, 2, 3, 4] (by kernel_rfl) (by kernel_rfl) ?_
     rintro ⟨i_11, i_12⟩ _ y_1258 _ h
     rw [impl_leastEach.l_13] at h
     refine jc_seq (jc_region (qh [0] (qe (jx_then (jc_seq (qi h (fun h => ?_) (fun h => ?_)))))))
     ·refine jc_skip (jx_then (jc_seq (jc_block (jc_seq (jc_region ?_)))))
      obtain ⟨x_15, hx_1261, h⟩ := bd h
      refine tO (qx 0 (o_1216.map fun b => ⟨b, 0, none⟩) 4 hx_1261 rfl (spo ho_1220 hx_1261) (jkO (tO (ql 0 true (fun w hm => ((hm.ow 4 o_1216 144 t_8 sp_1218 (fun e => (ho_1220 e).1) encGChoice_len).at hx_1261)) (jkO (tO (qa 0 (fun b_1262 => jkO (tO (qs 0 [5] (jkO (qe (jx_then (jc_region (qh [0,1,5] ?_)))))))))))))))
      obtain ⟨t_16, ht_1263, h⟩ := bd h
      refine tO (pc 0 (fun w hm => impl_Costs_of.calls c2 x_15 w _ ht_1263) ?_)
      rintro w v w' hm ⟨rfl, hm'⟩
      refine ⟨_, hm.app hm', jkO ?_⟩
      clear hm hm'
      exact qh [0,0] (qe (jx_inn (jx_then (jc_region (qh [0,0] (qe (qb ((if t_16 < i_11 then t_16 else i_11), (w64 (i_12 + 1))) () h trivial [0, 1, 2, 3, 4])))))))
     ·refine jc_exit (jx_thenx (jx_leave i_11 (Option.some.inj h).symm (fun e_1264 => ?_)))
      subst e_1264
      exact jx_ine (qm i_11 hr_1257 [0, 1, 2, 3, 4])
    ·rintro i_9 h
     replace h : impl_leastEach.k_10 xs_3 i_4 i_9 = some y_1166 := h
     rw [impl_leastEach.k_10] at h
     refine jx_then (jc_region (qh [0,0] (tO (qa 0 (fun b_1240 => jkO ?_)))))
     obtain ⟨hg_1241, h⟩ := gd h
     exact tO (p_apn 0 2 o_1159 2 xs_3.length 1 cap_1160 1 8 (some ⟨b_1240, 0, none⟩) encI64 xs_3 ([i_9] : List Int) sp_1161 (.int .i64 0) rfl rfl (by kernel_rfl) (by kernel_rfl) (by kernel_rfl) encI64_len encI64_cell hs_1163 ho_1164 (fun w hm => (hm.ow 5 (some b_1240) 2 ([i_9] : List Int) [] (fun e => nomatch e) encI64_len)) hg_1241 (by kernel_rfl) (by kernel_rfl) (fun o_1242 cap_1243 sp_1244 hs_1245 ho_1246 => jkO (qh [0] (qe (jx_inn (jx_then (jc_region (qh [0,0] (qe (qb ((xs_3 ++ ([i_9] : List Int)), (w64 (i_4 + 1))) ⟨o_1242, cap_1243, sp_1244, (xs_3 ++ ([i_9] : List Int)).length⟩ h ⟨rfl, hs_1245, ho_1246⟩ [0, 1, 2]))))))))))
   ·refine jc_exit (jx_thenx (jx_leave xs_3 (Option.some.inj h).symm (fun e_1266 => ?_)))
    subst e_1266
    exact jx_ine (qm ⟨xs_3, o_1159, cap_1160, sp_1161, xs_3.length⟩ ⟨hr_1165, rfl, hs_1163, ho_1164⟩ [0, 1, 2])
  ·rintro ⟨xs_1, o_949, cap_950, sp_951, n_952⟩ ⟨h, rfl, hs_953, ho_954⟩
   replace h : impl_leastEach.k_2 xs_1 = some r := h
   rw [impl_leastEach.k_2] at h
   refine jx_then (jc_seq (jc_region (qh [0,0] (qe (jx_then (jc_ret ?_))))))
   obtain rfl := Option.some.inj h
   exact qr [] (fun w hm => ⟨o_949, cap_950, sp_951, xs_1.length, rfl, hs_953, ho_954, rfl, hm.pk [2]⟩)
/-! ### slices.Backward -/
section
open Go.RowKit Go.Shelf
attribute [local go_sem] Oper.semAt_some
set_option maxHeartbeats 2000000 in
theorem back168.full (n : Nat) (l Bs b len cap : Nat) (zs : List Int) (hlen : zs.length = len) (hreach : len * 8 ≤ 140737488351232) (J : Nat → World → Prop) (Jx : World → Prop)
    (hJ : ∀ k W, J k W → W.cell? ⟨Bs, 0, none⟩ = some (.slice (some ⟨b, 0, none⟩) len cap) ∧ ∀ j : Nat, j < len → W.cell? ⟨b, j, none⟩ = some (.int .i64 (zs[j]?.getD 0)))
    (hY : ∀ k W, J k W → k < len → YieldAt Fence.wide (n - 1) Try.prog l #[.int .i64 ((len - 1 - k : Nat) : Int), .int .i64 (zs[len - 1 - k]?.getD 0)] W fun e W' =>
      (e = .returned (.bool true) ∧ J (k + 1) W') ∨ (e = .returned (.bool false) ∧ Jx W'))
    (W : World) (h0 : J 0 W) :
    CallsIn Fence.wide n Try.prog 168 #[.func (.yield l) #[] #[], .pointer (some ⟨Bs, 0, none⟩)] W fun e W' => (∃ v, e = .returned v) ∧ (J len W' ∨ Jx W') := by
  obtain ⟨hBs, _⟩ := hJ 0 W h0
  refine callsIn_of_wp Try.func168 rfl trivial ?_ rfl
  simp only [Try.ntmps168, List.size_toArray, List.length_cons, List.length_nil, Nat.reduceAdd, Nat.reduceSub, Array.replicate_succ, Array.replicate_zero, List.push_toArray, List.append_toArray, List.nil_append, List.cons_append]
  gi_wp2
  gi_loopw [3] (fun i wr => ∃ k : Nat, k ≤ len ∧ i = .int .i64 ((len : Int) - 1 - k) ∧ J k wr)
    (fun i _ => (intOf i + 1).toNat)
  case atStart => exact ⟨0, Nat.zero_le _, by simp, h0⟩
  case round =>
    obtain ⟨k, hk, rfl, hJs⟩ := hrel
    obtain ⟨hB, hc⟩ := hJ k wr hJs
    by_cases hlt : k < len
    · obtain ⟨fn, tmps, assign, body, hy, hR⟩ := hY k wr hJs hlt
      have hcx : wr.cell? ⟨b, len - 1 - k, none⟩ = some (.int .i64 (zs[len - 1 - k]?.getD 0)) := hc (len - 1 - k) (by omega)
      have e1 : ((len : Int) - 1 - k) = ((len - 1 - k : Nat) : Int) := by omega
      clear hc
      rw [e1]
      gi_wp2
      refine ⟨fun h => (by cases h), hR.mono ?_⟩
      rintro e W3 (⟨rfl, hJ3⟩ | ⟨rfl, hJx3⟩)
      · gi_wp2
        go_roundw
        case rel => exact ⟨k + 1, by omega, by simp; omega, hJ3⟩
        case measure => simp [intOf]
      · gi_wp2
        refine bodyPost_ret (results_none rfl _ _ _) rfl ?_
        exact ⟨⟨_, rfl⟩, .inr hJx3⟩
    · obtain rfl : k = len := by omega
      gi_wp2
      go_end0
      exact ⟨⟨_, rfl⟩, .inl hJs⟩
set_option maxHeartbeats 2000000 in
theorem back168.bare (n : Nat) (l Bs cap : Nat) (J : Nat → World → Prop) (Jx : World → Prop) (W : World)
    (hJ : W.cell? ⟨Bs, 0, none⟩ = some (.slice none 0 cap)) (h0 : J 0 W) :
    CallsIn Fence.wide n Try.prog 168 #[.func (.yield l) #[] #[], .pointer (some ⟨Bs, 0, none⟩)] W fun e W' => (∃ v, e = .returned v) ∧ (J 0 W' ∨ Jx W') := by
  refine callsIn_of_wp Try.func168 rfl trivial ?_ rfl
  simp only [Try.ntmps168, List.size_toArray, List.length_cons, List.length_nil, Nat.reduceAdd, Nat.reduceSub, Array.replicate_succ, Array.replicate_zero, List.push_toArray, List.append_toArray, List.nil_append, List.cons_append]
  gi_wp2
  gi_loopw [3] (fun i wr => i = .int .i64 (-1) ∧ J 0 wr) (fun _ _ => 0)
  case atStart => exact ⟨rfl, h0⟩
  case round =>
    obtain ⟨rfl, hJs⟩ := hrel
    gi_wp2
    go_end0
    exact ⟨⟨_, rfl⟩, .inl hJs⟩
theorem back168.iter (b0 : Nat) (o : Option Nat) (xs : List Int) (cap : Nat) (hl : xs.length ≤ 4294967296) (ho : o = none → xs = []) : IterC Try.prog 168 #[.pointer (some ⟨b0, 0, none⟩)] ((backL xs).map encIV) (fun _ => backH b0 o xs cap) (fun _ W W' => W' = W) := by
  intro n l J J' Jx W hH hSt hY h0
  have hlen : ((backL xs).map encIV).length = xs.length := by simp [backL]
  rw [hlen]
  cases o with
  | none =>
    have hx := ho rfl
    subst hx
    exact back168.bare n l b0 cap J Jx W (hH 0 W h0).1 h0
  | some b =>
    refine back168.full n l b0 b xs.length cap xs rfl (by omega) J Jx (fun k W hj => ⟨(hH k W hj).1, fun j hj2 => ?_⟩) (fun k W hj hk => ?_) W h0
    · obtain ⟨c, hc, h2⟩ := (hH k W hj).2 j xs[j] (List.getElem?_eq_getElem hj2)
      cases hc
      rw [h2, List.getElem?_eq_getElem hj2]; rfl
    · have := hY k W (by rw [hlen]; exact hk) (hSt k W W (by rw [hlen]; exact hk) hj rfl)
      simpa [backL, encIV] using this
set_option maxHeartbeats 2000000 in
theorem back168.calls (o : Option Nat) (n c : Nat) (w : World) :
    Calls Try.prog 133 #[.slice (o.map fun b => ⟨b, 0, none⟩) n c] w fun e w' => ∃ v, e = .returned v ∧ (∃ b : Nat, v = .func (.func 168) #[] #[.pointer (some ⟨b, 0, none⟩)] ∧ Mem w [] [⟨some b, 29, [.slice (o.map fun b => ⟨b, 0, none⟩) n c]⟩] w') := by
  generalize (o.map fun b => (⟨b, 0, none⟩ : Addr)) = a
  refine (callsIn_wide (n := 0)).1 (callsIn_of_wp Try.func133 rfl trivial ?_ rfl)
  simp only [Try.ntmps133, List.size_toArray, List.length_cons, List.length_nil, Nat.reduceAdd, Nat.reduceSub, Array.replicate_succ, Array.replicate_zero, List.push_toArray, List.append_toArray, List.nil_append, List.cons_append]
  gi_wp2
  go_ret
  exact ⟨_, rfl, _, rfl, mem_one w 29 [.slice a n c]⟩
end
/-! ### impl.bounds -/
def impl_bounds.l_3 (y_12 : Int × Int) : (List Int) → Option (((List Int)) ⊕ (Unit))
  | xs_2 => (ix xs_2 (w64 (y_12.1 + 1))).bind fun x_5 => (ix xs_2 y_12.1).bind fun x_6 => some (.inl (xs_2.set y_12.1.toNat (w64 (x_5 + y_12.2))))
def impl_bounds.k_7 (xs_2 : List Int) : Option ((List Int)) := some xs_2
def impl_bounds (f0 : GFrame) (t1 : List GNote) (c2 : GCosts) : Option ((List Int)) := (if 0 ≤ (w64 ((t1.length : Int) + 1)) ∧ (w64 ((t1.length : Int) + 1)) ≤ 17592186044416 then (impl_leastEach f0 t1 c2).bind fun t_1 => (if t_1.length ≤ 4294967296 then (seqO impl_bounds.l_3 (backL t_1) (List.replicate (w64 ((t1.length : Int) + 1)).toNat 0)).bind fun t_4 => match t_4 with | .inl p => impl_bounds.k_7 p | .inr _ => none else none) else none)
theorem impl_bounds.calls (f0 : GFrame) (t1 : List GNote) (c2 : GCosts) (w : World) (r : (List Int)) {C_a : Option Addr} {C_an : Nat} (C_c : Nat) (C_h : Rw w C_a 2 encGHammer f0.fHammers) (C_hn : f0.fHammers.length = C_an) {D_a : Option Addr} {D_an : Nat} (D_c : Nat) (D_h : Rw w D_a 2 encGNote t1) (D_hn : t1.length = D_an) (h : impl_bounds f0 t1 c2 = some r) :
    Calls Try.prog 95 #[(.agg #[(.int .i16 f0.fSteps), (.slice C_a C_an C_c)]), (.slice D_a D_an D_c), (.agg #[(.int .i16 c2.fAway), (.int .i16 c2.fOctave), (.int .i16 c2.fStep)])] w fun e w' => ∃ v, e = .returned v ∧ (∃ (o0 : Option Nat) (c0 : Nat) (s0 : List Value) (n0 : Nat), r.length = n0 ∧ (o0 ≠ none → n0 ≤ c0 ∧ s0.length = (c0 - n0) * 1) ∧ (o0 = none → r = [] ∧ c0 = 0) ∧ v = .slice (o0.map fun b => ⟨b, 0, none⟩) n0 c0 ∧ Mem w [] [⟨o0, 2, row encI64 r s0⟩] w') := by
  subst C_hn D_hn
  rw [impl_bounds] at h
  refine enterM (args := [(.agg #[(.int .i16 f0.fSteps), (.slice C_a f0.fHammers.length C_c)]), (.slice D_a t1.length D_c), (.agg #[(.int .i16 c2.fAway), (.int .i16 c2.fOctave), (.int .i16 c2.fStep)])]) Try.func95 rfl Try.ntmps95 (by kernel_rfl) (L := []) (W := []) (Mem.start w) ?_
  refine jc_seq (jc_region (tO (qa 0 (fun b_1 => jkO (tO (qa 0 (fun b_2 => jkO (qh [0] (qe (jx_then (jc_seq (jc_region (qh [0,0,0] ?_)))))))))))))
  obtain ⟨hg_32, h⟩ := gd h
  refine tO (p_mk 0 2 (w64 ((t1.length : Int) + 1)) 1 8 encI64 0 (by kernel_rfl) (by kernel_rfl) hg_32.1 (by omega) (by kernel_rfl) (fun b_3 => jkO (tO (qa 0 (fun b_4 => jkO (tO (qs 0 [3] (jkO (qe (jx_then (jc_seq (jc_seq (jc_region (qh [0,0,1] ?_))))))))))))))
  obtain ⟨t_1, ht_5, h⟩ := bd h
  refine tO (pc 0 (fun w hm => impl_leastEach.calls f0 t1 c2 w _ C_c (hm.xr C_h) rfl D_c (hm.xr D_h) rfl ht_5) ?_)
  rintro w v w' hm ⟨o_6, cap_7, sp_8, _, rfl, hs_9, ho_10, rfl, hm'⟩
  refine ⟨_, hm.app hm', jkO ?_⟩
  clear hm hm'
  refine tO (pc 0 (fun w hm => back168.calls o_6 t_1.length cap_7 w) ?_)
  rintro w v w' hm ⟨b_11, rfl, hm'⟩
  refine ⟨_, hm.app (N := [⟨some b_11, 29, [(.slice (o_6.map fun b => ⟨b, 0, none⟩) t_1.length cap_7)]⟩]) hm', jkO ?_⟩
  clear hm hm'
  refine qe (jx_then (jc_block ?_))
  obtain ⟨hl_31, h⟩ := ifS h
  obtain ⟨t_4, ht_30, hr_23⟩ := bd h
  refine jc_env [(6, [], (.slice none 0 0)), (7, [], (.pointer (some ⟨b_4, 0, none⟩))), (18, [], (.func (.func 168) #[] #[(.pointer (some ⟨b_11, 0, none⟩))]))] (by kernel_rfl) (jc_range encIV (fun (s : (List Int)) (x : Unit) => match s, x with | xs_2, _ => (xs_2.length = (w64 ((t1.length : Int) + 1)).toNat)) (fun (_ : Nat) (s : (List Int)) (x : Unit) => match s, x with | xs_2, _ => [⟨some b_1, 34, [(.int .i16 f0.fSteps), (.slice C_a f0.fHammers.length C_c)]⟩, ⟨some b_2, 74, [(.int .i16 c2.fAway), (.int .i16 c2.fOctave), (.int .i16 c2.fStep)]⟩, ⟨(some b_3), 2, row encI64 xs_2 []⟩, ⟨some b_4, 29, [(.slice (some ⟨b_3, 0, none⟩) ((w64 ((t1.length : Int) + 1)).toNat) ((w64 ((t1.length : Int) + 1)).toNat))]⟩, ⟨o_6, 2, row encI64 t_1 sp_8⟩, ⟨some b_11, 29, [(.slice (o_6.map fun b => ⟨b, 0, none⟩) t_1.length cap_7)]⟩]) (fun (y_12 : Int × Int) => [(6, [], (.slice none 0 0)), (7, [], (.pointer (some ⟨b_4, 0, none⟩))), (8, [], (.int .i64 y_12.1)), (9, [], (.int .i64 y_12.2)), (18, [], (.func (.func 168) #[] #[(.pointer (some ⟨b_11, 0, none⟩))])), (19, [], (.int .i64 y_12.1)), (20, [], (.int .i64 y_12.2))]) (fun _ => backH b_11 o_6 t_1 cap_7) (fun _ W W' => W' = W) ht_30 () List.length_replicate (by kernel_rfl) (enters_of Try.func168 (by kernel_rfl) rfl) (back168.iter b_11 o_6 t_1 cap_7 hl_31 (fun e => (ho_10 e).1)) (fun _ => rfl) (fun _ => by kernel_rfl) [0, 1, 2, 3, 4, 5] (by kernel_rfl) (by kernel_rfl) ?_ ?_ ?_ ?_ ?_)
  ·rintro _ xs_2 _ _ _ w b o _ hm hne
   exact back_H hm hne 5 4 rfl rfl rfl (fun _ => rfl) (fun e => (ho_10 e).1)
  ·intro _ _ _ _ _ _ _ _ _ _ _ _ hm ho _ _ hst
   exact back_St hm ho hst
  ·rintro w1_ W1_ y_12 _ xs_2 _ Q_ hno_ hq_
   exact jr_seq (jr_region (by kernel_rfl) (qh [0] (qe (jr_then (jr_region (by kernel_rfl) (qh [0] (qe (jx_to [(6, [], (.slice none 0 0)), (7, [], (.pointer (some ⟨b_4, 0, none⟩))), (8, [], (.int .i64 y_12.1)), (9, [], (.int .i64 y_12.2)), (18, [], (.func (.func 168) #[] #[(.pointer (some ⟨b_11, 0, none⟩))])), (19, [], (.int .i64 y_12.1)), (20, [], (.int .i64 y_12.2))] [0, 1, 2, 3, 4, 5] (by kernel_rfl) (by kernel_rfl) (by kernel_rfl) hq_))))))))
  ·rintro w1_ W1_ k_ xs_2 _ y_12 o_24 hK_ hn_22 _ h
   rw [impl_bounds.l_3] at h
   refine jr_block (jr_draw (by kernel_rfl) [⟨some b_1, 34, [(.int .i16 f0.fSteps), (.slice C_a f0.fHammers.length C_c)]⟩, ⟨some b_2, 74, [(.int .i16 c2.fAway), (.int .i16 c2.fOctave), (.int .i16 c2.fStep)]⟩, ⟨some b_4, 29, [(.slice (some ⟨b_3, 0, none⟩) ((w64 ((t1.length : Int) + 1)).toNat) ((w64 ((t1.length : Int) + 1)).toNat))]⟩, ⟨o_6, 2, row encI64 t_1 sp_8⟩, ⟨some b_11, 29, [(.slice (o_6.map fun b => ⟨b, 0, none⟩) t_1.length cap_7)]⟩] 11 (by kernel_rfl) (by kernel_rfl) (qd [⟨0, 2, 0⟩,⟨1, 0, 0⟩,⟨2, 2, 0⟩,⟨3, 0, 0⟩,⟨4, 0, 0⟩,⟨7, 0, 0⟩] 5 [0, 1, 3, 4, 5] ?_))
   obtain ⟨x_5, hx_27, h⟩ := bd h
   refine qv 5 0 [0, 1, 3, 4, 5] (fun w hm => idx_run (a := (some ⟨b_3, 0, none⟩)) (len := ((w64 ((t1.length : Int) + 1)).toNat)) (s := 1) (j := (w64 (y_12.1 + 1))) (by kernel_rfl) (ix_some hx_27).1 (ltn hx_27 hn_22) rfl) (tD 6 (ql 0 false (fun w hm => ((hm.ow 2 (some b_3) 2 xs_2 [] (fun e => nomatch e) encI64_len).at hx_27)) (kD [0, 1, 3, 4, 5] (qd [⟨8, 0, 0⟩] 2 [0, 1, 3, 4, 5] ?_))))
   obtain ⟨x_6, hx_28, h⟩ := bd h
   exact qv 9 0 [0, 1, 3, 4, 5] (fun w hm => idx_run (a := (some ⟨b_3, 0, none⟩)) (len := ((w64 ((t1.length : Int) + 1)).toNat)) (s := 1) (j := y_12.1) (by kernel_rfl) (ix_some hx_28).1 (ltn hx_28 hn_22) rfl) (tD 10 (p_str 0 2 b_3 2 encI64 xs_2 [] y_12.1 (w64 (x_5 + y_12.2)) 1 0 [(.int .i64 (w64 (x_5 + y_12.2)))] (by kernel_rfl) (by kernel_rfl) (by kernel_rfl) encI64_len hx_28 (by kernel_rfl) (by kernel_rfl) (kD [0, 1, 3, 4, 5] (qz (jx_inn (jr_back (xs_2.set y_12.1.toNat (w64 (x_5 + y_12.2))) () (Option.some.inj h).symm (List.length_set.trans hn_22) [0, 1, 2, 3, 4, 5] (by kernel_rfl) (by kernel_rfl)))))))
  ·rintro df_ w2_ W2_ htl_29 xs_2 _ hrs_ hn_22
   subst hrs_
   have h : impl_bounds.k_7 xs_2 = some r := hr_23
   rw [impl_bounds.k_7] at h
   refine jx_inn (jx_then (jc_seq (jc_region (qh [3,0] (qe (jx_then (jc_ret ?_)))))))
   obtain rfl := Option.some.inj h
   exact jx_retM htl_29 [] (.slice (some ⟨b_3, 0, none⟩) ((w64 ((t1.length : Int) + 1)).toNat) ((w64 ((t1.length : Int) + 1)).toNat)) [] rfl (by kernel_rfl) (by kernel_rfl) (fun w hm => ⟨(some b_3), ((w64 ((t1.length : Int) + 1)).toNat), [], ((w64 ((t1.length : Int) + 1)).toNat), hn_22, (fun _ => ⟨Nat.le_refl _, by simp⟩), (fun e => nomatch e), rfl, hm.pk [2]⟩)
/-! ### cmp.isNaN[int64] -/
def cmp_isNaN_int64 (x0 : Int) : Option (Bool) := some (x0 != x0)
theorem cmp_isNaN_int64.calls (x0 : Int) (w : World) (r : Bool) (h : cmp_isNaN_int64 x0 = some r) :
    Calls Try.prog 137 #[(.int .i64 x0)] w fun e w' => ∃ v, e = .returned v ∧ (v = (.bool r) ∧ Mem w [] [] w') := by
  rw [cmp_isNaN_int64] at h
  refine enter (args := [(.int .i64 x0)]) Try.func137 rfl Try.ntmps137 (by kernel_rfl) (L := []) (W := []) (Mem.start w) ?_
  refine jc_seq (jc_region (qh [0] (qe (jx_then (jc_seq (jc_region (qh [0,0,0,0] (qe (jx_then (jc_ret ?_))))))))))
  obtain rfl := Option.some.inj h
  exact qr [] (fun w hm => ⟨rfl, hm.pk []⟩)
/-! ### cmp.Compare[int64] -/
def cmp_Compare_int64 (x0 : Int) (y1 : Int) : Option (Int) := (cmp_isNaN_int64 x0).bind fun t_1 => (cmp_isNaN_int64 y1).bind fun t_2 => (if t_1 = true then (if t_2 = true then some 0 else some (-1)) else (if t_2 = true then some 1 else (if (decide (x0 < y1)) = true then some (-1) else (if (decide (x0 > y1)) = true then some 1 else some 0))))
theorem cmp_Compare_int64.calls (x0 : Int) (y1 : Int) (w : World) (r : Int) (h : cmp_Compare_int64 x0 y1 = some r) :
    Calls Try.prog 99 #[(.int .i64 x0), (.int .i64 y1)] w fun e w' => ∃ v, e = .returned v ∧ (v = (.int .i64 r) ∧ Mem w [] [] w') := by
  rw [cmp_Compare_int64] at h
  refine enter (args := [(.int .i64 x0), (.int .i64 y1)]) Try.func99 rfl Try.ntmps99 (by kernel_rfl) (L := []) (W := []) (Mem.start w) ?_
  refine jc_seq (jc_region (qh [0] (qe (jx_then (jc_seq (jc_region (qh [0] ?_)))))))
  obtain ⟨t_1, ht_1, h⟩ := bd h
  refine tO (pc 0 (fun w hm => cmp_isNaN_int64.calls x0 w _ ht_1) ?_)
  rintro w v w' hm ⟨rfl, hm'⟩
  refine ⟨_, hm.app hm', jkO ?_⟩
  clear hm hm'
  refine qh [0] (qe (jx_then (jc_seq (jc_region (qh [0] ?_)))))
  obtain ⟨t_2, ht_2, h⟩ := bd h
  refine tO (pc 0 (fun w hm => cmp_isNaN_int64.calls y1 w _ ht_2) ?_)
  rintro w v w' hm ⟨rfl, hm'⟩
  refine ⟨_, hm.app hm', jkO ?_⟩
  clear hm hm'
  refine qh [0] (qe (jx_then (jc_seq (jc_seq (jc_region (qh [0] (qe (jx_then (qi h (fun h => ?_) (fun h => ?_))))))))))
  ·refine jc_seq (jc_seq (jc_region (qh [0] (qe (jx_then (qi h (fun h => ?_) (fun h => ?_)))))))
   ·refine jc_seq (jc_region (qh [0] (qe (jx_then (jc_ret (jx_thenr (jx_thenr ?_)))))))
    obtain rfl := Option.some.inj h
    exact qr [] (fun w hm => ⟨rfl, hm.pk []⟩)
   ·refine jc_skip (jx_then (jc_seq (jc_region (qh [0] (qe (jx_then (jc_ret (jx_thenr ?_))))))))
    obtain rfl := Option.some.inj h
    exact qr [] (fun w hm => ⟨rfl, hm.pk []⟩)
  ·refine jc_skip (jx_then (jc_seq (jc_seq (jc_region (qh [0] (qe (jx_then (qi h (fun h => ?_) (fun h => ?_)))))))))
   ·refine jc_seq (jc_region (qh [0] (qe (jx_then (jc_ret (jx_thenr ?_))))))
    obtain rfl := Option.some.inj h
    exact qr [] (fun w hm => ⟨rfl, hm.pk []⟩)
   ·refine jc_skip (jx_then (jc_seq (jc_seq (jc_region (qh [0,0,0] (qe (jx_then (qi h (fun h => ?_) (fun h => ?_)))))))))
    ·refine jc_seq (jc_region (qh [0] (qe (jx_then (jc_ret (jx_thenr ?_))))))
     obtain rfl := Option.some.inj h
     exact qr [] (fun w hm => ⟨rfl, hm.pk []⟩)
    ·refine jc_skip (jx_then (jc_seq (jc_seq (jc_region (qh [0,0,0] (qe (jx_then (qi h (fun h => ?_) (fun h => ?_)))))))))
     ·refine jc_seq (jc_region (qh [0] (qe (jx_then (jc_ret (jx_thenr ?_))))))
      obtain rfl := Option.some.inj h
      exact qr [] (fun w hm => ⟨rfl, hm.pk []⟩)
     ·refine jc_skip (jx_then (jc_seq (jc_region (qh [0] (qe (jx_then (jc_ret ?_)))))))
      obtain rfl := Option.some.inj h
      exact qr [] (fun w hm => ⟨rfl, hm.pk []⟩)
/-! ### impl.Arrange$1 -/
def impl_Arrange_1 (x0 : GChoice) (y1 : GChoice) (p2 : GCosts) : Option (Int) := (impl_Costs_of p2 x0).bind fun t_1 => (impl_Costs_of p2 y1).bind fun t_2 => (cmp_Compare_int64 t_1 t_2).bind fun t_3 => some t_3
theorem impl_Arrange_1.calls (x0 : GChoice) (y1 : GChoice) (p2 : GCosts) (w : World) (r : Int) (K_b : Nat) (hm0 : Mem w (bs [some K_b]) [⟨some K_b, 74, [(.int .i16 p2.fAway), (.int .i16 p2.fOctave), (.int .i16 p2.fStep)]⟩] w) (h : impl_Arrange_1 x0 y1 p2 = some r) :
    Calls Try.prog 98 #[(.agg #[(.bool x0.fAway), (.int .i8 x0.fLate), (.int .i8 x0.fOctave), (.int .i8 x0.fTrack)]), (.agg #[(.bool y1.fAway), (.int .i8 y1.fLate), (.int .i8 y1.fOctave), (.int .i8 y1.fTrack)]), (.pointer (some ⟨K_b, 0, none⟩))] w fun e w' => ∃ v, e = .returned v ∧ (v = (.int .i64 r) ∧ Mem w (bs [some K_b]) [⟨some K_b, 74, [(.int .i16 p2.fAway), (.int .i16 p2.fOctave), (.int .i16 p2.fStep)]⟩] w') := by
  rw [impl_Arrange_1] at h
  refine enter (args := [(.agg #[(.bool x0.fAway), (.int .i8 x0.fLate), (.int .i8 x0.fOctave), (.int .i8 x0.fTrack)]), (.agg #[(.bool y1.fAway), (.int .i8 y1.fLate), (.int .i8 y1.fOctave), (.int .i8 y1.fTrack)]), (.pointer (some ⟨K_b, 0, none⟩))]) Try.func98 rfl Try.ntmps98 (by kernel_rfl) (L := [⟨some K_b, 74, [(.int .i16 p2.fAway), (.int .i16 p2.fOctave), (.int .i16 p2.fStep)]⟩]) (W := bs [some K_b]) hm0 ?_
  refine jc_seq (jc_region (tO (qa 0 (fun b_1 => jkO (tO (qa 0 (fun b_2 => jkO (qh [0] (qe (jx_then (jc_seq (qg [⟨some K_b, 74, [(.int .i16 p2.fAway), (.int .i16 p2.fOctave), (.int .i16 p2.fStep)]⟩, ⟨some b_1, 144, [(.bool x0.fAway), (.int .i8 x0.fLate), (.int .i8 x0.fOctave), (.int .i8 x0.fTrack)]⟩, ⟨some b_2, 144, [(.bool y1.fAway), (.int .i8 y1.fLate), (.int .i8 y1.fOctave), (.int .i8 y1.fTrack)]⟩] 8 (qd [⟨0, 0, 0⟩,⟨1, 1, 0⟩,⟨3, 0, 0⟩,⟨4, 2, 0⟩] 4 [0, 1, 2] ?_)))))))))))))
  obtain ⟨t_1, ht_3, h⟩ := bd h
  refine tD 2 (pc 0 (fun w hm => impl_Costs_of.calls p2 x0 w _ ht_3) ?_)
  rintro w v w' hm ⟨rfl, hm'⟩
  refine ⟨_, hm.app hm', kD [0, 1, 2] ?_⟩
  clear hm hm'
  obtain ⟨t_2, ht_4, h⟩ := bd h
  refine tD 5 (pc 0 (fun w hm => impl_Costs_of.calls p2 y1 w _ ht_4) ?_)
  rintro w v w' hm ⟨rfl, hm'⟩
  refine ⟨_, hm.app hm', kD [0, 1, 2] ?_⟩
  clear hm hm'
  obtain ⟨t_3, ht_5, h⟩ := bd h
  refine tD 6 (pc 0 (fun w hm => cmp_Compare_int64.calls t_1 t_2 w _ ht_5) ?_)
  rintro w v w' hm ⟨rfl, hm'⟩
  refine ⟨_, hm.app hm', kD [0, 1, 2] ?_⟩
  clear hm hm'
  refine qd [⟨7, 0, 0⟩] 0 [0, 1, 2] (qz (jx_then (jc_ret ?_)))
  obtain rfl := Option.some.inj h
  exact qr [] (fun w hm => ⟨rfl, hm.pk [0]⟩)
/-! ### slices.insertionSortCmpFunc[impl.Choice] -/
def slices_insertionSortCmpFunc_Choice_at_impl_Arrange_1.k_2 (xs_1 : List GChoice) : Option ((List GChoice)) := some xs_1
def slices_insertionSortCmpFunc_Choice_at_impl_Arrange_1.k_8 (i_4 : Int) (xs_7 : List GChoice) : Option (((List GChoice) × Int) ⊕ ((List GChoice))) := some (.inl (xs_7, (w64 (i_4 + 1))))
def slices_insertionSortCmpFunc_Choice_at_impl_Arrange_1.l_11 (a1 : Int) (g3c0 : GCosts) : ((List GChoice) × Int) → Option (((List GChoice) × Int) ⊕ ((List GChoice)))
  | (xs_9, i_10) => (if (decide (i_10 > a1)) = true then (ix xs_9 i_10).bind fun x_13 => (ix xs_9 (w64 (i_10 - 1))).bind fun x_14 => (impl_Arrange_1 x_13 x_14 g3c0).bind fun t_15 => (if (decide (t_15 < 0)) = true then (ix xs_9 (w64 (i_10 - 1))).bind fun x_16 => (ix xs_9 i_10).bind fun x_17 => (ix xs_9 i_10).bind fun x_18 => (ix (xs_9.set i_10.toNat x_16) (w64 (i_10 - 1))).bind fun x_19 => some (.inl (((xs_9.set i_10.toNat x_16).set (w64 (i_10 - 1)).toNat x_17), (w64 (i_10 - 1)))) else some (.inr xs_9)) else some (.inr xs_9))
def slices_insertionSortCmpFunc_Choice_at_impl_Arrange_1.l_5 (a1 : Int) (b2 : Int) (g3c0 : GCosts) : ((List GChoice) × Int) → Option (((List GChoice) × Int) ⊕ ((List GChoice)))
  | (xs_3, i_4) => (if (decide (i_4 < b2)) = true then (loop (slices_insertionSortCmpFunc_Choice_at_impl_Arrange_1.l_11 a1 g3c0) (xs_3, i_4)).bind fun t_12 => slices_insertionSortCmpFunc_Choice_at_impl_Arrange_1.k_8 i_4 t_12 else some (.inr xs_3))
def slices_insertionSortCmpFunc_Choice_at_impl_Arrange_1 (data0 : List GChoice) (a1 : Int) (b2 : Int) (g3c0 : GCosts) : Option ((List GChoice)) := (loop (slices_insertionSortCmpFunc_Choice_at_impl_Arrange_1.l_5 a1 b2 g3c0) (data0, (w64 (a1 + 1)))).bind fun t_6 => slices_insertionSortCmpFunc_Choice_at_impl_Arrange_1.k_2 t_6
theorem slices_insertionSortCmpFunc_Choice_at_impl_Arrange_1.calls (data0 : List GChoice) (a1 : Int) (b2 : Int) (g3c0 : GCosts) (w : World) (r : (List GChoice)) (A_o : Option Nat) {A_on : Nat} {A_c : Nat} {A_sp : List Value} (A_hn : data0.length = A_on) (A_hs : A_o ≠ none → A_on ≤ A_c ∧ A_sp.length = (A_c - A_on) * 4) (A_ho : A_o = none → data0 = [] ∧ A_c = 0) (D_b : Nat) (hm0 : Mem w (bs [A_o, some D_b]) [⟨A_o, 144, row encGChoice data0 A_sp⟩, ⟨some D_b, 74, [(.int .i16 g3c0.fAway), (.int .i16 g3c0.fOctave), (.int .i16 g3c0.fStep)]⟩] w) (h : slices_insertionSortCmpFunc_Choice_at_impl_Arrange_1 data0 a1 b2 g3c0 = some r) :
    Calls Try.prog 169 #[(.slice (A_o.map fun b => ⟨b, 0, none⟩) A_on A_c), (.int .i64 a1), (.int .i64 b2), (.func (.func 98) #[] #[(.pointer (some ⟨D_b, 0, none⟩))])] w fun e w' => ∃ v, e = .returned v ∧ (r.length = A_on ∧ (A_o = none → r = [] ∧ A_c = 0) ∧ v = .tuple #[] ∧ Mem w (bs [A_o, some D_b]) [⟨A_o, 144, row encGChoice r A_sp⟩, ⟨some D_b, 74, [(.int .i16 g3c0.fAway), (.int .i16 g3c0.fOctave), (.int .i16 g3c0.fStep)]⟩] w') := by
  subst A_hn
  rw [slices_insertionSortCmpFunc_Choice_at_impl_Arrange_1] at h
  refine enter (args := [(.slice (A_o.map fun b => ⟨b, 0, none⟩) data0.length A_c), (.int .i64 a1), (.int .i64 b2), (.func (.func 98) #[] #[(.pointer (some ⟨D_b, 0, none⟩))])]) Try.func169 rfl Try.ntmps169 (by kernel_rfl) (L := [⟨A_o, 144, row encGChoice data0 A_sp⟩, ⟨some D_b, 74, [(.int .i16 g3c0.fAway), (.int .i16 g3c0.fOctave), (.int .i16 g3c0.fStep)]⟩]) (W := bs [A_o, some D_b]) hm0 ?_
  refine jc_seq (jc_region (qh [0,0,0] (qe (jx_then (jc_meet (fun (j : (List GChoice)) => match j with | xs_1 => slices_insertionSortCmpFunc_Choice_at_impl_Arrange_1.k_2 xs_1 = some r ∧ (xs_1.length = data0.length) ∧ ((A_o = none → xs_1 = [] ∧ A_c = 0))) (fun (j : (List GChoice)) => match j with | xs_1 => []) (fun (j : (List GChoice)) => match j with | xs_1 => [⟨A_o, 144, row encGChoice xs_1 A_sp⟩, ⟨some D_b, 74, [(.int .i16 g3c0.fAway), (.int .i16 g3c0.fOctave), (.int .i16 g3c0.fStep)]⟩]) ?_ ?_)))))
  ·refine jc_block ?_
   obtain ⟨t_6, ht_906, hr_755⟩ := bd h
   refine jc_loop (fun (s : (List GChoice) × Int) (x : Unit) => match s, x with | ⟨xs_3, i_4⟩, _ => (xs_3.length = data0.length) ∧ ((A_o = none → xs_3 = [] ∧ A_c = 0))) (fun (s : (List GChoice) × Int) (x : Unit) => match s, x with | ⟨xs_3, i_4⟩, _ => [(0, [], (.slice (A_o.map fun b => ⟨b, 0, none⟩) data0.length A_c)), (1, [], (.int .i64 a1)), (2, [], (.int .i64 b2)), (3, [], (.func (.func 98) #[] #[(.pointer (some ⟨D_b, 0, none⟩))])), (8, [], (.int .i64 i_4))]) (fun (s : (List GChoice) × Int) (x : Unit) => match s, x with | ⟨xs_3, i_4⟩, _ => [⟨A_o, 144, row encGChoice xs_3 A_sp⟩, ⟨some D_b, 74, [(.int .i16 g3c0.fAway), (.int .i16 g3c0.fOctave), (.int .i16 g3c0.fStep)]⟩]) ht_906 () ⟨rfl, A_ho⟩ (by kernel_rfl) [0, 1] (by kernel_rfl) (by kernel_rfl) ?_
   rintro ⟨xs_3, i_4⟩ _ y_756 ⟨hn_754, ho_753⟩ h
   rw [slices_insertionSortCmpFunc_Choice_at_impl_Arrange_1.l_5] at h
   refine jc_seq (jc_seq (jc_region (qh [0,0,0] (qe (jx_then (qi h (fun h => ?_) (fun h => ?_)))))))
   ·refine jc_skip (jx_then (jc_seq (jc_block (jc_seq (jc_region (qh [0,0] (qe (jx_then (jc_meet (fun (j : (List GChoice)) => match j with | xs_7 => slices_insertionSortCmpFunc_Choice_at_impl_Arrange_1.k_8 i_4 xs_7 = some y_756 ∧ (xs_7.length = data0.length) ∧ ((A_o = none → xs_7 = [] ∧ A_c = 0))) (fun (j : (List GChoice)) => match j with | xs_7 => [(0, [], (.slice (A_o.map fun b => ⟨b, 0, none⟩) data0.length A_c)), (1, [], (.int .i64 a1)), (2, [], (.int .i64 b2)), (3, [], (.func (.func 98) #[] #[(.pointer (some ⟨D_b, 0, none⟩))])), (8, [], (.int .i64 i_4))]) (fun (j : (List GChoice)) => match j with | xs_7 => [⟨A_o, 144, row encGChoice xs_7 A_sp⟩, ⟨some D_b, 74, [(.int .i16 g3c0.fAway), (.int .i16 g3c0.fOctave), (.int .i16 g3c0.fStep)]⟩]) ?_ ?_)))))))))
    ·refine jc_block ?_
     obtain ⟨t_12, ht_904, hr_879⟩ := bd h
     refine jc_loop (fun (s : (List GChoice) × Int) (x : Unit) => match s, x with | ⟨xs_9, i_10⟩, _ => (xs_9.length = data0.length) ∧ ((A_o = none → xs_9 = [] ∧ A_c = 0))) (fun (s : (List GChoice) × Int) (x : Unit) => match s, x with | ⟨xs_9, i_10⟩, _ => [(0, [], (.slice (A_o.map fun b => ⟨b, 0, none⟩) data0.length A_c)), (1, [], (.int .i64 a1)), (2, [], (.int .i64 b2)), (3, [], (.func (.func 98) #[] #[(.pointer (some ⟨D_b, 0, none⟩))])), (8, [], (.int .i64 i_4)), (9, [], (.int .i64 i_10))]) (fun (s : (List GChoice) × Int) (x : Unit) => match s, x with | ⟨xs_9, i_10⟩, _ => [⟨A_o, 144, row encGChoice xs_9 A_sp⟩, ⟨some D_b, 74, [(.int .i16 g3c0.fAway), (.int .i16 g3c0.fOctave), (.int .i16 g3c0.fStep)]⟩]) ht_904 () ⟨hn_754, ho_753⟩ (by kernel_rfl) [0, 1] (by kernel_rfl) (by kernel_rfl) ?_
     rintro ⟨xs_9, i_10⟩ _ y_880 ⟨hn_878, ho_877⟩ h
     rw [slices_insertionSortCmpFunc_Choice_at_impl_Arrange_1.l_11] at h
     refine jc_seq (jc_seq (qg [⟨A_o, 144, row encGChoice xs_9 A_sp⟩, ⟨some D_b, 74, [(.int .i16 g3c0.fAway), (.int .i16 g3c0.fOctave), (.int .i16 g3c0.fStep)]⟩] 17 (qd [⟨0, 0, 0⟩,⟨1, 0, 0⟩,⟨2, 0, 0⟩,⟨3, 0, 0⟩,⟨4, 0, 1⟩,⟨5, 0, 1⟩,⟨6, 0, 1⟩,⟨9, 0, 1⟩,⟨10, 0, 1⟩,⟨11, 0, 1⟩] 7 [0, 1] (jd_split 21 (decide (i_10 > a1)) (by kernel_rfl) (fun hc_887 => ?_) (fun hc_887 => ?_)))))
     ·replace h := ifT hc_887 h
      obtain ⟨x_13, hx_888, h⟩ := bd h
      refine qv 7 2 [0, 1] (fun w hm => idx_run (a := (A_o.map fun b => ⟨b, 0, none⟩)) (len := data0.length) (s := 4) (j := i_10) (by kernel_rfl) (ix_some hx_888).1 (ltn hx_888 hn_878) (spo ho_877 hx_888)) (qv 8 2 [0, 1] (fun w hm => ld_run (b := aB (A_o.map fun b => ⟨b, 0, none⟩)) (off := (aO (A_o.map fun b => ⟨b, 0, none⟩) + i_10.toNat * 4)) (s := 4) (agg := true) (vs := (encGChoice x_13)) (by kernel_rfl) (by kernel_rfl) (.inl rfl) ((hm.ow 0 A_o 144 xs_9 A_sp (fun e => (ho_877 e).1) encGChoice_len).at hx_888)) ?_)
      obtain ⟨x_14, hx_889, h⟩ := bd h
      refine qv 12 2 [0, 1] (fun w hm => idx_run (a := (A_o.map fun b => ⟨b, 0, none⟩)) (len := data0.length) (s := 4) (j := (w64 (i_10 - 1))) (by kernel_rfl) (ix_some hx_889).1 (ltn hx_889 hn_878) (spo ho_877 hx_889)) (qv 13 2 [0, 1] (fun w hm => ld_run (b := aB (A_o.map fun b => ⟨b, 0, none⟩)) (off := (aO (A_o.map fun b => ⟨b, 0, none⟩) + (w64 (i_10 - 1)).toNat * 4)) (s := 4) (agg := true) (vs := (encGChoice x_14)) (by kernel_rfl) (by kernel_rfl) (.inl rfl) ((hm.ow 0 A_o 144 xs_9 A_sp (fun e => (ho_877 e).1) encGChoice_len).at hx_889)) ?_)
      obtain ⟨t_15, ht_890, h⟩ := bd h
      refine tD 14 (pc 2 (fun w hm => impl_Arrange_1.calls x_13 x_14 g3c0 w _ D_b (hm.pass (N := [⟨some D_b, 74, [(.int .i16 g3c0.fAway), (.int .i16 g3c0.fOctave), (.int .i16 g3c0.fStep)]⟩]) [1] (by kernel_rfl) (by kernel_rfl)) ht_890) ?_)
      rintro w v w' hm ⟨rfl, hm'⟩
      refine ⟨_, hm.appW (ps := [(1, ⟨some D_b, 74, [(.int .i16 g3c0.fAway), (.int .i16 g3c0.fOctave), (.int .i16 g3c0.fStep)]⟩)]) (N := []) hm' (by kernel_rfl) (by kernel_rfl), kD [0, 1] ?_⟩
      clear hm hm'
      refine qd [⟨15, 0, 2⟩,⟨16, 0, 4⟩] 0 [0, 1] (qz (jx_then (qi h (fun h => ?_) (fun h => ?_))))
      ·refine jc_skip (jx_then (jc_seq (jc_block (qg [⟨some D_b, 74, [(.int .i16 g3c0.fAway), (.int .i16 g3c0.fOctave), (.int .i16 g3c0.fStep)]⟩] 18 (qd [⟨0, 0, 0⟩,⟨1, 0, 0⟩,⟨2, 0, 0⟩,⟨3, 0, 0⟩,⟨4, 0, 0⟩,⟨5, 0, 0⟩,⟨6, 0, 0⟩,⟨7, 0, 0⟩,⟨10, 0, 0⟩,⟨11, 0, 0⟩] 8 [1] ?_)))))
       obtain ⟨x_16, hx_895, h⟩ := bd h
       refine qv 8 0 [1] (fun w hm => idx_run (a := (A_o.map fun b => ⟨b, 0, none⟩)) (len := data0.length) (s := 4) (j := (w64 (i_10 - 1))) (by kernel_rfl) (ix_some hx_895).1 (ltn hx_895 hn_878) (spo ho_877 hx_895)) ?_
       obtain ⟨x_17, hx_896, h⟩ := bd h
       refine qv 12 0 [1] (fun w hm => idx_run (a := (A_o.map fun b => ⟨b, 0, none⟩)) (len := data0.length) (s := 4) (j := i_10) (by kernel_rfl) (ix_some hx_896).1 (ltn hx_896 hn_878) (spo ho_877 hx_896)) (toD2 9 13 (by kernel_rfl) ?_ ?_)
       ·refine ql 0 true (fun w hm => ((hm.ow 0 A_o 144 xs_9 A_sp (fun e => (ho_877 e).1) encGChoice_len).at hx_895)) (kD [1] (tD 13 (ql 0 true (fun w hm => ((hm.ow 0 A_o 144 xs_9 A_sp (fun e => (ho_877 e).1) encGChoice_len).at hx_896)) (kD [1] ?_))))
        obtain ⟨x_18, hx_897, h⟩ := bd h
        refine qv 14 0 [1] (fun w hm => idx_run (a := (A_o.map fun b => ⟨b, 0, none⟩)) (len := data0.length) (s := 4) (j := i_10) (by kernel_rfl) (ix_some hx_897).1 (ltn hx_897 hn_878) (spo ho_877 hx_897)) (tD 15 (p_strO 0 0 A_o 144 encGChoice xs_9 A_sp i_10 x_16 4 0 [(.bool x_16.fAway), (.int .i8 x_16.fLate), (.int .i8 x_16.fOctave), (.int .i8 x_16.fTrack)] (by kernel_rfl) (by kernel_rfl) (by kernel_rfl) (fun e => (ho_877 e).1) encGChoice_len hx_897 (by kernel_rfl) (by kernel_rfl) (kD [1] ?_)))
        obtain ⟨x_19, hx_898, h⟩ := bd h
        exact qv 16 0 [1] (fun w hm => idx_run (a := (A_o.map fun b => ⟨b, 0, none⟩)) (len := data0.length) (s := 4) (j := (w64 (i_10 - 1))) (by kernel_rfl) (ix_some hx_898).1 (ltn hx_898 (List.length_set.trans hn_878)) (spo (set_ho ho_877) hx_898)) (tD 17 (p_strO 0 0 A_o 144 encGChoice (xs_9.set i_10.toNat x_16) A_sp (w64 (i_10 - 1)) x_17 4 0 [(.bool x_17.fAway), (.int .i8 x_17.fLate), (.int .i8 x_17.fOctave), (.int .i8 x_17.fTrack)] (by kernel_rfl) (by kernel_rfl) (by kernel_rfl) (fun e => ((set_ho ho_877) e).1) encGChoice_len hx_898 (by kernel_rfl) (by kernel_rfl) (kD [1] (qz (jx_inn (jx_then (jc_region (qh [0,0,0] (qe (qb (((xs_9.set i_10.toNat x_16).set (w64 (i_10 - 1)).toNat x_17), (w64 (i_10 - 1))) () h ⟨(List.length_set.trans (List.length_set.trans hn_878)), (set_ho (set_ho ho_877))⟩ [0, 1]))))))))))
       ·refine ql 0 true (fun w hm => ((hm.ow 0 A_o 144 xs_9 A_sp (fun e => (ho_877 e).1) encGChoice_len).at hx_896)) (kD [1] (tD 9 (ql 0 true (fun w hm => ((hm.ow 0 A_o 144 xs_9 A_sp (fun e => (ho_877 e).1) encGChoice_len).at hx_895)) (kD [1] ?_))))
        obtain ⟨x_18, hx_899, h⟩ := bd h
        refine qv 14 0 [1] (fun w hm => idx_run (a := (A_o.map fun b => ⟨b, 0, none⟩)) (len := data0.length) (s := 4) (j := i_10) (by kernel_rfl) (ix_some hx_899).1 (ltn hx_899 hn_878) (spo ho_877 hx_899)) (tD 15 (p_strO 0 0 A_o 144 encGChoice xs_9 A_sp i_10 x_16 4 0 [(.bool x_16.fAway), (.int .i8 x_16.fLate), (.int .i8 x_16.fOctave), (.int .i8 x_16.fTrack)] (by kernel_rfl) (by kernel_rfl) (by kernel_rfl) (fun e => (ho_877 e).1) encGChoice_len hx_899 (by kernel_rfl) (by kernel_rfl) (kD [1] ?_)))
        obtain ⟨x_19, hx_900, h⟩ := bd h
        exact qv 16 0 [1] (fun w hm => idx_run (a := (A_o.map fun b => ⟨b, 0, none⟩)) (len := data0.length) (s := 4) (j := (w64 (i_10 - 1))) (by kernel_rfl) (ix_some hx_900).1 (ltn hx_900 (List.length_set.trans hn_878)) (spo (set_ho ho_877) hx_900)) (tD 17 (p_strO 0 0 A_o 144 encGChoice (xs_9.set i_10.toNat x_16) A_sp (w64 (i_10 - 1)) x_17 4 0 [(.bool x_17.fAway), (.int .i8 x_17.fLate), (.int .i8 x_17.fOctave), (.int .i8 x_17.fTrack)] (by kernel_rfl) (by kernel_rfl) (by kernel_rfl) (fun e => ((set_ho ho_877) e).1) encGChoice_len hx_900 (by kernel_rfl) (by kernel_rfl) (kD [1] (qz (jx_inn (jx_then (jc_region (qh [0,0,0] (qe (qb (((xs_9.set i_10.toNat x_16).set (w64 (i_10 - 1)).toNat x_17), (w64 (i_10 - 1))) () h ⟨(List.length_set.trans (List.length_set.trans hn_878)), (set_ho (set_ho ho_877))⟩ [0, 1]))))))))))
      ·refine jc_exit (jx_thenx (jx_leave xs_9 (Option.some.inj h).symm (fun e_901 => ?_)))
       subst e_901
       exact jx_ine (qm xs_9 ⟨hr_879, hn_878, ho_877⟩ [0, 1])
     ·replace h := ifF hc_887 h
      refine qd [⟨7, 0, 3⟩,⟨8, 0, 3⟩,⟨12, 0, 3⟩,⟨13, 0, 3⟩,⟨14, 0, 3⟩,⟨15, 0, 3⟩,⟨16, 0, 5⟩] 0 [0, 1] (qz (jx_then (jc_cond false (by kernel_rfl) (fun hc_902 => nomatch hc_902) (fun hc_902 => (jc_exit (jx_thenx (jx_leave xs_9 (Option.some.inj h).symm (fun e_903 => ?_))))))))
      subst e_903
      exact jx_ine (qm xs_9 ⟨hr_879, hn_878, ho_877⟩ [0, 1])
    ·rintro xs_7 ⟨h, hn_832, ho_831⟩
     replace h : slices_insertionSortCmpFunc_Choice_at_impl_Arrange_1.k_8 i_4 xs_7 = some y_756 := h
     rw [slices_insertionSortCmpFunc_Choice_at_impl_Arrange_1.k_8] at h
     exact jx_inn (jx_then (jc_region (qh [0,0,0] (qe (qb (xs_7, (w64 (i_4 + 1))) () h ⟨hn_832, ho_831⟩ [0, 1])))))
   ·refine jc_exit (jx_thenx (jx_leave xs_3 (Option.some.inj h).symm (fun e_905 => ?_)))
    subst e_905
    exact jx_ine (qm xs_3 ⟨hr_755, hn_754, ho_753⟩ [0, 1])
  ·rintro xs_1 ⟨h, hn_454, ho_453⟩
   replace h : slices_insertionSortCmpFunc_Choice_at_impl_Arrange_1.k_2 xs_1 = some r := h
   rw [slices_insertionSortCmpFunc_Choice_at_impl_Arrange_1.k_2] at h
   refine jx_fall ?_
   obtain rfl := Option.some.inj h
   exact qr [] (fun w hm => ⟨hn_454, ho_453, rfl, hm.pk [0, 1]⟩)
/-! ### slices.swapRangeCmpFunc[impl.Choice] -/
def slices_swapRangeCmpFunc_Choice_at_impl_Arrange_1.k_2 (xs_1 : List GChoice) : Option ((List GChoice)) := some xs_1
def slices_swapRangeCmpFunc_Choice_at_impl_Arrange_1.l_5 (a1 : Int) (b2 : Int) (n3 : Int) : ((List GChoice) × Int) → Option (((List GChoice) × Int) ⊕ ((List GChoice)))
  | (xs_3, i_4) => (if (decide (i_4 < n3)) = true then (ix xs_3 (w64 (b2 + i_4))).bind fun x_7 => (ix xs_3 (w64 (a1 + i_4))).bind fun x_8 => (ix xs_3 (w64 (a1 + i_4))).bind fun x_9 => (ix (xs_3.set (w64 (a1 + i_4)).toNat x_7) (w64 (b2 + i_4))).bind fun x_10 => some (.inl (((xs_3.set (w64 (a1 + i_4)).toNat x_7).set (w64 (b2 + i_4)).toNat x_8), (w64 (i_4 + 1)))) else some (.inr xs_3))
def slices_swapRangeCmpFunc_Choice_at_impl_Arrange_1 (data0 : List GChoice) (a1 : Int) (b2 : Int) (n3 : Int) (g4c0 : GCosts) : Option ((List GChoice)) := (loop (slices_swapRangeCmpFunc_Choice_at_impl_Arrange_1.l_5 a1 b2 n3) (data0, 0)).bind fun t_6 => slices_swapRangeCmpFunc_Choice_at_impl_Arrange_1.k_2 t_6
theorem slices_swapRangeCmpFunc_Choice_at_impl_Arrange_1.calls (data0 : List GChoice) (a1 : Int) (b2 : Int) (n3 : Int) (g4c0 : GCosts) (w : World) (r : (List GChoice)) (A_o : Option Nat) {A_on : Nat} {A_c : Nat} {A_sp : List Value} (A_hn : data0.length = A_on) (A_hs : A_o ≠ none → A_on ≤ A_c ∧ A_sp.length = (A_c - A_on) * 4) (A_ho : A_o = none → data0 = [] ∧ A_c = 0) (E_b : Nat) (hm0 : Mem w (bs [A_o, some E_b]) [⟨A_o, 144, row encGChoice data0 A_sp⟩, ⟨some E_b, 74, [(.int .i16 g4c0.fAway), (.int .i16 g4c0.fOctave), (.int .i16 g4c0.fStep)]⟩] w) (h : slices_swapRangeCmpFunc_Choice_at_impl_Arrange_1 data0 a1 b2 n3 g4c0 = some r) :
    Calls Try.prog 199 #[(.slice (A_o.map fun b => ⟨b, 0, none⟩) A_on A_c), (.int .i64 a1), (.int .i64 b2), (.int .i64 n3), (.func (.func 98) #[] #[(.pointer (some ⟨E_b, 0, none⟩))])] w fun e w' => ∃ v, e = .returned v ∧ (r.length = A_on ∧ (A_o = none → r = [] ∧ A_c = 0) ∧ v = .tuple #[] ∧ Mem w (bs [A_o, some E_b]) [⟨A_o, 144, row encGChoice r A_sp⟩, ⟨some E_b, 74, [(.int .i16 g4c0.fAway), (.int .i16 g4c0.fOctave), (.int .i16 g4c0.fStep)]⟩] w') := by
  subst A_hn
  rw [slices_swapRangeCmpFunc_Choice_at_impl_Arrange_1] at h
  refine enter (args := [(.slice (A_o.map fun b => ⟨b, 0, none⟩) data0.length A_c), (.int .i64 a1), (.int .i64 b2), (.int .i64 n3), (.func (.func 98) #[] #[(.pointer (some ⟨E_b, 0, none⟩))])]) Try.func199 rfl Try.ntmps199 (by kernel_rfl) (L := [⟨A_o, 144, row encGChoice data0 A_sp⟩, ⟨some E_b, 74, [(.int .i16 g4c0.fAway), (.int .i16 g4c0.fOctave), (.int .i16 g4c0.fStep)]⟩]) (W := bs [A_o, some E_b]) hm0 ?_
  refine jc_seq (jc_region (qh [0] (qe (jx_then (jc_meet (fun (j : (List GChoice)) => match j with | xs_1 => slices_swapRangeCmpFunc_Choice_at_impl_Arrange_1.k_2 xs_1 = some r ∧ (xs_1.length = data0.length) ∧ ((A_o = none → xs_1 = [] ∧ A_c = 0))) (fun (j : (List GChoice)) => match j with | xs_1 => []) (fun (j : (List GChoice)) => match j with | xs_1 => [⟨A_o, 144, row encGChoice xs_1 A_sp⟩, ⟨some E_b, 74, [(.int .i16 g4c0.fAway), (.int .i16 g4c0.fOctave), (.int .i16 g4c0.fStep)]⟩]) ?_ ?_)))))
  ·refine jc_block ?_
   obtain ⟨t_6, ht_84, hr_70⟩ := bd h
   refine jc_loop (fun (s : (List GChoice) × Int) (x : Unit) => match s, x with | ⟨xs_3, i_4⟩, _ => (xs_3.length = data0.length) ∧ ((A_o = none → xs_3 = [] ∧ A_c = 0))) (fun (s : (List GChoice) × Int) (x : Unit) => match s, x with | ⟨xs_3, i_4⟩, _ => [(0, [], (.slice (A_o.map fun b => ⟨b, 0, none⟩) data0.length A_c)), (1, [], (.int .i64 a1)), (2, [], (.int .i64 b2)), (3, [], (.int .i64 n3)), (10, [], (.int .i64 i_4))]) (fun (s : (List GChoice) × Int) (x : Unit) => match s, x with | ⟨xs_3, i_4⟩, _ => [⟨A_o, 144, row encGChoice xs_3 A_sp⟩, ⟨some E_b, 74, [(.int .i16 g4c0.fAway), (.int .i16 g4c0.fOctave), (.int .i16 g4c0.fStep)]⟩]) ht_84 () ⟨rfl, A_ho⟩ (by kernel_rfl) [0, 1] (by kernel_rfl) (by kernel_rfl) ?_
   rintro ⟨xs_3, i_4⟩ _ y_71 ⟨hn_69, ho_68⟩ h
   rw [slices_swapRangeCmpFunc_Choice_at_impl_Arrange_1.l_5] at h
   refine jc_seq (jc_seq (jc_region (qh [0,0,0] (qe (jx_then (qi h (fun h => ?_) (fun h => ?_)))))))
   ·refine jc_skip (jx_then (jc_seq (jc_block (qg [⟨some E_b, 74, [(.int .i16 g4c0.fAway), (.int .i16 g4c0.fOctave), (.int .i16 g4c0.fStep)]⟩] 24 (qd [⟨0, 0, 0⟩,⟨1, 0, 0⟩,⟨2, 0, 0⟩,⟨3, 0, 0⟩,⟨4, 0, 0⟩,⟨5, 0, 0⟩,⟨6, 0, 0⟩,⟨7, 0, 0⟩,⟨8, 0, 0⟩,⟨9, 0, 0⟩,⟨10, 0, 0⟩,⟨11, 0, 0⟩,⟨14, 0, 0⟩,⟨15, 0, 0⟩,⟨16, 0, 0⟩,⟨17, 0, 0⟩] 8 [1] ?_)))))
    obtain ⟨x_7, hx_77, h⟩ := bd h
    refine qv 12 0 [1] (fun w hm => idx_run (a := (A_o.map fun b => ⟨b, 0, none⟩)) (len := data0.length) (s := 4) (j := (w64 (b2 + i_4))) (by kernel_rfl) (ix_some hx_77).1 (ltn hx_77 hn_69) (spo ho_68 hx_77)) ?_
    obtain ⟨x_8, hx_78, h⟩ := bd h
    refine qv 18 0 [1] (fun w hm => idx_run (a := (A_o.map fun b => ⟨b, 0, none⟩)) (len := data0.length) (s := 4) (j := (w64 (a1 + i_4))) (by kernel_rfl) (ix_some hx_78).1 (ltn hx_78 hn_69) (spo ho_68 hx_78)) (toD2 13 19 (by kernel_rfl) ?_ ?_)
    ·refine ql 0 true (fun w hm => ((hm.ow 0 A_o 144 xs_3 A_sp (fun e => (ho_68 e).1) encGChoice_len).at hx_77)) (kD [1] (tD 19 (ql 0 true (fun w hm => ((hm.ow 0 A_o 144 xs_3 A_sp (fun e => (ho_68 e).1) encGChoice_len).at hx_78)) (kD [1] ?_))))
     obtain ⟨x_9, hx_79, h⟩ := bd h
     refine qv 20 0 [1] (fun w hm => idx_run (a := (A_o.map fun b => ⟨b, 0, none⟩)) (len := data0.length) (s := 4) (j := (w64 (a1 + i_4))) (by kernel_rfl) (ix_some hx_79).1 (ltn hx_79 hn_69) (spo ho_68 hx_79)) (tD 21 (p_strO 0 0 A_o 144 encGChoice xs_3 A_sp (w64 (a1 + i_4)) x_7 4 0 [(.bool x_7.fAway), (.int .i8 x_7.fLate), (.int .i8 x_7.fOctave), (.int .i8 x_7.fTrack)] (by kernel_rfl) (by kernel_rfl) (by kernel_rfl) (fun e => (ho_68 e).1) encGChoice_len hx_79 (by kernel_rfl) (by kernel_rfl) (kD [1] ?_)))
     obtain ⟨x_10, hx_80, h⟩ := bd h
     exact qv 22 0 [1] (fun w hm => idx_run (a := (A_o.map fun b => ⟨b, 0, none⟩)) (len := data0.length) (s := 4) (j := (w64 (b2 + i_4))) (by kernel_rfl) (ix_some hx_80).1 (ltn hx_80 (List.length_set.trans hn_69)) (spo (set_ho ho_68) hx_80)) (tD 23 (p_strO 0 0 A_o 144 encGChoice (xs_3.set (w64 (a1 + i_4)).toNat x_7) A_sp (w64 (b2 + i_4)) x_8 4 0 [(.bool x_8.fAway), (.int .i8 x_8.fLate), (.int .i8 x_8.fOctave), (.int .i8 x_8.fTrack)] (by kernel_rfl) (by kernel_rfl) (by kernel_rfl) (fun e => ((set_ho ho_68) e).1) encGChoice_len hx_80 (by kernel_rfl) (by kernel_rfl) (kD [1] (qz (jx_inn (jx_then (jc_region (qh [0,0,0] (qe (qb (((xs_3.set (w64 (a1 + i_4)).toNat x_7).set (w64 (b2 + i_4)).toNat x_8), (w64 (i_4 + 1))) () h ⟨(List.length_set.trans (List.length_set.trans hn_69)), (set_ho (set_ho ho_68))⟩ [0, 1]))))))))))
    ·refine ql 0 true (fun w hm => ((hm.ow 0 A_o 144 xs_3 A_sp (fun e => (ho_68 e).1) encGChoice_len).at hx_78)) (kD [1] (tD 13 (ql 0 true (fun w hm => ((hm.ow 0 A_o 144 xs_3 A_sp (fun e => (ho_68 e).1) encGChoice_len).at hx_77)) (kD [1] ?_))))
     obtain ⟨x_9, hx_81, h⟩ := bd h
     refine qv 20 0 [1] (fun w hm => idx_run (a := (A_o.map fun b => ⟨b, 0, none⟩)) (len := data0.length) (s := 4) (j := (w64 (a1 + i_4))) (by kernel_rfl) (ix_some hx_81).1 (ltn hx_81 hn_69) (spo ho_68 hx_81)) (tD 21 (p_strO 0 0 A_o 144 encGChoice xs_3 A_sp (w64 (a1 + i_4)) x_7 4 0 [(.bool x_7.fAway), (.int .i8 x_7.fLate), (.int .i8 x_7.fOctave), (.int .i8 x_7.fTrack)] (by kernel_rfl) (by kernel_rfl) (by kernel_rfl) (fun e => (ho_68 e).1) encGChoice_len hx_81 (by kernel_rfl) (by kernel_rfl) (kD [1] ?_)))
     obtain ⟨x_10, hx_82, h⟩ := bd h
     exact qv 22 0 [1] (fun w hm => idx_run (a := (A_o.map fun b => ⟨b, 0, none⟩)) (len := data0.length) (s := 4) (j := (w64 (b2 + i_4))) (by kernel_rfl) (ix_some hx_82).1 (ltn hx_82 (List.length_set.trans hn_69)) (spo (set_ho ho_68) hx_82)) (tD 23 (p_strO 0 0 A_o 144 encGChoice (xs_3.set (w64 (a1 + i_4)).toNat x_7) A_sp (w64 (b2 + i_4)) x_8 4 0 [(.bool x_8.fAway), (.int .i8 x_8.fLate), (.int .i8 x_8.fOctave), (.int .i8 x_8.fTrack)] (by kernel_rfl) (by kernel_rfl) (by kernel_rfl) (fun e => ((set_ho ho_68) e).1) encGChoice_len hx_82 (by kernel_rfl) (by kernel_rfl) (kD [1] (qz (jx_inn (jx_then (jc_region (qh [0,0,0] (qe (qb (((xs_3.set (w64 (a1 + i_4)).toNat x_7).set (w64 (b2 + i_4)).toNat x_8), (w64 (i_4 + 1))) () h ⟨(List.length_set.trans (List.length_set.trans hn_69)), (set_ho (set_ho ho_68))⟩ [0, 1]))))))))))
   ·refine jc_exit (jx_thenx (jx_leave xs_3 (Option.some.inj h).symm (fun e_83 => ?_)))
    subst e_83
    exact jx_ine (qm xs_3 ⟨hr_70, hn_69, ho_68⟩ [0, 1])
  ·rintro xs_1 ⟨h, hn_43, ho_42⟩
   replace h : slices_swapRangeCmpFunc_Choice_at_impl_Arrange_1.k_2 xs_1 = some r := h
   rw [slices_swapRangeCmpFunc_Choice_at_impl_Arrange_1.k_2] at h
   refine jx_fall ?_
   obtain rfl := Option.some.inj h
   exact qr [] (fun w hm => ⟨hn_43, ho_42, rfl, hm.pk [0, 1]⟩)
/-! ### slices.rotateCmpFunc[impl.Choice] -/
def slices_rotateCmpFunc_Choice_at_impl_Arrange_1.k_3 (m2 : Int) (g4c0 : GCosts) (xs_1 : List GChoice) (i_2 : Int) : Option ((List GChoice)) := (slices_swapRangeCmpFunc_Choice_at_impl_Arrange_1 xs_1 (w64 (m2 - i_2)) m2 i_2 g4c0).bind fun t_4 => some t_4
def slices_rotateCmpFunc_Choice_at_impl_Arrange_1.k_13 (xs_10 : List GChoice) (i_11 : Int) (i_12 : Int) : Option (((List GChoice) × Int × Int) ⊕ (((List GChoice) × Int))) := some (.inl (xs_10, i_11, i_12))
def slices_rotateCmpFunc_Choice_at_impl_Arrange_1.l_8 (m2 : Int) (g4c0 : GCosts) : ((List GChoice) × Int × Int) → Option (((List GChoice) × Int × Int) ⊕ (((List GChoice) × Int)))
  | (xs_5, i_6, i_7) => (if (i_6 != i_7) = true then (if (decide (i_6 > i_7)) = true then (slices_swapRangeCmpFunc_Choice_at_impl_Arrange_1 xs_5 (w64 (m2 - i_6)) m2 i_7 g4c0).bind fun t_14 => slices_rotateCmpFunc_Choice_at_impl_Arrange_1.k_13 t_14 (w64 (i_6 - i_7)) i_7 else (slices_swapRangeCmpFunc_Choice_at_impl_Arrange_1 xs_5 (w64 (m2 - i_6)) (w64 ((w64 (m2 + i_7)) - i_6)) i_6 g4c0).bind fun t_15 => slices_rotateCmpFunc_Choice_at_impl_Arrange_1.k_13 t_15 i_6 (w64 (i_7 - i_6))) else some (.inr (xs_5, i_6)))
def slices_rotateCmpFunc_Choice_at_impl_Arrange_1 (data0 : List GChoice) (a1 : Int) (m2 : Int) (b3 : Int) (g4c0 : GCosts) : Option ((List GChoice)) := (loop (slices_rotateCmpFunc_Choice_at_impl_Arrange_1.l_8 m2 g4c0) (data0, (w64 (m2 - a1)), (w64 (b3 - m2)))).bind fun t_9 => slices_rotateCmpFunc_Choice_at_impl_Arrange_1.k_3 m2 g4c0 t_9.1 t_9.2
theorem slices_rotateCmpFunc_Choice_at_impl_Arrange_1.calls (data0 : List GChoice) (a1 : Int) (m2 : Int) (b3 : Int) (g4c0 : GCosts) (w : World) (r : (List GChoice)) (A_o : Option Nat) {A_on : Nat} {A_c : Nat} {A_sp : List Value} (A_hn : data0.length = A_on) (A_hs : A_o ≠ none → A_on ≤ A_c ∧ A_sp.length = (A_c - A_on) * 4) (A_ho : A_o = none → data0 = [] ∧ A_c = 0) (E_b : Nat) (hm0 : Mem w (bs [A_o, some E_b]) [⟨A_o, 144, row encGChoice data0 A_sp⟩, ⟨some E_b, 74, [(.int .i16 g4c0.fAway), (.int .i16 g4c0.fOctave), (.int .i16 g4c0.fStep)]⟩] w) (h : slices_rotateCmpFunc_Choice_at_impl_Arrange_1 data0 a1 m2 b3 g4c0 = some r) :
    Calls Try.prog 189 #[(.slice (A_o.map fun b => ⟨b, 0, none⟩) A_on A_c), (.int .i64 a1), (.int .i64 m2), (.int .i64 b3), (.func (.func 98) #[] #[(.pointer (some ⟨E_b, 0, none⟩))])] w fun e w' => ∃ v, e = .returned v ∧ (r.length = A_on ∧ (A_o = none → r = [] ∧ A_c = 0) ∧ v = .tuple #[] ∧ Mem w (bs [A_o, some E_b]) [⟨A_o, 144, row encGChoice r A_sp⟩, ⟨some E_b, 74, [(.int .i16 g4c0.fAway), (.int .i16 g4c0.fOctave), (.int .i16 g4c0.fStep)]⟩] w') := by
  subst A_hn
  rw [slices_rotateCmpFunc_Choice_at_impl_Arrange_1] at h
  refine enter (args := [(.slice (A_o.map fun b => ⟨b, 0, none⟩) data0.length A_c), (.int .i64 a1), (.int .i64 m2), (.int .i64 b3), (.func (.func 98) #[] #[(.pointer (some ⟨E_b, 0, none⟩))])]) Try.func189 rfl Try.ntmps189 (by kernel_rfl) (L := [⟨A_o, 144, row encGChoice data0 A_sp⟩, ⟨some E_b, 74, [(.int .i16 g4c0.fAway), (.int .i16 g4c0.fOctave), (.int .i16 g4c0.fStep)]⟩]) (W := bs [A_o, some E_b]) hm0 ?_
  refine jc_seq (jc_region (qh [0,0,0,0] (qe (jx_then (jc_seq (jc_region (qh [0,0,0,0] (qe (jx_then (jc_seq (jc_meet (fun (j : (List GChoice) × Int) => match j with | ⟨xs_1, i_2⟩ => slices_rotateCmpFunc_Choice_at_impl_Arrange_1.k_3 m2 g4c0 xs_1 i_2 = some r ∧ (xs_1.length = data0.length) ∧ ((A_o = none → xs_1 = [] ∧ A_c = 0))) (fun (j : (List GChoice) × Int) => match j with | ⟨xs_1, i_2⟩ => [(0, [], (.slice (A_o.map fun b => ⟨b, 0, none⟩) data0.length A_c)), (2, [], (.int .i64 m2)), (4, [], (.func (.func 98) #[] #[(.pointer (some ⟨E_b, 0, none⟩))])), (10, [], (.int .i64 i_2))]) (fun (j : (List GChoice) × Int) => match j with | ⟨xs_1, i_2⟩ => [⟨A_o, 144, row encGChoice xs_1 A_sp⟩, ⟨some E_b, 74, [(.int .i16 g4c0.fAway), (.int .i16 g4c0.fOctave), (.int .i16 g4c0.fStep)]⟩]) ?_ ?_)))))))))))
  ·refine jc_block ?_
   obtain ⟨t_9, ht_129, hr_108⟩ := bd h
   refine jc_loop (fun (s : (List GChoice) × Int × Int) (x : Unit) => match s, x with | ⟨xs_5, i_6, i_7⟩, _ => (xs_5.length = data0.length) ∧ ((A_o = none → xs_5 = [] ∧ A_c = 0))) (fun (s : (List GChoice) × Int × Int) (x : Unit) => match s, x with | ⟨xs_5, i_6, i_7⟩, _ => [(0, [], (.slice (A_o.map fun b => ⟨b, 0, none⟩) data0.length A_c)), (2, [], (.int .i64 m2)), (4, [], (.func (.func 98) #[] #[(.pointer (some ⟨E_b, 0, none⟩))])), (10, [], (.int .i64 i_6)), (11, [], (.int .i64 i_7))]) (fun (s : (List GChoice) × Int × Int) (x : Unit) => match s, x with | ⟨xs_5, i_6, i_7⟩, _ => [⟨A_o, 144, row encGChoice xs_5 A_sp⟩, ⟨some E_b, 74, [(.int .i16 g4c0.fAway), (.int .i16 g4c0.fOctave), (.int .i16 g4c0.fStep)]⟩]) ht_129 () ⟨rfl, A_ho⟩ (by kernel_rfl) [0, 1] (by kernel_rfl) (by kernel_rfl) ?_
   rintro ⟨xs_5, i_6, i_7⟩ _ y_109 ⟨hn_107, ho_106⟩ h
   rw [slices_rotateCmpFunc_Choice_at_impl_Arrange_1.l_8] at h
   refine jc_seq (jc_seq (jc_region (qh [0,0,0] (qe (jx_then (qi h (fun h => ?_) (fun h => ?_)))))))
   ·refine jc_skip (jx_then (jc_meet (fun (j : (List GChoice) × Int × Int) => match j with | ⟨xs_10, i_11, i_12⟩ => slices_rotateCmpFunc_Choice_at_impl_Arrange_1.k_13 xs_10 i_11 i_12 = some y_109 ∧ (xs_10.length = data0.length) ∧ ((A_o = none → xs_10 = [] ∧ A_c = 0))) (fun (j : (List GChoice) × Int × Int) => match j with | ⟨xs_10, i_11, i_12⟩ => [(0, [], (.slice (A_o.map fun b => ⟨b, 0, none⟩) data0.length A_c)), (2, [], (.int .i64 m2)), (4, [], (.func (.func 98) #[] #[(.pointer (some ⟨E_b, 0, none⟩))])), (10, [], (.int .i64 i_11)), (11, [], (.int .i64 i_12))]) (fun (j : (List GChoice) × Int × Int) => match j with | ⟨xs_10, i_11, i_12⟩ => [⟨A_o, 144, row encGChoice xs_10 A_sp⟩, ⟨some E_b, 74, [(.int .i16 g4c0.fAway), (.int .i16 g4c0.fOctave), (.int .i16 g4c0.fStep)]⟩]) ?_ ?_))
    ·refine jc_block (jc_seq (jc_region (qh [0,0,0] (qe (jx_then (qi h (fun h => ?_) (fun h => ?_)))))))
     ·refine jc_seq (jc_region (qh [0,0,0,0,0,0,0] ?_))
      obtain ⟨t_14, ht_122, h⟩ := bd h
      refine tO (pc 0 (fun w hm => slices_swapRangeCmpFunc_Choice_at_impl_Arrange_1.calls xs_5 (w64 (m2 - i_6)) m2 i_7 g4c0 w _ A_o hn_107 A_hs ho_106 E_b (hm.pass (N := [⟨A_o, 144, row encGChoice xs_5 A_sp⟩, ⟨some E_b, 74, [(.int .i16 g4c0.fAway), (.int .i16 g4c0.fOctave), (.int .i16 g4c0.fStep)]⟩]) [0, 1] (by kernel_rfl) (by kernel_rfl)) ht_122) ?_)
      rintro w v w' hm ⟨hn_123, ho_124, rfl, hm'⟩
      refine ⟨_, hm.appW (ps := [(0, ⟨A_o, 144, row encGChoice t_14 A_sp⟩), (1, ⟨some E_b, 74, [(.int .i16 g4c0.fAway), (.int .i16 g4c0.fOctave), (.int .i16 g4c0.fStep)]⟩)]) (N := []) hm' (by kernel_rfl) (by kernel_rfl), jkO ?_⟩
      clear hm hm'
      exact qe (jx_then (jc_region (qh [0,0,0,0] (qe (jx_inn (qm ⟨t_14, (w64 (i_6 - i_7)), i_7⟩ ⟨h, hn_123, ho_124⟩ [0, 1]))))))
     ·refine jc_seq (jc_region (qh [0,0,0,0,0,0,0,0,0,0,0] ?_))
      obtain ⟨t_15, ht_125, h⟩ := bd h
      refine tO (pc 0 (fun w hm => slices_swapRangeCmpFunc_Choice_at_impl_Arrange_1.calls xs_5 (w64 (m2 - i_6)) (w64 ((w64 (m2 + i_7)) - i_6)) i_6 g4c0 w _ A_o hn_107 A_hs ho_106 E_b (hm.pass (N := [⟨A_o, 144, row encGChoice xs_5 A_sp⟩, ⟨some E_b, 74, [(.int .i16 g4c0.fAway), (.int .i16 g4c0.fOctave), (.int .i16 g4c0.fStep)]⟩]) [0, 1] (by kernel_rfl) (by kernel_rfl)) ht_125) ?_)
      rintro w v w' hm ⟨hn_126, ho_127, rfl, hm'⟩
      refine ⟨_, hm.appW (ps := [(0, ⟨A_o, 144, row encGChoice t_15 A_sp⟩), (1, ⟨some E_b, 74, [(.int .i16 g4c0.fAway), (.int .i16 g4c0.fOctave), (.int .i16 g4c0.fStep)]⟩)]) (N := []) hm' (by kernel_rfl) (by kernel_rfl), jkO ?_⟩
      clear hm hm'
      exact qe (jx_then (jc_region (qh [0,0,0,0] (qe (jx_inn (qm ⟨t_15, i_6, (w64 (i_7 - i_6))⟩ ⟨h, hn_126, ho_127⟩ [0, 1]))))))
    ·rintro ⟨xs_10, i_11, i_12⟩ ⟨h, hn_120, ho_119⟩
     replace h : slices_rotateCmpFunc_Choice_at_impl_Arrange_1.k_13 xs_10 i_11 i_12 = some y_109 := h
     rw [slices_rotateCmpFunc_Choice_at_impl_Arrange_1.k_13] at h
     exact qb (xs_10, i_11, i_12) () h ⟨hn_120, ho_119⟩ [0, 1]
   ·refine jc_exit (jx_thenx (jx_leave (xs_5, i_6) (Option.some.inj h).symm (fun e_128 => ?_)))
    subst e_128
    exact jx_ine (qm ⟨xs_5, i_6⟩ ⟨hr_108, hn_107, ho_106⟩ [0, 1])
  ·rintro ⟨xs_1, i_2⟩ ⟨h, hn_64, ho_63⟩
   replace h : slices_rotateCmpFunc_Choice_at_impl_Arrange_1.k_3 m2 g4c0 xs_1 i_2 = some r := h
   rw [slices_rotateCmpFunc_Choice_at_impl_Arrange_1.k_3] at h
   refine jx_then (jc_region (qh [0,0,0,0,0,0,0] ?_))
   obtain ⟨t_4, ht_65, h⟩ := bd h
   refine tO (pc 0 (fun w hm => slices_swapRangeCmpFunc_Choice_at_impl_Arrange_1.calls xs_1 (w64 (m2 - i_2)) m2 i_2 g4c0 w _ A_o hn_64 A_hs ho_63 E_b (hm.pass (N := [⟨A_o, 144, row encGChoice xs_1 A_sp⟩, ⟨some E_b, 74, [(.int .i16 g4c0.fAway), (.int .i16 g4c0.fOctave), (.int .i16 g4c0.fStep)]⟩]) [0, 1] (by kernel_rfl) (by kernel_rfl)) ht_65) ?_)
   rintro w v w' hm ⟨hn_66, ho_67, rfl, hm'⟩
   refine ⟨_, hm.appW (ps := [(0, ⟨A_o, 144, row encGChoice t_4 A_sp⟩), (1, ⟨some E_b, 74, [(.int .i16 g4c0.fAway), (.int .i16 g4c0.fOctave), (.int .i16 g4c0.fStep)]⟩)]) (N := []) hm' (by kernel_rfl) (by kernel_rfl), jkO ?_⟩
   clear hm hm'
   refine qe (jx_fall ?_)
   obtain rfl := Option.some.inj h
   exact qr [] (fun w hm => ⟨hn_66, ho_67, rfl, hm.pk [0, 1]⟩)
/-! ### slices.symMergeCmpFunc[impl.Choice] -/
def slices_symMergeCmpFunc_Choice_at_impl_Arrange_1.k_4 (xs_3 : List GChoice) : Option ((List GChoice)) := some xs_3
def slices_symMergeCmpFunc_Choice_at_impl_Arrange_1.l_7 (i_1 : Int) : ((List GChoice) × Int) → Option (((List GChoice) × Int) ⊕ ((List GChoice)))
  | (xs_5, i_6) => (if (decide (i_6 < (w64 (i_1 - 1)))) = true then (ix xs_5 (w64 (i_6 + 1))).bind fun x_9 => (ix xs_5 i_6).bind fun x_10 => (ix xs_5 i_6).bind fun x_11 => (ix (xs_5.set i_6.toNat x_9) (w64 (i_6 + 1))).bind fun x_12 => some (.inl (((xs_5.set i_6.toNat x_9).set (w64 (i_6 + 1)).toNat x_10), (w64 (i_6 + 1)))) else some (.inr xs_5))
def slices_symMergeCmpFunc_Choice_at_impl_Arrange_1.k_2 (data0 : List GChoice) (a1 : Int) (i_1 : Int) : Option ((List GChoice)) := (loop (slices_symMergeCmpFunc_Choice_at_impl_Arrange_1.l_7 i_1) (data0, a1)).bind fun t_8 => slices_symMergeCmpFunc_Choice_at_impl_Arrange_1.k_4 t_8
def slices_symMergeCmpFunc_Choice_at_impl_Arrange_1.k_19 (i_17 : Int) (i_18 : Int) : Option ((Int × Int) ⊕ (Int)) := some (.inl (i_17, i_18))
def slices_symMergeCmpFunc_Choice_at_impl_Arrange_1.l_15 (data0 : List GChoice) (a1 : Int) (g4c0 : GCosts) : (Int × Int) → Option ((Int × Int) ⊕ (Int))
  | (i_13, i_14) => (if (decide (i_13 < i_14)) = true then (ix data0 (w64 (bShr .u64 (u64 (w64 (i_13 + i_14))) 1))).bind fun x_20 => (ix data0 a1).bind fun x_21 => (impl_Arrange_1 x_20 x_21 g4c0).bind fun t_22 => (if (decide (t_22 < 0)) = true then slices_symMergeCmpFunc_Choice_at_impl_Arrange_1.k_19 (w64 ((w64 (bShr .u64 (u64 (w64 (i_13 + i_14))) 1)) + 1)) i_14 else slices_symMergeCmpFunc_Choice_at_impl_Arrange_1.k_19 i_13 (w64 (bShr .u64 (u64 (w64 (i_13 + i_14))) 1))) else some (.inr i_13))
def slices_symMergeCmpFunc_Choice_at_impl_Arrange_1.k_26 (xs_25 : List GChoice) : Option ((List GChoice)) := some xs_25
def slices_symMergeCmpFunc_Choice_at_impl_Arrange_1.l_29 (i_23 : Int) : ((List GChoice) × Int) → Option (((List GChoice) × Int) ⊕ ((List GChoice)))
  | (xs_27, i_28) => (if (decide (i_28 > i_23)) = true then (ix xs_27 (w64 (i_28 - 1))).bind fun x_31 => (ix xs_27 i_28).bind fun x_32 => (ix xs_27 i_28).bind fun x_33 => (ix (xs_27.set i_28.toNat x_31) (w64 (i_28 - 1))).bind fun x_34 => some (.inl (((xs_27.set i_28.toNat x_31).set (w64 (i_28 - 1)).toNat x_32), (w64 (i_28 - 1)))) else some (.inr xs_27))
def slices_symMergeCmpFunc_Choice_at_impl_Arrange_1.k_24 (data0 : List GChoice) (m2 : Int) (i_23 : Int) : Option ((List GChoice)) := (loop (slices_symMergeCmpFunc_Choice_at_impl_Arrange_1.l_29 i_23) (data0, m2)).bind fun t_30 => slices_symMergeCmpFunc_Choice_at_impl_Arrange_1.k_26 t_30
def slices_symMergeCmpFunc_Choice_at_impl_Arrange_1.k_41 (i_39 : Int) (i_40 : Int) : Option ((Int × Int) ⊕ (Int)) := some (.inl (i_39, i_40))
def slices_symMergeCmpFunc_Choice_at_impl_Arrange_1.l_37 (data0 : List GChoice) (m2 : Int) (g4c0 : GCosts) : (Int × Int) → Option ((Int × Int) ⊕ (Int))
  | (i_35, i_36) => (if (decide (i_35 < i_36)) = true then (ix data0 m2).bind fun x_42 => (ix data0 (w64 (bShr .u64 (u64 (w64 (i_35 + i_36))) 1))).bind fun x_43 => (impl_Arrange_1 x_42 x_43 g4c0).bind fun t_44 => (if (!(decide (t_44 < 0))) = true then slices_symMergeCmpFunc_Choice_at_impl_Arrange_1.k_41 (w64 ((w64 (bShr .u64 (u64 (w64 (i_35 + i_36))) 1)) + 1)) i_36 else slices_symMergeCmpFunc_Choice_at_impl_Arrange_1.k_41 i_35 (w64 (bShr .u64 (u64 (w64 (i_35 + i_36))) 1))) else some (.inr i_35))
def slices_symMergeCmpFunc_Choice_at_impl_Arrange_1.k_53 (self_ : (List GChoice) → Int → Int → Int → GCosts → Option ((List GChoice))) (a1 : Int) (m2 : Int) (b3 : Int) (g4c0 : GCosts) (i_48 : Int) (xs_52 : List GChoice) : Option ((List GChoice)) := (if ((decide ((w64 (bShr .u64 (u64 (w64 (a1 + b3))) 1)) < (w64 ((w64 ((w64 (bShr .u64 (u64 (w64 (a1 + b3))) 1)) + m2)) - i_48)))) && (decide ((w64 ((w64 ((w64 (bShr .u64 (u64 (w64 (a1 + b3))) 1)) + m2)) - i_48)) < b3))) = true then (self_ xs_52 (w64 (bShr .u64 (u64 (w64 (a1 + b3))) 1)) (w64 ((w64 ((w64 (bShr .u64 (u64 (w64 (a1 + b3))) 1)) + m2)) - i_48)) b3 g4c0).bind fun t_54 => some t_54 else some xs_52)
def slices_symMergeCmpFunc_Choice_at_impl_Arrange_1.k_51 (self_ : (List GChoice) → Int → Int → Int → GCosts → Option ((List GChoice))) (a1 : Int) (m2 : Int) (b3 : Int) (g4c0 : GCosts) (i_48 : Int) (xs_50 : List GChoice) : Option ((List GChoice)) := (if ((decide (a1 < i_48)) && (decide (i_48 < (w64 (bShr .u64 (u64 (w64 (a1 + b3))) 1))))) = true then (self_ xs_50 a1 i_48 (w64 (bShr .u64 (u64 (w64 (a1 + b3))) 1)) g4c0).bind fun t_55 => slices_symMergeCmpFunc_Choice_at_impl_Arrange_1.k_53 self_ a1 m2 b3 g4c0 i_48 t_55 else slices_symMergeCmpFunc_Choice_at_impl_Arrange_1.k_53 self_ a1 m2 b3 g4c0 i_48 xs_50)
def slices_symMergeCmpFunc_Choice_at_impl_Arrange_1.k_49 (self_ : (List GChoice) → Int → Int → Int → GCosts → Option ((List GChoice))) (data0 : List GChoice) (a1 : Int) (m2 : Int) (b3 : Int) (g4c0 : GCosts) (i_48 : Int) : Option ((List GChoice)) := (if ((decide (i_48 < m2)) && (decide (m2 < (w64 ((w64 ((w64 (bShr .u64 (u64 (w64 (a1 + b3))) 1)) + m2)) - i_48))))) = true then (slices_rotateCmpFunc_Choice_at_impl_Arrange_1 data0 i_48 m2 (w64 ((w64 ((w64 (bShr .u64 (u64 (w64 (a1 + b3))) 1)) + m2)) - i_48)) g4c0).bind fun t_56 => slices_symMergeCmpFunc_Choice_at_impl_Arrange_1.k_51 self_ a1 m2 b3 g4c0 i_48 t_56 else slices_symMergeCmpFunc_Choice_at_impl_Arrange_1.k_51 self_ a1 m2 b3 g4c0 i_48 data0)
def slices_symMergeCmpFunc_Choice_at_impl_Arrange_1.k_63 (i_61 : Int) (i_62 : Int) : Option ((Int × Int) ⊕ (Int)) := some (.inl (i_61, i_62))
def slices_symMergeCmpFunc_Choice_at_impl_Arrange_1.l_59 (data0 : List GChoice) (a1 : Int) (m2 : Int) (b3 : Int) (g4c0 : GCosts) : (Int × Int) → Option ((Int × Int) ⊕ (Int))
  | (i_57, i_58) => (if (decide (i_57 < i_58)) = true then (ix data0 (w64 ((w64 ((w64 ((w64 (bShr .u64 (u64 (w64 (a1 + b3))) 1)) + m2)) - 1)) - (w64 (bShr .u64 (u64 (w64 (i_57 + i_58))) 1))))).bind fun x_64 => (ix data0 (w64 (bShr .u64 (u64 (w64 (i_57 + i_58))) 1))).bind fun x_65 => (impl_Arrange_1 x_64 x_65 g4c0).bind fun t_66 => (if (!(decide (t_66 < 0))) = true then slices_symMergeCmpFunc_Choice_at_impl_Arrange_1.k_63 (w64 ((w64 (bShr .u64 (u64 (w64 (i_57 + i_58))) 1)) + 1)) i_58 else slices_symMergeCmpFunc_Choice_at_impl_Arrange_1.k_63 i_57 (w64 (bShr .u64 (u64 (w64 (i_57 + i_58))) 1))) else some (.inr i_57))
def slices_symMergeCmpFunc_Choice_at_impl_Arrange_1.k_47 (self_ : (List GChoice) → Int → Int → Int → GCosts → Option ((List GChoice))) (data0 : List GChoice) (a1 : Int) (m2 : Int) (b3 : Int) (g4c0 : GCosts) (i_45 : Int) (i_46 : Int) : Option ((List GChoice)) := (loop (slices_symMergeCmpFunc_Choice_at_impl_Arrange_1.l_59 data0 a1 m2 b3 g4c0) (i_45, i_46)).bind fun t_60 => slices_symMergeCmpFunc_Choice_at_impl_Arrange_1.k_49 self_ data0 a1 m2 b3 g4c0 t_60
def slices_symMergeCmpFunc_Choice_at_impl_Arrange_1.step (self_ : (List GChoice) → Int → Int → Int → GCosts → Option ((List GChoice))) (data0 : List GChoice) (a1 : Int) (m2 : Int) (b3 : Int) (g4c0 : GCosts) : Option ((List GChoice)) := (if ((w64 (m2 - a1)) == 1) = true then (loop (slices_symMergeCmpFunc_Choice_at_impl_Arrange_1.l_15 data0 a1 g4c0) (m2, b3)).bind fun t_16 => slices_symMergeCmpFunc_Choice_at_impl_Arrange_1.k_2 data0 a1 t_16 else (if ((w64 (b3 - m2)) == 1) = true then (loop (slices_symMergeCmpFunc_Choice_at_impl_Arrange_1.l_37 data0 m2 g4c0) (a1, m2)).bind fun t_38 => slices_symMergeCmpFunc_Choice_at_impl_Arrange_1.k_24 data0 m2 t_38 else (if (decide (m2 > (w64 (bShr .u64 (u64 (w64 (a1 + b3))) 1)))) = true then slices_symMergeCmpFunc_Choice_at_impl_Arrange_1.k_47 self_ data0 a1 m2 b3 g4c0 (w64 ((w64 ((w64 (bShr .u64 (u64 (w64 (a1 + b3))) 1)) + m2)) - b3)) (w64 (bShr .u64 (u64 (w64 (a1 + b3))) 1)) else slices_symMergeCmpFunc_Choice_at_impl_Arrange_1.k_47 self_ data0 a1 m2 b3 g4c0 a1 m2)))
def slices_symMergeCmpFunc_Choice_at_impl_Arrange_1.rec_ : Nat → (List GChoice) → Int → Int → Int → GCosts → Option ((List GChoice))
  | 0 => fun data0 a1 m2 b3 g4c0 => none
  | fu + 1 => slices_symMergeCmpFunc_Choice_at_impl_Arrange_1.step (slices_symMergeCmpFunc_Choice_at_impl_Arrange_1.rec_ fu)
def slices_symMergeCmpFunc_Choice_at_impl_Arrange_1 (data0 : List GChoice) (a1 : Int) (m2 : Int) (b3 : Int) (g4c0 : GCosts) : Option ((List GChoice)) := slices_symMergeCmpFunc_Choice_at_impl_Arrange_1.rec_ 200 data0 a1 m2 b3 g4c0
set_option maxHeartbeats 8000000 in
theorem slices_symMergeCmpFunc_Choice_at_impl_Arrange_1.step_calls (self_ : (List GChoice) → Int → Int → Int → GCosts → Option ((List GChoice))) (hself : ∀ (data0 : List GChoice) (a1 : Int) (m2 : Int) (b3 : Int) (g4c0 : GCosts) (w : World) (r : (List GChoice)) (A_o : Option Nat) {A_on : Nat} {A_c : Nat} {A_sp : List Value} (A_hn : data0.length = A_on) (A_hs : A_o ≠ none → A_on ≤ A_c ∧ A_sp.length = (A_c - A_on) * 4) (A_ho : A_o = none → data0 = [] ∧ A_c = 0) (E_b : Nat) (hm0 : Mem w (bs [A_o, some E_b]) [⟨A_o, 144, row encGChoice data0 A_sp⟩, ⟨some E_b, 74, [(.int .i16 g4c0.fAway), (.int .i16 g4c0.fOctave), (.int .i16 g4c0.fStep)]⟩] w) (h : self_ data0 a1 m2 b3 g4c0 = some r),
    Calls Try.prog 170 #[(.slice (A_o.map fun b => ⟨b, 0, none⟩) A_on A_c), (.int .i64 a1), (.int .i64 m2), (.int .i64 b3), (.func (.func 98) #[] #[(.pointer (some ⟨E_b, 0, none⟩))])] w fun e w' => ∃ v, e = .returned v ∧ (r.length = A_on ∧ (A_o = none → r = [] ∧ A_c = 0) ∧ v = .tuple #[] ∧ Mem w (bs [A_o, some E_b]) [⟨A_o, 144, row encGChoice r A_sp⟩, ⟨some E_b, 74, [(.int .i16 g4c0.fAway), (.int .i16 g4c0.fOctave), (.int .i16 g4c0.fStep)]⟩] w')) (data0 : List GChoice) (a1 : Int) (m2 : Int) (b3 : Int) (g4c0 : GCosts) (w : World) (r : (List GChoice)) (A_o : Option Nat) {A_on : Nat} {A_c : Nat} {A_sp : List Value} (A_hn : data0.length = A_on) (A_hs : A_o ≠ none → A_on ≤ A_c ∧ A_sp.length = (A_c - A_on) * 4) (A_ho : A_o = none → data0 = [] ∧ A_c = 0) (E_b : Nat) (hm0 : Mem w (bs [A_o, some E_b]) [⟨A_o, 144, row encGChoice data0 A_sp⟩, ⟨some E_b, 74, [(.int .i16 g4c0.fAway), (.int .i16 g4c0.fOctave), (.int .i16 g4c0.fStep)]⟩] w) (h : slices_symMergeCmpFunc_Choice_at_impl_Arrange_1.step self_ data0 a1 m2 b3 g4c0 = some r) :
    Calls Try.prog 170 #[(.slice (A_o.map fun b => ⟨b, 0, none⟩) A_on A_c), (.int .i64 a1), (.int .i64 m2), (.int .i64 b3), (.func (.func 98) #[] #[(.pointer (some ⟨E_b, 0, none⟩))])] w fun e w' => ∃ v, e = .returned v ∧ (r.length = A_on ∧ (A_o = none → r = [] ∧ A_c = 0) ∧ v = .tuple #[] ∧ Mem w (bs [A_o, some E_b]) [⟨A_o, 144, row encGChoice r A_sp⟩, ⟨some E_b, 74, [(.int .i16 g4c0.fAway), (.int .i16 g4c0.fOctave), (.int .i16 g4c0.fStep)]⟩] w') := by
  subst A_hn
  rw [slices_symMergeCmpFunc_Choice_at_impl_Arrange_1.step] at h
  refine enter (args := [(.slice (A_o.map fun b => ⟨b, 0, none⟩) data0.length A_c), (.int .i64 a1), (.int .i64 m2), (.int .i64 b3), (.func (.func 98) #[] #[(.pointer (some ⟨E_b, 0, none⟩))])]) Try.func170 rfl Try.ntmps170 (by kernel_rfl) (L := [⟨A_o, 144, row encGChoice data0 A_sp⟩, ⟨some E_b, 74, [(.int .i16 g4c0.fAway), (.int .i16 g4c0.fOctave), (.int .i16 g4c0.fStep)]⟩]) (W := bs [A_o, some E_b]) hm0 ?_
  refine jc_seq (jc_seq (jc_region (qh [0,0,0,0] (qe (jx_then (qi h (fun h => ?_) (fun h => ?_)))))))
  ·refine jc_seq (jc_region (qh [0,0] (qe (jx_then (jc_seq (jc_region (qh [0,0] (qe (jx_then (jc_seq (jc_meet (fun (j : Int) => match j with | i_1 => slices_symMergeCmpFunc_Choice_at_impl_Arrange_1.k_2 data0 a1 i_1 = some r) (fun (j : Int) => match j with | i_1 => [(0, [], (.slice (A_o.map fun b => ⟨b, 0, none⟩) data0.length A_c)), (1, [], (.int .i64 a1)), (2, [], (.int .i64 m2)), (3, [], (.int .i64 b3)), (4, [], (.func (.func 98) #[] #[(.pointer (some ⟨E_b, 0, none⟩))])), (10, [], (.int .i64 i_1))]) (fun (j : Int) => match j with | i_1 => [⟨A_o, 144, row encGChoice data0 A_sp⟩, ⟨some E_b, 74, [(.int .i16 g4c0.fAway), (.int .i16 g4c0.fOctave), (.int .i16 g4c0.fStep)]⟩]) ?_ ?_)))))))))))
   ·refine jc_block ?_
    obtain ⟨t_16, ht_306, hr_293⟩ := bd h
    refine jc_loop (fun (s : Int × Int) (x : Unit) => match s, x with | ⟨i_13, i_14⟩, _ => True) (fun (s : Int × Int) (x : Unit) => match s, x with | ⟨i_13, i_14⟩, _ => [(0, [], (.slice (A_o.map fun b => ⟨b, 0, none⟩) data0.length A_c)), (1, [], (.int .i64 a1)), (2, [], (.int .i64 m2)), (3, [], (.int .i64 b3)), (4, [], (.func (.func 98) #[] #[(.pointer (some ⟨E_b, 0, none⟩))])), (10, [], (.int .i64 i_13)), (11, [], (.int .i64 i_14))]) (fun (s : Int × Int) (x : Unit) => match s, x with | ⟨i_13, i_14⟩, _ => [⟨A_o, 144, row encGChoice data0 A_sp⟩, ⟨some E_b, 74, [(.int .i16 g4c0.fAway), (.int .i16 g4c0.fOctave), (.int .i16 g4c0.fStep)]⟩]) ht_306 () trivial (by kernel_rfl) [0, 1] (by kernel_rfl) (by kernel_rfl) ?_
    rintro ⟨i_13, i_14⟩ _ y_294 _ h
    rw [slices_symMergeCmpFunc_Choice_at_impl_Arrange_1.l_15] at h
    refine jc_seq (jc_seq (jc_region (qh [0,0,0] (qe (jx_then (qi h (fun h => ?_) (fun h => ?_)))))))
    ·refine jc_skip (jx_then (jc_meet (fun (j : Int × Int) => match j with | ⟨i_17, i_18⟩ => slices_symMergeCmpFunc_Choice_at_impl_Arrange_1.k_19 i_17 i_18 = some y_294) (fun (j : Int × Int) => match j with | ⟨i_17, i_18⟩ => [(0, [], (.slice (A_o.map fun b => ⟨b, 0, none⟩) data0.length A_c)), (1, [], (.int .i64 a1)), (2, [], (.int .i64 m2)), (3, [], (.int .i64 b3)), (4, [], (.func (.func 98) #[] #[(.pointer (some ⟨E_b, 0, none⟩))])), (10, [], (.int .i64 i_17)), (11, [], (.int .i64 i_18))]) (fun (j : Int × Int) => match j with | ⟨i_17, i_18⟩ => [⟨A_o, 144, row encGChoice data0 A_sp⟩, ⟨some E_b, 74, [(.int .i16 g4c0.fAway), (.int .i16 g4c0.fOctave), (.int .i16 g4c0.fStep)]⟩]) ?_ ?_))
     ·refine jc_block (jc_seq (jc_region (qh [0,0,0,0,0,0,0] (qe (jx_then (jc_seq (qg [⟨A_o, 144, row encGChoice data0 A_sp⟩, ⟨some E_b, 74, [(.int .i16 g4c0.fAway), (.int .i16 g4c0.fOctave), (.int .i16 g4c0.fStep)]⟩] 11 (qd [⟨0, 0, 0⟩,⟨1, 0, 0⟩,⟨2, 0, 0⟩,⟨5, 0, 0⟩,⟨6, 0, 0⟩] 6 [0, 1] ?_))))))))
      obtain ⟨x_20, hx_301, h⟩ := bd h
      refine qv 3 0 [0, 1] (fun w hm => idx_run (a := (A_o.map fun b => ⟨b, 0, none⟩)) (len := data0.length) (s := 4) (j := (w64 (bShr .u64 (u64 (w64 (i_13 + i_14))) 1))) (by kernel_rfl) (ix_some hx_301).1 (ltn hx_301 rfl) (spo A_ho hx_301)) (qv 4 0 [0, 1] (fun w hm => ld_run (b := aB (A_o.map fun b => ⟨b, 0, none⟩)) (off := (aO (A_o.map fun b => ⟨b, 0, none⟩) + (w64 (bShr .u64 (u64 (w64 (i_13 + i_14))) 1)).toNat * 4)) (s := 4) (agg := true) (vs := (encGChoice x_20)) (by kernel_rfl) (by kernel_rfl) (.inl rfl) ((hm.ow 0 A_o 144 data0 A_sp (fun e => (A_ho e).1) encGChoice_len).at hx_301)) ?_)
      obtain ⟨x_21, hx_302, h⟩ := bd h
      refine qv 7 0 [0, 1] (fun w hm => idx_run (a := (A_o.map fun b => ⟨b, 0, none⟩)) (len := data0.length) (s := 4) (j := a1) (by kernel_rfl) (ix_some hx_302).1 (ltn hx_302 rfl) (spo A_ho hx_302)) (qv 8 0 [0, 1] (fun w hm => ld_run (b := aB (A_o.map fun b => ⟨b, 0, none⟩)) (off := (aO (A_o.map fun b => ⟨b, 0, none⟩) + a1.toNat * 4)) (s := 4) (agg := true) (vs := (encGChoice x_21)) (by kernel_rfl) (by kernel_rfl) (.inl rfl) ((hm.ow 0 A_o 144 data0 A_sp (fun e => (A_ho e).1) encGChoice_len).at hx_302)) ?_)
      obtain ⟨t_22, ht_303, h⟩ := bd h
      refine tD 9 (pc 0 (fun w hm => impl_Arrange_1.calls x_20 x_21 g4c0 w _ E_b (hm.pass (N := [⟨some E_b, 74, [(.int .i16 g4c0.fAway), (.int .i16 g4c0.fOctave), (.int .i16 g4c0.fStep)]⟩]) [1] (by kernel_rfl) (by kernel_rfl)) ht_303) ?_)
      rintro w v w' hm ⟨rfl, hm'⟩
      refine ⟨_, hm.appW (ps := [(1, ⟨some E_b, 74, [(.int .i16 g4c0.fAway), (.int .i16 g4c0.fOctave), (.int .i16 g4c0.fStep)]⟩)]) (N := []) hm' (by kernel_rfl) (by kernel_rfl), kD [0, 1] ?_⟩
      clear hm hm'
      refine qd [⟨10, 0, 0⟩] 0 [0, 1] (qz (jx_then (qi h (fun h => ?_) (fun h => ?_))))
      ·exact jc_region (qh [0,0,0] (qe (jx_inn (qm ⟨(w64 ((w64 (bShr .u64 (u64 (w64 (i_13 + i_14))) 1)) + 1)), i_14⟩ h [0, 1]))))
      ·exact jc_region (qh [0,0] (qe (jx_inn (qm ⟨i_13, (w64 (bShr .u64 (u64 (w64 (i_13 + i_14))) 1))⟩ h [0, 1]))))
     ·rintro ⟨i_17, i_18⟩ h
      replace h : slices_symMergeCmpFunc_Choice_at_impl_Arrange_1.k_19 i_17 i_18 = some y_294 := h
      rw [slices_symMergeCmpFunc_Choice_at_impl_Arrange_1.k_19] at h
      exact qb (i_17, i_18) () h trivial [0, 1]
    ·refine jc_exit (jx_thenx (jx_leave i_13 (Option.some.inj h).symm (fun e_305 => ?_)))
     subst e_305
     exact jx_ine (qm i_13 hr_293 [0, 1])
   ·rintro i_1 h
    replace h : slices_symMergeCmpFunc_Choice_at_impl_Arrange_1.k_2 data0 a1 i_1 = some r := h
    rw [slices_symMergeCmpFunc_Choice_at_impl_Arrange_1.k_2] at h
    refine jx_then (jc_seq (jc_seq (jc_region (qh [0,0] (qe (jx_then (jc_meet (fun (j : (List GChoice)) => match j with | xs_3 => slices_symMergeCmpFunc_Choice_at_impl_Arrange_1.k_4 xs_3 = some r ∧ (xs_3.length = data0.length) ∧ ((A_o = none → xs_3 = [] ∧ A_c = 0))) (fun (j : (List GChoice)) => match j with | xs_3 => [(0, [], (.slice (A_o.map fun b => ⟨b, 0, none⟩) data0.length A_c)), (1, [], (.int .i64 a1)), (2, [], (.int .i64 m2)), (3, [], (.int .i64 b3)), (4, [], (.func (.func 98) #[] #[(.pointer (some ⟨E_b, 0, none⟩))]))]) (fun (j : (List GChoice)) => match j with | xs_3 => [⟨A_o, 144, row encGChoice xs_3 A_sp⟩, ⟨some E_b, 74, [(.int .i16 g4c0.fAway), (.int .i16 g4c0.fOctave), (.int .i16 g4c0.fStep)]⟩]) ?_ ?_)))))))
    ·refine jc_block ?_
     obtain ⟨t_8, ht_272, hr_258⟩ := bd h
     refine jc_loop (fun (s : (List GChoice) × Int) (x : Unit) => match s, x with | ⟨xs_5, i_6⟩, _ => (xs_5.length = data0.length) ∧ ((A_o = none → xs_5 = [] ∧ A_c = 0))) (fun (s : (List GChoice) × Int) (x : Unit) => match s, x with | ⟨xs_5, i_6⟩, _ => [(0, [], (.slice (A_o.map fun b => ⟨b, 0, none⟩) data0.length A_c)), (1, [], (.int .i64 a1)), (2, [], (.int .i64 m2)), (3, [], (.int .i64 b3)), (4, [], (.func (.func 98) #[] #[(.pointer (some ⟨E_b, 0, none⟩))])), (10, [], (.int .i64 i_1)), (13, [], (.int .i64 i_6))]) (fun (s : (List GChoice) × Int) (x : Unit) => match s, x with | ⟨xs_5, i_6⟩, _ => [⟨A_o, 144, row encGChoice xs_5 A_sp⟩, ⟨some E_b, 74, [(.int .i16 g4c0.fAway), (.int .i16 g4c0.fOctave), (.int .i16 g4c0.fStep)]⟩]) ht_272 () ⟨rfl, A_ho⟩ (by kernel_rfl) [0, 1] (by kernel_rfl) (by kernel_rfl) ?_
     rintro ⟨xs_5, i_6⟩ _ y_259 ⟨hn_257, ho_256⟩ h
     rw [slices_symMergeCmpFunc_Choice_at_impl_Arrange_1.l_7] at h
     refine jc_seq (jc_seq (jc_region (qh [0,0,0,0] (qe (jx_then (qi h (fun h => ?_) (fun h => ?_)))))))
     ·refine jc_skip (jx_then (jc_seq (jc_block (qg [⟨some E_b, 74, [(.int .i16 g4c0.fAway), (.int .i16 g4c0.fOctave), (.int .i16 g4c0.fStep)]⟩] 18 (qd [⟨0, 0, 0⟩,⟨1, 0, 0⟩,⟨2, 0, 0⟩,⟨3, 0, 0⟩,⟨4, 0, 0⟩,⟨5, 0, 0⟩,⟨6, 0, 0⟩,⟨7, 0, 0⟩,⟨10, 0, 0⟩,⟨11, 0, 0⟩] 8 [1] ?_)))))
      obtain ⟨x_9, hx_265, h⟩ := bd h
      refine qv 8 0 [1] (fun w hm => idx_run (a := (A_o.map fun b => ⟨b, 0, none⟩)) (len := data0.length) (s := 4) (j := (w64 (i_6 + 1))) (by kernel_rfl) (ix_some hx_265).1 (ltn hx_265 hn_257) (spo ho_256 hx_265)) ?_
      obtain ⟨x_10, hx_266, h⟩ := bd h
      refine qv 12 0 [1] (fun w hm => idx_run (a := (A_o.map fun b => ⟨b, 0, none⟩)) (len := data0.length) (s := 4) (j := i_6) (by kernel_rfl) (ix_some hx_266).1 (ltn hx_266 hn_257) (spo ho_256 hx_266)) (toD2 9 13 (by kernel_rfl) ?_ ?_)
      ·refine ql 0 true (fun w hm => ((hm.ow 0 A_o 144 xs_5 A_sp (fun e => (ho_256 e).1) encGChoice_len).at hx_265)) (kD [1] (tD 13 (ql 0 true (fun w hm => ((hm.ow 0 A_o 144 xs_5 A_sp (fun e => (ho_256 e).1) encGChoice_len).at hx_266)) (kD [1] ?_))))
       obtain ⟨x_11, hx_267, h⟩ := bd h
       refine qv 14 0 [1] (fun w hm => idx_run (a := (A_o.map fun b => ⟨b, 0, none⟩)) (len := data0.length) (s := 4) (j := i_6) (by kernel_rfl) (ix_some hx_267).1 (ltn hx_267 hn_257) (spo ho_256 hx_267)) (tD 15 (p_strO 0 0 A_o 144 encGChoice xs_5 A_sp i_6 x_9 4 0 [(.bool x_9.fAway), (.int .i8 x_9.fLate), (.int .i8 x_9.fOctave), (.int .i8 x_9.fTrack)] (by kernel_rfl) (by kernel_rfl) (by kernel_rfl) (fun e => (ho_256 e).1) encGChoice_len hx_267 (by kernel_rfl) (by kernel_rfl) (kD [1] ?_)))
       obtain ⟨x_12, hx_268, h⟩ := bd h
       exact qv 16 0 [1] (fun w hm => idx_run (a := (A_o.map fun b => ⟨b, 0, none⟩)) (len := data0.length) (s := 4) (j := (w64 (i_6 + 1))) (by kernel_rfl) (ix_some hx_268).1 (ltn hx_268 (List.length_set.trans hn_257)) (spo (set_ho ho_256) hx_268)) (tD 17 (p_strO 0 0 A_o 144 encGChoice (xs_5.set i_6.toNat x_9) A_sp (w64 (i_6 + 1)) x_10 4 0 [(.bool x_10.fAway), (.int .i8 x_10.fLate), (.int .i8 x_10.fOctave), (.int .i8 x_10.fTrack)] (by kernel_rfl) (by kernel_rfl) (by kernel_rfl) (fun e => ((set_ho ho_256) e).1) encGChoice_len hx_268 (by kernel_rfl) (by kernel_rfl) (kD [1] (qz (jx_inn (jx_then (jc_region (qh [0,0,0] (qe (qb (((xs_5.set i_6.toNat x_9).set (w64 (i_6 + 1)).toNat x_10), (w64 (i_6 + 1))) () h ⟨(List.length_set.trans (List.length_set.trans hn_257)), (set_ho (set_ho ho_256))⟩ [0, 1]))))))))))
      ·refine ql 0 true (fun w hm => ((hm.ow 0 A_o 144 xs_5 A_sp (fun e => (ho_256 e).1) encGChoice_len).at hx_266)) (kD [1] (tD 9 (ql 0 true (fun w hm => ((hm.ow 0 A_o 144 xs_5 A_sp (fun e => (ho_256 e).1) encGChoice_len).at hx_265)) (kD [1] ?_))))
       obtain ⟨x_11, hx_269, h⟩ := bd h
       refine qv 14 0 [1] (fun w hm => idx_run (a := (A_o.map fun b => ⟨b, 0, none⟩)) (len := data0.length) (s := 4) (j := i_6) (by kernel_rfl) (ix_some hx_269).1 (ltn hx_269 hn_257) (spo ho_256 hx_269)) (tD 15 (p_strO 0 0 A_o 144 encGChoice xs_5 A_sp i_6 x_9 4 0 [(.bool x_9.fAway), (.int .i8 x_9.fLate), (.int .i8 x_9.fOctave), (.int .i8 x_9.fTrack)] (by kernel_rfl) (by kernel_rfl) (by kernel_rfl) (fun e => (ho_256 e).1) encGChoice_len hx_269 (by kernel_rfl) (by kernel_rfl) (kD [1] ?_)))
       obtain ⟨x_12, hx_270, h⟩ := bd h
       exact qv 16 0 [1] (fun w hm => idx_run (a := (A_o.map fun b => ⟨b, 0, none⟩)) (len := data0.length) (s := 4) (j := (w64 (i_6 + 1))) (by kernel_rfl) (ix_some hx_270).1 (ltn hx_270 (List.length_set.trans hn_257)) (spo (set_ho ho_256) hx_270)) (tD 17 (p_strO 0 0 A_o 144 encGChoice (xs_5.set i_6.toNat x_9) A_sp (w64 (i_6 + 1)) x_10 4 0 [(.bool x_10.fAway), (.int .i8 x_10.fLate), (.int .i8 x_10.fOctave), (.int .i8 x_10.fTrack)] (by kernel_rfl) (by kernel_rfl) (by kernel_rfl) (fun e => ((set_ho ho_256) e).1) encGChoice_len hx_270 (by kernel_rfl) (by kernel_rfl) (kD [1] (qz (jx_inn (jx_then (jc_region (qh [0,0,0] (qe (qb (((xs_5.set i_6.toNat x_9).set (w64 (i_6 + 1)).toNat x_10), (w64 (i_6 + 1))) () h ⟨(List.length_set.trans (List.length_set.trans hn_257)), (set_ho (set_ho ho_256))⟩ [0, 1]))))))))))
     ·refine jc_exit (jx_thenx (jx_leave xs_5 (Option.some.inj h).symm (fun e_271 => ?_)))
      subst e_271
      exact jx_ine (qm xs_5 ⟨hr_258, hn_257, ho_256⟩ [0, 1])
    ·rintro xs_3 ⟨h, hn_231, ho_230⟩
     replace h : slices_symMergeCmpFunc_Choice_at_impl_Arrange_1.k_4 xs_3 = some r := h
     rw [slices_symMergeCmpFunc_Choice_at_impl_Arrange_1.k_4] at h
     refine jx_then (jc_ret (jx_thenr ?_))
     obtain rfl := Option.some.inj h
     exact qr [] (fun w hm => ⟨hn_231, ho_230, rfl, hm.pk [0, 1]⟩)
  ·refine jc_skip (jx_then (jc_seq (jc_seq (jc_region (qh [0,0,0,0] (qe (jx_then (qi h (fun h => ?_) (fun h => ?_)))))))))
   ·refine jc_seq (jc_region (qh [0,0] (qe (jx_then (jc_seq (jc_region (qh [0,0] (qe (jx_then (jc_seq (jc_meet (fun (j : Int) => match j with | i_23 => slices_symMergeCmpFunc_Choice_at_impl_Arrange_1.k_24 data0 m2 i_23 = some r) (fun (j : Int) => match j with | i_23 => [(0, [], (.slice (A_o.map fun b => ⟨b, 0, none⟩) data0.length A_c)), (1, [], (.int .i64 a1)), (2, [], (.int .i64 m2)), (3, [], (.int .i64 b3)), (4, [], (.func (.func 98) #[] #[(.pointer (some ⟨E_b, 0, none⟩))])), (14, [], (.int .i64 i_23))]) (fun (j : Int) => match j with | i_23 => [⟨A_o, 144, row encGChoice data0 A_sp⟩, ⟨some E_b, 74, [(.int .i16 g4c0.fAway), (.int .i16 g4c0.fOctave), (.int .i16 g4c0.fStep)]⟩]) ?_ ?_)))))))))))
    ·refine jc_block ?_
     obtain ⟨t_38, ht_612, hr_599⟩ := bd h
     refine jc_loop (fun (s : Int × Int) (x : Unit) => match s, x with | ⟨i_35, i_36⟩, _ => True) (fun (s : Int × Int) (x : Unit) => match s, x with | ⟨i_35, i_36⟩, _ => [(0, [], (.slice (A_o.map fun b => ⟨b, 0, none⟩) data0.length A_c)), (1, [], (.int .i64 a1)), (2, [], (.int .i64 m2)), (3, [], (.int .i64 b3)), (4, [], (.func (.func 98) #[] #[(.pointer (some ⟨E_b, 0, none⟩))])), (14, [], (.int .i64 i_35)), (15, [], (.int .i64 i_36))]) (fun (s : Int × Int) (x : Unit) => match s, x with | ⟨i_35, i_36⟩, _ => [⟨A_o, 144, row encGChoice data0 A_sp⟩, ⟨some E_b, 74, [(.int .i16 g4c0.fAway), (.int .i16 g4c0.fOctave), (.int .i16 g4c0.fStep)]⟩]) ht_612 () trivial (by kernel_rfl) [0, 1] (by kernel_rfl) (by kernel_rfl) ?_
     rintro ⟨i_35, i_36⟩ _ y_600 _ h
     rw [slices_symMergeCmpFunc_Choice_at_impl_Arrange_1.l_37] at h
     refine jc_seq (jc_seq (jc_region (qh [0,0,0] (qe (jx_then (qi h (fun h => ?_) (fun h => ?_)))))))
     ·refine jc_skip (jx_then (jc_meet (fun (j : Int × Int) => match j with | ⟨i_39, i_40⟩ => slices_symMergeCmpFunc_Choice_at_impl_Arrange_1.k_41 i_39 i_40 = some y_600) (fun (j : Int × Int) => match j with | ⟨i_39, i_40⟩ => [(0, [], (.slice (A_o.map fun b => ⟨b, 0, none⟩) data0.length A_c)), (1, [], (.int .i64 a1)), (2, [], (.int .i64 m2)), (3, [], (.int .i64 b3)), (4, [], (.func (.func 98) #[] #[(.pointer (some ⟨E_b, 0, none⟩))])), (14, [], (.int .i64 i_39)), (15, [], (.int .i64 i_40))]) (fun (j : Int × Int) => match j with | ⟨i_39, i_40⟩ => [⟨A_o, 144, row encGChoice data0 A_sp⟩, ⟨some E_b, 74, [(.int .i16 g4c0.fAway), (.int .i16 g4c0.fOctave), (.int .i16 g4c0.fStep)]⟩]) ?_ ?_))
      ·refine jc_block (jc_seq (jc_region (qh [0,0,0,0,0,0,0] (qe (jx_then (jc_seq (qg [⟨A_o, 144, row encGChoice data0 A_sp⟩, ⟨some E_b, 74, [(.int .i16 g4c0.fAway), (.int .i16 g4c0.fOctave), (.int .i16 g4c0.fStep)]⟩] 12 (qd [⟨0, 0, 0⟩,⟨1, 0, 0⟩,⟨2, 0, 0⟩,⟨5, 0, 0⟩,⟨6, 0, 0⟩] 7 [0, 1] ?_))))))))
       obtain ⟨x_42, hx_607, h⟩ := bd h
       refine qv 3 0 [0, 1] (fun w hm => idx_run (a := (A_o.map fun b => ⟨b, 0, none⟩)) (len := data0.length) (s := 4) (j := m2) (by kernel_rfl) (ix_some hx_607).1 (ltn hx_607 rfl) (spo A_ho hx_607)) (qv 4 0 [0, 1] (fun w hm => ld_run (b := aB (A_o.map fun b => ⟨b, 0, none⟩)) (off := (aO (A_o.map fun b => ⟨b, 0, none⟩) + m2.toNat * 4)) (s := 4) (agg := true) (vs := (encGChoice x_42)) (by kernel_rfl) (by kernel_rfl) (.inl rfl) ((hm.ow 0 A_o 144 data0 A_sp (fun e => (A_ho e).1) encGChoice_len).at hx_607)) ?_)
       obtain ⟨x_43, hx_608, h⟩ := bd h
       refine qv 7 0 [0, 1] (fun w hm => idx_run (a := (A_o.map fun b => ⟨b, 0, none⟩)) (len := data0.length) (s := 4) (j := (w64 (bShr .u64 (u64 (w64 (i_35 + i_36))) 1))) (by kernel_rfl) (ix_some hx_608).1 (ltn hx_608 rfl) (spo A_ho hx_608)) (qv 8 0 [0, 1] (fun w hm => ld_run (b := aB (A_o.map fun b => ⟨b, 0, none⟩)) (off := (aO (A_o.map fun b => ⟨b, 0, none⟩) + (w64 (bShr .u64 (u64 (w64 (i_35 + i_36))) 1)).toNat * 4)) (s := 4) (agg := true) (vs := (encGChoice x_43)) (by kernel_rfl) (by kernel_rfl) (.inl rfl) ((hm.ow 0 A_o 144 data0 A_sp (fun e => (A_ho e).1) encGChoice_len).at hx_608)) ?_)
       obtain ⟨t_44, ht_609, h⟩ := bd h
       refine tD 9 (pc 0 (fun w hm => impl_Arrange_1.calls x_42 x_43 g4c0 w _ E_b (hm.pass (N := [⟨some E_b, 74, [(.int .i16 g4c0.fAway), (.int .i16 g4c0.fOctave), (.int .i16 g4c0.fStep)]⟩]) [1] (by kernel_rfl) (by kernel_rfl)) ht_609) ?_)
       rintro w v w' hm ⟨rfl, hm'⟩
       refine ⟨_, hm.appW (ps := [(1, ⟨some E_b, 74, [(.int .i16 g4c0.fAway), (.int .i16 g4c0.fOctave), (.int .i16 g4c0.fStep)]⟩)]) (N := []) hm' (by kernel_rfl) (by kernel_rfl), kD [0, 1] ?_⟩
       clear hm hm'
       refine qd [⟨10, 0, 0⟩,⟨11, 0, 0⟩] 0 [0, 1] (qz (jx_then (qi h (fun h => ?_) (fun h => ?_))))
       ·exact jc_region (qh [0,0,0] (qe (jx_inn (qm ⟨(w64 ((w64 (bShr .u64 (u64 (w64 (i_35 + i_36))) 1)) + 1)), i_36⟩ h [0, 1]))))
       ·exact jc_region (qh [0,0] (qe (jx_inn (qm ⟨i_35, (w64 (bShr .u64 (u64 (w64 (i_35 + i_36))) 1))⟩ h [0, 1]))))
      ·rintro ⟨i_39, i_40⟩ h
       replace h : slices_symMergeCmpFunc_Choice_at_impl_Arrange_1.k_41 i_39 i_40 = some y_600 := h
       rw [slices_symMergeCmpFunc_Choice_at_impl_Arrange_1.k_41] at h
       exact qb (i_39, i_40) () h trivial [0, 1]
     ·refine jc_exit (jx_thenx (jx_leave i_35 (Option.some.inj h).symm (fun e_611 => ?_)))
      subst e_611
      exact jx_ine (qm i_35 hr_599 [0, 1])
    ·rintro i_23 h
     replace h : slices_symMergeCmpFunc_Choice_at_impl_Arrange_1.k_24 data0 m2 i_23 = some r := h
     rw [slices_symMergeCmpFunc_Choice_at_impl_Arrange_1.k_24] at h
     refine jx_then (jc_seq (jc_seq (jc_region (qh [0,0] (qe (jx_then (jc_meet (fun (j : (List GChoice)) => match j with | xs_25 => slices_symMergeCmpFunc_Choice_at_impl_Arrange_1.k_26 xs_25 = some r ∧ (xs_25.length = data0.length) ∧ ((A_o = none → xs_25 = [] ∧ A_c = 0))) (fun (j : (List GChoice)) => match j with | xs_25 => [(0, [], (.slice (A_o.map fun b => ⟨b, 0, none⟩) data0.length A_c)), (1, [], (.int .i64 a1)), (2, [], (.int .i64 m2)), (3, [], (.int .i64 b3)), (4, [], (.func (.func 98) #[] #[(.pointer (some ⟨E_b, 0, none⟩))]))]) (fun (j : (List GChoice)) => match j with | xs_25 => [⟨A_o, 144, row encGChoice xs_25 A_sp⟩, ⟨some E_b, 74, [(.int .i16 g4c0.fAway), (.int .i16 g4c0.fOctave), (.int .i16 g4c0.fStep)]⟩]) ?_ ?_)))))))
     ·refine jc_block ?_
      obtain ⟨t_30, ht_578, hr_564⟩ := bd h
      refine jc_loop (fun (s : (List GChoice) × Int) (x : Unit) => match s, x with | ⟨xs_27, i_28⟩, _ => (xs_27.length = data0.length) ∧ ((A_o = none → xs_27 = [] ∧ A_c = 0))) (fun (s : (List GChoice) × Int) (x : Unit) => match s, x with | ⟨xs_27, i_28⟩, _ => [(0, [], (.slice (A_o.map fun b => ⟨b, 0, none⟩) data0.length A_c)), (1, [], (.int .i64 a1)), (2, [], (.int .i64 m2)), (3, [], (.int .i64 b3)), (4, [], (.func (.func 98) #[] #[(.pointer (some ⟨E_b, 0, none⟩))])), (14, [], (.int .i64 i_23)), (17, [], (.int .i64 i_28))]) (fun (s : (List GChoice) × Int) (x : Unit) => match s, x with | ⟨xs_27, i_28⟩, _ => [⟨A_o, 144, row encGChoice xs_27 A_sp⟩, ⟨some E_b, 74, [(.int .i16 g4c0.fAway), (.int .i16 g4c0.fOctave), (.int .i16 g4c0.fStep)]⟩]) ht_578 () ⟨rfl, A_ho⟩ (by kernel_rfl) [0, 1] (by kernel_rfl) (by kernel_rfl) ?_
      rintro ⟨xs_27, i_28⟩ _ y_565 ⟨hn_563, ho_562⟩ h
      rw [slices_symMergeCmpFunc_Choice_at_impl_Arrange_1.l_29] at h
      refine jc_seq (jc_seq (jc_region (qh [0,0,0] (qe (jx_then (qi h (fun h => ?_) (fun h => ?_)))))))
      ·refine jc_skip (jx_then (jc_seq (jc_block (qg [⟨some E_b, 74, [(.int .i16 g4c0.fAway), (.int .i16 g4c0.fOctave), (.int .i16 g4c0.fStep)]⟩] 18 (qd [⟨0, 0, 0⟩,⟨1, 0, 0⟩,⟨2, 0, 0⟩,⟨3, 0, 0⟩,⟨4, 0, 0⟩,⟨5, 0, 0⟩,⟨6, 0, 0⟩,⟨7, 0, 0⟩,⟨10, 0, 0⟩,⟨11, 0, 0⟩] 8 [1] ?_)))))
       obtain ⟨x_31, hx_571, h⟩ := bd h
       refine qv 8 0 [1] (fun w hm => idx_run (a := (A_o.map fun b => ⟨b, 0, none⟩)) (len := data0.length) (s := 4) (j := (w64 (i_28 - 1))) (by kernel_rfl) (ix_some hx_571).1 (ltn hx_571 hn_563) (spo ho_562 hx_571)) ?_
       obtain ⟨x_32, hx_572, h⟩ := bd h
       refine qv 12 0 [1] (fun w hm => idx_run (a := (A_o.map fun b => ⟨b, 0, none⟩)) (len := data0.length) (s := 4) (j := i_28) (by kernel_rfl) (ix_some hx_572).1 (ltn hx_572 hn_563) (spo ho_562 hx_572)) (toD2 9 13 (by kernel_rfl) ?_ ?_)
       ·refine ql 0 true (fun w hm => ((hm.ow 0 A_o 144 xs_27 A_sp (fun e => (ho_562 e).1) encGChoice_len).at hx_571)) (kD [1] (tD 13 (ql 0 true (fun w hm => ((hm.ow 0 A_o 144 xs_27 A_sp (fun e => (ho_562 e).1) encGChoice_len).at hx_572)) (kD [1] ?_))))
        obtain ⟨x_33, hx_573, h⟩ := bd h
        refine qv 14 0 [1] (fun w hm => idx_run (a := (A_o.map fun b => ⟨b, 0, none⟩)) (len := data0.length) (s := 4) (j := i_28) (by kernel_rfl) (ix_some hx_573).1 (ltn hx_573 hn_563) (spo ho_562 hx_573)) (tD 15 (p_strO 0 0 A_o 144 encGChoice xs_27 A_sp i_28 x_31 4 0 [(.bool x_31.fAway), (.int .i8 x_31.fLate), (.int .i8 x_31.fOctave), (.int .i8 x_31.fTrack)] (by kernel_rfl) (by kernel_rfl) (by kernel_rfl) (fun e => (ho_562 e).1) encGChoice_len hx_573 (by kernel_rfl) (by kernel_rfl) (kD [1] ?_)))
        obtain ⟨x_34, hx_574, h⟩ := bd h
        exact qv 16 0 [1] (fun w hm => idx_run (a := (A_o.map fun b => ⟨b, 0, none⟩)) (len := data0.length) (s := 4) (j := (w64 (i_28 - 1))) (by kernel_rfl) (ix_some hx_574).1 (ltn hx_574 (List.length_set.trans hn_563)) (spo (set_ho ho_562) hx_574)) (tD 17 (p_strO 0 0 A_o 144 encGChoice (xs_27.set i_28.toNat x_31) A_sp (w64 (i_28 - 1)) x_32 4 0 [(.bool x_32.fAway), (.int .i8 x_32.fLate), (.int .i8 x_32.fOctave), (.int .i8 x_32.fTrack)] (by kernel_rfl) (by kernel_rfl) (by kernel_rfl) (fun e => ((set_ho ho_562) e).1) encGChoice_len hx_574 (by kernel_rfl) (by kernel_rfl) (kD [1] (qz (jx_inn (jx_then (jc_region (qh [0,0,0] (qe (qb (((xs_27.set i_28.toNat x_31).set (w64 (i_28 - 1)).toNat x_32), (w64 (i_28 - 1))) () h ⟨(List.length_set.trans (List.length_set.trans hn_563)), (set_ho (set_ho ho_562))⟩ [0, 1]))))))))))
       ·refine ql 0 true (fun w hm => ((hm.ow 0 A_o 144 xs_27 A_sp (fun e => (ho_562 e).1) encGChoice_len).at hx_572)) (kD [1] (tD 9 (ql 0 true (fun w hm => ((hm.ow 0 A_o 144 xs_27 A_sp (fun e => (ho_562 e).1) encGChoice_len).at hx_571)) (kD [1] ?_))))
        obtain ⟨x_33, hx_575, h⟩ := bd h
        refine qv 14 0 [1] (fun w hm => idx_run (a := (A_o.map fun b => ⟨b, 0, none⟩)) (len := data0.length) (s := 4) (j := i_28) (by kernel_rfl) (ix_some hx_575).1 (ltn hx_575 hn_563) (spo ho_562 hx_575)) (tD 15 (p_strO 0 0 A_o 144 encGChoice xs_27 A_sp i_28 x_31 4 0 [(.bool x_31.fAway), (.int .i8 x_31.fLate), (.int .i8 x_31.fOctave), (.int .i8 x_31.fTrack)] (by kernel_rfl) (by kernel_rfl) (by kernel_rfl) (fun e => (ho_562 e).1) encGChoice_len hx_575 (by kernel_rfl) (by kernel_rfl) (kD [1] ?_)))
        obtain ⟨x_34, hx_576, h⟩ := bd h
        exact qv 16 0 [1] (fun w hm => idx_run (a := (A_o.map fun b => ⟨b, 0, none⟩)) (len := data0.length) (s := 4) (j := (w64 (i_28 - 1))) (by kernel_rfl) (ix_some hx_576).1 (ltn hx_576 (List.length_set.trans hn_563)) (spo (set_ho ho_562) hx_576)) (tD 17 (p_strO 0 0 A_o 144 encGChoice (xs_27.set i_28.toNat x_31) A_sp (w64 (i_28 - 1)) x_32 4 0 [(.bool x_32.fAway), (.int .i8 x_32.fLate), (.int .i8 x_32.fOctave), (.int .i8 x_32.fTrack)] (by kernel_rfl) (by kernel_rfl) (by kernel_rfl) (fun e => ((set_ho ho_562) e).1) encGChoice_len hx_576 (by kernel_rfl) (by kernel_rfl) (kD [1] (qz (jx_inn (jx_then (jc_region (qh [0,0,0] (qe (qb (((xs_27.set i_28.toNat x_31).set (w64 (i_28 - 1)).toNat x_32), (w64 (i_28 - 1))) () h ⟨(List.length_set.trans (List.length_set.trans hn_563)), (set_ho (set_ho ho_562))⟩ [0, 1]))))))))))
      ·refine jc_exit (jx_thenx (jx_leave xs_27 (Option.some.inj h).symm (fun e_577 => ?_)))
       subst e_577
       exact jx_ine (qm xs_27 ⟨hr_564, hn_563, ho_562⟩ [0, 1])
     ·rintro xs_25 ⟨h, hn_537, ho_536⟩
      replace h : slices_symMergeCmpFunc_Choice_at_impl_Arrange_1.k_26 xs_25 = some r := h
      rw [slices_symMergeCmpFunc_Choice_at_impl_Arrange_1.k_26] at h
      refine jx_then (jc_ret (jx_thenr ?_))
      obtain rfl := Option.some.inj h
      exact qr [] (fun w hm => ⟨hn_537, ho_536, rfl, hm.pk [0, 1]⟩)
   ·refine jc_skip (jx_then (jc_seq (jc_region (qh [0,0,0,0,0,0,0] (qe (jx_then (jc_seq (jc_region (qh [0,0,0,0] (qe (jx_then (jc_seq (jc_region (qh [0,0] (qe (jx_then (jc_seq (jc_meet (fun (j : Int × Int) => match j with | ⟨i_45, i_46⟩ => slices_symMergeCmpFunc_Choice_at_impl_Arrange_1.k_47 self_ data0 a1 m2 b3 g4c0 i_45 i_46 = some r) (fun (j : Int × Int) => match j with | ⟨i_45, i_46⟩ => [(0, [], (.slice (A_o.map fun b => ⟨b, 0, none⟩) data0.length A_c)), (1, [], (.int .i64 a1)), (2, [], (.int .i64 m2)), (3, [], (.int .i64 b3)), (4, [], (.func (.func 98) #[] #[(.pointer (some ⟨E_b, 0, none⟩))])), (18, [], (.int .i64 (w64 (bShr .u64 (u64 (w64 (a1 + b3))) 1)))), (19, [], (.int .i64 (w64 ((w64 (bShr .u64 (u64 (w64 (a1 + b3))) 1)) + m2)))), (20, [], (.int .i64 i_45)), (21, [], (.int .i64 i_46))]) (fun (j : Int × Int) => match j with | ⟨i_45, i_46⟩ => [⟨A_o, 144, row encGChoice data0 A_sp⟩, ⟨some E_b, 74, [(.int .i16 g4c0.fAway), (.int .i16 g4c0.fOctave), (.int .i16 g4c0.fStep)]⟩]) ?_ ?_))))))))))))))))))
    ·refine jc_seq (jc_region (qh [0,0,0] (qe (jx_then (qi h (fun h => ?_) (fun h => ?_))))))
     ·exact jc_seq (jc_region (qh [0,0,0,0] (qe (jx_then (jc_region (qh [0,0] (qe (qm ⟨(w64 ((w64 ((w64 (bShr .u64 (u64 (w64 (a1 + b3))) 1)) + m2)) - b3)), (w64 (bShr .u64 (u64 (w64 (a1 + b3))) 1))⟩ h [0, 1]))))))))
     ·exact jc_seq (jc_region (qh [0,0] (qe (jx_then (jc_region (qh [0,0] (qe (qm ⟨a1, m2⟩ h [0, 1]))))))))
    ·rintro ⟨i_45, i_46⟩ h
     replace h : slices_symMergeCmpFunc_Choice_at_impl_Arrange_1.k_47 self_ data0 a1 m2 b3 g4c0 i_45 i_46 = some r := h
     rw [slices_symMergeCmpFunc_Choice_at_impl_Arrange_1.k_47] at h
     refine jx_then (jc_seq (jc_region (qh [0,0,0] (qe (jx_then (jc_seq (jc_meet (fun (j : Int) => match j with | i_48 => slices_symMergeCmpFunc_Choice_at_impl_Arrange_1.k_49 self_ data0 a1 m2 b3 g4c0 i_48 = some r) (fun (j : Int) => match j with | i_48 => [(0, [], (.slice (A_o.map fun b => ⟨b, 0, none⟩) data0.length A_c)), (1, [], (.int .i64 a1)), (2, [], (.int .i64 m2)), (3, [], (.int .i64 b3)), (4, [], (.func (.func 98) #[] #[(.pointer (some ⟨E_b, 0, none⟩))])), (18, [], (.int .i64 (w64 (bShr .u64 (u64 (w64 (a1 + b3))) 1)))), (19, [], (.int .i64 (w64 ((w64 (bShr .u64 (u64 (w64 (a1 + b3))) 1)) + m2)))), (20, [], (.int .i64 i_48))]) (fun (j : Int) => match j with | i_48 => [⟨A_o, 144, row encGChoice data0 A_sp⟩, ⟨some E_b, 74, [(.int .i16 g4c0.fAway), (.int .i16 g4c0.fOctave), (.int .i16 g4c0.fStep)]⟩]) ?_ ?_)))))))
     ·refine jc_block ?_
      obtain ⟨t_60, ht_705, hr_692⟩ := bd h
      refine jc_loop (fun (s : Int × Int) (x : Unit) => match s, x with | ⟨i_57, i_58⟩, _ => True) (fun (s : Int × Int) (x : Unit) => match s, x with | ⟨i_57, i_58⟩, _ => [(0, [], (.slice (A_o.map fun b => ⟨b, 0, none⟩) data0.length A_c)), (1, [], (.int .i64 a1)), (2, [], (.int .i64 m2)), (3, [], (.int .i64 b3)), (4, [], (.func (.func 98) #[] #[(.pointer (some ⟨E_b, 0, none⟩))])), (18, [], (.int .i64 (w64 (bShr .u64 (u64 (w64 (a1 + b3))) 1)))), (19, [], (.int .i64 (w64 ((w64 (bShr .u64 (u64 (w64 (a1 + b3))) 1)) + m2)))), (20, [], (.int .i64 i_57)), (21, [], (.int .i64 i_58)), (22, [], (.int .i64 (w64 ((w64 ((w64 (bShr .u64 (u64 (w64 (a1 + b3))) 1)) + m2)) - 1))))]) (fun (s : Int × Int) (x : Unit) => match s, x with | ⟨i_57, i_58⟩, _ => [⟨A_o, 144, row encGChoice data0 A_sp⟩, ⟨some E_b, 74, [(.int .i16 g4c0.fAway), (.int .i16 g4c0.fOctave), (.int .i16 g4c0.fStep)]⟩]) ht_705 () trivial (by kernel_rfl) [0, 1] (by kernel_rfl) (by kernel_rfl) ?_
      rintro ⟨i_57, i_58⟩ _ y_693 _ h
      rw [slices_symMergeCmpFunc_Choice_at_impl_Arrange_1.l_59] at h
      refine jc_seq (jc_seq (jc_region (qh [0,0,0] (qe (jx_then (qi h (fun h => ?_) (fun h => ?_)))))))
      ·refine jc_skip (jx_then (jc_meet (fun (j : Int × Int) => match j with | ⟨i_61, i_62⟩ => slices_symMergeCmpFunc_Choice_at_impl_Arrange_1.k_63 i_61 i_62 = some y_693) (fun (j : Int × Int) => match j with | ⟨i_61, i_62⟩ => [(0, [], (.slice (A_o.map fun b => ⟨b, 0, none⟩) data0.length A_c)), (1, [], (.int .i64 a1)), (2, [], (.int .i64 m2)), (3, [], (.int .i64 b3)), (4, [], (.func (.func 98) #[] #[(.pointer (some ⟨E_b, 0, none⟩))])), (18, [], (.int .i64 (w64 (bShr .u64 (u64 (w64 (a1 + b3))) 1)))), (19, [], (.int .i64 (w64 ((w64 (bShr .u64 (u64 (w64 (a1 + b3))) 1)) + m2)))), (20, [], (.int .i64 i_61)), (21, [], (.int .i64 i_62)), (22, [], (.int .i64 (w64 ((w64 ((w64 (bShr .u64 (u64 (w64 (a1 + b3))) 1)) + m2)) - 1))))]) (fun (j : Int × Int) => match j with | ⟨i_61, i_62⟩ => [⟨A_o, 144, row encGChoice data0 A_sp⟩, ⟨some E_b, 74, [(.int .i16 g4c0.fAway), (.int .i16 g4c0.fOctave), (.int .i16 g4c0.fStep)]⟩]) ?_ ?_))
       ·refine jc_block (jc_seq (jc_region (qh [0,0,0,0,0,0,0] (qe (jx_then (jc_seq (qg [⟨A_o, 144, row encGChoice data0 A_sp⟩, ⟨some E_b, 74, [(.int .i16 g4c0.fAway), (.int .i16 g4c0.fOctave), (.int .i16 g4c0.fStep)]⟩] 14 (qd [⟨0, 0, 0⟩,⟨1, 0, 0⟩,⟨2, 0, 0⟩,⟨3, 0, 0⟩,⟨4, 0, 0⟩,⟨7, 0, 0⟩,⟨8, 0, 0⟩] 7 [0, 1] ?_))))))))
        obtain ⟨x_64, hx_700, h⟩ := bd h
        refine qv 5 0 [0, 1] (fun w hm => idx_run (a := (A_o.map fun b => ⟨b, 0, none⟩)) (len := data0.length) (s := 4) (j := (w64 ((w64 ((w64 ((w64 (bShr .u64 (u64 (w64 (a1 + b3))) 1)) + m2)) - 1)) - (w64 (bShr .u64 (u64 (w64 (i_57 + i_58))) 1))))) (by kernel_rfl) (ix_some hx_700).1 (ltn hx_700 rfl) (spo A_ho hx_700)) (qv 6 0 [0, 1] (fun w hm => ld_run (b := aB (A_o.map fun b => ⟨b, 0, none⟩)) (off := (aO (A_o.map fun b => ⟨b, 0, none⟩) + (w64 ((w64 ((w64 ((w64 (bShr .u64 (u64 (w64 (a1 + b3))) 1)) + m2)) - 1)) - (w64 (bShr .u64 (u64 (w64 (i_57 + i_58))) 1)))).toNat * 4)) (s := 4) (agg := true) (vs := (encGChoice x_64)) (by kernel_rfl) (by kernel_rfl) (.inl rfl) ((hm.ow 0 A_o 144 data0 A_sp (fun e => (A_ho e).1) encGChoice_len).at hx_700)) ?_)
        obtain ⟨x_65, hx_701, h⟩ := bd h
        refine qv 9 0 [0, 1] (fun w hm => idx_run (a := (A_o.map fun b => ⟨b, 0, none⟩)) (len := data0.length) (s := 4) (j := (w64 (bShr .u64 (u64 (w64 (i_57 + i_58))) 1))) (by kernel_rfl) (ix_some hx_701).1 (ltn hx_701 rfl) (spo A_ho hx_701)) (qv 10 0 [0, 1] (fun w hm => ld_run (b := aB (A_o.map fun b => ⟨b, 0, none⟩)) (off := (aO (A_o.map fun b => ⟨b, 0, none⟩) + (w64 (bShr .u64 (u64 (w64 (i_57 + i_58))) 1)).toNat * 4)) (s := 4) (agg := true) (vs := (encGChoice x_65)) (by kernel_rfl) (by kernel_rfl) (.inl rfl) ((hm.ow 0 A_o 144 data0 A_sp (fun e => (A_ho e).1) encGChoice_len).at hx_701)) ?_)
        obtain ⟨t_66, ht_702, h⟩ := bd h
        refine tD 11 (pc 0 (fun w hm => impl_Arrange_1.calls x_64 x_65 g4c0 w _ E_b (hm.pass (N := [⟨some E_b, 74, [(.int .i16 g4c0.fAway), (.int .i16 g4c0.fOctave), (.int .i16 g4c0.fStep)]⟩]) [1] (by kernel_rfl) (by kernel_rfl)) ht_702) ?_)
        rintro w v w' hm ⟨rfl, hm'⟩
        refine ⟨_, hm.appW (ps := [(1, ⟨some E_b, 74, [(.int .i16 g4c0.fAway), (.int .i16 g4c0.fOctave), (.int .i16 g4c0.fStep)]⟩)]) (N := []) hm' (by kernel_rfl) (by kernel_rfl), kD [0, 1] ?_⟩
        clear hm hm'
        refine qd [⟨12, 0, 0⟩,⟨13, 0, 0⟩] 0 [0, 1] (qz (jx_then (qi h (fun h => ?_) (fun h => ?_))))
        ·exact jc_region (qh [0,0,0] (qe (jx_inn (qm ⟨(w64 ((w64 (bShr .u64 (u64 (w64 (i_57 + i_58))) 1)) + 1)), i_58⟩ h [0, 1]))))
        ·exact jc_region (qh [0,0] (qe (jx_inn (qm ⟨i_57, (w64 (bShr .u64 (u64 (w64 (i_57 + i_58))) 1))⟩ h [0, 1]))))
       ·rintro ⟨i_61, i_62⟩ h
        replace h : slices_symMergeCmpFunc_Choice_at_impl_Arrange_1.k_63 i_61 i_62 = some y_693 := h
        rw [slices_symMergeCmpFunc_Choice_at_impl_Arrange_1.k_63] at h
        exact qb (i_61, i_62) () h trivial [0, 1]
      ·refine jc_exit (jx_thenx (jx_leave i_57 (Option.some.inj h).symm (fun e_704 => ?_)))
       subst e_704
       exact jx_ine (qm i_57 hr_692 [0, 1])
     ·rintro i_48 h
      replace h : slices_symMergeCmpFunc_Choice_at_impl_Arrange_1.k_49 self_ data0 a1 m2 b3 g4c0 i_48 = some r := h
      rw [slices_symMergeCmpFunc_Choice_at_impl_Arrange_1.k_49] at h
      refine jx_then (jc_seq (jc_region (qh [0,0,0,0] (qe (jx_then (jc_seq (jc_meet (fun (j : (List GChoice)) => match j with | xs_50 => slices_symMergeCmpFunc_Choice_at_impl_Arrange_1.k_51 self_ a1 m2 b3 g4c0 i_48 xs_50 = some r ∧ (xs_50.length = data0.length) ∧ ((A_o = none → xs_50 = [] ∧ A_c = 0))) (fun (j : (List GChoice)) => match j with | xs_50 => [(0, [], (.slice (A_o.map fun b => ⟨b, 0, none⟩) data0.length A_c)), (1, [], (.int .i64 a1)), (3, [], (.int .i64 b3)), (4, [], (.func (.func 98) #[] #[(.pointer (some ⟨E_b, 0, none⟩))])), (18, [], (.int .i64 (w64 (bShr .u64 (u64 (w64 (a1 + b3))) 1)))), (20, [], (.int .i64 i_48)), (24, [], (.int .i64 (w64 ((w64 ((w64 (bShr .u64 (u64 (w64 (a1 + b3))) 1)) + m2)) - i_48))))]) (fun (j : (List GChoice)) => match j with | xs_50 => [⟨A_o, 144, row encGChoice xs_50 A_sp⟩, ⟨some E_b, 74, [(.int .i16 g4c0.fAway), (.int .i16 g4c0.fOctave), (.int .i16 g4c0.fStep)]⟩]) ?_ ?_)))))))
      ·refine jc_seq (jc_region (qf [(0, 0), (0, 0), (0, 0), (0, 0), (0, 1), (0, 1), (0, 1), (0, 0)] (qe (jx_then (qi h (fun h => ?_) (fun h => ?_))))))
       ·refine jc_region (qh [0,0,0,0,0] ?_)
        obtain ⟨t_56, ht_669, h⟩ := bd h
        refine tO (pc 0 (fun w hm => slices_rotateCmpFunc_Choice_at_impl_Arrange_1.calls data0 i_48 m2 (w64 ((w64 ((w64 (bShr .u64 (u64 (w64 (a1 + b3))) 1)) + m2)) - i_48)) g4c0 w _ A_o rfl A_hs A_ho E_b (hm.pass (N := [⟨A_o, 144, row encGChoice data0 A_sp⟩, ⟨some E_b, 74, [(.int .i16 g4c0.fAway), (.int .i16 g4c0.fOctave), (.int .i16 g4c0.fStep)]⟩]) [0, 1] (by kernel_rfl) (by kernel_rfl)) ht_669) ?_)
        rintro w v w' hm ⟨hn_670, ho_671, rfl, hm'⟩
        refine ⟨_, hm.appW (ps := [(0, ⟨A_o, 144, row encGChoice t_56 A_sp⟩), (1, ⟨some E_b, 74, [(.int .i16 g4c0.fAway), (.int .i16 g4c0.fOctave), (.int .i16 g4c0.fStep)]⟩)]) (N := []) hm' (by kernel_rfl) (by kernel_rfl), jkO ?_⟩
        clear hm hm'
        exact qe (qm t_56 ⟨h, hn_670, ho_671⟩ [0, 1])
       ·exact jc_skip (qm data0 ⟨h, rfl, A_ho⟩ [0, 1])
      ·rintro xs_50 ⟨h, hn_653, ho_652⟩
       replace h : slices_symMergeCmpFunc_Choice_at_impl_Arrange_1.k_51 self_ a1 m2 b3 g4c0 i_48 xs_50 = some r := h
       rw [slices_symMergeCmpFunc_Choice_at_impl_Arrange_1.k_51] at h
       refine jx_then (jc_seq (jc_meet (fun (j : (List GChoice)) => match j with | xs_52 => slices_symMergeCmpFunc_Choice_at_impl_Arrange_1.k_53 self_ a1 m2 b3 g4c0 i_48 xs_52 = some r ∧ (xs_52.length = data0.length) ∧ ((A_o = none → xs_52 = [] ∧ A_c = 0))) (fun (j : (List GChoice)) => match j with | xs_52 => [(0, [], (.slice (A_o.map fun b => ⟨b, 0, none⟩) data0.length A_c)), (3, [], (.int .i64 b3)), (4, [], (.func (.func 98) #[] #[(.pointer (some ⟨E_b, 0, none⟩))])), (18, [], (.int .i64 (w64 (bShr .u64 (u64 (w64 (a1 + b3))) 1)))), (24, [], (.int .i64 (w64 ((w64 ((w64 (bShr .u64 (u64 (w64 (a1 + b3))) 1)) + m2)) - i_48))))]) (fun (j : (List GChoice)) => match j with | xs_52 => [⟨A_o, 144, row encGChoice xs_52 A_sp⟩, ⟨some E_b, 74, [(.int .i16 g4c0.fAway), (.int .i16 g4c0.fOctave), (.int .i16 g4c0.fStep)]⟩]) ?_ ?_))
       ·refine jc_seq (jc_region (qf [(0, 0), (0, 0), (0, 0), (0, 0), (0, 1), (0, 1), (0, 1), (0, 0)] (qe (jx_then (qi h (fun h => ?_) (fun h => ?_))))))
        ·refine jc_region (qh [0,0,0,0,0] ?_)
         obtain ⟨t_55, ht_665, h⟩ := bd h
         refine tO (pc 0 (fun w hm => hself xs_50 a1 i_48 (w64 (bShr .u64 (u64 (w64 (a1 + b3))) 1)) g4c0 w _ A_o hn_653 A_hs ho_652 E_b (hm.pass (N := [⟨A_o, 144, row encGChoice xs_50 A_sp⟩, ⟨some E_b, 74, [(.int .i16 g4c0.fAway), (.int .i16 g4c0.fOctave), (.int .i16 g4c0.fStep)]⟩]) [0, 1] (by kernel_rfl) (by kernel_rfl)) ht_665) ?_)
         rintro w v w' hm ⟨hn_666, ho_667, rfl, hm'⟩
         refine ⟨_, hm.appW (ps := [(0, ⟨A_o, 144, row encGChoice t_55 A_sp⟩), (1, ⟨some E_b, 74, [(.int .i16 g4c0.fAway), (.int .i16 g4c0.fOctave), (.int .i16 g4c0.fStep)]⟩)]) (N := []) hm' (by kernel_rfl) (by kernel_rfl), jkO ?_⟩
         clear hm hm'
         exact qe (qm t_55 ⟨h, hn_666, ho_667⟩ [0, 1])
        ·exact jc_skip (qm xs_50 ⟨h, hn_653, ho_652⟩ [0, 1])
       ·rintro xs_52 ⟨h, hn_659, ho_658⟩
        replace h : slices_symMergeCmpFunc_Choice_at_impl_Arrange_1.k_53 self_ a1 m2 b3 g4c0 i_48 xs_52 = some r := h
        rw [slices_symMergeCmpFunc_Choice_at_impl_Arrange_1.k_53] at h
        refine jx_then (jc_seq (jc_region (qf [(0, 0), (0, 0), (0, 0), (0, 0), (0, 1), (0, 1), (0, 1), (0, 0)] (qe (jx_then (qi h (fun h => ?_) (fun h => ?_)))))))
        ·refine jc_region (qh [0,0,0,0,0] ?_)
         obtain ⟨t_54, ht_661, h⟩ := bd h
         refine tO (pc 0 (fun w hm => hself xs_52 (w64 (bShr .u64 (u64 (w64 (a1 + b3))) 1)) (w64 ((w64 ((w64 (bShr .u64 (u64 (w64 (a1 + b3))) 1)) + m2)) - i_48)) b3 g4c0 w _ A_o hn_659 A_hs ho_658 E_b (hm.pass (N := [⟨A_o, 144, row encGChoice xs_52 A_sp⟩, ⟨some E_b, 74, [(.int .i16 g4c0.fAway), (.int .i16 g4c0.fOctave), (.int .i16 g4c0.fStep)]⟩]) [0, 1] (by kernel_rfl) (by kernel_rfl)) ht_661) ?_)
         rintro w v w' hm ⟨hn_662, ho_663, rfl, hm'⟩
         refine ⟨_, hm.appW (ps := [(0, ⟨A_o, 144, row encGChoice t_54 A_sp⟩), (1, ⟨some E_b, 74, [(.int .i16 g4c0.fAway), (.int .i16 g4c0.fOctave), (.int .i16 g4c0.fStep)]⟩)]) (N := []) hm' (by kernel_rfl) (by kernel_rfl), jkO ?_⟩
         clear hm hm'
         refine qe (jx_fall ?_)
         obtain rfl := Option.some.inj h
         exact qr [] (fun w hm => ⟨hn_662, ho_663, rfl, hm.pk [0, 1]⟩)
        ·refine jc_skip (jx_fall ?_)
         obtain rfl := Option.some.inj h
         exact qr [] (fun w hm => ⟨hn_659, ho_658, rfl, hm.pk [0, 1]⟩)
theorem slices_symMergeCmpFunc_Choice_at_impl_Arrange_1.rec_calls (fu : Nat) : ∀ (data0 : List GChoice) (a1 : Int) (m2 : Int) (b3 : Int) (g4c0 : GCosts) (w : World) (r : (List GChoice)) (A_o : Option Nat) {A_on : Nat} {A_c : Nat} {A_sp : List Value} (A_hn : data0.length = A_on) (A_hs : A_o ≠ none → A_on ≤ A_c ∧ A_sp.length = (A_c - A_on) * 4) (A_ho : A_o = none → data0 = [] ∧ A_c = 0) (E_b : Nat) (hm0 : Mem w (bs [A_o, some E_b]) [⟨A_o, 144, row encGChoice data0 A_sp⟩, ⟨some E_b, 74, [(.int .i16 g4c0.fAway), (.int .i16 g4c0.fOctave), (.int .i16 g4c0.fStep)]⟩] w) (h : slices_symMergeCmpFunc_Choice_at_impl_Arrange_1.rec_ fu data0 a1 m2 b3 g4c0 = some r),
    Calls Try.prog 170 #[(.slice (A_o.map fun b => ⟨b, 0, none⟩) A_on A_c), (.int .i64 a1), (.int .i64 m2), (.int .i64 b3), (.func (.func 98) #[] #[(.pointer (some ⟨E_b, 0, none⟩))])] w fun e w' => ∃ v, e = .returned v ∧ (r.length = A_on ∧ (A_o = none → r = [] ∧ A_c = 0) ∧ v = .tuple #[] ∧ Mem w (bs [A_o, some E_b]) [⟨A_o, 144, row encGChoice r A_sp⟩, ⟨some E_b, 74, [(.int .i16 g4c0.fAway), (.int .i16 g4c0.fOctave), (.int .i16 g4c0.fStep)]⟩] w') := by
  induction fu with
  | zero => intros; rename_i h; cases h
  | succ fu ih => exact @slices_symMergeCmpFunc_Choice_at_impl_Arrange_1.step_calls _ (slices_symMergeCmpFunc_Choice_at_impl_Arrange_1.rec_ fu) @ih
theorem slices_symMergeCmpFunc_Choice_at_impl_Arrange_1.calls (data0 : List GChoice) (a1 : Int) (m2 : Int) (b3 : Int) (g4c0 : GCosts) (w : World) (r : (List GChoice)) (A_o : Option Nat) {A_on : Nat} {A_c : Nat} {A_sp : List Value} (A_hn : data0.length = A_on) (A_hs : A_o ≠ none → A_on ≤ A_c ∧ A_sp.length = (A_c - A_on) * 4) (A_ho : A_o = none → data0 = [] ∧ A_c = 0) (E_b : Nat) (hm0 : Mem w (bs [A_o, some E_b]) [⟨A_o, 144, row encGChoice data0 A_sp⟩, ⟨some E_b, 74, [(.int .i16 g4c0.fAway), (.int .i16 g4c0.fOctave), (.int .i16 g4c0.fStep)]⟩] w) (h : slices_symMergeCmpFunc_Choice_at_impl_Arrange_1 data0 a1 m2 b3 g4c0 = some r) :
    Calls Try.prog 170 #[(.slice (A_o.map fun b => ⟨b, 0, none⟩) A_on A_c), (.int .i64 a1), (.int .i64 m2), (.int .i64 b3), (.func (.func 98) #[] #[(.pointer (some ⟨E_b, 0, none⟩))])] w fun e w' => ∃ v, e = .returned v ∧ (r.length = A_on ∧ (A_o = none → r = [] ∧ A_c = 0) ∧ v = .tuple #[] ∧ Mem w (bs [A_o, some E_b]) [⟨A_o, 144, row encGChoice r A_sp⟩, ⟨some E_b, 74, [(.int .i16 g4c0.fAway), (.int .i16 g4c0.fOctave), (.int .i16 g4c0.fStep)]⟩] w') :=
  slices_symMergeCmpFunc_Choice_at_impl_Arrange_1.rec_calls 200 data0 a1 m2 b3 g4c0 w r A_o A_hn A_hs A_ho E_b hm0 h
/-! ### slices.stableCmpFunc[impl.Choice] -/
def slices_stableCmpFunc_Choice_at_impl_Arrange_1.k_7 (xs_6 : List GChoice) : Option ((List GChoice)) := some xs_6
def slices_stableCmpFunc_Choice_at_impl_Arrange_1.k_13 (i_9 : Int) (xs_12 : List GChoice) : Option (((List GChoice) × Int) ⊕ ((List GChoice))) := some (.inl (xs_12, (w64 (i_9 * 2))))
def slices_stableCmpFunc_Choice_at_impl_Arrange_1.k_16 (n1 : Int) (g2c0 : GCosts) (i_9 : Int) (xs_14 : List GChoice) (i_15 : Int) : Option (((List GChoice) × Int) ⊕ ((List GChoice))) := (if (decide ((w64 (i_15 + i_9)) < n1)) = true then (slices_symMergeCmpFunc_Choice_at_impl_Arrange_1 xs_14 i_15 (w64 (i_15 + i_9)) n1 g2c0).bind fun t_17 => slices_stableCmpFunc_Choice_at_impl_Arrange_1.k_13 i_9 t_17 else slices_stableCmpFunc_Choice_at_impl_Arrange_1.k_13 i_9 xs_14)
def slices_stableCmpFunc_Choice_at_impl_Arrange_1.l_21 (n1 : Int) (g2c0 : GCosts) (i_9 : Int) : ((List GChoice) × Int × Int) → Option (((List GChoice) × Int × Int) ⊕ (((List GChoice) × Int)))
  | (xs_18, i_19, i_20) => (if (decide (i_20 ≤ n1)) = true then (slices_symMergeCmpFunc_Choice_at_impl_Arrange_1 xs_18 i_19 (w64 (i_19 + i_9)) i_20 g2c0).bind fun t_23 => some (.inl (t_23, i_20, (w64 (i_20 + (w64 (2 * i_9)))))) else some (.inr (xs_18, i_19)))
def slices_stableCmpFunc_Choice_at_impl_Arrange_1.l_10 (n1 : Int) (g2c0 : GCosts) : ((List GChoice) × Int) → Option (((List GChoice) × Int) ⊕ ((List GChoice)))
  | (xs_8, i_9) => (if (decide (i_9 < n1)) = true then (loop (slices_stableCmpFunc_Choice_at_impl_Arrange_1.l_21 n1 g2c0 i_9) (xs_8, 0, (w64 (2 * i_9)))).bind fun t_22 => slices_stableCmpFunc_Choice_at_impl_Arrange_1.k_16 n1 g2c0 i_9 t_22.1 t_22.2 else some (.inr xs_8))
def slices_stableCmpFunc_Choice_at_impl_Arrange_1.k_4 (n1 : Int) (g2c0 : GCosts) (xs_1 : List GChoice) (i_2 : Int) (i_3 : Int) : Option ((List GChoice)) := (slices_insertionSortCmpFunc_Choice_at_impl_Arrange_1 xs_1 i_2 n1 g2c0).bind fun t_5 => (loop (slices_stableCmpFunc_Choice_at_impl_Arrange_1.l_10 n1 g2c0) (t_5, 20)).bind fun t_11 => slices_stableCmpFunc_Choice_at_impl_Arrange_1.k_7 t_11
def slices_stableCmpFunc_Choice_at_impl_Arrange_1.l_27 (n1 : Int) (g2c0 : GCosts) : ((List GChoice) × Int × Int) → Option (((List GChoice) × Int × Int) ⊕ (((List GChoice) × Int × Int)))
  | (xs_24, i_25, i_26) => (if (decide (i_26 ≤ n1)) = true then (slices_insertionSortCmpFunc_Choice_at_impl_Arrange_1 xs_24 i_25 i_26 g2c0).bind fun t_29 => some (.inl (t_29, i_26, (w64 (i_26 + 20)))) else some (.inr (xs_24, i_25, i_26)))
def slices_stableCmpFunc_Choice_at_impl_Arrange_1 (data0 : List GChoice) (n1 : Int) (g2c0 : GCosts) : Option ((List GChoice)) := (loop (slices_stableCmpFunc_Choice_at_impl_Arrange_1.l_27 n1 g2c0) (data0, 0, 20)).bind fun t_28 => slices_stableCmpFunc_Choice_at_impl_Arrange_1.k_4 n1 g2c0 t_28.1 t_28.2.1 t_28.2.2
theorem slices_stableCmpFunc_Choice_at_impl_Arrange_1.calls (data0 : List GChoice) (n1 : Int) (g2c0 : GCosts) (w : World) (r : (List GChoice)) (A_o : Option Nat) {A_on : Nat} {A_c : Nat} {A_sp : List Value} (A_hn : data0.length = A_on) (A_hs : A_o ≠ none → A_on ≤ A_c ∧ A_sp.length = (A_c - A_on) * 4) (A_ho : A_o = none → data0 = [] ∧ A_c = 0) (C_b : Nat) (hm0 : Mem w (bs [A_o, some C_b]) [⟨A_o, 144, row encGChoice data0 A_sp⟩, ⟨some C_b, 74, [(.int .i16 g2c0.fAway), (.int .i16 g2c0.fOctave), (.int .i16 g2c0.fStep)]⟩] w) (h : slices_stableCmpFunc_Choice_at_impl_Arrange_1 data0 n1 g2c0 = some r) :
    Calls Try.prog 136 #[(.slice (A_o.map fun b => ⟨b, 0, none⟩) A_on A_c), (.int .i64 n1), (.func (.func 98) #[] #[(.pointer (some ⟨C_b, 0, none⟩))])] w fun e w' => ∃ v, e = .returned v ∧ (r.length = A_on ∧ (A_o = none → r = [] ∧ A_c = 0) ∧ v = .tuple #[] ∧ Mem w (bs [A_o, some C_b]) [⟨A_o, 144, row encGChoice r A_sp⟩, ⟨some C_b, 74, [(.int .i16 g2c0.fAway), (.int .i16 g2c0.fOctave), (.int .i16 g2c0.fStep)]⟩] w') := by
  subst A_hn
  rw [slices_stableCmpFunc_Choice_at_impl_Arrange_1] at h
  refine enter (args := [(.slice (A_o.map fun b => ⟨b, 0, none⟩) data0.length A_c), (.int .i64 n1), (.func (.func 98) #[] #[(.pointer (some ⟨C_b, 0, none⟩))])]) Try.func136 rfl Try.ntmps136 (by kernel_rfl) (L := [⟨A_o, 144, row encGChoice data0 A_sp⟩, ⟨some C_b, 74, [(.int .i16 g2c0.fAway), (.int .i16 g2c0.fOctave), (.int .i16 g2c0.fStep)]⟩]) (W := bs [A_o, some C_b]) hm0 ?_
  refine jc_seq (jc_region (qh [0] (qe (jx_then (jc_seq (jc_region (qh [0,0,0] (qe (jx_then (jc_seq (jc_meet (fun (j : (List GChoice) × Int × Int) => match j with | ⟨xs_1, i_2, i_3⟩ => slices_stableCmpFunc_Choice_at_impl_Arrange_1.k_4 n1 g2c0 xs_1 i_2 i_3 = some r ∧ (xs_1.length = data0.length) ∧ ((A_o = none → xs_1 = [] ∧ A_c = 0))) (fun (j : (List GChoice) × Int × Int) => match j with | ⟨xs_1, i_2, i_3⟩ => [(0, [], (.slice (A_o.map fun b => ⟨b, 0, none⟩) data0.length A_c)), (1, [], (.int .i64 n1)), (2, [], (.func (.func 98) #[] #[(.pointer (some ⟨C_b, 0, none⟩))])), (6, [], (.int .i64 20)), (7, [], (.int .i64 i_2)), (8, [], (.int .i64 i_3))]) (fun (j : (List GChoice) × Int × Int) => match j with | ⟨xs_1, i_2, i_3⟩ => [⟨A_o, 144, row encGChoice xs_1 A_sp⟩, ⟨some C_b, 74, [(.int .i16 g2c0.fAway), (.int .i16 g2c0.fOctave), (.int .i16 g2c0.fStep)]⟩]) ?_ ?_)))))))))))
  ·refine jc_block ?_
   obtain ⟨t_28, ht_717, hr_709⟩ := bd h
   refine jc_loop (fun (s : (List GChoice) × Int × Int) (x : Unit) => match s, x with | ⟨xs_24, i_25, i_26⟩, _ => (xs_24.length = data0.length) ∧ ((A_o = none → xs_24 = [] ∧ A_c = 0))) (fun (s : (List GChoice) × Int × Int) (x : Unit) => match s, x with | ⟨xs_24, i_25, i_26⟩, _ => [(0, [], (.slice (A_o.map fun b => ⟨b, 0, none⟩) data0.length A_c)), (1, [], (.int .i64 n1)), (2, [], (.func (.func 98) #[] #[(.pointer (some ⟨C_b, 0, none⟩))])), (6, [], (.int .i64 20)), (7, [], (.int .i64 i_25)), (8, [], (.int .i64 i_26))]) (fun (s : (List GChoice) × Int × Int) (x : Unit) => match s, x with | ⟨xs_24, i_25, i_26⟩, _ => [⟨A_o, 144, row encGChoice xs_24 A_sp⟩, ⟨some C_b, 74, [(.int .i16 g2c0.fAway), (.int .i16 g2c0.fOctave), (.int .i16 g2c0.fStep)]⟩]) ht_717 () ⟨rfl, A_ho⟩ (by kernel_rfl) [0, 1] (by kernel_rfl) (by kernel_rfl) ?_
   rintro ⟨xs_24, i_25, i_26⟩ _ y_710 ⟨hn_708, ho_707⟩ h
   rw [slices_stableCmpFunc_Choice_at_impl_Arrange_1.l_27] at h
   refine jc_seq (jc_seq (jc_region (qh [0,0,0] (qe (jx_then (qi h (fun h => ?_) (fun h => ?_)))))))
   ·refine jc_skip (jx_then (jc_block (jc_seq (jc_region (qh [0,0,0,0] ?_)))))
    obtain ⟨t_29, ht_713, h⟩ := bd h
    refine tO (pc 0 (fun w hm => slices_insertionSortCmpFunc_Choice_at_impl_Arrange_1.calls xs_24 i_25 i_26 g2c0 w _ A_o hn_708 A_hs ho_707 C_b (hm.pass (N := [⟨A_o, 144, row encGChoice xs_24 A_sp⟩, ⟨some C_b, 74, [(.int .i16 g2c0.fAway), (.int .i16 g2c0.fOctave), (.int .i16 g2c0.fStep)]⟩]) [0, 1] (by kernel_rfl) (by kernel_rfl)) ht_713) ?_)
    rintro w v w' hm ⟨hn_714, ho_715, rfl, hm'⟩
    refine ⟨_, hm.appW (ps := [(0, ⟨A_o, 144, row encGChoice t_29 A_sp⟩), (1, ⟨some C_b, 74, [(.int .i16 g2c0.fAway), (.int .i16 g2c0.fOctave), (.int .i16 g2c0.fStep)]⟩)]) (N := []) hm' (by kernel_rfl) (by kernel_rfl), jkO ?_⟩
    clear hm hm'
    exact qe (jx_then (jc_seq (jc_region (qh [0,0] (qe (jx_then (jc_region (qh [0,0,0,0] (qe (jx_inn (qb (t_29, i_26, (w64 (i_26 + 20))) () h ⟨hn_714, ho_715⟩ [0, 1])))))))))))
   ·refine jc_exit (jx_thenx (jx_leave (xs_24, i_25, i_26) (Option.some.inj h).symm (fun e_716 => ?_)))
    subst e_716
    exact jx_ine (qm ⟨xs_24, i_25, i_26⟩ ⟨hr_709, hn_708, ho_707⟩ [0, 1])
  ·rintro ⟨xs_1, i_2, i_3⟩ ⟨h, hn_25, ho_24⟩
   replace h : slices_stableCmpFunc_Choice_at_impl_Arrange_1.k_4 n1 g2c0 xs_1 i_2 i_3 = some r := h
   rw [slices_stableCmpFunc_Choice_at_impl_Arrange_1.k_4] at h
   refine jx_then (jc_seq (jc_region (qh [0,0,0,0] ?_)))
   obtain ⟨t_5, ht_26, h⟩ := bd h
   refine tO (pc 0 (fun w hm => slices_insertionSortCmpFunc_Choice_at_impl_Arrange_1.calls xs_1 i_2 n1 g2c0 w _ A_o hn_25 A_hs ho_24 C_b (hm.pass (N := [⟨A_o, 144, row encGChoice xs_1 A_sp⟩, ⟨some C_b, 74, [(.int .i16 g2c0.fAway), (.int .i16 g2c0.fOctave), (.int .i16 g2c0.fStep)]⟩]) [0, 1] (by kernel_rfl) (by kernel_rfl)) ht_26) ?_)
   rintro w v w' hm ⟨hn_27, ho_28, rfl, hm'⟩
   refine ⟨_, hm.appW (ps := [(0, ⟨A_o, 144, row encGChoice t_5 A_sp⟩), (1, ⟨some C_b, 74, [(.int .i16 g2c0.fAway), (.int .i16 g2c0.fOctave), (.int .i16 g2c0.fStep)]⟩)]) (N := []) hm' (by kernel_rfl) (by kernel_rfl), jkO ?_⟩
   clear hm hm'
   refine qe (jx_then (jc_meet (fun (j : (List GChoice)) => match j with | xs_6 => slices_stableCmpFunc_Choice_at_impl_Arrange_1.k_7 xs_6 = some r ∧ (xs_6.length = data0.length) ∧ ((A_o = none → xs_6 = [] ∧ A_c = 0))) (fun (j : (List GChoice)) => match j with | xs_6 => []) (fun (j : (List GChoice)) => match j with | xs_6 => [⟨A_o, 144, row encGChoice xs_6 A_sp⟩, ⟨some C_b, 74, [(.int .i16 g2c0.fAway), (.int .i16 g2c0.fOctave), (.int .i16 g2c0.fStep)]⟩]) ?_ ?_))
   ·refine jc_block ?_
    obtain ⟨t_11, ht_694, hr_583⟩ := bd h
    refine jc_loop (fun (s : (List GChoice) × Int) (x : Unit) => match s, x with | ⟨xs_8, i_9⟩, _ => (xs_8.length = data0.length) ∧ ((A_o = none → xs_8 = [] ∧ A_c = 0))) (fun (s : (List GChoice) × Int) (x : Unit) => match s, x with | ⟨xs_8, i_9⟩, _ => [(0, [], (.slice (A_o.map fun b => ⟨b, 0, none⟩) data0.length A_c)), (1, [], (.int .i64 n1)), (2, [], (.func (.func 98) #[] #[(.pointer (some ⟨C_b, 0, none⟩))])), (6, [], (.int .i64 i_9))]) (fun (s : (List GChoice) × Int) (x : Unit) => match s, x with | ⟨xs_8, i_9⟩, _ => [⟨A_o, 144, row encGChoice xs_8 A_sp⟩, ⟨some C_b, 74, [(.int .i16 g2c0.fAway), (.int .i16 g2c0.fOctave), (.int .i16 g2c0.fStep)]⟩]) ht_694 () ⟨hn_27, ho_28⟩ (by kernel_rfl) [0, 1] (by kernel_rfl) (by kernel_rfl) ?_
    rintro ⟨xs_8, i_9⟩ _ y_584 ⟨hn_582, ho_581⟩ h
    rw [slices_stableCmpFunc_Choice_at_impl_Arrange_1.l_10] at h
    refine jc_seq (jc_seq (jc_region (qh [0,0,0] (qe (jx_then (qi h (fun h => ?_) (fun h => ?_)))))))
    ·refine jc_skip (jx_then (jc_meet (fun (j : (List GChoice)) => match j with | xs_12 => slices_stableCmpFunc_Choice_at_impl_Arrange_1.k_13 i_9 xs_12 = some y_584 ∧ (xs_12.length = data0.length) ∧ ((A_o = none → xs_12 = [] ∧ A_c = 0))) (fun (j : (List GChoice)) => match j with | xs_12 => [(0, [], (.slice (A_o.map fun b => ⟨b, 0, none⟩) data0.length A_c)), (1, [], (.int .i64 n1)), (2, [], (.func (.func 98) #[] #[(.pointer (some ⟨C_b, 0, none⟩))])), (6, [], (.int .i64 (w64 (i_9 * 2))))]) (fun (j : (List GChoice)) => match j with | xs_12 => [⟨A_o, 144, row encGChoice xs_12 A_sp⟩, ⟨some C_b, 74, [(.int .i16 g2c0.fAway), (.int .i16 g2c0.fOctave), (.int .i16 g2c0.fStep)]⟩]) ?_ ?_))
     ·refine jc_block (jc_seq (jc_region (qh [0,0,0,0] (qe (jx_then (jc_seq (jc_meet (fun (j : (List GChoice) × Int) => match j with | ⟨xs_14, i_15⟩ => slices_stableCmpFunc_Choice_at_impl_Arrange_1.k_16 n1 g2c0 i_9 xs_14 i_15 = some y_584 ∧ (xs_14.length = data0.length) ∧ ((A_o = none → xs_14 = [] ∧ A_c = 0))) (fun (j : (List GChoice) × Int) => match j with | ⟨xs_14, i_15⟩ => [(0, [], (.slice (A_o.map fun b => ⟨b, 0, none⟩) data0.length A_c)), (1, [], (.int .i64 n1)), (2, [], (.func (.func 98) #[] #[(.pointer (some ⟨C_b, 0, none⟩))])), (6, [], (.int .i64 i_9)), (7, [], (.int .i64 i_15))]) (fun (j : (List GChoice) × Int) => match j with | ⟨xs_14, i_15⟩ => [⟨A_o, 144, row encGChoice xs_14 A_sp⟩, ⟨some C_b, 74, [(.int .i16 g2c0.fAway), (.int .i16 g2c0.fOctave), (.int .i16 g2c0.fStep)]⟩]) ?_ ?_)))))))
      ·refine jc_block ?_
       obtain ⟨t_22, ht_692, hr_684⟩ := bd h
       refine jc_loop (fun (s : (List GChoice) × Int × Int) (x : Unit) => match s, x with | ⟨xs_18, i_19, i_20⟩, _ => (xs_18.length = data0.length) ∧ ((A_o = none → xs_18 = [] ∧ A_c = 0))) (fun (s : (List GChoice) × Int × Int) (x : Unit) => match s, x with | ⟨xs_18, i_19, i_20⟩, _ => [(0, [], (.slice (A_o.map fun b => ⟨b, 0, none⟩) data0.length A_c)), (1, [], (.int .i64 n1)), (2, [], (.func (.func 98) #[] #[(.pointer (some ⟨C_b, 0, none⟩))])), (6, [], (.int .i64 i_9)), (7, [], (.int .i64 i_19)), (8, [], (.int .i64 i_20))]) (fun (s : (List GChoice) × Int × Int) (x : Unit) => match s, x with | ⟨xs_18, i_19, i_20⟩, _ => [⟨A_o, 144, row encGChoice xs_18 A_sp⟩, ⟨some C_b, 74, [(.int .i16 g2c0.fAway), (.int .i16 g2c0.fOctave), (.int .i16 g2c0.fStep)]⟩]) ht_692 () ⟨hn_582, ho_581⟩ (by kernel_rfl) [0, 1] (by kernel_rfl) (by kernel_rfl) ?_
       rintro ⟨xs_18, i_19, i_20⟩ _ y_685 ⟨hn_683, ho_682⟩ h
       rw [slices_stableCmpFunc_Choice_at_impl_Arrange_1.l_21] at h
       refine jc_seq (jc_seq (jc_region (qh [0,0,0] (qe (jx_then (qi h (fun h => ?_) (fun h => ?_)))))))
       ·refine jc_skip (jx_then (jc_block (jc_seq (jc_region (qh [0,0,0,0,0,0,0] ?_)))))
        obtain ⟨t_23, ht_688, h⟩ := bd h
        refine tO (pc 0 (fun w hm => slices_symMergeCmpFunc_Choice_at_impl_Arrange_1.calls xs_18 i_19 (w64 (i_19 + i_9)) i_20 g2c0 w _ A_o hn_683 A_hs ho_682 C_b (hm.pass (N := [⟨A_o, 144, row encGChoice xs_18 A_sp⟩, ⟨some C_b, 74, [(.int .i16 g2c0.fAway), (.int .i16 g2c0.fOctave), (.int .i16 g2c0.fStep)]⟩]) [0, 1] (by kernel_rfl) (by kernel_rfl)) ht_688) ?_)
        rintro w v w' hm ⟨hn_689, ho_690, rfl, hm'⟩
        refine ⟨_, hm.appW (ps := [(0, ⟨A_o, 144, row encGChoice t_23 A_sp⟩), (1, ⟨some C_b, 74, [(.int .i16 g2c0.fAway), (.int .i16 g2c0.fOctave), (.int .i16 g2c0.fStep)]⟩)]) (N := []) hm' (by kernel_rfl) (by kernel_rfl), jkO ?_⟩
        clear hm hm'
        exact qe (jx_then (jc_seq (jc_region (qh [0,0] (qe (jx_then (jc_region (qh [0,0,0,0,0] (qe (jx_inn (qb (t_23, i_20, (w64 (i_20 + (w64 (2 * i_9))))) () h ⟨hn_689, ho_690⟩ [0, 1])))))))))))
       ·refine jc_exit (jx_thenx (jx_leave (xs_18, i_19) (Option.some.inj h).symm (fun e_691 => ?_)))
        subst e_691
        exact jx_ine (qm ⟨xs_18, i_19⟩ ⟨hr_684, hn_683, ho_682⟩ [0, 1])
      ·rintro ⟨xs_14, i_15⟩ ⟨h, hn_665, ho_664⟩
       replace h : slices_stableCmpFunc_Choice_at_impl_Arrange_1.k_16 n1 g2c0 i_9 xs_14 i_15 = some y_584 := h
       rw [slices_stableCmpFunc_Choice_at_impl_Arrange_1.k_16] at h
       refine jx_then (jc_seq (jc_seq (jc_region (qh [0,0,0,0] (qe (jx_then (jc_seq (jc_region (qh [0,0,0] (qe (jx_then (qi h (fun h => ?_) (fun h => ?_)))))))))))))
       ·refine jc_region (qh [0,0,0,0,0] ?_)
        obtain ⟨t_17, ht_667, h⟩ := bd h
        refine tO (pc 0 (fun w hm => slices_symMergeCmpFunc_Choice_at_impl_Arrange_1.calls xs_14 i_15 (w64 (i_15 + i_9)) n1 g2c0 w _ A_o hn_665 A_hs ho_664 C_b (hm.pass (N := [⟨A_o, 144, row encGChoice xs_14 A_sp⟩, ⟨some C_b, 74, [(.int .i16 g2c0.fAway), (.int .i16 g2c0.fOctave), (.int .i16 g2c0.fStep)]⟩]) [0, 1] (by kernel_rfl) (by kernel_rfl)) ht_667) ?_)
        rintro w v w' hm ⟨hn_668, ho_669, rfl, hm'⟩
        refine ⟨_, hm.appW (ps := [(0, ⟨A_o, 144, row encGChoice t_17 A_sp⟩), (1, ⟨some C_b, 74, [(.int .i16 g2c0.fAway), (.int .i16 g2c0.fOctave), (.int .i16 g2c0.fStep)]⟩)]) (N := []) hm' (by kernel_rfl) (by kernel_rfl), jkO ?_⟩
        clear hm hm'
        exact qe (jx_then (jc_region (qh [0,0,0] (qe (jx_inn (qm t_17 ⟨h, hn_668, ho_669⟩ [0, 1]))))))
       ·exact jc_skip (jx_then (jc_region (qh [0,0,0] (qe (jx_inn (qm xs_14 ⟨h, hn_665, ho_664⟩ [0, 1]))))))
     ·rintro xs_12 ⟨h, hn_640, ho_639⟩
      replace h : slices_stableCmpFunc_Choice_at_impl_Arrange_1.k_13 i_9 xs_12 = some y_584 := h
      rw [slices_stableCmpFunc_Choice_at_impl_Arrange_1.k_13] at h
      exact qb (xs_12, (w64 (i_9 * 2))) () h ⟨hn_640, ho_639⟩ [0, 1]
    ·refine jc_exit (jx_thenx (jx_leave xs_8 (Option.some.inj h).symm (fun e_693 => ?_)))
     subst e_693
     exact jx_ine (qm xs_8 ⟨hr_583, hn_582, ho_581⟩ [0, 1])
   ·rintro xs_6 ⟨h, hn_362, ho_361⟩
    replace h : slices_stableCmpFunc_Choice_at_impl_Arrange_1.k_7 xs_6 = some r := h
    rw [slices_stableCmpFunc_Choice_at_impl_Arrange_1.k_7] at h
    refine jx_fall ?_
    obtain rfl := Option.some.inj h
    exact qr [] (fun w hm => ⟨hn_362, ho_361, rfl, hm.pk [0, 1]⟩)
/-! ### slices.SortStableFunc[[]impl.Choice,impl.Choice] -/
def slices_SortStableFunc_Choice_at_impl_Arrange_1 (x0 : List GChoice) (g1c0 : GCosts) : Option ((List GChoice)) := (slices_stableCmpFunc_Choice_at_impl_Arrange_1 x0 (x0.length : Int) g1c0).bind fun t_1 => some t_1
theorem slices_SortStableFunc_Choice_at_impl_Arrange_1.calls (x0 : List GChoice) (g1c0 : GCosts) (w : World) (r : (List GChoice)) (A_o : Option Nat) {A_on : Nat} {A_c : Nat} {A_sp : List Value} (A_hn : x0.length = A_on) (A_hs : A_o ≠ none → A_on ≤ A_c ∧ A_sp.length = (A_c - A_on) * 4) (A_ho : A_o = none → x0 = [] ∧ A_c = 0) (B_b : Nat) (hm0 : Mem w (bs [A_o, some B_b]) [⟨A_o, 144, row encGChoice x0 A_sp⟩, ⟨some B_b, 74, [(.int .i16 g1c0.fAway), (.int .i16 g1c0.fOctave), (.int .i16 g1c0.fStep)]⟩] w) (h : slices_SortStableFunc_Choice_at_impl_Arrange_1 x0 g1c0 = some r) :
    Calls Try.prog 97 #[(.slice (A_o.map fun b => ⟨b, 0, none⟩) A_on A_c), (.func (.func 98) #[] #[(.pointer (some ⟨B_b, 0, none⟩))])] w fun e w' => ∃ v, e = .returned v ∧ (r.length = A_on ∧ (A_o = none → r = [] ∧ A_c = 0) ∧ v = .tuple #[] ∧ Mem w (bs [A_o, some B_b]) [⟨A_o, 144, row encGChoice r A_sp⟩, ⟨some B_b, 74, [(.int .i16 g1c0.fAway), (.int .i16 g1c0.fOctave), (.int .i16 g1c0.fStep)]⟩] w') := by
  subst A_hn
  rw [slices_SortStableFunc_Choice_at_impl_Arrange_1] at h
  refine enter (args := [(.slice (A_o.map fun b => ⟨b, 0, none⟩) x0.length A_c), (.func (.func 98) #[] #[(.pointer (some ⟨B_b, 0, none⟩))])]) Try.func97 rfl Try.ntmps97 (by kernel_rfl) (L := [⟨A_o, 144, row encGChoice x0 A_sp⟩, ⟨some B_b, 74, [(.int .i16 g1c0.fAway), (.int .i16 g1c0.fOctave), (.int .i16 g1c0.fStep)]⟩]) (W := bs [A_o, some B_b]) hm0 ?_
  refine jc_region (qh [0,0,0,0] ?_)
  obtain ⟨t_1, ht_1, h⟩ := bd h
  refine tO (pc 0 (fun w hm => slices_stableCmpFunc_Choice_at_impl_Arrange_1.calls x0 (x0.length : Int) g1c0 w _ A_o rfl A_hs A_ho B_b (hm.pass (N := [⟨A_o, 144, row encGChoice x0 A_sp⟩, ⟨some B_b, 74, [(.int .i16 g1c0.fAway), (.int .i16 g1c0.fOctave), (.int .i16 g1c0.fStep)]⟩]) [0, 1] (by kernel_rfl) (by kernel_rfl)) ht_1) ?_)
  rintro w v w' hm ⟨hn_2, ho_3, rfl, hm'⟩
  refine ⟨_, hm.appW (ps := [(0, ⟨A_o, 144, row encGChoice t_1 A_sp⟩), (1, ⟨some B_b, 74, [(.int .i16 g1c0.fAway), (.int .i16 g1c0.fOctave), (.int .i16 g1c0.fStep)]⟩)]) (N := []) hm' (by kernel_rfl) (by kernel_rfl), jkO ?_⟩
  clear hm hm'
  refine qe (jx_fall ?_)
  obtain rfl := Option.some.inj h
  exact qr [] (fun w hm => ⟨hn_2, ho_3, rfl, hm.pk [0, 1]⟩)
/-! ### (*impl.Drum).has -/
def impl_Drum_has (d0 : Arr 96 Int) (step1 : Int) (track2 : Int) : Option (Bool) := (ix d0.1 step1).bind fun x_1 => (if 0 ≤ track2 then some ((bAnd .u32 (bShr .u32 x_1 track2) 1) == 1) else none)
theorem impl_Drum_has.calls (d0 : Arr 96 Int) (step1 : Int) (track2 : Int) (w : World) (r : Bool) {A_b A_q : Nat} (A_h : Rw w (some ⟨A_b, A_q, none⟩) 1 encU32 d0.1) (h : impl_Drum_has d0 step1 track2 = some r) :
    Calls Try.prog 159 #[(.pointer (some ⟨A_b, A_q, none⟩)), (.int .i64 step1), (.int .i64 track2)] w fun e w' => ∃ v, e = .returned v ∧ (v = (.bool r) ∧ Mem w [] [] w') := by
  rw [impl_Drum_has] at h
  refine enter (args := [(.pointer (some ⟨A_b, A_q, none⟩)), (.int .i64 step1), (.int .i64 track2)]) Try.func159 rfl Try.ntmps159 (by kernel_rfl) (L := []) (W := []) (Mem.start w) ?_
  refine jc_seq (jc_region (qh [0] (qe (jx_then (jc_seq (jc_region (qh [0,0,0] ?_)))))))
  obtain ⟨x_1, hx_1, h⟩ := bd h
  refine tO (qx 0 (some ⟨A_b, A_q, none⟩) 1 hx_1 d0.2 (A_h.sp hx_1) (jkO (tO (ql 0 false (fun w hm => ((hm.xr A_h).at hx_1)) (jkO (qh [0] ?_))))))
  obtain ⟨hg_2, h⟩ := gd h
  refine tO (p_shr 0 .u32 x_1 .i64 track2 (by kernel_rfl) (by kernel_rfl) hg_2 (jkO (qh [0,0,0] (qe (jx_then (jc_ret ?_))))))
  obtain rfl := Option.some.inj h
  exact qr [] (fun w hm => ⟨rfl, hm.pk []⟩)
/-! ### (impl.Frame).behind -/
def impl_Frame_behind.k_1 (f0 : GFrame) : Option (Int) := some (w64 f0.fSteps)
def impl_Frame_behind.l_3 (f0 : GFrame) (d1 : Arr 96 Int) (step2 : Int) (track3 : Int) (way4 : Int) : Int → Option ((Int) ⊕ (Int ⊕ Unit))
  | i_2 => (if (decide (i_2 < (w64 f0.fSteps))) = true then (if (w64 f0.fSteps) ≠ 0 then (impl_Drum_has d1 (Int.tmod (w64 ((w64 (step2 + (w64 (way4 * i_2)))) + (w64 f0.fSteps))) (w64 f0.fSteps)) track3).bind fun t_5 => (if t_5 = true then some (.inr (.inl i_2)) else some (.inl (w64 (i_2 + 1)))) else none) else some (.inr (.inr ())))
def impl_Frame_behind (f0 : GFrame) (d1 : Arr 96 Int) (step2 : Int) (track3 : Int) (way4 : Int) : Option (Int) := (loop (impl_Frame_behind.l_3 f0 d1 step2 track3 way4) 1).bind fun t_4 => match t_4 with | .inl p => some p | .inr p => impl_Frame_behind.k_1 f0
theorem impl_Frame_behind.calls (f0 : GFrame) (d1 : Arr 96 Int) (step2 : Int) (track3 : Int) (way4 : Int) (w : World) (r : Int) {C_a : Option Addr} {C_an : Nat} (C_c : Nat) (C_h : Rw w C_a 2 encGHammer f0.fHammers) (C_hn : f0.fHammers.length = C_an) {D_b D_q : Nat} (D_h : Rw w (some ⟨D_b, D_q, none⟩) 1 encU32 d1.1) (h : impl_Frame_behind f0 d1 step2 track3 way4 = some r) :
    Calls Try.prog 190 #[(.agg #[(.int .i16 f0.fSteps), (.slice C_a C_an C_c)]), (.pointer (some ⟨D_b, D_q, none⟩)), (.int .i64 step2), (.int .i64 track3), (.int .i64 way4)] w fun e w' => ∃ v, e = .returned v ∧ (v = (.int .i64 r) ∧ Mem w [] [] w') := by
  subst C_hn
  rw [impl_Frame_behind] at h
  refine enter (args := [(.agg #[(.int .i16 f0.fSteps), (.slice C_a f0.fHammers.length C_c)]), (.pointer (some ⟨D_b, D_q, none⟩)), (.int .i64 step2), (.int .i64 track3), (.int .i64 way4)]) Try.func190 rfl Try.ntmps190 (by kernel_rfl) (L := []) (W := []) (Mem.start w) ?_
  refine jc_seq (jc_region (tO (qa 0 (fun b_1 => jkO (qh [0] (qe (jx_then (jc_seq (jc_region (qh [0,0,0,0] (qe (jx_then (jc_seq (jc_seq (jc_region (qh [0] (qe (jx_then (jc_meet (fun (_ : Unit) => impl_Frame_behind.k_1 f0 = some r) (fun (_ : Unit) => [(10, [], (.int .i64 0)), (11, [], (.int .i64 (w64 f0.fSteps)))]) (fun (_ : Unit) => [⟨some b_1, 34, [(.int .i16 f0.fSteps), (.slice C_a f0.fHammers.length C_c)]⟩]) ?_ ?_)))))))))))))))))))
  ·refine jc_block ?_
   obtain ⟨t_4, ht_81, hr_72⟩ := bd h
   refine jc_loop (fun (s : Int) (x : Unit) => match s, x with | i_2, _ => True) (fun (s : Int) (x : Unit) => match s, x with | i_2, _ => [(1, [], (.pointer (some ⟨D_b, D_q, none⟩))), (2, [], (.int .i64 step2)), (3, [], (.int .i64 track3)), (4, [], (.int .i64 way4)), (10, [], (.int .i64 0)), (11, [], (.int .i64 (w64 f0.fSteps))), (12, [], (.int .i64 i_2))]) (fun (s : Int) (x : Unit) => match s, x with | i_2, _ => [⟨some b_1, 34, [(.int .i16 f0.fSteps), (.slice C_a f0.fHammers.length C_c)]⟩]) ht_81 () trivial (by kernel_rfl) [0] (by kernel_rfl) (by kernel_rfl) ?_
   rintro i_2 _ y_73 _ h
   rw [impl_Frame_behind.l_3] at h
   refine jc_seq (jc_seq (jc_region (qh [0,0,0] (qe (jx_then (qi h (fun h => ?_) (fun h => ?_)))))))
   ·refine jc_skip (jx_then (jc_seq (jc_block (jc_seq (jc_region (qh [0,0,0,0,0,0,0,0,0] ?_))))))
    obtain ⟨hg_76, h⟩ := gd h
    refine tO (p_rem 0 .i64 (w64 ((w64 (step2 + (w64 (way4 * i_2)))) + (w64 f0.fSteps))) (w64 f0.fSteps) (by kernel_rfl) (by kernel_rfl) hg_76 (jkO (qh [0] ?_)))
    obtain ⟨t_5, ht_77, h⟩ := bd h
    refine tO (pc 0 (fun w hm => impl_Drum_has.calls d1 (Int.tmod (w64 ((w64 (step2 + (w64 (way4 * i_2)))) + (w64 f0.fSteps))) (w64 f0.fSteps)) track3 w _ (hm.xr D_h) ht_77) ?_)
    rintro w v w' hm ⟨rfl, hm'⟩
    refine ⟨_, hm.app hm', jkO ?_⟩
    clear hm hm'
    refine qe (jx_then (qi h (fun h => ?_) (fun h => ?_)))
    ·refine jc_seq (jc_region (qh [0,0] (qe (jx_then (jc_ret (jx_inr (jx_thenr (jx_leaver (.inl i_2) (Option.some.inj h).symm (fun e_79 => ?_)))))))))
     subst e_79
     refine jx_inr (jx_thenr (jx_thenr ?_))
     obtain rfl := Option.some.inj hr_72
     exact qr [] (fun w hm => ⟨rfl, hm.pk []⟩)
    ·exact jc_skip (jx_inn (jx_then (jc_region (qh [0,0,0] (qe (qb (w64 (i_2 + 1)) () h trivial [0]))))))
   ·refine jc_exit (jx_thenx (jx_leave (.inr ()) (Option.some.inj h).symm (fun e_80 => ?_)))
    subst e_80
    exact jx_ine (qm () hr_72 [0])
  ·rintro _ h
   replace h : impl_Frame_behind.k_1 f0 = some r := h
   rw [impl_Frame_behind.k_1] at h
   refine jx_then (jc_seq (jc_region (qh [0,0] (qe (jx_then (jc_ret ?_))))))
   obtain rfl := Option.some.inj h
   exact qr [] (fun w hm => ⟨rfl, hm.pk []⟩)
/-! ### (impl.Frame).isFree -/
def impl_Frame_isFree (f0 : GFrame) (d1 : Arr 96 Int) (step2 : Int) (track3 : Int) : Option (Bool) := (ix f0.fHammers track3).bind fun x_1 => (impl_Drum_has d1 step2 track3).bind fun t_2 => (if (!t_2) = true then (impl_Frame_behind f0 d1 step2 track3 1).bind fun t_3 => (if (decide (t_3 ≥ (w64 x_1.fReady))) = true then (impl_Frame_behind f0 d1 step2 track3 (-1)).bind fun t_4 => some (decide (t_4 ≥ (w64 x_1.fReady))) else some false) else some false)
theorem impl_Frame_isFree.calls (f0 : GFrame) (d1 : Arr 96 Int) (step2 : Int) (track3 : Int) (w : World) (r : Bool) {C_a : Option Addr} {C_an : Nat} (C_c : Nat) (C_h : Rw w C_a 2 encGHammer f0.fHammers) (C_hn : f0.fHammers.length = C_an) {D_b D_q : Nat} (D_h : Rw w (some ⟨D_b, D_q, none⟩) 1 encU32 d1.1) (h : impl_Frame_isFree f0 d1 step2 track3 = some r) :
    Calls Try.prog 171 #[(.agg #[(.int .i16 f0.fSteps), (.slice C_a C_an C_c)]), (.pointer (some ⟨D_b, D_q, none⟩)), (.int .i64 step2), (.int .i64 track3)] w fun e w' => ∃ v, e = .returned v ∧ (v = (.bool r) ∧ Mem w [] [] w') := by
  subst C_hn
  rw [impl_Frame_isFree] at h
  refine enter (args := [(.agg #[(.int .i16 f0.fSteps), (.slice C_a f0.fHammers.length C_c)]), (.pointer (some ⟨D_b, D_q, none⟩)), (.int .i64 step2), (.int .i64 track3)]) Try.func171 rfl Try.ntmps171 (by kernel_rfl) (L := []) (W := []) (Mem.start w) ?_
  refine jc_seq (jc_region (tO (qa 0 (fun b_1 => jkO (qh [0] (qe (jx_then (jc_seq (jc_region (qh [0,0,0] ?_))))))))))
  obtain ⟨x_1, hx_2, h⟩ := bd h
  refine tO (qx 0 C_a 2 hx_2 rfl (C_h.sp hx_2) (jkO (qh [0] (tO (ql 0 false (fun w hm => (((hm.xr C_h).at hx_2).sub 1 1)) (jkO (qh [0,0] (qe (jx_then (jc_seq (jc_region (qh [0,0,0] ?_))))))))))))
  obtain ⟨t_2, ht_3, h⟩ := bd h
  refine tO (pc 0 (fun w hm => impl_Drum_has.calls d1 step2 track3 w _ (hm.xr D_h) ht_3) ?_)
  rintro w v w' hm ⟨rfl, hm'⟩
  refine ⟨_, hm.app hm', jkO ?_⟩
  clear hm hm'
  refine qf [(0, 0), (0, 0), (0, 1), (0, 1), (0, 1), (0, 1)] (qp 22 h (fun h => ?_) (fun h => ?_))
  ·obtain ⟨t_3, ht_5, h⟩ := bd h
   refine tO (pc 2 (fun w hm => impl_Frame_behind.calls f0 d1 step2 track3 1 w _ C_c (hm.xr C_h) rfl (hm.xr D_h) ht_5) ?_)
   rintro w v w' hm ⟨rfl, hm'⟩
   refine ⟨_, hm.app hm', jkO ?_⟩
   clear hm hm'
   refine qf [(0, 2), (0, 2), (0, 4), (0, 0), (0, 1), (0, 1), (0, 1), (0, 1)] (qp 31 h (fun h => ?_) (fun h => ?_))
   ·obtain ⟨t_4, ht_7, h⟩ := bd h
    refine tO (pc 2 (fun w hm => impl_Frame_behind.calls f0 d1 step2 track3 (-1) w _ C_c (hm.xr C_h) rfl (hm.xr D_h) ht_7) ?_)
    rintro w v w' hm ⟨rfl, hm'⟩
    refine ⟨_, hm.app hm', jkO ?_⟩
    clear hm hm'
    refine qf [(0, 2), (0, 2), (0, 4), (0, 0)] (qe (jx_then (jc_ret ?_)))
    obtain rfl := Option.some.inj h
    exact qr [] (fun w hm => ⟨rfl, hm.pk []⟩)
   ·refine qf [(0, 3), (0, 3), (0, 3), (0, 5), (0, 0)] (qe (jx_then (jc_ret ?_)))
    obtain rfl := Option.some.inj h
    exact qr [] (fun w hm => ⟨rfl, hm.pk []⟩)
  ·refine qf [(0, 3), (0, 3), (0, 3), (0, 5), (0, 0), (0, 3), (0, 3), (0, 3), (0, 3), (0, 3), (0, 3), (0, 3), (0, 5), (0, 0)] (qe (jx_then (jc_ret ?_)))
   obtain rfl := Option.some.inj h
   exact qr [] (fun w hm => ⟨rfl, hm.pk []⟩)
/-! ### (impl.Frame).canPut -/
def impl_Frame_canPut (f0 : GFrame) (d1 : Arr 96 Int) (n2 : GNote) (x3 : GChoice) : Option (Bool) := (if x3.fAway = true then some true else (impl_Frame_isFree f0 d1 (w64 ((w64 n2.fAt) + (w64 x3.fLate))) (w64 x3.fTrack)).bind fun t_1 => some t_1)
theorem impl_Frame_canPut.calls (f0 : GFrame) (d1 : Arr 96 Int) (n2 : GNote) (x3 : GChoice) (w : World) (r : Bool) {C_a : Option Addr} {C_an : Nat} (C_c : Nat) (C_h : Rw w C_a 2 encGHammer f0.fHammers) (C_hn : f0.fHammers.length = C_an) {D_b D_q : Nat} (D_h : Rw w (some ⟨D_b, D_q, none⟩) 1 encU32 d1.1) (h : impl_Frame_canPut f0 d1 n2 x3 = some r) :
    Calls Try.prog 139 #[(.agg #[(.int .i16 f0.fSteps), (.slice C_a C_an C_c)]), (.pointer (some ⟨D_b, D_q, none⟩)), (.agg #[(.int .i16 n2.fAt), (.int .i8 n2.fPitch)]), (.agg #[(.bool x3.fAway), (.int .i8 x3.fLate), (.int .i8 x3.fOctave), (.int .i8 x3.fTrack)])] w fun e w' => ∃ v, e = .returned v ∧ (v = (.bool r) ∧ Mem w [] [] w') := by
  subst C_hn
  rw [impl_Frame_canPut] at h
  refine enter (args := [(.agg #[(.int .i16 f0.fSteps), (.slice C_a f0.fHammers.length C_c)]), (.pointer (some ⟨D_b, D_q, none⟩)), (.agg #[(.int .i16 n2.fAt), (.int .i8 n2.fPitch)]), (.agg #[(.bool x3.fAway), (.int .i8 x3.fLate), (.int .i8 x3.fOctave), (.int .i8 x3.fTrack)])]) Try.func139 rfl Try.ntmps139 (by kernel_rfl) (L := []) (W := []) (Mem.start w) ?_
  refine jc_seq (jc_region (tO (qa 0 (fun b_1 => jkO (tO (qa 0 (fun b_2 => jkO (tO (qa 0 (fun b_3 => jkO (qh [0] (qe (jx_then (jc_seq (jc_region (qf [(0, 0), (2, 0), (0, 0), (0, 1), (0, 1), (0, 1), (1, 1), (0, 1), (0, 1), (2, 1), (0, 1), (0, 1), (0, 1), (2, 1), (0, 1)] (qp 11 h (fun h => ?_) (fun h => ?_))))))))))))))))))
  ·refine qf [(0, 3), (0, 4), (0, 0)] (qe (jx_then (jc_ret ?_)))
   obtain rfl := Option.some.inj h
   exact qr [] (fun w hm => ⟨rfl, hm.pk []⟩)
  ·obtain ⟨t_1, ht_5, h⟩ := bd h
   refine tO (pc 2 (fun w hm => impl_Frame_isFree.calls f0 d1 (w64 ((w64 n2.fAt) + (w64 x3.fLate))) (w64 x3.fTrack) w _ C_c (hm.xr C_h) rfl (hm.xr D_h) ht_5) ?_)
   rintro w v w' hm ⟨rfl, hm'⟩
   refine ⟨_, hm.app hm', jkO ?_⟩
   clear hm hm'
   refine qf [(0, 5), (0, 0)] (qe (jx_then (jc_ret ?_)))
   obtain rfl := Option.some.inj h
   exact qr [] (fun w hm => ⟨rfl, hm.pk []⟩)
/-! ### (*impl.Drum).put -/
def impl_Drum_put (d0 : Arr 96 Int) (step1 : Int) (track2 : Int) (on3 : Bool) : Option ((Arr 96 Int)) := (ix d0.1 step1).bind fun x_1 => (if 0 ≤ track2 then (ix d0.1 step1).bind fun x_2 => (if on3 = true then (ix ((Arr.set d0 step1 (bClr .u32 x_1 (bShl .u32 1 track2))).1) step1).bind fun x_3 => (if 0 ≤ track2 then (ix ((Arr.set d0 step1 (bClr .u32 x_1 (bShl .u32 1 track2))).1) step1).bind fun x_4 => some (Arr.set (Arr.set d0 step1 (bClr .u32 x_1 (bShl .u32 1 track2))) step1 (bOr .u32 x_3 (bShl .u32 1 track2))) else none) else some (Arr.set d0 step1 (bClr .u32 x_1 (bShl .u32 1 track2)))) else none)
theorem impl_Drum_put.calls (d0 : Arr 96 Int) (step1 : Int) (track2 : Int) (on3 : Bool) (w : World) (r : (Arr 96 Int)) (A_b : Nat) (hm0 : Mem w (bs [some A_b]) [⟨(some A_b), 88, row encU32 d0.1 []⟩] w) (h : impl_Drum_put d0 step1 track2 on3 = some r) :
    Calls Try.prog 160 #[(.pointer (some ⟨A_b, 0, none⟩)), (.int .i64 step1), (.int .i64 track2), (.bool on3)] w fun e w' => ∃ v, e = .returned v ∧ (v = .tuple #[] ∧ Mem w (bs [some A_b]) [⟨(some A_b), 88, row encU32 r.1 []⟩] w') := by
  rw [impl_Drum_put] at h
  refine enter (args := [(.pointer (some ⟨A_b, 0, none⟩)), (.int .i64 step1), (.int .i64 track2), (.bool on3)]) Try.func160 rfl Try.ntmps160 (by kernel_rfl) (L := [⟨(some A_b), 88, row encU32 d0.1 []⟩]) (W := bs [some A_b]) hm0 ?_
  refine jc_seq (qg [] 11 (qd [⟨0, 0, 0⟩,⟨1, 0, 0⟩,⟨2, 0, 0⟩,⟨5, 0, 0⟩,⟨8, 0, 0⟩] 6 [] ?_))
  obtain ⟨x_1, hx_4, h⟩ := bd h
  refine qv 3 0 [] (fun w hm => idx_run (a := (some ⟨A_b, 0, none⟩)) (len := 96) (s := 1) (j := step1) (by kernel_rfl) (ix_some hx_4).1 (ltn hx_4 d0.2) rfl) (toD2 4 6 (by kernel_rfl) ?_ ?_)
  ·refine ql 0 false (fun w hm => ((hm.ow 0 (some A_b) 88 d0.1 [] (fun e => nomatch e) encU32_len).at hx_4)) (kD [] ?_)
   obtain ⟨hg_5, h⟩ := gd h
   refine tD 6 (p_shl 0 .u32 1 .i64 track2 (by kernel_rfl) (by kernel_rfl) hg_5 (kD [] (qd [⟨7, 0, 0⟩] 2 [] ?_)))
   obtain ⟨x_2, hx_6, h⟩ := bd h
   refine qv 9 0 [] (fun w hm => idx_run (a := (some ⟨A_b, 0, none⟩)) (len := 96) (s := 1) (j := step1) (by kernel_rfl) (ix_some hx_6).1 (ltn hx_6 d0.2) rfl) (tD 10 (p_str 0 0 A_b 88 encU32 d0.1 [] step1 (bClr .u32 x_1 (bShl .u32 1 track2)) 1 0 [(.int .u32 (bClr .u32 x_1 (bShl .u32 1 track2)))] (by kernel_rfl) (by kernel_rfl) (by kernel_rfl) encU32_len hx_6 (by kernel_rfl) (by kernel_rfl) (kD [] (qz (jx_then (jc_seq (jc_region (qh [0] (qe (jx_then (qi h (fun h => ?_) (fun h => ?_))))))))))))
   ·refine qg [] 11 (qd [⟨0, 0, 0⟩,⟨1, 0, 0⟩,⟨2, 0, 0⟩,⟨5, 0, 0⟩,⟨8, 0, 0⟩] 6 [] ?_)
    obtain ⟨x_3, hx_11, h⟩ := bd h
    refine qv 3 0 [] (fun w hm => idx_run (a := (some ⟨A_b, 0, none⟩)) (len := 96) (s := 1) (j := step1) (by kernel_rfl) (ix_some hx_11).1 (ltn hx_11 (Arr.set d0 step1 (bClr .u32 x_1 (bShl .u32 1 track2))).2) rfl) (toD2 4 6 (by kernel_rfl) ?_ ?_)
    ·refine ql 0 false (fun w hm => ((hm.ow 0 (some A_b) 88 ((Arr.set d0 step1 (bClr .u32 x_1 (bShl .u32 1 track2))).1) [] (fun e => nomatch e) encU32_len).at hx_11)) (kD [] ?_)
     obtain ⟨hg_12, h⟩ := gd h
     refine tD 6 (p_shl 0 .u32 1 .i64 track2 (by kernel_rfl) (by kernel_rfl) hg_12 (kD [] (qd [⟨7, 0, 0⟩] 2 [] ?_)))
     obtain ⟨x_4, hx_13, h⟩ := bd h
     refine qv 9 0 [] (fun w hm => idx_run (a := (some ⟨A_b, 0, none⟩)) (len := 96) (s := 1) (j := step1) (by kernel_rfl) (ix_some hx_13).1 (ltn hx_13 (Arr.set d0 step1 (bClr .u32 x_1 (bShl .u32 1 track2))).2) rfl) (tD 10 (p_str 0 0 A_b 88 encU32 ((Arr.set d0 step1 (bClr .u32 x_1 (bShl .u32 1 track2))).1) [] step1 (bOr .u32 x_3 (bShl .u32 1 track2)) 1 0 [(.int .u32 (bOr .u32 x_3 (bShl .u32 1 track2)))] (by kernel_rfl) (by kernel_rfl) (by kernel_rfl) encU32_len hx_13 (by kernel_rfl) (by kernel_rfl) (kD [] (qz (jx_fall ?_)))))
     obtain rfl := Option.some.inj h
     exact qr [] (fun w hm => ⟨rfl, hm.pk [0]⟩)
    ·obtain ⟨hg_14, h⟩ := gd h
     refine p_shl 0 .u32 1 .i64 track2 (by kernel_rfl) (by kernel_rfl) hg_14 (kD [] (tD 4 (ql 0 false (fun w hm => ((hm.ow 0 (some A_b) 88 ((Arr.set d0 step1 (bClr .u32 x_1 (bShl .u32 1 track2))).1) [] (fun e => nomatch e) encU32_len).at hx_11)) (kD [] (qd [⟨7, 0, 0⟩] 2 [] ?_)))))
     obtain ⟨x_4, hx_15, h⟩ := bd h
     refine qv 9 0 [] (fun w hm => idx_run (a := (some ⟨A_b, 0, none⟩)) (len := 96) (s := 1) (j := step1) (by kernel_rfl) (ix_some hx_15).1 (ltn hx_15 (Arr.set d0 step1 (bClr .u32 x_1 (bShl .u32 1 track2))).2) rfl) (tD 10 (p_str 0 0 A_b 88 encU32 ((Arr.set d0 step1 (bClr .u32 x_1 (bShl .u32 1 track2))).1) [] step1 (bOr .u32 x_3 (bShl .u32 1 track2)) 1 0 [(.int .u32 (bOr .u32 x_3 (bShl .u32 1 track2)))] (by kernel_rfl) (by kernel_rfl) (by kernel_rfl) encU32_len hx_15 (by kernel_rfl) (by kernel_rfl) (kD [] (qz (jx_fall ?_)))))
     obtain rfl := Option.some.inj h
     exact qr [] (fun w hm => ⟨rfl, hm.pk [0]⟩)
   ·refine jc_skip (jx_fall ?_)
    obtain rfl := Option.some.inj h
    exact qr [] (fun w hm => ⟨rfl, hm.pk [0]⟩)
  ·obtain ⟨hg_16, h⟩ := gd h
   refine p_shl 0 .u32 1 .i64 track2 (by kernel_rfl) (by kernel_rfl) hg_16 (kD [] (tD 4 (ql 0 false (fun w hm => ((hm.ow 0 (some A_b) 88 d0.1 [] (fun e => nomatch e) encU32_len).at hx_4)) (kD [] (qd [⟨7, 0, 0⟩] 2 [] ?_)))))
   obtain ⟨x_2, hx_17, h⟩ := bd h
   refine qv 9 0 [] (fun w hm => idx_run (a := (some ⟨A_b, 0, none⟩)) (len := 96) (s := 1) (j := step1) (by kernel_rfl) (ix_some hx_17).1 (ltn hx_17 d0.2) rfl) (tD 10 (p_str 0 0 A_b 88 encU32 d0.1 [] step1 (bClr .u32 x_1 (bShl .u32 1 track2)) 1 0 [(.int .u32 (bClr .u32 x_1 (bShl .u32 1 track2)))] (by kernel_rfl) (by kernel_rfl) (by kernel_rfl) encU32_len hx_17 (by kernel_rfl) (by kernel_rfl) (kD [] (qz (jx_then (jc_seq (jc_region (qh [0] (qe (jx_then (qi h (fun h => ?_) (fun h => ?_))))))))))))
   ·refine qg [] 11 (qd [⟨0, 0, 0⟩,⟨1, 0, 0⟩,⟨2, 0, 0⟩,⟨5, 0, 0⟩,⟨8, 0, 0⟩] 6 [] ?_)
    obtain ⟨x_3, hx_22, h⟩ := bd h
    refine qv 3 0 [] (fun w hm => idx_run (a := (some ⟨A_b, 0, none⟩)) (len := 96) (s := 1) (j := step1) (by kernel_rfl) (ix_some hx_22).1 (ltn hx_22 (Arr.set d0 step1 (bClr .u32 x_1 (bShl .u32 1 track2))).2) rfl) (toD2 4 6 (by kernel_rfl) ?_ ?_)
    ·refine ql 0 false (fun w hm => ((hm.ow 0 (some A_b) 88 ((Arr.set d0 step1 (bClr .u32 x_1 (bShl .u32 1 track2))).1) [] (fun e => nomatch e) encU32_len).at hx_22)) (kD [] ?_)
     obtain ⟨hg_23, h⟩ := gd h
     refine tD 6 (p_shl 0 .u32 1 .i64 track2 (by kernel_rfl) (by kernel_rfl) hg_23 (kD [] (qd [⟨7, 0, 0⟩] 2 [] ?_)))
     obtain ⟨x_4, hx_24, h⟩ := bd h
     refine qv 9 0 [] (fun w hm => idx_run (a := (some ⟨A_b, 0, none⟩)) (len := 96) (s := 1) (j := step1) (by kernel_rfl) (ix_some hx_24).1 (ltn hx_24 (Arr.set d0 step1 (bClr .u32 x_1 (bShl .u32 1 track2))).2) rfl) (tD 10 (p_str 0 0 A_b 88 encU32 ((Arr.set d0 step1 (bClr .u32 x_1 (bShl .u32 1 track2))).1) [] step1 (bOr .u32 x_3 (bShl .u32 1 track2)) 1 0 [(.int .u32 (bOr .u32 x_3 (bShl .u32 1 track2)))] (by kernel_rfl) (by kernel_rfl) (by kernel_rfl) encU32_len hx_24 (by kernel_rfl) (by kernel_rfl) (kD [] (qz (jx_fall ?_)))))
     obtain rfl := Option.some.inj h
     exact qr [] (fun w hm => ⟨rfl, hm.pk [0]⟩)
    ·obtain ⟨hg_25, h⟩ := gd h
     refine p_shl 0 .u32 1 .i64 track2 (by kernel_rfl) (by kernel_rfl) hg_25 (kD [] (tD 4 (ql 0 false (fun w hm => ((hm.ow 0 (some A_b) 88 ((Arr.set d0 step1 (bClr .u32 x_1 (bShl .u32 1 track2))).1) [] (fun e => nomatch e) encU32_len).at hx_22)) (kD [] (qd [⟨7, 0, 0⟩] 2 [] ?_)))))
     obtain ⟨x_4, hx_26, h⟩ := bd h
     refine qv 9 0 [] (fun w hm => idx_run (a := (some ⟨A_b, 0, none⟩)) (len := 96) (s := 1) (j := step1) (by kernel_rfl) (ix_some hx_26).1 (ltn hx_26 (Arr.set d0 step1 (bClr .u32 x_1 (bShl .u32 1 track2))).2) rfl) (tD 10 (p_str 0 0 A_b 88 encU32 ((Arr.set d0 step1 (bClr .u32 x_1 (bShl .u32 1 track2))).1) [] step1 (bOr .u32 x_3 (bShl .u32 1 track2)) 1 0 [(.int .u32 (bOr .u32 x_3 (bShl .u32 1 track2)))] (by kernel_rfl) (by kernel_rfl) (by kernel_rfl) encU32_len hx_26 (by kernel_rfl) (by kernel_rfl) (kD [] (qz (jx_fall ?_)))))
     obtain rfl := Option.some.inj h
     exact qr [] (fun w hm => ⟨rfl, hm.pk [0]⟩)
   ·refine jc_skip (jx_fall ?_)
    obtain rfl := Option.some.inj h
    exact qr [] (fun w hm => ⟨rfl, hm.pk [0]⟩)
/-! ### (*impl.Drum).puts -/
def impl_Drum_puts (d0 : Arr 96 Int) (n1 : GNote) (x2 : GChoice) : Option ((Arr 96 Int)) := (if (!x2.fAway) = true then (impl_Drum_put d0 (w64 ((w64 n1.fAt) + (w64 x2.fLate))) (w64 x2.fTrack) true).bind fun t_1 => some t_1 else some d0)
theorem impl_Drum_puts.calls (d0 : Arr 96 Int) (n1 : GNote) (x2 : GChoice) (w : World) (r : (Arr 96 Int)) (A_b : Nat) (hm0 : Mem w (bs [some A_b]) [⟨(some A_b), 88, row encU32 d0.1 []⟩] w) (h : impl_Drum_puts d0 n1 x2 = some r) :
    Calls Try.prog 140 #[(.pointer (some ⟨A_b, 0, none⟩)), (.agg #[(.int .i16 n1.fAt), (.int .i8 n1.fPitch)]), (.agg #[(.bool x2.fAway), (.int .i8 x2.fLate), (.int .i8 x2.fOctave), (.int .i8 x2.fTrack)])] w fun e w' => ∃ v, e = .returned v ∧ (v = .tuple #[] ∧ Mem w (bs [some A_b]) [⟨(some A_b), 88, row encU32 r.1 []⟩] w') := by
  rw [impl_Drum_puts] at h
  refine enter (args := [(.pointer (some ⟨A_b, 0, none⟩)), (.agg #[(.int .i16 n1.fAt), (.int .i8 n1.fPitch)]), (.agg #[(.bool x2.fAway), (.int .i8 x2.fLate), (.int .i8 x2.fOctave), (.int .i8 x2.fTrack)])]) Try.func140 rfl Try.ntmps140 (by kernel_rfl) (L := [⟨(some A_b), 88, row encU32 d0.1 []⟩]) (W := bs [some A_b]) hm0 ?_
  refine jc_seq (jc_region (tO (qa 0 (fun b_1 => jkO (tO (qa 0 (fun b_2 => jkO (qe (jx_then (jc_seq (jc_region (qh [0,2,0] (qe (jx_then (qi h (fun h => ?_) (fun h => ?_))))))))))))))))
  ·refine jc_region (qh [0,0,1,0,0,2,0,0,0,2,0] ?_)
   obtain ⟨t_1, ht_4, h⟩ := bd h
   refine tO (pc 0 (fun w hm => impl_Drum_put.calls d0 (w64 ((w64 n1.fAt) + (w64 x2.fLate))) (w64 x2.fTrack) true w _ A_b (hm.pass (N := [⟨(some A_b), 88, row encU32 d0.1 []⟩]) [0] (by kernel_rfl) (by kernel_rfl)) ht_4) ?_)
   rintro w v w' hm ⟨rfl, hm'⟩
   refine ⟨_, hm.appW (ps := [(0, ⟨(some A_b), 88, row encU32 t_1.1 []⟩)]) (N := []) hm' (by kernel_rfl) (by kernel_rfl), jkO ?_⟩
   clear hm hm'
   refine qe (jx_fall ?_)
   obtain rfl := Option.some.inj h
   exact qr [] (fun w hm => ⟨rfl, hm.pk [0]⟩)
  ·refine jc_skip (jx_fall ?_)
   obtain rfl := Option.some.inj h
   exact qr [] (fun w hm => ⟨rfl, hm.pk [0]⟩)
/-! ### slices.Clone[[]impl.Choice,impl.Choice] -/
def slices_Clone_Choice (s0 : List GChoice) : Option ((List GChoice)) := (if ([] : List GChoice).length + s0.length ≤ 4294967296 then some (([] : List GChoice) ++ s0) else none)
theorem slices_Clone_Choice.calls (s0 : List GChoice) (w : World) (r : (List GChoice)) {A_a : Option Addr} {A_an : Nat} (A_c : Nat) (A_h : Rw w A_a 4 encGChoice s0) (A_hn : s0.length = A_an) (h : slices_Clone_Choice s0 = some r) :
    Calls Try.prog 141 #[(.slice A_a A_an A_c)] w fun e w' => ∃ v, e = .returned v ∧ (∃ (o0 : Option Nat) (c0 : Nat) (s0 : List Value) (n0 : Nat), r.length = n0 ∧ (o0 ≠ none → n0 ≤ c0 ∧ s0.length = (c0 - n0) * 4) ∧ (o0 = none → r = [] ∧ c0 = 0) ∧ v = .slice (o0.map fun b => ⟨b, 0, none⟩) n0 c0 ∧ Mem w [] [⟨o0, 144, row encGChoice r s0⟩] w') := by
  subst A_hn
  rw [slices_Clone_Choice] at h
  refine enter (args := [(.slice A_a s0.length A_c)]) Try.func141 rfl Try.ntmps141 (by kernel_rfl) (L := []) (W := []) (Mem.start w) ?_
  refine jc_seq (jc_region (qh [0] (qe (jx_then (jc_seq (jc_seq (jc_region (qh [0] ?_))))))))
  by_cases hn_4 : A_a = none
  ·have hx0 : s0 = [] := (nil_of A_h hn_4)
   replace h : some [] = some r := by simpa [hx0] using h
   refine tO (p_nil 0 A_a true true (by kernel_rfl) (by kernel_rfl) (by rw [hn_4]; rfl) (jkO (qe (jx_then (jc_cond true (by kernel_rfl) (fun hc_5 => (jc_seq (jc_region (qh [0] (qe (jx_then (jc_ret (jx_thenr ?_)))))))) (fun hc_5 => nomatch hc_5))))))
   obtain rfl := Option.some.inj h
   exact jx_ghost 144 encGChoice (qr [] (fun w hm => ⟨none, 0, [], 0, rfl, (fun e => absurd rfl e), (fun _ => ⟨rfl, rfl⟩), rfl, hm.pk [0]⟩))
  ·refine tO (p_nil 0 A_a true false (by kernel_rfl) (by kernel_rfl) (by rw [Option.isNone_eq_false_iff.2 (Option.ne_none_iff_isSome.1 hn_4)]; rfl) (jkO (qe (jx_then (jc_cond false (by kernel_rfl) (fun hc_6 => nomatch hc_6) (fun hc_6 => (jc_skip (jx_then (jc_seq (jc_region (tO (qa 0 (fun b_7 => jkO (qh [0] ?_))))))))))))))
   obtain ⟨hg_8, h⟩ := gd h
   refine tO (p_apn 0 0 (some b_7) 144 0 s0.length 0 4 4 A_a encGChoice ([] : List GChoice) s0 [] (.agg #[(.bool false), (.int .i8 0), (.int .i8 0), (.int .i8 0)]) rfl rfl (by kernel_rfl) (by kernel_rfl) (by kernel_rfl) encGChoice_len encGChoice_cell (fun _ => ⟨Nat.le_refl _, by simp⟩) (fun e => nomatch e) (fun w hm => (hm.xr A_h)) hg_8 (by kernel_rfl) (by kernel_rfl) (fun o_9 cap_10 sp_11 hs_12 ho_13 => jkO (qh [0] (qe (jx_then (jc_ret ?_))))))
   obtain rfl := Option.some.inj h
   exact qr [] (fun w hm => ⟨o_9, cap_10, sp_11, ((([] : List GChoice) ++ s0).length), rfl, hs_12, ho_13, rfl, hm.pk [0]⟩)
end

end Go.Proofs.Yteedohcicmgkaaa
