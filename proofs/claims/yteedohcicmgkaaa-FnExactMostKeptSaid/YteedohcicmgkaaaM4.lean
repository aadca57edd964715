/- Functions of the program that the laws reach: a plain function each, and that the call comes to its answer if the plain function has one. Printed by a program. -/
import Derived.Test.YteedohcicmgkaaaT
import Derived.Test.YteedohcicmgkaaaM0
import Derived.Test.YteedohcicmgkaaaM2
namespace Go.Proofs.Yteedohcicmgkaaa
open Eng
set_option linter.unusedVariables false

set_option linter.unusedSectionVars false
set_option maxRecDepth 100000
variable [dsW : DrwS]
noncomputable section
/-! ### spec.MostKept -/
def spec_MostKept (f0 : GFrame) (t1 : List GNote) (budget2 : Int) : Option (Int × Int) := (spec_l07Arrange f0 t1 (⟨1, 0, 0⟩ : GCosts) budget2).bind fun t_1 => (if (t_1.2.2 != 0) = true then some (0, t_1.2.2) else some ((w64 ((t1.length : Int) - t_1.2.1)), 0))
theorem spec_MostKept.calls (f0 : GFrame) (t1 : List GNote) (budget2 : Int) (w : World) (r : Int × Int) {C_a : Option Addr} {C_an : Nat} (C_c : Nat) (C_h : Rw w C_a 2 encGHammer f0.fHammers) (C_hn : f0.fHammers.length = C_an) {D_a : Option Addr} {D_an : Nat} (D_c : Nat) (D_h : Rw w D_a 2 encGNote t1) (D_hn : t1.length = D_an) (h : spec_MostKept f0 t1 budget2 = some r) :
    Calls Try.prog 40 #[(.agg #[(.int .i16 f0.fSteps), (.slice C_a C_an C_c)]), (.slice D_a D_an D_c), (.int .i64 budget2)] w fun e w' => ∃ v, e = .returned v ∧ (v = .tuple #[(.int .i64 r.1), (.int .i64 r.2)] ∧ Mem w [] [] w') := by
  subst C_hn D_hn
  rw [spec_MostKept] at h
  refine enter (args := [(.agg #[(.int .i16 f0.fSteps), (.slice C_a f0.fHammers.length C_c)]), (.slice D_a t1.length D_c), (.int .i64 budget2)]) Try.func40 rfl Try.ntmps40 (by kernel_rfl) (L := []) (W := []) (Mem.start w) ?_
  refine jc_seq (jc_region (tO (qa 0 (fun b_1 => jkO (qh [0,0] (qe (jx_then (jc_seq (jc_region (qh [0,0,0] ?_))))))))))
  obtain ⟨t_1, ht_2, h⟩ := bd h
  refine tO (pc 0 (fun w hm => spec_l07Arrange.calls f0 t1 (⟨1, 0, 0⟩ : GCosts) budget2 w _ C_c (hm.xr C_h) rfl D_c (hm.xr D_h) rfl b_1 (hm.pass (N := [⟨some b_1, 34, [(.int .i16 f0.fSteps), (.slice C_a f0.fHammers.length C_c)]⟩]) [0] (by kernel_rfl) (by kernel_rfl)) (hm.exApart (N := [⟨some b_1, 34, [(.int .i16 f0.fSteps), (.slice C_a f0.fHammers.length C_c)]⟩]) C_h (fun _ => List.not_mem_nil) [0] (by kernel_rfl)) (hm.exApart (N := [⟨some b_1, 34, [(.int .i16 f0.fSteps), (.slice C_a f0.fHammers.length C_c)]⟩]) D_h (fun _ => List.not_mem_nil) [0] (by kernel_rfl)) ht_2) ?_)
  rintro w v w' hm ⟨o_3, cap_4, sp_5, _, rfl, hs_6, ho_7, rfl, hm'⟩
  refine ⟨_, hm.appW (ps := [(0, ⟨some b_1, 34, [(.int .i16 f0.fSteps), (.slice C_a f0.fHammers.length C_c)]⟩)]) (N := [⟨o_3, 144, row encGChoice t_1.1 sp_5⟩]) hm' (by kernel_rfl) (by kernel_rfl), jkO ?_⟩
  clear hm hm'
  refine qh [0,0,0,0,0,0,0] (qe (jx_then (jc_seq (jc_seq (jc_region (qh [0,0] (qe (jx_then (qi h (fun h => ?_) (fun h => ?_))))))))))
  ·refine jc_seq (jc_region (qh [0,0,0] (qe (jx_then (jc_ret (jx_thenr ?_))))))
   obtain rfl := Option.some.inj h
   exact qr [] (fun w hm => ⟨rfl, hm.pk []⟩)
  ·refine jc_skip (jx_then (jc_seq (jc_region (qh [0,0,0,0,0,0] (qe (jx_then (jc_ret ?_)))))))
   obtain rfl := Option.some.inj h
   exact qr [] (fun w hm => ⟨rfl, hm.pk []⟩)
/-! ### impl.size[impl.Note] -/
def impl_size_Note (list0 : List GNote) : Option (Int) := some (list0.length : Int)
theorem impl_size_Note.calls (list0 : List GNote) (w : World) (r : Int) {A_a : Option Addr} {A_an : Nat} (A_c : Nat) (A_h : Rw w A_a 2 encGNote list0) (A_hn : list0.length = A_an) (h : impl_size_Note list0 = some r) :
    Calls Try.prog 91 #[(.slice A_a A_an A_c)] w fun e w' => ∃ v, e = .returned v ∧ (v = (.int .i64 r) ∧ Mem w [] [] w') := by
  subst A_hn
  rw [impl_size_Note] at h
  refine enter (args := [(.slice A_a list0.length A_c)]) Try.func91 rfl Try.ntmps91 (by kernel_rfl) (L := []) (W := []) (Mem.start w) ?_
  refine jc_seq (jc_region (qh [0] (qe (jx_then (jc_seq (jc_region (qh [0,0,0] (qe (jx_then (jc_ret ?_))))))))))
  obtain rfl := Option.some.inj h
  exact qr [] (fun w hm => ⟨rfl, hm.pk []⟩)
/-! ### impl.MostKept -/
def impl_MostKept (f0 : GFrame) (t1 : List GNote) (budget2 : Int) : Option (Int × Int) := (impl_Arrange f0 t1 (⟨1, 0, 0⟩ : GCosts) budget2).bind fun t_1 => (if (t_1.2.2 != 0) = true then some (0, t_1.2.2) else (impl_size_Note t1).bind fun t_2 => some ((w64 (t_2 - t_1.2.1)), 0))
theorem impl_MostKept.calls (f0 : GFrame) (t1 : List GNote) (budget2 : Int) (w : World) (r : Int × Int) {C_a : Option Addr} {C_an : Nat} (C_c : Nat) (C_h : Rw w C_a 2 encGHammer f0.fHammers) (C_hn : f0.fHammers.length = C_an) {D_a : Option Addr} {D_an : Nat} (D_c : Nat) (D_h : Rw w D_a 2 encGNote t1) (D_hn : t1.length = D_an) (h : impl_MostKept f0 t1 budget2 = some r) :
    Calls Try.prog 41 #[(.agg #[(.int .i16 f0.fSteps), (.slice C_a C_an C_c)]), (.slice D_a D_an D_c), (.int .i64 budget2)] w fun e w' => ∃ v, e = .returned v ∧ (v = .tuple #[(.int .i64 r.1), (.int .i64 r.2)] ∧ Mem w [] [] w') := by
  subst C_hn D_hn
  rw [impl_MostKept] at h
  refine enter (args := [(.agg #[(.int .i16 f0.fSteps), (.slice C_a f0.fHammers.length C_c)]), (.slice D_a t1.length D_c), (.int .i64 budget2)]) Try.func41 rfl Try.ntmps41 (by kernel_rfl) (L := []) (W := []) (Mem.start w) ?_
  refine jc_seq (jc_region (tO (qa 0 (fun b_1 => jkO (qh [0,0] (qe (jx_then (jc_seq (jc_region (qh [0,0,0,0] ?_))))))))))
  obtain ⟨t_1, ht_2, h⟩ := bd h
  refine tO (pc 0 (fun w hm => impl_Arrange.calls f0 t1 (⟨1, 0, 0⟩ : GCosts) budget2 w _ C_c (hm.xr C_h) rfl D_c (hm.xr D_h) rfl ht_2) ?_)
  rintro w v w' hm ⟨o_3, cap_4, sp_5, _, rfl, hs_6, ho_7, rfl, hm'⟩
  refine ⟨_, hm.app hm', jkO ?_⟩
  clear hm hm'
  refine qh [0,0,0,0,0,0,0] (qe (jx_then (jc_seq (jc_seq (jc_region (qh [0,0] (qe (jx_then (qi h (fun h => ?_) (fun h => ?_))))))))))
  ·refine jc_seq (jc_region (qh [0,0,0] (qe (jx_then (jc_ret (jx_thenr ?_))))))
   obtain rfl := Option.some.inj h
   exact qr [] (fun w hm => ⟨rfl, hm.pk []⟩)
  ·refine jc_skip (jx_then (jc_seq (jc_region (qh [0] ?_))))
   obtain ⟨t_2, ht_10, h⟩ := bd h
   refine tO (pc 0 (fun w hm => impl_size_Note.calls t1 w _ D_c (hm.xr D_h) rfl ht_10) ?_)
   rintro w v w' hm ⟨rfl, hm'⟩
   refine ⟨_, hm.app hm', jkO ?_⟩
   clear hm hm'
   refine qh [0,0,0,0] (qe (jx_then (jc_ret ?_)))
   obtain rfl := Option.some.inj h
   exact qr [] (fun w hm => ⟨rfl, hm.pk []⟩)
/-! ### laws.FnExactMostKept -/
def laws_FnExactMostKept (aF0 : GFrame) (aT1 : List GNote) (aBudget2 : Int) : Option (Bool) := (laws_szFrame aF0 1048576).bind fun t_1 => (if (decide (t_1 < 0)) = true then some true else (laws_szTune aT1 t_1).bind fun t_2 => (if (decide (t_2 < 0)) = true then some true else (laws_toFrame aF0).bind fun t_3 => (laws_toTune aT1).bind fun t_4 => (spec_MostKept t_3 t_4 aBudget2).bind fun t_5 => (laws_toFrame aF0).bind fun t_6 => (laws_toTune aT1).bind fun t_7 => (impl_MostKept t_6 t_7 aBudget2).bind fun t_8 => (if ((t_8.1 != t_5.1) || (t_8.2 != t_5.2)) = true then some false else (laws_toFrame aF0).bind fun t_9 => (laws_eqFrame t_6 t_9).bind fun t_10 => (if (!t_10) = true then some false else (laws_toTune aT1).bind fun t_11 => (laws_eqTune t_7 t_11).bind fun t_12 => (if (!t_12) = true then some false else some true)))))
theorem laws_FnExactMostKept.calls (aF0 : GFrame) (aT1 : List GNote) (aBudget2 : Int) (w : World) (r : Bool) {C_a : Option Addr} {C_an : Nat} (C_c : Nat) (C_h : Rw w C_a 2 encGHammer aF0.fHammers) (C_hn : aF0.fHammers.length = C_an) {D_a : Option Addr} {D_an : Nat} (D_c : Nat) (D_h : Rw w D_a 2 encGNote aT1) (D_hn : aT1.length = D_an) (h : laws_FnExactMostKept aF0 aT1 aBudget2 = some r) :
    Calls Try.prog 8 #[(.agg #[(.int .i16 aF0.fSteps), (.slice C_a C_an C_c)]), (.slice D_a D_an D_c), (.int .i64 aBudget2)] w fun e w' => ∃ v, e = .returned v ∧ (v = (.bool r) ∧ Mem w [] [] w') := by
  subst C_hn D_hn
  rw [laws_FnExactMostKept] at h
  refine enter (args := [(.agg #[(.int .i16 aF0.fSteps), (.slice C_a aF0.fHammers.length C_c)]), (.slice D_a aT1.length D_c), (.int .i64 aBudget2)]) Try.func8 rfl Try.ntmps8 (by kernel_rfl) (L := []) (W := []) (Mem.start w) ?_
  refine jc_seq (jc_region (tO (qa 0 (fun b_1 => jkO (qh [0] (qe (jx_then (jc_seq (jc_region (qh [0] (qe (jx_then (jc_seq (jc_region (qh [0,0] ?_)))))))))))))))
  obtain ⟨t_1, ht_2, h⟩ := bd h
  refine tO (pc 0 (fun w hm => laws_szFrame.calls aF0 1048576 w _ C_c (hm.xr C_h) rfl ht_2) ?_)
  rintro w v w' hm ⟨rfl, hm'⟩
  refine ⟨_, hm.app hm', jkO ?_⟩
  clear hm hm'
  refine qh [0] (qe (jx_then (jc_seq (jc_seq (jc_region (qh [0,0] (qe (jx_then (qi h (fun h => ?_) (fun h => ?_))))))))))
  ·refine jc_seq (jc_region (qh [0] (qe (jx_then (jc_ret (jx_thenr ?_))))))
   obtain rfl := Option.some.inj h
   exact qr [] (fun w hm => ⟨rfl, hm.pk []⟩)
  ·refine jc_skip (jx_then (jc_seq (jc_region (qh [0,0] ?_))))
   obtain ⟨t_2, ht_5, h⟩ := bd h
   refine tO (pc 0 (fun w hm => laws_szTune.calls aT1 t_1 w _ D_c (hm.xr D_h) rfl ht_5) ?_)
   rintro w v w' hm ⟨rfl, hm'⟩
   refine ⟨_, hm.app hm', jkO ?_⟩
   clear hm hm'
   refine qh [0] (qe (jx_then (jc_seq (jc_seq (jc_region (qh [0,0] (qe (jx_then (qi h (fun h => ?_) (fun h => ?_))))))))))
   ·refine jc_seq (jc_region (qh [0] (qe (jx_then (jc_ret (jx_thenr ?_))))))
    obtain rfl := Option.some.inj h
    exact qr [] (fun w hm => ⟨rfl, hm.pk []⟩)
   ·refine jc_skip (jx_then (jc_seq (jc_region (qh [0] ?_))))
    obtain ⟨t_3, ht_8, h⟩ := bd h
    refine tO (pc 0 (fun w hm => laws_toFrame.calls aF0 w _ C_c (hm.xr C_h) rfl ht_8) ?_)
    rintro w v w' hm ⟨o_9, cap_10, sp_11, _, rfl, hs_12, ho_13, rfl, hm'⟩
    refine ⟨_, hm.app hm', jkO ?_⟩
    clear hm hm'
    refine qh [0] ?_
    obtain ⟨t_4, ht_14, h⟩ := bd h
    refine tO (pc 0 (fun w hm => laws_toTune.calls aT1 w _ D_c (hm.xr D_h) rfl ht_14) ?_)
    rintro w v w' hm ⟨o_15, cap_16, sp_17, _, rfl, hs_18, ho_19, rfl, hm'⟩
    refine ⟨_, hm.app hm', jkO ?_⟩
    clear hm hm'
    refine qh [0] ?_
    obtain ⟨t_5, ht_20, h⟩ := bd h
    refine tO (pc 0 (fun w hm => spec_MostKept.calls t_3 t_4 aBudget2 w _ cap_10 (hm.ow 1 o_9 110 t_3.fHammers sp_11 (fun e => (ho_13 e).1) encGHammer_len) rfl cap_16 (hm.ow 2 o_15 104 t_4 sp_17 (fun e => (ho_19 e).1) encGNote_len) rfl ht_20) ?_)
    rintro w v w' hm ⟨rfl, hm'⟩
    refine ⟨_, hm.app hm', jkO ?_⟩
    clear hm hm'
    refine qh [0,0,0,0,0] (qe (jx_then (jc_seq (jc_region (qh [0] ?_)))))
    obtain ⟨t_6, ht_21, h⟩ := bd h
    refine tO (pc 0 (fun w hm => laws_toFrame.calls aF0 w _ C_c (hm.xr C_h) rfl ht_21) ?_)
    rintro w v w' hm ⟨o_22, cap_23, sp_24, _, rfl, hs_25, ho_26, rfl, hm'⟩
    refine ⟨_, hm.app hm', jkO ?_⟩
    clear hm hm'
    refine tO (qa 0 (fun b_27 => jkO (tO (qs 0 [4] (jkO (qe (jx_then (jc_seq (jc_region (qh [0] ?_))))))))))
    obtain ⟨t_7, ht_28, h⟩ := bd h
    refine tO (pc 0 (fun w hm => laws_toTune.calls aT1 w _ D_c (hm.xr D_h) rfl ht_28) ?_)
    rintro w v w' hm ⟨o_29, cap_30, sp_31, _, rfl, hs_32, ho_33, rfl, hm'⟩
    refine ⟨_, hm.app hm', jkO ?_⟩
    clear hm hm'
    refine qh [0] (qe (jx_then (jc_seq (jc_region (qh [4,0,0] ?_)))))
    obtain ⟨t_8, ht_34, h⟩ := bd h
    refine tO (pc 0 (fun w hm => impl_MostKept.calls t_6 t_7 aBudget2 w _ cap_23 (hm.ow 3 o_22 110 t_6.fHammers sp_24 (fun e => (ho_26 e).1) encGHammer_len) rfl cap_30 (hm.ow 5 o_29 104 t_7 sp_31 (fun e => (ho_33 e).1) encGNote_len) rfl ht_34) ?_)
    rintro w v w' hm ⟨rfl, hm'⟩
    refine ⟨_, hm.app hm', jkO ?_⟩
    clear hm hm'
    refine qh [0,0,0,0,0] (qe (jx_then (jc_seq (jc_seq (jc_region (qf [(0, 0), (0, 0), (0, 0), (0, 0), (0, 1), (0, 1), (0, 1), (0, 0)] (qe (jx_then (qi h (fun h => ?_) (fun h => ?_))))))))))
    ·refine jc_seq (jc_region (qh [0] (qe (jx_then (jc_ret (jx_thenr ?_))))))
     obtain rfl := Option.some.inj h
     exact qr [] (fun w hm => ⟨rfl, hm.pk []⟩)
    ·refine jc_skip (jx_then (jc_seq (jc_seq (qg [⟨some b_1, 25, [(.int .i16 aF0.fSteps), (.slice C_a aF0.fHammers.length C_c)]⟩, ⟨o_9, 110, row encGHammer t_3.fHammers sp_11⟩, ⟨o_15, 104, row encGNote t_4 sp_17⟩, ⟨o_22, 110, row encGHammer t_6.fHammers sp_24⟩, ⟨some b_27, 34, [(.int .i16 t_6.fSteps), (.slice (o_22.map fun b => ⟨b, 0, none⟩) t_6.fHammers.length cap_23)]⟩, ⟨o_29, 104, row encGNote t_7 sp_31⟩] 5 (qd [⟨0, 4, 0⟩,⟨1, 0, 0⟩] 3 [0, 1, 2, 3, 4, 5] ?_)))))
     obtain ⟨t_9, ht_59, h⟩ := bd h
     refine tD 2 (pc 0 (fun w hm => laws_toFrame.calls aF0 w _ C_c (hm.xr C_h) rfl ht_59) ?_)
     rintro w v w' hm ⟨o_60, cap_61, sp_62, _, rfl, hs_63, ho_64, rfl, hm'⟩
     refine ⟨_, hm.app hm', kD [0, 1, 2, 3, 4, 5] ?_⟩
     clear hm hm'
     obtain ⟨t_10, ht_65, h⟩ := bd h
     refine tD 3 (pc 0 (fun w hm => laws_eqFrame.calls t_6 t_9 w _ cap_23 (hm.ow 3 o_22 110 t_6.fHammers sp_24 (fun e => (ho_26 e).1) encGHammer_len) rfl cap_61 (hm.ow 6 o_60 110 t_9.fHammers sp_62 (fun e => (ho_64 e).1) encGHammer_len) rfl ht_65) ?_)
     rintro w v w' hm ⟨rfl, hm'⟩
     refine ⟨_, hm.app hm', kD [0, 1, 2, 3, 4, 5] ?_⟩
     clear hm hm'
     refine qd [⟨4, 0, 0⟩] 0 [0, 1, 2, 3, 4, 5] (qz (jx_then (qi h (fun h => ?_) (fun h => ?_))))
     ·refine jc_seq (jc_region (qh [0] (qe (jx_then (jc_ret (jx_thenr ?_))))))
      obtain rfl := Option.some.inj h
      exact qr [] (fun w hm => ⟨rfl, hm.pk []⟩)
     ·refine jc_skip (jx_then (jc_seq (jc_seq (jc_region (qh [0,0] ?_)))))
      obtain ⟨t_11, ht_67, h⟩ := bd h
      refine tO (pc 0 (fun w hm => laws_toTune.calls aT1 w _ D_c (hm.xr D_h) rfl ht_67) ?_)
      rintro w v w' hm ⟨o_68, cap_69, sp_70, _, rfl, hs_71, ho_72, rfl, hm'⟩
      refine ⟨_, hm.app hm', jkO ?_⟩
      clear hm hm'
      obtain ⟨t_12, ht_73, h⟩ := bd h
      refine tO (pc 0 (fun w hm => laws_eqTune.calls t_7 t_11 w _ cap_30 (hm.ow 5 o_29 104 t_7 sp_31 (fun e => (ho_33 e).1) encGNote_len) rfl cap_69 (hm.ow 7 o_68 104 t_11 sp_70 (fun e => (ho_72 e).1) encGNote_len) rfl ht_73) ?_)
      rintro w v w' hm ⟨rfl, hm'⟩
      refine ⟨_, hm.app hm', jkO ?_⟩
      clear hm hm'
      refine qh [0] (qe (jx_then (qi h (fun h => ?_) (fun h => ?_))))
      ·refine jc_seq (jc_region (qh [0] (qe (jx_then (jc_ret (jx_thenr ?_))))))
       obtain rfl := Option.some.inj h
       exact qr [] (fun w hm => ⟨rfl, hm.pk []⟩)
      ·refine jc_skip (jx_then (jc_seq (jc_region (qh [0] (qe (jx_then (jc_ret ?_)))))))
       obtain rfl := Option.some.inj h
       exact qr [] (fun w hm => ⟨rfl, hm.pk []⟩)
end

end Go.Proofs.Yteedohcicmgkaaa
