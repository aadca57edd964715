/- Functions of the program that the laws reach: a plain function each, and that the call comes to its answer if the plain function has one. Printed by a program. -/
import Derived.Test.YteedohcicmgkaaaT
import Derived.Test.YteedohcicmgkaaaTab
namespace Go.Proofs.Yteedohcicmgkaaa
open Eng
set_option linter.unusedVariables false

set_option linter.unusedSectionVars false
set_option maxRecDepth 100000
variable [dsW : DrwS]
noncomputable section
/-! ### laws.szHammerS -/
def laws_szHammerS (a0 : List GHammer) (left1 : Int) : Option (Int) := (if (decide ((w64 (left1 - (a0.length : Int))) < 0)) = true then some (-1) else some (w64 (left1 - (a0.length : Int))))
theorem laws_szHammerS.calls (a0 : List GHammer) (left1 : Int) (w : World) (r : Int) {A_a : Option Addr} {A_an : Nat} (A_c : Nat) (A_h : Rw w A_a 2 encGHammer a0) (A_hn : a0.length = A_an) (h : laws_szHammerS a0 left1 = some r) :
    Calls Try.prog 48 #[(.slice A_a A_an A_c), (.int .i64 left1)] w fun e w' => ∃ v, e = .returned v ∧ (v = (.int .i64 r) ∧ Mem w [] [] w') := by
  subst A_hn
  rw [laws_szHammerS] at h
  refine enter (args := [(.slice A_a a0.length A_c), (.int .i64 left1)]) Try.func48 rfl Try.ntmps48 (by kernel_rfl) (L := []) (W := []) (Mem.start w) ?_
  refine jc_seq (jc_region (qh [0] (qe (jx_then (jc_seq (jc_region (qh [0,0,0,0,0] (qe (jx_then (jc_seq (jc_seq (jc_region (qh [0,0] (qe (jx_then (qi h (fun h => ?_) (fun h => ?_)))))))))))))))))
  ·refine jc_seq (jc_region (qh [0] (qe (jx_then (jc_ret (jx_thenr ?_))))))
   obtain rfl := Option.some.inj h
   exact qr [] (fun w hm => ⟨rfl, hm.pk []⟩)
  ·refine jc_skip (jx_then (jc_seq (jc_region (qh [0,0] (qe (jx_then (jc_ret ?_)))))))
   obtain rfl := Option.some.inj h
   exact qr [] (fun w hm => ⟨rfl, hm.pk []⟩)
/-! ### laws.szFrame -/
def laws_szFrame (a0 : GFrame) (left1 : Int) : Option (Int) := (laws_szHammerS a0.fHammers left1).bind fun t_1 => (if (decide (t_1 < 0)) = true then some (-1) else some t_1)
theorem laws_szFrame.calls (a0 : GFrame) (left1 : Int) (w : World) (r : Int) {C_a : Option Addr} {C_an : Nat} (C_c : Nat) (C_h : Rw w C_a 2 encGHammer a0.fHammers) (C_hn : a0.fHammers.length = C_an) (h : laws_szFrame a0 left1 = some r) :
    Calls Try.prog 10 #[(.agg #[(.int .i16 a0.fSteps), (.slice C_a C_an C_c)]), (.int .i64 left1)] w fun e w' => ∃ v, e = .returned v ∧ (v = (.int .i64 r) ∧ Mem w [] [] w') := by
  subst C_hn
  rw [laws_szFrame] at h
  refine enter (args := [(.agg #[(.int .i16 a0.fSteps), (.slice C_a a0.fHammers.length C_c)]), (.int .i64 left1)]) Try.func10 rfl Try.ntmps10 (by kernel_rfl) (L := []) (W := []) (Mem.start w) ?_
  refine jc_seq (jc_region (tO (qa 0 (fun b_1 => jkO (qh [0] (qe (jx_then (jc_seq (jc_region (qh [0,0,0] ?_))))))))))
  obtain ⟨t_1, ht_2, h⟩ := bd h
  refine tO (pc 0 (fun w hm => laws_szHammerS.calls a0.fHammers left1 w _ C_c (hm.xr C_h) rfl ht_2) ?_)
  rintro w v w' hm ⟨rfl, hm'⟩
  refine ⟨_, hm.app hm', jkO ?_⟩
  clear hm hm'
  refine qh [0] (qe (jx_then (jc_seq (jc_seq (jc_region (qh [0,0] (qe (jx_then (qi h (fun h => ?_) (fun h => ?_))))))))))
  ·refine jc_seq (jc_region (qh [0] (qe (jx_then (jc_ret (jx_thenr ?_))))))
   obtain rfl := Option.some.inj h
   exact qr [] (fun w hm => ⟨rfl, hm.pk []⟩)
  ·refine jc_skip (jx_then (jc_seq (jc_region (qh [0,0] (qe (jx_then (jc_ret ?_)))))))
   obtain rfl := Option.some.inj h
   exact qr [] (fun w hm => ⟨rfl, hm.pk []⟩)
/-! ### laws.szDrumS -/
def laws_szDrumS (a0 : List (Arr 96 Int)) (left1 : Int) : Option (Int) := (if (decide ((w64 (left1 - (a0.length : Int))) < 0)) = true then some (-1) else some (w64 (left1 - (a0.length : Int))))
theorem laws_szDrumS.calls (a0 : List (Arr 96 Int)) (left1 : Int) (w : World) (r : Int) {A_a : Option Addr} {A_an : Nat} (A_c : Nat) (A_h : Rw w A_a 96 encA96U32 a0) (A_hn : a0.length = A_an) (h : laws_szDrumS a0 left1 = some r) :
    Calls Try.prog 11 #[(.slice A_a A_an A_c), (.int .i64 left1)] w fun e w' => ∃ v, e = .returned v ∧ (v = (.int .i64 r) ∧ Mem w [] [] w') := by
  subst A_hn
  rw [laws_szDrumS] at h
  refine enter (args := [(.slice A_a a0.length A_c), (.int .i64 left1)]) Try.func11 rfl Try.ntmps11 (by kernel_rfl) (L := []) (W := []) (Mem.start w) ?_
  refine jc_seq (jc_region (qh [0] (qe (jx_then (jc_seq (jc_region (qh [0,0,0,0,0] (qe (jx_then (jc_seq (jc_seq (jc_region (qh [0,0] (qe (jx_then (qi h (fun h => ?_) (fun h => ?_)))))))))))))))))
  ·refine jc_seq (jc_region (qh [0] (qe (jx_then (jc_ret (jx_thenr ?_))))))
   obtain rfl := Option.some.inj h
   exact qr [] (fun w hm => ⟨rfl, hm.pk []⟩)
  ·refine jc_skip (jx_then (jc_seq (jc_region (qh [0,0] (qe (jx_then (jc_ret ?_)))))))
   obtain rfl := Option.some.inj h
   exact qr [] (fun w hm => ⟨rfl, hm.pk []⟩)
/-! ### laws.toHammer -/
def laws_toHammer (a0 : GHammer) : Option (GHammer) := some a0
theorem laws_toHammer.calls (a0 : GHammer) (w : World) (r : GHammer) (h : laws_toHammer a0 = some r) :
    Calls Try.prog 105 #[(.agg #[(.int .i8 a0.fPitch), (.int .i8 a0.fReady)])] w fun e w' => ∃ v, e = .returned v ∧ (v = .agg #[(.int .i8 r.fPitch), (.int .i8 r.fReady)] ∧ Mem w [] [] w') := by
  rw [laws_toHammer] at h
  refine enter (args := [(.agg #[(.int .i8 a0.fPitch), (.int .i8 a0.fReady)])]) Try.func105 rfl Try.ntmps105 (by kernel_rfl) (L := []) (W := []) (Mem.start w) ?_
  refine jc_seq (jc_region (tO (qa 0 (fun b_1 => jkO (tO (qa 0 (fun b_2 => jkO (qe (jx_then (jc_seq (jc_region (tO (qa 0 (fun b_3 => jkO (qe (jx_then (jc_seq (jc_region (qh [0,0,0] (tO (qs 0 [2] (jkO (qe (jx_then (jc_seq (jc_region (qh [0,0,0] (tO (qs 0 [2] (jkO (qe (jx_then (jc_seq (jc_region (qh [2] (tO (qs 0 [1] (jkO (qe (jx_then (jc_ret ?_)))))))))))))))))))))))))))))))))))))))))
  obtain rfl := Option.some.inj h
  exact qr [1] (fun w hm => ⟨rfl, hm.pk []⟩)
/-! ### laws.toHammerS -/
def laws_toHammerS.k_2 (xs_1 : List GHammer) : Option ((List GHammer)) := some xs_1
def laws_toHammerS.l_5 (a0 : List GHammer) : ((List GHammer) × Int) → Option (((List GHammer) × Int) ⊕ ((List GHammer)))
  | (xs_3, i_4) => (if (decide (i_4 < (a0.length : Int))) = true then (ix a0 i_4).bind fun x_7 => (laws_toHammer x_7).bind fun t_8 => (ix xs_3 i_4).bind fun x_9 => some (.inl ((xs_3.set i_4.toNat t_8), (w64 (i_4 + 1)))) else some (.inr xs_3))
def laws_toHammerS (a0 : List GHammer) : Option ((List GHammer)) := (if 0 ≤ (a0.length : Int) ∧ (a0.length : Int) ≤ 70368744177664 then (loop (laws_toHammerS.l_5 a0) ((List.replicate (a0.length : Int).toNat (⟨0, 0⟩ : GHammer)), 0)).bind fun t_6 => laws_toHammerS.k_2 t_6 else none)
theorem laws_toHammerS.calls (a0 : List GHammer) (w : World) (r : (List GHammer)) {A_a : Option Addr} {A_an : Nat} (A_c : Nat) (A_h : Rw w A_a 2 encGHammer a0) (A_hn : a0.length = A_an) (h : laws_toHammerS a0 = some r) :
    Calls Try.prog 52 #[(.slice A_a A_an A_c)] w fun e w' => ∃ v, e = .returned v ∧ (∃ (o0 : Option Nat) (c0 : Nat) (s0 : List Value) (n0 : Nat), r.length = n0 ∧ (o0 ≠ none → n0 ≤ c0 ∧ s0.length = (c0 - n0) * 2) ∧ (o0 = none → r = [] ∧ c0 = 0) ∧ v = .slice (o0.map fun b => ⟨b, 0, none⟩) n0 c0 ∧ Mem w [] [⟨o0, 110, row encGHammer r s0⟩] w') := by
  subst A_hn
  rw [laws_toHammerS] at h
  refine enter (args := [(.slice A_a a0.length A_c)]) Try.func52 rfl Try.ntmps52 (by kernel_rfl) (L := []) (W := []) (Mem.start w) ?_
  refine jc_seq (jc_region (qh [0] (qe (jx_then (jc_seq (jc_region (qh [0,0] ?_)))))))
  obtain ⟨hg_88, h⟩ := gd h
  refine tO (p_mk 0 110 (a0.length : Int) 2 2 encGHammer (⟨0, 0⟩ : GHammer) (by kernel_rfl) (by kernel_rfl) hg_88.1 (by omega) (by kernel_rfl) (fun b_1 => jkO (qh [0] (qe (jx_then (jc_seq (jc_seq (jc_region (qh [0] (qe (jx_then (jc_meet (fun (j : (List GHammer)) => match j with | xs_1 => laws_toHammerS.k_2 xs_1 = some r ∧ (xs_1.length = (a0.length : Int).toNat)) (fun (j : (List GHammer)) => match j with | xs_1 => [(2, [], (.slice none 0 0)), (3, [], (.slice (some ⟨b_1, 0, none⟩) ((a0.length : Int).toNat) ((a0.length : Int).toNat)))]) (fun (j : (List GHammer)) => match j with | xs_1 => [⟨(some b_1), 110, row encGHammer xs_1 []⟩]) ?_ ?_))))))))))))
  ·refine jc_block ?_
   obtain ⟨t_6, ht_87, hr_79⟩ := bd h
   refine jc_loop (fun (s : (List GHammer) × Int) (x : Unit) => match s, x with | ⟨xs_3, i_4⟩, _ => (xs_3.length = (a0.length : Int).toNat)) (fun (s : (List GHammer) × Int) (x : Unit) => match s, x with | ⟨xs_3, i_4⟩, _ => [(0, [], (.slice A_a a0.length A_c)), (2, [], (.slice none 0 0)), (3, [], (.slice (some ⟨b_1, 0, none⟩) ((a0.length : Int).toNat) ((a0.length : Int).toNat))), (4, [], (.int .i64 i_4))]) (fun (s : (List GHammer) × Int) (x : Unit) => match s, x with | ⟨xs_3, i_4⟩, _ => [⟨(some b_1), 110, row encGHammer xs_3 []⟩]) ht_87 () List.length_replicate (by kernel_rfl) [0] (by kernel_rfl) (by kernel_rfl) ?_
   rintro ⟨xs_3, i_4⟩ _ y_80 hn_78 h
   rw [laws_toHammerS.l_5] at h
   refine jc_seq (jc_seq (jc_region (qh [0,0,0,0] (qe (jx_then (qi h (fun h => ?_) (fun h => ?_)))))))
   ·refine jc_skip (jx_then (jc_seq (jc_block (jc_region (qh [0,0,0,0] ?_)))))
    obtain ⟨x_7, hx_83, h⟩ := bd h
    refine tO (qx 0 A_a 2 hx_83 rfl (A_h.sp hx_83) (jkO (tO (ql 0 true (fun w hm => ((hm.xr A_h).at hx_83)) (jkO ?_)))))
    obtain ⟨t_8, ht_84, h⟩ := bd h
    refine tO (pc 0 (fun w hm => laws_toHammer.calls x_7 w _ ht_84) ?_)
    rintro w v w' hm ⟨rfl, hm'⟩
    refine ⟨_, hm.app hm', jkO ?_⟩
    clear hm hm'
    obtain ⟨x_9, hx_85, h⟩ := bd h
    exact tO (qx 0 (some ⟨b_1, 0, none⟩) 2 hx_85 hn_78 rfl (jkO (tO (p_str 0 0 b_1 110 encGHammer xs_3 [] i_4 t_8 2 0 [(.int .i8 t_8.fPitch), (.int .i8 t_8.fReady)] (by kernel_rfl) (by kernel_rfl) (by kernel_rfl) encGHammer_len hx_85 (by kernel_rfl) (by kernel_rfl) (jkO (qe (jx_inn (jx_then (jc_region (qh [0,0,0] (qe (qb ((xs_3.set i_4.toNat t_8), (w64 (i_4 + 1))) () h (List.length_set.trans hn_78) [0]))))))))))))
   ·refine jc_exit (jx_thenx (jx_leave xs_3 (Option.some.inj h).symm (fun e_86 => ?_)))
    subst e_86
    exact jx_ine (qm xs_3 ⟨hr_79, hn_78⟩ [0])
  ·rintro xs_1 ⟨h, hn_66⟩
   replace h : laws_toHammerS.k_2 xs_1 = some r := h
   rw [laws_toHammerS.k_2] at h
   refine jx_then (jc_seq (jc_region (qh [0,0] (qe (jx_then (jc_ret ?_))))))
   obtain rfl := Option.some.inj h
   exact qr [] (fun w hm => ⟨(some b_1), ((a0.length : Int).toNat), [], ((a0.length : Int).toNat), hn_66, (fun _ => ⟨Nat.le_refl _, by simp⟩), (fun e => nomatch e), rfl, hm.pk [0]⟩)
/-! ### laws.toFrame -/
def laws_toFrame (a0 : GFrame) : Option (GFrame) := (laws_toHammerS a0.fHammers).bind fun t_1 => some (⟨a0.fSteps, t_1⟩ : GFrame)
theorem laws_toFrame.calls (a0 : GFrame) (w : World) (r : GFrame) {C_a : Option Addr} {C_an : Nat} (C_c : Nat) (C_h : Rw w C_a 2 encGHammer a0.fHammers) (C_hn : a0.fHammers.length = C_an) (h : laws_toFrame a0 = some r) :
    Calls Try.prog 13 #[(.agg #[(.int .i16 a0.fSteps), (.slice C_a C_an C_c)])] w fun e w' => ∃ v, e = .returned v ∧ (∃ (o0 : Option Nat) (c0 : Nat) (s0 : List Value) (n0 : Nat), r.fHammers.length = n0 ∧ (o0 ≠ none → n0 ≤ c0 ∧ s0.length = (c0 - n0) * 2) ∧ (o0 = none → r.fHammers = [] ∧ c0 = 0) ∧ v = .agg #[(.int .i16 r.fSteps), .slice (o0.map fun b => ⟨b, 0, none⟩) n0 c0] ∧ Mem w [] [⟨o0, 110, row encGHammer r.fHammers s0⟩] w') := by
  subst C_hn
  rw [laws_toFrame] at h
  refine enter (args := [(.agg #[(.int .i16 a0.fSteps), (.slice C_a a0.fHammers.length C_c)])]) Try.func13 rfl Try.ntmps13 (by kernel_rfl) (L := []) (W := []) (Mem.start w) ?_
  refine jc_seq (jc_region (tO (qa 0 (fun b_1 => jkO (tO (qa 0 (fun b_2 => jkO (qe (jx_then (jc_seq (jc_region (tO (qa 0 (fun b_3 => jkO (qe (jx_then (jc_seq (jc_region (qh [0,0,0] (tO (qs 0 [2] (jkO (qe (jx_then (jc_seq (jc_region (qh [0,0] ?_)))))))))))))))))))))))))))
  obtain ⟨t_1, ht_4, h⟩ := bd h
  refine tO (pc 0 (fun w hm => laws_toHammerS.calls a0.fHammers w _ C_c (hm.xr C_h) rfl ht_4) ?_)
  rintro w v w' hm ⟨o_5, cap_6, sp_7, _, rfl, hs_8, ho_9, rfl, hm'⟩
  refine ⟨_, hm.app hm', jkO ?_⟩
  clear hm hm'
  refine qh [0] (tO (qs 0 [2] (jkO (qe (jx_then (jc_seq (jc_region (qh [2] (tO (qs 0 [1] (jkO (qe (jx_then (jc_ret ?_))))))))))))))
  obtain rfl := Option.some.inj h
  exact qr [1] (fun w hm => ⟨o_5, cap_6, sp_7, t_1.length, rfl, hs_8, ho_9, rfl, hm.pk [3]⟩)
/-! ### laws.toDrum -/
def laws_toDrum.k_2 (a_1 : Arr 96 Int) : Option ((Arr 96 Int)) := some a_1
def laws_toDrum.l_5 (a0 : Arr 96 Int) : ((Arr 96 Int) × Int) → Option (((Arr 96 Int) × Int) ⊕ ((Arr 96 Int)))
  | (a_3, i_4) => (if (decide (i_4 < 96)) = true then (ix a0.1 i_4).bind fun x_7 => (ix a_3.1 i_4).bind fun x_8 => some (.inl ((Arr.set a_3 i_4 x_7), (w64 (i_4 + 1)))) else some (.inr a_3))
def laws_toDrum (a0 : Arr 96 Int) : Option ((Arr 96 Int)) := (loop (laws_toDrum.l_5 a0) ((Arr.rep 96 0), 0)).bind fun t_6 => laws_toDrum.k_2 t_6
theorem laws_toDrum.calls (a0 : Arr 96 Int) (w : World) (r : (Arr 96 Int)) (h : laws_toDrum a0 = some r) :
    Calls Try.prog 53 #[(.agg (row encU32 a0.1 []).toArray)] w fun e w' => ∃ v, e = .returned v ∧ (v = (.agg (row encU32 r.1 []).toArray) ∧ Mem w [] [] w') := by
  rw [laws_toDrum] at h
  refine enter (args := [(.agg (row encU32 a0.1 []).toArray)]) Try.func53 rfl Try.ntmps53 (by kernel_rfl) (L := []) (W := []) (Mem.start w) ?_
  refine jc_seq (jc_region (tO (qa 0 (fun b_1 => jkO (tO (qa 0 (fun b_2 => jkO (qe (jx_then (jc_seq (jc_region (tO (qa 0 (fun b_3 => jkO (qe (jx_then (jc_seq (jc_seq (jc_region (qh [0] (qe (jx_then (jc_meet (fun (j : (Arr 96 Int)) => match j with | a_1 => laws_toDrum.k_2 a_1 = some r) (fun (j : (Arr 96 Int)) => match j with | a_1 => [(2, [], (.pointer (some ⟨b_2, 0, none⟩))), (3, [], (.pointer (some ⟨b_3, 0, none⟩)))]) (fun (j : (Arr 96 Int)) => match j with | a_1 => [⟨(some b_1), 87, row encU32 a0.1 []⟩, ⟨(some b_2), 88, row encU32 ((Arr.rep 96 0).1) []⟩, ⟨(some b_3), 88, row encU32 a_1.1 []⟩]) ?_ ?_)))))))))))))))))))))))
  ·refine jc_block ?_
   obtain ⟨t_6, ht_67, hr_60⟩ := bd h
   refine jc_loop (fun (s : (Arr 96 Int) × Int) (x : Unit) => match s, x with | ⟨a_3, i_4⟩, _ => True) (fun (s : (Arr 96 Int) × Int) (x : Unit) => match s, x with | ⟨a_3, i_4⟩, _ => [(1, [], (.pointer (some ⟨b_1, 0, none⟩))), (2, [], (.pointer (some ⟨b_2, 0, none⟩))), (3, [], (.pointer (some ⟨b_3, 0, none⟩))), (4, [], (.int .i64 i_4))]) (fun (s : (Arr 96 Int) × Int) (x : Unit) => match s, x with | ⟨a_3, i_4⟩, _ => [⟨(some b_1), 87, row encU32 a0.1 []⟩, ⟨(some b_2), 88, row encU32 ((Arr.rep 96 0).1) []⟩, ⟨(some b_3), 88, row encU32 a_3.1 []⟩]) ht_67 () trivial (by kernel_rfl) [0, 1, 2] (by kernel_rfl) (by kernel_rfl) ?_
   rintro ⟨a_3, i_4⟩ _ y_61 _ h
   rw [laws_toDrum.l_5] at h
   refine jc_seq (jc_seq (jc_region (qh [0,0] (qe (jx_then (qi h (fun h => ?_) (fun h => ?_)))))))
   ·refine jc_skip (jx_then (jc_seq (jc_block (jc_region (qh [0,0] ?_)))))
    obtain ⟨x_7, hx_64, h⟩ := bd h
    refine tO (qx 0 (some ⟨b_1, 0, none⟩) 1 hx_64 a0.2 rfl (jkO (tO (ql 0 false (fun w hm => ((hm.ow 0 (some b_1) 87 a0.1 [] (fun e => nomatch e) encU32_len).at hx_64)) (jkO ?_)))))
    obtain ⟨x_8, hx_65, h⟩ := bd h
    exact tO (qx 0 (some ⟨b_3, 0, none⟩) 1 hx_65 a_3.2 rfl (jkO (tO (p_str 0 2 b_3 88 encU32 a_3.1 [] i_4 x_7 1 0 [(.int .u32 x_7)] (by kernel_rfl) (by kernel_rfl) (by kernel_rfl) encU32_len hx_65 (by kernel_rfl) (by kernel_rfl) (jkO (qe (jx_inn (jx_then (jc_region (qh [0,0,0] (qe (qb ((Arr.set a_3 i_4 x_7), (w64 (i_4 + 1))) () h trivial [0, 1, 2]))))))))))))
   ·refine jc_exit (jx_thenx (jx_leave a_3 (Option.some.inj h).symm (fun e_66 => ?_)))
    subst e_66
    exact jx_ine (qm a_3 hr_60 [0, 1, 2])
  ·rintro a_1 h
   replace h : laws_toDrum.k_2 a_1 = some r := h
   rw [laws_toDrum.k_2] at h
   refine jx_then (jc_seq (jc_region (tO (p_ldA 0 2 b_3 96 1 88 encU32 a_1 (by kernel_rfl) (by kernel_rfl) (by kernel_rfl) encU32_len (by kernel_rfl) (jkO (tO (p_sA 0 1 b_2 96 1 88 encU32 (Arr.rep 96 0) a_1 (by kernel_rfl) (by kernel_rfl) (by kernel_rfl) encU32_len encU32_cell (by kernel_rfl) (jkO (qe (jx_then (jc_ret ?_)))))))))))
   obtain rfl := Option.some.inj h
   exact jx_retV rfl (rq_arr (b := b_2) (T' := 88) (hh := 1) (mm := 1) encU32 a_1 (by kernel_rfl) (by kernel_rfl) encU32_len (by kernel_rfl) rq_nil) (fun w hm => ⟨rfl, hm.pk []⟩)
/-! ### laws.toDrumS -/
def laws_toDrumS.k_2 (xs_1 : List (Arr 96 Int)) : Option ((List (Arr 96 Int))) := some xs_1
def laws_toDrumS.l_5 (a0 : List (Arr 96 Int)) : ((List (Arr 96 Int)) × Int) → Option (((List (Arr 96 Int)) × Int) ⊕ ((List (Arr 96 Int))))
  | (xs_3, i_4) => (if (decide (i_4 < (a0.length : Int))) = true then (ix a0 i_4).bind fun x_7 => (laws_toDrum x_7).bind fun t_8 => (ix xs_3 i_4).bind fun x_9 => some (.inl ((xs_3.set i_4.toNat t_8), (w64 (i_4 + 1)))) else some (.inr xs_3))
def laws_toDrumS (a0 : List (Arr 96 Int)) : Option ((List (Arr 96 Int))) := (if 0 ≤ (a0.length : Int) ∧ (a0.length : Int) ≤ 366503875925 then (loop (laws_toDrumS.l_5 a0) ((List.replicate (a0.length : Int).toNat (Arr.rep 96 0)), 0)).bind fun t_6 => laws_toDrumS.k_2 t_6 else none)
theorem laws_toDrumS.calls (a0 : List (Arr 96 Int)) (w : World) (r : (List (Arr 96 Int))) {A_a : Option Addr} {A_an : Nat} (A_c : Nat) (A_h : Rw w A_a 96 encA96U32 a0) (A_hn : a0.length = A_an) (h : laws_toDrumS a0 = some r) :
    Calls Try.prog 14 #[(.slice A_a A_an A_c)] w fun e w' => ∃ v, e = .returned v ∧ (∃ (o0 : Option Nat) (c0 : Nat) (s0 : List Value) (n0 : Nat), r.length = n0 ∧ (o0 ≠ none → n0 ≤ c0 ∧ s0.length = (c0 - n0) * 96) ∧ (o0 = none → r = [] ∧ c0 = 0) ∧ v = .slice (o0.map fun b => ⟨b, 0, none⟩) n0 c0 ∧ Mem w [] [⟨o0, 88, row encA96U32 r s0⟩] w') := by
  subst A_hn
  rw [laws_toDrumS] at h
  refine enter (args := [(.slice A_a a0.length A_c)]) Try.func14 rfl Try.ntmps14 (by kernel_rfl) (L := []) (W := []) (Mem.start w) ?_
  refine jc_seq (jc_region (qh [0] (qe (jx_then (jc_seq (jc_region (qh [0,0] ?_)))))))
  obtain ⟨hg_88, h⟩ := gd h
  refine tO (p_mk 0 88 (a0.length : Int) 96 384 encA96U32 (Arr.rep 96 0) (by kernel_rfl) (by kernel_rfl) hg_88.1 (by omega) (by kernel_rfl) (fun b_1 => jkO (qh [0] (qe (jx_then (jc_seq (jc_seq (jc_region (qh [0] (qe (jx_then (jc_meet (fun (j : (List (Arr 96 Int))) => match j with | xs_1 => laws_toDrumS.k_2 xs_1 = some r ∧ (xs_1.length = (a0.length : Int).toNat)) (fun (j : (List (Arr 96 Int))) => match j with | xs_1 => [(2, [], (.slice none 0 0)), (3, [], (.slice (some ⟨b_1, 0, none⟩) ((a0.length : Int).toNat) ((a0.length : Int).toNat)))]) (fun (j : (List (Arr 96 Int))) => match j with | xs_1 => [⟨(some b_1), 88, row encA96U32 xs_1 []⟩]) ?_ ?_))))))))))))
  ·refine jc_block ?_
   obtain ⟨t_6, ht_87, hr_79⟩ := bd h
   refine jc_loop (fun (s : (List (Arr 96 Int)) × Int) (x : Unit) => match s, x with | ⟨xs_3, i_4⟩, _ => (xs_3.length = (a0.length : Int).toNat)) (fun (s : (List (Arr 96 Int)) × Int) (x : Unit) => match s, x with | ⟨xs_3, i_4⟩, _ => [(0, [], (.slice A_a a0.length A_c)), (2, [], (.slice none 0 0)), (3, [], (.slice (some ⟨b_1, 0, none⟩) ((a0.length : Int).toNat) ((a0.length : Int).toNat))), (4, [], (.int .i64 i_4))]) (fun (s : (List (Arr 96 Int)) × Int) (x : Unit) => match s, x with | ⟨xs_3, i_4⟩, _ => [⟨(some b_1), 88, row encA96U32 xs_3 []⟩]) ht_87 () List.length_replicate (by kernel_rfl) [0] (by kernel_rfl) (by kernel_rfl) ?_
   rintro ⟨xs_3, i_4⟩ _ y_80 hn_78 h
   rw [laws_toDrumS.l_5] at h
   refine jc_seq (jc_seq (jc_region (qh [0,0,0,0] (qe (jx_then (qi h (fun h => ?_) (fun h => ?_)))))))
   ·refine jc_skip (jx_then (jc_seq (jc_block (jc_region (qh [0,0,0,0] ?_)))))
    obtain ⟨x_7, hx_83, h⟩ := bd h
    refine tO (qx 0 A_a 96 hx_83 rfl (A_h.sp hx_83) (jkO (tO (p_ldx 0 (aB A_a) (aO A_a + i_4.toNat * 96) (encA96U32 x_7) 96 (by kernel_rfl) (by kernel_rfl) (encA96U32_len x_7) (fun w hm => ((hm.xr A_h).at hx_83)) (jkO ?_)))))
    obtain ⟨t_8, ht_84, h⟩ := bd h
    refine tO (pc 0 (fun w hm => laws_toDrum.calls x_7 w _ ht_84) ?_)
    rintro w v w' hm ⟨rfl, hm'⟩
    refine ⟨_, hm.app hm', jkO ?_⟩
    clear hm hm'
    obtain ⟨x_9, hx_85, h⟩ := bd h
    exact tO (qx 0 (some ⟨b_1, 0, none⟩) 96 hx_85 hn_78 rfl (jkO (tO (p_strW 0 0 b_1 88 encA96U32 xs_3 [] i_4 t_8 96 (by kernel_rfl) (by kernel_rfl) (by kernel_rfl) encA96U32_len encA96U32_cell hx_85 (jkO (qe (jx_inn (jx_then (jc_region (qh [0,0,0] (qe (qb ((xs_3.set i_4.toNat t_8), (w64 (i_4 + 1))) () h (List.length_set.trans hn_78) [0]))))))))))))
   ·refine jc_exit (jx_thenx (jx_leave xs_3 (Option.some.inj h).symm (fun e_86 => ?_)))
    subst e_86
    exact jx_ine (qm xs_3 ⟨hr_79, hn_78⟩ [0])
  ·rintro xs_1 ⟨h, hn_66⟩
   replace h : laws_toDrumS.k_2 xs_1 = some r := h
   rw [laws_toDrumS.k_2] at h
   refine jx_then (jc_seq (jc_region (qh [0,0] (qe (jx_then (jc_ret ?_))))))
   obtain rfl := Option.some.inj h
   exact qr [] (fun w hm => ⟨(some b_1), ((a0.length : Int).toNat), [], ((a0.length : Int).toNat), hn_66, (fun _ => ⟨Nat.le_refl _, by simp⟩), (fun e => nomatch e), rfl, hm.pk [0]⟩)
/-! ### spec.l00In -/
def spec_l00In (n0 : Int) (low1 : Int) (high2 : Int) : Option (Bool) := some ((decide (n0 ≥ low1)) && (decide (n0 ≤ high2)))
theorem spec_l00In.calls (n0 : Int) (low1 : Int) (high2 : Int) (w : World) (r : Bool) (h : spec_l00In n0 low1 high2 = some r) :
    Calls Try.prog 78 #[(.int .i64 n0), (.int .i64 low1), (.int .i64 high2)] w fun e w' => ∃ v, e = .returned v ∧ (v = (.bool r) ∧ Mem w [] [] w') := by
  rw [spec_l00In] at h
  refine enter (args := [(.int .i64 n0), (.int .i64 low1), (.int .i64 high2)]) Try.func78 rfl Try.ntmps78 (by kernel_rfl) (L := []) (W := []) (Mem.start w) ?_
  refine jc_seq (jc_region (qh [0] (qe (jx_then (jc_seq (jc_region (qf [(0, 0), (0, 0), (0, 0), (0, 0), (0, 1), (0, 1), (0, 1), (0, 0), (0, 0)] (qe (jx_then (jc_ret ?_))))))))))
  obtain rfl := Option.some.inj h
  exact qr [] (fun w hm => ⟨rfl, hm.pk []⟩)
/-! ### spec.l00Min -/
def spec_l00Min (a0 : Int) (b1 : Int) : Option (Int) := (if (decide (a0 < b1)) = true then some a0 else some b1)
theorem spec_l00Min.calls (a0 : Int) (b1 : Int) (w : World) (r : Int) (h : spec_l00Min a0 b1 = some r) :
    Calls Try.prog 146 #[(.int .i64 a0), (.int .i64 b1)] w fun e w' => ∃ v, e = .returned v ∧ (v = (.int .i64 r) ∧ Mem w [] [] w') := by
  rw [spec_l00Min] at h
  refine enter (args := [(.int .i64 a0), (.int .i64 b1)]) Try.func146 rfl Try.ntmps146 (by kernel_rfl) (L := []) (W := []) (Mem.start w) ?_
  refine jc_seq (jc_region (qh [0] (qe (jx_then (jc_seq (jc_seq (jc_region (qh [0,0,0] (qe (jx_then (qi h (fun h => ?_) (fun h => ?_))))))))))))
  ·refine jc_seq (jc_region (qh [0,0] (qe (jx_then (jc_ret (jx_thenr ?_))))))
   obtain rfl := Option.some.inj h
   exact qr [] (fun w hm => ⟨rfl, hm.pk []⟩)
  ·refine jc_skip (jx_then (jc_seq (jc_region (qh [0,0] (qe (jx_then (jc_ret ?_)))))))
   obtain rfl := Option.some.inj h
   exact qr [] (fun w hm => ⟨rfl, hm.pk []⟩)
/-! ### spec.l02Frame -/
def spec_l02Frame.k_3 : Option (Bool) := some true
def spec_l02Frame.k_9 (i_4 : Int) (q_8 : Bool) : Option ((Int) ⊕ (Bool ⊕ Unit)) := (if q_8 = true then some (.inr (.inl false)) else some (.inl (w64 (i_4 + 1))))
def spec_l02Frame.l_5 (f0 : GFrame) : Int → Option ((Int) ⊕ (Bool ⊕ Unit))
  | i_4 => (if (decide (i_4 < (f0.fHammers.length : Int))) = true then (ix f0.fHammers i_4).bind fun x_7 => (spec_l00In (w64 x_7.fPitch) 0 47).bind fun t_10 => (if (!t_10) = true then spec_l02Frame.k_9 i_4 true else (spec_l00Min 20 (w64 f0.fSteps)).bind fun t_11 => (spec_l00In (w64 x_7.fReady) 1 t_11).bind fun t_12 => spec_l02Frame.k_9 i_4 (!t_12)) else some (.inr (.inr ())))
def spec_l02Frame.k_2 (f0 : GFrame) (q_1 : Bool) : Option (Bool) := (if q_1 = true then some false else (loop (spec_l02Frame.l_5 f0) 0).bind fun t_6 => match t_6 with | .inl p => some p | .inr p => spec_l02Frame.k_3)
def spec_l02Frame (f0 : GFrame) : Option (Bool) := (spec_l00In (w64 f0.fSteps) 2 96).bind fun t_13 => (if (!t_13) = true then spec_l02Frame.k_2 f0 true else (spec_l00In (f0.fHammers.length : Int) 1 24).bind fun t_14 => spec_l02Frame.k_2 f0 (!t_14))
theorem spec_l02Frame.calls (f0 : GFrame) (w : World) (r : Bool) {C_a : Option Addr} {C_an : Nat} (C_c : Nat) (C_h : Rw w C_a 2 encGHammer f0.fHammers) (C_hn : f0.fHammers.length = C_an) (A_b : Nat) (hm0 : Mem w (bs [some A_b]) [⟨some A_b, 34, [(.int .i16 f0.fSteps), (.slice C_a C_an C_c)]⟩] w) (C_ha : f0.fHammers ≠ [] → aB C_a ∉ bs [some A_b]) (h : spec_l02Frame f0 = some r) :
    Calls Try.prog 110 #[(.pointer (some ⟨A_b, 0, none⟩))] w fun e w' => ∃ v, e = .returned v ∧ (v = (.bool r) ∧ Mem w (bs [some A_b]) [⟨some A_b, 34, [(.int .i16 f0.fSteps), (.slice C_a C_an C_c)]⟩] w') := by
  subst C_hn
  rw [spec_l02Frame] at h
  refine enter (args := [(.pointer (some ⟨A_b, 0, none⟩))]) Try.func110 rfl Try.ntmps110 (by kernel_rfl) (L := [⟨some A_b, 34, [(.int .i16 f0.fSteps), (.slice C_a f0.fHammers.length C_c)]⟩]) (W := bs [some A_b]) hm0 ?_
  refine jc_seq (jc_region (qh [0] (qe (jx_then (jc_seq (jc_seq (jc_meet (fun (j : Bool) => match j with | q_1 => spec_l02Frame.k_2 f0 q_1 = some r) (fun (j : Bool) => match j with | q_1 => [(0, [], (.pointer (some ⟨A_b, 0, none⟩))), (2, [], (.bool false)), (20, [], (.bool q_1))]) (fun (j : Bool) => match j with | q_1 => [⟨some A_b, 34, [(.int .i16 f0.fSteps), (.slice C_a f0.fHammers.length C_c)]⟩]) ?_ ?_)))))))
  ·refine jc_region (qh [0,0,0,0,0] ?_)
   obtain ⟨t_13, ht_100, h⟩ := bd h
   refine tO (pc 0 (fun w hm => spec_l00In.calls (w64 f0.fSteps) 2 96 w _ ht_100) ?_)
   rintro w v w' hm ⟨rfl, hm'⟩
   refine ⟨_, hm.app hm', jkO ?_⟩
   clear hm hm'
   refine qf [(0, 0), (0, 0), (0, 1), (0, 1), (0, 1), (0, 1), (0, 1)] (qp 12 h (fun h => ?_) (fun h => ?_))
   ·exact qf [(0, 3), (0, 3), (0, 4)] (qe (qm true h [0]))
   ·obtain ⟨t_14, ht_102, h⟩ := bd h
    refine tO (pc 2 (fun w hm => spec_l00In.calls (f0.fHammers.length : Int) 1 24 w _ ht_102) ?_)
    rintro w v w' hm ⟨rfl, hm'⟩
    refine ⟨_, hm.app hm', jkO ?_⟩
    clear hm hm'
    exact qf [(0, 2), (0, 5)] (qe (qm (!t_14) h [0]))
  ·rintro q_1 h
   replace h : spec_l02Frame.k_2 f0 q_1 = some r := h
   rw [spec_l02Frame.k_2] at h
   refine jx_then (qi h (fun h => ?_) (fun h => ?_))
   ·refine jc_seq (jc_region (qh [0] (qe (jx_then (jc_ret (jx_thenr ?_))))))
    obtain rfl := Option.some.inj h
    exact qr [] (fun w hm => ⟨rfl, hm.pk [0]⟩)
   ·refine jc_skip (jx_then (jc_seq (jc_seq (jc_region (qh [0] (qe (jx_then (jc_meet (fun (_ : Unit) => spec_l02Frame.k_3 = some r) (fun (_ : Unit) => [(2, [], (.bool false))]) (fun (_ : Unit) => [⟨some A_b, 34, [(.int .i16 f0.fSteps), (.slice C_a f0.fHammers.length C_c)]⟩]) ?_ ?_))))))))
    ·refine jc_block ?_
     obtain ⟨t_6, ht_99, hr_82⟩ := bd h
     refine jc_loop (fun (s : Int) (x : Unit) => match s, x with | i_4, _ => True) (fun (s : Int) (x : Unit) => match s, x with | i_4, _ => [(0, [], (.pointer (some ⟨A_b, 0, none⟩))), (2, [], (.bool false)), (3, [], (.int .i64 i_4))]) (fun (s : Int) (x : Unit) => match s, x with | i_4, _ => [⟨some A_b, 34, [(.int .i16 f0.fSteps), (.slice C_a f0.fHammers.length C_c)]⟩]) ht_99 () trivial (by kernel_rfl) [0] (by kernel_rfl) (by kernel_rfl) ?_
     rintro i_4 _ y_83 _ h
     rw [spec_l02Frame.l_5] at h
     refine jc_seq (jc_seq (jc_region (qh [0,0,0,0,0,0,0] (qe (jx_then (qi h (fun h => ?_) (fun h => ?_)))))))
     ·refine jc_skip (jx_then (jc_seq (jc_block (jc_seq (jc_region (qh [0,0,0,0,0] ?_))))))
      obtain ⟨x_7, hx_86, h⟩ := bd h
      refine tO (qx 0 C_a 2 hx_86 rfl (C_h.sp hx_86) (jkO (tO (ql 0 true (fun w hm => ((hm.exRowW C_h C_ha).at hx_86)) (jkO (tO (qa 0 (fun b_87 => jkO (tO (qs 0 [1] (jkO (qe (jx_then (jc_seq (jc_meet (fun (j : Bool) => match j with | q_8 => spec_l02Frame.k_9 i_4 q_8 = some y_83) (fun (j : Bool) => match j with | q_8 => [(0, [], (.pointer (some ⟨A_b, 0, none⟩))), (2, [], (.bool false)), (3, [], (.int .i64 i_4)), (54, [], (.bool q_8))]) (fun (j : Bool) => match j with | q_8 => [⟨some A_b, 34, [(.int .i16 f0.fSteps), (.slice C_a f0.fHammers.length C_c)]⟩, ⟨some b_87, 110, [(.int .i8 x_7.fPitch), (.int .i8 x_7.fReady)]⟩]) ?_ ?_)))))))))))))))
      ·refine qg [⟨some A_b, 34, [(.int .i16 f0.fSteps), (.slice C_a f0.fHammers.length C_c)]⟩, ⟨some b_87, 110, [(.int .i8 x_7.fPitch), (.int .i8 x_7.fReady)]⟩] 18 (qd [⟨0, 0, 0⟩,⟨1, 1, 0⟩,⟨2, 0, 0⟩] 15 [0, 1] ?_)
       obtain ⟨t_10, ht_94, h⟩ := bd h
       refine tD 3 (pc 0 (fun w hm => spec_l00In.calls (w64 x_7.fPitch) 0 47 w _ ht_94) ?_)
       rintro w v w' hm ⟨rfl, hm'⟩
       refine ⟨_, hm.app hm', kD [0, 1] ?_⟩
       clear hm hm'
       refine qd [⟨4, 0, 0⟩,⟨5, 0, 0⟩,⟨6, 0, 1⟩,⟨7, 1, 1⟩,⟨8, 0, 1⟩,⟨9, 0, 1⟩,⟨10, 0, 1⟩,⟨11, 0, 1⟩,⟨12, 0, 1⟩,⟨13, 0, 1⟩] 4 [0, 1] (jd_split 42 (!t_10) (by kernel_rfl) (fun hc_95 => ?_) (fun hc_95 => ?_))
       ·replace h := ifT hc_95 h
        exact qd [⟨14, 0, 3⟩,⟨15, 0, 3⟩,⟨16, 0, 3⟩,⟨17, 0, 4⟩] 0 [0, 1] (qz (qm true h [0, 1]))
       ·replace h := ifF hc_95 h
        obtain ⟨t_11, ht_96, h⟩ := bd h
        refine tD 14 (pc 2 (fun w hm => spec_l00Min.calls 20 (w64 f0.fSteps) w _ ht_96) ?_)
        rintro w v w' hm ⟨rfl, hm'⟩
        refine ⟨_, hm.app hm', kD [0, 1] ?_⟩
        clear hm hm'
        obtain ⟨t_12, ht_97, h⟩ := bd h
        refine tD 15 (pc 2 (fun w hm => spec_l00In.calls (w64 x_7.fReady) 1 t_11 w _ ht_97) ?_)
        rintro w v w' hm ⟨rfl, hm'⟩
        refine ⟨_, hm.app hm', kD [0, 1] ?_⟩
        clear hm hm'
        exact qd [⟨16, 0, 2⟩,⟨17, 0, 5⟩] 0 [0, 1] (qz (qm (!t_12) h [0, 1]))
      ·rintro q_8 h
       replace h : spec_l02Frame.k_9 i_4 q_8 = some y_83 := h
       rw [spec_l02Frame.k_9] at h
       refine jx_then (qi h (fun h => ?_) (fun h => ?_))
       ·refine jc_seq (jc_region (qh [0] (qe (jx_then (jc_ret (jx_inr (jx_thenr (jx_leaver (.inl false) (Option.some.inj h).symm (fun e_93 => ?_)))))))))
        subst e_93
        refine jx_inr (jx_thenr (jx_thenr ?_))
        obtain rfl := Option.some.inj hr_82
        exact qr [] (fun w hm => ⟨rfl, hm.pk [0]⟩)
       ·exact jc_skip (jx_inn (jx_then (jc_region (qh [0,0,0] (qe (qb (w64 (i_4 + 1)) () h trivial [0]))))))
     ·refine jc_exit (jx_thenx (jx_leave (.inr ()) (Option.some.inj h).symm (fun e_98 => ?_)))
      subst e_98
      exact jx_ine (qm () hr_82 [0])
    ·rintro _ h
     replace h : spec_l02Frame.k_3 = some r := h
     rw [spec_l02Frame.k_3] at h
     refine jx_then (jc_seq (jc_region (qh [0] (qe (jx_then (jc_ret ?_))))))
     obtain rfl := Option.some.inj h
     exact qr [] (fun w hm => ⟨rfl, hm.pk [0]⟩)
/-! ### spec.l02Drum -/
def spec_l02Drum.k_1 : Option (Bool) := some true
def spec_l02Drum.k_6 (i_2 : Int) (q_5 : Bool) : Option ((Int) ⊕ (Bool ⊕ Unit)) := (if q_5 = true then some (.inr (.inl false)) else some (.inl (w64 (i_2 + 1))))
def spec_l02Drum.l_3 (f0 : GFrame) (d1 : Arr 96 Int) : Int → Option ((Int) ⊕ (Bool ⊕ Unit))
  | i_2 => (if (decide (i_2 < 96)) = true then (ix d1.1 i_2).bind fun x_7 => (if 0 ≤ (u64 (f0.fHammers.length : Int)) then (if ((bShr .u32 x_7 (u64 (f0.fHammers.length : Int))) != 0) = true then spec_l02Drum.k_6 i_2 true else (if (decide (i_2 ≥ (w64 f0.fSteps))) = true then (ix d1.1 i_2).bind fun x_8 => spec_l02Drum.k_6 i_2 (x_8 != 0) else spec_l02Drum.k_6 i_2 false)) else none) else some (.inr (.inr ())))
def spec_l02Drum (f0 : GFrame) (d1 : Arr 96 Int) : Option (Bool) := (loop (spec_l02Drum.l_3 f0 d1) 0).bind fun t_4 => match t_4 with | .inl p => some p | .inr p => spec_l02Drum.k_1
theorem spec_l02Drum.calls (f0 : GFrame) (d1 : Arr 96 Int) (w : World) (r : Bool) {C_a : Option Addr} {C_an : Nat} (C_c : Nat) (C_h : Rw w C_a 2 encGHammer f0.fHammers) (C_hn : f0.fHammers.length = C_an) {D_b D_q : Nat} (D_h : Rw w (some ⟨D_b, D_q, none⟩) 1 encU32 d1.1) (A_b : Nat) (hm0 : Mem w (bs [some A_b]) [⟨some A_b, 34, [(.int .i16 f0.fSteps), (.slice C_a C_an C_c)]⟩] w) (C_ha : f0.fHammers ≠ [] → aB C_a ∉ bs [some A_b]) (D_ha : d1.1 ≠ [] → aB (some ⟨D_b, D_q, none⟩) ∉ bs [some A_b]) (h : spec_l02Drum f0 d1 = some r) :
    Calls Try.prog 124 #[(.pointer (some ⟨A_b, 0, none⟩)), (.pointer (some ⟨D_b, D_q, none⟩))] w fun e w' => ∃ v, e = .returned v ∧ (v = (.bool r) ∧ Mem w (bs [some A_b]) [⟨some A_b, 34, [(.int .i16 f0.fSteps), (.slice C_a C_an C_c)]⟩] w') := by
  subst C_hn
  rw [spec_l02Drum] at h
  refine enter (args := [(.pointer (some ⟨A_b, 0, none⟩)), (.pointer (some ⟨D_b, D_q, none⟩))]) Try.func124 rfl Try.ntmps124 (by kernel_rfl) (L := [⟨some A_b, 34, [(.int .i16 f0.fSteps), (.slice C_a f0.fHammers.length C_c)]⟩]) (W := bs [some A_b]) hm0 ?_
  refine jc_seq (jc_region (qh [0] (qe (jx_then (jc_seq (jc_seq (jc_region (qh [0] (qe (jx_then (jc_meet (fun (_ : Unit) => spec_l02Drum.k_1 = some r) (fun (_ : Unit) => [(4, [], (.bool false))]) (fun (_ : Unit) => [⟨some A_b, 34, [(.int .i16 f0.fSteps), (.slice C_a f0.fHammers.length C_c)]⟩]) ?_ ?_)))))))))))
  ·refine jc_block ?_
   obtain ⟨t_4, ht_88, hr_71⟩ := bd h
   refine jc_loop (fun (s : Int) (x : Unit) => match s, x with | i_2, _ => True) (fun (s : Int) (x : Unit) => match s, x with | i_2, _ => [(0, [], (.pointer (some ⟨A_b, 0, none⟩))), (1, [], (.pointer (some ⟨D_b, D_q, none⟩))), (4, [], (.bool false)), (5, [], (.int .i64 i_2))]) (fun (s : Int) (x : Unit) => match s, x with | i_2, _ => [⟨some A_b, 34, [(.int .i16 f0.fSteps), (.slice C_a f0.fHammers.length C_c)]⟩]) ht_88 () trivial (by kernel_rfl) [0] (by kernel_rfl) (by kernel_rfl) ?_
   rintro i_2 _ y_72 _ h
   rw [spec_l02Drum.l_3] at h
   refine jc_seq (jc_seq (jc_region (qh [0,0] (qe (jx_then (qi h (fun h => ?_) (fun h => ?_)))))))
   ·refine jc_skip (jx_then (jc_seq (jc_block (jc_seq (jc_meet (fun (j : Bool) => match j with | q_5 => spec_l02Drum.k_6 i_2 q_5 = some y_72) (fun (j : Bool) => match j with | q_5 => [(0, [], (.pointer (some ⟨A_b, 0, none⟩))), (1, [], (.pointer (some ⟨D_b, D_q, none⟩))), (4, [], (.bool false)), (5, [], (.int .i64 i_2)), (39, [], (.bool q_5))]) (fun (j : Bool) => match j with | q_5 => [⟨some A_b, 34, [(.int .i16 f0.fSteps), (.slice C_a f0.fHammers.length C_c)]⟩]) ?_ ?_)))))
    ·refine qg [⟨some A_b, 34, [(.int .i16 f0.fSteps), (.slice C_a f0.fHammers.length C_c)]⟩] 30 (qd [⟨0, 0, 0⟩,⟨1, 0, 0⟩,⟨2, 0, 0⟩,⟨5, 0, 0⟩,⟨6, 0, 0⟩,⟨7, 0, 0⟩,⟨8, 0, 0⟩,⟨9, 0, 0⟩,⟨10, 0, 0⟩] 21 [0] ?_)
     obtain ⟨x_7, hx_82, h⟩ := bd h
     refine qv 3 0 [0] (fun w hm => idx_run (a := (some ⟨D_b, D_q, none⟩)) (len := 96) (s := 1) (j := i_2) (by kernel_rfl) (ix_some hx_82).1 (ltn hx_82 d1.2) (D_h.sp hx_82)) (qv 4 0 [0] (fun w hm => ld_run (b := aB (some ⟨D_b, D_q, none⟩)) (off := (aO (some ⟨D_b, D_q, none⟩) + i_2.toNat * 1)) (s := 1) (agg := false) (vs := (encU32 x_7)) (by kernel_rfl) (by kernel_rfl) (.inr rfl) ((hm.exRowW D_h D_ha).at hx_82)) ?_)
     obtain ⟨hg_83, h⟩ := gd h
     refine tD 11 (p_shr 0 .u32 x_7 .u64 (u64 (f0.fHammers.length : Int)) (by kernel_rfl) (by kernel_rfl) hg_83 (kD [0] (qd [⟨12, 0, 0⟩,⟨13, 0, 0⟩,⟨14, 0, 1⟩,⟨15, 0, 1⟩,⟨16, 0, 1⟩,⟨17, 0, 1⟩,⟨18, 0, 1⟩,⟨19, 0, 1⟩,⟨20, 0, 1⟩] 9 [0] (jd_split 23 ((bShr .u32 x_7 (u64 (f0.fHammers.length : Int))) != 0) (by kernel_rfl) (fun hc_84 => ?_) (fun hc_84 => ?_)))))
     ·replace h := ifT hc_84 h
      exact qd [⟨21, 0, 3⟩,⟨22, 0, 3⟩,⟨23, 0, 3⟩,⟨24, 0, 3⟩,⟨25, 0, 3⟩,⟨26, 0, 3⟩,⟨27, 0, 3⟩,⟨28, 0, 3⟩,⟨29, 0, 4⟩] 0 [0] (qz (qm true h [0]))
     ·replace h := ifF hc_84 h
      refine qd [⟨21, 0, 2⟩,⟨22, 0, 1⟩,⟨23, 0, 1⟩,⟨24, 0, 1⟩] 5 [0] (jd_split 31 (decide (i_2 ≥ (w64 f0.fSteps))) (by kernel_rfl) (fun hc_85 => ?_) (fun hc_85 => ?_))
      ·replace h := ifT hc_85 h
       obtain ⟨x_8, hx_86, h⟩ := bd h
       exact qv 25 2 [0] (fun w hm => idx_run (a := (some ⟨D_b, D_q, none⟩)) (len := 96) (s := 1) (j := i_2) (by kernel_rfl) (ix_some hx_86).1 (ltn hx_86 d1.2) (D_h.sp hx_86)) (qv 26 2 [0] (fun w hm => ld_run (b := aB (some ⟨D_b, D_q, none⟩)) (off := (aO (some ⟨D_b, D_q, none⟩) + i_2.toNat * 1)) (s := 1) (agg := false) (vs := (encU32 x_8)) (by kernel_rfl) (by kernel_rfl) (.inr rfl) ((hm.exRowW D_h D_ha).at hx_86)) (qd [⟨27, 0, 2⟩,⟨28, 0, 4⟩,⟨29, 0, 5⟩] 0 [0] (qz (qm (x_8 != 0) h [0]))))
      ·replace h := ifF hc_85 h
       exact qd [⟨25, 0, 3⟩,⟨26, 0, 3⟩,⟨27, 0, 3⟩,⟨28, 0, 5⟩,⟨29, 0, 5⟩] 0 [0] (qz (qm false h [0]))
    ·rintro q_5 h
     replace h : spec_l02Drum.k_6 i_2 q_5 = some y_72 := h
     rw [spec_l02Drum.k_6] at h
     refine jx_then (qi h (fun h => ?_) (fun h => ?_))
     ·refine jc_seq (jc_region (qh [0] (qe (jx_then (jc_ret (jx_inr (jx_thenr (jx_leaver (.inl false) (Option.some.inj h).symm (fun e_81 => ?_)))))))))
      subst e_81
      refine jx_inr (jx_thenr (jx_thenr ?_))
      obtain rfl := Option.some.inj hr_71
      exact qr [] (fun w hm => ⟨rfl, hm.pk [0]⟩)
     ·exact jc_skip (jx_inn (jx_then (jc_region (qh [0,0,0] (qe (qb (w64 (i_2 + 1)) () h trivial [0]))))))
   ·refine jc_exit (jx_thenx (jx_leave (.inr ()) (Option.some.inj h).symm (fun e_87 => ?_)))
    subst e_87
    exact jx_ine (qm () hr_71 [0])
  ·rintro _ h
   replace h : spec_l02Drum.k_1 = some r := h
   rw [spec_l02Drum.k_1] at h
   refine jx_then (jc_seq (jc_region (qh [0] (qe (jx_then (jc_ret ?_))))))
   obtain rfl := Option.some.inj h
   exact qr [] (fun w hm => ⟨rfl, hm.pk [0]⟩)
/-! ### spec.l05Asked -/
def spec_l05Asked.k_2 (list1 : List (Arr 96 Int)) : Option (Int) := (if (decide ((list1.length : Int) > 8)) = true then some 3 else some 0)
def spec_l05Asked.l_4 (f0 : GFrame) (list1 : List (Arr 96 Int)) : Int → Option ((Int) ⊕ (Int ⊕ Unit))
  | i_3 => (if (decide (i_3 < (list1.length : Int))) = true then (ix list1 i_3).bind fun x_6 => (spec_l02Drum f0 x_6).bind fun t_7 => (if (!t_7) = true then some (.inr (.inl 1)) else some (.inl (w64 (i_3 + 1)))) else some (.inr (.inr ())))
def spec_l05Asked (f0 : GFrame) (list1 : List (Arr 96 Int)) : Option (Int) := (spec_l02Frame f0).bind fun t_1 => (if (!t_1) = true then some 1 else (loop (spec_l05Asked.l_4 f0 list1) 0).bind fun t_5 => match t_5 with | .inl p => some p | .inr p => spec_l05Asked.k_2 list1)
theorem spec_l05Asked.calls (f0 : GFrame) (list1 : List (Arr 96 Int)) (w : World) (r : Int) {C_a : Option Addr} {C_an : Nat} (C_c : Nat) (C_h : Rw w C_a 2 encGHammer f0.fHammers) (C_hn : f0.fHammers.length = C_an) {D_a : Option Addr} {D_an : Nat} (D_c : Nat) (D_h : Rw w D_a 96 encA96U32 list1) (D_hn : list1.length = D_an) (A_b : Nat) (hm0 : Mem w (bs [some A_b]) [⟨some A_b, 34, [(.int .i16 f0.fSteps), (.slice C_a C_an C_c)]⟩] w) (C_ha : f0.fHammers ≠ [] → aB C_a ∉ bs [some A_b]) (D_ha : list1 ≠ [] → aB D_a ∉ bs [some A_b]) (h : spec_l05Asked f0 list1 = some r) :
    Calls Try.prog 77 #[(.pointer (some ⟨A_b, 0, none⟩)), (.slice D_a D_an D_c)] w fun e w' => ∃ v, e = .returned v ∧ (v = (.int .i64 r) ∧ Mem w (bs [some A_b]) [⟨some A_b, 34, [(.int .i16 f0.fSteps), (.slice C_a C_an C_c)]⟩] w') := by
  subst C_hn D_hn
  rw [spec_l05Asked] at h
  refine enter (args := [(.pointer (some ⟨A_b, 0, none⟩)), (.slice D_a list1.length D_c)]) Try.func77 rfl Try.ntmps77 (by kernel_rfl) (L := [⟨some A_b, 34, [(.int .i16 f0.fSteps), (.slice C_a f0.fHammers.length C_c)]⟩]) (W := bs [some A_b]) hm0 ?_
  refine jc_seq (jc_region (qh [0] (qe (jx_then (jc_seq (jc_seq (jc_region (qh [0] ?_))))))))
  obtain ⟨t_1, ht_3, h⟩ := bd h
  refine tO (pc 0 (fun w hm => spec_l02Frame.calls f0 w _ C_c (hm.exRowW C_h C_ha) rfl A_b (hm.pass (N := [⟨some A_b, 34, [(.int .i16 f0.fSteps), (.slice C_a f0.fHammers.length C_c)]⟩]) [0] (by kernel_rfl) (by kernel_rfl)) (hm.exApart (N := [⟨some A_b, 34, [(.int .i16 f0.fSteps), (.slice C_a f0.fHammers.length C_c)]⟩]) C_h C_ha [0] (by kernel_rfl)) ht_3) ?_)
  rintro w v w' hm ⟨rfl, hm'⟩
  refine ⟨_, hm.appW (ps := [(0, ⟨some A_b, 34, [(.int .i16 f0.fSteps), (.slice C_a f0.fHammers.length C_c)]⟩)]) (N := []) hm' (by kernel_rfl) (by kernel_rfl), jkO ?_⟩
  clear hm hm'
  refine qh [0] (qe (jx_then (qi h (fun h => ?_) (fun h => ?_))))
  ·refine jc_seq (jc_region (qh [0] (qe (jx_then (jc_ret (jx_thenr ?_))))))
   obtain rfl := Option.some.inj h
   exact qr [] (fun w hm => ⟨rfl, hm.pk [0]⟩)
  ·refine jc_skip (jx_then (jc_seq (jc_seq (jc_region (qh [0] (qe (jx_then (jc_meet (fun (_ : Unit) => spec_l05Asked.k_2 list1 = some r) (fun (_ : Unit) => [(1, [], (.slice D_a list1.length D_c)), (4, [], (.int .i64 0))]) (fun (_ : Unit) => [⟨some A_b, 34, [(.int .i16 f0.fSteps), (.slice C_a f0.fHammers.length C_c)]⟩]) ?_ ?_))))))))
   ·refine jc_block ?_
    obtain ⟨t_5, ht_85, hr_76⟩ := bd h
    refine jc_loop (fun (s : Int) (x : Unit) => match s, x with | i_3, _ => True) (fun (s : Int) (x : Unit) => match s, x with | i_3, _ => [(0, [], (.pointer (some ⟨A_b, 0, none⟩))), (1, [], (.slice D_a list1.length D_c)), (4, [], (.int .i64 0)), (5, [], (.int .i64 i_3))]) (fun (s : Int) (x : Unit) => match s, x with | i_3, _ => [⟨some A_b, 34, [(.int .i16 f0.fSteps), (.slice C_a f0.fHammers.length C_c)]⟩]) ht_85 () trivial (by kernel_rfl) [0] (by kernel_rfl) (by kernel_rfl) ?_
    rintro i_3 _ y_77 _ h
    rw [spec_l05Asked.l_4] at h
    refine jc_seq (jc_seq (jc_region (qh [0,0,0,0] (qe (jx_then (qi h (fun h => ?_) (fun h => ?_)))))))
    ·refine jc_skip (jx_then (jc_seq (jc_block (jc_seq (jc_region (qh [0,0,0] ?_))))))
     obtain ⟨x_6, hx_80, h⟩ := bd h
     refine tO (qx 0 D_a 96 hx_80 rfl (D_h.sp hx_80) (jkO ?_))
     obtain ⟨t_7, ht_81, h⟩ := bd h
     refine tO (pc 0 (fun w hm => spec_l02Drum.calls f0 x_6 w _ C_c (hm.exRowW C_h C_ha) rfl ((hm.exRowW D_h D_ha).inArr (fun _ => rfl) encU32_len hx_80) A_b (hm.pass (N := [⟨some A_b, 34, [(.int .i16 f0.fSteps), (.slice C_a f0.fHammers.length C_c)]⟩]) [0] (by kernel_rfl) (by kernel_rfl)) (hm.exApart (N := [⟨some A_b, 34, [(.int .i16 f0.fSteps), (.slice C_a f0.fHammers.length C_c)]⟩]) C_h C_ha [0] (by kernel_rfl)) (fun _ => (hm.exApart (N := [⟨some A_b, 34, [(.int .i16 f0.fSteps), (.slice C_a f0.fHammers.length C_c)]⟩]) D_h D_ha [0] (by kernel_rfl)) (ne_ix hx_80)) ht_81) ?_)
     rintro w v w' hm ⟨rfl, hm'⟩
     refine ⟨_, hm.appW (ps := [(0, ⟨some A_b, 34, [(.int .i16 f0.fSteps), (.slice C_a f0.fHammers.length C_c)]⟩)]) (N := []) hm' (by kernel_rfl) (by kernel_rfl), jkO ?_⟩
     clear hm hm'
     refine qh [0] (qe (jx_then (qi h (fun h => ?_) (fun h => ?_))))
     ·refine jc_seq (jc_region (qh [0] (qe (jx_then (jc_ret (jx_inr (jx_thenr (jx_leaver (.inl 1) (Option.some.inj h).symm (fun e_83 => ?_)))))))))
      subst e_83
      refine jx_inr (jx_thenr (jx_thenr ?_))
      obtain rfl := Option.some.inj hr_76
      exact qr [] (fun w hm => ⟨rfl, hm.pk [0]⟩)
     ·exact jc_skip (jx_inn (jx_then (jc_region (qh [0,0,0] (qe (qb (w64 (i_3 + 1)) () h trivial [0]))))))
    ·refine jc_exit (jx_thenx (jx_leave (.inr ()) (Option.some.inj h).symm (fun e_84 => ?_)))
     subst e_84
     exact jx_ine (qm () hr_76 [0])
   ·rintro _ h
    replace h : spec_l05Asked.k_2 list1 = some r := h
    rw [spec_l05Asked.k_2] at h
    refine jx_then (jc_seq (jc_seq (jc_region (qh [0,0,0] (qe (jx_then (qi h (fun h => ?_) (fun h => ?_))))))))
    ·refine jc_seq (jc_region (qh [0] (qe (jx_then (jc_ret (jx_thenr ?_))))))
     obtain rfl := Option.some.inj h
     exact qr [] (fun w hm => ⟨rfl, hm.pk [0]⟩)
    ·refine jc_skip (jx_then (jc_seq (jc_region (qh [0] (qe (jx_then (jc_ret ?_)))))))
     obtain rfl := Option.some.inj h
     exact qr [] (fun w hm => ⟨rfl, hm.pk [0]⟩)
/-! ### spec.l05First -/
def spec_l05First.k_5 (i_4 : Int) : Option (Int) := some i_4
def spec_l05First.k_3 (list1 : List (Arr 96 Int)) (i_2 : Int) : Option (Int) := (if ((i_2 == 0) && ((list1.length : Int) == 0)) = true then spec_l05First.k_5 6 else spec_l05First.k_5 i_2)
def spec_l05First (f0 : GFrame) (list1 : List (Arr 96 Int)) (first2 : Int) : Option (Int) := (spec_l05Asked f0 list1).bind fun t_1 => (if (t_1 == 0) = true then (spec_l00In first2 (-1) (w64 ((list1.length : Int) - 1))).bind fun t_6 => (if (!t_6) = true then spec_l05First.k_3 list1 2 else spec_l05First.k_3 list1 t_1) else spec_l05First.k_3 list1 t_1)
theorem spec_l05First.calls (f0 : GFrame) (list1 : List (Arr 96 Int)) (first2 : Int) (w : World) (r : Int) {C_a : Option Addr} {C_an : Nat} (C_c : Nat) (C_h : Rw w C_a 2 encGHammer f0.fHammers) (C_hn : f0.fHammers.length = C_an) {D_a : Option Addr} {D_an : Nat} (D_c : Nat) (D_h : Rw w D_a 96 encA96U32 list1) (D_hn : list1.length = D_an) (A_b : Nat) (hm0 : Mem w (bs [some A_b]) [⟨some A_b, 34, [(.int .i16 f0.fSteps), (.slice C_a C_an C_c)]⟩] w) (C_ha : f0.fHammers ≠ [] → aB C_a ∉ bs [some A_b]) (D_ha : list1 ≠ [] → aB D_a ∉ bs [some A_b]) (h : spec_l05First f0 list1 first2 = some r) :
    Calls Try.prog 49 #[(.pointer (some ⟨A_b, 0, none⟩)), (.slice D_a D_an D_c), (.int .i64 first2)] w fun e w' => ∃ v, e = .returned v ∧ (v = (.int .i64 r) ∧ Mem w (bs [some A_b]) [⟨some A_b, 34, [(.int .i16 f0.fSteps), (.slice C_a C_an C_c)]⟩] w') := by
  subst C_hn D_hn
  rw [spec_l05First] at h
  refine enter (args := [(.pointer (some ⟨A_b, 0, none⟩)), (.slice D_a list1.length D_c), (.int .i64 first2)]) Try.func49 rfl Try.ntmps49 (by kernel_rfl) (L := [⟨some A_b, 34, [(.int .i16 f0.fSteps), (.slice C_a f0.fHammers.length C_c)]⟩]) (W := bs [some A_b]) hm0 ?_
  refine jc_seq (jc_region (qh [0] (qe (jx_then (jc_seq (jc_region (qh [0,0] ?_)))))))
  obtain ⟨t_1, ht_1, h⟩ := bd h
  refine tO (pc 0 (fun w hm => spec_l05Asked.calls f0 list1 w _ C_c (hm.exRowW C_h C_ha) rfl D_c (hm.exRowW D_h D_ha) rfl A_b (hm.pass (N := [⟨some A_b, 34, [(.int .i16 f0.fSteps), (.slice C_a f0.fHammers.length C_c)]⟩]) [0] (by kernel_rfl) (by kernel_rfl)) (hm.exApart (N := [⟨some A_b, 34, [(.int .i16 f0.fSteps), (.slice C_a f0.fHammers.length C_c)]⟩]) C_h C_ha [0] (by kernel_rfl)) (hm.exApart (N := [⟨some A_b, 34, [(.int .i16 f0.fSteps), (.slice C_a f0.fHammers.length C_c)]⟩]) D_h D_ha [0] (by kernel_rfl)) ht_1) ?_)
  rintro w v w' hm ⟨rfl, hm'⟩
  refine ⟨_, hm.appW (ps := [(0, ⟨some A_b, 34, [(.int .i16 f0.fSteps), (.slice C_a f0.fHammers.length C_c)]⟩)]) (N := []) hm' (by kernel_rfl) (by kernel_rfl), jkO ?_⟩
  clear hm hm'
  refine qh [0] (qe (jx_then (jc_seq (jc_meet (fun (j : Int) => match j with | i_2 => spec_l05First.k_3 list1 i_2 = some r) (fun (j : Int) => match j with | i_2 => [(1, [], (.slice D_a list1.length D_c)), (6, [], (.int .i64 0)), (7, [], (.int .i64 i_2))]) (fun (j : Int) => match j with | i_2 => [⟨some A_b, 34, [(.int .i16 f0.fSteps), (.slice C_a f0.fHammers.length C_c)]⟩]) ?_ ?_))))
  ·refine jc_seq (jc_region (qf [(0, 0), (0, 0), (0, 0), (0, 1), (0, 1), (0, 1), (0, 1)] (qp 13 h (fun h => ?_) (fun h => ?_))))
   ·obtain ⟨t_6, ht_9, h⟩ := bd h
    refine tO (pc 2 (fun w hm => spec_l00In.calls first2 (-1) (w64 ((list1.length : Int) - 1)) w _ ht_9) ?_)
    rintro w v w' hm ⟨rfl, hm'⟩
    refine ⟨_, hm.app hm', jkO ?_⟩
    clear hm hm'
    refine qf [(0, 2), (0, 4)] (qe (jx_then (qi h (fun h => ?_) (fun h => ?_))))
    ·exact jc_region (qh [0] (qe (qm 2 h [0])))
    ·exact jc_skip (qm t_1 h [0])
   ·exact qf [(0, 3), (0, 3), (0, 5)] (qe (jx_then (jc_cond false (by kernel_rfl) (fun hc_11 => nomatch hc_11) (fun hc_11 => (jc_skip (qm t_1 h [0]))))))
  ·rintro i_2 h
   replace h : spec_l05First.k_3 list1 i_2 = some r := h
   rw [spec_l05First.k_3] at h
   refine jx_then (jc_seq (jc_meet (fun (j : Int) => match j with | i_4 => spec_l05First.k_5 i_4 = some r) (fun (j : Int) => match j with | i_4 => [(6, [], (.int .i64 0)), (7, [], (.int .i64 i_4))]) (fun (j : Int) => match j with | i_4 => [⟨some A_b, 34, [(.int .i16 f0.fSteps), (.slice C_a f0.fHammers.length C_c)]⟩]) ?_ ?_))
   ·refine jc_seq (jc_region (qf [(0, 0), (0, 0), (0, 0), (0, 1), (0, 1), (0, 1), (0, 0)] (qe (jx_then (qi h (fun h => ?_) (fun h => ?_))))))
    ·exact jc_region (qh [0] (qe (qm 6 h [0])))
    ·exact jc_skip (qm i_2 h [0])
   ·rintro i_4 h
    replace h : spec_l05First.k_5 i_4 = some r := h
    rw [spec_l05First.k_5] at h
    refine jx_then (jc_seq (jc_region (qh [0,0] (qe (jx_then (jc_ret ?_))))))
    obtain rfl := Option.some.inj h
    exact qr [] (fun w hm => ⟨rfl, hm.pk [0]⟩)
/-! ### spec.l02Count -/
def spec_l02Count.k_2 (i_1 : Int) : Option (Int) := some i_1
def spec_l02Count.l_5 : (Int × Int) → Option ((Int × Int) ⊕ (Int))
  | (i_3, i_4) => (if (decide (i_3 > 0)) = true then some (.inl ((u32 (Int.tdiv i_3 2)), (w64 (i_4 + (w64 (Int.tmod i_3 2)))))) else some (.inr i_4))
def spec_l02Count (bits0 : Int) : Option (Int) := (loop spec_l02Count.l_5 (bits0, 0)).bind fun t_6 => spec_l02Count.k_2 t_6
theorem spec_l02Count.calls (bits0 : Int) (w : World) (r : Int) (h : spec_l02Count bits0 = some r) :
    Calls Try.prog 172 #[(.int .u32 bits0)] w fun e w' => ∃ v, e = .returned v ∧ (v = (.int .i64 r) ∧ Mem w [] [] w') := by
  rw [spec_l02Count] at h
  refine enter (args := [(.int .u32 bits0)]) Try.func172 rfl Try.ntmps172 (by kernel_rfl) (L := []) (W := []) (Mem.start w) ?_
  refine jc_seq (jc_region (qh [0] (qe (jx_then (jc_seq (jc_region (qh [0] (qe (jx_then (jc_seq (jc_meet (fun (j : Int) => match j with | i_1 => spec_l02Count.k_2 i_1 = some r) (fun (j : Int) => match j with | i_1 => [(2, [], (.int .i64 0)), (3, [], (.int .i64 i_1))]) (fun (j : Int) => match j with | i_1 => []) ?_ ?_)))))))))))
  ·refine jc_block ?_
   obtain ⟨t_6, ht_20, hr_15⟩ := bd h
   refine jc_loop (fun (s : Int × Int) (x : Unit) => match s, x with | ⟨i_3, i_4⟩, _ => True) (fun (s : Int × Int) (x : Unit) => match s, x with | ⟨i_3, i_4⟩, _ => [(0, [], (.int .u32 i_3)), (2, [], (.int .i64 0)), (3, [], (.int .i64 i_4))]) (fun (s : Int × Int) (x : Unit) => match s, x with | ⟨i_3, i_4⟩, _ => []) ht_20 () trivial (by kernel_rfl) [] (by kernel_rfl) (by kernel_rfl) ?_
   rintro ⟨i_3, i_4⟩ _ y_16 _ h
   rw [spec_l02Count.l_5] at h
   refine jc_seq (jc_seq (jc_region (qh [0,0] (qe (jx_then (qi h (fun h => ?_) (fun h => ?_)))))))
   ·exact jc_skip (jx_then (jc_seq (jc_block (jc_region (qh [0,0,0,0,0,0] (qe (jx_inn (jx_then (jc_region (qh [0,0,0] (qe (qb ((u32 (Int.tdiv i_3 2)), (w64 (i_4 + (w64 (Int.tmod i_3 2))))) () h trivial []))))))))))))
   ·refine jc_exit (jx_thenx (jx_leave i_4 (Option.some.inj h).symm (fun e_19 => ?_)))
    subst e_19
    exact jx_ine (qm i_4 hr_15 [])
  ·rintro i_1 h
   replace h : spec_l02Count.k_2 i_1 = some r := h
   rw [spec_l02Count.k_2] at h
   refine jx_then (jc_seq (jc_region (qh [0,0] (qe (jx_then (jc_ret ?_))))))
   obtain rfl := Option.some.inj h
   exact qr [] (fun w hm => ⟨rfl, hm.pk []⟩)
/-! ### spec.l02Moves -/
def spec_l02Moves.k_2 (i_1 : Int) : Option (Int) := some i_1
def spec_l02Moves.l_5 (a0 : Arr 96 Int) (b1 : Arr 96 Int) : (Int × Int) → Option ((Int × Int) ⊕ (Int))
  | (i_3, i_4) => (if (decide (i_4 < 96)) = true then (ix b1.1 i_4).bind fun x_7 => (ix a0.1 i_4).bind fun x_8 => (spec_l02Count (bClr .u32 x_7 x_8)).bind fun t_9 => some (.inl ((w64 (i_3 + t_9)), (w64 (i_4 + 1)))) else some (.inr i_3))
def spec_l02Moves (a0 : Arr 96 Int) (b1 : Arr 96 Int) : Option (Int) := (loop (spec_l02Moves.l_5 a0 b1) (0, 0)).bind fun t_6 => spec_l02Moves.k_2 t_6
theorem spec_l02Moves.calls (a0 : Arr 96 Int) (b1 : Arr 96 Int) (w : World) (r : Int) {A_b A_q : Nat} (A_h : Rw w (some ⟨A_b, A_q, none⟩) 1 encU32 a0.1) {B_b B_q : Nat} (B_h : Rw w (some ⟨B_b, B_q, none⟩) 1 encU32 b1.1) (h : spec_l02Moves a0 b1 = some r) :
    Calls Try.prog 142 #[(.pointer (some ⟨A_b, A_q, none⟩)), (.pointer (some ⟨B_b, B_q, none⟩))] w fun e w' => ∃ v, e = .returned v ∧ (v = (.int .i64 r) ∧ Mem w [] [] w') := by
  rw [spec_l02Moves] at h
  refine enter (args := [(.pointer (some ⟨A_b, A_q, none⟩)), (.pointer (some ⟨B_b, B_q, none⟩))]) Try.func142 rfl Try.ntmps142 (by kernel_rfl) (L := []) (W := []) (Mem.start w) ?_
  refine jc_seq (jc_region (qh [0] (qe (jx_then (jc_seq (jc_region (qh [0] (qe (jx_then (jc_seq (jc_seq (jc_region (qh [0] (qe (jx_then (jc_meet (fun (j : Int) => match j with | i_1 => spec_l02Moves.k_2 i_1 = some r) (fun (j : Int) => match j with | i_1 => [(4, [], (.int .i64 0)), (5, [], (.int .i64 i_1))]) (fun (j : Int) => match j with | i_1 => []) ?_ ?_))))))))))))))))
  ·refine jc_block ?_
   obtain ⟨t_6, ht_76, hr_68⟩ := bd h
   refine jc_loop (fun (s : Int × Int) (x : Unit) => match s, x with | ⟨i_3, i_4⟩, _ => True) (fun (s : Int × Int) (x : Unit) => match s, x with | ⟨i_3, i_4⟩, _ => [(0, [], (.pointer (some ⟨A_b, A_q, none⟩))), (1, [], (.pointer (some ⟨B_b, B_q, none⟩))), (4, [], (.int .i64 0)), (5, [], (.int .i64 i_3)), (6, [], (.int .i64 i_4))]) (fun (s : Int × Int) (x : Unit) => match s, x with | ⟨i_3, i_4⟩, _ => []) ht_76 () trivial (by kernel_rfl) [] (by kernel_rfl) (by kernel_rfl) ?_
   rintro ⟨i_3, i_4⟩ _ y_69 _ h
   rw [spec_l02Moves.l_5] at h
   refine jc_seq (jc_seq (jc_region (qh [0,0] (qe (jx_then (qi h (fun h => ?_) (fun h => ?_)))))))
   ·refine jc_skip (jx_then (jc_seq (jc_block (qg [] 15 (qd [⟨0, 0, 0⟩,⟨1, 0, 0⟩,⟨2, 0, 0⟩,⟨3, 0, 0⟩,⟨6, 0, 0⟩,⟨7, 0, 0⟩,⟨8, 0, 0⟩] 8 [] ?_)))))
    obtain ⟨x_7, hx_72, h⟩ := bd h
    refine qv 4 0 [] (fun w hm => idx_run (a := (some ⟨B_b, B_q, none⟩)) (len := 96) (s := 1) (j := i_4) (by kernel_rfl) (ix_some hx_72).1 (ltn hx_72 b1.2) (B_h.sp hx_72)) (qv 5 0 [] (fun w hm => ld_run (b := aB (some ⟨B_b, B_q, none⟩)) (off := (aO (some ⟨B_b, B_q, none⟩) + i_4.toNat * 1)) (s := 1) (agg := false) (vs := (encU32 x_7)) (by kernel_rfl) (by kernel_rfl) (.inr rfl) ((hm.xr B_h).at hx_72)) ?_)
    obtain ⟨x_8, hx_73, h⟩ := bd h
    refine qv 9 0 [] (fun w hm => idx_run (a := (some ⟨A_b, A_q, none⟩)) (len := 96) (s := 1) (j := i_4) (by kernel_rfl) (ix_some hx_73).1 (ltn hx_73 a0.2) (A_h.sp hx_73)) (qv 10 0 [] (fun w hm => ld_run (b := aB (some ⟨A_b, A_q, none⟩)) (off := (aO (some ⟨A_b, A_q, none⟩) + i_4.toNat * 1)) (s := 1) (agg := false) (vs := (encU32 x_8)) (by kernel_rfl) (by kernel_rfl) (.inr rfl) ((hm.xr A_h).at hx_73)) (qd [⟨11, 0, 0⟩] 3 [] ?_))
    obtain ⟨t_9, ht_74, h⟩ := bd h
    refine tD 12 (pc 0 (fun w hm => spec_l02Count.calls (bClr .u32 x_7 x_8) w _ ht_74) ?_)
    rintro w v w' hm ⟨rfl, hm'⟩
    refine ⟨_, hm.app hm', kD [] ?_⟩
    clear hm hm'
    exact qd [⟨13, 0, 0⟩,⟨14, 0, 0⟩] 0 [] (qz (jx_inn (jx_then (jc_region (qh [0,0,0] (qe (qb ((w64 (i_3 + t_9)), (w64 (i_4 + 1))) () h trivial [])))))))
   ·refine jc_exit (jx_thenx (jx_leave i_3 (Option.some.inj h).symm (fun e_75 => ?_)))
    subst e_75
    exact jx_ine (qm i_3 hr_68 [])
  ·rintro i_1 h
   replace h : spec_l02Moves.k_2 i_1 = some r := h
   rw [spec_l02Moves.k_2] at h
   refine jx_then (jc_seq (jc_region (qh [0,0] (qe (jx_then (jc_ret ?_))))))
   obtain rfl := Option.some.inj h
   exact qr [] (fun w hm => ⟨rfl, hm.pk []⟩)
/-! ### spec.l05Cost -/
def spec_l05Cost (a0 : Arr 96 Int) (b1 : Arr 96 Int) : Option (Int) := (spec_l02Moves a0 b1).bind fun t_1 => (spec_l02Moves b1 a0).bind fun t_2 => some (w64 (t_1 + t_2))
theorem spec_l05Cost.calls (a0 : Arr 96 Int) (b1 : Arr 96 Int) (w : World) (r : Int) {A_b A_q : Nat} (A_h : Rw w (some ⟨A_b, A_q, none⟩) 1 encU32 a0.1) {B_b B_q : Nat} (B_h : Rw w (some ⟨B_b, B_q, none⟩) 1 encU32 b1.1) (h : spec_l05Cost a0 b1 = some r) :
    Calls Try.prog 104 #[(.pointer (some ⟨A_b, A_q, none⟩)), (.pointer (some ⟨B_b, B_q, none⟩))] w fun e w' => ∃ v, e = .returned v ∧ (v = (.int .i64 r) ∧ Mem w [] [] w') := by
  rw [spec_l05Cost] at h
  refine enter (args := [(.pointer (some ⟨A_b, A_q, none⟩)), (.pointer (some ⟨B_b, B_q, none⟩))]) Try.func104 rfl Try.ntmps104 (by kernel_rfl) (L := []) (W := []) (Mem.start w) ?_
  refine jc_seq (jc_region (qh [0] (qe (jx_then (jc_seq (jc_region (qh [0,0] ?_)))))))
  obtain ⟨t_1, ht_1, h⟩ := bd h
  refine tO (pc 0 (fun w hm => spec_l02Moves.calls a0 b1 w _ (hm.xr A_h) (hm.xr B_h) ht_1) ?_)
  rintro w v w' hm ⟨rfl, hm'⟩
  refine ⟨_, hm.app hm', jkO ?_⟩
  clear hm hm'
  refine qh [0,0] ?_
  obtain ⟨t_2, ht_2, h⟩ := bd h
  refine tO (pc 0 (fun w hm => spec_l02Moves.calls b1 a0 w _ (hm.xr B_h) (hm.xr A_h) ht_2) ?_)
  rintro w v w' hm ⟨rfl, hm'⟩
  refine ⟨_, hm.app hm', jkO ?_⟩
  clear hm hm'
  refine qh [0,0] (qe (jx_then (jc_ret ?_)))
  obtain rfl := Option.some.inj h
  exact qr [] (fun w hm => ⟨rfl, hm.pk []⟩)
/-! ### spec.l05Table -/
def spec_l05Table.k_1 (xt_2579 : List (List Int)) : Option ((List (List Int))) := some xt_2579
def spec_l05Table.k_6 (xt_3153 : List (List Int)) (i_2 : Int) (xs_5 : List Int) : Option (((List (List Int)) × Int) ⊕ ((List (List Int)))) := (if xt_3153.length + 1 ≤ 4294967296 then some (.inl ((xt_3153 ++ [xs_5]), (w64 (i_2 + 1)))) else none)
def spec_l05Table.l_9 (list0 : List (Arr 96 Int)) (i_2 : Int) : ((List Int) × Int) → Option (((List Int) × Int) ⊕ ((List Int)))
  | (xs_7, i_8) => (if (decide (i_8 < (list0.length : Int))) = true then (ix list0 i_2).bind fun x_11 => (ix list0 i_8).bind fun x_12 => (spec_l05Cost x_11 x_12).bind fun t_13 => (if xs_7.length + ([t_13] : List Int).length ≤ 4294967296 then some (.inl ((xs_7 ++ ([t_13] : List Int)), (w64 (i_8 + 1)))) else none) else some (.inr xs_7))
def spec_l05Table.l_3 (list0 : List (Arr 96 Int)) : ((List (List Int)) × Int) → Option (((List (List Int)) × Int) ⊕ ((List (List Int))))
  | (xt_3153, i_2) => (if (decide (i_2 < (list0.length : Int))) = true then (loop (spec_l05Table.l_9 list0 i_2) (([] : List Int), 0)).bind fun t_10 => spec_l05Table.k_6 xt_3153 i_2 t_10 else some (.inr xt_3153))
def spec_l05Table (list0 : List (Arr 96 Int)) : Option ((List (List Int))) := (loop (spec_l05Table.l_3 list0) (([] : List (List Int)), 0)).bind fun t_4 => spec_l05Table.k_1 t_4
theorem spec_l05Table.calls (list0 : List (Arr 96 Int)) (w : World) (r : (List (List Int))) {A_a : Option Addr} {A_an : Nat} (A_c : Nat) (A_h : Rw w A_a 96 encA96U32 list0) (A_hn : list0.length = A_an) (h : spec_l05Table list0 = some r) :
    Calls Try.prog 51 #[(.slice A_a A_an A_c)] w fun e w' => ∃ v, e = .returned v ∧ (∃ (o0 : Option Nat) (c0 : Nat) (s0 : List Value) (n0 : Nat) (h0 : List Hd), InP h0 r ∧ h0.length = n0 ∧ (o0 ≠ none → n0 ≤ c0 ∧ s0.length = (c0 - n0) * 1) ∧ (o0 = none → h0 = [] ∧ c0 = 0) ∧ v = .slice (o0.map fun b => ⟨b, 0, none⟩) n0 c0 ∧ Mem w [] [⟨o0, 29, row encHd h0 s0⟩, ⟨none, CLU, cluC encI64 h0 r⟩] w') := by
  subst A_hn
  rw [spec_l05Table] at h
  refine enter (args := [(.slice A_a list0.length A_c)]) Try.func51 rfl Try.ntmps51 (by kernel_rfl) (L := []) (W := []) (Mem.start w) ?_
  refine jc_seq (jc_region (qh [0] (qe (jx_then (jc_seq (jc_region (tO (qa 0 (fun b_1 => jk_clu encI64 (jkO (qh [0] (qe (jx_then (jc_seq (jc_seq (jc_region (qh [0] (qe (jx_then (jc_meet (fun (j : (List (List Int)) × (List Hd) × (Option Nat) × Nat × (List Value) × Nat) => match j with | ⟨xt_2579, hh_2580, o_2581, cap_2582, sp_2583, n_2584⟩ => spec_l05Table.k_1 xt_2579 = some r ∧ (hh_2580.length = n_2584) ∧ ((o_2581 ≠ none → n_2584 ≤ cap_2582 ∧ sp_2583.length = (cap_2582 - n_2584) * 1)) ∧ ((o_2581 = none → hh_2580 = [] ∧ cap_2582 = 0)) ∧ (InP hh_2580 xt_2579)) (fun (j : (List (List Int)) × (List Hd) × (Option Nat) × Nat × (List Value) × Nat) => match j with | ⟨xt_2579, hh_2580, o_2581, cap_2582, sp_2583, n_2584⟩ => [(2, [], (.slice none 0 0)), (3, [], (.slice (o_2581.map fun b => ⟨b, 0, none⟩) n_2584 cap_2582))]) (fun (j : (List (List Int)) × (List Hd) × (Option Nat) × Nat × (List Value) × Nat) => match j with | ⟨xt_2579, hh_2580, o_2581, cap_2582, sp_2583, n_2584⟩ => [⟨o_2581, 29, row encHd hh_2580 sp_2583⟩, ⟨none, CLU, cluC encI64 hh_2580 xt_2579⟩]) ?_ ?_))))))))))))))))))))
  ·refine jc_block ?_
   obtain ⟨t_4, ht_3443, hr_3162⟩ := bd h
   refine jc_loop (fun (s : (List (List Int)) × Int) (x : (List Hd) × (Option Nat) × Nat × (List Value) × Nat) => match s, x with | ⟨xt_3153, i_2⟩, ⟨hh_3154, o_3155, cap_3156, sp_3157, n_3158⟩ => (hh_3154.length = n_3158) ∧ ((o_3155 ≠ none → n_3158 ≤ cap_3156 ∧ sp_3157.length = (cap_3156 - n_3158) * 1)) ∧ ((o_3155 = none → hh_3154 = [] ∧ cap_3156 = 0)) ∧ (InP hh_3154 xt_3153)) (fun (s : (List (List Int)) × Int) (x : (List Hd) × (Option Nat) × Nat × (List Value) × Nat) => match s, x with | ⟨xt_3153, i_2⟩, ⟨hh_3154, o_3155, cap_3156, sp_3157, n_3158⟩ => [(0, [], (.slice A_a list0.length A_c)), (2, [], (.slice none 0 0)), (3, [], (.slice (o_3155.map fun b => ⟨b, 0, none⟩) n_3158 cap_3156)), (4, [], (.int .i64 i_2))]) (fun (s : (List (List Int)) × Int) (x : (List Hd) × (Option Nat) × Nat × (List Value) × Nat) => match s, x with | ⟨xt_3153, i_2⟩, ⟨hh_3154, o_3155, cap_3156, sp_3157, n_3158⟩ => [⟨o_3155, 29, row encHd hh_3154 sp_3157⟩, ⟨none, CLU, cluC encI64 hh_3154 xt_3153⟩]) ht_3443 ⟨([] : List Hd), (some b_1), 0, [], 0⟩ ⟨rfl, (fun _ => ⟨Nat.le_refl _, by simp⟩), (fun e => nomatch e), InP.nil⟩ (by kernel_rfl) [0, 1] (by kernel_rfl) (by kernel_rfl) ?_
   rintro ⟨xt_3153, i_2⟩ ⟨hh_3154, o_3155, cap_3156, sp_3157, n_3158⟩ y_3163 ⟨rfl, hs_3159, ho_3160, hI_3161⟩ h
   rw [spec_l05Table.l_3] at h
   refine jc_seq (jc_seq (jc_region (qh [0,0,0,0] (qe (jx_then (qi h (fun h => ?_) (fun h => ?_)))))))
   ·refine jc_skip (jx_then (jc_seq (jc_block (jc_seq (jc_region (tO (qa 0 (fun b_3166 => jkO (qh [0] (qe (jx_then (jc_seq (jc_seq (jc_region (qh [0] (qe (jx_then (jc_meet (fun (j : (List Int) × (Option Nat) × Nat × (List Value) × Nat) => match j with | ⟨xs_5, o_3365, cap_3366, sp_3367, n_3368⟩ => spec_l05Table.k_6 xt_3153 i_2 xs_5 = some y_3163 ∧ (xs_5.length = n_3368) ∧ ((o_3365 ≠ none → n_3368 ≤ cap_3366 ∧ sp_3367.length = (cap_3366 - n_3368) * 1)) ∧ ((o_3365 = none → xs_5 = [] ∧ cap_3366 = 0))) (fun (j : (List Int) × (Option Nat) × Nat × (List Value) × Nat) => match j with | ⟨xs_5, o_3365, cap_3366, sp_3367, n_3368⟩ => [(0, [], (.slice A_a list0.length A_c)), (2, [], (.slice none 0 0)), (3, [], (.slice (o_3155.map fun b => ⟨b, 0, none⟩) hh_3154.length cap_3156)), (4, [], (.int .i64 i_2)), (5, [], (.slice (o_3365.map fun b => ⟨b, 0, none⟩) n_3368 cap_3366))]) (fun (j : (List Int) × (Option Nat) × Nat × (List Value) × Nat) => match j with | ⟨xs_5, o_3365, cap_3366, sp_3367, n_3368⟩ => [⟨o_3155, 29, row encHd hh_3154 sp_3157⟩, ⟨none, CLU, cluC encI64 hh_3154 xt_3153⟩, ⟨o_3365, 2, row encI64 xs_5 sp_3367⟩]) ?_ ?_))))))))))))))))))
    ·refine jc_block ?_
     obtain ⟨t_10, ht_3441, hr_3422⟩ := bd h
     refine jc_loop (fun (s : (List Int) × Int) (x : (Option Nat) × Nat × (List Value) × Nat) => match s, x with | ⟨xs_7, i_8⟩, ⟨o_3416, cap_3417, sp_3418, n_3419⟩ => (xs_7.length = n_3419) ∧ ((o_3416 ≠ none → n_3419 ≤ cap_3417 ∧ sp_3418.length = (cap_3417 - n_3419) * 1)) ∧ ((o_3416 = none → xs_7 = [] ∧ cap_3417 = 0))) (fun (s : (List Int) × Int) (x : (Option Nat) × Nat × (List Value) × Nat) => match s, x with | ⟨xs_7, i_8⟩, ⟨o_3416, cap_3417, sp_3418, n_3419⟩ => [(0, [], (.slice A_a list0.length A_c)), (2, [], (.slice none 0 0)), (3, [], (.slice (o_3155.map fun b => ⟨b, 0, none⟩) hh_3154.length cap_3156)), (4, [], (.int .i64 i_2)), (5, [], (.slice (o_3416.map fun b => ⟨b, 0, none⟩) n_3419 cap_3417)), (6, [], (.int .i64 i_8))]) (fun (s : (List Int) × Int) (x : (Option Nat) × Nat × (List Value) × Nat) => match s, x with | ⟨xs_7, i_8⟩, ⟨o_3416, cap_3417, sp_3418, n_3419⟩ => [⟨o_3155, 29, row encHd hh_3154 sp_3157⟩, ⟨none, CLU, cluC encI64 hh_3154 xt_3153⟩, ⟨o_3416, 2, row encI64 xs_7 sp_3418⟩]) ht_3441 ⟨(some b_3166), 0, [], 0⟩ ⟨rfl, (fun _ => ⟨Nat.le_refl _, by simp⟩), (fun e => nomatch e)⟩ (by kernel_rfl) [0, 1, 2] (by kernel_rfl) (by kernel_rfl) ?_
     rintro ⟨xs_7, i_8⟩ ⟨o_3416, cap_3417, sp_3418, n_3419⟩ y_3423 ⟨rfl, hs_3420, ho_3421⟩ h
     rw [spec_l05Table.l_9] at h
     refine jc_seq (jc_seq (jc_region (qh [0,0,0,0] (qe (jx_then (qi h (fun h => ?_) (fun h => ?_)))))))
     ·refine jc_skip (jx_then (jc_seq (jc_block (qg [⟨o_3155, 29, row encHd hh_3154 sp_3157⟩, ⟨none, CLU, cluC encI64 hh_3154 xt_3153⟩] 11 (qd [⟨0, 0, 0⟩,⟨1, 0, 0⟩,⟨2, 0, 0⟩,⟨4, 0, 0⟩,⟨5, 0, 0⟩] 6 [0, 1] ?_)))))
      obtain ⟨x_11, hx_3430, h⟩ := bd h
      refine qv 3 0 [0, 1] (fun w hm => idx_run (a := A_a) (len := list0.length) (s := 96) (j := i_2) (by kernel_rfl) (ix_some hx_3430).1 (ltn hx_3430 rfl) (A_h.sp hx_3430)) ?_
      obtain ⟨x_12, hx_3431, h⟩ := bd h
      refine qv 6 0 [0, 1] (fun w hm => idx_run (a := A_a) (len := list0.length) (s := 96) (j := i_8) (by kernel_rfl) (ix_some hx_3431).1 (ltn hx_3431 rfl) (A_h.sp hx_3431)) ?_
      obtain ⟨t_13, ht_3432, h⟩ := bd h
      refine tD 7 (pc 0 (fun w hm => spec_l05Cost.calls x_11 x_12 w _ ((hm.xr A_h).inArr (fun _ => rfl) encU32_len hx_3430) ((hm.xr A_h).inArr (fun _ => rfl) encU32_len hx_3431) ht_3432) ?_)
      rintro w v w' hm ⟨rfl, hm'⟩
      refine ⟨_, hm.app hm', kD [0, 1] ?_⟩
      clear hm hm'
      refine tD 8 (qa 0 (fun b_3433 => kD [0, 1] ?_))
      obtain ⟨hg_3434, h⟩ := gd h
      exact tD 9 (p_apn 0 2 o_3416 2 xs_7.length 1 cap_3417 1 8 (some ⟨b_3433, 0, none⟩) encI64 xs_7 ([t_13] : List Int) sp_3418 (.int .i64 0) rfl rfl (by kernel_rfl) (by kernel_rfl) (by kernel_rfl) encI64_len encI64_cell hs_3420 ho_3421 (fun w hm => (hm.ow 3 (some b_3433) 2 ([t_13] : List Int) [] (fun e => nomatch e) encI64_len)) hg_3434 (by kernel_rfl) (by kernel_rfl) (fun o_3435 cap_3436 sp_3437 hs_3438 ho_3439 => kD [0, 1] (qd [⟨10, 0, 0⟩] 0 [0, 1] (qz (jx_inn (jx_then (jc_region (qh [0,0,0] (qe (qb ((xs_7 ++ ([t_13] : List Int)), (w64 (i_8 + 1))) ⟨o_3435, cap_3436, sp_3437, (xs_7 ++ ([t_13] : List Int)).length⟩ h ⟨rfl, hs_3438, ho_3439⟩ [0, 1, 2]))))))))))
     ·refine jc_exit (jx_thenx (jx_leave xs_7 (Option.some.inj h).symm (fun e_3440 => ?_)))
      subst e_3440
      exact jx_ine (qm ⟨xs_7, o_3416, cap_3417, sp_3418, xs_7.length⟩ ⟨hr_3422, rfl, hs_3420, ho_3421⟩ [0, 1, 2])
    ·rintro ⟨xs_5, o_3365, cap_3366, sp_3367, n_3368⟩ ⟨h, rfl, hs_3369, ho_3370⟩
     replace h : spec_l05Table.k_6 xt_3153 i_2 xs_5 = some y_3163 := h
     rw [spec_l05Table.k_6] at h
     refine jx_then (jc_region (qh [0,0] (tO (qa 0 (fun b_3371 => jkO ?_)))))
     obtain ⟨hg_3372, h⟩ := gd h
     exact tO (p_apn 0 0 o_3155 29 hh_3154.length 1 cap_3156 1 24 (some ⟨b_3371, 0, none⟩) encHd hh_3154 [(Hd.mk (o_3365.map fun b => ⟨b, 0, none⟩) xs_5.length cap_3366)] sp_3157 (.slice none 0 0) rfl rfl (by kernel_rfl) (by kernel_rfl) (by kernel_rfl) encHd_len encHd_cell hs_3159 ho_3160 (fun w hm => (hm.ow 3 (some b_3371) 29 ([(Hd.mk (o_3365.map fun b => ⟨b, 0, none⟩) xs_5.length cap_3366)]) [] (fun e => nomatch e) encHd_len)) (tabbig hI_3161 hg_3372) (by kernel_rfl) (by kernel_rfl) (fun o_3373 cap_3374 sp_3375 hs_3376 ho_3377 => jk_frz (enc := encI64) (hs := hh_3154) (xss := xt_3153) (o := o_3365) (T := 2) (xs := xs_5) (sp := sp_3367) 1 2 xs_5.length cap_3366 hI_3161 (jkO (qh [0] (qe (jx_inn (jx_then (jc_region (qh [0,0,0] (qe (qb ((xt_3153 ++ [xs_5]), (w64 (i_2 + 1))) ⟨(hh_3154 ++ [(Hd.mk (o_3365.map fun b => ⟨b, 0, none⟩) xs_5.length cap_3366)]), o_3373, cap_3374, sp_3375, (hh_3154 ++ [(Hd.mk (o_3365.map fun b => ⟨b, 0, none⟩) xs_5.length cap_3366)]).length⟩ h ⟨rfl, hs_3376, ho_3377, (hI_3161.snoc (o := o_3365) rfl (fun e => (ho_3370 e).1))⟩ [0, 1])))))))))))
   ·refine jc_exit (jx_thenx (jx_leave xt_3153 (Option.some.inj h).symm (fun e_3442 => ?_)))
    subst e_3442
    exact jx_ine (qm ⟨xt_3153, hh_3154, o_3155, cap_3156, sp_3157, hh_3154.length⟩ ⟨hr_3162, rfl, hs_3159, ho_3160, hI_3161⟩ [0, 1])
  ·rintro ⟨xt_2579, hh_2580, o_2581, cap_2582, sp_2583, n_2584⟩ ⟨h, rfl, hs_2585, ho_2586, hI_2587⟩
   replace h : spec_l05Table.k_1 xt_2579 = some r := h
   rw [spec_l05Table.k_1] at h
   refine jx_then (jc_seq (jc_region (qh [0,0] (qe (jx_then (jc_ret ?_))))))
   obtain rfl := Option.some.inj h
   exact qr [] (fun w hm => ⟨o_2581, cap_2582, sp_2583, hh_2580.length, hh_2580, hI_2587, rfl, hs_2585, ho_2586, rfl, hm.pk [0, 1]⟩)
/-! ### spec.l05Rest -/
def spec_l05Rest.k_8 (at1 : Int) (left2 : Int) (xt_198 : List (List Int)) (i_7 : Int) : Option (Int × (List (List Int))) := (ix xt_198 at1).bind fun x_9 => (ix x_9 left2).bind fun x_10 => some (i_7, (xt_198.set at1.toNat (x_9.set left2.toNat i_7)))
def spec_l05Rest.l_13 (self_ : (List (List Int)) → Int → Int → Bool → (List (List Int)) → Option (Int × (List (List Int)))) (table0 : List (List Int)) (at1 : Int) (left2 : Int) (circle3 : Bool) : ((List (List Int)) × Int × Int) → Option (((List (List Int)) × Int × Int) ⊕ (((List (List Int)) × Int)))
  | (xt_238, i_11, i_12) => (if (decide (i_12 < (table0.length : Int))) = true then (if 0 ≤ (u64 i_12) then (if ((Int.tmod (bShr .i64 left2 (u64 i_12)) 2) == 0) = true then some (.inl (xt_238, i_11, (w64 (i_12 + 1)))) else (ix table0 at1).bind fun x_15 => (ix x_15 i_12).bind fun x_16 => (if 0 ≤ (u64 i_12) then (self_ table0 i_12 (bXor .i64 left2 (bShl .i64 1 (u64 i_12))) circle3 xt_238).bind fun t_17 => (if ((decide (i_11 < 0)) || (decide ((w64 (x_16 + t_17.1)) < i_11))) = true then some (.inl (t_17.2, (w64 (x_16 + t_17.1)), (w64 (i_12 + 1)))) else some (.inl (t_17.2, i_11, (w64 (i_12 + 1))))) else none)) else none) else some (.inr (xt_238, i_11)))
def spec_l05Rest.step (self_ : (List (List Int)) → Int → Int → Bool → (List (List Int)) → Option (Int × (List (List Int)))) (table0 : List (List Int)) (at1 : Int) (left2 : Int) (circle3 : Bool) (known4 : List (List Int)) : Option (Int × (List (List Int))) := (if (left2 == 0) = true then (if circle3 = true then (ix table0 at1).bind fun x_1 => (ix x_1 0).bind fun x_2 => some (x_2, known4) else some (0, known4)) else (ix known4 at1).bind fun x_3 => (ix x_3 left2).bind fun x_4 => (if (decide (x_4 ≥ 0)) = true then (ix known4 at1).bind fun x_5 => (ix x_5 left2).bind fun x_6 => some (x_6, known4) else (loop (spec_l05Rest.l_13 self_ table0 at1 left2 circle3) (known4, (-1), 0)).bind fun t_14 => spec_l05Rest.k_8 at1 left2 t_14.1 t_14.2))
def spec_l05Rest.rec_ : Nat → (List (List Int)) → Int → Int → Bool → (List (List Int)) → Option (Int × (List (List Int)))
  | 0 => fun table0 at1 left2 circle3 known4 => none
  | fu + 1 => spec_l05Rest.step (spec_l05Rest.rec_ fu)
def spec_l05Rest (table0 : List (List Int)) (at1 : Int) (left2 : Int) (circle3 : Bool) (known4 : List (List Int)) : Option (Int × (List (List Int))) := spec_l05Rest.rec_ 16 table0 at1 left2 circle3 known4
theorem spec_l05Rest.step_calls (self_ : (List (List Int)) → Int → Int → Bool → (List (List Int)) → Option (Int × (List (List Int)))) (hself : ∀ (table0 : List (List Int)) (at1 : Int) (left2 : Int) (circle3 : Bool) (known4 : List (List Int)) (w : World) (r : Int × (List (List Int))) {A_a : Option Addr} {A_an : Nat} (A_c : Nat) {A_hs : List Hd} (A_h : Rw w A_a 1 encHd A_hs) (A_hn : table0.length = A_an) {E_a : Option Addr} {E_an : Nat} (E_c : Nat) {E_hs : List Hd} (E_h : Rw w E_a 1 encHd E_hs) (E_hn : known4.length = E_an) (E_I : InP E_hs known4) (E_D : Dst E_hs) (hm0 : Mem w (hbs E_hs) [⟨none, CLU, cluC encI64 E_hs known4⟩] w) (A_ha : A_hs ≠ [] → aB A_a ∉ hbs E_hs) (A_i : Inn w (hbs E_hs) 1 encI64 A_hs table0) (E_ha : E_hs ≠ [] → aB E_a ∉ hbs E_hs) (h : self_ table0 at1 left2 circle3 known4 = some r),
    Calls Try.prog 103 #[(.slice A_a A_an A_c), (.int .i64 at1), (.int .i64 left2), (.bool circle3), (.slice E_a E_an E_c)] w fun e w' => ∃ v, e = .returned v ∧ (InP E_hs r.2 ∧ v = (.int .i64 r.1) ∧ Mem w (hbs E_hs) [⟨none, CLU, cluC encI64 E_hs r.2⟩] w')) (table0 : List (List Int)) (at1 : Int) (left2 : Int) (circle3 : Bool) (known4 : List (List Int)) (w : World) (r : Int × (List (List Int))) {A_a : Option Addr} {A_an : Nat} (A_c : Nat) {A_hs : List Hd} (A_h : Rw w A_a 1 encHd A_hs) (A_hn : table0.length = A_an) {E_a : Option Addr} {E_an : Nat} (E_c : Nat) {E_hs : List Hd} (E_h : Rw w E_a 1 encHd E_hs) (E_hn : known4.length = E_an) (E_I : InP E_hs known4) (E_D : Dst E_hs) (hm0 : Mem w (hbs E_hs) [⟨none, CLU, cluC encI64 E_hs known4⟩] w) (A_ha : A_hs ≠ [] → aB A_a ∉ hbs E_hs) (A_i : Inn w (hbs E_hs) 1 encI64 A_hs table0) (E_ha : E_hs ≠ [] → aB E_a ∉ hbs E_hs) (h : spec_l05Rest.step self_ table0 at1 left2 circle3 known4 = some r) :
    Calls Try.prog 103 #[(.slice A_a A_an A_c), (.int .i64 at1), (.int .i64 left2), (.bool circle3), (.slice E_a E_an E_c)] w fun e w' => ∃ v, e = .returned v ∧ (InP E_hs r.2 ∧ v = (.int .i64 r.1) ∧ Mem w (hbs E_hs) [⟨none, CLU, cluC encI64 E_hs r.2⟩] w') := by
  subst A_hn E_hn
  rw [spec_l05Rest.step] at h
  refine enter (args := [(.slice A_a table0.length A_c), (.int .i64 at1), (.int .i64 left2), (.bool circle3), (.slice E_a known4.length E_c)]) Try.func103 rfl Try.ntmps103 (by kernel_rfl) (L := [⟨none, CLU, cluC encI64 E_hs known4⟩]) (W := hbs E_hs) hm0 ?_
  refine jc_seq (jc_region (qh [0] (qe (jx_then (jc_seq (jc_seq (jc_region (qh [0,0] (qe (jx_then (qi h (fun h => ?_) (fun h => ?_))))))))))))
  ·refine jc_seq (jc_seq (jc_region (qh [0] (qe (jx_then (qi h (fun h => ?_) (fun h => ?_)))))))
   ·refine jc_seq (jc_region (qh [0,0] ?_))
    obtain ⟨x_1, hx_7, h⟩ := bd h
    refine tO (qx 0 A_a 1 hx_7 rfl (A_h.sp (A_i.ixh hx_7)) (jkO (tO (ql 0 false (fun w hm => ((hm.exRowW A_h A_ha).at (A_i.ixh hx_7))) (jkO ?_)))))
    obtain ⟨x_2, hx_8, h⟩ := bd h
    refine tO (qx 0 (hd A_hs at1).a 1 hx_8 (A_i.get hx_7).2.1 ((A_i.get hx_7).1.sp hx_8) (jkO (tO (ql 0 false (fun w hm => ((hm.exRowW (A_i.get hx_7).1 (A_i.get hx_7).2.2).at hx_8)) (jkO (qh [0] (qe (jx_then (jc_ret (jx_thenr (jx_thenr ?_)))))))))))
    obtain rfl := Option.some.inj h
    exact qr [] (fun w hm => ⟨E_I, rfl, hm.pk [0]⟩)
   ·refine jc_skip (jx_then (jc_seq (jc_region (qh [0] (qe (jx_then (jc_ret (jx_thenr ?_))))))))
    obtain rfl := Option.some.inj h
    exact qr [] (fun w hm => ⟨E_I, rfl, hm.pk [0]⟩)
  ·refine jc_skip (jx_then (jc_seq (jc_seq (jc_region (qh [0,0] ?_)))))
   obtain ⟨x_3, hx_14, h⟩ := bd h
   refine tO (qx 0 E_a 1 hx_14 (E_I.1.symm.trans E_I.1) (E_h.sp (E_I.ixh hx_14)) (jkO (tO (ql 0 false (fun w hm => ((hm.exRowW E_h E_ha).at (E_I.ixh hx_14))) (jkO (qh [0] ?_))))))
   obtain ⟨x_4, hx_15, h⟩ := bd h
   refine tO (qx 0 (hd E_hs at1).a 1 hx_15 (E_I.get hx_14).1 (E_I.sp hx_14 hx_15) (jkO (tO (ql 0 false (fun w hm => (((hm.cluInn 0 E_I encI64_len).get hx_14).1.at hx_15)) (jkO (qh [0] (qe (jx_then (qi h (fun h => ?_) (fun h => ?_))))))))))
   ·refine jc_seq (jc_region (qh [0,0] ?_))
    obtain ⟨x_5, hx_17, h⟩ := bd h
    refine tO (qx 0 E_a 1 hx_17 (E_I.1.symm.trans E_I.1) (E_h.sp (E_I.ixh hx_17)) (jkO (tO (ql 0 false (fun w hm => ((hm.exRowW E_h E_ha).at (E_I.ixh hx_17))) (jkO (qh [0] ?_))))))
    obtain ⟨x_6, hx_18, h⟩ := bd h
    refine tO (qx 0 (hd E_hs at1).a 1 hx_18 (E_I.get hx_17).1 (E_I.sp hx_17 hx_18) (jkO (tO (ql 0 false (fun w hm => (((hm.cluInn 0 E_I encI64_len).get hx_17).1.at hx_18)) (jkO (qh [0] (qe (jx_then (jc_ret (jx_thenr ?_))))))))))
    obtain rfl := Option.some.inj h
    exact qr [] (fun w hm => ⟨E_I, rfl, hm.pk [0]⟩)
   ·refine jc_skip (jx_then (jc_seq (jc_region (qh [0] (qe (jx_then (jc_seq (jc_seq (jc_region (qh [0] (qe (jx_then (jc_meet (fun (j : (List (List Int)) × Int) => match j with | ⟨xt_198, i_7⟩ => spec_l05Rest.k_8 at1 left2 xt_198 i_7 = some r ∧ (InP E_hs xt_198)) (fun (j : (List (List Int)) × Int) => match j with | ⟨xt_198, i_7⟩ => [(1, [], (.int .i64 at1)), (2, [], (.int .i64 left2)), (4, [], (.slice E_a known4.length E_c)), (10, [], (.int .i64 0)), (11, [], (.int .i64 i_7))]) (fun (j : (List (List Int)) × Int) => match j with | ⟨xt_198, i_7⟩ => [⟨none, CLU, cluC encI64 E_hs xt_198⟩]) ?_ ?_)))))))))))))
    ·refine jc_block ?_
     obtain ⟨t_14, ht_260, hr_240⟩ := bd h
     refine jc_loop (fun (s : (List (List Int)) × Int × Int) (x : Unit) => match s, x with | ⟨xt_238, i_11, i_12⟩, _ => (InP E_hs xt_238)) (fun (s : (List (List Int)) × Int × Int) (x : Unit) => match s, x with | ⟨xt_238, i_11, i_12⟩, _ => [(0, [], (.slice A_a table0.length A_c)), (1, [], (.int .i64 at1)), (2, [], (.int .i64 left2)), (3, [], (.bool circle3)), (4, [], (.slice E_a known4.length E_c)), (10, [], (.int .i64 0)), (11, [], (.int .i64 i_11)), (12, [], (.int .i64 i_12))]) (fun (s : (List (List Int)) × Int × Int) (x : Unit) => match s, x with | ⟨xt_238, i_11, i_12⟩, _ => [⟨none, CLU, cluC encI64 E_hs xt_238⟩]) ht_260 () E_I (by kernel_rfl) [0] (by kernel_rfl) (by kernel_rfl) ?_
     rintro ⟨xt_238, i_11, i_12⟩ _ y_241 hI_239 h
     rw [spec_l05Rest.l_13] at h
     refine jc_seq (jc_seq (jc_region (qh [0,0,0,0] (qe (jx_then (qi h (fun h => ?_) (fun h => ?_)))))))
     ·refine jc_skip (jx_then (jc_seq (jc_block (jc_seq (jc_seq (jc_region (qh [0,0,0] ?_)))))))
      obtain ⟨hg_246, h⟩ := gd h
      refine tO (p_shr 0 .i64 left2 .u64 (u64 i_12) (by kernel_rfl) (by kernel_rfl) hg_246 (jkO (qh [0,0] (qe (jx_then (qi h (fun h => ?_) (fun h => ?_)))))))
      ·exact jc_exit (jx_thenx (jx_ine (jx_then (jc_region (qh [0,0,0] (qe (qb (xt_238, i_11, (w64 (i_12 + 1))) () h hI_239 [0])))))))
      ·refine jc_skip (jx_then (jc_seq (qg [] 19 (qd [⟨0, 0, 0⟩,⟨1, 0, 0⟩,⟨4, 0, 0⟩,⟨7, 0, 0⟩,⟨8, 0, 0⟩,⟨9, 0, 0⟩,⟨10, 0, 0⟩,⟨11, 0, 0⟩,⟨14, 0, 0⟩,⟨15, 0, 0⟩] 9 [] ?_))))
       obtain ⟨x_15, hx_253, h⟩ := bd h
       refine qv 2 0 [] (fun w hm => idx_run (a := A_a) (len := table0.length) (s := 1) (j := at1) (by kernel_rfl) (ix_some hx_253).1 (ltn hx_253 rfl) (A_h.sp (A_i.ixh hx_253))) (qv 3 0 [] (fun w hm => ld_run (b := aB A_a) (off := (aO A_a + at1.toNat * 1)) (s := 1) (agg := false) (vs := encHd (hd A_hs at1)) (by kernel_rfl) (by kernel_rfl) (.inr rfl) ((hm.exRowW A_h A_ha).at (A_i.ixh hx_253))) ?_)
       obtain ⟨x_16, hx_254, h⟩ := bd h
       refine qv 5 0 [] (fun w hm => idx_run (a := (hd A_hs at1).a) (len := ((hd A_hs at1).n)) (s := 1) (j := i_12) (by kernel_rfl) (ix_some hx_254).1 (ltn hx_254 (A_i.get hx_253).2.1) ((A_i.get hx_253).1.sp hx_254)) (qv 6 0 [] (fun w hm => ld_run (b := aB (hd A_hs at1).a) (off := (aO (hd A_hs at1).a + i_12.toNat * 1)) (s := 1) (agg := false) (vs := (encI64 x_16)) (by kernel_rfl) (by kernel_rfl) (.inr rfl) ((hm.exRowW (A_i.get hx_253).1 (A_i.get hx_253).2.2).at hx_254)) ?_)
       obtain ⟨hg_255, h⟩ := gd h
       refine tD 12 (p_shl 0 .i64 1 .u64 (u64 i_12) (by kernel_rfl) (by kernel_rfl) hg_255 (kD [] (qd [⟨13, 0, 0⟩] 3 [] ?_)))
       obtain ⟨t_17, ht_256, h⟩ := bd h
       refine tD 16 (pc 0 (fun w hm => hself table0 i_12 (bXor .i64 left2 (bShl .i64 1 (u64 i_12))) circle3 xt_238 w _ A_c (hm.exRowW A_h A_ha) rfl E_c (hm.exRowW E_h E_ha) (hI_239.1.symm.trans E_I.1) hI_239 E_D (hm.cluM 0 hI_239) (hm.exApartM (enc := encI64) 0 hI_239 A_h A_ha) (hm.innPassM (enc := encI64) 0 hI_239 A_i) E_ha ht_256) ?_)
       rintro w v w' hm ⟨hI_257, rfl, hm'⟩
       refine ⟨_, hm.appC 0 hI_239 hm', kD [] ?_⟩
       clear hm hm'
       refine qd [⟨17, 0, 0⟩,⟨18, 0, 0⟩] 0 [] (qz (jx_then (jc_seq (jc_region (qf [(0, 0), (0, 0), (0, 0), (0, 1), (0, 1), (0, 1), (0, 0)] (qe (jx_then (qi h (fun h => ?_) (fun h => ?_)))))))))
       ·exact jc_region (qh [0,0] (qe (jx_inn (jx_then (jc_region (qh [0,0,0] (qe (qb (t_17.2, (w64 (x_16 + t_17.1)), (w64 (i_12 + 1))) () h hI_257 [0]))))))))
       ·exact jc_skip (jx_inn (jx_then (jc_region (qh [0,0,0] (qe (qb (t_17.2, i_11, (w64 (i_12 + 1))) () h hI_257 [0]))))))
     ·refine jc_exit (jx_thenx (jx_leave (xt_238, i_11) (Option.some.inj h).symm (fun e_259 => ?_)))
      subst e_259
      exact jx_ine (qm ⟨xt_238, i_11⟩ ⟨hr_240, hI_239⟩ [0])
    ·rintro ⟨xt_198, i_7⟩ ⟨h, hI_199⟩
     replace h : spec_l05Rest.k_8 at1 left2 xt_198 i_7 = some r := h
     rw [spec_l05Rest.k_8] at h
     refine jx_then (jc_seq (jc_region (qh [0,0] ?_)))
     obtain ⟨x_9, hx_200, h⟩ := bd h
     refine tO (qx 0 E_a 1 hx_200 (hI_199.1.symm.trans E_I.1) (E_h.sp (hI_199.ixh hx_200)) (jkO (tO (ql 0 false (fun w hm => ((hm.exRowW E_h E_ha).at (hI_199.ixh hx_200))) (jkO (qh [0,0] ?_))))))
     obtain ⟨x_10, hx_201, h⟩ := bd h
     refine tO (qx 0 (hd E_hs at1).a 1 hx_201 (hI_199.get hx_200).1 (hI_199.sp hx_200 hx_201) (jkO (tO (p_strM 0 0 encI64 E_hs xt_198 at1 left2 x_9 x_10 i_7 1 (by kernel_rfl) (by kernel_rfl) (by kernel_rfl) (by kernel_rfl) hI_199 E_D hx_200 hx_201 encI64_len (by kernel_rfl) (jkO (qe (jx_then (jc_seq (jc_region (qh [0,0] (qe (jx_then (jc_ret ?_)))))))))))))
     obtain rfl := Option.some.inj h
     exact qr [] (fun w hm => ⟨(hI_199.set hx_200 List.length_set), rfl, hm.pk [0]⟩)
theorem spec_l05Rest.rec_calls (fu : Nat) : ∀ (table0 : List (List Int)) (at1 : Int) (left2 : Int) (circle3 : Bool) (known4 : List (List Int)) (w : World) (r : Int × (List (List Int))) {A_a : Option Addr} {A_an : Nat} (A_c : Nat) {A_hs : List Hd} (A_h : Rw w A_a 1 encHd A_hs) (A_hn : table0.length = A_an) {E_a : Option Addr} {E_an : Nat} (E_c : Nat) {E_hs : List Hd} (E_h : Rw w E_a 1 encHd E_hs) (E_hn : known4.length = E_an) (E_I : InP E_hs known4) (E_D : Dst E_hs) (hm0 : Mem w (hbs E_hs) [⟨none, CLU, cluC encI64 E_hs known4⟩] w) (A_ha : A_hs ≠ [] → aB A_a ∉ hbs E_hs) (A_i : Inn w (hbs E_hs) 1 encI64 A_hs table0) (E_ha : E_hs ≠ [] → aB E_a ∉ hbs E_hs) (h : spec_l05Rest.rec_ fu table0 at1 left2 circle3 known4 = some r),
    Calls Try.prog 103 #[(.slice A_a A_an A_c), (.int .i64 at1), (.int .i64 left2), (.bool circle3), (.slice E_a E_an E_c)] w fun e w' => ∃ v, e = .returned v ∧ (InP E_hs r.2 ∧ v = (.int .i64 r.1) ∧ Mem w (hbs E_hs) [⟨none, CLU, cluC encI64 E_hs r.2⟩] w') := by
  induction fu with
  | zero => intros; rename_i h; cases h
  | succ fu ih => exact @spec_l05Rest.step_calls _ (spec_l05Rest.rec_ fu) @ih
theorem spec_l05Rest.calls (table0 : List (List Int)) (at1 : Int) (left2 : Int) (circle3 : Bool) (known4 : List (List Int)) (w : World) (r : Int × (List (List Int))) {A_a : Option Addr} {A_an : Nat} (A_c : Nat) {A_hs : List Hd} (A_h : Rw w A_a 1 encHd A_hs) (A_hn : table0.length = A_an) {E_a : Option Addr} {E_an : Nat} (E_c : Nat) {E_hs : List Hd} (E_h : Rw w E_a 1 encHd E_hs) (E_hn : known4.length = E_an) (E_I : InP E_hs known4) (E_D : Dst E_hs) (hm0 : Mem w (hbs E_hs) [⟨none, CLU, cluC encI64 E_hs known4⟩] w) (A_ha : A_hs ≠ [] → aB A_a ∉ hbs E_hs) (A_i : Inn w (hbs E_hs) 1 encI64 A_hs table0) (E_ha : E_hs ≠ [] → aB E_a ∉ hbs E_hs) (h : spec_l05Rest table0 at1 left2 circle3 known4 = some r) :
    Calls Try.prog 103 #[(.slice A_a A_an A_c), (.int .i64 at1), (.int .i64 left2), (.bool circle3), (.slice E_a E_an E_c)] w fun e w' => ∃ v, e = .returned v ∧ (InP E_hs r.2 ∧ v = (.int .i64 r.1) ∧ Mem w (hbs E_hs) [⟨none, CLU, cluC encI64 E_hs r.2⟩] w') :=
  spec_l05Rest.rec_calls 16 table0 at1 left2 circle3 known4 w r A_c A_h A_hn E_c E_h E_hn E_I E_D hm0 A_ha A_i E_ha h
/-! ### spec.l05Best -/
def spec_l05Best.k_4 (t_2 : Int × (List (List Int))) (xt_1676 : List (List Int)) (xs_3 : List Int) : Option ((List Int) × Int) := some (xs_3, t_2.1)
def spec_l05Best.k_15 (xt_2507 : List (List Int)) (xs_11 : List Int) (i_12 : Int) (i_13 : Int) (i_14 : Int) : Option (((List (List Int)) × (List Int) × Int × Int × Int) ⊕ (((List (List Int)) × (List Int)))) := some (.inl (xt_2507, xs_11, i_12, i_13, i_14))
def spec_l05Best.l_17 (table0 : List (List Int)) (circle2 : Bool) (xs_5 : List Int) (i_6 : Int) (i_7 : Int) (i_8 : Int) : ((List (List Int)) × Int) → Option (((List (List Int)) × Int) ⊕ (((List (List Int)) × (List Int) × Int × Int × Int)))
  | (xt_2557, i_16) => (if (decide (i_16 < (table0.length : Int))) = true then (if 0 ≤ (u64 i_16) then (if ((Int.tmod (bShr .i64 i_6 (u64 i_16)) 2) == 0) = true then some (.inl (xt_2557, (w64 (i_16 + 1)))) else (if 0 ≤ (u64 i_16) then (spec_l05Rest table0 i_16 (bXor .i64 i_6 (bShl .i64 1 (u64 i_16))) circle2 xt_2557).bind fun t_19 => (ix table0 i_7).bind fun x_20 => (ix x_20 i_16).bind fun x_21 => (if ((w64 (x_21 + t_19.1)) == i_8) = true then (if xs_5.length + ([i_16] : List Int).length ≤ 4294967296 then (if 0 ≤ (u64 i_16) then some (.inr (t_19.2, (xs_5 ++ ([i_16] : List Int)), (bXor .i64 i_6 (bShl .i64 1 (u64 i_16))), i_16, t_19.1)) else none) else none) else some (.inl (t_19.2, (w64 (i_16 + 1))))) else none)) else none) else some (.inr (xt_2557, xs_5, i_6, i_7, i_8)))
def spec_l05Best.l_9 (table0 : List (List Int)) (circle2 : Bool) : ((List (List Int)) × (List Int) × Int × Int × Int) → Option (((List (List Int)) × (List Int) × Int × Int × Int) ⊕ (((List (List Int)) × (List Int))))
  | (xt_2280, xs_5, i_6, i_7, i_8) => (if (i_6 != 0) = true then (loop (spec_l05Best.l_17 table0 circle2 xs_5 i_6 i_7 i_8) (xt_2280, 0)).bind fun t_18 => spec_l05Best.k_15 t_18.1 t_18.2.1 t_18.2.2.1 t_18.2.2.2.1 t_18.2.2.2.2 else some (.inr (xt_2280, xs_5)))
def spec_l05Best.k_1 (table0 : List (List Int)) (first1 : Int) (circle2 : Bool) (xt_759 : List (List Int)) : Option ((List Int) × Int) := (if 0 ≤ (u64 (table0.length : Int)) then (if 0 ≤ (u64 first1) then (spec_l05Rest table0 first1 (bXor .i64 (w64 ((bShl .i64 1 (u64 (table0.length : Int))) - 1)) (bShl .i64 1 (u64 first1))) circle2 xt_759).bind fun t_2 => (loop (spec_l05Best.l_9 table0 circle2) (t_2.2, ([first1] : List Int), (bXor .i64 (w64 ((bShl .i64 1 (u64 (table0.length : Int))) - 1)) (bShl .i64 1 (u64 first1))), first1, t_2.1)).bind fun t_10 => spec_l05Best.k_4 t_2 t_10.1 t_10.2 else none) else none)
def spec_l05Best.k_26 (xt_2746 : List (List Int)) (i_22 : Int) (xs_25 : List Int) : Option (((List (List Int)) × Int) ⊕ ((List (List Int)))) := (if xt_2746.length + 1 ≤ 4294967296 then some (.inl ((xt_2746 ++ [xs_25]), (w64 (i_22 + 1)))) else none)
def spec_l05Best.l_29 (table0 : List (List Int)) : ((List Int) × Int) → Option (((List Int) × Int) ⊕ ((List Int)))
  | (xs_27, i_28) => (if (decide (i_28 < (((bShl .i64 1 (u64 (table0.length : Int))).toNat) : Int))) = true then (ix xs_27 i_28).bind fun x_31 => some (.inl ((xs_27.set i_28.toNat (-1)), (w64 (i_28 + 1)))) else some (.inr xs_27))
def spec_l05Best.l_23 (table0 : List (List Int)) : ((List (List Int)) × Int) → Option (((List (List Int)) × Int) ⊕ ((List (List Int))))
  | (xt_2746, i_22) => (if (decide (i_22 < (table0.length : Int))) = true then (if 0 ≤ (u64 (table0.length : Int)) then (if 0 ≤ (bShl .i64 1 (u64 (table0.length : Int))) ∧ (bShl .i64 1 (u64 (table0.length : Int))) ≤ 17592186044416 then (loop (spec_l05Best.l_29 table0) ((List.replicate (bShl .i64 1 (u64 (table0.length : Int))).toNat 0), 0)).bind fun t_30 => spec_l05Best.k_26 xt_2746 i_22 t_30 else none) else none) else some (.inr xt_2746))
def spec_l05Best (table0 : List (List Int)) (first1 : Int) (circle2 : Bool) : Option ((List Int) × Int) := (loop (spec_l05Best.l_23 table0) (([] : List (List Int)), 0)).bind fun t_24 => spec_l05Best.k_1 table0 first1 circle2 t_24
set_option maxHeartbeats 8000000 in
theorem spec_l05Best.calls (table0 : List (List Int)) (first1 : Int) (circle2 : Bool) (w : World) (r : (List Int) × Int) {A_a : Option Addr} {A_an : Nat} (A_c : Nat) {A_hs : List Hd} (A_h : Rw w A_a 1 encHd A_hs) (A_hn : table0.length = A_an) (A_i : Inn w [] 1 encI64 A_hs table0) (h : spec_l05Best table0 first1 circle2 = some r) :
    Calls Try.prog 50 #[(.slice A_a A_an A_c), (.int .i64 first1), (.bool circle2)] w fun e w' => ∃ v, e = .returned v ∧ (∃ (o0 : Option Nat) (c0 : Nat) (s0 : List Value) (n0 : Nat), r.1.length = n0 ∧ (o0 ≠ none → n0 ≤ c0 ∧ s0.length = (c0 - n0) * 1) ∧ (o0 = none → r.1 = [] ∧ c0 = 0) ∧ v = .tuple #[.slice (o0.map fun b => ⟨b, 0, none⟩) n0 c0, (.int .i64 r.2)] ∧ Mem w [] [⟨o0, 2, row encI64 r.1 s0⟩] w') := by
  subst A_hn
  rw [spec_l05Best] at h
  refine enter (args := [(.slice A_a table0.length A_c), (.int .i64 first1), (.bool circle2)]) Try.func50 rfl Try.ntmps50 (by kernel_rfl) (L := []) (W := []) (Mem.start w) ?_
  refine jc_seq (jc_region (qh [0,0] (qe (jx_then (jc_seq (jc_region (qh [0,0,0] (qe (jx_then (jc_seq (jc_region (tO (qa 0 (fun b_1 => jk_clu encI64 (jkO (qh [0] (qe (jx_then (jc_seq (jc_seq (jc_region (qh [0] (qe (jx_then (jc_meet (fun (j : (List (List Int)) × (List Hd) × (Option Nat) × Nat × (List Value) × Nat) => match j with | ⟨xt_759, hh_760, o_761, cap_762, sp_763, n_764⟩ => spec_l05Best.k_1 table0 first1 circle2 xt_759 = some r ∧ (hh_760.length = n_764) ∧ ((o_761 ≠ none → n_764 ≤ cap_762 ∧ sp_763.length = (cap_762 - n_764) * 1)) ∧ ((o_761 = none → hh_760 = [] ∧ cap_762 = 0)) ∧ (InP hh_760 xt_759) ∧ (Dst hh_760)) (fun (j : (List (List Int)) × (List Hd) × (Option Nat) × Nat × (List Value) × Nat) => match j with | ⟨xt_759, hh_760, o_761, cap_762, sp_763, n_764⟩ => [(0, [], (.slice A_a table0.length A_c)), (1, [], (.int .i64 first1)), (2, [], (.bool circle2)), (6, [], (.slice none 0 0)), (7, [], (.int .i64 0)), (8, [], (.int .i64 (table0.length : Int))), (9, [], (.slice (o_761.map fun b => ⟨b, 0, none⟩) n_764 cap_762))]) (fun (j : (List (List Int)) × (List Hd) × (Option Nat) × Nat × (List Value) × Nat) => match j with | ⟨xt_759, hh_760, o_761, cap_762, sp_763, n_764⟩ => [⟨o_761, 29, row encHd hh_760 sp_763⟩, ⟨none, CLU, cluC encI64 hh_760 xt_759⟩]) ?_ ?_)))))))))))))))))))))))))
  ·refine jc_block ?_
   obtain ⟨t_24, ht_2834, hr_2756⟩ := bd h
   refine jc_loop (fun (s : (List (List Int)) × Int) (x : (List Hd) × (Option Nat) × Nat × (List Value) × Nat) => match s, x with | ⟨xt_2746, i_22⟩, ⟨hh_2747, o_2748, cap_2749, sp_2750, n_2751⟩ => (hh_2747.length = n_2751) ∧ ((o_2748 ≠ none → n_2751 ≤ cap_2749 ∧ sp_2750.length = (cap_2749 - n_2751) * 1)) ∧ ((o_2748 = none → hh_2747 = [] ∧ cap_2749 = 0)) ∧ (InP hh_2747 xt_2746) ∧ (Dst hh_2747)) (fun (s : (List (List Int)) × Int) (x : (List Hd) × (Option Nat) × Nat × (List Value) × Nat) => match s, x with | ⟨xt_2746, i_22⟩, ⟨hh_2747, o_2748, cap_2749, sp_2750, n_2751⟩ => [(0, [], (.slice A_a table0.length A_c)), (1, [], (.int .i64 first1)), (2, [], (.bool circle2)), (6, [], (.slice none 0 0)), (7, [], (.int .i64 0)), (8, [], (.int .i64 (table0.length : Int))), (9, [], (.slice (o_2748.map fun b => ⟨b, 0, none⟩) n_2751 cap_2749)), (10, [], (.int .i64 i_22))]) (fun (s : (List (List Int)) × Int) (x : (List Hd) × (Option Nat) × Nat × (List Value) × Nat) => match s, x with | ⟨xt_2746, i_22⟩, ⟨hh_2747, o_2748, cap_2749, sp_2750, n_2751⟩ => [⟨o_2748, 29, row encHd hh_2747 sp_2750⟩, ⟨none, CLU, cluC encI64 hh_2747 xt_2746⟩]) ht_2834 ⟨([] : List Hd), (some b_1), 0, [], 0⟩ ⟨rfl, (fun _ => ⟨Nat.le_refl _, by simp⟩), (fun e => nomatch e), InP.nil, Dst.nil⟩ (by kernel_rfl) [0, 1] (by kernel_rfl) (by kernel_rfl) ?_
   rintro ⟨xt_2746, i_22⟩ ⟨hh_2747, o_2748, cap_2749, sp_2750, n_2751⟩ y_2757 ⟨rfl, hs_2752, ho_2753, hI_2754, hD_2755⟩ h
   rw [spec_l05Best.l_23] at h
   refine jc_seq (jc_seq (jc_region (qh [0,0,0] (qe (jx_then (qi h (fun h => ?_) (fun h => ?_)))))))
   ·refine jc_skip (jx_then (jc_seq (jc_block (jc_seq (jc_region (qh [0,0] ?_))))))
    obtain ⟨hg_2760, h⟩ := gd h
    refine tO (p_shl 0 .i64 1 .u64 (u64 (table0.length : Int)) (by kernel_rfl) (by kernel_rfl) hg_2760 (jkO ?_))
    obtain ⟨hg_2832, h⟩ := gd h
    refine tO (p_mk 0 2 (bShl .i64 1 (u64 (table0.length : Int))) 1 8 encI64 0 (by kernel_rfl) (by kernel_rfl) hg_2832.1 (by omega) (by kernel_rfl) (fun b_2761 => jkO (qh [0] (qe (jx_then (jc_seq (jc_seq (jc_region (qh [0] (qe (jx_then (jc_meet (fun (j : (List Int)) => match j with | xs_25 => spec_l05Best.k_26 xt_2746 i_22 xs_25 = some y_2757 ∧ (xs_25.length = (bShl .i64 1 (u64 (table0.length : Int))).toNat)) (fun (j : (List Int)) => match j with | xs_25 => [(0, [], (.slice A_a table0.length A_c)), (1, [], (.int .i64 first1)), (2, [], (.bool circle2)), (6, [], (.slice none 0 0)), (7, [], (.int .i64 0)), (8, [], (.int .i64 (table0.length : Int))), (9, [], (.slice (o_2748.map fun b => ⟨b, 0, none⟩) hh_2747.length cap_2749)), (10, [], (.int .i64 i_22)), (11, [], (.slice (some ⟨b_2761, 0, none⟩) ((bShl .i64 1 (u64 (table0.length : Int))).toNat) ((bShl .i64 1 (u64 (table0.length : Int))).toNat)))]) (fun (j : (List Int)) => match j with | xs_25 => [⟨o_2748, 29, row encHd hh_2747 sp_2750⟩, ⟨none, CLU, cluC encI64 hh_2747 xt_2746⟩, ⟨(some b_2761), 2, row encI64 xs_25 []⟩]) ?_ ?_))))))))))))
    ·refine jc_block ?_
     obtain ⟨t_30, ht_2831, hr_2825⟩ := bd h
     refine jc_loop (fun (s : (List Int) × Int) (x : Unit) => match s, x with | ⟨xs_27, i_28⟩, _ => (xs_27.length = (bShl .i64 1 (u64 (table0.length : Int))).toNat)) (fun (s : (List Int) × Int) (x : Unit) => match s, x with | ⟨xs_27, i_28⟩, _ => [(0, [], (.slice A_a table0.length A_c)), (1, [], (.int .i64 first1)), (2, [], (.bool circle2)), (6, [], (.slice none 0 0)), (7, [], (.int .i64 0)), (8, [], (.int .i64 (table0.length : Int))), (9, [], (.slice (o_2748.map fun b => ⟨b, 0, none⟩) hh_2747.length cap_2749)), (10, [], (.int .i64 i_22)), (11, [], (.slice (some ⟨b_2761, 0, none⟩) ((bShl .i64 1 (u64 (table0.length : Int))).toNat) ((bShl .i64 1 (u64 (table0.length : Int))).toNat))), (12, [], (.int .i64 i_28))]) (fun (s : (List Int) × Int) (x : Unit) => match s, x with | ⟨xs_27, i_28⟩, _ => [⟨o_2748, 29, row encHd hh_2747 sp_2750⟩, ⟨none, CLU, cluC encI64 hh_2747 xt_2746⟩, ⟨(some b_2761), 2, row encI64 xs_27 []⟩]) ht_2831 () List.length_replicate (by kernel_rfl) [0, 1, 2] (by kernel_rfl) (by kernel_rfl) ?_
     rintro ⟨xs_27, i_28⟩ _ y_2826 hn_2824 h
     rw [spec_l05Best.l_29] at h
     refine jc_seq (jc_seq (jc_region (qh [0,0,0,0] (qe (jx_then (qi h (fun h => ?_) (fun h => ?_)))))))
     ·refine jc_skip (jx_then (jc_seq (jc_block (jc_region (qh [0,0] ?_)))))
      obtain ⟨x_31, hx_2829, h⟩ := bd h
      exact tO (qx 0 (some ⟨b_2761, 0, none⟩) 1 hx_2829 hn_2824 rfl (jkO (tO (p_str 0 2 b_2761 2 encI64 xs_27 [] i_28 (-1) 1 0 [(.int .i64 (-1))] (by kernel_rfl) (by kernel_rfl) (by kernel_rfl) encI64_len hx_2829 (by kernel_rfl) (by kernel_rfl) (jkO (qe (jx_inn (jx_then (jc_region (qh [0,0,0] (qe (qb ((xs_27.set i_28.toNat (-1)), (w64 (i_28 + 1))) () h (List.length_set.trans hn_2824) [0, 1, 2]))))))))))))
     ·refine jc_exit (jx_thenx (jx_leave xs_27 (Option.some.inj h).symm (fun e_2830 => ?_)))
      subst e_2830
      exact jx_ine (qm xs_27 ⟨hr_2825, hn_2824⟩ [0, 1, 2])
    ·rintro xs_25 ⟨h, hn_2808⟩
     replace h : spec_l05Best.k_26 xt_2746 i_22 xs_25 = some y_2757 := h
     rw [spec_l05Best.k_26] at h
     refine jx_then (jc_region (qh [0,0] (tO (qa 0 (fun b_2809 => jkO ?_)))))
     obtain ⟨hg_2810, h⟩ := gd h
     exact tO (p_apn 0 0 o_2748 29 hh_2747.length 1 cap_2749 1 24 (some ⟨b_2809, 0, none⟩) encHd hh_2747 [(Hd.mk (some ⟨b_2761, 0, none⟩) ((bShl .i64 1 (u64 (table0.length : Int))).toNat) ((bShl .i64 1 (u64 (table0.length : Int))).toNat))] sp_2750 (.slice none 0 0) rfl rfl (by kernel_rfl) (by kernel_rfl) (by kernel_rfl) encHd_len encHd_cell hs_2752 ho_2753 (fun w hm => (hm.ow 3 (some b_2809) 29 ([(Hd.mk (some ⟨b_2761, 0, none⟩) ((bShl .i64 1 (u64 (table0.length : Int))).toNat) ((bShl .i64 1 (u64 (table0.length : Int))).toNat))]) [] (fun e => nomatch e) encHd_len)) (tabbig hI_2754 hg_2810) (by kernel_rfl) (by kernel_rfl) (fun o_2811 cap_2812 sp_2813 hs_2814 ho_2815 => jk_frzD (enc := encI64) (hs := hh_2747) (xss := xt_2746) (o := (some b_2761)) (T := 2) (xs := xs_25) (sp := []) 1 2 ((bShl .i64 1 (u64 (table0.length : Int))).toNat) ((bShl .i64 1 (u64 (table0.length : Int))).toNat) hI_2754 hD_2755 (fun hD_2816 => jkO (qh [0] (qe (jx_inn (jx_then (jc_region (qh [0,0,0] (qe (qb ((xt_2746 ++ [xs_25]), (w64 (i_22 + 1))) ⟨(hh_2747 ++ [(Hd.mk (some ⟨b_2761, 0, none⟩) ((bShl .i64 1 (u64 (table0.length : Int))).toNat) ((bShl .i64 1 (u64 (table0.length : Int))).toNat))]), o_2811, cap_2812, sp_2813, (hh_2747 ++ [(Hd.mk (some ⟨b_2761, 0, none⟩) ((bShl .i64 1 (u64 (table0.length : Int))).toNat) ((bShl .i64 1 (u64 (table0.length : Int))).toNat))]).length⟩ h ⟨rfl, hs_2814, ho_2815, (hI_2754.snoc (o := (some b_2761)) hn_2808 (fun e => nomatch e)), hD_2816⟩ [0, 1])))))))))))
   ·refine jc_exit (jx_thenx (jx_leave xt_2746 (Option.some.inj h).symm (fun e_2833 => ?_)))
    subst e_2833
    exact jx_ine (qm ⟨xt_2746, hh_2747, o_2748, cap_2749, sp_2750, hh_2747.length⟩ ⟨hr_2756, rfl, hs_2752, ho_2753, hI_2754, hD_2755⟩ [0, 1])
  ·rintro ⟨xt_759, hh_760, o_761, cap_762, sp_763, n_764⟩ ⟨h, rfl, hs_765, ho_766, hI_767, hD_768⟩
   replace h : spec_l05Best.k_1 table0 first1 circle2 xt_759 = some r := h
   rw [spec_l05Best.k_1] at h
   refine jx_then (jc_seq (jc_region (qh [0,0] ?_)))
   obtain ⟨hg_769, h⟩ := gd h
   refine tO (p_shl 0 .i64 1 .u64 (u64 (table0.length : Int)) (by kernel_rfl) (by kernel_rfl) hg_769 (jkO (qh [0,0,0] ?_)))
   obtain ⟨hg_770, h⟩ := gd h
   refine tO (p_shl 0 .i64 1 .u64 (u64 first1) (by kernel_rfl) (by kernel_rfl) hg_770 (jkO (qh [0,0] (qe (jx_then (jc_seq (jc_region (qh [0,0,0,0,0] ?_))))))))
   obtain ⟨t_2, ht_771, h⟩ := bd h
   refine tO (pc 0 (fun w hm => spec_l05Rest.calls table0 first1 (bXor .i64 (w64 ((bShl .i64 1 (u64 (table0.length : Int))) - 1)) (bShl .i64 1 (u64 first1))) circle2 xt_759 w _ A_c (hm.xr A_h) rfl cap_762 (hm.ow 0 o_761 29 hh_760 sp_763 (fun e => (ho_766 e).1) encHd_len) (hI_767.1.symm.trans rfl) hI_767 hD_768 (hm.cluM 1 hI_767) (hm.exApartM (enc := encI64) 1 hI_767 A_h (fun _ => List.not_mem_nil)) (hm.innPassM (enc := encI64) 1 hI_767 A_i) (hm.ownApartM (enc := encI64) (R := Hd) (hh := 0) (o := o_761) (T := 29) (cs := row encHd hh_760 sp_763) (xs := hh_760) 1 hI_767 (by kernel_rfl) (fun e => (ho_766 e).1)) ht_771) ?_)
   rintro w v w' hm ⟨hI_772, rfl, hm'⟩
   refine ⟨_, hm.appC 1 hI_767 hm', jkO ?_⟩
   clear hm hm'
   refine qh [0] (qe (jx_then (jc_seq (jc_region (qh [0] (tO (qa 0 (fun b_773 => jkO (qh [0] (qe (jx_then (jc_seq (jc_region (qh [0,0] (qe (jx_then (jc_seq (jc_region (qh [0,0] (qe (jx_then (jc_seq (jc_meet (fun (j : (List (List Int)) × (List Int) × (Option Nat) × Nat × (List Value) × Nat) => match j with | ⟨xt_1676, xs_3, o_1678, cap_1679, sp_1680, n_1681⟩ => spec_l05Best.k_4 t_2 xt_1676 xs_3 = some r ∧ (InP hh_760 xt_1676) ∧ (xs_3.length = n_1681) ∧ ((o_1678 ≠ none → n_1681 ≤ cap_1679 ∧ sp_1680.length = (cap_1679 - n_1681) * 1)) ∧ ((o_1678 = none → xs_3 = [] ∧ cap_1679 = 0))) (fun (j : (List (List Int)) × (List Int) × (Option Nat) × Nat × (List Value) × Nat) => match j with | ⟨xt_1676, xs_3, o_1678, cap_1679, sp_1680, n_1681⟩ => [(6, [], (.slice none 0 0)), (7, [], (.int .i64 0)), (14, [], (.int .i64 t_2.1)), (15, [], (.slice (o_1678.map fun b => ⟨b, 0, none⟩) n_1681 cap_1679))]) (fun (j : (List (List Int)) × (List Int) × (Option Nat) × Nat × (List Value) × Nat) => match j with | ⟨xt_1676, xs_3, o_1678, cap_1679, sp_1680, n_1681⟩ => [⟨o_761, 29, row encHd hh_760 sp_763⟩, ⟨none, CLU, cluC encI64 hh_760 xt_1676⟩, ⟨o_1678, 2, row encI64 xs_3 sp_1680⟩]) ?_ ?_)))))))))))))))))))))))
   ·refine jc_block ?_
    obtain ⟨t_10, ht_2585, hr_2288⟩ := bd h
    refine jc_loop (fun (s : (List (List Int)) × (List Int) × Int × Int × Int) (x : (Option Nat) × Nat × (List Value) × Nat) => match s, x with | ⟨xt_2280, xs_5, i_6, i_7, i_8⟩, ⟨o_2282, cap_2283, sp_2284, n_2285⟩ => (InP hh_760 xt_2280) ∧ (xs_5.length = n_2285) ∧ ((o_2282 ≠ none → n_2285 ≤ cap_2283 ∧ sp_2284.length = (cap_2283 - n_2285) * 1)) ∧ ((o_2282 = none → xs_5 = [] ∧ cap_2283 = 0))) (fun (s : (List (List Int)) × (List Int) × Int × Int × Int) (x : (Option Nat) × Nat × (List Value) × Nat) => match s, x with | ⟨xt_2280, xs_5, i_6, i_7, i_8⟩, ⟨o_2282, cap_2283, sp_2284, n_2285⟩ => [(0, [], (.slice A_a table0.length A_c)), (2, [], (.bool circle2)), (6, [], (.slice none 0 0)), (7, [], (.int .i64 0)), (8, [], (.int .i64 (table0.length : Int))), (9, [], (.slice (o_761.map fun b => ⟨b, 0, none⟩) hh_760.length cap_762)), (13, [], (.int .i64 i_6)), (14, [], (.int .i64 t_2.1)), (15, [], (.slice (o_2282.map fun b => ⟨b, 0, none⟩) n_2285 cap_2283)), (16, [], (.int .i64 i_7)), (17, [], (.int .i64 i_8))]) (fun (s : (List (List Int)) × (List Int) × Int × Int × Int) (x : (Option Nat) × Nat × (List Value) × Nat) => match s, x with | ⟨xt_2280, xs_5, i_6, i_7, i_8⟩, ⟨o_2282, cap_2283, sp_2284, n_2285⟩ => [⟨o_761, 29, row encHd hh_760 sp_763⟩, ⟨none, CLU, cluC encI64 hh_760 xt_2280⟩, ⟨o_2282, 2, row encI64 xs_5 sp_2284⟩]) ht_2585 ⟨(some b_773), 1, [], 1⟩ ⟨hI_772, rfl, (fun _ => ⟨Nat.le_refl _, by simp⟩), (fun e => nomatch e)⟩ (by kernel_rfl) [0, 1, 2] (by kernel_rfl) (by kernel_rfl) ?_
    rintro ⟨xt_2280, xs_5, i_6, i_7, i_8⟩ ⟨o_2282, cap_2283, sp_2284, n_2285⟩ y_2289 ⟨hI_2281, rfl, hs_2286, ho_2287⟩ h
    rw [spec_l05Best.l_9] at h
    refine jc_seq (jc_seq (jc_region (qh [0,0] (qe (jx_then (qi h (fun h => ?_) (fun h => ?_)))))))
    ·refine jc_skip (jx_then (jc_block (jc_seq (jc_region (qh [0] (qe (jx_then (jc_meet (fun (j : (List (List Int)) × (List Int) × Int × Int × Int × (Option Nat) × Nat × (List Value) × Nat) => match j with | ⟨xt_2507, xs_11, i_12, i_13, i_14, o_2509, cap_2510, sp_2511, n_2512⟩ => spec_l05Best.k_15 xt_2507 xs_11 i_12 i_13 i_14 = some y_2289 ∧ (InP hh_760 xt_2507) ∧ (xs_11.length = n_2512) ∧ ((o_2509 ≠ none → n_2512 ≤ cap_2510 ∧ sp_2511.length = (cap_2510 - n_2512) * 1)) ∧ ((o_2509 = none → xs_11 = [] ∧ cap_2510 = 0))) (fun (j : (List (List Int)) × (List Int) × Int × Int × Int × (Option Nat) × Nat × (List Value) × Nat) => match j with | ⟨xt_2507, xs_11, i_12, i_13, i_14, o_2509, cap_2510, sp_2511, n_2512⟩ => [(0, [], (.slice A_a table0.length A_c)), (2, [], (.bool circle2)), (6, [], (.slice none 0 0)), (7, [], (.int .i64 0)), (8, [], (.int .i64 (table0.length : Int))), (9, [], (.slice (o_761.map fun b => ⟨b, 0, none⟩) hh_760.length cap_762)), (13, [], (.int .i64 i_12)), (14, [], (.int .i64 t_2.1)), (15, [], (.slice (o_2509.map fun b => ⟨b, 0, none⟩) n_2512 cap_2510)), (16, [], (.int .i64 i_13)), (17, [], (.int .i64 i_14))]) (fun (j : (List (List Int)) × (List Int) × Int × Int × Int × (Option Nat) × Nat × (List Value) × Nat) => match j with | ⟨xt_2507, xs_11, i_12, i_13, i_14, o_2509, cap_2510, sp_2511, n_2512⟩ => [⟨o_761, 29, row encHd hh_760 sp_763⟩, ⟨none, CLU, cluC encI64 hh_760 xt_2507⟩, ⟨o_2509, 2, row encI64 xs_11 sp_2511⟩]) ?_ ?_))))))))
     ·refine jc_block ?_
      obtain ⟨t_18, ht_2583, hr_2559⟩ := bd h
      refine jc_loop (fun (s : (List (List Int)) × Int) (x : Unit) => match s, x with | ⟨xt_2557, i_16⟩, _ => (InP hh_760 xt_2557)) (fun (s : (List (List Int)) × Int) (x : Unit) => match s, x with | ⟨xt_2557, i_16⟩, _ => [(0, [], (.slice A_a table0.length A_c)), (2, [], (.bool circle2)), (6, [], (.slice none 0 0)), (7, [], (.int .i64 0)), (8, [], (.int .i64 (table0.length : Int))), (9, [], (.slice (o_761.map fun b => ⟨b, 0, none⟩) hh_760.length cap_762)), (13, [], (.int .i64 i_6)), (14, [], (.int .i64 t_2.1)), (15, [], (.slice (o_2282.map fun b => ⟨b, 0, none⟩) xs_5.length cap_2283)), (16, [], (.int .i64 i_7)), (17, [], (.int .i64 i_8)), (18, [], (.int .i64 i_16))]) (fun (s : (List (List Int)) × Int) (x : Unit) => match s, x with | ⟨xt_2557, i_16⟩, _ => [⟨o_761, 29, row encHd hh_760 sp_763⟩, ⟨none, CLU, cluC encI64 hh_760 xt_2557⟩, ⟨o_2282, 2, row encI64 xs_5 sp_2284⟩]) ht_2583 () hI_2281 (by kernel_rfl) [0, 1, 2] (by kernel_rfl) (by kernel_rfl) ?_
      rintro ⟨xt_2557, i_16⟩ _ y_2560 hI_2558 h
      rw [spec_l05Best.l_17] at h
      refine jc_seq (jc_seq (jc_region (qh [0,0,0] (qe (jx_then (qi h (fun h => ?_) (fun h => ?_)))))))
      ·refine jc_skip (jx_then (jc_seq (jc_block (jc_seq (jc_seq (jc_region (qh [0,0,0] ?_)))))))
       obtain ⟨hg_2565, h⟩ := gd h
       refine tO (p_shr 0 .i64 i_6 .u64 (u64 i_16) (by kernel_rfl) (by kernel_rfl) hg_2565 (jkO (qh [0,0] (qe (jx_then (qi h (fun h => ?_) (fun h => ?_)))))))
       ·exact jc_exit (jx_thenx (jx_ine (jx_then (jc_region (qh [0,0,0] (qe (qb (xt_2557, (w64 (i_16 + 1))) () h hI_2558 [0, 1, 2])))))))
       ·refine jc_skip (jx_then (jc_seq (jc_region (qh [0,0,0,0,0] ?_))))
        obtain ⟨hg_2567, h⟩ := gd h
        refine tO (p_shl 0 .i64 1 .u64 (u64 i_16) (by kernel_rfl) (by kernel_rfl) hg_2567 (jkO (qh [0,0,0] ?_)))
        obtain ⟨t_19, ht_2568, h⟩ := bd h
        refine tO (pc 0 (fun w hm => spec_l05Rest.calls table0 i_16 (bXor .i64 i_6 (bShl .i64 1 (u64 i_16))) circle2 xt_2557 w _ A_c (hm.xr A_h) rfl cap_762 (hm.ow 0 o_761 29 hh_760 sp_763 (fun e => (ho_766 e).1) encHd_len) (hI_2558.1.symm.trans rfl) hI_2558 hD_768 (hm.cluM 1 hI_2558) (hm.exApartM (enc := encI64) 1 hI_2558 A_h (fun _ => List.not_mem_nil)) (hm.innPassM (enc := encI64) 1 hI_2558 A_i) (hm.ownApartM (enc := encI64) (R := Hd) (hh := 0) (o := o_761) (T := 29) (cs := row encHd hh_760 sp_763) (xs := hh_760) 1 hI_2558 (by kernel_rfl) (fun e => (ho_766 e).1)) ht_2568) ?_)
        rintro w v w' hm ⟨hI_2569, rfl, hm'⟩
        refine ⟨_, hm.appC 1 hI_2558 hm', jkO ?_⟩
        clear hm hm'
        refine qh [0] (qe (jx_then (jc_seq (jc_region (qh [0,0] ?_)))))
        obtain ⟨x_20, hx_2570, h⟩ := bd h
        refine tO (qx 0 A_a 1 hx_2570 rfl (A_h.sp (A_i.ixh hx_2570)) (jkO (tO (ql 0 false (fun w hm => ((hm.xr A_h).at (A_i.ixh hx_2570))) (jkO (qh [0] ?_))))))
        obtain ⟨x_21, hx_2571, h⟩ := bd h
        refine tO (qx 0 (hd A_hs i_7).a 1 hx_2571 (A_i.get hx_2570).2.1 ((A_i.get hx_2570).1.sp hx_2571) (jkO (tO (ql 0 false (fun w hm => ((hm.exRow (A_i.get hx_2570).1 List.not_mem_nil).at hx_2571)) (jkO (qh [0,0,0,0] (qe (jx_then (qi h (fun h => ?_) (fun h => ?_))))))))))
        ·refine jc_seq (jc_region (qh [0,0] (tO (qa 0 (fun b_2573 => jkO ?_)))))
         obtain ⟨hg_2574, h⟩ := gd h
         refine tO (p_apn 0 2 o_2282 2 xs_5.length 1 cap_2283 1 8 (some ⟨b_2573, 0, none⟩) encI64 xs_5 ([i_16] : List Int) sp_2284 (.int .i64 0) rfl rfl (by kernel_rfl) (by kernel_rfl) (by kernel_rfl) encI64_len encI64_cell hs_2286 ho_2287 (fun w hm => (hm.ow 3 (some b_2573) 2 ([i_16] : List Int) [] (fun e => nomatch e) encI64_len)) hg_2574 (by kernel_rfl) (by kernel_rfl) (fun o_2575 cap_2576 sp_2577 hs_2578 ho_2579 => jkO (qh [0] (qe (jx_then (jc_seq (jc_region (qh [0,0,0] ?_))))))))
         obtain ⟨hg_2580, h⟩ := gd h
         refine tO (p_shl 0 .i64 1 .u64 (u64 i_16) (by kernel_rfl) (by kernel_rfl) hg_2580 (jkO (qh [0,0] (qe (jx_then (jc_seq (jc_region (qh [0,0] (qe (jx_then (jc_seq (jc_region (qh [0,0] (qe (jx_then (jc_exit (jx_inx rfl (jx_thenx (jx_leave (t_19.2, (xs_5 ++ ([i_16] : List Int)), (bXor .i64 i_6 (bShl .i64 1 (u64 i_16))), i_16, t_19.1) (Option.some.inj h).symm (fun e_2581 => ?_))))))))))))))))))))
         subst e_2581
         exact jx_ine (qm ⟨t_19.2, (xs_5 ++ ([i_16] : List Int)), (bXor .i64 i_6 (bShl .i64 1 (u64 i_16))), i_16, t_19.1, o_2575, cap_2576, sp_2577, (xs_5 ++ ([i_16] : List Int)).length⟩ ⟨hr_2559, hI_2569, rfl, hs_2578, ho_2579⟩ [0, 1, 2])
        ·exact jc_skip (jx_inn (jx_then (jc_region (qh [0,0,0] (qe (qb (t_19.2, (w64 (i_16 + 1))) () h hI_2569 [0, 1, 2]))))))
      ·refine jc_exit (jx_thenx (jx_leave (xt_2557, xs_5, i_6, i_7, i_8) (Option.some.inj h).symm (fun e_2582 => ?_)))
       subst e_2582
       exact jx_ine (qm ⟨xt_2557, xs_5, i_6, i_7, i_8, o_2282, cap_2283, sp_2284, xs_5.length⟩ ⟨hr_2559, hI_2558, rfl, hs_2286, ho_2287⟩ [0, 1, 2])
     ·rintro ⟨xt_2507, xs_11, i_12, i_13, i_14, o_2509, cap_2510, sp_2511, n_2512⟩ ⟨h, hI_2508, rfl, hs_2513, ho_2514⟩
      replace h : spec_l05Best.k_15 xt_2507 xs_11 i_12 i_13 i_14 = some y_2289 := h
      rw [spec_l05Best.k_15] at h
      exact jx_inn (qb (xt_2507, xs_11, i_12, i_13, i_14) ⟨o_2509, cap_2510, sp_2511, xs_11.length⟩ h ⟨hI_2508, rfl, hs_2513, ho_2514⟩ [0, 1, 2])
    ·refine jc_exit (jx_thenx (jx_leave (xt_2280, xs_5) (Option.some.inj h).symm (fun e_2584 => ?_)))
     subst e_2584
     exact jx_ine (qm ⟨xt_2280, xs_5, o_2282, cap_2283, sp_2284, xs_5.length⟩ ⟨hr_2288, hI_2281, rfl, hs_2286, ho_2287⟩ [0, 1, 2])
   ·rintro ⟨xt_1676, xs_3, o_1678, cap_1679, sp_1680, n_1681⟩ ⟨h, hI_1677, rfl, hs_1682, ho_1683⟩
    replace h : spec_l05Best.k_4 t_2 xt_1676 xs_3 = some r := h
    rw [spec_l05Best.k_4] at h
    refine jx_then (jc_seq (jc_region (qh [0,0,0,0] (qe (jx_then (jc_ret ?_))))))
    obtain rfl := Option.some.inj h
    exact qr [] (fun w hm => ⟨o_1678, cap_1679, sp_1680, xs_3.length, rfl, hs_1682, ho_1683, rfl, hm.pk [2]⟩)
/-! ### impl.within -/
def impl_within (n0 : Int) (low1 : Int) (high2 : Int) : Option (Bool) := some ((decide (low1 ≤ n0)) && (decide (n0 ≤ high2)))
theorem impl_within.calls (n0 : Int) (low1 : Int) (high2 : Int) (w : World) (r : Bool) (h : impl_within n0 low1 high2 = some r) :
    Calls Try.prog 85 #[(.int .i64 n0), (.int .i64 low1), (.int .i64 high2)] w fun e w' => ∃ v, e = .returned v ∧ (v = (.bool r) ∧ Mem w [] [] w') := by
  rw [impl_within] at h
  refine enter (args := [(.int .i64 n0), (.int .i64 low1), (.int .i64 high2)]) Try.func85 rfl Try.ntmps85 (by kernel_rfl) (L := []) (W := []) (Mem.start w) ?_
  refine jc_seq (jc_region (qh [0] (qe (jx_then (jc_seq (jc_region (qf [(0, 0), (0, 0), (0, 0), (0, 0), (0, 1), (0, 1), (0, 1), (0, 0), (0, 0)] (qe (jx_then (jc_ret ?_))))))))))
  obtain rfl := Option.some.inj h
  exact qr [] (fun w hm => ⟨rfl, hm.pk []⟩)
/-! ### impl.size[impl.Hammer] -/
def impl_size_Hammer (list0 : List GHammer) : Option (Int) := some (list0.length : Int)
theorem impl_size_Hammer.calls (list0 : List GHammer) (w : World) (r : Int) {A_a : Option Addr} {A_an : Nat} (A_c : Nat) (A_h : Rw w A_a 2 encGHammer list0) (A_hn : list0.length = A_an) (h : impl_size_Hammer list0 = some r) :
    Calls Try.prog 69 #[(.slice A_a A_an A_c)] w fun e w' => ∃ v, e = .returned v ∧ (v = (.int .i64 r) ∧ Mem w [] [] w') := by
  subst A_hn
  rw [impl_size_Hammer] at h
  refine enter (args := [(.slice A_a list0.length A_c)]) Try.func69 rfl Try.ntmps69 (by kernel_rfl) (L := []) (W := []) (Mem.start w) ?_
  refine jc_seq (jc_region (qh [0] (qe (jx_then (jc_seq (jc_region (qh [0,0,0] (qe (jx_then (jc_ret ?_))))))))))
  obtain rfl := Option.some.inj h
  exact qr [] (fun w hm => ⟨rfl, hm.pk []⟩)
/-! ### impl.isPitch -/
def impl_isPitch (n0 : Int) : Option (Bool) := (impl_within n0 0 47).bind fun t_1 => some t_1
theorem impl_isPitch.calls (n0 : Int) (w : World) (r : Bool) (h : impl_isPitch n0 = some r) :
    Calls Try.prog 177 #[(.int .i64 n0)] w fun e w' => ∃ v, e = .returned v ∧ (v = (.bool r) ∧ Mem w [] [] w') := by
  rw [impl_isPitch] at h
  refine enter (args := [(.int .i64 n0)]) Try.func177 rfl Try.ntmps177 (by kernel_rfl) (L := []) (W := []) (Mem.start w) ?_
  refine jc_seq (jc_region (qh [0] (qe (jx_then (jc_seq (jc_region (qh [0] ?_)))))))
  obtain ⟨t_1, ht_1, h⟩ := bd h
  refine tO (pc 0 (fun w hm => impl_within.calls n0 0 47 w _ ht_1) ?_)
  rintro w v w' hm ⟨rfl, hm'⟩
  refine ⟨_, hm.app hm', jkO ?_⟩
  clear hm hm'
  refine qh [0] (qe (jx_then (jc_ret ?_)))
  obtain rfl := Option.some.inj h
  exact qr [] (fun w hm => ⟨rfl, hm.pk []⟩)
/-! ### impl.ValidFrame$1 -/
def impl_ValidFrame_1 (h0 : GHammer) (p1 : GFrame) : Option (Bool) := (impl_isPitch (w64 h0.fPitch)).bind fun t_1 => (if (!t_1) = true then some true else (impl_within (w64 h0.fReady) 1 (if (w64 p1.fSteps) < 20 then (w64 p1.fSteps) else 20)).bind fun t_2 => some (!t_2))
theorem impl_ValidFrame_1.calls (h0 : GHammer) (p1 : GFrame) (w : World) (r : Bool) {F_a : Option Addr} {F_an : Nat} (F_c : Nat) (F_h : Rw w F_a 2 encGHammer p1.fHammers) (F_hn : p1.fHammers.length = F_an) (D_b : Nat) (hm0 : Mem w (bs [some D_b]) [⟨some D_b, 34, [(.int .i16 p1.fSteps), (.slice F_a F_an F_c)]⟩] w) (F_ha : p1.fHammers ≠ [] → aB F_a ∉ bs [some D_b]) (h : impl_ValidFrame_1 h0 p1 = some r) :
    Calls Try.prog 176 #[(.agg #[(.int .i8 h0.fPitch), (.int .i8 h0.fReady)]), (.pointer (some ⟨D_b, 0, none⟩))] w fun e w' => ∃ v, e = .returned v ∧ (v = (.bool r) ∧ Mem w (bs [some D_b]) [⟨some D_b, 34, [(.int .i16 p1.fSteps), (.slice F_a F_an F_c)]⟩] w') := by
  subst F_hn
  rw [impl_ValidFrame_1] at h
  refine enter (args := [(.agg #[(.int .i8 h0.fPitch), (.int .i8 h0.fReady)]), (.pointer (some ⟨D_b, 0, none⟩))]) Try.func176 rfl Try.ntmps176 (by kernel_rfl) (L := [⟨some D_b, 34, [(.int .i16 p1.fSteps), (.slice F_a p1.fHammers.length F_c)]⟩]) (W := bs [some D_b]) hm0 ?_
  refine jc_seq (jc_region (tO (qa 0 (fun b_1 => jkO (qh [0] (qe (jx_then (jc_seq (jc_region (qh [0,1,0] ?_))))))))))
  obtain ⟨t_1, ht_2, h⟩ := bd h
  refine tO (pc 0 (fun w hm => impl_isPitch.calls (w64 h0.fPitch) w _ ht_2) ?_)
  rintro w v w' hm ⟨rfl, hm'⟩
  refine ⟨_, hm.app hm', jkO ?_⟩
  clear hm hm'
  refine qf [(0, 0), (0, 0), (0, 1), (1, 1), (0, 1), (0, 1), (0, 1), (0, 1), (0, 1)] (qp 9 h (fun h => ?_) (fun h => ?_))
  ·refine qf [(0, 3), (0, 3), (0, 4), (0, 0)] (qe (jx_then (jc_ret ?_)))
   obtain rfl := Option.some.inj h
   exact qr [] (fun w hm => ⟨rfl, hm.pk [0]⟩)
  ·obtain ⟨t_2, ht_4, h⟩ := bd h
   refine tO (pc 2 (fun w hm => impl_within.calls (w64 h0.fReady) 1 (if (w64 p1.fSteps) < 20 then (w64 p1.fSteps) else 20) w _ ht_4) ?_)
   rintro w v w' hm ⟨rfl, hm'⟩
   refine ⟨_, hm.app hm', jkO ?_⟩
   clear hm hm'
   refine qf [(0, 2), (0, 5), (0, 0)] (qe (jx_then (jc_ret ?_)))
   obtain rfl := Option.some.inj h
   exact qr [] (fun w hm => ⟨rfl, hm.pk [0]⟩)
/-! ### slices.IndexFunc[[]impl.Hammer,impl.Hammer] -/
def slices_IndexFunc_Hammer_at_impl_ValidFrame_1.k_1 : Option (Int) := some (-1)
def slices_IndexFunc_Hammer_at_impl_ValidFrame_1.l_3 (s0 : List GHammer) (g1c0 : GFrame) : Int → Option ((Int) ⊕ (Int ⊕ Unit))
  | i_2 => (if (decide (i_2 < (s0.length : Int))) = true then (ix s0 i_2).bind fun x_5 => (impl_ValidFrame_1 x_5 g1c0).bind fun t_6 => (if t_6 = true then some (.inr (.inl i_2)) else some (.inl (w64 (i_2 + 1)))) else some (.inr (.inr ())))
def slices_IndexFunc_Hammer_at_impl_ValidFrame_1 (s0 : List GHammer) (g1c0 : GFrame) : Option (Int) := (loop (slices_IndexFunc_Hammer_at_impl_ValidFrame_1.l_3 s0 g1c0) 0).bind fun t_4 => match t_4 with | .inl p => some p | .inr p => slices_IndexFunc_Hammer_at_impl_ValidFrame_1.k_1
theorem slices_IndexFunc_Hammer_at_impl_ValidFrame_1.calls (s0 : List GHammer) (g1c0 : GFrame) (w : World) (r : Int) {A_a : Option Addr} {A_an : Nat} (A_c : Nat) (A_h : Rw w A_a 2 encGHammer s0) (A_hn : s0.length = A_an) {D_a : Option Addr} {D_an : Nat} (D_c : Nat) (D_h : Rw w D_a 2 encGHammer g1c0.fHammers) (D_hn : g1c0.fHammers.length = D_an) (B_b : Nat) (hm0 : Mem w (bs [some B_b]) [⟨some B_b, 34, [(.int .i16 g1c0.fSteps), (.slice D_a D_an D_c)]⟩] w) (A_ha : s0 ≠ [] → aB A_a ∉ bs [some B_b]) (D_ha : g1c0.fHammers ≠ [] → aB D_a ∉ bs [some B_b]) (h : slices_IndexFunc_Hammer_at_impl_ValidFrame_1 s0 g1c0 = some r) :
    Calls Try.prog 193 #[(.slice A_a A_an A_c), (.func (.func 176) #[] #[(.pointer (some ⟨B_b, 0, none⟩))])] w fun e w' => ∃ v, e = .returned v ∧ (v = (.int .i64 r) ∧ Mem w (bs [some B_b]) [⟨some B_b, 34, [(.int .i16 g1c0.fSteps), (.slice D_a D_an D_c)]⟩] w') := by
  subst A_hn D_hn
  rw [slices_IndexFunc_Hammer_at_impl_ValidFrame_1] at h
  refine enter (args := [(.slice A_a s0.length A_c), (.func (.func 176) #[] #[(.pointer (some ⟨B_b, 0, none⟩))])]) Try.func193 rfl Try.ntmps193 (by kernel_rfl) (L := [⟨some B_b, 34, [(.int .i16 g1c0.fSteps), (.slice D_a g1c0.fHammers.length D_c)]⟩]) (W := bs [some B_b]) hm0 ?_
  refine jc_seq (jc_region (qh [0] (qe (jx_then (jc_seq (jc_seq (jc_region (qh [0,0,0] (qe (jx_then (jc_meet (fun (_ : Unit) => slices_IndexFunc_Hammer_at_impl_ValidFrame_1.k_1 = some r) (fun (_ : Unit) => [(4, [], (.int .i64 0))]) (fun (_ : Unit) => [⟨some B_b, 34, [(.int .i16 g1c0.fSteps), (.slice D_a g1c0.fHammers.length D_c)]⟩]) ?_ ?_)))))))))))
  ·refine jc_block ?_
   obtain ⟨t_4, ht_40, hr_31⟩ := bd h
   refine jc_loop (fun (s : Int) (x : Unit) => match s, x with | i_2, _ => True) (fun (s : Int) (x : Unit) => match s, x with | i_2, _ => [(0, [], (.slice A_a s0.length A_c)), (1, [], (.func (.func 176) #[] #[(.pointer (some ⟨B_b, 0, none⟩))])), (4, [], (.int .i64 0)), (7, [], (.int .i64 (s0.length : Int))), (8, [], (.int .i64 i_2))]) (fun (s : Int) (x : Unit) => match s, x with | i_2, _ => [⟨some B_b, 34, [(.int .i16 g1c0.fSteps), (.slice D_a g1c0.fHammers.length D_c)]⟩]) ht_40 () trivial (by kernel_rfl) [0] (by kernel_rfl) (by kernel_rfl) ?_
   rintro i_2 _ y_32 _ h
   rw [slices_IndexFunc_Hammer_at_impl_ValidFrame_1.l_3] at h
   refine jc_seq (jc_region (qh [0] (qe (jx_then (jc_seq (qi h (fun h => ?_) (fun h => ?_)))))))
   ·refine jc_skip (jx_then (jc_seq (jc_block (jc_seq (jc_region (qh [0,0] (qe (jx_then (jc_seq (jc_region (qh [0,0,0] ?_)))))))))))
    obtain ⟨x_5, hx_35, h⟩ := bd h
    refine tO (qx 0 A_a 2 hx_35 rfl (A_h.sp hx_35) (jkO (tO (ql 0 true (fun w hm => ((hm.exRowW A_h A_ha).at hx_35)) (jkO ?_)))))
    obtain ⟨t_6, ht_36, h⟩ := bd h
    refine tO (pc 0 (fun w hm => impl_ValidFrame_1.calls x_5 g1c0 w _ D_c (hm.exRowW D_h D_ha) rfl B_b (hm.pass (N := [⟨some B_b, 34, [(.int .i16 g1c0.fSteps), (.slice D_a g1c0.fHammers.length D_c)]⟩]) [0] (by kernel_rfl) (by kernel_rfl)) (hm.exApart (N := [⟨some B_b, 34, [(.int .i16 g1c0.fSteps), (.slice D_a g1c0.fHammers.length D_c)]⟩]) D_h D_ha [0] (by kernel_rfl)) ht_36) ?_)
    rintro w v w' hm ⟨rfl, hm'⟩
    refine ⟨_, hm.appW (ps := [(0, ⟨some B_b, 34, [(.int .i16 g1c0.fSteps), (.slice D_a g1c0.fHammers.length D_c)]⟩)]) (N := []) hm' (by kernel_rfl) (by kernel_rfl), jkO ?_⟩
    clear hm hm'
    refine qe (jx_then (qi h (fun h => ?_) (fun h => ?_)))
    ·refine jc_seq (jc_region (qh [0,0] (qe (jx_then (jc_ret (jx_inr (jx_thenr (jx_leaver (.inl i_2) (Option.some.inj h).symm (fun e_38 => ?_)))))))))
     subst e_38
     refine jx_inr (jx_thenr (jx_thenr ?_))
     obtain rfl := Option.some.inj hr_31
     exact qr [] (fun w hm => ⟨rfl, hm.pk [0]⟩)
    ·exact jc_skip (jx_inn (jx_then (jc_region (qh [0,0] (qe (qb (w64 (i_2 + 1)) () h trivial [0]))))))
   ·refine jc_exit (jx_thenx (jx_leave (.inr ()) (Option.some.inj h).symm (fun e_39 => ?_)))
    subst e_39
    exact jx_ine (qm () hr_31 [0])
  ·rintro _ h
   replace h : slices_IndexFunc_Hammer_at_impl_ValidFrame_1.k_1 = some r := h
   rw [slices_IndexFunc_Hammer_at_impl_ValidFrame_1.k_1] at h
   refine jx_then (jc_seq (jc_region (qh [0] (qe (jx_then (jc_ret ?_))))))
   obtain rfl := Option.some.inj h
   exact qr [] (fun w hm => ⟨rfl, hm.pk [0]⟩)
/-! ### slices.ContainsFunc[[]impl.Hammer,impl.Hammer] -/
def slices_ContainsFunc_Hammer_at_impl_ValidFrame_1 (s0 : List GHammer) (g1c0 : GFrame) : Option (Bool) := (slices_IndexFunc_Hammer_at_impl_ValidFrame_1 s0 g1c0).bind fun t_1 => some (decide (t_1 ≥ 0))
theorem slices_ContainsFunc_Hammer_at_impl_ValidFrame_1.calls (s0 : List GHammer) (g1c0 : GFrame) (w : World) (r : Bool) {A_a : Option Addr} {A_an : Nat} (A_c : Nat) (A_h : Rw w A_a 2 encGHammer s0) (A_hn : s0.length = A_an) {D_a : Option Addr} {D_an : Nat} (D_c : Nat) (D_h : Rw w D_a 2 encGHammer g1c0.fHammers) (D_hn : g1c0.fHammers.length = D_an) (B_b : Nat) (hm0 : Mem w (bs [some B_b]) [⟨some B_b, 34, [(.int .i16 g1c0.fSteps), (.slice D_a D_an D_c)]⟩] w) (A_ha : s0 ≠ [] → aB A_a ∉ bs [some B_b]) (D_ha : g1c0.fHammers ≠ [] → aB D_a ∉ bs [some B_b]) (h : slices_ContainsFunc_Hammer_at_impl_ValidFrame_1 s0 g1c0 = some r) :
    Calls Try.prog 175 #[(.slice A_a A_an A_c), (.func (.func 176) #[] #[(.pointer (some ⟨B_b, 0, none⟩))])] w fun e w' => ∃ v, e = .returned v ∧ (v = (.bool r) ∧ Mem w (bs [some B_b]) [⟨some B_b, 34, [(.int .i16 g1c0.fSteps), (.slice D_a D_an D_c)]⟩] w') := by
  subst A_hn D_hn
  rw [slices_ContainsFunc_Hammer_at_impl_ValidFrame_1] at h
  refine enter (args := [(.slice A_a s0.length A_c), (.func (.func 176) #[] #[(.pointer (some ⟨B_b, 0, none⟩))])]) Try.func175 rfl Try.ntmps175 (by kernel_rfl) (L := [⟨some B_b, 34, [(.int .i16 g1c0.fSteps), (.slice D_a g1c0.fHammers.length D_c)]⟩]) (W := bs [some B_b]) hm0 ?_
  refine jc_seq (jc_region (qh [0] (qe (jx_then (jc_seq (jc_region (qh [0,0] ?_)))))))
  obtain ⟨t_1, ht_1, h⟩ := bd h
  refine tO (pc 0 (fun w hm => slices_IndexFunc_Hammer_at_impl_ValidFrame_1.calls s0 g1c0 w _ A_c (hm.exRowW A_h A_ha) rfl D_c (hm.exRowW D_h D_ha) rfl B_b (hm.pass (N := [⟨some B_b, 34, [(.int .i16 g1c0.fSteps), (.slice D_a g1c0.fHammers.length D_c)]⟩]) [0] (by kernel_rfl) (by kernel_rfl)) (hm.exApart (N := [⟨some B_b, 34, [(.int .i16 g1c0.fSteps), (.slice D_a g1c0.fHammers.length D_c)]⟩]) A_h A_ha [0] (by kernel_rfl)) (hm.exApart (N := [⟨some B_b, 34, [(.int .i16 g1c0.fSteps), (.slice D_a g1c0.fHammers.length D_c)]⟩]) D_h D_ha [0] (by kernel_rfl)) ht_1) ?_)
  rintro w v w' hm ⟨rfl, hm'⟩
  refine ⟨_, hm.appW (ps := [(0, ⟨some B_b, 34, [(.int .i16 g1c0.fSteps), (.slice D_a g1c0.fHammers.length D_c)]⟩)]) (N := []) hm' (by kernel_rfl) (by kernel_rfl), jkO ?_⟩
  clear hm hm'
  refine qh [0,0] (qe (jx_then (jc_ret ?_)))
  obtain rfl := Option.some.inj h
  exact qr [] (fun w hm => ⟨rfl, hm.pk [0]⟩)
/-! ### impl.ValidFrame -/
def impl_ValidFrame (f0 : GFrame) : Option (Bool) := (impl_within (w64 f0.fSteps) 2 96).bind fun t_1 => (if t_1 = true then (impl_size_Hammer f0.fHammers).bind fun t_2 => (impl_within t_2 1 24).bind fun t_3 => (if t_3 = true then (slices_ContainsFunc_Hammer_at_impl_ValidFrame_1 f0.fHammers f0).bind fun t_4 => some (!t_4) else some false) else some false)
theorem impl_ValidFrame.calls (f0 : GFrame) (w : World) (r : Bool) {C_a : Option Addr} {C_an : Nat} (C_c : Nat) (C_h : Rw w C_a 2 encGHammer f0.fHammers) (C_hn : f0.fHammers.length = C_an) (h : impl_ValidFrame f0 = some r) :
    Calls Try.prog 151 #[(.agg #[(.int .i16 f0.fSteps), (.slice C_a C_an C_c)])] w fun e w' => ∃ v, e = .returned v ∧ (v = (.bool r) ∧ Mem w [] [] w') := by
  subst C_hn
  rw [impl_ValidFrame] at h
  refine enter (args := [(.agg #[(.int .i16 f0.fSteps), (.slice C_a f0.fHammers.length C_c)])]) Try.func151 rfl Try.ntmps151 (by kernel_rfl) (L := []) (W := []) (Mem.start w) ?_
  refine jc_seq (jc_region (tO (qa 0 (fun b_1 => jkO (qh [0] (qe (jx_then (jc_seq (jc_region (qh [0,0,0] ?_))))))))))
  obtain ⟨t_1, ht_2, h⟩ := bd h
  refine tO (pc 0 (fun w hm => impl_within.calls (w64 f0.fSteps) 2 96 w _ ht_2) ?_)
  rintro w v w' hm ⟨rfl, hm'⟩
  refine ⟨_, hm.app hm', jkO ?_⟩
  clear hm hm'
  refine qf [(0, 0), (0, 1), (0, 1)] (qp 7 h (fun h => ?_) (fun h => ?_))
  ·obtain ⟨t_2, ht_4, h⟩ := bd h
   refine tO (pc 2 (fun w hm => impl_size_Hammer.calls f0.fHammers w _ C_c (hm.xr C_h) rfl ht_4) ?_)
   rintro w v w' hm ⟨rfl, hm'⟩
   refine ⟨_, hm.app hm', jkO ?_⟩
   clear hm hm'
   obtain ⟨t_3, ht_5, h⟩ := bd h
   refine tO (pc 2 (fun w hm => impl_within.calls t_2 1 24 w _ ht_5) ?_)
   rintro w v w' hm ⟨rfl, hm'⟩
   refine ⟨_, hm.app hm', jkO ?_⟩
   clear hm hm'
   refine qf [(0, 4), (0, 0), (0, 1), (0, 1), (0, 1)] (qp 13 h (fun h => ?_) (fun h => ?_))
   ·obtain ⟨t_4, ht_7, h⟩ := bd h
    refine tO (pc 2 (fun w hm => slices_ContainsFunc_Hammer_at_impl_ValidFrame_1.calls f0.fHammers f0 w _ C_c (hm.xr C_h) rfl C_c (hm.xr C_h) rfl b_1 (hm.pass (N := [⟨some b_1, 34, [(.int .i16 f0.fSteps), (.slice C_a f0.fHammers.length C_c)]⟩]) [0] (by kernel_rfl) (by kernel_rfl)) (hm.exApart (N := [⟨some b_1, 34, [(.int .i16 f0.fSteps), (.slice C_a f0.fHammers.length C_c)]⟩]) C_h (fun _ => List.not_mem_nil) [0] (by kernel_rfl)) (hm.exApart (N := [⟨some b_1, 34, [(.int .i16 f0.fSteps), (.slice C_a f0.fHammers.length C_c)]⟩]) C_h (fun _ => List.not_mem_nil) [0] (by kernel_rfl)) ht_7) ?_)
    rintro w v w' hm ⟨rfl, hm'⟩
    refine ⟨_, hm.appW (ps := [(0, ⟨some b_1, 34, [(.int .i16 f0.fSteps), (.slice C_a f0.fHammers.length C_c)]⟩)]) (N := []) hm' (by kernel_rfl) (by kernel_rfl), jkO ?_⟩
    clear hm hm'
    refine qf [(0, 2), (0, 4), (0, 0)] (qe (jx_then (jc_ret ?_)))
    obtain rfl := Option.some.inj h
    exact qr [] (fun w hm => ⟨rfl, hm.pk []⟩)
   ·refine qf [(0, 3), (0, 3), (0, 5), (0, 0)] (qe (jx_then (jc_ret ?_)))
    obtain rfl := Option.some.inj h
    exact qr [] (fun w hm => ⟨rfl, hm.pk []⟩)
  ·refine qf [(0, 3), (0, 3), (0, 5), (0, 0), (0, 3), (0, 3), (0, 3), (0, 3), (0, 3), (0, 5), (0, 0)] (qe (jx_then (jc_ret ?_)))
   obtain rfl := Option.some.inj h
   exact qr [] (fun w hm => ⟨rfl, hm.pk []⟩)
/-! ### (impl.Frame).isDrum -/
def impl_Frame_isDrum.k_1 : Option (Bool) := some true
def impl_Frame_isDrum.k_7 (i_2 : Int) (q_6 : Bool) : Option ((Int) ⊕ (Bool ⊕ Unit)) := (if q_6 = true then some (.inr (.inl false)) else some (.inl (w64 (i_2 + 1))))
def impl_Frame_isDrum.l_3 (f0 : GFrame) (d1 : Arr 96 Int) : Int → Option ((Int) ⊕ (Bool ⊕ Unit))
  | i_2 => (if (decide (i_2 < 96)) = true then (ix d1.1 i_2).bind fun x_5 => (if 0 ≤ (f0.fHammers.length : Int) then (if ((bShr .u32 x_5 (f0.fHammers.length : Int)) != 0) = true then impl_Frame_isDrum.k_7 i_2 true else impl_Frame_isDrum.k_7 i_2 ((decide (i_2 ≥ (w64 f0.fSteps))) && (x_5 != 0))) else none) else some (.inr (.inr ())))
def impl_Frame_isDrum (f0 : GFrame) (d1 : Arr 96 Int) : Option (Bool) := (loop (impl_Frame_isDrum.l_3 f0 d1) 0).bind fun t_4 => match t_4 with | .inl p => some p | .inr p => impl_Frame_isDrum.k_1
theorem impl_Frame_isDrum.calls (f0 : GFrame) (d1 : Arr 96 Int) (w : World) (r : Bool) {C_a : Option Addr} {C_an : Nat} (C_c : Nat) (C_h : Rw w C_a 2 encGHammer f0.fHammers) (C_hn : f0.fHammers.length = C_an) (h : impl_Frame_isDrum f0 d1 = some r) :
    Calls Try.prog 154 #[(.agg #[(.int .i16 f0.fSteps), (.slice C_a C_an C_c)]), (.agg (row encU32 d1.1 []).toArray)] w fun e w' => ∃ v, e = .returned v ∧ (v = (.bool r) ∧ Mem w [] [] w') := by
  subst C_hn
  rw [impl_Frame_isDrum] at h
  refine enter (args := [(.agg #[(.int .i16 f0.fSteps), (.slice C_a f0.fHammers.length C_c)]), (.agg (row encU32 d1.1 []).toArray)]) Try.func154 rfl Try.ntmps154 (by kernel_rfl) (L := []) (W := []) (Mem.start w) ?_
  refine jc_seq (jc_region (tO (qa 0 (fun b_1 => jkO (tO (qa 0 (fun b_2 => jkO (qh [0] (qe (jx_then (jc_seq (jc_seq (jc_region (tO (p_ldA 0 1 b_2 96 1 88 encU32 d1 (by kernel_rfl) (by kernel_rfl) (by kernel_rfl) encU32_len (by kernel_rfl) (jkO (qh [0] (qe (jx_then (jc_meet (fun (_ : Unit) => impl_Frame_isDrum.k_1 = some r) (fun (_ : Unit) => [(4, [], (.bool false))]) (fun (_ : Unit) => [⟨some b_1, 34, [(.int .i16 f0.fSteps), (.slice C_a f0.fHammers.length C_c)]⟩, ⟨(some b_2), 88, row encU32 d1.1 []⟩]) ?_ ?_))))))))))))))))))))
  ·refine jc_block ?_
   obtain ⟨t_4, ht_60, hr_48⟩ := bd h
   refine jc_loop (fun (s : Int) (x : Unit) => match s, x with | i_2, _ => True) (fun (s : Int) (x : Unit) => match s, x with | i_2, _ => [(2, [], (.pointer (some ⟨b_1, 0, none⟩))), (4, [], (.bool false)), (7, [], (.agg (row encU32 d1.1 []).toArray)), (8, [], (.int .i64 i_2))]) (fun (s : Int) (x : Unit) => match s, x with | i_2, _ => [⟨some b_1, 34, [(.int .i16 f0.fSteps), (.slice C_a f0.fHammers.length C_c)]⟩, ⟨(some b_2), 88, row encU32 d1.1 []⟩]) ht_60 () trivial (by kernel_rfl) [0, 1] (by kernel_rfl) (by kernel_rfl) ?_
   rintro i_2 _ y_49 _ h
   rw [impl_Frame_isDrum.l_3] at h
   refine jc_seq (jc_region (qh [0] (qe (jx_then (jc_seq (qi h (fun h => ?_) (fun h => ?_)))))))
   ·refine jc_skip (jx_then (jc_seq (jc_block (jc_seq (jc_region (qh [0] ?_))))))
    obtain ⟨x_5, hx_52, h⟩ := bd h
    refine tO (p_ixA 0 encU32 (fun x => (.int .u32 x)) d1 i_2 (by kernel_rfl) (by kernel_rfl) (fun _ => rfl) hx_52 (jkO (qh [0,0] (qe (jx_then (jc_seq (jc_meet (fun (j : Bool) => match j with | q_6 => impl_Frame_isDrum.k_7 i_2 q_6 = some y_49) (fun (j : Bool) => match j with | q_6 => [(2, [], (.pointer (some ⟨b_1, 0, none⟩))), (4, [], (.bool false)), (7, [], (.agg (row encU32 d1.1 []).toArray)), (8, [], (.int .i64 i_2)), (28, [], (.bool q_6))]) (fun (j : Bool) => match j with | q_6 => [⟨some b_1, 34, [(.int .i16 f0.fSteps), (.slice C_a f0.fHammers.length C_c)]⟩, ⟨(some b_2), 88, row encU32 d1.1 []⟩]) ?_ ?_)))))))
    ·refine jc_region (qh [0,0,0,0] ?_)
     obtain ⟨hg_57, h⟩ := gd h
     refine tO (p_shr 0 .u32 x_5 .i64 (f0.fHammers.length : Int) (by kernel_rfl) (by kernel_rfl) hg_57 (jkO (qf [(0, 0), (0, 0), (0, 1), (0, 1), (0, 1), (0, 1), (0, 1)] (qp 18 h (fun h => ?_) (fun h => ?_)))))
     ·exact qf [(0, 3), (0, 3), (0, 3), (0, 3), (0, 4)] (qe (qm true h [0, 1]))
     ·exact qf [(0, 2), (0, 1), (0, 1), (0, 2), (0, 5)] (qe (qm ((decide (i_2 ≥ (w64 f0.fSteps))) && (x_5 != 0)) h [0, 1]))
    ·rintro q_6 h
     replace h : impl_Frame_isDrum.k_7 i_2 q_6 = some y_49 := h
     rw [impl_Frame_isDrum.k_7] at h
     refine jx_then (qi h (fun h => ?_) (fun h => ?_))
     ·refine jc_seq (jc_region (qh [0] (qe (jx_then (jc_ret (jx_inr (jx_thenr (jx_leaver (.inl false) (Option.some.inj h).symm (fun e_56 => ?_)))))))))
      subst e_56
      refine jx_inr (jx_thenr (jx_thenr ?_))
      obtain rfl := Option.some.inj hr_48
      exact qr [] (fun w hm => ⟨rfl, hm.pk []⟩)
     ·exact jc_skip (jx_inn (jx_then (jc_region (qh [0,0] (qe (qb (w64 (i_2 + 1)) () h trivial [0, 1]))))))
   ·refine jc_exit (jx_thenx (jx_leave (.inr ()) (Option.some.inj h).symm (fun e_59 => ?_)))
    subst e_59
    exact jx_ine (qm () hr_48 [0, 1])
  ·rintro _ h
   replace h : impl_Frame_isDrum.k_1 = some r := h
   rw [impl_Frame_isDrum.k_1] at h
   refine jx_then (jc_seq (jc_region (qh [0] (qe (jx_then (jc_ret ?_))))))
   obtain rfl := Option.some.inj h
   exact qr [] (fun w hm => ⟨rfl, hm.pk []⟩)
/-! ### impl.drumCode$1 -/
def impl_drumCode_1 (d0 : Arr 96 Int) (p1 : GFrame) : Option (Bool) := (impl_Frame_isDrum p1 d0).bind fun t_1 => some (!t_1)
theorem impl_drumCode_1.calls (d0 : Arr 96 Int) (p1 : GFrame) (w : World) (r : Bool) {D_a : Option Addr} {D_an : Nat} (D_c : Nat) (D_h : Rw w D_a 2 encGHammer p1.fHammers) (D_hn : p1.fHammers.length = D_an) (B_b : Nat) (hm0 : Mem w (bs [some B_b]) [⟨some B_b, 34, [(.int .i16 p1.fSteps), (.slice D_a D_an D_c)]⟩] w) (D_ha : p1.fHammers ≠ [] → aB D_a ∉ bs [some B_b]) (h : impl_drumCode_1 d0 p1 = some r) :
    Calls Try.prog 153 #[(.agg (row encU32 d0.1 []).toArray), (.pointer (some ⟨B_b, 0, none⟩))] w fun e w' => ∃ v, e = .returned v ∧ (v = (.bool r) ∧ Mem w (bs [some B_b]) [⟨some B_b, 34, [(.int .i16 p1.fSteps), (.slice D_a D_an D_c)]⟩] w') := by
  subst D_hn
  rw [impl_drumCode_1] at h
  refine enter (args := [(.agg (row encU32 d0.1 []).toArray), (.pointer (some ⟨B_b, 0, none⟩))]) Try.func153 rfl Try.ntmps153 (by kernel_rfl) (L := [⟨some B_b, 34, [(.int .i16 p1.fSteps), (.slice D_a p1.fHammers.length D_c)]⟩]) (W := bs [some B_b]) hm0 ?_
  refine jc_seq (jc_region (tO (qa 0 (fun b_1 => jkO (qh [0] (qe (jx_then (jc_seq (jc_region (qh [0] (tO (p_ldA 0 1 b_1 96 1 88 encU32 d0 (by kernel_rfl) (by kernel_rfl) (by kernel_rfl) encU32_len (by kernel_rfl) (jkO ?_)))))))))))))
  obtain ⟨t_1, ht_2, h⟩ := bd h
  refine tO (pc 0 (fun w hm => impl_Frame_isDrum.calls p1 d0 w _ D_c (hm.exRowW D_h D_ha) rfl ht_2) ?_)
  rintro w v w' hm ⟨rfl, hm'⟩
  refine ⟨_, hm.app hm', jkO ?_⟩
  clear hm hm'
  refine qh [0,0] (qe (jx_then (jc_ret ?_)))
  obtain rfl := Option.some.inj h
  exact qr [] (fun w hm => ⟨rfl, hm.pk [0]⟩)
/-! ### slices.IndexFunc[[]impl.Drum,impl.Drum] -/
def slices_IndexFunc_Drum_at_impl_drumCode_1.k_1 : Option (Int) := some (-1)
def slices_IndexFunc_Drum_at_impl_drumCode_1.l_3 (s0 : List (Arr 96 Int)) (g1c0 : GFrame) : Int → Option ((Int) ⊕ (Int ⊕ Unit))
  | i_2 => (if (decide (i_2 < (s0.length : Int))) = true then (ix s0 i_2).bind fun x_5 => (impl_drumCode_1 x_5 g1c0).bind fun t_6 => (if t_6 = true then some (.inr (.inl i_2)) else some (.inl (w64 (i_2 + 1)))) else some (.inr (.inr ())))
def slices_IndexFunc_Drum_at_impl_drumCode_1 (s0 : List (Arr 96 Int)) (g1c0 : GFrame) : Option (Int) := (loop (slices_IndexFunc_Drum_at_impl_drumCode_1.l_3 s0 g1c0) 0).bind fun t_4 => match t_4 with | .inl p => some p | .inr p => slices_IndexFunc_Drum_at_impl_drumCode_1.k_1
theorem slices_IndexFunc_Drum_at_impl_drumCode_1.calls (s0 : List (Arr 96 Int)) (g1c0 : GFrame) (w : World) (r : Int) {A_a : Option Addr} {A_an : Nat} (A_c : Nat) (A_h : Rw w A_a 96 encA96U32 s0) (A_hn : s0.length = A_an) {D_a : Option Addr} {D_an : Nat} (D_c : Nat) (D_h : Rw w D_a 2 encGHammer g1c0.fHammers) (D_hn : g1c0.fHammers.length = D_an) (B_b : Nat) (hm0 : Mem w (bs [some B_b]) [⟨some B_b, 34, [(.int .i16 g1c0.fSteps), (.slice D_a D_an D_c)]⟩] w) (A_ha : s0 ≠ [] → aB A_a ∉ bs [some B_b]) (D_ha : g1c0.fHammers ≠ [] → aB D_a ∉ bs [some B_b]) (h : slices_IndexFunc_Drum_at_impl_drumCode_1 s0 g1c0 = some r) :
    Calls Try.prog 178 #[(.slice A_a A_an A_c), (.func (.func 153) #[] #[(.pointer (some ⟨B_b, 0, none⟩))])] w fun e w' => ∃ v, e = .returned v ∧ (v = (.int .i64 r) ∧ Mem w (bs [some B_b]) [⟨some B_b, 34, [(.int .i16 g1c0.fSteps), (.slice D_a D_an D_c)]⟩] w') := by
  subst A_hn D_hn
  rw [slices_IndexFunc_Drum_at_impl_drumCode_1] at h
  refine enter (args := [(.slice A_a s0.length A_c), (.func (.func 153) #[] #[(.pointer (some ⟨B_b, 0, none⟩))])]) Try.func178 rfl Try.ntmps178 (by kernel_rfl) (L := [⟨some B_b, 34, [(.int .i16 g1c0.fSteps), (.slice D_a g1c0.fHammers.length D_c)]⟩]) (W := bs [some B_b]) hm0 ?_
  refine jc_seq (jc_region (qh [0] (qe (jx_then (jc_seq (jc_seq (jc_region (qh [0,0,0] (qe (jx_then (jc_meet (fun (_ : Unit) => slices_IndexFunc_Drum_at_impl_drumCode_1.k_1 = some r) (fun (_ : Unit) => [(4, [], (.int .i64 0))]) (fun (_ : Unit) => [⟨some B_b, 34, [(.int .i16 g1c0.fSteps), (.slice D_a g1c0.fHammers.length D_c)]⟩]) ?_ ?_)))))))))))
  ·refine jc_block ?_
   obtain ⟨t_4, ht_40, hr_31⟩ := bd h
   refine jc_loop (fun (s : Int) (x : Unit) => match s, x with | i_2, _ => True) (fun (s : Int) (x : Unit) => match s, x with | i_2, _ => [(0, [], (.slice A_a s0.length A_c)), (1, [], (.func (.func 153) #[] #[(.pointer (some ⟨B_b, 0, none⟩))])), (4, [], (.int .i64 0)), (7, [], (.int .i64 (s0.length : Int))), (8, [], (.int .i64 i_2))]) (fun (s : Int) (x : Unit) => match s, x with | i_2, _ => [⟨some B_b, 34, [(.int .i16 g1c0.fSteps), (.slice D_a g1c0.fHammers.length D_c)]⟩]) ht_40 () trivial (by kernel_rfl) [0] (by kernel_rfl) (by kernel_rfl) ?_
   rintro i_2 _ y_32 _ h
   rw [slices_IndexFunc_Drum_at_impl_drumCode_1.l_3] at h
   refine jc_seq (jc_region (qh [0] (qe (jx_then (jc_seq (qi h (fun h => ?_) (fun h => ?_)))))))
   ·refine jc_skip (jx_then (jc_seq (jc_block (jc_seq (jc_region (qh [0,0] (qe (jx_then (jc_seq (jc_region (qh [0,0,0] ?_)))))))))))
    obtain ⟨x_5, hx_35, h⟩ := bd h
    refine tO (qx 0 A_a 96 hx_35 rfl (A_h.sp hx_35) (jkO (tO (p_ldx 0 (aB A_a) (aO A_a + i_2.toNat * 96) (encA96U32 x_5) 96 (by kernel_rfl) (by kernel_rfl) (encA96U32_len x_5) (fun w hm => ((hm.exRowW A_h A_ha).at hx_35)) (jkO ?_)))))
    obtain ⟨t_6, ht_36, h⟩ := bd h
    refine tO (pc 0 (fun w hm => impl_drumCode_1.calls x_5 g1c0 w _ D_c (hm.exRowW D_h D_ha) rfl B_b (hm.pass (N := [⟨some B_b, 34, [(.int .i16 g1c0.fSteps), (.slice D_a g1c0.fHammers.length D_c)]⟩]) [0] (by kernel_rfl) (by kernel_rfl)) (hm.exApart (N := [⟨some B_b, 34, [(.int .i16 g1c0.fSteps), (.slice D_a g1c0.fHammers.length D_c)]⟩]) D_h D_ha [0] (by kernel_rfl)) ht_36) ?_)
    rintro w v w' hm ⟨rfl, hm'⟩
    refine ⟨_, hm.appW (ps := [(0, ⟨some B_b, 34, [(.int .i16 g1c0.fSteps), (.slice D_a g1c0.fHammers.length D_c)]⟩)]) (N := []) hm' (by kernel_rfl) (by kernel_rfl), jkO ?_⟩
    clear hm hm'
    refine qe (jx_then (qi h (fun h => ?_) (fun h => ?_)))
    ·refine jc_seq (jc_region (qh [0,0] (qe (jx_then (jc_ret (jx_inr (jx_thenr (jx_leaver (.inl i_2) (Option.some.inj h).symm (fun e_38 => ?_)))))))))
     subst e_38
     refine jx_inr (jx_thenr (jx_thenr ?_))
     obtain rfl := Option.some.inj hr_31
     exact qr [] (fun w hm => ⟨rfl, hm.pk [0]⟩)
    ·exact jc_skip (jx_inn (jx_then (jc_region (qh [0,0] (qe (qb (w64 (i_2 + 1)) () h trivial [0]))))))
   ·refine jc_exit (jx_thenx (jx_leave (.inr ()) (Option.some.inj h).symm (fun e_39 => ?_)))
    subst e_39
    exact jx_ine (qm () hr_31 [0])
  ·rintro _ h
   replace h : slices_IndexFunc_Drum_at_impl_drumCode_1.k_1 = some r := h
   rw [slices_IndexFunc_Drum_at_impl_drumCode_1.k_1] at h
   refine jx_then (jc_seq (jc_region (qh [0] (qe (jx_then (jc_ret ?_))))))
   obtain rfl := Option.some.inj h
   exact qr [] (fun w hm => ⟨rfl, hm.pk [0]⟩)
/-! ### slices.ContainsFunc[[]impl.Drum,impl.Drum] -/
def slices_ContainsFunc_Drum_at_impl_drumCode_1 (s0 : List (Arr 96 Int)) (g1c0 : GFrame) : Option (Bool) := (slices_IndexFunc_Drum_at_impl_drumCode_1 s0 g1c0).bind fun t_1 => some (decide (t_1 ≥ 0))
theorem slices_ContainsFunc_Drum_at_impl_drumCode_1.calls (s0 : List (Arr 96 Int)) (g1c0 : GFrame) (w : World) (r : Bool) {A_a : Option Addr} {A_an : Nat} (A_c : Nat) (A_h : Rw w A_a 96 encA96U32 s0) (A_hn : s0.length = A_an) {D_a : Option Addr} {D_an : Nat} (D_c : Nat) (D_h : Rw w D_a 2 encGHammer g1c0.fHammers) (D_hn : g1c0.fHammers.length = D_an) (B_b : Nat) (hm0 : Mem w (bs [some B_b]) [⟨some B_b, 34, [(.int .i16 g1c0.fSteps), (.slice D_a D_an D_c)]⟩] w) (A_ha : s0 ≠ [] → aB A_a ∉ bs [some B_b]) (D_ha : g1c0.fHammers ≠ [] → aB D_a ∉ bs [some B_b]) (h : slices_ContainsFunc_Drum_at_impl_drumCode_1 s0 g1c0 = some r) :
    Calls Try.prog 152 #[(.slice A_a A_an A_c), (.func (.func 153) #[] #[(.pointer (some ⟨B_b, 0, none⟩))])] w fun e w' => ∃ v, e = .returned v ∧ (v = (.bool r) ∧ Mem w (bs [some B_b]) [⟨some B_b, 34, [(.int .i16 g1c0.fSteps), (.slice D_a D_an D_c)]⟩] w') := by
  subst A_hn D_hn
  rw [slices_ContainsFunc_Drum_at_impl_drumCode_1] at h
  refine enter (args := [(.slice A_a s0.length A_c), (.func (.func 153) #[] #[(.pointer (some ⟨B_b, 0, none⟩))])]) Try.func152 rfl Try.ntmps152 (by kernel_rfl) (L := [⟨some B_b, 34, [(.int .i16 g1c0.fSteps), (.slice D_a g1c0.fHammers.length D_c)]⟩]) (W := bs [some B_b]) hm0 ?_
  refine jc_seq (jc_region (qh [0] (qe (jx_then (jc_seq (jc_region (qh [0,0] ?_)))))))
  obtain ⟨t_1, ht_1, h⟩ := bd h
  refine tO (pc 0 (fun w hm => slices_IndexFunc_Drum_at_impl_drumCode_1.calls s0 g1c0 w _ A_c (hm.exRowW A_h A_ha) rfl D_c (hm.exRowW D_h D_ha) rfl B_b (hm.pass (N := [⟨some B_b, 34, [(.int .i16 g1c0.fSteps), (.slice D_a g1c0.fHammers.length D_c)]⟩]) [0] (by kernel_rfl) (by kernel_rfl)) (hm.exApart (N := [⟨some B_b, 34, [(.int .i16 g1c0.fSteps), (.slice D_a g1c0.fHammers.length D_c)]⟩]) A_h A_ha [0] (by kernel_rfl)) (hm.exApart (N := [⟨some B_b, 34, [(.int .i16 g1c0.fSteps), (.slice D_a g1c0.fHammers.length D_c)]⟩]) D_h D_ha [0] (by kernel_rfl)) ht_1) ?_)
  rintro w v w' hm ⟨rfl, hm'⟩
  refine ⟨_, hm.appW (ps := [(0, ⟨some B_b, 34, [(.int .i16 g1c0.fSteps), (.slice D_a g1c0.fHammers.length D_c)]⟩)]) (N := []) hm' (by kernel_rfl) (by kernel_rfl), jkO ?_⟩
  clear hm hm'
  refine qh [0,0] (qe (jx_then (jc_ret ?_)))
  obtain rfl := Option.some.inj h
  exact qr [] (fun w hm => ⟨rfl, hm.pk [0]⟩)
/-! ### impl.unless -/
def impl_unless (is0 : Bool) (code1 : Int) : Option (Int) := (if is0 = true then some 0 else some code1)
theorem impl_unless.calls (is0 : Bool) (code1 : Int) (w : World) (r : Int) (h : impl_unless is0 code1 = some r) :
    Calls Try.prog 94 #[(.bool is0), (.int .i64 code1)] w fun e w' => ∃ v, e = .returned v ∧ (v = (.int .i64 r) ∧ Mem w [] [] w') := by
  rw [impl_unless] at h
  refine enter (args := [(.bool is0), (.int .i64 code1)]) Try.func94 rfl Try.ntmps94 (by kernel_rfl) (L := []) (W := []) (Mem.start w) ?_
  refine jc_seq (jc_region (qh [0] (qe (jx_then (jc_seq (jc_seq (jc_region (qh [0] (qe (jx_then (qi h (fun h => ?_) (fun h => ?_))))))))))))
  ·refine jc_seq (jc_region (qh [0] (qe (jx_then (jc_ret (jx_thenr ?_))))))
   obtain rfl := Option.some.inj h
   exact qr [] (fun w hm => ⟨rfl, hm.pk []⟩)
  ·refine jc_skip (jx_then (jc_seq (jc_region (qh [0,0] (qe (jx_then (jc_ret ?_)))))))
   obtain rfl := Option.some.inj h
   exact qr [] (fun w hm => ⟨rfl, hm.pk []⟩)
/-! ### impl.drumCode -/
def impl_drumCode (f0 : GFrame) (list1 : List (Arr 96 Int)) : Option (Int) := (impl_ValidFrame f0).bind fun t_1 => (if t_1 = true then (slices_ContainsFunc_Drum_at_impl_drumCode_1 list1 f0).bind fun t_2 => (impl_unless (!t_2) 1).bind fun t_3 => some t_3 else (impl_unless false 1).bind fun t_4 => some t_4)
theorem impl_drumCode.calls (f0 : GFrame) (list1 : List (Arr 96 Int)) (w : World) (r : Int) {C_a : Option Addr} {C_an : Nat} (C_c : Nat) (C_h : Rw w C_a 2 encGHammer f0.fHammers) (C_hn : f0.fHammers.length = C_an) {D_a : Option Addr} {D_an : Nat} (D_c : Nat) (D_h : Rw w D_a 96 encA96U32 list1) (D_hn : list1.length = D_an) (h : impl_drumCode f0 list1 = some r) :
    Calls Try.prog 114 #[(.agg #[(.int .i16 f0.fSteps), (.slice C_a C_an C_c)]), (.slice D_a D_an D_c)] w fun e w' => ∃ v, e = .returned v ∧ (v = (.int .i64 r) ∧ Mem w [] [] w') := by
  subst C_hn D_hn
  rw [impl_drumCode] at h
  refine enter (args := [(.agg #[(.int .i16 f0.fSteps), (.slice C_a f0.fHammers.length C_c)]), (.slice D_a list1.length D_c)]) Try.func114 rfl Try.ntmps114 (by kernel_rfl) (L := []) (W := []) (Mem.start w) ?_
  refine jc_seq (jc_region (tO (qa 0 (fun b_1 => jkO (qh [0] (qe (jx_then (jc_seq (jc_region (qh [0] ?_))))))))))
  obtain ⟨t_1, ht_2, h⟩ := bd h
  refine tO (pc 0 (fun w hm => impl_ValidFrame.calls f0 w _ C_c (hm.xr C_h) rfl ht_2) ?_)
  rintro w v w' hm ⟨rfl, hm'⟩
  refine ⟨_, hm.app hm', jkO ?_⟩
  clear hm hm'
  refine qf [(0, 0), (0, 1), (0, 1)] (qp 7 h (fun h => ?_) (fun h => ?_))
  ·obtain ⟨t_2, ht_4, h⟩ := bd h
   refine tO (pc 2 (fun w hm => slices_ContainsFunc_Drum_at_impl_drumCode_1.calls list1 f0 w _ D_c (hm.xr D_h) rfl C_c (hm.xr C_h) rfl b_1 (hm.pass (N := [⟨some b_1, 34, [(.int .i16 f0.fSteps), (.slice C_a f0.fHammers.length C_c)]⟩]) [0] (by kernel_rfl) (by kernel_rfl)) (hm.exApart (N := [⟨some b_1, 34, [(.int .i16 f0.fSteps), (.slice C_a f0.fHammers.length C_c)]⟩]) D_h (fun _ => List.not_mem_nil) [0] (by kernel_rfl)) (hm.exApart (N := [⟨some b_1, 34, [(.int .i16 f0.fSteps), (.slice C_a f0.fHammers.length C_c)]⟩]) C_h (fun _ => List.not_mem_nil) [0] (by kernel_rfl)) ht_4) ?_)
   rintro w v w' hm ⟨rfl, hm'⟩
   refine ⟨_, hm.appW (ps := [(0, ⟨some b_1, 34, [(.int .i16 f0.fSteps), (.slice C_a f0.fHammers.length C_c)]⟩)]) (N := []) hm' (by kernel_rfl) (by kernel_rfl), jkO ?_⟩
   clear hm hm'
   refine qf [(0, 2), (0, 4)] ?_
   obtain ⟨t_3, ht_5, h⟩ := bd h
   refine tO (pc 0 (fun w hm => impl_unless.calls (!t_2) 1 w _ ht_5) ?_)
   rintro w v w' hm ⟨rfl, hm'⟩
   refine ⟨_, hm.app hm', jkO ?_⟩
   clear hm hm'
   refine qh [0] (qe (jx_then (jc_ret ?_)))
   obtain rfl := Option.some.inj h
   exact qr [] (fun w hm => ⟨rfl, hm.pk []⟩)
  ·refine qf [(0, 3), (0, 3), (0, 5)] ?_
   obtain ⟨t_4, ht_6, h⟩ := bd h
   refine tO (pc 0 (fun w hm => impl_unless.calls false 1 w _ ht_6) ?_)
   rintro w v w' hm ⟨rfl, hm'⟩
   refine ⟨_, hm.app hm', jkO ?_⟩
   clear hm hm'
   refine qh [0] (qe (jx_then (jc_ret ?_)))
   obtain rfl := Option.some.inj h
   exact qr [] (fun w hm => ⟨rfl, hm.pk []⟩)
/-! ### impl.firstOf -/
def impl_firstOf.k_1 : Option (Int) := some 0
def impl_firstOf.l_3 (codes0 : List Int) : Int → Option ((Int) ⊕ (Int ⊕ Unit))
  | i_2 => (if (decide (i_2 < (codes0.length : Int))) = true then (ix codes0 i_2).bind fun x_5 => (if (x_5 != 0) = true then some (.inr (.inl x_5)) else some (.inl (w64 (i_2 + 1)))) else some (.inr (.inr ())))
def impl_firstOf (codes0 : List Int) : Option (Int) := (loop (impl_firstOf.l_3 codes0) 0).bind fun t_4 => match t_4 with | .inl p => some p | .inr p => impl_firstOf.k_1
theorem impl_firstOf.calls (codes0 : List Int) (w : World) (r : Int) {A_a : Option Addr} {A_an : Nat} (A_c : Nat) (A_h : Rw w A_a 1 encI64 codes0) (A_hn : codes0.length = A_an) (h : impl_firstOf codes0 = some r) :
    Calls Try.prog 92 #[(.slice A_a A_an A_c)] w fun e w' => ∃ v, e = .returned v ∧ (v = (.int .i64 r) ∧ Mem w [] [] w') := by
  subst A_hn
  rw [impl_firstOf] at h
  refine enter (args := [(.slice A_a codes0.length A_c)]) Try.func92 rfl Try.ntmps92 (by kernel_rfl) (L := []) (W := []) (Mem.start w) ?_
  refine jc_seq (jc_region (qh [0] (qe (jx_then (jc_seq (jc_seq (jc_region (qh [0,0,0] (qe (jx_then (jc_meet (fun (_ : Unit) => impl_firstOf.k_1 = some r) (fun (_ : Unit) => [(2, [], (.int .i64 0))]) (fun (_ : Unit) => []) ?_ ?_)))))))))))
  ·refine jc_block ?_
   obtain ⟨t_4, ht_34, hr_26⟩ := bd h
   refine jc_loop (fun (s : Int) (x : Unit) => match s, x with | i_2, _ => True) (fun (s : Int) (x : Unit) => match s, x with | i_2, _ => [(2, [], (.int .i64 0)), (5, [], (.slice A_a codes0.length A_c)), (6, [], (.int .i64 (codes0.length : Int))), (7, [], (.int .i64 i_2))]) (fun (s : Int) (x : Unit) => match s, x with | i_2, _ => []) ht_34 () trivial (by kernel_rfl) [] (by kernel_rfl) (by kernel_rfl) ?_
   rintro i_2 _ y_27 _ h
   rw [impl_firstOf.l_3] at h
   refine jc_seq (jc_region (qh [0] (qe (jx_then (jc_seq (qi h (fun h => ?_) (fun h => ?_)))))))
   ·refine jc_skip (jx_then (jc_seq (jc_block (jc_seq (jc_region ?_)))))
    obtain ⟨x_5, hx_30, h⟩ := bd h
    refine tO (qx 0 A_a 1 hx_30 rfl (A_h.sp hx_30) (jkO (tO (ql 0 false (fun w hm => ((hm.xr A_h).at hx_30)) (jkO (qh [0] (qe (jx_then (jc_seq (jc_region (qh [0,0] (qe (jx_then (qi h (fun h => ?_) (fun h => ?_)))))))))))))))
    ·refine jc_seq (jc_region (qh [0,0] (qe (jx_then (jc_ret (jx_inr (jx_thenr (jx_leaver (.inl x_5) (Option.some.inj h).symm (fun e_32 => ?_)))))))))
     subst e_32
     refine jx_inr (jx_thenr (jx_thenr ?_))
     obtain rfl := Option.some.inj hr_26
     exact qr [] (fun w hm => ⟨rfl, hm.pk []⟩)
    ·exact jc_skip (jx_inn (jx_then (jc_region (qh [0,0] (qe (qb (w64 (i_2 + 1)) () h trivial []))))))
   ·refine jc_exit (jx_thenx (jx_leave (.inr ()) (Option.some.inj h).symm (fun e_33 => ?_)))
    subst e_33
    exact jx_ine (qm () hr_26 [])
  ·rintro _ h
   replace h : impl_firstOf.k_1 = some r := h
   rw [impl_firstOf.k_1] at h
   refine jx_then (jc_seq (jc_region (qh [0] (qe (jx_then (jc_ret ?_))))))
   obtain rfl := Option.some.inj h
   exact qr [] (fun w hm => ⟨rfl, hm.pk []⟩)
/-! ### impl.listCode -/
def impl_listCode (f0 : GFrame) (list1 : List (Arr 96 Int)) : Option (Int) := (impl_drumCode f0 list1).bind fun t_1 => (impl_unless (decide ((list1.length : Int) ≤ 8)) 3).bind fun t_2 => (impl_firstOf ([t_1, t_2] : List Int)).bind fun t_3 => some t_3
theorem impl_listCode.calls (f0 : GFrame) (list1 : List (Arr 96 Int)) (w : World) (r : Int) {C_a : Option Addr} {C_an : Nat} (C_c : Nat) (C_h : Rw w C_a 2 encGHammer f0.fHammers) (C_hn : f0.fHammers.length = C_an) {D_a : Option Addr} {D_an : Nat} (D_c : Nat) (D_h : Rw w D_a 96 encA96U32 list1) (D_hn : list1.length = D_an) (h : impl_listCode f0 list1 = some r) :
    Calls Try.prog 80 #[(.agg #[(.int .i16 f0.fSteps), (.slice C_a C_an C_c)]), (.slice D_a D_an D_c)] w fun e w' => ∃ v, e = .returned v ∧ (v = (.int .i64 r) ∧ Mem w [] [] w') := by
  subst C_hn D_hn
  rw [impl_listCode] at h
  refine enter (args := [(.agg #[(.int .i16 f0.fSteps), (.slice C_a f0.fHammers.length C_c)]), (.slice D_a list1.length D_c)]) Try.func80 rfl Try.ntmps80 (by kernel_rfl) (L := []) (W := []) (Mem.start w) ?_
  refine jc_seq (jc_region (tO (qa 0 (fun b_1 => jkO (qh [0] (qe (jx_then (jc_seq (jc_region (qh [0,0] ?_))))))))))
  obtain ⟨t_1, ht_2, h⟩ := bd h
  refine tO (pc 0 (fun w hm => impl_drumCode.calls f0 list1 w _ C_c (hm.xr C_h) rfl D_c (hm.xr D_h) rfl ht_2) ?_)
  rintro w v w' hm ⟨rfl, hm'⟩
  refine ⟨_, hm.app hm', jkO ?_⟩
  clear hm hm'
  refine qh [0,0,0] ?_
  obtain ⟨t_2, ht_3, h⟩ := bd h
  refine tO (pc 0 (fun w hm => impl_unless.calls (decide ((list1.length : Int) ≤ 8)) 3 w _ ht_3) ?_)
  rintro w v w' hm ⟨rfl, hm'⟩
  refine ⟨_, hm.app hm', jkO ?_⟩
  clear hm hm'
  refine tO (qa 0 (fun b_4 => jkO ?_))
  obtain ⟨t_3, ht_5, h⟩ := bd h
  refine tO (pc 0 (fun w hm => impl_firstOf.calls ([t_1, t_2] : List Int) w _ 2 (hm.ow 1 (some b_4) 2 ([t_1, t_2] : List Int) [] (fun e => nomatch e) encI64_len) rfl ht_5) ?_)
  rintro w v w' hm ⟨rfl, hm'⟩
  refine ⟨_, hm.app hm', jkO ?_⟩
  clear hm hm'
  refine qh [0] (qe (jx_then (jc_ret ?_)))
  obtain rfl := Option.some.inj h
  exact qr [] (fun w hm => ⟨rfl, hm.pk []⟩)
/-! ### impl.size[impl.Drum] -/
def impl_size_Drum (list0 : List (Arr 96 Int)) : Option (Int) := some (list0.length : Int)
theorem impl_size_Drum.calls (list0 : List (Arr 96 Int)) (w : World) (r : Int) {A_a : Option Addr} {A_an : Nat} (A_c : Nat) (A_h : Rw w A_a 96 encA96U32 list0) (A_hn : list0.length = A_an) (h : impl_size_Drum list0 = some r) :
    Calls Try.prog 81 #[(.slice A_a A_an A_c)] w fun e w' => ∃ v, e = .returned v ∧ (v = (.int .i64 r) ∧ Mem w [] [] w') := by
  subst A_hn
  rw [impl_size_Drum] at h
  refine enter (args := [(.slice A_a list0.length A_c)]) Try.func81 rfl Try.ntmps81 (by kernel_rfl) (L := []) (W := []) (Mem.start w) ?_
  refine jc_seq (jc_region (qh [0] (qe (jx_then (jc_seq (jc_region (qh [0,0,0] (qe (jx_then (jc_ret ?_))))))))))
  obtain rfl := Option.some.inj h
  exact qr [] (fun w hm => ⟨rfl, hm.pk []⟩)
/-! ### impl.startCode -/
def impl_startCode (f0 : GFrame) (list1 : List (Arr 96 Int)) (first2 : Int) : Option (Int) := (impl_listCode f0 list1).bind fun t_1 => (impl_size_Drum list1).bind fun t_2 => (impl_within first2 (-1) (w64 (t_2 - 1))).bind fun t_3 => (impl_unless t_3 2).bind fun t_4 => (impl_unless (decide ((list1.length : Int) > 0)) 6).bind fun t_5 => (impl_firstOf ([t_1, t_4, t_5] : List Int)).bind fun t_6 => some t_6
theorem impl_startCode.calls (f0 : GFrame) (list1 : List (Arr 96 Int)) (first2 : Int) (w : World) (r : Int) {C_a : Option Addr} {C_an : Nat} (C_c : Nat) (C_h : Rw w C_a 2 encGHammer f0.fHammers) (C_hn : f0.fHammers.length = C_an) {D_a : Option Addr} {D_an : Nat} (D_c : Nat) (D_h : Rw w D_a 96 encA96U32 list1) (D_hn : list1.length = D_an) (h : impl_startCode f0 list1 first2 = some r) :
    Calls Try.prog 54 #[(.agg #[(.int .i16 f0.fSteps), (.slice C_a C_an C_c)]), (.slice D_a D_an D_c), (.int .i64 first2)] w fun e w' => ∃ v, e = .returned v ∧ (v = (.int .i64 r) ∧ Mem w [] [] w') := by
  subst C_hn D_hn
  rw [impl_startCode] at h
  refine enter (args := [(.agg #[(.int .i16 f0.fSteps), (.slice C_a f0.fHammers.length C_c)]), (.slice D_a list1.length D_c), (.int .i64 first2)]) Try.func54 rfl Try.ntmps54 (by kernel_rfl) (L := []) (W := []) (Mem.start w) ?_
  refine jc_seq (jc_region (tO (qa 0 (fun b_1 => jkO (qh [0] (qe (jx_then (jc_seq (jc_region (qh [0,0] ?_))))))))))
  obtain ⟨t_1, ht_2, h⟩ := bd h
  refine tO (pc 0 (fun w hm => impl_listCode.calls f0 list1 w _ C_c (hm.xr C_h) rfl D_c (hm.xr D_h) rfl ht_2) ?_)
  rintro w v w' hm ⟨rfl, hm'⟩
  refine ⟨_, hm.app hm', jkO ?_⟩
  clear hm hm'
  refine qh [0,0] ?_
  obtain ⟨t_2, ht_3, h⟩ := bd h
  refine tO (pc 0 (fun w hm => impl_size_Drum.calls list1 w _ D_c (hm.xr D_h) rfl ht_3) ?_)
  rintro w v w' hm ⟨rfl, hm'⟩
  refine ⟨_, hm.app hm', jkO ?_⟩
  clear hm hm'
  refine qh [0] ?_
  obtain ⟨t_3, ht_4, h⟩ := bd h
  refine tO (pc 0 (fun w hm => impl_within.calls first2 (-1) (w64 (t_2 - 1)) w _ ht_4) ?_)
  rintro w v w' hm ⟨rfl, hm'⟩
  refine ⟨_, hm.app hm', jkO ?_⟩
  clear hm hm'
  obtain ⟨t_4, ht_5, h⟩ := bd h
  refine tO (pc 0 (fun w hm => impl_unless.calls t_3 2 w _ ht_5) ?_)
  rintro w v w' hm ⟨rfl, hm'⟩
  refine ⟨_, hm.app hm', jkO ?_⟩
  clear hm hm'
  refine qh [0,0,0] ?_
  obtain ⟨t_5, ht_6, h⟩ := bd h
  refine tO (pc 0 (fun w hm => impl_unless.calls (decide ((list1.length : Int) > 0)) 6 w _ ht_6) ?_)
  rintro w v w' hm ⟨rfl, hm'⟩
  refine ⟨_, hm.app hm', jkO ?_⟩
  clear hm hm'
  refine tO (qa 0 (fun b_7 => jkO ?_))
  obtain ⟨t_6, ht_8, h⟩ := bd h
  refine tO (pc 0 (fun w hm => impl_firstOf.calls ([t_1, t_4, t_5] : List Int) w _ 3 (hm.ow 1 (some b_7) 2 ([t_1, t_4, t_5] : List Int) [] (fun e => nomatch e) encI64_len) rfl ht_8) ?_)
  rintro w v w' hm ⟨rfl, hm'⟩
  refine ⟨_, hm.app hm', jkO ?_⟩
  clear hm hm'
  refine qh [0] (qe (jx_then (jc_ret ?_)))
  obtain rfl := Option.some.inj h
  exact qr [] (fun w hm => ⟨rfl, hm.pk []⟩)
/-! ### (impl.Drum).less -/
def impl_Drum_less.k_2 (a_1 : Arr 96 Int) : Option ((Arr 96 Int)) := some a_1
def impl_Drum_less.l_5 (e1 : Arr 96 Int) : ((Arr 96 Int) × Int) → Option (((Arr 96 Int) × Int) ⊕ ((Arr 96 Int)))
  | (a_3, i_4) => (if (decide (i_4 < 96)) = true then (ix e1.1 i_4).bind fun x_7 => (ix a_3.1 i_4).bind fun x_8 => (ix a_3.1 i_4).bind fun x_9 => some (.inl ((Arr.set a_3 i_4 (bClr .u32 x_8 x_7)), (w64 (i_4 + 1)))) else some (.inr a_3))
def impl_Drum_less (d0 : Arr 96 Int) (e1 : Arr 96 Int) : Option ((Arr 96 Int)) := (loop (impl_Drum_less.l_5 e1) (d0, 0)).bind fun t_6 => impl_Drum_less.k_2 t_6
theorem impl_Drum_less.calls (d0 : Arr 96 Int) (e1 : Arr 96 Int) (w : World) (r : (Arr 96 Int)) (h : impl_Drum_less d0 e1 = some r) :
    Calls Try.prog 143 #[(.agg (row encU32 d0.1 []).toArray), (.agg (row encU32 e1.1 []).toArray)] w fun e w' => ∃ v, e = .returned v ∧ (v = (.agg (row encU32 r.1 []).toArray) ∧ Mem w [] [] w') := by
  rw [impl_Drum_less] at h
  refine enter (args := [(.agg (row encU32 d0.1 []).toArray), (.agg (row encU32 e1.1 []).toArray)]) Try.func143 rfl Try.ntmps143 (by kernel_rfl) (L := []) (W := []) (Mem.start w) ?_
  refine jc_seq (jc_region (tO (qa 0 (fun b_1 => jkO (tO (qa 0 (fun b_2 => jkO (tO (qa 0 (fun b_3 => jkO (qe (jx_then (jc_seq (jc_seq (jc_region (tO (p_ldA 0 1 b_2 96 1 88 encU32 e1 (by kernel_rfl) (by kernel_rfl) (by kernel_rfl) encU32_len (by kernel_rfl) (jkO (qh [0] (qe (jx_then (jc_meet (fun (j : (Arr 96 Int)) => match j with | a_1 => impl_Drum_less.k_2 a_1 = some r) (fun (j : (Arr 96 Int)) => match j with | a_1 => [(2, [], (.pointer (some ⟨b_1, 0, none⟩))), (4, [], (.pointer (some ⟨b_3, 0, none⟩)))]) (fun (j : (Arr 96 Int)) => match j with | a_1 => [⟨(some b_1), 88, row encU32 a_1.1 []⟩, ⟨(some b_2), 88, row encU32 e1.1 []⟩, ⟨(some b_3), 88, row encU32 ((Arr.rep 96 0).1) []⟩]) ?_ ?_))))))))))))))))))))))
  ·refine jc_block ?_
   obtain ⟨t_6, ht_79, hr_71⟩ := bd h
   refine jc_loop (fun (s : (Arr 96 Int) × Int) (x : Unit) => match s, x with | ⟨a_3, i_4⟩, _ => True) (fun (s : (Arr 96 Int) × Int) (x : Unit) => match s, x with | ⟨a_3, i_4⟩, _ => [(2, [], (.pointer (some ⟨b_1, 0, none⟩))), (4, [], (.pointer (some ⟨b_3, 0, none⟩))), (7, [], (.agg (row encU32 e1.1 []).toArray)), (8, [], (.int .i64 i_4))]) (fun (s : (Arr 96 Int) × Int) (x : Unit) => match s, x with | ⟨a_3, i_4⟩, _ => [⟨(some b_1), 88, row encU32 a_3.1 []⟩, ⟨(some b_2), 88, row encU32 e1.1 []⟩, ⟨(some b_3), 88, row encU32 ((Arr.rep 96 0).1) []⟩]) ht_79 () trivial (by kernel_rfl) [0, 1, 2] (by kernel_rfl) (by kernel_rfl) ?_
   rintro ⟨a_3, i_4⟩ _ y_72 _ h
   rw [impl_Drum_less.l_5] at h
   refine jc_seq (jc_region (qh [0] (qe (jx_then (jc_seq (qi h (fun h => ?_) (fun h => ?_)))))))
   ·refine jc_skip (jx_then (jc_seq (jc_block (jc_seq (jc_region (qh [0] ?_))))))
    obtain ⟨x_7, hx_75, h⟩ := bd h
    refine tO (p_ixA 0 encU32 (fun x => (.int .u32 x)) e1 i_4 (by kernel_rfl) (by kernel_rfl) (fun _ => rfl) hx_75 (jkO (qh [0,0] (qe (jx_then (jc_region (qh [0] ?_)))))))
    obtain ⟨x_8, hx_76, h⟩ := bd h
    refine tO (qx 0 (some ⟨b_1, 0, none⟩) 1 hx_76 a_3.2 rfl (jkO (tO (ql 0 false (fun w hm => ((hm.ow 0 (some b_1) 88 a_3.1 [] (fun e => nomatch e) encU32_len).at hx_76)) (jkO (qh [0,0] ?_))))))
    obtain ⟨x_9, hx_77, h⟩ := bd h
    exact tO (qx 0 (some ⟨b_1, 0, none⟩) 1 hx_77 a_3.2 rfl (jkO (tO (p_str 0 0 b_1 88 encU32 a_3.1 [] i_4 (bClr .u32 x_8 x_7) 1 0 [(.int .u32 (bClr .u32 x_8 x_7))] (by kernel_rfl) (by kernel_rfl) (by kernel_rfl) encU32_len hx_77 (by kernel_rfl) (by kernel_rfl) (jkO (qe (jx_inn (jx_then (jc_region (qh [0,0] (qe (qb ((Arr.set a_3 i_4 (bClr .u32 x_8 x_7)), (w64 (i_4 + 1))) () h trivial [0, 1, 2]))))))))))))
   ·refine jc_exit (jx_thenx (jx_leave a_3 (Option.some.inj h).symm (fun e_78 => ?_)))
    subst e_78
    exact jx_ine (qm a_3 hr_71 [0, 1, 2])
  ·rintro a_1 h
   replace h : impl_Drum_less.k_2 a_1 = some r := h
   rw [impl_Drum_less.k_2] at h
   refine jx_then (jc_seq (jc_region (tO (p_ldA 0 0 b_1 96 1 88 encU32 a_1 (by kernel_rfl) (by kernel_rfl) (by kernel_rfl) encU32_len (by kernel_rfl) (jkO (tO (p_sA 0 2 b_3 96 1 88 encU32 (Arr.rep 96 0) a_1 (by kernel_rfl) (by kernel_rfl) (by kernel_rfl) encU32_len encU32_cell (by kernel_rfl) (jkO (qe (jx_then (jc_ret ?_)))))))))))
   obtain rfl := Option.some.inj h
   exact jx_retV rfl (rq_arr (b := b_3) (T' := 88) (hh := 2) (mm := 1) encU32 a_1 (by kernel_rfl) (by kernel_rfl) encU32_len (by kernel_rfl) rq_nil) (fun w hm => ⟨rfl, hm.pk []⟩)
/-! ### math/bits.OnesCount32 -/
def math_bits_OnesCount32 (x0 : Int) : Option (Int) := (sIx (ByteArray.mk #[0, 1, 1, 2, 1, 2, 2, 3, 1, 2, 2, 3, 2, 3, 3, 4, 1, 2, 2, 3, 2, 3, 3, 4, 2, 3, 3, 4, 3, 4, 4, 5, 1, 2, 2, 3, 2, 3, 3, 4, 2, 3, 3, 4, 3, 4, 4, 5, 2, 3, 3, 4, 3, 4, 4, 5, 3, 4, 4, 5, 4, 5, 5, 6, 1, 2, 2, 3, 2, 3, 3, 4, 2, 3, 3, 4, 3, 4, 4, 5, 2, 3, 3, 4, 3, 4, 4, 5, 3, 4, 4, 5, 4, 5, 5, 6, 2, 3, 3, 4, 3, 4, 4, 5, 3, 4, 4, 5, 4, 5, 5, 6, 3, 4, 4, 5, 4, 5, 5, 6, 4, 5, 5, 6, 5, 6, 6, 7, 1, 2, 2, 3, 2, 3, 3, 4, 2, 3, 3, 4, 3, 4, 4, 5, 2, 3, 3, 4, 3, 4, 4, 5, 3, 4, 4, 5, 4, 5, 5, 6, 2, 3, 3, 4, 3, 4, 4, 5, 3, 4, 4, 5, 4, 5, 5, 6, 3, 4, 4, 5, 4, 5, 5, 6, 4, 5, 5, 6, 5, 6, 6, 7, 2, 3, 3, 4, 3, 4, 4, 5, 3, 4, 4, 5, 4, 5, 5, 6, 3, 4, 4, 5, 4, 5, 5, 6, 4, 5, 5, 6, 5, 6, 6, 7, 3, 4, 4, 5, 4, 5, 5, 6, 4, 5, 5, 6, 5, 6, 6, 7, 4, 5, 5, 6, 5, 6, 6, 7, 5, 6, 6, 7, 6, 7, 7, 8]) (bShr .u32 x0 24)).bind fun x_1 => (sIx (ByteArray.mk #[0, 1, 1, 2, 1, 2, 2, 3, 1, 2, 2, 3, 2, 3, 3, 4, 1, 2, 2, 3, 2, 3, 3, 4, 2, 3, 3, 4, 3, 4, 4, 5, 1, 2, 2, 3, 2, 3, 3, 4, 2, 3, 3, 4, 3, 4, 4, 5, 2, 3, 3, 4, 3, 4, 4, 5, 3, 4, 4, 5, 4, 5, 5, 6, 1, 2, 2, 3, 2, 3, 3, 4, 2, 3, 3, 4, 3, 4, 4, 5, 2, 3, 3, 4, 3, 4, 4, 5, 3, 4, 4, 5, 4, 5, 5, 6, 2, 3, 3, 4, 3, 4, 4, 5, 3, 4, 4, 5, 4, 5, 5, 6, 3, 4, 4, 5, 4, 5, 5, 6, 4, 5, 5, 6, 5, 6, 6, 7, 1, 2, 2, 3, 2, 3, 3, 4, 2, 3, 3, 4, 3, 4, 4, 5, 2, 3, 3, 4, 3, 4, 4, 5, 3, 4, 4, 5, 4, 5, 5, 6, 2, 3, 3, 4, 3, 4, 4, 5, 3, 4, 4, 5, 4, 5, 5, 6, 3, 4, 4, 5, 4, 5, 5, 6, 4, 5, 5, 6, 5, 6, 6, 7, 2, 3, 3, 4, 3, 4, 4, 5, 3, 4, 4, 5, 4, 5, 5, 6, 3, 4, 4, 5, 4, 5, 5, 6, 4, 5, 5, 6, 5, 6, 6, 7, 3, 4, 4, 5, 4, 5, 5, 6, 4, 5, 5, 6, 5, 6, 6, 7, 4, 5, 5, 6, 5, 6, 6, 7, 5, 6, 6, 7, 6, 7, 7, 8]) (bAnd .u32 (bShr .u32 x0 16) 255)).bind fun x_2 => (sIx (ByteArray.mk #[0, 1, 1, 2, 1, 2, 2, 3, 1, 2, 2, 3, 2, 3, 3, 4, 1, 2, 2, 3, 2, 3, 3, 4, 2, 3, 3, 4, 3, 4, 4, 5, 1, 2, 2, 3, 2, 3, 3, 4, 2, 3, 3, 4, 3, 4, 4, 5, 2, 3, 3, 4, 3, 4, 4, 5, 3, 4, 4, 5, 4, 5, 5, 6, 1, 2, 2, 3, 2, 3, 3, 4, 2, 3, 3, 4, 3, 4, 4, 5, 2, 3, 3, 4, 3, 4, 4, 5, 3, 4, 4, 5, 4, 5, 5, 6, 2, 3, 3, 4, 3, 4, 4, 5, 3, 4, 4, 5, 4, 5, 5, 6, 3, 4, 4, 5, 4, 5, 5, 6, 4, 5, 5, 6, 5, 6, 6, 7, 1, 2, 2, 3, 2, 3, 3, 4, 2, 3, 3, 4, 3, 4, 4, 5, 2, 3, 3, 4, 3, 4, 4, 5, 3, 4, 4, 5, 4, 5, 5, 6, 2, 3, 3, 4, 3, 4, 4, 5, 3, 4, 4, 5, 4, 5, 5, 6, 3, 4, 4, 5, 4, 5, 5, 6, 4, 5, 5, 6, 5, 6, 6, 7, 2, 3, 3, 4, 3, 4, 4, 5, 3, 4, 4, 5, 4, 5, 5, 6, 3, 4, 4, 5, 4, 5, 5, 6, 4, 5, 5, 6, 5, 6, 6, 7, 3, 4, 4, 5, 4, 5, 5, 6, 4, 5, 5, 6, 5, 6, 6, 7, 4, 5, 5, 6, 5, 6, 6, 7, 5, 6, 6, 7, 6, 7, 7, 8]) (bAnd .u32 (bShr .u32 x0 8) 255)).bind fun x_3 => (sIx (ByteArray.mk #[0, 1, 1, 2, 1, 2, 2, 3, 1, 2, 2, 3, 2, 3, 3, 4, 1, 2, 2, 3, 2, 3, 3, 4, 2, 3, 3, 4, 3, 4, 4, 5, 1, 2, 2, 3, 2, 3, 3, 4, 2, 3, 3, 4, 3, 4, 4, 5, 2, 3, 3, 4, 3, 4, 4, 5, 3, 4, 4, 5, 4, 5, 5, 6, 1, 2, 2, 3, 2, 3, 3, 4, 2, 3, 3, 4, 3, 4, 4, 5, 2, 3, 3, 4, 3, 4, 4, 5, 3, 4, 4, 5, 4, 5, 5, 6, 2, 3, 3, 4, 3, 4, 4, 5, 3, 4, 4, 5, 4, 5, 5, 6, 3, 4, 4, 5, 4, 5, 5, 6, 4, 5, 5, 6, 5, 6, 6, 7, 1, 2, 2, 3, 2, 3, 3, 4, 2, 3, 3, 4, 3, 4, 4, 5, 2, 3, 3, 4, 3, 4, 4, 5, 3, 4, 4, 5, 4, 5, 5, 6, 2, 3, 3, 4, 3, 4, 4, 5, 3, 4, 4, 5, 4, 5, 5, 6, 3, 4, 4, 5, 4, 5, 5, 6, 4, 5, 5, 6, 5, 6, 6, 7, 2, 3, 3, 4, 3, 4, 4, 5, 3, 4, 4, 5, 4, 5, 5, 6, 3, 4, 4, 5, 4, 5, 5, 6, 4, 5, 5, 6, 5, 6, 6, 7, 3, 4, 4, 5, 4, 5, 5, 6, 4, 5, 5, 6, 5, 6, 6, 7, 4, 5, 5, 6, 5, 6, 6, 7, 5, 6, 6, 7, 6, 7, 7, 8]) (bAnd .u32 x0 255)).bind fun x_4 => some (w64 (u8 ((u8 ((u8 (x_1 + x_2)) + x_3)) + x_4)))
theorem math_bits_OnesCount32.calls (x0 : Int) (w : World) (r : Int) (h : math_bits_OnesCount32 x0 = some r) :
    Calls Try.prog 191 #[(.int .u32 x0)] w fun e w' => ∃ v, e = .returned v ∧ (v = (.int .i64 r) ∧ Mem w [] [] w') := by
  rw [math_bits_OnesCount32] at h
  refine enter (args := [(.int .u32 x0)]) Try.func191 rfl Try.ntmps191 (by kernel_rfl) (L := []) (W := []) (Mem.start w) ?_
  refine jc_seq (jc_region (qh [0] (qe (jx_then (jc_seq (qg [] 19 (qd [⟨0, 0, 0⟩,⟨1, 0, 0⟩,⟨3, 0, 0⟩,⟨4, 0, 0⟩,⟨5, 0, 0⟩,⟨8, 0, 0⟩,⟨9, 0, 0⟩,⟨10, 0, 0⟩,⟨13, 0, 0⟩,⟨14, 0, 0⟩] 9 [] ?_)))))))
  obtain ⟨x_1, hx_1, h⟩ := bd h
  refine qv 2 0 [] (fun w hm => six_run (s := (ByteArray.mk #[0, 1, 1, 2, 1, 2, 2, 3, 1, 2, 2, 3, 2, 3, 3, 4, 1, 2, 2, 3, 2, 3, 3, 4, 2, 3, 3, 4, 3, 4, 4, 5, 1, 2, 2, 3, 2, 3, 3, 4, 2, 3, 3, 4, 3, 4, 4, 5, 2, 3, 3, 4, 3, 4, 4, 5, 3, 4, 4, 5, 4, 5, 5, 6, 1, 2, 2, 3, 2, 3, 3, 4, 2, 3, 3, 4, 3, 4, 4, 5, 2, 3, 3, 4, 3, 4, 4, 5, 3, 4, 4, 5, 4, 5, 5, 6, 2, 3, 3, 4, 3, 4, 4, 5, 3, 4, 4, 5, 4, 5, 5, 6, 3, 4, 4, 5, 4, 5, 5, 6, 4, 5, 5, 6, 5, 6, 6, 7, 1, 2, 2, 3, 2, 3, 3, 4, 2, 3, 3, 4, 3, 4, 4, 5, 2, 3, 3, 4, 3, 4, 4, 5, 3, 4, 4, 5, 4, 5, 5, 6, 2, 3, 3, 4, 3, 4, 4, 5, 3, 4, 4, 5, 4, 5, 5, 6, 3, 4, 4, 5, 4, 5, 5, 6, 4, 5, 5, 6, 5, 6, 6, 7, 2, 3, 3, 4, 3, 4, 4, 5, 3, 4, 4, 5, 4, 5, 5, 6, 3, 4, 4, 5, 4, 5, 5, 6, 4, 5, 5, 6, 5, 6, 6, 7, 3, 4, 4, 5, 4, 5, 5, 6, 4, 5, 5, 6, 5, 6, 6, 7, 4, 5, 5, 6, 5, 6, 6, 7, 5, 6, 6, 7, 6, 7, 7, 8])) (j := (bShr .u32 x0 24)) (by kernel_rfl) hx_1) ?_
  obtain ⟨x_2, hx_2, h⟩ := bd h
  refine qv 6 0 [] (fun w hm => six_run (s := (ByteArray.mk #[0, 1, 1, 2, 1, 2, 2, 3, 1, 2, 2, 3, 2, 3, 3, 4, 1, 2, 2, 3, 2, 3, 3, 4, 2, 3, 3, 4, 3, 4, 4, 5, 1, 2, 2, 3, 2, 3, 3, 4, 2, 3, 3, 4, 3, 4, 4, 5, 2, 3, 3, 4, 3, 4, 4, 5, 3, 4, 4, 5, 4, 5, 5, 6, 1, 2, 2, 3, 2, 3, 3, 4, 2, 3, 3, 4, 3, 4, 4, 5, 2, 3, 3, 4, 3, 4, 4, 5, 3, 4, 4, 5, 4, 5, 5, 6, 2, 3, 3, 4, 3, 4, 4, 5, 3, 4, 4, 5, 4, 5, 5, 6, 3, 4, 4, 5, 4, 5, 5, 6, 4, 5, 5, 6, 5, 6, 6, 7, 1, 2, 2, 3, 2, 3, 3, 4, 2, 3, 3, 4, 3, 4, 4, 5, 2, 3, 3, 4, 3, 4, 4, 5, 3, 4, 4, 5, 4, 5, 5, 6, 2, 3, 3, 4, 3, 4, 4, 5, 3, 4, 4, 5, 4, 5, 5, 6, 3, 4, 4, 5, 4, 5, 5, 6, 4, 5, 5, 6, 5, 6, 6, 7, 2, 3, 3, 4, 3, 4, 4, 5, 3, 4, 4, 5, 4, 5, 5, 6, 3, 4, 4, 5, 4, 5, 5, 6, 4, 5, 5, 6, 5, 6, 6, 7, 3, 4, 4, 5, 4, 5, 5, 6, 4, 5, 5, 6, 5, 6, 6, 7, 4, 5, 5, 6, 5, 6, 6, 7, 5, 6, 6, 7, 6, 7, 7, 8])) (j := (bAnd .u32 (bShr .u32 x0 16) 255)) (by kernel_rfl) hx_2) (qd [⟨7, 0, 0⟩] 6 [] ?_)
  obtain ⟨x_3, hx_3, h⟩ := bd h
  refine qv 11 0 [] (fun w hm => six_run (s := (ByteArray.mk #[0, 1, 1, 2, 1, 2, 2, 3, 1, 2, 2, 3, 2, 3, 3, 4, 1, 2, 2, 3, 2, 3, 3, 4, 2, 3, 3, 4, 3, 4, 4, 5, 1, 2, 2, 3, 2, 3, 3, 4, 2, 3, 3, 4, 3, 4, 4, 5, 2, 3, 3, 4, 3, 4, 4, 5, 3, 4, 4, 5, 4, 5, 5, 6, 1, 2, 2, 3, 2, 3, 3, 4, 2, 3, 3, 4, 3, 4, 4, 5, 2, 3, 3, 4, 3, 4, 4, 5, 3, 4, 4, 5, 4, 5, 5, 6, 2, 3, 3, 4, 3, 4, 4, 5, 3, 4, 4, 5, 4, 5, 5, 6, 3, 4, 4, 5, 4, 5, 5, 6, 4, 5, 5, 6, 5, 6, 6, 7, 1, 2, 2, 3, 2, 3, 3, 4, 2, 3, 3, 4, 3, 4, 4, 5, 2, 3, 3, 4, 3, 4, 4, 5, 3, 4, 4, 5, 4, 5, 5, 6, 2, 3, 3, 4, 3, 4, 4, 5, 3, 4, 4, 5, 4, 5, 5, 6, 3, 4, 4, 5, 4, 5, 5, 6, 4, 5, 5, 6, 5, 6, 6, 7, 2, 3, 3, 4, 3, 4, 4, 5, 3, 4, 4, 5, 4, 5, 5, 6, 3, 4, 4, 5, 4, 5, 5, 6, 4, 5, 5, 6, 5, 6, 6, 7, 3, 4, 4, 5, 4, 5, 5, 6, 4, 5, 5, 6, 5, 6, 6, 7, 4, 5, 5, 6, 5, 6, 6, 7, 5, 6, 6, 7, 6, 7, 7, 8])) (j := (bAnd .u32 (bShr .u32 x0 8) 255)) (by kernel_rfl) hx_3) (qd [⟨12, 0, 0⟩] 4 [] ?_)
  obtain ⟨x_4, hx_4, h⟩ := bd h
  refine qv 15 0 [] (fun w hm => six_run (s := (ByteArray.mk #[0, 1, 1, 2, 1, 2, 2, 3, 1, 2, 2, 3, 2, 3, 3, 4, 1, 2, 2, 3, 2, 3, 3, 4, 2, 3, 3, 4, 3, 4, 4, 5, 1, 2, 2, 3, 2, 3, 3, 4, 2, 3, 3, 4, 3, 4, 4, 5, 2, 3, 3, 4, 3, 4, 4, 5, 3, 4, 4, 5, 4, 5, 5, 6, 1, 2, 2, 3, 2, 3, 3, 4, 2, 3, 3, 4, 3, 4, 4, 5, 2, 3, 3, 4, 3, 4, 4, 5, 3, 4, 4, 5, 4, 5, 5, 6, 2, 3, 3, 4, 3, 4, 4, 5, 3, 4, 4, 5, 4, 5, 5, 6, 3, 4, 4, 5, 4, 5, 5, 6, 4, 5, 5, 6, 5, 6, 6, 7, 1, 2, 2, 3, 2, 3, 3, 4, 2, 3, 3, 4, 3, 4, 4, 5, 2, 3, 3, 4, 3, 4, 4, 5, 3, 4, 4, 5, 4, 5, 5, 6, 2, 3, 3, 4, 3, 4, 4, 5, 3, 4, 4, 5, 4, 5, 5, 6, 3, 4, 4, 5, 4, 5, 5, 6, 4, 5, 5, 6, 5, 6, 6, 7, 2, 3, 3, 4, 3, 4, 4, 5, 3, 4, 4, 5, 4, 5, 5, 6, 3, 4, 4, 5, 4, 5, 5, 6, 4, 5, 5, 6, 5, 6, 6, 7, 3, 4, 4, 5, 4, 5, 5, 6, 4, 5, 5, 6, 5, 6, 6, 7, 4, 5, 5, 6, 5, 6, 6, 7, 5, 6, 6, 7, 6, 7, 7, 8])) (j := (bAnd .u32 x0 255)) (by kernel_rfl) hx_4) (qd [⟨16, 0, 0⟩,⟨17, 0, 0⟩,⟨18, 0, 0⟩] 0 [] (qz (jx_then (jc_ret ?_))))
  obtain rfl := Option.some.inj h
  exact qr [] (fun w hm => ⟨rfl, hm.pk []⟩)
/-! ### impl.countBits -/
def impl_countBits (n0 : Int) : Option (Int) := (math_bits_OnesCount32 n0).bind fun t_1 => some t_1
theorem impl_countBits.calls (n0 : Int) (w : World) (r : Int) (h : impl_countBits n0 = some r) :
    Calls Try.prog 173 #[(.int .u32 n0)] w fun e w' => ∃ v, e = .returned v ∧ (v = (.int .i64 r) ∧ Mem w [] [] w') := by
  rw [impl_countBits] at h
  refine enter (args := [(.int .u32 n0)]) Try.func173 rfl Try.ntmps173 (by kernel_rfl) (L := []) (W := []) (Mem.start w) ?_
  refine jc_seq (jc_region (qh [0] (qe (jx_then (jc_seq (jc_region (qh [0] ?_)))))))
  obtain ⟨t_1, ht_1, h⟩ := bd h
  refine tO (pc 0 (fun w hm => math_bits_OnesCount32.calls n0 w _ ht_1) ?_)
  rintro w v w' hm ⟨rfl, hm'⟩
  refine ⟨_, hm.app hm', jkO ?_⟩
  clear hm hm'
  refine qh [0] (qe (jx_then (jc_ret ?_)))
  obtain rfl := Option.some.inj h
  exact qr [] (fun w hm => ⟨rfl, hm.pk []⟩)
/-! ### (impl.Drum).count -/
def impl_Drum_count.k_2 (i_1 : Int) : Option (Int) := some i_1
def impl_Drum_count.l_5 (d0 : Arr 96 Int) : (Int × Int) → Option ((Int × Int) ⊕ (Int))
  | (i_3, i_4) => (if (decide (i_4 < 96)) = true then (ix d0.1 i_4).bind fun x_7 => (impl_countBits x_7).bind fun t_8 => some (.inl ((w64 (i_3 + t_8)), (w64 (i_4 + 1)))) else some (.inr i_3))
def impl_Drum_count (d0 : Arr 96 Int) : Option (Int) := (loop (impl_Drum_count.l_5 d0) (0, 0)).bind fun t_6 => impl_Drum_count.k_2 t_6
theorem impl_Drum_count.calls (d0 : Arr 96 Int) (w : World) (r : Int) (h : impl_Drum_count d0 = some r) :
    Calls Try.prog 144 #[(.agg (row encU32 d0.1 []).toArray)] w fun e w' => ∃ v, e = .returned v ∧ (v = (.int .i64 r) ∧ Mem w [] [] w') := by
  rw [impl_Drum_count] at h
  refine enter (args := [(.agg (row encU32 d0.1 []).toArray)]) Try.func144 rfl Try.ntmps144 (by kernel_rfl) (L := []) (W := []) (Mem.start w) ?_
  refine jc_seq (jc_region (tO (qa 0 (fun b_1 => jkO (qh [0] (qe (jx_then (jc_seq (jc_region (qh [0] (qe (jx_then (jc_seq (jc_seq (jc_region (tO (p_ldA 0 0 b_1 96 1 88 encU32 d0 (by kernel_rfl) (by kernel_rfl) (by kernel_rfl) encU32_len (by kernel_rfl) (jkO (qh [0] (qe (jx_then (jc_meet (fun (j : Int) => match j with | i_1 => impl_Drum_count.k_2 i_1 = some r) (fun (j : Int) => match j with | i_1 => [(2, [], (.int .i64 0)), (3, [], (.int .i64 i_1))]) (fun (j : Int) => match j with | i_1 => [⟨(some b_1), 88, row encU32 d0.1 []⟩]) ?_ ?_))))))))))))))))))))))
  ·refine jc_block ?_
   obtain ⟨t_6, ht_65, hr_58⟩ := bd h
   refine jc_loop (fun (s : Int × Int) (x : Unit) => match s, x with | ⟨i_3, i_4⟩, _ => True) (fun (s : Int × Int) (x : Unit) => match s, x with | ⟨i_3, i_4⟩, _ => [(2, [], (.int .i64 0)), (3, [], (.int .i64 i_3)), (6, [], (.agg (row encU32 d0.1 []).toArray)), (7, [], (.int .i64 i_4))]) (fun (s : Int × Int) (x : Unit) => match s, x with | ⟨i_3, i_4⟩, _ => [⟨(some b_1), 88, row encU32 d0.1 []⟩]) ht_65 () trivial (by kernel_rfl) [0] (by kernel_rfl) (by kernel_rfl) ?_
   rintro ⟨i_3, i_4⟩ _ y_59 _ h
   rw [impl_Drum_count.l_5] at h
   refine jc_seq (jc_region (qh [0] (qe (jx_then (jc_seq (qi h (fun h => ?_) (fun h => ?_)))))))
   ·refine jc_skip (jx_then (jc_seq (jc_block (jc_seq (jc_region ?_)))))
    obtain ⟨x_7, hx_62, h⟩ := bd h
    refine tO (p_ixA 0 encU32 (fun x => (.int .u32 x)) d0 i_4 (by kernel_rfl) (by kernel_rfl) (fun _ => rfl) hx_62 (jkO (qh [0] (qe (jx_then (jc_region (qh [0,0] ?_)))))))
    obtain ⟨t_8, ht_63, h⟩ := bd h
    refine tO (pc 0 (fun w hm => impl_countBits.calls x_7 w _ ht_63) ?_)
    rintro w v w' hm ⟨rfl, hm'⟩
    refine ⟨_, hm.app hm', jkO ?_⟩
    clear hm hm'
    exact qh [0,0] (qe (jx_inn (jx_then (jc_region (qh [0,0] (qe (qb ((w64 (i_3 + t_8)), (w64 (i_4 + 1))) () h trivial [0])))))))
   ·refine jc_exit (jx_thenx (jx_leave i_3 (Option.some.inj h).symm (fun e_64 => ?_)))
    subst e_64
    exact jx_ine (qm i_3 hr_58 [0])
  ·rintro i_1 h
   replace h : impl_Drum_count.k_2 i_1 = some r := h
   rw [impl_Drum_count.k_2] at h
   refine jx_then (jc_seq (jc_region (qh [0,0] (qe (jx_then (jc_ret ?_))))))
   obtain rfl := Option.some.inj h
   exact qr [] (fun w hm => ⟨rfl, hm.pk []⟩)
/-! ### impl.cost -/
def impl_cost (a0 : Arr 96 Int) (b1 : Arr 96 Int) : Option (Int) := (impl_Drum_less a0 b1).bind fun t_1 => (impl_Drum_count t_1).bind fun t_2 => (impl_Drum_less b1 a0).bind fun t_3 => (impl_Drum_count t_3).bind fun t_4 => some (w64 (t_2 + t_4))
theorem impl_cost.calls (a0 : Arr 96 Int) (b1 : Arr 96 Int) (w : World) (r : Int) (h : impl_cost a0 b1 = some r) :
    Calls Try.prog 106 #[(.agg (row encU32 a0.1 []).toArray), (.agg (row encU32 b1.1 []).toArray)] w fun e w' => ∃ v, e = .returned v ∧ (v = (.int .i64 r) ∧ Mem w [] [] w') := by
  rw [impl_cost] at h
  refine enter (args := [(.agg (row encU32 a0.1 []).toArray), (.agg (row encU32 b1.1 []).toArray)]) Try.func106 rfl Try.ntmps106 (by kernel_rfl) (L := []) (W := []) (Mem.start w) ?_
  refine jc_seq (jc_region (tO (qa 0 (fun b_1 => jkO (tO (qa 0 (fun b_2 => jkO (qh [0] (qe (jx_then (jc_seq (qg [⟨(some b_1), 88, row encU32 a0.1 []⟩, ⟨(some b_2), 88, row encU32 b1.1 []⟩] 10 (qv 0 0 [0, 1] (fun w hm => ld_run (b := b_1) (off := 0) (s := 96) (agg := true) (vs := row encU32 a0.1 []) (by kernel_rfl) ((row_len encU32_len a0).trans rfl) (.inl rfl) (hm.all (hh := 0) (T := 88) (by kernel_rfl))) (qv 1 0 [0, 1] (fun w hm => ld_run (b := b_2) (off := 0) (s := 96) (agg := true) (vs := row encU32 b1.1 []) (by kernel_rfl) ((row_len encU32_len b1).trans rfl) (.inl rfl) (hm.all (hh := 1) (T := 88) (by kernel_rfl))) (qv 4 0 [0, 1] (fun w hm => ld_run (b := b_2) (off := 0) (s := 96) (agg := true) (vs := row encU32 b1.1 []) (by kernel_rfl) ((row_len encU32_len b1).trans rfl) (.inl rfl) (hm.all (hh := 1) (T := 88) (by kernel_rfl))) (qv 5 0 [0, 1] (fun w hm => ld_run (b := b_1) (off := 0) (s := 96) (agg := true) (vs := row encU32 a0.1 []) (by kernel_rfl) ((row_len encU32_len a0).trans rfl) (.inl rfl) (hm.all (hh := 0) (T := 88) (by kernel_rfl))) ?_))))))))))))))))
  obtain ⟨t_1, ht_3, h⟩ := bd h
  refine tD 2 (pc 0 (fun w hm => impl_Drum_less.calls a0 b1 w _ ht_3) ?_)
  rintro w v w' hm ⟨rfl, hm'⟩
  refine ⟨_, hm.app hm', kD [0, 1] ?_⟩
  clear hm hm'
  obtain ⟨t_2, ht_4, h⟩ := bd h
  refine tD 3 (pc 0 (fun w hm => impl_Drum_count.calls t_1 w _ ht_4) ?_)
  rintro w v w' hm ⟨rfl, hm'⟩
  refine ⟨_, hm.app hm', kD [0, 1] ?_⟩
  clear hm hm'
  obtain ⟨t_3, ht_5, h⟩ := bd h
  refine tD 6 (pc 0 (fun w hm => impl_Drum_less.calls b1 a0 w _ ht_5) ?_)
  rintro w v w' hm ⟨rfl, hm'⟩
  refine ⟨_, hm.app hm', kD [0, 1] ?_⟩
  clear hm hm'
  obtain ⟨t_4, ht_6, h⟩ := bd h
  refine tD 7 (pc 0 (fun w hm => impl_Drum_count.calls t_3 w _ ht_6) ?_)
  rintro w v w' hm ⟨rfl, hm'⟩
  refine ⟨_, hm.app hm', kD [0, 1] ?_⟩
  clear hm hm'
  refine qd [⟨8, 0, 0⟩,⟨9, 0, 0⟩] 0 [0, 1] (qz (jx_then (jc_ret ?_)))
  obtain rfl := Option.some.inj h
  exact qr [] (fun w hm => ⟨rfl, hm.pk []⟩)
/-! ### impl.costs -/
def impl_costs.k_1 (xt_2165 : List (List Int)) : Option ((List (List Int))) := some xt_2165
def impl_costs.k_7 (xt_2647 : List (List Int)) (i_2 : Int) (xs_6 : List Int) : Option (((List (List Int)) × Int) ⊕ ((List (List Int)))) := (if xt_2647.length + 1 ≤ 4294967296 then some (.inl ((xt_2647 ++ [xs_6]), (w64 (i_2 + 1)))) else none)
def impl_costs.l_10 (list0 : List (Arr 96 Int)) (x_5 : Arr 96 Int) : ((List Int) × Int) → Option (((List Int) × Int) ⊕ ((List Int)))
  | (xs_8, i_9) => (if (decide (i_9 < (list0.length : Int))) = true then (ix list0 i_9).bind fun x_12 => (impl_cost x_5 x_12).bind fun t_13 => (if xs_8.length + ([t_13] : List Int).length ≤ 4294967296 then some (.inl ((xs_8 ++ ([t_13] : List Int)), (w64 (i_9 + 1)))) else none) else some (.inr xs_8))
def impl_costs.l_3 (list0 : List (Arr 96 Int)) : ((List (List Int)) × Int) → Option (((List (List Int)) × Int) ⊕ ((List (List Int))))
  | (xt_2647, i_2) => (if (decide (i_2 < (list0.length : Int))) = true then (ix list0 i_2).bind fun x_5 => (loop (impl_costs.l_10 list0 x_5) (([] : List Int), 0)).bind fun t_11 => impl_costs.k_7 xt_2647 i_2 t_11 else some (.inr xt_2647))
def impl_costs (list0 : List (Arr 96 Int)) : Option ((List (List Int))) := (loop (impl_costs.l_3 list0) (([] : List (List Int)), 0)).bind fun t_4 => impl_costs.k_1 t_4
theorem impl_costs.calls (list0 : List (Arr 96 Int)) (w : World) (r : (List (List Int))) {A_a : Option Addr} {A_an : Nat} (A_c : Nat) (A_h : Rw w A_a 96 encA96U32 list0) (A_hn : list0.length = A_an) (h : impl_costs list0 = some r) :
    Calls Try.prog 55 #[(.slice A_a A_an A_c)] w fun e w' => ∃ v, e = .returned v ∧ (∃ (o0 : Option Nat) (c0 : Nat) (s0 : List Value) (n0 : Nat) (h0 : List Hd), InP h0 r ∧ h0.length = n0 ∧ (o0 ≠ none → n0 ≤ c0 ∧ s0.length = (c0 - n0) * 1) ∧ (o0 = none → h0 = [] ∧ c0 = 0) ∧ v = .slice (o0.map fun b => ⟨b, 0, none⟩) n0 c0 ∧ Mem w [] [⟨o0, 29, row encHd h0 s0⟩, ⟨none, CLU, cluC encI64 h0 r⟩] w') := by
  subst A_hn
  rw [impl_costs] at h
  refine enter (args := [(.slice A_a list0.length A_c)]) Try.func55 rfl Try.ntmps55 (by kernel_rfl) (L := []) (W := []) (Mem.start w) ?_
  refine jc_seq (jc_region (qh [0] (qe (jx_then (jc_seq (jc_region (tO (qa 0 (fun b_1 => jk_clu encI64 (jkO (qh [0] (qe (jx_then (jc_seq (jc_seq (jc_region (qh [0,0,0] (qe (jx_then (jc_meet (fun (j : (List (List Int)) × (List Hd) × (Option Nat) × Nat × (List Value) × Nat) => match j with | ⟨xt_2165, hh_2166, o_2167, cap_2168, sp_2169, n_2170⟩ => impl_costs.k_1 xt_2165 = some r ∧ (hh_2166.length = n_2170) ∧ ((o_2167 ≠ none → n_2170 ≤ cap_2168 ∧ sp_2169.length = (cap_2168 - n_2170) * 1)) ∧ ((o_2167 = none → hh_2166 = [] ∧ cap_2168 = 0)) ∧ (InP hh_2166 xt_2165)) (fun (j : (List (List Int)) × (List Hd) × (Option Nat) × Nat × (List Value) × Nat) => match j with | ⟨xt_2165, hh_2166, o_2167, cap_2168, sp_2169, n_2170⟩ => [(2, [], (.slice none 0 0)), (3, [], (.slice (o_2167.map fun b => ⟨b, 0, none⟩) n_2170 cap_2168))]) (fun (j : (List (List Int)) × (List Hd) × (Option Nat) × Nat × (List Value) × Nat) => match j with | ⟨xt_2165, hh_2166, o_2167, cap_2168, sp_2169, n_2170⟩ => [⟨o_2167, 29, row encHd hh_2166 sp_2169⟩, ⟨none, CLU, cluC encI64 hh_2166 xt_2165⟩]) ?_ ?_))))))))))))))))))))
  ·refine jc_block ?_
   obtain ⟨t_4, ht_2891, hr_2656⟩ := bd h
   refine jc_loop (fun (s : (List (List Int)) × Int) (x : (List Hd) × (Option Nat) × Nat × (List Value) × Nat) => match s, x with | ⟨xt_2647, i_2⟩, ⟨hh_2648, o_2649, cap_2650, sp_2651, n_2652⟩ => (hh_2648.length = n_2652) ∧ ((o_2649 ≠ none → n_2652 ≤ cap_2650 ∧ sp_2651.length = (cap_2650 - n_2652) * 1)) ∧ ((o_2649 = none → hh_2648 = [] ∧ cap_2650 = 0)) ∧ (InP hh_2648 xt_2647)) (fun (s : (List (List Int)) × Int) (x : (List Hd) × (Option Nat) × Nat × (List Value) × Nat) => match s, x with | ⟨xt_2647, i_2⟩, ⟨hh_2648, o_2649, cap_2650, sp_2651, n_2652⟩ => [(0, [], (.slice A_a list0.length A_c)), (2, [], (.slice none 0 0)), (3, [], (.slice (o_2649.map fun b => ⟨b, 0, none⟩) n_2652 cap_2650)), (10, [], (.slice A_a list0.length A_c)), (11, [], (.int .i64 (list0.length : Int))), (12, [], (.int .i64 i_2))]) (fun (s : (List (List Int)) × Int) (x : (List Hd) × (Option Nat) × Nat × (List Value) × Nat) => match s, x with | ⟨xt_2647, i_2⟩, ⟨hh_2648, o_2649, cap_2650, sp_2651, n_2652⟩ => [⟨o_2649, 29, row encHd hh_2648 sp_2651⟩, ⟨none, CLU, cluC encI64 hh_2648 xt_2647⟩]) ht_2891 ⟨([] : List Hd), (some b_1), 0, [], 0⟩ ⟨rfl, (fun _ => ⟨Nat.le_refl _, by simp⟩), (fun e => nomatch e), InP.nil⟩ (by kernel_rfl) [0, 1] (by kernel_rfl) (by kernel_rfl) ?_
   rintro ⟨xt_2647, i_2⟩ ⟨hh_2648, o_2649, cap_2650, sp_2651, n_2652⟩ y_2657 ⟨rfl, hs_2653, ho_2654, hI_2655⟩ h
   rw [impl_costs.l_3] at h
   refine jc_seq (jc_region (qh [0] (qe (jx_then (jc_seq (qi h (fun h => ?_) (fun h => ?_)))))))
   ·refine jc_skip (jx_then (jc_seq (jc_block (jc_seq (jc_region ?_)))))
    obtain ⟨x_5, hx_2660, h⟩ := bd h
    refine tO (qx 0 A_a 96 hx_2660 rfl (A_h.sp hx_2660) (jkO (tO (p_ldx 0 (aB A_a) (aO A_a + i_2.toNat * 96) (encA96U32 x_5) 96 (by kernel_rfl) (by kernel_rfl) (encA96U32_len x_5) (fun w hm => ((hm.xr A_h).at hx_2660)) (jkO (tO (qa 0 (fun b_2661 => jkO (tO (p_sA 0 2 b_2661 96 1 88 encU32 (Arr.rep 96 0) x_5 (by kernel_rfl) (by kernel_rfl) (by kernel_rfl) encU32_len encU32_cell (by kernel_rfl) (jkO (qe (jx_then (jc_seq (jc_region (tO (qa 0 (fun b_2662 => jkO (qh [0] (qe (jx_then (jc_seq (jc_seq (jc_region (qh [0,0,0] (qe (jx_then (jc_meet (fun (j : (List Int) × (Option Nat) × Nat × (List Value) × Nat) => match j with | ⟨xs_6, o_2825, cap_2826, sp_2827, n_2828⟩ => impl_costs.k_7 xt_2647 i_2 xs_6 = some y_2657 ∧ (xs_6.length = n_2828) ∧ ((o_2825 ≠ none → n_2828 ≤ cap_2826 ∧ sp_2827.length = (cap_2826 - n_2828) * 1)) ∧ ((o_2825 = none → xs_6 = [] ∧ cap_2826 = 0))) (fun (j : (List Int) × (Option Nat) × Nat × (List Value) × Nat) => match j with | ⟨xs_6, o_2825, cap_2826, sp_2827, n_2828⟩ => [(0, [], (.slice A_a list0.length A_c)), (2, [], (.slice none 0 0)), (3, [], (.slice (o_2649.map fun b => ⟨b, 0, none⟩) hh_2648.length cap_2650)), (6, [], (.slice (o_2825.map fun b => ⟨b, 0, none⟩) n_2828 cap_2826)), (10, [], (.slice A_a list0.length A_c)), (11, [], (.int .i64 (list0.length : Int))), (12, [], (.int .i64 i_2))]) (fun (j : (List Int) × (Option Nat) × Nat × (List Value) × Nat) => match j with | ⟨xs_6, o_2825, cap_2826, sp_2827, n_2828⟩ => [⟨o_2649, 29, row encHd hh_2648 sp_2651⟩, ⟨none, CLU, cluC encI64 hh_2648 xt_2647⟩, ⟨(some b_2661), 88, row encU32 x_5.1 []⟩, ⟨o_2825, 2, row encI64 xs_6 sp_2827⟩]) ?_ ?_))))))))))))))))))))))))))))
    ·refine jc_block ?_
     obtain ⟨t_11, ht_2889, hr_2874⟩ := bd h
     refine jc_loop (fun (s : (List Int) × Int) (x : (Option Nat) × Nat × (List Value) × Nat) => match s, x with | ⟨xs_8, i_9⟩, ⟨o_2868, cap_2869, sp_2870, n_2871⟩ => (xs_8.length = n_2871) ∧ ((o_2868 ≠ none → n_2871 ≤ cap_2869 ∧ sp_2870.length = (cap_2869 - n_2871) * 1)) ∧ ((o_2868 = none → xs_8 = [] ∧ cap_2869 = 0))) (fun (s : (List Int) × Int) (x : (Option Nat) × Nat × (List Value) × Nat) => match s, x with | ⟨xs_8, i_9⟩, ⟨o_2868, cap_2869, sp_2870, n_2871⟩ => [(0, [], (.slice A_a list0.length A_c)), (2, [], (.slice none 0 0)), (3, [], (.slice (o_2649.map fun b => ⟨b, 0, none⟩) hh_2648.length cap_2650)), (5, [], (.pointer (some ⟨b_2661, 0, none⟩))), (6, [], (.slice (o_2868.map fun b => ⟨b, 0, none⟩) n_2871 cap_2869)), (10, [], (.slice A_a list0.length A_c)), (11, [], (.int .i64 (list0.length : Int))), (12, [], (.int .i64 i_2)), (17, [], (.slice A_a list0.length A_c)), (18, [], (.int .i64 (list0.length : Int))), (19, [], (.int .i64 i_9))]) (fun (s : (List Int) × Int) (x : (Option Nat) × Nat × (List Value) × Nat) => match s, x with | ⟨xs_8, i_9⟩, ⟨o_2868, cap_2869, sp_2870, n_2871⟩ => [⟨o_2649, 29, row encHd hh_2648 sp_2651⟩, ⟨none, CLU, cluC encI64 hh_2648 xt_2647⟩, ⟨(some b_2661), 88, row encU32 x_5.1 []⟩, ⟨o_2868, 2, row encI64 xs_8 sp_2870⟩]) ht_2889 ⟨(some b_2662), 0, [], 0⟩ ⟨rfl, (fun _ => ⟨Nat.le_refl _, by simp⟩), (fun e => nomatch e)⟩ (by kernel_rfl) [0, 1, 2, 3] (by kernel_rfl) (by kernel_rfl) ?_
     rintro ⟨xs_8, i_9⟩ ⟨o_2868, cap_2869, sp_2870, n_2871⟩ y_2875 ⟨rfl, hs_2872, ho_2873⟩ h
     rw [impl_costs.l_10] at h
     refine jc_seq (jc_region (qh [0] (qe (jx_then (jc_seq (qi h (fun h => ?_) (fun h => ?_)))))))
     ·refine jc_skip (jx_then (jc_seq (jc_block (jc_seq (jc_region ?_)))))
      obtain ⟨x_12, hx_2878, h⟩ := bd h
      refine tO (qx 0 A_a 96 hx_2878 rfl (A_h.sp hx_2878) (jkO (tO (p_ldx 0 (aB A_a) (aO A_a + i_9.toNat * 96) (encA96U32 x_12) 96 (by kernel_rfl) (by kernel_rfl) (encA96U32_len x_12) (fun w hm => ((hm.xr A_h).at hx_2878)) (jkO (tO (qa 0 (fun b_2879 => jkO (tO (p_sA 0 4 b_2879 96 1 88 encU32 (Arr.rep 96 0) x_12 (by kernel_rfl) (by kernel_rfl) (by kernel_rfl) encU32_len encU32_cell (by kernel_rfl) (jkO (qe (jx_then (jc_region (qh [0] (tO (p_ldA 0 2 b_2661 96 1 88 encU32 x_5 (by kernel_rfl) (by kernel_rfl) (by kernel_rfl) encU32_len (by kernel_rfl) (jkO (tO (p_ldA 0 4 b_2879 96 1 88 encU32 x_12 (by kernel_rfl) (by kernel_rfl) (by kernel_rfl) encU32_len (by kernel_rfl) (jkO ?_)))))))))))))))))))))
      obtain ⟨t_13, ht_2880, h⟩ := bd h
      refine tO (pc 0 (fun w hm => impl_cost.calls x_5 x_12 w _ ht_2880) ?_)
      rintro w v w' hm ⟨rfl, hm'⟩
      refine ⟨_, hm.app hm', jkO ?_⟩
      clear hm hm'
      refine tO (qa 0 (fun b_2881 => jkO ?_))
      obtain ⟨hg_2882, h⟩ := gd h
      exact tO (p_apn 0 3 o_2868 2 xs_8.length 1 cap_2869 1 8 (some ⟨b_2881, 0, none⟩) encI64 xs_8 ([t_13] : List Int) sp_2870 (.int .i64 0) rfl rfl (by kernel_rfl) (by kernel_rfl) (by kernel_rfl) encI64_len encI64_cell hs_2872 ho_2873 (fun w hm => (hm.ow 5 (some b_2881) 2 ([t_13] : List Int) [] (fun e => nomatch e) encI64_len)) hg_2882 (by kernel_rfl) (by kernel_rfl) (fun o_2883 cap_2884 sp_2885 hs_2886 ho_2887 => jkO (qh [0] (qe (jx_inn (jx_then (jc_region (qh [0,0] (qe (qb ((xs_8 ++ ([t_13] : List Int)), (w64 (i_9 + 1))) ⟨o_2883, cap_2884, sp_2885, (xs_8 ++ ([t_13] : List Int)).length⟩ h ⟨rfl, hs_2886, ho_2887⟩ [0, 1, 2, 3]))))))))))
     ·refine jc_exit (jx_thenx (jx_leave xs_8 (Option.some.inj h).symm (fun e_2888 => ?_)))
      subst e_2888
      exact jx_ine (qm ⟨xs_8, o_2868, cap_2869, sp_2870, xs_8.length⟩ ⟨hr_2874, rfl, hs_2872, ho_2873⟩ [0, 1, 2, 3])
    ·rintro ⟨xs_6, o_2825, cap_2826, sp_2827, n_2828⟩ ⟨h, rfl, hs_2829, ho_2830⟩
     replace h : impl_costs.k_7 xt_2647 i_2 xs_6 = some y_2657 := h
     rw [impl_costs.k_7] at h
     refine jx_then (jc_region (qh [0,0] (tO (qa 0 (fun b_2831 => jkO ?_)))))
     obtain ⟨hg_2832, h⟩ := gd h
     exact tO (p_apn 0 0 o_2649 29 hh_2648.length 1 cap_2650 1 24 (some ⟨b_2831, 0, none⟩) encHd hh_2648 [(Hd.mk (o_2825.map fun b => ⟨b, 0, none⟩) xs_6.length cap_2826)] sp_2651 (.slice none 0 0) rfl rfl (by kernel_rfl) (by kernel_rfl) (by kernel_rfl) encHd_len encHd_cell hs_2653 ho_2654 (fun w hm => (hm.ow 4 (some b_2831) 29 ([(Hd.mk (o_2825.map fun b => ⟨b, 0, none⟩) xs_6.length cap_2826)]) [] (fun e => nomatch e) encHd_len)) (tabbig hI_2655 hg_2832) (by kernel_rfl) (by kernel_rfl) (fun o_2833 cap_2834 sp_2835 hs_2836 ho_2837 => jk_frz (enc := encI64) (hs := hh_2648) (xss := xt_2647) (o := o_2825) (T := 2) (xs := xs_6) (sp := sp_2827) 1 3 xs_6.length cap_2826 hI_2655 (jkO (qh [0] (qe (jx_inn (jx_then (jc_region (qh [0,0] (qe (qb ((xt_2647 ++ [xs_6]), (w64 (i_2 + 1))) ⟨(hh_2648 ++ [(Hd.mk (o_2825.map fun b => ⟨b, 0, none⟩) xs_6.length cap_2826)]), o_2833, cap_2834, sp_2835, (hh_2648 ++ [(Hd.mk (o_2825.map fun b => ⟨b, 0, none⟩) xs_6.length cap_2826)]).length⟩ h ⟨rfl, hs_2836, ho_2837, (hI_2655.snoc (o := o_2825) rfl (fun e => (ho_2830 e).1))⟩ [0, 1])))))))))))
   ·refine jc_exit (jx_thenx (jx_leave xt_2647 (Option.some.inj h).symm (fun e_2890 => ?_)))
    subst e_2890
    exact jx_ine (qm ⟨xt_2647, hh_2648, o_2649, cap_2650, sp_2651, hh_2648.length⟩ ⟨hr_2656, rfl, hs_2653, ho_2654, hI_2655⟩ [0, 1])
  ·rintro ⟨xt_2165, hh_2166, o_2167, cap_2168, sp_2169, n_2170⟩ ⟨h, rfl, hs_2171, ho_2172, hI_2173⟩
   replace h : impl_costs.k_1 xt_2165 = some r := h
   rw [impl_costs.k_1] at h
   refine jx_then (jc_seq (jc_region (qh [0,0] (qe (jx_then (jc_ret ?_))))))
   obtain rfl := Option.some.inj h
   exact qr [] (fun w hm => ⟨o_2167, cap_2168, sp_2169, hh_2166.length, hh_2166, hI_2173, rfl, hs_2171, ho_2172, rfl, hm.pk [0, 1]⟩)
/-! ### impl.begun -/
def impl_begun (first0 : Int) : Option ((List Int)) := (if (decide (first0 < 0)) = true then some [] else some ([first0] : List Int))
theorem impl_begun.calls (first0 : Int) (w : World) (r : (List Int)) (h : impl_begun first0 = some r) :
    Calls Try.prog 57 #[(.int .i64 first0)] w fun e w' => ∃ v, e = .returned v ∧ (∃ (o0 : Option Nat) (c0 : Nat) (s0 : List Value) (n0 : Nat), r.length = n0 ∧ (o0 ≠ none → n0 ≤ c0 ∧ s0.length = (c0 - n0) * 1) ∧ (o0 = none → r = [] ∧ c0 = 0) ∧ v = .slice (o0.map fun b => ⟨b, 0, none⟩) n0 c0 ∧ Mem w [] [⟨o0, 2, row encI64 r s0⟩] w') := by
  rw [impl_begun] at h
  refine enter (args := [(.int .i64 first0)]) Try.func57 rfl Try.ntmps57 (by kernel_rfl) (L := []) (W := []) (Mem.start w) ?_
  refine jc_seq (jc_region (qh [0] (qe (jx_then (jc_seq (jc_seq (jc_region (qh [0,0] (qe (jx_then (qi h (fun h => ?_) (fun h => ?_))))))))))))
  ·refine jc_seq (jc_region (qh [0] (qe (jx_then (jc_ret (jx_thenr ?_))))))
   obtain rfl := Option.some.inj h
   exact jx_ghost 2 encI64 (qr [] (fun w hm => ⟨none, 0, [], 0, rfl, (fun e => absurd rfl e), (fun _ => ⟨rfl, rfl⟩), rfl, hm.pk [0]⟩))
  ·refine jc_skip (jx_then (jc_seq (jc_region (qh [0] (tO (qa 0 (fun b_3 => jkO (qh [0] (qe (jx_then (jc_ret ?_)))))))))))
   obtain rfl := Option.some.inj h
   exact qr [] (fun w hm => ⟨(some b_3), 1, [], 1, rfl, (fun _ => ⟨Nat.le_refl _, by simp⟩), (fun e => nomatch e), rfl, hm.pk [0]⟩)
/-! ### impl.orderCost -/
def impl_orderCost.k_2 (i_1 : Int) : Option (Int) := some i_1
def impl_orderCost.l_5 (table0 : List (List Int)) (order1 : List Int) : (Int × Int) → Option ((Int × Int) ⊕ (Int))
  | (i_3, i_4) => (if (decide (i_4 < (order1.length : Int))) = true then (ix order1 (w64 (i_4 - 1))).bind fun x_7 => (ix table0 x_7).bind fun x_8 => (ix order1 i_4).bind fun x_9 => (ix x_8 x_9).bind fun x_10 => some (.inl ((w64 (i_3 + x_10)), (w64 (i_4 + 1)))) else some (.inr i_3))
def impl_orderCost (table0 : List (List Int)) (order1 : List Int) : Option (Int) := (loop (impl_orderCost.l_5 table0 order1) (0, 1)).bind fun t_6 => impl_orderCost.k_2 t_6
theorem impl_orderCost.calls (table0 : List (List Int)) (order1 : List Int) (w : World) (r : Int) {A_a : Option Addr} {A_an : Nat} (A_c : Nat) {A_hs : List Hd} (A_h : Rw w A_a 1 encHd A_hs) (A_hn : table0.length = A_an) (A_i : Inn w [] 1 encI64 A_hs table0) {B_a : Option Addr} {B_an : Nat} (B_c : Nat) (B_h : Rw w B_a 1 encI64 order1) (B_hn : order1.length = B_an) (h : impl_orderCost table0 order1 = some r) :
    Calls Try.prog 59 #[(.slice A_a A_an A_c), (.slice B_a B_an B_c)] w fun e w' => ∃ v, e = .returned v ∧ (v = (.int .i64 r) ∧ Mem w [] [] w') := by
  subst A_hn B_hn
  rw [impl_orderCost] at h
  refine enter (args := [(.slice A_a table0.length A_c), (.slice B_a order1.length B_c)]) Try.func59 rfl Try.ntmps59 (by kernel_rfl) (L := []) (W := []) (Mem.start w) ?_
  refine jc_seq (jc_region (qh [0] (qe (jx_then (jc_seq (jc_region (qh [0] (qe (jx_then (jc_seq (jc_seq (jc_region (qh [0] (qe (jx_then (jc_meet (fun (j : Int) => match j with | i_1 => impl_orderCost.k_2 i_1 = some r) (fun (j : Int) => match j with | i_1 => [(4, [], (.int .i64 0)), (5, [], (.int .i64 i_1))]) (fun (j : Int) => match j with | i_1 => []) ?_ ?_))))))))))))))))
  ·refine jc_block ?_
   obtain ⟨t_6, ht_88, hr_79⟩ := bd h
   refine jc_loop (fun (s : Int × Int) (x : Unit) => match s, x with | ⟨i_3, i_4⟩, _ => True) (fun (s : Int × Int) (x : Unit) => match s, x with | ⟨i_3, i_4⟩, _ => [(0, [], (.slice A_a table0.length A_c)), (1, [], (.slice B_a order1.length B_c)), (4, [], (.int .i64 0)), (5, [], (.int .i64 i_3)), (6, [], (.int .i64 i_4))]) (fun (s : Int × Int) (x : Unit) => match s, x with | ⟨i_3, i_4⟩, _ => []) ht_88 () trivial (by kernel_rfl) [] (by kernel_rfl) (by kernel_rfl) ?_
   rintro ⟨i_3, i_4⟩ _ y_80 _ h
   rw [impl_orderCost.l_5] at h
   refine jc_seq (jc_seq (jc_region (qh [0,0,0,0] (qe (jx_then (qi h (fun h => ?_) (fun h => ?_)))))))
   ·refine jc_skip (jx_then (jc_seq (jc_block (qg [] 17 (qd [⟨0, 0, 0⟩,⟨1, 0, 0⟩,⟨2, 0, 0⟩,⟨3, 0, 0⟩,⟨4, 0, 0⟩,⟨9, 0, 0⟩,⟨10, 0, 0⟩] 10 [] ?_)))))
    obtain ⟨x_7, hx_83, h⟩ := bd h
    refine qv 5 0 [] (fun w hm => idx_run (a := B_a) (len := order1.length) (s := 1) (j := (w64 (i_4 - 1))) (by kernel_rfl) (ix_some hx_83).1 (ltn hx_83 rfl) (B_h.sp hx_83)) (qv 6 0 [] (fun w hm => ld_run (b := aB B_a) (off := (aO B_a + (w64 (i_4 - 1)).toNat * 1)) (s := 1) (agg := false) (vs := (encI64 x_7)) (by kernel_rfl) (by kernel_rfl) (.inr rfl) ((hm.xr B_h).at hx_83)) ?_)
    obtain ⟨x_8, hx_84, h⟩ := bd h
    refine qv 7 0 [] (fun w hm => idx_run (a := A_a) (len := table0.length) (s := 1) (j := x_7) (by kernel_rfl) (ix_some hx_84).1 (ltn hx_84 rfl) (A_h.sp (A_i.ixh hx_84))) (qv 8 0 [] (fun w hm => ld_run (b := aB A_a) (off := (aO A_a + x_7.toNat * 1)) (s := 1) (agg := false) (vs := encHd (hd A_hs x_7)) (by kernel_rfl) (by kernel_rfl) (.inr rfl) ((hm.xr A_h).at (A_i.ixh hx_84))) ?_)
    obtain ⟨x_9, hx_85, h⟩ := bd h
    refine qv 11 0 [] (fun w hm => idx_run (a := B_a) (len := order1.length) (s := 1) (j := i_4) (by kernel_rfl) (ix_some hx_85).1 (ltn hx_85 rfl) (B_h.sp hx_85)) (qv 12 0 [] (fun w hm => ld_run (b := aB B_a) (off := (aO B_a + i_4.toNat * 1)) (s := 1) (agg := false) (vs := (encI64 x_9)) (by kernel_rfl) (by kernel_rfl) (.inr rfl) ((hm.xr B_h).at hx_85)) ?_)
    obtain ⟨x_10, hx_86, h⟩ := bd h
    exact qv 13 0 [] (fun w hm => idx_run (a := (hd A_hs x_7).a) (len := ((hd A_hs x_7).n)) (s := 1) (j := x_9) (by kernel_rfl) (ix_some hx_86).1 (ltn hx_86 (A_i.get hx_84).2.1) ((A_i.get hx_84).1.sp hx_86)) (qv 14 0 [] (fun w hm => ld_run (b := aB (hd A_hs x_7).a) (off := (aO (hd A_hs x_7).a + x_9.toNat * 1)) (s := 1) (agg := false) (vs := (encI64 x_10)) (by kernel_rfl) (by kernel_rfl) (.inr rfl) ((hm.exRow (A_i.get hx_84).1 List.not_mem_nil).at hx_86)) (qd [⟨15, 0, 0⟩,⟨16, 0, 0⟩] 0 [] (qz (jx_inn (jx_then (jc_region (qh [0,0,0] (qe (qb ((w64 (i_3 + x_10)), (w64 (i_4 + 1))) () h trivial [])))))))))
   ·refine jc_exit (jx_thenx (jx_leave i_3 (Option.some.inj h).symm (fun e_87 => ?_)))
    subst e_87
    exact jx_ine (qm i_3 hr_79 [])
  ·rintro i_1 h
   replace h : impl_orderCost.k_2 i_1 = some r := h
   rw [impl_orderCost.k_2] at h
   refine jx_then (jc_seq (jc_region (qh [0,0] (qe (jx_then (jc_ret ?_))))))
   obtain rfl := Option.some.inj h
   exact qr [] (fun w hm => ⟨rfl, hm.pk []⟩)
/-! ### slices.Index[[]int64,int64] -/
def slices_Index_int64.k_1 : Option (Int) := some (-1)
def slices_Index_int64.l_3 (s0 : List Int) (v1 : Int) : Int → Option ((Int) ⊕ (Int ⊕ Unit))
  | i_2 => (if (decide (i_2 < (s0.length : Int))) = true then (ix s0 i_2).bind fun x_5 => (if (v1 == x_5) = true then some (.inr (.inl i_2)) else some (.inl (w64 (i_2 + 1)))) else some (.inr (.inr ())))
def slices_Index_int64 (s0 : List Int) (v1 : Int) : Option (Int) := (loop (slices_Index_int64.l_3 s0 v1) 0).bind fun t_4 => match t_4 with | .inl p => some p | .inr p => slices_Index_int64.k_1
theorem slices_Index_int64.calls (s0 : List Int) (v1 : Int) (w : World) (r : Int) {A_a : Option Addr} {A_an : Nat} (A_c : Nat) (A_h : Rw w A_a 1 encI64 s0) (A_hn : s0.length = A_an) (h : slices_Index_int64 s0 v1 = some r) :
    Calls Try.prog 145 #[(.slice A_a A_an A_c), (.int .i64 v1)] w fun e w' => ∃ v, e = .returned v ∧ (v = (.int .i64 r) ∧ Mem w [] [] w') := by
  subst A_hn
  rw [slices_Index_int64] at h
  refine enter (args := [(.slice A_a s0.length A_c), (.int .i64 v1)]) Try.func145 rfl Try.ntmps145 (by kernel_rfl) (L := []) (W := []) (Mem.start w) ?_
  refine jc_seq (jc_region (qh [0] (qe (jx_then (jc_seq (jc_seq (jc_region (qh [0,0,0] (qe (jx_then (jc_meet (fun (_ : Unit) => slices_Index_int64.k_1 = some r) (fun (_ : Unit) => [(4, [], (.int .i64 0))]) (fun (_ : Unit) => []) ?_ ?_)))))))))))
  ·refine jc_block ?_
   obtain ⟨t_4, ht_34, hr_26⟩ := bd h
   refine jc_loop (fun (s : Int) (x : Unit) => match s, x with | i_2, _ => True) (fun (s : Int) (x : Unit) => match s, x with | i_2, _ => [(0, [], (.slice A_a s0.length A_c)), (1, [], (.int .i64 v1)), (4, [], (.int .i64 0)), (7, [], (.int .i64 (s0.length : Int))), (8, [], (.int .i64 i_2))]) (fun (s : Int) (x : Unit) => match s, x with | i_2, _ => []) ht_34 () trivial (by kernel_rfl) [] (by kernel_rfl) (by kernel_rfl) ?_
   rintro i_2 _ y_27 _ h
   rw [slices_Index_int64.l_3] at h
   refine jc_seq (jc_region (qh [0] (qe (jx_then (jc_seq (qi h (fun h => ?_) (fun h => ?_)))))))
   ·refine jc_skip (jx_then (jc_seq (jc_block (jc_seq (jc_region (qh [0,0] (qe (jx_then (jc_seq (jc_region (qh [0,0,0] ?_)))))))))))
    obtain ⟨x_5, hx_30, h⟩ := bd h
    refine tO (qx 0 A_a 1 hx_30 rfl (A_h.sp hx_30) (jkO (tO (ql 0 false (fun w hm => ((hm.xr A_h).at hx_30)) (jkO (qh [0] (qe (jx_then (qi h (fun h => ?_) (fun h => ?_))))))))))
    ·refine jc_seq (jc_region (qh [0,0] (qe (jx_then (jc_ret (jx_inr (jx_thenr (jx_leaver (.inl i_2) (Option.some.inj h).symm (fun e_32 => ?_)))))))))
     subst e_32
     refine jx_inr (jx_thenr (jx_thenr ?_))
     obtain rfl := Option.some.inj hr_26
     exact qr [] (fun w hm => ⟨rfl, hm.pk []⟩)
    ·exact jc_skip (jx_inn (jx_then (jc_region (qh [0,0] (qe (qb (w64 (i_2 + 1)) () h trivial []))))))
   ·refine jc_exit (jx_thenx (jx_leave (.inr ()) (Option.some.inj h).symm (fun e_33 => ?_)))
    subst e_33
    exact jx_ine (qm () hr_26 [])
  ·rintro _ h
   replace h : slices_Index_int64.k_1 = some r := h
   rw [slices_Index_int64.k_1] at h
   refine jx_then (jc_seq (jc_region (qh [0] (qe (jx_then (jc_ret ?_))))))
   obtain rfl := Option.some.inj h
   exact qr [] (fun w hm => ⟨rfl, hm.pk []⟩)
/-! ### slices.Contains[[]int64,int64] -/
def slices_Contains_int64 (s0 : List Int) (v1 : Int) : Option (Bool) := (slices_Index_int64 s0 v1).bind fun t_1 => some (decide (t_1 ≥ 0))
theorem slices_Contains_int64.calls (s0 : List Int) (v1 : Int) (w : World) (r : Bool) {A_a : Option Addr} {A_an : Nat} (A_c : Nat) (A_h : Rw w A_a 1 encI64 s0) (A_hn : s0.length = A_an) (h : slices_Contains_int64 s0 v1 = some r) :
    Calls Try.prog 107 #[(.slice A_a A_an A_c), (.int .i64 v1)] w fun e w' => ∃ v, e = .returned v ∧ (v = (.bool r) ∧ Mem w [] [] w') := by
  subst A_hn
  rw [slices_Contains_int64] at h
  refine enter (args := [(.slice A_a s0.length A_c), (.int .i64 v1)]) Try.func107 rfl Try.ntmps107 (by kernel_rfl) (L := []) (W := []) (Mem.start w) ?_
  refine jc_seq (jc_region (qh [0] (qe (jx_then (jc_seq (jc_region (qh [0,0] ?_)))))))
  obtain ⟨t_1, ht_1, h⟩ := bd h
  refine tO (pc 0 (fun w hm => slices_Index_int64.calls s0 v1 w _ A_c (hm.xr A_h) rfl ht_1) ?_)
  rintro w v w' hm ⟨rfl, hm'⟩
  refine ⟨_, hm.app hm', jkO ?_⟩
  clear hm hm'
  refine qh [0,0] (qe (jx_then (jc_ret ?_)))
  obtain rfl := Option.some.inj h
  exact qr [] (fun w hm => ⟨rfl, hm.pk []⟩)
/-! ### slices.Clone[[]int64,int64] -/
def slices_Clone_int64 (s0 : List Int) : Option ((List Int)) := (if ([] : List Int).length + s0.length ≤ 4294967296 then some (([] : List Int) ++ s0) else none)
theorem slices_Clone_int64.calls (s0 : List Int) (w : World) (r : (List Int)) {A_a : Option Addr} {A_an : Nat} (A_c : Nat) (A_h : Rw w A_a 1 encI64 s0) (A_hn : s0.length = A_an) (h : slices_Clone_int64 s0 = some r) :
    Calls Try.prog 108 #[(.slice A_a A_an A_c)] w fun e w' => ∃ v, e = .returned v ∧ (∃ (o0 : Option Nat) (c0 : Nat) (s0 : List Value) (n0 : Nat), r.length = n0 ∧ (o0 ≠ none → n0 ≤ c0 ∧ s0.length = (c0 - n0) * 1) ∧ (o0 = none → r = [] ∧ c0 = 0) ∧ v = .slice (o0.map fun b => ⟨b, 0, none⟩) n0 c0 ∧ Mem w [] [⟨o0, 2, row encI64 r s0⟩] w') := by
  subst A_hn
  rw [slices_Clone_int64] at h
  refine enter (args := [(.slice A_a s0.length A_c)]) Try.func108 rfl Try.ntmps108 (by kernel_rfl) (L := []) (W := []) (Mem.start w) ?_
  refine jc_seq (jc_region (qh [0] (qe (jx_then (jc_seq (jc_seq (jc_region (qh [0] ?_))))))))
  by_cases hn_4 : A_a = none
  ·have hx0 : s0 = [] := (nil_of A_h hn_4)
   replace h : some [] = some r := by simpa [hx0] using h
   refine tO (p_nil 0 A_a true true (by kernel_rfl) (by kernel_rfl) (by rw [hn_4]; rfl) (jkO (qe (jx_then (jc_cond true (by kernel_rfl) (fun hc_5 => (jc_seq (jc_region (qh [0] (qe (jx_then (jc_ret (jx_thenr ?_)))))))) (fun hc_5 => nomatch hc_5))))))
   obtain rfl := Option.some.inj h
   exact jx_ghost 2 encI64 (qr [] (fun w hm => ⟨none, 0, [], 0, rfl, (fun e => absurd rfl e), (fun _ => ⟨rfl, rfl⟩), rfl, hm.pk [0]⟩))
  ·refine tO (p_nil 0 A_a true false (by kernel_rfl) (by kernel_rfl) (by rw [Option.isNone_eq_false_iff.2 (Option.ne_none_iff_isSome.1 hn_4)]; rfl) (jkO (qe (jx_then (jc_cond false (by kernel_rfl) (fun hc_6 => nomatch hc_6) (fun hc_6 => (jc_skip (jx_then (jc_seq (jc_region (tO (qa 0 (fun b_7 => jkO (qh [0] ?_))))))))))))))
   obtain ⟨hg_8, h⟩ := gd h
   refine tO (p_apn 0 0 (some b_7) 2 0 s0.length 0 1 8 A_a encI64 ([] : List Int) s0 [] (.int .i64 0) rfl rfl (by kernel_rfl) (by kernel_rfl) (by kernel_rfl) encI64_len encI64_cell (fun _ => ⟨Nat.le_refl _, by simp⟩) (fun e => nomatch e) (fun w hm => (hm.xr A_h)) hg_8 (by kernel_rfl) (by kernel_rfl) (fun o_9 cap_10 sp_11 hs_12 ho_13 => jkO (qh [0] (qe (jx_then (jc_ret ?_))))))
   obtain rfl := Option.some.inj h
   exact qr [] (fun w hm => ⟨o_9, cap_10, sp_11, ((([] : List Int) ++ s0).length), rfl, hs_12, ho_13, rfl, hm.pk [0]⟩)
/-! ### laws.eqInt64S -/
def laws_eqInt64S.k_1 : Option (Bool) := some true
def laws_eqInt64S.l_3 (a0 : List Int) (b1 : List Int) : Int → Option ((Int) ⊕ (Bool ⊕ Unit))
  | i_2 => (if (decide (i_2 < (a0.length : Int))) = true then (ix a0 i_2).bind fun x_5 => (ix b1 i_2).bind fun x_6 => (if (x_5 != x_6) = true then some (.inr (.inl false)) else some (.inl (w64 (i_2 + 1)))) else some (.inr (.inr ())))
def laws_eqInt64S (a0 : List Int) (b1 : List Int) : Option (Bool) := (if ((a0.length : Int) != (b1.length : Int)) = true then some false else (loop (laws_eqInt64S.l_3 a0 b1) 0).bind fun t_4 => match t_4 with | .inl p => some p | .inr p => laws_eqInt64S.k_1)
theorem laws_eqInt64S.calls (a0 : List Int) (b1 : List Int) (w : World) (r : Bool) {A_a : Option Addr} {A_an : Nat} (A_c : Nat) (A_h : Rw w A_a 1 encI64 a0) (A_hn : a0.length = A_an) {B_a : Option Addr} {B_an : Nat} (B_c : Nat) (B_h : Rw w B_a 1 encI64 b1) (B_hn : b1.length = B_an) (h : laws_eqInt64S a0 b1 = some r) :
    Calls Try.prog 16 #[(.slice A_a A_an A_c), (.slice B_a B_an B_c)] w fun e w' => ∃ v, e = .returned v ∧ (v = (.bool r) ∧ Mem w [] [] w') := by
  subst A_hn B_hn
  rw [laws_eqInt64S] at h
  refine enter (args := [(.slice A_a a0.length A_c), (.slice B_a b1.length B_c)]) Try.func16 rfl Try.ntmps16 (by kernel_rfl) (L := []) (W := []) (Mem.start w) ?_
  refine jc_seq (jc_region (qh [0] (qe (jx_then (jc_seq (jc_seq (jc_region (qh [0,0,0,0,0] (qe (jx_then (qi h (fun h => ?_) (fun h => ?_))))))))))))
  ·refine jc_seq (jc_region (qh [0] (qe (jx_then (jc_ret (jx_thenr ?_))))))
   obtain rfl := Option.some.inj h
   exact qr [] (fun w hm => ⟨rfl, hm.pk []⟩)
  ·refine jc_skip (jx_then (jc_seq (jc_seq (jc_region (qh [0] (qe (jx_then (jc_meet (fun (_ : Unit) => laws_eqInt64S.k_1 = some r) (fun (_ : Unit) => [(4, [], (.bool false))]) (fun (_ : Unit) => []) ?_ ?_))))))))
   ·refine jc_block ?_
    obtain ⟨t_4, ht_42, hr_33⟩ := bd h
    refine jc_loop (fun (s : Int) (x : Unit) => match s, x with | i_2, _ => True) (fun (s : Int) (x : Unit) => match s, x with | i_2, _ => [(0, [], (.slice A_a a0.length A_c)), (1, [], (.slice B_a b1.length B_c)), (4, [], (.bool false)), (5, [], (.int .i64 i_2))]) (fun (s : Int) (x : Unit) => match s, x with | i_2, _ => []) ht_42 () trivial (by kernel_rfl) [] (by kernel_rfl) (by kernel_rfl) ?_
    rintro i_2 _ y_34 _ h
    rw [laws_eqInt64S.l_3] at h
    refine jc_seq (jc_seq (jc_region (qh [0,0,0,0] (qe (jx_then (qi h (fun h => ?_) (fun h => ?_)))))))
    ·refine jc_skip (jx_then (jc_seq (jc_block (jc_seq (qg [] 9 (qd [⟨0, 0, 0⟩,⟨1, 0, 0⟩,⟨4, 0, 0⟩,⟨5, 0, 0⟩] 5 [] ?_))))))
     obtain ⟨x_5, hx_37, h⟩ := bd h
     refine qv 2 0 [] (fun w hm => idx_run (a := A_a) (len := a0.length) (s := 1) (j := i_2) (by kernel_rfl) (ix_some hx_37).1 (ltn hx_37 rfl) (A_h.sp hx_37)) (qv 3 0 [] (fun w hm => ld_run (b := aB A_a) (off := (aO A_a + i_2.toNat * 1)) (s := 1) (agg := false) (vs := (encI64 x_5)) (by kernel_rfl) (by kernel_rfl) (.inr rfl) ((hm.xr A_h).at hx_37)) ?_)
     obtain ⟨x_6, hx_38, h⟩ := bd h
     refine qv 6 0 [] (fun w hm => idx_run (a := B_a) (len := b1.length) (s := 1) (j := i_2) (by kernel_rfl) (ix_some hx_38).1 (ltn hx_38 rfl) (B_h.sp hx_38)) (qv 7 0 [] (fun w hm => ld_run (b := aB B_a) (off := (aO B_a + i_2.toNat * 1)) (s := 1) (agg := false) (vs := (encI64 x_6)) (by kernel_rfl) (by kernel_rfl) (.inr rfl) ((hm.xr B_h).at hx_38)) (qd [⟨8, 0, 0⟩] 0 [] (qz (jx_then (qi h (fun h => ?_) (fun h => ?_))))))
     ·refine jc_seq (jc_region (qh [0] (qe (jx_then (jc_ret (jx_inr (jx_thenr (jx_leaver (.inl false) (Option.some.inj h).symm (fun e_40 => ?_)))))))))
      subst e_40
      refine jx_inr (jx_thenr (jx_thenr ?_))
      obtain rfl := Option.some.inj hr_33
      exact qr [] (fun w hm => ⟨rfl, hm.pk []⟩)
     ·exact jc_skip (jx_inn (jx_then (jc_region (qh [0,0,0] (qe (qb (w64 (i_2 + 1)) () h trivial []))))))
    ·refine jc_exit (jx_thenx (jx_leave (.inr ()) (Option.some.inj h).symm (fun e_41 => ?_)))
     subst e_41
     exact jx_ine (qm () hr_33 [])
   ·rintro _ h
    replace h : laws_eqInt64S.k_1 = some r := h
    rw [laws_eqInt64S.k_1] at h
    refine jx_then (jc_seq (jc_region (qh [0] (qe (jx_then (jc_ret ?_))))))
    obtain rfl := Option.some.inj h
    exact qr [] (fun w hm => ⟨rfl, hm.pk []⟩)
/-! ### laws.eqHammer -/
def laws_eqHammer (a0 : GHammer) (b1 : GHammer) : Option (Bool) := (if (a0.fPitch != b1.fPitch) = true then some false else (if (a0.fReady != b1.fReady) = true then some false else some true))
theorem laws_eqHammer.calls (a0 : GHammer) (b1 : GHammer) (w : World) (r : Bool) (h : laws_eqHammer a0 b1 = some r) :
    Calls Try.prog 109 #[(.agg #[(.int .i8 a0.fPitch), (.int .i8 a0.fReady)]), (.agg #[(.int .i8 b1.fPitch), (.int .i8 b1.fReady)])] w fun e w' => ∃ v, e = .returned v ∧ (v = (.bool r) ∧ Mem w [] [] w') := by
  rw [laws_eqHammer] at h
  refine enter (args := [(.agg #[(.int .i8 a0.fPitch), (.int .i8 a0.fReady)]), (.agg #[(.int .i8 b1.fPitch), (.int .i8 b1.fReady)])]) Try.func109 rfl Try.ntmps109 (by kernel_rfl) (L := []) (W := []) (Mem.start w) ?_
  refine jc_seq (jc_region (tO (qa 0 (fun b_1 => jkO (tO (qa 0 (fun b_2 => jkO (qh [0] (qe (jx_then (jc_seq (jc_seq (jc_region (qh [0,0,0,1,0] (qe (jx_then (qi h (fun h => ?_) (fun h => ?_))))))))))))))))))
  ·refine jc_seq (jc_region (qh [0] (qe (jx_then (jc_ret (jx_thenr ?_))))))
   obtain rfl := Option.some.inj h
   exact qr [] (fun w hm => ⟨rfl, hm.pk []⟩)
  ·refine jc_skip (jx_then (jc_seq (jc_seq (jc_region (qh [0,0,0,1,0] (qe (jx_then (qi h (fun h => ?_) (fun h => ?_)))))))))
   ·refine jc_seq (jc_region (qh [0] (qe (jx_then (jc_ret (jx_thenr ?_))))))
    obtain rfl := Option.some.inj h
    exact qr [] (fun w hm => ⟨rfl, hm.pk []⟩)
   ·refine jc_skip (jx_then (jc_seq (jc_region (qh [0] (qe (jx_then (jc_ret ?_)))))))
    obtain rfl := Option.some.inj h
    exact qr [] (fun w hm => ⟨rfl, hm.pk []⟩)
/-! ### laws.eqHammerS -/
def laws_eqHammerS.k_1 : Option (Bool) := some true
def laws_eqHammerS.l_3 (a0 : List GHammer) (b1 : List GHammer) : Int → Option ((Int) ⊕ (Bool ⊕ Unit))
  | i_2 => (if (decide (i_2 < (a0.length : Int))) = true then (ix a0 i_2).bind fun x_5 => (ix b1 i_2).bind fun x_6 => (laws_eqHammer x_5 x_6).bind fun t_7 => (if (!t_7) = true then some (.inr (.inl false)) else some (.inl (w64 (i_2 + 1)))) else some (.inr (.inr ())))
def laws_eqHammerS (a0 : List GHammer) (b1 : List GHammer) : Option (Bool) := (if ((a0.length : Int) != (b1.length : Int)) = true then some false else (loop (laws_eqHammerS.l_3 a0 b1) 0).bind fun t_4 => match t_4 with | .inl p => some p | .inr p => laws_eqHammerS.k_1)
theorem laws_eqHammerS.calls (a0 : List GHammer) (b1 : List GHammer) (w : World) (r : Bool) {A_a : Option Addr} {A_an : Nat} (A_c : Nat) (A_h : Rw w A_a 2 encGHammer a0) (A_hn : a0.length = A_an) {B_a : Option Addr} {B_an : Nat} (B_c : Nat) (B_h : Rw w B_a 2 encGHammer b1) (B_hn : b1.length = B_an) (h : laws_eqHammerS a0 b1 = some r) :
    Calls Try.prog 60 #[(.slice A_a A_an A_c), (.slice B_a B_an B_c)] w fun e w' => ∃ v, e = .returned v ∧ (v = (.bool r) ∧ Mem w [] [] w') := by
  subst A_hn B_hn
  rw [laws_eqHammerS] at h
  refine enter (args := [(.slice A_a a0.length A_c), (.slice B_a b1.length B_c)]) Try.func60 rfl Try.ntmps60 (by kernel_rfl) (L := []) (W := []) (Mem.start w) ?_
  refine jc_seq (jc_region (qh [0] (qe (jx_then (jc_seq (jc_seq (jc_region (qh [0,0,0,0,0] (qe (jx_then (qi h (fun h => ?_) (fun h => ?_))))))))))))
  ·refine jc_seq (jc_region (qh [0] (qe (jx_then (jc_ret (jx_thenr ?_))))))
   obtain rfl := Option.some.inj h
   exact qr [] (fun w hm => ⟨rfl, hm.pk []⟩)
  ·refine jc_skip (jx_then (jc_seq (jc_seq (jc_region (qh [0] (qe (jx_then (jc_meet (fun (_ : Unit) => laws_eqHammerS.k_1 = some r) (fun (_ : Unit) => [(4, [], (.bool false))]) (fun (_ : Unit) => []) ?_ ?_))))))))
   ·refine jc_block ?_
    obtain ⟨t_4, ht_48, hr_38⟩ := bd h
    refine jc_loop (fun (s : Int) (x : Unit) => match s, x with | i_2, _ => True) (fun (s : Int) (x : Unit) => match s, x with | i_2, _ => [(0, [], (.slice A_a a0.length A_c)), (1, [], (.slice B_a b1.length B_c)), (4, [], (.bool false)), (5, [], (.int .i64 i_2))]) (fun (s : Int) (x : Unit) => match s, x with | i_2, _ => []) ht_48 () trivial (by kernel_rfl) [] (by kernel_rfl) (by kernel_rfl) ?_
    rintro i_2 _ y_39 _ h
    rw [laws_eqHammerS.l_3] at h
    refine jc_seq (jc_seq (jc_region (qh [0,0,0,0] (qe (jx_then (qi h (fun h => ?_) (fun h => ?_)))))))
    ·refine jc_skip (jx_then (jc_seq (jc_block (jc_seq (qg [] 10 (qd [⟨0, 0, 0⟩,⟨1, 0, 0⟩,⟨4, 0, 0⟩,⟨5, 0, 0⟩] 6 [] ?_))))))
     obtain ⟨x_5, hx_42, h⟩ := bd h
     refine qv 2 0 [] (fun w hm => idx_run (a := A_a) (len := a0.length) (s := 2) (j := i_2) (by kernel_rfl) (ix_some hx_42).1 (ltn hx_42 rfl) (A_h.sp hx_42)) (qv 3 0 [] (fun w hm => ld_run (b := aB A_a) (off := (aO A_a + i_2.toNat * 2)) (s := 2) (agg := true) (vs := (encGHammer x_5)) (by kernel_rfl) (by kernel_rfl) (.inl rfl) ((hm.xr A_h).at hx_42)) ?_)
     obtain ⟨x_6, hx_43, h⟩ := bd h
     refine qv 6 0 [] (fun w hm => idx_run (a := B_a) (len := b1.length) (s := 2) (j := i_2) (by kernel_rfl) (ix_some hx_43).1 (ltn hx_43 rfl) (B_h.sp hx_43)) (qv 7 0 [] (fun w hm => ld_run (b := aB B_a) (off := (aO B_a + i_2.toNat * 2)) (s := 2) (agg := true) (vs := (encGHammer x_6)) (by kernel_rfl) (by kernel_rfl) (.inl rfl) ((hm.xr B_h).at hx_43)) ?_)
     obtain ⟨t_7, ht_44, h⟩ := bd h
     refine tD 8 (pc 0 (fun w hm => laws_eqHammer.calls x_5 x_6 w _ ht_44) ?_)
     rintro w v w' hm ⟨rfl, hm'⟩
     refine ⟨_, hm.app hm', kD [] ?_⟩
     clear hm hm'
     refine qd [⟨9, 0, 0⟩] 0 [] (qz (jx_then (qi h (fun h => ?_) (fun h => ?_))))
     ·refine jc_seq (jc_region (qh [0] (qe (jx_then (jc_ret (jx_inr (jx_thenr (jx_leaver (.inl false) (Option.some.inj h).symm (fun e_46 => ?_)))))))))
      subst e_46
      refine jx_inr (jx_thenr (jx_thenr ?_))
      obtain rfl := Option.some.inj hr_38
      exact qr [] (fun w hm => ⟨rfl, hm.pk []⟩)
     ·exact jc_skip (jx_inn (jx_then (jc_region (qh [0,0,0] (qe (qb (w64 (i_2 + 1)) () h trivial []))))))
    ·refine jc_exit (jx_thenx (jx_leave (.inr ()) (Option.some.inj h).symm (fun e_47 => ?_)))
     subst e_47
     exact jx_ine (qm () hr_38 [])
   ·rintro _ h
    replace h : laws_eqHammerS.k_1 = some r := h
    rw [laws_eqHammerS.k_1] at h
    refine jx_then (jc_seq (jc_region (qh [0] (qe (jx_then (jc_ret ?_))))))
    obtain rfl := Option.some.inj h
    exact qr [] (fun w hm => ⟨rfl, hm.pk []⟩)
/-! ### laws.eqFrame -/
def laws_eqFrame (a0 : GFrame) (b1 : GFrame) : Option (Bool) := (if (a0.fSteps != b1.fSteps) = true then some false else (laws_eqHammerS a0.fHammers b1.fHammers).bind fun t_1 => (if (!t_1) = true then some false else some true))
theorem laws_eqFrame.calls (a0 : GFrame) (b1 : GFrame) (w : World) (r : Bool) {C_a : Option Addr} {C_an : Nat} (C_c : Nat) (C_h : Rw w C_a 2 encGHammer a0.fHammers) (C_hn : a0.fHammers.length = C_an) {F_a : Option Addr} {F_an : Nat} (F_c : Nat) (F_h : Rw w F_a 2 encGHammer b1.fHammers) (F_hn : b1.fHammers.length = F_an) (h : laws_eqFrame a0 b1 = some r) :
    Calls Try.prog 17 #[(.agg #[(.int .i16 a0.fSteps), (.slice C_a C_an C_c)]), (.agg #[(.int .i16 b1.fSteps), (.slice F_a F_an F_c)])] w fun e w' => ∃ v, e = .returned v ∧ (v = (.bool r) ∧ Mem w [] [] w') := by
  subst C_hn F_hn
  rw [laws_eqFrame] at h
  refine enter (args := [(.agg #[(.int .i16 a0.fSteps), (.slice C_a a0.fHammers.length C_c)]), (.agg #[(.int .i16 b1.fSteps), (.slice F_a b1.fHammers.length F_c)])]) Try.func17 rfl Try.ntmps17 (by kernel_rfl) (L := []) (W := []) (Mem.start w) ?_
  refine jc_seq (jc_region (tO (qa 0 (fun b_1 => jkO (tO (qa 0 (fun b_2 => jkO (qh [0] (qe (jx_then (jc_seq (jc_seq (jc_region (qh [0,0,0,1,0] (qe (jx_then (qi h (fun h => ?_) (fun h => ?_))))))))))))))))))
  ·refine jc_seq (jc_region (qh [0] (qe (jx_then (jc_ret (jx_thenr ?_))))))
   obtain rfl := Option.some.inj h
   exact qr [] (fun w hm => ⟨rfl, hm.pk []⟩)
  ·refine jc_skip (jx_then (jc_seq (jc_seq (jc_region (qh [0,0,0,1] ?_)))))
   obtain ⟨t_1, ht_5, h⟩ := bd h
   refine tO (pc 0 (fun w hm => laws_eqHammerS.calls a0.fHammers b1.fHammers w _ C_c (hm.xr C_h) rfl F_c (hm.xr F_h) rfl ht_5) ?_)
   rintro w v w' hm ⟨rfl, hm'⟩
   refine ⟨_, hm.app hm', jkO ?_⟩
   clear hm hm'
   refine qh [0] (qe (jx_then (qi h (fun h => ?_) (fun h => ?_))))
   ·refine jc_seq (jc_region (qh [0] (qe (jx_then (jc_ret (jx_thenr ?_))))))
    obtain rfl := Option.some.inj h
    exact qr [] (fun w hm => ⟨rfl, hm.pk []⟩)
   ·refine jc_skip (jx_then (jc_seq (jc_region (qh [0] (qe (jx_then (jc_ret ?_)))))))
    obtain rfl := Option.some.inj h
    exact qr [] (fun w hm => ⟨rfl, hm.pk []⟩)
/-! ### laws.eqDrum -/
def laws_eqDrum.k_1 : Option (Bool) := some true
def laws_eqDrum.l_3 (a0 : Arr 96 Int) (b1 : Arr 96 Int) : Int → Option ((Int) ⊕ (Bool ⊕ Unit))
  | i_2 => (if (decide (i_2 < 96)) = true then (ix a0.1 i_2).bind fun x_5 => (ix b1.1 i_2).bind fun x_6 => (if (x_5 != x_6) = true then some (.inr (.inl false)) else some (.inl (w64 (i_2 + 1)))) else some (.inr (.inr ())))
def laws_eqDrum (a0 : Arr 96 Int) (b1 : Arr 96 Int) : Option (Bool) := (loop (laws_eqDrum.l_3 a0 b1) 0).bind fun t_4 => match t_4 with | .inl p => some p | .inr p => laws_eqDrum.k_1
theorem laws_eqDrum.calls (a0 : Arr 96 Int) (b1 : Arr 96 Int) (w : World) (r : Bool) (h : laws_eqDrum a0 b1 = some r) :
    Calls Try.prog 61 #[(.agg (row encU32 a0.1 []).toArray), (.agg (row encU32 b1.1 []).toArray)] w fun e w' => ∃ v, e = .returned v ∧ (v = (.bool r) ∧ Mem w [] [] w') := by
  rw [laws_eqDrum] at h
  refine enter (args := [(.agg (row encU32 a0.1 []).toArray), (.agg (row encU32 b1.1 []).toArray)]) Try.func61 rfl Try.ntmps61 (by kernel_rfl) (L := []) (W := []) (Mem.start w) ?_
  refine jc_seq (jc_region (tO (qa 0 (fun b_1 => jkO (tO (qa 0 (fun b_2 => jkO (qh [0] (qe (jx_then (jc_seq (jc_seq (jc_region (qh [0] (qe (jx_then (jc_meet (fun (_ : Unit) => laws_eqDrum.k_1 = some r) (fun (_ : Unit) => [(4, [], (.bool false))]) (fun (_ : Unit) => [⟨(some b_1), 88, row encU32 a0.1 []⟩, ⟨(some b_2), 88, row encU32 b1.1 []⟩]) ?_ ?_)))))))))))))))))
  ·refine jc_block ?_
   obtain ⟨t_4, ht_42, hr_33⟩ := bd h
   refine jc_loop (fun (s : Int) (x : Unit) => match s, x with | i_2, _ => True) (fun (s : Int) (x : Unit) => match s, x with | i_2, _ => [(2, [], (.pointer (some ⟨b_1, 0, none⟩))), (3, [], (.pointer (some ⟨b_2, 0, none⟩))), (4, [], (.bool false)), (5, [], (.int .i64 i_2))]) (fun (s : Int) (x : Unit) => match s, x with | i_2, _ => [⟨(some b_1), 88, row encU32 a0.1 []⟩, ⟨(some b_2), 88, row encU32 b1.1 []⟩]) ht_42 () trivial (by kernel_rfl) [0, 1] (by kernel_rfl) (by kernel_rfl) ?_
   rintro i_2 _ y_34 _ h
   rw [laws_eqDrum.l_3] at h
   refine jc_seq (jc_seq (jc_region (qh [0,0] (qe (jx_then (qi h (fun h => ?_) (fun h => ?_)))))))
   ·refine jc_skip (jx_then (jc_seq (jc_block (jc_seq (qg [⟨(some b_1), 88, row encU32 a0.1 []⟩, ⟨(some b_2), 88, row encU32 b1.1 []⟩] 7 (qd [⟨0, 0, 0⟩,⟨3, 0, 0⟩] 5 [0, 1] ?_))))))
    obtain ⟨x_5, hx_37, h⟩ := bd h
    refine qv 1 0 [0, 1] (fun w hm => idx_run (a := (some ⟨b_1, 0, none⟩)) (len := 96) (s := 1) (j := i_2) (by kernel_rfl) (ix_some hx_37).1 (ltn hx_37 a0.2) rfl) (qv 2 0 [0, 1] (fun w hm => ld_run (b := aB (some ⟨b_1, 0, none⟩)) (off := (aO (some ⟨b_1, 0, none⟩) + i_2.toNat * 1)) (s := 1) (agg := false) (vs := (encU32 x_5)) (by kernel_rfl) (by kernel_rfl) (.inr rfl) ((hm.ow 0 (some b_1) 88 a0.1 [] (fun e => nomatch e) encU32_len).at hx_37)) ?_)
    obtain ⟨x_6, hx_38, h⟩ := bd h
    refine qv 4 0 [0, 1] (fun w hm => idx_run (a := (some ⟨b_2, 0, none⟩)) (len := 96) (s := 1) (j := i_2) (by kernel_rfl) (ix_some hx_38).1 (ltn hx_38 b1.2) rfl) (qv 5 0 [0, 1] (fun w hm => ld_run (b := aB (some ⟨b_2, 0, none⟩)) (off := (aO (some ⟨b_2, 0, none⟩) + i_2.toNat * 1)) (s := 1) (agg := false) (vs := (encU32 x_6)) (by kernel_rfl) (by kernel_rfl) (.inr rfl) ((hm.ow 1 (some b_2) 88 b1.1 [] (fun e => nomatch e) encU32_len).at hx_38)) (qd [⟨6, 0, 0⟩] 0 [0, 1] (qz (jx_then (qi h (fun h => ?_) (fun h => ?_))))))
    ·refine jc_seq (jc_region (qh [0] (qe (jx_then (jc_ret (jx_inr (jx_thenr (jx_leaver (.inl false) (Option.some.inj h).symm (fun e_40 => ?_)))))))))
     subst e_40
     refine jx_inr (jx_thenr (jx_thenr ?_))
     obtain rfl := Option.some.inj hr_33
     exact qr [] (fun w hm => ⟨rfl, hm.pk []⟩)
    ·exact jc_skip (jx_inn (jx_then (jc_region (qh [0,0,0] (qe (qb (w64 (i_2 + 1)) () h trivial [0, 1]))))))
   ·refine jc_exit (jx_thenx (jx_leave (.inr ()) (Option.some.inj h).symm (fun e_41 => ?_)))
    subst e_41
    exact jx_ine (qm () hr_33 [0, 1])
  ·rintro _ h
   replace h : laws_eqDrum.k_1 = some r := h
   rw [laws_eqDrum.k_1] at h
   refine jx_then (jc_seq (jc_region (qh [0] (qe (jx_then (jc_ret ?_))))))
   obtain rfl := Option.some.inj h
   exact qr [] (fun w hm => ⟨rfl, hm.pk []⟩)
/-! ### laws.eqDrumS -/
def laws_eqDrumS.k_1 : Option (Bool) := some true
def laws_eqDrumS.l_3 (a0 : List (Arr 96 Int)) (b1 : List (Arr 96 Int)) : Int → Option ((Int) ⊕ (Bool ⊕ Unit))
  | i_2 => (if (decide (i_2 < (a0.length : Int))) = true then (ix a0 i_2).bind fun x_5 => (ix b1 i_2).bind fun x_6 => (laws_eqDrum x_5 x_6).bind fun t_7 => (if (!t_7) = true then some (.inr (.inl false)) else some (.inl (w64 (i_2 + 1)))) else some (.inr (.inr ())))
def laws_eqDrumS (a0 : List (Arr 96 Int)) (b1 : List (Arr 96 Int)) : Option (Bool) := (if ((a0.length : Int) != (b1.length : Int)) = true then some false else (loop (laws_eqDrumS.l_3 a0 b1) 0).bind fun t_4 => match t_4 with | .inl p => some p | .inr p => laws_eqDrumS.k_1)
theorem laws_eqDrumS.calls (a0 : List (Arr 96 Int)) (b1 : List (Arr 96 Int)) (w : World) (r : Bool) {A_a : Option Addr} {A_an : Nat} (A_c : Nat) (A_h : Rw w A_a 96 encA96U32 a0) (A_hn : a0.length = A_an) {B_a : Option Addr} {B_an : Nat} (B_c : Nat) (B_h : Rw w B_a 96 encA96U32 b1) (B_hn : b1.length = B_an) (h : laws_eqDrumS a0 b1 = some r) :
    Calls Try.prog 18 #[(.slice A_a A_an A_c), (.slice B_a B_an B_c)] w fun e w' => ∃ v, e = .returned v ∧ (v = (.bool r) ∧ Mem w [] [] w') := by
  subst A_hn B_hn
  rw [laws_eqDrumS] at h
  refine enter (args := [(.slice A_a a0.length A_c), (.slice B_a b1.length B_c)]) Try.func18 rfl Try.ntmps18 (by kernel_rfl) (L := []) (W := []) (Mem.start w) ?_
  refine jc_seq (jc_region (qh [0] (qe (jx_then (jc_seq (jc_seq (jc_region (qh [0,0,0,0,0] (qe (jx_then (qi h (fun h => ?_) (fun h => ?_))))))))))))
  ·refine jc_seq (jc_region (qh [0] (qe (jx_then (jc_ret (jx_thenr ?_))))))
   obtain rfl := Option.some.inj h
   exact qr [] (fun w hm => ⟨rfl, hm.pk []⟩)
  ·refine jc_skip (jx_then (jc_seq (jc_seq (jc_region (qh [0] (qe (jx_then (jc_meet (fun (_ : Unit) => laws_eqDrumS.k_1 = some r) (fun (_ : Unit) => [(4, [], (.bool false))]) (fun (_ : Unit) => []) ?_ ?_))))))))
   ·refine jc_block ?_
    obtain ⟨t_4, ht_48, hr_38⟩ := bd h
    refine jc_loop (fun (s : Int) (x : Unit) => match s, x with | i_2, _ => True) (fun (s : Int) (x : Unit) => match s, x with | i_2, _ => [(0, [], (.slice A_a a0.length A_c)), (1, [], (.slice B_a b1.length B_c)), (4, [], (.bool false)), (5, [], (.int .i64 i_2))]) (fun (s : Int) (x : Unit) => match s, x with | i_2, _ => []) ht_48 () trivial (by kernel_rfl) [] (by kernel_rfl) (by kernel_rfl) ?_
    rintro i_2 _ y_39 _ h
    rw [laws_eqDrumS.l_3] at h
    refine jc_seq (jc_seq (jc_region (qh [0,0,0,0] (qe (jx_then (qi h (fun h => ?_) (fun h => ?_)))))))
    ·refine jc_skip (jx_then (jc_seq (jc_block (jc_seq (qg [] 10 (qd [⟨0, 0, 0⟩,⟨1, 0, 0⟩,⟨4, 0, 0⟩,⟨5, 0, 0⟩] 6 [] ?_))))))
     obtain ⟨x_5, hx_42, h⟩ := bd h
     refine qv 2 0 [] (fun w hm => idx_run (a := A_a) (len := a0.length) (s := 96) (j := i_2) (by kernel_rfl) (ix_some hx_42).1 (ltn hx_42 rfl) (A_h.sp hx_42)) (qv 3 0 [] (fun w hm => ld_run (b := aB A_a) (off := (aO A_a + i_2.toNat * 96)) (s := 96) (agg := true) (vs := (encA96U32 x_5)) (by kernel_rfl) (encA96U32_len x_5) (.inl rfl) ((hm.xr A_h).at hx_42)) ?_)
     obtain ⟨x_6, hx_43, h⟩ := bd h
     refine qv 6 0 [] (fun w hm => idx_run (a := B_a) (len := b1.length) (s := 96) (j := i_2) (by kernel_rfl) (ix_some hx_43).1 (ltn hx_43 rfl) (B_h.sp hx_43)) (qv 7 0 [] (fun w hm => ld_run (b := aB B_a) (off := (aO B_a + i_2.toNat * 96)) (s := 96) (agg := true) (vs := (encA96U32 x_6)) (by kernel_rfl) (encA96U32_len x_6) (.inl rfl) ((hm.xr B_h).at hx_43)) ?_)
     obtain ⟨t_7, ht_44, h⟩ := bd h
     refine tD 8 (pc 0 (fun w hm => laws_eqDrum.calls x_5 x_6 w _ ht_44) ?_)
     rintro w v w' hm ⟨rfl, hm'⟩
     refine ⟨_, hm.app hm', kD [] ?_⟩
     clear hm hm'
     refine qd [⟨9, 0, 0⟩] 0 [] (qz (jx_then (qi h (fun h => ?_) (fun h => ?_))))
     ·refine jc_seq (jc_region (qh [0] (qe (jx_then (jc_ret (jx_inr (jx_thenr (jx_leaver (.inl false) (Option.some.inj h).symm (fun e_46 => ?_)))))))))
      subst e_46
      refine jx_inr (jx_thenr (jx_thenr ?_))
      obtain rfl := Option.some.inj hr_38
      exact qr [] (fun w hm => ⟨rfl, hm.pk []⟩)
     ·exact jc_skip (jx_inn (jx_then (jc_region (qh [0,0,0] (qe (qb (w64 (i_2 + 1)) () h trivial []))))))
    ·refine jc_exit (jx_thenx (jx_leave (.inr ()) (Option.some.inj h).symm (fun e_47 => ?_)))
     subst e_47
     exact jx_ine (qm () hr_38 [])
   ·rintro _ h
    replace h : laws_eqDrumS.k_1 = some r := h
    rw [laws_eqDrumS.k_1] at h
    refine jx_then (jc_seq (jc_region (qh [0] (qe (jx_then (jc_ret ?_))))))
    obtain rfl := Option.some.inj h
    exact qr [] (fun w hm => ⟨rfl, hm.pk []⟩)
/-! ### laws.markHammerS -/
def laws_markHammerS.k_3 (xs_1 : List GHammer) (i_2 : Int) : Option (Int × (List GHammer)) := some (i_2, xs_1)
def laws_markHammerS.l_7 (a0 : List GHammer) : ((List GHammer) × Int × Int) → Option (((List GHammer) × Int × Int) ⊕ (((List GHammer) × Int)))
  | (xs_4, i_5, i_6) => (if (decide (i_6 < (a0.length : Int))) = true then (ix xs_4 i_6).bind fun x_9 => (ix (xs_4.set i_6.toNat (⟨(w8 i_5), x_9.fReady⟩ : GHammer)) i_6).bind fun x_10 => some (.inl (((xs_4.set i_6.toNat (⟨(w8 i_5), x_9.fReady⟩ : GHammer)).set i_6.toNat (⟨x_10.fPitch, (w8 (w64 (i_5 + 1)))⟩ : GHammer)), (w64 ((w64 (i_5 + 1)) + 1)), (w64 (i_6 + 1)))) else some (.inr (xs_4, i_5)))
def laws_markHammerS (a0 : List GHammer) (k1 : Int) : Option (Int × (List GHammer)) := (loop (laws_markHammerS.l_7 a0) (a0, k1, 0)).bind fun t_8 => laws_markHammerS.k_3 t_8.1 t_8.2
theorem laws_markHammerS.calls (a0 : List GHammer) (k1 : Int) (w : World) (r : Int × (List GHammer)) (A_o : Option Nat) {A_on : Nat} {A_c : Nat} {A_sp : List Value} (A_hn : a0.length = A_on) (A_hs : A_o ≠ none → A_on ≤ A_c ∧ A_sp.length = (A_c - A_on) * 2) (A_ho : A_o = none → a0 = [] ∧ A_c = 0) (hm0 : Mem w (bs [A_o]) [⟨A_o, 110, row encGHammer a0 A_sp⟩] w) (h : laws_markHammerS a0 k1 = some r) :
    Calls Try.prog 62 #[(.slice (A_o.map fun b => ⟨b, 0, none⟩) A_on A_c), (.int .i64 k1)] w fun e w' => ∃ v, e = .returned v ∧ (r.2.length = A_on ∧ (A_o = none → r.2 = [] ∧ A_c = 0) ∧ v = (.int .i64 r.1) ∧ Mem w (bs [A_o]) [⟨A_o, 110, row encGHammer r.2 A_sp⟩] w') := by
  subst A_hn
  rw [laws_markHammerS] at h
  refine enter (args := [(.slice (A_o.map fun b => ⟨b, 0, none⟩) a0.length A_c), (.int .i64 k1)]) Try.func62 rfl Try.ntmps62 (by kernel_rfl) (L := [⟨A_o, 110, row encGHammer a0 A_sp⟩]) (W := bs [A_o]) hm0 ?_
  refine jc_seq (jc_region (qh [0] (qe (jx_then (jc_seq (jc_seq (jc_region (qh [0] (qe (jx_then (jc_meet (fun (j : (List GHammer) × Int) => match j with | ⟨xs_1, i_2⟩ => laws_markHammerS.k_3 xs_1 i_2 = some r ∧ (xs_1.length = a0.length) ∧ ((A_o = none → xs_1 = [] ∧ A_c = 0))) (fun (j : (List GHammer) × Int) => match j with | ⟨xs_1, i_2⟩ => [(1, [], (.int .i64 i_2)), (4, [], (.int .i64 0))]) (fun (j : (List GHammer) × Int) => match j with | ⟨xs_1, i_2⟩ => [⟨A_o, 110, row encGHammer xs_1 A_sp⟩]) ?_ ?_)))))))))))
  ·refine jc_block ?_
   obtain ⟨t_8, ht_84, hr_77⟩ := bd h
   refine jc_loop (fun (s : (List GHammer) × Int × Int) (x : Unit) => match s, x with | ⟨xs_4, i_5, i_6⟩, _ => (xs_4.length = a0.length) ∧ ((A_o = none → xs_4 = [] ∧ A_c = 0))) (fun (s : (List GHammer) × Int × Int) (x : Unit) => match s, x with | ⟨xs_4, i_5, i_6⟩, _ => [(0, [], (.slice (A_o.map fun b => ⟨b, 0, none⟩) a0.length A_c)), (1, [], (.int .i64 i_5)), (4, [], (.int .i64 0)), (5, [], (.int .i64 i_6))]) (fun (s : (List GHammer) × Int × Int) (x : Unit) => match s, x with | ⟨xs_4, i_5, i_6⟩, _ => [⟨A_o, 110, row encGHammer xs_4 A_sp⟩]) ht_84 () ⟨rfl, A_ho⟩ (by kernel_rfl) [0] (by kernel_rfl) (by kernel_rfl) ?_
   rintro ⟨xs_4, i_5, i_6⟩ _ y_78 ⟨hn_76, ho_75⟩ h
   rw [laws_markHammerS.l_7] at h
   refine jc_seq (jc_seq (jc_region (qh [0,0,0,0] (qe (jx_then (qi h (fun h => ?_) (fun h => ?_)))))))
   ·refine jc_skip (jx_then (jc_seq (jc_block (jc_seq (jc_region (qh [0,0,0,0] ?_))))))
    obtain ⟨x_9, hx_81, h⟩ := bd h
    refine tO (qx 0 (A_o.map fun b => ⟨b, 0, none⟩) 2 hx_81 hn_76 (spo ho_75 hx_81) (jkO (qh [0] (tO (p_strO 0 0 A_o 110 encGHammer xs_4 A_sp i_6 (⟨(w8 i_5), x_9.fReady⟩ : GHammer) 2 0 [(.int .i8 (w8 i_5))] (by kernel_rfl) (by kernel_rfl) (by kernel_rfl) (fun e => (ho_75 e).1) encGHammer_len hx_81 (by kernel_rfl) (by kernel_rfl) (jkO (qe (jx_then (jc_seq (jc_region (qh [0,0,0] (qe (jx_then (jc_seq (jc_region (qh [0,0,0,0] ?_))))))))))))))))
    obtain ⟨x_10, hx_82, h⟩ := bd h
    exact tO (qx 0 (A_o.map fun b => ⟨b, 0, none⟩) 2 hx_82 (List.length_set.trans hn_76) (spo (set_ho ho_75) hx_82) (jkO (qh [0] (tO (p_strO 0 0 A_o 110 encGHammer (xs_4.set i_6.toNat (⟨(w8 i_5), x_9.fReady⟩ : GHammer)) A_sp i_6 (⟨x_10.fPitch, (w8 (w64 (i_5 + 1)))⟩ : GHammer) 2 1 [(.int .i8 (w8 (w64 (i_5 + 1))))] (by kernel_rfl) (by kernel_rfl) (by kernel_rfl) (fun e => ((set_ho ho_75) e).1) encGHammer_len hx_82 (by kernel_rfl) (by kernel_rfl) (jkO (qe (jx_then (jc_region (qh [0,0,0] (qe (jx_inn (jx_then (jc_region (qh [0,0,0] (qe (qb (((xs_4.set i_6.toNat (⟨(w8 i_5), x_9.fReady⟩ : GHammer)).set i_6.toNat (⟨x_10.fPitch, (w8 (w64 (i_5 + 1)))⟩ : GHammer)), (w64 ((w64 (i_5 + 1)) + 1)), (w64 (i_6 + 1))) () h ⟨(List.length_set.trans (List.length_set.trans hn_76)), (set_ho (set_ho ho_75))⟩ [0])))))))))))))))))
   ·refine jc_exit (jx_thenx (jx_leave (xs_4, i_5) (Option.some.inj h).symm (fun e_83 => ?_)))
    subst e_83
    exact jx_ine (qm ⟨xs_4, i_5⟩ ⟨hr_77, hn_76, ho_75⟩ [0])
  ·rintro ⟨xs_1, i_2⟩ ⟨h, hn_64, ho_63⟩
   replace h : laws_markHammerS.k_3 xs_1 i_2 = some r := h
   rw [laws_markHammerS.k_3] at h
   refine jx_then (jc_seq (jc_region (qh [0,0] (qe (jx_then (jc_ret ?_))))))
   obtain rfl := Option.some.inj h
   exact qr [] (fun w hm => ⟨hn_64, ho_63, rfl, hm.pk [0]⟩)
/-! ### laws.markFrame -/
def laws_markFrame (a0 : GFrame) (k1 : Int) : Option (Int × (List GHammer)) := (laws_markHammerS a0.fHammers k1).bind fun t_1 => some (t_1.1, t_1.2)
theorem laws_markFrame.calls (a0 : GFrame) (k1 : Int) (w : World) (r : Int × (List GHammer)) (C_o : Option Nat) {C_on : Nat} {C_c : Nat} {C_sp : List Value} (C_hn : a0.fHammers.length = C_on) (C_hs : C_o ≠ none → C_on ≤ C_c ∧ C_sp.length = (C_c - C_on) * 2) (C_ho : C_o = none → a0.fHammers = [] ∧ C_c = 0) (hm0 : Mem w (bs [C_o]) [⟨C_o, 110, row encGHammer a0.fHammers C_sp⟩] w) (h : laws_markFrame a0 k1 = some r) :
    Calls Try.prog 19 #[(.agg #[(.int .i16 a0.fSteps), (.slice (C_o.map fun b => ⟨b, 0, none⟩) C_on C_c)]), (.int .i64 k1)] w fun e w' => ∃ v, e = .returned v ∧ (r.2.length = C_on ∧ (C_o = none → r.2 = [] ∧ C_c = 0) ∧ v = (.int .i64 r.1) ∧ Mem w (bs [C_o]) [⟨C_o, 110, row encGHammer r.2 C_sp⟩] w') := by
  subst C_hn
  rw [laws_markFrame] at h
  refine enter (args := [(.agg #[(.int .i16 a0.fSteps), (.slice (C_o.map fun b => ⟨b, 0, none⟩) a0.fHammers.length C_c)]), (.int .i64 k1)]) Try.func19 rfl Try.ntmps19 (by kernel_rfl) (L := [⟨C_o, 110, row encGHammer a0.fHammers C_sp⟩]) (W := bs [C_o]) hm0 ?_
  refine jc_seq (jc_region (tO (qa 0 (fun b_1 => jkO (qh [0] (qe (jx_then (jc_seq (jc_region (qh [0,1,0] ?_))))))))))
  obtain ⟨t_1, ht_2, h⟩ := bd h
  refine tO (pc 0 (fun w hm => laws_markHammerS.calls a0.fHammers k1 w _ C_o rfl C_hs C_ho (hm.pass (N := [⟨C_o, 110, row encGHammer a0.fHammers C_sp⟩]) [0] (by kernel_rfl) (by kernel_rfl)) ht_2) ?_)
  rintro w v w' hm ⟨hn_3, ho_4, rfl, hm'⟩
  refine ⟨_, hm.appW (ps := [(0, ⟨C_o, 110, row encGHammer t_1.2 C_sp⟩)]) (N := []) hm' (by kernel_rfl) (by kernel_rfl), jkO ?_⟩
  clear hm hm'
  refine qh [0] (qe (jx_then (jc_seq (jc_region (qh [0,0] (qe (jx_then (jc_ret ?_))))))))
  obtain rfl := Option.some.inj h
  exact qr [] (fun w hm => ⟨hn_3, ho_4, rfl, hm.pk [0]⟩)
/-! ### laws.markDrumS -/
def laws_markDrumS.k_3 (xs_1 : List (Arr 96 Int)) (i_2 : Int) : Option (Int × (List (Arr 96 Int))) := some (i_2, xs_1)
def laws_markDrumS.k_11 (i_6 : Int) (xs_9 : List (Arr 96 Int)) (i_10 : Int) : Option (((List (Arr 96 Int)) × Int × Int) ⊕ (((List (Arr 96 Int)) × Int))) := some (.inl (xs_9, i_10, (w64 (i_6 + 1))))
def laws_markDrumS.l_15 (i_6 : Int) : ((List (Arr 96 Int)) × Int × Int) → Option (((List (Arr 96 Int)) × Int × Int) ⊕ (((List (Arr 96 Int)) × Int)))
  | (xs_12, i_13, i_14) => (if (decide (i_14 < 96)) = true then (ix xs_12 i_6).bind fun x_17 => (ix x_17.1 i_14).bind fun x_18 => some (.inl ((xs_12.set i_6.toNat (Arr.set x_17 i_14 (u32 i_13))), (w64 (i_13 + 1)), (w64 (i_14 + 1)))) else some (.inr (xs_12, i_13)))
def laws_markDrumS.l_7 (a0 : List (Arr 96 Int)) : ((List (Arr 96 Int)) × Int × Int) → Option (((List (Arr 96 Int)) × Int × Int) ⊕ (((List (Arr 96 Int)) × Int)))
  | (xs_4, i_5, i_6) => (if (decide (i_6 < (a0.length : Int))) = true then (loop (laws_markDrumS.l_15 i_6) (xs_4, i_5, 0)).bind fun t_16 => laws_markDrumS.k_11 i_6 t_16.1 t_16.2 else some (.inr (xs_4, i_5)))
def laws_markDrumS (a0 : List (Arr 96 Int)) (k1 : Int) : Option (Int × (List (Arr 96 Int))) := (loop (laws_markDrumS.l_7 a0) (a0, k1, 0)).bind fun t_8 => laws_markDrumS.k_3 t_8.1 t_8.2
theorem laws_markDrumS.calls (a0 : List (Arr 96 Int)) (k1 : Int) (w : World) (r : Int × (List (Arr 96 Int))) (A_o : Option Nat) {A_on : Nat} {A_c : Nat} {A_sp : List Value} (A_hn : a0.length = A_on) (A_hs : A_o ≠ none → A_on ≤ A_c ∧ A_sp.length = (A_c - A_on) * 96) (A_ho : A_o = none → a0 = [] ∧ A_c = 0) (hm0 : Mem w (bs [A_o]) [⟨A_o, 88, row encA96U32 a0 A_sp⟩] w) (h : laws_markDrumS a0 k1 = some r) :
    Calls Try.prog 20 #[(.slice (A_o.map fun b => ⟨b, 0, none⟩) A_on A_c), (.int .i64 k1)] w fun e w' => ∃ v, e = .returned v ∧ (r.2.length = A_on ∧ (A_o = none → r.2 = [] ∧ A_c = 0) ∧ v = (.int .i64 r.1) ∧ Mem w (bs [A_o]) [⟨A_o, 88, row encA96U32 r.2 A_sp⟩] w') := by
  subst A_hn
  rw [laws_markDrumS] at h
  refine enter (args := [(.slice (A_o.map fun b => ⟨b, 0, none⟩) a0.length A_c), (.int .i64 k1)]) Try.func20 rfl Try.ntmps20 (by kernel_rfl) (L := [⟨A_o, 88, row encA96U32 a0 A_sp⟩]) (W := bs [A_o]) hm0 ?_
  refine jc_seq (jc_region (qh [0] (qe (jx_then (jc_seq (jc_seq (jc_region (qh [0] (qe (jx_then (jc_meet (fun (j : (List (Arr 96 Int)) × Int) => match j with | ⟨xs_1, i_2⟩ => laws_markDrumS.k_3 xs_1 i_2 = some r ∧ (xs_1.length = a0.length) ∧ ((A_o = none → xs_1 = [] ∧ A_c = 0))) (fun (j : (List (Arr 96 Int)) × Int) => match j with | ⟨xs_1, i_2⟩ => [(1, [], (.int .i64 i_2)), (4, [], (.int .i64 0))]) (fun (j : (List (Arr 96 Int)) × Int) => match j with | ⟨xs_1, i_2⟩ => [⟨A_o, 88, row encA96U32 xs_1 A_sp⟩]) ?_ ?_)))))))))))
  ·refine jc_block ?_
   obtain ⟨t_8, ht_564, hr_517⟩ := bd h
   refine jc_loop (fun (s : (List (Arr 96 Int)) × Int × Int) (x : Unit) => match s, x with | ⟨xs_4, i_5, i_6⟩, _ => (xs_4.length = a0.length) ∧ ((A_o = none → xs_4 = [] ∧ A_c = 0))) (fun (s : (List (Arr 96 Int)) × Int × Int) (x : Unit) => match s, x with | ⟨xs_4, i_5, i_6⟩, _ => [(0, [], (.slice (A_o.map fun b => ⟨b, 0, none⟩) a0.length A_c)), (1, [], (.int .i64 i_5)), (4, [], (.int .i64 0)), (5, [], (.int .i64 i_6))]) (fun (s : (List (Arr 96 Int)) × Int × Int) (x : Unit) => match s, x with | ⟨xs_4, i_5, i_6⟩, _ => [⟨A_o, 88, row encA96U32 xs_4 A_sp⟩]) ht_564 () ⟨rfl, A_ho⟩ (by kernel_rfl) [0] (by kernel_rfl) (by kernel_rfl) ?_
   rintro ⟨xs_4, i_5, i_6⟩ _ y_518 ⟨hn_516, ho_515⟩ h
   rw [laws_markDrumS.l_7] at h
   refine jc_seq (jc_seq (jc_region (qh [0,0,0,0] (qe (jx_then (qi h (fun h => ?_) (fun h => ?_)))))))
   ·refine jc_skip (jx_then (jc_seq (jc_block (jc_seq (jc_region (qh [0] (qe (jx_then (jc_meet (fun (j : (List (Arr 96 Int)) × Int) => match j with | ⟨xs_9, i_10⟩ => laws_markDrumS.k_11 i_6 xs_9 i_10 = some y_518 ∧ (xs_9.length = a0.length) ∧ ((A_o = none → xs_9 = [] ∧ A_c = 0))) (fun (j : (List (Arr 96 Int)) × Int) => match j with | ⟨xs_9, i_10⟩ => [(0, [], (.slice (A_o.map fun b => ⟨b, 0, none⟩) a0.length A_c)), (1, [], (.int .i64 i_10)), (4, [], (.int .i64 0)), (5, [], (.int .i64 i_6))]) (fun (j : (List (Arr 96 Int)) × Int) => match j with | ⟨xs_9, i_10⟩ => [⟨A_o, 88, row encA96U32 xs_9 A_sp⟩]) ?_ ?_)))))))))
    ·refine jc_block ?_
     obtain ⟨t_16, ht_562, hr_555⟩ := bd h
     refine jc_loop (fun (s : (List (Arr 96 Int)) × Int × Int) (x : Unit) => match s, x with | ⟨xs_12, i_13, i_14⟩, _ => (xs_12.length = a0.length) ∧ ((A_o = none → xs_12 = [] ∧ A_c = 0))) (fun (s : (List (Arr 96 Int)) × Int × Int) (x : Unit) => match s, x with | ⟨xs_12, i_13, i_14⟩, _ => [(0, [], (.slice (A_o.map fun b => ⟨b, 0, none⟩) a0.length A_c)), (1, [], (.int .i64 i_13)), (4, [], (.int .i64 0)), (5, [], (.int .i64 i_6)), (6, [], (.int .i64 i_14))]) (fun (s : (List (Arr 96 Int)) × Int × Int) (x : Unit) => match s, x with | ⟨xs_12, i_13, i_14⟩, _ => [⟨A_o, 88, row encA96U32 xs_12 A_sp⟩]) ht_562 () ⟨hn_516, ho_515⟩ (by kernel_rfl) [0] (by kernel_rfl) (by kernel_rfl) ?_
     rintro ⟨xs_12, i_13, i_14⟩ _ y_556 ⟨hn_554, ho_553⟩ h
     rw [laws_markDrumS.l_15] at h
     refine jc_seq (jc_seq (jc_region (qh [0,0] (qe (jx_then (qi h (fun h => ?_) (fun h => ?_)))))))
     ·refine jc_skip (jx_then (jc_seq (jc_block (jc_seq (jc_region (qh [0,0,0,0,0] ?_))))))
      obtain ⟨x_17, hx_559, h⟩ := bd h
      refine tO (qx 0 (A_o.map fun b => ⟨b, 0, none⟩) 96 hx_559 hn_554 (spo ho_553 hx_559) (jkO ?_))
      obtain ⟨x_18, hx_560, h⟩ := bd h
      exact tO (p_v 0 (by kernel_rfl) _ (fun w hm => idx_run (a := some ⟨aB (A_o.map fun b => ⟨b, 0, none⟩), aO (A_o.map fun b => ⟨b, 0, none⟩) + i_6.toNat * 96, none⟩) (len := 96) (s := 1) (j := i_14) (by kernel_rfl) (ix_some hx_560).1 (ltn hx_560 x_17.2) rfl) (jkO (tO (p_strA 0 0 A_o 88 encA96U32 encU32 xs_12 A_sp i_6 i_14 (u32 i_13) 96 1 [(.int .u32 (u32 i_13))] (by kernel_rfl) (by kernel_rfl) (by kernel_rfl) (fun e => (ho_553 e).1) encA96U32_len encU32_len hx_559 hx_560 (by kernel_rfl) (by kernel_rfl) (jkO (qe (jx_then (jc_region (qh [0,0,0] (qe (jx_inn (jx_then (jc_region (qh [0,0,0] (qe (qb ((xs_12.set i_6.toNat (Arr.set x_17 i_14 (u32 i_13))), (w64 (i_13 + 1)), (w64 (i_14 + 1))) () h ⟨(List.length_set.trans hn_554), (set_ho ho_553)⟩ [0]))))))))))))))))
     ·refine jc_exit (jx_thenx (jx_leave (xs_12, i_13) (Option.some.inj h).symm (fun e_561 => ?_)))
      subst e_561
      exact jx_ine (qm ⟨xs_12, i_13⟩ ⟨hr_555, hn_554, ho_553⟩ [0])
    ·rintro ⟨xs_9, i_10⟩ ⟨h, hn_542, ho_541⟩
     replace h : laws_markDrumS.k_11 i_6 xs_9 i_10 = some y_518 := h
     rw [laws_markDrumS.k_11] at h
     exact jx_inn (jx_then (jc_region (qh [0,0,0] (qe (qb (xs_9, i_10, (w64 (i_6 + 1))) () h ⟨hn_542, ho_541⟩ [0])))))
   ·refine jc_exit (jx_thenx (jx_leave (xs_4, i_5) (Option.some.inj h).symm (fun e_563 => ?_)))
    subst e_563
    exact jx_ine (qm ⟨xs_4, i_5⟩ ⟨hr_517, hn_516, ho_515⟩ [0])
  ·rintro ⟨xs_1, i_2⟩ ⟨h, hn_424, ho_423⟩
   replace h : laws_markDrumS.k_3 xs_1 i_2 = some r := h
   rw [laws_markDrumS.k_3] at h
   refine jx_then (jc_seq (jc_region (qh [0,0] (qe (jx_then (jc_ret ?_))))))
   obtain rfl := Option.some.inj h
   exact qr [] (fun w hm => ⟨hn_424, ho_423, rfl, hm.pk [0]⟩)
/-! ### laws.markInt64S -/
def laws_markInt64S.k_3 (xs_1 : List Int) (i_2 : Int) : Option (Int × (List Int)) := some (i_2, xs_1)
def laws_markInt64S.l_7 (a0 : List Int) : ((List Int) × Int × Int) → Option (((List Int) × Int × Int) ⊕ (((List Int) × Int)))
  | (xs_4, i_5, i_6) => (if (decide (i_6 < (a0.length : Int))) = true then (ix xs_4 i_6).bind fun x_9 => some (.inl ((xs_4.set i_6.toNat i_5), (w64 (i_5 + 1)), (w64 (i_6 + 1)))) else some (.inr (xs_4, i_5)))
def laws_markInt64S (a0 : List Int) (k1 : Int) : Option (Int × (List Int)) := (loop (laws_markInt64S.l_7 a0) (a0, k1, 0)).bind fun t_8 => laws_markInt64S.k_3 t_8.1 t_8.2
theorem laws_markInt64S.calls (a0 : List Int) (k1 : Int) (w : World) (r : Int × (List Int)) (A_o : Option Nat) {A_on : Nat} {A_c : Nat} {A_sp : List Value} (A_hn : a0.length = A_on) (A_hs : A_o ≠ none → A_on ≤ A_c ∧ A_sp.length = (A_c - A_on) * 1) (A_ho : A_o = none → a0 = [] ∧ A_c = 0) (hm0 : Mem w (bs [A_o]) [⟨A_o, 2, row encI64 a0 A_sp⟩] w) (h : laws_markInt64S a0 k1 = some r) :
    Calls Try.prog 21 #[(.slice (A_o.map fun b => ⟨b, 0, none⟩) A_on A_c), (.int .i64 k1)] w fun e w' => ∃ v, e = .returned v ∧ (r.2.length = A_on ∧ (A_o = none → r.2 = [] ∧ A_c = 0) ∧ v = (.int .i64 r.1) ∧ Mem w (bs [A_o]) [⟨A_o, 2, row encI64 r.2 A_sp⟩] w') := by
  subst A_hn
  rw [laws_markInt64S] at h
  refine enter (args := [(.slice (A_o.map fun b => ⟨b, 0, none⟩) a0.length A_c), (.int .i64 k1)]) Try.func21 rfl Try.ntmps21 (by kernel_rfl) (L := [⟨A_o, 2, row encI64 a0 A_sp⟩]) (W := bs [A_o]) hm0 ?_
  refine jc_seq (jc_region (qh [0] (qe (jx_then (jc_seq (jc_seq (jc_region (qh [0] (qe (jx_then (jc_meet (fun (j : (List Int) × Int) => match j with | ⟨xs_1, i_2⟩ => laws_markInt64S.k_3 xs_1 i_2 = some r ∧ (xs_1.length = a0.length) ∧ ((A_o = none → xs_1 = [] ∧ A_c = 0))) (fun (j : (List Int) × Int) => match j with | ⟨xs_1, i_2⟩ => [(1, [], (.int .i64 i_2)), (4, [], (.int .i64 0))]) (fun (j : (List Int) × Int) => match j with | ⟨xs_1, i_2⟩ => [⟨A_o, 2, row encI64 xs_1 A_sp⟩]) ?_ ?_)))))))))))
  ·refine jc_block ?_
   obtain ⟨t_8, ht_72, hr_66⟩ := bd h
   refine jc_loop (fun (s : (List Int) × Int × Int) (x : Unit) => match s, x with | ⟨xs_4, i_5, i_6⟩, _ => (xs_4.length = a0.length) ∧ ((A_o = none → xs_4 = [] ∧ A_c = 0))) (fun (s : (List Int) × Int × Int) (x : Unit) => match s, x with | ⟨xs_4, i_5, i_6⟩, _ => [(0, [], (.slice (A_o.map fun b => ⟨b, 0, none⟩) a0.length A_c)), (1, [], (.int .i64 i_5)), (4, [], (.int .i64 0)), (5, [], (.int .i64 i_6))]) (fun (s : (List Int) × Int × Int) (x : Unit) => match s, x with | ⟨xs_4, i_5, i_6⟩, _ => [⟨A_o, 2, row encI64 xs_4 A_sp⟩]) ht_72 () ⟨rfl, A_ho⟩ (by kernel_rfl) [0] (by kernel_rfl) (by kernel_rfl) ?_
   rintro ⟨xs_4, i_5, i_6⟩ _ y_67 ⟨hn_65, ho_64⟩ h
   rw [laws_markInt64S.l_7] at h
   refine jc_seq (jc_seq (jc_region (qh [0,0,0,0] (qe (jx_then (qi h (fun h => ?_) (fun h => ?_)))))))
   ·refine jc_skip (jx_then (jc_seq (jc_block (jc_seq (jc_region (qh [0,0,0] ?_))))))
    obtain ⟨x_9, hx_70, h⟩ := bd h
    exact tO (qx 0 (A_o.map fun b => ⟨b, 0, none⟩) 1 hx_70 hn_65 (spo ho_64 hx_70) (jkO (tO (p_strO 0 0 A_o 2 encI64 xs_4 A_sp i_6 i_5 1 0 [(.int .i64 i_5)] (by kernel_rfl) (by kernel_rfl) (by kernel_rfl) (fun e => (ho_64 e).1) encI64_len hx_70 (by kernel_rfl) (by kernel_rfl) (jkO (qe (jx_then (jc_region (qh [0,0,0] (qe (jx_inn (jx_then (jc_region (qh [0,0,0] (qe (qb ((xs_4.set i_6.toNat i_5), (w64 (i_5 + 1)), (w64 (i_6 + 1))) () h ⟨(List.length_set.trans hn_65), (set_ho ho_64)⟩ [0]))))))))))))))))
   ·refine jc_exit (jx_thenx (jx_leave (xs_4, i_5) (Option.some.inj h).symm (fun e_71 => ?_)))
    subst e_71
    exact jx_ine (qm ⟨xs_4, i_5⟩ ⟨hr_66, hn_65, ho_64⟩ [0])
  ·rintro ⟨xs_1, i_2⟩ ⟨h, hn_55, ho_54⟩
   replace h : laws_markInt64S.k_3 xs_1 i_2 = some r := h
   rw [laws_markInt64S.k_3] at h
   refine jx_then (jc_seq (jc_region (qh [0,0] (qe (jx_then (jc_ret ?_))))))
   obtain rfl := Option.some.inj h
   exact qr [] (fun w hm => ⟨hn_55, ho_54, rfl, hm.pk [0]⟩)
/-! ### laws.heldInt64S -/
def laws_heldInt64S.k_2 (i_1 : Int) : Option (Int) := some i_1
def laws_heldInt64S.l_5 (a0 : List Int) : (Int × Int) → Option ((Int × Int) ⊕ (Int ⊕ Int))
  | (i_3, i_4) => (if (decide (i_4 < (a0.length : Int))) = true then (ix a0 i_4).bind fun x_7 => (if (x_7 != i_3) = true then some (.inr (.inl (-1))) else some (.inl ((w64 (i_3 + 1)), (w64 (i_4 + 1))))) else some (.inr (.inr i_3)))
def laws_heldInt64S (a0 : List Int) (k1 : Int) : Option (Int) := (loop (laws_heldInt64S.l_5 a0) (k1, 0)).bind fun t_6 => match t_6 with | .inl p => some p | .inr p => laws_heldInt64S.k_2 p
theorem laws_heldInt64S.calls (a0 : List Int) (k1 : Int) (w : World) (r : Int) {A_a : Option Addr} {A_an : Nat} (A_c : Nat) (A_h : Rw w A_a 1 encI64 a0) (A_hn : a0.length = A_an) (h : laws_heldInt64S a0 k1 = some r) :
    Calls Try.prog 22 #[(.slice A_a A_an A_c), (.int .i64 k1)] w fun e w' => ∃ v, e = .returned v ∧ (v = (.int .i64 r) ∧ Mem w [] [] w') := by
  subst A_hn
  rw [laws_heldInt64S] at h
  refine enter (args := [(.slice A_a a0.length A_c), (.int .i64 k1)]) Try.func22 rfl Try.ntmps22 (by kernel_rfl) (L := []) (W := []) (Mem.start w) ?_
  refine jc_seq (jc_region (qh [0] (qe (jx_then (jc_seq (jc_seq (jc_region (qh [0] (qe (jx_then (jc_meet (fun (j : Int) => match j with | i_1 => laws_heldInt64S.k_2 i_1 = some r) (fun (j : Int) => match j with | i_1 => [(1, [], (.int .i64 i_1)), (4, [], (.int .i64 0))]) (fun (j : Int) => match j with | i_1 => []) ?_ ?_)))))))))))
  ·refine jc_block ?_
   obtain ⟨t_6, ht_68, hr_60⟩ := bd h
   refine jc_loop (fun (s : Int × Int) (x : Unit) => match s, x with | ⟨i_3, i_4⟩, _ => True) (fun (s : Int × Int) (x : Unit) => match s, x with | ⟨i_3, i_4⟩, _ => [(0, [], (.slice A_a a0.length A_c)), (1, [], (.int .i64 i_3)), (4, [], (.int .i64 0)), (5, [], (.int .i64 i_4))]) (fun (s : Int × Int) (x : Unit) => match s, x with | ⟨i_3, i_4⟩, _ => []) ht_68 () trivial (by kernel_rfl) [] (by kernel_rfl) (by kernel_rfl) ?_
   rintro ⟨i_3, i_4⟩ _ y_61 _ h
   rw [laws_heldInt64S.l_5] at h
   refine jc_seq (jc_seq (jc_region (qh [0,0,0,0] (qe (jx_then (qi h (fun h => ?_) (fun h => ?_)))))))
   ·refine jc_skip (jx_then (jc_seq (jc_block (jc_seq (jc_seq (jc_region (qh [0,0] ?_)))))))
    obtain ⟨x_7, hx_64, h⟩ := bd h
    refine tO (qx 0 A_a 1 hx_64 rfl (A_h.sp hx_64) (jkO (tO (ql 0 false (fun w hm => ((hm.xr A_h).at hx_64)) (jkO (qh [0,0] (qe (jx_then (qi h (fun h => ?_) (fun h => ?_))))))))))
    ·refine jc_seq (jc_region (qh [0] (qe (jx_then (jc_ret (jx_thenr (jx_inr (jx_thenr (jx_leaver (.inl (-1)) (Option.some.inj h).symm (fun e_66 => ?_))))))))))
     subst e_66
     refine jx_inr (jx_thenr (jx_thenr ?_))
     obtain rfl := Option.some.inj hr_60
     exact qr [] (fun w hm => ⟨rfl, hm.pk []⟩)
    ·exact jc_skip (jx_then (jc_region (qh [0,0,0] (qe (jx_inn (jx_then (jc_region (qh [0,0,0] (qe (qb ((w64 (i_3 + 1)), (w64 (i_4 + 1))) () h trivial []))))))))))
   ·refine jc_exit (jx_thenx (jx_leave (.inr i_3) (Option.some.inj h).symm (fun e_67 => ?_)))
    subst e_67
    exact jx_ine (qm i_3 hr_60 [])
  ·rintro i_1 h
   replace h : laws_heldInt64S.k_2 i_1 = some r := h
   rw [laws_heldInt64S.k_2] at h
   refine jx_then (jc_seq (jc_region (qh [0,0] (qe (jx_then (jc_ret ?_))))))
   obtain rfl := Option.some.inj h
   exact qr [] (fun w hm => ⟨rfl, hm.pk []⟩)
end

end Go.Proofs.Yteedohcicmgkaaa
