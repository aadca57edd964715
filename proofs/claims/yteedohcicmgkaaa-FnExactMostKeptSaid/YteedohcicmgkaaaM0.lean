/- Functions of the program that the laws reach: a plain function each, and that the call comes to its answer if the plain function has one. Printed by a program. -/
import Derived.Test.YteedohcicmgkaaaT
import Derived.Test.YteedohcicmgkaaaTab
namespace Go.Proofs.Yteedohcicmgkaaa
open Eng
set_option linter.unusedVariables false

set_option linter.unusedSectionVars false
set_option maxRecDepth 100000
variable [dsW : DrwS]
noncomputable section
/-! ### laws.szHammerS -/
def laws_szHammerS (a0 : List GHammer) (left1 : Int) : Option (Int) := (if (decide ((w64 (left1 - (a0.length : Int))) < 0)) = true then some (-1) else some (w64 (left1 - (a0.length : Int))))
theorem laws_szHammerS.calls (a0 : List GHammer) (left1 : Int) (w : World) (r : Int) {A_a : Option Addr} {A_an : Nat} (A_c : Nat) (A_h : Rw w A_a 2 encGHammer a0) (A_hn : a0.length = A_an) (h : laws_szHammerS a0 left1 = some r) :
    Calls Try.prog 48 #[(.slice A_a A_an A_c), (.int .i64 left1)] w fun e w' => ∃ v, e = .returned v ∧ (v = (.int .i64 r) ∧ Mem w [] [] w') := by
  subst A_hn
  rw [laws_szHammerS] at h
  refine enter (args := [(.slice A_a a0.length A_c), (.int .i64 left1)]) Try.func48 rfl Try.ntmps48 (by kernel_rfl) (L := []) (W := []) (Mem.start w) ?_
  refine jc_seq (jc_region (qh [0] (qe (jx_then (jc_seq (jc_region (qh [0,0,0,0,0] (qe (jx_then (jc_seq (jc_seq (jc_region (qh [0,0] (qe (jx_then (qi h (fun h => ?_) (fun h => ?_)))))))))))))))))
  ·refine jc_seq (jc_region (qh [0] (qe (jx_then (jc_ret (jx_thenr ?_))))))
   obtain rfl := Option.some.inj h
   exact qr [] (fun w hm => ⟨rfl, hm.pk []⟩)
  ·refine jc_skip (jx_then (jc_seq (jc_region (qh [0,0] (qe (jx_then (jc_ret ?_)))))))
   obtain rfl := Option.some.inj h
   exact qr [] (fun w hm => ⟨rfl, hm.pk []⟩)
/-! ### laws.szFrame -/
def laws_szFrame (a0 : GFrame) (left1 : Int) : Option (Int) := (laws_szHammerS a0.fHammers left1).bind fun t_1 => (if (decide (t_1 < 0)) = true then some (-1) else some t_1)
theorem laws_szFrame.calls (a0 : GFrame) (left1 : Int) (w : World) (r : Int) {C_a : Option Addr} {C_an : Nat} (C_c : Nat) (C_h : Rw w C_a 2 encGHammer a0.fHammers) (C_hn : a0.fHammers.length = C_an) (h : laws_szFrame a0 left1 = some r) :
    Calls Try.prog 10 #[(.agg #[(.int .i16 a0.fSteps), (.slice C_a C_an C_c)]), (.int .i64 left1)] w fun e w' => ∃ v, e = .returned v ∧ (v = (.int .i64 r) ∧ Mem w [] [] w') := by
  subst C_hn
  rw [laws_szFrame] at h
  refine enter (args := [(.agg #[(.int .i16 a0.fSteps), (.slice C_a a0.fHammers.length C_c)]), (.int .i64 left1)]) Try.func10 rfl Try.ntmps10 (by kernel_rfl) (L := []) (W := []) (Mem.start w) ?_
  refine jc_seq (jc_region (tO (qa 0 (fun b_1 => jkO (qh [0] (qe (jx_then (jc_seq (jc_region (qh [0,0,0] ?_))))))))))
  obtain ⟨t_1, ht_2, h⟩ := bd h
  refine tO (pc 0 (fun w hm => laws_szHammerS.calls a0.fHammers left1 w _ C_c (hm.xr C_h) rfl ht_2) ?_)
  rintro w v w' hm ⟨rfl, hm'⟩
  refine ⟨_, hm.app hm', jkO ?_⟩
  clear hm hm'
  refine qh [0] (qe (jx_then (jc_seq (jc_seq (jc_region (qh [0,0] (qe (jx_then (qi h (fun h => ?_) (fun h => ?_))))))))))
  ·refine jc_seq (jc_region (qh [0] (qe (jx_then (jc_ret (jx_thenr ?_))))))
   obtain rfl := Option.some.inj h
   exact qr [] (fun w hm => ⟨rfl, hm.pk []⟩)
  ·refine jc_skip (jx_then (jc_seq (jc_region (qh [0,0] (qe (jx_then (jc_ret ?_)))))))
   obtain rfl := Option.some.inj h
   exact qr [] (fun w hm => ⟨rfl, hm.pk []⟩)
/-! ### laws.szTune -/
def laws_szTune (a0 : List GNote) (left1 : Int) : Option (Int) := (if (decide ((w64 (left1 - (a0.length : Int))) < 0)) = true then some (-1) else some (w64 (left1 - (a0.length : Int))))
theorem laws_szTune.calls (a0 : List GNote) (left1 : Int) (w : World) (r : Int) {A_a : Option Addr} {A_an : Nat} (A_c : Nat) (A_h : Rw w A_a 2 encGNote a0) (A_hn : a0.length = A_an) (h : laws_szTune a0 left1 = some r) :
    Calls Try.prog 25 #[(.slice A_a A_an A_c), (.int .i64 left1)] w fun e w' => ∃ v, e = .returned v ∧ (v = (.int .i64 r) ∧ Mem w [] [] w') := by
  subst A_hn
  rw [laws_szTune] at h
  refine enter (args := [(.slice A_a a0.length A_c), (.int .i64 left1)]) Try.func25 rfl Try.ntmps25 (by kernel_rfl) (L := []) (W := []) (Mem.start w) ?_
  refine jc_seq (jc_region (qh [0] (qe (jx_then (jc_seq (jc_region (qh [0,0,0,0,0] (qe (jx_then (jc_seq (jc_seq (jc_region (qh [0,0] (qe (jx_then (qi h (fun h => ?_) (fun h => ?_)))))))))))))))))
  ·refine jc_seq (jc_region (qh [0] (qe (jx_then (jc_ret (jx_thenr ?_))))))
   obtain rfl := Option.some.inj h
   exact qr [] (fun w hm => ⟨rfl, hm.pk []⟩)
  ·refine jc_skip (jx_then (jc_seq (jc_region (qh [0,0] (qe (jx_then (jc_ret ?_)))))))
   obtain rfl := Option.some.inj h
   exact qr [] (fun w hm => ⟨rfl, hm.pk []⟩)
/-! ### laws.toHammer -/
def laws_toHammer (a0 : GHammer) : Option (GHammer) := some a0
theorem laws_toHammer.calls (a0 : GHammer) (w : World) (r : GHammer) (h : laws_toHammer a0 = some r) :
    Calls Try.prog 105 #[(.agg #[(.int .i8 a0.fPitch), (.int .i8 a0.fReady)])] w fun e w' => ∃ v, e = .returned v ∧ (v = .agg #[(.int .i8 r.fPitch), (.int .i8 r.fReady)] ∧ Mem w [] [] w') := by
  rw [laws_toHammer] at h
  refine enter (args := [(.agg #[(.int .i8 a0.fPitch), (.int .i8 a0.fReady)])]) Try.func105 rfl Try.ntmps105 (by kernel_rfl) (L := []) (W := []) (Mem.start w) ?_
  refine jc_seq (jc_region (tO (qa 0 (fun b_1 => jkO (tO (qa 0 (fun b_2 => jkO (qe (jx_then (jc_seq (jc_region (tO (qa 0 (fun b_3 => jkO (qe (jx_then (jc_seq (jc_region (qh [0,0,0] (tO (qs 0 [2] (jkO (qe (jx_then (jc_seq (jc_region (qh [0,0,0] (tO (qs 0 [2] (jkO (qe (jx_then (jc_seq (jc_region (qh [2] (tO (qs 0 [1] (jkO (qe (jx_then (jc_ret ?_)))))))))))))))))))))))))))))))))))))))))
  obtain rfl := Option.some.inj h
  exact qr [1] (fun w hm => ⟨rfl, hm.pk []⟩)
/-! ### laws.toHammerS -/
def laws_toHammerS.k_2 (xs_1 : List GHammer) : Option ((List GHammer)) := some xs_1
def laws_toHammerS.l_5 (a0 : List GHammer) : ((List GHammer) × Int) → Option (((List GHammer) × Int) ⊕ ((List GHammer)))
  | (xs_3, i_4) => (if (decide (i_4 < (a0.length : Int))) = true then (ix a0 i_4).bind fun x_7 => (laws_toHammer x_7).bind fun t_8 => (ix xs_3 i_4).bind fun x_9 => some (.inl ((xs_3.set i_4.toNat t_8), (w64 (i_4 + 1)))) else some (.inr xs_3))
def laws_toHammerS (a0 : List GHammer) : Option ((List GHammer)) := (if 0 ≤ (a0.length : Int) ∧ (a0.length : Int) ≤ 70368744177664 then (loop (laws_toHammerS.l_5 a0) ((List.replicate (a0.length : Int).toNat (⟨0, 0⟩ : GHammer)), 0)).bind fun t_6 => laws_toHammerS.k_2 t_6 else none)
theorem laws_toHammerS.calls (a0 : List GHammer) (w : World) (r : (List GHammer)) {A_a : Option Addr} {A_an : Nat} (A_c : Nat) (A_h : Rw w A_a 2 encGHammer a0) (A_hn : a0.length = A_an) (h : laws_toHammerS a0 = some r) :
    Calls Try.prog 52 #[(.slice A_a A_an A_c)] w fun e w' => ∃ v, e = .returned v ∧ (∃ (o0 : Option Nat) (c0 : Nat) (s0 : List Value) (n0 : Nat), r.length = n0 ∧ (o0 ≠ none → n0 ≤ c0 ∧ s0.length = (c0 - n0) * 2) ∧ (o0 = none → r = [] ∧ c0 = 0) ∧ v = .slice (o0.map fun b => ⟨b, 0, none⟩) n0 c0 ∧ Mem w [] [⟨o0, 110, row encGHammer r s0⟩] w') := by
  subst A_hn
  rw [laws_toHammerS] at h
  refine enter (args := [(.slice A_a a0.length A_c)]) Try.func52 rfl Try.ntmps52 (by kernel_rfl) (L := []) (W := []) (Mem.start w) ?_
  refine jc_seq (jc_region (qh [0] (qe (jx_then (jc_seq (jc_region (qh [0,0] ?_)))))))
  obtain ⟨hg_88, h⟩ := gd h
  refine tO (p_mk 0 110 (a0.length : Int) 2 2 encGHammer (⟨0, 0⟩ : GHammer) (by kernel_rfl) (by kernel_rfl) hg_88.1 (by omega) (by kernel_rfl) (fun b_1 => jkO (qh [0] (qe (jx_then (jc_seq (jc_seq (jc_region (qh [0] (qe (jx_then (jc_meet (fun (j : (List GHammer)) => match j with | xs_1 => laws_toHammerS.k_2 xs_1 = some r ∧ (xs_1.length = (a0.length : Int).toNat)) (fun (j : (List GHammer)) => match j with | xs_1 => [(2, [], (.slice none 0 0)), (3, [], (.slice (some ⟨b_1, 0, none⟩) ((a0.length : Int).toNat) ((a0.length : Int).toNat)))]) (fun (j : (List GHammer)) => match j with | xs_1 => [⟨(some b_1), 110, row encGHammer xs_1 []⟩]) ?_ ?_))))))))))))
  ·refine jc_block ?_
   obtain ⟨t_6, ht_87, hr_79⟩ := bd h
   refine jc_loop (fun (s : (List GHammer) × Int) (x : Unit) => match s, x with | ⟨xs_3, i_4⟩, _ => (xs_3.length = (a0.length : Int).toNat)) (fun (s : (List GHammer) × Int) (x : Unit) => match s, x with | ⟨xs_3, i_4⟩, _ => [(0, [], (.slice A_a a0.length A_c)), (2, [], (.slice none 0 0)), (3, [], (.slice (some ⟨b_1, 0, none⟩) ((a0.length : Int).toNat) ((a0.length : Int).toNat))), (4, [], (.int .i64 i_4))]) (fun (s : (List GHammer) × Int) (x : Unit) => match s, x with | ⟨xs_3, i_4⟩, _ => [⟨(some b_1), 110, row encGHammer xs_3 []⟩]) ht_87 () List.length_replicate (by kernel_rfl) [0] (by kernel_rfl) (by kernel_rfl) ?_
   rintro ⟨xs_3, i_4⟩ _ y_80 hn_78 h
   rw [laws_toHammerS.l_5] at h
   refine jc_seq (jc_seq (jc_region (qh [0,0,0,0] (qe (jx_then (qi h (fun h => ?_) (fun h => ?_)))))))
   ·refine jc_skip (jx_then (jc_seq (jc_block (jc_region (qh [0,0,0,0] ?_)))))
    obtain ⟨x_7, hx_83, h⟩ := bd h
    refine tO (qx 0 A_a 2 hx_83 rfl (A_h.sp hx_83) (jkO (tO (ql 0 true (fun w hm => ((hm.xr A_h).at hx_83)) (jkO ?_)))))
    obtain ⟨t_8, ht_84, h⟩ := bd h
    refine tO (pc 0 (fun w hm => laws_toHammer.calls x_7 w _ ht_84) ?_)
    rintro w v w' hm ⟨rfl, hm'⟩
    refine ⟨_, hm.app hm', jkO ?_⟩
    clear hm hm'
    obtain ⟨x_9, hx_85, h⟩ := bd h
    exact tO (qx 0 (some ⟨b_1, 0, none⟩) 2 hx_85 hn_78 rfl (jkO (tO (p_str 0 0 b_1 110 encGHammer xs_3 [] i_4 t_8 2 0 [(.int .i8 t_8.fPitch), (.int .i8 t_8.fReady)] (by kernel_rfl) (by kernel_rfl) (by kernel_rfl) encGHammer_len hx_85 (by kernel_rfl) (by kernel_rfl) (jkO (qe (jx_inn (jx_then (jc_region (qh [0,0,0] (qe (qb ((xs_3.set i_4.toNat t_8), (w64 (i_4 + 1))) () h (List.length_set.trans hn_78) [0]))))))))))))
   ·refine jc_exit (jx_thenx (jx_leave xs_3 (Option.some.inj h).symm (fun e_86 => ?_)))
    subst e_86
    exact jx_ine (qm xs_3 ⟨hr_79, hn_78⟩ [0])
  ·rintro xs_1 ⟨h, hn_66⟩
   replace h : laws_toHammerS.k_2 xs_1 = some r := h
   rw [laws_toHammerS.k_2] at h
   refine jx_then (jc_seq (jc_region (qh [0,0] (qe (jx_then (jc_ret ?_))))))
   obtain rfl := Option.some.inj h
   exact qr [] (fun w hm => ⟨(some b_1), ((a0.length : Int).toNat), [], ((a0.length : Int).toNat), hn_66, (fun _ => ⟨Nat.le_refl _, by simp⟩), (fun e => nomatch e), rfl, hm.pk [0]⟩)
/-! ### laws.toFrame -/
def laws_toFrame (a0 : GFrame) : Option (GFrame) := (laws_toHammerS a0.fHammers).bind fun t_1 => some (⟨a0.fSteps, t_1⟩ : GFrame)
theorem laws_toFrame.calls (a0 : GFrame) (w : World) (r : GFrame) {C_a : Option Addr} {C_an : Nat} (C_c : Nat) (C_h : Rw w C_a 2 encGHammer a0.fHammers) (C_hn : a0.fHammers.length = C_an) (h : laws_toFrame a0 = some r) :
    Calls Try.prog 13 #[(.agg #[(.int .i16 a0.fSteps), (.slice C_a C_an C_c)])] w fun e w' => ∃ v, e = .returned v ∧ (∃ (o0 : Option Nat) (c0 : Nat) (s0 : List Value) (n0 : Nat), r.fHammers.length = n0 ∧ (o0 ≠ none → n0 ≤ c0 ∧ s0.length = (c0 - n0) * 2) ∧ (o0 = none → r.fHammers = [] ∧ c0 = 0) ∧ v = .agg #[(.int .i16 r.fSteps), .slice (o0.map fun b => ⟨b, 0, none⟩) n0 c0] ∧ Mem w [] [⟨o0, 110, row encGHammer r.fHammers s0⟩] w') := by
  subst C_hn
  rw [laws_toFrame] at h
  refine enter (args := [(.agg #[(.int .i16 a0.fSteps), (.slice C_a a0.fHammers.length C_c)])]) Try.func13 rfl Try.ntmps13 (by kernel_rfl) (L := []) (W := []) (Mem.start w) ?_
  refine jc_seq (jc_region (tO (qa 0 (fun b_1 => jkO (tO (qa 0 (fun b_2 => jkO (qe (jx_then (jc_seq (jc_region (tO (qa 0 (fun b_3 => jkO (qe (jx_then (jc_seq (jc_region (qh [0,0,0] (tO (qs 0 [2] (jkO (qe (jx_then (jc_seq (jc_region (qh [0,0] ?_)))))))))))))))))))))))))))
  obtain ⟨t_1, ht_4, h⟩ := bd h
  refine tO (pc 0 (fun w hm => laws_toHammerS.calls a0.fHammers w _ C_c (hm.xr C_h) rfl ht_4) ?_)
  rintro w v w' hm ⟨o_5, cap_6, sp_7, _, rfl, hs_8, ho_9, rfl, hm'⟩
  refine ⟨_, hm.app hm', jkO ?_⟩
  clear hm hm'
  refine qh [0] (tO (qs 0 [2] (jkO (qe (jx_then (jc_seq (jc_region (qh [2] (tO (qs 0 [1] (jkO (qe (jx_then (jc_ret ?_))))))))))))))
  obtain rfl := Option.some.inj h
  exact qr [1] (fun w hm => ⟨o_5, cap_6, sp_7, t_1.length, rfl, hs_8, ho_9, rfl, hm.pk [3]⟩)
/-! ### laws.toNote -/
def laws_toNote (a0 : GNote) : Option (GNote) := some a0
theorem laws_toNote.calls (a0 : GNote) (w : World) (r : GNote) (h : laws_toNote a0 = some r) :
    Calls Try.prog 67 #[(.agg #[(.int .i16 a0.fAt), (.int .i8 a0.fPitch)])] w fun e w' => ∃ v, e = .returned v ∧ (v = .agg #[(.int .i16 r.fAt), (.int .i8 r.fPitch)] ∧ Mem w [] [] w') := by
  rw [laws_toNote] at h
  refine enter (args := [(.agg #[(.int .i16 a0.fAt), (.int .i8 a0.fPitch)])]) Try.func67 rfl Try.ntmps67 (by kernel_rfl) (L := []) (W := []) (Mem.start w) ?_
  refine jc_seq (jc_region (tO (qa 0 (fun b_1 => jkO (tO (qa 0 (fun b_2 => jkO (qe (jx_then (jc_seq (jc_region (tO (qa 0 (fun b_3 => jkO (qe (jx_then (jc_seq (jc_region (qh [0,0,0] (tO (qs 0 [2] (jkO (qe (jx_then (jc_seq (jc_region (qh [0,0,0] (tO (qs 0 [2] (jkO (qe (jx_then (jc_seq (jc_region (qh [2] (tO (qs 0 [1] (jkO (qe (jx_then (jc_ret ?_)))))))))))))))))))))))))))))))))))))))))
  obtain rfl := Option.some.inj h
  exact qr [1] (fun w hm => ⟨rfl, hm.pk []⟩)
/-! ### laws.toTune -/
def laws_toTune.k_2 (xs_1 : List GNote) : Option ((List GNote)) := some xs_1
def laws_toTune.l_5 (a0 : List GNote) : ((List GNote) × Int) → Option (((List GNote) × Int) ⊕ ((List GNote)))
  | (xs_3, i_4) => (if (decide (i_4 < (a0.length : Int))) = true then (ix a0 i_4).bind fun x_7 => (laws_toNote x_7).bind fun t_8 => (ix xs_3 i_4).bind fun x_9 => some (.inl ((xs_3.set i_4.toNat t_8), (w64 (i_4 + 1)))) else some (.inr xs_3))
def laws_toTune (a0 : List GNote) : Option ((List GNote)) := (if 0 ≤ (a0.length : Int) ∧ (a0.length : Int) ≤ 35184372088832 then (loop (laws_toTune.l_5 a0) ((List.replicate (a0.length : Int).toNat (⟨0, 0⟩ : GNote)), 0)).bind fun t_6 => laws_toTune.k_2 t_6 else none)
theorem laws_toTune.calls (a0 : List GNote) (w : World) (r : (List GNote)) {A_a : Option Addr} {A_an : Nat} (A_c : Nat) (A_h : Rw w A_a 2 encGNote a0) (A_hn : a0.length = A_an) (h : laws_toTune a0 = some r) :
    Calls Try.prog 27 #[(.slice A_a A_an A_c)] w fun e w' => ∃ v, e = .returned v ∧ (∃ (o0 : Option Nat) (c0 : Nat) (s0 : List Value) (n0 : Nat), r.length = n0 ∧ (o0 ≠ none → n0 ≤ c0 ∧ s0.length = (c0 - n0) * 2) ∧ (o0 = none → r = [] ∧ c0 = 0) ∧ v = .slice (o0.map fun b => ⟨b, 0, none⟩) n0 c0 ∧ Mem w [] [⟨o0, 104, row encGNote r s0⟩] w') := by
  subst A_hn
  rw [laws_toTune] at h
  refine enter (args := [(.slice A_a a0.length A_c)]) Try.func27 rfl Try.ntmps27 (by kernel_rfl) (L := []) (W := []) (Mem.start w) ?_
  refine jc_seq (jc_region (qh [0] (qe (jx_then (jc_seq (jc_region (qh [0,0] ?_)))))))
  obtain ⟨hg_88, h⟩ := gd h
  refine tO (p_mk 0 104 (a0.length : Int) 2 4 encGNote (⟨0, 0⟩ : GNote) (by kernel_rfl) (by kernel_rfl) hg_88.1 (by omega) (by kernel_rfl) (fun b_1 => jkO (qh [0] (qe (jx_then (jc_seq (jc_seq (jc_region (qh [0] (qe (jx_then (jc_meet (fun (j : (List GNote)) => match j with | xs_1 => laws_toTune.k_2 xs_1 = some r ∧ (xs_1.length = (a0.length : Int).toNat)) (fun (j : (List GNote)) => match j with | xs_1 => [(2, [], (.slice none 0 0)), (3, [], (.slice (some ⟨b_1, 0, none⟩) ((a0.length : Int).toNat) ((a0.length : Int).toNat)))]) (fun (j : (List GNote)) => match j with | xs_1 => [⟨(some b_1), 104, row encGNote xs_1 []⟩]) ?_ ?_))))))))))))
  ·refine jc_block ?_
   obtain ⟨t_6, ht_87, hr_79⟩ := bd h
   refine jc_loop (fun (s : (List GNote) × Int) (x : Unit) => match s, x with | ⟨xs_3, i_4⟩, _ => (xs_3.length = (a0.length : Int).toNat)) (fun (s : (List GNote) × Int) (x : Unit) => match s, x with | ⟨xs_3, i_4⟩, _ => [(0, [], (.slice A_a a0.length A_c)), (2, [], (.slice none 0 0)), (3, [], (.slice (some ⟨b_1, 0, none⟩) ((a0.length : Int).toNat) ((a0.length : Int).toNat))), (4, [], (.int .i64 i_4))]) (fun (s : (List GNote) × Int) (x : Unit) => match s, x with | ⟨xs_3, i_4⟩, _ => [⟨(some b_1), 104, row encGNote xs_3 []⟩]) ht_87 () List.length_replicate (by kernel_rfl) [0] (by kernel_rfl) (by kernel_rfl) ?_
   rintro ⟨xs_3, i_4⟩ _ y_80 hn_78 h
   rw [laws_toTune.l_5] at h
   refine jc_seq (jc_seq (jc_region (qh [0,0,0,0] (qe (jx_then (qi h (fun h => ?_) (fun h => ?_)))))))
   ·refine jc_skip (jx_then (jc_seq (jc_block (jc_region (qh [0,0,0,0] ?_)))))
    obtain ⟨x_7, hx_83, h⟩ := bd h
    refine tO (qx 0 A_a 2 hx_83 rfl (A_h.sp hx_83) (jkO (tO (ql 0 true (fun w hm => ((hm.xr A_h).at hx_83)) (jkO ?_)))))
    obtain ⟨t_8, ht_84, h⟩ := bd h
    refine tO (pc 0 (fun w hm => laws_toNote.calls x_7 w _ ht_84) ?_)
    rintro w v w' hm ⟨rfl, hm'⟩
    refine ⟨_, hm.app hm', jkO ?_⟩
    clear hm hm'
    obtain ⟨x_9, hx_85, h⟩ := bd h
    exact tO (qx 0 (some ⟨b_1, 0, none⟩) 2 hx_85 hn_78 rfl (jkO (tO (p_str 0 0 b_1 104 encGNote xs_3 [] i_4 t_8 2 0 [(.int .i16 t_8.fAt), (.int .i8 t_8.fPitch)] (by kernel_rfl) (by kernel_rfl) (by kernel_rfl) encGNote_len hx_85 (by kernel_rfl) (by kernel_rfl) (jkO (qe (jx_inn (jx_then (jc_region (qh [0,0,0] (qe (qb ((xs_3.set i_4.toNat t_8), (w64 (i_4 + 1))) () h (List.length_set.trans hn_78) [0]))))))))))))
   ·refine jc_exit (jx_thenx (jx_leave xs_3 (Option.some.inj h).symm (fun e_86 => ?_)))
    subst e_86
    exact jx_ine (qm xs_3 ⟨hr_79, hn_78⟩ [0])
  ·rintro xs_1 ⟨h, hn_66⟩
   replace h : laws_toTune.k_2 xs_1 = some r := h
   rw [laws_toTune.k_2] at h
   refine jx_then (jc_seq (jc_region (qh [0,0] (qe (jx_then (jc_ret ?_))))))
   obtain rfl := Option.some.inj h
   exact qr [] (fun w hm => ⟨(some b_1), ((a0.length : Int).toNat), [], ((a0.length : Int).toNat), hn_66, (fun _ => ⟨Nat.le_refl _, by simp⟩), (fun e => nomatch e), rfl, hm.pk [0]⟩)
/-! ### spec.l00In -/
def spec_l00In (n0 : Int) (low1 : Int) (high2 : Int) : Option (Bool) := some ((decide (n0 ≥ low1)) && (decide (n0 ≤ high2)))
theorem spec_l00In.calls (n0 : Int) (low1 : Int) (high2 : Int) (w : World) (r : Bool) (h : spec_l00In n0 low1 high2 = some r) :
    Calls Try.prog 78 #[(.int .i64 n0), (.int .i64 low1), (.int .i64 high2)] w fun e w' => ∃ v, e = .returned v ∧ (v = (.bool r) ∧ Mem w [] [] w') := by
  rw [spec_l00In] at h
  refine enter (args := [(.int .i64 n0), (.int .i64 low1), (.int .i64 high2)]) Try.func78 rfl Try.ntmps78 (by kernel_rfl) (L := []) (W := []) (Mem.start w) ?_
  refine jc_seq (jc_region (qh [0] (qe (jx_then (jc_seq (jc_region (qf [(0, 0), (0, 0), (0, 0), (0, 0), (0, 1), (0, 1), (0, 1), (0, 0), (0, 0)] (qe (jx_then (jc_ret ?_))))))))))
  obtain rfl := Option.some.inj h
  exact qr [] (fun w hm => ⟨rfl, hm.pk []⟩)
/-! ### spec.l00Min -/
def spec_l00Min (a0 : Int) (b1 : Int) : Option (Int) := (if (decide (a0 < b1)) = true then some a0 else some b1)
theorem spec_l00Min.calls (a0 : Int) (b1 : Int) (w : World) (r : Int) (h : spec_l00Min a0 b1 = some r) :
    Calls Try.prog 146 #[(.int .i64 a0), (.int .i64 b1)] w fun e w' => ∃ v, e = .returned v ∧ (v = (.int .i64 r) ∧ Mem w [] [] w') := by
  rw [spec_l00Min] at h
  refine enter (args := [(.int .i64 a0), (.int .i64 b1)]) Try.func146 rfl Try.ntmps146 (by kernel_rfl) (L := []) (W := []) (Mem.start w) ?_
  refine jc_seq (jc_region (qh [0] (qe (jx_then (jc_seq (jc_seq (jc_region (qh [0,0,0] (qe (jx_then (qi h (fun h => ?_) (fun h => ?_))))))))))))
  ·refine jc_seq (jc_region (qh [0,0] (qe (jx_then (jc_ret (jx_thenr ?_))))))
   obtain rfl := Option.some.inj h
   exact qr [] (fun w hm => ⟨rfl, hm.pk []⟩)
  ·refine jc_skip (jx_then (jc_seq (jc_region (qh [0,0] (qe (jx_then (jc_ret ?_)))))))
   obtain rfl := Option.some.inj h
   exact qr [] (fun w hm => ⟨rfl, hm.pk []⟩)
/-! ### spec.l02Frame -/
def spec_l02Frame.k_3 : Option (Bool) := some true
def spec_l02Frame.k_9 (i_4 : Int) (q_8 : Bool) : Option ((Int) ⊕ (Bool ⊕ Unit)) := (if q_8 = true then some (.inr (.inl false)) else some (.inl (w64 (i_4 + 1))))
def spec_l02Frame.l_5 (f0 : GFrame) : Int → Option ((Int) ⊕ (Bool ⊕ Unit))
  | i_4 => (if (decide (i_4 < (f0.fHammers.length : Int))) = true then (ix f0.fHammers i_4).bind fun x_7 => (spec_l00In (w64 x_7.fPitch) 0 47).bind fun t_10 => (if (!t_10) = true then spec_l02Frame.k_9 i_4 true else (spec_l00Min 20 (w64 f0.fSteps)).bind fun t_11 => (spec_l00In (w64 x_7.fReady) 1 t_11).bind fun t_12 => spec_l02Frame.k_9 i_4 (!t_12)) else some (.inr (.inr ())))
def spec_l02Frame.k_2 (f0 : GFrame) (q_1 : Bool) : Option (Bool) := (if q_1 = true then some false else (loop (spec_l02Frame.l_5 f0) 0).bind fun t_6 => match t_6 with | .inl p => some p | .inr p => spec_l02Frame.k_3)
def spec_l02Frame (f0 : GFrame) : Option (Bool) := (spec_l00In (w64 f0.fSteps) 2 96).bind fun t_13 => (if (!t_13) = true then spec_l02Frame.k_2 f0 true else (spec_l00In (f0.fHammers.length : Int) 1 24).bind fun t_14 => spec_l02Frame.k_2 f0 (!t_14))
theorem spec_l02Frame.calls (f0 : GFrame) (w : World) (r : Bool) {C_a : Option Addr} {C_an : Nat} (C_c : Nat) (C_h : Rw w C_a 2 encGHammer f0.fHammers) (C_hn : f0.fHammers.length = C_an) (A_b : Nat) (hm0 : Mem w (bs [some A_b]) [⟨some A_b, 34, [(.int .i16 f0.fSteps), (.slice C_a C_an C_c)]⟩] w) (C_ha : f0.fHammers ≠ [] → aB C_a ∉ bs [some A_b]) (h : spec_l02Frame f0 = some r) :
    Calls Try.prog 110 #[(.pointer (some ⟨A_b, 0, none⟩))] w fun e w' => ∃ v, e = .returned v ∧ (v = (.bool r) ∧ Mem w (bs [some A_b]) [⟨some A_b, 34, [(.int .i16 f0.fSteps), (.slice C_a C_an C_c)]⟩] w') := by
  subst C_hn
  rw [spec_l02Frame] at h
  refine enter (args := [(.pointer (some ⟨A_b, 0, none⟩))]) Try.func110 rfl Try.ntmps110 (by kernel_rfl) (L := [⟨some A_b, 34, [(.int .i16 f0.fSteps), (.slice C_a f0.fHammers.length C_c)]⟩]) (W := bs [some A_b]) hm0 ?_
  refine jc_seq (jc_region (qh [0] (qe (jx_then (jc_seq (jc_seq (jc_meet (fun (j : Bool) => match j with | q_1 => spec_l02Frame.k_2 f0 q_1 = some r) (fun (j : Bool) => match j with | q_1 => [(0, [], (.pointer (some ⟨A_b, 0, none⟩))), (2, [], (.bool false)), (20, [], (.bool q_1))]) (fun (j : Bool) => match j with | q_1 => [⟨some A_b, 34, [(.int .i16 f0.fSteps), (.slice C_a f0.fHammers.length C_c)]⟩]) ?_ ?_)))))))
  ·refine jc_region (qh [0,0,0,0,0] ?_)
   obtain ⟨t_13, ht_100, h⟩ := bd h
   refine tO (pc 0 (fun w hm => spec_l00In.calls (w64 f0.fSteps) 2 96 w _ ht_100) ?_)
   rintro w v w' hm ⟨rfl, hm'⟩
   refine ⟨_, hm.app hm', jkO ?_⟩
   clear hm hm'
   refine qf [(0, 0), (0, 0), (0, 1), (0, 1), (0, 1), (0, 1), (0, 1)] (qp 12 h (fun h => ?_) (fun h => ?_))
   ·exact qf [(0, 3), (0, 3), (0, 4)] (qe (qm true h [0]))
   ·obtain ⟨t_14, ht_102, h⟩ := bd h
    refine tO (pc 2 (fun w hm => spec_l00In.calls (f0.fHammers.length : Int) 1 24 w _ ht_102) ?_)
    rintro w v w' hm ⟨rfl, hm'⟩
    refine ⟨_, hm.app hm', jkO ?_⟩
    clear hm hm'
    exact qf [(0, 2), (0, 5)] (qe (qm (!t_14) h [0]))
  ·rintro q_1 h
   replace h : spec_l02Frame.k_2 f0 q_1 = some r := h
   rw [spec_l02Frame.k_2] at h
   refine jx_then (qi h (fun h => ?_) (fun h => ?_))
   ·refine jc_seq (jc_region (qh [0] (qe (jx_then (jc_ret (jx_thenr ?_))))))
    obtain rfl := Option.some.inj h
    exact qr [] (fun w hm => ⟨rfl, hm.pk [0]⟩)
   ·refine jc_skip (jx_then (jc_seq (jc_seq (jc_region (qh [0] (qe (jx_then (jc_meet (fun (_ : Unit) => spec_l02Frame.k_3 = some r) (fun (_ : Unit) => [(2, [], (.bool false))]) (fun (_ : Unit) => [⟨some A_b, 34, [(.int .i16 f0.fSteps), (.slice C_a f0.fHammers.length C_c)]⟩]) ?_ ?_))))))))
    ·refine jc_block ?_
     obtain ⟨t_6, ht_99, hr_82⟩ := bd h
     refine jc_loop (fun (s : Int) (x : Unit) => match s, x with | i_4, _ => True) (fun (s : Int) (x : Unit) => match s, x with | i_4, _ => [(0, [], (.pointer (some ⟨A_b, 0, none⟩))), (2, [], (.bool false)), (3, [], (.int .i64 i_4))]) (fun (s : Int) (x : Unit) => match s, x with | i_4, _ => [⟨some A_b, 34, [(.int .i16 f0.fSteps), (.slice C_a f0.fHammers.length C_c)]⟩]) ht_99 () trivial (by kernel_rfl) [0] (by kernel_rfl) (by kernel_rfl) ?_
     rintro i_4 _ y_83 _ h
     rw [spec_l02Frame.l_5] at h
     refine jc_seq (jc_seq (jc_region (qh [0,0,0,0,0,0,0] (qe (jx_then (qi h (fun h => ?_) (fun h => ?_)))))))
     ·refine jc_skip (jx_then (jc_seq (jc_block (jc_seq (jc_region (qh [0,0,0,0,0] ?_))))))
      obtain ⟨x_7, hx_86, h⟩ := bd h
      refine tO (qx 0 C_a 2 hx_86 rfl (C_h.sp hx_86) (jkO (tO (ql 0 true (fun w hm => ((hm.exRowW C_h C_ha).at hx_86)) (jkO (tO (qa 0 (fun b_87 => jkO (tO (qs 0 [1] (jkO (qe (jx_then (jc_seq (jc_meet (fun (j : Bool) => match j with | q_8 => spec_l02Frame.k_9 i_4 q_8 = some y_83) (fun (j : Bool) => match j with | q_8 => [(0, [], (.pointer (some ⟨A_b, 0, none⟩))), (2, [], (.bool false)), (3, [], (.int .i64 i_4)), (54, [], (.bool q_8))]) (fun (j : Bool) => match j with | q_8 => [⟨some A_b, 34, [(.int .i16 f0.fSteps), (.slice C_a f0.fHammers.length C_c)]⟩, ⟨some b_87, 110, [(.int .i8 x_7.fPitch), (.int .i8 x_7.fReady)]⟩]) ?_ ?_)))))))))))))))
      ·refine qg [⟨some A_b, 34, [(.int .i16 f0.fSteps), (.slice C_a f0.fHammers.length C_c)]⟩, ⟨some b_87, 110, [(.int .i8 x_7.fPitch), (.int .i8 x_7.fReady)]⟩] 18 (qd [⟨0, 0, 0⟩,⟨1, 1, 0⟩,⟨2, 0, 0⟩] 15 [0, 1] ?_)
       obtain ⟨t_10, ht_94, h⟩ := bd h
       refine tD 3 (pc 0 (fun w hm => spec_l00In.calls (w64 x_7.fPitch) 0 47 w _ ht_94) ?_)
       rintro w v w' hm ⟨rfl, hm'⟩
       refine ⟨_, hm.app hm', kD [0, 1] ?_⟩
       clear hm hm'
       refine qd [⟨4, 0, 0⟩,⟨5, 0, 0⟩,⟨6, 0, 1⟩,⟨7, 1, 1⟩,⟨8, 0, 1⟩,⟨9, 0, 1⟩,⟨10, 0, 1⟩,⟨11, 0, 1⟩,⟨12, 0, 1⟩,⟨13, 0, 1⟩] 4 [0, 1] (jd_split 42 (!t_10) (by kernel_rfl) (fun hc_95 => ?_) (fun hc_95 => ?_))
       ·replace h := ifT hc_95 h
        exact qd [⟨14, 0, 3⟩,⟨15, 0, 3⟩,⟨16, 0, 3⟩,⟨17, 0, 4⟩] 0 [0, 1] (qz (qm true h [0, 1]))
       ·replace h := ifF hc_95 h
        obtain ⟨t_11, ht_96, h⟩ := bd h
        refine tD 14 (pc 2 (fun w hm => spec_l00Min.calls 20 (w64 f0.fSteps) w _ ht_96) ?_)
        rintro w v w' hm ⟨rfl, hm'⟩
        refine ⟨_, hm.app hm', kD [0, 1] ?_⟩
        clear hm hm'
        obtain ⟨t_12, ht_97, h⟩ := bd h
        refine tD 15 (pc 2 (fun w hm => spec_l00In.calls (w64 x_7.fReady) 1 t_11 w _ ht_97) ?_)
        rintro w v w' hm ⟨rfl, hm'⟩
        refine ⟨_, hm.app hm', kD [0, 1] ?_⟩
        clear hm hm'
        exact qd [⟨16, 0, 2⟩,⟨17, 0, 5⟩] 0 [0, 1] (qz (qm (!t_12) h [0, 1]))
      ·rintro q_8 h
       replace h : spec_l02Frame.k_9 i_4 q_8 = some y_83 := h
       rw [spec_l02Frame.k_9] at h
       refine jx_then (qi h (fun h => ?_) (fun h => ?_))
       ·refine jc_seq (jc_region (qh [0] (qe (jx_then (jc_ret (jx_inr (jx_thenr (jx_leaver (.inl false) (Option.some.inj h).symm (fun e_93 => ?_)))))))))
        subst e_93
        refine jx_inr (jx_thenr (jx_thenr ?_))
        obtain rfl := Option.some.inj hr_82
        exact qr [] (fun w hm => ⟨rfl, hm.pk [0]⟩)
       ·exact jc_skip (jx_inn (jx_then (jc_region (qh [0,0,0] (qe (qb (w64 (i_4 + 1)) () h trivial [0]))))))
     ·refine jc_exit (jx_thenx (jx_leave (.inr ()) (Option.some.inj h).symm (fun e_98 => ?_)))
      subst e_98
      exact jx_ine (qm () hr_82 [0])
    ·rintro _ h
     replace h : spec_l02Frame.k_3 = some r := h
     rw [spec_l02Frame.k_3] at h
     refine jx_then (jc_seq (jc_region (qh [0] (qe (jx_then (jc_ret ?_))))))
     obtain rfl := Option.some.inj h
     exact qr [] (fun w hm => ⟨rfl, hm.pk [0]⟩)
/-! ### spec.l01Note -/
def spec_l01Note (n0 : GNote) : Option (Bool) := (spec_l00In (w64 n0.fAt) 0 199).bind fun t_1 => (if t_1 = true then (spec_l00In (w64 n0.fPitch) 0 47).bind fun t_2 => some t_2 else some false)
theorem spec_l01Note.calls (n0 : GNote) (w : World) (r : Bool) (h : spec_l01Note n0 = some r) :
    Calls Try.prog 147 #[(.agg #[(.int .i16 n0.fAt), (.int .i8 n0.fPitch)])] w fun e w' => ∃ v, e = .returned v ∧ (v = (.bool r) ∧ Mem w [] [] w') := by
  rw [spec_l01Note] at h
  refine enter (args := [(.agg #[(.int .i16 n0.fAt), (.int .i8 n0.fPitch)])]) Try.func147 rfl Try.ntmps147 (by kernel_rfl) (L := []) (W := []) (Mem.start w) ?_
  refine jc_seq (jc_region (tO (qa 0 (fun b_1 => jkO (qh [0] (qe (jx_then (jc_seq (jc_region (qh [0,0,0] ?_))))))))))
  obtain ⟨t_1, ht_2, h⟩ := bd h
  refine tO (pc 0 (fun w hm => spec_l00In.calls (w64 n0.fAt) 0 199 w _ ht_2) ?_)
  rintro w v w' hm ⟨rfl, hm'⟩
  refine ⟨_, hm.app hm', jkO ?_⟩
  clear hm hm'
  refine qf [(0, 0), (0, 1), (0, 1), (0, 1)] (qp 7 h (fun h => ?_) (fun h => ?_))
  ·obtain ⟨t_2, ht_4, h⟩ := bd h
   refine tO (pc 2 (fun w hm => spec_l00In.calls (w64 n0.fPitch) 0 47 w _ ht_4) ?_)
   rintro w v w' hm ⟨rfl, hm'⟩
   refine ⟨_, hm.app hm', jkO ?_⟩
   clear hm hm'
   refine qf [(0, 4), (0, 0)] (qe (jx_then (jc_ret ?_)))
   obtain rfl := Option.some.inj h
   exact qr [] (fun w hm => ⟨rfl, hm.pk []⟩)
  ·refine qf [(0, 3), (0, 5), (0, 0)] (qe (jx_then (jc_ret ?_)))
   obtain rfl := Option.some.inj h
   exact qr [] (fun w hm => ⟨rfl, hm.pk []⟩)
/-! ### spec.l01Before -/
def spec_l01Before (a0 : GNote) (b1 : GNote) : Option (Bool) := (if (decide (a0.fAt < b1.fAt)) = true then some true else some ((a0.fAt == b1.fAt) && (decide (a0.fPitch < b1.fPitch))))
theorem spec_l01Before.calls (a0 : GNote) (b1 : GNote) (w : World) (r : Bool) (h : spec_l01Before a0 b1 = some r) :
    Calls Try.prog 148 #[(.agg #[(.int .i16 a0.fAt), (.int .i8 a0.fPitch)]), (.agg #[(.int .i16 b1.fAt), (.int .i8 b1.fPitch)])] w fun e w' => ∃ v, e = .returned v ∧ (v = (.bool r) ∧ Mem w [] [] w') := by
  rw [spec_l01Before] at h
  refine enter (args := [(.agg #[(.int .i16 a0.fAt), (.int .i8 a0.fPitch)]), (.agg #[(.int .i16 b1.fAt), (.int .i8 b1.fPitch)])]) Try.func148 rfl Try.ntmps148 (by kernel_rfl) (L := []) (W := []) (Mem.start w) ?_
  refine jc_seq (jc_region (tO (qa 0 (fun b_1 => jkO (tO (qa 0 (fun b_2 => jkO (qh [0] (qe (jx_then (jc_seq (jc_region (qf [(0, 0), (0, 0), (0, 0), (1, 0), (0, 0), (0, 0), (0, 1), (0, 1), (0, 1), (1, 1), (0, 1)] (qp 10 h (fun h => ?_) (fun h => ?_)))))))))))))))
  ·refine qf [(0, 3), (0, 3), (0, 3), (0, 3), (0, 3), (0, 3), (0, 3), (0, 4), (0, 0)] (qe (jx_then (jc_ret ?_)))
   obtain rfl := Option.some.inj h
   exact qr [] (fun w hm => ⟨rfl, hm.pk []⟩)
  ·refine qf [(0, 2), (0, 1), (0, 1), (0, 1), (1, 1), (0, 1), (0, 2), (0, 5), (0, 0)] (qe (jx_then (jc_ret ?_)))
   obtain rfl := Option.some.inj h
   exact qr [] (fun w hm => ⟨rfl, hm.pk []⟩)
/-! ### spec.l01Ok -/
def spec_l01Ok.k_1 (t0 : List GNote) : Option (Bool) := some (decide ((t0.length : Int) ≤ 120))
def spec_l01Ok.k_6 (i_2 : Int) (q_5 : Bool) : Option ((Int) ⊕ (Bool ⊕ Unit)) := (if q_5 = true then some (.inr (.inl false)) else some (.inl (w64 (i_2 + 1))))
def spec_l01Ok.l_3 (t0 : List GNote) : Int → Option ((Int) ⊕ (Bool ⊕ Unit))
  | i_2 => (if (decide (i_2 < (t0.length : Int))) = true then (ix t0 i_2).bind fun x_7 => (spec_l01Note x_7).bind fun t_8 => (if (!t_8) = true then spec_l01Ok.k_6 i_2 true else (if (decide (i_2 > 0)) = true then (ix t0 (w64 (i_2 - 1))).bind fun x_9 => (ix t0 i_2).bind fun x_10 => (spec_l01Before x_9 x_10).bind fun t_11 => spec_l01Ok.k_6 i_2 (!t_11) else spec_l01Ok.k_6 i_2 false)) else some (.inr (.inr ())))
def spec_l01Ok (t0 : List GNote) : Option (Bool) := (loop (spec_l01Ok.l_3 t0) 0).bind fun t_4 => match t_4 with | .inl p => some p | .inr p => spec_l01Ok.k_1 t0
theorem spec_l01Ok.calls (t0 : List GNote) (w : World) (r : Bool) {A_a : Option Addr} {A_an : Nat} (A_c : Nat) (A_h : Rw w A_a 2 encGNote t0) (A_hn : t0.length = A_an) (h : spec_l01Ok t0 = some r) :
    Calls Try.prog 111 #[(.slice A_a A_an A_c)] w fun e w' => ∃ v, e = .returned v ∧ (v = (.bool r) ∧ Mem w [] [] w') := by
  subst A_hn
  rw [spec_l01Ok] at h
  refine enter (args := [(.slice A_a t0.length A_c)]) Try.func111 rfl Try.ntmps111 (by kernel_rfl) (L := []) (W := []) (Mem.start w) ?_
  refine jc_seq (jc_region (qh [0] (qe (jx_then (jc_seq (jc_seq (jc_region (qh [0] (qe (jx_then (jc_meet (fun (_ : Unit) => spec_l01Ok.k_1 t0 = some r) (fun (_ : Unit) => [(0, [], (.slice A_a t0.length A_c)), (2, [], (.bool false))]) (fun (_ : Unit) => []) ?_ ?_)))))))))))
  ·refine jc_block ?_
   obtain ⟨t_4, ht_224, hr_203⟩ := bd h
   refine jc_loop (fun (s : Int) (x : Unit) => match s, x with | i_2, _ => True) (fun (s : Int) (x : Unit) => match s, x with | i_2, _ => [(0, [], (.slice A_a t0.length A_c)), (2, [], (.bool false)), (3, [], (.int .i64 i_2))]) (fun (s : Int) (x : Unit) => match s, x with | i_2, _ => []) ht_224 () trivial (by kernel_rfl) [] (by kernel_rfl) (by kernel_rfl) ?_
   rintro i_2 _ y_204 _ h
   rw [spec_l01Ok.l_3] at h
   refine jc_seq (jc_seq (jc_region (qh [0,0,0,0] (qe (jx_then (qi h (fun h => ?_) (fun h => ?_)))))))
   ·refine jc_skip (jx_then (jc_seq (jc_block (jc_seq (jc_meet (fun (j : Bool) => match j with | q_5 => spec_l01Ok.k_6 i_2 q_5 = some y_204) (fun (j : Bool) => match j with | q_5 => [(0, [], (.slice A_a t0.length A_c)), (2, [], (.bool false)), (3, [], (.int .i64 i_2)), (32, [], (.bool q_5))]) (fun (j : Bool) => match j with | q_5 => []) ?_ ?_)))))
    ·refine qg [] 23 (qd [⟨0, 0, 0⟩,⟨1, 0, 0⟩] 21 [] ?_)
     obtain ⟨x_7, hx_216, h⟩ := bd h
     refine qv 2 0 [] (fun w hm => idx_run (a := A_a) (len := t0.length) (s := 2) (j := i_2) (by kernel_rfl) (ix_some hx_216).1 (ltn hx_216 rfl) (A_h.sp hx_216)) (qv 3 0 [] (fun w hm => ld_run (b := aB A_a) (off := (aO A_a + i_2.toNat * 2)) (s := 2) (agg := true) (vs := (encGNote x_7)) (by kernel_rfl) (by kernel_rfl) (.inl rfl) ((hm.xr A_h).at hx_216)) ?_)
     obtain ⟨t_8, ht_217, h⟩ := bd h
     refine tD 4 (pc 0 (fun w hm => spec_l01Note.calls x_7 w _ ht_217) ?_)
     rintro w v w' hm ⟨rfl, hm'⟩
     refine ⟨_, hm.app hm', kD [] ?_⟩
     clear hm hm'
     refine qd [⟨5, 0, 0⟩,⟨6, 0, 0⟩,⟨7, 0, 1⟩,⟨8, 0, 1⟩] 14 [] (jd_split 16 (!t_8) (by kernel_rfl) (fun hc_218 => ?_) (fun hc_218 => ?_))
     ·replace h := ifT hc_218 h
      exact qd [⟨9, 0, 3⟩,⟨10, 0, 3⟩,⟨11, 0, 3⟩,⟨12, 0, 3⟩,⟨13, 0, 3⟩,⟨14, 0, 3⟩,⟨15, 0, 3⟩,⟨16, 0, 3⟩,⟨17, 0, 3⟩,⟨18, 0, 3⟩,⟨19, 0, 3⟩,⟨20, 0, 3⟩,⟨21, 0, 3⟩,⟨22, 0, 4⟩] 0 [] (qz (qm true h []))
     ·replace h := ifF hc_218 h
      refine qd [⟨9, 0, 2⟩,⟨10, 0, 1⟩,⟨11, 0, 1⟩,⟨12, 0, 1⟩,⟨15, 0, 1⟩,⟨16, 0, 1⟩] 8 [] (jd_split 19 (decide (i_2 > 0)) (by kernel_rfl) (fun hc_219 => ?_) (fun hc_219 => ?_))
      ·replace h := ifT hc_219 h
       obtain ⟨x_9, hx_220, h⟩ := bd h
       refine qv 13 2 [] (fun w hm => idx_run (a := A_a) (len := t0.length) (s := 2) (j := (w64 (i_2 - 1))) (by kernel_rfl) (ix_some hx_220).1 (ltn hx_220 rfl) (A_h.sp hx_220)) (qv 14 2 [] (fun w hm => ld_run (b := aB A_a) (off := (aO A_a + (w64 (i_2 - 1)).toNat * 2)) (s := 2) (agg := true) (vs := (encGNote x_9)) (by kernel_rfl) (by kernel_rfl) (.inl rfl) ((hm.xr A_h).at hx_220)) ?_)
       obtain ⟨x_10, hx_221, h⟩ := bd h
       refine qv 17 2 [] (fun w hm => idx_run (a := A_a) (len := t0.length) (s := 2) (j := i_2) (by kernel_rfl) (ix_some hx_221).1 (ltn hx_221 rfl) (A_h.sp hx_221)) (qv 18 2 [] (fun w hm => ld_run (b := aB A_a) (off := (aO A_a + i_2.toNat * 2)) (s := 2) (agg := true) (vs := (encGNote x_10)) (by kernel_rfl) (by kernel_rfl) (.inl rfl) ((hm.xr A_h).at hx_221)) ?_)
       obtain ⟨t_11, ht_222, h⟩ := bd h
       refine tD 19 (pc 2 (fun w hm => spec_l01Before.calls x_9 x_10 w _ ht_222) ?_)
       rintro w v w' hm ⟨rfl, hm'⟩
       refine ⟨_, hm.app hm', kD [] ?_⟩
       clear hm hm'
       exact qd [⟨20, 0, 2⟩,⟨21, 0, 4⟩,⟨22, 0, 5⟩] 0 [] (qz (qm (!t_11) h []))
      ·replace h := ifF hc_219 h
       exact qd [⟨13, 0, 3⟩,⟨14, 0, 3⟩,⟨17, 0, 3⟩,⟨18, 0, 3⟩,⟨19, 0, 3⟩,⟨20, 0, 3⟩,⟨21, 0, 5⟩,⟨22, 0, 5⟩] 0 [] (qz (qm false h []))
    ·rintro q_5 h
     replace h : spec_l01Ok.k_6 i_2 q_5 = some y_204 := h
     rw [spec_l01Ok.k_6] at h
     refine jx_then (qi h (fun h => ?_) (fun h => ?_))
     ·refine jc_seq (jc_region (qh [0] (qe (jx_then (jc_ret (jx_inr (jx_thenr (jx_leaver (.inl false) (Option.some.inj h).symm (fun e_215 => ?_)))))))))
      subst e_215
      refine jx_inr (jx_thenr (jx_thenr ?_))
      obtain rfl := Option.some.inj hr_203
      exact qr [] (fun w hm => ⟨rfl, hm.pk []⟩)
     ·exact jc_skip (jx_inn (jx_then (jc_region (qh [0,0,0] (qe (qb (w64 (i_2 + 1)) () h trivial []))))))
   ·refine jc_exit (jx_thenx (jx_leave (.inr ()) (Option.some.inj h).symm (fun e_223 => ?_)))
    subst e_223
    exact jx_ine (qm () hr_203 [])
  ·rintro _ h
   replace h : spec_l01Ok.k_1 t0 = some r := h
   rw [spec_l01Ok.k_1] at h
   refine jx_then (jc_seq (jc_region (qh [0,0,0,0] (qe (jx_then (jc_ret ?_))))))
   obtain rfl := Option.some.inj h
   exact qr [] (fun w hm => ⟨rfl, hm.pk []⟩)
/-! ### spec.l07Costs -/
def spec_l07Costs (c0 : GCosts) : Option (Bool) := (spec_l00In (w64 c0.fAway) 0 1000).bind fun t_1 => (if t_1 = true then (spec_l00In (w64 c0.fOctave) 0 1000).bind fun t_2 => (if t_2 = true then (spec_l00In (w64 c0.fStep) 0 1000).bind fun t_3 => some t_3 else some false) else some false)
theorem spec_l07Costs.calls (c0 : GCosts) (w : World) (r : Bool) (h : spec_l07Costs c0 = some r) :
    Calls Try.prog 162 #[(.agg #[(.int .i16 c0.fAway), (.int .i16 c0.fOctave), (.int .i16 c0.fStep)])] w fun e w' => ∃ v, e = .returned v ∧ (v = (.bool r) ∧ Mem w [] [] w') := by
  rw [spec_l07Costs] at h
  refine enter (args := [(.agg #[(.int .i16 c0.fAway), (.int .i16 c0.fOctave), (.int .i16 c0.fStep)])]) Try.func162 rfl Try.ntmps162 (by kernel_rfl) (L := []) (W := []) (Mem.start w) ?_
  refine jc_seq (jc_region (tO (qa 0 (fun b_1 => jkO (qh [0] (qe (jx_then (jc_seq (jc_region (qh [0,0,0] ?_))))))))))
  obtain ⟨t_1, ht_2, h⟩ := bd h
  refine tO (pc 0 (fun w hm => spec_l00In.calls (w64 c0.fAway) 0 1000 w _ ht_2) ?_)
  rintro w v w' hm ⟨rfl, hm'⟩
  refine ⟨_, hm.app hm', jkO ?_⟩
  clear hm hm'
  refine qf [(0, 0), (0, 1), (0, 1), (0, 1)] (qp 7 h (fun h => ?_) (fun h => ?_))
  ·obtain ⟨t_2, ht_4, h⟩ := bd h
   refine tO (pc 2 (fun w hm => spec_l00In.calls (w64 c0.fOctave) 0 1000 w _ ht_4) ?_)
   rintro w v w' hm ⟨rfl, hm'⟩
   refine ⟨_, hm.app hm', jkO ?_⟩
   clear hm hm'
   refine qf [(0, 4), (0, 0), (0, 1), (0, 1), (0, 1)] (qp 13 h (fun h => ?_) (fun h => ?_))
   ·obtain ⟨t_3, ht_6, h⟩ := bd h
    refine tO (pc 2 (fun w hm => spec_l00In.calls (w64 c0.fStep) 0 1000 w _ ht_6) ?_)
    rintro w v w' hm ⟨rfl, hm'⟩
    refine ⟨_, hm.app hm', jkO ?_⟩
    clear hm hm'
    refine qf [(0, 4), (0, 0)] (qe (jx_then (jc_ret ?_)))
    obtain rfl := Option.some.inj h
    exact qr [] (fun w hm => ⟨rfl, hm.pk []⟩)
   ·refine qf [(0, 3), (0, 5), (0, 0)] (qe (jx_then (jc_ret ?_)))
    obtain rfl := Option.some.inj h
    exact qr [] (fun w hm => ⟨rfl, hm.pk []⟩)
  ·refine qf [(0, 3), (0, 5), (0, 0), (0, 3), (0, 3), (0, 3), (0, 3), (0, 5), (0, 0)] (qe (jx_then (jc_ret ?_)))
   obtain rfl := Option.some.inj h
   exact qr [] (fun w hm => ⟨rfl, hm.pk []⟩)
/-! ### spec.l07Given -/
def spec_l07Given.k_2 (q_1 : Bool) : Option (Int) := (if q_1 = true then some 1 else some 0)
def spec_l07Given (f0 : GFrame) (t1 : List GNote) (c2 : GCosts) : Option (Int) := (spec_l02Frame f0).bind fun t_3 => (if (!t_3) = true then spec_l07Given.k_2 true else (spec_l01Ok t1).bind fun t_4 => (if (!t_4) = true then spec_l07Given.k_2 true else (spec_l07Costs c2).bind fun t_5 => spec_l07Given.k_2 (!t_5)))
theorem spec_l07Given.calls (f0 : GFrame) (t1 : List GNote) (c2 : GCosts) (w : World) (r : Int) {C_a : Option Addr} {C_an : Nat} (C_c : Nat) (C_h : Rw w C_a 2 encGHammer f0.fHammers) (C_hn : f0.fHammers.length = C_an) {D_a : Option Addr} {D_an : Nat} (D_c : Nat) (D_h : Rw w D_a 2 encGNote t1) (D_hn : t1.length = D_an) (A_b : Nat) (hm0 : Mem w (bs [some A_b]) [⟨some A_b, 34, [(.int .i16 f0.fSteps), (.slice C_a C_an C_c)]⟩] w) (C_ha : f0.fHammers ≠ [] → aB C_a ∉ bs [some A_b]) (D_ha : t1 ≠ [] → aB D_a ∉ bs [some A_b]) (h : spec_l07Given f0 t1 c2 = some r) :
    Calls Try.prog 127 #[(.pointer (some ⟨A_b, 0, none⟩)), (.slice D_a D_an D_c), (.agg #[(.int .i16 c2.fAway), (.int .i16 c2.fOctave), (.int .i16 c2.fStep)])] w fun e w' => ∃ v, e = .returned v ∧ (v = (.int .i64 r) ∧ Mem w (bs [some A_b]) [⟨some A_b, 34, [(.int .i16 f0.fSteps), (.slice C_a C_an C_c)]⟩] w') := by
  subst C_hn D_hn
  rw [spec_l07Given] at h
  refine enter (args := [(.pointer (some ⟨A_b, 0, none⟩)), (.slice D_a t1.length D_c), (.agg #[(.int .i16 c2.fAway), (.int .i16 c2.fOctave), (.int .i16 c2.fStep)])]) Try.func127 rfl Try.ntmps127 (by kernel_rfl) (L := [⟨some A_b, 34, [(.int .i16 f0.fSteps), (.slice C_a f0.fHammers.length C_c)]⟩]) (W := bs [some A_b]) hm0 ?_
  refine jc_seq (jc_region (tO (qa 0 (fun b_1 => jkO (qh [0] (qe (jx_then (jc_seq (jc_seq (jc_meet (fun (j : Bool) => match j with | q_1 => spec_l07Given.k_2 q_1 = some r) (fun (j : Bool) => match j with | q_1 => [(6, [], (.int .i64 0)), (19, [], (.bool q_1))]) (fun (j : Bool) => match j with | q_1 => [⟨some A_b, 34, [(.int .i16 f0.fSteps), (.slice C_a f0.fHammers.length C_c)]⟩, ⟨some b_1, 74, [(.int .i16 c2.fAway), (.int .i16 c2.fOctave), (.int .i16 c2.fStep)]⟩]) ?_ ?_))))))))))
  ·refine jc_region (qh [0] ?_)
   obtain ⟨t_3, ht_8, h⟩ := bd h
   refine tO (pc 0 (fun w hm => spec_l02Frame.calls f0 w _ C_c (hm.exRowW C_h C_ha) rfl A_b (hm.pass (N := [⟨some A_b, 34, [(.int .i16 f0.fSteps), (.slice C_a f0.fHammers.length C_c)]⟩]) [0] (by kernel_rfl) (by kernel_rfl)) (hm.exApart (N := [⟨some A_b, 34, [(.int .i16 f0.fSteps), (.slice C_a f0.fHammers.length C_c)]⟩]) C_h C_ha [0] (by kernel_rfl)) ht_8) ?_)
   rintro w v w' hm ⟨rfl, hm'⟩
   refine ⟨_, hm.appW (ps := [(0, ⟨some A_b, 34, [(.int .i16 f0.fSteps), (.slice C_a f0.fHammers.length C_c)]⟩)]) (N := []) hm' (by kernel_rfl) (by kernel_rfl), jkO ?_⟩
   clear hm hm'
   refine qf [(0, 0), (0, 0), (0, 1)] (qp 10 h (fun h => ?_) (fun h => ?_))
   ·exact qf [(0, 3), (0, 3), (0, 4), (0, 0), (0, 3), (0, 3), (0, 3), (0, 4)] (qe (qm true h [0, 1]))
   ·obtain ⟨t_4, ht_10, h⟩ := bd h
    refine tO (pc 2 (fun w hm => spec_l01Ok.calls t1 w _ D_c (hm.exRowW D_h D_ha) rfl ht_10) ?_)
    rintro w v w' hm ⟨rfl, hm'⟩
    refine ⟨_, hm.app hm', jkO ?_⟩
    clear hm hm'
    refine qf [(0, 2), (0, 5), (0, 0), (1, 1)] (qp 15 h (fun h => ?_) (fun h => ?_))
    ·exact qf [(0, 3), (0, 3), (0, 4)] (qe (qm true h [0, 1]))
    ·obtain ⟨t_5, ht_12, h⟩ := bd h
     refine tO (pc 2 (fun w hm => spec_l07Costs.calls c2 w _ ht_12) ?_)
     rintro w v w' hm ⟨rfl, hm'⟩
     refine ⟨_, hm.app hm', jkO ?_⟩
     clear hm hm'
     exact qf [(0, 2), (0, 5)] (qe (qm (!t_5) h [0, 1]))
  ·rintro q_1 h
   replace h : spec_l07Given.k_2 q_1 = some r := h
   rw [spec_l07Given.k_2] at h
   refine jx_then (qi h (fun h => ?_) (fun h => ?_))
   ·refine jc_seq (jc_region (qh [0] (qe (jx_then (jc_ret (jx_thenr ?_))))))
    obtain rfl := Option.some.inj h
    exact qr [] (fun w hm => ⟨rfl, hm.pk [0]⟩)
   ·refine jc_skip (jx_then (jc_seq (jc_region (qh [0] (qe (jx_then (jc_ret ?_)))))))
    obtain rfl := Option.some.inj h
    exact qr [] (fun w hm => ⟨rfl, hm.pk [0]⟩)
/-! ### spec.l07Signed -/
def spec_l07Signed.k_2 (xs_1 : List Int) : Option ((List Int)) := some xs_1
def spec_l07Signed.l_5 (most0 : Int) : ((List Int) × Int) → Option (((List Int) × Int) ⊕ ((List Int)))
  | (xs_3, i_4) => (if (decide (i_4 ≤ most0)) = true then (if xs_3.length + ([(w8 (0 - i_4)), i_4] : List Int).length ≤ 4294967296 then some (.inl ((xs_3 ++ ([(w8 (0 - i_4)), i_4] : List Int)), (w8 (i_4 + 1)))) else none) else some (.inr xs_3))
def spec_l07Signed (most0 : Int) : Option ((List Int)) := (loop (spec_l07Signed.l_5 most0) (([0] : List Int), 1)).bind fun t_6 => spec_l07Signed.k_2 t_6
theorem spec_l07Signed.calls (most0 : Int) (w : World) (r : (List Int)) (h : spec_l07Signed most0 = some r) :
    Calls Try.prog 185 #[(.int .i8 most0)] w fun e w' => ∃ v, e = .returned v ∧ (∃ (o0 : Option Nat) (c0 : Nat) (s0 : List Value) (n0 : Nat), r.length = n0 ∧ (o0 ≠ none → n0 ≤ c0 ∧ s0.length = (c0 - n0) * 1) ∧ (o0 = none → r = [] ∧ c0 = 0) ∧ v = .slice (o0.map fun b => ⟨b, 0, none⟩) n0 c0 ∧ Mem w [] [⟨o0, 102, row encI8 r s0⟩] w') := by
  rw [spec_l07Signed] at h
  refine enter (args := [(.int .i8 most0)]) Try.func185 rfl Try.ntmps185 (by kernel_rfl) (L := []) (W := []) (Mem.start w) ?_
  refine jc_seq (jc_region (qh [0] (qe (jx_then (jc_seq (jc_region (tO (qa 0 (fun b_1 => jkO (qh [0] (qe (jx_then (jc_seq (jc_seq (jc_region (qh [0] (qe (jx_then (jc_meet (fun (j : (List Int) × (Option Nat) × Nat × (List Value) × Nat) => match j with | ⟨xs_1, o_137, cap_138, sp_139, n_140⟩ => spec_l07Signed.k_2 xs_1 = some r ∧ (xs_1.length = n_140) ∧ ((o_137 ≠ none → n_140 ≤ cap_138 ∧ sp_139.length = (cap_138 - n_140) * 1)) ∧ ((o_137 = none → xs_1 = [] ∧ cap_138 = 0))) (fun (j : (List Int) × (Option Nat) × Nat × (List Value) × Nat) => match j with | ⟨xs_1, o_137, cap_138, sp_139, n_140⟩ => [(2, [], (.slice none 0 0)), (3, [], (.slice (o_137.map fun b => ⟨b, 0, none⟩) n_140 cap_138))]) (fun (j : (List Int) × (Option Nat) × Nat × (List Value) × Nat) => match j with | ⟨xs_1, o_137, cap_138, sp_139, n_140⟩ => [⟨o_137, 102, row encI8 xs_1 sp_139⟩]) ?_ ?_)))))))))))))))))))
  ·refine jc_block ?_
   obtain ⟨t_6, ht_185, hr_173⟩ := bd h
   refine jc_loop (fun (s : (List Int) × Int) (x : (Option Nat) × Nat × (List Value) × Nat) => match s, x with | ⟨xs_3, i_4⟩, ⟨o_167, cap_168, sp_169, n_170⟩ => (xs_3.length = n_170) ∧ ((o_167 ≠ none → n_170 ≤ cap_168 ∧ sp_169.length = (cap_168 - n_170) * 1)) ∧ ((o_167 = none → xs_3 = [] ∧ cap_168 = 0))) (fun (s : (List Int) × Int) (x : (Option Nat) × Nat × (List Value) × Nat) => match s, x with | ⟨xs_3, i_4⟩, ⟨o_167, cap_168, sp_169, n_170⟩ => [(0, [], (.int .i8 most0)), (2, [], (.slice none 0 0)), (3, [], (.slice (o_167.map fun b => ⟨b, 0, none⟩) n_170 cap_168)), (4, [], (.int .i8 i_4))]) (fun (s : (List Int) × Int) (x : (Option Nat) × Nat × (List Value) × Nat) => match s, x with | ⟨xs_3, i_4⟩, ⟨o_167, cap_168, sp_169, n_170⟩ => [⟨o_167, 102, row encI8 xs_3 sp_169⟩]) ht_185 ⟨(some b_1), 1, [], 1⟩ ⟨rfl, (fun _ => ⟨Nat.le_refl _, by simp⟩), (fun e => nomatch e)⟩ (by kernel_rfl) [0] (by kernel_rfl) (by kernel_rfl) ?_
   rintro ⟨xs_3, i_4⟩ ⟨o_167, cap_168, sp_169, n_170⟩ y_174 ⟨rfl, hs_171, ho_172⟩ h
   rw [spec_l07Signed.l_5] at h
   refine jc_seq (jc_seq (jc_region (qh [0,0,0] (qe (jx_then (qi h (fun h => ?_) (fun h => ?_)))))))
   ·refine jc_skip (jx_then (jc_seq (jc_block (jc_region (qh [0,0,0,0] (tO (qa 0 (fun b_177 => jkO ?_))))))))
    obtain ⟨hg_178, h⟩ := gd h
    exact tO (p_apn 0 0 o_167 102 xs_3.length 2 cap_168 1 1 (some ⟨b_177, 0, none⟩) encI8 xs_3 ([(w8 (0 - i_4)), i_4] : List Int) sp_169 (.int .i8 0) rfl rfl (by kernel_rfl) (by kernel_rfl) (by kernel_rfl) encI8_len encI8_cell hs_171 ho_172 (fun w hm => (hm.ow 1 (some b_177) 102 ([(w8 (0 - i_4)), i_4] : List Int) [] (fun e => nomatch e) encI8_len)) hg_178 (by kernel_rfl) (by kernel_rfl) (fun o_179 cap_180 sp_181 hs_182 ho_183 => jkO (qh [0] (qe (jx_inn (jx_then (jc_region (qh [0,0,0] (qe (qb ((xs_3 ++ ([(w8 (0 - i_4)), i_4] : List Int)), (w8 (i_4 + 1))) ⟨o_179, cap_180, sp_181, (xs_3 ++ ([(w8 (0 - i_4)), i_4] : List Int)).length⟩ h ⟨rfl, hs_182, ho_183⟩ [0]))))))))))
   ·refine jc_exit (jx_thenx (jx_leave xs_3 (Option.some.inj h).symm (fun e_184 => ?_)))
    subst e_184
    exact jx_ine (qm ⟨xs_3, o_167, cap_168, sp_169, xs_3.length⟩ ⟨hr_173, rfl, hs_171, ho_172⟩ [0])
  ·rintro ⟨xs_1, o_137, cap_138, sp_139, n_140⟩ ⟨h, rfl, hs_141, ho_142⟩
   replace h : spec_l07Signed.k_2 xs_1 = some r := h
   rw [spec_l07Signed.k_2] at h
   refine jx_then (jc_seq (jc_region (qh [0,0] (qe (jx_then (jc_ret ?_))))))
   obtain rfl := Option.some.inj h
   exact qr [] (fun w hm => ⟨o_137, cap_138, sp_139, xs_1.length, rfl, hs_141, ho_142, rfl, hm.pk [0]⟩)
/-! ### spec.l07For -/
def spec_l07For.k_4 (xs_3 : List GChoice) : Option ((List GChoice)) := (if xs_3.length + ([(⟨true, 0, 0, 0⟩ : GChoice)] : List GChoice).length ≤ 4294967296 then some (xs_3 ++ ([(⟨true, 0, 0, 0⟩ : GChoice)] : List GChoice)) else none)
def spec_l07For.k_12 (i_6 : Int) (xs_11 : List GChoice) : Option (((List GChoice) × Int) ⊕ ((List GChoice))) := some (.inl (xs_11, (w64 (i_6 + 1))))
def spec_l07For.k_18 (i_14 : Int) (xs_17 : List GChoice) : Option (((List GChoice) × Int) ⊕ ((List GChoice))) := some (.inl (xs_17, (w64 (i_14 + 1))))
def spec_l07For.l_21 (f0 : GFrame) (n1 : GNote) (t_1 : (List Int)) (t_2 : (List Int)) (i_6 : Int) (i_14 : Int) : ((List GChoice) × Int) → Option (((List GChoice) × Int) ⊕ ((List GChoice)))
  | (xs_19, i_20) => (if (decide (i_20 < (f0.fHammers.length : Int))) = true then (ix f0.fHammers i_20).bind fun x_23 => (ix t_2 i_14).bind fun x_24 => (if (x_23.fPitch == (w8 (n1.fPitch + (w8 (12 * x_24))))) = true then (ix t_1 i_6).bind fun x_25 => (ix t_2 i_14).bind fun x_26 => (if xs_19.length + ([(⟨false, x_25, x_26, (w8 i_20)⟩ : GChoice)] : List GChoice).length ≤ 4294967296 then some (.inl ((xs_19 ++ ([(⟨false, x_25, x_26, (w8 i_20)⟩ : GChoice)] : List GChoice)), (w64 (i_20 + 1)))) else none) else some (.inl (xs_19, (w64 (i_20 + 1))))) else some (.inr xs_19))
def spec_l07For.l_15 (f0 : GFrame) (n1 : GNote) (t_1 : (List Int)) (t_2 : (List Int)) (i_6 : Int) : ((List GChoice) × Int) → Option (((List GChoice) × Int) ⊕ ((List GChoice)))
  | (xs_13, i_14) => (if (decide (i_14 < (t_2.length : Int))) = true then (loop (spec_l07For.l_21 f0 n1 t_1 t_2 i_6 i_14) (xs_13, 0)).bind fun t_22 => spec_l07For.k_18 i_14 t_22 else some (.inr xs_13))
def spec_l07For.l_7 (f0 : GFrame) (n1 : GNote) (t_1 : (List Int)) (t_2 : (List Int)) : ((List GChoice) × Int) → Option (((List GChoice) × Int) ⊕ ((List GChoice)))
  | (xs_5, i_6) => (if (decide (i_6 < (t_1.length : Int))) = true then (ix t_1 i_6).bind fun x_9 => (spec_l00In (w64 ((w64 n1.fAt) + (w64 x_9))) 0 (w64 ((w64 f0.fSteps) - 1))).bind fun t_10 => (if (!t_10) = true then some (.inl (xs_5, (w64 (i_6 + 1)))) else (loop (spec_l07For.l_15 f0 n1 t_1 t_2 i_6) (xs_5, 0)).bind fun t_16 => spec_l07For.k_12 i_6 t_16) else some (.inr xs_5))
def spec_l07For (f0 : GFrame) (n1 : GNote) : Option ((List GChoice)) := (spec_l07Signed 3).bind fun t_1 => (spec_l07Signed 1).bind fun t_2 => (loop (spec_l07For.l_7 f0 n1 t_1 t_2) (([] : List GChoice), 0)).bind fun t_8 => spec_l07For.k_4 t_8
theorem spec_l07For.calls (f0 : GFrame) (n1 : GNote) (w : World) (r : (List GChoice)) {C_a : Option Addr} {C_an : Nat} (C_c : Nat) (C_h : Rw w C_a 2 encGHammer f0.fHammers) (C_hn : f0.fHammers.length = C_an) (A_b : Nat) (hm0 : Mem w (bs [some A_b]) [⟨some A_b, 34, [(.int .i16 f0.fSteps), (.slice C_a C_an C_c)]⟩] w) (C_ha : f0.fHammers ≠ [] → aB C_a ∉ bs [some A_b]) (h : spec_l07For f0 n1 = some r) :
    Calls Try.prog 163 #[(.pointer (some ⟨A_b, 0, none⟩)), (.agg #[(.int .i16 n1.fAt), (.int .i8 n1.fPitch)])] w fun e w' => ∃ v, e = .returned v ∧ (∃ (o0 : Option Nat) (c0 : Nat) (s0 : List Value) (n0 : Nat), r.length = n0 ∧ (o0 ≠ none → n0 ≤ c0 ∧ s0.length = (c0 - n0) * 4) ∧ (o0 = none → r = [] ∧ c0 = 0) ∧ v = .slice (o0.map fun b => ⟨b, 0, none⟩) n0 c0 ∧ Mem w (bs [some A_b]) [⟨some A_b, 34, [(.int .i16 f0.fSteps), (.slice C_a C_an C_c)]⟩, ⟨o0, 144, row encGChoice r s0⟩] w') := by
  subst C_hn
  rw [spec_l07For] at h
  refine enter (args := [(.pointer (some ⟨A_b, 0, none⟩)), (.agg #[(.int .i16 n1.fAt), (.int .i8 n1.fPitch)])]) Try.func163 rfl Try.ntmps163 (by kernel_rfl) (L := [⟨some A_b, 34, [(.int .i16 f0.fSteps), (.slice C_a f0.fHammers.length C_c)]⟩]) (W := bs [some A_b]) hm0 ?_
  refine jc_seq (jc_region (tO (qa 0 (fun b_1 => jkO (qh [0] (qe (jx_then (jc_seq (jc_region (tO (qa 0 (fun b_2 => jkO (qh [0] (qe (jx_then (jc_seq (jc_region ?_)))))))))))))))))
  obtain ⟨t_1, ht_3, h⟩ := bd h
  refine tO (pc 0 (fun w hm => spec_l07Signed.calls 3 w _ ht_3) ?_)
  rintro w v w' hm ⟨o_4, cap_5, sp_6, _, rfl, hs_7, ho_8, rfl, hm'⟩
  refine ⟨_, hm.app hm', jkO ?_⟩
  clear hm hm'
  refine qh [0] (qe (jx_then (jc_seq (jc_region ?_))))
  obtain ⟨t_2, ht_9, h⟩ := bd h
  refine tO (pc 0 (fun w hm => spec_l07Signed.calls 1 w _ ht_9) ?_)
  rintro w v w' hm ⟨o_10, cap_11, sp_12, _, rfl, hs_13, ho_14, rfl, hm'⟩
  refine ⟨_, hm.app hm', jkO ?_⟩
  clear hm hm'
  refine qh [0] (qe (jx_then (jc_seq (jc_seq (jc_region (qh [0] (qe (jx_then (jc_meet (fun (j : (List GChoice) × (Option Nat) × Nat × (List Value) × Nat) => match j with | ⟨xs_3, o_8151, cap_8152, sp_8153, n_8154⟩ => spec_l07For.k_4 xs_3 = some r ∧ (xs_3.length = n_8154) ∧ ((o_8151 ≠ none → n_8154 ≤ cap_8152 ∧ sp_8153.length = (cap_8152 - n_8154) * 4)) ∧ ((o_8151 = none → xs_3 = [] ∧ cap_8152 = 0))) (fun (j : (List GChoice) × (Option Nat) × Nat × (List Value) × Nat) => match j with | ⟨xs_3, o_8151, cap_8152, sp_8153, n_8154⟩ => [(4, [], (.slice none 0 0)), (5, [], (.slice (o_8151.map fun b => ⟨b, 0, none⟩) n_8154 cap_8152))]) (fun (j : (List GChoice) × (Option Nat) × Nat × (List Value) × Nat) => match j with | ⟨xs_3, o_8151, cap_8152, sp_8153, n_8154⟩ => [⟨some A_b, 34, [(.int .i16 f0.fSteps), (.slice C_a f0.fHammers.length C_c)]⟩, ⟨some b_1, 104, [(.int .i16 n1.fAt), (.int .i8 n1.fPitch)]⟩, ⟨o_8151, 144, row encGChoice xs_3 sp_8153⟩, ⟨o_4, 102, row encI8 t_1 sp_6⟩, ⟨o_10, 102, row encI8 t_2 sp_12⟩]) ?_ ?_)))))))))
  ·refine jc_block ?_
   obtain ⟨t_8, ht_10873, hr_9972⟩ := bd h
   refine jc_loop (fun (s : (List GChoice) × Int) (x : (Option Nat) × Nat × (List Value) × Nat) => match s, x with | ⟨xs_5, i_6⟩, ⟨o_9966, cap_9967, sp_9968, n_9969⟩ => (xs_5.length = n_9969) ∧ ((o_9966 ≠ none → n_9969 ≤ cap_9967 ∧ sp_9968.length = (cap_9967 - n_9969) * 4)) ∧ ((o_9966 = none → xs_5 = [] ∧ cap_9967 = 0))) (fun (s : (List GChoice) × Int) (x : (Option Nat) × Nat × (List Value) × Nat) => match s, x with | ⟨xs_5, i_6⟩, ⟨o_9966, cap_9967, sp_9968, n_9969⟩ => [(0, [], (.pointer (some ⟨A_b, 0, none⟩))), (3, [], (.pointer (some ⟨b_1, 0, none⟩))), (4, [], (.slice none 0 0)), (5, [], (.slice (o_9966.map fun b => ⟨b, 0, none⟩) n_9969 cap_9967)), (6, [], (.slice (o_4.map fun b => ⟨b, 0, none⟩) t_1.length cap_5)), (7, [], (.slice (o_10.map fun b => ⟨b, 0, none⟩) t_2.length cap_11)), (8, [], (.int .i64 i_6))]) (fun (s : (List GChoice) × Int) (x : (Option Nat) × Nat × (List Value) × Nat) => match s, x with | ⟨xs_5, i_6⟩, ⟨o_9966, cap_9967, sp_9968, n_9969⟩ => [⟨some A_b, 34, [(.int .i16 f0.fSteps), (.slice C_a f0.fHammers.length C_c)]⟩, ⟨some b_1, 104, [(.int .i16 n1.fAt), (.int .i8 n1.fPitch)]⟩, ⟨o_9966, 144, row encGChoice xs_5 sp_9968⟩, ⟨o_4, 102, row encI8 t_1 sp_6⟩, ⟨o_10, 102, row encI8 t_2 sp_12⟩]) ht_10873 ⟨(some b_2), 0, [], 0⟩ ⟨rfl, (fun _ => ⟨Nat.le_refl _, by simp⟩), (fun e => nomatch e)⟩ (by kernel_rfl) [0, 1, 2, 3, 4] (by kernel_rfl) (by kernel_rfl) ?_
   rintro ⟨xs_5, i_6⟩ ⟨o_9966, cap_9967, sp_9968, n_9969⟩ y_9973 ⟨rfl, hs_9970, ho_9971⟩ h
   rw [spec_l07For.l_7] at h
   refine jc_seq (jc_seq (jc_region (qh [0,0,0,0] (qe (jx_then (qi h (fun h => ?_) (fun h => ?_)))))))
   ·refine jc_skip (jx_then (jc_seq (jc_block (jc_seq (jc_seq (qg [⟨some A_b, 34, [(.int .i16 f0.fSteps), (.slice C_a f0.fHammers.length C_c)]⟩, ⟨some b_1, 104, [(.int .i16 n1.fAt), (.int .i8 n1.fPitch)]⟩, ⟨o_9966, 144, row encGChoice xs_5 sp_9968⟩, ⟨o_4, 102, row encI8 t_1 sp_6⟩, ⟨o_10, 102, row encI8 t_2 sp_12⟩] 17 (qd [⟨0, 0, 0⟩,⟨1, 1, 0⟩,⟨2, 0, 0⟩,⟨3, 0, 0⟩,⟨4, 0, 0⟩,⟨9, 0, 0⟩,⟨10, 0, 0⟩,⟨11, 0, 0⟩,⟨12, 0, 0⟩,⟨13, 0, 0⟩,⟨14, 0, 0⟩] 6 [0, 1, 2, 3, 4] ?_)))))))
    obtain ⟨x_9, hx_9979, h⟩ := bd h
    refine qv 5 0 [0, 1, 2, 3, 4] (fun w hm => idx_run (a := (o_4.map fun b => ⟨b, 0, none⟩)) (len := t_1.length) (s := 1) (j := i_6) (by kernel_rfl) (ix_some hx_9979).1 (ltn hx_9979 rfl) (spo ho_8 hx_9979)) (qv 6 0 [0, 1, 2, 3, 4] (fun w hm => ld_run (b := aB (o_4.map fun b => ⟨b, 0, none⟩)) (off := (aO (o_4.map fun b => ⟨b, 0, none⟩) + i_6.toNat * 1)) (s := 1) (agg := false) (vs := (encI8 x_9)) (by kernel_rfl) (by kernel_rfl) (.inr rfl) ((hm.ow 3 o_4 102 t_1 sp_6 (fun e => (ho_8 e).1) encI8_len).at hx_9979)) (qd [⟨7, 0, 0⟩,⟨8, 0, 0⟩] 2 [0, 1, 2, 3, 4] ?_))
    obtain ⟨t_10, ht_9980, h⟩ := bd h
    refine tD 15 (pc 0 (fun w hm => spec_l00In.calls (w64 ((w64 n1.fAt) + (w64 x_9))) 0 (w64 ((w64 f0.fSteps) - 1)) w _ ht_9980) ?_)
    rintro w v w' hm ⟨rfl, hm'⟩
    refine ⟨_, hm.app hm', kD [0, 1, 2, 3, 4] ?_⟩
    clear hm hm'
    refine qd [⟨16, 0, 0⟩] 0 [0, 1, 2, 3, 4] (qz (jx_then (qi h (fun h => ?_) (fun h => ?_))))
    ·exact jc_exit (jx_thenx (jx_ine (jx_then (jc_region (qh [0,0,0] (qe (qb (xs_5, (w64 (i_6 + 1))) ⟨o_9966, cap_9967, sp_9968, xs_5.length⟩ h ⟨rfl, hs_9970, ho_9971⟩ [0, 1, 2, 3, 4])))))))
    ·refine jc_skip (jx_then (jc_seq (jc_region (qh [0] (qe (jx_then (jc_meet (fun (j : (List GChoice) × (Option Nat) × Nat × (List Value) × Nat) => match j with | ⟨xs_11, o_10424, cap_10425, sp_10426, n_10427⟩ => spec_l07For.k_12 i_6 xs_11 = some y_9973 ∧ (xs_11.length = n_10427) ∧ ((o_10424 ≠ none → n_10427 ≤ cap_10425 ∧ sp_10426.length = (cap_10425 - n_10427) * 4)) ∧ ((o_10424 = none → xs_11 = [] ∧ cap_10425 = 0))) (fun (j : (List GChoice) × (Option Nat) × Nat × (List Value) × Nat) => match j with | ⟨xs_11, o_10424, cap_10425, sp_10426, n_10427⟩ => [(0, [], (.pointer (some ⟨A_b, 0, none⟩))), (3, [], (.pointer (some ⟨b_1, 0, none⟩))), (4, [], (.slice none 0 0)), (5, [], (.slice (o_10424.map fun b => ⟨b, 0, none⟩) n_10427 cap_10425)), (6, [], (.slice (o_4.map fun b => ⟨b, 0, none⟩) t_1.length cap_5)), (7, [], (.slice (o_10.map fun b => ⟨b, 0, none⟩) t_2.length cap_11)), (8, [], (.int .i64 i_6))]) (fun (j : (List GChoice) × (Option Nat) × Nat × (List Value) × Nat) => match j with | ⟨xs_11, o_10424, cap_10425, sp_10426, n_10427⟩ => [⟨some A_b, 34, [(.int .i16 f0.fSteps), (.slice C_a f0.fHammers.length C_c)]⟩, ⟨some b_1, 104, [(.int .i16 n1.fAt), (.int .i8 n1.fPitch)]⟩, ⟨o_10424, 144, row encGChoice xs_11 sp_10426⟩, ⟨o_4, 102, row encI8 t_1 sp_6⟩, ⟨o_10, 102, row encI8 t_2 sp_12⟩]) ?_ ?_)))))))
     ·refine jc_block ?_
      obtain ⟨t_16, ht_10871, hr_10726⟩ := bd h
      refine jc_loop (fun (s : (List GChoice) × Int) (x : (Option Nat) × Nat × (List Value) × Nat) => match s, x with | ⟨xs_13, i_14⟩, ⟨o_10720, cap_10721, sp_10722, n_10723⟩ => (xs_13.length = n_10723) ∧ ((o_10720 ≠ none → n_10723 ≤ cap_10721 ∧ sp_10722.length = (cap_10721 - n_10723) * 4)) ∧ ((o_10720 = none → xs_13 = [] ∧ cap_10721 = 0))) (fun (s : (List GChoice) × Int) (x : (Option Nat) × Nat × (List Value) × Nat) => match s, x with | ⟨xs_13, i_14⟩, ⟨o_10720, cap_10721, sp_10722, n_10723⟩ => [(0, [], (.pointer (some ⟨A_b, 0, none⟩))), (3, [], (.pointer (some ⟨b_1, 0, none⟩))), (4, [], (.slice none 0 0)), (5, [], (.slice (o_10720.map fun b => ⟨b, 0, none⟩) n_10723 cap_10721)), (6, [], (.slice (o_4.map fun b => ⟨b, 0, none⟩) t_1.length cap_5)), (7, [], (.slice (o_10.map fun b => ⟨b, 0, none⟩) t_2.length cap_11)), (8, [], (.int .i64 i_6)), (9, [], (.int .i64 i_14))]) (fun (s : (List GChoice) × Int) (x : (Option Nat) × Nat × (List Value) × Nat) => match s, x with | ⟨xs_13, i_14⟩, ⟨o_10720, cap_10721, sp_10722, n_10723⟩ => [⟨some A_b, 34, [(.int .i16 f0.fSteps), (.slice C_a f0.fHammers.length C_c)]⟩, ⟨some b_1, 104, [(.int .i16 n1.fAt), (.int .i8 n1.fPitch)]⟩, ⟨o_10720, 144, row encGChoice xs_13 sp_10722⟩, ⟨o_4, 102, row encI8 t_1 sp_6⟩, ⟨o_10, 102, row encI8 t_2 sp_12⟩]) ht_10871 ⟨o_9966, cap_9967, sp_9968, xs_5.length⟩ ⟨rfl, hs_9970, ho_9971⟩ (by kernel_rfl) [0, 1, 2, 3, 4] (by kernel_rfl) (by kernel_rfl) ?_
      rintro ⟨xs_13, i_14⟩ ⟨o_10720, cap_10721, sp_10722, n_10723⟩ y_10727 ⟨rfl, hs_10724, ho_10725⟩ h
      rw [spec_l07For.l_15] at h
      refine jc_seq (jc_seq (jc_region (qh [0,0,0,0] (qe (jx_then (qi h (fun h => ?_) (fun h => ?_)))))))
      ·refine jc_skip (jx_then (jc_seq (jc_block (jc_seq (jc_region (qh [0] (qe (jx_then (jc_meet (fun (j : (List GChoice) × (Option Nat) × Nat × (List Value) × Nat) => match j with | ⟨xs_17, o_10797, cap_10798, sp_10799, n_10800⟩ => spec_l07For.k_18 i_14 xs_17 = some y_10727 ∧ (xs_17.length = n_10800) ∧ ((o_10797 ≠ none → n_10800 ≤ cap_10798 ∧ sp_10799.length = (cap_10798 - n_10800) * 4)) ∧ ((o_10797 = none → xs_17 = [] ∧ cap_10798 = 0))) (fun (j : (List GChoice) × (Option Nat) × Nat × (List Value) × Nat) => match j with | ⟨xs_17, o_10797, cap_10798, sp_10799, n_10800⟩ => [(0, [], (.pointer (some ⟨A_b, 0, none⟩))), (3, [], (.pointer (some ⟨b_1, 0, none⟩))), (4, [], (.slice none 0 0)), (5, [], (.slice (o_10797.map fun b => ⟨b, 0, none⟩) n_10800 cap_10798)), (6, [], (.slice (o_4.map fun b => ⟨b, 0, none⟩) t_1.length cap_5)), (7, [], (.slice (o_10.map fun b => ⟨b, 0, none⟩) t_2.length cap_11)), (8, [], (.int .i64 i_6)), (9, [], (.int .i64 i_14))]) (fun (j : (List GChoice) × (Option Nat) × Nat × (List Value) × Nat) => match j with | ⟨xs_17, o_10797, cap_10798, sp_10799, n_10800⟩ => [⟨some A_b, 34, [(.int .i16 f0.fSteps), (.slice C_a f0.fHammers.length C_c)]⟩, ⟨some b_1, 104, [(.int .i16 n1.fAt), (.int .i8 n1.fPitch)]⟩, ⟨o_10797, 144, row encGChoice xs_17 sp_10799⟩, ⟨o_4, 102, row encI8 t_1 sp_6⟩, ⟨o_10, 102, row encI8 t_2 sp_12⟩]) ?_ ?_)))))))))
       ·refine jc_block ?_
        obtain ⟨t_22, ht_10869, hr_10849⟩ := bd h
        refine jc_loop (fun (s : (List GChoice) × Int) (x : (Option Nat) × Nat × (List Value) × Nat) => match s, x with | ⟨xs_19, i_20⟩, ⟨o_10843, cap_10844, sp_10845, n_10846⟩ => (xs_19.length = n_10846) ∧ ((o_10843 ≠ none → n_10846 ≤ cap_10844 ∧ sp_10845.length = (cap_10844 - n_10846) * 4)) ∧ ((o_10843 = none → xs_19 = [] ∧ cap_10844 = 0))) (fun (s : (List GChoice) × Int) (x : (Option Nat) × Nat × (List Value) × Nat) => match s, x with | ⟨xs_19, i_20⟩, ⟨o_10843, cap_10844, sp_10845, n_10846⟩ => [(0, [], (.pointer (some ⟨A_b, 0, none⟩))), (3, [], (.pointer (some ⟨b_1, 0, none⟩))), (4, [], (.slice none 0 0)), (5, [], (.slice (o_10843.map fun b => ⟨b, 0, none⟩) n_10846 cap_10844)), (6, [], (.slice (o_4.map fun b => ⟨b, 0, none⟩) t_1.length cap_5)), (7, [], (.slice (o_10.map fun b => ⟨b, 0, none⟩) t_2.length cap_11)), (8, [], (.int .i64 i_6)), (9, [], (.int .i64 i_14)), (10, [], (.int .i64 i_20))]) (fun (s : (List GChoice) × Int) (x : (Option Nat) × Nat × (List Value) × Nat) => match s, x with | ⟨xs_19, i_20⟩, ⟨o_10843, cap_10844, sp_10845, n_10846⟩ => [⟨some A_b, 34, [(.int .i16 f0.fSteps), (.slice C_a f0.fHammers.length C_c)]⟩, ⟨some b_1, 104, [(.int .i16 n1.fAt), (.int .i8 n1.fPitch)]⟩, ⟨o_10843, 144, row encGChoice xs_19 sp_10845⟩, ⟨o_4, 102, row encI8 t_1 sp_6⟩, ⟨o_10, 102, row encI8 t_2 sp_12⟩]) ht_10869 ⟨o_10720, cap_10721, sp_10722, xs_13.length⟩ ⟨rfl, hs_10724, ho_10725⟩ (by kernel_rfl) [0, 1, 2, 3, 4] (by kernel_rfl) (by kernel_rfl) ?_
        rintro ⟨xs_19, i_20⟩ ⟨o_10843, cap_10844, sp_10845, n_10846⟩ y_10850 ⟨rfl, hs_10847, ho_10848⟩ h
        rw [spec_l07For.l_21] at h
        refine jc_seq (jc_seq (jc_region (qh [0,0,0,0,0,0,0] (qe (jx_then (qi h (fun h => ?_) (fun h => ?_)))))))
        ·refine jc_skip (jx_then (jc_seq (jc_block (jc_seq (qg [⟨some A_b, 34, [(.int .i16 f0.fSteps), (.slice C_a f0.fHammers.length C_c)]⟩, ⟨some b_1, 104, [(.int .i16 n1.fAt), (.int .i8 n1.fPitch)]⟩, ⟨o_10843, 144, row encGChoice xs_19 sp_10845⟩, ⟨o_4, 102, row encI8 t_1 sp_6⟩, ⟨o_10, 102, row encI8 t_2 sp_12⟩] 17 (qd [⟨0, 0, 0⟩,⟨1, 0, 0⟩,⟨2, 0, 0⟩,⟨3, 0, 0⟩,⟨4, 0, 0⟩,⟨8, 0, 0⟩,⟨9, 1, 0⟩,⟨10, 0, 0⟩,⟨11, 0, 0⟩] 8 [0, 1, 2, 3, 4] ?_))))))
         obtain ⟨x_23, hx_10853, h⟩ := bd h
         refine qv 5 0 [0, 1, 2, 3, 4] (fun w hm => idx_run (a := C_a) (len := f0.fHammers.length) (s := 2) (j := i_20) (by kernel_rfl) (ix_some hx_10853).1 (ltn hx_10853 rfl) (C_h.sp hx_10853)) (qd [⟨6, 0, 0⟩] 6 [0, 1, 2, 3, 4] (qv 7 0 [0, 1, 2, 3, 4] (fun w hm => ld_run (b := aB C_a) (off := (aO C_a + i_20.toNat * 2)) (s := 1) (agg := false) (vs := (((encGHammer x_23).drop 0).take 1)) (by kernel_rfl) (by kernel_rfl) (.inr rfl) (((hm.exRowW C_h C_ha).at hx_10853).sub 0 1)) ?_))
         obtain ⟨x_24, hx_10854, h⟩ := bd h
         refine qv 12 0 [0, 1, 2, 3, 4] (fun w hm => idx_run (a := (o_10.map fun b => ⟨b, 0, none⟩)) (len := t_2.length) (s := 1) (j := i_14) (by kernel_rfl) (ix_some hx_10854).1 (ltn hx_10854 rfl) (spo ho_14 hx_10854)) (qv 13 0 [0, 1, 2, 3, 4] (fun w hm => ld_run (b := aB (o_10.map fun b => ⟨b, 0, none⟩)) (off := (aO (o_10.map fun b => ⟨b, 0, none⟩) + i_14.toNat * 1)) (s := 1) (agg := false) (vs := (encI8 x_24)) (by kernel_rfl) (by kernel_rfl) (.inr rfl) ((hm.ow 4 o_10 102 t_2 sp_12 (fun e => (ho_14 e).1) encI8_len).at hx_10854)) (qd [⟨14, 0, 0⟩,⟨15, 0, 0⟩,⟨16, 0, 0⟩] 0 [0, 1, 2, 3, 4] (qz (jx_then (qi h (fun h => ?_) (fun h => ?_))))))
         ·refine qg [⟨some A_b, 34, [(.int .i16 f0.fSteps), (.slice C_a f0.fHammers.length C_c)]⟩, ⟨some b_1, 104, [(.int .i16 n1.fAt), (.int .i8 n1.fPitch)]⟩, ⟨o_4, 102, row encI8 t_1 sp_6⟩, ⟨o_10, 102, row encI8 t_2 sp_12⟩] 15 (qd [⟨0, 0, 0⟩,⟨1, 0, 0⟩,⟨2, 0, 0⟩,⟨5, 0, 0⟩,⟨6, 0, 0⟩,⟨9, 0, 0⟩,⟨10, 0, 0⟩] 8 [0, 1, 3, 4] ?_)
          obtain ⟨x_25, hx_10859, h⟩ := bd h
          refine qv 3 0 [0, 1, 3, 4] (fun w hm => idx_run (a := (o_4.map fun b => ⟨b, 0, none⟩)) (len := t_1.length) (s := 1) (j := i_6) (by kernel_rfl) (ix_some hx_10859).1 (ltn hx_10859 rfl) (spo ho_8 hx_10859)) (qv 4 0 [0, 1, 3, 4] (fun w hm => ld_run (b := aB (o_4.map fun b => ⟨b, 0, none⟩)) (off := (aO (o_4.map fun b => ⟨b, 0, none⟩) + i_6.toNat * 1)) (s := 1) (agg := false) (vs := (encI8 x_25)) (by kernel_rfl) (by kernel_rfl) (.inr rfl) ((hm.ow 2 o_4 102 t_1 sp_6 (fun e => (ho_8 e).1) encI8_len).at hx_10859)) ?_)
          obtain ⟨x_26, hx_10860, h⟩ := bd h
          refine qv 7 0 [0, 1, 3, 4] (fun w hm => idx_run (a := (o_10.map fun b => ⟨b, 0, none⟩)) (len := t_2.length) (s := 1) (j := i_14) (by kernel_rfl) (ix_some hx_10860).1 (ltn hx_10860 rfl) (spo ho_14 hx_10860)) (qv 8 0 [0, 1, 3, 4] (fun w hm => ld_run (b := aB (o_10.map fun b => ⟨b, 0, none⟩)) (off := (aO (o_10.map fun b => ⟨b, 0, none⟩) + i_14.toNat * 1)) (s := 1) (agg := false) (vs := (encI8 x_26)) (by kernel_rfl) (by kernel_rfl) (.inr rfl) ((hm.ow 3 o_10 102 t_2 sp_12 (fun e => (ho_14 e).1) encI8_len).at hx_10860)) (qd [⟨11, 0, 0⟩] 3 [0, 1, 3, 4] (tD 12 (qa 0 (fun b_10861 => kD [0, 1, 3, 4] ?_)))))
          obtain ⟨hg_10862, h⟩ := gd h
          exact tD 13 (p_apn 0 2 o_10843 144 xs_19.length 1 cap_10844 4 4 (some ⟨b_10861, 0, none⟩) encGChoice xs_19 ([(⟨false, x_25, x_26, (w8 i_20)⟩ : GChoice)] : List GChoice) sp_10845 (.agg #[(.bool false), (.int .i8 0), (.int .i8 0), (.int .i8 0)]) rfl rfl (by kernel_rfl) (by kernel_rfl) (by kernel_rfl) encGChoice_len encGChoice_cell hs_10847 ho_10848 (fun w hm => (hm.ow 5 (some b_10861) 144 ([(⟨false, x_25, x_26, (w8 i_20)⟩ : GChoice)] : List GChoice) [] (fun e => nomatch e) encGChoice_len)) hg_10862 (by kernel_rfl) (by kernel_rfl) (fun o_10863 cap_10864 sp_10865 hs_10866 ho_10867 => kD [0, 1, 3, 4] (qd [⟨14, 0, 0⟩] 0 [0, 1, 3, 4] (qz (jx_inn (jx_then (jc_region (qh [0,0,0] (qe (qb ((xs_19 ++ ([(⟨false, x_25, x_26, (w8 i_20)⟩ : GChoice)] : List GChoice)), (w64 (i_20 + 1))) ⟨o_10863, cap_10864, sp_10865, (xs_19 ++ ([(⟨false, x_25, x_26, (w8 i_20)⟩ : GChoice)] : List GChoice)).length⟩ h ⟨rfl, hs_10866, ho_10867⟩ [0, 1, 2, 3, 4]))))))))))
         ·exact jc_skip (jx_inn (jx_then (jc_region (qh [0,0,0] (qe (qb (xs_19, (w64 (i_20 + 1))) ⟨o_10843, cap_10844, sp_10845, xs_19.length⟩ h ⟨rfl, hs_10847, ho_10848⟩ [0, 1, 2, 3, 4]))))))
        ·refine jc_exit (jx_thenx (jx_leave xs_19 (Option.some.inj h).symm (fun e_10868 => ?_)))
         subst e_10868
         exact jx_ine (qm ⟨xs_19, o_10843, cap_10844, sp_10845, xs_19.length⟩ ⟨hr_10849, rfl, hs_10847, ho_10848⟩ [0, 1, 2, 3, 4])
       ·rintro ⟨xs_17, o_10797, cap_10798, sp_10799, n_10800⟩ ⟨h, rfl, hs_10801, ho_10802⟩
        replace h : spec_l07For.k_18 i_14 xs_17 = some y_10727 := h
        rw [spec_l07For.k_18] at h
        exact jx_inn (jx_then (jc_region (qh [0,0,0] (qe (qb (xs_17, (w64 (i_14 + 1))) ⟨o_10797, cap_10798, sp_10799, xs_17.length⟩ h ⟨rfl, hs_10801, ho_10802⟩ [0, 1, 2, 3, 4])))))
      ·refine jc_exit (jx_thenx (jx_leave xs_13 (Option.some.inj h).symm (fun e_10870 => ?_)))
       subst e_10870
       exact jx_ine (qm ⟨xs_13, o_10720, cap_10721, sp_10722, xs_13.length⟩ ⟨hr_10726, rfl, hs_10724, ho_10725⟩ [0, 1, 2, 3, 4])
     ·rintro ⟨xs_11, o_10424, cap_10425, sp_10426, n_10427⟩ ⟨h, rfl, hs_10428, ho_10429⟩
      replace h : spec_l07For.k_12 i_6 xs_11 = some y_9973 := h
      rw [spec_l07For.k_12] at h
      exact jx_inn (jx_then (jc_region (qh [0,0,0] (qe (qb (xs_11, (w64 (i_6 + 1))) ⟨o_10424, cap_10425, sp_10426, xs_11.length⟩ h ⟨rfl, hs_10428, ho_10429⟩ [0, 1, 2, 3, 4])))))
   ·refine jc_exit (jx_thenx (jx_leave xs_5 (Option.some.inj h).symm (fun e_10872 => ?_)))
    subst e_10872
    exact jx_ine (qm ⟨xs_5, o_9966, cap_9967, sp_9968, xs_5.length⟩ ⟨hr_9972, rfl, hs_9970, ho_9971⟩ [0, 1, 2, 3, 4])
  ·rintro ⟨xs_3, o_8151, cap_8152, sp_8153, n_8154⟩ ⟨h, rfl, hs_8155, ho_8156⟩
   replace h : spec_l07For.k_4 xs_3 = some r := h
   rw [spec_l07For.k_4] at h
   refine jx_then (jc_seq (jc_region (qh [0,0] (tO (qa 0 (fun b_8157 => jkO ?_))))))
   obtain ⟨hg_8158, h⟩ := gd h
   refine tO (p_apn 0 2 o_8151 144 xs_3.length 1 cap_8152 4 4 (some ⟨b_8157, 0, none⟩) encGChoice xs_3 ([(⟨true, 0, 0, 0⟩ : GChoice)] : List GChoice) sp_8153 (.agg #[(.bool false), (.int .i8 0), (.int .i8 0), (.int .i8 0)]) rfl rfl (by kernel_rfl) (by kernel_rfl) (by kernel_rfl) encGChoice_len encGChoice_cell hs_8155 ho_8156 (fun w hm => (hm.ow 5 (some b_8157) 144 ([(⟨true, 0, 0, 0⟩ : GChoice)] : List GChoice) [] (fun e => nomatch e) encGChoice_len)) hg_8158 (by kernel_rfl) (by kernel_rfl) (fun o_8159 cap_8160 sp_8161 hs_8162 ho_8163 => jkO (qh [0] (qe (jx_then (jc_ret ?_))))))
   obtain rfl := Option.some.inj h
   exact qr [] (fun w hm => ⟨o_8159, cap_8160, sp_8161, ((xs_3 ++ ([(⟨true, 0, 0, 0⟩ : GChoice)] : List GChoice)).length), rfl, hs_8162, ho_8163, rfl, hm.pk [0, 2]⟩)
/-! ### spec.l07Cost -/
def spec_l07Cost.k_4 (i_3 : Int) : Option (Int) := some i_3
def spec_l07Cost.k_2 (c0 : GCosts) (x1 : GChoice) (i_1 : Int) : Option (Int) := (if (x1.fOctave != 0) = true then spec_l07Cost.k_4 (w64 ((w64 ((w64 c0.fStep) * i_1)) + (w64 c0.fOctave))) else spec_l07Cost.k_4 (w64 ((w64 c0.fStep) * i_1)))
def spec_l07Cost (c0 : GCosts) (x1 : GChoice) : Option (Int) := (if x1.fAway = true then some (w64 c0.fAway) else (if (decide ((w64 x1.fLate) < 0)) = true then spec_l07Cost.k_2 c0 x1 (w64 (0 - (w64 x1.fLate))) else spec_l07Cost.k_2 c0 x1 (w64 x1.fLate)))
theorem spec_l07Cost.calls (c0 : GCosts) (x1 : GChoice) (w : World) (r : Int) (h : spec_l07Cost c0 x1 = some r) :
    Calls Try.prog 164 #[(.agg #[(.int .i16 c0.fAway), (.int .i16 c0.fOctave), (.int .i16 c0.fStep)]), (.agg #[(.bool x1.fAway), (.int .i8 x1.fLate), (.int .i8 x1.fOctave), (.int .i8 x1.fTrack)])] w fun e w' => ∃ v, e = .returned v ∧ (v = (.int .i64 r) ∧ Mem w [] [] w') := by
  rw [spec_l07Cost] at h
  refine enter (args := [(.agg #[(.int .i16 c0.fAway), (.int .i16 c0.fOctave), (.int .i16 c0.fStep)]), (.agg #[(.bool x1.fAway), (.int .i8 x1.fLate), (.int .i8 x1.fOctave), (.int .i8 x1.fTrack)])]) Try.func164 rfl Try.ntmps164 (by kernel_rfl) (L := []) (W := []) (Mem.start w) ?_
  refine jc_seq (jc_region (tO (qa 0 (fun b_1 => jkO (tO (qa 0 (fun b_2 => jkO (qh [0] (qe (jx_then (jc_seq (jc_seq (jc_region (qh [0,1] (qe (jx_then (qi h (fun h => ?_) (fun h => ?_))))))))))))))))))
  ·refine jc_seq (jc_region (qh [0,0,0,0] (qe (jx_then (jc_ret (jx_thenr ?_))))))
   obtain rfl := Option.some.inj h
   exact qr [] (fun w hm => ⟨rfl, hm.pk []⟩)
  ·refine jc_skip (jx_then (jc_seq (jc_region (qh [0,1,0,0] (qe (jx_then (jc_seq (jc_meet (fun (j : Int) => match j with | i_1 => spec_l07Cost.k_2 c0 x1 i_1 = some r) (fun (j : Int) => match j with | i_1 => [(2, [], (.pointer (some ⟨b_1, 0, none⟩))), (3, [], (.pointer (some ⟨b_2, 0, none⟩))), (4, [], (.int .i64 0)), (5, [], (.int .i64 i_1))]) (fun (j : Int) => match j with | i_1 => [⟨some b_1, 74, [(.int .i16 c0.fAway), (.int .i16 c0.fOctave), (.int .i16 c0.fStep)]⟩, ⟨some b_2, 144, [(.bool x1.fAway), (.int .i8 x1.fLate), (.int .i8 x1.fOctave), (.int .i8 x1.fTrack)]⟩]) ?_ ?_))))))))
   ·refine jc_seq (jc_region (qh [0,0] (qe (jx_then (qi h (fun h => ?_) (fun h => ?_))))))
    ·exact jc_region (qh [0,0,0] (qe (qm (w64 (0 - (w64 x1.fLate))) h [0, 1])))
    ·exact jc_skip (qm (w64 x1.fLate) h [0, 1])
   ·rintro i_1 h
    replace h : spec_l07Cost.k_2 c0 x1 i_1 = some r := h
    rw [spec_l07Cost.k_2] at h
    refine jx_then (jc_seq (jc_region (qh [0,0,0,0,0,0] (qe (jx_then (jc_seq (jc_meet (fun (j : Int) => match j with | i_3 => spec_l07Cost.k_4 i_3 = some r) (fun (j : Int) => match j with | i_3 => [(4, [], (.int .i64 0)), (6, [], (.int .i64 i_3))]) (fun (j : Int) => match j with | i_3 => [⟨some b_1, 74, [(.int .i16 c0.fAway), (.int .i16 c0.fOctave), (.int .i16 c0.fStep)]⟩, ⟨some b_2, 144, [(.bool x1.fAway), (.int .i8 x1.fLate), (.int .i8 x1.fOctave), (.int .i8 x1.fTrack)]⟩]) ?_ ?_)))))))
    ·refine jc_seq (jc_region (qh [0,1,0] (qe (jx_then (qi h (fun h => ?_) (fun h => ?_))))))
     ·exact jc_region (qh [0,0,0,0,0,0] (qe (qm (w64 ((w64 ((w64 c0.fStep) * i_1)) + (w64 c0.fOctave))) h [0, 1])))
     ·exact jc_skip (qm (w64 ((w64 c0.fStep) * i_1)) h [0, 1])
    ·rintro i_3 h
     replace h : spec_l07Cost.k_4 i_3 = some r := h
     rw [spec_l07Cost.k_4] at h
     refine jx_then (jc_seq (jc_region (qh [0,0] (qe (jx_then (jc_ret ?_))))))
     obtain rfl := Option.some.inj h
     exact qr [] (fun w hm => ⟨rfl, hm.pk []⟩)
/-! ### spec.l07Ordered -/
def spec_l07Ordered.k_3 (xs_2 : List GChoice) : Option ((List GChoice)) := some xs_2
def spec_l07Ordered.k_9 (i_5 : Int) (xs_8 : List GChoice) : Option (((List GChoice) × Int) ⊕ ((List GChoice))) := some (.inl (xs_8, (w64 (i_5 + 1))))
def spec_l07Ordered.l_12 (c2 : GCosts) : ((List GChoice) × Int) → Option (((List GChoice) × Int) ⊕ ((List GChoice)))
  | (xs_10, i_11) => (if (decide (i_11 > 0)) = true then (ix xs_10 i_11).bind fun x_14 => (ix xs_10 (w64 (i_11 - 1))).bind fun x_15 => (spec_l07Cost c2 x_14).bind fun t_16 => (spec_l07Cost c2 x_15).bind fun t_17 => (if (decide (t_16 < t_17)) = true then (ix xs_10 i_11).bind fun x_18 => (ix xs_10 (w64 (i_11 - 1))).bind fun x_19 => (ix xs_10 i_11).bind fun x_20 => (ix (xs_10.set i_11.toNat x_19) (w64 (i_11 - 1))).bind fun x_21 => some (.inl (((xs_10.set i_11.toNat x_19).set (w64 (i_11 - 1)).toNat x_18), (w64 (i_11 - 1)))) else some (.inr xs_10)) else some (.inr xs_10))
def spec_l07Ordered.l_6 (c2 : GCosts) (t_1 : (List GChoice)) : ((List GChoice) × Int) → Option (((List GChoice) × Int) ⊕ ((List GChoice)))
  | (xs_4, i_5) => (if (decide (i_5 < (t_1.length : Int))) = true then (loop (spec_l07Ordered.l_12 c2) (xs_4, i_5)).bind fun t_13 => spec_l07Ordered.k_9 i_5 t_13 else some (.inr xs_4))
def spec_l07Ordered (f0 : GFrame) (n1 : GNote) (c2 : GCosts) : Option ((List GChoice)) := (spec_l07For f0 n1).bind fun t_1 => (loop (spec_l07Ordered.l_6 c2 t_1) (t_1, 1)).bind fun t_7 => spec_l07Ordered.k_3 t_7
theorem spec_l07Ordered.calls (f0 : GFrame) (n1 : GNote) (c2 : GCosts) (w : World) (r : (List GChoice)) {C_a : Option Addr} {C_an : Nat} (C_c : Nat) (C_h : Rw w C_a 2 encGHammer f0.fHammers) (C_hn : f0.fHammers.length = C_an) (A_b : Nat) (hm0 : Mem w (bs [some A_b]) [⟨some A_b, 34, [(.int .i16 f0.fSteps), (.slice C_a C_an C_c)]⟩] w) (C_ha : f0.fHammers ≠ [] → aB C_a ∉ bs [some A_b]) (h : spec_l07Ordered f0 n1 c2 = some r) :
    Calls Try.prog 128 #[(.pointer (some ⟨A_b, 0, none⟩)), (.agg #[(.int .i16 n1.fAt), (.int .i8 n1.fPitch)]), (.agg #[(.int .i16 c2.fAway), (.int .i16 c2.fOctave), (.int .i16 c2.fStep)])] w fun e w' => ∃ v, e = .returned v ∧ (∃ (o0 : Option Nat) (c0 : Nat) (s0 : List Value) (n0 : Nat), r.length = n0 ∧ (o0 ≠ none → n0 ≤ c0 ∧ s0.length = (c0 - n0) * 4) ∧ (o0 = none → r = [] ∧ c0 = 0) ∧ v = .slice (o0.map fun b => ⟨b, 0, none⟩) n0 c0 ∧ Mem w (bs [some A_b]) [⟨some A_b, 34, [(.int .i16 f0.fSteps), (.slice C_a C_an C_c)]⟩, ⟨o0, 144, row encGChoice r s0⟩] w') := by
  subst C_hn
  rw [spec_l07Ordered] at h
  refine enter (args := [(.pointer (some ⟨A_b, 0, none⟩)), (.agg #[(.int .i16 n1.fAt), (.int .i8 n1.fPitch)]), (.agg #[(.int .i16 c2.fAway), (.int .i16 c2.fOctave), (.int .i16 c2.fStep)])]) Try.func128 rfl Try.ntmps128 (by kernel_rfl) (L := [⟨some A_b, 34, [(.int .i16 f0.fSteps), (.slice C_a f0.fHammers.length C_c)]⟩]) (W := bs [some A_b]) hm0 ?_
  refine jc_seq (jc_region (tO (qa 0 (fun b_1 => jkO (tO (qa 0 (fun b_2 => jkO (qh [0] (qe (jx_then (jc_seq (jc_region (qh [0,1] ?_)))))))))))))
  obtain ⟨t_1, ht_3, h⟩ := bd h
  refine tO (pc 0 (fun w hm => spec_l07For.calls f0 n1 w _ C_c (hm.exRowW C_h C_ha) rfl A_b (hm.pass (N := [⟨some A_b, 34, [(.int .i16 f0.fSteps), (.slice C_a f0.fHammers.length C_c)]⟩]) [0] (by kernel_rfl) (by kernel_rfl)) (hm.exApart (N := [⟨some A_b, 34, [(.int .i16 f0.fSteps), (.slice C_a f0.fHammers.length C_c)]⟩]) C_h C_ha [0] (by kernel_rfl)) ht_3) ?_)
  rintro w v w' hm ⟨o_4, cap_5, sp_6, _, rfl, hs_7, ho_8, rfl, hm'⟩
  refine ⟨_, hm.appW (ps := [(0, ⟨some A_b, 34, [(.int .i16 f0.fSteps), (.slice C_a f0.fHammers.length C_c)]⟩)]) (N := [⟨o_4, 144, row encGChoice t_1 sp_6⟩]) hm' (by kernel_rfl) (by kernel_rfl), jkO ?_⟩
  clear hm hm'
  refine qh [0] (qe (jx_then (jc_seq (jc_seq (jc_region (qh [0] (qe (jx_then (jc_meet (fun (j : (List GChoice)) => match j with | xs_2 => spec_l07Ordered.k_3 xs_2 = some r ∧ (xs_2.length = t_1.length) ∧ ((o_4 = none → xs_2 = [] ∧ cap_5 = 0))) (fun (j : (List GChoice)) => match j with | xs_2 => [(6, [], (.slice none 0 0)), (7, [], (.slice (o_4.map fun b => ⟨b, 0, none⟩) t_1.length cap_5))]) (fun (j : (List GChoice)) => match j with | xs_2 => [⟨some A_b, 34, [(.int .i16 f0.fSteps), (.slice C_a f0.fHammers.length C_c)]⟩, ⟨some b_1, 104, [(.int .i16 n1.fAt), (.int .i8 n1.fPitch)]⟩, ⟨some b_2, 74, [(.int .i16 c2.fAway), (.int .i16 c2.fOctave), (.int .i16 c2.fStep)]⟩, ⟨o_4, 144, row encGChoice xs_2 sp_6⟩]) ?_ ?_)))))))))
  ·refine jc_block ?_
   obtain ⟨t_7, ht_1676, hr_1537⟩ := bd h
   refine jc_loop (fun (s : (List GChoice) × Int) (x : Unit) => match s, x with | ⟨xs_4, i_5⟩, _ => (xs_4.length = t_1.length) ∧ ((o_4 = none → xs_4 = [] ∧ cap_5 = 0))) (fun (s : (List GChoice) × Int) (x : Unit) => match s, x with | ⟨xs_4, i_5⟩, _ => [(5, [], (.pointer (some ⟨b_2, 0, none⟩))), (6, [], (.slice none 0 0)), (7, [], (.slice (o_4.map fun b => ⟨b, 0, none⟩) t_1.length cap_5)), (8, [], (.int .i64 i_5))]) (fun (s : (List GChoice) × Int) (x : Unit) => match s, x with | ⟨xs_4, i_5⟩, _ => [⟨some A_b, 34, [(.int .i16 f0.fSteps), (.slice C_a f0.fHammers.length C_c)]⟩, ⟨some b_1, 104, [(.int .i16 n1.fAt), (.int .i8 n1.fPitch)]⟩, ⟨some b_2, 74, [(.int .i16 c2.fAway), (.int .i16 c2.fOctave), (.int .i16 c2.fStep)]⟩, ⟨o_4, 144, row encGChoice xs_4 sp_6⟩]) ht_1676 () ⟨rfl, ho_8⟩ (by kernel_rfl) [0, 1, 2, 3] (by kernel_rfl) (by kernel_rfl) ?_
   rintro ⟨xs_4, i_5⟩ _ y_1538 ⟨hn_1536, ho_1535⟩ h
   rw [spec_l07Ordered.l_6] at h
   refine jc_seq (jc_seq (jc_region (qh [0,0,0,0] (qe (jx_then (qi h (fun h => ?_) (fun h => ?_)))))))
   ·refine jc_skip (jx_then (jc_seq (jc_block (jc_seq (jc_region (qh [0,0] (qe (jx_then (jc_meet (fun (j : (List GChoice)) => match j with | xs_8 => spec_l07Ordered.k_9 i_5 xs_8 = some y_1538 ∧ (xs_8.length = t_1.length) ∧ ((o_4 = none → xs_8 = [] ∧ cap_5 = 0))) (fun (j : (List GChoice)) => match j with | xs_8 => [(5, [], (.pointer (some ⟨b_2, 0, none⟩))), (6, [], (.slice none 0 0)), (7, [], (.slice (o_4.map fun b => ⟨b, 0, none⟩) t_1.length cap_5)), (8, [], (.int .i64 i_5))]) (fun (j : (List GChoice)) => match j with | xs_8 => [⟨some A_b, 34, [(.int .i16 f0.fSteps), (.slice C_a f0.fHammers.length C_c)]⟩, ⟨some b_1, 104, [(.int .i16 n1.fAt), (.int .i8 n1.fPitch)]⟩, ⟨some b_2, 74, [(.int .i16 c2.fAway), (.int .i16 c2.fOctave), (.int .i16 c2.fStep)]⟩, ⟨o_4, 144, row encGChoice xs_8 sp_6⟩]) ?_ ?_)))))))))
    ·refine jc_block ?_
     obtain ⟨t_13, ht_1674, hr_1651⟩ := bd h
     refine jc_loop (fun (s : (List GChoice) × Int) (x : Unit) => match s, x with | ⟨xs_10, i_11⟩, _ => (xs_10.length = t_1.length) ∧ ((o_4 = none → xs_10 = [] ∧ cap_5 = 0))) (fun (s : (List GChoice) × Int) (x : Unit) => match s, x with | ⟨xs_10, i_11⟩, _ => [(5, [], (.pointer (some ⟨b_2, 0, none⟩))), (6, [], (.slice none 0 0)), (7, [], (.slice (o_4.map fun b => ⟨b, 0, none⟩) t_1.length cap_5)), (8, [], (.int .i64 i_5)), (9, [], (.int .i64 i_11))]) (fun (s : (List GChoice) × Int) (x : Unit) => match s, x with | ⟨xs_10, i_11⟩, _ => [⟨some A_b, 34, [(.int .i16 f0.fSteps), (.slice C_a f0.fHammers.length C_c)]⟩, ⟨some b_1, 104, [(.int .i16 n1.fAt), (.int .i8 n1.fPitch)]⟩, ⟨some b_2, 74, [(.int .i16 c2.fAway), (.int .i16 c2.fOctave), (.int .i16 c2.fStep)]⟩, ⟨o_4, 144, row encGChoice xs_10 sp_6⟩]) ht_1674 () ⟨hn_1536, ho_1535⟩ (by kernel_rfl) [0, 1, 2, 3] (by kernel_rfl) (by kernel_rfl) ?_
     rintro ⟨xs_10, i_11⟩ _ y_1652 ⟨hn_1650, ho_1649⟩ h
     rw [spec_l07Ordered.l_12] at h
     refine jc_seq (jc_seq (qg [⟨some A_b, 34, [(.int .i16 f0.fSteps), (.slice C_a f0.fHammers.length C_c)]⟩, ⟨some b_1, 104, [(.int .i16 n1.fAt), (.int .i8 n1.fPitch)]⟩, ⟨some b_2, 74, [(.int .i16 c2.fAway), (.int .i16 c2.fOctave), (.int .i16 c2.fStep)]⟩, ⟨o_4, 144, row encGChoice xs_10 sp_6⟩] 18 (qd [⟨0, 0, 0⟩,⟨1, 0, 0⟩,⟨2, 0, 0⟩,⟨3, 2, 1⟩,⟨4, 0, 1⟩,⟨5, 0, 1⟩,⟨9, 2, 1⟩,⟨10, 0, 1⟩,⟨11, 0, 1⟩,⟨12, 0, 1⟩] 8 [0, 1, 2, 3] (jd_split 23 (decide (i_11 > 0)) (by kernel_rfl) (fun hc_1660 => ?_) (fun hc_1660 => ?_)))))
     ·replace h := ifT hc_1660 h
      obtain ⟨x_14, hx_1661, h⟩ := bd h
      refine qv 6 2 [0, 1, 2, 3] (fun w hm => idx_run (a := (o_4.map fun b => ⟨b, 0, none⟩)) (len := t_1.length) (s := 4) (j := i_11) (by kernel_rfl) (ix_some hx_1661).1 (ltn hx_1661 hn_1650) (spo ho_1649 hx_1661)) (qv 7 2 [0, 1, 2, 3] (fun w hm => ld_run (b := aB (o_4.map fun b => ⟨b, 0, none⟩)) (off := (aO (o_4.map fun b => ⟨b, 0, none⟩) + i_11.toNat * 4)) (s := 4) (agg := true) (vs := (encGChoice x_14)) (by kernel_rfl) (by kernel_rfl) (.inl rfl) ((hm.ow 3 o_4 144 xs_10 sp_6 (fun e => (ho_1649 e).1) encGChoice_len).at hx_1661)) ?_)
      obtain ⟨x_15, hx_1662, h⟩ := bd h
      refine qv 13 2 [0, 1, 2, 3] (fun w hm => idx_run (a := (o_4.map fun b => ⟨b, 0, none⟩)) (len := t_1.length) (s := 4) (j := (w64 (i_11 - 1))) (by kernel_rfl) (ix_some hx_1662).1 (ltn hx_1662 hn_1650) (spo ho_1649 hx_1662)) (qv 14 2 [0, 1, 2, 3] (fun w hm => ld_run (b := aB (o_4.map fun b => ⟨b, 0, none⟩)) (off := (aO (o_4.map fun b => ⟨b, 0, none⟩) + (w64 (i_11 - 1)).toNat * 4)) (s := 4) (agg := true) (vs := (encGChoice x_15)) (by kernel_rfl) (by kernel_rfl) (.inl rfl) ((hm.ow 3 o_4 144 xs_10 sp_6 (fun e => (ho_1649 e).1) encGChoice_len).at hx_1662)) ?_)
      obtain ⟨t_16, ht_1663, h⟩ := bd h
      refine tD 8 (pc 2 (fun w hm => spec_l07Cost.calls c2 x_14 w _ ht_1663) ?_)
      rintro w v w' hm ⟨rfl, hm'⟩
      refine ⟨_, hm.app hm', kD [0, 1, 2, 3] ?_⟩
      clear hm hm'
      obtain ⟨t_17, ht_1664, h⟩ := bd h
      refine tD 15 (pc 2 (fun w hm => spec_l07Cost.calls c2 x_15 w _ ht_1664) ?_)
      rintro w v w' hm ⟨rfl, hm'⟩
      refine ⟨_, hm.app hm', kD [0, 1, 2, 3] ?_⟩
      clear hm hm'
      refine qd [⟨16, 0, 2⟩,⟨17, 0, 4⟩] 0 [0, 1, 2, 3] (qz (jx_then (qi h (fun h => ?_) (fun h => ?_))))
      ·refine jc_skip (jx_then (jc_seq (jc_block (jc_seq (jc_region (qh [0,0] ?_))))))
       obtain ⟨x_18, hx_1666, h⟩ := bd h
       refine tO (qx 0 (o_4.map fun b => ⟨b, 0, none⟩) 4 hx_1666 hn_1650 (spo ho_1649 hx_1666) (jkO (tO (ql 0 true (fun w hm => ((hm.ow 3 o_4 144 xs_10 sp_6 (fun e => (ho_1649 e).1) encGChoice_len).at hx_1666)) (jkO (tO (qa 0 (fun b_1667 => jkO (tO (qs 0 [4] (jkO (qe (jx_then (jc_seq (jc_region (qh [0,0,0,0,0] ?_))))))))))))))))
       obtain ⟨x_19, hx_1668, h⟩ := bd h
       refine tO (qx 0 (o_4.map fun b => ⟨b, 0, none⟩) 4 hx_1668 hn_1650 (spo ho_1649 hx_1668) (jkO (tO (ql 0 true (fun w hm => ((hm.ow 3 o_4 144 xs_10 sp_6 (fun e => (ho_1649 e).1) encGChoice_len).at hx_1668)) (jkO ?_)))))
       obtain ⟨x_20, hx_1669, h⟩ := bd h
       refine tO (qx 0 (o_4.map fun b => ⟨b, 0, none⟩) 4 hx_1669 hn_1650 (spo ho_1649 hx_1669) (jkO (tO (p_strO 0 3 o_4 144 encGChoice xs_10 sp_6 i_11 x_19 4 0 [(.bool x_19.fAway), (.int .i8 x_19.fLate), (.int .i8 x_19.fOctave), (.int .i8 x_19.fTrack)] (by kernel_rfl) (by kernel_rfl) (by kernel_rfl) (fun e => (ho_1649 e).1) encGChoice_len hx_1669 (by kernel_rfl) (by kernel_rfl) (jkO (qe (jx_then (jc_region (qh [0,0,0,4] ?_)))))))))
       obtain ⟨x_21, hx_1670, h⟩ := bd h
       exact tO (qx 0 (o_4.map fun b => ⟨b, 0, none⟩) 4 hx_1670 (List.length_set.trans hn_1650) (spo (set_ho ho_1649) hx_1670) (jkO (tO (p_strO 0 3 o_4 144 encGChoice (xs_10.set i_11.toNat x_19) sp_6 (w64 (i_11 - 1)) x_18 4 0 [(.bool x_18.fAway), (.int .i8 x_18.fLate), (.int .i8 x_18.fOctave), (.int .i8 x_18.fTrack)] (by kernel_rfl) (by kernel_rfl) (by kernel_rfl) (fun e => ((set_ho ho_1649) e).1) encGChoice_len hx_1670 (by kernel_rfl) (by kernel_rfl) (jkO (qe (jx_inn (jx_then (jc_region (qh [0,0,0] (qe (qb (((xs_10.set i_11.toNat x_19).set (w64 (i_11 - 1)).toNat x_18), (w64 (i_11 - 1))) () h ⟨(List.length_set.trans (List.length_set.trans hn_1650)), (set_ho (set_ho ho_1649))⟩ [0, 1, 2, 3]))))))))))))
      ·refine jc_exit (jx_thenx (jx_leave xs_10 (Option.some.inj h).symm (fun e_1671 => ?_)))
       subst e_1671
       exact jx_ine (qm xs_10 ⟨hr_1651, hn_1650, ho_1649⟩ [0, 1, 2, 3])
     ·replace h := ifF hc_1660 h
      refine qd [⟨6, 0, 3⟩,⟨7, 0, 3⟩,⟨8, 0, 3⟩,⟨13, 0, 3⟩,⟨14, 0, 3⟩,⟨15, 0, 3⟩,⟨16, 0, 3⟩,⟨17, 0, 5⟩] 0 [0, 1, 2, 3] (qz (jx_then (jc_cond false (by kernel_rfl) (fun hc_1672 => nomatch hc_1672) (fun hc_1672 => (jc_exit (jx_thenx (jx_leave xs_10 (Option.some.inj h).symm (fun e_1673 => ?_))))))))
      subst e_1673
      exact jx_ine (qm xs_10 ⟨hr_1651, hn_1650, ho_1649⟩ [0, 1, 2, 3])
    ·rintro xs_8 ⟨h, hn_1608, ho_1607⟩
     replace h : spec_l07Ordered.k_9 i_5 xs_8 = some y_1538 := h
     rw [spec_l07Ordered.k_9] at h
     exact jx_inn (jx_then (jc_region (qh [0,0,0] (qe (qb (xs_8, (w64 (i_5 + 1))) () h ⟨hn_1608, ho_1607⟩ [0, 1, 2, 3])))))
   ·refine jc_exit (jx_thenx (jx_leave xs_4 (Option.some.inj h).symm (fun e_1675 => ?_)))
    subst e_1675
    exact jx_ine (qm xs_4 ⟨hr_1537, hn_1536, ho_1535⟩ [0, 1, 2, 3])
  ·rintro xs_2 ⟨h, hn_1260, ho_1259⟩
   replace h : spec_l07Ordered.k_3 xs_2 = some r := h
   rw [spec_l07Ordered.k_3] at h
   refine jx_then (jc_seq (jc_region (qh [0,0] (qe (jx_then (jc_ret ?_))))))
   obtain rfl := Option.some.inj h
   exact qr [] (fun w hm => ⟨o_4, cap_5, sp_6, t_1.length, hn_1260, hs_7, ho_1259, rfl, hm.pk [0, 3]⟩)
/-! ### spec.l07Least -/
def spec_l07Least.k_5 (i_4 : Int) : Option (Int) := some i_4
def spec_l07Least.l_8 (c2 : GCosts) (t_1 : (List GChoice)) : (Int × Int) → Option ((Int × Int) ⊕ (Int))
  | (i_6, i_7) => (if (decide (i_7 < (t_1.length : Int))) = true then (ix t_1 i_7).bind fun x_10 => (spec_l07Cost c2 x_10).bind fun t_11 => (spec_l00Min i_6 t_11).bind fun t_12 => some (.inl (t_12, (w64 (i_7 + 1)))) else some (.inr i_6))
def spec_l07Least (f0 : GFrame) (n1 : GNote) (c2 : GCosts) : Option (Int) := (spec_l07For f0 n1).bind fun t_1 => (ix t_1 0).bind fun x_2 => (spec_l07Cost c2 x_2).bind fun t_3 => (loop (spec_l07Least.l_8 c2 t_1) (t_3, 1)).bind fun t_9 => spec_l07Least.k_5 t_9
theorem spec_l07Least.calls (f0 : GFrame) (n1 : GNote) (c2 : GCosts) (w : World) (r : Int) {C_a : Option Addr} {C_an : Nat} (C_c : Nat) (C_h : Rw w C_a 2 encGHammer f0.fHammers) (C_hn : f0.fHammers.length = C_an) (A_b : Nat) (hm0 : Mem w (bs [some A_b]) [⟨some A_b, 34, [(.int .i16 f0.fSteps), (.slice C_a C_an C_c)]⟩] w) (C_ha : f0.fHammers ≠ [] → aB C_a ∉ bs [some A_b]) (h : spec_l07Least f0 n1 c2 = some r) :
    Calls Try.prog 165 #[(.pointer (some ⟨A_b, 0, none⟩)), (.agg #[(.int .i16 n1.fAt), (.int .i8 n1.fPitch)]), (.agg #[(.int .i16 c2.fAway), (.int .i16 c2.fOctave), (.int .i16 c2.fStep)])] w fun e w' => ∃ v, e = .returned v ∧ (v = (.int .i64 r) ∧ Mem w (bs [some A_b]) [⟨some A_b, 34, [(.int .i16 f0.fSteps), (.slice C_a C_an C_c)]⟩] w') := by
  subst C_hn
  rw [spec_l07Least] at h
  refine enter (args := [(.pointer (some ⟨A_b, 0, none⟩)), (.agg #[(.int .i16 n1.fAt), (.int .i8 n1.fPitch)]), (.agg #[(.int .i16 c2.fAway), (.int .i16 c2.fOctave), (.int .i16 c2.fStep)])]) Try.func165 rfl Try.ntmps165 (by kernel_rfl) (L := [⟨some A_b, 34, [(.int .i16 f0.fSteps), (.slice C_a f0.fHammers.length C_c)]⟩]) (W := bs [some A_b]) hm0 ?_
  refine jc_seq (jc_region (tO (qa 0 (fun b_1 => jkO (tO (qa 0 (fun b_2 => jkO (qh [0] (qe (jx_then (jc_seq (jc_region (qh [0,1] ?_)))))))))))))
  obtain ⟨t_1, ht_3, h⟩ := bd h
  refine tO (pc 0 (fun w hm => spec_l07For.calls f0 n1 w _ C_c (hm.exRowW C_h C_ha) rfl A_b (hm.pass (N := [⟨some A_b, 34, [(.int .i16 f0.fSteps), (.slice C_a f0.fHammers.length C_c)]⟩]) [0] (by kernel_rfl) (by kernel_rfl)) (hm.exApart (N := [⟨some A_b, 34, [(.int .i16 f0.fSteps), (.slice C_a f0.fHammers.length C_c)]⟩]) C_h C_ha [0] (by kernel_rfl)) ht_3) ?_)
  rintro w v w' hm ⟨o_4, cap_5, sp_6, _, rfl, hs_7, ho_8, rfl, hm'⟩
  refine ⟨_, hm.appW (ps := [(0, ⟨some A_b, 34, [(.int .i16 f0.fSteps), (.slice C_a f0.fHammers.length C_c)]⟩)]) (N := [⟨o_4, 144, row encGChoice t_1 sp_6⟩]) hm' (by kernel_rfl) (by kernel_rfl), jkO ?_⟩
  clear hm hm'
  refine qh [0] (qe (jx_then (jc_seq (qg [⟨some A_b, 34, [(.int .i16 f0.fSteps), (.slice C_a f0.fHammers.length C_c)]⟩, ⟨some b_1, 104, [(.int .i16 n1.fAt), (.int .i8 n1.fPitch)]⟩, ⟨some b_2, 74, [(.int .i16 c2.fAway), (.int .i16 c2.fOctave), (.int .i16 c2.fStep)]⟩, ⟨o_4, 144, row encGChoice t_1 sp_6⟩] 6 (qd [⟨0, 2, 0⟩,⟨1, 0, 0⟩] 4 [0, 1, 2, 3] ?_)))))
  obtain ⟨x_2, hx_9, h⟩ := bd h
  refine qv 2 0 [0, 1, 2, 3] (fun w hm => idx_run (a := (o_4.map fun b => ⟨b, 0, none⟩)) (len := t_1.length) (s := 4) (j := 0) (by kernel_rfl) (ix_some hx_9).1 (ltn hx_9 rfl) (spo ho_8 hx_9)) (qv 3 0 [0, 1, 2, 3] (fun w hm => ld_run (b := aB (o_4.map fun b => ⟨b, 0, none⟩)) (off := (aO (o_4.map fun b => ⟨b, 0, none⟩) + (0 : Int).toNat * 4)) (s := 4) (agg := true) (vs := (encGChoice x_2)) (by kernel_rfl) (by kernel_rfl) (.inl rfl) ((hm.ow 3 o_4 144 t_1 sp_6 (fun e => (ho_8 e).1) encGChoice_len).at hx_9)) ?_)
  obtain ⟨t_3, ht_10, h⟩ := bd h
  refine tD 4 (pc 0 (fun w hm => spec_l07Cost.calls c2 x_2 w _ ht_10) ?_)
  rintro w v w' hm ⟨rfl, hm'⟩
  refine ⟨_, hm.app hm', kD [0, 1, 2, 3] ?_⟩
  clear hm hm'
  refine qd [⟨5, 0, 0⟩] 0 [0, 1, 2, 3] (qz (jx_then (jc_seq (jc_seq (jc_region (qh [0] (qe (jx_then (jc_meet (fun (j : Int) => match j with | i_4 => spec_l07Least.k_5 i_4 = some r) (fun (j : Int) => match j with | i_4 => [(6, [], (.int .i64 0)), (8, [], (.int .i64 i_4))]) (fun (j : Int) => match j with | i_4 => [⟨some A_b, 34, [(.int .i16 f0.fSteps), (.slice C_a f0.fHammers.length C_c)]⟩, ⟨some b_1, 104, [(.int .i16 n1.fAt), (.int .i8 n1.fPitch)]⟩, ⟨some b_2, 74, [(.int .i16 c2.fAway), (.int .i16 c2.fOctave), (.int .i16 c2.fStep)]⟩, ⟨o_4, 144, row encGChoice t_1 sp_6⟩]) ?_ ?_)))))))))
  ·refine jc_block ?_
   obtain ⟨t_9, ht_86, hr_78⟩ := bd h
   refine jc_loop (fun (s : Int × Int) (x : Unit) => match s, x with | ⟨i_6, i_7⟩, _ => True) (fun (s : Int × Int) (x : Unit) => match s, x with | ⟨i_6, i_7⟩, _ => [(5, [], (.pointer (some ⟨b_2, 0, none⟩))), (6, [], (.int .i64 0)), (7, [], (.slice (o_4.map fun b => ⟨b, 0, none⟩) t_1.length cap_5)), (8, [], (.int .i64 i_6)), (9, [], (.int .i64 i_7))]) (fun (s : Int × Int) (x : Unit) => match s, x with | ⟨i_6, i_7⟩, _ => [⟨some A_b, 34, [(.int .i16 f0.fSteps), (.slice C_a f0.fHammers.length C_c)]⟩, ⟨some b_1, 104, [(.int .i16 n1.fAt), (.int .i8 n1.fPitch)]⟩, ⟨some b_2, 74, [(.int .i16 c2.fAway), (.int .i16 c2.fOctave), (.int .i16 c2.fStep)]⟩, ⟨o_4, 144, row encGChoice t_1 sp_6⟩]) ht_86 () trivial (by kernel_rfl) [0, 1, 2, 3] (by kernel_rfl) (by kernel_rfl) ?_
   rintro ⟨i_6, i_7⟩ _ y_79 _ h
   rw [spec_l07Least.l_8] at h
   refine jc_seq (jc_seq (jc_region (qh [0,0,0,0] (qe (jx_then (qi h (fun h => ?_) (fun h => ?_)))))))
   ·refine jc_skip (jx_then (jc_seq (jc_block (qg [⟨some A_b, 34, [(.int .i16 f0.fSteps), (.slice C_a f0.fHammers.length C_c)]⟩, ⟨some b_1, 104, [(.int .i16 n1.fAt), (.int .i8 n1.fPitch)]⟩, ⟨some b_2, 74, [(.int .i16 c2.fAway), (.int .i16 c2.fOctave), (.int .i16 c2.fStep)]⟩, ⟨o_4, 144, row encGChoice t_1 sp_6⟩] 9 (qd [⟨0, 0, 0⟩,⟨1, 2, 0⟩,⟨2, 0, 0⟩,⟨3, 0, 0⟩] 5 [0, 1, 2, 3] ?_)))))
    obtain ⟨x_10, hx_82, h⟩ := bd h
    refine qv 4 0 [0, 1, 2, 3] (fun w hm => idx_run (a := (o_4.map fun b => ⟨b, 0, none⟩)) (len := t_1.length) (s := 4) (j := i_7) (by kernel_rfl) (ix_some hx_82).1 (ltn hx_82 rfl) (spo ho_8 hx_82)) (qv 5 0 [0, 1, 2, 3] (fun w hm => ld_run (b := aB (o_4.map fun b => ⟨b, 0, none⟩)) (off := (aO (o_4.map fun b => ⟨b, 0, none⟩) + i_7.toNat * 4)) (s := 4) (agg := true) (vs := (encGChoice x_10)) (by kernel_rfl) (by kernel_rfl) (.inl rfl) ((hm.ow 3 o_4 144 t_1 sp_6 (fun e => (ho_8 e).1) encGChoice_len).at hx_82)) ?_)
    obtain ⟨t_11, ht_83, h⟩ := bd h
    refine tD 6 (pc 0 (fun w hm => spec_l07Cost.calls c2 x_10 w _ ht_83) ?_)
    rintro w v w' hm ⟨rfl, hm'⟩
    refine ⟨_, hm.app hm', kD [0, 1, 2, 3] ?_⟩
    clear hm hm'
    obtain ⟨t_12, ht_84, h⟩ := bd h
    refine tD 7 (pc 0 (fun w hm => spec_l00Min.calls i_6 t_11 w _ ht_84) ?_)
    rintro w v w' hm ⟨rfl, hm'⟩
    refine ⟨_, hm.app hm', kD [0, 1, 2, 3] ?_⟩
    clear hm hm'
    exact qd [⟨8, 0, 0⟩] 0 [0, 1, 2, 3] (qz (jx_inn (jx_then (jc_region (qh [0,0,0] (qe (qb (t_12, (w64 (i_7 + 1))) () h trivial [0, 1, 2, 3])))))))
   ·refine jc_exit (jx_thenx (jx_leave i_6 (Option.some.inj h).symm (fun e_85 => ?_)))
    subst e_85
    exact jx_ine (qm i_6 hr_78 [0, 1, 2, 3])
  ·rintro i_4 h
   replace h : spec_l07Least.k_5 i_4 = some r := h
   rw [spec_l07Least.k_5] at h
   refine jx_then (jc_seq (jc_region (qh [0,0] (qe (jx_then (jc_ret ?_))))))
   obtain rfl := Option.some.inj h
   exact qr [] (fun w hm => ⟨rfl, hm.pk [0]⟩)
/-! ### spec.l07Bound -/
def spec_l07Bound.k_2 (i_1 : Int) : Option (Int) := some i_1
def spec_l07Bound.l_5 (f0 : GFrame) (t1 : List GNote) (c2 : GCosts) : (Int × Int) → Option ((Int × Int) ⊕ (Int))
  | (i_3, i_4) => (if (decide (i_4 < (t1.length : Int))) = true then (ix t1 i_4).bind fun x_7 => (spec_l07Least f0 x_7 c2).bind fun t_8 => some (.inl ((w64 (i_3 + t_8)), (w64 (i_4 + 1)))) else some (.inr i_3))
def spec_l07Bound (f0 : GFrame) (t1 : List GNote) (c2 : GCosts) (from3 : Int) : Option (Int) := (loop (spec_l07Bound.l_5 f0 t1 c2) (0, from3)).bind fun t_6 => spec_l07Bound.k_2 t_6
theorem spec_l07Bound.calls (f0 : GFrame) (t1 : List GNote) (c2 : GCosts) (from3 : Int) (w : World) (r : Int) {C_a : Option Addr} {C_an : Nat} (C_c : Nat) (C_h : Rw w C_a 2 encGHammer f0.fHammers) (C_hn : f0.fHammers.length = C_an) {D_a : Option Addr} {D_an : Nat} (D_c : Nat) (D_h : Rw w D_a 2 encGNote t1) (D_hn : t1.length = D_an) (A_b : Nat) (hm0 : Mem w (bs [some A_b]) [⟨some A_b, 34, [(.int .i16 f0.fSteps), (.slice C_a C_an C_c)]⟩] w) (C_ha : f0.fHammers ≠ [] → aB C_a ∉ bs [some A_b]) (D_ha : t1 ≠ [] → aB D_a ∉ bs [some A_b]) (h : spec_l07Bound f0 t1 c2 from3 = some r) :
    Calls Try.prog 129 #[(.pointer (some ⟨A_b, 0, none⟩)), (.slice D_a D_an D_c), (.agg #[(.int .i16 c2.fAway), (.int .i16 c2.fOctave), (.int .i16 c2.fStep)]), (.int .i64 from3)] w fun e w' => ∃ v, e = .returned v ∧ (v = (.int .i64 r) ∧ Mem w (bs [some A_b]) [⟨some A_b, 34, [(.int .i16 f0.fSteps), (.slice C_a C_an C_c)]⟩] w') := by
  subst C_hn D_hn
  rw [spec_l07Bound] at h
  refine enter (args := [(.pointer (some ⟨A_b, 0, none⟩)), (.slice D_a t1.length D_c), (.agg #[(.int .i16 c2.fAway), (.int .i16 c2.fOctave), (.int .i16 c2.fStep)]), (.int .i64 from3)]) Try.func129 rfl Try.ntmps129 (by kernel_rfl) (L := [⟨some A_b, 34, [(.int .i16 f0.fSteps), (.slice C_a f0.fHammers.length C_c)]⟩]) (W := bs [some A_b]) hm0 ?_
  refine jc_seq (jc_region (tO (qa 0 (fun b_1 => jkO (qh [0] (qe (jx_then (jc_seq (jc_region (qh [0] (qe (jx_then (jc_seq (jc_seq (jc_region (qh [0,0] (qe (jx_then (jc_meet (fun (j : Int) => match j with | i_1 => spec_l07Bound.k_2 i_1 = some r) (fun (j : Int) => match j with | i_1 => [(8, [], (.int .i64 0)), (9, [], (.int .i64 i_1))]) (fun (j : Int) => match j with | i_1 => [⟨some A_b, 34, [(.int .i16 f0.fSteps), (.slice C_a f0.fHammers.length C_c)]⟩, ⟨some b_1, 74, [(.int .i16 c2.fAway), (.int .i16 c2.fOctave), (.int .i16 c2.fStep)]⟩]) ?_ ?_)))))))))))))))))))
  ·refine jc_block ?_
   obtain ⟨t_6, ht_65, hr_58⟩ := bd h
   refine jc_loop (fun (s : Int × Int) (x : Unit) => match s, x with | ⟨i_3, i_4⟩, _ => True) (fun (s : Int × Int) (x : Unit) => match s, x with | ⟨i_3, i_4⟩, _ => [(0, [], (.pointer (some ⟨A_b, 0, none⟩))), (1, [], (.slice D_a t1.length D_c)), (6, [], (.pointer (some ⟨b_1, 0, none⟩))), (8, [], (.int .i64 0)), (9, [], (.int .i64 i_3)), (10, [], (.int .i64 i_4))]) (fun (s : Int × Int) (x : Unit) => match s, x with | ⟨i_3, i_4⟩, _ => [⟨some A_b, 34, [(.int .i16 f0.fSteps), (.slice C_a f0.fHammers.length C_c)]⟩, ⟨some b_1, 74, [(.int .i16 c2.fAway), (.int .i16 c2.fOctave), (.int .i16 c2.fStep)]⟩]) ht_65 () trivial (by kernel_rfl) [0, 1] (by kernel_rfl) (by kernel_rfl) ?_
   rintro ⟨i_3, i_4⟩ _ y_59 _ h
   rw [spec_l07Bound.l_5] at h
   refine jc_seq (jc_seq (jc_region (qh [0,0,0,0] (qe (jx_then (qi h (fun h => ?_) (fun h => ?_)))))))
   ·refine jc_skip (jx_then (jc_seq (jc_block (qg [⟨some A_b, 34, [(.int .i16 f0.fSteps), (.slice C_a f0.fHammers.length C_c)]⟩, ⟨some b_1, 74, [(.int .i16 c2.fAway), (.int .i16 c2.fOctave), (.int .i16 c2.fStep)]⟩] 10 (qd [⟨0, 0, 0⟩,⟨1, 0, 0⟩,⟨2, 0, 0⟩,⟨3, 0, 0⟩,⟨6, 1, 0⟩] 5 [0, 1] ?_)))))
    obtain ⟨x_7, hx_62, h⟩ := bd h
    refine qv 4 0 [0, 1] (fun w hm => idx_run (a := D_a) (len := t1.length) (s := 2) (j := i_4) (by kernel_rfl) (ix_some hx_62).1 (ltn hx_62 rfl) (D_h.sp hx_62)) (qv 5 0 [0, 1] (fun w hm => ld_run (b := aB D_a) (off := (aO D_a + i_4.toNat * 2)) (s := 2) (agg := true) (vs := (encGNote x_7)) (by kernel_rfl) (by kernel_rfl) (.inl rfl) ((hm.exRowW D_h D_ha).at hx_62)) ?_)
    obtain ⟨t_8, ht_63, h⟩ := bd h
    refine tD 7 (pc 0 (fun w hm => spec_l07Least.calls f0 x_7 c2 w _ C_c (hm.exRowW C_h C_ha) rfl A_b (hm.pass (N := [⟨some A_b, 34, [(.int .i16 f0.fSteps), (.slice C_a f0.fHammers.length C_c)]⟩]) [0] (by kernel_rfl) (by kernel_rfl)) (hm.exApart (N := [⟨some A_b, 34, [(.int .i16 f0.fSteps), (.slice C_a f0.fHammers.length C_c)]⟩]) C_h C_ha [0] (by kernel_rfl)) ht_63) ?_)
    rintro w v w' hm ⟨rfl, hm'⟩
    refine ⟨_, hm.appW (ps := [(0, ⟨some A_b, 34, [(.int .i16 f0.fSteps), (.slice C_a f0.fHammers.length C_c)]⟩)]) (N := []) hm' (by kernel_rfl) (by kernel_rfl), kD [0, 1] ?_⟩
    clear hm hm'
    exact qd [⟨8, 0, 0⟩,⟨9, 0, 0⟩] 0 [0, 1] (qz (jx_inn (jx_then (jc_region (qh [0,0,0] (qe (qb ((w64 (i_3 + t_8)), (w64 (i_4 + 1))) () h trivial [0, 1])))))))
   ·refine jc_exit (jx_thenx (jx_leave i_3 (Option.some.inj h).symm (fun e_64 => ?_)))
    subst e_64
    exact jx_ine (qm i_3 hr_58 [0, 1])
  ·rintro i_1 h
   replace h : spec_l07Bound.k_2 i_1 = some r := h
   rw [spec_l07Bound.k_2] at h
   refine jx_then (jc_seq (jc_region (qh [0,0] (qe (jx_then (jc_ret ?_))))))
   obtain rfl := Option.some.inj h
   exact qr [] (fun w hm => ⟨rfl, hm.pk [0]⟩)
/-! ### spec.l02Pin -/
def spec_l02Pin (d0 : Arr 96 Int) (step1 : Int) (track2 : Int) : Option (Bool) := (ix d0.1 step1).bind fun x_1 => (if 0 ≤ (u64 track2) then some ((Int.tmod (bShr .u32 x_1 (u64 track2)) 2) == 1) else none)
theorem spec_l02Pin.calls (d0 : Arr 96 Int) (step1 : Int) (track2 : Int) (w : World) (r : Bool) {A_b A_q : Nat} (A_h : Rw w (some ⟨A_b, A_q, none⟩) 1 encU32 d0.1) (h : spec_l02Pin d0 step1 track2 = some r) :
    Calls Try.prog 192 #[(.pointer (some ⟨A_b, A_q, none⟩)), (.int .i64 step1), (.int .i64 track2)] w fun e w' => ∃ v, e = .returned v ∧ (v = (.bool r) ∧ Mem w [] [] w') := by
  rw [spec_l02Pin] at h
  refine enter (args := [(.pointer (some ⟨A_b, A_q, none⟩)), (.int .i64 step1), (.int .i64 track2)]) Try.func192 rfl Try.ntmps192 (by kernel_rfl) (L := []) (W := []) (Mem.start w) ?_
  refine jc_seq (jc_region (qh [0] (qe (jx_then (jc_seq (jc_region (qh [0,0,0] ?_)))))))
  obtain ⟨x_1, hx_1, h⟩ := bd h
  refine tO (qx 0 (some ⟨A_b, A_q, none⟩) 1 hx_1 d0.2 (A_h.sp hx_1) (jkO (tO (ql 0 false (fun w hm => ((hm.xr A_h).at hx_1)) (jkO (qh [0,0] ?_))))))
  obtain ⟨hg_2, h⟩ := gd h
  refine tO (p_shr 0 .u32 x_1 .u64 (u64 track2) (by kernel_rfl) (by kernel_rfl) hg_2 (jkO (qh [0,0,0] (qe (jx_then (jc_ret ?_))))))
  obtain rfl := Option.some.inj h
  exact qr [] (fun w hm => ⟨rfl, hm.pk []⟩)
/-! ### spec.l02Free -/
def spec_l02Free.k_3 : Option (Bool) := some true
def spec_l02Free.k_8 (i_4 : Int) (q_7 : Bool) : Option ((Int) ⊕ (Bool ⊕ Unit)) := (if q_7 = true then some (.inr (.inl false)) else some (.inl (w64 (i_4 + 1))))
def spec_l02Free.l_5 (f0 : GFrame) (d1 : Arr 96 Int) (step2 : Int) (track3 : Int) (x_2 : GHammer) : Int → Option ((Int) ⊕ (Bool ⊕ Unit))
  | i_4 => (if (decide (i_4 < (w64 x_2.fReady))) = true then (if (w64 f0.fSteps) ≠ 0 then (spec_l02Pin d1 (Int.tmod (w64 (step2 + i_4)) (w64 f0.fSteps)) track3).bind fun t_9 => (if t_9 = true then spec_l02Free.k_8 i_4 true else (if (w64 f0.fSteps) ≠ 0 then (spec_l02Pin d1 (Int.tmod (w64 ((w64 (step2 + (w64 f0.fSteps))) - i_4)) (w64 f0.fSteps)) track3).bind fun t_10 => spec_l02Free.k_8 i_4 t_10 else none)) else none) else some (.inr (.inr ())))
def spec_l02Free (f0 : GFrame) (d1 : Arr 96 Int) (step2 : Int) (track3 : Int) : Option (Bool) := (spec_l02Pin d1 step2 track3).bind fun t_1 => (if t_1 = true then some false else (ix f0.fHammers track3).bind fun x_2 => (loop (spec_l02Free.l_5 f0 d1 step2 track3 x_2) 1).bind fun t_6 => match t_6 with | .inl p => some p | .inr p => spec_l02Free.k_3)
theorem spec_l02Free.calls (f0 : GFrame) (d1 : Arr 96 Int) (step2 : Int) (track3 : Int) (w : World) (r : Bool) {C_a : Option Addr} {C_an : Nat} (C_c : Nat) (C_h : Rw w C_a 2 encGHammer f0.fHammers) (C_hn : f0.fHammers.length = C_an) {D_b D_q : Nat} (D_h : Rw w (some ⟨D_b, D_q, none⟩) 1 encU32 d1.1) (A_b : Nat) (hm0 : Mem w (bs [some A_b]) [⟨some A_b, 34, [(.int .i16 f0.fSteps), (.slice C_a C_an C_c)]⟩] w) (C_ha : f0.fHammers ≠ [] → aB C_a ∉ bs [some A_b]) (D_ha : d1.1 ≠ [] → aB (some ⟨D_b, D_q, none⟩) ∉ bs [some A_b]) (h : spec_l02Free f0 d1 step2 track3 = some r) :
    Calls Try.prog 174 #[(.pointer (some ⟨A_b, 0, none⟩)), (.pointer (some ⟨D_b, D_q, none⟩)), (.int .i64 step2), (.int .i64 track3)] w fun e w' => ∃ v, e = .returned v ∧ (v = (.bool r) ∧ Mem w (bs [some A_b]) [⟨some A_b, 34, [(.int .i16 f0.fSteps), (.slice C_a C_an C_c)]⟩] w') := by
  subst C_hn
  rw [spec_l02Free] at h
  refine enter (args := [(.pointer (some ⟨A_b, 0, none⟩)), (.pointer (some ⟨D_b, D_q, none⟩)), (.int .i64 step2), (.int .i64 track3)]) Try.func174 rfl Try.ntmps174 (by kernel_rfl) (L := [⟨some A_b, 34, [(.int .i16 f0.fSteps), (.slice C_a f0.fHammers.length C_c)]⟩]) (W := bs [some A_b]) hm0 ?_
  refine jc_seq (jc_region (qh [0] (qe (jx_then (jc_seq (jc_seq (jc_region (qh [0,0,0] ?_))))))))
  obtain ⟨t_1, ht_3, h⟩ := bd h
  refine tO (pc 0 (fun w hm => spec_l02Pin.calls d1 step2 track3 w _ (hm.exRowW D_h D_ha) ht_3) ?_)
  rintro w v w' hm ⟨rfl, hm'⟩
  refine ⟨_, hm.app hm', jkO ?_⟩
  clear hm hm'
  refine qe (jx_then (qi h (fun h => ?_) (fun h => ?_)))
  ·refine jc_seq (jc_region (qh [0] (qe (jx_then (jc_ret (jx_thenr ?_))))))
   obtain rfl := Option.some.inj h
   exact qr [] (fun w hm => ⟨rfl, hm.pk [0]⟩)
  ·refine jc_skip (jx_then (jc_seq (jc_region (qh [0,0,0,0,0,0] (qe (jx_then (jc_seq (jc_region (qh [0,0,0,0,0] ?_)))))))))
   obtain ⟨x_2, hx_5, h⟩ := bd h
   refine tO (qx 0 C_a 2 hx_5 rfl (C_h.sp hx_5) (jkO (qh [0] (tO (ql 0 false (fun w hm => (((hm.exRowW C_h C_ha).at hx_5).sub 1 1)) (jkO (qh [0,0] (qe (jx_then (jc_seq (jc_seq (jc_region (qh [0] (qe (jx_then (jc_meet (fun (_ : Unit) => spec_l02Free.k_3 = some r) (fun (_ : Unit) => [(8, [], (.bool false))]) (fun (_ : Unit) => [⟨some A_b, 34, [(.int .i16 f0.fSteps), (.slice C_a f0.fHammers.length C_c)]⟩]) ?_ ?_))))))))))))))))
   ·refine jc_block ?_
    obtain ⟨t_6, ht_93, hr_76⟩ := bd h
    refine jc_loop (fun (s : Int) (x : Unit) => match s, x with | i_4, _ => True) (fun (s : Int) (x : Unit) => match s, x with | i_4, _ => [(1, [], (.pointer (some ⟨D_b, D_q, none⟩))), (2, [], (.int .i64 step2)), (3, [], (.int .i64 track3)), (8, [], (.bool false)), (9, [], (.int .i64 (w64 f0.fSteps))), (10, [], (.int .i64 (w64 x_2.fReady))), (11, [], (.int .i64 i_4))]) (fun (s : Int) (x : Unit) => match s, x with | i_4, _ => [⟨some A_b, 34, [(.int .i16 f0.fSteps), (.slice C_a f0.fHammers.length C_c)]⟩]) ht_93 () trivial (by kernel_rfl) [0] (by kernel_rfl) (by kernel_rfl) ?_
    rintro i_4 _ y_77 _ h
    rw [spec_l02Free.l_5] at h
    refine jc_seq (jc_seq (jc_region (qh [0,0,0] (qe (jx_then (qi h (fun h => ?_) (fun h => ?_)))))))
    ·refine jc_skip (jx_then (jc_seq (jc_block (jc_seq (jc_meet (fun (j : Bool) => match j with | q_7 => spec_l02Free.k_8 i_4 q_7 = some y_77) (fun (j : Bool) => match j with | q_7 => [(1, [], (.pointer (some ⟨D_b, D_q, none⟩))), (2, [], (.int .i64 step2)), (3, [], (.int .i64 track3)), (8, [], (.bool false)), (9, [], (.int .i64 (w64 f0.fSteps))), (10, [], (.int .i64 (w64 x_2.fReady))), (11, [], (.int .i64 i_4)), (54, [], (.bool q_7))]) (fun (j : Bool) => match j with | q_7 => [⟨some A_b, 34, [(.int .i16 f0.fSteps), (.slice C_a f0.fHammers.length C_c)]⟩]) ?_ ?_)))))
     ·refine jc_region (qh [0,0,0,0,0] ?_)
      obtain ⟨hg_87, h⟩ := gd h
      refine tO (p_rem 0 .i64 (w64 (step2 + i_4)) (w64 f0.fSteps) (by kernel_rfl) (by kernel_rfl) hg_87 (jkO (qh [0] ?_)))
      obtain ⟨t_9, ht_88, h⟩ := bd h
      refine tO (pc 0 (fun w hm => spec_l02Pin.calls d1 (Int.tmod (w64 (step2 + i_4)) (w64 f0.fSteps)) track3 w _ (hm.exRowW D_h D_ha) ht_88) ?_)
      rintro w v w' hm ⟨rfl, hm'⟩
      refine ⟨_, hm.app hm', jkO ?_⟩
      clear hm hm'
      refine qf [(0, 0), (0, 1), (0, 1), (0, 1), (0, 1), (0, 1), (0, 1), (0, 1)] (qp 43 h (fun h => ?_) (fun h => ?_))
      ·exact qf [(0, 3), (0, 3), (0, 3), (0, 4)] (qe (qm true h [0]))
      ·obtain ⟨hg_90, h⟩ := gd h
       refine tO (p_rem 2 .i64 (w64 ((w64 (step2 + (w64 f0.fSteps))) - i_4)) (w64 f0.fSteps) (by kernel_rfl) (by kernel_rfl) hg_90 (jkO (qf [(0, 2)] ?_)))
       obtain ⟨t_10, ht_91, h⟩ := bd h
       refine tO (pc 2 (fun w hm => spec_l02Pin.calls d1 (Int.tmod (w64 ((w64 (step2 + (w64 f0.fSteps))) - i_4)) (w64 f0.fSteps)) track3 w _ (hm.exRowW D_h D_ha) ht_91) ?_)
       rintro w v w' hm ⟨rfl, hm'⟩
       refine ⟨_, hm.app hm', jkO ?_⟩
       clear hm hm'
       exact qf [(0, 5)] (qe (qm t_10 h [0]))
     ·rintro q_7 h
      replace h : spec_l02Free.k_8 i_4 q_7 = some y_77 := h
      rw [spec_l02Free.k_8] at h
      refine jx_then (qi h (fun h => ?_) (fun h => ?_))
      ·refine jc_seq (jc_region (qh [0] (qe (jx_then (jc_ret (jx_inr (jx_thenr (jx_leaver (.inl false) (Option.some.inj h).symm (fun e_86 => ?_)))))))))
       subst e_86
       refine jx_inr (jx_thenr (jx_thenr ?_))
       obtain rfl := Option.some.inj hr_76
       exact qr [] (fun w hm => ⟨rfl, hm.pk [0]⟩)
      ·exact jc_skip (jx_inn (jx_then (jc_region (qh [0,0,0] (qe (qb (w64 (i_4 + 1)) () h trivial [0]))))))
    ·refine jc_exit (jx_thenx (jx_leave (.inr ()) (Option.some.inj h).symm (fun e_92 => ?_)))
     subst e_92
     exact jx_ine (qm () hr_76 [0])
   ·rintro _ h
    replace h : spec_l02Free.k_3 = some r := h
    rw [spec_l02Free.k_3] at h
    refine jx_then (jc_seq (jc_region (qh [0] (qe (jx_then (jc_ret ?_))))))
    obtain rfl := Option.some.inj h
    exact qr [] (fun w hm => ⟨rfl, hm.pk [0]⟩)
/-! ### spec.l07Put -/
def spec_l07Put (f0 : GFrame) (d1 : Arr 96 Int) (n2 : GNote) (x3 : GChoice) : Option (Bool × (Arr 96 Int)) := (if x3.fAway = true then some (true, d1) else (spec_l02Free f0 d1 (w64 ((w64 n2.fAt) + (w64 x3.fLate))) (w64 x3.fTrack)).bind fun t_1 => (if (!t_1) = true then some (false, d1) else (ix d1.1 (w64 ((w64 n2.fAt) + (w64 x3.fLate)))).bind fun x_2 => (if 0 ≤ (u64 x3.fTrack) then (ix d1.1 (w64 ((w64 n2.fAt) + (w64 x3.fLate)))).bind fun x_3 => some (true, (Arr.set d1 (w64 ((w64 n2.fAt) + (w64 x3.fLate))) (bOr .u32 x_2 (bShl .u32 1 (u64 x3.fTrack))))) else none)))
theorem spec_l07Put.calls (f0 : GFrame) (d1 : Arr 96 Int) (n2 : GNote) (x3 : GChoice) (w : World) (r : Bool × (Arr 96 Int)) {C_a : Option Addr} {C_an : Nat} (C_c : Nat) (C_h : Rw w C_a 2 encGHammer f0.fHammers) (C_hn : f0.fHammers.length = C_an) (A_b : Nat) (D_b : Nat) (hm0 : Mem w (bs [some A_b, some D_b]) [⟨some A_b, 34, [(.int .i16 f0.fSteps), (.slice C_a C_an C_c)]⟩, ⟨(some D_b), 88, row encU32 d1.1 []⟩] w) (C_ha : f0.fHammers ≠ [] → aB C_a ∉ bs [some A_b, some D_b]) (h : spec_l07Put f0 d1 n2 x3 = some r) :
    Calls Try.prog 166 #[(.pointer (some ⟨A_b, 0, none⟩)), (.pointer (some ⟨D_b, 0, none⟩)), (.agg #[(.int .i16 n2.fAt), (.int .i8 n2.fPitch)]), (.agg #[(.bool x3.fAway), (.int .i8 x3.fLate), (.int .i8 x3.fOctave), (.int .i8 x3.fTrack)])] w fun e w' => ∃ v, e = .returned v ∧ (v = (.bool r.1) ∧ Mem w (bs [some A_b, some D_b]) [⟨some A_b, 34, [(.int .i16 f0.fSteps), (.slice C_a C_an C_c)]⟩, ⟨(some D_b), 88, row encU32 r.2.1 []⟩] w') := by
  subst C_hn
  rw [spec_l07Put] at h
  refine enter (args := [(.pointer (some ⟨A_b, 0, none⟩)), (.pointer (some ⟨D_b, 0, none⟩)), (.agg #[(.int .i16 n2.fAt), (.int .i8 n2.fPitch)]), (.agg #[(.bool x3.fAway), (.int .i8 x3.fLate), (.int .i8 x3.fOctave), (.int .i8 x3.fTrack)])]) Try.func166 rfl Try.ntmps166 (by kernel_rfl) (L := [⟨some A_b, 34, [(.int .i16 f0.fSteps), (.slice C_a f0.fHammers.length C_c)]⟩, ⟨(some D_b), 88, row encU32 d1.1 []⟩]) (W := bs [some A_b, some D_b]) hm0 ?_
  refine jc_seq (jc_region (tO (qa 0 (fun b_1 => jkO (tO (qa 0 (fun b_2 => jkO (qh [0] (qe (jx_then (jc_seq (jc_seq (jc_region (qh [0,3] (qe (jx_then (qi h (fun h => ?_) (fun h => ?_))))))))))))))))))
  ·refine jc_seq (jc_region (qh [0] (qe (jx_then (jc_ret (jx_thenr ?_))))))
   obtain rfl := Option.some.inj h
   exact qr [] (fun w hm => ⟨rfl, hm.pk [0, 1]⟩)
  ·refine jc_skip (jx_then (jc_seq (jc_region (qh [0,2,0,0,3,0,0,0] (qe (jx_then (jc_seq (jc_seq (jc_region (qh [0,0,0,0,3,0] ?_))))))))))
   obtain ⟨t_1, ht_7, h⟩ := bd h
   refine tO (pc 0 (fun w hm => spec_l02Free.calls f0 d1 (w64 ((w64 n2.fAt) + (w64 x3.fLate))) (w64 x3.fTrack) w _ C_c (hm.exRowW C_h C_ha) rfl (hm.ow 1 (some D_b) 88 d1.1 [] (fun e => nomatch e) encU32_len) A_b (hm.pass (N := [⟨some A_b, 34, [(.int .i16 f0.fSteps), (.slice C_a f0.fHammers.length C_c)]⟩]) [0] (by kernel_rfl) (by kernel_rfl)) (hm.exApart (N := [⟨some A_b, 34, [(.int .i16 f0.fSteps), (.slice C_a f0.fHammers.length C_c)]⟩]) C_h C_ha [0] (by kernel_rfl)) (hm.ownApart (S := Int) (N := [⟨some A_b, 34, [(.int .i16 f0.fSteps), (.slice C_a f0.fHammers.length C_c)]⟩]) (hh := 1) (o := (some D_b)) (T := 88) (cs := row encU32 d1.1 []) (xs := d1.1) (by kernel_rfl) (fun e => nomatch e) [0] (by kernel_rfl) (by kernel_rfl)) ht_7) ?_)
   rintro w v w' hm ⟨rfl, hm'⟩
   refine ⟨_, hm.appW (ps := [(0, ⟨some A_b, 34, [(.int .i16 f0.fSteps), (.slice C_a f0.fHammers.length C_c)]⟩)]) (N := []) hm' (by kernel_rfl) (by kernel_rfl), jkO ?_⟩
   clear hm hm'
   refine qh [0] (qe (jx_then (qi h (fun h => ?_) (fun h => ?_))))
   ·refine jc_seq (jc_region (qh [0] (qe (jx_then (jc_ret (jx_thenr ?_))))))
    obtain rfl := Option.some.inj h
    exact qr [] (fun w hm => ⟨rfl, hm.pk [0, 1]⟩)
   ·refine jc_skip (jx_then (jc_seq (qg [⟨some A_b, 34, [(.int .i16 f0.fSteps), (.slice C_a f0.fHammers.length C_c)]⟩, ⟨some b_1, 104, [(.int .i16 n2.fAt), (.int .i8 n2.fPitch)]⟩, ⟨some b_2, 144, [(.bool x3.fAway), (.int .i8 x3.fLate), (.int .i8 x3.fOctave), (.int .i8 x3.fTrack)]⟩] 15 (qd [⟨0, 0, 0⟩,⟨1, 0, 0⟩,⟨2, 0, 0⟩,⟨3, 0, 0⟩,⟨4, 0, 0⟩,⟨7, 0, 0⟩,⟨8, 2, 0⟩,⟨9, 0, 0⟩,⟨12, 0, 0⟩] 6 [0, 2, 3] ?_))))
    obtain ⟨x_2, hx_12, h⟩ := bd h
    refine qv 5 0 [0, 2, 3] (fun w hm => idx_run (a := (some ⟨D_b, 0, none⟩)) (len := 96) (s := 1) (j := (w64 ((w64 n2.fAt) + (w64 x3.fLate)))) (by kernel_rfl) (ix_some hx_12).1 (ltn hx_12 d1.2) rfl) (toD2 6 10 (by kernel_rfl) ?_ ?_)
    ·refine ql 0 false (fun w hm => ((hm.ow 1 (some D_b) 88 d1.1 [] (fun e => nomatch e) encU32_len).at hx_12)) (kD [0, 2, 3] ?_)
     obtain ⟨hg_13, h⟩ := gd h
     refine tD 10 (p_shl 0 .u32 1 .u64 (u64 x3.fTrack) (by kernel_rfl) (by kernel_rfl) hg_13 (kD [0, 2, 3] (qd [⟨11, 0, 0⟩] 2 [0, 2, 3] ?_)))
     obtain ⟨x_3, hx_14, h⟩ := bd h
     refine qv 13 0 [0, 2, 3] (fun w hm => idx_run (a := (some ⟨D_b, 0, none⟩)) (len := 96) (s := 1) (j := (w64 ((w64 n2.fAt) + (w64 x3.fLate)))) (by kernel_rfl) (ix_some hx_14).1 (ltn hx_14 d1.2) rfl) (tD 14 (p_str 0 1 D_b 88 encU32 d1.1 [] (w64 ((w64 n2.fAt) + (w64 x3.fLate))) (bOr .u32 x_2 (bShl .u32 1 (u64 x3.fTrack))) 1 0 [(.int .u32 (bOr .u32 x_2 (bShl .u32 1 (u64 x3.fTrack))))] (by kernel_rfl) (by kernel_rfl) (by kernel_rfl) encU32_len hx_14 (by kernel_rfl) (by kernel_rfl) (kD [0, 2, 3] (qz (jx_then (jc_seq (jc_region (qh [0] (qe (jx_then (jc_ret ?_)))))))))))
     obtain rfl := Option.some.inj h
     exact qr [] (fun w hm => ⟨rfl, hm.pk [0, 1]⟩)
    ·obtain ⟨hg_15, h⟩ := gd h
     refine p_shl 0 .u32 1 .u64 (u64 x3.fTrack) (by kernel_rfl) (by kernel_rfl) hg_15 (kD [0, 2, 3] (tD 6 (ql 0 false (fun w hm => ((hm.ow 1 (some D_b) 88 d1.1 [] (fun e => nomatch e) encU32_len).at hx_12)) (kD [0, 2, 3] (qd [⟨11, 0, 0⟩] 2 [0, 2, 3] ?_)))))
     obtain ⟨x_3, hx_16, h⟩ := bd h
     refine qv 13 0 [0, 2, 3] (fun w hm => idx_run (a := (some ⟨D_b, 0, none⟩)) (len := 96) (s := 1) (j := (w64 ((w64 n2.fAt) + (w64 x3.fLate)))) (by kernel_rfl) (ix_some hx_16).1 (ltn hx_16 d1.2) rfl) (tD 14 (p_str 0 1 D_b 88 encU32 d1.1 [] (w64 ((w64 n2.fAt) + (w64 x3.fLate))) (bOr .u32 x_2 (bShl .u32 1 (u64 x3.fTrack))) 1 0 [(.int .u32 (bOr .u32 x_2 (bShl .u32 1 (u64 x3.fTrack))))] (by kernel_rfl) (by kernel_rfl) (by kernel_rfl) encU32_len hx_16 (by kernel_rfl) (by kernel_rfl) (kD [0, 2, 3] (qz (jx_then (jc_seq (jc_region (qh [0] (qe (jx_then (jc_ret ?_)))))))))))
     obtain rfl := Option.some.inj h
     exact qr [] (fun w hm => ⟨rfl, hm.pk [0, 1]⟩)
/-! ### spec.l07Go -/
def spec_l07Go.k_10 (s0 : Gl07Search) (xs_1 : List GChoice) (i_3 : Int) (i_4 : Int) (i_5 : Int) (i_6 : Int) (i_7 : Int) (q_8 : Bool) (i_9 : Int) : Option (Bool × Gl07Search) := some (true, (⟨(⟨s0.ff.fSteps, s0.ff.fHammers⟩ : GFrame), s0.ft, (⟨i_3, i_4, i_5⟩ : GCosts), s0.fall, s0.fbounds, i_6, i_7, q_8, xs_1, i_9⟩ : Gl07Search))
def spec_l07Go.k_39 (s0 : Gl07Search) (i_20 : Int) (xs_29 : List GChoice) (i_31 : Int) (i_32 : Int) (i_33 : Int) (i_34 : Int) (i_35 : Int) (q_36 : Bool) (i_37 : Int) (q_38 : Bool) : Option (((List GChoice) × Int × Int × Int × Int × Int × Bool × Int × Int) ⊕ ((Bool × Gl07Search) ⊕ ((List GChoice) × Int × Int × Int × Int × Int × Bool × Int))) := (if q_38 = true then some (.inr (.inl (false, (⟨(⟨s0.ff.fSteps, s0.ff.fHammers⟩ : GFrame), s0.ft, (⟨i_31, i_32, i_33⟩ : GCosts), s0.fall, s0.fbounds, i_34, i_35, q_36, xs_29, i_37⟩ : Gl07Search)))) else some (.inl (xs_29, i_31, i_32, i_33, i_34, i_35, q_36, i_37, (w64 (i_20 + 1)))))
def spec_l07Go.k_28 (self_ : Gl07Search → (Arr 96 Int) → (List GChoice) → Int → Option (Bool × Gl07Search)) (s0 : Gl07Search) (list2 : List GChoice) (cost3 : Int) (xs_11 : List GChoice) (i_13 : Int) (i_14 : Int) (i_15 : Int) (i_16 : Int) (i_17 : Int) (q_18 : Bool) (i_19 : Int) (i_20 : Int) (x_25 : GChoice) (t_26 : Int) (a_27 : Arr 96 Int) : Option (((List GChoice) × Int × Int × Int × Int × Int × Bool × Int × Int) ⊕ ((Bool × Gl07Search) ⊕ ((List GChoice) × Int × Int × Int × Int × Int × Bool × Int))) := (if (i_17 == i_16) = true then some (.inr (.inl (false, (⟨(⟨s0.ff.fSteps, s0.ff.fHammers⟩ : GFrame), s0.ft, (⟨i_13, i_14, i_15⟩ : GCosts), s0.fall, s0.fbounds, i_16, i_17, q_18, xs_11, i_19⟩ : Gl07Search)))) else (if ([] : List GChoice).length + list2.length ≤ 4294967296 then (if (([] : List GChoice) ++ list2).length + ([x_25] : List GChoice).length ≤ 4294967296 then (self_ (⟨(⟨s0.ff.fSteps, s0.ff.fHammers⟩ : GFrame), s0.ft, (⟨i_13, i_14, i_15⟩ : GCosts), s0.fall, s0.fbounds, i_16, (w64 (i_17 + 1)), q_18, xs_11, i_19⟩ : Gl07Search) a_27 ((([] : List GChoice) ++ list2) ++ ([x_25] : List GChoice)) (w64 (cost3 + t_26))).bind fun t_40 => spec_l07Go.k_39 s0 i_20 t_40.2.fbest t_40.2.fc.fAway t_40.2.fc.fOctave t_40.2.fc.fStep t_40.2.fbudget t_40.2.flooks t_40.2.ffound t_40.2.fleast (!t_40.1) else none) else none))
def spec_l07Go.l_21 (self_ : Gl07Search → (Arr 96 Int) → (List GChoice) → Int → Option (Bool × Gl07Search)) (s0 : Gl07Search) (d1 : Arr 96 Int) (list2 : List GChoice) (cost3 : Int) : ((List GChoice) × Int × Int × Int × Int × Int × Bool × Int × Int) → Option (((List GChoice) × Int × Int × Int × Int × Int × Bool × Int × Int) ⊕ ((Bool × Gl07Search) ⊕ ((List GChoice) × Int × Int × Int × Int × Int × Bool × Int)))
  | (xs_11, i_13, i_14, i_15, i_16, i_17, q_18, i_19, i_20) => (ix s0.fall (list2.length : Int)).bind fun x_23 => (if (decide (i_20 < (x_23.length : Int))) = true then (ix s0.fall (list2.length : Int)).bind fun x_24 => (ix x_24 i_20).bind fun x_25 => (spec_l07Cost (⟨i_13, i_14, i_15⟩ : GCosts) x_25).bind fun t_26 => (ix s0.ft (list2.length : Int)).bind fun x_42 => (spec_l07Put (⟨s0.ff.fSteps, s0.ff.fHammers⟩ : GFrame) d1 x_42 x_25).bind fun t_43 => (if (!t_43.1) = true then some (.inl (xs_11, i_13, i_14, i_15, i_16, i_17, q_18, i_19, (w64 (i_20 + 1)))) else (if q_18 = true then (ix s0.fbounds (w64 ((list2.length : Int) + 1))).bind fun x_44 => (if (decide ((w64 ((w64 (cost3 + t_26)) + x_44)) ≥ i_19)) = true then some (.inl (xs_11, i_13, i_14, i_15, i_16, i_17, q_18, i_19, (w64 (i_20 + 1)))) else spec_l07Go.k_28 self_ s0 list2 cost3 xs_11 i_13 i_14 i_15 i_16 i_17 q_18 i_19 i_20 x_25 t_26 t_43.2) else spec_l07Go.k_28 self_ s0 list2 cost3 xs_11 i_13 i_14 i_15 i_16 i_17 q_18 i_19 i_20 x_25 t_26 t_43.2)) else some (.inr (.inr (xs_11, i_13, i_14, i_15, i_16, i_17, q_18, i_19))))
def spec_l07Go.step (self_ : Gl07Search → (Arr 96 Int) → (List GChoice) → Int → Option (Bool × Gl07Search)) (s0 : Gl07Search) (d1 : Arr 96 Int) (list2 : List GChoice) (cost3 : Int) : Option (Bool × Gl07Search) := (if ((list2.length : Int) == (s0.ft.length : Int)) = true then (if ([] : List GChoice).length + list2.length ≤ 4294967296 then some (true, (⟨(⟨s0.ff.fSteps, s0.ff.fHammers⟩ : GFrame), s0.ft, (⟨s0.fc.fAway, s0.fc.fOctave, s0.fc.fStep⟩ : GCosts), s0.fall, s0.fbounds, s0.fbudget, s0.flooks, true, (([] : List GChoice) ++ list2), cost3⟩ : Gl07Search)) else none) else (loop (spec_l07Go.l_21 self_ s0 d1 list2 cost3) (s0.fbest, s0.fc.fAway, s0.fc.fOctave, s0.fc.fStep, s0.fbudget, s0.flooks, s0.ffound, s0.fleast, 0)).bind fun t_22 => match t_22 with | .inl p => some p | .inr p => spec_l07Go.k_10 s0 p.1 p.2.1 p.2.2.1 p.2.2.2.1 p.2.2.2.2.1 p.2.2.2.2.2.1 p.2.2.2.2.2.2.1 p.2.2.2.2.2.2.2)
def spec_l07Go.rec_ : Nat → Gl07Search → (Arr 96 Int) → (List GChoice) → Int → Option (Bool × Gl07Search)
  | 0 => fun s0 d1 list2 cost3 => none
  | fu + 1 => spec_l07Go.step (spec_l07Go.rec_ fu)
def spec_l07Go (s0 : Gl07Search) (d1 : Arr 96 Int) (list2 : List GChoice) (cost3 : Int) : Option (Bool × Gl07Search) := spec_l07Go.rec_ 130 s0 d1 list2 cost3
set_option maxHeartbeats 8000000 in
theorem spec_l07Go.step_calls (self_ : Gl07Search → (Arr 96 Int) → (List GChoice) → Int → Option (Bool × Gl07Search)) (hself : ∀ (s0 : Gl07Search) (d1 : Arr 96 Int) (list2 : List GChoice) (cost3 : Int) (w : World) (r : Bool × Gl07Search) {D_a : Option Addr} {D_an : Nat} (D_c : Nat) (D_h : Rw w D_a 2 encGHammer s0.ff.fHammers) (D_hn : s0.ff.fHammers.length = D_an) {E_a : Option Addr} {E_an : Nat} (E_c : Nat) (E_h : Rw w E_a 2 encGNote s0.ft) (E_hn : s0.ft.length = E_an) {J_a : Option Addr} {J_an : Nat} (J_c : Nat) {J_hs : List Hd} (J_h : Rw w J_a 1 encHd J_hs) (J_hn : s0.fall.length = J_an) {K_a : Option Addr} {K_an : Nat} (K_c : Nat) (K_h : Rw w K_a 1 encI64 s0.fbounds) (K_hn : s0.fbounds.length = K_an) {O_a : Option Addr} {O_an : Nat} (O_c : Nat) (O_hn : s0.fbest.length = O_an) {R_a : Option Addr} {R_an : Nat} (R_c : Nat) (R_h : Rw w R_a 4 encGChoice list2) (R_hn : list2.length = R_an) (A_b : Nat) (B_b : Nat) (hm0 : Mem w (bs [some A_b, some B_b]) [⟨some A_b, 185, [(.pointer (some ⟨B_b, 0, none⟩)), (.slice E_a E_an E_c), (.int .i16 s0.fc.fAway), (.int .i16 s0.fc.fOctave), (.int .i16 s0.fc.fStep), (.slice J_a J_an J_c), (.slice K_a K_an K_c), (.int .i64 s0.fbudget), (.int .i64 s0.flooks), (.bool s0.ffound), (.slice O_a O_an O_c), (.int .i64 s0.fleast)]⟩, ⟨some B_b, 34, [(.int .i16 s0.ff.fSteps), (.slice D_a D_an D_c)]⟩] w) (D_ha : s0.ff.fHammers ≠ [] → aB D_a ∉ bs [some A_b, some B_b]) (E_ha : s0.ft ≠ [] → aB E_a ∉ bs [some A_b, some B_b]) (J_ha : J_hs ≠ [] → aB J_a ∉ bs [some A_b, some B_b]) (J_i : Inn w (bs [some A_b, some B_b]) 4 encGChoice J_hs s0.fall) (K_ha : s0.fbounds ≠ [] → aB K_a ∉ bs [some A_b, some B_b]) (R_ha : list2 ≠ [] → aB R_a ∉ bs [some A_b, some B_b]) (h : self_ s0 d1 list2 cost3 = some r),
    Calls Try.prog 130 #[(.pointer (some ⟨A_b, 0, none⟩)), (.agg (row encU32 d1.1 []).toArray), (.slice R_a R_an R_c), (.int .i64 cost3)] w fun e w' => ∃ v, e = .returned v ∧ (∃ (lo : Option Nat) (la : Option Addr) (lc : Nat) (lsp : List Value) (ln : Nat), r.2.fbest.length = ln ∧ LsB lo la lc lsp ln r.2.fbest 4 [(O_a, O_c, s0.fbest), (R_a, R_c, list2)] ∧ v = (.bool r.1) ∧ Mem w (bs [some A_b, some B_b]) [⟨some A_b, 185, [(.pointer (some ⟨B_b, 0, none⟩)), (.slice E_a E_an E_c), (.int .i16 r.2.fc.fAway), (.int .i16 r.2.fc.fOctave), (.int .i16 r.2.fc.fStep), (.slice J_a J_an J_c), (.slice K_a K_an K_c), (.int .i64 r.2.fbudget), (.int .i64 r.2.flooks), (.bool r.2.ffound), (.slice la ln lc), (.int .i64 r.2.fleast)]⟩, ⟨some B_b, 34, [(.int .i16 s0.ff.fSteps), (.slice D_a D_an D_c)]⟩, ⟨lo, 144, row encGChoice r.2.fbest lsp⟩] w')) (s0 : Gl07Search) (d1 : Arr 96 Int) (list2 : List GChoice) (cost3 : Int) (w : World) (r : Bool × Gl07Search) {D_a : Option Addr} {D_an : Nat} (D_c : Nat) (D_h : Rw w D_a 2 encGHammer s0.ff.fHammers) (D_hn : s0.ff.fHammers.length = D_an) {E_a : Option Addr} {E_an : Nat} (E_c : Nat) (E_h : Rw w E_a 2 encGNote s0.ft) (E_hn : s0.ft.length = E_an) {J_a : Option Addr} {J_an : Nat} (J_c : Nat) {J_hs : List Hd} (J_h : Rw w J_a 1 encHd J_hs) (J_hn : s0.fall.length = J_an) {K_a : Option Addr} {K_an : Nat} (K_c : Nat) (K_h : Rw w K_a 1 encI64 s0.fbounds) (K_hn : s0.fbounds.length = K_an) {O_a : Option Addr} {O_an : Nat} (O_c : Nat) (O_hn : s0.fbest.length = O_an) {R_a : Option Addr} {R_an : Nat} (R_c : Nat) (R_h : Rw w R_a 4 encGChoice list2) (R_hn : list2.length = R_an) (A_b : Nat) (B_b : Nat) (hm0 : Mem w (bs [some A_b, some B_b]) [⟨some A_b, 185, [(.pointer (some ⟨B_b, 0, none⟩)), (.slice E_a E_an E_c), (.int .i16 s0.fc.fAway), (.int .i16 s0.fc.fOctave), (.int .i16 s0.fc.fStep), (.slice J_a J_an J_c), (.slice K_a K_an K_c), (.int .i64 s0.fbudget), (.int .i64 s0.flooks), (.bool s0.ffound), (.slice O_a O_an O_c), (.int .i64 s0.fleast)]⟩, ⟨some B_b, 34, [(.int .i16 s0.ff.fSteps), (.slice D_a D_an D_c)]⟩] w) (D_ha : s0.ff.fHammers ≠ [] → aB D_a ∉ bs [some A_b, some B_b]) (E_ha : s0.ft ≠ [] → aB E_a ∉ bs [some A_b, some B_b]) (J_ha : J_hs ≠ [] → aB J_a ∉ bs [some A_b, some B_b]) (J_i : Inn w (bs [some A_b, some B_b]) 4 encGChoice J_hs s0.fall) (K_ha : s0.fbounds ≠ [] → aB K_a ∉ bs [some A_b, some B_b]) (R_ha : list2 ≠ [] → aB R_a ∉ bs [some A_b, some B_b]) (h : spec_l07Go.step self_ s0 d1 list2 cost3 = some r) :
    Calls Try.prog 130 #[(.pointer (some ⟨A_b, 0, none⟩)), (.agg (row encU32 d1.1 []).toArray), (.slice R_a R_an R_c), (.int .i64 cost3)] w fun e w' => ∃ v, e = .returned v ∧ (∃ (lo : Option Nat) (la : Option Addr) (lc : Nat) (lsp : List Value) (ln : Nat), r.2.fbest.length = ln ∧ LsB lo la lc lsp ln r.2.fbest 4 [(O_a, O_c, s0.fbest), (R_a, R_c, list2)] ∧ v = (.bool r.1) ∧ Mem w (bs [some A_b, some B_b]) [⟨some A_b, 185, [(.pointer (some ⟨B_b, 0, none⟩)), (.slice E_a E_an E_c), (.int .i16 r.2.fc.fAway), (.int .i16 r.2.fc.fOctave), (.int .i16 r.2.fc.fStep), (.slice J_a J_an J_c), (.slice K_a K_an K_c), (.int .i64 r.2.fbudget), (.int .i64 r.2.flooks), (.bool r.2.ffound), (.slice la ln lc), (.int .i64 r.2.fleast)]⟩, ⟨some B_b, 34, [(.int .i16 s0.ff.fSteps), (.slice D_a D_an D_c)]⟩, ⟨lo, 144, row encGChoice r.2.fbest lsp⟩] w') := by
  subst D_hn E_hn J_hn K_hn O_hn R_hn
  rw [spec_l07Go.step] at h
  refine enter (args := [(.pointer (some ⟨A_b, 0, none⟩)), (.agg (row encU32 d1.1 []).toArray), (.slice R_a list2.length R_c), (.int .i64 cost3)]) Try.func130 rfl Try.ntmps130 (by kernel_rfl) (L := [⟨some A_b, 185, [(.pointer (some ⟨B_b, 0, none⟩)), (.slice E_a s0.ft.length E_c), (.int .i16 s0.fc.fAway), (.int .i16 s0.fc.fOctave), (.int .i16 s0.fc.fStep), (.slice J_a s0.fall.length J_c), (.slice K_a s0.fbounds.length K_c), (.int .i64 s0.fbudget), (.int .i64 s0.flooks), (.bool s0.ffound), (.slice O_a s0.fbest.length O_c), (.int .i64 s0.fleast)]⟩, ⟨some B_b, 34, [(.int .i16 s0.ff.fSteps), (.slice D_a s0.ff.fHammers.length D_c)]⟩]) (W := bs [some A_b, some B_b]) hm0 ?_
  refine jc_ghostX 144 encGChoice s0.fbest ?_
  refine jc_seq (jc_region (tO (qa 0 (fun b_1 => jkO (qh [0] (qe (jx_then (jc_seq (jc_region (qh [0,0,0] (qe (jx_then (jc_seq (jc_seq (jc_region (qh [0,0,0,0,0,0,0] (qe (jx_then (qi h (fun h => ?_) (fun h => ?_))))))))))))))))))))
  ·refine jc_seq (jc_region (qh [0,0,0] (tO (qs 0 [0] (jkO (qe (jx_then (jc_seq (jc_region (qh [0] (tO (qa 0 (fun b_11 => jkO (qh [0] ?_))))))))))))))
   obtain ⟨hg_12, h⟩ := gd h
   refine tO (p_apn 0 4 (some b_11) 144 0 list2.length 0 4 4 R_a encGChoice ([] : List GChoice) list2 [] (.agg #[(.bool false), (.int .i8 0), (.int .i8 0), (.int .i8 0)]) rfl rfl (by kernel_rfl) (by kernel_rfl) (by kernel_rfl) encGChoice_len encGChoice_cell (fun _ => ⟨Nat.le_refl _, by simp⟩) (fun e => nomatch e) (fun w hm => (hm.exRowW R_h R_ha)) hg_12 (by kernel_rfl) (by kernel_rfl) (fun o_13 cap_14 sp_15 hs_16 ho_17 => jkO (qh [0,0] (tO (qs 0 [0] (jk_lsM 2 4 ⟨o_13, 144, row encGChoice (([] : List GChoice) ++ list2) sp_15⟩ (jkO (qe (jx_then (jc_seq (jc_region (qh [0,0,0,0] (tO (qs 0 [0] (jkO (qe (jx_then (jc_seq (jc_region (qh [0] (qe (jx_then (jc_ret (jx_thenr ?_))))))))))))))))))))))))
   obtain rfl := Option.some.inj h
   exact qr [] (fun w hm => ⟨o_13, (o_13.map fun b => ⟨b, 0, none⟩), cap_14, sp_15, ((([] : List GChoice) ++ list2).length), rfl, (lsO hs_16 ho_17), rfl, hm.pk [0, 1, 2]⟩)
  ·refine jc_skip (jx_then (jc_seq (jc_seq (jc_region (qh [0] (qe (jx_then (jc_meet (fun (j : (List GChoice) × Int × Int × Int × Int × Int × Bool × Int × (Option Nat) × (Option Addr) × Nat × (List Value) × Nat) => match j with | ⟨xs_1, i_3, i_4, i_5, i_6, i_7, q_8, i_9, o_769, a_2, cap_770, sp_771, n_772⟩ => spec_l07Go.k_10 s0 xs_1 i_3 i_4 i_5 i_6 i_7 q_8 i_9 = some r ∧ (xs_1.length = n_772) ∧ (LsB o_769 a_2 cap_770 sp_771 n_772 xs_1 4 [(O_a, O_c, s0.fbest), (R_a, R_c, list2)])) (fun (j : (List GChoice) × Int × Int × Int × Int × Int × Bool × Int × (Option Nat) × (Option Addr) × Nat × (List Value) × Nat) => match j with | ⟨xs_1, i_3, i_4, i_5, i_6, i_7, q_8, i_9, o_769, a_2, cap_770, sp_771, n_772⟩ => [(8, [], (.bool false))]) (fun (j : (List GChoice) × Int × Int × Int × Int × Int × Bool × Int × (Option Nat) × (Option Addr) × Nat × (List Value) × Nat) => match j with | ⟨xs_1, i_3, i_4, i_5, i_6, i_7, q_8, i_9, o_769, a_2, cap_770, sp_771, n_772⟩ => [⟨some A_b, 185, [(.pointer (some ⟨B_b, 0, none⟩)), (.slice E_a s0.ft.length E_c), (.int .i16 i_3), (.int .i16 i_4), (.int .i16 i_5), (.slice J_a s0.fall.length J_c), (.slice K_a s0.fbounds.length K_c), (.int .i64 i_6), (.int .i64 i_7), (.bool q_8), (.slice a_2 n_772 cap_770), (.int .i64 i_9)]⟩, ⟨some B_b, 34, [(.int .i16 s0.ff.fSteps), (.slice D_a s0.ff.fHammers.length D_c)]⟩, ⟨o_769, 144, row encGChoice xs_1 sp_771⟩, ⟨(some b_1), 88, row encU32 d1.1 []⟩]) ?_ ?_))))))))
   ·refine jc_block ?_
    obtain ⟨t_22, ht_1524, hr_1274⟩ := bd h
    refine jc_loop (fun (s : (List GChoice) × Int × Int × Int × Int × Int × Bool × Int × Int) (x : (Option Nat) × (Option Addr) × Nat × (List Value) × Nat) => match s, x with | ⟨xs_11, i_13, i_14, i_15, i_16, i_17, q_18, i_19, i_20⟩, ⟨o_1269, a_12, cap_1270, sp_1271, n_1272⟩ => (xs_11.length = n_1272) ∧ (LsB o_1269 a_12 cap_1270 sp_1271 n_1272 xs_11 4 [(O_a, O_c, s0.fbest), (R_a, R_c, list2)])) (fun (s : (List GChoice) × Int × Int × Int × Int × Int × Bool × Int × Int) (x : (Option Nat) × (Option Addr) × Nat × (List Value) × Nat) => match s, x with | ⟨xs_11, i_13, i_14, i_15, i_16, i_17, q_18, i_19, i_20⟩, ⟨o_1269, a_12, cap_1270, sp_1271, n_1272⟩ => [(0, [], (.pointer (some ⟨A_b, 0, none⟩))), (2, [], (.slice R_a list2.length R_c)), (3, [], (.int .i64 cost3)), (5, [], (.pointer (some ⟨b_1, 0, none⟩))), (8, [], (.bool false)), (9, [], (.int .i64 (list2.length : Int))), (10, [], (.int .i64 i_20))]) (fun (s : (List GChoice) × Int × Int × Int × Int × Int × Bool × Int × Int) (x : (Option Nat) × (Option Addr) × Nat × (List Value) × Nat) => match s, x with | ⟨xs_11, i_13, i_14, i_15, i_16, i_17, q_18, i_19, i_20⟩, ⟨o_1269, a_12, cap_1270, sp_1271, n_1272⟩ => [⟨some A_b, 185, [(.pointer (some ⟨B_b, 0, none⟩)), (.slice E_a s0.ft.length E_c), (.int .i16 i_13), (.int .i16 i_14), (.int .i16 i_15), (.slice J_a s0.fall.length J_c), (.slice K_a s0.fbounds.length K_c), (.int .i64 i_16), (.int .i64 i_17), (.bool q_18), (.slice a_12 n_1272 cap_1270), (.int .i64 i_19)]⟩, ⟨some B_b, 34, [(.int .i16 s0.ff.fSteps), (.slice D_a s0.ff.fHammers.length D_c)]⟩, ⟨o_1269, 144, row encGChoice xs_11 sp_1271⟩, ⟨(some b_1), 88, row encU32 d1.1 []⟩]) ht_1524 ⟨(none : Option Nat), O_a, O_c, [], s0.fbest.length⟩ ⟨rfl, ls0⟩ (by kernel_rfl) [0, 1, 2, 3] (by kernel_rfl) (by kernel_rfl) ?_
    rintro ⟨xs_11, i_13, i_14, i_15, i_16, i_17, q_18, i_19, i_20⟩ ⟨o_1269, a_12, cap_1270, sp_1271, n_1272⟩ y_1275 ⟨rfl, hl_1273⟩ h
    rw [spec_l07Go.l_21] at h
    refine jc_seq (jc_seq (jc_region (qh [0,0,0,0,0,0] ?_)))
    obtain ⟨x_23, hx_1278, h⟩ := bd h
    refine tO (qx 0 J_a 1 hx_1278 rfl (J_h.sp (J_i.ixh hx_1278)) (jkO (tO (ql 0 false (fun w hm => ((hm.exRowW J_h J_ha).at (J_i.ixh hx_1278))) (jkO (tO (p_val 0 (.int .i64 (((hd J_hs (list2.length : Int)).n : Nat) : Int)) (.int .i64 (x_23.length : Int)) (by kernel_rfl) (by kernel_rfl) (congrArg (fun z : Nat => Value.int .i64 (z : Int)) (Eq.symm (J_i.get hx_1278).2.1)) (jkO (qh [0] (qe (jx_then (qi h (fun h => ?_) (fun h => ?_)))))))))))))
    ·refine jc_skip (jx_then (jc_seq (jc_block (jc_seq (jc_region (qh [0,0,0,0,0] ?_))))))
     obtain ⟨x_24, hx_1280, h⟩ := bd h
     refine tO (qx 0 J_a 1 hx_1280 rfl (J_h.sp (J_i.ixh hx_1280)) (jkO (tO (ql 0 false (fun w hm => ((hm.exRowW J_h J_ha).at (J_i.ixh hx_1280))) (jkO (qh [0] ?_))))))
     obtain ⟨x_25, hx_1281, h⟩ := bd h
     refine tO (qx 0 (hd J_hs (list2.length : Int)).a 4 hx_1281 (J_i.get hx_1280).2.1 ((J_i.get hx_1280).1.sp hx_1281) (jkO (tO (ql 0 true (fun w hm => ((hm.exRowW (J_i.get hx_1280).1 (J_i.get hx_1280).2.2).at hx_1281)) (jkO (tO (qa 0 (fun b_1282 => jkO (tO (qs 0 [4] (jkO (qe (jx_then (jc_seq (qg [⟨some A_b, 185, [(.pointer (some ⟨B_b, 0, none⟩)), (.slice E_a s0.ft.length E_c), (.int .i16 i_13), (.int .i16 i_14), (.int .i16 i_15), (.slice J_a s0.fall.length J_c), (.slice K_a s0.fbounds.length K_c), (.int .i64 i_16), (.int .i64 i_17), (.bool q_18), (.slice a_12 xs_11.length cap_1270), (.int .i64 i_19)]⟩, ⟨some B_b, 34, [(.int .i16 s0.ff.fSteps), (.slice D_a s0.ff.fHammers.length D_c)]⟩, ⟨o_1269, 144, row encGChoice xs_11 sp_1271⟩, ⟨(some b_1), 88, row encU32 d1.1 []⟩, ⟨some b_1282, 144, [(.bool x_25.fAway), (.int .i8 x_25.fLate), (.int .i8 x_25.fOctave), (.int .i8 x_25.fTrack)]⟩] 9 (qd [⟨0, 0, 0⟩,⟨1, 0, 0⟩,⟨2, 0, 0⟩,⟨3, 0, 0⟩,⟨4, 0, 0⟩,⟨5, 4, 0⟩] 3 [0, 1, 2, 3, 4] ?_))))))))))))))))
     obtain ⟨t_26, ht_1283, h⟩ := bd h
     refine tD 6 (pc 0 (fun w hm => spec_l07Cost.calls (⟨i_13, i_14, i_15⟩ : GCosts) x_25 w _ ht_1283) ?_)
     rintro w v w' hm ⟨rfl, hm'⟩
     refine ⟨_, hm.app hm', kD [0, 1, 2, 3, 4] ?_⟩
     clear hm hm'
     refine qd [⟨7, 0, 0⟩,⟨8, 0, 0⟩] 0 [0, 1, 2, 3, 4] (qz (jx_then (jc_seq (jc_region (tO (p_ldA 0 3 b_1 96 1 88 encU32 d1 (by kernel_rfl) (by kernel_rfl) (by kernel_rfl) encU32_len (by kernel_rfl) (jkO (tO (qa 0 (fun b_1284 => jkO (tO (p_sA 0 5 b_1284 96 1 88 encU32 (Arr.rep 96 0) d1 (by kernel_rfl) (by kernel_rfl) (by kernel_rfl) encU32_len encU32_cell (by kernel_rfl) (jkO (qe (jx_then (jc_seq (jc_meet (fun (j : (Arr 96 Int)) => match j with | a_27 => spec_l07Go.k_28 self_ s0 list2 cost3 xs_11 i_13 i_14 i_15 i_16 i_17 q_18 i_19 i_20 x_25 t_26 a_27 = some y_1275) (fun (j : (Arr 96 Int)) => match j with | a_27 => [(0, [], (.pointer (some ⟨A_b, 0, none⟩))), (2, [], (.slice R_a list2.length R_c)), (3, [], (.int .i64 cost3)), (5, [], (.pointer (some ⟨b_1, 0, none⟩))), (8, [], (.bool false)), (9, [], (.int .i64 (list2.length : Int))), (10, [], (.int .i64 i_20)), (11, [], (.pointer (some ⟨b_1282, 0, none⟩))), (12, [], (.int .i64 (w64 (cost3 + t_26)))), (13, [], (.pointer (some ⟨b_1284, 0, none⟩)))]) (fun (j : (Arr 96 Int)) => match j with | a_27 => [⟨some A_b, 185, [(.pointer (some ⟨B_b, 0, none⟩)), (.slice E_a s0.ft.length E_c), (.int .i16 i_13), (.int .i16 i_14), (.int .i16 i_15), (.slice J_a s0.fall.length J_c), (.slice K_a s0.fbounds.length K_c), (.int .i64 i_16), (.int .i64 i_17), (.bool q_18), (.slice a_12 xs_11.length cap_1270), (.int .i64 i_19)]⟩, ⟨some B_b, 34, [(.int .i16 s0.ff.fSteps), (.slice D_a s0.ff.fHammers.length D_c)]⟩, ⟨o_1269, 144, row encGChoice xs_11 sp_1271⟩, ⟨(some b_1), 88, row encU32 d1.1 []⟩, ⟨some b_1282, 144, [(.bool x_25.fAway), (.int .i8 x_25.fLate), (.int .i8 x_25.fOctave), (.int .i8 x_25.fTrack)]⟩, ⟨(some b_1284), 88, row encU32 a_27.1 []⟩]) ?_ ?_)))))))))))))))))
     ·refine jc_seq (qg [⟨some A_b, 185, [(.pointer (some ⟨B_b, 0, none⟩)), (.slice E_a s0.ft.length E_c), (.int .i16 i_13), (.int .i16 i_14), (.int .i16 i_15), (.slice J_a s0.fall.length J_c), (.slice K_a s0.fbounds.length K_c), (.int .i64 i_16), (.int .i64 i_17), (.bool q_18), (.slice a_12 xs_11.length cap_1270), (.int .i64 i_19)]⟩, ⟨some B_b, 34, [(.int .i16 s0.ff.fSteps), (.slice D_a s0.ff.fHammers.length D_c)]⟩, ⟨o_1269, 144, row encGChoice xs_11 sp_1271⟩, ⟨(some b_1), 88, row encU32 d1.1 []⟩, ⟨some b_1282, 144, [(.bool x_25.fAway), (.int .i8 x_25.fLate), (.int .i8 x_25.fOctave), (.int .i8 x_25.fTrack)]⟩] 37 (qd [⟨0, 0, 0⟩,⟨1, 0, 0⟩,⟨2, 0, 0⟩,⟨3, 0, 0⟩,⟨4, 0, 0⟩,⟨5, 0, 0⟩,⟨6, 0, 0⟩,⟨7, 0, 0⟩,⟨8, 0, 0⟩,⟨11, 4, 0⟩] 27 [0, 1, 2, 3, 4] ?_))
      obtain ⟨x_42, hx_1515, h⟩ := bd h
      refine qv 9 0 [0, 1, 2, 3, 4] (fun w hm => idx_run (a := E_a) (len := s0.ft.length) (s := 2) (j := (list2.length : Int)) (by kernel_rfl) (ix_some hx_1515).1 (ltn hx_1515 rfl) (E_h.sp hx_1515)) (qv 10 0 [0, 1, 2, 3, 4] (fun w hm => ld_run (b := aB E_a) (off := (aO E_a + (list2.length : Int).toNat * 2)) (s := 2) (agg := true) (vs := (encGNote x_42)) (by kernel_rfl) (by kernel_rfl) (.inl rfl) ((hm.exRowW E_h E_ha).at hx_1515)) ?_)
      obtain ⟨t_43, ht_1516, h⟩ := bd h
      refine tD 12 (pc 0 (fun w hm => spec_l07Put.calls (⟨s0.ff.fSteps, s0.ff.fHammers⟩ : GFrame) d1 x_42 x_25 w _ D_c (hm.exRowW D_h D_ha) rfl B_b b_1284 (hm.pass (N := [⟨some B_b, 34, [(.int .i16 s0.ff.fSteps), (.slice D_a s0.ff.fHammers.length D_c)]⟩, ⟨(some b_1284), 88, row encU32 d1.1 []⟩]) [1, 5] (by kernel_rfl) (by kernel_rfl)) (hm.exApart (N := [⟨some B_b, 34, [(.int .i16 s0.ff.fSteps), (.slice D_a s0.ff.fHammers.length D_c)]⟩, ⟨(some b_1284), 88, row encU32 d1.1 []⟩]) D_h D_ha [1, 5] (by kernel_rfl)) ht_1516) ?_)
      rintro w v w' hm ⟨rfl, hm'⟩
      refine ⟨_, hm.appW (ps := [(1, ⟨some B_b, 34, [(.int .i16 s0.ff.fSteps), (.slice D_a s0.ff.fHammers.length D_c)]⟩), (5, ⟨(some b_1284), 88, row encU32 t_43.2.1 []⟩)]) (N := []) hm' (by kernel_rfl) (by kernel_rfl), kD [0, 1, 2, 3, 4] ?_⟩
      clear hm hm'
      refine qd [⟨13, 0, 0⟩,⟨14, 0, 0⟩,⟨15, 0, 1⟩,⟨16, 0, 1⟩,⟨17, 0, 1⟩,⟨18, 0, 1⟩] 18 [0, 1, 2, 3, 4] (jd_split 81 (!t_43.1) (by kernel_rfl) (fun hc_1517 => ?_) (fun hc_1517 => ?_))
      ·replace h := ifT hc_1517 h
       exact qd [⟨19, 0, 3⟩,⟨20, 0, 3⟩,⟨21, 0, 3⟩,⟨22, 0, 3⟩,⟨23, 0, 3⟩,⟨24, 0, 3⟩,⟨25, 0, 3⟩,⟨26, 0, 3⟩,⟨27, 0, 3⟩,⟨28, 0, 3⟩,⟨29, 0, 3⟩,⟨30, 0, 3⟩,⟨31, 0, 3⟩,⟨32, 0, 3⟩,⟨33, 0, 3⟩,⟨34, 0, 3⟩,⟨35, 0, 3⟩,⟨36, 0, 4⟩] 0 [0, 1, 2, 3, 4] (qz (jx_then (jc_cond true (by kernel_rfl) (fun hc_1518 => (jc_exit (jx_thenx (jx_thenx (jx_ine (jx_then (jc_region (qh [0,0,0] (qe (qb (xs_11, i_13, i_14, i_15, i_16, i_17, q_18, i_19, (w64 (i_20 + 1))) ⟨o_1269, a_12, cap_1270, sp_1271, xs_11.length⟩ h ⟨rfl, hl_1273⟩ [0, 1, 2, 3])))))))))) (fun hc_1518 => nomatch hc_1518))))
      ·replace h := ifF hc_1517 h
       refine qd [⟨19, 0, 2⟩,⟨20, 0, 1⟩,⟨21, 0, 1⟩,⟨22, 0, 1⟩,⟨23, 0, 1⟩,⟨24, 0, 1⟩,⟨25, 0, 1⟩,⟨26, 0, 1⟩,⟨30, 0, 1⟩,⟨31, 0, 1⟩,⟨32, 0, 1⟩,⟨33, 0, 1⟩] 6 [0, 1, 2, 3, 4] (jd_split 86 q_18 (by kernel_rfl) (fun hc_1519 => ?_) (fun hc_1519 => ?_))
       ·replace h := ifT hc_1519 h
        obtain ⟨x_44, hx_1520, h⟩ := bd h
        refine qv 27 2 [0, 1, 2, 3, 4] (fun w hm => idx_run (a := K_a) (len := s0.fbounds.length) (s := 1) (j := (w64 ((list2.length : Int) + 1))) (by kernel_rfl) (ix_some hx_1520).1 (ltn hx_1520 rfl) (K_h.sp hx_1520)) (qv 28 2 [0, 1, 2, 3, 4] (fun w hm => ld_run (b := aB K_a) (off := (aO K_a + (w64 ((list2.length : Int) + 1)).toNat * 1)) (s := 1) (agg := false) (vs := (encI64 x_44)) (by kernel_rfl) (by kernel_rfl) (.inr rfl) ((hm.exRowW K_h K_ha).at hx_1520)) (qd [⟨29, 0, 2⟩,⟨34, 0, 2⟩,⟨35, 0, 4⟩,⟨36, 0, 5⟩] 0 [0, 1, 2, 3, 4] (qz (jx_then (qi h (fun h => ?_) (fun h => ?_))))))
        ·exact jc_exit (jx_thenx (jx_thenx (jx_ine (jx_then (jc_region (qh [0,0,0] (qe (qb (xs_11, i_13, i_14, i_15, i_16, i_17, q_18, i_19, (w64 (i_20 + 1))) ⟨o_1269, a_12, cap_1270, sp_1271, xs_11.length⟩ h ⟨rfl, hl_1273⟩ [0, 1, 2, 3]))))))))
        ·exact jc_skip (qm t_43.2 h [0, 1, 2, 3, 4, 5])
       ·replace h := ifF hc_1519 h
        exact qd [⟨27, 0, 3⟩,⟨28, 0, 3⟩,⟨29, 0, 3⟩,⟨34, 0, 3⟩,⟨35, 0, 5⟩,⟨36, 0, 5⟩] 0 [0, 1, 2, 3, 4] (qz (jx_then (jc_cond false (by kernel_rfl) (fun hc_1522 => nomatch hc_1522) (fun hc_1522 => (jc_skip (qm t_43.2 h [0, 1, 2, 3, 4, 5]))))))
     ·rintro a_27 h
      replace h : spec_l07Go.k_28 self_ s0 list2 cost3 xs_11 i_13 i_14 i_15 i_16 i_17 q_18 i_19 i_20 x_25 t_26 a_27 = some y_1275 := h
      rw [spec_l07Go.k_28] at h
      refine jx_then (jc_seq (jc_seq (qg [⟨some A_b, 185, [(.pointer (some ⟨B_b, 0, none⟩)), (.slice E_a s0.ft.length E_c), (.int .i16 i_13), (.int .i16 i_14), (.int .i16 i_15), (.slice J_a s0.fall.length J_c), (.slice K_a s0.fbounds.length K_c), (.int .i64 i_16), (.int .i64 i_17), (.bool q_18), (.slice a_12 xs_11.length cap_1270), (.int .i64 i_19)]⟩, ⟨some B_b, 34, [(.int .i16 s0.ff.fSteps), (.slice D_a s0.ff.fHammers.length D_c)]⟩, ⟨o_1269, 144, row encGChoice xs_11 sp_1271⟩, ⟨(some b_1), 88, row encU32 d1.1 []⟩, ⟨some b_1282, 144, [(.bool x_25.fAway), (.int .i8 x_25.fLate), (.int .i8 x_25.fOctave), (.int .i8 x_25.fTrack)]⟩, ⟨(some b_1284), 88, row encU32 a_27.1 []⟩] 9 (qd [⟨0, 0, 0⟩,⟨1, 0, 0⟩,⟨2, 0, 0⟩,⟨3, 0, 0⟩,⟨4, 0, 0⟩,⟨5, 0, 0⟩,⟨6, 0, 0⟩,⟨7, 0, 0⟩,⟨8, 0, 0⟩] 0 [0, 1, 2, 3, 4, 5] (qz (jx_then (qi h (fun h => ?_) (fun h => ?_))))))))
      ·refine jc_seq (jc_region (qh [0] (qe (jx_then (jc_ret (jx_thenr (jx_inr (jx_thenr (jx_leaver (.inl (false, (⟨(⟨s0.ff.fSteps, s0.ff.fHammers⟩ : GFrame), s0.ft, (⟨i_13, i_14, i_15⟩ : GCosts), s0.fall, s0.fbounds, i_16, i_17, q_18, xs_11, i_19⟩ : Gl07Search))) (Option.some.inj h).symm (fun e_1296 => ?_))))))))))
       subst e_1296
       refine jx_inr (jx_thenr (jx_thenr ?_))
       obtain rfl := Option.some.inj hr_1274
       exact qr [] (fun w hm => ⟨o_1269, a_12, cap_1270, sp_1271, xs_11.length, rfl, hl_1273, rfl, hm.pk [0, 1, 2]⟩)
      ·refine jc_skip (jx_then (jc_seq (jc_region (qh [0,0,0,0,0,0,0] (tO (qs 0 [0] (jkO (qe (jx_then (jc_seq (jc_meet (fun (j : (List GChoice) × Int × Int × Int × Int × Int × Bool × Int × Bool × (Option Nat) × (Option Addr) × Nat × (List Value) × Nat) => match j with | ⟨xs_29, i_31, i_32, i_33, i_34, i_35, q_36, i_37, q_38, o_1402, a_30, cap_1403, sp_1404, n_1405⟩ => spec_l07Go.k_39 s0 i_20 xs_29 i_31 i_32 i_33 i_34 i_35 q_36 i_37 q_38 = some y_1275 ∧ (xs_29.length = n_1405) ∧ (LsB o_1402 a_30 cap_1403 sp_1404 n_1405 xs_29 4 [(O_a, O_c, s0.fbest), (R_a, R_c, list2)])) (fun (j : (List GChoice) × Int × Int × Int × Int × Int × Bool × Int × Bool × (Option Nat) × (Option Addr) × Nat × (List Value) × Nat) => match j with | ⟨xs_29, i_31, i_32, i_33, i_34, i_35, q_36, i_37, q_38, o_1402, a_30, cap_1403, sp_1404, n_1405⟩ => [(0, [], (.pointer (some ⟨A_b, 0, none⟩))), (2, [], (.slice R_a list2.length R_c)), (3, [], (.int .i64 cost3)), (5, [], (.pointer (some ⟨b_1, 0, none⟩))), (8, [], (.bool false)), (9, [], (.int .i64 (list2.length : Int))), (10, [], (.int .i64 i_20)), (130, [], (.bool q_38))]) (fun (j : (List GChoice) × Int × Int × Int × Int × Int × Bool × Int × Bool × (Option Nat) × (Option Addr) × Nat × (List Value) × Nat) => match j with | ⟨xs_29, i_31, i_32, i_33, i_34, i_35, q_36, i_37, q_38, o_1402, a_30, cap_1403, sp_1404, n_1405⟩ => [⟨some A_b, 185, [(.pointer (some ⟨B_b, 0, none⟩)), (.slice E_a s0.ft.length E_c), (.int .i16 i_31), (.int .i16 i_32), (.int .i16 i_33), (.slice J_a s0.fall.length J_c), (.slice K_a s0.fbounds.length K_c), (.int .i64 i_34), (.int .i64 i_35), (.bool q_36), (.slice a_30 n_1405 cap_1403), (.int .i64 i_37)]⟩, ⟨some B_b, 34, [(.int .i16 s0.ff.fSteps), (.slice D_a s0.ff.fHammers.length D_c)]⟩, ⟨o_1402, 144, row encGChoice xs_29 sp_1404⟩, ⟨(some b_1), 88, row encU32 d1.1 []⟩, ⟨some b_1282, 144, [(.bool x_25.fAway), (.int .i8 x_25.fLate), (.int .i8 x_25.fOctave), (.int .i8 x_25.fTrack)]⟩, ⟨(some b_1284), 88, row encU32 a_27.1 []⟩]) ?_ ?_)))))))))))
       ·refine qg [⟨some B_b, 34, [(.int .i16 s0.ff.fSteps), (.slice D_a s0.ff.fHammers.length D_c)]⟩, ⟨(some b_1), 88, row encU32 d1.1 []⟩, ⟨some b_1282, 144, [(.bool x_25.fAway), (.int .i8 x_25.fLate), (.int .i8 x_25.fOctave), (.int .i8 x_25.fTrack)]⟩, ⟨(some b_1284), 88, row encU32 a_27.1 []⟩] 11 (qd [⟨0, 0, 0⟩,⟨3, 0, 0⟩,⟨5, 2, 0⟩,⟨8, 0, 0⟩] 7 [1, 3, 4, 5] (qv 1 0 [1, 3, 4, 5] (fun w hm => ld_run (b := b_1284) (off := 0) (s := 96) (agg := true) (vs := row encU32 a_27.1 []) (by kernel_rfl) ((row_len encU32_len a_27).trans rfl) (.inl rfl) (hm.all (hh := 3) (T := 88) (by kernel_rfl))) (toD2 2 6 (by kernel_rfl) ?_ ?_)))
        ·refine qa 0 (fun b_1446 => kD [1, 3, 4, 5] (toD2 4 6 (by kernel_rfl) ?_ ?_))
         ·obtain ⟨hg_1447, h⟩ := gd h
          refine p_apn 0 6 (some b_1446) 144 0 list2.length 0 4 4 R_a encGChoice ([] : List GChoice) list2 [] (.agg #[(.bool false), (.int .i8 0), (.int .i8 0), (.int .i8 0)]) rfl rfl (by kernel_rfl) (by kernel_rfl) (by kernel_rfl) encGChoice_len encGChoice_cell (fun _ => ⟨Nat.le_refl _, by simp⟩) (fun e => nomatch e) (fun w hm => (hm.exRowW R_h R_ha)) hg_1447 (by kernel_rfl) (by kernel_rfl) (fun o_1448 cap_1449 sp_1450 hs_1451 ho_1452 => kD [1, 3, 4, 5] (tD 6 (qa 0 (fun b_1453 => kD [1, 3, 4, 5] ?_))))
          obtain ⟨hg_1454, h⟩ := gd h
          refine tD 7 (p_apn 0 6 o_1448 144 ((([] : List GChoice) ++ list2).length) 1 cap_1449 4 4 (some ⟨b_1453, 0, none⟩) encGChoice (([] : List GChoice) ++ list2) ([x_25] : List GChoice) sp_1450 (.agg #[(.bool false), (.int .i8 0), (.int .i8 0), (.int .i8 0)]) rfl rfl (by kernel_rfl) (by kernel_rfl) (by kernel_rfl) encGChoice_len encGChoice_cell hs_1451 ho_1452 (fun w hm => (hm.ow 7 (some b_1453) 144 ([x_25] : List GChoice) [] (fun e => nomatch e) encGChoice_len)) hg_1454 (by kernel_rfl) (by kernel_rfl) (fun o_1455 cap_1456 sp_1457 hs_1458 ho_1459 => kD [1, 3, 4, 5] ?_))
          obtain ⟨t_40, ht_1460, h⟩ := bd h
          refine tD 9 (pc 0 (fun w hm => hself (⟨(⟨s0.ff.fSteps, s0.ff.fHammers⟩ : GFrame), s0.ft, (⟨i_13, i_14, i_15⟩ : GCosts), s0.fall, s0.fbounds, i_16, (w64 (i_17 + 1)), q_18, xs_11, i_19⟩ : Gl07Search) a_27 ((([] : List GChoice) ++ list2) ++ ([x_25] : List GChoice)) (w64 (cost3 + t_26)) w _ D_c (hm.exRowW D_h D_ha) rfl E_c (hm.exRowW E_h E_ha) rfl J_c (hm.exRowW J_h J_ha) rfl K_c (hm.exRowW K_h K_ha) rfl cap_1270 rfl cap_1456 (hm.ow 6 o_1455 144 ((([] : List GChoice) ++ list2) ++ ([x_25] : List GChoice)) sp_1457 (fun e => (ho_1459 e).1) encGChoice_len) rfl A_b B_b (hm.pass (N := [⟨some A_b, 185, [(.pointer (some ⟨B_b, 0, none⟩)), (.slice E_a s0.ft.length E_c), (.int .i16 i_13), (.int .i16 i_14), (.int .i16 i_15), (.slice J_a s0.fall.length J_c), (.slice K_a s0.fbounds.length K_c), (.int .i64 i_16), (.int .i64 (w64 (i_17 + 1))), (.bool q_18), (.slice a_12 xs_11.length cap_1270), (.int .i64 i_19)]⟩, ⟨some B_b, 34, [(.int .i16 s0.ff.fSteps), (.slice D_a s0.ff.fHammers.length D_c)]⟩]) [0, 1] (by kernel_rfl) (by kernel_rfl)) (hm.exApart (N := [⟨some A_b, 185, [(.pointer (some ⟨B_b, 0, none⟩)), (.slice E_a s0.ft.length E_c), (.int .i16 i_13), (.int .i16 i_14), (.int .i16 i_15), (.slice J_a s0.fall.length J_c), (.slice K_a s0.fbounds.length K_c), (.int .i64 i_16), (.int .i64 (w64 (i_17 + 1))), (.bool q_18), (.slice a_12 xs_11.length cap_1270), (.int .i64 i_19)]⟩, ⟨some B_b, 34, [(.int .i16 s0.ff.fSteps), (.slice D_a s0.ff.fHammers.length D_c)]⟩]) D_h D_ha [0, 1] (by kernel_rfl)) (hm.exApart (N := [⟨some A_b, 185, [(.pointer (some ⟨B_b, 0, none⟩)), (.slice E_a s0.ft.length E_c), (.int .i16 i_13), (.int .i16 i_14), (.int .i16 i_15), (.slice J_a s0.fall.length J_c), (.slice K_a s0.fbounds.length K_c), (.int .i64 i_16), (.int .i64 (w64 (i_17 + 1))), (.bool q_18), (.slice a_12 xs_11.length cap_1270), (.int .i64 i_19)]⟩, ⟨some B_b, 34, [(.int .i16 s0.ff.fSteps), (.slice D_a s0.ff.fHammers.length D_c)]⟩]) E_h E_ha [0, 1] (by kernel_rfl)) (hm.exApart (N := [⟨some A_b, 185, [(.pointer (some ⟨B_b, 0, none⟩)), (.slice E_a s0.ft.length E_c), (.int .i16 i_13), (.int .i16 i_14), (.int .i16 i_15), (.slice J_a s0.fall.length J_c), (.slice K_a s0.fbounds.length K_c), (.int .i64 i_16), (.int .i64 (w64 (i_17 + 1))), (.bool q_18), (.slice a_12 xs_11.length cap_1270), (.int .i64 i_19)]⟩, ⟨some B_b, 34, [(.int .i16 s0.ff.fSteps), (.slice D_a s0.ff.fHammers.length D_c)]⟩]) J_h J_ha [0, 1] (by kernel_rfl)) (hm.innPass (N := [⟨some A_b, 185, [(.pointer (some ⟨B_b, 0, none⟩)), (.slice E_a s0.ft.length E_c), (.int .i16 i_13), (.int .i16 i_14), (.int .i16 i_15), (.slice J_a s0.fall.length J_c), (.slice K_a s0.fbounds.length K_c), (.int .i64 i_16), (.int .i64 (w64 (i_17 + 1))), (.bool q_18), (.slice a_12 xs_11.length cap_1270), (.int .i64 i_19)]⟩, ⟨some B_b, 34, [(.int .i16 s0.ff.fSteps), (.slice D_a s0.ff.fHammers.length D_c)]⟩]) J_i [0, 1] (by kernel_rfl)) (hm.exApart (N := [⟨some A_b, 185, [(.pointer (some ⟨B_b, 0, none⟩)), (.slice E_a s0.ft.length E_c), (.int .i16 i_13), (.int .i16 i_14), (.int .i16 i_15), (.slice J_a s0.fall.length J_c), (.slice K_a s0.fbounds.length K_c), (.int .i64 i_16), (.int .i64 (w64 (i_17 + 1))), (.bool q_18), (.slice a_12 xs_11.length cap_1270), (.int .i64 i_19)]⟩, ⟨some B_b, 34, [(.int .i16 s0.ff.fSteps), (.slice D_a s0.ff.fHammers.length D_c)]⟩]) K_h K_ha [0, 1] (by kernel_rfl)) (hm.ownApart (S := GChoice) (N := [⟨some A_b, 185, [(.pointer (some ⟨B_b, 0, none⟩)), (.slice E_a s0.ft.length E_c), (.int .i16 i_13), (.int .i16 i_14), (.int .i16 i_15), (.slice J_a s0.fall.length J_c), (.slice K_a s0.fbounds.length K_c), (.int .i64 i_16), (.int .i64 (w64 (i_17 + 1))), (.bool q_18), (.slice a_12 xs_11.length cap_1270), (.int .i64 i_19)]⟩, ⟨some B_b, 34, [(.int .i16 s0.ff.fSteps), (.slice D_a s0.ff.fHammers.length D_c)]⟩]) (hh := 6) (o := o_1455) (T := 144) (cs := row encGChoice ((([] : List GChoice) ++ list2) ++ ([x_25] : List GChoice)) sp_1457) (xs := ((([] : List GChoice) ++ list2) ++ ([x_25] : List GChoice))) (by kernel_rfl) (fun e => (ho_1459 e).1) [0, 1] (by kernel_rfl) (by kernel_rfl)) ht_1460) ?_)
          rintro w v w' hm ⟨o_1461, a_41, cap_1462, sp_1463, _, rfl, hl_1464, rfl, hm'⟩
          obtain ⟨o_1465, sp_1466, hl_1467, hM_1468⟩ := Mem.ls3 (T := 144) (enc := encGChoice) (o1 := o_1269) (sp1 := sp_1271) (xs1 := xs_11) (o := o_1461) (sp := sp_1463) (xs := t_40.2.fbest) (F := [(O_a, O_c, s0.fbest), (R_a, R_c, list2)]) (o2 := o_1455) (sp2 := sp_1457) (xs2 := ((([] : List GChoice) ++ list2) ++ ([x_25] : List GChoice))) (hm.appW (ps := [(0, ⟨some A_b, 185, [(.pointer (some ⟨B_b, 0, none⟩)), (.slice E_a s0.ft.length E_c), (.int .i16 t_40.2.fc.fAway), (.int .i16 t_40.2.fc.fOctave), (.int .i16 t_40.2.fc.fStep), (.slice J_a s0.fall.length J_c), (.slice K_a s0.fbounds.length K_c), (.int .i64 t_40.2.fbudget), (.int .i64 t_40.2.flooks), (.bool t_40.2.ffound), (.slice a_41 t_40.2.fbest.length cap_1462), (.int .i64 t_40.2.fleast)]⟩), (1, ⟨some B_b, 34, [(.int .i16 s0.ff.fSteps), (.slice D_a s0.ff.fHammers.length D_c)]⟩)]) (N := [⟨o_1461, 144, row encGChoice t_40.2.fbest sp_1463⟩]) hm' (by kernel_rfl) (by kernel_rfl)) 2 6 8 (by kernel_rfl) (by kernel_rfl) (by kernel_rfl) (by kernel_rfl) hl_1273 rfl hs_1458 ho_1459 rfl rfl hl_1464
          refine ⟨_, Mem.pick hM_1468 (N := [⟨some A_b, 185, [(.pointer (some ⟨B_b, 0, none⟩)), (.slice E_a s0.ft.length E_c), (.int .i16 t_40.2.fc.fAway), (.int .i16 t_40.2.fc.fOctave), (.int .i16 t_40.2.fc.fStep), (.slice J_a s0.fall.length J_c), (.slice K_a s0.fbounds.length K_c), (.int .i64 t_40.2.fbudget), (.int .i64 t_40.2.flooks), (.bool t_40.2.ffound), (.slice a_41 t_40.2.fbest.length cap_1462), (.int .i64 t_40.2.fleast)]⟩, ⟨some B_b, 34, [(.int .i16 s0.ff.fSteps), (.slice D_a s0.ff.fHammers.length D_c)]⟩, ⟨o_1465, 144, row encGChoice t_40.2.fbest sp_1466⟩, ⟨(some b_1), 88, row encU32 d1.1 []⟩, ⟨some b_1282, 144, [(.bool x_25.fAway), (.int .i8 x_25.fLate), (.int .i8 x_25.fOctave), (.int .i8 x_25.fTrack)]⟩, ⟨(some b_1284), 88, row encU32 a_27.1 []⟩, ⟨none, 0, []⟩, ⟨(some b_1453), 144, row encGChoice ([x_25] : List GChoice) []⟩]) [0, 1, 2, 3, 4, 5, 6, 7] (by kernel_rfl) (by kernel_rfl), kD [1, 3, 4, 5] ?_⟩
          clear hm hm' hM_1468
          exact qd [⟨10, 0, 0⟩] 0 [1, 3, 4, 5] (qz (qm ⟨t_40.2.fbest, t_40.2.fc.fAway, t_40.2.fc.fOctave, t_40.2.fc.fStep, t_40.2.fbudget, t_40.2.flooks, t_40.2.ffound, t_40.2.fleast, (!t_40.1), o_1465, a_41, cap_1462, sp_1466, t_40.2.fbest.length⟩ ⟨h, rfl, hl_1467⟩ [0, 1, 2, 3, 4, 5]))
         ·refine qa 0 (fun b_1469 => kD [1, 3, 4, 5] ?_)
          obtain ⟨hg_1470, h⟩ := gd h
          refine tD 4 (p_apn 0 6 (some b_1446) 144 0 list2.length 0 4 4 R_a encGChoice ([] : List GChoice) list2 [] (.agg #[(.bool false), (.int .i8 0), (.int .i8 0), (.int .i8 0)]) rfl rfl (by kernel_rfl) (by kernel_rfl) (by kernel_rfl) encGChoice_len encGChoice_cell (fun _ => ⟨Nat.le_refl _, by simp⟩) (fun e => nomatch e) (fun w hm => (hm.exRowW R_h R_ha)) hg_1470 (by kernel_rfl) (by kernel_rfl) (fun o_1471 cap_1472 sp_1473 hs_1474 ho_1475 => kD [1, 3, 4, 5] ?_))
          obtain ⟨hg_1476, h⟩ := gd h
          refine tD 7 (p_apn 0 6 o_1471 144 ((([] : List GChoice) ++ list2).length) 1 cap_1472 4 4 (some ⟨b_1469, 0, none⟩) encGChoice (([] : List GChoice) ++ list2) ([x_25] : List GChoice) sp_1473 (.agg #[(.bool false), (.int .i8 0), (.int .i8 0), (.int .i8 0)]) rfl rfl (by kernel_rfl) (by kernel_rfl) (by kernel_rfl) encGChoice_len encGChoice_cell hs_1474 ho_1475 (fun w hm => (hm.ow 7 (some b_1469) 144 ([x_25] : List GChoice) [] (fun e => nomatch e) encGChoice_len)) hg_1476 (by kernel_rfl) (by kernel_rfl) (fun o_1477 cap_1478 sp_1479 hs_1480 ho_1481 => kD [1, 3, 4, 5] ?_))
          obtain ⟨t_40, ht_1482, h⟩ := bd h
          refine tD 9 (pc 0 (fun w hm => hself (⟨(⟨s0.ff.fSteps, s0.ff.fHammers⟩ : GFrame), s0.ft, (⟨i_13, i_14, i_15⟩ : GCosts), s0.fall, s0.fbounds, i_16, (w64 (i_17 + 1)), q_18, xs_11, i_19⟩ : Gl07Search) a_27 ((([] : List GChoice) ++ list2) ++ ([x_25] : List GChoice)) (w64 (cost3 + t_26)) w _ D_c (hm.exRowW D_h D_ha) rfl E_c (hm.exRowW E_h E_ha) rfl J_c (hm.exRowW J_h J_ha) rfl K_c (hm.exRowW K_h K_ha) rfl cap_1270 rfl cap_1478 (hm.ow 6 o_1477 144 ((([] : List GChoice) ++ list2) ++ ([x_25] : List GChoice)) sp_1479 (fun e => (ho_1481 e).1) encGChoice_len) rfl A_b B_b (hm.pass (N := [⟨some A_b, 185, [(.pointer (some ⟨B_b, 0, none⟩)), (.slice E_a s0.ft.length E_c), (.int .i16 i_13), (.int .i16 i_14), (.int .i16 i_15), (.slice J_a s0.fall.length J_c), (.slice K_a s0.fbounds.length K_c), (.int .i64 i_16), (.int .i64 (w64 (i_17 + 1))), (.bool q_18), (.slice a_12 xs_11.length cap_1270), (.int .i64 i_19)]⟩, ⟨some B_b, 34, [(.int .i16 s0.ff.fSteps), (.slice D_a s0.ff.fHammers.length D_c)]⟩]) [0, 1] (by kernel_rfl) (by kernel_rfl)) (hm.exApart (N := [⟨some A_b, 185, [(.pointer (some ⟨B_b, 0, none⟩)), (.slice E_a s0.ft.length E_c), (.int .i16 i_13), (.int .i16 i_14), (.int .i16 i_15), (.slice J_a s0.fall.length J_c), (.slice K_a s0.fbounds.length K_c), (.int .i64 i_16), (.int .i64 (w64 (i_17 + 1))), (.bool q_18), (.slice a_12 xs_11.length cap_1270), (.int .i64 i_19)]⟩, ⟨some B_b, 34, [(.int .i16 s0.ff.fSteps), (.slice D_a s0.ff.fHammers.length D_c)]⟩]) D_h D_ha [0, 1] (by kernel_rfl)) (hm.exApart (N := [⟨some A_b, 185, [(.pointer (some ⟨B_b, 0, none⟩)), (.slice E_a s0.ft.length E_c), (.int .i16 i_13), (.int .i16 i_14), (.int .i16 i_15), (.slice J_a s0.fall.length J_c), (.slice K_a s0.fbounds.length K_c), (.int .i64 i_16), (.int .i64 (w64 (i_17 + 1))), (.bool q_18), (.slice a_12 xs_11.length cap_1270), (.int .i64 i_19)]⟩, ⟨some B_b, 34, [(.int .i16 s0.ff.fSteps), (.slice D_a s0.ff.fHammers.length D_c)]⟩]) E_h E_ha [0, 1] (by kernel_rfl)) (hm.exApart (N := [⟨some A_b, 185, [(.pointer (some ⟨B_b, 0, none⟩)), (.slice E_a s0.ft.length E_c), (.int .i16 i_13), (.int .i16 i_14), (.int .i16 i_15), (.slice J_a s0.fall.length J_c), (.slice K_a s0.fbounds.length K_c), (.int .i64 i_16), (.int .i64 (w64 (i_17 + 1))), (.bool q_18), (.slice a_12 xs_11.length cap_1270), (.int .i64 i_19)]⟩, ⟨some B_b, 34, [(.int .i16 s0.ff.fSteps), (.slice D_a s0.ff.fHammers.length D_c)]⟩]) J_h J_ha [0, 1] (by kernel_rfl)) (hm.innPass (N := [⟨some A_b, 185, [(.pointer (some ⟨B_b, 0, none⟩)), (.slice E_a s0.ft.length E_c), (.int .i16 i_13), (.int .i16 i_14), (.int .i16 i_15), (.slice J_a s0.fall.length J_c), (.slice K_a s0.fbounds.length K_c), (.int .i64 i_16), (.int .i64 (w64 (i_17 + 1))), (.bool q_18), (.slice a_12 xs_11.length cap_1270), (.int .i64 i_19)]⟩, ⟨some B_b, 34, [(.int .i16 s0.ff.fSteps), (.slice D_a s0.ff.fHammers.length D_c)]⟩]) J_i [0, 1] (by kernel_rfl)) (hm.exApart (N := [⟨some A_b, 185, [(.pointer (some ⟨B_b, 0, none⟩)), (.slice E_a s0.ft.length E_c), (.int .i16 i_13), (.int .i16 i_14), (.int .i16 i_15), (.slice J_a s0.fall.length J_c), (.slice K_a s0.fbounds.length K_c), (.int .i64 i_16), (.int .i64 (w64 (i_17 + 1))), (.bool q_18), (.slice a_12 xs_11.length cap_1270), (.int .i64 i_19)]⟩, ⟨some B_b, 34, [(.int .i16 s0.ff.fSteps), (.slice D_a s0.ff.fHammers.length D_c)]⟩]) K_h K_ha [0, 1] (by kernel_rfl)) (hm.ownApart (S := GChoice) (N := [⟨some A_b, 185, [(.pointer (some ⟨B_b, 0, none⟩)), (.slice E_a s0.ft.length E_c), (.int .i16 i_13), (.int .i16 i_14), (.int .i16 i_15), (.slice J_a s0.fall.length J_c), (.slice K_a s0.fbounds.length K_c), (.int .i64 i_16), (.int .i64 (w64 (i_17 + 1))), (.bool q_18), (.slice a_12 xs_11.length cap_1270), (.int .i64 i_19)]⟩, ⟨some B_b, 34, [(.int .i16 s0.ff.fSteps), (.slice D_a s0.ff.fHammers.length D_c)]⟩]) (hh := 6) (o := o_1477) (T := 144) (cs := row encGChoice ((([] : List GChoice) ++ list2) ++ ([x_25] : List GChoice)) sp_1479) (xs := ((([] : List GChoice) ++ list2) ++ ([x_25] : List GChoice))) (by kernel_rfl) (fun e => (ho_1481 e).1) [0, 1] (by kernel_rfl) (by kernel_rfl)) ht_1482) ?_)
          rintro w v w' hm ⟨o_1483, a_41, cap_1484, sp_1485, _, rfl, hl_1486, rfl, hm'⟩
          obtain ⟨o_1487, sp_1488, hl_1489, hM_1490⟩ := Mem.ls3 (T := 144) (enc := encGChoice) (o1 := o_1269) (sp1 := sp_1271) (xs1 := xs_11) (o := o_1483) (sp := sp_1485) (xs := t_40.2.fbest) (F := [(O_a, O_c, s0.fbest), (R_a, R_c, list2)]) (o2 := o_1477) (sp2 := sp_1479) (xs2 := ((([] : List GChoice) ++ list2) ++ ([x_25] : List GChoice))) (hm.appW (ps := [(0, ⟨some A_b, 185, [(.pointer (some ⟨B_b, 0, none⟩)), (.slice E_a s0.ft.length E_c), (.int .i16 t_40.2.fc.fAway), (.int .i16 t_40.2.fc.fOctave), (.int .i16 t_40.2.fc.fStep), (.slice J_a s0.fall.length J_c), (.slice K_a s0.fbounds.length K_c), (.int .i64 t_40.2.fbudget), (.int .i64 t_40.2.flooks), (.bool t_40.2.ffound), (.slice a_41 t_40.2.fbest.length cap_1484), (.int .i64 t_40.2.fleast)]⟩), (1, ⟨some B_b, 34, [(.int .i16 s0.ff.fSteps), (.slice D_a s0.ff.fHammers.length D_c)]⟩)]) (N := [⟨o_1483, 144, row encGChoice t_40.2.fbest sp_1485⟩]) hm' (by kernel_rfl) (by kernel_rfl)) 2 6 8 (by kernel_rfl) (by kernel_rfl) (by kernel_rfl) (by kernel_rfl) hl_1273 rfl hs_1480 ho_1481 rfl rfl hl_1486
          refine ⟨_, Mem.pick hM_1490 (N := [⟨some A_b, 185, [(.pointer (some ⟨B_b, 0, none⟩)), (.slice E_a s0.ft.length E_c), (.int .i16 t_40.2.fc.fAway), (.int .i16 t_40.2.fc.fOctave), (.int .i16 t_40.2.fc.fStep), (.slice J_a s0.fall.length J_c), (.slice K_a s0.fbounds.length K_c), (.int .i64 t_40.2.fbudget), (.int .i64 t_40.2.flooks), (.bool t_40.2.ffound), (.slice a_41 t_40.2.fbest.length cap_1484), (.int .i64 t_40.2.fleast)]⟩, ⟨some B_b, 34, [(.int .i16 s0.ff.fSteps), (.slice D_a s0.ff.fHammers.length D_c)]⟩, ⟨o_1487, 144, row encGChoice t_40.2.fbest sp_1488⟩, ⟨(some b_1), 88, row encU32 d1.1 []⟩, ⟨some b_1282, 144, [(.bool x_25.fAway), (.int .i8 x_25.fLate), (.int .i8 x_25.fOctave), (.int .i8 x_25.fTrack)]⟩, ⟨(some b_1284), 88, row encU32 a_27.1 []⟩, ⟨none, 0, []⟩, ⟨(some b_1469), 144, row encGChoice ([x_25] : List GChoice) []⟩]) [0, 1, 2, 3, 4, 5, 6, 7] (by kernel_rfl) (by kernel_rfl), kD [1, 3, 4, 5] ?_⟩
          clear hm hm' hM_1490
          exact qd [⟨10, 0, 0⟩] 0 [1, 3, 4, 5] (qz (qm ⟨t_40.2.fbest, t_40.2.fc.fAway, t_40.2.fc.fOctave, t_40.2.fc.fStep, t_40.2.fbudget, t_40.2.flooks, t_40.2.ffound, t_40.2.fleast, (!t_40.1), o_1487, a_41, cap_1484, sp_1488, t_40.2.fbest.length⟩ ⟨h, rfl, hl_1489⟩ [0, 1, 2, 3, 4, 5]))
        ·refine qa 0 (fun b_1491 => kD [1, 3, 4, 5] (tD 2 (qa 0 (fun b_1492 => kD [1, 3, 4, 5] ?_))))
         obtain ⟨hg_1493, h⟩ := gd h
         refine tD 4 (p_apn 0 7 (some b_1492) 144 0 list2.length 0 4 4 R_a encGChoice ([] : List GChoice) list2 [] (.agg #[(.bool false), (.int .i8 0), (.int .i8 0), (.int .i8 0)]) rfl rfl (by kernel_rfl) (by kernel_rfl) (by kernel_rfl) encGChoice_len encGChoice_cell (fun _ => ⟨Nat.le_refl _, by simp⟩) (fun e => nomatch e) (fun w hm => (hm.exRowW R_h R_ha)) hg_1493 (by kernel_rfl) (by kernel_rfl) (fun o_1494 cap_1495 sp_1496 hs_1497 ho_1498 => kD [1, 3, 4, 5] ?_))
         obtain ⟨hg_1499, h⟩ := gd h
         refine tD 7 (p_apn 0 7 o_1494 144 ((([] : List GChoice) ++ list2).length) 1 cap_1495 4 4 (some ⟨b_1491, 0, none⟩) encGChoice (([] : List GChoice) ++ list2) ([x_25] : List GChoice) sp_1496 (.agg #[(.bool false), (.int .i8 0), (.int .i8 0), (.int .i8 0)]) rfl rfl (by kernel_rfl) (by kernel_rfl) (by kernel_rfl) encGChoice_len encGChoice_cell hs_1497 ho_1498 (fun w hm => (hm.ow 6 (some b_1491) 144 ([x_25] : List GChoice) [] (fun e => nomatch e) encGChoice_len)) hg_1499 (by kernel_rfl) (by kernel_rfl) (fun o_1500 cap_1501 sp_1502 hs_1503 ho_1504 => kD [1, 3, 4, 5] ?_))
         obtain ⟨t_40, ht_1505, h⟩ := bd h
         refine tD 9 (pc 0 (fun w hm => hself (⟨(⟨s0.ff.fSteps, s0.ff.fHammers⟩ : GFrame), s0.ft, (⟨i_13, i_14, i_15⟩ : GCosts), s0.fall, s0.fbounds, i_16, (w64 (i_17 + 1)), q_18, xs_11, i_19⟩ : Gl07Search) a_27 ((([] : List GChoice) ++ list2) ++ ([x_25] : List GChoice)) (w64 (cost3 + t_26)) w _ D_c (hm.exRowW D_h D_ha) rfl E_c (hm.exRowW E_h E_ha) rfl J_c (hm.exRowW J_h J_ha) rfl K_c (hm.exRowW K_h K_ha) rfl cap_1270 rfl cap_1501 (hm.ow 7 o_1500 144 ((([] : List GChoice) ++ list2) ++ ([x_25] : List GChoice)) sp_1502 (fun e => (ho_1504 e).1) encGChoice_len) rfl A_b B_b (hm.pass (N := [⟨some A_b, 185, [(.pointer (some ⟨B_b, 0, none⟩)), (.slice E_a s0.ft.length E_c), (.int .i16 i_13), (.int .i16 i_14), (.int .i16 i_15), (.slice J_a s0.fall.length J_c), (.slice K_a s0.fbounds.length K_c), (.int .i64 i_16), (.int .i64 (w64 (i_17 + 1))), (.bool q_18), (.slice a_12 xs_11.length cap_1270), (.int .i64 i_19)]⟩, ⟨some B_b, 34, [(.int .i16 s0.ff.fSteps), (.slice D_a s0.ff.fHammers.length D_c)]⟩]) [0, 1] (by kernel_rfl) (by kernel_rfl)) (hm.exApart (N := [⟨some A_b, 185, [(.pointer (some ⟨B_b, 0, none⟩)), (.slice E_a s0.ft.length E_c), (.int .i16 i_13), (.int .i16 i_14), (.int .i16 i_15), (.slice J_a s0.fall.length J_c), (.slice K_a s0.fbounds.length K_c), (.int .i64 i_16), (.int .i64 (w64 (i_17 + 1))), (.bool q_18), (.slice a_12 xs_11.length cap_1270), (.int .i64 i_19)]⟩, ⟨some B_b, 34, [(.int .i16 s0.ff.fSteps), (.slice D_a s0.ff.fHammers.length D_c)]⟩]) D_h D_ha [0, 1] (by kernel_rfl)) (hm.exApart (N := [⟨some A_b, 185, [(.pointer (some ⟨B_b, 0, none⟩)), (.slice E_a s0.ft.length E_c), (.int .i16 i_13), (.int .i16 i_14), (.int .i16 i_15), (.slice J_a s0.fall.length J_c), (.slice K_a s0.fbounds.length K_c), (.int .i64 i_16), (.int .i64 (w64 (i_17 + 1))), (.bool q_18), (.slice a_12 xs_11.length cap_1270), (.int .i64 i_19)]⟩, ⟨some B_b, 34, [(.int .i16 s0.ff.fSteps), (.slice D_a s0.ff.fHammers.length D_c)]⟩]) E_h E_ha [0, 1] (by kernel_rfl)) (hm.exApart (N := [⟨some A_b, 185, [(.pointer (some ⟨B_b, 0, none⟩)), (.slice E_a s0.ft.length E_c), (.int .i16 i_13), (.int .i16 i_14), (.int .i16 i_15), (.slice J_a s0.fall.length J_c), (.slice K_a s0.fbounds.length K_c), (.int .i64 i_16), (.int .i64 (w64 (i_17 + 1))), (.bool q_18), (.slice a_12 xs_11.length cap_1270), (.int .i64 i_19)]⟩, ⟨some B_b, 34, [(.int .i16 s0.ff.fSteps), (.slice D_a s0.ff.fHammers.length D_c)]⟩]) J_h J_ha [0, 1] (by kernel_rfl)) (hm.innPass (N := [⟨some A_b, 185, [(.pointer (some ⟨B_b, 0, none⟩)), (.slice E_a s0.ft.length E_c), (.int .i16 i_13), (.int .i16 i_14), (.int .i16 i_15), (.slice J_a s0.fall.length J_c), (.slice K_a s0.fbounds.length K_c), (.int .i64 i_16), (.int .i64 (w64 (i_17 + 1))), (.bool q_18), (.slice a_12 xs_11.length cap_1270), (.int .i64 i_19)]⟩, ⟨some B_b, 34, [(.int .i16 s0.ff.fSteps), (.slice D_a s0.ff.fHammers.length D_c)]⟩]) J_i [0, 1] (by kernel_rfl)) (hm.exApart (N := [⟨some A_b, 185, [(.pointer (some ⟨B_b, 0, none⟩)), (.slice E_a s0.ft.length E_c), (.int .i16 i_13), (.int .i16 i_14), (.int .i16 i_15), (.slice J_a s0.fall.length J_c), (.slice K_a s0.fbounds.length K_c), (.int .i64 i_16), (.int .i64 (w64 (i_17 + 1))), (.bool q_18), (.slice a_12 xs_11.length cap_1270), (.int .i64 i_19)]⟩, ⟨some B_b, 34, [(.int .i16 s0.ff.fSteps), (.slice D_a s0.ff.fHammers.length D_c)]⟩]) K_h K_ha [0, 1] (by kernel_rfl)) (hm.ownApart (S := GChoice) (N := [⟨some A_b, 185, [(.pointer (some ⟨B_b, 0, none⟩)), (.slice E_a s0.ft.length E_c), (.int .i16 i_13), (.int .i16 i_14), (.int .i16 i_15), (.slice J_a s0.fall.length J_c), (.slice K_a s0.fbounds.length K_c), (.int .i64 i_16), (.int .i64 (w64 (i_17 + 1))), (.bool q_18), (.slice a_12 xs_11.length cap_1270), (.int .i64 i_19)]⟩, ⟨some B_b, 34, [(.int .i16 s0.ff.fSteps), (.slice D_a s0.ff.fHammers.length D_c)]⟩]) (hh := 7) (o := o_1500) (T := 144) (cs := row encGChoice ((([] : List GChoice) ++ list2) ++ ([x_25] : List GChoice)) sp_1502) (xs := ((([] : List GChoice) ++ list2) ++ ([x_25] : List GChoice))) (by kernel_rfl) (fun e => (ho_1504 e).1) [0, 1] (by kernel_rfl) (by kernel_rfl)) ht_1505) ?_)
         rintro w v w' hm ⟨o_1506, a_41, cap_1507, sp_1508, _, rfl, hl_1509, rfl, hm'⟩
         obtain ⟨o_1510, sp_1511, hl_1512, hM_1513⟩ := Mem.ls3 (T := 144) (enc := encGChoice) (o1 := o_1269) (sp1 := sp_1271) (xs1 := xs_11) (o := o_1506) (sp := sp_1508) (xs := t_40.2.fbest) (F := [(O_a, O_c, s0.fbest), (R_a, R_c, list2)]) (o2 := o_1500) (sp2 := sp_1502) (xs2 := ((([] : List GChoice) ++ list2) ++ ([x_25] : List GChoice))) (hm.appW (ps := [(0, ⟨some A_b, 185, [(.pointer (some ⟨B_b, 0, none⟩)), (.slice E_a s0.ft.length E_c), (.int .i16 t_40.2.fc.fAway), (.int .i16 t_40.2.fc.fOctave), (.int .i16 t_40.2.fc.fStep), (.slice J_a s0.fall.length J_c), (.slice K_a s0.fbounds.length K_c), (.int .i64 t_40.2.fbudget), (.int .i64 t_40.2.flooks), (.bool t_40.2.ffound), (.slice a_41 t_40.2.fbest.length cap_1507), (.int .i64 t_40.2.fleast)]⟩), (1, ⟨some B_b, 34, [(.int .i16 s0.ff.fSteps), (.slice D_a s0.ff.fHammers.length D_c)]⟩)]) (N := [⟨o_1506, 144, row encGChoice t_40.2.fbest sp_1508⟩]) hm' (by kernel_rfl) (by kernel_rfl)) 2 7 8 (by kernel_rfl) (by kernel_rfl) (by kernel_rfl) (by kernel_rfl) hl_1273 rfl hs_1503 ho_1504 rfl rfl hl_1509
         refine ⟨_, Mem.pick hM_1513 (N := [⟨some A_b, 185, [(.pointer (some ⟨B_b, 0, none⟩)), (.slice E_a s0.ft.length E_c), (.int .i16 t_40.2.fc.fAway), (.int .i16 t_40.2.fc.fOctave), (.int .i16 t_40.2.fc.fStep), (.slice J_a s0.fall.length J_c), (.slice K_a s0.fbounds.length K_c), (.int .i64 t_40.2.fbudget), (.int .i64 t_40.2.flooks), (.bool t_40.2.ffound), (.slice a_41 t_40.2.fbest.length cap_1507), (.int .i64 t_40.2.fleast)]⟩, ⟨some B_b, 34, [(.int .i16 s0.ff.fSteps), (.slice D_a s0.ff.fHammers.length D_c)]⟩, ⟨o_1510, 144, row encGChoice t_40.2.fbest sp_1511⟩, ⟨(some b_1), 88, row encU32 d1.1 []⟩, ⟨some b_1282, 144, [(.bool x_25.fAway), (.int .i8 x_25.fLate), (.int .i8 x_25.fOctave), (.int .i8 x_25.fTrack)]⟩, ⟨(some b_1284), 88, row encU32 a_27.1 []⟩, ⟨(some b_1491), 144, row encGChoice ([x_25] : List GChoice) []⟩, ⟨none, 0, []⟩]) [0, 1, 2, 3, 4, 5, 6, 7] (by kernel_rfl) (by kernel_rfl), kD [1, 3, 4, 5] ?_⟩
         clear hm hm' hM_1513
         exact qd [⟨10, 0, 0⟩] 0 [1, 3, 4, 5] (qz (qm ⟨t_40.2.fbest, t_40.2.fc.fAway, t_40.2.fc.fOctave, t_40.2.fc.fStep, t_40.2.fbudget, t_40.2.flooks, t_40.2.ffound, t_40.2.fleast, (!t_40.1), o_1510, a_41, cap_1507, sp_1511, t_40.2.fbest.length⟩ ⟨h, rfl, hl_1512⟩ [0, 1, 2, 3, 4, 5]))
       ·rintro ⟨xs_29, i_31, i_32, i_33, i_34, i_35, q_36, i_37, q_38, o_1402, a_30, cap_1403, sp_1404, n_1405⟩ ⟨h, rfl, hl_1406⟩
        replace h : spec_l07Go.k_39 s0 i_20 xs_29 i_31 i_32 i_33 i_34 i_35 q_36 i_37 q_38 = some y_1275 := h
        rw [spec_l07Go.k_39] at h
        refine jx_then (qi h (fun h => ?_) (fun h => ?_))
        ·refine jc_seq (jc_region (qh [0] (qe (jx_then (jc_ret (jx_inr (jx_thenr (jx_leaver (.inl (false, (⟨(⟨s0.ff.fSteps, s0.ff.fHammers⟩ : GFrame), s0.ft, (⟨i_31, i_32, i_33⟩ : GCosts), s0.fall, s0.fbounds, i_34, i_35, q_36, xs_29, i_37⟩ : Gl07Search))) (Option.some.inj h).symm (fun e_1408 => ?_)))))))))
         subst e_1408
         refine jx_inr (jx_thenr (jx_thenr ?_))
         obtain rfl := Option.some.inj hr_1274
         exact qr [] (fun w hm => ⟨o_1402, a_30, cap_1403, sp_1404, xs_29.length, rfl, hl_1406, rfl, hm.pk [0, 1, 2]⟩)
        ·exact jc_skip (jx_inn (jx_then (jc_region (qh [0,0,0] (qe (qb (xs_29, i_31, i_32, i_33, i_34, i_35, q_36, i_37, (w64 (i_20 + 1))) ⟨o_1402, a_30, cap_1403, sp_1404, xs_29.length⟩ h ⟨rfl, hl_1406⟩ [0, 1, 2, 3]))))))
    ·refine jc_exit (jx_thenx (jx_leave (.inr (xs_11, i_13, i_14, i_15, i_16, i_17, q_18, i_19)) (Option.some.inj h).symm (fun e_1523 => ?_)))
     subst e_1523
     exact jx_ine (qm ⟨xs_11, i_13, i_14, i_15, i_16, i_17, q_18, i_19, o_1269, a_12, cap_1270, sp_1271, xs_11.length⟩ ⟨hr_1274, rfl, hl_1273⟩ [0, 1, 2, 3])
   ·rintro ⟨xs_1, i_3, i_4, i_5, i_6, i_7, q_8, i_9, o_769, a_2, cap_770, sp_771, n_772⟩ ⟨h, rfl, hl_773⟩
    replace h : spec_l07Go.k_10 s0 xs_1 i_3 i_4 i_5 i_6 i_7 q_8 i_9 = some r := h
    rw [spec_l07Go.k_10] at h
    refine jx_then (jc_seq (jc_region (qh [0] (qe (jx_then (jc_ret ?_))))))
    obtain rfl := Option.some.inj h
    exact qr [] (fun w hm => ⟨o_769, a_2, cap_770, sp_771, xs_1.length, rfl, hl_773, rfl, hm.pk [0, 1, 2]⟩)
theorem spec_l07Go.rec_calls (fu : Nat) : ∀ (s0 : Gl07Search) (d1 : Arr 96 Int) (list2 : List GChoice) (cost3 : Int) (w : World) (r : Bool × Gl07Search) {D_a : Option Addr} {D_an : Nat} (D_c : Nat) (D_h : Rw w D_a 2 encGHammer s0.ff.fHammers) (D_hn : s0.ff.fHammers.length = D_an) {E_a : Option Addr} {E_an : Nat} (E_c : Nat) (E_h : Rw w E_a 2 encGNote s0.ft) (E_hn : s0.ft.length = E_an) {J_a : Option Addr} {J_an : Nat} (J_c : Nat) {J_hs : List Hd} (J_h : Rw w J_a 1 encHd J_hs) (J_hn : s0.fall.length = J_an) {K_a : Option Addr} {K_an : Nat} (K_c : Nat) (K_h : Rw w K_a 1 encI64 s0.fbounds) (K_hn : s0.fbounds.length = K_an) {O_a : Option Addr} {O_an : Nat} (O_c : Nat) (O_hn : s0.fbest.length = O_an) {R_a : Option Addr} {R_an : Nat} (R_c : Nat) (R_h : Rw w R_a 4 encGChoice list2) (R_hn : list2.length = R_an) (A_b : Nat) (B_b : Nat) (hm0 : Mem w (bs [some A_b, some B_b]) [⟨some A_b, 185, [(.pointer (some ⟨B_b, 0, none⟩)), (.slice E_a E_an E_c), (.int .i16 s0.fc.fAway), (.int .i16 s0.fc.fOctave), (.int .i16 s0.fc.fStep), (.slice J_a J_an J_c), (.slice K_a K_an K_c), (.int .i64 s0.fbudget), (.int .i64 s0.flooks), (.bool s0.ffound), (.slice O_a O_an O_c), (.int .i64 s0.fleast)]⟩, ⟨some B_b, 34, [(.int .i16 s0.ff.fSteps), (.slice D_a D_an D_c)]⟩] w) (D_ha : s0.ff.fHammers ≠ [] → aB D_a ∉ bs [some A_b, some B_b]) (E_ha : s0.ft ≠ [] → aB E_a ∉ bs [some A_b, some B_b]) (J_ha : J_hs ≠ [] → aB J_a ∉ bs [some A_b, some B_b]) (J_i : Inn w (bs [some A_b, some B_b]) 4 encGChoice J_hs s0.fall) (K_ha : s0.fbounds ≠ [] → aB K_a ∉ bs [some A_b, some B_b]) (R_ha : list2 ≠ [] → aB R_a ∉ bs [some A_b, some B_b]) (h : spec_l07Go.rec_ fu s0 d1 list2 cost3 = some r),
    Calls Try.prog 130 #[(.pointer (some ⟨A_b, 0, none⟩)), (.agg (row encU32 d1.1 []).toArray), (.slice R_a R_an R_c), (.int .i64 cost3)] w fun e w' => ∃ v, e = .returned v ∧ (∃ (lo : Option Nat) (la : Option Addr) (lc : Nat) (lsp : List Value) (ln : Nat), r.2.fbest.length = ln ∧ LsB lo la lc lsp ln r.2.fbest 4 [(O_a, O_c, s0.fbest), (R_a, R_c, list2)] ∧ v = (.bool r.1) ∧ Mem w (bs [some A_b, some B_b]) [⟨some A_b, 185, [(.pointer (some ⟨B_b, 0, none⟩)), (.slice E_a E_an E_c), (.int .i16 r.2.fc.fAway), (.int .i16 r.2.fc.fOctave), (.int .i16 r.2.fc.fStep), (.slice J_a J_an J_c), (.slice K_a K_an K_c), (.int .i64 r.2.fbudget), (.int .i64 r.2.flooks), (.bool r.2.ffound), (.slice la ln lc), (.int .i64 r.2.fleast)]⟩, ⟨some B_b, 34, [(.int .i16 s0.ff.fSteps), (.slice D_a D_an D_c)]⟩, ⟨lo, 144, row encGChoice r.2.fbest lsp⟩] w') := by
  induction fu with
  | zero => intros; rename_i h; cases h
  | succ fu ih => exact @spec_l07Go.step_calls _ (spec_l07Go.rec_ fu) @ih
theorem spec_l07Go.calls (s0 : Gl07Search) (d1 : Arr 96 Int) (list2 : List GChoice) (cost3 : Int) (w : World) (r : Bool × Gl07Search) {D_a : Option Addr} {D_an : Nat} (D_c : Nat) (D_h : Rw w D_a 2 encGHammer s0.ff.fHammers) (D_hn : s0.ff.fHammers.length = D_an) {E_a : Option Addr} {E_an : Nat} (E_c : Nat) (E_h : Rw w E_a 2 encGNote s0.ft) (E_hn : s0.ft.length = E_an) {J_a : Option Addr} {J_an : Nat} (J_c : Nat) {J_hs : List Hd} (J_h : Rw w J_a 1 encHd J_hs) (J_hn : s0.fall.length = J_an) {K_a : Option Addr} {K_an : Nat} (K_c : Nat) (K_h : Rw w K_a 1 encI64 s0.fbounds) (K_hn : s0.fbounds.length = K_an) {O_a : Option Addr} {O_an : Nat} (O_c : Nat) (O_hn : s0.fbest.length = O_an) {R_a : Option Addr} {R_an : Nat} (R_c : Nat) (R_h : Rw w R_a 4 encGChoice list2) (R_hn : list2.length = R_an) (A_b : Nat) (B_b : Nat) (hm0 : Mem w (bs [some A_b, some B_b]) [⟨some A_b, 185, [(.pointer (some ⟨B_b, 0, none⟩)), (.slice E_a E_an E_c), (.int .i16 s0.fc.fAway), (.int .i16 s0.fc.fOctave), (.int .i16 s0.fc.fStep), (.slice J_a J_an J_c), (.slice K_a K_an K_c), (.int .i64 s0.fbudget), (.int .i64 s0.flooks), (.bool s0.ffound), (.slice O_a O_an O_c), (.int .i64 s0.fleast)]⟩, ⟨some B_b, 34, [(.int .i16 s0.ff.fSteps), (.slice D_a D_an D_c)]⟩] w) (D_ha : s0.ff.fHammers ≠ [] → aB D_a ∉ bs [some A_b, some B_b]) (E_ha : s0.ft ≠ [] → aB E_a ∉ bs [some A_b, some B_b]) (J_ha : J_hs ≠ [] → aB J_a ∉ bs [some A_b, some B_b]) (J_i : Inn w (bs [some A_b, some B_b]) 4 encGChoice J_hs s0.fall) (K_ha : s0.fbounds ≠ [] → aB K_a ∉ bs [some A_b, some B_b]) (R_ha : list2 ≠ [] → aB R_a ∉ bs [some A_b, some B_b]) (h : spec_l07Go s0 d1 list2 cost3 = some r) :
    Calls Try.prog 130 #[(.pointer (some ⟨A_b, 0, none⟩)), (.agg (row encU32 d1.1 []).toArray), (.slice R_a R_an R_c), (.int .i64 cost3)] w fun e w' => ∃ v, e = .returned v ∧ (∃ (lo : Option Nat) (la : Option Addr) (lc : Nat) (lsp : List Value) (ln : Nat), r.2.fbest.length = ln ∧ LsB lo la lc lsp ln r.2.fbest 4 [(O_a, O_c, s0.fbest), (R_a, R_c, list2)] ∧ v = (.bool r.1) ∧ Mem w (bs [some A_b, some B_b]) [⟨some A_b, 185, [(.pointer (some ⟨B_b, 0, none⟩)), (.slice E_a E_an E_c), (.int .i16 r.2.fc.fAway), (.int .i16 r.2.fc.fOctave), (.int .i16 r.2.fc.fStep), (.slice J_a J_an J_c), (.slice K_a K_an K_c), (.int .i64 r.2.fbudget), (.int .i64 r.2.flooks), (.bool r.2.ffound), (.slice la ln lc), (.int .i64 r.2.fleast)]⟩, ⟨some B_b, 34, [(.int .i16 s0.ff.fSteps), (.slice D_a D_an D_c)]⟩, ⟨lo, 144, row encGChoice r.2.fbest lsp⟩] w') :=
  spec_l07Go.rec_calls 130 s0 d1 list2 cost3 w r D_c D_h D_hn E_c E_h E_hn J_c J_h J_hn K_c K_h K_hn O_c O_hn R_c R_h R_hn A_b B_b hm0 D_ha E_ha J_ha J_i K_ha R_ha h
/-! ### spec.l07Arrange -/
def spec_l07Arrange.k_5 (f0 : GFrame) (t1 : List GNote) (c2 : GCosts) (budget3 : Int) (xt_684 : List (List GChoice)) (xs_4 : List Int) : Option ((List GChoice) × Int × Int) := (spec_l07Go (⟨f0, t1, c2, xt_684, xs_4, budget3, 0, false, ([] : List GChoice), 0⟩ : Gl07Search) (Arr.rep 96 0) ([] : List GChoice) 0).bind fun t_6 => (if (!t_6.1) = true then some (([] : List GChoice), 0, 7) else some (t_6.2.fbest, t_6.2.fleast, 0))
def spec_l07Arrange.l_10 (f0 : GFrame) (t1 : List GNote) (c2 : GCosts) : ((List Int) × Int) → Option (((List Int) × Int) ⊕ ((List Int)))
  | (xs_8, i_9) => (if (decide (i_9 ≤ (t1.length : Int))) = true then (spec_l07Bound f0 t1 c2 i_9).bind fun t_12 => (if xs_8.length + ([t_12] : List Int).length ≤ 4294967296 then some (.inl ((xs_8 ++ ([t_12] : List Int)), (w64 (i_9 + 1)))) else none) else some (.inr xs_8))
def spec_l07Arrange.k_3 (f0 : GFrame) (t1 : List GNote) (c2 : GCosts) (budget3 : Int) (xt_684 : List (List GChoice)) : Option ((List GChoice) × Int × Int) := (loop (spec_l07Arrange.l_10 f0 t1 c2) ([], 0)).bind fun t_11 => spec_l07Arrange.k_5 f0 t1 c2 budget3 xt_684 t_11
def spec_l07Arrange.l_14 (f0 : GFrame) (t1 : List GNote) (c2 : GCosts) : ((List (List GChoice)) × Int) → Option (((List (List GChoice)) × Int) ⊕ ((List (List GChoice))))
  | (xt_1350, i_13) => (if (decide (i_13 < (t1.length : Int))) = true then (ix t1 i_13).bind fun x_16 => (spec_l07Ordered f0 x_16 c2).bind fun t_17 => (if xt_1350.length + 1 ≤ 4294967296 then some (.inl ((xt_1350 ++ [t_17]), (w64 (i_13 + 1)))) else none) else some (.inr xt_1350))
def spec_l07Arrange (f0 : GFrame) (t1 : List GNote) (c2 : GCosts) (budget3 : Int) : Option ((List GChoice) × Int × Int) := (spec_l07Given f0 t1 c2).bind fun t_1 => (if (t_1 != 0) = true then some (([] : List GChoice), 0, t_1) else (spec_l00In budget3 0 20000).bind fun t_2 => (if (!t_2) = true then some (([] : List GChoice), 0, 2) else (loop (spec_l07Arrange.l_14 f0 t1 c2) (([] : List (List GChoice)), 0)).bind fun t_15 => spec_l07Arrange.k_3 f0 t1 c2 budget3 t_15))
set_option maxHeartbeats 8000000 in
theorem spec_l07Arrange.calls (f0 : GFrame) (t1 : List GNote) (c2 : GCosts) (budget3 : Int) (w : World) (r : (List GChoice) × Int × Int) {C_a : Option Addr} {C_an : Nat} (C_c : Nat) (C_h : Rw w C_a 2 encGHammer f0.fHammers) (C_hn : f0.fHammers.length = C_an) {D_a : Option Addr} {D_an : Nat} (D_c : Nat) (D_h : Rw w D_a 2 encGNote t1) (D_hn : t1.length = D_an) (A_b : Nat) (hm0 : Mem w (bs [some A_b]) [⟨some A_b, 34, [(.int .i16 f0.fSteps), (.slice C_a C_an C_c)]⟩] w) (C_ha : f0.fHammers ≠ [] → aB C_a ∉ bs [some A_b]) (D_ha : t1 ≠ [] → aB D_a ∉ bs [some A_b]) (h : spec_l07Arrange f0 t1 c2 budget3 = some r) :
    Calls Try.prog 90 #[(.pointer (some ⟨A_b, 0, none⟩)), (.slice D_a D_an D_c), (.agg #[(.int .i16 c2.fAway), (.int .i16 c2.fOctave), (.int .i16 c2.fStep)]), (.int .i64 budget3)] w fun e w' => ∃ v, e = .returned v ∧ (∃ (o0 : Option Nat) (c0 : Nat) (s0 : List Value) (n0 : Nat), r.1.length = n0 ∧ (o0 ≠ none → n0 ≤ c0 ∧ s0.length = (c0 - n0) * 4) ∧ (o0 = none → r.1 = [] ∧ c0 = 0) ∧ v = .tuple #[.slice (o0.map fun b => ⟨b, 0, none⟩) n0 c0, (.int .i64 r.2.1), (.int .i64 r.2.2)] ∧ Mem w (bs [some A_b]) [⟨some A_b, 34, [(.int .i16 f0.fSteps), (.slice C_a C_an C_c)]⟩, ⟨o0, 144, row encGChoice r.1 s0⟩] w') := by
  subst C_hn D_hn
  rw [spec_l07Arrange] at h
  refine enter (args := [(.pointer (some ⟨A_b, 0, none⟩)), (.slice D_a t1.length D_c), (.agg #[(.int .i16 c2.fAway), (.int .i16 c2.fOctave), (.int .i16 c2.fStep)]), (.int .i64 budget3)]) Try.func90 rfl Try.ntmps90 (by kernel_rfl) (L := [⟨some A_b, 34, [(.int .i16 f0.fSteps), (.slice C_a f0.fHammers.length C_c)]⟩]) (W := bs [some A_b]) hm0 ?_
  refine jc_seq (jc_region (tO (qa 0 (fun b_1 => jkO (qh [0,0,0] (qe (jx_then (jc_seq (jc_seq (jc_region (qh [0,0,1] ?_)))))))))))
  obtain ⟨t_1, ht_5, h⟩ := bd h
  refine tO (pc 0 (fun w hm => spec_l07Given.calls f0 t1 c2 w _ C_c (hm.exRowW C_h C_ha) rfl D_c (hm.exRowW D_h D_ha) rfl A_b (hm.pass (N := [⟨some A_b, 34, [(.int .i16 f0.fSteps), (.slice C_a f0.fHammers.length C_c)]⟩]) [0] (by kernel_rfl) (by kernel_rfl)) (hm.exApart (N := [⟨some A_b, 34, [(.int .i16 f0.fSteps), (.slice C_a f0.fHammers.length C_c)]⟩]) C_h C_ha [0] (by kernel_rfl)) (hm.exApart (N := [⟨some A_b, 34, [(.int .i16 f0.fSteps), (.slice C_a f0.fHammers.length C_c)]⟩]) D_h D_ha [0] (by kernel_rfl)) ht_5) ?_)
  rintro w v w' hm ⟨rfl, hm'⟩
  refine ⟨_, hm.appW (ps := [(0, ⟨some A_b, 34, [(.int .i16 f0.fSteps), (.slice C_a f0.fHammers.length C_c)]⟩)]) (N := []) hm' (by kernel_rfl) (by kernel_rfl), jkO ?_⟩
  clear hm hm'
  refine qh [0] (qe (jx_then (jc_seq (jc_region (qh [0,0] (qe (jx_then (qi h (fun h => ?_) (fun h => ?_)))))))))
  ·refine jc_seq (jc_region (tO (qa 0 (fun b_7 => jkO (qh [0,0,0,0] (qe (jx_then (jc_ret (jx_thenr ?_)))))))))
   obtain rfl := Option.some.inj h
   exact qr [] (fun w hm => ⟨(some b_7), 0, [], 0, rfl, (fun _ => ⟨Nat.le_refl _, by simp⟩), (fun e => nomatch e), rfl, hm.pk [0, 2]⟩)
  ·refine jc_skip (jx_then (jc_seq (jc_seq (jc_region (qh [0] ?_)))))
   obtain ⟨t_2, ht_11, h⟩ := bd h
   refine tO (pc 0 (fun w hm => spec_l00In.calls budget3 0 20000 w _ ht_11) ?_)
   rintro w v w' hm ⟨rfl, hm'⟩
   refine ⟨_, hm.app hm', jkO ?_⟩
   clear hm hm'
   refine qh [0] (qe (jx_then (qi h (fun h => ?_) (fun h => ?_))))
   ·refine jc_seq (jc_region (tO (qa 0 (fun b_13 => jkO (qh [0,0,0] (qe (jx_then (jc_ret (jx_thenr ?_)))))))))
    obtain rfl := Option.some.inj h
    exact qr [] (fun w hm => ⟨(some b_13), 0, [], 0, rfl, (fun _ => ⟨Nat.le_refl _, by simp⟩), (fun e => nomatch e), rfl, hm.pk [0, 2]⟩)
   ·refine jc_skip (jx_then (jc_seq (jc_region (qh [0,0,1,0,0] (tO (qa 0 (fun b_14 => jk_ghost 71 encHd (jk_clu encGChoice (jkO (qh [0] (qe (jx_then (jc_seq (jc_seq (jc_region (qh [0] (qe (jx_then (jc_meet (fun (j : (List (List GChoice)) × (List Hd) × (Option Nat) × Nat × (List Value) × Nat) => match j with | ⟨xt_684, hh_685, o_686, cap_687, sp_688, n_689⟩ => spec_l07Arrange.k_3 f0 t1 c2 budget3 xt_684 = some r ∧ (hh_685.length = n_689) ∧ ((o_686 ≠ none → n_689 ≤ cap_687 ∧ sp_688.length = (cap_687 - n_689) * 1)) ∧ ((o_686 = none → hh_685 = [] ∧ cap_687 = 0)) ∧ (InP hh_685 xt_684)) (fun (j : (List (List GChoice)) × (List Hd) × (Option Nat) × Nat × (List Value) × Nat) => match j with | ⟨xt_684, hh_685, o_686, cap_687, sp_688, n_689⟩ => [(0, [], (.pointer (some ⟨A_b, 0, none⟩))), (1, [], (.slice D_a t1.length D_c)), (6, [], (.pointer (some ⟨b_1, 0, none⟩))), (8, [], (.slice none 0 0)), (9, [], (.int .i64 0)), (10, [], (.int .i64 0)), (12, [], (.pointer (some ⟨b_14, 0, none⟩)))]) (fun (j : (List (List GChoice)) × (List Hd) × (Option Nat) × Nat × (List Value) × Nat) => match j with | ⟨xt_684, hh_685, o_686, cap_687, sp_688, n_689⟩ => [⟨some A_b, 34, [(.int .i16 f0.fSteps), (.slice C_a f0.fHammers.length C_c)]⟩, ⟨some b_1, 74, [(.int .i16 c2.fAway), (.int .i16 c2.fOctave), (.int .i16 c2.fStep)]⟩, ⟨some b_14, 185, [(.pointer (some ⟨A_b, 0, none⟩)), (.slice D_a t1.length D_c), (.int .i16 c2.fAway), (.int .i16 c2.fOctave), (.int .i16 c2.fStep), (.slice (o_686.map fun b => ⟨b, 0, none⟩) n_689 cap_687), (.slice none 0 0), (.int .i64 budget3), (.int .i64 0), (.bool false), (.slice none 0 0), (.int .i64 0)]⟩, ⟨o_686, 71, row encHd hh_685 sp_688⟩, ⟨none, CLU, cluC encGChoice hh_685 xt_684⟩]) ?_ ?_)))))))))))))))))))
    ·refine jc_block ?_
     obtain ⟨t_15, ht_1428, hr_1359⟩ := bd h
     refine jc_loop (fun (s : (List (List GChoice)) × Int) (x : (List Hd) × (Option Nat) × Nat × (List Value) × Nat) => match s, x with | ⟨xt_1350, i_13⟩, ⟨hh_1351, o_1352, cap_1353, sp_1354, n_1355⟩ => (hh_1351.length = n_1355) ∧ ((o_1352 ≠ none → n_1355 ≤ cap_1353 ∧ sp_1354.length = (cap_1353 - n_1355) * 1)) ∧ ((o_1352 = none → hh_1351 = [] ∧ cap_1353 = 0)) ∧ (InP hh_1351 xt_1350)) (fun (s : (List (List GChoice)) × Int) (x : (List Hd) × (Option Nat) × Nat × (List Value) × Nat) => match s, x with | ⟨xt_1350, i_13⟩, ⟨hh_1351, o_1352, cap_1353, sp_1354, n_1355⟩ => [(0, [], (.pointer (some ⟨A_b, 0, none⟩))), (1, [], (.slice D_a t1.length D_c)), (6, [], (.pointer (some ⟨b_1, 0, none⟩))), (8, [], (.slice none 0 0)), (9, [], (.int .i64 0)), (10, [], (.int .i64 0)), (12, [], (.pointer (some ⟨b_14, 0, none⟩))), (13, [], (.int .i64 i_13))]) (fun (s : (List (List GChoice)) × Int) (x : (List Hd) × (Option Nat) × Nat × (List Value) × Nat) => match s, x with | ⟨xt_1350, i_13⟩, ⟨hh_1351, o_1352, cap_1353, sp_1354, n_1355⟩ => [⟨some A_b, 34, [(.int .i16 f0.fSteps), (.slice C_a f0.fHammers.length C_c)]⟩, ⟨some b_1, 74, [(.int .i16 c2.fAway), (.int .i16 c2.fOctave), (.int .i16 c2.fStep)]⟩, ⟨some b_14, 185, [(.pointer (some ⟨A_b, 0, none⟩)), (.slice D_a t1.length D_c), (.int .i16 c2.fAway), (.int .i16 c2.fOctave), (.int .i16 c2.fStep), (.slice (o_1352.map fun b => ⟨b, 0, none⟩) n_1355 cap_1353), (.slice none 0 0), (.int .i64 budget3), (.int .i64 0), (.bool false), (.slice none 0 0), (.int .i64 0)]⟩, ⟨o_1352, 71, row encHd hh_1351 sp_1354⟩, ⟨none, CLU, cluC encGChoice hh_1351 xt_1350⟩]) ht_1428 ⟨([] : List Hd), (none : Option Nat), 0, [], 0⟩ ⟨rfl, (fun e => absurd rfl e), (fun _ => ⟨rfl, rfl⟩), InP.nil⟩ (by kernel_rfl) [0, 1, 2, 3, 4] (by kernel_rfl) (by kernel_rfl) ?_
     rintro ⟨xt_1350, i_13⟩ ⟨hh_1351, o_1352, cap_1353, sp_1354, n_1355⟩ y_1360 ⟨rfl, hs_1356, ho_1357, hI_1358⟩ h
     rw [spec_l07Arrange.l_14] at h
     refine jc_seq (jc_seq (jc_region (qh [0,0,0,0] (qe (jx_then (qi h (fun h => ?_) (fun h => ?_)))))))
     ·refine jc_skip (jx_then (jc_seq (jc_block (qg [⟨some A_b, 34, [(.int .i16 f0.fSteps), (.slice C_a f0.fHammers.length C_c)]⟩, ⟨some b_1, 74, [(.int .i16 c2.fAway), (.int .i16 c2.fOctave), (.int .i16 c2.fStep)]⟩] 17 (qd [⟨0, 0, 0⟩,⟨1, 0, 0⟩,⟨2, 0, 0⟩,⟨3, 0, 0⟩,⟨5, 0, 0⟩,⟨6, 0, 0⟩,⟨7, 0, 0⟩,⟨10, 1, 0⟩] 9 [0, 1] ?_)))))
      obtain ⟨x_16, hx_1393, h⟩ := bd h
      refine qv 8 0 [0, 1] (fun w hm => idx_run (a := D_a) (len := t1.length) (s := 2) (j := i_13) (by kernel_rfl) (ix_some hx_1393).1 (ltn hx_1393 rfl) (D_h.sp hx_1393)) (qv 9 0 [0, 1] (fun w hm => ld_run (b := aB D_a) (off := (aO D_a + i_13.toNat * 2)) (s := 2) (agg := true) (vs := (encGNote x_16)) (by kernel_rfl) (by kernel_rfl) (.inl rfl) ((hm.exRowW D_h D_ha).at hx_1393)) (toD2 4 11 (by kernel_rfl) ?_ ?_))
      ·refine qs 0 [2] (kD [0, 1] ?_)
       obtain ⟨t_17, ht_1394, h⟩ := bd h
       refine tD 11 (pc 0 (fun w hm => spec_l07Ordered.calls f0 x_16 c2 w _ C_c (hm.exRowW C_h C_ha) rfl A_b (hm.pass (N := [⟨some A_b, 34, [(.int .i16 f0.fSteps), (.slice C_a f0.fHammers.length C_c)]⟩]) [0] (by kernel_rfl) (by kernel_rfl)) (hm.exApart (N := [⟨some A_b, 34, [(.int .i16 f0.fSteps), (.slice C_a f0.fHammers.length C_c)]⟩]) C_h C_ha [0] (by kernel_rfl)) ht_1394) ?_)
       rintro w v w' hm ⟨o_1395, cap_1396, sp_1397, _, rfl, hs_1398, ho_1399, rfl, hm'⟩
       refine ⟨_, hm.appW (ps := [(0, ⟨some A_b, 34, [(.int .i16 f0.fSteps), (.slice C_a f0.fHammers.length C_c)]⟩)]) (N := [⟨o_1395, 144, row encGChoice t_17 sp_1397⟩]) hm' (by kernel_rfl) (by kernel_rfl), kD [0, 1] ?_⟩
       clear hm hm'
       refine tD 12 (qa 0 (fun b_1400 => kD [0, 1] ?_))
       obtain ⟨hg_1401, h⟩ := gd h
       exact tD 13 (p_apn 0 3 o_1352 71 hh_1351.length 1 cap_1353 1 24 (some ⟨b_1400, 0, none⟩) encHd hh_1351 [(Hd.mk (o_1395.map fun b => ⟨b, 0, none⟩) t_17.length cap_1396)] sp_1354 (.slice none 0 0) rfl rfl (by kernel_rfl) (by kernel_rfl) (by kernel_rfl) encHd_len encHd_cell hs_1356 ho_1357 (fun w hm => (hm.ow 6 (some b_1400) 71 ([(Hd.mk (o_1395.map fun b => ⟨b, 0, none⟩) t_17.length cap_1396)]) [] (fun e => nomatch e) encHd_len)) (tabbig hI_1358 hg_1401) (by kernel_rfl) (by kernel_rfl) (fun o_1402 cap_1403 sp_1404 hs_1405 ho_1406 => jk_frzW (enc := encGChoice) (hs := hh_1351) (xss := xt_1350) (o := o_1395) (T := 144) (xs := t_17) (sp := sp_1397) 4 5 t_17.length cap_1396 [0] hI_1358 (kD [0, 1] (qd [⟨14, 0, 0⟩,⟨15, 0, 0⟩] 1 [0, 1] (tD 16 (qs 0 [2] (kD [0, 1] (qz (jx_inn (jx_then (jc_region (qh [0,0,0] (qe (qb ((xt_1350 ++ [t_17]), (w64 (i_13 + 1))) ⟨(hh_1351 ++ [(Hd.mk (o_1395.map fun b => ⟨b, 0, none⟩) t_17.length cap_1396)]), o_1402, cap_1403, sp_1404, (hh_1351 ++ [(Hd.mk (o_1395.map fun b => ⟨b, 0, none⟩) t_17.length cap_1396)]).length⟩ h ⟨rfl, hs_1405, ho_1406, (hI_1358.snoc rfl (fun e => (ho_1399 e).1))⟩ [0, 1, 2, 3, 4]))))))))))))))
      ·obtain ⟨t_17, ht_1407, h⟩ := bd h
       refine pc 0 (fun w hm => spec_l07Ordered.calls f0 x_16 c2 w _ C_c (hm.exRowW C_h C_ha) rfl A_b (hm.pass (N := [⟨some A_b, 34, [(.int .i16 f0.fSteps), (.slice C_a f0.fHammers.length C_c)]⟩]) [0] (by kernel_rfl) (by kernel_rfl)) (hm.exApart (N := [⟨some A_b, 34, [(.int .i16 f0.fSteps), (.slice C_a f0.fHammers.length C_c)]⟩]) C_h C_ha [0] (by kernel_rfl)) ht_1407) ?_
       rintro w v w' hm ⟨o_1408, cap_1409, sp_1410, _, rfl, hs_1411, ho_1412, rfl, hm'⟩
       refine ⟨_, hm.appW (ps := [(0, ⟨some A_b, 34, [(.int .i16 f0.fSteps), (.slice C_a f0.fHammers.length C_c)]⟩)]) (N := [⟨o_1408, 144, row encGChoice t_17 sp_1410⟩]) hm' (by kernel_rfl) (by kernel_rfl), kD [0, 1] ?_⟩
       clear hm hm'
       refine toD2 4 12 (by kernel_rfl) ?_ ?_
       ·refine qs 0 [2] (kD [0, 1] (tD 12 (qa 0 (fun b_1413 => kD [0, 1] ?_))))
        obtain ⟨hg_1414, h⟩ := gd h
        exact tD 13 (p_apn 0 3 o_1352 71 hh_1351.length 1 cap_1353 1 24 (some ⟨b_1413, 0, none⟩) encHd hh_1351 [(Hd.mk (o_1408.map fun b => ⟨b, 0, none⟩) t_17.length cap_1409)] sp_1354 (.slice none 0 0) rfl rfl (by kernel_rfl) (by kernel_rfl) (by kernel_rfl) encHd_len encHd_cell hs_1356 ho_1357 (fun w hm => (hm.ow 6 (some b_1413) 71 ([(Hd.mk (o_1408.map fun b => ⟨b, 0, none⟩) t_17.length cap_1409)]) [] (fun e => nomatch e) encHd_len)) (tabbig hI_1358 hg_1414) (by kernel_rfl) (by kernel_rfl) (fun o_1415 cap_1416 sp_1417 hs_1418 ho_1419 => jk_frzW (enc := encGChoice) (hs := hh_1351) (xss := xt_1350) (o := o_1408) (T := 144) (xs := t_17) (sp := sp_1410) 4 5 t_17.length cap_1409 [0] hI_1358 (kD [0, 1] (qd [⟨14, 0, 0⟩,⟨15, 0, 0⟩] 1 [0, 1] (tD 16 (qs 0 [2] (kD [0, 1] (qz (jx_inn (jx_then (jc_region (qh [0,0,0] (qe (qb ((xt_1350 ++ [t_17]), (w64 (i_13 + 1))) ⟨(hh_1351 ++ [(Hd.mk (o_1408.map fun b => ⟨b, 0, none⟩) t_17.length cap_1409)]), o_1415, cap_1416, sp_1417, (hh_1351 ++ [(Hd.mk (o_1408.map fun b => ⟨b, 0, none⟩) t_17.length cap_1409)]).length⟩ h ⟨rfl, hs_1418, ho_1419, (hI_1358.snoc rfl (fun e => (ho_1412 e).1))⟩ [0, 1, 2, 3, 4]))))))))))))))
       ·refine qa 0 (fun b_1420 => kD [0, 1] (tD 4 (qs 0 [2] (kD [0, 1] ?_))))
        obtain ⟨hg_1421, h⟩ := gd h
        exact tD 13 (p_apn 0 3 o_1352 71 hh_1351.length 1 cap_1353 1 24 (some ⟨b_1420, 0, none⟩) encHd hh_1351 [(Hd.mk (o_1408.map fun b => ⟨b, 0, none⟩) t_17.length cap_1409)] sp_1354 (.slice none 0 0) rfl rfl (by kernel_rfl) (by kernel_rfl) (by kernel_rfl) encHd_len encHd_cell hs_1356 ho_1357 (fun w hm => (hm.ow 6 (some b_1420) 71 ([(Hd.mk (o_1408.map fun b => ⟨b, 0, none⟩) t_17.length cap_1409)]) [] (fun e => nomatch e) encHd_len)) (tabbig hI_1358 hg_1421) (by kernel_rfl) (by kernel_rfl) (fun o_1422 cap_1423 sp_1424 hs_1425 ho_1426 => jk_frzW (enc := encGChoice) (hs := hh_1351) (xss := xt_1350) (o := o_1408) (T := 144) (xs := t_17) (sp := sp_1410) 4 5 t_17.length cap_1409 [0] hI_1358 (kD [0, 1] (qd [⟨14, 0, 0⟩,⟨15, 0, 0⟩] 1 [0, 1] (tD 16 (qs 0 [2] (kD [0, 1] (qz (jx_inn (jx_then (jc_region (qh [0,0,0] (qe (qb ((xt_1350 ++ [t_17]), (w64 (i_13 + 1))) ⟨(hh_1351 ++ [(Hd.mk (o_1408.map fun b => ⟨b, 0, none⟩) t_17.length cap_1409)]), o_1422, cap_1423, sp_1424, (hh_1351 ++ [(Hd.mk (o_1408.map fun b => ⟨b, 0, none⟩) t_17.length cap_1409)]).length⟩ h ⟨rfl, hs_1425, ho_1426, (hI_1358.snoc rfl (fun e => (ho_1412 e).1))⟩ [0, 1, 2, 3, 4]))))))))))))))
     ·refine jc_exit (jx_thenx (jx_leave xt_1350 (Option.some.inj h).symm (fun e_1427 => ?_)))
      subst e_1427
      exact jx_ine (qm ⟨xt_1350, hh_1351, o_1352, cap_1353, sp_1354, hh_1351.length⟩ ⟨hr_1359, rfl, hs_1356, ho_1357, hI_1358⟩ [0, 1, 2, 3, 4])
    ·rintro ⟨xt_684, hh_685, o_686, cap_687, sp_688, n_689⟩ ⟨h, rfl, hs_690, ho_691, hI_692⟩
     replace h : spec_l07Arrange.k_3 f0 t1 c2 budget3 xt_684 = some r := h
     rw [spec_l07Arrange.k_3] at h
     refine jx_then (jc_seq (jc_seq (jc_region (qh [0] (qe (jx_then (jc_meet (fun (j : (List Int) × (Option Nat) × Nat × (List Value) × Nat) => match j with | ⟨xs_4, o_1056, cap_1057, sp_1058, n_1059⟩ => spec_l07Arrange.k_5 f0 t1 c2 budget3 xt_684 xs_4 = some r ∧ (xs_4.length = n_1059) ∧ ((o_1056 ≠ none → n_1059 ≤ cap_1057 ∧ sp_1058.length = (cap_1057 - n_1059) * 1)) ∧ ((o_1056 = none → xs_4 = [] ∧ cap_1057 = 0))) (fun (j : (List Int) × (Option Nat) × Nat × (List Value) × Nat) => match j with | ⟨xs_4, o_1056, cap_1057, sp_1058, n_1059⟩ => [(8, [], (.slice none 0 0)), (9, [], (.int .i64 0)), (10, [], (.int .i64 0)), (12, [], (.pointer (some ⟨b_14, 0, none⟩)))]) (fun (j : (List Int) × (Option Nat) × Nat × (List Value) × Nat) => match j with | ⟨xs_4, o_1056, cap_1057, sp_1058, n_1059⟩ => [⟨some A_b, 34, [(.int .i16 f0.fSteps), (.slice C_a f0.fHammers.length C_c)]⟩, ⟨some b_1, 74, [(.int .i16 c2.fAway), (.int .i16 c2.fOctave), (.int .i16 c2.fStep)]⟩, ⟨some b_14, 185, [(.pointer (some ⟨A_b, 0, none⟩)), (.slice D_a t1.length D_c), (.int .i16 c2.fAway), (.int .i16 c2.fOctave), (.int .i16 c2.fStep), (.slice (o_686.map fun b => ⟨b, 0, none⟩) hh_685.length cap_687), (.slice (o_1056.map fun b => ⟨b, 0, none⟩) n_1059 cap_1057), (.int .i64 budget3), (.int .i64 0), (.bool false), (.slice none 0 0), (.int .i64 0)]⟩, ⟨o_686, 71, row encHd hh_685 sp_688⟩, ⟨none, CLU, cluC encGChoice hh_685 xt_684⟩, ⟨o_1056, 2, row encI64 xs_4 sp_1058⟩]) ?_ ?_)))))))
     ·refine jc_block ?_
      obtain ⟨t_11, ht_1208, hr_1170⟩ := bd h
      refine jc_ghost 2 encI64 (jc_loop (fun (s : (List Int) × Int) (x : (Option Nat) × Nat × (List Value) × Nat) => match s, x with | ⟨xs_8, i_9⟩, ⟨o_1164, cap_1165, sp_1166, n_1167⟩ => (xs_8.length = n_1167) ∧ ((o_1164 ≠ none → n_1167 ≤ cap_1165 ∧ sp_1166.length = (cap_1165 - n_1167) * 1)) ∧ ((o_1164 = none → xs_8 = [] ∧ cap_1165 = 0))) (fun (s : (List Int) × Int) (x : (Option Nat) × Nat × (List Value) × Nat) => match s, x with | ⟨xs_8, i_9⟩, ⟨o_1164, cap_1165, sp_1166, n_1167⟩ => [(0, [], (.pointer (some ⟨A_b, 0, none⟩))), (1, [], (.slice D_a t1.length D_c)), (6, [], (.pointer (some ⟨b_1, 0, none⟩))), (8, [], (.slice none 0 0)), (9, [], (.int .i64 0)), (10, [], (.int .i64 0)), (12, [], (.pointer (some ⟨b_14, 0, none⟩))), (14, [], (.int .i64 i_9))]) (fun (s : (List Int) × Int) (x : (Option Nat) × Nat × (List Value) × Nat) => match s, x with | ⟨xs_8, i_9⟩, ⟨o_1164, cap_1165, sp_1166, n_1167⟩ => [⟨some A_b, 34, [(.int .i16 f0.fSteps), (.slice C_a f0.fHammers.length C_c)]⟩, ⟨some b_1, 74, [(.int .i16 c2.fAway), (.int .i16 c2.fOctave), (.int .i16 c2.fStep)]⟩, ⟨some b_14, 185, [(.pointer (some ⟨A_b, 0, none⟩)), (.slice D_a t1.length D_c), (.int .i16 c2.fAway), (.int .i16 c2.fOctave), (.int .i16 c2.fStep), (.slice (o_686.map fun b => ⟨b, 0, none⟩) hh_685.length cap_687), (.slice (o_1164.map fun b => ⟨b, 0, none⟩) n_1167 cap_1165), (.int .i64 budget3), (.int .i64 0), (.bool false), (.slice none 0 0), (.int .i64 0)]⟩, ⟨o_686, 71, row encHd hh_685 sp_688⟩, ⟨none, CLU, cluC encGChoice hh_685 xt_684⟩, ⟨o_1164, 2, row encI64 xs_8 sp_1166⟩]) ht_1208 ⟨none, 0, [], 0⟩ ⟨rfl, (fun e => absurd rfl e), (fun _ => ⟨rfl, rfl⟩)⟩ (by kernel_rfl) [0, 1, 2, 3, 4, 5] (by kernel_rfl) (by kernel_rfl) ?_)
      rintro ⟨xs_8, i_9⟩ ⟨o_1164, cap_1165, sp_1166, n_1167⟩ y_1171 ⟨rfl, hs_1168, ho_1169⟩ h
      rw [spec_l07Arrange.l_10] at h
      refine jc_seq (jc_seq (jc_region (qh [0,0,0,0] (qe (jx_then (qi h (fun h => ?_) (fun h => ?_)))))))
      ·refine jc_skip (jx_then (jc_seq (jc_block (qg [⟨some A_b, 34, [(.int .i16 f0.fSteps), (.slice C_a f0.fHammers.length C_c)]⟩, ⟨some b_1, 74, [(.int .i16 c2.fAway), (.int .i16 c2.fOctave), (.int .i16 c2.fStep)]⟩, ⟨o_686, 71, row encHd hh_685 sp_688⟩, ⟨none, CLU, cluC encGChoice hh_685 xt_684⟩] 15 (qd [⟨0, 0, 0⟩,⟨1, 0, 0⟩,⟨2, 0, 0⟩,⟨3, 0, 0⟩,⟨5, 0, 0⟩,⟨6, 0, 0⟩,⟨7, 1, 0⟩,⟨8, 0, 0⟩] 7 [0, 1, 3, 4] (toD2 4 9 (by kernel_rfl) ?_ ?_))))))
       ·refine qs 0 [2] (kD [0, 1, 3, 4] ?_)
        obtain ⟨t_12, ht_1184, h⟩ := bd h
        refine tD 9 (pc 0 (fun w hm => spec_l07Bound.calls f0 t1 c2 i_9 w _ C_c (hm.exRowW C_h C_ha) rfl D_c (hm.exRowW D_h D_ha) rfl A_b (hm.pass (N := [⟨some A_b, 34, [(.int .i16 f0.fSteps), (.slice C_a f0.fHammers.length C_c)]⟩]) [0] (by kernel_rfl) (by kernel_rfl)) (hm.exApart (N := [⟨some A_b, 34, [(.int .i16 f0.fSteps), (.slice C_a f0.fHammers.length C_c)]⟩]) C_h C_ha [0] (by kernel_rfl)) (hm.exApart (N := [⟨some A_b, 34, [(.int .i16 f0.fSteps), (.slice C_a f0.fHammers.length C_c)]⟩]) D_h D_ha [0] (by kernel_rfl)) ht_1184) ?_)
        rintro w v w' hm ⟨rfl, hm'⟩
        refine ⟨_, hm.appW (ps := [(0, ⟨some A_b, 34, [(.int .i16 f0.fSteps), (.slice C_a f0.fHammers.length C_c)]⟩)]) (N := []) hm' (by kernel_rfl) (by kernel_rfl), kD [0, 1, 3, 4] ?_⟩
        clear hm hm'
        refine tD 10 (qa 0 (fun b_1185 => kD [0, 1, 3, 4] ?_))
        obtain ⟨hg_1186, h⟩ := gd h
        exact tD 11 (p_apn 0 5 o_1164 2 xs_8.length 1 cap_1165 1 8 (some ⟨b_1185, 0, none⟩) encI64 xs_8 ([t_12] : List Int) sp_1166 (.int .i64 0) rfl rfl (by kernel_rfl) (by kernel_rfl) (by kernel_rfl) encI64_len encI64_cell hs_1168 ho_1169 (fun w hm => (hm.ow 6 (some b_1185) 2 ([t_12] : List Int) [] (fun e => nomatch e) encI64_len)) hg_1186 (by kernel_rfl) (by kernel_rfl) (fun o_1187 cap_1188 sp_1189 hs_1190 ho_1191 => kD [0, 1, 3, 4] (qd [⟨12, 0, 0⟩,⟨13, 0, 0⟩] 1 [0, 1, 3, 4] (tD 14 (qs 0 [2] (kD [0, 1, 3, 4] (qz (jx_inn (jx_then (jc_region (qh [0,0,0] (qe (qb ((xs_8 ++ ([t_12] : List Int)), (w64 (i_9 + 1))) ⟨o_1187, cap_1188, sp_1189, (xs_8 ++ ([t_12] : List Int)).length⟩ h ⟨rfl, hs_1190, ho_1191⟩ [0, 1, 2, 3, 4, 5])))))))))))))
       ·obtain ⟨t_12, ht_1192, h⟩ := bd h
        refine pc 0 (fun w hm => spec_l07Bound.calls f0 t1 c2 i_9 w _ C_c (hm.exRowW C_h C_ha) rfl D_c (hm.exRowW D_h D_ha) rfl A_b (hm.pass (N := [⟨some A_b, 34, [(.int .i16 f0.fSteps), (.slice C_a f0.fHammers.length C_c)]⟩]) [0] (by kernel_rfl) (by kernel_rfl)) (hm.exApart (N := [⟨some A_b, 34, [(.int .i16 f0.fSteps), (.slice C_a f0.fHammers.length C_c)]⟩]) C_h C_ha [0] (by kernel_rfl)) (hm.exApart (N := [⟨some A_b, 34, [(.int .i16 f0.fSteps), (.slice C_a f0.fHammers.length C_c)]⟩]) D_h D_ha [0] (by kernel_rfl)) ht_1192) ?_
        rintro w v w' hm ⟨rfl, hm'⟩
        refine ⟨_, hm.appW (ps := [(0, ⟨some A_b, 34, [(.int .i16 f0.fSteps), (.slice C_a f0.fHammers.length C_c)]⟩)]) (N := []) hm' (by kernel_rfl) (by kernel_rfl), kD [0, 1, 3, 4] ?_⟩
        clear hm hm'
        refine toD2 4 10 (by kernel_rfl) ?_ ?_
        ·refine qs 0 [2] (kD [0, 1, 3, 4] (tD 10 (qa 0 (fun b_1193 => kD [0, 1, 3, 4] ?_))))
         obtain ⟨hg_1194, h⟩ := gd h
         exact tD 11 (p_apn 0 5 o_1164 2 xs_8.length 1 cap_1165 1 8 (some ⟨b_1193, 0, none⟩) encI64 xs_8 ([t_12] : List Int) sp_1166 (.int .i64 0) rfl rfl (by kernel_rfl) (by kernel_rfl) (by kernel_rfl) encI64_len encI64_cell hs_1168 ho_1169 (fun w hm => (hm.ow 6 (some b_1193) 2 ([t_12] : List Int) [] (fun e => nomatch e) encI64_len)) hg_1194 (by kernel_rfl) (by kernel_rfl) (fun o_1195 cap_1196 sp_1197 hs_1198 ho_1199 => kD [0, 1, 3, 4] (qd [⟨12, 0, 0⟩,⟨13, 0, 0⟩] 1 [0, 1, 3, 4] (tD 14 (qs 0 [2] (kD [0, 1, 3, 4] (qz (jx_inn (jx_then (jc_region (qh [0,0,0] (qe (qb ((xs_8 ++ ([t_12] : List Int)), (w64 (i_9 + 1))) ⟨o_1195, cap_1196, sp_1197, (xs_8 ++ ([t_12] : List Int)).length⟩ h ⟨rfl, hs_1198, ho_1199⟩ [0, 1, 2, 3, 4, 5])))))))))))))
        ·refine qa 0 (fun b_1200 => kD [0, 1, 3, 4] (tD 4 (qs 0 [2] (kD [0, 1, 3, 4] ?_))))
         obtain ⟨hg_1201, h⟩ := gd h
         exact tD 11 (p_apn 0 5 o_1164 2 xs_8.length 1 cap_1165 1 8 (some ⟨b_1200, 0, none⟩) encI64 xs_8 ([t_12] : List Int) sp_1166 (.int .i64 0) rfl rfl (by kernel_rfl) (by kernel_rfl) (by kernel_rfl) encI64_len encI64_cell hs_1168 ho_1169 (fun w hm => (hm.ow 6 (some b_1200) 2 ([t_12] : List Int) [] (fun e => nomatch e) encI64_len)) hg_1201 (by kernel_rfl) (by kernel_rfl) (fun o_1202 cap_1203 sp_1204 hs_1205 ho_1206 => kD [0, 1, 3, 4] (qd [⟨12, 0, 0⟩,⟨13, 0, 0⟩] 1 [0, 1, 3, 4] (tD 14 (qs 0 [2] (kD [0, 1, 3, 4] (qz (jx_inn (jx_then (jc_region (qh [0,0,0] (qe (qb ((xs_8 ++ ([t_12] : List Int)), (w64 (i_9 + 1))) ⟨o_1202, cap_1203, sp_1204, (xs_8 ++ ([t_12] : List Int)).length⟩ h ⟨rfl, hs_1205, ho_1206⟩ [0, 1, 2, 3, 4, 5])))))))))))))
      ·refine jc_exit (jx_thenx (jx_leave xs_8 (Option.some.inj h).symm (fun e_1207 => ?_)))
       subst e_1207
       exact jx_ine (qm ⟨xs_8, o_1164, cap_1165, sp_1166, xs_8.length⟩ ⟨hr_1170, rfl, hs_1168, ho_1169⟩ [0, 1, 2, 3, 4, 5])
     ·rintro ⟨xs_4, o_1056, cap_1057, sp_1058, n_1059⟩ ⟨h, rfl, hs_1060, ho_1061⟩
      replace h : spec_l07Arrange.k_5 f0 t1 c2 budget3 xt_684 xs_4 = some r := h
      rw [spec_l07Arrange.k_5] at h
      refine jx_then (jc_seq (jc_seq (jc_region (qh [0,0] (tO (qa 0 (fun b_1076 => jkO ?_)))))))
      obtain ⟨t_6, ht_1077, h⟩ := bd h
      refine tO (jp_ghost 144 encGChoice (pc 0 (fun w hm => spec_l07Go.calls (⟨f0, t1, c2, xt_684, xs_4, budget3, 0, false, ([] : List GChoice), 0⟩ : Gl07Search) (Arr.rep 96 0) ([] : List GChoice) 0 w _ C_c (hm.exRowW C_h C_ha) rfl D_c (hm.exRowW D_h D_ha) rfl cap_687 (hm.ow 3 o_686 71 hh_685 sp_688 (fun e => (ho_691 e).1) encHd_len) (hI_692.1.symm.trans rfl) cap_1057 (hm.ow 5 o_1056 2 xs_4 sp_1058 (fun e => (ho_1061 e).1) encI64_len) rfl 0 rfl 0 (hm.ow 6 (some b_1076) 144 ([] : List GChoice) [] (fun e => nomatch e) encGChoice_len) rfl b_14 A_b (hm.pass (N := [⟨some b_14, 185, [(.pointer (some ⟨A_b, 0, none⟩)), (.slice D_a t1.length D_c), (.int .i16 c2.fAway), (.int .i16 c2.fOctave), (.int .i16 c2.fStep), (.slice (o_686.map fun b => ⟨b, 0, none⟩) hh_685.length cap_687), (.slice (o_1056.map fun b => ⟨b, 0, none⟩) xs_4.length cap_1057), (.int .i64 budget3), (.int .i64 0), (.bool false), (.slice ((none : Option Nat).map fun b => ⟨b, 0, none⟩) 0 0), (.int .i64 0)]⟩, ⟨some A_b, 34, [(.int .i16 f0.fSteps), (.slice C_a f0.fHammers.length C_c)]⟩]) [2, 0] (by kernel_rfl) (by kernel_rfl)) (hm.exApart (N := [⟨some b_14, 185, [(.pointer (some ⟨A_b, 0, none⟩)), (.slice D_a t1.length D_c), (.int .i16 c2.fAway), (.int .i16 c2.fOctave), (.int .i16 c2.fStep), (.slice (o_686.map fun b => ⟨b, 0, none⟩) hh_685.length cap_687), (.slice (o_1056.map fun b => ⟨b, 0, none⟩) xs_4.length cap_1057), (.int .i64 budget3), (.int .i64 0), (.bool false), (.slice ((none : Option Nat).map fun b => ⟨b, 0, none⟩) 0 0), (.int .i64 0)]⟩, ⟨some A_b, 34, [(.int .i16 f0.fSteps), (.slice C_a f0.fHammers.length C_c)]⟩]) C_h C_ha [2, 0] (by kernel_rfl)) (hm.exApart (N := [⟨some b_14, 185, [(.pointer (some ⟨A_b, 0, none⟩)), (.slice D_a t1.length D_c), (.int .i16 c2.fAway), (.int .i16 c2.fOctave), (.int .i16 c2.fStep), (.slice (o_686.map fun b => ⟨b, 0, none⟩) hh_685.length cap_687), (.slice (o_1056.map fun b => ⟨b, 0, none⟩) xs_4.length cap_1057), (.int .i64 budget3), (.int .i64 0), (.bool false), (.slice ((none : Option Nat).map fun b => ⟨b, 0, none⟩) 0 0), (.int .i64 0)]⟩, ⟨some A_b, 34, [(.int .i16 f0.fSteps), (.slice C_a f0.fHammers.length C_c)]⟩]) D_h D_ha [2, 0] (by kernel_rfl)) (hm.ownApart (S := Hd) (N := [⟨some b_14, 185, [(.pointer (some ⟨A_b, 0, none⟩)), (.slice D_a t1.length D_c), (.int .i16 c2.fAway), (.int .i16 c2.fOctave), (.int .i16 c2.fStep), (.slice (o_686.map fun b => ⟨b, 0, none⟩) hh_685.length cap_687), (.slice (o_1056.map fun b => ⟨b, 0, none⟩) xs_4.length cap_1057), (.int .i64 budget3), (.int .i64 0), (.bool false), (.slice ((none : Option Nat).map fun b => ⟨b, 0, none⟩) 0 0), (.int .i64 0)]⟩, ⟨some A_b, 34, [(.int .i16 f0.fSteps), (.slice C_a f0.fHammers.length C_c)]⟩]) (hh := 3) (o := o_686) (T := 71) (cs := row encHd hh_685 sp_688) (xs := hh_685) (by kernel_rfl) (fun e => (ho_691 e).1) [2, 0] (by kernel_rfl) (by kernel_rfl)) (hm.cluPass (N := [⟨some b_14, 185, [(.pointer (some ⟨A_b, 0, none⟩)), (.slice D_a t1.length D_c), (.int .i16 c2.fAway), (.int .i16 c2.fOctave), (.int .i16 c2.fStep), (.slice (o_686.map fun b => ⟨b, 0, none⟩) hh_685.length cap_687), (.slice (o_1056.map fun b => ⟨b, 0, none⟩) xs_4.length cap_1057), (.int .i64 budget3), (.int .i64 0), (.bool false), (.slice ((none : Option Nat).map fun b => ⟨b, 0, none⟩) 0 0), (.int .i64 0)]⟩, ⟨some A_b, 34, [(.int .i16 f0.fSteps), (.slice C_a f0.fHammers.length C_c)]⟩]) 4 hI_692 encGChoice_len [2, 0]) (hm.ownApart (S := Int) (N := [⟨some b_14, 185, [(.pointer (some ⟨A_b, 0, none⟩)), (.slice D_a t1.length D_c), (.int .i16 c2.fAway), (.int .i16 c2.fOctave), (.int .i16 c2.fStep), (.slice (o_686.map fun b => ⟨b, 0, none⟩) hh_685.length cap_687), (.slice (o_1056.map fun b => ⟨b, 0, none⟩) xs_4.length cap_1057), (.int .i64 budget3), (.int .i64 0), (.bool false), (.slice ((none : Option Nat).map fun b => ⟨b, 0, none⟩) 0 0), (.int .i64 0)]⟩, ⟨some A_b, 34, [(.int .i16 f0.fSteps), (.slice C_a f0.fHammers.length C_c)]⟩]) (hh := 5) (o := o_1056) (T := 2) (cs := row encI64 xs_4 sp_1058) (xs := xs_4) (by kernel_rfl) (fun e => (ho_1061 e).1) [2, 0] (by kernel_rfl) (by kernel_rfl)) (hm.ownApart (S := GChoice) (N := [⟨some b_14, 185, [(.pointer (some ⟨A_b, 0, none⟩)), (.slice D_a t1.length D_c), (.int .i16 c2.fAway), (.int .i16 c2.fOctave), (.int .i16 c2.fStep), (.slice (o_686.map fun b => ⟨b, 0, none⟩) hh_685.length cap_687), (.slice (o_1056.map fun b => ⟨b, 0, none⟩) xs_4.length cap_1057), (.int .i64 budget3), (.int .i64 0), (.bool false), (.slice ((none : Option Nat).map fun b => ⟨b, 0, none⟩) 0 0), (.int .i64 0)]⟩, ⟨some A_b, 34, [(.int .i16 f0.fSteps), (.slice C_a f0.fHammers.length C_c)]⟩]) (hh := 6) (o := (some b_1076)) (T := 144) (cs := row encGChoice ([] : List GChoice) []) (xs := ([] : List GChoice)) (by kernel_rfl) (fun e => nomatch e) [2, 0] (by kernel_rfl) (by kernel_rfl)) ht_1077) ?_))
      rintro w v w' hm ⟨o_1078, a_7, cap_1079, sp_1080, _, rfl, hl_1081, rfl, hm'⟩
      obtain ⟨o_1082, sp_1083, hl_1084, hM_1085⟩ := Mem.ls3 (T := 144) (enc := encGChoice) (o1 := (none : Option Nat)) (sp1 := []) (xs1 := ([] : List GChoice)) (o := o_1078) (sp := sp_1080) (xs := t_6.2.fbest) (F := []) (o2 := (some b_1076)) (sp2 := []) (xs2 := ([] : List GChoice)) (hm.appW (ps := [(2, ⟨some b_14, 185, [(.pointer (some ⟨A_b, 0, none⟩)), (.slice D_a t1.length D_c), (.int .i16 t_6.2.fc.fAway), (.int .i16 t_6.2.fc.fOctave), (.int .i16 t_6.2.fc.fStep), (.slice (o_686.map fun b => ⟨b, 0, none⟩) hh_685.length cap_687), (.slice (o_1056.map fun b => ⟨b, 0, none⟩) xs_4.length cap_1057), (.int .i64 t_6.2.fbudget), (.int .i64 t_6.2.flooks), (.bool t_6.2.ffound), (.slice a_7 t_6.2.fbest.length cap_1079), (.int .i64 t_6.2.fleast)]⟩), (0, ⟨some A_b, 34, [(.int .i16 f0.fSteps), (.slice C_a f0.fHammers.length C_c)]⟩)]) (N := [⟨o_1078, 144, row encGChoice t_6.2.fbest sp_1080⟩]) hm' (by kernel_rfl) (by kernel_rfl)) 7 6 8 (by kernel_rfl) (by kernel_rfl) (by kernel_rfl) (by kernel_rfl) (lsO (fun e => absurd rfl e) (fun _ => ⟨rfl, rfl⟩)) rfl (fun _ => ⟨Nat.le_refl _, by simp⟩) (fun e => nomatch e) rfl rfl hl_1081
      obtain ⟨rfl, hs_1086, ho_1087⟩ := hl_1084.own
      refine ⟨_, Mem.pick hM_1085 (N := [⟨some A_b, 34, [(.int .i16 f0.fSteps), (.slice C_a f0.fHammers.length C_c)]⟩, ⟨some b_1, 74, [(.int .i16 c2.fAway), (.int .i16 c2.fOctave), (.int .i16 c2.fStep)]⟩, ⟨some b_14, 185, [(.pointer (some ⟨A_b, 0, none⟩)), (.slice D_a t1.length D_c), (.int .i16 t_6.2.fc.fAway), (.int .i16 t_6.2.fc.fOctave), (.int .i16 t_6.2.fc.fStep), (.slice (o_686.map fun b => ⟨b, 0, none⟩) hh_685.length cap_687), (.slice (o_1056.map fun b => ⟨b, 0, none⟩) xs_4.length cap_1057), (.int .i64 t_6.2.fbudget), (.int .i64 t_6.2.flooks), (.bool t_6.2.ffound), (.slice (o_1082.map fun b => ⟨b, 0, none⟩) t_6.2.fbest.length cap_1079), (.int .i64 t_6.2.fleast)]⟩, ⟨o_686, 71, row encHd hh_685 sp_688⟩, ⟨none, CLU, cluC encGChoice hh_685 xt_684⟩, ⟨o_1056, 2, row encI64 xs_4 sp_1058⟩, ⟨none, 0, []⟩, ⟨o_1082, 144, row encGChoice t_6.2.fbest sp_1083⟩]) [0, 1, 2, 3, 4, 5, 6, 7] (by kernel_rfl) (by kernel_rfl), jkO ?_⟩
      clear hm hm' hM_1085
      refine qh [0] (qe (jx_then (qi h (fun h => ?_) (fun h => ?_))))
      ·refine jc_seq (jc_region (tO (qa 0 (fun b_1089 => jkO (qh [0,0,0] (qe (jx_then (jc_ret (jx_thenr ?_)))))))))
       obtain rfl := Option.some.inj h
       exact qr [] (fun w hm => ⟨(some b_1089), 0, [], 0, rfl, (fun _ => ⟨Nat.le_refl _, by simp⟩), (fun e => nomatch e), rfl, hm.pk [0, 8]⟩)
      ·refine jc_skip (jx_then (jc_seq (qg [⟨some A_b, 34, [(.int .i16 f0.fSteps), (.slice C_a f0.fHammers.length C_c)]⟩, ⟨some b_1, 74, [(.int .i16 c2.fAway), (.int .i16 c2.fOctave), (.int .i16 c2.fStep)]⟩, ⟨some b_14, 185, [(.pointer (some ⟨A_b, 0, none⟩)), (.slice D_a t1.length D_c), (.int .i16 t_6.2.fc.fAway), (.int .i16 t_6.2.fc.fOctave), (.int .i16 t_6.2.fc.fStep), (.slice (o_686.map fun b => ⟨b, 0, none⟩) hh_685.length cap_687), (.slice (o_1056.map fun b => ⟨b, 0, none⟩) xs_4.length cap_1057), (.int .i64 t_6.2.fbudget), (.int .i64 t_6.2.flooks), (.bool t_6.2.ffound), (.slice (o_1082.map fun b => ⟨b, 0, none⟩) t_6.2.fbest.length cap_1079), (.int .i64 t_6.2.fleast)]⟩, ⟨o_686, 71, row encHd hh_685 sp_688⟩, ⟨none, CLU, cluC encGChoice hh_685 xt_684⟩, ⟨o_1056, 2, row encI64 xs_4 sp_1058⟩, ⟨none, 0, []⟩, ⟨o_1082, 144, row encGChoice t_6.2.fbest sp_1083⟩] 11 (qd [⟨0, 0, 0⟩,⟨1, 0, 0⟩,⟨2, 0, 0⟩,⟨3, 2, 0⟩,⟨4, 0, 0⟩,⟨5, 0, 0⟩,⟨6, 0, 0⟩,⟨7, 2, 0⟩,⟨8, 0, 0⟩,⟨9, 0, 0⟩,⟨10, 0, 0⟩] 0 [0, 1, 2, 3, 4, 5, 6, 7] (qz (jx_then (jc_ret ?_)))))))
       obtain rfl := Option.some.inj h
       exact qr [] (fun w hm => ⟨o_1082, cap_1079, sp_1083, t_6.2.fbest.length, rfl, hs_1086, ho_1087, rfl, hm.pk [0, 7]⟩)
/-! ### impl.within -/
def impl_within (n0 : Int) (low1 : Int) (high2 : Int) : Option (Bool) := some ((decide (low1 ≤ n0)) && (decide (n0 ≤ high2)))
theorem impl_within.calls (n0 : Int) (low1 : Int) (high2 : Int) (w : World) (r : Bool) (h : impl_within n0 low1 high2 = some r) :
    Calls Try.prog 85 #[(.int .i64 n0), (.int .i64 low1), (.int .i64 high2)] w fun e w' => ∃ v, e = .returned v ∧ (v = (.bool r) ∧ Mem w [] [] w') := by
  rw [impl_within] at h
  refine enter (args := [(.int .i64 n0), (.int .i64 low1), (.int .i64 high2)]) Try.func85 rfl Try.ntmps85 (by kernel_rfl) (L := []) (W := []) (Mem.start w) ?_
  refine jc_seq (jc_region (qh [0] (qe (jx_then (jc_seq (jc_region (qf [(0, 0), (0, 0), (0, 0), (0, 0), (0, 1), (0, 1), (0, 1), (0, 0), (0, 0)] (qe (jx_then (jc_ret ?_))))))))))
  obtain rfl := Option.some.inj h
  exact qr [] (fun w hm => ⟨rfl, hm.pk []⟩)
/-! ### impl.size[impl.Hammer] -/
def impl_size_Hammer (list0 : List GHammer) : Option (Int) := some (list0.length : Int)
theorem impl_size_Hammer.calls (list0 : List GHammer) (w : World) (r : Int) {A_a : Option Addr} {A_an : Nat} (A_c : Nat) (A_h : Rw w A_a 2 encGHammer list0) (A_hn : list0.length = A_an) (h : impl_size_Hammer list0 = some r) :
    Calls Try.prog 69 #[(.slice A_a A_an A_c)] w fun e w' => ∃ v, e = .returned v ∧ (v = (.int .i64 r) ∧ Mem w [] [] w') := by
  subst A_hn
  rw [impl_size_Hammer] at h
  refine enter (args := [(.slice A_a list0.length A_c)]) Try.func69 rfl Try.ntmps69 (by kernel_rfl) (L := []) (W := []) (Mem.start w) ?_
  refine jc_seq (jc_region (qh [0] (qe (jx_then (jc_seq (jc_region (qh [0,0,0] (qe (jx_then (jc_ret ?_))))))))))
  obtain rfl := Option.some.inj h
  exact qr [] (fun w hm => ⟨rfl, hm.pk []⟩)
/-! ### impl.isPitch -/
def impl_isPitch (n0 : Int) : Option (Bool) := (impl_within n0 0 47).bind fun t_1 => some t_1
theorem impl_isPitch.calls (n0 : Int) (w : World) (r : Bool) (h : impl_isPitch n0 = some r) :
    Calls Try.prog 177 #[(.int .i64 n0)] w fun e w' => ∃ v, e = .returned v ∧ (v = (.bool r) ∧ Mem w [] [] w') := by
  rw [impl_isPitch] at h
  refine enter (args := [(.int .i64 n0)]) Try.func177 rfl Try.ntmps177 (by kernel_rfl) (L := []) (W := []) (Mem.start w) ?_
  refine jc_seq (jc_region (qh [0] (qe (jx_then (jc_seq (jc_region (qh [0] ?_)))))))
  obtain ⟨t_1, ht_1, h⟩ := bd h
  refine tO (pc 0 (fun w hm => impl_within.calls n0 0 47 w _ ht_1) ?_)
  rintro w v w' hm ⟨rfl, hm'⟩
  refine ⟨_, hm.app hm', jkO ?_⟩
  clear hm hm'
  refine qh [0] (qe (jx_then (jc_ret ?_)))
  obtain rfl := Option.some.inj h
  exact qr [] (fun w hm => ⟨rfl, hm.pk []⟩)
/-! ### impl.ValidFrame$1 -/
def impl_ValidFrame_1 (h0 : GHammer) (p1 : GFrame) : Option (Bool) := (impl_isPitch (w64 h0.fPitch)).bind fun t_1 => (if (!t_1) = true then some true else (impl_within (w64 h0.fReady) 1 (if (w64 p1.fSteps) < 20 then (w64 p1.fSteps) else 20)).bind fun t_2 => some (!t_2))
theorem impl_ValidFrame_1.calls (h0 : GHammer) (p1 : GFrame) (w : World) (r : Bool) {F_a : Option Addr} {F_an : Nat} (F_c : Nat) (F_h : Rw w F_a 2 encGHammer p1.fHammers) (F_hn : p1.fHammers.length = F_an) (D_b : Nat) (hm0 : Mem w (bs [some D_b]) [⟨some D_b, 34, [(.int .i16 p1.fSteps), (.slice F_a F_an F_c)]⟩] w) (F_ha : p1.fHammers ≠ [] → aB F_a ∉ bs [some D_b]) (h : impl_ValidFrame_1 h0 p1 = some r) :
    Calls Try.prog 176 #[(.agg #[(.int .i8 h0.fPitch), (.int .i8 h0.fReady)]), (.pointer (some ⟨D_b, 0, none⟩))] w fun e w' => ∃ v, e = .returned v ∧ (v = (.bool r) ∧ Mem w (bs [some D_b]) [⟨some D_b, 34, [(.int .i16 p1.fSteps), (.slice F_a F_an F_c)]⟩] w') := by
  subst F_hn
  rw [impl_ValidFrame_1] at h
  refine enter (args := [(.agg #[(.int .i8 h0.fPitch), (.int .i8 h0.fReady)]), (.pointer (some ⟨D_b, 0, none⟩))]) Try.func176 rfl Try.ntmps176 (by kernel_rfl) (L := [⟨some D_b, 34, [(.int .i16 p1.fSteps), (.slice F_a p1.fHammers.length F_c)]⟩]) (W := bs [some D_b]) hm0 ?_
  refine jc_seq (jc_region (tO (qa 0 (fun b_1 => jkO (qh [0] (qe (jx_then (jc_seq (jc_region (qh [0,1,0] ?_))))))))))
  obtain ⟨t_1, ht_2, h⟩ := bd h
  refine tO (pc 0 (fun w hm => impl_isPitch.calls (w64 h0.fPitch) w _ ht_2) ?_)
  rintro w v w' hm ⟨rfl, hm'⟩
  refine ⟨_, hm.app hm', jkO ?_⟩
  clear hm hm'
  refine qf [(0, 0), (0, 0), (0, 1), (1, 1), (0, 1), (0, 1), (0, 1), (0, 1), (0, 1)] (qp 9 h (fun h => ?_) (fun h => ?_))
  ·refine qf [(0, 3), (0, 3), (0, 4), (0, 0)] (qe (jx_then (jc_ret ?_)))
   obtain rfl := Option.some.inj h
   exact qr [] (fun w hm => ⟨rfl, hm.pk [0]⟩)
  ·obtain ⟨t_2, ht_4, h⟩ := bd h
   refine tO (pc 2 (fun w hm => impl_within.calls (w64 h0.fReady) 1 (if (w64 p1.fSteps) < 20 then (w64 p1.fSteps) else 20) w _ ht_4) ?_)
   rintro w v w' hm ⟨rfl, hm'⟩
   refine ⟨_, hm.app hm', jkO ?_⟩
   clear hm hm'
   refine qf [(0, 2), (0, 5), (0, 0)] (qe (jx_then (jc_ret ?_)))
   obtain rfl := Option.some.inj h
   exact qr [] (fun w hm => ⟨rfl, hm.pk [0]⟩)
/-! ### slices.IndexFunc[[]impl.Hammer,impl.Hammer] -/
def slices_IndexFunc_Hammer_at_impl_ValidFrame_1.k_1 : Option (Int) := some (-1)
def slices_IndexFunc_Hammer_at_impl_ValidFrame_1.l_3 (s0 : List GHammer) (g1c0 : GFrame) : Int → Option ((Int) ⊕ (Int ⊕ Unit))
  | i_2 => (if (decide (i_2 < (s0.length : Int))) = true then (ix s0 i_2).bind fun x_5 => (impl_ValidFrame_1 x_5 g1c0).bind fun t_6 => (if t_6 = true then some (.inr (.inl i_2)) else some (.inl (w64 (i_2 + 1)))) else some (.inr (.inr ())))
def slices_IndexFunc_Hammer_at_impl_ValidFrame_1 (s0 : List GHammer) (g1c0 : GFrame) : Option (Int) := (loop (slices_IndexFunc_Hammer_at_impl_ValidFrame_1.l_3 s0 g1c0) 0).bind fun t_4 => match t_4 with | .inl p => some p | .inr p => slices_IndexFunc_Hammer_at_impl_ValidFrame_1.k_1
theorem slices_IndexFunc_Hammer_at_impl_ValidFrame_1.calls (s0 : List GHammer) (g1c0 : GFrame) (w : World) (r : Int) {A_a : Option Addr} {A_an : Nat} (A_c : Nat) (A_h : Rw w A_a 2 encGHammer s0) (A_hn : s0.length = A_an) {D_a : Option Addr} {D_an : Nat} (D_c : Nat) (D_h : Rw w D_a 2 encGHammer g1c0.fHammers) (D_hn : g1c0.fHammers.length = D_an) (B_b : Nat) (hm0 : Mem w (bs [some B_b]) [⟨some B_b, 34, [(.int .i16 g1c0.fSteps), (.slice D_a D_an D_c)]⟩] w) (A_ha : s0 ≠ [] → aB A_a ∉ bs [some B_b]) (D_ha : g1c0.fHammers ≠ [] → aB D_a ∉ bs [some B_b]) (h : slices_IndexFunc_Hammer_at_impl_ValidFrame_1 s0 g1c0 = some r) :
    Calls Try.prog 193 #[(.slice A_a A_an A_c), (.func (.func 176) #[] #[(.pointer (some ⟨B_b, 0, none⟩))])] w fun e w' => ∃ v, e = .returned v ∧ (v = (.int .i64 r) ∧ Mem w (bs [some B_b]) [⟨some B_b, 34, [(.int .i16 g1c0.fSteps), (.slice D_a D_an D_c)]⟩] w') := by
  subst A_hn D_hn
  rw [slices_IndexFunc_Hammer_at_impl_ValidFrame_1] at h
  refine enter (args := [(.slice A_a s0.length A_c), (.func (.func 176) #[] #[(.pointer (some ⟨B_b, 0, none⟩))])]) Try.func193 rfl Try.ntmps193 (by kernel_rfl) (L := [⟨some B_b, 34, [(.int .i16 g1c0.fSteps), (.slice D_a g1c0.fHammers.length D_c)]⟩]) (W := bs [some B_b]) hm0 ?_
  refine jc_seq (jc_region (qh [0] (qe (jx_then (jc_seq (jc_seq (jc_region (qh [0,0,0] (qe (jx_then (jc_meet (fun (_ : Unit) => slices_IndexFunc_Hammer_at_impl_ValidFrame_1.k_1 = some r) (fun (_ : Unit) => [(4, [], (.int .i64 0))]) (fun (_ : Unit) => [⟨some B_b, 34, [(.int .i16 g1c0.fSteps), (.slice D_a g1c0.fHammers.length D_c)]⟩]) ?_ ?_)))))))))))
  ·refine jc_block ?_
   obtain ⟨t_4, ht_40, hr_31⟩ := bd h
   refine jc_loop (fun (s : Int) (x : Unit) => match s, x with | i_2, _ => True) (fun (s : Int) (x : Unit) => match s, x with | i_2, _ => [(0, [], (.slice A_a s0.length A_c)), (1, [], (.func (.func 176) #[] #[(.pointer (some ⟨B_b, 0, none⟩))])), (4, [], (.int .i64 0)), (7, [], (.int .i64 (s0.length : Int))), (8, [], (.int .i64 i_2))]) (fun (s : Int) (x : Unit) => match s, x with | i_2, _ => [⟨some B_b, 34, [(.int .i16 g1c0.fSteps), (.slice D_a g1c0.fHammers.length D_c)]⟩]) ht_40 () trivial (by kernel_rfl) [0] (by kernel_rfl) (by kernel_rfl) ?_
   rintro i_2 _ y_32 _ h
   rw [slices_IndexFunc_Hammer_at_impl_ValidFrame_1.l_3] at h
   refine jc_seq (jc_region (qh [0] (qe (jx_then (jc_seq (qi h (fun h => ?_) (fun h => ?_)))))))
   ·refine jc_skip (jx_then (jc_seq (jc_block (jc_seq (jc_region (qh [0,0] (qe (jx_then (jc_seq (jc_region (qh [0,0,0] ?_)))))))))))
    obtain ⟨x_5, hx_35, h⟩ := bd h
    refine tO (qx 0 A_a 2 hx_35 rfl (A_h.sp hx_35) (jkO (tO (ql 0 true (fun w hm => ((hm.exRowW A_h A_ha).at hx_35)) (jkO ?_)))))
    obtain ⟨t_6, ht_36, h⟩ := bd h
    refine tO (pc 0 (fun w hm => impl_ValidFrame_1.calls x_5 g1c0 w _ D_c (hm.exRowW D_h D_ha) rfl B_b (hm.pass (N := [⟨some B_b, 34, [(.int .i16 g1c0.fSteps), (.slice D_a g1c0.fHammers.length D_c)]⟩]) [0] (by kernel_rfl) (by kernel_rfl)) (hm.exApart (N := [⟨some B_b, 34, [(.int .i16 g1c0.fSteps), (.slice D_a g1c0.fHammers.length D_c)]⟩]) D_h D_ha [0] (by kernel_rfl)) ht_36) ?_)
    rintro w v w' hm ⟨rfl, hm'⟩
    refine ⟨_, hm.appW (ps := [(0, ⟨some B_b, 34, [(.int .i16 g1c0.fSteps), (.slice D_a g1c0.fHammers.length D_c)]⟩)]) (N := []) hm' (by kernel_rfl) (by kernel_rfl), jkO ?_⟩
    clear hm hm'
    refine qe (jx_then (qi h (fun h => ?_) (fun h => ?_)))
    ·refine jc_seq (jc_region (qh [0,0] (qe (jx_then (jc_ret (jx_inr (jx_thenr (jx_leaver (.inl i_2) (Option.some.inj h).symm (fun e_38 => ?_)))))))))
     subst e_38
     refine jx_inr (jx_thenr (jx_thenr ?_))
     obtain rfl := Option.some.inj hr_31
     exact qr [] (fun w hm => ⟨rfl, hm.pk [0]⟩)
    ·exact jc_skip (jx_inn (jx_then (jc_region (qh [0,0] (qe (qb (w64 (i_2 + 1)) () h trivial [0]))))))
   ·refine jc_exit (jx_thenx (jx_leave (.inr ()) (Option.some.inj h).symm (fun e_39 => ?_)))
    subst e_39
    exact jx_ine (qm () hr_31 [0])
  ·rintro _ h
   replace h : slices_IndexFunc_Hammer_at_impl_ValidFrame_1.k_1 = some r := h
   rw [slices_IndexFunc_Hammer_at_impl_ValidFrame_1.k_1] at h
   refine jx_then (jc_seq (jc_region (qh [0] (qe (jx_then (jc_ret ?_))))))
   obtain rfl := Option.some.inj h
   exact qr [] (fun w hm => ⟨rfl, hm.pk [0]⟩)
/-! ### slices.ContainsFunc[[]impl.Hammer,impl.Hammer] -/
def slices_ContainsFunc_Hammer_at_impl_ValidFrame_1 (s0 : List GHammer) (g1c0 : GFrame) : Option (Bool) := (slices_IndexFunc_Hammer_at_impl_ValidFrame_1 s0 g1c0).bind fun t_1 => some (decide (t_1 ≥ 0))
theorem slices_ContainsFunc_Hammer_at_impl_ValidFrame_1.calls (s0 : List GHammer) (g1c0 : GFrame) (w : World) (r : Bool) {A_a : Option Addr} {A_an : Nat} (A_c : Nat) (A_h : Rw w A_a 2 encGHammer s0) (A_hn : s0.length = A_an) {D_a : Option Addr} {D_an : Nat} (D_c : Nat) (D_h : Rw w D_a 2 encGHammer g1c0.fHammers) (D_hn : g1c0.fHammers.length = D_an) (B_b : Nat) (hm0 : Mem w (bs [some B_b]) [⟨some B_b, 34, [(.int .i16 g1c0.fSteps), (.slice D_a D_an D_c)]⟩] w) (A_ha : s0 ≠ [] → aB A_a ∉ bs [some B_b]) (D_ha : g1c0.fHammers ≠ [] → aB D_a ∉ bs [some B_b]) (h : slices_ContainsFunc_Hammer_at_impl_ValidFrame_1 s0 g1c0 = some r) :
    Calls Try.prog 175 #[(.slice A_a A_an A_c), (.func (.func 176) #[] #[(.pointer (some ⟨B_b, 0, none⟩))])] w fun e w' => ∃ v, e = .returned v ∧ (v = (.bool r) ∧ Mem w (bs [some B_b]) [⟨some B_b, 34, [(.int .i16 g1c0.fSteps), (.slice D_a D_an D_c)]⟩] w') := by
  subst A_hn D_hn
  rw [slices_ContainsFunc_Hammer_at_impl_ValidFrame_1] at h
  refine enter (args := [(.slice A_a s0.length A_c), (.func (.func 176) #[] #[(.pointer (some ⟨B_b, 0, none⟩))])]) Try.func175 rfl Try.ntmps175 (by kernel_rfl) (L := [⟨some B_b, 34, [(.int .i16 g1c0.fSteps), (.slice D_a g1c0.fHammers.length D_c)]⟩]) (W := bs [some B_b]) hm0 ?_
  refine jc_seq (jc_region (qh [0] (qe (jx_then (jc_seq (jc_region (qh [0,0] ?_)))))))
  obtain ⟨t_1, ht_1, h⟩ := bd h
  refine tO (pc 0 (fun w hm => slices_IndexFunc_Hammer_at_impl_ValidFrame_1.calls s0 g1c0 w _ A_c (hm.exRowW A_h A_ha) rfl D_c (hm.exRowW D_h D_ha) rfl B_b (hm.pass (N := [⟨some B_b, 34, [(.int .i16 g1c0.fSteps), (.slice D_a g1c0.fHammers.length D_c)]⟩]) [0] (by kernel_rfl) (by kernel_rfl)) (hm.exApart (N := [⟨some B_b, 34, [(.int .i16 g1c0.fSteps), (.slice D_a g1c0.fHammers.length D_c)]⟩]) A_h A_ha [0] (by kernel_rfl)) (hm.exApart (N := [⟨some B_b, 34, [(.int .i16 g1c0.fSteps), (.slice D_a g1c0.fHammers.length D_c)]⟩]) D_h D_ha [0] (by kernel_rfl)) ht_1) ?_)
  rintro w v w' hm ⟨rfl, hm'⟩
  refine ⟨_, hm.appW (ps := [(0, ⟨some B_b, 34, [(.int .i16 g1c0.fSteps), (.slice D_a g1c0.fHammers.length D_c)]⟩)]) (N := []) hm' (by kernel_rfl) (by kernel_rfl), jkO ?_⟩
  clear hm hm'
  refine qh [0,0] (qe (jx_then (jc_ret ?_)))
  obtain rfl := Option.some.inj h
  exact qr [] (fun w hm => ⟨rfl, hm.pk [0]⟩)
/-! ### impl.ValidFrame -/
def impl_ValidFrame (f0 : GFrame) : Option (Bool) := (impl_within (w64 f0.fSteps) 2 96).bind fun t_1 => (if t_1 = true then (impl_size_Hammer f0.fHammers).bind fun t_2 => (impl_within t_2 1 24).bind fun t_3 => (if t_3 = true then (slices_ContainsFunc_Hammer_at_impl_ValidFrame_1 f0.fHammers f0).bind fun t_4 => some (!t_4) else some false) else some false)
theorem impl_ValidFrame.calls (f0 : GFrame) (w : World) (r : Bool) {C_a : Option Addr} {C_an : Nat} (C_c : Nat) (C_h : Rw w C_a 2 encGHammer f0.fHammers) (C_hn : f0.fHammers.length = C_an) (h : impl_ValidFrame f0 = some r) :
    Calls Try.prog 151 #[(.agg #[(.int .i16 f0.fSteps), (.slice C_a C_an C_c)])] w fun e w' => ∃ v, e = .returned v ∧ (v = (.bool r) ∧ Mem w [] [] w') := by
  subst C_hn
  rw [impl_ValidFrame] at h
  refine enter (args := [(.agg #[(.int .i16 f0.fSteps), (.slice C_a f0.fHammers.length C_c)])]) Try.func151 rfl Try.ntmps151 (by kernel_rfl) (L := []) (W := []) (Mem.start w) ?_
  refine jc_seq (jc_region (tO (qa 0 (fun b_1 => jkO (qh [0] (qe (jx_then (jc_seq (jc_region (qh [0,0,0] ?_))))))))))
  obtain ⟨t_1, ht_2, h⟩ := bd h
  refine tO (pc 0 (fun w hm => impl_within.calls (w64 f0.fSteps) 2 96 w _ ht_2) ?_)
  rintro w v w' hm ⟨rfl, hm'⟩
  refine ⟨_, hm.app hm', jkO ?_⟩
  clear hm hm'
  refine qf [(0, 0), (0, 1), (0, 1)] (qp 7 h (fun h => ?_) (fun h => ?_))
  ·obtain ⟨t_2, ht_4, h⟩ := bd h
   refine tO (pc 2 (fun w hm => impl_size_Hammer.calls f0.fHammers w _ C_c (hm.xr C_h) rfl ht_4) ?_)
   rintro w v w' hm ⟨rfl, hm'⟩
   refine ⟨_, hm.app hm', jkO ?_⟩
   clear hm hm'
   obtain ⟨t_3, ht_5, h⟩ := bd h
   refine tO (pc 2 (fun w hm => impl_within.calls t_2 1 24 w _ ht_5) ?_)
   rintro w v w' hm ⟨rfl, hm'⟩
   refine ⟨_, hm.app hm', jkO ?_⟩
   clear hm hm'
   refine qf [(0, 4), (0, 0), (0, 1), (0, 1), (0, 1)] (qp 13 h (fun h => ?_) (fun h => ?_))
   ·obtain ⟨t_4, ht_7, h⟩ := bd h
    refine tO (pc 2 (fun w hm => slices_ContainsFunc_Hammer_at_impl_ValidFrame_1.calls f0.fHammers f0 w _ C_c (hm.xr C_h) rfl C_c (hm.xr C_h) rfl b_1 (hm.pass (N := [⟨some b_1, 34, [(.int .i16 f0.fSteps), (.slice C_a f0.fHammers.length C_c)]⟩]) [0] (by kernel_rfl) (by kernel_rfl)) (hm.exApart (N := [⟨some b_1, 34, [(.int .i16 f0.fSteps), (.slice C_a f0.fHammers.length C_c)]⟩]) C_h (fun _ => List.not_mem_nil) [0] (by kernel_rfl)) (hm.exApart (N := [⟨some b_1, 34, [(.int .i16 f0.fSteps), (.slice C_a f0.fHammers.length C_c)]⟩]) C_h (fun _ => List.not_mem_nil) [0] (by kernel_rfl)) ht_7) ?_)
    rintro w v w' hm ⟨rfl, hm'⟩
    refine ⟨_, hm.appW (ps := [(0, ⟨some b_1, 34, [(.int .i16 f0.fSteps), (.slice C_a f0.fHammers.length C_c)]⟩)]) (N := []) hm' (by kernel_rfl) (by kernel_rfl), jkO ?_⟩
    clear hm hm'
    refine qf [(0, 2), (0, 4), (0, 0)] (qe (jx_then (jc_ret ?_)))
    obtain rfl := Option.some.inj h
    exact qr [] (fun w hm => ⟨rfl, hm.pk []⟩)
   ·refine qf [(0, 3), (0, 3), (0, 5), (0, 0)] (qe (jx_then (jc_ret ?_)))
    obtain rfl := Option.some.inj h
    exact qr [] (fun w hm => ⟨rfl, hm.pk []⟩)
  ·refine qf [(0, 3), (0, 3), (0, 5), (0, 0), (0, 3), (0, 3), (0, 3), (0, 3), (0, 3), (0, 5), (0, 0)] (qe (jx_then (jc_ret ?_)))
   obtain rfl := Option.some.inj h
   exact qr [] (fun w hm => ⟨rfl, hm.pk []⟩)
/-! ### impl.unless -/
def impl_unless (is0 : Bool) (code1 : Int) : Option (Int) := (if is0 = true then some 0 else some code1)
theorem impl_unless.calls (is0 : Bool) (code1 : Int) (w : World) (r : Int) (h : impl_unless is0 code1 = some r) :
    Calls Try.prog 94 #[(.bool is0), (.int .i64 code1)] w fun e w' => ∃ v, e = .returned v ∧ (v = (.int .i64 r) ∧ Mem w [] [] w') := by
  rw [impl_unless] at h
  refine enter (args := [(.bool is0), (.int .i64 code1)]) Try.func94 rfl Try.ntmps94 (by kernel_rfl) (L := []) (W := []) (Mem.start w) ?_
  refine jc_seq (jc_region (qh [0] (qe (jx_then (jc_seq (jc_seq (jc_region (qh [0] (qe (jx_then (qi h (fun h => ?_) (fun h => ?_))))))))))))
  ·refine jc_seq (jc_region (qh [0] (qe (jx_then (jc_ret (jx_thenr ?_))))))
   obtain rfl := Option.some.inj h
   exact qr [] (fun w hm => ⟨rfl, hm.pk []⟩)
  ·refine jc_skip (jx_then (jc_seq (jc_region (qh [0,0] (qe (jx_then (jc_ret ?_)))))))
   obtain rfl := Option.some.inj h
   exact qr [] (fun w hm => ⟨rfl, hm.pk []⟩)
/-! ### impl.isNote -/
def impl_isNote (n0 : GNote) : Option (Bool) := (impl_within (w64 n0.fAt) 0 199).bind fun t_1 => (if t_1 = true then (impl_isPitch (w64 n0.fPitch)).bind fun t_2 => some t_2 else some false)
theorem impl_isNote.calls (n0 : GNote) (w : World) (r : Bool) (h : impl_isNote n0 = some r) :
    Calls Try.prog 180 #[(.agg #[(.int .i16 n0.fAt), (.int .i8 n0.fPitch)])] w fun e w' => ∃ v, e = .returned v ∧ (v = (.bool r) ∧ Mem w [] [] w') := by
  rw [impl_isNote] at h
  refine enter (args := [(.agg #[(.int .i16 n0.fAt), (.int .i8 n0.fPitch)])]) Try.func180 rfl Try.ntmps180 (by kernel_rfl) (L := []) (W := []) (Mem.start w) ?_
  refine jc_seq (jc_region (tO (qa 0 (fun b_1 => jkO (qh [0] (qe (jx_then (jc_seq (jc_region (qh [0,0,0] ?_))))))))))
  obtain ⟨t_1, ht_2, h⟩ := bd h
  refine tO (pc 0 (fun w hm => impl_within.calls (w64 n0.fAt) 0 199 w _ ht_2) ?_)
  rintro w v w' hm ⟨rfl, hm'⟩
  refine ⟨_, hm.app hm', jkO ?_⟩
  clear hm hm'
  refine qf [(0, 0), (0, 1), (0, 1), (0, 1)] (qp 7 h (fun h => ?_) (fun h => ?_))
  ·obtain ⟨t_2, ht_4, h⟩ := bd h
   refine tO (pc 2 (fun w hm => impl_isPitch.calls (w64 n0.fPitch) w _ ht_4) ?_)
   rintro w v w' hm ⟨rfl, hm'⟩
   refine ⟨_, hm.app hm', jkO ?_⟩
   clear hm hm'
   refine qf [(0, 4), (0, 0)] (qe (jx_then (jc_ret ?_)))
   obtain rfl := Option.some.inj h
   exact qr [] (fun w hm => ⟨rfl, hm.pk []⟩)
  ·refine qf [(0, 3), (0, 5), (0, 0)] (qe (jx_then (jc_ret ?_)))
   obtain rfl := Option.some.inj h
   exact qr [] (fun w hm => ⟨rfl, hm.pk []⟩)
/-! ### cmp.isNaN[int16] -/
def cmp_isNaN_int16 (x0 : Int) : Option (Bool) := some (x0 != x0)
theorem cmp_isNaN_int16.calls (x0 : Int) (w : World) (r : Bool) (h : cmp_isNaN_int16 x0 = some r) :
    Calls Try.prog 200 #[(.int .i16 x0)] w fun e w' => ∃ v, e = .returned v ∧ (v = (.bool r) ∧ Mem w [] [] w') := by
  rw [cmp_isNaN_int16] at h
  refine enter (args := [(.int .i16 x0)]) Try.func200 rfl Try.ntmps200 (by kernel_rfl) (L := []) (W := []) (Mem.start w) ?_
  refine jc_seq (jc_region (qh [0] (qe (jx_then (jc_seq (jc_region (qh [0,0,0,0] (qe (jx_then (jc_ret ?_))))))))))
  obtain rfl := Option.some.inj h
  exact qr [] (fun w hm => ⟨rfl, hm.pk []⟩)
/-! ### cmp.Compare[int16] -/
def cmp_Compare_int16 (x0 : Int) (y1 : Int) : Option (Int) := (cmp_isNaN_int16 x0).bind fun t_1 => (cmp_isNaN_int16 y1).bind fun t_2 => (if t_1 = true then (if t_2 = true then some 0 else some (-1)) else (if t_2 = true then some 1 else (if (decide (x0 < y1)) = true then some (-1) else (if (decide (x0 > y1)) = true then some 1 else some 0))))
theorem cmp_Compare_int16.calls (x0 : Int) (y1 : Int) (w : World) (r : Int) (h : cmp_Compare_int16 x0 y1 = some r) :
    Calls Try.prog 195 #[(.int .i16 x0), (.int .i16 y1)] w fun e w' => ∃ v, e = .returned v ∧ (v = (.int .i64 r) ∧ Mem w [] [] w') := by
  rw [cmp_Compare_int16] at h
  refine enter (args := [(.int .i16 x0), (.int .i16 y1)]) Try.func195 rfl Try.ntmps195 (by kernel_rfl) (L := []) (W := []) (Mem.start w) ?_
  refine jc_seq (jc_region (qh [0] (qe (jx_then (jc_seq (jc_region (qh [0] ?_)))))))
  obtain ⟨t_1, ht_1, h⟩ := bd h
  refine tO (pc 0 (fun w hm => cmp_isNaN_int16.calls x0 w _ ht_1) ?_)
  rintro w v w' hm ⟨rfl, hm'⟩
  refine ⟨_, hm.app hm', jkO ?_⟩
  clear hm hm'
  refine qh [0] (qe (jx_then (jc_seq (jc_region (qh [0] ?_)))))
  obtain ⟨t_2, ht_2, h⟩ := bd h
  refine tO (pc 0 (fun w hm => cmp_isNaN_int16.calls y1 w _ ht_2) ?_)
  rintro w v w' hm ⟨rfl, hm'⟩
  refine ⟨_, hm.app hm', jkO ?_⟩
  clear hm hm'
  refine qh [0] (qe (jx_then (jc_seq (jc_seq (jc_region (qh [0] (qe (jx_then (qi h (fun h => ?_) (fun h => ?_))))))))))
  ·refine jc_seq (jc_seq (jc_region (qh [0] (qe (jx_then (qi h (fun h => ?_) (fun h => ?_)))))))
   ·refine jc_seq (jc_region (qh [0] (qe (jx_then (jc_ret (jx_thenr (jx_thenr ?_)))))))
    obtain rfl := Option.some.inj h
    exact qr [] (fun w hm => ⟨rfl, hm.pk []⟩)
   ·refine jc_skip (jx_then (jc_seq (jc_region (qh [0] (qe (jx_then (jc_ret (jx_thenr ?_))))))))
    obtain rfl := Option.some.inj h
    exact qr [] (fun w hm => ⟨rfl, hm.pk []⟩)
  ·refine jc_skip (jx_then (jc_seq (jc_seq (jc_region (qh [0] (qe (jx_then (qi h (fun h => ?_) (fun h => ?_)))))))))
   ·refine jc_seq (jc_region (qh [0] (qe (jx_then (jc_ret (jx_thenr ?_))))))
    obtain rfl := Option.some.inj h
    exact qr [] (fun w hm => ⟨rfl, hm.pk []⟩)
   ·refine jc_skip (jx_then (jc_seq (jc_seq (jc_region (qh [0,0,0] (qe (jx_then (qi h (fun h => ?_) (fun h => ?_)))))))))
    ·refine jc_seq (jc_region (qh [0] (qe (jx_then (jc_ret (jx_thenr ?_))))))
     obtain rfl := Option.some.inj h
     exact qr [] (fun w hm => ⟨rfl, hm.pk []⟩)
    ·refine jc_skip (jx_then (jc_seq (jc_seq (jc_region (qh [0,0,0] (qe (jx_then (qi h (fun h => ?_) (fun h => ?_)))))))))
     ·refine jc_seq (jc_region (qh [0] (qe (jx_then (jc_ret (jx_thenr ?_))))))
      obtain rfl := Option.some.inj h
      exact qr [] (fun w hm => ⟨rfl, hm.pk []⟩)
     ·refine jc_skip (jx_then (jc_seq (jc_region (qh [0] (qe (jx_then (jc_ret ?_)))))))
      obtain rfl := Option.some.inj h
      exact qr [] (fun w hm => ⟨rfl, hm.pk []⟩)
/-! ### cmp.isNaN[int8] -/
def cmp_isNaN_int8 (x0 : Int) : Option (Bool) := some (x0 != x0)
theorem cmp_isNaN_int8.calls (x0 : Int) (w : World) (r : Bool) (h : cmp_isNaN_int8 x0 = some r) :
    Calls Try.prog 201 #[(.int .i8 x0)] w fun e w' => ∃ v, e = .returned v ∧ (v = (.bool r) ∧ Mem w [] [] w') := by
  rw [cmp_isNaN_int8] at h
  refine enter (args := [(.int .i8 x0)]) Try.func201 rfl Try.ntmps201 (by kernel_rfl) (L := []) (W := []) (Mem.start w) ?_
  refine jc_seq (jc_region (qh [0] (qe (jx_then (jc_seq (jc_region (qh [0,0,0,0] (qe (jx_then (jc_ret ?_))))))))))
  obtain rfl := Option.some.inj h
  exact qr [] (fun w hm => ⟨rfl, hm.pk []⟩)
/-! ### cmp.Compare[int8] -/
def cmp_Compare_int8 (x0 : Int) (y1 : Int) : Option (Int) := (cmp_isNaN_int8 x0).bind fun t_1 => (cmp_isNaN_int8 y1).bind fun t_2 => (if t_1 = true then (if t_2 = true then some 0 else some (-1)) else (if t_2 = true then some 1 else (if (decide (x0 < y1)) = true then some (-1) else (if (decide (x0 > y1)) = true then some 1 else some 0))))
theorem cmp_Compare_int8.calls (x0 : Int) (y1 : Int) (w : World) (r : Int) (h : cmp_Compare_int8 x0 y1 = some r) :
    Calls Try.prog 196 #[(.int .i8 x0), (.int .i8 y1)] w fun e w' => ∃ v, e = .returned v ∧ (v = (.int .i64 r) ∧ Mem w [] [] w') := by
  rw [cmp_Compare_int8] at h
  refine enter (args := [(.int .i8 x0), (.int .i8 y1)]) Try.func196 rfl Try.ntmps196 (by kernel_rfl) (L := []) (W := []) (Mem.start w) ?_
  refine jc_seq (jc_region (qh [0] (qe (jx_then (jc_seq (jc_region (qh [0] ?_)))))))
  obtain ⟨t_1, ht_1, h⟩ := bd h
  refine tO (pc 0 (fun w hm => cmp_isNaN_int8.calls x0 w _ ht_1) ?_)
  rintro w v w' hm ⟨rfl, hm'⟩
  refine ⟨_, hm.app hm', jkO ?_⟩
  clear hm hm'
  refine qh [0] (qe (jx_then (jc_seq (jc_region (qh [0] ?_)))))
  obtain ⟨t_2, ht_2, h⟩ := bd h
  refine tO (pc 0 (fun w hm => cmp_isNaN_int8.calls y1 w _ ht_2) ?_)
  rintro w v w' hm ⟨rfl, hm'⟩
  refine ⟨_, hm.app hm', jkO ?_⟩
  clear hm hm'
  refine qh [0] (qe (jx_then (jc_seq (jc_seq (jc_region (qh [0] (qe (jx_then (qi h (fun h => ?_) (fun h => ?_))))))))))
  ·refine jc_seq (jc_seq (jc_region (qh [0] (qe (jx_then (qi h (fun h => ?_) (fun h => ?_)))))))
   ·refine jc_seq (jc_region (qh [0] (qe (jx_then (jc_ret (jx_thenr (jx_thenr ?_)))))))
    obtain rfl := Option.some.inj h
    exact qr [] (fun w hm => ⟨rfl, hm.pk []⟩)
   ·refine jc_skip (jx_then (jc_seq (jc_region (qh [0] (qe (jx_then (jc_ret (jx_thenr ?_))))))))
    obtain rfl := Option.some.inj h
    exact qr [] (fun w hm => ⟨rfl, hm.pk []⟩)
  ·refine jc_skip (jx_then (jc_seq (jc_seq (jc_region (qh [0] (qe (jx_then (qi h (fun h => ?_) (fun h => ?_)))))))))
   ·refine jc_seq (jc_region (qh [0] (qe (jx_then (jc_ret (jx_thenr ?_))))))
    obtain rfl := Option.some.inj h
    exact qr [] (fun w hm => ⟨rfl, hm.pk []⟩)
   ·refine jc_skip (jx_then (jc_seq (jc_seq (jc_region (qh [0,0,0] (qe (jx_then (qi h (fun h => ?_) (fun h => ?_)))))))))
    ·refine jc_seq (jc_region (qh [0] (qe (jx_then (jc_ret (jx_thenr ?_))))))
     obtain rfl := Option.some.inj h
     exact qr [] (fun w hm => ⟨rfl, hm.pk []⟩)
    ·refine jc_skip (jx_then (jc_seq (jc_seq (jc_region (qh [0,0,0] (qe (jx_then (qi h (fun h => ?_) (fun h => ?_)))))))))
     ·refine jc_seq (jc_region (qh [0] (qe (jx_then (jc_ret (jx_thenr ?_))))))
      obtain rfl := Option.some.inj h
      exact qr [] (fun w hm => ⟨rfl, hm.pk []⟩)
     ·refine jc_skip (jx_then (jc_seq (jc_region (qh [0] (qe (jx_then (jc_ret ?_)))))))
      obtain rfl := Option.some.inj h
      exact qr [] (fun w hm => ⟨rfl, hm.pk []⟩)
/-! ### cmp.Or[int] -/
def cmp_Or_int.k_1 : Option (Int) := some 0
def cmp_Or_int.l_3 (vals0 : List Int) : Int → Option ((Int) ⊕ (Int ⊕ Unit))
  | i_2 => (if (decide (i_2 < (vals0.length : Int))) = true then (ix vals0 i_2).bind fun x_5 => (if (x_5 != 0) = true then some (.inr (.inl x_5)) else some (.inl (w64 (i_2 + 1)))) else some (.inr (.inr ())))
def cmp_Or_int (vals0 : List Int) : Option (Int) := (loop (cmp_Or_int.l_3 vals0) 0).bind fun t_4 => match t_4 with | .inl p => some p | .inr p => cmp_Or_int.k_1
theorem cmp_Or_int.calls (vals0 : List Int) (w : World) (r : Int) {A_a : Option Addr} {A_an : Nat} (A_c : Nat) (A_h : Rw w A_a 1 encI64 vals0) (A_hn : vals0.length = A_an) (h : cmp_Or_int vals0 = some r) :
    Calls Try.prog 194 #[(.slice A_a A_an A_c)] w fun e w' => ∃ v, e = .returned v ∧ (v = (.int .i64 r) ∧ Mem w [] [] w') := by
  subst A_hn
  rw [cmp_Or_int] at h
  refine enter (args := [(.slice A_a vals0.length A_c)]) Try.func194 rfl Try.ntmps194 (by kernel_rfl) (L := []) (W := []) (Mem.start w) ?_
  refine jc_seq (jc_region (qh [0] (qe (jx_then (jc_seq (jc_region (qh [0] (qe (jx_then (jc_seq (jc_seq (jc_region (qh [0,0,0] (qe (jx_then (jc_meet (fun (_ : Unit) => cmp_Or_int.k_1 = some r) (fun (_ : Unit) => [(2, [], (.int .i64 0)), (3, [], (.int .i64 0))]) (fun (_ : Unit) => []) ?_ ?_))))))))))))))))
  ·refine jc_block ?_
   obtain ⟨t_4, ht_68, hr_60⟩ := bd h
   refine jc_loop (fun (s : Int) (x : Unit) => match s, x with | i_2, _ => True) (fun (s : Int) (x : Unit) => match s, x with | i_2, _ => [(2, [], (.int .i64 0)), (3, [], (.int .i64 0)), (6, [], (.slice A_a vals0.length A_c)), (7, [], (.int .i64 (vals0.length : Int))), (8, [], (.int .i64 i_2))]) (fun (s : Int) (x : Unit) => match s, x with | i_2, _ => []) ht_68 () trivial (by kernel_rfl) [] (by kernel_rfl) (by kernel_rfl) ?_
   rintro i_2 _ y_61 _ h
   rw [cmp_Or_int.l_3] at h
   refine jc_seq (jc_region (qh [0] (qe (jx_then (jc_seq (qi h (fun h => ?_) (fun h => ?_)))))))
   ·refine jc_skip (jx_then (jc_seq (jc_block (jc_seq (jc_region ?_)))))
    obtain ⟨x_5, hx_64, h⟩ := bd h
    refine tO (qx 0 A_a 1 hx_64 rfl (A_h.sp hx_64) (jkO (tO (ql 0 false (fun w hm => ((hm.xr A_h).at hx_64)) (jkO (qh [0] (qe (jx_then (jc_seq (jc_region (qh [0,0,0] (qe (jx_then (qi h (fun h => ?_) (fun h => ?_)))))))))))))))
    ·refine jc_seq (jc_region (qh [0,0] (qe (jx_then (jc_ret (jx_inr (jx_thenr (jx_leaver (.inl x_5) (Option.some.inj h).symm (fun e_66 => ?_)))))))))
     subst e_66
     refine jx_inr (jx_thenr (jx_thenr ?_))
     obtain rfl := Option.some.inj hr_60
     exact qr [] (fun w hm => ⟨rfl, hm.pk []⟩)
    ·exact jc_skip (jx_inn (jx_then (jc_region (qh [0,0] (qe (qb (w64 (i_2 + 1)) () h trivial []))))))
   ·refine jc_exit (jx_thenx (jx_leave (.inr ()) (Option.some.inj h).symm (fun e_67 => ?_)))
    subst e_67
    exact jx_ine (qm () hr_60 [])
  ·rintro _ h
   replace h : cmp_Or_int.k_1 = some r := h
   rw [cmp_Or_int.k_1] at h
   refine jx_then (jc_seq (jc_region (qh [0,0] (qe (jx_then (jc_ret ?_))))))
   obtain rfl := Option.some.inj h
   exact qr [] (fun w hm => ⟨rfl, hm.pk []⟩)
/-! ### impl.compareNotes -/
def impl_compareNotes (a0 : GNote) (b1 : GNote) : Option (Int) := (cmp_Compare_int16 a0.fAt b1.fAt).bind fun t_1 => (cmp_Compare_int8 a0.fPitch b1.fPitch).bind fun t_2 => (cmp_Or_int ([t_1, t_2] : List Int)).bind fun t_3 => some t_3
theorem impl_compareNotes.calls (a0 : GNote) (b1 : GNote) (w : World) (r : Int) (h : impl_compareNotes a0 b1 = some r) :
    Calls Try.prog 181 #[(.agg #[(.int .i16 a0.fAt), (.int .i8 a0.fPitch)]), (.agg #[(.int .i16 b1.fAt), (.int .i8 b1.fPitch)])] w fun e w' => ∃ v, e = .returned v ∧ (v = (.int .i64 r) ∧ Mem w [] [] w') := by
  rw [impl_compareNotes] at h
  refine enter (args := [(.agg #[(.int .i16 a0.fAt), (.int .i8 a0.fPitch)]), (.agg #[(.int .i16 b1.fAt), (.int .i8 b1.fPitch)])]) Try.func181 rfl Try.ntmps181 (by kernel_rfl) (L := []) (W := []) (Mem.start w) ?_
  refine jc_seq (jc_region (tO (qa 0 (fun b_1 => jkO (tO (qa 0 (fun b_2 => jkO (qh [0] (qe (jx_then (jc_seq (qg [⟨some b_1, 104, [(.int .i16 a0.fAt), (.int .i8 a0.fPitch)]⟩, ⟨some b_2, 104, [(.int .i16 b1.fAt), (.int .i8 b1.fPitch)]⟩] 13 (qd [⟨0, 0, 0⟩,⟨1, 0, 0⟩,⟨2, 0, 0⟩,⟨3, 1, 0⟩,⟨5, 0, 0⟩,⟨6, 0, 0⟩,⟨7, 0, 0⟩,⟨8, 1, 0⟩] 5 [0, 1] ?_)))))))))))))
  obtain ⟨t_1, ht_3, h⟩ := bd h
  refine tD 4 (pc 0 (fun w hm => cmp_Compare_int16.calls a0.fAt b1.fAt w _ ht_3) ?_)
  rintro w v w' hm ⟨rfl, hm'⟩
  refine ⟨_, hm.app hm', kD [0, 1] ?_⟩
  clear hm hm'
  obtain ⟨t_2, ht_4, h⟩ := bd h
  refine tD 9 (pc 0 (fun w hm => cmp_Compare_int8.calls a0.fPitch b1.fPitch w _ ht_4) ?_)
  rintro w v w' hm ⟨rfl, hm'⟩
  refine ⟨_, hm.app hm', kD [0, 1] ?_⟩
  clear hm hm'
  refine tD 10 (qa 0 (fun b_5 => kD [0, 1] ?_))
  obtain ⟨t_3, ht_6, h⟩ := bd h
  refine tD 11 (pc 0 (fun w hm => cmp_Or_int.calls ([t_1, t_2] : List Int) w _ 2 (hm.ow 2 (some b_5) 3 ([t_1, t_2] : List Int) [] (fun e => nomatch e) encI64_len) rfl ht_6) ?_)
  rintro w v w' hm ⟨rfl, hm'⟩
  refine ⟨_, hm.app hm', kD [0, 1] ?_⟩
  clear hm hm'
  refine qd [⟨12, 0, 0⟩] 0 [0, 1] (qz (jx_then (jc_ret ?_)))
  obtain rfl := Option.some.inj h
  exact qr [] (fun w hm => ⟨rfl, hm.pk []⟩)
end

end Go.Proofs.Yteedohcicmgkaaa
