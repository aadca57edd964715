/- Functions of the program that the laws reach: a plain function each, and that the call comes to its answer if the plain function has one. Printed by a program. -/
import Derived.Test.YteedohcicmgkaaaT
import Derived.Test.YteedohcicmgkaaaSeg
namespace Go.Proofs.Yteedohcicmgkaaa
open Eng
set_option linter.unusedVariables false

set_option linter.unusedSectionVars false
set_option maxRecDepth 100000
variable [dsW : DrwS]
noncomputable section
/-! ### laws.szHammerS -/
def laws_szHammerS (a0 : List GHammer) (left1 : Int) : Option (Int) := (if (decide ((w64 (left1 - (a0.length : Int))) < 0)) = true then some (-1) else some (w64 (left1 - (a0.length : Int))))
theorem laws_szHammerS.calls (a0 : List GHammer) (left1 : Int) (w : World) (r : Int) {A_a : Option Addr} {A_an : Nat} (A_c : Nat) (A_h : Rw w A_a 2 encGHammer a0) (A_hn : a0.length = A_an) (h : laws_szHammerS a0 left1 = some r) :
    Calls Try.prog 48 #[(.slice A_a A_an A_c), (.int .i64 left1)] w fun e w' => ∃ v, e = .returned v ∧ (v = (.int .i64 r) ∧ Mem w [] [] w') := by
  subst A_hn
  rw [laws_szHammerS] at h
  refine enter (args := [(.slice A_a a0.length A_c), (.int .i64 left1)]) Try.func48 rfl Try.ntmps48 (by kernel_rfl) (L := []) (W := []) (Mem.start w) ?_
  refine jc_seq (jc_region (qh [0] (qe (jx_then (jc_seq (jc_region (qh [0,0,0,0,0] (qe (jx_then (jc_seq (jc_seq (jc_region (qh [0,0] (qe (jx_then (qi h (fun h => ?_) (fun h => ?_)))))))))))))))))
  ·refine jc_seq (jc_region (qh [0] (qe (jx_then (jc_ret (jx_thenr ?_))))))
   obtain rfl := Option.some.inj h
   exact qr [] (fun w hm => ⟨rfl, hm.pk []⟩)
  ·refine jc_skip (jx_then (jc_seq (jc_region (qh [0,0] (qe (jx_then (jc_ret ?_)))))))
   obtain rfl := Option.some.inj h
   exact qr [] (fun w hm => ⟨rfl, hm.pk []⟩)
/-! ### laws.szFrame -/
def laws_szFrame (a0 : GFrame) (left1 : Int) : Option (Int) := (laws_szHammerS a0.fHammers left1).bind fun t_1 => (if (decide (t_1 < 0)) = true then some (-1) else some t_1)
theorem laws_szFrame.calls (a0 : GFrame) (left1 : Int) (w : World) (r : Int) {C_a : Option Addr} {C_an : Nat} (C_c : Nat) (C_h : Rw w C_a 2 encGHammer a0.fHammers) (C_hn : a0.fHammers.length = C_an) (h : laws_szFrame a0 left1 = some r) :
    Calls Try.prog 10 #[(.agg #[(.int .i16 a0.fSteps), (.slice C_a C_an C_c)]), (.int .i64 left1)] w fun e w' => ∃ v, e = .returned v ∧ (v = (.int .i64 r) ∧ Mem w [] [] w') := by
  subst C_hn
  rw [laws_szFrame] at h
  refine enter (args := [(.agg #[(.int .i16 a0.fSteps), (.slice C_a a0.fHammers.length C_c)]), (.int .i64 left1)]) Try.func10 rfl Try.ntmps10 (by kernel_rfl) (L := []) (W := []) (Mem.start w) ?_
  refine jc_seq (jc_region (tO (qa 0 (fun b_1 => jkO (qh [0] (qe (jx_then (jc_seq (jc_region (qh [0,0,0] ?_))))))))))
  obtain ⟨t_1, ht_2, h⟩ := bd h
  refine tO (pc 0 (fun w hm => laws_szHammerS.calls a0.fHammers left1 w _ C_c (hm.xr C_h) rfl ht_2) ?_)
  rintro w v w' hm ⟨rfl, hm'⟩
  refine ⟨_, hm.app hm', jkO ?_⟩
  clear hm hm'
  refine qh [0] (qe (jx_then (jc_seq (jc_seq (jc_region (qh [0,0] (qe (jx_then (qi h (fun h => ?_) (fun h => ?_))))))))))
  ·refine jc_seq (jc_region (qh [0] (qe (jx_then (jc_ret (jx_thenr ?_))))))
   obtain rfl := Option.some.inj h
   exact qr [] (fun w hm => ⟨rfl, hm.pk []⟩)
  ·refine jc_skip (jx_then (jc_seq (jc_region (qh [0,0] (qe (jx_then (jc_ret ?_)))))))
   obtain rfl := Option.some.inj h
   exact qr [] (fun w hm => ⟨rfl, hm.pk []⟩)
/-! ### laws.szTune -/
def laws_szTune (a0 : List GNote) (left1 : Int) : Option (Int) := (if (decide ((w64 (left1 - (a0.length : Int))) < 0)) = true then some (-1) else some (w64 (left1 - (a0.length : Int))))
theorem laws_szTune.calls (a0 : List GNote) (left1 : Int) (w : World) (r : Int) {A_a : Option Addr} {A_an : Nat} (A_c : Nat) (A_h : Rw w A_a 2 encGNote a0) (A_hn : a0.length = A_an) (h : laws_szTune a0 left1 = some r) :
    Calls Try.prog 25 #[(.slice A_a A_an A_c), (.int .i64 left1)] w fun e w' => ∃ v, e = .returned v ∧ (v = (.int .i64 r) ∧ Mem w [] [] w') := by
  subst A_hn
  rw [laws_szTune] at h
  refine enter (args := [(.slice A_a a0.length A_c), (.int .i64 left1)]) Try.func25 rfl Try.ntmps25 (by kernel_rfl) (L := []) (W := []) (Mem.start w) ?_
  refine jc_seq (jc_region (qh [0] (qe (jx_then (jc_seq (jc_region (qh [0,0,0,0,0] (qe (jx_then (jc_seq (jc_seq (jc_region (qh [0,0] (qe (jx_then (qi h (fun h => ?_) (fun h => ?_)))))))))))))))))
  ·refine jc_seq (jc_region (qh [0] (qe (jx_then (jc_ret (jx_thenr ?_))))))
   obtain rfl := Option.some.inj h
   exact qr [] (fun w hm => ⟨rfl, hm.pk []⟩)
  ·refine jc_skip (jx_then (jc_seq (jc_region (qh [0,0] (qe (jx_then (jc_ret ?_)))))))
   obtain rfl := Option.some.inj h
   exact qr [] (fun w hm => ⟨rfl, hm.pk []⟩)
/-! ### laws.toHammer -/
def laws_toHammer (a0 : GHammer) : Option (GHammer) := some a0
theorem laws_toHammer.calls (a0 : GHammer) (w : World) (r : GHammer) (h : laws_toHammer a0 = some r) :
    Calls Try.prog 105 #[(.agg #[(.int .i8 a0.fPitch), (.int .i8 a0.fReady)])] w fun e w' => ∃ v, e = .returned v ∧ (v = .agg #[(.int .i8 r.fPitch), (.int .i8 r.fReady)] ∧ Mem w [] [] w') := by
  rw [laws_toHammer] at h
  refine enter (args := [(.agg #[(.int .i8 a0.fPitch), (.int .i8 a0.fReady)])]) Try.func105 rfl Try.ntmps105 (by kernel_rfl) (L := []) (W := []) (Mem.start w) ?_
  refine jc_seq (jc_region (tO (qa 0 (fun b_1 => jkO (tO (qa 0 (fun b_2 => jkO (qe (jx_then (jc_seq (jc_region (tO (qa 0 (fun b_3 => jkO (qe (jx_then (jc_seq (jc_region (qh [0,0,0] (tO (qs 0 [2] (jkO (qe (jx_then (jc_seq (jc_region (qh [0,0,0] (tO (qs 0 [2] (jkO (qe (jx_then (jc_seq (jc_region (qh [2] (tO (qs 0 [1] (jkO (qe (jx_then (jc_ret ?_)))))))))))))))))))))))))))))))))))))))))
  obtain rfl := Option.some.inj h
  exact qr [1] (fun w hm => ⟨rfl, hm.pk []⟩)
/-! ### laws.toHammerS -/
def laws_toHammerS.k_2 (xs_1 : List GHammer) : Option ((List GHammer)) := some xs_1
def laws_toHammerS.l_5 (a0 : List GHammer) : ((List GHammer) × Int) → Option (((List GHammer) × Int) ⊕ ((List GHammer)))
  | (xs_3, i_4) => (if (decide (i_4 < (a0.length : Int))) = true then (ix a0 i_4).bind fun x_7 => (laws_toHammer x_7).bind fun t_8 => (ix xs_3 i_4).bind fun x_9 => some (.inl ((xs_3.set i_4.toNat t_8), (w64 (i_4 + 1)))) else some (.inr xs_3))
def laws_toHammerS (a0 : List GHammer) : Option ((List GHammer)) := (if 0 ≤ (a0.length : Int) ∧ (a0.length : Int) ≤ 70368744177664 then (loop (laws_toHammerS.l_5 a0) ((List.replicate (a0.length : Int).toNat (⟨0, 0⟩ : GHammer)), 0)).bind fun t_6 => laws_toHammerS.k_2 t_6 else none)
theorem laws_toHammerS.calls (a0 : List GHammer) (w : World) (r : (List GHammer)) {A_a : Option Addr} {A_an : Nat} (A_c : Nat) (A_h : Rw w A_a 2 encGHammer a0) (A_hn : a0.length = A_an) (h : laws_toHammerS a0 = some r) :
    Calls Try.prog 52 #[(.slice A_a A_an A_c)] w fun e w' => ∃ v, e = .returned v ∧ (∃ (o0 : Option Nat) (c0 : Nat) (s0 : List Value) (n0 : Nat), r.length = n0 ∧ (o0 ≠ none → n0 ≤ c0 ∧ s0.length = (c0 - n0) * 2) ∧ (o0 = none → r = [] ∧ c0 = 0) ∧ v = .slice (o0.map fun b => ⟨b, 0, none⟩) n0 c0 ∧ Mem w [] [⟨o0, 110, row encGHammer r s0⟩] w') := by
  subst A_hn
  rw [laws_toHammerS] at h
  refine enter (args := [(.slice A_a a0.length A_c)]) Try.func52 rfl Try.ntmps52 (by kernel_rfl) (L := []) (W := []) (Mem.start w) ?_
  refine jc_seq (jc_region (qh [0] (qe (jx_then (jc_seq (jc_region (qh [0,0] ?_)))))))
  obtain ⟨hg_88, h⟩ := gd h
  refine tO (p_mk 0 110 (a0.length : Int) 2 2 encGHammer (⟨0, 0⟩ : GHammer) (by kernel_rfl) (by kernel_rfl) hg_88.1 (by omega) (by kernel_rfl) (fun b_1 => jkO (qh [0] (qe (jx_then (jc_seq (jc_seq (jc_region (qh [0] (qe (jx_then (jc_meet (fun (j : (List GHammer)) => match j with | xs_1 => laws_toHammerS.k_2 xs_1 = some r ∧ (xs_1.length = (a0.length : Int).toNat)) (fun (j : (List GHammer)) => match j with | xs_1 => [(2, [], (.slice none 0 0)), (3, [], (.slice (some ⟨b_1, 0, none⟩) ((a0.length : Int).toNat) ((a0.length : Int).toNat)))]) (fun (j : (List GHammer)) => match j with | xs_1 => [⟨(some b_1), 110, row encGHammer xs_1 []⟩]) ?_ ?_))))))))))))
  ·refine jc_block ?_
   obtain ⟨t_6, ht_87, hr_79⟩ := bd h
   refine jc_loop (fun (s : (List GHammer) × Int) (x : Unit) => match s, x with | ⟨xs_3, i_4⟩, _ => (xs_3.length = (a0.length : Int).toNat)) (fun (s : (List GHammer) × Int) (x : Unit) => match s, x with | ⟨xs_3, i_4⟩, _ => [(0, [], (.slice A_a a0.length A_c)), (2, [], (.slice none 0 0)), (3, [], (.slice (some ⟨b_1, 0, none⟩) ((a0.length : Int).toNat) ((a0.length : Int).toNat))), (4, [], (.int .i64 i_4))]) (fun (s : (List GHammer) × Int) (x : Unit) => match s, x with | ⟨xs_3, i_4⟩, _ => [⟨(some b_1), 110, row encGHammer xs_3 []⟩]) ht_87 () List.length_replicate (by kernel_rfl) [0] (by kernel_rfl) (by kernel_rfl) ?_
   rintro ⟨xs_3, i_4⟩ _ y_80 hn_78 h
   rw [laws_toHammerS.l_5] at h
   refine jc_seq (jc_seq (jc_region (qh [0,0,0,0] (qe (jx_then (qi h (fun h => ?_) (fun h => ?_)))))))
   ·refine jc_skip (jx_then (jc_seq (jc_block (jc_region (qh [0,0,0,0] ?_)))))
    obtain ⟨x_7, hx_83, h⟩ := bd h
    refine tO (qx 0 A_a 2 hx_83 rfl (A_h.sp hx_83) (jkO (tO (ql 0 true (fun w hm => ((hm.xr A_h).at hx_83)) (jkO ?_)))))
    obtain ⟨t_8, ht_84, h⟩ := bd h
    refine tO (pc 0 (fun w hm => laws_toHammer.calls x_7 w _ ht_84) ?_)
    rintro w v w' hm ⟨rfl, hm'⟩
    refine ⟨_, hm.app hm', jkO ?_⟩
    clear hm hm'
    obtain ⟨x_9, hx_85, h⟩ := bd h
    exact tO (qx 0 (some ⟨b_1, 0, none⟩) 2 hx_85 hn_78 rfl (jkO (tO (p_str 0 0 b_1 110 encGHammer xs_3 [] i_4 t_8 2 0 [(.int .i8 t_8.fPitch), (.int .i8 t_8.fReady)] (by kernel_rfl) (by kernel_rfl) (by kernel_rfl) encGHammer_len hx_85 (by kernel_rfl) (by kernel_rfl) (jkO (qe (jx_inn (jx_then (jc_region (qh [0,0,0] (qe (qb ((xs_3.set i_4.toNat t_8), (w64 (i_4 + 1))) () h (List.length_set.trans hn_78) [0]))))))))))))
   ·refine jc_exit (jx_thenx (jx_leave xs_3 (Option.some.inj h).symm (fun e_86 => ?_)))
    subst e_86
    exact jx_ine (qm xs_3 ⟨hr_79, hn_78⟩ [0])
  ·rintro xs_1 ⟨h, hn_66⟩
   replace h : laws_toHammerS.k_2 xs_1 = some r := h
   rw [laws_toHammerS.k_2] at h
   refine jx_then (jc_seq (jc_region (qh [0,0] (qe (jx_then (jc_ret ?_))))))
   obtain rfl := Option.some.inj h
   exact qr [] (fun w hm => ⟨(some b_1), ((a0.length : Int).toNat), [], ((a0.length : Int).toNat), hn_66, (fun _ => ⟨Nat.le_refl _, by simp⟩), (fun e => nomatch e), rfl, hm.pk [0]⟩)
/-! ### laws.toFrame -/
def laws_toFrame (a0 : GFrame) : Option (GFrame) := (laws_toHammerS a0.fHammers).bind fun t_1 => some (⟨a0.fSteps, t_1⟩ : GFrame)
theorem laws_toFrame.calls (a0 : GFrame) (w : World) (r : GFrame) {C_a : Option Addr} {C_an : Nat} (C_c : Nat) (C_h : Rw w C_a 2 encGHammer a0.fHammers) (C_hn : a0.fHammers.length = C_an) (h : laws_toFrame a0 = some r) :
    Calls Try.prog 13 #[(.agg #[(.int .i16 a0.fSteps), (.slice C_a C_an C_c)])] w fun e w' => ∃ v, e = .returned v ∧ (∃ (o0 : Option Nat) (c0 : Nat) (s0 : List Value) (n0 : Nat), r.fHammers.length = n0 ∧ (o0 ≠ none → n0 ≤ c0 ∧ s0.length = (c0 - n0) * 2) ∧ (o0 = none → r.fHammers = [] ∧ c0 = 0) ∧ v = .agg #[(.int .i16 r.fSteps), .slice (o0.map fun b => ⟨b, 0, none⟩) n0 c0] ∧ Mem w [] [⟨o0, 110, row encGHammer r.fHammers s0⟩] w') := by
  subst C_hn
  rw [laws_toFrame] at h
  refine enter (args := [(.agg #[(.int .i16 a0.fSteps), (.slice C_a a0.fHammers.length C_c)])]) Try.func13 rfl Try.ntmps13 (by kernel_rfl) (L := []) (W := []) (Mem.start w) ?_
  refine jc_seq (jc_region (tO (qa 0 (fun b_1 => jkO (tO (qa 0 (fun b_2 => jkO (qe (jx_then (jc_seq (jc_region (tO (qa 0 (fun b_3 => jkO (qe (jx_then (jc_seq (jc_region (qh [0,0,0] (tO (qs 0 [2] (jkO (qe (jx_then (jc_seq (jc_region (qh [0,0] ?_)))))))))))))))))))))))))))
  obtain ⟨t_1, ht_4, h⟩ := bd h
  refine tO (pc 0 (fun w hm => laws_toHammerS.calls a0.fHammers w _ C_c (hm.xr C_h) rfl ht_4) ?_)
  rintro w v w' hm ⟨o_5, cap_6, sp_7, _, rfl, hs_8, ho_9, rfl, hm'⟩
  refine ⟨_, hm.app hm', jkO ?_⟩
  clear hm hm'
  refine qh [0] (tO (qs 0 [2] (jkO (qe (jx_then (jc_seq (jc_region (qh [2] (tO (qs 0 [1] (jkO (qe (jx_then (jc_ret ?_))))))))))))))
  obtain rfl := Option.some.inj h
  exact qr [1] (fun w hm => ⟨o_5, cap_6, sp_7, t_1.length, rfl, hs_8, ho_9, rfl, hm.pk [3]⟩)
/-! ### laws.toNote -/
def laws_toNote (a0 : GNote) : Option (GNote) := some a0
theorem laws_toNote.calls (a0 : GNote) (w : World) (r : GNote) (h : laws_toNote a0 = some r) :
    Calls Try.prog 67 #[(.agg #[(.int .i16 a0.fAt), (.int .i8 a0.fPitch)])] w fun e w' => ∃ v, e = .returned v ∧ (v = .agg #[(.int .i16 r.fAt), (.int .i8 r.fPitch)] ∧ Mem w [] [] w') := by
  rw [laws_toNote] at h
  refine enter (args := [(.agg #[(.int .i16 a0.fAt), (.int .i8 a0.fPitch)])]) Try.func67 rfl Try.ntmps67 (by kernel_rfl) (L := []) (W := []) (Mem.start w) ?_
  refine jc_seq (jc_region (tO (qa 0 (fun b_1 => jkO (tO (qa 0 (fun b_2 => jkO (qe (jx_then (jc_seq (jc_region (tO (qa 0 (fun b_3 => jkO (qe (jx_then (jc_seq (jc_region (qh [0,0,0] (tO (qs 0 [2] (jkO (qe (jx_then (jc_seq (jc_region (qh [0,0,0] (tO (qs 0 [2] (jkO (qe (jx_then (jc_seq (jc_region (qh [2] (tO (qs 0 [1] (jkO (qe (jx_then (jc_ret ?_)))))))))))))))))))))))))))))))))))))))))
  obtain rfl := Option.some.inj h
  exact qr [1] (fun w hm => ⟨rfl, hm.pk []⟩)
/-! ### laws.toTune -/
def laws_toTune.k_2 (xs_1 : List GNote) : Option ((List GNote)) := some xs_1
def laws_toTune.l_5 (a0 : List GNote) : ((List GNote) × Int) → Option (((List GNote) × Int) ⊕ ((List GNote)))
  | (xs_3, i_4) => (if (decide (i_4 < (a0.length : Int))) = true then (ix a0 i_4).bind fun x_7 => (laws_toNote x_7).bind fun t_8 => (ix xs_3 i_4).bind fun x_9 => some (.inl ((xs_3.set i_4.toNat t_8), (w64 (i_4 + 1)))) else some (.inr xs_3))
def laws_toTune (a0 : List GNote) : Option ((List GNote)) := (if 0 ≤ (a0.length : Int) ∧ (a0.length : Int) ≤ 35184372088832 then (loop (laws_toTune.l_5 a0) ((List.replicate (a0.length : Int).toNat (⟨0, 0⟩ : GNote)), 0)).bind fun t_6 => laws_toTune.k_2 t_6 else none)
theorem laws_toTune.calls (a0 : List GNote) (w : World) (r : (List GNote)) {A_a : Option Addr} {A_an : Nat} (A_c : Nat) (A_h : Rw w A_a 2 encGNote a0) (A_hn : a0.length = A_an) (h : laws_toTune a0 = some r) :
    Calls Try.prog 27 #[(.slice A_a A_an A_c)] w fun e w' => ∃ v, e = .returned v ∧ (∃ (o0 : Option Nat) (c0 : Nat) (s0 : List Value) (n0 : Nat), r.length = n0 ∧ (o0 ≠ none → n0 ≤ c0 ∧ s0.length = (c0 - n0) * 2) ∧ (o0 = none → r = [] ∧ c0 = 0) ∧ v = .slice (o0.map fun b => ⟨b, 0, none⟩) n0 c0 ∧ Mem w [] [⟨o0, 104, row encGNote r s0⟩] w') := by
  subst A_hn
  rw [laws_toTune] at h
  refine enter (args := [(.slice A_a a0.length A_c)]) Try.func27 rfl Try.ntmps27 (by kernel_rfl) (L := []) (W := []) (Mem.start w) ?_
  refine jc_seq (jc_region (qh [0] (qe (jx_then (jc_seq (jc_region (qh [0,0] ?_)))))))
  obtain ⟨hg_88, h⟩ := gd h
  refine tO (p_mk 0 104 (a0.length : Int) 2 4 encGNote (⟨0, 0⟩ : GNote) (by kernel_rfl) (by kernel_rfl) hg_88.1 (by omega) (by kernel_rfl) (fun b_1 => jkO (qh [0] (qe (jx_then (jc_seq (jc_seq (jc_region (qh [0] (qe (jx_then (jc_meet (fun (j : (List GNote)) => match j with | xs_1 => laws_toTune.k_2 xs_1 = some r ∧ (xs_1.length = (a0.length : Int).toNat)) (fun (j : (List GNote)) => match j with | xs_1 => [(2, [], (.slice none 0 0)), (3, [], (.slice (some ⟨b_1, 0, none⟩) ((a0.length : Int).toNat) ((a0.length : Int).toNat)))]) (fun (j : (List GNote)) => match j with | xs_1 => [⟨(some b_1), 104, row encGNote xs_1 []⟩]) ?_ ?_))))))))))))
  ·refine jc_block ?_
   obtain ⟨t_6, ht_87, hr_79⟩ := bd h
   refine jc_loop (fun (s : (List GNote) × Int) (x : Unit) => match s, x with | ⟨xs_3, i_4⟩, _ => (xs_3.length = (a0.length : Int).toNat)) (fun (s : (List GNote) × Int) (x : Unit) => match s, x with | ⟨xs_3, i_4⟩, _ => [(0, [], (.slice A_a a0.length A_c)), (2, [], (.slice none 0 0)), (3, [], (.slice (some ⟨b_1, 0, none⟩) ((a0.length : Int).toNat) ((a0.length : Int).toNat))), (4, [], (.int .i64 i_4))]) (fun (s : (List GNote) × Int) (x : Unit) => match s, x with | ⟨xs_3, i_4⟩, _ => [⟨(some b_1), 104, row encGNote xs_3 []⟩]) ht_87 () List.length_replicate (by kernel_rfl) [0] (by kernel_rfl) (by kernel_rfl) ?_
   rintro ⟨xs_3, i_4⟩ _ y_80 hn_78 h
   rw [laws_toTune.l_5] at h
   refine jc_seq (jc_seq (jc_region (qh [0,0,0,0] (qe (jx_then (qi h (fun h => ?_) (fun h => ?_)))))))
   ·refine jc_skip (jx_then (jc_seq (jc_block (jc_region (qh [0,0,0,0] ?_)))))
    obtain ⟨x_7, hx_83, h⟩ := bd h
    refine tO (qx 0 A_a 2 hx_83 rfl (A_h.sp hx_83) (jkO (tO (ql 0 true (fun w hm => ((hm.xr A_h).at hx_83)) (jkO ?_)))))
    obtain ⟨t_8, ht_84, h⟩ := bd h
    refine tO (pc 0 (fun w hm => laws_toNote.calls x_7 w _ ht_84) ?_)
    rintro w v w' hm ⟨rfl, hm'⟩
    refine ⟨_, hm.app hm', jkO ?_⟩
    clear hm hm'
    obtain ⟨x_9, hx_85, h⟩ := bd h
    exact tO (qx 0 (some ⟨b_1, 0, none⟩) 2 hx_85 hn_78 rfl (jkO (tO (p_str 0 0 b_1 104 encGNote xs_3 [] i_4 t_8 2 0 [(.int .i16 t_8.fAt), (.int .i8 t_8.fPitch)] (by kernel_rfl) (by kernel_rfl) (by kernel_rfl) encGNote_len hx_85 (by kernel_rfl) (by kernel_rfl) (jkO (qe (jx_inn (jx_then (jc_region (qh [0,0,0] (qe (qb ((xs_3.set i_4.toNat t_8), (w64 (i_4 + 1))) () h (List.length_set.trans hn_78) [0]))))))))))))
   ·refine jc_exit (jx_thenx (jx_leave xs_3 (Option.some.inj h).symm (fun e_86 => ?_)))
    subst e_86
    exact jx_ine (qm xs_3 ⟨hr_79, hn_78⟩ [0])
  ·rintro xs_1 ⟨h, hn_66⟩
   replace h : laws_toTune.k_2 xs_1 = some r := h
   rw [laws_toTune.k_2] at h
   refine jx_then (jc_seq (jc_region (qh [0,0] (qe (jx_then (jc_ret ?_))))))
   obtain rfl := Option.some.inj h
   exact qr [] (fun w hm => ⟨(some b_1), ((a0.length : Int).toNat), [], ((a0.length : Int).toNat), hn_66, (fun _ => ⟨Nat.le_refl _, by simp⟩), (fun e => nomatch e), rfl, hm.pk [0]⟩)
/-! ### spec.l00In -/
def spec_l00In (n0 : Int) (low1 : Int) (high2 : Int) : Option (Bool) := some ((decide (n0 ≥ low1)) && (decide (n0 ≤ high2)))
theorem spec_l00In.calls (n0 : Int) (low1 : Int) (high2 : Int) (w : World) (r : Bool) (h : spec_l00In n0 low1 high2 = some r) :
    Calls Try.prog 78 #[(.int .i64 n0), (.int .i64 low1), (.int .i64 high2)] w fun e w' => ∃ v, e = .returned v ∧ (v = (.bool r) ∧ Mem w [] [] w') := by
  rw [spec_l00In] at h
  refine enter (args := [(.int .i64 n0), (.int .i64 low1), (.int .i64 high2)]) Try.func78 rfl Try.ntmps78 (by kernel_rfl) (L := []) (W := []) (Mem.start w) ?_
  refine jc_seq (jc_region (qh [0] (qe (jx_then (jc_seq (jc_region (qf [(0, 0), (0, 0), (0, 0), (0, 0), (0, 1), (0, 1), (0, 1), (0, 0), (0, 0)] (qe (jx_then (jc_ret ?_))))))))))
  obtain rfl := Option.some.inj h
  exact qr [] (fun w hm => ⟨rfl, hm.pk []⟩)
/-! ### spec.l00Min -/
def spec_l00Min (a0 : Int) (b1 : Int) : Option (Int) := (if (decide (a0 < b1)) = true then some a0 else some b1)
theorem spec_l00Min.calls (a0 : Int) (b1 : Int) (w : World) (r : Int) (h : spec_l00Min a0 b1 = some r) :
    Calls Try.prog 146 #[(.int .i64 a0), (.int .i64 b1)] w fun e w' => ∃ v, e = .returned v ∧ (v = (.int .i64 r) ∧ Mem w [] [] w') := by
  rw [spec_l00Min] at h
  refine enter (args := [(.int .i64 a0), (.int .i64 b1)]) Try.func146 rfl Try.ntmps146 (by kernel_rfl) (L := []) (W := []) (Mem.start w) ?_
  refine jc_seq (jc_region (qh [0] (qe (jx_then (jc_seq (jc_seq (jc_region (qh [0,0,0] (qe (jx_then (qi h (fun h => ?_) (fun h => ?_))))))))))))
  ·refine jc_seq (jc_region (qh [0,0] (qe (jx_then (jc_ret (jx_thenr ?_))))))
   obtain rfl := Option.some.inj h
   exact qr [] (fun w hm => ⟨rfl, hm.pk []⟩)
  ·refine jc_skip (jx_then (jc_seq (jc_region (qh [0,0] (qe (jx_then (jc_ret ?_)))))))
   obtain rfl := Option.some.inj h
   exact qr [] (fun w hm => ⟨rfl, hm.pk []⟩)
/-! ### spec.l02Frame -/
def spec_l02Frame.k_3 : Option (Bool) := some true
def spec_l02Frame.k_9 (i_4 : Int) (q_8 : Bool) : Option ((Int) ⊕ (Bool ⊕ Unit)) := (if q_8 = true then some (.inr (.inl false)) else some (.inl (w64 (i_4 + 1))))
def spec_l02Frame.l_5 (f0 : GFrame) : Int → Option ((Int) ⊕ (Bool ⊕ Unit))
  | i_4 => (if (decide (i_4 < (f0.fHammers.length : Int))) = true then (ix f0.fHammers i_4).bind fun x_7 => (spec_l00In (w64 x_7.fPitch) 0 47).bind fun t_10 => (if (!t_10) = true then spec_l02Frame.k_9 i_4 true else (spec_l00Min 20 (w64 f0.fSteps)).bind fun t_11 => (spec_l00In (w64 x_7.fReady) 1 t_11).bind fun t_12 => spec_l02Frame.k_9 i_4 (!t_12)) else some (.inr (.inr ())))
def spec_l02Frame.k_2 (f0 : GFrame) (q_1 : Bool) : Option (Bool) := (if q_1 = true then some false else (loop (spec_l02Frame.l_5 f0) 0).bind fun t_6 => match t_6 with | .inl p => some p | .inr p => spec_l02Frame.k_3)
def spec_l02Frame (f0 : GFrame) : Option (Bool) := (spec_l00In (w64 f0.fSteps) 2 96).bind fun t_13 => (if (!t_13) = true then spec_l02Frame.k_2 f0 true else (spec_l00In (f0.fHammers.length : Int) 1 24).bind fun t_14 => spec_l02Frame.k_2 f0 (!t_14))
theorem spec_l02Frame.calls (f0 : GFrame) (w : World) (r : Bool) {C_a : Option Addr} {C_an : Nat} (C_c : Nat) (C_h : Rw w C_a 2 encGHammer f0.fHammers) (C_hn : f0.fHammers.length = C_an) (A_b : Nat) (hm0 : Mem w (bs [some A_b]) [⟨some A_b, 34, [(.int .i16 f0.fSteps), (.slice C_a C_an C_c)]⟩] w) (C_ha : f0.fHammers ≠ [] → aB C_a ∉ bs [some A_b]) (h : spec_l02Frame f0 = some r) :
    Calls Try.prog 110 #[(.pointer (some ⟨A_b, 0, none⟩))] w fun e w' => ∃ v, e = .returned v ∧ (v = (.bool r) ∧ Mem w (bs [some A_b]) [⟨some A_b, 34, [(.int .i16 f0.fSteps), (.slice C_a C_an C_c)]⟩] w') := by
  subst C_hn
  rw [spec_l02Frame] at h
  refine enter (args := [(.pointer (some ⟨A_b, 0, none⟩))]) Try.func110 rfl Try.ntmps110 (by kernel_rfl) (L := [⟨some A_b, 34, [(.int .i16 f0.fSteps), (.slice C_a f0.fHammers.length C_c)]⟩]) (W := bs [some A_b]) hm0 ?_
  refine jc_seq (jc_region (qh [0] (qe (jx_then (jc_seq (jc_seq (jc_meet (fun (j : Bool) => match j with | q_1 => spec_l02Frame.k_2 f0 q_1 = some r) (fun (j : Bool) => match j with | q_1 => [(0, [], (.pointer (some ⟨A_b, 0, none⟩))), (2, [], (.bool false)), (20, [], (.bool q_1))]) (fun (j : Bool) => match j with | q_1 => [⟨some A_b, 34, [(.int .i16 f0.fSteps), (.slice C_a f0.fHammers.length C_c)]⟩]) ?_ ?_)))))))
  ·refine jc_region (qh [0,0,0,0,0] ?_)
   obtain ⟨t_13, ht_100, h⟩ := bd h
   refine tO (pc 0 (fun w hm => spec_l00In.calls (w64 f0.fSteps) 2 96 w _ ht_100) ?_)
   rintro w v w' hm ⟨rfl, hm'⟩
   refine ⟨_, hm.app hm', jkO ?_⟩
   clear hm hm'
   refine qf [(0, 0), (0, 0), (0, 1), (0, 1), (0, 1), (0, 1), (0, 1)] (qp 12 h (fun h => ?_) (fun h => ?_))
   ·exact qf [(0, 3), (0, 3), (0, 4)] (qe (qm true h [0]))
   ·obtain ⟨t_14, ht_102, h⟩ := bd h
    refine tO (pc 2 (fun w hm => spec_l00In.calls (f0.fHammers.length : Int) 1 24 w _ ht_102) ?_)
    rintro w v w' hm ⟨rfl, hm'⟩
    refine ⟨_, hm.app hm', jkO ?_⟩
    clear hm hm'
    exact qf [(0, 2), (0, 5)] (qe (qm (!t_14) h [0]))
  ·rintro q_1 h
   replace h : spec_l02Frame.k_2 f0 q_1 = some r := h
   rw [spec_l02Frame.k_2] at h
   refine jx_then (qi h (fun h => ?_) (fun h => ?_))
   ·refine jc_seq (jc_region (qh [0] (qe (jx_then (jc_ret (jx_thenr ?_))))))
    obtain rfl := Option.some.inj h
    exact qr [] (fun w hm => ⟨rfl, hm.pk [0]⟩)
   ·refine jc_skip (jx_then (jc_seq (jc_seq (jc_region (qh [0] (qe (jx_then (jc_meet (fun (_ : Unit) => spec_l02Frame.k_3 = some r) (fun (_ : Unit) => [(2, [], (.bool false))]) (fun (_ : Unit) => [⟨some A_b, 34, [(.int .i16 f0.fSteps), (.slice C_a f0.fHammers.length C_c)]⟩]) ?_ ?_))))))))
    ·refine jc_block ?_
     obtain ⟨t_6, ht_99, hr_82⟩ := bd h
     refine jc_loop (fun (s : Int) (x : Unit) => match s, x with | i_4, _ => True) (fun (s : Int) (x : Unit) => match s, x with | i_4, _ => [(0, [], (.pointer (some ⟨A_b, 0, none⟩))), (2, [], (.bool false)), (3, [], (.int .i64 i_4))]) (fun (s : Int) (x : Unit) => match s, x with | i_4, _ => [⟨some A_b, 34, [(.int .i16 f0.fSteps), (.slice C_a f0.fHammers.length C_c)]⟩]) ht_99 () trivial (by kernel_rfl) [0] (by kernel_rfl) (by kernel_rfl) ?_
     rintro i_4 _ y_83 _ h
     rw [spec_l02Frame.l_5] at h
     refine jc_seq (jc_seq (jc_region (qh [0,0,0,0,0,0,0] (qe (jx_then (qi h (fun h => ?_) (fun h => ?_)))))))
     ·refine jc_skip (jx_then (jc_seq (jc_block (jc_seq (jc_region (qh [0,0,0,0,0] ?_))))))
      obtain ⟨x_7, hx_86, h⟩ := bd h
      refine tO (qx 0 C_a 2 hx_86 rfl (C_h.sp hx_86) (jkO (tO (ql 0 true (fun w hm => ((hm.exRowW C_h C_ha).at hx_86)) (jkO (tO (qa 0 (fun b_87 => jkO (tO (qs 0 [1] (jkO (qe (jx_then (jc_seq (jc_meet (fun (j : Bool) => match j with | q_8 => spec_l02Frame.k_9 i_4 q_8 = some y_83) (fun (j : Bool) => match j with | q_8 => [(0, [], (.pointer (some ⟨A_b, 0, none⟩))), (2, [], (.bool false)), (3, [], (.int .i64 i_4)), (54, [], (.bool q_8))]) (fun (j : Bool) => match j with | q_8 => [⟨some A_b, 34, [(.int .i16 f0.fSteps), (.slice C_a f0.fHammers.length C_c)]⟩, ⟨some b_87, 110, [(.int .i8 x_7.fPitch), (.int .i8 x_7.fReady)]⟩]) ?_ ?_)))))))))))))))
      ·refine qg [⟨some A_b, 34, [(.int .i16 f0.fSteps), (.slice C_a f0.fHammers.length C_c)]⟩, ⟨some b_87, 110, [(.int .i8 x_7.fPitch), (.int .i8 x_7.fReady)]⟩] 18 (qd [⟨0, 0, 0⟩,⟨1, 1, 0⟩,⟨2, 0, 0⟩] 15 [0, 1] ?_)
       obtain ⟨t_10, ht_94, h⟩ := bd h
       refine tD 3 (pc 0 (fun w hm => spec_l00In.calls (w64 x_7.fPitch) 0 47 w _ ht_94) ?_)
       rintro w v w' hm ⟨rfl, hm'⟩
       refine ⟨_, hm.app hm', kD [0, 1] ?_⟩
       clear hm hm'
       refine qd [⟨4, 0, 0⟩,⟨5, 0, 0⟩,⟨6, 0, 1⟩,⟨7, 1, 1⟩,⟨8, 0, 1⟩,⟨9, 0, 1⟩,⟨10, 0, 1⟩,⟨11, 0, 1⟩,⟨12, 0, 1⟩,⟨13, 0, 1⟩] 4 [0, 1] (jd_split 42 (!t_10) (by kernel_rfl) (fun hc_95 => ?_) (fun hc_95 => ?_))
       ·replace h := ifT hc_95 h
        exact qd [⟨14, 0, 3⟩,⟨15, 0, 3⟩,⟨16, 0, 3⟩,⟨17, 0, 4⟩] 0 [0, 1] (qz (qm true h [0, 1]))
       ·replace h := ifF hc_95 h
        obtain ⟨t_11, ht_96, h⟩ := bd h
        refine tD 14 (pc 2 (fun w hm => spec_l00Min.calls 20 (w64 f0.fSteps) w _ ht_96) ?_)
        rintro w v w' hm ⟨rfl, hm'⟩
        refine ⟨_, hm.app hm', kD [0, 1] ?_⟩
        clear hm hm'
        obtain ⟨t_12, ht_97, h⟩ := bd h
        refine tD 15 (pc 2 (fun w hm => spec_l00In.calls (w64 x_7.fReady) 1 t_11 w _ ht_97) ?_)
        rintro w v w' hm ⟨rfl, hm'⟩
        refine ⟨_, hm.app hm', kD [0, 1] ?_⟩
        clear hm hm'
        exact qd [⟨16, 0, 2⟩,⟨17, 0, 5⟩] 0 [0, 1] (qz (qm (!t_12) h [0, 1]))
      ·rintro q_8 h
       replace h : spec_l02Frame.k_9 i_4 q_8 = some y_83 := h
       rw [spec_l02Frame.k_9] at h
       refine jx_then (qi h (fun h => ?_) (fun h => ?_))
       ·refine jc_seq (jc_region (qh [0] (qe (jx_then (jc_ret (jx_inr (jx_thenr (jx_leaver (.inl false) (Option.some.inj h).symm (fun e_93 => ?_)))))))))
        subst e_93
        refine jx_inr (jx_thenr (jx_thenr ?_))
        obtain rfl := Option.some.inj hr_82
        exact qr [] (fun w hm => ⟨rfl, hm.pk [0]⟩)
       ·exact jc_skip (jx_inn (jx_then (jc_region (qh [0,0,0] (qe (qb (w64 (i_4 + 1)) () h trivial [0]))))))
     ·refine jc_exit (jx_thenx (jx_leave (.inr ()) (Option.some.inj h).symm (fun e_98 => ?_)))
      subst e_98
      exact jx_ine (qm () hr_82 [0])
    ·rintro _ h
     replace h : spec_l02Frame.k_3 = some r := h
     rw [spec_l02Frame.k_3] at h
     refine jx_then (jc_seq (jc_region (qh [0] (qe (jx_then (jc_ret ?_))))))
     obtain rfl := Option.some.inj h
     exact qr [] (fun w hm => ⟨rfl, hm.pk [0]⟩)
/-! ### spec.l01Note -/
def spec_l01Note (n0 : GNote) : Option (Bool) := (spec_l00In (w64 n0.fAt) 0 199).bind fun t_1 => (if t_1 = true then (spec_l00In (w64 n0.fPitch) 0 47).bind fun t_2 => some t_2 else some false)
theorem spec_l01Note.calls (n0 : GNote) (w : World) (r : Bool) (h : spec_l01Note n0 = some r) :
    Calls Try.prog 147 #[(.agg #[(.int .i16 n0.fAt), (.int .i8 n0.fPitch)])] w fun e w' => ∃ v, e = .returned v ∧ (v = (.bool r) ∧ Mem w [] [] w') := by
  rw [spec_l01Note] at h
  refine enter (args := [(.agg #[(.int .i16 n0.fAt), (.int .i8 n0.fPitch)])]) Try.func147 rfl Try.ntmps147 (by kernel_rfl) (L := []) (W := []) (Mem.start w) ?_
  refine jc_seq (jc_region (tO (qa 0 (fun b_1 => jkO (qh [0] (qe (jx_then (jc_seq (jc_region (qh [0,0,0] ?_))))))))))
  obtain ⟨t_1, ht_2, h⟩ := bd h
  refine tO (pc 0 (fun w hm => spec_l00In.calls (w64 n0.fAt) 0 199 w _ ht_2) ?_)
  rintro w v w' hm ⟨rfl, hm'⟩
  refine ⟨_, hm.app hm', jkO ?_⟩
  clear hm hm'
  refine qf [(0, 0), (0, 1), (0, 1), (0, 1)] (qp 7 h (fun h => ?_) (fun h => ?_))
  ·obtain ⟨t_2, ht_4, h⟩ := bd h
   refine tO (pc 2 (fun w hm => spec_l00In.calls (w64 n0.fPitch) 0 47 w _ ht_4) ?_)
   rintro w v w' hm ⟨rfl, hm'⟩
   refine ⟨_, hm.app hm', jkO ?_⟩
   clear hm hm'
   refine qf [(0, 4), (0, 0)] (qe (jx_then (jc_ret ?_)))
   obtain rfl := Option.some.inj h
   exact qr [] (fun w hm => ⟨rfl, hm.pk []⟩)
  ·refine qf [(0, 3), (0, 5), (0, 0)] (qe (jx_then (jc_ret ?_)))
   obtain rfl := Option.some.inj h
   exact qr [] (fun w hm => ⟨rfl, hm.pk []⟩)
/-! ### spec.l01Before -/
def spec_l01Before (a0 : GNote) (b1 : GNote) : Option (Bool) := (if (decide (a0.fAt < b1.fAt)) = true then some true else some ((a0.fAt == b1.fAt) && (decide (a0.fPitch < b1.fPitch))))
theorem spec_l01Before.calls (a0 : GNote) (b1 : GNote) (w : World) (r : Bool) (h : spec_l01Before a0 b1 = some r) :
    Calls Try.prog 148 #[(.agg #[(.int .i16 a0.fAt), (.int .i8 a0.fPitch)]), (.agg #[(.int .i16 b1.fAt), (.int .i8 b1.fPitch)])] w fun e w' => ∃ v, e = .returned v ∧ (v = (.bool r) ∧ Mem w [] [] w') := by
  rw [spec_l01Before] at h
  refine enter (args := [(.agg #[(.int .i16 a0.fAt), (.int .i8 a0.fPitch)]), (.agg #[(.int .i16 b1.fAt), (.int .i8 b1.fPitch)])]) Try.func148 rfl Try.ntmps148 (by kernel_rfl) (L := []) (W := []) (Mem.start w) ?_
  refine jc_seq (jc_region (tO (qa 0 (fun b_1 => jkO (tO (qa 0 (fun b_2 => jkO (qh [0] (qe (jx_then (jc_seq (jc_region (qf [(0, 0), (0, 0), (0, 0), (1, 0), (0, 0), (0, 0), (0, 1), (0, 1), (0, 1), (1, 1), (0, 1)] (qp 10 h (fun h => ?_) (fun h => ?_)))))))))))))))
  ·refine qf [(0, 3), (0, 3), (0, 3), (0, 3), (0, 3), (0, 3), (0, 3), (0, 4), (0, 0)] (qe (jx_then (jc_ret ?_)))
   obtain rfl := Option.some.inj h
   exact qr [] (fun w hm => ⟨rfl, hm.pk []⟩)
  ·refine qf [(0, 2), (0, 1), (0, 1), (0, 1), (1, 1), (0, 1), (0, 2), (0, 5), (0, 0)] (qe (jx_then (jc_ret ?_)))
   obtain rfl := Option.some.inj h
   exact qr [] (fun w hm => ⟨rfl, hm.pk []⟩)
/-! ### spec.l01Ok -/
def spec_l01Ok.k_1 (t0 : List GNote) : Option (Bool) := some (decide ((t0.length : Int) ≤ 120))
def spec_l01Ok.k_6 (i_2 : Int) (q_5 : Bool) : Option ((Int) ⊕ (Bool ⊕ Unit)) := (if q_5 = true then some (.inr (.inl false)) else some (.inl (w64 (i_2 + 1))))
def spec_l01Ok.l_3 (t0 : List GNote) : Int → Option ((Int) ⊕ (Bool ⊕ Unit))
  | i_2 => (if (decide (i_2 < (t0.length : Int))) = true then (ix t0 i_2).bind fun x_7 => (spec_l01Note x_7).bind fun t_8 => (if (!t_8) = true then spec_l01Ok.k_6 i_2 true else (if (decide (i_2 > 0)) = true then (ix t0 (w64 (i_2 - 1))).bind fun x_9 => (ix t0 i_2).bind fun x_10 => (spec_l01Before x_9 x_10).bind fun t_11 => spec_l01Ok.k_6 i_2 (!t_11) else spec_l01Ok.k_6 i_2 false)) else some (.inr (.inr ())))
def spec_l01Ok (t0 : List GNote) : Option (Bool) := (loop (spec_l01Ok.l_3 t0) 0).bind fun t_4 => match t_4 with | .inl p => some p | .inr p => spec_l01Ok.k_1 t0
theorem spec_l01Ok.calls (t0 : List GNote) (w : World) (r : Bool) {A_a : Option Addr} {A_an : Nat} (A_c : Nat) (A_h : Rw w A_a 2 encGNote t0) (A_hn : t0.length = A_an) (h : spec_l01Ok t0 = some r) :
    Calls Try.prog 111 #[(.slice A_a A_an A_c)] w fun e w' => ∃ v, e = .returned v ∧ (v = (.bool r) ∧ Mem w [] [] w') := by
  subst A_hn
  rw [spec_l01Ok] at h
  refine enter (args := [(.slice A_a t0.length A_c)]) Try.func111 rfl Try.ntmps111 (by kernel_rfl) (L := []) (W := []) (Mem.start w) ?_
  refine jc_seq (jc_region (qh [0] (qe (jx_then (jc_seq (jc_seq (jc_region (qh [0] (qe (jx_then (jc_meet (fun (_ : Unit) => spec_l01Ok.k_1 t0 = some r) (fun (_ : Unit) => [(0, [], (.slice A_a t0.length A_c)), (2, [], (.bool false))]) (fun (_ : Unit) => []) ?_ ?_)))))))))))
  ·refine jc_block ?_
   obtain ⟨t_4, ht_224, hr_203⟩ := bd h
   refine jc_loop (fun (s : Int) (x : Unit) => match s, x with | i_2, _ => True) (fun (s : Int) (x : Unit) => match s, x with | i_2, _ => [(0, [], (.slice A_a t0.length A_c)), (2, [], (.bool false)), (3, [], (.int .i64 i_2))]) (fun (s : Int) (x : Unit) => match s, x with | i_2, _ => []) ht_224 () trivial (by kernel_rfl) [] (by kernel_rfl) (by kernel_rfl) ?_
   rintro i_2 _ y_204 _ h
   rw [spec_l01Ok.l_3] at h
   refine jc_seq (jc_seq (jc_region (qh [0,0,0,0] (qe (jx_then (qi h (fun h => ?_) (fun h => ?_)))))))
   ·refine jc_skip (jx_then (jc_seq (jc_block (jc_seq (jc_meet (fun (j : Bool) => match j with | q_5 => spec_l01Ok.k_6 i_2 q_5 = some y_204) (fun (j : Bool) => match j with | q_5 => [(0, [], (.slice A_a t0.length A_c)), (2, [], (.bool false)), (3, [], (.int .i64 i_2)), (32, [], (.bool q_5))]) (fun (j : Bool) => match j with | q_5 => []) ?_ ?_)))))
    ·refine qg [] 23 (qd [⟨0, 0, 0⟩,⟨1, 0, 0⟩] 21 [] ?_)
     obtain ⟨x_7, hx_216, h⟩ := bd h
     refine qv 2 0 [] (fun w hm => idx_run (a := A_a) (len := t0.length) (s := 2) (j := i_2) (by kernel_rfl) (ix_some hx_216).1 (ltn hx_216 rfl) (A_h.sp hx_216)) (qv 3 0 [] (fun w hm => ld_run (b := aB A_a) (off := (aO A_a + i_2.toNat * 2)) (s := 2) (agg := true) (vs := (encGNote x_7)) (by kernel_rfl) (by kernel_rfl) (.inl rfl) ((hm.xr A_h).at hx_216)) ?_)
     obtain ⟨t_8, ht_217, h⟩ := bd h
     refine tD 4 (pc 0 (fun w hm => spec_l01Note.calls x_7 w _ ht_217) ?_)
     rintro w v w' hm ⟨rfl, hm'⟩
     refine ⟨_, hm.app hm', kD [] ?_⟩
     clear hm hm'
     refine qd [⟨5, 0, 0⟩,⟨6, 0, 0⟩,⟨7, 0, 1⟩,⟨8, 0, 1⟩] 14 [] (jd_split 16 (!t_8) (by kernel_rfl) (fun hc_218 => ?_) (fun hc_218 => ?_))
     ·replace h := ifT hc_218 h
      exact qd [⟨9, 0, 3⟩,⟨10, 0, 3⟩,⟨11, 0, 3⟩,⟨12, 0, 3⟩,⟨13, 0, 3⟩,⟨14, 0, 3⟩,⟨15, 0, 3⟩,⟨16, 0, 3⟩,⟨17, 0, 3⟩,⟨18, 0, 3⟩,⟨19, 0, 3⟩,⟨20, 0, 3⟩,⟨21, 0, 3⟩,⟨22, 0, 4⟩] 0 [] (qz (qm true h []))
     ·replace h := ifF hc_218 h
      refine qd [⟨9, 0, 2⟩,⟨10, 0, 1⟩,⟨11, 0, 1⟩,⟨12, 0, 1⟩,⟨15, 0, 1⟩,⟨16, 0, 1⟩] 8 [] (jd_split 19 (decide (i_2 > 0)) (by kernel_rfl) (fun hc_219 => ?_) (fun hc_219 => ?_))
      ·replace h := ifT hc_219 h
       obtain ⟨x_9, hx_220, h⟩ := bd h
       refine qv 13 2 [] (fun w hm => idx_run (a := A_a) (len := t0.length) (s := 2) (j := (w64 (i_2 - 1))) (by kernel_rfl) (ix_some hx_220).1 (ltn hx_220 rfl) (A_h.sp hx_220)) (qv 14 2 [] (fun w hm => ld_run (b := aB A_a) (off := (aO A_a + (w64 (i_2 - 1)).toNat * 2)) (s := 2) (agg := true) (vs := (encGNote x_9)) (by kernel_rfl) (by kernel_rfl) (.inl rfl) ((hm.xr A_h).at hx_220)) ?_)
       obtain ⟨x_10, hx_221, h⟩ := bd h
       refine qv 17 2 [] (fun w hm => idx_run (a := A_a) (len := t0.length) (s := 2) (j := i_2) (by kernel_rfl) (ix_some hx_221).1 (ltn hx_221 rfl) (A_h.sp hx_221)) (qv 18 2 [] (fun w hm => ld_run (b := aB A_a) (off := (aO A_a + i_2.toNat * 2)) (s := 2) (agg := true) (vs := (encGNote x_10)) (by kernel_rfl) (by kernel_rfl) (.inl rfl) ((hm.xr A_h).at hx_221)) ?_)
       obtain ⟨t_11, ht_222, h⟩ := bd h
       refine tD 19 (pc 2 (fun w hm => spec_l01Before.calls x_9 x_10 w _ ht_222) ?_)
       rintro w v w' hm ⟨rfl, hm'⟩
       refine ⟨_, hm.app hm', kD [] ?_⟩
       clear hm hm'
       exact qd [⟨20, 0, 2⟩,⟨21, 0, 4⟩,⟨22, 0, 5⟩] 0 [] (qz (qm (!t_11) h []))
      ·replace h := ifF hc_219 h
       exact qd [⟨13, 0, 3⟩,⟨14, 0, 3⟩,⟨17, 0, 3⟩,⟨18, 0, 3⟩,⟨19, 0, 3⟩,⟨20, 0, 3⟩,⟨21, 0, 5⟩,⟨22, 0, 5⟩] 0 [] (qz (qm false h []))
    ·rintro q_5 h
     replace h : spec_l01Ok.k_6 i_2 q_5 = some y_204 := h
     rw [spec_l01Ok.k_6] at h
     refine jx_then (qi h (fun h => ?_) (fun h => ?_))
     ·refine jc_seq (jc_region (qh [0] (qe (jx_then (jc_ret (jx_inr (jx_thenr (jx_leaver (.inl false) (Option.some.inj h).symm (fun e_215 => ?_)))))))))
      subst e_215
      refine jx_inr (jx_thenr (jx_thenr ?_))
      obtain rfl := Option.some.inj hr_203
      exact qr [] (fun w hm => ⟨rfl, hm.pk []⟩)
     ·exact jc_skip (jx_inn (jx_then (jc_region (qh [0,0,0] (qe (qb (w64 (i_2 + 1)) () h trivial []))))))
   ·refine jc_exit (jx_thenx (jx_leave (.inr ()) (Option.some.inj h).symm (fun e_223 => ?_)))
    subst e_223
    exact jx_ine (qm () hr_203 [])
  ·rintro _ h
   replace h : spec_l01Ok.k_1 t0 = some r := h
   rw [spec_l01Ok.k_1] at h
   refine jx_then (jc_seq (jc_region (qh [0,0,0,0] (qe (jx_then (jc_ret ?_))))))
   obtain rfl := Option.some.inj h
   exact qr [] (fun w hm => ⟨rfl, hm.pk []⟩)
/-! ### spec.l01Length -/
def spec_l01Length (t0 : List GNote) : Option (Int) := (if ((t0.length : Int) == 0) = true then some 0 else (ix t0 (w64 ((t0.length : Int) - 1))).bind fun x_1 => some (w64 ((w64 x_1.fAt) + 1)))
theorem spec_l01Length.calls (t0 : List GNote) (w : World) (r : Int) {A_a : Option Addr} {A_an : Nat} (A_c : Nat) (A_h : Rw w A_a 2 encGNote t0) (A_hn : t0.length = A_an) (h : spec_l01Length t0 = some r) :
    Calls Try.prog 112 #[(.slice A_a A_an A_c)] w fun e w' => ∃ v, e = .returned v ∧ (v = (.int .i64 r) ∧ Mem w [] [] w') := by
  subst A_hn
  rw [spec_l01Length] at h
  refine enter (args := [(.slice A_a t0.length A_c)]) Try.func112 rfl Try.ntmps112 (by kernel_rfl) (L := []) (W := []) (Mem.start w) ?_
  refine jc_seq (jc_region (qh [0] (qe (jx_then (jc_seq (jc_seq (jc_region (qh [0,0,0] (qe (jx_then (qi h (fun h => ?_) (fun h => ?_))))))))))))
  ·refine jc_seq (jc_region (qh [0] (qe (jx_then (jc_ret (jx_thenr ?_))))))
   obtain rfl := Option.some.inj h
   exact qr [] (fun w hm => ⟨rfl, hm.pk []⟩)
  ·refine jc_skip (jx_then (jc_seq (jc_region (qh [0,0,0,0] ?_))))
   obtain ⟨x_1, hx_3, h⟩ := bd h
   refine tO (qx 0 A_a 2 hx_3 rfl (A_h.sp hx_3) (jkO (qh [0] (tO (ql 0 false (fun w hm => (((hm.xr A_h).at hx_3).sub 0 1)) (jkO (qh [0,0,0] (qe (jx_then (jc_ret ?_))))))))))
   obtain rfl := Option.some.inj h
   exact qr [] (fun w hm => ⟨rfl, hm.pk []⟩)
/-! ### spec.l03Fits -/
def spec_l03Fits.k_4 (q_3 : Bool) : Option (Int) := (if q_3 = true then some 2 else some 0)
def spec_l03Fits.k_2 (f0 : GFrame) (t1 : List GNote) (budget2 : Int) (q_1 : Bool) : Option (Int) := (if q_1 = true then some 1 else (spec_l01Length t1).bind fun t_5 => (if (decide (t_5 > (w64 f0.fSteps))) = true then spec_l03Fits.k_4 true else (spec_l00In budget2 0 20000).bind fun t_6 => spec_l03Fits.k_4 (!t_6)))
def spec_l03Fits (f0 : GFrame) (t1 : List GNote) (budget2 : Int) : Option (Int) := (spec_l02Frame f0).bind fun t_7 => (if (!t_7) = true then spec_l03Fits.k_2 f0 t1 budget2 true else (spec_l01Ok t1).bind fun t_8 => spec_l03Fits.k_2 f0 t1 budget2 (!t_8))
theorem spec_l03Fits.calls (f0 : GFrame) (t1 : List GNote) (budget2 : Int) (w : World) (r : Int) {C_a : Option Addr} {C_an : Nat} (C_c : Nat) (C_h : Rw w C_a 2 encGHammer f0.fHammers) (C_hn : f0.fHammers.length = C_an) {D_a : Option Addr} {D_an : Nat} (D_c : Nat) (D_h : Rw w D_a 2 encGNote t1) (D_hn : t1.length = D_an) (A_b : Nat) (hm0 : Mem w (bs [some A_b]) [⟨some A_b, 34, [(.int .i16 f0.fSteps), (.slice C_a C_an C_c)]⟩] w) (C_ha : f0.fHammers ≠ [] → aB C_a ∉ bs [some A_b]) (D_ha : t1 ≠ [] → aB D_a ∉ bs [some A_b]) (h : spec_l03Fits f0 t1 budget2 = some r) :
    Calls Try.prog 64 #[(.pointer (some ⟨A_b, 0, none⟩)), (.slice D_a D_an D_c), (.int .i64 budget2)] w fun e w' => ∃ v, e = .returned v ∧ (v = (.int .i64 r) ∧ Mem w (bs [some A_b]) [⟨some A_b, 34, [(.int .i16 f0.fSteps), (.slice C_a C_an C_c)]⟩] w') := by
  subst C_hn D_hn
  rw [spec_l03Fits] at h
  refine enter (args := [(.pointer (some ⟨A_b, 0, none⟩)), (.slice D_a t1.length D_c), (.int .i64 budget2)]) Try.func64 rfl Try.ntmps64 (by kernel_rfl) (L := [⟨some A_b, 34, [(.int .i16 f0.fSteps), (.slice C_a f0.fHammers.length C_c)]⟩]) (W := bs [some A_b]) hm0 ?_
  refine jc_seq (jc_region (qh [0] (qe (jx_then (jc_seq (jc_seq (jc_meet (fun (j : Bool) => match j with | q_1 => spec_l03Fits.k_2 f0 t1 budget2 q_1 = some r) (fun (j : Bool) => match j with | q_1 => [(0, [], (.pointer (some ⟨A_b, 0, none⟩))), (1, [], (.slice D_a t1.length D_c)), (2, [], (.int .i64 budget2)), (6, [], (.int .i64 0)), (14, [], (.bool q_1))]) (fun (j : Bool) => match j with | q_1 => [⟨some A_b, 34, [(.int .i16 f0.fSteps), (.slice C_a f0.fHammers.length C_c)]⟩]) ?_ ?_)))))))
  ·refine jc_region (qh [0] ?_)
   obtain ⟨t_7, ht_19, h⟩ := bd h
   refine tO (pc 0 (fun w hm => spec_l02Frame.calls f0 w _ C_c (hm.exRowW C_h C_ha) rfl A_b (hm.pass (N := [⟨some A_b, 34, [(.int .i16 f0.fSteps), (.slice C_a f0.fHammers.length C_c)]⟩]) [0] (by kernel_rfl) (by kernel_rfl)) (hm.exApart (N := [⟨some A_b, 34, [(.int .i16 f0.fSteps), (.slice C_a f0.fHammers.length C_c)]⟩]) C_h C_ha [0] (by kernel_rfl)) ht_19) ?_)
   rintro w v w' hm ⟨rfl, hm'⟩
   refine ⟨_, hm.appW (ps := [(0, ⟨some A_b, 34, [(.int .i16 f0.fSteps), (.slice C_a f0.fHammers.length C_c)]⟩)]) (N := []) hm' (by kernel_rfl) (by kernel_rfl), jkO ?_⟩
   clear hm hm'
   refine qf [(0, 0), (0, 0), (0, 1)] (qp 10 h (fun h => ?_) (fun h => ?_))
   ·exact qf [(0, 3), (0, 3), (0, 4)] (qe (qm true h [0]))
   ·obtain ⟨t_8, ht_21, h⟩ := bd h
    refine tO (pc 2 (fun w hm => spec_l01Ok.calls t1 w _ D_c (hm.exRowW D_h D_ha) rfl ht_21) ?_)
    rintro w v w' hm ⟨rfl, hm'⟩
    refine ⟨_, hm.app hm', jkO ?_⟩
    clear hm hm'
    exact qf [(0, 2), (0, 5)] (qe (qm (!t_8) h [0]))
  ·rintro q_1 h
   replace h : spec_l03Fits.k_2 f0 t1 budget2 q_1 = some r := h
   rw [spec_l03Fits.k_2] at h
   refine jx_then (qi h (fun h => ?_) (fun h => ?_))
   ·refine jc_seq (jc_region (qh [0] (qe (jx_then (jc_ret (jx_thenr ?_))))))
    obtain rfl := Option.some.inj h
    exact qr [] (fun w hm => ⟨rfl, hm.pk [0]⟩)
   ·refine jc_skip (jx_then (jc_seq (jc_seq (jc_meet (fun (j : Bool) => match j with | q_3 => spec_l03Fits.k_4 q_3 = some r) (fun (j : Bool) => match j with | q_3 => [(6, [], (.int .i64 0)), (27, [], (.bool q_3))]) (fun (j : Bool) => match j with | q_3 => [⟨some A_b, 34, [(.int .i16 f0.fSteps), (.slice C_a f0.fHammers.length C_c)]⟩]) ?_ ?_))))
    ·refine qg [⟨some A_b, 34, [(.int .i16 f0.fSteps), (.slice C_a f0.fHammers.length C_c)]⟩] 13 (qd [⟨0, 0, 0⟩,⟨2, 0, 0⟩,⟨3, 0, 0⟩,⟨4, 0, 0⟩,⟨5, 0, 0⟩,⟨6, 0, 0⟩] 7 [0] ?_)
     obtain ⟨t_5, ht_16, h⟩ := bd h
     refine tD 1 (pc 0 (fun w hm => spec_l01Length.calls t1 w _ D_c (hm.exRowW D_h D_ha) rfl ht_16) ?_)
     rintro w v w' hm ⟨rfl, hm'⟩
     refine ⟨_, hm.app hm', kD [0] ?_⟩
     clear hm hm'
     refine qd [⟨7, 0, 0⟩,⟨8, 0, 0⟩,⟨9, 0, 1⟩] 3 [0] (jd_split 23 (decide (t_5 > (w64 f0.fSteps))) (by kernel_rfl) (fun hc_17 => ?_) (fun hc_17 => ?_))
     ·replace h := ifT hc_17 h
      exact qd [⟨10, 0, 3⟩,⟨11, 0, 3⟩,⟨12, 0, 4⟩] 0 [0] (qz (qm true h [0]))
     ·replace h := ifF hc_17 h
      obtain ⟨t_6, ht_18, h⟩ := bd h
      refine tD 10 (pc 2 (fun w hm => spec_l00In.calls budget2 0 20000 w _ ht_18) ?_)
      rintro w v w' hm ⟨rfl, hm'⟩
      refine ⟨_, hm.app hm', kD [0] ?_⟩
      clear hm hm'
      exact qd [⟨11, 0, 2⟩,⟨12, 0, 5⟩] 0 [0] (qz (qm (!t_6) h [0]))
    ·rintro q_3 h
     replace h : spec_l03Fits.k_4 q_3 = some r := h
     rw [spec_l03Fits.k_4] at h
     refine jx_then (qi h (fun h => ?_) (fun h => ?_))
     ·refine jc_seq (jc_region (qh [0] (qe (jx_then (jc_ret (jx_thenr ?_))))))
      obtain rfl := Option.some.inj h
      exact qr [] (fun w hm => ⟨rfl, hm.pk [0]⟩)
     ·refine jc_skip (jx_then (jc_seq (jc_region (qh [0] (qe (jx_then (jc_ret ?_)))))))
      obtain rfl := Option.some.inj h
      exact qr [] (fun w hm => ⟨rfl, hm.pk [0]⟩)
/-! ### spec.l03Less -/
def spec_l03Less (f0 : GFrame) (track1 : Int) : Option (GFrame) := (if 0 ≤ track1 ∧ track1 ≤ (f0.fHammers.length : Int) then (if 0 ≤ (w64 (track1 + 1)) ∧ (w64 (track1 + 1)) ≤ (f0.fHammers.length : Int) then (if ([] : List GHammer).length + (f0.fHammers.take track1.toNat).length ≤ 4294967296 then (if (([] : List GHammer) ++ (f0.fHammers.take track1.toNat)).length + (f0.fHammers.drop (w64 (track1 + 1)).toNat).length ≤ 4294967296 then some (⟨f0.fSteps, ((([] : List GHammer) ++ (f0.fHammers.take track1.toNat)) ++ (f0.fHammers.drop (w64 (track1 + 1)).toNat))⟩ : GFrame) else none) else none) else none) else none)
theorem spec_l03Less.calls (f0 : GFrame) (track1 : Int) (w : World) (r : GFrame) (A_b : Nat) (C_o : Option Nat) {C_on : Nat} {C_c : Nat} {C_sp : List Value} (C_hn : f0.fHammers.length = C_on) (C_hs : C_o ≠ none → C_on ≤ C_c ∧ C_sp.length = (C_c - C_on) * 2) (C_ho : C_o = none → f0.fHammers = [] ∧ C_c = 0) (hm0 : Mem w (bs [some A_b, C_o]) [⟨some A_b, 34, [(.int .i16 f0.fSteps), (.slice (C_o.map fun b => ⟨b, 0, none⟩) C_on C_c)]⟩, ⟨C_o, 110, row encGHammer f0.fHammers C_sp⟩] w) (h : spec_l03Less f0 track1 = some r) :
    Calls Try.prog 65 #[(.pointer (some ⟨A_b, 0, none⟩)), (.int .i64 track1)] w fun e w' => ∃ v, e = .returned v ∧ (∃ (o0 : Option Nat) (c0 : Nat) (s0 : List Value) (n0 : Nat), r.fHammers.length = n0 ∧ (o0 ≠ none → n0 ≤ c0 ∧ s0.length = (c0 - n0) * 2) ∧ (o0 = none → r.fHammers = [] ∧ c0 = 0) ∧ v = .agg #[(.int .i16 r.fSteps), .slice (o0.map fun b => ⟨b, 0, none⟩) n0 c0] ∧ Mem w (bs [some A_b, C_o]) [⟨some A_b, 34, [(.int .i16 f0.fSteps), (.slice (C_o.map fun b => ⟨b, 0, none⟩) C_on C_c)]⟩, ⟨C_o, 110, row encGHammer f0.fHammers C_sp⟩, ⟨o0, 110, row encGHammer r.fHammers s0⟩] w') := by
  subst C_hn
  rw [spec_l03Less] at h
  refine enter (args := [(.pointer (some ⟨A_b, 0, none⟩)), (.int .i64 track1)]) Try.func65 rfl Try.ntmps65 (by kernel_rfl) (L := [⟨some A_b, 34, [(.int .i16 f0.fSteps), (.slice (C_o.map fun b => ⟨b, 0, none⟩) f0.fHammers.length C_c)]⟩, ⟨C_o, 110, row encGHammer f0.fHammers C_sp⟩]) (W := bs [some A_b, C_o]) hm0 ?_
  refine jc_seq (jc_region (tO (qa 0 (fun b_1 => jkO (qe (jx_then (jc_seq (qg [⟨some A_b, 34, [(.int .i16 f0.fSteps), (.slice (C_o.map fun b => ⟨b, 0, none⟩) f0.fHammers.length C_c)]⟩, ⟨C_o, 110, row encGHammer f0.fHammers C_sp⟩, ⟨some b_1, 34, [(.int .i16 0), (.slice none 0 0)]⟩] 17 (qd [⟨1, 0, 0⟩,⟨2, 0, 0⟩,⟨3, 0, 0⟩,⟨4, 0, 0⟩,⟨5, 0, 0⟩,⟨8, 0, 0⟩,⟨9, 0, 0⟩,⟨10, 0, 0⟩,⟨11, 0, 0⟩,⟨12, 0, 0⟩,⟨13, 0, 0⟩] 6 [0, 1, 2] ?_)))))))))
  obtain ⟨hg_2, h⟩ := gd h
  refine qv 6 0 [0, 1, 2] (fun w hm => slH_run (a := (C_o.map fun b => ⟨b, 0, none⟩)) (len := f0.fHammers.length) (cap := C_c) (size := 2) (h := track1) (by kernel_rfl) hg_2.1 (Int.le_trans hg_2.2 (Int.ofNat_le.2 (cap_le rfl C_hs C_ho)))) ?_
  obtain ⟨hg_3, h⟩ := gd h
  refine qv 14 0 [0, 1, 2] (fun w hm => slL_run (a := (C_o.map fun b => ⟨b, 0, none⟩)) (len := f0.fHammers.length) (cap := C_c) (size := 2) (l := (w64 (track1 + 1))) (by kernel_rfl) hg_3.1 (Int.le_trans hg_3.2 (Int.ofNat_le.2 (Nat.le_of_eq rfl)))) (tD 0 (qa 0 (fun b_4 => kD [0, 1, 2] ?_)))
  obtain ⟨hg_5, h⟩ := gd h
  refine tD 7 (p_apn 0 3 (some b_4) 110 0 track1.toNat 0 2 2 (C_o.map fun b => ⟨b, 0, none⟩) encGHammer ([] : List GHammer) (f0.fHammers.take track1.toNat) [] (.agg #[(.int .i8 0), (.int .i8 0)]) rfl (hd_len hg_2) (by kernel_rfl) (by kernel_rfl) (by kernel_rfl) encGHammer_len encGHammer_cell (fun _ => ⟨Nat.le_refl _, by simp⟩) (fun e => nomatch e) (fun w hm => ((hm.ow 1 C_o 110 f0.fHammers C_sp (fun e => (C_ho e).1) encGHammer_len).hd track1.toNat)) hg_5 (by kernel_rfl) (by kernel_rfl) (fun o_6 cap_7 sp_8 hs_9 ho_10 => kD [0, 1, 2] ?_))
  obtain ⟨hg_11, h⟩ := gd h
  refine tD 15 (p_apn 0 3 o_6 110 ((([] : List GHammer) ++ (f0.fHammers.take track1.toNat)).length) (f0.fHammers.length - (w64 (track1 + 1)).toNat) cap_7 2 2 (pa (C_o.map fun b => ⟨b, 0, none⟩) (w64 (track1 + 1)).toNat C_c 2) encGHammer (([] : List GHammer) ++ (f0.fHammers.take track1.toNat)) (f0.fHammers.drop (w64 (track1 + 1)).toNat) sp_8 (.agg #[(.int .i8 0), (.int .i8 0)]) rfl (tl_len rfl (w64 (track1 + 1))) (by kernel_rfl) (by kernel_rfl) (by kernel_rfl) encGHammer_len encGHammer_cell hs_9 ho_10 (fun w hm => ((hm.ow 1 C_o 110 f0.fHammers C_sp (fun e => (C_ho e).1) encGHammer_len).tl ((w64 (track1 + 1)).toNat) C_c (cap_le rfl C_hs C_ho))) hg_11 (by kernel_rfl) (by kernel_rfl) (fun o_12 cap_13 sp_14 hs_15 ho_16 => kD [0, 1, 2] (qd [⟨16, 0, 0⟩] 0 [0, 1, 2] (qz (jx_then (jc_seq (jc_region (qh [0,0,0,0,0,0] (tO (qs 0 [2] (jkO (qe (jx_then (jc_ret ?_))))))))))))))
  obtain rfl := Option.some.inj h
  exact qr [2] (fun w hm => ⟨o_12, cap_13, sp_14, (((([] : List GHammer) ++ (f0.fHammers.take track1.toNat)) ++ (f0.fHammers.drop (w64 (track1 + 1)).toNat)).length), rfl, hs_15, ho_16, rfl, hm.pk [0, 1, 3]⟩)
/-! ### spec.l02Pin -/
def spec_l02Pin (d0 : Arr 96 Int) (step1 : Int) (track2 : Int) : Option (Bool) := (ix d0.1 step1).bind fun x_1 => (if 0 ≤ (u64 track2) then some ((Int.tmod (bShr .u32 x_1 (u64 track2)) 2) == 1) else none)
theorem spec_l02Pin.calls (d0 : Arr 96 Int) (step1 : Int) (track2 : Int) (w : World) (r : Bool) {A_b A_q : Nat} (A_h : Rw w (some ⟨A_b, A_q, none⟩) 1 encU32 d0.1) (h : spec_l02Pin d0 step1 track2 = some r) :
    Calls Try.prog 192 #[(.pointer (some ⟨A_b, A_q, none⟩)), (.int .i64 step1), (.int .i64 track2)] w fun e w' => ∃ v, e = .returned v ∧ (v = (.bool r) ∧ Mem w [] [] w') := by
  rw [spec_l02Pin] at h
  refine enter (args := [(.pointer (some ⟨A_b, A_q, none⟩)), (.int .i64 step1), (.int .i64 track2)]) Try.func192 rfl Try.ntmps192 (by kernel_rfl) (L := []) (W := []) (Mem.start w) ?_
  refine jc_seq (jc_region (qh [0] (qe (jx_then (jc_seq (jc_region (qh [0,0,0] ?_)))))))
  obtain ⟨x_1, hx_1, h⟩ := bd h
  refine tO (qx 0 (some ⟨A_b, A_q, none⟩) 1 hx_1 d0.2 (A_h.sp hx_1) (jkO (tO (ql 0 false (fun w hm => ((hm.xr A_h).at hx_1)) (jkO (qh [0,0] ?_))))))
  obtain ⟨hg_2, h⟩ := gd h
  refine tO (p_shr 0 .u32 x_1 .u64 (u64 track2) (by kernel_rfl) (by kernel_rfl) hg_2 (jkO (qh [0,0,0] (qe (jx_then (jc_ret ?_))))))
  obtain rfl := Option.some.inj h
  exact qr [] (fun w hm => ⟨rfl, hm.pk []⟩)
/-! ### spec.l02Free -/
def spec_l02Free.k_3 : Option (Bool) := some true
def spec_l02Free.k_8 (i_4 : Int) (q_7 : Bool) : Option ((Int) ⊕ (Bool ⊕ Unit)) := (if q_7 = true then some (.inr (.inl false)) else some (.inl (w64 (i_4 + 1))))
def spec_l02Free.l_5 (f0 : GFrame) (d1 : Arr 96 Int) (step2 : Int) (track3 : Int) (x_2 : GHammer) : Int → Option ((Int) ⊕ (Bool ⊕ Unit))
  | i_4 => (if (decide (i_4 < (w64 x_2.fReady))) = true then (if (w64 f0.fSteps) ≠ 0 then (spec_l02Pin d1 (Int.tmod (w64 (step2 + i_4)) (w64 f0.fSteps)) track3).bind fun t_9 => (if t_9 = true then spec_l02Free.k_8 i_4 true else (if (w64 f0.fSteps) ≠ 0 then (spec_l02Pin d1 (Int.tmod (w64 ((w64 (step2 + (w64 f0.fSteps))) - i_4)) (w64 f0.fSteps)) track3).bind fun t_10 => spec_l02Free.k_8 i_4 t_10 else none)) else none) else some (.inr (.inr ())))
def spec_l02Free (f0 : GFrame) (d1 : Arr 96 Int) (step2 : Int) (track3 : Int) : Option (Bool) := (spec_l02Pin d1 step2 track3).bind fun t_1 => (if t_1 = true then some false else (ix f0.fHammers track3).bind fun x_2 => (loop (spec_l02Free.l_5 f0 d1 step2 track3 x_2) 1).bind fun t_6 => match t_6 with | .inl p => some p | .inr p => spec_l02Free.k_3)
theorem spec_l02Free.calls (f0 : GFrame) (d1 : Arr 96 Int) (step2 : Int) (track3 : Int) (w : World) (r : Bool) {C_a : Option Addr} {C_an : Nat} (C_c : Nat) (C_h : Rw w C_a 2 encGHammer f0.fHammers) (C_hn : f0.fHammers.length = C_an) {D_b D_q : Nat} (D_h : Rw w (some ⟨D_b, D_q, none⟩) 1 encU32 d1.1) (A_b : Nat) (hm0 : Mem w (bs [some A_b]) [⟨some A_b, 34, [(.int .i16 f0.fSteps), (.slice C_a C_an C_c)]⟩] w) (C_ha : f0.fHammers ≠ [] → aB C_a ∉ bs [some A_b]) (D_ha : d1.1 ≠ [] → aB (some ⟨D_b, D_q, none⟩) ∉ bs [some A_b]) (h : spec_l02Free f0 d1 step2 track3 = some r) :
    Calls Try.prog 174 #[(.pointer (some ⟨A_b, 0, none⟩)), (.pointer (some ⟨D_b, D_q, none⟩)), (.int .i64 step2), (.int .i64 track3)] w fun e w' => ∃ v, e = .returned v ∧ (v = (.bool r) ∧ Mem w (bs [some A_b]) [⟨some A_b, 34, [(.int .i16 f0.fSteps), (.slice C_a C_an C_c)]⟩] w') := by
  subst C_hn
  rw [spec_l02Free] at h
  refine enter (args := [(.pointer (some ⟨A_b, 0, none⟩)), (.pointer (some ⟨D_b, D_q, none⟩)), (.int .i64 step2), (.int .i64 track3)]) Try.func174 rfl Try.ntmps174 (by kernel_rfl) (L := [⟨some A_b, 34, [(.int .i16 f0.fSteps), (.slice C_a f0.fHammers.length C_c)]⟩]) (W := bs [some A_b]) hm0 ?_
  refine jc_seq (jc_region (qh [0] (qe (jx_then (jc_seq (jc_seq (jc_region (qh [0,0,0] ?_))))))))
  obtain ⟨t_1, ht_3, h⟩ := bd h
  refine tO (pc 0 (fun w hm => spec_l02Pin.calls d1 step2 track3 w _ (hm.exRowW D_h D_ha) ht_3) ?_)
  rintro w v w' hm ⟨rfl, hm'⟩
  refine ⟨_, hm.app hm', jkO ?_⟩
  clear hm hm'
  refine qe (jx_then (qi h (fun h => ?_) (fun h => ?_)))
  ·refine jc_seq (jc_region (qh [0] (qe (jx_then (jc_ret (jx_thenr ?_))))))
   obtain rfl := Option.some.inj h
   exact qr [] (fun w hm => ⟨rfl, hm.pk [0]⟩)
  ·refine jc_skip (jx_then (jc_seq (jc_region (qh [0,0,0,0,0,0] (qe (jx_then (jc_seq (jc_region (qh [0,0,0,0,0] ?_)))))))))
   obtain ⟨x_2, hx_5, h⟩ := bd h
   refine tO (qx 0 C_a 2 hx_5 rfl (C_h.sp hx_5) (jkO (qh [0] (tO (ql 0 false (fun w hm => (((hm.exRowW C_h C_ha).at hx_5).sub 1 1)) (jkO (qh [0,0] (qe (jx_then (jc_seq (jc_seq (jc_region (qh [0] (qe (jx_then (jc_meet (fun (_ : Unit) => spec_l02Free.k_3 = some r) (fun (_ : Unit) => [(8, [], (.bool false))]) (fun (_ : Unit) => [⟨some A_b, 34, [(.int .i16 f0.fSteps), (.slice C_a f0.fHammers.length C_c)]⟩]) ?_ ?_))))))))))))))))
   ·refine jc_block ?_
    obtain ⟨t_6, ht_93, hr_76⟩ := bd h
    refine jc_loop (fun (s : Int) (x : Unit) => match s, x with | i_4, _ => True) (fun (s : Int) (x : Unit) => match s, x with | i_4, _ => [(1, [], (.pointer (some ⟨D_b, D_q, none⟩))), (2, [], (.int .i64 step2)), (3, [], (.int .i64 track3)), (8, [], (.bool false)), (9, [], (.int .i64 (w64 f0.fSteps))), (10, [], (.int .i64 (w64 x_2.fReady))), (11, [], (.int .i64 i_4))]) (fun (s : Int) (x : Unit) => match s, x with | i_4, _ => [⟨some A_b, 34, [(.int .i16 f0.fSteps), (.slice C_a f0.fHammers.length C_c)]⟩]) ht_93 () trivial (by kernel_rfl) [0] (by kernel_rfl) (by kernel_rfl) ?_
    rintro i_4 _ y_77 _ h
    rw [spec_l02Free.l_5] at h
    refine jc_seq (jc_seq (jc_region (qh [0,0,0] (qe (jx_then (qi h (fun h => ?_) (fun h => ?_)))))))
    ·refine jc_skip (jx_then (jc_seq (jc_block (jc_seq (jc_meet (fun (j : Bool) => match j with | q_7 => spec_l02Free.k_8 i_4 q_7 = some y_77) (fun (j : Bool) => match j with | q_7 => [(1, [], (.pointer (some ⟨D_b, D_q, none⟩))), (2, [], (.int .i64 step2)), (3, [], (.int .i64 track3)), (8, [], (.bool false)), (9, [], (.int .i64 (w64 f0.fSteps))), (10, [], (.int .i64 (w64 x_2.fReady))), (11, [], (.int .i64 i_4)), (54, [], (.bool q_7))]) (fun (j : Bool) => match j with | q_7 => [⟨some A_b, 34, [(.int .i16 f0.fSteps), (.slice C_a f0.fHammers.length C_c)]⟩]) ?_ ?_)))))
     ·refine jc_region (qh [0,0,0,0,0] ?_)
      obtain ⟨hg_87, h⟩ := gd h
      refine tO (p_rem 0 .i64 (w64 (step2 + i_4)) (w64 f0.fSteps) (by kernel_rfl) (by kernel_rfl) hg_87 (jkO (qh [0] ?_)))
      obtain ⟨t_9, ht_88, h⟩ := bd h
      refine tO (pc 0 (fun w hm => spec_l02Pin.calls d1 (Int.tmod (w64 (step2 + i_4)) (w64 f0.fSteps)) track3 w _ (hm.exRowW D_h D_ha) ht_88) ?_)
      rintro w v w' hm ⟨rfl, hm'⟩
      refine ⟨_, hm.app hm', jkO ?_⟩
      clear hm hm'
      refine qf [(0, 0), (0, 1), (0, 1), (0, 1), (0, 1), (0, 1), (0, 1), (0, 1)] (qp 43 h (fun h => ?_) (fun h => ?_))
      ·exact qf [(0, 3), (0, 3), (0, 3), (0, 4)] (qe (qm true h [0]))
      ·obtain ⟨hg_90, h⟩ := gd h
       refine tO (p_rem 2 .i64 (w64 ((w64 (step2 + (w64 f0.fSteps))) - i_4)) (w64 f0.fSteps) (by kernel_rfl) (by kernel_rfl) hg_90 (jkO (qf [(0, 2)] ?_)))
       obtain ⟨t_10, ht_91, h⟩ := bd h
       refine tO (pc 2 (fun w hm => spec_l02Pin.calls d1 (Int.tmod (w64 ((w64 (step2 + (w64 f0.fSteps))) - i_4)) (w64 f0.fSteps)) track3 w _ (hm.exRowW D_h D_ha) ht_91) ?_)
       rintro w v w' hm ⟨rfl, hm'⟩
       refine ⟨_, hm.app hm', jkO ?_⟩
       clear hm hm'
       exact qf [(0, 5)] (qe (qm t_10 h [0]))
     ·rintro q_7 h
      replace h : spec_l02Free.k_8 i_4 q_7 = some y_77 := h
      rw [spec_l02Free.k_8] at h
      refine jx_then (qi h (fun h => ?_) (fun h => ?_))
      ·refine jc_seq (jc_region (qh [0] (qe (jx_then (jc_ret (jx_inr (jx_thenr (jx_leaver (.inl false) (Option.some.inj h).symm (fun e_86 => ?_)))))))))
       subst e_86
       refine jx_inr (jx_thenr (jx_thenr ?_))
       obtain rfl := Option.some.inj hr_76
       exact qr [] (fun w hm => ⟨rfl, hm.pk [0]⟩)
      ·exact jc_skip (jx_inn (jx_then (jc_region (qh [0,0,0] (qe (qb (w64 (i_4 + 1)) () h trivial [0]))))))
    ·refine jc_exit (jx_thenx (jx_leave (.inr ()) (Option.some.inj h).symm (fun e_92 => ?_)))
     subst e_92
     exact jx_ine (qm () hr_76 [0])
   ·rintro _ h
    replace h : spec_l02Free.k_3 = some r := h
    rw [spec_l02Free.k_3] at h
    refine jx_then (jc_seq (jc_region (qh [0] (qe (jx_then (jc_ret ?_))))))
    obtain rfl := Option.some.inj h
    exact qr [] (fun w hm => ⟨rfl, hm.pk [0]⟩)
/-! ### spec.l03Tracks -/
def spec_l03Tracks.k_2 (xs_1 : List Int) : Option ((List Int)) := some xs_1
def spec_l03Tracks.k_8 (xs_3 : List Int) (i_4 : Int) (q_7 : Bool) : Option (((List Int) × Int) ⊕ ((List Int))) := (if q_7 = true then (if xs_3.length + ([i_4] : List Int).length ≤ 4294967296 then some (.inl ((xs_3 ++ ([i_4] : List Int)), (w64 (i_4 + 1)))) else none) else some (.inl (xs_3, (w64 (i_4 + 1)))))
def spec_l03Tracks.l_5 (f0 : GFrame) (d1 : Arr 96 Int) (n2 : GNote) : ((List Int) × Int) → Option (((List Int) × Int) ⊕ ((List Int)))
  | (xs_3, i_4) => (if (decide (i_4 < (f0.fHammers.length : Int))) = true then (ix f0.fHammers i_4).bind fun x_9 => (if (x_9.fPitch == n2.fPitch) = true then (spec_l02Free f0 d1 (w64 n2.fAt) i_4).bind fun t_10 => spec_l03Tracks.k_8 xs_3 i_4 t_10 else spec_l03Tracks.k_8 xs_3 i_4 false) else some (.inr xs_3))
def spec_l03Tracks (f0 : GFrame) (d1 : Arr 96 Int) (n2 : GNote) : Option ((List Int)) := (loop (spec_l03Tracks.l_5 f0 d1 n2) (([] : List Int), 0)).bind fun t_6 => spec_l03Tracks.k_2 t_6
theorem spec_l03Tracks.calls (f0 : GFrame) (d1 : Arr 96 Int) (n2 : GNote) (w : World) (r : (List Int)) {C_a : Option Addr} {C_an : Nat} (C_c : Nat) (C_h : Rw w C_a 2 encGHammer f0.fHammers) (C_hn : f0.fHammers.length = C_an) {D_b D_q : Nat} (D_h : Rw w (some ⟨D_b, D_q, none⟩) 1 encU32 d1.1) (A_b : Nat) (hm0 : Mem w (bs [some A_b]) [⟨some A_b, 34, [(.int .i16 f0.fSteps), (.slice C_a C_an C_c)]⟩] w) (C_ha : f0.fHammers ≠ [] → aB C_a ∉ bs [some A_b]) (D_ha : d1.1 ≠ [] → aB (some ⟨D_b, D_q, none⟩) ∉ bs [some A_b]) (h : spec_l03Tracks f0 d1 n2 = some r) :
    Calls Try.prog 149 #[(.pointer (some ⟨A_b, 0, none⟩)), (.pointer (some ⟨D_b, D_q, none⟩)), (.agg #[(.int .i16 n2.fAt), (.int .i8 n2.fPitch)])] w fun e w' => ∃ v, e = .returned v ∧ (∃ (o0 : Option Nat) (c0 : Nat) (s0 : List Value) (n0 : Nat), r.length = n0 ∧ (o0 ≠ none → n0 ≤ c0 ∧ s0.length = (c0 - n0) * 1) ∧ (o0 = none → r = [] ∧ c0 = 0) ∧ v = .slice (o0.map fun b => ⟨b, 0, none⟩) n0 c0 ∧ Mem w (bs [some A_b]) [⟨some A_b, 34, [(.int .i16 f0.fSteps), (.slice C_a C_an C_c)]⟩, ⟨o0, 2, row encI64 r s0⟩] w') := by
  subst C_hn
  rw [spec_l03Tracks] at h
  refine enter (args := [(.pointer (some ⟨A_b, 0, none⟩)), (.pointer (some ⟨D_b, D_q, none⟩)), (.agg #[(.int .i16 n2.fAt), (.int .i8 n2.fPitch)])]) Try.func149 rfl Try.ntmps149 (by kernel_rfl) (L := [⟨some A_b, 34, [(.int .i16 f0.fSteps), (.slice C_a f0.fHammers.length C_c)]⟩]) (W := bs [some A_b]) hm0 ?_
  refine jc_seq (jc_region (tO (qa 0 (fun b_1 => jkO (qh [0] (qe (jx_then (jc_seq (jc_region (tO (qa 0 (fun b_2 => jkO (qh [0] (qe (jx_then (jc_seq (jc_seq (jc_region (qh [0] (qe (jx_then (jc_meet (fun (j : (List Int) × (Option Nat) × Nat × (List Value) × Nat) => match j with | ⟨xs_1, o_201, cap_202, sp_203, n_204⟩ => spec_l03Tracks.k_2 xs_1 = some r ∧ (xs_1.length = n_204) ∧ ((o_201 ≠ none → n_204 ≤ cap_202 ∧ sp_203.length = (cap_202 - n_204) * 1)) ∧ ((o_201 = none → xs_1 = [] ∧ cap_202 = 0))) (fun (j : (List Int) × (Option Nat) × Nat × (List Value) × Nat) => match j with | ⟨xs_1, o_201, cap_202, sp_203, n_204⟩ => [(6, [], (.slice none 0 0)), (7, [], (.slice (o_201.map fun b => ⟨b, 0, none⟩) n_204 cap_202))]) (fun (j : (List Int) × (Option Nat) × Nat × (List Value) × Nat) => match j with | ⟨xs_1, o_201, cap_202, sp_203, n_204⟩ => [⟨some A_b, 34, [(.int .i16 f0.fSteps), (.slice C_a f0.fHammers.length C_c)]⟩, ⟨some b_1, 104, [(.int .i16 n2.fAt), (.int .i8 n2.fPitch)]⟩, ⟨o_201, 2, row encI64 xs_1 sp_203⟩]) ?_ ?_))))))))))))))))))))))
  ·refine jc_block ?_
   obtain ⟨t_6, ht_270, hr_251⟩ := bd h
   refine jc_loop (fun (s : (List Int) × Int) (x : (Option Nat) × Nat × (List Value) × Nat) => match s, x with | ⟨xs_3, i_4⟩, ⟨o_245, cap_246, sp_247, n_248⟩ => (xs_3.length = n_248) ∧ ((o_245 ≠ none → n_248 ≤ cap_246 ∧ sp_247.length = (cap_246 - n_248) * 1)) ∧ ((o_245 = none → xs_3 = [] ∧ cap_246 = 0))) (fun (s : (List Int) × Int) (x : (Option Nat) × Nat × (List Value) × Nat) => match s, x with | ⟨xs_3, i_4⟩, ⟨o_245, cap_246, sp_247, n_248⟩ => [(0, [], (.pointer (some ⟨A_b, 0, none⟩))), (1, [], (.pointer (some ⟨D_b, D_q, none⟩))), (5, [], (.pointer (some ⟨b_1, 0, none⟩))), (6, [], (.slice none 0 0)), (7, [], (.slice (o_245.map fun b => ⟨b, 0, none⟩) n_248 cap_246)), (8, [], (.int .i64 i_4))]) (fun (s : (List Int) × Int) (x : (Option Nat) × Nat × (List Value) × Nat) => match s, x with | ⟨xs_3, i_4⟩, ⟨o_245, cap_246, sp_247, n_248⟩ => [⟨some A_b, 34, [(.int .i16 f0.fSteps), (.slice C_a f0.fHammers.length C_c)]⟩, ⟨some b_1, 104, [(.int .i16 n2.fAt), (.int .i8 n2.fPitch)]⟩, ⟨o_245, 2, row encI64 xs_3 sp_247⟩]) ht_270 ⟨(some b_2), 0, [], 0⟩ ⟨rfl, (fun _ => ⟨Nat.le_refl _, by simp⟩), (fun e => nomatch e)⟩ (by kernel_rfl) [0, 1, 2] (by kernel_rfl) (by kernel_rfl) ?_
   rintro ⟨xs_3, i_4⟩ ⟨o_245, cap_246, sp_247, n_248⟩ y_252 ⟨rfl, hs_249, ho_250⟩ h
   rw [spec_l03Tracks.l_5] at h
   refine jc_seq (jc_seq (jc_region (qh [0,0,0,0,0,0,0] (qe (jx_then (qi h (fun h => ?_) (fun h => ?_)))))))
   ·refine jc_skip (jx_then (jc_seq (jc_block (jc_seq (jc_meet (fun (j : Bool) => match j with | q_7 => spec_l03Tracks.k_8 xs_3 i_4 q_7 = some y_252) (fun (j : Bool) => match j with | q_7 => [(0, [], (.pointer (some ⟨A_b, 0, none⟩))), (1, [], (.pointer (some ⟨D_b, D_q, none⟩))), (5, [], (.pointer (some ⟨b_1, 0, none⟩))), (6, [], (.slice none 0 0)), (7, [], (.slice (o_245.map fun b => ⟨b, 0, none⟩) xs_3.length cap_246)), (8, [], (.int .i64 i_4)), (38, [], (.bool q_7))]) (fun (j : Bool) => match j with | q_7 => [⟨some A_b, 34, [(.int .i16 f0.fSteps), (.slice C_a f0.fHammers.length C_c)]⟩, ⟨some b_1, 104, [(.int .i16 n2.fAt), (.int .i8 n2.fPitch)]⟩, ⟨o_245, 2, row encI64 xs_3 sp_247⟩]) ?_ ?_)))))
    ·refine qg [⟨some A_b, 34, [(.int .i16 f0.fSteps), (.slice C_a f0.fHammers.length C_c)]⟩, ⟨some b_1, 104, [(.int .i16 n2.fAt), (.int .i8 n2.fPitch)]⟩, ⟨o_245, 2, row encI64 xs_3 sp_247⟩] 20 (qd [⟨0, 0, 0⟩,⟨1, 0, 0⟩,⟨2, 0, 0⟩,⟨3, 0, 0⟩,⟨4, 0, 0⟩,⟨8, 0, 0⟩,⟨9, 1, 0⟩] 13 [0, 1, 2] ?_)
     obtain ⟨x_9, hx_266, h⟩ := bd h
     refine qv 5 0 [0, 1, 2] (fun w hm => idx_run (a := C_a) (len := f0.fHammers.length) (s := 2) (j := i_4) (by kernel_rfl) (ix_some hx_266).1 (ltn hx_266 rfl) (C_h.sp hx_266)) (qd [⟨6, 0, 0⟩] 11 [0, 1, 2] (qv 7 0 [0, 1, 2] (fun w hm => ld_run (b := aB C_a) (off := (aO C_a + i_4.toNat * 2)) (s := 1) (agg := false) (vs := (((encGHammer x_9).drop 0).take 1)) (by kernel_rfl) (by kernel_rfl) (.inr rfl) (((hm.exRowW C_h C_ha).at hx_266).sub 0 1)) (qd [⟨10, 0, 0⟩,⟨11, 0, 0⟩,⟨12, 0, 1⟩,⟨13, 0, 1⟩,⟨14, 0, 1⟩,⟨15, 1, 1⟩,⟨16, 0, 1⟩,⟨17, 0, 1⟩] 2 [0, 1, 2] (jd_split 30 (x_9.fPitch == n2.fPitch) (by kernel_rfl) (fun hc_267 => ?_) (fun hc_267 => ?_)))))
     ·replace h := ifT hc_267 h
      obtain ⟨t_10, ht_268, h⟩ := bd h
      refine tD 18 (pc 2 (fun w hm => spec_l02Free.calls f0 d1 (w64 n2.fAt) i_4 w _ C_c (hm.exRowW C_h C_ha) rfl (hm.exRowW D_h D_ha) A_b (hm.pass (N := [⟨some A_b, 34, [(.int .i16 f0.fSteps), (.slice C_a f0.fHammers.length C_c)]⟩]) [0] (by kernel_rfl) (by kernel_rfl)) (hm.exApart (N := [⟨some A_b, 34, [(.int .i16 f0.fSteps), (.slice C_a f0.fHammers.length C_c)]⟩]) C_h C_ha [0] (by kernel_rfl)) (hm.exApart (N := [⟨some A_b, 34, [(.int .i16 f0.fSteps), (.slice C_a f0.fHammers.length C_c)]⟩]) D_h D_ha [0] (by kernel_rfl)) ht_268) ?_)
      rintro w v w' hm ⟨rfl, hm'⟩
      refine ⟨_, hm.appW (ps := [(0, ⟨some A_b, 34, [(.int .i16 f0.fSteps), (.slice C_a f0.fHammers.length C_c)]⟩)]) (N := []) hm' (by kernel_rfl) (by kernel_rfl), kD [0, 1, 2] ?_⟩
      clear hm hm'
      exact qd [⟨19, 0, 4⟩] 0 [0, 1, 2] (qz (qm t_10 h [0, 1, 2]))
     ·replace h := ifF hc_267 h
      exact qd [⟨18, 0, 3⟩,⟨19, 0, 5⟩] 0 [0, 1, 2] (qz (qm false h [0, 1, 2]))
    ·rintro q_7 h
     replace h : spec_l03Tracks.k_8 xs_3 i_4 q_7 = some y_252 := h
     rw [spec_l03Tracks.k_8] at h
     refine jx_then (qi h (fun h => ?_) (fun h => ?_))
     ·refine jc_region (qh [0,0] (tO (qa 0 (fun b_259 => jkO ?_))))
      obtain ⟨hg_260, h⟩ := gd h
      exact tO (p_apn 0 2 o_245 2 xs_3.length 1 cap_246 1 8 (some ⟨b_259, 0, none⟩) encI64 xs_3 ([i_4] : List Int) sp_247 (.int .i64 0) rfl rfl (by kernel_rfl) (by kernel_rfl) (by kernel_rfl) encI64_len encI64_cell hs_249 ho_250 (fun w hm => (hm.ow 3 (some b_259) 2 ([i_4] : List Int) [] (fun e => nomatch e) encI64_len)) hg_260 (by kernel_rfl) (by kernel_rfl) (fun o_261 cap_262 sp_263 hs_264 ho_265 => jkO (qh [0] (qe (jx_inn (jx_then (jc_region (qh [0,0,0] (qe (qb ((xs_3 ++ ([i_4] : List Int)), (w64 (i_4 + 1))) ⟨o_261, cap_262, sp_263, (xs_3 ++ ([i_4] : List Int)).length⟩ h ⟨rfl, hs_264, ho_265⟩ [0, 1, 2]))))))))))
     ·exact jc_skip (jx_inn (jx_then (jc_region (qh [0,0,0] (qe (qb (xs_3, (w64 (i_4 + 1))) ⟨o_245, cap_246, sp_247, xs_3.length⟩ h ⟨rfl, hs_249, ho_250⟩ [0, 1, 2]))))))
   ·refine jc_exit (jx_thenx (jx_leave xs_3 (Option.some.inj h).symm (fun e_269 => ?_)))
    subst e_269
    exact jx_ine (qm ⟨xs_3, o_245, cap_246, sp_247, xs_3.length⟩ ⟨hr_251, rfl, hs_249, ho_250⟩ [0, 1, 2])
  ·rintro ⟨xs_1, o_201, cap_202, sp_203, n_204⟩ ⟨h, rfl, hs_205, ho_206⟩
   replace h : spec_l03Tracks.k_2 xs_1 = some r := h
   rw [spec_l03Tracks.k_2] at h
   refine jx_then (jc_seq (jc_region (qh [0,0] (qe (jx_then (jc_ret ?_))))))
   obtain rfl := Option.some.inj h
   exact qr [] (fun w hm => ⟨o_201, cap_202, sp_203, xs_1.length, rfl, hs_205, ho_206, rfl, hm.pk [0, 2]⟩)
/-! ### spec.l03Bit -/
def spec_l03Bit (track0 : Int) : Option (Int) := (if 0 ≤ (u64 track0) then some (bShl .u32 1 (u64 track0)) else none)
theorem spec_l03Bit.calls (track0 : Int) (w : World) (r : Int) (h : spec_l03Bit track0 = some r) :
    Calls Try.prog 150 #[(.int .i64 track0)] w fun e w' => ∃ v, e = .returned v ∧ (v = (.int .u32 r) ∧ Mem w [] [] w') := by
  rw [spec_l03Bit] at h
  refine enter (args := [(.int .i64 track0)]) Try.func150 rfl Try.ntmps150 (by kernel_rfl) (L := []) (W := []) (Mem.start w) ?_
  refine jc_seq (jc_region (qh [0] (qe (jx_then (jc_seq (jc_region (qh [0,0] ?_)))))))
  obtain ⟨hg_1, h⟩ := gd h
  refine tO (p_shl 0 .u32 1 .u64 (u64 track0) (by kernel_rfl) (by kernel_rfl) hg_1 (jkO (qh [0] (qe (jx_then (jc_ret ?_))))))
  obtain rfl := Option.some.inj h
  exact qr [] (fun w hm => ⟨rfl, hm.pk []⟩)
/-! ### (*spec.l03Pinner).from -/
def spec_l03Pinner_from.k_12 (p0 : Gl03Pinner) (a_3 : Arr 96 Int) (q_4 : Bool) (i_5 : Int) (i_6 : Int) (q_7 : Bool) (a_8 : Arr 96 Int) (q_9 : Bool) (a_10 : Arr 96 Int) (i_11 : Int) : Option (Bool × Gl03Pinner) := some (false, (⟨(⟨p0.fframe.fSteps, p0.fframe.fHammers⟩ : GFrame), p0.ftune, a_3, q_4, i_5, i_6, q_7, a_8, q_9, a_10, i_11⟩ : Gl03Pinner))
def spec_l03Pinner_from.k_28 (self_ : Gl03Pinner → Int → Int → Option (Bool × Gl03Pinner)) (p0 : Gl03Pinner) (i1 : Int) (x_1 : GNote) (a_13 : Arr 96 Int) (q_14 : Bool) (i_15 : Int) (i_16 : Int) (q_17 : Bool) (a_18 : Arr 96 Int) (q_19 : Bool) (a_20 : Arr 96 Int) (i_21 : Int) (i_22 : Int) (t_26 : Int) (i_27 : Int) : Option (((Arr 96 Int) × Bool × Int × Int × Bool × (Arr 96 Int) × Bool × (Arr 96 Int) × Int × Int) ⊕ ((Bool × Gl03Pinner) ⊕ ((Arr 96 Int) × Bool × Int × Int × Bool × (Arr 96 Int) × Bool × (Arr 96 Int) × Int))) := (if ((q_14 && q_19) && (decide (i_27 ≥ i_21))) = true then some (.inl (a_13, q_14, i_15, (w64 (i_16 + 1)), q_17, a_18, q_19, a_20, i_21, (w64 (i_22 + 1)))) else (ix a_18.1 x_1.fAt).bind fun x_29 => (ix a_18.1 x_1.fAt).bind fun x_30 => (self_ (⟨(⟨p0.fframe.fSteps, p0.fframe.fHammers⟩ : GFrame), p0.ftune, a_13, q_14, i_15, (w64 (i_16 + 1)), q_17, (Arr.set a_18 x_1.fAt (bOr .u32 x_29 t_26)), q_19, a_20, i_21⟩ : Gl03Pinner) (w64 (i1 + 1)) i_27).bind fun t_31 => (if t_31.1 = true then some (.inr (.inl (true, (⟨(⟨p0.fframe.fSteps, p0.fframe.fHammers⟩ : GFrame), p0.ftune, t_31.2.fold, t_31.2.flike, t_31.2.fbudget, t_31.2.ftries, t_31.2.fover, t_31.2.fdrum, t_31.2.ffound, t_31.2.fbest, t_31.2.fleast⟩ : Gl03Pinner)))) else (ix t_31.2.fdrum.1 x_1.fAt).bind fun x_32 => (ix t_31.2.fdrum.1 x_1.fAt).bind fun x_33 => some (.inl (t_31.2.fold, t_31.2.flike, t_31.2.fbudget, t_31.2.ftries, t_31.2.fover, (Arr.set t_31.2.fdrum x_1.fAt (bClr .u32 x_32 t_26)), t_31.2.ffound, t_31.2.fbest, t_31.2.fleast, (w64 (i_22 + 1))))))
def spec_l03Pinner_from.l_23 (self_ : Gl03Pinner → Int → Int → Option (Bool × Gl03Pinner)) (p0 : Gl03Pinner) (i1 : Int) (made2 : Int) (x_1 : GNote) (t_2 : (List Int)) : ((Arr 96 Int) × Bool × Int × Int × Bool × (Arr 96 Int) × Bool × (Arr 96 Int) × Int × Int) → Option (((Arr 96 Int) × Bool × Int × Int × Bool × (Arr 96 Int) × Bool × (Arr 96 Int) × Int × Int) ⊕ ((Bool × Gl03Pinner) ⊕ ((Arr 96 Int) × Bool × Int × Int × Bool × (Arr 96 Int) × Bool × (Arr 96 Int) × Int)))
  | (a_13, q_14, i_15, i_16, q_17, a_18, q_19, a_20, i_21, i_22) => (if (decide (i_22 < (t_2.length : Int))) = true then (if (i_16 == i_15) = true then some (.inr (.inl (true, (⟨(⟨p0.fframe.fSteps, p0.fframe.fHammers⟩ : GFrame), p0.ftune, a_13, q_14, i_15, i_16, true, a_18, q_19, a_20, i_21⟩ : Gl03Pinner)))) else (ix t_2 i_22).bind fun x_25 => (spec_l03Bit x_25).bind fun t_26 => (ix a_13.1 x_1.fAt).bind fun x_34 => (if ((bAnd .u32 x_34 t_26) == 0) = true then spec_l03Pinner_from.k_28 self_ p0 i1 x_1 a_13 q_14 i_15 i_16 q_17 a_18 q_19 a_20 i_21 i_22 t_26 (w64 (made2 + 1)) else spec_l03Pinner_from.k_28 self_ p0 i1 x_1 a_13 q_14 i_15 i_16 q_17 a_18 q_19 a_20 i_21 i_22 t_26 made2)) else some (.inr (.inr (a_13, q_14, i_15, i_16, q_17, a_18, q_19, a_20, i_21))))
def spec_l03Pinner_from.step (self_ : Gl03Pinner → Int → Int → Option (Bool × Gl03Pinner)) (p0 : Gl03Pinner) (i1 : Int) (made2 : Int) : Option (Bool × Gl03Pinner) := (if (i1 == (p0.ftune.length : Int)) = true then some ((!p0.flike), (⟨(⟨p0.fframe.fSteps, p0.fframe.fHammers⟩ : GFrame), p0.ftune, p0.fold, p0.flike, p0.fbudget, p0.ftries, p0.fover, p0.fdrum, true, p0.fdrum, made2⟩ : Gl03Pinner)) else (ix p0.ftune i1).bind fun x_1 => (spec_l03Tracks (⟨p0.fframe.fSteps, p0.fframe.fHammers⟩ : GFrame) p0.fdrum x_1).bind fun t_2 => (loop (spec_l03Pinner_from.l_23 self_ p0 i1 made2 x_1 t_2) (p0.fold, p0.flike, p0.fbudget, p0.ftries, p0.fover, p0.fdrum, p0.ffound, p0.fbest, p0.fleast, 0)).bind fun t_24 => match t_24 with | .inl p => some p | .inr p => spec_l03Pinner_from.k_12 p0 p.1 p.2.1 p.2.2.1 p.2.2.2.1 p.2.2.2.2.1 p.2.2.2.2.2.1 p.2.2.2.2.2.2.1 p.2.2.2.2.2.2.2.1 p.2.2.2.2.2.2.2.2)
def spec_l03Pinner_from.rec_ : Nat → Gl03Pinner → Int → Int → Option (Bool × Gl03Pinner)
  | 0 => fun p0 i1 made2 => none
  | fu + 1 => spec_l03Pinner_from.step (spec_l03Pinner_from.rec_ fu)
def spec_l03Pinner_from (p0 : Gl03Pinner) (i1 : Int) (made2 : Int) : Option (Bool × Gl03Pinner) := spec_l03Pinner_from.rec_ 200 p0 i1 made2
set_option maxHeartbeats 8000000 in
theorem spec_l03Pinner_from.step_calls (self_ : Gl03Pinner → Int → Int → Option (Bool × Gl03Pinner)) (hself : ∀ (p0 : Gl03Pinner) (i1 : Int) (made2 : Int) (w : World) (r : Bool × Gl03Pinner) {D_a : Option Addr} {D_an : Nat} (D_c : Nat) (D_h : Rw w D_a 2 encGHammer p0.fframe.fHammers) (D_hn : p0.fframe.fHammers.length = D_an) {E_a : Option Addr} {E_an : Nat} (E_c : Nat) (E_h : Rw w E_a 2 encGNote p0.ftune) (E_hn : p0.ftune.length = E_an) (A_b : Nat) (B_b : Nat) (hm0 : Mem w (bs [some A_b, some B_b]) [⟨some A_b, 165, ((.pointer (some ⟨B_b, 0, none⟩)) :: (.slice E_a E_an E_c) :: (seg (Value.int .u32) 96 p0.fold.1 ((.bool p0.flike) :: (.int .i64 p0.fbudget) :: (.int .i64 p0.ftries) :: (.bool p0.fover) :: (seg (Value.int .u32) 96 p0.fdrum.1 ((.bool p0.ffound) :: (seg (Value.int .u32) 96 p0.fbest.1 [(.int .i64 p0.fleast)]))))))⟩, ⟨some B_b, 34, [(.int .i16 p0.fframe.fSteps), (.slice D_a D_an D_c)]⟩] w) (D_ha : p0.fframe.fHammers ≠ [] → aB D_a ∉ bs [some A_b, some B_b]) (E_ha : p0.ftune ≠ [] → aB E_a ∉ bs [some A_b, some B_b]) (h : self_ p0 i1 made2 = some r),
    Calls Try.prog 113 #[(.pointer (some ⟨A_b, 0, none⟩)), (.int .i64 i1), (.int .i64 made2)] w fun e w' => ∃ v, e = .returned v ∧ (v = (.bool r.1) ∧ Mem w (bs [some A_b, some B_b]) [⟨some A_b, 165, ((.pointer (some ⟨B_b, 0, none⟩)) :: (.slice E_a E_an E_c) :: (seg (Value.int .u32) 96 r.2.fold.1 ((.bool r.2.flike) :: (.int .i64 r.2.fbudget) :: (.int .i64 r.2.ftries) :: (.bool r.2.fover) :: (seg (Value.int .u32) 96 r.2.fdrum.1 ((.bool r.2.ffound) :: (seg (Value.int .u32) 96 r.2.fbest.1 [(.int .i64 r.2.fleast)]))))))⟩, ⟨some B_b, 34, [(.int .i16 p0.fframe.fSteps), (.slice D_a D_an D_c)]⟩] w')) (p0 : Gl03Pinner) (i1 : Int) (made2 : Int) (w : World) (r : Bool × Gl03Pinner) {D_a : Option Addr} {D_an : Nat} (D_c : Nat) (D_h : Rw w D_a 2 encGHammer p0.fframe.fHammers) (D_hn : p0.fframe.fHammers.length = D_an) {E_a : Option Addr} {E_an : Nat} (E_c : Nat) (E_h : Rw w E_a 2 encGNote p0.ftune) (E_hn : p0.ftune.length = E_an) (A_b : Nat) (B_b : Nat) (hm0 : Mem w (bs [some A_b, some B_b]) [⟨some A_b, 165, ((.pointer (some ⟨B_b, 0, none⟩)) :: (.slice E_a E_an E_c) :: (seg (Value.int .u32) 96 p0.fold.1 ((.bool p0.flike) :: (.int .i64 p0.fbudget) :: (.int .i64 p0.ftries) :: (.bool p0.fover) :: (seg (Value.int .u32) 96 p0.fdrum.1 ((.bool p0.ffound) :: (seg (Value.int .u32) 96 p0.fbest.1 [(.int .i64 p0.fleast)]))))))⟩, ⟨some B_b, 34, [(.int .i16 p0.fframe.fSteps), (.slice D_a D_an D_c)]⟩] w) (D_ha : p0.fframe.fHammers ≠ [] → aB D_a ∉ bs [some A_b, some B_b]) (E_ha : p0.ftune ≠ [] → aB E_a ∉ bs [some A_b, some B_b]) (h : spec_l03Pinner_from.step self_ p0 i1 made2 = some r) :
    Calls Try.prog 113 #[(.pointer (some ⟨A_b, 0, none⟩)), (.int .i64 i1), (.int .i64 made2)] w fun e w' => ∃ v, e = .returned v ∧ (v = (.bool r.1) ∧ Mem w (bs [some A_b, some B_b]) [⟨some A_b, 165, ((.pointer (some ⟨B_b, 0, none⟩)) :: (.slice E_a E_an E_c) :: (seg (Value.int .u32) 96 r.2.fold.1 ((.bool r.2.flike) :: (.int .i64 r.2.fbudget) :: (.int .i64 r.2.ftries) :: (.bool r.2.fover) :: (seg (Value.int .u32) 96 r.2.fdrum.1 ((.bool r.2.ffound) :: (seg (Value.int .u32) 96 r.2.fbest.1 [(.int .i64 r.2.fleast)]))))))⟩, ⟨some B_b, 34, [(.int .i16 p0.fframe.fSteps), (.slice D_a D_an D_c)]⟩] w') := by
  subst D_hn E_hn
  rw [spec_l03Pinner_from.step] at h
  refine enter (args := [(.pointer (some ⟨A_b, 0, none⟩)), (.int .i64 i1), (.int .i64 made2)]) Try.func113 rfl Try.ntmps113 (by kernel_rfl) (L := [⟨some A_b, 165, ((.pointer (some ⟨B_b, 0, none⟩)) :: (.slice E_a p0.ftune.length E_c) :: (seg (Value.int .u32) 96 p0.fold.1 ((.bool p0.flike) :: (.int .i64 p0.fbudget) :: (.int .i64 p0.ftries) :: (.bool p0.fover) :: (seg (Value.int .u32) 96 p0.fdrum.1 ((.bool p0.ffound) :: (seg (Value.int .u32) 96 p0.fbest.1 [(.int .i64 p0.fleast)]))))))⟩, ⟨some B_b, 34, [(.int .i16 p0.fframe.fSteps), (.slice D_a p0.fframe.fHammers.length D_c)]⟩]) (W := bs [some A_b, some B_b]) hm0 ?_
  refine jc_seq (jc_region (qh [0] (qe (jx_then (jc_seq (jc_seq (jc_region (qh [0,0,0,0,0,0,0] (qe (jx_then (qi h (fun h => ?_) (fun h => ?_))))))))))))
  ·refine jc_seq (jc_region (qh [0,0,0] (tO (qs 0 [0] (jkO (qe (jx_then (jc_seq (jc_region (qh [0,0,0,0] (tO (p_ldS 0 0 A_b 102 (Value.int .u32) (enc := encU32) (fun _ => rfl) p0.fdrum (jkO (qh [0,0] (tO (p_stS 0 0 A_b 199 (Value.int .u32) (enc := encU32) (fun _ => rfl) encU32_cell p0.fbest p0.fdrum (jkO (qe (jx_then (jc_seq (jc_region (qh [0,0,0,0] (tO (qs 0 [0] (jkO (qe (jx_then (jc_seq (jc_region (qh [0,0,0,0,0,0] (qe (jx_then (jc_ret (jx_thenr ?_))))))))))))))))))))))))))))))))))
   obtain rfl := Option.some.inj h
   exact qr [] (fun w hm => ⟨rfl, hm.pk [0, 1]⟩)
  ·refine jc_skip (jx_then (jc_seq (jc_region (qh [0,0,0,0,0] ?_))))
   obtain ⟨x_1, hx_3, h⟩ := bd h
   refine tO (qx 0 E_a 2 hx_3 rfl (E_h.sp hx_3) (jkO (tO (ql 0 true (fun w hm => ((hm.exRowW E_h E_ha).at hx_3)) (jkO (tO (qa 0 (fun b_4 => jkO (tO (qs 0 [2] (jkO (qe (jx_then (jc_seq (qg [⟨some A_b, 165, ((.pointer (some ⟨B_b, 0, none⟩)) :: (.slice E_a p0.ftune.length E_c) :: (seg (Value.int .u32) 96 p0.fold.1 ((.bool p0.flike) :: (.int .i64 p0.fbudget) :: (.int .i64 p0.ftries) :: (.bool p0.fover) :: (seg (Value.int .u32) 96 p0.fdrum.1 ((.bool p0.ffound) :: (seg (Value.int .u32) 96 p0.fbest.1 [(.int .i64 p0.fleast)]))))))⟩, ⟨some B_b, 34, [(.int .i16 p0.fframe.fSteps), (.slice D_a p0.fframe.fHammers.length D_c)]⟩, ⟨some b_4, 104, [(.int .i16 x_1.fAt), (.int .i8 x_1.fPitch)]⟩] 10 (qd [⟨0, 0, 0⟩,⟨1, 0, 0⟩,⟨2, 0, 0⟩,⟨3, 0, 0⟩,⟨4, 0, 0⟩,⟨5, 0, 0⟩,⟨6, 0, 0⟩,⟨7, 2, 0⟩] 2 [0, 1, 2] ?_))))))))))))))))
   obtain ⟨t_2, ht_5, h⟩ := bd h
   refine tD 8 (pc 0 (fun w hm => spec_l03Tracks.calls (⟨p0.fframe.fSteps, p0.fframe.fHammers⟩ : GFrame) p0.fdrum x_1 w _ D_c (hm.exRowW D_h D_ha) rfl (hm.segRow 0 A_b 102 (Value.int .u32) (enc := encU32) (fun _ => rfl) p0.fdrum) B_b (hm.pass (N := [⟨some B_b, 34, [(.int .i16 p0.fframe.fSteps), (.slice D_a p0.fframe.fHammers.length D_c)]⟩]) [1] (by kernel_rfl) (by kernel_rfl)) (hm.exApart (N := [⟨some B_b, 34, [(.int .i16 p0.fframe.fSteps), (.slice D_a p0.fframe.fHammers.length D_c)]⟩]) D_h D_ha [1] (by kernel_rfl)) (hm.segApart 0 A_b 102 [1]) ht_5) ?_)
   rintro w v w' hm ⟨o_6, cap_7, sp_8, _, rfl, hs_9, ho_10, rfl, hm'⟩
   refine ⟨_, hm.appW (ps := [(1, ⟨some B_b, 34, [(.int .i16 p0.fframe.fSteps), (.slice D_a p0.fframe.fHammers.length D_c)]⟩)]) (N := [⟨o_6, 2, row encI64 t_2 sp_8⟩]) hm' (by kernel_rfl) (by kernel_rfl), kD [0, 1, 2] ?_⟩
   clear hm hm'
   refine qd [⟨9, 0, 0⟩] 0 [0, 1, 2] (qz (jx_then (jc_seq (jc_seq (jc_region (qh [0] (qe (jx_then (jc_meet (fun (j : (Arr 96 Int) × Bool × Int × Int × Bool × (Arr 96 Int) × Bool × (Arr 96 Int) × Int) => match j with | ⟨a_3, q_4, i_5, i_6, q_7, a_8, q_9, a_10, i_11⟩ => spec_l03Pinner_from.k_12 p0 a_3 q_4 i_5 i_6 q_7 a_8 q_9 a_10 i_11 = some r) (fun (j : (Arr 96 Int) × Bool × Int × Int × Bool × (Arr 96 Int) × Bool × (Arr 96 Int) × Int) => match j with | ⟨a_3, q_4, i_5, i_6, q_7, a_8, q_9, a_10, i_11⟩ => [(6, [], (.bool false))]) (fun (j : (Arr 96 Int) × Bool × Int × Int × Bool × (Arr 96 Int) × Bool × (Arr 96 Int) × Int) => match j with | ⟨a_3, q_4, i_5, i_6, q_7, a_8, q_9, a_10, i_11⟩ => [⟨some A_b, 165, ((.pointer (some ⟨B_b, 0, none⟩)) :: (.slice E_a p0.ftune.length E_c) :: (seg (Value.int .u32) 96 a_3.1 ((.bool q_4) :: (.int .i64 i_5) :: (.int .i64 i_6) :: (.bool q_7) :: (seg (Value.int .u32) 96 a_8.1 ((.bool q_9) :: (seg (Value.int .u32) 96 a_10.1 [(.int .i64 i_11)]))))))⟩, ⟨some B_b, 34, [(.int .i16 p0.fframe.fSteps), (.slice D_a p0.fframe.fHammers.length D_c)]⟩, ⟨some b_4, 104, [(.int .i16 x_1.fAt), (.int .i8 x_1.fPitch)]⟩, ⟨o_6, 2, row encI64 t_2 sp_8⟩]) ?_ ?_)))))))))
   ·refine jc_block ?_
    obtain ⟨t_24, ht_166, hr_137⟩ := bd h
    refine jc_loop (fun (s : (Arr 96 Int) × Bool × Int × Int × Bool × (Arr 96 Int) × Bool × (Arr 96 Int) × Int × Int) (x : Unit) => match s, x with | ⟨a_13, q_14, i_15, i_16, q_17, a_18, q_19, a_20, i_21, i_22⟩, _ => True) (fun (s : (Arr 96 Int) × Bool × Int × Int × Bool × (Arr 96 Int) × Bool × (Arr 96 Int) × Int × Int) (x : Unit) => match s, x with | ⟨a_13, q_14, i_15, i_16, q_17, a_18, q_19, a_20, i_21, i_22⟩, _ => [(0, [], (.pointer (some ⟨A_b, 0, none⟩))), (1, [], (.int .i64 i1)), (2, [], (.int .i64 made2)), (6, [], (.bool false)), (7, [], (.pointer (some ⟨b_4, 0, none⟩))), (8, [], (.slice (o_6.map fun b => ⟨b, 0, none⟩) t_2.length cap_7)), (9, [], (.int .i64 i_22))]) (fun (s : (Arr 96 Int) × Bool × Int × Int × Bool × (Arr 96 Int) × Bool × (Arr 96 Int) × Int × Int) (x : Unit) => match s, x with | ⟨a_13, q_14, i_15, i_16, q_17, a_18, q_19, a_20, i_21, i_22⟩, _ => [⟨some A_b, 165, ((.pointer (some ⟨B_b, 0, none⟩)) :: (.slice E_a p0.ftune.length E_c) :: (seg (Value.int .u32) 96 a_13.1 ((.bool q_14) :: (.int .i64 i_15) :: (.int .i64 i_16) :: (.bool q_17) :: (seg (Value.int .u32) 96 a_18.1 ((.bool q_19) :: (seg (Value.int .u32) 96 a_20.1 [(.int .i64 i_21)]))))))⟩, ⟨some B_b, 34, [(.int .i16 p0.fframe.fSteps), (.slice D_a p0.fframe.fHammers.length D_c)]⟩, ⟨some b_4, 104, [(.int .i16 x_1.fAt), (.int .i8 x_1.fPitch)]⟩, ⟨o_6, 2, row encI64 t_2 sp_8⟩]) ht_166 () trivial (by kernel_rfl) [0, 1, 2, 3] (by kernel_rfl) (by kernel_rfl) ?_
    rintro ⟨a_13, q_14, i_15, i_16, q_17, a_18, q_19, a_20, i_21, i_22⟩ _ y_138 _ h
    rw [spec_l03Pinner_from.l_23] at h
    refine jc_seq (jc_seq (jc_region (qh [0,0,0,0] (qe (jx_then (qi h (fun h => ?_) (fun h => ?_)))))))
    ·refine jc_skip (jx_then (jc_seq (jc_block (jc_seq (jc_seq (qg [⟨some A_b, 165, ((.pointer (some ⟨B_b, 0, none⟩)) :: (.slice E_a p0.ftune.length E_c) :: (seg (Value.int .u32) 96 a_13.1 ((.bool q_14) :: (.int .i64 i_15) :: (.int .i64 i_16) :: (.bool q_17) :: (seg (Value.int .u32) 96 a_18.1 ((.bool q_19) :: (seg (Value.int .u32) 96 a_20.1 [(.int .i64 i_21)]))))))⟩, ⟨some B_b, 34, [(.int .i16 p0.fframe.fSteps), (.slice D_a p0.fframe.fHammers.length D_c)]⟩, ⟨some b_4, 104, [(.int .i16 x_1.fAt), (.int .i8 x_1.fPitch)]⟩, ⟨o_6, 2, row encI64 t_2 sp_8⟩] 9 (qd [⟨0, 0, 0⟩,⟨1, 0, 0⟩,⟨2, 0, 0⟩,⟨3, 0, 0⟩,⟨4, 0, 0⟩,⟨5, 0, 0⟩,⟨6, 0, 0⟩,⟨7, 0, 0⟩,⟨8, 0, 0⟩] 0 [0, 1, 2, 3] (qz (jx_then (qi h (fun h => ?_) (fun h => ?_)))))))))))
     ·refine jc_seq (jc_region (qh [0,0,0] (tO (qs 0 [0] (jkO (qe (jx_then (jc_seq (jc_region (qh [0] (qe (jx_then (jc_ret (jx_thenr (jx_inr (jx_thenr (jx_leaver (.inl (true, (⟨(⟨p0.fframe.fSteps, p0.fframe.fHammers⟩ : GFrame), p0.ftune, a_13, q_14, i_15, i_16, true, a_18, q_19, a_20, i_21⟩ : Gl03Pinner))) (Option.some.inj h).symm (fun e_143 => ?_))))))))))))))))))
      subst e_143
      refine jx_inr (jx_thenr (jx_thenr ?_))
      obtain rfl := Option.some.inj hr_137
      exact qr [] (fun w hm => ⟨rfl, hm.pk [0, 1]⟩)
     ·refine jc_skip (jx_then (jc_seq (jc_region (qh [0,0,0,0,0,0,0] (tO (qs 0 [0] (jkO (qe (jx_then (jc_seq (jc_region (qh [0,0] ?_))))))))))))
      obtain ⟨x_25, hx_144, h⟩ := bd h
      refine tO (qx 0 (o_6.map fun b => ⟨b, 0, none⟩) 1 hx_144 rfl (spo ho_10 hx_144) (jkO (tO (ql 0 false (fun w hm => ((hm.ow 3 o_6 2 t_2 sp_8 (fun e => (ho_10 e).1) encI64_len).at hx_144)) (jkO ?_)))))
      obtain ⟨t_26, ht_145, h⟩ := bd h
      refine tO (pc 0 (fun w hm => spec_l03Bit.calls x_25 w _ ht_145) ?_)
      rintro w v w' hm ⟨rfl, hm'⟩
      refine ⟨_, hm.app hm', jkO ?_⟩
      clear hm hm'
      refine qh [0] (qe (jx_then (jc_seq (jc_region (qh [0,0] (qe (jx_then (jc_seq (jc_meet (fun (j : Int) => match j with | i_27 => spec_l03Pinner_from.k_28 self_ p0 i1 x_1 a_13 q_14 i_15 i_16 q_17 a_18 q_19 a_20 i_21 i_22 t_26 i_27 = some y_138) (fun (j : Int) => match j with | i_27 => [(0, [], (.pointer (some ⟨A_b, 0, none⟩))), (1, [], (.int .i64 i1)), (2, [], (.int .i64 made2)), (6, [], (.bool false)), (7, [], (.pointer (some ⟨b_4, 0, none⟩))), (8, [], (.slice (o_6.map fun b => ⟨b, 0, none⟩) t_2.length cap_7)), (9, [], (.int .i64 i_22)), (10, [], (.int .u32 t_26)), (11, [], (.int .i64 i_27))]) (fun (j : Int) => match j with | i_27 => [⟨some A_b, 165, ((.pointer (some ⟨B_b, 0, none⟩)) :: (.slice E_a p0.ftune.length E_c) :: (seg (Value.int .u32) 96 a_13.1 ((.bool q_14) :: (.int .i64 i_15) :: (.int .i64 (w64 (i_16 + 1))) :: (.bool q_17) :: (seg (Value.int .u32) 96 a_18.1 ((.bool q_19) :: (seg (Value.int .u32) 96 a_20.1 [(.int .i64 i_21)]))))))⟩, ⟨some B_b, 34, [(.int .i16 p0.fframe.fSteps), (.slice D_a p0.fframe.fHammers.length D_c)]⟩, ⟨some b_4, 104, [(.int .i16 x_1.fAt), (.int .i8 x_1.fPitch)]⟩, ⟨o_6, 2, row encI64 t_2 sp_8⟩]) ?_ ?_)))))))))
      ·refine jc_seq (qg [⟨some A_b, 165, ((.pointer (some ⟨B_b, 0, none⟩)) :: (.slice E_a p0.ftune.length E_c) :: (seg (Value.int .u32) 96 a_13.1 ((.bool q_14) :: (.int .i64 i_15) :: (.int .i64 (w64 (i_16 + 1))) :: (.bool q_17) :: (seg (Value.int .u32) 96 a_18.1 ((.bool q_19) :: (seg (Value.int .u32) 96 a_20.1 [(.int .i64 i_21)]))))))⟩, ⟨some B_b, 34, [(.int .i16 p0.fframe.fSteps), (.slice D_a p0.fframe.fHammers.length D_c)]⟩, ⟨some b_4, 104, [(.int .i16 x_1.fAt), (.int .i8 x_1.fPitch)]⟩, ⟨o_6, 2, row encI64 t_2 sp_8⟩] 10 (qd [⟨0, 0, 0⟩,⟨1, 0, 0⟩,⟨2, 2, 0⟩,⟨3, 0, 0⟩,⟨4, 0, 0⟩,⟨7, 0, 0⟩] 4 [0, 1, 2, 3] ?_))
       obtain ⟨x_34, hx_163, h⟩ := bd h
       refine qv 5 0 [0, 1, 2, 3] (fun w hm => idx_run (a := (some ⟨A_b, 2, none⟩)) (len := 96) (s := 1) (j := x_1.fAt) (by kernel_rfl) (ix_some hx_163).1 (ltn hx_163 a_13.2) rfl) (qv 6 0 [0, 1, 2, 3] (fun w hm => ld_run (b := aB (some ⟨A_b, 2, none⟩)) (off := (aO (some ⟨A_b, 2, none⟩) + x_1.fAt.toNat * 1)) (s := 1) (agg := false) (vs := (encU32 x_34)) (by kernel_rfl) (by kernel_rfl) (.inr rfl) ((hm.segRow 0 A_b 2 (Value.int .u32) (enc := encU32) (fun _ => rfl) a_13).at hx_163)) (qd [⟨8, 0, 0⟩,⟨9, 0, 0⟩] 0 [0, 1, 2, 3] (qz (jx_then (qi h (fun h => ?_) (fun h => ?_))))))
       ·exact jc_region (qh [0,0,0] (qe (qm (w64 (made2 + 1)) h [0, 1, 2, 3])))
       ·exact jc_skip (qm made2 h [0, 1, 2, 3])
      ·rintro i_27 h
       replace h : spec_l03Pinner_from.k_28 self_ p0 i1 x_1 a_13 q_14 i_15 i_16 q_17 a_18 q_19 a_20 i_21 i_22 t_26 i_27 = some y_138 := h
       rw [spec_l03Pinner_from.k_28] at h
       refine jx_then (jc_seq (jc_seq (jc_region (qf [(0, 0), (0, 0), (0, 0), (0, 0), (0, 0), (0, 1), (0, 1), (0, 1), (0, 1), (0, 0), (0, 0), (0, 1), (0, 1), (0, 1), (0, 1), (0, 1), (0, 1), (0, 0)] (qe (jx_then (qi h (fun h => ?_) (fun h => ?_))))))))
       ·exact jc_exit (jx_thenx (jx_ine (jx_then (jc_region (qh [0,0,0] (qe (qb (a_13, q_14, i_15, (w64 (i_16 + 1)), q_17, a_18, q_19, a_20, i_21, (w64 (i_22 + 1))) () h trivial [0, 1, 2, 3])))))))
       ·refine jc_skip (jx_then (jc_seq (qg [⟨some B_b, 34, [(.int .i16 p0.fframe.fSteps), (.slice D_a p0.fframe.fHammers.length D_c)]⟩, ⟨some b_4, 104, [(.int .i16 x_1.fAt), (.int .i8 x_1.fPitch)]⟩, ⟨o_6, 2, row encI64 t_2 sp_8⟩] 13 (qd [⟨0, 0, 0⟩,⟨1, 0, 0⟩,⟨2, 1, 0⟩,⟨3, 0, 0⟩,⟨4, 0, 0⟩,⟨7, 0, 0⟩,⟨9, 0, 0⟩,⟨10, 0, 0⟩] 5 [1, 2, 3] ?_))))
        obtain ⟨x_29, hx_152, h⟩ := bd h
        refine qv 5 0 [1, 2, 3] (fun w hm => idx_run (a := (some ⟨A_b, 102, none⟩)) (len := 96) (s := 1) (j := x_1.fAt) (by kernel_rfl) (ix_some hx_152).1 (ltn hx_152 a_18.2) rfl) (tD 6 (ql 0 false (fun w hm => ((hm.segRow 0 A_b 102 (Value.int .u32) (enc := encU32) (fun _ => rfl) a_18).at hx_152)) (kD [1, 2, 3] (qd [⟨8, 0, 0⟩] 2 [1, 2, 3] ?_))))
        obtain ⟨x_30, hx_153, h⟩ := bd h
        refine qv 11 0 [1, 2, 3] (fun w hm => idx_run (a := (some ⟨A_b, 102, none⟩)) (len := 96) (s := 1) (j := x_1.fAt) (by kernel_rfl) (ix_some hx_153).1 (ltn hx_153 a_18.2) rfl) (tD 12 (p_stE 0 0 A_b 102 (Value.int .u32) (enc := encU32) (fun _ => rfl) a_18 x_1.fAt (bOr .u32 x_29 t_26) hx_153 (kD [1, 2, 3] (qz (jx_then (jc_seq (jc_seq (jc_region (qh [0,0,0,0] ?_)))))))))
        obtain ⟨t_31, ht_156, h⟩ := bd h
        refine tO (pc 0 (fun w hm => hself (⟨(⟨p0.fframe.fSteps, p0.fframe.fHammers⟩ : GFrame), p0.ftune, a_13, q_14, i_15, (w64 (i_16 + 1)), q_17, (Arr.set a_18 x_1.fAt (bOr .u32 x_29 t_26)), q_19, a_20, i_21⟩ : Gl03Pinner) (w64 (i1 + 1)) i_27 w _ D_c (hm.exRowW D_h D_ha) rfl E_c (hm.exRowW E_h E_ha) rfl A_b B_b (hm.pass (N := [⟨some A_b, 165, ((.pointer (some ⟨B_b, 0, none⟩)) :: (.slice E_a p0.ftune.length E_c) :: (seg (Value.int .u32) 96 a_13.1 ((.bool q_14) :: (.int .i64 i_15) :: (.int .i64 (w64 (i_16 + 1))) :: (.bool q_17) :: (seg (Value.int .u32) 96 (Arr.set a_18 x_1.fAt (bOr .u32 x_29 t_26)).1 ((.bool q_19) :: (seg (Value.int .u32) 96 a_20.1 [(.int .i64 i_21)]))))))⟩, ⟨some B_b, 34, [(.int .i16 p0.fframe.fSteps), (.slice D_a p0.fframe.fHammers.length D_c)]⟩]) [0, 1] (by kernel_rfl) (by kernel_rfl)) (hm.exApart (N := [⟨some A_b, 165, ((.pointer (some ⟨B_b, 0, none⟩)) :: (.slice E_a p0.ftune.length E_c) :: (seg (Value.int .u32) 96 a_13.1 ((.bool q_14) :: (.int .i64 i_15) :: (.int .i64 (w64 (i_16 + 1))) :: (.bool q_17) :: (seg (Value.int .u32) 96 (Arr.set a_18 x_1.fAt (bOr .u32 x_29 t_26)).1 ((.bool q_19) :: (seg (Value.int .u32) 96 a_20.1 [(.int .i64 i_21)]))))))⟩, ⟨some B_b, 34, [(.int .i16 p0.fframe.fSteps), (.slice D_a p0.fframe.fHammers.length D_c)]⟩]) D_h D_ha [0, 1] (by kernel_rfl)) (hm.exApart (N := [⟨some A_b, 165, ((.pointer (some ⟨B_b, 0, none⟩)) :: (.slice E_a p0.ftune.length E_c) :: (seg (Value.int .u32) 96 a_13.1 ((.bool q_14) :: (.int .i64 i_15) :: (.int .i64 (w64 (i_16 + 1))) :: (.bool q_17) :: (seg (Value.int .u32) 96 (Arr.set a_18 x_1.fAt (bOr .u32 x_29 t_26)).1 ((.bool q_19) :: (seg (Value.int .u32) 96 a_20.1 [(.int .i64 i_21)]))))))⟩, ⟨some B_b, 34, [(.int .i16 p0.fframe.fSteps), (.slice D_a p0.fframe.fHammers.length D_c)]⟩]) E_h E_ha [0, 1] (by kernel_rfl)) ht_156) ?_)
        rintro w v w' hm ⟨rfl, hm'⟩
        refine ⟨_, hm.appW (ps := [(0, ⟨some A_b, 165, ((.pointer (some ⟨B_b, 0, none⟩)) :: (.slice E_a p0.ftune.length E_c) :: (seg (Value.int .u32) 96 t_31.2.fold.1 ((.bool t_31.2.flike) :: (.int .i64 t_31.2.fbudget) :: (.int .i64 t_31.2.ftries) :: (.bool t_31.2.fover) :: (seg (Value.int .u32) 96 t_31.2.fdrum.1 ((.bool t_31.2.ffound) :: (seg (Value.int .u32) 96 t_31.2.fbest.1 [(.int .i64 t_31.2.fleast)]))))))⟩), (1, ⟨some B_b, 34, [(.int .i16 p0.fframe.fSteps), (.slice D_a p0.fframe.fHammers.length D_c)]⟩)]) (N := []) hm' (by kernel_rfl) (by kernel_rfl), jkO ?_⟩
        clear hm hm'
        refine qe (jx_then (qi h (fun h => ?_) (fun h => ?_)))
        ·refine jc_seq (jc_region (qh [0] (qe (jx_then (jc_ret (jx_thenr (jx_inr (jx_thenr (jx_leaver (.inl (true, (⟨(⟨p0.fframe.fSteps, p0.fframe.fHammers⟩ : GFrame), p0.ftune, t_31.2.fold, t_31.2.flike, t_31.2.fbudget, t_31.2.ftries, t_31.2.fover, t_31.2.fdrum, t_31.2.ffound, t_31.2.fbest, t_31.2.fleast⟩ : Gl03Pinner))) (Option.some.inj h).symm (fun e_158 => ?_))))))))))
         subst e_158
         refine jx_inr (jx_thenr (jx_thenr ?_))
         obtain rfl := Option.some.inj hr_137
         exact qr [] (fun w hm => ⟨rfl, hm.pk [0, 1]⟩)
        ·refine jc_skip (jx_then (qg [⟨some B_b, 34, [(.int .i16 p0.fframe.fSteps), (.slice D_a p0.fframe.fHammers.length D_c)]⟩, ⟨some b_4, 104, [(.int .i16 x_1.fAt), (.int .i8 x_1.fPitch)]⟩, ⟨o_6, 2, row encI64 t_2 sp_8⟩] 13 (qd [⟨0, 0, 0⟩,⟨1, 0, 0⟩,⟨2, 1, 0⟩,⟨3, 0, 0⟩,⟨4, 0, 0⟩,⟨7, 0, 0⟩,⟨9, 0, 0⟩,⟨10, 0, 0⟩] 5 [1, 2, 3] ?_)))
         obtain ⟨x_32, hx_161, h⟩ := bd h
         refine qv 5 0 [1, 2, 3] (fun w hm => idx_run (a := (some ⟨A_b, 102, none⟩)) (len := 96) (s := 1) (j := x_1.fAt) (by kernel_rfl) (ix_some hx_161).1 (ltn hx_161 t_31.2.fdrum.2) rfl) (tD 6 (ql 0 false (fun w hm => ((hm.segRow 0 A_b 102 (Value.int .u32) (enc := encU32) (fun _ => rfl) t_31.2.fdrum).at hx_161)) (kD [1, 2, 3] (qd [⟨8, 0, 0⟩] 2 [1, 2, 3] ?_))))
         obtain ⟨x_33, hx_162, h⟩ := bd h
         exact qv 11 0 [1, 2, 3] (fun w hm => idx_run (a := (some ⟨A_b, 102, none⟩)) (len := 96) (s := 1) (j := x_1.fAt) (by kernel_rfl) (ix_some hx_162).1 (ltn hx_162 t_31.2.fdrum.2) rfl) (tD 12 (p_stE 0 0 A_b 102 (Value.int .u32) (enc := encU32) (fun _ => rfl) t_31.2.fdrum x_1.fAt (bClr .u32 x_32 t_26) hx_162 (kD [1, 2, 3] (qz (jx_inn (jx_then (jc_region (qh [0,0,0] (qe (qb (t_31.2.fold, t_31.2.flike, t_31.2.fbudget, t_31.2.ftries, t_31.2.fover, (Arr.set t_31.2.fdrum x_1.fAt (bClr .u32 x_32 t_26)), t_31.2.ffound, t_31.2.fbest, t_31.2.fleast, (w64 (i_22 + 1))) () h trivial [0, 1, 2, 3]))))))))))
    ·refine jc_exit (jx_thenx (jx_leave (.inr (a_13, q_14, i_15, i_16, q_17, a_18, q_19, a_20, i_21)) (Option.some.inj h).symm (fun e_165 => ?_)))
     subst e_165
     exact jx_ine (qm ⟨a_13, q_14, i_15, i_16, q_17, a_18, q_19, a_20, i_21⟩ hr_137 [0, 1, 2, 3])
   ·rintro ⟨a_3, q_4, i_5, i_6, q_7, a_8, q_9, a_10, i_11⟩ h
    replace h : spec_l03Pinner_from.k_12 p0 a_3 q_4 i_5 i_6 q_7 a_8 q_9 a_10 i_11 = some r := h
    rw [spec_l03Pinner_from.k_12] at h
    refine jx_then (jc_seq (jc_region (qh [0] (qe (jx_then (jc_ret ?_))))))
    obtain rfl := Option.some.inj h
    exact qr [] (fun w hm => ⟨rfl, hm.pk [0, 1]⟩)
theorem spec_l03Pinner_from.rec_calls (fu : Nat) : ∀ (p0 : Gl03Pinner) (i1 : Int) (made2 : Int) (w : World) (r : Bool × Gl03Pinner) {D_a : Option Addr} {D_an : Nat} (D_c : Nat) (D_h : Rw w D_a 2 encGHammer p0.fframe.fHammers) (D_hn : p0.fframe.fHammers.length = D_an) {E_a : Option Addr} {E_an : Nat} (E_c : Nat) (E_h : Rw w E_a 2 encGNote p0.ftune) (E_hn : p0.ftune.length = E_an) (A_b : Nat) (B_b : Nat) (hm0 : Mem w (bs [some A_b, some B_b]) [⟨some A_b, 165, ((.pointer (some ⟨B_b, 0, none⟩)) :: (.slice E_a E_an E_c) :: (seg (Value.int .u32) 96 p0.fold.1 ((.bool p0.flike) :: (.int .i64 p0.fbudget) :: (.int .i64 p0.ftries) :: (.bool p0.fover) :: (seg (Value.int .u32) 96 p0.fdrum.1 ((.bool p0.ffound) :: (seg (Value.int .u32) 96 p0.fbest.1 [(.int .i64 p0.fleast)]))))))⟩, ⟨some B_b, 34, [(.int .i16 p0.fframe.fSteps), (.slice D_a D_an D_c)]⟩] w) (D_ha : p0.fframe.fHammers ≠ [] → aB D_a ∉ bs [some A_b, some B_b]) (E_ha : p0.ftune ≠ [] → aB E_a ∉ bs [some A_b, some B_b]) (h : spec_l03Pinner_from.rec_ fu p0 i1 made2 = some r),
    Calls Try.prog 113 #[(.pointer (some ⟨A_b, 0, none⟩)), (.int .i64 i1), (.int .i64 made2)] w fun e w' => ∃ v, e = .returned v ∧ (v = (.bool r.1) ∧ Mem w (bs [some A_b, some B_b]) [⟨some A_b, 165, ((.pointer (some ⟨B_b, 0, none⟩)) :: (.slice E_a E_an E_c) :: (seg (Value.int .u32) 96 r.2.fold.1 ((.bool r.2.flike) :: (.int .i64 r.2.fbudget) :: (.int .i64 r.2.ftries) :: (.bool r.2.fover) :: (seg (Value.int .u32) 96 r.2.fdrum.1 ((.bool r.2.ffound) :: (seg (Value.int .u32) 96 r.2.fbest.1 [(.int .i64 r.2.fleast)]))))))⟩, ⟨some B_b, 34, [(.int .i16 p0.fframe.fSteps), (.slice D_a D_an D_c)]⟩] w') := by
  induction fu with
  | zero => intros; rename_i h; cases h
  | succ fu ih => exact @spec_l03Pinner_from.step_calls _ (spec_l03Pinner_from.rec_ fu) @ih
theorem spec_l03Pinner_from.calls (p0 : Gl03Pinner) (i1 : Int) (made2 : Int) (w : World) (r : Bool × Gl03Pinner) {D_a : Option Addr} {D_an : Nat} (D_c : Nat) (D_h : Rw w D_a 2 encGHammer p0.fframe.fHammers) (D_hn : p0.fframe.fHammers.length = D_an) {E_a : Option Addr} {E_an : Nat} (E_c : Nat) (E_h : Rw w E_a 2 encGNote p0.ftune) (E_hn : p0.ftune.length = E_an) (A_b : Nat) (B_b : Nat) (hm0 : Mem w (bs [some A_b, some B_b]) [⟨some A_b, 165, ((.pointer (some ⟨B_b, 0, none⟩)) :: (.slice E_a E_an E_c) :: (seg (Value.int .u32) 96 p0.fold.1 ((.bool p0.flike) :: (.int .i64 p0.fbudget) :: (.int .i64 p0.ftries) :: (.bool p0.fover) :: (seg (Value.int .u32) 96 p0.fdrum.1 ((.bool p0.ffound) :: (seg (Value.int .u32) 96 p0.fbest.1 [(.int .i64 p0.fleast)]))))))⟩, ⟨some B_b, 34, [(.int .i16 p0.fframe.fSteps), (.slice D_a D_an D_c)]⟩] w) (D_ha : p0.fframe.fHammers ≠ [] → aB D_a ∉ bs [some A_b, some B_b]) (E_ha : p0.ftune ≠ [] → aB E_a ∉ bs [some A_b, some B_b]) (h : spec_l03Pinner_from p0 i1 made2 = some r) :
    Calls Try.prog 113 #[(.pointer (some ⟨A_b, 0, none⟩)), (.int .i64 i1), (.int .i64 made2)] w fun e w' => ∃ v, e = .returned v ∧ (v = (.bool r.1) ∧ Mem w (bs [some A_b, some B_b]) [⟨some A_b, 165, ((.pointer (some ⟨B_b, 0, none⟩)) :: (.slice E_a E_an E_c) :: (seg (Value.int .u32) 96 r.2.fold.1 ((.bool r.2.flike) :: (.int .i64 r.2.fbudget) :: (.int .i64 r.2.ftries) :: (.bool r.2.fover) :: (seg (Value.int .u32) 96 r.2.fdrum.1 ((.bool r.2.ffound) :: (seg (Value.int .u32) 96 r.2.fbest.1 [(.int .i64 r.2.fleast)]))))))⟩, ⟨some B_b, 34, [(.int .i16 p0.fframe.fSteps), (.slice D_a D_an D_c)]⟩] w') :=
  spec_l03Pinner_from.rec_calls 200 p0 i1 made2 w r D_c D_h D_hn E_c E_h E_hn A_b B_b hm0 D_ha E_ha h
/-! ### spec.PinTune -/
def spec_PinTune (f0 : GFrame) (t1 : List GNote) (budget2 : Int) : Option ((Arr 96 Int) × Int × Int) := (spec_l03Fits f0 t1 budget2).bind fun t_1 => (if (t_1 != 0) = true then some ((Arr.rep 96 0), 0, t_1) else (spec_l03Pinner_from (⟨f0, t1, (Arr.rep 96 0), false, budget2, 0, false, (Arr.rep 96 0), false, (Arr.rep 96 0), 0⟩ : Gl03Pinner) 0 0).bind fun t_2 => (if t_2.2.fover = true then some ((Arr.rep 96 0), 0, 7) else (if (!t_2.2.ffound) = true then some ((Arr.rep 96 0), 0, 6) else some (t_2.2.fbest, t_2.2.ftries, 0))))
theorem spec_PinTune.calls (f0 : GFrame) (t1 : List GNote) (budget2 : Int) (w : World) (r : (Arr 96 Int) × Int × Int) {C_a : Option Addr} {C_an : Nat} (C_c : Nat) (C_h : Rw w C_a 2 encGHammer f0.fHammers) (C_hn : f0.fHammers.length = C_an) {D_a : Option Addr} {D_an : Nat} (D_c : Nat) (D_h : Rw w D_a 2 encGNote t1) (D_hn : t1.length = D_an) (h : spec_PinTune f0 t1 budget2 = some r) :
    Calls Try.prog 66 #[(.agg #[(.int .i16 f0.fSteps), (.slice C_a C_an C_c)]), (.slice D_a D_an D_c), (.int .i64 budget2)] w fun e w' => ∃ v, e = .returned v ∧ (v = .tuple #[(.agg (row encU32 r.1.1 []).toArray), (.int .i64 r.2.1), (.int .i64 r.2.2)] ∧ Mem w [] [] w') := by
  subst C_hn D_hn
  rw [spec_PinTune] at h
  refine enter (args := [(.agg #[(.int .i16 f0.fSteps), (.slice C_a f0.fHammers.length C_c)]), (.slice D_a t1.length D_c), (.int .i64 budget2)]) Try.func66 rfl Try.ntmps66 (by kernel_rfl) (L := []) (W := []) (Mem.start w) ?_
  refine jc_seq (jc_region (tO (qa 0 (fun b_1 => jkO (tO (qa 0 (fun b_2 => jkO (qh [0,0] (qe (jx_then (jc_seq (jc_seq (jc_region (qh [0,0] ?_))))))))))))))
  obtain ⟨t_1, ht_5, h⟩ := bd h
  refine tO (pc 0 (fun w hm => spec_l03Fits.calls f0 t1 budget2 w _ C_c (hm.xr C_h) rfl D_c (hm.xr D_h) rfl b_1 (hm.pass (N := [⟨some b_1, 34, [(.int .i16 f0.fSteps), (.slice C_a f0.fHammers.length C_c)]⟩]) [0] (by kernel_rfl) (by kernel_rfl)) (hm.exApart (N := [⟨some b_1, 34, [(.int .i16 f0.fSteps), (.slice C_a f0.fHammers.length C_c)]⟩]) C_h (fun _ => List.not_mem_nil) [0] (by kernel_rfl)) (hm.exApart (N := [⟨some b_1, 34, [(.int .i16 f0.fSteps), (.slice C_a f0.fHammers.length C_c)]⟩]) D_h (fun _ => List.not_mem_nil) [0] (by kernel_rfl)) ht_5) ?_)
  rintro w v w' hm ⟨rfl, hm'⟩
  refine ⟨_, hm.appW (ps := [(0, ⟨some b_1, 34, [(.int .i16 f0.fSteps), (.slice C_a f0.fHammers.length C_c)]⟩)]) (N := []) hm' (by kernel_rfl) (by kernel_rfl), jkO ?_⟩
  clear hm hm'
  refine qh [0] (qe (jx_then (jc_seq (jc_region (qh [0,0] (qe (jx_then (qi h (fun h => ?_) (fun h => ?_)))))))))
  ·refine jc_seq (jc_region (qh [0,0] (tO (p_sA 0 1 b_2 96 1 88 encU32 (Arr.rep 96 0) (Arr.rep 96 0) (by kernel_rfl) (by kernel_rfl) (by kernel_rfl) encU32_len encU32_cell (by kernel_rfl) (jkO (qh [0,0] (qe (jx_then (jc_ret (jx_thenr ?_))))))))))
   obtain rfl := Option.some.inj h
   exact jx_retV rfl (rq_arr (b := b_2) (T' := 88) (hh := 1) (mm := 1) encU32 (Arr.rep 96 0) (by kernel_rfl) (by kernel_rfl) encU32_len (by kernel_rfl) (rq_tmp (by kernel_rfl) (rq_tmp (by kernel_rfl) rq_nil))) (fun w hm => ⟨rfl, hm.pk []⟩)
  ·refine jc_skip (jx_then (jc_seq (jc_region (qh [0,0,0] (tO (qa 0 (fun b_7 => jkO (qh [0] (qe (jx_then (jc_seq (jc_region (qh [0] ?_)))))))))))))
   obtain ⟨t_2, ht_8, h⟩ := bd h
   refine tO (pc 0 (fun w hm => spec_l03Pinner_from.calls (⟨f0, t1, (Arr.rep 96 0), false, budget2, 0, false, (Arr.rep 96 0), false, (Arr.rep 96 0), 0⟩ : Gl03Pinner) 0 0 w _ C_c (hm.xr C_h) rfl D_c (hm.xr D_h) rfl b_7 b_1 (hm.pass (N := [⟨some b_7, 165, ((.pointer (some ⟨b_1, 0, none⟩)) :: (.slice D_a t1.length D_c) :: (seg (Value.int .u32) 96 (Arr.rep 96 0).1 ((.bool false) :: (.int .i64 budget2) :: (.int .i64 0) :: (.bool false) :: (seg (Value.int .u32) 96 (Arr.rep 96 0).1 ((.bool false) :: (seg (Value.int .u32) 96 (Arr.rep 96 0).1 [(.int .i64 0)]))))))⟩, ⟨some b_1, 34, [(.int .i16 f0.fSteps), (.slice C_a f0.fHammers.length C_c)]⟩]) [2, 0] (by kernel_rfl) (by kernel_rfl)) (hm.exApart (N := [⟨some b_7, 165, ((.pointer (some ⟨b_1, 0, none⟩)) :: (.slice D_a t1.length D_c) :: (seg (Value.int .u32) 96 (Arr.rep 96 0).1 ((.bool false) :: (.int .i64 budget2) :: (.int .i64 0) :: (.bool false) :: (seg (Value.int .u32) 96 (Arr.rep 96 0).1 ((.bool false) :: (seg (Value.int .u32) 96 (Arr.rep 96 0).1 [(.int .i64 0)]))))))⟩, ⟨some b_1, 34, [(.int .i16 f0.fSteps), (.slice C_a f0.fHammers.length C_c)]⟩]) C_h (fun _ => List.not_mem_nil) [2, 0] (by kernel_rfl)) (hm.exApart (N := [⟨some b_7, 165, ((.pointer (some ⟨b_1, 0, none⟩)) :: (.slice D_a t1.length D_c) :: (seg (Value.int .u32) 96 (Arr.rep 96 0).1 ((.bool false) :: (.int .i64 budget2) :: (.int .i64 0) :: (.bool false) :: (seg (Value.int .u32) 96 (Arr.rep 96 0).1 ((.bool false) :: (seg (Value.int .u32) 96 (Arr.rep 96 0).1 [(.int .i64 0)]))))))⟩, ⟨some b_1, 34, [(.int .i16 f0.fSteps), (.slice C_a f0.fHammers.length C_c)]⟩]) D_h (fun _ => List.not_mem_nil) [2, 0] (by kernel_rfl)) ht_8) ?_)
   rintro w v w' hm ⟨rfl, hm'⟩
   refine ⟨_, hm.appW (ps := [(2, ⟨some b_7, 165, ((.pointer (some ⟨b_1, 0, none⟩)) :: (.slice D_a t1.length D_c) :: (seg (Value.int .u32) 96 t_2.2.fold.1 ((.bool t_2.2.flike) :: (.int .i64 t_2.2.fbudget) :: (.int .i64 t_2.2.ftries) :: (.bool t_2.2.fover) :: (seg (Value.int .u32) 96 t_2.2.fdrum.1 ((.bool t_2.2.ffound) :: (seg (Value.int .u32) 96 t_2.2.fbest.1 [(.int .i64 t_2.2.fleast)]))))))⟩), (0, ⟨some b_1, 34, [(.int .i16 f0.fSteps), (.slice C_a f0.fHammers.length C_c)]⟩)]) (N := []) hm' (by kernel_rfl) (by kernel_rfl), jkO ?_⟩
   clear hm hm'
   refine qe (jx_then (jc_seq (jc_seq (jc_region (qh [0,0,0,2] (qe (jx_then (qi h (fun h => ?_) (fun h => ?_)))))))))
   ·refine jc_seq (jc_region (qh [0] (tO (p_sA 0 1 b_2 96 1 88 encU32 (Arr.rep 96 0) (Arr.rep 96 0) (by kernel_rfl) (by kernel_rfl) (by kernel_rfl) encU32_len encU32_cell (by kernel_rfl) (jkO (qh [0,0] (qe (jx_then (jc_ret (jx_thenr ?_))))))))))
    obtain rfl := Option.some.inj h
    exact jx_retV rfl (rq_arr (b := b_2) (T' := 88) (hh := 1) (mm := 1) encU32 (Arr.rep 96 0) (by kernel_rfl) (by kernel_rfl) encU32_len (by kernel_rfl) (rq_tmp (by kernel_rfl) (rq_tmp (by kernel_rfl) rq_nil))) (fun w hm => ⟨rfl, hm.pk []⟩)
   ·refine jc_skip (jx_then (jc_seq (jc_seq (jc_region (qh [0,0,0,2,0] (qe (jx_then (qi h (fun h => ?_) (fun h => ?_)))))))))
    ·refine jc_seq (jc_region (qh [0] (tO (p_sA 0 1 b_2 96 1 88 encU32 (Arr.rep 96 0) (Arr.rep 96 0) (by kernel_rfl) (by kernel_rfl) (by kernel_rfl) encU32_len encU32_cell (by kernel_rfl) (jkO (qh [0,0] (qe (jx_then (jc_ret (jx_thenr ?_))))))))))
     obtain rfl := Option.some.inj h
     exact jx_retV rfl (rq_arr (b := b_2) (T' := 88) (hh := 1) (mm := 1) encU32 (Arr.rep 96 0) (by kernel_rfl) (by kernel_rfl) encU32_len (by kernel_rfl) (rq_tmp (by kernel_rfl) (rq_tmp (by kernel_rfl) rq_nil))) (fun w hm => ⟨rfl, hm.pk []⟩)
    ·refine jc_skip (jx_then (jc_seq (qg [⟨some b_1, 34, [(.int .i16 f0.fSteps), (.slice C_a f0.fHammers.length C_c)]⟩, ⟨some b_7, 165, ((.pointer (some ⟨b_1, 0, none⟩)) :: (.slice D_a t1.length D_c) :: (seg (Value.int .u32) 96 t_2.2.fold.1 ((.bool t_2.2.flike) :: (.int .i64 t_2.2.fbudget) :: (.int .i64 t_2.2.ftries) :: (.bool t_2.2.fover) :: (seg (Value.int .u32) 96 t_2.2.fdrum.1 ((.bool t_2.2.ffound) :: (seg (Value.int .u32) 96 t_2.2.fbest.1 [(.int .i64 t_2.2.fleast)]))))))⟩] 11 (qd [⟨0, 0, 0⟩,⟨1, 0, 0⟩,⟨2, 0, 0⟩,⟨4, 0, 0⟩,⟨5, 0, 0⟩,⟨6, 0, 0⟩,⟨7, 1, 0⟩] 4 [0, 2] (qv 3 0 [0, 2] (fun w hm => ld_run (b := b_7) (off := 199) (s := 96) (agg := true) (vs := row encU32 t_2.2.fbest.1 []) (by kernel_rfl) ((row_len encU32_len t_2.2.fbest).trans rfl) (.inl rfl) (hm.segAt 1 b_7 199 (Value.int .u32) (fun _ => rfl) t_2.2.fbest)) (tD 8 (p_sA 0 1 b_2 96 1 88 encU32 (Arr.rep 96 0) t_2.2.fbest (by kernel_rfl) (by kernel_rfl) (by kernel_rfl) encU32_len encU32_cell (by kernel_rfl) (kD [0, 2] (qd [⟨9, 0, 0⟩,⟨10, 0, 0⟩] 0 [0, 2] (qz (jx_then (jc_ret ?_))))))))))))
     obtain rfl := Option.some.inj h
     exact jx_retV rfl (rq_arr (b := b_2) (T' := 88) (hh := 1) (mm := 1) encU32 t_2.2.fbest (by kernel_rfl) (by kernel_rfl) encU32_len (by kernel_rfl) (rq_tmp (by kernel_rfl) (rq_tmp (by kernel_rfl) rq_nil))) (fun w hm => ⟨rfl, hm.pk []⟩)
/-! ### spec.NeedlessTracks -/
def spec_NeedlessTracks.k_3 (xs_2 : List Int) : Option ((List Int) × Int) := some (xs_2, 0)
def spec_NeedlessTracks.l_6 (f0 : GFrame) (t1 : List GNote) : ((List Int) × Int) → Option (((List Int) × Int) ⊕ ((List Int)))
  | (xs_4, i_5) => (if ((decide (i_5 < (f0.fHammers.length : Int))) && (decide ((f0.fHammers.length : Int) > 1))) = true then (spec_l03Less f0 i_5).bind fun t_8 => (spec_PinTune t_8 t1 20000).bind fun t_9 => (if (t_9.2.2 == 0) = true then (if xs_4.length + ([i_5] : List Int).length ≤ 4294967296 then some (.inl ((xs_4 ++ ([i_5] : List Int)), (w64 (i_5 + 1)))) else none) else some (.inl (xs_4, (w64 (i_5 + 1))))) else some (.inr xs_4))
def spec_NeedlessTracks (f0 : GFrame) (t1 : List GNote) : Option ((List Int) × Int) := (spec_l03Fits f0 t1 0).bind fun t_1 => (if (t_1 != 0) = true then some (([] : List Int), t_1) else (loop (spec_NeedlessTracks.l_6 f0 t1) (([] : List Int), 0)).bind fun t_7 => spec_NeedlessTracks.k_3 t_7)
theorem spec_NeedlessTracks.calls (f0 : GFrame) (t1 : List GNote) (w : World) (r : (List Int) × Int) {D_a : Option Addr} {D_an : Nat} (D_c : Nat) (D_h : Rw w D_a 2 encGNote t1) (D_hn : t1.length = D_an) (C_o : Option Nat) {C_on : Nat} {C_c : Nat} {C_sp : List Value} (C_hn : f0.fHammers.length = C_on) (C_hs : C_o ≠ none → C_on ≤ C_c ∧ C_sp.length = (C_c - C_on) * 2) (C_ho : C_o = none → f0.fHammers = [] ∧ C_c = 0) (hm0 : Mem w (bs [C_o]) [⟨C_o, 110, row encGHammer f0.fHammers C_sp⟩] w) (D_ha : t1 ≠ [] → aB D_a ∉ bs [C_o]) (h : spec_NeedlessTracks f0 t1 = some r) :
    Calls Try.prog 26 #[(.agg #[(.int .i16 f0.fSteps), (.slice (C_o.map fun b => ⟨b, 0, none⟩) C_on C_c)]), (.slice D_a D_an D_c)] w fun e w' => ∃ v, e = .returned v ∧ (∃ (o0 : Option Nat) (c0 : Nat) (s0 : List Value) (n0 : Nat), r.1.length = n0 ∧ (o0 ≠ none → n0 ≤ c0 ∧ s0.length = (c0 - n0) * 1) ∧ (o0 = none → r.1 = [] ∧ c0 = 0) ∧ v = .tuple #[.slice (o0.map fun b => ⟨b, 0, none⟩) n0 c0, (.int .i64 r.2)] ∧ Mem w (bs [C_o]) [⟨C_o, 110, row encGHammer f0.fHammers C_sp⟩, ⟨o0, 2, row encI64 r.1 s0⟩] w') := by
  subst D_hn C_hn
  rw [spec_NeedlessTracks] at h
  refine enter (args := [(.agg #[(.int .i16 f0.fSteps), (.slice (C_o.map fun b => ⟨b, 0, none⟩) f0.fHammers.length C_c)]), (.slice D_a t1.length D_c)]) Try.func26 rfl Try.ntmps26 (by kernel_rfl) (L := [⟨C_o, 110, row encGHammer f0.fHammers C_sp⟩]) (W := bs [C_o]) hm0 ?_
  refine jc_seq (jc_region (tO (qa 0 (fun b_1 => jkO (qh [0,0] (qe (jx_then (jc_seq (jc_seq (jc_region (qh [0] ?_)))))))))))
  obtain ⟨t_1, ht_5, h⟩ := bd h
  refine tO (pc 0 (fun w hm => spec_l03Fits.calls f0 t1 0 w _ C_c (hm.ow 0 C_o 110 f0.fHammers C_sp (fun e => (C_ho e).1) encGHammer_len) rfl D_c (hm.exRowW D_h D_ha) rfl b_1 (hm.pass (N := [⟨some b_1, 34, [(.int .i16 f0.fSteps), (.slice (C_o.map fun b => ⟨b, 0, none⟩) f0.fHammers.length C_c)]⟩]) [1] (by kernel_rfl) (by kernel_rfl)) (hm.ownApart (S := GHammer) (N := [⟨some b_1, 34, [(.int .i16 f0.fSteps), (.slice (C_o.map fun b => ⟨b, 0, none⟩) f0.fHammers.length C_c)]⟩]) (hh := 0) (o := C_o) (T := 110) (cs := row encGHammer f0.fHammers C_sp) (xs := f0.fHammers) (by kernel_rfl) (fun e => (C_ho e).1) [1] (by kernel_rfl) (by kernel_rfl)) (hm.exApart (N := [⟨some b_1, 34, [(.int .i16 f0.fSteps), (.slice (C_o.map fun b => ⟨b, 0, none⟩) f0.fHammers.length C_c)]⟩]) D_h D_ha [1] (by kernel_rfl)) ht_5) ?_)
  rintro w v w' hm ⟨rfl, hm'⟩
  refine ⟨_, hm.appW (ps := [(1, ⟨some b_1, 34, [(.int .i16 f0.fSteps), (.slice (C_o.map fun b => ⟨b, 0, none⟩) f0.fHammers.length C_c)]⟩)]) (N := []) hm' (by kernel_rfl) (by kernel_rfl), jkO ?_⟩
  clear hm hm'
  refine qh [0] (qe (jx_then (jc_seq (jc_region (qh [0,0] (qe (jx_then (qi h (fun h => ?_) (fun h => ?_)))))))))
  ·refine jc_seq (jc_region (tO (qa 0 (fun b_7 => jkO (qh [0,0,0] (qe (jx_then (jc_ret (jx_thenr ?_)))))))))
   obtain rfl := Option.some.inj h
   exact qr [] (fun w hm => ⟨(some b_7), 0, [], 0, rfl, (fun _ => ⟨Nat.le_refl _, by simp⟩), (fun e => nomatch e), rfl, hm.pk [0, 2]⟩)
  ·refine jc_skip (jx_then (jc_seq (jc_region (tO (qa 0 (fun b_8 => jkO (qh [0] (qe (jx_then (jc_seq (jc_seq (jc_region (qh [0] (qe (jx_then (jc_meet (fun (j : (List Int) × (Option Nat) × Nat × (List Value) × Nat) => match j with | ⟨xs_2, o_234, cap_235, sp_236, n_237⟩ => spec_NeedlessTracks.k_3 xs_2 = some r ∧ (xs_2.length = n_237) ∧ ((o_234 ≠ none → n_237 ≤ cap_235 ∧ sp_236.length = (cap_235 - n_237) * 1)) ∧ ((o_234 = none → xs_2 = [] ∧ cap_235 = 0))) (fun (j : (List Int) × (Option Nat) × Nat × (List Value) × Nat) => match j with | ⟨xs_2, o_234, cap_235, sp_236, n_237⟩ => [(4, [], (.slice none 0 0)), (5, [], (.int .i64 0)), (7, [], (.slice (o_234.map fun b => ⟨b, 0, none⟩) n_237 cap_235))]) (fun (j : (List Int) × (Option Nat) × Nat × (List Value) × Nat) => match j with | ⟨xs_2, o_234, cap_235, sp_236, n_237⟩ => [⟨C_o, 110, row encGHammer f0.fHammers C_sp⟩, ⟨some b_1, 34, [(.int .i16 f0.fSteps), (.slice (C_o.map fun b => ⟨b, 0, none⟩) f0.fHammers.length C_c)]⟩, ⟨o_234, 2, row encI64 xs_2 sp_236⟩]) ?_ ?_))))))))))))))))
   ·refine jc_block ?_
    obtain ⟨t_7, ht_312, hr_290⟩ := bd h
    refine jc_loop (fun (s : (List Int) × Int) (x : (Option Nat) × Nat × (List Value) × Nat) => match s, x with | ⟨xs_4, i_5⟩, ⟨o_284, cap_285, sp_286, n_287⟩ => (xs_4.length = n_287) ∧ ((o_284 ≠ none → n_287 ≤ cap_285 ∧ sp_286.length = (cap_285 - n_287) * 1)) ∧ ((o_284 = none → xs_4 = [] ∧ cap_285 = 0))) (fun (s : (List Int) × Int) (x : (Option Nat) × Nat × (List Value) × Nat) => match s, x with | ⟨xs_4, i_5⟩, ⟨o_284, cap_285, sp_286, n_287⟩ => [(1, [], (.slice D_a t1.length D_c)), (2, [], (.pointer (some ⟨b_1, 0, none⟩))), (4, [], (.slice none 0 0)), (5, [], (.int .i64 0)), (7, [], (.slice (o_284.map fun b => ⟨b, 0, none⟩) n_287 cap_285)), (8, [], (.int .i64 i_5))]) (fun (s : (List Int) × Int) (x : (Option Nat) × Nat × (List Value) × Nat) => match s, x with | ⟨xs_4, i_5⟩, ⟨o_284, cap_285, sp_286, n_287⟩ => [⟨C_o, 110, row encGHammer f0.fHammers C_sp⟩, ⟨some b_1, 34, [(.int .i16 f0.fSteps), (.slice (C_o.map fun b => ⟨b, 0, none⟩) f0.fHammers.length C_c)]⟩, ⟨o_284, 2, row encI64 xs_4 sp_286⟩]) ht_312 ⟨(some b_8), 0, [], 0⟩ ⟨rfl, (fun _ => ⟨Nat.le_refl _, by simp⟩), (fun e => nomatch e)⟩ (by kernel_rfl) [0, 1, 2] (by kernel_rfl) (by kernel_rfl) ?_
    rintro ⟨xs_4, i_5⟩ ⟨o_284, cap_285, sp_286, n_287⟩ y_291 ⟨rfl, hs_288, ho_289⟩ h
    rw [spec_NeedlessTracks.l_6] at h
    refine jc_seq (jc_seq (jc_region (qf [(0, 0), (0, 0), (1, 0), (0, 0), (0, 0), (0, 0), (0, 1), (1, 1), (0, 1), (0, 1), (0, 0)] (qe (jx_then (qi h (fun h => ?_) (fun h => ?_)))))))
    ·refine jc_skip (jx_then (jc_seq (jc_block (jc_seq (jc_region (qh [0] ?_))))))
     obtain ⟨t_8, ht_294, h⟩ := bd h
     refine tO (pc 0 (fun w hm => spec_l03Less.calls f0 i_5 w _ b_1 C_o rfl C_hs C_ho (hm.pass (N := [⟨some b_1, 34, [(.int .i16 f0.fSteps), (.slice (C_o.map fun b => ⟨b, 0, none⟩) f0.fHammers.length C_c)]⟩, ⟨C_o, 110, row encGHammer f0.fHammers C_sp⟩]) [1, 0] (by kernel_rfl) (by kernel_rfl)) ht_294) ?_)
     rintro w v w' hm ⟨o_295, cap_296, sp_297, _, rfl, hs_298, ho_299, rfl, hm'⟩
     refine ⟨_, hm.appW (ps := [(1, ⟨some b_1, 34, [(.int .i16 f0.fSteps), (.slice (C_o.map fun b => ⟨b, 0, none⟩) f0.fHammers.length C_c)]⟩), (0, ⟨C_o, 110, row encGHammer f0.fHammers C_sp⟩)]) (N := [⟨o_295, 110, row encGHammer t_8.fHammers sp_297⟩]) hm' (by kernel_rfl) (by kernel_rfl), jkO ?_⟩
     clear hm hm'
     refine tO (qa 0 (fun b_300 => jkO (tO (qs 0 [4] (jkO (qe (jx_then (jc_seq (jc_region (qh [4,0] ?_))))))))))
     obtain ⟨t_9, ht_301, h⟩ := bd h
     refine tO (pc 0 (fun w hm => spec_PinTune.calls t_8 t1 20000 w _ cap_296 (hm.ow 3 o_295 110 t_8.fHammers sp_297 (fun e => (ho_299 e).1) encGHammer_len) rfl D_c (hm.exRowW D_h D_ha) rfl ht_301) ?_)
     rintro w v w' hm ⟨rfl, hm'⟩
     refine ⟨_, hm.app hm', jkO ?_⟩
     clear hm hm'
     refine qh [0,0,0,0] (tO (qa 0 (fun b_302 => jkO (tO (p_sA 0 5 b_302 96 1 88 encU32 (Arr.rep 96 0) t_9.1 (by kernel_rfl) (by kernel_rfl) (by kernel_rfl) encU32_len encU32_cell (by kernel_rfl) (jkO (qh [0,0] (qe (jx_then (jc_seq (jc_region (qh [0,0] (qe (jx_then (qi h (fun h => ?_) (fun h => ?_))))))))))))))))
     ·refine jc_region (qh [0,0] (tO (qa 0 (fun b_304 => jkO ?_))))
      obtain ⟨hg_305, h⟩ := gd h
      exact tO (p_apn 0 2 o_284 2 xs_4.length 1 cap_285 1 8 (some ⟨b_304, 0, none⟩) encI64 xs_4 ([i_5] : List Int) sp_286 (.int .i64 0) rfl rfl (by kernel_rfl) (by kernel_rfl) (by kernel_rfl) encI64_len encI64_cell hs_288 ho_289 (fun w hm => (hm.ow 6 (some b_304) 2 ([i_5] : List Int) [] (fun e => nomatch e) encI64_len)) hg_305 (by kernel_rfl) (by kernel_rfl) (fun o_306 cap_307 sp_308 hs_309 ho_310 => jkO (qh [0] (qe (jx_inn (jx_then (jc_region (qh [0,0,0] (qe (qb ((xs_4 ++ ([i_5] : List Int)), (w64 (i_5 + 1))) ⟨o_306, cap_307, sp_308, (xs_4 ++ ([i_5] : List Int)).length⟩ h ⟨rfl, hs_309, ho_310⟩ [0, 1, 2]))))))))))
     ·exact jc_skip (jx_inn (jx_then (jc_region (qh [0,0,0] (qe (qb (xs_4, (w64 (i_5 + 1))) ⟨o_284, cap_285, sp_286, xs_4.length⟩ h ⟨rfl, hs_288, ho_289⟩ [0, 1, 2]))))))
    ·refine jc_exit (jx_thenx (jx_leave xs_4 (Option.some.inj h).symm (fun e_311 => ?_)))
     subst e_311
     exact jx_ine (qm ⟨xs_4, o_284, cap_285, sp_286, xs_4.length⟩ ⟨hr_290, rfl, hs_288, ho_289⟩ [0, 1, 2])
   ·rintro ⟨xs_2, o_234, cap_235, sp_236, n_237⟩ ⟨h, rfl, hs_238, ho_239⟩
    replace h : spec_NeedlessTracks.k_3 xs_2 = some r := h
    rw [spec_NeedlessTracks.k_3] at h
    refine jx_then (jc_seq (jc_region (qh [0,0,0] (qe (jx_then (jc_ret ?_))))))
    obtain rfl := Option.some.inj h
    exact qr [] (fun w hm => ⟨o_234, cap_235, sp_236, xs_2.length, rfl, hs_238, ho_239, rfl, hm.pk [0, 2]⟩)
/-! ### impl.within -/
def impl_within (n0 : Int) (low1 : Int) (high2 : Int) : Option (Bool) := some ((decide (low1 ≤ n0)) && (decide (n0 ≤ high2)))
theorem impl_within.calls (n0 : Int) (low1 : Int) (high2 : Int) (w : World) (r : Bool) (h : impl_within n0 low1 high2 = some r) :
    Calls Try.prog 85 #[(.int .i64 n0), (.int .i64 low1), (.int .i64 high2)] w fun e w' => ∃ v, e = .returned v ∧ (v = (.bool r) ∧ Mem w [] [] w') := by
  rw [impl_within] at h
  refine enter (args := [(.int .i64 n0), (.int .i64 low1), (.int .i64 high2)]) Try.func85 rfl Try.ntmps85 (by kernel_rfl) (L := []) (W := []) (Mem.start w) ?_
  refine jc_seq (jc_region (qh [0] (qe (jx_then (jc_seq (jc_region (qf [(0, 0), (0, 0), (0, 0), (0, 0), (0, 1), (0, 1), (0, 1), (0, 0), (0, 0)] (qe (jx_then (jc_ret ?_))))))))))
  obtain rfl := Option.some.inj h
  exact qr [] (fun w hm => ⟨rfl, hm.pk []⟩)
/-! ### impl.size[impl.Hammer] -/
def impl_size_Hammer (list0 : List GHammer) : Option (Int) := some (list0.length : Int)
theorem impl_size_Hammer.calls (list0 : List GHammer) (w : World) (r : Int) {A_a : Option Addr} {A_an : Nat} (A_c : Nat) (A_h : Rw w A_a 2 encGHammer list0) (A_hn : list0.length = A_an) (h : impl_size_Hammer list0 = some r) :
    Calls Try.prog 69 #[(.slice A_a A_an A_c)] w fun e w' => ∃ v, e = .returned v ∧ (v = (.int .i64 r) ∧ Mem w [] [] w') := by
  subst A_hn
  rw [impl_size_Hammer] at h
  refine enter (args := [(.slice A_a list0.length A_c)]) Try.func69 rfl Try.ntmps69 (by kernel_rfl) (L := []) (W := []) (Mem.start w) ?_
  refine jc_seq (jc_region (qh [0] (qe (jx_then (jc_seq (jc_region (qh [0,0,0] (qe (jx_then (jc_ret ?_))))))))))
  obtain rfl := Option.some.inj h
  exact qr [] (fun w hm => ⟨rfl, hm.pk []⟩)
/-! ### impl.isPitch -/
def impl_isPitch (n0 : Int) : Option (Bool) := (impl_within n0 0 47).bind fun t_1 => some t_1
theorem impl_isPitch.calls (n0 : Int) (w : World) (r : Bool) (h : impl_isPitch n0 = some r) :
    Calls Try.prog 177 #[(.int .i64 n0)] w fun e w' => ∃ v, e = .returned v ∧ (v = (.bool r) ∧ Mem w [] [] w') := by
  rw [impl_isPitch] at h
  refine enter (args := [(.int .i64 n0)]) Try.func177 rfl Try.ntmps177 (by kernel_rfl) (L := []) (W := []) (Mem.start w) ?_
  refine jc_seq (jc_region (qh [0] (qe (jx_then (jc_seq (jc_region (qh [0] ?_)))))))
  obtain ⟨t_1, ht_1, h⟩ := bd h
  refine tO (pc 0 (fun w hm => impl_within.calls n0 0 47 w _ ht_1) ?_)
  rintro w v w' hm ⟨rfl, hm'⟩
  refine ⟨_, hm.app hm', jkO ?_⟩
  clear hm hm'
  refine qh [0] (qe (jx_then (jc_ret ?_)))
  obtain rfl := Option.some.inj h
  exact qr [] (fun w hm => ⟨rfl, hm.pk []⟩)
/-! ### impl.ValidFrame$1 -/
def impl_ValidFrame_1 (h0 : GHammer) (p1 : GFrame) : Option (Bool) := (impl_isPitch (w64 h0.fPitch)).bind fun t_1 => (if (!t_1) = true then some true else (impl_within (w64 h0.fReady) 1 (if (w64 p1.fSteps) < 20 then (w64 p1.fSteps) else 20)).bind fun t_2 => some (!t_2))
theorem impl_ValidFrame_1.calls (h0 : GHammer) (p1 : GFrame) (w : World) (r : Bool) {F_a : Option Addr} {F_an : Nat} (F_c : Nat) (F_h : Rw w F_a 2 encGHammer p1.fHammers) (F_hn : p1.fHammers.length = F_an) (D_b : Nat) (hm0 : Mem w (bs [some D_b]) [⟨some D_b, 34, [(.int .i16 p1.fSteps), (.slice F_a F_an F_c)]⟩] w) (F_ha : p1.fHammers ≠ [] → aB F_a ∉ bs [some D_b]) (h : impl_ValidFrame_1 h0 p1 = some r) :
    Calls Try.prog 176 #[(.agg #[(.int .i8 h0.fPitch), (.int .i8 h0.fReady)]), (.pointer (some ⟨D_b, 0, none⟩))] w fun e w' => ∃ v, e = .returned v ∧ (v = (.bool r) ∧ Mem w (bs [some D_b]) [⟨some D_b, 34, [(.int .i16 p1.fSteps), (.slice F_a F_an F_c)]⟩] w') := by
  subst F_hn
  rw [impl_ValidFrame_1] at h
  refine enter (args := [(.agg #[(.int .i8 h0.fPitch), (.int .i8 h0.fReady)]), (.pointer (some ⟨D_b, 0, none⟩))]) Try.func176 rfl Try.ntmps176 (by kernel_rfl) (L := [⟨some D_b, 34, [(.int .i16 p1.fSteps), (.slice F_a p1.fHammers.length F_c)]⟩]) (W := bs [some D_b]) hm0 ?_
  refine jc_seq (jc_region (tO (qa 0 (fun b_1 => jkO (qh [0] (qe (jx_then (jc_seq (jc_region (qh [0,1,0] ?_))))))))))
  obtain ⟨t_1, ht_2, h⟩ := bd h
  refine tO (pc 0 (fun w hm => impl_isPitch.calls (w64 h0.fPitch) w _ ht_2) ?_)
  rintro w v w' hm ⟨rfl, hm'⟩
  refine ⟨_, hm.app hm', jkO ?_⟩
  clear hm hm'
  refine qf [(0, 0), (0, 0), (0, 1), (1, 1), (0, 1), (0, 1), (0, 1), (0, 1), (0, 1)] (qp 9 h (fun h => ?_) (fun h => ?_))
  ·refine qf [(0, 3), (0, 3), (0, 4), (0, 0)] (qe (jx_then (jc_ret ?_)))
   obtain rfl := Option.some.inj h
   exact qr [] (fun w hm => ⟨rfl, hm.pk [0]⟩)
  ·obtain ⟨t_2, ht_4, h⟩ := bd h
   refine tO (pc 2 (fun w hm => impl_within.calls (w64 h0.fReady) 1 (if (w64 p1.fSteps) < 20 then (w64 p1.fSteps) else 20) w _ ht_4) ?_)
   rintro w v w' hm ⟨rfl, hm'⟩
   refine ⟨_, hm.app hm', jkO ?_⟩
   clear hm hm'
   refine qf [(0, 2), (0, 5), (0, 0)] (qe (jx_then (jc_ret ?_)))
   obtain rfl := Option.some.inj h
   exact qr [] (fun w hm => ⟨rfl, hm.pk [0]⟩)
/-! ### slices.IndexFunc[[]impl.Hammer,impl.Hammer] -/
def slices_IndexFunc_Hammer_at_impl_ValidFrame_1.k_1 : Option (Int) := some (-1)
def slices_IndexFunc_Hammer_at_impl_ValidFrame_1.l_3 (s0 : List GHammer) (g1c0 : GFrame) : Int → Option ((Int) ⊕ (Int ⊕ Unit))
  | i_2 => (if (decide (i_2 < (s0.length : Int))) = true then (ix s0 i_2).bind fun x_5 => (impl_ValidFrame_1 x_5 g1c0).bind fun t_6 => (if t_6 = true then some (.inr (.inl i_2)) else some (.inl (w64 (i_2 + 1)))) else some (.inr (.inr ())))
def slices_IndexFunc_Hammer_at_impl_ValidFrame_1 (s0 : List GHammer) (g1c0 : GFrame) : Option (Int) := (loop (slices_IndexFunc_Hammer_at_impl_ValidFrame_1.l_3 s0 g1c0) 0).bind fun t_4 => match t_4 with | .inl p => some p | .inr p => slices_IndexFunc_Hammer_at_impl_ValidFrame_1.k_1
theorem slices_IndexFunc_Hammer_at_impl_ValidFrame_1.calls (s0 : List GHammer) (g1c0 : GFrame) (w : World) (r : Int) {A_a : Option Addr} {A_an : Nat} (A_c : Nat) (A_h : Rw w A_a 2 encGHammer s0) (A_hn : s0.length = A_an) {D_a : Option Addr} {D_an : Nat} (D_c : Nat) (D_h : Rw w D_a 2 encGHammer g1c0.fHammers) (D_hn : g1c0.fHammers.length = D_an) (B_b : Nat) (hm0 : Mem w (bs [some B_b]) [⟨some B_b, 34, [(.int .i16 g1c0.fSteps), (.slice D_a D_an D_c)]⟩] w) (A_ha : s0 ≠ [] → aB A_a ∉ bs [some B_b]) (D_ha : g1c0.fHammers ≠ [] → aB D_a ∉ bs [some B_b]) (h : slices_IndexFunc_Hammer_at_impl_ValidFrame_1 s0 g1c0 = some r) :
    Calls Try.prog 193 #[(.slice A_a A_an A_c), (.func (.func 176) #[] #[(.pointer (some ⟨B_b, 0, none⟩))])] w fun e w' => ∃ v, e = .returned v ∧ (v = (.int .i64 r) ∧ Mem w (bs [some B_b]) [⟨some B_b, 34, [(.int .i16 g1c0.fSteps), (.slice D_a D_an D_c)]⟩] w') := by
  subst A_hn D_hn
  rw [slices_IndexFunc_Hammer_at_impl_ValidFrame_1] at h
  refine enter (args := [(.slice A_a s0.length A_c), (.func (.func 176) #[] #[(.pointer (some ⟨B_b, 0, none⟩))])]) Try.func193 rfl Try.ntmps193 (by kernel_rfl) (L := [⟨some B_b, 34, [(.int .i16 g1c0.fSteps), (.slice D_a g1c0.fHammers.length D_c)]⟩]) (W := bs [some B_b]) hm0 ?_
  refine jc_seq (jc_region (qh [0] (qe (jx_then (jc_seq (jc_seq (jc_region (qh [0,0,0] (qe (jx_then (jc_meet (fun (_ : Unit) => slices_IndexFunc_Hammer_at_impl_ValidFrame_1.k_1 = some r) (fun (_ : Unit) => [(4, [], (.int .i64 0))]) (fun (_ : Unit) => [⟨some B_b, 34, [(.int .i16 g1c0.fSteps), (.slice D_a g1c0.fHammers.length D_c)]⟩]) ?_ ?_)))))))))))
  ·refine jc_block ?_
   obtain ⟨t_4, ht_40, hr_31⟩ := bd h
   refine jc_loop (fun (s : Int) (x : Unit) => match s, x with | i_2, _ => True) (fun (s : Int) (x : Unit) => match s, x with | i_2, _ => [(0, [], (.slice A_a s0.length A_c)), (1, [], (.func (.func 176) #[] #[(.pointer (some ⟨B_b, 0, none⟩))])), (4, [], (.int .i64 0)), (7, [], (.int .i64 (s0.length : Int))), (8, [], (.int .i64 i_2))]) (fun (s : Int) (x : Unit) => match s, x with | i_2, _ => [⟨some B_b, 34, [(.int .i16 g1c0.fSteps), (.slice D_a g1c0.fHammers.length D_c)]⟩]) ht_40 () trivial (by kernel_rfl) [0] (by kernel_rfl) (by kernel_rfl) ?_
   rintro i_2 _ y_32 _ h
   rw [slices_IndexFunc_Hammer_at_impl_ValidFrame_1.l_3] at h
   refine jc_seq (jc_region (qh [0] (qe (jx_then (jc_seq (qi h (fun h => ?_) (fun h => ?_)))))))
   ·refine jc_skip (jx_then (jc_seq (jc_block (jc_seq (jc_region (qh [0,0] (qe (jx_then (jc_seq (jc_region (qh [0,0,0] ?_)))))))))))
    obtain ⟨x_5, hx_35, h⟩ := bd h
    refine tO (qx 0 A_a 2 hx_35 rfl (A_h.sp hx_35) (jkO (tO (ql 0 true (fun w hm => ((hm.exRowW A_h A_ha).at hx_35)) (jkO ?_)))))
    obtain ⟨t_6, ht_36, h⟩ := bd h
    refine tO (pc 0 (fun w hm => impl_ValidFrame_1.calls x_5 g1c0 w _ D_c (hm.exRowW D_h D_ha) rfl B_b (hm.pass (N := [⟨some B_b, 34, [(.int .i16 g1c0.fSteps), (.slice D_a g1c0.fHammers.length D_c)]⟩]) [0] (by kernel_rfl) (by kernel_rfl)) (hm.exApart (N := [⟨some B_b, 34, [(.int .i16 g1c0.fSteps), (.slice D_a g1c0.fHammers.length D_c)]⟩]) D_h D_ha [0] (by kernel_rfl)) ht_36) ?_)
    rintro w v w' hm ⟨rfl, hm'⟩
    refine ⟨_, hm.appW (ps := [(0, ⟨some B_b, 34, [(.int .i16 g1c0.fSteps), (.slice D_a g1c0.fHammers.length D_c)]⟩)]) (N := []) hm' (by kernel_rfl) (by kernel_rfl), jkO ?_⟩
    clear hm hm'
    refine qe (jx_then (qi h (fun h => ?_) (fun h => ?_)))
    ·refine jc_seq (jc_region (qh [0,0] (qe (jx_then (jc_ret (jx_inr (jx_thenr (jx_leaver (.inl i_2) (Option.some.inj h).symm (fun e_38 => ?_)))))))))
     subst e_38
     refine jx_inr (jx_thenr (jx_thenr ?_))
     obtain rfl := Option.some.inj hr_31
     exact qr [] (fun w hm => ⟨rfl, hm.pk [0]⟩)
    ·exact jc_skip (jx_inn (jx_then (jc_region (qh [0,0] (qe (qb (w64 (i_2 + 1)) () h trivial [0]))))))
   ·refine jc_exit (jx_thenx (jx_leave (.inr ()) (Option.some.inj h).symm (fun e_39 => ?_)))
    subst e_39
    exact jx_ine (qm () hr_31 [0])
  ·rintro _ h
   replace h : slices_IndexFunc_Hammer_at_impl_ValidFrame_1.k_1 = some r := h
   rw [slices_IndexFunc_Hammer_at_impl_ValidFrame_1.k_1] at h
   refine jx_then (jc_seq (jc_region (qh [0] (qe (jx_then (jc_ret ?_))))))
   obtain rfl := Option.some.inj h
   exact qr [] (fun w hm => ⟨rfl, hm.pk [0]⟩)
/-! ### slices.ContainsFunc[[]impl.Hammer,impl.Hammer] -/
def slices_ContainsFunc_Hammer_at_impl_ValidFrame_1 (s0 : List GHammer) (g1c0 : GFrame) : Option (Bool) := (slices_IndexFunc_Hammer_at_impl_ValidFrame_1 s0 g1c0).bind fun t_1 => some (decide (t_1 ≥ 0))
theorem slices_ContainsFunc_Hammer_at_impl_ValidFrame_1.calls (s0 : List GHammer) (g1c0 : GFrame) (w : World) (r : Bool) {A_a : Option Addr} {A_an : Nat} (A_c : Nat) (A_h : Rw w A_a 2 encGHammer s0) (A_hn : s0.length = A_an) {D_a : Option Addr} {D_an : Nat} (D_c : Nat) (D_h : Rw w D_a 2 encGHammer g1c0.fHammers) (D_hn : g1c0.fHammers.length = D_an) (B_b : Nat) (hm0 : Mem w (bs [some B_b]) [⟨some B_b, 34, [(.int .i16 g1c0.fSteps), (.slice D_a D_an D_c)]⟩] w) (A_ha : s0 ≠ [] → aB A_a ∉ bs [some B_b]) (D_ha : g1c0.fHammers ≠ [] → aB D_a ∉ bs [some B_b]) (h : slices_ContainsFunc_Hammer_at_impl_ValidFrame_1 s0 g1c0 = some r) :
    Calls Try.prog 175 #[(.slice A_a A_an A_c), (.func (.func 176) #[] #[(.pointer (some ⟨B_b, 0, none⟩))])] w fun e w' => ∃ v, e = .returned v ∧ (v = (.bool r) ∧ Mem w (bs [some B_b]) [⟨some B_b, 34, [(.int .i16 g1c0.fSteps), (.slice D_a D_an D_c)]⟩] w') := by
  subst A_hn D_hn
  rw [slices_ContainsFunc_Hammer_at_impl_ValidFrame_1] at h
  refine enter (args := [(.slice A_a s0.length A_c), (.func (.func 176) #[] #[(.pointer (some ⟨B_b, 0, none⟩))])]) Try.func175 rfl Try.ntmps175 (by kernel_rfl) (L := [⟨some B_b, 34, [(.int .i16 g1c0.fSteps), (.slice D_a g1c0.fHammers.length D_c)]⟩]) (W := bs [some B_b]) hm0 ?_
  refine jc_seq (jc_region (qh [0] (qe (jx_then (jc_seq (jc_region (qh [0,0] ?_)))))))
  obtain ⟨t_1, ht_1, h⟩ := bd h
  refine tO (pc 0 (fun w hm => slices_IndexFunc_Hammer_at_impl_ValidFrame_1.calls s0 g1c0 w _ A_c (hm.exRowW A_h A_ha) rfl D_c (hm.exRowW D_h D_ha) rfl B_b (hm.pass (N := [⟨some B_b, 34, [(.int .i16 g1c0.fSteps), (.slice D_a g1c0.fHammers.length D_c)]⟩]) [0] (by kernel_rfl) (by kernel_rfl)) (hm.exApart (N := [⟨some B_b, 34, [(.int .i16 g1c0.fSteps), (.slice D_a g1c0.fHammers.length D_c)]⟩]) A_h A_ha [0] (by kernel_rfl)) (hm.exApart (N := [⟨some B_b, 34, [(.int .i16 g1c0.fSteps), (.slice D_a g1c0.fHammers.length D_c)]⟩]) D_h D_ha [0] (by kernel_rfl)) ht_1) ?_)
  rintro w v w' hm ⟨rfl, hm'⟩
  refine ⟨_, hm.appW (ps := [(0, ⟨some B_b, 34, [(.int .i16 g1c0.fSteps), (.slice D_a g1c0.fHammers.length D_c)]⟩)]) (N := []) hm' (by kernel_rfl) (by kernel_rfl), jkO ?_⟩
  clear hm hm'
  refine qh [0,0] (qe (jx_then (jc_ret ?_)))
  obtain rfl := Option.some.inj h
  exact qr [] (fun w hm => ⟨rfl, hm.pk [0]⟩)
/-! ### impl.ValidFrame -/
def impl_ValidFrame (f0 : GFrame) : Option (Bool) := (impl_within (w64 f0.fSteps) 2 96).bind fun t_1 => (if t_1 = true then (impl_size_Hammer f0.fHammers).bind fun t_2 => (impl_within t_2 1 24).bind fun t_3 => (if t_3 = true then (slices_ContainsFunc_Hammer_at_impl_ValidFrame_1 f0.fHammers f0).bind fun t_4 => some (!t_4) else some false) else some false)
theorem impl_ValidFrame.calls (f0 : GFrame) (w : World) (r : Bool) {C_a : Option Addr} {C_an : Nat} (C_c : Nat) (C_h : Rw w C_a 2 encGHammer f0.fHammers) (C_hn : f0.fHammers.length = C_an) (h : impl_ValidFrame f0 = some r) :
    Calls Try.prog 151 #[(.agg #[(.int .i16 f0.fSteps), (.slice C_a C_an C_c)])] w fun e w' => ∃ v, e = .returned v ∧ (v = (.bool r) ∧ Mem w [] [] w') := by
  subst C_hn
  rw [impl_ValidFrame] at h
  refine enter (args := [(.agg #[(.int .i16 f0.fSteps), (.slice C_a f0.fHammers.length C_c)])]) Try.func151 rfl Try.ntmps151 (by kernel_rfl) (L := []) (W := []) (Mem.start w) ?_
  refine jc_seq (jc_region (tO (qa 0 (fun b_1 => jkO (qh [0] (qe (jx_then (jc_seq (jc_region (qh [0,0,0] ?_))))))))))
  obtain ⟨t_1, ht_2, h⟩ := bd h
  refine tO (pc 0 (fun w hm => impl_within.calls (w64 f0.fSteps) 2 96 w _ ht_2) ?_)
  rintro w v w' hm ⟨rfl, hm'⟩
  refine ⟨_, hm.app hm', jkO ?_⟩
  clear hm hm'
  refine qf [(0, 0), (0, 1), (0, 1)] (qp 7 h (fun h => ?_) (fun h => ?_))
  ·obtain ⟨t_2, ht_4, h⟩ := bd h
   refine tO (pc 2 (fun w hm => impl_size_Hammer.calls f0.fHammers w _ C_c (hm.xr C_h) rfl ht_4) ?_)
   rintro w v w' hm ⟨rfl, hm'⟩
   refine ⟨_, hm.app hm', jkO ?_⟩
   clear hm hm'
   obtain ⟨t_3, ht_5, h⟩ := bd h
   refine tO (pc 2 (fun w hm => impl_within.calls t_2 1 24 w _ ht_5) ?_)
   rintro w v w' hm ⟨rfl, hm'⟩
   refine ⟨_, hm.app hm', jkO ?_⟩
   clear hm hm'
   refine qf [(0, 4), (0, 0), (0, 1), (0, 1), (0, 1)] (qp 13 h (fun h => ?_) (fun h => ?_))
   ·obtain ⟨t_4, ht_7, h⟩ := bd h
    refine tO (pc 2 (fun w hm => slices_ContainsFunc_Hammer_at_impl_ValidFrame_1.calls f0.fHammers f0 w _ C_c (hm.xr C_h) rfl C_c (hm.xr C_h) rfl b_1 (hm.pass (N := [⟨some b_1, 34, [(.int .i16 f0.fSteps), (.slice C_a f0.fHammers.length C_c)]⟩]) [0] (by kernel_rfl) (by kernel_rfl)) (hm.exApart (N := [⟨some b_1, 34, [(.int .i16 f0.fSteps), (.slice C_a f0.fHammers.length C_c)]⟩]) C_h (fun _ => List.not_mem_nil) [0] (by kernel_rfl)) (hm.exApart (N := [⟨some b_1, 34, [(.int .i16 f0.fSteps), (.slice C_a f0.fHammers.length C_c)]⟩]) C_h (fun _ => List.not_mem_nil) [0] (by kernel_rfl)) ht_7) ?_)
    rintro w v w' hm ⟨rfl, hm'⟩
    refine ⟨_, hm.appW (ps := [(0, ⟨some b_1, 34, [(.int .i16 f0.fSteps), (.slice C_a f0.fHammers.length C_c)]⟩)]) (N := []) hm' (by kernel_rfl) (by kernel_rfl), jkO ?_⟩
    clear hm hm'
    refine qf [(0, 2), (0, 4), (0, 0)] (qe (jx_then (jc_ret ?_)))
    obtain rfl := Option.some.inj h
    exact qr [] (fun w hm => ⟨rfl, hm.pk []⟩)
   ·refine qf [(0, 3), (0, 3), (0, 5), (0, 0)] (qe (jx_then (jc_ret ?_)))
    obtain rfl := Option.some.inj h
    exact qr [] (fun w hm => ⟨rfl, hm.pk []⟩)
  ·refine qf [(0, 3), (0, 3), (0, 5), (0, 0), (0, 3), (0, 3), (0, 3), (0, 3), (0, 3), (0, 5), (0, 0)] (qe (jx_then (jc_ret ?_)))
   obtain rfl := Option.some.inj h
   exact qr [] (fun w hm => ⟨rfl, hm.pk []⟩)
/-! ### (impl.Frame).isDrum -/
def impl_Frame_isDrum.k_1 : Option (Bool) := some true
def impl_Frame_isDrum.k_7 (i_2 : Int) (q_6 : Bool) : Option ((Int) ⊕ (Bool ⊕ Unit)) := (if q_6 = true then some (.inr (.inl false)) else some (.inl (w64 (i_2 + 1))))
def impl_Frame_isDrum.l_3 (f0 : GFrame) (d1 : Arr 96 Int) : Int → Option ((Int) ⊕ (Bool ⊕ Unit))
  | i_2 => (if (decide (i_2 < 96)) = true then (ix d1.1 i_2).bind fun x_5 => (if 0 ≤ (f0.fHammers.length : Int) then (if ((bShr .u32 x_5 (f0.fHammers.length : Int)) != 0) = true then impl_Frame_isDrum.k_7 i_2 true else impl_Frame_isDrum.k_7 i_2 ((decide (i_2 ≥ (w64 f0.fSteps))) && (x_5 != 0))) else none) else some (.inr (.inr ())))
def impl_Frame_isDrum (f0 : GFrame) (d1 : Arr 96 Int) : Option (Bool) := (loop (impl_Frame_isDrum.l_3 f0 d1) 0).bind fun t_4 => match t_4 with | .inl p => some p | .inr p => impl_Frame_isDrum.k_1
theorem impl_Frame_isDrum.calls (f0 : GFrame) (d1 : Arr 96 Int) (w : World) (r : Bool) {C_a : Option Addr} {C_an : Nat} (C_c : Nat) (C_h : Rw w C_a 2 encGHammer f0.fHammers) (C_hn : f0.fHammers.length = C_an) (h : impl_Frame_isDrum f0 d1 = some r) :
    Calls Try.prog 154 #[(.agg #[(.int .i16 f0.fSteps), (.slice C_a C_an C_c)]), (.agg (row encU32 d1.1 []).toArray)] w fun e w' => ∃ v, e = .returned v ∧ (v = (.bool r) ∧ Mem w [] [] w') := by
  subst C_hn
  rw [impl_Frame_isDrum] at h
  refine enter (args := [(.agg #[(.int .i16 f0.fSteps), (.slice C_a f0.fHammers.length C_c)]), (.agg (row encU32 d1.1 []).toArray)]) Try.func154 rfl Try.ntmps154 (by kernel_rfl) (L := []) (W := []) (Mem.start w) ?_
  refine jc_seq (jc_region (tO (qa 0 (fun b_1 => jkO (tO (qa 0 (fun b_2 => jkO (qh [0] (qe (jx_then (jc_seq (jc_seq (jc_region (tO (p_ldA 0 1 b_2 96 1 88 encU32 d1 (by kernel_rfl) (by kernel_rfl) (by kernel_rfl) encU32_len (by kernel_rfl) (jkO (qh [0] (qe (jx_then (jc_meet (fun (_ : Unit) => impl_Frame_isDrum.k_1 = some r) (fun (_ : Unit) => [(4, [], (.bool false))]) (fun (_ : Unit) => [⟨some b_1, 34, [(.int .i16 f0.fSteps), (.slice C_a f0.fHammers.length C_c)]⟩, ⟨(some b_2), 88, row encU32 d1.1 []⟩]) ?_ ?_))))))))))))))))))))
  ·refine jc_block ?_
   obtain ⟨t_4, ht_60, hr_48⟩ := bd h
   refine jc_loop (fun (s : Int) (x : Unit) => match s, x with | i_2, _ => True) (fun (s : Int) (x : Unit) => match s, x with | i_2, _ => [(2, [], (.pointer (some ⟨b_1, 0, none⟩))), (4, [], (.bool false)), (7, [], (.agg (row encU32 d1.1 []).toArray)), (8, [], (.int .i64 i_2))]) (fun (s : Int) (x : Unit) => match s, x with | i_2, _ => [⟨some b_1, 34, [(.int .i16 f0.fSteps), (.slice C_a f0.fHammers.length C_c)]⟩, ⟨(some b_2), 88, row encU32 d1.1 []⟩]) ht_60 () trivial (by kernel_rfl) [0, 1] (by kernel_rfl) (by kernel_rfl) ?_
   rintro i_2 _ y_49 _ h
   rw [impl_Frame_isDrum.l_3] at h
   refine jc_seq (jc_region (qh [0] (qe (jx_then (jc_seq (qi h (fun h => ?_) (fun h => ?_)))))))
   ·refine jc_skip (jx_then (jc_seq (jc_block (jc_seq (jc_region (qh [0] ?_))))))
    obtain ⟨x_5, hx_52, h⟩ := bd h
    refine tO (p_ixA 0 encU32 (fun x => (.int .u32 x)) d1 i_2 (by kernel_rfl) (by kernel_rfl) (fun _ => rfl) hx_52 (jkO (qh [0,0] (qe (jx_then (jc_seq (jc_meet (fun (j : Bool) => match j with | q_6 => impl_Frame_isDrum.k_7 i_2 q_6 = some y_49) (fun (j : Bool) => match j with | q_6 => [(2, [], (.pointer (some ⟨b_1, 0, none⟩))), (4, [], (.bool false)), (7, [], (.agg (row encU32 d1.1 []).toArray)), (8, [], (.int .i64 i_2)), (28, [], (.bool q_6))]) (fun (j : Bool) => match j with | q_6 => [⟨some b_1, 34, [(.int .i16 f0.fSteps), (.slice C_a f0.fHammers.length C_c)]⟩, ⟨(some b_2), 88, row encU32 d1.1 []⟩]) ?_ ?_)))))))
    ·refine jc_region (qh [0,0,0,0] ?_)
     obtain ⟨hg_57, h⟩ := gd h
     refine tO (p_shr 0 .u32 x_5 .i64 (f0.fHammers.length : Int) (by kernel_rfl) (by kernel_rfl) hg_57 (jkO (qf [(0, 0), (0, 0), (0, 1), (0, 1), (0, 1), (0, 1), (0, 1)] (qp 18 h (fun h => ?_) (fun h => ?_)))))
     ·exact qf [(0, 3), (0, 3), (0, 3), (0, 3), (0, 4)] (qe (qm true h [0, 1]))
     ·exact qf [(0, 2), (0, 1), (0, 1), (0, 2), (0, 5)] (qe (qm ((decide (i_2 ≥ (w64 f0.fSteps))) && (x_5 != 0)) h [0, 1]))
    ·rintro q_6 h
     replace h : impl_Frame_isDrum.k_7 i_2 q_6 = some y_49 := h
     rw [impl_Frame_isDrum.k_7] at h
     refine jx_then (qi h (fun h => ?_) (fun h => ?_))
     ·refine jc_seq (jc_region (qh [0] (qe (jx_then (jc_ret (jx_inr (jx_thenr (jx_leaver (.inl false) (Option.some.inj h).symm (fun e_56 => ?_)))))))))
      subst e_56
      refine jx_inr (jx_thenr (jx_thenr ?_))
      obtain rfl := Option.some.inj hr_48
      exact qr [] (fun w hm => ⟨rfl, hm.pk []⟩)
     ·exact jc_skip (jx_inn (jx_then (jc_region (qh [0,0] (qe (qb (w64 (i_2 + 1)) () h trivial [0, 1]))))))
   ·refine jc_exit (jx_thenx (jx_leave (.inr ()) (Option.some.inj h).symm (fun e_59 => ?_)))
    subst e_59
    exact jx_ine (qm () hr_48 [0, 1])
  ·rintro _ h
   replace h : impl_Frame_isDrum.k_1 = some r := h
   rw [impl_Frame_isDrum.k_1] at h
   refine jx_then (jc_seq (jc_region (qh [0] (qe (jx_then (jc_ret ?_))))))
   obtain rfl := Option.some.inj h
   exact qr [] (fun w hm => ⟨rfl, hm.pk []⟩)
/-! ### impl.drumCode$1 -/
def impl_drumCode_1 (d0 : Arr 96 Int) (p1 : GFrame) : Option (Bool) := (impl_Frame_isDrum p1 d0).bind fun t_1 => some (!t_1)
theorem impl_drumCode_1.calls (d0 : Arr 96 Int) (p1 : GFrame) (w : World) (r : Bool) {D_a : Option Addr} {D_an : Nat} (D_c : Nat) (D_h : Rw w D_a 2 encGHammer p1.fHammers) (D_hn : p1.fHammers.length = D_an) (B_b : Nat) (hm0 : Mem w (bs [some B_b]) [⟨some B_b, 34, [(.int .i16 p1.fSteps), (.slice D_a D_an D_c)]⟩] w) (D_ha : p1.fHammers ≠ [] → aB D_a ∉ bs [some B_b]) (h : impl_drumCode_1 d0 p1 = some r) :
    Calls Try.prog 153 #[(.agg (row encU32 d0.1 []).toArray), (.pointer (some ⟨B_b, 0, none⟩))] w fun e w' => ∃ v, e = .returned v ∧ (v = (.bool r) ∧ Mem w (bs [some B_b]) [⟨some B_b, 34, [(.int .i16 p1.fSteps), (.slice D_a D_an D_c)]⟩] w') := by
  subst D_hn
  rw [impl_drumCode_1] at h
  refine enter (args := [(.agg (row encU32 d0.1 []).toArray), (.pointer (some ⟨B_b, 0, none⟩))]) Try.func153 rfl Try.ntmps153 (by kernel_rfl) (L := [⟨some B_b, 34, [(.int .i16 p1.fSteps), (.slice D_a p1.fHammers.length D_c)]⟩]) (W := bs [some B_b]) hm0 ?_
  refine jc_seq (jc_region (tO (qa 0 (fun b_1 => jkO (qh [0] (qe (jx_then (jc_seq (jc_region (qh [0] (tO (p_ldA 0 1 b_1 96 1 88 encU32 d0 (by kernel_rfl) (by kernel_rfl) (by kernel_rfl) encU32_len (by kernel_rfl) (jkO ?_)))))))))))))
  obtain ⟨t_1, ht_2, h⟩ := bd h
  refine tO (pc 0 (fun w hm => impl_Frame_isDrum.calls p1 d0 w _ D_c (hm.exRowW D_h D_ha) rfl ht_2) ?_)
  rintro w v w' hm ⟨rfl, hm'⟩
  refine ⟨_, hm.app hm', jkO ?_⟩
  clear hm hm'
  refine qh [0,0] (qe (jx_then (jc_ret ?_)))
  obtain rfl := Option.some.inj h
  exact qr [] (fun w hm => ⟨rfl, hm.pk [0]⟩)
/-! ### slices.IndexFunc[[]impl.Drum,impl.Drum] -/
def slices_IndexFunc_Drum_at_impl_drumCode_1.k_1 : Option (Int) := some (-1)
def slices_IndexFunc_Drum_at_impl_drumCode_1.l_3 (s0 : List (Arr 96 Int)) (g1c0 : GFrame) : Int → Option ((Int) ⊕ (Int ⊕ Unit))
  | i_2 => (if (decide (i_2 < (s0.length : Int))) = true then (ix s0 i_2).bind fun x_5 => (impl_drumCode_1 x_5 g1c0).bind fun t_6 => (if t_6 = true then some (.inr (.inl i_2)) else some (.inl (w64 (i_2 + 1)))) else some (.inr (.inr ())))
def slices_IndexFunc_Drum_at_impl_drumCode_1 (s0 : List (Arr 96 Int)) (g1c0 : GFrame) : Option (Int) := (loop (slices_IndexFunc_Drum_at_impl_drumCode_1.l_3 s0 g1c0) 0).bind fun t_4 => match t_4 with | .inl p => some p | .inr p => slices_IndexFunc_Drum_at_impl_drumCode_1.k_1
theorem slices_IndexFunc_Drum_at_impl_drumCode_1.calls (s0 : List (Arr 96 Int)) (g1c0 : GFrame) (w : World) (r : Int) {A_a : Option Addr} {A_an : Nat} (A_c : Nat) (A_h : Rw w A_a 96 encA96U32 s0) (A_hn : s0.length = A_an) {D_a : Option Addr} {D_an : Nat} (D_c : Nat) (D_h : Rw w D_a 2 encGHammer g1c0.fHammers) (D_hn : g1c0.fHammers.length = D_an) (B_b : Nat) (hm0 : Mem w (bs [some B_b]) [⟨some B_b, 34, [(.int .i16 g1c0.fSteps), (.slice D_a D_an D_c)]⟩] w) (A_ha : s0 ≠ [] → aB A_a ∉ bs [some B_b]) (D_ha : g1c0.fHammers ≠ [] → aB D_a ∉ bs [some B_b]) (h : slices_IndexFunc_Drum_at_impl_drumCode_1 s0 g1c0 = some r) :
    Calls Try.prog 178 #[(.slice A_a A_an A_c), (.func (.func 153) #[] #[(.pointer (some ⟨B_b, 0, none⟩))])] w fun e w' => ∃ v, e = .returned v ∧ (v = (.int .i64 r) ∧ Mem w (bs [some B_b]) [⟨some B_b, 34, [(.int .i16 g1c0.fSteps), (.slice D_a D_an D_c)]⟩] w') := by
  subst A_hn D_hn
  rw [slices_IndexFunc_Drum_at_impl_drumCode_1] at h
  refine enter (args := [(.slice A_a s0.length A_c), (.func (.func 153) #[] #[(.pointer (some ⟨B_b, 0, none⟩))])]) Try.func178 rfl Try.ntmps178 (by kernel_rfl) (L := [⟨some B_b, 34, [(.int .i16 g1c0.fSteps), (.slice D_a g1c0.fHammers.length D_c)]⟩]) (W := bs [some B_b]) hm0 ?_
  refine jc_seq (jc_region (qh [0] (qe (jx_then (jc_seq (jc_seq (jc_region (qh [0,0,0] (qe (jx_then (jc_meet (fun (_ : Unit) => slices_IndexFunc_Drum_at_impl_drumCode_1.k_1 = some r) (fun (_ : Unit) => [(4, [], (.int .i64 0))]) (fun (_ : Unit) => [⟨some B_b, 34, [(.int .i16 g1c0.fSteps), (.slice D_a g1c0.fHammers.length D_c)]⟩]) ?_ ?_)))))))))))
  ·refine jc_block ?_
   obtain ⟨t_4, ht_40, hr_31⟩ := bd h
   refine jc_loop (fun (s : Int) (x : Unit) => match s, x with | i_2, _ => True) (fun (s : Int) (x : Unit) => match s, x with | i_2, _ => [(0, [], (.slice A_a s0.length A_c)), (1, [], (.func (.func 153) #[] #[(.pointer (some ⟨B_b, 0, none⟩))])), (4, [], (.int .i64 0)), (7, [], (.int .i64 (s0.length : Int))), (8, [], (.int .i64 i_2))]) (fun (s : Int) (x : Unit) => match s, x with | i_2, _ => [⟨some B_b, 34, [(.int .i16 g1c0.fSteps), (.slice D_a g1c0.fHammers.length D_c)]⟩]) ht_40 () trivial (by kernel_rfl) [0] (by kernel_rfl) (by kernel_rfl) ?_
   rintro i_2 _ y_32 _ h
   rw [slices_IndexFunc_Drum_at_impl_drumCode_1.l_3] at h
   refine jc_seq (jc_region (qh [0] (qe (jx_then (jc_seq (qi h (fun h => ?_) (fun h => ?_)))))))
   ·refine jc_skip (jx_then (jc_seq (jc_block (jc_seq (jc_region (qh [0,0] (qe (jx_then (jc_seq (jc_region (qh [0,0,0] ?_)))))))))))
    obtain ⟨x_5, hx_35, h⟩ := bd h
    refine tO (qx 0 A_a 96 hx_35 rfl (A_h.sp hx_35) (jkO (tO (p_ldx 0 (aB A_a) (aO A_a + i_2.toNat * 96) (encA96U32 x_5) 96 (by kernel_rfl) (by kernel_rfl) (encA96U32_len x_5) (fun w hm => ((hm.exRowW A_h A_ha).at hx_35)) (jkO ?_)))))
    obtain ⟨t_6, ht_36, h⟩ := bd h
    refine tO (pc 0 (fun w hm => impl_drumCode_1.calls x_5 g1c0 w _ D_c (hm.exRowW D_h D_ha) rfl B_b (hm.pass (N := [⟨some B_b, 34, [(.int .i16 g1c0.fSteps), (.slice D_a g1c0.fHammers.length D_c)]⟩]) [0] (by kernel_rfl) (by kernel_rfl)) (hm.exApart (N := [⟨some B_b, 34, [(.int .i16 g1c0.fSteps), (.slice D_a g1c0.fHammers.length D_c)]⟩]) D_h D_ha [0] (by kernel_rfl)) ht_36) ?_)
    rintro w v w' hm ⟨rfl, hm'⟩
    refine ⟨_, hm.appW (ps := [(0, ⟨some B_b, 34, [(.int .i16 g1c0.fSteps), (.slice D_a g1c0.fHammers.length D_c)]⟩)]) (N := []) hm' (by kernel_rfl) (by kernel_rfl), jkO ?_⟩
    clear hm hm'
    refine qe (jx_then (qi h (fun h => ?_) (fun h => ?_)))
    ·refine jc_seq (jc_region (qh [0,0] (qe (jx_then (jc_ret (jx_inr (jx_thenr (jx_leaver (.inl i_2) (Option.some.inj h).symm (fun e_38 => ?_)))))))))
     subst e_38
     refine jx_inr (jx_thenr (jx_thenr ?_))
     obtain rfl := Option.some.inj hr_31
     exact qr [] (fun w hm => ⟨rfl, hm.pk [0]⟩)
    ·exact jc_skip (jx_inn (jx_then (jc_region (qh [0,0] (qe (qb (w64 (i_2 + 1)) () h trivial [0]))))))
   ·refine jc_exit (jx_thenx (jx_leave (.inr ()) (Option.some.inj h).symm (fun e_39 => ?_)))
    subst e_39
    exact jx_ine (qm () hr_31 [0])
  ·rintro _ h
   replace h : slices_IndexFunc_Drum_at_impl_drumCode_1.k_1 = some r := h
   rw [slices_IndexFunc_Drum_at_impl_drumCode_1.k_1] at h
   refine jx_then (jc_seq (jc_region (qh [0] (qe (jx_then (jc_ret ?_))))))
   obtain rfl := Option.some.inj h
   exact qr [] (fun w hm => ⟨rfl, hm.pk [0]⟩)
/-! ### slices.ContainsFunc[[]impl.Drum,impl.Drum] -/
def slices_ContainsFunc_Drum_at_impl_drumCode_1 (s0 : List (Arr 96 Int)) (g1c0 : GFrame) : Option (Bool) := (slices_IndexFunc_Drum_at_impl_drumCode_1 s0 g1c0).bind fun t_1 => some (decide (t_1 ≥ 0))
theorem slices_ContainsFunc_Drum_at_impl_drumCode_1.calls (s0 : List (Arr 96 Int)) (g1c0 : GFrame) (w : World) (r : Bool) {A_a : Option Addr} {A_an : Nat} (A_c : Nat) (A_h : Rw w A_a 96 encA96U32 s0) (A_hn : s0.length = A_an) {D_a : Option Addr} {D_an : Nat} (D_c : Nat) (D_h : Rw w D_a 2 encGHammer g1c0.fHammers) (D_hn : g1c0.fHammers.length = D_an) (B_b : Nat) (hm0 : Mem w (bs [some B_b]) [⟨some B_b, 34, [(.int .i16 g1c0.fSteps), (.slice D_a D_an D_c)]⟩] w) (A_ha : s0 ≠ [] → aB A_a ∉ bs [some B_b]) (D_ha : g1c0.fHammers ≠ [] → aB D_a ∉ bs [some B_b]) (h : slices_ContainsFunc_Drum_at_impl_drumCode_1 s0 g1c0 = some r) :
    Calls Try.prog 152 #[(.slice A_a A_an A_c), (.func (.func 153) #[] #[(.pointer (some ⟨B_b, 0, none⟩))])] w fun e w' => ∃ v, e = .returned v ∧ (v = (.bool r) ∧ Mem w (bs [some B_b]) [⟨some B_b, 34, [(.int .i16 g1c0.fSteps), (.slice D_a D_an D_c)]⟩] w') := by
  subst A_hn D_hn
  rw [slices_ContainsFunc_Drum_at_impl_drumCode_1] at h
  refine enter (args := [(.slice A_a s0.length A_c), (.func (.func 153) #[] #[(.pointer (some ⟨B_b, 0, none⟩))])]) Try.func152 rfl Try.ntmps152 (by kernel_rfl) (L := [⟨some B_b, 34, [(.int .i16 g1c0.fSteps), (.slice D_a g1c0.fHammers.length D_c)]⟩]) (W := bs [some B_b]) hm0 ?_
  refine jc_seq (jc_region (qh [0] (qe (jx_then (jc_seq (jc_region (qh [0,0] ?_)))))))
  obtain ⟨t_1, ht_1, h⟩ := bd h
  refine tO (pc 0 (fun w hm => slices_IndexFunc_Drum_at_impl_drumCode_1.calls s0 g1c0 w _ A_c (hm.exRowW A_h A_ha) rfl D_c (hm.exRowW D_h D_ha) rfl B_b (hm.pass (N := [⟨some B_b, 34, [(.int .i16 g1c0.fSteps), (.slice D_a g1c0.fHammers.length D_c)]⟩]) [0] (by kernel_rfl) (by kernel_rfl)) (hm.exApart (N := [⟨some B_b, 34, [(.int .i16 g1c0.fSteps), (.slice D_a g1c0.fHammers.length D_c)]⟩]) A_h A_ha [0] (by kernel_rfl)) (hm.exApart (N := [⟨some B_b, 34, [(.int .i16 g1c0.fSteps), (.slice D_a g1c0.fHammers.length D_c)]⟩]) D_h D_ha [0] (by kernel_rfl)) ht_1) ?_)
  rintro w v w' hm ⟨rfl, hm'⟩
  refine ⟨_, hm.appW (ps := [(0, ⟨some B_b, 34, [(.int .i16 g1c0.fSteps), (.slice D_a g1c0.fHammers.length D_c)]⟩)]) (N := []) hm' (by kernel_rfl) (by kernel_rfl), jkO ?_⟩
  clear hm hm'
  refine qh [0,0] (qe (jx_then (jc_ret ?_)))
  obtain rfl := Option.some.inj h
  exact qr [] (fun w hm => ⟨rfl, hm.pk [0]⟩)
/-! ### impl.unless -/
def impl_unless (is0 : Bool) (code1 : Int) : Option (Int) := (if is0 = true then some 0 else some code1)
theorem impl_unless.calls (is0 : Bool) (code1 : Int) (w : World) (r : Int) (h : impl_unless is0 code1 = some r) :
    Calls Try.prog 94 #[(.bool is0), (.int .i64 code1)] w fun e w' => ∃ v, e = .returned v ∧ (v = (.int .i64 r) ∧ Mem w [] [] w') := by
  rw [impl_unless] at h
  refine enter (args := [(.bool is0), (.int .i64 code1)]) Try.func94 rfl Try.ntmps94 (by kernel_rfl) (L := []) (W := []) (Mem.start w) ?_
  refine jc_seq (jc_region (qh [0] (qe (jx_then (jc_seq (jc_seq (jc_region (qh [0] (qe (jx_then (qi h (fun h => ?_) (fun h => ?_))))))))))))
  ·refine jc_seq (jc_region (qh [0] (qe (jx_then (jc_ret (jx_thenr ?_))))))
   obtain rfl := Option.some.inj h
   exact qr [] (fun w hm => ⟨rfl, hm.pk []⟩)
  ·refine jc_skip (jx_then (jc_seq (jc_region (qh [0,0] (qe (jx_then (jc_ret ?_)))))))
   obtain rfl := Option.some.inj h
   exact qr [] (fun w hm => ⟨rfl, hm.pk []⟩)
/-! ### impl.drumCode -/
def impl_drumCode (f0 : GFrame) (list1 : List (Arr 96 Int)) : Option (Int) := (impl_ValidFrame f0).bind fun t_1 => (if t_1 = true then (slices_ContainsFunc_Drum_at_impl_drumCode_1 list1 f0).bind fun t_2 => (impl_unless (!t_2) 1).bind fun t_3 => some t_3 else (impl_unless false 1).bind fun t_4 => some t_4)
theorem impl_drumCode.calls (f0 : GFrame) (list1 : List (Arr 96 Int)) (w : World) (r : Int) {C_a : Option Addr} {C_an : Nat} (C_c : Nat) (C_h : Rw w C_a 2 encGHammer f0.fHammers) (C_hn : f0.fHammers.length = C_an) {D_a : Option Addr} {D_an : Nat} (D_c : Nat) (D_h : Rw w D_a 96 encA96U32 list1) (D_hn : list1.length = D_an) (h : impl_drumCode f0 list1 = some r) :
    Calls Try.prog 114 #[(.agg #[(.int .i16 f0.fSteps), (.slice C_a C_an C_c)]), (.slice D_a D_an D_c)] w fun e w' => ∃ v, e = .returned v ∧ (v = (.int .i64 r) ∧ Mem w [] [] w') := by
  subst C_hn D_hn
  rw [impl_drumCode] at h
  refine enter (args := [(.agg #[(.int .i16 f0.fSteps), (.slice C_a f0.fHammers.length C_c)]), (.slice D_a list1.length D_c)]) Try.func114 rfl Try.ntmps114 (by kernel_rfl) (L := []) (W := []) (Mem.start w) ?_
  refine jc_seq (jc_region (tO (qa 0 (fun b_1 => jkO (qh [0] (qe (jx_then (jc_seq (jc_region (qh [0] ?_))))))))))
  obtain ⟨t_1, ht_2, h⟩ := bd h
  refine tO (pc 0 (fun w hm => impl_ValidFrame.calls f0 w _ C_c (hm.xr C_h) rfl ht_2) ?_)
  rintro w v w' hm ⟨rfl, hm'⟩
  refine ⟨_, hm.app hm', jkO ?_⟩
  clear hm hm'
  refine qf [(0, 0), (0, 1), (0, 1)] (qp 7 h (fun h => ?_) (fun h => ?_))
  ·obtain ⟨t_2, ht_4, h⟩ := bd h
   refine tO (pc 2 (fun w hm => slices_ContainsFunc_Drum_at_impl_drumCode_1.calls list1 f0 w _ D_c (hm.xr D_h) rfl C_c (hm.xr C_h) rfl b_1 (hm.pass (N := [⟨some b_1, 34, [(.int .i16 f0.fSteps), (.slice C_a f0.fHammers.length C_c)]⟩]) [0] (by kernel_rfl) (by kernel_rfl)) (hm.exApart (N := [⟨some b_1, 34, [(.int .i16 f0.fSteps), (.slice C_a f0.fHammers.length C_c)]⟩]) D_h (fun _ => List.not_mem_nil) [0] (by kernel_rfl)) (hm.exApart (N := [⟨some b_1, 34, [(.int .i16 f0.fSteps), (.slice C_a f0.fHammers.length C_c)]⟩]) C_h (fun _ => List.not_mem_nil) [0] (by kernel_rfl)) ht_4) ?_)
   rintro w v w' hm ⟨rfl, hm'⟩
   refine ⟨_, hm.appW (ps := [(0, ⟨some b_1, 34, [(.int .i16 f0.fSteps), (.slice C_a f0.fHammers.length C_c)]⟩)]) (N := []) hm' (by kernel_rfl) (by kernel_rfl), jkO ?_⟩
   clear hm hm'
   refine qf [(0, 2), (0, 4)] ?_
   obtain ⟨t_3, ht_5, h⟩ := bd h
   refine tO (pc 0 (fun w hm => impl_unless.calls (!t_2) 1 w _ ht_5) ?_)
   rintro w v w' hm ⟨rfl, hm'⟩
   refine ⟨_, hm.app hm', jkO ?_⟩
   clear hm hm'
   refine qh [0] (qe (jx_then (jc_ret ?_)))
   obtain rfl := Option.some.inj h
   exact qr [] (fun w hm => ⟨rfl, hm.pk []⟩)
  ·refine qf [(0, 3), (0, 3), (0, 5)] ?_
   obtain ⟨t_4, ht_6, h⟩ := bd h
   refine tO (pc 0 (fun w hm => impl_unless.calls false 1 w _ ht_6) ?_)
   rintro w v w' hm ⟨rfl, hm'⟩
   refine ⟨_, hm.app hm', jkO ?_⟩
   clear hm hm'
   refine qh [0] (qe (jx_then (jc_ret ?_)))
   obtain rfl := Option.some.inj h
   exact qr [] (fun w hm => ⟨rfl, hm.pk []⟩)
/-! ### impl.isNote -/
def impl_isNote (n0 : GNote) : Option (Bool) := (impl_within (w64 n0.fAt) 0 199).bind fun t_1 => (if t_1 = true then (impl_isPitch (w64 n0.fPitch)).bind fun t_2 => some t_2 else some false)
theorem impl_isNote.calls (n0 : GNote) (w : World) (r : Bool) (h : impl_isNote n0 = some r) :
    Calls Try.prog 180 #[(.agg #[(.int .i16 n0.fAt), (.int .i8 n0.fPitch)])] w fun e w' => ∃ v, e = .returned v ∧ (v = (.bool r) ∧ Mem w [] [] w') := by
  rw [impl_isNote] at h
  refine enter (args := [(.agg #[(.int .i16 n0.fAt), (.int .i8 n0.fPitch)])]) Try.func180 rfl Try.ntmps180 (by kernel_rfl) (L := []) (W := []) (Mem.start w) ?_
  refine jc_seq (jc_region (tO (qa 0 (fun b_1 => jkO (qh [0] (qe (jx_then (jc_seq (jc_region (qh [0,0,0] ?_))))))))))
  obtain ⟨t_1, ht_2, h⟩ := bd h
  refine tO (pc 0 (fun w hm => impl_within.calls (w64 n0.fAt) 0 199 w _ ht_2) ?_)
  rintro w v w' hm ⟨rfl, hm'⟩
  refine ⟨_, hm.app hm', jkO ?_⟩
  clear hm hm'
  refine qf [(0, 0), (0, 1), (0, 1), (0, 1)] (qp 7 h (fun h => ?_) (fun h => ?_))
  ·obtain ⟨t_2, ht_4, h⟩ := bd h
   refine tO (pc 2 (fun w hm => impl_isPitch.calls (w64 n0.fPitch) w _ ht_4) ?_)
   rintro w v w' hm ⟨rfl, hm'⟩
   refine ⟨_, hm.app hm', jkO ?_⟩
   clear hm hm'
   refine qf [(0, 4), (0, 0)] (qe (jx_then (jc_ret ?_)))
   obtain rfl := Option.some.inj h
   exact qr [] (fun w hm => ⟨rfl, hm.pk []⟩)
  ·refine qf [(0, 3), (0, 5), (0, 0)] (qe (jx_then (jc_ret ?_)))
   obtain rfl := Option.some.inj h
   exact qr [] (fun w hm => ⟨rfl, hm.pk []⟩)
/-! ### cmp.isNaN[int16] -/
def cmp_isNaN_int16 (x0 : Int) : Option (Bool) := some (x0 != x0)
theorem cmp_isNaN_int16.calls (x0 : Int) (w : World) (r : Bool) (h : cmp_isNaN_int16 x0 = some r) :
    Calls Try.prog 200 #[(.int .i16 x0)] w fun e w' => ∃ v, e = .returned v ∧ (v = (.bool r) ∧ Mem w [] [] w') := by
  rw [cmp_isNaN_int16] at h
  refine enter (args := [(.int .i16 x0)]) Try.func200 rfl Try.ntmps200 (by kernel_rfl) (L := []) (W := []) (Mem.start w) ?_
  refine jc_seq (jc_region (qh [0] (qe (jx_then (jc_seq (jc_region (qh [0,0,0,0] (qe (jx_then (jc_ret ?_))))))))))
  obtain rfl := Option.some.inj h
  exact qr [] (fun w hm => ⟨rfl, hm.pk []⟩)
/-! ### cmp.Compare[int16] -/
def cmp_Compare_int16 (x0 : Int) (y1 : Int) : Option (Int) := (cmp_isNaN_int16 x0).bind fun t_1 => (cmp_isNaN_int16 y1).bind fun t_2 => (if t_1 = true then (if t_2 = true then some 0 else some (-1)) else (if t_2 = true then some 1 else (if (decide (x0 < y1)) = true then some (-1) else (if (decide (x0 > y1)) = true then some 1 else some 0))))
theorem cmp_Compare_int16.calls (x0 : Int) (y1 : Int) (w : World) (r : Int) (h : cmp_Compare_int16 x0 y1 = some r) :
    Calls Try.prog 195 #[(.int .i16 x0), (.int .i16 y1)] w fun e w' => ∃ v, e = .returned v ∧ (v = (.int .i64 r) ∧ Mem w [] [] w') := by
  rw [cmp_Compare_int16] at h
  refine enter (args := [(.int .i16 x0), (.int .i16 y1)]) Try.func195 rfl Try.ntmps195 (by kernel_rfl) (L := []) (W := []) (Mem.start w) ?_
  refine jc_seq (jc_region (qh [0] (qe (jx_then (jc_seq (jc_region (qh [0] ?_)))))))
  obtain ⟨t_1, ht_1, h⟩ := bd h
  refine tO (pc 0 (fun w hm => cmp_isNaN_int16.calls x0 w _ ht_1) ?_)
  rintro w v w' hm ⟨rfl, hm'⟩
  refine ⟨_, hm.app hm', jkO ?_⟩
  clear hm hm'
  refine qh [0] (qe (jx_then (jc_seq (jc_region (qh [0] ?_)))))
  obtain ⟨t_2, ht_2, h⟩ := bd h
  refine tO (pc 0 (fun w hm => cmp_isNaN_int16.calls y1 w _ ht_2) ?_)
  rintro w v w' hm ⟨rfl, hm'⟩
  refine ⟨_, hm.app hm', jkO ?_⟩
  clear hm hm'
  refine qh [0] (qe (jx_then (jc_seq (jc_seq (jc_region (qh [0] (qe (jx_then (qi h (fun h => ?_) (fun h => ?_))))))))))
  ·refine jc_seq (jc_seq (jc_region (qh [0] (qe (jx_then (qi h (fun h => ?_) (fun h => ?_)))))))
   ·refine jc_seq (jc_region (qh [0] (qe (jx_then (jc_ret (jx_thenr (jx_thenr ?_)))))))
    obtain rfl := Option.some.inj h
    exact qr [] (fun w hm => ⟨rfl, hm.pk []⟩)
   ·refine jc_skip (jx_then (jc_seq (jc_region (qh [0] (qe (jx_then (jc_ret (jx_thenr ?_))))))))
    obtain rfl := Option.some.inj h
    exact qr [] (fun w hm => ⟨rfl, hm.pk []⟩)
  ·refine jc_skip (jx_then (jc_seq (jc_seq (jc_region (qh [0] (qe (jx_then (qi h (fun h => ?_) (fun h => ?_)))))))))
   ·refine jc_seq (jc_region (qh [0] (qe (jx_then (jc_ret (jx_thenr ?_))))))
    obtain rfl := Option.some.inj h
    exact qr [] (fun w hm => ⟨rfl, hm.pk []⟩)
   ·refine jc_skip (jx_then (jc_seq (jc_seq (jc_region (qh [0,0,0] (qe (jx_then (qi h (fun h => ?_) (fun h => ?_)))))))))
    ·refine jc_seq (jc_region (qh [0] (qe (jx_then (jc_ret (jx_thenr ?_))))))
     obtain rfl := Option.some.inj h
     exact qr [] (fun w hm => ⟨rfl, hm.pk []⟩)
    ·refine jc_skip (jx_then (jc_seq (jc_seq (jc_region (qh [0,0,0] (qe (jx_then (qi h (fun h => ?_) (fun h => ?_)))))))))
     ·refine jc_seq (jc_region (qh [0] (qe (jx_then (jc_ret (jx_thenr ?_))))))
      obtain rfl := Option.some.inj h
      exact qr [] (fun w hm => ⟨rfl, hm.pk []⟩)
     ·refine jc_skip (jx_then (jc_seq (jc_region (qh [0] (qe (jx_then (jc_ret ?_)))))))
      obtain rfl := Option.some.inj h
      exact qr [] (fun w hm => ⟨rfl, hm.pk []⟩)
/-! ### cmp.isNaN[int8] -/
def cmp_isNaN_int8 (x0 : Int) : Option (Bool) := some (x0 != x0)
theorem cmp_isNaN_int8.calls (x0 : Int) (w : World) (r : Bool) (h : cmp_isNaN_int8 x0 = some r) :
    Calls Try.prog 201 #[(.int .i8 x0)] w fun e w' => ∃ v, e = .returned v ∧ (v = (.bool r) ∧ Mem w [] [] w') := by
  rw [cmp_isNaN_int8] at h
  refine enter (args := [(.int .i8 x0)]) Try.func201 rfl Try.ntmps201 (by kernel_rfl) (L := []) (W := []) (Mem.start w) ?_
  refine jc_seq (jc_region (qh [0] (qe (jx_then (jc_seq (jc_region (qh [0,0,0,0] (qe (jx_then (jc_ret ?_))))))))))
  obtain rfl := Option.some.inj h
  exact qr [] (fun w hm => ⟨rfl, hm.pk []⟩)
/-! ### cmp.Compare[int8] -/
def cmp_Compare_int8 (x0 : Int) (y1 : Int) : Option (Int) := (cmp_isNaN_int8 x0).bind fun t_1 => (cmp_isNaN_int8 y1).bind fun t_2 => (if t_1 = true then (if t_2 = true then some 0 else some (-1)) else (if t_2 = true then some 1 else (if (decide (x0 < y1)) = true then some (-1) else (if (decide (x0 > y1)) = true then some 1 else some 0))))
theorem cmp_Compare_int8.calls (x0 : Int) (y1 : Int) (w : World) (r : Int) (h : cmp_Compare_int8 x0 y1 = some r) :
    Calls Try.prog 196 #[(.int .i8 x0), (.int .i8 y1)] w fun e w' => ∃ v, e = .returned v ∧ (v = (.int .i64 r) ∧ Mem w [] [] w') := by
  rw [cmp_Compare_int8] at h
  refine enter (args := [(.int .i8 x0), (.int .i8 y1)]) Try.func196 rfl Try.ntmps196 (by kernel_rfl) (L := []) (W := []) (Mem.start w) ?_
  refine jc_seq (jc_region (qh [0] (qe (jx_then (jc_seq (jc_region (qh [0] ?_)))))))
  obtain ⟨t_1, ht_1, h⟩ := bd h
  refine tO (pc 0 (fun w hm => cmp_isNaN_int8.calls x0 w _ ht_1) ?_)
  rintro w v w' hm ⟨rfl, hm'⟩
  refine ⟨_, hm.app hm', jkO ?_⟩
  clear hm hm'
  refine qh [0] (qe (jx_then (jc_seq (jc_region (qh [0] ?_)))))
  obtain ⟨t_2, ht_2, h⟩ := bd h
  refine tO (pc 0 (fun w hm => cmp_isNaN_int8.calls y1 w _ ht_2) ?_)
  rintro w v w' hm ⟨rfl, hm'⟩
  refine ⟨_, hm.app hm', jkO ?_⟩
  clear hm hm'
  refine qh [0] (qe (jx_then (jc_seq (jc_seq (jc_region (qh [0] (qe (jx_then (qi h (fun h => ?_) (fun h => ?_))))))))))
  ·refine jc_seq (jc_seq (jc_region (qh [0] (qe (jx_then (qi h (fun h => ?_) (fun h => ?_)))))))
   ·refine jc_seq (jc_region (qh [0] (qe (jx_then (jc_ret (jx_thenr (jx_thenr ?_)))))))
    obtain rfl := Option.some.inj h
    exact qr [] (fun w hm => ⟨rfl, hm.pk []⟩)
   ·refine jc_skip (jx_then (jc_seq (jc_region (qh [0] (qe (jx_then (jc_ret (jx_thenr ?_))))))))
    obtain rfl := Option.some.inj h
    exact qr [] (fun w hm => ⟨rfl, hm.pk []⟩)
  ·refine jc_skip (jx_then (jc_seq (jc_seq (jc_region (qh [0] (qe (jx_then (qi h (fun h => ?_) (fun h => ?_)))))))))
   ·refine jc_seq (jc_region (qh [0] (qe (jx_then (jc_ret (jx_thenr ?_))))))
    obtain rfl := Option.some.inj h
    exact qr [] (fun w hm => ⟨rfl, hm.pk []⟩)
   ·refine jc_skip (jx_then (jc_seq (jc_seq (jc_region (qh [0,0,0] (qe (jx_then (qi h (fun h => ?_) (fun h => ?_)))))))))
    ·refine jc_seq (jc_region (qh [0] (qe (jx_then (jc_ret (jx_thenr ?_))))))
     obtain rfl := Option.some.inj h
     exact qr [] (fun w hm => ⟨rfl, hm.pk []⟩)
    ·refine jc_skip (jx_then (jc_seq (jc_seq (jc_region (qh [0,0,0] (qe (jx_then (qi h (fun h => ?_) (fun h => ?_)))))))))
     ·refine jc_seq (jc_region (qh [0] (qe (jx_then (jc_ret (jx_thenr ?_))))))
      obtain rfl := Option.some.inj h
      exact qr [] (fun w hm => ⟨rfl, hm.pk []⟩)
     ·refine jc_skip (jx_then (jc_seq (jc_region (qh [0] (qe (jx_then (jc_ret ?_)))))))
      obtain rfl := Option.some.inj h
      exact qr [] (fun w hm => ⟨rfl, hm.pk []⟩)
/-! ### cmp.Or[int] -/
def cmp_Or_int.k_1 : Option (Int) := some 0
def cmp_Or_int.l_3 (vals0 : List Int) : Int → Option ((Int) ⊕ (Int ⊕ Unit))
  | i_2 => (if (decide (i_2 < (vals0.length : Int))) = true then (ix vals0 i_2).bind fun x_5 => (if (x_5 != 0) = true then some (.inr (.inl x_5)) else some (.inl (w64 (i_2 + 1)))) else some (.inr (.inr ())))
def cmp_Or_int (vals0 : List Int) : Option (Int) := (loop (cmp_Or_int.l_3 vals0) 0).bind fun t_4 => match t_4 with | .inl p => some p | .inr p => cmp_Or_int.k_1
theorem cmp_Or_int.calls (vals0 : List Int) (w : World) (r : Int) {A_a : Option Addr} {A_an : Nat} (A_c : Nat) (A_h : Rw w A_a 1 encI64 vals0) (A_hn : vals0.length = A_an) (h : cmp_Or_int vals0 = some r) :
    Calls Try.prog 194 #[(.slice A_a A_an A_c)] w fun e w' => ∃ v, e = .returned v ∧ (v = (.int .i64 r) ∧ Mem w [] [] w') := by
  subst A_hn
  rw [cmp_Or_int] at h
  refine enter (args := [(.slice A_a vals0.length A_c)]) Try.func194 rfl Try.ntmps194 (by kernel_rfl) (L := []) (W := []) (Mem.start w) ?_
  refine jc_seq (jc_region (qh [0] (qe (jx_then (jc_seq (jc_region (qh [0] (qe (jx_then (jc_seq (jc_seq (jc_region (qh [0,0,0] (qe (jx_then (jc_meet (fun (_ : Unit) => cmp_Or_int.k_1 = some r) (fun (_ : Unit) => [(2, [], (.int .i64 0)), (3, [], (.int .i64 0))]) (fun (_ : Unit) => []) ?_ ?_))))))))))))))))
  ·refine jc_block ?_
   obtain ⟨t_4, ht_68, hr_60⟩ := bd h
   refine jc_loop (fun (s : Int) (x : Unit) => match s, x with | i_2, _ => True) (fun (s : Int) (x : Unit) => match s, x with | i_2, _ => [(2, [], (.int .i64 0)), (3, [], (.int .i64 0)), (6, [], (.slice A_a vals0.length A_c)), (7, [], (.int .i64 (vals0.length : Int))), (8, [], (.int .i64 i_2))]) (fun (s : Int) (x : Unit) => match s, x with | i_2, _ => []) ht_68 () trivial (by kernel_rfl) [] (by kernel_rfl) (by kernel_rfl) ?_
   rintro i_2 _ y_61 _ h
   rw [cmp_Or_int.l_3] at h
   refine jc_seq (jc_region (qh [0] (qe (jx_then (jc_seq (qi h (fun h => ?_) (fun h => ?_)))))))
   ·refine jc_skip (jx_then (jc_seq (jc_block (jc_seq (jc_region ?_)))))
    obtain ⟨x_5, hx_64, h⟩ := bd h
    refine tO (qx 0 A_a 1 hx_64 rfl (A_h.sp hx_64) (jkO (tO (ql 0 false (fun w hm => ((hm.xr A_h).at hx_64)) (jkO (qh [0] (qe (jx_then (jc_seq (jc_region (qh [0,0,0] (qe (jx_then (qi h (fun h => ?_) (fun h => ?_)))))))))))))))
    ·refine jc_seq (jc_region (qh [0,0] (qe (jx_then (jc_ret (jx_inr (jx_thenr (jx_leaver (.inl x_5) (Option.some.inj h).symm (fun e_66 => ?_)))))))))
     subst e_66
     refine jx_inr (jx_thenr (jx_thenr ?_))
     obtain rfl := Option.some.inj hr_60
     exact qr [] (fun w hm => ⟨rfl, hm.pk []⟩)
    ·exact jc_skip (jx_inn (jx_then (jc_region (qh [0,0] (qe (qb (w64 (i_2 + 1)) () h trivial []))))))
   ·refine jc_exit (jx_thenx (jx_leave (.inr ()) (Option.some.inj h).symm (fun e_67 => ?_)))
    subst e_67
    exact jx_ine (qm () hr_60 [])
  ·rintro _ h
   replace h : cmp_Or_int.k_1 = some r := h
   rw [cmp_Or_int.k_1] at h
   refine jx_then (jc_seq (jc_region (qh [0,0] (qe (jx_then (jc_ret ?_))))))
   obtain rfl := Option.some.inj h
   exact qr [] (fun w hm => ⟨rfl, hm.pk []⟩)
/-! ### impl.compareNotes -/
def impl_compareNotes (a0 : GNote) (b1 : GNote) : Option (Int) := (cmp_Compare_int16 a0.fAt b1.fAt).bind fun t_1 => (cmp_Compare_int8 a0.fPitch b1.fPitch).bind fun t_2 => (cmp_Or_int ([t_1, t_2] : List Int)).bind fun t_3 => some t_3
theorem impl_compareNotes.calls (a0 : GNote) (b1 : GNote) (w : World) (r : Int) (h : impl_compareNotes a0 b1 = some r) :
    Calls Try.prog 181 #[(.agg #[(.int .i16 a0.fAt), (.int .i8 a0.fPitch)]), (.agg #[(.int .i16 b1.fAt), (.int .i8 b1.fPitch)])] w fun e w' => ∃ v, e = .returned v ∧ (v = (.int .i64 r) ∧ Mem w [] [] w') := by
  rw [impl_compareNotes] at h
  refine enter (args := [(.agg #[(.int .i16 a0.fAt), (.int .i8 a0.fPitch)]), (.agg #[(.int .i16 b1.fAt), (.int .i8 b1.fPitch)])]) Try.func181 rfl Try.ntmps181 (by kernel_rfl) (L := []) (W := []) (Mem.start w) ?_
  refine jc_seq (jc_region (tO (qa 0 (fun b_1 => jkO (tO (qa 0 (fun b_2 => jkO (qh [0] (qe (jx_then (jc_seq (qg [⟨some b_1, 104, [(.int .i16 a0.fAt), (.int .i8 a0.fPitch)]⟩, ⟨some b_2, 104, [(.int .i16 b1.fAt), (.int .i8 b1.fPitch)]⟩] 13 (qd [⟨0, 0, 0⟩,⟨1, 0, 0⟩,⟨2, 0, 0⟩,⟨3, 1, 0⟩,⟨5, 0, 0⟩,⟨6, 0, 0⟩,⟨7, 0, 0⟩,⟨8, 1, 0⟩] 5 [0, 1] ?_)))))))))))))
  obtain ⟨t_1, ht_3, h⟩ := bd h
  refine tD 4 (pc 0 (fun w hm => cmp_Compare_int16.calls a0.fAt b1.fAt w _ ht_3) ?_)
  rintro w v w' hm ⟨rfl, hm'⟩
  refine ⟨_, hm.app hm', kD [0, 1] ?_⟩
  clear hm hm'
  obtain ⟨t_2, ht_4, h⟩ := bd h
  refine tD 9 (pc 0 (fun w hm => cmp_Compare_int8.calls a0.fPitch b1.fPitch w _ ht_4) ?_)
  rintro w v w' hm ⟨rfl, hm'⟩
  refine ⟨_, hm.app hm', kD [0, 1] ?_⟩
  clear hm hm'
  refine tD 10 (qa 0 (fun b_5 => kD [0, 1] ?_))
  obtain ⟨t_3, ht_6, h⟩ := bd h
  refine tD 11 (pc 0 (fun w hm => cmp_Or_int.calls ([t_1, t_2] : List Int) w _ 2 (hm.ow 2 (some b_5) 3 ([t_1, t_2] : List Int) [] (fun e => nomatch e) encI64_len) rfl ht_6) ?_)
  rintro w v w' hm ⟨rfl, hm'⟩
  refine ⟨_, hm.app hm', kD [0, 1] ?_⟩
  clear hm hm'
  refine qd [⟨12, 0, 0⟩] 0 [0, 1] (qz (jx_then (jc_ret ?_)))
  obtain rfl := Option.some.inj h
  exact qr [] (fun w hm => ⟨rfl, hm.pk []⟩)
/-! ### impl.ValidTune -/
def impl_ValidTune.k_1 (t0 : List GNote) : Option (Bool) := some (decide ((t0.length : Int) ≤ 120))
def impl_ValidTune.k_7 (i_2 : Int) (q_6 : Bool) : Option ((Int) ⊕ (Bool ⊕ Unit)) := (if q_6 = true then some (.inr (.inl false)) else some (.inl (w64 (i_2 + 1))))
def impl_ValidTune.l_3 (t0 : List GNote) : Int → Option ((Int) ⊕ (Bool ⊕ Unit))
  | i_2 => (if (decide (i_2 < (t0.length : Int))) = true then (ix t0 i_2).bind fun x_5 => (impl_isNote x_5).bind fun t_8 => (if (!t_8) = true then impl_ValidTune.k_7 i_2 true else (if (decide (i_2 > 0)) = true then (ix t0 (w64 (i_2 - 1))).bind fun x_9 => (impl_compareNotes x_9 x_5).bind fun t_10 => impl_ValidTune.k_7 i_2 (decide (t_10 ≥ 0)) else impl_ValidTune.k_7 i_2 false)) else some (.inr (.inr ())))
def impl_ValidTune (t0 : List GNote) : Option (Bool) := (loop (impl_ValidTune.l_3 t0) 0).bind fun t_4 => match t_4 with | .inl p => some p | .inr p => impl_ValidTune.k_1 t0
theorem impl_ValidTune.calls (t0 : List GNote) (w : World) (r : Bool) {A_a : Option Addr} {A_an : Nat} (A_c : Nat) (A_h : Rw w A_a 2 encGNote t0) (A_hn : t0.length = A_an) (h : impl_ValidTune t0 = some r) :
    Calls Try.prog 157 #[(.slice A_a A_an A_c)] w fun e w' => ∃ v, e = .returned v ∧ (v = (.bool r) ∧ Mem w [] [] w') := by
  subst A_hn
  rw [impl_ValidTune] at h
  refine enter (args := [(.slice A_a t0.length A_c)]) Try.func157 rfl Try.ntmps157 (by kernel_rfl) (L := []) (W := []) (Mem.start w) ?_
  refine jc_seq (jc_region (qh [0] (qe (jx_then (jc_seq (jc_seq (jc_region (qh [0,0,0] (qe (jx_then (jc_meet (fun (_ : Unit) => impl_ValidTune.k_1 t0 = some r) (fun (_ : Unit) => [(0, [], (.slice A_a t0.length A_c)), (2, [], (.bool false))]) (fun (_ : Unit) => []) ?_ ?_)))))))))))
  ·refine jc_block ?_
   obtain ⟨t_4, ht_200, hr_181⟩ := bd h
   refine jc_loop (fun (s : Int) (x : Unit) => match s, x with | i_2, _ => True) (fun (s : Int) (x : Unit) => match s, x with | i_2, _ => [(0, [], (.slice A_a t0.length A_c)), (2, [], (.bool false)), (5, [], (.slice A_a t0.length A_c)), (6, [], (.int .i64 (t0.length : Int))), (7, [], (.int .i64 i_2))]) (fun (s : Int) (x : Unit) => match s, x with | i_2, _ => []) ht_200 () trivial (by kernel_rfl) [] (by kernel_rfl) (by kernel_rfl) ?_
   rintro i_2 _ y_182 _ h
   rw [impl_ValidTune.l_3] at h
   refine jc_seq (jc_region (qh [0] (qe (jx_then (jc_seq (qi h (fun h => ?_) (fun h => ?_)))))))
   ·refine jc_skip (jx_then (jc_seq (jc_block (jc_seq (jc_region (qh [0] ?_))))))
    obtain ⟨x_5, hx_185, h⟩ := bd h
    refine tO (qx 0 A_a 2 hx_185 rfl (A_h.sp hx_185) (jkO (tO (ql 0 true (fun w hm => ((hm.xr A_h).at hx_185)) (jkO (tO (qa 0 (fun b_186 => jkO (qh [0] (tO (qs 0 [0] (jkO (qe (jx_then (jc_seq (jc_meet (fun (j : Bool) => match j with | q_6 => impl_ValidTune.k_7 i_2 q_6 = some y_182) (fun (j : Bool) => match j with | q_6 => [(0, [], (.slice A_a t0.length A_c)), (2, [], (.bool false)), (5, [], (.slice A_a t0.length A_c)), (6, [], (.int .i64 (t0.length : Int))), (7, [], (.int .i64 i_2)), (28, [], (.bool q_6))]) (fun (j : Bool) => match j with | q_6 => [⟨some b_186, 104, [(.int .i16 x_5.fAt), (.int .i8 x_5.fPitch)]⟩]) ?_ ?_))))))))))))))))
    ·refine qg [⟨some b_186, 104, [(.int .i16 x_5.fAt), (.int .i8 x_5.fPitch)]⟩] 17 (qd [⟨0, 0, 0⟩] 16 [0] ?_)
     obtain ⟨t_8, ht_194, h⟩ := bd h
     refine tD 1 (pc 0 (fun w hm => impl_isNote.calls x_5 w _ ht_194) ?_)
     rintro w v w' hm ⟨rfl, hm'⟩
     refine ⟨_, hm.app hm', kD [0] ?_⟩
     clear hm hm'
     refine qd [⟨2, 0, 0⟩,⟨3, 0, 0⟩,⟨4, 0, 1⟩,⟨5, 0, 1⟩] 11 [0] (jd_split 15 (!t_8) (by kernel_rfl) (fun hc_195 => ?_) (fun hc_195 => ?_))
     ·replace h := ifT hc_195 h
      exact qd [⟨6, 0, 3⟩,⟨7, 0, 3⟩,⟨8, 0, 3⟩,⟨9, 0, 3⟩,⟨10, 0, 3⟩,⟨11, 0, 3⟩,⟨12, 0, 3⟩,⟨13, 0, 3⟩,⟨14, 0, 3⟩,⟨15, 0, 3⟩,⟨16, 0, 4⟩] 0 [0] (qz (qm true h [0]))
     ·replace h := ifF hc_195 h
      refine qd [⟨6, 0, 2⟩,⟨7, 0, 1⟩,⟨8, 0, 1⟩,⟨9, 0, 1⟩,⟨12, 0, 1⟩] 6 [0] (jd_split 18 (decide (i_2 > 0)) (by kernel_rfl) (fun hc_196 => ?_) (fun hc_196 => ?_))
      ·replace h := ifT hc_196 h
       obtain ⟨x_9, hx_197, h⟩ := bd h
       refine qv 10 2 [0] (fun w hm => idx_run (a := A_a) (len := t0.length) (s := 2) (j := (w64 (i_2 - 1))) (by kernel_rfl) (ix_some hx_197).1 (ltn hx_197 rfl) (A_h.sp hx_197)) (qv 11 2 [0] (fun w hm => ld_run (b := aB A_a) (off := (aO A_a + (w64 (i_2 - 1)).toNat * 2)) (s := 2) (agg := true) (vs := (encGNote x_9)) (by kernel_rfl) (by kernel_rfl) (.inl rfl) ((hm.xr A_h).at hx_197)) ?_)
       obtain ⟨t_10, ht_198, h⟩ := bd h
       refine tD 13 (pc 2 (fun w hm => impl_compareNotes.calls x_9 x_5 w _ ht_198) ?_)
       rintro w v w' hm ⟨rfl, hm'⟩
       refine ⟨_, hm.app hm', kD [0] ?_⟩
       clear hm hm'
       exact qd [⟨14, 0, 2⟩,⟨15, 0, 4⟩,⟨16, 0, 5⟩] 0 [0] (qz (qm (decide (t_10 ≥ 0)) h [0]))
      ·replace h := ifF hc_196 h
       exact qd [⟨10, 0, 3⟩,⟨11, 0, 3⟩,⟨13, 0, 3⟩,⟨14, 0, 3⟩,⟨15, 0, 5⟩,⟨16, 0, 5⟩] 0 [0] (qz (qm false h [0]))
    ·rintro q_6 h
     replace h : impl_ValidTune.k_7 i_2 q_6 = some y_182 := h
     rw [impl_ValidTune.k_7] at h
     refine jx_then (qi h (fun h => ?_) (fun h => ?_))
     ·refine jc_seq (jc_region (qh [0] (qe (jx_then (jc_ret (jx_inr (jx_thenr (jx_leaver (.inl false) (Option.some.inj h).symm (fun e_193 => ?_)))))))))
      subst e_193
      refine jx_inr (jx_thenr (jx_thenr ?_))
      obtain rfl := Option.some.inj hr_181
      exact qr [] (fun w hm => ⟨rfl, hm.pk []⟩)
     ·exact jc_skip (jx_inn (jx_then (jc_region (qh [0,0] (qe (qb (w64 (i_2 + 1)) () h trivial []))))))
   ·refine jc_exit (jx_thenx (jx_leave (.inr ()) (Option.some.inj h).symm (fun e_199 => ?_)))
    subst e_199
    exact jx_ine (qm () hr_181 [])
  ·rintro _ h
   replace h : impl_ValidTune.k_1 t0 = some r := h
   rw [impl_ValidTune.k_1] at h
   refine jx_then (jc_seq (jc_region (qh [0,0,0,0] (qe (jx_then (jc_ret ?_))))))
   obtain rfl := Option.some.inj h
   exact qr [] (fun w hm => ⟨rfl, hm.pk []⟩)
/-! ### impl.tuneCode$1 -/
def impl_tuneCode_1 (t0 : List GNote) : Option (Bool) := (impl_ValidTune t0).bind fun t_1 => some (!t_1)
theorem impl_tuneCode_1.calls (t0 : List GNote) (w : World) (r : Bool) {A_a : Option Addr} {A_an : Nat} (A_c : Nat) (A_h : Rw w A_a 2 encGNote t0) (A_hn : t0.length = A_an) (h : impl_tuneCode_1 t0 = some r) :
    Calls Try.prog 156 #[(.slice A_a A_an A_c)] w fun e w' => ∃ v, e = .returned v ∧ (v = (.bool r) ∧ Mem w [] [] w') := by
  subst A_hn
  rw [impl_tuneCode_1] at h
  refine enter (args := [(.slice A_a t0.length A_c)]) Try.func156 rfl Try.ntmps156 (by kernel_rfl) (L := []) (W := []) (Mem.start w) ?_
  refine jc_seq (jc_region (qh [0] (qe (jx_then (jc_seq (jc_region (qh [0] ?_)))))))
  obtain ⟨t_1, ht_1, h⟩ := bd h
  refine tO (pc 0 (fun w hm => impl_ValidTune.calls t0 w _ A_c (hm.xr A_h) rfl ht_1) ?_)
  rintro w v w' hm ⟨rfl, hm'⟩
  refine ⟨_, hm.app hm', jkO ?_⟩
  clear hm hm'
  refine qh [0,0] (qe (jx_then (jc_ret ?_)))
  obtain rfl := Option.some.inj h
  exact qr [] (fun w hm => ⟨rfl, hm.pk []⟩)
/-! ### slices.IndexFunc[[]impl.Tune,impl.Tune] -/
def slices_IndexFunc_Tune_at_impl_tuneCode_1.k_1 : Option (Int) := some (-1)
def slices_IndexFunc_Tune_at_impl_tuneCode_1.l_3 (s0 : List (List GNote)) : Int → Option ((Int) ⊕ (Int ⊕ Unit))
  | i_2 => (if (decide (i_2 < (s0.length : Int))) = true then (ix s0 i_2).bind fun x_5 => (impl_tuneCode_1 x_5).bind fun t_6 => (if t_6 = true then some (.inr (.inl i_2)) else some (.inl (w64 (i_2 + 1)))) else some (.inr (.inr ())))
def slices_IndexFunc_Tune_at_impl_tuneCode_1 (s0 : List (List GNote)) : Option (Int) := (loop (slices_IndexFunc_Tune_at_impl_tuneCode_1.l_3 s0) 0).bind fun t_4 => match t_4 with | .inl p => some p | .inr p => slices_IndexFunc_Tune_at_impl_tuneCode_1.k_1
theorem slices_IndexFunc_Tune_at_impl_tuneCode_1.calls (s0 : List (List GNote)) (w : World) (r : Int) {A_a : Option Addr} {A_an : Nat} (A_c : Nat) {A_hs : List Hd} (A_h : Rw w A_a 1 encHd A_hs) (A_hn : s0.length = A_an) (A_i : Inn w [] 2 encGNote A_hs s0) (h : slices_IndexFunc_Tune_at_impl_tuneCode_1 s0 = some r) :
    Calls Try.prog 179 #[(.slice A_a A_an A_c), (.func (.func 156) #[] #[])] w fun e w' => ∃ v, e = .returned v ∧ (v = (.int .i64 r) ∧ Mem w [] [] w') := by
  subst A_hn
  rw [slices_IndexFunc_Tune_at_impl_tuneCode_1] at h
  refine enter (args := [(.slice A_a s0.length A_c), (.func (.func 156) #[] #[])]) Try.func179 rfl Try.ntmps179 (by kernel_rfl) (L := []) (W := []) (Mem.start w) ?_
  refine jc_seq (jc_region (qh [0] (qe (jx_then (jc_seq (jc_seq (jc_region (qh [0,0,0] (qe (jx_then (jc_meet (fun (_ : Unit) => slices_IndexFunc_Tune_at_impl_tuneCode_1.k_1 = some r) (fun (_ : Unit) => [(4, [], (.int .i64 0))]) (fun (_ : Unit) => []) ?_ ?_)))))))))))
  ·refine jc_block ?_
   obtain ⟨t_4, ht_40, hr_31⟩ := bd h
   refine jc_loop (fun (s : Int) (x : Unit) => match s, x with | i_2, _ => True) (fun (s : Int) (x : Unit) => match s, x with | i_2, _ => [(0, [], (.slice A_a s0.length A_c)), (1, [], (.func (.func 156) #[] #[])), (4, [], (.int .i64 0)), (7, [], (.int .i64 (s0.length : Int))), (8, [], (.int .i64 i_2))]) (fun (s : Int) (x : Unit) => match s, x with | i_2, _ => []) ht_40 () trivial (by kernel_rfl) [] (by kernel_rfl) (by kernel_rfl) ?_
   rintro i_2 _ y_32 _ h
   rw [slices_IndexFunc_Tune_at_impl_tuneCode_1.l_3] at h
   refine jc_seq (jc_region (qh [0] (qe (jx_then (jc_seq (qi h (fun h => ?_) (fun h => ?_)))))))
   ·refine jc_skip (jx_then (jc_seq (jc_block (jc_seq (jc_region (qh [0,0] (qe (jx_then (jc_seq (jc_region (qh [0,0,0] ?_)))))))))))
    obtain ⟨x_5, hx_35, h⟩ := bd h
    refine tO (qx 0 A_a 1 hx_35 rfl (A_h.sp (A_i.ixh hx_35)) (jkO (tO (ql 0 false (fun w hm => ((hm.xr A_h).at (A_i.ixh hx_35))) (jkO ?_)))))
    obtain ⟨t_6, ht_36, h⟩ := bd h
    refine tO (pc 0 (fun w hm => impl_tuneCode_1.calls x_5 w _ ((hd A_hs i_2).c) (hm.exRow (A_i.get hx_35).1 List.not_mem_nil) (A_i.get hx_35).2.1 ht_36) ?_)
    rintro w v w' hm ⟨rfl, hm'⟩
    refine ⟨_, hm.app hm', jkO ?_⟩
    clear hm hm'
    refine qe (jx_then (qi h (fun h => ?_) (fun h => ?_)))
    ·refine jc_seq (jc_region (qh [0,0] (qe (jx_then (jc_ret (jx_inr (jx_thenr (jx_leaver (.inl i_2) (Option.some.inj h).symm (fun e_38 => ?_)))))))))
     subst e_38
     refine jx_inr (jx_thenr (jx_thenr ?_))
     obtain rfl := Option.some.inj hr_31
     exact qr [] (fun w hm => ⟨rfl, hm.pk []⟩)
    ·exact jc_skip (jx_inn (jx_then (jc_region (qh [0,0] (qe (qb (w64 (i_2 + 1)) () h trivial []))))))
   ·refine jc_exit (jx_thenx (jx_leave (.inr ()) (Option.some.inj h).symm (fun e_39 => ?_)))
    subst e_39
    exact jx_ine (qm () hr_31 [])
  ·rintro _ h
   replace h : slices_IndexFunc_Tune_at_impl_tuneCode_1.k_1 = some r := h
   rw [slices_IndexFunc_Tune_at_impl_tuneCode_1.k_1] at h
   refine jx_then (jc_seq (jc_region (qh [0] (qe (jx_then (jc_ret ?_))))))
   obtain rfl := Option.some.inj h
   exact qr [] (fun w hm => ⟨rfl, hm.pk []⟩)
/-! ### slices.ContainsFunc[[]impl.Tune,impl.Tune] -/
def slices_ContainsFunc_Tune_at_impl_tuneCode_1 (s0 : List (List GNote)) : Option (Bool) := (slices_IndexFunc_Tune_at_impl_tuneCode_1 s0).bind fun t_1 => some (decide (t_1 ≥ 0))
theorem slices_ContainsFunc_Tune_at_impl_tuneCode_1.calls (s0 : List (List GNote)) (w : World) (r : Bool) {A_a : Option Addr} {A_an : Nat} (A_c : Nat) {A_hs : List Hd} (A_h : Rw w A_a 1 encHd A_hs) (A_hn : s0.length = A_an) (A_i : Inn w [] 2 encGNote A_hs s0) (h : slices_ContainsFunc_Tune_at_impl_tuneCode_1 s0 = some r) :
    Calls Try.prog 155 #[(.slice A_a A_an A_c), (.func (.func 156) #[] #[])] w fun e w' => ∃ v, e = .returned v ∧ (v = (.bool r) ∧ Mem w [] [] w') := by
  subst A_hn
  rw [slices_ContainsFunc_Tune_at_impl_tuneCode_1] at h
  refine enter (args := [(.slice A_a s0.length A_c), (.func (.func 156) #[] #[])]) Try.func155 rfl Try.ntmps155 (by kernel_rfl) (L := []) (W := []) (Mem.start w) ?_
  refine jc_seq (jc_region (qh [0] (qe (jx_then (jc_seq (jc_region (qh [0,0] ?_)))))))
  obtain ⟨t_1, ht_1, h⟩ := bd h
  refine tO (pc 0 (fun w hm => slices_IndexFunc_Tune_at_impl_tuneCode_1.calls s0 w _ A_c (hm.xr A_h) rfl (hm.innPass (N := []) A_i [] (by kernel_rfl)) ht_1) ?_)
  rintro w v w' hm ⟨rfl, hm'⟩
  refine ⟨_, hm.app hm', jkO ?_⟩
  clear hm hm'
  refine qh [0,0] (qe (jx_then (jc_ret ?_)))
  obtain rfl := Option.some.inj h
  exact qr [] (fun w hm => ⟨rfl, hm.pk []⟩)
/-! ### impl.tuneCode -/
def impl_tuneCode (list0 : List (List GNote)) : Option (Int) := (slices_ContainsFunc_Tune_at_impl_tuneCode_1 list0).bind fun t_1 => (impl_unless (!t_1) 1).bind fun t_2 => some t_2
theorem impl_tuneCode.calls (list0 : List (List GNote)) (w : World) (r : Int) {A_a : Option Addr} {A_an : Nat} (A_c : Nat) {A_hs : List Hd} (A_h : Rw w A_a 1 encHd A_hs) (A_hn : list0.length = A_an) (A_i : Inn w [] 2 encGNote A_hs list0) (h : impl_tuneCode list0 = some r) :
    Calls Try.prog 115 #[(.slice A_a A_an A_c)] w fun e w' => ∃ v, e = .returned v ∧ (v = (.int .i64 r) ∧ Mem w [] [] w') := by
  subst A_hn
  rw [impl_tuneCode] at h
  refine enter (args := [(.slice A_a list0.length A_c)]) Try.func115 rfl Try.ntmps115 (by kernel_rfl) (L := []) (W := []) (Mem.start w) ?_
  refine jc_seq (jc_region (qh [0] (qe (jx_then (jc_seq (jc_region (qh [0] ?_)))))))
  obtain ⟨t_1, ht_1, h⟩ := bd h
  refine tO (pc 0 (fun w hm => slices_ContainsFunc_Tune_at_impl_tuneCode_1.calls list0 w _ A_c (hm.xr A_h) rfl (hm.innPass (N := []) A_i [] (by kernel_rfl)) ht_1) ?_)
  rintro w v w' hm ⟨rfl, hm'⟩
  refine ⟨_, hm.app hm', jkO ?_⟩
  clear hm hm'
  refine qh [0] ?_
  obtain ⟨t_2, ht_2, h⟩ := bd h
  refine tO (pc 0 (fun w hm => impl_unless.calls (!t_1) 1 w _ ht_2) ?_)
  rintro w v w' hm ⟨rfl, hm'⟩
  refine ⟨_, hm.app hm', jkO ?_⟩
  clear hm hm'
  refine qh [0] (qe (jx_then (jc_ret ?_)))
  obtain rfl := Option.some.inj h
  exact qr [] (fun w hm => ⟨rfl, hm.pk []⟩)
/-! ### impl.firstOf -/
def impl_firstOf.k_1 : Option (Int) := some 0
def impl_firstOf.l_3 (codes0 : List Int) : Int → Option ((Int) ⊕ (Int ⊕ Unit))
  | i_2 => (if (decide (i_2 < (codes0.length : Int))) = true then (ix codes0 i_2).bind fun x_5 => (if (x_5 != 0) = true then some (.inr (.inl x_5)) else some (.inl (w64 (i_2 + 1)))) else some (.inr (.inr ())))
def impl_firstOf (codes0 : List Int) : Option (Int) := (loop (impl_firstOf.l_3 codes0) 0).bind fun t_4 => match t_4 with | .inl p => some p | .inr p => impl_firstOf.k_1
theorem impl_firstOf.calls (codes0 : List Int) (w : World) (r : Int) {A_a : Option Addr} {A_an : Nat} (A_c : Nat) (A_h : Rw w A_a 1 encI64 codes0) (A_hn : codes0.length = A_an) (h : impl_firstOf codes0 = some r) :
    Calls Try.prog 92 #[(.slice A_a A_an A_c)] w fun e w' => ∃ v, e = .returned v ∧ (v = (.int .i64 r) ∧ Mem w [] [] w') := by
  subst A_hn
  rw [impl_firstOf] at h
  refine enter (args := [(.slice A_a codes0.length A_c)]) Try.func92 rfl Try.ntmps92 (by kernel_rfl) (L := []) (W := []) (Mem.start w) ?_
  refine jc_seq (jc_region (qh [0] (qe (jx_then (jc_seq (jc_seq (jc_region (qh [0,0,0] (qe (jx_then (jc_meet (fun (_ : Unit) => impl_firstOf.k_1 = some r) (fun (_ : Unit) => [(2, [], (.int .i64 0))]) (fun (_ : Unit) => []) ?_ ?_)))))))))))
  ·refine jc_block ?_
   obtain ⟨t_4, ht_34, hr_26⟩ := bd h
   refine jc_loop (fun (s : Int) (x : Unit) => match s, x with | i_2, _ => True) (fun (s : Int) (x : Unit) => match s, x with | i_2, _ => [(2, [], (.int .i64 0)), (5, [], (.slice A_a codes0.length A_c)), (6, [], (.int .i64 (codes0.length : Int))), (7, [], (.int .i64 i_2))]) (fun (s : Int) (x : Unit) => match s, x with | i_2, _ => []) ht_34 () trivial (by kernel_rfl) [] (by kernel_rfl) (by kernel_rfl) ?_
   rintro i_2 _ y_27 _ h
   rw [impl_firstOf.l_3] at h
   refine jc_seq (jc_region (qh [0] (qe (jx_then (jc_seq (qi h (fun h => ?_) (fun h => ?_)))))))
   ·refine jc_skip (jx_then (jc_seq (jc_block (jc_seq (jc_region ?_)))))
    obtain ⟨x_5, hx_30, h⟩ := bd h
    refine tO (qx 0 A_a 1 hx_30 rfl (A_h.sp hx_30) (jkO (tO (ql 0 false (fun w hm => ((hm.xr A_h).at hx_30)) (jkO (qh [0] (qe (jx_then (jc_seq (jc_region (qh [0,0] (qe (jx_then (qi h (fun h => ?_) (fun h => ?_)))))))))))))))
    ·refine jc_seq (jc_region (qh [0,0] (qe (jx_then (jc_ret (jx_inr (jx_thenr (jx_leaver (.inl x_5) (Option.some.inj h).symm (fun e_32 => ?_)))))))))
     subst e_32
     refine jx_inr (jx_thenr (jx_thenr ?_))
     obtain rfl := Option.some.inj hr_26
     exact qr [] (fun w hm => ⟨rfl, hm.pk []⟩)
    ·exact jc_skip (jx_inn (jx_then (jc_region (qh [0,0] (qe (qb (w64 (i_2 + 1)) () h trivial []))))))
   ·refine jc_exit (jx_thenx (jx_leave (.inr ()) (Option.some.inj h).symm (fun e_33 => ?_)))
    subst e_33
    exact jx_ine (qm () hr_26 [])
  ·rintro _ h
   replace h : impl_firstOf.k_1 = some r := h
   rw [impl_firstOf.k_1] at h
   refine jx_then (jc_seq (jc_region (qh [0] (qe (jx_then (jc_ret ?_))))))
   obtain rfl := Option.some.inj h
   exact qr [] (fun w hm => ⟨rfl, hm.pk []⟩)
/-! ### (impl.Tune).length -/
def impl_Tune_length (t0 : List GNote) : Option (Int) := (if ((t0.length : Int) == 0) = true then some 0 else (ix t0 (w64 ((t0.length : Int) - 1))).bind fun x_1 => some (w64 ((w64 x_1.fAt) + 1)))
theorem impl_Tune_length.calls (t0 : List GNote) (w : World) (r : Int) {A_a : Option Addr} {A_an : Nat} (A_c : Nat) (A_h : Rw w A_a 2 encGNote t0) (A_hn : t0.length = A_an) (h : impl_Tune_length t0 = some r) :
    Calls Try.prog 116 #[(.slice A_a A_an A_c)] w fun e w' => ∃ v, e = .returned v ∧ (v = (.int .i64 r) ∧ Mem w [] [] w') := by
  subst A_hn
  rw [impl_Tune_length] at h
  refine enter (args := [(.slice A_a t0.length A_c)]) Try.func116 rfl Try.ntmps116 (by kernel_rfl) (L := []) (W := []) (Mem.start w) ?_
  refine jc_seq (jc_region (qh [0] (qe (jx_then (jc_seq (jc_seq (jc_region (qh [0,0,0] (qe (jx_then (qi h (fun h => ?_) (fun h => ?_))))))))))))
  ·refine jc_seq (jc_region (qh [0] (qe (jx_then (jc_ret (jx_thenr ?_))))))
   obtain rfl := Option.some.inj h
   exact qr [] (fun w hm => ⟨rfl, hm.pk []⟩)
  ·refine jc_skip (jx_then (jc_seq (jc_region (qh [0,0,0,0] ?_))))
   obtain ⟨x_1, hx_3, h⟩ := bd h
   refine tO (qx 0 A_a 2 hx_3 rfl (A_h.sp hx_3) (jkO (qh [0] (tO (ql 0 false (fun w hm => (((hm.xr A_h).at hx_3).sub 0 1)) (jkO (qh [0,0,0] (qe (jx_then (jc_ret ?_))))))))))
   obtain rfl := Option.some.inj h
   exact qr [] (fun w hm => ⟨rfl, hm.pk []⟩)
/-! ### impl.tuneOnCode -/
def impl_tuneOnCode (f0 : GFrame) (t1 : List GNote) (budget2 : Int) (list3 : List (Arr 96 Int)) : Option (Int) := (impl_drumCode f0 list3).bind fun t_1 => (impl_tuneCode [t1]).bind fun t_2 => (impl_firstOf ([t_1, t_2] : List Int)).bind fun t_3 => (if (t_3 != 0) = true then some t_3 else (impl_Tune_length t1).bind fun t_4 => (if (decide (t_4 ≤ (w64 f0.fSteps))) = true then (impl_within budget2 0 20000).bind fun t_5 => (impl_unless t_5 2).bind fun t_6 => some t_6 else (impl_unless false 2).bind fun t_7 => some t_7))
theorem impl_tuneOnCode.calls (f0 : GFrame) (t1 : List GNote) (budget2 : Int) (list3 : List (Arr 96 Int)) (w : World) (r : Int) {C_a : Option Addr} {C_an : Nat} (C_c : Nat) (C_h : Rw w C_a 2 encGHammer f0.fHammers) (C_hn : f0.fHammers.length = C_an) {D_a : Option Addr} {D_an : Nat} (D_c : Nat) (D_h : Rw w D_a 2 encGNote t1) (D_hn : t1.length = D_an) {F_a : Option Addr} {F_an : Nat} (F_c : Nat) (F_h : Rw w F_a 96 encA96U32 list3) (F_hn : list3.length = F_an) (h : impl_tuneOnCode f0 t1 budget2 list3 = some r) :
    Calls Try.prog 68 #[(.agg #[(.int .i16 f0.fSteps), (.slice C_a C_an C_c)]), (.slice D_a D_an D_c), (.int .i64 budget2), (.slice F_a F_an F_c)] w fun e w' => ∃ v, e = .returned v ∧ (v = (.int .i64 r) ∧ Mem w [] [] w') := by
  subst C_hn D_hn F_hn
  rw [impl_tuneOnCode] at h
  refine enter (args := [(.agg #[(.int .i16 f0.fSteps), (.slice C_a f0.fHammers.length C_c)]), (.slice D_a t1.length D_c), (.int .i64 budget2), (.slice F_a list3.length F_c)]) Try.func68 rfl Try.ntmps68 (by kernel_rfl) (L := []) (W := []) (Mem.start w) ?_
  refine jc_seq (jc_region (tO (qa 0 (fun b_1 => jkO (qh [0] (qe (jx_then (jc_seq (jc_seq (jc_region (qh [0,0] ?_)))))))))))
  obtain ⟨t_1, ht_8, h⟩ := bd h
  refine tO (pc 0 (fun w hm => impl_drumCode.calls f0 list3 w _ C_c (hm.xr C_h) rfl F_c (hm.xr F_h) rfl ht_8) ?_)
  rintro w v w' hm ⟨rfl, hm'⟩
  refine ⟨_, hm.app hm', jkO ?_⟩
  clear hm hm'
  refine qh [0] (tO (qa 0 (fun b_9 => jkO ?_)))
  obtain ⟨t_2, ht_10, h⟩ := bd h
  refine tO (pc 0 (fun w hm => impl_tuneCode.calls [t1] w _ 1 (hm.ow 1 (some b_9) 52 ([(Hd.mk D_a t1.length D_c)]) [] (fun e => nomatch e) encHd_len) rfl (Inn.cons (hm.xr D_h) rfl (fun _ => List.not_mem_nil) Inn.nil) ht_10) ?_)
  rintro w v w' hm ⟨rfl, hm'⟩
  refine ⟨_, hm.app hm', jkO ?_⟩
  clear hm hm'
  refine tO (qa 0 (fun b_11 => jkO ?_))
  obtain ⟨t_3, ht_12, h⟩ := bd h
  refine tO (pc 0 (fun w hm => impl_firstOf.calls ([t_1, t_2] : List Int) w _ 2 (hm.ow 2 (some b_11) 2 ([t_1, t_2] : List Int) [] (fun e => nomatch e) encI64_len) rfl ht_12) ?_)
  rintro w v w' hm ⟨rfl, hm'⟩
  refine ⟨_, hm.app hm', jkO ?_⟩
  clear hm hm'
  refine qh [0] (qe (jx_then (jc_seq (jc_region (qh [0,0] (qe (jx_then (qi h (fun h => ?_) (fun h => ?_)))))))))
  ·refine jc_seq (jc_region (qh [0,0] (qe (jx_then (jc_ret (jx_thenr ?_))))))
   obtain rfl := Option.some.inj h
   exact qr [] (fun w hm => ⟨rfl, hm.pk []⟩)
  ·refine jc_skip (jx_then (jc_seq (qg [⟨some b_1, 34, [(.int .i16 f0.fSteps), (.slice C_a f0.fHammers.length C_c)]⟩, ⟨(some b_9), 52, row encHd [(Hd.mk D_a t1.length D_c)] []⟩, ⟨(some b_11), 2, row encI64 ([t_1, t_2] : List Int) []⟩] 12 (qd [⟨0, 0, 0⟩,⟨2, 0, 0⟩,⟨3, 0, 0⟩,⟨4, 0, 0⟩] 8 [0, 1, 2] ?_))))
   obtain ⟨t_4, ht_14, h⟩ := bd h
   refine tD 1 (pc 0 (fun w hm => impl_Tune_length.calls t1 w _ D_c (hm.xr D_h) rfl ht_14) ?_)
   rintro w v w' hm ⟨rfl, hm'⟩
   refine ⟨_, hm.app hm', kD [0, 1, 2] ?_⟩
   clear hm hm'
   refine qd [⟨5, 0, 0⟩,⟨6, 0, 0⟩,⟨7, 0, 1⟩] 4 [0, 1, 2] (jd_split 27 (decide (t_4 ≤ (w64 f0.fSteps))) (by kernel_rfl) (fun hc_15 => ?_) (fun hc_15 => ?_))
   ·replace h := ifT hc_15 h
    obtain ⟨t_5, ht_16, h⟩ := bd h
    refine tD 8 (pc 2 (fun w hm => impl_within.calls budget2 0 20000 w _ ht_16) ?_)
    rintro w v w' hm ⟨rfl, hm'⟩
    refine ⟨_, hm.app hm', kD [0, 1, 2] ?_⟩
    clear hm hm'
    refine qd [⟨9, 0, 4⟩] 2 [0, 1, 2] ?_
    obtain ⟨t_6, ht_17, h⟩ := bd h
    refine tD 10 (pc 0 (fun w hm => impl_unless.calls t_5 2 w _ ht_17) ?_)
    rintro w v w' hm ⟨rfl, hm'⟩
    refine ⟨_, hm.app hm', kD [0, 1, 2] ?_⟩
    clear hm hm'
    refine qd [⟨11, 0, 0⟩] 0 [0, 1, 2] (qz (jx_then (jc_ret ?_)))
    obtain rfl := Option.some.inj h
    exact qr [] (fun w hm => ⟨rfl, hm.pk []⟩)
   ·replace h := ifF hc_15 h
    refine qd [⟨8, 0, 3⟩,⟨9, 0, 5⟩] 2 [0, 1, 2] ?_
    obtain ⟨t_7, ht_18, h⟩ := bd h
    refine tD 10 (pc 0 (fun w hm => impl_unless.calls false 2 w _ ht_18) ?_)
    rintro w v w' hm ⟨rfl, hm'⟩
    refine ⟨_, hm.app hm', kD [0, 1, 2] ?_⟩
    clear hm hm'
    refine qd [⟨11, 0, 0⟩] 0 [0, 1, 2] (qz (jx_then (jc_ret ?_)))
    obtain rfl := Option.some.inj h
    exact qr [] (fun w hm => ⟨rfl, hm.pk []⟩)
/-! ### slices.Clone[[]impl.Hammer,impl.Hammer] -/
def slices_Clone_Hammer (s0 : List GHammer) : Option ((List GHammer)) := (if ([] : List GHammer).length + s0.length ≤ 4294967296 then some (([] : List GHammer) ++ s0) else none)
theorem slices_Clone_Hammer.calls (s0 : List GHammer) (w : World) (r : (List GHammer)) {A_a : Option Addr} {A_an : Nat} (A_c : Nat) (A_h : Rw w A_a 2 encGHammer s0) (A_hn : s0.length = A_an) (h : slices_Clone_Hammer s0 = some r) :
    Calls Try.prog 120 #[(.slice A_a A_an A_c)] w fun e w' => ∃ v, e = .returned v ∧ (∃ (o0 : Option Nat) (c0 : Nat) (s0 : List Value) (n0 : Nat), r.length = n0 ∧ (o0 ≠ none → n0 ≤ c0 ∧ s0.length = (c0 - n0) * 2) ∧ (o0 = none → r = [] ∧ c0 = 0) ∧ v = .slice (o0.map fun b => ⟨b, 0, none⟩) n0 c0 ∧ Mem w [] [⟨o0, 110, row encGHammer r s0⟩] w') := by
  subst A_hn
  rw [slices_Clone_Hammer] at h
  refine enter (args := [(.slice A_a s0.length A_c)]) Try.func120 rfl Try.ntmps120 (by kernel_rfl) (L := []) (W := []) (Mem.start w) ?_
  refine jc_seq (jc_region (qh [0] (qe (jx_then (jc_seq (jc_seq (jc_region (qh [0] ?_))))))))
  by_cases hn_4 : A_a = none
  ·have hx0 : s0 = [] := (nil_of A_h hn_4)
   replace h : some [] = some r := by simpa [hx0] using h
   refine tO (p_nil 0 A_a true true (by kernel_rfl) (by kernel_rfl) (by rw [hn_4]; rfl) (jkO (qe (jx_then (jc_cond true (by kernel_rfl) (fun hc_5 => (jc_seq (jc_region (qh [0] (qe (jx_then (jc_ret (jx_thenr ?_)))))))) (fun hc_5 => nomatch hc_5))))))
   obtain rfl := Option.some.inj h
   exact jx_ghost 110 encGHammer (qr [] (fun w hm => ⟨none, 0, [], 0, rfl, (fun e => absurd rfl e), (fun _ => ⟨rfl, rfl⟩), rfl, hm.pk [0]⟩))
  ·refine tO (p_nil 0 A_a true false (by kernel_rfl) (by kernel_rfl) (by rw [Option.isNone_eq_false_iff.2 (Option.ne_none_iff_isSome.1 hn_4)]; rfl) (jkO (qe (jx_then (jc_cond false (by kernel_rfl) (fun hc_6 => nomatch hc_6) (fun hc_6 => (jc_skip (jx_then (jc_seq (jc_region (tO (qa 0 (fun b_7 => jkO (qh [0] ?_))))))))))))))
   obtain ⟨hg_8, h⟩ := gd h
   refine tO (p_apn 0 0 (some b_7) 110 0 s0.length 0 2 2 A_a encGHammer ([] : List GHammer) s0 [] (.agg #[(.int .i8 0), (.int .i8 0)]) rfl rfl (by kernel_rfl) (by kernel_rfl) (by kernel_rfl) encGHammer_len encGHammer_cell (fun _ => ⟨Nat.le_refl _, by simp⟩) (fun e => nomatch e) (fun w hm => (hm.xr A_h)) hg_8 (by kernel_rfl) (by kernel_rfl) (fun o_9 cap_10 sp_11 hs_12 ho_13 => jkO (qh [0] (qe (jx_then (jc_ret ?_))))))
   obtain rfl := Option.some.inj h
   exact qr [] (fun w hm => ⟨o_9, cap_10, sp_11, ((([] : List GHammer) ++ s0).length), rfl, hs_12, ho_13, rfl, hm.pk [0]⟩)
/-! ### slices.Delete[[]impl.Hammer,impl.Hammer] -/
def slices_Delete_Hammer (s0 : List GHammer) (i1 : Int) (j2 : Int) : Option ((List GHammer)) := (if 0 ≤ i1 ∧ i1 ≤ j2 ∧ j2 ≤ (s0.length : Int) ∧ (s0.length : Int) ≤ (s0.length : Int) then (if (i1 == j2) = true then some s0 else (if 0 ≤ i1 ∧ i1 ≤ (s0.length : Int) then (if 0 ≤ j2 ∧ j2 ≤ (s0.length : Int) then (if i1.toNat + (s0.drop j2.toNat).length ≤ s0.length then some (s0.take i1.toNat ++ (s0.drop j2.toNat)) else none) else none) else none)) else none)
theorem slices_Delete_Hammer.calls (s0 : List GHammer) (i1 : Int) (j2 : Int) (w : World) (r : (List GHammer)) (A_o : Option Nat) {A_on : Nat} {A_c : Nat} {A_sp : List Value} (A_hn : s0.length = A_on) (A_hs : A_o ≠ none → A_on ≤ A_c ∧ A_sp.length = (A_c - A_on) * 2) (A_ho : A_o = none → s0 = [] ∧ A_c = 0) (hm0 : Mem w (bs [A_o]) [⟨A_o, 110, row encGHammer s0 A_sp⟩] w) (h : slices_Delete_Hammer s0 i1 j2 = some r) :
    Calls Try.prog 119 #[(.slice (A_o.map fun b => ⟨b, 0, none⟩) A_on A_c), (.int .i64 i1), (.int .i64 j2)] w fun e w' => ∃ v, e = .returned v ∧ (∃ (o0 : Option Nat) (c0 : Nat) (s0 : List Value) (n0 : Nat), r.length = n0 ∧ (o0 ≠ none → n0 ≤ c0 ∧ s0.length = (c0 - n0) * 2) ∧ (o0 = none → r = [] ∧ c0 = 0) ∧ v = .slice (o0.map fun b => ⟨b, 0, none⟩) n0 c0 ∧ Mem w (bs [A_o]) [⟨o0, 110, row encGHammer r s0⟩] w') := by
  subst A_hn
  rw [slices_Delete_Hammer] at h
  refine enter (args := [(.slice (A_o.map fun b => ⟨b, 0, none⟩) s0.length A_c), (.int .i64 i1), (.int .i64 j2)]) Try.func119 rfl Try.ntmps119 (by kernel_rfl) (L := [⟨A_o, 110, row encGHammer s0 A_sp⟩]) (W := bs [A_o]) hm0 ?_
  refine jc_seq (jc_region (qh [0] (qe (jx_then (jc_seq (jc_region (qh [0,0,0,0,0] ?_)))))))
  obtain ⟨hg_1, h⟩ := gd h
  refine tO (p_slM 0 (A_o.map fun b => ⟨b, 0, none⟩) s0.length A_c 2 i1 j2 (s0.length : Int) (by kernel_rfl) (by kernel_rfl) hg_1.1 hg_1.2.1 hg_1.2.2.1 (Int.le_trans hg_1.2.2.2 (Int.ofNat_le.2 (cap_le rfl A_hs A_ho))) (jkO (qe (jx_then (jc_seq (jc_seq (jc_region (qh [0,0,0] (qe (jx_then (qi h (fun h => ?_) (fun h => ?_))))))))))))
  ·refine jc_seq (jc_region (qh [0,0] (qe (jx_then (jc_ret (jx_thenr ?_))))))
   obtain rfl := Option.some.inj h
   exact qr [] (fun w hm => ⟨A_o, A_c, A_sp, s0.length, rfl, A_hs, A_ho, rfl, hm.pk [0]⟩)
  ·refine jc_skip (jx_then (jc_seq (jc_region (qh [0,0,0] (qe (jx_then (jc_seq (qg [] 8 (qd [⟨0, 0, 0⟩,⟨1, 0, 0⟩,⟨3, 0, 0⟩,⟨4, 0, 0⟩] 4 [] ?_)))))))))
   obtain ⟨hg_6, h⟩ := gd h
   refine qv 2 0 [] (fun w hm => slH_run (a := (A_o.map fun b => ⟨b, 0, none⟩)) (len := s0.length) (cap := A_c) (size := 2) (h := i1) (by kernel_rfl) hg_6.1 (Int.le_trans hg_6.2 (Int.ofNat_le.2 (cap_le rfl A_hs A_ho)))) ?_
   obtain ⟨hg_7, h⟩ := gd h
   refine qv 5 0 [] (fun w hm => slL_run (a := (A_o.map fun b => ⟨b, 0, none⟩)) (len := s0.length) (cap := A_c) (size := 2) (l := j2) (by kernel_rfl) hg_7.1 (Int.le_trans hg_7.2 (Int.ofNat_le.2 (Nat.le_of_eq rfl)))) ?_
   obtain ⟨hg_8, h⟩ := gd h
   refine tD 6 (p_apN 0 0 A_o 110 i1.toNat s0.length (s0.length - j2.toNat) A_c 2 2 (pa (A_o.map fun b => ⟨b, 0, none⟩) j2.toNat A_c 2) encGHammer s0 (s0.drop j2.toNat) A_sp hg_8 rfl (tl_len rfl j2) (by kernel_rfl) (by kernel_rfl) (by kernel_rfl) encGHammer_len encGHammer_cell A_hs A_ho (fun w hm => ((hm.ow 0 A_o 110 s0 A_sp (fun e => (A_ho e).1) encGHammer_len).tl j2.toNat A_c (cap_le rfl A_hs A_ho))) (fun sp_11 hs_12 ho_13 => kD [] (qd [⟨7, 0, 0⟩] 0 [] (qz (jx_then (jc_seq (jc_region (qh [0,0,0,0] (tO (p_slLH 0 (A_o.map fun b => ⟨b, 0, none⟩) ((s0.take i1.toNat ++ (s0.drop j2.toNat)).length) A_c 2 (((s0.take i1.toNat ++ (s0.drop j2.toNat)).length) : Int) (s0.length : Int) (by kernel_rfl) (by kernel_rfl) (by omega) (Int.ofNat_le.2 (Nat.le_trans (apn_le hg_8) (Nat.le_of_eq rfl))) (Int.ofNat_le.2 (show s0.length ≤ A_c by have := (cap_le rfl A_hs A_ho); have : s0.length = s0.length := rfl; omega)) (jkO (tO (p_clr 0 0 A_o 110 ((((s0.take i1.toNat ++ (s0.drop j2.toNat)).length) : Int).toNat) ((s0.take i1.toNat ++ (s0.drop j2.toNat)).length) ((s0.length : Int).toNat - (((s0.take i1.toNat ++ (s0.drop j2.toNat)).length) : Int).toNat) A_c 2 [(.int .i8 0), (.int .i8 0)] encGHammer (s0.take i1.toNat ++ (s0.drop j2.toNat)) sp_11 rfl (by omega) (by kernel_rfl) (by kernel_rfl) (by kernel_rfl) encGHammer_len (by kernel_rfl) hs_12 ho_13 (by have := (show s0.length ≤ A_c by have := (cap_le rfl A_hs A_ho); have : s0.length = s0.length := rfl; omega); have := (Nat.le_trans (apn_le hg_8) (Nat.le_of_eq rfl)); omega) (fun sp_15 hl_16 => jkO (qe (jx_then (jc_seq (jc_region (qh [0,0] (qe (jx_then (jc_ret ?_))))))))))))))))))))))
   obtain rfl := Option.some.inj h
   exact qr [] (fun w hm => ⟨A_o, A_c, sp_15, ((s0.take i1.toNat ++ (s0.drop j2.toNat)).length), rfl, (fun e => ⟨(hs_12 e).1, hl_16.trans (hs_12 e).2⟩), ho_13, rfl, hm.pk [0]⟩)
/-! ### (impl.Frame).without -/
def impl_Frame_without (f0 : GFrame) (track1 : Int) : Option (GFrame) := (slices_Clone_Hammer f0.fHammers).bind fun t_1 => (slices_Delete_Hammer t_1 track1 (w64 (track1 + 1))).bind fun t_2 => some (⟨f0.fSteps, t_2⟩ : GFrame)
theorem impl_Frame_without.calls (f0 : GFrame) (track1 : Int) (w : World) (r : GFrame) {C_a : Option Addr} {C_an : Nat} (C_c : Nat) (C_h : Rw w C_a 2 encGHammer f0.fHammers) (C_hn : f0.fHammers.length = C_an) (h : impl_Frame_without f0 track1 = some r) :
    Calls Try.prog 71 #[(.agg #[(.int .i16 f0.fSteps), (.slice C_a C_an C_c)]), (.int .i64 track1)] w fun e w' => ∃ v, e = .returned v ∧ (∃ (o0 : Option Nat) (c0 : Nat) (s0 : List Value) (n0 : Nat), r.fHammers.length = n0 ∧ (o0 ≠ none → n0 ≤ c0 ∧ s0.length = (c0 - n0) * 2) ∧ (o0 = none → r.fHammers = [] ∧ c0 = 0) ∧ v = .agg #[(.int .i16 r.fSteps), .slice (o0.map fun b => ⟨b, 0, none⟩) n0 c0] ∧ Mem w [] [⟨o0, 110, row encGHammer r.fHammers s0⟩] w') := by
  subst C_hn
  rw [impl_Frame_without] at h
  refine enter (args := [(.agg #[(.int .i16 f0.fSteps), (.slice C_a f0.fHammers.length C_c)]), (.int .i64 track1)]) Try.func71 rfl Try.ntmps71 (by kernel_rfl) (L := []) (W := []) (Mem.start w) ?_
  refine jc_seq (jc_region (tO (qa 0 (fun b_1 => jkO (tO (qa 0 (fun b_2 => jkO (qe (jx_then (jc_seq (qg [⟨some b_1, 34, [(.int .i16 f0.fSteps), (.slice C_a f0.fHammers.length C_c)]⟩] 11 (qd [⟨0, 0, 0⟩,⟨1, 0, 0⟩,⟨2, 0, 0⟩,⟨3, 0, 0⟩,⟨5, 0, 0⟩,⟨6, 0, 0⟩,⟨7, 0, 0⟩] 4 [0] ?_))))))))))))
  obtain ⟨t_1, ht_15, h⟩ := bd h
  refine tD 4 (pc 0 (fun w hm => slices_Clone_Hammer.calls f0.fHammers w _ C_c (hm.xr C_h) rfl ht_15) ?_)
  rintro w v w' hm ⟨o_16, cap_17, sp_18, _, rfl, hs_19, ho_20, rfl, hm'⟩
  refine ⟨_, hm.app hm', kD [0] ?_⟩
  clear hm hm'
  obtain ⟨t_2, ht_21, h⟩ := bd h
  refine tD 8 (pc 0 (fun w hm => slices_Delete_Hammer.calls t_1 track1 (w64 (track1 + 1)) w _ o_16 rfl hs_19 ho_20 (hm.pass (N := [⟨o_16, 110, row encGHammer t_1 sp_18⟩]) [2] (by kernel_rfl) (by kernel_rfl)) ht_21) ?_)
  rintro w v w' hm ⟨o_22, cap_23, sp_24, _, rfl, hs_25, ho_26, rfl, hm'⟩
  refine ⟨_, hm.appP (ps := []) (ds := [2]) (N := [⟨o_22, 110, row encGHammer t_2 sp_24⟩]) hm' [0] (by kernel_rfl) (by kernel_rfl) (by kernel_rfl), kD [0] ?_⟩
  clear hm hm'
  refine qd [⟨9, 0, 0⟩] 1 [0] (tD 10 (qs 0 [1] (kD [0] (qz (jx_then (jc_ret ?_))))))
  obtain rfl := Option.some.inj h
  exact qr [1] (fun w hm => ⟨o_22, cap_23, sp_24, t_2.length, rfl, hs_25, ho_26, rfl, hm.pk [3]⟩)
/-! ### (impl.Frame).pitch -/
def impl_Frame_pitch (f0 : GFrame) (track1 : Int) : Option (Int) := (ix f0.fHammers track1).bind fun x_1 => some (w64 x_1.fPitch)
theorem impl_Frame_pitch.calls (f0 : GFrame) (track1 : Int) (w : World) (r : Int) {C_a : Option Addr} {C_an : Nat} (C_c : Nat) (C_h : Rw w C_a 2 encGHammer f0.fHammers) (C_hn : f0.fHammers.length = C_an) (h : impl_Frame_pitch f0 track1 = some r) :
    Calls Try.prog 182 #[(.agg #[(.int .i16 f0.fSteps), (.slice C_a C_an C_c)]), (.int .i64 track1)] w fun e w' => ∃ v, e = .returned v ∧ (v = (.int .i64 r) ∧ Mem w [] [] w') := by
  subst C_hn
  rw [impl_Frame_pitch] at h
  refine enter (args := [(.agg #[(.int .i16 f0.fSteps), (.slice C_a f0.fHammers.length C_c)]), (.int .i64 track1)]) Try.func182 rfl Try.ntmps182 (by kernel_rfl) (L := []) (W := []) (Mem.start w) ?_
  refine jc_seq (jc_region (tO (qa 0 (fun b_1 => jkO (qh [0] (qe (jx_then (jc_seq (jc_region (qh [0,0,0] ?_))))))))))
  obtain ⟨x_1, hx_2, h⟩ := bd h
  refine tO (qx 0 C_a 2 hx_2 rfl (C_h.sp hx_2) (jkO (qh [0] (tO (ql 0 false (fun w hm => (((hm.xr C_h).at hx_2).sub 0 1)) (jkO (qh [0,0] (qe (jx_then (jc_ret ?_))))))))))
  obtain rfl := Option.some.inj h
  exact qr [] (fun w hm => ⟨rfl, hm.pk []⟩)
/-! ### (*impl.Drum).has -/
def impl_Drum_has (d0 : Arr 96 Int) (step1 : Int) (track2 : Int) : Option (Bool) := (ix d0.1 step1).bind fun x_1 => (if 0 ≤ track2 then some ((bAnd .u32 (bShr .u32 x_1 track2) 1) == 1) else none)
theorem impl_Drum_has.calls (d0 : Arr 96 Int) (step1 : Int) (track2 : Int) (w : World) (r : Bool) {A_b A_q : Nat} (A_h : Rw w (some ⟨A_b, A_q, none⟩) 1 encU32 d0.1) (h : impl_Drum_has d0 step1 track2 = some r) :
    Calls Try.prog 159 #[(.pointer (some ⟨A_b, A_q, none⟩)), (.int .i64 step1), (.int .i64 track2)] w fun e w' => ∃ v, e = .returned v ∧ (v = (.bool r) ∧ Mem w [] [] w') := by
  rw [impl_Drum_has] at h
  refine enter (args := [(.pointer (some ⟨A_b, A_q, none⟩)), (.int .i64 step1), (.int .i64 track2)]) Try.func159 rfl Try.ntmps159 (by kernel_rfl) (L := []) (W := []) (Mem.start w) ?_
  refine jc_seq (jc_region (qh [0] (qe (jx_then (jc_seq (jc_region (qh [0,0,0] ?_)))))))
  obtain ⟨x_1, hx_1, h⟩ := bd h
  refine tO (qx 0 (some ⟨A_b, A_q, none⟩) 1 hx_1 d0.2 (A_h.sp hx_1) (jkO (tO (ql 0 false (fun w hm => ((hm.xr A_h).at hx_1)) (jkO (qh [0] ?_))))))
  obtain ⟨hg_2, h⟩ := gd h
  refine tO (p_shr 0 .u32 x_1 .i64 track2 (by kernel_rfl) (by kernel_rfl) hg_2 (jkO (qh [0,0,0] (qe (jx_then (jc_ret ?_))))))
  obtain rfl := Option.some.inj h
  exact qr [] (fun w hm => ⟨rfl, hm.pk []⟩)
/-! ### (impl.Frame).behind -/
def impl_Frame_behind.k_1 (f0 : GFrame) : Option (Int) := some (w64 f0.fSteps)
def impl_Frame_behind.l_3 (f0 : GFrame) (d1 : Arr 96 Int) (step2 : Int) (track3 : Int) (way4 : Int) : Int → Option ((Int) ⊕ (Int ⊕ Unit))
  | i_2 => (if (decide (i_2 < (w64 f0.fSteps))) = true then (if (w64 f0.fSteps) ≠ 0 then (impl_Drum_has d1 (Int.tmod (w64 ((w64 (step2 + (w64 (way4 * i_2)))) + (w64 f0.fSteps))) (w64 f0.fSteps)) track3).bind fun t_5 => (if t_5 = true then some (.inr (.inl i_2)) else some (.inl (w64 (i_2 + 1)))) else none) else some (.inr (.inr ())))
def impl_Frame_behind (f0 : GFrame) (d1 : Arr 96 Int) (step2 : Int) (track3 : Int) (way4 : Int) : Option (Int) := (loop (impl_Frame_behind.l_3 f0 d1 step2 track3 way4) 1).bind fun t_4 => match t_4 with | .inl p => some p | .inr p => impl_Frame_behind.k_1 f0
theorem impl_Frame_behind.calls (f0 : GFrame) (d1 : Arr 96 Int) (step2 : Int) (track3 : Int) (way4 : Int) (w : World) (r : Int) {C_a : Option Addr} {C_an : Nat} (C_c : Nat) (C_h : Rw w C_a 2 encGHammer f0.fHammers) (C_hn : f0.fHammers.length = C_an) {D_b D_q : Nat} (D_h : Rw w (some ⟨D_b, D_q, none⟩) 1 encU32 d1.1) (h : impl_Frame_behind f0 d1 step2 track3 way4 = some r) :
    Calls Try.prog 190 #[(.agg #[(.int .i16 f0.fSteps), (.slice C_a C_an C_c)]), (.pointer (some ⟨D_b, D_q, none⟩)), (.int .i64 step2), (.int .i64 track3), (.int .i64 way4)] w fun e w' => ∃ v, e = .returned v ∧ (v = (.int .i64 r) ∧ Mem w [] [] w') := by
  subst C_hn
  rw [impl_Frame_behind] at h
  refine enter (args := [(.agg #[(.int .i16 f0.fSteps), (.slice C_a f0.fHammers.length C_c)]), (.pointer (some ⟨D_b, D_q, none⟩)), (.int .i64 step2), (.int .i64 track3), (.int .i64 way4)]) Try.func190 rfl Try.ntmps190 (by kernel_rfl) (L := []) (W := []) (Mem.start w) ?_
  refine jc_seq (jc_region (tO (qa 0 (fun b_1 => jkO (qh [0] (qe (jx_then (jc_seq (jc_region (qh [0,0,0,0] (qe (jx_then (jc_seq (jc_seq (jc_region (qh [0] (qe (jx_then (jc_meet (fun (_ : Unit) => impl_Frame_behind.k_1 f0 = some r) (fun (_ : Unit) => [(10, [], (.int .i64 0)), (11, [], (.int .i64 (w64 f0.fSteps)))]) (fun (_ : Unit) => [⟨some b_1, 34, [(.int .i16 f0.fSteps), (.slice C_a f0.fHammers.length C_c)]⟩]) ?_ ?_)))))))))))))))))))
  ·refine jc_block ?_
   obtain ⟨t_4, ht_81, hr_72⟩ := bd h
   refine jc_loop (fun (s : Int) (x : Unit) => match s, x with | i_2, _ => True) (fun (s : Int) (x : Unit) => match s, x with | i_2, _ => [(1, [], (.pointer (some ⟨D_b, D_q, none⟩))), (2, [], (.int .i64 step2)), (3, [], (.int .i64 track3)), (4, [], (.int .i64 way4)), (10, [], (.int .i64 0)), (11, [], (.int .i64 (w64 f0.fSteps))), (12, [], (.int .i64 i_2))]) (fun (s : Int) (x : Unit) => match s, x with | i_2, _ => [⟨some b_1, 34, [(.int .i16 f0.fSteps), (.slice C_a f0.fHammers.length C_c)]⟩]) ht_81 () trivial (by kernel_rfl) [0] (by kernel_rfl) (by kernel_rfl) ?_
   rintro i_2 _ y_73 _ h
   rw [impl_Frame_behind.l_3] at h
   refine jc_seq (jc_seq (jc_region (qh [0,0,0] (qe (jx_then (qi h (fun h => ?_) (fun h => ?_)))))))
   ·refine jc_skip (jx_then (jc_seq (jc_block (jc_seq (jc_region (qh [0,0,0,0,0,0,0,0,0] ?_))))))
    obtain ⟨hg_76, h⟩ := gd h
    refine tO (p_rem 0 .i64 (w64 ((w64 (step2 + (w64 (way4 * i_2)))) + (w64 f0.fSteps))) (w64 f0.fSteps) (by kernel_rfl) (by kernel_rfl) hg_76 (jkO (qh [0] ?_)))
    obtain ⟨t_5, ht_77, h⟩ := bd h
    refine tO (pc 0 (fun w hm => impl_Drum_has.calls d1 (Int.tmod (w64 ((w64 (step2 + (w64 (way4 * i_2)))) + (w64 f0.fSteps))) (w64 f0.fSteps)) track3 w _ (hm.xr D_h) ht_77) ?_)
    rintro w v w' hm ⟨rfl, hm'⟩
    refine ⟨_, hm.app hm', jkO ?_⟩
    clear hm hm'
    refine qe (jx_then (qi h (fun h => ?_) (fun h => ?_)))
    ·refine jc_seq (jc_region (qh [0,0] (qe (jx_then (jc_ret (jx_inr (jx_thenr (jx_leaver (.inl i_2) (Option.some.inj h).symm (fun e_79 => ?_)))))))))
     subst e_79
     refine jx_inr (jx_thenr (jx_thenr ?_))
     obtain rfl := Option.some.inj hr_72
     exact qr [] (fun w hm => ⟨rfl, hm.pk []⟩)
    ·exact jc_skip (jx_inn (jx_then (jc_region (qh [0,0,0] (qe (qb (w64 (i_2 + 1)) () h trivial [0]))))))
   ·refine jc_exit (jx_thenx (jx_leave (.inr ()) (Option.some.inj h).symm (fun e_80 => ?_)))
    subst e_80
    exact jx_ine (qm () hr_72 [0])
  ·rintro _ h
   replace h : impl_Frame_behind.k_1 f0 = some r := h
   rw [impl_Frame_behind.k_1] at h
   refine jx_then (jc_seq (jc_region (qh [0,0] (qe (jx_then (jc_ret ?_))))))
   obtain rfl := Option.some.inj h
   exact qr [] (fun w hm => ⟨rfl, hm.pk []⟩)
/-! ### (impl.Frame).isFree -/
def impl_Frame_isFree (f0 : GFrame) (d1 : Arr 96 Int) (step2 : Int) (track3 : Int) : Option (Bool) := (ix f0.fHammers track3).bind fun x_1 => (impl_Drum_has d1 step2 track3).bind fun t_2 => (if (!t_2) = true then (impl_Frame_behind f0 d1 step2 track3 1).bind fun t_3 => (if (decide (t_3 ≥ (w64 x_1.fReady))) = true then (impl_Frame_behind f0 d1 step2 track3 (-1)).bind fun t_4 => some (decide (t_4 ≥ (w64 x_1.fReady))) else some false) else some false)
theorem impl_Frame_isFree.calls (f0 : GFrame) (d1 : Arr 96 Int) (step2 : Int) (track3 : Int) (w : World) (r : Bool) {C_a : Option Addr} {C_an : Nat} (C_c : Nat) (C_h : Rw w C_a 2 encGHammer f0.fHammers) (C_hn : f0.fHammers.length = C_an) {D_b D_q : Nat} (D_h : Rw w (some ⟨D_b, D_q, none⟩) 1 encU32 d1.1) (h : impl_Frame_isFree f0 d1 step2 track3 = some r) :
    Calls Try.prog 171 #[(.agg #[(.int .i16 f0.fSteps), (.slice C_a C_an C_c)]), (.pointer (some ⟨D_b, D_q, none⟩)), (.int .i64 step2), (.int .i64 track3)] w fun e w' => ∃ v, e = .returned v ∧ (v = (.bool r) ∧ Mem w [] [] w') := by
  subst C_hn
  rw [impl_Frame_isFree] at h
  refine enter (args := [(.agg #[(.int .i16 f0.fSteps), (.slice C_a f0.fHammers.length C_c)]), (.pointer (some ⟨D_b, D_q, none⟩)), (.int .i64 step2), (.int .i64 track3)]) Try.func171 rfl Try.ntmps171 (by kernel_rfl) (L := []) (W := []) (Mem.start w) ?_
  refine jc_seq (jc_region (tO (qa 0 (fun b_1 => jkO (qh [0] (qe (jx_then (jc_seq (jc_region (qh [0,0,0] ?_))))))))))
  obtain ⟨x_1, hx_2, h⟩ := bd h
  refine tO (qx 0 C_a 2 hx_2 rfl (C_h.sp hx_2) (jkO (qh [0] (tO (ql 0 false (fun w hm => (((hm.xr C_h).at hx_2).sub 1 1)) (jkO (qh [0,0] (qe (jx_then (jc_seq (jc_region (qh [0,0,0] ?_))))))))))))
  obtain ⟨t_2, ht_3, h⟩ := bd h
  refine tO (pc 0 (fun w hm => impl_Drum_has.calls d1 step2 track3 w _ (hm.xr D_h) ht_3) ?_)
  rintro w v w' hm ⟨rfl, hm'⟩
  refine ⟨_, hm.app hm', jkO ?_⟩
  clear hm hm'
  refine qf [(0, 0), (0, 0), (0, 1), (0, 1), (0, 1), (0, 1)] (qp 22 h (fun h => ?_) (fun h => ?_))
  ·obtain ⟨t_3, ht_5, h⟩ := bd h
   refine tO (pc 2 (fun w hm => impl_Frame_behind.calls f0 d1 step2 track3 1 w _ C_c (hm.xr C_h) rfl (hm.xr D_h) ht_5) ?_)
   rintro w v w' hm ⟨rfl, hm'⟩
   refine ⟨_, hm.app hm', jkO ?_⟩
   clear hm hm'
   refine qf [(0, 2), (0, 2), (0, 4), (0, 0), (0, 1), (0, 1), (0, 1), (0, 1)] (qp 31 h (fun h => ?_) (fun h => ?_))
   ·obtain ⟨t_4, ht_7, h⟩ := bd h
    refine tO (pc 2 (fun w hm => impl_Frame_behind.calls f0 d1 step2 track3 (-1) w _ C_c (hm.xr C_h) rfl (hm.xr D_h) ht_7) ?_)
    rintro w v w' hm ⟨rfl, hm'⟩
    refine ⟨_, hm.app hm', jkO ?_⟩
    clear hm hm'
    refine qf [(0, 2), (0, 2), (0, 4), (0, 0)] (qe (jx_then (jc_ret ?_)))
    obtain rfl := Option.some.inj h
    exact qr [] (fun w hm => ⟨rfl, hm.pk []⟩)
   ·refine qf [(0, 3), (0, 3), (0, 3), (0, 5), (0, 0)] (qe (jx_then (jc_ret ?_)))
    obtain rfl := Option.some.inj h
    exact qr [] (fun w hm => ⟨rfl, hm.pk []⟩)
  ·refine qf [(0, 3), (0, 3), (0, 3), (0, 5), (0, 0), (0, 3), (0, 3), (0, 3), (0, 3), (0, 3), (0, 3), (0, 3), (0, 5), (0, 0)] (qe (jx_then (jc_ret ?_)))
   obtain rfl := Option.some.inj h
   exact qr [] (fun w hm => ⟨rfl, hm.pk []⟩)
/-! ### (impl.Frame).freeTracks -/
def impl_Frame_freeTracks.k_3 (xs_2 : List Int) : Option ((List Int)) := some xs_2
def impl_Frame_freeTracks.k_9 (xs_4 : List Int) (i_5 : Int) (q_8 : Bool) : Option (((List Int) × Int) ⊕ ((List Int))) := (if q_8 = true then (if xs_4.length + ([i_5] : List Int).length ≤ 4294967296 then some (.inl ((xs_4 ++ ([i_5] : List Int)), (w64 (i_5 + 1)))) else none) else some (.inl (xs_4, (w64 (i_5 + 1)))))
def impl_Frame_freeTracks.l_6 (f0 : GFrame) (d1 : Arr 96 Int) (step2 : Int) (pitch3 : Int) (t_1 : Int) : ((List Int) × Int) → Option (((List Int) × Int) ⊕ ((List Int)))
  | (xs_4, i_5) => (if (decide (i_5 < t_1)) = true then (impl_Frame_pitch f0 i_5).bind fun t_10 => (if (t_10 == pitch3) = true then (impl_Frame_isFree f0 d1 step2 i_5).bind fun t_11 => impl_Frame_freeTracks.k_9 xs_4 i_5 t_11 else impl_Frame_freeTracks.k_9 xs_4 i_5 false) else some (.inr xs_4))
def impl_Frame_freeTracks (f0 : GFrame) (d1 : Arr 96 Int) (step2 : Int) (pitch3 : Int) : Option ((List Int)) := (impl_size_Hammer f0.fHammers).bind fun t_1 => (loop (impl_Frame_freeTracks.l_6 f0 d1 step2 pitch3 t_1) (([] : List Int), 0)).bind fun t_7 => impl_Frame_freeTracks.k_3 t_7
theorem impl_Frame_freeTracks.calls (f0 : GFrame) (d1 : Arr 96 Int) (step2 : Int) (pitch3 : Int) (w : World) (r : (List Int)) {C_a : Option Addr} {C_an : Nat} (C_c : Nat) (C_h : Rw w C_a 2 encGHammer f0.fHammers) (C_hn : f0.fHammers.length = C_an) {D_b D_q : Nat} (D_h : Rw w (some ⟨D_b, D_q, none⟩) 1 encU32 d1.1) (h : impl_Frame_freeTracks f0 d1 step2 pitch3 = some r) :
    Calls Try.prog 158 #[(.agg #[(.int .i16 f0.fSteps), (.slice C_a C_an C_c)]), (.pointer (some ⟨D_b, D_q, none⟩)), (.int .i64 step2), (.int .i64 pitch3)] w fun e w' => ∃ v, e = .returned v ∧ (∃ (o0 : Option Nat) (c0 : Nat) (s0 : List Value) (n0 : Nat), r.length = n0 ∧ (o0 ≠ none → n0 ≤ c0 ∧ s0.length = (c0 - n0) * 1) ∧ (o0 = none → r = [] ∧ c0 = 0) ∧ v = .slice (o0.map fun b => ⟨b, 0, none⟩) n0 c0 ∧ Mem w [] [⟨o0, 2, row encI64 r s0⟩] w') := by
  subst C_hn
  rw [impl_Frame_freeTracks] at h
  refine enter (args := [(.agg #[(.int .i16 f0.fSteps), (.slice C_a f0.fHammers.length C_c)]), (.pointer (some ⟨D_b, D_q, none⟩)), (.int .i64 step2), (.int .i64 pitch3)]) Try.func158 rfl Try.ntmps158 (by kernel_rfl) (L := []) (W := []) (Mem.start w) ?_
  refine jc_seq (jc_region (tO (qa 0 (fun b_1 => jkO (qh [0] (qe (jx_then (jc_seq (jc_region (tO (qa 0 (fun b_2 => jkO (qh [0] (qe (jx_then (jc_seq (jc_seq (jc_region (qh [0,0] ?_)))))))))))))))))))
  obtain ⟨t_1, ht_138, h⟩ := bd h
  refine tO (pc 0 (fun w hm => impl_size_Hammer.calls f0.fHammers w _ C_c (hm.xr C_h) rfl ht_138) ?_)
  rintro w v w' hm ⟨rfl, hm'⟩
  refine ⟨_, hm.app hm', jkO ?_⟩
  clear hm hm'
  refine qh [0] (qe (jx_then (jc_meet (fun (j : (List Int) × (Option Nat) × Nat × (List Value) × Nat) => match j with | ⟨xs_2, o_203, cap_204, sp_205, n_206⟩ => impl_Frame_freeTracks.k_3 xs_2 = some r ∧ (xs_2.length = n_206) ∧ ((o_203 ≠ none → n_206 ≤ cap_204 ∧ sp_205.length = (cap_204 - n_206) * 1)) ∧ ((o_203 = none → xs_2 = [] ∧ cap_204 = 0))) (fun (j : (List Int) × (Option Nat) × Nat × (List Value) × Nat) => match j with | ⟨xs_2, o_203, cap_204, sp_205, n_206⟩ => [(8, [], (.slice none 0 0)), (9, [], (.slice (o_203.map fun b => ⟨b, 0, none⟩) n_206 cap_204))]) (fun (j : (List Int) × (Option Nat) × Nat × (List Value) × Nat) => match j with | ⟨xs_2, o_203, cap_204, sp_205, n_206⟩ => [⟨some b_1, 34, [(.int .i16 f0.fSteps), (.slice C_a f0.fHammers.length C_c)]⟩, ⟨o_203, 2, row encI64 xs_2 sp_205⟩]) ?_ ?_)))
  ·refine jc_block ?_
   obtain ⟨t_7, ht_272, hr_253⟩ := bd h
   refine jc_loop (fun (s : (List Int) × Int) (x : (Option Nat) × Nat × (List Value) × Nat) => match s, x with | ⟨xs_4, i_5⟩, ⟨o_247, cap_248, sp_249, n_250⟩ => (xs_4.length = n_250) ∧ ((o_247 ≠ none → n_250 ≤ cap_248 ∧ sp_249.length = (cap_248 - n_250) * 1)) ∧ ((o_247 = none → xs_4 = [] ∧ cap_248 = 0))) (fun (s : (List Int) × Int) (x : (Option Nat) × Nat × (List Value) × Nat) => match s, x with | ⟨xs_4, i_5⟩, ⟨o_247, cap_248, sp_249, n_250⟩ => [(1, [], (.pointer (some ⟨D_b, D_q, none⟩))), (2, [], (.int .i64 step2)), (3, [], (.int .i64 pitch3)), (4, [], (.pointer (some ⟨b_1, 0, none⟩))), (8, [], (.slice none 0 0)), (9, [], (.slice (o_247.map fun b => ⟨b, 0, none⟩) n_250 cap_248)), (14, [], (.int .i64 t_1)), (15, [], (.int .i64 i_5))]) (fun (s : (List Int) × Int) (x : (Option Nat) × Nat × (List Value) × Nat) => match s, x with | ⟨xs_4, i_5⟩, ⟨o_247, cap_248, sp_249, n_250⟩ => [⟨some b_1, 34, [(.int .i16 f0.fSteps), (.slice C_a f0.fHammers.length C_c)]⟩, ⟨o_247, 2, row encI64 xs_4 sp_249⟩]) ht_272 ⟨(some b_2), 0, [], 0⟩ ⟨rfl, (fun _ => ⟨Nat.le_refl _, by simp⟩), (fun e => nomatch e)⟩ (by kernel_rfl) [0, 1] (by kernel_rfl) (by kernel_rfl) ?_
   rintro ⟨xs_4, i_5⟩ ⟨o_247, cap_248, sp_249, n_250⟩ y_254 ⟨rfl, hs_251, ho_252⟩ h
   rw [impl_Frame_freeTracks.l_6] at h
   refine jc_seq (jc_region (qh [0] (qe (jx_then (jc_seq (qi h (fun h => ?_) (fun h => ?_)))))))
   ·refine jc_skip (jx_then (jc_seq (jc_block (jc_seq (jc_region (qh [0,0] (qe (jx_then (jc_seq (jc_meet (fun (j : Bool) => match j with | q_8 => impl_Frame_freeTracks.k_9 xs_4 i_5 q_8 = some y_254) (fun (j : Bool) => match j with | q_8 => [(1, [], (.pointer (some ⟨D_b, D_q, none⟩))), (2, [], (.int .i64 step2)), (3, [], (.int .i64 pitch3)), (4, [], (.pointer (some ⟨b_1, 0, none⟩))), (8, [], (.slice none 0 0)), (9, [], (.slice (o_247.map fun b => ⟨b, 0, none⟩) xs_4.length cap_248)), (10, [], (.int .i64 i_5)), (14, [], (.int .i64 t_1)), (15, [], (.int .i64 i_5)), (29, [], (.bool q_8))]) (fun (j : Bool) => match j with | q_8 => [⟨some b_1, 34, [(.int .i16 f0.fSteps), (.slice C_a f0.fHammers.length C_c)]⟩, ⟨o_247, 2, row encI64 xs_4 sp_249⟩]) ?_ ?_))))))))))
    ·refine jc_region (qh [0,0] ?_)
     obtain ⟨t_10, ht_268, h⟩ := bd h
     refine tO (pc 0 (fun w hm => impl_Frame_pitch.calls f0 i_5 w _ C_c (hm.xr C_h) rfl ht_268) ?_)
     rintro w v w' hm ⟨rfl, hm'⟩
     refine ⟨_, hm.app hm', jkO ?_⟩
     clear hm hm'
     refine qf [(0, 0), (0, 0), (0, 0), (0, 1), (0, 1), (0, 1), (0, 1)] (qp 23 h (fun h => ?_) (fun h => ?_))
     ·obtain ⟨t_11, ht_270, h⟩ := bd h
      refine tO (pc 2 (fun w hm => impl_Frame_isFree.calls f0 d1 step2 i_5 w _ C_c (hm.xr C_h) rfl (hm.xr D_h) ht_270) ?_)
      rintro w v w' hm ⟨rfl, hm'⟩
      refine ⟨_, hm.app hm', jkO ?_⟩
      clear hm hm'
      exact qf [(0, 4)] (qe (qm t_11 h [0, 1]))
     ·exact qf [(0, 3), (0, 5)] (qe (qm false h [0, 1]))
    ·rintro q_8 h
     replace h : impl_Frame_freeTracks.k_9 xs_4 i_5 q_8 = some y_254 := h
     rw [impl_Frame_freeTracks.k_9] at h
     refine jx_then (qi h (fun h => ?_) (fun h => ?_))
     ·refine jc_region (qh [0,0] (tO (qa 0 (fun b_261 => jkO ?_))))
      obtain ⟨hg_262, h⟩ := gd h
      exact tO (p_apn 0 1 o_247 2 xs_4.length 1 cap_248 1 8 (some ⟨b_261, 0, none⟩) encI64 xs_4 ([i_5] : List Int) sp_249 (.int .i64 0) rfl rfl (by kernel_rfl) (by kernel_rfl) (by kernel_rfl) encI64_len encI64_cell hs_251 ho_252 (fun w hm => (hm.ow 2 (some b_261) 2 ([i_5] : List Int) [] (fun e => nomatch e) encI64_len)) hg_262 (by kernel_rfl) (by kernel_rfl) (fun o_263 cap_264 sp_265 hs_266 ho_267 => jkO (qh [0] (qe (jx_inn (jx_then (jc_region (qh [0,0] (qe (qb ((xs_4 ++ ([i_5] : List Int)), (w64 (i_5 + 1))) ⟨o_263, cap_264, sp_265, (xs_4 ++ ([i_5] : List Int)).length⟩ h ⟨rfl, hs_266, ho_267⟩ [0, 1]))))))))))
     ·exact jc_skip (jx_inn (jx_then (jc_region (qh [0,0] (qe (qb (xs_4, (w64 (i_5 + 1))) ⟨o_247, cap_248, sp_249, xs_4.length⟩ h ⟨rfl, hs_251, ho_252⟩ [0, 1]))))))
   ·refine jc_exit (jx_thenx (jx_leave xs_4 (Option.some.inj h).symm (fun e_271 => ?_)))
    subst e_271
    exact jx_ine (qm ⟨xs_4, o_247, cap_248, sp_249, xs_4.length⟩ ⟨hr_253, rfl, hs_251, ho_252⟩ [0, 1])
  ·rintro ⟨xs_2, o_203, cap_204, sp_205, n_206⟩ ⟨h, rfl, hs_207, ho_208⟩
   replace h : impl_Frame_freeTracks.k_3 xs_2 = some r := h
   rw [impl_Frame_freeTracks.k_3] at h
   refine jx_then (jc_seq (jc_region (qh [0,0] (qe (jx_then (jc_ret ?_))))))
   obtain rfl := Option.some.inj h
   exact qr [] (fun w hm => ⟨o_203, cap_204, sp_205, xs_2.length, rfl, hs_207, ho_208, rfl, hm.pk [1]⟩)
/-! ### impl.bit -/
def impl_bit (b0 : Bool) : Option (Int) := (if b0 = true then some 1 else some 0)
theorem impl_bit.calls (b0 : Bool) (w : World) (r : Int) (h : impl_bit b0 = some r) :
    Calls Try.prog 138 #[(.bool b0)] w fun e w' => ∃ v, e = .returned v ∧ (v = (.int .i64 r) ∧ Mem w [] [] w') := by
  rw [impl_bit] at h
  refine enter (args := [(.bool b0)]) Try.func138 rfl Try.ntmps138 (by kernel_rfl) (L := []) (W := []) (Mem.start w) ?_
  refine jc_seq (jc_region (qh [0] (qe (jx_then (jc_seq (jc_seq (jc_region (qh [0] (qe (jx_then (qi h (fun h => ?_) (fun h => ?_))))))))))))
  ·refine jc_seq (jc_region (qh [0] (qe (jx_then (jc_ret (jx_thenr ?_))))))
   obtain rfl := Option.some.inj h
   exact qr [] (fun w hm => ⟨rfl, hm.pk []⟩)
  ·refine jc_skip (jx_then (jc_seq (jc_region (qh [0] (qe (jx_then (jc_ret ?_)))))))
   obtain rfl := Option.some.inj h
   exact qr [] (fun w hm => ⟨rfl, hm.pk []⟩)
/-! ### (*impl.Drum).put -/
def impl_Drum_put (d0 : Arr 96 Int) (step1 : Int) (track2 : Int) (on3 : Bool) : Option ((Arr 96 Int)) := (ix d0.1 step1).bind fun x_1 => (if 0 ≤ track2 then (ix d0.1 step1).bind fun x_2 => (if on3 = true then (ix ((Arr.set d0 step1 (bClr .u32 x_1 (bShl .u32 1 track2))).1) step1).bind fun x_3 => (if 0 ≤ track2 then (ix ((Arr.set d0 step1 (bClr .u32 x_1 (bShl .u32 1 track2))).1) step1).bind fun x_4 => some (Arr.set (Arr.set d0 step1 (bClr .u32 x_1 (bShl .u32 1 track2))) step1 (bOr .u32 x_3 (bShl .u32 1 track2))) else none) else some (Arr.set d0 step1 (bClr .u32 x_1 (bShl .u32 1 track2)))) else none)
theorem impl_Drum_put.calls (d0 : Arr 96 Int) (step1 : Int) (track2 : Int) (on3 : Bool) (w : World) (r : (Arr 96 Int)) (A_b : Nat) (hm0 : Mem w (bs [some A_b]) [⟨(some A_b), 88, row encU32 d0.1 []⟩] w) (h : impl_Drum_put d0 step1 track2 on3 = some r) :
    Calls Try.prog 160 #[(.pointer (some ⟨A_b, 0, none⟩)), (.int .i64 step1), (.int .i64 track2), (.bool on3)] w fun e w' => ∃ v, e = .returned v ∧ (v = .tuple #[] ∧ Mem w (bs [some A_b]) [⟨(some A_b), 88, row encU32 r.1 []⟩] w') := by
  rw [impl_Drum_put] at h
  refine enter (args := [(.pointer (some ⟨A_b, 0, none⟩)), (.int .i64 step1), (.int .i64 track2), (.bool on3)]) Try.func160 rfl Try.ntmps160 (by kernel_rfl) (L := [⟨(some A_b), 88, row encU32 d0.1 []⟩]) (W := bs [some A_b]) hm0 ?_
  refine jc_seq (qg [] 11 (qd [⟨0, 0, 0⟩,⟨1, 0, 0⟩,⟨2, 0, 0⟩,⟨5, 0, 0⟩,⟨8, 0, 0⟩] 6 [] ?_))
  obtain ⟨x_1, hx_4, h⟩ := bd h
  refine qv 3 0 [] (fun w hm => idx_run (a := (some ⟨A_b, 0, none⟩)) (len := 96) (s := 1) (j := step1) (by kernel_rfl) (ix_some hx_4).1 (ltn hx_4 d0.2) rfl) (toD2 4 6 (by kernel_rfl) ?_ ?_)
  ·refine ql 0 false (fun w hm => ((hm.ow 0 (some A_b) 88 d0.1 [] (fun e => nomatch e) encU32_len).at hx_4)) (kD [] ?_)
   obtain ⟨hg_5, h⟩ := gd h
   refine tD 6 (p_shl 0 .u32 1 .i64 track2 (by kernel_rfl) (by kernel_rfl) hg_5 (kD [] (qd [⟨7, 0, 0⟩] 2 [] ?_)))
   obtain ⟨x_2, hx_6, h⟩ := bd h
   refine qv 9 0 [] (fun w hm => idx_run (a := (some ⟨A_b, 0, none⟩)) (len := 96) (s := 1) (j := step1) (by kernel_rfl) (ix_some hx_6).1 (ltn hx_6 d0.2) rfl) (tD 10 (p_str 0 0 A_b 88 encU32 d0.1 [] step1 (bClr .u32 x_1 (bShl .u32 1 track2)) 1 0 [(.int .u32 (bClr .u32 x_1 (bShl .u32 1 track2)))] (by kernel_rfl) (by kernel_rfl) (by kernel_rfl) encU32_len hx_6 (by kernel_rfl) (by kernel_rfl) (kD [] (qz (jx_then (jc_seq (jc_region (qh [0] (qe (jx_then (qi h (fun h => ?_) (fun h => ?_))))))))))))
   ·refine qg [] 11 (qd [⟨0, 0, 0⟩,⟨1, 0, 0⟩,⟨2, 0, 0⟩,⟨5, 0, 0⟩,⟨8, 0, 0⟩] 6 [] ?_)
    obtain ⟨x_3, hx_11, h⟩ := bd h
    refine qv 3 0 [] (fun w hm => idx_run (a := (some ⟨A_b, 0, none⟩)) (len := 96) (s := 1) (j := step1) (by kernel_rfl) (ix_some hx_11).1 (ltn hx_11 (Arr.set d0 step1 (bClr .u32 x_1 (bShl .u32 1 track2))).2) rfl) (toD2 4 6 (by kernel_rfl) ?_ ?_)
    ·refine ql 0 false (fun w hm => ((hm.ow 0 (some A_b) 88 ((Arr.set d0 step1 (bClr .u32 x_1 (bShl .u32 1 track2))).1) [] (fun e => nomatch e) encU32_len).at hx_11)) (kD [] ?_)
     obtain ⟨hg_12, h⟩ := gd h
     refine tD 6 (p_shl 0 .u32 1 .i64 track2 (by kernel_rfl) (by kernel_rfl) hg_12 (kD [] (qd [⟨7, 0, 0⟩] 2 [] ?_)))
     obtain ⟨x_4, hx_13, h⟩ := bd h
     refine qv 9 0 [] (fun w hm => idx_run (a := (some ⟨A_b, 0, none⟩)) (len := 96) (s := 1) (j := step1) (by kernel_rfl) (ix_some hx_13).1 (ltn hx_13 (Arr.set d0 step1 (bClr .u32 x_1 (bShl .u32 1 track2))).2) rfl) (tD 10 (p_str 0 0 A_b 88 encU32 ((Arr.set d0 step1 (bClr .u32 x_1 (bShl .u32 1 track2))).1) [] step1 (bOr .u32 x_3 (bShl .u32 1 track2)) 1 0 [(.int .u32 (bOr .u32 x_3 (bShl .u32 1 track2)))] (by kernel_rfl) (by kernel_rfl) (by kernel_rfl) encU32_len hx_13 (by kernel_rfl) (by kernel_rfl) (kD [] (qz (jx_fall ?_)))))
     obtain rfl := Option.some.inj h
     exact qr [] (fun w hm => ⟨rfl, hm.pk [0]⟩)
    ·obtain ⟨hg_14, h⟩ := gd h
     refine p_shl 0 .u32 1 .i64 track2 (by kernel_rfl) (by kernel_rfl) hg_14 (kD [] (tD 4 (ql 0 false (fun w hm => ((hm.ow 0 (some A_b) 88 ((Arr.set d0 step1 (bClr .u32 x_1 (bShl .u32 1 track2))).1) [] (fun e => nomatch e) encU32_len).at hx_11)) (kD [] (qd [⟨7, 0, 0⟩] 2 [] ?_)))))
     obtain ⟨x_4, hx_15, h⟩ := bd h
     refine qv 9 0 [] (fun w hm => idx_run (a := (some ⟨A_b, 0, none⟩)) (len := 96) (s := 1) (j := step1) (by kernel_rfl) (ix_some hx_15).1 (ltn hx_15 (Arr.set d0 step1 (bClr .u32 x_1 (bShl .u32 1 track2))).2) rfl) (tD 10 (p_str 0 0 A_b 88 encU32 ((Arr.set d0 step1 (bClr .u32 x_1 (bShl .u32 1 track2))).1) [] step1 (bOr .u32 x_3 (bShl .u32 1 track2)) 1 0 [(.int .u32 (bOr .u32 x_3 (bShl .u32 1 track2)))] (by kernel_rfl) (by kernel_rfl) (by kernel_rfl) encU32_len hx_15 (by kernel_rfl) (by kernel_rfl) (kD [] (qz (jx_fall ?_)))))
     obtain rfl := Option.some.inj h
     exact qr [] (fun w hm => ⟨rfl, hm.pk [0]⟩)
   ·refine jc_skip (jx_fall ?_)
    obtain rfl := Option.some.inj h
    exact qr [] (fun w hm => ⟨rfl, hm.pk [0]⟩)
  ·obtain ⟨hg_16, h⟩ := gd h
   refine p_shl 0 .u32 1 .i64 track2 (by kernel_rfl) (by kernel_rfl) hg_16 (kD [] (tD 4 (ql 0 false (fun w hm => ((hm.ow 0 (some A_b) 88 d0.1 [] (fun e => nomatch e) encU32_len).at hx_4)) (kD [] (qd [⟨7, 0, 0⟩] 2 [] ?_)))))
   obtain ⟨x_2, hx_17, h⟩ := bd h
   refine qv 9 0 [] (fun w hm => idx_run (a := (some ⟨A_b, 0, none⟩)) (len := 96) (s := 1) (j := step1) (by kernel_rfl) (ix_some hx_17).1 (ltn hx_17 d0.2) rfl) (tD 10 (p_str 0 0 A_b 88 encU32 d0.1 [] step1 (bClr .u32 x_1 (bShl .u32 1 track2)) 1 0 [(.int .u32 (bClr .u32 x_1 (bShl .u32 1 track2)))] (by kernel_rfl) (by kernel_rfl) (by kernel_rfl) encU32_len hx_17 (by kernel_rfl) (by kernel_rfl) (kD [] (qz (jx_then (jc_seq (jc_region (qh [0] (qe (jx_then (qi h (fun h => ?_) (fun h => ?_))))))))))))
   ·refine qg [] 11 (qd [⟨0, 0, 0⟩,⟨1, 0, 0⟩,⟨2, 0, 0⟩,⟨5, 0, 0⟩,⟨8, 0, 0⟩] 6 [] ?_)
    obtain ⟨x_3, hx_22, h⟩ := bd h
    refine qv 3 0 [] (fun w hm => idx_run (a := (some ⟨A_b, 0, none⟩)) (len := 96) (s := 1) (j := step1) (by kernel_rfl) (ix_some hx_22).1 (ltn hx_22 (Arr.set d0 step1 (bClr .u32 x_1 (bShl .u32 1 track2))).2) rfl) (toD2 4 6 (by kernel_rfl) ?_ ?_)
    ·refine ql 0 false (fun w hm => ((hm.ow 0 (some A_b) 88 ((Arr.set d0 step1 (bClr .u32 x_1 (bShl .u32 1 track2))).1) [] (fun e => nomatch e) encU32_len).at hx_22)) (kD [] ?_)
     obtain ⟨hg_23, h⟩ := gd h
     refine tD 6 (p_shl 0 .u32 1 .i64 track2 (by kernel_rfl) (by kernel_rfl) hg_23 (kD [] (qd [⟨7, 0, 0⟩] 2 [] ?_)))
     obtain ⟨x_4, hx_24, h⟩ := bd h
     refine qv 9 0 [] (fun w hm => idx_run (a := (some ⟨A_b, 0, none⟩)) (len := 96) (s := 1) (j := step1) (by kernel_rfl) (ix_some hx_24).1 (ltn hx_24 (Arr.set d0 step1 (bClr .u32 x_1 (bShl .u32 1 track2))).2) rfl) (tD 10 (p_str 0 0 A_b 88 encU32 ((Arr.set d0 step1 (bClr .u32 x_1 (bShl .u32 1 track2))).1) [] step1 (bOr .u32 x_3 (bShl .u32 1 track2)) 1 0 [(.int .u32 (bOr .u32 x_3 (bShl .u32 1 track2)))] (by kernel_rfl) (by kernel_rfl) (by kernel_rfl) encU32_len hx_24 (by kernel_rfl) (by kernel_rfl) (kD [] (qz (jx_fall ?_)))))
     obtain rfl := Option.some.inj h
     exact qr [] (fun w hm => ⟨rfl, hm.pk [0]⟩)
    ·obtain ⟨hg_25, h⟩ := gd h
     refine p_shl 0 .u32 1 .i64 track2 (by kernel_rfl) (by kernel_rfl) hg_25 (kD [] (tD 4 (ql 0 false (fun w hm => ((hm.ow 0 (some A_b) 88 ((Arr.set d0 step1 (bClr .u32 x_1 (bShl .u32 1 track2))).1) [] (fun e => nomatch e) encU32_len).at hx_22)) (kD [] (qd [⟨7, 0, 0⟩] 2 [] ?_)))))
     obtain ⟨x_4, hx_26, h⟩ := bd h
     refine qv 9 0 [] (fun w hm => idx_run (a := (some ⟨A_b, 0, none⟩)) (len := 96) (s := 1) (j := step1) (by kernel_rfl) (ix_some hx_26).1 (ltn hx_26 (Arr.set d0 step1 (bClr .u32 x_1 (bShl .u32 1 track2))).2) rfl) (tD 10 (p_str 0 0 A_b 88 encU32 ((Arr.set d0 step1 (bClr .u32 x_1 (bShl .u32 1 track2))).1) [] step1 (bOr .u32 x_3 (bShl .u32 1 track2)) 1 0 [(.int .u32 (bOr .u32 x_3 (bShl .u32 1 track2)))] (by kernel_rfl) (by kernel_rfl) (by kernel_rfl) encU32_len hx_26 (by kernel_rfl) (by kernel_rfl) (kD [] (qz (jx_fall ?_)))))
     obtain rfl := Option.some.inj h
     exact qr [] (fun w hm => ⟨rfl, hm.pk [0]⟩)
   ·refine jc_skip (jx_fall ?_)
    obtain rfl := Option.some.inj h
    exact qr [] (fun w hm => ⟨rfl, hm.pk [0]⟩)
end

end Go.Proofs.Yteedohcicmgkaaa
