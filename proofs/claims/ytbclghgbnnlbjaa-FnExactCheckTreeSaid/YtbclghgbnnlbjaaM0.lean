/- Functions of the program that the laws reach: a plain function each, and that the call comes to its answer if the plain function has one. Printed by a program. -/
import Derived.Test.YtbclghgbnnlbjaaT
import Derived.Test.YtbclghgbnnlbjaaTab
namespace Go.Proofs.Ytbclghgbnnlbjaa
open Eng
set_option linter.unusedVariables false

set_option linter.unusedSectionVars false
set_option maxRecDepth 100000
variable [dsW : DrwS]
noncomputable section
/-! ### laws.szHammerS -/
def laws_szHammerS (a0 : List GHammer) (left1 : Int) : Option (Int) := (if (decide ((w64 (left1 - (a0.length : Int))) < 0)) = true then some (-1) else some (w64 (left1 - (a0.length : Int))))
theorem laws_szHammerS.calls (a0 : List GHammer) (left1 : Int) (w : World) (r : Int) {A_a : Option Addr} {A_an : Nat} (A_c : Nat) (A_h : Rw w A_a 2 encGHammer a0) (A_hn : a0.length = A_an) (h : laws_szHammerS a0 left1 = some r) :
    Calls Try.prog 48 #[(.slice A_a A_an A_c), (.int .i64 left1)] w fun e w' => ∃ v, e = .returned v ∧ (v = (.int .i64 r) ∧ Mem w [] [] w') := by
  subst A_hn
  rw [laws_szHammerS] at h
  refine enter (args := [(.slice A_a a0.length A_c), (.int .i64 left1)]) Try.func48 rfl Try.ntmps48 (by kernel_rfl) (L := []) (W := []) (Mem.start w) ?_
  refine jc_seq (jc_region (qh [0] (qe (jx_then (jc_seq (jc_region (qh [0,0,0,0,0] (qe (jx_then (jc_seq (jc_seq (jc_region (qh [0,0] (qe (jx_then (qi h (fun h => ?_) (fun h => ?_)))))))))))))))))
  ·refine jc_seq (jc_region (qh [0] (qe (jx_then (jc_ret (jx_thenr ?_))))))
   obtain rfl := Option.some.inj h
   exact qr [] (fun w hm => ⟨rfl, hm.pk []⟩)
  ·refine jc_skip (jx_then (jc_seq (jc_region (qh [0,0] (qe (jx_then (jc_ret ?_)))))))
   obtain rfl := Option.some.inj h
   exact qr [] (fun w hm => ⟨rfl, hm.pk []⟩)
/-! ### laws.szFrame -/
def laws_szFrame (a0 : GFrame) (left1 : Int) : Option (Int) := (laws_szHammerS a0.fHammers left1).bind fun t_1 => (if (decide (t_1 < 0)) = true then some (-1) else some t_1)
theorem laws_szFrame.calls (a0 : GFrame) (left1 : Int) (w : World) (r : Int) {C_a : Option Addr} {C_an : Nat} (C_c : Nat) (C_h : Rw w C_a 2 encGHammer a0.fHammers) (C_hn : a0.fHammers.length = C_an) (h : laws_szFrame a0 left1 = some r) :
    Calls Try.prog 10 #[(.agg #[(.int .i16 a0.fSteps), (.slice C_a C_an C_c)]), (.int .i64 left1)] w fun e w' => ∃ v, e = .returned v ∧ (v = (.int .i64 r) ∧ Mem w [] [] w') := by
  subst C_hn
  rw [laws_szFrame] at h
  refine enter (args := [(.agg #[(.int .i16 a0.fSteps), (.slice C_a a0.fHammers.length C_c)]), (.int .i64 left1)]) Try.func10 rfl Try.ntmps10 (by kernel_rfl) (L := []) (W := []) (Mem.start w) ?_
  refine jc_seq (jc_region (tO (qa 0 (fun b_1 => jkO (qh [0] (qe (jx_then (jc_seq (jc_region (qh [0,0,0] ?_))))))))))
  obtain ⟨t_1, ht_2, h⟩ := bd h
  refine tO (pc 0 (fun w hm => laws_szHammerS.calls a0.fHammers left1 w _ C_c (hm.xr C_h) rfl ht_2) ?_)
  rintro w v w' hm ⟨rfl, hm'⟩
  refine ⟨_, hm.app hm', jkO ?_⟩
  clear hm hm'
  refine qh [0] (qe (jx_then (jc_seq (jc_seq (jc_region (qh [0,0] (qe (jx_then (qi h (fun h => ?_) (fun h => ?_))))))))))
  ·refine jc_seq (jc_region (qh [0] (qe (jx_then (jc_ret (jx_thenr ?_))))))
   obtain rfl := Option.some.inj h
   exact qr [] (fun w hm => ⟨rfl, hm.pk []⟩)
  ·refine jc_skip (jx_then (jc_seq (jc_region (qh [0,0] (qe (jx_then (jc_ret ?_)))))))
   obtain rfl := Option.some.inj h
   exact qr [] (fun w hm => ⟨rfl, hm.pk []⟩)
/-! ### laws.szDrumS -/
def laws_szDrumS (a0 : List (Arr 96 Int)) (left1 : Int) : Option (Int) := (if (decide ((w64 (left1 - (a0.length : Int))) < 0)) = true then some (-1) else some (w64 (left1 - (a0.length : Int))))
theorem laws_szDrumS.calls (a0 : List (Arr 96 Int)) (left1 : Int) (w : World) (r : Int) {A_a : Option Addr} {A_an : Nat} (A_c : Nat) (A_h : Rw w A_a 96 encA96U32 a0) (A_hn : a0.length = A_an) (h : laws_szDrumS a0 left1 = some r) :
    Calls Try.prog 11 #[(.slice A_a A_an A_c), (.int .i64 left1)] w fun e w' => ∃ v, e = .returned v ∧ (v = (.int .i64 r) ∧ Mem w [] [] w') := by
  subst A_hn
  rw [laws_szDrumS] at h
  refine enter (args := [(.slice A_a a0.length A_c), (.int .i64 left1)]) Try.func11 rfl Try.ntmps11 (by kernel_rfl) (L := []) (W := []) (Mem.start w) ?_
  refine jc_seq (jc_region (qh [0] (qe (jx_then (jc_seq (jc_region (qh [0,0,0,0,0] (qe (jx_then (jc_seq (jc_seq (jc_region (qh [0,0] (qe (jx_then (qi h (fun h => ?_) (fun h => ?_)))))))))))))))))
  ·refine jc_seq (jc_region (qh [0] (qe (jx_then (jc_ret (jx_thenr ?_))))))
   obtain rfl := Option.some.inj h
   exact qr [] (fun w hm => ⟨rfl, hm.pk []⟩)
  ·refine jc_skip (jx_then (jc_seq (jc_region (qh [0,0] (qe (jx_then (jc_ret ?_)))))))
   obtain rfl := Option.some.inj h
   exact qr [] (fun w hm => ⟨rfl, hm.pk []⟩)
/-! ### laws.toHammer -/
def laws_toHammer (a0 : GHammer) : Option (GHammer) := some a0
theorem laws_toHammer.calls (a0 : GHammer) (w : World) (r : GHammer) (h : laws_toHammer a0 = some r) :
    Calls Try.prog 104 #[(.agg #[(.int .i8 a0.fPitch), (.int .i8 a0.fReady)])] w fun e w' => ∃ v, e = .returned v ∧ (v = .agg #[(.int .i8 r.fPitch), (.int .i8 r.fReady)] ∧ Mem w [] [] w') := by
  rw [laws_toHammer] at h
  refine enter (args := [(.agg #[(.int .i8 a0.fPitch), (.int .i8 a0.fReady)])]) Try.func104 rfl Try.ntmps104 (by kernel_rfl) (L := []) (W := []) (Mem.start w) ?_
  refine jc_seq (jc_region (tO (qa 0 (fun b_1 => jkO (tO (qa 0 (fun b_2 => jkO (qe (jx_then (jc_seq (jc_region (tO (qa 0 (fun b_3 => jkO (qe (jx_then (jc_seq (jc_region (qh [0,0,0] (tO (qs 0 [2] (jkO (qe (jx_then (jc_seq (jc_region (qh [0,0,0] (tO (qs 0 [2] (jkO (qe (jx_then (jc_seq (jc_region (qh [2] (tO (qs 0 [1] (jkO (qe (jx_then (jc_ret ?_)))))))))))))))))))))))))))))))))))))))))
  obtain rfl := Option.some.inj h
  exact qr [1] (fun w hm => ⟨rfl, hm.pk []⟩)
/-! ### laws.toHammerS -/
def laws_toHammerS.k_2 (xs_1 : List GHammer) : Option ((List GHammer)) := some xs_1
def laws_toHammerS.l_5 (a0 : List GHammer) : ((List GHammer) × Int) → Option (((List GHammer) × Int) ⊕ ((List GHammer)))
  | (xs_3, i_4) => (if (decide (i_4 < (a0.length : Int))) = true then (ix a0 i_4).bind fun x_7 => (laws_toHammer x_7).bind fun t_8 => (ix xs_3 i_4).bind fun x_9 => some (.inl ((xs_3.set i_4.toNat t_8), (w64 (i_4 + 1)))) else some (.inr xs_3))
def laws_toHammerS (a0 : List GHammer) : Option ((List GHammer)) := (if 0 ≤ (a0.length : Int) ∧ (a0.length : Int) ≤ 70368744177664 then (loop (laws_toHammerS.l_5 a0) ((List.replicate (a0.length : Int).toNat (⟨0, 0⟩ : GHammer)), 0)).bind fun t_6 => laws_toHammerS.k_2 t_6 else none)
theorem laws_toHammerS.calls (a0 : List GHammer) (w : World) (r : (List GHammer)) {A_a : Option Addr} {A_an : Nat} (A_c : Nat) (A_h : Rw w A_a 2 encGHammer a0) (A_hn : a0.length = A_an) (h : laws_toHammerS a0 = some r) :
    Calls Try.prog 52 #[(.slice A_a A_an A_c)] w fun e w' => ∃ v, e = .returned v ∧ (∃ (o0 : Option Nat) (c0 : Nat) (s0 : List Value) (n0 : Nat), r.length = n0 ∧ (o0 ≠ none → n0 ≤ c0 ∧ s0.length = (c0 - n0) * 2) ∧ (o0 = none → r = [] ∧ c0 = 0) ∧ v = .slice (o0.map fun b => ⟨b, 0, none⟩) n0 c0 ∧ Mem w [] [⟨o0, 128, row encGHammer r s0⟩] w') := by
  subst A_hn
  rw [laws_toHammerS] at h
  refine enter (args := [(.slice A_a a0.length A_c)]) Try.func52 rfl Try.ntmps52 (by kernel_rfl) (L := []) (W := []) (Mem.start w) ?_
  refine jc_seq (jc_region (qh [0] (qe (jx_then (jc_seq (jc_region (qh [0,0] ?_)))))))
  obtain ⟨hg_88, h⟩ := gd h
  refine tO (p_mk 0 128 (a0.length : Int) 2 2 encGHammer (⟨0, 0⟩ : GHammer) (by kernel_rfl) (by kernel_rfl) hg_88.1 (by omega) (by kernel_rfl) (fun b_1 => jkO (qh [0] (qe (jx_then (jc_seq (jc_seq (jc_region (qh [0] (qe (jx_then (jc_meet (fun (j : (List GHammer)) => match j with | xs_1 => laws_toHammerS.k_2 xs_1 = some r ∧ (xs_1.length = (a0.length : Int).toNat)) (fun (j : (List GHammer)) => match j with | xs_1 => [(2, [], (.slice none 0 0)), (3, [], (.slice (some ⟨b_1, 0, none⟩) ((a0.length : Int).toNat) ((a0.length : Int).toNat)))]) (fun (j : (List GHammer)) => match j with | xs_1 => [⟨(some b_1), 128, row encGHammer xs_1 []⟩]) ?_ ?_))))))))))))
  ·refine jc_block ?_
   obtain ⟨t_6, ht_87, hr_79⟩ := bd h
   refine jc_loop (fun (s : (List GHammer) × Int) (x : Unit) => match s, x with | ⟨xs_3, i_4⟩, _ => (xs_3.length = (a0.length : Int).toNat)) (fun (s : (List GHammer) × Int) (x : Unit) => match s, x with | ⟨xs_3, i_4⟩, _ => [(0, [], (.slice A_a a0.length A_c)), (2, [], (.slice none 0 0)), (3, [], (.slice (some ⟨b_1, 0, none⟩) ((a0.length : Int).toNat) ((a0.length : Int).toNat))), (4, [], (.int .i64 i_4))]) (fun (s : (List GHammer) × Int) (x : Unit) => match s, x with | ⟨xs_3, i_4⟩, _ => [⟨(some b_1), 128, row encGHammer xs_3 []⟩]) ht_87 () List.length_replicate (by kernel_rfl) [0] (by kernel_rfl) (by kernel_rfl) ?_
   rintro ⟨xs_3, i_4⟩ _ y_80 hn_78 h
   rw [laws_toHammerS.l_5] at h
   refine jc_seq (jc_seq (jc_region (qh [0,0,0,0] (qe (jx_then (qi h (fun h => ?_) (fun h => ?_)))))))
   ·refine jc_skip (jx_then (jc_seq (jc_block (jc_region (qh [0,0,0,0] ?_)))))
    obtain ⟨x_7, hx_83, h⟩ := bd h
    refine tO (qx 0 A_a 2 hx_83 rfl (A_h.sp hx_83) (jkO (tO (ql 0 true (fun w hm => ((hm.xr A_h).at hx_83)) (jkO ?_)))))
    obtain ⟨t_8, ht_84, h⟩ := bd h
    refine tO (pc 0 (fun w hm => laws_toHammer.calls x_7 w _ ht_84) ?_)
    rintro w v w' hm ⟨rfl, hm'⟩
    refine ⟨_, hm.app hm', jkO ?_⟩
    clear hm hm'
    obtain ⟨x_9, hx_85, h⟩ := bd h
    exact tO (qx 0 (some ⟨b_1, 0, none⟩) 2 hx_85 hn_78 rfl (jkO (tO (p_str 0 0 b_1 128 encGHammer xs_3 [] i_4 t_8 2 0 [(.int .i8 t_8.fPitch), (.int .i8 t_8.fReady)] (by kernel_rfl) (by kernel_rfl) (by kernel_rfl) encGHammer_len hx_85 (by kernel_rfl) (by kernel_rfl) (jkO (qe (jx_inn (jx_then (jc_region (qh [0,0,0] (qe (qb ((xs_3.set i_4.toNat t_8), (w64 (i_4 + 1))) () h (List.length_set.trans hn_78) [0]))))))))))))
   ·refine jc_exit (jx_thenx (jx_leave xs_3 (Option.some.inj h).symm (fun e_86 => ?_)))
    subst e_86
    exact jx_ine (qm xs_3 ⟨hr_79, hn_78⟩ [0])
  ·rintro xs_1 ⟨h, hn_66⟩
   replace h : laws_toHammerS.k_2 xs_1 = some r := h
   rw [laws_toHammerS.k_2] at h
   refine jx_then (jc_seq (jc_region (qh [0,0] (qe (jx_then (jc_ret ?_))))))
   obtain rfl := Option.some.inj h
   exact qr [] (fun w hm => ⟨(some b_1), ((a0.length : Int).toNat), [], ((a0.length : Int).toNat), hn_66, (fun _ => ⟨Nat.le_refl _, by simp⟩), (fun e => nomatch e), rfl, hm.pk [0]⟩)
/-! ### laws.toFrame -/
def laws_toFrame (a0 : GFrame) : Option (GFrame) := (laws_toHammerS a0.fHammers).bind fun t_1 => some (⟨a0.fSteps, t_1⟩ : GFrame)
theorem laws_toFrame.calls (a0 : GFrame) (w : World) (r : GFrame) {C_a : Option Addr} {C_an : Nat} (C_c : Nat) (C_h : Rw w C_a 2 encGHammer a0.fHammers) (C_hn : a0.fHammers.length = C_an) (h : laws_toFrame a0 = some r) :
    Calls Try.prog 13 #[(.agg #[(.int .i16 a0.fSteps), (.slice C_a C_an C_c)])] w fun e w' => ∃ v, e = .returned v ∧ (∃ (o0 : Option Nat) (c0 : Nat) (s0 : List Value) (n0 : Nat), r.fHammers.length = n0 ∧ (o0 ≠ none → n0 ≤ c0 ∧ s0.length = (c0 - n0) * 2) ∧ (o0 = none → r.fHammers = [] ∧ c0 = 0) ∧ v = .agg #[(.int .i16 r.fSteps), .slice (o0.map fun b => ⟨b, 0, none⟩) n0 c0] ∧ Mem w [] [⟨o0, 128, row encGHammer r.fHammers s0⟩] w') := by
  subst C_hn
  rw [laws_toFrame] at h
  refine enter (args := [(.agg #[(.int .i16 a0.fSteps), (.slice C_a a0.fHammers.length C_c)])]) Try.func13 rfl Try.ntmps13 (by kernel_rfl) (L := []) (W := []) (Mem.start w) ?_
  refine jc_seq (jc_region (tO (qa 0 (fun b_1 => jkO (tO (qa 0 (fun b_2 => jkO (qe (jx_then (jc_seq (jc_region (tO (qa 0 (fun b_3 => jkO (qe (jx_then (jc_seq (jc_region (qh [0,0,0] (tO (qs 0 [2] (jkO (qe (jx_then (jc_seq (jc_region (qh [0,0] ?_)))))))))))))))))))))))))))
  obtain ⟨t_1, ht_4, h⟩ := bd h
  refine tO (pc 0 (fun w hm => laws_toHammerS.calls a0.fHammers w _ C_c (hm.xr C_h) rfl ht_4) ?_)
  rintro w v w' hm ⟨o_5, cap_6, sp_7, _, rfl, hs_8, ho_9, rfl, hm'⟩
  refine ⟨_, hm.app hm', jkO ?_⟩
  clear hm hm'
  refine qh [0] (tO (qs 0 [2] (jkO (qe (jx_then (jc_seq (jc_region (qh [2] (tO (qs 0 [1] (jkO (qe (jx_then (jc_ret ?_))))))))))))))
  obtain rfl := Option.some.inj h
  exact qr [1] (fun w hm => ⟨o_5, cap_6, sp_7, t_1.length, rfl, hs_8, ho_9, rfl, hm.pk [3]⟩)
/-! ### laws.toDrum -/
def laws_toDrum.k_2 (a_1 : Arr 96 Int) : Option ((Arr 96 Int)) := some a_1
def laws_toDrum.l_5 (a0 : Arr 96 Int) : ((Arr 96 Int) × Int) → Option (((Arr 96 Int) × Int) ⊕ ((Arr 96 Int)))
  | (a_3, i_4) => (if (decide (i_4 < 96)) = true then (ix a0.1 i_4).bind fun x_7 => (ix a_3.1 i_4).bind fun x_8 => some (.inl ((Arr.set a_3 i_4 x_7), (w64 (i_4 + 1)))) else some (.inr a_3))
def laws_toDrum (a0 : Arr 96 Int) : Option ((Arr 96 Int)) := (loop (laws_toDrum.l_5 a0) ((Arr.rep 96 0), 0)).bind fun t_6 => laws_toDrum.k_2 t_6
theorem laws_toDrum.calls (a0 : Arr 96 Int) (w : World) (r : (Arr 96 Int)) (h : laws_toDrum a0 = some r) :
    Calls Try.prog 53 #[(.agg (row encU32 a0.1 []).toArray)] w fun e w' => ∃ v, e = .returned v ∧ (v = (.agg (row encU32 r.1 []).toArray) ∧ Mem w [] [] w') := by
  rw [laws_toDrum] at h
  refine enter (args := [(.agg (row encU32 a0.1 []).toArray)]) Try.func53 rfl Try.ntmps53 (by kernel_rfl) (L := []) (W := []) (Mem.start w) ?_
  refine jc_seq (jc_region (tO (qa 0 (fun b_1 => jkO (tO (qa 0 (fun b_2 => jkO (qe (jx_then (jc_seq (jc_region (tO (qa 0 (fun b_3 => jkO (qe (jx_then (jc_seq (jc_seq (jc_region (qh [0] (qe (jx_then (jc_meet (fun (j : (Arr 96 Int)) => match j with | a_1 => laws_toDrum.k_2 a_1 = some r) (fun (j : (Arr 96 Int)) => match j with | a_1 => [(2, [], (.pointer (some ⟨b_2, 0, none⟩))), (3, [], (.pointer (some ⟨b_3, 0, none⟩)))]) (fun (j : (Arr 96 Int)) => match j with | a_1 => [⟨(some b_1), 88, row encU32 a0.1 []⟩, ⟨(some b_2), 89, row encU32 ((Arr.rep 96 0).1) []⟩, ⟨(some b_3), 89, row encU32 a_1.1 []⟩]) ?_ ?_)))))))))))))))))))))))
  ·refine jc_block ?_
   obtain ⟨t_6, ht_67, hr_60⟩ := bd h
   refine jc_loop (fun (s : (Arr 96 Int) × Int) (x : Unit) => match s, x with | ⟨a_3, i_4⟩, _ => True) (fun (s : (Arr 96 Int) × Int) (x : Unit) => match s, x with | ⟨a_3, i_4⟩, _ => [(1, [], (.pointer (some ⟨b_1, 0, none⟩))), (2, [], (.pointer (some ⟨b_2, 0, none⟩))), (3, [], (.pointer (some ⟨b_3, 0, none⟩))), (4, [], (.int .i64 i_4))]) (fun (s : (Arr 96 Int) × Int) (x : Unit) => match s, x with | ⟨a_3, i_4⟩, _ => [⟨(some b_1), 88, row encU32 a0.1 []⟩, ⟨(some b_2), 89, row encU32 ((Arr.rep 96 0).1) []⟩, ⟨(some b_3), 89, row encU32 a_3.1 []⟩]) ht_67 () trivial (by kernel_rfl) [0, 1, 2] (by kernel_rfl) (by kernel_rfl) ?_
   rintro ⟨a_3, i_4⟩ _ y_61 _ h
   rw [laws_toDrum.l_5] at h
   refine jc_seq (jc_seq (jc_region (qh [0,0] (qe (jx_then (qi h (fun h => ?_) (fun h => ?_)))))))
   ·refine jc_skip (jx_then (jc_seq (jc_block (jc_region (qh [0,0] ?_)))))
    obtain ⟨x_7, hx_64, h⟩ := bd h
    refine tO (qx 0 (some ⟨b_1, 0, none⟩) 1 hx_64 a0.2 rfl (jkO (tO (ql 0 false (fun w hm => ((hm.ow 0 (some b_1) 88 a0.1 [] (fun e => nomatch e) encU32_len).at hx_64)) (jkO ?_)))))
    obtain ⟨x_8, hx_65, h⟩ := bd h
    exact tO (qx 0 (some ⟨b_3, 0, none⟩) 1 hx_65 a_3.2 rfl (jkO (tO (p_str 0 2 b_3 89 encU32 a_3.1 [] i_4 x_7 1 0 [(.int .u32 x_7)] (by kernel_rfl) (by kernel_rfl) (by kernel_rfl) encU32_len hx_65 (by kernel_rfl) (by kernel_rfl) (jkO (qe (jx_inn (jx_then (jc_region (qh [0,0,0] (qe (qb ((Arr.set a_3 i_4 x_7), (w64 (i_4 + 1))) () h trivial [0, 1, 2]))))))))))))
   ·refine jc_exit (jx_thenx (jx_leave a_3 (Option.some.inj h).symm (fun e_66 => ?_)))
    subst e_66
    exact jx_ine (qm a_3 hr_60 [0, 1, 2])
  ·rintro a_1 h
   replace h : laws_toDrum.k_2 a_1 = some r := h
   rw [laws_toDrum.k_2] at h
   refine jx_then (jc_seq (jc_region (tO (p_ldA 0 2 b_3 96 1 89 encU32 a_1 (by kernel_rfl) (by kernel_rfl) (by kernel_rfl) encU32_len (by kernel_rfl) (jkO (tO (p_sA 0 1 b_2 96 1 89 encU32 (Arr.rep 96 0) a_1 (by kernel_rfl) (by kernel_rfl) (by kernel_rfl) encU32_len encU32_cell (by kernel_rfl) (jkO (qe (jx_then (jc_ret ?_)))))))))))
   obtain rfl := Option.some.inj h
   exact jx_retV rfl (rq_arr (b := b_2) (T' := 89) (hh := 1) (mm := 1) encU32 a_1 (by kernel_rfl) (by kernel_rfl) encU32_len (by kernel_rfl) rq_nil) (fun w hm => ⟨rfl, hm.pk []⟩)
/-! ### laws.toDrumS -/
def laws_toDrumS.k_2 (xs_1 : List (Arr 96 Int)) : Option ((List (Arr 96 Int))) := some xs_1
def laws_toDrumS.l_5 (a0 : List (Arr 96 Int)) : ((List (Arr 96 Int)) × Int) → Option (((List (Arr 96 Int)) × Int) ⊕ ((List (Arr 96 Int))))
  | (xs_3, i_4) => (if (decide (i_4 < (a0.length : Int))) = true then (ix a0 i_4).bind fun x_7 => (laws_toDrum x_7).bind fun t_8 => (ix xs_3 i_4).bind fun x_9 => some (.inl ((xs_3.set i_4.toNat t_8), (w64 (i_4 + 1)))) else some (.inr xs_3))
def laws_toDrumS (a0 : List (Arr 96 Int)) : Option ((List (Arr 96 Int))) := (if 0 ≤ (a0.length : Int) ∧ (a0.length : Int) ≤ 366503875925 then (loop (laws_toDrumS.l_5 a0) ((List.replicate (a0.length : Int).toNat (Arr.rep 96 0)), 0)).bind fun t_6 => laws_toDrumS.k_2 t_6 else none)
theorem laws_toDrumS.calls (a0 : List (Arr 96 Int)) (w : World) (r : (List (Arr 96 Int))) {A_a : Option Addr} {A_an : Nat} (A_c : Nat) (A_h : Rw w A_a 96 encA96U32 a0) (A_hn : a0.length = A_an) (h : laws_toDrumS a0 = some r) :
    Calls Try.prog 14 #[(.slice A_a A_an A_c)] w fun e w' => ∃ v, e = .returned v ∧ (∃ (o0 : Option Nat) (c0 : Nat) (s0 : List Value) (n0 : Nat), r.length = n0 ∧ (o0 ≠ none → n0 ≤ c0 ∧ s0.length = (c0 - n0) * 96) ∧ (o0 = none → r = [] ∧ c0 = 0) ∧ v = .slice (o0.map fun b => ⟨b, 0, none⟩) n0 c0 ∧ Mem w [] [⟨o0, 89, row encA96U32 r s0⟩] w') := by
  subst A_hn
  rw [laws_toDrumS] at h
  refine enter (args := [(.slice A_a a0.length A_c)]) Try.func14 rfl Try.ntmps14 (by kernel_rfl) (L := []) (W := []) (Mem.start w) ?_
  refine jc_seq (jc_region (qh [0] (qe (jx_then (jc_seq (jc_region (qh [0,0] ?_)))))))
  obtain ⟨hg_88, h⟩ := gd h
  refine tO (p_mk 0 89 (a0.length : Int) 96 384 encA96U32 (Arr.rep 96 0) (by kernel_rfl) (by kernel_rfl) hg_88.1 (by omega) (by kernel_rfl) (fun b_1 => jkO (qh [0] (qe (jx_then (jc_seq (jc_seq (jc_region (qh [0] (qe (jx_then (jc_meet (fun (j : (List (Arr 96 Int))) => match j with | xs_1 => laws_toDrumS.k_2 xs_1 = some r ∧ (xs_1.length = (a0.length : Int).toNat)) (fun (j : (List (Arr 96 Int))) => match j with | xs_1 => [(2, [], (.slice none 0 0)), (3, [], (.slice (some ⟨b_1, 0, none⟩) ((a0.length : Int).toNat) ((a0.length : Int).toNat)))]) (fun (j : (List (Arr 96 Int))) => match j with | xs_1 => [⟨(some b_1), 89, row encA96U32 xs_1 []⟩]) ?_ ?_))))))))))))
  ·refine jc_block ?_
   obtain ⟨t_6, ht_87, hr_79⟩ := bd h
   refine jc_loop (fun (s : (List (Arr 96 Int)) × Int) (x : Unit) => match s, x with | ⟨xs_3, i_4⟩, _ => (xs_3.length = (a0.length : Int).toNat)) (fun (s : (List (Arr 96 Int)) × Int) (x : Unit) => match s, x with | ⟨xs_3, i_4⟩, _ => [(0, [], (.slice A_a a0.length A_c)), (2, [], (.slice none 0 0)), (3, [], (.slice (some ⟨b_1, 0, none⟩) ((a0.length : Int).toNat) ((a0.length : Int).toNat))), (4, [], (.int .i64 i_4))]) (fun (s : (List (Arr 96 Int)) × Int) (x : Unit) => match s, x with | ⟨xs_3, i_4⟩, _ => [⟨(some b_1), 89, row encA96U32 xs_3 []⟩]) ht_87 () List.length_replicate (by kernel_rfl) [0] (by kernel_rfl) (by kernel_rfl) ?_
   rintro ⟨xs_3, i_4⟩ _ y_80 hn_78 h
   rw [laws_toDrumS.l_5] at h
   refine jc_seq (jc_seq (jc_region (qh [0,0,0,0] (qe (jx_then (qi h (fun h => ?_) (fun h => ?_)))))))
   ·refine jc_skip (jx_then (jc_seq (jc_block (jc_region (qh [0,0,0,0] ?_)))))
    obtain ⟨x_7, hx_83, h⟩ := bd h
    refine tO (qx 0 A_a 96 hx_83 rfl (A_h.sp hx_83) (jkO (tO (p_ldx 0 (aB A_a) (aO A_a + i_4.toNat * 96) (encA96U32 x_7) 96 (by kernel_rfl) (by kernel_rfl) (encA96U32_len x_7) (fun w hm => ((hm.xr A_h).at hx_83)) (jkO ?_)))))
    obtain ⟨t_8, ht_84, h⟩ := bd h
    refine tO (pc 0 (fun w hm => laws_toDrum.calls x_7 w _ ht_84) ?_)
    rintro w v w' hm ⟨rfl, hm'⟩
    refine ⟨_, hm.app hm', jkO ?_⟩
    clear hm hm'
    obtain ⟨x_9, hx_85, h⟩ := bd h
    exact tO (qx 0 (some ⟨b_1, 0, none⟩) 96 hx_85 hn_78 rfl (jkO (tO (p_strW 0 0 b_1 89 encA96U32 xs_3 [] i_4 t_8 96 (by kernel_rfl) (by kernel_rfl) (by kernel_rfl) encA96U32_len encA96U32_cell hx_85 (jkO (qe (jx_inn (jx_then (jc_region (qh [0,0,0] (qe (qb ((xs_3.set i_4.toNat t_8), (w64 (i_4 + 1))) () h (List.length_set.trans hn_78) [0]))))))))))))
   ·refine jc_exit (jx_thenx (jx_leave xs_3 (Option.some.inj h).symm (fun e_86 => ?_)))
    subst e_86
    exact jx_ine (qm xs_3 ⟨hr_79, hn_78⟩ [0])
  ·rintro xs_1 ⟨h, hn_66⟩
   replace h : laws_toDrumS.k_2 xs_1 = some r := h
   rw [laws_toDrumS.k_2] at h
   refine jx_then (jc_seq (jc_region (qh [0,0] (qe (jx_then (jc_ret ?_))))))
   obtain rfl := Option.some.inj h
   exact qr [] (fun w hm => ⟨(some b_1), ((a0.length : Int).toNat), [], ((a0.length : Int).toNat), hn_66, (fun _ => ⟨Nat.le_refl _, by simp⟩), (fun e => nomatch e), rfl, hm.pk [0]⟩)
/-! ### spec.l00In -/
def spec_l00In (n0 : Int) (low1 : Int) (high2 : Int) : Option (Bool) := some ((decide (n0 ≥ low1)) && (decide (n0 ≤ high2)))
theorem spec_l00In.calls (n0 : Int) (low1 : Int) (high2 : Int) (w : World) (r : Bool) (h : spec_l00In n0 low1 high2 = some r) :
    Calls Try.prog 63 #[(.int .i64 n0), (.int .i64 low1), (.int .i64 high2)] w fun e w' => ∃ v, e = .returned v ∧ (v = (.bool r) ∧ Mem w [] [] w') := by
  rw [spec_l00In] at h
  refine enter (args := [(.int .i64 n0), (.int .i64 low1), (.int .i64 high2)]) Try.func63 rfl Try.ntmps63 (by kernel_rfl) (L := []) (W := []) (Mem.start w) ?_
  refine jc_seq (jc_region (qh [0] (qe (jx_then (jc_seq (jc_region (qf [(0, 0), (0, 0), (0, 0), (0, 0), (0, 1), (0, 1), (0, 1), (0, 0), (0, 0)] (qe (jx_then (jc_ret ?_))))))))))
  obtain rfl := Option.some.inj h
  exact qr [] (fun w hm => ⟨rfl, hm.pk []⟩)
/-! ### spec.l00Min -/
def spec_l00Min (a0 : Int) (b1 : Int) : Option (Int) := (if (decide (a0 < b1)) = true then some a0 else some b1)
theorem spec_l00Min.calls (a0 : Int) (b1 : Int) (w : World) (r : Int) (h : spec_l00Min a0 b1 = some r) :
    Calls Try.prog 146 #[(.int .i64 a0), (.int .i64 b1)] w fun e w' => ∃ v, e = .returned v ∧ (v = (.int .i64 r) ∧ Mem w [] [] w') := by
  rw [spec_l00Min] at h
  refine enter (args := [(.int .i64 a0), (.int .i64 b1)]) Try.func146 rfl Try.ntmps146 (by kernel_rfl) (L := []) (W := []) (Mem.start w) ?_
  refine jc_seq (jc_region (qh [0] (qe (jx_then (jc_seq (jc_seq (jc_region (qh [0,0,0] (qe (jx_then (qi h (fun h => ?_) (fun h => ?_))))))))))))
  ·refine jc_seq (jc_region (qh [0,0] (qe (jx_then (jc_ret (jx_thenr ?_))))))
   obtain rfl := Option.some.inj h
   exact qr [] (fun w hm => ⟨rfl, hm.pk []⟩)
  ·refine jc_skip (jx_then (jc_seq (jc_region (qh [0,0] (qe (jx_then (jc_ret ?_)))))))
   obtain rfl := Option.some.inj h
   exact qr [] (fun w hm => ⟨rfl, hm.pk []⟩)
/-! ### spec.l02Frame -/
def spec_l02Frame.k_3 : Option (Bool) := some true
def spec_l02Frame.k_9 (i_4 : Int) (q_8 : Bool) : Option ((Int) ⊕ (Bool ⊕ Unit)) := (if q_8 = true then some (.inr (.inl false)) else some (.inl (w64 (i_4 + 1))))
def spec_l02Frame.l_5 (f0 : GFrame) : Int → Option ((Int) ⊕ (Bool ⊕ Unit))
  | i_4 => (if (decide (i_4 < (f0.fHammers.length : Int))) = true then (ix f0.fHammers i_4).bind fun x_7 => (spec_l00In (w64 x_7.fPitch) 0 47).bind fun t_10 => (if (!t_10) = true then spec_l02Frame.k_9 i_4 true else (spec_l00Min 20 (w64 f0.fSteps)).bind fun t_11 => (spec_l00In (w64 x_7.fReady) 1 t_11).bind fun t_12 => spec_l02Frame.k_9 i_4 (!t_12)) else some (.inr (.inr ())))
def spec_l02Frame.k_2 (f0 : GFrame) (q_1 : Bool) : Option (Bool) := (if q_1 = true then some false else (loop (spec_l02Frame.l_5 f0) 0).bind fun t_6 => match t_6 with | .inl p => some p | .inr p => spec_l02Frame.k_3)
def spec_l02Frame (f0 : GFrame) : Option (Bool) := (spec_l00In (w64 f0.fSteps) 2 96).bind fun t_13 => (if (!t_13) = true then spec_l02Frame.k_2 f0 true else (spec_l00In (f0.fHammers.length : Int) 1 24).bind fun t_14 => spec_l02Frame.k_2 f0 (!t_14))
theorem spec_l02Frame.calls (f0 : GFrame) (w : World) (r : Bool) {C_a : Option Addr} {C_an : Nat} (C_c : Nat) (C_h : Rw w C_a 2 encGHammer f0.fHammers) (C_hn : f0.fHammers.length = C_an) (A_b : Nat) (hm0 : Mem w (bs [some A_b]) [⟨some A_b, 34, [(.int .i16 f0.fSteps), (.slice C_a C_an C_c)]⟩] w) (C_ha : f0.fHammers ≠ [] → aB C_a ∉ bs [some A_b]) (h : spec_l02Frame f0 = some r) :
    Calls Try.prog 110 #[(.pointer (some ⟨A_b, 0, none⟩))] w fun e w' => ∃ v, e = .returned v ∧ (v = (.bool r) ∧ Mem w (bs [some A_b]) [⟨some A_b, 34, [(.int .i16 f0.fSteps), (.slice C_a C_an C_c)]⟩] w') := by
  subst C_hn
  rw [spec_l02Frame] at h
  refine enter (args := [(.pointer (some ⟨A_b, 0, none⟩))]) Try.func110 rfl Try.ntmps110 (by kernel_rfl) (L := [⟨some A_b, 34, [(.int .i16 f0.fSteps), (.slice C_a f0.fHammers.length C_c)]⟩]) (W := bs [some A_b]) hm0 ?_
  refine jc_seq (jc_region (qh [0] (qe (jx_then (jc_seq (jc_seq (jc_meet (fun (j : Bool) => match j with | q_1 => spec_l02Frame.k_2 f0 q_1 = some r) (fun (j : Bool) => match j with | q_1 => [(0, [], (.pointer (some ⟨A_b, 0, none⟩))), (2, [], (.bool false)), (20, [], (.bool q_1))]) (fun (j : Bool) => match j with | q_1 => [⟨some A_b, 34, [(.int .i16 f0.fSteps), (.slice C_a f0.fHammers.length C_c)]⟩]) ?_ ?_)))))))
  ·refine jc_region (qh [0,0,0,0,0] ?_)
   obtain ⟨t_13, ht_100, h⟩ := bd h
   refine tO (pc 0 (fun w hm => spec_l00In.calls (w64 f0.fSteps) 2 96 w _ ht_100) ?_)
   rintro w v w' hm ⟨rfl, hm'⟩
   refine ⟨_, hm.app hm', jkO ?_⟩
   clear hm hm'
   refine qf [(0, 0), (0, 0), (0, 1), (0, 1), (0, 1), (0, 1), (0, 1)] (qp 12 h (fun h => ?_) (fun h => ?_))
   ·exact qf [(0, 3), (0, 3), (0, 4)] (qe (qm true h [0]))
   ·obtain ⟨t_14, ht_102, h⟩ := bd h
    refine tO (pc 2 (fun w hm => spec_l00In.calls (f0.fHammers.length : Int) 1 24 w _ ht_102) ?_)
    rintro w v w' hm ⟨rfl, hm'⟩
    refine ⟨_, hm.app hm', jkO ?_⟩
    clear hm hm'
    exact qf [(0, 2), (0, 5)] (qe (qm (!t_14) h [0]))
  ·rintro q_1 h
   replace h : spec_l02Frame.k_2 f0 q_1 = some r := h
   rw [spec_l02Frame.k_2] at h
   refine jx_then (qi h (fun h => ?_) (fun h => ?_))
   ·refine jc_seq (jc_region (qh [0] (qe (jx_then (jc_ret (jx_thenr ?_))))))
    obtain rfl := Option.some.inj h
    exact qr [] (fun w hm => ⟨rfl, hm.pk [0]⟩)
   ·refine jc_skip (jx_then (jc_seq (jc_seq (jc_region (qh [0] (qe (jx_then (jc_meet (fun (_ : Unit) => spec_l02Frame.k_3 = some r) (fun (_ : Unit) => [(2, [], (.bool false))]) (fun (_ : Unit) => [⟨some A_b, 34, [(.int .i16 f0.fSteps), (.slice C_a f0.fHammers.length C_c)]⟩]) ?_ ?_))))))))
    ·refine jc_block ?_
     obtain ⟨t_6, ht_99, hr_82⟩ := bd h
     refine jc_loop (fun (s : Int) (x : Unit) => match s, x with | i_4, _ => True) (fun (s : Int) (x : Unit) => match s, x with | i_4, _ => [(0, [], (.pointer (some ⟨A_b, 0, none⟩))), (2, [], (.bool false)), (3, [], (.int .i64 i_4))]) (fun (s : Int) (x : Unit) => match s, x with | i_4, _ => [⟨some A_b, 34, [(.int .i16 f0.fSteps), (.slice C_a f0.fHammers.length C_c)]⟩]) ht_99 () trivial (by kernel_rfl) [0] (by kernel_rfl) (by kernel_rfl) ?_
     rintro i_4 _ y_83 _ h
     rw [spec_l02Frame.l_5] at h
     refine jc_seq (jc_seq (jc_region (qh [0,0,0,0,0,0,0] (qe (jx_then (qi h (fun h => ?_) (fun h => ?_)))))))
     ·refine jc_skip (jx_then (jc_seq (jc_block (jc_seq (jc_region (qh [0,0,0,0,0] ?_))))))
      obtain ⟨x_7, hx_86, h⟩ := bd h
      refine tO (qx 0 C_a 2 hx_86 rfl (C_h.sp hx_86) (jkO (tO (ql 0 true (fun w hm => ((hm.exRowW C_h C_ha).at hx_86)) (jkO (tO (qa 0 (fun b_87 => jkO (tO (qs 0 [1] (jkO (qe (jx_then (jc_seq (jc_meet (fun (j : Bool) => match j with | q_8 => spec_l02Frame.k_9 i_4 q_8 = some y_83) (fun (j : Bool) => match j with | q_8 => [(0, [], (.pointer (some ⟨A_b, 0, none⟩))), (2, [], (.bool false)), (3, [], (.int .i64 i_4)), (54, [], (.bool q_8))]) (fun (j : Bool) => match j with | q_8 => [⟨some A_b, 34, [(.int .i16 f0.fSteps), (.slice C_a f0.fHammers.length C_c)]⟩, ⟨some b_87, 128, [(.int .i8 x_7.fPitch), (.int .i8 x_7.fReady)]⟩]) ?_ ?_)))))))))))))))
      ·refine qg [⟨some A_b, 34, [(.int .i16 f0.fSteps), (.slice C_a f0.fHammers.length C_c)]⟩, ⟨some b_87, 128, [(.int .i8 x_7.fPitch), (.int .i8 x_7.fReady)]⟩] 18 (qd [⟨0, 0, 0⟩,⟨1, 1, 0⟩,⟨2, 0, 0⟩] 15 [0, 1] ?_)
       obtain ⟨t_10, ht_94, h⟩ := bd h
       refine tD 3 (pc 0 (fun w hm => spec_l00In.calls (w64 x_7.fPitch) 0 47 w _ ht_94) ?_)
       rintro w v w' hm ⟨rfl, hm'⟩
       refine ⟨_, hm.app hm', kD [0, 1] ?_⟩
       clear hm hm'
       refine qd [⟨4, 0, 0⟩,⟨5, 0, 0⟩,⟨6, 0, 1⟩,⟨7, 1, 1⟩,⟨8, 0, 1⟩,⟨9, 0, 1⟩,⟨10, 0, 1⟩,⟨11, 0, 1⟩,⟨12, 0, 1⟩,⟨13, 0, 1⟩] 4 [0, 1] (jd_split 42 (!t_10) (by kernel_rfl) (fun hc_95 => ?_) (fun hc_95 => ?_))
       ·replace h := ifT hc_95 h
        exact qd [⟨14, 0, 3⟩,⟨15, 0, 3⟩,⟨16, 0, 3⟩,⟨17, 0, 4⟩] 0 [0, 1] (qz (qm true h [0, 1]))
       ·replace h := ifF hc_95 h
        obtain ⟨t_11, ht_96, h⟩ := bd h
        refine tD 14 (pc 2 (fun w hm => spec_l00Min.calls 20 (w64 f0.fSteps) w _ ht_96) ?_)
        rintro w v w' hm ⟨rfl, hm'⟩
        refine ⟨_, hm.app hm', kD [0, 1] ?_⟩
        clear hm hm'
        obtain ⟨t_12, ht_97, h⟩ := bd h
        refine tD 15 (pc 2 (fun w hm => spec_l00In.calls (w64 x_7.fReady) 1 t_11 w _ ht_97) ?_)
        rintro w v w' hm ⟨rfl, hm'⟩
        refine ⟨_, hm.app hm', kD [0, 1] ?_⟩
        clear hm hm'
        exact qd [⟨16, 0, 2⟩,⟨17, 0, 5⟩] 0 [0, 1] (qz (qm (!t_12) h [0, 1]))
      ·rintro q_8 h
       replace h : spec_l02Frame.k_9 i_4 q_8 = some y_83 := h
       rw [spec_l02Frame.k_9] at h
       refine jx_then (qi h (fun h => ?_) (fun h => ?_))
       ·refine jc_seq (jc_region (qh [0] (qe (jx_then (jc_ret (jx_inr (jx_thenr (jx_leaver (.inl false) (Option.some.inj h).symm (fun e_93 => ?_)))))))))
        subst e_93
        refine jx_inr (jx_thenr (jx_thenr ?_))
        obtain rfl := Option.some.inj hr_82
        exact qr [] (fun w hm => ⟨rfl, hm.pk [0]⟩)
       ·exact jc_skip (jx_inn (jx_then (jc_region (qh [0,0,0] (qe (qb (w64 (i_4 + 1)) () h trivial [0]))))))
     ·refine jc_exit (jx_thenx (jx_leave (.inr ()) (Option.some.inj h).symm (fun e_98 => ?_)))
      subst e_98
      exact jx_ine (qm () hr_82 [0])
    ·rintro _ h
     replace h : spec_l02Frame.k_3 = some r := h
     rw [spec_l02Frame.k_3] at h
     refine jx_then (jc_seq (jc_region (qh [0] (qe (jx_then (jc_ret ?_))))))
     obtain rfl := Option.some.inj h
     exact qr [] (fun w hm => ⟨rfl, hm.pk [0]⟩)
/-! ### spec.l02Drum -/
def spec_l02Drum.k_1 : Option (Bool) := some true
def spec_l02Drum.k_6 (i_2 : Int) (q_5 : Bool) : Option ((Int) ⊕ (Bool ⊕ Unit)) := (if q_5 = true then some (.inr (.inl false)) else some (.inl (w64 (i_2 + 1))))
def spec_l02Drum.l_3 (f0 : GFrame) (d1 : Arr 96 Int) : Int → Option ((Int) ⊕ (Bool ⊕ Unit))
  | i_2 => (if (decide (i_2 < 96)) = true then (ix d1.1 i_2).bind fun x_7 => (if 0 ≤ (u64 (f0.fHammers.length : Int)) then (if ((bShr .u32 x_7 (u64 (f0.fHammers.length : Int))) != 0) = true then spec_l02Drum.k_6 i_2 true else (if (decide (i_2 ≥ (w64 f0.fSteps))) = true then (ix d1.1 i_2).bind fun x_8 => spec_l02Drum.k_6 i_2 (x_8 != 0) else spec_l02Drum.k_6 i_2 false)) else none) else some (.inr (.inr ())))
def spec_l02Drum (f0 : GFrame) (d1 : Arr 96 Int) : Option (Bool) := (loop (spec_l02Drum.l_3 f0 d1) 0).bind fun t_4 => match t_4 with | .inl p => some p | .inr p => spec_l02Drum.k_1
theorem spec_l02Drum.calls (f0 : GFrame) (d1 : Arr 96 Int) (w : World) (r : Bool) {C_a : Option Addr} {C_an : Nat} (C_c : Nat) (C_h : Rw w C_a 2 encGHammer f0.fHammers) (C_hn : f0.fHammers.length = C_an) {D_b D_q : Nat} (D_h : Rw w (some ⟨D_b, D_q, none⟩) 1 encU32 d1.1) (A_b : Nat) (hm0 : Mem w (bs [some A_b]) [⟨some A_b, 34, [(.int .i16 f0.fSteps), (.slice C_a C_an C_c)]⟩] w) (C_ha : f0.fHammers ≠ [] → aB C_a ∉ bs [some A_b]) (D_ha : d1.1 ≠ [] → aB (some ⟨D_b, D_q, none⟩) ∉ bs [some A_b]) (h : spec_l02Drum f0 d1 = some r) :
    Calls Try.prog 111 #[(.pointer (some ⟨A_b, 0, none⟩)), (.pointer (some ⟨D_b, D_q, none⟩))] w fun e w' => ∃ v, e = .returned v ∧ (v = (.bool r) ∧ Mem w (bs [some A_b]) [⟨some A_b, 34, [(.int .i16 f0.fSteps), (.slice C_a C_an C_c)]⟩] w') := by
  subst C_hn
  rw [spec_l02Drum] at h
  refine enter (args := [(.pointer (some ⟨A_b, 0, none⟩)), (.pointer (some ⟨D_b, D_q, none⟩))]) Try.func111 rfl Try.ntmps111 (by kernel_rfl) (L := [⟨some A_b, 34, [(.int .i16 f0.fSteps), (.slice C_a f0.fHammers.length C_c)]⟩]) (W := bs [some A_b]) hm0 ?_
  refine jc_seq (jc_region (qh [0] (qe (jx_then (jc_seq (jc_seq (jc_region (qh [0] (qe (jx_then (jc_meet (fun (_ : Unit) => spec_l02Drum.k_1 = some r) (fun (_ : Unit) => [(4, [], (.bool false))]) (fun (_ : Unit) => [⟨some A_b, 34, [(.int .i16 f0.fSteps), (.slice C_a f0.fHammers.length C_c)]⟩]) ?_ ?_)))))))))))
  ·refine jc_block ?_
   obtain ⟨t_4, ht_88, hr_71⟩ := bd h
   refine jc_loop (fun (s : Int) (x : Unit) => match s, x with | i_2, _ => True) (fun (s : Int) (x : Unit) => match s, x with | i_2, _ => [(0, [], (.pointer (some ⟨A_b, 0, none⟩))), (1, [], (.pointer (some ⟨D_b, D_q, none⟩))), (4, [], (.bool false)), (5, [], (.int .i64 i_2))]) (fun (s : Int) (x : Unit) => match s, x with | i_2, _ => [⟨some A_b, 34, [(.int .i16 f0.fSteps), (.slice C_a f0.fHammers.length C_c)]⟩]) ht_88 () trivial (by kernel_rfl) [0] (by kernel_rfl) (by kernel_rfl) ?_
   rintro i_2 _ y_72 _ h
   rw [spec_l02Drum.l_3] at h
   refine jc_seq (jc_seq (jc_region (qh [0,0] (qe (jx_then (qi h (fun h => ?_) (fun h => ?_)))))))
   ·refine jc_skip (jx_then (jc_seq (jc_block (jc_seq (jc_meet (fun (j : Bool) => match j with | q_5 => spec_l02Drum.k_6 i_2 q_5 = some y_72) (fun (j : Bool) => match j with | q_5 => [(0, [], (.pointer (some ⟨A_b, 0, none⟩))), (1, [], (.pointer (some ⟨D_b, D_q, none⟩))), (4, [], (.bool false)), (5, [], (.int .i64 i_2)), (39, [], (.bool q_5))]) (fun (j : Bool) => match j with | q_5 => [⟨some A_b, 34, [(.int .i16 f0.fSteps), (.slice C_a f0.fHammers.length C_c)]⟩]) ?_ ?_)))))
    ·refine qg [⟨some A_b, 34, [(.int .i16 f0.fSteps), (.slice C_a f0.fHammers.length C_c)]⟩] 30 (qd [⟨0, 0, 0⟩,⟨1, 0, 0⟩,⟨2, 0, 0⟩,⟨5, 0, 0⟩,⟨6, 0, 0⟩,⟨7, 0, 0⟩,⟨8, 0, 0⟩,⟨9, 0, 0⟩,⟨10, 0, 0⟩] 21 [0] ?_)
     obtain ⟨x_7, hx_82, h⟩ := bd h
     refine qv 3 0 [0] (fun w hm => idx_run (a := (some ⟨D_b, D_q, none⟩)) (len := 96) (s := 1) (j := i_2) (by kernel_rfl) (ix_some hx_82).1 (ltn hx_82 d1.2) (D_h.sp hx_82)) (qv 4 0 [0] (fun w hm => ld_run (b := aB (some ⟨D_b, D_q, none⟩)) (off := (aO (some ⟨D_b, D_q, none⟩) + i_2.toNat * 1)) (s := 1) (agg := false) (vs := (encU32 x_7)) (by kernel_rfl) (by kernel_rfl) (.inr rfl) ((hm.exRowW D_h D_ha).at hx_82)) ?_)
     obtain ⟨hg_83, h⟩ := gd h
     refine tD 11 (p_shr 0 .u32 x_7 .u64 (u64 (f0.fHammers.length : Int)) (by kernel_rfl) (by kernel_rfl) hg_83 (kD [0] (qd [⟨12, 0, 0⟩,⟨13, 0, 0⟩,⟨14, 0, 1⟩,⟨15, 0, 1⟩,⟨16, 0, 1⟩,⟨17, 0, 1⟩,⟨18, 0, 1⟩,⟨19, 0, 1⟩,⟨20, 0, 1⟩] 9 [0] (jd_split 23 ((bShr .u32 x_7 (u64 (f0.fHammers.length : Int))) != 0) (by kernel_rfl) (fun hc_84 => ?_) (fun hc_84 => ?_)))))
     ·replace h := ifT hc_84 h
      exact qd [⟨21, 0, 3⟩,⟨22, 0, 3⟩,⟨23, 0, 3⟩,⟨24, 0, 3⟩,⟨25, 0, 3⟩,⟨26, 0, 3⟩,⟨27, 0, 3⟩,⟨28, 0, 3⟩,⟨29, 0, 4⟩] 0 [0] (qz (qm true h [0]))
     ·replace h := ifF hc_84 h
      refine qd [⟨21, 0, 2⟩,⟨22, 0, 1⟩,⟨23, 0, 1⟩,⟨24, 0, 1⟩] 5 [0] (jd_split 31 (decide (i_2 ≥ (w64 f0.fSteps))) (by kernel_rfl) (fun hc_85 => ?_) (fun hc_85 => ?_))
      ·replace h := ifT hc_85 h
       obtain ⟨x_8, hx_86, h⟩ := bd h
       exact qv 25 2 [0] (fun w hm => idx_run (a := (some ⟨D_b, D_q, none⟩)) (len := 96) (s := 1) (j := i_2) (by kernel_rfl) (ix_some hx_86).1 (ltn hx_86 d1.2) (D_h.sp hx_86)) (qv 26 2 [0] (fun w hm => ld_run (b := aB (some ⟨D_b, D_q, none⟩)) (off := (aO (some ⟨D_b, D_q, none⟩) + i_2.toNat * 1)) (s := 1) (agg := false) (vs := (encU32 x_8)) (by kernel_rfl) (by kernel_rfl) (.inr rfl) ((hm.exRowW D_h D_ha).at hx_86)) (qd [⟨27, 0, 2⟩,⟨28, 0, 4⟩,⟨29, 0, 5⟩] 0 [0] (qz (qm (x_8 != 0) h [0]))))
      ·replace h := ifF hc_85 h
       exact qd [⟨25, 0, 3⟩,⟨26, 0, 3⟩,⟨27, 0, 3⟩,⟨28, 0, 5⟩,⟨29, 0, 5⟩] 0 [0] (qz (qm false h [0]))
    ·rintro q_5 h
     replace h : spec_l02Drum.k_6 i_2 q_5 = some y_72 := h
     rw [spec_l02Drum.k_6] at h
     refine jx_then (qi h (fun h => ?_) (fun h => ?_))
     ·refine jc_seq (jc_region (qh [0] (qe (jx_then (jc_ret (jx_inr (jx_thenr (jx_leaver (.inl false) (Option.some.inj h).symm (fun e_81 => ?_)))))))))
      subst e_81
      refine jx_inr (jx_thenr (jx_thenr ?_))
      obtain rfl := Option.some.inj hr_71
      exact qr [] (fun w hm => ⟨rfl, hm.pk [0]⟩)
     ·exact jc_skip (jx_inn (jx_then (jc_region (qh [0,0,0] (qe (qb (w64 (i_2 + 1)) () h trivial [0]))))))
   ·refine jc_exit (jx_thenx (jx_leave (.inr ()) (Option.some.inj h).symm (fun e_87 => ?_)))
    subst e_87
    exact jx_ine (qm () hr_71 [0])
  ·rintro _ h
   replace h : spec_l02Drum.k_1 = some r := h
   rw [spec_l02Drum.k_1] at h
   refine jx_then (jc_seq (jc_region (qh [0] (qe (jx_then (jc_ret ?_))))))
   obtain rfl := Option.some.inj h
   exact qr [] (fun w hm => ⟨rfl, hm.pk [0]⟩)
/-! ### spec.l05Asked -/
def spec_l05Asked.k_2 (list1 : List (Arr 96 Int)) : Option (Int) := (if (decide ((list1.length : Int) > 8)) = true then some 3 else some 0)
def spec_l05Asked.l_4 (f0 : GFrame) (list1 : List (Arr 96 Int)) : Int → Option ((Int) ⊕ (Int ⊕ Unit))
  | i_3 => (if (decide (i_3 < (list1.length : Int))) = true then (ix list1 i_3).bind fun x_6 => (spec_l02Drum f0 x_6).bind fun t_7 => (if (!t_7) = true then some (.inr (.inl 1)) else some (.inl (w64 (i_3 + 1)))) else some (.inr (.inr ())))
def spec_l05Asked (f0 : GFrame) (list1 : List (Arr 96 Int)) : Option (Int) := (spec_l02Frame f0).bind fun t_1 => (if (!t_1) = true then some 1 else (loop (spec_l05Asked.l_4 f0 list1) 0).bind fun t_5 => match t_5 with | .inl p => some p | .inr p => spec_l05Asked.k_2 list1)
theorem spec_l05Asked.calls (f0 : GFrame) (list1 : List (Arr 96 Int)) (w : World) (r : Int) {C_a : Option Addr} {C_an : Nat} (C_c : Nat) (C_h : Rw w C_a 2 encGHammer f0.fHammers) (C_hn : f0.fHammers.length = C_an) {D_a : Option Addr} {D_an : Nat} (D_c : Nat) (D_h : Rw w D_a 96 encA96U32 list1) (D_hn : list1.length = D_an) (A_b : Nat) (hm0 : Mem w (bs [some A_b]) [⟨some A_b, 34, [(.int .i16 f0.fSteps), (.slice C_a C_an C_c)]⟩] w) (C_ha : f0.fHammers ≠ [] → aB C_a ∉ bs [some A_b]) (D_ha : list1 ≠ [] → aB D_a ∉ bs [some A_b]) (h : spec_l05Asked f0 list1 = some r) :
    Calls Try.prog 62 #[(.pointer (some ⟨A_b, 0, none⟩)), (.slice D_a D_an D_c)] w fun e w' => ∃ v, e = .returned v ∧ (v = (.int .i64 r) ∧ Mem w (bs [some A_b]) [⟨some A_b, 34, [(.int .i16 f0.fSteps), (.slice C_a C_an C_c)]⟩] w') := by
  subst C_hn D_hn
  rw [spec_l05Asked] at h
  refine enter (args := [(.pointer (some ⟨A_b, 0, none⟩)), (.slice D_a list1.length D_c)]) Try.func62 rfl Try.ntmps62 (by kernel_rfl) (L := [⟨some A_b, 34, [(.int .i16 f0.fSteps), (.slice C_a f0.fHammers.length C_c)]⟩]) (W := bs [some A_b]) hm0 ?_
  refine jc_seq (jc_region (qh [0] (qe (jx_then (jc_seq (jc_seq (jc_region (qh [0] ?_))))))))
  obtain ⟨t_1, ht_3, h⟩ := bd h
  refine tO (pc 0 (fun w hm => spec_l02Frame.calls f0 w _ C_c (hm.exRowW C_h C_ha) rfl A_b (hm.pass (N := [⟨some A_b, 34, [(.int .i16 f0.fSteps), (.slice C_a f0.fHammers.length C_c)]⟩]) [0] (by kernel_rfl) (by kernel_rfl)) (hm.exApart (N := [⟨some A_b, 34, [(.int .i16 f0.fSteps), (.slice C_a f0.fHammers.length C_c)]⟩]) C_h C_ha [0] (by kernel_rfl)) ht_3) ?_)
  rintro w v w' hm ⟨rfl, hm'⟩
  refine ⟨_, hm.appW (ps := [(0, ⟨some A_b, 34, [(.int .i16 f0.fSteps), (.slice C_a f0.fHammers.length C_c)]⟩)]) (N := []) hm' (by kernel_rfl) (by kernel_rfl), jkO ?_⟩
  clear hm hm'
  refine qh [0] (qe (jx_then (qi h (fun h => ?_) (fun h => ?_))))
  ·refine jc_seq (jc_region (qh [0] (qe (jx_then (jc_ret (jx_thenr ?_))))))
   obtain rfl := Option.some.inj h
   exact qr [] (fun w hm => ⟨rfl, hm.pk [0]⟩)
  ·refine jc_skip (jx_then (jc_seq (jc_seq (jc_region (qh [0] (qe (jx_then (jc_meet (fun (_ : Unit) => spec_l05Asked.k_2 list1 = some r) (fun (_ : Unit) => [(1, [], (.slice D_a list1.length D_c)), (4, [], (.int .i64 0))]) (fun (_ : Unit) => [⟨some A_b, 34, [(.int .i16 f0.fSteps), (.slice C_a f0.fHammers.length C_c)]⟩]) ?_ ?_))))))))
   ·refine jc_block ?_
    obtain ⟨t_5, ht_85, hr_76⟩ := bd h
    refine jc_loop (fun (s : Int) (x : Unit) => match s, x with | i_3, _ => True) (fun (s : Int) (x : Unit) => match s, x with | i_3, _ => [(0, [], (.pointer (some ⟨A_b, 0, none⟩))), (1, [], (.slice D_a list1.length D_c)), (4, [], (.int .i64 0)), (5, [], (.int .i64 i_3))]) (fun (s : Int) (x : Unit) => match s, x with | i_3, _ => [⟨some A_b, 34, [(.int .i16 f0.fSteps), (.slice C_a f0.fHammers.length C_c)]⟩]) ht_85 () trivial (by kernel_rfl) [0] (by kernel_rfl) (by kernel_rfl) ?_
    rintro i_3 _ y_77 _ h
    rw [spec_l05Asked.l_4] at h
    refine jc_seq (jc_seq (jc_region (qh [0,0,0,0] (qe (jx_then (qi h (fun h => ?_) (fun h => ?_)))))))
    ·refine jc_skip (jx_then (jc_seq (jc_block (jc_seq (jc_region (qh [0,0,0] ?_))))))
     obtain ⟨x_6, hx_80, h⟩ := bd h
     refine tO (qx 0 D_a 96 hx_80 rfl (D_h.sp hx_80) (jkO ?_))
     obtain ⟨t_7, ht_81, h⟩ := bd h
     refine tO (pc 0 (fun w hm => spec_l02Drum.calls f0 x_6 w _ C_c (hm.exRowW C_h C_ha) rfl ((hm.exRowW D_h D_ha).inArr (fun _ => rfl) encU32_len hx_80) A_b (hm.pass (N := [⟨some A_b, 34, [(.int .i16 f0.fSteps), (.slice C_a f0.fHammers.length C_c)]⟩]) [0] (by kernel_rfl) (by kernel_rfl)) (hm.exApart (N := [⟨some A_b, 34, [(.int .i16 f0.fSteps), (.slice C_a f0.fHammers.length C_c)]⟩]) C_h C_ha [0] (by kernel_rfl)) (fun _ => (hm.exApart (N := [⟨some A_b, 34, [(.int .i16 f0.fSteps), (.slice C_a f0.fHammers.length C_c)]⟩]) D_h D_ha [0] (by kernel_rfl)) (ne_ix hx_80)) ht_81) ?_)
     rintro w v w' hm ⟨rfl, hm'⟩
     refine ⟨_, hm.appW (ps := [(0, ⟨some A_b, 34, [(.int .i16 f0.fSteps), (.slice C_a f0.fHammers.length C_c)]⟩)]) (N := []) hm' (by kernel_rfl) (by kernel_rfl), jkO ?_⟩
     clear hm hm'
     refine qh [0] (qe (jx_then (qi h (fun h => ?_) (fun h => ?_))))
     ·refine jc_seq (jc_region (qh [0] (qe (jx_then (jc_ret (jx_inr (jx_thenr (jx_leaver (.inl 1) (Option.some.inj h).symm (fun e_83 => ?_)))))))))
      subst e_83
      refine jx_inr (jx_thenr (jx_thenr ?_))
      obtain rfl := Option.some.inj hr_76
      exact qr [] (fun w hm => ⟨rfl, hm.pk [0]⟩)
     ·exact jc_skip (jx_inn (jx_then (jc_region (qh [0,0,0] (qe (qb (w64 (i_3 + 1)) () h trivial [0]))))))
    ·refine jc_exit (jx_thenx (jx_leave (.inr ()) (Option.some.inj h).symm (fun e_84 => ?_)))
     subst e_84
     exact jx_ine (qm () hr_76 [0])
   ·rintro _ h
    replace h : spec_l05Asked.k_2 list1 = some r := h
    rw [spec_l05Asked.k_2] at h
    refine jx_then (jc_seq (jc_seq (jc_region (qh [0,0,0] (qe (jx_then (qi h (fun h => ?_) (fun h => ?_))))))))
    ·refine jc_seq (jc_region (qh [0] (qe (jx_then (jc_ret (jx_thenr ?_))))))
     obtain rfl := Option.some.inj h
     exact qr [] (fun w hm => ⟨rfl, hm.pk [0]⟩)
    ·refine jc_skip (jx_then (jc_seq (jc_region (qh [0] (qe (jx_then (jc_ret ?_)))))))
     obtain rfl := Option.some.inj h
     exact qr [] (fun w hm => ⟨rfl, hm.pk [0]⟩)
/-! ### spec.l02Count -/
def spec_l02Count.k_2 (i_1 : Int) : Option (Int) := some i_1
def spec_l02Count.l_5 : (Int × Int) → Option ((Int × Int) ⊕ (Int))
  | (i_3, i_4) => (if (decide (i_3 > 0)) = true then some (.inl ((u32 (Int.tdiv i_3 2)), (w64 (i_4 + (w64 (Int.tmod i_3 2)))))) else some (.inr i_4))
def spec_l02Count (bits0 : Int) : Option (Int) := (loop spec_l02Count.l_5 (bits0, 0)).bind fun t_6 => spec_l02Count.k_2 t_6
theorem spec_l02Count.calls (bits0 : Int) (w : World) (r : Int) (h : spec_l02Count bits0 = some r) :
    Calls Try.prog 172 #[(.int .u32 bits0)] w fun e w' => ∃ v, e = .returned v ∧ (v = (.int .i64 r) ∧ Mem w [] [] w') := by
  rw [spec_l02Count] at h
  refine enter (args := [(.int .u32 bits0)]) Try.func172 rfl Try.ntmps172 (by kernel_rfl) (L := []) (W := []) (Mem.start w) ?_
  refine jc_seq (jc_region (qh [0] (qe (jx_then (jc_seq (jc_region (qh [0] (qe (jx_then (jc_seq (jc_meet (fun (j : Int) => match j with | i_1 => spec_l02Count.k_2 i_1 = some r) (fun (j : Int) => match j with | i_1 => [(2, [], (.int .i64 0)), (3, [], (.int .i64 i_1))]) (fun (j : Int) => match j with | i_1 => []) ?_ ?_)))))))))))
  ·refine jc_block ?_
   obtain ⟨t_6, ht_20, hr_15⟩ := bd h
   refine jc_loop (fun (s : Int × Int) (x : Unit) => match s, x with | ⟨i_3, i_4⟩, _ => True) (fun (s : Int × Int) (x : Unit) => match s, x with | ⟨i_3, i_4⟩, _ => [(0, [], (.int .u32 i_3)), (2, [], (.int .i64 0)), (3, [], (.int .i64 i_4))]) (fun (s : Int × Int) (x : Unit) => match s, x with | ⟨i_3, i_4⟩, _ => []) ht_20 () trivial (by kernel_rfl) [] (by kernel_rfl) (by kernel_rfl) ?_
   rintro ⟨i_3, i_4⟩ _ y_16 _ h
   rw [spec_l02Count.l_5] at h
   refine jc_seq (jc_seq (jc_region (qh [0,0] (qe (jx_then (qi h (fun h => ?_) (fun h => ?_)))))))
   ·exact jc_skip (jx_then (jc_seq (jc_block (jc_region (qh [0,0,0,0,0,0] (qe (jx_inn (jx_then (jc_region (qh [0,0,0] (qe (qb ((u32 (Int.tdiv i_3 2)), (w64 (i_4 + (w64 (Int.tmod i_3 2))))) () h trivial []))))))))))))
   ·refine jc_exit (jx_thenx (jx_leave i_4 (Option.some.inj h).symm (fun e_19 => ?_)))
    subst e_19
    exact jx_ine (qm i_4 hr_15 [])
  ·rintro i_1 h
   replace h : spec_l02Count.k_2 i_1 = some r := h
   rw [spec_l02Count.k_2] at h
   refine jx_then (jc_seq (jc_region (qh [0,0] (qe (jx_then (jc_ret ?_))))))
   obtain rfl := Option.some.inj h
   exact qr [] (fun w hm => ⟨rfl, hm.pk []⟩)
/-! ### spec.l02Moves -/
def spec_l02Moves.k_2 (i_1 : Int) : Option (Int) := some i_1
def spec_l02Moves.l_5 (a0 : Arr 96 Int) (b1 : Arr 96 Int) : (Int × Int) → Option ((Int × Int) ⊕ (Int))
  | (i_3, i_4) => (if (decide (i_4 < 96)) = true then (ix b1.1 i_4).bind fun x_7 => (ix a0.1 i_4).bind fun x_8 => (spec_l02Count (bClr .u32 x_7 x_8)).bind fun t_9 => some (.inl ((w64 (i_3 + t_9)), (w64 (i_4 + 1)))) else some (.inr i_3))
def spec_l02Moves (a0 : Arr 96 Int) (b1 : Arr 96 Int) : Option (Int) := (loop (spec_l02Moves.l_5 a0 b1) (0, 0)).bind fun t_6 => spec_l02Moves.k_2 t_6
theorem spec_l02Moves.calls (a0 : Arr 96 Int) (b1 : Arr 96 Int) (w : World) (r : Int) {A_b A_q : Nat} (A_h : Rw w (some ⟨A_b, A_q, none⟩) 1 encU32 a0.1) {B_b B_q : Nat} (B_h : Rw w (some ⟨B_b, B_q, none⟩) 1 encU32 b1.1) (h : spec_l02Moves a0 b1 = some r) :
    Calls Try.prog 142 #[(.pointer (some ⟨A_b, A_q, none⟩)), (.pointer (some ⟨B_b, B_q, none⟩))] w fun e w' => ∃ v, e = .returned v ∧ (v = (.int .i64 r) ∧ Mem w [] [] w') := by
  rw [spec_l02Moves] at h
  refine enter (args := [(.pointer (some ⟨A_b, A_q, none⟩)), (.pointer (some ⟨B_b, B_q, none⟩))]) Try.func142 rfl Try.ntmps142 (by kernel_rfl) (L := []) (W := []) (Mem.start w) ?_
  refine jc_seq (jc_region (qh [0] (qe (jx_then (jc_seq (jc_region (qh [0] (qe (jx_then (jc_seq (jc_seq (jc_region (qh [0] (qe (jx_then (jc_meet (fun (j : Int) => match j with | i_1 => spec_l02Moves.k_2 i_1 = some r) (fun (j : Int) => match j with | i_1 => [(4, [], (.int .i64 0)), (5, [], (.int .i64 i_1))]) (fun (j : Int) => match j with | i_1 => []) ?_ ?_))))))))))))))))
  ·refine jc_block ?_
   obtain ⟨t_6, ht_76, hr_68⟩ := bd h
   refine jc_loop (fun (s : Int × Int) (x : Unit) => match s, x with | ⟨i_3, i_4⟩, _ => True) (fun (s : Int × Int) (x : Unit) => match s, x with | ⟨i_3, i_4⟩, _ => [(0, [], (.pointer (some ⟨A_b, A_q, none⟩))), (1, [], (.pointer (some ⟨B_b, B_q, none⟩))), (4, [], (.int .i64 0)), (5, [], (.int .i64 i_3)), (6, [], (.int .i64 i_4))]) (fun (s : Int × Int) (x : Unit) => match s, x with | ⟨i_3, i_4⟩, _ => []) ht_76 () trivial (by kernel_rfl) [] (by kernel_rfl) (by kernel_rfl) ?_
   rintro ⟨i_3, i_4⟩ _ y_69 _ h
   rw [spec_l02Moves.l_5] at h
   refine jc_seq (jc_seq (jc_region (qh [0,0] (qe (jx_then (qi h (fun h => ?_) (fun h => ?_)))))))
   ·refine jc_skip (jx_then (jc_seq (jc_block (qg [] 15 (qd [⟨0, 0, 0⟩,⟨1, 0, 0⟩,⟨2, 0, 0⟩,⟨3, 0, 0⟩,⟨6, 0, 0⟩,⟨7, 0, 0⟩,⟨8, 0, 0⟩] 8 [] ?_)))))
    obtain ⟨x_7, hx_72, h⟩ := bd h
    refine qv 4 0 [] (fun w hm => idx_run (a := (some ⟨B_b, B_q, none⟩)) (len := 96) (s := 1) (j := i_4) (by kernel_rfl) (ix_some hx_72).1 (ltn hx_72 b1.2) (B_h.sp hx_72)) (qv 5 0 [] (fun w hm => ld_run (b := aB (some ⟨B_b, B_q, none⟩)) (off := (aO (some ⟨B_b, B_q, none⟩) + i_4.toNat * 1)) (s := 1) (agg := false) (vs := (encU32 x_7)) (by kernel_rfl) (by kernel_rfl) (.inr rfl) ((hm.xr B_h).at hx_72)) ?_)
    obtain ⟨x_8, hx_73, h⟩ := bd h
    refine qv 9 0 [] (fun w hm => idx_run (a := (some ⟨A_b, A_q, none⟩)) (len := 96) (s := 1) (j := i_4) (by kernel_rfl) (ix_some hx_73).1 (ltn hx_73 a0.2) (A_h.sp hx_73)) (qv 10 0 [] (fun w hm => ld_run (b := aB (some ⟨A_b, A_q, none⟩)) (off := (aO (some ⟨A_b, A_q, none⟩) + i_4.toNat * 1)) (s := 1) (agg := false) (vs := (encU32 x_8)) (by kernel_rfl) (by kernel_rfl) (.inr rfl) ((hm.xr A_h).at hx_73)) (qd [⟨11, 0, 0⟩] 3 [] ?_))
    obtain ⟨t_9, ht_74, h⟩ := bd h
    refine tD 12 (pc 0 (fun w hm => spec_l02Count.calls (bClr .u32 x_7 x_8) w _ ht_74) ?_)
    rintro w v w' hm ⟨rfl, hm'⟩
    refine ⟨_, hm.app hm', kD [] ?_⟩
    clear hm hm'
    exact qd [⟨13, 0, 0⟩,⟨14, 0, 0⟩] 0 [] (qz (jx_inn (jx_then (jc_region (qh [0,0,0] (qe (qb ((w64 (i_3 + t_9)), (w64 (i_4 + 1))) () h trivial [])))))))
   ·refine jc_exit (jx_thenx (jx_leave i_3 (Option.some.inj h).symm (fun e_75 => ?_)))
    subst e_75
    exact jx_ine (qm i_3 hr_68 [])
  ·rintro i_1 h
   replace h : spec_l02Moves.k_2 i_1 = some r := h
   rw [spec_l02Moves.k_2] at h
   refine jx_then (jc_seq (jc_region (qh [0,0] (qe (jx_then (jc_ret ?_))))))
   obtain rfl := Option.some.inj h
   exact qr [] (fun w hm => ⟨rfl, hm.pk []⟩)
/-! ### spec.l05Cost -/
def spec_l05Cost (a0 : Arr 96 Int) (b1 : Arr 96 Int) : Option (Int) := (spec_l02Moves a0 b1).bind fun t_1 => (spec_l02Moves b1 a0).bind fun t_2 => some (w64 (t_1 + t_2))
theorem spec_l05Cost.calls (a0 : Arr 96 Int) (b1 : Arr 96 Int) (w : World) (r : Int) {A_b A_q : Nat} (A_h : Rw w (some ⟨A_b, A_q, none⟩) 1 encU32 a0.1) {B_b B_q : Nat} (B_h : Rw w (some ⟨B_b, B_q, none⟩) 1 encU32 b1.1) (h : spec_l05Cost a0 b1 = some r) :
    Calls Try.prog 103 #[(.pointer (some ⟨A_b, A_q, none⟩)), (.pointer (some ⟨B_b, B_q, none⟩))] w fun e w' => ∃ v, e = .returned v ∧ (v = (.int .i64 r) ∧ Mem w [] [] w') := by
  rw [spec_l05Cost] at h
  refine enter (args := [(.pointer (some ⟨A_b, A_q, none⟩)), (.pointer (some ⟨B_b, B_q, none⟩))]) Try.func103 rfl Try.ntmps103 (by kernel_rfl) (L := []) (W := []) (Mem.start w) ?_
  refine jc_seq (jc_region (qh [0] (qe (jx_then (jc_seq (jc_region (qh [0,0] ?_)))))))
  obtain ⟨t_1, ht_1, h⟩ := bd h
  refine tO (pc 0 (fun w hm => spec_l02Moves.calls a0 b1 w _ (hm.xr A_h) (hm.xr B_h) ht_1) ?_)
  rintro w v w' hm ⟨rfl, hm'⟩
  refine ⟨_, hm.app hm', jkO ?_⟩
  clear hm hm'
  refine qh [0,0] ?_
  obtain ⟨t_2, ht_2, h⟩ := bd h
  refine tO (pc 0 (fun w hm => spec_l02Moves.calls b1 a0 w _ (hm.xr B_h) (hm.xr A_h) ht_2) ?_)
  rintro w v w' hm ⟨rfl, hm'⟩
  refine ⟨_, hm.app hm', jkO ?_⟩
  clear hm hm'
  refine qh [0,0] (qe (jx_then (jc_ret ?_)))
  obtain rfl := Option.some.inj h
  exact qr [] (fun w hm => ⟨rfl, hm.pk []⟩)
/-! ### spec.l05Table -/
def spec_l05Table.k_1 (xt_2579 : List (List Int)) : Option ((List (List Int))) := some xt_2579
def spec_l05Table.k_6 (xt_3153 : List (List Int)) (i_2 : Int) (xs_5 : List Int) : Option (((List (List Int)) × Int) ⊕ ((List (List Int)))) := (if xt_3153.length + 1 ≤ 4294967296 then some (.inl ((xt_3153 ++ [xs_5]), (w64 (i_2 + 1)))) else none)
def spec_l05Table.l_9 (list0 : List (Arr 96 Int)) (i_2 : Int) : ((List Int) × Int) → Option (((List Int) × Int) ⊕ ((List Int)))
  | (xs_7, i_8) => (if (decide (i_8 < (list0.length : Int))) = true then (ix list0 i_2).bind fun x_11 => (ix list0 i_8).bind fun x_12 => (spec_l05Cost x_11 x_12).bind fun t_13 => (if xs_7.length + ([t_13] : List Int).length ≤ 4294967296 then some (.inl ((xs_7 ++ ([t_13] : List Int)), (w64 (i_8 + 1)))) else none) else some (.inr xs_7))
def spec_l05Table.l_3 (list0 : List (Arr 96 Int)) : ((List (List Int)) × Int) → Option (((List (List Int)) × Int) ⊕ ((List (List Int))))
  | (xt_3153, i_2) => (if (decide (i_2 < (list0.length : Int))) = true then (loop (spec_l05Table.l_9 list0 i_2) (([] : List Int), 0)).bind fun t_10 => spec_l05Table.k_6 xt_3153 i_2 t_10 else some (.inr xt_3153))
def spec_l05Table (list0 : List (Arr 96 Int)) : Option ((List (List Int))) := (loop (spec_l05Table.l_3 list0) (([] : List (List Int)), 0)).bind fun t_4 => spec_l05Table.k_1 t_4
theorem spec_l05Table.calls (list0 : List (Arr 96 Int)) (w : World) (r : (List (List Int))) {A_a : Option Addr} {A_an : Nat} (A_c : Nat) (A_h : Rw w A_a 96 encA96U32 list0) (A_hn : list0.length = A_an) (h : spec_l05Table list0 = some r) :
    Calls Try.prog 51 #[(.slice A_a A_an A_c)] w fun e w' => ∃ v, e = .returned v ∧ (∃ (o0 : Option Nat) (c0 : Nat) (s0 : List Value) (n0 : Nat) (h0 : List Hd), InP h0 r ∧ h0.length = n0 ∧ (o0 ≠ none → n0 ≤ c0 ∧ s0.length = (c0 - n0) * 1) ∧ (o0 = none → h0 = [] ∧ c0 = 0) ∧ v = .slice (o0.map fun b => ⟨b, 0, none⟩) n0 c0 ∧ Mem w [] [⟨o0, 49, row encHd h0 s0⟩, ⟨none, CLU, cluC encI64 h0 r⟩] w') := by
  subst A_hn
  rw [spec_l05Table] at h
  refine enter (args := [(.slice A_a list0.length A_c)]) Try.func51 rfl Try.ntmps51 (by kernel_rfl) (L := []) (W := []) (Mem.start w) ?_
  refine jc_seq (jc_region (qh [0] (qe (jx_then (jc_seq (jc_region (tO (qa 0 (fun b_1 => jk_clu encI64 (jkO (qh [0] (qe (jx_then (jc_seq (jc_seq (jc_region (qh [0] (qe (jx_then (jc_meet (fun (j : (List (List Int)) × (List Hd) × (Option Nat) × Nat × (List Value) × Nat) => match j with | ⟨xt_2579, hh_2580, o_2581, cap_2582, sp_2583, n_2584⟩ => spec_l05Table.k_1 xt_2579 = some r ∧ (hh_2580.length = n_2584) ∧ ((o_2581 ≠ none → n_2584 ≤ cap_2582 ∧ sp_2583.length = (cap_2582 - n_2584) * 1)) ∧ ((o_2581 = none → hh_2580 = [] ∧ cap_2582 = 0)) ∧ (InP hh_2580 xt_2579)) (fun (j : (List (List Int)) × (List Hd) × (Option Nat) × Nat × (List Value) × Nat) => match j with | ⟨xt_2579, hh_2580, o_2581, cap_2582, sp_2583, n_2584⟩ => [(2, [], (.slice none 0 0)), (3, [], (.slice (o_2581.map fun b => ⟨b, 0, none⟩) n_2584 cap_2582))]) (fun (j : (List (List Int)) × (List Hd) × (Option Nat) × Nat × (List Value) × Nat) => match j with | ⟨xt_2579, hh_2580, o_2581, cap_2582, sp_2583, n_2584⟩ => [⟨o_2581, 49, row encHd hh_2580 sp_2583⟩, ⟨none, CLU, cluC encI64 hh_2580 xt_2579⟩]) ?_ ?_))))))))))))))))))))
  ·refine jc_block ?_
   obtain ⟨t_4, ht_3443, hr_3162⟩ := bd h
   refine jc_loop (fun (s : (List (List Int)) × Int) (x : (List Hd) × (Option Nat) × Nat × (List Value) × Nat) => match s, x with | ⟨xt_3153, i_2⟩, ⟨hh_3154, o_3155, cap_3156, sp_3157, n_3158⟩ => (hh_3154.length = n_3158) ∧ ((o_3155 ≠ none → n_3158 ≤ cap_3156 ∧ sp_3157.length = (cap_3156 - n_3158) * 1)) ∧ ((o_3155 = none → hh_3154 = [] ∧ cap_3156 = 0)) ∧ (InP hh_3154 xt_3153)) (fun (s : (List (List Int)) × Int) (x : (List Hd) × (Option Nat) × Nat × (List Value) × Nat) => match s, x with | ⟨xt_3153, i_2⟩, ⟨hh_3154, o_3155, cap_3156, sp_3157, n_3158⟩ => [(0, [], (.slice A_a list0.length A_c)), (2, [], (.slice none 0 0)), (3, [], (.slice (o_3155.map fun b => ⟨b, 0, none⟩) n_3158 cap_3156)), (4, [], (.int .i64 i_2))]) (fun (s : (List (List Int)) × Int) (x : (List Hd) × (Option Nat) × Nat × (List Value) × Nat) => match s, x with | ⟨xt_3153, i_2⟩, ⟨hh_3154, o_3155, cap_3156, sp_3157, n_3158⟩ => [⟨o_3155, 49, row encHd hh_3154 sp_3157⟩, ⟨none, CLU, cluC encI64 hh_3154 xt_3153⟩]) ht_3443 ⟨([] : List Hd), (some b_1), 0, [], 0⟩ ⟨rfl, (fun _ => ⟨Nat.le_refl _, by simp⟩), (fun e => nomatch e), InP.nil⟩ (by kernel_rfl) [0, 1] (by kernel_rfl) (by kernel_rfl) ?_
   rintro ⟨xt_3153, i_2⟩ ⟨hh_3154, o_3155, cap_3156, sp_3157, n_3158⟩ y_3163 ⟨rfl, hs_3159, ho_3160, hI_3161⟩ h
   rw [spec_l05Table.l_3] at h
   refine jc_seq (jc_seq (jc_region (qh [0,0,0,0] (qe (jx_then (qi h (fun h => ?_) (fun h => ?_)))))))
   ·refine jc_skip (jx_then (jc_seq (jc_block (jc_seq (jc_region (tO (qa 0 (fun b_3166 => jkO (qh [0] (qe (jx_then (jc_seq (jc_seq (jc_region (qh [0] (qe (jx_then (jc_meet (fun (j : (List Int) × (Option Nat) × Nat × (List Value) × Nat) => match j with | ⟨xs_5, o_3365, cap_3366, sp_3367, n_3368⟩ => spec_l05Table.k_6 xt_3153 i_2 xs_5 = some y_3163 ∧ (xs_5.length = n_3368) ∧ ((o_3365 ≠ none → n_3368 ≤ cap_3366 ∧ sp_3367.length = (cap_3366 - n_3368) * 1)) ∧ ((o_3365 = none → xs_5 = [] ∧ cap_3366 = 0))) (fun (j : (List Int) × (Option Nat) × Nat × (List Value) × Nat) => match j with | ⟨xs_5, o_3365, cap_3366, sp_3367, n_3368⟩ => [(0, [], (.slice A_a list0.length A_c)), (2, [], (.slice none 0 0)), (3, [], (.slice (o_3155.map fun b => ⟨b, 0, none⟩) hh_3154.length cap_3156)), (4, [], (.int .i64 i_2)), (5, [], (.slice (o_3365.map fun b => ⟨b, 0, none⟩) n_3368 cap_3366))]) (fun (j : (List Int) × (Option Nat) × Nat × (List Value) × Nat) => match j with | ⟨xs_5, o_3365, cap_3366, sp_3367, n_3368⟩ => [⟨o_3155, 49, row encHd hh_3154 sp_3157⟩, ⟨none, CLU, cluC encI64 hh_3154 xt_3153⟩, ⟨o_3365, 2, row encI64 xs_5 sp_3367⟩]) ?_ ?_))))))))))))))))))
    ·refine jc_block ?_
     obtain ⟨t_10, ht_3441, hr_3422⟩ := bd h
     refine jc_loop (fun (s : (List Int) × Int) (x : (Option Nat) × Nat × (List Value) × Nat) => match s, x with | ⟨xs_7, i_8⟩, ⟨o_3416, cap_3417, sp_3418, n_3419⟩ => (xs_7.length = n_3419) ∧ ((o_3416 ≠ none → n_3419 ≤ cap_3417 ∧ sp_3418.length = (cap_3417 - n_3419) * 1)) ∧ ((o_3416 = none → xs_7 = [] ∧ cap_3417 = 0))) (fun (s : (List Int) × Int) (x : (Option Nat) × Nat × (List Value) × Nat) => match s, x with | ⟨xs_7, i_8⟩, ⟨o_3416, cap_3417, sp_3418, n_3419⟩ => [(0, [], (.slice A_a list0.length A_c)), (2, [], (.slice none 0 0)), (3, [], (.slice (o_3155.map fun b => ⟨b, 0, none⟩) hh_3154.length cap_3156)), (4, [], (.int .i64 i_2)), (5, [], (.slice (o_3416.map fun b => ⟨b, 0, none⟩) n_3419 cap_3417)), (6, [], (.int .i64 i_8))]) (fun (s : (List Int) × Int) (x : (Option Nat) × Nat × (List Value) × Nat) => match s, x with | ⟨xs_7, i_8⟩, ⟨o_3416, cap_3417, sp_3418, n_3419⟩ => [⟨o_3155, 49, row encHd hh_3154 sp_3157⟩, ⟨none, CLU, cluC encI64 hh_3154 xt_3153⟩, ⟨o_3416, 2, row encI64 xs_7 sp_3418⟩]) ht_3441 ⟨(some b_3166), 0, [], 0⟩ ⟨rfl, (fun _ => ⟨Nat.le_refl _, by simp⟩), (fun e => nomatch e)⟩ (by kernel_rfl) [0, 1, 2] (by kernel_rfl) (by kernel_rfl) ?_
     rintro ⟨xs_7, i_8⟩ ⟨o_3416, cap_3417, sp_3418, n_3419⟩ y_3423 ⟨rfl, hs_3420, ho_3421⟩ h
     rw [spec_l05Table.l_9] at h
     refine jc_seq (jc_seq (jc_region (qh [0,0,0,0] (qe (jx_then (qi h (fun h => ?_) (fun h => ?_)))))))
     ·refine jc_skip (jx_then (jc_seq (jc_block (qg [⟨o_3155, 49, row encHd hh_3154 sp_3157⟩, ⟨none, CLU, cluC encI64 hh_3154 xt_3153⟩] 11 (qd [⟨0, 0, 0⟩,⟨1, 0, 0⟩,⟨2, 0, 0⟩,⟨4, 0, 0⟩,⟨5, 0, 0⟩] 6 [0, 1] ?_)))))
      obtain ⟨x_11, hx_3430, h⟩ := bd h
      refine qv 3 0 [0, 1] (fun w hm => idx_run (a := A_a) (len := list0.length) (s := 96) (j := i_2) (by kernel_rfl) (ix_some hx_3430).1 (ltn hx_3430 rfl) (A_h.sp hx_3430)) ?_
      obtain ⟨x_12, hx_3431, h⟩ := bd h
      refine qv 6 0 [0, 1] (fun w hm => idx_run (a := A_a) (len := list0.length) (s := 96) (j := i_8) (by kernel_rfl) (ix_some hx_3431).1 (ltn hx_3431 rfl) (A_h.sp hx_3431)) ?_
      obtain ⟨t_13, ht_3432, h⟩ := bd h
      refine tD 7 (pc 0 (fun w hm => spec_l05Cost.calls x_11 x_12 w _ ((hm.xr A_h).inArr (fun _ => rfl) encU32_len hx_3430) ((hm.xr A_h).inArr (fun _ => rfl) encU32_len hx_3431) ht_3432) ?_)
      rintro w v w' hm ⟨rfl, hm'⟩
      refine ⟨_, hm.app hm', kD [0, 1] ?_⟩
      clear hm hm'
      refine tD 8 (qa 0 (fun b_3433 => kD [0, 1] ?_))
      obtain ⟨hg_3434, h⟩ := gd h
      exact tD 9 (p_apn 0 2 o_3416 2 xs_7.length 1 cap_3417 1 8 (some ⟨b_3433, 0, none⟩) encI64 xs_7 ([t_13] : List Int) sp_3418 (.int .i64 0) rfl rfl (by kernel_rfl) (by kernel_rfl) (by kernel_rfl) encI64_len encI64_cell hs_3420 ho_3421 (fun w hm => (hm.ow 3 (some b_3433) 2 ([t_13] : List Int) [] (fun e => nomatch e) encI64_len)) hg_3434 (by kernel_rfl) (by kernel_rfl) (fun o_3435 cap_3436 sp_3437 hs_3438 ho_3439 => kD [0, 1] (qd [⟨10, 0, 0⟩] 0 [0, 1] (qz (jx_inn (jx_then (jc_region (qh [0,0,0] (qe (qb ((xs_7 ++ ([t_13] : List Int)), (w64 (i_8 + 1))) ⟨o_3435, cap_3436, sp_3437, (xs_7 ++ ([t_13] : List Int)).length⟩ h ⟨rfl, hs_3438, ho_3439⟩ [0, 1, 2]))))))))))
     ·refine jc_exit (jx_thenx (jx_leave xs_7 (Option.some.inj h).symm (fun e_3440 => ?_)))
      subst e_3440
      exact jx_ine (qm ⟨xs_7, o_3416, cap_3417, sp_3418, xs_7.length⟩ ⟨hr_3422, rfl, hs_3420, ho_3421⟩ [0, 1, 2])
    ·rintro ⟨xs_5, o_3365, cap_3366, sp_3367, n_3368⟩ ⟨h, rfl, hs_3369, ho_3370⟩
     replace h : spec_l05Table.k_6 xt_3153 i_2 xs_5 = some y_3163 := h
     rw [spec_l05Table.k_6] at h
     refine jx_then (jc_region (qh [0,0] (tO (qa 0 (fun b_3371 => jkO ?_)))))
     obtain ⟨hg_3372, h⟩ := gd h
     exact tO (p_apn 0 0 o_3155 49 hh_3154.length 1 cap_3156 1 24 (some ⟨b_3371, 0, none⟩) encHd hh_3154 [(Hd.mk (o_3365.map fun b => ⟨b, 0, none⟩) xs_5.length cap_3366)] sp_3157 (.slice none 0 0) rfl rfl (by kernel_rfl) (by kernel_rfl) (by kernel_rfl) encHd_len encHd_cell hs_3159 ho_3160 (fun w hm => (hm.ow 3 (some b_3371) 49 ([(Hd.mk (o_3365.map fun b => ⟨b, 0, none⟩) xs_5.length cap_3366)]) [] (fun e => nomatch e) encHd_len)) (tabbig hI_3161 hg_3372) (by kernel_rfl) (by kernel_rfl) (fun o_3373 cap_3374 sp_3375 hs_3376 ho_3377 => jk_frz (enc := encI64) (hs := hh_3154) (xss := xt_3153) (o := o_3365) (T := 2) (xs := xs_5) (sp := sp_3367) 1 2 xs_5.length cap_3366 hI_3161 (jkO (qh [0] (qe (jx_inn (jx_then (jc_region (qh [0,0,0] (qe (qb ((xt_3153 ++ [xs_5]), (w64 (i_2 + 1))) ⟨(hh_3154 ++ [(Hd.mk (o_3365.map fun b => ⟨b, 0, none⟩) xs_5.length cap_3366)]), o_3373, cap_3374, sp_3375, (hh_3154 ++ [(Hd.mk (o_3365.map fun b => ⟨b, 0, none⟩) xs_5.length cap_3366)]).length⟩ h ⟨rfl, hs_3376, ho_3377, (hI_3161.snoc rfl (fun e => (ho_3370 e).1))⟩ [0, 1])))))))))))
   ·refine jc_exit (jx_thenx (jx_leave xt_3153 (Option.some.inj h).symm (fun e_3442 => ?_)))
    subst e_3442
    exact jx_ine (qm ⟨xt_3153, hh_3154, o_3155, cap_3156, sp_3157, hh_3154.length⟩ ⟨hr_3162, rfl, hs_3159, ho_3160, hI_3161⟩ [0, 1])
  ·rintro ⟨xt_2579, hh_2580, o_2581, cap_2582, sp_2583, n_2584⟩ ⟨h, rfl, hs_2585, ho_2586, hI_2587⟩
   replace h : spec_l05Table.k_1 xt_2579 = some r := h
   rw [spec_l05Table.k_1] at h
   refine jx_then (jc_seq (jc_region (qh [0,0] (qe (jx_then (jc_ret ?_))))))
   obtain rfl := Option.some.inj h
   exact qr [] (fun w hm => ⟨o_2581, cap_2582, sp_2583, hh_2580.length, hh_2580, hI_2587, rfl, hs_2585, ho_2586, rfl, hm.pk [0, 1]⟩)
/-! ### spec.l05Tree -/
def spec_l05Tree.k_6 (xs_3 : List Int) (xs_4 : List (Arr 2 Int)) (i_5 : Int) : Option ((List (Arr 2 Int)) × Int) := some (xs_4, i_5)
def spec_l05Tree.k_20 (xs_8 : List (Arr 2 Int)) (i_9 : Int) (i_12 : Int) (i_13 : Int) (x_16 : Int) (xs_19 : List Int) : Option (((List Int) × (List (Arr 2 Int)) × Int) ⊕ (((List Int) × (List (Arr 2 Int)) × Int))) := some (.inl (xs_19, (xs_8 ++ ([(Arr.set (Arr.set (Arr.rep 2 0) 0 i_12) 1 i_13)] : List (Arr 2 Int))), (w64 (i_9 + x_16))))
def spec_l05Tree.l_23 (table0 : List (List Int)) (x_17 : Int) (x_18 : Int) : ((List Int) × Int) → Option (((List Int) × Int) ⊕ ((List Int)))
  | (xs_21, i_22) => (if (decide (i_22 < (table0.length : Int))) = true then (ix xs_21 i_22).bind fun x_25 => (if (x_25 == x_17) = true then (ix xs_21 i_22).bind fun x_26 => some (.inl ((xs_21.set i_22.toNat x_18), (w64 (i_22 + 1)))) else some (.inl (xs_21, (w64 (i_22 + 1))))) else some (.inr xs_21))
def spec_l05Tree.k_14 (table0 : List (List Int)) (xs_7 : List Int) (xs_8 : List (Arr 2 Int)) (i_9 : Int) (i_12 : Int) (i_13 : Int) : Option (((List Int) × (List (Arr 2 Int)) × Int) ⊕ (((List Int) × (List (Arr 2 Int)) × Int))) := (if xs_8.length + ([(Arr.set (Arr.set (Arr.rep 2 0) 0 i_12) 1 i_13)] : List (Arr 2 Int)).length ≤ 4294967296 then (ix table0 i_12).bind fun x_15 => (ix x_15 i_13).bind fun x_16 => (ix xs_7 i_13).bind fun x_17 => (ix xs_7 i_12).bind fun x_18 => (loop (spec_l05Tree.l_23 table0 x_17 x_18) (xs_7, 0)).bind fun t_24 => spec_l05Tree.k_20 xs_8 i_9 i_12 i_13 x_16 t_24 else none)
def spec_l05Tree.k_34 (i_29 : Int) (i_32 : Int) (i_33 : Int) : Option ((Int × Int × Int) ⊕ ((Int × Int))) := some (.inl (i_32, i_33, (w64 (i_29 + 1))))
def spec_l05Tree.k_41 (i_29 : Int) (i_35 : Int) (i_36 : Int) (i_37 : Int) (q_40 : Bool) : Option ((Int × Int × Int) ⊕ ((Int × Int))) := (if q_40 = true then some (.inl (i_29, i_37, (w64 (i_37 + 1)))) else some (.inl (i_35, i_36, (w64 (i_37 + 1)))))
def spec_l05Tree.l_38 (table0 : List (List Int)) (xs_7 : List Int) (i_29 : Int) : (Int × Int × Int) → Option ((Int × Int × Int) ⊕ ((Int × Int)))
  | (i_35, i_36, i_37) => (if (decide (i_37 < (table0.length : Int))) = true then (ix xs_7 i_29).bind fun x_42 => (ix xs_7 i_37).bind fun x_43 => (if (x_42 != x_43) = true then (if (decide (i_35 < 0)) = true then spec_l05Tree.k_41 i_29 i_35 i_36 i_37 true else (ix table0 i_29).bind fun x_44 => (ix x_44 i_37).bind fun x_45 => (ix table0 i_35).bind fun x_46 => (ix x_46 i_36).bind fun x_47 => spec_l05Tree.k_41 i_29 i_35 i_36 i_37 (decide (x_45 < x_47))) else spec_l05Tree.k_41 i_29 i_35 i_36 i_37 false) else some (.inr (i_35, i_36)))
def spec_l05Tree.l_30 (table0 : List (List Int)) (xs_7 : List Int) : (Int × Int × Int) → Option ((Int × Int × Int) ⊕ ((Int × Int)))
  | (i_27, i_28, i_29) => (if (decide (i_29 < (table0.length : Int))) = true then (loop (spec_l05Tree.l_38 table0 xs_7 i_29) (i_27, i_28, (w64 (i_29 + 1)))).bind fun t_39 => spec_l05Tree.k_34 i_29 t_39.1 t_39.2 else some (.inr (i_27, i_28)))
def spec_l05Tree.l_10 (table0 : List (List Int)) : ((List Int) × (List (Arr 2 Int)) × Int) → Option (((List Int) × (List (Arr 2 Int)) × Int) ⊕ (((List Int) × (List (Arr 2 Int)) × Int)))
  | (xs_7, xs_8, i_9) => (if (decide ((w64 ((xs_8.length : Int) + 1)) < (table0.length : Int))) = true then (loop (spec_l05Tree.l_30 table0 xs_7) ((-1), (-1), 0)).bind fun t_31 => spec_l05Tree.k_14 table0 xs_7 xs_8 i_9 t_31.1 t_31.2 else some (.inr (xs_7, xs_8, i_9)))
def spec_l05Tree.k_2 (table0 : List (List Int)) (xs_1 : List Int) : Option ((List (Arr 2 Int)) × Int) := (loop (spec_l05Tree.l_10 table0) (xs_1, ([] : List (Arr 2 Int)), 0)).bind fun t_11 => spec_l05Tree.k_6 t_11.1 t_11.2.1 t_11.2.2
def spec_l05Tree.l_50 (table0 : List (List Int)) : ((List Int) × Int) → Option (((List Int) × Int) ⊕ ((List Int)))
  | (xs_48, i_49) => (if (decide (i_49 < (table0.length : Int))) = true then (if xs_48.length + ([i_49] : List Int).length ≤ 4294967296 then some (.inl ((xs_48 ++ ([i_49] : List Int)), (w64 (i_49 + 1)))) else none) else some (.inr xs_48))
def spec_l05Tree (table0 : List (List Int)) : Option ((List (Arr 2 Int)) × Int) := (loop (spec_l05Tree.l_50 table0) (([] : List Int), 0)).bind fun t_51 => spec_l05Tree.k_2 table0 t_51
set_option maxHeartbeats 8000000 in
theorem spec_l05Tree.calls (table0 : List (List Int)) (w : World) (r : (List (Arr 2 Int)) × Int) {A_a : Option Addr} {A_an : Nat} (A_c : Nat) {A_hs : List Hd} (A_h : Rw w A_a 1 encHd A_hs) (A_hn : table0.length = A_an) (A_i : Inn w [] 1 encI64 A_hs table0) (h : spec_l05Tree table0 = some r) :
    Calls Try.prog 50 #[(.slice A_a A_an A_c)] w fun e w' => ∃ v, e = .returned v ∧ (∃ (o0 : Option Nat) (c0 : Nat) (s0 : List Value) (n0 : Nat), r.1.length = n0 ∧ (o0 ≠ none → n0 ≤ c0 ∧ s0.length = (c0 - n0) * 2) ∧ (o0 = none → r.1 = [] ∧ c0 = 0) ∧ v = .tuple #[.slice (o0.map fun b => ⟨b, 0, none⟩) n0 c0, (.int .i64 r.2)] ∧ Mem w [] [⟨o0, 93, row encA2I64 r.1 s0⟩] w') := by
  subst A_hn
  rw [spec_l05Tree] at h
  refine enter (args := [(.slice A_a table0.length A_c)]) Try.func50 rfl Try.ntmps50 (by kernel_rfl) (L := []) (W := []) (Mem.start w) ?_
  refine jc_seq (jc_region (qh [0,0] (qe (jx_then (jc_seq (jc_region (qh [0,0,0] (qe (jx_then (jc_seq (jc_region (tO (qa 0 (fun b_1 => jkO (qh [0] (qe (jx_then (jc_seq (jc_seq (jc_region (qh [0] (qe (jx_then (jc_meet (fun (j : (List Int) × (Option Nat) × Nat × (List Value) × Nat) => match j with | ⟨xs_1, o_137, cap_138, sp_139, n_140⟩ => spec_l05Tree.k_2 table0 xs_1 = some r ∧ (xs_1.length = n_140) ∧ ((o_137 ≠ none → n_140 ≤ cap_138 ∧ sp_139.length = (cap_138 - n_140) * 1)) ∧ ((o_137 = none → xs_1 = [] ∧ cap_138 = 0))) (fun (j : (List Int) × (Option Nat) × Nat × (List Value) × Nat) => match j with | ⟨xs_1, o_137, cap_138, sp_139, n_140⟩ => [(0, [], (.slice A_a table0.length A_c)), (2, [], (.slice none 0 0)), (3, [], (.int .i64 0)), (4, [], (.int .i64 (table0.length : Int))), (5, [], (.slice (o_137.map fun b => ⟨b, 0, none⟩) n_140 cap_138))]) (fun (j : (List Int) × (Option Nat) × Nat × (List Value) × Nat) => match j with | ⟨xs_1, o_137, cap_138, sp_139, n_140⟩ => [⟨o_137, 3, row encI64 xs_1 sp_139⟩]) ?_ ?_))))))))))))))))))))))))
  ·refine jc_block ?_
   obtain ⟨t_51, ht_19002, hr_18990⟩ := bd h
   refine jc_loop (fun (s : (List Int) × Int) (x : (Option Nat) × Nat × (List Value) × Nat) => match s, x with | ⟨xs_48, i_49⟩, ⟨o_18984, cap_18985, sp_18986, n_18987⟩ => (xs_48.length = n_18987) ∧ ((o_18984 ≠ none → n_18987 ≤ cap_18985 ∧ sp_18986.length = (cap_18985 - n_18987) * 1)) ∧ ((o_18984 = none → xs_48 = [] ∧ cap_18985 = 0))) (fun (s : (List Int) × Int) (x : (Option Nat) × Nat × (List Value) × Nat) => match s, x with | ⟨xs_48, i_49⟩, ⟨o_18984, cap_18985, sp_18986, n_18987⟩ => [(0, [], (.slice A_a table0.length A_c)), (2, [], (.slice none 0 0)), (3, [], (.int .i64 0)), (4, [], (.int .i64 (table0.length : Int))), (5, [], (.slice (o_18984.map fun b => ⟨b, 0, none⟩) n_18987 cap_18985)), (6, [], (.int .i64 i_49))]) (fun (s : (List Int) × Int) (x : (Option Nat) × Nat × (List Value) × Nat) => match s, x with | ⟨xs_48, i_49⟩, ⟨o_18984, cap_18985, sp_18986, n_18987⟩ => [⟨o_18984, 3, row encI64 xs_48 sp_18986⟩]) ht_19002 ⟨(some b_1), 0, [], 0⟩ ⟨rfl, (fun _ => ⟨Nat.le_refl _, by simp⟩), (fun e => nomatch e)⟩ (by kernel_rfl) [0] (by kernel_rfl) (by kernel_rfl) ?_
   rintro ⟨xs_48, i_49⟩ ⟨o_18984, cap_18985, sp_18986, n_18987⟩ y_18991 ⟨rfl, hs_18988, ho_18989⟩ h
   rw [spec_l05Tree.l_50] at h
   refine jc_seq (jc_seq (jc_region (qh [0,0,0] (qe (jx_then (qi h (fun h => ?_) (fun h => ?_)))))))
   ·refine jc_skip (jx_then (jc_seq (jc_block (jc_region (qh [0,0] (tO (qa 0 (fun b_18994 => jkO ?_))))))))
    obtain ⟨hg_18995, h⟩ := gd h
    exact tO (p_apn 0 0 o_18984 3 xs_48.length 1 cap_18985 1 8 (some ⟨b_18994, 0, none⟩) encI64 xs_48 ([i_49] : List Int) sp_18986 (.int .i64 0) rfl rfl (by kernel_rfl) (by kernel_rfl) (by kernel_rfl) encI64_len encI64_cell hs_18988 ho_18989 (fun w hm => (hm.ow 1 (some b_18994) 3 ([i_49] : List Int) [] (fun e => nomatch e) encI64_len)) hg_18995 (by kernel_rfl) (by kernel_rfl) (fun o_18996 cap_18997 sp_18998 hs_18999 ho_19000 => jkO (qh [0] (qe (jx_inn (jx_then (jc_region (qh [0,0,0] (qe (qb ((xs_48 ++ ([i_49] : List Int)), (w64 (i_49 + 1))) ⟨o_18996, cap_18997, sp_18998, (xs_48 ++ ([i_49] : List Int)).length⟩ h ⟨rfl, hs_18999, ho_19000⟩ [0]))))))))))
   ·refine jc_exit (jx_thenx (jx_leave xs_48 (Option.some.inj h).symm (fun e_19001 => ?_)))
    subst e_19001
    exact jx_ine (qm ⟨xs_48, o_18984, cap_18985, sp_18986, xs_48.length⟩ ⟨hr_18990, rfl, hs_18988, ho_18989⟩ [0])
  ·rintro ⟨xs_1, o_137, cap_138, sp_139, n_140⟩ ⟨h, rfl, hs_141, ho_142⟩
   replace h : spec_l05Tree.k_2 table0 xs_1 = some r := h
   rw [spec_l05Tree.k_2] at h
   refine jx_then (jc_seq (jc_region (tO (qa 0 (fun b_143 => jkO (qh [0] (qe (jx_then (jc_seq (jc_region (qh [0] (qe (jx_then (jc_seq (jc_meet (fun (j : (List Int) × (List (Arr 2 Int)) × Int × (Option Nat) × Nat × (List Value) × Nat) => match j with | ⟨xs_3, xs_4, i_5, o_9550, cap_9551, sp_9552, n_9553⟩ => spec_l05Tree.k_6 xs_3 xs_4 i_5 = some r ∧ (xs_3.length = xs_1.length) ∧ ((o_137 = none → xs_3 = [] ∧ cap_138 = 0)) ∧ (xs_4.length = n_9553) ∧ ((o_9550 ≠ none → n_9553 ≤ cap_9551 ∧ sp_9552.length = (cap_9551 - n_9553) * 2)) ∧ ((o_9550 = none → xs_4 = [] ∧ cap_9551 = 0))) (fun (j : (List Int) × (List (Arr 2 Int)) × Int × (Option Nat) × Nat × (List Value) × Nat) => match j with | ⟨xs_3, xs_4, i_5, o_9550, cap_9551, sp_9552, n_9553⟩ => [(2, [], (.slice none 0 0)), (3, [], (.int .i64 0)), (7, [], (.slice (o_9550.map fun b => ⟨b, 0, none⟩) n_9553 cap_9551)), (8, [], (.int .i64 i_5))]) (fun (j : (List Int) × (List (Arr 2 Int)) × Int × (Option Nat) × Nat × (List Value) × Nat) => match j with | ⟨xs_3, xs_4, i_5, o_9550, cap_9551, sp_9552, n_9553⟩ => [⟨o_137, 3, row encI64 xs_3 sp_139⟩, ⟨o_9550, 93, row encA2I64 xs_4 sp_9552⟩]) ?_ ?_)))))))))))))))
   ·refine jc_block ?_
    obtain ⟨t_11, ht_18959, hr_15828⟩ := bd h
    refine jc_loop (fun (s : (List Int) × (List (Arr 2 Int)) × Int) (x : (Option Nat) × Nat × (List Value) × Nat) => match s, x with | ⟨xs_7, xs_8, i_9⟩, ⟨o_15822, cap_15823, sp_15824, n_15825⟩ => (xs_7.length = xs_1.length) ∧ ((o_137 = none → xs_7 = [] ∧ cap_138 = 0)) ∧ (xs_8.length = n_15825) ∧ ((o_15822 ≠ none → n_15825 ≤ cap_15823 ∧ sp_15824.length = (cap_15823 - n_15825) * 2)) ∧ ((o_15822 = none → xs_8 = [] ∧ cap_15823 = 0))) (fun (s : (List Int) × (List (Arr 2 Int)) × Int) (x : (Option Nat) × Nat × (List Value) × Nat) => match s, x with | ⟨xs_7, xs_8, i_9⟩, ⟨o_15822, cap_15823, sp_15824, n_15825⟩ => [(0, [], (.slice A_a table0.length A_c)), (2, [], (.slice none 0 0)), (3, [], (.int .i64 0)), (4, [], (.int .i64 (table0.length : Int))), (5, [], (.slice (o_137.map fun b => ⟨b, 0, none⟩) xs_1.length cap_138)), (7, [], (.slice (o_15822.map fun b => ⟨b, 0, none⟩) n_15825 cap_15823)), (8, [], (.int .i64 i_9))]) (fun (s : (List Int) × (List (Arr 2 Int)) × Int) (x : (Option Nat) × Nat × (List Value) × Nat) => match s, x with | ⟨xs_7, xs_8, i_9⟩, ⟨o_15822, cap_15823, sp_15824, n_15825⟩ => [⟨o_137, 3, row encI64 xs_7 sp_139⟩, ⟨o_15822, 93, row encA2I64 xs_8 sp_15824⟩]) ht_18959 ⟨(some b_143), 0, [], 0⟩ ⟨rfl, ho_142, rfl, (fun _ => ⟨Nat.le_refl _, by simp⟩), (fun e => nomatch e)⟩ (by kernel_rfl) [0, 1] (by kernel_rfl) (by kernel_rfl) ?_
    rintro ⟨xs_7, xs_8, i_9⟩ ⟨o_15822, cap_15823, sp_15824, n_15825⟩ y_15829 ⟨hn_15821, ho_15820, rfl, hs_15826, ho_15827⟩ h
    rw [spec_l05Tree.l_10] at h
    refine jc_seq (jc_seq (jc_region (qh [0,0,0,0,0] (qe (jx_then (qi h (fun h => ?_) (fun h => ?_)))))))
    ·refine jc_skip (jx_then (jc_block (jc_seq (jc_region (qh [0] (qe (jx_then (jc_seq (jc_region (qh [0] (qe (jx_then (jc_seq (jc_seq (jc_region (qh [0] (qe (jx_then (jc_meet (fun (j : Int × Int) => match j with | ⟨i_12, i_13⟩ => spec_l05Tree.k_14 table0 xs_7 xs_8 i_9 i_12 i_13 = some y_15829) (fun (j : Int × Int) => match j with | ⟨i_12, i_13⟩ => [(0, [], (.slice A_a table0.length A_c)), (2, [], (.slice none 0 0)), (3, [], (.int .i64 0)), (4, [], (.int .i64 (table0.length : Int))), (5, [], (.slice (o_137.map fun b => ⟨b, 0, none⟩) xs_1.length cap_138)), (7, [], (.slice (o_15822.map fun b => ⟨b, 0, none⟩) xs_8.length cap_15823)), (8, [], (.int .i64 i_9)), (9, [], (.int .i64 i_12)), (10, [], (.int .i64 i_13))]) (fun (j : Int × Int) => match j with | ⟨i_12, i_13⟩ => [⟨o_137, 3, row encI64 xs_7 sp_139⟩, ⟨o_15822, 93, row encA2I64 xs_8 sp_15824⟩]) ?_ ?_)))))))))))))))))))
     ·refine jc_block ?_
      obtain ⟨t_31, ht_18957, hr_18830⟩ := bd h
      refine jc_loop (fun (s : Int × Int × Int) (x : Unit) => match s, x with | ⟨i_27, i_28, i_29⟩, _ => True) (fun (s : Int × Int × Int) (x : Unit) => match s, x with | ⟨i_27, i_28, i_29⟩, _ => [(0, [], (.slice A_a table0.length A_c)), (2, [], (.slice none 0 0)), (3, [], (.int .i64 0)), (4, [], (.int .i64 (table0.length : Int))), (5, [], (.slice (o_137.map fun b => ⟨b, 0, none⟩) xs_1.length cap_138)), (7, [], (.slice (o_15822.map fun b => ⟨b, 0, none⟩) xs_8.length cap_15823)), (8, [], (.int .i64 i_9)), (9, [], (.int .i64 i_27)), (10, [], (.int .i64 i_28)), (11, [], (.int .i64 i_29))]) (fun (s : Int × Int × Int) (x : Unit) => match s, x with | ⟨i_27, i_28, i_29⟩, _ => [⟨o_137, 3, row encI64 xs_7 sp_139⟩, ⟨o_15822, 93, row encA2I64 xs_8 sp_15824⟩]) ht_18957 () trivial (by kernel_rfl) [0, 1] (by kernel_rfl) (by kernel_rfl) ?_
      rintro ⟨i_27, i_28, i_29⟩ _ y_18831 _ h
      rw [spec_l05Tree.l_30] at h
      refine jc_seq (jc_seq (jc_region (qh [0,0,0] (qe (jx_then (qi h (fun h => ?_) (fun h => ?_)))))))
      ·refine jc_skip (jx_then (jc_seq (jc_block (jc_seq (jc_region (qh [0,0,0] (qe (jx_then (jc_meet (fun (j : Int × Int) => match j with | ⟨i_32, i_33⟩ => spec_l05Tree.k_34 i_29 i_32 i_33 = some y_18831) (fun (j : Int × Int) => match j with | ⟨i_32, i_33⟩ => [(0, [], (.slice A_a table0.length A_c)), (2, [], (.slice none 0 0)), (3, [], (.int .i64 0)), (4, [], (.int .i64 (table0.length : Int))), (5, [], (.slice (o_137.map fun b => ⟨b, 0, none⟩) xs_1.length cap_138)), (7, [], (.slice (o_15822.map fun b => ⟨b, 0, none⟩) xs_8.length cap_15823)), (8, [], (.int .i64 i_9)), (9, [], (.int .i64 i_32)), (10, [], (.int .i64 i_33)), (11, [], (.int .i64 i_29))]) (fun (j : Int × Int) => match j with | ⟨i_32, i_33⟩ => [⟨o_137, 3, row encI64 xs_7 sp_139⟩, ⟨o_15822, 93, row encA2I64 xs_8 sp_15824⟩]) ?_ ?_)))))))))
       ·refine jc_block ?_
        obtain ⟨t_39, ht_18955, hr_18933⟩ := bd h
        refine jc_loop (fun (s : Int × Int × Int) (x : Unit) => match s, x with | ⟨i_35, i_36, i_37⟩, _ => True) (fun (s : Int × Int × Int) (x : Unit) => match s, x with | ⟨i_35, i_36, i_37⟩, _ => [(0, [], (.slice A_a table0.length A_c)), (2, [], (.slice none 0 0)), (3, [], (.int .i64 0)), (4, [], (.int .i64 (table0.length : Int))), (5, [], (.slice (o_137.map fun b => ⟨b, 0, none⟩) xs_1.length cap_138)), (7, [], (.slice (o_15822.map fun b => ⟨b, 0, none⟩) xs_8.length cap_15823)), (8, [], (.int .i64 i_9)), (9, [], (.int .i64 i_35)), (10, [], (.int .i64 i_36)), (11, [], (.int .i64 i_29)), (12, [], (.int .i64 i_37))]) (fun (s : Int × Int × Int) (x : Unit) => match s, x with | ⟨i_35, i_36, i_37⟩, _ => [⟨o_137, 3, row encI64 xs_7 sp_139⟩, ⟨o_15822, 93, row encA2I64 xs_8 sp_15824⟩]) ht_18955 () trivial (by kernel_rfl) [0, 1] (by kernel_rfl) (by kernel_rfl) ?_
        rintro ⟨i_35, i_36, i_37⟩ _ y_18934 _ h
        rw [spec_l05Tree.l_38] at h
        refine jc_seq (jc_seq (jc_region (qh [0,0,0] (qe (jx_then (qi h (fun h => ?_) (fun h => ?_)))))))
        ·refine jc_skip (jx_then (jc_seq (jc_block (jc_seq (jc_meet (fun (j : Bool) => match j with | q_40 => spec_l05Tree.k_41 i_29 i_35 i_36 i_37 q_40 = some y_18934) (fun (j : Bool) => match j with | q_40 => [(0, [], (.slice A_a table0.length A_c)), (2, [], (.slice none 0 0)), (3, [], (.int .i64 0)), (4, [], (.int .i64 (table0.length : Int))), (5, [], (.slice (o_137.map fun b => ⟨b, 0, none⟩) xs_1.length cap_138)), (7, [], (.slice (o_15822.map fun b => ⟨b, 0, none⟩) xs_8.length cap_15823)), (8, [], (.int .i64 i_9)), (9, [], (.int .i64 i_35)), (10, [], (.int .i64 i_36)), (11, [], (.int .i64 i_29)), (12, [], (.int .i64 i_37)), (75, [], (.bool q_40))]) (fun (j : Bool) => match j with | q_40 => [⟨o_137, 3, row encI64 xs_7 sp_139⟩, ⟨o_15822, 93, row encA2I64 xs_8 sp_15824⟩]) ?_ ?_)))))
         ·refine qg [⟨o_137, 3, row encI64 xs_7 sp_139⟩, ⟨o_15822, 93, row encA2I64 xs_8 sp_15824⟩] 30 (qd [⟨0, 0, 0⟩,⟨1, 0, 0⟩,⟨4, 0, 0⟩,⟨5, 0, 0⟩] 26 [0, 1] ?_)
          obtain ⟨x_42, hx_18946, h⟩ := bd h
          refine qv 2 0 [0, 1] (fun w hm => idx_run (a := (o_137.map fun b => ⟨b, 0, none⟩)) (len := xs_1.length) (s := 1) (j := i_29) (by kernel_rfl) (ix_some hx_18946).1 (ltn hx_18946 hn_15821) (spo ho_15820 hx_18946)) (qv 3 0 [0, 1] (fun w hm => ld_run (b := aB (o_137.map fun b => ⟨b, 0, none⟩)) (off := (aO (o_137.map fun b => ⟨b, 0, none⟩) + i_29.toNat * 1)) (s := 1) (agg := false) (vs := (encI64 x_42)) (by kernel_rfl) (by kernel_rfl) (.inr rfl) ((hm.ow 0 o_137 3 xs_7 sp_139 (fun e => (ho_15820 e).1) encI64_len).at hx_18946)) ?_)
          obtain ⟨x_43, hx_18947, h⟩ := bd h
          refine qv 6 0 [0, 1] (fun w hm => idx_run (a := (o_137.map fun b => ⟨b, 0, none⟩)) (len := xs_1.length) (s := 1) (j := i_37) (by kernel_rfl) (ix_some hx_18947).1 (ltn hx_18947 hn_15821) (spo ho_15820 hx_18947)) (qv 7 0 [0, 1] (fun w hm => ld_run (b := aB (o_137.map fun b => ⟨b, 0, none⟩)) (off := (aO (o_137.map fun b => ⟨b, 0, none⟩) + i_37.toNat * 1)) (s := 1) (agg := false) (vs := (encI64 x_43)) (by kernel_rfl) (by kernel_rfl) (.inr rfl) ((hm.ow 0 o_137 3 xs_7 sp_139 (fun e => (ho_15820 e).1) encI64_len).at hx_18947)) (qd [⟨8, 0, 0⟩,⟨9, 0, 0⟩,⟨10, 0, 1⟩,⟨11, 0, 1⟩] 18 [0, 1] (jd_split 55 (x_42 != x_43) (by kernel_rfl) (fun hc_18948 => ?_) (fun hc_18948 => ?_))))
          ·replace h := ifT hc_18948 h
           refine qd [⟨12, 0, 2⟩,⟨13, 0, 1⟩,⟨14, 0, 1⟩,⟨17, 0, 1⟩,⟨20, 0, 1⟩,⟨21, 0, 1⟩,⟨24, 0, 1⟩] 11 [0, 1] (jd_split 58 (decide (i_35 < 0)) (by kernel_rfl) (fun hc_18949 => ?_) (fun hc_18949 => ?_))
           ·replace h := ifT hc_18949 h
            exact qd [⟨15, 0, 3⟩,⟨16, 0, 3⟩,⟨18, 0, 3⟩,⟨19, 0, 3⟩,⟨22, 0, 3⟩,⟨23, 0, 3⟩,⟨25, 0, 3⟩,⟨26, 0, 3⟩,⟨27, 0, 3⟩,⟨28, 0, 4⟩,⟨29, 0, 4⟩] 0 [0, 1] (qz (qm true h [0, 1]))
           ·replace h := ifF hc_18949 h
            obtain ⟨x_44, hx_18950, h⟩ := bd h
            refine qv 15 2 [0, 1] (fun w hm => idx_run (a := A_a) (len := table0.length) (s := 1) (j := i_29) (by kernel_rfl) (ix_some hx_18950).1 (ltn hx_18950 rfl) (A_h.sp (A_i.ixh hx_18950))) (qv 16 2 [0, 1] (fun w hm => ld_run (b := aB A_a) (off := (aO A_a + i_29.toNat * 1)) (s := 1) (agg := false) (vs := encHd (hd A_hs i_29)) (by kernel_rfl) (by kernel_rfl) (.inr rfl) ((hm.xr A_h).at (A_i.ixh hx_18950))) ?_)
            obtain ⟨x_45, hx_18951, h⟩ := bd h
            refine qv 18 2 [0, 1] (fun w hm => idx_run (a := (hd A_hs i_29).a) (len := ((hd A_hs i_29).n)) (s := 1) (j := i_37) (by kernel_rfl) (ix_some hx_18951).1 (ltn hx_18951 (A_i.get hx_18950).2.1) ((A_i.get hx_18950).1.sp hx_18951)) (qv 19 2 [0, 1] (fun w hm => ld_run (b := aB (hd A_hs i_29).a) (off := (aO (hd A_hs i_29).a + i_37.toNat * 1)) (s := 1) (agg := false) (vs := (encI64 x_45)) (by kernel_rfl) (by kernel_rfl) (.inr rfl) ((hm.exRow (A_i.get hx_18950).1 List.not_mem_nil).at hx_18951)) ?_)
            obtain ⟨x_46, hx_18952, h⟩ := bd h
            refine qv 22 2 [0, 1] (fun w hm => idx_run (a := A_a) (len := table0.length) (s := 1) (j := i_35) (by kernel_rfl) (ix_some hx_18952).1 (ltn hx_18952 rfl) (A_h.sp (A_i.ixh hx_18952))) (qv 23 2 [0, 1] (fun w hm => ld_run (b := aB A_a) (off := (aO A_a + i_35.toNat * 1)) (s := 1) (agg := false) (vs := encHd (hd A_hs i_35)) (by kernel_rfl) (by kernel_rfl) (.inr rfl) ((hm.xr A_h).at (A_i.ixh hx_18952))) ?_)
            obtain ⟨x_47, hx_18953, h⟩ := bd h
            exact qv 25 2 [0, 1] (fun w hm => idx_run (a := (hd A_hs i_35).a) (len := ((hd A_hs i_35).n)) (s := 1) (j := i_36) (by kernel_rfl) (ix_some hx_18953).1 (ltn hx_18953 (A_i.get hx_18952).2.1) ((A_i.get hx_18952).1.sp hx_18953)) (qv 26 2 [0, 1] (fun w hm => ld_run (b := aB (hd A_hs i_35).a) (off := (aO (hd A_hs i_35).a + i_36.toNat * 1)) (s := 1) (agg := false) (vs := (encI64 x_47)) (by kernel_rfl) (by kernel_rfl) (.inr rfl) ((hm.exRow (A_i.get hx_18952).1 List.not_mem_nil).at hx_18953)) (qd [⟨27, 0, 2⟩,⟨28, 0, 5⟩,⟨29, 0, 4⟩] 0 [0, 1] (qz (qm (decide (x_45 < x_47)) h [0, 1]))))
          ·replace h := ifF hc_18948 h
           exact qd [⟨12, 0, 3⟩,⟨13, 0, 3⟩,⟨14, 0, 3⟩,⟨15, 0, 3⟩,⟨16, 0, 3⟩,⟨17, 0, 3⟩,⟨18, 0, 3⟩,⟨19, 0, 3⟩,⟨20, 0, 3⟩,⟨21, 0, 3⟩,⟨22, 0, 3⟩,⟨23, 0, 3⟩,⟨24, 0, 3⟩,⟨25, 0, 3⟩,⟨26, 0, 3⟩,⟨27, 0, 3⟩,⟨28, 0, 3⟩,⟨29, 0, 5⟩] 0 [0, 1] (qz (qm false h [0, 1]))
         ·rintro q_40 h
          replace h : spec_l05Tree.k_41 i_29 i_35 i_36 i_37 q_40 = some y_18934 := h
          rw [spec_l05Tree.k_41] at h
          refine jx_then (qi h (fun h => ?_) (fun h => ?_))
          ·exact jc_seq (jc_region (qh [0,0] (qe (jx_then (jc_region (qh [0,0] (qe (jx_inn (jx_then (jc_region (qh [0,0,0] (qe (qb (i_29, i_37, (w64 (i_37 + 1))) () h trivial [0, 1])))))))))))))
          ·exact jc_skip (jx_inn (jx_then (jc_region (qh [0,0,0] (qe (qb (i_35, i_36, (w64 (i_37 + 1))) () h trivial [0, 1]))))))
        ·refine jc_exit (jx_thenx (jx_leave (i_35, i_36) (Option.some.inj h).symm (fun e_18954 => ?_)))
         subst e_18954
         exact jx_ine (qm ⟨i_35, i_36⟩ hr_18933 [0, 1])
       ·rintro ⟨i_32, i_33⟩ h
        replace h : spec_l05Tree.k_34 i_29 i_32 i_33 = some y_18831 := h
        rw [spec_l05Tree.k_34] at h
        exact jx_inn (jx_then (jc_region (qh [0,0,0] (qe (qb (i_32, i_33, (w64 (i_29 + 1))) () h trivial [0, 1])))))
      ·refine jc_exit (jx_thenx (jx_leave (i_27, i_28) (Option.some.inj h).symm (fun e_18956 => ?_)))
       subst e_18956
       exact jx_ine (qm ⟨i_27, i_28⟩ hr_18830 [0, 1])
     ·rintro ⟨i_12, i_13⟩ h
      replace h : spec_l05Tree.k_14 table0 xs_7 xs_8 i_9 i_12 i_13 = some y_15829 := h
      rw [spec_l05Tree.k_14] at h
      refine jx_then (jc_seq (jc_region (qh [0,0,0,0] (tO (p_bs 0 93 2 1 encA2I64 [(.agg (row encI64 (Arr.set (Arr.set (Arr.rep 2 0) 0 i_12) 1 i_13).1 []).toArray)] [(Arr.set (Arr.set (Arr.rep 2 0) 0 i_12) 1 i_13)] (by kernel_rfl) (by kernel_rfl) rfl (by kernel_rfl) (by kernel_rfl) encA2I64_len (fun b_18523 => jkO ?_))))))
      obtain ⟨hg_18524, h⟩ := gd h
      refine tO (p_apn 0 1 o_15822 93 xs_8.length 1 cap_15823 2 16 (some ⟨b_18523, 0, none⟩) encA2I64 xs_8 ([(Arr.set (Arr.set (Arr.rep 2 0) 0 i_12) 1 i_13)] : List (Arr 2 Int)) sp_15824 (.agg (row encI64 (Arr.rep 2 0).1 []).toArray) rfl rfl (by kernel_rfl) (by kernel_rfl) (by kernel_rfl) encA2I64_len encA2I64_cell hs_15826 ho_15827 (fun w hm => (hm.ow 2 (some b_18523) 93 ([(Arr.set (Arr.set (Arr.rep 2 0) 0 i_12) 1 i_13)] : List (Arr 2 Int)) [] (fun e => nomatch e) encA2I64_len)) hg_18524 (by kernel_rfl) (by kernel_rfl) (fun o_18525 cap_18526 sp_18527 hs_18528 ho_18529 => jkO (qh [0] (qe (jx_then (jc_seq (jc_region (qh [0,0,0] ?_))))))))
      obtain ⟨x_15, hx_18530, h⟩ := bd h
      refine tO (qx 0 A_a 1 hx_18530 rfl (A_h.sp (A_i.ixh hx_18530)) (jkO (tO (ql 0 false (fun w hm => ((hm.xr A_h).at (A_i.ixh hx_18530))) (jkO (qh [0] ?_))))))
      obtain ⟨x_16, hx_18531, h⟩ := bd h
      refine tO (qx 0 (hd A_hs i_12).a 1 hx_18531 (A_i.get hx_18530).2.1 ((A_i.get hx_18530).1.sp hx_18531) (jkO (tO (ql 0 false (fun w hm => ((hm.exRow (A_i.get hx_18530).1 List.not_mem_nil).at hx_18531)) (jkO (qh [0,0] (qe (jx_then (jc_seq (jc_region (qh [0,0] ?_)))))))))))
      obtain ⟨x_17, hx_18532, h⟩ := bd h
      refine tO (qx 0 (o_137.map fun b => ⟨b, 0, none⟩) 1 hx_18532 hn_15821 (spo ho_15820 hx_18532) (jkO (tO (ql 0 false (fun w hm => ((hm.ow 0 o_137 3 xs_7 sp_139 (fun e => (ho_15820 e).1) encI64_len).at hx_18532)) (jkO (qh [0] (qe (jx_then (jc_seq (jc_region (qh [0,0] ?_)))))))))))
      obtain ⟨x_18, hx_18533, h⟩ := bd h
      refine tO (qx 0 (o_137.map fun b => ⟨b, 0, none⟩) 1 hx_18533 hn_15821 (spo ho_15820 hx_18533) (jkO (tO (ql 0 false (fun w hm => ((hm.ow 0 o_137 3 xs_7 sp_139 (fun e => (ho_15820 e).1) encI64_len).at hx_18533)) (jkO (qh [0] (qe (jx_then (jc_seq (jc_region (qh [0] (qe (jx_then (jc_meet (fun (j : (List Int)) => match j with | xs_19 => spec_l05Tree.k_20 xs_8 i_9 i_12 i_13 x_16 xs_19 = some y_15829 ∧ (xs_19.length = xs_1.length) ∧ ((o_137 = none → xs_19 = [] ∧ cap_138 = 0))) (fun (j : (List Int)) => match j with | xs_19 => [(0, [], (.slice A_a table0.length A_c)), (2, [], (.slice none 0 0)), (3, [], (.int .i64 0)), (4, [], (.int .i64 (table0.length : Int))), (5, [], (.slice (o_137.map fun b => ⟨b, 0, none⟩) xs_1.length cap_138)), (7, [], (.slice (o_18525.map fun b => ⟨b, 0, none⟩) ((xs_8 ++ ([(Arr.set (Arr.set (Arr.rep 2 0) 0 i_12) 1 i_13)] : List (Arr 2 Int))).length) cap_18526)), (8, [], (.int .i64 (w64 (i_9 + x_16))))]) (fun (j : (List Int)) => match j with | xs_19 => [⟨o_137, 3, row encI64 xs_19 sp_139⟩, ⟨o_18525, 93, row encA2I64 (xs_8 ++ ([(Arr.set (Arr.set (Arr.rep 2 0) 0 i_12) 1 i_13)] : List (Arr 2 Int))) sp_18527⟩, ⟨(some b_18523), 93, row encA2I64 ([(Arr.set (Arr.set (Arr.rep 2 0) 0 i_12) 1 i_13)] : List (Arr 2 Int)) []⟩]) ?_ ?_))))))))))))))
      ·refine jc_block ?_
       obtain ⟨t_24, ht_18581, hr_18573⟩ := bd h
       refine jc_loop (fun (s : (List Int) × Int) (x : Unit) => match s, x with | ⟨xs_21, i_22⟩, _ => (xs_21.length = xs_1.length) ∧ ((o_137 = none → xs_21 = [] ∧ cap_138 = 0))) (fun (s : (List Int) × Int) (x : Unit) => match s, x with | ⟨xs_21, i_22⟩, _ => [(0, [], (.slice A_a table0.length A_c)), (2, [], (.slice none 0 0)), (3, [], (.int .i64 0)), (4, [], (.int .i64 (table0.length : Int))), (5, [], (.slice (o_137.map fun b => ⟨b, 0, none⟩) xs_1.length cap_138)), (7, [], (.slice (o_18525.map fun b => ⟨b, 0, none⟩) ((xs_8 ++ ([(Arr.set (Arr.set (Arr.rep 2 0) 0 i_12) 1 i_13)] : List (Arr 2 Int))).length) cap_18526)), (8, [], (.int .i64 (w64 (i_9 + x_16)))), (13, [], (.int .i64 x_17)), (14, [], (.int .i64 x_18)), (15, [], (.int .i64 i_22))]) (fun (s : (List Int) × Int) (x : Unit) => match s, x with | ⟨xs_21, i_22⟩, _ => [⟨o_137, 3, row encI64 xs_21 sp_139⟩, ⟨o_18525, 93, row encA2I64 (xs_8 ++ ([(Arr.set (Arr.set (Arr.rep 2 0) 0 i_12) 1 i_13)] : List (Arr 2 Int))) sp_18527⟩, ⟨(some b_18523), 93, row encA2I64 ([(Arr.set (Arr.set (Arr.rep 2 0) 0 i_12) 1 i_13)] : List (Arr 2 Int)) []⟩]) ht_18581 () ⟨hn_15821, ho_15820⟩ (by kernel_rfl) [0, 1, 2] (by kernel_rfl) (by kernel_rfl) ?_
       rintro ⟨xs_21, i_22⟩ _ y_18574 ⟨hn_18572, ho_18571⟩ h
       rw [spec_l05Tree.l_23] at h
       refine jc_seq (jc_seq (jc_region (qh [0,0,0] (qe (jx_then (qi h (fun h => ?_) (fun h => ?_)))))))
       ·refine jc_skip (jx_then (jc_seq (jc_block (jc_seq (jc_region (qh [0,0] ?_))))))
        obtain ⟨x_25, hx_18577, h⟩ := bd h
        refine tO (qx 0 (o_137.map fun b => ⟨b, 0, none⟩) 1 hx_18577 hn_18572 (spo ho_18571 hx_18577) (jkO (tO (ql 0 false (fun w hm => ((hm.ow 0 o_137 3 xs_21 sp_139 (fun e => (ho_18571 e).1) encI64_len).at hx_18577)) (jkO (qh [0,0] (qe (jx_then (qi h (fun h => ?_) (fun h => ?_))))))))))
        ·refine jc_region (qh [0,0,0] ?_)
         obtain ⟨x_26, hx_18579, h⟩ := bd h
         exact tO (qx 0 (o_137.map fun b => ⟨b, 0, none⟩) 1 hx_18579 hn_18572 (spo ho_18571 hx_18579) (jkO (tO (p_strO 0 0 o_137 3 encI64 xs_21 sp_139 i_22 x_18 1 0 [(.int .i64 x_18)] (by kernel_rfl) (by kernel_rfl) (by kernel_rfl) (fun e => (ho_18571 e).1) encI64_len hx_18579 (by kernel_rfl) (by kernel_rfl) (jkO (qe (jx_inn (jx_then (jc_region (qh [0,0,0] (qe (qb ((xs_21.set i_22.toNat x_18), (w64 (i_22 + 1))) () h ⟨(List.length_set.trans hn_18572), (set_ho ho_18571)⟩ [0, 1, 2]))))))))))))
        ·exact jc_skip (jx_inn (jx_then (jc_region (qh [0,0,0] (qe (qb (xs_21, (w64 (i_22 + 1))) () h ⟨hn_18572, ho_18571⟩ [0, 1, 2]))))))
       ·refine jc_exit (jx_thenx (jx_leave xs_21 (Option.some.inj h).symm (fun e_18580 => ?_)))
        subst e_18580
        exact jx_ine (qm xs_21 ⟨hr_18573, hn_18572, ho_18571⟩ [0, 1, 2])
      ·rintro xs_19 ⟨h, hn_18558, ho_18557⟩
       replace h : spec_l05Tree.k_20 xs_8 i_9 i_12 i_13 x_16 xs_19 = some y_15829 := h
       rw [spec_l05Tree.k_20] at h
       exact jx_inn (qb (xs_19, (xs_8 ++ ([(Arr.set (Arr.set (Arr.rep 2 0) 0 i_12) 1 i_13)] : List (Arr 2 Int))), (w64 (i_9 + x_16))) ⟨o_18525, cap_18526, sp_18527, (xs_8 ++ ([(Arr.set (Arr.set (Arr.rep 2 0) 0 i_12) 1 i_13)] : List (Arr 2 Int))).length⟩ h ⟨hn_18558, ho_18557, rfl, hs_18528, ho_18529⟩ [0, 1])
    ·refine jc_exit (jx_thenx (jx_leave (xs_7, xs_8, i_9) (Option.some.inj h).symm (fun e_18958 => ?_)))
     subst e_18958
     exact jx_ine (qm ⟨xs_7, xs_8, i_9, o_15822, cap_15823, sp_15824, xs_8.length⟩ ⟨hr_15828, hn_15821, ho_15820, rfl, hs_15826, ho_15827⟩ [0, 1])
   ·rintro ⟨xs_3, xs_4, i_5, o_9550, cap_9551, sp_9552, n_9553⟩ ⟨h, hn_9549, ho_9548, rfl, hs_9554, ho_9555⟩
    replace h : spec_l05Tree.k_6 xs_3 xs_4 i_5 = some r := h
    rw [spec_l05Tree.k_6] at h
    refine jx_then (jc_seq (jc_region (qh [0,0,0,0] (qe (jx_then (jc_ret ?_))))))
    obtain rfl := Option.some.inj h
    exact qr [] (fun w hm => ⟨o_9550, cap_9551, sp_9552, xs_4.length, rfl, hs_9554, ho_9555, rfl, hm.pk [1]⟩)
/-! ### impl.within -/
def impl_within (n0 : Int) (low1 : Int) (high2 : Int) : Option (Bool) := some ((decide (low1 ≤ n0)) && (decide (n0 ≤ high2)))
theorem impl_within.calls (n0 : Int) (low1 : Int) (high2 : Int) (w : World) (r : Bool) (h : impl_within n0 low1 high2 = some r) :
    Calls Try.prog 70 #[(.int .i64 n0), (.int .i64 low1), (.int .i64 high2)] w fun e w' => ∃ v, e = .returned v ∧ (v = (.bool r) ∧ Mem w [] [] w') := by
  rw [impl_within] at h
  refine enter (args := [(.int .i64 n0), (.int .i64 low1), (.int .i64 high2)]) Try.func70 rfl Try.ntmps70 (by kernel_rfl) (L := []) (W := []) (Mem.start w) ?_
  refine jc_seq (jc_region (qh [0] (qe (jx_then (jc_seq (jc_region (qf [(0, 0), (0, 0), (0, 0), (0, 0), (0, 1), (0, 1), (0, 1), (0, 0), (0, 0)] (qe (jx_then (jc_ret ?_))))))))))
  obtain rfl := Option.some.inj h
  exact qr [] (fun w hm => ⟨rfl, hm.pk []⟩)
/-! ### impl.size[impl.Hammer] -/
def impl_size_Hammer (list0 : List GHammer) : Option (Int) := some (list0.length : Int)
theorem impl_size_Hammer.calls (list0 : List GHammer) (w : World) (r : Int) {A_a : Option Addr} {A_an : Nat} (A_c : Nat) (A_h : Rw w A_a 2 encGHammer list0) (A_hn : list0.length = A_an) (h : impl_size_Hammer list0 = some r) :
    Calls Try.prog 86 #[(.slice A_a A_an A_c)] w fun e w' => ∃ v, e = .returned v ∧ (v = (.int .i64 r) ∧ Mem w [] [] w') := by
  subst A_hn
  rw [impl_size_Hammer] at h
  refine enter (args := [(.slice A_a list0.length A_c)]) Try.func86 rfl Try.ntmps86 (by kernel_rfl) (L := []) (W := []) (Mem.start w) ?_
  refine jc_seq (jc_region (qh [0] (qe (jx_then (jc_seq (jc_region (qh [0,0,0] (qe (jx_then (jc_ret ?_))))))))))
  obtain rfl := Option.some.inj h
  exact qr [] (fun w hm => ⟨rfl, hm.pk []⟩)
/-! ### impl.isPitch -/
def impl_isPitch (n0 : Int) : Option (Bool) := (impl_within n0 0 47).bind fun t_1 => some t_1
theorem impl_isPitch.calls (n0 : Int) (w : World) (r : Bool) (h : impl_isPitch n0 = some r) :
    Calls Try.prog 178 #[(.int .i64 n0)] w fun e w' => ∃ v, e = .returned v ∧ (v = (.bool r) ∧ Mem w [] [] w') := by
  rw [impl_isPitch] at h
  refine enter (args := [(.int .i64 n0)]) Try.func178 rfl Try.ntmps178 (by kernel_rfl) (L := []) (W := []) (Mem.start w) ?_
  refine jc_seq (jc_region (qh [0] (qe (jx_then (jc_seq (jc_region (qh [0] ?_)))))))
  obtain ⟨t_1, ht_1, h⟩ := bd h
  refine tO (pc 0 (fun w hm => impl_within.calls n0 0 47 w _ ht_1) ?_)
  rintro w v w' hm ⟨rfl, hm'⟩
  refine ⟨_, hm.app hm', jkO ?_⟩
  clear hm hm'
  refine qh [0] (qe (jx_then (jc_ret ?_)))
  obtain rfl := Option.some.inj h
  exact qr [] (fun w hm => ⟨rfl, hm.pk []⟩)
/-! ### impl.ValidFrame$1 -/
def impl_ValidFrame_1 (h0 : GHammer) (p1 : GFrame) : Option (Bool) := (impl_isPitch (w64 h0.fPitch)).bind fun t_1 => (if (!t_1) = true then some true else (impl_within (w64 h0.fReady) 1 (if (w64 p1.fSteps) < 20 then (w64 p1.fSteps) else 20)).bind fun t_2 => some (!t_2))
theorem impl_ValidFrame_1.calls (h0 : GHammer) (p1 : GFrame) (w : World) (r : Bool) {F_a : Option Addr} {F_an : Nat} (F_c : Nat) (F_h : Rw w F_a 2 encGHammer p1.fHammers) (F_hn : p1.fHammers.length = F_an) (D_b : Nat) (hm0 : Mem w (bs [some D_b]) [⟨some D_b, 34, [(.int .i16 p1.fSteps), (.slice F_a F_an F_c)]⟩] w) (F_ha : p1.fHammers ≠ [] → aB F_a ∉ bs [some D_b]) (h : impl_ValidFrame_1 h0 p1 = some r) :
    Calls Try.prog 177 #[(.agg #[(.int .i8 h0.fPitch), (.int .i8 h0.fReady)]), (.pointer (some ⟨D_b, 0, none⟩))] w fun e w' => ∃ v, e = .returned v ∧ (v = (.bool r) ∧ Mem w (bs [some D_b]) [⟨some D_b, 34, [(.int .i16 p1.fSteps), (.slice F_a F_an F_c)]⟩] w') := by
  subst F_hn
  rw [impl_ValidFrame_1] at h
  refine enter (args := [(.agg #[(.int .i8 h0.fPitch), (.int .i8 h0.fReady)]), (.pointer (some ⟨D_b, 0, none⟩))]) Try.func177 rfl Try.ntmps177 (by kernel_rfl) (L := [⟨some D_b, 34, [(.int .i16 p1.fSteps), (.slice F_a p1.fHammers.length F_c)]⟩]) (W := bs [some D_b]) hm0 ?_
  refine jc_seq (jc_region (tO (qa 0 (fun b_1 => jkO (qh [0] (qe (jx_then (jc_seq (jc_region (qh [0,1,0] ?_))))))))))
  obtain ⟨t_1, ht_2, h⟩ := bd h
  refine tO (pc 0 (fun w hm => impl_isPitch.calls (w64 h0.fPitch) w _ ht_2) ?_)
  rintro w v w' hm ⟨rfl, hm'⟩
  refine ⟨_, hm.app hm', jkO ?_⟩
  clear hm hm'
  refine qf [(0, 0), (0, 0), (0, 1), (1, 1), (0, 1), (0, 1), (0, 1), (0, 1), (0, 1)] (qp 9 h (fun h => ?_) (fun h => ?_))
  ·refine qf [(0, 3), (0, 3), (0, 4), (0, 0)] (qe (jx_then (jc_ret ?_)))
   obtain rfl := Option.some.inj h
   exact qr [] (fun w hm => ⟨rfl, hm.pk [0]⟩)
  ·obtain ⟨t_2, ht_4, h⟩ := bd h
   refine tO (pc 2 (fun w hm => impl_within.calls (w64 h0.fReady) 1 (if (w64 p1.fSteps) < 20 then (w64 p1.fSteps) else 20) w _ ht_4) ?_)
   rintro w v w' hm ⟨rfl, hm'⟩
   refine ⟨_, hm.app hm', jkO ?_⟩
   clear hm hm'
   refine qf [(0, 2), (0, 5), (0, 0)] (qe (jx_then (jc_ret ?_)))
   obtain rfl := Option.some.inj h
   exact qr [] (fun w hm => ⟨rfl, hm.pk [0]⟩)
/-! ### slices.IndexFunc[[]impl.Hammer,impl.Hammer] -/
def slices_IndexFunc_Hammer_at_impl_ValidFrame_1.k_1 : Option (Int) := some (-1)
def slices_IndexFunc_Hammer_at_impl_ValidFrame_1.l_3 (s0 : List GHammer) (g1c0 : GFrame) : Int → Option ((Int) ⊕ (Int ⊕ Unit))
  | i_2 => (if (decide (i_2 < (s0.length : Int))) = true then (ix s0 i_2).bind fun x_5 => (impl_ValidFrame_1 x_5 g1c0).bind fun t_6 => (if t_6 = true then some (.inr (.inl i_2)) else some (.inl (w64 (i_2 + 1)))) else some (.inr (.inr ())))
def slices_IndexFunc_Hammer_at_impl_ValidFrame_1 (s0 : List GHammer) (g1c0 : GFrame) : Option (Int) := (loop (slices_IndexFunc_Hammer_at_impl_ValidFrame_1.l_3 s0 g1c0) 0).bind fun t_4 => match t_4 with | .inl p => some p | .inr p => slices_IndexFunc_Hammer_at_impl_ValidFrame_1.k_1
theorem slices_IndexFunc_Hammer_at_impl_ValidFrame_1.calls (s0 : List GHammer) (g1c0 : GFrame) (w : World) (r : Int) {A_a : Option Addr} {A_an : Nat} (A_c : Nat) (A_h : Rw w A_a 2 encGHammer s0) (A_hn : s0.length = A_an) {D_a : Option Addr} {D_an : Nat} (D_c : Nat) (D_h : Rw w D_a 2 encGHammer g1c0.fHammers) (D_hn : g1c0.fHammers.length = D_an) (B_b : Nat) (hm0 : Mem w (bs [some B_b]) [⟨some B_b, 34, [(.int .i16 g1c0.fSteps), (.slice D_a D_an D_c)]⟩] w) (A_ha : s0 ≠ [] → aB A_a ∉ bs [some B_b]) (D_ha : g1c0.fHammers ≠ [] → aB D_a ∉ bs [some B_b]) (h : slices_IndexFunc_Hammer_at_impl_ValidFrame_1 s0 g1c0 = some r) :
    Calls Try.prog 193 #[(.slice A_a A_an A_c), (.func (.func 177) #[] #[(.pointer (some ⟨B_b, 0, none⟩))])] w fun e w' => ∃ v, e = .returned v ∧ (v = (.int .i64 r) ∧ Mem w (bs [some B_b]) [⟨some B_b, 34, [(.int .i16 g1c0.fSteps), (.slice D_a D_an D_c)]⟩] w') := by
  subst A_hn D_hn
  rw [slices_IndexFunc_Hammer_at_impl_ValidFrame_1] at h
  refine enter (args := [(.slice A_a s0.length A_c), (.func (.func 177) #[] #[(.pointer (some ⟨B_b, 0, none⟩))])]) Try.func193 rfl Try.ntmps193 (by kernel_rfl) (L := [⟨some B_b, 34, [(.int .i16 g1c0.fSteps), (.slice D_a g1c0.fHammers.length D_c)]⟩]) (W := bs [some B_b]) hm0 ?_
  refine jc_seq (jc_region (qh [0] (qe (jx_then (jc_seq (jc_seq (jc_region (qh [0,0,0] (qe (jx_then (jc_meet (fun (_ : Unit) => slices_IndexFunc_Hammer_at_impl_ValidFrame_1.k_1 = some r) (fun (_ : Unit) => [(4, [], (.int .i64 0))]) (fun (_ : Unit) => [⟨some B_b, 34, [(.int .i16 g1c0.fSteps), (.slice D_a g1c0.fHammers.length D_c)]⟩]) ?_ ?_)))))))))))
  ·refine jc_block ?_
   obtain ⟨t_4, ht_40, hr_31⟩ := bd h
   refine jc_loop (fun (s : Int) (x : Unit) => match s, x with | i_2, _ => True) (fun (s : Int) (x : Unit) => match s, x with | i_2, _ => [(0, [], (.slice A_a s0.length A_c)), (1, [], (.func (.func 177) #[] #[(.pointer (some ⟨B_b, 0, none⟩))])), (4, [], (.int .i64 0)), (7, [], (.int .i64 (s0.length : Int))), (8, [], (.int .i64 i_2))]) (fun (s : Int) (x : Unit) => match s, x with | i_2, _ => [⟨some B_b, 34, [(.int .i16 g1c0.fSteps), (.slice D_a g1c0.fHammers.length D_c)]⟩]) ht_40 () trivial (by kernel_rfl) [0] (by kernel_rfl) (by kernel_rfl) ?_
   rintro i_2 _ y_32 _ h
   rw [slices_IndexFunc_Hammer_at_impl_ValidFrame_1.l_3] at h
   refine jc_seq (jc_region (qh [0] (qe (jx_then (jc_seq (qi h (fun h => ?_) (fun h => ?_)))))))
   ·refine jc_skip (jx_then (jc_seq (jc_block (jc_seq (jc_region (qh [0,0] (qe (jx_then (jc_seq (jc_region (qh [0,0,0] ?_)))))))))))
    obtain ⟨x_5, hx_35, h⟩ := bd h
    refine tO (qx 0 A_a 2 hx_35 rfl (A_h.sp hx_35) (jkO (tO (ql 0 true (fun w hm => ((hm.exRowW A_h A_ha).at hx_35)) (jkO ?_)))))
    obtain ⟨t_6, ht_36, h⟩ := bd h
    refine tO (pc 0 (fun w hm => impl_ValidFrame_1.calls x_5 g1c0 w _ D_c (hm.exRowW D_h D_ha) rfl B_b (hm.pass (N := [⟨some B_b, 34, [(.int .i16 g1c0.fSteps), (.slice D_a g1c0.fHammers.length D_c)]⟩]) [0] (by kernel_rfl) (by kernel_rfl)) (hm.exApart (N := [⟨some B_b, 34, [(.int .i16 g1c0.fSteps), (.slice D_a g1c0.fHammers.length D_c)]⟩]) D_h D_ha [0] (by kernel_rfl)) ht_36) ?_)
    rintro w v w' hm ⟨rfl, hm'⟩
    refine ⟨_, hm.appW (ps := [(0, ⟨some B_b, 34, [(.int .i16 g1c0.fSteps), (.slice D_a g1c0.fHammers.length D_c)]⟩)]) (N := []) hm' (by kernel_rfl) (by kernel_rfl), jkO ?_⟩
    clear hm hm'
    refine qe (jx_then (qi h (fun h => ?_) (fun h => ?_)))
    ·refine jc_seq (jc_region (qh [0,0] (qe (jx_then (jc_ret (jx_inr (jx_thenr (jx_leaver (.inl i_2) (Option.some.inj h).symm (fun e_38 => ?_)))))))))
     subst e_38
     refine jx_inr (jx_thenr (jx_thenr ?_))
     obtain rfl := Option.some.inj hr_31
     exact qr [] (fun w hm => ⟨rfl, hm.pk [0]⟩)
    ·exact jc_skip (jx_inn (jx_then (jc_region (qh [0,0] (qe (qb (w64 (i_2 + 1)) () h trivial [0]))))))
   ·refine jc_exit (jx_thenx (jx_leave (.inr ()) (Option.some.inj h).symm (fun e_39 => ?_)))
    subst e_39
    exact jx_ine (qm () hr_31 [0])
  ·rintro _ h
   replace h : slices_IndexFunc_Hammer_at_impl_ValidFrame_1.k_1 = some r := h
   rw [slices_IndexFunc_Hammer_at_impl_ValidFrame_1.k_1] at h
   refine jx_then (jc_seq (jc_region (qh [0] (qe (jx_then (jc_ret ?_))))))
   obtain rfl := Option.some.inj h
   exact qr [] (fun w hm => ⟨rfl, hm.pk [0]⟩)
/-! ### slices.ContainsFunc[[]impl.Hammer,impl.Hammer] -/
def slices_ContainsFunc_Hammer_at_impl_ValidFrame_1 (s0 : List GHammer) (g1c0 : GFrame) : Option (Bool) := (slices_IndexFunc_Hammer_at_impl_ValidFrame_1 s0 g1c0).bind fun t_1 => some (decide (t_1 ≥ 0))
theorem slices_ContainsFunc_Hammer_at_impl_ValidFrame_1.calls (s0 : List GHammer) (g1c0 : GFrame) (w : World) (r : Bool) {A_a : Option Addr} {A_an : Nat} (A_c : Nat) (A_h : Rw w A_a 2 encGHammer s0) (A_hn : s0.length = A_an) {D_a : Option Addr} {D_an : Nat} (D_c : Nat) (D_h : Rw w D_a 2 encGHammer g1c0.fHammers) (D_hn : g1c0.fHammers.length = D_an) (B_b : Nat) (hm0 : Mem w (bs [some B_b]) [⟨some B_b, 34, [(.int .i16 g1c0.fSteps), (.slice D_a D_an D_c)]⟩] w) (A_ha : s0 ≠ [] → aB A_a ∉ bs [some B_b]) (D_ha : g1c0.fHammers ≠ [] → aB D_a ∉ bs [some B_b]) (h : slices_ContainsFunc_Hammer_at_impl_ValidFrame_1 s0 g1c0 = some r) :
    Calls Try.prog 176 #[(.slice A_a A_an A_c), (.func (.func 177) #[] #[(.pointer (some ⟨B_b, 0, none⟩))])] w fun e w' => ∃ v, e = .returned v ∧ (v = (.bool r) ∧ Mem w (bs [some B_b]) [⟨some B_b, 34, [(.int .i16 g1c0.fSteps), (.slice D_a D_an D_c)]⟩] w') := by
  subst A_hn D_hn
  rw [slices_ContainsFunc_Hammer_at_impl_ValidFrame_1] at h
  refine enter (args := [(.slice A_a s0.length A_c), (.func (.func 177) #[] #[(.pointer (some ⟨B_b, 0, none⟩))])]) Try.func176 rfl Try.ntmps176 (by kernel_rfl) (L := [⟨some B_b, 34, [(.int .i16 g1c0.fSteps), (.slice D_a g1c0.fHammers.length D_c)]⟩]) (W := bs [some B_b]) hm0 ?_
  refine jc_seq (jc_region (qh [0] (qe (jx_then (jc_seq (jc_region (qh [0,0] ?_)))))))
  obtain ⟨t_1, ht_1, h⟩ := bd h
  refine tO (pc 0 (fun w hm => slices_IndexFunc_Hammer_at_impl_ValidFrame_1.calls s0 g1c0 w _ A_c (hm.exRowW A_h A_ha) rfl D_c (hm.exRowW D_h D_ha) rfl B_b (hm.pass (N := [⟨some B_b, 34, [(.int .i16 g1c0.fSteps), (.slice D_a g1c0.fHammers.length D_c)]⟩]) [0] (by kernel_rfl) (by kernel_rfl)) (hm.exApart (N := [⟨some B_b, 34, [(.int .i16 g1c0.fSteps), (.slice D_a g1c0.fHammers.length D_c)]⟩]) A_h A_ha [0] (by kernel_rfl)) (hm.exApart (N := [⟨some B_b, 34, [(.int .i16 g1c0.fSteps), (.slice D_a g1c0.fHammers.length D_c)]⟩]) D_h D_ha [0] (by kernel_rfl)) ht_1) ?_)
  rintro w v w' hm ⟨rfl, hm'⟩
  refine ⟨_, hm.appW (ps := [(0, ⟨some B_b, 34, [(.int .i16 g1c0.fSteps), (.slice D_a g1c0.fHammers.length D_c)]⟩)]) (N := []) hm' (by kernel_rfl) (by kernel_rfl), jkO ?_⟩
  clear hm hm'
  refine qh [0,0] (qe (jx_then (jc_ret ?_)))
  obtain rfl := Option.some.inj h
  exact qr [] (fun w hm => ⟨rfl, hm.pk [0]⟩)
/-! ### impl.ValidFrame -/
def impl_ValidFrame (f0 : GFrame) : Option (Bool) := (impl_within (w64 f0.fSteps) 2 96).bind fun t_1 => (if t_1 = true then (impl_size_Hammer f0.fHammers).bind fun t_2 => (impl_within t_2 1 24).bind fun t_3 => (if t_3 = true then (slices_ContainsFunc_Hammer_at_impl_ValidFrame_1 f0.fHammers f0).bind fun t_4 => some (!t_4) else some false) else some false)
theorem impl_ValidFrame.calls (f0 : GFrame) (w : World) (r : Bool) {C_a : Option Addr} {C_an : Nat} (C_c : Nat) (C_h : Rw w C_a 2 encGHammer f0.fHammers) (C_hn : f0.fHammers.length = C_an) (h : impl_ValidFrame f0 = some r) :
    Calls Try.prog 147 #[(.agg #[(.int .i16 f0.fSteps), (.slice C_a C_an C_c)])] w fun e w' => ∃ v, e = .returned v ∧ (v = (.bool r) ∧ Mem w [] [] w') := by
  subst C_hn
  rw [impl_ValidFrame] at h
  refine enter (args := [(.agg #[(.int .i16 f0.fSteps), (.slice C_a f0.fHammers.length C_c)])]) Try.func147 rfl Try.ntmps147 (by kernel_rfl) (L := []) (W := []) (Mem.start w) ?_
  refine jc_seq (jc_region (tO (qa 0 (fun b_1 => jkO (qh [0] (qe (jx_then (jc_seq (jc_region (qh [0,0,0] ?_))))))))))
  obtain ⟨t_1, ht_2, h⟩ := bd h
  refine tO (pc 0 (fun w hm => impl_within.calls (w64 f0.fSteps) 2 96 w _ ht_2) ?_)
  rintro w v w' hm ⟨rfl, hm'⟩
  refine ⟨_, hm.app hm', jkO ?_⟩
  clear hm hm'
  refine qf [(0, 0), (0, 1), (0, 1)] (qp 7 h (fun h => ?_) (fun h => ?_))
  ·obtain ⟨t_2, ht_4, h⟩ := bd h
   refine tO (pc 2 (fun w hm => impl_size_Hammer.calls f0.fHammers w _ C_c (hm.xr C_h) rfl ht_4) ?_)
   rintro w v w' hm ⟨rfl, hm'⟩
   refine ⟨_, hm.app hm', jkO ?_⟩
   clear hm hm'
   obtain ⟨t_3, ht_5, h⟩ := bd h
   refine tO (pc 2 (fun w hm => impl_within.calls t_2 1 24 w _ ht_5) ?_)
   rintro w v w' hm ⟨rfl, hm'⟩
   refine ⟨_, hm.app hm', jkO ?_⟩
   clear hm hm'
   refine qf [(0, 4), (0, 0), (0, 1), (0, 1), (0, 1)] (qp 13 h (fun h => ?_) (fun h => ?_))
   ·obtain ⟨t_4, ht_7, h⟩ := bd h
    refine tO (pc 2 (fun w hm => slices_ContainsFunc_Hammer_at_impl_ValidFrame_1.calls f0.fHammers f0 w _ C_c (hm.xr C_h) rfl C_c (hm.xr C_h) rfl b_1 (hm.pass (N := [⟨some b_1, 34, [(.int .i16 f0.fSteps), (.slice C_a f0.fHammers.length C_c)]⟩]) [0] (by kernel_rfl) (by kernel_rfl)) (hm.exApart (N := [⟨some b_1, 34, [(.int .i16 f0.fSteps), (.slice C_a f0.fHammers.length C_c)]⟩]) C_h (fun _ => List.not_mem_nil) [0] (by kernel_rfl)) (hm.exApart (N := [⟨some b_1, 34, [(.int .i16 f0.fSteps), (.slice C_a f0.fHammers.length C_c)]⟩]) C_h (fun _ => List.not_mem_nil) [0] (by kernel_rfl)) ht_7) ?_)
    rintro w v w' hm ⟨rfl, hm'⟩
    refine ⟨_, hm.appW (ps := [(0, ⟨some b_1, 34, [(.int .i16 f0.fSteps), (.slice C_a f0.fHammers.length C_c)]⟩)]) (N := []) hm' (by kernel_rfl) (by kernel_rfl), jkO ?_⟩
    clear hm hm'
    refine qf [(0, 2), (0, 4), (0, 0)] (qe (jx_then (jc_ret ?_)))
    obtain rfl := Option.some.inj h
    exact qr [] (fun w hm => ⟨rfl, hm.pk []⟩)
   ·refine qf [(0, 3), (0, 3), (0, 5), (0, 0)] (qe (jx_then (jc_ret ?_)))
    obtain rfl := Option.some.inj h
    exact qr [] (fun w hm => ⟨rfl, hm.pk []⟩)
  ·refine qf [(0, 3), (0, 3), (0, 5), (0, 0), (0, 3), (0, 3), (0, 3), (0, 3), (0, 3), (0, 5), (0, 0)] (qe (jx_then (jc_ret ?_)))
   obtain rfl := Option.some.inj h
   exact qr [] (fun w hm => ⟨rfl, hm.pk []⟩)
/-! ### (impl.Frame).isDrum -/
def impl_Frame_isDrum.k_1 : Option (Bool) := some true
def impl_Frame_isDrum.k_7 (i_2 : Int) (q_6 : Bool) : Option ((Int) ⊕ (Bool ⊕ Unit)) := (if q_6 = true then some (.inr (.inl false)) else some (.inl (w64 (i_2 + 1))))
def impl_Frame_isDrum.l_3 (f0 : GFrame) (d1 : Arr 96 Int) : Int → Option ((Int) ⊕ (Bool ⊕ Unit))
  | i_2 => (if (decide (i_2 < 96)) = true then (ix d1.1 i_2).bind fun x_5 => (if 0 ≤ (f0.fHammers.length : Int) then (if ((bShr .u32 x_5 (f0.fHammers.length : Int)) != 0) = true then impl_Frame_isDrum.k_7 i_2 true else impl_Frame_isDrum.k_7 i_2 ((decide (i_2 ≥ (w64 f0.fSteps))) && (x_5 != 0))) else none) else some (.inr (.inr ())))
def impl_Frame_isDrum (f0 : GFrame) (d1 : Arr 96 Int) : Option (Bool) := (loop (impl_Frame_isDrum.l_3 f0 d1) 0).bind fun t_4 => match t_4 with | .inl p => some p | .inr p => impl_Frame_isDrum.k_1
theorem impl_Frame_isDrum.calls (f0 : GFrame) (d1 : Arr 96 Int) (w : World) (r : Bool) {C_a : Option Addr} {C_an : Nat} (C_c : Nat) (C_h : Rw w C_a 2 encGHammer f0.fHammers) (C_hn : f0.fHammers.length = C_an) (h : impl_Frame_isDrum f0 d1 = some r) :
    Calls Try.prog 150 #[(.agg #[(.int .i16 f0.fSteps), (.slice C_a C_an C_c)]), (.agg (row encU32 d1.1 []).toArray)] w fun e w' => ∃ v, e = .returned v ∧ (v = (.bool r) ∧ Mem w [] [] w') := by
  subst C_hn
  rw [impl_Frame_isDrum] at h
  refine enter (args := [(.agg #[(.int .i16 f0.fSteps), (.slice C_a f0.fHammers.length C_c)]), (.agg (row encU32 d1.1 []).toArray)]) Try.func150 rfl Try.ntmps150 (by kernel_rfl) (L := []) (W := []) (Mem.start w) ?_
  refine jc_seq (jc_region (tO (qa 0 (fun b_1 => jkO (tO (qa 0 (fun b_2 => jkO (qh [0] (qe (jx_then (jc_seq (jc_seq (jc_region (tO (p_ldA 0 1 b_2 96 1 89 encU32 d1 (by kernel_rfl) (by kernel_rfl) (by kernel_rfl) encU32_len (by kernel_rfl) (jkO (qh [0] (qe (jx_then (jc_meet (fun (_ : Unit) => impl_Frame_isDrum.k_1 = some r) (fun (_ : Unit) => [(4, [], (.bool false))]) (fun (_ : Unit) => [⟨some b_1, 34, [(.int .i16 f0.fSteps), (.slice C_a f0.fHammers.length C_c)]⟩, ⟨(some b_2), 89, row encU32 d1.1 []⟩]) ?_ ?_))))))))))))))))))))
  ·refine jc_block ?_
   obtain ⟨t_4, ht_60, hr_48⟩ := bd h
   refine jc_loop (fun (s : Int) (x : Unit) => match s, x with | i_2, _ => True) (fun (s : Int) (x : Unit) => match s, x with | i_2, _ => [(2, [], (.pointer (some ⟨b_1, 0, none⟩))), (4, [], (.bool false)), (7, [], (.agg (row encU32 d1.1 []).toArray)), (8, [], (.int .i64 i_2))]) (fun (s : Int) (x : Unit) => match s, x with | i_2, _ => [⟨some b_1, 34, [(.int .i16 f0.fSteps), (.slice C_a f0.fHammers.length C_c)]⟩, ⟨(some b_2), 89, row encU32 d1.1 []⟩]) ht_60 () trivial (by kernel_rfl) [0, 1] (by kernel_rfl) (by kernel_rfl) ?_
   rintro i_2 _ y_49 _ h
   rw [impl_Frame_isDrum.l_3] at h
   refine jc_seq (jc_region (qh [0] (qe (jx_then (jc_seq (qi h (fun h => ?_) (fun h => ?_)))))))
   ·refine jc_skip (jx_then (jc_seq (jc_block (jc_seq (jc_region (qh [0] ?_))))))
    obtain ⟨x_5, hx_52, h⟩ := bd h
    refine tO (p_ixA 0 encU32 (fun x => (.int .u32 x)) d1 i_2 (by kernel_rfl) (by kernel_rfl) (fun _ => rfl) hx_52 (jkO (qh [0,0] (qe (jx_then (jc_seq (jc_meet (fun (j : Bool) => match j with | q_6 => impl_Frame_isDrum.k_7 i_2 q_6 = some y_49) (fun (j : Bool) => match j with | q_6 => [(2, [], (.pointer (some ⟨b_1, 0, none⟩))), (4, [], (.bool false)), (7, [], (.agg (row encU32 d1.1 []).toArray)), (8, [], (.int .i64 i_2)), (28, [], (.bool q_6))]) (fun (j : Bool) => match j with | q_6 => [⟨some b_1, 34, [(.int .i16 f0.fSteps), (.slice C_a f0.fHammers.length C_c)]⟩, ⟨(some b_2), 89, row encU32 d1.1 []⟩]) ?_ ?_)))))))
    ·refine jc_region (qh [0,0,0,0] ?_)
     obtain ⟨hg_57, h⟩ := gd h
     refine tO (p_shr 0 .u32 x_5 .i64 (f0.fHammers.length : Int) (by kernel_rfl) (by kernel_rfl) hg_57 (jkO (qf [(0, 0), (0, 0), (0, 1), (0, 1), (0, 1), (0, 1), (0, 1)] (qp 18 h (fun h => ?_) (fun h => ?_)))))
     ·exact qf [(0, 3), (0, 3), (0, 3), (0, 3), (0, 4)] (qe (qm true h [0, 1]))
     ·exact qf [(0, 2), (0, 1), (0, 1), (0, 2), (0, 5)] (qe (qm ((decide (i_2 ≥ (w64 f0.fSteps))) && (x_5 != 0)) h [0, 1]))
    ·rintro q_6 h
     replace h : impl_Frame_isDrum.k_7 i_2 q_6 = some y_49 := h
     rw [impl_Frame_isDrum.k_7] at h
     refine jx_then (qi h (fun h => ?_) (fun h => ?_))
     ·refine jc_seq (jc_region (qh [0] (qe (jx_then (jc_ret (jx_inr (jx_thenr (jx_leaver (.inl false) (Option.some.inj h).symm (fun e_56 => ?_)))))))))
      subst e_56
      refine jx_inr (jx_thenr (jx_thenr ?_))
      obtain rfl := Option.some.inj hr_48
      exact qr [] (fun w hm => ⟨rfl, hm.pk []⟩)
     ·exact jc_skip (jx_inn (jx_then (jc_region (qh [0,0] (qe (qb (w64 (i_2 + 1)) () h trivial [0, 1]))))))
   ·refine jc_exit (jx_thenx (jx_leave (.inr ()) (Option.some.inj h).symm (fun e_59 => ?_)))
    subst e_59
    exact jx_ine (qm () hr_48 [0, 1])
  ·rintro _ h
   replace h : impl_Frame_isDrum.k_1 = some r := h
   rw [impl_Frame_isDrum.k_1] at h
   refine jx_then (jc_seq (jc_region (qh [0] (qe (jx_then (jc_ret ?_))))))
   obtain rfl := Option.some.inj h
   exact qr [] (fun w hm => ⟨rfl, hm.pk []⟩)
/-! ### impl.drumCode$1 -/
def impl_drumCode_1 (d0 : Arr 96 Int) (p1 : GFrame) : Option (Bool) := (impl_Frame_isDrum p1 d0).bind fun t_1 => some (!t_1)
theorem impl_drumCode_1.calls (d0 : Arr 96 Int) (p1 : GFrame) (w : World) (r : Bool) {D_a : Option Addr} {D_an : Nat} (D_c : Nat) (D_h : Rw w D_a 2 encGHammer p1.fHammers) (D_hn : p1.fHammers.length = D_an) (B_b : Nat) (hm0 : Mem w (bs [some B_b]) [⟨some B_b, 34, [(.int .i16 p1.fSteps), (.slice D_a D_an D_c)]⟩] w) (D_ha : p1.fHammers ≠ [] → aB D_a ∉ bs [some B_b]) (h : impl_drumCode_1 d0 p1 = some r) :
    Calls Try.prog 149 #[(.agg (row encU32 d0.1 []).toArray), (.pointer (some ⟨B_b, 0, none⟩))] w fun e w' => ∃ v, e = .returned v ∧ (v = (.bool r) ∧ Mem w (bs [some B_b]) [⟨some B_b, 34, [(.int .i16 p1.fSteps), (.slice D_a D_an D_c)]⟩] w') := by
  subst D_hn
  rw [impl_drumCode_1] at h
  refine enter (args := [(.agg (row encU32 d0.1 []).toArray), (.pointer (some ⟨B_b, 0, none⟩))]) Try.func149 rfl Try.ntmps149 (by kernel_rfl) (L := [⟨some B_b, 34, [(.int .i16 p1.fSteps), (.slice D_a p1.fHammers.length D_c)]⟩]) (W := bs [some B_b]) hm0 ?_
  refine jc_seq (jc_region (tO (qa 0 (fun b_1 => jkO (qh [0] (qe (jx_then (jc_seq (jc_region (qh [0] (tO (p_ldA 0 1 b_1 96 1 89 encU32 d0 (by kernel_rfl) (by kernel_rfl) (by kernel_rfl) encU32_len (by kernel_rfl) (jkO ?_)))))))))))))
  obtain ⟨t_1, ht_2, h⟩ := bd h
  refine tO (pc 0 (fun w hm => impl_Frame_isDrum.calls p1 d0 w _ D_c (hm.exRowW D_h D_ha) rfl ht_2) ?_)
  rintro w v w' hm ⟨rfl, hm'⟩
  refine ⟨_, hm.app hm', jkO ?_⟩
  clear hm hm'
  refine qh [0,0] (qe (jx_then (jc_ret ?_)))
  obtain rfl := Option.some.inj h
  exact qr [] (fun w hm => ⟨rfl, hm.pk [0]⟩)
/-! ### slices.IndexFunc[[]impl.Drum,impl.Drum] -/
def slices_IndexFunc_Drum_at_impl_drumCode_1.k_1 : Option (Int) := some (-1)
def slices_IndexFunc_Drum_at_impl_drumCode_1.l_3 (s0 : List (Arr 96 Int)) (g1c0 : GFrame) : Int → Option ((Int) ⊕ (Int ⊕ Unit))
  | i_2 => (if (decide (i_2 < (s0.length : Int))) = true then (ix s0 i_2).bind fun x_5 => (impl_drumCode_1 x_5 g1c0).bind fun t_6 => (if t_6 = true then some (.inr (.inl i_2)) else some (.inl (w64 (i_2 + 1)))) else some (.inr (.inr ())))
def slices_IndexFunc_Drum_at_impl_drumCode_1 (s0 : List (Arr 96 Int)) (g1c0 : GFrame) : Option (Int) := (loop (slices_IndexFunc_Drum_at_impl_drumCode_1.l_3 s0 g1c0) 0).bind fun t_4 => match t_4 with | .inl p => some p | .inr p => slices_IndexFunc_Drum_at_impl_drumCode_1.k_1
theorem slices_IndexFunc_Drum_at_impl_drumCode_1.calls (s0 : List (Arr 96 Int)) (g1c0 : GFrame) (w : World) (r : Int) {A_a : Option Addr} {A_an : Nat} (A_c : Nat) (A_h : Rw w A_a 96 encA96U32 s0) (A_hn : s0.length = A_an) {D_a : Option Addr} {D_an : Nat} (D_c : Nat) (D_h : Rw w D_a 2 encGHammer g1c0.fHammers) (D_hn : g1c0.fHammers.length = D_an) (B_b : Nat) (hm0 : Mem w (bs [some B_b]) [⟨some B_b, 34, [(.int .i16 g1c0.fSteps), (.slice D_a D_an D_c)]⟩] w) (A_ha : s0 ≠ [] → aB A_a ∉ bs [some B_b]) (D_ha : g1c0.fHammers ≠ [] → aB D_a ∉ bs [some B_b]) (h : slices_IndexFunc_Drum_at_impl_drumCode_1 s0 g1c0 = some r) :
    Calls Try.prog 179 #[(.slice A_a A_an A_c), (.func (.func 149) #[] #[(.pointer (some ⟨B_b, 0, none⟩))])] w fun e w' => ∃ v, e = .returned v ∧ (v = (.int .i64 r) ∧ Mem w (bs [some B_b]) [⟨some B_b, 34, [(.int .i16 g1c0.fSteps), (.slice D_a D_an D_c)]⟩] w') := by
  subst A_hn D_hn
  rw [slices_IndexFunc_Drum_at_impl_drumCode_1] at h
  refine enter (args := [(.slice A_a s0.length A_c), (.func (.func 149) #[] #[(.pointer (some ⟨B_b, 0, none⟩))])]) Try.func179 rfl Try.ntmps179 (by kernel_rfl) (L := [⟨some B_b, 34, [(.int .i16 g1c0.fSteps), (.slice D_a g1c0.fHammers.length D_c)]⟩]) (W := bs [some B_b]) hm0 ?_
  refine jc_seq (jc_region (qh [0] (qe (jx_then (jc_seq (jc_seq (jc_region (qh [0,0,0] (qe (jx_then (jc_meet (fun (_ : Unit) => slices_IndexFunc_Drum_at_impl_drumCode_1.k_1 = some r) (fun (_ : Unit) => [(4, [], (.int .i64 0))]) (fun (_ : Unit) => [⟨some B_b, 34, [(.int .i16 g1c0.fSteps), (.slice D_a g1c0.fHammers.length D_c)]⟩]) ?_ ?_)))))))))))
  ·refine jc_block ?_
   obtain ⟨t_4, ht_40, hr_31⟩ := bd h
   refine jc_loop (fun (s : Int) (x : Unit) => match s, x with | i_2, _ => True) (fun (s : Int) (x : Unit) => match s, x with | i_2, _ => [(0, [], (.slice A_a s0.length A_c)), (1, [], (.func (.func 149) #[] #[(.pointer (some ⟨B_b, 0, none⟩))])), (4, [], (.int .i64 0)), (7, [], (.int .i64 (s0.length : Int))), (8, [], (.int .i64 i_2))]) (fun (s : Int) (x : Unit) => match s, x with | i_2, _ => [⟨some B_b, 34, [(.int .i16 g1c0.fSteps), (.slice D_a g1c0.fHammers.length D_c)]⟩]) ht_40 () trivial (by kernel_rfl) [0] (by kernel_rfl) (by kernel_rfl) ?_
   rintro i_2 _ y_32 _ h
   rw [slices_IndexFunc_Drum_at_impl_drumCode_1.l_3] at h
   refine jc_seq (jc_region (qh [0] (qe (jx_then (jc_seq (qi h (fun h => ?_) (fun h => ?_)))))))
   ·refine jc_skip (jx_then (jc_seq (jc_block (jc_seq (jc_region (qh [0,0] (qe (jx_then (jc_seq (jc_region (qh [0,0,0] ?_)))))))))))
    obtain ⟨x_5, hx_35, h⟩ := bd h
    refine tO (qx 0 A_a 96 hx_35 rfl (A_h.sp hx_35) (jkO (tO (p_ldx 0 (aB A_a) (aO A_a + i_2.toNat * 96) (encA96U32 x_5) 96 (by kernel_rfl) (by kernel_rfl) (encA96U32_len x_5) (fun w hm => ((hm.exRowW A_h A_ha).at hx_35)) (jkO ?_)))))
    obtain ⟨t_6, ht_36, h⟩ := bd h
    refine tO (pc 0 (fun w hm => impl_drumCode_1.calls x_5 g1c0 w _ D_c (hm.exRowW D_h D_ha) rfl B_b (hm.pass (N := [⟨some B_b, 34, [(.int .i16 g1c0.fSteps), (.slice D_a g1c0.fHammers.length D_c)]⟩]) [0] (by kernel_rfl) (by kernel_rfl)) (hm.exApart (N := [⟨some B_b, 34, [(.int .i16 g1c0.fSteps), (.slice D_a g1c0.fHammers.length D_c)]⟩]) D_h D_ha [0] (by kernel_rfl)) ht_36) ?_)
    rintro w v w' hm ⟨rfl, hm'⟩
    refine ⟨_, hm.appW (ps := [(0, ⟨some B_b, 34, [(.int .i16 g1c0.fSteps), (.slice D_a g1c0.fHammers.length D_c)]⟩)]) (N := []) hm' (by kernel_rfl) (by kernel_rfl), jkO ?_⟩
    clear hm hm'
    refine qe (jx_then (qi h (fun h => ?_) (fun h => ?_)))
    ·refine jc_seq (jc_region (qh [0,0] (qe (jx_then (jc_ret (jx_inr (jx_thenr (jx_leaver (.inl i_2) (Option.some.inj h).symm (fun e_38 => ?_)))))))))
     subst e_38
     refine jx_inr (jx_thenr (jx_thenr ?_))
     obtain rfl := Option.some.inj hr_31
     exact qr [] (fun w hm => ⟨rfl, hm.pk [0]⟩)
    ·exact jc_skip (jx_inn (jx_then (jc_region (qh [0,0] (qe (qb (w64 (i_2 + 1)) () h trivial [0]))))))
   ·refine jc_exit (jx_thenx (jx_leave (.inr ()) (Option.some.inj h).symm (fun e_39 => ?_)))
    subst e_39
    exact jx_ine (qm () hr_31 [0])
  ·rintro _ h
   replace h : slices_IndexFunc_Drum_at_impl_drumCode_1.k_1 = some r := h
   rw [slices_IndexFunc_Drum_at_impl_drumCode_1.k_1] at h
   refine jx_then (jc_seq (jc_region (qh [0] (qe (jx_then (jc_ret ?_))))))
   obtain rfl := Option.some.inj h
   exact qr [] (fun w hm => ⟨rfl, hm.pk [0]⟩)
/-! ### slices.ContainsFunc[[]impl.Drum,impl.Drum] -/
def slices_ContainsFunc_Drum_at_impl_drumCode_1 (s0 : List (Arr 96 Int)) (g1c0 : GFrame) : Option (Bool) := (slices_IndexFunc_Drum_at_impl_drumCode_1 s0 g1c0).bind fun t_1 => some (decide (t_1 ≥ 0))
theorem slices_ContainsFunc_Drum_at_impl_drumCode_1.calls (s0 : List (Arr 96 Int)) (g1c0 : GFrame) (w : World) (r : Bool) {A_a : Option Addr} {A_an : Nat} (A_c : Nat) (A_h : Rw w A_a 96 encA96U32 s0) (A_hn : s0.length = A_an) {D_a : Option Addr} {D_an : Nat} (D_c : Nat) (D_h : Rw w D_a 2 encGHammer g1c0.fHammers) (D_hn : g1c0.fHammers.length = D_an) (B_b : Nat) (hm0 : Mem w (bs [some B_b]) [⟨some B_b, 34, [(.int .i16 g1c0.fSteps), (.slice D_a D_an D_c)]⟩] w) (A_ha : s0 ≠ [] → aB A_a ∉ bs [some B_b]) (D_ha : g1c0.fHammers ≠ [] → aB D_a ∉ bs [some B_b]) (h : slices_ContainsFunc_Drum_at_impl_drumCode_1 s0 g1c0 = some r) :
    Calls Try.prog 148 #[(.slice A_a A_an A_c), (.func (.func 149) #[] #[(.pointer (some ⟨B_b, 0, none⟩))])] w fun e w' => ∃ v, e = .returned v ∧ (v = (.bool r) ∧ Mem w (bs [some B_b]) [⟨some B_b, 34, [(.int .i16 g1c0.fSteps), (.slice D_a D_an D_c)]⟩] w') := by
  subst A_hn D_hn
  rw [slices_ContainsFunc_Drum_at_impl_drumCode_1] at h
  refine enter (args := [(.slice A_a s0.length A_c), (.func (.func 149) #[] #[(.pointer (some ⟨B_b, 0, none⟩))])]) Try.func148 rfl Try.ntmps148 (by kernel_rfl) (L := [⟨some B_b, 34, [(.int .i16 g1c0.fSteps), (.slice D_a g1c0.fHammers.length D_c)]⟩]) (W := bs [some B_b]) hm0 ?_
  refine jc_seq (jc_region (qh [0] (qe (jx_then (jc_seq (jc_region (qh [0,0] ?_)))))))
  obtain ⟨t_1, ht_1, h⟩ := bd h
  refine tO (pc 0 (fun w hm => slices_IndexFunc_Drum_at_impl_drumCode_1.calls s0 g1c0 w _ A_c (hm.exRowW A_h A_ha) rfl D_c (hm.exRowW D_h D_ha) rfl B_b (hm.pass (N := [⟨some B_b, 34, [(.int .i16 g1c0.fSteps), (.slice D_a g1c0.fHammers.length D_c)]⟩]) [0] (by kernel_rfl) (by kernel_rfl)) (hm.exApart (N := [⟨some B_b, 34, [(.int .i16 g1c0.fSteps), (.slice D_a g1c0.fHammers.length D_c)]⟩]) A_h A_ha [0] (by kernel_rfl)) (hm.exApart (N := [⟨some B_b, 34, [(.int .i16 g1c0.fSteps), (.slice D_a g1c0.fHammers.length D_c)]⟩]) D_h D_ha [0] (by kernel_rfl)) ht_1) ?_)
  rintro w v w' hm ⟨rfl, hm'⟩
  refine ⟨_, hm.appW (ps := [(0, ⟨some B_b, 34, [(.int .i16 g1c0.fSteps), (.slice D_a g1c0.fHammers.length D_c)]⟩)]) (N := []) hm' (by kernel_rfl) (by kernel_rfl), jkO ?_⟩
  clear hm hm'
  refine qh [0,0] (qe (jx_then (jc_ret ?_)))
  obtain rfl := Option.some.inj h
  exact qr [] (fun w hm => ⟨rfl, hm.pk [0]⟩)
/-! ### impl.unless -/
def impl_unless (is0 : Bool) (code1 : Int) : Option (Int) := (if is0 = true then some 0 else some code1)
theorem impl_unless.calls (is0 : Bool) (code1 : Int) (w : World) (r : Int) (h : impl_unless is0 code1 = some r) :
    Calls Try.prog 94 #[(.bool is0), (.int .i64 code1)] w fun e w' => ∃ v, e = .returned v ∧ (v = (.int .i64 r) ∧ Mem w [] [] w') := by
  rw [impl_unless] at h
  refine enter (args := [(.bool is0), (.int .i64 code1)]) Try.func94 rfl Try.ntmps94 (by kernel_rfl) (L := []) (W := []) (Mem.start w) ?_
  refine jc_seq (jc_region (qh [0] (qe (jx_then (jc_seq (jc_seq (jc_region (qh [0] (qe (jx_then (qi h (fun h => ?_) (fun h => ?_))))))))))))
  ·refine jc_seq (jc_region (qh [0] (qe (jx_then (jc_ret (jx_thenr ?_))))))
   obtain rfl := Option.some.inj h
   exact qr [] (fun w hm => ⟨rfl, hm.pk []⟩)
  ·refine jc_skip (jx_then (jc_seq (jc_region (qh [0,0] (qe (jx_then (jc_ret ?_)))))))
   obtain rfl := Option.some.inj h
   exact qr [] (fun w hm => ⟨rfl, hm.pk []⟩)
/-! ### impl.drumCode -/
def impl_drumCode (f0 : GFrame) (list1 : List (Arr 96 Int)) : Option (Int) := (impl_ValidFrame f0).bind fun t_1 => (if t_1 = true then (slices_ContainsFunc_Drum_at_impl_drumCode_1 list1 f0).bind fun t_2 => (impl_unless (!t_2) 1).bind fun t_3 => some t_3 else (impl_unless false 1).bind fun t_4 => some t_4)
theorem impl_drumCode.calls (f0 : GFrame) (list1 : List (Arr 96 Int)) (w : World) (r : Int) {C_a : Option Addr} {C_an : Nat} (C_c : Nat) (C_h : Rw w C_a 2 encGHammer f0.fHammers) (C_hn : f0.fHammers.length = C_an) {D_a : Option Addr} {D_an : Nat} (D_c : Nat) (D_h : Rw w D_a 96 encA96U32 list1) (D_hn : list1.length = D_an) (h : impl_drumCode f0 list1 = some r) :
    Calls Try.prog 112 #[(.agg #[(.int .i16 f0.fSteps), (.slice C_a C_an C_c)]), (.slice D_a D_an D_c)] w fun e w' => ∃ v, e = .returned v ∧ (v = (.int .i64 r) ∧ Mem w [] [] w') := by
  subst C_hn D_hn
  rw [impl_drumCode] at h
  refine enter (args := [(.agg #[(.int .i16 f0.fSteps), (.slice C_a f0.fHammers.length C_c)]), (.slice D_a list1.length D_c)]) Try.func112 rfl Try.ntmps112 (by kernel_rfl) (L := []) (W := []) (Mem.start w) ?_
  refine jc_seq (jc_region (tO (qa 0 (fun b_1 => jkO (qh [0] (qe (jx_then (jc_seq (jc_region (qh [0] ?_))))))))))
  obtain ⟨t_1, ht_2, h⟩ := bd h
  refine tO (pc 0 (fun w hm => impl_ValidFrame.calls f0 w _ C_c (hm.xr C_h) rfl ht_2) ?_)
  rintro w v w' hm ⟨rfl, hm'⟩
  refine ⟨_, hm.app hm', jkO ?_⟩
  clear hm hm'
  refine qf [(0, 0), (0, 1), (0, 1)] (qp 7 h (fun h => ?_) (fun h => ?_))
  ·obtain ⟨t_2, ht_4, h⟩ := bd h
   refine tO (pc 2 (fun w hm => slices_ContainsFunc_Drum_at_impl_drumCode_1.calls list1 f0 w _ D_c (hm.xr D_h) rfl C_c (hm.xr C_h) rfl b_1 (hm.pass (N := [⟨some b_1, 34, [(.int .i16 f0.fSteps), (.slice C_a f0.fHammers.length C_c)]⟩]) [0] (by kernel_rfl) (by kernel_rfl)) (hm.exApart (N := [⟨some b_1, 34, [(.int .i16 f0.fSteps), (.slice C_a f0.fHammers.length C_c)]⟩]) D_h (fun _ => List.not_mem_nil) [0] (by kernel_rfl)) (hm.exApart (N := [⟨some b_1, 34, [(.int .i16 f0.fSteps), (.slice C_a f0.fHammers.length C_c)]⟩]) C_h (fun _ => List.not_mem_nil) [0] (by kernel_rfl)) ht_4) ?_)
   rintro w v w' hm ⟨rfl, hm'⟩
   refine ⟨_, hm.appW (ps := [(0, ⟨some b_1, 34, [(.int .i16 f0.fSteps), (.slice C_a f0.fHammers.length C_c)]⟩)]) (N := []) hm' (by kernel_rfl) (by kernel_rfl), jkO ?_⟩
   clear hm hm'
   refine qf [(0, 2), (0, 4)] ?_
   obtain ⟨t_3, ht_5, h⟩ := bd h
   refine tO (pc 0 (fun w hm => impl_unless.calls (!t_2) 1 w _ ht_5) ?_)
   rintro w v w' hm ⟨rfl, hm'⟩
   refine ⟨_, hm.app hm', jkO ?_⟩
   clear hm hm'
   refine qh [0] (qe (jx_then (jc_ret ?_)))
   obtain rfl := Option.some.inj h
   exact qr [] (fun w hm => ⟨rfl, hm.pk []⟩)
  ·refine qf [(0, 3), (0, 3), (0, 5)] ?_
   obtain ⟨t_4, ht_6, h⟩ := bd h
   refine tO (pc 0 (fun w hm => impl_unless.calls false 1 w _ ht_6) ?_)
   rintro w v w' hm ⟨rfl, hm'⟩
   refine ⟨_, hm.app hm', jkO ?_⟩
   clear hm hm'
   refine qh [0] (qe (jx_then (jc_ret ?_)))
   obtain rfl := Option.some.inj h
   exact qr [] (fun w hm => ⟨rfl, hm.pk []⟩)
/-! ### impl.firstOf -/
def impl_firstOf.k_1 : Option (Int) := some 0
def impl_firstOf.l_3 (codes0 : List Int) : Int → Option ((Int) ⊕ (Int ⊕ Unit))
  | i_2 => (if (decide (i_2 < (codes0.length : Int))) = true then (ix codes0 i_2).bind fun x_5 => (if (x_5 != 0) = true then some (.inr (.inl x_5)) else some (.inl (w64 (i_2 + 1)))) else some (.inr (.inr ())))
def impl_firstOf (codes0 : List Int) : Option (Int) := (loop (impl_firstOf.l_3 codes0) 0).bind fun t_4 => match t_4 with | .inl p => some p | .inr p => impl_firstOf.k_1
theorem impl_firstOf.calls (codes0 : List Int) (w : World) (r : Int) {A_a : Option Addr} {A_an : Nat} (A_c : Nat) (A_h : Rw w A_a 1 encI64 codes0) (A_hn : codes0.length = A_an) (h : impl_firstOf codes0 = some r) :
    Calls Try.prog 92 #[(.slice A_a A_an A_c)] w fun e w' => ∃ v, e = .returned v ∧ (v = (.int .i64 r) ∧ Mem w [] [] w') := by
  subst A_hn
  rw [impl_firstOf] at h
  refine enter (args := [(.slice A_a codes0.length A_c)]) Try.func92 rfl Try.ntmps92 (by kernel_rfl) (L := []) (W := []) (Mem.start w) ?_
  refine jc_seq (jc_region (qh [0] (qe (jx_then (jc_seq (jc_seq (jc_region (qh [0,0,0] (qe (jx_then (jc_meet (fun (_ : Unit) => impl_firstOf.k_1 = some r) (fun (_ : Unit) => [(2, [], (.int .i64 0))]) (fun (_ : Unit) => []) ?_ ?_)))))))))))
  ·refine jc_block ?_
   obtain ⟨t_4, ht_34, hr_26⟩ := bd h
   refine jc_loop (fun (s : Int) (x : Unit) => match s, x with | i_2, _ => True) (fun (s : Int) (x : Unit) => match s, x with | i_2, _ => [(2, [], (.int .i64 0)), (5, [], (.slice A_a codes0.length A_c)), (6, [], (.int .i64 (codes0.length : Int))), (7, [], (.int .i64 i_2))]) (fun (s : Int) (x : Unit) => match s, x with | i_2, _ => []) ht_34 () trivial (by kernel_rfl) [] (by kernel_rfl) (by kernel_rfl) ?_
   rintro i_2 _ y_27 _ h
   rw [impl_firstOf.l_3] at h
   refine jc_seq (jc_region (qh [0] (qe (jx_then (jc_seq (qi h (fun h => ?_) (fun h => ?_)))))))
   ·refine jc_skip (jx_then (jc_seq (jc_block (jc_seq (jc_region ?_)))))
    obtain ⟨x_5, hx_30, h⟩ := bd h
    refine tO (qx 0 A_a 1 hx_30 rfl (A_h.sp hx_30) (jkO (tO (ql 0 false (fun w hm => ((hm.xr A_h).at hx_30)) (jkO (qh [0] (qe (jx_then (jc_seq (jc_region (qh [0,0] (qe (jx_then (qi h (fun h => ?_) (fun h => ?_)))))))))))))))
    ·refine jc_seq (jc_region (qh [0,0] (qe (jx_then (jc_ret (jx_inr (jx_thenr (jx_leaver (.inl x_5) (Option.some.inj h).symm (fun e_32 => ?_)))))))))
     subst e_32
     refine jx_inr (jx_thenr (jx_thenr ?_))
     obtain rfl := Option.some.inj hr_26
     exact qr [] (fun w hm => ⟨rfl, hm.pk []⟩)
    ·exact jc_skip (jx_inn (jx_then (jc_region (qh [0,0] (qe (qb (w64 (i_2 + 1)) () h trivial []))))))
   ·refine jc_exit (jx_thenx (jx_leave (.inr ()) (Option.some.inj h).symm (fun e_33 => ?_)))
    subst e_33
    exact jx_ine (qm () hr_26 [])
  ·rintro _ h
   replace h : impl_firstOf.k_1 = some r := h
   rw [impl_firstOf.k_1] at h
   refine jx_then (jc_seq (jc_region (qh [0] (qe (jx_then (jc_ret ?_))))))
   obtain rfl := Option.some.inj h
   exact qr [] (fun w hm => ⟨rfl, hm.pk []⟩)
/-! ### impl.listCode -/
def impl_listCode (f0 : GFrame) (list1 : List (Arr 96 Int)) : Option (Int) := (impl_drumCode f0 list1).bind fun t_1 => (impl_unless (decide ((list1.length : Int) ≤ 8)) 3).bind fun t_2 => (impl_firstOf ([t_1, t_2] : List Int)).bind fun t_3 => some t_3
theorem impl_listCode.calls (f0 : GFrame) (list1 : List (Arr 96 Int)) (w : World) (r : Int) {C_a : Option Addr} {C_an : Nat} (C_c : Nat) (C_h : Rw w C_a 2 encGHammer f0.fHammers) (C_hn : f0.fHammers.length = C_an) {D_a : Option Addr} {D_an : Nat} (D_c : Nat) (D_h : Rw w D_a 96 encA96U32 list1) (D_hn : list1.length = D_an) (h : impl_listCode f0 list1 = some r) :
    Calls Try.prog 65 #[(.agg #[(.int .i16 f0.fSteps), (.slice C_a C_an C_c)]), (.slice D_a D_an D_c)] w fun e w' => ∃ v, e = .returned v ∧ (v = (.int .i64 r) ∧ Mem w [] [] w') := by
  subst C_hn D_hn
  rw [impl_listCode] at h
  refine enter (args := [(.agg #[(.int .i16 f0.fSteps), (.slice C_a f0.fHammers.length C_c)]), (.slice D_a list1.length D_c)]) Try.func65 rfl Try.ntmps65 (by kernel_rfl) (L := []) (W := []) (Mem.start w) ?_
  refine jc_seq (jc_region (tO (qa 0 (fun b_1 => jkO (qh [0] (qe (jx_then (jc_seq (jc_region (qh [0,0] ?_))))))))))
  obtain ⟨t_1, ht_2, h⟩ := bd h
  refine tO (pc 0 (fun w hm => impl_drumCode.calls f0 list1 w _ C_c (hm.xr C_h) rfl D_c (hm.xr D_h) rfl ht_2) ?_)
  rintro w v w' hm ⟨rfl, hm'⟩
  refine ⟨_, hm.app hm', jkO ?_⟩
  clear hm hm'
  refine qh [0,0,0] ?_
  obtain ⟨t_2, ht_3, h⟩ := bd h
  refine tO (pc 0 (fun w hm => impl_unless.calls (decide ((list1.length : Int) ≤ 8)) 3 w _ ht_3) ?_)
  rintro w v w' hm ⟨rfl, hm'⟩
  refine ⟨_, hm.app hm', jkO ?_⟩
  clear hm hm'
  refine tO (qa 0 (fun b_4 => jkO ?_))
  obtain ⟨t_3, ht_5, h⟩ := bd h
  refine tO (pc 0 (fun w hm => impl_firstOf.calls ([t_1, t_2] : List Int) w _ 2 (hm.ow 1 (some b_4) 2 ([t_1, t_2] : List Int) [] (fun e => nomatch e) encI64_len) rfl ht_5) ?_)
  rintro w v w' hm ⟨rfl, hm'⟩
  refine ⟨_, hm.app hm', jkO ?_⟩
  clear hm hm'
  refine qh [0] (qe (jx_then (jc_ret ?_)))
  obtain rfl := Option.some.inj h
  exact qr [] (fun w hm => ⟨rfl, hm.pk []⟩)
/-! ### impl.size[impl.Drum] -/
def impl_size_Drum (list0 : List (Arr 96 Int)) : Option (Int) := some (list0.length : Int)
theorem impl_size_Drum.calls (list0 : List (Arr 96 Int)) (w : World) (r : Int) {A_a : Option Addr} {A_an : Nat} (A_c : Nat) (A_h : Rw w A_a 96 encA96U32 list0) (A_hn : list0.length = A_an) (h : impl_size_Drum list0 = some r) :
    Calls Try.prog 66 #[(.slice A_a A_an A_c)] w fun e w' => ∃ v, e = .returned v ∧ (v = (.int .i64 r) ∧ Mem w [] [] w') := by
  subst A_hn
  rw [impl_size_Drum] at h
  refine enter (args := [(.slice A_a list0.length A_c)]) Try.func66 rfl Try.ntmps66 (by kernel_rfl) (L := []) (W := []) (Mem.start w) ?_
  refine jc_seq (jc_region (qh [0] (qe (jx_then (jc_seq (jc_region (qh [0,0,0] (qe (jx_then (jc_ret ?_))))))))))
  obtain rfl := Option.some.inj h
  exact qr [] (fun w hm => ⟨rfl, hm.pk []⟩)
/-! ### (impl.Drum).less -/
def impl_Drum_less.k_2 (a_1 : Arr 96 Int) : Option ((Arr 96 Int)) := some a_1
def impl_Drum_less.l_5 (e1 : Arr 96 Int) : ((Arr 96 Int) × Int) → Option (((Arr 96 Int) × Int) ⊕ ((Arr 96 Int)))
  | (a_3, i_4) => (if (decide (i_4 < 96)) = true then (ix e1.1 i_4).bind fun x_7 => (ix a_3.1 i_4).bind fun x_8 => (ix a_3.1 i_4).bind fun x_9 => some (.inl ((Arr.set a_3 i_4 (bClr .u32 x_8 x_7)), (w64 (i_4 + 1)))) else some (.inr a_3))
def impl_Drum_less (d0 : Arr 96 Int) (e1 : Arr 96 Int) : Option ((Arr 96 Int)) := (loop (impl_Drum_less.l_5 e1) (d0, 0)).bind fun t_6 => impl_Drum_less.k_2 t_6
theorem impl_Drum_less.calls (d0 : Arr 96 Int) (e1 : Arr 96 Int) (w : World) (r : (Arr 96 Int)) (h : impl_Drum_less d0 e1 = some r) :
    Calls Try.prog 143 #[(.agg (row encU32 d0.1 []).toArray), (.agg (row encU32 e1.1 []).toArray)] w fun e w' => ∃ v, e = .returned v ∧ (v = (.agg (row encU32 r.1 []).toArray) ∧ Mem w [] [] w') := by
  rw [impl_Drum_less] at h
  refine enter (args := [(.agg (row encU32 d0.1 []).toArray), (.agg (row encU32 e1.1 []).toArray)]) Try.func143 rfl Try.ntmps143 (by kernel_rfl) (L := []) (W := []) (Mem.start w) ?_
  refine jc_seq (jc_region (tO (qa 0 (fun b_1 => jkO (tO (qa 0 (fun b_2 => jkO (tO (qa 0 (fun b_3 => jkO (qe (jx_then (jc_seq (jc_seq (jc_region (tO (p_ldA 0 1 b_2 96 1 89 encU32 e1 (by kernel_rfl) (by kernel_rfl) (by kernel_rfl) encU32_len (by kernel_rfl) (jkO (qh [0] (qe (jx_then (jc_meet (fun (j : (Arr 96 Int)) => match j with | a_1 => impl_Drum_less.k_2 a_1 = some r) (fun (j : (Arr 96 Int)) => match j with | a_1 => [(2, [], (.pointer (some ⟨b_1, 0, none⟩))), (4, [], (.pointer (some ⟨b_3, 0, none⟩)))]) (fun (j : (Arr 96 Int)) => match j with | a_1 => [⟨(some b_1), 89, row encU32 a_1.1 []⟩, ⟨(some b_2), 89, row encU32 e1.1 []⟩, ⟨(some b_3), 89, row encU32 ((Arr.rep 96 0).1) []⟩]) ?_ ?_))))))))))))))))))))))
  ·refine jc_block ?_
   obtain ⟨t_6, ht_79, hr_71⟩ := bd h
   refine jc_loop (fun (s : (Arr 96 Int) × Int) (x : Unit) => match s, x with | ⟨a_3, i_4⟩, _ => True) (fun (s : (Arr 96 Int) × Int) (x : Unit) => match s, x with | ⟨a_3, i_4⟩, _ => [(2, [], (.pointer (some ⟨b_1, 0, none⟩))), (4, [], (.pointer (some ⟨b_3, 0, none⟩))), (7, [], (.agg (row encU32 e1.1 []).toArray)), (8, [], (.int .i64 i_4))]) (fun (s : (Arr 96 Int) × Int) (x : Unit) => match s, x with | ⟨a_3, i_4⟩, _ => [⟨(some b_1), 89, row encU32 a_3.1 []⟩, ⟨(some b_2), 89, row encU32 e1.1 []⟩, ⟨(some b_3), 89, row encU32 ((Arr.rep 96 0).1) []⟩]) ht_79 () trivial (by kernel_rfl) [0, 1, 2] (by kernel_rfl) (by kernel_rfl) ?_
   rintro ⟨a_3, i_4⟩ _ y_72 _ h
   rw [impl_Drum_less.l_5] at h
   refine jc_seq (jc_region (qh [0] (qe (jx_then (jc_seq (qi h (fun h => ?_) (fun h => ?_)))))))
   ·refine jc_skip (jx_then (jc_seq (jc_block (jc_seq (jc_region (qh [0] ?_))))))
    obtain ⟨x_7, hx_75, h⟩ := bd h
    refine tO (p_ixA 0 encU32 (fun x => (.int .u32 x)) e1 i_4 (by kernel_rfl) (by kernel_rfl) (fun _ => rfl) hx_75 (jkO (qh [0,0] (qe (jx_then (jc_region (qh [0] ?_)))))))
    obtain ⟨x_8, hx_76, h⟩ := bd h
    refine tO (qx 0 (some ⟨b_1, 0, none⟩) 1 hx_76 a_3.2 rfl (jkO (tO (ql 0 false (fun w hm => ((hm.ow 0 (some b_1) 89 a_3.1 [] (fun e => nomatch e) encU32_len).at hx_76)) (jkO (qh [0,0] ?_))))))
    obtain ⟨x_9, hx_77, h⟩ := bd h
    exact tO (qx 0 (some ⟨b_1, 0, none⟩) 1 hx_77 a_3.2 rfl (jkO (tO (p_str 0 0 b_1 89 encU32 a_3.1 [] i_4 (bClr .u32 x_8 x_7) 1 0 [(.int .u32 (bClr .u32 x_8 x_7))] (by kernel_rfl) (by kernel_rfl) (by kernel_rfl) encU32_len hx_77 (by kernel_rfl) (by kernel_rfl) (jkO (qe (jx_inn (jx_then (jc_region (qh [0,0] (qe (qb ((Arr.set a_3 i_4 (bClr .u32 x_8 x_7)), (w64 (i_4 + 1))) () h trivial [0, 1, 2]))))))))))))
   ·refine jc_exit (jx_thenx (jx_leave a_3 (Option.some.inj h).symm (fun e_78 => ?_)))
    subst e_78
    exact jx_ine (qm a_3 hr_71 [0, 1, 2])
  ·rintro a_1 h
   replace h : impl_Drum_less.k_2 a_1 = some r := h
   rw [impl_Drum_less.k_2] at h
   refine jx_then (jc_seq (jc_region (tO (p_ldA 0 0 b_1 96 1 89 encU32 a_1 (by kernel_rfl) (by kernel_rfl) (by kernel_rfl) encU32_len (by kernel_rfl) (jkO (tO (p_sA 0 2 b_3 96 1 89 encU32 (Arr.rep 96 0) a_1 (by kernel_rfl) (by kernel_rfl) (by kernel_rfl) encU32_len encU32_cell (by kernel_rfl) (jkO (qe (jx_then (jc_ret ?_)))))))))))
   obtain rfl := Option.some.inj h
   exact jx_retV rfl (rq_arr (b := b_3) (T' := 89) (hh := 2) (mm := 1) encU32 a_1 (by kernel_rfl) (by kernel_rfl) encU32_len (by kernel_rfl) rq_nil) (fun w hm => ⟨rfl, hm.pk []⟩)
/-! ### math/bits.OnesCount32 -/
def math_bits_OnesCount32 (x0 : Int) : Option (Int) := (sIx (ByteArray.mk #[0, 1, 1, 2, 1, 2, 2, 3, 1, 2, 2, 3, 2, 3, 3, 4, 1, 2, 2, 3, 2, 3, 3, 4, 2, 3, 3, 4, 3, 4, 4, 5, 1, 2, 2, 3, 2, 3, 3, 4, 2, 3, 3, 4, 3, 4, 4, 5, 2, 3, 3, 4, 3, 4, 4, 5, 3, 4, 4, 5, 4, 5, 5, 6, 1, 2, 2, 3, 2, 3, 3, 4, 2, 3, 3, 4, 3, 4, 4, 5, 2, 3, 3, 4, 3, 4, 4, 5, 3, 4, 4, 5, 4, 5, 5, 6, 2, 3, 3, 4, 3, 4, 4, 5, 3, 4, 4, 5, 4, 5, 5, 6, 3, 4, 4, 5, 4, 5, 5, 6, 4, 5, 5, 6, 5, 6, 6, 7, 1, 2, 2, 3, 2, 3, 3, 4, 2, 3, 3, 4, 3, 4, 4, 5, 2, 3, 3, 4, 3, 4, 4, 5, 3, 4, 4, 5, 4, 5, 5, 6, 2, 3, 3, 4, 3, 4, 4, 5, 3, 4, 4, 5, 4, 5, 5, 6, 3, 4, 4, 5, 4, 5, 5, 6, 4, 5, 5, 6, 5, 6, 6, 7, 2, 3, 3, 4, 3, 4, 4, 5, 3, 4, 4, 5, 4, 5, 5, 6, 3, 4, 4, 5, 4, 5, 5, 6, 4, 5, 5, 6, 5, 6, 6, 7, 3, 4, 4, 5, 4, 5, 5, 6, 4, 5, 5, 6, 5, 6, 6, 7, 4, 5, 5, 6, 5, 6, 6, 7, 5, 6, 6, 7, 6, 7, 7, 8]) (bShr .u32 x0 24)).bind fun x_1 => (sIx (ByteArray.mk #[0, 1, 1, 2, 1, 2, 2, 3, 1, 2, 2, 3, 2, 3, 3, 4, 1, 2, 2, 3, 2, 3, 3, 4, 2, 3, 3, 4, 3, 4, 4, 5, 1, 2, 2, 3, 2, 3, 3, 4, 2, 3, 3, 4, 3, 4, 4, 5, 2, 3, 3, 4, 3, 4, 4, 5, 3, 4, 4, 5, 4, 5, 5, 6, 1, 2, 2, 3, 2, 3, 3, 4, 2, 3, 3, 4, 3, 4, 4, 5, 2, 3, 3, 4, 3, 4, 4, 5, 3, 4, 4, 5, 4, 5, 5, 6, 2, 3, 3, 4, 3, 4, 4, 5, 3, 4, 4, 5, 4, 5, 5, 6, 3, 4, 4, 5, 4, 5, 5, 6, 4, 5, 5, 6, 5, 6, 6, 7, 1, 2, 2, 3, 2, 3, 3, 4, 2, 3, 3, 4, 3, 4, 4, 5, 2, 3, 3, 4, 3, 4, 4, 5, 3, 4, 4, 5, 4, 5, 5, 6, 2, 3, 3, 4, 3, 4, 4, 5, 3, 4, 4, 5, 4, 5, 5, 6, 3, 4, 4, 5, 4, 5, 5, 6, 4, 5, 5, 6, 5, 6, 6, 7, 2, 3, 3, 4, 3, 4, 4, 5, 3, 4, 4, 5, 4, 5, 5, 6, 3, 4, 4, 5, 4, 5, 5, 6, 4, 5, 5, 6, 5, 6, 6, 7, 3, 4, 4, 5, 4, 5, 5, 6, 4, 5, 5, 6, 5, 6, 6, 7, 4, 5, 5, 6, 5, 6, 6, 7, 5, 6, 6, 7, 6, 7, 7, 8]) (bAnd .u32 (bShr .u32 x0 16) 255)).bind fun x_2 => (sIx (ByteArray.mk #[0, 1, 1, 2, 1, 2, 2, 3, 1, 2, 2, 3, 2, 3, 3, 4, 1, 2, 2, 3, 2, 3, 3, 4, 2, 3, 3, 4, 3, 4, 4, 5, 1, 2, 2, 3, 2, 3, 3, 4, 2, 3, 3, 4, 3, 4, 4, 5, 2, 3, 3, 4, 3, 4, 4, 5, 3, 4, 4, 5, 4, 5, 5, 6, 1, 2, 2, 3, 2, 3, 3, 4, 2, 3, 3, 4, 3, 4, 4, 5, 2, 3, 3, 4, 3, 4, 4, 5, 3, 4, 4, 5, 4, 5, 5, 6, 2, 3, 3, 4, 3, 4, 4, 5, 3, 4, 4, 5, 4, 5, 5, 6, 3, 4, 4, 5, 4, 5, 5, 6, 4, 5, 5, 6, 5, 6, 6, 7, 1, 2, 2, 3, 2, 3, 3, 4, 2, 3, 3, 4, 3, 4, 4, 5, 2, 3, 3, 4, 3, 4, 4, 5, 3, 4, 4, 5, 4, 5, 5, 6, 2, 3, 3, 4, 3, 4, 4, 5, 3, 4, 4, 5, 4, 5, 5, 6, 3, 4, 4, 5, 4, 5, 5, 6, 4, 5, 5, 6, 5, 6, 6, 7, 2, 3, 3, 4, 3, 4, 4, 5, 3, 4, 4, 5, 4, 5, 5, 6, 3, 4, 4, 5, 4, 5, 5, 6, 4, 5, 5, 6, 5, 6, 6, 7, 3, 4, 4, 5, 4, 5, 5, 6, 4, 5, 5, 6, 5, 6, 6, 7, 4, 5, 5, 6, 5, 6, 6, 7, 5, 6, 6, 7, 6, 7, 7, 8]) (bAnd .u32 (bShr .u32 x0 8) 255)).bind fun x_3 => (sIx (ByteArray.mk #[0, 1, 1, 2, 1, 2, 2, 3, 1, 2, 2, 3, 2, 3, 3, 4, 1, 2, 2, 3, 2, 3, 3, 4, 2, 3, 3, 4, 3, 4, 4, 5, 1, 2, 2, 3, 2, 3, 3, 4, 2, 3, 3, 4, 3, 4, 4, 5, 2, 3, 3, 4, 3, 4, 4, 5, 3, 4, 4, 5, 4, 5, 5, 6, 1, 2, 2, 3, 2, 3, 3, 4, 2, 3, 3, 4, 3, 4, 4, 5, 2, 3, 3, 4, 3, 4, 4, 5, 3, 4, 4, 5, 4, 5, 5, 6, 2, 3, 3, 4, 3, 4, 4, 5, 3, 4, 4, 5, 4, 5, 5, 6, 3, 4, 4, 5, 4, 5, 5, 6, 4, 5, 5, 6, 5, 6, 6, 7, 1, 2, 2, 3, 2, 3, 3, 4, 2, 3, 3, 4, 3, 4, 4, 5, 2, 3, 3, 4, 3, 4, 4, 5, 3, 4, 4, 5, 4, 5, 5, 6, 2, 3, 3, 4, 3, 4, 4, 5, 3, 4, 4, 5, 4, 5, 5, 6, 3, 4, 4, 5, 4, 5, 5, 6, 4, 5, 5, 6, 5, 6, 6, 7, 2, 3, 3, 4, 3, 4, 4, 5, 3, 4, 4, 5, 4, 5, 5, 6, 3, 4, 4, 5, 4, 5, 5, 6, 4, 5, 5, 6, 5, 6, 6, 7, 3, 4, 4, 5, 4, 5, 5, 6, 4, 5, 5, 6, 5, 6, 6, 7, 4, 5, 5, 6, 5, 6, 6, 7, 5, 6, 6, 7, 6, 7, 7, 8]) (bAnd .u32 x0 255)).bind fun x_4 => some (w64 (u8 ((u8 ((u8 (x_1 + x_2)) + x_3)) + x_4)))
theorem math_bits_OnesCount32.calls (x0 : Int) (w : World) (r : Int) (h : math_bits_OnesCount32 x0 = some r) :
    Calls Try.prog 191 #[(.int .u32 x0)] w fun e w' => ∃ v, e = .returned v ∧ (v = (.int .i64 r) ∧ Mem w [] [] w') := by
  rw [math_bits_OnesCount32] at h
  refine enter (args := [(.int .u32 x0)]) Try.func191 rfl Try.ntmps191 (by kernel_rfl) (L := []) (W := []) (Mem.start w) ?_
  refine jc_seq (jc_region (qh [0] (qe (jx_then (jc_seq (qg [] 19 (qd [⟨0, 0, 0⟩,⟨1, 0, 0⟩,⟨3, 0, 0⟩,⟨4, 0, 0⟩,⟨5, 0, 0⟩,⟨8, 0, 0⟩,⟨9, 0, 0⟩,⟨10, 0, 0⟩,⟨13, 0, 0⟩,⟨14, 0, 0⟩] 9 [] ?_)))))))
  obtain ⟨x_1, hx_1, h⟩ := bd h
  refine qv 2 0 [] (fun w hm => six_run (s := (ByteArray.mk #[0, 1, 1, 2, 1, 2, 2, 3, 1, 2, 2, 3, 2, 3, 3, 4, 1, 2, 2, 3, 2, 3, 3, 4, 2, 3, 3, 4, 3, 4, 4, 5, 1, 2, 2, 3, 2, 3, 3, 4, 2, 3, 3, 4, 3, 4, 4, 5, 2, 3, 3, 4, 3, 4, 4, 5, 3, 4, 4, 5, 4, 5, 5, 6, 1, 2, 2, 3, 2, 3, 3, 4, 2, 3, 3, 4, 3, 4, 4, 5, 2, 3, 3, 4, 3, 4, 4, 5, 3, 4, 4, 5, 4, 5, 5, 6, 2, 3, 3, 4, 3, 4, 4, 5, 3, 4, 4, 5, 4, 5, 5, 6, 3, 4, 4, 5, 4, 5, 5, 6, 4, 5, 5, 6, 5, 6, 6, 7, 1, 2, 2, 3, 2, 3, 3, 4, 2, 3, 3, 4, 3, 4, 4, 5, 2, 3, 3, 4, 3, 4, 4, 5, 3, 4, 4, 5, 4, 5, 5, 6, 2, 3, 3, 4, 3, 4, 4, 5, 3, 4, 4, 5, 4, 5, 5, 6, 3, 4, 4, 5, 4, 5, 5, 6, 4, 5, 5, 6, 5, 6, 6, 7, 2, 3, 3, 4, 3, 4, 4, 5, 3, 4, 4, 5, 4, 5, 5, 6, 3, 4, 4, 5, 4, 5, 5, 6, 4, 5, 5, 6, 5, 6, 6, 7, 3, 4, 4, 5, 4, 5, 5, 6, 4, 5, 5, 6, 5, 6, 6, 7, 4, 5, 5, 6, 5, 6, 6, 7, 5, 6, 6, 7, 6, 7, 7, 8])) (j := (bShr .u32 x0 24)) (by kernel_rfl) hx_1) ?_
  obtain ⟨x_2, hx_2, h⟩ := bd h
  refine qv 6 0 [] (fun w hm => six_run (s := (ByteArray.mk #[0, 1, 1, 2, 1, 2, 2, 3, 1, 2, 2, 3, 2, 3, 3, 4, 1, 2, 2, 3, 2, 3, 3, 4, 2, 3, 3, 4, 3, 4, 4, 5, 1, 2, 2, 3, 2, 3, 3, 4, 2, 3, 3, 4, 3, 4, 4, 5, 2, 3, 3, 4, 3, 4, 4, 5, 3, 4, 4, 5, 4, 5, 5, 6, 1, 2, 2, 3, 2, 3, 3, 4, 2, 3, 3, 4, 3, 4, 4, 5, 2, 3, 3, 4, 3, 4, 4, 5, 3, 4, 4, 5, 4, 5, 5, 6, 2, 3, 3, 4, 3, 4, 4, 5, 3, 4, 4, 5, 4, 5, 5, 6, 3, 4, 4, 5, 4, 5, 5, 6, 4, 5, 5, 6, 5, 6, 6, 7, 1, 2, 2, 3, 2, 3, 3, 4, 2, 3, 3, 4, 3, 4, 4, 5, 2, 3, 3, 4, 3, 4, 4, 5, 3, 4, 4, 5, 4, 5, 5, 6, 2, 3, 3, 4, 3, 4, 4, 5, 3, 4, 4, 5, 4, 5, 5, 6, 3, 4, 4, 5, 4, 5, 5, 6, 4, 5, 5, 6, 5, 6, 6, 7, 2, 3, 3, 4, 3, 4, 4, 5, 3, 4, 4, 5, 4, 5, 5, 6, 3, 4, 4, 5, 4, 5, 5, 6, 4, 5, 5, 6, 5, 6, 6, 7, 3, 4, 4, 5, 4, 5, 5, 6, 4, 5, 5, 6, 5, 6, 6, 7, 4, 5, 5, 6, 5, 6, 6, 7, 5, 6, 6, 7, 6, 7, 7, 8])) (j := (bAnd .u32 (bShr .u32 x0 16) 255)) (by kernel_rfl) hx_2) (qd [⟨7, 0, 0⟩] 6 [] ?_)
  obtain ⟨x_3, hx_3, h⟩ := bd h
  refine qv 11 0 [] (fun w hm => six_run (s := (ByteArray.mk #[0, 1, 1, 2, 1, 2, 2, 3, 1, 2, 2, 3, 2, 3, 3, 4, 1, 2, 2, 3, 2, 3, 3, 4, 2, 3, 3, 4, 3, 4, 4, 5, 1, 2, 2, 3, 2, 3, 3, 4, 2, 3, 3, 4, 3, 4, 4, 5, 2, 3, 3, 4, 3, 4, 4, 5, 3, 4, 4, 5, 4, 5, 5, 6, 1, 2, 2, 3, 2, 3, 3, 4, 2, 3, 3, 4, 3, 4, 4, 5, 2, 3, 3, 4, 3, 4, 4, 5, 3, 4, 4, 5, 4, 5, 5, 6, 2, 3, 3, 4, 3, 4, 4, 5, 3, 4, 4, 5, 4, 5, 5, 6, 3, 4, 4, 5, 4, 5, 5, 6, 4, 5, 5, 6, 5, 6, 6, 7, 1, 2, 2, 3, 2, 3, 3, 4, 2, 3, 3, 4, 3, 4, 4, 5, 2, 3, 3, 4, 3, 4, 4, 5, 3, 4, 4, 5, 4, 5, 5, 6, 2, 3, 3, 4, 3, 4, 4, 5, 3, 4, 4, 5, 4, 5, 5, 6, 3, 4, 4, 5, 4, 5, 5, 6, 4, 5, 5, 6, 5, 6, 6, 7, 2, 3, 3, 4, 3, 4, 4, 5, 3, 4, 4, 5, 4, 5, 5, 6, 3, 4, 4, 5, 4, 5, 5, 6, 4, 5, 5, 6, 5, 6, 6, 7, 3, 4, 4, 5, 4, 5, 5, 6, 4, 5, 5, 6, 5, 6, 6, 7, 4, 5, 5, 6, 5, 6, 6, 7, 5, 6, 6, 7, 6, 7, 7, 8])) (j := (bAnd .u32 (bShr .u32 x0 8) 255)) (by kernel_rfl) hx_3) (qd [⟨12, 0, 0⟩] 4 [] ?_)
  obtain ⟨x_4, hx_4, h⟩ := bd h
  refine qv 15 0 [] (fun w hm => six_run (s := (ByteArray.mk #[0, 1, 1, 2, 1, 2, 2, 3, 1, 2, 2, 3, 2, 3, 3, 4, 1, 2, 2, 3, 2, 3, 3, 4, 2, 3, 3, 4, 3, 4, 4, 5, 1, 2, 2, 3, 2, 3, 3, 4, 2, 3, 3, 4, 3, 4, 4, 5, 2, 3, 3, 4, 3, 4, 4, 5, 3, 4, 4, 5, 4, 5, 5, 6, 1, 2, 2, 3, 2, 3, 3, 4, 2, 3, 3, 4, 3, 4, 4, 5, 2, 3, 3, 4, 3, 4, 4, 5, 3, 4, 4, 5, 4, 5, 5, 6, 2, 3, 3, 4, 3, 4, 4, 5, 3, 4, 4, 5, 4, 5, 5, 6, 3, 4, 4, 5, 4, 5, 5, 6, 4, 5, 5, 6, 5, 6, 6, 7, 1, 2, 2, 3, 2, 3, 3, 4, 2, 3, 3, 4, 3, 4, 4, 5, 2, 3, 3, 4, 3, 4, 4, 5, 3, 4, 4, 5, 4, 5, 5, 6, 2, 3, 3, 4, 3, 4, 4, 5, 3, 4, 4, 5, 4, 5, 5, 6, 3, 4, 4, 5, 4, 5, 5, 6, 4, 5, 5, 6, 5, 6, 6, 7, 2, 3, 3, 4, 3, 4, 4, 5, 3, 4, 4, 5, 4, 5, 5, 6, 3, 4, 4, 5, 4, 5, 5, 6, 4, 5, 5, 6, 5, 6, 6, 7, 3, 4, 4, 5, 4, 5, 5, 6, 4, 5, 5, 6, 5, 6, 6, 7, 4, 5, 5, 6, 5, 6, 6, 7, 5, 6, 6, 7, 6, 7, 7, 8])) (j := (bAnd .u32 x0 255)) (by kernel_rfl) hx_4) (qd [⟨16, 0, 0⟩,⟨17, 0, 0⟩,⟨18, 0, 0⟩] 0 [] (qz (jx_then (jc_ret ?_))))
  obtain rfl := Option.some.inj h
  exact qr [] (fun w hm => ⟨rfl, hm.pk []⟩)
/-! ### impl.countBits -/
def impl_countBits (n0 : Int) : Option (Int) := (math_bits_OnesCount32 n0).bind fun t_1 => some t_1
theorem impl_countBits.calls (n0 : Int) (w : World) (r : Int) (h : impl_countBits n0 = some r) :
    Calls Try.prog 173 #[(.int .u32 n0)] w fun e w' => ∃ v, e = .returned v ∧ (v = (.int .i64 r) ∧ Mem w [] [] w') := by
  rw [impl_countBits] at h
  refine enter (args := [(.int .u32 n0)]) Try.func173 rfl Try.ntmps173 (by kernel_rfl) (L := []) (W := []) (Mem.start w) ?_
  refine jc_seq (jc_region (qh [0] (qe (jx_then (jc_seq (jc_region (qh [0] ?_)))))))
  obtain ⟨t_1, ht_1, h⟩ := bd h
  refine tO (pc 0 (fun w hm => math_bits_OnesCount32.calls n0 w _ ht_1) ?_)
  rintro w v w' hm ⟨rfl, hm'⟩
  refine ⟨_, hm.app hm', jkO ?_⟩
  clear hm hm'
  refine qh [0] (qe (jx_then (jc_ret ?_)))
  obtain rfl := Option.some.inj h
  exact qr [] (fun w hm => ⟨rfl, hm.pk []⟩)
/-! ### (impl.Drum).count -/
def impl_Drum_count.k_2 (i_1 : Int) : Option (Int) := some i_1
def impl_Drum_count.l_5 (d0 : Arr 96 Int) : (Int × Int) → Option ((Int × Int) ⊕ (Int))
  | (i_3, i_4) => (if (decide (i_4 < 96)) = true then (ix d0.1 i_4).bind fun x_7 => (impl_countBits x_7).bind fun t_8 => some (.inl ((w64 (i_3 + t_8)), (w64 (i_4 + 1)))) else some (.inr i_3))
def impl_Drum_count (d0 : Arr 96 Int) : Option (Int) := (loop (impl_Drum_count.l_5 d0) (0, 0)).bind fun t_6 => impl_Drum_count.k_2 t_6
theorem impl_Drum_count.calls (d0 : Arr 96 Int) (w : World) (r : Int) (h : impl_Drum_count d0 = some r) :
    Calls Try.prog 144 #[(.agg (row encU32 d0.1 []).toArray)] w fun e w' => ∃ v, e = .returned v ∧ (v = (.int .i64 r) ∧ Mem w [] [] w') := by
  rw [impl_Drum_count] at h
  refine enter (args := [(.agg (row encU32 d0.1 []).toArray)]) Try.func144 rfl Try.ntmps144 (by kernel_rfl) (L := []) (W := []) (Mem.start w) ?_
  refine jc_seq (jc_region (tO (qa 0 (fun b_1 => jkO (qh [0] (qe (jx_then (jc_seq (jc_region (qh [0] (qe (jx_then (jc_seq (jc_seq (jc_region (tO (p_ldA 0 0 b_1 96 1 89 encU32 d0 (by kernel_rfl) (by kernel_rfl) (by kernel_rfl) encU32_len (by kernel_rfl) (jkO (qh [0] (qe (jx_then (jc_meet (fun (j : Int) => match j with | i_1 => impl_Drum_count.k_2 i_1 = some r) (fun (j : Int) => match j with | i_1 => [(2, [], (.int .i64 0)), (3, [], (.int .i64 i_1))]) (fun (j : Int) => match j with | i_1 => [⟨(some b_1), 89, row encU32 d0.1 []⟩]) ?_ ?_))))))))))))))))))))))
  ·refine jc_block ?_
   obtain ⟨t_6, ht_65, hr_58⟩ := bd h
   refine jc_loop (fun (s : Int × Int) (x : Unit) => match s, x with | ⟨i_3, i_4⟩, _ => True) (fun (s : Int × Int) (x : Unit) => match s, x with | ⟨i_3, i_4⟩, _ => [(2, [], (.int .i64 0)), (3, [], (.int .i64 i_3)), (6, [], (.agg (row encU32 d0.1 []).toArray)), (7, [], (.int .i64 i_4))]) (fun (s : Int × Int) (x : Unit) => match s, x with | ⟨i_3, i_4⟩, _ => [⟨(some b_1), 89, row encU32 d0.1 []⟩]) ht_65 () trivial (by kernel_rfl) [0] (by kernel_rfl) (by kernel_rfl) ?_
   rintro ⟨i_3, i_4⟩ _ y_59 _ h
   rw [impl_Drum_count.l_5] at h
   refine jc_seq (jc_region (qh [0] (qe (jx_then (jc_seq (qi h (fun h => ?_) (fun h => ?_)))))))
   ·refine jc_skip (jx_then (jc_seq (jc_block (jc_seq (jc_region ?_)))))
    obtain ⟨x_7, hx_62, h⟩ := bd h
    refine tO (p_ixA 0 encU32 (fun x => (.int .u32 x)) d0 i_4 (by kernel_rfl) (by kernel_rfl) (fun _ => rfl) hx_62 (jkO (qh [0] (qe (jx_then (jc_region (qh [0,0] ?_)))))))
    obtain ⟨t_8, ht_63, h⟩ := bd h
    refine tO (pc 0 (fun w hm => impl_countBits.calls x_7 w _ ht_63) ?_)
    rintro w v w' hm ⟨rfl, hm'⟩
    refine ⟨_, hm.app hm', jkO ?_⟩
    clear hm hm'
    exact qh [0,0] (qe (jx_inn (jx_then (jc_region (qh [0,0] (qe (qb ((w64 (i_3 + t_8)), (w64 (i_4 + 1))) () h trivial [0])))))))
   ·refine jc_exit (jx_thenx (jx_leave i_3 (Option.some.inj h).symm (fun e_64 => ?_)))
    subst e_64
    exact jx_ine (qm i_3 hr_58 [0])
  ·rintro i_1 h
   replace h : impl_Drum_count.k_2 i_1 = some r := h
   rw [impl_Drum_count.k_2] at h
   refine jx_then (jc_seq (jc_region (qh [0,0] (qe (jx_then (jc_ret ?_))))))
   obtain rfl := Option.some.inj h
   exact qr [] (fun w hm => ⟨rfl, hm.pk []⟩)
/-! ### impl.cost -/
def impl_cost (a0 : Arr 96 Int) (b1 : Arr 96 Int) : Option (Int) := (impl_Drum_less a0 b1).bind fun t_1 => (impl_Drum_count t_1).bind fun t_2 => (impl_Drum_less b1 a0).bind fun t_3 => (impl_Drum_count t_3).bind fun t_4 => some (w64 (t_2 + t_4))
theorem impl_cost.calls (a0 : Arr 96 Int) (b1 : Arr 96 Int) (w : World) (r : Int) (h : impl_cost a0 b1 = some r) :
    Calls Try.prog 105 #[(.agg (row encU32 a0.1 []).toArray), (.agg (row encU32 b1.1 []).toArray)] w fun e w' => ∃ v, e = .returned v ∧ (v = (.int .i64 r) ∧ Mem w [] [] w') := by
  rw [impl_cost] at h
  refine enter (args := [(.agg (row encU32 a0.1 []).toArray), (.agg (row encU32 b1.1 []).toArray)]) Try.func105 rfl Try.ntmps105 (by kernel_rfl) (L := []) (W := []) (Mem.start w) ?_
  refine jc_seq (jc_region (tO (qa 0 (fun b_1 => jkO (tO (qa 0 (fun b_2 => jkO (qh [0] (qe (jx_then (jc_seq (qg [⟨(some b_1), 89, row encU32 a0.1 []⟩, ⟨(some b_2), 89, row encU32 b1.1 []⟩] 10 (qv 0 0 [0, 1] (fun w hm => ld_run (b := b_1) (off := 0) (s := 96) (agg := true) (vs := row encU32 a0.1 []) (by kernel_rfl) ((row_len encU32_len a0).trans rfl) (.inl rfl) (hm.all (hh := 0) (T := 89) (by kernel_rfl))) (qv 1 0 [0, 1] (fun w hm => ld_run (b := b_2) (off := 0) (s := 96) (agg := true) (vs := row encU32 b1.1 []) (by kernel_rfl) ((row_len encU32_len b1).trans rfl) (.inl rfl) (hm.all (hh := 1) (T := 89) (by kernel_rfl))) (qv 4 0 [0, 1] (fun w hm => ld_run (b := b_2) (off := 0) (s := 96) (agg := true) (vs := row encU32 b1.1 []) (by kernel_rfl) ((row_len encU32_len b1).trans rfl) (.inl rfl) (hm.all (hh := 1) (T := 89) (by kernel_rfl))) (qv 5 0 [0, 1] (fun w hm => ld_run (b := b_1) (off := 0) (s := 96) (agg := true) (vs := row encU32 a0.1 []) (by kernel_rfl) ((row_len encU32_len a0).trans rfl) (.inl rfl) (hm.all (hh := 0) (T := 89) (by kernel_rfl))) ?_))))))))))))))))
  obtain ⟨t_1, ht_3, h⟩ := bd h
  refine tD 2 (pc 0 (fun w hm => impl_Drum_less.calls a0 b1 w _ ht_3) ?_)
  rintro w v w' hm ⟨rfl, hm'⟩
  refine ⟨_, hm.app hm', kD [0, 1] ?_⟩
  clear hm hm'
  obtain ⟨t_2, ht_4, h⟩ := bd h
  refine tD 3 (pc 0 (fun w hm => impl_Drum_count.calls t_1 w _ ht_4) ?_)
  rintro w v w' hm ⟨rfl, hm'⟩
  refine ⟨_, hm.app hm', kD [0, 1] ?_⟩
  clear hm hm'
  obtain ⟨t_3, ht_5, h⟩ := bd h
  refine tD 6 (pc 0 (fun w hm => impl_Drum_less.calls b1 a0 w _ ht_5) ?_)
  rintro w v w' hm ⟨rfl, hm'⟩
  refine ⟨_, hm.app hm', kD [0, 1] ?_⟩
  clear hm hm'
  obtain ⟨t_4, ht_6, h⟩ := bd h
  refine tD 7 (pc 0 (fun w hm => impl_Drum_count.calls t_3 w _ ht_6) ?_)
  rintro w v w' hm ⟨rfl, hm'⟩
  refine ⟨_, hm.app hm', kD [0, 1] ?_⟩
  clear hm hm'
  refine qd [⟨8, 0, 0⟩,⟨9, 0, 0⟩] 0 [0, 1] (qz (jx_then (jc_ret ?_)))
  obtain rfl := Option.some.inj h
  exact qr [] (fun w hm => ⟨rfl, hm.pk []⟩)
/-! ### impl.costs -/
def impl_costs.k_1 (xt_2165 : List (List Int)) : Option ((List (List Int))) := some xt_2165
def impl_costs.k_7 (xt_2647 : List (List Int)) (i_2 : Int) (xs_6 : List Int) : Option (((List (List Int)) × Int) ⊕ ((List (List Int)))) := (if xt_2647.length + 1 ≤ 4294967296 then some (.inl ((xt_2647 ++ [xs_6]), (w64 (i_2 + 1)))) else none)
def impl_costs.l_10 (list0 : List (Arr 96 Int)) (x_5 : Arr 96 Int) : ((List Int) × Int) → Option (((List Int) × Int) ⊕ ((List Int)))
  | (xs_8, i_9) => (if (decide (i_9 < (list0.length : Int))) = true then (ix list0 i_9).bind fun x_12 => (impl_cost x_5 x_12).bind fun t_13 => (if xs_8.length + ([t_13] : List Int).length ≤ 4294967296 then some (.inl ((xs_8 ++ ([t_13] : List Int)), (w64 (i_9 + 1)))) else none) else some (.inr xs_8))
def impl_costs.l_3 (list0 : List (Arr 96 Int)) : ((List (List Int)) × Int) → Option (((List (List Int)) × Int) ⊕ ((List (List Int))))
  | (xt_2647, i_2) => (if (decide (i_2 < (list0.length : Int))) = true then (ix list0 i_2).bind fun x_5 => (loop (impl_costs.l_10 list0 x_5) (([] : List Int), 0)).bind fun t_11 => impl_costs.k_7 xt_2647 i_2 t_11 else some (.inr xt_2647))
def impl_costs (list0 : List (Arr 96 Int)) : Option ((List (List Int))) := (loop (impl_costs.l_3 list0) (([] : List (List Int)), 0)).bind fun t_4 => impl_costs.k_1 t_4
theorem impl_costs.calls (list0 : List (Arr 96 Int)) (w : World) (r : (List (List Int))) {A_a : Option Addr} {A_an : Nat} (A_c : Nat) (A_h : Rw w A_a 96 encA96U32 list0) (A_hn : list0.length = A_an) (h : impl_costs list0 = some r) :
    Calls Try.prog 55 #[(.slice A_a A_an A_c)] w fun e w' => ∃ v, e = .returned v ∧ (∃ (o0 : Option Nat) (c0 : Nat) (s0 : List Value) (n0 : Nat) (h0 : List Hd), InP h0 r ∧ h0.length = n0 ∧ (o0 ≠ none → n0 ≤ c0 ∧ s0.length = (c0 - n0) * 1) ∧ (o0 = none → h0 = [] ∧ c0 = 0) ∧ v = .slice (o0.map fun b => ⟨b, 0, none⟩) n0 c0 ∧ Mem w [] [⟨o0, 49, row encHd h0 s0⟩, ⟨none, CLU, cluC encI64 h0 r⟩] w') := by
  subst A_hn
  rw [impl_costs] at h
  refine enter (args := [(.slice A_a list0.length A_c)]) Try.func55 rfl Try.ntmps55 (by kernel_rfl) (L := []) (W := []) (Mem.start w) ?_
  refine jc_seq (jc_region (qh [0] (qe (jx_then (jc_seq (jc_region (tO (qa 0 (fun b_1 => jk_clu encI64 (jkO (qh [0] (qe (jx_then (jc_seq (jc_seq (jc_region (qh [0,0,0] (qe (jx_then (jc_meet (fun (j : (List (List Int)) × (List Hd) × (Option Nat) × Nat × (List Value) × Nat) => match j with | ⟨xt_2165, hh_2166, o_2167, cap_2168, sp_2169, n_2170⟩ => impl_costs.k_1 xt_2165 = some r ∧ (hh_2166.length = n_2170) ∧ ((o_2167 ≠ none → n_2170 ≤ cap_2168 ∧ sp_2169.length = (cap_2168 - n_2170) * 1)) ∧ ((o_2167 = none → hh_2166 = [] ∧ cap_2168 = 0)) ∧ (InP hh_2166 xt_2165)) (fun (j : (List (List Int)) × (List Hd) × (Option Nat) × Nat × (List Value) × Nat) => match j with | ⟨xt_2165, hh_2166, o_2167, cap_2168, sp_2169, n_2170⟩ => [(2, [], (.slice none 0 0)), (3, [], (.slice (o_2167.map fun b => ⟨b, 0, none⟩) n_2170 cap_2168))]) (fun (j : (List (List Int)) × (List Hd) × (Option Nat) × Nat × (List Value) × Nat) => match j with | ⟨xt_2165, hh_2166, o_2167, cap_2168, sp_2169, n_2170⟩ => [⟨o_2167, 49, row encHd hh_2166 sp_2169⟩, ⟨none, CLU, cluC encI64 hh_2166 xt_2165⟩]) ?_ ?_))))))))))))))))))))
  ·refine jc_block ?_
   obtain ⟨t_4, ht_2891, hr_2656⟩ := bd h
   refine jc_loop (fun (s : (List (List Int)) × Int) (x : (List Hd) × (Option Nat) × Nat × (List Value) × Nat) => match s, x with | ⟨xt_2647, i_2⟩, ⟨hh_2648, o_2649, cap_2650, sp_2651, n_2652⟩ => (hh_2648.length = n_2652) ∧ ((o_2649 ≠ none → n_2652 ≤ cap_2650 ∧ sp_2651.length = (cap_2650 - n_2652) * 1)) ∧ ((o_2649 = none → hh_2648 = [] ∧ cap_2650 = 0)) ∧ (InP hh_2648 xt_2647)) (fun (s : (List (List Int)) × Int) (x : (List Hd) × (Option Nat) × Nat × (List Value) × Nat) => match s, x with | ⟨xt_2647, i_2⟩, ⟨hh_2648, o_2649, cap_2650, sp_2651, n_2652⟩ => [(0, [], (.slice A_a list0.length A_c)), (2, [], (.slice none 0 0)), (3, [], (.slice (o_2649.map fun b => ⟨b, 0, none⟩) n_2652 cap_2650)), (10, [], (.slice A_a list0.length A_c)), (11, [], (.int .i64 (list0.length : Int))), (12, [], (.int .i64 i_2))]) (fun (s : (List (List Int)) × Int) (x : (List Hd) × (Option Nat) × Nat × (List Value) × Nat) => match s, x with | ⟨xt_2647, i_2⟩, ⟨hh_2648, o_2649, cap_2650, sp_2651, n_2652⟩ => [⟨o_2649, 49, row encHd hh_2648 sp_2651⟩, ⟨none, CLU, cluC encI64 hh_2648 xt_2647⟩]) ht_2891 ⟨([] : List Hd), (some b_1), 0, [], 0⟩ ⟨rfl, (fun _ => ⟨Nat.le_refl _, by simp⟩), (fun e => nomatch e), InP.nil⟩ (by kernel_rfl) [0, 1] (by kernel_rfl) (by kernel_rfl) ?_
   rintro ⟨xt_2647, i_2⟩ ⟨hh_2648, o_2649, cap_2650, sp_2651, n_2652⟩ y_2657 ⟨rfl, hs_2653, ho_2654, hI_2655⟩ h
   rw [impl_costs.l_3] at h
   refine jc_seq (jc_region (qh [0] (qe (jx_then (jc_seq (qi h (fun h => ?_) (fun h => ?_)))))))
   ·refine jc_skip (jx_then (jc_seq (jc_block (jc_seq (jc_region ?_)))))
    obtain ⟨x_5, hx_2660, h⟩ := bd h
    refine tO (qx 0 A_a 96 hx_2660 rfl (A_h.sp hx_2660) (jkO (tO (p_ldx 0 (aB A_a) (aO A_a + i_2.toNat * 96) (encA96U32 x_5) 96 (by kernel_rfl) (by kernel_rfl) (encA96U32_len x_5) (fun w hm => ((hm.xr A_h).at hx_2660)) (jkO (tO (qa 0 (fun b_2661 => jkO (tO (p_sA 0 2 b_2661 96 1 89 encU32 (Arr.rep 96 0) x_5 (by kernel_rfl) (by kernel_rfl) (by kernel_rfl) encU32_len encU32_cell (by kernel_rfl) (jkO (qe (jx_then (jc_seq (jc_region (tO (qa 0 (fun b_2662 => jkO (qh [0] (qe (jx_then (jc_seq (jc_seq (jc_region (qh [0,0,0] (qe (jx_then (jc_meet (fun (j : (List Int) × (Option Nat) × Nat × (List Value) × Nat) => match j with | ⟨xs_6, o_2825, cap_2826, sp_2827, n_2828⟩ => impl_costs.k_7 xt_2647 i_2 xs_6 = some y_2657 ∧ (xs_6.length = n_2828) ∧ ((o_2825 ≠ none → n_2828 ≤ cap_2826 ∧ sp_2827.length = (cap_2826 - n_2828) * 1)) ∧ ((o_2825 = none → xs_6 = [] ∧ cap_2826 = 0))) (fun (j : (List Int) × (Option Nat) × Nat × (List Value) × Nat) => match j with | ⟨xs_6, o_2825, cap_2826, sp_2827, n_2828⟩ => [(0, [], (.slice A_a list0.length A_c)), (2, [], (.slice none 0 0)), (3, [], (.slice (o_2649.map fun b => ⟨b, 0, none⟩) hh_2648.length cap_2650)), (6, [], (.slice (o_2825.map fun b => ⟨b, 0, none⟩) n_2828 cap_2826)), (10, [], (.slice A_a list0.length A_c)), (11, [], (.int .i64 (list0.length : Int))), (12, [], (.int .i64 i_2))]) (fun (j : (List Int) × (Option Nat) × Nat × (List Value) × Nat) => match j with | ⟨xs_6, o_2825, cap_2826, sp_2827, n_2828⟩ => [⟨o_2649, 49, row encHd hh_2648 sp_2651⟩, ⟨none, CLU, cluC encI64 hh_2648 xt_2647⟩, ⟨(some b_2661), 89, row encU32 x_5.1 []⟩, ⟨o_2825, 2, row encI64 xs_6 sp_2827⟩]) ?_ ?_))))))))))))))))))))))))))))
    ·refine jc_block ?_
     obtain ⟨t_11, ht_2889, hr_2874⟩ := bd h
     refine jc_loop (fun (s : (List Int) × Int) (x : (Option Nat) × Nat × (List Value) × Nat) => match s, x with | ⟨xs_8, i_9⟩, ⟨o_2868, cap_2869, sp_2870, n_2871⟩ => (xs_8.length = n_2871) ∧ ((o_2868 ≠ none → n_2871 ≤ cap_2869 ∧ sp_2870.length = (cap_2869 - n_2871) * 1)) ∧ ((o_2868 = none → xs_8 = [] ∧ cap_2869 = 0))) (fun (s : (List Int) × Int) (x : (Option Nat) × Nat × (List Value) × Nat) => match s, x with | ⟨xs_8, i_9⟩, ⟨o_2868, cap_2869, sp_2870, n_2871⟩ => [(0, [], (.slice A_a list0.length A_c)), (2, [], (.slice none 0 0)), (3, [], (.slice (o_2649.map fun b => ⟨b, 0, none⟩) hh_2648.length cap_2650)), (5, [], (.pointer (some ⟨b_2661, 0, none⟩))), (6, [], (.slice (o_2868.map fun b => ⟨b, 0, none⟩) n_2871 cap_2869)), (10, [], (.slice A_a list0.length A_c)), (11, [], (.int .i64 (list0.length : Int))), (12, [], (.int .i64 i_2)), (17, [], (.slice A_a list0.length A_c)), (18, [], (.int .i64 (list0.length : Int))), (19, [], (.int .i64 i_9))]) (fun (s : (List Int) × Int) (x : (Option Nat) × Nat × (List Value) × Nat) => match s, x with | ⟨xs_8, i_9⟩, ⟨o_2868, cap_2869, sp_2870, n_2871⟩ => [⟨o_2649, 49, row encHd hh_2648 sp_2651⟩, ⟨none, CLU, cluC encI64 hh_2648 xt_2647⟩, ⟨(some b_2661), 89, row encU32 x_5.1 []⟩, ⟨o_2868, 2, row encI64 xs_8 sp_2870⟩]) ht_2889 ⟨(some b_2662), 0, [], 0⟩ ⟨rfl, (fun _ => ⟨Nat.le_refl _, by simp⟩), (fun e => nomatch e)⟩ (by kernel_rfl) [0, 1, 2, 3] (by kernel_rfl) (by kernel_rfl) ?_
     rintro ⟨xs_8, i_9⟩ ⟨o_2868, cap_2869, sp_2870, n_2871⟩ y_2875 ⟨rfl, hs_2872, ho_2873⟩ h
     rw [impl_costs.l_10] at h
     refine jc_seq (jc_region (qh [0] (qe (jx_then (jc_seq (qi h (fun h => ?_) (fun h => ?_)))))))
     ·refine jc_skip (jx_then (jc_seq (jc_block (jc_seq (jc_region ?_)))))
      obtain ⟨x_12, hx_2878, h⟩ := bd h
      refine tO (qx 0 A_a 96 hx_2878 rfl (A_h.sp hx_2878) (jkO (tO (p_ldx 0 (aB A_a) (aO A_a + i_9.toNat * 96) (encA96U32 x_12) 96 (by kernel_rfl) (by kernel_rfl) (encA96U32_len x_12) (fun w hm => ((hm.xr A_h).at hx_2878)) (jkO (tO (qa 0 (fun b_2879 => jkO (tO (p_sA 0 4 b_2879 96 1 89 encU32 (Arr.rep 96 0) x_12 (by kernel_rfl) (by kernel_rfl) (by kernel_rfl) encU32_len encU32_cell (by kernel_rfl) (jkO (qe (jx_then (jc_region (qh [0] (tO (p_ldA 0 2 b_2661 96 1 89 encU32 x_5 (by kernel_rfl) (by kernel_rfl) (by kernel_rfl) encU32_len (by kernel_rfl) (jkO (tO (p_ldA 0 4 b_2879 96 1 89 encU32 x_12 (by kernel_rfl) (by kernel_rfl) (by kernel_rfl) encU32_len (by kernel_rfl) (jkO ?_)))))))))))))))))))))
      obtain ⟨t_13, ht_2880, h⟩ := bd h
      refine tO (pc 0 (fun w hm => impl_cost.calls x_5 x_12 w _ ht_2880) ?_)
      rintro w v w' hm ⟨rfl, hm'⟩
      refine ⟨_, hm.app hm', jkO ?_⟩
      clear hm hm'
      refine tO (qa 0 (fun b_2881 => jkO ?_))
      obtain ⟨hg_2882, h⟩ := gd h
      exact tO (p_apn 0 3 o_2868 2 xs_8.length 1 cap_2869 1 8 (some ⟨b_2881, 0, none⟩) encI64 xs_8 ([t_13] : List Int) sp_2870 (.int .i64 0) rfl rfl (by kernel_rfl) (by kernel_rfl) (by kernel_rfl) encI64_len encI64_cell hs_2872 ho_2873 (fun w hm => (hm.ow 5 (some b_2881) 2 ([t_13] : List Int) [] (fun e => nomatch e) encI64_len)) hg_2882 (by kernel_rfl) (by kernel_rfl) (fun o_2883 cap_2884 sp_2885 hs_2886 ho_2887 => jkO (qh [0] (qe (jx_inn (jx_then (jc_region (qh [0,0] (qe (qb ((xs_8 ++ ([t_13] : List Int)), (w64 (i_9 + 1))) ⟨o_2883, cap_2884, sp_2885, (xs_8 ++ ([t_13] : List Int)).length⟩ h ⟨rfl, hs_2886, ho_2887⟩ [0, 1, 2, 3]))))))))))
     ·refine jc_exit (jx_thenx (jx_leave xs_8 (Option.some.inj h).symm (fun e_2888 => ?_)))
      subst e_2888
      exact jx_ine (qm ⟨xs_8, o_2868, cap_2869, sp_2870, xs_8.length⟩ ⟨hr_2874, rfl, hs_2872, ho_2873⟩ [0, 1, 2, 3])
    ·rintro ⟨xs_6, o_2825, cap_2826, sp_2827, n_2828⟩ ⟨h, rfl, hs_2829, ho_2830⟩
     replace h : impl_costs.k_7 xt_2647 i_2 xs_6 = some y_2657 := h
     rw [impl_costs.k_7] at h
     refine jx_then (jc_region (qh [0,0] (tO (qa 0 (fun b_2831 => jkO ?_)))))
     obtain ⟨hg_2832, h⟩ := gd h
     exact tO (p_apn 0 0 o_2649 49 hh_2648.length 1 cap_2650 1 24 (some ⟨b_2831, 0, none⟩) encHd hh_2648 [(Hd.mk (o_2825.map fun b => ⟨b, 0, none⟩) xs_6.length cap_2826)] sp_2651 (.slice none 0 0) rfl rfl (by kernel_rfl) (by kernel_rfl) (by kernel_rfl) encHd_len encHd_cell hs_2653 ho_2654 (fun w hm => (hm.ow 4 (some b_2831) 49 ([(Hd.mk (o_2825.map fun b => ⟨b, 0, none⟩) xs_6.length cap_2826)]) [] (fun e => nomatch e) encHd_len)) (tabbig hI_2655 hg_2832) (by kernel_rfl) (by kernel_rfl) (fun o_2833 cap_2834 sp_2835 hs_2836 ho_2837 => jk_frz (enc := encI64) (hs := hh_2648) (xss := xt_2647) (o := o_2825) (T := 2) (xs := xs_6) (sp := sp_2827) 1 3 xs_6.length cap_2826 hI_2655 (jkO (qh [0] (qe (jx_inn (jx_then (jc_region (qh [0,0] (qe (qb ((xt_2647 ++ [xs_6]), (w64 (i_2 + 1))) ⟨(hh_2648 ++ [(Hd.mk (o_2825.map fun b => ⟨b, 0, none⟩) xs_6.length cap_2826)]), o_2833, cap_2834, sp_2835, (hh_2648 ++ [(Hd.mk (o_2825.map fun b => ⟨b, 0, none⟩) xs_6.length cap_2826)]).length⟩ h ⟨rfl, hs_2836, ho_2837, (hI_2655.snoc rfl (fun e => (ho_2830 e).1))⟩ [0, 1])))))))))))
   ·refine jc_exit (jx_thenx (jx_leave xt_2647 (Option.some.inj h).symm (fun e_2890 => ?_)))
    subst e_2890
    exact jx_ine (qm ⟨xt_2647, hh_2648, o_2649, cap_2650, sp_2651, hh_2648.length⟩ ⟨hr_2656, rfl, hs_2653, ho_2654, hI_2655⟩ [0, 1])
  ·rintro ⟨xt_2165, hh_2166, o_2167, cap_2168, sp_2169, n_2170⟩ ⟨h, rfl, hs_2171, ho_2172, hI_2173⟩
   replace h : impl_costs.k_1 xt_2165 = some r := h
   rw [impl_costs.k_1] at h
   refine jx_then (jc_seq (jc_region (qh [0,0] (qe (jx_then (jc_ret ?_))))))
   obtain rfl := Option.some.inj h
   exact qr [] (fun w hm => ⟨o_2167, cap_2168, sp_2169, hh_2166.length, hh_2166, hI_2173, rfl, hs_2171, ho_2172, rfl, hm.pk [0, 1]⟩)
/-! ### impl.size[[]int64] -/
def impl_size_int64 (list0 : List (List Int)) : Option (Int) := some (list0.length : Int)
theorem impl_size_int64.calls (list0 : List (List Int)) (w : World) (r : Int) {A_a : Option Addr} {A_an : Nat} (A_c : Nat) {A_hs : List Hd} (A_h : Rw w A_a 1 encHd A_hs) (A_hn : list0.length = A_an) (A_i : Inn w [] 1 encI64 A_hs list0) (h : impl_size_int64 list0 = some r) :
    Calls Try.prog 106 #[(.slice A_a A_an A_c)] w fun e w' => ∃ v, e = .returned v ∧ (v = (.int .i64 r) ∧ Mem w [] [] w') := by
  subst A_hn
  rw [impl_size_int64] at h
  refine enter (args := [(.slice A_a list0.length A_c)]) Try.func106 rfl Try.ntmps106 (by kernel_rfl) (L := []) (W := []) (Mem.start w) ?_
  refine jc_seq (jc_region (qh [0] (qe (jx_then (jc_seq (jc_region (qh [0,0,0] (qe (jx_then (jc_ret ?_))))))))))
  obtain rfl := Option.some.inj h
  exact qr [] (fun w hm => ⟨rfl, hm.pk []⟩)
/-! ### cmp.isNaN[int64] -/
def cmp_isNaN_int64 (x0 : Int) : Option (Bool) := some (x0 != x0)
theorem cmp_isNaN_int64.calls (x0 : Int) (w : World) (r : Bool) (h : cmp_isNaN_int64 x0 = some r) :
    Calls Try.prog 137 #[(.int .i64 x0)] w fun e w' => ∃ v, e = .returned v ∧ (v = (.bool r) ∧ Mem w [] [] w') := by
  rw [cmp_isNaN_int64] at h
  refine enter (args := [(.int .i64 x0)]) Try.func137 rfl Try.ntmps137 (by kernel_rfl) (L := []) (W := []) (Mem.start w) ?_
  refine jc_seq (jc_region (qh [0] (qe (jx_then (jc_seq (jc_region (qh [0,0,0,0] (qe (jx_then (jc_ret ?_))))))))))
  obtain rfl := Option.some.inj h
  exact qr [] (fun w hm => ⟨rfl, hm.pk []⟩)
/-! ### cmp.Compare[int64] -/
def cmp_Compare_int64 (x0 : Int) (y1 : Int) : Option (Int) := (cmp_isNaN_int64 x0).bind fun t_1 => (cmp_isNaN_int64 y1).bind fun t_2 => (if t_1 = true then (if t_2 = true then some 0 else some (-1)) else (if t_2 = true then some 1 else (if (decide (x0 < y1)) = true then some (-1) else (if (decide (x0 > y1)) = true then some 1 else some 0))))
theorem cmp_Compare_int64.calls (x0 : Int) (y1 : Int) (w : World) (r : Int) (h : cmp_Compare_int64 x0 y1 = some r) :
    Calls Try.prog 99 #[(.int .i64 x0), (.int .i64 y1)] w fun e w' => ∃ v, e = .returned v ∧ (v = (.int .i64 r) ∧ Mem w [] [] w') := by
  rw [cmp_Compare_int64] at h
  refine enter (args := [(.int .i64 x0), (.int .i64 y1)]) Try.func99 rfl Try.ntmps99 (by kernel_rfl) (L := []) (W := []) (Mem.start w) ?_
  refine jc_seq (jc_region (qh [0] (qe (jx_then (jc_seq (jc_region (qh [0] ?_)))))))
  obtain ⟨t_1, ht_1, h⟩ := bd h
  refine tO (pc 0 (fun w hm => cmp_isNaN_int64.calls x0 w _ ht_1) ?_)
  rintro w v w' hm ⟨rfl, hm'⟩
  refine ⟨_, hm.app hm', jkO ?_⟩
  clear hm hm'
  refine qh [0] (qe (jx_then (jc_seq (jc_region (qh [0] ?_)))))
  obtain ⟨t_2, ht_2, h⟩ := bd h
  refine tO (pc 0 (fun w hm => cmp_isNaN_int64.calls y1 w _ ht_2) ?_)
  rintro w v w' hm ⟨rfl, hm'⟩
  refine ⟨_, hm.app hm', jkO ?_⟩
  clear hm hm'
  refine qh [0] (qe (jx_then (jc_seq (jc_seq (jc_region (qh [0] (qe (jx_then (qi h (fun h => ?_) (fun h => ?_))))))))))
  ·refine jc_seq (jc_seq (jc_region (qh [0] (qe (jx_then (qi h (fun h => ?_) (fun h => ?_)))))))
   ·refine jc_seq (jc_region (qh [0] (qe (jx_then (jc_ret (jx_thenr (jx_thenr ?_)))))))
    obtain rfl := Option.some.inj h
    exact qr [] (fun w hm => ⟨rfl, hm.pk []⟩)
   ·refine jc_skip (jx_then (jc_seq (jc_region (qh [0] (qe (jx_then (jc_ret (jx_thenr ?_))))))))
    obtain rfl := Option.some.inj h
    exact qr [] (fun w hm => ⟨rfl, hm.pk []⟩)
  ·refine jc_skip (jx_then (jc_seq (jc_seq (jc_region (qh [0] (qe (jx_then (qi h (fun h => ?_) (fun h => ?_)))))))))
   ·refine jc_seq (jc_region (qh [0] (qe (jx_then (jc_ret (jx_thenr ?_))))))
    obtain rfl := Option.some.inj h
    exact qr [] (fun w hm => ⟨rfl, hm.pk []⟩)
   ·refine jc_skip (jx_then (jc_seq (jc_seq (jc_region (qh [0,0,0] (qe (jx_then (qi h (fun h => ?_) (fun h => ?_)))))))))
    ·refine jc_seq (jc_region (qh [0] (qe (jx_then (jc_ret (jx_thenr ?_))))))
     obtain rfl := Option.some.inj h
     exact qr [] (fun w hm => ⟨rfl, hm.pk []⟩)
    ·refine jc_skip (jx_then (jc_seq (jc_seq (jc_region (qh [0,0,0] (qe (jx_then (qi h (fun h => ?_) (fun h => ?_)))))))))
     ·refine jc_seq (jc_region (qh [0] (qe (jx_then (jc_ret (jx_thenr ?_))))))
      obtain rfl := Option.some.inj h
      exact qr [] (fun w hm => ⟨rfl, hm.pk []⟩)
     ·refine jc_skip (jx_then (jc_seq (jc_region (qh [0] (qe (jx_then (jc_ret ?_)))))))
      obtain rfl := Option.some.inj h
      exact qr [] (fun w hm => ⟨rfl, hm.pk []⟩)
/-! ### impl.pairsOf$1 -/
def impl_pairsOf_1 (a0 : Arr 2 Int) (b1 : Arr 2 Int) (p2 : List (List Int)) : Option (Int) := (ix a0.1 0).bind fun x_1 => (ix p2 x_1).bind fun x_2 => (ix a0.1 1).bind fun x_3 => (ix x_2 x_3).bind fun x_4 => (ix b1.1 0).bind fun x_5 => (ix p2 x_5).bind fun x_6 => (ix b1.1 1).bind fun x_7 => (ix x_6 x_7).bind fun x_8 => (cmp_Compare_int64 x_4 x_8).bind fun t_9 => some t_9
theorem impl_pairsOf_1.calls (a0 : Arr 2 Int) (b1 : Arr 2 Int) (p2 : List (List Int)) (w : World) (r : Int) {C_a : Option Addr} {C_an : Nat} (C_c : Nat) {C_hs : List Hd} (C_h : Rw w C_a 1 encHd C_hs) (C_hn : p2.length = C_an) (C_b : Nat) (hm0 : Mem w (bs [some C_b]) [⟨some C_b, 84, [(.slice C_a C_an C_c)]⟩] w) (C_ha : C_hs ≠ [] → aB C_a ∉ bs [some C_b]) (C_i : Inn w (bs [some C_b]) 1 encI64 C_hs p2) (h : impl_pairsOf_1 a0 b1 p2 = some r) :
    Calls Try.prog 108 #[(.agg (row encI64 a0.1 []).toArray), (.agg (row encI64 b1.1 []).toArray), (.pointer (some ⟨C_b, 0, none⟩))] w fun e w' => ∃ v, e = .returned v ∧ (v = (.int .i64 r) ∧ Mem w (bs [some C_b]) [⟨some C_b, 84, [(.slice C_a C_an C_c)]⟩] w') := by
  subst C_hn
  rw [impl_pairsOf_1] at h
  refine enter (args := [(.agg (row encI64 a0.1 []).toArray), (.agg (row encI64 b1.1 []).toArray), (.pointer (some ⟨C_b, 0, none⟩))]) Try.func108 rfl Try.ntmps108 (by kernel_rfl) (L := [⟨some C_b, 84, [(.slice C_a p2.length C_c)]⟩]) (W := bs [some C_b]) hm0 ?_
  refine jc_seq (jc_region (tO (qa 0 (fun b_1 => jkO (tO (qa 0 (fun b_2 => jkO (qh [0] (qe (jx_then (jc_seq (qg [⟨some C_b, 84, [(.slice C_a p2.length C_c)]⟩, ⟨(some b_1), 93, row encI64 a0.1 []⟩, ⟨(some b_2), 93, row encI64 b1.1 []⟩] 20 (qd [⟨0, 0, 0⟩,⟨9, 0, 0⟩] 18 [0, 1, 2] ?_)))))))))))))
  obtain ⟨x_1, hx_3, h⟩ := bd h
  refine qv 1 0 [0, 1, 2] (fun w hm => idx_run (a := (some ⟨b_1, 0, none⟩)) (len := 2) (s := 1) (j := 0) (by kernel_rfl) (ix_some hx_3).1 (ltn hx_3 a0.2) rfl) (qv 2 0 [0, 1, 2] (fun w hm => ld_run (b := aB (some ⟨b_1, 0, none⟩)) (off := (aO (some ⟨b_1, 0, none⟩) + (0 : Int).toNat * 1)) (s := 1) (agg := false) (vs := (encI64 x_1)) (by kernel_rfl) (by kernel_rfl) (.inr rfl) ((hm.ow 1 (some b_1) 93 a0.1 [] (fun e => nomatch e) encI64_len).at hx_3)) ?_)
  obtain ⟨x_2, hx_4, h⟩ := bd h
  refine qv 3 0 [0, 1, 2] (fun w hm => idx_run (a := C_a) (len := p2.length) (s := 1) (j := x_1) (by kernel_rfl) (ix_some hx_4).1 (ltn hx_4 rfl) (C_h.sp (C_i.ixh hx_4))) (qv 4 0 [0, 1, 2] (fun w hm => ld_run (b := aB C_a) (off := (aO C_a + x_1.toNat * 1)) (s := 1) (agg := false) (vs := encHd (hd C_hs x_1)) (by kernel_rfl) (by kernel_rfl) (.inr rfl) ((hm.exRowW C_h C_ha).at (C_i.ixh hx_4))) ?_)
  obtain ⟨x_3, hx_5, h⟩ := bd h
  refine qv 5 0 [0, 1, 2] (fun w hm => idx_run (a := (some ⟨b_1, 0, none⟩)) (len := 2) (s := 1) (j := 1) (by kernel_rfl) (ix_some hx_5).1 (ltn hx_5 a0.2) rfl) (qv 6 0 [0, 1, 2] (fun w hm => ld_run (b := aB (some ⟨b_1, 0, none⟩)) (off := (aO (some ⟨b_1, 0, none⟩) + (1 : Int).toNat * 1)) (s := 1) (agg := false) (vs := (encI64 x_3)) (by kernel_rfl) (by kernel_rfl) (.inr rfl) ((hm.ow 1 (some b_1) 93 a0.1 [] (fun e => nomatch e) encI64_len).at hx_5)) ?_)
  obtain ⟨x_4, hx_6, h⟩ := bd h
  refine qv 7 0 [0, 1, 2] (fun w hm => idx_run (a := (hd C_hs x_1).a) (len := ((hd C_hs x_1).n)) (s := 1) (j := x_3) (by kernel_rfl) (ix_some hx_6).1 (ltn hx_6 (C_i.get hx_4).2.1) ((C_i.get hx_4).1.sp hx_6)) (qv 8 0 [0, 1, 2] (fun w hm => ld_run (b := aB (hd C_hs x_1).a) (off := (aO (hd C_hs x_1).a + x_3.toNat * 1)) (s := 1) (agg := false) (vs := (encI64 x_4)) (by kernel_rfl) (by kernel_rfl) (.inr rfl) ((hm.exRowW (C_i.get hx_4).1 (C_i.get hx_4).2.2).at hx_6)) ?_)
  obtain ⟨x_5, hx_7, h⟩ := bd h
  refine qv 10 0 [0, 1, 2] (fun w hm => idx_run (a := (some ⟨b_2, 0, none⟩)) (len := 2) (s := 1) (j := 0) (by kernel_rfl) (ix_some hx_7).1 (ltn hx_7 b1.2) rfl) (qv 11 0 [0, 1, 2] (fun w hm => ld_run (b := aB (some ⟨b_2, 0, none⟩)) (off := (aO (some ⟨b_2, 0, none⟩) + (0 : Int).toNat * 1)) (s := 1) (agg := false) (vs := (encI64 x_5)) (by kernel_rfl) (by kernel_rfl) (.inr rfl) ((hm.ow 2 (some b_2) 93 b1.1 [] (fun e => nomatch e) encI64_len).at hx_7)) ?_)
  obtain ⟨x_6, hx_8, h⟩ := bd h
  refine qv 12 0 [0, 1, 2] (fun w hm => idx_run (a := C_a) (len := p2.length) (s := 1) (j := x_5) (by kernel_rfl) (ix_some hx_8).1 (ltn hx_8 rfl) (C_h.sp (C_i.ixh hx_8))) (qv 13 0 [0, 1, 2] (fun w hm => ld_run (b := aB C_a) (off := (aO C_a + x_5.toNat * 1)) (s := 1) (agg := false) (vs := encHd (hd C_hs x_5)) (by kernel_rfl) (by kernel_rfl) (.inr rfl) ((hm.exRowW C_h C_ha).at (C_i.ixh hx_8))) ?_)
  obtain ⟨x_7, hx_9, h⟩ := bd h
  refine qv 14 0 [0, 1, 2] (fun w hm => idx_run (a := (some ⟨b_2, 0, none⟩)) (len := 2) (s := 1) (j := 1) (by kernel_rfl) (ix_some hx_9).1 (ltn hx_9 b1.2) rfl) (qv 15 0 [0, 1, 2] (fun w hm => ld_run (b := aB (some ⟨b_2, 0, none⟩)) (off := (aO (some ⟨b_2, 0, none⟩) + (1 : Int).toNat * 1)) (s := 1) (agg := false) (vs := (encI64 x_7)) (by kernel_rfl) (by kernel_rfl) (.inr rfl) ((hm.ow 2 (some b_2) 93 b1.1 [] (fun e => nomatch e) encI64_len).at hx_9)) ?_)
  obtain ⟨x_8, hx_10, h⟩ := bd h
  refine qv 16 0 [0, 1, 2] (fun w hm => idx_run (a := (hd C_hs x_5).a) (len := ((hd C_hs x_5).n)) (s := 1) (j := x_7) (by kernel_rfl) (ix_some hx_10).1 (ltn hx_10 (C_i.get hx_8).2.1) ((C_i.get hx_8).1.sp hx_10)) (qv 17 0 [0, 1, 2] (fun w hm => ld_run (b := aB (hd C_hs x_5).a) (off := (aO (hd C_hs x_5).a + x_7.toNat * 1)) (s := 1) (agg := false) (vs := (encI64 x_8)) (by kernel_rfl) (by kernel_rfl) (.inr rfl) ((hm.exRowW (C_i.get hx_8).1 (C_i.get hx_8).2.2).at hx_10)) ?_)
  obtain ⟨t_9, ht_11, h⟩ := bd h
  refine tD 18 (pc 0 (fun w hm => cmp_Compare_int64.calls x_4 x_8 w _ ht_11) ?_)
  rintro w v w' hm ⟨rfl, hm'⟩
  refine ⟨_, hm.app hm', kD [0, 1, 2] ?_⟩
  clear hm hm'
  refine qd [⟨19, 0, 0⟩] 0 [0, 1, 2] (qz (jx_then (jc_ret ?_)))
  obtain rfl := Option.some.inj h
  exact qr [] (fun w hm => ⟨rfl, hm.pk [0]⟩)
/-! ### slices.insertionSortCmpFunc[[2]int64] -/
def slices_insertionSortCmpFunc_2int64_at_impl_pairsOf_1.k_2 (xs_1 : List (Arr 2 Int)) : Option ((List (Arr 2 Int))) := some xs_1
def slices_insertionSortCmpFunc_2int64_at_impl_pairsOf_1.k_8 (i_4 : Int) (xs_7 : List (Arr 2 Int)) : Option (((List (Arr 2 Int)) × Int) ⊕ ((List (Arr 2 Int)))) := some (.inl (xs_7, (w64 (i_4 + 1))))
def slices_insertionSortCmpFunc_2int64_at_impl_pairsOf_1.l_11 (a1 : Int) (g3c0 : List (List Int)) : ((List (Arr 2 Int)) × Int) → Option (((List (Arr 2 Int)) × Int) ⊕ ((List (Arr 2 Int))))
  | (xs_9, i_10) => (if (decide (i_10 > a1)) = true then (ix xs_9 i_10).bind fun x_13 => (ix xs_9 (w64 (i_10 - 1))).bind fun x_14 => (impl_pairsOf_1 x_13 x_14 g3c0).bind fun t_15 => (if (decide (t_15 < 0)) = true then (ix xs_9 (w64 (i_10 - 1))).bind fun x_16 => (ix xs_9 i_10).bind fun x_17 => (ix xs_9 i_10).bind fun x_18 => (ix (xs_9.set i_10.toNat x_16) (w64 (i_10 - 1))).bind fun x_19 => some (.inl (((xs_9.set i_10.toNat x_16).set (w64 (i_10 - 1)).toNat x_17), (w64 (i_10 - 1)))) else some (.inr xs_9)) else some (.inr xs_9))
def slices_insertionSortCmpFunc_2int64_at_impl_pairsOf_1.l_5 (a1 : Int) (b2 : Int) (g3c0 : List (List Int)) : ((List (Arr 2 Int)) × Int) → Option (((List (Arr 2 Int)) × Int) ⊕ ((List (Arr 2 Int))))
  | (xs_3, i_4) => (if (decide (i_4 < b2)) = true then (loop (slices_insertionSortCmpFunc_2int64_at_impl_pairsOf_1.l_11 a1 g3c0) (xs_3, i_4)).bind fun t_12 => slices_insertionSortCmpFunc_2int64_at_impl_pairsOf_1.k_8 i_4 t_12 else some (.inr xs_3))
def slices_insertionSortCmpFunc_2int64_at_impl_pairsOf_1 (data0 : List (Arr 2 Int)) (a1 : Int) (b2 : Int) (g3c0 : List (List Int)) : Option ((List (Arr 2 Int))) := (loop (slices_insertionSortCmpFunc_2int64_at_impl_pairsOf_1.l_5 a1 b2 g3c0) (data0, (w64 (a1 + 1)))).bind fun t_6 => slices_insertionSortCmpFunc_2int64_at_impl_pairsOf_1.k_2 t_6
theorem slices_insertionSortCmpFunc_2int64_at_impl_pairsOf_1.calls (data0 : List (Arr 2 Int)) (a1 : Int) (b2 : Int) (g3c0 : List (List Int)) (w : World) (r : (List (Arr 2 Int))) {D_a : Option Addr} {D_an : Nat} (D_c : Nat) {D_hs : List Hd} (D_h : Rw w D_a 1 encHd D_hs) (D_hn : g3c0.length = D_an) (A_o : Option Nat) {A_on : Nat} {A_c : Nat} {A_sp : List Value} (A_hn : data0.length = A_on) (A_hs : A_o ≠ none → A_on ≤ A_c ∧ A_sp.length = (A_c - A_on) * 2) (A_ho : A_o = none → data0 = [] ∧ A_c = 0) (D_b : Nat) (hm0 : Mem w (bs [A_o, some D_b]) [⟨A_o, 93, row encA2I64 data0 A_sp⟩, ⟨some D_b, 84, [(.slice D_a D_an D_c)]⟩] w) (D_ha : D_hs ≠ [] → aB D_a ∉ bs [A_o, some D_b]) (D_i : Inn w (bs [A_o, some D_b]) 1 encI64 D_hs g3c0) (h : slices_insertionSortCmpFunc_2int64_at_impl_pairsOf_1 data0 a1 b2 g3c0 = some r) :
    Calls Try.prog 174 #[(.slice (A_o.map fun b => ⟨b, 0, none⟩) A_on A_c), (.int .i64 a1), (.int .i64 b2), (.func (.func 108) #[] #[(.pointer (some ⟨D_b, 0, none⟩))])] w fun e w' => ∃ v, e = .returned v ∧ (r.length = A_on ∧ (A_o = none → r = [] ∧ A_c = 0) ∧ v = .tuple #[] ∧ Mem w (bs [A_o, some D_b]) [⟨A_o, 93, row encA2I64 r A_sp⟩, ⟨some D_b, 84, [(.slice D_a D_an D_c)]⟩] w') := by
  subst D_hn A_hn
  rw [slices_insertionSortCmpFunc_2int64_at_impl_pairsOf_1] at h
  refine enter (args := [(.slice (A_o.map fun b => ⟨b, 0, none⟩) data0.length A_c), (.int .i64 a1), (.int .i64 b2), (.func (.func 108) #[] #[(.pointer (some ⟨D_b, 0, none⟩))])]) Try.func174 rfl Try.ntmps174 (by kernel_rfl) (L := [⟨A_o, 93, row encA2I64 data0 A_sp⟩, ⟨some D_b, 84, [(.slice D_a g3c0.length D_c)]⟩]) (W := bs [A_o, some D_b]) hm0 ?_
  refine jc_seq (jc_region (qh [0,0,0] (qe (jx_then (jc_meet (fun (j : (List (Arr 2 Int))) => match j with | xs_1 => slices_insertionSortCmpFunc_2int64_at_impl_pairsOf_1.k_2 xs_1 = some r ∧ (xs_1.length = data0.length) ∧ ((A_o = none → xs_1 = [] ∧ A_c = 0))) (fun (j : (List (Arr 2 Int))) => match j with | xs_1 => []) (fun (j : (List (Arr 2 Int))) => match j with | xs_1 => [⟨A_o, 93, row encA2I64 xs_1 A_sp⟩, ⟨some D_b, 84, [(.slice D_a g3c0.length D_c)]⟩]) ?_ ?_)))))
  ·refine jc_block ?_
   obtain ⟨t_6, ht_906, hr_755⟩ := bd h
   refine jc_loop (fun (s : (List (Arr 2 Int)) × Int) (x : Unit) => match s, x with | ⟨xs_3, i_4⟩, _ => (xs_3.length = data0.length) ∧ ((A_o = none → xs_3 = [] ∧ A_c = 0))) (fun (s : (List (Arr 2 Int)) × Int) (x : Unit) => match s, x with | ⟨xs_3, i_4⟩, _ => [(0, [], (.slice (A_o.map fun b => ⟨b, 0, none⟩) data0.length A_c)), (1, [], (.int .i64 a1)), (2, [], (.int .i64 b2)), (3, [], (.func (.func 108) #[] #[(.pointer (some ⟨D_b, 0, none⟩))])), (8, [], (.int .i64 i_4))]) (fun (s : (List (Arr 2 Int)) × Int) (x : Unit) => match s, x with | ⟨xs_3, i_4⟩, _ => [⟨A_o, 93, row encA2I64 xs_3 A_sp⟩, ⟨some D_b, 84, [(.slice D_a g3c0.length D_c)]⟩]) ht_906 () ⟨rfl, A_ho⟩ (by kernel_rfl) [0, 1] (by kernel_rfl) (by kernel_rfl) ?_
   rintro ⟨xs_3, i_4⟩ _ y_756 ⟨hn_754, ho_753⟩ h
   rw [slices_insertionSortCmpFunc_2int64_at_impl_pairsOf_1.l_5] at h
   refine jc_seq (jc_seq (jc_region (qh [0,0,0] (qe (jx_then (qi h (fun h => ?_) (fun h => ?_)))))))
   ·refine jc_skip (jx_then (jc_seq (jc_block (jc_seq (jc_region (qh [0,0] (qe (jx_then (jc_meet (fun (j : (List (Arr 2 Int))) => match j with | xs_7 => slices_insertionSortCmpFunc_2int64_at_impl_pairsOf_1.k_8 i_4 xs_7 = some y_756 ∧ (xs_7.length = data0.length) ∧ ((A_o = none → xs_7 = [] ∧ A_c = 0))) (fun (j : (List (Arr 2 Int))) => match j with | xs_7 => [(0, [], (.slice (A_o.map fun b => ⟨b, 0, none⟩) data0.length A_c)), (1, [], (.int .i64 a1)), (2, [], (.int .i64 b2)), (3, [], (.func (.func 108) #[] #[(.pointer (some ⟨D_b, 0, none⟩))])), (8, [], (.int .i64 i_4))]) (fun (j : (List (Arr 2 Int))) => match j with | xs_7 => [⟨A_o, 93, row encA2I64 xs_7 A_sp⟩, ⟨some D_b, 84, [(.slice D_a g3c0.length D_c)]⟩]) ?_ ?_)))))))))
    ·refine jc_block ?_
     obtain ⟨t_12, ht_904, hr_879⟩ := bd h
     refine jc_loop (fun (s : (List (Arr 2 Int)) × Int) (x : Unit) => match s, x with | ⟨xs_9, i_10⟩, _ => (xs_9.length = data0.length) ∧ ((A_o = none → xs_9 = [] ∧ A_c = 0))) (fun (s : (List (Arr 2 Int)) × Int) (x : Unit) => match s, x with | ⟨xs_9, i_10⟩, _ => [(0, [], (.slice (A_o.map fun b => ⟨b, 0, none⟩) data0.length A_c)), (1, [], (.int .i64 a1)), (2, [], (.int .i64 b2)), (3, [], (.func (.func 108) #[] #[(.pointer (some ⟨D_b, 0, none⟩))])), (8, [], (.int .i64 i_4)), (9, [], (.int .i64 i_10))]) (fun (s : (List (Arr 2 Int)) × Int) (x : Unit) => match s, x with | ⟨xs_9, i_10⟩, _ => [⟨A_o, 93, row encA2I64 xs_9 A_sp⟩, ⟨some D_b, 84, [(.slice D_a g3c0.length D_c)]⟩]) ht_904 () ⟨hn_754, ho_753⟩ (by kernel_rfl) [0, 1] (by kernel_rfl) (by kernel_rfl) ?_
     rintro ⟨xs_9, i_10⟩ _ y_880 ⟨hn_878, ho_877⟩ h
     rw [slices_insertionSortCmpFunc_2int64_at_impl_pairsOf_1.l_11] at h
     refine jc_seq (jc_seq (qg [⟨A_o, 93, row encA2I64 xs_9 A_sp⟩, ⟨some D_b, 84, [(.slice D_a g3c0.length D_c)]⟩] 17 (qd [⟨0, 0, 0⟩,⟨1, 0, 0⟩,⟨2, 0, 0⟩,⟨3, 0, 0⟩,⟨4, 0, 1⟩,⟨5, 0, 1⟩,⟨6, 0, 1⟩,⟨9, 0, 1⟩,⟨10, 0, 1⟩,⟨11, 0, 1⟩] 7 [0, 1] (jd_split 21 (decide (i_10 > a1)) (by kernel_rfl) (fun hc_887 => ?_) (fun hc_887 => ?_)))))
     ·replace h := ifT hc_887 h
      obtain ⟨x_13, hx_888, h⟩ := bd h
      refine qv 7 2 [0, 1] (fun w hm => idx_run (a := (A_o.map fun b => ⟨b, 0, none⟩)) (len := data0.length) (s := 2) (j := i_10) (by kernel_rfl) (ix_some hx_888).1 (ltn hx_888 hn_878) (spo ho_877 hx_888)) (qv 8 2 [0, 1] (fun w hm => ld_run (b := aB (A_o.map fun b => ⟨b, 0, none⟩)) (off := (aO (A_o.map fun b => ⟨b, 0, none⟩) + i_10.toNat * 2)) (s := 2) (agg := true) (vs := (encA2I64 x_13)) (by kernel_rfl) (encA2I64_len x_13) (.inl rfl) ((hm.ow 0 A_o 93 xs_9 A_sp (fun e => (ho_877 e).1) encA2I64_len).at hx_888)) ?_)
      obtain ⟨x_14, hx_889, h⟩ := bd h
      refine qv 12 2 [0, 1] (fun w hm => idx_run (a := (A_o.map fun b => ⟨b, 0, none⟩)) (len := data0.length) (s := 2) (j := (w64 (i_10 - 1))) (by kernel_rfl) (ix_some hx_889).1 (ltn hx_889 hn_878) (spo ho_877 hx_889)) (qv 13 2 [0, 1] (fun w hm => ld_run (b := aB (A_o.map fun b => ⟨b, 0, none⟩)) (off := (aO (A_o.map fun b => ⟨b, 0, none⟩) + (w64 (i_10 - 1)).toNat * 2)) (s := 2) (agg := true) (vs := (encA2I64 x_14)) (by kernel_rfl) (encA2I64_len x_14) (.inl rfl) ((hm.ow 0 A_o 93 xs_9 A_sp (fun e => (ho_877 e).1) encA2I64_len).at hx_889)) ?_)
      obtain ⟨t_15, ht_890, h⟩ := bd h
      refine tD 14 (pc 2 (fun w hm => impl_pairsOf_1.calls x_13 x_14 g3c0 w _ D_c (hm.exRowW D_h D_ha) rfl D_b (hm.pass (N := [⟨some D_b, 84, [(.slice D_a g3c0.length D_c)]⟩]) [1] (by kernel_rfl) (by kernel_rfl)) (hm.exApart (N := [⟨some D_b, 84, [(.slice D_a g3c0.length D_c)]⟩]) D_h D_ha [1] (by kernel_rfl)) (hm.innPass (N := [⟨some D_b, 84, [(.slice D_a g3c0.length D_c)]⟩]) D_i [1] (by kernel_rfl)) ht_890) ?_)
      rintro w v w' hm ⟨rfl, hm'⟩
      refine ⟨_, hm.appW (ps := [(1, ⟨some D_b, 84, [(.slice D_a g3c0.length D_c)]⟩)]) (N := []) hm' (by kernel_rfl) (by kernel_rfl), kD [0, 1] ?_⟩
      clear hm hm'
      refine qd [⟨15, 0, 2⟩,⟨16, 0, 4⟩] 0 [0, 1] (qz (jx_then (qi h (fun h => ?_) (fun h => ?_))))
      ·refine jc_skip (jx_then (jc_seq (jc_block (qg [⟨some D_b, 84, [(.slice D_a g3c0.length D_c)]⟩] 18 (qd [⟨0, 0, 0⟩,⟨1, 0, 0⟩,⟨2, 0, 0⟩,⟨3, 0, 0⟩,⟨4, 0, 0⟩,⟨5, 0, 0⟩,⟨6, 0, 0⟩,⟨7, 0, 0⟩,⟨10, 0, 0⟩,⟨11, 0, 0⟩] 8 [1] ?_)))))
       obtain ⟨x_16, hx_895, h⟩ := bd h
       refine qv 8 0 [1] (fun w hm => idx_run (a := (A_o.map fun b => ⟨b, 0, none⟩)) (len := data0.length) (s := 2) (j := (w64 (i_10 - 1))) (by kernel_rfl) (ix_some hx_895).1 (ltn hx_895 hn_878) (spo ho_877 hx_895)) ?_
       obtain ⟨x_17, hx_896, h⟩ := bd h
       refine qv 12 0 [1] (fun w hm => idx_run (a := (A_o.map fun b => ⟨b, 0, none⟩)) (len := data0.length) (s := 2) (j := i_10) (by kernel_rfl) (ix_some hx_896).1 (ltn hx_896 hn_878) (spo ho_877 hx_896)) (toD2 9 13 (by kernel_rfl) ?_ ?_)
       ·refine p_ldx 0 (aB (A_o.map fun b => ⟨b, 0, none⟩)) (aO (A_o.map fun b => ⟨b, 0, none⟩) + (w64 (i_10 - 1)).toNat * 2) (encA2I64 x_16) 2 (by kernel_rfl) (by kernel_rfl) (encA2I64_len x_16) (fun w hm => ((hm.ow 0 A_o 93 xs_9 A_sp (fun e => (ho_877 e).1) encA2I64_len).at hx_895)) (kD [1] (tD 13 (p_ldx 0 (aB (A_o.map fun b => ⟨b, 0, none⟩)) (aO (A_o.map fun b => ⟨b, 0, none⟩) + i_10.toNat * 2) (encA2I64 x_17) 2 (by kernel_rfl) (by kernel_rfl) (encA2I64_len x_17) (fun w hm => ((hm.ow 0 A_o 93 xs_9 A_sp (fun e => (ho_877 e).1) encA2I64_len).at hx_896)) (kD [1] ?_))))
        obtain ⟨x_18, hx_897, h⟩ := bd h
        refine qv 14 0 [1] (fun w hm => idx_run (a := (A_o.map fun b => ⟨b, 0, none⟩)) (len := data0.length) (s := 2) (j := i_10) (by kernel_rfl) (ix_some hx_897).1 (ltn hx_897 hn_878) (spo ho_877 hx_897)) (tD 15 (p_strWO 0 0 A_o 93 encA2I64 xs_9 A_sp i_10 x_16 2 (by kernel_rfl) (by kernel_rfl) (by kernel_rfl) (fun e => (ho_877 e).1) encA2I64_len encA2I64_cell hx_897 (kD [1] ?_)))
        obtain ⟨x_19, hx_898, h⟩ := bd h
        exact qv 16 0 [1] (fun w hm => idx_run (a := (A_o.map fun b => ⟨b, 0, none⟩)) (len := data0.length) (s := 2) (j := (w64 (i_10 - 1))) (by kernel_rfl) (ix_some hx_898).1 (ltn hx_898 (List.length_set.trans hn_878)) (spo (set_ho ho_877) hx_898)) (tD 17 (p_strWO 0 0 A_o 93 encA2I64 (xs_9.set i_10.toNat x_16) A_sp (w64 (i_10 - 1)) x_17 2 (by kernel_rfl) (by kernel_rfl) (by kernel_rfl) (fun e => ((set_ho ho_877) e).1) encA2I64_len encA2I64_cell hx_898 (kD [1] (qz (jx_inn (jx_then (jc_region (qh [0,0,0] (qe (qb (((xs_9.set i_10.toNat x_16).set (w64 (i_10 - 1)).toNat x_17), (w64 (i_10 - 1))) () h ⟨(List.length_set.trans (List.length_set.trans hn_878)), (set_ho (set_ho ho_877))⟩ [0, 1]))))))))))
       ·refine p_ldx 0 (aB (A_o.map fun b => ⟨b, 0, none⟩)) (aO (A_o.map fun b => ⟨b, 0, none⟩) + i_10.toNat * 2) (encA2I64 x_17) 2 (by kernel_rfl) (by kernel_rfl) (encA2I64_len x_17) (fun w hm => ((hm.ow 0 A_o 93 xs_9 A_sp (fun e => (ho_877 e).1) encA2I64_len).at hx_896)) (kD [1] (tD 9 (p_ldx 0 (aB (A_o.map fun b => ⟨b, 0, none⟩)) (aO (A_o.map fun b => ⟨b, 0, none⟩) + (w64 (i_10 - 1)).toNat * 2) (encA2I64 x_16) 2 (by kernel_rfl) (by kernel_rfl) (encA2I64_len x_16) (fun w hm => ((hm.ow 0 A_o 93 xs_9 A_sp (fun e => (ho_877 e).1) encA2I64_len).at hx_895)) (kD [1] ?_))))
        obtain ⟨x_18, hx_899, h⟩ := bd h
        refine qv 14 0 [1] (fun w hm => idx_run (a := (A_o.map fun b => ⟨b, 0, none⟩)) (len := data0.length) (s := 2) (j := i_10) (by kernel_rfl) (ix_some hx_899).1 (ltn hx_899 hn_878) (spo ho_877 hx_899)) (tD 15 (p_strWO 0 0 A_o 93 encA2I64 xs_9 A_sp i_10 x_16 2 (by kernel_rfl) (by kernel_rfl) (by kernel_rfl) (fun e => (ho_877 e).1) encA2I64_len encA2I64_cell hx_899 (kD [1] ?_)))
        obtain ⟨x_19, hx_900, h⟩ := bd h
        exact qv 16 0 [1] (fun w hm => idx_run (a := (A_o.map fun b => ⟨b, 0, none⟩)) (len := data0.length) (s := 2) (j := (w64 (i_10 - 1))) (by kernel_rfl) (ix_some hx_900).1 (ltn hx_900 (List.length_set.trans hn_878)) (spo (set_ho ho_877) hx_900)) (tD 17 (p_strWO 0 0 A_o 93 encA2I64 (xs_9.set i_10.toNat x_16) A_sp (w64 (i_10 - 1)) x_17 2 (by kernel_rfl) (by kernel_rfl) (by kernel_rfl) (fun e => ((set_ho ho_877) e).1) encA2I64_len encA2I64_cell hx_900 (kD [1] (qz (jx_inn (jx_then (jc_region (qh [0,0,0] (qe (qb (((xs_9.set i_10.toNat x_16).set (w64 (i_10 - 1)).toNat x_17), (w64 (i_10 - 1))) () h ⟨(List.length_set.trans (List.length_set.trans hn_878)), (set_ho (set_ho ho_877))⟩ [0, 1]))))))))))
      ·refine jc_exit (jx_thenx (jx_leave xs_9 (Option.some.inj h).symm (fun e_901 => ?_)))
       subst e_901
       exact jx_ine (qm xs_9 ⟨hr_879, hn_878, ho_877⟩ [0, 1])
     ·replace h := ifF hc_887 h
      refine qd [⟨7, 0, 3⟩,⟨8, 0, 3⟩,⟨12, 0, 3⟩,⟨13, 0, 3⟩,⟨14, 0, 3⟩,⟨15, 0, 3⟩,⟨16, 0, 5⟩] 0 [0, 1] (qz (jx_then (jc_cond false (by kernel_rfl) (fun hc_902 => nomatch hc_902) (fun hc_902 => (jc_exit (jx_thenx (jx_leave xs_9 (Option.some.inj h).symm (fun e_903 => ?_))))))))
      subst e_903
      exact jx_ine (qm xs_9 ⟨hr_879, hn_878, ho_877⟩ [0, 1])
    ·rintro xs_7 ⟨h, hn_832, ho_831⟩
     replace h : slices_insertionSortCmpFunc_2int64_at_impl_pairsOf_1.k_8 i_4 xs_7 = some y_756 := h
     rw [slices_insertionSortCmpFunc_2int64_at_impl_pairsOf_1.k_8] at h
     exact jx_inn (jx_then (jc_region (qh [0,0,0] (qe (qb (xs_7, (w64 (i_4 + 1))) () h ⟨hn_832, ho_831⟩ [0, 1])))))
   ·refine jc_exit (jx_thenx (jx_leave xs_3 (Option.some.inj h).symm (fun e_905 => ?_)))
    subst e_905
    exact jx_ine (qm xs_3 ⟨hr_755, hn_754, ho_753⟩ [0, 1])
  ·rintro xs_1 ⟨h, hn_454, ho_453⟩
   replace h : slices_insertionSortCmpFunc_2int64_at_impl_pairsOf_1.k_2 xs_1 = some r := h
   rw [slices_insertionSortCmpFunc_2int64_at_impl_pairsOf_1.k_2] at h
   refine jx_fall ?_
   obtain rfl := Option.some.inj h
   exact qr [] (fun w hm => ⟨hn_454, ho_453, rfl, hm.pk [0, 1]⟩)
/-! ### slices.swapRangeCmpFunc[[2]int64] -/
def slices_swapRangeCmpFunc_2int64_at_impl_pairsOf_1.k_2 (xs_1 : List (Arr 2 Int)) : Option ((List (Arr 2 Int))) := some xs_1
def slices_swapRangeCmpFunc_2int64_at_impl_pairsOf_1.l_5 (a1 : Int) (b2 : Int) (n3 : Int) : ((List (Arr 2 Int)) × Int) → Option (((List (Arr 2 Int)) × Int) ⊕ ((List (Arr 2 Int))))
  | (xs_3, i_4) => (if (decide (i_4 < n3)) = true then (ix xs_3 (w64 (b2 + i_4))).bind fun x_7 => (ix xs_3 (w64 (a1 + i_4))).bind fun x_8 => (ix xs_3 (w64 (a1 + i_4))).bind fun x_9 => (ix (xs_3.set (w64 (a1 + i_4)).toNat x_7) (w64 (b2 + i_4))).bind fun x_10 => some (.inl (((xs_3.set (w64 (a1 + i_4)).toNat x_7).set (w64 (b2 + i_4)).toNat x_8), (w64 (i_4 + 1)))) else some (.inr xs_3))
def slices_swapRangeCmpFunc_2int64_at_impl_pairsOf_1 (data0 : List (Arr 2 Int)) (a1 : Int) (b2 : Int) (n3 : Int) (g4c0 : List (List Int)) : Option ((List (Arr 2 Int))) := (loop (slices_swapRangeCmpFunc_2int64_at_impl_pairsOf_1.l_5 a1 b2 n3) (data0, 0)).bind fun t_6 => slices_swapRangeCmpFunc_2int64_at_impl_pairsOf_1.k_2 t_6
theorem slices_swapRangeCmpFunc_2int64_at_impl_pairsOf_1.calls (data0 : List (Arr 2 Int)) (a1 : Int) (b2 : Int) (n3 : Int) (g4c0 : List (List Int)) (w : World) (r : (List (Arr 2 Int))) {E_a : Option Addr} {E_an : Nat} (E_c : Nat) {E_hs : List Hd} (E_h : Rw w E_a 1 encHd E_hs) (E_hn : g4c0.length = E_an) (A_o : Option Nat) {A_on : Nat} {A_c : Nat} {A_sp : List Value} (A_hn : data0.length = A_on) (A_hs : A_o ≠ none → A_on ≤ A_c ∧ A_sp.length = (A_c - A_on) * 2) (A_ho : A_o = none → data0 = [] ∧ A_c = 0) (E_b : Nat) (hm0 : Mem w (bs [A_o, some E_b]) [⟨A_o, 93, row encA2I64 data0 A_sp⟩, ⟨some E_b, 84, [(.slice E_a E_an E_c)]⟩] w) (E_ha : E_hs ≠ [] → aB E_a ∉ bs [A_o, some E_b]) (E_i : Inn w (bs [A_o, some E_b]) 1 encI64 E_hs g4c0) (h : slices_swapRangeCmpFunc_2int64_at_impl_pairsOf_1 data0 a1 b2 n3 g4c0 = some r) :
    Calls Try.prog 200 #[(.slice (A_o.map fun b => ⟨b, 0, none⟩) A_on A_c), (.int .i64 a1), (.int .i64 b2), (.int .i64 n3), (.func (.func 108) #[] #[(.pointer (some ⟨E_b, 0, none⟩))])] w fun e w' => ∃ v, e = .returned v ∧ (r.length = A_on ∧ (A_o = none → r = [] ∧ A_c = 0) ∧ v = .tuple #[] ∧ Mem w (bs [A_o, some E_b]) [⟨A_o, 93, row encA2I64 r A_sp⟩, ⟨some E_b, 84, [(.slice E_a E_an E_c)]⟩] w') := by
  subst E_hn A_hn
  rw [slices_swapRangeCmpFunc_2int64_at_impl_pairsOf_1] at h
  refine enter (args := [(.slice (A_o.map fun b => ⟨b, 0, none⟩) data0.length A_c), (.int .i64 a1), (.int .i64 b2), (.int .i64 n3), (.func (.func 108) #[] #[(.pointer (some ⟨E_b, 0, none⟩))])]) Try.func200 rfl Try.ntmps200 (by kernel_rfl) (L := [⟨A_o, 93, row encA2I64 data0 A_sp⟩, ⟨some E_b, 84, [(.slice E_a g4c0.length E_c)]⟩]) (W := bs [A_o, some E_b]) hm0 ?_
  refine jc_seq (jc_region (qh [0] (qe (jx_then (jc_meet (fun (j : (List (Arr 2 Int))) => match j with | xs_1 => slices_swapRangeCmpFunc_2int64_at_impl_pairsOf_1.k_2 xs_1 = some r ∧ (xs_1.length = data0.length) ∧ ((A_o = none → xs_1 = [] ∧ A_c = 0))) (fun (j : (List (Arr 2 Int))) => match j with | xs_1 => []) (fun (j : (List (Arr 2 Int))) => match j with | xs_1 => [⟨A_o, 93, row encA2I64 xs_1 A_sp⟩, ⟨some E_b, 84, [(.slice E_a g4c0.length E_c)]⟩]) ?_ ?_)))))
  ·refine jc_block ?_
   obtain ⟨t_6, ht_84, hr_70⟩ := bd h
   refine jc_loop (fun (s : (List (Arr 2 Int)) × Int) (x : Unit) => match s, x with | ⟨xs_3, i_4⟩, _ => (xs_3.length = data0.length) ∧ ((A_o = none → xs_3 = [] ∧ A_c = 0))) (fun (s : (List (Arr 2 Int)) × Int) (x : Unit) => match s, x with | ⟨xs_3, i_4⟩, _ => [(0, [], (.slice (A_o.map fun b => ⟨b, 0, none⟩) data0.length A_c)), (1, [], (.int .i64 a1)), (2, [], (.int .i64 b2)), (3, [], (.int .i64 n3)), (10, [], (.int .i64 i_4))]) (fun (s : (List (Arr 2 Int)) × Int) (x : Unit) => match s, x with | ⟨xs_3, i_4⟩, _ => [⟨A_o, 93, row encA2I64 xs_3 A_sp⟩, ⟨some E_b, 84, [(.slice E_a g4c0.length E_c)]⟩]) ht_84 () ⟨rfl, A_ho⟩ (by kernel_rfl) [0, 1] (by kernel_rfl) (by kernel_rfl) ?_
   rintro ⟨xs_3, i_4⟩ _ y_71 ⟨hn_69, ho_68⟩ h
   rw [slices_swapRangeCmpFunc_2int64_at_impl_pairsOf_1.l_5] at h
   refine jc_seq (jc_seq (jc_region (qh [0,0,0] (qe (jx_then (qi h (fun h => ?_) (fun h => ?_)))))))
   ·refine jc_skip (jx_then (jc_seq (jc_block (qg [⟨some E_b, 84, [(.slice E_a g4c0.length E_c)]⟩] 24 (qd [⟨0, 0, 0⟩,⟨1, 0, 0⟩,⟨2, 0, 0⟩,⟨3, 0, 0⟩,⟨4, 0, 0⟩,⟨5, 0, 0⟩,⟨6, 0, 0⟩,⟨7, 0, 0⟩,⟨8, 0, 0⟩,⟨9, 0, 0⟩,⟨10, 0, 0⟩,⟨11, 0, 0⟩,⟨14, 0, 0⟩,⟨15, 0, 0⟩,⟨16, 0, 0⟩,⟨17, 0, 0⟩] 8 [1] ?_)))))
    obtain ⟨x_7, hx_77, h⟩ := bd h
    refine qv 12 0 [1] (fun w hm => idx_run (a := (A_o.map fun b => ⟨b, 0, none⟩)) (len := data0.length) (s := 2) (j := (w64 (b2 + i_4))) (by kernel_rfl) (ix_some hx_77).1 (ltn hx_77 hn_69) (spo ho_68 hx_77)) ?_
    obtain ⟨x_8, hx_78, h⟩ := bd h
    refine qv 18 0 [1] (fun w hm => idx_run (a := (A_o.map fun b => ⟨b, 0, none⟩)) (len := data0.length) (s := 2) (j := (w64 (a1 + i_4))) (by kernel_rfl) (ix_some hx_78).1 (ltn hx_78 hn_69) (spo ho_68 hx_78)) (toD2 13 19 (by kernel_rfl) ?_ ?_)
    ·refine p_ldx 0 (aB (A_o.map fun b => ⟨b, 0, none⟩)) (aO (A_o.map fun b => ⟨b, 0, none⟩) + (w64 (b2 + i_4)).toNat * 2) (encA2I64 x_7) 2 (by kernel_rfl) (by kernel_rfl) (encA2I64_len x_7) (fun w hm => ((hm.ow 0 A_o 93 xs_3 A_sp (fun e => (ho_68 e).1) encA2I64_len).at hx_77)) (kD [1] (tD 19 (p_ldx 0 (aB (A_o.map fun b => ⟨b, 0, none⟩)) (aO (A_o.map fun b => ⟨b, 0, none⟩) + (w64 (a1 + i_4)).toNat * 2) (encA2I64 x_8) 2 (by kernel_rfl) (by kernel_rfl) (encA2I64_len x_8) (fun w hm => ((hm.ow 0 A_o 93 xs_3 A_sp (fun e => (ho_68 e).1) encA2I64_len).at hx_78)) (kD [1] ?_))))
     obtain ⟨x_9, hx_79, h⟩ := bd h
     refine qv 20 0 [1] (fun w hm => idx_run (a := (A_o.map fun b => ⟨b, 0, none⟩)) (len := data0.length) (s := 2) (j := (w64 (a1 + i_4))) (by kernel_rfl) (ix_some hx_79).1 (ltn hx_79 hn_69) (spo ho_68 hx_79)) (tD 21 (p_strWO 0 0 A_o 93 encA2I64 xs_3 A_sp (w64 (a1 + i_4)) x_7 2 (by kernel_rfl) (by kernel_rfl) (by kernel_rfl) (fun e => (ho_68 e).1) encA2I64_len encA2I64_cell hx_79 (kD [1] ?_)))
     obtain ⟨x_10, hx_80, h⟩ := bd h
     exact qv 22 0 [1] (fun w hm => idx_run (a := (A_o.map fun b => ⟨b, 0, none⟩)) (len := data0.length) (s := 2) (j := (w64 (b2 + i_4))) (by kernel_rfl) (ix_some hx_80).1 (ltn hx_80 (List.length_set.trans hn_69)) (spo (set_ho ho_68) hx_80)) (tD 23 (p_strWO 0 0 A_o 93 encA2I64 (xs_3.set (w64 (a1 + i_4)).toNat x_7) A_sp (w64 (b2 + i_4)) x_8 2 (by kernel_rfl) (by kernel_rfl) (by kernel_rfl) (fun e => ((set_ho ho_68) e).1) encA2I64_len encA2I64_cell hx_80 (kD [1] (qz (jx_inn (jx_then (jc_region (qh [0,0,0] (qe (qb (((xs_3.set (w64 (a1 + i_4)).toNat x_7).set (w64 (b2 + i_4)).toNat x_8), (w64 (i_4 + 1))) () h ⟨(List.length_set.trans (List.length_set.trans hn_69)), (set_ho (set_ho ho_68))⟩ [0, 1]))))))))))
    ·refine p_ldx 0 (aB (A_o.map fun b => ⟨b, 0, none⟩)) (aO (A_o.map fun b => ⟨b, 0, none⟩) + (w64 (a1 + i_4)).toNat * 2) (encA2I64 x_8) 2 (by kernel_rfl) (by kernel_rfl) (encA2I64_len x_8) (fun w hm => ((hm.ow 0 A_o 93 xs_3 A_sp (fun e => (ho_68 e).1) encA2I64_len).at hx_78)) (kD [1] (tD 13 (p_ldx 0 (aB (A_o.map fun b => ⟨b, 0, none⟩)) (aO (A_o.map fun b => ⟨b, 0, none⟩) + (w64 (b2 + i_4)).toNat * 2) (encA2I64 x_7) 2 (by kernel_rfl) (by kernel_rfl) (encA2I64_len x_7) (fun w hm => ((hm.ow 0 A_o 93 xs_3 A_sp (fun e => (ho_68 e).1) encA2I64_len).at hx_77)) (kD [1] ?_))))
     obtain ⟨x_9, hx_81, h⟩ := bd h
     refine qv 20 0 [1] (fun w hm => idx_run (a := (A_o.map fun b => ⟨b, 0, none⟩)) (len := data0.length) (s := 2) (j := (w64 (a1 + i_4))) (by kernel_rfl) (ix_some hx_81).1 (ltn hx_81 hn_69) (spo ho_68 hx_81)) (tD 21 (p_strWO 0 0 A_o 93 encA2I64 xs_3 A_sp (w64 (a1 + i_4)) x_7 2 (by kernel_rfl) (by kernel_rfl) (by kernel_rfl) (fun e => (ho_68 e).1) encA2I64_len encA2I64_cell hx_81 (kD [1] ?_)))
     obtain ⟨x_10, hx_82, h⟩ := bd h
     exact qv 22 0 [1] (fun w hm => idx_run (a := (A_o.map fun b => ⟨b, 0, none⟩)) (len := data0.length) (s := 2) (j := (w64 (b2 + i_4))) (by kernel_rfl) (ix_some hx_82).1 (ltn hx_82 (List.length_set.trans hn_69)) (spo (set_ho ho_68) hx_82)) (tD 23 (p_strWO 0 0 A_o 93 encA2I64 (xs_3.set (w64 (a1 + i_4)).toNat x_7) A_sp (w64 (b2 + i_4)) x_8 2 (by kernel_rfl) (by kernel_rfl) (by kernel_rfl) (fun e => ((set_ho ho_68) e).1) encA2I64_len encA2I64_cell hx_82 (kD [1] (qz (jx_inn (jx_then (jc_region (qh [0,0,0] (qe (qb (((xs_3.set (w64 (a1 + i_4)).toNat x_7).set (w64 (b2 + i_4)).toNat x_8), (w64 (i_4 + 1))) () h ⟨(List.length_set.trans (List.length_set.trans hn_69)), (set_ho (set_ho ho_68))⟩ [0, 1]))))))))))
   ·refine jc_exit (jx_thenx (jx_leave xs_3 (Option.some.inj h).symm (fun e_83 => ?_)))
    subst e_83
    exact jx_ine (qm xs_3 ⟨hr_70, hn_69, ho_68⟩ [0, 1])
  ·rintro xs_1 ⟨h, hn_43, ho_42⟩
   replace h : slices_swapRangeCmpFunc_2int64_at_impl_pairsOf_1.k_2 xs_1 = some r := h
   rw [slices_swapRangeCmpFunc_2int64_at_impl_pairsOf_1.k_2] at h
   refine jx_fall ?_
   obtain rfl := Option.some.inj h
   exact qr [] (fun w hm => ⟨hn_43, ho_42, rfl, hm.pk [0, 1]⟩)
/-! ### slices.rotateCmpFunc[[2]int64] -/
def slices_rotateCmpFunc_2int64_at_impl_pairsOf_1.k_3 (m2 : Int) (g4c0 : List (List Int)) (xs_1 : List (Arr 2 Int)) (i_2 : Int) : Option ((List (Arr 2 Int))) := (slices_swapRangeCmpFunc_2int64_at_impl_pairsOf_1 xs_1 (w64 (m2 - i_2)) m2 i_2 g4c0).bind fun t_4 => some t_4
def slices_rotateCmpFunc_2int64_at_impl_pairsOf_1.k_13 (xs_10 : List (Arr 2 Int)) (i_11 : Int) (i_12 : Int) : Option (((List (Arr 2 Int)) × Int × Int) ⊕ (((List (Arr 2 Int)) × Int))) := some (.inl (xs_10, i_11, i_12))
def slices_rotateCmpFunc_2int64_at_impl_pairsOf_1.l_8 (m2 : Int) (g4c0 : List (List Int)) : ((List (Arr 2 Int)) × Int × Int) → Option (((List (Arr 2 Int)) × Int × Int) ⊕ (((List (Arr 2 Int)) × Int)))
  | (xs_5, i_6, i_7) => (if (i_6 != i_7) = true then (if (decide (i_6 > i_7)) = true then (slices_swapRangeCmpFunc_2int64_at_impl_pairsOf_1 xs_5 (w64 (m2 - i_6)) m2 i_7 g4c0).bind fun t_14 => slices_rotateCmpFunc_2int64_at_impl_pairsOf_1.k_13 t_14 (w64 (i_6 - i_7)) i_7 else (slices_swapRangeCmpFunc_2int64_at_impl_pairsOf_1 xs_5 (w64 (m2 - i_6)) (w64 ((w64 (m2 + i_7)) - i_6)) i_6 g4c0).bind fun t_15 => slices_rotateCmpFunc_2int64_at_impl_pairsOf_1.k_13 t_15 i_6 (w64 (i_7 - i_6))) else some (.inr (xs_5, i_6)))
def slices_rotateCmpFunc_2int64_at_impl_pairsOf_1 (data0 : List (Arr 2 Int)) (a1 : Int) (m2 : Int) (b3 : Int) (g4c0 : List (List Int)) : Option ((List (Arr 2 Int))) := (loop (slices_rotateCmpFunc_2int64_at_impl_pairsOf_1.l_8 m2 g4c0) (data0, (w64 (m2 - a1)), (w64 (b3 - m2)))).bind fun t_9 => slices_rotateCmpFunc_2int64_at_impl_pairsOf_1.k_3 m2 g4c0 t_9.1 t_9.2
theorem slices_rotateCmpFunc_2int64_at_impl_pairsOf_1.calls (data0 : List (Arr 2 Int)) (a1 : Int) (m2 : Int) (b3 : Int) (g4c0 : List (List Int)) (w : World) (r : (List (Arr 2 Int))) {E_a : Option Addr} {E_an : Nat} (E_c : Nat) {E_hs : List Hd} (E_h : Rw w E_a 1 encHd E_hs) (E_hn : g4c0.length = E_an) (A_o : Option Nat) {A_on : Nat} {A_c : Nat} {A_sp : List Value} (A_hn : data0.length = A_on) (A_hs : A_o ≠ none → A_on ≤ A_c ∧ A_sp.length = (A_c - A_on) * 2) (A_ho : A_o = none → data0 = [] ∧ A_c = 0) (E_b : Nat) (hm0 : Mem w (bs [A_o, some E_b]) [⟨A_o, 93, row encA2I64 data0 A_sp⟩, ⟨some E_b, 84, [(.slice E_a E_an E_c)]⟩] w) (E_ha : E_hs ≠ [] → aB E_a ∉ bs [A_o, some E_b]) (E_i : Inn w (bs [A_o, some E_b]) 1 encI64 E_hs g4c0) (h : slices_rotateCmpFunc_2int64_at_impl_pairsOf_1 data0 a1 m2 b3 g4c0 = some r) :
    Calls Try.prog 192 #[(.slice (A_o.map fun b => ⟨b, 0, none⟩) A_on A_c), (.int .i64 a1), (.int .i64 m2), (.int .i64 b3), (.func (.func 108) #[] #[(.pointer (some ⟨E_b, 0, none⟩))])] w fun e w' => ∃ v, e = .returned v ∧ (r.length = A_on ∧ (A_o = none → r = [] ∧ A_c = 0) ∧ v = .tuple #[] ∧ Mem w (bs [A_o, some E_b]) [⟨A_o, 93, row encA2I64 r A_sp⟩, ⟨some E_b, 84, [(.slice E_a E_an E_c)]⟩] w') := by
  subst E_hn A_hn
  rw [slices_rotateCmpFunc_2int64_at_impl_pairsOf_1] at h
  refine enter (args := [(.slice (A_o.map fun b => ⟨b, 0, none⟩) data0.length A_c), (.int .i64 a1), (.int .i64 m2), (.int .i64 b3), (.func (.func 108) #[] #[(.pointer (some ⟨E_b, 0, none⟩))])]) Try.func192 rfl Try.ntmps192 (by kernel_rfl) (L := [⟨A_o, 93, row encA2I64 data0 A_sp⟩, ⟨some E_b, 84, [(.slice E_a g4c0.length E_c)]⟩]) (W := bs [A_o, some E_b]) hm0 ?_
  refine jc_seq (jc_region (qh [0,0,0,0] (qe (jx_then (jc_seq (jc_region (qh [0,0,0,0] (qe (jx_then (jc_seq (jc_meet (fun (j : (List (Arr 2 Int)) × Int) => match j with | ⟨xs_1, i_2⟩ => slices_rotateCmpFunc_2int64_at_impl_pairsOf_1.k_3 m2 g4c0 xs_1 i_2 = some r ∧ (xs_1.length = data0.length) ∧ ((A_o = none → xs_1 = [] ∧ A_c = 0))) (fun (j : (List (Arr 2 Int)) × Int) => match j with | ⟨xs_1, i_2⟩ => [(0, [], (.slice (A_o.map fun b => ⟨b, 0, none⟩) data0.length A_c)), (2, [], (.int .i64 m2)), (4, [], (.func (.func 108) #[] #[(.pointer (some ⟨E_b, 0, none⟩))])), (10, [], (.int .i64 i_2))]) (fun (j : (List (Arr 2 Int)) × Int) => match j with | ⟨xs_1, i_2⟩ => [⟨A_o, 93, row encA2I64 xs_1 A_sp⟩, ⟨some E_b, 84, [(.slice E_a g4c0.length E_c)]⟩]) ?_ ?_)))))))))))
  ·refine jc_block ?_
   obtain ⟨t_9, ht_129, hr_108⟩ := bd h
   refine jc_loop (fun (s : (List (Arr 2 Int)) × Int × Int) (x : Unit) => match s, x with | ⟨xs_5, i_6, i_7⟩, _ => (xs_5.length = data0.length) ∧ ((A_o = none → xs_5 = [] ∧ A_c = 0))) (fun (s : (List (Arr 2 Int)) × Int × Int) (x : Unit) => match s, x with | ⟨xs_5, i_6, i_7⟩, _ => [(0, [], (.slice (A_o.map fun b => ⟨b, 0, none⟩) data0.length A_c)), (2, [], (.int .i64 m2)), (4, [], (.func (.func 108) #[] #[(.pointer (some ⟨E_b, 0, none⟩))])), (10, [], (.int .i64 i_6)), (11, [], (.int .i64 i_7))]) (fun (s : (List (Arr 2 Int)) × Int × Int) (x : Unit) => match s, x with | ⟨xs_5, i_6, i_7⟩, _ => [⟨A_o, 93, row encA2I64 xs_5 A_sp⟩, ⟨some E_b, 84, [(.slice E_a g4c0.length E_c)]⟩]) ht_129 () ⟨rfl, A_ho⟩ (by kernel_rfl) [0, 1] (by kernel_rfl) (by kernel_rfl) ?_
   rintro ⟨xs_5, i_6, i_7⟩ _ y_109 ⟨hn_107, ho_106⟩ h
   rw [slices_rotateCmpFunc_2int64_at_impl_pairsOf_1.l_8] at h
   refine jc_seq (jc_seq (jc_region (qh [0,0,0] (qe (jx_then (qi h (fun h => ?_) (fun h => ?_)))))))
   ·refine jc_skip (jx_then (jc_meet (fun (j : (List (Arr 2 Int)) × Int × Int) => match j with | ⟨xs_10, i_11, i_12⟩ => slices_rotateCmpFunc_2int64_at_impl_pairsOf_1.k_13 xs_10 i_11 i_12 = some y_109 ∧ (xs_10.length = data0.length) ∧ ((A_o = none → xs_10 = [] ∧ A_c = 0))) (fun (j : (List (Arr 2 Int)) × Int × Int) => match j with | ⟨xs_10, i_11, i_12⟩ => [(0, [], (.slice (A_o.map fun b => ⟨b, 0, none⟩) data0.length A_c)), (2, [], (.int .i64 m2)), (4, [], (.func (.func 108) #[] #[(.pointer (some ⟨E_b, 0, none⟩))])), (10, [], (.int .i64 i_11)), (11, [], (.int .i64 i_12))]) (fun (j : (List (Arr 2 Int)) × Int × Int) => match j with | ⟨xs_10, i_11, i_12⟩ => [⟨A_o, 93, row encA2I64 xs_10 A_sp⟩, ⟨some E_b, 84, [(.slice E_a g4c0.length E_c)]⟩]) ?_ ?_))
    ·refine jc_block (jc_seq (jc_region (qh [0,0,0] (qe (jx_then (qi h (fun h => ?_) (fun h => ?_)))))))
     ·refine jc_seq (jc_region (qh [0,0,0,0,0,0,0] ?_))
      obtain ⟨t_14, ht_122, h⟩ := bd h
      refine tO (pc 0 (fun w hm => slices_swapRangeCmpFunc_2int64_at_impl_pairsOf_1.calls xs_5 (w64 (m2 - i_6)) m2 i_7 g4c0 w _ E_c (hm.exRowW E_h E_ha) rfl A_o hn_107 A_hs ho_106 E_b (hm.pass (N := [⟨A_o, 93, row encA2I64 xs_5 A_sp⟩, ⟨some E_b, 84, [(.slice E_a g4c0.length E_c)]⟩]) [0, 1] (by kernel_rfl) (by kernel_rfl)) (hm.exApart (N := [⟨A_o, 93, row encA2I64 xs_5 A_sp⟩, ⟨some E_b, 84, [(.slice E_a g4c0.length E_c)]⟩]) E_h E_ha [0, 1] (by kernel_rfl)) (hm.innPass (N := [⟨A_o, 93, row encA2I64 xs_5 A_sp⟩, ⟨some E_b, 84, [(.slice E_a g4c0.length E_c)]⟩]) E_i [0, 1] (by kernel_rfl)) ht_122) ?_)
      rintro w v w' hm ⟨hn_123, ho_124, rfl, hm'⟩
      refine ⟨_, hm.appW (ps := [(0, ⟨A_o, 93, row encA2I64 t_14 A_sp⟩), (1, ⟨some E_b, 84, [(.slice E_a g4c0.length E_c)]⟩)]) (N := []) hm' (by kernel_rfl) (by kernel_rfl), jkO ?_⟩
      clear hm hm'
      exact qe (jx_then (jc_region (qh [0,0,0,0] (qe (jx_inn (qm ⟨t_14, (w64 (i_6 - i_7)), i_7⟩ ⟨h, hn_123, ho_124⟩ [0, 1]))))))
     ·refine jc_seq (jc_region (qh [0,0,0,0,0,0,0,0,0,0,0] ?_))
      obtain ⟨t_15, ht_125, h⟩ := bd h
      refine tO (pc 0 (fun w hm => slices_swapRangeCmpFunc_2int64_at_impl_pairsOf_1.calls xs_5 (w64 (m2 - i_6)) (w64 ((w64 (m2 + i_7)) - i_6)) i_6 g4c0 w _ E_c (hm.exRowW E_h E_ha) rfl A_o hn_107 A_hs ho_106 E_b (hm.pass (N := [⟨A_o, 93, row encA2I64 xs_5 A_sp⟩, ⟨some E_b, 84, [(.slice E_a g4c0.length E_c)]⟩]) [0, 1] (by kernel_rfl) (by kernel_rfl)) (hm.exApart (N := [⟨A_o, 93, row encA2I64 xs_5 A_sp⟩, ⟨some E_b, 84, [(.slice E_a g4c0.length E_c)]⟩]) E_h E_ha [0, 1] (by kernel_rfl)) (hm.innPass (N := [⟨A_o, 93, row encA2I64 xs_5 A_sp⟩, ⟨some E_b, 84, [(.slice E_a g4c0.length E_c)]⟩]) E_i [0, 1] (by kernel_rfl)) ht_125) ?_)
      rintro w v w' hm ⟨hn_126, ho_127, rfl, hm'⟩
      refine ⟨_, hm.appW (ps := [(0, ⟨A_o, 93, row encA2I64 t_15 A_sp⟩), (1, ⟨some E_b, 84, [(.slice E_a g4c0.length E_c)]⟩)]) (N := []) hm' (by kernel_rfl) (by kernel_rfl), jkO ?_⟩
      clear hm hm'
      exact qe (jx_then (jc_region (qh [0,0,0,0] (qe (jx_inn (qm ⟨t_15, i_6, (w64 (i_7 - i_6))⟩ ⟨h, hn_126, ho_127⟩ [0, 1]))))))
    ·rintro ⟨xs_10, i_11, i_12⟩ ⟨h, hn_120, ho_119⟩
     replace h : slices_rotateCmpFunc_2int64_at_impl_pairsOf_1.k_13 xs_10 i_11 i_12 = some y_109 := h
     rw [slices_rotateCmpFunc_2int64_at_impl_pairsOf_1.k_13] at h
     exact qb (xs_10, i_11, i_12) () h ⟨hn_120, ho_119⟩ [0, 1]
   ·refine jc_exit (jx_thenx (jx_leave (xs_5, i_6) (Option.some.inj h).symm (fun e_128 => ?_)))
    subst e_128
    exact jx_ine (qm ⟨xs_5, i_6⟩ ⟨hr_108, hn_107, ho_106⟩ [0, 1])
  ·rintro ⟨xs_1, i_2⟩ ⟨h, hn_64, ho_63⟩
   replace h : slices_rotateCmpFunc_2int64_at_impl_pairsOf_1.k_3 m2 g4c0 xs_1 i_2 = some r := h
   rw [slices_rotateCmpFunc_2int64_at_impl_pairsOf_1.k_3] at h
   refine jx_then (jc_region (qh [0,0,0,0,0,0,0] ?_))
   obtain ⟨t_4, ht_65, h⟩ := bd h
   refine tO (pc 0 (fun w hm => slices_swapRangeCmpFunc_2int64_at_impl_pairsOf_1.calls xs_1 (w64 (m2 - i_2)) m2 i_2 g4c0 w _ E_c (hm.exRowW E_h E_ha) rfl A_o hn_64 A_hs ho_63 E_b (hm.pass (N := [⟨A_o, 93, row encA2I64 xs_1 A_sp⟩, ⟨some E_b, 84, [(.slice E_a g4c0.length E_c)]⟩]) [0, 1] (by kernel_rfl) (by kernel_rfl)) (hm.exApart (N := [⟨A_o, 93, row encA2I64 xs_1 A_sp⟩, ⟨some E_b, 84, [(.slice E_a g4c0.length E_c)]⟩]) E_h E_ha [0, 1] (by kernel_rfl)) (hm.innPass (N := [⟨A_o, 93, row encA2I64 xs_1 A_sp⟩, ⟨some E_b, 84, [(.slice E_a g4c0.length E_c)]⟩]) E_i [0, 1] (by kernel_rfl)) ht_65) ?_)
   rintro w v w' hm ⟨hn_66, ho_67, rfl, hm'⟩
   refine ⟨_, hm.appW (ps := [(0, ⟨A_o, 93, row encA2I64 t_4 A_sp⟩), (1, ⟨some E_b, 84, [(.slice E_a g4c0.length E_c)]⟩)]) (N := []) hm' (by kernel_rfl) (by kernel_rfl), jkO ?_⟩
   clear hm hm'
   refine qe (jx_fall ?_)
   obtain rfl := Option.some.inj h
   exact qr [] (fun w hm => ⟨hn_66, ho_67, rfl, hm.pk [0, 1]⟩)
end

end Go.Proofs.Ytbclghgbnnlbjaa
