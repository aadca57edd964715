/- Functions of the program that the laws reach: a plain function each, and that the call comes to its answer if the plain function has one. Printed by a program. -/
import Derived.Test.YteedohcicmgkaaaT
import Derived.Test.YteedohcicmgkaaaM0
import Derived.Test.YteedohcicmgkaaaM2
namespace Go.Proofs.Yteedohcicmgkaaa
open Eng
set_option linter.unusedVariables false

set_option linter.unusedSectionVars false
set_option maxRecDepth 100000
variable [dsW : DrwS]
noncomputable section
/-! ### laws.toCosts -/
def laws_toCosts (a0 : GCosts) : Option (GCosts) := some a0
theorem laws_toCosts.calls (a0 : GCosts) (w : World) (r : GCosts) (h : laws_toCosts a0 = some r) :
    Calls Try.prog 43 #[(.agg #[(.int .i16 a0.fAway), (.int .i16 a0.fOctave), (.int .i16 a0.fStep)])] w fun e w' => ∃ v, e = .returned v ∧ (v = .agg #[(.int .i16 r.fAway), (.int .i16 r.fOctave), (.int .i16 r.fStep)] ∧ Mem w [] [] w') := by
  rw [laws_toCosts] at h
  refine enter (args := [(.agg #[(.int .i16 a0.fAway), (.int .i16 a0.fOctave), (.int .i16 a0.fStep)])]) Try.func43 rfl Try.ntmps43 (by kernel_rfl) (L := []) (W := []) (Mem.start w) ?_
  refine jc_seq (jc_region (tO (qa 0 (fun b_1 => jkO (tO (qa 0 (fun b_2 => jkO (qe (jx_then (jc_seq (jc_region (tO (qa 0 (fun b_3 => jkO (qe (jx_then (jc_seq (jc_region (qh [0,0,0] (tO (qs 0 [2] (jkO (qe (jx_then (jc_seq (jc_region (qh [0,0,0] (tO (qs 0 [2] (jkO (qe (jx_then (jc_seq (jc_region (qh [0,0,0] (tO (qs 0 [2] (jkO (qe (jx_then (jc_seq (jc_region (qh [2] (tO (qs 0 [1] (jkO (qe (jx_then (jc_ret ?_)))))))))))))))))))))))))))))))))))))))))))))))))
  obtain rfl := Option.some.inj h
  exact qr [1] (fun w hm => ⟨rfl, hm.pk []⟩)
/-! ### spec.Arrange -/
def spec_Arrange (f0 : GFrame) (t1 : List GNote) (c2 : GCosts) (budget3 : Int) : Option ((List GChoice) × Int × Int) := (spec_l07Arrange f0 t1 c2 budget3).bind fun t_1 => some (t_1.1, t_1.2.1, t_1.2.2)
theorem spec_Arrange.calls (f0 : GFrame) (t1 : List GNote) (c2 : GCosts) (budget3 : Int) (w : World) (r : (List GChoice) × Int × Int) {C_a : Option Addr} {C_an : Nat} (C_c : Nat) (C_h : Rw w C_a 2 encGHammer f0.fHammers) (C_hn : f0.fHammers.length = C_an) {D_a : Option Addr} {D_an : Nat} (D_c : Nat) (D_h : Rw w D_a 2 encGNote t1) (D_hn : t1.length = D_an) (h : spec_Arrange f0 t1 c2 budget3 = some r) :
    Calls Try.prog 42 #[(.agg #[(.int .i16 f0.fSteps), (.slice C_a C_an C_c)]), (.slice D_a D_an D_c), (.agg #[(.int .i16 c2.fAway), (.int .i16 c2.fOctave), (.int .i16 c2.fStep)]), (.int .i64 budget3)] w fun e w' => ∃ v, e = .returned v ∧ (∃ (o0 : Option Nat) (c0 : Nat) (s0 : List Value) (n0 : Nat), r.1.length = n0 ∧ (o0 ≠ none → n0 ≤ c0 ∧ s0.length = (c0 - n0) * 4) ∧ (o0 = none → r.1 = [] ∧ c0 = 0) ∧ v = .tuple #[.slice (o0.map fun b => ⟨b, 0, none⟩) n0 c0, (.int .i64 r.2.1), (.int .i64 r.2.2)] ∧ Mem w [] [⟨o0, 144, row encGChoice r.1 s0⟩] w') := by
  subst C_hn D_hn
  rw [spec_Arrange] at h
  refine enter (args := [(.agg #[(.int .i16 f0.fSteps), (.slice C_a f0.fHammers.length C_c)]), (.slice D_a t1.length D_c), (.agg #[(.int .i16 c2.fAway), (.int .i16 c2.fOctave), (.int .i16 c2.fStep)]), (.int .i64 budget3)]) Try.func42 rfl Try.ntmps42 (by kernel_rfl) (L := []) (W := []) (Mem.start w) ?_
  refine jc_seq (jc_region (tO (qa 0 (fun b_1 => jkO (tO (qa 0 (fun b_2 => jkO (qh [0,0,0] (qe (jx_then (jc_seq (jc_region (qh [0,1,0] ?_)))))))))))))
  obtain ⟨t_1, ht_3, h⟩ := bd h
  refine tO (pc 0 (fun w hm => spec_l07Arrange.calls f0 t1 c2 budget3 w _ C_c (hm.xr C_h) rfl D_c (hm.xr D_h) rfl b_1 (hm.pass (N := [⟨some b_1, 34, [(.int .i16 f0.fSteps), (.slice C_a f0.fHammers.length C_c)]⟩]) [0] (by kernel_rfl) (by kernel_rfl)) (hm.exApart (N := [⟨some b_1, 34, [(.int .i16 f0.fSteps), (.slice C_a f0.fHammers.length C_c)]⟩]) C_h (fun _ => List.not_mem_nil) [0] (by kernel_rfl)) (hm.exApart (N := [⟨some b_1, 34, [(.int .i16 f0.fSteps), (.slice C_a f0.fHammers.length C_c)]⟩]) D_h (fun _ => List.not_mem_nil) [0] (by kernel_rfl)) ht_3) ?_)
  rintro w v w' hm ⟨o_4, cap_5, sp_6, _, rfl, hs_7, ho_8, rfl, hm'⟩
  refine ⟨_, hm.appW (ps := [(0, ⟨some b_1, 34, [(.int .i16 f0.fSteps), (.slice C_a f0.fHammers.length C_c)]⟩)]) (N := [⟨o_4, 144, row encGChoice t_1.1 sp_6⟩]) hm' (by kernel_rfl) (by kernel_rfl), jkO ?_⟩
  clear hm hm'
  refine qh [0,0,0,0,0,0] (qe (jx_then (jc_ret ?_)))
  obtain rfl := Option.some.inj h
  exact qr [] (fun w hm => ⟨o_4, cap_5, sp_6, t_1.1.length, rfl, hs_7, ho_8, rfl, hm.pk [2]⟩)
/-! ### laws.eqChoice -/
def laws_eqChoice (a0 : GChoice) (b1 : GChoice) : Option (Bool) := (if (a0.fAway != b1.fAway) = true then some false else (if (a0.fLate != b1.fLate) = true then some false else (if (a0.fOctave != b1.fOctave) = true then some false else (if (a0.fTrack != b1.fTrack) = true then some false else some true))))
theorem laws_eqChoice.calls (a0 : GChoice) (b1 : GChoice) (w : World) (r : Bool) (h : laws_eqChoice a0 b1 = some r) :
    Calls Try.prog 102 #[(.agg #[(.bool a0.fAway), (.int .i8 a0.fLate), (.int .i8 a0.fOctave), (.int .i8 a0.fTrack)]), (.agg #[(.bool b1.fAway), (.int .i8 b1.fLate), (.int .i8 b1.fOctave), (.int .i8 b1.fTrack)])] w fun e w' => ∃ v, e = .returned v ∧ (v = (.bool r) ∧ Mem w [] [] w') := by
  rw [laws_eqChoice] at h
  refine enter (args := [(.agg #[(.bool a0.fAway), (.int .i8 a0.fLate), (.int .i8 a0.fOctave), (.int .i8 a0.fTrack)]), (.agg #[(.bool b1.fAway), (.int .i8 b1.fLate), (.int .i8 b1.fOctave), (.int .i8 b1.fTrack)])]) Try.func102 rfl Try.ntmps102 (by kernel_rfl) (L := []) (W := []) (Mem.start w) ?_
  refine jc_seq (jc_region (tO (qa 0 (fun b_1 => jkO (tO (qa 0 (fun b_2 => jkO (qh [0] (qe (jx_then (jc_seq (jc_seq (jc_region (qh [0,0,0,1,0] (qe (jx_then (qi h (fun h => ?_) (fun h => ?_))))))))))))))))))
  ·refine jc_seq (jc_region (qh [0] (qe (jx_then (jc_ret (jx_thenr ?_))))))
   obtain rfl := Option.some.inj h
   exact qr [] (fun w hm => ⟨rfl, hm.pk []⟩)
  ·refine jc_skip (jx_then (jc_seq (jc_seq (jc_region (qh [0,0,0,1,0] (qe (jx_then (qi h (fun h => ?_) (fun h => ?_)))))))))
   ·refine jc_seq (jc_region (qh [0] (qe (jx_then (jc_ret (jx_thenr ?_))))))
    obtain rfl := Option.some.inj h
    exact qr [] (fun w hm => ⟨rfl, hm.pk []⟩)
   ·refine jc_skip (jx_then (jc_seq (jc_seq (jc_region (qh [0,0,0,1,0] (qe (jx_then (qi h (fun h => ?_) (fun h => ?_)))))))))
    ·refine jc_seq (jc_region (qh [0] (qe (jx_then (jc_ret (jx_thenr ?_))))))
     obtain rfl := Option.some.inj h
     exact qr [] (fun w hm => ⟨rfl, hm.pk []⟩)
    ·refine jc_skip (jx_then (jc_seq (jc_seq (jc_region (qh [0,0,0,1,0] (qe (jx_then (qi h (fun h => ?_) (fun h => ?_)))))))))
     ·refine jc_seq (jc_region (qh [0] (qe (jx_then (jc_ret (jx_thenr ?_))))))
      obtain rfl := Option.some.inj h
      exact qr [] (fun w hm => ⟨rfl, hm.pk []⟩)
     ·refine jc_skip (jx_then (jc_seq (jc_region (qh [0] (qe (jx_then (jc_ret ?_)))))))
      obtain rfl := Option.some.inj h
      exact qr [] (fun w hm => ⟨rfl, hm.pk []⟩)
/-! ### laws.eqChoiceS -/
def laws_eqChoiceS.k_1 : Option (Bool) := some true
def laws_eqChoiceS.l_3 (a0 : List GChoice) (b1 : List GChoice) : Int → Option ((Int) ⊕ (Bool ⊕ Unit))
  | i_2 => (if (decide (i_2 < (a0.length : Int))) = true then (ix a0 i_2).bind fun x_5 => (ix b1 i_2).bind fun x_6 => (laws_eqChoice x_5 x_6).bind fun t_7 => (if (!t_7) = true then some (.inr (.inl false)) else some (.inl (w64 (i_2 + 1)))) else some (.inr (.inr ())))
def laws_eqChoiceS (a0 : List GChoice) (b1 : List GChoice) : Option (Bool) := (if ((a0.length : Int) != (b1.length : Int)) = true then some false else (loop (laws_eqChoiceS.l_3 a0 b1) 0).bind fun t_4 => match t_4 with | .inl p => some p | .inr p => laws_eqChoiceS.k_1)
theorem laws_eqChoiceS.calls (a0 : List GChoice) (b1 : List GChoice) (w : World) (r : Bool) {A_a : Option Addr} {A_an : Nat} (A_c : Nat) (A_h : Rw w A_a 4 encGChoice a0) (A_hn : a0.length = A_an) {B_a : Option Addr} {B_an : Nat} (B_c : Nat) (B_h : Rw w B_a 4 encGChoice b1) (B_hn : b1.length = B_an) (h : laws_eqChoiceS a0 b1 = some r) :
    Calls Try.prog 45 #[(.slice A_a A_an A_c), (.slice B_a B_an B_c)] w fun e w' => ∃ v, e = .returned v ∧ (v = (.bool r) ∧ Mem w [] [] w') := by
  subst A_hn B_hn
  rw [laws_eqChoiceS] at h
  refine enter (args := [(.slice A_a a0.length A_c), (.slice B_a b1.length B_c)]) Try.func45 rfl Try.ntmps45 (by kernel_rfl) (L := []) (W := []) (Mem.start w) ?_
  refine jc_seq (jc_region (qh [0] (qe (jx_then (jc_seq (jc_seq (jc_region (qh [0,0,0,0,0] (qe (jx_then (qi h (fun h => ?_) (fun h => ?_))))))))))))
  ·refine jc_seq (jc_region (qh [0] (qe (jx_then (jc_ret (jx_thenr ?_))))))
   obtain rfl := Option.some.inj h
   exact qr [] (fun w hm => ⟨rfl, hm.pk []⟩)
  ·refine jc_skip (jx_then (jc_seq (jc_seq (jc_region (qh [0] (qe (jx_then (jc_meet (fun (_ : Unit) => laws_eqChoiceS.k_1 = some r) (fun (_ : Unit) => [(4, [], (.bool false))]) (fun (_ : Unit) => []) ?_ ?_))))))))
   ·refine jc_block ?_
    obtain ⟨t_4, ht_48, hr_38⟩ := bd h
    refine jc_loop (fun (s : Int) (x : Unit) => match s, x with | i_2, _ => True) (fun (s : Int) (x : Unit) => match s, x with | i_2, _ => [(0, [], (.slice A_a a0.length A_c)), (1, [], (.slice B_a b1.length B_c)), (4, [], (.bool false)), (5, [], (.int .i64 i_2))]) (fun (s : Int) (x : Unit) => match s, x with | i_2, _ => []) ht_48 () trivial (by kernel_rfl) [] (by kernel_rfl) (by kernel_rfl) ?_
    rintro i_2 _ y_39 _ h
    rw [laws_eqChoiceS.l_3] at h
    refine jc_seq (jc_seq (jc_region (qh [0,0,0,0] (qe (jx_then (qi h (fun h => ?_) (fun h => ?_)))))))
    ·refine jc_skip (jx_then (jc_seq (jc_block (jc_seq (qg [] 10 (qd [⟨0, 0, 0⟩,⟨1, 0, 0⟩,⟨4, 0, 0⟩,⟨5, 0, 0⟩] 6 [] ?_))))))
     obtain ⟨x_5, hx_42, h⟩ := bd h
     refine qv 2 0 [] (fun w hm => idx_run (a := A_a) (len := a0.length) (s := 4) (j := i_2) (by kernel_rfl) (ix_some hx_42).1 (ltn hx_42 rfl) (A_h.sp hx_42)) (qv 3 0 [] (fun w hm => ld_run (b := aB A_a) (off := (aO A_a + i_2.toNat * 4)) (s := 4) (agg := true) (vs := (encGChoice x_5)) (by kernel_rfl) (by kernel_rfl) (.inl rfl) ((hm.xr A_h).at hx_42)) ?_)
     obtain ⟨x_6, hx_43, h⟩ := bd h
     refine qv 6 0 [] (fun w hm => idx_run (a := B_a) (len := b1.length) (s := 4) (j := i_2) (by kernel_rfl) (ix_some hx_43).1 (ltn hx_43 rfl) (B_h.sp hx_43)) (qv 7 0 [] (fun w hm => ld_run (b := aB B_a) (off := (aO B_a + i_2.toNat * 4)) (s := 4) (agg := true) (vs := (encGChoice x_6)) (by kernel_rfl) (by kernel_rfl) (.inl rfl) ((hm.xr B_h).at hx_43)) ?_)
     obtain ⟨t_7, ht_44, h⟩ := bd h
     refine tD 8 (pc 0 (fun w hm => laws_eqChoice.calls x_5 x_6 w _ ht_44) ?_)
     rintro w v w' hm ⟨rfl, hm'⟩
     refine ⟨_, hm.app hm', kD [] ?_⟩
     clear hm hm'
     refine qd [⟨9, 0, 0⟩] 0 [] (qz (jx_then (qi h (fun h => ?_) (fun h => ?_))))
     ·refine jc_seq (jc_region (qh [0] (qe (jx_then (jc_ret (jx_inr (jx_thenr (jx_leaver (.inl false) (Option.some.inj h).symm (fun e_46 => ?_)))))))))
      subst e_46
      refine jx_inr (jx_thenr (jx_thenr ?_))
      obtain rfl := Option.some.inj hr_38
      exact qr [] (fun w hm => ⟨rfl, hm.pk []⟩)
     ·exact jc_skip (jx_inn (jx_then (jc_region (qh [0,0,0] (qe (qb (w64 (i_2 + 1)) () h trivial []))))))
    ·refine jc_exit (jx_thenx (jx_leave (.inr ()) (Option.some.inj h).symm (fun e_47 => ?_)))
     subst e_47
     exact jx_ine (qm () hr_38 [])
   ·rintro _ h
    replace h : laws_eqChoiceS.k_1 = some r := h
    rw [laws_eqChoiceS.k_1] at h
    refine jx_then (jc_seq (jc_region (qh [0] (qe (jx_then (jc_ret ?_))))))
    obtain rfl := Option.some.inj h
    exact qr [] (fun w hm => ⟨rfl, hm.pk []⟩)
/-! ### laws.markHammerS -/
def laws_markHammerS.k_3 (xs_1 : List GHammer) (i_2 : Int) : Option (Int × (List GHammer)) := some (i_2, xs_1)
def laws_markHammerS.l_7 (a0 : List GHammer) : ((List GHammer) × Int × Int) → Option (((List GHammer) × Int × Int) ⊕ (((List GHammer) × Int)))
  | (xs_4, i_5, i_6) => (if (decide (i_6 < (a0.length : Int))) = true then (ix xs_4 i_6).bind fun x_9 => (ix (xs_4.set i_6.toNat (⟨(w8 i_5), x_9.fReady⟩ : GHammer)) i_6).bind fun x_10 => some (.inl (((xs_4.set i_6.toNat (⟨(w8 i_5), x_9.fReady⟩ : GHammer)).set i_6.toNat (⟨x_10.fPitch, (w8 (w64 (i_5 + 1)))⟩ : GHammer)), (w64 ((w64 (i_5 + 1)) + 1)), (w64 (i_6 + 1)))) else some (.inr (xs_4, i_5)))
def laws_markHammerS (a0 : List GHammer) (k1 : Int) : Option (Int × (List GHammer)) := (loop (laws_markHammerS.l_7 a0) (a0, k1, 0)).bind fun t_8 => laws_markHammerS.k_3 t_8.1 t_8.2
theorem laws_markHammerS.calls (a0 : List GHammer) (k1 : Int) (w : World) (r : Int × (List GHammer)) (A_o : Option Nat) {A_on : Nat} {A_c : Nat} {A_sp : List Value} (A_hn : a0.length = A_on) (A_hs : A_o ≠ none → A_on ≤ A_c ∧ A_sp.length = (A_c - A_on) * 2) (A_ho : A_o = none → a0 = [] ∧ A_c = 0) (hm0 : Mem w (bs [A_o]) [⟨A_o, 110, row encGHammer a0 A_sp⟩] w) (h : laws_markHammerS a0 k1 = some r) :
    Calls Try.prog 62 #[(.slice (A_o.map fun b => ⟨b, 0, none⟩) A_on A_c), (.int .i64 k1)] w fun e w' => ∃ v, e = .returned v ∧ (r.2.length = A_on ∧ (A_o = none → r.2 = [] ∧ A_c = 0) ∧ v = (.int .i64 r.1) ∧ Mem w (bs [A_o]) [⟨A_o, 110, row encGHammer r.2 A_sp⟩] w') := by
  subst A_hn
  rw [laws_markHammerS] at h
  refine enter (args := [(.slice (A_o.map fun b => ⟨b, 0, none⟩) a0.length A_c), (.int .i64 k1)]) Try.func62 rfl Try.ntmps62 (by kernel_rfl) (L := [⟨A_o, 110, row encGHammer a0 A_sp⟩]) (W := bs [A_o]) hm0 ?_
  refine jc_seq (jc_region (qh [0] (qe (jx_then (jc_seq (jc_seq (jc_region (qh [0] (qe (jx_then (jc_meet (fun (j : (List GHammer) × Int) => match j with | ⟨xs_1, i_2⟩ => laws_markHammerS.k_3 xs_1 i_2 = some r ∧ (xs_1.length = a0.length) ∧ ((A_o = none → xs_1 = [] ∧ A_c = 0))) (fun (j : (List GHammer) × Int) => match j with | ⟨xs_1, i_2⟩ => [(1, [], (.int .i64 i_2)), (4, [], (.int .i64 0))]) (fun (j : (List GHammer) × Int) => match j with | ⟨xs_1, i_2⟩ => [⟨A_o, 110, row encGHammer xs_1 A_sp⟩]) ?_ ?_)))))))))))
  ·refine jc_block ?_
   obtain ⟨t_8, ht_84, hr_77⟩ := bd h
   refine jc_loop (fun (s : (List GHammer) × Int × Int) (x : Unit) => match s, x with | ⟨xs_4, i_5, i_6⟩, _ => (xs_4.length = a0.length) ∧ ((A_o = none → xs_4 = [] ∧ A_c = 0))) (fun (s : (List GHammer) × Int × Int) (x : Unit) => match s, x with | ⟨xs_4, i_5, i_6⟩, _ => [(0, [], (.slice (A_o.map fun b => ⟨b, 0, none⟩) a0.length A_c)), (1, [], (.int .i64 i_5)), (4, [], (.int .i64 0)), (5, [], (.int .i64 i_6))]) (fun (s : (List GHammer) × Int × Int) (x : Unit) => match s, x with | ⟨xs_4, i_5, i_6⟩, _ => [⟨A_o, 110, row encGHammer xs_4 A_sp⟩]) ht_84 () ⟨rfl, A_ho⟩ (by kernel_rfl) [0] (by kernel_rfl) (by kernel_rfl) ?_
   rintro ⟨xs_4, i_5, i_6⟩ _ y_78 ⟨hn_76, ho_75⟩ h
   rw [laws_markHammerS.l_7] at h
   refine jc_seq (jc_seq (jc_region (qh [0,0,0,0] (qe (jx_then (qi h (fun h => ?_) (fun h => ?_)))))))
   ·refine jc_skip (jx_then (jc_seq (jc_block (jc_seq (jc_region (qh [0,0,0,0] ?_))))))
    obtain ⟨x_9, hx_81, h⟩ := bd h
    refine tO (qx 0 (A_o.map fun b => ⟨b, 0, none⟩) 2 hx_81 hn_76 (spo ho_75 hx_81) (jkO (qh [0] (tO (p_strO 0 0 A_o 110 encGHammer xs_4 A_sp i_6 (⟨(w8 i_5), x_9.fReady⟩ : GHammer) 2 0 [(.int .i8 (w8 i_5))] (by kernel_rfl) (by kernel_rfl) (by kernel_rfl) (fun e => (ho_75 e).1) encGHammer_len hx_81 (by kernel_rfl) (by kernel_rfl) (jkO (qe (jx_then (jc_seq (jc_region (qh [0,0,0] (qe (jx_then (jc_seq (jc_region (qh [0,0,0,0] ?_))))))))))))))))
    obtain ⟨x_10, hx_82, h⟩ := bd h
    exact tO (qx 0 (A_o.map fun b => ⟨b, 0, none⟩) 2 hx_82 (List.length_set.trans hn_76) (spo (set_ho ho_75) hx_82) (jkO (qh [0] (tO (p_strO 0 0 A_o 110 encGHammer (xs_4.set i_6.toNat (⟨(w8 i_5), x_9.fReady⟩ : GHammer)) A_sp i_6 (⟨x_10.fPitch, (w8 (w64 (i_5 + 1)))⟩ : GHammer) 2 1 [(.int .i8 (w8 (w64 (i_5 + 1))))] (by kernel_rfl) (by kernel_rfl) (by kernel_rfl) (fun e => ((set_ho ho_75) e).1) encGHammer_len hx_82 (by kernel_rfl) (by kernel_rfl) (jkO (qe (jx_then (jc_region (qh [0,0,0] (qe (jx_inn (jx_then (jc_region (qh [0,0,0] (qe (qb (((xs_4.set i_6.toNat (⟨(w8 i_5), x_9.fReady⟩ : GHammer)).set i_6.toNat (⟨x_10.fPitch, (w8 (w64 (i_5 + 1)))⟩ : GHammer)), (w64 ((w64 (i_5 + 1)) + 1)), (w64 (i_6 + 1))) () h ⟨(List.length_set.trans (List.length_set.trans hn_76)), (set_ho (set_ho ho_75))⟩ [0])))))))))))))))))
   ·refine jc_exit (jx_thenx (jx_leave (xs_4, i_5) (Option.some.inj h).symm (fun e_83 => ?_)))
    subst e_83
    exact jx_ine (qm ⟨xs_4, i_5⟩ ⟨hr_77, hn_76, ho_75⟩ [0])
  ·rintro ⟨xs_1, i_2⟩ ⟨h, hn_64, ho_63⟩
   replace h : laws_markHammerS.k_3 xs_1 i_2 = some r := h
   rw [laws_markHammerS.k_3] at h
   refine jx_then (jc_seq (jc_region (qh [0,0] (qe (jx_then (jc_ret ?_))))))
   obtain rfl := Option.some.inj h
   exact qr [] (fun w hm => ⟨hn_64, ho_63, rfl, hm.pk [0]⟩)
/-! ### laws.markFrame -/
def laws_markFrame (a0 : GFrame) (k1 : Int) : Option (Int × (List GHammer)) := (laws_markHammerS a0.fHammers k1).bind fun t_1 => some (t_1.1, t_1.2)
theorem laws_markFrame.calls (a0 : GFrame) (k1 : Int) (w : World) (r : Int × (List GHammer)) (C_o : Option Nat) {C_on : Nat} {C_c : Nat} {C_sp : List Value} (C_hn : a0.fHammers.length = C_on) (C_hs : C_o ≠ none → C_on ≤ C_c ∧ C_sp.length = (C_c - C_on) * 2) (C_ho : C_o = none → a0.fHammers = [] ∧ C_c = 0) (hm0 : Mem w (bs [C_o]) [⟨C_o, 110, row encGHammer a0.fHammers C_sp⟩] w) (h : laws_markFrame a0 k1 = some r) :
    Calls Try.prog 19 #[(.agg #[(.int .i16 a0.fSteps), (.slice (C_o.map fun b => ⟨b, 0, none⟩) C_on C_c)]), (.int .i64 k1)] w fun e w' => ∃ v, e = .returned v ∧ (r.2.length = C_on ∧ (C_o = none → r.2 = [] ∧ C_c = 0) ∧ v = (.int .i64 r.1) ∧ Mem w (bs [C_o]) [⟨C_o, 110, row encGHammer r.2 C_sp⟩] w') := by
  subst C_hn
  rw [laws_markFrame] at h
  refine enter (args := [(.agg #[(.int .i16 a0.fSteps), (.slice (C_o.map fun b => ⟨b, 0, none⟩) a0.fHammers.length C_c)]), (.int .i64 k1)]) Try.func19 rfl Try.ntmps19 (by kernel_rfl) (L := [⟨C_o, 110, row encGHammer a0.fHammers C_sp⟩]) (W := bs [C_o]) hm0 ?_
  refine jc_seq (jc_region (tO (qa 0 (fun b_1 => jkO (qh [0] (qe (jx_then (jc_seq (jc_region (qh [0,1,0] ?_))))))))))
  obtain ⟨t_1, ht_2, h⟩ := bd h
  refine tO (pc 0 (fun w hm => laws_markHammerS.calls a0.fHammers k1 w _ C_o rfl C_hs C_ho (hm.pass (N := [⟨C_o, 110, row encGHammer a0.fHammers C_sp⟩]) [0] (by kernel_rfl) (by kernel_rfl)) ht_2) ?_)
  rintro w v w' hm ⟨hn_3, ho_4, rfl, hm'⟩
  refine ⟨_, hm.appW (ps := [(0, ⟨C_o, 110, row encGHammer t_1.2 C_sp⟩)]) (N := []) hm' (by kernel_rfl) (by kernel_rfl), jkO ?_⟩
  clear hm hm'
  refine qh [0] (qe (jx_then (jc_seq (jc_region (qh [0,0] (qe (jx_then (jc_ret ?_))))))))
  obtain rfl := Option.some.inj h
  exact qr [] (fun w hm => ⟨hn_3, ho_4, rfl, hm.pk [0]⟩)
/-! ### laws.markTune -/
def laws_markTune.k_3 (xs_1 : List GNote) (i_2 : Int) : Option (Int × (List GNote)) := some (i_2, xs_1)
def laws_markTune.l_7 (a0 : List GNote) : ((List GNote) × Int × Int) → Option (((List GNote) × Int × Int) ⊕ (((List GNote) × Int)))
  | (xs_4, i_5, i_6) => (if (decide (i_6 < (a0.length : Int))) = true then (ix xs_4 i_6).bind fun x_9 => (ix (xs_4.set i_6.toNat (⟨(w16 i_5), x_9.fPitch⟩ : GNote)) i_6).bind fun x_10 => some (.inl (((xs_4.set i_6.toNat (⟨(w16 i_5), x_9.fPitch⟩ : GNote)).set i_6.toNat (⟨x_10.fAt, (w8 (w64 (i_5 + 1)))⟩ : GNote)), (w64 ((w64 (i_5 + 1)) + 1)), (w64 (i_6 + 1)))) else some (.inr (xs_4, i_5)))
def laws_markTune (a0 : List GNote) (k1 : Int) : Option (Int × (List GNote)) := (loop (laws_markTune.l_7 a0) (a0, k1, 0)).bind fun t_8 => laws_markTune.k_3 t_8.1 t_8.2
theorem laws_markTune.calls (a0 : List GNote) (k1 : Int) (w : World) (r : Int × (List GNote)) (A_o : Option Nat) {A_on : Nat} {A_c : Nat} {A_sp : List Value} (A_hn : a0.length = A_on) (A_hs : A_o ≠ none → A_on ≤ A_c ∧ A_sp.length = (A_c - A_on) * 2) (A_ho : A_o = none → a0 = [] ∧ A_c = 0) (hm0 : Mem w (bs [A_o]) [⟨A_o, 104, row encGNote a0 A_sp⟩] w) (h : laws_markTune a0 k1 = some r) :
    Calls Try.prog 30 #[(.slice (A_o.map fun b => ⟨b, 0, none⟩) A_on A_c), (.int .i64 k1)] w fun e w' => ∃ v, e = .returned v ∧ (r.2.length = A_on ∧ (A_o = none → r.2 = [] ∧ A_c = 0) ∧ v = (.int .i64 r.1) ∧ Mem w (bs [A_o]) [⟨A_o, 104, row encGNote r.2 A_sp⟩] w') := by
  subst A_hn
  rw [laws_markTune] at h
  refine enter (args := [(.slice (A_o.map fun b => ⟨b, 0, none⟩) a0.length A_c), (.int .i64 k1)]) Try.func30 rfl Try.ntmps30 (by kernel_rfl) (L := [⟨A_o, 104, row encGNote a0 A_sp⟩]) (W := bs [A_o]) hm0 ?_
  refine jc_seq (jc_region (qh [0] (qe (jx_then (jc_seq (jc_seq (jc_region (qh [0] (qe (jx_then (jc_meet (fun (j : (List GNote) × Int) => match j with | ⟨xs_1, i_2⟩ => laws_markTune.k_3 xs_1 i_2 = some r ∧ (xs_1.length = a0.length) ∧ ((A_o = none → xs_1 = [] ∧ A_c = 0))) (fun (j : (List GNote) × Int) => match j with | ⟨xs_1, i_2⟩ => [(1, [], (.int .i64 i_2)), (4, [], (.int .i64 0))]) (fun (j : (List GNote) × Int) => match j with | ⟨xs_1, i_2⟩ => [⟨A_o, 104, row encGNote xs_1 A_sp⟩]) ?_ ?_)))))))))))
  ·refine jc_block ?_
   obtain ⟨t_8, ht_84, hr_77⟩ := bd h
   refine jc_loop (fun (s : (List GNote) × Int × Int) (x : Unit) => match s, x with | ⟨xs_4, i_5, i_6⟩, _ => (xs_4.length = a0.length) ∧ ((A_o = none → xs_4 = [] ∧ A_c = 0))) (fun (s : (List GNote) × Int × Int) (x : Unit) => match s, x with | ⟨xs_4, i_5, i_6⟩, _ => [(0, [], (.slice (A_o.map fun b => ⟨b, 0, none⟩) a0.length A_c)), (1, [], (.int .i64 i_5)), (4, [], (.int .i64 0)), (5, [], (.int .i64 i_6))]) (fun (s : (List GNote) × Int × Int) (x : Unit) => match s, x with | ⟨xs_4, i_5, i_6⟩, _ => [⟨A_o, 104, row encGNote xs_4 A_sp⟩]) ht_84 () ⟨rfl, A_ho⟩ (by kernel_rfl) [0] (by kernel_rfl) (by kernel_rfl) ?_
   rintro ⟨xs_4, i_5, i_6⟩ _ y_78 ⟨hn_76, ho_75⟩ h
   rw [laws_markTune.l_7] at h
   refine jc_seq (jc_seq (jc_region (qh [0,0,0,0] (qe (jx_then (qi h (fun h => ?_) (fun h => ?_)))))))
   ·refine jc_skip (jx_then (jc_seq (jc_block (jc_seq (jc_region (qh [0,0,0,0] ?_))))))
    obtain ⟨x_9, hx_81, h⟩ := bd h
    refine tO (qx 0 (A_o.map fun b => ⟨b, 0, none⟩) 2 hx_81 hn_76 (spo ho_75 hx_81) (jkO (qh [0] (tO (p_strO 0 0 A_o 104 encGNote xs_4 A_sp i_6 (⟨(w16 i_5), x_9.fPitch⟩ : GNote) 2 0 [(.int .i16 (w16 i_5))] (by kernel_rfl) (by kernel_rfl) (by kernel_rfl) (fun e => (ho_75 e).1) encGNote_len hx_81 (by kernel_rfl) (by kernel_rfl) (jkO (qe (jx_then (jc_seq (jc_region (qh [0,0,0] (qe (jx_then (jc_seq (jc_region (qh [0,0,0,0] ?_))))))))))))))))
    obtain ⟨x_10, hx_82, h⟩ := bd h
    exact tO (qx 0 (A_o.map fun b => ⟨b, 0, none⟩) 2 hx_82 (List.length_set.trans hn_76) (spo (set_ho ho_75) hx_82) (jkO (qh [0] (tO (p_strO 0 0 A_o 104 encGNote (xs_4.set i_6.toNat (⟨(w16 i_5), x_9.fPitch⟩ : GNote)) A_sp i_6 (⟨x_10.fAt, (w8 (w64 (i_5 + 1)))⟩ : GNote) 2 1 [(.int .i8 (w8 (w64 (i_5 + 1))))] (by kernel_rfl) (by kernel_rfl) (by kernel_rfl) (fun e => ((set_ho ho_75) e).1) encGNote_len hx_82 (by kernel_rfl) (by kernel_rfl) (jkO (qe (jx_then (jc_region (qh [0,0,0] (qe (jx_inn (jx_then (jc_region (qh [0,0,0] (qe (qb (((xs_4.set i_6.toNat (⟨(w16 i_5), x_9.fPitch⟩ : GNote)).set i_6.toNat (⟨x_10.fAt, (w8 (w64 (i_5 + 1)))⟩ : GNote)), (w64 ((w64 (i_5 + 1)) + 1)), (w64 (i_6 + 1))) () h ⟨(List.length_set.trans (List.length_set.trans hn_76)), (set_ho (set_ho ho_75))⟩ [0])))))))))))))))))
   ·refine jc_exit (jx_thenx (jx_leave (xs_4, i_5) (Option.some.inj h).symm (fun e_83 => ?_)))
    subst e_83
    exact jx_ine (qm ⟨xs_4, i_5⟩ ⟨hr_77, hn_76, ho_75⟩ [0])
  ·rintro ⟨xs_1, i_2⟩ ⟨h, hn_64, ho_63⟩
   replace h : laws_markTune.k_3 xs_1 i_2 = some r := h
   rw [laws_markTune.k_3] at h
   refine jx_then (jc_seq (jc_region (qh [0,0] (qe (jx_then (jc_ret ?_))))))
   obtain rfl := Option.some.inj h
   exact qr [] (fun w hm => ⟨hn_64, ho_63, rfl, hm.pk [0]⟩)
/-! ### laws.markChoiceS -/
def laws_markChoiceS.k_3 (xs_1 : List GChoice) (i_2 : Int) : Option (Int × (List GChoice)) := some (i_2, xs_1)
def laws_markChoiceS.l_7 (a0 : List GChoice) : ((List GChoice) × Int × Int) → Option (((List GChoice) × Int × Int) ⊕ (((List GChoice) × Int)))
  | (xs_4, i_5, i_6) => (if (decide (i_6 < (a0.length : Int))) = true then (ix xs_4 i_6).bind fun x_9 => (ix (xs_4.set i_6.toNat (⟨((Int.tmod i_5 3) == 0), x_9.fLate, x_9.fOctave, x_9.fTrack⟩ : GChoice)) i_6).bind fun x_10 => (ix ((xs_4.set i_6.toNat (⟨((Int.tmod i_5 3) == 0), x_9.fLate, x_9.fOctave, x_9.fTrack⟩ : GChoice)).set i_6.toNat (⟨x_10.fAway, (w8 (w64 (i_5 + 1))), x_10.fOctave, x_10.fTrack⟩ : GChoice)) i_6).bind fun x_11 => (ix (((xs_4.set i_6.toNat (⟨((Int.tmod i_5 3) == 0), x_9.fLate, x_9.fOctave, x_9.fTrack⟩ : GChoice)).set i_6.toNat (⟨x_10.fAway, (w8 (w64 (i_5 + 1))), x_10.fOctave, x_10.fTrack⟩ : GChoice)).set i_6.toNat (⟨x_11.fAway, x_11.fLate, (w8 (w64 ((w64 (i_5 + 1)) + 1))), x_11.fTrack⟩ : GChoice)) i_6).bind fun x_12 => some (.inl (((((xs_4.set i_6.toNat (⟨((Int.tmod i_5 3) == 0), x_9.fLate, x_9.fOctave, x_9.fTrack⟩ : GChoice)).set i_6.toNat (⟨x_10.fAway, (w8 (w64 (i_5 + 1))), x_10.fOctave, x_10.fTrack⟩ : GChoice)).set i_6.toNat (⟨x_11.fAway, x_11.fLate, (w8 (w64 ((w64 (i_5 + 1)) + 1))), x_11.fTrack⟩ : GChoice)).set i_6.toNat (⟨x_12.fAway, x_12.fLate, x_12.fOctave, (w8 (w64 ((w64 ((w64 (i_5 + 1)) + 1)) + 1)))⟩ : GChoice)), (w64 ((w64 ((w64 ((w64 (i_5 + 1)) + 1)) + 1)) + 1)), (w64 (i_6 + 1)))) else some (.inr (xs_4, i_5)))
def laws_markChoiceS (a0 : List GChoice) (k1 : Int) : Option (Int × (List GChoice)) := (loop (laws_markChoiceS.l_7 a0) (a0, k1, 0)).bind fun t_8 => laws_markChoiceS.k_3 t_8.1 t_8.2
theorem laws_markChoiceS.calls (a0 : List GChoice) (k1 : Int) (w : World) (r : Int × (List GChoice)) (A_o : Option Nat) {A_on : Nat} {A_c : Nat} {A_sp : List Value} (A_hn : a0.length = A_on) (A_hs : A_o ≠ none → A_on ≤ A_c ∧ A_sp.length = (A_c - A_on) * 4) (A_ho : A_o = none → a0 = [] ∧ A_c = 0) (hm0 : Mem w (bs [A_o]) [⟨A_o, 144, row encGChoice a0 A_sp⟩] w) (h : laws_markChoiceS a0 k1 = some r) :
    Calls Try.prog 46 #[(.slice (A_o.map fun b => ⟨b, 0, none⟩) A_on A_c), (.int .i64 k1)] w fun e w' => ∃ v, e = .returned v ∧ (r.2.length = A_on ∧ (A_o = none → r.2 = [] ∧ A_c = 0) ∧ v = (.int .i64 r.1) ∧ Mem w (bs [A_o]) [⟨A_o, 144, row encGChoice r.2 A_sp⟩] w') := by
  subst A_hn
  rw [laws_markChoiceS] at h
  refine enter (args := [(.slice (A_o.map fun b => ⟨b, 0, none⟩) a0.length A_c), (.int .i64 k1)]) Try.func46 rfl Try.ntmps46 (by kernel_rfl) (L := [⟨A_o, 144, row encGChoice a0 A_sp⟩]) (W := bs [A_o]) hm0 ?_
  refine jc_seq (jc_region (qh [0] (qe (jx_then (jc_seq (jc_seq (jc_region (qh [0] (qe (jx_then (jc_meet (fun (j : (List GChoice) × Int) => match j with | ⟨xs_1, i_2⟩ => laws_markChoiceS.k_3 xs_1 i_2 = some r ∧ (xs_1.length = a0.length) ∧ ((A_o = none → xs_1 = [] ∧ A_c = 0))) (fun (j : (List GChoice) × Int) => match j with | ⟨xs_1, i_2⟩ => [(1, [], (.int .i64 i_2)), (4, [], (.int .i64 0))]) (fun (j : (List GChoice) × Int) => match j with | ⟨xs_1, i_2⟩ => [⟨A_o, 144, row encGChoice xs_1 A_sp⟩]) ?_ ?_)))))))))))
  ·refine jc_block ?_
   obtain ⟨t_8, ht_108, hr_99⟩ := bd h
   refine jc_loop (fun (s : (List GChoice) × Int × Int) (x : Unit) => match s, x with | ⟨xs_4, i_5, i_6⟩, _ => (xs_4.length = a0.length) ∧ ((A_o = none → xs_4 = [] ∧ A_c = 0))) (fun (s : (List GChoice) × Int × Int) (x : Unit) => match s, x with | ⟨xs_4, i_5, i_6⟩, _ => [(0, [], (.slice (A_o.map fun b => ⟨b, 0, none⟩) a0.length A_c)), (1, [], (.int .i64 i_5)), (4, [], (.int .i64 0)), (5, [], (.int .i64 i_6))]) (fun (s : (List GChoice) × Int × Int) (x : Unit) => match s, x with | ⟨xs_4, i_5, i_6⟩, _ => [⟨A_o, 144, row encGChoice xs_4 A_sp⟩]) ht_108 () ⟨rfl, A_ho⟩ (by kernel_rfl) [0] (by kernel_rfl) (by kernel_rfl) ?_
   rintro ⟨xs_4, i_5, i_6⟩ _ y_100 ⟨hn_98, ho_97⟩ h
   rw [laws_markChoiceS.l_7] at h
   refine jc_seq (jc_seq (jc_region (qh [0,0,0,0] (qe (jx_then (qi h (fun h => ?_) (fun h => ?_)))))))
   ·refine jc_skip (jx_then (jc_seq (jc_block (jc_seq (jc_region (qh [0,0,0,0,0] ?_))))))
    obtain ⟨x_9, hx_103, h⟩ := bd h
    refine tO (qx 0 (A_o.map fun b => ⟨b, 0, none⟩) 4 hx_103 hn_98 (spo ho_97 hx_103) (jkO (qh [0] (tO (p_strO 0 0 A_o 144 encGChoice xs_4 A_sp i_6 (⟨((Int.tmod i_5 3) == 0), x_9.fLate, x_9.fOctave, x_9.fTrack⟩ : GChoice) 4 0 [(.bool ((Int.tmod i_5 3) == 0))] (by kernel_rfl) (by kernel_rfl) (by kernel_rfl) (fun e => (ho_97 e).1) encGChoice_len hx_103 (by kernel_rfl) (by kernel_rfl) (jkO (qe (jx_then (jc_seq (jc_region (qh [0,0,0] (qe (jx_then (jc_seq (jc_region (qh [0,0,0,0] ?_))))))))))))))))
    obtain ⟨x_10, hx_104, h⟩ := bd h
    refine tO (qx 0 (A_o.map fun b => ⟨b, 0, none⟩) 4 hx_104 (List.length_set.trans hn_98) (spo (set_ho ho_97) hx_104) (jkO (qh [0] (tO (p_strO 0 0 A_o 144 encGChoice (xs_4.set i_6.toNat (⟨((Int.tmod i_5 3) == 0), x_9.fLate, x_9.fOctave, x_9.fTrack⟩ : GChoice)) A_sp i_6 (⟨x_10.fAway, (w8 (w64 (i_5 + 1))), x_10.fOctave, x_10.fTrack⟩ : GChoice) 4 1 [(.int .i8 (w8 (w64 (i_5 + 1))))] (by kernel_rfl) (by kernel_rfl) (by kernel_rfl) (fun e => ((set_ho ho_97) e).1) encGChoice_len hx_104 (by kernel_rfl) (by kernel_rfl) (jkO (qe (jx_then (jc_seq (jc_region (qh [0,0,0] (qe (jx_then (jc_seq (jc_region (qh [0,0,0,0] ?_))))))))))))))))
    obtain ⟨x_11, hx_105, h⟩ := bd h
    refine tO (qx 0 (A_o.map fun b => ⟨b, 0, none⟩) 4 hx_105 (List.length_set.trans (List.length_set.trans hn_98)) (spo (set_ho (set_ho ho_97)) hx_105) (jkO (qh [0] (tO (p_strO 0 0 A_o 144 encGChoice ((xs_4.set i_6.toNat (⟨((Int.tmod i_5 3) == 0), x_9.fLate, x_9.fOctave, x_9.fTrack⟩ : GChoice)).set i_6.toNat (⟨x_10.fAway, (w8 (w64 (i_5 + 1))), x_10.fOctave, x_10.fTrack⟩ : GChoice)) A_sp i_6 (⟨x_11.fAway, x_11.fLate, (w8 (w64 ((w64 (i_5 + 1)) + 1))), x_11.fTrack⟩ : GChoice) 4 2 [(.int .i8 (w8 (w64 ((w64 (i_5 + 1)) + 1))))] (by kernel_rfl) (by kernel_rfl) (by kernel_rfl) (fun e => ((set_ho (set_ho ho_97)) e).1) encGChoice_len hx_105 (by kernel_rfl) (by kernel_rfl) (jkO (qe (jx_then (jc_seq (jc_region (qh [0,0,0] (qe (jx_then (jc_seq (jc_region (qh [0,0,0,0] ?_))))))))))))))))
    obtain ⟨x_12, hx_106, h⟩ := bd h
    exact tO (qx 0 (A_o.map fun b => ⟨b, 0, none⟩) 4 hx_106 (List.length_set.trans (List.length_set.trans (List.length_set.trans hn_98))) (spo (set_ho (set_ho (set_ho ho_97))) hx_106) (jkO (qh [0] (tO (p_strO 0 0 A_o 144 encGChoice (((xs_4.set i_6.toNat (⟨((Int.tmod i_5 3) == 0), x_9.fLate, x_9.fOctave, x_9.fTrack⟩ : GChoice)).set i_6.toNat (⟨x_10.fAway, (w8 (w64 (i_5 + 1))), x_10.fOctave, x_10.fTrack⟩ : GChoice)).set i_6.toNat (⟨x_11.fAway, x_11.fLate, (w8 (w64 ((w64 (i_5 + 1)) + 1))), x_11.fTrack⟩ : GChoice)) A_sp i_6 (⟨x_12.fAway, x_12.fLate, x_12.fOctave, (w8 (w64 ((w64 ((w64 (i_5 + 1)) + 1)) + 1)))⟩ : GChoice) 4 3 [(.int .i8 (w8 (w64 ((w64 ((w64 (i_5 + 1)) + 1)) + 1))))] (by kernel_rfl) (by kernel_rfl) (by kernel_rfl) (fun e => ((set_ho (set_ho (set_ho ho_97))) e).1) encGChoice_len hx_106 (by kernel_rfl) (by kernel_rfl) (jkO (qe (jx_then (jc_region (qh [0,0,0] (qe (jx_inn (jx_then (jc_region (qh [0,0,0] (qe (qb (((((xs_4.set i_6.toNat (⟨((Int.tmod i_5 3) == 0), x_9.fLate, x_9.fOctave, x_9.fTrack⟩ : GChoice)).set i_6.toNat (⟨x_10.fAway, (w8 (w64 (i_5 + 1))), x_10.fOctave, x_10.fTrack⟩ : GChoice)).set i_6.toNat (⟨x_11.fAway, x_11.fLate, (w8 (w64 ((w64 (i_5 + 1)) + 1))), x_11.fTrack⟩ : GChoice)).set i_6.toNat (⟨x_12.fAway, x_12.fLate, x_12.fOctave, (w8 (w64 ((w64 ((w64 (i_5 + 1)) + 1)) + 1)))⟩ : GChoice)), (w64 ((w64 ((w64 ((w64 (i_5 + 1)) + 1)) + 1)) + 1)), (w64 (i_6 + 1))) () h ⟨(List.length_set.trans (List.length_set.trans (List.length_set.trans (List.length_set.trans hn_98)))), (set_ho (set_ho (set_ho (set_ho ho_97))))⟩ [0])))))))))))))))))
   ·refine jc_exit (jx_thenx (jx_leave (xs_4, i_5) (Option.some.inj h).symm (fun e_107 => ?_)))
    subst e_107
    exact jx_ine (qm ⟨xs_4, i_5⟩ ⟨hr_99, hn_98, ho_97⟩ [0])
  ·rintro ⟨xs_1, i_2⟩ ⟨h, hn_82, ho_81⟩
   replace h : laws_markChoiceS.k_3 xs_1 i_2 = some r := h
   rw [laws_markChoiceS.k_3] at h
   refine jx_then (jc_seq (jc_region (qh [0,0] (qe (jx_then (jc_ret ?_))))))
   obtain rfl := Option.some.inj h
   exact qr [] (fun w hm => ⟨hn_82, ho_81, rfl, hm.pk [0]⟩)
/-! ### laws.heldChoiceS -/
def laws_heldChoiceS.k_2 (i_1 : Int) : Option (Int) := some i_1
def laws_heldChoiceS.l_5 (a0 : List GChoice) : (Int × Int) → Option ((Int × Int) ⊕ (Int ⊕ Int))
  | (i_3, i_4) => (if (decide (i_4 < (a0.length : Int))) = true then (ix a0 i_4).bind fun x_7 => (if (x_7.fAway != ((Int.tmod i_3 3) == 0)) = true then some (.inr (.inl (-1))) else (ix a0 i_4).bind fun x_8 => (if (x_8.fLate != (w8 (w64 (i_3 + 1)))) = true then some (.inr (.inl (-1))) else (ix a0 i_4).bind fun x_9 => (if (x_9.fOctave != (w8 (w64 ((w64 (i_3 + 1)) + 1)))) = true then some (.inr (.inl (-1))) else (ix a0 i_4).bind fun x_10 => (if (x_10.fTrack != (w8 (w64 ((w64 ((w64 (i_3 + 1)) + 1)) + 1)))) = true then some (.inr (.inl (-1))) else some (.inl ((w64 ((w64 ((w64 ((w64 (i_3 + 1)) + 1)) + 1)) + 1)), (w64 (i_4 + 1)))))))) else some (.inr (.inr i_3)))
def laws_heldChoiceS (a0 : List GChoice) (k1 : Int) : Option (Int) := (loop (laws_heldChoiceS.l_5 a0) (k1, 0)).bind fun t_6 => match t_6 with | .inl p => some p | .inr p => laws_heldChoiceS.k_2 p
theorem laws_heldChoiceS.calls (a0 : List GChoice) (k1 : Int) (w : World) (r : Int) {A_a : Option Addr} {A_an : Nat} (A_c : Nat) (A_h : Rw w A_a 4 encGChoice a0) (A_hn : a0.length = A_an) (h : laws_heldChoiceS a0 k1 = some r) :
    Calls Try.prog 47 #[(.slice A_a A_an A_c), (.int .i64 k1)] w fun e w' => ∃ v, e = .returned v ∧ (v = (.int .i64 r) ∧ Mem w [] [] w') := by
  subst A_hn
  rw [laws_heldChoiceS] at h
  refine enter (args := [(.slice A_a a0.length A_c), (.int .i64 k1)]) Try.func47 rfl Try.ntmps47 (by kernel_rfl) (L := []) (W := []) (Mem.start w) ?_
  refine jc_seq (jc_region (qh [0] (qe (jx_then (jc_seq (jc_seq (jc_region (qh [0] (qe (jx_then (jc_meet (fun (j : Int) => match j with | i_1 => laws_heldChoiceS.k_2 i_1 = some r) (fun (j : Int) => match j with | i_1 => [(1, [], (.int .i64 i_1)), (4, [], (.int .i64 0))]) (fun (j : Int) => match j with | i_1 => []) ?_ ?_)))))))))))
  ·refine jc_block ?_
   obtain ⟨t_6, ht_224, hr_201⟩ := bd h
   refine jc_loop (fun (s : Int × Int) (x : Unit) => match s, x with | ⟨i_3, i_4⟩, _ => True) (fun (s : Int × Int) (x : Unit) => match s, x with | ⟨i_3, i_4⟩, _ => [(0, [], (.slice A_a a0.length A_c)), (1, [], (.int .i64 i_3)), (4, [], (.int .i64 0)), (5, [], (.int .i64 i_4))]) (fun (s : Int × Int) (x : Unit) => match s, x with | ⟨i_3, i_4⟩, _ => []) ht_224 () trivial (by kernel_rfl) [] (by kernel_rfl) (by kernel_rfl) ?_
   rintro ⟨i_3, i_4⟩ _ y_202 _ h
   rw [laws_heldChoiceS.l_5] at h
   refine jc_seq (jc_seq (jc_region (qh [0,0,0,0] (qe (jx_then (qi h (fun h => ?_) (fun h => ?_)))))))
   ·refine jc_skip (jx_then (jc_seq (jc_block (jc_seq (jc_seq (jc_region (qh [0,0] ?_)))))))
    obtain ⟨x_7, hx_207, h⟩ := bd h
    refine tO (qx 0 A_a 4 hx_207 rfl (A_h.sp hx_207) (jkO (qh [0] (tO (ql 0 false (fun w hm => (((hm.xr A_h).at hx_207).sub 0 1)) (jkO (qh [0,0,0,0] (qe (jx_then (qi h (fun h => ?_) (fun h => ?_)))))))))))
    ·refine jc_seq (jc_region (qh [0] (qe (jx_then (jc_ret (jx_thenr (jx_inr (jx_thenr (jx_leaver (.inl (-1)) (Option.some.inj h).symm (fun e_209 => ?_))))))))))
     subst e_209
     refine jx_inr (jx_thenr (jx_thenr ?_))
     obtain rfl := Option.some.inj hr_201
     exact qr [] (fun w hm => ⟨rfl, hm.pk []⟩)
    ·refine jc_skip (jx_then (jc_seq (jc_region (qh [0,0,0] (qe (jx_then (jc_seq (jc_seq (jc_region (qh [0,0] ?_))))))))))
     obtain ⟨x_8, hx_212, h⟩ := bd h
     refine tO (qx 0 A_a 4 hx_212 rfl (A_h.sp hx_212) (jkO (qh [0] (tO (ql 0 false (fun w hm => (((hm.xr A_h).at hx_212).sub 1 1)) (jkO (qh [0,0,0] (qe (jx_then (qi h (fun h => ?_) (fun h => ?_)))))))))))
     ·refine jc_seq (jc_region (qh [0] (qe (jx_then (jc_ret (jx_thenr (jx_inr (jx_thenr (jx_leaver (.inl (-1)) (Option.some.inj h).symm (fun e_214 => ?_))))))))))
      subst e_214
      refine jx_inr (jx_thenr (jx_thenr ?_))
      obtain rfl := Option.some.inj hr_201
      exact qr [] (fun w hm => ⟨rfl, hm.pk []⟩)
     ·refine jc_skip (jx_then (jc_seq (jc_region (qh [0,0,0] (qe (jx_then (jc_seq (jc_seq (jc_region (qh [0,0] ?_))))))))))
      obtain ⟨x_9, hx_217, h⟩ := bd h
      refine tO (qx 0 A_a 4 hx_217 rfl (A_h.sp hx_217) (jkO (qh [0] (tO (ql 0 false (fun w hm => (((hm.xr A_h).at hx_217).sub 2 1)) (jkO (qh [0,0,0] (qe (jx_then (qi h (fun h => ?_) (fun h => ?_)))))))))))
      ·refine jc_seq (jc_region (qh [0] (qe (jx_then (jc_ret (jx_thenr (jx_inr (jx_thenr (jx_leaver (.inl (-1)) (Option.some.inj h).symm (fun e_219 => ?_))))))))))
       subst e_219
       refine jx_inr (jx_thenr (jx_thenr ?_))
       obtain rfl := Option.some.inj hr_201
       exact qr [] (fun w hm => ⟨rfl, hm.pk []⟩)
      ·refine jc_skip (jx_then (jc_seq (jc_region (qh [0,0,0] (qe (jx_then (jc_seq (jc_seq (jc_region (qh [0,0] ?_))))))))))
       obtain ⟨x_10, hx_220, h⟩ := bd h
       refine tO (qx 0 A_a 4 hx_220 rfl (A_h.sp hx_220) (jkO (qh [0] (tO (ql 0 false (fun w hm => (((hm.xr A_h).at hx_220).sub 3 1)) (jkO (qh [0,0,0] (qe (jx_then (qi h (fun h => ?_) (fun h => ?_)))))))))))
       ·refine jc_seq (jc_region (qh [0] (qe (jx_then (jc_ret (jx_thenr (jx_inr (jx_thenr (jx_leaver (.inl (-1)) (Option.some.inj h).symm (fun e_222 => ?_))))))))))
        subst e_222
        refine jx_inr (jx_thenr (jx_thenr ?_))
        obtain rfl := Option.some.inj hr_201
        exact qr [] (fun w hm => ⟨rfl, hm.pk []⟩)
       ·exact jc_skip (jx_then (jc_region (qh [0,0,0] (qe (jx_inn (jx_then (jc_region (qh [0,0,0] (qe (qb ((w64 ((w64 ((w64 ((w64 (i_3 + 1)) + 1)) + 1)) + 1)), (w64 (i_4 + 1))) () h trivial []))))))))))
   ·refine jc_exit (jx_thenx (jx_leave (.inr i_3) (Option.some.inj h).symm (fun e_223 => ?_)))
    subst e_223
    exact jx_ine (qm i_3 hr_201 [])
  ·rintro i_1 h
   replace h : laws_heldChoiceS.k_2 i_1 = some r := h
   rw [laws_heldChoiceS.k_2] at h
   refine jx_then (jc_seq (jc_region (qh [0,0] (qe (jx_then (jc_ret ?_))))))
   obtain rfl := Option.some.inj h
   exact qr [] (fun w hm => ⟨rfl, hm.pk []⟩)
/-! ### laws.FnExactArrange -/
def laws_FnExactArrange.k_19 (aF0 : GFrame) (aT1 : List GNote) (aC2 : GCosts) (aBudget3 : Int) (t_6 : (List GChoice) × Int × Int) (t_10 : (List GChoice) × Int × Int) (q_18 : Bool) : Option (Bool) := (if q_18 = true then some false else (laws_markChoiceS t_10.1 1).bind fun t_20 => (laws_heldChoiceS t_20.2 1).bind fun t_21 => (if (decide (t_21 < 0)) = true then some false else (if (t_21 != t_20.1) = true then some false else (laws_toFrame aF0).bind fun t_22 => (laws_toTune aT1).bind fun t_23 => (laws_toCosts aC2).bind fun t_24 => (impl_Arrange t_22 t_23 t_24 aBudget3).bind fun t_25 => (laws_eqChoiceS t_25.1 t_6.1).bind fun t_26 => (if (((!t_26) || (t_25.2.1 != t_6.2.1)) || (t_25.2.2 != t_6.2.2)) = true then some false else (laws_heldChoiceS t_20.2 1).bind fun t_27 => (if (decide (t_27 < 0)) = true then some false else (if (t_27 != t_20.1) = true then some false else some true))))))
def laws_FnExactArrange (aF0 : GFrame) (aT1 : List GNote) (aC2 : GCosts) (aBudget3 : Int) : Option (Bool) := (laws_szFrame aF0 1048576).bind fun t_1 => (if (decide (t_1 < 0)) = true then some true else (laws_szTune aT1 t_1).bind fun t_2 => (if (decide (t_2 < 0)) = true then some true else (laws_toFrame aF0).bind fun t_3 => (laws_toTune aT1).bind fun t_4 => (laws_toCosts aC2).bind fun t_5 => (spec_Arrange t_3 t_4 t_5 aBudget3).bind fun t_6 => (laws_toFrame aF0).bind fun t_7 => (laws_toTune aT1).bind fun t_8 => (laws_toCosts aC2).bind fun t_9 => (impl_Arrange t_7 t_8 t_9 aBudget3).bind fun t_10 => (laws_eqChoiceS t_10.1 t_6.1).bind fun t_11 => (if (((!t_11) || (t_10.2.1 != t_6.2.1)) || (t_10.2.2 != t_6.2.2)) = true then some false else (laws_toFrame aF0).bind fun t_12 => (laws_eqFrame t_7 t_12).bind fun t_13 => (if (!t_13) = true then some false else (laws_toTune aT1).bind fun t_14 => (laws_eqTune t_8 t_14).bind fun t_15 => (if (!t_15) = true then some false else (laws_markFrame t_7 1).bind fun t_16 => (laws_markTune t_8 t_16.1).bind fun t_17 => (if (decide (t_17.1 < 0)) = true then laws_FnExactArrange.k_19 aF0 aT1 aC2 aBudget3 t_6 t_10 true else (laws_eqChoiceS t_10.1 t_6.1).bind fun t_28 => laws_FnExactArrange.k_19 aF0 aT1 aC2 aBudget3 t_6 t_10 (((!t_28) || (t_10.2.1 != t_6.2.1)) || (t_10.2.2 != t_6.2.2))))))))
set_option maxHeartbeats 8000000 in
theorem laws_FnExactArrange.calls (aF0 : GFrame) (aT1 : List GNote) (aC2 : GCosts) (aBudget3 : Int) (w : World) (r : Bool) {C_a : Option Addr} {C_an : Nat} (C_c : Nat) (C_h : Rw w C_a 2 encGHammer aF0.fHammers) (C_hn : aF0.fHammers.length = C_an) {D_a : Option Addr} {D_an : Nat} (D_c : Nat) (D_h : Rw w D_a 2 encGNote aT1) (D_hn : aT1.length = D_an) (h : laws_FnExactArrange aF0 aT1 aC2 aBudget3 = some r) :
    Calls Try.prog 9 #[(.agg #[(.int .i16 aF0.fSteps), (.slice C_a C_an C_c)]), (.slice D_a D_an D_c), (.agg #[(.int .i16 aC2.fAway), (.int .i16 aC2.fOctave), (.int .i16 aC2.fStep)]), (.int .i64 aBudget3)] w fun e w' => ∃ v, e = .returned v ∧ (v = (.bool r) ∧ Mem w [] [] w') := by
  subst C_hn D_hn
  rw [laws_FnExactArrange] at h
  refine enter (args := [(.agg #[(.int .i16 aF0.fSteps), (.slice C_a aF0.fHammers.length C_c)]), (.slice D_a aT1.length D_c), (.agg #[(.int .i16 aC2.fAway), (.int .i16 aC2.fOctave), (.int .i16 aC2.fStep)]), (.int .i64 aBudget3)]) Try.func9 rfl Try.ntmps9 (by kernel_rfl) (L := []) (W := []) (Mem.start w) ?_
  refine jc_seq (jc_region (tO (qa 0 (fun b_1 => jkO (tO (qa 0 (fun b_2 => jkO (qh [0] (qe (jx_then (jc_seq (jc_region (qh [0] (qe (jx_then (jc_seq (jc_region (qh [0,0] ?_))))))))))))))))))
  obtain ⟨t_1, ht_3, h⟩ := bd h
  refine tO (pc 0 (fun w hm => laws_szFrame.calls aF0 1048576 w _ C_c (hm.xr C_h) rfl ht_3) ?_)
  rintro w v w' hm ⟨rfl, hm'⟩
  refine ⟨_, hm.app hm', jkO ?_⟩
  clear hm hm'
  refine qh [0] (qe (jx_then (jc_seq (jc_seq (jc_region (qh [0,0] (qe (jx_then (qi h (fun h => ?_) (fun h => ?_))))))))))
  ·refine jc_seq (jc_region (qh [0] (qe (jx_then (jc_ret (jx_thenr ?_))))))
   obtain rfl := Option.some.inj h
   exact qr [] (fun w hm => ⟨rfl, hm.pk []⟩)
  ·refine jc_skip (jx_then (jc_seq (jc_region (qh [0,0] ?_))))
   obtain ⟨t_2, ht_6, h⟩ := bd h
   refine tO (pc 0 (fun w hm => laws_szTune.calls aT1 t_1 w _ D_c (hm.xr D_h) rfl ht_6) ?_)
   rintro w v w' hm ⟨rfl, hm'⟩
   refine ⟨_, hm.app hm', jkO ?_⟩
   clear hm hm'
   refine qh [0] (qe (jx_then (jc_seq (jc_seq (jc_region (qh [0,0] (qe (jx_then (qi h (fun h => ?_) (fun h => ?_))))))))))
   ·refine jc_seq (jc_region (qh [0] (qe (jx_then (jc_ret (jx_thenr ?_))))))
    obtain rfl := Option.some.inj h
    exact qr [] (fun w hm => ⟨rfl, hm.pk []⟩)
   ·refine jc_skip (jx_then (jc_seq (qg [⟨some b_1, 25, [(.int .i16 aF0.fSteps), (.slice C_a aF0.fHammers.length C_c)]⟩, ⟨some b_2, 70, [(.int .i16 aC2.fAway), (.int .i16 aC2.fOctave), (.int .i16 aC2.fStep)]⟩] 15 (qd [⟨0, 0, 0⟩,⟨2, 0, 0⟩,⟨4, 1, 0⟩,⟨6, 0, 0⟩] 11 [0, 1] ?_))))
    obtain ⟨t_3, ht_28, h⟩ := bd h
    refine tD 1 (pc 0 (fun w hm => laws_toFrame.calls aF0 w _ C_c (hm.xr C_h) rfl ht_28) ?_)
    rintro w v w' hm ⟨o_29, cap_30, sp_31, _, rfl, hs_32, ho_33, rfl, hm'⟩
    refine ⟨_, hm.app hm', kD [0, 1] ?_⟩
    clear hm hm'
    obtain ⟨t_4, ht_34, h⟩ := bd h
    refine tD 3 (pc 0 (fun w hm => laws_toTune.calls aT1 w _ D_c (hm.xr D_h) rfl ht_34) ?_)
    rintro w v w' hm ⟨o_35, cap_36, sp_37, _, rfl, hs_38, ho_39, rfl, hm'⟩
    refine ⟨_, hm.app hm', kD [0, 1] ?_⟩
    clear hm hm'
    obtain ⟨t_5, ht_40, h⟩ := bd h
    refine tD 5 (pc 0 (fun w hm => laws_toCosts.calls aC2 w _ ht_40) ?_)
    rintro w v w' hm ⟨rfl, hm'⟩
    refine ⟨_, hm.app hm', kD [0, 1] ?_⟩
    clear hm hm'
    obtain ⟨t_6, ht_41, h⟩ := bd h
    refine tD 7 (pc 0 (fun w hm => spec_Arrange.calls t_3 t_4 t_5 aBudget3 w _ cap_30 (hm.ow 2 o_29 110 t_3.fHammers sp_31 (fun e => (ho_33 e).1) encGHammer_len) rfl cap_36 (hm.ow 3 o_35 104 t_4 sp_37 (fun e => (ho_39 e).1) encGNote_len) rfl ht_41) ?_)
    rintro w v w' hm ⟨o_42, cap_43, sp_44, _, rfl, hs_45, ho_46, rfl, hm'⟩
    refine ⟨_, hm.app hm', kD [0, 1] ?_⟩
    clear hm hm'
    refine qd [⟨8, 0, 0⟩,⟨9, 0, 0⟩,⟨10, 0, 0⟩,⟨11, 0, 0⟩,⟨12, 0, 0⟩,⟨13, 0, 0⟩,⟨14, 0, 0⟩] 0 [0, 1] (qz (jx_then (jc_seq (jc_region (qh [0] ?_)))))
    obtain ⟨t_7, ht_47, h⟩ := bd h
    refine tO (pc 0 (fun w hm => laws_toFrame.calls aF0 w _ C_c (hm.xr C_h) rfl ht_47) ?_)
    rintro w v w' hm ⟨o_48, cap_49, sp_50, _, rfl, hs_51, ho_52, rfl, hm'⟩
    refine ⟨_, hm.app hm', jkO ?_⟩
    clear hm hm'
    refine tO (qa 0 (fun b_53 => jkO (tO (qs 0 [6] (jkO (qe (jx_then (jc_seq (jc_region (qh [0] ?_))))))))))
    obtain ⟨t_8, ht_54, h⟩ := bd h
    refine tO (pc 0 (fun w hm => laws_toTune.calls aT1 w _ D_c (hm.xr D_h) rfl ht_54) ?_)
    rintro w v w' hm ⟨o_55, cap_56, sp_57, _, rfl, hs_58, ho_59, rfl, hm'⟩
    refine ⟨_, hm.app hm', jkO ?_⟩
    clear hm hm'
    refine qh [0] (qe (jx_then (jc_seq (qg [⟨some b_1, 25, [(.int .i16 aF0.fSteps), (.slice C_a aF0.fHammers.length C_c)]⟩, ⟨some b_2, 70, [(.int .i16 aC2.fAway), (.int .i16 aC2.fOctave), (.int .i16 aC2.fStep)]⟩, ⟨o_29, 110, row encGHammer t_3.fHammers sp_31⟩, ⟨o_35, 104, row encGNote t_4 sp_37⟩, ⟨o_42, 144, row encGChoice t_6.1 sp_44⟩, ⟨o_48, 110, row encGHammer t_7.fHammers sp_50⟩, ⟨some b_53, 34, [(.int .i16 t_7.fSteps), (.slice (o_48.map fun b => ⟨b, 0, none⟩) t_7.fHammers.length cap_49)]⟩, ⟨o_55, 104, row encGNote t_8 sp_57⟩] 13 (qd [⟨0, 6, 0⟩,⟨1, 0, 0⟩,⟨2, 1, 0⟩,⟨4, 0, 0⟩] 9 [0, 1, 2, 3, 4, 5, 6, 7] ?_)))))
    obtain ⟨t_9, ht_67, h⟩ := bd h
    refine tD 3 (pc 0 (fun w hm => laws_toCosts.calls aC2 w _ ht_67) ?_)
    rintro w v w' hm ⟨rfl, hm'⟩
    refine ⟨_, hm.app hm', kD [0, 1, 2, 3, 4, 5, 6, 7] ?_⟩
    clear hm hm'
    obtain ⟨t_10, ht_68, h⟩ := bd h
    refine tD 5 (pc 0 (fun w hm => impl_Arrange.calls t_7 t_8 t_9 aBudget3 w _ cap_49 (hm.ow 5 o_48 110 t_7.fHammers sp_50 (fun e => (ho_52 e).1) encGHammer_len) rfl cap_56 (hm.ow 7 o_55 104 t_8 sp_57 (fun e => (ho_59 e).1) encGNote_len) rfl ht_68) ?_)
    rintro w v w' hm ⟨o_69, cap_70, sp_71, _, rfl, hs_72, ho_73, rfl, hm'⟩
    refine ⟨_, hm.app hm', kD [0, 1, 2, 3, 4, 5, 6, 7] ?_⟩
    clear hm hm'
    refine qd [⟨6, 0, 0⟩,⟨7, 0, 0⟩,⟨8, 0, 0⟩,⟨9, 0, 0⟩,⟨10, 0, 0⟩,⟨11, 0, 0⟩,⟨12, 0, 0⟩] 0 [0, 1, 2, 3, 4, 5, 6, 7] (qz (jx_then (jc_seq (jc_seq (jc_region (qh [0,0] ?_))))))
    obtain ⟨t_11, ht_78, h⟩ := bd h
    refine tO (pc 0 (fun w hm => laws_eqChoiceS.calls t_10.1 t_6.1 w _ cap_70 (hm.ow 8 o_69 144 t_10.1 sp_71 (fun e => (ho_73 e).1) encGChoice_len) rfl cap_43 (hm.ow 4 o_42 144 t_6.1 sp_44 (fun e => (ho_46 e).1) encGChoice_len) rfl ht_78) ?_)
    rintro w v w' hm ⟨rfl, hm'⟩
    refine ⟨_, hm.app hm', jkO ?_⟩
    clear hm hm'
    refine qf [(0, 0), (0, 0), (0, 1), (0, 1), (0, 1), (0, 0), (0, 0), (0, 1), (0, 1), (0, 1), (0, 0)] (qe (jx_then (qi h (fun h => ?_) (fun h => ?_))))
    ·refine jc_seq (jc_region (qh [0] (qe (jx_then (jc_ret (jx_thenr ?_))))))
     obtain rfl := Option.some.inj h
     exact qr [] (fun w hm => ⟨rfl, hm.pk []⟩)
    ·refine jc_skip (jx_then (jc_seq (jc_seq (qg [⟨some b_1, 25, [(.int .i16 aF0.fSteps), (.slice C_a aF0.fHammers.length C_c)]⟩, ⟨some b_2, 70, [(.int .i16 aC2.fAway), (.int .i16 aC2.fOctave), (.int .i16 aC2.fStep)]⟩, ⟨o_29, 110, row encGHammer t_3.fHammers sp_31⟩, ⟨o_35, 104, row encGNote t_4 sp_37⟩, ⟨o_42, 144, row encGChoice t_6.1 sp_44⟩, ⟨o_48, 110, row encGHammer t_7.fHammers sp_50⟩, ⟨some b_53, 34, [(.int .i16 t_7.fSteps), (.slice (o_48.map fun b => ⟨b, 0, none⟩) t_7.fHammers.length cap_49)]⟩, ⟨o_55, 104, row encGNote t_8 sp_57⟩, ⟨o_69, 144, row encGChoice t_10.1 sp_71⟩] 5 (qd [⟨0, 6, 0⟩,⟨1, 0, 0⟩] 3 [0, 1, 2, 3, 4, 5, 6, 7, 8] ?_)))))
     obtain ⟨t_12, ht_102, h⟩ := bd h
     refine tD 2 (pc 0 (fun w hm => laws_toFrame.calls aF0 w _ C_c (hm.xr C_h) rfl ht_102) ?_)
     rintro w v w' hm ⟨o_103, cap_104, sp_105, _, rfl, hs_106, ho_107, rfl, hm'⟩
     refine ⟨_, hm.app hm', kD [0, 1, 2, 3, 4, 5, 6, 7, 8] ?_⟩
     clear hm hm'
     obtain ⟨t_13, ht_108, h⟩ := bd h
     refine tD 3 (pc 0 (fun w hm => laws_eqFrame.calls t_7 t_12 w _ cap_49 (hm.ow 5 o_48 110 t_7.fHammers sp_50 (fun e => (ho_52 e).1) encGHammer_len) rfl cap_104 (hm.ow 9 o_103 110 t_12.fHammers sp_105 (fun e => (ho_107 e).1) encGHammer_len) rfl ht_108) ?_)
     rintro w v w' hm ⟨rfl, hm'⟩
     refine ⟨_, hm.app hm', kD [0, 1, 2, 3, 4, 5, 6, 7, 8] ?_⟩
     clear hm hm'
     refine qd [⟨4, 0, 0⟩] 0 [0, 1, 2, 3, 4, 5, 6, 7, 8] (qz (jx_then (qi h (fun h => ?_) (fun h => ?_))))
     ·refine jc_seq (jc_region (qh [0] (qe (jx_then (jc_ret (jx_thenr ?_))))))
      obtain rfl := Option.some.inj h
      exact qr [] (fun w hm => ⟨rfl, hm.pk []⟩)
     ·refine jc_skip (jx_then (jc_seq (jc_seq (jc_region (qh [0,0] ?_)))))
      obtain ⟨t_14, ht_118, h⟩ := bd h
      refine tO (pc 0 (fun w hm => laws_toTune.calls aT1 w _ D_c (hm.xr D_h) rfl ht_118) ?_)
      rintro w v w' hm ⟨o_119, cap_120, sp_121, _, rfl, hs_122, ho_123, rfl, hm'⟩
      refine ⟨_, hm.app hm', jkO ?_⟩
      clear hm hm'
      obtain ⟨t_15, ht_124, h⟩ := bd h
      refine tO (pc 0 (fun w hm => laws_eqTune.calls t_8 t_14 w _ cap_56 (hm.ow 7 o_55 104 t_8 sp_57 (fun e => (ho_59 e).1) encGNote_len) rfl cap_120 (hm.ow 10 o_119 104 t_14 sp_121 (fun e => (ho_123 e).1) encGNote_len) rfl ht_124) ?_)
      rintro w v w' hm ⟨rfl, hm'⟩
      refine ⟨_, hm.app hm', jkO ?_⟩
      clear hm hm'
      refine qh [0] (qe (jx_then (qi h (fun h => ?_) (fun h => ?_))))
      ·refine jc_seq (jc_region (qh [0] (qe (jx_then (jc_ret (jx_thenr ?_))))))
       obtain rfl := Option.some.inj h
       exact qr [] (fun w hm => ⟨rfl, hm.pk []⟩)
      ·refine jc_skip (jx_then (jc_seq (jc_region (qh [0] (qe (jx_then (jc_seq (jc_region (qh [6,0] ?_)))))))))
       obtain ⟨t_16, ht_126, h⟩ := bd h
       refine tO (pc 0 (fun w hm => laws_markFrame.calls t_7 1 w _ o_48 rfl hs_51 ho_52 (hm.pass (N := [⟨o_48, 110, row encGHammer t_7.fHammers sp_50⟩]) [5] (by kernel_rfl) (by kernel_rfl)) ht_126) ?_)
       rintro w v w' hm ⟨hn_127, ho_128, rfl, hm'⟩
       refine ⟨_, hm.appW (ps := [(5, ⟨o_48, 110, row encGHammer t_16.2 sp_50⟩)]) (N := []) hm' (by kernel_rfl) (by kernel_rfl), jkO ?_⟩
       clear hm hm'
       refine qh [0] (qe (jx_then (jc_seq (jc_region (qh [0,0] ?_)))))
       obtain ⟨t_17, ht_129, h⟩ := bd h
       refine tO (pc 0 (fun w hm => laws_markTune.calls t_8 t_16.1 w _ o_55 rfl hs_58 ho_59 (hm.pass (N := [⟨o_55, 104, row encGNote t_8 sp_57⟩]) [7] (by kernel_rfl) (by kernel_rfl)) ht_129) ?_)
       rintro w v w' hm ⟨hn_130, ho_131, rfl, hm'⟩
       refine ⟨_, hm.appW (ps := [(7, ⟨o_55, 104, row encGNote t_17.2 sp_57⟩)]) (N := []) hm' (by kernel_rfl) (by kernel_rfl), jkO ?_⟩
       clear hm hm'
       refine qh [0] (qe (jx_then (jc_seq (jc_seq (jc_meet (fun (j : Bool) => match j with | q_18 => laws_FnExactArrange.k_19 aF0 aT1 aC2 aBudget3 t_6 t_10 q_18 = some r) (fun (j : Bool) => match j with | q_18 => [(1, [], (.slice D_a aT1.length D_c)), (3, [], (.int .i64 aBudget3)), (4, [], (.pointer (some ⟨b_1, 0, none⟩))), (6, [], (.pointer (some ⟨b_2, 0, none⟩))), (8, [], (.bool false)), (10, [], (.slice (o_42.map fun b => ⟨b, 0, none⟩) t_6.1.length cap_43)), (11, [], (.int .i64 t_6.2.1)), (12, [], (.int .i64 t_6.2.2)), (15, [], (.slice (o_69.map fun b => ⟨b, 0, none⟩) t_10.1.length cap_70)), (107, [], (.bool q_18))]) (fun (j : Bool) => match j with | q_18 => [⟨some b_1, 25, [(.int .i16 aF0.fSteps), (.slice C_a aF0.fHammers.length C_c)]⟩, ⟨some b_2, 70, [(.int .i16 aC2.fAway), (.int .i16 aC2.fOctave), (.int .i16 aC2.fStep)]⟩, ⟨o_29, 110, row encGHammer t_3.fHammers sp_31⟩, ⟨o_35, 104, row encGNote t_4 sp_37⟩, ⟨o_42, 144, row encGChoice t_6.1 sp_44⟩, ⟨o_48, 110, row encGHammer t_16.2 sp_50⟩, ⟨some b_53, 34, [(.int .i16 t_7.fSteps), (.slice (o_48.map fun b => ⟨b, 0, none⟩) t_7.fHammers.length cap_49)]⟩, ⟨o_55, 104, row encGNote t_17.2 sp_57⟩, ⟨o_69, 144, row encGChoice t_10.1 sp_71⟩, ⟨o_103, 110, row encGHammer t_12.fHammers sp_105⟩, ⟨o_119, 104, row encGNote t_14 sp_121⟩]) ?_ ?_)))))
       ·refine jc_region (qf [(0, 0), (0, 0), (0, 0), (0, 1), (0, 1)] (qp 92 h (fun h => ?_) (fun h => ?_)))
        ·exact qf [(0, 3), (0, 3), (0, 4), (0, 0), (0, 3), (0, 3), (0, 3), (0, 4), (0, 0), (0, 3), (0, 3), (0, 3), (0, 4)] (qe (qm true h [0, 1, 2, 3, 4, 5, 6, 7, 8, 9, 10]))
        ·obtain ⟨t_28, ht_197, h⟩ := bd h
         refine tO (pc 2 (fun w hm => laws_eqChoiceS.calls t_10.1 t_6.1 w _ cap_70 (hm.ow 8 o_69 144 t_10.1 sp_71 (fun e => (ho_73 e).1) encGChoice_len) rfl cap_43 (hm.ow 4 o_42 144 t_6.1 sp_44 (fun e => (ho_46 e).1) encGChoice_len) rfl ht_197) ?_)
         rintro w v w' hm ⟨rfl, hm'⟩
         refine ⟨_, hm.app hm', jkO ?_⟩
         clear hm hm'
         exact qf [(0, 2), (0, 5), (0, 0), (0, 1), (0, 1), (0, 1), (0, 0), (0, 0), (0, 1), (0, 1), (0, 1), (0, 0)] (qe (qm (((!t_28) || (t_10.2.1 != t_6.2.1)) || (t_10.2.2 != t_6.2.2)) h [0, 1, 2, 3, 4, 5, 6, 7, 8, 9, 10]))
       ·rintro q_18 h
        replace h : laws_FnExactArrange.k_19 aF0 aT1 aC2 aBudget3 t_6 t_10 q_18 = some r := h
        rw [laws_FnExactArrange.k_19] at h
        refine jx_then (qi h (fun h => ?_) (fun h => ?_))
        ·refine jc_seq (jc_region (qh [0] (qe (jx_then (jc_ret (jx_thenr ?_))))))
         obtain rfl := Option.some.inj h
         exact qr [] (fun w hm => ⟨rfl, hm.pk []⟩)
        ·refine jc_skip (jx_then (jc_seq (jc_region (qh [0] (qe (jx_then (jc_seq (jc_region (qh [0,0] ?_)))))))))
         obtain ⟨t_20, ht_140, h⟩ := bd h
         refine tO (pc 0 (fun w hm => laws_markChoiceS.calls t_10.1 1 w _ o_69 rfl hs_72 ho_73 (hm.pass (N := [⟨o_69, 144, row encGChoice t_10.1 sp_71⟩]) [8] (by kernel_rfl) (by kernel_rfl)) ht_140) ?_)
         rintro w v w' hm ⟨hn_141, ho_142, rfl, hm'⟩
         refine ⟨_, hm.appW (ps := [(8, ⟨o_69, 144, row encGChoice t_20.2 sp_71⟩)]) (N := []) hm' (by kernel_rfl) (by kernel_rfl), jkO ?_⟩
         clear hm hm'
         refine qh [0] (qe (jx_then (jc_seq (jc_region (qh [0] (qe (jx_then (jc_seq (jc_region (qh [0,0] ?_))))))))))
         obtain ⟨t_21, ht_143, h⟩ := bd h
         refine tO (pc 0 (fun w hm => laws_heldChoiceS.calls t_20.2 1 w _ cap_70 (hm.ow 8 o_69 144 t_20.2 sp_71 (fun e => (ho_142 e).1) encGChoice_len) hn_141 ht_143) ?_)
         rintro w v w' hm ⟨rfl, hm'⟩
         refine ⟨_, hm.app hm', jkO ?_⟩
         clear hm hm'
         refine qh [0] (qe (jx_then (jc_seq (jc_seq (jc_region (qh [0,0] (qe (jx_then (qi h (fun h => ?_) (fun h => ?_))))))))))
         ·refine jc_seq (jc_region (qh [0] (qe (jx_then (jc_ret (jx_thenr ?_))))))
          obtain rfl := Option.some.inj h
          exact qr [] (fun w hm => ⟨rfl, hm.pk []⟩)
         ·refine jc_skip (jx_then (jc_seq (jc_seq (jc_region (qh [0,0,0] (qe (jx_then (qi h (fun h => ?_) (fun h => ?_)))))))))
          ·refine jc_seq (jc_region (qh [0] (qe (jx_then (jc_ret (jx_thenr ?_))))))
           obtain rfl := Option.some.inj h
           exact qr [] (fun w hm => ⟨rfl, hm.pk []⟩)
          ·refine jc_skip (jx_then (jc_seq (qg [⟨some b_1, 25, [(.int .i16 aF0.fSteps), (.slice C_a aF0.fHammers.length C_c)]⟩, ⟨some b_2, 70, [(.int .i16 aC2.fAway), (.int .i16 aC2.fOctave), (.int .i16 aC2.fStep)]⟩, ⟨o_29, 110, row encGHammer t_3.fHammers sp_31⟩, ⟨o_35, 104, row encGNote t_4 sp_37⟩, ⟨o_42, 144, row encGChoice t_6.1 sp_44⟩, ⟨o_48, 110, row encGHammer t_16.2 sp_50⟩, ⟨some b_53, 34, [(.int .i16 t_7.fSteps), (.slice (o_48.map fun b => ⟨b, 0, none⟩) t_7.fHammers.length cap_49)]⟩, ⟨o_55, 104, row encGNote t_17.2 sp_57⟩, ⟨o_69, 144, row encGChoice t_20.2 sp_71⟩, ⟨o_103, 110, row encGHammer t_12.fHammers sp_105⟩, ⟨o_119, 104, row encGNote t_14 sp_121⟩] 15 (qd [⟨0, 0, 0⟩,⟨2, 0, 0⟩,⟨4, 1, 0⟩,⟨6, 0, 0⟩] 11 [0, 1, 2, 3, 4, 5, 6, 7, 8, 9, 10] ?_))))
           obtain ⟨t_22, ht_167, h⟩ := bd h
           refine tD 1 (pc 0 (fun w hm => laws_toFrame.calls aF0 w _ C_c (hm.xr C_h) rfl ht_167) ?_)
           rintro w v w' hm ⟨o_168, cap_169, sp_170, _, rfl, hs_171, ho_172, rfl, hm'⟩
           refine ⟨_, hm.app hm', kD [0, 1, 2, 3, 4, 5, 6, 7, 8, 9, 10] ?_⟩
           clear hm hm'
           obtain ⟨t_23, ht_173, h⟩ := bd h
           refine tD 3 (pc 0 (fun w hm => laws_toTune.calls aT1 w _ D_c (hm.xr D_h) rfl ht_173) ?_)
           rintro w v w' hm ⟨o_174, cap_175, sp_176, _, rfl, hs_177, ho_178, rfl, hm'⟩
           refine ⟨_, hm.app hm', kD [0, 1, 2, 3, 4, 5, 6, 7, 8, 9, 10] ?_⟩
           clear hm hm'
           obtain ⟨t_24, ht_179, h⟩ := bd h
           refine tD 5 (pc 0 (fun w hm => laws_toCosts.calls aC2 w _ ht_179) ?_)
           rintro w v w' hm ⟨rfl, hm'⟩
           refine ⟨_, hm.app hm', kD [0, 1, 2, 3, 4, 5, 6, 7, 8, 9, 10] ?_⟩
           clear hm hm'
           obtain ⟨t_25, ht_180, h⟩ := bd h
           refine tD 7 (pc 0 (fun w hm => impl_Arrange.calls t_22 t_23 t_24 aBudget3 w _ cap_169 (hm.ow 11 o_168 110 t_22.fHammers sp_170 (fun e => (ho_172 e).1) encGHammer_len) rfl cap_175 (hm.ow 12 o_174 104 t_23 sp_176 (fun e => (ho_178 e).1) encGNote_len) rfl ht_180) ?_)
           rintro w v w' hm ⟨o_181, cap_182, sp_183, _, rfl, hs_184, ho_185, rfl, hm'⟩
           refine ⟨_, hm.app hm', kD [0, 1, 2, 3, 4, 5, 6, 7, 8, 9, 10] ?_⟩
           clear hm hm'
           refine qd [⟨8, 0, 0⟩,⟨9, 0, 0⟩,⟨10, 0, 0⟩,⟨11, 0, 0⟩,⟨12, 0, 0⟩,⟨13, 0, 0⟩,⟨14, 0, 0⟩] 0 [0, 1, 2, 3, 4, 5, 6, 7, 8, 9, 10] (qz (jx_then (jc_seq (jc_seq (jc_region (qh [0,0] ?_))))))
           obtain ⟨t_26, ht_190, h⟩ := bd h
           refine tO (pc 0 (fun w hm => laws_eqChoiceS.calls t_25.1 t_6.1 w _ cap_182 (hm.ow 13 o_181 144 t_25.1 sp_183 (fun e => (ho_185 e).1) encGChoice_len) rfl cap_43 (hm.ow 4 o_42 144 t_6.1 sp_44 (fun e => (ho_46 e).1) encGChoice_len) rfl ht_190) ?_)
           rintro w v w' hm ⟨rfl, hm'⟩
           refine ⟨_, hm.app hm', jkO ?_⟩
           clear hm hm'
           refine qf [(0, 0), (0, 0), (0, 1), (0, 1), (0, 1), (0, 0), (0, 0), (0, 1), (0, 1), (0, 1), (0, 0)] (qe (jx_then (qi h (fun h => ?_) (fun h => ?_))))
           ·refine jc_seq (jc_region (qh [0] (qe (jx_then (jc_ret (jx_thenr ?_))))))
            obtain rfl := Option.some.inj h
            exact qr [] (fun w hm => ⟨rfl, hm.pk []⟩)
           ·refine jc_skip (jx_then (jc_seq (jc_region (qh [0] (qe (jx_then (jc_seq (jc_region (qh [0,0] ?_)))))))))
            obtain ⟨t_27, ht_192, h⟩ := bd h
            refine tO (pc 0 (fun w hm => laws_heldChoiceS.calls t_20.2 1 w _ cap_70 (hm.ow 8 o_69 144 t_20.2 sp_71 (fun e => (ho_142 e).1) encGChoice_len) hn_141 ht_192) ?_)
            rintro w v w' hm ⟨rfl, hm'⟩
            refine ⟨_, hm.app hm', jkO ?_⟩
            clear hm hm'
            refine qh [0] (qe (jx_then (jc_seq (jc_seq (jc_region (qh [0,0] (qe (jx_then (qi h (fun h => ?_) (fun h => ?_))))))))))
            ·refine jc_seq (jc_region (qh [0] (qe (jx_then (jc_ret (jx_thenr ?_))))))
             obtain rfl := Option.some.inj h
             exact qr [] (fun w hm => ⟨rfl, hm.pk []⟩)
            ·refine jc_skip (jx_then (jc_seq (jc_seq (jc_region (qh [0,0,0] (qe (jx_then (qi h (fun h => ?_) (fun h => ?_)))))))))
             ·refine jc_seq (jc_region (qh [0] (qe (jx_then (jc_ret (jx_thenr ?_))))))
              obtain rfl := Option.some.inj h
              exact qr [] (fun w hm => ⟨rfl, hm.pk []⟩)
             ·refine jc_skip (jx_then (jc_seq (jc_region (qh [0] (qe (jx_then (jc_ret ?_)))))))
              obtain rfl := Option.some.inj h
              exact qr [] (fun w hm => ⟨rfl, hm.pk []⟩)
end

end Go.Proofs.Yteedohcicmgkaaa
