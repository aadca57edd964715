/- Functions of the program that the laws reach: a plain function each, and that the call comes to its answer if the plain function has one. Printed by a program. -/
import Derived.Test.YtdnkjgmncfhejaaT
import Derived.Test.YtdnkjgmncfhejaaM9
namespace Go.Proofs.Ytdnkjgmncfhejaa
open Eng
set_option linter.unusedVariables false

/-! ### laws.markWornPinS -/
noncomputable def laws_markWornPinS.k_3 (xs_1 : List GWornPin) (i_2 : Int) : Option (Int × (List GWornPin)) := some (i_2, xs_1)
noncomputable def laws_markWornPinS.l_7 (a0 : List GWornPin) : ((List GWornPin) × Int × Int) → Option (((List GWornPin) × Int × Int) ⊕ (((List GWornPin) × Int)))
  | (xs_4, i_5, i_6) => (if (decide (i_6 < (a0.length : Int))) = true then (ix xs_4 i_6).bind fun x_9 => (ix (xs_4.set i_6.toNat (⟨(w8 i_5), x_9.fTrack, x_9.fTurns⟩ : GWornPin)) i_6).bind fun x_10 => (ix ((xs_4.set i_6.toNat (⟨(w8 i_5), x_9.fTrack, x_9.fTurns⟩ : GWornPin)).set i_6.toNat (⟨x_10.fStep, (w8 (w64 (i_5 + 1))), x_10.fTurns⟩ : GWornPin)) i_6).bind fun x_11 => some (.inl ((((xs_4.set i_6.toNat (⟨(w8 i_5), x_9.fTrack, x_9.fTurns⟩ : GWornPin)).set i_6.toNat (⟨x_10.fStep, (w8 (w64 (i_5 + 1))), x_10.fTurns⟩ : GWornPin)).set i_6.toNat (⟨x_11.fStep, x_11.fTrack, (w64 ((w64 (i_5 + 1)) + 1))⟩ : GWornPin)), (w64 ((w64 ((w64 (i_5 + 1)) + 1)) + 1)), (w64 (i_6 + 1)))) else some (.inr (xs_4, i_5)))
noncomputable def laws_markWornPinS (a0 : List GWornPin) (k1 : Int) : Option (Int × (List GWornPin)) := (loop (laws_markWornPinS.l_7 a0) (a0, k1, 0)).bind fun t_8 => laws_markWornPinS.k_3 t_8.1 t_8.2
set_option maxRecDepth 100000 in
theorem laws_markWornPinS.calls (a0 : List GWornPin) (k1 : Int) (w : World) (r : Int × (List GWornPin)) (a0_o : Option Nat) (a0_on : Nat) (a0_c : Nat) (a0_sp : List Value) (a0_hn : a0.length = a0_on) (a0_hs : a0_o ≠ none → a0_on ≤ a0_c ∧ a0_sp.length = (a0_c - a0_on) * 3) (a0_ho : a0_o = none → a0 = [] ∧ a0_c = 0) (hm0 : Mem w (bs [a0_o]) [⟨a0_o, 124, row encGWornPin a0 a0_sp⟩] w) (h : laws_markWornPinS a0 k1 = some r) :
    Calls Try.prog 63 #[(.slice (a0_o.map fun b => ⟨b, 0, none⟩) a0_on a0_c), (.int .i64 k1)] w fun e w' => ∃ v, e = .returned v ∧ (r.2.length = a0_on ∧ (a0_o = none → r.2 = [] ∧ a0_c = 0) ∧ v = (.int .i64 r.1) ∧ Mem w (bs [a0_o]) [⟨a0_o, 124, row encGWornPin r.2 a0_sp⟩] w') := by
  subst a0_hn
  rw [laws_markWornPinS] at h
  refine enter (args := [(.slice (a0_o.map fun b => ⟨b, 0, none⟩) a0.length a0_c), (.int .i64 k1)]) Try.func63 rfl Try.ntmps63 (by kernel_rfl) (L := [⟨a0_o, 124, row encGWornPin a0 a0_sp⟩]) (W := bs [a0_o]) hm0 ?_
  refine jc_seq ?_
  refine jc_region ?_
  refine jo_f [(0, 0)] (by kernel_rfl) ?_
  refine jo_end (by kernel_rfl) ?_
  refine jx_then ?_
  refine jc_seq ?_
  refine jc_seq ?_
  refine jc_region ?_
  refine jo_f [(0, 0)] (by kernel_rfl) ?_
  refine jo_end (by kernel_rfl) ?_
  refine jx_then ?_
  refine jc_meet (fun (j : (List GWornPin) × Int) => match j with | ⟨xs_1, i_2⟩ => laws_markWornPinS.k_3 xs_1 i_2 = some r ∧ (xs_1.length = a0.length) ∧ ((a0_o = none → xs_1 = [] ∧ a0_c = 0))) (fun (j : (List GWornPin) × Int) => match j with | ⟨xs_1, i_2⟩ => [(1, [], (.int .i64 i_2)), (4, [], (.int .i64 0))]) (fun (j : (List GWornPin) × Int) => match j with | ⟨xs_1, i_2⟩ => [⟨a0_o, 124, row encGWornPin xs_1 a0_sp⟩]) ?_ ?_
  · refine jc_block ?_
    obtain ⟨t_8, ht_96, hr_88⟩ := bd h
    refine jc_loop (fun (s : (List GWornPin) × Int × Int) (x : Unit) => match s, x with | ⟨xs_4, i_5, i_6⟩, _ => (xs_4.length = a0.length) ∧ ((a0_o = none → xs_4 = [] ∧ a0_c = 0))) (fun (s : (List GWornPin) × Int × Int) (x : Unit) => match s, x with | ⟨xs_4, i_5, i_6⟩, _ => [(0, [], (.slice (a0_o.map fun b => ⟨b, 0, none⟩) a0.length a0_c)), (1, [], (.int .i64 i_5)), (4, [], (.int .i64 0)), (5, [], (.int .i64 i_6))]) (fun (s : (List GWornPin) × Int × Int) (x : Unit) => match s, x with | ⟨xs_4, i_5, i_6⟩, _ => [⟨a0_o, 124, row encGWornPin xs_4 a0_sp⟩]) ht_96 () ⟨rfl, a0_ho⟩ (by kernel_rfl) [0] (by kernel_rfl) (by kernel_rfl) ?_
    rintro ⟨xs_4, i_5, i_6⟩ _ y_89 ⟨hn_87, ho_86⟩ h
    rw [laws_markWornPinS.l_7] at h
    refine jc_seq ?_
    refine jc_seq ?_
    refine jc_region ?_
    refine jo_f [(0, 0), (0, 0), (0, 0), (0, 0)] (by kernel_rfl) ?_
    refine jo_end (by kernel_rfl) ?_
    refine jx_then ?_
    refine jc_cond (decide (i_6 < (a0.length : Int))) (by kernel_rfl) (fun hc_91 => ?_) (fun hc_91 => ?_)
    · replace h := ifT hc_91 h
      refine jc_skip ?_
      refine jx_then ?_
      refine jc_seq ?_
      refine jc_block ?_
      refine jc_seq ?_
      refine jc_region ?_
      refine jo_f [(0, 0), (0, 0), (0, 0), (0, 0)] (by kernel_rfl) ?_
      obtain ⟨x_9, hx_92, h⟩ := bd h
      refine toO (by kernel_rfl) (p_idx 0 (a0_o.map fun b => ⟨b, 0, none⟩) a0.length i_6 3 (by kernel_rfl) (by kernel_rfl) (ix_some hx_92).1 (ltn hx_92 hn_87) (spo ho_86 hx_92) (jkO ?_))
      refine jo_f [(0, 0)] (by kernel_rfl) ?_
      refine toO (by kernel_rfl) (p_strO 0 0 a0_o 124 encGWornPin xs_4 a0_sp i_6 (⟨(w8 i_5), x_9.fTrack, x_9.fTurns⟩ : GWornPin) 3 0 [(.int .i8 (w8 i_5))] (by kernel_rfl) (by kernel_rfl) (by kernel_rfl) (fun e => (ho_86 e).1) encGWornPin_len hx_92 (by kernel_rfl) (by kernel_rfl) (jkO ?_))
      refine jo_end (by kernel_rfl) ?_
      refine jx_then ?_
      refine jc_seq ?_
      refine jc_region ?_
      refine jo_f [(0, 0), (0, 0), (0, 0)] (by kernel_rfl) ?_
      refine jo_end (by kernel_rfl) ?_
      refine jx_then ?_
      refine jc_seq ?_
      refine jc_region ?_
      refine jo_f [(0, 0), (0, 0), (0, 0), (0, 0)] (by kernel_rfl) ?_
      obtain ⟨x_10, hx_93, h⟩ := bd h
      refine toO (by kernel_rfl) (p_idx 0 (a0_o.map fun b => ⟨b, 0, none⟩) a0.length i_6 3 (by kernel_rfl) (by kernel_rfl) (ix_some hx_93).1 (ltn hx_93 (List.length_set.trans hn_87)) (spo (set_ho ho_86) hx_93) (jkO ?_))
      refine jo_f [(0, 0)] (by kernel_rfl) ?_
      refine toO (by kernel_rfl) (p_strO 0 0 a0_o 124 encGWornPin (xs_4.set i_6.toNat (⟨(w8 i_5), x_9.fTrack, x_9.fTurns⟩ : GWornPin)) a0_sp i_6 (⟨x_10.fStep, (w8 (w64 (i_5 + 1))), x_10.fTurns⟩ : GWornPin) 3 1 [(.int .i8 (w8 (w64 (i_5 + 1))))] (by kernel_rfl) (by kernel_rfl) (by kernel_rfl) (fun e => ((set_ho ho_86) e).1) encGWornPin_len hx_93 (by kernel_rfl) (by kernel_rfl) (jkO ?_))
      refine jo_end (by kernel_rfl) ?_
      refine jx_then ?_
      refine jc_seq ?_
      refine jc_region ?_
      refine jo_f [(0, 0), (0, 0), (0, 0)] (by kernel_rfl) ?_
      refine jo_end (by kernel_rfl) ?_
      refine jx_then ?_
      refine jc_seq ?_
      refine jc_region ?_
      refine jo_f [(0, 0), (0, 0), (0, 0)] (by kernel_rfl) ?_
      obtain ⟨x_11, hx_94, h⟩ := bd h
      refine toO (by kernel_rfl) (p_idx 0 (a0_o.map fun b => ⟨b, 0, none⟩) a0.length i_6 3 (by kernel_rfl) (by kernel_rfl) (ix_some hx_94).1 (ltn hx_94 (List.length_set.trans (List.length_set.trans hn_87))) (spo (set_ho (set_ho ho_86)) hx_94) (jkO ?_))
      refine jo_f [(0, 0)] (by kernel_rfl) ?_
      refine toO (by kernel_rfl) (p_strO 0 0 a0_o 124 encGWornPin ((xs_4.set i_6.toNat (⟨(w8 i_5), x_9.fTrack, x_9.fTurns⟩ : GWornPin)).set i_6.toNat (⟨x_10.fStep, (w8 (w64 (i_5 + 1))), x_10.fTurns⟩ : GWornPin)) a0_sp i_6 (⟨x_11.fStep, x_11.fTrack, (w64 ((w64 (i_5 + 1)) + 1))⟩ : GWornPin) 3 2 [(.int .i64 (w64 ((w64 (i_5 + 1)) + 1)))] (by kernel_rfl) (by kernel_rfl) (by kernel_rfl) (fun e => ((set_ho (set_ho ho_86)) e).1) encGWornPin_len hx_94 (by kernel_rfl) (by kernel_rfl) (jkO ?_))
      refine jo_end (by kernel_rfl) ?_
      refine jx_then ?_
      refine jc_region ?_
      refine jo_f [(0, 0), (0, 0), (0, 0)] (by kernel_rfl) ?_
      refine jo_end (by kernel_rfl) ?_
      refine jx_inn ?_
      refine jx_then ?_
      refine jc_region ?_
      refine jo_f [(0, 0), (0, 0), (0, 0)] (by kernel_rfl) ?_
      refine jo_end (by kernel_rfl) ?_
      exact jx_back ((((xs_4.set i_6.toNat (⟨(w8 i_5), x_9.fTrack, x_9.fTurns⟩ : GWornPin)).set i_6.toNat (⟨x_10.fStep, (w8 (w64 (i_5 + 1))), x_10.fTurns⟩ : GWornPin)).set i_6.toNat (⟨x_11.fStep, x_11.fTrack, (w64 ((w64 (i_5 + 1)) + 1))⟩ : GWornPin)), (w64 ((w64 ((w64 (i_5 + 1)) + 1)) + 1)), (w64 (i_6 + 1))) () (Option.some.inj h).symm ⟨(List.length_set.trans (List.length_set.trans (List.length_set.trans hn_87))), (set_ho (set_ho (set_ho ho_86)))⟩ [0] (by kernel_rfl) (by kernel_rfl) (by kernel_rfl)
    · replace h := ifF hc_91 h
      refine jc_exit ?_
      refine jx_thenx ?_
      refine jx_leave (xs_4, i_5) (Option.some.inj h).symm (fun e_95 => ?_)
      subst e_95
      refine jx_ine ?_
      exact jx_meet ⟨xs_4, i_5⟩ ⟨hr_88, hn_87, ho_86⟩ (by kernel_rfl) [0] (by kernel_rfl) (by kernel_rfl)
  · rintro ⟨xs_1, i_2⟩ ⟨h, hn_73, ho_72⟩
    replace h : laws_markWornPinS.k_3 xs_1 i_2 = some r := h
    rw [laws_markWornPinS.k_3] at h
    refine jx_then ?_
    refine jc_seq ?_
    refine jc_region ?_
    refine jo_f [(0, 0), (0, 0)] (by kernel_rfl) ?_
    refine jo_end (by kernel_rfl) ?_
    refine jx_then ?_
    refine jc_ret ?_
    obtain rfl := Option.some.inj h
    exact jx_ret [] (.int .i64 i_2) [] rfl (by kernel_rfl) (by kernel_rfl) (fun w hm => ⟨hn_73, ho_72, rfl, hm.pick [0] (by kernel_rfl) (by kernel_rfl)⟩)

/-! ### laws.markWear -/
noncomputable def laws_markWear (a0 : GWear) (k1 : Int) : Option (Int × (List GWornPin) × (List Int)) := (laws_markWornPinS a0.fPins k1).bind fun t_1 => (laws_markInt64S a0.fStrokes t_1.1).bind fun t_2 => some (t_2.1, t_1.2, t_2.2)
set_option maxRecDepth 100000 in
theorem laws_markWear.calls (a0 : GWear) (k1 : Int) (w : World) (r : Int × (List GWornPin) × (List Int)) (a0_fPins_o : Option Nat) (a0_fPins_on : Nat) (a0_fPins_c : Nat) (a0_fPins_sp : List Value) (a0_fPins_hn : a0.fPins.length = a0_fPins_on) (a0_fPins_hs : a0_fPins_o ≠ none → a0_fPins_on ≤ a0_fPins_c ∧ a0_fPins_sp.length = (a0_fPins_c - a0_fPins_on) * 3) (a0_fPins_ho : a0_fPins_o = none → a0.fPins = [] ∧ a0_fPins_c = 0) (a0_fStrokes_o : Option Nat) (a0_fStrokes_on : Nat) (a0_fStrokes_c : Nat) (a0_fStrokes_sp : List Value) (a0_fStrokes_hn : a0.fStrokes.length = a0_fStrokes_on) (a0_fStrokes_hs : a0_fStrokes_o ≠ none → a0_fStrokes_on ≤ a0_fStrokes_c ∧ a0_fStrokes_sp.length = (a0_fStrokes_c - a0_fStrokes_on) * 1) (a0_fStrokes_ho : a0_fStrokes_o = none → a0.fStrokes = [] ∧ a0_fStrokes_c = 0) (hm0 : Mem w (bs [a0_fPins_o, a0_fStrokes_o]) [⟨a0_fPins_o, 124, row encGWornPin a0.fPins a0_fPins_sp⟩, ⟨a0_fStrokes_o, 2, row encI64 a0.fStrokes a0_fStrokes_sp⟩] w) (h : laws_markWear a0 k1 = some r) :
    Calls Try.prog 37 #[(.agg #[(.slice (a0_fPins_o.map fun b => ⟨b, 0, none⟩) a0_fPins_on a0_fPins_c), (.slice (a0_fStrokes_o.map fun b => ⟨b, 0, none⟩) a0_fStrokes_on a0_fStrokes_c)]), (.int .i64 k1)] w fun e w' => ∃ v, e = .returned v ∧ (r.2.1.length = a0_fPins_on ∧ (a0_fPins_o = none → r.2.1 = [] ∧ a0_fPins_c = 0) ∧ r.2.2.length = a0_fStrokes_on ∧ (a0_fStrokes_o = none → r.2.2 = [] ∧ a0_fStrokes_c = 0) ∧ v = (.int .i64 r.1) ∧ Mem w (bs [a0_fPins_o, a0_fStrokes_o]) [⟨a0_fPins_o, 124, row encGWornPin r.2.1 a0_fPins_sp⟩, ⟨a0_fStrokes_o, 2, row encI64 r.2.2 a0_fStrokes_sp⟩] w') := by
  subst a0_fPins_hn a0_fStrokes_hn
  rw [laws_markWear] at h
  refine enter (args := [(.agg #[(.slice (a0_fPins_o.map fun b => ⟨b, 0, none⟩) a0.fPins.length a0_fPins_c), (.slice (a0_fStrokes_o.map fun b => ⟨b, 0, none⟩) a0.fStrokes.length a0_fStrokes_c)]), (.int .i64 k1)]) Try.func37 rfl Try.ntmps37 (by kernel_rfl) (L := [⟨a0_fPins_o, 124, row encGWornPin a0.fPins a0_fPins_sp⟩, ⟨a0_fStrokes_o, 2, row encI64 a0.fStrokes a0_fStrokes_sp⟩]) (W := bs [a0_fPins_o, a0_fStrokes_o]) hm0 ?_
  refine jc_seq ?_
  refine jc_region ?_
  refine toO (by kernel_rfl) (p_a 0 [0] (by kernel_rfl) (fun b => by kernel_rfl) (fun b_1 => jkO ?_))
  refine jo_f [(0, 0)] (by kernel_rfl) ?_
  refine jo_end (by kernel_rfl) ?_
  refine jx_then ?_
  refine jc_seq ?_
  refine jc_region ?_
  refine jo_f [(0, 0), (2, 0), (0, 0)] (by kernel_rfl) ?_
  obtain ⟨t_1, ht_2, h⟩ := bd h
  refine toO (by kernel_rfl) (p_call 0 63 #[(.slice (a0_fPins_o.map fun b => ⟨b, 0, none⟩) a0.fPins.length a0_fPins_c), (.int .i64 k1)] (by kernel_rfl) (by kernel_rfl) (fun w hm => laws_markWornPinS.calls a0.fPins k1 w _ a0_fPins_o a0.fPins.length a0_fPins_c a0_fPins_sp rfl a0_fPins_hs a0_fPins_ho (hm.pass (N := [⟨a0_fPins_o, 124, row encGWornPin a0.fPins a0_fPins_sp⟩]) [0] (by kernel_rfl) (by kernel_rfl)) ht_2) ?_)
  rintro w v w' hm ⟨hn_3, ho_4, rfl, hm'⟩
  refine ⟨_, hm.appW (ps := [(0, ⟨a0_fPins_o, 124, row encGWornPin t_1.2 a0_fPins_sp⟩)]) (N := []) hm' (by kernel_rfl) (by kernel_rfl), jkO ?_⟩
  clear hm hm'
  refine jo_f [(0, 0)] (by kernel_rfl) ?_
  refine jo_end (by kernel_rfl) ?_
  refine jx_then ?_
  refine jc_seq ?_
  refine jc_region ?_
  refine jo_f [(0, 0), (2, 0), (0, 0)] (by kernel_rfl) ?_
  obtain ⟨t_2, ht_5, h⟩ := bd h
  refine toO (by kernel_rfl) (p_call 0 53 #[(.slice (a0_fStrokes_o.map fun b => ⟨b, 0, none⟩) a0.fStrokes.length a0_fStrokes_c), (.int .i64 t_1.1)] (by kernel_rfl) (by kernel_rfl) (fun w hm => laws_markInt64S.calls a0.fStrokes t_1.1 w _ a0_fStrokes_o a0.fStrokes.length a0_fStrokes_c a0_fStrokes_sp rfl a0_fStrokes_hs a0_fStrokes_ho (hm.pass (N := [⟨a0_fStrokes_o, 2, row encI64 a0.fStrokes a0_fStrokes_sp⟩]) [1] (by kernel_rfl) (by kernel_rfl)) ht_5) ?_)
  rintro w v w' hm ⟨hn_6, ho_7, rfl, hm'⟩
  refine ⟨_, hm.appW (ps := [(1, ⟨a0_fStrokes_o, 2, row encI64 t_2.2 a0_fStrokes_sp⟩)]) (N := []) hm' (by kernel_rfl) (by kernel_rfl), jkO ?_⟩
  clear hm hm'
  refine jo_f [(0, 0)] (by kernel_rfl) ?_
  refine jo_end (by kernel_rfl) ?_
  refine jx_then ?_
  refine jc_seq ?_
  refine jc_region ?_
  refine jo_f [(0, 0), (0, 0)] (by kernel_rfl) ?_
  refine jo_end (by kernel_rfl) ?_
  refine jx_then ?_
  refine jc_ret ?_
  obtain rfl := Option.some.inj h
  exact jx_ret [] (.int .i64 t_2.1) [] rfl (by kernel_rfl) (by kernel_rfl) (fun w hm => ⟨hn_3, ho_4, hn_6, ho_7, rfl, hm.pick [0, 1] (by kernel_rfl) (by kernel_rfl)⟩)

/-! ### laws.heldWornPinS -/
noncomputable def laws_heldWornPinS.k_2 (i_1 : Int) : Option (Int) := some i_1
noncomputable def laws_heldWornPinS.l_5 (a0 : List GWornPin) : (Int × Int) → Option ((Int × Int) ⊕ (Int ⊕ Int))
  | (i_3, i_4) => (if (decide (i_4 < (a0.length : Int))) = true then (ix a0 i_4).bind fun x_7 => (if (x_7.fStep != (w8 i_3)) = true then some (.inr (.inl (-1))) else (ix a0 i_4).bind fun x_8 => (if (x_8.fTrack != (w8 (w64 (i_3 + 1)))) = true then some (.inr (.inl (-1))) else (ix a0 i_4).bind fun x_9 => (if (x_9.fTurns != (w64 ((w64 (i_3 + 1)) + 1))) = true then some (.inr (.inl (-1))) else some (.inl ((w64 ((w64 ((w64 (i_3 + 1)) + 1)) + 1)), (w64 (i_4 + 1))))))) else some (.inr (.inr i_3)))
noncomputable def laws_heldWornPinS (a0 : List GWornPin) (k1 : Int) : Option (Int) := (loop (laws_heldWornPinS.l_5 a0) (k1, 0)).bind fun t_6 => match t_6 with | .inl p => some p | .inr p => laws_heldWornPinS.k_2 p
set_option maxRecDepth 100000 in
theorem laws_heldWornPinS.calls (a0 : List GWornPin) (k1 : Int) (w : World) (r : Int) (a0_a : Option Addr) (a0_an : Nat) (a0_c : Nat) (a0_h : Rw w a0_a 3 encGWornPin a0) (a0_hn : a0.length = a0_an) (h : laws_heldWornPinS a0 k1 = some r) :
    Calls Try.prog 64 #[(.slice a0_a a0_an a0_c), (.int .i64 k1)] w fun e w' => ∃ v, e = .returned v ∧ (v = (.int .i64 r) ∧ Mem w [] [] w') := by
  subst a0_hn
  rw [laws_heldWornPinS] at h
  refine enter (args := [(.slice a0_a a0.length a0_c), (.int .i64 k1)]) Try.func64 rfl Try.ntmps64 (by kernel_rfl) (L := []) (W := []) (Mem.start w) ?_
  refine jc_seq ?_
  refine jc_region ?_
  refine jo_f [(0, 0)] (by kernel_rfl) ?_
  refine jo_end (by kernel_rfl) ?_
  refine jx_then ?_
  refine jc_seq ?_
  refine jc_seq ?_
  refine jc_region ?_
  refine jo_f [(0, 0)] (by kernel_rfl) ?_
  refine jo_end (by kernel_rfl) ?_
  refine jx_then ?_
  refine jc_meet (fun (j : Int) => match j with | i_1 => laws_heldWornPinS.k_2 i_1 = some r) (fun (j : Int) => match j with | i_1 => [(1, [], (.int .i64 i_1)), (4, [], (.int .i64 0))]) (fun (j : Int) => match j with | i_1 => []) ?_ ?_
  · refine jc_block ?_
    obtain ⟨t_6, ht_172, hr_154⟩ := bd h
    refine jc_loop (fun (s : Int × Int) (x : Unit) => match s, x with | ⟨i_3, i_4⟩, _ => True) (fun (s : Int × Int) (x : Unit) => match s, x with | ⟨i_3, i_4⟩, _ => [(0, [], (.slice a0_a a0.length a0_c)), (1, [], (.int .i64 i_3)), (4, [], (.int .i64 0)), (5, [], (.int .i64 i_4))]) (fun (s : Int × Int) (x : Unit) => match s, x with | ⟨i_3, i_4⟩, _ => []) ht_172 () trivial (by kernel_rfl) [] (by kernel_rfl) (by kernel_rfl) ?_
    rintro ⟨i_3, i_4⟩ _ y_155 _ h
    rw [laws_heldWornPinS.l_5] at h
    refine jc_seq ?_
    refine jc_seq ?_
    refine jc_region ?_
    refine jo_f [(0, 0), (0, 0), (0, 0), (0, 0)] (by kernel_rfl) ?_
    refine jo_end (by kernel_rfl) ?_
    refine jx_then ?_
    refine jc_cond (decide (i_4 < (a0.length : Int))) (by kernel_rfl) (fun hc_157 => ?_) (fun hc_157 => ?_)
    · replace h := ifT hc_157 h
      refine jc_skip ?_
      refine jx_then ?_
      refine jc_seq ?_
      refine jc_block ?_
      refine jc_seq ?_
      refine jc_seq ?_
      refine jc_region ?_
      refine jo_f [(0, 0), (0, 0)] (by kernel_rfl) ?_
      obtain ⟨x_7, hx_160, h⟩ := bd h
      refine toO (by kernel_rfl) (p_idx 0 a0_a a0.length i_4 3 (by kernel_rfl) (by kernel_rfl) (ix_some hx_160).1 (ltn hx_160 rfl) (a0_h.sp hx_160) (jkO ?_))
      refine jo_f [(0, 0)] (by kernel_rfl) ?_
      refine toO (by kernel_rfl) (p_ld 0 (aB a0_a) (aO a0_a + i_4.toNat * 3) false (((encGWornPin x_7).drop 0).take 1) (by kernel_rfl) (by kernel_rfl) (by kernel_rfl) (fun w hm => (((hm.exRow a0_h List.not_mem_nil).at hx_160).sub 0 1)) (jkO ?_))
      refine jo_f [(0, 0), (0, 0), (0, 0)] (by kernel_rfl) ?_
      refine jo_end (by kernel_rfl) ?_
      refine jx_then ?_
      refine jc_cond (x_7.fStep != (w8 i_3)) (by kernel_rfl) (fun hc_161 => ?_) (fun hc_161 => ?_)
      · replace h := ifT hc_161 h
        refine jc_seq ?_
        refine jc_region ?_
        refine jo_f [(0, 0)] (by kernel_rfl) ?_
        refine jo_end (by kernel_rfl) ?_
        refine jx_then ?_
        refine jc_ret ?_
        refine jx_thenr ?_
        refine jx_inr ?_
        refine jx_thenr ?_
        refine jx_leaver (.inl (-1)) (Option.some.inj h).symm (fun e_162 => ?_)
        subst e_162
        refine jx_inr ?_
        refine jx_thenr ?_
        refine jx_thenr ?_
        obtain rfl := Option.some.inj hr_154
        exact jx_ret [] (.int .i64 (-1)) [] rfl (by kernel_rfl) (by kernel_rfl) (fun w hm => ⟨rfl, hm.pick [] (by kernel_rfl) (by kernel_rfl)⟩)
      · replace h := ifF hc_161 h
        refine jc_skip ?_
        refine jx_then ?_
        refine jc_seq ?_
        refine jc_region ?_
        refine jo_f [(0, 0), (0, 0), (0, 0)] (by kernel_rfl) ?_
        refine jo_end (by kernel_rfl) ?_
        refine jx_then ?_
        refine jc_seq ?_
        refine jc_seq ?_
        refine jc_region ?_
        refine jo_f [(0, 0), (0, 0)] (by kernel_rfl) ?_
        obtain ⟨x_8, hx_165, h⟩ := bd h
        refine toO (by kernel_rfl) (p_idx 0 a0_a a0.length i_4 3 (by kernel_rfl) (by kernel_rfl) (ix_some hx_165).1 (ltn hx_165 rfl) (a0_h.sp hx_165) (jkO ?_))
        refine jo_f [(0, 0)] (by kernel_rfl) ?_
        refine toO (by kernel_rfl) (p_ld 0 (aB a0_a) (aO a0_a + i_4.toNat * 3 + 1) false (((encGWornPin x_8).drop 1).take 1) (by kernel_rfl) (by kernel_rfl) (by kernel_rfl) (fun w hm => (((hm.exRow a0_h List.not_mem_nil).at hx_165).sub 1 1)) (jkO ?_))
        refine jo_f [(0, 0), (0, 0), (0, 0)] (by kernel_rfl) ?_
        refine jo_end (by kernel_rfl) ?_
        refine jx_then ?_
        refine jc_cond (x_8.fTrack != (w8 (w64 (i_3 + 1)))) (by kernel_rfl) (fun hc_166 => ?_) (fun hc_166 => ?_)
        · replace h := ifT hc_166 h
          refine jc_seq ?_
          refine jc_region ?_
          refine jo_f [(0, 0)] (by kernel_rfl) ?_
          refine jo_end (by kernel_rfl) ?_
          refine jx_then ?_
          refine jc_ret ?_
          refine jx_thenr ?_
          refine jx_inr ?_
          refine jx_thenr ?_
          refine jx_leaver (.inl (-1)) (Option.some.inj h).symm (fun e_167 => ?_)
          subst e_167
          refine jx_inr ?_
          refine jx_thenr ?_
          refine jx_thenr ?_
          obtain rfl := Option.some.inj hr_154
          exact jx_ret [] (.int .i64 (-1)) [] rfl (by kernel_rfl) (by kernel_rfl) (fun w hm => ⟨rfl, hm.pick [] (by kernel_rfl) (by kernel_rfl)⟩)
        · replace h := ifF hc_166 h
          refine jc_skip ?_
          refine jx_then ?_
          refine jc_seq ?_
          refine jc_region ?_
          refine jo_f [(0, 0), (0, 0), (0, 0)] (by kernel_rfl) ?_
          refine jo_end (by kernel_rfl) ?_
          refine jx_then ?_
          refine jc_seq ?_
          refine jc_seq ?_
          refine jc_region ?_
          refine jo_f [(0, 0), (0, 0)] (by kernel_rfl) ?_
          obtain ⟨x_9, hx_168, h⟩ := bd h
          refine toO (by kernel_rfl) (p_idx 0 a0_a a0.length i_4 3 (by kernel_rfl) (by kernel_rfl) (ix_some hx_168).1 (ltn hx_168 rfl) (a0_h.sp hx_168) (jkO ?_))
          refine jo_f [(0, 0)] (by kernel_rfl) ?_
          refine toO (by kernel_rfl) (p_ld 0 (aB a0_a) (aO a0_a + i_4.toNat * 3 + 2) false (((encGWornPin x_9).drop 2).take 1) (by kernel_rfl) (by kernel_rfl) (by kernel_rfl) (fun w hm => (((hm.exRow a0_h List.not_mem_nil).at hx_168).sub 2 1)) (jkO ?_))
          refine jo_f [(0, 0), (0, 0)] (by kernel_rfl) ?_
          refine jo_end (by kernel_rfl) ?_
          refine jx_then ?_
          refine jc_cond (x_9.fTurns != (w64 ((w64 (i_3 + 1)) + 1))) (by kernel_rfl) (fun hc_169 => ?_) (fun hc_169 => ?_)
          · replace h := ifT hc_169 h
            refine jc_seq ?_
            refine jc_region ?_
            refine jo_f [(0, 0)] (by kernel_rfl) ?_
            refine jo_end (by kernel_rfl) ?_
            refine jx_then ?_
            refine jc_ret ?_
            refine jx_thenr ?_
            refine jx_inr ?_
            refine jx_thenr ?_
            refine jx_leaver (.inl (-1)) (Option.some.inj h).symm (fun e_170 => ?_)
            subst e_170
            refine jx_inr ?_
            refine jx_thenr ?_
            refine jx_thenr ?_
            obtain rfl := Option.some.inj hr_154
            exact jx_ret [] (.int .i64 (-1)) [] rfl (by kernel_rfl) (by kernel_rfl) (fun w hm => ⟨rfl, hm.pick [] (by kernel_rfl) (by kernel_rfl)⟩)
          · replace h := ifF hc_169 h
            refine jc_skip ?_
            refine jx_then ?_
            refine jc_region ?_
            refine jo_f [(0, 0), (0, 0), (0, 0)] (by kernel_rfl) ?_
            refine jo_end (by kernel_rfl) ?_
            refine jx_inn ?_
            refine jx_then ?_
            refine jc_region ?_
            refine jo_f [(0, 0), (0, 0), (0, 0)] (by kernel_rfl) ?_
            refine jo_end (by kernel_rfl) ?_
            exact jx_back ((w64 ((w64 ((w64 (i_3 + 1)) + 1)) + 1)), (w64 (i_4 + 1))) () (Option.some.inj h).symm trivial [] (by kernel_rfl) (by kernel_rfl) (by kernel_rfl)
    · replace h := ifF hc_157 h
      refine jc_exit ?_
      refine jx_thenx ?_
      refine jx_leave (.inr i_3) (Option.some.inj h).symm (fun e_171 => ?_)
      subst e_171
      refine jx_ine ?_
      exact jx_meet i_3 hr_154 (by kernel_rfl) [] (by kernel_rfl) (by kernel_rfl)
  · rintro i_1 h
    replace h : laws_heldWornPinS.k_2 i_1 = some r := h
    rw [laws_heldWornPinS.k_2] at h
    refine jx_then ?_
    refine jc_seq ?_
    refine jc_region ?_
    refine jo_f [(0, 0), (0, 0)] (by kernel_rfl) ?_
    refine jo_end (by kernel_rfl) ?_
    refine jx_then ?_
    refine jc_ret ?_
    obtain rfl := Option.some.inj h
    exact jx_ret [] (.int .i64 i_1) [] rfl (by kernel_rfl) (by kernel_rfl) (fun w hm => ⟨rfl, hm.pick [] (by kernel_rfl) (by kernel_rfl)⟩)
end Go.Proofs.Ytdnkjgmncfhejaa
