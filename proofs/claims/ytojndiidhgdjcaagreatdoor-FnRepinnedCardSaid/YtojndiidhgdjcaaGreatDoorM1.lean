/- Functions of the program that the laws reach: a plain function each, and that the call comes to its answer if the plain function has one. Printed by a program. -/
import Derived.Test.YtojndiidhgdjcaaGreatDoorT
import Derived.Test.YtojndiidhgdjcaaGreatDoorSeg
import Derived.Test.YtojndiidhgdjcaaGreatDoorSort
import Derived.Test.YtojndiidhgdjcaaGreatDoorGrow
import Derived.Test.YtojndiidhgdjcaaGreatDoorM0
namespace Go.Proofs.YtojndiidhgdjcaaGreatDoor
open Eng
set_option linter.unusedVariables false

set_option linter.unusedSectionVars false
set_option maxRecDepth 100000
variable [dsW : DrwS]
noncomputable section
/-! ### spec.l03Whole -/
def spec_l03Whole.k_2 (f0 : GFrame) (t1 : List GNote) (q_1 : Bool) : Option (Int) := (if q_1 = true then some 1 else (spec_l01Length t1).bind fun t_3 => (if (decide (t_3 > (w64 f0.fSteps))) = true then some 2 else some 0))
def spec_l03Whole (f0 : GFrame) (t1 : List GNote) (d2 : Arr 96 Int) : Option (Int) := (spec_l02Frame f0).bind fun t_4 => (if (!t_4) = true then spec_l03Whole.k_2 f0 t1 true else (spec_l01Ok t1).bind fun t_5 => (if (!t_5) = true then spec_l03Whole.k_2 f0 t1 true else (spec_l02Drum f0 d2).bind fun t_6 => spec_l03Whole.k_2 f0 t1 (!t_6)))
theorem spec_l03Whole.calls (f0 : GFrame) (t1 : List GNote) (d2 : Arr 96 Int) (w : World) (r : Int) {C_a : Option Addr} {C_an : Nat} (C_c : Nat) (C_h : Rw w C_a 2 encGHammer f0.fHammers) (C_hn : f0.fHammers.length = C_an) {D_a : Option Addr} {D_an : Nat} (D_c : Nat) (D_h : Rw w D_a 2 encGNote t1) (D_hn : t1.length = D_an) {E_b E_q : Nat} (E_h : Rw w (some ⟨E_b, E_q, none⟩) 1 encU32 d2.1) (A_b : Nat) (hm0 : Mem w (bs [some A_b]) [⟨some A_b, 27, [(.int .i16 f0.fSteps), (.slice C_a C_an C_c)]⟩] w) (C_ha : f0.fHammers ≠ [] → aB C_a ∉ bs [some A_b]) (D_ha : t1 ≠ [] → aB D_a ∉ bs [some A_b]) (E_ha : d2.1 ≠ [] → aB (some ⟨E_b, E_q, none⟩) ∉ bs [some A_b]) (h : spec_l03Whole f0 t1 d2 = some r) :
    Calls Tryz.prog 35 #[(.pointer (some ⟨A_b, 0, none⟩)), (.slice D_a D_an D_c), (.pointer (some ⟨E_b, E_q, none⟩))] w fun e w' => ∃ v, e = .returned v ∧ (v = (.int .i64 r) ∧ Mem w (bs [some A_b]) [⟨some A_b, 27, [(.int .i16 f0.fSteps), (.slice C_a C_an C_c)]⟩] w') := by
  subst C_hn D_hn
  rw [spec_l03Whole] at h
  refine enter (args := [(.pointer (some ⟨A_b, 0, none⟩)), (.slice D_a t1.length D_c), (.pointer (some ⟨E_b, E_q, none⟩))]) Tryz.func35 rfl Tryz.ntmps35 (by kernel_rfl) (L := [⟨some A_b, 27, [(.int .i16 f0.fSteps), (.slice C_a f0.fHammers.length C_c)]⟩]) (W := bs [some A_b]) hm0 ?_
  refine jc_seq (jc_region (qh [0] (qe (jx_then (jc_seq (jc_seq (jc_meet (fun (j : Bool) => match j with | q_1 => spec_l03Whole.k_2 f0 t1 q_1 = some r) (fun (j : Bool) => match j with | q_1 => [(0, [], (.pointer (some ⟨A_b, 0, none⟩))), (1, [], (.slice D_a t1.length D_c)), (6, [], (.int .i64 0)), (20, [], (.bool q_1))]) (fun (j : Bool) => match j with | q_1 => [⟨some A_b, 27, [(.int .i16 f0.fSteps), (.slice C_a f0.fHammers.length C_c)]⟩]) ?_ ?_)))))))
  ·refine jc_region (qh [0] ?_)
   obtain ⟨t_4, ht_20, h⟩ := bd h
   refine tO (pc 0 (fun w hm => spec_l02Frame.calls f0 w _ C_c (hm.exRowW C_h C_ha) rfl A_b (hm.pass (N := [⟨some A_b, 27, [(.int .i16 f0.fSteps), (.slice C_a f0.fHammers.length C_c)]⟩]) [0] (by kernel_rfl) (by kernel_rfl)) (hm.exApart (N := [⟨some A_b, 27, [(.int .i16 f0.fSteps), (.slice C_a f0.fHammers.length C_c)]⟩]) C_h C_ha [0] (by kernel_rfl)) ht_20) ?_)
   rintro w v w' hm ⟨rfl, hm'⟩
   refine ⟨_, hm.appW (ps := [(0, ⟨some A_b, 27, [(.int .i16 f0.fSteps), (.slice C_a f0.fHammers.length C_c)]⟩)]) (N := []) hm' (by kernel_rfl) (by kernel_rfl), jkO ?_⟩
   clear hm hm'
   refine qf [(0, 0), (0, 0), (0, 1)] (qp 10 h (fun h => ?_) (fun h => ?_))
   ·exact qf [(0, 3), (0, 3), (0, 4), (0, 0), (0, 3), (0, 3), (0, 3), (0, 3), (0, 4)] (qe (qm true h [0]))
   ·obtain ⟨t_5, ht_22, h⟩ := bd h
    refine tO (pc 2 (fun w hm => spec_l01Ok.calls t1 w _ D_c (hm.exRowW D_h D_ha) rfl ht_22) ?_)
    rintro w v w' hm ⟨rfl, hm'⟩
    refine ⟨_, hm.app hm', jkO ?_⟩
    clear hm hm'
    refine qf [(0, 2), (0, 5), (0, 0), (0, 1), (0, 1)] (qp 15 h (fun h => ?_) (fun h => ?_))
    ·exact qf [(0, 3), (0, 3), (0, 4)] (qe (qm true h [0]))
    ·obtain ⟨t_6, ht_24, h⟩ := bd h
     refine tO (pc 2 (fun w hm => spec_l02Drum.calls f0 d2 w _ C_c (hm.exRowW C_h C_ha) rfl (hm.exRowW E_h E_ha) A_b (hm.pass (N := [⟨some A_b, 27, [(.int .i16 f0.fSteps), (.slice C_a f0.fHammers.length C_c)]⟩]) [0] (by kernel_rfl) (by kernel_rfl)) (hm.exApart (N := [⟨some A_b, 27, [(.int .i16 f0.fSteps), (.slice C_a f0.fHammers.length C_c)]⟩]) C_h C_ha [0] (by kernel_rfl)) (hm.exApart (N := [⟨some A_b, 27, [(.int .i16 f0.fSteps), (.slice C_a f0.fHammers.length C_c)]⟩]) E_h E_ha [0] (by kernel_rfl)) ht_24) ?_)
     rintro w v w' hm ⟨rfl, hm'⟩
     refine ⟨_, hm.appW (ps := [(0, ⟨some A_b, 27, [(.int .i16 f0.fSteps), (.slice C_a f0.fHammers.length C_c)]⟩)]) (N := []) hm' (by kernel_rfl) (by kernel_rfl), jkO ?_⟩
     clear hm hm'
     exact qf [(0, 2), (0, 5)] (qe (qm (!t_6) h [0]))
  ·rintro q_1 h
   replace h : spec_l03Whole.k_2 f0 t1 q_1 = some r := h
   rw [spec_l03Whole.k_2] at h
   refine jx_then (qi h (fun h => ?_) (fun h => ?_))
   ·refine jc_seq (jc_region (qh [0] (qe (jx_then (jc_ret (jx_thenr ?_))))))
    obtain rfl := Option.some.inj h
    exact qr [] (fun w hm => ⟨rfl, hm.pk [0]⟩)
   ·refine jc_skip (jx_then (jc_seq (jc_seq (qg [⟨some A_b, 27, [(.int .i16 f0.fSteps), (.slice C_a f0.fHammers.length C_c)]⟩] 8 (qd [⟨0, 0, 0⟩,⟨2, 0, 0⟩,⟨3, 0, 0⟩,⟨4, 0, 0⟩,⟨5, 0, 0⟩,⟨6, 0, 0⟩] 2 [0] ?_)))))
    obtain ⟨t_3, ht_18, h⟩ := bd h
    refine tD 1 (pc 0 (fun w hm => spec_l01Length.calls t1 w _ D_c (hm.exRowW D_h D_ha) rfl ht_18) ?_)
    rintro w v w' hm ⟨rfl, hm'⟩
    refine ⟨_, hm.app hm', kD [0] ?_⟩
    clear hm hm'
    refine qd [⟨7, 0, 0⟩] 0 [0] (qz (jx_then (qi h (fun h => ?_) (fun h => ?_))))
    ·refine jc_seq (jc_region (qh [0] (qe (jx_then (jc_ret (jx_thenr ?_))))))
     obtain rfl := Option.some.inj h
     exact qr [] (fun w hm => ⟨rfl, hm.pk [0]⟩)
    ·refine jc_skip (jx_then (jc_seq (jc_region (qh [0] (qe (jx_then (jc_ret ?_)))))))
     obtain rfl := Option.some.inj h
     exact qr [] (fun w hm => ⟨rfl, hm.pk [0]⟩)
/-! ### spec.l03Fits -/
def spec_l03Fits.k_4 (q_3 : Bool) : Option (Int) := (if q_3 = true then some 2 else some 0)
def spec_l03Fits.k_2 (f0 : GFrame) (t1 : List GNote) (budget2 : Int) (q_1 : Bool) : Option (Int) := (if q_1 = true then some 1 else (spec_l01Length t1).bind fun t_5 => (if (decide (t_5 > (w64 f0.fSteps))) = true then spec_l03Fits.k_4 true else (spec_l00In budget2 0 20000).bind fun t_6 => spec_l03Fits.k_4 (!t_6)))
def spec_l03Fits (f0 : GFrame) (t1 : List GNote) (budget2 : Int) : Option (Int) := (spec_l02Frame f0).bind fun t_7 => (if (!t_7) = true then spec_l03Fits.k_2 f0 t1 budget2 true else (spec_l01Ok t1).bind fun t_8 => spec_l03Fits.k_2 f0 t1 budget2 (!t_8))
theorem spec_l03Fits.calls (f0 : GFrame) (t1 : List GNote) (budget2 : Int) (w : World) (r : Int) {C_a : Option Addr} {C_an : Nat} (C_c : Nat) (C_h : Rw w C_a 2 encGHammer f0.fHammers) (C_hn : f0.fHammers.length = C_an) {D_a : Option Addr} {D_an : Nat} (D_c : Nat) (D_h : Rw w D_a 2 encGNote t1) (D_hn : t1.length = D_an) (A_b : Nat) (hm0 : Mem w (bs [some A_b]) [⟨some A_b, 27, [(.int .i16 f0.fSteps), (.slice C_a C_an C_c)]⟩] w) (C_ha : f0.fHammers ≠ [] → aB C_a ∉ bs [some A_b]) (D_ha : t1 ≠ [] → aB D_a ∉ bs [some A_b]) (h : spec_l03Fits f0 t1 budget2 = some r) :
    Calls Tryz.prog 36 #[(.pointer (some ⟨A_b, 0, none⟩)), (.slice D_a D_an D_c), (.int .i64 budget2)] w fun e w' => ∃ v, e = .returned v ∧ (v = (.int .i64 r) ∧ Mem w (bs [some A_b]) [⟨some A_b, 27, [(.int .i16 f0.fSteps), (.slice C_a C_an C_c)]⟩] w') := by
  subst C_hn D_hn
  rw [spec_l03Fits] at h
  refine enter (args := [(.pointer (some ⟨A_b, 0, none⟩)), (.slice D_a t1.length D_c), (.int .i64 budget2)]) Tryz.func36 rfl Tryz.ntmps36 (by kernel_rfl) (L := [⟨some A_b, 27, [(.int .i16 f0.fSteps), (.slice C_a f0.fHammers.length C_c)]⟩]) (W := bs [some A_b]) hm0 ?_
  refine jc_seq (jc_region (qh [0] (qe (jx_then (jc_seq (jc_seq (jc_meet (fun (j : Bool) => match j with | q_1 => spec_l03Fits.k_2 f0 t1 budget2 q_1 = some r) (fun (j : Bool) => match j with | q_1 => [(0, [], (.pointer (some ⟨A_b, 0, none⟩))), (1, [], (.slice D_a t1.length D_c)), (2, [], (.int .i64 budget2)), (6, [], (.int .i64 0)), (14, [], (.bool q_1))]) (fun (j : Bool) => match j with | q_1 => [⟨some A_b, 27, [(.int .i16 f0.fSteps), (.slice C_a f0.fHammers.length C_c)]⟩]) ?_ ?_)))))))
  ·refine jc_region (qh [0] ?_)
   obtain ⟨t_7, ht_19, h⟩ := bd h
   refine tO (pc 0 (fun w hm => spec_l02Frame.calls f0 w _ C_c (hm.exRowW C_h C_ha) rfl A_b (hm.pass (N := [⟨some A_b, 27, [(.int .i16 f0.fSteps), (.slice C_a f0.fHammers.length C_c)]⟩]) [0] (by kernel_rfl) (by kernel_rfl)) (hm.exApart (N := [⟨some A_b, 27, [(.int .i16 f0.fSteps), (.slice C_a f0.fHammers.length C_c)]⟩]) C_h C_ha [0] (by kernel_rfl)) ht_19) ?_)
   rintro w v w' hm ⟨rfl, hm'⟩
   refine ⟨_, hm.appW (ps := [(0, ⟨some A_b, 27, [(.int .i16 f0.fSteps), (.slice C_a f0.fHammers.length C_c)]⟩)]) (N := []) hm' (by kernel_rfl) (by kernel_rfl), jkO ?_⟩
   clear hm hm'
   refine qf [(0, 0), (0, 0), (0, 1)] (qp 10 h (fun h => ?_) (fun h => ?_))
   ·exact qf [(0, 3), (0, 3), (0, 4)] (qe (qm true h [0]))
   ·obtain ⟨t_8, ht_21, h⟩ := bd h
    refine tO (pc 2 (fun w hm => spec_l01Ok.calls t1 w _ D_c (hm.exRowW D_h D_ha) rfl ht_21) ?_)
    rintro w v w' hm ⟨rfl, hm'⟩
    refine ⟨_, hm.app hm', jkO ?_⟩
    clear hm hm'
    exact qf [(0, 2), (0, 5)] (qe (qm (!t_8) h [0]))
  ·rintro q_1 h
   replace h : spec_l03Fits.k_2 f0 t1 budget2 q_1 = some r := h
   rw [spec_l03Fits.k_2] at h
   refine jx_then (qi h (fun h => ?_) (fun h => ?_))
   ·refine jc_seq (jc_region (qh [0] (qe (jx_then (jc_ret (jx_thenr ?_))))))
    obtain rfl := Option.some.inj h
    exact qr [] (fun w hm => ⟨rfl, hm.pk [0]⟩)
   ·refine jc_skip (jx_then (jc_seq (jc_seq (jc_meet (fun (j : Bool) => match j with | q_3 => spec_l03Fits.k_4 q_3 = some r) (fun (j : Bool) => match j with | q_3 => [(6, [], (.int .i64 0)), (27, [], (.bool q_3))]) (fun (j : Bool) => match j with | q_3 => [⟨some A_b, 27, [(.int .i16 f0.fSteps), (.slice C_a f0.fHammers.length C_c)]⟩]) ?_ ?_))))
    ·refine qg [⟨some A_b, 27, [(.int .i16 f0.fSteps), (.slice C_a f0.fHammers.length C_c)]⟩] 13 (qd [⟨0, 0, 0⟩,⟨2, 0, 0⟩,⟨3, 0, 0⟩,⟨4, 0, 0⟩,⟨5, 0, 0⟩,⟨6, 0, 0⟩] 7 [0] ?_)
     obtain ⟨t_5, ht_16, h⟩ := bd h
     refine tD 1 (pc 0 (fun w hm => spec_l01Length.calls t1 w _ D_c (hm.exRowW D_h D_ha) rfl ht_16) ?_)
     rintro w v w' hm ⟨rfl, hm'⟩
     refine ⟨_, hm.app hm', kD [0] ?_⟩
     clear hm hm'
     refine qd [⟨7, 0, 0⟩,⟨8, 0, 0⟩,⟨9, 0, 1⟩] 3 [0] (jd_split 23 (decide (t_5 > (w64 f0.fSteps))) (by kernel_rfl) (fun hc_17 => ?_) (fun hc_17 => ?_))
     ·replace h := ifT hc_17 h
      exact qd [⟨10, 0, 3⟩,⟨11, 0, 3⟩,⟨12, 0, 4⟩] 0 [0] (qz (qm true h [0]))
     ·replace h := ifF hc_17 h
      obtain ⟨t_6, ht_18, h⟩ := bd h
      refine tD 10 (pc 2 (fun w hm => spec_l00In.calls budget2 0 20000 w _ ht_18) ?_)
      rintro w v w' hm ⟨rfl, hm'⟩
      refine ⟨_, hm.app hm', kD [0] ?_⟩
      clear hm hm'
      exact qd [⟨11, 0, 2⟩,⟨12, 0, 5⟩] 0 [0] (qz (qm (!t_6) h [0]))
    ·rintro q_3 h
     replace h : spec_l03Fits.k_4 q_3 = some r := h
     rw [spec_l03Fits.k_4] at h
     refine jx_then (qi h (fun h => ?_) (fun h => ?_))
     ·refine jc_seq (jc_region (qh [0] (qe (jx_then (jc_ret (jx_thenr ?_))))))
      obtain rfl := Option.some.inj h
      exact qr [] (fun w hm => ⟨rfl, hm.pk [0]⟩)
     ·refine jc_skip (jx_then (jc_seq (jc_region (qh [0] (qe (jx_then (jc_ret ?_)))))))
      obtain rfl := Option.some.inj h
      exact qr [] (fun w hm => ⟨rfl, hm.pk [0]⟩)
/-! ### spec.l03Tracks -/
def spec_l03Tracks.k_2 (xs_1 : List Int) : Option ((List Int)) := some xs_1
def spec_l03Tracks.k_8 (xs_3 : List Int) (i_4 : Int) (q_7 : Bool) : Option (((List Int) × Int) ⊕ ((List Int))) := (if q_7 = true then (if xs_3.length + ([i_4] : List Int).length ≤ 4294967296 then some (.inl ((xs_3 ++ ([i_4] : List Int)), (w64 (i_4 + 1)))) else none) else some (.inl (xs_3, (w64 (i_4 + 1)))))
def spec_l03Tracks.l_5 (f0 : GFrame) (d1 : Arr 96 Int) (n2 : GNote) : ((List Int) × Int) → Option (((List Int) × Int) ⊕ ((List Int)))
  | (xs_3, i_4) => (if (decide (i_4 < (f0.fHammers.length : Int))) = true then (ix f0.fHammers i_4).bind fun x_9 => (if (x_9.fPitch == n2.fPitch) = true then (spec_l02Free f0 d1 (w64 n2.fAt) i_4).bind fun t_10 => spec_l03Tracks.k_8 xs_3 i_4 t_10 else spec_l03Tracks.k_8 xs_3 i_4 false) else some (.inr xs_3))
def spec_l03Tracks (f0 : GFrame) (d1 : Arr 96 Int) (n2 : GNote) : Option ((List Int)) := (loop (spec_l03Tracks.l_5 f0 d1 n2) (([] : List Int), 0)).bind fun t_6 => spec_l03Tracks.k_2 t_6
theorem spec_l03Tracks.calls (f0 : GFrame) (d1 : Arr 96 Int) (n2 : GNote) (w : World) (r : (List Int)) {C_a : Option Addr} {C_an : Nat} (C_c : Nat) (C_h : Rw w C_a 2 encGHammer f0.fHammers) (C_hn : f0.fHammers.length = C_an) {D_b D_q : Nat} (D_h : Rw w (some ⟨D_b, D_q, none⟩) 1 encU32 d1.1) (A_b : Nat) (hm0 : Mem w (bs [some A_b]) [⟨some A_b, 27, [(.int .i16 f0.fSteps), (.slice C_a C_an C_c)]⟩] w) (C_ha : f0.fHammers ≠ [] → aB C_a ∉ bs [some A_b]) (D_ha : d1.1 ≠ [] → aB (some ⟨D_b, D_q, none⟩) ∉ bs [some A_b]) (h : spec_l03Tracks f0 d1 n2 = some r) :
    Calls Tryz.prog 82 #[(.pointer (some ⟨A_b, 0, none⟩)), (.pointer (some ⟨D_b, D_q, none⟩)), (.agg #[(.int .i16 n2.fAt), (.int .i8 n2.fPitch)])] w fun e w' => ∃ v, e = .returned v ∧ (∃ (o0 : Option Nat) (c0 : Nat) (s0 : List Value) (n0 : Nat), r.length = n0 ∧ (o0 ≠ none → n0 ≤ c0 ∧ s0.length = (c0 - n0) * 1) ∧ (o0 = none → r = [] ∧ c0 = 0) ∧ v = .slice (o0.map fun b => ⟨b, 0, none⟩) n0 c0 ∧ Mem w (bs [some A_b]) [⟨some A_b, 27, [(.int .i16 f0.fSteps), (.slice C_a C_an C_c)]⟩, ⟨o0, 2, row encI64 r s0⟩] w') := by
  subst C_hn
  rw [spec_l03Tracks] at h
  refine enter (args := [(.pointer (some ⟨A_b, 0, none⟩)), (.pointer (some ⟨D_b, D_q, none⟩)), (.agg #[(.int .i16 n2.fAt), (.int .i8 n2.fPitch)])]) Tryz.func82 rfl Tryz.ntmps82 (by kernel_rfl) (L := [⟨some A_b, 27, [(.int .i16 f0.fSteps), (.slice C_a f0.fHammers.length C_c)]⟩]) (W := bs [some A_b]) hm0 ?_
  refine jc_seq (jc_region (tO (qa 0 (fun b_1 => jkO (qh [0] (qe (jx_then (jc_seq (jc_region (tO (qa 0 (fun b_2 => jkO (qh [0] (qe (jx_then (jc_seq (jc_seq (jc_region (qh [0] (qe (jx_then (jc_meet (fun (j : (List Int) × (Option Nat) × Nat × (List Value) × Nat) => match j with | ⟨xs_1, o_201, cap_202, sp_203, n_204⟩ => spec_l03Tracks.k_2 xs_1 = some r ∧ (xs_1.length = n_204) ∧ ((o_201 ≠ none → n_204 ≤ cap_202 ∧ sp_203.length = (cap_202 - n_204) * 1)) ∧ ((o_201 = none → xs_1 = [] ∧ cap_202 = 0))) (fun (j : (List Int) × (Option Nat) × Nat × (List Value) × Nat) => match j with | ⟨xs_1, o_201, cap_202, sp_203, n_204⟩ => [(6, [], (.slice none 0 0)), (7, [], (.slice (o_201.map fun b => ⟨b, 0, none⟩) n_204 cap_202))]) (fun (j : (List Int) × (Option Nat) × Nat × (List Value) × Nat) => match j with | ⟨xs_1, o_201, cap_202, sp_203, n_204⟩ => [⟨some A_b, 27, [(.int .i16 f0.fSteps), (.slice C_a f0.fHammers.length C_c)]⟩, ⟨some b_1, 68, [(.int .i16 n2.fAt), (.int .i8 n2.fPitch)]⟩, ⟨o_201, 2, row encI64 xs_1 sp_203⟩]) ?_ ?_))))))))))))))))))))))
  ·refine jc_block ?_
   obtain ⟨t_6, ht_270, hr_251⟩ := bd h
   refine jc_loop (fun (s : (List Int) × Int) (x : (Option Nat) × Nat × (List Value) × Nat) => match s, x with | ⟨xs_3, i_4⟩, ⟨o_245, cap_246, sp_247, n_248⟩ => (xs_3.length = n_248) ∧ ((o_245 ≠ none → n_248 ≤ cap_246 ∧ sp_247.length = (cap_246 - n_248) * 1)) ∧ ((o_245 = none → xs_3 = [] ∧ cap_246 = 0))) (fun (s : (List Int) × Int) (x : (Option Nat) × Nat × (List Value) × Nat) => match s, x with | ⟨xs_3, i_4⟩, ⟨o_245, cap_246, sp_247, n_248⟩ => [(0, [], (.pointer (some ⟨A_b, 0, none⟩))), (1, [], (.pointer (some ⟨D_b, D_q, none⟩))), (5, [], (.pointer (some ⟨b_1, 0, none⟩))), (6, [], (.slice none 0 0)), (7, [], (.slice (o_245.map fun b => ⟨b, 0, none⟩) n_248 cap_246)), (8, [], (.int .i64 i_4))]) (fun (s : (List Int) × Int) (x : (Option Nat) × Nat × (List Value) × Nat) => match s, x with | ⟨xs_3, i_4⟩, ⟨o_245, cap_246, sp_247, n_248⟩ => [⟨some A_b, 27, [(.int .i16 f0.fSteps), (.slice C_a f0.fHammers.length C_c)]⟩, ⟨some b_1, 68, [(.int .i16 n2.fAt), (.int .i8 n2.fPitch)]⟩, ⟨o_245, 2, row encI64 xs_3 sp_247⟩]) ht_270 ⟨(some b_2), 0, [], 0⟩ ⟨rfl, (fun _ => ⟨Nat.le_refl _, by simp⟩), (fun e => nomatch e)⟩ (by kernel_rfl) [0, 1, 2] (by kernel_rfl) (by kernel_rfl) ?_
   rintro ⟨xs_3, i_4⟩ ⟨o_245, cap_246, sp_247, n_248⟩ y_252 ⟨rfl, hs_249, ho_250⟩ h
   rw [spec_l03Tracks.l_5] at h
   refine jc_seq (jc_seq (jc_region (qh [0,0,0,0,0,0,0] (qe (jx_then (qi h (fun h => ?_) (fun h => ?_)))))))
   ·refine jc_skip (jx_then (jc_seq (jc_block (jc_seq (jc_meet (fun (j : Bool) => match j with | q_7 => spec_l03Tracks.k_8 xs_3 i_4 q_7 = some y_252) (fun (j : Bool) => match j with | q_7 => [(0, [], (.pointer (some ⟨A_b, 0, none⟩))), (1, [], (.pointer (some ⟨D_b, D_q, none⟩))), (5, [], (.pointer (some ⟨b_1, 0, none⟩))), (6, [], (.slice none 0 0)), (7, [], (.slice (o_245.map fun b => ⟨b, 0, none⟩) xs_3.length cap_246)), (8, [], (.int .i64 i_4)), (38, [], (.bool q_7))]) (fun (j : Bool) => match j with | q_7 => [⟨some A_b, 27, [(.int .i16 f0.fSteps), (.slice C_a f0.fHammers.length C_c)]⟩, ⟨some b_1, 68, [(.int .i16 n2.fAt), (.int .i8 n2.fPitch)]⟩, ⟨o_245, 2, row encI64 xs_3 sp_247⟩]) ?_ ?_)))))
    ·refine qg [⟨some A_b, 27, [(.int .i16 f0.fSteps), (.slice C_a f0.fHammers.length C_c)]⟩, ⟨some b_1, 68, [(.int .i16 n2.fAt), (.int .i8 n2.fPitch)]⟩, ⟨o_245, 2, row encI64 xs_3 sp_247⟩] 20 (qd [⟨0, 0, 0⟩,⟨1, 0, 0⟩,⟨2, 0, 0⟩,⟨3, 0, 0⟩,⟨4, 0, 0⟩,⟨8, 0, 0⟩,⟨9, 1, 0⟩] 13 [0, 1, 2] ?_)
     obtain ⟨x_9, hx_266, h⟩ := bd h
     refine qv 5 0 [0, 1, 2] (fun w hm => idx_run (a := C_a) (len := f0.fHammers.length) (s := 2) (j := i_4) (by kernel_rfl) (ix_some hx_266).1 (ltn hx_266 rfl) (C_h.sp hx_266)) (qd [⟨6, 0, 0⟩] 11 [0, 1, 2] (qv 7 0 [0, 1, 2] (fun w hm => ld_run (b := aB C_a) (off := (aO C_a + i_4.toNat * 2)) (s := 1) (agg := false) (vs := (((encGHammer x_9).drop 0).take 1)) (by kernel_rfl) (by kernel_rfl) (.inr rfl) (((hm.exRowW C_h C_ha).at hx_266).sub 0 1)) (qd [⟨10, 0, 0⟩,⟨11, 0, 0⟩,⟨12, 0, 1⟩,⟨13, 0, 1⟩,⟨14, 0, 1⟩,⟨15, 1, 1⟩,⟨16, 0, 1⟩,⟨17, 0, 1⟩] 2 [0, 1, 2] (jd_split 30 (x_9.fPitch == n2.fPitch) (by kernel_rfl) (fun hc_267 => ?_) (fun hc_267 => ?_)))))
     ·replace h := ifT hc_267 h
      obtain ⟨t_10, ht_268, h⟩ := bd h
      refine tD 18 (pc 2 (fun w hm => spec_l02Free.calls f0 d1 (w64 n2.fAt) i_4 w _ C_c (hm.exRowW C_h C_ha) rfl (hm.exRowW D_h D_ha) A_b (hm.pass (N := [⟨some A_b, 27, [(.int .i16 f0.fSteps), (.slice C_a f0.fHammers.length C_c)]⟩]) [0] (by kernel_rfl) (by kernel_rfl)) (hm.exApart (N := [⟨some A_b, 27, [(.int .i16 f0.fSteps), (.slice C_a f0.fHammers.length C_c)]⟩]) C_h C_ha [0] (by kernel_rfl)) (hm.exApart (N := [⟨some A_b, 27, [(.int .i16 f0.fSteps), (.slice C_a f0.fHammers.length C_c)]⟩]) D_h D_ha [0] (by kernel_rfl)) ht_268) ?_)
      rintro w v w' hm ⟨rfl, hm'⟩
      refine ⟨_, hm.appW (ps := [(0, ⟨some A_b, 27, [(.int .i16 f0.fSteps), (.slice C_a f0.fHammers.length C_c)]⟩)]) (N := []) hm' (by kernel_rfl) (by kernel_rfl), kD [0, 1, 2] ?_⟩
      clear hm hm'
      exact qd [⟨19, 0, 4⟩] 0 [0, 1, 2] (qz (qm t_10 h [0, 1, 2]))
     ·replace h := ifF hc_267 h
      exact qd [⟨18, 0, 3⟩,⟨19, 0, 5⟩] 0 [0, 1, 2] (qz (qm false h [0, 1, 2]))
    ·rintro q_7 h
     replace h : spec_l03Tracks.k_8 xs_3 i_4 q_7 = some y_252 := h
     rw [spec_l03Tracks.k_8] at h
     refine jx_then (qi h (fun h => ?_) (fun h => ?_))
     ·refine jc_region (qh [0,0] (tO (qa 0 (fun b_259 => jkO ?_))))
      obtain ⟨hg_260, h⟩ := gd h
      exact tO (p_apn 0 2 o_245 2 xs_3.length 1 cap_246 1 8 (some ⟨b_259, 0, none⟩) encI64 xs_3 ([i_4] : List Int) sp_247 (.int .i64 0) rfl rfl (by kernel_rfl) (by kernel_rfl) (by kernel_rfl) encI64_len encI64_cell hs_249 ho_250 (fun w hm => (hm.ow 3 (some b_259) 2 ([i_4] : List Int) [] (fun e => nomatch e) encI64_len)) hg_260 (by kernel_rfl) (by kernel_rfl) (fun o_261 cap_262 sp_263 hs_264 ho_265 => jkO (qh [0] (qe (jx_inn (jx_then (jc_region (qh [0,0,0] (qe (qb ((xs_3 ++ ([i_4] : List Int)), (w64 (i_4 + 1))) ⟨o_261, cap_262, sp_263, (xs_3 ++ ([i_4] : List Int)).length⟩ h ⟨rfl, hs_264, ho_265⟩ [0, 1, 2]))))))))))
     ·exact jc_skip (jx_inn (jx_then (jc_region (qh [0,0,0] (qe (qb (xs_3, (w64 (i_4 + 1))) ⟨o_245, cap_246, sp_247, xs_3.length⟩ h ⟨rfl, hs_249, ho_250⟩ [0, 1, 2]))))))
   ·refine jc_exit (jx_thenx (jx_leave xs_3 (Option.some.inj h).symm (fun e_269 => ?_)))
    subst e_269
    exact jx_ine (qm ⟨xs_3, o_245, cap_246, sp_247, xs_3.length⟩ ⟨hr_251, rfl, hs_249, ho_250⟩ [0, 1, 2])
  ·rintro ⟨xs_1, o_201, cap_202, sp_203, n_204⟩ ⟨h, rfl, hs_205, ho_206⟩
   replace h : spec_l03Tracks.k_2 xs_1 = some r := h
   rw [spec_l03Tracks.k_2] at h
   refine jx_then (jc_seq (jc_region (qh [0,0] (qe (jx_then (jc_ret ?_))))))
   obtain rfl := Option.some.inj h
   exact qr [] (fun w hm => ⟨o_201, cap_202, sp_203, xs_1.length, rfl, hs_205, ho_206, rfl, hm.pk [0, 2]⟩)
/-! ### spec.l03Bit -/
def spec_l03Bit (track0 : Int) : Option (Int) := (if 0 ≤ (u64 track0) then some (bShl .u32 1 (u64 track0)) else none)
theorem spec_l03Bit.calls (track0 : Int) (w : World) (r : Int) (h : spec_l03Bit track0 = some r) :
    Calls Tryz.prog 58 #[(.int .i64 track0)] w fun e w' => ∃ v, e = .returned v ∧ (v = (.int .u32 r) ∧ Mem w [] [] w') := by
  rw [spec_l03Bit] at h
  refine enter (args := [(.int .i64 track0)]) Tryz.func58 rfl Tryz.ntmps58 (by kernel_rfl) (L := []) (W := []) (Mem.start w) ?_
  refine jc_seq (jc_region (qh [0] (qe (jx_then (jc_seq (jc_region (qh [0,0] ?_)))))))
  obtain ⟨hg_1, h⟩ := gd h
  refine tO (p_shl 0 .u32 1 .u64 (u64 track0) (by kernel_rfl) (by kernel_rfl) hg_1 (jkO (qh [0] (qe (jx_then (jc_ret ?_))))))
  obtain rfl := Option.some.inj h
  exact qr [] (fun w hm => ⟨rfl, hm.pk []⟩)
/-! ### (*spec.l03Pinner).from -/
def spec_l03Pinner_from.k_12 (p0 : Gl03Pinner) (a_3 : Arr 96 Int) (q_4 : Bool) (i_5 : Int) (i_6 : Int) (q_7 : Bool) (a_8 : Arr 96 Int) (q_9 : Bool) (a_10 : Arr 96 Int) (i_11 : Int) : Option (Bool × Gl03Pinner) := some (false, (⟨(⟨p0.fframe.fSteps, p0.fframe.fHammers⟩ : GFrame), p0.ftune, a_3, q_4, i_5, i_6, q_7, a_8, q_9, a_10, i_11⟩ : Gl03Pinner))
def spec_l03Pinner_from.k_28 (self_ : Gl03Pinner → Int → Int → Option (Bool × Gl03Pinner)) (p0 : Gl03Pinner) (i1 : Int) (x_1 : GNote) (a_13 : Arr 96 Int) (q_14 : Bool) (i_15 : Int) (i_16 : Int) (q_17 : Bool) (a_18 : Arr 96 Int) (q_19 : Bool) (a_20 : Arr 96 Int) (i_21 : Int) (i_22 : Int) (t_26 : Int) (i_27 : Int) : Option (((Arr 96 Int) × Bool × Int × Int × Bool × (Arr 96 Int) × Bool × (Arr 96 Int) × Int × Int) ⊕ ((Bool × Gl03Pinner) ⊕ ((Arr 96 Int) × Bool × Int × Int × Bool × (Arr 96 Int) × Bool × (Arr 96 Int) × Int))) := (if ((q_14 && q_19) && (decide (i_27 ≥ i_21))) = true then some (.inl (a_13, q_14, i_15, (w64 (i_16 + 1)), q_17, a_18, q_19, a_20, i_21, (w64 (i_22 + 1)))) else (ix a_18.1 x_1.fAt).bind fun x_29 => (ix a_18.1 x_1.fAt).bind fun x_30 => (self_ (⟨(⟨p0.fframe.fSteps, p0.fframe.fHammers⟩ : GFrame), p0.ftune, a_13, q_14, i_15, (w64 (i_16 + 1)), q_17, (Arr.set a_18 x_1.fAt (bOr .u32 x_29 t_26)), q_19, a_20, i_21⟩ : Gl03Pinner) (w64 (i1 + 1)) i_27).bind fun t_31 => (if t_31.1 = true then some (.inr (.inl (true, (⟨(⟨p0.fframe.fSteps, p0.fframe.fHammers⟩ : GFrame), p0.ftune, t_31.2.fold, t_31.2.flike, t_31.2.fbudget, t_31.2.ftries, t_31.2.fover, t_31.2.fdrum, t_31.2.ffound, t_31.2.fbest, t_31.2.fleast⟩ : Gl03Pinner)))) else (ix t_31.2.fdrum.1 x_1.fAt).bind fun x_32 => (ix t_31.2.fdrum.1 x_1.fAt).bind fun x_33 => some (.inl (t_31.2.fold, t_31.2.flike, t_31.2.fbudget, t_31.2.ftries, t_31.2.fover, (Arr.set t_31.2.fdrum x_1.fAt (bClr .u32 x_32 t_26)), t_31.2.ffound, t_31.2.fbest, t_31.2.fleast, (w64 (i_22 + 1))))))
def spec_l03Pinner_from.l_23 (self_ : Gl03Pinner → Int → Int → Option (Bool × Gl03Pinner)) (p0 : Gl03Pinner) (i1 : Int) (made2 : Int) (x_1 : GNote) (t_2 : (List Int)) : ((Arr 96 Int) × Bool × Int × Int × Bool × (Arr 96 Int) × Bool × (Arr 96 Int) × Int × Int) → Option (((Arr 96 Int) × Bool × Int × Int × Bool × (Arr 96 Int) × Bool × (Arr 96 Int) × Int × Int) ⊕ ((Bool × Gl03Pinner) ⊕ ((Arr 96 Int) × Bool × Int × Int × Bool × (Arr 96 Int) × Bool × (Arr 96 Int) × Int)))
  | (a_13, q_14, i_15, i_16, q_17, a_18, q_19, a_20, i_21, i_22) => (if (decide (i_22 < (t_2.length : Int))) = true then (if (i_16 == i_15) = true then some (.inr (.inl (true, (⟨(⟨p0.fframe.fSteps, p0.fframe.fHammers⟩ : GFrame), p0.ftune, a_13, q_14, i_15, i_16, true, a_18, q_19, a_20, i_21⟩ : Gl03Pinner)))) else (ix t_2 i_22).bind fun x_25 => (spec_l03Bit x_25).bind fun t_26 => (ix a_13.1 x_1.fAt).bind fun x_34 => (if ((bAnd .u32 x_34 t_26) == 0) = true then spec_l03Pinner_from.k_28 self_ p0 i1 x_1 a_13 q_14 i_15 i_16 q_17 a_18 q_19 a_20 i_21 i_22 t_26 (w64 (made2 + 1)) else spec_l03Pinner_from.k_28 self_ p0 i1 x_1 a_13 q_14 i_15 i_16 q_17 a_18 q_19 a_20 i_21 i_22 t_26 made2)) else some (.inr (.inr (a_13, q_14, i_15, i_16, q_17, a_18, q_19, a_20, i_21))))
def spec_l03Pinner_from.step (self_ : Gl03Pinner → Int → Int → Option (Bool × Gl03Pinner)) (p0 : Gl03Pinner) (i1 : Int) (made2 : Int) : Option (Bool × Gl03Pinner) := (if (i1 == (p0.ftune.length : Int)) = true then some ((!p0.flike), (⟨(⟨p0.fframe.fSteps, p0.fframe.fHammers⟩ : GFrame), p0.ftune, p0.fold, p0.flike, p0.fbudget, p0.ftries, p0.fover, p0.fdrum, true, p0.fdrum, made2⟩ : Gl03Pinner)) else (ix p0.ftune i1).bind fun x_1 => (spec_l03Tracks (⟨p0.fframe.fSteps, p0.fframe.fHammers⟩ : GFrame) p0.fdrum x_1).bind fun t_2 => (loop (spec_l03Pinner_from.l_23 self_ p0 i1 made2 x_1 t_2) (p0.fold, p0.flike, p0.fbudget, p0.ftries, p0.fover, p0.fdrum, p0.ffound, p0.fbest, p0.fleast, 0)).bind fun t_24 => match t_24 with | .inl p => some p | .inr p => spec_l03Pinner_from.k_12 p0 p.1 p.2.1 p.2.2.1 p.2.2.2.1 p.2.2.2.2.1 p.2.2.2.2.2.1 p.2.2.2.2.2.2.1 p.2.2.2.2.2.2.2.1 p.2.2.2.2.2.2.2.2)
def spec_l03Pinner_from.rec_ : Nat → Gl03Pinner → Int → Int → Option (Bool × Gl03Pinner)
  | 0 => fun p0 i1 made2 => none
  | fu + 1 => spec_l03Pinner_from.step (spec_l03Pinner_from.rec_ fu)
def spec_l03Pinner_from (p0 : Gl03Pinner) (i1 : Int) (made2 : Int) : Option (Bool × Gl03Pinner) := spec_l03Pinner_from.rec_ 200 p0 i1 made2
set_option maxHeartbeats 8000000 in
theorem spec_l03Pinner_from.step_calls (self_ : Gl03Pinner → Int → Int → Option (Bool × Gl03Pinner)) (hself : ∀ (p0 : Gl03Pinner) (i1 : Int) (made2 : Int) (w : World) (r : Bool × Gl03Pinner) {D_a : Option Addr} {D_an : Nat} (D_c : Nat) (D_h : Rw w D_a 2 encGHammer p0.fframe.fHammers) (D_hn : p0.fframe.fHammers.length = D_an) {E_a : Option Addr} {E_an : Nat} (E_c : Nat) (E_h : Rw w E_a 2 encGNote p0.ftune) (E_hn : p0.ftune.length = E_an) (A_b : Nat) (B_b : Nat) (hm0 : Mem w (bs [some A_b, some B_b]) [⟨some A_b, 83, ((.pointer (some ⟨B_b, 0, none⟩)) :: (.slice E_a E_an E_c) :: (seg (Value.int .u32) 96 p0.fold.1 ((.bool p0.flike) :: (.int .i64 p0.fbudget) :: (.int .i64 p0.ftries) :: (.bool p0.fover) :: (seg (Value.int .u32) 96 p0.fdrum.1 ((.bool p0.ffound) :: (seg (Value.int .u32) 96 p0.fbest.1 [(.int .i64 p0.fleast)]))))))⟩, ⟨some B_b, 27, [(.int .i16 p0.fframe.fSteps), (.slice D_a D_an D_c)]⟩] w) (D_ha : p0.fframe.fHammers ≠ [] → aB D_a ∉ bs [some A_b, some B_b]) (E_ha : p0.ftune ≠ [] → aB E_a ∉ bs [some A_b, some B_b]) (h : self_ p0 i1 made2 = some r),
    Calls Tryz.prog 37 #[(.pointer (some ⟨A_b, 0, none⟩)), (.int .i64 i1), (.int .i64 made2)] w fun e w' => ∃ v, e = .returned v ∧ (v = (.bool r.1) ∧ Mem w (bs [some A_b, some B_b]) [⟨some A_b, 83, ((.pointer (some ⟨B_b, 0, none⟩)) :: (.slice E_a E_an E_c) :: (seg (Value.int .u32) 96 r.2.fold.1 ((.bool r.2.flike) :: (.int .i64 r.2.fbudget) :: (.int .i64 r.2.ftries) :: (.bool r.2.fover) :: (seg (Value.int .u32) 96 r.2.fdrum.1 ((.bool r.2.ffound) :: (seg (Value.int .u32) 96 r.2.fbest.1 [(.int .i64 r.2.fleast)]))))))⟩, ⟨some B_b, 27, [(.int .i16 p0.fframe.fSteps), (.slice D_a D_an D_c)]⟩] w')) (p0 : Gl03Pinner) (i1 : Int) (made2 : Int) (w : World) (r : Bool × Gl03Pinner) {D_a : Option Addr} {D_an : Nat} (D_c : Nat) (D_h : Rw w D_a 2 encGHammer p0.fframe.fHammers) (D_hn : p0.fframe.fHammers.length = D_an) {E_a : Option Addr} {E_an : Nat} (E_c : Nat) (E_h : Rw w E_a 2 encGNote p0.ftune) (E_hn : p0.ftune.length = E_an) (A_b : Nat) (B_b : Nat) (hm0 : Mem w (bs [some A_b, some B_b]) [⟨some A_b, 83, ((.pointer (some ⟨B_b, 0, none⟩)) :: (.slice E_a E_an E_c) :: (seg (Value.int .u32) 96 p0.fold.1 ((.bool p0.flike) :: (.int .i64 p0.fbudget) :: (.int .i64 p0.ftries) :: (.bool p0.fover) :: (seg (Value.int .u32) 96 p0.fdrum.1 ((.bool p0.ffound) :: (seg (Value.int .u32) 96 p0.fbest.1 [(.int .i64 p0.fleast)]))))))⟩, ⟨some B_b, 27, [(.int .i16 p0.fframe.fSteps), (.slice D_a D_an D_c)]⟩] w) (D_ha : p0.fframe.fHammers ≠ [] → aB D_a ∉ bs [some A_b, some B_b]) (E_ha : p0.ftune ≠ [] → aB E_a ∉ bs [some A_b, some B_b]) (h : spec_l03Pinner_from.step self_ p0 i1 made2 = some r) :
    Calls Tryz.prog 37 #[(.pointer (some ⟨A_b, 0, none⟩)), (.int .i64 i1), (.int .i64 made2)] w fun e w' => ∃ v, e = .returned v ∧ (v = (.bool r.1) ∧ Mem w (bs [some A_b, some B_b]) [⟨some A_b, 83, ((.pointer (some ⟨B_b, 0, none⟩)) :: (.slice E_a E_an E_c) :: (seg (Value.int .u32) 96 r.2.fold.1 ((.bool r.2.flike) :: (.int .i64 r.2.fbudget) :: (.int .i64 r.2.ftries) :: (.bool r.2.fover) :: (seg (Value.int .u32) 96 r.2.fdrum.1 ((.bool r.2.ffound) :: (seg (Value.int .u32) 96 r.2.fbest.1 [(.int .i64 r.2.fleast)]))))))⟩, ⟨some B_b, 27, [(.int .i16 p0.fframe.fSteps), (.slice D_a D_an D_c)]⟩] w') := by
  subst D_hn E_hn
  rw [spec_l03Pinner_from.step] at h
  refine enter (args := [(.pointer (some ⟨A_b, 0, none⟩)), (.int .i64 i1), (.int .i64 made2)]) Tryz.func37 rfl Tryz.ntmps37 (by kernel_rfl) (L := [⟨some A_b, 83, ((.pointer (some ⟨B_b, 0, none⟩)) :: (.slice E_a p0.ftune.length E_c) :: (seg (Value.int .u32) 96 p0.fold.1 ((.bool p0.flike) :: (.int .i64 p0.fbudget) :: (.int .i64 p0.ftries) :: (.bool p0.fover) :: (seg (Value.int .u32) 96 p0.fdrum.1 ((.bool p0.ffound) :: (seg (Value.int .u32) 96 p0.fbest.1 [(.int .i64 p0.fleast)]))))))⟩, ⟨some B_b, 27, [(.int .i16 p0.fframe.fSteps), (.slice D_a p0.fframe.fHammers.length D_c)]⟩]) (W := bs [some A_b, some B_b]) hm0 ?_
  refine jc_seq (jc_region (qh [0] (qe (jx_then (jc_seq (jc_seq (jc_region (qh [0,0,0,0,0,0,0] (qe (jx_then (qi h (fun h => ?_) (fun h => ?_))))))))))))
  ·refine jc_seq (jc_region (qh [0,0,0] (tO (qs 0 [0] (jkO (qe (jx_then (jc_seq (jc_region (qh [0,0,0,0] (tO (p_ldS 0 0 A_b 102 (Value.int .u32) (enc := encU32) (fun _ => rfl) p0.fdrum (jkO (qh [0,0] (tO (p_stS 0 0 A_b 199 (Value.int .u32) (enc := encU32) (fun _ => rfl) encU32_cell p0.fbest p0.fdrum (jkO (qe (jx_then (jc_seq (jc_region (qh [0,0,0,0] (tO (qs 0 [0] (jkO (qe (jx_then (jc_seq (jc_region (qh [0,0,0,0,0,0] (qe (jx_then (jc_ret (jx_thenr ?_))))))))))))))))))))))))))))))))))
   obtain rfl := Option.some.inj h
   exact qr [] (fun w hm => ⟨rfl, hm.pk [0, 1]⟩)
  ·refine jc_skip (jx_then (jc_seq (jc_region (qh [0,0,0,0,0] ?_))))
   obtain ⟨x_1, hx_3, h⟩ := bd h
   refine tO (qx 0 E_a 2 hx_3 rfl (E_h.sp hx_3) (jkO (tO (ql 0 true (fun w hm => ((hm.exRowW E_h E_ha).at hx_3)) (jkO (tO (qa 0 (fun b_4 => jkO (tO (qs 0 [2] (jkO (qe (jx_then (jc_seq (qg [⟨some A_b, 83, ((.pointer (some ⟨B_b, 0, none⟩)) :: (.slice E_a p0.ftune.length E_c) :: (seg (Value.int .u32) 96 p0.fold.1 ((.bool p0.flike) :: (.int .i64 p0.fbudget) :: (.int .i64 p0.ftries) :: (.bool p0.fover) :: (seg (Value.int .u32) 96 p0.fdrum.1 ((.bool p0.ffound) :: (seg (Value.int .u32) 96 p0.fbest.1 [(.int .i64 p0.fleast)]))))))⟩, ⟨some B_b, 27, [(.int .i16 p0.fframe.fSteps), (.slice D_a p0.fframe.fHammers.length D_c)]⟩, ⟨some b_4, 68, [(.int .i16 x_1.fAt), (.int .i8 x_1.fPitch)]⟩] 10 (qd [⟨0, 0, 0⟩,⟨1, 0, 0⟩,⟨2, 0, 0⟩,⟨3, 0, 0⟩,⟨4, 0, 0⟩,⟨5, 0, 0⟩,⟨6, 0, 0⟩,⟨7, 2, 0⟩] 2 [0, 1, 2] ?_))))))))))))))))
   obtain ⟨t_2, ht_5, h⟩ := bd h
   refine tD 8 (pc 0 (fun w hm => spec_l03Tracks.calls (⟨p0.fframe.fSteps, p0.fframe.fHammers⟩ : GFrame) p0.fdrum x_1 w _ D_c (hm.exRowW D_h D_ha) rfl (hm.segRow 0 A_b 102 (Value.int .u32) (enc := encU32) (fun _ => rfl) p0.fdrum) B_b (hm.pass (N := [⟨some B_b, 27, [(.int .i16 p0.fframe.fSteps), (.slice D_a p0.fframe.fHammers.length D_c)]⟩]) [1] (by kernel_rfl) (by kernel_rfl)) (hm.exApart (N := [⟨some B_b, 27, [(.int .i16 p0.fframe.fSteps), (.slice D_a p0.fframe.fHammers.length D_c)]⟩]) D_h D_ha [1] (by kernel_rfl)) (hm.segApart 0 A_b 102 [1]) ht_5) ?_)
   rintro w v w' hm ⟨o_6, cap_7, sp_8, _, rfl, hs_9, ho_10, rfl, hm'⟩
   refine ⟨_, hm.appW (ps := [(1, ⟨some B_b, 27, [(.int .i16 p0.fframe.fSteps), (.slice D_a p0.fframe.fHammers.length D_c)]⟩)]) (N := [⟨o_6, 2, row encI64 t_2 sp_8⟩]) hm' (by kernel_rfl) (by kernel_rfl), kD [0, 1, 2] ?_⟩
   clear hm hm'
   refine qd [⟨9, 0, 0⟩] 0 [0, 1, 2] (qz (jx_then (jc_seq (jc_seq (jc_region (qh [0] (qe (jx_then (jc_meet (fun (j : (Arr 96 Int) × Bool × Int × Int × Bool × (Arr 96 Int) × Bool × (Arr 96 Int) × Int) => match j with | ⟨a_3, q_4, i_5, i_6, q_7, a_8, q_9, a_10, i_11⟩ => spec_l03Pinner_from.k_12 p0 a_3 q_4 i_5 i_6 q_7 a_8 q_9 a_10 i_11 = some r) (fun (j : (Arr 96 Int) × Bool × Int × Int × Bool × (Arr 96 Int) × Bool × (Arr 96 Int) × Int) => match j with | ⟨a_3, q_4, i_5, i_6, q_7, a_8, q_9, a_10, i_11⟩ => [(6, [], (.bool false))]) (fun (j : (Arr 96 Int) × Bool × Int × Int × Bool × (Arr 96 Int) × Bool × (Arr 96 Int) × Int) => match j with | ⟨a_3, q_4, i_5, i_6, q_7, a_8, q_9, a_10, i_11⟩ => [⟨some A_b, 83, ((.pointer (some ⟨B_b, 0, none⟩)) :: (.slice E_a p0.ftune.length E_c) :: (seg (Value.int .u32) 96 a_3.1 ((.bool q_4) :: (.int .i64 i_5) :: (.int .i64 i_6) :: (.bool q_7) :: (seg (Value.int .u32) 96 a_8.1 ((.bool q_9) :: (seg (Value.int .u32) 96 a_10.1 [(.int .i64 i_11)]))))))⟩, ⟨some B_b, 27, [(.int .i16 p0.fframe.fSteps), (.slice D_a p0.fframe.fHammers.length D_c)]⟩, ⟨some b_4, 68, [(.int .i16 x_1.fAt), (.int .i8 x_1.fPitch)]⟩, ⟨o_6, 2, row encI64 t_2 sp_8⟩]) ?_ ?_)))))))))
   ·refine jc_block ?_
    obtain ⟨t_24, ht_166, hr_137⟩ := bd h
    refine jc_loop (fun (s : (Arr 96 Int) × Bool × Int × Int × Bool × (Arr 96 Int) × Bool × (Arr 96 Int) × Int × Int) (x : Unit) => match s, x with | ⟨a_13, q_14, i_15, i_16, q_17, a_18, q_19, a_20, i_21, i_22⟩, _ => True) (fun (s : (Arr 96 Int) × Bool × Int × Int × Bool × (Arr 96 Int) × Bool × (Arr 96 Int) × Int × Int) (x : Unit) => match s, x with | ⟨a_13, q_14, i_15, i_16, q_17, a_18, q_19, a_20, i_21, i_22⟩, _ => [(0, [], (.pointer (some ⟨A_b, 0, none⟩))), (1, [], (.int .i64 i1)), (2, [], (.int .i64 made2)), (6, [], (.bool false)), (7, [], (.pointer (some ⟨b_4, 0, none⟩))), (8, [], (.slice (o_6.map fun b => ⟨b, 0, none⟩) t_2.length cap_7)), (9, [], (.int .i64 i_22))]) (fun (s : (Arr 96 Int) × Bool × Int × Int × Bool × (Arr 96 Int) × Bool × (Arr 96 Int) × Int × Int) (x : Unit) => match s, x with | ⟨a_13, q_14, i_15, i_16, q_17, a_18, q_19, a_20, i_21, i_22⟩, _ => [⟨some A_b, 83, ((.pointer (some ⟨B_b, 0, none⟩)) :: (.slice E_a p0.ftune.length E_c) :: (seg (Value.int .u32) 96 a_13.1 ((.bool q_14) :: (.int .i64 i_15) :: (.int .i64 i_16) :: (.bool q_17) :: (seg (Value.int .u32) 96 a_18.1 ((.bool q_19) :: (seg (Value.int .u32) 96 a_20.1 [(.int .i64 i_21)]))))))⟩, ⟨some B_b, 27, [(.int .i16 p0.fframe.fSteps), (.slice D_a p0.fframe.fHammers.length D_c)]⟩, ⟨some b_4, 68, [(.int .i16 x_1.fAt), (.int .i8 x_1.fPitch)]⟩, ⟨o_6, 2, row encI64 t_2 sp_8⟩]) ht_166 () trivial (by kernel_rfl) [0, 1, 2, 3] (by kernel_rfl) (by kernel_rfl) ?_
    rintro ⟨a_13, q_14, i_15, i_16, q_17, a_18, q_19, a_20, i_21, i_22⟩ _ y_138 _ h
    rw [spec_l03Pinner_from.l_23] at h
    refine jc_seq (jc_seq (jc_region (qh [0,0,0,0] (qe (jx_then (qi h (fun h => ?_) (fun h => ?_)))))))
    ·refine jc_skip (jx_then (jc_seq (jc_block (jc_seq (jc_seq (qg [⟨some A_b, 83, ((.pointer (some ⟨B_b, 0, none⟩)) :: (.slice E_a p0.ftune.length E_c) :: (seg (Value.int .u32) 96 a_13.1 ((.bool q_14) :: (.int .i64 i_15) :: (.int .i64 i_16) :: (.bool q_17) :: (seg (Value.int .u32) 96 a_18.1 ((.bool q_19) :: (seg (Value.int .u32) 96 a_20.1 [(.int .i64 i_21)]))))))⟩, ⟨some B_b, 27, [(.int .i16 p0.fframe.fSteps), (.slice D_a p0.fframe.fHammers.length D_c)]⟩, ⟨some b_4, 68, [(.int .i16 x_1.fAt), (.int .i8 x_1.fPitch)]⟩, ⟨o_6, 2, row encI64 t_2 sp_8⟩] 9 (qd [⟨0, 0, 0⟩,⟨1, 0, 0⟩,⟨2, 0, 0⟩,⟨3, 0, 0⟩,⟨4, 0, 0⟩,⟨5, 0, 0⟩,⟨6, 0, 0⟩,⟨7, 0, 0⟩,⟨8, 0, 0⟩] 0 [0, 1, 2, 3] (qz (jx_then (qi h (fun h => ?_) (fun h => ?_)))))))))))
     ·refine jc_seq (jc_region (qh [0,0,0] (tO (qs 0 [0] (jkO (qe (jx_then (jc_seq (jc_region (qh [0] (qe (jx_then (jc_ret (jx_thenr (jx_inr (jx_thenr (jx_leaver (.inl (true, (⟨(⟨p0.fframe.fSteps, p0.fframe.fHammers⟩ : GFrame), p0.ftune, a_13, q_14, i_15, i_16, true, a_18, q_19, a_20, i_21⟩ : Gl03Pinner))) (Option.some.inj h).symm (fun e_143 => ?_))))))))))))))))))
      subst e_143
      refine jx_inr (jx_thenr (jx_thenr ?_))
      obtain rfl := Option.some.inj hr_137
      exact qr [] (fun w hm => ⟨rfl, hm.pk [0, 1]⟩)
     ·refine jc_skip (jx_then (jc_seq (jc_region (qh [0,0,0,0,0,0,0] (tO (qs 0 [0] (jkO (qe (jx_then (jc_seq (jc_region (qh [0,0] ?_))))))))))))
      obtain ⟨x_25, hx_144, h⟩ := bd h
      refine tO (qx 0 (o_6.map fun b => ⟨b, 0, none⟩) 1 hx_144 rfl (spo ho_10 hx_144) (jkO (tO (ql 0 false (fun w hm => ((hm.ow 3 o_6 2 t_2 sp_8 (fun e => (ho_10 e).1) encI64_len).at hx_144)) (jkO ?_)))))
      obtain ⟨t_26, ht_145, h⟩ := bd h
      refine tO (pc 0 (fun w hm => spec_l03Bit.calls x_25 w _ ht_145) ?_)
      rintro w v w' hm ⟨rfl, hm'⟩
      refine ⟨_, hm.app hm', jkO ?_⟩
      clear hm hm'
      refine qh [0] (qe (jx_then (jc_seq (jc_region (qh [0,0] (qe (jx_then (jc_seq (jc_meet (fun (j : Int) => match j with | i_27 => spec_l03Pinner_from.k_28 self_ p0 i1 x_1 a_13 q_14 i_15 i_16 q_17 a_18 q_19 a_20 i_21 i_22 t_26 i_27 = some y_138) (fun (j : Int) => match j with | i_27 => [(0, [], (.pointer (some ⟨A_b, 0, none⟩))), (1, [], (.int .i64 i1)), (2, [], (.int .i64 made2)), (6, [], (.bool false)), (7, [], (.pointer (some ⟨b_4, 0, none⟩))), (8, [], (.slice (o_6.map fun b => ⟨b, 0, none⟩) t_2.length cap_7)), (9, [], (.int .i64 i_22)), (10, [], (.int .u32 t_26)), (11, [], (.int .i64 i_27))]) (fun (j : Int) => match j with | i_27 => [⟨some A_b, 83, ((.pointer (some ⟨B_b, 0, none⟩)) :: (.slice E_a p0.ftune.length E_c) :: (seg (Value.int .u32) 96 a_13.1 ((.bool q_14) :: (.int .i64 i_15) :: (.int .i64 (w64 (i_16 + 1))) :: (.bool q_17) :: (seg (Value.int .u32) 96 a_18.1 ((.bool q_19) :: (seg (Value.int .u32) 96 a_20.1 [(.int .i64 i_21)]))))))⟩, ⟨some B_b, 27, [(.int .i16 p0.fframe.fSteps), (.slice D_a p0.fframe.fHammers.length D_c)]⟩, ⟨some b_4, 68, [(.int .i16 x_1.fAt), (.int .i8 x_1.fPitch)]⟩, ⟨o_6, 2, row encI64 t_2 sp_8⟩]) ?_ ?_)))))))))
      ·refine jc_seq (qg [⟨some A_b, 83, ((.pointer (some ⟨B_b, 0, none⟩)) :: (.slice E_a p0.ftune.length E_c) :: (seg (Value.int .u32) 96 a_13.1 ((.bool q_14) :: (.int .i64 i_15) :: (.int .i64 (w64 (i_16 + 1))) :: (.bool q_17) :: (seg (Value.int .u32) 96 a_18.1 ((.bool q_19) :: (seg (Value.int .u32) 96 a_20.1 [(.int .i64 i_21)]))))))⟩, ⟨some B_b, 27, [(.int .i16 p0.fframe.fSteps), (.slice D_a p0.fframe.fHammers.length D_c)]⟩, ⟨some b_4, 68, [(.int .i16 x_1.fAt), (.int .i8 x_1.fPitch)]⟩, ⟨o_6, 2, row encI64 t_2 sp_8⟩] 10 (qd [⟨0, 0, 0⟩,⟨1, 0, 0⟩,⟨2, 2, 0⟩,⟨3, 0, 0⟩,⟨4, 0, 0⟩,⟨7, 0, 0⟩] 4 [0, 1, 2, 3] ?_))
       obtain ⟨x_34, hx_163, h⟩ := bd h
       refine qv 5 0 [0, 1, 2, 3] (fun w hm => idx_run (a := (some ⟨A_b, 2, none⟩)) (len := 96) (s := 1) (j := x_1.fAt) (by kernel_rfl) (ix_some hx_163).1 (ltn hx_163 a_13.2) rfl) (qv 6 0 [0, 1, 2, 3] (fun w hm => ld_run (b := aB (some ⟨A_b, 2, none⟩)) (off := (aO (some ⟨A_b, 2, none⟩) + x_1.fAt.toNat * 1)) (s := 1) (agg := false) (vs := (encU32 x_34)) (by kernel_rfl) (by kernel_rfl) (.inr rfl) ((hm.segRow 0 A_b 2 (Value.int .u32) (enc := encU32) (fun _ => rfl) a_13).at hx_163)) (qd [⟨8, 0, 0⟩,⟨9, 0, 0⟩] 0 [0, 1, 2, 3] (qz (jx_then (qi h (fun h => ?_) (fun h => ?_))))))
       ·exact jc_region (qh [0,0,0] (qe (qm (w64 (made2 + 1)) h [0, 1, 2, 3])))
       ·exact jc_skip (qm made2 h [0, 1, 2, 3])
      ·rintro i_27 h
       replace h : spec_l03Pinner_from.k_28 self_ p0 i1 x_1 a_13 q_14 i_15 i_16 q_17 a_18 q_19 a_20 i_21 i_22 t_26 i_27 = some y_138 := h
       rw [spec_l03Pinner_from.k_28] at h
       refine jx_then (jc_seq (jc_seq (jc_region (qf [(0, 0), (0, 0), (0, 0), (0, 0), (0, 0), (0, 1), (0, 1), (0, 1), (0, 1), (0, 0), (0, 0), (0, 1), (0, 1), (0, 1), (0, 1), (0, 1), (0, 1), (0, 0)] (qe (jx_then (qi h (fun h => ?_) (fun h => ?_))))))))
       ·exact jc_exit (jx_thenx (jx_ine (jx_then (jc_region (qh [0,0,0] (qe (qb (a_13, q_14, i_15, (w64 (i_16 + 1)), q_17, a_18, q_19, a_20, i_21, (w64 (i_22 + 1))) () h trivial [0, 1, 2, 3])))))))
       ·refine jc_skip (jx_then (jc_seq (qg [⟨some B_b, 27, [(.int .i16 p0.fframe.fSteps), (.slice D_a p0.fframe.fHammers.length D_c)]⟩, ⟨some b_4, 68, [(.int .i16 x_1.fAt), (.int .i8 x_1.fPitch)]⟩, ⟨o_6, 2, row encI64 t_2 sp_8⟩] 13 (qd [⟨0, 0, 0⟩,⟨1, 0, 0⟩,⟨2, 1, 0⟩,⟨3, 0, 0⟩,⟨4, 0, 0⟩,⟨7, 0, 0⟩,⟨9, 0, 0⟩,⟨10, 0, 0⟩] 5 [1, 2, 3] ?_))))
        obtain ⟨x_29, hx_152, h⟩ := bd h
        refine qv 5 0 [1, 2, 3] (fun w hm => idx_run (a := (some ⟨A_b, 102, none⟩)) (len := 96) (s := 1) (j := x_1.fAt) (by kernel_rfl) (ix_some hx_152).1 (ltn hx_152 a_18.2) rfl) (tD 6 (ql 0 false (fun w hm => ((hm.segRow 0 A_b 102 (Value.int .u32) (enc := encU32) (fun _ => rfl) a_18).at hx_152)) (kD [1, 2, 3] (qd [⟨8, 0, 0⟩] 2 [1, 2, 3] ?_))))
        obtain ⟨x_30, hx_153, h⟩ := bd h
        refine qv 11 0 [1, 2, 3] (fun w hm => idx_run (a := (some ⟨A_b, 102, none⟩)) (len := 96) (s := 1) (j := x_1.fAt) (by kernel_rfl) (ix_some hx_153).1 (ltn hx_153 a_18.2) rfl) (tD 12 (p_stE 0 0 A_b 102 (Value.int .u32) (enc := encU32) (fun _ => rfl) a_18 x_1.fAt (bOr .u32 x_29 t_26) hx_153 (kD [1, 2, 3] (qz (jx_then (jc_seq (jc_seq (jc_region (qh [0,0,0,0] ?_)))))))))
        obtain ⟨t_31, ht_156, h⟩ := bd h
        refine tO (pc 0 (fun w hm => hself (⟨(⟨p0.fframe.fSteps, p0.fframe.fHammers⟩ : GFrame), p0.ftune, a_13, q_14, i_15, (w64 (i_16 + 1)), q_17, (Arr.set a_18 x_1.fAt (bOr .u32 x_29 t_26)), q_19, a_20, i_21⟩ : Gl03Pinner) (w64 (i1 + 1)) i_27 w _ D_c (hm.exRowW D_h D_ha) rfl E_c (hm.exRowW E_h E_ha) rfl A_b B_b (hm.pass (N := [⟨some A_b, 83, ((.pointer (some ⟨B_b, 0, none⟩)) :: (.slice E_a p0.ftune.length E_c) :: (seg (Value.int .u32) 96 a_13.1 ((.bool q_14) :: (.int .i64 i_15) :: (.int .i64 (w64 (i_16 + 1))) :: (.bool q_17) :: (seg (Value.int .u32) 96 (Arr.set a_18 x_1.fAt (bOr .u32 x_29 t_26)).1 ((.bool q_19) :: (seg (Value.int .u32) 96 a_20.1 [(.int .i64 i_21)]))))))⟩, ⟨some B_b, 27, [(.int .i16 p0.fframe.fSteps), (.slice D_a p0.fframe.fHammers.length D_c)]⟩]) [0, 1] (by kernel_rfl) (by kernel_rfl)) (hm.exApart (N := [⟨some A_b, 83, ((.pointer (some ⟨B_b, 0, none⟩)) :: (.slice E_a p0.ftune.length E_c) :: (seg (Value.int .u32) 96 a_13.1 ((.bool q_14) :: (.int .i64 i_15) :: (.int .i64 (w64 (i_16 + 1))) :: (.bool q_17) :: (seg (Value.int .u32) 96 (Arr.set a_18 x_1.fAt (bOr .u32 x_29 t_26)).1 ((.bool q_19) :: (seg (Value.int .u32) 96 a_20.1 [(.int .i64 i_21)]))))))⟩, ⟨some B_b, 27, [(.int .i16 p0.fframe.fSteps), (.slice D_a p0.fframe.fHammers.length D_c)]⟩]) D_h D_ha [0, 1] (by kernel_rfl)) (hm.exApart (N := [⟨some A_b, 83, ((.pointer (some ⟨B_b, 0, none⟩)) :: (.slice E_a p0.ftune.length E_c) :: (seg (Value.int .u32) 96 a_13.1 ((.bool q_14) :: (.int .i64 i_15) :: (.int .i64 (w64 (i_16 + 1))) :: (.bool q_17) :: (seg (Value.int .u32) 96 (Arr.set a_18 x_1.fAt (bOr .u32 x_29 t_26)).1 ((.bool q_19) :: (seg (Value.int .u32) 96 a_20.1 [(.int .i64 i_21)]))))))⟩, ⟨some B_b, 27, [(.int .i16 p0.fframe.fSteps), (.slice D_a p0.fframe.fHammers.length D_c)]⟩]) E_h E_ha [0, 1] (by kernel_rfl)) ht_156) ?_)
        rintro w v w' hm ⟨rfl, hm'⟩
        refine ⟨_, hm.appW (ps := [(0, ⟨some A_b, 83, ((.pointer (some ⟨B_b, 0, none⟩)) :: (.slice E_a p0.ftune.length E_c) :: (seg (Value.int .u32) 96 t_31.2.fold.1 ((.bool t_31.2.flike) :: (.int .i64 t_31.2.fbudget) :: (.int .i64 t_31.2.ftries) :: (.bool t_31.2.fover) :: (seg (Value.int .u32) 96 t_31.2.fdrum.1 ((.bool t_31.2.ffound) :: (seg (Value.int .u32) 96 t_31.2.fbest.1 [(.int .i64 t_31.2.fleast)]))))))⟩), (1, ⟨some B_b, 27, [(.int .i16 p0.fframe.fSteps), (.slice D_a p0.fframe.fHammers.length D_c)]⟩)]) (N := []) hm' (by kernel_rfl) (by kernel_rfl), jkO ?_⟩
        clear hm hm'
        refine qe (jx_then (qi h (fun h => ?_) (fun h => ?_)))
        ·refine jc_seq (jc_region (qh [0] (qe (jx_then (jc_ret (jx_thenr (jx_inr (jx_thenr (jx_leaver (.inl (true, (⟨(⟨p0.fframe.fSteps, p0.fframe.fHammers⟩ : GFrame), p0.ftune, t_31.2.fold, t_31.2.flike, t_31.2.fbudget, t_31.2.ftries, t_31.2.fover, t_31.2.fdrum, t_31.2.ffound, t_31.2.fbest, t_31.2.fleast⟩ : Gl03Pinner))) (Option.some.inj h).symm (fun e_158 => ?_))))))))))
         subst e_158
         refine jx_inr (jx_thenr (jx_thenr ?_))
         obtain rfl := Option.some.inj hr_137
         exact qr [] (fun w hm => ⟨rfl, hm.pk [0, 1]⟩)
        ·refine jc_skip (jx_then (qg [⟨some B_b, 27, [(.int .i16 p0.fframe.fSteps), (.slice D_a p0.fframe.fHammers.length D_c)]⟩, ⟨some b_4, 68, [(.int .i16 x_1.fAt), (.int .i8 x_1.fPitch)]⟩, ⟨o_6, 2, row encI64 t_2 sp_8⟩] 13 (qd [⟨0, 0, 0⟩,⟨1, 0, 0⟩,⟨2, 1, 0⟩,⟨3, 0, 0⟩,⟨4, 0, 0⟩,⟨7, 0, 0⟩,⟨9, 0, 0⟩,⟨10, 0, 0⟩] 5 [1, 2, 3] ?_)))
         obtain ⟨x_32, hx_161, h⟩ := bd h
         refine qv 5 0 [1, 2, 3] (fun w hm => idx_run (a := (some ⟨A_b, 102, none⟩)) (len := 96) (s := 1) (j := x_1.fAt) (by kernel_rfl) (ix_some hx_161).1 (ltn hx_161 t_31.2.fdrum.2) rfl) (tD 6 (ql 0 false (fun w hm => ((hm.segRow 0 A_b 102 (Value.int .u32) (enc := encU32) (fun _ => rfl) t_31.2.fdrum).at hx_161)) (kD [1, 2, 3] (qd [⟨8, 0, 0⟩] 2 [1, 2, 3] ?_))))
         obtain ⟨x_33, hx_162, h⟩ := bd h
         exact qv 11 0 [1, 2, 3] (fun w hm => idx_run (a := (some ⟨A_b, 102, none⟩)) (len := 96) (s := 1) (j := x_1.fAt) (by kernel_rfl) (ix_some hx_162).1 (ltn hx_162 t_31.2.fdrum.2) rfl) (tD 12 (p_stE 0 0 A_b 102 (Value.int .u32) (enc := encU32) (fun _ => rfl) t_31.2.fdrum x_1.fAt (bClr .u32 x_32 t_26) hx_162 (kD [1, 2, 3] (qz (jx_inn (jx_then (jc_region (qh [0,0,0] (qe (qb (t_31.2.fold, t_31.2.flike, t_31.2.fbudget, t_31.2.ftries, t_31.2.fover, (Arr.set t_31.2.fdrum x_1.fAt (bClr .u32 x_32 t_26)), t_31.2.ffound, t_31.2.fbest, t_31.2.fleast, (w64 (i_22 + 1))) () h trivial [0, 1, 2, 3]))))))))))
    ·refine jc_exit (jx_thenx (jx_leave (.inr (a_13, q_14, i_15, i_16, q_17, a_18, q_19, a_20, i_21)) (Option.some.inj h).symm (fun e_165 => ?_)))
     subst e_165
     exact jx_ine (qm ⟨a_13, q_14, i_15, i_16, q_17, a_18, q_19, a_20, i_21⟩ hr_137 [0, 1, 2, 3])
   ·rintro ⟨a_3, q_4, i_5, i_6, q_7, a_8, q_9, a_10, i_11⟩ h
    replace h : spec_l03Pinner_from.k_12 p0 a_3 q_4 i_5 i_6 q_7 a_8 q_9 a_10 i_11 = some r := h
    rw [spec_l03Pinner_from.k_12] at h
    refine jx_then (jc_seq (jc_region (qh [0] (qe (jx_then (jc_ret ?_))))))
    obtain rfl := Option.some.inj h
    exact qr [] (fun w hm => ⟨rfl, hm.pk [0, 1]⟩)
theorem spec_l03Pinner_from.rec_calls (fu : Nat) : ∀ (p0 : Gl03Pinner) (i1 : Int) (made2 : Int) (w : World) (r : Bool × Gl03Pinner) {D_a : Option Addr} {D_an : Nat} (D_c : Nat) (D_h : Rw w D_a 2 encGHammer p0.fframe.fHammers) (D_hn : p0.fframe.fHammers.length = D_an) {E_a : Option Addr} {E_an : Nat} (E_c : Nat) (E_h : Rw w E_a 2 encGNote p0.ftune) (E_hn : p0.ftune.length = E_an) (A_b : Nat) (B_b : Nat) (hm0 : Mem w (bs [some A_b, some B_b]) [⟨some A_b, 83, ((.pointer (some ⟨B_b, 0, none⟩)) :: (.slice E_a E_an E_c) :: (seg (Value.int .u32) 96 p0.fold.1 ((.bool p0.flike) :: (.int .i64 p0.fbudget) :: (.int .i64 p0.ftries) :: (.bool p0.fover) :: (seg (Value.int .u32) 96 p0.fdrum.1 ((.bool p0.ffound) :: (seg (Value.int .u32) 96 p0.fbest.1 [(.int .i64 p0.fleast)]))))))⟩, ⟨some B_b, 27, [(.int .i16 p0.fframe.fSteps), (.slice D_a D_an D_c)]⟩] w) (D_ha : p0.fframe.fHammers ≠ [] → aB D_a ∉ bs [some A_b, some B_b]) (E_ha : p0.ftune ≠ [] → aB E_a ∉ bs [some A_b, some B_b]) (h : spec_l03Pinner_from.rec_ fu p0 i1 made2 = some r),
    Calls Tryz.prog 37 #[(.pointer (some ⟨A_b, 0, none⟩)), (.int .i64 i1), (.int .i64 made2)] w fun e w' => ∃ v, e = .returned v ∧ (v = (.bool r.1) ∧ Mem w (bs [some A_b, some B_b]) [⟨some A_b, 83, ((.pointer (some ⟨B_b, 0, none⟩)) :: (.slice E_a E_an E_c) :: (seg (Value.int .u32) 96 r.2.fold.1 ((.bool r.2.flike) :: (.int .i64 r.2.fbudget) :: (.int .i64 r.2.ftries) :: (.bool r.2.fover) :: (seg (Value.int .u32) 96 r.2.fdrum.1 ((.bool r.2.ffound) :: (seg (Value.int .u32) 96 r.2.fbest.1 [(.int .i64 r.2.fleast)]))))))⟩, ⟨some B_b, 27, [(.int .i16 p0.fframe.fSteps), (.slice D_a D_an D_c)]⟩] w') := by
  induction fu with
  | zero => intros; rename_i h; cases h
  | succ fu ih => exact @spec_l03Pinner_from.step_calls _ (spec_l03Pinner_from.rec_ fu) @ih
theorem spec_l03Pinner_from.calls (p0 : Gl03Pinner) (i1 : Int) (made2 : Int) (w : World) (r : Bool × Gl03Pinner) {D_a : Option Addr} {D_an : Nat} (D_c : Nat) (D_h : Rw w D_a 2 encGHammer p0.fframe.fHammers) (D_hn : p0.fframe.fHammers.length = D_an) {E_a : Option Addr} {E_an : Nat} (E_c : Nat) (E_h : Rw w E_a 2 encGNote p0.ftune) (E_hn : p0.ftune.length = E_an) (A_b : Nat) (B_b : Nat) (hm0 : Mem w (bs [some A_b, some B_b]) [⟨some A_b, 83, ((.pointer (some ⟨B_b, 0, none⟩)) :: (.slice E_a E_an E_c) :: (seg (Value.int .u32) 96 p0.fold.1 ((.bool p0.flike) :: (.int .i64 p0.fbudget) :: (.int .i64 p0.ftries) :: (.bool p0.fover) :: (seg (Value.int .u32) 96 p0.fdrum.1 ((.bool p0.ffound) :: (seg (Value.int .u32) 96 p0.fbest.1 [(.int .i64 p0.fleast)]))))))⟩, ⟨some B_b, 27, [(.int .i16 p0.fframe.fSteps), (.slice D_a D_an D_c)]⟩] w) (D_ha : p0.fframe.fHammers ≠ [] → aB D_a ∉ bs [some A_b, some B_b]) (E_ha : p0.ftune ≠ [] → aB E_a ∉ bs [some A_b, some B_b]) (h : spec_l03Pinner_from p0 i1 made2 = some r) :
    Calls Tryz.prog 37 #[(.pointer (some ⟨A_b, 0, none⟩)), (.int .i64 i1), (.int .i64 made2)] w fun e w' => ∃ v, e = .returned v ∧ (v = (.bool r.1) ∧ Mem w (bs [some A_b, some B_b]) [⟨some A_b, 83, ((.pointer (some ⟨B_b, 0, none⟩)) :: (.slice E_a E_an E_c) :: (seg (Value.int .u32) 96 r.2.fold.1 ((.bool r.2.flike) :: (.int .i64 r.2.fbudget) :: (.int .i64 r.2.ftries) :: (.bool r.2.fover) :: (seg (Value.int .u32) 96 r.2.fdrum.1 ((.bool r.2.ffound) :: (seg (Value.int .u32) 96 r.2.fbest.1 [(.int .i64 r.2.fleast)]))))))⟩, ⟨some B_b, 27, [(.int .i16 p0.fframe.fSteps), (.slice D_a D_an D_c)]⟩] w') :=
  spec_l03Pinner_from.rec_calls 200 p0 i1 made2 w r D_c D_h D_hn E_c E_h E_hn A_b B_b hm0 D_ha E_ha h
/-! ### spec.PinLike -/
def spec_PinLike.k_3 (f0 : GFrame) (old1 : Arr 96 Int) (t2 : List GNote) (budget3 : Int) (i_2 : Int) : Option ((Arr 96 Int) × Int × Int × Int) := (if (i_2 != 0) = true then some ((Arr.rep 96 0), 0, 0, i_2) else (spec_l03Pinner_from (⟨f0, t2, old1, true, budget3, 0, false, (Arr.rep 96 0), false, (Arr.rep 96 0), 0⟩ : Gl03Pinner) 0 0).bind fun t_4 => (if t_4.2.fover = true then some ((Arr.rep 96 0), 0, 0, 7) else (if (!t_4.2.ffound) = true then some ((Arr.rep 96 0), 0, 0, 6) else some (t_4.2.fbest, t_4.2.fleast, t_4.2.ftries, 0))))
def spec_PinLike (f0 : GFrame) (old1 : Arr 96 Int) (t2 : List GNote) (budget3 : Int) : Option ((Arr 96 Int) × Int × Int × Int) := (spec_l03Whole f0 t2 old1).bind fun t_1 => (if (t_1 == 0) = true then (spec_l03Fits f0 t2 budget3).bind fun t_5 => spec_PinLike.k_3 f0 old1 t2 budget3 t_5 else spec_PinLike.k_3 f0 old1 t2 budget3 t_1)
theorem spec_PinLike.calls (f0 : GFrame) (old1 : Arr 96 Int) (t2 : List GNote) (budget3 : Int) (w : World) (r : (Arr 96 Int) × Int × Int × Int) {C_a : Option Addr} {C_an : Nat} (C_c : Nat) (C_h : Rw w C_a 2 encGHammer f0.fHammers) (C_hn : f0.fHammers.length = C_an) {E_a : Option Addr} {E_an : Nat} (E_c : Nat) (E_h : Rw w E_a 2 encGNote t2) (E_hn : t2.length = E_an) (h : spec_PinLike f0 old1 t2 budget3 = some r) :
    Calls Tryz.prog 9 #[(.agg #[(.int .i16 f0.fSteps), (.slice C_a C_an C_c)]), (.agg (row encU32 old1.1 []).toArray), (.slice E_a E_an E_c), (.int .i64 budget3)] w fun e w' => ∃ v, e = .returned v ∧ (v = .tuple #[(.agg (row encU32 r.1.1 []).toArray), (.int .i64 r.2.1), (.int .i64 r.2.2.1), (.int .i64 r.2.2.2)] ∧ Mem w [] [] w') := by
  subst C_hn E_hn
  rw [spec_PinLike] at h
  refine enter (args := [(.agg #[(.int .i16 f0.fSteps), (.slice C_a f0.fHammers.length C_c)]), (.agg (row encU32 old1.1 []).toArray), (.slice E_a t2.length E_c), (.int .i64 budget3)]) Tryz.func9 rfl Tryz.ntmps9 (by kernel_rfl) (L := []) (W := []) (Mem.start w) ?_
  refine jc_seq (jc_region (tO (qa 0 (fun b_1 => jkO (tO (qa 0 (fun b_2 => jkO (tO (qa 0 (fun b_3 => jkO (qh [0,0,0] (qe (jx_then (jc_seq (jc_region (qh [0] ?_))))))))))))))))
  obtain ⟨t_1, ht_4, h⟩ := bd h
  refine tO (pc 0 (fun w hm => spec_l03Whole.calls f0 t2 old1 w _ C_c (hm.xr C_h) rfl E_c (hm.xr E_h) rfl (hm.ow 1 (some b_2) 34 old1.1 [] (fun e => nomatch e) encU32_len) b_1 (hm.pass (N := [⟨some b_1, 27, [(.int .i16 f0.fSteps), (.slice C_a f0.fHammers.length C_c)]⟩]) [0] (by kernel_rfl) (by kernel_rfl)) (hm.exApart (N := [⟨some b_1, 27, [(.int .i16 f0.fSteps), (.slice C_a f0.fHammers.length C_c)]⟩]) C_h (fun _ => List.not_mem_nil) [0] (by kernel_rfl)) (hm.exApart (N := [⟨some b_1, 27, [(.int .i16 f0.fSteps), (.slice C_a f0.fHammers.length C_c)]⟩]) E_h (fun _ => List.not_mem_nil) [0] (by kernel_rfl)) (hm.ownApart (S := Int) (N := [⟨some b_1, 27, [(.int .i16 f0.fSteps), (.slice C_a f0.fHammers.length C_c)]⟩]) (hh := 1) (o := (some b_2)) (T := 34) (cs := row encU32 old1.1 []) (xs := old1.1) (by kernel_rfl) (fun e => nomatch e) [0] (by kernel_rfl) (by kernel_rfl)) ht_4) ?_)
  rintro w v w' hm ⟨rfl, hm'⟩
  refine ⟨_, hm.appW (ps := [(0, ⟨some b_1, 27, [(.int .i16 f0.fSteps), (.slice C_a f0.fHammers.length C_c)]⟩)]) (N := []) hm' (by kernel_rfl) (by kernel_rfl), jkO ?_⟩
  clear hm hm'
  refine qh [0] (qe (jx_then (jc_seq (jc_meet (fun (j : Int) => match j with | i_2 => spec_PinLike.k_3 f0 old1 t2 budget3 i_2 = some r) (fun (j : Int) => match j with | i_2 => [(2, [], (.slice E_a t2.length E_c)), (3, [], (.int .i64 budget3)), (4, [], (.pointer (some ⟨b_1, 0, none⟩))), (5, [], (.pointer (some ⟨b_2, 0, none⟩))), (8, [], (.pointer (some ⟨b_3, 0, none⟩))), (9, [], (.int .i64 0)), (10, [], (.int .i64 0)), (11, [], (.int .i64 0)), (12, [], (.int .i64 i_2))]) (fun (j : Int) => match j with | i_2 => [⟨some b_1, 27, [(.int .i16 f0.fSteps), (.slice C_a f0.fHammers.length C_c)]⟩, ⟨(some b_2), 34, row encU32 old1.1 []⟩, ⟨(some b_3), 34, row encU32 ((Arr.rep 96 0).1) []⟩]) ?_ ?_))))
  ·refine jc_seq (jc_region (qh [0,0] (qe (jx_then (qi h (fun h => ?_) (fun h => ?_))))))
   ·refine jc_region (qh [0,0] ?_)
    obtain ⟨t_5, ht_16, h⟩ := bd h
    refine tO (pc 0 (fun w hm => spec_l03Fits.calls f0 t2 budget3 w _ C_c (hm.xr C_h) rfl E_c (hm.xr E_h) rfl b_1 (hm.pass (N := [⟨some b_1, 27, [(.int .i16 f0.fSteps), (.slice C_a f0.fHammers.length C_c)]⟩]) [0] (by kernel_rfl) (by kernel_rfl)) (hm.exApart (N := [⟨some b_1, 27, [(.int .i16 f0.fSteps), (.slice C_a f0.fHammers.length C_c)]⟩]) C_h (fun _ => List.not_mem_nil) [0] (by kernel_rfl)) (hm.exApart (N := [⟨some b_1, 27, [(.int .i16 f0.fSteps), (.slice C_a f0.fHammers.length C_c)]⟩]) E_h (fun _ => List.not_mem_nil) [0] (by kernel_rfl)) ht_16) ?_)
    rintro w v w' hm ⟨rfl, hm'⟩
    refine ⟨_, hm.appW (ps := [(0, ⟨some b_1, 27, [(.int .i16 f0.fSteps), (.slice C_a f0.fHammers.length C_c)]⟩)]) (N := []) hm' (by kernel_rfl) (by kernel_rfl), jkO ?_⟩
    clear hm hm'
    exact qh [0] (qe (qm t_5 h [0, 1, 2]))
   ·exact jc_skip (qm t_1 h [0, 1, 2])
  ·rintro i_2 h
   replace h : spec_PinLike.k_3 f0 old1 t2 budget3 i_2 = some r := h
   rw [spec_PinLike.k_3] at h
   refine jx_then (jc_seq (jc_seq (jc_region (qh [0,0] (qe (jx_then (qi h (fun h => ?_) (fun h => ?_))))))))
   ·refine jc_seq (jc_region (qh [0,0] (tO (p_sA 0 2 b_3 96 1 34 encU32 (Arr.rep 96 0) (Arr.rep 96 0) (by kernel_rfl) (by kernel_rfl) (by kernel_rfl) encU32_len encU32_cell (by kernel_rfl) (jkO (qh [0,0,0] (qe (jx_then (jc_ret (jx_thenr ?_))))))))))
    obtain rfl := Option.some.inj h
    exact jx_retV rfl (rq_arr (b := b_3) (T' := 34) (hh := 2) (mm := 1) encU32 (Arr.rep 96 0) (by kernel_rfl) (by kernel_rfl) encU32_len (by kernel_rfl) (rq_tmp (by kernel_rfl) (rq_tmp (by kernel_rfl) (rq_tmp (by kernel_rfl) rq_nil)))) (fun w hm => ⟨rfl, hm.pk []⟩)
   ·refine jc_skip (jx_then (jc_seq (jc_region (qh [0] (tO (p_ldA 0 1 b_2 96 1 34 encU32 old1 (by kernel_rfl) (by kernel_rfl) (by kernel_rfl) encU32_len (by kernel_rfl) (jkO (qh [0] (jo_segE 26 96 (Value.int .u32) (enc := encU32) (fun _ => rfl) old1 (qh [0] (tO (qa 0 (fun b_9 => jkO (qh [0] (qe (jx_then (jc_seq (jc_region (qh [0] ?_)))))))))))))))))))
    obtain ⟨t_4, ht_10, h⟩ := bd h
    refine tO (pc 0 (fun w hm => spec_l03Pinner_from.calls (⟨f0, t2, old1, true, budget3, 0, false, (Arr.rep 96 0), false, (Arr.rep 96 0), 0⟩ : Gl03Pinner) 0 0 w _ C_c (hm.xr C_h) rfl E_c (hm.xr E_h) rfl b_9 b_1 (hm.pass (N := [⟨some b_9, 83, ((.pointer (some ⟨b_1, 0, none⟩)) :: (.slice E_a t2.length E_c) :: (seg (Value.int .u32) 96 old1.1 ((.bool true) :: (.int .i64 budget3) :: (.int .i64 0) :: (.bool false) :: (seg (Value.int .u32) 96 (Arr.rep 96 0).1 ((.bool false) :: (seg (Value.int .u32) 96 (Arr.rep 96 0).1 [(.int .i64 0)]))))))⟩, ⟨some b_1, 27, [(.int .i16 f0.fSteps), (.slice C_a f0.fHammers.length C_c)]⟩]) [3, 0] (by kernel_rfl) (by kernel_rfl)) (hm.exApart (N := [⟨some b_9, 83, ((.pointer (some ⟨b_1, 0, none⟩)) :: (.slice E_a t2.length E_c) :: (seg (Value.int .u32) 96 old1.1 ((.bool true) :: (.int .i64 budget3) :: (.int .i64 0) :: (.bool false) :: (seg (Value.int .u32) 96 (Arr.rep 96 0).1 ((.bool false) :: (seg (Value.int .u32) 96 (Arr.rep 96 0).1 [(.int .i64 0)]))))))⟩, ⟨some b_1, 27, [(.int .i16 f0.fSteps), (.slice C_a f0.fHammers.length C_c)]⟩]) C_h (fun _ => List.not_mem_nil) [3, 0] (by kernel_rfl)) (hm.exApart (N := [⟨some b_9, 83, ((.pointer (some ⟨b_1, 0, none⟩)) :: (.slice E_a t2.length E_c) :: (seg (Value.int .u32) 96 old1.1 ((.bool true) :: (.int .i64 budget3) :: (.int .i64 0) :: (.bool false) :: (seg (Value.int .u32) 96 (Arr.rep 96 0).1 ((.bool false) :: (seg (Value.int .u32) 96 (Arr.rep 96 0).1 [(.int .i64 0)]))))))⟩, ⟨some b_1, 27, [(.int .i16 f0.fSteps), (.slice C_a f0.fHammers.length C_c)]⟩]) E_h (fun _ => List.not_mem_nil) [3, 0] (by kernel_rfl)) ht_10) ?_)
    rintro w v w' hm ⟨rfl, hm'⟩
    refine ⟨_, hm.appW (ps := [(3, ⟨some b_9, 83, ((.pointer (some ⟨b_1, 0, none⟩)) :: (.slice E_a t2.length E_c) :: (seg (Value.int .u32) 96 t_4.2.fold.1 ((.bool t_4.2.flike) :: (.int .i64 t_4.2.fbudget) :: (.int .i64 t_4.2.ftries) :: (.bool t_4.2.fover) :: (seg (Value.int .u32) 96 t_4.2.fdrum.1 ((.bool t_4.2.ffound) :: (seg (Value.int .u32) 96 t_4.2.fbest.1 [(.int .i64 t_4.2.fleast)]))))))⟩), (0, ⟨some b_1, 27, [(.int .i16 f0.fSteps), (.slice C_a f0.fHammers.length C_c)]⟩)]) (N := []) hm' (by kernel_rfl) (by kernel_rfl), jkO ?_⟩
    clear hm hm'
    refine qe (jx_then (jc_seq (jc_seq (jc_region (qh [0,0,0,3] (qe (jx_then (qi h (fun h => ?_) (fun h => ?_)))))))))
    ·refine jc_seq (jc_region (qh [0] (tO (p_sA 0 2 b_3 96 1 34 encU32 (Arr.rep 96 0) (Arr.rep 96 0) (by kernel_rfl) (by kernel_rfl) (by kernel_rfl) encU32_len encU32_cell (by kernel_rfl) (jkO (qh [0,0,0] (qe (jx_then (jc_ret (jx_thenr ?_))))))))))
     obtain rfl := Option.some.inj h
     exact jx_retV rfl (rq_arr (b := b_3) (T' := 34) (hh := 2) (mm := 1) encU32 (Arr.rep 96 0) (by kernel_rfl) (by kernel_rfl) encU32_len (by kernel_rfl) (rq_tmp (by kernel_rfl) (rq_tmp (by kernel_rfl) (rq_tmp (by kernel_rfl) rq_nil)))) (fun w hm => ⟨rfl, hm.pk []⟩)
    ·refine jc_skip (jx_then (jc_seq (jc_seq (jc_region (qh [0,0,0,3,0] (qe (jx_then (qi h (fun h => ?_) (fun h => ?_)))))))))
     ·refine jc_seq (jc_region (qh [0] (tO (p_sA 0 2 b_3 96 1 34 encU32 (Arr.rep 96 0) (Arr.rep 96 0) (by kernel_rfl) (by kernel_rfl) (by kernel_rfl) encU32_len encU32_cell (by kernel_rfl) (jkO (qh [0,0,0] (qe (jx_then (jc_ret (jx_thenr ?_))))))))))
      obtain rfl := Option.some.inj h
      exact jx_retV rfl (rq_arr (b := b_3) (T' := 34) (hh := 2) (mm := 1) encU32 (Arr.rep 96 0) (by kernel_rfl) (by kernel_rfl) encU32_len (by kernel_rfl) (rq_tmp (by kernel_rfl) (rq_tmp (by kernel_rfl) (rq_tmp (by kernel_rfl) rq_nil)))) (fun w hm => ⟨rfl, hm.pk []⟩)
     ·refine jc_skip (jx_then (jc_seq (qg [⟨some b_1, 27, [(.int .i16 f0.fSteps), (.slice C_a f0.fHammers.length C_c)]⟩, ⟨(some b_2), 34, row encU32 old1.1 []⟩, ⟨some b_9, 83, ((.pointer (some ⟨b_1, 0, none⟩)) :: (.slice E_a t2.length E_c) :: (seg (Value.int .u32) 96 t_4.2.fold.1 ((.bool t_4.2.flike) :: (.int .i64 t_4.2.fbudget) :: (.int .i64 t_4.2.ftries) :: (.bool t_4.2.fover) :: (seg (Value.int .u32) 96 t_4.2.fdrum.1 ((.bool t_4.2.ffound) :: (seg (Value.int .u32) 96 t_4.2.fbest.1 [(.int .i64 t_4.2.fleast)]))))))⟩] 16 (qd [⟨0, 0, 0⟩,⟨1, 0, 0⟩,⟨2, 0, 0⟩,⟨4, 0, 0⟩,⟨5, 0, 0⟩,⟨6, 0, 0⟩,⟨7, 2, 0⟩,⟨8, 0, 0⟩,⟨9, 0, 0⟩,⟨10, 0, 0⟩,⟨11, 2, 0⟩] 5 [0, 1, 3] (qv 3 0 [0, 1, 3] (fun w hm => ld_run (b := b_9) (off := 199) (s := 96) (agg := true) (vs := row encU32 t_4.2.fbest.1 []) (by kernel_rfl) ((row_len encU32_len t_4.2.fbest).trans rfl) (.inl rfl) (hm.segAt 2 b_9 199 (Value.int .u32) (fun _ => rfl) t_4.2.fbest)) (tD 12 (p_sA 0 2 b_3 96 1 34 encU32 (Arr.rep 96 0) t_4.2.fbest (by kernel_rfl) (by kernel_rfl) (by kernel_rfl) encU32_len encU32_cell (by kernel_rfl) (kD [0, 1, 3] (qd [⟨13, 0, 0⟩,⟨14, 0, 0⟩,⟨15, 0, 0⟩] 0 [0, 1, 3] (qz (jx_then (jc_ret ?_))))))))))))
      obtain rfl := Option.some.inj h
      exact jx_retV rfl (rq_arr (b := b_3) (T' := 34) (hh := 2) (mm := 1) encU32 t_4.2.fbest (by kernel_rfl) (by kernel_rfl) encU32_len (by kernel_rfl) (rq_tmp (by kernel_rfl) (rq_tmp (by kernel_rfl) (rq_tmp (by kernel_rfl) rq_nil)))) (fun w hm => ⟨rfl, hm.pk []⟩)
/-! ### math/bits.OnesCount32 -/
def math_bits_OnesCount32 (x0 : Int) : Option (Int) := (sIx (ByteArray.mk #[0, 1, 1, 2, 1, 2, 2, 3, 1, 2, 2, 3, 2, 3, 3, 4, 1, 2, 2, 3, 2, 3, 3, 4, 2, 3, 3, 4, 3, 4, 4, 5, 1, 2, 2, 3, 2, 3, 3, 4, 2, 3, 3, 4, 3, 4, 4, 5, 2, 3, 3, 4, 3, 4, 4, 5, 3, 4, 4, 5, 4, 5, 5, 6, 1, 2, 2, 3, 2, 3, 3, 4, 2, 3, 3, 4, 3, 4, 4, 5, 2, 3, 3, 4, 3, 4, 4, 5, 3, 4, 4, 5, 4, 5, 5, 6, 2, 3, 3, 4, 3, 4, 4, 5, 3, 4, 4, 5, 4, 5, 5, 6, 3, 4, 4, 5, 4, 5, 5, 6, 4, 5, 5, 6, 5, 6, 6, 7, 1, 2, 2, 3, 2, 3, 3, 4, 2, 3, 3, 4, 3, 4, 4, 5, 2, 3, 3, 4, 3, 4, 4, 5, 3, 4, 4, 5, 4, 5, 5, 6, 2, 3, 3, 4, 3, 4, 4, 5, 3, 4, 4, 5, 4, 5, 5, 6, 3, 4, 4, 5, 4, 5, 5, 6, 4, 5, 5, 6, 5, 6, 6, 7, 2, 3, 3, 4, 3, 4, 4, 5, 3, 4, 4, 5, 4, 5, 5, 6, 3, 4, 4, 5, 4, 5, 5, 6, 4, 5, 5, 6, 5, 6, 6, 7, 3, 4, 4, 5, 4, 5, 5, 6, 4, 5, 5, 6, 5, 6, 6, 7, 4, 5, 5, 6, 5, 6, 6, 7, 5, 6, 6, 7, 6, 7, 7, 8]) (bShr .u32 x0 24)).bind fun x_1 => (sIx (ByteArray.mk #[0, 1, 1, 2, 1, 2, 2, 3, 1, 2, 2, 3, 2, 3, 3, 4, 1, 2, 2, 3, 2, 3, 3, 4, 2, 3, 3, 4, 3, 4, 4, 5, 1, 2, 2, 3, 2, 3, 3, 4, 2, 3, 3, 4, 3, 4, 4, 5, 2, 3, 3, 4, 3, 4, 4, 5, 3, 4, 4, 5, 4, 5, 5, 6, 1, 2, 2, 3, 2, 3, 3, 4, 2, 3, 3, 4, 3, 4, 4, 5, 2, 3, 3, 4, 3, 4, 4, 5, 3, 4, 4, 5, 4, 5, 5, 6, 2, 3, 3, 4, 3, 4, 4, 5, 3, 4, 4, 5, 4, 5, 5, 6, 3, 4, 4, 5, 4, 5, 5, 6, 4, 5, 5, 6, 5, 6, 6, 7, 1, 2, 2, 3, 2, 3, 3, 4, 2, 3, 3, 4, 3, 4, 4, 5, 2, 3, 3, 4, 3, 4, 4, 5, 3, 4, 4, 5, 4, 5, 5, 6, 2, 3, 3, 4, 3, 4, 4, 5, 3, 4, 4, 5, 4, 5, 5, 6, 3, 4, 4, 5, 4, 5, 5, 6, 4, 5, 5, 6, 5, 6, 6, 7, 2, 3, 3, 4, 3, 4, 4, 5, 3, 4, 4, 5, 4, 5, 5, 6, 3, 4, 4, 5, 4, 5, 5, 6, 4, 5, 5, 6, 5, 6, 6, 7, 3, 4, 4, 5, 4, 5, 5, 6, 4, 5, 5, 6, 5, 6, 6, 7, 4, 5, 5, 6, 5, 6, 6, 7, 5, 6, 6, 7, 6, 7, 7, 8]) (bAnd .u32 (bShr .u32 x0 16) 255)).bind fun x_2 => (sIx (ByteArray.mk #[0, 1, 1, 2, 1, 2, 2, 3, 1, 2, 2, 3, 2, 3, 3, 4, 1, 2, 2, 3, 2, 3, 3, 4, 2, 3, 3, 4, 3, 4, 4, 5, 1, 2, 2, 3, 2, 3, 3, 4, 2, 3, 3, 4, 3, 4, 4, 5, 2, 3, 3, 4, 3, 4, 4, 5, 3, 4, 4, 5, 4, 5, 5, 6, 1, 2, 2, 3, 2, 3, 3, 4, 2, 3, 3, 4, 3, 4, 4, 5, 2, 3, 3, 4, 3, 4, 4, 5, 3, 4, 4, 5, 4, 5, 5, 6, 2, 3, 3, 4, 3, 4, 4, 5, 3, 4, 4, 5, 4, 5, 5, 6, 3, 4, 4, 5, 4, 5, 5, 6, 4, 5, 5, 6, 5, 6, 6, 7, 1, 2, 2, 3, 2, 3, 3, 4, 2, 3, 3, 4, 3, 4, 4, 5, 2, 3, 3, 4, 3, 4, 4, 5, 3, 4, 4, 5, 4, 5, 5, 6, 2, 3, 3, 4, 3, 4, 4, 5, 3, 4, 4, 5, 4, 5, 5, 6, 3, 4, 4, 5, 4, 5, 5, 6, 4, 5, 5, 6, 5, 6, 6, 7, 2, 3, 3, 4, 3, 4, 4, 5, 3, 4, 4, 5, 4, 5, 5, 6, 3, 4, 4, 5, 4, 5, 5, 6, 4, 5, 5, 6, 5, 6, 6, 7, 3, 4, 4, 5, 4, 5, 5, 6, 4, 5, 5, 6, 5, 6, 6, 7, 4, 5, 5, 6, 5, 6, 6, 7, 5, 6, 6, 7, 6, 7, 7, 8]) (bAnd .u32 (bShr .u32 x0 8) 255)).bind fun x_3 => (sIx (ByteArray.mk #[0, 1, 1, 2, 1, 2, 2, 3, 1, 2, 2, 3, 2, 3, 3, 4, 1, 2, 2, 3, 2, 3, 3, 4, 2, 3, 3, 4, 3, 4, 4, 5, 1, 2, 2, 3, 2, 3, 3, 4, 2, 3, 3, 4, 3, 4, 4, 5, 2, 3, 3, 4, 3, 4, 4, 5, 3, 4, 4, 5, 4, 5, 5, 6, 1, 2, 2, 3, 2, 3, 3, 4, 2, 3, 3, 4, 3, 4, 4, 5, 2, 3, 3, 4, 3, 4, 4, 5, 3, 4, 4, 5, 4, 5, 5, 6, 2, 3, 3, 4, 3, 4, 4, 5, 3, 4, 4, 5, 4, 5, 5, 6, 3, 4, 4, 5, 4, 5, 5, 6, 4, 5, 5, 6, 5, 6, 6, 7, 1, 2, 2, 3, 2, 3, 3, 4, 2, 3, 3, 4, 3, 4, 4, 5, 2, 3, 3, 4, 3, 4, 4, 5, 3, 4, 4, 5, 4, 5, 5, 6, 2, 3, 3, 4, 3, 4, 4, 5, 3, 4, 4, 5, 4, 5, 5, 6, 3, 4, 4, 5, 4, 5, 5, 6, 4, 5, 5, 6, 5, 6, 6, 7, 2, 3, 3, 4, 3, 4, 4, 5, 3, 4, 4, 5, 4, 5, 5, 6, 3, 4, 4, 5, 4, 5, 5, 6, 4, 5, 5, 6, 5, 6, 6, 7, 3, 4, 4, 5, 4, 5, 5, 6, 4, 5, 5, 6, 5, 6, 6, 7, 4, 5, 5, 6, 5, 6, 6, 7, 5, 6, 6, 7, 6, 7, 7, 8]) (bAnd .u32 x0 255)).bind fun x_4 => some (w64 (u8 ((u8 ((u8 (x_1 + x_2)) + x_3)) + x_4)))
theorem math_bits_OnesCount32.calls (x0 : Int) (w : World) (r : Int) (h : math_bits_OnesCount32 x0 = some r) :
    Calls Tryz.prog 127 #[(.int .u32 x0)] w fun e w' => ∃ v, e = .returned v ∧ (v = (.int .i64 r) ∧ Mem w [] [] w') := by
  rw [math_bits_OnesCount32] at h
  refine enter (args := [(.int .u32 x0)]) Tryz.func127 rfl Tryz.ntmps127 (by kernel_rfl) (L := []) (W := []) (Mem.start w) ?_
  refine jc_seq (jc_region (qh [0] (qe (jx_then (jc_seq (qg [] 19 (qd [⟨0, 0, 0⟩,⟨1, 0, 0⟩,⟨3, 0, 0⟩,⟨4, 0, 0⟩,⟨5, 0, 0⟩,⟨8, 0, 0⟩,⟨9, 0, 0⟩,⟨10, 0, 0⟩,⟨13, 0, 0⟩,⟨14, 0, 0⟩] 9 [] ?_)))))))
  obtain ⟨x_1, hx_1, h⟩ := bd h
  refine qv 2 0 [] (fun w hm => six_run (s := (ByteArray.mk #[0, 1, 1, 2, 1, 2, 2, 3, 1, 2, 2, 3, 2, 3, 3, 4, 1, 2, 2, 3, 2, 3, 3, 4, 2, 3, 3, 4, 3, 4, 4, 5, 1, 2, 2, 3, 2, 3, 3, 4, 2, 3, 3, 4, 3, 4, 4, 5, 2, 3, 3, 4, 3, 4, 4, 5, 3, 4, 4, 5, 4, 5, 5, 6, 1, 2, 2, 3, 2, 3, 3, 4, 2, 3, 3, 4, 3, 4, 4, 5, 2, 3, 3, 4, 3, 4, 4, 5, 3, 4, 4, 5, 4, 5, 5, 6, 2, 3, 3, 4, 3, 4, 4, 5, 3, 4, 4, 5, 4, 5, 5, 6, 3, 4, 4, 5, 4, 5, 5, 6, 4, 5, 5, 6, 5, 6, 6, 7, 1, 2, 2, 3, 2, 3, 3, 4, 2, 3, 3, 4, 3, 4, 4, 5, 2, 3, 3, 4, 3, 4, 4, 5, 3, 4, 4, 5, 4, 5, 5, 6, 2, 3, 3, 4, 3, 4, 4, 5, 3, 4, 4, 5, 4, 5, 5, 6, 3, 4, 4, 5, 4, 5, 5, 6, 4, 5, 5, 6, 5, 6, 6, 7, 2, 3, 3, 4, 3, 4, 4, 5, 3, 4, 4, 5, 4, 5, 5, 6, 3, 4, 4, 5, 4, 5, 5, 6, 4, 5, 5, 6, 5, 6, 6, 7, 3, 4, 4, 5, 4, 5, 5, 6, 4, 5, 5, 6, 5, 6, 6, 7, 4, 5, 5, 6, 5, 6, 6, 7, 5, 6, 6, 7, 6, 7, 7, 8])) (j := (bShr .u32 x0 24)) (by kernel_rfl) hx_1) ?_
  obtain ⟨x_2, hx_2, h⟩ := bd h
  refine qv 6 0 [] (fun w hm => six_run (s := (ByteArray.mk #[0, 1, 1, 2, 1, 2, 2, 3, 1, 2, 2, 3, 2, 3, 3, 4, 1, 2, 2, 3, 2, 3, 3, 4, 2, 3, 3, 4, 3, 4, 4, 5, 1, 2, 2, 3, 2, 3, 3, 4, 2, 3, 3, 4, 3, 4, 4, 5, 2, 3, 3, 4, 3, 4, 4, 5, 3, 4, 4, 5, 4, 5, 5, 6, 1, 2, 2, 3, 2, 3, 3, 4, 2, 3, 3, 4, 3, 4, 4, 5, 2, 3, 3, 4, 3, 4, 4, 5, 3, 4, 4, 5, 4, 5, 5, 6, 2, 3, 3, 4, 3, 4, 4, 5, 3, 4, 4, 5, 4, 5, 5, 6, 3, 4, 4, 5, 4, 5, 5, 6, 4, 5, 5, 6, 5, 6, 6, 7, 1, 2, 2, 3, 2, 3, 3, 4, 2, 3, 3, 4, 3, 4, 4, 5, 2, 3, 3, 4, 3, 4, 4, 5, 3, 4, 4, 5, 4, 5, 5, 6, 2, 3, 3, 4, 3, 4, 4, 5, 3, 4, 4, 5, 4, 5, 5, 6, 3, 4, 4, 5, 4, 5, 5, 6, 4, 5, 5, 6, 5, 6, 6, 7, 2, 3, 3, 4, 3, 4, 4, 5, 3, 4, 4, 5, 4, 5, 5, 6, 3, 4, 4, 5, 4, 5, 5, 6, 4, 5, 5, 6, 5, 6, 6, 7, 3, 4, 4, 5, 4, 5, 5, 6, 4, 5, 5, 6, 5, 6, 6, 7, 4, 5, 5, 6, 5, 6, 6, 7, 5, 6, 6, 7, 6, 7, 7, 8])) (j := (bAnd .u32 (bShr .u32 x0 16) 255)) (by kernel_rfl) hx_2) (qd [⟨7, 0, 0⟩] 6 [] ?_)
  obtain ⟨x_3, hx_3, h⟩ := bd h
  refine qv 11 0 [] (fun w hm => six_run (s := (ByteArray.mk #[0, 1, 1, 2, 1, 2, 2, 3, 1, 2, 2, 3, 2, 3, 3, 4, 1, 2, 2, 3, 2, 3, 3, 4, 2, 3, 3, 4, 3, 4, 4, 5, 1, 2, 2, 3, 2, 3, 3, 4, 2, 3, 3, 4, 3, 4, 4, 5, 2, 3, 3, 4, 3, 4, 4, 5, 3, 4, 4, 5, 4, 5, 5, 6, 1, 2, 2, 3, 2, 3, 3, 4, 2, 3, 3, 4, 3, 4, 4, 5, 2, 3, 3, 4, 3, 4, 4, 5, 3, 4, 4, 5, 4, 5, 5, 6, 2, 3, 3, 4, 3, 4, 4, 5, 3, 4, 4, 5, 4, 5, 5, 6, 3, 4, 4, 5, 4, 5, 5, 6, 4, 5, 5, 6, 5, 6, 6, 7, 1, 2, 2, 3, 2, 3, 3, 4, 2, 3, 3, 4, 3, 4, 4, 5, 2, 3, 3, 4, 3, 4, 4, 5, 3, 4, 4, 5, 4, 5, 5, 6, 2, 3, 3, 4, 3, 4, 4, 5, 3, 4, 4, 5, 4, 5, 5, 6, 3, 4, 4, 5, 4, 5, 5, 6, 4, 5, 5, 6, 5, 6, 6, 7, 2, 3, 3, 4, 3, 4, 4, 5, 3, 4, 4, 5, 4, 5, 5, 6, 3, 4, 4, 5, 4, 5, 5, 6, 4, 5, 5, 6, 5, 6, 6, 7, 3, 4, 4, 5, 4, 5, 5, 6, 4, 5, 5, 6, 5, 6, 6, 7, 4, 5, 5, 6, 5, 6, 6, 7, 5, 6, 6, 7, 6, 7, 7, 8])) (j := (bAnd .u32 (bShr .u32 x0 8) 255)) (by kernel_rfl) hx_3) (qd [⟨12, 0, 0⟩] 4 [] ?_)
  obtain ⟨x_4, hx_4, h⟩ := bd h
  refine qv 15 0 [] (fun w hm => six_run (s := (ByteArray.mk #[0, 1, 1, 2, 1, 2, 2, 3, 1, 2, 2, 3, 2, 3, 3, 4, 1, 2, 2, 3, 2, 3, 3, 4, 2, 3, 3, 4, 3, 4, 4, 5, 1, 2, 2, 3, 2, 3, 3, 4, 2, 3, 3, 4, 3, 4, 4, 5, 2, 3, 3, 4, 3, 4, 4, 5, 3, 4, 4, 5, 4, 5, 5, 6, 1, 2, 2, 3, 2, 3, 3, 4, 2, 3, 3, 4, 3, 4, 4, 5, 2, 3, 3, 4, 3, 4, 4, 5, 3, 4, 4, 5, 4, 5, 5, 6, 2, 3, 3, 4, 3, 4, 4, 5, 3, 4, 4, 5, 4, 5, 5, 6, 3, 4, 4, 5, 4, 5, 5, 6, 4, 5, 5, 6, 5, 6, 6, 7, 1, 2, 2, 3, 2, 3, 3, 4, 2, 3, 3, 4, 3, 4, 4, 5, 2, 3, 3, 4, 3, 4, 4, 5, 3, 4, 4, 5, 4, 5, 5, 6, 2, 3, 3, 4, 3, 4, 4, 5, 3, 4, 4, 5, 4, 5, 5, 6, 3, 4, 4, 5, 4, 5, 5, 6, 4, 5, 5, 6, 5, 6, 6, 7, 2, 3, 3, 4, 3, 4, 4, 5, 3, 4, 4, 5, 4, 5, 5, 6, 3, 4, 4, 5, 4, 5, 5, 6, 4, 5, 5, 6, 5, 6, 6, 7, 3, 4, 4, 5, 4, 5, 5, 6, 4, 5, 5, 6, 5, 6, 6, 7, 4, 5, 5, 6, 5, 6, 6, 7, 5, 6, 6, 7, 6, 7, 7, 8])) (j := (bAnd .u32 x0 255)) (by kernel_rfl) hx_4) (qd [⟨16, 0, 0⟩,⟨17, 0, 0⟩,⟨18, 0, 0⟩] 0 [] (qz (jx_then (jc_ret ?_))))
  obtain rfl := Option.some.inj h
  exact qr [] (fun w hm => ⟨rfl, hm.pk []⟩)
/-! ### impl.countBits -/
def impl_countBits (n0 : Int) : Option (Int) := (math_bits_OnesCount32 n0).bind fun t_1 => some t_1
theorem impl_countBits.calls (n0 : Int) (w : World) (r : Int) (h : impl_countBits n0 = some r) :
    Calls Tryz.prog 114 #[(.int .u32 n0)] w fun e w' => ∃ v, e = .returned v ∧ (v = (.int .i64 r) ∧ Mem w [] [] w') := by
  rw [impl_countBits] at h
  refine enter (args := [(.int .u32 n0)]) Tryz.func114 rfl Tryz.ntmps114 (by kernel_rfl) (L := []) (W := []) (Mem.start w) ?_
  refine jc_seq (jc_region (qh [0] (qe (jx_then (jc_seq (jc_region (qh [0] ?_)))))))
  obtain ⟨t_1, ht_1, h⟩ := bd h
  refine tO (pc 0 (fun w hm => math_bits_OnesCount32.calls n0 w _ ht_1) ?_)
  rintro w v w' hm ⟨rfl, hm'⟩
  refine ⟨_, hm.app hm', jkO ?_⟩
  clear hm hm'
  refine qh [0] (qe (jx_then (jc_ret ?_)))
  obtain rfl := Option.some.inj h
  exact qr [] (fun w hm => ⟨rfl, hm.pk []⟩)
/-! ### (impl.Drum).count -/
def impl_Drum_count.k_2 (i_1 : Int) : Option (Int) := some i_1
def impl_Drum_count.l_5 (d0 : Arr 96 Int) : (Int × Int) → Option ((Int × Int) ⊕ (Int))
  | (i_3, i_4) => (if (decide (i_4 < 96)) = true then (ix d0.1 i_4).bind fun x_7 => (impl_countBits x_7).bind fun t_8 => some (.inl ((w64 (i_3 + t_8)), (w64 (i_4 + 1)))) else some (.inr i_3))
def impl_Drum_count (d0 : Arr 96 Int) : Option (Int) := (loop (impl_Drum_count.l_5 d0) (0, 0)).bind fun t_6 => impl_Drum_count.k_2 t_6
theorem impl_Drum_count.calls (d0 : Arr 96 Int) (w : World) (r : Int) (h : impl_Drum_count d0 = some r) :
    Calls Tryz.prog 84 #[(.agg (row encU32 d0.1 []).toArray)] w fun e w' => ∃ v, e = .returned v ∧ (v = (.int .i64 r) ∧ Mem w [] [] w') := by
  rw [impl_Drum_count] at h
  refine enter (args := [(.agg (row encU32 d0.1 []).toArray)]) Tryz.func84 rfl Tryz.ntmps84 (by kernel_rfl) (L := []) (W := []) (Mem.start w) ?_
  refine jc_seq (jc_region (tO (qa 0 (fun b_1 => jkO (qh [0] (qe (jx_then (jc_seq (jc_region (qh [0] (qe (jx_then (jc_seq (jc_seq (jc_region (tO (p_ldA 0 0 b_1 96 1 34 encU32 d0 (by kernel_rfl) (by kernel_rfl) (by kernel_rfl) encU32_len (by kernel_rfl) (jkO (qh [0] (qe (jx_then (jc_meet (fun (j : Int) => match j with | i_1 => impl_Drum_count.k_2 i_1 = some r) (fun (j : Int) => match j with | i_1 => [(2, [], (.int .i64 0)), (3, [], (.int .i64 i_1))]) (fun (j : Int) => match j with | i_1 => [⟨(some b_1), 34, row encU32 d0.1 []⟩]) ?_ ?_))))))))))))))))))))))
  ·refine jc_block ?_
   obtain ⟨t_6, ht_65, hr_58⟩ := bd h
   refine jc_loop (fun (s : Int × Int) (x : Unit) => match s, x with | ⟨i_3, i_4⟩, _ => True) (fun (s : Int × Int) (x : Unit) => match s, x with | ⟨i_3, i_4⟩, _ => [(2, [], (.int .i64 0)), (3, [], (.int .i64 i_3)), (6, [], (.agg (row encU32 d0.1 []).toArray)), (7, [], (.int .i64 i_4))]) (fun (s : Int × Int) (x : Unit) => match s, x with | ⟨i_3, i_4⟩, _ => [⟨(some b_1), 34, row encU32 d0.1 []⟩]) ht_65 () trivial (by kernel_rfl) [0] (by kernel_rfl) (by kernel_rfl) ?_
   rintro ⟨i_3, i_4⟩ _ y_59 _ h
   rw [impl_Drum_count.l_5] at h
   refine jc_seq (jc_region (qh [0] (qe (jx_then (jc_seq (qi h (fun h => ?_) (fun h => ?_)))))))
   ·refine jc_skip (jx_then (jc_seq (jc_block (jc_seq (jc_region ?_)))))
    obtain ⟨x_7, hx_62, h⟩ := bd h
    refine tO (p_ixA 0 encU32 (fun x => (.int .u32 x)) d0 i_4 (by kernel_rfl) (by kernel_rfl) (fun _ => rfl) hx_62 (jkO (qh [0] (qe (jx_then (jc_region (qh [0,0] ?_)))))))
    obtain ⟨t_8, ht_63, h⟩ := bd h
    refine tO (pc 0 (fun w hm => impl_countBits.calls x_7 w _ ht_63) ?_)
    rintro w v w' hm ⟨rfl, hm'⟩
    refine ⟨_, hm.app hm', jkO ?_⟩
    clear hm hm'
    exact qh [0,0] (qe (jx_inn (jx_then (jc_region (qh [0,0] (qe (qb ((w64 (i_3 + t_8)), (w64 (i_4 + 1))) () h trivial [0])))))))
   ·refine jc_exit (jx_thenx (jx_leave i_3 (Option.some.inj h).symm (fun e_64 => ?_)))
    subst e_64
    exact jx_ine (qm i_3 hr_58 [0])
  ·rintro i_1 h
   replace h : impl_Drum_count.k_2 i_1 = some r := h
   rw [impl_Drum_count.k_2] at h
   refine jx_then (jc_seq (jc_region (qh [0,0] (qe (jx_then (jc_ret ?_))))))
   obtain rfl := Option.some.inj h
   exact qr [] (fun w hm => ⟨rfl, hm.pk []⟩)
/-! ### impl.size[impl.Note] -/
def impl_size_Note (list0 : List GNote) : Option (Int) := some (list0.length : Int)
theorem impl_size_Note.calls (list0 : List GNote) (w : World) (r : Int) {A_a : Option Addr} {A_an : Nat} (A_c : Nat) (A_h : Rw w A_a 2 encGNote list0) (A_hn : list0.length = A_an) (h : impl_size_Note list0 = some r) :
    Calls Tryz.prog 85 #[(.slice A_a A_an A_c)] w fun e w' => ∃ v, e = .returned v ∧ (v = (.int .i64 r) ∧ Mem w [] [] w') := by
  subst A_hn
  rw [impl_size_Note] at h
  refine enter (args := [(.slice A_a list0.length A_c)]) Tryz.func85 rfl Tryz.ntmps85 (by kernel_rfl) (L := []) (W := []) (Mem.start w) ?_
  refine jc_seq (jc_region (qh [0] (qe (jx_then (jc_seq (jc_region (qh [0,0,0] (qe (jx_then (jc_ret ?_))))))))))
  obtain rfl := Option.some.inj h
  exact qr [] (fun w hm => ⟨rfl, hm.pk []⟩)
/-! ### (impl.Frame).played$1 -/
def impl_Frame_played_1 (step0 : Int) (track1 : Int) (p2 : Int) (p3 : Int) (p4 : List GNote) (p5 : GFrame) : Option ((List GNote)) := (impl_within step0 p2 (w64 ((w64 (p2 + p3)) - 1))).bind fun t_1 => (if t_1 = true then (ix p5.fHammers track1).bind fun x_2 => (if p4.length + ([(⟨(w16 (w64 (step0 - p2))), x_2.fPitch⟩ : GNote)] : List GNote).length ≤ 4294967296 then some (p4 ++ ([(⟨(w16 (w64 (step0 - p2))), x_2.fPitch⟩ : GNote)] : List GNote)) else none) else some p4)
theorem impl_Frame_played_1.calls (step0 : Int) (track1 : Int) (p2 : Int) (p3 : Int) (p4 : List GNote) (p5 : GFrame) (w : World) (r : (List GNote)) {H_a : Option Addr} {H_an : Nat} (H_c : Nat) (H_h : Rw w H_a 2 encGHammer p5.fHammers) (H_hn : p5.fHammers.length = H_an) (C_b : Nat) (D_b : Nat) (E_b : Nat) (E_o : Option Nat) {E_on : Nat} {E_c : Nat} {E_sp : List Value} (E_hn : p4.length = E_on) (E_hs : E_o ≠ none → E_on ≤ E_c ∧ E_sp.length = (E_c - E_on) * 2) (E_ho : E_o = none → p4 = [] ∧ E_c = 0) (F_b : Nat) (hm0 : Mem w (bs [some C_b, some D_b, some E_b, E_o, some F_b]) [⟨some C_b, 2, [(.int .i64 p2)]⟩, ⟨some D_b, 2, [(.int .i64 p3)]⟩, ⟨some E_b, 29, [(.slice (E_o.map fun b => ⟨b, 0, none⟩) E_on E_c)]⟩, ⟨E_o, 68, row encGNote p4 E_sp⟩, ⟨some F_b, 27, [(.int .i16 p5.fSteps), (.slice H_a H_an H_c)]⟩] w) (H_ha : p5.fHammers ≠ [] → aB H_a ∉ bs [some C_b, some D_b, some E_b, E_o, some F_b]) (h : impl_Frame_played_1 step0 track1 p2 p3 p4 p5 = some r) :
    Calls Tryz.prog 107 #[(.int .i64 step0), (.int .i64 track1), (.pointer (some ⟨C_b, 0, none⟩)), (.pointer (some ⟨D_b, 0, none⟩)), (.pointer (some ⟨E_b, 0, none⟩)), (.pointer (some ⟨F_b, 0, none⟩))] w fun e w' => ∃ v, e = .returned v ∧ (∃ (mo0 : Option Nat) (mc0 : Nat) (ms0 : List Value) (mn0 : Nat), r.length = mn0 ∧ (mo0 ≠ none → mn0 ≤ mc0 ∧ ms0.length = (mc0 - mn0) * 2) ∧ (mo0 = none → r = [] ∧ mc0 = 0) ∧ v = .tuple #[] ∧ Mem w (bs [some C_b, some D_b, some E_b, E_o, some F_b]) [⟨some C_b, 2, [(.int .i64 p2)]⟩, ⟨some D_b, 2, [(.int .i64 p3)]⟩, ⟨some E_b, 29, [(.slice (mo0.map fun b => ⟨b, 0, none⟩) mn0 mc0)]⟩, ⟨some F_b, 27, [(.int .i16 p5.fSteps), (.slice H_a H_an H_c)]⟩, ⟨mo0, 68, row encGNote r ms0⟩] w') := by
  subst H_hn E_hn
  rw [impl_Frame_played_1] at h
  refine enter (args := [(.int .i64 step0), (.int .i64 track1), (.pointer (some ⟨C_b, 0, none⟩)), (.pointer (some ⟨D_b, 0, none⟩)), (.pointer (some ⟨E_b, 0, none⟩)), (.pointer (some ⟨F_b, 0, none⟩))]) Tryz.func107 rfl Tryz.ntmps107 (by kernel_rfl) (L := [⟨some C_b, 2, [(.int .i64 p2)]⟩, ⟨some D_b, 2, [(.int .i64 p3)]⟩, ⟨some E_b, 29, [(.slice (E_o.map fun b => ⟨b, 0, none⟩) p4.length E_c)]⟩, ⟨E_o, 68, row encGNote p4 E_sp⟩, ⟨some F_b, 27, [(.int .i16 p5.fSteps), (.slice H_a p5.fHammers.length H_c)]⟩]) (W := bs [some C_b, some D_b, some E_b, E_o, some F_b]) hm0 ?_
  refine jc_seq (jc_region (qh [0,0,0,1,0,0] ?_))
  obtain ⟨t_1, ht_1, h⟩ := bd h
  refine tO (pc 0 (fun w hm => impl_within.calls step0 p2 (w64 ((w64 (p2 + p3)) - 1)) w _ ht_1) ?_)
  rintro w v w' hm ⟨rfl, hm'⟩
  refine ⟨_, hm.app hm', jkO ?_⟩
  clear hm hm'
  refine qe (jx_then (qi h (fun h => ?_) (fun h => ?_)))
  ·refine qg [⟨some C_b, 2, [(.int .i64 p2)]⟩, ⟨some D_b, 2, [(.int .i64 p3)]⟩, ⟨some F_b, 27, [(.int .i16 p5.fSteps), (.slice H_a p5.fHammers.length H_c)]⟩] 15 (qd [⟨1, 0, 0⟩,⟨2, 0, 0⟩,⟨3, 0, 0⟩,⟨4, 0, 0⟩,⟨5, 0, 0⟩,⟨6, 2, 0⟩,⟨7, 0, 0⟩] 8 [0, 1, 4] ?_)
   obtain ⟨x_2, hx_13, h⟩ := bd h
   refine qv 8 0 [0, 1, 4] (fun w hm => idx_run (a := H_a) (len := p5.fHammers.length) (s := 2) (j := track1) (by kernel_rfl) (ix_some hx_13).1 (ltn hx_13 rfl) (H_h.sp hx_13)) (qd [⟨9, 0, 0⟩] 6 [0, 1, 4] (qv 10 0 [0, 1, 4] (fun w hm => ld_run (b := aB H_a) (off := (aO H_a + track1.toNat * 2)) (s := 1) (agg := false) (vs := (((encGHammer x_2).drop 0).take 1)) (by kernel_rfl) (by kernel_rfl) (.inr rfl) (((hm.exRowW H_h H_ha).at hx_13).sub 0 1)) (qd [⟨11, 0, 0⟩] 4 [0, 1, 4] (toD2 0 12 (by kernel_rfl) ?_ ?_))))
   ·refine qs 0 [2] (kD [0, 1, 4] (tD 12 (qa 0 (fun b_14 => kD [0, 1, 4] ?_))))
    obtain ⟨hg_15, h⟩ := gd h
    refine tD 13 (p_apn 0 3 E_o 68 p4.length 1 E_c 2 4 (some ⟨b_14, 0, none⟩) encGNote p4 ([(⟨(w16 (w64 (step0 - p2))), x_2.fPitch⟩ : GNote)] : List GNote) E_sp (.agg #[(.int .i16 0), (.int .i8 0)]) rfl rfl (by kernel_rfl) (by kernel_rfl) (by kernel_rfl) encGNote_len encGNote_cell E_hs E_ho (fun w hm => (hm.ow 5 (some b_14) 68 ([(⟨(w16 (w64 (step0 - p2))), x_2.fPitch⟩ : GNote)] : List GNote) [] (fun e => nomatch e) encGNote_len)) hg_15 (by kernel_rfl) (by kernel_rfl) (fun o_16 cap_17 sp_18 hs_19 ho_20 => kD [0, 1, 4] (tD 14 (qs 0 [2] (kD [0, 1, 4] (qz (jx_fall ?_)))))))
    obtain rfl := Option.some.inj h
    exact qr [] (fun w hm => ⟨o_16, cap_17, sp_18, ((p4 ++ ([(⟨(w16 (w64 (step0 - p2))), x_2.fPitch⟩ : GNote)] : List GNote)).length), rfl, hs_19, ho_20, rfl, hm.pk [0, 1, 2, 4, 3]⟩)
   ·refine qa 0 (fun b_21 => kD [0, 1, 4] (tD 0 (qs 0 [2] (kD [0, 1, 4] ?_))))
    obtain ⟨hg_22, h⟩ := gd h
    refine tD 13 (p_apn 0 3 E_o 68 p4.length 1 E_c 2 4 (some ⟨b_21, 0, none⟩) encGNote p4 ([(⟨(w16 (w64 (step0 - p2))), x_2.fPitch⟩ : GNote)] : List GNote) E_sp (.agg #[(.int .i16 0), (.int .i8 0)]) rfl rfl (by kernel_rfl) (by kernel_rfl) (by kernel_rfl) encGNote_len encGNote_cell E_hs E_ho (fun w hm => (hm.ow 5 (some b_21) 68 ([(⟨(w16 (w64 (step0 - p2))), x_2.fPitch⟩ : GNote)] : List GNote) [] (fun e => nomatch e) encGNote_len)) hg_22 (by kernel_rfl) (by kernel_rfl) (fun o_23 cap_24 sp_25 hs_26 ho_27 => kD [0, 1, 4] (tD 14 (qs 0 [2] (kD [0, 1, 4] (qz (jx_fall ?_)))))))
    obtain rfl := Option.some.inj h
    exact qr [] (fun w hm => ⟨o_23, cap_24, sp_25, ((p4 ++ ([(⟨(w16 (w64 (step0 - p2))), x_2.fPitch⟩ : GNote)] : List GNote)).length), rfl, hs_26, ho_27, rfl, hm.pk [0, 1, 2, 4, 3]⟩)
  ·refine jc_skip (jx_fall ?_)
   obtain rfl := Option.some.inj h
   exact qr [] (fun w hm => ⟨E_o, E_c, E_sp, p4.length, rfl, E_hs, E_ho, rfl, hm.pk [0, 1, 2, 4, 3]⟩)
/-! ### (impl.Frame).pins -/
def impl_Frame_pins_at_impl_Frame_played_1.k_2 (xs_1 : List GNote) : Option ((List GNote)) := some xs_1
def impl_Frame_pins_at_impl_Frame_played_1.k_9 (i_4 : Int) (xs_8 : List GNote) : Option (((List GNote) × Int) ⊕ ((List GNote))) := some (.inl (xs_8, (w64 (i_4 + 1))))
def impl_Frame_pins_at_impl_Frame_played_1.l_12 (d1 : Arr 96 Int) (g2c0 : Int) (g2c1 : Int) (g2c3 : GFrame) (i_4 : Int) (t_7 : Int) : ((List GNote) × Int) → Option (((List GNote) × Int) ⊕ ((List GNote)))
  | (xs_10, i_11) => (if (decide (i_11 < t_7)) = true then (impl_Drum_has d1 i_4 i_11).bind fun t_14 => (if t_14 = true then (impl_Frame_played_1 i_4 i_11 g2c0 g2c1 xs_10 g2c3).bind fun t_15 => some (.inl (t_15, (w64 (i_11 + 1)))) else some (.inl (xs_10, (w64 (i_11 + 1))))) else some (.inr xs_10))
def impl_Frame_pins_at_impl_Frame_played_1.l_5 (f0 : GFrame) (d1 : Arr 96 Int) (g2c0 : Int) (g2c1 : Int) (g2c3 : GFrame) : ((List GNote) × Int) → Option (((List GNote) × Int) ⊕ ((List GNote)))
  | (xs_3, i_4) => (if (decide (i_4 < (w64 f0.fSteps))) = true then (impl_size_Hammer f0.fHammers).bind fun t_7 => (loop (impl_Frame_pins_at_impl_Frame_played_1.l_12 d1 g2c0 g2c1 g2c3 i_4 t_7) (xs_3, 0)).bind fun t_13 => impl_Frame_pins_at_impl_Frame_played_1.k_9 i_4 t_13 else some (.inr xs_3))
def impl_Frame_pins_at_impl_Frame_played_1 (f0 : GFrame) (d1 : Arr 96 Int) (g2c0 : Int) (g2c1 : Int) (g2c2 : List GNote) (g2c3 : GFrame) : Option ((List GNote)) := (loop (impl_Frame_pins_at_impl_Frame_played_1.l_5 f0 d1 g2c0 g2c1 g2c3) (g2c2, 0)).bind fun t_6 => impl_Frame_pins_at_impl_Frame_played_1.k_2 t_6
theorem impl_Frame_pins_at_impl_Frame_played_1.calls (f0 : GFrame) (d1 : Arr 96 Int) (g2c0 : Int) (g2c1 : Int) (g2c2 : List GNote) (g2c3 : GFrame) (w : World) (r : (List GNote)) {C_a : Option Addr} {C_an : Nat} (C_c : Nat) (C_h : Rw w C_a 2 encGHammer f0.fHammers) (C_hn : f0.fHammers.length = C_an) {J_a : Option Addr} {J_an : Nat} (J_c : Nat) (J_h : Rw w J_a 2 encGHammer g2c3.fHammers) (J_hn : g2c3.fHammers.length = J_an) (E_b : Nat) (F_b : Nat) (G_b : Nat) (G_o : Option Nat) {G_on : Nat} {G_c : Nat} {G_sp : List Value} (G_hn : g2c2.length = G_on) (G_hs : G_o ≠ none → G_on ≤ G_c ∧ G_sp.length = (G_c - G_on) * 2) (G_ho : G_o = none → g2c2 = [] ∧ G_c = 0) (H_b : Nat) (hm0 : Mem w (bs [some E_b, some F_b, some G_b, G_o, some H_b]) [⟨some E_b, 2, [(.int .i64 g2c0)]⟩, ⟨some F_b, 2, [(.int .i64 g2c1)]⟩, ⟨some G_b, 29, [(.slice (G_o.map fun b => ⟨b, 0, none⟩) G_on G_c)]⟩, ⟨G_o, 68, row encGNote g2c2 G_sp⟩, ⟨some H_b, 27, [(.int .i16 g2c3.fSteps), (.slice J_a J_an J_c)]⟩] w) (C_ha : f0.fHammers ≠ [] → aB C_a ∉ bs [some E_b, some F_b, some G_b, G_o, some H_b]) (J_ha : g2c3.fHammers ≠ [] → aB J_a ∉ bs [some E_b, some F_b, some G_b, G_o, some H_b]) (h : impl_Frame_pins_at_impl_Frame_played_1 f0 d1 g2c0 g2c1 g2c2 g2c3 = some r) :
    Calls Tryz.prog 91 #[(.agg #[(.int .i16 f0.fSteps), (.slice C_a C_an C_c)]), (.agg (row encU32 d1.1 []).toArray), (.func (.func 107) #[] #[(.pointer (some ⟨E_b, 0, none⟩)), (.pointer (some ⟨F_b, 0, none⟩)), (.pointer (some ⟨G_b, 0, none⟩)), (.pointer (some ⟨H_b, 0, none⟩))])] w fun e w' => ∃ v, e = .returned v ∧ (∃ (mo0 : Option Nat) (mc0 : Nat) (ms0 : List Value) (mn0 : Nat), r.length = mn0 ∧ (mo0 ≠ none → mn0 ≤ mc0 ∧ ms0.length = (mc0 - mn0) * 2) ∧ (mo0 = none → r = [] ∧ mc0 = 0) ∧ v = .tuple #[] ∧ Mem w (bs [some E_b, some F_b, some G_b, G_o, some H_b]) [⟨some E_b, 2, [(.int .i64 g2c0)]⟩, ⟨some F_b, 2, [(.int .i64 g2c1)]⟩, ⟨some G_b, 29, [(.slice (mo0.map fun b => ⟨b, 0, none⟩) mn0 mc0)]⟩, ⟨some H_b, 27, [(.int .i16 g2c3.fSteps), (.slice J_a J_an J_c)]⟩, ⟨mo0, 68, row encGNote r ms0⟩] w') := by
  subst C_hn J_hn G_hn
  rw [impl_Frame_pins_at_impl_Frame_played_1] at h
  refine enter (args := [(.agg #[(.int .i16 f0.fSteps), (.slice C_a f0.fHammers.length C_c)]), (.agg (row encU32 d1.1 []).toArray), (.func (.func 107) #[] #[(.pointer (some ⟨E_b, 0, none⟩)), (.pointer (some ⟨F_b, 0, none⟩)), (.pointer (some ⟨G_b, 0, none⟩)), (.pointer (some ⟨H_b, 0, none⟩))])]) Tryz.func91 rfl Tryz.ntmps91 (by kernel_rfl) (L := [⟨some E_b, 2, [(.int .i64 g2c0)]⟩, ⟨some F_b, 2, [(.int .i64 g2c1)]⟩, ⟨some G_b, 29, [(.slice (G_o.map fun b => ⟨b, 0, none⟩) g2c2.length G_c)]⟩, ⟨G_o, 68, row encGNote g2c2 G_sp⟩, ⟨some H_b, 27, [(.int .i16 g2c3.fSteps), (.slice J_a g2c3.fHammers.length J_c)]⟩]) (W := bs [some E_b, some F_b, some G_b, G_o, some H_b]) hm0 ?_
  refine jc_seq (jc_region (tO (qa 0 (fun b_1 => jkO (tO (qa 0 (fun b_2 => jkO (qe (jx_then (jc_seq (jc_region (qh [0,5,0,0] (qe (jx_then (jc_meet (fun (j : (List GNote) × (Option Nat) × Nat × (List Value) × Nat) => match j with | ⟨xs_1, o_322, cap_323, sp_324, n_325⟩ => impl_Frame_pins_at_impl_Frame_played_1.k_2 xs_1 = some r ∧ (xs_1.length = n_325) ∧ ((o_322 ≠ none → n_325 ≤ cap_323 ∧ sp_324.length = (cap_323 - n_325) * 2)) ∧ ((o_322 = none → xs_1 = [] ∧ cap_323 = 0))) (fun (j : (List GNote) × (Option Nat) × Nat × (List Value) × Nat) => match j with | ⟨xs_1, o_322, cap_323, sp_324, n_325⟩ => []) (fun (j : (List GNote) × (Option Nat) × Nat × (List Value) × Nat) => match j with | ⟨xs_1, o_322, cap_323, sp_324, n_325⟩ => [⟨some E_b, 2, [(.int .i64 g2c0)]⟩, ⟨some F_b, 2, [(.int .i64 g2c1)]⟩, ⟨some G_b, 29, [(.slice (o_322.map fun b => ⟨b, 0, none⟩) n_325 cap_323)]⟩, ⟨o_322, 68, row encGNote xs_1 sp_324⟩, ⟨some H_b, 27, [(.int .i16 g2c3.fSteps), (.slice J_a g2c3.fHammers.length J_c)]⟩, ⟨some b_1, 27, [(.int .i16 f0.fSteps), (.slice C_a f0.fHammers.length C_c)]⟩, ⟨(some b_2), 34, row encU32 d1.1 []⟩]) ?_ ?_)))))))))))))))
  ·refine jc_block ?_
   obtain ⟨t_6, ht_646, hr_542⟩ := bd h
   refine jc_loop (fun (s : (List GNote) × Int) (x : (Option Nat) × Nat × (List Value) × Nat) => match s, x with | ⟨xs_3, i_4⟩, ⟨o_536, cap_537, sp_538, n_539⟩ => (xs_3.length = n_539) ∧ ((o_536 ≠ none → n_539 ≤ cap_537 ∧ sp_538.length = (cap_537 - n_539) * 2)) ∧ ((o_536 = none → xs_3 = [] ∧ cap_537 = 0))) (fun (s : (List GNote) × Int) (x : (Option Nat) × Nat × (List Value) × Nat) => match s, x with | ⟨xs_3, i_4⟩, ⟨o_536, cap_537, sp_538, n_539⟩ => [(2, [], (.func (.func 107) #[] #[(.pointer (some ⟨E_b, 0, none⟩)), (.pointer (some ⟨F_b, 0, none⟩)), (.pointer (some ⟨G_b, 0, none⟩)), (.pointer (some ⟨H_b, 0, none⟩))])), (3, [], (.pointer (some ⟨b_1, 0, none⟩))), (4, [], (.pointer (some ⟨b_2, 0, none⟩))), (10, [], (.int .i64 (w64 f0.fSteps))), (11, [], (.int .i64 i_4))]) (fun (s : (List GNote) × Int) (x : (Option Nat) × Nat × (List Value) × Nat) => match s, x with | ⟨xs_3, i_4⟩, ⟨o_536, cap_537, sp_538, n_539⟩ => [⟨some E_b, 2, [(.int .i64 g2c0)]⟩, ⟨some F_b, 2, [(.int .i64 g2c1)]⟩, ⟨some G_b, 29, [(.slice (o_536.map fun b => ⟨b, 0, none⟩) n_539 cap_537)]⟩, ⟨o_536, 68, row encGNote xs_3 sp_538⟩, ⟨some H_b, 27, [(.int .i16 g2c3.fSteps), (.slice J_a g2c3.fHammers.length J_c)]⟩, ⟨some b_1, 27, [(.int .i16 f0.fSteps), (.slice C_a f0.fHammers.length C_c)]⟩, ⟨(some b_2), 34, row encU32 d1.1 []⟩]) ht_646 ⟨G_o, G_c, G_sp, g2c2.length⟩ ⟨rfl, G_hs, G_ho⟩ (by kernel_rfl) [0, 1, 2, 3, 4, 5, 6] (by kernel_rfl) (by kernel_rfl) ?_
   rintro ⟨xs_3, i_4⟩ ⟨o_536, cap_537, sp_538, n_539⟩ y_543 ⟨rfl, hs_540, ho_541⟩ h
   rw [impl_Frame_pins_at_impl_Frame_played_1.l_5] at h
   refine jc_seq (jc_region (qh [0] (qe (jx_then (jc_seq (qi h (fun h => ?_) (fun h => ?_)))))))
   ·refine jc_skip (jx_then (jc_seq (jc_block (jc_seq (jc_region (qh [0,0] (qe (jx_then (jc_seq (jc_region (qh [0,5] ?_)))))))))))
    obtain ⟨t_7, ht_546, h⟩ := bd h
    refine tO (pc 0 (fun w hm => impl_size_Hammer.calls f0.fHammers w _ C_c (hm.exRowW C_h C_ha) rfl ht_546) ?_)
    rintro w v w' hm ⟨rfl, hm'⟩
    refine ⟨_, hm.app hm', jkO ?_⟩
    clear hm hm'
    refine qh [0] (qe (jx_then (jc_meet (fun (j : (List GNote) × (Option Nat) × Nat × (List Value) × Nat) => match j with | ⟨xs_8, o_593, cap_594, sp_595, n_596⟩ => impl_Frame_pins_at_impl_Frame_played_1.k_9 i_4 xs_8 = some y_543 ∧ (xs_8.length = n_596) ∧ ((o_593 ≠ none → n_596 ≤ cap_594 ∧ sp_595.length = (cap_594 - n_596) * 2)) ∧ ((o_593 = none → xs_8 = [] ∧ cap_594 = 0))) (fun (j : (List GNote) × (Option Nat) × Nat × (List Value) × Nat) => match j with | ⟨xs_8, o_593, cap_594, sp_595, n_596⟩ => [(2, [], (.func (.func 107) #[] #[(.pointer (some ⟨E_b, 0, none⟩)), (.pointer (some ⟨F_b, 0, none⟩)), (.pointer (some ⟨G_b, 0, none⟩)), (.pointer (some ⟨H_b, 0, none⟩))])), (3, [], (.pointer (some ⟨b_1, 0, none⟩))), (4, [], (.pointer (some ⟨b_2, 0, none⟩))), (10, [], (.int .i64 (w64 f0.fSteps))), (11, [], (.int .i64 i_4))]) (fun (j : (List GNote) × (Option Nat) × Nat × (List Value) × Nat) => match j with | ⟨xs_8, o_593, cap_594, sp_595, n_596⟩ => [⟨some E_b, 2, [(.int .i64 g2c0)]⟩, ⟨some F_b, 2, [(.int .i64 g2c1)]⟩, ⟨some G_b, 29, [(.slice (o_593.map fun b => ⟨b, 0, none⟩) n_596 cap_594)]⟩, ⟨o_593, 68, row encGNote xs_8 sp_595⟩, ⟨some H_b, 27, [(.int .i16 g2c3.fSteps), (.slice J_a g2c3.fHammers.length J_c)]⟩, ⟨some b_1, 27, [(.int .i16 f0.fSteps), (.slice C_a f0.fHammers.length C_c)]⟩, ⟨(some b_2), 34, row encU32 d1.1 []⟩]) ?_ ?_)))
    ·refine jc_block ?_
     obtain ⟨t_13, ht_644, hr_631⟩ := bd h
     refine jc_loop (fun (s : (List GNote) × Int) (x : (Option Nat) × Nat × (List Value) × Nat) => match s, x with | ⟨xs_10, i_11⟩, ⟨o_625, cap_626, sp_627, n_628⟩ => (xs_10.length = n_628) ∧ ((o_625 ≠ none → n_628 ≤ cap_626 ∧ sp_627.length = (cap_626 - n_628) * 2)) ∧ ((o_625 = none → xs_10 = [] ∧ cap_626 = 0))) (fun (s : (List GNote) × Int) (x : (Option Nat) × Nat × (List Value) × Nat) => match s, x with | ⟨xs_10, i_11⟩, ⟨o_625, cap_626, sp_627, n_628⟩ => [(2, [], (.func (.func 107) #[] #[(.pointer (some ⟨E_b, 0, none⟩)), (.pointer (some ⟨F_b, 0, none⟩)), (.pointer (some ⟨G_b, 0, none⟩)), (.pointer (some ⟨H_b, 0, none⟩))])), (3, [], (.pointer (some ⟨b_1, 0, none⟩))), (4, [], (.pointer (some ⟨b_2, 0, none⟩))), (6, [], (.int .i64 i_4)), (10, [], (.int .i64 (w64 f0.fSteps))), (11, [], (.int .i64 i_4)), (16, [], (.int .i64 t_7)), (17, [], (.int .i64 i_11))]) (fun (s : (List GNote) × Int) (x : (Option Nat) × Nat × (List Value) × Nat) => match s, x with | ⟨xs_10, i_11⟩, ⟨o_625, cap_626, sp_627, n_628⟩ => [⟨some E_b, 2, [(.int .i64 g2c0)]⟩, ⟨some F_b, 2, [(.int .i64 g2c1)]⟩, ⟨some G_b, 29, [(.slice (o_625.map fun b => ⟨b, 0, none⟩) n_628 cap_626)]⟩, ⟨o_625, 68, row encGNote xs_10 sp_627⟩, ⟨some H_b, 27, [(.int .i16 g2c3.fSteps), (.slice J_a g2c3.fHammers.length J_c)]⟩, ⟨some b_1, 27, [(.int .i16 f0.fSteps), (.slice C_a f0.fHammers.length C_c)]⟩, ⟨(some b_2), 34, row encU32 d1.1 []⟩]) ht_644 ⟨o_536, cap_537, sp_538, xs_3.length⟩ ⟨rfl, hs_540, ho_541⟩ (by kernel_rfl) [0, 1, 2, 3, 4, 5, 6] (by kernel_rfl) (by kernel_rfl) ?_
     rintro ⟨xs_10, i_11⟩ ⟨o_625, cap_626, sp_627, n_628⟩ y_632 ⟨rfl, hs_629, ho_630⟩ h
     rw [impl_Frame_pins_at_impl_Frame_played_1.l_12] at h
     refine jc_seq (jc_region (qh [0] (qe (jx_then (jc_seq (qi h (fun h => ?_) (fun h => ?_)))))))
     ·refine jc_skip (jx_then (jc_seq (jc_block (jc_seq (jc_region (qh [0,0] (qe (jx_then (jc_seq (jc_region (qh [0,0] ?_)))))))))))
      obtain ⟨t_14, ht_635, h⟩ := bd h
      refine tO (pc 0 (fun w hm => impl_Drum_has.calls d1 i_4 i_11 w _ (hm.ow 6 (some b_2) 34 d1.1 [] (fun e => nomatch e) encU32_len) ht_635) ?_)
      rintro w v w' hm ⟨rfl, hm'⟩
      refine ⟨_, hm.app hm', jkO ?_⟩
      clear hm hm'
      refine qe (jx_then (qi h (fun h => ?_) (fun h => ?_)))
      ·refine jc_region (qh [0,0,0] ?_)
       obtain ⟨t_15, ht_637, h⟩ := bd h
       refine tO (pc 0 (fun w hm => impl_Frame_played_1.calls i_4 i_11 g2c0 g2c1 xs_10 g2c3 w _ J_c (hm.exRowW J_h J_ha) rfl E_b F_b G_b o_625 rfl hs_629 ho_630 H_b (hm.pass (N := [⟨some E_b, 2, [(.int .i64 g2c0)]⟩, ⟨some F_b, 2, [(.int .i64 g2c1)]⟩, ⟨some G_b, 29, [(.slice (o_625.map fun b => ⟨b, 0, none⟩) xs_10.length cap_626)]⟩, ⟨o_625, 68, row encGNote xs_10 sp_627⟩, ⟨some H_b, 27, [(.int .i16 g2c3.fSteps), (.slice J_a g2c3.fHammers.length J_c)]⟩]) [0, 1, 2, 3, 4] (by kernel_rfl) (by kernel_rfl)) (hm.exApart (N := [⟨some E_b, 2, [(.int .i64 g2c0)]⟩, ⟨some F_b, 2, [(.int .i64 g2c1)]⟩, ⟨some G_b, 29, [(.slice (o_625.map fun b => ⟨b, 0, none⟩) xs_10.length cap_626)]⟩, ⟨o_625, 68, row encGNote xs_10 sp_627⟩, ⟨some H_b, 27, [(.int .i16 g2c3.fSteps), (.slice J_a g2c3.fHammers.length J_c)]⟩]) J_h J_ha [0, 1, 2, 3, 4] (by kernel_rfl)) ht_637) ?_)
       rintro w v w' hm ⟨o_638, cap_639, sp_640, _, rfl, hs_641, ho_642, rfl, hm'⟩
       refine ⟨_, Mem.pick (hm.appP (ps := [(0, ⟨some E_b, 2, [(.int .i64 g2c0)]⟩), (1, ⟨some F_b, 2, [(.int .i64 g2c1)]⟩), (2, ⟨some G_b, 29, [(.slice (o_638.map fun b => ⟨b, 0, none⟩) t_15.length cap_639)]⟩), (4, ⟨some H_b, 27, [(.int .i16 g2c3.fSteps), (.slice J_a g2c3.fHammers.length J_c)]⟩)]) (ds := [3]) (N := [⟨o_638, 68, row encGNote t_15 sp_640⟩]) hm' [0, 1, 2, 4, 3] (by kernel_rfl) (by kernel_rfl) (by kernel_rfl)) (N := [⟨some E_b, 2, [(.int .i64 g2c0)]⟩, ⟨some F_b, 2, [(.int .i64 g2c1)]⟩, ⟨some G_b, 29, [(.slice (o_638.map fun b => ⟨b, 0, none⟩) t_15.length cap_639)]⟩, ⟨o_638, 68, row encGNote t_15 sp_640⟩, ⟨some H_b, 27, [(.int .i16 g2c3.fSteps), (.slice J_a g2c3.fHammers.length J_c)]⟩, ⟨some b_1, 27, [(.int .i16 f0.fSteps), (.slice C_a f0.fHammers.length C_c)]⟩, ⟨(some b_2), 34, row encU32 d1.1 []⟩]) [0, 1, 2, 7, 4, 5, 6] (by kernel_rfl) (by kernel_rfl), jkO ?_⟩
       clear hm hm'
       exact qe (jx_inn (jx_then (jc_region (qh [0,0] (qe (qb (t_15, (w64 (i_11 + 1))) ⟨o_638, cap_639, sp_640, t_15.length⟩ h ⟨rfl, hs_641, ho_642⟩ [0, 1, 2, 3, 4, 5, 6]))))))
      ·exact jc_skip (jx_inn (jx_then (jc_region (qh [0,0] (qe (qb (xs_10, (w64 (i_11 + 1))) ⟨o_625, cap_626, sp_627, xs_10.length⟩ h ⟨rfl, hs_629, ho_630⟩ [0, 1, 2, 3, 4, 5, 6]))))))
     ·refine jc_exit (jx_thenx (jx_leave xs_10 (Option.some.inj h).symm (fun e_643 => ?_)))
      subst e_643
      exact jx_ine (qm ⟨xs_10, o_625, cap_626, sp_627, xs_10.length⟩ ⟨hr_631, rfl, hs_629, ho_630⟩ [0, 1, 2, 3, 4, 5, 6])
    ·rintro ⟨xs_8, o_593, cap_594, sp_595, n_596⟩ ⟨h, rfl, hs_597, ho_598⟩
     replace h : impl_Frame_pins_at_impl_Frame_played_1.k_9 i_4 xs_8 = some y_543 := h
     rw [impl_Frame_pins_at_impl_Frame_played_1.k_9] at h
     exact jx_inn (jx_then (jc_region (qh [0,0] (qe (qb (xs_8, (w64 (i_4 + 1))) ⟨o_593, cap_594, sp_595, xs_8.length⟩ h ⟨rfl, hs_597, ho_598⟩ [0, 1, 2, 3, 4, 5, 6])))))
   ·refine jc_exit (jx_thenx (jx_leave xs_3 (Option.some.inj h).symm (fun e_645 => ?_)))
    subst e_645
    exact jx_ine (qm ⟨xs_3, o_536, cap_537, sp_538, xs_3.length⟩ ⟨hr_542, rfl, hs_540, ho_541⟩ [0, 1, 2, 3, 4, 5, 6])
  ·rintro ⟨xs_1, o_322, cap_323, sp_324, n_325⟩ ⟨h, rfl, hs_326, ho_327⟩
   replace h : impl_Frame_pins_at_impl_Frame_played_1.k_2 xs_1 = some r := h
   rw [impl_Frame_pins_at_impl_Frame_played_1.k_2] at h
   refine jx_fall ?_
   obtain rfl := Option.some.inj h
   exact qr [] (fun w hm => ⟨o_322, cap_323, sp_324, xs_1.length, rfl, hs_326, ho_327, rfl, hm.pk [0, 1, 2, 4, 3]⟩)
/-! ### slices.Clone[[]impl.Note,impl.Note] -/
def slices_Clone_Note (s0 : List GNote) : Option ((List GNote)) := (if ([] : List GNote).length + s0.length ≤ 4294967296 then some (([] : List GNote) ++ s0) else none)
theorem slices_Clone_Note.calls (s0 : List GNote) (w : World) (r : (List GNote)) {A_a : Option Addr} {A_an : Nat} (A_c : Nat) (A_h : Rw w A_a 2 encGNote s0) (A_hn : s0.length = A_an) (h : slices_Clone_Note s0 = some r) :
    Calls Tryz.prog 122 #[(.slice A_a A_an A_c)] w fun e w' => ∃ v, e = .returned v ∧ (∃ (o0 : Option Nat) (c0 : Nat) (s0 : List Value) (n0 : Nat), r.length = n0 ∧ (o0 ≠ none → n0 ≤ c0 ∧ s0.length = (c0 - n0) * 2) ∧ (o0 = none → r = [] ∧ c0 = 0) ∧ v = .slice (o0.map fun b => ⟨b, 0, none⟩) n0 c0 ∧ Mem w [] [⟨o0, 68, row encGNote r s0⟩] w') := by
  subst A_hn
  rw [slices_Clone_Note] at h
  refine enter (args := [(.slice A_a s0.length A_c)]) Tryz.func122 rfl Tryz.ntmps122 (by kernel_rfl) (L := []) (W := []) (Mem.start w) ?_
  refine jc_seq (jc_region (qh [0] (qe (jx_then (jc_seq (jc_seq (jc_region (qh [0] ?_))))))))
  by_cases hn_4 : A_a = none
  ·have hx0 : s0 = [] := (nil_of A_h hn_4)
   replace h : some [] = some r := by simpa [hx0] using h
   refine tO (p_nil 0 A_a true true (by kernel_rfl) (by kernel_rfl) (by rw [hn_4]; rfl) (jkO (qe (jx_then (jc_cond true (by kernel_rfl) (fun hc_5 => (jc_seq (jc_region (qh [0] (qe (jx_then (jc_ret (jx_thenr ?_)))))))) (fun hc_5 => nomatch hc_5))))))
   obtain rfl := Option.some.inj h
   exact jx_ghost 68 encGNote (qr [] (fun w hm => ⟨none, 0, [], 0, rfl, (fun e => absurd rfl e), (fun _ => ⟨rfl, rfl⟩), rfl, hm.pk [0]⟩))
  ·refine tO (p_nil 0 A_a true false (by kernel_rfl) (by kernel_rfl) (by rw [Option.isNone_eq_false_iff.2 (Option.ne_none_iff_isSome.1 hn_4)]; rfl) (jkO (qe (jx_then (jc_cond false (by kernel_rfl) (fun hc_6 => nomatch hc_6) (fun hc_6 => (jc_skip (jx_then (jc_seq (jc_region (tO (qa 0 (fun b_7 => jkO (qh [0] ?_))))))))))))))
   obtain ⟨hg_8, h⟩ := gd h
   refine tO (p_apn 0 0 (some b_7) 68 0 s0.length 0 2 4 A_a encGNote ([] : List GNote) s0 [] (.agg #[(.int .i16 0), (.int .i8 0)]) rfl rfl (by kernel_rfl) (by kernel_rfl) (by kernel_rfl) encGNote_len encGNote_cell (fun _ => ⟨Nat.le_refl _, by simp⟩) (fun e => nomatch e) (fun w hm => (hm.xr A_h)) hg_8 (by kernel_rfl) (by kernel_rfl) (fun o_9 cap_10 sp_11 hs_12 ho_13 => jkO (qh [0] (qe (jx_then (jc_ret ?_))))))
   obtain rfl := Option.some.inj h
   exact qr [] (fun w hm => ⟨o_9, cap_10, sp_11, ((([] : List GNote) ++ s0).length), rfl, hs_12, ho_13, rfl, hm.pk [0]⟩)
def lay_slices_SortFunc_Note_at_impl_compareNotes_ren : Go.Shelf.Ren := ⟨fun | 6 => 123 | 15 => 136 | 14 => 135 | 28 => 152 | 29 => 138 | 20 => 144 | 21 => 145 | 22 => 146 | 23 => 147 | 24 => 148 | 25 => 149 | 26 => 150 | 27 => 151 | 46 => 155 | 47 => 156 | 48 => 157 | 49 => 158 | 50 => 159 | 57 => 160 | n => n, fun | 22 => 29 | 24 => 68 | 25 => 152 | 3 => 3 | 39 => 103 | 0 => 0 | 53 => 32 | 55 => 113 | 4 => 4 | 46 => 179 | 45 => 178 | 50 => 183 | 5 => 5 | 9 => 9 | 66 => 185 | 70 => 189 | 76 => 193 | 77 => 194 | n => n, fun | n => n⟩
theorem lay_slices_SortFunc_Note_at_impl_compareNotes : Go.Proofs.SlLaysF0.n6 Tryz.prog lay_slices_SortFunc_Note_at_impl_compareNotes_ren where
  mixed := by kernel_rfl
  f6 := ⟨ "slices.SortFunc[[]loop.example/g01311/impl.Note,loop.example/g01311/impl.Note]", by decide, Tryz.func123.trans (congrArg some (by kernel_rfl))⟩
  f14 := ⟨ "slices.pdqsortCmpFunc[loop.example/g01311/impl.Note]", by decide, Tryz.func135.trans (congrArg some (by kernel_rfl))⟩
  f15 := Tryz.func136.trans (congrArg some (by kernel_rfl))
  f20 := ⟨ "slices.insertionSortCmpFunc[loop.example/g01311/impl.Note]", by decide, Tryz.func144.trans (congrArg some (by kernel_rfl))⟩
  f21 := ⟨ "slices.heapSortCmpFunc[loop.example/g01311/impl.Note]", by decide, Tryz.func145.trans (congrArg some (by kernel_rfl))⟩
  f22 := ⟨ "slices.breakPatternsCmpFunc[loop.example/g01311/impl.Note]", by decide, Tryz.func146.trans (congrArg some (by kernel_rfl))⟩
  f23 := ⟨ "slices.choosePivotCmpFunc[loop.example/g01311/impl.Note]", by decide, Tryz.func147.trans (congrArg some (by kernel_rfl))⟩
  f24 := ⟨ "slices.reverseRangeCmpFunc[loop.example/g01311/impl.Note]", by decide, Tryz.func148.trans (congrArg some (by kernel_rfl))⟩
  f25 := ⟨ "slices.partialInsertionSortCmpFunc[loop.example/g01311/impl.Note]", by decide, Tryz.func149.trans (congrArg some (by kernel_rfl))⟩
  f26 := ⟨ "slices.partitionEqualCmpFunc[loop.example/g01311/impl.Note]", by decide, Tryz.func150.trans (congrArg some (by kernel_rfl))⟩
  f27 := ⟨ "slices.partitionCmpFunc[loop.example/g01311/impl.Note]", by decide, Tryz.func151.trans (congrArg some (by kernel_rfl))⟩
  f28 := Tryz.func152.trans (congrArg some (by kernel_rfl))
  f29 := Tryz.func138.trans (congrArg some (by kernel_rfl))
  f46 := ⟨ "slices.siftDownCmpFunc[loop.example/g01311/impl.Note]", by decide, Tryz.func155.trans (congrArg some (by kernel_rfl))⟩
  f47 := Tryz.func156.trans (congrArg some (by kernel_rfl))
  f48 := Tryz.func157.trans (congrArg some (by kernel_rfl))
  f49 := ⟨ "slices.medianAdjacentCmpFunc[loop.example/g01311/impl.Note]", by decide, Tryz.func158.trans (congrArg some (by kernel_rfl))⟩
  f50 := ⟨ "slices.medianCmpFunc[loop.example/g01311/impl.Note]", by decide, Tryz.func159.trans (congrArg some (by kernel_rfl))⟩
  f57 := ⟨ "slices.order2CmpFunc[loop.example/g01311/impl.Note]", by decide, Tryz.func160.trans (congrArg some (by kernel_rfl))⟩
  t0 := Tryz.underlying0
  a0 := Tryz.isAgg0
  z0 := Tryz.sizeOf0
  v0 := Tryz.zeroValue0
  t3 := Tryz.underlying3
  a3 := Tryz.isAgg3
  z3 := Tryz.sizeOf3
  v3 := Tryz.zeroValue3
  t4 := Tryz.underlying4
  a4 := Tryz.isAgg4
  z4 := Tryz.sizeOf4
  v4 := Tryz.zeroValue4
  t5 := Tryz.underlying5
  a5 := Tryz.isAgg5
  z5 := Tryz.sizeOf5
  v5 := Tryz.zeroValue5
  t9 := Tryz.underlying9
  a9 := Tryz.isAgg9
  z9 := Tryz.sizeOf9
  v9 := Tryz.zeroValue9
  t22 := Tryz.underlying29
  a22 := Tryz.isAgg29
  z22 := Tryz.sizeOf29
  v22 := Tryz.zeroValue29
  t25 := Tryz.underlying152
  a25 := Tryz.isAgg152
  z25 := Tryz.sizeOf152
  v25 := Tryz.zeroValue152
  t39 := Tryz.underlying103
  a39 := Tryz.isAgg103
  z39 := Tryz.sizeOf103
  v39 := Tryz.zeroValue103
  t45 := Tryz.underlying178
  a45 := Tryz.isAgg178
  z45 := Tryz.sizeOf178
  v45 := Tryz.zeroValue178
  t46 := Tryz.underlying179
  a46 := Tryz.isAgg179
  z46 := Tryz.sizeOf179
  v46 := Tryz.zeroValue179
  t50 := Tryz.underlying183
  a50 := Tryz.isAgg183
  z50 := Tryz.sizeOf183
  v50 := Tryz.zeroValue183
  t53 := Tryz.underlying32
  a53 := Tryz.isAgg32
  z53 := Tryz.sizeOf32
  v53 := Tryz.zeroValue32
  t55 := Tryz.underlying113
  a55 := Tryz.isAgg113
  z55 := Tryz.sizeOf113
  v55 := Tryz.zeroValue113
  t66 := Tryz.underlying185
  a66 := Tryz.isAgg185
  z66 := Tryz.sizeOf185
  v66 := Tryz.zeroValue185
  t70 := Tryz.underlying189
  a70 := Tryz.isAgg189
  z70 := Tryz.sizeOf189
  v70 := Tryz.zeroValue189
  t76 := Tryz.underlying193
  a76 := Tryz.isAgg193
  z76 := Tryz.sizeOf193
  v76 := Tryz.zeroValue193
  t77 := Tryz.underlying194
  a77 := Tryz.isAgg194
  z77 := Tryz.sizeOf194
  v77 := Tryz.zeroValue194
/-! ### slices.SortFunc[[]impl.Note,impl.Note] -/
def slices_SortFunc_Note_at_impl_compareNotes (x0 : List GNote) : Option ((List GNote)) := sortF (fun a b => impl_compareNotes a b) x0
theorem slices_SortFunc_Note_at_impl_compareNotes.calls (x0 : List GNote) (w : World) (r : (List GNote)) (x0_o : Option Nat) {x0_on : Nat} {x0_c : Nat} {x0_sp : List Value} (x0_hn : x0.length = x0_on) (x0_hs : x0_o ≠ none → x0_on ≤ x0_c ∧ x0_sp.length = (x0_c - x0_on) * 2) (x0_ho : x0_o = none → x0 = [] ∧ x0_c = 0) (hm0 : Mem w (bs [x0_o]) [⟨x0_o, 68, row encGNote x0 x0_sp⟩] w) (h : slices_SortFunc_Note_at_impl_compareNotes x0 = some r) :
    Calls Tryz.prog 123 #[(.slice (x0_o.map fun b => ⟨b, 0, none⟩) x0_on x0_c), (.func (.func 121) #[] #[])] w fun e w' => ∃ v, e = .returned v ∧ (r.length = x0_on ∧ (x0_o = none → r = [] ∧ x0_c = 0) ∧ v = .tuple #[] ∧ Mem w (bs [x0_o]) [⟨x0_o, 68, row encGNote r x0_sp⟩] w') := by
  exact sort_calls lay_slices_SortFunc_Note_at_impl_compareNotes 2 Tryz.isAgg68 Tryz.sizeOf68 encGNote encGNote_len (fun x v hv => by simp [encGNote] at hv; rcases hv with rfl | rfl <;> rfl) (fun a b => impl_compareNotes a b) 121 (enters_of Tryz.func121 (by kernel_rfl) rfl) (fun x y r w hxy => impl_compareNotes.calls (dsW := ⟨True⟩) x y w r hxy) 68 x0 w r x0_o x0_on x0_c x0_sp x0_hn x0_hs x0_ho hm0 (by rw [slices_SortFunc_Note_at_impl_compareNotes] at h; exact h)
/-! ### slices.Compact[[]impl.Note,impl.Note] -/
def slices_Compact_Note.k_1 (s0 : List GNote) : Option ((List GNote)) := some s0
def slices_Compact_Note.k_9 (xs_7 : List GNote) (i_8 : Int) : Option ((Int) ⊕ ((List GNote) ⊕ Unit)) := (if 0 ≤ i_8 ∧ i_8 ≤ (xs_7.length : Int) then some (.inr (.inl (xs_7.take i_8.toNat))) else none)
def slices_Compact_Note.l_13 (s0 : List GNote) (i_2 : Int) : ((List GNote) × Int × Int) → Option (((List GNote) × Int × Int) ⊕ (((List GNote) × Int)))
  | (xs_10, i_11, i_12) => (if (decide (i_12 < (((s0.length - i_2.toNat) : Nat) : Int))) = true then (ix (xs_10.drop i_2.toNat) i_12).bind fun x_15 => (ix (xs_10.drop i_2.toNat) (w64 (i_12 - 1))).bind fun x_16 => (if (!((x_15.fAt == x_16.fAt) && (x_15.fPitch == x_16.fPitch))) = true then (ix (xs_10.drop i_2.toNat) i_12).bind fun x_17 => (ix xs_10 i_11).bind fun x_18 => some (.inl ((xs_10.set i_11.toNat x_17), (w64 (i_11 + 1)), (w64 (i_12 + 1)))) else some (.inl (xs_10, i_11, (w64 (i_12 + 1))))) else some (.inr (xs_10, i_11)))
def slices_Compact_Note.l_3 (s0 : List GNote) : Int → Option ((Int) ⊕ ((List GNote) ⊕ Unit))
  | i_2 => (if (decide (i_2 < (s0.length : Int))) = true then (ix s0 i_2).bind fun x_5 => (ix s0 (w64 (i_2 - 1))).bind fun x_6 => (if ((x_5.fAt == x_6.fAt) && (x_5.fPitch == x_6.fPitch)) = true then (if 0 ≤ i_2 ∧ i_2 ≤ (s0.length : Int) then (loop (slices_Compact_Note.l_13 s0 i_2) (s0, i_2, 1)).bind fun t_14 => slices_Compact_Note.k_9 t_14.1 t_14.2 else none) else some (.inl (w64 (i_2 + 1)))) else some (.inr (.inr ())))
def slices_Compact_Note (s0 : List GNote) : Option ((List GNote)) := (if (decide ((s0.length : Int) < 2)) = true then some s0 else (loop (slices_Compact_Note.l_3 s0) 1).bind fun t_4 => match t_4 with | .inl p => some p | .inr p => slices_Compact_Note.k_1 s0)
theorem slices_Compact_Note.calls (s0 : List GNote) (w : World) (r : (List GNote)) (A_o : Option Nat) {A_on : Nat} {A_c : Nat} {A_sp : List Value} (A_hn : s0.length = A_on) (A_hs : A_o ≠ none → A_on ≤ A_c ∧ A_sp.length = (A_c - A_on) * 2) (A_ho : A_o = none → s0 = [] ∧ A_c = 0) (hm0 : Mem w (bs [A_o]) [⟨A_o, 68, row encGNote s0 A_sp⟩] w) (h : slices_Compact_Note s0 = some r) :
    Calls Tryz.prog 124 #[(.slice (A_o.map fun b => ⟨b, 0, none⟩) A_on A_c)] w fun e w' => ∃ v, e = .returned v ∧ (∃ (o0 : Option Nat) (c0 : Nat) (s0 : List Value) (n0 : Nat), r.length = n0 ∧ (o0 ≠ none → n0 ≤ c0 ∧ s0.length = (c0 - n0) * 2) ∧ (o0 = none → r = [] ∧ c0 = 0) ∧ v = .slice (o0.map fun b => ⟨b, 0, none⟩) n0 c0 ∧ Mem w (bs [A_o]) [⟨o0, 68, row encGNote r s0⟩] w') := by
  subst A_hn
  rw [slices_Compact_Note] at h
  refine enter (args := [(.slice (A_o.map fun b => ⟨b, 0, none⟩) s0.length A_c)]) Tryz.func124 rfl Tryz.ntmps124 (by kernel_rfl) (L := [⟨A_o, 68, row encGNote s0 A_sp⟩]) (W := bs [A_o]) hm0 ?_
  refine jc_seq (jc_region (qh [0] (qe (jx_then (jc_seq (jc_seq (jc_region (qh [0,0,0] (qe (jx_then (qi h (fun h => ?_) (fun h => ?_))))))))))))
  ·refine jc_seq (jc_region (qh [0,0] (qe (jx_then (jc_ret (jx_thenr ?_))))))
   obtain rfl := Option.some.inj h
   exact qr [] (fun w hm => ⟨A_o, A_c, A_sp, s0.length, rfl, A_hs, A_ho, rfl, hm.pk [0]⟩)
  ·refine jc_skip (jx_then (jc_seq (jc_seq (jc_region (qh [0] (qe (jx_then (jc_meet (fun (_ : Unit) => slices_Compact_Note.k_1 s0 = some r) (fun (_ : Unit) => [(0, [], (.slice (A_o.map fun b => ⟨b, 0, none⟩) s0.length A_c)), (2, [], (.slice none 0 0))]) (fun (_ : Unit) => [⟨A_o, 68, row encGNote s0 A_sp⟩]) ?_ ?_))))))))
   ·refine jc_block ?_
    obtain ⟨t_4, ht_1582, hr_1448⟩ := bd h
    refine jc_loop (fun (s : Int) (x : Unit) => match s, x with | i_2, _ => True) (fun (s : Int) (x : Unit) => match s, x with | i_2, _ => [(0, [], (.slice (A_o.map fun b => ⟨b, 0, none⟩) s0.length A_c)), (2, [], (.slice none 0 0)), (3, [], (.int .i64 i_2))]) (fun (s : Int) (x : Unit) => match s, x with | i_2, _ => [⟨A_o, 68, row encGNote s0 A_sp⟩]) ht_1582 () trivial (by kernel_rfl) [0] (by kernel_rfl) (by kernel_rfl) ?_
    rintro i_2 _ y_1449 _ h
    rw [slices_Compact_Note.l_3] at h
    refine jc_seq (jc_seq (jc_region (qh [0,0,0,0] (qe (jx_then (qi h (fun h => ?_) (fun h => ?_)))))))
    ·refine jc_skip (jx_then (jc_seq (jc_block (jc_seq (qg [⟨A_o, 68, row encGNote s0 A_sp⟩] 10 (qd [⟨0, 0, 0⟩,⟨1, 0, 0⟩,⟨4, 0, 0⟩,⟨5, 0, 0⟩,⟨6, 0, 0⟩] 5 [0] ?_))))))
     obtain ⟨x_5, hx_1452, h⟩ := bd h
     refine qv 2 0 [0] (fun w hm => idx_run (a := (A_o.map fun b => ⟨b, 0, none⟩)) (len := s0.length) (s := 2) (j := i_2) (by kernel_rfl) (ix_some hx_1452).1 (ltn hx_1452 rfl) (spo A_ho hx_1452)) (qv 3 0 [0] (fun w hm => ld_run (b := aB (A_o.map fun b => ⟨b, 0, none⟩)) (off := (aO (A_o.map fun b => ⟨b, 0, none⟩) + i_2.toNat * 2)) (s := 2) (agg := true) (vs := (encGNote x_5)) (by kernel_rfl) (by kernel_rfl) (.inl rfl) ((hm.ow 0 A_o 68 s0 A_sp (fun e => (A_ho e).1) encGNote_len).at hx_1452)) ?_)
     obtain ⟨x_6, hx_1453, h⟩ := bd h
     refine qv 7 0 [0] (fun w hm => idx_run (a := (A_o.map fun b => ⟨b, 0, none⟩)) (len := s0.length) (s := 2) (j := (w64 (i_2 - 1))) (by kernel_rfl) (ix_some hx_1453).1 (ltn hx_1453 rfl) (spo A_ho hx_1453)) (qv 8 0 [0] (fun w hm => ld_run (b := aB (A_o.map fun b => ⟨b, 0, none⟩)) (off := (aO (A_o.map fun b => ⟨b, 0, none⟩) + (w64 (i_2 - 1)).toNat * 2)) (s := 2) (agg := true) (vs := (encGNote x_6)) (by kernel_rfl) (by kernel_rfl) (.inl rfl) ((hm.ow 0 A_o 68 s0 A_sp (fun e => (A_ho e).1) encGNote_len).at hx_1453)) (qd [⟨9, 0, 0⟩] 0 [0] (qz (jx_then (qi h (fun h => ?_) (fun h => ?_))))))
     ·refine jc_seq (jc_region (qh [0,0] ?_))
      obtain ⟨hg_1455, h⟩ := gd h
      refine tO (p_slL 0 (A_o.map fun b => ⟨b, 0, none⟩) s0.length A_c 2 i_2 (by kernel_rfl) (by kernel_rfl) hg_1455.1 (Int.le_trans hg_1455.2 (Int.ofNat_le.2 (Nat.le_of_eq rfl))) (jkO (qh [0] (qe (jx_then (jc_seq (jc_seq (jc_region (qh [0] (qe (jx_then (jc_meet (fun (j : (List GNote) × Int) => match j with | ⟨xs_7, i_8⟩ => slices_Compact_Note.k_9 xs_7 i_8 = some y_1449 ∧ (xs_7.length = s0.length) ∧ ((A_o = none → xs_7 = [] ∧ A_c = 0))) (fun (j : (List GNote) × Int) => match j with | ⟨xs_7, i_8⟩ => [(0, [], (.slice (A_o.map fun b => ⟨b, 0, none⟩) s0.length A_c)), (2, [], (.slice none 0 0)), (3, [], (.int .i64 i_8))]) (fun (j : (List GNote) × Int) => match j with | ⟨xs_7, i_8⟩ => [⟨A_o, 68, row encGNote xs_7 A_sp⟩]) ?_ ?_))))))))))))
      ·refine jc_block ?_
       obtain ⟨t_14, ht_1580, hr_1570⟩ := bd h
       refine jc_loop (fun (s : (List GNote) × Int × Int) (x : Unit) => match s, x with | ⟨xs_10, i_11, i_12⟩, _ => (xs_10.length = s0.length) ∧ ((A_o = none → xs_10 = [] ∧ A_c = 0))) (fun (s : (List GNote) × Int × Int) (x : Unit) => match s, x with | ⟨xs_10, i_11, i_12⟩, _ => [(0, [], (.slice (A_o.map fun b => ⟨b, 0, none⟩) s0.length A_c)), (2, [], (.slice none 0 0)), (3, [], (.int .i64 i_11)), (4, [], (.slice (pa (A_o.map fun b => ⟨b, 0, none⟩) i_2.toNat A_c 2) (s0.length - i_2.toNat) (A_c - i_2.toNat))), (5, [], (.int .i64 i_12))]) (fun (s : (List GNote) × Int × Int) (x : Unit) => match s, x with | ⟨xs_10, i_11, i_12⟩, _ => [⟨A_o, 68, row encGNote xs_10 A_sp⟩]) ht_1580 () ⟨rfl, A_ho⟩ (by kernel_rfl) [0] (by kernel_rfl) (by kernel_rfl) ?_
       rintro ⟨xs_10, i_11, i_12⟩ _ y_1571 ⟨hn_1569, ho_1568⟩ h
       rw [slices_Compact_Note.l_13] at h
       refine jc_seq (jc_seq (jc_region (qh [0,0,0,0] (qe (jx_then (qi h (fun h => ?_) (fun h => ?_)))))))
       ·refine jc_skip (jx_then (jc_seq (jc_block (jc_seq (qg [⟨A_o, 68, row encGNote xs_10 A_sp⟩] 10 (qd [⟨0, 0, 0⟩,⟨1, 0, 0⟩,⟨4, 0, 0⟩,⟨5, 0, 0⟩,⟨6, 0, 0⟩] 5 [0] ?_))))))
        obtain ⟨x_15, hx_1574, h⟩ := bd h
        refine qv 2 0 [0] (fun w hm => idx_run (a := (pa (A_o.map fun b => ⟨b, 0, none⟩) i_2.toNat A_c 2)) (len := (s0.length - i_2.toNat)) (s := 2) (j := i_12) (by kernel_rfl) (ix_some hx_1574).1 (ltn hx_1574 (tl_len hn_1569 (i_2))) (spo_tl (o := A_o) (m := 2) ho_1568 hx_1574)) (qv 3 0 [0] (fun w hm => ld_run (b := aB (pa (A_o.map fun b => ⟨b, 0, none⟩) i_2.toNat A_c 2)) (off := (aO (pa (A_o.map fun b => ⟨b, 0, none⟩) i_2.toNat A_c 2) + i_12.toNat * 2)) (s := 2) (agg := true) (vs := (encGNote x_15)) (by kernel_rfl) (by kernel_rfl) (.inl rfl) (((hm.ow 0 A_o 68 xs_10 A_sp (fun e => (ho_1568 e).1) encGNote_len).tl i_2.toNat A_c (cap_le hn_1569 A_hs ho_1568)).at hx_1574)) ?_)
        obtain ⟨x_16, hx_1575, h⟩ := bd h
        refine qv 7 0 [0] (fun w hm => idx_run (a := (pa (A_o.map fun b => ⟨b, 0, none⟩) i_2.toNat A_c 2)) (len := (s0.length - i_2.toNat)) (s := 2) (j := (w64 (i_12 - 1))) (by kernel_rfl) (ix_some hx_1575).1 (ltn hx_1575 (tl_len hn_1569 (i_2))) (spo_tl (o := A_o) (m := 2) ho_1568 hx_1575)) (qv 8 0 [0] (fun w hm => ld_run (b := aB (pa (A_o.map fun b => ⟨b, 0, none⟩) i_2.toNat A_c 2)) (off := (aO (pa (A_o.map fun b => ⟨b, 0, none⟩) i_2.toNat A_c 2) + (w64 (i_12 - 1)).toNat * 2)) (s := 2) (agg := true) (vs := (encGNote x_16)) (by kernel_rfl) (by kernel_rfl) (.inl rfl) (((hm.ow 0 A_o 68 xs_10 A_sp (fun e => (ho_1568 e).1) encGNote_len).tl i_2.toNat A_c (cap_le hn_1569 A_hs ho_1568)).at hx_1575)) (qd [⟨9, 0, 0⟩] 0 [0] (qz (jx_then (qi h (fun h => ?_) (fun h => ?_))))))
        ·refine jc_seq (jc_region (qh [0,0,0,0] ?_))
         obtain ⟨x_17, hx_1577, h⟩ := bd h
         refine tO (qx 0 (pa (A_o.map fun b => ⟨b, 0, none⟩) i_2.toNat A_c 2) 2 hx_1577 (tl_len hn_1569 (i_2)) (spo_tl (o := A_o) (m := 2) ho_1568 hx_1577) (jkO (tO (ql 0 true (fun w hm => (((hm.ow 0 A_o 68 xs_10 A_sp (fun e => (ho_1568 e).1) encGNote_len).tl i_2.toNat A_c (cap_le hn_1569 A_hs ho_1568)).at hx_1577)) (jkO ?_)))))
         obtain ⟨x_18, hx_1578, h⟩ := bd h
         exact tO (qx 0 (A_o.map fun b => ⟨b, 0, none⟩) 2 hx_1578 hn_1569 (spo ho_1568 hx_1578) (jkO (tO (p_strO 0 0 A_o 68 encGNote xs_10 A_sp i_11 x_17 2 0 [(.int .i16 x_17.fAt), (.int .i8 x_17.fPitch)] (by kernel_rfl) (by kernel_rfl) (by kernel_rfl) (fun e => (ho_1568 e).1) encGNote_len hx_1578 (by kernel_rfl) (by kernel_rfl) (jkO (qe (jx_then (jc_region (qh [0,0,0] (qe (jx_inn (jx_then (jc_region (qh [0,0,0] (qe (qb ((xs_10.set i_11.toNat x_17), (w64 (i_11 + 1)), (w64 (i_12 + 1))) () h ⟨(List.length_set.trans hn_1569), (set_ho ho_1568)⟩ [0]))))))))))))))))
        ·exact jc_skip (jx_inn (jx_then (jc_region (qh [0,0,0] (qe (qb (xs_10, i_11, (w64 (i_12 + 1))) () h ⟨hn_1569, ho_1568⟩ [0]))))))
       ·refine jc_exit (jx_thenx (jx_leave (xs_10, i_11) (Option.some.inj h).symm (fun e_1579 => ?_)))
        subst e_1579
        exact jx_ine (qm ⟨xs_10, i_11⟩ ⟨hr_1570, hn_1569, ho_1568⟩ [0])
      ·rintro ⟨xs_7, i_8⟩ ⟨h, hn_1546, ho_1545⟩
       replace h : slices_Compact_Note.k_9 xs_7 i_8 = some y_1449 := h
       rw [slices_Compact_Note.k_9] at h
       refine jx_then (jc_seq (jc_region (qh [0,0] ?_)))
       obtain ⟨hg_1547, h⟩ := gd h
       refine tO (p_slL 0 (A_o.map fun b => ⟨b, 0, none⟩) s0.length A_c 2 i_8 (by kernel_rfl) (by kernel_rfl) hg_1547.1 (Int.le_trans hg_1547.2 (Int.ofNat_le.2 (Nat.le_of_eq hn_1546))) (jkO (tO (jp_cut (hh := 0) (o := A_o) (T := 68) (enc := encGNote) (xs := xs_7) (sp := A_sp) i_8.toNat (by kernel_rfl) (p_clr 0 0 A_o 68 i_8.toNat i_8.toNat (s0.length - i_8.toNat) A_c 2 [(.int .i16 0), (.int .i8 0)] encGNote (xs_7.take i_8.toNat) ((xs_7.drop i_8.toNat).flatMap encGNote ++ A_sp) (hd_len hg_1547) rfl (by kernel_rfl) (by kernel_rfl) (by kernel_rfl) encGNote_len (by kernel_rfl) (cut_hs encGNote_len (show i_8.toNat ≤ xs_7.length by have := hg_1547; omega) hn_1546 A_hs) (cut_ho i_8.toNat ho_1545) (by have := (cap_le hn_1546 A_hs ho_1545); have : xs_7.length = s0.length := hn_1546; omega) (fun sp_1548 hl_1549 => jkO (qe (jx_then (jc_seq (jc_region (qh [0,0] (tO (p_slH 0 (A_o.map fun b => ⟨b, 0, none⟩) s0.length A_c 2 i_8 (by kernel_rfl) (by kernel_rfl) hg_1547.1 (by have h1 := (cap_le (hd_len hg_1547) (fun e => ⟨((cut_hs encGNote_len (show i_8.toNat ≤ xs_7.length by have := hg_1547; omega) hn_1546 A_hs) e).1, hl_1549.trans ((cut_hs encGNote_len (show i_8.toNat ≤ xs_7.length by have := hg_1547; omega) hn_1546 A_hs) e).2⟩) (cut_ho i_8.toNat ho_1545)); have h2 := (hd_len hg_1547); omega) (jkO (qh [0] (qe (jx_then (jc_ret (jx_inr (jx_thenr (jx_leaver (.inl (xs_7.take i_8.toNat)) (Option.some.inj h).symm (fun e_1551 => ?_))))))))))))))))))))))
       subst e_1551
       refine jx_inr (jx_thenr (jx_thenr ?_))
       obtain rfl := Option.some.inj hr_1448
       exact qr [] (fun w hm => ⟨A_o, A_c, sp_1548, i_8.toNat, (hd_len hg_1547), (fun e => ⟨((cut_hs encGNote_len (show i_8.toNat ≤ xs_7.length by have := hg_1547; omega) hn_1546 A_hs) e).1, hl_1549.trans ((cut_hs encGNote_len (show i_8.toNat ≤ xs_7.length by have := hg_1547; omega) hn_1546 A_hs) e).2⟩), (cut_ho i_8.toNat ho_1545), rfl, hm.pk [0]⟩)
     ·exact jc_skip (jx_inn (jx_then (jc_region (qh [0,0,0] (qe (qb (w64 (i_2 + 1)) () h trivial [0]))))))
    ·refine jc_exit (jx_thenx (jx_leave (.inr ()) (Option.some.inj h).symm (fun e_1581 => ?_)))
     subst e_1581
     exact jx_ine (qm () hr_1448 [0])
   ·rintro _ h
    replace h : slices_Compact_Note.k_1 s0 = some r := h
    rw [slices_Compact_Note.k_1] at h
    refine jx_then (jc_seq (jc_region (qh [0,0] (qe (jx_then (jc_ret ?_))))))
    obtain rfl := Option.some.inj h
    exact qr [] (fun w hm => ⟨A_o, A_c, A_sp, s0.length, rfl, A_hs, A_ho, rfl, hm.pk [0]⟩)
/-! ### impl.made -/
def impl_made (list0 : List GNote) : Option ((List GNote)) := (slices_Clone_Note list0).bind fun t_1 => (slices_SortFunc_Note_at_impl_compareNotes t_1).bind fun t_2 => (slices_Compact_Note t_2).bind fun t_3 => some t_3
theorem impl_made.calls (list0 : List GNote) (w : World) (r : (List GNote)) {A_a : Option Addr} {A_an : Nat} (A_c : Nat) (A_h : Rw w A_a 2 encGNote list0) (A_hn : list0.length = A_an) (h : impl_made list0 = some r) :
    Calls Tryz.prog 108 #[(.slice A_a A_an A_c)] w fun e w' => ∃ v, e = .returned v ∧ (∃ (o0 : Option Nat) (c0 : Nat) (s0 : List Value) (n0 : Nat), r.length = n0 ∧ (o0 ≠ none → n0 ≤ c0 ∧ s0.length = (c0 - n0) * 2) ∧ (o0 = none → r = [] ∧ c0 = 0) ∧ v = .slice (o0.map fun b => ⟨b, 0, none⟩) n0 c0 ∧ Mem w [] [⟨o0, 68, row encGNote r s0⟩] w') := by
  subst A_hn
  rw [impl_made] at h
  refine enter (args := [(.slice A_a list0.length A_c)]) Tryz.func108 rfl Tryz.ntmps108 (by kernel_rfl) (L := []) (W := []) (Mem.start w) ?_
  refine jc_seq (jc_region (qh [0] (qe (jx_then (jc_seq (jc_region (qh [0] ?_)))))))
  obtain ⟨t_1, ht_1, h⟩ := bd h
  refine tO (pc 0 (fun w hm => slices_Clone_Note.calls list0 w _ A_c (hm.xr A_h) rfl ht_1) ?_)
  rintro w v w' hm ⟨o_2, cap_3, sp_4, _, rfl, hs_5, ho_6, rfl, hm'⟩
  refine ⟨_, hm.app hm', jkO ?_⟩
  clear hm hm'
  refine qh [0] (qe (jx_then (jc_seq (jc_region (qh [0] ?_)))))
  obtain ⟨t_2, ht_7, h⟩ := bd h
  refine tO (pc 0 (fun w hm => slices_SortFunc_Note_at_impl_compareNotes.calls t_1 w _ o_2 rfl hs_5 ho_6 (hm.pass (N := [⟨o_2, 68, row encGNote t_1 sp_4⟩]) [0] (by kernel_rfl) (by kernel_rfl)) ht_7) ?_)
  rintro w v w' hm ⟨hn_8, ho_9, rfl, hm'⟩
  refine ⟨_, hm.appW (ps := [(0, ⟨o_2, 68, row encGNote t_2 sp_4⟩)]) (N := []) hm' (by kernel_rfl) (by kernel_rfl), jkO ?_⟩
  clear hm hm'
  refine qe (jx_then (jc_seq (jc_region (qh [0] ?_))))
  obtain ⟨t_3, ht_10, h⟩ := bd h
  refine tO (pc 0 (fun w hm => slices_Compact_Note.calls t_2 w _ o_2 hn_8 hs_5 ho_9 (hm.pass (N := [⟨o_2, 68, row encGNote t_2 sp_4⟩]) [0] (by kernel_rfl) (by kernel_rfl)) ht_10) ?_)
  rintro w v w' hm ⟨o_11, cap_12, sp_13, _, rfl, hs_14, ho_15, rfl, hm'⟩
  refine ⟨_, hm.appP (ps := []) (ds := [0]) (N := [⟨o_11, 68, row encGNote t_3 sp_13⟩]) hm' [0] (by kernel_rfl) (by kernel_rfl) (by kernel_rfl), jkO ?_⟩
  clear hm hm'
  refine qh [0] (qe (jx_then (jc_ret ?_)))
  obtain rfl := Option.some.inj h
  exact qr [] (fun w hm => ⟨o_11, cap_12, sp_13, t_3.length, rfl, hs_14, ho_15, rfl, hm.pk [1]⟩)
/-! ### (impl.Frame).played -/
def impl_Frame_played (f0 : GFrame) (d1 : Arr 96 Int) (from2 : Int) (steps3 : Int) : Option ((List GNote)) := (impl_Frame_pins_at_impl_Frame_played_1 f0 d1 from2 steps3 ([] : List GNote) f0).bind fun t_1 => (impl_made t_1).bind fun t_2 => some t_2
theorem impl_Frame_played.calls (f0 : GFrame) (d1 : Arr 96 Int) (from2 : Int) (steps3 : Int) (w : World) (r : (List GNote)) {C_a : Option Addr} {C_an : Nat} (C_c : Nat) (C_h : Rw w C_a 2 encGHammer f0.fHammers) (C_hn : f0.fHammers.length = C_an) (h : impl_Frame_played f0 d1 from2 steps3 = some r) :
    Calls Tryz.prog 66 #[(.agg #[(.int .i16 f0.fSteps), (.slice C_a C_an C_c)]), (.agg (row encU32 d1.1 []).toArray), (.int .i64 from2), (.int .i64 steps3)] w fun e w' => ∃ v, e = .returned v ∧ (∃ (o0 : Option Nat) (c0 : Nat) (s0 : List Value) (n0 : Nat), r.length = n0 ∧ (o0 ≠ none → n0 ≤ c0 ∧ s0.length = (c0 - n0) * 2) ∧ (o0 = none → r = [] ∧ c0 = 0) ∧ v = .slice (o0.map fun b => ⟨b, 0, none⟩) n0 c0 ∧ Mem w [] [⟨o0, 68, row encGNote r s0⟩] w') := by
  subst C_hn
  rw [impl_Frame_played] at h
  refine enter (args := [(.agg #[(.int .i16 f0.fSteps), (.slice C_a f0.fHammers.length C_c)]), (.agg (row encU32 d1.1 []).toArray), (.int .i64 from2), (.int .i64 steps3)]) Tryz.func66 rfl Tryz.ntmps66 (by kernel_rfl) (L := []) (W := []) (Mem.start w) ?_
  refine jc_seq (jc_region (tO (qa 0 (fun b_1 => jkO (tO (qa 0 (fun b_2 => jkO (tO (qa 0 (fun b_3 => jkO (tO (qa 0 (fun b_4 => jkO (qh [0] (qe (jx_then (jc_seq (jc_region (tO (qa 0 (fun b_5 => jkO (tO (qa 0 (fun b_6 => jkO (tO (qs 0 [5] (jkO (qe (jx_then (jc_seq (jc_region (qh [0] (tO (p_ldA 0 1 b_2 96 1 34 encU32 d1 (by kernel_rfl) (by kernel_rfl) (by kernel_rfl) encU32_len (by kernel_rfl) (jkO (qh [0] ?_))))))))))))))))))))))))))))))))))))
  obtain ⟨t_1, ht_7, h⟩ := bd h
  refine tO (pc 0 (fun w hm => impl_Frame_pins_at_impl_Frame_played_1.calls f0 d1 from2 steps3 ([] : List GNote) f0 w _ C_c (hm.xr C_h) rfl C_c (hm.xr C_h) rfl b_3 b_4 b_6 (some b_5) rfl (fun _ => ⟨Nat.le_refl _, by simp⟩) (fun e => nomatch e) b_1 (hm.pass (N := [⟨some b_3, 2, [(.int .i64 from2)]⟩, ⟨some b_4, 2, [(.int .i64 steps3)]⟩, ⟨some b_6, 29, [(.slice (some ⟨b_5, 0, none⟩) 0 0)]⟩, ⟨(some b_5), 68, row encGNote ([] : List GNote) []⟩, ⟨some b_1, 27, [(.int .i16 f0.fSteps), (.slice C_a f0.fHammers.length C_c)]⟩]) [2, 3, 5, 4, 0] (by kernel_rfl) (by kernel_rfl)) (hm.exApart (N := [⟨some b_3, 2, [(.int .i64 from2)]⟩, ⟨some b_4, 2, [(.int .i64 steps3)]⟩, ⟨some b_6, 29, [(.slice (some ⟨b_5, 0, none⟩) 0 0)]⟩, ⟨(some b_5), 68, row encGNote ([] : List GNote) []⟩, ⟨some b_1, 27, [(.int .i16 f0.fSteps), (.slice C_a f0.fHammers.length C_c)]⟩]) C_h (fun _ => List.not_mem_nil) [2, 3, 5, 4, 0] (by kernel_rfl)) (hm.exApart (N := [⟨some b_3, 2, [(.int .i64 from2)]⟩, ⟨some b_4, 2, [(.int .i64 steps3)]⟩, ⟨some b_6, 29, [(.slice (some ⟨b_5, 0, none⟩) 0 0)]⟩, ⟨(some b_5), 68, row encGNote ([] : List GNote) []⟩, ⟨some b_1, 27, [(.int .i16 f0.fSteps), (.slice C_a f0.fHammers.length C_c)]⟩]) C_h (fun _ => List.not_mem_nil) [2, 3, 5, 4, 0] (by kernel_rfl)) ht_7) ?_)
  rintro w v w' hm ⟨o_8, cap_9, sp_10, _, rfl, hs_11, ho_12, rfl, hm'⟩
  refine ⟨_, Mem.pick (hm.appP (ps := [(2, ⟨some b_3, 2, [(.int .i64 from2)]⟩), (3, ⟨some b_4, 2, [(.int .i64 steps3)]⟩), (5, ⟨some b_6, 29, [(.slice (o_8.map fun b => ⟨b, 0, none⟩) t_1.length cap_9)]⟩), (0, ⟨some b_1, 27, [(.int .i16 f0.fSteps), (.slice C_a f0.fHammers.length C_c)]⟩)]) (ds := [4]) (N := [⟨o_8, 68, row encGNote t_1 sp_10⟩]) hm' [0, 1, 2, 4, 3] (by kernel_rfl) (by kernel_rfl) (by kernel_rfl)) (N := [⟨some b_1, 27, [(.int .i16 f0.fSteps), (.slice C_a f0.fHammers.length C_c)]⟩, ⟨(some b_2), 34, row encU32 d1.1 []⟩, ⟨some b_3, 2, [(.int .i64 from2)]⟩, ⟨some b_4, 2, [(.int .i64 steps3)]⟩, ⟨o_8, 68, row encGNote t_1 sp_10⟩, ⟨some b_6, 29, [(.slice (o_8.map fun b => ⟨b, 0, none⟩) t_1.length cap_9)]⟩]) [0, 1, 2, 3, 6, 5] (by kernel_rfl) (by kernel_rfl), jkO ?_⟩
  clear hm hm'
  refine qe (jx_then (jc_seq (jc_region (qh [5] ?_))))
  obtain ⟨t_2, ht_13, h⟩ := bd h
  refine tO (pc 0 (fun w hm => impl_made.calls t_1 w _ cap_9 (hm.ow 4 o_8 68 t_1 sp_10 (fun e => (ho_12 e).1) encGNote_len) rfl ht_13) ?_)
  rintro w v w' hm ⟨o_14, cap_15, sp_16, _, rfl, hs_17, ho_18, rfl, hm'⟩
  refine ⟨_, hm.app hm', jkO ?_⟩
  clear hm hm'
  refine qh [0] (qe (jx_then (jc_ret ?_)))
  obtain rfl := Option.some.inj h
  exact qr [] (fun w hm => ⟨o_14, cap_15, sp_16, t_2.length, rfl, hs_17, ho_18, rfl, hm.pk [6]⟩)
/-! ### slices.Equal[impl.Tune,impl.Note] -/
def slices_Equal_Note.k_1 : Option (Bool) := some true
def slices_Equal_Note.l_3 (s10 : List GNote) (s21 : List GNote) : Int → Option ((Int) ⊕ (Bool ⊕ Unit))
  | i_2 => (if (decide (i_2 < (s10.length : Int))) = true then (ix s10 i_2).bind fun x_5 => (ix s21 i_2).bind fun x_6 => (if (!((x_5.fAt == x_6.fAt) && (x_5.fPitch == x_6.fPitch))) = true then some (.inr (.inl false)) else some (.inl (w64 (i_2 + 1)))) else some (.inr (.inr ())))
def slices_Equal_Note (s10 : List GNote) (s21 : List GNote) : Option (Bool) := (if ((s10.length : Int) != (s21.length : Int)) = true then some false else (loop (slices_Equal_Note.l_3 s10 s21) 0).bind fun t_4 => match t_4 with | .inl p => some p | .inr p => slices_Equal_Note.k_1)
theorem slices_Equal_Note.calls (s10 : List GNote) (s21 : List GNote) (w : World) (r : Bool) {A_a : Option Addr} {A_an : Nat} (A_c : Nat) (A_h : Rw w A_a 2 encGNote s10) (A_hn : s10.length = A_an) {B_a : Option Addr} {B_an : Nat} (B_c : Nat) (B_h : Rw w B_a 2 encGNote s21) (B_hn : s21.length = B_an) (h : slices_Equal_Note s10 s21 = some r) :
    Calls Tryz.prog 86 #[(.slice A_a A_an A_c), (.slice B_a B_an B_c)] w fun e w' => ∃ v, e = .returned v ∧ (v = (.bool r) ∧ Mem w [] [] w') := by
  subst A_hn B_hn
  rw [slices_Equal_Note] at h
  refine enter (args := [(.slice A_a s10.length A_c), (.slice B_a s21.length B_c)]) Tryz.func86 rfl Tryz.ntmps86 (by kernel_rfl) (L := []) (W := []) (Mem.start w) ?_
  refine jc_seq (jc_region (qh [0] (qe (jx_then (jc_seq (jc_seq (jc_region (qh [0,0,0,0,0] (qe (jx_then (qi h (fun h => ?_) (fun h => ?_))))))))))))
  ·refine jc_seq (jc_region (qh [0] (qe (jx_then (jc_ret (jx_thenr ?_))))))
   obtain rfl := Option.some.inj h
   exact qr [] (fun w hm => ⟨rfl, hm.pk []⟩)
  ·refine jc_skip (jx_then (jc_seq (jc_seq (jc_region (qh [0,0,0] (qe (jx_then (jc_meet (fun (_ : Unit) => slices_Equal_Note.k_1 = some r) (fun (_ : Unit) => [(4, [], (.bool false))]) (fun (_ : Unit) => []) ?_ ?_))))))))
   ·refine jc_block ?_
    obtain ⟨t_4, ht_42, hr_33⟩ := bd h
    refine jc_loop (fun (s : Int) (x : Unit) => match s, x with | i_2, _ => True) (fun (s : Int) (x : Unit) => match s, x with | i_2, _ => [(0, [], (.slice A_a s10.length A_c)), (1, [], (.slice B_a s21.length B_c)), (4, [], (.bool false)), (12, [], (.int .i64 (s10.length : Int))), (13, [], (.int .i64 i_2))]) (fun (s : Int) (x : Unit) => match s, x with | i_2, _ => []) ht_42 () trivial (by kernel_rfl) [] (by kernel_rfl) (by kernel_rfl) ?_
    rintro i_2 _ y_34 _ h
    rw [slices_Equal_Note.l_3] at h
    refine jc_seq (jc_region (qh [0] (qe (jx_then (jc_seq (qi h (fun h => ?_) (fun h => ?_)))))))
    ·refine jc_skip (jx_then (jc_seq (jc_block (jc_seq (jc_region (qh [0,0] (qe (jx_then (jc_seq (qg [] 9 (qd [⟨0, 0, 0⟩,⟨1, 0, 0⟩,⟨4, 0, 0⟩,⟨5, 0, 0⟩] 5 [] ?_)))))))))))
     obtain ⟨x_5, hx_37, h⟩ := bd h
     refine qv 2 0 [] (fun w hm => idx_run (a := A_a) (len := s10.length) (s := 2) (j := i_2) (by kernel_rfl) (ix_some hx_37).1 (ltn hx_37 rfl) (A_h.sp hx_37)) (qv 3 0 [] (fun w hm => ld_run (b := aB A_a) (off := (aO A_a + i_2.toNat * 2)) (s := 2) (agg := true) (vs := (encGNote x_5)) (by kernel_rfl) (by kernel_rfl) (.inl rfl) ((hm.xr A_h).at hx_37)) ?_)
     obtain ⟨x_6, hx_38, h⟩ := bd h
     refine qv 6 0 [] (fun w hm => idx_run (a := B_a) (len := s21.length) (s := 2) (j := i_2) (by kernel_rfl) (ix_some hx_38).1 (ltn hx_38 rfl) (B_h.sp hx_38)) (qv 7 0 [] (fun w hm => ld_run (b := aB B_a) (off := (aO B_a + i_2.toNat * 2)) (s := 2) (agg := true) (vs := (encGNote x_6)) (by kernel_rfl) (by kernel_rfl) (.inl rfl) ((hm.xr B_h).at hx_38)) (qd [⟨8, 0, 0⟩] 0 [] (qz (jx_then (qi h (fun h => ?_) (fun h => ?_))))))
     ·refine jc_seq (jc_region (qh [0] (qe (jx_then (jc_ret (jx_inr (jx_thenr (jx_leaver (.inl false) (Option.some.inj h).symm (fun e_40 => ?_)))))))))
      subst e_40
      refine jx_inr (jx_thenr (jx_thenr ?_))
      obtain rfl := Option.some.inj hr_33
      exact qr [] (fun w hm => ⟨rfl, hm.pk []⟩)
     ·exact jc_skip (jx_inn (jx_then (jc_region (qh [0,0] (qe (qb (w64 (i_2 + 1)) () h trivial []))))))
    ·refine jc_exit (jx_thenx (jx_leave (.inr ()) (Option.some.inj h).symm (fun e_41 => ?_)))
     subst e_41
     exact jx_ine (qm () hr_33 [])
   ·rintro _ h
    replace h : slices_Equal_Note.k_1 = some r := h
    rw [slices_Equal_Note.k_1] at h
    refine jx_then (jc_seq (jc_region (qh [0] (qe (jx_then (jc_ret ?_))))))
    obtain rfl := Option.some.inj h
    exact qr [] (fun w hm => ⟨rfl, hm.pk []⟩)
/-! ### (impl.Frame).clashes -/
def impl_Frame_clashes (f0 : GFrame) (d1 : Arr 96 Int) (step2 : Int) (track3 : Int) : Option (Bool) := (ix f0.fHammers track3).bind fun x_1 => (impl_Frame_behind f0 d1 step2 track3 1).bind fun t_2 => some (decide (t_2 < (w64 x_1.fReady)))
theorem impl_Frame_clashes.calls (f0 : GFrame) (d1 : Arr 96 Int) (step2 : Int) (track3 : Int) (w : World) (r : Bool) {C_a : Option Addr} {C_an : Nat} (C_c : Nat) (C_h : Rw w C_a 2 encGHammer f0.fHammers) (C_hn : f0.fHammers.length = C_an) {D_b D_q : Nat} (D_h : Rw w (some ⟨D_b, D_q, none⟩) 1 encU32 d1.1) (h : impl_Frame_clashes f0 d1 step2 track3 = some r) :
    Calls Tryz.prog 116 #[(.agg #[(.int .i16 f0.fSteps), (.slice C_a C_an C_c)]), (.pointer (some ⟨D_b, D_q, none⟩)), (.int .i64 step2), (.int .i64 track3)] w fun e w' => ∃ v, e = .returned v ∧ (v = (.bool r) ∧ Mem w [] [] w') := by
  subst C_hn
  rw [impl_Frame_clashes] at h
  refine enter (args := [(.agg #[(.int .i16 f0.fSteps), (.slice C_a f0.fHammers.length C_c)]), (.pointer (some ⟨D_b, D_q, none⟩)), (.int .i64 step2), (.int .i64 track3)]) Tryz.func116 rfl Tryz.ntmps116 (by kernel_rfl) (L := []) (W := []) (Mem.start w) ?_
  refine jc_seq (jc_region (tO (qa 0 (fun b_1 => jkO (qh [0] (qe (jx_then (jc_seq (qg [⟨some b_1, 27, [(.int .i16 f0.fSteps), (.slice C_a f0.fHammers.length C_c)]⟩] 14 (qd [⟨0, 0, 0⟩,⟨1, 0, 0⟩,⟨2, 0, 0⟩,⟨3, 0, 0⟩,⟨5, 0, 0⟩,⟨6, 0, 0⟩,⟨7, 0, 0⟩] 7 [0] ?_))))))))))
  obtain ⟨x_1, hx_2, h⟩ := bd h
  refine qv 8 0 [0] (fun w hm => idx_run (a := C_a) (len := f0.fHammers.length) (s := 2) (j := track3) (by kernel_rfl) (ix_some hx_2).1 (ltn hx_2 rfl) (C_h.sp hx_2)) (qd [⟨9, 0, 0⟩] 5 [0] (qv 10 0 [0] (fun w hm => ld_run (b := aB C_a) (off := (aO C_a + track3.toNat * 2 + 1)) (s := 1) (agg := false) (vs := (((encGHammer x_1).drop 1).take 1)) (by kernel_rfl) (by kernel_rfl) (.inr rfl) (((hm.xr C_h).at hx_2).sub 1 1)) (qd [⟨11, 0, 0⟩] 3 [0] ?_)))
  obtain ⟨t_2, ht_3, h⟩ := bd h
  refine tD 4 (pc 0 (fun w hm => impl_Frame_behind.calls f0 d1 step2 track3 1 w _ C_c (hm.xr C_h) rfl (hm.xr D_h) ht_3) ?_)
  rintro w v w' hm ⟨rfl, hm'⟩
  refine ⟨_, hm.app hm', kD [0] ?_⟩
  clear hm hm'
  refine qd [⟨12, 0, 0⟩,⟨13, 0, 0⟩] 0 [0] (qz (jx_then (jc_ret ?_)))
  obtain rfl := Option.some.inj h
  exact qr [] (fun w hm => ⟨rfl, hm.pk []⟩)
/-! ### (impl.Frame).allClashes$1 -/
def impl_Frame_allClashes_1 (step0 : Int) (track1 : Int) (p2 : GFrame) (p3 : Arr 96 Int) (p4 : List (Arr 2 Int)) : Option ((List (Arr 2 Int))) := (impl_Frame_clashes p2 p3 step0 track1).bind fun t_1 => (if t_1 = true then (if p4.length + ([(Arr.set (Arr.set (Arr.rep 2 0) 0 step0) 1 track1)] : List (Arr 2 Int)).length ≤ 4294967296 then some (p4 ++ ([(Arr.set (Arr.set (Arr.rep 2 0) 0 step0) 1 track1)] : List (Arr 2 Int))) else none) else some p4)
theorem impl_Frame_allClashes_1.calls (step0 : Int) (track1 : Int) (p2 : GFrame) (p3 : Arr 96 Int) (p4 : List (Arr 2 Int)) (w : World) (r : (List (Arr 2 Int))) {E_a : Option Addr} {E_an : Nat} (E_c : Nat) (E_h : Rw w E_a 2 encGHammer p2.fHammers) (E_hn : p2.fHammers.length = E_an) {F_b F_q : Nat} (F_h : Rw w (some ⟨F_b, F_q, none⟩) 1 encU32 p3.1) (C_b : Nat) (G_b : Nat) (G_o : Option Nat) {G_on : Nat} {G_c : Nat} {G_sp : List Value} (G_hn : p4.length = G_on) (G_hs : G_o ≠ none → G_on ≤ G_c ∧ G_sp.length = (G_c - G_on) * 2) (G_ho : G_o = none → p4 = [] ∧ G_c = 0) (hm0 : Mem w (bs [some C_b, some G_b, G_o]) [⟨some C_b, 27, [(.int .i16 p2.fSteps), (.slice E_a E_an E_c)]⟩, ⟨some G_b, 40, [(.slice (G_o.map fun b => ⟨b, 0, none⟩) G_on G_c)]⟩, ⟨G_o, 94, row encA2I64 p4 G_sp⟩] w) (E_ha : p2.fHammers ≠ [] → aB E_a ∉ bs [some C_b, some G_b, G_o]) (F_ha : p3.1 ≠ [] → aB (some ⟨F_b, F_q, none⟩) ∉ bs [some C_b, some G_b, G_o]) (h : impl_Frame_allClashes_1 step0 track1 p2 p3 p4 = some r) :
    Calls Tryz.prog 115 #[(.int .i64 step0), (.int .i64 track1), (.pointer (some ⟨C_b, 0, none⟩)), (.pointer (some ⟨F_b, F_q, none⟩)), (.pointer (some ⟨G_b, 0, none⟩))] w fun e w' => ∃ v, e = .returned v ∧ (∃ (mo0 : Option Nat) (mc0 : Nat) (ms0 : List Value) (mn0 : Nat), r.length = mn0 ∧ (mo0 ≠ none → mn0 ≤ mc0 ∧ ms0.length = (mc0 - mn0) * 2) ∧ (mo0 = none → r = [] ∧ mc0 = 0) ∧ v = .tuple #[] ∧ Mem w (bs [some C_b, some G_b, G_o]) [⟨some C_b, 27, [(.int .i16 p2.fSteps), (.slice E_a E_an E_c)]⟩, ⟨some G_b, 40, [(.slice (mo0.map fun b => ⟨b, 0, none⟩) mn0 mc0)]⟩, ⟨mo0, 94, row encA2I64 r ms0⟩] w') := by
  subst E_hn G_hn
  rw [impl_Frame_allClashes_1] at h
  refine enter (args := [(.int .i64 step0), (.int .i64 track1), (.pointer (some ⟨C_b, 0, none⟩)), (.pointer (some ⟨F_b, F_q, none⟩)), (.pointer (some ⟨G_b, 0, none⟩))]) Tryz.func115 rfl Tryz.ntmps115 (by kernel_rfl) (L := [⟨some C_b, 27, [(.int .i16 p2.fSteps), (.slice E_a p2.fHammers.length E_c)]⟩, ⟨some G_b, 40, [(.slice (G_o.map fun b => ⟨b, 0, none⟩) p4.length G_c)]⟩, ⟨G_o, 94, row encA2I64 p4 G_sp⟩]) (W := bs [some C_b, some G_b, G_o]) hm0 ?_
  refine jc_seq (jc_region (qh [0,0,0] ?_))
  obtain ⟨t_1, ht_1, h⟩ := bd h
  refine tO (pc 0 (fun w hm => impl_Frame_clashes.calls p2 p3 step0 track1 w _ E_c (hm.exRowW E_h E_ha) rfl (hm.exRowW F_h F_ha) ht_1) ?_)
  rintro w v w' hm ⟨rfl, hm'⟩
  refine ⟨_, hm.app hm', jkO ?_⟩
  clear hm hm'
  refine qe (jx_then (qi h (fun h => ?_) (fun h => ?_)))
  ·refine jc_region (qh [1,0,0,0] (tO (p_bs 0 94 2 1 encA2I64 [(.agg (row encI64 (Arr.set (Arr.set (Arr.rep 2 0) 0 step0) 1 track1).1 []).toArray)] [(Arr.set (Arr.set (Arr.rep 2 0) 0 step0) 1 track1)] (by kernel_rfl) (by kernel_rfl) rfl (by kernel_rfl) (by kernel_rfl) encA2I64_len (fun b_3 => jkO ?_))))
   obtain ⟨hg_4, h⟩ := gd h
   refine tO (p_apn 0 2 G_o 94 p4.length 1 G_c 2 16 (some ⟨b_3, 0, none⟩) encA2I64 p4 ([(Arr.set (Arr.set (Arr.rep 2 0) 0 step0) 1 track1)] : List (Arr 2 Int)) G_sp (.agg (row encI64 (Arr.rep 2 0).1 []).toArray) rfl rfl (by kernel_rfl) (by kernel_rfl) (by kernel_rfl) encA2I64_len encA2I64_cell G_hs G_ho (fun w hm => (hm.ow 3 (some b_3) 94 ([(Arr.set (Arr.set (Arr.rep 2 0) 0 step0) 1 track1)] : List (Arr 2 Int)) [] (fun e => nomatch e) encA2I64_len)) hg_4 (by kernel_rfl) (by kernel_rfl) (fun o_5 cap_6 sp_7 hs_8 ho_9 => jkO (tO (qs 0 [1] (jkO (qe (jx_fall ?_)))))))
   obtain rfl := Option.some.inj h
   exact qr [] (fun w hm => ⟨o_5, cap_6, sp_7, ((p4 ++ ([(Arr.set (Arr.set (Arr.rep 2 0) 0 step0) 1 track1)] : List (Arr 2 Int))).length), rfl, hs_8, ho_9, rfl, hm.pk [0, 1, 2]⟩)
  ·refine jc_skip (jx_fall ?_)
   obtain rfl := Option.some.inj h
   exact qr [] (fun w hm => ⟨G_o, G_c, G_sp, p4.length, rfl, G_hs, G_ho, rfl, hm.pk [0, 1, 2]⟩)
/-! ### (impl.Frame).pins -/
def impl_Frame_pins_at_impl_Frame_allClashes_1.k_2 (xs_1 : List (Arr 2 Int)) : Option ((List (Arr 2 Int))) := some xs_1
def impl_Frame_pins_at_impl_Frame_allClashes_1.k_9 (i_4 : Int) (xs_8 : List (Arr 2 Int)) : Option (((List (Arr 2 Int)) × Int) ⊕ ((List (Arr 2 Int)))) := some (.inl (xs_8, (w64 (i_4 + 1))))
def impl_Frame_pins_at_impl_Frame_allClashes_1.l_12 (d1 : Arr 96 Int) (g2c0 : GFrame) (g2c1 : Arr 96 Int) (i_4 : Int) (t_7 : Int) : ((List (Arr 2 Int)) × Int) → Option (((List (Arr 2 Int)) × Int) ⊕ ((List (Arr 2 Int))))
  | (xs_10, i_11) => (if (decide (i_11 < t_7)) = true then (impl_Drum_has d1 i_4 i_11).bind fun t_14 => (if t_14 = true then (impl_Frame_allClashes_1 i_4 i_11 g2c0 g2c1 xs_10).bind fun t_15 => some (.inl (t_15, (w64 (i_11 + 1)))) else some (.inl (xs_10, (w64 (i_11 + 1))))) else some (.inr xs_10))
def impl_Frame_pins_at_impl_Frame_allClashes_1.l_5 (f0 : GFrame) (d1 : Arr 96 Int) (g2c0 : GFrame) (g2c1 : Arr 96 Int) : ((List (Arr 2 Int)) × Int) → Option (((List (Arr 2 Int)) × Int) ⊕ ((List (Arr 2 Int))))
  | (xs_3, i_4) => (if (decide (i_4 < (w64 f0.fSteps))) = true then (impl_size_Hammer f0.fHammers).bind fun t_7 => (loop (impl_Frame_pins_at_impl_Frame_allClashes_1.l_12 d1 g2c0 g2c1 i_4 t_7) (xs_3, 0)).bind fun t_13 => impl_Frame_pins_at_impl_Frame_allClashes_1.k_9 i_4 t_13 else some (.inr xs_3))
def impl_Frame_pins_at_impl_Frame_allClashes_1 (f0 : GFrame) (d1 : Arr 96 Int) (g2c0 : GFrame) (g2c1 : Arr 96 Int) (g2c2 : List (Arr 2 Int)) : Option ((List (Arr 2 Int))) := (loop (impl_Frame_pins_at_impl_Frame_allClashes_1.l_5 f0 d1 g2c0 g2c1) (g2c2, 0)).bind fun t_6 => impl_Frame_pins_at_impl_Frame_allClashes_1.k_2 t_6
theorem impl_Frame_pins_at_impl_Frame_allClashes_1.calls (f0 : GFrame) (d1 : Arr 96 Int) (g2c0 : GFrame) (g2c1 : Arr 96 Int) (g2c2 : List (Arr 2 Int)) (w : World) (r : (List (Arr 2 Int))) {C_a : Option Addr} {C_an : Nat} (C_c : Nat) (C_h : Rw w C_a 2 encGHammer f0.fHammers) (C_hn : f0.fHammers.length = C_an) {G_a : Option Addr} {G_an : Nat} (G_c : Nat) (G_h : Rw w G_a 2 encGHammer g2c0.fHammers) (G_hn : g2c0.fHammers.length = G_an) {H_b H_q : Nat} (H_h : Rw w (some ⟨H_b, H_q, none⟩) 1 encU32 g2c1.1) (E_b : Nat) (I_b : Nat) (I_o : Option Nat) {I_on : Nat} {I_c : Nat} {I_sp : List Value} (I_hn : g2c2.length = I_on) (I_hs : I_o ≠ none → I_on ≤ I_c ∧ I_sp.length = (I_c - I_on) * 2) (I_ho : I_o = none → g2c2 = [] ∧ I_c = 0) (hm0 : Mem w (bs [some E_b, some I_b, I_o]) [⟨some E_b, 27, [(.int .i16 g2c0.fSteps), (.slice G_a G_an G_c)]⟩, ⟨some I_b, 40, [(.slice (I_o.map fun b => ⟨b, 0, none⟩) I_on I_c)]⟩, ⟨I_o, 94, row encA2I64 g2c2 I_sp⟩] w) (C_ha : f0.fHammers ≠ [] → aB C_a ∉ bs [some E_b, some I_b, I_o]) (G_ha : g2c0.fHammers ≠ [] → aB G_a ∉ bs [some E_b, some I_b, I_o]) (H_ha : g2c1.1 ≠ [] → aB (some ⟨H_b, H_q, none⟩) ∉ bs [some E_b, some I_b, I_o]) (h : impl_Frame_pins_at_impl_Frame_allClashes_1 f0 d1 g2c0 g2c1 g2c2 = some r) :
    Calls Tryz.prog 91 #[(.agg #[(.int .i16 f0.fSteps), (.slice C_a C_an C_c)]), (.agg (row encU32 d1.1 []).toArray), (.func (.func 115) #[] #[(.pointer (some ⟨E_b, 0, none⟩)), (.pointer (some ⟨H_b, H_q, none⟩)), (.pointer (some ⟨I_b, 0, none⟩))])] w fun e w' => ∃ v, e = .returned v ∧ (∃ (mo0 : Option Nat) (mc0 : Nat) (ms0 : List Value) (mn0 : Nat), r.length = mn0 ∧ (mo0 ≠ none → mn0 ≤ mc0 ∧ ms0.length = (mc0 - mn0) * 2) ∧ (mo0 = none → r = [] ∧ mc0 = 0) ∧ v = .tuple #[] ∧ Mem w (bs [some E_b, some I_b, I_o]) [⟨some E_b, 27, [(.int .i16 g2c0.fSteps), (.slice G_a G_an G_c)]⟩, ⟨some I_b, 40, [(.slice (mo0.map fun b => ⟨b, 0, none⟩) mn0 mc0)]⟩, ⟨mo0, 94, row encA2I64 r ms0⟩] w') := by
  subst C_hn G_hn I_hn
  rw [impl_Frame_pins_at_impl_Frame_allClashes_1] at h
  refine enter (args := [(.agg #[(.int .i16 f0.fSteps), (.slice C_a f0.fHammers.length C_c)]), (.agg (row encU32 d1.1 []).toArray), (.func (.func 115) #[] #[(.pointer (some ⟨E_b, 0, none⟩)), (.pointer (some ⟨H_b, H_q, none⟩)), (.pointer (some ⟨I_b, 0, none⟩))])]) Tryz.func91 rfl Tryz.ntmps91 (by kernel_rfl) (L := [⟨some E_b, 27, [(.int .i16 g2c0.fSteps), (.slice G_a g2c0.fHammers.length G_c)]⟩, ⟨some I_b, 40, [(.slice (I_o.map fun b => ⟨b, 0, none⟩) g2c2.length I_c)]⟩, ⟨I_o, 94, row encA2I64 g2c2 I_sp⟩]) (W := bs [some E_b, some I_b, I_o]) hm0 ?_
  refine jc_seq (jc_region (tO (qa 0 (fun b_1 => jkO (tO (qa 0 (fun b_2 => jkO (qe (jx_then (jc_seq (jc_region (qh [0,3,0,0] (qe (jx_then (jc_meet (fun (j : (List (Arr 2 Int)) × (Option Nat) × Nat × (List Value) × Nat) => match j with | ⟨xs_1, o_322, cap_323, sp_324, n_325⟩ => impl_Frame_pins_at_impl_Frame_allClashes_1.k_2 xs_1 = some r ∧ (xs_1.length = n_325) ∧ ((o_322 ≠ none → n_325 ≤ cap_323 ∧ sp_324.length = (cap_323 - n_325) * 2)) ∧ ((o_322 = none → xs_1 = [] ∧ cap_323 = 0))) (fun (j : (List (Arr 2 Int)) × (Option Nat) × Nat × (List Value) × Nat) => match j with | ⟨xs_1, o_322, cap_323, sp_324, n_325⟩ => []) (fun (j : (List (Arr 2 Int)) × (Option Nat) × Nat × (List Value) × Nat) => match j with | ⟨xs_1, o_322, cap_323, sp_324, n_325⟩ => [⟨some E_b, 27, [(.int .i16 g2c0.fSteps), (.slice G_a g2c0.fHammers.length G_c)]⟩, ⟨some I_b, 40, [(.slice (o_322.map fun b => ⟨b, 0, none⟩) n_325 cap_323)]⟩, ⟨o_322, 94, row encA2I64 xs_1 sp_324⟩, ⟨some b_1, 27, [(.int .i16 f0.fSteps), (.slice C_a f0.fHammers.length C_c)]⟩, ⟨(some b_2), 34, row encU32 d1.1 []⟩]) ?_ ?_)))))))))))))))
  ·refine jc_block ?_
   obtain ⟨t_6, ht_646, hr_542⟩ := bd h
   refine jc_loop (fun (s : (List (Arr 2 Int)) × Int) (x : (Option Nat) × Nat × (List Value) × Nat) => match s, x with | ⟨xs_3, i_4⟩, ⟨o_536, cap_537, sp_538, n_539⟩ => (xs_3.length = n_539) ∧ ((o_536 ≠ none → n_539 ≤ cap_537 ∧ sp_538.length = (cap_537 - n_539) * 2)) ∧ ((o_536 = none → xs_3 = [] ∧ cap_537 = 0))) (fun (s : (List (Arr 2 Int)) × Int) (x : (Option Nat) × Nat × (List Value) × Nat) => match s, x with | ⟨xs_3, i_4⟩, ⟨o_536, cap_537, sp_538, n_539⟩ => [(2, [], (.func (.func 115) #[] #[(.pointer (some ⟨E_b, 0, none⟩)), (.pointer (some ⟨H_b, H_q, none⟩)), (.pointer (some ⟨I_b, 0, none⟩))])), (3, [], (.pointer (some ⟨b_1, 0, none⟩))), (4, [], (.pointer (some ⟨b_2, 0, none⟩))), (10, [], (.int .i64 (w64 f0.fSteps))), (11, [], (.int .i64 i_4))]) (fun (s : (List (Arr 2 Int)) × Int) (x : (Option Nat) × Nat × (List Value) × Nat) => match s, x with | ⟨xs_3, i_4⟩, ⟨o_536, cap_537, sp_538, n_539⟩ => [⟨some E_b, 27, [(.int .i16 g2c0.fSteps), (.slice G_a g2c0.fHammers.length G_c)]⟩, ⟨some I_b, 40, [(.slice (o_536.map fun b => ⟨b, 0, none⟩) n_539 cap_537)]⟩, ⟨o_536, 94, row encA2I64 xs_3 sp_538⟩, ⟨some b_1, 27, [(.int .i16 f0.fSteps), (.slice C_a f0.fHammers.length C_c)]⟩, ⟨(some b_2), 34, row encU32 d1.1 []⟩]) ht_646 ⟨I_o, I_c, I_sp, g2c2.length⟩ ⟨rfl, I_hs, I_ho⟩ (by kernel_rfl) [0, 1, 2, 3, 4] (by kernel_rfl) (by kernel_rfl) ?_
   rintro ⟨xs_3, i_4⟩ ⟨o_536, cap_537, sp_538, n_539⟩ y_543 ⟨rfl, hs_540, ho_541⟩ h
   rw [impl_Frame_pins_at_impl_Frame_allClashes_1.l_5] at h
   refine jc_seq (jc_region (qh [0] (qe (jx_then (jc_seq (qi h (fun h => ?_) (fun h => ?_)))))))
   ·refine jc_skip (jx_then (jc_seq (jc_block (jc_seq (jc_region (qh [0,0] (qe (jx_then (jc_seq (jc_region (qh [0,3] ?_)))))))))))
    obtain ⟨t_7, ht_546, h⟩ := bd h
    refine tO (pc 0 (fun w hm => impl_size_Hammer.calls f0.fHammers w _ C_c (hm.exRowW C_h C_ha) rfl ht_546) ?_)
    rintro w v w' hm ⟨rfl, hm'⟩
    refine ⟨_, hm.app hm', jkO ?_⟩
    clear hm hm'
    refine qh [0] (qe (jx_then (jc_meet (fun (j : (List (Arr 2 Int)) × (Option Nat) × Nat × (List Value) × Nat) => match j with | ⟨xs_8, o_593, cap_594, sp_595, n_596⟩ => impl_Frame_pins_at_impl_Frame_allClashes_1.k_9 i_4 xs_8 = some y_543 ∧ (xs_8.length = n_596) ∧ ((o_593 ≠ none → n_596 ≤ cap_594 ∧ sp_595.length = (cap_594 - n_596) * 2)) ∧ ((o_593 = none → xs_8 = [] ∧ cap_594 = 0))) (fun (j : (List (Arr 2 Int)) × (Option Nat) × Nat × (List Value) × Nat) => match j with | ⟨xs_8, o_593, cap_594, sp_595, n_596⟩ => [(2, [], (.func (.func 115) #[] #[(.pointer (some ⟨E_b, 0, none⟩)), (.pointer (some ⟨H_b, H_q, none⟩)), (.pointer (some ⟨I_b, 0, none⟩))])), (3, [], (.pointer (some ⟨b_1, 0, none⟩))), (4, [], (.pointer (some ⟨b_2, 0, none⟩))), (10, [], (.int .i64 (w64 f0.fSteps))), (11, [], (.int .i64 i_4))]) (fun (j : (List (Arr 2 Int)) × (Option Nat) × Nat × (List Value) × Nat) => match j with | ⟨xs_8, o_593, cap_594, sp_595, n_596⟩ => [⟨some E_b, 27, [(.int .i16 g2c0.fSteps), (.slice G_a g2c0.fHammers.length G_c)]⟩, ⟨some I_b, 40, [(.slice (o_593.map fun b => ⟨b, 0, none⟩) n_596 cap_594)]⟩, ⟨o_593, 94, row encA2I64 xs_8 sp_595⟩, ⟨some b_1, 27, [(.int .i16 f0.fSteps), (.slice C_a f0.fHammers.length C_c)]⟩, ⟨(some b_2), 34, row encU32 d1.1 []⟩]) ?_ ?_)))
    ·refine jc_block ?_
     obtain ⟨t_13, ht_644, hr_631⟩ := bd h
     refine jc_loop (fun (s : (List (Arr 2 Int)) × Int) (x : (Option Nat) × Nat × (List Value) × Nat) => match s, x with | ⟨xs_10, i_11⟩, ⟨o_625, cap_626, sp_627, n_628⟩ => (xs_10.length = n_628) ∧ ((o_625 ≠ none → n_628 ≤ cap_626 ∧ sp_627.length = (cap_626 - n_628) * 2)) ∧ ((o_625 = none → xs_10 = [] ∧ cap_626 = 0))) (fun (s : (List (Arr 2 Int)) × Int) (x : (Option Nat) × Nat × (List Value) × Nat) => match s, x with | ⟨xs_10, i_11⟩, ⟨o_625, cap_626, sp_627, n_628⟩ => [(2, [], (.func (.func 115) #[] #[(.pointer (some ⟨E_b, 0, none⟩)), (.pointer (some ⟨H_b, H_q, none⟩)), (.pointer (some ⟨I_b, 0, none⟩))])), (3, [], (.pointer (some ⟨b_1, 0, none⟩))), (4, [], (.pointer (some ⟨b_2, 0, none⟩))), (6, [], (.int .i64 i_4)), (10, [], (.int .i64 (w64 f0.fSteps))), (11, [], (.int .i64 i_4)), (16, [], (.int .i64 t_7)), (17, [], (.int .i64 i_11))]) (fun (s : (List (Arr 2 Int)) × Int) (x : (Option Nat) × Nat × (List Value) × Nat) => match s, x with | ⟨xs_10, i_11⟩, ⟨o_625, cap_626, sp_627, n_628⟩ => [⟨some E_b, 27, [(.int .i16 g2c0.fSteps), (.slice G_a g2c0.fHammers.length G_c)]⟩, ⟨some I_b, 40, [(.slice (o_625.map fun b => ⟨b, 0, none⟩) n_628 cap_626)]⟩, ⟨o_625, 94, row encA2I64 xs_10 sp_627⟩, ⟨some b_1, 27, [(.int .i16 f0.fSteps), (.slice C_a f0.fHammers.length C_c)]⟩, ⟨(some b_2), 34, row encU32 d1.1 []⟩]) ht_644 ⟨o_536, cap_537, sp_538, xs_3.length⟩ ⟨rfl, hs_540, ho_541⟩ (by kernel_rfl) [0, 1, 2, 3, 4] (by kernel_rfl) (by kernel_rfl) ?_
     rintro ⟨xs_10, i_11⟩ ⟨o_625, cap_626, sp_627, n_628⟩ y_632 ⟨rfl, hs_629, ho_630⟩ h
     rw [impl_Frame_pins_at_impl_Frame_allClashes_1.l_12] at h
     refine jc_seq (jc_region (qh [0] (qe (jx_then (jc_seq (qi h (fun h => ?_) (fun h => ?_)))))))
     ·refine jc_skip (jx_then (jc_seq (jc_block (jc_seq (jc_region (qh [0,0] (qe (jx_then (jc_seq (jc_region (qh [0,0] ?_)))))))))))
      obtain ⟨t_14, ht_635, h⟩ := bd h
      refine tO (pc 0 (fun w hm => impl_Drum_has.calls d1 i_4 i_11 w _ (hm.ow 4 (some b_2) 34 d1.1 [] (fun e => nomatch e) encU32_len) ht_635) ?_)
      rintro w v w' hm ⟨rfl, hm'⟩
      refine ⟨_, hm.app hm', jkO ?_⟩
      clear hm hm'
      refine qe (jx_then (qi h (fun h => ?_) (fun h => ?_)))
      ·refine jc_region (qh [0,0,0] ?_)
       obtain ⟨t_15, ht_637, h⟩ := bd h
       refine tO (pc 0 (fun w hm => impl_Frame_allClashes_1.calls i_4 i_11 g2c0 g2c1 xs_10 w _ G_c (hm.exRowW G_h G_ha) rfl (hm.exRowW H_h H_ha) E_b I_b o_625 rfl hs_629 ho_630 (hm.pass (N := [⟨some E_b, 27, [(.int .i16 g2c0.fSteps), (.slice G_a g2c0.fHammers.length G_c)]⟩, ⟨some I_b, 40, [(.slice (o_625.map fun b => ⟨b, 0, none⟩) xs_10.length cap_626)]⟩, ⟨o_625, 94, row encA2I64 xs_10 sp_627⟩]) [0, 1, 2] (by kernel_rfl) (by kernel_rfl)) (hm.exApart (N := [⟨some E_b, 27, [(.int .i16 g2c0.fSteps), (.slice G_a g2c0.fHammers.length G_c)]⟩, ⟨some I_b, 40, [(.slice (o_625.map fun b => ⟨b, 0, none⟩) xs_10.length cap_626)]⟩, ⟨o_625, 94, row encA2I64 xs_10 sp_627⟩]) G_h G_ha [0, 1, 2] (by kernel_rfl)) (hm.exApart (N := [⟨some E_b, 27, [(.int .i16 g2c0.fSteps), (.slice G_a g2c0.fHammers.length G_c)]⟩, ⟨some I_b, 40, [(.slice (o_625.map fun b => ⟨b, 0, none⟩) xs_10.length cap_626)]⟩, ⟨o_625, 94, row encA2I64 xs_10 sp_627⟩]) H_h H_ha [0, 1, 2] (by kernel_rfl)) ht_637) ?_)
       rintro w v w' hm ⟨o_638, cap_639, sp_640, _, rfl, hs_641, ho_642, rfl, hm'⟩
       refine ⟨_, Mem.pick (hm.appP (ps := [(0, ⟨some E_b, 27, [(.int .i16 g2c0.fSteps), (.slice G_a g2c0.fHammers.length G_c)]⟩), (1, ⟨some I_b, 40, [(.slice (o_638.map fun b => ⟨b, 0, none⟩) t_15.length cap_639)]⟩)]) (ds := [2]) (N := [⟨o_638, 94, row encA2I64 t_15 sp_640⟩]) hm' [0, 1, 2] (by kernel_rfl) (by kernel_rfl) (by kernel_rfl)) (N := [⟨some E_b, 27, [(.int .i16 g2c0.fSteps), (.slice G_a g2c0.fHammers.length G_c)]⟩, ⟨some I_b, 40, [(.slice (o_638.map fun b => ⟨b, 0, none⟩) t_15.length cap_639)]⟩, ⟨o_638, 94, row encA2I64 t_15 sp_640⟩, ⟨some b_1, 27, [(.int .i16 f0.fSteps), (.slice C_a f0.fHammers.length C_c)]⟩, ⟨(some b_2), 34, row encU32 d1.1 []⟩]) [0, 1, 5, 3, 4] (by kernel_rfl) (by kernel_rfl), jkO ?_⟩
       clear hm hm'
       exact qe (jx_inn (jx_then (jc_region (qh [0,0] (qe (qb (t_15, (w64 (i_11 + 1))) ⟨o_638, cap_639, sp_640, t_15.length⟩ h ⟨rfl, hs_641, ho_642⟩ [0, 1, 2, 3, 4]))))))
      ·exact jc_skip (jx_inn (jx_then (jc_region (qh [0,0] (qe (qb (xs_10, (w64 (i_11 + 1))) ⟨o_625, cap_626, sp_627, xs_10.length⟩ h ⟨rfl, hs_629, ho_630⟩ [0, 1, 2, 3, 4]))))))
     ·refine jc_exit (jx_thenx (jx_leave xs_10 (Option.some.inj h).symm (fun e_643 => ?_)))
      subst e_643
      exact jx_ine (qm ⟨xs_10, o_625, cap_626, sp_627, xs_10.length⟩ ⟨hr_631, rfl, hs_629, ho_630⟩ [0, 1, 2, 3, 4])
    ·rintro ⟨xs_8, o_593, cap_594, sp_595, n_596⟩ ⟨h, rfl, hs_597, ho_598⟩
     replace h : impl_Frame_pins_at_impl_Frame_allClashes_1.k_9 i_4 xs_8 = some y_543 := h
     rw [impl_Frame_pins_at_impl_Frame_allClashes_1.k_9] at h
     exact jx_inn (jx_then (jc_region (qh [0,0] (qe (qb (xs_8, (w64 (i_4 + 1))) ⟨o_593, cap_594, sp_595, xs_8.length⟩ h ⟨rfl, hs_597, ho_598⟩ [0, 1, 2, 3, 4])))))
   ·refine jc_exit (jx_thenx (jx_leave xs_3 (Option.some.inj h).symm (fun e_645 => ?_)))
    subst e_645
    exact jx_ine (qm ⟨xs_3, o_536, cap_537, sp_538, xs_3.length⟩ ⟨hr_542, rfl, hs_540, ho_541⟩ [0, 1, 2, 3, 4])
  ·rintro ⟨xs_1, o_322, cap_323, sp_324, n_325⟩ ⟨h, rfl, hs_326, ho_327⟩
   replace h : impl_Frame_pins_at_impl_Frame_allClashes_1.k_2 xs_1 = some r := h
   rw [impl_Frame_pins_at_impl_Frame_allClashes_1.k_2] at h
   refine jx_fall ?_
   obtain rfl := Option.some.inj h
   exact qr [] (fun w hm => ⟨o_322, cap_323, sp_324, xs_1.length, rfl, hs_326, ho_327, rfl, hm.pk [0, 1, 2]⟩)
/-! ### (impl.Frame).allClashes -/
def impl_Frame_allClashes (f0 : GFrame) (d1 : Arr 96 Int) : Option ((List (Arr 2 Int))) := (impl_Frame_pins_at_impl_Frame_allClashes_1 f0 d1 f0 d1 ([] : List (Arr 2 Int))).bind fun t_1 => some t_1
theorem impl_Frame_allClashes.calls (f0 : GFrame) (d1 : Arr 96 Int) (w : World) (r : (List (Arr 2 Int))) {C_a : Option Addr} {C_an : Nat} (C_c : Nat) (C_h : Rw w C_a 2 encGHammer f0.fHammers) (C_hn : f0.fHammers.length = C_an) (h : impl_Frame_allClashes f0 d1 = some r) :
    Calls Tryz.prog 87 #[(.agg #[(.int .i16 f0.fSteps), (.slice C_a C_an C_c)]), (.agg (row encU32 d1.1 []).toArray)] w fun e w' => ∃ v, e = .returned v ∧ (∃ (o0 : Option Nat) (c0 : Nat) (s0 : List Value) (n0 : Nat), r.length = n0 ∧ (o0 ≠ none → n0 ≤ c0 ∧ s0.length = (c0 - n0) * 2) ∧ (o0 = none → r = [] ∧ c0 = 0) ∧ v = .slice (o0.map fun b => ⟨b, 0, none⟩) n0 c0 ∧ Mem w [] [⟨o0, 94, row encA2I64 r s0⟩] w') := by
  subst C_hn
  rw [impl_Frame_allClashes] at h
  refine enter (args := [(.agg #[(.int .i16 f0.fSteps), (.slice C_a f0.fHammers.length C_c)]), (.agg (row encU32 d1.1 []).toArray)]) Tryz.func87 rfl Tryz.ntmps87 (by kernel_rfl) (L := []) (W := []) (Mem.start w) ?_
  refine jc_seq (jc_region (tO (qa 0 (fun b_1 => jkO (tO (qa 0 (fun b_2 => jkO (qh [0] (qe (jx_then (jc_seq (jc_region (tO (qa 0 (fun b_3 => jkO (tO (qa 0 (fun b_4 => jkO (tO (qs 0 [3] (jkO (qe (jx_then (jc_seq (jc_region (qh [0] (tO (p_ldA 0 1 b_2 96 1 34 encU32 d1 (by kernel_rfl) (by kernel_rfl) (by kernel_rfl) encU32_len (by kernel_rfl) (jkO (qh [0] ?_))))))))))))))))))))))))))))))
  obtain ⟨t_1, ht_5, h⟩ := bd h
  refine tO (pc 0 (fun w hm => impl_Frame_pins_at_impl_Frame_allClashes_1.calls f0 d1 f0 d1 ([] : List (Arr 2 Int)) w _ C_c (hm.xr C_h) rfl C_c (hm.xr C_h) rfl (hm.ow 1 (some b_2) 34 d1.1 [] (fun e => nomatch e) encU32_len) b_1 b_4 (some b_3) rfl (fun _ => ⟨Nat.le_refl _, by simp⟩) (fun e => nomatch e) (hm.pass (N := [⟨some b_1, 27, [(.int .i16 f0.fSteps), (.slice C_a f0.fHammers.length C_c)]⟩, ⟨some b_4, 40, [(.slice (some ⟨b_3, 0, none⟩) 0 0)]⟩, ⟨(some b_3), 94, row encA2I64 ([] : List (Arr 2 Int)) []⟩]) [0, 3, 2] (by kernel_rfl) (by kernel_rfl)) (hm.exApart (N := [⟨some b_1, 27, [(.int .i16 f0.fSteps), (.slice C_a f0.fHammers.length C_c)]⟩, ⟨some b_4, 40, [(.slice (some ⟨b_3, 0, none⟩) 0 0)]⟩, ⟨(some b_3), 94, row encA2I64 ([] : List (Arr 2 Int)) []⟩]) C_h (fun _ => List.not_mem_nil) [0, 3, 2] (by kernel_rfl)) (hm.exApart (N := [⟨some b_1, 27, [(.int .i16 f0.fSteps), (.slice C_a f0.fHammers.length C_c)]⟩, ⟨some b_4, 40, [(.slice (some ⟨b_3, 0, none⟩) 0 0)]⟩, ⟨(some b_3), 94, row encA2I64 ([] : List (Arr 2 Int)) []⟩]) C_h (fun _ => List.not_mem_nil) [0, 3, 2] (by kernel_rfl)) (hm.ownApart (S := Int) (N := [⟨some b_1, 27, [(.int .i16 f0.fSteps), (.slice C_a f0.fHammers.length C_c)]⟩, ⟨some b_4, 40, [(.slice (some ⟨b_3, 0, none⟩) 0 0)]⟩, ⟨(some b_3), 94, row encA2I64 ([] : List (Arr 2 Int)) []⟩]) (hh := 1) (o := (some b_2)) (T := 34) (cs := row encU32 d1.1 []) (xs := d1.1) (by kernel_rfl) (fun e => nomatch e) [0, 3, 2] (by kernel_rfl) (by kernel_rfl)) ht_5) ?_)
  rintro w v w' hm ⟨o_6, cap_7, sp_8, _, rfl, hs_9, ho_10, rfl, hm'⟩
  refine ⟨_, Mem.pick (hm.appP (ps := [(0, ⟨some b_1, 27, [(.int .i16 f0.fSteps), (.slice C_a f0.fHammers.length C_c)]⟩), (3, ⟨some b_4, 40, [(.slice (o_6.map fun b => ⟨b, 0, none⟩) t_1.length cap_7)]⟩)]) (ds := [2]) (N := [⟨o_6, 94, row encA2I64 t_1 sp_8⟩]) hm' [0, 1, 2] (by kernel_rfl) (by kernel_rfl) (by kernel_rfl)) (N := [⟨some b_1, 27, [(.int .i16 f0.fSteps), (.slice C_a f0.fHammers.length C_c)]⟩, ⟨(some b_2), 34, row encU32 d1.1 []⟩, ⟨o_6, 94, row encA2I64 t_1 sp_8⟩, ⟨some b_4, 40, [(.slice (o_6.map fun b => ⟨b, 0, none⟩) t_1.length cap_7)]⟩]) [0, 1, 4, 3] (by kernel_rfl) (by kernel_rfl), jkO ?_⟩
  clear hm hm'
  refine qe (jx_then (jc_seq (jc_region (qh [3,0] (qe (jx_then (jc_ret ?_)))))))
  obtain rfl := Option.some.inj h
  exact qr [] (fun w hm => ⟨o_6, cap_7, sp_8, t_1.length, rfl, hs_9, ho_10, rfl, hm.pk [2]⟩)
/-! ### impl.tracksOf -/
def impl_tracksOf.k_2 (f0 : GFrame) (t1 : List GNote) (d2 : Arr 96 Int) (xs_1 : List Int) : Option ((List Int) × Bool) := (if ((xs_1.length : Int) == (t1.length : Int)) = true then (impl_Drum_count d2).bind fun t_3 => (impl_size_Note t1).bind fun t_4 => (if (t_3 == t_4) = true then (impl_Frame_played f0 d2 0 (w64 f0.fSteps)).bind fun t_5 => (slices_Equal_Note t_5 t1).bind fun t_6 => (if t_6 = true then (impl_Frame_allClashes f0 d2).bind fun t_7 => some (xs_1, ((t_7.length : Int) == 0)) else some (xs_1, false)) else some (xs_1, false)) else some (xs_1, false))
def impl_tracksOf.k_15 (i_9 : Int) (xs_14 : List Int) : Option (((List Int) × Int) ⊕ ((List Int))) := some (.inl (xs_14, (w64 (i_9 + 1))))
def impl_tracksOf.k_21 (xs_16 : List Int) (i_17 : Int) (q_20 : Bool) : Option (((List Int) × Int) ⊕ ((List Int))) := (if q_20 = true then (if xs_16.length + ([i_17] : List Int).length ≤ 4294967296 then some (.inl ((xs_16 ++ ([i_17] : List Int)), (w64 (i_17 + 1)))) else none) else some (.inl (xs_16, (w64 (i_17 + 1)))))
def impl_tracksOf.l_18 (f0 : GFrame) (d2 : Arr 96 Int) (x_12 : GNote) (t_13 : Int) : ((List Int) × Int) → Option (((List Int) × Int) ⊕ ((List Int)))
  | (xs_16, i_17) => (if (decide (i_17 < t_13)) = true then (impl_Drum_has d2 (w64 x_12.fAt) i_17).bind fun t_22 => (if t_22 = true then (ix f0.fHammers i_17).bind fun x_23 => impl_tracksOf.k_21 xs_16 i_17 (x_23.fPitch == x_12.fPitch) else impl_tracksOf.k_21 xs_16 i_17 false) else some (.inr xs_16))
def impl_tracksOf.l_10 (f0 : GFrame) (t1 : List GNote) (d2 : Arr 96 Int) : ((List Int) × Int) → Option (((List Int) × Int) ⊕ ((List Int)))
  | (xs_8, i_9) => (if (decide (i_9 < (t1.length : Int))) = true then (ix t1 i_9).bind fun x_12 => (impl_size_Hammer f0.fHammers).bind fun t_13 => (loop (impl_tracksOf.l_18 f0 d2 x_12 t_13) (xs_8, 0)).bind fun t_19 => impl_tracksOf.k_15 i_9 t_19 else some (.inr xs_8))
def impl_tracksOf (f0 : GFrame) (t1 : List GNote) (d2 : Arr 96 Int) : Option ((List Int) × Bool) := (loop (impl_tracksOf.l_10 f0 t1 d2) (([] : List Int), 0)).bind fun t_11 => impl_tracksOf.k_2 f0 t1 d2 t_11
theorem impl_tracksOf.calls (f0 : GFrame) (t1 : List GNote) (d2 : Arr 96 Int) (w : World) (r : (List Int) × Bool) {C_a : Option Addr} {C_an : Nat} (C_c : Nat) (C_h : Rw w C_a 2 encGHammer f0.fHammers) (C_hn : f0.fHammers.length = C_an) {D_a : Option Addr} {D_an : Nat} (D_c : Nat) (D_h : Rw w D_a 2 encGNote t1) (D_hn : t1.length = D_an) (h : impl_tracksOf f0 t1 d2 = some r) :
    Calls Tryz.prog 38 #[(.agg #[(.int .i16 f0.fSteps), (.slice C_a C_an C_c)]), (.slice D_a D_an D_c), (.agg (row encU32 d2.1 []).toArray)] w fun e w' => ∃ v, e = .returned v ∧ (∃ (o0 : Option Nat) (c0 : Nat) (s0 : List Value) (n0 : Nat), r.1.length = n0 ∧ (o0 ≠ none → n0 ≤ c0 ∧ s0.length = (c0 - n0) * 1) ∧ (o0 = none → r.1 = [] ∧ c0 = 0) ∧ v = .tuple #[.slice (o0.map fun b => ⟨b, 0, none⟩) n0 c0, (.bool r.2)] ∧ Mem w [] [⟨o0, 2, row encI64 r.1 s0⟩] w') := by
  subst C_hn D_hn
  rw [impl_tracksOf] at h
  refine enter (args := [(.agg #[(.int .i16 f0.fSteps), (.slice C_a f0.fHammers.length C_c)]), (.slice D_a t1.length D_c), (.agg (row encU32 d2.1 []).toArray)]) Tryz.func38 rfl Tryz.ntmps38 (by kernel_rfl) (L := []) (W := []) (Mem.start w) ?_
  refine jc_seq (jc_region (tO (qa 0 (fun b_1 => jkO (tO (qa 0 (fun b_2 => jkO (qh [0,0] (qe (jx_then (jc_seq (jc_region (tO (qa 0 (fun b_3 => jkO (qh [0] (qe (jx_then (jc_seq (jc_seq (jc_region (qh [0,0,0] (qe (jx_then (jc_meet (fun (j : (List Int) × (Option Nat) × Nat × (List Value) × Nat) => match j with | ⟨xs_1, o_1309, cap_1310, sp_1311, n_1312⟩ => impl_tracksOf.k_2 f0 t1 d2 xs_1 = some r ∧ (xs_1.length = n_1312) ∧ ((o_1309 ≠ none → n_1312 ≤ cap_1310 ∧ sp_1311.length = (cap_1310 - n_1312) * 1)) ∧ ((o_1309 = none → xs_1 = [] ∧ cap_1310 = 0))) (fun (j : (List Int) × (Option Nat) × Nat × (List Value) × Nat) => match j with | ⟨xs_1, o_1309, cap_1310, sp_1311, n_1312⟩ => [(1, [], (.slice D_a t1.length D_c)), (3, [], (.pointer (some ⟨b_1, 0, none⟩))), (5, [], (.pointer (some ⟨b_2, 0, none⟩))), (6, [], (.slice none 0 0)), (7, [], (.bool false)), (8, [], (.slice (o_1309.map fun b => ⟨b, 0, none⟩) n_1312 cap_1310))]) (fun (j : (List Int) × (Option Nat) × Nat × (List Value) × Nat) => match j with | ⟨xs_1, o_1309, cap_1310, sp_1311, n_1312⟩ => [⟨some b_1, 27, [(.int .i16 f0.fSteps), (.slice C_a f0.fHammers.length C_c)]⟩, ⟨(some b_2), 34, row encU32 d2.1 []⟩, ⟨o_1309, 2, row encI64 xs_1 sp_1311⟩]) ?_ ?_)))))))))))))))))))))))))
  ·refine jc_block ?_
   obtain ⟨t_11, ht_1765, hr_1623⟩ := bd h
   refine jc_loop (fun (s : (List Int) × Int) (x : (Option Nat) × Nat × (List Value) × Nat) => match s, x with | ⟨xs_8, i_9⟩, ⟨o_1617, cap_1618, sp_1619, n_1620⟩ => (xs_8.length = n_1620) ∧ ((o_1617 ≠ none → n_1620 ≤ cap_1618 ∧ sp_1619.length = (cap_1618 - n_1620) * 1)) ∧ ((o_1617 = none → xs_8 = [] ∧ cap_1618 = 0))) (fun (s : (List Int) × Int) (x : (Option Nat) × Nat × (List Value) × Nat) => match s, x with | ⟨xs_8, i_9⟩, ⟨o_1617, cap_1618, sp_1619, n_1620⟩ => [(1, [], (.slice D_a t1.length D_c)), (3, [], (.pointer (some ⟨b_1, 0, none⟩))), (5, [], (.pointer (some ⟨b_2, 0, none⟩))), (6, [], (.slice none 0 0)), (7, [], (.bool false)), (8, [], (.slice (o_1617.map fun b => ⟨b, 0, none⟩) n_1620 cap_1618)), (13, [], (.slice D_a t1.length D_c)), (14, [], (.int .i64 (t1.length : Int))), (15, [], (.int .i64 i_9))]) (fun (s : (List Int) × Int) (x : (Option Nat) × Nat × (List Value) × Nat) => match s, x with | ⟨xs_8, i_9⟩, ⟨o_1617, cap_1618, sp_1619, n_1620⟩ => [⟨some b_1, 27, [(.int .i16 f0.fSteps), (.slice C_a f0.fHammers.length C_c)]⟩, ⟨(some b_2), 34, row encU32 d2.1 []⟩, ⟨o_1617, 2, row encI64 xs_8 sp_1619⟩]) ht_1765 ⟨(some b_3), 0, [], 0⟩ ⟨rfl, (fun _ => ⟨Nat.le_refl _, by simp⟩), (fun e => nomatch e)⟩ (by kernel_rfl) [0, 1, 2] (by kernel_rfl) (by kernel_rfl) ?_
   rintro ⟨xs_8, i_9⟩ ⟨o_1617, cap_1618, sp_1619, n_1620⟩ y_1624 ⟨rfl, hs_1621, ho_1622⟩ h
   rw [impl_tracksOf.l_10] at h
   refine jc_seq (jc_region (qh [0] (qe (jx_then (jc_seq (qi h (fun h => ?_) (fun h => ?_)))))))
   ·refine jc_skip (jx_then (jc_seq (jc_block (jc_seq (jc_region ?_)))))
    obtain ⟨x_12, hx_1627, h⟩ := bd h
    refine tO (qx 0 D_a 2 hx_1627 rfl (D_h.sp hx_1627) (jkO (tO (ql 0 true (fun w hm => ((hm.xr D_h).at hx_1627)) (jkO (tO (qa 0 (fun b_1628 => jkO (tO (qs 0 [3] (jkO (qe (jx_then (jc_seq (jc_region (qh [0,0] ?_))))))))))))))))
    obtain ⟨t_13, ht_1629, h⟩ := bd h
    refine tO (pc 0 (fun w hm => impl_size_Hammer.calls f0.fHammers w _ C_c (hm.xr C_h) rfl ht_1629) ?_)
    rintro w v w' hm ⟨rfl, hm'⟩
    refine ⟨_, hm.app hm', jkO ?_⟩
    clear hm hm'
    refine qh [0] (qe (jx_then (jc_meet (fun (j : (List Int) × (Option Nat) × Nat × (List Value) × Nat) => match j with | ⟨xs_14, o_1694, cap_1695, sp_1696, n_1697⟩ => impl_tracksOf.k_15 i_9 xs_14 = some y_1624 ∧ (xs_14.length = n_1697) ∧ ((o_1694 ≠ none → n_1697 ≤ cap_1695 ∧ sp_1696.length = (cap_1695 - n_1697) * 1)) ∧ ((o_1694 = none → xs_14 = [] ∧ cap_1695 = 0))) (fun (j : (List Int) × (Option Nat) × Nat × (List Value) × Nat) => match j with | ⟨xs_14, o_1694, cap_1695, sp_1696, n_1697⟩ => [(1, [], (.slice D_a t1.length D_c)), (3, [], (.pointer (some ⟨b_1, 0, none⟩))), (5, [], (.pointer (some ⟨b_2, 0, none⟩))), (6, [], (.slice none 0 0)), (7, [], (.bool false)), (8, [], (.slice (o_1694.map fun b => ⟨b, 0, none⟩) n_1697 cap_1695)), (13, [], (.slice D_a t1.length D_c)), (14, [], (.int .i64 (t1.length : Int))), (15, [], (.int .i64 i_9))]) (fun (j : (List Int) × (Option Nat) × Nat × (List Value) × Nat) => match j with | ⟨xs_14, o_1694, cap_1695, sp_1696, n_1697⟩ => [⟨some b_1, 27, [(.int .i16 f0.fSteps), (.slice C_a f0.fHammers.length C_c)]⟩, ⟨(some b_2), 34, row encU32 d2.1 []⟩, ⟨o_1694, 2, row encI64 xs_14 sp_1696⟩, ⟨some b_1628, 68, [(.int .i16 x_12.fAt), (.int .i8 x_12.fPitch)]⟩]) ?_ ?_)))
    ·refine jc_block ?_
     obtain ⟨t_19, ht_1763, hr_1744⟩ := bd h
     refine jc_loop (fun (s : (List Int) × Int) (x : (Option Nat) × Nat × (List Value) × Nat) => match s, x with | ⟨xs_16, i_17⟩, ⟨o_1738, cap_1739, sp_1740, n_1741⟩ => (xs_16.length = n_1741) ∧ ((o_1738 ≠ none → n_1741 ≤ cap_1739 ∧ sp_1740.length = (cap_1739 - n_1741) * 1)) ∧ ((o_1738 = none → xs_16 = [] ∧ cap_1739 = 0))) (fun (s : (List Int) × Int) (x : (Option Nat) × Nat × (List Value) × Nat) => match s, x with | ⟨xs_16, i_17⟩, ⟨o_1738, cap_1739, sp_1740, n_1741⟩ => [(1, [], (.slice D_a t1.length D_c)), (3, [], (.pointer (some ⟨b_1, 0, none⟩))), (5, [], (.pointer (some ⟨b_2, 0, none⟩))), (6, [], (.slice none 0 0)), (7, [], (.bool false)), (8, [], (.slice (o_1738.map fun b => ⟨b, 0, none⟩) n_1741 cap_1739)), (10, [], (.pointer (some ⟨b_1628, 0, none⟩))), (13, [], (.slice D_a t1.length D_c)), (14, [], (.int .i64 (t1.length : Int))), (15, [], (.int .i64 i_9)), (21, [], (.int .i64 t_13)), (22, [], (.int .i64 i_17))]) (fun (s : (List Int) × Int) (x : (Option Nat) × Nat × (List Value) × Nat) => match s, x with | ⟨xs_16, i_17⟩, ⟨o_1738, cap_1739, sp_1740, n_1741⟩ => [⟨some b_1, 27, [(.int .i16 f0.fSteps), (.slice C_a f0.fHammers.length C_c)]⟩, ⟨(some b_2), 34, row encU32 d2.1 []⟩, ⟨o_1738, 2, row encI64 xs_16 sp_1740⟩, ⟨some b_1628, 68, [(.int .i16 x_12.fAt), (.int .i8 x_12.fPitch)]⟩]) ht_1763 ⟨o_1617, cap_1618, sp_1619, xs_8.length⟩ ⟨rfl, hs_1621, ho_1622⟩ (by kernel_rfl) [0, 1, 2, 3] (by kernel_rfl) (by kernel_rfl) ?_
     rintro ⟨xs_16, i_17⟩ ⟨o_1738, cap_1739, sp_1740, n_1741⟩ y_1745 ⟨rfl, hs_1742, ho_1743⟩ h
     rw [impl_tracksOf.l_18] at h
     refine jc_seq (jc_region (qh [0] (qe (jx_then (jc_seq (qi h (fun h => ?_) (fun h => ?_)))))))
     ·refine jc_skip (jx_then (jc_seq (jc_block (jc_seq (jc_region (qh [0,0] (qe (jx_then (jc_seq (jc_meet (fun (j : Bool) => match j with | q_20 => impl_tracksOf.k_21 xs_16 i_17 q_20 = some y_1745) (fun (j : Bool) => match j with | q_20 => [(1, [], (.slice D_a t1.length D_c)), (3, [], (.pointer (some ⟨b_1, 0, none⟩))), (5, [], (.pointer (some ⟨b_2, 0, none⟩))), (6, [], (.slice none 0 0)), (7, [], (.bool false)), (8, [], (.slice (o_1738.map fun b => ⟨b, 0, none⟩) xs_16.length cap_1739)), (10, [], (.pointer (some ⟨b_1628, 0, none⟩))), (11, [], (.int .i64 i_17)), (13, [], (.slice D_a t1.length D_c)), (14, [], (.int .i64 (t1.length : Int))), (15, [], (.int .i64 i_9)), (21, [], (.int .i64 t_13)), (22, [], (.int .i64 i_17)), (40, [], (.bool q_20))]) (fun (j : Bool) => match j with | q_20 => [⟨some b_1, 27, [(.int .i16 f0.fSteps), (.slice C_a f0.fHammers.length C_c)]⟩, ⟨(some b_2), 34, row encU32 d2.1 []⟩, ⟨o_1738, 2, row encI64 xs_16 sp_1740⟩, ⟨some b_1628, 68, [(.int .i16 x_12.fAt), (.int .i8 x_12.fPitch)]⟩]) ?_ ?_))))))))))
      ·refine qg [⟨some b_1, 27, [(.int .i16 f0.fSteps), (.slice C_a f0.fHammers.length C_c)]⟩, ⟨(some b_2), 34, row encU32 d2.1 []⟩, ⟨o_1738, 2, row encI64 xs_16 sp_1740⟩, ⟨some b_1628, 68, [(.int .i16 x_12.fAt), (.int .i8 x_12.fPitch)]⟩] 16 (qd [⟨0, 0, 0⟩,⟨1, 3, 0⟩,⟨2, 0, 0⟩,⟨3, 0, 0⟩] 12 [0, 1, 2, 3] ?_)
       obtain ⟨t_22, ht_1759, h⟩ := bd h
       refine tD 4 (pc 0 (fun w hm => impl_Drum_has.calls d2 (w64 x_12.fAt) i_17 w _ (hm.ow 1 (some b_2) 34 d2.1 [] (fun e => nomatch e) encU32_len) ht_1759) ?_)
       rintro w v w' hm ⟨rfl, hm'⟩
       refine ⟨_, hm.app hm', kD [0, 1, 2, 3] ?_⟩
       clear hm hm'
       refine qd [⟨5, 0, 0⟩,⟨6, 0, 1⟩,⟨7, 0, 1⟩,⟨8, 0, 1⟩,⟨12, 0, 1⟩,⟨13, 3, 1⟩] 5 [0, 1, 2, 3] (jd_split 30 t_22 (by kernel_rfl) (fun hc_1760 => ?_) (fun hc_1760 => ?_))
       ·replace h := ifT hc_1760 h
        obtain ⟨x_23, hx_1761, h⟩ := bd h
        exact qv 9 2 [0, 1, 2, 3] (fun w hm => idx_run (a := C_a) (len := f0.fHammers.length) (s := 2) (j := i_17) (by kernel_rfl) (ix_some hx_1761).1 (ltn hx_1761 rfl) (C_h.sp hx_1761)) (qd [⟨10, 0, 2⟩] 3 [0, 1, 2, 3] (qv 11 2 [0, 1, 2, 3] (fun w hm => ld_run (b := aB C_a) (off := (aO C_a + i_17.toNat * 2)) (s := 1) (agg := false) (vs := (((encGHammer x_23).drop 0).take 1)) (by kernel_rfl) (by kernel_rfl) (.inr rfl) (((hm.xr C_h).at hx_1761).sub 0 1)) (qd [⟨14, 0, 2⟩,⟨15, 0, 4⟩] 0 [0, 1, 2, 3] (qz (qm (x_23.fPitch == x_12.fPitch) h [0, 1, 2, 3])))))
       ·replace h := ifF hc_1760 h
        exact qd [⟨9, 0, 3⟩,⟨10, 0, 3⟩,⟨11, 0, 3⟩,⟨14, 0, 3⟩,⟨15, 0, 5⟩] 0 [0, 1, 2, 3] (qz (qm false h [0, 1, 2, 3]))
      ·rintro q_20 h
       replace h : impl_tracksOf.k_21 xs_16 i_17 q_20 = some y_1745 := h
       rw [impl_tracksOf.k_21] at h
       refine jx_then (qi h (fun h => ?_) (fun h => ?_))
       ·refine jc_region (qh [0,0] (tO (qa 0 (fun b_1752 => jkO ?_))))
        obtain ⟨hg_1753, h⟩ := gd h
        exact tO (p_apn 0 2 o_1738 2 xs_16.length 1 cap_1739 1 8 (some ⟨b_1752, 0, none⟩) encI64 xs_16 ([i_17] : List Int) sp_1740 (.int .i64 0) rfl rfl (by kernel_rfl) (by kernel_rfl) (by kernel_rfl) encI64_len encI64_cell hs_1742 ho_1743 (fun w hm => (hm.ow 4 (some b_1752) 2 ([i_17] : List Int) [] (fun e => nomatch e) encI64_len)) hg_1753 (by kernel_rfl) (by kernel_rfl) (fun o_1754 cap_1755 sp_1756 hs_1757 ho_1758 => jkO (qh [0] (qe (jx_inn (jx_then (jc_region (qh [0,0] (qe (qb ((xs_16 ++ ([i_17] : List Int)), (w64 (i_17 + 1))) ⟨o_1754, cap_1755, sp_1756, (xs_16 ++ ([i_17] : List Int)).length⟩ h ⟨rfl, hs_1757, ho_1758⟩ [0, 1, 2, 3]))))))))))
       ·exact jc_skip (jx_inn (jx_then (jc_region (qh [0,0] (qe (qb (xs_16, (w64 (i_17 + 1))) ⟨o_1738, cap_1739, sp_1740, xs_16.length⟩ h ⟨rfl, hs_1742, ho_1743⟩ [0, 1, 2, 3]))))))
     ·refine jc_exit (jx_thenx (jx_leave xs_16 (Option.some.inj h).symm (fun e_1762 => ?_)))
      subst e_1762
      exact jx_ine (qm ⟨xs_16, o_1738, cap_1739, sp_1740, xs_16.length⟩ ⟨hr_1744, rfl, hs_1742, ho_1743⟩ [0, 1, 2, 3])
    ·rintro ⟨xs_14, o_1694, cap_1695, sp_1696, n_1697⟩ ⟨h, rfl, hs_1698, ho_1699⟩
     replace h : impl_tracksOf.k_15 i_9 xs_14 = some y_1624 := h
     rw [impl_tracksOf.k_15] at h
     exact jx_inn (jx_then (jc_region (qh [0,0] (qe (qb (xs_14, (w64 (i_9 + 1))) ⟨o_1694, cap_1695, sp_1696, xs_14.length⟩ h ⟨rfl, hs_1698, ho_1699⟩ [0, 1, 2])))))
   ·refine jc_exit (jx_thenx (jx_leave xs_8 (Option.some.inj h).symm (fun e_1764 => ?_)))
    subst e_1764
    exact jx_ine (qm ⟨xs_8, o_1617, cap_1618, sp_1619, xs_8.length⟩ ⟨hr_1623, rfl, hs_1621, ho_1622⟩ [0, 1, 2])
  ·rintro ⟨xs_1, o_1309, cap_1310, sp_1311, n_1312⟩ ⟨h, rfl, hs_1313, ho_1314⟩
   replace h : impl_tracksOf.k_2 f0 t1 d2 xs_1 = some r := h
   rw [impl_tracksOf.k_2] at h
   refine jx_then (jc_seq (jc_region (qh [0,0,0,0,0,0,0] (qp 53 h (fun h => ?_) (fun h => ?_)))))
   ·refine tO (p_ldA 2 1 b_2 96 1 34 encU32 d2 (by kernel_rfl) (by kernel_rfl) (by kernel_rfl) encU32_len (by kernel_rfl) (jkO ?_))
    obtain ⟨t_3, ht_1316, h⟩ := bd h
    refine tO (pc 2 (fun w hm => impl_Drum_count.calls d2 w _ ht_1316) ?_)
    rintro w v w' hm ⟨rfl, hm'⟩
    refine ⟨_, hm.app hm', jkO ?_⟩
    clear hm hm'
    refine qf [(0, 2)] ?_
    obtain ⟨t_4, ht_1317, h⟩ := bd h
    refine tO (pc 2 (fun w hm => impl_size_Note.calls t1 w _ D_c (hm.xr D_h) rfl ht_1317) ?_)
    rintro w v w' hm ⟨rfl, hm'⟩
    refine ⟨_, hm.app hm', jkO ?_⟩
    clear hm hm'
    refine qf [(0, 2), (0, 4), (0, 0), (0, 1)] (qp 60 h (fun h => ?_) (fun h => ?_))
    ·refine tO (p_ldA 2 1 b_2 96 1 34 encU32 d2 (by kernel_rfl) (by kernel_rfl) (by kernel_rfl) encU32_len (by kernel_rfl) (jkO (qf [(0, 2), (0, 2), (0, 2)] ?_)))
     obtain ⟨t_5, ht_1319, h⟩ := bd h
     refine tO (pc 2 (fun w hm => impl_Frame_played.calls f0 d2 0 (w64 f0.fSteps) w _ C_c (hm.xr C_h) rfl ht_1319) ?_)
     rintro w v w' hm ⟨o_1320, cap_1321, sp_1322, _, rfl, hs_1323, ho_1324, rfl, hm'⟩
     refine ⟨_, hm.app hm', jkO ?_⟩
     clear hm hm'
     refine qf [(0, 2)] ?_
     obtain ⟨t_6, ht_1325, h⟩ := bd h
     refine tO (pc 2 (fun w hm => slices_Equal_Note.calls t_5 t1 w _ cap_1321 (hm.ow 3 o_1320 68 t_5 sp_1322 (fun e => (ho_1324 e).1) encGNote_len) rfl D_c (hm.xr D_h) rfl ht_1325) ?_)
     rintro w v w' hm ⟨rfl, hm'⟩
     refine ⟨_, hm.app hm', jkO ?_⟩
     clear hm hm'
     refine qf [(0, 4), (0, 0), (0, 1)] (qp 70 h (fun h => ?_) (fun h => ?_))
     ·refine tO (p_ldA 2 1 b_2 96 1 34 encU32 d2 (by kernel_rfl) (by kernel_rfl) (by kernel_rfl) encU32_len (by kernel_rfl) (jkO ?_))
      obtain ⟨t_7, ht_1327, h⟩ := bd h
      refine tO (pc 2 (fun w hm => impl_Frame_allClashes.calls f0 d2 w _ C_c (hm.xr C_h) rfl ht_1327) ?_)
      rintro w v w' hm ⟨o_1328, cap_1329, sp_1330, _, rfl, hs_1331, ho_1332, rfl, hm'⟩
      refine ⟨_, hm.app hm', jkO ?_⟩
      clear hm hm'
      refine qf [(0, 2), (0, 2), (0, 4), (0, 0), (0, 0)] (qe (jx_then (jc_ret ?_)))
      obtain rfl := Option.some.inj h
      exact qr [] (fun w hm => ⟨o_1309, cap_1310, sp_1311, xs_1.length, rfl, hs_1313, ho_1314, rfl, hm.pk [2]⟩)
     ·refine qf [(0, 3), (0, 3), (0, 3), (0, 3), (0, 5), (0, 0), (0, 0)] (qe (jx_then (jc_ret ?_)))
      obtain rfl := Option.some.inj h
      exact qr [] (fun w hm => ⟨o_1309, cap_1310, sp_1311, xs_1.length, rfl, hs_1313, ho_1314, rfl, hm.pk [2]⟩)
    ·refine qf [(0, 3), (0, 3), (0, 3), (0, 3), (0, 3), (0, 3), (0, 3), (0, 5), (0, 0), (0, 3), (0, 3), (0, 3), (0, 3), (0, 3), (0, 5), (0, 0), (0, 0)] (qe (jx_then (jc_ret ?_)))
     obtain rfl := Option.some.inj h
     exact qr [] (fun w hm => ⟨o_1309, cap_1310, sp_1311, xs_1.length, rfl, hs_1313, ho_1314, rfl, hm.pk [2]⟩)
   ·refine qf [(0, 3), (0, 3), (0, 3), (0, 3), (0, 3), (0, 5), (0, 0), (0, 3), (0, 3), (0, 3), (0, 3), (0, 3), (0, 3), (0, 3), (0, 3), (0, 5), (0, 0), (0, 3), (0, 3), (0, 3), (0, 3), (0, 3), (0, 5), (0, 0), (0, 0)] (qe (jx_then (jc_ret ?_)))
    obtain rfl := Option.some.inj h
    exact qr [] (fun w hm => ⟨o_1309, cap_1310, sp_1311, xs_1.length, rfl, hs_1313, ho_1314, rfl, hm.pk [2]⟩)
/-! ### impl.CheckPinning -/
def impl_CheckPinning (f0 : GFrame) (t1 : List GNote) (d2 : Arr 96 Int) : Option (Bool × Int) := (impl_tuneOnCode f0 t1 0 ([d2] : List (Arr 96 Int))).bind fun t_1 => (if (t_1 != 0) = true then some (false, t_1) else (impl_tracksOf f0 t1 d2).bind fun t_2 => some (t_2.2, 0))
theorem impl_CheckPinning.calls (f0 : GFrame) (t1 : List GNote) (d2 : Arr 96 Int) (w : World) (r : Bool × Int) {C_a : Option Addr} {C_an : Nat} (C_c : Nat) (C_h : Rw w C_a 2 encGHammer f0.fHammers) (C_hn : f0.fHammers.length = C_an) {D_a : Option Addr} {D_an : Nat} (D_c : Nat) (D_h : Rw w D_a 2 encGNote t1) (D_hn : t1.length = D_an) (h : impl_CheckPinning f0 t1 d2 = some r) :
    Calls Tryz.prog 10 #[(.agg #[(.int .i16 f0.fSteps), (.slice C_a C_an C_c)]), (.slice D_a D_an D_c), (.agg (row encU32 d2.1 []).toArray)] w fun e w' => ∃ v, e = .returned v ∧ (v = .tuple #[(.bool r.1), (.int .i64 r.2)] ∧ Mem w [] [] w') := by
  subst C_hn D_hn
  rw [impl_CheckPinning] at h
  refine enter (args := [(.agg #[(.int .i16 f0.fSteps), (.slice C_a f0.fHammers.length C_c)]), (.slice D_a t1.length D_c), (.agg (row encU32 d2.1 []).toArray)]) Tryz.func10 rfl Tryz.ntmps10 (by kernel_rfl) (L := []) (W := []) (Mem.start w) ?_
  refine jc_seq (jc_region (tO (qa 0 (fun b_1 => jkO (tO (qa 0 (fun b_2 => jkO (qh [0,0] (qe (jx_then (jc_seq (jc_seq (jc_region (qh [0,0] (tO (p_ldA 0 1 b_2 96 1 34 encU32 d2 (by kernel_rfl) (by kernel_rfl) (by kernel_rfl) encU32_len (by kernel_rfl) (jkO (tO (p_bs 0 34 96 1 encA96U32 [(.agg (row encU32 d2.1 []).toArray)] [d2] (by kernel_rfl) (by kernel_rfl) rfl (by kernel_rfl) (by kernel_rfl) encA96U32_len (fun b_6 => jkO ?_))))))))))))))))))))
  obtain ⟨t_1, ht_7, h⟩ := bd h
  refine tO (pc 0 (fun w hm => impl_tuneOnCode.calls f0 t1 0 ([d2] : List (Arr 96 Int)) w _ C_c (hm.xr C_h) rfl D_c (hm.xr D_h) rfl 1 (hm.ow 2 (some b_6) 34 ([d2] : List (Arr 96 Int)) [] (fun e => nomatch e) encA96U32_len) rfl ht_7) ?_)
  rintro w v w' hm ⟨rfl, hm'⟩
  refine ⟨_, hm.app hm', jkO ?_⟩
  clear hm hm'
  refine qh [0] (qe (jx_then (jc_seq (jc_region (qh [0,0] (qe (jx_then (qi h (fun h => ?_) (fun h => ?_)))))))))
  ·refine jc_seq (jc_region (qh [0,0,0] (qe (jx_then (jc_ret (jx_thenr ?_))))))
   obtain rfl := Option.some.inj h
   exact qr [] (fun w hm => ⟨rfl, hm.pk []⟩)
  ·refine jc_skip (jx_then (jc_seq (jc_region (qh [0,0] (tO (p_ldA 0 1 b_2 96 1 34 encU32 d2 (by kernel_rfl) (by kernel_rfl) (by kernel_rfl) encU32_len (by kernel_rfl) (jkO ?_)))))))
   obtain ⟨t_2, ht_9, h⟩ := bd h
   refine tO (pc 0 (fun w hm => impl_tracksOf.calls f0 t1 d2 w _ C_c (hm.xr C_h) rfl D_c (hm.xr D_h) rfl ht_9) ?_)
   rintro w v w' hm ⟨o_10, cap_11, sp_12, _, rfl, hs_13, ho_14, rfl, hm'⟩
   refine ⟨_, hm.app hm', jkO ?_⟩
   clear hm hm'
   refine qh [0,0,0,0,0] (qe (jx_then (jc_seq (jc_region (qh [0,0,0] (qe (jx_then (jc_ret ?_))))))))
   obtain rfl := Option.some.inj h
   exact qr [] (fun w hm => ⟨rfl, hm.pk []⟩)
/-! ### (impl.Drum).less -/
def impl_Drum_less.k_2 (a_1 : Arr 96 Int) : Option ((Arr 96 Int)) := some a_1
def impl_Drum_less.l_5 (e1 : Arr 96 Int) : ((Arr 96 Int) × Int) → Option (((Arr 96 Int) × Int) ⊕ ((Arr 96 Int)))
  | (a_3, i_4) => (if (decide (i_4 < 96)) = true then (ix e1.1 i_4).bind fun x_7 => (ix a_3.1 i_4).bind fun x_8 => (ix a_3.1 i_4).bind fun x_9 => some (.inl ((Arr.set a_3 i_4 (bClr .u32 x_8 x_7)), (w64 (i_4 + 1)))) else some (.inr a_3))
def impl_Drum_less (d0 : Arr 96 Int) (e1 : Arr 96 Int) : Option ((Arr 96 Int)) := (loop (impl_Drum_less.l_5 e1) (d0, 0)).bind fun t_6 => impl_Drum_less.k_2 t_6
theorem impl_Drum_less.calls (d0 : Arr 96 Int) (e1 : Arr 96 Int) (w : World) (r : (Arr 96 Int)) (h : impl_Drum_less d0 e1 = some r) :
    Calls Tryz.prog 41 #[(.agg (row encU32 d0.1 []).toArray), (.agg (row encU32 e1.1 []).toArray)] w fun e w' => ∃ v, e = .returned v ∧ (v = (.agg (row encU32 r.1 []).toArray) ∧ Mem w [] [] w') := by
  rw [impl_Drum_less] at h
  refine enter (args := [(.agg (row encU32 d0.1 []).toArray), (.agg (row encU32 e1.1 []).toArray)]) Tryz.func41 rfl Tryz.ntmps41 (by kernel_rfl) (L := []) (W := []) (Mem.start w) ?_
  refine jc_seq (jc_region (tO (qa 0 (fun b_1 => jkO (tO (qa 0 (fun b_2 => jkO (tO (qa 0 (fun b_3 => jkO (qe (jx_then (jc_seq (jc_seq (jc_region (tO (p_ldA 0 1 b_2 96 1 34 encU32 e1 (by kernel_rfl) (by kernel_rfl) (by kernel_rfl) encU32_len (by kernel_rfl) (jkO (qh [0] (qe (jx_then (jc_meet (fun (j : (Arr 96 Int)) => match j with | a_1 => impl_Drum_less.k_2 a_1 = some r) (fun (j : (Arr 96 Int)) => match j with | a_1 => [(2, [], (.pointer (some ⟨b_1, 0, none⟩))), (4, [], (.pointer (some ⟨b_3, 0, none⟩)))]) (fun (j : (Arr 96 Int)) => match j with | a_1 => [⟨(some b_1), 34, row encU32 a_1.1 []⟩, ⟨(some b_2), 34, row encU32 e1.1 []⟩, ⟨(some b_3), 34, row encU32 ((Arr.rep 96 0).1) []⟩]) ?_ ?_))))))))))))))))))))))
  ·refine jc_block ?_
   obtain ⟨t_6, ht_79, hr_71⟩ := bd h
   refine jc_loop (fun (s : (Arr 96 Int) × Int) (x : Unit) => match s, x with | ⟨a_3, i_4⟩, _ => True) (fun (s : (Arr 96 Int) × Int) (x : Unit) => match s, x with | ⟨a_3, i_4⟩, _ => [(2, [], (.pointer (some ⟨b_1, 0, none⟩))), (4, [], (.pointer (some ⟨b_3, 0, none⟩))), (7, [], (.agg (row encU32 e1.1 []).toArray)), (8, [], (.int .i64 i_4))]) (fun (s : (Arr 96 Int) × Int) (x : Unit) => match s, x with | ⟨a_3, i_4⟩, _ => [⟨(some b_1), 34, row encU32 a_3.1 []⟩, ⟨(some b_2), 34, row encU32 e1.1 []⟩, ⟨(some b_3), 34, row encU32 ((Arr.rep 96 0).1) []⟩]) ht_79 () trivial (by kernel_rfl) [0, 1, 2] (by kernel_rfl) (by kernel_rfl) ?_
   rintro ⟨a_3, i_4⟩ _ y_72 _ h
   rw [impl_Drum_less.l_5] at h
   refine jc_seq (jc_region (qh [0] (qe (jx_then (jc_seq (qi h (fun h => ?_) (fun h => ?_)))))))
   ·refine jc_skip (jx_then (jc_seq (jc_block (jc_seq (jc_region (qh [0] ?_))))))
    obtain ⟨x_7, hx_75, h⟩ := bd h
    refine tO (p_ixA 0 encU32 (fun x => (.int .u32 x)) e1 i_4 (by kernel_rfl) (by kernel_rfl) (fun _ => rfl) hx_75 (jkO (qh [0,0] (qe (jx_then (jc_region (qh [0] ?_)))))))
    obtain ⟨x_8, hx_76, h⟩ := bd h
    refine tO (qx 0 (some ⟨b_1, 0, none⟩) 1 hx_76 a_3.2 rfl (jkO (tO (ql 0 false (fun w hm => ((hm.ow 0 (some b_1) 34 a_3.1 [] (fun e => nomatch e) encU32_len).at hx_76)) (jkO (qh [0,0] ?_))))))
    obtain ⟨x_9, hx_77, h⟩ := bd h
    exact tO (qx 0 (some ⟨b_1, 0, none⟩) 1 hx_77 a_3.2 rfl (jkO (tO (p_str 0 0 b_1 34 encU32 a_3.1 [] i_4 (bClr .u32 x_8 x_7) 1 0 [(.int .u32 (bClr .u32 x_8 x_7))] (by kernel_rfl) (by kernel_rfl) (by kernel_rfl) encU32_len hx_77 (by kernel_rfl) (by kernel_rfl) (jkO (qe (jx_inn (jx_then (jc_region (qh [0,0] (qe (qb ((Arr.set a_3 i_4 (bClr .u32 x_8 x_7)), (w64 (i_4 + 1))) () h trivial [0, 1, 2]))))))))))))
   ·refine jc_exit (jx_thenx (jx_leave a_3 (Option.some.inj h).symm (fun e_78 => ?_)))
    subst e_78
    exact jx_ine (qm a_3 hr_71 [0, 1, 2])
  ·rintro a_1 h
   replace h : impl_Drum_less.k_2 a_1 = some r := h
   rw [impl_Drum_less.k_2] at h
   refine jx_then (jc_seq (jc_region (tO (p_ldA 0 0 b_1 96 1 34 encU32 a_1 (by kernel_rfl) (by kernel_rfl) (by kernel_rfl) encU32_len (by kernel_rfl) (jkO (tO (p_sA 0 2 b_3 96 1 34 encU32 (Arr.rep 96 0) a_1 (by kernel_rfl) (by kernel_rfl) (by kernel_rfl) encU32_len encU32_cell (by kernel_rfl) (jkO (qe (jx_then (jc_ret ?_)))))))))))
   obtain rfl := Option.some.inj h
   exact jx_retV rfl (rq_arr (b := b_3) (T' := 34) (hh := 2) (mm := 1) encU32 a_1 (by kernel_rfl) (by kernel_rfl) encU32_len (by kernel_rfl) rq_nil) (fun w hm => ⟨rfl, hm.pk []⟩)
/-! ### (impl.Frame).listed$1 -/
def impl_Frame_listed_1 (step0 : Int) (track1 : Int) (p2 : List (Arr 2 Int)) : Option ((List (Arr 2 Int))) := (if p2.length + ([(Arr.set (Arr.set (Arr.rep 2 0) 0 step0) 1 track1)] : List (Arr 2 Int)).length ≤ 4294967296 then some (p2 ++ ([(Arr.set (Arr.set (Arr.rep 2 0) 0 step0) 1 track1)] : List (Arr 2 Int))) else none)
theorem impl_Frame_listed_1.calls (step0 : Int) (track1 : Int) (p2 : List (Arr 2 Int)) (w : World) (r : (List (Arr 2 Int))) (C_b : Nat) (C_o : Option Nat) {C_on : Nat} {C_c : Nat} {C_sp : List Value} (C_hn : p2.length = C_on) (C_hs : C_o ≠ none → C_on ≤ C_c ∧ C_sp.length = (C_c - C_on) * 2) (C_ho : C_o = none → p2 = [] ∧ C_c = 0) (hm0 : Mem w (bs [some C_b, C_o]) [⟨some C_b, 40, [(.slice (C_o.map fun b => ⟨b, 0, none⟩) C_on C_c)]⟩, ⟨C_o, 94, row encA2I64 p2 C_sp⟩] w) (h : impl_Frame_listed_1 step0 track1 p2 = some r) :
    Calls Tryz.prog 92 #[(.int .i64 step0), (.int .i64 track1), (.pointer (some ⟨C_b, 0, none⟩))] w fun e w' => ∃ v, e = .returned v ∧ (∃ (mo0 : Option Nat) (mc0 : Nat) (ms0 : List Value) (mn0 : Nat), r.length = mn0 ∧ (mo0 ≠ none → mn0 ≤ mc0 ∧ ms0.length = (mc0 - mn0) * 2) ∧ (mo0 = none → r = [] ∧ mc0 = 0) ∧ v = .tuple #[] ∧ Mem w (bs [some C_b, C_o]) [⟨some C_b, 40, [(.slice (mo0.map fun b => ⟨b, 0, none⟩) mn0 mc0)]⟩, ⟨mo0, 94, row encA2I64 r ms0⟩] w') := by
  subst C_hn
  rw [impl_Frame_listed_1] at h
  refine enter (args := [(.int .i64 step0), (.int .i64 track1), (.pointer (some ⟨C_b, 0, none⟩))]) Tryz.func92 rfl Tryz.ntmps92 (by kernel_rfl) (L := [⟨some C_b, 40, [(.slice (C_o.map fun b => ⟨b, 0, none⟩) p2.length C_c)]⟩, ⟨C_o, 94, row encA2I64 p2 C_sp⟩]) (W := bs [some C_b, C_o]) hm0 ?_
  refine jc_region (qh [0,0,0,0] (tO (p_bs 0 94 2 1 encA2I64 [(.agg (row encI64 (Arr.set (Arr.set (Arr.rep 2 0) 0 step0) 1 track1).1 []).toArray)] [(Arr.set (Arr.set (Arr.rep 2 0) 0 step0) 1 track1)] (by kernel_rfl) (by kernel_rfl) rfl (by kernel_rfl) (by kernel_rfl) encA2I64_len (fun b_1 => jkO ?_))))
  obtain ⟨hg_2, h⟩ := gd h
  refine tO (p_apn 0 1 C_o 94 p2.length 1 C_c 2 16 (some ⟨b_1, 0, none⟩) encA2I64 p2 ([(Arr.set (Arr.set (Arr.rep 2 0) 0 step0) 1 track1)] : List (Arr 2 Int)) C_sp (.agg (row encI64 (Arr.rep 2 0).1 []).toArray) rfl rfl (by kernel_rfl) (by kernel_rfl) (by kernel_rfl) encA2I64_len encA2I64_cell C_hs C_ho (fun w hm => (hm.ow 2 (some b_1) 94 ([(Arr.set (Arr.set (Arr.rep 2 0) 0 step0) 1 track1)] : List (Arr 2 Int)) [] (fun e => nomatch e) encA2I64_len)) hg_2 (by kernel_rfl) (by kernel_rfl) (fun o_3 cap_4 sp_5 hs_6 ho_7 => jkO (tO (qs 0 [0] (jkO (qe (jx_fall ?_)))))))
  obtain rfl := Option.some.inj h
  exact qr [] (fun w hm => ⟨o_3, cap_4, sp_5, ((p2 ++ ([(Arr.set (Arr.set (Arr.rep 2 0) 0 step0) 1 track1)] : List (Arr 2 Int))).length), rfl, hs_6, ho_7, rfl, hm.pk [0, 1]⟩)
/-! ### (impl.Frame).pins -/
def impl_Frame_pins_at_impl_Frame_listed_1.k_2 (xs_1 : List (Arr 2 Int)) : Option ((List (Arr 2 Int))) := some xs_1
def impl_Frame_pins_at_impl_Frame_listed_1.k_9 (i_4 : Int) (xs_8 : List (Arr 2 Int)) : Option (((List (Arr 2 Int)) × Int) ⊕ ((List (Arr 2 Int)))) := some (.inl (xs_8, (w64 (i_4 + 1))))
def impl_Frame_pins_at_impl_Frame_listed_1.l_12 (d1 : Arr 96 Int) (i_4 : Int) (t_7 : Int) : ((List (Arr 2 Int)) × Int) → Option (((List (Arr 2 Int)) × Int) ⊕ ((List (Arr 2 Int))))
  | (xs_10, i_11) => (if (decide (i_11 < t_7)) = true then (impl_Drum_has d1 i_4 i_11).bind fun t_14 => (if t_14 = true then (impl_Frame_listed_1 i_4 i_11 xs_10).bind fun t_15 => some (.inl (t_15, (w64 (i_11 + 1)))) else some (.inl (xs_10, (w64 (i_11 + 1))))) else some (.inr xs_10))
def impl_Frame_pins_at_impl_Frame_listed_1.l_5 (f0 : GFrame) (d1 : Arr 96 Int) : ((List (Arr 2 Int)) × Int) → Option (((List (Arr 2 Int)) × Int) ⊕ ((List (Arr 2 Int))))
  | (xs_3, i_4) => (if (decide (i_4 < (w64 f0.fSteps))) = true then (impl_size_Hammer f0.fHammers).bind fun t_7 => (loop (impl_Frame_pins_at_impl_Frame_listed_1.l_12 d1 i_4 t_7) (xs_3, 0)).bind fun t_13 => impl_Frame_pins_at_impl_Frame_listed_1.k_9 i_4 t_13 else some (.inr xs_3))
def impl_Frame_pins_at_impl_Frame_listed_1 (f0 : GFrame) (d1 : Arr 96 Int) (g2c0 : List (Arr 2 Int)) : Option ((List (Arr 2 Int))) := (loop (impl_Frame_pins_at_impl_Frame_listed_1.l_5 f0 d1) (g2c0, 0)).bind fun t_6 => impl_Frame_pins_at_impl_Frame_listed_1.k_2 t_6
theorem impl_Frame_pins_at_impl_Frame_listed_1.calls (f0 : GFrame) (d1 : Arr 96 Int) (g2c0 : List (Arr 2 Int)) (w : World) (r : (List (Arr 2 Int))) {C_a : Option Addr} {C_an : Nat} (C_c : Nat) (C_h : Rw w C_a 2 encGHammer f0.fHammers) (C_hn : f0.fHammers.length = C_an) (E_b : Nat) (E_o : Option Nat) {E_on : Nat} {E_c : Nat} {E_sp : List Value} (E_hn : g2c0.length = E_on) (E_hs : E_o ≠ none → E_on ≤ E_c ∧ E_sp.length = (E_c - E_on) * 2) (E_ho : E_o = none → g2c0 = [] ∧ E_c = 0) (hm0 : Mem w (bs [some E_b, E_o]) [⟨some E_b, 40, [(.slice (E_o.map fun b => ⟨b, 0, none⟩) E_on E_c)]⟩, ⟨E_o, 94, row encA2I64 g2c0 E_sp⟩] w) (C_ha : f0.fHammers ≠ [] → aB C_a ∉ bs [some E_b, E_o]) (h : impl_Frame_pins_at_impl_Frame_listed_1 f0 d1 g2c0 = some r) :
    Calls Tryz.prog 91 #[(.agg #[(.int .i16 f0.fSteps), (.slice C_a C_an C_c)]), (.agg (row encU32 d1.1 []).toArray), (.func (.func 92) #[] #[(.pointer (some ⟨E_b, 0, none⟩))])] w fun e w' => ∃ v, e = .returned v ∧ (∃ (mo0 : Option Nat) (mc0 : Nat) (ms0 : List Value) (mn0 : Nat), r.length = mn0 ∧ (mo0 ≠ none → mn0 ≤ mc0 ∧ ms0.length = (mc0 - mn0) * 2) ∧ (mo0 = none → r = [] ∧ mc0 = 0) ∧ v = .tuple #[] ∧ Mem w (bs [some E_b, E_o]) [⟨some E_b, 40, [(.slice (mo0.map fun b => ⟨b, 0, none⟩) mn0 mc0)]⟩, ⟨mo0, 94, row encA2I64 r ms0⟩] w') := by
  subst C_hn E_hn
  rw [impl_Frame_pins_at_impl_Frame_listed_1] at h
  refine enter (args := [(.agg #[(.int .i16 f0.fSteps), (.slice C_a f0.fHammers.length C_c)]), (.agg (row encU32 d1.1 []).toArray), (.func (.func 92) #[] #[(.pointer (some ⟨E_b, 0, none⟩))])]) Tryz.func91 rfl Tryz.ntmps91 (by kernel_rfl) (L := [⟨some E_b, 40, [(.slice (E_o.map fun b => ⟨b, 0, none⟩) g2c0.length E_c)]⟩, ⟨E_o, 94, row encA2I64 g2c0 E_sp⟩]) (W := bs [some E_b, E_o]) hm0 ?_
  refine jc_seq (jc_region (tO (qa 0 (fun b_1 => jkO (tO (qa 0 (fun b_2 => jkO (qe (jx_then (jc_seq (jc_region (qh [0,2,0,0] (qe (jx_then (jc_meet (fun (j : (List (Arr 2 Int)) × (Option Nat) × Nat × (List Value) × Nat) => match j with | ⟨xs_1, o_322, cap_323, sp_324, n_325⟩ => impl_Frame_pins_at_impl_Frame_listed_1.k_2 xs_1 = some r ∧ (xs_1.length = n_325) ∧ ((o_322 ≠ none → n_325 ≤ cap_323 ∧ sp_324.length = (cap_323 - n_325) * 2)) ∧ ((o_322 = none → xs_1 = [] ∧ cap_323 = 0))) (fun (j : (List (Arr 2 Int)) × (Option Nat) × Nat × (List Value) × Nat) => match j with | ⟨xs_1, o_322, cap_323, sp_324, n_325⟩ => []) (fun (j : (List (Arr 2 Int)) × (Option Nat) × Nat × (List Value) × Nat) => match j with | ⟨xs_1, o_322, cap_323, sp_324, n_325⟩ => [⟨some E_b, 40, [(.slice (o_322.map fun b => ⟨b, 0, none⟩) n_325 cap_323)]⟩, ⟨o_322, 94, row encA2I64 xs_1 sp_324⟩, ⟨some b_1, 27, [(.int .i16 f0.fSteps), (.slice C_a f0.fHammers.length C_c)]⟩, ⟨(some b_2), 34, row encU32 d1.1 []⟩]) ?_ ?_)))))))))))))))
  ·refine jc_block ?_
   obtain ⟨t_6, ht_646, hr_542⟩ := bd h
   refine jc_loop (fun (s : (List (Arr 2 Int)) × Int) (x : (Option Nat) × Nat × (List Value) × Nat) => match s, x with | ⟨xs_3, i_4⟩, ⟨o_536, cap_537, sp_538, n_539⟩ => (xs_3.length = n_539) ∧ ((o_536 ≠ none → n_539 ≤ cap_537 ∧ sp_538.length = (cap_537 - n_539) * 2)) ∧ ((o_536 = none → xs_3 = [] ∧ cap_537 = 0))) (fun (s : (List (Arr 2 Int)) × Int) (x : (Option Nat) × Nat × (List Value) × Nat) => match s, x with | ⟨xs_3, i_4⟩, ⟨o_536, cap_537, sp_538, n_539⟩ => [(2, [], (.func (.func 92) #[] #[(.pointer (some ⟨E_b, 0, none⟩))])), (3, [], (.pointer (some ⟨b_1, 0, none⟩))), (4, [], (.pointer (some ⟨b_2, 0, none⟩))), (10, [], (.int .i64 (w64 f0.fSteps))), (11, [], (.int .i64 i_4))]) (fun (s : (List (Arr 2 Int)) × Int) (x : (Option Nat) × Nat × (List Value) × Nat) => match s, x with | ⟨xs_3, i_4⟩, ⟨o_536, cap_537, sp_538, n_539⟩ => [⟨some E_b, 40, [(.slice (o_536.map fun b => ⟨b, 0, none⟩) n_539 cap_537)]⟩, ⟨o_536, 94, row encA2I64 xs_3 sp_538⟩, ⟨some b_1, 27, [(.int .i16 f0.fSteps), (.slice C_a f0.fHammers.length C_c)]⟩, ⟨(some b_2), 34, row encU32 d1.1 []⟩]) ht_646 ⟨E_o, E_c, E_sp, g2c0.length⟩ ⟨rfl, E_hs, E_ho⟩ (by kernel_rfl) [0, 1, 2, 3] (by kernel_rfl) (by kernel_rfl) ?_
   rintro ⟨xs_3, i_4⟩ ⟨o_536, cap_537, sp_538, n_539⟩ y_543 ⟨rfl, hs_540, ho_541⟩ h
   rw [impl_Frame_pins_at_impl_Frame_listed_1.l_5] at h
   refine jc_seq (jc_region (qh [0] (qe (jx_then (jc_seq (qi h (fun h => ?_) (fun h => ?_)))))))
   ·refine jc_skip (jx_then (jc_seq (jc_block (jc_seq (jc_region (qh [0,0] (qe (jx_then (jc_seq (jc_region (qh [0,2] ?_)))))))))))
    obtain ⟨t_7, ht_546, h⟩ := bd h
    refine tO (pc 0 (fun w hm => impl_size_Hammer.calls f0.fHammers w _ C_c (hm.exRowW C_h C_ha) rfl ht_546) ?_)
    rintro w v w' hm ⟨rfl, hm'⟩
    refine ⟨_, hm.app hm', jkO ?_⟩
    clear hm hm'
    refine qh [0] (qe (jx_then (jc_meet (fun (j : (List (Arr 2 Int)) × (Option Nat) × Nat × (List Value) × Nat) => match j with | ⟨xs_8, o_593, cap_594, sp_595, n_596⟩ => impl_Frame_pins_at_impl_Frame_listed_1.k_9 i_4 xs_8 = some y_543 ∧ (xs_8.length = n_596) ∧ ((o_593 ≠ none → n_596 ≤ cap_594 ∧ sp_595.length = (cap_594 - n_596) * 2)) ∧ ((o_593 = none → xs_8 = [] ∧ cap_594 = 0))) (fun (j : (List (Arr 2 Int)) × (Option Nat) × Nat × (List Value) × Nat) => match j with | ⟨xs_8, o_593, cap_594, sp_595, n_596⟩ => [(2, [], (.func (.func 92) #[] #[(.pointer (some ⟨E_b, 0, none⟩))])), (3, [], (.pointer (some ⟨b_1, 0, none⟩))), (4, [], (.pointer (some ⟨b_2, 0, none⟩))), (10, [], (.int .i64 (w64 f0.fSteps))), (11, [], (.int .i64 i_4))]) (fun (j : (List (Arr 2 Int)) × (Option Nat) × Nat × (List Value) × Nat) => match j with | ⟨xs_8, o_593, cap_594, sp_595, n_596⟩ => [⟨some E_b, 40, [(.slice (o_593.map fun b => ⟨b, 0, none⟩) n_596 cap_594)]⟩, ⟨o_593, 94, row encA2I64 xs_8 sp_595⟩, ⟨some b_1, 27, [(.int .i16 f0.fSteps), (.slice C_a f0.fHammers.length C_c)]⟩, ⟨(some b_2), 34, row encU32 d1.1 []⟩]) ?_ ?_)))
    ·refine jc_block ?_
     obtain ⟨t_13, ht_644, hr_631⟩ := bd h
     refine jc_loop (fun (s : (List (Arr 2 Int)) × Int) (x : (Option Nat) × Nat × (List Value) × Nat) => match s, x with | ⟨xs_10, i_11⟩, ⟨o_625, cap_626, sp_627, n_628⟩ => (xs_10.length = n_628) ∧ ((o_625 ≠ none → n_628 ≤ cap_626 ∧ sp_627.length = (cap_626 - n_628) * 2)) ∧ ((o_625 = none → xs_10 = [] ∧ cap_626 = 0))) (fun (s : (List (Arr 2 Int)) × Int) (x : (Option Nat) × Nat × (List Value) × Nat) => match s, x with | ⟨xs_10, i_11⟩, ⟨o_625, cap_626, sp_627, n_628⟩ => [(2, [], (.func (.func 92) #[] #[(.pointer (some ⟨E_b, 0, none⟩))])), (3, [], (.pointer (some ⟨b_1, 0, none⟩))), (4, [], (.pointer (some ⟨b_2, 0, none⟩))), (6, [], (.int .i64 i_4)), (10, [], (.int .i64 (w64 f0.fSteps))), (11, [], (.int .i64 i_4)), (16, [], (.int .i64 t_7)), (17, [], (.int .i64 i_11))]) (fun (s : (List (Arr 2 Int)) × Int) (x : (Option Nat) × Nat × (List Value) × Nat) => match s, x with | ⟨xs_10, i_11⟩, ⟨o_625, cap_626, sp_627, n_628⟩ => [⟨some E_b, 40, [(.slice (o_625.map fun b => ⟨b, 0, none⟩) n_628 cap_626)]⟩, ⟨o_625, 94, row encA2I64 xs_10 sp_627⟩, ⟨some b_1, 27, [(.int .i16 f0.fSteps), (.slice C_a f0.fHammers.length C_c)]⟩, ⟨(some b_2), 34, row encU32 d1.1 []⟩]) ht_644 ⟨o_536, cap_537, sp_538, xs_3.length⟩ ⟨rfl, hs_540, ho_541⟩ (by kernel_rfl) [0, 1, 2, 3] (by kernel_rfl) (by kernel_rfl) ?_
     rintro ⟨xs_10, i_11⟩ ⟨o_625, cap_626, sp_627, n_628⟩ y_632 ⟨rfl, hs_629, ho_630⟩ h
     rw [impl_Frame_pins_at_impl_Frame_listed_1.l_12] at h
     refine jc_seq (jc_region (qh [0] (qe (jx_then (jc_seq (qi h (fun h => ?_) (fun h => ?_)))))))
     ·refine jc_skip (jx_then (jc_seq (jc_block (jc_seq (jc_region (qh [0,0] (qe (jx_then (jc_seq (jc_region (qh [0,0] ?_)))))))))))
      obtain ⟨t_14, ht_635, h⟩ := bd h
      refine tO (pc 0 (fun w hm => impl_Drum_has.calls d1 i_4 i_11 w _ (hm.ow 3 (some b_2) 34 d1.1 [] (fun e => nomatch e) encU32_len) ht_635) ?_)
      rintro w v w' hm ⟨rfl, hm'⟩
      refine ⟨_, hm.app hm', jkO ?_⟩
      clear hm hm'
      refine qe (jx_then (qi h (fun h => ?_) (fun h => ?_)))
      ·refine jc_region (qh [0,0,0] ?_)
       obtain ⟨t_15, ht_637, h⟩ := bd h
       refine tO (pc 0 (fun w hm => impl_Frame_listed_1.calls i_4 i_11 xs_10 w _ E_b o_625 rfl hs_629 ho_630 (hm.pass (N := [⟨some E_b, 40, [(.slice (o_625.map fun b => ⟨b, 0, none⟩) xs_10.length cap_626)]⟩, ⟨o_625, 94, row encA2I64 xs_10 sp_627⟩]) [0, 1] (by kernel_rfl) (by kernel_rfl)) ht_637) ?_)
       rintro w v w' hm ⟨o_638, cap_639, sp_640, _, rfl, hs_641, ho_642, rfl, hm'⟩
       refine ⟨_, Mem.pick (hm.appP (ps := [(0, ⟨some E_b, 40, [(.slice (o_638.map fun b => ⟨b, 0, none⟩) t_15.length cap_639)]⟩)]) (ds := [1]) (N := [⟨o_638, 94, row encA2I64 t_15 sp_640⟩]) hm' [0, 1] (by kernel_rfl) (by kernel_rfl) (by kernel_rfl)) (N := [⟨some E_b, 40, [(.slice (o_638.map fun b => ⟨b, 0, none⟩) t_15.length cap_639)]⟩, ⟨o_638, 94, row encA2I64 t_15 sp_640⟩, ⟨some b_1, 27, [(.int .i16 f0.fSteps), (.slice C_a f0.fHammers.length C_c)]⟩, ⟨(some b_2), 34, row encU32 d1.1 []⟩]) [0, 4, 2, 3] (by kernel_rfl) (by kernel_rfl), jkO ?_⟩
       clear hm hm'
       exact qe (jx_inn (jx_then (jc_region (qh [0,0] (qe (qb (t_15, (w64 (i_11 + 1))) ⟨o_638, cap_639, sp_640, t_15.length⟩ h ⟨rfl, hs_641, ho_642⟩ [0, 1, 2, 3]))))))
      ·exact jc_skip (jx_inn (jx_then (jc_region (qh [0,0] (qe (qb (xs_10, (w64 (i_11 + 1))) ⟨o_625, cap_626, sp_627, xs_10.length⟩ h ⟨rfl, hs_629, ho_630⟩ [0, 1, 2, 3]))))))
     ·refine jc_exit (jx_thenx (jx_leave xs_10 (Option.some.inj h).symm (fun e_643 => ?_)))
      subst e_643
      exact jx_ine (qm ⟨xs_10, o_625, cap_626, sp_627, xs_10.length⟩ ⟨hr_631, rfl, hs_629, ho_630⟩ [0, 1, 2, 3])
    ·rintro ⟨xs_8, o_593, cap_594, sp_595, n_596⟩ ⟨h, rfl, hs_597, ho_598⟩
     replace h : impl_Frame_pins_at_impl_Frame_listed_1.k_9 i_4 xs_8 = some y_543 := h
     rw [impl_Frame_pins_at_impl_Frame_listed_1.k_9] at h
     exact jx_inn (jx_then (jc_region (qh [0,0] (qe (qb (xs_8, (w64 (i_4 + 1))) ⟨o_593, cap_594, sp_595, xs_8.length⟩ h ⟨rfl, hs_597, ho_598⟩ [0, 1, 2, 3])))))
   ·refine jc_exit (jx_thenx (jx_leave xs_3 (Option.some.inj h).symm (fun e_645 => ?_)))
    subst e_645
    exact jx_ine (qm ⟨xs_3, o_536, cap_537, sp_538, xs_3.length⟩ ⟨hr_542, rfl, hs_540, ho_541⟩ [0, 1, 2, 3])
  ·rintro ⟨xs_1, o_322, cap_323, sp_324, n_325⟩ ⟨h, rfl, hs_326, ho_327⟩
   replace h : impl_Frame_pins_at_impl_Frame_listed_1.k_2 xs_1 = some r := h
   rw [impl_Frame_pins_at_impl_Frame_listed_1.k_2] at h
   refine jx_fall ?_
   obtain rfl := Option.some.inj h
   exact qr [] (fun w hm => ⟨o_322, cap_323, sp_324, xs_1.length, rfl, hs_326, ho_327, rfl, hm.pk [0, 1]⟩)
/-! ### (impl.Frame).listed -/
def impl_Frame_listed (f0 : GFrame) (d1 : Arr 96 Int) : Option ((List (Arr 2 Int))) := (impl_Frame_pins_at_impl_Frame_listed_1 f0 d1 ([] : List (Arr 2 Int))).bind fun t_1 => some t_1
theorem impl_Frame_listed.calls (f0 : GFrame) (d1 : Arr 96 Int) (w : World) (r : (List (Arr 2 Int))) {C_a : Option Addr} {C_an : Nat} (C_c : Nat) (C_h : Rw w C_a 2 encGHammer f0.fHammers) (C_hn : f0.fHammers.length = C_an) (h : impl_Frame_listed f0 d1 = some r) :
    Calls Tryz.prog 40 #[(.agg #[(.int .i16 f0.fSteps), (.slice C_a C_an C_c)]), (.agg (row encU32 d1.1 []).toArray)] w fun e w' => ∃ v, e = .returned v ∧ (∃ (o0 : Option Nat) (c0 : Nat) (s0 : List Value) (n0 : Nat), r.length = n0 ∧ (o0 ≠ none → n0 ≤ c0 ∧ s0.length = (c0 - n0) * 2) ∧ (o0 = none → r = [] ∧ c0 = 0) ∧ v = .slice (o0.map fun b => ⟨b, 0, none⟩) n0 c0 ∧ Mem w [] [⟨o0, 94, row encA2I64 r s0⟩] w') := by
  subst C_hn
  rw [impl_Frame_listed] at h
  refine enter (args := [(.agg #[(.int .i16 f0.fSteps), (.slice C_a f0.fHammers.length C_c)]), (.agg (row encU32 d1.1 []).toArray)]) Tryz.func40 rfl Tryz.ntmps40 (by kernel_rfl) (L := []) (W := []) (Mem.start w) ?_
  refine jc_seq (jc_region (tO (qa 0 (fun b_1 => jkO (tO (qa 0 (fun b_2 => jkO (qh [0] (qe (jx_then (jc_seq (jc_region (tO (qa 0 (fun b_3 => jkO (tO (qa 0 (fun b_4 => jkO (tO (qs 0 [3] (jkO (qe (jx_then (jc_seq (jc_region (qh [0] (tO (p_ldA 0 1 b_2 96 1 34 encU32 d1 (by kernel_rfl) (by kernel_rfl) (by kernel_rfl) encU32_len (by kernel_rfl) (jkO (qh [0] ?_))))))))))))))))))))))))))))))
  obtain ⟨t_1, ht_5, h⟩ := bd h
  refine tO (pc 0 (fun w hm => impl_Frame_pins_at_impl_Frame_listed_1.calls f0 d1 ([] : List (Arr 2 Int)) w _ C_c (hm.xr C_h) rfl b_4 (some b_3) rfl (fun _ => ⟨Nat.le_refl _, by simp⟩) (fun e => nomatch e) (hm.pass (N := [⟨some b_4, 40, [(.slice (some ⟨b_3, 0, none⟩) 0 0)]⟩, ⟨(some b_3), 94, row encA2I64 ([] : List (Arr 2 Int)) []⟩]) [3, 2] (by kernel_rfl) (by kernel_rfl)) (hm.exApart (N := [⟨some b_4, 40, [(.slice (some ⟨b_3, 0, none⟩) 0 0)]⟩, ⟨(some b_3), 94, row encA2I64 ([] : List (Arr 2 Int)) []⟩]) C_h (fun _ => List.not_mem_nil) [3, 2] (by kernel_rfl)) ht_5) ?_)
  rintro w v w' hm ⟨o_6, cap_7, sp_8, _, rfl, hs_9, ho_10, rfl, hm'⟩
  refine ⟨_, Mem.pick (hm.appP (ps := [(3, ⟨some b_4, 40, [(.slice (o_6.map fun b => ⟨b, 0, none⟩) t_1.length cap_7)]⟩)]) (ds := [2]) (N := [⟨o_6, 94, row encA2I64 t_1 sp_8⟩]) hm' [0, 1] (by kernel_rfl) (by kernel_rfl) (by kernel_rfl)) (N := [⟨some b_1, 27, [(.int .i16 f0.fSteps), (.slice C_a f0.fHammers.length C_c)]⟩, ⟨(some b_2), 34, row encU32 d1.1 []⟩, ⟨o_6, 94, row encA2I64 t_1 sp_8⟩, ⟨some b_4, 40, [(.slice (o_6.map fun b => ⟨b, 0, none⟩) t_1.length cap_7)]⟩]) [0, 1, 4, 3] (by kernel_rfl) (by kernel_rfl), jkO ?_⟩
  clear hm hm'
  refine qe (jx_then (jc_seq (jc_region (qh [3,0] (qe (jx_then (jc_ret ?_)))))))
  obtain rfl := Option.some.inj h
  exact qr [] (fun w hm => ⟨o_6, cap_7, sp_8, t_1.length, rfl, hs_9, ho_10, rfl, hm.pk [2]⟩)
/-! ### impl.MovesBetween -/
def impl_MovesBetween (f0 : GFrame) (a1 : Arr 96 Int) (b2 : Arr 96 Int) : Option ((List (Arr 2 Int)) × (List (Arr 2 Int)) × Int) := (impl_drumCode f0 ([a1, b2] : List (Arr 96 Int))).bind fun t_1 => (if (t_1 != 0) = true then some ([], [], t_1) else (impl_Drum_less a1 b2).bind fun t_2 => (impl_Frame_listed f0 t_2).bind fun t_3 => (impl_Drum_less b2 a1).bind fun t_4 => (impl_Frame_listed f0 t_4).bind fun t_5 => some (t_3, t_5, 0))
theorem impl_MovesBetween.calls (f0 : GFrame) (a1 : Arr 96 Int) (b2 : Arr 96 Int) (w : World) (r : (List (Arr 2 Int)) × (List (Arr 2 Int)) × Int) {C_a : Option Addr} {C_an : Nat} (C_c : Nat) (C_h : Rw w C_a 2 encGHammer f0.fHammers) (C_hn : f0.fHammers.length = C_an) (h : impl_MovesBetween f0 a1 b2 = some r) :
    Calls Tryz.prog 11 #[(.agg #[(.int .i16 f0.fSteps), (.slice C_a C_an C_c)]), (.agg (row encU32 a1.1 []).toArray), (.agg (row encU32 b2.1 []).toArray)] w fun e w' => ∃ v, e = .returned v ∧ (∃ (o0 : Option Nat) (c0 : Nat) (s0 : List Value) (n0 : Nat), r.1.length = n0 ∧ (o0 ≠ none → n0 ≤ c0 ∧ s0.length = (c0 - n0) * 2) ∧ (o0 = none → r.1 = [] ∧ c0 = 0) ∧ ∃ (o1 : Option Nat) (c1 : Nat) (s1 : List Value) (n1 : Nat), r.2.1.length = n1 ∧ (o1 ≠ none → n1 ≤ c1 ∧ s1.length = (c1 - n1) * 2) ∧ (o1 = none → r.2.1 = [] ∧ c1 = 0) ∧ v = .tuple #[.slice (o0.map fun b => ⟨b, 0, none⟩) n0 c0, .slice (o1.map fun b => ⟨b, 0, none⟩) n1 c1, (.int .i64 r.2.2)] ∧ Mem w [] [⟨o0, 94, row encA2I64 r.1 s0⟩, ⟨o1, 94, row encA2I64 r.2.1 s1⟩] w') := by
  subst C_hn
  rw [impl_MovesBetween] at h
  refine enter (args := [(.agg #[(.int .i16 f0.fSteps), (.slice C_a f0.fHammers.length C_c)]), (.agg (row encU32 a1.1 []).toArray), (.agg (row encU32 b2.1 []).toArray)]) Tryz.func11 rfl Tryz.ntmps11 (by kernel_rfl) (L := []) (W := []) (Mem.start w) ?_
  refine jc_seq (jc_region (tO (qa 0 (fun b_1 => jkO (tO (qa 0 (fun b_2 => jkO (tO (qa 0 (fun b_3 => jkO (qh [0,0,0] (qe (jx_then (jc_seq (jc_seq (jc_region (qh [0] (tO (p_ldA 0 1 b_2 96 1 34 encU32 a1 (by kernel_rfl) (by kernel_rfl) (by kernel_rfl) encU32_len (by kernel_rfl) (jkO (tO (p_ldA 0 2 b_3 96 1 34 encU32 b2 (by kernel_rfl) (by kernel_rfl) (by kernel_rfl) encU32_len (by kernel_rfl) (jkO (tO (p_bs 0 34 96 2 encA96U32 [(.agg (row encU32 a1.1 []).toArray), (.agg (row encU32 b2.1 []).toArray)] [a1, b2] (by kernel_rfl) (by kernel_rfl) rfl (by kernel_rfl) (by kernel_rfl) encA96U32_len (fun b_7 => jkO ?_))))))))))))))))))))))))))
  obtain ⟨t_1, ht_8, h⟩ := bd h
  refine tO (pc 0 (fun w hm => impl_drumCode.calls f0 ([a1, b2] : List (Arr 96 Int)) w _ C_c (hm.xr C_h) rfl 2 (hm.ow 3 (some b_7) 34 ([a1, b2] : List (Arr 96 Int)) [] (fun e => nomatch e) encA96U32_len) rfl ht_8) ?_)
  rintro w v w' hm ⟨rfl, hm'⟩
  refine ⟨_, hm.app hm', jkO ?_⟩
  clear hm hm'
  refine qh [0] (qe (jx_then (jc_seq (jc_region (qh [0,0] (qe (jx_then (qi h (fun h => ?_) (fun h => ?_)))))))))
  ·refine jc_seq (jc_region (qh [0,0,0,0] (qe (jx_then (jc_ret (jx_thenr ?_))))))
   obtain rfl := Option.some.inj h
   exact jx_ghost 94 encA2I64 (jx_ghost 94 encA2I64 (qr [] (fun w hm => ⟨none, 0, [], 0, rfl, (fun e => absurd rfl e), (fun _ => ⟨rfl, rfl⟩), none, 0, [], 0, rfl, (fun e => absurd rfl e), (fun _ => ⟨rfl, rfl⟩), rfl, hm.pk [4, 5]⟩)))
  ·refine jc_skip (jx_then (jc_seq (qg [⟨some b_1, 27, [(.int .i16 f0.fSteps), (.slice C_a f0.fHammers.length C_c)]⟩, ⟨(some b_2), 34, row encU32 a1.1 []⟩, ⟨(some b_3), 34, row encU32 b2.1 []⟩, ⟨(some b_7), 34, row encA96U32 ([a1, b2] : List (Arr 96 Int)) []⟩] 13 (qd [⟨0, 0, 0⟩,⟨5, 0, 0⟩] 11 [0, 1, 2, 3] (qv 1 0 [0, 1, 2, 3] (fun w hm => ld_run (b := b_2) (off := 0) (s := 96) (agg := true) (vs := row encU32 a1.1 []) (by kernel_rfl) ((row_len encU32_len a1).trans rfl) (.inl rfl) (hm.all (hh := 1) (T := 34) (by kernel_rfl))) (qv 2 0 [0, 1, 2, 3] (fun w hm => ld_run (b := b_3) (off := 0) (s := 96) (agg := true) (vs := row encU32 b2.1 []) (by kernel_rfl) ((row_len encU32_len b2).trans rfl) (.inl rfl) (hm.all (hh := 2) (T := 34) (by kernel_rfl))) (qv 6 0 [0, 1, 2, 3] (fun w hm => ld_run (b := b_3) (off := 0) (s := 96) (agg := true) (vs := row encU32 b2.1 []) (by kernel_rfl) ((row_len encU32_len b2).trans rfl) (.inl rfl) (hm.all (hh := 2) (T := 34) (by kernel_rfl))) (qv 7 0 [0, 1, 2, 3] (fun w hm => ld_run (b := b_2) (off := 0) (s := 96) (agg := true) (vs := row encU32 a1.1 []) (by kernel_rfl) ((row_len encU32_len a1).trans rfl) (.inl rfl) (hm.all (hh := 1) (T := 34) (by kernel_rfl))) ?_))))))))
   obtain ⟨t_2, ht_10, h⟩ := bd h
   refine tD 3 (pc 0 (fun w hm => impl_Drum_less.calls a1 b2 w _ ht_10) ?_)
   rintro w v w' hm ⟨rfl, hm'⟩
   refine ⟨_, hm.app hm', kD [0, 1, 2, 3] ?_⟩
   clear hm hm'
   obtain ⟨t_3, ht_11, h⟩ := bd h
   refine tD 4 (pc 0 (fun w hm => impl_Frame_listed.calls f0 t_2 w _ C_c (hm.xr C_h) rfl ht_11) ?_)
   rintro w v w' hm ⟨o_12, cap_13, sp_14, _, rfl, hs_15, ho_16, rfl, hm'⟩
   refine ⟨_, hm.app hm', kD [0, 1, 2, 3] ?_⟩
   clear hm hm'
   obtain ⟨t_4, ht_17, h⟩ := bd h
   refine tD 8 (pc 0 (fun w hm => impl_Drum_less.calls b2 a1 w _ ht_17) ?_)
   rintro w v w' hm ⟨rfl, hm'⟩
   refine ⟨_, hm.app hm', kD [0, 1, 2, 3] ?_⟩
   clear hm hm'
   obtain ⟨t_5, ht_18, h⟩ := bd h
   refine tD 9 (pc 0 (fun w hm => impl_Frame_listed.calls f0 t_4 w _ C_c (hm.xr C_h) rfl ht_18) ?_)
   rintro w v w' hm ⟨o_19, cap_20, sp_21, _, rfl, hs_22, ho_23, rfl, hm'⟩
   refine ⟨_, hm.app hm', kD [0, 1, 2, 3] ?_⟩
   clear hm hm'
   refine qd [⟨10, 0, 0⟩,⟨11, 0, 0⟩,⟨12, 0, 0⟩] 0 [0, 1, 2, 3] (qz (jx_then (jc_ret ?_)))
   obtain rfl := Option.some.inj h
   exact qr [] (fun w hm => ⟨o_12, cap_13, sp_14, t_3.length, rfl, hs_15, ho_16, o_19, cap_20, sp_21, t_5.length, rfl, hs_22, ho_23, rfl, hm.pk [4, 5]⟩)
/-! ### spec.l03Only -/
def spec_l03Only.k_2 (xs_1 : List (Arr 2 Int)) : Option ((List (Arr 2 Int))) := some xs_1
def spec_l03Only.k_8 (i_4 : Int) (xs_7 : List (Arr 2 Int)) : Option (((List (Arr 2 Int)) × Int) ⊕ ((List (Arr 2 Int)))) := some (.inl (xs_7, (w64 (i_4 + 1))))
def spec_l03Only.k_14 (i_4 : Int) (xs_9 : List (Arr 2 Int)) (i_10 : Int) (q_13 : Bool) : Option (((List (Arr 2 Int)) × Int) ⊕ ((List (Arr 2 Int)))) := (if q_13 = true then (if xs_9.length + ([(Arr.set (Arr.set (Arr.rep 2 0) 0 i_4) 1 i_10)] : List (Arr 2 Int)).length ≤ 4294967296 then some (.inl ((xs_9 ++ ([(Arr.set (Arr.set (Arr.rep 2 0) 0 i_4) 1 i_10)] : List (Arr 2 Int))), (w64 (i_10 + 1)))) else none) else some (.inl (xs_9, (w64 (i_10 + 1)))))
def spec_l03Only.l_11 (f0 : GFrame) (a1 : Arr 96 Int) (b2 : Arr 96 Int) (i_4 : Int) : ((List (Arr 2 Int)) × Int) → Option (((List (Arr 2 Int)) × Int) ⊕ ((List (Arr 2 Int))))
  | (xs_9, i_10) => (if (decide (i_10 < (f0.fHammers.length : Int))) = true then (spec_l02Pin a1 i_4 i_10).bind fun t_15 => (if t_15 = true then (spec_l02Pin b2 i_4 i_10).bind fun t_16 => spec_l03Only.k_14 i_4 xs_9 i_10 (!t_16) else spec_l03Only.k_14 i_4 xs_9 i_10 false) else some (.inr xs_9))
def spec_l03Only.l_5 (f0 : GFrame) (a1 : Arr 96 Int) (b2 : Arr 96 Int) : ((List (Arr 2 Int)) × Int) → Option (((List (Arr 2 Int)) × Int) ⊕ ((List (Arr 2 Int))))
  | (xs_3, i_4) => (if (decide (i_4 < (w64 f0.fSteps))) = true then (loop (spec_l03Only.l_11 f0 a1 b2 i_4) (xs_3, 0)).bind fun t_12 => spec_l03Only.k_8 i_4 t_12 else some (.inr xs_3))
def spec_l03Only (f0 : GFrame) (a1 : Arr 96 Int) (b2 : Arr 96 Int) : Option ((List (Arr 2 Int))) := (loop (spec_l03Only.l_5 f0 a1 b2) (([] : List (Arr 2 Int)), 0)).bind fun t_6 => spec_l03Only.k_2 t_6
theorem spec_l03Only.calls (f0 : GFrame) (a1 : Arr 96 Int) (b2 : Arr 96 Int) (w : World) (r : (List (Arr 2 Int))) {C_a : Option Addr} {C_an : Nat} (C_c : Nat) (C_h : Rw w C_a 2 encGHammer f0.fHammers) (C_hn : f0.fHammers.length = C_an) {D_b D_q : Nat} (D_h : Rw w (some ⟨D_b, D_q, none⟩) 1 encU32 a1.1) {E_b E_q : Nat} (E_h : Rw w (some ⟨E_b, E_q, none⟩) 1 encU32 b2.1) (A_b : Nat) (hm0 : Mem w (bs [some A_b]) [⟨some A_b, 27, [(.int .i16 f0.fSteps), (.slice C_a C_an C_c)]⟩] w) (C_ha : f0.fHammers ≠ [] → aB C_a ∉ bs [some A_b]) (D_ha : a1.1 ≠ [] → aB (some ⟨D_b, D_q, none⟩) ∉ bs [some A_b]) (E_ha : b2.1 ≠ [] → aB (some ⟨E_b, E_q, none⟩) ∉ bs [some A_b]) (h : spec_l03Only f0 a1 b2 = some r) :
    Calls Tryz.prog 44 #[(.pointer (some ⟨A_b, 0, none⟩)), (.pointer (some ⟨D_b, D_q, none⟩)), (.pointer (some ⟨E_b, E_q, none⟩))] w fun e w' => ∃ v, e = .returned v ∧ (∃ (o0 : Option Nat) (c0 : Nat) (s0 : List Value) (n0 : Nat), r.length = n0 ∧ (o0 ≠ none → n0 ≤ c0 ∧ s0.length = (c0 - n0) * 2) ∧ (o0 = none → r = [] ∧ c0 = 0) ∧ v = .slice (o0.map fun b => ⟨b, 0, none⟩) n0 c0 ∧ Mem w (bs [some A_b]) [⟨some A_b, 27, [(.int .i16 f0.fSteps), (.slice C_a C_an C_c)]⟩, ⟨o0, 94, row encA2I64 r s0⟩] w') := by
  subst C_hn
  rw [spec_l03Only] at h
  refine enter (args := [(.pointer (some ⟨A_b, 0, none⟩)), (.pointer (some ⟨D_b, D_q, none⟩)), (.pointer (some ⟨E_b, E_q, none⟩))]) Tryz.func44 rfl Tryz.ntmps44 (by kernel_rfl) (L := [⟨some A_b, 27, [(.int .i16 f0.fSteps), (.slice C_a f0.fHammers.length C_c)]⟩]) (W := bs [some A_b]) hm0 ?_
  refine jc_seq (jc_region (qh [0] (qe (jx_then (jc_seq (jc_region (tO (qa 0 (fun b_1 => jkO (qh [0] (qe (jx_then (jc_seq (jc_seq (jc_region (qh [0] (qe (jx_then (jc_meet (fun (j : (List (Arr 2 Int)) × (Option Nat) × Nat × (List Value) × Nat) => match j with | ⟨xs_1, o_1280, cap_1281, sp_1282, n_1283⟩ => spec_l03Only.k_2 xs_1 = some r ∧ (xs_1.length = n_1283) ∧ ((o_1280 ≠ none → n_1283 ≤ cap_1281 ∧ sp_1282.length = (cap_1281 - n_1283) * 2)) ∧ ((o_1280 = none → xs_1 = [] ∧ cap_1281 = 0))) (fun (j : (List (Arr 2 Int)) × (Option Nat) × Nat × (List Value) × Nat) => match j with | ⟨xs_1, o_1280, cap_1281, sp_1282, n_1283⟩ => [(6, [], (.slice none 0 0)), (7, [], (.slice (o_1280.map fun b => ⟨b, 0, none⟩) n_1283 cap_1281))]) (fun (j : (List (Arr 2 Int)) × (Option Nat) × Nat × (List Value) × Nat) => match j with | ⟨xs_1, o_1280, cap_1281, sp_1282, n_1283⟩ => [⟨some A_b, 27, [(.int .i16 f0.fSteps), (.slice C_a f0.fHammers.length C_c)]⟩, ⟨o_1280, 94, row encA2I64 xs_1 sp_1282⟩]) ?_ ?_)))))))))))))))))))
  ·refine jc_block ?_
   obtain ⟨t_6, ht_1709, hr_1570⟩ := bd h
   refine jc_loop (fun (s : (List (Arr 2 Int)) × Int) (x : (Option Nat) × Nat × (List Value) × Nat) => match s, x with | ⟨xs_3, i_4⟩, ⟨o_1564, cap_1565, sp_1566, n_1567⟩ => (xs_3.length = n_1567) ∧ ((o_1564 ≠ none → n_1567 ≤ cap_1565 ∧ sp_1566.length = (cap_1565 - n_1567) * 2)) ∧ ((o_1564 = none → xs_3 = [] ∧ cap_1565 = 0))) (fun (s : (List (Arr 2 Int)) × Int) (x : (Option Nat) × Nat × (List Value) × Nat) => match s, x with | ⟨xs_3, i_4⟩, ⟨o_1564, cap_1565, sp_1566, n_1567⟩ => [(0, [], (.pointer (some ⟨A_b, 0, none⟩))), (1, [], (.pointer (some ⟨D_b, D_q, none⟩))), (2, [], (.pointer (some ⟨E_b, E_q, none⟩))), (6, [], (.slice none 0 0)), (7, [], (.slice (o_1564.map fun b => ⟨b, 0, none⟩) n_1567 cap_1565)), (8, [], (.int .i64 i_4))]) (fun (s : (List (Arr 2 Int)) × Int) (x : (Option Nat) × Nat × (List Value) × Nat) => match s, x with | ⟨xs_3, i_4⟩, ⟨o_1564, cap_1565, sp_1566, n_1567⟩ => [⟨some A_b, 27, [(.int .i16 f0.fSteps), (.slice C_a f0.fHammers.length C_c)]⟩, ⟨o_1564, 94, row encA2I64 xs_3 sp_1566⟩]) ht_1709 ⟨(some b_1), 0, [], 0⟩ ⟨rfl, (fun _ => ⟨Nat.le_refl _, by simp⟩), (fun e => nomatch e)⟩ (by kernel_rfl) [0, 1] (by kernel_rfl) (by kernel_rfl) ?_
   rintro ⟨xs_3, i_4⟩ ⟨o_1564, cap_1565, sp_1566, n_1567⟩ y_1571 ⟨rfl, hs_1568, ho_1569⟩ h
   rw [spec_l03Only.l_5] at h
   refine jc_seq (jc_seq (jc_region (qh [0,0,0,0,0,0,0] (qe (jx_then (qi h (fun h => ?_) (fun h => ?_)))))))
   ·refine jc_skip (jx_then (jc_seq (jc_block (jc_seq (jc_region (qh [0] (qe (jx_then (jc_meet (fun (j : (List (Arr 2 Int)) × (Option Nat) × Nat × (List Value) × Nat) => match j with | ⟨xs_7, o_1638, cap_1639, sp_1640, n_1641⟩ => spec_l03Only.k_8 i_4 xs_7 = some y_1571 ∧ (xs_7.length = n_1641) ∧ ((o_1638 ≠ none → n_1641 ≤ cap_1639 ∧ sp_1640.length = (cap_1639 - n_1641) * 2)) ∧ ((o_1638 = none → xs_7 = [] ∧ cap_1639 = 0))) (fun (j : (List (Arr 2 Int)) × (Option Nat) × Nat × (List Value) × Nat) => match j with | ⟨xs_7, o_1638, cap_1639, sp_1640, n_1641⟩ => [(0, [], (.pointer (some ⟨A_b, 0, none⟩))), (1, [], (.pointer (some ⟨D_b, D_q, none⟩))), (2, [], (.pointer (some ⟨E_b, E_q, none⟩))), (6, [], (.slice none 0 0)), (7, [], (.slice (o_1638.map fun b => ⟨b, 0, none⟩) n_1641 cap_1639)), (8, [], (.int .i64 i_4))]) (fun (j : (List (Arr 2 Int)) × (Option Nat) × Nat × (List Value) × Nat) => match j with | ⟨xs_7, o_1638, cap_1639, sp_1640, n_1641⟩ => [⟨some A_b, 27, [(.int .i16 f0.fSteps), (.slice C_a f0.fHammers.length C_c)]⟩, ⟨o_1638, 94, row encA2I64 xs_7 sp_1640⟩]) ?_ ?_)))))))))
    ·refine jc_block ?_
     obtain ⟨t_12, ht_1707, hr_1688⟩ := bd h
     refine jc_loop (fun (s : (List (Arr 2 Int)) × Int) (x : (Option Nat) × Nat × (List Value) × Nat) => match s, x with | ⟨xs_9, i_10⟩, ⟨o_1682, cap_1683, sp_1684, n_1685⟩ => (xs_9.length = n_1685) ∧ ((o_1682 ≠ none → n_1685 ≤ cap_1683 ∧ sp_1684.length = (cap_1683 - n_1685) * 2)) ∧ ((o_1682 = none → xs_9 = [] ∧ cap_1683 = 0))) (fun (s : (List (Arr 2 Int)) × Int) (x : (Option Nat) × Nat × (List Value) × Nat) => match s, x with | ⟨xs_9, i_10⟩, ⟨o_1682, cap_1683, sp_1684, n_1685⟩ => [(0, [], (.pointer (some ⟨A_b, 0, none⟩))), (1, [], (.pointer (some ⟨D_b, D_q, none⟩))), (2, [], (.pointer (some ⟨E_b, E_q, none⟩))), (6, [], (.slice none 0 0)), (7, [], (.slice (o_1682.map fun b => ⟨b, 0, none⟩) n_1685 cap_1683)), (8, [], (.int .i64 i_4)), (9, [], (.int .i64 i_10))]) (fun (s : (List (Arr 2 Int)) × Int) (x : (Option Nat) × Nat × (List Value) × Nat) => match s, x with | ⟨xs_9, i_10⟩, ⟨o_1682, cap_1683, sp_1684, n_1685⟩ => [⟨some A_b, 27, [(.int .i16 f0.fSteps), (.slice C_a f0.fHammers.length C_c)]⟩, ⟨o_1682, 94, row encA2I64 xs_9 sp_1684⟩]) ht_1707 ⟨o_1564, cap_1565, sp_1566, xs_3.length⟩ ⟨rfl, hs_1568, ho_1569⟩ (by kernel_rfl) [0, 1] (by kernel_rfl) (by kernel_rfl) ?_
     rintro ⟨xs_9, i_10⟩ ⟨o_1682, cap_1683, sp_1684, n_1685⟩ y_1689 ⟨rfl, hs_1686, ho_1687⟩ h
     rw [spec_l03Only.l_11] at h
     refine jc_seq (jc_seq (jc_region (qh [0,0,0,0,0,0,0] (qe (jx_then (qi h (fun h => ?_) (fun h => ?_)))))))
     ·refine jc_skip (jx_then (jc_seq (jc_block (jc_seq (jc_meet (fun (j : Bool) => match j with | q_13 => spec_l03Only.k_14 i_4 xs_9 i_10 q_13 = some y_1689) (fun (j : Bool) => match j with | q_13 => [(0, [], (.pointer (some ⟨A_b, 0, none⟩))), (1, [], (.pointer (some ⟨D_b, D_q, none⟩))), (2, [], (.pointer (some ⟨E_b, E_q, none⟩))), (6, [], (.slice none 0 0)), (7, [], (.slice (o_1682.map fun b => ⟨b, 0, none⟩) xs_9.length cap_1683)), (8, [], (.int .i64 i_4)), (9, [], (.int .i64 i_10)), (39, [], (.bool q_13))]) (fun (j : Bool) => match j with | q_13 => [⟨some A_b, 27, [(.int .i16 f0.fSteps), (.slice C_a f0.fHammers.length C_c)]⟩, ⟨o_1682, 94, row encA2I64 xs_9 sp_1684⟩]) ?_ ?_)))))
      ·refine jc_region (qh [0,0,0] ?_)
       obtain ⟨t_15, ht_1703, h⟩ := bd h
       refine tO (pc 0 (fun w hm => spec_l02Pin.calls a1 i_4 i_10 w _ (hm.exRowW D_h D_ha) ht_1703) ?_)
       rintro w v w' hm ⟨rfl, hm'⟩
       refine ⟨_, hm.app hm', jkO ?_⟩
       clear hm hm'
       refine qf [(0, 0), (0, 1), (0, 1), (0, 1)] (qp 33 h (fun h => ?_) (fun h => ?_))
       ·obtain ⟨t_16, ht_1705, h⟩ := bd h
        refine tO (pc 2 (fun w hm => spec_l02Pin.calls b2 i_4 i_10 w _ (hm.exRowW E_h E_ha) ht_1705) ?_)
        rintro w v w' hm ⟨rfl, hm'⟩
        refine ⟨_, hm.app hm', jkO ?_⟩
        clear hm hm'
        exact qf [(0, 2), (0, 4)] (qe (qm (!t_16) h [0, 1]))
       ·exact qf [(0, 3), (0, 3), (0, 5)] (qe (qm false h [0, 1]))
      ·rintro q_13 h
       replace h : spec_l03Only.k_14 i_4 xs_9 i_10 q_13 = some y_1689 := h
       rw [spec_l03Only.k_14] at h
       refine jx_then (qi h (fun h => ?_) (fun h => ?_))
       ·refine jc_region (qh [0,0,0,0] (tO (p_bs 0 94 2 1 encA2I64 [(.agg (row encI64 (Arr.set (Arr.set (Arr.rep 2 0) 0 i_4) 1 i_10).1 []).toArray)] [(Arr.set (Arr.set (Arr.rep 2 0) 0 i_4) 1 i_10)] (by kernel_rfl) (by kernel_rfl) rfl (by kernel_rfl) (by kernel_rfl) encA2I64_len (fun b_1696 => jkO ?_))))
        obtain ⟨hg_1697, h⟩ := gd h
        exact tO (p_apn 0 1 o_1682 94 xs_9.length 1 cap_1683 2 16 (some ⟨b_1696, 0, none⟩) encA2I64 xs_9 ([(Arr.set (Arr.set (Arr.rep 2 0) 0 i_4) 1 i_10)] : List (Arr 2 Int)) sp_1684 (.agg (row encI64 (Arr.rep 2 0).1 []).toArray) rfl rfl (by kernel_rfl) (by kernel_rfl) (by kernel_rfl) encA2I64_len encA2I64_cell hs_1686 ho_1687 (fun w hm => (hm.ow 2 (some b_1696) 94 ([(Arr.set (Arr.set (Arr.rep 2 0) 0 i_4) 1 i_10)] : List (Arr 2 Int)) [] (fun e => nomatch e) encA2I64_len)) hg_1697 (by kernel_rfl) (by kernel_rfl) (fun o_1698 cap_1699 sp_1700 hs_1701 ho_1702 => jkO (qh [0] (qe (jx_inn (jx_then (jc_region (qh [0,0,0] (qe (qb ((xs_9 ++ ([(Arr.set (Arr.set (Arr.rep 2 0) 0 i_4) 1 i_10)] : List (Arr 2 Int))), (w64 (i_10 + 1))) ⟨o_1698, cap_1699, sp_1700, (xs_9 ++ ([(Arr.set (Arr.set (Arr.rep 2 0) 0 i_4) 1 i_10)] : List (Arr 2 Int))).length⟩ h ⟨rfl, hs_1701, ho_1702⟩ [0, 1]))))))))))
       ·exact jc_skip (jx_inn (jx_then (jc_region (qh [0,0,0] (qe (qb (xs_9, (w64 (i_10 + 1))) ⟨o_1682, cap_1683, sp_1684, xs_9.length⟩ h ⟨rfl, hs_1686, ho_1687⟩ [0, 1]))))))
     ·refine jc_exit (jx_thenx (jx_leave xs_9 (Option.some.inj h).symm (fun e_1706 => ?_)))
      subst e_1706
      exact jx_ine (qm ⟨xs_9, o_1682, cap_1683, sp_1684, xs_9.length⟩ ⟨hr_1688, rfl, hs_1686, ho_1687⟩ [0, 1])
    ·rintro ⟨xs_7, o_1638, cap_1639, sp_1640, n_1641⟩ ⟨h, rfl, hs_1642, ho_1643⟩
     replace h : spec_l03Only.k_8 i_4 xs_7 = some y_1571 := h
     rw [spec_l03Only.k_8] at h
     exact jx_inn (jx_then (jc_region (qh [0,0,0] (qe (qb (xs_7, (w64 (i_4 + 1))) ⟨o_1638, cap_1639, sp_1640, xs_7.length⟩ h ⟨rfl, hs_1642, ho_1643⟩ [0, 1])))))
   ·refine jc_exit (jx_thenx (jx_leave xs_3 (Option.some.inj h).symm (fun e_1708 => ?_)))
    subst e_1708
    exact jx_ine (qm ⟨xs_3, o_1564, cap_1565, sp_1566, xs_3.length⟩ ⟨hr_1570, rfl, hs_1568, ho_1569⟩ [0, 1])
  ·rintro ⟨xs_1, o_1280, cap_1281, sp_1282, n_1283⟩ ⟨h, rfl, hs_1284, ho_1285⟩
   replace h : spec_l03Only.k_2 xs_1 = some r := h
   rw [spec_l03Only.k_2] at h
   refine jx_then (jc_seq (jc_region (qh [0,0] (qe (jx_then (jc_ret ?_))))))
   obtain rfl := Option.some.inj h
   exact qr [] (fun w hm => ⟨o_1280, cap_1281, sp_1282, xs_1.length, rfl, hs_1284, ho_1285, rfl, hm.pk [0, 1]⟩)
/-! ### spec.MovesBetween -/
def spec_MovesBetween.k_2 (f0 : GFrame) (a1 : Arr 96 Int) (b2 : Arr 96 Int) (q_1 : Bool) : Option ((List (Arr 2 Int)) × (List (Arr 2 Int)) × Int) := (if q_1 = true then some (([] : List (Arr 2 Int)), ([] : List (Arr 2 Int)), 1) else (spec_l03Only f0 a1 b2).bind fun t_3 => (spec_l03Only f0 b2 a1).bind fun t_4 => some (t_3, t_4, 0))
def spec_MovesBetween (f0 : GFrame) (a1 : Arr 96 Int) (b2 : Arr 96 Int) : Option ((List (Arr 2 Int)) × (List (Arr 2 Int)) × Int) := (spec_l02Frame f0).bind fun t_5 => (if (!t_5) = true then spec_MovesBetween.k_2 f0 a1 b2 true else (spec_l02Drum f0 a1).bind fun t_6 => (if (!t_6) = true then spec_MovesBetween.k_2 f0 a1 b2 true else (spec_l02Drum f0 b2).bind fun t_7 => spec_MovesBetween.k_2 f0 a1 b2 (!t_7)))
theorem spec_MovesBetween.calls (f0 : GFrame) (a1 : Arr 96 Int) (b2 : Arr 96 Int) (w : World) (r : (List (Arr 2 Int)) × (List (Arr 2 Int)) × Int) {C_a : Option Addr} {C_an : Nat} (C_c : Nat) (C_h : Rw w C_a 2 encGHammer f0.fHammers) (C_hn : f0.fHammers.length = C_an) (h : spec_MovesBetween f0 a1 b2 = some r) :
    Calls Tryz.prog 12 #[(.agg #[(.int .i16 f0.fSteps), (.slice C_a C_an C_c)]), (.agg (row encU32 a1.1 []).toArray), (.agg (row encU32 b2.1 []).toArray)] w fun e w' => ∃ v, e = .returned v ∧ (∃ (o0 : Option Nat) (c0 : Nat) (s0 : List Value) (n0 : Nat), r.1.length = n0 ∧ (o0 ≠ none → n0 ≤ c0 ∧ s0.length = (c0 - n0) * 2) ∧ (o0 = none → r.1 = [] ∧ c0 = 0) ∧ ∃ (o1 : Option Nat) (c1 : Nat) (s1 : List Value) (n1 : Nat), r.2.1.length = n1 ∧ (o1 ≠ none → n1 ≤ c1 ∧ s1.length = (c1 - n1) * 2) ∧ (o1 = none → r.2.1 = [] ∧ c1 = 0) ∧ v = .tuple #[.slice (o0.map fun b => ⟨b, 0, none⟩) n0 c0, .slice (o1.map fun b => ⟨b, 0, none⟩) n1 c1, (.int .i64 r.2.2)] ∧ Mem w [] [⟨o0, 94, row encA2I64 r.1 s0⟩, ⟨o1, 94, row encA2I64 r.2.1 s1⟩] w') := by
  subst C_hn
  rw [spec_MovesBetween] at h
  refine enter (args := [(.agg #[(.int .i16 f0.fSteps), (.slice C_a f0.fHammers.length C_c)]), (.agg (row encU32 a1.1 []).toArray), (.agg (row encU32 b2.1 []).toArray)]) Tryz.func12 rfl Tryz.ntmps12 (by kernel_rfl) (L := []) (W := []) (Mem.start w) ?_
  refine jc_seq (jc_region (tO (qa 0 (fun b_1 => jkO (tO (qa 0 (fun b_2 => jkO (tO (qa 0 (fun b_3 => jkO (qh [0,0,0] (qe (jx_then (jc_seq (jc_seq (jc_meet (fun (j : Bool) => match j with | q_1 => spec_MovesBetween.k_2 f0 a1 b2 q_1 = some r) (fun (j : Bool) => match j with | q_1 => [(3, [], (.pointer (some ⟨b_1, 0, none⟩))), (4, [], (.pointer (some ⟨b_2, 0, none⟩))), (5, [], (.pointer (some ⟨b_3, 0, none⟩))), (6, [], (.slice none 0 0)), (7, [], (.slice none 0 0)), (8, [], (.int .i64 0)), (18, [], (.bool q_1))]) (fun (j : Bool) => match j with | q_1 => [⟨some b_1, 27, [(.int .i16 f0.fSteps), (.slice C_a f0.fHammers.length C_c)]⟩, ⟨(some b_2), 34, row encU32 a1.1 []⟩, ⟨(some b_3), 34, row encU32 b2.1 []⟩]) ?_ ?_))))))))))))))))
  ·refine jc_region ?_
   obtain ⟨t_5, ht_37, h⟩ := bd h
   refine tO (pc 0 (fun w hm => spec_l02Frame.calls f0 w _ C_c (hm.xr C_h) rfl b_1 (hm.pass (N := [⟨some b_1, 27, [(.int .i16 f0.fSteps), (.slice C_a f0.fHammers.length C_c)]⟩]) [0] (by kernel_rfl) (by kernel_rfl)) (hm.exApart (N := [⟨some b_1, 27, [(.int .i16 f0.fSteps), (.slice C_a f0.fHammers.length C_c)]⟩]) C_h (fun _ => List.not_mem_nil) [0] (by kernel_rfl)) ht_37) ?_)
   rintro w v w' hm ⟨rfl, hm'⟩
   refine ⟨_, hm.appW (ps := [(0, ⟨some b_1, 27, [(.int .i16 f0.fSteps), (.slice C_a f0.fHammers.length C_c)]⟩)]) (N := []) hm' (by kernel_rfl) (by kernel_rfl), jkO ?_⟩
   clear hm hm'
   refine qh [0,0] (qp 11 h (fun h => ?_) (fun h => ?_))
   ·exact qf [(0, 3), (0, 3), (0, 4), (0, 0), (0, 3), (0, 3), (0, 4)] (qe (qm true h [0, 1, 2]))
   ·obtain ⟨t_6, ht_39, h⟩ := bd h
    refine tO (pc 2 (fun w hm => spec_l02Drum.calls f0 a1 w _ C_c (hm.xr C_h) rfl (hm.ow 1 (some b_2) 34 a1.1 [] (fun e => nomatch e) encU32_len) b_1 (hm.pass (N := [⟨some b_1, 27, [(.int .i16 f0.fSteps), (.slice C_a f0.fHammers.length C_c)]⟩]) [0] (by kernel_rfl) (by kernel_rfl)) (hm.exApart (N := [⟨some b_1, 27, [(.int .i16 f0.fSteps), (.slice C_a f0.fHammers.length C_c)]⟩]) C_h (fun _ => List.not_mem_nil) [0] (by kernel_rfl)) (hm.ownApart (S := Int) (N := [⟨some b_1, 27, [(.int .i16 f0.fSteps), (.slice C_a f0.fHammers.length C_c)]⟩]) (hh := 1) (o := (some b_2)) (T := 34) (cs := row encU32 a1.1 []) (xs := a1.1) (by kernel_rfl) (fun e => nomatch e) [0] (by kernel_rfl) (by kernel_rfl)) ht_39) ?_)
    rintro w v w' hm ⟨rfl, hm'⟩
    refine ⟨_, hm.appW (ps := [(0, ⟨some b_1, 27, [(.int .i16 f0.fSteps), (.slice C_a f0.fHammers.length C_c)]⟩)]) (N := []) hm' (by kernel_rfl) (by kernel_rfl), jkO ?_⟩
    clear hm hm'
    refine qf [(0, 2), (0, 5), (0, 0)] (qp 15 h (fun h => ?_) (fun h => ?_))
    ·exact qf [(0, 3), (0, 3), (0, 4)] (qe (qm true h [0, 1, 2]))
    ·obtain ⟨t_7, ht_41, h⟩ := bd h
     refine tO (pc 2 (fun w hm => spec_l02Drum.calls f0 b2 w _ C_c (hm.xr C_h) rfl (hm.ow 2 (some b_3) 34 b2.1 [] (fun e => nomatch e) encU32_len) b_1 (hm.pass (N := [⟨some b_1, 27, [(.int .i16 f0.fSteps), (.slice C_a f0.fHammers.length C_c)]⟩]) [0] (by kernel_rfl) (by kernel_rfl)) (hm.exApart (N := [⟨some b_1, 27, [(.int .i16 f0.fSteps), (.slice C_a f0.fHammers.length C_c)]⟩]) C_h (fun _ => List.not_mem_nil) [0] (by kernel_rfl)) (hm.ownApart (S := Int) (N := [⟨some b_1, 27, [(.int .i16 f0.fSteps), (.slice C_a f0.fHammers.length C_c)]⟩]) (hh := 2) (o := (some b_3)) (T := 34) (cs := row encU32 b2.1 []) (xs := b2.1) (by kernel_rfl) (fun e => nomatch e) [0] (by kernel_rfl) (by kernel_rfl)) ht_41) ?_)
     rintro w v w' hm ⟨rfl, hm'⟩
     refine ⟨_, hm.appW (ps := [(0, ⟨some b_1, 27, [(.int .i16 f0.fSteps), (.slice C_a f0.fHammers.length C_c)]⟩)]) (N := []) hm' (by kernel_rfl) (by kernel_rfl), jkO ?_⟩
     clear hm hm'
     exact qf [(0, 2), (0, 5)] (qe (qm (!t_7) h [0, 1, 2]))
  ·rintro q_1 h
   replace h : spec_MovesBetween.k_2 f0 a1 b2 q_1 = some r := h
   rw [spec_MovesBetween.k_2] at h
   refine jx_then (qi h (fun h => ?_) (fun h => ?_))
   ·refine jc_seq (jc_region (tO (qa 0 (fun b_23 => jkO (tO (qa 0 (fun b_24 => jkO (qh [0,0,0] (qe (jx_then (jc_ret (jx_thenr ?_))))))))))))
    obtain rfl := Option.some.inj h
    exact qr [] (fun w hm => ⟨(some b_23), 0, [], 0, rfl, (fun _ => ⟨Nat.le_refl _, by simp⟩), (fun e => nomatch e), (some b_24), 0, [], 0, rfl, (fun _ => ⟨Nat.le_refl _, by simp⟩), (fun e => nomatch e), rfl, hm.pk [3, 4]⟩)
   ·refine jc_skip (jx_then (jc_seq (jc_region ?_)))
    obtain ⟨t_3, ht_25, h⟩ := bd h
    refine tO (pc 0 (fun w hm => spec_l03Only.calls f0 a1 b2 w _ C_c (hm.xr C_h) rfl (hm.ow 1 (some b_2) 34 a1.1 [] (fun e => nomatch e) encU32_len) (hm.ow 2 (some b_3) 34 b2.1 [] (fun e => nomatch e) encU32_len) b_1 (hm.pass (N := [⟨some b_1, 27, [(.int .i16 f0.fSteps), (.slice C_a f0.fHammers.length C_c)]⟩]) [0] (by kernel_rfl) (by kernel_rfl)) (hm.exApart (N := [⟨some b_1, 27, [(.int .i16 f0.fSteps), (.slice C_a f0.fHammers.length C_c)]⟩]) C_h (fun _ => List.not_mem_nil) [0] (by kernel_rfl)) (hm.ownApart (S := Int) (N := [⟨some b_1, 27, [(.int .i16 f0.fSteps), (.slice C_a f0.fHammers.length C_c)]⟩]) (hh := 1) (o := (some b_2)) (T := 34) (cs := row encU32 a1.1 []) (xs := a1.1) (by kernel_rfl) (fun e => nomatch e) [0] (by kernel_rfl) (by kernel_rfl)) (hm.ownApart (S := Int) (N := [⟨some b_1, 27, [(.int .i16 f0.fSteps), (.slice C_a f0.fHammers.length C_c)]⟩]) (hh := 2) (o := (some b_3)) (T := 34) (cs := row encU32 b2.1 []) (xs := b2.1) (by kernel_rfl) (fun e => nomatch e) [0] (by kernel_rfl) (by kernel_rfl)) ht_25) ?_)
    rintro w v w' hm ⟨o_26, cap_27, sp_28, _, rfl, hs_29, ho_30, rfl, hm'⟩
    refine ⟨_, hm.appW (ps := [(0, ⟨some b_1, 27, [(.int .i16 f0.fSteps), (.slice C_a f0.fHammers.length C_c)]⟩)]) (N := [⟨o_26, 94, row encA2I64 t_3 sp_28⟩]) hm' (by kernel_rfl) (by kernel_rfl), jkO ?_⟩
    clear hm hm'
    obtain ⟨t_4, ht_31, h⟩ := bd h
    refine tO (pc 0 (fun w hm => spec_l03Only.calls f0 b2 a1 w _ C_c (hm.xr C_h) rfl (hm.ow 2 (some b_3) 34 b2.1 [] (fun e => nomatch e) encU32_len) (hm.ow 1 (some b_2) 34 a1.1 [] (fun e => nomatch e) encU32_len) b_1 (hm.pass (N := [⟨some b_1, 27, [(.int .i16 f0.fSteps), (.slice C_a f0.fHammers.length C_c)]⟩]) [0] (by kernel_rfl) (by kernel_rfl)) (hm.exApart (N := [⟨some b_1, 27, [(.int .i16 f0.fSteps), (.slice C_a f0.fHammers.length C_c)]⟩]) C_h (fun _ => List.not_mem_nil) [0] (by kernel_rfl)) (hm.ownApart (S := Int) (N := [⟨some b_1, 27, [(.int .i16 f0.fSteps), (.slice C_a f0.fHammers.length C_c)]⟩]) (hh := 2) (o := (some b_3)) (T := 34) (cs := row encU32 b2.1 []) (xs := b2.1) (by kernel_rfl) (fun e => nomatch e) [0] (by kernel_rfl) (by kernel_rfl)) (hm.ownApart (S := Int) (N := [⟨some b_1, 27, [(.int .i16 f0.fSteps), (.slice C_a f0.fHammers.length C_c)]⟩]) (hh := 1) (o := (some b_2)) (T := 34) (cs := row encU32 a1.1 []) (xs := a1.1) (by kernel_rfl) (fun e => nomatch e) [0] (by kernel_rfl) (by kernel_rfl)) ht_31) ?_)
    rintro w v w' hm ⟨o_32, cap_33, sp_34, _, rfl, hs_35, ho_36, rfl, hm'⟩
    refine ⟨_, hm.appW (ps := [(0, ⟨some b_1, 27, [(.int .i16 f0.fSteps), (.slice C_a f0.fHammers.length C_c)]⟩)]) (N := [⟨o_32, 94, row encA2I64 t_4 sp_34⟩]) hm' (by kernel_rfl) (by kernel_rfl), jkO ?_⟩
    clear hm hm'
    refine qh [0,0,0] (qe (jx_then (jc_ret ?_)))
    obtain rfl := Option.some.inj h
    exact qr [] (fun w hm => ⟨o_26, cap_27, sp_28, t_3.length, rfl, hs_29, ho_30, o_32, cap_33, sp_34, t_4.length, rfl, hs_35, ho_36, rfl, hm.pk [3, 4]⟩)
def lay_grow96_ren : Go.Shelf.Ren := ⟨fun | 4 => 96 | n => n, fun | 22 => 40 | 25 => 94 | 3 => 3 | 4 => 4 | 9 => 9 | 20 => 20 | 0 => 0 | n => n, fun | n => n⟩
theorem lay_grow96 : Go.Proofs.Lays8.n4 Tryz.prog lay_grow96_ren where
  mixed := by kernel_rfl
  f4 := ⟨ "slices.Grow[[][2]int64,[2]int64]", by decide, Tryz.func96.trans (congrArg some (by kernel_rfl))⟩
  t0 := Tryz.underlying0
  a0 := Tryz.isAgg0
  z0 := Tryz.sizeOf0
  v0 := Tryz.zeroValue0
  t3 := Tryz.underlying3
  a3 := Tryz.isAgg3
  z3 := Tryz.sizeOf3
  v3 := Tryz.zeroValue3
  t4 := Tryz.underlying4
  a4 := Tryz.isAgg4
  z4 := Tryz.sizeOf4
  v4 := Tryz.zeroValue4
  t9 := Tryz.underlying9
  a9 := Tryz.isAgg9
  z9 := Tryz.sizeOf9
  v9 := Tryz.zeroValue9
  t20 := Tryz.underlying20
  a20 := Tryz.isAgg20
  z20 := Tryz.sizeOf20
  v20 := Tryz.zeroValue20
  t22 := Tryz.underlying40
  a22 := Tryz.isAgg40
  z22 := Tryz.sizeOf40
  v22 := Tryz.zeroValue40
/-! ### slices.Grow -/
theorem grow96.calls (n : Int) (w : World) (r : List (Arr 2 Int)) (h : growF n = some r) :
    Calls Tryz.prog 96 #[.slice none 0 0, .int .i64 n] w fun e w' => ∃ v, e = .returned v ∧ (∃ (o0 : Option Nat) (c0 : Nat) (s0 : List Value) (n0 : Nat), r.length = n0 ∧ (o0 ≠ none → n0 ≤ c0 ∧ s0.length = (c0 - n0) * 2) ∧ (o0 = none → r = [] ∧ c0 = 0) ∧ v = .slice (o0.map fun b => ⟨b, 0, none⟩) n0 c0 ∧ Mem w [] [⟨o0, 94, row encA2I64 r s0⟩] w') :=
  grow_calls lay_grow96 encA2I64 2 (by decide) (by kernel_rfl) n w r h
/-! ### slices.Concat[[][2]int64,[2]int64] -/
def slices_Concat_2int64.k_5 (xs_4 : List (Arr 2 Int)) : Option ((List (Arr 2 Int))) := some xs_4
def slices_Concat_2int64.l_8 (slices0 : List (List (Arr 2 Int))) : ((List (Arr 2 Int)) × Int) → Option (((List (Arr 2 Int)) × Int) ⊕ ((List (Arr 2 Int))))
  | (xs_6, i_7) => (if (decide (i_7 < (slices0.length : Int))) = true then (ix slices0 i_7).bind fun x_10 => (if xs_6.length + x_10.length ≤ 4294967296 then some (.inl ((xs_6 ++ x_10), (w64 (i_7 + 1)))) else none) else some (.inr xs_6))
def slices_Concat_2int64.k_2 (slices0 : List (List (Arr 2 Int))) (i_1 : Int) : Option ((List (Arr 2 Int))) := ((growF i_1 : Option (List (Arr 2 Int)))).bind fun t_3 => (loop (slices_Concat_2int64.l_8 slices0) (t_3, 0)).bind fun t_9 => slices_Concat_2int64.k_5 t_9
def slices_Concat_2int64.l_13 (slices0 : List (List (Arr 2 Int))) : (Int × Int) → Option ((Int × Int) ⊕ (Int))
  | (i_11, i_12) => (if (decide (i_12 < (slices0.length : Int))) = true then (ix slices0 i_12).bind fun x_15 => (if (decide ((w64 (i_11 + (x_15.length : Int))) < 0)) = true then none else some (.inl ((w64 (i_11 + (x_15.length : Int))), (w64 (i_12 + 1))))) else some (.inr i_11))
def slices_Concat_2int64 (slices0 : List (List (Arr 2 Int))) : Option ((List (Arr 2 Int))) := (loop (slices_Concat_2int64.l_13 slices0) (0, 0)).bind fun t_14 => slices_Concat_2int64.k_2 slices0 t_14
theorem slices_Concat_2int64.calls (slices0 : List (List (Arr 2 Int))) (w : World) (r : (List (Arr 2 Int))) {A_a : Option Addr} {A_an : Nat} (A_c : Nat) {A_hs : List Hd} (A_h : Rw w A_a 1 encHd A_hs) (A_hn : slices0.length = A_an) (A_i : Inn w [] 2 encA2I64 A_hs slices0) (h : slices_Concat_2int64 slices0 = some r) :
    Calls Tryz.prog 46 #[(.slice A_a A_an A_c)] w fun e w' => ∃ v, e = .returned v ∧ (∃ (o0 : Option Nat) (c0 : Nat) (s0 : List Value) (n0 : Nat), r.length = n0 ∧ (o0 ≠ none → n0 ≤ c0 ∧ s0.length = (c0 - n0) * 2) ∧ (o0 = none → r = [] ∧ c0 = 0) ∧ v = .slice (o0.map fun b => ⟨b, 0, none⟩) n0 c0 ∧ Mem w [] [⟨o0, 94, row encA2I64 r s0⟩] w') := by
  subst A_hn
  rw [slices_Concat_2int64] at h
  refine enter (args := [(.slice A_a slices0.length A_c)]) Tryz.func46 rfl Tryz.ntmps46 (by kernel_rfl) (L := []) (W := []) (Mem.start w) ?_
  refine jc_seq (jc_region (qh [0] (qe (jx_then (jc_seq (jc_region (qh [0] (qe (jx_then (jc_seq (jc_seq (jc_region (qh [0,0,0] (qe (jx_then (jc_meet (fun (j : Int) => match j with | i_1 => slices_Concat_2int64.k_2 slices0 i_1 = some r) (fun (j : Int) => match j with | i_1 => [(0, [], (.slice A_a slices0.length A_c)), (2, [], (.slice none 0 0)), (3, [], (.int .i64 i_1))]) (fun (j : Int) => match j with | i_1 => []) ?_ ?_))))))))))))))))
  ·refine jc_block ?_
   obtain ⟨t_14, ht_254, hr_247⟩ := bd h
   refine jc_loop (fun (s : Int × Int) (x : Unit) => match s, x with | ⟨i_11, i_12⟩, _ => True) (fun (s : Int × Int) (x : Unit) => match s, x with | ⟨i_11, i_12⟩, _ => [(0, [], (.slice A_a slices0.length A_c)), (2, [], (.slice none 0 0)), (3, [], (.int .i64 i_11)), (9, [], (.slice A_a slices0.length A_c)), (10, [], (.int .i64 (slices0.length : Int))), (11, [], (.int .i64 i_12))]) (fun (s : Int × Int) (x : Unit) => match s, x with | ⟨i_11, i_12⟩, _ => []) ht_254 () trivial (by kernel_rfl) [] (by kernel_rfl) (by kernel_rfl) ?_
   rintro ⟨i_11, i_12⟩ _ y_248 _ h
   rw [slices_Concat_2int64.l_13] at h
   refine jc_seq (jc_region (qh [0] (qe (jx_then (jc_seq (qi h (fun h => ?_) (fun h => ?_)))))))
   ·refine jc_skip (jx_then (jc_seq (jc_block (jc_seq (jc_region ?_)))))
    obtain ⟨x_15, hx_251, h⟩ := bd h
    refine tO (qx 0 A_a 1 hx_251 rfl (A_h.sp (A_i.ixh hx_251)) (jkO (tO (ql 0 false (fun w hm => ((hm.xr A_h).at (A_i.ixh hx_251))) (jkO (qh [0] (qe (jx_then (jc_seq (jc_region (qh [0,0] (tO (p_val 0 (.int .i64 (((hd A_hs i_12).n : Nat) : Int)) (.int .i64 (x_15.length : Int)) (by kernel_rfl) (by kernel_rfl) (congrArg (fun z : Nat => Value.int .i64 (z : Int)) (Eq.symm (A_i.get hx_251).2.1)) (jkO (qh [0,0] (qe (jx_then (jc_seq (jc_region (qh [0,0] (qe (jx_then (qi h (fun h => ?_) (fun h => ?_))))))))))))))))))))))))
    ·refine jc_region ?_
     cases h
    ·exact jc_skip (jx_inn (jx_then (jc_region (qh [0,0] (qe (qb ((w64 (i_11 + (x_15.length : Int))), (w64 (i_12 + 1))) () h trivial []))))))
   ·refine jc_exit (jx_thenx (jx_leave i_11 (Option.some.inj h).symm (fun e_253 => ?_)))
    subst e_253
    exact jx_ine (qm i_11 hr_247 [])
  ·rintro i_1 h
   replace h : slices_Concat_2int64.k_2 slices0 i_1 = some r := h
   rw [slices_Concat_2int64.k_2] at h
   refine jx_then (jc_seq (jc_region (qh [0] ?_)))
   obtain ⟨t_3, ht_49, h⟩ := bd h
   refine tO (pc 0 (fun w hm => grow96.calls i_1 w _ ht_49) ?_)
   rintro w v w' hm ⟨o_50, cap_51, sp_52, _, rfl, hs_53, ho_54, rfl, hm'⟩
   refine ⟨_, hm.app hm', jkO ?_⟩
   clear hm hm'
   refine qh [0] (qe (jx_then (jc_seq (jc_seq (jc_region (qh [0,0,0] (qe (jx_then (jc_meet (fun (j : (List (Arr 2 Int)) × (Option Nat) × Nat × (List Value) × Nat) => match j with | ⟨xs_4, o_190, cap_191, sp_192, n_193⟩ => slices_Concat_2int64.k_5 xs_4 = some r ∧ (xs_4.length = n_193) ∧ ((o_190 ≠ none → n_193 ≤ cap_191 ∧ sp_192.length = (cap_191 - n_193) * 2)) ∧ ((o_190 = none → xs_4 = [] ∧ cap_191 = 0))) (fun (j : (List (Arr 2 Int)) × (Option Nat) × Nat × (List Value) × Nat) => match j with | ⟨xs_4, o_190, cap_191, sp_192, n_193⟩ => [(2, [], (.slice none 0 0)), (6, [], (.slice (o_190.map fun b => ⟨b, 0, none⟩) n_193 cap_191))]) (fun (j : (List (Arr 2 Int)) × (Option Nat) × Nat × (List Value) × Nat) => match j with | ⟨xs_4, o_190, cap_191, sp_192, n_193⟩ => [⟨o_190, 94, row encA2I64 xs_4 sp_192⟩]) ?_ ?_)))))))))
   ·refine jc_block ?_
    obtain ⟨t_9, ht_238, hr_226⟩ := bd h
    refine jc_loop (fun (s : (List (Arr 2 Int)) × Int) (x : (Option Nat) × Nat × (List Value) × Nat) => match s, x with | ⟨xs_6, i_7⟩, ⟨o_220, cap_221, sp_222, n_223⟩ => (xs_6.length = n_223) ∧ ((o_220 ≠ none → n_223 ≤ cap_221 ∧ sp_222.length = (cap_221 - n_223) * 2)) ∧ ((o_220 = none → xs_6 = [] ∧ cap_221 = 0))) (fun (s : (List (Arr 2 Int)) × Int) (x : (Option Nat) × Nat × (List Value) × Nat) => match s, x with | ⟨xs_6, i_7⟩, ⟨o_220, cap_221, sp_222, n_223⟩ => [(2, [], (.slice none 0 0)), (6, [], (.slice (o_220.map fun b => ⟨b, 0, none⟩) n_223 cap_221)), (25, [], (.slice A_a slices0.length A_c)), (26, [], (.int .i64 (slices0.length : Int))), (27, [], (.int .i64 i_7))]) (fun (s : (List (Arr 2 Int)) × Int) (x : (Option Nat) × Nat × (List Value) × Nat) => match s, x with | ⟨xs_6, i_7⟩, ⟨o_220, cap_221, sp_222, n_223⟩ => [⟨o_220, 94, row encA2I64 xs_6 sp_222⟩]) ht_238 ⟨o_50, cap_51, sp_52, t_3.length⟩ ⟨rfl, hs_53, ho_54⟩ (by kernel_rfl) [0] (by kernel_rfl) (by kernel_rfl) ?_
    rintro ⟨xs_6, i_7⟩ ⟨o_220, cap_221, sp_222, n_223⟩ y_227 ⟨rfl, hs_224, ho_225⟩ h
    rw [slices_Concat_2int64.l_8] at h
    refine jc_seq (jc_region (qh [0] (qe (jx_then (jc_seq (qi h (fun h => ?_) (fun h => ?_)))))))
    ·refine jc_skip (jx_then (jc_seq (jc_block (jc_seq (jc_region ?_)))))
     obtain ⟨x_10, hx_230, h⟩ := bd h
     refine tO (qx 0 A_a 1 hx_230 rfl (A_h.sp (A_i.ixh hx_230)) (jkO (tO (ql 0 false (fun w hm => ((hm.xr A_h).at (A_i.ixh hx_230))) (jkO (qh [0] (qe (jx_then (jc_region (qh [0,0] ?_))))))))))
     obtain ⟨hg_231, h⟩ := gd h
     exact tO (p_apn 0 0 o_220 94 xs_6.length ((hd A_hs i_7).n) cap_221 2 16 (hd A_hs i_7).a encA2I64 xs_6 x_10 sp_222 (.agg (row encI64 (Arr.rep 2 0).1 []).toArray) rfl (A_i.get hx_230).2.1 (by kernel_rfl) (by kernel_rfl) (by kernel_rfl) encA2I64_len encA2I64_cell hs_224 ho_225 (fun w hm => (hm.exRow (A_i.get hx_230).1 List.not_mem_nil)) hg_231 (by kernel_rfl) (by kernel_rfl) (fun o_232 cap_233 sp_234 hs_235 ho_236 => jkO (qh [0] (qe (jx_inn (jx_then (jc_region (qh [0,0] (qe (qb ((xs_6 ++ x_10), (w64 (i_7 + 1))) ⟨o_232, cap_233, sp_234, (xs_6 ++ x_10).length⟩ h ⟨rfl, hs_235, ho_236⟩ [0]))))))))))
    ·refine jc_exit (jx_thenx (jx_leave xs_6 (Option.some.inj h).symm (fun e_237 => ?_)))
     subst e_237
     exact jx_ine (qm ⟨xs_6, o_220, cap_221, sp_222, xs_6.length⟩ ⟨hr_226, rfl, hs_224, ho_225⟩ [0])
   ·rintro ⟨xs_4, o_190, cap_191, sp_192, n_193⟩ ⟨h, rfl, hs_194, ho_195⟩
    replace h : slices_Concat_2int64.k_5 xs_4 = some r := h
    rw [slices_Concat_2int64.k_5] at h
    refine jx_then (jc_seq (jc_region (qh [0,0] (qe (jx_then (jc_ret ?_))))))
    obtain rfl := Option.some.inj h
    exact qr [] (fun w hm => ⟨o_190, cap_191, sp_192, xs_4.length, rfl, hs_194, ho_195, rfl, hm.pk [0]⟩)
/-! ### (impl.Frame).isPlace -/
def impl_Frame_isPlace (f0 : GFrame) (step1 : Int) (track2 : Int) : Option (Bool) := (impl_within step1 0 (w64 ((w64 f0.fSteps) - 1))).bind fun t_1 => (if t_1 = true then (impl_size_Hammer f0.fHammers).bind fun t_2 => (impl_within track2 0 (w64 (t_2 - 1))).bind fun t_3 => some t_3 else some false)
theorem impl_Frame_isPlace.calls (f0 : GFrame) (step1 : Int) (track2 : Int) (w : World) (r : Bool) {C_a : Option Addr} {C_an : Nat} (C_c : Nat) (C_h : Rw w C_a 2 encGHammer f0.fHammers) (C_hn : f0.fHammers.length = C_an) (h : impl_Frame_isPlace f0 step1 track2 = some r) :
    Calls Tryz.prog 48 #[(.agg #[(.int .i16 f0.fSteps), (.slice C_a C_an C_c)]), (.int .i64 step1), (.int .i64 track2)] w fun e w' => ∃ v, e = .returned v ∧ (v = (.bool r) ∧ Mem w [] [] w') := by
  subst C_hn
  rw [impl_Frame_isPlace] at h
  refine enter (args := [(.agg #[(.int .i16 f0.fSteps), (.slice C_a f0.fHammers.length C_c)]), (.int .i64 step1), (.int .i64 track2)]) Tryz.func48 rfl Tryz.ntmps48 (by kernel_rfl) (L := []) (W := []) (Mem.start w) ?_
  refine jc_seq (jc_region (tO (qa 0 (fun b_1 => jkO (qh [0] (qe (jx_then (jc_seq (jc_region (qh [0,0,0,0,0] ?_))))))))))
  obtain ⟨t_1, ht_2, h⟩ := bd h
  refine tO (pc 0 (fun w hm => impl_within.calls step1 0 (w64 ((w64 f0.fSteps) - 1)) w _ ht_2) ?_)
  rintro w v w' hm ⟨rfl, hm'⟩
  refine ⟨_, hm.app hm', jkO ?_⟩
  clear hm hm'
  refine qf [(0, 0), (0, 1), (0, 1), (0, 1)] (qp 13 h (fun h => ?_) (fun h => ?_))
  ·obtain ⟨t_2, ht_4, h⟩ := bd h
   refine tO (pc 2 (fun w hm => impl_size_Hammer.calls f0.fHammers w _ C_c (hm.xr C_h) rfl ht_4) ?_)
   rintro w v w' hm ⟨rfl, hm'⟩
   refine ⟨_, hm.app hm', jkO ?_⟩
   clear hm hm'
   refine qf [(0, 2)] ?_
   obtain ⟨t_3, ht_5, h⟩ := bd h
   refine tO (pc 2 (fun w hm => impl_within.calls track2 0 (w64 (t_2 - 1)) w _ ht_5) ?_)
   rintro w v w' hm ⟨rfl, hm'⟩
   refine ⟨_, hm.app hm', jkO ?_⟩
   clear hm hm'
   refine qf [(0, 4), (0, 0)] (qe (jx_then (jc_ret ?_)))
   obtain rfl := Option.some.inj h
   exact qr [] (fun w hm => ⟨rfl, hm.pk []⟩)
  ·refine qf [(0, 3), (0, 3), (0, 3), (0, 5), (0, 0)] (qe (jx_then (jc_ret ?_)))
   obtain rfl := Option.some.inj h
   exact qr [] (fun w hm => ⟨rfl, hm.pk []⟩)
/-! ### impl.ApplyMoves$1 -/
def impl_ApplyMoves_1 (p0 : Arr 2 Int) (p1 : GFrame) : Option (Bool) := (ix p0.1 0).bind fun x_1 => (ix p0.1 1).bind fun x_2 => (impl_Frame_isPlace p1 x_1 x_2).bind fun t_3 => some (!t_3)
theorem impl_ApplyMoves_1.calls (p0 : Arr 2 Int) (p1 : GFrame) (w : World) (r : Bool) {D_a : Option Addr} {D_an : Nat} (D_c : Nat) (D_h : Rw w D_a 2 encGHammer p1.fHammers) (D_hn : p1.fHammers.length = D_an) (B_b : Nat) (hm0 : Mem w (bs [some B_b]) [⟨some B_b, 27, [(.int .i16 p1.fSteps), (.slice D_a D_an D_c)]⟩] w) (D_ha : p1.fHammers ≠ [] → aB D_a ∉ bs [some B_b]) (h : impl_ApplyMoves_1 p0 p1 = some r) :
    Calls Tryz.prog 47 #[(.agg (row encI64 p0.1 []).toArray), (.pointer (some ⟨B_b, 0, none⟩))] w fun e w' => ∃ v, e = .returned v ∧ (v = (.bool r) ∧ Mem w (bs [some B_b]) [⟨some B_b, 27, [(.int .i16 p1.fSteps), (.slice D_a D_an D_c)]⟩] w') := by
  subst D_hn
  rw [impl_ApplyMoves_1] at h
  refine enter (args := [(.agg (row encI64 p0.1 []).toArray), (.pointer (some ⟨B_b, 0, none⟩))]) Tryz.func47 rfl Tryz.ntmps47 (by kernel_rfl) (L := [⟨some B_b, 27, [(.int .i16 p1.fSteps), (.slice D_a p1.fHammers.length D_c)]⟩]) (W := bs [some B_b]) hm0 ?_
  refine jc_seq (jc_region (tO (qa 0 (fun b_1 => jkO (qh [0] (qe (jx_then (jc_seq (jc_region (qh [0] ?_))))))))))
  obtain ⟨x_1, hx_2, h⟩ := bd h
  refine tO (qx 0 (some ⟨b_1, 0, none⟩) 1 hx_2 p0.2 rfl (jkO (tO (ql 0 false (fun w hm => ((hm.ow 1 (some b_1) 94 p0.1 [] (fun e => nomatch e) encI64_len).at hx_2)) (jkO ?_)))))
  obtain ⟨x_2, hx_3, h⟩ := bd h
  refine tO (qx 0 (some ⟨b_1, 0, none⟩) 1 hx_3 p0.2 rfl (jkO (tO (ql 0 false (fun w hm => ((hm.ow 1 (some b_1) 94 p0.1 [] (fun e => nomatch e) encI64_len).at hx_3)) (jkO ?_)))))
  obtain ⟨t_3, ht_4, h⟩ := bd h
  refine tO (pc 0 (fun w hm => impl_Frame_isPlace.calls p1 x_1 x_2 w _ D_c (hm.exRowW D_h D_ha) rfl ht_4) ?_)
  rintro w v w' hm ⟨rfl, hm'⟩
  refine ⟨_, hm.app hm', jkO ?_⟩
  clear hm hm'
  refine qh [0,0] (qe (jx_then (jc_ret ?_)))
  obtain rfl := Option.some.inj h
  exact qr [] (fun w hm => ⟨rfl, hm.pk [0]⟩)
/-! ### slices.IndexFunc[[][2]int64,[2]int64] -/
def slices_IndexFunc_2int64_at_impl_ApplyMoves_1.k_1 : Option (Int) := some (-1)
def slices_IndexFunc_2int64_at_impl_ApplyMoves_1.l_3 (s0 : List (Arr 2 Int)) (g1c0 : GFrame) : Int → Option ((Int) ⊕ (Int ⊕ Unit))
  | i_2 => (if (decide (i_2 < (s0.length : Int))) = true then (ix s0 i_2).bind fun x_5 => (impl_ApplyMoves_1 x_5 g1c0).bind fun t_6 => (if t_6 = true then some (.inr (.inl i_2)) else some (.inl (w64 (i_2 + 1)))) else some (.inr (.inr ())))
def slices_IndexFunc_2int64_at_impl_ApplyMoves_1 (s0 : List (Arr 2 Int)) (g1c0 : GFrame) : Option (Int) := (loop (slices_IndexFunc_2int64_at_impl_ApplyMoves_1.l_3 s0 g1c0) 0).bind fun t_4 => match t_4 with | .inl p => some p | .inr p => slices_IndexFunc_2int64_at_impl_ApplyMoves_1.k_1
theorem slices_IndexFunc_2int64_at_impl_ApplyMoves_1.calls (s0 : List (Arr 2 Int)) (g1c0 : GFrame) (w : World) (r : Int) {A_a : Option Addr} {A_an : Nat} (A_c : Nat) (A_h : Rw w A_a 2 encA2I64 s0) (A_hn : s0.length = A_an) {D_a : Option Addr} {D_an : Nat} (D_c : Nat) (D_h : Rw w D_a 2 encGHammer g1c0.fHammers) (D_hn : g1c0.fHammers.length = D_an) (B_b : Nat) (hm0 : Mem w (bs [some B_b]) [⟨some B_b, 27, [(.int .i16 g1c0.fSteps), (.slice D_a D_an D_c)]⟩] w) (A_ha : s0 ≠ [] → aB A_a ∉ bs [some B_b]) (D_ha : g1c0.fHammers ≠ [] → aB D_a ∉ bs [some B_b]) (h : slices_IndexFunc_2int64_at_impl_ApplyMoves_1 s0 g1c0 = some r) :
    Calls Tryz.prog 95 #[(.slice A_a A_an A_c), (.func (.func 47) #[] #[(.pointer (some ⟨B_b, 0, none⟩))])] w fun e w' => ∃ v, e = .returned v ∧ (v = (.int .i64 r) ∧ Mem w (bs [some B_b]) [⟨some B_b, 27, [(.int .i16 g1c0.fSteps), (.slice D_a D_an D_c)]⟩] w') := by
  subst A_hn D_hn
  rw [slices_IndexFunc_2int64_at_impl_ApplyMoves_1] at h
  refine enter (args := [(.slice A_a s0.length A_c), (.func (.func 47) #[] #[(.pointer (some ⟨B_b, 0, none⟩))])]) Tryz.func95 rfl Tryz.ntmps95 (by kernel_rfl) (L := [⟨some B_b, 27, [(.int .i16 g1c0.fSteps), (.slice D_a g1c0.fHammers.length D_c)]⟩]) (W := bs [some B_b]) hm0 ?_
  refine jc_seq (jc_region (qh [0] (qe (jx_then (jc_seq (jc_seq (jc_region (qh [0,0,0] (qe (jx_then (jc_meet (fun (_ : Unit) => slices_IndexFunc_2int64_at_impl_ApplyMoves_1.k_1 = some r) (fun (_ : Unit) => [(4, [], (.int .i64 0))]) (fun (_ : Unit) => [⟨some B_b, 27, [(.int .i16 g1c0.fSteps), (.slice D_a g1c0.fHammers.length D_c)]⟩]) ?_ ?_)))))))))))
  ·refine jc_block ?_
   obtain ⟨t_4, ht_40, hr_31⟩ := bd h
   refine jc_loop (fun (s : Int) (x : Unit) => match s, x with | i_2, _ => True) (fun (s : Int) (x : Unit) => match s, x with | i_2, _ => [(0, [], (.slice A_a s0.length A_c)), (1, [], (.func (.func 47) #[] #[(.pointer (some ⟨B_b, 0, none⟩))])), (4, [], (.int .i64 0)), (7, [], (.int .i64 (s0.length : Int))), (8, [], (.int .i64 i_2))]) (fun (s : Int) (x : Unit) => match s, x with | i_2, _ => [⟨some B_b, 27, [(.int .i16 g1c0.fSteps), (.slice D_a g1c0.fHammers.length D_c)]⟩]) ht_40 () trivial (by kernel_rfl) [0] (by kernel_rfl) (by kernel_rfl) ?_
   rintro i_2 _ y_32 _ h
   rw [slices_IndexFunc_2int64_at_impl_ApplyMoves_1.l_3] at h
   refine jc_seq (jc_region (qh [0] (qe (jx_then (jc_seq (qi h (fun h => ?_) (fun h => ?_)))))))
   ·refine jc_skip (jx_then (jc_seq (jc_block (jc_seq (jc_region (qh [0,0] (qe (jx_then (jc_seq (jc_region (qh [0,0,0] ?_)))))))))))
    obtain ⟨x_5, hx_35, h⟩ := bd h
    refine tO (qx 0 A_a 2 hx_35 rfl (A_h.sp hx_35) (jkO (tO (p_ldx 0 (aB A_a) (aO A_a + i_2.toNat * 2) (encA2I64 x_5) 2 (by kernel_rfl) (by kernel_rfl) (encA2I64_len x_5) (fun w hm => ((hm.exRowW A_h A_ha).at hx_35)) (jkO ?_)))))
    obtain ⟨t_6, ht_36, h⟩ := bd h
    refine tO (pc 0 (fun w hm => impl_ApplyMoves_1.calls x_5 g1c0 w _ D_c (hm.exRowW D_h D_ha) rfl B_b (hm.pass (N := [⟨some B_b, 27, [(.int .i16 g1c0.fSteps), (.slice D_a g1c0.fHammers.length D_c)]⟩]) [0] (by kernel_rfl) (by kernel_rfl)) (hm.exApart (N := [⟨some B_b, 27, [(.int .i16 g1c0.fSteps), (.slice D_a g1c0.fHammers.length D_c)]⟩]) D_h D_ha [0] (by kernel_rfl)) ht_36) ?_)
    rintro w v w' hm ⟨rfl, hm'⟩
    refine ⟨_, hm.appW (ps := [(0, ⟨some B_b, 27, [(.int .i16 g1c0.fSteps), (.slice D_a g1c0.fHammers.length D_c)]⟩)]) (N := []) hm' (by kernel_rfl) (by kernel_rfl), jkO ?_⟩
    clear hm hm'
    refine qe (jx_then (qi h (fun h => ?_) (fun h => ?_)))
    ·refine jc_seq (jc_region (qh [0,0] (qe (jx_then (jc_ret (jx_inr (jx_thenr (jx_leaver (.inl i_2) (Option.some.inj h).symm (fun e_38 => ?_)))))))))
     subst e_38
     refine jx_inr (jx_thenr (jx_thenr ?_))
     obtain rfl := Option.some.inj hr_31
     exact qr [] (fun w hm => ⟨rfl, hm.pk [0]⟩)
    ·exact jc_skip (jx_inn (jx_then (jc_region (qh [0,0] (qe (qb (w64 (i_2 + 1)) () h trivial [0]))))))
   ·refine jc_exit (jx_thenx (jx_leave (.inr ()) (Option.some.inj h).symm (fun e_39 => ?_)))
    subst e_39
    exact jx_ine (qm () hr_31 [0])
  ·rintro _ h
   replace h : slices_IndexFunc_2int64_at_impl_ApplyMoves_1.k_1 = some r := h
   rw [slices_IndexFunc_2int64_at_impl_ApplyMoves_1.k_1] at h
   refine jx_then (jc_seq (jc_region (qh [0] (qe (jx_then (jc_ret ?_))))))
   obtain rfl := Option.some.inj h
   exact qr [] (fun w hm => ⟨rfl, hm.pk [0]⟩)
/-! ### slices.ContainsFunc[[][2]int64,[2]int64] -/
def slices_ContainsFunc_2int64_at_impl_ApplyMoves_1 (s0 : List (Arr 2 Int)) (g1c0 : GFrame) : Option (Bool) := (slices_IndexFunc_2int64_at_impl_ApplyMoves_1 s0 g1c0).bind fun t_1 => some (decide (t_1 ≥ 0))
theorem slices_ContainsFunc_2int64_at_impl_ApplyMoves_1.calls (s0 : List (Arr 2 Int)) (g1c0 : GFrame) (w : World) (r : Bool) {A_a : Option Addr} {A_an : Nat} (A_c : Nat) (A_h : Rw w A_a 2 encA2I64 s0) (A_hn : s0.length = A_an) {D_a : Option Addr} {D_an : Nat} (D_c : Nat) (D_h : Rw w D_a 2 encGHammer g1c0.fHammers) (D_hn : g1c0.fHammers.length = D_an) (B_b : Nat) (hm0 : Mem w (bs [some B_b]) [⟨some B_b, 27, [(.int .i16 g1c0.fSteps), (.slice D_a D_an D_c)]⟩] w) (A_ha : s0 ≠ [] → aB A_a ∉ bs [some B_b]) (D_ha : g1c0.fHammers ≠ [] → aB D_a ∉ bs [some B_b]) (h : slices_ContainsFunc_2int64_at_impl_ApplyMoves_1 s0 g1c0 = some r) :
    Calls Tryz.prog 45 #[(.slice A_a A_an A_c), (.func (.func 47) #[] #[(.pointer (some ⟨B_b, 0, none⟩))])] w fun e w' => ∃ v, e = .returned v ∧ (v = (.bool r) ∧ Mem w (bs [some B_b]) [⟨some B_b, 27, [(.int .i16 g1c0.fSteps), (.slice D_a D_an D_c)]⟩] w') := by
  subst A_hn D_hn
  rw [slices_ContainsFunc_2int64_at_impl_ApplyMoves_1] at h
  refine enter (args := [(.slice A_a s0.length A_c), (.func (.func 47) #[] #[(.pointer (some ⟨B_b, 0, none⟩))])]) Tryz.func45 rfl Tryz.ntmps45 (by kernel_rfl) (L := [⟨some B_b, 27, [(.int .i16 g1c0.fSteps), (.slice D_a g1c0.fHammers.length D_c)]⟩]) (W := bs [some B_b]) hm0 ?_
  refine jc_seq (jc_region (qh [0] (qe (jx_then (jc_seq (jc_region (qh [0,0] ?_)))))))
  obtain ⟨t_1, ht_1, h⟩ := bd h
  refine tO (pc 0 (fun w hm => slices_IndexFunc_2int64_at_impl_ApplyMoves_1.calls s0 g1c0 w _ A_c (hm.exRowW A_h A_ha) rfl D_c (hm.exRowW D_h D_ha) rfl B_b (hm.pass (N := [⟨some B_b, 27, [(.int .i16 g1c0.fSteps), (.slice D_a g1c0.fHammers.length D_c)]⟩]) [0] (by kernel_rfl) (by kernel_rfl)) (hm.exApart (N := [⟨some B_b, 27, [(.int .i16 g1c0.fSteps), (.slice D_a g1c0.fHammers.length D_c)]⟩]) A_h A_ha [0] (by kernel_rfl)) (hm.exApart (N := [⟨some B_b, 27, [(.int .i16 g1c0.fSteps), (.slice D_a g1c0.fHammers.length D_c)]⟩]) D_h D_ha [0] (by kernel_rfl)) ht_1) ?_)
  rintro w v w' hm ⟨rfl, hm'⟩
  refine ⟨_, hm.appW (ps := [(0, ⟨some B_b, 27, [(.int .i16 g1c0.fSteps), (.slice D_a g1c0.fHammers.length D_c)]⟩)]) (N := []) hm' (by kernel_rfl) (by kernel_rfl), jkO ?_⟩
  clear hm hm'
  refine qh [0,0] (qe (jx_then (jc_ret ?_)))
  obtain rfl := Option.some.inj h
  exact qr [] (fun w hm => ⟨rfl, hm.pk [0]⟩)
end

end Go.Proofs.YtojndiidhgdjcaaGreatDoor
