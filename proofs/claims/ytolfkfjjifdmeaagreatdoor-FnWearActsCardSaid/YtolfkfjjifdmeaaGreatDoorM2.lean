/- Functions of the program that the laws reach: a plain function each, and that the call comes to its answer if the plain function has one. Printed by a program. -/
import Derived.Test.YtolfkfjjifdmeaaGreatDoorT
import Derived.Test.YtolfkfjjifdmeaaGreatDoorRange
import Derived.Test.YtolfkfjjifdmeaaGreatDoorLines
import Derived.Test.YtolfkfjjifdmeaaGreatDoorBld
import Derived.Test.YtolfkfjjifdmeaaGreatDoorM0
import Derived.Test.YtolfkfjjifdmeaaGreatDoorM1
import Derived.RangeFuncBox
import Derived.Shelf.Abstract
import Derived.WalkKit
import Derived.OwnWalkIn
import Derived.TacticsInMore
import Derived.LoopNIn
import Derived.LoopIn
namespace Go.Proofs.YtolfkfjjifdmeaaGreatDoor
open Eng
set_option linter.unusedVariables false

set_option linter.unusedSectionVars false
set_option maxRecDepth 100000
variable [dsW : DrwS]
noncomputable section
/-! ### spec.MovePin -/
def spec_MovePin.k_6 (w1 : GWear) (toStep4 : Int) (toTrack5 : Int) (t_4 : Int) (q_5 : Bool) : Option (GWear × Int) := (if q_5 = true then some ((⟨[], []⟩ : GWear), 4) else (spec_l06Copy w1).bind fun t_7 => (if 0 ≤ t_4 ∧ t_4 ≤ (t_7.fPins.length : Int) then (if 0 ≤ (w64 (t_4 + 1)) ∧ (w64 (t_4 + 1)) ≤ (t_7.fPins.length : Int) then (if ([] : List GWornPin).length + (t_7.fPins.take t_4.toNat).length ≤ 4294967296 then (if (([] : List GWornPin) ++ (t_7.fPins.take t_4.toNat)).length + (t_7.fPins.drop (w64 (t_4 + 1)).toNat).length ≤ 4294967296 then (ix w1.fPins t_4).bind fun x_8 => (spec_l06Put ((([] : List GWornPin) ++ (t_7.fPins.take t_4.toNat)) ++ (t_7.fPins.drop (w64 (t_4 + 1)).toNat)) (⟨(w8 toStep4), (w8 toTrack5), x_8.fTurns⟩ : GWornPin)).bind fun t_9 => some ((⟨t_9, t_7.fStrokes⟩ : GWear), 0) else none) else none) else none) else none))
def spec_MovePin.k_3 (w1 : GWear) (step2 : Int) (track3 : Int) (toStep4 : Int) (toTrack5 : Int) (q_2 : Bool) : Option (GWear × Int) := (if q_2 = true then some ((⟨[], []⟩ : GWear), 2) else (spec_l06Find w1 step2 track3).bind fun t_4 => (if (decide (t_4 < 0)) = true then spec_MovePin.k_6 w1 toStep4 toTrack5 t_4 true else (spec_l06Find w1 toStep4 toTrack5).bind fun t_10 => spec_MovePin.k_6 w1 toStep4 toTrack5 t_4 (decide (t_10 ≥ 0))))
def spec_MovePin (f0 : GFrame) (w1 : GWear) (step2 : Int) (track3 : Int) (toStep4 : Int) (toTrack5 : Int) : Option (GWear × Int) := (spec_l06Ok f0 w1).bind fun t_1 => (if (!t_1) = true then some ((⟨[], []⟩ : GWear), 1) else (spec_l06Place f0 step2 track3).bind fun t_11 => (if (!t_11) = true then spec_MovePin.k_3 w1 step2 track3 toStep4 toTrack5 true else (spec_l06Place f0 toStep4 toTrack5).bind fun t_12 => spec_MovePin.k_3 w1 step2 track3 toStep4 toTrack5 (!t_12)))
theorem spec_MovePin.calls (f0 : GFrame) (w1 : GWear) (step2 : Int) (track3 : Int) (toStep4 : Int) (toTrack5 : Int) (w : World) (r : GWear × Int) {C_a : Option Addr} {C_an : Nat} (C_c : Nat) (C_h : Rw w C_a 2 encGHammer f0.fHammers) (C_hn : f0.fHammers.length = C_an) {E_a : Option Addr} {E_an : Nat} (E_c : Nat) (E_h : Rw w E_a 3 encGWornPin w1.fPins) (E_hn : w1.fPins.length = E_an) {F_a : Option Addr} {F_an : Nat} (F_c : Nat) (F_h : Rw w F_a 1 encI64 w1.fStrokes) (F_hn : w1.fStrokes.length = F_an) (h : spec_MovePin f0 w1 step2 track3 toStep4 toTrack5 = some r) :
    Calls Tryz.prog 102 #[(.agg #[(.int .i16 f0.fSteps), (.slice C_a C_an C_c)]), (.agg #[(.slice E_a E_an E_c), (.slice F_a F_an F_c)]), (.int .i64 step2), (.int .i64 track3), (.int .i64 toStep4), (.int .i64 toTrack5)] w fun e w' => ∃ v, e = .returned v ∧ (∃ (o0 : Option Nat) (c0 : Nat) (s0 : List Value) (n0 : Nat), r.1.fPins.length = n0 ∧ (o0 ≠ none → n0 ≤ c0 ∧ s0.length = (c0 - n0) * 3) ∧ (o0 = none → r.1.fPins = [] ∧ c0 = 0) ∧ ∃ (o1 : Option Nat) (c1 : Nat) (s1 : List Value) (n1 : Nat), r.1.fStrokes.length = n1 ∧ (o1 ≠ none → n1 ≤ c1 ∧ s1.length = (c1 - n1) * 1) ∧ (o1 = none → r.1.fStrokes = [] ∧ c1 = 0) ∧ v = .tuple #[.agg #[.slice (o0.map fun b => ⟨b, 0, none⟩) n0 c0, .slice (o1.map fun b => ⟨b, 0, none⟩) n1 c1], (.int .i64 r.2)] ∧ Mem w [] [⟨o0, 147, row encGWornPin r.1.fPins s0⟩, ⟨o1, 2, row encI64 r.1.fStrokes s1⟩] w') := by
  subst C_hn E_hn F_hn
  rw [spec_MovePin] at h
  refine enter (args := [(.agg #[(.int .i16 f0.fSteps), (.slice C_a f0.fHammers.length C_c)]), (.agg #[(.slice E_a w1.fPins.length E_c), (.slice F_a w1.fStrokes.length F_c)]), (.int .i64 step2), (.int .i64 track3), (.int .i64 toStep4), (.int .i64 toTrack5)]) Tryz.func102 rfl Tryz.ntmps102 (by kernel_rfl) (L := []) (W := []) (Mem.start w) ?_
  refine jc_seq (jc_region (tO (qa 0 (fun b_1 => jkO (tO (qa 0 (fun b_2 => jkO (tO (qa 0 (fun b_3 => jkO (qh [0] (qe (jx_then (jc_seq (jc_seq (jc_region ?_))))))))))))))))
  obtain ⟨t_1, ht_6, h⟩ := bd h
  refine tO (pc 0 (fun w hm => spec_l06Ok.calls f0 w1 w _ C_c (hm.xr C_h) rfl E_c (hm.xr E_h) rfl F_c (hm.xr F_h) rfl b_1 b_2 (hm.pass (N := [⟨some b_1, 27, [(.int .i16 f0.fSteps), (.slice C_a f0.fHammers.length C_c)]⟩, ⟨some b_2, 62, [(.slice E_a w1.fPins.length E_c), (.slice F_a w1.fStrokes.length F_c)]⟩]) [0, 1] (by kernel_rfl) (by kernel_rfl)) (hm.exApart (N := [⟨some b_1, 27, [(.int .i16 f0.fSteps), (.slice C_a f0.fHammers.length C_c)]⟩, ⟨some b_2, 62, [(.slice E_a w1.fPins.length E_c), (.slice F_a w1.fStrokes.length F_c)]⟩]) C_h (fun _ => List.not_mem_nil) [0, 1] (by kernel_rfl)) (hm.exApart (N := [⟨some b_1, 27, [(.int .i16 f0.fSteps), (.slice C_a f0.fHammers.length C_c)]⟩, ⟨some b_2, 62, [(.slice E_a w1.fPins.length E_c), (.slice F_a w1.fStrokes.length F_c)]⟩]) E_h (fun _ => List.not_mem_nil) [0, 1] (by kernel_rfl)) (hm.exApart (N := [⟨some b_1, 27, [(.int .i16 f0.fSteps), (.slice C_a f0.fHammers.length C_c)]⟩, ⟨some b_2, 62, [(.slice E_a w1.fPins.length E_c), (.slice F_a w1.fStrokes.length F_c)]⟩]) F_h (fun _ => List.not_mem_nil) [0, 1] (by kernel_rfl)) ht_6) ?_)
  rintro w v w' hm ⟨rfl, hm'⟩
  refine ⟨_, hm.appW (ps := [(0, ⟨some b_1, 27, [(.int .i16 f0.fSteps), (.slice C_a f0.fHammers.length C_c)]⟩), (1, ⟨some b_2, 62, [(.slice E_a w1.fPins.length E_c), (.slice F_a w1.fStrokes.length F_c)]⟩)]) (N := []) hm' (by kernel_rfl) (by kernel_rfl), jkO ?_⟩
  clear hm hm'
  refine qh [0] (qe (jx_then (qi h (fun h => ?_) (fun h => ?_))))
  ·refine jc_seq (jc_region (qh [0] (tO (qs 0 [2] (jkO (qh [0] (qe (jx_then (jc_ret (jx_thenr ?_))))))))))
   obtain rfl := Option.some.inj h
   exact jx_ghost 147 encGWornPin (jx_ghost 2 encI64 (qr [2] (fun w hm => ⟨none, 0, [], 0, rfl, (fun e => absurd rfl e), (fun _ => ⟨rfl, rfl⟩), none, 0, [], 0, rfl, (fun e => absurd rfl e), (fun _ => ⟨rfl, rfl⟩), rfl, hm.pk [3, 4]⟩)))
  ·refine jc_skip (jx_then (jc_seq (jc_seq (jc_meet (fun (j : Bool) => match j with | q_2 => spec_MovePin.k_3 w1 step2 track3 toStep4 toTrack5 q_2 = some r) (fun (j : Bool) => match j with | q_2 => [(2, [], (.int .i64 step2)), (3, [], (.int .i64 track3)), (4, [], (.int .i64 toStep4)), (5, [], (.int .i64 toTrack5)), (7, [], (.pointer (some ⟨b_2, 0, none⟩))), (12, [], (.pointer (some ⟨b_3, 0, none⟩))), (13, [], (.int .i64 0)), (29, [], (.bool q_2))]) (fun (j : Bool) => match j with | q_2 => [⟨some b_1, 27, [(.int .i16 f0.fSteps), (.slice C_a f0.fHammers.length C_c)]⟩, ⟨some b_2, 62, [(.slice E_a w1.fPins.length E_c), (.slice F_a w1.fStrokes.length F_c)]⟩, ⟨some b_3, 62, [(.slice none 0 0), (.slice none 0 0)]⟩]) ?_ ?_))))
   ·refine jc_region (qh [0,0] ?_)
    obtain ⟨t_11, ht_64, h⟩ := bd h
    refine tO (pc 0 (fun w hm => spec_l06Place.calls f0 step2 track3 w _ C_c (hm.xr C_h) rfl b_1 (hm.pass (N := [⟨some b_1, 27, [(.int .i16 f0.fSteps), (.slice C_a f0.fHammers.length C_c)]⟩]) [0] (by kernel_rfl) (by kernel_rfl)) (hm.exApart (N := [⟨some b_1, 27, [(.int .i16 f0.fSteps), (.slice C_a f0.fHammers.length C_c)]⟩]) C_h (fun _ => List.not_mem_nil) [0] (by kernel_rfl)) ht_64) ?_)
    rintro w v w' hm ⟨rfl, hm'⟩
    refine ⟨_, hm.appW (ps := [(0, ⟨some b_1, 27, [(.int .i16 f0.fSteps), (.slice C_a f0.fHammers.length C_c)]⟩)]) (N := []) hm' (by kernel_rfl) (by kernel_rfl), jkO ?_⟩
    clear hm hm'
    refine qf [(0, 0), (0, 0), (0, 1), (0, 1)] (qp 24 h (fun h => ?_) (fun h => ?_))
    ·exact qf [(0, 3), (0, 3), (0, 4)] (qe (qm true h [0, 1, 2]))
    ·obtain ⟨t_12, ht_66, h⟩ := bd h
     refine tO (pc 2 (fun w hm => spec_l06Place.calls f0 toStep4 toTrack5 w _ C_c (hm.xr C_h) rfl b_1 (hm.pass (N := [⟨some b_1, 27, [(.int .i16 f0.fSteps), (.slice C_a f0.fHammers.length C_c)]⟩]) [0] (by kernel_rfl) (by kernel_rfl)) (hm.exApart (N := [⟨some b_1, 27, [(.int .i16 f0.fSteps), (.slice C_a f0.fHammers.length C_c)]⟩]) C_h (fun _ => List.not_mem_nil) [0] (by kernel_rfl)) ht_66) ?_)
     rintro w v w' hm ⟨rfl, hm'⟩
     refine ⟨_, hm.appW (ps := [(0, ⟨some b_1, 27, [(.int .i16 f0.fSteps), (.slice C_a f0.fHammers.length C_c)]⟩)]) (N := []) hm' (by kernel_rfl) (by kernel_rfl), jkO ?_⟩
     clear hm hm'
     exact qf [(0, 2), (0, 5)] (qe (qm (!t_12) h [0, 1, 2]))
   ·rintro q_2 h
    replace h : spec_MovePin.k_3 w1 step2 track3 toStep4 toTrack5 q_2 = some r := h
    rw [spec_MovePin.k_3] at h
    refine jx_then (qi h (fun h => ?_) (fun h => ?_))
    ·refine jc_seq (jc_region (qh [0] (tO (qs 0 [2] (jkO (qh [0] (qe (jx_then (jc_ret (jx_thenr ?_))))))))))
     obtain rfl := Option.some.inj h
     exact jx_ghost 147 encGWornPin (jx_ghost 2 encI64 (qr [2] (fun w hm => ⟨none, 0, [], 0, rfl, (fun e => absurd rfl e), (fun _ => ⟨rfl, rfl⟩), none, 0, [], 0, rfl, (fun e => absurd rfl e), (fun _ => ⟨rfl, rfl⟩), rfl, hm.pk [3, 4]⟩)))
    ·refine jc_skip (jx_then (jc_seq (jc_region (qh [0,0] ?_))))
     obtain ⟨t_4, ht_19, h⟩ := bd h
     refine tO (pc 0 (fun w hm => spec_l06Find.calls w1 step2 track3 w _ E_c (hm.xr E_h) rfl F_c (hm.xr F_h) rfl b_2 (hm.pass (N := [⟨some b_2, 62, [(.slice E_a w1.fPins.length E_c), (.slice F_a w1.fStrokes.length F_c)]⟩]) [1] (by kernel_rfl) (by kernel_rfl)) (hm.exApart (N := [⟨some b_2, 62, [(.slice E_a w1.fPins.length E_c), (.slice F_a w1.fStrokes.length F_c)]⟩]) E_h (fun _ => List.not_mem_nil) [1] (by kernel_rfl)) (hm.exApart (N := [⟨some b_2, 62, [(.slice E_a w1.fPins.length E_c), (.slice F_a w1.fStrokes.length F_c)]⟩]) F_h (fun _ => List.not_mem_nil) [1] (by kernel_rfl)) ht_19) ?_)
     rintro w v w' hm ⟨rfl, hm'⟩
     refine ⟨_, hm.appW (ps := [(1, ⟨some b_2, 62, [(.slice E_a w1.fPins.length E_c), (.slice F_a w1.fStrokes.length F_c)]⟩)]) (N := []) hm' (by kernel_rfl) (by kernel_rfl), jkO ?_⟩
     clear hm hm'
     refine qh [0] (qe (jx_then (jc_seq (jc_seq (jc_meet (fun (j : Bool) => match j with | q_5 => spec_MovePin.k_6 w1 toStep4 toTrack5 t_4 q_5 = some r) (fun (j : Bool) => match j with | q_5 => [(4, [], (.int .i64 toStep4)), (5, [], (.int .i64 toTrack5)), (7, [], (.pointer (some ⟨b_2, 0, none⟩))), (12, [], (.pointer (some ⟨b_3, 0, none⟩))), (13, [], (.int .i64 0)), (14, [], (.int .i64 t_4)), (41, [], (.bool q_5))]) (fun (j : Bool) => match j with | q_5 => [⟨some b_1, 27, [(.int .i16 f0.fSteps), (.slice C_a f0.fHammers.length C_c)]⟩, ⟨some b_2, 62, [(.slice E_a w1.fPins.length E_c), (.slice F_a w1.fStrokes.length F_c)]⟩, ⟨some b_3, 62, [(.slice none 0 0), (.slice none 0 0)]⟩]) ?_ ?_)))))
     ·refine jc_region (qf [(0, 0), (0, 0), (0, 0), (0, 1), (0, 1)] (qp 36 h (fun h => ?_) (fun h => ?_)))
      ·exact qf [(0, 3), (0, 3), (0, 4)] (qe (qm true h [0, 1, 2]))
      ·obtain ⟨t_10, ht_63, h⟩ := bd h
       refine tO (pc 2 (fun w hm => spec_l06Find.calls w1 toStep4 toTrack5 w _ E_c (hm.xr E_h) rfl F_c (hm.xr F_h) rfl b_2 (hm.pass (N := [⟨some b_2, 62, [(.slice E_a w1.fPins.length E_c), (.slice F_a w1.fStrokes.length F_c)]⟩]) [1] (by kernel_rfl) (by kernel_rfl)) (hm.exApart (N := [⟨some b_2, 62, [(.slice E_a w1.fPins.length E_c), (.slice F_a w1.fStrokes.length F_c)]⟩]) E_h (fun _ => List.not_mem_nil) [1] (by kernel_rfl)) (hm.exApart (N := [⟨some b_2, 62, [(.slice E_a w1.fPins.length E_c), (.slice F_a w1.fStrokes.length F_c)]⟩]) F_h (fun _ => List.not_mem_nil) [1] (by kernel_rfl)) ht_63) ?_)
       rintro w v w' hm ⟨rfl, hm'⟩
       refine ⟨_, hm.appW (ps := [(1, ⟨some b_2, 62, [(.slice E_a w1.fPins.length E_c), (.slice F_a w1.fStrokes.length F_c)]⟩)]) (N := []) hm' (by kernel_rfl) (by kernel_rfl), jkO ?_⟩
       clear hm hm'
       exact qf [(0, 2), (0, 5)] (qe (qm (decide (t_10 ≥ 0)) h [0, 1, 2]))
     ·rintro q_5 h
      replace h : spec_MovePin.k_6 w1 toStep4 toTrack5 t_4 q_5 = some r := h
      rw [spec_MovePin.k_6] at h
      refine jx_then (qi h (fun h => ?_) (fun h => ?_))
      ·refine jc_seq (jc_region (qh [0] (tO (qs 0 [2] (jkO (qh [0] (qe (jx_then (jc_ret (jx_thenr ?_))))))))))
       obtain rfl := Option.some.inj h
       exact jx_ghost 147 encGWornPin (jx_ghost 2 encI64 (qr [2] (fun w hm => ⟨none, 0, [], 0, rfl, (fun e => absurd rfl e), (fun _ => ⟨rfl, rfl⟩), none, 0, [], 0, rfl, (fun e => absurd rfl e), (fun _ => ⟨rfl, rfl⟩), rfl, hm.pk [3, 4]⟩)))
      ·refine jc_skip (jx_then (jc_seq (jc_region ?_)))
       obtain ⟨t_7, ht_28, h⟩ := bd h
       refine tO (pc 0 (fun w hm => spec_l06Copy.calls w1 w _ E_c (hm.xr E_h) rfl F_c (hm.xr F_h) rfl b_2 (hm.pass (N := [⟨some b_2, 62, [(.slice E_a w1.fPins.length E_c), (.slice F_a w1.fStrokes.length F_c)]⟩]) [1] (by kernel_rfl) (by kernel_rfl)) (hm.exApart (N := [⟨some b_2, 62, [(.slice E_a w1.fPins.length E_c), (.slice F_a w1.fStrokes.length F_c)]⟩]) E_h (fun _ => List.not_mem_nil) [1] (by kernel_rfl)) (hm.exApart (N := [⟨some b_2, 62, [(.slice E_a w1.fPins.length E_c), (.slice F_a w1.fStrokes.length F_c)]⟩]) F_h (fun _ => List.not_mem_nil) [1] (by kernel_rfl)) ht_28) ?_)
       rintro w v w' hm ⟨o_29, cap_30, sp_31, _, rfl, hs_32, ho_33, o_34, cap_35, sp_36, _, rfl, hs_37, ho_38, rfl, hm'⟩
       refine ⟨_, hm.appW (ps := [(1, ⟨some b_2, 62, [(.slice E_a w1.fPins.length E_c), (.slice F_a w1.fStrokes.length F_c)]⟩)]) (N := [⟨o_29, 147, row encGWornPin t_7.fPins sp_31⟩, ⟨o_34, 2, row encI64 t_7.fStrokes sp_36⟩]) hm' (by kernel_rfl) (by kernel_rfl), jkO ?_⟩
       clear hm hm'
       refine tO (qa 0 (fun b_39 => jkO (tO (qs 0 [5] (jkO (qe (jx_then (jc_seq (qg [⟨some b_1, 27, [(.int .i16 f0.fSteps), (.slice C_a f0.fHammers.length C_c)]⟩, ⟨some b_2, 62, [(.slice E_a w1.fPins.length E_c), (.slice F_a w1.fStrokes.length F_c)]⟩, ⟨some b_3, 62, [(.slice none 0 0), (.slice none 0 0)]⟩, ⟨o_29, 147, row encGWornPin t_7.fPins sp_31⟩, ⟨o_34, 2, row encI64 t_7.fStrokes sp_36⟩, ⟨some b_39, 62, [(.slice (o_29.map fun b => ⟨b, 0, none⟩) t_7.fPins.length cap_30), (.slice (o_34.map fun b => ⟨b, 0, none⟩) t_7.fStrokes.length cap_35)]⟩] 13 (qd [⟨1, 0, 0⟩,⟨2, 5, 0⟩,⟨3, 0, 0⟩,⟨6, 0, 0⟩,⟨7, 5, 0⟩,⟨8, 0, 0⟩,⟨9, 0, 0⟩] 6 [0, 1, 2, 3, 4, 5] ?_))))))))))
       obtain ⟨hg_40, h⟩ := gd h
       refine qv 4 0 [0, 1, 2, 3, 4, 5] (fun w hm => slH_run (a := (o_29.map fun b => ⟨b, 0, none⟩)) (len := t_7.fPins.length) (cap := cap_30) (size := 3) (h := t_4) (by kernel_rfl) hg_40.1 (Int.le_trans hg_40.2 (Int.ofNat_le.2 (cap_le rfl hs_32 ho_33)))) ?_
       obtain ⟨hg_41, h⟩ := gd h
       refine qv 10 0 [0, 1, 2, 3, 4, 5] (fun w hm => slL_run (a := (o_29.map fun b => ⟨b, 0, none⟩)) (len := t_7.fPins.length) (cap := cap_30) (size := 3) (l := (w64 (t_4 + 1))) (by kernel_rfl) hg_41.1 (Int.le_trans hg_41.2 (Int.ofNat_le.2 (Nat.le_of_eq rfl)))) (tD 0 (qa 0 (fun b_42 => kD [0, 1, 2, 3, 4, 5] ?_)))
       obtain ⟨hg_43, h⟩ := gd h
       refine tD 5 (p_apn 0 6 (some b_42) 147 0 t_4.toNat 0 3 16 (o_29.map fun b => ⟨b, 0, none⟩) encGWornPin ([] : List GWornPin) (t_7.fPins.take t_4.toNat) [] (.agg #[(.int .i8 0), (.int .i8 0), (.int .i64 0)]) rfl (hd_len hg_40) (by kernel_rfl) (by kernel_rfl) (by kernel_rfl) encGWornPin_len encGWornPin_cell (fun _ => ⟨Nat.le_refl _, by simp⟩) (fun e => nomatch e) (fun w hm => ((hm.ow 3 o_29 147 t_7.fPins sp_31 (fun e => (ho_33 e).1) encGWornPin_len).hd t_4.toNat)) hg_43 (by kernel_rfl) (by kernel_rfl) (fun o_44 cap_45 sp_46 hs_47 ho_48 => kD [0, 1, 2, 3, 4, 5] ?_))
       obtain ⟨hg_49, h⟩ := gd h
       refine tD 11 (p_apn 0 6 o_44 147 ((([] : List GWornPin) ++ (t_7.fPins.take t_4.toNat)).length) (t_7.fPins.length - (w64 (t_4 + 1)).toNat) cap_45 3 16 (pa (o_29.map fun b => ⟨b, 0, none⟩) (w64 (t_4 + 1)).toNat cap_30 3) encGWornPin (([] : List GWornPin) ++ (t_7.fPins.take t_4.toNat)) (t_7.fPins.drop (w64 (t_4 + 1)).toNat) sp_46 (.agg #[(.int .i8 0), (.int .i8 0), (.int .i64 0)]) rfl (tl_len rfl (w64 (t_4 + 1))) (by kernel_rfl) (by kernel_rfl) (by kernel_rfl) encGWornPin_len encGWornPin_cell hs_47 ho_48 (fun w hm => ((hm.ow 3 o_29 147 t_7.fPins sp_31 (fun e => (ho_33 e).1) encGWornPin_len).tl ((w64 (t_4 + 1)).toNat) cap_30 (cap_le rfl hs_32 ho_33))) hg_49 (by kernel_rfl) (by kernel_rfl) (fun o_50 cap_51 sp_52 hs_53 ho_54 => kD [0, 1, 2, 3, 4, 5] (qd [⟨12, 0, 0⟩] 0 [0, 1, 2, 3, 4, 5] (qz (jx_then (jc_seq (jc_region (qh [0,0,0,0,0,0,1,0] ?_))))))))
       obtain ⟨x_8, hx_55, h⟩ := bd h
       refine tO (qx 0 E_a 3 hx_55 rfl (E_h.sp hx_55) (jkO (qh [0] (tO (ql 0 false (fun w hm => (((hm.xr E_h).at hx_55).sub 2 1)) (jkO (qh [0] ?_)))))))
       obtain ⟨t_9, ht_56, h⟩ := bd h
       refine tO (pc 0 (fun w hm => spec_l06Put.calls ((([] : List GWornPin) ++ (t_7.fPins.take t_4.toNat)) ++ (t_7.fPins.drop (w64 (t_4 + 1)).toNat)) (⟨(w8 toStep4), (w8 toTrack5), x_8.fTurns⟩ : GWornPin) w _ o_50 rfl hs_53 ho_54 (hm.pass (N := [⟨o_50, 147, row encGWornPin ((([] : List GWornPin) ++ (t_7.fPins.take t_4.toNat)) ++ (t_7.fPins.drop (w64 (t_4 + 1)).toNat)) sp_52⟩]) [6] (by kernel_rfl) (by kernel_rfl)) ht_56) ?_)
       rintro w v w' hm ⟨o_57, cap_58, sp_59, _, rfl, hs_60, ho_61, rfl, hm'⟩
       refine ⟨_, hm.appW (ps := [(6, ⟨o_50, 147, row encGWornPin ((([] : List GWornPin) ++ (t_7.fPins.take t_4.toNat)) ++ (t_7.fPins.drop (w64 (t_4 + 1)).toNat)) sp_52⟩)]) (N := [⟨o_57, 147, row encGWornPin t_9 sp_59⟩]) hm' (by kernel_rfl) (by kernel_rfl), jkO ?_⟩
       clear hm hm'
       refine qh [0] (tO (qs 0 [5] (jkO (qe (jx_then (jc_seq (jc_region (qh [5] (tO (qs 0 [2] (jkO (qh [0] (qe (jx_then (jc_ret ?_)))))))))))))))
       obtain rfl := Option.some.inj h
       exact qr [2] (fun w hm => ⟨o_57, cap_58, sp_59, t_9.length, rfl, hs_60, ho_61, o_34, cap_35, sp_36, t_7.fStrokes.length, rfl, hs_37, ho_38, rfl, hm.pk [7, 4]⟩)
/-! ### spec.DoWearAct -/
def spec_DoWearAct (f0 : GFrame) (w1 : GWear) (a2 : GAct) : Option (GWear × Int) := (spec_l06Ok f0 w1).bind fun t_1 => (if (!t_1) = true then some ((⟨[], []⟩ : GWear), 1) else (if (a2.fKind == 0) = true then (spec_TurnWear f0 w1 a2.fA).bind fun t_2 => some (t_2.1, t_2.2) else (if (a2.fKind == 1) = true then (spec_NewHammer f0 w1 a2.fA).bind fun t_3 => some (t_3.1, t_3.2) else (if (a2.fKind == 2) = true then (spec_NewPin f0 w1 a2.fA a2.fB).bind fun t_4 => some (t_4.1, t_4.2) else (if (a2.fKind == 3) = true then (spec_MovePin f0 w1 a2.fA a2.fB a2.fC a2.fD).bind fun t_5 => some (t_5.1, t_5.2) else some ((⟨[], []⟩ : GWear), 2))))))
theorem spec_DoWearAct.calls (f0 : GFrame) (w1 : GWear) (a2 : GAct) (w : World) (r : GWear × Int) {C_a : Option Addr} {C_an : Nat} (C_c : Nat) (C_h : Rw w C_a 2 encGHammer f0.fHammers) (C_hn : f0.fHammers.length = C_an) {E_a : Option Addr} {E_an : Nat} (E_c : Nat) (E_h : Rw w E_a 3 encGWornPin w1.fPins) (E_hn : w1.fPins.length = E_an) {F_a : Option Addr} {F_an : Nat} (F_c : Nat) (F_h : Rw w F_a 1 encI64 w1.fStrokes) (F_hn : w1.fStrokes.length = F_an) (h : spec_DoWearAct f0 w1 a2 = some r) :
    Calls Tryz.prog 37 #[(.agg #[(.int .i16 f0.fSteps), (.slice C_a C_an C_c)]), (.agg #[(.slice E_a E_an E_c), (.slice F_a F_an F_c)]), (.agg #[(.int .i8 a2.fKind), (.int .i64 a2.fA), (.int .i64 a2.fB), (.int .i64 a2.fC), (.int .i64 a2.fD)])] w fun e w' => ∃ v, e = .returned v ∧ (∃ (o0 : Option Nat) (c0 : Nat) (s0 : List Value) (n0 : Nat), r.1.fPins.length = n0 ∧ (o0 ≠ none → n0 ≤ c0 ∧ s0.length = (c0 - n0) * 3) ∧ (o0 = none → r.1.fPins = [] ∧ c0 = 0) ∧ ∃ (o1 : Option Nat) (c1 : Nat) (s1 : List Value) (n1 : Nat), r.1.fStrokes.length = n1 ∧ (o1 ≠ none → n1 ≤ c1 ∧ s1.length = (c1 - n1) * 1) ∧ (o1 = none → r.1.fStrokes = [] ∧ c1 = 0) ∧ v = .tuple #[.agg #[.slice (o0.map fun b => ⟨b, 0, none⟩) n0 c0, .slice (o1.map fun b => ⟨b, 0, none⟩) n1 c1], (.int .i64 r.2)] ∧ Mem w [] [⟨o0, 147, row encGWornPin r.1.fPins s0⟩, ⟨o1, 2, row encI64 r.1.fStrokes s1⟩] w') := by
  subst C_hn E_hn F_hn
  rw [spec_DoWearAct] at h
  refine enter (args := [(.agg #[(.int .i16 f0.fSteps), (.slice C_a f0.fHammers.length C_c)]), (.agg #[(.slice E_a w1.fPins.length E_c), (.slice F_a w1.fStrokes.length F_c)]), (.agg #[(.int .i8 a2.fKind), (.int .i64 a2.fA), (.int .i64 a2.fB), (.int .i64 a2.fC), (.int .i64 a2.fD)])]) Tryz.func37 rfl Tryz.ntmps37 (by kernel_rfl) (L := []) (W := []) (Mem.start w) ?_
  refine jc_seq (jc_region (tO (qa 0 (fun b_1 => jkO (tO (qa 0 (fun b_2 => jkO (tO (qa 0 (fun b_3 => jkO (tO (qa 0 (fun b_4 => jkO (qh [0] (qe (jx_then (jc_seq (jc_seq (jc_region ?_)))))))))))))))))))
  obtain ⟨t_1, ht_7, h⟩ := bd h
  refine tO (pc 0 (fun w hm => spec_l06Ok.calls f0 w1 w _ C_c (hm.xr C_h) rfl E_c (hm.xr E_h) rfl F_c (hm.xr F_h) rfl b_1 b_2 (hm.pass (N := [⟨some b_1, 27, [(.int .i16 f0.fSteps), (.slice C_a f0.fHammers.length C_c)]⟩, ⟨some b_2, 62, [(.slice E_a w1.fPins.length E_c), (.slice F_a w1.fStrokes.length F_c)]⟩]) [0, 1] (by kernel_rfl) (by kernel_rfl)) (hm.exApart (N := [⟨some b_1, 27, [(.int .i16 f0.fSteps), (.slice C_a f0.fHammers.length C_c)]⟩, ⟨some b_2, 62, [(.slice E_a w1.fPins.length E_c), (.slice F_a w1.fStrokes.length F_c)]⟩]) C_h (fun _ => List.not_mem_nil) [0, 1] (by kernel_rfl)) (hm.exApart (N := [⟨some b_1, 27, [(.int .i16 f0.fSteps), (.slice C_a f0.fHammers.length C_c)]⟩, ⟨some b_2, 62, [(.slice E_a w1.fPins.length E_c), (.slice F_a w1.fStrokes.length F_c)]⟩]) E_h (fun _ => List.not_mem_nil) [0, 1] (by kernel_rfl)) (hm.exApart (N := [⟨some b_1, 27, [(.int .i16 f0.fSteps), (.slice C_a f0.fHammers.length C_c)]⟩, ⟨some b_2, 62, [(.slice E_a w1.fPins.length E_c), (.slice F_a w1.fStrokes.length F_c)]⟩]) F_h (fun _ => List.not_mem_nil) [0, 1] (by kernel_rfl)) ht_7) ?_)
  rintro w v w' hm ⟨rfl, hm'⟩
  refine ⟨_, hm.appW (ps := [(0, ⟨some b_1, 27, [(.int .i16 f0.fSteps), (.slice C_a f0.fHammers.length C_c)]⟩), (1, ⟨some b_2, 62, [(.slice E_a w1.fPins.length E_c), (.slice F_a w1.fStrokes.length F_c)]⟩)]) (N := []) hm' (by kernel_rfl) (by kernel_rfl), jkO ?_⟩
  clear hm hm'
  refine qh [0] (qe (jx_then (qi h (fun h => ?_) (fun h => ?_))))
  ·refine jc_seq (jc_region (qh [0] (tO (qs 0 [3] (jkO (qh [0] (qe (jx_then (jc_ret (jx_thenr ?_))))))))))
   obtain rfl := Option.some.inj h
   exact jx_ghost 147 encGWornPin (jx_ghost 2 encI64 (qr [3] (fun w hm => ⟨none, 0, [], 0, rfl, (fun e => absurd rfl e), (fun _ => ⟨rfl, rfl⟩), none, 0, [], 0, rfl, (fun e => absurd rfl e), (fun _ => ⟨rfl, rfl⟩), rfl, hm.pk [4, 5]⟩)))
  ·refine jc_skip (jx_then (jc_seq (jc_seq (jc_region (qh [0,2] (qe (jx_then (jc_block (jc_seq (jc_region (qh [0,0] (qe (jx_then (qi h (fun h => ?_) (fun h => ?_)))))))))))))))
   ·refine jc_seq (jc_region (qh [0,1,0,2] ?_))
    obtain ⟨t_2, ht_154, h⟩ := bd h
    refine tO (pc 0 (fun w hm => spec_TurnWear.calls f0 w1 a2.fA w _ C_c (hm.xr C_h) rfl E_c (hm.xr E_h) rfl F_c (hm.xr F_h) rfl ht_154) ?_)
    rintro w v w' hm ⟨o_155, cap_156, sp_157, _, rfl, hs_158, ho_159, o_160, cap_161, sp_162, _, rfl, hs_163, ho_164, rfl, hm'⟩
    refine ⟨_, hm.app hm', jkO ?_⟩
    clear hm hm'
    refine qh [0,0] (tO (qs 0 [3] (jkO (qh [0] (qe (jx_then (jc_ret (jx_inr (jx_thenr ?_)))))))))
    obtain rfl := Option.some.inj h
    exact qr [3] (fun w hm => ⟨o_155, cap_156, sp_157, t_2.1.fPins.length, rfl, hs_158, ho_159, o_160, cap_161, sp_162, t_2.1.fStrokes.length, rfl, hs_163, ho_164, rfl, hm.pk [4, 5]⟩)
   ·refine jc_seq (jc_region (qh [0,0] (qe (jx_then (qi h (fun h => ?_) (fun h => ?_))))))
    ·refine jc_seq (jc_region (qh [0,1,0,2] ?_))
     obtain ⟨t_3, ht_166, h⟩ := bd h
     refine tO (pc 0 (fun w hm => spec_NewHammer.calls f0 w1 a2.fA w _ C_c (hm.xr C_h) rfl E_c (hm.xr E_h) rfl F_c (hm.xr F_h) rfl ht_166) ?_)
     rintro w v w' hm ⟨o_167, cap_168, sp_169, _, rfl, hs_170, ho_171, o_172, cap_173, sp_174, _, rfl, hs_175, ho_176, rfl, hm'⟩
     refine ⟨_, hm.app hm', jkO ?_⟩
     clear hm hm'
     refine qh [0,0] (tO (qs 0 [3] (jkO (qh [0] (qe (jx_then (jc_ret (jx_inr (jx_thenr ?_)))))))))
     obtain rfl := Option.some.inj h
     exact qr [3] (fun w hm => ⟨o_167, cap_168, sp_169, t_3.1.fPins.length, rfl, hs_170, ho_171, o_172, cap_173, sp_174, t_3.1.fStrokes.length, rfl, hs_175, ho_176, rfl, hm.pk [4, 5]⟩)
    ·refine jc_seq (jc_region (qh [0,0] (qe (jx_then (qi h (fun h => ?_) (fun h => ?_))))))
     ·refine jc_seq (jc_region (qh [0,1,0,2,0,2] ?_))
      obtain ⟨t_4, ht_178, h⟩ := bd h
      refine tO (pc 0 (fun w hm => spec_NewPin.calls f0 w1 a2.fA a2.fB w _ C_c (hm.xr C_h) rfl E_c (hm.xr E_h) rfl F_c (hm.xr F_h) rfl ht_178) ?_)
      rintro w v w' hm ⟨o_179, cap_180, sp_181, _, rfl, hs_182, ho_183, o_184, cap_185, sp_186, _, rfl, hs_187, ho_188, rfl, hm'⟩
      refine ⟨_, hm.app hm', jkO ?_⟩
      clear hm hm'
      refine qh [0,0] (tO (qs 0 [3] (jkO (qh [0] (qe (jx_then (jc_ret (jx_inr (jx_thenr ?_)))))))))
      obtain rfl := Option.some.inj h
      exact qr [3] (fun w hm => ⟨o_179, cap_180, sp_181, t_4.1.fPins.length, rfl, hs_182, ho_183, o_184, cap_185, sp_186, t_4.1.fStrokes.length, rfl, hs_187, ho_188, rfl, hm.pk [4, 5]⟩)
     ·refine jc_seq (jc_region (qh [0,0] (qe (jx_then (qi h (fun h => ?_) (fun h => ?_))))))
      ·refine jc_seq (jc_region (qh [0,1,0,2,0,2,0,2,0,2] ?_))
       obtain ⟨t_5, ht_190, h⟩ := bd h
       refine tO (pc 0 (fun w hm => spec_MovePin.calls f0 w1 a2.fA a2.fB a2.fC a2.fD w _ C_c (hm.xr C_h) rfl E_c (hm.xr E_h) rfl F_c (hm.xr F_h) rfl ht_190) ?_)
       rintro w v w' hm ⟨o_191, cap_192, sp_193, _, rfl, hs_194, ho_195, o_196, cap_197, sp_198, _, rfl, hs_199, ho_200, rfl, hm'⟩
       refine ⟨_, hm.app hm', jkO ?_⟩
       clear hm hm'
       refine qh [0,0] (tO (qs 0 [3] (jkO (qh [0] (qe (jx_then (jc_ret (jx_inr (jx_thenr ?_)))))))))
       obtain rfl := Option.some.inj h
       exact qr [3] (fun w hm => ⟨o_191, cap_192, sp_193, t_5.1.fPins.length, rfl, hs_194, ho_195, o_196, cap_197, sp_198, t_5.1.fStrokes.length, rfl, hs_199, ho_200, rfl, hm.pk [4, 5]⟩)
      ·refine jc_skip (jx_inn (jx_then (jc_seq (jc_region (qh [0] (tO (qs 0 [3] (jkO (qh [0] (qe (jx_then (jc_ret ?_))))))))))))
       obtain rfl := Option.some.inj h
       exact jx_ghost 147 encGWornPin (jx_ghost 2 encI64 (qr [3] (fun w hm => ⟨none, 0, [], 0, rfl, (fun e => absurd rfl e), (fun _ => ⟨rfl, rfl⟩), none, 0, [], 0, rfl, (fun e => absurd rfl e), (fun _ => ⟨rfl, rfl⟩), rfl, hm.pk [4, 5]⟩)))
/-! ### spec.l06Worn -/
def spec_l06Worn.k_4 (xs_1 : List GWornPin) (xs_3 : List Int) : Option ((List GWornPin) × (List Int)) := some (xs_1, xs_3)
def spec_l06Worn.l_7 (w0 : GWear) (v1 : GLives) : ((List Int) × Int) → Option (((List Int) × Int) ⊕ ((List Int)))
  | (xs_5, i_6) => (if (decide (i_6 < (w0.fStrokes.length : Int))) = true then (ix w0.fStrokes i_6).bind fun x_9 => (if (decide (x_9 > v1.fHammer)) = true then (if xs_5.length + ([i_6] : List Int).length ≤ 4294967296 then some (.inl ((xs_5 ++ ([i_6] : List Int)), (w64 (i_6 + 1)))) else none) else some (.inl (xs_5, (w64 (i_6 + 1))))) else some (.inr xs_5))
def spec_l06Worn.k_2 (w0 : GWear) (v1 : GLives) (xs_1 : List GWornPin) : Option ((List GWornPin) × (List Int)) := (loop (spec_l06Worn.l_7 w0 v1) (([] : List Int), 0)).bind fun t_8 => spec_l06Worn.k_4 xs_1 t_8
def spec_l06Worn.l_12 (w0 : GWear) (v1 : GLives) : ((List GWornPin) × Int) → Option (((List GWornPin) × Int) ⊕ ((List GWornPin)))
  | (xs_10, i_11) => (if (decide (i_11 < (w0.fPins.length : Int))) = true then (ix w0.fPins i_11).bind fun x_14 => (if (decide (x_14.fTurns > v1.fPin)) = true then (ix w0.fPins i_11).bind fun x_15 => (if xs_10.length + ([x_15] : List GWornPin).length ≤ 4294967296 then some (.inl ((xs_10 ++ ([x_15] : List GWornPin)), (w64 (i_11 + 1)))) else none) else some (.inl (xs_10, (w64 (i_11 + 1))))) else some (.inr xs_10))
def spec_l06Worn (w0 : GWear) (v1 : GLives) : Option ((List GWornPin) × (List Int)) := (loop (spec_l06Worn.l_12 w0 v1) (([] : List GWornPin), 0)).bind fun t_13 => spec_l06Worn.k_2 w0 v1 t_13
theorem spec_l06Worn.calls (w0 : GWear) (v1 : GLives) (w : World) (r : (List GWornPin) × (List Int)) {B_a : Option Addr} {B_an : Nat} (B_c : Nat) (B_h : Rw w B_a 3 encGWornPin w0.fPins) (B_hn : w0.fPins.length = B_an) {C_a : Option Addr} {C_an : Nat} (C_c : Nat) (C_h : Rw w C_a 1 encI64 w0.fStrokes) (C_hn : w0.fStrokes.length = C_an) (A_b : Nat) (hm0 : Mem w (bs [some A_b]) [⟨some A_b, 62, [(.slice B_a B_an B_c), (.slice C_a C_an C_c)]⟩] w) (B_ha : w0.fPins ≠ [] → aB B_a ∉ bs [some A_b]) (C_ha : w0.fStrokes ≠ [] → aB C_a ∉ bs [some A_b]) (h : spec_l06Worn w0 v1 = some r) :
    Calls Tryz.prog 210 #[(.pointer (some ⟨A_b, 0, none⟩)), (.agg #[(.int .i64 v1.fPin), (.int .i64 v1.fHammer)])] w fun e w' => ∃ v, e = .returned v ∧ (∃ (o0 : Option Nat) (c0 : Nat) (s0 : List Value) (n0 : Nat), r.1.length = n0 ∧ (o0 ≠ none → n0 ≤ c0 ∧ s0.length = (c0 - n0) * 3) ∧ (o0 = none → r.1 = [] ∧ c0 = 0) ∧ ∃ (o1 : Option Nat) (c1 : Nat) (s1 : List Value) (n1 : Nat), r.2.length = n1 ∧ (o1 ≠ none → n1 ≤ c1 ∧ s1.length = (c1 - n1) * 1) ∧ (o1 = none → r.2 = [] ∧ c1 = 0) ∧ v = .tuple #[.slice (o0.map fun b => ⟨b, 0, none⟩) n0 c0, .slice (o1.map fun b => ⟨b, 0, none⟩) n1 c1] ∧ Mem w (bs [some A_b]) [⟨some A_b, 62, [(.slice B_a B_an B_c), (.slice C_a C_an C_c)]⟩, ⟨o0, 147, row encGWornPin r.1 s0⟩, ⟨o1, 2, row encI64 r.2 s1⟩] w') := by
  subst B_hn C_hn
  rw [spec_l06Worn] at h
  refine enter (args := [(.pointer (some ⟨A_b, 0, none⟩)), (.agg #[(.int .i64 v1.fPin), (.int .i64 v1.fHammer)])]) Tryz.func210 rfl Tryz.ntmps210 (by kernel_rfl) (L := [⟨some A_b, 62, [(.slice B_a w0.fPins.length B_c), (.slice C_a w0.fStrokes.length C_c)]⟩]) (W := bs [some A_b]) hm0 ?_
  refine jc_seq (jc_region (tO (qa 0 (fun b_1 => jkO (qh [0,0] (qe (jx_then (jc_seq (jc_region (tO (qa 0 (fun b_2 => jkO (qh [0] (qe (jx_then (jc_seq (jc_region (tO (qa 0 (fun b_3 => jkO (qh [0] (qe (jx_then (jc_seq (jc_seq (jc_region (qh [0] (qe (jx_then (jc_meet (fun (j : (List GWornPin) × (Option Nat) × Nat × (List Value) × Nat) => match j with | ⟨xs_1, o_166, cap_167, sp_168, n_169⟩ => spec_l06Worn.k_2 w0 v1 xs_1 = some r ∧ (xs_1.length = n_169) ∧ ((o_166 ≠ none → n_169 ≤ cap_167 ∧ sp_168.length = (cap_167 - n_169) * 3)) ∧ ((o_166 = none → xs_1 = [] ∧ cap_167 = 0))) (fun (j : (List GWornPin) × (Option Nat) × Nat × (List Value) × Nat) => match j with | ⟨xs_1, o_166, cap_167, sp_168, n_169⟩ => [(0, [], (.pointer (some ⟨A_b, 0, none⟩))), (3, [], (.pointer (some ⟨b_1, 0, none⟩))), (4, [], (.slice none 0 0)), (5, [], (.slice none 0 0)), (6, [], (.slice (o_166.map fun b => ⟨b, 0, none⟩) n_169 cap_167)), (7, [], (.slice (some ⟨b_3, 0, none⟩) 0 0))]) (fun (j : (List GWornPin) × (Option Nat) × Nat × (List Value) × Nat) => match j with | ⟨xs_1, o_166, cap_167, sp_168, n_169⟩ => [⟨some A_b, 62, [(.slice B_a w0.fPins.length B_c), (.slice C_a w0.fStrokes.length C_c)]⟩, ⟨some b_1, 65, [(.int .i64 v1.fPin), (.int .i64 v1.fHammer)]⟩, ⟨o_166, 147, row encGWornPin xs_1 sp_168⟩, ⟨(some b_3), 2, row encI64 ([] : List Int) []⟩]) ?_ ?_))))))))))))))))))))))))))))))
  ·refine jc_block ?_
   obtain ⟨t_13, ht_431, hr_416⟩ := bd h
   refine jc_loop (fun (s : (List GWornPin) × Int) (x : (Option Nat) × Nat × (List Value) × Nat) => match s, x with | ⟨xs_10, i_11⟩, ⟨o_410, cap_411, sp_412, n_413⟩ => (xs_10.length = n_413) ∧ ((o_410 ≠ none → n_413 ≤ cap_411 ∧ sp_412.length = (cap_411 - n_413) * 3)) ∧ ((o_410 = none → xs_10 = [] ∧ cap_411 = 0))) (fun (s : (List GWornPin) × Int) (x : (Option Nat) × Nat × (List Value) × Nat) => match s, x with | ⟨xs_10, i_11⟩, ⟨o_410, cap_411, sp_412, n_413⟩ => [(0, [], (.pointer (some ⟨A_b, 0, none⟩))), (3, [], (.pointer (some ⟨b_1, 0, none⟩))), (4, [], (.slice none 0 0)), (5, [], (.slice none 0 0)), (6, [], (.slice (o_410.map fun b => ⟨b, 0, none⟩) n_413 cap_411)), (7, [], (.slice (some ⟨b_3, 0, none⟩) 0 0)), (8, [], (.int .i64 i_11))]) (fun (s : (List GWornPin) × Int) (x : (Option Nat) × Nat × (List Value) × Nat) => match s, x with | ⟨xs_10, i_11⟩, ⟨o_410, cap_411, sp_412, n_413⟩ => [⟨some A_b, 62, [(.slice B_a w0.fPins.length B_c), (.slice C_a w0.fStrokes.length C_c)]⟩, ⟨some b_1, 65, [(.int .i64 v1.fPin), (.int .i64 v1.fHammer)]⟩, ⟨o_410, 147, row encGWornPin xs_10 sp_412⟩, ⟨(some b_3), 2, row encI64 ([] : List Int) []⟩]) ht_431 ⟨(some b_2), 0, [], 0⟩ ⟨rfl, (fun _ => ⟨Nat.le_refl _, by simp⟩), (fun e => nomatch e)⟩ (by kernel_rfl) [0, 1, 2, 3] (by kernel_rfl) (by kernel_rfl) ?_
   rintro ⟨xs_10, i_11⟩ ⟨o_410, cap_411, sp_412, n_413⟩ y_417 ⟨rfl, hs_414, ho_415⟩ h
   rw [spec_l06Worn.l_12] at h
   refine jc_seq (jc_seq (jc_region (qh [0,0,0,0,0,0,0] (qe (jx_then (qi h (fun h => ?_) (fun h => ?_)))))))
   ·refine jc_skip (jx_then (jc_seq (jc_block (jc_seq (qg [⟨some A_b, 62, [(.slice B_a w0.fPins.length B_c), (.slice C_a w0.fStrokes.length C_c)]⟩, ⟨some b_1, 65, [(.int .i64 v1.fPin), (.int .i64 v1.fHammer)]⟩, ⟨o_410, 147, row encGWornPin xs_10 sp_412⟩, ⟨(some b_3), 2, row encI64 ([] : List Int) []⟩] 11 (qd [⟨0, 0, 0⟩,⟨1, 0, 0⟩,⟨2, 0, 0⟩,⟨3, 0, 0⟩,⟨4, 0, 0⟩,⟨8, 0, 0⟩,⟨9, 1, 0⟩] 4 [0, 1, 2, 3] ?_))))))
    obtain ⟨x_14, hx_420, h⟩ := bd h
    refine qv 5 0 [0, 1, 2, 3] (fun w hm => idx_run (a := B_a) (len := w0.fPins.length) (s := 3) (j := i_11) (by kernel_rfl) (ix_some hx_420).1 (ltn hx_420 rfl) (B_h.sp hx_420)) (qd [⟨6, 0, 0⟩] 2 [0, 1, 2, 3] (qv 7 0 [0, 1, 2, 3] (fun w hm => ld_run (b := aB B_a) (off := (aO B_a + i_11.toNat * 3 + 2)) (s := 1) (agg := false) (vs := (((encGWornPin x_14).drop 2).take 1)) (by kernel_rfl) (by kernel_rfl) (.inr rfl) (((hm.exRowW B_h B_ha).at hx_420).sub 2 1)) (qd [⟨10, 0, 0⟩] 0 [0, 1, 2, 3] (qz (jx_then (qi h (fun h => ?_) (fun h => ?_)))))))
    ·refine jc_region (qh [0,0,0,0,0,0] ?_)
     obtain ⟨x_15, hx_422, h⟩ := bd h
     refine tO (qx 0 B_a 3 hx_422 rfl (B_h.sp hx_422) (jkO (tO (ql 0 true (fun w hm => ((hm.exRowW B_h B_ha).at hx_422)) (jkO (tO (qa 0 (fun b_423 => jkO ?_))))))))
     obtain ⟨hg_424, h⟩ := gd h
     exact tO (p_apn 0 2 o_410 147 xs_10.length 1 cap_411 3 16 (some ⟨b_423, 0, none⟩) encGWornPin xs_10 ([x_15] : List GWornPin) sp_412 (.agg #[(.int .i8 0), (.int .i8 0), (.int .i64 0)]) rfl rfl (by kernel_rfl) (by kernel_rfl) (by kernel_rfl) encGWornPin_len encGWornPin_cell hs_414 ho_415 (fun w hm => (hm.ow 4 (some b_423) 147 ([x_15] : List GWornPin) [] (fun e => nomatch e) encGWornPin_len)) hg_424 (by kernel_rfl) (by kernel_rfl) (fun o_425 cap_426 sp_427 hs_428 ho_429 => jkO (qh [0] (qe (jx_inn (jx_then (jc_region (qh [0,0,0] (qe (qb ((xs_10 ++ ([x_15] : List GWornPin)), (w64 (i_11 + 1))) ⟨o_425, cap_426, sp_427, (xs_10 ++ ([x_15] : List GWornPin)).length⟩ h ⟨rfl, hs_428, ho_429⟩ [0, 1, 2, 3]))))))))))
    ·exact jc_skip (jx_inn (jx_then (jc_region (qh [0,0,0] (qe (qb (xs_10, (w64 (i_11 + 1))) ⟨o_410, cap_411, sp_412, xs_10.length⟩ h ⟨rfl, hs_414, ho_415⟩ [0, 1, 2, 3]))))))
   ·refine jc_exit (jx_thenx (jx_leave xs_10 (Option.some.inj h).symm (fun e_430 => ?_)))
    subst e_430
    exact jx_ine (qm ⟨xs_10, o_410, cap_411, sp_412, xs_10.length⟩ ⟨hr_416, rfl, hs_414, ho_415⟩ [0, 1, 2, 3])
  ·rintro ⟨xs_1, o_166, cap_167, sp_168, n_169⟩ ⟨h, rfl, hs_170, ho_171⟩
   replace h : spec_l06Worn.k_2 w0 v1 xs_1 = some r := h
   rw [spec_l06Worn.k_2] at h
   refine jx_then (jc_seq (jc_seq (jc_region (qh [0] (qe (jx_then (jc_meet (fun (j : (List Int) × (Option Nat) × Nat × (List Value) × Nat) => match j with | ⟨xs_3, o_325, cap_326, sp_327, n_328⟩ => spec_l06Worn.k_4 xs_1 xs_3 = some r ∧ (xs_3.length = n_328) ∧ ((o_325 ≠ none → n_328 ≤ cap_326 ∧ sp_327.length = (cap_326 - n_328) * 1)) ∧ ((o_325 = none → xs_3 = [] ∧ cap_326 = 0))) (fun (j : (List Int) × (Option Nat) × Nat × (List Value) × Nat) => match j with | ⟨xs_3, o_325, cap_326, sp_327, n_328⟩ => [(4, [], (.slice none 0 0)), (5, [], (.slice none 0 0)), (6, [], (.slice (o_166.map fun b => ⟨b, 0, none⟩) xs_1.length cap_167)), (7, [], (.slice (o_325.map fun b => ⟨b, 0, none⟩) n_328 cap_326))]) (fun (j : (List Int) × (Option Nat) × Nat × (List Value) × Nat) => match j with | ⟨xs_3, o_325, cap_326, sp_327, n_328⟩ => [⟨some A_b, 62, [(.slice B_a w0.fPins.length B_c), (.slice C_a w0.fStrokes.length C_c)]⟩, ⟨some b_1, 65, [(.int .i64 v1.fPin), (.int .i64 v1.fHammer)]⟩, ⟨o_166, 147, row encGWornPin xs_1 sp_168⟩, ⟨o_325, 2, row encI64 xs_3 sp_327⟩]) ?_ ?_)))))))
   ·refine jc_block ?_
    obtain ⟨t_8, ht_379, hr_365⟩ := bd h
    refine jc_loop (fun (s : (List Int) × Int) (x : (Option Nat) × Nat × (List Value) × Nat) => match s, x with | ⟨xs_5, i_6⟩, ⟨o_359, cap_360, sp_361, n_362⟩ => (xs_5.length = n_362) ∧ ((o_359 ≠ none → n_362 ≤ cap_360 ∧ sp_361.length = (cap_360 - n_362) * 1)) ∧ ((o_359 = none → xs_5 = [] ∧ cap_360 = 0))) (fun (s : (List Int) × Int) (x : (Option Nat) × Nat × (List Value) × Nat) => match s, x with | ⟨xs_5, i_6⟩, ⟨o_359, cap_360, sp_361, n_362⟩ => [(0, [], (.pointer (some ⟨A_b, 0, none⟩))), (3, [], (.pointer (some ⟨b_1, 0, none⟩))), (4, [], (.slice none 0 0)), (5, [], (.slice none 0 0)), (6, [], (.slice (o_166.map fun b => ⟨b, 0, none⟩) xs_1.length cap_167)), (7, [], (.slice (o_359.map fun b => ⟨b, 0, none⟩) n_362 cap_360)), (9, [], (.int .i64 i_6))]) (fun (s : (List Int) × Int) (x : (Option Nat) × Nat × (List Value) × Nat) => match s, x with | ⟨xs_5, i_6⟩, ⟨o_359, cap_360, sp_361, n_362⟩ => [⟨some A_b, 62, [(.slice B_a w0.fPins.length B_c), (.slice C_a w0.fStrokes.length C_c)]⟩, ⟨some b_1, 65, [(.int .i64 v1.fPin), (.int .i64 v1.fHammer)]⟩, ⟨o_166, 147, row encGWornPin xs_1 sp_168⟩, ⟨o_359, 2, row encI64 xs_5 sp_361⟩]) ht_379 ⟨(some b_3), 0, [], 0⟩ ⟨rfl, (fun _ => ⟨Nat.le_refl _, by simp⟩), (fun e => nomatch e)⟩ (by kernel_rfl) [0, 1, 2, 3] (by kernel_rfl) (by kernel_rfl) ?_
    rintro ⟨xs_5, i_6⟩ ⟨o_359, cap_360, sp_361, n_362⟩ y_366 ⟨rfl, hs_363, ho_364⟩ h
    rw [spec_l06Worn.l_7] at h
    refine jc_seq (jc_seq (jc_region (qh [0,0,0,0,0,0,0] (qe (jx_then (qi h (fun h => ?_) (fun h => ?_)))))))
    ·refine jc_skip (jx_then (jc_seq (jc_block (jc_seq (qg [⟨some A_b, 62, [(.slice B_a w0.fPins.length B_c), (.slice C_a w0.fStrokes.length C_c)]⟩, ⟨some b_1, 65, [(.int .i64 v1.fPin), (.int .i64 v1.fHammer)]⟩, ⟨o_166, 147, row encGWornPin xs_1 sp_168⟩, ⟨o_359, 2, row encI64 xs_5 sp_361⟩] 10 (qd [⟨0, 0, 0⟩,⟨1, 0, 0⟩,⟨2, 0, 0⟩,⟨3, 0, 0⟩,⟨4, 0, 0⟩,⟨7, 0, 0⟩,⟨8, 1, 0⟩] 3 [0, 1, 2, 3] ?_))))))
     obtain ⟨x_9, hx_369, h⟩ := bd h
     refine qv 5 0 [0, 1, 2, 3] (fun w hm => idx_run (a := C_a) (len := w0.fStrokes.length) (s := 1) (j := i_6) (by kernel_rfl) (ix_some hx_369).1 (ltn hx_369 rfl) (C_h.sp hx_369)) (qv 6 0 [0, 1, 2, 3] (fun w hm => ld_run (b := aB C_a) (off := (aO C_a + i_6.toNat * 1)) (s := 1) (agg := false) (vs := (encI64 x_9)) (by kernel_rfl) (by kernel_rfl) (.inr rfl) ((hm.exRowW C_h C_ha).at hx_369)) (qd [⟨9, 0, 0⟩] 0 [0, 1, 2, 3] (qz (jx_then (qi h (fun h => ?_) (fun h => ?_))))))
     ·refine jc_region (qh [0,0] (tO (qa 0 (fun b_371 => jkO ?_))))
      obtain ⟨hg_372, h⟩ := gd h
      exact tO (p_apn 0 3 o_359 2 xs_5.length 1 cap_360 1 8 (some ⟨b_371, 0, none⟩) encI64 xs_5 ([i_6] : List Int) sp_361 (.int .i64 0) rfl rfl (by kernel_rfl) (by kernel_rfl) (by kernel_rfl) encI64_len encI64_cell hs_363 ho_364 (fun w hm => (hm.ow 4 (some b_371) 2 ([i_6] : List Int) [] (fun e => nomatch e) encI64_len)) hg_372 (by kernel_rfl) (by kernel_rfl) (fun o_373 cap_374 sp_375 hs_376 ho_377 => jkO (qh [0] (qe (jx_inn (jx_then (jc_region (qh [0,0,0] (qe (qb ((xs_5 ++ ([i_6] : List Int)), (w64 (i_6 + 1))) ⟨o_373, cap_374, sp_375, (xs_5 ++ ([i_6] : List Int)).length⟩ h ⟨rfl, hs_376, ho_377⟩ [0, 1, 2, 3]))))))))))
     ·exact jc_skip (jx_inn (jx_then (jc_region (qh [0,0,0] (qe (qb (xs_5, (w64 (i_6 + 1))) ⟨o_359, cap_360, sp_361, xs_5.length⟩ h ⟨rfl, hs_363, ho_364⟩ [0, 1, 2, 3]))))))
    ·refine jc_exit (jx_thenx (jx_leave xs_5 (Option.some.inj h).symm (fun e_378 => ?_)))
     subst e_378
     exact jx_ine (qm ⟨xs_5, o_359, cap_360, sp_361, xs_5.length⟩ ⟨hr_365, rfl, hs_363, ho_364⟩ [0, 1, 2, 3])
   ·rintro ⟨xs_3, o_325, cap_326, sp_327, n_328⟩ ⟨h, rfl, hs_329, ho_330⟩
    replace h : spec_l06Worn.k_4 xs_1 xs_3 = some r := h
    rw [spec_l06Worn.k_4] at h
    refine jx_then (jc_seq (jc_region (qh [0,0,0,0] (qe (jx_then (jc_ret ?_))))))
    obtain rfl := Option.some.inj h
    exact qr [] (fun w hm => ⟨o_166, cap_167, sp_168, xs_1.length, rfl, hs_170, ho_171, o_325, cap_326, sp_327, xs_3.length, rfl, hs_329, ho_330, rfl, hm.pk [0, 2, 3]⟩)
/-! ### spec.l06Whole -/
def spec_l06Whole (w0 : GWear) (v1 : GLives) : Option (Bool) := (spec_l06Worn w0 v1).bind fun t_1 => some (((t_1.1.length : Int) == 0) && ((t_1.2.length : Int) == 0))
theorem spec_l06Whole.calls (w0 : GWear) (v1 : GLives) (w : World) (r : Bool) {B_a : Option Addr} {B_an : Nat} (B_c : Nat) (B_h : Rw w B_a 3 encGWornPin w0.fPins) (B_hn : w0.fPins.length = B_an) {C_a : Option Addr} {C_an : Nat} (C_c : Nat) (C_h : Rw w C_a 1 encI64 w0.fStrokes) (C_hn : w0.fStrokes.length = C_an) (A_b : Nat) (hm0 : Mem w (bs [some A_b]) [⟨some A_b, 62, [(.slice B_a B_an B_c), (.slice C_a C_an C_c)]⟩] w) (B_ha : w0.fPins ≠ [] → aB B_a ∉ bs [some A_b]) (C_ha : w0.fStrokes ≠ [] → aB C_a ∉ bs [some A_b]) (h : spec_l06Whole w0 v1 = some r) :
    Calls Tryz.prog 165 #[(.pointer (some ⟨A_b, 0, none⟩)), (.agg #[(.int .i64 v1.fPin), (.int .i64 v1.fHammer)])] w fun e w' => ∃ v, e = .returned v ∧ (v = (.bool r) ∧ Mem w (bs [some A_b]) [⟨some A_b, 62, [(.slice B_a B_an B_c), (.slice C_a C_an C_c)]⟩] w') := by
  subst B_hn C_hn
  rw [spec_l06Whole] at h
  refine enter (args := [(.pointer (some ⟨A_b, 0, none⟩)), (.agg #[(.int .i64 v1.fPin), (.int .i64 v1.fHammer)])]) Tryz.func165 rfl Tryz.ntmps165 (by kernel_rfl) (L := [⟨some A_b, 62, [(.slice B_a w0.fPins.length B_c), (.slice C_a w0.fStrokes.length C_c)]⟩]) (W := bs [some A_b]) hm0 ?_
  refine jc_seq (jc_region (tO (qa 0 (fun b_1 => jkO (qh [0] (qe (jx_then (jc_seq (jc_region (qh [0,1] ?_))))))))))
  obtain ⟨t_1, ht_2, h⟩ := bd h
  refine tO (pc 0 (fun w hm => spec_l06Worn.calls w0 v1 w _ B_c (hm.exRowW B_h B_ha) rfl C_c (hm.exRowW C_h C_ha) rfl A_b (hm.pass (N := [⟨some A_b, 62, [(.slice B_a w0.fPins.length B_c), (.slice C_a w0.fStrokes.length C_c)]⟩]) [0] (by kernel_rfl) (by kernel_rfl)) (hm.exApart (N := [⟨some A_b, 62, [(.slice B_a w0.fPins.length B_c), (.slice C_a w0.fStrokes.length C_c)]⟩]) B_h B_ha [0] (by kernel_rfl)) (hm.exApart (N := [⟨some A_b, 62, [(.slice B_a w0.fPins.length B_c), (.slice C_a w0.fStrokes.length C_c)]⟩]) C_h C_ha [0] (by kernel_rfl)) ht_2) ?_)
  rintro w v w' hm ⟨o_3, cap_4, sp_5, _, rfl, hs_6, ho_7, o_8, cap_9, sp_10, _, rfl, hs_11, ho_12, rfl, hm'⟩
  refine ⟨_, hm.appW (ps := [(0, ⟨some A_b, 62, [(.slice B_a w0.fPins.length B_c), (.slice C_a w0.fStrokes.length C_c)]⟩)]) (N := [⟨o_3, 147, row encGWornPin t_1.1 sp_5⟩, ⟨o_8, 2, row encI64 t_1.2 sp_10⟩]) hm' (by kernel_rfl) (by kernel_rfl), jkO ?_⟩
  clear hm hm'
  refine qh [0,0,0,0,0] (qe (jx_then (jc_seq (jc_region (qf [(0, 0), (0, 0), (0, 0), (0, 0), (0, 1), (0, 1), (0, 1), (0, 0), (0, 0)] (qe (jx_then (jc_ret ?_))))))))
  obtain rfl := Option.some.inj h
  exact qr [] (fun w hm => ⟨rfl, hm.pk [0]⟩)
/-! ### spec.l06Done -/
def spec_l06Done.k_4 (xs_2 : List GWornPin) (xs_3 : List Int) : Option (GWear × Int × Int) := some ((⟨xs_2, xs_3⟩ : GWear), (-1), 0)
def spec_l06Done.k_15 (i_7 : Int) (xs_10 : List GWornPin) (xs_11 : List Int) (i_14 : Int) : Option (((List GWornPin) × (List Int) × Int) ⊕ ((GWear × Int × Int) ⊕ ((List GWornPin) × (List Int)))) := (if (i_14 != 0) = true then some (.inr (.inl ((⟨[], []⟩ : GWear), i_7, i_14))) else some (.inl (xs_10, xs_11, (w64 (i_7 + 1)))))
def spec_l06Done.k_13 (v2 : GLives) (i_7 : Int) (xs_10 : List GWornPin) (xs_11 : List Int) (i_12 : Int) : Option (((List GWornPin) × (List Int) × Int) ⊕ ((GWear × Int × Int) ⊕ ((List GWornPin) × (List Int)))) := (if (i_12 == 0) = true then (spec_l06Whole (⟨xs_10, xs_11⟩ : GWear) v2).bind fun t_16 => (if (!t_16) = true then spec_l06Done.k_15 i_7 xs_10 xs_11 8 else spec_l06Done.k_15 i_7 xs_10 xs_11 i_12) else spec_l06Done.k_15 i_7 xs_10 xs_11 i_12)
def spec_l06Done.l_8 (f0 : GFrame) (v2 : GLives) (list3 : List GAct) : ((List GWornPin) × (List Int) × Int) → Option (((List GWornPin) × (List Int) × Int) ⊕ ((GWear × Int × Int) ⊕ ((List GWornPin) × (List Int))))
  | (xs_5, xs_6, i_7) => (if (decide (i_7 < (list3.length : Int))) = true then (ix list3 i_7).bind fun x_17 => (spec_DoWearAct f0 (⟨xs_5, xs_6⟩ : GWear) x_17).bind fun t_18 => spec_l06Done.k_13 v2 i_7 t_18.1.fPins t_18.1.fStrokes t_18.2 else some (.inr (.inr (xs_5, xs_6))))
def spec_l06Done (f0 : GFrame) (w1 : GWear) (v2 : GLives) (list3 : List GAct) : Option (GWear × Int × Int) := (spec_l06Copy w1).bind fun t_1 => (loop (spec_l06Done.l_8 f0 v2 list3) (t_1.fPins, t_1.fStrokes, 0)).bind fun t_9 => match t_9 with | .inl p => some p | .inr p => spec_l06Done.k_4 p.1 p.2
theorem spec_l06Done.calls (f0 : GFrame) (w1 : GWear) (v2 : GLives) (list3 : List GAct) (w : World) (r : GWear × Int × Int) {C_a : Option Addr} {C_an : Nat} (C_c : Nat) (C_h : Rw w C_a 2 encGHammer f0.fHammers) (C_hn : f0.fHammers.length = C_an) {E_a : Option Addr} {E_an : Nat} (E_c : Nat) (E_h : Rw w E_a 3 encGWornPin w1.fPins) (E_hn : w1.fPins.length = E_an) {F_a : Option Addr} {F_an : Nat} (F_c : Nat) (F_h : Rw w F_a 1 encI64 w1.fStrokes) (F_hn : w1.fStrokes.length = F_an) {J_a : Option Addr} {J_an : Nat} (J_c : Nat) (J_h : Rw w J_a 5 encGAct list3) (J_hn : list3.length = J_an) (A_b : Nat) (D_b : Nat) (hm0 : Mem w (bs [some A_b, some D_b]) [⟨some A_b, 27, [(.int .i16 f0.fSteps), (.slice C_a C_an C_c)]⟩, ⟨some D_b, 62, [(.slice E_a E_an E_c), (.slice F_a F_an F_c)]⟩] w) (C_ha : f0.fHammers ≠ [] → aB C_a ∉ bs [some A_b, some D_b]) (E_ha : w1.fPins ≠ [] → aB E_a ∉ bs [some A_b, some D_b]) (F_ha : w1.fStrokes ≠ [] → aB F_a ∉ bs [some A_b, some D_b]) (J_ha : list3 ≠ [] → aB J_a ∉ bs [some A_b, some D_b]) (h : spec_l06Done f0 w1 v2 list3 = some r) :
    Calls Tryz.prog 91 #[(.pointer (some ⟨A_b, 0, none⟩)), (.pointer (some ⟨D_b, 0, none⟩)), (.agg #[(.int .i64 v2.fPin), (.int .i64 v2.fHammer)]), (.slice J_a J_an J_c)] w fun e w' => ∃ v, e = .returned v ∧ (∃ (o0 : Option Nat) (c0 : Nat) (s0 : List Value) (n0 : Nat), r.1.fPins.length = n0 ∧ (o0 ≠ none → n0 ≤ c0 ∧ s0.length = (c0 - n0) * 3) ∧ (o0 = none → r.1.fPins = [] ∧ c0 = 0) ∧ ∃ (o1 : Option Nat) (c1 : Nat) (s1 : List Value) (n1 : Nat), r.1.fStrokes.length = n1 ∧ (o1 ≠ none → n1 ≤ c1 ∧ s1.length = (c1 - n1) * 1) ∧ (o1 = none → r.1.fStrokes = [] ∧ c1 = 0) ∧ v = .tuple #[.agg #[.slice (o0.map fun b => ⟨b, 0, none⟩) n0 c0, .slice (o1.map fun b => ⟨b, 0, none⟩) n1 c1], (.int .i64 r.2.1), (.int .i64 r.2.2)] ∧ Mem w (bs [some A_b, some D_b]) [⟨some A_b, 27, [(.int .i16 f0.fSteps), (.slice C_a C_an C_c)]⟩, ⟨some D_b, 62, [(.slice E_a E_an E_c), (.slice F_a F_an F_c)]⟩, ⟨o0, 147, row encGWornPin r.1.fPins s0⟩, ⟨o1, 2, row encI64 r.1.fStrokes s1⟩] w') := by
  subst C_hn E_hn F_hn J_hn
  rw [spec_l06Done] at h
  refine enter (args := [(.pointer (some ⟨A_b, 0, none⟩)), (.pointer (some ⟨D_b, 0, none⟩)), (.agg #[(.int .i64 v2.fPin), (.int .i64 v2.fHammer)]), (.slice J_a list3.length J_c)]) Tryz.func91 rfl Tryz.ntmps91 (by kernel_rfl) (L := [⟨some A_b, 27, [(.int .i16 f0.fSteps), (.slice C_a f0.fHammers.length C_c)]⟩, ⟨some D_b, 62, [(.slice E_a w1.fPins.length E_c), (.slice F_a w1.fStrokes.length F_c)]⟩]) (W := bs [some A_b, some D_b]) hm0 ?_
  refine jc_seq (jc_region (tO (qa 0 (fun b_1 => jkO (tO (qa 0 (fun b_2 => jkO (qh [0,0] (qe (jx_then (jc_seq (jc_region (qh [0] ?_)))))))))))))
  obtain ⟨t_1, ht_3, h⟩ := bd h
  refine tO (pc 0 (fun w hm => spec_l06Copy.calls w1 w _ E_c (hm.exRowW E_h E_ha) rfl F_c (hm.exRowW F_h F_ha) rfl D_b (hm.pass (N := [⟨some D_b, 62, [(.slice E_a w1.fPins.length E_c), (.slice F_a w1.fStrokes.length F_c)]⟩]) [1] (by kernel_rfl) (by kernel_rfl)) (hm.exApart (N := [⟨some D_b, 62, [(.slice E_a w1.fPins.length E_c), (.slice F_a w1.fStrokes.length F_c)]⟩]) E_h E_ha [1] (by kernel_rfl)) (hm.exApart (N := [⟨some D_b, 62, [(.slice E_a w1.fPins.length E_c), (.slice F_a w1.fStrokes.length F_c)]⟩]) F_h F_ha [1] (by kernel_rfl)) ht_3) ?_)
  rintro w v w' hm ⟨o_4, cap_5, sp_6, _, rfl, hs_7, ho_8, o_9, cap_10, sp_11, _, rfl, hs_12, ho_13, rfl, hm'⟩
  refine ⟨_, hm.appW (ps := [(1, ⟨some D_b, 62, [(.slice E_a w1.fPins.length E_c), (.slice F_a w1.fStrokes.length F_c)]⟩)]) (N := [⟨o_4, 147, row encGWornPin t_1.fPins sp_6⟩, ⟨o_9, 2, row encI64 t_1.fStrokes sp_11⟩]) hm' (by kernel_rfl) (by kernel_rfl), jkO ?_⟩
  clear hm hm'
  refine tO (qa 0 (fun b_14 => jkO (tO (qs 0 [6] (jkO (qe (jx_then (jc_seq (jc_seq (jc_region (qh [0] (qe (jx_then (jc_meet (fun (j : (List GWornPin) × (List Int) × (Option Nat) × Nat × (List Value) × Nat × (Option Nat) × Nat × (List Value) × Nat) => match j with | ⟨xs_2, xs_3, o_780, cap_781, sp_782, n_783, o_786, cap_787, sp_788, n_789⟩ => spec_l06Done.k_4 xs_2 xs_3 = some r ∧ (xs_2.length = n_783) ∧ ((o_780 ≠ none → n_783 ≤ cap_781 ∧ sp_782.length = (cap_781 - n_783) * 3)) ∧ ((o_780 = none → xs_2 = [] ∧ cap_781 = 0)) ∧ (xs_3.length = n_789) ∧ ((o_786 ≠ none → n_789 ≤ cap_787 ∧ sp_788.length = (cap_787 - n_789) * 1)) ∧ ((o_786 = none → xs_3 = [] ∧ cap_787 = 0))) (fun (j : (List GWornPin) × (List Int) × (Option Nat) × Nat × (List Value) × Nat × (Option Nat) × Nat × (List Value) × Nat) => match j with | ⟨xs_2, xs_3, o_780, cap_781, sp_782, n_783, o_786, cap_787, sp_788, n_789⟩ => [(8, [], (.pointer (some ⟨b_2, 0, none⟩))), (9, [], (.int .i64 0)), (10, [], (.int .i64 0)), (11, [], (.pointer (some ⟨b_14, 0, none⟩)))]) (fun (j : (List GWornPin) × (List Int) × (Option Nat) × Nat × (List Value) × Nat × (Option Nat) × Nat × (List Value) × Nat) => match j with | ⟨xs_2, xs_3, o_780, cap_781, sp_782, n_783, o_786, cap_787, sp_788, n_789⟩ => [⟨some A_b, 27, [(.int .i16 f0.fSteps), (.slice C_a f0.fHammers.length C_c)]⟩, ⟨some D_b, 62, [(.slice E_a w1.fPins.length E_c), (.slice F_a w1.fStrokes.length F_c)]⟩, ⟨some b_1, 65, [(.int .i64 v2.fPin), (.int .i64 v2.fHammer)]⟩, ⟨some b_2, 62, [(.slice none 0 0), (.slice none 0 0)]⟩, ⟨none, 0, []⟩, ⟨none, 0, []⟩, ⟨some b_14, 62, [(.slice (o_780.map fun b => ⟨b, 0, none⟩) n_783 cap_781), (.slice (o_786.map fun b => ⟨b, 0, none⟩) n_789 cap_787)]⟩, ⟨o_780, 147, row encGWornPin xs_2 sp_782⟩, ⟨o_786, 2, row encI64 xs_3 sp_788⟩]) ?_ ?_))))))))))))))
  ·refine jc_block ?_
   obtain ⟨t_9, ht_1042, hr_964⟩ := bd h
   refine jc_ghost 0 (fun (_ : Unit) => ([] : List Value)) (jc_ghost 0 (fun (_ : Unit) => ([] : List Value)) (jc_loop (fun (s : (List GWornPin) × (List Int) × Int) (x : (Option Nat) × Nat × (List Value) × Nat × (Option Nat) × Nat × (List Value) × Nat) => match s, x with | ⟨xs_5, xs_6, i_7⟩, ⟨o_952, cap_953, sp_954, n_955, o_958, cap_959, sp_960, n_961⟩ => (xs_5.length = n_955) ∧ ((o_952 ≠ none → n_955 ≤ cap_953 ∧ sp_954.length = (cap_953 - n_955) * 3)) ∧ ((o_952 = none → xs_5 = [] ∧ cap_953 = 0)) ∧ (xs_6.length = n_961) ∧ ((o_958 ≠ none → n_961 ≤ cap_959 ∧ sp_960.length = (cap_959 - n_961) * 1)) ∧ ((o_958 = none → xs_6 = [] ∧ cap_959 = 0))) (fun (s : (List GWornPin) × (List Int) × Int) (x : (Option Nat) × Nat × (List Value) × Nat × (Option Nat) × Nat × (List Value) × Nat) => match s, x with | ⟨xs_5, xs_6, i_7⟩, ⟨o_952, cap_953, sp_954, n_955, o_958, cap_959, sp_960, n_961⟩ => [(0, [], (.pointer (some ⟨A_b, 0, none⟩))), (3, [], (.slice J_a list3.length J_c)), (6, [], (.pointer (some ⟨b_1, 0, none⟩))), (8, [], (.pointer (some ⟨b_2, 0, none⟩))), (9, [], (.int .i64 0)), (10, [], (.int .i64 0)), (11, [], (.pointer (some ⟨b_14, 0, none⟩))), (12, [], (.int .i64 i_7))]) (fun (s : (List GWornPin) × (List Int) × Int) (x : (Option Nat) × Nat × (List Value) × Nat × (Option Nat) × Nat × (List Value) × Nat) => match s, x with | ⟨xs_5, xs_6, i_7⟩, ⟨o_952, cap_953, sp_954, n_955, o_958, cap_959, sp_960, n_961⟩ => [⟨some A_b, 27, [(.int .i16 f0.fSteps), (.slice C_a f0.fHammers.length C_c)]⟩, ⟨some D_b, 62, [(.slice E_a w1.fPins.length E_c), (.slice F_a w1.fStrokes.length F_c)]⟩, ⟨some b_1, 65, [(.int .i64 v2.fPin), (.int .i64 v2.fHammer)]⟩, ⟨some b_2, 62, [(.slice none 0 0), (.slice none 0 0)]⟩, ⟨none, 0, []⟩, ⟨none, 0, []⟩, ⟨some b_14, 62, [(.slice (o_952.map fun b => ⟨b, 0, none⟩) n_955 cap_953), (.slice (o_958.map fun b => ⟨b, 0, none⟩) n_961 cap_959)]⟩, ⟨o_952, 147, row encGWornPin xs_5 sp_954⟩, ⟨o_958, 2, row encI64 xs_6 sp_960⟩]) ht_1042 ⟨o_4, cap_5, sp_6, t_1.fPins.length, o_9, cap_10, sp_11, t_1.fStrokes.length⟩ ⟨rfl, hs_7, ho_8, rfl, hs_12, ho_13⟩ (by kernel_rfl) [0, 1, 2, 3, 7, 8, 6, 4, 5] (by kernel_rfl) (by kernel_rfl) ?_))
   rintro ⟨xs_5, xs_6, i_7⟩ ⟨o_952, cap_953, sp_954, n_955, o_958, cap_959, sp_960, n_961⟩ y_965 ⟨rfl, hs_956, ho_957, rfl, hs_962, ho_963⟩ h
   rw [spec_l06Done.l_8] at h
   refine jc_seq (jc_seq (jc_region (qh [0,0,0,0] (qe (jx_then (qi h (fun h => ?_) (fun h => ?_)))))))
   ·refine jc_skip (jx_then (jc_seq (jc_block (jc_seq (jc_meet (fun (j : (List GWornPin) × (List Int) × Int × Nat × (Option Nat) × Nat × (List Value) × Nat × (Option Nat) × Nat × (List Value) × Nat) => match j with | ⟨xs_10, xs_11, i_12, b_993, o_994, cap_995, sp_996, n_997, o_1000, cap_1001, sp_1002, n_1003⟩ => spec_l06Done.k_13 v2 i_7 xs_10 xs_11 i_12 = some y_965 ∧ (xs_10.length = n_997) ∧ ((o_994 ≠ none → n_997 ≤ cap_995 ∧ sp_996.length = (cap_995 - n_997) * 3)) ∧ ((o_994 = none → xs_10 = [] ∧ cap_995 = 0)) ∧ (xs_11.length = n_1003) ∧ ((o_1000 ≠ none → n_1003 ≤ cap_1001 ∧ sp_1002.length = (cap_1001 - n_1003) * 1)) ∧ ((o_1000 = none → xs_11 = [] ∧ cap_1001 = 0))) (fun (j : (List GWornPin) × (List Int) × Int × Nat × (Option Nat) × Nat × (List Value) × Nat × (Option Nat) × Nat × (List Value) × Nat) => match j with | ⟨xs_10, xs_11, i_12, b_993, o_994, cap_995, sp_996, n_997, o_1000, cap_1001, sp_1002, n_1003⟩ => [(0, [], (.pointer (some ⟨A_b, 0, none⟩))), (3, [], (.slice J_a list3.length J_c)), (6, [], (.pointer (some ⟨b_1, 0, none⟩))), (8, [], (.pointer (some ⟨b_2, 0, none⟩))), (9, [], (.int .i64 0)), (10, [], (.int .i64 0)), (11, [], (.pointer (some ⟨b_14, 0, none⟩))), (12, [], (.int .i64 i_7)), (13, [], (.pointer (some ⟨b_993, 0, none⟩))), (14, [], (.int .i64 i_12))]) (fun (j : (List GWornPin) × (List Int) × Int × Nat × (Option Nat) × Nat × (List Value) × Nat × (Option Nat) × Nat × (List Value) × Nat) => match j with | ⟨xs_10, xs_11, i_12, b_993, o_994, cap_995, sp_996, n_997, o_1000, cap_1001, sp_1002, n_1003⟩ => [⟨some A_b, 27, [(.int .i16 f0.fSteps), (.slice C_a f0.fHammers.length C_c)]⟩, ⟨some D_b, 62, [(.slice E_a w1.fPins.length E_c), (.slice F_a w1.fStrokes.length F_c)]⟩, ⟨some b_1, 65, [(.int .i64 v2.fPin), (.int .i64 v2.fHammer)]⟩, ⟨some b_2, 62, [(.slice none 0 0), (.slice none 0 0)]⟩, ⟨none, 0, []⟩, ⟨none, 0, []⟩, ⟨some b_14, 62, [(.slice (o_952.map fun b => ⟨b, 0, none⟩) xs_5.length cap_953), (.slice (o_958.map fun b => ⟨b, 0, none⟩) xs_6.length cap_959)]⟩, ⟨o_952, 147, row encGWornPin xs_5 sp_954⟩, ⟨o_958, 2, row encI64 xs_6 sp_960⟩, ⟨some b_993, 62, [(.slice (o_994.map fun b => ⟨b, 0, none⟩) n_997 cap_995), (.slice (o_1000.map fun b => ⟨b, 0, none⟩) n_1003 cap_1001)]⟩, ⟨o_994, 147, row encGWornPin xs_10 sp_996⟩, ⟨o_1000, 2, row encI64 xs_11 sp_1002⟩]) ?_ ?_)))))
    ·refine qg [⟨some A_b, 27, [(.int .i16 f0.fSteps), (.slice C_a f0.fHammers.length C_c)]⟩, ⟨some D_b, 62, [(.slice E_a w1.fPins.length E_c), (.slice F_a w1.fStrokes.length F_c)]⟩, ⟨some b_1, 65, [(.int .i64 v2.fPin), (.int .i64 v2.fHammer)]⟩, ⟨some b_2, 62, [(.slice none 0 0), (.slice none 0 0)]⟩, ⟨none, 0, []⟩, ⟨none, 0, []⟩, ⟨some b_14, 62, [(.slice (o_952.map fun b => ⟨b, 0, none⟩) xs_5.length cap_953), (.slice (o_958.map fun b => ⟨b, 0, none⟩) xs_6.length cap_959)]⟩, ⟨o_952, 147, row encGWornPin xs_5 sp_954⟩, ⟨o_958, 2, row encI64 xs_6 sp_960⟩] 15 (qd [⟨0, 0, 0⟩,⟨1, 0, 0⟩,⟨2, 0, 0⟩,⟨3, 6, 0⟩,⟨4, 0, 0⟩,⟨5, 0, 0⟩] 9 [0, 1, 2, 3, 4, 5, 6, 7, 8] ?_)
     obtain ⟨x_17, hx_1016, h⟩ := bd h
     refine qv 6 0 [0, 1, 2, 3, 4, 5, 6, 7, 8] (fun w hm => idx_run (a := J_a) (len := list3.length) (s := 5) (j := i_7) (by kernel_rfl) (ix_some hx_1016).1 (ltn hx_1016 rfl) (J_h.sp hx_1016)) (qv 7 0 [0, 1, 2, 3, 4, 5, 6, 7, 8] (fun w hm => ld_run (b := aB J_a) (off := (aO J_a + i_7.toNat * 5)) (s := 5) (agg := true) (vs := (encGAct x_17)) (by kernel_rfl) (by kernel_rfl) (.inl rfl) ((hm.exRowW J_h J_ha).at hx_1016)) (toD2 8 12 (by kernel_rfl) ?_ ?_))
     ·obtain ⟨t_18, ht_1017, h⟩ := bd h
      refine pc 0 (fun w hm => spec_DoWearAct.calls f0 (⟨xs_5, xs_6⟩ : GWear) x_17 w _ C_c (hm.exRowW C_h C_ha) rfl cap_953 (hm.ow 7 o_952 147 xs_5 sp_954 (fun e => (ho_957 e).1) encGWornPin_len) rfl cap_959 (hm.ow 8 o_958 2 xs_6 sp_960 (fun e => (ho_963 e).1) encI64_len) rfl ht_1017) ?_
      rintro w v w' hm ⟨o_1018, cap_1019, sp_1020, _, rfl, hs_1021, ho_1022, o_1023, cap_1024, sp_1025, _, rfl, hs_1026, ho_1027, rfl, hm'⟩
      refine ⟨_, hm.app hm', kD [0, 1, 2, 3, 4, 5, 6, 7, 8] ?_⟩
      clear hm hm'
      exact qd [⟨9, 0, 0⟩,⟨10, 0, 0⟩,⟨11, 0, 0⟩] 3 [0, 1, 2, 3, 4, 5, 6, 7, 8] (tD 12 (qa 0 (fun b_1028 => kD [0, 1, 2, 3, 4, 5, 6, 7, 8] (tD 13 (qs 0 [11] (kD [0, 1, 2, 3, 4, 5, 6, 7, 8] (qd [⟨14, 0, 0⟩] 0 [0, 1, 2, 3, 4, 5, 6, 7, 8] (qz (qm ⟨t_18.1.fPins, t_18.1.fStrokes, t_18.2, b_1028, o_1018, cap_1019, sp_1020, t_18.1.fPins.length, o_1023, cap_1024, sp_1025, t_18.1.fStrokes.length⟩ ⟨h, rfl, hs_1021, ho_1022, rfl, hs_1026, ho_1027⟩ [0, 1, 2, 3, 4, 5, 6, 7, 8, 11, 9, 10])))))))))
     ·refine qa 0 (fun b_1029 => kD [0, 1, 2, 3, 4, 5, 6, 7, 8] ?_)
      obtain ⟨t_18, ht_1030, h⟩ := bd h
      refine tD 8 (pc 0 (fun w hm => spec_DoWearAct.calls f0 (⟨xs_5, xs_6⟩ : GWear) x_17 w _ C_c (hm.exRowW C_h C_ha) rfl cap_953 (hm.ow 7 o_952 147 xs_5 sp_954 (fun e => (ho_957 e).1) encGWornPin_len) rfl cap_959 (hm.ow 8 o_958 2 xs_6 sp_960 (fun e => (ho_963 e).1) encI64_len) rfl ht_1030) ?_)
      rintro w v w' hm ⟨o_1031, cap_1032, sp_1033, _, rfl, hs_1034, ho_1035, o_1036, cap_1037, sp_1038, _, rfl, hs_1039, ho_1040, rfl, hm'⟩
      refine ⟨_, hm.app hm', kD [0, 1, 2, 3, 4, 5, 6, 7, 8] ?_⟩
      clear hm hm'
      exact qd [⟨9, 0, 0⟩,⟨10, 0, 0⟩,⟨11, 0, 0⟩] 2 [0, 1, 2, 3, 4, 5, 6, 7, 8] (tD 13 (qs 0 [9] (kD [0, 1, 2, 3, 4, 5, 6, 7, 8] (qd [⟨14, 0, 0⟩] 0 [0, 1, 2, 3, 4, 5, 6, 7, 8] (qz (qm ⟨t_18.1.fPins, t_18.1.fStrokes, t_18.2, b_1029, o_1031, cap_1032, sp_1033, t_18.1.fPins.length, o_1036, cap_1037, sp_1038, t_18.1.fStrokes.length⟩ ⟨h, rfl, hs_1034, ho_1035, rfl, hs_1039, ho_1040⟩ [0, 1, 2, 3, 4, 5, 6, 7, 8, 9, 10, 11]))))))
    ·rintro ⟨xs_10, xs_11, i_12, b_993, o_994, cap_995, sp_996, n_997, o_1000, cap_1001, sp_1002, n_1003⟩ ⟨h, rfl, hs_998, ho_999, rfl, hs_1004, ho_1005⟩
     replace h : spec_l06Done.k_13 v2 i_7 xs_10 xs_11 i_12 = some y_965 := h
     rw [spec_l06Done.k_13] at h
     refine jx_then (jc_seq (jc_meet (fun (j : Int) => match j with | i_14 => spec_l06Done.k_15 i_7 xs_10 xs_11 i_14 = some y_965) (fun (j : Int) => match j with | i_14 => [(0, [], (.pointer (some ⟨A_b, 0, none⟩))), (3, [], (.slice J_a list3.length J_c)), (6, [], (.pointer (some ⟨b_1, 0, none⟩))), (8, [], (.pointer (some ⟨b_2, 0, none⟩))), (9, [], (.int .i64 0)), (10, [], (.int .i64 0)), (11, [], (.pointer (some ⟨b_14, 0, none⟩))), (12, [], (.int .i64 i_7)), (13, [], (.pointer (some ⟨b_993, 0, none⟩))), (14, [], (.int .i64 i_14))]) (fun (j : Int) => match j with | i_14 => [⟨some A_b, 27, [(.int .i16 f0.fSteps), (.slice C_a f0.fHammers.length C_c)]⟩, ⟨some D_b, 62, [(.slice E_a w1.fPins.length E_c), (.slice F_a w1.fStrokes.length F_c)]⟩, ⟨some b_1, 65, [(.int .i64 v2.fPin), (.int .i64 v2.fHammer)]⟩, ⟨some b_2, 62, [(.slice none 0 0), (.slice none 0 0)]⟩, ⟨none, 0, []⟩, ⟨none, 0, []⟩, ⟨some b_14, 62, [(.slice (o_952.map fun b => ⟨b, 0, none⟩) xs_5.length cap_953), (.slice (o_958.map fun b => ⟨b, 0, none⟩) xs_6.length cap_959)]⟩, ⟨o_952, 147, row encGWornPin xs_5 sp_954⟩, ⟨o_958, 2, row encI64 xs_6 sp_960⟩, ⟨some b_993, 62, [(.slice (o_994.map fun b => ⟨b, 0, none⟩) xs_10.length cap_995), (.slice (o_1000.map fun b => ⟨b, 0, none⟩) xs_11.length cap_1001)]⟩, ⟨o_994, 147, row encGWornPin xs_10 sp_996⟩, ⟨o_1000, 2, row encI64 xs_11 sp_1002⟩]) ?_ ?_))
     ·refine jc_seq (jc_region (qf [(0, 0), (0, 0), (0, 0), (2, 1)] (qp 37 h (fun h => ?_) (fun h => ?_))))
      ·obtain ⟨t_16, ht_1013, h⟩ := bd h
       refine tO (pc 2 (fun w hm => spec_l06Whole.calls (⟨xs_10, xs_11⟩ : GWear) v2 w _ cap_995 (hm.ow 10 o_994 147 xs_10 sp_996 (fun e => (ho_999 e).1) encGWornPin_len) rfl cap_1001 (hm.ow 11 o_1000 2 xs_11 sp_1002 (fun e => (ho_1005 e).1) encI64_len) rfl b_993 (hm.pass (N := [⟨some b_993, 62, [(.slice (o_994.map fun b => ⟨b, 0, none⟩) xs_10.length cap_995), (.slice (o_1000.map fun b => ⟨b, 0, none⟩) xs_11.length cap_1001)]⟩]) [9] (by kernel_rfl) (by kernel_rfl)) (hm.ownApart (S := GWornPin) (N := [⟨some b_993, 62, [(.slice (o_994.map fun b => ⟨b, 0, none⟩) xs_10.length cap_995), (.slice (o_1000.map fun b => ⟨b, 0, none⟩) xs_11.length cap_1001)]⟩]) (hh := 10) (o := o_994) (T := 147) (cs := row encGWornPin xs_10 sp_996) (xs := xs_10) (by kernel_rfl) (fun e => (ho_999 e).1) [9] (by kernel_rfl) (by kernel_rfl)) (hm.ownApart (S := Int) (N := [⟨some b_993, 62, [(.slice (o_994.map fun b => ⟨b, 0, none⟩) xs_10.length cap_995), (.slice (o_1000.map fun b => ⟨b, 0, none⟩) xs_11.length cap_1001)]⟩]) (hh := 11) (o := o_1000) (T := 2) (cs := row encI64 xs_11 sp_1002) (xs := xs_11) (by kernel_rfl) (fun e => (ho_1005 e).1) [9] (by kernel_rfl) (by kernel_rfl)) ht_1013) ?_)
       rintro w v w' hm ⟨rfl, hm'⟩
       refine ⟨_, hm.appW (ps := [(9, ⟨some b_993, 62, [(.slice (o_994.map fun b => ⟨b, 0, none⟩) xs_10.length cap_995), (.slice (o_1000.map fun b => ⟨b, 0, none⟩) xs_11.length cap_1001)]⟩)]) (N := []) hm' (by kernel_rfl) (by kernel_rfl), jkO ?_⟩
       clear hm hm'
       refine qf [(0, 2), (0, 4)] (qe (jx_then (qi h (fun h => ?_) (fun h => ?_))))
       ·exact jc_region (qh [0] (qe (qm 8 h [0, 1, 2, 3, 4, 5, 6, 7, 8, 9, 10, 11])))
       ·exact jc_skip (qm i_12 h [0, 1, 2, 3, 4, 5, 6, 7, 8, 9, 10, 11])
      ·exact qf [(0, 3), (0, 3), (0, 5)] (qe (jx_then (jc_cond false (by kernel_rfl) (fun hc_1015 => nomatch hc_1015) (fun hc_1015 => (jc_skip (qm i_12 h [0, 1, 2, 3, 4, 5, 6, 7, 8, 9, 10, 11]))))))
     ·rintro i_14 h
      replace h : spec_l06Done.k_15 i_7 xs_10 xs_11 i_14 = some y_965 := h
      rw [spec_l06Done.k_15] at h
      refine jx_then (jc_seq (jc_seq (jc_region (qh [0,0] (qe (jx_then (qi h (fun h => ?_) (fun h => ?_))))))))
      ·refine jc_seq (jc_region (qh [0,0,0] (tO (qs 0 [3] (jkO (qh [0,0] (qe (jx_then (jc_ret (jx_thenr (jx_inr (jx_thenr (jx_leaver (.inl ((⟨[], []⟩ : GWear), i_7, i_14)) (Option.some.inj h).symm (fun e_1011 => ?_))))))))))))))
       subst e_1011
       refine jx_inr (jx_thenr (jx_thenr ?_))
       obtain rfl := Option.some.inj hr_964
       exact jx_ghost 147 encGWornPin (jx_ghost 2 encI64 (qr [3] (fun w hm => ⟨none, 0, [], 0, rfl, (fun e => absurd rfl e), (fun _ => ⟨rfl, rfl⟩), none, 0, [], 0, rfl, (fun e => absurd rfl e), (fun _ => ⟨rfl, rfl⟩), rfl, hm.pk [0, 1, 12, 13]⟩)))
      ·exact jc_skip (jx_then (jc_region (qh [9] (tO (qs 0 [6] (jkO (qe (jx_inn (jx_then (jc_region (qh [0,0,0] (qe (qb (xs_10, xs_11, (w64 (i_7 + 1))) ⟨o_994, cap_995, sp_996, xs_10.length, o_1000, cap_1001, sp_1002, xs_11.length⟩ h ⟨rfl, hs_998, ho_999, rfl, hs_1004, ho_1005⟩ [0, 1, 2, 3, 4, 5, 6, 10, 11])))))))))))))
   ·refine jc_exit (jx_thenx (jx_leave (.inr (xs_5, xs_6)) (Option.some.inj h).symm (fun e_1041 => ?_)))
    subst e_1041
    exact jx_ine (qm ⟨xs_5, xs_6, o_952, cap_953, sp_954, xs_5.length, o_958, cap_959, sp_960, xs_6.length⟩ ⟨hr_964, rfl, hs_956, ho_957, rfl, hs_962, ho_963⟩ [0, 1, 2, 3, 4, 5, 6, 7, 8])
  ·rintro ⟨xs_2, xs_3, o_780, cap_781, sp_782, n_783, o_786, cap_787, sp_788, n_789⟩ ⟨h, rfl, hs_784, ho_785, rfl, hs_790, ho_791⟩
   replace h : spec_l06Done.k_4 xs_2 xs_3 = some r := h
   rw [spec_l06Done.k_4] at h
   refine jx_then (jc_seq (jc_region (qh [6] (tO (qs 0 [3] (jkO (qh [0,0] (qe (jx_then (jc_ret ?_))))))))))
   obtain rfl := Option.some.inj h
   exact qr [3] (fun w hm => ⟨o_780, cap_781, sp_782, xs_2.length, rfl, hs_784, ho_785, o_786, cap_787, sp_788, xs_3.length, rfl, hs_790, ho_791, rfl, hm.pk [0, 1, 7, 8]⟩)
/-! ### spec.DoWearActs -/
def spec_DoWearActs (f0 : GFrame) (w1 : GWear) (v2 : GLives) (list3 : List GAct) : Option (GWear × Int) := (spec_l06Acts f0 w1 v2 list3).bind fun t_1 => (if (t_1 != 0) = true then some ((⟨[], []⟩ : GWear), t_1) else (spec_l06Done f0 w1 v2 list3).bind fun t_2 => some (t_2.1, t_2.2.2))
theorem spec_DoWearActs.calls (f0 : GFrame) (w1 : GWear) (v2 : GLives) (list3 : List GAct) (w : World) (r : GWear × Int) {C_a : Option Addr} {C_an : Nat} (C_c : Nat) (C_h : Rw w C_a 2 encGHammer f0.fHammers) (C_hn : f0.fHammers.length = C_an) {E_a : Option Addr} {E_an : Nat} (E_c : Nat) (E_h : Rw w E_a 3 encGWornPin w1.fPins) (E_hn : w1.fPins.length = E_an) {F_a : Option Addr} {F_an : Nat} (F_c : Nat) (F_h : Rw w F_a 1 encI64 w1.fStrokes) (F_hn : w1.fStrokes.length = F_an) {J_a : Option Addr} {J_an : Nat} (J_c : Nat) (J_h : Rw w J_a 5 encGAct list3) (J_hn : list3.length = J_an) (h : spec_DoWearActs f0 w1 v2 list3 = some r) :
    Calls Tryz.prog 32 #[(.agg #[(.int .i16 f0.fSteps), (.slice C_a C_an C_c)]), (.agg #[(.slice E_a E_an E_c), (.slice F_a F_an F_c)]), (.agg #[(.int .i64 v2.fPin), (.int .i64 v2.fHammer)]), (.slice J_a J_an J_c)] w fun e w' => ∃ v, e = .returned v ∧ (∃ (o0 : Option Nat) (c0 : Nat) (s0 : List Value) (n0 : Nat), r.1.fPins.length = n0 ∧ (o0 ≠ none → n0 ≤ c0 ∧ s0.length = (c0 - n0) * 3) ∧ (o0 = none → r.1.fPins = [] ∧ c0 = 0) ∧ ∃ (o1 : Option Nat) (c1 : Nat) (s1 : List Value) (n1 : Nat), r.1.fStrokes.length = n1 ∧ (o1 ≠ none → n1 ≤ c1 ∧ s1.length = (c1 - n1) * 1) ∧ (o1 = none → r.1.fStrokes = [] ∧ c1 = 0) ∧ v = .tuple #[.agg #[.slice (o0.map fun b => ⟨b, 0, none⟩) n0 c0, .slice (o1.map fun b => ⟨b, 0, none⟩) n1 c1], (.int .i64 r.2)] ∧ Mem w [] [⟨o0, 147, row encGWornPin r.1.fPins s0⟩, ⟨o1, 2, row encI64 r.1.fStrokes s1⟩] w') := by
  subst C_hn E_hn F_hn J_hn
  rw [spec_DoWearActs] at h
  refine enter (args := [(.agg #[(.int .i16 f0.fSteps), (.slice C_a f0.fHammers.length C_c)]), (.agg #[(.slice E_a w1.fPins.length E_c), (.slice F_a w1.fStrokes.length F_c)]), (.agg #[(.int .i64 v2.fPin), (.int .i64 v2.fHammer)]), (.slice J_a list3.length J_c)]) Tryz.func32 rfl Tryz.ntmps32 (by kernel_rfl) (L := []) (W := []) (Mem.start w) ?_
  refine jc_seq (jc_region (tO (qa 0 (fun b_1 => jkO (tO (qa 0 (fun b_2 => jkO (tO (qa 0 (fun b_3 => jkO (tO (qa 0 (fun b_4 => jkO (qh [0] (qe (jx_then (jc_seq (jc_seq (jc_region (qh [2,0] ?_))))))))))))))))))))
  obtain ⟨t_1, ht_7, h⟩ := bd h
  refine tO (pc 0 (fun w hm => spec_l06Acts.calls f0 w1 v2 list3 w _ C_c (hm.xr C_h) rfl E_c (hm.xr E_h) rfl F_c (hm.xr F_h) rfl J_c (hm.xr J_h) rfl b_1 b_2 (hm.pass (N := [⟨some b_1, 27, [(.int .i16 f0.fSteps), (.slice C_a f0.fHammers.length C_c)]⟩, ⟨some b_2, 62, [(.slice E_a w1.fPins.length E_c), (.slice F_a w1.fStrokes.length F_c)]⟩]) [0, 1] (by kernel_rfl) (by kernel_rfl)) (hm.exApart (N := [⟨some b_1, 27, [(.int .i16 f0.fSteps), (.slice C_a f0.fHammers.length C_c)]⟩, ⟨some b_2, 62, [(.slice E_a w1.fPins.length E_c), (.slice F_a w1.fStrokes.length F_c)]⟩]) C_h (fun _ => List.not_mem_nil) [0, 1] (by kernel_rfl)) (hm.exApart (N := [⟨some b_1, 27, [(.int .i16 f0.fSteps), (.slice C_a f0.fHammers.length C_c)]⟩, ⟨some b_2, 62, [(.slice E_a w1.fPins.length E_c), (.slice F_a w1.fStrokes.length F_c)]⟩]) E_h (fun _ => List.not_mem_nil) [0, 1] (by kernel_rfl)) (hm.exApart (N := [⟨some b_1, 27, [(.int .i16 f0.fSteps), (.slice C_a f0.fHammers.length C_c)]⟩, ⟨some b_2, 62, [(.slice E_a w1.fPins.length E_c), (.slice F_a w1.fStrokes.length F_c)]⟩]) F_h (fun _ => List.not_mem_nil) [0, 1] (by kernel_rfl)) (hm.exApart (N := [⟨some b_1, 27, [(.int .i16 f0.fSteps), (.slice C_a f0.fHammers.length C_c)]⟩, ⟨some b_2, 62, [(.slice E_a w1.fPins.length E_c), (.slice F_a w1.fStrokes.length F_c)]⟩]) J_h (fun _ => List.not_mem_nil) [0, 1] (by kernel_rfl)) ht_7) ?_)
  rintro w v w' hm ⟨rfl, hm'⟩
  refine ⟨_, hm.appW (ps := [(0, ⟨some b_1, 27, [(.int .i16 f0.fSteps), (.slice C_a f0.fHammers.length C_c)]⟩), (1, ⟨some b_2, 62, [(.slice E_a w1.fPins.length E_c), (.slice F_a w1.fStrokes.length F_c)]⟩)]) (N := []) hm' (by kernel_rfl) (by kernel_rfl), jkO ?_⟩
  clear hm hm'
  refine qh [0] (qe (jx_then (jc_seq (jc_region (qh [0,0] (qe (jx_then (qi h (fun h => ?_) (fun h => ?_)))))))))
  ·refine jc_seq (jc_region (qh [0,0] (tO (qs 0 [3] (jkO (qh [0] (qe (jx_then (jc_ret (jx_thenr ?_))))))))))
   obtain rfl := Option.some.inj h
   exact jx_ghost 147 encGWornPin (jx_ghost 2 encI64 (qr [3] (fun w hm => ⟨none, 0, [], 0, rfl, (fun e => absurd rfl e), (fun _ => ⟨rfl, rfl⟩), none, 0, [], 0, rfl, (fun e => absurd rfl e), (fun _ => ⟨rfl, rfl⟩), rfl, hm.pk [4, 5]⟩)))
  ·refine jc_skip (jx_then (jc_seq (jc_region (qh [2,0] ?_))))
   obtain ⟨t_2, ht_9, h⟩ := bd h
   refine tO (pc 0 (fun w hm => spec_l06Done.calls f0 w1 v2 list3 w _ C_c (hm.xr C_h) rfl E_c (hm.xr E_h) rfl F_c (hm.xr F_h) rfl J_c (hm.xr J_h) rfl b_1 b_2 (hm.pass (N := [⟨some b_1, 27, [(.int .i16 f0.fSteps), (.slice C_a f0.fHammers.length C_c)]⟩, ⟨some b_2, 62, [(.slice E_a w1.fPins.length E_c), (.slice F_a w1.fStrokes.length F_c)]⟩]) [0, 1] (by kernel_rfl) (by kernel_rfl)) (hm.exApart (N := [⟨some b_1, 27, [(.int .i16 f0.fSteps), (.slice C_a f0.fHammers.length C_c)]⟩, ⟨some b_2, 62, [(.slice E_a w1.fPins.length E_c), (.slice F_a w1.fStrokes.length F_c)]⟩]) C_h (fun _ => List.not_mem_nil) [0, 1] (by kernel_rfl)) (hm.exApart (N := [⟨some b_1, 27, [(.int .i16 f0.fSteps), (.slice C_a f0.fHammers.length C_c)]⟩, ⟨some b_2, 62, [(.slice E_a w1.fPins.length E_c), (.slice F_a w1.fStrokes.length F_c)]⟩]) E_h (fun _ => List.not_mem_nil) [0, 1] (by kernel_rfl)) (hm.exApart (N := [⟨some b_1, 27, [(.int .i16 f0.fSteps), (.slice C_a f0.fHammers.length C_c)]⟩, ⟨some b_2, 62, [(.slice E_a w1.fPins.length E_c), (.slice F_a w1.fStrokes.length F_c)]⟩]) F_h (fun _ => List.not_mem_nil) [0, 1] (by kernel_rfl)) (hm.exApart (N := [⟨some b_1, 27, [(.int .i16 f0.fSteps), (.slice C_a f0.fHammers.length C_c)]⟩, ⟨some b_2, 62, [(.slice E_a w1.fPins.length E_c), (.slice F_a w1.fStrokes.length F_c)]⟩]) J_h (fun _ => List.not_mem_nil) [0, 1] (by kernel_rfl)) ht_9) ?_)
   rintro w v w' hm ⟨o_10, cap_11, sp_12, _, rfl, hs_13, ho_14, o_15, cap_16, sp_17, _, rfl, hs_18, ho_19, rfl, hm'⟩
   refine ⟨_, hm.appW (ps := [(0, ⟨some b_1, 27, [(.int .i16 f0.fSteps), (.slice C_a f0.fHammers.length C_c)]⟩), (1, ⟨some b_2, 62, [(.slice E_a w1.fPins.length E_c), (.slice F_a w1.fStrokes.length F_c)]⟩)]) (N := [⟨o_10, 147, row encGWornPin t_2.1.fPins sp_12⟩, ⟨o_15, 2, row encI64 t_2.1.fStrokes sp_17⟩]) hm' (by kernel_rfl) (by kernel_rfl), jkO ?_⟩
   clear hm hm'
   refine qh [0,0,0,0] (tO (qa 0 (fun b_20 => jkO (tO (qs 0 [6] (jkO (qh [0,0] (qe (jx_then (jc_seq (jc_region (qh [6,0] (tO (qs 0 [3] (jkO (qh [0] (qe (jx_then (jc_ret ?_)))))))))))))))))))
   obtain rfl := Option.some.inj h
   exact qr [3] (fun w hm => ⟨o_10, cap_11, sp_12, t_2.1.fPins.length, rfl, hs_13, ho_14, o_15, cap_16, sp_17, t_2.1.fStrokes.length, rfl, hs_18, ho_19, rfl, hm.pk [4, 5]⟩)
/-! ### impl.FirstBreak -/
def impl_FirstBreak (f0 : GFrame) (w1 : GWear) (v2 : GLives) (list3 : List GAct) : Option (Int × Int) := (impl_actsCode f0 w1 v2 list3).bind fun t_1 => (if (t_1 != 0) = true then some (0, t_1) else (impl_doActs f0 w1 v2 list3).bind fun t_2 => (if (t_2.2.2 == 0) = true then some (0, 6) else some (t_2.2.1, 0)))
theorem impl_FirstBreak.calls (f0 : GFrame) (w1 : GWear) (v2 : GLives) (list3 : List GAct) (w : World) (r : Int × Int) {C_a : Option Addr} {C_an : Nat} (C_c : Nat) (C_h : Rw w C_a 2 encGHammer f0.fHammers) (C_hn : f0.fHammers.length = C_an) {E_a : Option Addr} {E_an : Nat} (E_c : Nat) (E_h : Rw w E_a 3 encGWornPin w1.fPins) (E_hn : w1.fPins.length = E_an) {F_a : Option Addr} {F_an : Nat} (F_c : Nat) (F_h : Rw w F_a 1 encI64 w1.fStrokes) (F_hn : w1.fStrokes.length = F_an) {J_a : Option Addr} {J_an : Nat} (J_c : Nat) (J_h : Rw w J_a 5 encGAct list3) (J_hn : list3.length = J_an) (h : impl_FirstBreak f0 w1 v2 list3 = some r) :
    Calls Tryz.prog 33 #[(.agg #[(.int .i16 f0.fSteps), (.slice C_a C_an C_c)]), (.agg #[(.slice E_a E_an E_c), (.slice F_a F_an F_c)]), (.agg #[(.int .i64 v2.fPin), (.int .i64 v2.fHammer)]), (.slice J_a J_an J_c)] w fun e w' => ∃ v, e = .returned v ∧ (v = .tuple #[(.int .i64 r.1), (.int .i64 r.2)] ∧ Mem w [] [] w') := by
  subst C_hn E_hn F_hn J_hn
  rw [impl_FirstBreak] at h
  refine enter (args := [(.agg #[(.int .i16 f0.fSteps), (.slice C_a f0.fHammers.length C_c)]), (.agg #[(.slice E_a w1.fPins.length E_c), (.slice F_a w1.fStrokes.length F_c)]), (.agg #[(.int .i64 v2.fPin), (.int .i64 v2.fHammer)]), (.slice J_a list3.length J_c)]) Tryz.func33 rfl Tryz.ntmps33 (by kernel_rfl) (L := []) (W := []) (Mem.start w) ?_
  refine jc_seq (jc_region (tO (qa 0 (fun b_1 => jkO (tO (qa 0 (fun b_2 => jkO (tO (qa 0 (fun b_3 => jkO (qh [0,0] (qe (jx_then (jc_seq (jc_seq (jc_region (qh [0,1,2,0] ?_)))))))))))))))))
  obtain ⟨t_1, ht_6, h⟩ := bd h
  refine tO (pc 0 (fun w hm => impl_actsCode.calls f0 w1 v2 list3 w _ C_c (hm.xr C_h) rfl E_c (hm.xr E_h) rfl F_c (hm.xr F_h) rfl J_c (hm.xr J_h) rfl ht_6) ?_)
  rintro w v w' hm ⟨rfl, hm'⟩
  refine ⟨_, hm.app hm', jkO ?_⟩
  clear hm hm'
  refine qh [0] (qe (jx_then (jc_seq (jc_region (qh [0,0] (qe (jx_then (qi h (fun h => ?_) (fun h => ?_)))))))))
  ·refine jc_seq (jc_region (qh [0,0,0] (qe (jx_then (jc_ret (jx_thenr ?_))))))
   obtain rfl := Option.some.inj h
   exact qr [] (fun w hm => ⟨rfl, hm.pk []⟩)
  ·refine jc_skip (jx_then (jc_seq (jc_region (qh [0,1,2,0] ?_))))
   obtain ⟨t_2, ht_8, h⟩ := bd h
   refine tO (pc 0 (fun w hm => impl_doActs.calls f0 w1 v2 list3 w _ C_c (hm.xr C_h) rfl E_c (hm.xr E_h) rfl F_c (hm.xr F_h) rfl J_c (hm.xr J_h) rfl ht_8) ?_)
   rintro w v w' hm ⟨o_9, cap_10, sp_11, _, rfl, hs_12, ho_13, o_14, cap_15, sp_16, _, rfl, hs_17, ho_18, rfl, hm'⟩
   refine ⟨_, hm.app hm', jkO ?_⟩
   clear hm hm'
   refine qh [0,0,0,0] (tO (qa 0 (fun b_19 => jkO (tO (qs 0 [5] (jkO (qh [0,0] (qe (jx_then (jc_seq (jc_seq (jc_region (qh [0,0] (qe (jx_then (qi h (fun h => ?_) (fun h => ?_)))))))))))))))))
   ·refine jc_seq (jc_region (qh [0,0] (qe (jx_then (jc_ret (jx_thenr ?_))))))
    obtain rfl := Option.some.inj h
    exact qr [] (fun w hm => ⟨rfl, hm.pk []⟩)
   ·refine jc_skip (jx_then (jc_seq (jc_region (qh [0,0,0] (qe (jx_then (jc_ret ?_)))))))
    obtain rfl := Option.some.inj h
    exact qr [] (fun w hm => ⟨rfl, hm.pk []⟩)
/-! ### spec.FirstBreak -/
def spec_FirstBreak (f0 : GFrame) (w1 : GWear) (v2 : GLives) (list3 : List GAct) : Option (Int × Int) := (spec_l06Acts f0 w1 v2 list3).bind fun t_1 => (if (t_1 != 0) = true then some (0, t_1) else (spec_l06Done f0 w1 v2 list3).bind fun t_2 => (if (decide (t_2.2.1 < 0)) = true then some (0, 6) else some (t_2.2.1, 0)))
theorem spec_FirstBreak.calls (f0 : GFrame) (w1 : GWear) (v2 : GLives) (list3 : List GAct) (w : World) (r : Int × Int) {C_a : Option Addr} {C_an : Nat} (C_c : Nat) (C_h : Rw w C_a 2 encGHammer f0.fHammers) (C_hn : f0.fHammers.length = C_an) {E_a : Option Addr} {E_an : Nat} (E_c : Nat) (E_h : Rw w E_a 3 encGWornPin w1.fPins) (E_hn : w1.fPins.length = E_an) {F_a : Option Addr} {F_an : Nat} (F_c : Nat) (F_h : Rw w F_a 1 encI64 w1.fStrokes) (F_hn : w1.fStrokes.length = F_an) {J_a : Option Addr} {J_an : Nat} (J_c : Nat) (J_h : Rw w J_a 5 encGAct list3) (J_hn : list3.length = J_an) (h : spec_FirstBreak f0 w1 v2 list3 = some r) :
    Calls Tryz.prog 34 #[(.agg #[(.int .i16 f0.fSteps), (.slice C_a C_an C_c)]), (.agg #[(.slice E_a E_an E_c), (.slice F_a F_an F_c)]), (.agg #[(.int .i64 v2.fPin), (.int .i64 v2.fHammer)]), (.slice J_a J_an J_c)] w fun e w' => ∃ v, e = .returned v ∧ (v = .tuple #[(.int .i64 r.1), (.int .i64 r.2)] ∧ Mem w [] [] w') := by
  subst C_hn E_hn F_hn J_hn
  rw [spec_FirstBreak] at h
  refine enter (args := [(.agg #[(.int .i16 f0.fSteps), (.slice C_a f0.fHammers.length C_c)]), (.agg #[(.slice E_a w1.fPins.length E_c), (.slice F_a w1.fStrokes.length F_c)]), (.agg #[(.int .i64 v2.fPin), (.int .i64 v2.fHammer)]), (.slice J_a list3.length J_c)]) Tryz.func34 rfl Tryz.ntmps34 (by kernel_rfl) (L := []) (W := []) (Mem.start w) ?_
  refine jc_seq (jc_region (tO (qa 0 (fun b_1 => jkO (tO (qa 0 (fun b_2 => jkO (tO (qa 0 (fun b_3 => jkO (qh [0,0] (qe (jx_then (jc_seq (jc_seq (jc_region (qh [2,0] ?_)))))))))))))))))
  obtain ⟨t_1, ht_6, h⟩ := bd h
  refine tO (pc 0 (fun w hm => spec_l06Acts.calls f0 w1 v2 list3 w _ C_c (hm.xr C_h) rfl E_c (hm.xr E_h) rfl F_c (hm.xr F_h) rfl J_c (hm.xr J_h) rfl b_1 b_2 (hm.pass (N := [⟨some b_1, 27, [(.int .i16 f0.fSteps), (.slice C_a f0.fHammers.length C_c)]⟩, ⟨some b_2, 62, [(.slice E_a w1.fPins.length E_c), (.slice F_a w1.fStrokes.length F_c)]⟩]) [0, 1] (by kernel_rfl) (by kernel_rfl)) (hm.exApart (N := [⟨some b_1, 27, [(.int .i16 f0.fSteps), (.slice C_a f0.fHammers.length C_c)]⟩, ⟨some b_2, 62, [(.slice E_a w1.fPins.length E_c), (.slice F_a w1.fStrokes.length F_c)]⟩]) C_h (fun _ => List.not_mem_nil) [0, 1] (by kernel_rfl)) (hm.exApart (N := [⟨some b_1, 27, [(.int .i16 f0.fSteps), (.slice C_a f0.fHammers.length C_c)]⟩, ⟨some b_2, 62, [(.slice E_a w1.fPins.length E_c), (.slice F_a w1.fStrokes.length F_c)]⟩]) E_h (fun _ => List.not_mem_nil) [0, 1] (by kernel_rfl)) (hm.exApart (N := [⟨some b_1, 27, [(.int .i16 f0.fSteps), (.slice C_a f0.fHammers.length C_c)]⟩, ⟨some b_2, 62, [(.slice E_a w1.fPins.length E_c), (.slice F_a w1.fStrokes.length F_c)]⟩]) F_h (fun _ => List.not_mem_nil) [0, 1] (by kernel_rfl)) (hm.exApart (N := [⟨some b_1, 27, [(.int .i16 f0.fSteps), (.slice C_a f0.fHammers.length C_c)]⟩, ⟨some b_2, 62, [(.slice E_a w1.fPins.length E_c), (.slice F_a w1.fStrokes.length F_c)]⟩]) J_h (fun _ => List.not_mem_nil) [0, 1] (by kernel_rfl)) ht_6) ?_)
  rintro w v w' hm ⟨rfl, hm'⟩
  refine ⟨_, hm.appW (ps := [(0, ⟨some b_1, 27, [(.int .i16 f0.fSteps), (.slice C_a f0.fHammers.length C_c)]⟩), (1, ⟨some b_2, 62, [(.slice E_a w1.fPins.length E_c), (.slice F_a w1.fStrokes.length F_c)]⟩)]) (N := []) hm' (by kernel_rfl) (by kernel_rfl), jkO ?_⟩
  clear hm hm'
  refine qh [0] (qe (jx_then (jc_seq (jc_region (qh [0,0] (qe (jx_then (qi h (fun h => ?_) (fun h => ?_)))))))))
  ·refine jc_seq (jc_region (qh [0,0,0] (qe (jx_then (jc_ret (jx_thenr ?_))))))
   obtain rfl := Option.some.inj h
   exact qr [] (fun w hm => ⟨rfl, hm.pk []⟩)
  ·refine jc_skip (jx_then (jc_seq (jc_region (qh [2,0] ?_))))
   obtain ⟨t_2, ht_8, h⟩ := bd h
   refine tO (pc 0 (fun w hm => spec_l06Done.calls f0 w1 v2 list3 w _ C_c (hm.xr C_h) rfl E_c (hm.xr E_h) rfl F_c (hm.xr F_h) rfl J_c (hm.xr J_h) rfl b_1 b_2 (hm.pass (N := [⟨some b_1, 27, [(.int .i16 f0.fSteps), (.slice C_a f0.fHammers.length C_c)]⟩, ⟨some b_2, 62, [(.slice E_a w1.fPins.length E_c), (.slice F_a w1.fStrokes.length F_c)]⟩]) [0, 1] (by kernel_rfl) (by kernel_rfl)) (hm.exApart (N := [⟨some b_1, 27, [(.int .i16 f0.fSteps), (.slice C_a f0.fHammers.length C_c)]⟩, ⟨some b_2, 62, [(.slice E_a w1.fPins.length E_c), (.slice F_a w1.fStrokes.length F_c)]⟩]) C_h (fun _ => List.not_mem_nil) [0, 1] (by kernel_rfl)) (hm.exApart (N := [⟨some b_1, 27, [(.int .i16 f0.fSteps), (.slice C_a f0.fHammers.length C_c)]⟩, ⟨some b_2, 62, [(.slice E_a w1.fPins.length E_c), (.slice F_a w1.fStrokes.length F_c)]⟩]) E_h (fun _ => List.not_mem_nil) [0, 1] (by kernel_rfl)) (hm.exApart (N := [⟨some b_1, 27, [(.int .i16 f0.fSteps), (.slice C_a f0.fHammers.length C_c)]⟩, ⟨some b_2, 62, [(.slice E_a w1.fPins.length E_c), (.slice F_a w1.fStrokes.length F_c)]⟩]) F_h (fun _ => List.not_mem_nil) [0, 1] (by kernel_rfl)) (hm.exApart (N := [⟨some b_1, 27, [(.int .i16 f0.fSteps), (.slice C_a f0.fHammers.length C_c)]⟩, ⟨some b_2, 62, [(.slice E_a w1.fPins.length E_c), (.slice F_a w1.fStrokes.length F_c)]⟩]) J_h (fun _ => List.not_mem_nil) [0, 1] (by kernel_rfl)) ht_8) ?_)
   rintro w v w' hm ⟨o_9, cap_10, sp_11, _, rfl, hs_12, ho_13, o_14, cap_15, sp_16, _, rfl, hs_17, ho_18, rfl, hm'⟩
   refine ⟨_, hm.appW (ps := [(0, ⟨some b_1, 27, [(.int .i16 f0.fSteps), (.slice C_a f0.fHammers.length C_c)]⟩), (1, ⟨some b_2, 62, [(.slice E_a w1.fPins.length E_c), (.slice F_a w1.fStrokes.length F_c)]⟩)]) (N := [⟨o_9, 147, row encGWornPin t_2.1.fPins sp_11⟩, ⟨o_14, 2, row encI64 t_2.1.fStrokes sp_16⟩]) hm' (by kernel_rfl) (by kernel_rfl), jkO ?_⟩
   clear hm hm'
   refine qh [0,0,0,0] (tO (qa 0 (fun b_19 => jkO (tO (qs 0 [5] (jkO (qh [0,0] (qe (jx_then (jc_seq (jc_seq (jc_region (qh [0,0] (qe (jx_then (qi h (fun h => ?_) (fun h => ?_)))))))))))))))))
   ·refine jc_seq (jc_region (qh [0,0] (qe (jx_then (jc_ret (jx_thenr ?_))))))
    obtain rfl := Option.some.inj h
    exact qr [] (fun w hm => ⟨rfl, hm.pk []⟩)
   ·refine jc_skip (jx_then (jc_seq (jc_region (qh [0,0,0] (qe (jx_then (jc_ret ?_)))))))
    obtain rfl := Option.some.inj h
    exact qr [] (fun w hm => ⟨rfl, hm.pk []⟩)
/-! ### spec.l00Same -/
def spec_l00Same.k_1 : Option (Bool) := some true
def spec_l00Same.l_3 (a0 : List Int) (b1 : List Int) : Int → Option ((Int) ⊕ (Bool ⊕ Unit))
  | i_2 => (if (decide (i_2 < (a0.length : Int))) = true then (ix a0 i_2).bind fun x_5 => (ix b1 i_2).bind fun x_6 => (if (x_5 != x_6) = true then some (.inr (.inl false)) else some (.inl (w64 (i_2 + 1)))) else some (.inr (.inr ())))
def spec_l00Same (a0 : List Int) (b1 : List Int) : Option (Bool) := (if ((a0.length : Int) != (b1.length : Int)) = true then some false else (loop (spec_l00Same.l_3 a0 b1) 0).bind fun t_4 => match t_4 with | .inl p => some p | .inr p => spec_l00Same.k_1)
theorem spec_l00Same.calls (a0 : List Int) (b1 : List Int) (w : World) (r : Bool) {A_a : Option Addr} {A_an : Nat} (A_c : Nat) (A_h : Rw w A_a 1 encI64 a0) (A_hn : a0.length = A_an) {B_a : Option Addr} {B_an : Nat} (B_c : Nat) (B_h : Rw w B_a 1 encI64 b1) (B_hn : b1.length = B_an) (h : spec_l00Same a0 b1 = some r) :
    Calls Tryz.prog 70 #[(.slice A_a A_an A_c), (.slice B_a B_an B_c)] w fun e w' => ∃ v, e = .returned v ∧ (v = (.bool r) ∧ Mem w [] [] w') := by
  subst A_hn B_hn
  rw [spec_l00Same] at h
  refine enter (args := [(.slice A_a a0.length A_c), (.slice B_a b1.length B_c)]) Tryz.func70 rfl Tryz.ntmps70 (by kernel_rfl) (L := []) (W := []) (Mem.start w) ?_
  refine jc_seq (jc_region (qh [0] (qe (jx_then (jc_seq (jc_seq (jc_region (qh [0,0,0,0,0] (qe (jx_then (qi h (fun h => ?_) (fun h => ?_))))))))))))
  ·refine jc_seq (jc_region (qh [0] (qe (jx_then (jc_ret (jx_thenr ?_))))))
   obtain rfl := Option.some.inj h
   exact qr [] (fun w hm => ⟨rfl, hm.pk []⟩)
  ·refine jc_skip (jx_then (jc_seq (jc_seq (jc_region (qh [0] (qe (jx_then (jc_meet (fun (_ : Unit) => spec_l00Same.k_1 = some r) (fun (_ : Unit) => [(4, [], (.bool false))]) (fun (_ : Unit) => []) ?_ ?_))))))))
   ·refine jc_block ?_
    obtain ⟨t_4, ht_42, hr_33⟩ := bd h
    refine jc_loop (fun (s : Int) (x : Unit) => match s, x with | i_2, _ => True) (fun (s : Int) (x : Unit) => match s, x with | i_2, _ => [(0, [], (.slice A_a a0.length A_c)), (1, [], (.slice B_a b1.length B_c)), (4, [], (.bool false)), (5, [], (.int .i64 i_2))]) (fun (s : Int) (x : Unit) => match s, x with | i_2, _ => []) ht_42 () trivial (by kernel_rfl) [] (by kernel_rfl) (by kernel_rfl) ?_
    rintro i_2 _ y_34 _ h
    rw [spec_l00Same.l_3] at h
    refine jc_seq (jc_seq (jc_region (qh [0,0,0,0] (qe (jx_then (qi h (fun h => ?_) (fun h => ?_)))))))
    ·refine jc_skip (jx_then (jc_seq (jc_block (jc_seq (qg [] 9 (qd [⟨0, 0, 0⟩,⟨1, 0, 0⟩,⟨4, 0, 0⟩,⟨5, 0, 0⟩] 5 [] ?_))))))
     obtain ⟨x_5, hx_37, h⟩ := bd h
     refine qv 2 0 [] (fun w hm => idx_run (a := A_a) (len := a0.length) (s := 1) (j := i_2) (by kernel_rfl) (ix_some hx_37).1 (ltn hx_37 rfl) (A_h.sp hx_37)) (qv 3 0 [] (fun w hm => ld_run (b := aB A_a) (off := (aO A_a + i_2.toNat * 1)) (s := 1) (agg := false) (vs := (encI64 x_5)) (by kernel_rfl) (by kernel_rfl) (.inr rfl) ((hm.xr A_h).at hx_37)) ?_)
     obtain ⟨x_6, hx_38, h⟩ := bd h
     refine qv 6 0 [] (fun w hm => idx_run (a := B_a) (len := b1.length) (s := 1) (j := i_2) (by kernel_rfl) (ix_some hx_38).1 (ltn hx_38 rfl) (B_h.sp hx_38)) (qv 7 0 [] (fun w hm => ld_run (b := aB B_a) (off := (aO B_a + i_2.toNat * 1)) (s := 1) (agg := false) (vs := (encI64 x_6)) (by kernel_rfl) (by kernel_rfl) (.inr rfl) ((hm.xr B_h).at hx_38)) (qd [⟨8, 0, 0⟩] 0 [] (qz (jx_then (qi h (fun h => ?_) (fun h => ?_))))))
     ·refine jc_seq (jc_region (qh [0] (qe (jx_then (jc_ret (jx_inr (jx_thenr (jx_leaver (.inl false) (Option.some.inj h).symm (fun e_40 => ?_)))))))))
      subst e_40
      refine jx_inr (jx_thenr (jx_thenr ?_))
      obtain rfl := Option.some.inj hr_33
      exact qr [] (fun w hm => ⟨rfl, hm.pk []⟩)
     ·exact jc_skip (jx_inn (jx_then (jc_region (qh [0,0,0] (qe (qb (w64 (i_2 + 1)) () h trivial []))))))
    ·refine jc_exit (jx_thenx (jx_leave (.inr ()) (Option.some.inj h).symm (fun e_41 => ?_)))
     subst e_41
     exact jx_ine (qm () hr_33 [])
   ·rintro _ h
    replace h : spec_l00Same.k_1 = some r := h
    rw [spec_l00Same.k_1] at h
    refine jx_then (jc_seq (jc_region (qh [0] (qe (jx_then (jc_ret ?_))))))
    obtain rfl := Option.some.inj h
    exact qr [] (fun w hm => ⟨rfl, hm.pk []⟩)
/-! ### spec.SameWear -/
def spec_SameWear.k_1 (a0 : GWear) (b1 : GWear) : Option (Bool) := (spec_l00Same a0.fStrokes b1.fStrokes).bind fun t_2 => some t_2
def spec_SameWear.l_4 (a0 : GWear) (b1 : GWear) : Int → Option ((Int) ⊕ (Bool ⊕ Unit))
  | i_3 => (if (decide (i_3 < (a0.fPins.length : Int))) = true then (ix a0.fPins i_3).bind fun x_6 => (ix b1.fPins i_3).bind fun x_7 => (if (!((x_6.fStep == x_7.fStep) && ((x_6.fTrack == x_7.fTrack) && (x_6.fTurns == x_7.fTurns)))) = true then some (.inr (.inl false)) else some (.inl (w64 (i_3 + 1)))) else some (.inr (.inr ())))
def spec_SameWear (a0 : GWear) (b1 : GWear) : Option (Bool) := (if (((a0.fPins.length : Int) != (b1.fPins.length : Int)) || ((a0.fStrokes.length : Int) != (b1.fStrokes.length : Int))) = true then some false else (loop (spec_SameWear.l_4 a0 b1) 0).bind fun t_5 => match t_5 with | .inl p => some p | .inr p => spec_SameWear.k_1 a0 b1)
theorem spec_SameWear.calls (a0 : GWear) (b1 : GWear) (w : World) (r : Bool) {B_a : Option Addr} {B_an : Nat} (B_c : Nat) (B_h : Rw w B_a 3 encGWornPin a0.fPins) (B_hn : a0.fPins.length = B_an) {C_a : Option Addr} {C_an : Nat} (C_c : Nat) (C_h : Rw w C_a 1 encI64 a0.fStrokes) (C_hn : a0.fStrokes.length = C_an) {E_a : Option Addr} {E_an : Nat} (E_c : Nat) (E_h : Rw w E_a 3 encGWornPin b1.fPins) (E_hn : b1.fPins.length = E_an) {F_a : Option Addr} {F_an : Nat} (F_c : Nat) (F_h : Rw w F_a 1 encI64 b1.fStrokes) (F_hn : b1.fStrokes.length = F_an) (h : spec_SameWear a0 b1 = some r) :
    Calls Tryz.prog 35 #[(.agg #[(.slice B_a B_an B_c), (.slice C_a C_an C_c)]), (.agg #[(.slice E_a E_an E_c), (.slice F_a F_an F_c)])] w fun e w' => ∃ v, e = .returned v ∧ (v = (.bool r) ∧ Mem w [] [] w') := by
  subst B_hn C_hn E_hn F_hn
  rw [spec_SameWear] at h
  refine enter (args := [(.agg #[(.slice B_a a0.fPins.length B_c), (.slice C_a a0.fStrokes.length C_c)]), (.agg #[(.slice E_a b1.fPins.length E_c), (.slice F_a b1.fStrokes.length F_c)])]) Tryz.func35 rfl Tryz.ntmps35 (by kernel_rfl) (L := []) (W := []) (Mem.start w) ?_
  refine jc_seq (jc_region (tO (qa 0 (fun b_1 => jkO (tO (qa 0 (fun b_2 => jkO (qh [0] (qe (jx_then (jc_seq (jc_seq (jc_region (qf [(0, 0), (0, 0), (0, 0), (0, 0), (1, 0), (0, 0), (0, 0), (0, 0), (0, 1), (0, 1), (0, 1), (0, 1), (1, 1), (0, 1), (0, 1), (0, 0)] (qe (jx_then (qi h (fun h => ?_) (fun h => ?_))))))))))))))))))
  ·refine jc_seq (jc_region (qh [0] (qe (jx_then (jc_ret (jx_thenr ?_))))))
   obtain rfl := Option.some.inj h
   exact qr [] (fun w hm => ⟨rfl, hm.pk []⟩)
  ·refine jc_skip (jx_then (jc_seq (jc_seq (jc_region (qh [0] (qe (jx_then (jc_meet (fun (_ : Unit) => spec_SameWear.k_1 a0 b1 = some r) (fun (_ : Unit) => [(2, [], (.pointer (some ⟨b_1, 0, none⟩))), (3, [], (.pointer (some ⟨b_2, 0, none⟩))), (4, [], (.bool false))]) (fun (_ : Unit) => [⟨some b_1, 62, [(.slice B_a a0.fPins.length B_c), (.slice C_a a0.fStrokes.length C_c)]⟩, ⟨some b_2, 62, [(.slice E_a b1.fPins.length E_c), (.slice F_a b1.fStrokes.length F_c)]⟩]) ?_ ?_))))))))
   ·refine jc_block ?_
    obtain ⟨t_5, ht_85, hr_76⟩ := bd h
    refine jc_loop (fun (s : Int) (x : Unit) => match s, x with | i_3, _ => True) (fun (s : Int) (x : Unit) => match s, x with | i_3, _ => [(2, [], (.pointer (some ⟨b_1, 0, none⟩))), (3, [], (.pointer (some ⟨b_2, 0, none⟩))), (4, [], (.bool false)), (5, [], (.int .i64 i_3))]) (fun (s : Int) (x : Unit) => match s, x with | i_3, _ => [⟨some b_1, 62, [(.slice B_a a0.fPins.length B_c), (.slice C_a a0.fStrokes.length C_c)]⟩, ⟨some b_2, 62, [(.slice E_a b1.fPins.length E_c), (.slice F_a b1.fStrokes.length F_c)]⟩]) ht_85 () trivial (by kernel_rfl) [0, 1] (by kernel_rfl) (by kernel_rfl) ?_
    rintro i_3 _ y_77 _ h
    rw [spec_SameWear.l_4] at h
    refine jc_seq (jc_seq (jc_region (qh [0,0,0,0,0] (qe (jx_then (qi h (fun h => ?_) (fun h => ?_)))))))
    ·refine jc_skip (jx_then (jc_seq (jc_block (jc_seq (qg [⟨some b_1, 62, [(.slice B_a a0.fPins.length B_c), (.slice C_a a0.fStrokes.length C_c)]⟩, ⟨some b_2, 62, [(.slice E_a b1.fPins.length E_c), (.slice F_a b1.fStrokes.length F_c)]⟩] 11 (qd [⟨0, 0, 0⟩,⟨1, 0, 0⟩,⟨2, 0, 0⟩,⟨5, 0, 0⟩,⟨6, 1, 0⟩,⟨7, 0, 0⟩] 5 [0, 1] ?_))))))
     obtain ⟨x_6, hx_80, h⟩ := bd h
     refine qv 3 0 [0, 1] (fun w hm => idx_run (a := B_a) (len := a0.fPins.length) (s := 3) (j := i_3) (by kernel_rfl) (ix_some hx_80).1 (ltn hx_80 rfl) (B_h.sp hx_80)) (qv 4 0 [0, 1] (fun w hm => ld_run (b := aB B_a) (off := (aO B_a + i_3.toNat * 3)) (s := 3) (agg := true) (vs := (encGWornPin x_6)) (by kernel_rfl) (by kernel_rfl) (.inl rfl) ((hm.xr B_h).at hx_80)) ?_)
     obtain ⟨x_7, hx_81, h⟩ := bd h
     refine qv 8 0 [0, 1] (fun w hm => idx_run (a := E_a) (len := b1.fPins.length) (s := 3) (j := i_3) (by kernel_rfl) (ix_some hx_81).1 (ltn hx_81 rfl) (E_h.sp hx_81)) (qv 9 0 [0, 1] (fun w hm => ld_run (b := aB E_a) (off := (aO E_a + i_3.toNat * 3)) (s := 3) (agg := true) (vs := (encGWornPin x_7)) (by kernel_rfl) (by kernel_rfl) (.inl rfl) ((hm.xr E_h).at hx_81)) (qd [⟨10, 0, 0⟩] 0 [0, 1] (qz (jx_then (qi h (fun h => ?_) (fun h => ?_))))))
     ·refine jc_seq (jc_region (qh [0] (qe (jx_then (jc_ret (jx_inr (jx_thenr (jx_leaver (.inl false) (Option.some.inj h).symm (fun e_83 => ?_)))))))))
      subst e_83
      refine jx_inr (jx_thenr (jx_thenr ?_))
      obtain rfl := Option.some.inj hr_76
      exact qr [] (fun w hm => ⟨rfl, hm.pk []⟩)
     ·exact jc_skip (jx_inn (jx_then (jc_region (qh [0,0,0] (qe (qb (w64 (i_3 + 1)) () h trivial [0, 1]))))))
    ·refine jc_exit (jx_thenx (jx_leave (.inr ()) (Option.some.inj h).symm (fun e_84 => ?_)))
     subst e_84
     exact jx_ine (qm () hr_76 [0, 1])
   ·rintro _ h
    replace h : spec_SameWear.k_1 a0 b1 = some r := h
    rw [spec_SameWear.k_1] at h
    refine jx_then (jc_seq (jc_region (qh [0,0,0,1] ?_)))
    obtain ⟨t_2, ht_65, h⟩ := bd h
    refine tO (pc 0 (fun w hm => spec_l00Same.calls a0.fStrokes b1.fStrokes w _ C_c (hm.xr C_h) rfl F_c (hm.xr F_h) rfl ht_65) ?_)
    rintro w v w' hm ⟨rfl, hm'⟩
    refine ⟨_, hm.app hm', jkO ?_⟩
    clear hm hm'
    refine qh [0] (qe (jx_then (jc_ret ?_)))
    obtain rfl := Option.some.inj h
    exact qr [] (fun w hm => ⟨rfl, hm.pk []⟩)
/-! ### impl.WornOut -/
def impl_WornOut.k_5 (xs_3 : List GWornPin) (xs_4 : List Int) : Option ((List GWornPin) × (List Int) × Int) := some (xs_3, xs_4, 0)
def impl_WornOut.k_14 (i_8 : Int) (xs_12 : List GWornPin) (xs_13 : List Int) : Option (((List GWornPin) × (List Int) × Int) ⊕ (((List GWornPin) × (List Int)))) := some (.inl (xs_12, xs_13, (w64 (i_8 + 1))))
def impl_WornOut.l_9 (t_2 : (List Gpart)) : ((List GWornPin) × (List Int) × Int) → Option (((List GWornPin) × (List Int) × Int) ⊕ (((List GWornPin) × (List Int))))
  | (xs_6, xs_7, i_8) => (if (decide (i_8 < (t_2.length : Int))) = true then (ix t_2 i_8).bind fun x_11 => (impl_part_isWorn x_11).bind fun t_15 => (if (!t_15) = true then impl_WornOut.k_14 i_8 xs_6 xs_7 else (if (decide (x_11.fstep < 0)) = true then (if xs_7.length + ([x_11.ftrack] : List Int).length ≤ 4294967296 then impl_WornOut.k_14 i_8 xs_6 (xs_7 ++ ([x_11.ftrack] : List Int)) else none) else (if xs_6.length + ([(⟨(w8 x_11.fstep), (w8 x_11.ftrack), x_11.fmade⟩ : GWornPin)] : List GWornPin).length ≤ 4294967296 then impl_WornOut.k_14 i_8 (xs_6 ++ ([(⟨(w8 x_11.fstep), (w8 x_11.ftrack), x_11.fmade⟩ : GWornPin)] : List GWornPin)) xs_7 else none))) else some (.inr (xs_6, xs_7)))
def impl_WornOut (f0 : GFrame) (w1 : GWear) (v2 : GLives) : Option ((List GWornPin) × (List Int) × Int) := (impl_wearCode f0 w1 ([v2] : List GLives)).bind fun t_1 => (if (t_1 != 0) = true then some ([], [], t_1) else (impl_Wear_parts w1 f0 v2).bind fun t_2 => (loop (impl_WornOut.l_9 t_2) (([] : List GWornPin), ([] : List Int), 0)).bind fun t_10 => impl_WornOut.k_5 t_10.1 t_10.2)
theorem impl_WornOut.calls (f0 : GFrame) (w1 : GWear) (v2 : GLives) (w : World) (r : (List GWornPin) × (List Int) × Int) {C_a : Option Addr} {C_an : Nat} (C_c : Nat) (C_h : Rw w C_a 2 encGHammer f0.fHammers) (C_hn : f0.fHammers.length = C_an) {E_a : Option Addr} {E_an : Nat} (E_c : Nat) (E_h : Rw w E_a 3 encGWornPin w1.fPins) (E_hn : w1.fPins.length = E_an) {F_a : Option Addr} {F_an : Nat} (F_c : Nat) (F_h : Rw w F_a 1 encI64 w1.fStrokes) (F_hn : w1.fStrokes.length = F_an) (h : impl_WornOut f0 w1 v2 = some r) :
    Calls Tryz.prog 38 #[(.agg #[(.int .i16 f0.fSteps), (.slice C_a C_an C_c)]), (.agg #[(.slice E_a E_an E_c), (.slice F_a F_an F_c)]), (.agg #[(.int .i64 v2.fPin), (.int .i64 v2.fHammer)])] w fun e w' => ∃ v, e = .returned v ∧ (∃ (o0 : Option Nat) (c0 : Nat) (s0 : List Value) (n0 : Nat), r.1.length = n0 ∧ (o0 ≠ none → n0 ≤ c0 ∧ s0.length = (c0 - n0) * 3) ∧ (o0 = none → r.1 = [] ∧ c0 = 0) ∧ ∃ (o1 : Option Nat) (c1 : Nat) (s1 : List Value) (n1 : Nat), r.2.1.length = n1 ∧ (o1 ≠ none → n1 ≤ c1 ∧ s1.length = (c1 - n1) * 1) ∧ (o1 = none → r.2.1 = [] ∧ c1 = 0) ∧ v = .tuple #[.slice (o0.map fun b => ⟨b, 0, none⟩) n0 c0, .slice (o1.map fun b => ⟨b, 0, none⟩) n1 c1, (.int .i64 r.2.2)] ∧ Mem w [] [⟨o0, 147, row encGWornPin r.1 s0⟩, ⟨o1, 2, row encI64 r.2.1 s1⟩] w') := by
  subst C_hn E_hn F_hn
  rw [impl_WornOut] at h
  refine enter (args := [(.agg #[(.int .i16 f0.fSteps), (.slice C_a f0.fHammers.length C_c)]), (.agg #[(.slice E_a w1.fPins.length E_c), (.slice F_a w1.fStrokes.length F_c)]), (.agg #[(.int .i64 v2.fPin), (.int .i64 v2.fHammer)])]) Tryz.func38 rfl Tryz.ntmps38 (by kernel_rfl) (L := []) (W := []) (Mem.start w) ?_
  refine jc_seq (jc_region (tO (qa 0 (fun b_1 => jkO (tO (qa 0 (fun b_2 => jkO (tO (qa 0 (fun b_3 => jkO (qh [0,0,0] (qe (jx_then (jc_seq (jc_seq (jc_region (qh [0,1,2] (tO (qa 0 (fun b_7 => jkO ?_))))))))))))))))))))
  obtain ⟨t_1, ht_8, h⟩ := bd h
  refine tO (pc 0 (fun w hm => impl_wearCode.calls f0 w1 ([v2] : List GLives) w _ C_c (hm.xr C_h) rfl E_c (hm.xr E_h) rfl F_c (hm.xr F_h) rfl 1 (hm.ow 3 (some b_7) 65 ([v2] : List GLives) [] (fun e => nomatch e) encGLives_len) rfl ht_8) ?_)
  rintro w v w' hm ⟨rfl, hm'⟩
  refine ⟨_, hm.app hm', jkO ?_⟩
  clear hm hm'
  refine qh [0] (qe (jx_then (jc_seq (jc_region (qh [0,0] (qe (jx_then (qi h (fun h => ?_) (fun h => ?_)))))))))
  ·refine jc_seq (jc_region (qh [0,0,0,0] (qe (jx_then (jc_ret (jx_thenr ?_))))))
   obtain rfl := Option.some.inj h
   exact jx_ghost 147 encGWornPin (jx_ghost 2 encI64 (qr [] (fun w hm => ⟨none, 0, [], 0, rfl, (fun e => absurd rfl e), (fun _ => ⟨rfl, rfl⟩), none, 0, [], 0, rfl, (fun e => absurd rfl e), (fun _ => ⟨rfl, rfl⟩), rfl, hm.pk [4, 5]⟩)))
  ·refine jc_skip (jx_then (jc_seq (jc_region (tO (qa 0 (fun b_10 => jkO (tO (qa 0 (fun b_11 => jkO (qh [0,0] (qe (jx_then (jc_seq (jc_seq (jc_region (qh [1,0,2] ?_))))))))))))))))
   obtain ⟨t_2, ht_386, h⟩ := bd h
   refine tO (pc 0 (fun w hm => impl_Wear_parts.calls w1 f0 v2 w _ E_c (hm.xr E_h) rfl F_c (hm.xr F_h) rfl C_c (hm.xr C_h) rfl ht_386) ?_)
   rintro w v w' hm ⟨o_387, cap_388, sp_389, _, rfl, hs_390, ho_391, rfl, hm'⟩
   refine ⟨_, hm.app hm', jkO ?_⟩
   clear hm hm'
   refine qh [0,0] (qe (jx_then (jc_meet (fun (j : (List GWornPin) × (List Int) × (Option Nat) × Nat × (List Value) × Nat × (Option Nat) × Nat × (List Value) × Nat) => match j with | ⟨xs_3, xs_4, o_570, cap_571, sp_572, n_573, o_576, cap_577, sp_578, n_579⟩ => impl_WornOut.k_5 xs_3 xs_4 = some r ∧ (xs_3.length = n_573) ∧ ((o_570 ≠ none → n_573 ≤ cap_571 ∧ sp_572.length = (cap_571 - n_573) * 3)) ∧ ((o_570 = none → xs_3 = [] ∧ cap_571 = 0)) ∧ (xs_4.length = n_579) ∧ ((o_576 ≠ none → n_579 ≤ cap_577 ∧ sp_578.length = (cap_577 - n_579) * 1)) ∧ ((o_576 = none → xs_4 = [] ∧ cap_577 = 0))) (fun (j : (List GWornPin) × (List Int) × (Option Nat) × Nat × (List Value) × Nat × (Option Nat) × Nat × (List Value) × Nat) => match j with | ⟨xs_3, xs_4, o_570, cap_571, sp_572, n_573, o_576, cap_577, sp_578, n_579⟩ => [(6, [], (.slice none 0 0)), (7, [], (.slice none 0 0)), (8, [], (.int .i64 0)), (10, [], (.slice (o_570.map fun b => ⟨b, 0, none⟩) n_573 cap_571)), (11, [], (.slice (o_576.map fun b => ⟨b, 0, none⟩) n_579 cap_577))]) (fun (j : (List GWornPin) × (List Int) × (Option Nat) × Nat × (List Value) × Nat × (Option Nat) × Nat × (List Value) × Nat) => match j with | ⟨xs_3, xs_4, o_570, cap_571, sp_572, n_573, o_576, cap_577, sp_578, n_579⟩ => [⟨some b_1, 27, [(.int .i16 f0.fSteps), (.slice C_a f0.fHammers.length C_c)]⟩, ⟨some b_2, 62, [(.slice E_a w1.fPins.length E_c), (.slice F_a w1.fStrokes.length F_c)]⟩, ⟨some b_3, 65, [(.int .i64 v2.fPin), (.int .i64 v2.fHammer)]⟩, ⟨(some b_7), 65, row encGLives ([v2] : List GLives) []⟩, ⟨o_570, 147, row encGWornPin xs_3 sp_572⟩, ⟨o_576, 2, row encI64 xs_4 sp_578⟩, ⟨o_387, 157, row encGpart t_2 sp_389⟩]) ?_ ?_)))
   ·refine jc_block ?_
    obtain ⟨t_10, ht_759, hr_706⟩ := bd h
    refine jc_loop (fun (s : (List GWornPin) × (List Int) × Int) (x : (Option Nat) × Nat × (List Value) × Nat × (Option Nat) × Nat × (List Value) × Nat) => match s, x with | ⟨xs_6, xs_7, i_8⟩, ⟨o_694, cap_695, sp_696, n_697, o_700, cap_701, sp_702, n_703⟩ => (xs_6.length = n_697) ∧ ((o_694 ≠ none → n_697 ≤ cap_695 ∧ sp_696.length = (cap_695 - n_697) * 3)) ∧ ((o_694 = none → xs_6 = [] ∧ cap_695 = 0)) ∧ (xs_7.length = n_703) ∧ ((o_700 ≠ none → n_703 ≤ cap_701 ∧ sp_702.length = (cap_701 - n_703) * 1)) ∧ ((o_700 = none → xs_7 = [] ∧ cap_701 = 0))) (fun (s : (List GWornPin) × (List Int) × Int) (x : (Option Nat) × Nat × (List Value) × Nat × (Option Nat) × Nat × (List Value) × Nat) => match s, x with | ⟨xs_6, xs_7, i_8⟩, ⟨o_694, cap_695, sp_696, n_697, o_700, cap_701, sp_702, n_703⟩ => [(6, [], (.slice none 0 0)), (7, [], (.slice none 0 0)), (8, [], (.int .i64 0)), (10, [], (.slice (o_694.map fun b => ⟨b, 0, none⟩) n_697 cap_695)), (11, [], (.slice (o_700.map fun b => ⟨b, 0, none⟩) n_703 cap_701)), (27, [], (.slice (o_387.map fun b => ⟨b, 0, none⟩) t_2.length cap_388)), (28, [], (.int .i64 (t_2.length : Int))), (29, [], (.int .i64 i_8))]) (fun (s : (List GWornPin) × (List Int) × Int) (x : (Option Nat) × Nat × (List Value) × Nat × (Option Nat) × Nat × (List Value) × Nat) => match s, x with | ⟨xs_6, xs_7, i_8⟩, ⟨o_694, cap_695, sp_696, n_697, o_700, cap_701, sp_702, n_703⟩ => [⟨some b_1, 27, [(.int .i16 f0.fSteps), (.slice C_a f0.fHammers.length C_c)]⟩, ⟨some b_2, 62, [(.slice E_a w1.fPins.length E_c), (.slice F_a w1.fStrokes.length F_c)]⟩, ⟨some b_3, 65, [(.int .i64 v2.fPin), (.int .i64 v2.fHammer)]⟩, ⟨(some b_7), 65, row encGLives ([v2] : List GLives) []⟩, ⟨o_694, 147, row encGWornPin xs_6 sp_696⟩, ⟨o_700, 2, row encI64 xs_7 sp_702⟩, ⟨o_387, 157, row encGpart t_2 sp_389⟩]) ht_759 ⟨(some b_10), 0, [], 0, (some b_11), 0, [], 0⟩ ⟨rfl, (fun _ => ⟨Nat.le_refl _, by simp⟩), (fun e => nomatch e), rfl, (fun _ => ⟨Nat.le_refl _, by simp⟩), (fun e => nomatch e)⟩ (by kernel_rfl) [0, 1, 2, 3, 4, 5, 6] (by kernel_rfl) (by kernel_rfl) ?_
    rintro ⟨xs_6, xs_7, i_8⟩ ⟨o_694, cap_695, sp_696, n_697, o_700, cap_701, sp_702, n_703⟩ y_707 ⟨rfl, hs_698, ho_699, rfl, hs_704, ho_705⟩ h
    rw [impl_WornOut.l_9] at h
    refine jc_seq (jc_region (qh [0] (qe (jx_then (jc_seq (qi h (fun h => ?_) (fun h => ?_)))))))
    ·refine jc_skip (jx_then (jc_seq (jc_block (jc_seq (jc_region ?_)))))
     obtain ⟨x_11, hx_710, h⟩ := bd h
     refine tO (qx 0 (o_387.map fun b => ⟨b, 0, none⟩) 5 hx_710 rfl (spo ho_391 hx_710) (jkO (tO (ql 0 true (fun w hm => ((hm.ow 6 o_387 157 t_2 sp_389 (fun e => (ho_391 e).1) encGpart_len).at hx_710)) (jkO (tO (qa 0 (fun b_711 => jkO (tO (qs 0 [7] (jkO (qe (jx_then (jc_meet (fun (j : (List GWornPin) × (List Int) × (Option Nat) × Nat × (List Value) × Nat × (Option Nat) × Nat × (List Value) × Nat) => match j with | ⟨xs_12, xs_13, o_729, cap_730, sp_731, n_732, o_735, cap_736, sp_737, n_738⟩ => impl_WornOut.k_14 i_8 xs_12 xs_13 = some y_707 ∧ (xs_12.length = n_732) ∧ ((o_729 ≠ none → n_732 ≤ cap_730 ∧ sp_731.length = (cap_730 - n_732) * 3)) ∧ ((o_729 = none → xs_12 = [] ∧ cap_730 = 0)) ∧ (xs_13.length = n_738) ∧ ((o_735 ≠ none → n_738 ≤ cap_736 ∧ sp_737.length = (cap_736 - n_738) * 1)) ∧ ((o_735 = none → xs_13 = [] ∧ cap_736 = 0))) (fun (j : (List GWornPin) × (List Int) × (Option Nat) × Nat × (List Value) × Nat × (Option Nat) × Nat × (List Value) × Nat) => match j with | ⟨xs_12, xs_13, o_729, cap_730, sp_731, n_732, o_735, cap_736, sp_737, n_738⟩ => [(6, [], (.slice none 0 0)), (7, [], (.slice none 0 0)), (8, [], (.int .i64 0)), (10, [], (.slice (o_729.map fun b => ⟨b, 0, none⟩) n_732 cap_730)), (11, [], (.slice (o_735.map fun b => ⟨b, 0, none⟩) n_738 cap_736)), (27, [], (.slice (o_387.map fun b => ⟨b, 0, none⟩) t_2.length cap_388)), (28, [], (.int .i64 (t_2.length : Int))), (29, [], (.int .i64 i_8))]) (fun (j : (List GWornPin) × (List Int) × (Option Nat) × Nat × (List Value) × Nat × (Option Nat) × Nat × (List Value) × Nat) => match j with | ⟨xs_12, xs_13, o_729, cap_730, sp_731, n_732, o_735, cap_736, sp_737, n_738⟩ => [⟨some b_1, 27, [(.int .i16 f0.fSteps), (.slice C_a f0.fHammers.length C_c)]⟩, ⟨some b_2, 62, [(.slice E_a w1.fPins.length E_c), (.slice F_a w1.fStrokes.length F_c)]⟩, ⟨some b_3, 65, [(.int .i64 v2.fPin), (.int .i64 v2.fHammer)]⟩, ⟨(some b_7), 65, row encGLives ([v2] : List GLives) []⟩, ⟨o_729, 147, row encGWornPin xs_12 sp_731⟩, ⟨o_735, 2, row encI64 xs_13 sp_737⟩, ⟨o_387, 157, row encGpart t_2 sp_389⟩, ⟨some b_711, 157, [(.int .i64 x_11.fmade), (.int .i64 x_11.feach), (.int .i64 x_11.flife), (.int .i64 x_11.fstep), (.int .i64 x_11.ftrack)]⟩]) ?_ ?_))))))))))))))
     ·refine jc_block (jc_seq (jc_region (qh [7] ?_)))
      obtain ⟨t_15, ht_741, h⟩ := bd h
      refine tO (pc 0 (fun w hm => impl_part_isWorn.calls x_11 w _ ht_741) ?_)
      rintro w v w' hm ⟨rfl, hm'⟩
      refine ⟨_, hm.app hm', jkO ?_⟩
      clear hm hm'
      refine qh [0,0] (qe (jx_then (qi h (fun h => ?_) (fun h => ?_))))
      ·exact jc_skip (jx_inn (qm ⟨xs_6, xs_7, o_694, cap_695, sp_696, xs_6.length, o_700, cap_701, sp_702, xs_7.length⟩ ⟨h, rfl, hs_698, ho_699, rfl, hs_704, ho_705⟩ [0, 1, 2, 3, 4, 5, 6, 7]))
      ·refine jc_seq (jc_region (qh [0,7,0,0] (qe (jx_then (qi h (fun h => ?_) (fun h => ?_))))))
       ·refine jc_region (qh [0,0,7] (tO (qa 0 (fun b_744 => jkO ?_))))
        obtain ⟨hg_745, h⟩ := gd h
        exact tO (p_apn 0 5 o_700 2 xs_7.length 1 cap_701 1 8 (some ⟨b_744, 0, none⟩) encI64 xs_7 ([x_11.ftrack] : List Int) sp_702 (.int .i64 0) rfl rfl (by kernel_rfl) (by kernel_rfl) (by kernel_rfl) encI64_len encI64_cell hs_704 ho_705 (fun w hm => (hm.ow 8 (some b_744) 2 ([x_11.ftrack] : List Int) [] (fun e => nomatch e) encI64_len)) hg_745 (by kernel_rfl) (by kernel_rfl) (fun o_746 cap_747 sp_748 hs_749 ho_750 => jkO (qh [0] (qe (jx_inn (qm ⟨xs_6, (xs_7 ++ ([x_11.ftrack] : List Int)), o_694, cap_695, sp_696, xs_6.length, o_746, cap_747, sp_748, (xs_7 ++ ([x_11.ftrack] : List Int)).length⟩ ⟨h, rfl, hs_698, ho_699, rfl, hs_749, ho_750⟩ [0, 1, 2, 3, 4, 5, 6, 7]))))))
       ·refine jc_region (qh [0,0,7,0,0,7,0,0,7,0] (tO (qa 0 (fun b_751 => jkO ?_))))
        obtain ⟨hg_752, h⟩ := gd h
        exact tO (p_apn 0 4 o_694 147 xs_6.length 1 cap_695 3 16 (some ⟨b_751, 0, none⟩) encGWornPin xs_6 ([(⟨(w8 x_11.fstep), (w8 x_11.ftrack), x_11.fmade⟩ : GWornPin)] : List GWornPin) sp_696 (.agg #[(.int .i8 0), (.int .i8 0), (.int .i64 0)]) rfl rfl (by kernel_rfl) (by kernel_rfl) (by kernel_rfl) encGWornPin_len encGWornPin_cell hs_698 ho_699 (fun w hm => (hm.ow 8 (some b_751) 147 ([(⟨(w8 x_11.fstep), (w8 x_11.ftrack), x_11.fmade⟩ : GWornPin)] : List GWornPin) [] (fun e => nomatch e) encGWornPin_len)) hg_752 (by kernel_rfl) (by kernel_rfl) (fun o_753 cap_754 sp_755 hs_756 ho_757 => jkO (qh [0] (qe (jx_inn (qm ⟨(xs_6 ++ ([(⟨(w8 x_11.fstep), (w8 x_11.ftrack), x_11.fmade⟩ : GWornPin)] : List GWornPin)), xs_7, o_753, cap_754, sp_755, (xs_6 ++ ([(⟨(w8 x_11.fstep), (w8 x_11.ftrack), x_11.fmade⟩ : GWornPin)] : List GWornPin)).length, o_700, cap_701, sp_702, xs_7.length⟩ ⟨h, rfl, hs_756, ho_757, rfl, hs_704, ho_705⟩ [0, 1, 2, 3, 4, 5, 6, 7]))))))
     ·rintro ⟨xs_12, xs_13, o_729, cap_730, sp_731, n_732, o_735, cap_736, sp_737, n_738⟩ ⟨h, rfl, hs_733, ho_734, rfl, hs_739, ho_740⟩
      replace h : impl_WornOut.k_14 i_8 xs_12 xs_13 = some y_707 := h
      rw [impl_WornOut.k_14] at h
      exact jx_inn (jx_then (jc_region (qh [0,0] (qe (qb (xs_12, xs_13, (w64 (i_8 + 1))) ⟨o_729, cap_730, sp_731, xs_12.length, o_735, cap_736, sp_737, xs_13.length⟩ h ⟨rfl, hs_733, ho_734, rfl, hs_739, ho_740⟩ [0, 1, 2, 3, 4, 5, 6])))))
    ·refine jc_exit (jx_thenx (jx_leave (xs_6, xs_7) (Option.some.inj h).symm (fun e_758 => ?_)))
     subst e_758
     exact jx_ine (qm ⟨xs_6, xs_7, o_694, cap_695, sp_696, xs_6.length, o_700, cap_701, sp_702, xs_7.length⟩ ⟨hr_706, rfl, hs_698, ho_699, rfl, hs_704, ho_705⟩ [0, 1, 2, 3, 4, 5, 6])
   ·rintro ⟨xs_3, xs_4, o_570, cap_571, sp_572, n_573, o_576, cap_577, sp_578, n_579⟩ ⟨h, rfl, hs_574, ho_575, rfl, hs_580, ho_581⟩
    replace h : impl_WornOut.k_5 xs_3 xs_4 = some r := h
    rw [impl_WornOut.k_5] at h
    refine jx_then (jc_seq (jc_region (qh [0,0,0,0,0] (qe (jx_then (jc_ret ?_))))))
    obtain rfl := Option.some.inj h
    exact qr [] (fun w hm => ⟨o_570, cap_571, sp_572, xs_3.length, rfl, hs_574, ho_575, o_576, cap_577, sp_578, xs_4.length, rfl, hs_580, ho_581, rfl, hm.pk [4, 5]⟩)
/-! ### spec.l06Words -/
def spec_l06Words (kind0 : Int) : Option (ByteArray × Int) := (spec_l00In kind0 0 3).bind fun t_1 => (if (!t_1) = true then some ((ByteArray.mk #[]), 0) else (ix ([(ByteArray.mk #[116, 117, 114, 110]), (ByteArray.mk #[104, 97, 109, 109, 101, 114]), (ByteArray.mk #[112, 105, 110]), (ByteArray.mk #[109, 111, 118, 101])] : List ByteArray) kind0).bind fun x_2 => (ix ([1, 1, 2, 4] : List Int) kind0).bind fun x_3 => some (x_2, x_3))
theorem spec_l06Words.calls (kind0 : Int) (w : World) (r : ByteArray × Int) (h : spec_l06Words kind0 = some r) :
    Calls Tryz.prog 182 #[(.int .i64 kind0)] w fun e w' => ∃ v, e = .returned v ∧ (v = .tuple #[(.string r.1), (.int .i64 r.2)] ∧ Mem w [] [] w') := by
  rw [spec_l06Words] at h
  refine enter (args := [(.int .i64 kind0)]) Tryz.func182 rfl Tryz.ntmps182 (by kernel_rfl) (L := []) (W := []) (Mem.start w) ?_
  refine jc_seq (jc_region (qh [0,0] (qe (jx_then (jc_seq (jc_region (tO (qa 0 (fun b_1 => jkO (qh [0] (qe (jx_then (jc_seq (jc_region (tO (qa 0 (fun b_2 => jkO (qh [0] (qe (jx_then (jc_seq (jc_seq (jc_region (qh [0] ?_))))))))))))))))))))))))
  obtain ⟨t_1, ht_5, h⟩ := bd h
  refine tO (pc 0 (fun w hm => spec_l00In.calls kind0 0 3 w _ ht_5) ?_)
  rintro w v w' hm ⟨rfl, hm'⟩
  refine ⟨_, hm.app hm', jkO ?_⟩
  clear hm hm'
  refine qh [0] (qe (jx_then (qi h (fun h => ?_) (fun h => ?_))))
  ·refine jc_seq (jc_region (qh [0,0] (qe (jx_then (jc_ret (jx_thenr ?_))))))
   obtain rfl := Option.some.inj h
   exact qr [] (fun w hm => ⟨rfl, hm.pk []⟩)
  ·refine jc_skip (jx_then (jc_seq (qg [⟨(some b_1), 9, row encStr ([(ByteArray.mk #[116, 117, 114, 110]), (ByteArray.mk #[104, 97, 109, 109, 101, 114]), (ByteArray.mk #[112, 105, 110]), (ByteArray.mk #[109, 111, 118, 101])] : List ByteArray) []⟩, ⟨(some b_2), 3, row encI64 ([1, 1, 2, 4] : List Int) []⟩] 10 (qd [⟨0, 0, 0⟩,⟨1, 0, 0⟩,⟨4, 0, 0⟩,⟨5, 0, 0⟩] 6 [0, 1] ?_))))
   obtain ⟨x_2, hx_7, h⟩ := bd h
   refine qv 2 0 [0, 1] (fun w hm => idx_run (a := (some ⟨b_1, 0, none⟩)) (len := 4) (s := 1) (j := kind0) (by kernel_rfl) (ix_some hx_7).1 (ltn hx_7 rfl) rfl) (qv 3 0 [0, 1] (fun w hm => ld_run (b := aB (some ⟨b_1, 0, none⟩)) (off := (aO (some ⟨b_1, 0, none⟩) + kind0.toNat * 1)) (s := 1) (agg := false) (vs := (encStr x_2)) (by kernel_rfl) (by kernel_rfl) (.inr rfl) ((hm.ow 0 (some b_1) 9 ([(ByteArray.mk #[116, 117, 114, 110]), (ByteArray.mk #[104, 97, 109, 109, 101, 114]), (ByteArray.mk #[112, 105, 110]), (ByteArray.mk #[109, 111, 118, 101])] : List ByteArray) [] (fun e => nomatch e) encStr_len).at hx_7)) (qd [⟨8, 0, 0⟩] 3 [0, 1] ?_))
   obtain ⟨x_3, hx_8, h⟩ := bd h
   refine qv 6 0 [0, 1] (fun w hm => idx_run (a := (some ⟨b_2, 0, none⟩)) (len := 4) (s := 1) (j := kind0) (by kernel_rfl) (ix_some hx_8).1 (ltn hx_8 rfl) rfl) (qv 7 0 [0, 1] (fun w hm => ld_run (b := aB (some ⟨b_2, 0, none⟩)) (off := (aO (some ⟨b_2, 0, none⟩) + kind0.toNat * 1)) (s := 1) (agg := false) (vs := (encI64 x_3)) (by kernel_rfl) (by kernel_rfl) (.inr rfl) ((hm.ow 1 (some b_2) 3 ([1, 1, 2, 4] : List Int) [] (fun e => nomatch e) encI64_len).at hx_8)) (qd [⟨9, 0, 0⟩] 0 [0, 1] (qz (jx_then (jc_ret ?_)))))
   obtain rfl := Option.some.inj h
   exact qr [] (fun w hm => ⟨rfl, hm.pk []⟩)
/-! ### spec.Decimal -/
def spec_Decimal.step (self_ : Int → Option (ByteArray)) (n0 : Int) : Option (ByteArray) := (if (decide (n0 < 10)) = true then some (ByteArray.empty.push (UInt8.ofNat (u8 (w64 (48 + (Int.tmod n0 10)))).toNat)) else (self_ (w64 (Int.tdiv n0 10))).bind fun t_1 => (if t_1.size + (ByteArray.empty.push (UInt8.ofNat (u8 (w64 (48 + (Int.tmod n0 10)))).toNat)).size ≤ 9223372036854775807 then some (t_1 ++ (ByteArray.empty.push (UInt8.ofNat (u8 (w64 (48 + (Int.tmod n0 10)))).toNat))) else none))
def spec_Decimal.rec_ : Nat → Int → Option (ByteArray)
  | 0 => fun n0 => none
  | fu + 1 => spec_Decimal.step (spec_Decimal.rec_ fu)
def spec_Decimal (n0 : Int) : Option (ByteArray) := spec_Decimal.rec_ 20 n0
theorem spec_Decimal.step_calls (self_ : Int → Option (ByteArray)) (hself : ∀ (n0 : Int) (w : World) (r : ByteArray) (h : self_ n0 = some r),
    Calls Tryz.prog 153 #[(.int .i64 n0)] w fun e w' => ∃ v, e = .returned v ∧ (v = (.string r) ∧ Mem w [] [] w')) (n0 : Int) (w : World) (r : ByteArray) (h : spec_Decimal.step self_ n0 = some r) :
    Calls Tryz.prog 153 #[(.int .i64 n0)] w fun e w' => ∃ v, e = .returned v ∧ (v = (.string r) ∧ Mem w [] [] w') := by
  rw [spec_Decimal.step] at h
  refine enter (args := [(.int .i64 n0)]) Tryz.func153 rfl Tryz.ntmps153 (by kernel_rfl) (L := []) (W := []) (Mem.start w) ?_
  refine jc_seq (jc_region (qh [0] (qe (jx_then (jc_seq (jc_seq (jc_region (qh [0,0] (qe (jx_then (qi h (fun h => ?_) (fun h => ?_))))))))))))
  ·refine jc_seq (jc_region (qh [0,0,0,0] (tO (qa 0 (fun b_4 => jkO (tO (qs 0 [0] (jkO (qh [0] (qe (jx_then (jc_ret (jx_thenr ?_)))))))))))))
   obtain rfl := Option.some.inj h
   exact qr [] (fun w hm => ⟨rfl, hm.pk []⟩)
  ·refine jc_skip (jx_then (jc_seq (qg [] 11 (qd [⟨0, 0, 0⟩,⟨1, 0, 0⟩,⟨3, 0, 0⟩,⟨4, 0, 0⟩,⟨5, 0, 0⟩,⟨6, 0, 0⟩] 5 [] (toD2 2 7 (by kernel_rfl) ?_ ?_)))))
   ·obtain ⟨t_1, ht_5, h⟩ := bd h
    refine pc 0 (fun w hm => hself (w64 (Int.tdiv n0 10)) w _ ht_5) ?_
    rintro w v w' hm ⟨rfl, hm'⟩
    refine ⟨_, hm.app hm', kD [] ?_⟩
    clear hm hm'
    refine tD 7 (qa 0 (fun b_6 => kD [] (tD 8 (qs 0 [0] (kD [] ?_)))))
    obtain ⟨hg_7, h⟩ := gd h
    refine qv 9 0 [] (fun w hm => cat_run (a := t_1) (b := (ByteArray.empty.push (UInt8.ofNat (u8 (w64 (48 + (Int.tmod n0 10)))).toNat))) (by kernel_rfl) hg_7) (qd [⟨10, 0, 0⟩] 0 [] (qz (jx_then (jc_ret ?_))))
    obtain rfl := Option.some.inj h
    exact qr [] (fun w hm => ⟨rfl, hm.pk []⟩)
   ·refine qa 0 (fun b_8 => kD [] (toD2 2 8 (by kernel_rfl) ?_ ?_))
    ·obtain ⟨t_1, ht_9, h⟩ := bd h
     refine pc 0 (fun w hm => hself (w64 (Int.tdiv n0 10)) w _ ht_9) ?_
     rintro w v w' hm ⟨rfl, hm'⟩
     refine ⟨_, hm.app hm', kD [] ?_⟩
     clear hm hm'
     refine tD 8 (qs 0 [0] (kD [] ?_))
     obtain ⟨hg_10, h⟩ := gd h
     refine qv 9 0 [] (fun w hm => cat_run (a := t_1) (b := (ByteArray.empty.push (UInt8.ofNat (u8 (w64 (48 + (Int.tmod n0 10)))).toNat))) (by kernel_rfl) hg_10) (qd [⟨10, 0, 0⟩] 0 [] (qz (jx_then (jc_ret ?_))))
     obtain rfl := Option.some.inj h
     exact qr [] (fun w hm => ⟨rfl, hm.pk []⟩)
    ·refine qs 0 [0] (kD [] ?_)
     obtain ⟨t_1, ht_11, h⟩ := bd h
     refine tD 2 (pc 0 (fun w hm => hself (w64 (Int.tdiv n0 10)) w _ ht_11) ?_)
     rintro w v w' hm ⟨rfl, hm'⟩
     refine ⟨_, hm.app hm', kD [] ?_⟩
     clear hm hm'
     obtain ⟨hg_12, h⟩ := gd h
     refine qv 9 0 [] (fun w hm => cat_run (a := t_1) (b := (ByteArray.empty.push (UInt8.ofNat (u8 (w64 (48 + (Int.tmod n0 10)))).toNat))) (by kernel_rfl) hg_12) (qd [⟨10, 0, 0⟩] 0 [] (qz (jx_then (jc_ret ?_))))
     obtain rfl := Option.some.inj h
     exact qr [] (fun w hm => ⟨rfl, hm.pk []⟩)
theorem spec_Decimal.rec_calls : ∀ (fu : Nat) (n0 : Int) (w : World) (r : ByteArray) (h : spec_Decimal.rec_ fu n0 = some r),
    Calls Tryz.prog 153 #[(.int .i64 n0)] w fun e w' => ∃ v, e = .returned v ∧ (v = (.string r) ∧ Mem w [] [] w')
  | 0, n0, w, r, h => nomatch (show none = some r from h)
  | fu + 1, n0, w, r, h => spec_Decimal.step_calls (spec_Decimal.rec_ fu) (spec_Decimal.rec_calls fu) n0 w r h
theorem spec_Decimal.calls (n0 : Int) (w : World) (r : ByteArray) (h : spec_Decimal n0 = some r) :
    Calls Tryz.prog 153 #[(.int .i64 n0)] w fun e w' => ∃ v, e = .returned v ∧ (v = (.string r) ∧ Mem w [] [] w') :=
  spec_Decimal.rec_calls 20 n0 w r h
/-! ### spec.l06Text -/
def spec_l06Text.k_2 (list0 : List GAct) (s_1 : ByteArray) : Option (ByteArray × Bool) := some (s_1, (decide ((list0.length : Int) ≤ 60)))
def spec_l06Text.k_14 (i_4 : Int) (s_13 : ByteArray) : Option ((ByteArray × Int) ⊕ ((ByteArray × Bool) ⊕ ByteArray)) := (if s_13.size + (ByteArray.mk #[10]).size ≤ 9223372036854775807 then some (.inl ((s_13 ++ (ByteArray.mk #[10])), (w64 (i_4 + 1)))) else none)
def spec_l06Text.k_20 (t_8 : ByteArray × Int) (x_9 : GAct) (x_10 : GAct) (x_11 : GAct) (x_12 : GAct) (s_15 : ByteArray) (i_16 : Int) (q_19 : Bool) : Option ((ByteArray × Int) ⊕ ((ByteArray × Bool) ⊕ ByteArray)) := (if q_19 = true then some (.inr (.inl ((ByteArray.mk #[]), false))) else (if (decide (i_16 < t_8.2)) = true then (ix ((Arr.set (Arr.set (Arr.set (Arr.set (Arr.rep 4 0) 0 x_9.fA) 1 x_10.fB) 2 x_11.fC) 3 x_12.fD).1) i_16).bind fun x_21 => (spec_Decimal x_21).bind fun t_22 => (if (ByteArray.mk #[32]).size + t_22.size ≤ 9223372036854775807 then (if s_15.size + ((ByteArray.mk #[32]) ++ t_22).size ≤ 9223372036854775807 then some (.inl ((s_15 ++ ((ByteArray.mk #[32]) ++ t_22)), (w64 (i_16 + 1)))) else none) else none) else some (.inl (s_15, (w64 (i_16 + 1))))))
def spec_l06Text.l_17 (t_8 : ByteArray × Int) (x_9 : GAct) (x_10 : GAct) (x_11 : GAct) (x_12 : GAct) : (ByteArray × Int) → Option ((ByteArray × Int) ⊕ ((ByteArray × Bool) ⊕ ByteArray))
  | (s_15, i_16) => (if (decide (i_16 < 4)) = true then (if (decide (i_16 < t_8.2)) = true then (ix ((Arr.set (Arr.set (Arr.set (Arr.set (Arr.rep 4 0) 0 x_9.fA) 1 x_10.fB) 2 x_11.fC) 3 x_12.fD).1) i_16).bind fun x_23 => (spec_l06Turns x_23).bind fun t_24 => (if (!t_24) = true then spec_l06Text.k_20 t_8 x_9 x_10 x_11 x_12 s_15 i_16 true else (if (decide (i_16 ≥ t_8.2)) = true then (ix ((Arr.set (Arr.set (Arr.set (Arr.set (Arr.rep 4 0) 0 x_9.fA) 1 x_10.fB) 2 x_11.fC) 3 x_12.fD).1) i_16).bind fun x_25 => spec_l06Text.k_20 t_8 x_9 x_10 x_11 x_12 s_15 i_16 (x_25 != 0) else spec_l06Text.k_20 t_8 x_9 x_10 x_11 x_12 s_15 i_16 false)) else (if (decide (i_16 ≥ t_8.2)) = true then (ix ((Arr.set (Arr.set (Arr.set (Arr.set (Arr.rep 4 0) 0 x_9.fA) 1 x_10.fB) 2 x_11.fC) 3 x_12.fD).1) i_16).bind fun x_26 => spec_l06Text.k_20 t_8 x_9 x_10 x_11 x_12 s_15 i_16 (x_26 != 0) else spec_l06Text.k_20 t_8 x_9 x_10 x_11 x_12 s_15 i_16 false)) else some (.inr (.inr s_15)))
def spec_l06Text.l_5 (list0 : List GAct) : (ByteArray × Int) → Option ((ByteArray × Int) ⊕ ((ByteArray × Bool) ⊕ ByteArray))
  | (s_3, i_4) => (if (decide (i_4 < (list0.length : Int))) = true then (ix list0 i_4).bind fun x_7 => (spec_l06Words (w64 x_7.fKind)).bind fun t_8 => (if (t_8.1.toList == (ByteArray.mk #[]).toList) = true then some (.inr (.inl ((ByteArray.mk #[]), false))) else (if s_3.size + t_8.1.size ≤ 9223372036854775807 then (ix list0 i_4).bind fun x_9 => (ix list0 i_4).bind fun x_10 => (ix list0 i_4).bind fun x_11 => (ix list0 i_4).bind fun x_12 => (loop (spec_l06Text.l_17 t_8 x_9 x_10 x_11 x_12) ((s_3 ++ t_8.1), 0)).bind fun t_18 => match t_18 with | .inl p => some (.inr (.inl p)) | .inr p => spec_l06Text.k_14 i_4 p else none)) else some (.inr (.inr s_3)))
def spec_l06Text (list0 : List GAct) : Option (ByteArray × Bool) := (loop (spec_l06Text.l_5 list0) ((ByteArray.mk #[]), 0)).bind fun t_6 => match t_6 with | .inl p => some p | .inr p => spec_l06Text.k_2 list0 p
set_option maxHeartbeats 8000000 in
theorem spec_l06Text.calls (list0 : List GAct) (w : World) (r : ByteArray × Bool) {A_a : Option Addr} {A_an : Nat} (A_c : Nat) (A_h : Rw w A_a 5 encGAct list0) (A_hn : list0.length = A_an) (h : spec_l06Text list0 = some r) :
    Calls Tryz.prog 105 #[(.slice A_a A_an A_c)] w fun e w' => ∃ v, e = .returned v ∧ (v = .tuple #[(.string r.1), (.bool r.2)] ∧ Mem w [] [] w') := by
  subst A_hn
  rw [spec_l06Text] at h
  refine enter (args := [(.slice A_a list0.length A_c)]) Tryz.func105 rfl Tryz.ntmps105 (by kernel_rfl) (L := []) (W := []) (Mem.start w) ?_
  refine jc_seq (jc_region (qh [0,0] (qe (jx_then (jc_seq (jc_region (qh [0] (qe (jx_then (jc_seq (jc_seq (jc_region (qh [0] (qe (jx_then (jc_meet (fun (j : ByteArray) => match j with | s_1 => spec_l06Text.k_2 list0 s_1 = some r) (fun (j : ByteArray) => match j with | s_1 => [(0, [], (.slice A_a list0.length A_c)), (2, [], (.string (ByteArray.mk #[]))), (3, [], (.bool false)), (4, [], (.string s_1))]) (fun (j : ByteArray) => match j with | s_1 => []) ?_ ?_))))))))))))))))
  ·refine jc_block ?_
   obtain ⟨t_6, ht_3252, hr_2978⟩ := bd h
   refine jc_loop (fun (s : ByteArray × Int) (x : Unit) => match s, x with | ⟨s_3, i_4⟩, _ => True) (fun (s : ByteArray × Int) (x : Unit) => match s, x with | ⟨s_3, i_4⟩, _ => [(0, [], (.slice A_a list0.length A_c)), (2, [], (.string (ByteArray.mk #[]))), (3, [], (.bool false)), (4, [], (.string s_3)), (5, [], (.int .i64 i_4))]) (fun (s : ByteArray × Int) (x : Unit) => match s, x with | ⟨s_3, i_4⟩, _ => []) ht_3252 () trivial (by kernel_rfl) [] (by kernel_rfl) (by kernel_rfl) ?_
   rintro ⟨s_3, i_4⟩ _ y_2979 _ h
   rw [spec_l06Text.l_5] at h
   refine jc_seq (jc_seq (jc_region (qh [0,0,0,0] (qe (jx_then (qi h (fun h => ?_) (fun h => ?_)))))))
   ·refine jc_skip (jx_then (jc_seq (jc_block (jc_seq (jc_region (qh [0,0] ?_))))))
    obtain ⟨x_7, hx_2982, h⟩ := bd h
    refine tO (qx 0 A_a 5 hx_2982 rfl (A_h.sp hx_2982) (jkO (qh [0] (tO (ql 0 false (fun w hm => (((hm.xr A_h).at hx_2982).sub 0 1)) (jkO (qh [0] ?_)))))))
    obtain ⟨t_8, ht_2983, h⟩ := bd h
    refine tO (pc 0 (fun w hm => spec_l06Words.calls (w64 x_7.fKind) w _ ht_2983) ?_)
    rintro w v w' hm ⟨rfl, hm'⟩
    refine ⟨_, hm.app hm', jkO ?_⟩
    clear hm hm'
    refine qh [0,0,0,0,0] (qe (jx_then (jc_seq (jc_seq (jc_region (qh [0,0] (qe (jx_then (qi h (fun h => ?_) (fun h => ?_))))))))))
    ·refine jc_seq (jc_region (qh [0,0] (qe (jx_then (jc_ret (jx_thenr (jx_inr (jx_thenr (jx_leaver (.inl ((ByteArray.mk #[]), false)) (Option.some.inj h).symm (fun e_2986 => ?_))))))))))
     subst e_2986
     refine jx_inr (jx_thenr (jx_thenr ?_))
     obtain rfl := Option.some.inj hr_2978
     exact qr [] (fun w hm => ⟨rfl, hm.pk []⟩)
    ·refine jc_skip (jx_then (jc_seq (jc_region (qh [0,0] ?_))))
     obtain ⟨hg_2987, h⟩ := gd h
     refine tO (p_v 0 (by kernel_rfl) _ (fun w hm => cat_run (a := s_3) (b := t_8.1) (by kernel_rfl) hg_2987) (jkO (qh [0] (qe (jx_then (jc_seq (qg [] 23 (qd [⟨0, 0, 0⟩,⟨1, 0, 0⟩,⟨5, 0, 0⟩,⟨6, 0, 0⟩,⟨10, 0, 0⟩,⟨11, 0, 0⟩,⟨15, 0, 0⟩,⟨16, 0, 0⟩] 15 [] ?_))))))))
     obtain ⟨x_9, hx_2988, h⟩ := bd h
     refine qv 2 0 [] (fun w hm => idx_run (a := A_a) (len := list0.length) (s := 5) (j := i_4) (by kernel_rfl) (ix_some hx_2988).1 (ltn hx_2988 rfl) (A_h.sp hx_2988)) (qd [⟨3, 0, 0⟩] 13 [] (qv 4 0 [] (fun w hm => ld_run (b := aB A_a) (off := (aO A_a + i_4.toNat * 5 + 1)) (s := 1) (agg := false) (vs := (((encGAct x_9).drop 1).take 1)) (by kernel_rfl) (by kernel_rfl) (.inr rfl) (((hm.xr A_h).at hx_2988).sub 1 1)) ?_))
     obtain ⟨x_10, hx_2989, h⟩ := bd h
     refine qv 7 0 [] (fun w hm => idx_run (a := A_a) (len := list0.length) (s := 5) (j := i_4) (by kernel_rfl) (ix_some hx_2989).1 (ltn hx_2989 rfl) (A_h.sp hx_2989)) (qd [⟨8, 0, 0⟩] 10 [] (qv 9 0 [] (fun w hm => ld_run (b := aB A_a) (off := (aO A_a + i_4.toNat * 5 + 2)) (s := 1) (agg := false) (vs := (((encGAct x_10).drop 2).take 1)) (by kernel_rfl) (by kernel_rfl) (.inr rfl) (((hm.xr A_h).at hx_2989).sub 2 1)) ?_))
     obtain ⟨x_11, hx_2990, h⟩ := bd h
     refine qv 12 0 [] (fun w hm => idx_run (a := A_a) (len := list0.length) (s := 5) (j := i_4) (by kernel_rfl) (ix_some hx_2990).1 (ltn hx_2990 rfl) (A_h.sp hx_2990)) (qd [⟨13, 0, 0⟩] 7 [] (qv 14 0 [] (fun w hm => ld_run (b := aB A_a) (off := (aO A_a + i_4.toNat * 5 + 3)) (s := 1) (agg := false) (vs := (((encGAct x_11).drop 3).take 1)) (by kernel_rfl) (by kernel_rfl) (.inr rfl) (((hm.xr A_h).at hx_2990).sub 3 1)) ?_))
     obtain ⟨x_12, hx_2991, h⟩ := bd h
     refine qv 17 0 [] (fun w hm => idx_run (a := A_a) (len := list0.length) (s := 5) (j := i_4) (by kernel_rfl) (ix_some hx_2991).1 (ltn hx_2991 rfl) (A_h.sp hx_2991)) (qd [⟨18, 0, 0⟩] 4 [] (qv 19 0 [] (fun w hm => ld_run (b := aB A_a) (off := (aO A_a + i_4.toNat * 5 + 4)) (s := 1) (agg := false) (vs := (((encGAct x_12).drop 4).take 1)) (by kernel_rfl) (by kernel_rfl) (.inr rfl) (((hm.xr A_h).at hx_2991).sub 4 1)) (qd [⟨20, 0, 0⟩] 2 [] (tD 21 (qa 0 (fun b_2992 => kD [] (tD 22 (p_sA 0 0 b_2992 4 1 169 encI64 (Arr.rep 4 0) (Arr.set (Arr.set (Arr.set (Arr.set (Arr.rep 4 0) 0 x_9.fA) 1 x_10.fB) 2 x_11.fC) 3 x_12.fD) (by kernel_rfl) (by kernel_rfl) (by kernel_rfl) encI64_len encI64_cell (by kernel_rfl) (kD [] (qz (jx_then (jc_seq (jc_seq (jc_region (qh [0] (qe (jx_then (jc_meet (fun (j : ByteArray) => match j with | s_13 => spec_l06Text.k_14 i_4 s_13 = some y_2979) (fun (j : ByteArray) => match j with | s_13 => [(0, [], (.slice A_a list0.length A_c)), (2, [], (.string (ByteArray.mk #[]))), (3, [], (.bool false)), (4, [], (.string s_13)), (5, [], (.int .i64 i_4))]) (fun (j : ByteArray) => match j with | s_13 => [⟨(some b_2992), 169, row encI64 ((Arr.set (Arr.set (Arr.set (Arr.set (Arr.rep 4 0) 0 x_9.fA) 1 x_10.fB) 2 x_11.fC) 3 x_12.fD).1) []⟩]) ?_ ?_))))))))))))))))))
     ·refine jc_block ?_
      obtain ⟨t_18, ht_3250, hr_3204⟩ := bd h
      refine jc_loop (fun (s : ByteArray × Int) (x : Unit) => match s, x with | ⟨s_15, i_16⟩, _ => True) (fun (s : ByteArray × Int) (x : Unit) => match s, x with | ⟨s_15, i_16⟩, _ => [(0, [], (.slice A_a list0.length A_c)), (2, [], (.string (ByteArray.mk #[]))), (3, [], (.bool false)), (4, [], (.string s_15)), (5, [], (.int .i64 i_4)), (7, [], (.int .i64 t_8.2)), (8, [], (.pointer (some ⟨b_2992, 0, none⟩))), (9, [], (.int .i64 i_16))]) (fun (s : ByteArray × Int) (x : Unit) => match s, x with | ⟨s_15, i_16⟩, _ => [⟨(some b_2992), 169, row encI64 ((Arr.set (Arr.set (Arr.set (Arr.set (Arr.rep 4 0) 0 x_9.fA) 1 x_10.fB) 2 x_11.fC) 3 x_12.fD).1) []⟩]) ht_3250 () trivial (by kernel_rfl) [0] (by kernel_rfl) (by kernel_rfl) ?_
      rintro ⟨s_15, i_16⟩ _ y_3205 _ h
      rw [spec_l06Text.l_17] at h
      refine jc_seq (jc_seq (jc_region (qh [0,0] (qe (jx_then (qi h (fun h => ?_) (fun h => ?_)))))))
      ·refine jc_skip (jx_then (jc_seq (jc_block (jc_seq (jc_seq (jc_meet (fun (j : Bool) => match j with | q_19 => spec_l06Text.k_20 t_8 x_9 x_10 x_11 x_12 s_15 i_16 q_19 = some y_3205) (fun (j : Bool) => match j with | q_19 => [(0, [], (.slice A_a list0.length A_c)), (2, [], (.string (ByteArray.mk #[]))), (3, [], (.bool false)), (4, [], (.string s_15)), (5, [], (.int .i64 i_4)), (7, [], (.int .i64 t_8.2)), (8, [], (.pointer (some ⟨b_2992, 0, none⟩))), (9, [], (.int .i64 i_16)), (76, [], (.bool q_19))]) (fun (j : Bool) => match j with | q_19 => [⟨(some b_2992), 169, row encI64 ((Arr.set (Arr.set (Arr.set (Arr.set (Arr.rep 4 0) 0 x_9.fA) 1 x_10.fB) 2 x_11.fC) 3 x_12.fD).1) []⟩]) ?_ ?_))))))
       ·refine jc_region (qf [(0, 0), (0, 0), (0, 0), (0, 0), (0, 1)] (qp 59 h (fun h => ?_) (fun h => ?_)))
        ·obtain ⟨x_23, hx_3242, h⟩ := bd h
         refine tO (qx 2 (some ⟨b_2992, 0, none⟩) 1 hx_3242 (Arr.set (Arr.set (Arr.set (Arr.set (Arr.rep 4 0) 0 x_9.fA) 1 x_10.fB) 2 x_11.fC) 3 x_12.fD).2 rfl (jkO (tO (ql 2 false (fun w hm => ((hm.ow 0 (some b_2992) 169 ((Arr.set (Arr.set (Arr.set (Arr.set (Arr.rep 4 0) 0 x_9.fA) 1 x_10.fB) 2 x_11.fC) 3 x_12.fD).1) [] (fun e => nomatch e) encI64_len).at hx_3242)) (jkO ?_)))))
         obtain ⟨t_24, ht_3243, h⟩ := bd h
         refine tO (pc 2 (fun w hm => spec_l06Turns.calls x_23 w _ ht_3243) ?_)
         rintro w v w' hm ⟨rfl, hm'⟩
         refine ⟨_, hm.app hm', jkO ?_⟩
         clear hm hm'
         refine qf [(0, 2), (0, 4), (0, 0), (0, 1), (0, 1), (0, 1)] (qp 66 h (fun h => ?_) (fun h => ?_))
         ·exact qf [(0, 3), (0, 3), (0, 3), (0, 3), (0, 3), (0, 3), (0, 4)] (qe (qm true h [0]))
         ·refine qf [(0, 2), (0, 1)] (qp 70 h (fun h => ?_) (fun h => ?_))
          ·obtain ⟨x_25, hx_3246, h⟩ := bd h
           exact tO (qx 2 (some ⟨b_2992, 0, none⟩) 1 hx_3246 (Arr.set (Arr.set (Arr.set (Arr.set (Arr.rep 4 0) 0 x_9.fA) 1 x_10.fB) 2 x_11.fC) 3 x_12.fD).2 rfl (jkO (tO (ql 2 false (fun w hm => ((hm.ow 0 (some b_2992) 169 ((Arr.set (Arr.set (Arr.set (Arr.set (Arr.rep 4 0) 0 x_9.fA) 1 x_10.fB) 2 x_11.fC) 3 x_12.fD).1) [] (fun e => nomatch e) encI64_len).at hx_3246)) (jkO (qf [(0, 2), (0, 4), (0, 5)] (qe (qm (x_25 != 0) h [0]))))))))
          ·exact qf [(0, 3), (0, 3), (0, 3), (0, 5), (0, 5)] (qe (qm false h [0]))
        ·refine qf [(0, 3), (0, 3), (0, 3), (0, 3), (0, 5), (0, 0), (0, 2), (0, 2), (0, 2), (0, 2), (0, 1)] (qp 70 h (fun h => ?_) (fun h => ?_))
         ·obtain ⟨x_26, hx_3248, h⟩ := bd h
          exact tO (qx 2 (some ⟨b_2992, 0, none⟩) 1 hx_3248 (Arr.set (Arr.set (Arr.set (Arr.set (Arr.rep 4 0) 0 x_9.fA) 1 x_10.fB) 2 x_11.fC) 3 x_12.fD).2 rfl (jkO (tO (ql 2 false (fun w hm => ((hm.ow 0 (some b_2992) 169 ((Arr.set (Arr.set (Arr.set (Arr.set (Arr.rep 4 0) 0 x_9.fA) 1 x_10.fB) 2 x_11.fC) 3 x_12.fD).1) [] (fun e => nomatch e) encI64_len).at hx_3248)) (jkO (qf [(0, 2), (0, 4), (0, 5)] (qe (qm (x_26 != 0) h [0]))))))))
         ·exact qf [(0, 3), (0, 3), (0, 3), (0, 5), (0, 5)] (qe (qm false h [0]))
       ·rintro q_19 h
        replace h : spec_l06Text.k_20 t_8 x_9 x_10 x_11 x_12 s_15 i_16 q_19 = some y_3205 := h
        rw [spec_l06Text.k_20] at h
        refine jx_then (qi h (fun h => ?_) (fun h => ?_))
        ·refine jc_seq (jc_region (qh [0,0] (qe (jx_then (jc_ret (jx_thenr (jx_inr (jx_thenr (jx_leaver (.inl ((ByteArray.mk #[]), false)) (Option.some.inj h).symm (fun e_3235 => ?_))))))))))
         subst e_3235
         refine jx_inr (jx_thenr (jx_thenr (jx_inr (jx_thenr (jx_leaver (.inl ((ByteArray.mk #[]), false)) (Option.some.inj hr_3204).symm (fun e_3234 => ?_))))))
         subst e_3234
         refine jx_inr (jx_thenr (jx_thenr ?_))
         obtain rfl := Option.some.inj hr_2978
         exact qr [] (fun w hm => ⟨rfl, hm.pk []⟩)
        ·refine jc_skip (jx_then (jc_seq (jc_region (qh [0,0,0] (qe (jx_then (qi h (fun h => ?_) (fun h => ?_))))))))
         ·refine jc_region (qh [0,0] ?_)
          obtain ⟨x_21, hx_3237, h⟩ := bd h
          refine tO (qx 0 (some ⟨b_2992, 0, none⟩) 1 hx_3237 (Arr.set (Arr.set (Arr.set (Arr.set (Arr.rep 4 0) 0 x_9.fA) 1 x_10.fB) 2 x_11.fC) 3 x_12.fD).2 rfl (jkO (tO (ql 0 false (fun w hm => ((hm.ow 0 (some b_2992) 169 ((Arr.set (Arr.set (Arr.set (Arr.set (Arr.rep 4 0) 0 x_9.fA) 1 x_10.fB) 2 x_11.fC) 3 x_12.fD).1) [] (fun e => nomatch e) encI64_len).at hx_3237)) (jkO ?_)))))
          obtain ⟨t_22, ht_3238, h⟩ := bd h
          refine tO (pc 0 (fun w hm => spec_Decimal.calls x_21 w _ ht_3238) ?_)
          rintro w v w' hm ⟨rfl, hm'⟩
          refine ⟨_, hm.app hm', jkO ?_⟩
          clear hm hm'
          obtain ⟨hg_3239, h⟩ := gd h
          refine tO (p_v 0 (by kernel_rfl) _ (fun w hm => cat_run (a := (ByteArray.mk #[32])) (b := t_22) (by kernel_rfl) hg_3239) (jkO ?_))
          obtain ⟨hg_3240, h⟩ := gd h
          exact tO (p_v 0 (by kernel_rfl) _ (fun w hm => cat_run (a := s_15) (b := ((ByteArray.mk #[32]) ++ t_22)) (by kernel_rfl) hg_3240) (jkO (qh [0] (qe (jx_inn (jx_then (jc_region (qh [0,0,0] (qe (qb ((s_15 ++ ((ByteArray.mk #[32]) ++ t_22)), (w64 (i_16 + 1))) () h trivial [0]))))))))))
         ·exact jc_skip (jx_inn (jx_then (jc_region (qh [0,0,0] (qe (qb (s_15, (w64 (i_16 + 1))) () h trivial [0]))))))
      ·refine jc_exit (jx_thenx (jx_leave (.inr s_15) (Option.some.inj h).symm (fun e_3249 => ?_)))
       subst e_3249
       exact jx_ine (qm s_15 hr_3204 [0])
     ·rintro s_13 h
      replace h : spec_l06Text.k_14 i_4 s_13 = some y_2979 := h
      rw [spec_l06Text.k_14] at h
      refine jx_then (jc_region (qh [0] ?_))
      obtain ⟨hg_3121, h⟩ := gd h
      exact tO (p_v 0 (by kernel_rfl) _ (fun w hm => cat_run (a := s_13) (b := (ByteArray.mk #[10])) (by kernel_rfl) hg_3121) (jkO (qh [0] (qe (jx_inn (jx_then (jc_region (qh [0,0,0] (qe (qb ((s_13 ++ (ByteArray.mk #[10])), (w64 (i_4 + 1))) () h trivial []))))))))))
   ·refine jc_exit (jx_thenx (jx_leave (.inr s_3) (Option.some.inj h).symm (fun e_3251 => ?_)))
    subst e_3251
    exact jx_ine (qm s_3 hr_2978 [])
  ·rintro s_1 h
   replace h : spec_l06Text.k_2 list0 s_1 = some r := h
   rw [spec_l06Text.k_2] at h
   refine jx_then (jc_seq (jc_region (qh [0,0,0,0,0,0] (qe (jx_then (jc_ret ?_))))))
   obtain rfl := Option.some.inj h
   exact qr [] (fun w hm => ⟨rfl, hm.pk []⟩)
/-! ### spec.ActsText -/
def spec_ActsText (list0 : List GAct) : Option (ByteArray) := (spec_l06Text list0).bind fun t_1 => (if (!t_1.2) = true then some (ByteArray.mk #[]) else some t_1.1)
theorem spec_ActsText.calls (list0 : List GAct) (w : World) (r : ByteArray) {A_a : Option Addr} {A_an : Nat} (A_c : Nat) (A_h : Rw w A_a 5 encGAct list0) (A_hn : list0.length = A_an) (h : spec_ActsText list0 = some r) :
    Calls Tryz.prog 39 #[(.slice A_a A_an A_c)] w fun e w' => ∃ v, e = .returned v ∧ (v = (.string r) ∧ Mem w [] [] w') := by
  subst A_hn
  rw [spec_ActsText] at h
  refine enter (args := [(.slice A_a list0.length A_c)]) Tryz.func39 rfl Tryz.ntmps39 (by kernel_rfl) (L := []) (W := []) (Mem.start w) ?_
  refine jc_seq (jc_region (qh [0] (qe (jx_then (jc_seq (jc_region (qh [0] ?_)))))))
  obtain ⟨t_1, ht_1, h⟩ := bd h
  refine tO (pc 0 (fun w hm => spec_l06Text.calls list0 w _ A_c (hm.xr A_h) rfl ht_1) ?_)
  rintro w v w' hm ⟨rfl, hm'⟩
  refine ⟨_, hm.app hm', jkO ?_⟩
  clear hm hm'
  refine qh [0,0,0,0,0] (qe (jx_then (jc_seq (jc_seq (jc_region (qh [0,0] (qe (jx_then (qi h (fun h => ?_) (fun h => ?_))))))))))
  ·refine jc_seq (jc_region (qh [0] (qe (jx_then (jc_ret (jx_thenr ?_))))))
   obtain rfl := Option.some.inj h
   exact qr [] (fun w hm => ⟨rfl, hm.pk []⟩)
  ·refine jc_skip (jx_then (jc_seq (jc_region (qh [0,0] (qe (jx_then (jc_ret ?_)))))))
   obtain rfl := Option.some.inj h
   exact qr [] (fun w hm => ⟨rfl, hm.pk []⟩)
def lay_lines183_ren : Go.Shelf.Ren := ⟨fun | 137 => 184 | 217 => 221 | 266 => 244 | n => n, fun | 9 => 9 | 5 => 5 | 3 => 3 | n => n, fun | n => n⟩
theorem lay_lines183 : Go.Proofs.Lays.n137 Tryz.prog lay_lines183_ren where
  mixed := by kernel_rfl
  f137 := Tryz.func184.trans (congrArg some (by kernel_rfl))
  f217 := Tryz.func221.trans (congrArg some (by kernel_rfl))
  f266 := Tryz.func244.trans (congrArg some (by kernel_rfl))
  t3 := Tryz.underlying3
  a3 := Tryz.isAgg3
  z3 := Tryz.sizeOf3
  v3 := Tryz.zeroValue3
  t5 := Tryz.underlying5
  a5 := Tryz.isAgg5
  z5 := Tryz.sizeOf5
  v5 := Tryz.zeroValue5
  t9 := Tryz.underlying9
  a9 := Tryz.isAgg9
  z9 := Tryz.sizeOf9
  v9 := Tryz.zeroValue9
/-! ### strings.Lines -/
theorem lines183.iter (b0 : Nat) (s0 : ByteArray) (hs0 : s0.size ≤ 4294967296) : IterC Tryz.prog 183 #[.pointer (some ⟨b0, 0, none⟩)] ((linesL s0).map encL) (linesH b0 9 s0) (linesSt b0 9 s0) := by
  intro n l J J' Jx W hH hSt hY h0
  have hlen : ((linesL s0).map encL).length = (linesL s0).length := List.length_map ..
  rw [hlen] at hSt ⊢
  have hlin := lin_len s0.size s0 (Nat.le_refl _) (by omega)
  refine callsIn_wide.2 ((enterAt (n := 25) (L := [⟨some b0, 9, [.string (lnRest s0 0)]⟩]) (W := [b0]) (args := [.func (.yield l) #[] #[], .pointer (some ⟨b0, 0, none⟩)]) (R := fun _ w' => J (linesL s0).length w' ∨ Jx w') Tryz.func183 rfl Tryz.ntmps183 (by kernel_rfl) (lines_mem (hH 0 W h0)) (fun a0 hok0 => ?_)).mono ?_)
  rotate_left
  · rintro e w' ⟨v, rfl, h⟩; exact ⟨⟨v, rfl⟩, h⟩
  refine wp_block (wp_loop (fun a w => ∃ k, k ≤ (linesL s0).length ∧ J k w ∧ Ok 25 w [b0] [(0, [], .func (.yield l) #[] #[]), (1, [], .pointer (some ⟨b0, 0, none⟩))] [⟨some b0, 9, [.string (lnRest s0 k)]⟩] a w) (fun _ w => linesM b0 w) ⟨0, Nat.zero_le _, h0, lk_ok hok0 (by kernel_rfl) (fun _ h => h) hok0.mem.dis⟩ ?_)
  rintro a w ⟨k, hk, hJ, hok⟩
  obtain ⟨hl1, hl2, hl3⟩ := hlin k
  have hsz := hl3 hk
  have hmw := lines_M (hH k w hJ)
  have hs1 : lnRest s0 (k + 1) = lnTl (lnRest s0 k) := rfl
  refine wp_seq (wp_seq (wp_region_f [(0, 0), (0, 0), (0, 0)] hok (by kernel_rfl) (by kernel_rfl) (fun a1 hok1 => ?_)))
  refine wp_cond_at (decide (((lnRest s0 k).size : Int) > 0)) hok1 (by kernel_rfl) (fun e => wp_skip ?_) (fun e => wp_exit ?_)
  · have hpos := of_decide_eq_true e
    have hlt : k < (linesL s0).length := by
      rcases Nat.lt_or_ge k (linesL s0).length with h' | h'
      · exact h'
      · have := hl2 (Nat.le_antisymm hk h'); omega
    have hget := (hl1 hlt).2
    have hstep : ∀ w', Mem w [b0] [⟨some b0, 9, [.string (lnTl (lnRest s0 k))]⟩] w' → YieldAt Fence.wide (n - 1) Tryz.prog l #[.string (lnHd (lnRest s0 k))] w' fun e w'' => (e = .returned (.bool true) ∧ J (k + 1) w'') ∨ (e = .returned (.bool false) ∧ Jx w'') := by
      intro w' hm
      have h1 := hY k w' (by rw [hlen]; exact hlt) (hSt k w w' hlt hJ (by rw [linesSt, hs1]; exact hm))
      have hg : ((linesL s0).map encL)[k]'(by rw [hlen]; exact hlt) = #[.string (lnHd (lnRest s0 k))] := by
        rw [List.getElem_map]
        have : (linesL s0)[k] = lnHd (lnRest s0 k) := by
          have := List.getElem?_eq_getElem hlt
          unfold linesL at hget this ⊢
          rw [hget] at this
          exact (Option.some.inj this).symm
        rw [this]; rfl
      rw [hg] at h1
      exact h1
    have hnext : ∀ w', J (k + 1) w' → Mem w' [b0] [⟨some b0, 9, [.string (lnTl (lnRest s0 k))]⟩] w' := fun w' h => by have := lines_mem (hH (k + 1) w' h); rwa [hs1] at this
    have hmeas : ∀ w', J (k + 1) w' → linesM b0 w' < linesM b0 w := fun w' h => by
      rw [hmw, lines_M (hH (k + 1) w' h), hs1]
      exact lnTl_lt _ (by omega) hpos
    clear hl1 hl2 hl3 hget hH hSt hY
    generalize lnRest s0 k = s at *
    have hix := lnIdx_lt s
    refine jc_at ?_ hok1
    refine jc_block ?_
    refine jc_seq ?_
    refine jc_region ?_
    refine jo_f [(0, 0)] (by kernel_rfl) ?_
    refine jo_end (by kernel_rfl) ?_
    refine jx_then ?_
    refine jc_seq ?_
    refine jc_seq ?_
    refine jc_region ?_
    refine jo_f [(0, 0)] (by kernel_rfl) ?_
    refine toO (by kernel_rfl) (p_call 0 184 #[.string s, .int .u8 10] (by kernel_rfl) (by kernel_rfl) (fun w hm => index_calls lay_lines183 s w) ?_)
    rintro w1 v w1' hm ⟨rfl, hm'⟩
    refine ⟨_, hm.app hm', jkO ?_⟩
    clear hm hm'
    refine jo_f [(0, 0)] (by kernel_rfl) ?_
    refine jo_end (by kernel_rfl) ?_
    refine jx_then ?_
    refine jc_seq ?_
    refine jc_region ?_
    refine jo_f [(0, 0), (0, 0)] (by kernel_rfl) ?_
    refine jo_end (by kernel_rfl) ?_
    refine jx_then ?_
    refine jc_cond (decide (lnIdx s ≥ 0)) (by kernel_rfl) (fun hc => ?_) (fun hc => ?_)
    · have hge := of_decide_eq_true hc
      have hw : w64 (lnIdx s + 1) = lnIdx s + 1 := Go.IntWalk.i64_in _ ⟨by omega, by omega⟩
      have hg1 : (0 : Int) ≤ (0 : Int) ∧ (0 : Int) ≤ w64 (lnIdx s + 1) ∧ w64 (lnIdx s + 1) ≤ (s.size : Int) := by rw [hw]; omega
      have hg2 : (0 : Int) ≤ w64 (lnIdx s + 1) ∧ w64 (lnIdx s + 1) ≤ (s.size : Int) ∧ (s.size : Int) ≤ (s.size : Int) := by rw [hw]; omega
      have e1 : lnHd s = s.extract (0 : Int).toNat (w64 (lnIdx s + 1)).toNat := if_pos hge
      have e2 : lnTl s = s.extract (w64 (lnIdx s + 1)).toNat (s.size : Int).toNat := if_pos hge
      rw [e1, e2] at hstep
      rw [e2] at hnext
      refine jc_draw [] 10 (by kernel_rfl) (by kernel_rfl) ?_
      refine jd_f [⟨1, 0, 0⟩, ⟨2, 0, 0⟩, ⟨5, 0, 0⟩, ⟨6, 0, 0⟩] 6 (by kernel_rfl) (by kernel_rfl) (fun w h => h.pick [] (by kernel_rfl) (by kernel_rfl)) (by kernel_rfl) (by kernel_rfl) ?_
      refine toD2 0 4 (by kernel_rfl) ?_ ?_
      · refine p_s 0 [0] (by kernel_rfl) (by kernel_rfl) (jkD (fun w h => h.pick [] (by kernel_rfl) (by kernel_rfl)) ?_)
        refine jd_v 3 0 (by kernel_rfl) (fun w h => h.pick [] (by kernel_rfl) (by kernel_rfl)) (by kernel_rfl) (by kernel_rfl) _ (fun w hm => ssl_run (s := s) (lo := none) (hi := some (w64 (lnIdx s + 1))) (l := (0 : Int)) (h := (w64 (lnIdx s + 1))) (by kernel_rfl) rfl rfl hg1) ?_
        refine jd_f [⟨8, 0, 0⟩] 3 (by kernel_rfl) (by kernel_rfl) (fun w h => h.pick [] (by kernel_rfl) (by kernel_rfl)) (by kernel_rfl) (by kernel_rfl) ?_
        refine toD 4 (by kernel_rfl) (p_s 0 [0] (by kernel_rfl) (by kernel_rfl) (jkD (fun w h => h.pick [] (by kernel_rfl) (by kernel_rfl)) ?_))
        refine jd_v 7 0 (by kernel_rfl) (fun w h => h.pick [] (by kernel_rfl) (by kernel_rfl)) (by kernel_rfl) (by kernel_rfl) _ (fun w hm => ssl_run (s := s) (lo := some (w64 (lnIdx s + 1))) (hi := none) (l := (w64 (lnIdx s + 1))) (h := (s.size : Int)) (by kernel_rfl) rfl rfl hg2) ?_
        refine toD 9 (by kernel_rfl) (p_s 0 [0] (by kernel_rfl) (by kernel_rfl) (jkD (fun w h => h.pick [] (by kernel_rfl) (by kernel_rfl)) ?_))
        refine jd_end (by kernel_rfl) ?_
        refine jx_to [(0, [], .func (.yield l) #[] #[]), (1, [], .pointer (some ⟨b0, 0, none⟩)), (3, [], .string (s.extract (0 : Int).toNat (w64 (lnIdx s + 1)).toNat))] [0] (L' := [⟨some b0, 9, [.string (s.extract (w64 (lnIdx s + 1)).toNat (s.size : Int).toNat)]⟩]) (by kernel_rfl) (by kernel_rfl) (by kernel_rfl) ?_
        refine jx_then ?_
        refine jc_seq ?_
        refine jc_yield (l := l) (v0 := .func (.yield l) #[] #[]) (v1 := .string (s.extract (0 : Int).toNat (w64 (lnIdx s + 1)).toNat)) (args := #[.string (s.extract (0 : Int).toNat (w64 (lnIdx s + 1)).toNat)]) (Ja := J (k + 1)) (Jb := Jx) (Wa := [b0]) (La := [⟨some b0, 9, [.string (s.extract (w64 (lnIdx s + 1)).toNat (s.size : Int).toNat)]⟩]) (by kernel_rfl) (by kernel_rfl) (by kernel_rfl) (by kernel_rfl) (by kernel_rfl) (by kernel_rfl) hstep hnext ?_ ?_
        · intro w' hj a' hok'
          refine wp_cond_at false hok' (by kernel_rfl) (fun e => nomatch e) (fun _ => wp_skip ?_)
          exact ⟨⟨k + 1, hlt, hj, by rw [hs1, e2]; exact lk_ok hok' (by kernel_rfl) (fun _ h => h) hok'.mem.dis⟩, hmeas w' hj⟩
        · intro w' hj a' hok'
          refine wp_cond_at true hok' (by kernel_rfl) (fun _ => wp_ret ?_) (fun e => nomatch e)
          exact ret_at (R := fun _ w' => J (linesL s0).length w' ∨ Jx w') [] (.tuple #[]) [] rfl (by kernel_rfl) (by kernel_rfl) hok' (Or.inr hj)
      · refine p_s 0 [0] (by kernel_rfl) (by kernel_rfl) (jkD (fun w h => h.pick [] (by kernel_rfl) (by kernel_rfl)) ?_)
        refine jd_v 7 0 (by kernel_rfl) (fun w h => h.pick [] (by kernel_rfl) (by kernel_rfl)) (by kernel_rfl) (by kernel_rfl) _ (fun w hm => ssl_run (s := s) (lo := some (w64 (lnIdx s + 1))) (hi := none) (l := (w64 (lnIdx s + 1))) (h := (s.size : Int)) (by kernel_rfl) rfl rfl hg2) ?_
        refine toD 0 (by kernel_rfl) (p_s 0 [0] (by kernel_rfl) (by kernel_rfl) (jkD (fun w h => h.pick [] (by kernel_rfl) (by kernel_rfl)) ?_))
        refine jd_v 3 0 (by kernel_rfl) (fun w h => h.pick [] (by kernel_rfl) (by kernel_rfl)) (by kernel_rfl) (by kernel_rfl) _ (fun w hm => ssl_run (s := s) (lo := none) (hi := some (w64 (lnIdx s + 1))) (l := (0 : Int)) (h := (w64 (lnIdx s + 1))) (by kernel_rfl) rfl rfl hg1) ?_
        refine jd_f [⟨8, 0, 0⟩] 1 (by kernel_rfl) (by kernel_rfl) (fun w h => h.pick [] (by kernel_rfl) (by kernel_rfl)) (by kernel_rfl) (by kernel_rfl) ?_
        refine toD 9 (by kernel_rfl) (p_s 0 [0] (by kernel_rfl) (by kernel_rfl) (jkD (fun w h => h.pick [] (by kernel_rfl) (by kernel_rfl)) ?_))
        refine jd_end (by kernel_rfl) ?_
        refine jx_to [(0, [], .func (.yield l) #[] #[]), (1, [], .pointer (some ⟨b0, 0, none⟩)), (3, [], .string (s.extract (0 : Int).toNat (w64 (lnIdx s + 1)).toNat))] [0] (L' := [⟨some b0, 9, [.string (s.extract (w64 (lnIdx s + 1)).toNat (s.size : Int).toNat)]⟩]) (by kernel_rfl) (by kernel_rfl) (by kernel_rfl) ?_
        refine jx_then ?_
        refine jc_seq ?_
        refine jc_yield (l := l) (v0 := .func (.yield l) #[] #[]) (v1 := .string (s.extract (0 : Int).toNat (w64 (lnIdx s + 1)).toNat)) (args := #[.string (s.extract (0 : Int).toNat (w64 (lnIdx s + 1)).toNat)]) (Ja := J (k + 1)) (Jb := Jx) (Wa := [b0]) (La := [⟨some b0, 9, [.string (s.extract (w64 (lnIdx s + 1)).toNat (s.size : Int).toNat)]⟩]) (by kernel_rfl) (by kernel_rfl) (by kernel_rfl) (by kernel_rfl) (by kernel_rfl) (by kernel_rfl) hstep hnext ?_ ?_
        · intro w' hj a' hok'
          refine wp_cond_at false hok' (by kernel_rfl) (fun e => nomatch e) (fun _ => wp_skip ?_)
          exact ⟨⟨k + 1, hlt, hj, by rw [hs1, e2]; exact lk_ok hok' (by kernel_rfl) (fun _ h => h) hok'.mem.dis⟩, hmeas w' hj⟩
        · intro w' hj a' hok'
          refine wp_cond_at true hok' (by kernel_rfl) (fun _ => wp_ret ?_) (fun e => nomatch e)
          exact ret_at (R := fun _ w' => J (linesL s0).length w' ∨ Jx w') [] (.tuple #[]) [] rfl (by kernel_rfl) (by kernel_rfl) hok' (Or.inr hj)
    · have hge : ¬ lnIdx s ≥ 0 := of_decide_eq_false hc
      have e1 : lnHd s = s := if_neg hge
      have e2 : lnTl s = ByteArray.mk #[] := if_neg hge
      rw [e1, e2] at hstep
      rw [e2] at hnext
      refine jc_region ?_
      refine jo_f [(0, 0), (0, 0)] (by kernel_rfl) ?_
      refine toO (by kernel_rfl) (p_s 0 [0] (by kernel_rfl) (by kernel_rfl) (jkO ?_))
      refine jo_end (by kernel_rfl) ?_
      refine jx_to [(0, [], .func (.yield l) #[] #[]), (1, [], .pointer (some ⟨b0, 0, none⟩)), (3, [], .string s)] [0] (L' := [⟨some b0, 9, [.string (ByteArray.mk #[])]⟩]) (by kernel_rfl) (by kernel_rfl) (by kernel_rfl) ?_
      refine jx_then ?_
      refine jc_seq ?_
      refine jc_yield (l := l) (v0 := .func (.yield l) #[] #[]) (v1 := .string s) (args := #[.string s]) (Ja := J (k + 1)) (Jb := Jx) (Wa := [b0]) (La := [⟨some b0, 9, [.string (ByteArray.mk #[])]⟩]) (by kernel_rfl) (by kernel_rfl) (by kernel_rfl) (by kernel_rfl) (by kernel_rfl) (by kernel_rfl) hstep hnext ?_ ?_
      · intro w' hj a' hok'
        refine wp_cond_at false hok' (by kernel_rfl) (fun e => nomatch e) (fun _ => wp_skip ?_)
        exact ⟨⟨k + 1, hlt, hj, by rw [hs1, e2]; exact lk_ok hok' (by kernel_rfl) (fun _ h => h) hok'.mem.dis⟩, hmeas w' hj⟩
      · intro w' hj a' hok'
        refine wp_cond_at true hok' (by kernel_rfl) (fun _ => wp_ret ?_) (fun e => nomatch e)
        exact ret_at (R := fun _ w' => J (linesL s0).length w' ∨ Jx w') [] (.tuple #[]) [] rfl (by kernel_rfl) (by kernel_rfl) hok' (Or.inr hj)
  · have hz : (lnRest s0 k).size = 0 := by
      have := of_decide_eq_false e
      omega
    have hkl : k = (linesL s0).length := by
      rcases Nat.lt_or_ge k (linesL s0).length with h' | h'
      · have := (hl1 h').1; omega
      · exact Nat.le_antisymm hk h'
    subst hkl
    exact ret_at (R := fun _ w' => J (linesL s0).length w' ∨ Jx w') [] (.tuple #[]) [] rfl (by kernel_rfl) (by kernel_rfl) hok1 (Or.inl hJ)
theorem lines183.calls (s : ByteArray) (w : World) :
    Calls Tryz.prog 106 #[.string s] w fun e w' => ∃ v, e = .returned v ∧ (∃ b : Nat, v = .func (.func 183) #[] #[.pointer (some ⟨b, 0, none⟩)] ∧ Mem w [] [⟨some b, 9, [.string s]⟩] w') := by
  refine enter (args := [.string s]) Tryz.func106 rfl Tryz.ntmps106 (by kernel_rfl) (L := []) (W := []) (Mem.start w) ?_
  refine jc_seq ?_
  refine jc_region ?_
  refine toO (by kernel_rfl) (p_a 0 [0] (by kernel_rfl) (fun b => by kernel_rfl) (fun b => jkO ?_))
  refine jo_f [(0, 0)] (by kernel_rfl) ?_
  refine jo_end (by kernel_rfl) ?_
  refine jx_then ?_
  refine jc_seq ?_
  refine jc_region ?_
  refine jo_f [(0, 0), (0, 0)] (by kernel_rfl) ?_
  refine jo_end (by kernel_rfl) ?_
  refine jx_then ?_
  refine jc_ret ?_
  exact jx_ret [] (.func (.func 183) #[] #[.pointer (some ⟨b, 0, none⟩)]) [] rfl (by kernel_rfl) (by kernel_rfl) (fun w hm => ⟨b, rfl, hm.pick [0] (by kernel_rfl) (by kernel_rfl)⟩)

/-! ### internal/stringslite.HasSuffix -/
def stringslite_HasSuffix (s0 : ByteArray) (suffix1 : ByteArray) : Option (Bool) := (if (decide ((s0.size : Int) ≥ (suffix1.size : Int))) = true then (if 0 ≤ (w64 ((s0.size : Int) - (suffix1.size : Int))) ∧ (w64 ((s0.size : Int) - (suffix1.size : Int))) ≤ (s0.size : Int) ∧ (s0.size : Int) ≤ (s0.size : Int) then some ((s0.extract (w64 ((s0.size : Int) - (suffix1.size : Int))).toNat (s0.size : Int).toNat).toList == suffix1.toList) else none) else some false)
theorem stringslite_HasSuffix.calls (s0 : ByteArray) (suffix1 : ByteArray) (w : World) (r : Bool) (h : stringslite_HasSuffix s0 suffix1 = some r) :
    Calls Tryz.prog 225 #[(.string s0), (.string suffix1)] w fun e w' => ∃ v, e = .returned v ∧ (v = (.bool r) ∧ Mem w [] [] w') := by
  rw [stringslite_HasSuffix] at h
  refine enter (args := [(.string s0), (.string suffix1)]) Tryz.func225 rfl Tryz.ntmps225 (by kernel_rfl) (L := []) (W := []) (Mem.start w) ?_
  refine jc_seq (jc_region (qh [0] (qe (jx_then (jc_seq (jc_region (qf [(0, 0), (0, 0), (0, 0), (0, 0), (0, 0), (0, 0), (0, 1), (0, 1), (0, 1), (0, 1), (0, 1), (0, 1)] (qp 10 h (fun h => ?_) (fun h => ?_)))))))))
  ·obtain ⟨hg_2, h⟩ := gd h
   refine tO (p_v 2 (by kernel_rfl) _ (fun w hm => ssl_run (s := s0) (lo := some (w64 ((s0.size : Int) - (suffix1.size : Int)))) (hi := none) (l := (w64 ((s0.size : Int) - (suffix1.size : Int)))) (h := (s0.size : Int)) (by kernel_rfl) rfl rfl hg_2) (jkO (qf [(0, 2), (0, 2), (0, 4), (0, 0)] (qe (jx_then (jc_ret ?_))))))
   obtain rfl := Option.some.inj h
   exact qr [] (fun w hm => ⟨rfl, hm.pk []⟩)
  ·refine qf [(0, 3), (0, 3), (0, 3), (0, 5), (0, 0)] (qe (jx_then (jc_ret ?_)))
   obtain rfl := Option.some.inj h
   exact qr [] (fun w hm => ⟨rfl, hm.pk []⟩)
/-! ### internal/stringslite.TrimSuffix -/
def stringslite_TrimSuffix (s0 : ByteArray) (suffix1 : ByteArray) : Option (ByteArray) := (stringslite_HasSuffix s0 suffix1).bind fun t_1 => (if t_1 = true then (if 0 ≤ (0 : Int) ∧ (0 : Int) ≤ (w64 ((s0.size : Int) - (suffix1.size : Int))) ∧ (w64 ((s0.size : Int) - (suffix1.size : Int))) ≤ (s0.size : Int) then some (s0.extract (0 : Int).toNat (w64 ((s0.size : Int) - (suffix1.size : Int))).toNat) else none) else some s0)
theorem stringslite_TrimSuffix.calls (s0 : ByteArray) (suffix1 : ByteArray) (w : World) (r : ByteArray) (h : stringslite_TrimSuffix s0 suffix1 = some r) :
    Calls Tryz.prog 186 #[(.string s0), (.string suffix1)] w fun e w' => ∃ v, e = .returned v ∧ (v = (.string r) ∧ Mem w [] [] w') := by
  rw [stringslite_TrimSuffix] at h
  refine enter (args := [(.string s0), (.string suffix1)]) Tryz.func186 rfl Tryz.ntmps186 (by kernel_rfl) (L := []) (W := []) (Mem.start w) ?_
  refine jc_seq (jc_region (qh [0] (qe (jx_then (jc_seq (jc_seq (jc_region (qh [0,0] ?_))))))))
  obtain ⟨t_1, ht_4, h⟩ := bd h
  refine tO (pc 0 (fun w hm => stringslite_HasSuffix.calls s0 suffix1 w _ ht_4) ?_)
  rintro w v w' hm ⟨rfl, hm'⟩
  refine ⟨_, hm.app hm', jkO ?_⟩
  clear hm hm'
  refine qe (jx_then (qi h (fun h => ?_) (fun h => ?_)))
  ·refine jc_seq (jc_region (qh [0,0,0,0,0,0] ?_))
   obtain ⟨hg_6, h⟩ := gd h
   refine tO (p_v 0 (by kernel_rfl) _ (fun w hm => ssl_run (s := s0) (lo := none) (hi := some (w64 ((s0.size : Int) - (suffix1.size : Int)))) (l := (0 : Int)) (h := (w64 ((s0.size : Int) - (suffix1.size : Int)))) (by kernel_rfl) rfl rfl hg_6) (jkO (qh [0] (qe (jx_then (jc_ret (jx_thenr ?_)))))))
   obtain rfl := Option.some.inj h
   exact qr [] (fun w hm => ⟨rfl, hm.pk []⟩)
  ·refine jc_skip (jx_then (jc_seq (jc_region (qh [0,0] (qe (jx_then (jc_ret ?_)))))))
   obtain rfl := Option.some.inj h
   exact qr [] (fun w hm => ⟨rfl, hm.pk []⟩)
/-! ### strings.TrimSuffix -/
def strings_TrimSuffix (s0 : ByteArray) (suffix1 : ByteArray) : Option (ByteArray) := (stringslite_TrimSuffix s0 suffix1).bind fun t_1 => some t_1
theorem strings_TrimSuffix.calls (s0 : ByteArray) (suffix1 : ByteArray) (w : World) (r : ByteArray) (h : strings_TrimSuffix s0 suffix1 = some r) :
    Calls Tryz.prog 108 #[(.string s0), (.string suffix1)] w fun e w' => ∃ v, e = .returned v ∧ (v = (.string r) ∧ Mem w [] [] w') := by
  rw [strings_TrimSuffix] at h
  refine enter (args := [(.string s0), (.string suffix1)]) Tryz.func108 rfl Tryz.ntmps108 (by kernel_rfl) (L := []) (W := []) (Mem.start w) ?_
  refine jc_seq (jc_region (qh [0] (qe (jx_then (jc_seq (jc_region (qh [0,0] ?_)))))))
  obtain ⟨t_1, ht_1, h⟩ := bd h
  refine tO (pc 0 (fun w hm => stringslite_TrimSuffix.calls s0 suffix1 w _ ht_1) ?_)
  rintro w v w' hm ⟨rfl, hm'⟩
  refine ⟨_, hm.app hm', jkO ?_⟩
  clear hm hm'
  refine qh [0] (qe (jx_then (jc_ret ?_)))
  obtain rfl := Option.some.inj h
  exact qr [] (fun w hm => ⟨rfl, hm.pk []⟩)
def lay_strings_Split_ren : Go.Shelf.Ren := ⟨fun | 146 => 107 | 221 => 185 | 268 => 222 | 138 => 223 | 143 => 224 | 195 => 245 | 197 => 246 | 218 => 247 | 219 => 248 | 260 => 278 | 217 => 221 | 225 => 279 | 224 => 280 | 267 => 281 | 266 => 244 | 314 => 297 | n => n, fun | 9 => 9 | 31 => 164 | 3 => 3 | 4 => 4 | 0 => 0 | 105 => 294 | 21 => 21 | 5 => 5 | 46 => 126 | 119 => 335 | 139 => 338 | 138 => 337 | 146 => 339 | 51 => 32 | n => n, fun | 1 => 1 | 3 => 4 | 4 => 5 | n => n⟩
theorem lay_strings_Split : Go.Proofs.Lays.n146 Tryz.prog lay_strings_Split_ren where
  mixed := by kernel_rfl
  f138 := Tryz.func223.trans (congrArg some (by kernel_rfl))
  f143 := Tryz.func224.trans (congrArg some (by kernel_rfl))
  f146 := Tryz.func107.trans (congrArg some (by kernel_rfl))
  f195 := Tryz.func245.trans (congrArg some (by kernel_rfl))
  f197 := Tryz.func246.trans (congrArg some (by kernel_rfl))
  f217 := Tryz.func221.trans (congrArg some (by kernel_rfl))
  f218 := Tryz.func247.trans (congrArg some (by kernel_rfl))
  f219 := Tryz.func248.trans (congrArg some (by kernel_rfl))
  f221 := Tryz.func185.trans (congrArg some (by kernel_rfl))
  f224 := Tryz.func280.trans (congrArg some (by kernel_rfl))
  f225 := Tryz.func279.trans (congrArg some (by kernel_rfl))
  f260 := Tryz.func278.trans (congrArg some (by kernel_rfl))
  f266 := Tryz.func244.trans (congrArg some (by kernel_rfl))
  f267 := Tryz.func281.trans (congrArg some (by kernel_rfl))
  f268 := Tryz.func222.trans (congrArg some (by kernel_rfl))
  f314 := Tryz.func297.trans (congrArg some (by kernel_rfl))
  t0 := Tryz.underlying0
  a0 := Tryz.isAgg0
  z0 := Tryz.sizeOf0
  v0 := Tryz.zeroValue0
  t3 := Tryz.underlying3
  a3 := Tryz.isAgg3
  z3 := Tryz.sizeOf3
  v3 := Tryz.zeroValue3
  t4 := Tryz.underlying4
  a4 := Tryz.isAgg4
  z4 := Tryz.sizeOf4
  v4 := Tryz.zeroValue4
  t5 := Tryz.underlying5
  a5 := Tryz.isAgg5
  z5 := Tryz.sizeOf5
  v5 := Tryz.zeroValue5
  t9 := Tryz.underlying9
  a9 := Tryz.isAgg9
  z9 := Tryz.sizeOf9
  v9 := Tryz.zeroValue9
  t21 := Tryz.underlying21
  a21 := Tryz.isAgg21
  z21 := Tryz.sizeOf21
  v21 := Tryz.zeroValue21
  t31 := Tryz.underlying164
  a31 := Tryz.isAgg164
  z31 := Tryz.sizeOf164
  v31 := Tryz.zeroValue164
  t46 := Tryz.underlying126
  a46 := Tryz.isAgg126
  z46 := Tryz.sizeOf126
  v46 := Tryz.zeroValue126
  t51 := Tryz.underlying32
  a51 := Tryz.isAgg32
  z51 := Tryz.sizeOf32
  v51 := Tryz.zeroValue32
  t105 := Tryz.underlying294
  a105 := Tryz.isAgg294
  z105 := Tryz.sizeOf294
  v105 := Tryz.zeroValue294
  t119 := Tryz.underlying335
  a119 := Tryz.isAgg335
  z119 := Tryz.sizeOf335
  t138 := Tryz.underlying337
  a138 := Tryz.isAgg337
  z138 := Tryz.sizeOf337
  v138 := Tryz.zeroValue337
  t139 := Tryz.underlying338
  a139 := Tryz.isAgg338
  z139 := Tryz.sizeOf338
  v139 := Tryz.zeroValue338
  t146 := Tryz.underlying339
  a146 := Tryz.isAgg339
  z146 := Tryz.sizeOf339
  v146 := Tryz.zeroValue339
  g1 := by kernel_rfl
  g3 := by kernel_rfl
  g4 := by kernel_rfl
/-! ### strings.Split -/
def strings_Split (s0 : ByteArray) (sep1 : ByteArray) : Option ((List ByteArray)) := splitF s0 sep1
theorem strings_Split.calls (s0 : ByteArray) (sep1 : ByteArray) (w : World) (r : (List ByteArray)) (g_ml : Glml w) (h : strings_Split s0 sep1 = some r) :
    Calls Tryz.prog 107 #[(.string s0), (.string sep1)] w fun e w' => ∃ v, e = .returned v ∧ (∃ (o0 : Option Nat) (c0 : Nat) (s0 : List Value) (n0 : Nat), r.length = n0 ∧ (o0 ≠ none → n0 ≤ c0 ∧ s0.length = (c0 - n0) * 1) ∧ (o0 = none → r = [] ∧ c0 = 0) ∧ v = .slice (o0.map fun b => ⟨b, 0, none⟩) n0 c0 ∧ Mem w [] [⟨o0, 9, row encStr r s0⟩] w') := by
  rw [strings_Split] at h
  exact split_calls lay_strings_Split (by kernel_rfl) s0 sep1 w r g_ml.ml h
/-! ### impl.actWords -/
def impl_actWords : Option ((List ByteArray)) := some ([(ByteArray.mk #[116, 117, 114, 110]), (ByteArray.mk #[104, 97, 109, 109, 101, 114]), (ByteArray.mk #[112, 105, 110]), (ByteArray.mk #[109, 111, 118, 101])] : List ByteArray)
theorem impl_actWords.calls (w : World) (r : (List ByteArray)) (h : impl_actWords = some r) :
    Calls Tryz.prog 110 #[] w fun e w' => ∃ v, e = .returned v ∧ (∃ (o0 : Option Nat) (c0 : Nat) (s0 : List Value) (n0 : Nat), r.length = n0 ∧ (o0 ≠ none → n0 ≤ c0 ∧ s0.length = (c0 - n0) * 1) ∧ (o0 = none → r = [] ∧ c0 = 0) ∧ v = .slice (o0.map fun b => ⟨b, 0, none⟩) n0 c0 ∧ Mem w [] [⟨o0, 9, row encStr r s0⟩] w') := by
  rw [impl_actWords] at h
  refine enter (args := []) Tryz.func110 rfl Tryz.ntmps110 (by kernel_rfl) (L := []) (W := []) (Mem.start w) ?_
  refine jc_seq (jc_region (qh [0] (qe (jx_then (jc_seq (jc_region (tO (qa 0 (fun b_1 => jkO (qh [0] (qe (jx_then (jc_ret ?_)))))))))))))
  obtain rfl := Option.some.inj h
  exact qr [] (fun w hm => ⟨(some b_1), 4, [], 4, rfl, (fun _ => ⟨Nat.le_refl _, by simp⟩), (fun e => nomatch e), rfl, hm.pk [0]⟩)
/-! ### slices.Index[[]string,string] -/
def slices_Index_string.k_1 : Option (Int) := some (-1)
def slices_Index_string.l_3 (s0 : List ByteArray) (v1 : ByteArray) : Int → Option ((Int) ⊕ (Int ⊕ Unit))
  | i_2 => (if (decide (i_2 < (s0.length : Int))) = true then (ix s0 i_2).bind fun x_5 => (if (v1.toList == x_5.toList) = true then some (.inr (.inl i_2)) else some (.inl (w64 (i_2 + 1)))) else some (.inr (.inr ())))
def slices_Index_string (s0 : List ByteArray) (v1 : ByteArray) : Option (Int) := (loop (slices_Index_string.l_3 s0 v1) 0).bind fun t_4 => match t_4 with | .inl p => some p | .inr p => slices_Index_string.k_1
theorem slices_Index_string.calls (s0 : List ByteArray) (v1 : ByteArray) (w : World) (r : Int) {A_a : Option Addr} {A_an : Nat} (A_c : Nat) (A_h : Rw w A_a 1 encStr s0) (A_hn : s0.length = A_an) (h : slices_Index_string s0 v1 = some r) :
    Calls Tryz.prog 109 #[(.slice A_a A_an A_c), (.string v1)] w fun e w' => ∃ v, e = .returned v ∧ (v = (.int .i64 r) ∧ Mem w [] [] w') := by
  subst A_hn
  rw [slices_Index_string] at h
  refine enter (args := [(.slice A_a s0.length A_c), (.string v1)]) Tryz.func109 rfl Tryz.ntmps109 (by kernel_rfl) (L := []) (W := []) (Mem.start w) ?_
  refine jc_seq (jc_region (qh [0] (qe (jx_then (jc_seq (jc_seq (jc_region (qh [0,0,0] (qe (jx_then (jc_meet (fun (_ : Unit) => slices_Index_string.k_1 = some r) (fun (_ : Unit) => [(4, [], (.int .i64 0))]) (fun (_ : Unit) => []) ?_ ?_)))))))))))
  ·refine jc_block ?_
   obtain ⟨t_4, ht_34, hr_26⟩ := bd h
   refine jc_loop (fun (s : Int) (x : Unit) => match s, x with | i_2, _ => True) (fun (s : Int) (x : Unit) => match s, x with | i_2, _ => [(0, [], (.slice A_a s0.length A_c)), (1, [], (.string v1)), (4, [], (.int .i64 0)), (7, [], (.int .i64 (s0.length : Int))), (8, [], (.int .i64 i_2))]) (fun (s : Int) (x : Unit) => match s, x with | i_2, _ => []) ht_34 () trivial (by kernel_rfl) [] (by kernel_rfl) (by kernel_rfl) ?_
   rintro i_2 _ y_27 _ h
   rw [slices_Index_string.l_3] at h
   refine jc_seq (jc_region (qh [0] (qe (jx_then (jc_seq (qi h (fun h => ?_) (fun h => ?_)))))))
   ·refine jc_skip (jx_then (jc_seq (jc_block (jc_seq (jc_region (qh [0,0] (qe (jx_then (jc_seq (jc_region (qh [0,0,0] ?_)))))))))))
    obtain ⟨x_5, hx_30, h⟩ := bd h
    refine tO (qx 0 A_a 1 hx_30 rfl (A_h.sp hx_30) (jkO (tO (ql 0 false (fun w hm => ((hm.xr A_h).at hx_30)) (jkO (qh [0] (qe (jx_then (qi h (fun h => ?_) (fun h => ?_))))))))))
    ·refine jc_seq (jc_region (qh [0,0] (qe (jx_then (jc_ret (jx_inr (jx_thenr (jx_leaver (.inl i_2) (Option.some.inj h).symm (fun e_32 => ?_)))))))))
     subst e_32
     refine jx_inr (jx_thenr (jx_thenr ?_))
     obtain rfl := Option.some.inj hr_26
     exact qr [] (fun w hm => ⟨rfl, hm.pk []⟩)
    ·exact jc_skip (jx_inn (jx_then (jc_region (qh [0,0] (qe (qb (w64 (i_2 + 1)) () h trivial []))))))
   ·refine jc_exit (jx_thenx (jx_leave (.inr ()) (Option.some.inj h).symm (fun e_33 => ?_)))
    subst e_33
    exact jx_ine (qm () hr_26 [])
  ·rintro _ h
   replace h : slices_Index_string.k_1 = some r := h
   rw [slices_Index_string.k_1] at h
   refine jx_then (jc_seq (jc_region (qh [0] (qe (jx_then (jc_ret ?_))))))
   obtain rfl := Option.some.inj h
   exact qr [] (fun w hm => ⟨rfl, hm.pk []⟩)
/-! ### impl.usedBy -/
def impl_usedBy : Option ((List Int)) := some ([1, 1, 2, 4] : List Int)
theorem impl_usedBy.calls (w : World) (r : (List Int)) (h : impl_usedBy = some r) :
    Calls Tryz.prog 111 #[] w fun e w' => ∃ v, e = .returned v ∧ (∃ (o0 : Option Nat) (c0 : Nat) (s0 : List Value) (n0 : Nat), r.length = n0 ∧ (o0 ≠ none → n0 ≤ c0 ∧ s0.length = (c0 - n0) * 1) ∧ (o0 = none → r = [] ∧ c0 = 0) ∧ v = .slice (o0.map fun b => ⟨b, 0, none⟩) n0 c0 ∧ Mem w [] [⟨o0, 3, row encI64 r s0⟩] w') := by
  rw [impl_usedBy] at h
  refine enter (args := []) Tryz.func111 rfl Tryz.ntmps111 (by kernel_rfl) (L := []) (W := []) (Mem.start w) ?_
  refine jc_seq (jc_region (qh [0] (qe (jx_then (jc_seq (jc_region (tO (qa 0 (fun b_1 => jkO (qh [0] (qe (jx_then (jc_ret ?_)))))))))))))
  obtain rfl := Option.some.inj h
  exact qr [] (fun w hm => ⟨(some b_1), 4, [], 4, rfl, (fun _ => ⟨Nat.le_refl _, by simp⟩), (fun e => nomatch e), rfl, hm.pk [0]⟩)
def lay_strconv_ParseInt_ren : Go.Shelf.Ren := ⟨fun | 174 => 187 | 247 => 226 | 245 => 227 | 287 => 249 | 279 => 250 | 280 => 251 | 281 => 252 | 282 => 253 | 321 => 282 | 322 => 283 | 316 => 284 | 171 => 286 | 205 => 285 | 243 => 298 | 246 => 200 | 283 => 232 | 284 => 233 | 285 => 234 | 286 => 235 | 129 => 255 | 317 => 254 | 318 => 256 | 319 => 257 | 320 => 258 | 337 => 287 | 338 => 288 | n => n, fun | 9 => 9 | 3 => 3 | 2 => 2 | 75 => 180 | 85 => 243 | 4 => 4 | 167 => 296 | 5 => 5 | 53 => 185 | 175 => 297 | 46 => 126 | 168 => 299 | 37 => 22 | 0 => 0 | 210 => 325 | 21 => 21 | 127 => 246 | 145 => 343 | 143 => 341 | 171 => 280 | 173 => 283 | 212 => 304 | 51 => 32 | 20 => 20 | 213 => 305 | 232 => 344 | 233 => 345 | 80 => 184 | n => n, fun | 15 => 2 | 16 => 3 | 17 => 0 | 18 => 6 | 19 => 7 | n => n⟩
theorem lay_strconv_ParseInt : Go.Proofs.LaysC.n174 Tryz.prog lay_strconv_ParseInt_ren where
  mixed := by kernel_rfl
  f129 := Tryz.func255.trans (congrArg some (by kernel_rfl))
  f171 := Tryz.func286.trans (congrArg some (by kernel_rfl))
  f174 := Tryz.func187.trans (congrArg some (by kernel_rfl))
  f205 := Tryz.func285.trans (congrArg some (by kernel_rfl))
  f243 := Tryz.func298.trans (congrArg some (by kernel_rfl))
  f245 := Tryz.func227.trans (congrArg some (by kernel_rfl))
  f246 := Tryz.func200.trans (congrArg some (by kernel_rfl))
  f247 := Tryz.func226.trans (congrArg some (by kernel_rfl))
  f279 := Tryz.func250.trans (congrArg some (by kernel_rfl))
  f280 := Tryz.func251.trans (congrArg some (by kernel_rfl))
  f281 := Tryz.func252.trans (congrArg some (by kernel_rfl))
  f282 := Tryz.func253.trans (congrArg some (by kernel_rfl))
  f283 := Tryz.func232.trans (congrArg some (by kernel_rfl))
  f284 := Tryz.func233.trans (congrArg some (by kernel_rfl))
  f285 := Tryz.func234.trans (congrArg some (by kernel_rfl))
  f286 := Tryz.func235.trans (congrArg some (by kernel_rfl))
  f287 := Tryz.func249.trans (congrArg some (by kernel_rfl))
  f316 := Tryz.func284.trans (congrArg some (by kernel_rfl))
  f317 := Tryz.func254.trans (congrArg some (by kernel_rfl))
  f318 := Tryz.func256.trans (congrArg some (by kernel_rfl))
  f319 := Tryz.func257.trans (congrArg some (by kernel_rfl))
  f320 := Tryz.func258.trans (congrArg some (by kernel_rfl))
  f321 := Tryz.func282.trans (congrArg some (by kernel_rfl))
  f322 := Tryz.func283.trans (congrArg some (by kernel_rfl))
  f337 := Tryz.func287.trans (congrArg some (by kernel_rfl))
  f338 := Tryz.func288.trans (congrArg some (by kernel_rfl))
  t0 := Tryz.underlying0
  a0 := Tryz.isAgg0
  z0 := Tryz.sizeOf0
  v0 := Tryz.zeroValue0
  t2 := Tryz.underlying2
  a2 := Tryz.isAgg2
  z2 := Tryz.sizeOf2
  v2 := Tryz.zeroValue2
  t3 := Tryz.underlying3
  a3 := Tryz.isAgg3
  z3 := Tryz.sizeOf3
  v3 := Tryz.zeroValue3
  t4 := Tryz.underlying4
  a4 := Tryz.isAgg4
  z4 := Tryz.sizeOf4
  v4 := Tryz.zeroValue4
  t5 := Tryz.underlying5
  a5 := Tryz.isAgg5
  z5 := Tryz.sizeOf5
  v5 := Tryz.zeroValue5
  t9 := Tryz.underlying9
  a9 := Tryz.isAgg9
  z9 := Tryz.sizeOf9
  v9 := Tryz.zeroValue9
  t20 := Tryz.underlying20
  a20 := Tryz.isAgg20
  z20 := Tryz.sizeOf20
  v20 := Tryz.zeroValue20
  t21 := Tryz.underlying21
  a21 := Tryz.isAgg21
  z21 := Tryz.sizeOf21
  v21 := Tryz.zeroValue21
  t37 := Tryz.underlying22
  a37 := Tryz.isAgg22
  z37 := Tryz.sizeOf22
  v37 := Tryz.zeroValue22
  t46 := Tryz.underlying126
  a46 := Tryz.isAgg126
  z46 := Tryz.sizeOf126
  v46 := Tryz.zeroValue126
  t51 := Tryz.underlying32
  a51 := Tryz.isAgg32
  z51 := Tryz.sizeOf32
  v51 := Tryz.zeroValue32
  t53 := Tryz.underlying185
  a53 := Tryz.isAgg185
  z53 := Tryz.sizeOf185
  v53 := Tryz.zeroValue185
  t75 := Tryz.underlying180
  a75 := Tryz.isAgg180
  z75 := Tryz.sizeOf180
  v75 := Tryz.zeroValue180
  t85 := Tryz.underlying243
  a85 := Tryz.isAgg243
  z85 := Tryz.sizeOf243
  v85 := Tryz.zeroValue243
  t127 := Tryz.underlying246
  a127 := Tryz.isAgg246
  z127 := Tryz.sizeOf246
  v127 := Tryz.zeroValue246
  t143 := Tryz.underlying341
  a143 := Tryz.isAgg341
  z143 := Tryz.sizeOf341
  v143 := Tryz.zeroValue341
  t145 := Tryz.underlying343
  a145 := Tryz.isAgg343
  z145 := Tryz.sizeOf343
  v145 := Tryz.zeroValue343
  t167 := Tryz.underlying296
  a167 := Tryz.isAgg296
  z167 := Tryz.sizeOf296
  v167 := Tryz.zeroValue296
  t168 := Tryz.underlying299
  a168 := Tryz.isAgg299
  z168 := Tryz.sizeOf299
  v168 := Tryz.zeroValue299
  t171 := Tryz.underlying280
  a171 := Tryz.isAgg280
  z171 := Tryz.sizeOf280
  v171 := Tryz.zeroValue280
  t173 := Tryz.underlying283
  a173 := Tryz.isAgg283
  z173 := Tryz.sizeOf283
  v173 := Tryz.zeroValue283
  t175 := Tryz.underlying297
  a175 := Tryz.isAgg297
  z175 := Tryz.sizeOf297
  v175 := Tryz.zeroValue297
  t210 := Tryz.underlying325
  a210 := Tryz.isAgg325
  z210 := Tryz.sizeOf325
  v210 := Tryz.zeroValue325
  t212 := Tryz.underlying304
  a212 := Tryz.isAgg304
  z212 := Tryz.sizeOf304
  v212 := Tryz.zeroValue304
  t213 := Tryz.underlying305
  a213 := Tryz.isAgg305
  z213 := Tryz.sizeOf305
  t232 := Tryz.underlying344
  a232 := Tryz.isAgg344
  z232 := Tryz.sizeOf344
  v232 := Tryz.zeroValue344
  t233 := Tryz.underlying345
  a233 := Tryz.isAgg345
  z233 := Tryz.sizeOf345
  v233 := Tryz.zeroValue345
  g15 := by kernel_rfl
  g16 := by kernel_rfl
  g17 := by kernel_rfl
  g18 := by kernel_rfl
  g19 := by kernel_rfl
  t80 := Tryz.underlying184
  a80 := Tryz.isAgg184
  z80 := Tryz.sizeOf184
  v80 := Tryz.zeroValue184
  i0 := by kernel_rfl
  i2 := by kernel_rfl
  i3 := by kernel_rfl
  i4 := by kernel_rfl
  i5 := by kernel_rfl
  i9 := by kernel_rfl
  i20 := by kernel_rfl
  i21 := by kernel_rfl
  i37 := by kernel_rfl
  i46 := by kernel_rfl
  i51 := by kernel_rfl
  i53 := by kernel_rfl
  i75 := by kernel_rfl
  i80 := by kernel_rfl
  i85 := by kernel_rfl
  i127 := by kernel_rfl
  i143 := by kernel_rfl
  i145 := by kernel_rfl
  i167 := by kernel_rfl
  i168 := by kernel_rfl
  i171 := by kernel_rfl
  i173 := by kernel_rfl
  i175 := by kernel_rfl
  i210 := by kernel_rfl
  i212 := by kernel_rfl
  i232 := by kernel_rfl
  i233 := by kernel_rfl
  m15 := by kernel_rfl
  m16 := by kernel_rfl
  m17 := by kernel_rfl
  m18 := by kernel_rfl
  m19 := by kernel_rfl
  c0 := by kernel_rfl
  c2 := by kernel_rfl
  c3 := by kernel_rfl
  c4 := by kernel_rfl
  c5 := by kernel_rfl
  c9 := by kernel_rfl
  c20 := by kernel_rfl
  c21 := by kernel_rfl
  c37 := by kernel_rfl
  c46 := by kernel_rfl
  c51 := by kernel_rfl
  c53 := by kernel_rfl
  c75 := by kernel_rfl
  c80 := by kernel_rfl
  c85 := by kernel_rfl
  c127 := by kernel_rfl
  c143 := by kernel_rfl
  c145 := by kernel_rfl
  c167 := by kernel_rfl
  c168 := by kernel_rfl
  c171 := by kernel_rfl
  c173 := by kernel_rfl
  c175 := by kernel_rfl
  c210 := by kernel_rfl
  c212 := by kernel_rfl
  c213 := by kernel_rfl
  c232 := by kernel_rfl
  c233 := by kernel_rfl
/-! ### strconv.ParseInt -/
def strconv_ParseInt (s0 : ByteArray) (base1 : Int) (bitSize2 : Int) : Option (Int × Bool) := parseF s0 base1 bitSize2
theorem strconv_ParseInt.calls (s0 : ByteArray) (base1 : Int) (bitSize2 : Int) (w : World) (r : Int × Bool) (g_er : Gler w) (g_lo : Gllo w) (h : strconv_ParseInt s0 base1 bitSize2 = some r) :
    Calls Tryz.prog 187 #[(.string s0), (.int .i64 base1), (.int .i64 bitSize2)] w fun e w' => ∃ v, e = .returned v ∧ (∃ (ev0 : Value), ErrIs r.2 ev0 ∧ v = .tuple #[(.int .i64 r.1), ev0] ∧ Mem w [] [] w') := by
  rw [strconv_ParseInt] at h
  exact parse_calls lay_strconv_ParseInt g_lo.lo s0 base1 bitSize2 w r g_er.es g_er.er h
def lay_strconv_FormatInt_ren : Go.Shelf.Ren := ⟨fun | 173 => 152 | 246 => 200 | 283 => 232 | 284 => 233 | 285 => 234 | 286 => 235 | 129 => 255 | 317 => 254 | 318 => 256 | 319 => 257 | 320 => 258 | 337 => 287 | 338 => 288 | n => n, fun | 2 => 2 | 3 => 3 | 9 => 9 | 4 => 4 | 171 => 280 | 0 => 0 | 53 => 185 | 37 => 22 | 5 => 5 | 173 => 283 | 212 => 304 | 51 => 32 | 20 => 20 | 213 => 305 | 46 => 126 | 232 => 344 | 233 => 345 | n => n, fun | 17 => 0 | 18 => 6 | 19 => 7 | n => n⟩
theorem lay_strconv_FormatInt : Go.Proofs.LaysM.n173 Tryz.prog lay_strconv_FormatInt_ren where
  mixed := by kernel_rfl
  f129 := Tryz.func255.trans (congrArg some (by kernel_rfl))
  f173 := Tryz.func152.trans (congrArg some (by kernel_rfl))
  f246 := Tryz.func200.trans (congrArg some (by kernel_rfl))
  f283 := Tryz.func232.trans (congrArg some (by kernel_rfl))
  f284 := Tryz.func233.trans (congrArg some (by kernel_rfl))
  f285 := Tryz.func234.trans (congrArg some (by kernel_rfl))
  f286 := Tryz.func235.trans (congrArg some (by kernel_rfl))
  f317 := Tryz.func254.trans (congrArg some (by kernel_rfl))
  f318 := Tryz.func256.trans (congrArg some (by kernel_rfl))
  f319 := Tryz.func257.trans (congrArg some (by kernel_rfl))
  f320 := Tryz.func258.trans (congrArg some (by kernel_rfl))
  f337 := Tryz.func287.trans (congrArg some (by kernel_rfl))
  f338 := Tryz.func288.trans (congrArg some (by kernel_rfl))
  t0 := Tryz.underlying0
  a0 := Tryz.isAgg0
  z0 := Tryz.sizeOf0
  v0 := Tryz.zeroValue0
  t2 := Tryz.underlying2
  a2 := Tryz.isAgg2
  z2 := Tryz.sizeOf2
  v2 := Tryz.zeroValue2
  t3 := Tryz.underlying3
  a3 := Tryz.isAgg3
  z3 := Tryz.sizeOf3
  v3 := Tryz.zeroValue3
  t4 := Tryz.underlying4
  a4 := Tryz.isAgg4
  z4 := Tryz.sizeOf4
  v4 := Tryz.zeroValue4
  t5 := Tryz.underlying5
  a5 := Tryz.isAgg5
  z5 := Tryz.sizeOf5
  v5 := Tryz.zeroValue5
  t9 := Tryz.underlying9
  a9 := Tryz.isAgg9
  z9 := Tryz.sizeOf9
  v9 := Tryz.zeroValue9
  t20 := Tryz.underlying20
  a20 := Tryz.isAgg20
  z20 := Tryz.sizeOf20
  v20 := Tryz.zeroValue20
  t37 := Tryz.underlying22
  a37 := Tryz.isAgg22
  z37 := Tryz.sizeOf22
  v37 := Tryz.zeroValue22
  t46 := Tryz.underlying126
  a46 := Tryz.isAgg126
  z46 := Tryz.sizeOf126
  v46 := Tryz.zeroValue126
  t51 := Tryz.underlying32
  a51 := Tryz.isAgg32
  z51 := Tryz.sizeOf32
  v51 := Tryz.zeroValue32
  t53 := Tryz.underlying185
  a53 := Tryz.isAgg185
  z53 := Tryz.sizeOf185
  v53 := Tryz.zeroValue185
  t171 := Tryz.underlying280
  a171 := Tryz.isAgg280
  z171 := Tryz.sizeOf280
  v171 := Tryz.zeroValue280
  t173 := Tryz.underlying283
  a173 := Tryz.isAgg283
  z173 := Tryz.sizeOf283
  v173 := Tryz.zeroValue283
  t212 := Tryz.underlying304
  a212 := Tryz.isAgg304
  z212 := Tryz.sizeOf304
  v212 := Tryz.zeroValue304
  t213 := Tryz.underlying305
  a213 := Tryz.isAgg305
  z213 := Tryz.sizeOf305
  t232 := Tryz.underlying344
  a232 := Tryz.isAgg344
  z232 := Tryz.sizeOf344
  v232 := Tryz.zeroValue344
  t233 := Tryz.underlying345
  a233 := Tryz.isAgg345
  z233 := Tryz.sizeOf345
  v233 := Tryz.zeroValue345
  g17 := by kernel_rfl
  g18 := by kernel_rfl
  g19 := by kernel_rfl
  i0 := by kernel_rfl
  i2 := by kernel_rfl
  i3 := by kernel_rfl
  i4 := by kernel_rfl
  i5 := by kernel_rfl
  i9 := by kernel_rfl
  i20 := by kernel_rfl
  i37 := by kernel_rfl
  i46 := by kernel_rfl
  i51 := by kernel_rfl
  i53 := by kernel_rfl
  i171 := by kernel_rfl
  i173 := by kernel_rfl
  i212 := by kernel_rfl
  i232 := by kernel_rfl
  i233 := by kernel_rfl
  m17 := by kernel_rfl
  m18 := by kernel_rfl
  m19 := by kernel_rfl
/-! ### strconv.FormatInt -/
def strconv_FormatInt (i0 : Int) (base1 : Int) : Option (ByteArray) := fmtF i0 base1
theorem strconv_FormatInt.calls (i0 : Int) (base1 : Int) (w : World) (r : ByteArray) (g_pw : Glpw w) (h : strconv_FormatInt i0 base1 = some r) :
    Calls Tryz.prog 152 #[(.int .i64 i0), (.int .i64 base1)] w fun e w' => ∃ v, e = .returned v ∧ (v = (.string r) ∧ Mem w [] [] w') := by
  rw [strconv_FormatInt] at h
  exact fmt_calls lay_strconv_FormatInt i0 base1 w r g_pw.pw h
/-! ### impl.decimal -/
def impl_decimal (n0 : Int) : Option (ByteArray) := (strconv_FormatInt n0 10).bind fun t_1 => some t_1
theorem impl_decimal.calls (n0 : Int) (w : World) (r : ByteArray) (g_pw : Glpw w) (h : impl_decimal n0 = some r) :
    Calls Tryz.prog 78 #[(.int .i64 n0)] w fun e w' => ∃ v, e = .returned v ∧ (v = (.string r) ∧ Mem w [] [] w') := by
  rw [impl_decimal] at h
  refine enter (args := [(.int .i64 n0)]) Tryz.func78 rfl Tryz.ntmps78 (by kernel_rfl) (L := []) (W := []) (Mem.start w) ?_
  refine jc_seq (jc_region (qh [0] (qe (jx_then (jc_seq (jc_region (qh [0] ?_)))))))
  obtain ⟨t_1, ht_1, h⟩ := bd h
  refine tO (pc 0 (fun w hm => strconv_FormatInt.calls n0 10 w _ (g_pw.keep hm) ht_1) ?_)
  rintro w v w' hm ⟨rfl, hm'⟩
  refine ⟨_, hm.app hm', jkO ?_⟩
  clear hm hm'
  refine qh [0] (qe (jx_then (jc_ret ?_)))
  obtain rfl := Option.some.inj h
  exact qr [] (fun w hm => ⟨rfl, hm.pk []⟩)
/-! ### impl.number -/
def impl_number.k_3 (t_1 : Int × Bool) (q_2 : Bool) : Option (Int × Bool) := (if q_2 = true then some (0, false) else some (t_1.1, true))
def impl_number (s0 : ByteArray) (most1 : Int) : Option (Int × Bool) := (strconv_ParseInt s0 10 64).bind fun t_1 => (if t_1.2 = true then impl_number.k_3 t_1 true else (impl_decimal t_1.1).bind fun t_4 => (if (!(t_4.toList == s0.toList)) = true then impl_number.k_3 t_1 true else (impl_within t_1.1 0 most1).bind fun t_5 => impl_number.k_3 t_1 (!t_5)))
theorem impl_number.calls (s0 : ByteArray) (most1 : Int) (w : World) (r : Int × Bool) (g_er : Gler w) (g_lo : Gllo w) (g_pw : Glpw w) (h : impl_number s0 most1 = some r) :
    Calls Tryz.prog 112 #[(.string s0), (.int .i64 most1)] w fun e w' => ∃ v, e = .returned v ∧ (v = .tuple #[(.int .i64 r.1), (.bool r.2)] ∧ Mem w [] [] w') := by
  rw [impl_number] at h
  refine enter (args := [(.string s0), (.int .i64 most1)]) Tryz.func112 rfl Tryz.ntmps112 (by kernel_rfl) (L := []) (W := []) (Mem.start w) ?_
  refine jc_seq (jc_region (qh [0,0] (qe (jx_then (jc_seq (jc_region (qh [0] ?_)))))))
  obtain ⟨t_1, ht_1, h⟩ := bd h
  refine tO (pc 0 (fun w hm => strconv_ParseInt.calls s0 10 64 w _ (g_er.keep hm) (g_lo.keep hm) ht_1) ?_)
  rintro w v w' hm ⟨ev_2, hev_3, rfl, hm'⟩
  refine ⟨_, hm.app hm', jkO ?_⟩
  clear hm hm'
  refine qh [0,0,0,0,0] (qe (jx_then (jc_seq (jc_seq (jc_meet (fun (j : Bool) => match j with | q_2 => impl_number.k_3 t_1 q_2 = some r) (fun (j : Bool) => match j with | q_2 => [(4, [], (.int .i64 0)), (5, [], (.bool false)), (6, [], (.int .i64 t_1.1)), (26, [], (.bool q_2))]) (fun (j : Bool) => match j with | q_2 => []) ?_ ?_)))))
  ·refine jc_region (qh [0] (tO (p_v 0 (by kernel_rfl) _ (fun w hm => err_ne (ev := ev_2) (b := t_1.2) (by kernel_rfl) hev_3) (jkO (qf [(0, 0), (0, 1)] (qp 15 h (fun h => ?_) (fun h => ?_)))))))
   ·exact qf [(0, 3), (0, 3), (0, 3), (0, 4), (0, 0), (0, 3), (0, 3), (0, 3), (0, 3), (0, 4)] (qe (qm true h []))
   ·obtain ⟨t_4, ht_19, h⟩ := bd h
    refine tO (pc 2 (fun w hm => impl_decimal.calls t_1.1 w _ (g_pw.keep hm) ht_19) ?_)
    rintro w v w' hm ⟨rfl, hm'⟩
    refine ⟨_, hm.app hm', jkO ?_⟩
    clear hm hm'
    refine qf [(0, 2), (0, 2), (0, 5), (0, 0), (0, 1), (0, 1)] (qp 21 h (fun h => ?_) (fun h => ?_))
    ·exact qf [(0, 3), (0, 3), (0, 4)] (qe (qm true h []))
    ·obtain ⟨t_5, ht_21, h⟩ := bd h
     refine tO (pc 2 (fun w hm => impl_within.calls t_1.1 0 most1 w _ ht_21) ?_)
     rintro w v w' hm ⟨rfl, hm'⟩
     refine ⟨_, hm.app hm', jkO ?_⟩
     clear hm hm'
     exact qf [(0, 2), (0, 5)] (qe (qm (!t_5) h []))
  ·rintro q_2 h
   replace h : impl_number.k_3 t_1 q_2 = some r := h
   rw [impl_number.k_3] at h
   refine jx_then (qi h (fun h => ?_) (fun h => ?_))
   ·refine jc_seq (jc_region (qh [0,0] (qe (jx_then (jc_ret (jx_thenr ?_))))))
    obtain rfl := Option.some.inj h
    exact qr [] (fun w hm => ⟨rfl, hm.pk []⟩)
   ·refine jc_skip (jx_then (jc_seq (jc_region (qh [0,0,0] (qe (jx_then (jc_ret ?_)))))))
    obtain rfl := Option.some.inj h
    exact qr [] (fun w hm => ⟨rfl, hm.pk []⟩)
/-! ### (impl.Act).numbers -/
def impl_Act_numbers (a0 : GAct) : Option ((List Int)) := some ([a0.fA, a0.fB, a0.fC, a0.fD] : List Int)
theorem impl_Act_numbers.calls (a0 : GAct) (w : World) (r : (List Int)) (h : impl_Act_numbers a0 = some r) :
    Calls Tryz.prog 117 #[(.agg #[(.int .i8 a0.fKind), (.int .i64 a0.fA), (.int .i64 a0.fB), (.int .i64 a0.fC), (.int .i64 a0.fD)])] w fun e w' => ∃ v, e = .returned v ∧ (∃ (o0 : Option Nat) (c0 : Nat) (s0 : List Value) (n0 : Nat), r.length = n0 ∧ (o0 ≠ none → n0 ≤ c0 ∧ s0.length = (c0 - n0) * 1) ∧ (o0 = none → r = [] ∧ c0 = 0) ∧ v = .slice (o0.map fun b => ⟨b, 0, none⟩) n0 c0 ∧ Mem w [] [⟨o0, 2, row encI64 r s0⟩] w') := by
  rw [impl_Act_numbers] at h
  refine enter (args := [(.agg #[(.int .i8 a0.fKind), (.int .i64 a0.fA), (.int .i64 a0.fB), (.int .i64 a0.fC), (.int .i64 a0.fD)])]) Tryz.func117 rfl Tryz.ntmps117 (by kernel_rfl) (L := []) (W := []) (Mem.start w) ?_
  refine jc_seq (jc_region (tO (qa 0 (fun b_1 => jkO (qh [0] (qe (jx_then (jc_seq (jc_region (qh [0,0,0,0,0,0,0,0] (tO (qa 0 (fun b_2 => jkO (qh [0] (qe (jx_then (jc_ret ?_)))))))))))))))))
  obtain rfl := Option.some.inj h
  exact qr [] (fun w hm => ⟨(some b_2), 4, [], 4, rfl, (fun _ => ⟨Nat.le_refl _, by simp⟩), (fun e => nomatch e), rfl, hm.pk [1]⟩)
/-! ### (impl.Act).isTold -/
def impl_Act_isTold.k_3 : Option (Bool) := some true
def impl_Act_isTold.k_9 (i_4 : Int) (q_8 : Bool) : Option ((Int) ⊕ (Bool ⊕ Unit)) := (if q_8 = true then some (.inr (.inl false)) else some (.inl (w64 (i_4 + 1))))
def impl_Act_isTold.l_5 (a0 : GAct) (t_2 : (List Int)) : Int → Option ((Int) ⊕ (Bool ⊕ Unit))
  | i_4 => (if (decide (i_4 < (t_2.length : Int))) = true then (ix t_2 i_4).bind fun x_7 => (impl_isMade x_7).bind fun t_10 => (if (!t_10) = true then impl_Act_isTold.k_9 i_4 true else (impl_usedBy).bind fun t_11 => (ix t_11 a0.fKind).bind fun x_12 => impl_Act_isTold.k_9 i_4 ((decide (i_4 ≥ x_12)) && (x_7 != 0))) else some (.inr (.inr ())))
def impl_Act_isTold (a0 : GAct) : Option (Bool) := (impl_within (w64 a0.fKind) 0 3).bind fun t_1 => (if (!t_1) = true then some false else (impl_Act_numbers a0).bind fun t_2 => (loop (impl_Act_isTold.l_5 a0 t_2) 0).bind fun t_6 => match t_6 with | .inl p => some p | .inr p => impl_Act_isTold.k_3)
theorem impl_Act_isTold.calls (a0 : GAct) (w : World) (r : Bool) (h : impl_Act_isTold a0 = some r) :
    Calls Tryz.prog 115 #[(.agg #[(.int .i8 a0.fKind), (.int .i64 a0.fA), (.int .i64 a0.fB), (.int .i64 a0.fC), (.int .i64 a0.fD)])] w fun e w' => ∃ v, e = .returned v ∧ (v = (.bool r) ∧ Mem w [] [] w') := by
  rw [impl_Act_isTold] at h
  refine enter (args := [(.agg #[(.int .i8 a0.fKind), (.int .i64 a0.fA), (.int .i64 a0.fB), (.int .i64 a0.fC), (.int .i64 a0.fD)])]) Tryz.func115 rfl Tryz.ntmps115 (by kernel_rfl) (L := []) (W := []) (Mem.start w) ?_
  refine jc_seq (jc_region (tO (qa 0 (fun b_1 => jkO (qh [0] (qe (jx_then (jc_seq (jc_seq (jc_region (qh [0,0,0] ?_)))))))))))
  obtain ⟨t_1, ht_4, h⟩ := bd h
  refine tO (pc 0 (fun w hm => impl_within.calls (w64 a0.fKind) 0 3 w _ ht_4) ?_)
  rintro w v w' hm ⟨rfl, hm'⟩
  refine ⟨_, hm.app hm', jkO ?_⟩
  clear hm hm'
  refine qh [0] (qe (jx_then (qi h (fun h => ?_) (fun h => ?_))))
  ·refine jc_seq (jc_region (qh [0] (qe (jx_then (jc_ret (jx_thenr ?_))))))
   obtain rfl := Option.some.inj h
   exact qr [] (fun w hm => ⟨rfl, hm.pk []⟩)
  ·refine jc_skip (jx_then (jc_seq (jc_seq (jc_region (qh [0] ?_)))))
   obtain ⟨t_2, ht_6, h⟩ := bd h
   refine tO (pc 0 (fun w hm => impl_Act_numbers.calls a0 w _ ht_6) ?_)
   rintro w v w' hm ⟨o_7, cap_8, sp_9, _, rfl, hs_10, ho_11, rfl, hm'⟩
   refine ⟨_, hm.app hm', jkO ?_⟩
   clear hm hm'
   refine qh [0,0] (qe (jx_then (jc_meet (fun (_ : Unit) => impl_Act_isTold.k_3 = some r) (fun (_ : Unit) => [(2, [], (.bool false))]) (fun (_ : Unit) => [⟨some b_1, 77, [(.int .i8 a0.fKind), (.int .i64 a0.fA), (.int .i64 a0.fB), (.int .i64 a0.fC), (.int .i64 a0.fD)]⟩, ⟨o_7, 2, row encI64 t_2 sp_9⟩]) ?_ ?_)))
   ·refine jc_block ?_
    obtain ⟨t_6, ht_153, hr_127⟩ := bd h
    refine jc_loop (fun (s : Int) (x : Unit) => match s, x with | i_4, _ => True) (fun (s : Int) (x : Unit) => match s, x with | i_4, _ => [(1, [], (.pointer (some ⟨b_1, 0, none⟩))), (2, [], (.bool false)), (11, [], (.slice (o_7.map fun b => ⟨b, 0, none⟩) t_2.length cap_8)), (12, [], (.int .i64 (t_2.length : Int))), (13, [], (.int .i64 i_4))]) (fun (s : Int) (x : Unit) => match s, x with | i_4, _ => [⟨some b_1, 77, [(.int .i8 a0.fKind), (.int .i64 a0.fA), (.int .i64 a0.fB), (.int .i64 a0.fC), (.int .i64 a0.fD)]⟩, ⟨o_7, 2, row encI64 t_2 sp_9⟩]) ht_153 () trivial (by kernel_rfl) [0, 1] (by kernel_rfl) (by kernel_rfl) ?_
    rintro i_4 _ y_128 _ h
    rw [impl_Act_isTold.l_5] at h
    refine jc_seq (jc_region (qh [0] (qe (jx_then (jc_seq (qi h (fun h => ?_) (fun h => ?_)))))))
    ·refine jc_skip (jx_then (jc_seq (jc_block (jc_seq (jc_region (qh [0] ?_))))))
     obtain ⟨x_7, hx_131, h⟩ := bd h
     refine tO (qx 0 (o_7.map fun b => ⟨b, 0, none⟩) 1 hx_131 rfl (spo ho_11 hx_131) (jkO (tO (ql 0 false (fun w hm => ((hm.ow 1 o_7 2 t_2 sp_9 (fun e => (ho_11 e).1) encI64_len).at hx_131)) (jkO (qh [0,0] (qe (jx_then (jc_seq (jc_meet (fun (j : Bool) => match j with | q_8 => impl_Act_isTold.k_9 i_4 q_8 = some y_128) (fun (j : Bool) => match j with | q_8 => [(1, [], (.pointer (some ⟨b_1, 0, none⟩))), (2, [], (.bool false)), (11, [], (.slice (o_7.map fun b => ⟨b, 0, none⟩) t_2.length cap_8)), (12, [], (.int .i64 (t_2.length : Int))), (13, [], (.int .i64 i_4)), (33, [], (.bool q_8))]) (fun (j : Bool) => match j with | q_8 => [⟨some b_1, 77, [(.int .i8 a0.fKind), (.int .i64 a0.fA), (.int .i64 a0.fB), (.int .i64 a0.fC), (.int .i64 a0.fD)]⟩, ⟨o_7, 2, row encI64 t_2 sp_9⟩]) ?_ ?_))))))))))
     ·refine qg [⟨some b_1, 77, [(.int .i8 a0.fKind), (.int .i64 a0.fA), (.int .i64 a0.fB), (.int .i64 a0.fC), (.int .i64 a0.fD)]⟩, ⟨o_7, 2, row encI64 t_2 sp_9⟩] 16 (qd [⟨0, 0, 0⟩] 15 [0, 1] ?_)
      obtain ⟨t_10, ht_143, h⟩ := bd h
      refine tD 1 (pc 0 (fun w hm => impl_isMade.calls x_7 w _ ht_143) ?_)
      rintro w v w' hm ⟨rfl, hm'⟩
      refine ⟨_, hm.app hm', kD [0, 1] ?_⟩
      clear hm hm'
      refine qd [⟨2, 0, 0⟩,⟨3, 0, 0⟩,⟨4, 0, 1⟩,⟨6, 0, 1⟩,⟨7, 0, 1⟩] 9 [0, 1] (jd_split 21 (!t_10) (by kernel_rfl) (fun hc_144 => ?_) (fun hc_144 => ?_))
      ·replace h := ifT hc_144 h
       exact qd [⟨5, 0, 3⟩,⟨8, 0, 3⟩,⟨9, 0, 3⟩,⟨10, 0, 3⟩,⟨11, 0, 3⟩,⟨12, 0, 3⟩,⟨13, 0, 3⟩,⟨14, 0, 3⟩,⟨15, 0, 4⟩] 0 [0, 1] (qz (qm true h [0, 1]))
      ·replace h := ifF hc_144 h
       obtain ⟨t_11, ht_145, h⟩ := bd h
       refine tD 5 (pc 2 (fun w hm => impl_usedBy.calls w _ ht_145) ?_)
       rintro w v w' hm ⟨o_146, cap_147, sp_148, _, rfl, hs_149, ho_150, rfl, hm'⟩
       refine ⟨_, hm.app hm', kD [0, 1] ?_⟩
       clear hm hm'
       obtain ⟨x_12, hx_151, h⟩ := bd h
       exact qv 8 2 [0, 1] (fun w hm => idx_run (a := (o_146.map fun b => ⟨b, 0, none⟩)) (len := t_11.length) (s := 1) (j := a0.fKind) (by kernel_rfl) (ix_some hx_151).1 (ltn hx_151 rfl) (spo ho_150 hx_151)) (tD 9 (ql 2 false (fun w hm => ((hm.ow 2 o_146 3 t_11 sp_148 (fun e => (ho_150 e).1) encI64_len).at hx_151)) (kD [0, 1] (qd [⟨10, 0, 2⟩,⟨11, 0, 2⟩,⟨12, 0, 1⟩,⟨13, 0, 1⟩,⟨14, 0, 2⟩,⟨15, 0, 5⟩] 0 [0, 1] (qz (qm ((decide (i_4 ≥ x_12)) && (x_7 != 0)) h [0, 1]))))))
     ·rintro q_8 h
      replace h : impl_Act_isTold.k_9 i_4 q_8 = some y_128 := h
      rw [impl_Act_isTold.k_9] at h
      refine jx_then (qi h (fun h => ?_) (fun h => ?_))
      ·refine jc_seq (jc_region (qh [0] (qe (jx_then (jc_ret (jx_inr (jx_thenr (jx_leaver (.inl false) (Option.some.inj h).symm (fun e_142 => ?_)))))))))
       subst e_142
       refine jx_inr (jx_thenr (jx_thenr ?_))
       obtain rfl := Option.some.inj hr_127
       exact qr [] (fun w hm => ⟨rfl, hm.pk []⟩)
      ·exact jc_skip (jx_inn (jx_then (jc_region (qh [0,0] (qe (qb (w64 (i_4 + 1)) () h trivial [0, 1]))))))
    ·refine jc_exit (jx_thenx (jx_leave (.inr ()) (Option.some.inj h).symm (fun e_152 => ?_)))
     subst e_152
     exact jx_ine (qm () hr_127 [0, 1])
   ·rintro _ h
    replace h : impl_Act_isTold.k_3 = some r := h
    rw [impl_Act_isTold.k_3] at h
    refine jx_then (jc_seq (jc_region (qh [0] (qe (jx_then (jc_ret ?_))))))
    obtain rfl := Option.some.inj h
    exact qr [] (fun w hm => ⟨rfl, hm.pk []⟩)
/-! ### impl.ActsText$1 -/
def impl_ActsText_1 (a0 : GAct) : Option (Bool) := (impl_Act_isTold a0).bind fun t_1 => some (!t_1)
theorem impl_ActsText_1.calls (a0 : GAct) (w : World) (r : Bool) (h : impl_ActsText_1 a0 = some r) :
    Calls Tryz.prog 114 #[(.agg #[(.int .i8 a0.fKind), (.int .i64 a0.fA), (.int .i64 a0.fB), (.int .i64 a0.fC), (.int .i64 a0.fD)])] w fun e w' => ∃ v, e = .returned v ∧ (v = (.bool r) ∧ Mem w [] [] w') := by
  rw [impl_ActsText_1] at h
  refine enter (args := [(.agg #[(.int .i8 a0.fKind), (.int .i64 a0.fA), (.int .i64 a0.fB), (.int .i64 a0.fC), (.int .i64 a0.fD)])]) Tryz.func114 rfl Tryz.ntmps114 (by kernel_rfl) (L := []) (W := []) (Mem.start w) ?_
  refine jc_seq (jc_region (tO (qa 0 (fun b_1 => jkO (qh [0] (qe (jx_then (jc_seq (jc_region (qh [0] ?_))))))))))
  obtain ⟨t_1, ht_2, h⟩ := bd h
  refine tO (pc 0 (fun w hm => impl_Act_isTold.calls a0 w _ ht_2) ?_)
  rintro w v w' hm ⟨rfl, hm'⟩
  refine ⟨_, hm.app hm', jkO ?_⟩
  clear hm hm'
  refine qh [0,0] (qe (jx_then (jc_ret ?_)))
  obtain rfl := Option.some.inj h
  exact qr [] (fun w hm => ⟨rfl, hm.pk []⟩)
/-! ### slices.IndexFunc[[]impl.Act,impl.Act] -/
def slices_IndexFunc_Act_at_impl_ActsText_1.k_1 : Option (Int) := some (-1)
def slices_IndexFunc_Act_at_impl_ActsText_1.l_3 (s0 : List GAct) : Int → Option ((Int) ⊕ (Int ⊕ Unit))
  | i_2 => (if (decide (i_2 < (s0.length : Int))) = true then (ix s0 i_2).bind fun x_5 => (impl_ActsText_1 x_5).bind fun t_6 => (if t_6 = true then some (.inr (.inl i_2)) else some (.inl (w64 (i_2 + 1)))) else some (.inr (.inr ())))
def slices_IndexFunc_Act_at_impl_ActsText_1 (s0 : List GAct) : Option (Int) := (loop (slices_IndexFunc_Act_at_impl_ActsText_1.l_3 s0) 0).bind fun t_4 => match t_4 with | .inl p => some p | .inr p => slices_IndexFunc_Act_at_impl_ActsText_1.k_1
theorem slices_IndexFunc_Act_at_impl_ActsText_1.calls (s0 : List GAct) (w : World) (r : Int) {A_a : Option Addr} {A_an : Nat} (A_c : Nat) (A_h : Rw w A_a 5 encGAct s0) (A_hn : s0.length = A_an) (h : slices_IndexFunc_Act_at_impl_ActsText_1 s0 = some r) :
    Calls Tryz.prog 188 #[(.slice A_a A_an A_c), (.func (.func 114) #[] #[])] w fun e w' => ∃ v, e = .returned v ∧ (v = (.int .i64 r) ∧ Mem w [] [] w') := by
  subst A_hn
  rw [slices_IndexFunc_Act_at_impl_ActsText_1] at h
  refine enter (args := [(.slice A_a s0.length A_c), (.func (.func 114) #[] #[])]) Tryz.func188 rfl Tryz.ntmps188 (by kernel_rfl) (L := []) (W := []) (Mem.start w) ?_
  refine jc_seq (jc_region (qh [0] (qe (jx_then (jc_seq (jc_seq (jc_region (qh [0,0,0] (qe (jx_then (jc_meet (fun (_ : Unit) => slices_IndexFunc_Act_at_impl_ActsText_1.k_1 = some r) (fun (_ : Unit) => [(4, [], (.int .i64 0))]) (fun (_ : Unit) => []) ?_ ?_)))))))))))
  ·refine jc_block ?_
   obtain ⟨t_4, ht_40, hr_31⟩ := bd h
   refine jc_loop (fun (s : Int) (x : Unit) => match s, x with | i_2, _ => True) (fun (s : Int) (x : Unit) => match s, x with | i_2, _ => [(0, [], (.slice A_a s0.length A_c)), (1, [], (.func (.func 114) #[] #[])), (4, [], (.int .i64 0)), (7, [], (.int .i64 (s0.length : Int))), (8, [], (.int .i64 i_2))]) (fun (s : Int) (x : Unit) => match s, x with | i_2, _ => []) ht_40 () trivial (by kernel_rfl) [] (by kernel_rfl) (by kernel_rfl) ?_
   rintro i_2 _ y_32 _ h
   rw [slices_IndexFunc_Act_at_impl_ActsText_1.l_3] at h
   refine jc_seq (jc_region (qh [0] (qe (jx_then (jc_seq (qi h (fun h => ?_) (fun h => ?_)))))))
   ·refine jc_skip (jx_then (jc_seq (jc_block (jc_seq (jc_region (qh [0,0] (qe (jx_then (jc_seq (jc_region (qh [0,0,0] ?_)))))))))))
    obtain ⟨x_5, hx_35, h⟩ := bd h
    refine tO (qx 0 A_a 5 hx_35 rfl (A_h.sp hx_35) (jkO (tO (ql 0 true (fun w hm => ((hm.xr A_h).at hx_35)) (jkO ?_)))))
    obtain ⟨t_6, ht_36, h⟩ := bd h
    refine tO (pc 0 (fun w hm => impl_ActsText_1.calls x_5 w _ ht_36) ?_)
    rintro w v w' hm ⟨rfl, hm'⟩
    refine ⟨_, hm.app hm', jkO ?_⟩
    clear hm hm'
    refine qe (jx_then (qi h (fun h => ?_) (fun h => ?_)))
    ·refine jc_seq (jc_region (qh [0,0] (qe (jx_then (jc_ret (jx_inr (jx_thenr (jx_leaver (.inl i_2) (Option.some.inj h).symm (fun e_38 => ?_)))))))))
     subst e_38
     refine jx_inr (jx_thenr (jx_thenr ?_))
     obtain rfl := Option.some.inj hr_31
     exact qr [] (fun w hm => ⟨rfl, hm.pk []⟩)
    ·exact jc_skip (jx_inn (jx_then (jc_region (qh [0,0] (qe (qb (w64 (i_2 + 1)) () h trivial []))))))
   ·refine jc_exit (jx_thenx (jx_leave (.inr ()) (Option.some.inj h).symm (fun e_39 => ?_)))
    subst e_39
    exact jx_ine (qm () hr_31 [])
  ·rintro _ h
   replace h : slices_IndexFunc_Act_at_impl_ActsText_1.k_1 = some r := h
   rw [slices_IndexFunc_Act_at_impl_ActsText_1.k_1] at h
   refine jx_then (jc_seq (jc_region (qh [0] (qe (jx_then (jc_ret ?_))))))
   obtain rfl := Option.some.inj h
   exact qr [] (fun w hm => ⟨rfl, hm.pk []⟩)
/-! ### slices.ContainsFunc[[]impl.Act,impl.Act] -/
def slices_ContainsFunc_Act_at_impl_ActsText_1 (s0 : List GAct) : Option (Bool) := (slices_IndexFunc_Act_at_impl_ActsText_1 s0).bind fun t_1 => some (decide (t_1 ≥ 0))
theorem slices_ContainsFunc_Act_at_impl_ActsText_1.calls (s0 : List GAct) (w : World) (r : Bool) {A_a : Option Addr} {A_an : Nat} (A_c : Nat) (A_h : Rw w A_a 5 encGAct s0) (A_hn : s0.length = A_an) (h : slices_ContainsFunc_Act_at_impl_ActsText_1 s0 = some r) :
    Calls Tryz.prog 113 #[(.slice A_a A_an A_c), (.func (.func 114) #[] #[])] w fun e w' => ∃ v, e = .returned v ∧ (v = (.bool r) ∧ Mem w [] [] w') := by
  subst A_hn
  rw [slices_ContainsFunc_Act_at_impl_ActsText_1] at h
  refine enter (args := [(.slice A_a s0.length A_c), (.func (.func 114) #[] #[])]) Tryz.func113 rfl Tryz.ntmps113 (by kernel_rfl) (L := []) (W := []) (Mem.start w) ?_
  refine jc_seq (jc_region (qh [0] (qe (jx_then (jc_seq (jc_region (qh [0,0] ?_)))))))
  obtain ⟨t_1, ht_1, h⟩ := bd h
  refine tO (pc 0 (fun w hm => slices_IndexFunc_Act_at_impl_ActsText_1.calls s0 w _ A_c (hm.xr A_h) rfl ht_1) ?_)
  rintro w v w' hm ⟨rfl, hm'⟩
  refine ⟨_, hm.app hm', jkO ?_⟩
  clear hm hm'
  refine qh [0,0] (qe (jx_then (jc_ret ?_)))
  obtain rfl := Option.some.inj h
  exact qr [] (fun w hm => ⟨rfl, hm.pk []⟩)
def lay_bld116_ren : Go.Shelf.Ren := ⟨fun | 166 => 116 | 240 => 189 | 276 => 228 | 169 => 118 | n => n, fun | 70 => 176 | 9 => 9 | 3 => 3 | 75 => 180 | 0 => 0 | 72 => 178 | 37 => 22 | 4 => 4 | 164 => 274 | 80 => 184 | 5 => 5 | 127 => 246 | 20 => 20 | n => n, fun | n => n⟩
theorem lay_bld116 : Go.Proofs.Lays.n166 Tryz.prog lay_bld116_ren where
  mixed := by kernel_rfl
  f166 := Tryz.func116.trans (congrArg some (by kernel_rfl))
  f240 := Tryz.func189.trans (congrArg some (by kernel_rfl))
  f276 := Tryz.func228.trans (congrArg some (by kernel_rfl))
  t0 := Tryz.underlying0
  a0 := Tryz.isAgg0
  z0 := Tryz.sizeOf0
  v0 := Tryz.zeroValue0
  t3 := Tryz.underlying3
  a3 := Tryz.isAgg3
  z3 := Tryz.sizeOf3
  v3 := Tryz.zeroValue3
  t4 := Tryz.underlying4
  a4 := Tryz.isAgg4
  z4 := Tryz.sizeOf4
  v4 := Tryz.zeroValue4
  t9 := Tryz.underlying9
  a9 := Tryz.isAgg9
  z9 := Tryz.sizeOf9
  v9 := Tryz.zeroValue9
  t20 := Tryz.underlying20
  a20 := Tryz.isAgg20
  z20 := Tryz.sizeOf20
  v20 := Tryz.zeroValue20
  t37 := Tryz.underlying22
  a37 := Tryz.isAgg22
  z37 := Tryz.sizeOf22
  v37 := Tryz.zeroValue22
  t70 := Tryz.underlying176
  a70 := Tryz.isAgg176
  z70 := Tryz.sizeOf176
  v70 := Tryz.zeroValue176
  t72 := Tryz.underlying178
  a72 := Tryz.isAgg178
  z72 := Tryz.sizeOf178
  v72 := Tryz.zeroValue178
  t75 := Tryz.underlying180
  a75 := Tryz.isAgg180
  z75 := Tryz.sizeOf180
  v75 := Tryz.zeroValue180
  t164 := Tryz.underlying274
  a164 := Tryz.isAgg274
  z164 := Tryz.sizeOf274
  v164 := Tryz.zeroValue274
theorem lay_bld116_s : Go.Proofs.Lays.n169 Tryz.prog lay_bld116_ren where
  mixed := by kernel_rfl
  f169 := Tryz.func118.trans (congrArg some (by kernel_rfl))
  t0 := Tryz.underlying0
  a0 := Tryz.isAgg0
  z0 := Tryz.sizeOf0
  v0 := Tryz.zeroValue0
  t3 := Tryz.underlying3
  a3 := Tryz.isAgg3
  z3 := Tryz.sizeOf3
  v3 := Tryz.zeroValue3
  t9 := Tryz.underlying9
  a9 := Tryz.isAgg9
  z9 := Tryz.sizeOf9
  v9 := Tryz.zeroValue9
  t37 := Tryz.underlying22
  a37 := Tryz.isAgg22
  z37 := Tryz.sizeOf22
  v37 := Tryz.zeroValue22
  t70 := Tryz.underlying176
  a70 := Tryz.isAgg176
  z70 := Tryz.sizeOf176
  v70 := Tryz.zeroValue176
  t72 := Tryz.underlying178
  a72 := Tryz.isAgg178
  z72 := Tryz.sizeOf178
  v72 := Tryz.zeroValue178
  t127 := Tryz.underlying246
  a127 := Tryz.isAgg246
  z127 := Tryz.sizeOf246
  v127 := Tryz.zeroValue246
theorem lay_bld116_x : Go.Proofs.Builder.Extra Tryz.prog lay_bld116_ren where
  sizeBuilder := by kernel_rfl
  liesBuilder := by kernel_rfl
  t5 := Tryz.underlying5
  a5 := Tryz.isAgg5
  z5 := Tryz.sizeOf5
  v5 := Tryz.zeroValue5
  infoByte := by kernel_rfl
  cellsByte := by kernel_rfl
  sizeByte := by kernel_rfl
  neB5 := by decide
/-! ### (*strings.Builder).WriteString -/
theorem bld116.calls {w0 : World} {Lb : List Blk} (lo : ¬ dsW.S) (i j b : Nat) (q : Bool) (o : Option Nat) (n c : Nat) (xs : List Int) (sp : List Value) (hi : Lb[i]? = some ⟨some b, 178, [bp q b, .slice (o.map fun b => ⟨b, 0, none⟩) n c]⟩) (hj : Lb[j]? = some ⟨o, 5, row encU8 xs sp⟩) (hn : xs.length = n) (hs : o ≠ none → n ≤ c ∧ sp.length = (c - n) * 1) (ho : o = none → xs = [] ∧ c = 0) (hc : c ≤ 9223372036854775807) (hot : othU 5 i j 0 Lb = true) (ij : i ≠ j) (s : ByteArray) (hbig : xs.length + s.size ≤ 140737488355328) (w : World) (hm : Mem w0 [] Lb w) :
    Calls Tryz.prog 116 #[.pointer (some ⟨b, 0, none⟩), .string s] w fun e w' => ∃ v, e = .returned v ∧ ∃ (o' : Option Nat) (c' : Nat) (sp' : List Value), (o' ≠ none → (xs ++ bytesI s).length ≤ c' ∧ sp'.length = (c' - (xs ++ bytesI s).length) * 1) ∧ (o' = none → xs ++ bytesI s = [] ∧ c' = 0) ∧ c' ≤ 9223372036854775807 ∧ v = .tuple #[.int .i64 s.size, .nilIface] ∧
      Mem w0 [] ((Lb.set i ⟨some b, 178, [bp true b, .slice (o'.map fun b => ⟨b, 0, none⟩) (xs ++ bytesI s).length c']⟩).set j ⟨o', 5, row encU8 (xs ++ bytesI s) sp'⟩) w' :=
  wstr_c lay_bld116 lay_bld116_x lo 178 5 rfl rfl i j b q o n c encU8 xs sp hi hj hn hs ho hc (fun _ => rfl) hot ij s hbig w hm
/-! ### (*strings.Builder).String -/
theorem bld118.calls {w0 : World} {Lb : List Blk} (lo : ¬ dsW.S) (i j b : Nat) (q : Bool) (o : Option Nat) (n c : Nat) (xs : List Int) (sp : List Value) (hi : Lb[i]? = some ⟨some b, 178, [bp q b, .slice (o.map fun b => ⟨b, 0, none⟩) n c]⟩) (hj : Lb[j]? = some ⟨o, 5, row encU8 xs sp⟩) (hn : xs.length = n) (hs : o ≠ none → n ≤ c ∧ sp.length = (c - n) * 1) (ho : o = none → xs = [] ∧ c = 0) (hc : c ≤ 9223372036854775807) (hot : othU 5 i j 0 Lb = true) (ij : i ≠ j) (r : ByteArray) (hr : strF xs = some r) (w : World) (hm : Mem w0 [] Lb w) :
    Calls Tryz.prog 118 #[.pointer (some ⟨b, 0, none⟩)] w fun e w' => ∃ v, e = .returned v ∧ (v = .string r ∧ Mem w0 [] ((Lb.set i ⟨none, 0, []⟩).set j ⟨none, 0, []⟩) w') :=
  str_c lay_bld116_s lay_bld116_x lo 178 5 rfl rfl i j b q o n c encU8 xs sp hi hj hn hs ho hc (fun _ => rfl) hot ij r hr w hm -- beside bld116.calls
/-! ### impl.ActsText -/
def impl_ActsText.k_4 (xs_3 : List Int) : Option (ByteArray) := (strF xs_3).bind fun t_5 => some t_5
def impl_ActsText.k_17 (i_7 : Int) (xs_16 : List Int) : Option (((List Int) × Int) ⊕ ((List Int))) := (if xs_16.length + (ByteArray.mk #[10]).size ≤ 140737488355328 then some (.inl ((xs_16 ++ bytesI (ByteArray.mk #[10])), (w64 (i_7 + 1)))) else none)
def impl_ActsText.l_20 (t_13 : (List Int)) (x_15 : Int) : ((List Int) × Int) → Option (((List Int) × Int) ⊕ ((List Int)))
  | (xs_18, i_19) => (if (decide (i_19 < (x_15.toNat : Int))) = true then (ix (t_13.take x_15.toNat) i_19).bind fun x_22 => (impl_decimal x_22).bind fun t_23 => (if (ByteArray.mk #[32]).size + t_23.size ≤ 9223372036854775807 then (if xs_18.length + ((ByteArray.mk #[32]) ++ t_23).size ≤ 140737488355328 then some (.inl ((xs_18 ++ bytesI ((ByteArray.mk #[32]) ++ t_23)), (w64 (i_19 + 1)))) else none) else none) else some (.inr xs_18))
def impl_ActsText.l_8 (list0 : List GAct) : ((List Int) × Int) → Option (((List Int) × Int) ⊕ ((List Int)))
  | (xs_6, i_7) => (if (decide (i_7 < (list0.length : Int))) = true then (ix list0 i_7).bind fun x_10 => (impl_actWords).bind fun t_11 => (ix t_11 x_10.fKind).bind fun x_12 => (if xs_6.length + x_12.size ≤ 140737488355328 then (impl_Act_numbers x_10).bind fun t_13 => (impl_usedBy).bind fun t_14 => (ix t_14 x_10.fKind).bind fun x_15 => (if 0 ≤ x_15 ∧ x_15 ≤ (t_13.length : Int) then (loop (impl_ActsText.l_20 t_13 x_15) ((xs_6 ++ bytesI x_12), 0)).bind fun t_21 => impl_ActsText.k_17 i_7 t_21 else none) else none) else some (.inr xs_6))
def impl_ActsText.k_2 (list0 : List GAct) (q_1 : Bool) : Option (ByteArray) := (if q_1 = true then some (ByteArray.mk #[]) else (loop (impl_ActsText.l_8 list0) ([], 0)).bind fun t_9 => impl_ActsText.k_4 t_9)
def impl_ActsText (list0 : List GAct) : Option (ByteArray) := (if (decide ((list0.length : Int) > 60)) = true then impl_ActsText.k_2 list0 true else (slices_ContainsFunc_Act_at_impl_ActsText_1 list0).bind fun t_24 => impl_ActsText.k_2 list0 t_24)
theorem impl_ActsText.calls (list0 : List GAct) (w : World) (r : ByteArray) (g_lo : Gllo w) (g_pw : Glpw w) {A_a : Option Addr} {A_an : Nat} (A_c : Nat) (A_h : Rw w A_a 5 encGAct list0) (A_hn : list0.length = A_an) (h : impl_ActsText list0 = some r) :
    Calls Tryz.prog 41 #[(.slice A_a A_an A_c)] w fun e w' => ∃ v, e = .returned v ∧ (v = (.string r) ∧ Mem w [] [] w') := by
  subst A_hn
  rw [impl_ActsText] at h
  refine enter (args := [(.slice A_a list0.length A_c)]) Tryz.func41 rfl Tryz.ntmps41 (by kernel_rfl) (L := []) (W := []) (Mem.start w) ?_
  refine jc_seq (jc_region (qh [0] (qe (jx_then (jc_seq (jc_seq (jc_meet (fun (j : Bool) => match j with | q_1 => impl_ActsText.k_2 list0 q_1 = some r) (fun (j : Bool) => match j with | q_1 => [(0, [], (.slice A_a list0.length A_c)), (2, [], (.string (ByteArray.mk #[]))), (14, [], (.bool q_1))]) (fun (j : Bool) => match j with | q_1 => []) ?_ ?_)))))))
  ·refine jc_region (qf [(0, 0), (0, 0), (0, 0), (0, 0), (0, 1)] (qp 11 h (fun h => ?_) (fun h => ?_)))
   ·exact qf [(0, 3), (0, 4)] (qe (qm true h []))
   ·obtain ⟨t_24, ht_2572, h⟩ := bd h
    refine tO (pc 2 (fun w hm => slices_ContainsFunc_Act_at_impl_ActsText_1.calls list0 w _ A_c (hm.xr A_h) rfl ht_2572) ?_)
    rintro w v w' hm ⟨rfl, hm'⟩
    refine ⟨_, hm.app hm', jkO ?_⟩
    clear hm hm'
    exact qf [(0, 5)] (qe (qm t_24 h []))
  ·rintro q_1 h
   replace h : impl_ActsText.k_2 list0 q_1 = some r := h
   rw [impl_ActsText.k_2] at h
   refine jx_then (qi h (fun h => ?_) (fun h => ?_))
   ·refine jc_seq (jc_region (qh [0] (qe (jx_then (jc_ret (jx_thenr ?_))))))
    obtain rfl := Option.some.inj h
    exact qr [] (fun w hm => ⟨rfl, hm.pk []⟩)
   ·refine jc_skip (jx_then (jc_seq (jc_region (qh [0] (tO (qa 0 (fun b_9 => jkO (tO (qs 0 [0] (jkO (qe (jx_then (jc_seq (jc_seq (jc_region (qh [0,0,0] (qe (jx_then (jc_meet (fun (j : (List Int) × Bool × (Option Nat) × Nat × (List Value) × Nat) => match j with | ⟨xs_3, bq_1926, o_1927, cap_1928, sp_1929, n_1930⟩ => impl_ActsText.k_4 xs_3 = some r ∧ (xs_3.length = n_1930) ∧ ((o_1927 ≠ none → n_1930 ≤ cap_1928 ∧ sp_1929.length = (cap_1928 - n_1930) * 1)) ∧ ((o_1927 = none → xs_3 = [] ∧ cap_1928 = 0)) ∧ (cap_1928 ≤ 9223372036854775807)) (fun (j : (List Int) × Bool × (Option Nat) × Nat × (List Value) × Nat) => match j with | ⟨xs_3, bq_1926, o_1927, cap_1928, sp_1929, n_1930⟩ => [(2, [], (.string (ByteArray.mk #[]))), (3, [], (.pointer (some ⟨b_9, 0, none⟩)))]) (fun (j : (List Int) × Bool × (Option Nat) × Nat × (List Value) × Nat) => match j with | ⟨xs_3, bq_1926, o_1927, cap_1928, sp_1929, n_1930⟩ => [⟨some b_9, 178, [(bp bq_1926 b_9), (.slice (o_1927.map fun b => ⟨b, 0, none⟩) n_1930 cap_1928)]⟩, ⟨o_1927, 5, row encU8 xs_3 sp_1929⟩]) ?_ ?_)))))))))))))))))))
    ·refine jc_block ?_
     obtain ⟨t_9, ht_2570, hr_2357⟩ := bd h
     refine jc_ghost 5 encU8 (jc_loop (fun (s : (List Int) × Int) (x : Bool × (Option Nat) × Nat × (List Value) × Nat) => match s, x with | ⟨xs_6, i_7⟩, ⟨bq_2349, o_2350, cap_2351, sp_2352, n_2353⟩ => (xs_6.length = n_2353) ∧ ((o_2350 ≠ none → n_2353 ≤ cap_2351 ∧ sp_2352.length = (cap_2351 - n_2353) * 1)) ∧ ((o_2350 = none → xs_6 = [] ∧ cap_2351 = 0)) ∧ (cap_2351 ≤ 9223372036854775807)) (fun (s : (List Int) × Int) (x : Bool × (Option Nat) × Nat × (List Value) × Nat) => match s, x with | ⟨xs_6, i_7⟩, ⟨bq_2349, o_2350, cap_2351, sp_2352, n_2353⟩ => [(2, [], (.string (ByteArray.mk #[]))), (3, [], (.pointer (some ⟨b_9, 0, none⟩))), (16, [], (.slice A_a list0.length A_c)), (17, [], (.int .i64 (list0.length : Int))), (18, [], (.int .i64 i_7))]) (fun (s : (List Int) × Int) (x : Bool × (Option Nat) × Nat × (List Value) × Nat) => match s, x with | ⟨xs_6, i_7⟩, ⟨bq_2349, o_2350, cap_2351, sp_2352, n_2353⟩ => [⟨some b_9, 178, [(bp bq_2349 b_9), (.slice (o_2350.map fun b => ⟨b, 0, none⟩) n_2353 cap_2351)]⟩, ⟨o_2350, 5, row encU8 xs_6 sp_2352⟩]) ht_2570 ⟨false, none, 0, [], 0⟩ ⟨rfl, (fun e => absurd rfl e), (fun _ => ⟨rfl, rfl⟩), (Nat.zero_le _)⟩ (by kernel_rfl) [0, 1] (by kernel_rfl) (by kernel_rfl) ?_)
     rintro ⟨xs_6, i_7⟩ ⟨bq_2349, o_2350, cap_2351, sp_2352, n_2353⟩ y_2358 ⟨rfl, hs_2354, ho_2355, hc_2356⟩ h
     rw [impl_ActsText.l_8] at h
     refine jc_seq (jc_region (qh [0] (qe (jx_then (jc_seq (qi h (fun h => ?_) (fun h => ?_)))))))
     ·refine jc_skip (jx_then (jc_seq (jc_block (jc_seq (jc_region ?_)))))
      obtain ⟨x_10, hx_2361, h⟩ := bd h
      refine tO (qx 0 A_a 5 hx_2361 rfl (A_h.sp hx_2361) (jkO (tO (ql 0 true (fun w hm => ((hm.xr A_h).at hx_2361)) (jkO (tO (qa 0 (fun b_2362 => jkO (tO (qs 0 [2] (jkO (qe (jx_then (jc_seq (qg [⟨some b_2362, 77, [(.int .i8 x_10.fKind), (.int .i64 x_10.fA), (.int .i64 x_10.fB), (.int .i64 x_10.fC), (.int .i64 x_10.fD)]⟩] 6 (qd [⟨1, 0, 0⟩,⟨2, 0, 0⟩] 4 [2] ?_))))))))))))))))
      obtain ⟨t_11, ht_2405, h⟩ := bd h
      refine tD 0 (pc 0 (fun w hm => impl_actWords.calls w _ ht_2405) ?_)
      rintro w v w' hm ⟨o_2406, cap_2407, sp_2408, _, rfl, hs_2409, ho_2410, rfl, hm'⟩
      refine ⟨_, hm.app hm', kD [2] ?_⟩
      clear hm hm'
      obtain ⟨x_12, hx_2411, h⟩ := bd h
      refine qv 3 0 [2] (fun w hm => idx_run (a := (o_2406.map fun b => ⟨b, 0, none⟩)) (len := t_11.length) (s := 1) (j := x_10.fKind) (by kernel_rfl) (ix_some hx_2411).1 (ltn hx_2411 rfl) (spo ho_2410 hx_2411)) (tD 4 (ql 0 false (fun w hm => ((hm.ow 3 o_2406 9 t_11 sp_2408 (fun e => (ho_2410 e).1) encStr_len).at hx_2411)) (kD [2] ?_)))
      obtain ⟨hg_2412, h⟩ := gd h
      refine tD 5 (pc 0 (fun w hm => bld116.calls g_lo.lo 0 1 b_9 bq_2349 o_2350 xs_6.length cap_2351 xs_6 sp_2352 (by kernel_rfl) (by kernel_rfl) rfl hs_2354 ho_2355 hc_2356 (by kernel_rfl) (by decide) x_12 hg_2412 w hm) ?_)
      rintro w v w' hm ⟨o_2413, cap_2414, sp_2415, hs_2416, ho_2417, hc_2418, rfl, hm'⟩
      refine ⟨_, Mem.pick hm' (N := [⟨some b_9, 178, [(bp true b_9), (.slice (o_2413.map fun b => ⟨b, 0, none⟩) ((xs_6 ++ bytesI x_12).length) cap_2414)]⟩, ⟨o_2413, 5, row encU8 (xs_6 ++ bytesI x_12) sp_2415⟩, ⟨some b_2362, 77, [(.int .i8 x_10.fKind), (.int .i64 x_10.fA), (.int .i64 x_10.fB), (.int .i64 x_10.fC), (.int .i64 x_10.fD)]⟩, ⟨o_2406, 9, row encStr t_11 sp_2408⟩]) [0, 1, 2, 3] (by kernel_rfl) (by kernel_rfl), kD [2] ?_⟩
      clear hm hm'
      refine qz (jx_then (jc_seq (jc_seq (qg [⟨some b_9, 178, [(bp true b_9), (.slice (o_2413.map fun b => ⟨b, 0, none⟩) ((xs_6 ++ bytesI x_12).length) cap_2414)]⟩, ⟨o_2413, 5, row encU8 (xs_6 ++ bytesI x_12) sp_2415⟩, ⟨some b_2362, 77, [(.int .i8 x_10.fKind), (.int .i64 x_10.fA), (.int .i64 x_10.fB), (.int .i64 x_10.fC), (.int .i64 x_10.fD)]⟩, ⟨o_2406, 9, row encStr t_11 sp_2408⟩] 10 (qd [⟨0, 2, 0⟩,⟨3, 0, 0⟩,⟨4, 2, 0⟩,⟨9, 0, 0⟩] 6 [0, 1, 2, 3] ?_)))))
      obtain ⟨t_13, ht_2433, h⟩ := bd h
      refine tD 1 (pc 0 (fun w hm => impl_Act_numbers.calls x_10 w _ ht_2433) ?_)
      rintro w v w' hm ⟨o_2434, cap_2435, sp_2436, _, rfl, hs_2437, ho_2438, rfl, hm'⟩
      refine ⟨_, hm.app hm', kD [0, 1, 2, 3] ?_⟩
      clear hm hm'
      obtain ⟨t_14, ht_2439, h⟩ := bd h
      refine tD 2 (pc 0 (fun w hm => impl_usedBy.calls w _ ht_2439) ?_)
      rintro w v w' hm ⟨o_2440, cap_2441, sp_2442, _, rfl, hs_2443, ho_2444, rfl, hm'⟩
      refine ⟨_, hm.app hm', kD [0, 1, 2, 3] ?_⟩
      clear hm hm'
      obtain ⟨x_15, hx_2445, h⟩ := bd h
      refine qv 5 0 [0, 1, 2, 3] (fun w hm => idx_run (a := (o_2440.map fun b => ⟨b, 0, none⟩)) (len := t_14.length) (s := 1) (j := x_10.fKind) (by kernel_rfl) (ix_some hx_2445).1 (ltn hx_2445 rfl) (spo ho_2444 hx_2445)) (tD 6 (ql 0 false (fun w hm => ((hm.ow 5 o_2440 3 t_14 sp_2442 (fun e => (ho_2444 e).1) encI64_len).at hx_2445)) (kD [0, 1, 2, 3] ?_)))
      obtain ⟨hg_2446, h⟩ := gd h
      refine qv 7 0 [0, 1, 2, 3] (fun w hm => slH_run (a := (o_2434.map fun b => ⟨b, 0, none⟩)) (len := t_13.length) (cap := cap_2435) (size := 1) (h := x_15) (by kernel_rfl) hg_2446.1 (Int.le_trans hg_2446.2 (Int.ofNat_le.2 (cap_le rfl hs_2437 ho_2438)))) (qd [⟨8, 0, 0⟩] 0 [0, 1, 2, 3] (qz (jx_then (jc_meet (fun (j : (List Int) × (Option Nat) × Nat × (List Value) × Nat) => match j with | ⟨xs_16, o_2501, cap_2502, sp_2503, n_2504⟩ => impl_ActsText.k_17 i_7 xs_16 = some y_2358 ∧ (xs_16.length = n_2504) ∧ ((o_2501 ≠ none → n_2504 ≤ cap_2502 ∧ sp_2503.length = (cap_2502 - n_2504) * 1)) ∧ ((o_2501 = none → xs_16 = [] ∧ cap_2502 = 0)) ∧ (cap_2502 ≤ 9223372036854775807)) (fun (j : (List Int) × (Option Nat) × Nat × (List Value) × Nat) => match j with | ⟨xs_16, o_2501, cap_2502, sp_2503, n_2504⟩ => [(2, [], (.string (ByteArray.mk #[]))), (3, [], (.pointer (some ⟨b_9, 0, none⟩))), (16, [], (.slice A_a list0.length A_c)), (17, [], (.int .i64 (list0.length : Int))), (18, [], (.int .i64 i_7))]) (fun (j : (List Int) × (Option Nat) × Nat × (List Value) × Nat) => match j with | ⟨xs_16, o_2501, cap_2502, sp_2503, n_2504⟩ => [⟨some b_9, 178, [(bp true b_9), (.slice (o_2501.map fun b => ⟨b, 0, none⟩) n_2504 cap_2502)]⟩, ⟨o_2501, 5, row encU8 xs_16 sp_2503⟩, ⟨some b_2362, 77, [(.int .i8 x_10.fKind), (.int .i64 x_10.fA), (.int .i64 x_10.fB), (.int .i64 x_10.fC), (.int .i64 x_10.fD)]⟩, ⟨o_2406, 9, row encStr t_11 sp_2408⟩, ⟨o_2434, 2, row encI64 t_13 sp_2436⟩, ⟨o_2440, 3, row encI64 t_14 sp_2442⟩]) ?_ ?_))))
      ·refine jc_block ?_
       obtain ⟨t_21, ht_2568, hr_2553⟩ := bd h
       refine jc_loop (fun (s : (List Int) × Int) (x : (Option Nat) × Nat × (List Value) × Nat) => match s, x with | ⟨xs_18, i_19⟩, ⟨o_2546, cap_2547, sp_2548, n_2549⟩ => (xs_18.length = n_2549) ∧ ((o_2546 ≠ none → n_2549 ≤ cap_2547 ∧ sp_2548.length = (cap_2547 - n_2549) * 1)) ∧ ((o_2546 = none → xs_18 = [] ∧ cap_2547 = 0)) ∧ (cap_2547 ≤ 9223372036854775807)) (fun (s : (List Int) × Int) (x : (Option Nat) × Nat × (List Value) × Nat) => match s, x with | ⟨xs_18, i_19⟩, ⟨o_2546, cap_2547, sp_2548, n_2549⟩ => [(2, [], (.string (ByteArray.mk #[]))), (3, [], (.pointer (some ⟨b_9, 0, none⟩))), (16, [], (.slice A_a list0.length A_c)), (17, [], (.int .i64 (list0.length : Int))), (18, [], (.int .i64 i_7)), (35, [], (.slice (o_2434.map fun b => ⟨b, 0, none⟩) x_15.toNat cap_2435)), (36, [], (.int .i64 (x_15.toNat : Int))), (37, [], (.int .i64 i_19))]) (fun (s : (List Int) × Int) (x : (Option Nat) × Nat × (List Value) × Nat) => match s, x with | ⟨xs_18, i_19⟩, ⟨o_2546, cap_2547, sp_2548, n_2549⟩ => [⟨some b_9, 178, [(bp true b_9), (.slice (o_2546.map fun b => ⟨b, 0, none⟩) n_2549 cap_2547)]⟩, ⟨o_2546, 5, row encU8 xs_18 sp_2548⟩, ⟨some b_2362, 77, [(.int .i8 x_10.fKind), (.int .i64 x_10.fA), (.int .i64 x_10.fB), (.int .i64 x_10.fC), (.int .i64 x_10.fD)]⟩, ⟨o_2406, 9, row encStr t_11 sp_2408⟩, ⟨o_2434, 2, row encI64 t_13 sp_2436⟩, ⟨o_2440, 3, row encI64 t_14 sp_2442⟩]) ht_2568 ⟨o_2413, cap_2414, sp_2415, (xs_6 ++ bytesI x_12).length⟩ ⟨rfl, hs_2416, ho_2417, hc_2418⟩ (by kernel_rfl) [0, 1, 2, 3, 4, 5] (by kernel_rfl) (by kernel_rfl) ?_
       rintro ⟨xs_18, i_19⟩ ⟨o_2546, cap_2547, sp_2548, n_2549⟩ y_2554 ⟨rfl, hs_2550, ho_2551, hc_2552⟩ h
       rw [impl_ActsText.l_20] at h
       refine jc_seq (jc_region (qh [0] (qe (jx_then (jc_seq (qi h (fun h => ?_) (fun h => ?_)))))))
       ·refine jc_skip (jx_then (jc_seq (jc_block (jc_seq (jc_region ?_)))))
        obtain ⟨x_22, hx_2557, h⟩ := bd h
        refine tO (qx 0 (o_2434.map fun b => ⟨b, 0, none⟩) 1 hx_2557 (hd_len hg_2446) (spo_hd (o := o_2434) ho_2438 hx_2557) (jkO (tO (ql 0 false (fun w hm => (((hm.ow 4 o_2434 2 t_13 sp_2436 (fun e => (ho_2438 e).1) encI64_len).hd x_15.toNat).at hx_2557)) (jkO (qh [0] (qe (jx_then (jc_region (qh [0] ?_))))))))))
        obtain ⟨t_23, ht_2558, h⟩ := bd h
        refine tO (pc 0 (fun w hm => impl_decimal.calls x_22 w _ (g_pw.keep hm) ht_2558) ?_)
        rintro w v w' hm ⟨rfl, hm'⟩
        refine ⟨_, hm.app hm', jkO ?_⟩
        clear hm hm'
        obtain ⟨hg_2559, h⟩ := gd h
        refine tO (p_v 0 (by kernel_rfl) _ (fun w hm => cat_run (a := (ByteArray.mk #[32])) (b := t_23) (by kernel_rfl) hg_2559) (jkO ?_))
        obtain ⟨hg_2560, h⟩ := gd h
        refine tO (pc 0 (fun w hm => bld116.calls g_lo.lo 0 1 b_9 true o_2546 xs_18.length cap_2547 xs_18 sp_2548 (by kernel_rfl) (by kernel_rfl) rfl hs_2550 ho_2551 hc_2552 (by kernel_rfl) (by decide) ((ByteArray.mk #[32]) ++ t_23) hg_2560 w hm) ?_)
        rintro w v w' hm ⟨o_2561, cap_2562, sp_2563, hs_2564, ho_2565, hc_2566, rfl, hm'⟩
        refine ⟨_, Mem.pick hm' (N := [⟨some b_9, 178, [(bp true b_9), (.slice (o_2561.map fun b => ⟨b, 0, none⟩) ((xs_18 ++ bytesI ((ByteArray.mk #[32]) ++ t_23)).length) cap_2562)]⟩, ⟨o_2561, 5, row encU8 (xs_18 ++ bytesI ((ByteArray.mk #[32]) ++ t_23)) sp_2563⟩, ⟨some b_2362, 77, [(.int .i8 x_10.fKind), (.int .i64 x_10.fA), (.int .i64 x_10.fB), (.int .i64 x_10.fC), (.int .i64 x_10.fD)]⟩, ⟨o_2406, 9, row encStr t_11 sp_2408⟩, ⟨o_2434, 2, row encI64 t_13 sp_2436⟩, ⟨o_2440, 3, row encI64 t_14 sp_2442⟩]) [0, 1, 2, 3, 4, 5] (by kernel_rfl) (by kernel_rfl), jkO ?_⟩
        clear hm hm'
        exact qe (jx_inn (jx_then (jc_region (qh [0,0] (qe (qb ((xs_18 ++ bytesI ((ByteArray.mk #[32]) ++ t_23)), (w64 (i_19 + 1))) ⟨o_2561, cap_2562, sp_2563, (xs_18 ++ bytesI ((ByteArray.mk #[32]) ++ t_23)).length⟩ h ⟨rfl, hs_2564, ho_2565, hc_2566⟩ [0, 1, 2, 3, 4, 5]))))))
       ·refine jc_exit (jx_thenx (jx_leave xs_18 (Option.some.inj h).symm (fun e_2567 => ?_)))
        subst e_2567
        exact jx_ine (qm ⟨xs_18, o_2546, cap_2547, sp_2548, xs_18.length⟩ ⟨hr_2553, rfl, hs_2550, ho_2551, hc_2552⟩ [0, 1, 2, 3, 4, 5])
      ·rintro ⟨xs_16, o_2501, cap_2502, sp_2503, n_2504⟩ ⟨h, rfl, hs_2505, ho_2506, hc_2507⟩
       replace h : impl_ActsText.k_17 i_7 xs_16 = some y_2358 := h
       rw [impl_ActsText.k_17] at h
       refine jx_then (jc_region ?_)
       obtain ⟨hg_2508, h⟩ := gd h
       refine tO (pc 0 (fun w hm => bld116.calls g_lo.lo 0 1 b_9 true o_2501 xs_16.length cap_2502 xs_16 sp_2503 (by kernel_rfl) (by kernel_rfl) rfl hs_2505 ho_2506 hc_2507 (by kernel_rfl) (by decide) (ByteArray.mk #[10]) hg_2508 w hm) ?_)
       rintro w v w' hm ⟨o_2509, cap_2510, sp_2511, hs_2512, ho_2513, hc_2514, rfl, hm'⟩
       refine ⟨_, Mem.pick hm' (N := [⟨some b_9, 178, [(bp true b_9), (.slice (o_2509.map fun b => ⟨b, 0, none⟩) ((xs_16 ++ bytesI (ByteArray.mk #[10])).length) cap_2510)]⟩, ⟨o_2509, 5, row encU8 (xs_16 ++ bytesI (ByteArray.mk #[10])) sp_2511⟩, ⟨some b_2362, 77, [(.int .i8 x_10.fKind), (.int .i64 x_10.fA), (.int .i64 x_10.fB), (.int .i64 x_10.fC), (.int .i64 x_10.fD)]⟩, ⟨o_2406, 9, row encStr t_11 sp_2408⟩, ⟨o_2434, 2, row encI64 t_13 sp_2436⟩, ⟨o_2440, 3, row encI64 t_14 sp_2442⟩]) [0, 1, 2, 3, 4, 5] (by kernel_rfl) (by kernel_rfl), jkO ?_⟩
       clear hm hm'
       exact qe (jx_inn (jx_then (jc_region (qh [0,0] (qe (qb ((xs_16 ++ bytesI (ByteArray.mk #[10])), (w64 (i_7 + 1))) ⟨true, o_2509, cap_2510, sp_2511, (xs_16 ++ bytesI (ByteArray.mk #[10])).length⟩ h ⟨rfl, hs_2512, ho_2513, hc_2514⟩ [0, 1]))))))
     ·refine jc_exit (jx_thenx (jx_leave xs_6 (Option.some.inj h).symm (fun e_2569 => ?_)))
      subst e_2569
      exact jx_ine (qm ⟨xs_6, bq_2349, o_2350, cap_2351, sp_2352, xs_6.length⟩ ⟨hr_2357, rfl, hs_2354, ho_2355, hc_2356⟩ [0, 1])
    ·rintro ⟨xs_3, bq_1926, o_1927, cap_1928, sp_1929, n_1930⟩ ⟨h, rfl, hs_1931, ho_1932, hc_1933⟩
     replace h : impl_ActsText.k_4 xs_3 = some r := h
     rw [impl_ActsText.k_4] at h
     refine jx_then (jc_seq (jc_region ?_))
     obtain ⟨t_5, ht_1934, h⟩ := bd h
     refine tO (pc 0 (fun w hm => bld118.calls g_lo.lo 0 1 b_9 bq_1926 o_1927 xs_3.length cap_1928 xs_3 sp_1929 (by kernel_rfl) (by kernel_rfl) rfl hs_1931 ho_1932 hc_1933 (by kernel_rfl) (by decide) _ ht_1934 w hm) ?_)
     rintro w v w' hm ⟨rfl, hm'⟩
     refine ⟨_, Mem.pick hm' (N := [⟨none, 0, []⟩, ⟨none, 0, []⟩]) [0, 1] (by kernel_rfl) (by kernel_rfl), jkO ?_⟩
     clear hm hm'
     refine qh [0] (qe (jx_then (jc_ret ?_)))
     obtain rfl := Option.some.inj h
     exact qr [] (fun w hm => ⟨rfl, hm.pk []⟩)
/-! ### impl.ReadActs -/
def impl_ReadActs.k_12 (xs_1 : List GAct) (i_6 : Int) (a_11 : Arr 4 Int) : Option (((List GAct)) ⊕ (((List GAct) × Int))) := (ix a_11.1 0).bind fun x_13 => (ix a_11.1 1).bind fun x_14 => (ix a_11.1 2).bind fun x_15 => (ix a_11.1 3).bind fun x_16 => (if xs_1.length + ([(⟨(w8 i_6), x_13, x_14, x_15, x_16⟩ : GAct)] : List GAct).length ≤ 4294967296 then some (.inl (xs_1 ++ ([(⟨(w8 i_6), x_13, x_14, x_15, x_16⟩ : GAct)] : List GAct))) else none)
def impl_ReadActs.l_19 (t_5 : (List ByteArray)) : ((Arr 4 Int) × Int) → Option (((Arr 4 Int) × Int) ⊕ (((List GAct) × Int) ⊕ (Arr 4 Int)))
  | (a_17, i_18) => (if (decide (i_18 < (((t_5.length - (1 : Int).toNat) : Nat) : Int))) = true then (ix (t_5.drop (1 : Int).toNat) i_18).bind fun x_21 => (impl_number x_21 1000000).bind fun t_22 => (if (!t_22.2) = true then some (.inr (.inl ([], 5))) else (ix a_17.1 i_18).bind fun x_23 => some (.inl ((Arr.set a_17 i_18 t_22.1), (w64 (i_18 + 1))))) else some (.inr (.inr a_17)))
def impl_ReadActs.k_10 (xs_1 : List GAct) (t_5 : (List ByteArray)) (i_6 : Int) (a_7 : Arr 4 Int) (q_9 : Bool) : Option (((List GAct)) ⊕ (((List GAct) × Int))) := (if q_9 = true then some (.inr ([], 5)) else (if 0 ≤ (1 : Int) ∧ (1 : Int) ≤ (t_5.length : Int) then (loop (impl_ReadActs.l_19 t_5) (a_7, 0)).bind fun t_20 => match t_20 with | .inl p => some (.inr p) | .inr p => impl_ReadActs.k_12 xs_1 i_6 p else none))
def impl_ReadActs.k_8 (xs_1 : List GAct) (t_5 : (List ByteArray)) (i_6 : Int) (a_7 : Arr 4 Int) : Option (((List GAct)) ⊕ (((List GAct) × Int))) := (if (decide (i_6 < 0)) = true then impl_ReadActs.k_10 xs_1 t_5 i_6 a_7 true else (impl_usedBy).bind fun t_24 => (ix t_24 i_6).bind fun x_25 => impl_ReadActs.k_10 xs_1 t_5 i_6 a_7 (((t_5.length : Int) != (w64 (x_25 + 1))) || ((xs_1.length : Int) == 60)))
def impl_ReadActs.l_2 (y_3619 : ByteArray) : (List GAct) → Option (((List GAct)) ⊕ (((List GAct) × Int)))
  | xs_1 => (strings_TrimSuffix y_3619 (ByteArray.mk #[10])).bind fun t_4 => (strings_Split t_4 (ByteArray.mk #[32])).bind fun t_5 => (ix t_5 0).bind fun x_26 => (impl_actWords).bind fun t_27 => (slices_Index_string t_27 x_26).bind fun t_28 => impl_ReadActs.k_8 xs_1 t_5 t_28 (Arr.rep 4 0)
def impl_ReadActs.k_29 (text0 : ByteArray) (xs_1 : List GAct) : Option ((List GAct) × Int) := (impl_ActsText xs_1).bind fun t_30 => (if (!(t_30.toList == text0.toList)) = true then some ([], 5) else some (xs_1, 0))
def impl_ReadActs (text0 : ByteArray) : Option ((List GAct) × Int) := (if text0.size ≤ 4294967296 then (seqO impl_ReadActs.l_2 (linesL text0) ([] : List GAct)).bind fun t_3 => match t_3 with | .inl p => impl_ReadActs.k_29 text0 p | .inr p => some p else none)
set_option maxHeartbeats 8000000 in
theorem impl_ReadActs.calls (text0 : ByteArray) (w : World) (r : (List GAct) × Int) (g_er : Gler w) (g_lo : Gllo w) (g_ml : Glml w) (g_pw : Glpw w) (h : impl_ReadActs text0 = some r) :
    Calls Tryz.prog 40 #[(.string text0)] w fun e w' => ∃ v, e = .returned v ∧ (∃ (o0 : Option Nat) (c0 : Nat) (s0 : List Value) (n0 : Nat), r.1.length = n0 ∧ (o0 ≠ none → n0 ≤ c0 ∧ s0.length = (c0 - n0) * 5) ∧ (o0 = none → r.1 = [] ∧ c0 = 0) ∧ v = .tuple #[.slice (o0.map fun b => ⟨b, 0, none⟩) n0 c0, (.int .i64 r.2)] ∧ Mem w [] [⟨o0, 77, row encGAct r.1 s0⟩] w') := by
  rw [impl_ReadActs] at h
  refine enterM (args := [(.string text0)]) Tryz.func40 rfl Tryz.ntmps40 (by kernel_rfl) (L := []) (W := []) (Mem.start w) ?_
  refine jc_seq (jc_region (tO (qa 0 (fun b_1 => jkO (tO (qa 0 (fun b_2 => jkO (qe (jx_then (jc_seq (jc_region (tO (qa 0 (fun b_3 => jkO (tO (qa 0 (fun b_4 => jkO (tO (qs 0 [3] (jkO (qe (jx_then (jc_seq (jc_seq (jc_region (qh [0] (tO (pc 0 (fun w hm => lines183.calls text0 w) ?_))))))))))))))))))))))))))))
  rintro w v w' hm ⟨b_2414, rfl, hm'⟩
  refine ⟨_, hm.app (N := [⟨some b_2414, 9, [(.string text0)]⟩]) hm', jkO ?_⟩
  clear hm hm'
  refine qe (jx_then (jc_block ?_))
  obtain ⟨hl_4826, h⟩ := ifS h
  obtain ⟨t_3, ht_4825, hr_4420⟩ := bd h
  refine jc_env [(0, [], (.string text0)), (2, [], (.pointer (some ⟨b_1, 0, none⟩))), (3, [], (.pointer (some ⟨b_2, 0, none⟩))), (4, [], (.pointer (some ⟨b_4, 0, none⟩))), (15, [], (.func (.func 183) #[] #[(.pointer (some ⟨b_2414, 0, none⟩))]))] (by kernel_rfl) (jc_range encL (fun (s : (List GAct)) (x : (Option Nat) × Nat × (List Value) × Nat) => match s, x with | xs_1, ⟨o_4414, cap_4415, sp_4416, n_4417⟩ => (xs_1.length = n_4417) ∧ ((o_4414 ≠ none → n_4417 ≤ cap_4415 ∧ sp_4416.length = (cap_4415 - n_4417) * 5)) ∧ ((o_4414 = none → xs_1 = [] ∧ cap_4415 = 0))) (fun (k_ : Nat) (s : (List GAct)) (x : (Option Nat) × Nat × (List Value) × Nat) => match s, x with | xs_1, ⟨o_4414, cap_4415, sp_4416, n_4417⟩ => [⟨some b_1, 67, [(.slice none 0 0)]⟩, ⟨some b_2, 2, [(.int .i64 0)]⟩, ⟨o_4414, 77, row encGAct xs_1 sp_4416⟩, ⟨some b_4, 67, [(.slice (o_4414.map fun b => ⟨b, 0, none⟩) n_4417 cap_4415)]⟩, ⟨some b_2414, 9, [(.string (lnRest text0 k_))]⟩]) (fun (y_3619 : ByteArray) => [(0, [], (.string text0)), (2, [], (.pointer (some ⟨b_1, 0, none⟩))), (3, [], (.pointer (some ⟨b_2, 0, none⟩))), (4, [], (.pointer (some ⟨b_4, 0, none⟩))), (5, [], (.string y_3619)), (15, [], (.func (.func 183) #[] #[(.pointer (some ⟨b_2414, 0, none⟩))])), (16, [], (.string y_3619))]) (linesH b_2414 9 text0) (linesSt b_2414 9 text0) ht_4825 ⟨(some b_3), 0, [], 0⟩ ⟨rfl, (fun _ => ⟨Nat.le_refl _, by simp⟩), (fun e => nomatch e)⟩ (by kernel_rfl) (enters_of Tryz.func183 (by kernel_rfl) rfl) (lines183.iter b_2414 text0 hl_4826) (fun _ => rfl) (fun _ => by kernel_rfl) [0, 1, 2, 3, 4] (by kernel_rfl) (by kernel_rfl) ?_ ?_ ?_ ?_ ?_)
  ·rintro k_ xs_1 ⟨o_4414, cap_4415, sp_4416, n_4417⟩ _ _ w b o _ hm hne
   exact lines_Hk hm hne 4 rfl
  ·rintro k_ xs_1 ⟨o_4414, cap_4415, sp_4416, n_4417⟩ _ _ w w2 b o o2 _ _ hm ho hb hW hst
   exact lines_Stk 4 rfl rfl hm ho hb hW hst
  ·rintro w1_ W1_ y_3619 _ xs_1 ⟨o_4414, cap_4415, sp_4416, n_4417⟩ Q_ hno_ hq_
   exact jr_region (by kernel_rfl) (qh [0] (qe (jx_to [(0, [], (.string text0)), (2, [], (.pointer (some ⟨b_1, 0, none⟩))), (3, [], (.pointer (some ⟨b_2, 0, none⟩))), (4, [], (.pointer (some ⟨b_4, 0, none⟩))), (5, [], (.string y_3619)), (15, [], (.func (.func 183) #[] #[(.pointer (some ⟨b_2414, 0, none⟩))])), (16, [], (.string y_3619))] [0, 1, 2, 3, 4] (by kernel_rfl) (by kernel_rfl) (by kernel_rfl) hq_)))
  ·rintro w1_ W1_ k_ xs_1 ⟨o_4414, cap_4415, sp_4416, n_4417⟩ y_3619 o_4421 hK_ ⟨rfl, hs_4418, ho_4419⟩ _ h
   rw [impl_ReadActs.l_2] at h
   refine jr_block (jr_seq (jr_region (by kernel_rfl) (qh [0] ?_)))
   obtain ⟨t_4, ht_4619, h⟩ := bd h
   refine tO (pc 0 (fun w hm => strings_TrimSuffix.calls y_3619 (ByteArray.mk #[10]) w _ ht_4619) ?_)
   rintro w v w' hm ⟨rfl, hm'⟩
   refine ⟨_, hm.app hm', jkO ?_⟩
   clear hm hm'
   obtain ⟨t_5, ht_4620, h⟩ := bd h
   refine tO (pc 0 (fun w hm => strings_Split.calls t_4 (ByteArray.mk #[32]) w _ (g_ml.keepB (hK_ rfl _ _ hm)) ht_4620) ?_)
   rintro w v w' hm ⟨o_4621, cap_4622, sp_4623, _, rfl, hs_4624, ho_4625, rfl, hm'⟩
   refine ⟨_, hm.app hm', jkO ?_⟩
   clear hm hm'
   refine qh [0] (qe (jr_then (jr_seq (jr_meet (fun (j : Int × (Arr 4 Int) × Nat) => match j with | ⟨i_6, a_7, b_4645⟩ => impl_ReadActs.k_8 xs_1 t_5 i_6 a_7 = some o_4421) (fun (j : Int × (Arr 4 Int) × Nat) => match j with | ⟨i_6, a_7, b_4645⟩ => [(0, [], (.string text0)), (2, [], (.pointer (some ⟨b_1, 0, none⟩))), (3, [], (.pointer (some ⟨b_2, 0, none⟩))), (4, [], (.pointer (some ⟨b_4, 0, none⟩))), (5, [], (.string y_3619)), (6, [], (.slice (o_4621.map fun b => ⟨b, 0, none⟩) t_5.length cap_4622)), (7, [], (.int .i64 i_6)), (8, [], (.pointer (some ⟨b_4645, 0, none⟩)))]) (fun (j : Int × (Arr 4 Int) × Nat) => match j with | ⟨i_6, a_7, b_4645⟩ => [⟨some b_1, 67, [(.slice none 0 0)]⟩, ⟨some b_2, 2, [(.int .i64 0)]⟩, ⟨o_4414, 77, row encGAct xs_1 sp_4416⟩, ⟨some b_4, 67, [(.slice (o_4414.map fun b => ⟨b, 0, none⟩) xs_1.length cap_4415)]⟩, ⟨some b_2414, 9, [(.string (lnRest text0 (k_ + 1)))]⟩, ⟨o_4621, 9, row encStr t_5 sp_4623⟩, ⟨(some b_4645), 169, row encI64 a_7.1 []⟩]) ?_ ?_))))
   ·refine jr_draw (by kernel_rfl) [⟨some b_1, 67, [(.slice none 0 0)]⟩, ⟨some b_2, 2, [(.int .i64 0)]⟩, ⟨o_4414, 77, row encGAct xs_1 sp_4416⟩, ⟨some b_4, 67, [(.slice (o_4414.map fun b => ⟨b, 0, none⟩) xs_1.length cap_4415)]⟩, ⟨some b_2414, 9, [(.string (lnRest text0 (k_ + 1)))]⟩, ⟨o_4621, 9, row encStr t_5 sp_4623⟩] 9 (by kernel_rfl) (by kernel_rfl) (qd [⟨1, 0, 0⟩,⟨5, 0, 0⟩] 7 [0, 1, 2, 3, 4, 5] ?_)
    obtain ⟨x_26, hx_4801, h⟩ := bd h
    refine qv 2 0 [0, 1, 2, 3, 4, 5] (fun w hm => idx_run (a := (o_4621.map fun b => ⟨b, 0, none⟩)) (len := t_5.length) (s := 1) (j := 0) (by kernel_rfl) (ix_some hx_4801).1 (ltn hx_4801 rfl) (spo ho_4625 hx_4801)) (qv 3 0 [0, 1, 2, 3, 4, 5] (fun w hm => ld_run (b := aB (o_4621.map fun b => ⟨b, 0, none⟩)) (off := (aO (o_4621.map fun b => ⟨b, 0, none⟩) + (0 : Int).toNat * 1)) (s := 1) (agg := false) (vs := (encStr x_26)) (by kernel_rfl) (by kernel_rfl) (.inr rfl) ((hm.ow 5 o_4621 9 t_5 sp_4623 (fun e => (ho_4625 e).1) encStr_len).at hx_4801)) (toD2 0 6 (by kernel_rfl) ?_ ?_))
    ·obtain ⟨t_27, ht_4802, h⟩ := bd h
     refine pc 0 (fun w hm => impl_actWords.calls w _ ht_4802) ?_
     rintro w v w' hm ⟨o_4803, cap_4804, sp_4805, _, rfl, hs_4806, ho_4807, rfl, hm'⟩
     refine ⟨_, hm.app hm', kD [0, 1, 2, 3, 4, 5] ?_⟩
     clear hm hm'
     refine toD2 4 6 (by kernel_rfl) ?_ ?_
     ·obtain ⟨t_28, ht_4808, h⟩ := bd h
      refine pc 0 (fun w hm => slices_Index_string.calls t_27 x_26 w _ cap_4804 (hm.ow 6 o_4803 9 t_27 sp_4805 (fun e => (ho_4807 e).1) encStr_len) rfl ht_4808) ?_
      rintro w v w' hm ⟨rfl, hm'⟩
      refine ⟨_, hm.app hm', kD [0, 1, 2, 3, 4, 5] ?_⟩
      clear hm hm'
      exact tD 6 (qa 0 (fun b_4809 => kD [0, 1, 2, 3, 4, 5] (qd [⟨7, 0, 0⟩] 1 [0, 1, 2, 3, 4, 5] (tD 8 (p_sA 0 7 b_4809 4 1 169 encI64 (Arr.rep 4 0) (Arr.rep 4 0) (by kernel_rfl) (by kernel_rfl) (by kernel_rfl) encI64_len encI64_cell (by kernel_rfl) (kD [0, 1, 2, 3, 4, 5] (qz (qm ⟨t_28, (Arr.rep 4 0), b_4809⟩ h [0, 1, 2, 3, 4, 5, 7]))))))))
     ·refine qa 0 (fun b_4810 => kD [0, 1, 2, 3, 4, 5] ?_)
      obtain ⟨t_28, ht_4811, h⟩ := bd h
      refine tD 4 (pc 0 (fun w hm => slices_Index_string.calls t_27 x_26 w _ cap_4804 (hm.ow 6 o_4803 9 t_27 sp_4805 (fun e => (ho_4807 e).1) encStr_len) rfl ht_4811) ?_)
      rintro w v w' hm ⟨rfl, hm'⟩
      refine ⟨_, hm.app hm', kD [0, 1, 2, 3, 4, 5] ?_⟩
      clear hm hm'
      exact qd [⟨7, 0, 0⟩] 1 [0, 1, 2, 3, 4, 5] (tD 8 (p_sA 0 7 b_4810 4 1 169 encI64 (Arr.rep 4 0) (Arr.rep 4 0) (by kernel_rfl) (by kernel_rfl) (by kernel_rfl) encI64_len encI64_cell (by kernel_rfl) (kD [0, 1, 2, 3, 4, 5] (qz (qm ⟨t_28, (Arr.rep 4 0), b_4810⟩ h [0, 1, 2, 3, 4, 5, 7])))))
    ·refine qa 0 (fun b_4812 => kD [0, 1, 2, 3, 4, 5] ?_)
     obtain ⟨t_27, ht_4813, h⟩ := bd h
     refine tD 0 (pc 0 (fun w hm => impl_actWords.calls w _ ht_4813) ?_)
     rintro w v w' hm ⟨o_4814, cap_4815, sp_4816, _, rfl, hs_4817, ho_4818, rfl, hm'⟩
     refine ⟨_, hm.app hm', kD [0, 1, 2, 3, 4, 5] ?_⟩
     clear hm hm'
     obtain ⟨t_28, ht_4819, h⟩ := bd h
     refine tD 4 (pc 0 (fun w hm => slices_Index_string.calls t_27 x_26 w _ cap_4815 (hm.ow 7 o_4814 9 t_27 sp_4816 (fun e => (ho_4818 e).1) encStr_len) rfl ht_4819) ?_)
     rintro w v w' hm ⟨rfl, hm'⟩
     refine ⟨_, hm.app hm', kD [0, 1, 2, 3, 4, 5] ?_⟩
     clear hm hm'
     exact qd [⟨7, 0, 0⟩] 1 [0, 1, 2, 3, 4, 5] (tD 8 (p_sA 0 6 b_4812 4 1 169 encI64 (Arr.rep 4 0) (Arr.rep 4 0) (by kernel_rfl) (by kernel_rfl) (by kernel_rfl) encI64_len encI64_cell (by kernel_rfl) (kD [0, 1, 2, 3, 4, 5] (qz (qm ⟨t_28, (Arr.rep 4 0), b_4812⟩ h [0, 1, 2, 3, 4, 5, 6])))))
   ·rintro ⟨i_6, a_7, b_4645⟩ h
    replace h : impl_ReadActs.k_8 xs_1 t_5 i_6 a_7 = some o_4421 := h
    rw [impl_ReadActs.k_8] at h
    refine jr_then (jr_seq (jr_seq (jr_meet (fun (j : Bool) => match j with | q_9 => impl_ReadActs.k_10 xs_1 t_5 i_6 a_7 q_9 = some o_4421) (fun (j : Bool) => match j with | q_9 => [(0, [], (.string text0)), (2, [], (.pointer (some ⟨b_1, 0, none⟩))), (3, [], (.pointer (some ⟨b_2, 0, none⟩))), (4, [], (.pointer (some ⟨b_4, 0, none⟩))), (5, [], (.string y_3619)), (6, [], (.slice (o_4621.map fun b => ⟨b, 0, none⟩) t_5.length cap_4622)), (7, [], (.int .i64 i_6)), (8, [], (.pointer (some ⟨b_4645, 0, none⟩))), (42, [], (.bool q_9))]) (fun (j : Bool) => match j with | q_9 => [⟨some b_1, 67, [(.slice none 0 0)]⟩, ⟨some b_2, 2, [(.int .i64 0)]⟩, ⟨o_4414, 77, row encGAct xs_1 sp_4416⟩, ⟨some b_4, 67, [(.slice (o_4414.map fun b => ⟨b, 0, none⟩) xs_1.length cap_4415)]⟩, ⟨some b_2414, 9, [(.string (lnRest text0 (k_ + 1)))]⟩, ⟨o_4621, 9, row encStr t_5 sp_4623⟩, ⟨(some b_4645), 169, row encI64 a_7.1 []⟩]) ?_ ?_)))
    ·refine jr_region (by kernel_rfl) (qf [(0, 0), (0, 0), (0, 0), (0, 1), (0, 1)] (qp 28 h (fun h => ?_) (fun h => ?_)))
     ·exact qf [(0, 3), (0, 3), (0, 3), (0, 3), (0, 3), (0, 3), (0, 4), (0, 0), (0, 3), (0, 3), (0, 3), (0, 4)] (qe (qm true h [0, 1, 2, 3, 4, 5, 6]))
     ·obtain ⟨t_24, ht_4794, h⟩ := bd h
      refine tO (pc 2 (fun w hm => impl_usedBy.calls w _ ht_4794) ?_)
      rintro w v w' hm ⟨o_4795, cap_4796, sp_4797, _, rfl, hs_4798, ho_4799, rfl, hm'⟩
      refine ⟨_, hm.app hm', jkO ?_⟩
      clear hm hm'
      refine qf [(0, 2)] ?_
      obtain ⟨x_25, hx_4800, h⟩ := bd h
      exact tO (qx 2 (o_4795.map fun b => ⟨b, 0, none⟩) 1 hx_4800 rfl (spo ho_4799 hx_4800) (jkO (tO (ql 2 false (fun w hm => ((hm.ow 7 o_4795 3 t_24 sp_4797 (fun e => (ho_4799 e).1) encI64_len).at hx_4800)) (jkO (qf [(0, 2), (0, 2), (0, 5), (0, 0), (3, 1), (0, 1), (0, 1), (0, 0)] (qe (qm (((t_5.length : Int) != (w64 (x_25 + 1))) || ((xs_1.length : Int) == 60)) h [0, 1, 2, 3, 4, 5, 6]))))))))
    ·rintro q_9 h
     replace h : impl_ReadActs.k_10 xs_1 t_5 i_6 a_7 q_9 = some o_4421 := h
     rw [impl_ReadActs.k_10] at h
     refine jr_then (jr_cond q_9 (by kernel_rfl) (fun hc_4671 => ?_) (fun hc_4671 => ?_))
     ·replace h := ifT hc_4671 h
      refine jr_seq (jr_region (by kernel_rfl) (tO (qs 0 [0] (jkO (tO (qs 0 [1] (jkO (qe (jr_then (jr_ret (jx_thenr (jx_inr (jr_leaver ([], 5) (Option.some.inj h).symm (fun e_4673 df_ w2_ W2_ htl_4672 => ?_))))))))))))))
      subst e_4673
      replace hr_4420 := hr_4420
      refine jx_inr (jx_thenr ?_)
      obtain rfl := Option.some.inj hr_4420
      exact jx_ghost 77 encGAct (jx_retM htl_4672 [0, 1] (.tuple #[(.slice none 0 0), (.int .i64 5)]) [(b_1, b_1), (b_2, b_2)] rfl (by kernel_rfl) (by kernel_rfl) (fun w hm => ⟨none, 0, [], 0, rfl, (fun e => absurd rfl e), (fun _ => ⟨rfl, rfl⟩), rfl, hm.pk [7]⟩))
     ·replace h := ifF hc_4671 h
      refine jr_skip (jr_then (jr_seq (jr_seq (jr_region (by kernel_rfl) (qh [0] ?_)))))
      obtain ⟨hg_4727, h⟩ := gd h
      refine tO (p_slL 0 (o_4621.map fun b => ⟨b, 0, none⟩) t_5.length cap_4622 1 1 (by kernel_rfl) (by kernel_rfl) hg_4727.1 (Int.le_trans hg_4727.2 (Int.ofNat_le.2 (Nat.le_of_eq rfl))) (jkO (qh [0,0] (qe (jr_then (jr_meet (fun (j : (Arr 4 Int)) => match j with | a_11 => impl_ReadActs.k_12 xs_1 i_6 a_11 = some o_4421) (fun (j : (Arr 4 Int)) => match j with | a_11 => [(0, [], (.string text0)), (2, [], (.pointer (some ⟨b_1, 0, none⟩))), (3, [], (.pointer (some ⟨b_2, 0, none⟩))), (4, [], (.pointer (some ⟨b_4, 0, none⟩))), (5, [], (.string y_3619)), (7, [], (.int .i64 i_6)), (8, [], (.pointer (some ⟨b_4645, 0, none⟩)))]) (fun (j : (Arr 4 Int)) => match j with | a_11 => [⟨some b_1, 67, [(.slice none 0 0)]⟩, ⟨some b_2, 2, [(.int .i64 0)]⟩, ⟨o_4414, 77, row encGAct xs_1 sp_4416⟩, ⟨some b_4, 67, [(.slice (o_4414.map fun b => ⟨b, 0, none⟩) xs_1.length cap_4415)]⟩, ⟨some b_2414, 9, [(.string (lnRest text0 (k_ + 1)))]⟩, ⟨o_4621, 9, row encStr t_5 sp_4623⟩, ⟨(some b_4645), 169, row encI64 a_11.1 []⟩]) ?_ ?_))))))
      ·refine jr_block ?_
       obtain ⟨t_20, ht_4792, hr_4779⟩ := bd h
       refine jr_loop (fun (s : (Arr 4 Int) × Int) (x : Unit) => match s, x with | ⟨a_17, i_18⟩, _ => True) (fun (s : (Arr 4 Int) × Int) (x : Unit) => match s, x with | ⟨a_17, i_18⟩, _ => [(0, [], (.string text0)), (2, [], (.pointer (some ⟨b_1, 0, none⟩))), (3, [], (.pointer (some ⟨b_2, 0, none⟩))), (4, [], (.pointer (some ⟨b_4, 0, none⟩))), (5, [], (.string y_3619)), (7, [], (.int .i64 i_6)), (8, [], (.pointer (some ⟨b_4645, 0, none⟩))), (44, [], (.slice (pa (o_4621.map fun b => ⟨b, 0, none⟩) (1 : Int).toNat cap_4622 1) (t_5.length - (1 : Int).toNat) (cap_4622 - (1 : Int).toNat))), (45, [], (.int .i64 (((t_5.length - (1 : Int).toNat) : Nat) : Int))), (46, [], (.int .i64 i_18))]) (fun (s : (Arr 4 Int) × Int) (x : Unit) => match s, x with | ⟨a_17, i_18⟩, _ => [⟨some b_1, 67, [(.slice none 0 0)]⟩, ⟨some b_2, 2, [(.int .i64 0)]⟩, ⟨o_4414, 77, row encGAct xs_1 sp_4416⟩, ⟨some b_4, 67, [(.slice (o_4414.map fun b => ⟨b, 0, none⟩) xs_1.length cap_4415)]⟩, ⟨some b_2414, 9, [(.string (lnRest text0 (k_ + 1)))]⟩, ⟨o_4621, 9, row encStr t_5 sp_4623⟩, ⟨(some b_4645), 169, row encI64 a_17.1 []⟩]) ht_4792 () trivial (by kernel_rfl) [0, 1, 2, 3, 4, 5, 6] (by kernel_rfl) (by kernel_rfl) ?_
       rintro ⟨a_17, i_18⟩ _ y_4780 _ h
       rw [impl_ReadActs.l_19] at h
       refine jr_seq (jr_region (by kernel_rfl) (qh [0] (qe (jr_then (jr_seq (jr_cond (decide (i_18 < (((t_5.length - (1 : Int).toNat) : Nat) : Int))) (by kernel_rfl) (fun hc_4782 => ?_) (fun hc_4782 => ?_)))))))
       ·replace h := ifT hc_4782 h
        refine jr_skip (jr_then (jr_seq (jr_block (jr_seq (jr_region (by kernel_rfl) (qh [0] ?_))))))
        obtain ⟨x_21, hx_4783, h⟩ := bd h
        refine tO (qx 0 (pa (o_4621.map fun b => ⟨b, 0, none⟩) (1 : Int).toNat cap_4622 1) 1 hx_4783 (tl_len rfl 1) (spo_tl (o := o_4621) (m := 1) ho_4625 hx_4783) (jkO (tO (ql 0 false (fun w hm => (((hm.ow 5 o_4621 9 t_5 sp_4623 (fun e => (ho_4625 e).1) encStr_len).tl ((1 : Int).toNat) cap_4622 (cap_le rfl hs_4624 ho_4625)).at hx_4783)) (jkO (qh [0,0] (qe (jr_then (jr_seq (jr_region (by kernel_rfl) (qh [0] ?_)))))))))))
        obtain ⟨t_22, ht_4784, h⟩ := bd h
        refine tO (pc 0 (fun w hm => impl_number.calls x_21 1000000 w _ (g_er.keepB (hK_ rfl _ _ hm)) (g_lo.keepB (hK_ rfl _ _ hm)) (g_pw.keepB (hK_ rfl _ _ hm)) ht_4784) ?_)
        rintro w v w' hm ⟨rfl, hm'⟩
        refine ⟨_, hm.app hm', jkO ?_⟩
        clear hm hm'
        refine qh [0,0,0,0,0] (qe (jr_then (jr_seq (jr_seq (jr_region (by kernel_rfl) (qh [0,0] (qe (jr_then (jr_cond (!t_22.2) (by kernel_rfl) (fun hc_4786 => ?_) (fun hc_4786 => ?_))))))))))
        ·replace h := ifT hc_4786 h
         refine jr_seq (jr_region (by kernel_rfl) (tO (qs 0 [0] (jkO (tO (qs 0 [1] (jkO (qe (jr_then (jr_ret (jx_thenr (jx_inr (jx_thenr (jx_leaver (.inl ([], 5)) (Option.some.inj h).symm (fun e_4789 => ?_)))))))))))))))
         subst e_4789
         refine jx_inr (jx_thenr (jx_thenr (jx_inr (jr_leaver ([], 5) (Option.some.inj hr_4779).symm (fun e_4788 df_ w2_ W2_ htl_4787 => ?_)))))
         subst e_4788
         replace hr_4420 := hr_4420
         refine jx_inr (jx_thenr ?_)
         obtain rfl := Option.some.inj hr_4420
         exact jx_ghost 77 encGAct (jx_retM htl_4787 [0, 1] (.tuple #[(.slice none 0 0), (.int .i64 5)]) [(b_1, b_1), (b_2, b_2)] rfl (by kernel_rfl) (by kernel_rfl) (fun w hm => ⟨none, 0, [], 0, rfl, (fun e => absurd rfl e), (fun _ => ⟨rfl, rfl⟩), rfl, hm.pk [7]⟩))
        ·replace h := ifF hc_4786 h
         refine jr_skip (jr_then (jr_region (by kernel_rfl) (qh [0,0] ?_)))
         obtain ⟨x_23, hx_4790, h⟩ := bd h
         exact tO (qx 0 (some ⟨b_4645, 0, none⟩) 1 hx_4790 a_17.2 rfl (jkO (tO (p_str 0 6 b_4645 169 encI64 a_17.1 [] i_18 t_22.1 1 0 [(.int .i64 t_22.1)] (by kernel_rfl) (by kernel_rfl) (by kernel_rfl) encI64_len hx_4790 (by kernel_rfl) (by kernel_rfl) (jkO (qe (jx_inn (jr_then (jr_region (by kernel_rfl) (qh [0,0] (qe (qb ((Arr.set a_17 i_18 t_22.1), (w64 (i_18 + 1))) () h trivial [0, 1, 2, 3, 4, 5, 6]))))))))))))
       ·replace h := ifF hc_4782 h
        refine jr_exit (jx_thenx (jx_leave (.inr a_17) (Option.some.inj h).symm (fun e_4791 => ?_)))
        subst e_4791
        exact jx_ine (qm a_17 hr_4779 [0, 1, 2, 3, 4, 5, 6])
      ·rintro a_11 h
       replace h : impl_ReadActs.k_12 xs_1 i_6 a_11 = some o_4421 := h
       rw [impl_ReadActs.k_12] at h
       refine jr_then (jr_region (by kernel_rfl) (qh [3,0,0] ?_))
       obtain ⟨x_13, hx_4754, h⟩ := bd h
       refine tO (qx 0 (some ⟨b_4645, 0, none⟩) 1 hx_4754 a_11.2 rfl (jkO (tO (ql 0 false (fun w hm => ((hm.ow 6 (some b_4645) 169 a_11.1 [] (fun e => nomatch e) encI64_len).at hx_4754)) (jkO ?_)))))
       obtain ⟨x_14, hx_4755, h⟩ := bd h
       refine tO (qx 0 (some ⟨b_4645, 0, none⟩) 1 hx_4755 a_11.2 rfl (jkO (tO (ql 0 false (fun w hm => ((hm.ow 6 (some b_4645) 169 a_11.1 [] (fun e => nomatch e) encI64_len).at hx_4755)) (jkO ?_)))))
       obtain ⟨x_15, hx_4756, h⟩ := bd h
       refine tO (qx 0 (some ⟨b_4645, 0, none⟩) 1 hx_4756 a_11.2 rfl (jkO (tO (ql 0 false (fun w hm => ((hm.ow 6 (some b_4645) 169 a_11.1 [] (fun e => nomatch e) encI64_len).at hx_4756)) (jkO ?_)))))
       obtain ⟨x_16, hx_4757, h⟩ := bd h
       refine tO (qx 0 (some ⟨b_4645, 0, none⟩) 1 hx_4757 a_11.2 rfl (jkO (tO (ql 0 false (fun w hm => ((hm.ow 6 (some b_4645) 169 a_11.1 [] (fun e => nomatch e) encI64_len).at hx_4757)) (jkO (qh [0] (tO (qa 0 (fun b_4758 => jkO ?_)))))))))
       obtain ⟨hg_4759, h⟩ := gd h
       exact tO (p_apn 0 2 o_4414 77 xs_1.length 1 cap_4415 5 40 (some ⟨b_4758, 0, none⟩) encGAct xs_1 ([(⟨(w8 i_6), x_13, x_14, x_15, x_16⟩ : GAct)] : List GAct) sp_4416 (.agg #[(.int .i8 0), (.int .i64 0), (.int .i64 0), (.int .i64 0), (.int .i64 0)]) rfl rfl (by kernel_rfl) (by kernel_rfl) (by kernel_rfl) encGAct_len encGAct_cell hs_4418 ho_4419 (fun w hm => (hm.ow 7 (some b_4758) 77 ([(⟨(w8 i_6), x_13, x_14, x_15, x_16⟩ : GAct)] : List GAct) [] (fun e => nomatch e) encGAct_len)) hg_4759 (by kernel_rfl) (by kernel_rfl) (fun o_4760 cap_4761 sp_4762 hs_4763 ho_4764 => jkO (tO (qs 0 [3] (jkO (qe (jx_inn (jr_back (xs_1 ++ ([(⟨(w8 i_6), x_13, x_14, x_15, x_16⟩ : GAct)] : List GAct)) ⟨o_4760, cap_4761, sp_4762, (xs_1 ++ ([(⟨(w8 i_6), x_13, x_14, x_15, x_16⟩ : GAct)] : List GAct)).length⟩ (Option.some.inj h).symm ⟨rfl, hs_4763, ho_4764⟩ [0, 1, 2, 3, 4] (by kernel_rfl) (by kernel_rfl)))))))))
  ·rintro df_ w2_ W2_ htl_4820 xs_1 ⟨o_4414, cap_4415, sp_4416, n_4417⟩ hrs_ ⟨rfl, hs_4418, ho_4419⟩
   subst hrs_
   have h : impl_ReadActs.k_29 text0 xs_1 = some r := hr_4420
   rw [impl_ReadActs.k_29] at h
   refine jx_inn (jx_then (jc_seq (jc_seq (jc_region (qh [3] ?_)))))
   obtain ⟨t_30, ht_4823, h⟩ := bd h
   refine tO (pc 0 (fun w hm => impl_ActsText.calls xs_1 w _ (g_lo.keepB (htl_4820.keep _ _ hm)) (g_pw.keepB (htl_4820.keep _ _ hm)) cap_4415 (hm.ow 2 o_4414 77 xs_1 sp_4416 (fun e => (ho_4419 e).1) encGAct_len) rfl ht_4823) ?_)
   rintro w v w' hm ⟨rfl, hm'⟩
   refine ⟨_, hm.app hm', jkO ?_⟩
   clear hm hm'
   refine qh [0,0] (qe (jx_then (qi h (fun h => ?_) (fun h => ?_))))
   ·refine jc_seq (jc_region (tO (qs 0 [0] (jkO (tO (qs 0 [1] (jkO (qe (jx_then (jc_ret (jx_thenr ?_)))))))))))
    obtain rfl := Option.some.inj h
    exact jx_ghost 77 encGAct (jx_retM htl_4820 [0, 1] (.tuple #[(.slice none 0 0), (.int .i64 5)]) [(b_1, b_1), (b_2, b_2)] rfl (by kernel_rfl) (by kernel_rfl) (fun w hm => ⟨none, 0, [], 0, rfl, (fun e => absurd rfl e), (fun _ => ⟨rfl, rfl⟩), rfl, hm.pk [5]⟩))
   ·refine jc_skip (jx_then (jc_seq (jc_region (qh [3] (tO (qs 0 [0] (jkO (tO (qs 0 [1] (jkO (qe (jx_then (jc_ret ?_)))))))))))))
    obtain rfl := Option.some.inj h
    exact jx_retM htl_4820 [0, 1] (.tuple #[(.slice (o_4414.map fun b => ⟨b, 0, none⟩) xs_1.length cap_4415), (.int .i64 0)]) [(b_1, b_1), (b_2, b_2)] rfl (by kernel_rfl) (by kernel_rfl) (fun w hm => ⟨o_4414, cap_4415, sp_4416, xs_1.length, rfl, hs_4418, ho_4419, rfl, hm.pk [2]⟩)
/-! ### spec.SameActs -/
def spec_SameActs.k_1 : Option (Bool) := some true
def spec_SameActs.l_3 (a0 : List GAct) (b1 : List GAct) : Int → Option ((Int) ⊕ (Bool ⊕ Unit))
  | i_2 => (if (decide (i_2 < (a0.length : Int))) = true then (ix a0 i_2).bind fun x_5 => (ix b1 i_2).bind fun x_6 => (if (!((x_5.fKind == x_6.fKind) && ((x_5.fA == x_6.fA) && ((x_5.fB == x_6.fB) && ((x_5.fC == x_6.fC) && (x_5.fD == x_6.fD)))))) = true then some (.inr (.inl false)) else some (.inl (w64 (i_2 + 1)))) else some (.inr (.inr ())))
def spec_SameActs (a0 : List GAct) (b1 : List GAct) : Option (Bool) := (if ((a0.length : Int) != (b1.length : Int)) = true then some false else (loop (spec_SameActs.l_3 a0 b1) 0).bind fun t_4 => match t_4 with | .inl p => some p | .inr p => spec_SameActs.k_1)
theorem spec_SameActs.calls (a0 : List GAct) (b1 : List GAct) (w : World) (r : Bool) {A_a : Option Addr} {A_an : Nat} (A_c : Nat) (A_h : Rw w A_a 5 encGAct a0) (A_hn : a0.length = A_an) {B_a : Option Addr} {B_an : Nat} (B_c : Nat) (B_h : Rw w B_a 5 encGAct b1) (B_hn : b1.length = B_an) (h : spec_SameActs a0 b1 = some r) :
    Calls Tryz.prog 42 #[(.slice A_a A_an A_c), (.slice B_a B_an B_c)] w fun e w' => ∃ v, e = .returned v ∧ (v = (.bool r) ∧ Mem w [] [] w') := by
  subst A_hn B_hn
  rw [spec_SameActs] at h
  refine enter (args := [(.slice A_a a0.length A_c), (.slice B_a b1.length B_c)]) Tryz.func42 rfl Tryz.ntmps42 (by kernel_rfl) (L := []) (W := []) (Mem.start w) ?_
  refine jc_seq (jc_region (qh [0] (qe (jx_then (jc_seq (jc_seq (jc_region (qh [0,0,0,0,0] (qe (jx_then (qi h (fun h => ?_) (fun h => ?_))))))))))))
  ·refine jc_seq (jc_region (qh [0] (qe (jx_then (jc_ret (jx_thenr ?_))))))
   obtain rfl := Option.some.inj h
   exact qr [] (fun w hm => ⟨rfl, hm.pk []⟩)
  ·refine jc_skip (jx_then (jc_seq (jc_seq (jc_region (qh [0] (qe (jx_then (jc_meet (fun (_ : Unit) => spec_SameActs.k_1 = some r) (fun (_ : Unit) => [(4, [], (.bool false))]) (fun (_ : Unit) => []) ?_ ?_))))))))
   ·refine jc_block ?_
    obtain ⟨t_4, ht_42, hr_33⟩ := bd h
    refine jc_loop (fun (s : Int) (x : Unit) => match s, x with | i_2, _ => True) (fun (s : Int) (x : Unit) => match s, x with | i_2, _ => [(0, [], (.slice A_a a0.length A_c)), (1, [], (.slice B_a b1.length B_c)), (4, [], (.bool false)), (5, [], (.int .i64 i_2))]) (fun (s : Int) (x : Unit) => match s, x with | i_2, _ => []) ht_42 () trivial (by kernel_rfl) [] (by kernel_rfl) (by kernel_rfl) ?_
    rintro i_2 _ y_34 _ h
    rw [spec_SameActs.l_3] at h
    refine jc_seq (jc_seq (jc_region (qh [0,0,0,0] (qe (jx_then (qi h (fun h => ?_) (fun h => ?_)))))))
    ·refine jc_skip (jx_then (jc_seq (jc_block (jc_seq (qg [] 9 (qd [⟨0, 0, 0⟩,⟨1, 0, 0⟩,⟨4, 0, 0⟩,⟨5, 0, 0⟩] 5 [] ?_))))))
     obtain ⟨x_5, hx_37, h⟩ := bd h
     refine qv 2 0 [] (fun w hm => idx_run (a := A_a) (len := a0.length) (s := 5) (j := i_2) (by kernel_rfl) (ix_some hx_37).1 (ltn hx_37 rfl) (A_h.sp hx_37)) (qv 3 0 [] (fun w hm => ld_run (b := aB A_a) (off := (aO A_a + i_2.toNat * 5)) (s := 5) (agg := true) (vs := (encGAct x_5)) (by kernel_rfl) (by kernel_rfl) (.inl rfl) ((hm.xr A_h).at hx_37)) ?_)
     obtain ⟨x_6, hx_38, h⟩ := bd h
     refine qv 6 0 [] (fun w hm => idx_run (a := B_a) (len := b1.length) (s := 5) (j := i_2) (by kernel_rfl) (ix_some hx_38).1 (ltn hx_38 rfl) (B_h.sp hx_38)) (qv 7 0 [] (fun w hm => ld_run (b := aB B_a) (off := (aO B_a + i_2.toNat * 5)) (s := 5) (agg := true) (vs := (encGAct x_6)) (by kernel_rfl) (by kernel_rfl) (.inl rfl) ((hm.xr B_h).at hx_38)) (qd [⟨8, 0, 0⟩] 0 [] (qz (jx_then (qi h (fun h => ?_) (fun h => ?_))))))
     ·refine jc_seq (jc_region (qh [0] (qe (jx_then (jc_ret (jx_inr (jx_thenr (jx_leaver (.inl false) (Option.some.inj h).symm (fun e_40 => ?_)))))))))
      subst e_40
      refine jx_inr (jx_thenr (jx_thenr ?_))
      obtain rfl := Option.some.inj hr_33
      exact qr [] (fun w hm => ⟨rfl, hm.pk []⟩)
     ·exact jc_skip (jx_inn (jx_then (jc_region (qh [0,0,0] (qe (qb (w64 (i_2 + 1)) () h trivial []))))))
    ·refine jc_exit (jx_thenx (jx_leave (.inr ()) (Option.some.inj h).symm (fun e_41 => ?_)))
     subst e_41
     exact jx_ine (qm () hr_33 [])
   ·rintro _ h
    replace h : spec_SameActs.k_1 = some r := h
    rw [spec_SameActs.k_1] at h
    refine jx_then (jc_seq (jc_region (qh [0] (qe (jx_then (jc_ret ?_))))))
    obtain rfl := Option.some.inj h
    exact qr [] (fun w hm => ⟨rfl, hm.pk []⟩)
end

end Go.Proofs.YtolfkfjjifdmeaaGreatDoor
