/- Functions of the program that the laws reach: a plain function each, and that the call comes to its answer if the plain function has one. Printed by a program. -/
import Derived.Test.YtolfkfjjifdmeaaGreatT
import Derived.Test.YtolfkfjjifdmeaaGreatTab
import Derived.Test.YtolfkfjjifdmeaaGreatM0
import Derived.Test.YtolfkfjjifdmeaaGreatM1
namespace Go.Proofs.YtolfkfjjifdmeaaGreat
open Eng
set_option linter.unusedVariables false

set_option linter.unusedSectionVars false
set_option maxRecDepth 100000
variable [dsW : DrwS]
noncomputable section
/-! ### spec.l02Pin -/
def spec_l02Pin (d0 : Arr 96 Int) (step1 : Int) (track2 : Int) : Option (Bool) := (ix d0.1 step1).bind fun x_1 => (if 0 ≤ (u64 track2) then some ((Int.tmod (bShr .u32 x_1 (u64 track2)) 2) == 1) else none)
theorem spec_l02Pin.calls (d0 : Arr 96 Int) (step1 : Int) (track2 : Int) (w : World) (r : Bool) {A_b A_q : Nat} (A_h : Rw w (some ⟨A_b, A_q, none⟩) 1 encU32 d0.1) (h : spec_l02Pin d0 step1 track2 = some r) :
    Calls Tryz.prog 152 #[(.pointer (some ⟨A_b, A_q, none⟩)), (.int .i64 step1), (.int .i64 track2)] w fun e w' => ∃ v, e = .returned v ∧ (v = (.bool r) ∧ Mem w [] [] w') := by
  rw [spec_l02Pin] at h
  refine enter (args := [(.pointer (some ⟨A_b, A_q, none⟩)), (.int .i64 step1), (.int .i64 track2)]) Tryz.func152 rfl Tryz.ntmps152 (by kernel_rfl) (L := []) (W := []) (Mem.start w) ?_
  refine jc_seq (jc_region (qh [0] (qe (jx_then (jc_seq (jc_region (qh [0,0,0] ?_)))))))
  obtain ⟨x_1, hx_1, h⟩ := bd h
  refine tO (qx 0 (some ⟨A_b, A_q, none⟩) 1 hx_1 d0.2 (A_h.sp hx_1) (jkO (tO (ql 0 false (fun w hm => ((hm.xr A_h).at hx_1)) (jkO (qh [0,0] ?_))))))
  obtain ⟨hg_2, h⟩ := gd h
  refine tO (p_shr 0 .u32 x_1 .u64 (u64 track2) (by kernel_rfl) (by kernel_rfl) hg_2 (jkO (qh [0,0,0] (qe (jx_then (jc_ret ?_))))))
  obtain rfl := Option.some.inj h
  exact qr [] (fun w hm => ⟨rfl, hm.pk []⟩)
/-! ### spec.l02Free -/
def spec_l02Free.k_3 : Option (Bool) := some true
def spec_l02Free.k_8 (i_4 : Int) (q_7 : Bool) : Option ((Int) ⊕ (Bool ⊕ Unit)) := (if q_7 = true then some (.inr (.inl false)) else some (.inl (w64 (i_4 + 1))))
def spec_l02Free.l_5 (f0 : GFrame) (d1 : Arr 96 Int) (step2 : Int) (track3 : Int) (x_2 : GHammer) : Int → Option ((Int) ⊕ (Bool ⊕ Unit))
  | i_4 => (if (decide (i_4 < (w64 x_2.fReady))) = true then (if (w64 f0.fSteps) ≠ 0 then (spec_l02Pin d1 (Int.tmod (w64 (step2 + i_4)) (w64 f0.fSteps)) track3).bind fun t_9 => (if t_9 = true then spec_l02Free.k_8 i_4 true else (if (w64 f0.fSteps) ≠ 0 then (spec_l02Pin d1 (Int.tmod (w64 ((w64 (step2 + (w64 f0.fSteps))) - i_4)) (w64 f0.fSteps)) track3).bind fun t_10 => spec_l02Free.k_8 i_4 t_10 else none)) else none) else some (.inr (.inr ())))
def spec_l02Free (f0 : GFrame) (d1 : Arr 96 Int) (step2 : Int) (track3 : Int) : Option (Bool) := (spec_l02Pin d1 step2 track3).bind fun t_1 => (if t_1 = true then some false else (ix f0.fHammers track3).bind fun x_2 => (loop (spec_l02Free.l_5 f0 d1 step2 track3 x_2) 1).bind fun t_6 => match t_6 with | .inl p => some p | .inr p => spec_l02Free.k_3)
theorem spec_l02Free.calls (f0 : GFrame) (d1 : Arr 96 Int) (step2 : Int) (track3 : Int) (w : World) (r : Bool) {C_a : Option Addr} {C_an : Nat} (C_c : Nat) (C_h : Rw w C_a 2 encGHammer f0.fHammers) (C_hn : f0.fHammers.length = C_an) {D_b D_q : Nat} (D_h : Rw w (some ⟨D_b, D_q, none⟩) 1 encU32 d1.1) (A_b : Nat) (hm0 : Mem w (bs [some A_b]) [⟨some A_b, 27, [(.int .i16 f0.fSteps), (.slice C_a C_an C_c)]⟩] w) (C_ha : f0.fHammers ≠ [] → aB C_a ∉ bs [some A_b]) (D_ha : d1.1 ≠ [] → aB (some ⟨D_b, D_q, none⟩) ∉ bs [some A_b]) (h : spec_l02Free f0 d1 step2 track3 = some r) :
    Calls Tryz.prog 140 #[(.pointer (some ⟨A_b, 0, none⟩)), (.pointer (some ⟨D_b, D_q, none⟩)), (.int .i64 step2), (.int .i64 track3)] w fun e w' => ∃ v, e = .returned v ∧ (v = (.bool r) ∧ Mem w (bs [some A_b]) [⟨some A_b, 27, [(.int .i16 f0.fSteps), (.slice C_a C_an C_c)]⟩] w') := by
  subst C_hn
  rw [spec_l02Free] at h
  refine enter (args := [(.pointer (some ⟨A_b, 0, none⟩)), (.pointer (some ⟨D_b, D_q, none⟩)), (.int .i64 step2), (.int .i64 track3)]) Tryz.func140 rfl Tryz.ntmps140 (by kernel_rfl) (L := [⟨some A_b, 27, [(.int .i16 f0.fSteps), (.slice C_a f0.fHammers.length C_c)]⟩]) (W := bs [some A_b]) hm0 ?_
  refine jc_seq (jc_region (qh [0] (qe (jx_then (jc_seq (jc_seq (jc_region (qh [0,0,0] ?_))))))))
  obtain ⟨t_1, ht_3, h⟩ := bd h
  refine tO (pc 0 (fun w hm => spec_l02Pin.calls d1 step2 track3 w _ (hm.exRowW D_h D_ha) ht_3) ?_)
  rintro w v w' hm ⟨rfl, hm'⟩
  refine ⟨_, hm.app hm', jkO ?_⟩
  clear hm hm'
  refine qe (jx_then (qi h (fun h => ?_) (fun h => ?_)))
  ·refine jc_seq (jc_region (qh [0] (qe (jx_then (jc_ret (jx_thenr ?_))))))
   obtain rfl := Option.some.inj h
   exact qr [] (fun w hm => ⟨rfl, hm.pk [0]⟩)
  ·refine jc_skip (jx_then (jc_seq (jc_region (qh [0,0,0,0,0,0] (qe (jx_then (jc_seq (jc_region (qh [0,0,0,0,0] ?_)))))))))
   obtain ⟨x_2, hx_5, h⟩ := bd h
   refine tO (qx 0 C_a 2 hx_5 rfl (C_h.sp hx_5) (jkO (qh [0] (tO (ql 0 false (fun w hm => (((hm.exRowW C_h C_ha).at hx_5).sub 1 1)) (jkO (qh [0,0] (qe (jx_then (jc_seq (jc_seq (jc_region (qh [0] (qe (jx_then (jc_meet (fun (_ : Unit) => spec_l02Free.k_3 = some r) (fun (_ : Unit) => [(8, [], (.bool false))]) (fun (_ : Unit) => [⟨some A_b, 27, [(.int .i16 f0.fSteps), (.slice C_a f0.fHammers.length C_c)]⟩]) ?_ ?_))))))))))))))))
   ·refine jc_block ?_
    obtain ⟨t_6, ht_93, hr_76⟩ := bd h
    refine jc_loop (fun (s : Int) (x : Unit) => match s, x with | i_4, _ => True) (fun (s : Int) (x : Unit) => match s, x with | i_4, _ => [(1, [], (.pointer (some ⟨D_b, D_q, none⟩))), (2, [], (.int .i64 step2)), (3, [], (.int .i64 track3)), (8, [], (.bool false)), (9, [], (.int .i64 (w64 f0.fSteps))), (10, [], (.int .i64 (w64 x_2.fReady))), (11, [], (.int .i64 i_4))]) (fun (s : Int) (x : Unit) => match s, x with | i_4, _ => [⟨some A_b, 27, [(.int .i16 f0.fSteps), (.slice C_a f0.fHammers.length C_c)]⟩]) ht_93 () trivial (by kernel_rfl) [0] (by kernel_rfl) (by kernel_rfl) ?_
    rintro i_4 _ y_77 _ h
    rw [spec_l02Free.l_5] at h
    refine jc_seq (jc_seq (jc_region (qh [0,0,0] (qe (jx_then (qi h (fun h => ?_) (fun h => ?_)))))))
    ·refine jc_skip (jx_then (jc_seq (jc_block (jc_seq (jc_meet (fun (j : Bool) => match j with | q_7 => spec_l02Free.k_8 i_4 q_7 = some y_77) (fun (j : Bool) => match j with | q_7 => [(1, [], (.pointer (some ⟨D_b, D_q, none⟩))), (2, [], (.int .i64 step2)), (3, [], (.int .i64 track3)), (8, [], (.bool false)), (9, [], (.int .i64 (w64 f0.fSteps))), (10, [], (.int .i64 (w64 x_2.fReady))), (11, [], (.int .i64 i_4)), (54, [], (.bool q_7))]) (fun (j : Bool) => match j with | q_7 => [⟨some A_b, 27, [(.int .i16 f0.fSteps), (.slice C_a f0.fHammers.length C_c)]⟩]) ?_ ?_)))))
     ·refine jc_region (qh [0,0,0,0,0] ?_)
      obtain ⟨hg_87, h⟩ := gd h
      refine tO (p_rem 0 .i64 (w64 (step2 + i_4)) (w64 f0.fSteps) (by kernel_rfl) (by kernel_rfl) hg_87 (jkO (qh [0] ?_)))
      obtain ⟨t_9, ht_88, h⟩ := bd h
      refine tO (pc 0 (fun w hm => spec_l02Pin.calls d1 (Int.tmod (w64 (step2 + i_4)) (w64 f0.fSteps)) track3 w _ (hm.exRowW D_h D_ha) ht_88) ?_)
      rintro w v w' hm ⟨rfl, hm'⟩
      refine ⟨_, hm.app hm', jkO ?_⟩
      clear hm hm'
      refine qf [(0, 0), (0, 1), (0, 1), (0, 1), (0, 1), (0, 1), (0, 1), (0, 1)] (qp 43 h (fun h => ?_) (fun h => ?_))
      ·exact qf [(0, 3), (0, 3), (0, 3), (0, 4)] (qe (qm true h [0]))
      ·obtain ⟨hg_90, h⟩ := gd h
       refine tO (p_rem 2 .i64 (w64 ((w64 (step2 + (w64 f0.fSteps))) - i_4)) (w64 f0.fSteps) (by kernel_rfl) (by kernel_rfl) hg_90 (jkO (qf [(0, 2)] ?_)))
       obtain ⟨t_10, ht_91, h⟩ := bd h
       refine tO (pc 2 (fun w hm => spec_l02Pin.calls d1 (Int.tmod (w64 ((w64 (step2 + (w64 f0.fSteps))) - i_4)) (w64 f0.fSteps)) track3 w _ (hm.exRowW D_h D_ha) ht_91) ?_)
       rintro w v w' hm ⟨rfl, hm'⟩
       refine ⟨_, hm.app hm', jkO ?_⟩
       clear hm hm'
       exact qf [(0, 5)] (qe (qm t_10 h [0]))
     ·rintro q_7 h
      replace h : spec_l02Free.k_8 i_4 q_7 = some y_77 := h
      rw [spec_l02Free.k_8] at h
      refine jx_then (qi h (fun h => ?_) (fun h => ?_))
      ·refine jc_seq (jc_region (qh [0] (qe (jx_then (jc_ret (jx_inr (jx_thenr (jx_leaver (.inl false) (Option.some.inj h).symm (fun e_86 => ?_)))))))))
       subst e_86
       refine jx_inr (jx_thenr (jx_thenr ?_))
       obtain rfl := Option.some.inj hr_76
       exact qr [] (fun w hm => ⟨rfl, hm.pk [0]⟩)
      ·exact jc_skip (jx_inn (jx_then (jc_region (qh [0,0,0] (qe (qb (w64 (i_4 + 1)) () h trivial [0]))))))
    ·refine jc_exit (jx_thenx (jx_leave (.inr ()) (Option.some.inj h).symm (fun e_92 => ?_)))
     subst e_92
     exact jx_ine (qm () hr_76 [0])
   ·rintro _ h
    replace h : spec_l02Free.k_3 = some r := h
    rw [spec_l02Free.k_3] at h
    refine jx_then (jc_seq (jc_region (qh [0] (qe (jx_then (jc_ret ?_))))))
    obtain rfl := Option.some.inj h
    exact qr [] (fun w hm => ⟨rfl, hm.pk [0]⟩)
/-! ### spec.l07Put -/
def spec_l07Put (f0 : GFrame) (d1 : Arr 96 Int) (n2 : GNote) (x3 : GChoice) : Option (Bool × (Arr 96 Int)) := (if x3.fAway = true then some (true, d1) else (spec_l02Free f0 d1 (w64 ((w64 n2.fAt) + (w64 x3.fLate))) (w64 x3.fTrack)).bind fun t_1 => (if (!t_1) = true then some (false, d1) else (ix d1.1 (w64 ((w64 n2.fAt) + (w64 x3.fLate)))).bind fun x_2 => (if 0 ≤ (u64 x3.fTrack) then (ix d1.1 (w64 ((w64 n2.fAt) + (w64 x3.fLate)))).bind fun x_3 => some (true, (Arr.set d1 (w64 ((w64 n2.fAt) + (w64 x3.fLate))) (bOr .u32 x_2 (bShl .u32 1 (u64 x3.fTrack))))) else none)))
theorem spec_l07Put.calls (f0 : GFrame) (d1 : Arr 96 Int) (n2 : GNote) (x3 : GChoice) (w : World) (r : Bool × (Arr 96 Int)) {C_a : Option Addr} {C_an : Nat} (C_c : Nat) (C_h : Rw w C_a 2 encGHammer f0.fHammers) (C_hn : f0.fHammers.length = C_an) (A_b : Nat) (D_b : Nat) (hm0 : Mem w (bs [some A_b, some D_b]) [⟨some A_b, 27, [(.int .i16 f0.fSteps), (.slice C_a C_an C_c)]⟩, ⟨(some D_b), 40, row encU32 d1.1 []⟩] w) (C_ha : f0.fHammers ≠ [] → aB C_a ∉ bs [some A_b, some D_b]) (h : spec_l07Put f0 d1 n2 x3 = some r) :
    Calls Tryz.prog 71 #[(.pointer (some ⟨A_b, 0, none⟩)), (.pointer (some ⟨D_b, 0, none⟩)), (.agg #[(.int .i16 n2.fAt), (.int .i8 n2.fPitch)]), (.agg #[(.bool x3.fAway), (.int .i8 x3.fLate), (.int .i8 x3.fOctave), (.int .i8 x3.fTrack)])] w fun e w' => ∃ v, e = .returned v ∧ (v = (.bool r.1) ∧ Mem w (bs [some A_b, some D_b]) [⟨some A_b, 27, [(.int .i16 f0.fSteps), (.slice C_a C_an C_c)]⟩, ⟨(some D_b), 40, row encU32 r.2.1 []⟩] w') := by
  subst C_hn
  rw [spec_l07Put] at h
  refine enter (args := [(.pointer (some ⟨A_b, 0, none⟩)), (.pointer (some ⟨D_b, 0, none⟩)), (.agg #[(.int .i16 n2.fAt), (.int .i8 n2.fPitch)]), (.agg #[(.bool x3.fAway), (.int .i8 x3.fLate), (.int .i8 x3.fOctave), (.int .i8 x3.fTrack)])]) Tryz.func71 rfl Tryz.ntmps71 (by kernel_rfl) (L := [⟨some A_b, 27, [(.int .i16 f0.fSteps), (.slice C_a f0.fHammers.length C_c)]⟩, ⟨(some D_b), 40, row encU32 d1.1 []⟩]) (W := bs [some A_b, some D_b]) hm0 ?_
  refine jc_seq (jc_region (tO (qa 0 (fun b_1 => jkO (tO (qa 0 (fun b_2 => jkO (qh [0] (qe (jx_then (jc_seq (jc_seq (jc_region (qh [0,3] (qe (jx_then (qi h (fun h => ?_) (fun h => ?_))))))))))))))))))
  ·refine jc_seq (jc_region (qh [0] (qe (jx_then (jc_ret (jx_thenr ?_))))))
   obtain rfl := Option.some.inj h
   exact qr [] (fun w hm => ⟨rfl, hm.pk [0, 1]⟩)
  ·refine jc_skip (jx_then (jc_seq (jc_region (qh [0,2,0,0,3,0,0,0] (qe (jx_then (jc_seq (jc_seq (jc_region (qh [0,0,0,0,3,0] ?_))))))))))
   obtain ⟨t_1, ht_7, h⟩ := bd h
   refine tO (pc 0 (fun w hm => spec_l02Free.calls f0 d1 (w64 ((w64 n2.fAt) + (w64 x3.fLate))) (w64 x3.fTrack) w _ C_c (hm.exRowW C_h C_ha) rfl (hm.ow 1 (some D_b) 40 d1.1 [] (fun e => nomatch e) encU32_len) A_b (hm.pass (N := [⟨some A_b, 27, [(.int .i16 f0.fSteps), (.slice C_a f0.fHammers.length C_c)]⟩]) [0] (by kernel_rfl) (by kernel_rfl)) (hm.exApart (N := [⟨some A_b, 27, [(.int .i16 f0.fSteps), (.slice C_a f0.fHammers.length C_c)]⟩]) C_h C_ha [0] (by kernel_rfl)) (hm.ownApart (S := Int) (N := [⟨some A_b, 27, [(.int .i16 f0.fSteps), (.slice C_a f0.fHammers.length C_c)]⟩]) (hh := 1) (o := (some D_b)) (T := 40) (cs := row encU32 d1.1 []) (xs := d1.1) (by kernel_rfl) (fun e => nomatch e) [0] (by kernel_rfl) (by kernel_rfl)) ht_7) ?_)
   rintro w v w' hm ⟨rfl, hm'⟩
   refine ⟨_, hm.appW (ps := [(0, ⟨some A_b, 27, [(.int .i16 f0.fSteps), (.slice C_a f0.fHammers.length C_c)]⟩)]) (N := []) hm' (by kernel_rfl) (by kernel_rfl), jkO ?_⟩
   clear hm hm'
   refine qh [0] (qe (jx_then (qi h (fun h => ?_) (fun h => ?_))))
   ·refine jc_seq (jc_region (qh [0] (qe (jx_then (jc_ret (jx_thenr ?_))))))
    obtain rfl := Option.some.inj h
    exact qr [] (fun w hm => ⟨rfl, hm.pk [0, 1]⟩)
   ·refine jc_skip (jx_then (jc_seq (qg [⟨some A_b, 27, [(.int .i16 f0.fSteps), (.slice C_a f0.fHammers.length C_c)]⟩, ⟨some b_1, 101, [(.int .i16 n2.fAt), (.int .i8 n2.fPitch)]⟩, ⟨some b_2, 104, [(.bool x3.fAway), (.int .i8 x3.fLate), (.int .i8 x3.fOctave), (.int .i8 x3.fTrack)]⟩] 15 (qd [⟨0, 0, 0⟩,⟨1, 0, 0⟩,⟨2, 0, 0⟩,⟨3, 0, 0⟩,⟨4, 0, 0⟩,⟨7, 0, 0⟩,⟨8, 2, 0⟩,⟨9, 0, 0⟩,⟨12, 0, 0⟩] 6 [0, 2, 3] ?_))))
    obtain ⟨x_2, hx_12, h⟩ := bd h
    refine qv 5 0 [0, 2, 3] (fun w hm => idx_run (a := (some ⟨D_b, 0, none⟩)) (len := 96) (s := 1) (j := (w64 ((w64 n2.fAt) + (w64 x3.fLate)))) (by kernel_rfl) (ix_some hx_12).1 (ltn hx_12 d1.2) rfl) (toD2 6 10 (by kernel_rfl) ?_ ?_)
    ·refine ql 0 false (fun w hm => ((hm.ow 1 (some D_b) 40 d1.1 [] (fun e => nomatch e) encU32_len).at hx_12)) (kD [0, 2, 3] ?_)
     obtain ⟨hg_13, h⟩ := gd h
     refine tD 10 (p_shl 0 .u32 1 .u64 (u64 x3.fTrack) (by kernel_rfl) (by kernel_rfl) hg_13 (kD [0, 2, 3] (qd [⟨11, 0, 0⟩] 2 [0, 2, 3] ?_)))
     obtain ⟨x_3, hx_14, h⟩ := bd h
     refine qv 13 0 [0, 2, 3] (fun w hm => idx_run (a := (some ⟨D_b, 0, none⟩)) (len := 96) (s := 1) (j := (w64 ((w64 n2.fAt) + (w64 x3.fLate)))) (by kernel_rfl) (ix_some hx_14).1 (ltn hx_14 d1.2) rfl) (tD 14 (p_str 0 1 D_b 40 encU32 d1.1 [] (w64 ((w64 n2.fAt) + (w64 x3.fLate))) (bOr .u32 x_2 (bShl .u32 1 (u64 x3.fTrack))) 1 0 [(.int .u32 (bOr .u32 x_2 (bShl .u32 1 (u64 x3.fTrack))))] (by kernel_rfl) (by kernel_rfl) (by kernel_rfl) encU32_len hx_14 (by kernel_rfl) (by kernel_rfl) (kD [0, 2, 3] (qz (jx_then (jc_seq (jc_region (qh [0] (qe (jx_then (jc_ret ?_)))))))))))
     obtain rfl := Option.some.inj h
     exact qr [] (fun w hm => ⟨rfl, hm.pk [0, 1]⟩)
    ·obtain ⟨hg_15, h⟩ := gd h
     refine p_shl 0 .u32 1 .u64 (u64 x3.fTrack) (by kernel_rfl) (by kernel_rfl) hg_15 (kD [0, 2, 3] (tD 6 (ql 0 false (fun w hm => ((hm.ow 1 (some D_b) 40 d1.1 [] (fun e => nomatch e) encU32_len).at hx_12)) (kD [0, 2, 3] (qd [⟨11, 0, 0⟩] 2 [0, 2, 3] ?_)))))
     obtain ⟨x_3, hx_16, h⟩ := bd h
     refine qv 13 0 [0, 2, 3] (fun w hm => idx_run (a := (some ⟨D_b, 0, none⟩)) (len := 96) (s := 1) (j := (w64 ((w64 n2.fAt) + (w64 x3.fLate)))) (by kernel_rfl) (ix_some hx_16).1 (ltn hx_16 d1.2) rfl) (tD 14 (p_str 0 1 D_b 40 encU32 d1.1 [] (w64 ((w64 n2.fAt) + (w64 x3.fLate))) (bOr .u32 x_2 (bShl .u32 1 (u64 x3.fTrack))) 1 0 [(.int .u32 (bOr .u32 x_2 (bShl .u32 1 (u64 x3.fTrack))))] (by kernel_rfl) (by kernel_rfl) (by kernel_rfl) encU32_len hx_16 (by kernel_rfl) (by kernel_rfl) (kD [0, 2, 3] (qz (jx_then (jc_seq (jc_region (qh [0] (qe (jx_then (jc_ret ?_)))))))))))
     obtain rfl := Option.some.inj h
     exact qr [] (fun w hm => ⟨rfl, hm.pk [0, 1]⟩)
/-! ### spec.l07Go -/
def spec_l07Go.k_10 (s0 : Gl07Search) (xs_1 : List GChoice) (i_3 : Int) (i_4 : Int) (i_5 : Int) (i_6 : Int) (i_7 : Int) (q_8 : Bool) (i_9 : Int) : Option (Bool × Gl07Search) := some (true, (⟨(⟨s0.ff.fSteps, s0.ff.fHammers⟩ : GFrame), s0.ft, (⟨i_3, i_4, i_5⟩ : GCosts), s0.fall, s0.fbounds, i_6, i_7, q_8, xs_1, i_9⟩ : Gl07Search))
def spec_l07Go.k_39 (s0 : Gl07Search) (i_20 : Int) (xs_29 : List GChoice) (i_31 : Int) (i_32 : Int) (i_33 : Int) (i_34 : Int) (i_35 : Int) (q_36 : Bool) (i_37 : Int) (q_38 : Bool) : Option (((List GChoice) × Int × Int × Int × Int × Int × Bool × Int × Int) ⊕ ((Bool × Gl07Search) ⊕ ((List GChoice) × Int × Int × Int × Int × Int × Bool × Int))) := (if q_38 = true then some (.inr (.inl (false, (⟨(⟨s0.ff.fSteps, s0.ff.fHammers⟩ : GFrame), s0.ft, (⟨i_31, i_32, i_33⟩ : GCosts), s0.fall, s0.fbounds, i_34, i_35, q_36, xs_29, i_37⟩ : Gl07Search)))) else some (.inl (xs_29, i_31, i_32, i_33, i_34, i_35, q_36, i_37, (w64 (i_20 + 1)))))
def spec_l07Go.k_28 (self_ : Gl07Search → (Arr 96 Int) → (List GChoice) → Int → Option (Bool × Gl07Search)) (s0 : Gl07Search) (list2 : List GChoice) (cost3 : Int) (xs_11 : List GChoice) (i_13 : Int) (i_14 : Int) (i_15 : Int) (i_16 : Int) (i_17 : Int) (q_18 : Bool) (i_19 : Int) (i_20 : Int) (x_25 : GChoice) (t_26 : Int) (a_27 : Arr 96 Int) : Option (((List GChoice) × Int × Int × Int × Int × Int × Bool × Int × Int) ⊕ ((Bool × Gl07Search) ⊕ ((List GChoice) × Int × Int × Int × Int × Int × Bool × Int))) := (if (i_17 == i_16) = true then some (.inr (.inl (false, (⟨(⟨s0.ff.fSteps, s0.ff.fHammers⟩ : GFrame), s0.ft, (⟨i_13, i_14, i_15⟩ : GCosts), s0.fall, s0.fbounds, i_16, i_17, q_18, xs_11, i_19⟩ : Gl07Search)))) else (if ([] : List GChoice).length + list2.length ≤ 4294967296 then (if (([] : List GChoice) ++ list2).length + ([x_25] : List GChoice).length ≤ 4294967296 then (self_ (⟨(⟨s0.ff.fSteps, s0.ff.fHammers⟩ : GFrame), s0.ft, (⟨i_13, i_14, i_15⟩ : GCosts), s0.fall, s0.fbounds, i_16, (w64 (i_17 + 1)), q_18, xs_11, i_19⟩ : Gl07Search) a_27 ((([] : List GChoice) ++ list2) ++ ([x_25] : List GChoice)) (w64 (cost3 + t_26))).bind fun t_40 => spec_l07Go.k_39 s0 i_20 t_40.2.fbest t_40.2.fc.fAway t_40.2.fc.fOctave t_40.2.fc.fStep t_40.2.fbudget t_40.2.flooks t_40.2.ffound t_40.2.fleast (!t_40.1) else none) else none))
def spec_l07Go.l_21 (self_ : Gl07Search → (Arr 96 Int) → (List GChoice) → Int → Option (Bool × Gl07Search)) (s0 : Gl07Search) (d1 : Arr 96 Int) (list2 : List GChoice) (cost3 : Int) : ((List GChoice) × Int × Int × Int × Int × Int × Bool × Int × Int) → Option (((List GChoice) × Int × Int × Int × Int × Int × Bool × Int × Int) ⊕ ((Bool × Gl07Search) ⊕ ((List GChoice) × Int × Int × Int × Int × Int × Bool × Int)))
  | (xs_11, i_13, i_14, i_15, i_16, i_17, q_18, i_19, i_20) => (ix s0.fall (list2.length : Int)).bind fun x_23 => (if (decide (i_20 < (x_23.length : Int))) = true then (ix s0.fall (list2.length : Int)).bind fun x_24 => (ix x_24 i_20).bind fun x_25 => (spec_l07Cost (⟨i_13, i_14, i_15⟩ : GCosts) x_25).bind fun t_26 => (ix s0.ft (list2.length : Int)).bind fun x_42 => (spec_l07Put (⟨s0.ff.fSteps, s0.ff.fHammers⟩ : GFrame) d1 x_42 x_25).bind fun t_43 => (if (!t_43.1) = true then some (.inl (xs_11, i_13, i_14, i_15, i_16, i_17, q_18, i_19, (w64 (i_20 + 1)))) else (if q_18 = true then (ix s0.fbounds (w64 ((list2.length : Int) + 1))).bind fun x_44 => (if (decide ((w64 ((w64 (cost3 + t_26)) + x_44)) ≥ i_19)) = true then some (.inl (xs_11, i_13, i_14, i_15, i_16, i_17, q_18, i_19, (w64 (i_20 + 1)))) else spec_l07Go.k_28 self_ s0 list2 cost3 xs_11 i_13 i_14 i_15 i_16 i_17 q_18 i_19 i_20 x_25 t_26 t_43.2) else spec_l07Go.k_28 self_ s0 list2 cost3 xs_11 i_13 i_14 i_15 i_16 i_17 q_18 i_19 i_20 x_25 t_26 t_43.2)) else some (.inr (.inr (xs_11, i_13, i_14, i_15, i_16, i_17, q_18, i_19))))
def spec_l07Go.step (self_ : Gl07Search → (Arr 96 Int) → (List GChoice) → Int → Option (Bool × Gl07Search)) (s0 : Gl07Search) (d1 : Arr 96 Int) (list2 : List GChoice) (cost3 : Int) : Option (Bool × Gl07Search) := (if ((list2.length : Int) == (s0.ft.length : Int)) = true then (if ([] : List GChoice).length + list2.length ≤ 4294967296 then some (true, (⟨(⟨s0.ff.fSteps, s0.ff.fHammers⟩ : GFrame), s0.ft, (⟨s0.fc.fAway, s0.fc.fOctave, s0.fc.fStep⟩ : GCosts), s0.fall, s0.fbounds, s0.fbudget, s0.flooks, true, (([] : List GChoice) ++ list2), cost3⟩ : Gl07Search)) else none) else (loop (spec_l07Go.l_21 self_ s0 d1 list2 cost3) (s0.fbest, s0.fc.fAway, s0.fc.fOctave, s0.fc.fStep, s0.fbudget, s0.flooks, s0.ffound, s0.fleast, 0)).bind fun t_22 => match t_22 with | .inl p => some p | .inr p => spec_l07Go.k_10 s0 p.1 p.2.1 p.2.2.1 p.2.2.2.1 p.2.2.2.2.1 p.2.2.2.2.2.1 p.2.2.2.2.2.2.1 p.2.2.2.2.2.2.2)
def spec_l07Go.rec_ : Nat → Gl07Search → (Arr 96 Int) → (List GChoice) → Int → Option (Bool × Gl07Search)
  | 0 => fun s0 d1 list2 cost3 => none
  | fu + 1 => spec_l07Go.step (spec_l07Go.rec_ fu)
def spec_l07Go (s0 : Gl07Search) (d1 : Arr 96 Int) (list2 : List GChoice) (cost3 : Int) : Option (Bool × Gl07Search) := spec_l07Go.rec_ 130 s0 d1 list2 cost3
set_option maxHeartbeats 8000000 in
theorem spec_l07Go.step_calls (self_ : Gl07Search → (Arr 96 Int) → (List GChoice) → Int → Option (Bool × Gl07Search)) (hself : ∀ (s0 : Gl07Search) (d1 : Arr 96 Int) (list2 : List GChoice) (cost3 : Int) (w : World) (r : Bool × Gl07Search) {D_a : Option Addr} {D_an : Nat} (D_c : Nat) (D_h : Rw w D_a 2 encGHammer s0.ff.fHammers) (D_hn : s0.ff.fHammers.length = D_an) {E_a : Option Addr} {E_an : Nat} (E_c : Nat) (E_h : Rw w E_a 2 encGNote s0.ft) (E_hn : s0.ft.length = E_an) {J_a : Option Addr} {J_an : Nat} (J_c : Nat) {J_hs : List Hd} (J_h : Rw w J_a 1 encHd J_hs) (J_hn : s0.fall.length = J_an) {K_a : Option Addr} {K_an : Nat} (K_c : Nat) (K_h : Rw w K_a 1 encI64 s0.fbounds) (K_hn : s0.fbounds.length = K_an) {O_a : Option Addr} {O_an : Nat} (O_c : Nat) (O_hn : s0.fbest.length = O_an) {R_a : Option Addr} {R_an : Nat} (R_c : Nat) (R_h : Rw w R_a 4 encGChoice list2) (R_hn : list2.length = R_an) (A_b : Nat) (B_b : Nat) (hm0 : Mem w (bs [some A_b, some B_b]) [⟨some A_b, 213, [(.pointer (some ⟨B_b, 0, none⟩)), (.slice E_a E_an E_c), (.int .i16 s0.fc.fAway), (.int .i16 s0.fc.fOctave), (.int .i16 s0.fc.fStep), (.slice J_a J_an J_c), (.slice K_a K_an K_c), (.int .i64 s0.fbudget), (.int .i64 s0.flooks), (.bool s0.ffound), (.slice O_a O_an O_c), (.int .i64 s0.fleast)]⟩, ⟨some B_b, 27, [(.int .i16 s0.ff.fSteps), (.slice D_a D_an D_c)]⟩] w) (D_ha : s0.ff.fHammers ≠ [] → aB D_a ∉ bs [some A_b, some B_b]) (E_ha : s0.ft ≠ [] → aB E_a ∉ bs [some A_b, some B_b]) (J_ha : J_hs ≠ [] → aB J_a ∉ bs [some A_b, some B_b]) (J_i : Inn w (bs [some A_b, some B_b]) 4 encGChoice J_hs s0.fall) (K_ha : s0.fbounds ≠ [] → aB K_a ∉ bs [some A_b, some B_b]) (R_ha : list2 ≠ [] → aB R_a ∉ bs [some A_b, some B_b]) (h : self_ s0 d1 list2 cost3 = some r),
    Calls Tryz.prog 165 #[(.pointer (some ⟨A_b, 0, none⟩)), (.agg (row encU32 d1.1 []).toArray), (.slice R_a R_an R_c), (.int .i64 cost3)] w fun e w' => ∃ v, e = .returned v ∧ (∃ (lo : Option Nat) (la : Option Addr) (lc : Nat) (lsp : List Value) (ln : Nat), r.2.fbest.length = ln ∧ LsB lo la lc lsp ln r.2.fbest 4 [(O_a, O_c, s0.fbest), (R_a, R_c, list2)] ∧ v = (.bool r.1) ∧ Mem w (bs [some A_b, some B_b]) [⟨some A_b, 213, [(.pointer (some ⟨B_b, 0, none⟩)), (.slice E_a E_an E_c), (.int .i16 r.2.fc.fAway), (.int .i16 r.2.fc.fOctave), (.int .i16 r.2.fc.fStep), (.slice J_a J_an J_c), (.slice K_a K_an K_c), (.int .i64 r.2.fbudget), (.int .i64 r.2.flooks), (.bool r.2.ffound), (.slice la ln lc), (.int .i64 r.2.fleast)]⟩, ⟨some B_b, 27, [(.int .i16 s0.ff.fSteps), (.slice D_a D_an D_c)]⟩, ⟨lo, 104, row encGChoice r.2.fbest lsp⟩] w')) (s0 : Gl07Search) (d1 : Arr 96 Int) (list2 : List GChoice) (cost3 : Int) (w : World) (r : Bool × Gl07Search) {D_a : Option Addr} {D_an : Nat} (D_c : Nat) (D_h : Rw w D_a 2 encGHammer s0.ff.fHammers) (D_hn : s0.ff.fHammers.length = D_an) {E_a : Option Addr} {E_an : Nat} (E_c : Nat) (E_h : Rw w E_a 2 encGNote s0.ft) (E_hn : s0.ft.length = E_an) {J_a : Option Addr} {J_an : Nat} (J_c : Nat) {J_hs : List Hd} (J_h : Rw w J_a 1 encHd J_hs) (J_hn : s0.fall.length = J_an) {K_a : Option Addr} {K_an : Nat} (K_c : Nat) (K_h : Rw w K_a 1 encI64 s0.fbounds) (K_hn : s0.fbounds.length = K_an) {O_a : Option Addr} {O_an : Nat} (O_c : Nat) (O_hn : s0.fbest.length = O_an) {R_a : Option Addr} {R_an : Nat} (R_c : Nat) (R_h : Rw w R_a 4 encGChoice list2) (R_hn : list2.length = R_an) (A_b : Nat) (B_b : Nat) (hm0 : Mem w (bs [some A_b, some B_b]) [⟨some A_b, 213, [(.pointer (some ⟨B_b, 0, none⟩)), (.slice E_a E_an E_c), (.int .i16 s0.fc.fAway), (.int .i16 s0.fc.fOctave), (.int .i16 s0.fc.fStep), (.slice J_a J_an J_c), (.slice K_a K_an K_c), (.int .i64 s0.fbudget), (.int .i64 s0.flooks), (.bool s0.ffound), (.slice O_a O_an O_c), (.int .i64 s0.fleast)]⟩, ⟨some B_b, 27, [(.int .i16 s0.ff.fSteps), (.slice D_a D_an D_c)]⟩] w) (D_ha : s0.ff.fHammers ≠ [] → aB D_a ∉ bs [some A_b, some B_b]) (E_ha : s0.ft ≠ [] → aB E_a ∉ bs [some A_b, some B_b]) (J_ha : J_hs ≠ [] → aB J_a ∉ bs [some A_b, some B_b]) (J_i : Inn w (bs [some A_b, some B_b]) 4 encGChoice J_hs s0.fall) (K_ha : s0.fbounds ≠ [] → aB K_a ∉ bs [some A_b, some B_b]) (R_ha : list2 ≠ [] → aB R_a ∉ bs [some A_b, some B_b]) (h : spec_l07Go.step self_ s0 d1 list2 cost3 = some r) :
    Calls Tryz.prog 165 #[(.pointer (some ⟨A_b, 0, none⟩)), (.agg (row encU32 d1.1 []).toArray), (.slice R_a R_an R_c), (.int .i64 cost3)] w fun e w' => ∃ v, e = .returned v ∧ (∃ (lo : Option Nat) (la : Option Addr) (lc : Nat) (lsp : List Value) (ln : Nat), r.2.fbest.length = ln ∧ LsB lo la lc lsp ln r.2.fbest 4 [(O_a, O_c, s0.fbest), (R_a, R_c, list2)] ∧ v = (.bool r.1) ∧ Mem w (bs [some A_b, some B_b]) [⟨some A_b, 213, [(.pointer (some ⟨B_b, 0, none⟩)), (.slice E_a E_an E_c), (.int .i16 r.2.fc.fAway), (.int .i16 r.2.fc.fOctave), (.int .i16 r.2.fc.fStep), (.slice J_a J_an J_c), (.slice K_a K_an K_c), (.int .i64 r.2.fbudget), (.int .i64 r.2.flooks), (.bool r.2.ffound), (.slice la ln lc), (.int .i64 r.2.fleast)]⟩, ⟨some B_b, 27, [(.int .i16 s0.ff.fSteps), (.slice D_a D_an D_c)]⟩, ⟨lo, 104, row encGChoice r.2.fbest lsp⟩] w') := by
  subst D_hn E_hn J_hn K_hn O_hn R_hn
  rw [spec_l07Go.step] at h
  refine enter (args := [(.pointer (some ⟨A_b, 0, none⟩)), (.agg (row encU32 d1.1 []).toArray), (.slice R_a list2.length R_c), (.int .i64 cost3)]) Tryz.func165 rfl Tryz.ntmps165 (by kernel_rfl) (L := [⟨some A_b, 213, [(.pointer (some ⟨B_b, 0, none⟩)), (.slice E_a s0.ft.length E_c), (.int .i16 s0.fc.fAway), (.int .i16 s0.fc.fOctave), (.int .i16 s0.fc.fStep), (.slice J_a s0.fall.length J_c), (.slice K_a s0.fbounds.length K_c), (.int .i64 s0.fbudget), (.int .i64 s0.flooks), (.bool s0.ffound), (.slice O_a s0.fbest.length O_c), (.int .i64 s0.fleast)]⟩, ⟨some B_b, 27, [(.int .i16 s0.ff.fSteps), (.slice D_a s0.ff.fHammers.length D_c)]⟩]) (W := bs [some A_b, some B_b]) hm0 ?_
  refine jc_ghostX 104 encGChoice s0.fbest ?_
  refine jc_seq (jc_region (tO (qa 0 (fun b_1 => jkO (qh [0] (qe (jx_then (jc_seq (jc_region (qh [0,0,0] (qe (jx_then (jc_seq (jc_seq (jc_region (qh [0,0,0,0,0,0,0] (qe (jx_then (qi h (fun h => ?_) (fun h => ?_))))))))))))))))))))
  ·refine jc_seq (jc_region (qh [0,0,0] (tO (qs 0 [0] (jkO (qe (jx_then (jc_seq (jc_region (qh [0] (tO (qa 0 (fun b_11 => jkO (qh [0] ?_))))))))))))))
   obtain ⟨hg_12, h⟩ := gd h
   refine tO (p_apn 0 4 (some b_11) 104 0 list2.length 0 4 4 R_a encGChoice ([] : List GChoice) list2 [] (.agg #[(.bool false), (.int .i8 0), (.int .i8 0), (.int .i8 0)]) rfl rfl (by kernel_rfl) (by kernel_rfl) (by kernel_rfl) encGChoice_len encGChoice_cell (fun _ => ⟨Nat.le_refl _, by simp⟩) (fun e => nomatch e) (fun w hm => (hm.exRowW R_h R_ha)) hg_12 (by kernel_rfl) (by kernel_rfl) (fun o_13 cap_14 sp_15 hs_16 ho_17 => jkO (qh [0,0] (tO (qs 0 [0] (jk_lsM 2 4 ⟨o_13, 104, row encGChoice (([] : List GChoice) ++ list2) sp_15⟩ (jkO (qe (jx_then (jc_seq (jc_region (qh [0,0,0,0] (tO (qs 0 [0] (jkO (qe (jx_then (jc_seq (jc_region (qh [0] (qe (jx_then (jc_ret (jx_thenr ?_))))))))))))))))))))))))
   obtain rfl := Option.some.inj h
   exact qr [] (fun w hm => ⟨o_13, (o_13.map fun b => ⟨b, 0, none⟩), cap_14, sp_15, ((([] : List GChoice) ++ list2).length), rfl, (lsO hs_16 ho_17), rfl, hm.pk [0, 1, 2]⟩)
  ·refine jc_skip (jx_then (jc_seq (jc_seq (jc_region (qh [0] (qe (jx_then (jc_meet (fun (j : (List GChoice) × Int × Int × Int × Int × Int × Bool × Int × (Option Nat) × (Option Addr) × Nat × (List Value) × Nat) => match j with | ⟨xs_1, i_3, i_4, i_5, i_6, i_7, q_8, i_9, o_769, a_2, cap_770, sp_771, n_772⟩ => spec_l07Go.k_10 s0 xs_1 i_3 i_4 i_5 i_6 i_7 q_8 i_9 = some r ∧ (xs_1.length = n_772) ∧ (LsB o_769 a_2 cap_770 sp_771 n_772 xs_1 4 [(O_a, O_c, s0.fbest), (R_a, R_c, list2)])) (fun (j : (List GChoice) × Int × Int × Int × Int × Int × Bool × Int × (Option Nat) × (Option Addr) × Nat × (List Value) × Nat) => match j with | ⟨xs_1, i_3, i_4, i_5, i_6, i_7, q_8, i_9, o_769, a_2, cap_770, sp_771, n_772⟩ => [(8, [], (.bool false))]) (fun (j : (List GChoice) × Int × Int × Int × Int × Int × Bool × Int × (Option Nat) × (Option Addr) × Nat × (List Value) × Nat) => match j with | ⟨xs_1, i_3, i_4, i_5, i_6, i_7, q_8, i_9, o_769, a_2, cap_770, sp_771, n_772⟩ => [⟨some A_b, 213, [(.pointer (some ⟨B_b, 0, none⟩)), (.slice E_a s0.ft.length E_c), (.int .i16 i_3), (.int .i16 i_4), (.int .i16 i_5), (.slice J_a s0.fall.length J_c), (.slice K_a s0.fbounds.length K_c), (.int .i64 i_6), (.int .i64 i_7), (.bool q_8), (.slice a_2 n_772 cap_770), (.int .i64 i_9)]⟩, ⟨some B_b, 27, [(.int .i16 s0.ff.fSteps), (.slice D_a s0.ff.fHammers.length D_c)]⟩, ⟨o_769, 104, row encGChoice xs_1 sp_771⟩, ⟨(some b_1), 40, row encU32 d1.1 []⟩]) ?_ ?_))))))))
   ·refine jc_block ?_
    obtain ⟨t_22, ht_1524, hr_1274⟩ := bd h
    refine jc_loop (fun (s : (List GChoice) × Int × Int × Int × Int × Int × Bool × Int × Int) (x : (Option Nat) × (Option Addr) × Nat × (List Value) × Nat) => match s, x with | ⟨xs_11, i_13, i_14, i_15, i_16, i_17, q_18, i_19, i_20⟩, ⟨o_1269, a_12, cap_1270, sp_1271, n_1272⟩ => (xs_11.length = n_1272) ∧ (LsB o_1269 a_12 cap_1270 sp_1271 n_1272 xs_11 4 [(O_a, O_c, s0.fbest), (R_a, R_c, list2)])) (fun (s : (List GChoice) × Int × Int × Int × Int × Int × Bool × Int × Int) (x : (Option Nat) × (Option Addr) × Nat × (List Value) × Nat) => match s, x with | ⟨xs_11, i_13, i_14, i_15, i_16, i_17, q_18, i_19, i_20⟩, ⟨o_1269, a_12, cap_1270, sp_1271, n_1272⟩ => [(0, [], (.pointer (some ⟨A_b, 0, none⟩))), (2, [], (.slice R_a list2.length R_c)), (3, [], (.int .i64 cost3)), (5, [], (.pointer (some ⟨b_1, 0, none⟩))), (8, [], (.bool false)), (9, [], (.int .i64 (list2.length : Int))), (10, [], (.int .i64 i_20))]) (fun (s : (List GChoice) × Int × Int × Int × Int × Int × Bool × Int × Int) (x : (Option Nat) × (Option Addr) × Nat × (List Value) × Nat) => match s, x with | ⟨xs_11, i_13, i_14, i_15, i_16, i_17, q_18, i_19, i_20⟩, ⟨o_1269, a_12, cap_1270, sp_1271, n_1272⟩ => [⟨some A_b, 213, [(.pointer (some ⟨B_b, 0, none⟩)), (.slice E_a s0.ft.length E_c), (.int .i16 i_13), (.int .i16 i_14), (.int .i16 i_15), (.slice J_a s0.fall.length J_c), (.slice K_a s0.fbounds.length K_c), (.int .i64 i_16), (.int .i64 i_17), (.bool q_18), (.slice a_12 n_1272 cap_1270), (.int .i64 i_19)]⟩, ⟨some B_b, 27, [(.int .i16 s0.ff.fSteps), (.slice D_a s0.ff.fHammers.length D_c)]⟩, ⟨o_1269, 104, row encGChoice xs_11 sp_1271⟩, ⟨(some b_1), 40, row encU32 d1.1 []⟩]) ht_1524 ⟨(none : Option Nat), O_a, O_c, [], s0.fbest.length⟩ ⟨rfl, ls0⟩ (by kernel_rfl) [0, 1, 2, 3] (by kernel_rfl) (by kernel_rfl) ?_
    rintro ⟨xs_11, i_13, i_14, i_15, i_16, i_17, q_18, i_19, i_20⟩ ⟨o_1269, a_12, cap_1270, sp_1271, n_1272⟩ y_1275 ⟨rfl, hl_1273⟩ h
    rw [spec_l07Go.l_21] at h
    refine jc_seq (jc_seq (jc_region (qh [0,0,0,0,0,0] ?_)))
    obtain ⟨x_23, hx_1278, h⟩ := bd h
    refine tO (qx 0 J_a 1 hx_1278 rfl (J_h.sp (J_i.ixh hx_1278)) (jkO (tO (ql 0 false (fun w hm => ((hm.exRowW J_h J_ha).at (J_i.ixh hx_1278))) (jkO (tO (p_val 0 (.int .i64 (((hd J_hs (list2.length : Int)).n : Nat) : Int)) (.int .i64 (x_23.length : Int)) (by kernel_rfl) (by kernel_rfl) (congrArg (fun z : Nat => Value.int .i64 (z : Int)) (Eq.symm (J_i.get hx_1278).2.1)) (jkO (qh [0] (qe (jx_then (qi h (fun h => ?_) (fun h => ?_)))))))))))))
    ·refine jc_skip (jx_then (jc_seq (jc_block (jc_seq (jc_region (qh [0,0,0,0,0] ?_))))))
     obtain ⟨x_24, hx_1280, h⟩ := bd h
     refine tO (qx 0 J_a 1 hx_1280 rfl (J_h.sp (J_i.ixh hx_1280)) (jkO (tO (ql 0 false (fun w hm => ((hm.exRowW J_h J_ha).at (J_i.ixh hx_1280))) (jkO (qh [0] ?_))))))
     obtain ⟨x_25, hx_1281, h⟩ := bd h
     refine tO (qx 0 (hd J_hs (list2.length : Int)).a 4 hx_1281 (J_i.get hx_1280).2.1 ((J_i.get hx_1280).1.sp hx_1281) (jkO (tO (ql 0 true (fun w hm => ((hm.exRowW (J_i.get hx_1280).1 (J_i.get hx_1280).2.2).at hx_1281)) (jkO (tO (qa 0 (fun b_1282 => jkO (tO (qs 0 [4] (jkO (qe (jx_then (jc_seq (qg [⟨some A_b, 213, [(.pointer (some ⟨B_b, 0, none⟩)), (.slice E_a s0.ft.length E_c), (.int .i16 i_13), (.int .i16 i_14), (.int .i16 i_15), (.slice J_a s0.fall.length J_c), (.slice K_a s0.fbounds.length K_c), (.int .i64 i_16), (.int .i64 i_17), (.bool q_18), (.slice a_12 xs_11.length cap_1270), (.int .i64 i_19)]⟩, ⟨some B_b, 27, [(.int .i16 s0.ff.fSteps), (.slice D_a s0.ff.fHammers.length D_c)]⟩, ⟨o_1269, 104, row encGChoice xs_11 sp_1271⟩, ⟨(some b_1), 40, row encU32 d1.1 []⟩, ⟨some b_1282, 104, [(.bool x_25.fAway), (.int .i8 x_25.fLate), (.int .i8 x_25.fOctave), (.int .i8 x_25.fTrack)]⟩] 9 (qd [⟨0, 0, 0⟩,⟨1, 0, 0⟩,⟨2, 0, 0⟩,⟨3, 0, 0⟩,⟨4, 0, 0⟩,⟨5, 4, 0⟩] 3 [0, 1, 2, 3, 4] ?_))))))))))))))))
     obtain ⟨t_26, ht_1283, h⟩ := bd h
     refine tD 6 (pc 0 (fun w hm => spec_l07Cost.calls (⟨i_13, i_14, i_15⟩ : GCosts) x_25 w _ ht_1283) ?_)
     rintro w v w' hm ⟨rfl, hm'⟩
     refine ⟨_, hm.app hm', kD [0, 1, 2, 3, 4] ?_⟩
     clear hm hm'
     refine qd [⟨7, 0, 0⟩,⟨8, 0, 0⟩] 0 [0, 1, 2, 3, 4] (qz (jx_then (jc_seq (jc_region (tO (p_ldA 0 3 b_1 96 1 40 encU32 d1 (by kernel_rfl) (by kernel_rfl) (by kernel_rfl) encU32_len (by kernel_rfl) (jkO (tO (qa 0 (fun b_1284 => jkO (tO (p_sA 0 5 b_1284 96 1 40 encU32 (Arr.rep 96 0) d1 (by kernel_rfl) (by kernel_rfl) (by kernel_rfl) encU32_len encU32_cell (by kernel_rfl) (jkO (qe (jx_then (jc_seq (jc_meet (fun (j : (Arr 96 Int)) => match j with | a_27 => spec_l07Go.k_28 self_ s0 list2 cost3 xs_11 i_13 i_14 i_15 i_16 i_17 q_18 i_19 i_20 x_25 t_26 a_27 = some y_1275) (fun (j : (Arr 96 Int)) => match j with | a_27 => [(0, [], (.pointer (some ⟨A_b, 0, none⟩))), (2, [], (.slice R_a list2.length R_c)), (3, [], (.int .i64 cost3)), (5, [], (.pointer (some ⟨b_1, 0, none⟩))), (8, [], (.bool false)), (9, [], (.int .i64 (list2.length : Int))), (10, [], (.int .i64 i_20)), (11, [], (.pointer (some ⟨b_1282, 0, none⟩))), (12, [], (.int .i64 (w64 (cost3 + t_26)))), (13, [], (.pointer (some ⟨b_1284, 0, none⟩)))]) (fun (j : (Arr 96 Int)) => match j with | a_27 => [⟨some A_b, 213, [(.pointer (some ⟨B_b, 0, none⟩)), (.slice E_a s0.ft.length E_c), (.int .i16 i_13), (.int .i16 i_14), (.int .i16 i_15), (.slice J_a s0.fall.length J_c), (.slice K_a s0.fbounds.length K_c), (.int .i64 i_16), (.int .i64 i_17), (.bool q_18), (.slice a_12 xs_11.length cap_1270), (.int .i64 i_19)]⟩, ⟨some B_b, 27, [(.int .i16 s0.ff.fSteps), (.slice D_a s0.ff.fHammers.length D_c)]⟩, ⟨o_1269, 104, row encGChoice xs_11 sp_1271⟩, ⟨(some b_1), 40, row encU32 d1.1 []⟩, ⟨some b_1282, 104, [(.bool x_25.fAway), (.int .i8 x_25.fLate), (.int .i8 x_25.fOctave), (.int .i8 x_25.fTrack)]⟩, ⟨(some b_1284), 40, row encU32 a_27.1 []⟩]) ?_ ?_)))))))))))))))))
     ·refine jc_seq (qg [⟨some A_b, 213, [(.pointer (some ⟨B_b, 0, none⟩)), (.slice E_a s0.ft.length E_c), (.int .i16 i_13), (.int .i16 i_14), (.int .i16 i_15), (.slice J_a s0.fall.length J_c), (.slice K_a s0.fbounds.length K_c), (.int .i64 i_16), (.int .i64 i_17), (.bool q_18), (.slice a_12 xs_11.length cap_1270), (.int .i64 i_19)]⟩, ⟨some B_b, 27, [(.int .i16 s0.ff.fSteps), (.slice D_a s0.ff.fHammers.length D_c)]⟩, ⟨o_1269, 104, row encGChoice xs_11 sp_1271⟩, ⟨(some b_1), 40, row encU32 d1.1 []⟩, ⟨some b_1282, 104, [(.bool x_25.fAway), (.int .i8 x_25.fLate), (.int .i8 x_25.fOctave), (.int .i8 x_25.fTrack)]⟩] 37 (qd [⟨0, 0, 0⟩,⟨1, 0, 0⟩,⟨2, 0, 0⟩,⟨3, 0, 0⟩,⟨4, 0, 0⟩,⟨5, 0, 0⟩,⟨6, 0, 0⟩,⟨7, 0, 0⟩,⟨8, 0, 0⟩,⟨11, 4, 0⟩] 27 [0, 1, 2, 3, 4] ?_))
      obtain ⟨x_42, hx_1515, h⟩ := bd h
      refine qv 9 0 [0, 1, 2, 3, 4] (fun w hm => idx_run (a := E_a) (len := s0.ft.length) (s := 2) (j := (list2.length : Int)) (by kernel_rfl) (ix_some hx_1515).1 (ltn hx_1515 rfl) (E_h.sp hx_1515)) (qv 10 0 [0, 1, 2, 3, 4] (fun w hm => ld_run (b := aB E_a) (off := (aO E_a + (list2.length : Int).toNat * 2)) (s := 2) (agg := true) (vs := (encGNote x_42)) (by kernel_rfl) (by kernel_rfl) (.inl rfl) ((hm.exRowW E_h E_ha).at hx_1515)) ?_)
      obtain ⟨t_43, ht_1516, h⟩ := bd h
      refine tD 12 (pc 0 (fun w hm => spec_l07Put.calls (⟨s0.ff.fSteps, s0.ff.fHammers⟩ : GFrame) d1 x_42 x_25 w _ D_c (hm.exRowW D_h D_ha) rfl B_b b_1284 (hm.pass (N := [⟨some B_b, 27, [(.int .i16 s0.ff.fSteps), (.slice D_a s0.ff.fHammers.length D_c)]⟩, ⟨(some b_1284), 40, row encU32 d1.1 []⟩]) [1, 5] (by kernel_rfl) (by kernel_rfl)) (hm.exApart (N := [⟨some B_b, 27, [(.int .i16 s0.ff.fSteps), (.slice D_a s0.ff.fHammers.length D_c)]⟩, ⟨(some b_1284), 40, row encU32 d1.1 []⟩]) D_h D_ha [1, 5] (by kernel_rfl)) ht_1516) ?_)
      rintro w v w' hm ⟨rfl, hm'⟩
      refine ⟨_, hm.appW (ps := [(1, ⟨some B_b, 27, [(.int .i16 s0.ff.fSteps), (.slice D_a s0.ff.fHammers.length D_c)]⟩), (5, ⟨(some b_1284), 40, row encU32 t_43.2.1 []⟩)]) (N := []) hm' (by kernel_rfl) (by kernel_rfl), kD [0, 1, 2, 3, 4] ?_⟩
      clear hm hm'
      refine qd [⟨13, 0, 0⟩,⟨14, 0, 0⟩,⟨15, 0, 1⟩,⟨16, 0, 1⟩,⟨17, 0, 1⟩,⟨18, 0, 1⟩] 18 [0, 1, 2, 3, 4] (jd_split 81 (!t_43.1) (by kernel_rfl) (fun hc_1517 => ?_) (fun hc_1517 => ?_))
      ·replace h := ifT hc_1517 h
       exact qd [⟨19, 0, 3⟩,⟨20, 0, 3⟩,⟨21, 0, 3⟩,⟨22, 0, 3⟩,⟨23, 0, 3⟩,⟨24, 0, 3⟩,⟨25, 0, 3⟩,⟨26, 0, 3⟩,⟨27, 0, 3⟩,⟨28, 0, 3⟩,⟨29, 0, 3⟩,⟨30, 0, 3⟩,⟨31, 0, 3⟩,⟨32, 0, 3⟩,⟨33, 0, 3⟩,⟨34, 0, 3⟩,⟨35, 0, 3⟩,⟨36, 0, 4⟩] 0 [0, 1, 2, 3, 4] (qz (jx_then (jc_cond true (by kernel_rfl) (fun hc_1518 => (jc_exit (jx_thenx (jx_thenx (jx_ine (jx_then (jc_region (qh [0,0,0] (qe (qb (xs_11, i_13, i_14, i_15, i_16, i_17, q_18, i_19, (w64 (i_20 + 1))) ⟨o_1269, a_12, cap_1270, sp_1271, xs_11.length⟩ h ⟨rfl, hl_1273⟩ [0, 1, 2, 3])))))))))) (fun hc_1518 => nomatch hc_1518))))
      ·replace h := ifF hc_1517 h
       refine qd [⟨19, 0, 2⟩,⟨20, 0, 1⟩,⟨21, 0, 1⟩,⟨22, 0, 1⟩,⟨23, 0, 1⟩,⟨24, 0, 1⟩,⟨25, 0, 1⟩,⟨26, 0, 1⟩,⟨30, 0, 1⟩,⟨31, 0, 1⟩,⟨32, 0, 1⟩,⟨33, 0, 1⟩] 6 [0, 1, 2, 3, 4] (jd_split 86 q_18 (by kernel_rfl) (fun hc_1519 => ?_) (fun hc_1519 => ?_))
       ·replace h := ifT hc_1519 h
        obtain ⟨x_44, hx_1520, h⟩ := bd h
        refine qv 27 2 [0, 1, 2, 3, 4] (fun w hm => idx_run (a := K_a) (len := s0.fbounds.length) (s := 1) (j := (w64 ((list2.length : Int) + 1))) (by kernel_rfl) (ix_some hx_1520).1 (ltn hx_1520 rfl) (K_h.sp hx_1520)) (qv 28 2 [0, 1, 2, 3, 4] (fun w hm => ld_run (b := aB K_a) (off := (aO K_a + (w64 ((list2.length : Int) + 1)).toNat * 1)) (s := 1) (agg := false) (vs := (encI64 x_44)) (by kernel_rfl) (by kernel_rfl) (.inr rfl) ((hm.exRowW K_h K_ha).at hx_1520)) (qd [⟨29, 0, 2⟩,⟨34, 0, 2⟩,⟨35, 0, 4⟩,⟨36, 0, 5⟩] 0 [0, 1, 2, 3, 4] (qz (jx_then (qi h (fun h => ?_) (fun h => ?_))))))
        ·exact jc_exit (jx_thenx (jx_thenx (jx_ine (jx_then (jc_region (qh [0,0,0] (qe (qb (xs_11, i_13, i_14, i_15, i_16, i_17, q_18, i_19, (w64 (i_20 + 1))) ⟨o_1269, a_12, cap_1270, sp_1271, xs_11.length⟩ h ⟨rfl, hl_1273⟩ [0, 1, 2, 3]))))))))
        ·exact jc_skip (qm t_43.2 h [0, 1, 2, 3, 4, 5])
       ·replace h := ifF hc_1519 h
        exact qd [⟨27, 0, 3⟩,⟨28, 0, 3⟩,⟨29, 0, 3⟩,⟨34, 0, 3⟩,⟨35, 0, 5⟩,⟨36, 0, 5⟩] 0 [0, 1, 2, 3, 4] (qz (jx_then (jc_cond false (by kernel_rfl) (fun hc_1522 => nomatch hc_1522) (fun hc_1522 => (jc_skip (qm t_43.2 h [0, 1, 2, 3, 4, 5]))))))
     ·rintro a_27 h
      replace h : spec_l07Go.k_28 self_ s0 list2 cost3 xs_11 i_13 i_14 i_15 i_16 i_17 q_18 i_19 i_20 x_25 t_26 a_27 = some y_1275 := h
      rw [spec_l07Go.k_28] at h
      refine jx_then (jc_seq (jc_seq (qg [⟨some A_b, 213, [(.pointer (some ⟨B_b, 0, none⟩)), (.slice E_a s0.ft.length E_c), (.int .i16 i_13), (.int .i16 i_14), (.int .i16 i_15), (.slice J_a s0.fall.length J_c), (.slice K_a s0.fbounds.length K_c), (.int .i64 i_16), (.int .i64 i_17), (.bool q_18), (.slice a_12 xs_11.length cap_1270), (.int .i64 i_19)]⟩, ⟨some B_b, 27, [(.int .i16 s0.ff.fSteps), (.slice D_a s0.ff.fHammers.length D_c)]⟩, ⟨o_1269, 104, row encGChoice xs_11 sp_1271⟩, ⟨(some b_1), 40, row encU32 d1.1 []⟩, ⟨some b_1282, 104, [(.bool x_25.fAway), (.int .i8 x_25.fLate), (.int .i8 x_25.fOctave), (.int .i8 x_25.fTrack)]⟩, ⟨(some b_1284), 40, row encU32 a_27.1 []⟩] 9 (qd [⟨0, 0, 0⟩,⟨1, 0, 0⟩,⟨2, 0, 0⟩,⟨3, 0, 0⟩,⟨4, 0, 0⟩,⟨5, 0, 0⟩,⟨6, 0, 0⟩,⟨7, 0, 0⟩,⟨8, 0, 0⟩] 0 [0, 1, 2, 3, 4, 5] (qz (jx_then (qi h (fun h => ?_) (fun h => ?_))))))))
      ·refine jc_seq (jc_region (qh [0] (qe (jx_then (jc_ret (jx_thenr (jx_inr (jx_thenr (jx_leaver (.inl (false, (⟨(⟨s0.ff.fSteps, s0.ff.fHammers⟩ : GFrame), s0.ft, (⟨i_13, i_14, i_15⟩ : GCosts), s0.fall, s0.fbounds, i_16, i_17, q_18, xs_11, i_19⟩ : Gl07Search))) (Option.some.inj h).symm (fun e_1296 => ?_))))))))))
       subst e_1296
       refine jx_inr (jx_thenr (jx_thenr ?_))
       obtain rfl := Option.some.inj hr_1274
       exact qr [] (fun w hm => ⟨o_1269, a_12, cap_1270, sp_1271, xs_11.length, rfl, hl_1273, rfl, hm.pk [0, 1, 2]⟩)
      ·refine jc_skip (jx_then (jc_seq (jc_region (qh [0,0,0,0,0,0,0] (tO (qs 0 [0] (jkO (qe (jx_then (jc_seq (jc_meet (fun (j : (List GChoice) × Int × Int × Int × Int × Int × Bool × Int × Bool × (Option Nat) × (Option Addr) × Nat × (List Value) × Nat) => match j with | ⟨xs_29, i_31, i_32, i_33, i_34, i_35, q_36, i_37, q_38, o_1402, a_30, cap_1403, sp_1404, n_1405⟩ => spec_l07Go.k_39 s0 i_20 xs_29 i_31 i_32 i_33 i_34 i_35 q_36 i_37 q_38 = some y_1275 ∧ (xs_29.length = n_1405) ∧ (LsB o_1402 a_30 cap_1403 sp_1404 n_1405 xs_29 4 [(O_a, O_c, s0.fbest), (R_a, R_c, list2)])) (fun (j : (List GChoice) × Int × Int × Int × Int × Int × Bool × Int × Bool × (Option Nat) × (Option Addr) × Nat × (List Value) × Nat) => match j with | ⟨xs_29, i_31, i_32, i_33, i_34, i_35, q_36, i_37, q_38, o_1402, a_30, cap_1403, sp_1404, n_1405⟩ => [(0, [], (.pointer (some ⟨A_b, 0, none⟩))), (2, [], (.slice R_a list2.length R_c)), (3, [], (.int .i64 cost3)), (5, [], (.pointer (some ⟨b_1, 0, none⟩))), (8, [], (.bool false)), (9, [], (.int .i64 (list2.length : Int))), (10, [], (.int .i64 i_20)), (130, [], (.bool q_38))]) (fun (j : (List GChoice) × Int × Int × Int × Int × Int × Bool × Int × Bool × (Option Nat) × (Option Addr) × Nat × (List Value) × Nat) => match j with | ⟨xs_29, i_31, i_32, i_33, i_34, i_35, q_36, i_37, q_38, o_1402, a_30, cap_1403, sp_1404, n_1405⟩ => [⟨some A_b, 213, [(.pointer (some ⟨B_b, 0, none⟩)), (.slice E_a s0.ft.length E_c), (.int .i16 i_31), (.int .i16 i_32), (.int .i16 i_33), (.slice J_a s0.fall.length J_c), (.slice K_a s0.fbounds.length K_c), (.int .i64 i_34), (.int .i64 i_35), (.bool q_36), (.slice a_30 n_1405 cap_1403), (.int .i64 i_37)]⟩, ⟨some B_b, 27, [(.int .i16 s0.ff.fSteps), (.slice D_a s0.ff.fHammers.length D_c)]⟩, ⟨o_1402, 104, row encGChoice xs_29 sp_1404⟩, ⟨(some b_1), 40, row encU32 d1.1 []⟩, ⟨some b_1282, 104, [(.bool x_25.fAway), (.int .i8 x_25.fLate), (.int .i8 x_25.fOctave), (.int .i8 x_25.fTrack)]⟩, ⟨(some b_1284), 40, row encU32 a_27.1 []⟩]) ?_ ?_)))))))))))
       ·refine qg [⟨some B_b, 27, [(.int .i16 s0.ff.fSteps), (.slice D_a s0.ff.fHammers.length D_c)]⟩, ⟨(some b_1), 40, row encU32 d1.1 []⟩, ⟨some b_1282, 104, [(.bool x_25.fAway), (.int .i8 x_25.fLate), (.int .i8 x_25.fOctave), (.int .i8 x_25.fTrack)]⟩, ⟨(some b_1284), 40, row encU32 a_27.1 []⟩] 11 (qd [⟨0, 0, 0⟩,⟨3, 0, 0⟩,⟨5, 2, 0⟩,⟨8, 0, 0⟩] 7 [1, 3, 4, 5] (qv 1 0 [1, 3, 4, 5] (fun w hm => ld_run (b := b_1284) (off := 0) (s := 96) (agg := true) (vs := row encU32 a_27.1 []) (by kernel_rfl) ((row_len encU32_len a_27).trans rfl) (.inl rfl) (hm.all (hh := 3) (T := 40) (by kernel_rfl))) (toD2 2 6 (by kernel_rfl) ?_ ?_)))
        ·refine qa 0 (fun b_1446 => kD [1, 3, 4, 5] (toD2 4 6 (by kernel_rfl) ?_ ?_))
         ·obtain ⟨hg_1447, h⟩ := gd h
          refine p_apn 0 6 (some b_1446) 104 0 list2.length 0 4 4 R_a encGChoice ([] : List GChoice) list2 [] (.agg #[(.bool false), (.int .i8 0), (.int .i8 0), (.int .i8 0)]) rfl rfl (by kernel_rfl) (by kernel_rfl) (by kernel_rfl) encGChoice_len encGChoice_cell (fun _ => ⟨Nat.le_refl _, by simp⟩) (fun e => nomatch e) (fun w hm => (hm.exRowW R_h R_ha)) hg_1447 (by kernel_rfl) (by kernel_rfl) (fun o_1448 cap_1449 sp_1450 hs_1451 ho_1452 => kD [1, 3, 4, 5] (tD 6 (qa 0 (fun b_1453 => kD [1, 3, 4, 5] ?_))))
          obtain ⟨hg_1454, h⟩ := gd h
          refine tD 7 (p_apn 0 6 o_1448 104 ((([] : List GChoice) ++ list2).length) 1 cap_1449 4 4 (some ⟨b_1453, 0, none⟩) encGChoice (([] : List GChoice) ++ list2) ([x_25] : List GChoice) sp_1450 (.agg #[(.bool false), (.int .i8 0), (.int .i8 0), (.int .i8 0)]) rfl rfl (by kernel_rfl) (by kernel_rfl) (by kernel_rfl) encGChoice_len encGChoice_cell hs_1451 ho_1452 (fun w hm => (hm.ow 7 (some b_1453) 104 ([x_25] : List GChoice) [] (fun e => nomatch e) encGChoice_len)) hg_1454 (by kernel_rfl) (by kernel_rfl) (fun o_1455 cap_1456 sp_1457 hs_1458 ho_1459 => kD [1, 3, 4, 5] ?_))
          obtain ⟨t_40, ht_1460, h⟩ := bd h
          refine tD 9 (pc 0 (fun w hm => hself (⟨(⟨s0.ff.fSteps, s0.ff.fHammers⟩ : GFrame), s0.ft, (⟨i_13, i_14, i_15⟩ : GCosts), s0.fall, s0.fbounds, i_16, (w64 (i_17 + 1)), q_18, xs_11, i_19⟩ : Gl07Search) a_27 ((([] : List GChoice) ++ list2) ++ ([x_25] : List GChoice)) (w64 (cost3 + t_26)) w _ D_c (hm.exRowW D_h D_ha) rfl E_c (hm.exRowW E_h E_ha) rfl J_c (hm.exRowW J_h J_ha) rfl K_c (hm.exRowW K_h K_ha) rfl cap_1270 rfl cap_1456 (hm.ow 6 o_1455 104 ((([] : List GChoice) ++ list2) ++ ([x_25] : List GChoice)) sp_1457 (fun e => (ho_1459 e).1) encGChoice_len) rfl A_b B_b (hm.pass (N := [⟨some A_b, 213, [(.pointer (some ⟨B_b, 0, none⟩)), (.slice E_a s0.ft.length E_c), (.int .i16 i_13), (.int .i16 i_14), (.int .i16 i_15), (.slice J_a s0.fall.length J_c), (.slice K_a s0.fbounds.length K_c), (.int .i64 i_16), (.int .i64 (w64 (i_17 + 1))), (.bool q_18), (.slice a_12 xs_11.length cap_1270), (.int .i64 i_19)]⟩, ⟨some B_b, 27, [(.int .i16 s0.ff.fSteps), (.slice D_a s0.ff.fHammers.length D_c)]⟩]) [0, 1] (by kernel_rfl) (by kernel_rfl)) (hm.exApart (N := [⟨some A_b, 213, [(.pointer (some ⟨B_b, 0, none⟩)), (.slice E_a s0.ft.length E_c), (.int .i16 i_13), (.int .i16 i_14), (.int .i16 i_15), (.slice J_a s0.fall.length J_c), (.slice K_a s0.fbounds.length K_c), (.int .i64 i_16), (.int .i64 (w64 (i_17 + 1))), (.bool q_18), (.slice a_12 xs_11.length cap_1270), (.int .i64 i_19)]⟩, ⟨some B_b, 27, [(.int .i16 s0.ff.fSteps), (.slice D_a s0.ff.fHammers.length D_c)]⟩]) D_h D_ha [0, 1] (by kernel_rfl)) (hm.exApart (N := [⟨some A_b, 213, [(.pointer (some ⟨B_b, 0, none⟩)), (.slice E_a s0.ft.length E_c), (.int .i16 i_13), (.int .i16 i_14), (.int .i16 i_15), (.slice J_a s0.fall.length J_c), (.slice K_a s0.fbounds.length K_c), (.int .i64 i_16), (.int .i64 (w64 (i_17 + 1))), (.bool q_18), (.slice a_12 xs_11.length cap_1270), (.int .i64 i_19)]⟩, ⟨some B_b, 27, [(.int .i16 s0.ff.fSteps), (.slice D_a s0.ff.fHammers.length D_c)]⟩]) E_h E_ha [0, 1] (by kernel_rfl)) (hm.exApart (N := [⟨some A_b, 213, [(.pointer (some ⟨B_b, 0, none⟩)), (.slice E_a s0.ft.length E_c), (.int .i16 i_13), (.int .i16 i_14), (.int .i16 i_15), (.slice J_a s0.fall.length J_c), (.slice K_a s0.fbounds.length K_c), (.int .i64 i_16), (.int .i64 (w64 (i_17 + 1))), (.bool q_18), (.slice a_12 xs_11.length cap_1270), (.int .i64 i_19)]⟩, ⟨some B_b, 27, [(.int .i16 s0.ff.fSteps), (.slice D_a s0.ff.fHammers.length D_c)]⟩]) J_h J_ha [0, 1] (by kernel_rfl)) (hm.innPass (N := [⟨some A_b, 213, [(.pointer (some ⟨B_b, 0, none⟩)), (.slice E_a s0.ft.length E_c), (.int .i16 i_13), (.int .i16 i_14), (.int .i16 i_15), (.slice J_a s0.fall.length J_c), (.slice K_a s0.fbounds.length K_c), (.int .i64 i_16), (.int .i64 (w64 (i_17 + 1))), (.bool q_18), (.slice a_12 xs_11.length cap_1270), (.int .i64 i_19)]⟩, ⟨some B_b, 27, [(.int .i16 s0.ff.fSteps), (.slice D_a s0.ff.fHammers.length D_c)]⟩]) J_i [0, 1] (by kernel_rfl)) (hm.exApart (N := [⟨some A_b, 213, [(.pointer (some ⟨B_b, 0, none⟩)), (.slice E_a s0.ft.length E_c), (.int .i16 i_13), (.int .i16 i_14), (.int .i16 i_15), (.slice J_a s0.fall.length J_c), (.slice K_a s0.fbounds.length K_c), (.int .i64 i_16), (.int .i64 (w64 (i_17 + 1))), (.bool q_18), (.slice a_12 xs_11.length cap_1270), (.int .i64 i_19)]⟩, ⟨some B_b, 27, [(.int .i16 s0.ff.fSteps), (.slice D_a s0.ff.fHammers.length D_c)]⟩]) K_h K_ha [0, 1] (by kernel_rfl)) (hm.ownApart (S := GChoice) (N := [⟨some A_b, 213, [(.pointer (some ⟨B_b, 0, none⟩)), (.slice E_a s0.ft.length E_c), (.int .i16 i_13), (.int .i16 i_14), (.int .i16 i_15), (.slice J_a s0.fall.length J_c), (.slice K_a s0.fbounds.length K_c), (.int .i64 i_16), (.int .i64 (w64 (i_17 + 1))), (.bool q_18), (.slice a_12 xs_11.length cap_1270), (.int .i64 i_19)]⟩, ⟨some B_b, 27, [(.int .i16 s0.ff.fSteps), (.slice D_a s0.ff.fHammers.length D_c)]⟩]) (hh := 6) (o := o_1455) (T := 104) (cs := row encGChoice ((([] : List GChoice) ++ list2) ++ ([x_25] : List GChoice)) sp_1457) (xs := ((([] : List GChoice) ++ list2) ++ ([x_25] : List GChoice))) (by kernel_rfl) (fun e => (ho_1459 e).1) [0, 1] (by kernel_rfl) (by kernel_rfl)) ht_1460) ?_)
          rintro w v w' hm ⟨o_1461, a_41, cap_1462, sp_1463, _, rfl, hl_1464, rfl, hm'⟩
          obtain ⟨o_1465, sp_1466, hl_1467, hM_1468⟩ := Mem.ls3 (T := 104) (enc := encGChoice) (o1 := o_1269) (sp1 := sp_1271) (xs1 := xs_11) (o := o_1461) (sp := sp_1463) (xs := t_40.2.fbest) (F := [(O_a, O_c, s0.fbest), (R_a, R_c, list2)]) (o2 := o_1455) (sp2 := sp_1457) (xs2 := ((([] : List GChoice) ++ list2) ++ ([x_25] : List GChoice))) (hm.appW (ps := [(0, ⟨some A_b, 213, [(.pointer (some ⟨B_b, 0, none⟩)), (.slice E_a s0.ft.length E_c), (.int .i16 t_40.2.fc.fAway), (.int .i16 t_40.2.fc.fOctave), (.int .i16 t_40.2.fc.fStep), (.slice J_a s0.fall.length J_c), (.slice K_a s0.fbounds.length K_c), (.int .i64 t_40.2.fbudget), (.int .i64 t_40.2.flooks), (.bool t_40.2.ffound), (.slice a_41 t_40.2.fbest.length cap_1462), (.int .i64 t_40.2.fleast)]⟩), (1, ⟨some B_b, 27, [(.int .i16 s0.ff.fSteps), (.slice D_a s0.ff.fHammers.length D_c)]⟩)]) (N := [⟨o_1461, 104, row encGChoice t_40.2.fbest sp_1463⟩]) hm' (by kernel_rfl) (by kernel_rfl)) 2 6 8 (by kernel_rfl) (by kernel_rfl) (by kernel_rfl) (by kernel_rfl) hl_1273 rfl hs_1458 ho_1459 rfl rfl hl_1464
          refine ⟨_, Mem.pick hM_1468 (N := [⟨some A_b, 213, [(.pointer (some ⟨B_b, 0, none⟩)), (.slice E_a s0.ft.length E_c), (.int .i16 t_40.2.fc.fAway), (.int .i16 t_40.2.fc.fOctave), (.int .i16 t_40.2.fc.fStep), (.slice J_a s0.fall.length J_c), (.slice K_a s0.fbounds.length K_c), (.int .i64 t_40.2.fbudget), (.int .i64 t_40.2.flooks), (.bool t_40.2.ffound), (.slice a_41 t_40.2.fbest.length cap_1462), (.int .i64 t_40.2.fleast)]⟩, ⟨some B_b, 27, [(.int .i16 s0.ff.fSteps), (.slice D_a s0.ff.fHammers.length D_c)]⟩, ⟨o_1465, 104, row encGChoice t_40.2.fbest sp_1466⟩, ⟨(some b_1), 40, row encU32 d1.1 []⟩, ⟨some b_1282, 104, [(.bool x_25.fAway), (.int .i8 x_25.fLate), (.int .i8 x_25.fOctave), (.int .i8 x_25.fTrack)]⟩, ⟨(some b_1284), 40, row encU32 a_27.1 []⟩, ⟨none, 0, []⟩, ⟨(some b_1453), 104, row encGChoice ([x_25] : List GChoice) []⟩]) [0, 1, 2, 3, 4, 5, 6, 7] (by kernel_rfl) (by kernel_rfl), kD [1, 3, 4, 5] ?_⟩
          clear hm hm' hM_1468
          exact qd [⟨10, 0, 0⟩] 0 [1, 3, 4, 5] (qz (qm ⟨t_40.2.fbest, t_40.2.fc.fAway, t_40.2.fc.fOctave, t_40.2.fc.fStep, t_40.2.fbudget, t_40.2.flooks, t_40.2.ffound, t_40.2.fleast, (!t_40.1), o_1465, a_41, cap_1462, sp_1466, t_40.2.fbest.length⟩ ⟨h, rfl, hl_1467⟩ [0, 1, 2, 3, 4, 5]))
         ·refine qa 0 (fun b_1469 => kD [1, 3, 4, 5] ?_)
          obtain ⟨hg_1470, h⟩ := gd h
          refine tD 4 (p_apn 0 6 (some b_1446) 104 0 list2.length 0 4 4 R_a encGChoice ([] : List GChoice) list2 [] (.agg #[(.bool false), (.int .i8 0), (.int .i8 0), (.int .i8 0)]) rfl rfl (by kernel_rfl) (by kernel_rfl) (by kernel_rfl) encGChoice_len encGChoice_cell (fun _ => ⟨Nat.le_refl _, by simp⟩) (fun e => nomatch e) (fun w hm => (hm.exRowW R_h R_ha)) hg_1470 (by kernel_rfl) (by kernel_rfl) (fun o_1471 cap_1472 sp_1473 hs_1474 ho_1475 => kD [1, 3, 4, 5] ?_))
          obtain ⟨hg_1476, h⟩ := gd h
          refine tD 7 (p_apn 0 6 o_1471 104 ((([] : List GChoice) ++ list2).length) 1 cap_1472 4 4 (some ⟨b_1469, 0, none⟩) encGChoice (([] : List GChoice) ++ list2) ([x_25] : List GChoice) sp_1473 (.agg #[(.bool false), (.int .i8 0), (.int .i8 0), (.int .i8 0)]) rfl rfl (by kernel_rfl) (by kernel_rfl) (by kernel_rfl) encGChoice_len encGChoice_cell hs_1474 ho_1475 (fun w hm => (hm.ow 7 (some b_1469) 104 ([x_25] : List GChoice) [] (fun e => nomatch e) encGChoice_len)) hg_1476 (by kernel_rfl) (by kernel_rfl) (fun o_1477 cap_1478 sp_1479 hs_1480 ho_1481 => kD [1, 3, 4, 5] ?_))
          obtain ⟨t_40, ht_1482, h⟩ := bd h
          refine tD 9 (pc 0 (fun w hm => hself (⟨(⟨s0.ff.fSteps, s0.ff.fHammers⟩ : GFrame), s0.ft, (⟨i_13, i_14, i_15⟩ : GCosts), s0.fall, s0.fbounds, i_16, (w64 (i_17 + 1)), q_18, xs_11, i_19⟩ : Gl07Search) a_27 ((([] : List GChoice) ++ list2) ++ ([x_25] : List GChoice)) (w64 (cost3 + t_26)) w _ D_c (hm.exRowW D_h D_ha) rfl E_c (hm.exRowW E_h E_ha) rfl J_c (hm.exRowW J_h J_ha) rfl K_c (hm.exRowW K_h K_ha) rfl cap_1270 rfl cap_1478 (hm.ow 6 o_1477 104 ((([] : List GChoice) ++ list2) ++ ([x_25] : List GChoice)) sp_1479 (fun e => (ho_1481 e).1) encGChoice_len) rfl A_b B_b (hm.pass (N := [⟨some A_b, 213, [(.pointer (some ⟨B_b, 0, none⟩)), (.slice E_a s0.ft.length E_c), (.int .i16 i_13), (.int .i16 i_14), (.int .i16 i_15), (.slice J_a s0.fall.length J_c), (.slice K_a s0.fbounds.length K_c), (.int .i64 i_16), (.int .i64 (w64 (i_17 + 1))), (.bool q_18), (.slice a_12 xs_11.length cap_1270), (.int .i64 i_19)]⟩, ⟨some B_b, 27, [(.int .i16 s0.ff.fSteps), (.slice D_a s0.ff.fHammers.length D_c)]⟩]) [0, 1] (by kernel_rfl) (by kernel_rfl)) (hm.exApart (N := [⟨some A_b, 213, [(.pointer (some ⟨B_b, 0, none⟩)), (.slice E_a s0.ft.length E_c), (.int .i16 i_13), (.int .i16 i_14), (.int .i16 i_15), (.slice J_a s0.fall.length J_c), (.slice K_a s0.fbounds.length K_c), (.int .i64 i_16), (.int .i64 (w64 (i_17 + 1))), (.bool q_18), (.slice a_12 xs_11.length cap_1270), (.int .i64 i_19)]⟩, ⟨some B_b, 27, [(.int .i16 s0.ff.fSteps), (.slice D_a s0.ff.fHammers.length D_c)]⟩]) D_h D_ha [0, 1] (by kernel_rfl)) (hm.exApart (N := [⟨some A_b, 213, [(.pointer (some ⟨B_b, 0, none⟩)), (.slice E_a s0.ft.length E_c), (.int .i16 i_13), (.int .i16 i_14), (.int .i16 i_15), (.slice J_a s0.fall.length J_c), (.slice K_a s0.fbounds.length K_c), (.int .i64 i_16), (.int .i64 (w64 (i_17 + 1))), (.bool q_18), (.slice a_12 xs_11.length cap_1270), (.int .i64 i_19)]⟩, ⟨some B_b, 27, [(.int .i16 s0.ff.fSteps), (.slice D_a s0.ff.fHammers.length D_c)]⟩]) E_h E_ha [0, 1] (by kernel_rfl)) (hm.exApart (N := [⟨some A_b, 213, [(.pointer (some ⟨B_b, 0, none⟩)), (.slice E_a s0.ft.length E_c), (.int .i16 i_13), (.int .i16 i_14), (.int .i16 i_15), (.slice J_a s0.fall.length J_c), (.slice K_a s0.fbounds.length K_c), (.int .i64 i_16), (.int .i64 (w64 (i_17 + 1))), (.bool q_18), (.slice a_12 xs_11.length cap_1270), (.int .i64 i_19)]⟩, ⟨some B_b, 27, [(.int .i16 s0.ff.fSteps), (.slice D_a s0.ff.fHammers.length D_c)]⟩]) J_h J_ha [0, 1] (by kernel_rfl)) (hm.innPass (N := [⟨some A_b, 213, [(.pointer (some ⟨B_b, 0, none⟩)), (.slice E_a s0.ft.length E_c), (.int .i16 i_13), (.int .i16 i_14), (.int .i16 i_15), (.slice J_a s0.fall.length J_c), (.slice K_a s0.fbounds.length K_c), (.int .i64 i_16), (.int .i64 (w64 (i_17 + 1))), (.bool q_18), (.slice a_12 xs_11.length cap_1270), (.int .i64 i_19)]⟩, ⟨some B_b, 27, [(.int .i16 s0.ff.fSteps), (.slice D_a s0.ff.fHammers.length D_c)]⟩]) J_i [0, 1] (by kernel_rfl)) (hm.exApart (N := [⟨some A_b, 213, [(.pointer (some ⟨B_b, 0, none⟩)), (.slice E_a s0.ft.length E_c), (.int .i16 i_13), (.int .i16 i_14), (.int .i16 i_15), (.slice J_a s0.fall.length J_c), (.slice K_a s0.fbounds.length K_c), (.int .i64 i_16), (.int .i64 (w64 (i_17 + 1))), (.bool q_18), (.slice a_12 xs_11.length cap_1270), (.int .i64 i_19)]⟩, ⟨some B_b, 27, [(.int .i16 s0.ff.fSteps), (.slice D_a s0.ff.fHammers.length D_c)]⟩]) K_h K_ha [0, 1] (by kernel_rfl)) (hm.ownApart (S := GChoice) (N := [⟨some A_b, 213, [(.pointer (some ⟨B_b, 0, none⟩)), (.slice E_a s0.ft.length E_c), (.int .i16 i_13), (.int .i16 i_14), (.int .i16 i_15), (.slice J_a s0.fall.length J_c), (.slice K_a s0.fbounds.length K_c), (.int .i64 i_16), (.int .i64 (w64 (i_17 + 1))), (.bool q_18), (.slice a_12 xs_11.length cap_1270), (.int .i64 i_19)]⟩, ⟨some B_b, 27, [(.int .i16 s0.ff.fSteps), (.slice D_a s0.ff.fHammers.length D_c)]⟩]) (hh := 6) (o := o_1477) (T := 104) (cs := row encGChoice ((([] : List GChoice) ++ list2) ++ ([x_25] : List GChoice)) sp_1479) (xs := ((([] : List GChoice) ++ list2) ++ ([x_25] : List GChoice))) (by kernel_rfl) (fun e => (ho_1481 e).1) [0, 1] (by kernel_rfl) (by kernel_rfl)) ht_1482) ?_)
          rintro w v w' hm ⟨o_1483, a_41, cap_1484, sp_1485, _, rfl, hl_1486, rfl, hm'⟩
          obtain ⟨o_1487, sp_1488, hl_1489, hM_1490⟩ := Mem.ls3 (T := 104) (enc := encGChoice) (o1 := o_1269) (sp1 := sp_1271) (xs1 := xs_11) (o := o_1483) (sp := sp_1485) (xs := t_40.2.fbest) (F := [(O_a, O_c, s0.fbest), (R_a, R_c, list2)]) (o2 := o_1477) (sp2 := sp_1479) (xs2 := ((([] : List GChoice) ++ list2) ++ ([x_25] : List GChoice))) (hm.appW (ps := [(0, ⟨some A_b, 213, [(.pointer (some ⟨B_b, 0, none⟩)), (.slice E_a s0.ft.length E_c), (.int .i16 t_40.2.fc.fAway), (.int .i16 t_40.2.fc.fOctave), (.int .i16 t_40.2.fc.fStep), (.slice J_a s0.fall.length J_c), (.slice K_a s0.fbounds.length K_c), (.int .i64 t_40.2.fbudget), (.int .i64 t_40.2.flooks), (.bool t_40.2.ffound), (.slice a_41 t_40.2.fbest.length cap_1484), (.int .i64 t_40.2.fleast)]⟩), (1, ⟨some B_b, 27, [(.int .i16 s0.ff.fSteps), (.slice D_a s0.ff.fHammers.length D_c)]⟩)]) (N := [⟨o_1483, 104, row encGChoice t_40.2.fbest sp_1485⟩]) hm' (by kernel_rfl) (by kernel_rfl)) 2 6 8 (by kernel_rfl) (by kernel_rfl) (by kernel_rfl) (by kernel_rfl) hl_1273 rfl hs_1480 ho_1481 rfl rfl hl_1486
          refine ⟨_, Mem.pick hM_1490 (N := [⟨some A_b, 213, [(.pointer (some ⟨B_b, 0, none⟩)), (.slice E_a s0.ft.length E_c), (.int .i16 t_40.2.fc.fAway), (.int .i16 t_40.2.fc.fOctave), (.int .i16 t_40.2.fc.fStep), (.slice J_a s0.fall.length J_c), (.slice K_a s0.fbounds.length K_c), (.int .i64 t_40.2.fbudget), (.int .i64 t_40.2.flooks), (.bool t_40.2.ffound), (.slice a_41 t_40.2.fbest.length cap_1484), (.int .i64 t_40.2.fleast)]⟩, ⟨some B_b, 27, [(.int .i16 s0.ff.fSteps), (.slice D_a s0.ff.fHammers.length D_c)]⟩, ⟨o_1487, 104, row encGChoice t_40.2.fbest sp_1488⟩, ⟨(some b_1), 40, row encU32 d1.1 []⟩, ⟨some b_1282, 104, [(.bool x_25.fAway), (.int .i8 x_25.fLate), (.int .i8 x_25.fOctave), (.int .i8 x_25.fTrack)]⟩, ⟨(some b_1284), 40, row encU32 a_27.1 []⟩, ⟨none, 0, []⟩, ⟨(some b_1469), 104, row encGChoice ([x_25] : List GChoice) []⟩]) [0, 1, 2, 3, 4, 5, 6, 7] (by kernel_rfl) (by kernel_rfl), kD [1, 3, 4, 5] ?_⟩
          clear hm hm' hM_1490
          exact qd [⟨10, 0, 0⟩] 0 [1, 3, 4, 5] (qz (qm ⟨t_40.2.fbest, t_40.2.fc.fAway, t_40.2.fc.fOctave, t_40.2.fc.fStep, t_40.2.fbudget, t_40.2.flooks, t_40.2.ffound, t_40.2.fleast, (!t_40.1), o_1487, a_41, cap_1484, sp_1488, t_40.2.fbest.length⟩ ⟨h, rfl, hl_1489⟩ [0, 1, 2, 3, 4, 5]))
        ·refine qa 0 (fun b_1491 => kD [1, 3, 4, 5] (tD 2 (qa 0 (fun b_1492 => kD [1, 3, 4, 5] ?_))))
         obtain ⟨hg_1493, h⟩ := gd h
         refine tD 4 (p_apn 0 7 (some b_1492) 104 0 list2.length 0 4 4 R_a encGChoice ([] : List GChoice) list2 [] (.agg #[(.bool false), (.int .i8 0), (.int .i8 0), (.int .i8 0)]) rfl rfl (by kernel_rfl) (by kernel_rfl) (by kernel_rfl) encGChoice_len encGChoice_cell (fun _ => ⟨Nat.le_refl _, by simp⟩) (fun e => nomatch e) (fun w hm => (hm.exRowW R_h R_ha)) hg_1493 (by kernel_rfl) (by kernel_rfl) (fun o_1494 cap_1495 sp_1496 hs_1497 ho_1498 => kD [1, 3, 4, 5] ?_))
         obtain ⟨hg_1499, h⟩ := gd h
         refine tD 7 (p_apn 0 7 o_1494 104 ((([] : List GChoice) ++ list2).length) 1 cap_1495 4 4 (some ⟨b_1491, 0, none⟩) encGChoice (([] : List GChoice) ++ list2) ([x_25] : List GChoice) sp_1496 (.agg #[(.bool false), (.int .i8 0), (.int .i8 0), (.int .i8 0)]) rfl rfl (by kernel_rfl) (by kernel_rfl) (by kernel_rfl) encGChoice_len encGChoice_cell hs_1497 ho_1498 (fun w hm => (hm.ow 6 (some b_1491) 104 ([x_25] : List GChoice) [] (fun e => nomatch e) encGChoice_len)) hg_1499 (by kernel_rfl) (by kernel_rfl) (fun o_1500 cap_1501 sp_1502 hs_1503 ho_1504 => kD [1, 3, 4, 5] ?_))
         obtain ⟨t_40, ht_1505, h⟩ := bd h
         refine tD 9 (pc 0 (fun w hm => hself (⟨(⟨s0.ff.fSteps, s0.ff.fHammers⟩ : GFrame), s0.ft, (⟨i_13, i_14, i_15⟩ : GCosts), s0.fall, s0.fbounds, i_16, (w64 (i_17 + 1)), q_18, xs_11, i_19⟩ : Gl07Search) a_27 ((([] : List GChoice) ++ list2) ++ ([x_25] : List GChoice)) (w64 (cost3 + t_26)) w _ D_c (hm.exRowW D_h D_ha) rfl E_c (hm.exRowW E_h E_ha) rfl J_c (hm.exRowW J_h J_ha) rfl K_c (hm.exRowW K_h K_ha) rfl cap_1270 rfl cap_1501 (hm.ow 7 o_1500 104 ((([] : List GChoice) ++ list2) ++ ([x_25] : List GChoice)) sp_1502 (fun e => (ho_1504 e).1) encGChoice_len) rfl A_b B_b (hm.pass (N := [⟨some A_b, 213, [(.pointer (some ⟨B_b, 0, none⟩)), (.slice E_a s0.ft.length E_c), (.int .i16 i_13), (.int .i16 i_14), (.int .i16 i_15), (.slice J_a s0.fall.length J_c), (.slice K_a s0.fbounds.length K_c), (.int .i64 i_16), (.int .i64 (w64 (i_17 + 1))), (.bool q_18), (.slice a_12 xs_11.length cap_1270), (.int .i64 i_19)]⟩, ⟨some B_b, 27, [(.int .i16 s0.ff.fSteps), (.slice D_a s0.ff.fHammers.length D_c)]⟩]) [0, 1] (by kernel_rfl) (by kernel_rfl)) (hm.exApart (N := [⟨some A_b, 213, [(.pointer (some ⟨B_b, 0, none⟩)), (.slice E_a s0.ft.length E_c), (.int .i16 i_13), (.int .i16 i_14), (.int .i16 i_15), (.slice J_a s0.fall.length J_c), (.slice K_a s0.fbounds.length K_c), (.int .i64 i_16), (.int .i64 (w64 (i_17 + 1))), (.bool q_18), (.slice a_12 xs_11.length cap_1270), (.int .i64 i_19)]⟩, ⟨some B_b, 27, [(.int .i16 s0.ff.fSteps), (.slice D_a s0.ff.fHammers.length D_c)]⟩]) D_h D_ha [0, 1] (by kernel_rfl)) (hm.exApart (N := [⟨some A_b, 213, [(.pointer (some ⟨B_b, 0, none⟩)), (.slice E_a s0.ft.length E_c), (.int .i16 i_13), (.int .i16 i_14), (.int .i16 i_15), (.slice J_a s0.fall.length J_c), (.slice K_a s0.fbounds.length K_c), (.int .i64 i_16), (.int .i64 (w64 (i_17 + 1))), (.bool q_18), (.slice a_12 xs_11.length cap_1270), (.int .i64 i_19)]⟩, ⟨some B_b, 27, [(.int .i16 s0.ff.fSteps), (.slice D_a s0.ff.fHammers.length D_c)]⟩]) E_h E_ha [0, 1] (by kernel_rfl)) (hm.exApart (N := [⟨some A_b, 213, [(.pointer (some ⟨B_b, 0, none⟩)), (.slice E_a s0.ft.length E_c), (.int .i16 i_13), (.int .i16 i_14), (.int .i16 i_15), (.slice J_a s0.fall.length J_c), (.slice K_a s0.fbounds.length K_c), (.int .i64 i_16), (.int .i64 (w64 (i_17 + 1))), (.bool q_18), (.slice a_12 xs_11.length cap_1270), (.int .i64 i_19)]⟩, ⟨some B_b, 27, [(.int .i16 s0.ff.fSteps), (.slice D_a s0.ff.fHammers.length D_c)]⟩]) J_h J_ha [0, 1] (by kernel_rfl)) (hm.innPass (N := [⟨some A_b, 213, [(.pointer (some ⟨B_b, 0, none⟩)), (.slice E_a s0.ft.length E_c), (.int .i16 i_13), (.int .i16 i_14), (.int .i16 i_15), (.slice J_a s0.fall.length J_c), (.slice K_a s0.fbounds.length K_c), (.int .i64 i_16), (.int .i64 (w64 (i_17 + 1))), (.bool q_18), (.slice a_12 xs_11.length cap_1270), (.int .i64 i_19)]⟩, ⟨some B_b, 27, [(.int .i16 s0.ff.fSteps), (.slice D_a s0.ff.fHammers.length D_c)]⟩]) J_i [0, 1] (by kernel_rfl)) (hm.exApart (N := [⟨some A_b, 213, [(.pointer (some ⟨B_b, 0, none⟩)), (.slice E_a s0.ft.length E_c), (.int .i16 i_13), (.int .i16 i_14), (.int .i16 i_15), (.slice J_a s0.fall.length J_c), (.slice K_a s0.fbounds.length K_c), (.int .i64 i_16), (.int .i64 (w64 (i_17 + 1))), (.bool q_18), (.slice a_12 xs_11.length cap_1270), (.int .i64 i_19)]⟩, ⟨some B_b, 27, [(.int .i16 s0.ff.fSteps), (.slice D_a s0.ff.fHammers.length D_c)]⟩]) K_h K_ha [0, 1] (by kernel_rfl)) (hm.ownApart (S := GChoice) (N := [⟨some A_b, 213, [(.pointer (some ⟨B_b, 0, none⟩)), (.slice E_a s0.ft.length E_c), (.int .i16 i_13), (.int .i16 i_14), (.int .i16 i_15), (.slice J_a s0.fall.length J_c), (.slice K_a s0.fbounds.length K_c), (.int .i64 i_16), (.int .i64 (w64 (i_17 + 1))), (.bool q_18), (.slice a_12 xs_11.length cap_1270), (.int .i64 i_19)]⟩, ⟨some B_b, 27, [(.int .i16 s0.ff.fSteps), (.slice D_a s0.ff.fHammers.length D_c)]⟩]) (hh := 7) (o := o_1500) (T := 104) (cs := row encGChoice ((([] : List GChoice) ++ list2) ++ ([x_25] : List GChoice)) sp_1502) (xs := ((([] : List GChoice) ++ list2) ++ ([x_25] : List GChoice))) (by kernel_rfl) (fun e => (ho_1504 e).1) [0, 1] (by kernel_rfl) (by kernel_rfl)) ht_1505) ?_)
         rintro w v w' hm ⟨o_1506, a_41, cap_1507, sp_1508, _, rfl, hl_1509, rfl, hm'⟩
         obtain ⟨o_1510, sp_1511, hl_1512, hM_1513⟩ := Mem.ls3 (T := 104) (enc := encGChoice) (o1 := o_1269) (sp1 := sp_1271) (xs1 := xs_11) (o := o_1506) (sp := sp_1508) (xs := t_40.2.fbest) (F := [(O_a, O_c, s0.fbest), (R_a, R_c, list2)]) (o2 := o_1500) (sp2 := sp_1502) (xs2 := ((([] : List GChoice) ++ list2) ++ ([x_25] : List GChoice))) (hm.appW (ps := [(0, ⟨some A_b, 213, [(.pointer (some ⟨B_b, 0, none⟩)), (.slice E_a s0.ft.length E_c), (.int .i16 t_40.2.fc.fAway), (.int .i16 t_40.2.fc.fOctave), (.int .i16 t_40.2.fc.fStep), (.slice J_a s0.fall.length J_c), (.slice K_a s0.fbounds.length K_c), (.int .i64 t_40.2.fbudget), (.int .i64 t_40.2.flooks), (.bool t_40.2.ffound), (.slice a_41 t_40.2.fbest.length cap_1507), (.int .i64 t_40.2.fleast)]⟩), (1, ⟨some B_b, 27, [(.int .i16 s0.ff.fSteps), (.slice D_a s0.ff.fHammers.length D_c)]⟩)]) (N := [⟨o_1506, 104, row encGChoice t_40.2.fbest sp_1508⟩]) hm' (by kernel_rfl) (by kernel_rfl)) 2 7 8 (by kernel_rfl) (by kernel_rfl) (by kernel_rfl) (by kernel_rfl) hl_1273 rfl hs_1503 ho_1504 rfl rfl hl_1509
         refine ⟨_, Mem.pick hM_1513 (N := [⟨some A_b, 213, [(.pointer (some ⟨B_b, 0, none⟩)), (.slice E_a s0.ft.length E_c), (.int .i16 t_40.2.fc.fAway), (.int .i16 t_40.2.fc.fOctave), (.int .i16 t_40.2.fc.fStep), (.slice J_a s0.fall.length J_c), (.slice K_a s0.fbounds.length K_c), (.int .i64 t_40.2.fbudget), (.int .i64 t_40.2.flooks), (.bool t_40.2.ffound), (.slice a_41 t_40.2.fbest.length cap_1507), (.int .i64 t_40.2.fleast)]⟩, ⟨some B_b, 27, [(.int .i16 s0.ff.fSteps), (.slice D_a s0.ff.fHammers.length D_c)]⟩, ⟨o_1510, 104, row encGChoice t_40.2.fbest sp_1511⟩, ⟨(some b_1), 40, row encU32 d1.1 []⟩, ⟨some b_1282, 104, [(.bool x_25.fAway), (.int .i8 x_25.fLate), (.int .i8 x_25.fOctave), (.int .i8 x_25.fTrack)]⟩, ⟨(some b_1284), 40, row encU32 a_27.1 []⟩, ⟨(some b_1491), 104, row encGChoice ([x_25] : List GChoice) []⟩, ⟨none, 0, []⟩]) [0, 1, 2, 3, 4, 5, 6, 7] (by kernel_rfl) (by kernel_rfl), kD [1, 3, 4, 5] ?_⟩
         clear hm hm' hM_1513
         exact qd [⟨10, 0, 0⟩] 0 [1, 3, 4, 5] (qz (qm ⟨t_40.2.fbest, t_40.2.fc.fAway, t_40.2.fc.fOctave, t_40.2.fc.fStep, t_40.2.fbudget, t_40.2.flooks, t_40.2.ffound, t_40.2.fleast, (!t_40.1), o_1510, a_41, cap_1507, sp_1511, t_40.2.fbest.length⟩ ⟨h, rfl, hl_1512⟩ [0, 1, 2, 3, 4, 5]))
       ·rintro ⟨xs_29, i_31, i_32, i_33, i_34, i_35, q_36, i_37, q_38, o_1402, a_30, cap_1403, sp_1404, n_1405⟩ ⟨h, rfl, hl_1406⟩
        replace h : spec_l07Go.k_39 s0 i_20 xs_29 i_31 i_32 i_33 i_34 i_35 q_36 i_37 q_38 = some y_1275 := h
        rw [spec_l07Go.k_39] at h
        refine jx_then (qi h (fun h => ?_) (fun h => ?_))
        ·refine jc_seq (jc_region (qh [0] (qe (jx_then (jc_ret (jx_inr (jx_thenr (jx_leaver (.inl (false, (⟨(⟨s0.ff.fSteps, s0.ff.fHammers⟩ : GFrame), s0.ft, (⟨i_31, i_32, i_33⟩ : GCosts), s0.fall, s0.fbounds, i_34, i_35, q_36, xs_29, i_37⟩ : Gl07Search))) (Option.some.inj h).symm (fun e_1408 => ?_)))))))))
         subst e_1408
         refine jx_inr (jx_thenr (jx_thenr ?_))
         obtain rfl := Option.some.inj hr_1274
         exact qr [] (fun w hm => ⟨o_1402, a_30, cap_1403, sp_1404, xs_29.length, rfl, hl_1406, rfl, hm.pk [0, 1, 2]⟩)
        ·exact jc_skip (jx_inn (jx_then (jc_region (qh [0,0,0] (qe (qb (xs_29, i_31, i_32, i_33, i_34, i_35, q_36, i_37, (w64 (i_20 + 1))) ⟨o_1402, a_30, cap_1403, sp_1404, xs_29.length⟩ h ⟨rfl, hl_1406⟩ [0, 1, 2, 3]))))))
    ·refine jc_exit (jx_thenx (jx_leave (.inr (xs_11, i_13, i_14, i_15, i_16, i_17, q_18, i_19)) (Option.some.inj h).symm (fun e_1523 => ?_)))
     subst e_1523
     exact jx_ine (qm ⟨xs_11, i_13, i_14, i_15, i_16, i_17, q_18, i_19, o_1269, a_12, cap_1270, sp_1271, xs_11.length⟩ ⟨hr_1274, rfl, hl_1273⟩ [0, 1, 2, 3])
   ·rintro ⟨xs_1, i_3, i_4, i_5, i_6, i_7, q_8, i_9, o_769, a_2, cap_770, sp_771, n_772⟩ ⟨h, rfl, hl_773⟩
    replace h : spec_l07Go.k_10 s0 xs_1 i_3 i_4 i_5 i_6 i_7 q_8 i_9 = some r := h
    rw [spec_l07Go.k_10] at h
    refine jx_then (jc_seq (jc_region (qh [0] (qe (jx_then (jc_ret ?_))))))
    obtain rfl := Option.some.inj h
    exact qr [] (fun w hm => ⟨o_769, a_2, cap_770, sp_771, xs_1.length, rfl, hl_773, rfl, hm.pk [0, 1, 2]⟩)
theorem spec_l07Go.rec_calls (fu : Nat) : ∀ (s0 : Gl07Search) (d1 : Arr 96 Int) (list2 : List GChoice) (cost3 : Int) (w : World) (r : Bool × Gl07Search) {D_a : Option Addr} {D_an : Nat} (D_c : Nat) (D_h : Rw w D_a 2 encGHammer s0.ff.fHammers) (D_hn : s0.ff.fHammers.length = D_an) {E_a : Option Addr} {E_an : Nat} (E_c : Nat) (E_h : Rw w E_a 2 encGNote s0.ft) (E_hn : s0.ft.length = E_an) {J_a : Option Addr} {J_an : Nat} (J_c : Nat) {J_hs : List Hd} (J_h : Rw w J_a 1 encHd J_hs) (J_hn : s0.fall.length = J_an) {K_a : Option Addr} {K_an : Nat} (K_c : Nat) (K_h : Rw w K_a 1 encI64 s0.fbounds) (K_hn : s0.fbounds.length = K_an) {O_a : Option Addr} {O_an : Nat} (O_c : Nat) (O_hn : s0.fbest.length = O_an) {R_a : Option Addr} {R_an : Nat} (R_c : Nat) (R_h : Rw w R_a 4 encGChoice list2) (R_hn : list2.length = R_an) (A_b : Nat) (B_b : Nat) (hm0 : Mem w (bs [some A_b, some B_b]) [⟨some A_b, 213, [(.pointer (some ⟨B_b, 0, none⟩)), (.slice E_a E_an E_c), (.int .i16 s0.fc.fAway), (.int .i16 s0.fc.fOctave), (.int .i16 s0.fc.fStep), (.slice J_a J_an J_c), (.slice K_a K_an K_c), (.int .i64 s0.fbudget), (.int .i64 s0.flooks), (.bool s0.ffound), (.slice O_a O_an O_c), (.int .i64 s0.fleast)]⟩, ⟨some B_b, 27, [(.int .i16 s0.ff.fSteps), (.slice D_a D_an D_c)]⟩] w) (D_ha : s0.ff.fHammers ≠ [] → aB D_a ∉ bs [some A_b, some B_b]) (E_ha : s0.ft ≠ [] → aB E_a ∉ bs [some A_b, some B_b]) (J_ha : J_hs ≠ [] → aB J_a ∉ bs [some A_b, some B_b]) (J_i : Inn w (bs [some A_b, some B_b]) 4 encGChoice J_hs s0.fall) (K_ha : s0.fbounds ≠ [] → aB K_a ∉ bs [some A_b, some B_b]) (R_ha : list2 ≠ [] → aB R_a ∉ bs [some A_b, some B_b]) (h : spec_l07Go.rec_ fu s0 d1 list2 cost3 = some r),
    Calls Tryz.prog 165 #[(.pointer (some ⟨A_b, 0, none⟩)), (.agg (row encU32 d1.1 []).toArray), (.slice R_a R_an R_c), (.int .i64 cost3)] w fun e w' => ∃ v, e = .returned v ∧ (∃ (lo : Option Nat) (la : Option Addr) (lc : Nat) (lsp : List Value) (ln : Nat), r.2.fbest.length = ln ∧ LsB lo la lc lsp ln r.2.fbest 4 [(O_a, O_c, s0.fbest), (R_a, R_c, list2)] ∧ v = (.bool r.1) ∧ Mem w (bs [some A_b, some B_b]) [⟨some A_b, 213, [(.pointer (some ⟨B_b, 0, none⟩)), (.slice E_a E_an E_c), (.int .i16 r.2.fc.fAway), (.int .i16 r.2.fc.fOctave), (.int .i16 r.2.fc.fStep), (.slice J_a J_an J_c), (.slice K_a K_an K_c), (.int .i64 r.2.fbudget), (.int .i64 r.2.flooks), (.bool r.2.ffound), (.slice la ln lc), (.int .i64 r.2.fleast)]⟩, ⟨some B_b, 27, [(.int .i16 s0.ff.fSteps), (.slice D_a D_an D_c)]⟩, ⟨lo, 104, row encGChoice r.2.fbest lsp⟩] w') := by
  induction fu with
  | zero => intros; rename_i h; cases h
  | succ fu ih => exact @spec_l07Go.step_calls _ (spec_l07Go.rec_ fu) @ih
theorem spec_l07Go.calls (s0 : Gl07Search) (d1 : Arr 96 Int) (list2 : List GChoice) (cost3 : Int) (w : World) (r : Bool × Gl07Search) {D_a : Option Addr} {D_an : Nat} (D_c : Nat) (D_h : Rw w D_a 2 encGHammer s0.ff.fHammers) (D_hn : s0.ff.fHammers.length = D_an) {E_a : Option Addr} {E_an : Nat} (E_c : Nat) (E_h : Rw w E_a 2 encGNote s0.ft) (E_hn : s0.ft.length = E_an) {J_a : Option Addr} {J_an : Nat} (J_c : Nat) {J_hs : List Hd} (J_h : Rw w J_a 1 encHd J_hs) (J_hn : s0.fall.length = J_an) {K_a : Option Addr} {K_an : Nat} (K_c : Nat) (K_h : Rw w K_a 1 encI64 s0.fbounds) (K_hn : s0.fbounds.length = K_an) {O_a : Option Addr} {O_an : Nat} (O_c : Nat) (O_hn : s0.fbest.length = O_an) {R_a : Option Addr} {R_an : Nat} (R_c : Nat) (R_h : Rw w R_a 4 encGChoice list2) (R_hn : list2.length = R_an) (A_b : Nat) (B_b : Nat) (hm0 : Mem w (bs [some A_b, some B_b]) [⟨some A_b, 213, [(.pointer (some ⟨B_b, 0, none⟩)), (.slice E_a E_an E_c), (.int .i16 s0.fc.fAway), (.int .i16 s0.fc.fOctave), (.int .i16 s0.fc.fStep), (.slice J_a J_an J_c), (.slice K_a K_an K_c), (.int .i64 s0.fbudget), (.int .i64 s0.flooks), (.bool s0.ffound), (.slice O_a O_an O_c), (.int .i64 s0.fleast)]⟩, ⟨some B_b, 27, [(.int .i16 s0.ff.fSteps), (.slice D_a D_an D_c)]⟩] w) (D_ha : s0.ff.fHammers ≠ [] → aB D_a ∉ bs [some A_b, some B_b]) (E_ha : s0.ft ≠ [] → aB E_a ∉ bs [some A_b, some B_b]) (J_ha : J_hs ≠ [] → aB J_a ∉ bs [some A_b, some B_b]) (J_i : Inn w (bs [some A_b, some B_b]) 4 encGChoice J_hs s0.fall) (K_ha : s0.fbounds ≠ [] → aB K_a ∉ bs [some A_b, some B_b]) (R_ha : list2 ≠ [] → aB R_a ∉ bs [some A_b, some B_b]) (h : spec_l07Go s0 d1 list2 cost3 = some r) :
    Calls Tryz.prog 165 #[(.pointer (some ⟨A_b, 0, none⟩)), (.agg (row encU32 d1.1 []).toArray), (.slice R_a R_an R_c), (.int .i64 cost3)] w fun e w' => ∃ v, e = .returned v ∧ (∃ (lo : Option Nat) (la : Option Addr) (lc : Nat) (lsp : List Value) (ln : Nat), r.2.fbest.length = ln ∧ LsB lo la lc lsp ln r.2.fbest 4 [(O_a, O_c, s0.fbest), (R_a, R_c, list2)] ∧ v = (.bool r.1) ∧ Mem w (bs [some A_b, some B_b]) [⟨some A_b, 213, [(.pointer (some ⟨B_b, 0, none⟩)), (.slice E_a E_an E_c), (.int .i16 r.2.fc.fAway), (.int .i16 r.2.fc.fOctave), (.int .i16 r.2.fc.fStep), (.slice J_a J_an J_c), (.slice K_a K_an K_c), (.int .i64 r.2.fbudget), (.int .i64 r.2.flooks), (.bool r.2.ffound), (.slice la ln lc), (.int .i64 r.2.fleast)]⟩, ⟨some B_b, 27, [(.int .i16 s0.ff.fSteps), (.slice D_a D_an D_c)]⟩, ⟨lo, 104, row encGChoice r.2.fbest lsp⟩] w') :=
  spec_l07Go.rec_calls 130 s0 d1 list2 cost3 w r D_c D_h D_hn E_c E_h E_hn J_c J_h J_hn K_c K_h K_hn O_c O_hn R_c R_h R_hn A_b B_b hm0 D_ha E_ha J_ha J_i K_ha R_ha h
/-! ### spec.l07Arrange -/
def spec_l07Arrange.k_5 (f0 : GFrame) (t1 : List GNote) (c2 : GCosts) (budget3 : Int) (xt_684 : List (List GChoice)) (xs_4 : List Int) : Option ((List GChoice) × Int × Int) := (spec_l07Go (⟨f0, t1, c2, xt_684, xs_4, budget3, 0, false, ([] : List GChoice), 0⟩ : Gl07Search) (Arr.rep 96 0) ([] : List GChoice) 0).bind fun t_6 => (if (!t_6.1) = true then some (([] : List GChoice), 0, 7) else some (t_6.2.fbest, t_6.2.fleast, 0))
def spec_l07Arrange.l_10 (f0 : GFrame) (t1 : List GNote) (c2 : GCosts) : ((List Int) × Int) → Option (((List Int) × Int) ⊕ ((List Int)))
  | (xs_8, i_9) => (if (decide (i_9 ≤ (t1.length : Int))) = true then (spec_l07Bound f0 t1 c2 i_9).bind fun t_12 => (if xs_8.length + ([t_12] : List Int).length ≤ 4294967296 then some (.inl ((xs_8 ++ ([t_12] : List Int)), (w64 (i_9 + 1)))) else none) else some (.inr xs_8))
def spec_l07Arrange.k_3 (f0 : GFrame) (t1 : List GNote) (c2 : GCosts) (budget3 : Int) (xt_684 : List (List GChoice)) : Option ((List GChoice) × Int × Int) := (loop (spec_l07Arrange.l_10 f0 t1 c2) ([], 0)).bind fun t_11 => spec_l07Arrange.k_5 f0 t1 c2 budget3 xt_684 t_11
def spec_l07Arrange.l_14 (f0 : GFrame) (t1 : List GNote) (c2 : GCosts) : ((List (List GChoice)) × Int) → Option (((List (List GChoice)) × Int) ⊕ ((List (List GChoice))))
  | (xt_1350, i_13) => (if (decide (i_13 < (t1.length : Int))) = true then (ix t1 i_13).bind fun x_16 => (spec_l07Ordered f0 x_16 c2).bind fun t_17 => (if xt_1350.length + 1 ≤ 4294967296 then some (.inl ((xt_1350 ++ [t_17]), (w64 (i_13 + 1)))) else none) else some (.inr xt_1350))
def spec_l07Arrange (f0 : GFrame) (t1 : List GNote) (c2 : GCosts) (budget3 : Int) : Option ((List GChoice) × Int × Int) := (spec_l07Given f0 t1 c2).bind fun t_1 => (if (t_1 != 0) = true then some (([] : List GChoice), 0, t_1) else (spec_l00In budget3 0 20000).bind fun t_2 => (if (!t_2) = true then some (([] : List GChoice), 0, 2) else (loop (spec_l07Arrange.l_14 f0 t1 c2) (([] : List (List GChoice)), 0)).bind fun t_15 => spec_l07Arrange.k_3 f0 t1 c2 budget3 t_15))
set_option maxHeartbeats 8000000 in
theorem spec_l07Arrange.calls (f0 : GFrame) (t1 : List GNote) (c2 : GCosts) (budget3 : Int) (w : World) (r : (List GChoice) × Int × Int) {C_a : Option Addr} {C_an : Nat} (C_c : Nat) (C_h : Rw w C_a 2 encGHammer f0.fHammers) (C_hn : f0.fHammers.length = C_an) {D_a : Option Addr} {D_an : Nat} (D_c : Nat) (D_h : Rw w D_a 2 encGNote t1) (D_hn : t1.length = D_an) (A_b : Nat) (hm0 : Mem w (bs [some A_b]) [⟨some A_b, 27, [(.int .i16 f0.fSteps), (.slice C_a C_an C_c)]⟩] w) (C_ha : f0.fHammers ≠ [] → aB C_a ∉ bs [some A_b]) (D_ha : t1 ≠ [] → aB D_a ∉ bs [some A_b]) (h : spec_l07Arrange f0 t1 c2 budget3 = some r) :
    Calls Tryz.prog 91 #[(.pointer (some ⟨A_b, 0, none⟩)), (.slice D_a D_an D_c), (.agg #[(.int .i16 c2.fAway), (.int .i16 c2.fOctave), (.int .i16 c2.fStep)]), (.int .i64 budget3)] w fun e w' => ∃ v, e = .returned v ∧ (∃ (o0 : Option Nat) (c0 : Nat) (s0 : List Value) (n0 : Nat), r.1.length = n0 ∧ (o0 ≠ none → n0 ≤ c0 ∧ s0.length = (c0 - n0) * 4) ∧ (o0 = none → r.1 = [] ∧ c0 = 0) ∧ v = .tuple #[.slice (o0.map fun b => ⟨b, 0, none⟩) n0 c0, (.int .i64 r.2.1), (.int .i64 r.2.2)] ∧ Mem w (bs [some A_b]) [⟨some A_b, 27, [(.int .i16 f0.fSteps), (.slice C_a C_an C_c)]⟩, ⟨o0, 104, row encGChoice r.1 s0⟩] w') := by
  subst C_hn D_hn
  rw [spec_l07Arrange] at h
  refine enter (args := [(.pointer (some ⟨A_b, 0, none⟩)), (.slice D_a t1.length D_c), (.agg #[(.int .i16 c2.fAway), (.int .i16 c2.fOctave), (.int .i16 c2.fStep)]), (.int .i64 budget3)]) Tryz.func91 rfl Tryz.ntmps91 (by kernel_rfl) (L := [⟨some A_b, 27, [(.int .i16 f0.fSteps), (.slice C_a f0.fHammers.length C_c)]⟩]) (W := bs [some A_b]) hm0 ?_
  refine jc_seq (jc_region (tO (qa 0 (fun b_1 => jkO (qh [0,0,0] (qe (jx_then (jc_seq (jc_seq (jc_region (qh [0,0,1] ?_)))))))))))
  obtain ⟨t_1, ht_5, h⟩ := bd h
  refine tO (pc 0 (fun w hm => spec_l07Given.calls f0 t1 c2 w _ C_c (hm.exRowW C_h C_ha) rfl D_c (hm.exRowW D_h D_ha) rfl A_b (hm.pass (N := [⟨some A_b, 27, [(.int .i16 f0.fSteps), (.slice C_a f0.fHammers.length C_c)]⟩]) [0] (by kernel_rfl) (by kernel_rfl)) (hm.exApart (N := [⟨some A_b, 27, [(.int .i16 f0.fSteps), (.slice C_a f0.fHammers.length C_c)]⟩]) C_h C_ha [0] (by kernel_rfl)) (hm.exApart (N := [⟨some A_b, 27, [(.int .i16 f0.fSteps), (.slice C_a f0.fHammers.length C_c)]⟩]) D_h D_ha [0] (by kernel_rfl)) ht_5) ?_)
  rintro w v w' hm ⟨rfl, hm'⟩
  refine ⟨_, hm.appW (ps := [(0, ⟨some A_b, 27, [(.int .i16 f0.fSteps), (.slice C_a f0.fHammers.length C_c)]⟩)]) (N := []) hm' (by kernel_rfl) (by kernel_rfl), jkO ?_⟩
  clear hm hm'
  refine qh [0] (qe (jx_then (jc_seq (jc_region (qh [0,0] (qe (jx_then (qi h (fun h => ?_) (fun h => ?_)))))))))
  ·refine jc_seq (jc_region (tO (qa 0 (fun b_7 => jkO (qh [0,0,0,0] (qe (jx_then (jc_ret (jx_thenr ?_)))))))))
   obtain rfl := Option.some.inj h
   exact qr [] (fun w hm => ⟨(some b_7), 0, [], 0, rfl, (fun _ => ⟨Nat.le_refl _, by simp⟩), (fun e => nomatch e), rfl, hm.pk [0, 2]⟩)
  ·refine jc_skip (jx_then (jc_seq (jc_seq (jc_region (qh [0] ?_)))))
   obtain ⟨t_2, ht_11, h⟩ := bd h
   refine tO (pc 0 (fun w hm => spec_l00In.calls budget3 0 20000 w _ ht_11) ?_)
   rintro w v w' hm ⟨rfl, hm'⟩
   refine ⟨_, hm.app hm', jkO ?_⟩
   clear hm hm'
   refine qh [0] (qe (jx_then (qi h (fun h => ?_) (fun h => ?_))))
   ·refine jc_seq (jc_region (tO (qa 0 (fun b_13 => jkO (qh [0,0,0] (qe (jx_then (jc_ret (jx_thenr ?_)))))))))
    obtain rfl := Option.some.inj h
    exact qr [] (fun w hm => ⟨(some b_13), 0, [], 0, rfl, (fun _ => ⟨Nat.le_refl _, by simp⟩), (fun e => nomatch e), rfl, hm.pk [0, 2]⟩)
   ·refine jc_skip (jx_then (jc_seq (jc_region (qh [0,0,1,0,0] (tO (qa 0 (fun b_14 => jk_ghost 35 encHd (jk_clu encGChoice (jkO (qh [0] (qe (jx_then (jc_seq (jc_seq (jc_region (qh [0] (qe (jx_then (jc_meet (fun (j : (List (List GChoice)) × (List Hd) × (Option Nat) × Nat × (List Value) × Nat) => match j with | ⟨xt_684, hh_685, o_686, cap_687, sp_688, n_689⟩ => spec_l07Arrange.k_3 f0 t1 c2 budget3 xt_684 = some r ∧ (hh_685.length = n_689) ∧ ((o_686 ≠ none → n_689 ≤ cap_687 ∧ sp_688.length = (cap_687 - n_689) * 1)) ∧ ((o_686 = none → hh_685 = [] ∧ cap_687 = 0)) ∧ (InP hh_685 xt_684)) (fun (j : (List (List GChoice)) × (List Hd) × (Option Nat) × Nat × (List Value) × Nat) => match j with | ⟨xt_684, hh_685, o_686, cap_687, sp_688, n_689⟩ => [(0, [], (.pointer (some ⟨A_b, 0, none⟩))), (1, [], (.slice D_a t1.length D_c)), (6, [], (.pointer (some ⟨b_1, 0, none⟩))), (8, [], (.slice none 0 0)), (9, [], (.int .i64 0)), (10, [], (.int .i64 0)), (12, [], (.pointer (some ⟨b_14, 0, none⟩)))]) (fun (j : (List (List GChoice)) × (List Hd) × (Option Nat) × Nat × (List Value) × Nat) => match j with | ⟨xt_684, hh_685, o_686, cap_687, sp_688, n_689⟩ => [⟨some A_b, 27, [(.int .i16 f0.fSteps), (.slice C_a f0.fHammers.length C_c)]⟩, ⟨some b_1, 33, [(.int .i16 c2.fAway), (.int .i16 c2.fOctave), (.int .i16 c2.fStep)]⟩, ⟨some b_14, 213, [(.pointer (some ⟨A_b, 0, none⟩)), (.slice D_a t1.length D_c), (.int .i16 c2.fAway), (.int .i16 c2.fOctave), (.int .i16 c2.fStep), (.slice (o_686.map fun b => ⟨b, 0, none⟩) n_689 cap_687), (.slice none 0 0), (.int .i64 budget3), (.int .i64 0), (.bool false), (.slice none 0 0), (.int .i64 0)]⟩, ⟨o_686, 35, row encHd hh_685 sp_688⟩, ⟨none, CLU, cluC encGChoice hh_685 xt_684⟩]) ?_ ?_)))))))))))))))))))
    ·refine jc_block ?_
     obtain ⟨t_15, ht_1428, hr_1359⟩ := bd h
     refine jc_loop (fun (s : (List (List GChoice)) × Int) (x : (List Hd) × (Option Nat) × Nat × (List Value) × Nat) => match s, x with | ⟨xt_1350, i_13⟩, ⟨hh_1351, o_1352, cap_1353, sp_1354, n_1355⟩ => (hh_1351.length = n_1355) ∧ ((o_1352 ≠ none → n_1355 ≤ cap_1353 ∧ sp_1354.length = (cap_1353 - n_1355) * 1)) ∧ ((o_1352 = none → hh_1351 = [] ∧ cap_1353 = 0)) ∧ (InP hh_1351 xt_1350)) (fun (s : (List (List GChoice)) × Int) (x : (List Hd) × (Option Nat) × Nat × (List Value) × Nat) => match s, x with | ⟨xt_1350, i_13⟩, ⟨hh_1351, o_1352, cap_1353, sp_1354, n_1355⟩ => [(0, [], (.pointer (some ⟨A_b, 0, none⟩))), (1, [], (.slice D_a t1.length D_c)), (6, [], (.pointer (some ⟨b_1, 0, none⟩))), (8, [], (.slice none 0 0)), (9, [], (.int .i64 0)), (10, [], (.int .i64 0)), (12, [], (.pointer (some ⟨b_14, 0, none⟩))), (13, [], (.int .i64 i_13))]) (fun (s : (List (List GChoice)) × Int) (x : (List Hd) × (Option Nat) × Nat × (List Value) × Nat) => match s, x with | ⟨xt_1350, i_13⟩, ⟨hh_1351, o_1352, cap_1353, sp_1354, n_1355⟩ => [⟨some A_b, 27, [(.int .i16 f0.fSteps), (.slice C_a f0.fHammers.length C_c)]⟩, ⟨some b_1, 33, [(.int .i16 c2.fAway), (.int .i16 c2.fOctave), (.int .i16 c2.fStep)]⟩, ⟨some b_14, 213, [(.pointer (some ⟨A_b, 0, none⟩)), (.slice D_a t1.length D_c), (.int .i16 c2.fAway), (.int .i16 c2.fOctave), (.int .i16 c2.fStep), (.slice (o_1352.map fun b => ⟨b, 0, none⟩) n_1355 cap_1353), (.slice none 0 0), (.int .i64 budget3), (.int .i64 0), (.bool false), (.slice none 0 0), (.int .i64 0)]⟩, ⟨o_1352, 35, row encHd hh_1351 sp_1354⟩, ⟨none, CLU, cluC encGChoice hh_1351 xt_1350⟩]) ht_1428 ⟨([] : List Hd), (none : Option Nat), 0, [], 0⟩ ⟨rfl, (fun e => absurd rfl e), (fun _ => ⟨rfl, rfl⟩), InP.nil⟩ (by kernel_rfl) [0, 1, 2, 3, 4] (by kernel_rfl) (by kernel_rfl) ?_
     rintro ⟨xt_1350, i_13⟩ ⟨hh_1351, o_1352, cap_1353, sp_1354, n_1355⟩ y_1360 ⟨rfl, hs_1356, ho_1357, hI_1358⟩ h
     rw [spec_l07Arrange.l_14] at h
     refine jc_seq (jc_seq (jc_region (qh [0,0,0,0] (qe (jx_then (qi h (fun h => ?_) (fun h => ?_)))))))
     ·refine jc_skip (jx_then (jc_seq (jc_block (qg [⟨some A_b, 27, [(.int .i16 f0.fSteps), (.slice C_a f0.fHammers.length C_c)]⟩, ⟨some b_1, 33, [(.int .i16 c2.fAway), (.int .i16 c2.fOctave), (.int .i16 c2.fStep)]⟩] 17 (qd [⟨0, 0, 0⟩,⟨1, 0, 0⟩,⟨2, 0, 0⟩,⟨3, 0, 0⟩,⟨5, 0, 0⟩,⟨6, 0, 0⟩,⟨7, 0, 0⟩,⟨10, 1, 0⟩] 9 [0, 1] ?_)))))
      obtain ⟨x_16, hx_1393, h⟩ := bd h
      refine qv 8 0 [0, 1] (fun w hm => idx_run (a := D_a) (len := t1.length) (s := 2) (j := i_13) (by kernel_rfl) (ix_some hx_1393).1 (ltn hx_1393 rfl) (D_h.sp hx_1393)) (qv 9 0 [0, 1] (fun w hm => ld_run (b := aB D_a) (off := (aO D_a + i_13.toNat * 2)) (s := 2) (agg := true) (vs := (encGNote x_16)) (by kernel_rfl) (by kernel_rfl) (.inl rfl) ((hm.exRowW D_h D_ha).at hx_1393)) (toD2 4 11 (by kernel_rfl) ?_ ?_))
      ·refine qs 0 [2] (kD [0, 1] ?_)
       obtain ⟨t_17, ht_1394, h⟩ := bd h
       refine tD 11 (pc 0 (fun w hm => spec_l07Ordered.calls f0 x_16 c2 w _ C_c (hm.exRowW C_h C_ha) rfl A_b (hm.pass (N := [⟨some A_b, 27, [(.int .i16 f0.fSteps), (.slice C_a f0.fHammers.length C_c)]⟩]) [0] (by kernel_rfl) (by kernel_rfl)) (hm.exApart (N := [⟨some A_b, 27, [(.int .i16 f0.fSteps), (.slice C_a f0.fHammers.length C_c)]⟩]) C_h C_ha [0] (by kernel_rfl)) ht_1394) ?_)
       rintro w v w' hm ⟨o_1395, cap_1396, sp_1397, _, rfl, hs_1398, ho_1399, rfl, hm'⟩
       refine ⟨_, hm.appW (ps := [(0, ⟨some A_b, 27, [(.int .i16 f0.fSteps), (.slice C_a f0.fHammers.length C_c)]⟩)]) (N := [⟨o_1395, 104, row encGChoice t_17 sp_1397⟩]) hm' (by kernel_rfl) (by kernel_rfl), kD [0, 1] ?_⟩
       clear hm hm'
       refine tD 12 (qa 0 (fun b_1400 => kD [0, 1] ?_))
       obtain ⟨hg_1401, h⟩ := gd h
       exact tD 13 (p_apn 0 3 o_1352 35 hh_1351.length 1 cap_1353 1 24 (some ⟨b_1400, 0, none⟩) encHd hh_1351 [(Hd.mk (o_1395.map fun b => ⟨b, 0, none⟩) t_17.length cap_1396)] sp_1354 (.slice none 0 0) rfl rfl (by kernel_rfl) (by kernel_rfl) (by kernel_rfl) encHd_len encHd_cell hs_1356 ho_1357 (fun w hm => (hm.ow 6 (some b_1400) 35 ([(Hd.mk (o_1395.map fun b => ⟨b, 0, none⟩) t_17.length cap_1396)]) [] (fun e => nomatch e) encHd_len)) (tabbig hI_1358 hg_1401) (by kernel_rfl) (by kernel_rfl) (fun o_1402 cap_1403 sp_1404 hs_1405 ho_1406 => jk_frzW (enc := encGChoice) (hs := hh_1351) (xss := xt_1350) (o := o_1395) (T := 104) (xs := t_17) (sp := sp_1397) 4 5 t_17.length cap_1396 [0] hI_1358 (kD [0, 1] (qd [⟨14, 0, 0⟩,⟨15, 0, 0⟩] 1 [0, 1] (tD 16 (qs 0 [2] (kD [0, 1] (qz (jx_inn (jx_then (jc_region (qh [0,0,0] (qe (qb ((xt_1350 ++ [t_17]), (w64 (i_13 + 1))) ⟨(hh_1351 ++ [(Hd.mk (o_1395.map fun b => ⟨b, 0, none⟩) t_17.length cap_1396)]), o_1402, cap_1403, sp_1404, (hh_1351 ++ [(Hd.mk (o_1395.map fun b => ⟨b, 0, none⟩) t_17.length cap_1396)]).length⟩ h ⟨rfl, hs_1405, ho_1406, (hI_1358.snoc rfl (fun e => (ho_1399 e).1))⟩ [0, 1, 2, 3, 4]))))))))))))))
      ·obtain ⟨t_17, ht_1407, h⟩ := bd h
       refine pc 0 (fun w hm => spec_l07Ordered.calls f0 x_16 c2 w _ C_c (hm.exRowW C_h C_ha) rfl A_b (hm.pass (N := [⟨some A_b, 27, [(.int .i16 f0.fSteps), (.slice C_a f0.fHammers.length C_c)]⟩]) [0] (by kernel_rfl) (by kernel_rfl)) (hm.exApart (N := [⟨some A_b, 27, [(.int .i16 f0.fSteps), (.slice C_a f0.fHammers.length C_c)]⟩]) C_h C_ha [0] (by kernel_rfl)) ht_1407) ?_
       rintro w v w' hm ⟨o_1408, cap_1409, sp_1410, _, rfl, hs_1411, ho_1412, rfl, hm'⟩
       refine ⟨_, hm.appW (ps := [(0, ⟨some A_b, 27, [(.int .i16 f0.fSteps), (.slice C_a f0.fHammers.length C_c)]⟩)]) (N := [⟨o_1408, 104, row encGChoice t_17 sp_1410⟩]) hm' (by kernel_rfl) (by kernel_rfl), kD [0, 1] ?_⟩
       clear hm hm'
       refine toD2 4 12 (by kernel_rfl) ?_ ?_
       ·refine qs 0 [2] (kD [0, 1] (tD 12 (qa 0 (fun b_1413 => kD [0, 1] ?_))))
        obtain ⟨hg_1414, h⟩ := gd h
        exact tD 13 (p_apn 0 3 o_1352 35 hh_1351.length 1 cap_1353 1 24 (some ⟨b_1413, 0, none⟩) encHd hh_1351 [(Hd.mk (o_1408.map fun b => ⟨b, 0, none⟩) t_17.length cap_1409)] sp_1354 (.slice none 0 0) rfl rfl (by kernel_rfl) (by kernel_rfl) (by kernel_rfl) encHd_len encHd_cell hs_1356 ho_1357 (fun w hm => (hm.ow 6 (some b_1413) 35 ([(Hd.mk (o_1408.map fun b => ⟨b, 0, none⟩) t_17.length cap_1409)]) [] (fun e => nomatch e) encHd_len)) (tabbig hI_1358 hg_1414) (by kernel_rfl) (by kernel_rfl) (fun o_1415 cap_1416 sp_1417 hs_1418 ho_1419 => jk_frzW (enc := encGChoice) (hs := hh_1351) (xss := xt_1350) (o := o_1408) (T := 104) (xs := t_17) (sp := sp_1410) 4 5 t_17.length cap_1409 [0] hI_1358 (kD [0, 1] (qd [⟨14, 0, 0⟩,⟨15, 0, 0⟩] 1 [0, 1] (tD 16 (qs 0 [2] (kD [0, 1] (qz (jx_inn (jx_then (jc_region (qh [0,0,0] (qe (qb ((xt_1350 ++ [t_17]), (w64 (i_13 + 1))) ⟨(hh_1351 ++ [(Hd.mk (o_1408.map fun b => ⟨b, 0, none⟩) t_17.length cap_1409)]), o_1415, cap_1416, sp_1417, (hh_1351 ++ [(Hd.mk (o_1408.map fun b => ⟨b, 0, none⟩) t_17.length cap_1409)]).length⟩ h ⟨rfl, hs_1418, ho_1419, (hI_1358.snoc rfl (fun e => (ho_1412 e).1))⟩ [0, 1, 2, 3, 4]))))))))))))))
       ·refine qa 0 (fun b_1420 => kD [0, 1] (tD 4 (qs 0 [2] (kD [0, 1] ?_))))
        obtain ⟨hg_1421, h⟩ := gd h
        exact tD 13 (p_apn 0 3 o_1352 35 hh_1351.length 1 cap_1353 1 24 (some ⟨b_1420, 0, none⟩) encHd hh_1351 [(Hd.mk (o_1408.map fun b => ⟨b, 0, none⟩) t_17.length cap_1409)] sp_1354 (.slice none 0 0) rfl rfl (by kernel_rfl) (by kernel_rfl) (by kernel_rfl) encHd_len encHd_cell hs_1356 ho_1357 (fun w hm => (hm.ow 6 (some b_1420) 35 ([(Hd.mk (o_1408.map fun b => ⟨b, 0, none⟩) t_17.length cap_1409)]) [] (fun e => nomatch e) encHd_len)) (tabbig hI_1358 hg_1421) (by kernel_rfl) (by kernel_rfl) (fun o_1422 cap_1423 sp_1424 hs_1425 ho_1426 => jk_frzW (enc := encGChoice) (hs := hh_1351) (xss := xt_1350) (o := o_1408) (T := 104) (xs := t_17) (sp := sp_1410) 4 5 t_17.length cap_1409 [0] hI_1358 (kD [0, 1] (qd [⟨14, 0, 0⟩,⟨15, 0, 0⟩] 1 [0, 1] (tD 16 (qs 0 [2] (kD [0, 1] (qz (jx_inn (jx_then (jc_region (qh [0,0,0] (qe (qb ((xt_1350 ++ [t_17]), (w64 (i_13 + 1))) ⟨(hh_1351 ++ [(Hd.mk (o_1408.map fun b => ⟨b, 0, none⟩) t_17.length cap_1409)]), o_1422, cap_1423, sp_1424, (hh_1351 ++ [(Hd.mk (o_1408.map fun b => ⟨b, 0, none⟩) t_17.length cap_1409)]).length⟩ h ⟨rfl, hs_1425, ho_1426, (hI_1358.snoc rfl (fun e => (ho_1412 e).1))⟩ [0, 1, 2, 3, 4]))))))))))))))
     ·refine jc_exit (jx_thenx (jx_leave xt_1350 (Option.some.inj h).symm (fun e_1427 => ?_)))
      subst e_1427
      exact jx_ine (qm ⟨xt_1350, hh_1351, o_1352, cap_1353, sp_1354, hh_1351.length⟩ ⟨hr_1359, rfl, hs_1356, ho_1357, hI_1358⟩ [0, 1, 2, 3, 4])
    ·rintro ⟨xt_684, hh_685, o_686, cap_687, sp_688, n_689⟩ ⟨h, rfl, hs_690, ho_691, hI_692⟩
     replace h : spec_l07Arrange.k_3 f0 t1 c2 budget3 xt_684 = some r := h
     rw [spec_l07Arrange.k_3] at h
     refine jx_then (jc_seq (jc_seq (jc_region (qh [0] (qe (jx_then (jc_meet (fun (j : (List Int) × (Option Nat) × Nat × (List Value) × Nat) => match j with | ⟨xs_4, o_1056, cap_1057, sp_1058, n_1059⟩ => spec_l07Arrange.k_5 f0 t1 c2 budget3 xt_684 xs_4 = some r ∧ (xs_4.length = n_1059) ∧ ((o_1056 ≠ none → n_1059 ≤ cap_1057 ∧ sp_1058.length = (cap_1057 - n_1059) * 1)) ∧ ((o_1056 = none → xs_4 = [] ∧ cap_1057 = 0))) (fun (j : (List Int) × (Option Nat) × Nat × (List Value) × Nat) => match j with | ⟨xs_4, o_1056, cap_1057, sp_1058, n_1059⟩ => [(8, [], (.slice none 0 0)), (9, [], (.int .i64 0)), (10, [], (.int .i64 0)), (12, [], (.pointer (some ⟨b_14, 0, none⟩)))]) (fun (j : (List Int) × (Option Nat) × Nat × (List Value) × Nat) => match j with | ⟨xs_4, o_1056, cap_1057, sp_1058, n_1059⟩ => [⟨some A_b, 27, [(.int .i16 f0.fSteps), (.slice C_a f0.fHammers.length C_c)]⟩, ⟨some b_1, 33, [(.int .i16 c2.fAway), (.int .i16 c2.fOctave), (.int .i16 c2.fStep)]⟩, ⟨some b_14, 213, [(.pointer (some ⟨A_b, 0, none⟩)), (.slice D_a t1.length D_c), (.int .i16 c2.fAway), (.int .i16 c2.fOctave), (.int .i16 c2.fStep), (.slice (o_686.map fun b => ⟨b, 0, none⟩) hh_685.length cap_687), (.slice (o_1056.map fun b => ⟨b, 0, none⟩) n_1059 cap_1057), (.int .i64 budget3), (.int .i64 0), (.bool false), (.slice none 0 0), (.int .i64 0)]⟩, ⟨o_686, 35, row encHd hh_685 sp_688⟩, ⟨none, CLU, cluC encGChoice hh_685 xt_684⟩, ⟨o_1056, 2, row encI64 xs_4 sp_1058⟩]) ?_ ?_)))))))
     ·refine jc_block ?_
      obtain ⟨t_11, ht_1208, hr_1170⟩ := bd h
      refine jc_ghost 2 encI64 (jc_loop (fun (s : (List Int) × Int) (x : (Option Nat) × Nat × (List Value) × Nat) => match s, x with | ⟨xs_8, i_9⟩, ⟨o_1164, cap_1165, sp_1166, n_1167⟩ => (xs_8.length = n_1167) ∧ ((o_1164 ≠ none → n_1167 ≤ cap_1165 ∧ sp_1166.length = (cap_1165 - n_1167) * 1)) ∧ ((o_1164 = none → xs_8 = [] ∧ cap_1165 = 0))) (fun (s : (List Int) × Int) (x : (Option Nat) × Nat × (List Value) × Nat) => match s, x with | ⟨xs_8, i_9⟩, ⟨o_1164, cap_1165, sp_1166, n_1167⟩ => [(0, [], (.pointer (some ⟨A_b, 0, none⟩))), (1, [], (.slice D_a t1.length D_c)), (6, [], (.pointer (some ⟨b_1, 0, none⟩))), (8, [], (.slice none 0 0)), (9, [], (.int .i64 0)), (10, [], (.int .i64 0)), (12, [], (.pointer (some ⟨b_14, 0, none⟩))), (14, [], (.int .i64 i_9))]) (fun (s : (List Int) × Int) (x : (Option Nat) × Nat × (List Value) × Nat) => match s, x with | ⟨xs_8, i_9⟩, ⟨o_1164, cap_1165, sp_1166, n_1167⟩ => [⟨some A_b, 27, [(.int .i16 f0.fSteps), (.slice C_a f0.fHammers.length C_c)]⟩, ⟨some b_1, 33, [(.int .i16 c2.fAway), (.int .i16 c2.fOctave), (.int .i16 c2.fStep)]⟩, ⟨some b_14, 213, [(.pointer (some ⟨A_b, 0, none⟩)), (.slice D_a t1.length D_c), (.int .i16 c2.fAway), (.int .i16 c2.fOctave), (.int .i16 c2.fStep), (.slice (o_686.map fun b => ⟨b, 0, none⟩) hh_685.length cap_687), (.slice (o_1164.map fun b => ⟨b, 0, none⟩) n_1167 cap_1165), (.int .i64 budget3), (.int .i64 0), (.bool false), (.slice none 0 0), (.int .i64 0)]⟩, ⟨o_686, 35, row encHd hh_685 sp_688⟩, ⟨none, CLU, cluC encGChoice hh_685 xt_684⟩, ⟨o_1164, 2, row encI64 xs_8 sp_1166⟩]) ht_1208 ⟨none, 0, [], 0⟩ ⟨rfl, (fun e => absurd rfl e), (fun _ => ⟨rfl, rfl⟩)⟩ (by kernel_rfl) [0, 1, 2, 3, 4, 5] (by kernel_rfl) (by kernel_rfl) ?_)
      rintro ⟨xs_8, i_9⟩ ⟨o_1164, cap_1165, sp_1166, n_1167⟩ y_1171 ⟨rfl, hs_1168, ho_1169⟩ h
      rw [spec_l07Arrange.l_10] at h
      refine jc_seq (jc_seq (jc_region (qh [0,0,0,0] (qe (jx_then (qi h (fun h => ?_) (fun h => ?_)))))))
      ·refine jc_skip (jx_then (jc_seq (jc_block (qg [⟨some A_b, 27, [(.int .i16 f0.fSteps), (.slice C_a f0.fHammers.length C_c)]⟩, ⟨some b_1, 33, [(.int .i16 c2.fAway), (.int .i16 c2.fOctave), (.int .i16 c2.fStep)]⟩, ⟨o_686, 35, row encHd hh_685 sp_688⟩, ⟨none, CLU, cluC encGChoice hh_685 xt_684⟩] 15 (qd [⟨0, 0, 0⟩,⟨1, 0, 0⟩,⟨2, 0, 0⟩,⟨3, 0, 0⟩,⟨5, 0, 0⟩,⟨6, 0, 0⟩,⟨7, 1, 0⟩,⟨8, 0, 0⟩] 7 [0, 1, 3, 4] (toD2 4 9 (by kernel_rfl) ?_ ?_))))))
       ·refine qs 0 [2] (kD [0, 1, 3, 4] ?_)
        obtain ⟨t_12, ht_1184, h⟩ := bd h
        refine tD 9 (pc 0 (fun w hm => spec_l07Bound.calls f0 t1 c2 i_9 w _ C_c (hm.exRowW C_h C_ha) rfl D_c (hm.exRowW D_h D_ha) rfl A_b (hm.pass (N := [⟨some A_b, 27, [(.int .i16 f0.fSteps), (.slice C_a f0.fHammers.length C_c)]⟩]) [0] (by kernel_rfl) (by kernel_rfl)) (hm.exApart (N := [⟨some A_b, 27, [(.int .i16 f0.fSteps), (.slice C_a f0.fHammers.length C_c)]⟩]) C_h C_ha [0] (by kernel_rfl)) (hm.exApart (N := [⟨some A_b, 27, [(.int .i16 f0.fSteps), (.slice C_a f0.fHammers.length C_c)]⟩]) D_h D_ha [0] (by kernel_rfl)) ht_1184) ?_)
        rintro w v w' hm ⟨rfl, hm'⟩
        refine ⟨_, hm.appW (ps := [(0, ⟨some A_b, 27, [(.int .i16 f0.fSteps), (.slice C_a f0.fHammers.length C_c)]⟩)]) (N := []) hm' (by kernel_rfl) (by kernel_rfl), kD [0, 1, 3, 4] ?_⟩
        clear hm hm'
        refine tD 10 (qa 0 (fun b_1185 => kD [0, 1, 3, 4] ?_))
        obtain ⟨hg_1186, h⟩ := gd h
        exact tD 11 (p_apn 0 5 o_1164 2 xs_8.length 1 cap_1165 1 8 (some ⟨b_1185, 0, none⟩) encI64 xs_8 ([t_12] : List Int) sp_1166 (.int .i64 0) rfl rfl (by kernel_rfl) (by kernel_rfl) (by kernel_rfl) encI64_len encI64_cell hs_1168 ho_1169 (fun w hm => (hm.ow 6 (some b_1185) 2 ([t_12] : List Int) [] (fun e => nomatch e) encI64_len)) hg_1186 (by kernel_rfl) (by kernel_rfl) (fun o_1187 cap_1188 sp_1189 hs_1190 ho_1191 => kD [0, 1, 3, 4] (qd [⟨12, 0, 0⟩,⟨13, 0, 0⟩] 1 [0, 1, 3, 4] (tD 14 (qs 0 [2] (kD [0, 1, 3, 4] (qz (jx_inn (jx_then (jc_region (qh [0,0,0] (qe (qb ((xs_8 ++ ([t_12] : List Int)), (w64 (i_9 + 1))) ⟨o_1187, cap_1188, sp_1189, (xs_8 ++ ([t_12] : List Int)).length⟩ h ⟨rfl, hs_1190, ho_1191⟩ [0, 1, 2, 3, 4, 5])))))))))))))
       ·obtain ⟨t_12, ht_1192, h⟩ := bd h
        refine pc 0 (fun w hm => spec_l07Bound.calls f0 t1 c2 i_9 w _ C_c (hm.exRowW C_h C_ha) rfl D_c (hm.exRowW D_h D_ha) rfl A_b (hm.pass (N := [⟨some A_b, 27, [(.int .i16 f0.fSteps), (.slice C_a f0.fHammers.length C_c)]⟩]) [0] (by kernel_rfl) (by kernel_rfl)) (hm.exApart (N := [⟨some A_b, 27, [(.int .i16 f0.fSteps), (.slice C_a f0.fHammers.length C_c)]⟩]) C_h C_ha [0] (by kernel_rfl)) (hm.exApart (N := [⟨some A_b, 27, [(.int .i16 f0.fSteps), (.slice C_a f0.fHammers.length C_c)]⟩]) D_h D_ha [0] (by kernel_rfl)) ht_1192) ?_
        rintro w v w' hm ⟨rfl, hm'⟩
        refine ⟨_, hm.appW (ps := [(0, ⟨some A_b, 27, [(.int .i16 f0.fSteps), (.slice C_a f0.fHammers.length C_c)]⟩)]) (N := []) hm' (by kernel_rfl) (by kernel_rfl), kD [0, 1, 3, 4] ?_⟩
        clear hm hm'
        refine toD2 4 10 (by kernel_rfl) ?_ ?_
        ·refine qs 0 [2] (kD [0, 1, 3, 4] (tD 10 (qa 0 (fun b_1193 => kD [0, 1, 3, 4] ?_))))
         obtain ⟨hg_1194, h⟩ := gd h
         exact tD 11 (p_apn 0 5 o_1164 2 xs_8.length 1 cap_1165 1 8 (some ⟨b_1193, 0, none⟩) encI64 xs_8 ([t_12] : List Int) sp_1166 (.int .i64 0) rfl rfl (by kernel_rfl) (by kernel_rfl) (by kernel_rfl) encI64_len encI64_cell hs_1168 ho_1169 (fun w hm => (hm.ow 6 (some b_1193) 2 ([t_12] : List Int) [] (fun e => nomatch e) encI64_len)) hg_1194 (by kernel_rfl) (by kernel_rfl) (fun o_1195 cap_1196 sp_1197 hs_1198 ho_1199 => kD [0, 1, 3, 4] (qd [⟨12, 0, 0⟩,⟨13, 0, 0⟩] 1 [0, 1, 3, 4] (tD 14 (qs 0 [2] (kD [0, 1, 3, 4] (qz (jx_inn (jx_then (jc_region (qh [0,0,0] (qe (qb ((xs_8 ++ ([t_12] : List Int)), (w64 (i_9 + 1))) ⟨o_1195, cap_1196, sp_1197, (xs_8 ++ ([t_12] : List Int)).length⟩ h ⟨rfl, hs_1198, ho_1199⟩ [0, 1, 2, 3, 4, 5])))))))))))))
        ·refine qa 0 (fun b_1200 => kD [0, 1, 3, 4] (tD 4 (qs 0 [2] (kD [0, 1, 3, 4] ?_))))
         obtain ⟨hg_1201, h⟩ := gd h
         exact tD 11 (p_apn 0 5 o_1164 2 xs_8.length 1 cap_1165 1 8 (some ⟨b_1200, 0, none⟩) encI64 xs_8 ([t_12] : List Int) sp_1166 (.int .i64 0) rfl rfl (by kernel_rfl) (by kernel_rfl) (by kernel_rfl) encI64_len encI64_cell hs_1168 ho_1169 (fun w hm => (hm.ow 6 (some b_1200) 2 ([t_12] : List Int) [] (fun e => nomatch e) encI64_len)) hg_1201 (by kernel_rfl) (by kernel_rfl) (fun o_1202 cap_1203 sp_1204 hs_1205 ho_1206 => kD [0, 1, 3, 4] (qd [⟨12, 0, 0⟩,⟨13, 0, 0⟩] 1 [0, 1, 3, 4] (tD 14 (qs 0 [2] (kD [0, 1, 3, 4] (qz (jx_inn (jx_then (jc_region (qh [0,0,0] (qe (qb ((xs_8 ++ ([t_12] : List Int)), (w64 (i_9 + 1))) ⟨o_1202, cap_1203, sp_1204, (xs_8 ++ ([t_12] : List Int)).length⟩ h ⟨rfl, hs_1205, ho_1206⟩ [0, 1, 2, 3, 4, 5])))))))))))))
      ·refine jc_exit (jx_thenx (jx_leave xs_8 (Option.some.inj h).symm (fun e_1207 => ?_)))
       subst e_1207
       exact jx_ine (qm ⟨xs_8, o_1164, cap_1165, sp_1166, xs_8.length⟩ ⟨hr_1170, rfl, hs_1168, ho_1169⟩ [0, 1, 2, 3, 4, 5])
     ·rintro ⟨xs_4, o_1056, cap_1057, sp_1058, n_1059⟩ ⟨h, rfl, hs_1060, ho_1061⟩
      replace h : spec_l07Arrange.k_5 f0 t1 c2 budget3 xt_684 xs_4 = some r := h
      rw [spec_l07Arrange.k_5] at h
      refine jx_then (jc_seq (jc_seq (jc_region (qh [0,0] (tO (qa 0 (fun b_1076 => jkO ?_)))))))
      obtain ⟨t_6, ht_1077, h⟩ := bd h
      refine tO (jp_ghost 104 encGChoice (pc 0 (fun w hm => spec_l07Go.calls (⟨f0, t1, c2, xt_684, xs_4, budget3, 0, false, ([] : List GChoice), 0⟩ : Gl07Search) (Arr.rep 96 0) ([] : List GChoice) 0 w _ C_c (hm.exRowW C_h C_ha) rfl D_c (hm.exRowW D_h D_ha) rfl cap_687 (hm.ow 3 o_686 35 hh_685 sp_688 (fun e => (ho_691 e).1) encHd_len) (hI_692.1.symm.trans rfl) cap_1057 (hm.ow 5 o_1056 2 xs_4 sp_1058 (fun e => (ho_1061 e).1) encI64_len) rfl 0 rfl 0 (hm.ow 6 (some b_1076) 104 ([] : List GChoice) [] (fun e => nomatch e) encGChoice_len) rfl b_14 A_b (hm.pass (N := [⟨some b_14, 213, [(.pointer (some ⟨A_b, 0, none⟩)), (.slice D_a t1.length D_c), (.int .i16 c2.fAway), (.int .i16 c2.fOctave), (.int .i16 c2.fStep), (.slice (o_686.map fun b => ⟨b, 0, none⟩) hh_685.length cap_687), (.slice (o_1056.map fun b => ⟨b, 0, none⟩) xs_4.length cap_1057), (.int .i64 budget3), (.int .i64 0), (.bool false), (.slice ((none : Option Nat).map fun b => ⟨b, 0, none⟩) 0 0), (.int .i64 0)]⟩, ⟨some A_b, 27, [(.int .i16 f0.fSteps), (.slice C_a f0.fHammers.length C_c)]⟩]) [2, 0] (by kernel_rfl) (by kernel_rfl)) (hm.exApart (N := [⟨some b_14, 213, [(.pointer (some ⟨A_b, 0, none⟩)), (.slice D_a t1.length D_c), (.int .i16 c2.fAway), (.int .i16 c2.fOctave), (.int .i16 c2.fStep), (.slice (o_686.map fun b => ⟨b, 0, none⟩) hh_685.length cap_687), (.slice (o_1056.map fun b => ⟨b, 0, none⟩) xs_4.length cap_1057), (.int .i64 budget3), (.int .i64 0), (.bool false), (.slice ((none : Option Nat).map fun b => ⟨b, 0, none⟩) 0 0), (.int .i64 0)]⟩, ⟨some A_b, 27, [(.int .i16 f0.fSteps), (.slice C_a f0.fHammers.length C_c)]⟩]) C_h C_ha [2, 0] (by kernel_rfl)) (hm.exApart (N := [⟨some b_14, 213, [(.pointer (some ⟨A_b, 0, none⟩)), (.slice D_a t1.length D_c), (.int .i16 c2.fAway), (.int .i16 c2.fOctave), (.int .i16 c2.fStep), (.slice (o_686.map fun b => ⟨b, 0, none⟩) hh_685.length cap_687), (.slice (o_1056.map fun b => ⟨b, 0, none⟩) xs_4.length cap_1057), (.int .i64 budget3), (.int .i64 0), (.bool false), (.slice ((none : Option Nat).map fun b => ⟨b, 0, none⟩) 0 0), (.int .i64 0)]⟩, ⟨some A_b, 27, [(.int .i16 f0.fSteps), (.slice C_a f0.fHammers.length C_c)]⟩]) D_h D_ha [2, 0] (by kernel_rfl)) (hm.ownApart (S := Hd) (N := [⟨some b_14, 213, [(.pointer (some ⟨A_b, 0, none⟩)), (.slice D_a t1.length D_c), (.int .i16 c2.fAway), (.int .i16 c2.fOctave), (.int .i16 c2.fStep), (.slice (o_686.map fun b => ⟨b, 0, none⟩) hh_685.length cap_687), (.slice (o_1056.map fun b => ⟨b, 0, none⟩) xs_4.length cap_1057), (.int .i64 budget3), (.int .i64 0), (.bool false), (.slice ((none : Option Nat).map fun b => ⟨b, 0, none⟩) 0 0), (.int .i64 0)]⟩, ⟨some A_b, 27, [(.int .i16 f0.fSteps), (.slice C_a f0.fHammers.length C_c)]⟩]) (hh := 3) (o := o_686) (T := 35) (cs := row encHd hh_685 sp_688) (xs := hh_685) (by kernel_rfl) (fun e => (ho_691 e).1) [2, 0] (by kernel_rfl) (by kernel_rfl)) (hm.cluPass (N := [⟨some b_14, 213, [(.pointer (some ⟨A_b, 0, none⟩)), (.slice D_a t1.length D_c), (.int .i16 c2.fAway), (.int .i16 c2.fOctave), (.int .i16 c2.fStep), (.slice (o_686.map fun b => ⟨b, 0, none⟩) hh_685.length cap_687), (.slice (o_1056.map fun b => ⟨b, 0, none⟩) xs_4.length cap_1057), (.int .i64 budget3), (.int .i64 0), (.bool false), (.slice ((none : Option Nat).map fun b => ⟨b, 0, none⟩) 0 0), (.int .i64 0)]⟩, ⟨some A_b, 27, [(.int .i16 f0.fSteps), (.slice C_a f0.fHammers.length C_c)]⟩]) 4 hI_692 encGChoice_len [2, 0]) (hm.ownApart (S := Int) (N := [⟨some b_14, 213, [(.pointer (some ⟨A_b, 0, none⟩)), (.slice D_a t1.length D_c), (.int .i16 c2.fAway), (.int .i16 c2.fOctave), (.int .i16 c2.fStep), (.slice (o_686.map fun b => ⟨b, 0, none⟩) hh_685.length cap_687), (.slice (o_1056.map fun b => ⟨b, 0, none⟩) xs_4.length cap_1057), (.int .i64 budget3), (.int .i64 0), (.bool false), (.slice ((none : Option Nat).map fun b => ⟨b, 0, none⟩) 0 0), (.int .i64 0)]⟩, ⟨some A_b, 27, [(.int .i16 f0.fSteps), (.slice C_a f0.fHammers.length C_c)]⟩]) (hh := 5) (o := o_1056) (T := 2) (cs := row encI64 xs_4 sp_1058) (xs := xs_4) (by kernel_rfl) (fun e => (ho_1061 e).1) [2, 0] (by kernel_rfl) (by kernel_rfl)) (hm.ownApart (S := GChoice) (N := [⟨some b_14, 213, [(.pointer (some ⟨A_b, 0, none⟩)), (.slice D_a t1.length D_c), (.int .i16 c2.fAway), (.int .i16 c2.fOctave), (.int .i16 c2.fStep), (.slice (o_686.map fun b => ⟨b, 0, none⟩) hh_685.length cap_687), (.slice (o_1056.map fun b => ⟨b, 0, none⟩) xs_4.length cap_1057), (.int .i64 budget3), (.int .i64 0), (.bool false), (.slice ((none : Option Nat).map fun b => ⟨b, 0, none⟩) 0 0), (.int .i64 0)]⟩, ⟨some A_b, 27, [(.int .i16 f0.fSteps), (.slice C_a f0.fHammers.length C_c)]⟩]) (hh := 6) (o := (some b_1076)) (T := 104) (cs := row encGChoice ([] : List GChoice) []) (xs := ([] : List GChoice)) (by kernel_rfl) (fun e => nomatch e) [2, 0] (by kernel_rfl) (by kernel_rfl)) ht_1077) ?_))
      rintro w v w' hm ⟨o_1078, a_7, cap_1079, sp_1080, _, rfl, hl_1081, rfl, hm'⟩
      obtain ⟨o_1082, sp_1083, hl_1084, hM_1085⟩ := Mem.ls3 (T := 104) (enc := encGChoice) (o1 := (none : Option Nat)) (sp1 := []) (xs1 := ([] : List GChoice)) (o := o_1078) (sp := sp_1080) (xs := t_6.2.fbest) (F := []) (o2 := (some b_1076)) (sp2 := []) (xs2 := ([] : List GChoice)) (hm.appW (ps := [(2, ⟨some b_14, 213, [(.pointer (some ⟨A_b, 0, none⟩)), (.slice D_a t1.length D_c), (.int .i16 t_6.2.fc.fAway), (.int .i16 t_6.2.fc.fOctave), (.int .i16 t_6.2.fc.fStep), (.slice (o_686.map fun b => ⟨b, 0, none⟩) hh_685.length cap_687), (.slice (o_1056.map fun b => ⟨b, 0, none⟩) xs_4.length cap_1057), (.int .i64 t_6.2.fbudget), (.int .i64 t_6.2.flooks), (.bool t_6.2.ffound), (.slice a_7 t_6.2.fbest.length cap_1079), (.int .i64 t_6.2.fleast)]⟩), (0, ⟨some A_b, 27, [(.int .i16 f0.fSteps), (.slice C_a f0.fHammers.length C_c)]⟩)]) (N := [⟨o_1078, 104, row encGChoice t_6.2.fbest sp_1080⟩]) hm' (by kernel_rfl) (by kernel_rfl)) 7 6 8 (by kernel_rfl) (by kernel_rfl) (by kernel_rfl) (by kernel_rfl) (lsO (fun e => absurd rfl e) (fun _ => ⟨rfl, rfl⟩)) rfl (fun _ => ⟨Nat.le_refl _, by simp⟩) (fun e => nomatch e) rfl rfl hl_1081
      obtain ⟨rfl, hs_1086, ho_1087⟩ := hl_1084.own
      refine ⟨_, Mem.pick hM_1085 (N := [⟨some A_b, 27, [(.int .i16 f0.fSteps), (.slice C_a f0.fHammers.length C_c)]⟩, ⟨some b_1, 33, [(.int .i16 c2.fAway), (.int .i16 c2.fOctave), (.int .i16 c2.fStep)]⟩, ⟨some b_14, 213, [(.pointer (some ⟨A_b, 0, none⟩)), (.slice D_a t1.length D_c), (.int .i16 t_6.2.fc.fAway), (.int .i16 t_6.2.fc.fOctave), (.int .i16 t_6.2.fc.fStep), (.slice (o_686.map fun b => ⟨b, 0, none⟩) hh_685.length cap_687), (.slice (o_1056.map fun b => ⟨b, 0, none⟩) xs_4.length cap_1057), (.int .i64 t_6.2.fbudget), (.int .i64 t_6.2.flooks), (.bool t_6.2.ffound), (.slice (o_1082.map fun b => ⟨b, 0, none⟩) t_6.2.fbest.length cap_1079), (.int .i64 t_6.2.fleast)]⟩, ⟨o_686, 35, row encHd hh_685 sp_688⟩, ⟨none, CLU, cluC encGChoice hh_685 xt_684⟩, ⟨o_1056, 2, row encI64 xs_4 sp_1058⟩, ⟨none, 0, []⟩, ⟨o_1082, 104, row encGChoice t_6.2.fbest sp_1083⟩]) [0, 1, 2, 3, 4, 5, 6, 7] (by kernel_rfl) (by kernel_rfl), jkO ?_⟩
      clear hm hm' hM_1085
      refine qh [0] (qe (jx_then (qi h (fun h => ?_) (fun h => ?_))))
      ·refine jc_seq (jc_region (tO (qa 0 (fun b_1089 => jkO (qh [0,0,0] (qe (jx_then (jc_ret (jx_thenr ?_)))))))))
       obtain rfl := Option.some.inj h
       exact qr [] (fun w hm => ⟨(some b_1089), 0, [], 0, rfl, (fun _ => ⟨Nat.le_refl _, by simp⟩), (fun e => nomatch e), rfl, hm.pk [0, 8]⟩)
      ·refine jc_skip (jx_then (jc_seq (qg [⟨some A_b, 27, [(.int .i16 f0.fSteps), (.slice C_a f0.fHammers.length C_c)]⟩, ⟨some b_1, 33, [(.int .i16 c2.fAway), (.int .i16 c2.fOctave), (.int .i16 c2.fStep)]⟩, ⟨some b_14, 213, [(.pointer (some ⟨A_b, 0, none⟩)), (.slice D_a t1.length D_c), (.int .i16 t_6.2.fc.fAway), (.int .i16 t_6.2.fc.fOctave), (.int .i16 t_6.2.fc.fStep), (.slice (o_686.map fun b => ⟨b, 0, none⟩) hh_685.length cap_687), (.slice (o_1056.map fun b => ⟨b, 0, none⟩) xs_4.length cap_1057), (.int .i64 t_6.2.fbudget), (.int .i64 t_6.2.flooks), (.bool t_6.2.ffound), (.slice (o_1082.map fun b => ⟨b, 0, none⟩) t_6.2.fbest.length cap_1079), (.int .i64 t_6.2.fleast)]⟩, ⟨o_686, 35, row encHd hh_685 sp_688⟩, ⟨none, CLU, cluC encGChoice hh_685 xt_684⟩, ⟨o_1056, 2, row encI64 xs_4 sp_1058⟩, ⟨none, 0, []⟩, ⟨o_1082, 104, row encGChoice t_6.2.fbest sp_1083⟩] 11 (qd [⟨0, 0, 0⟩,⟨1, 0, 0⟩,⟨2, 0, 0⟩,⟨3, 2, 0⟩,⟨4, 0, 0⟩,⟨5, 0, 0⟩,⟨6, 0, 0⟩,⟨7, 2, 0⟩,⟨8, 0, 0⟩,⟨9, 0, 0⟩,⟨10, 0, 0⟩] 0 [0, 1, 2, 3, 4, 5, 6, 7] (qz (jx_then (jc_ret ?_)))))))
       obtain rfl := Option.some.inj h
       exact qr [] (fun w hm => ⟨o_1082, cap_1079, sp_1083, t_6.2.fbest.length, rfl, hs_1086, ho_1087, rfl, hm.pk [0, 7]⟩)
/-! ### spec.Arrange -/
def spec_Arrange (f0 : GFrame) (t1 : List GNote) (c2 : GCosts) (budget3 : Int) : Option ((List GChoice) × Int × Int) := (spec_l07Arrange f0 t1 c2 budget3).bind fun t_1 => some (t_1.1, t_1.2.1, t_1.2.2)
theorem spec_Arrange.calls (f0 : GFrame) (t1 : List GNote) (c2 : GCosts) (budget3 : Int) (w : World) (r : (List GChoice) × Int × Int) {C_a : Option Addr} {C_an : Nat} (C_c : Nat) (C_h : Rw w C_a 2 encGHammer f0.fHammers) (C_hn : f0.fHammers.length = C_an) {D_a : Option Addr} {D_an : Nat} (D_c : Nat) (D_h : Rw w D_a 2 encGNote t1) (D_hn : t1.length = D_an) (h : spec_Arrange f0 t1 c2 budget3 = some r) :
    Calls Tryz.prog 22 #[(.agg #[(.int .i16 f0.fSteps), (.slice C_a C_an C_c)]), (.slice D_a D_an D_c), (.agg #[(.int .i16 c2.fAway), (.int .i16 c2.fOctave), (.int .i16 c2.fStep)]), (.int .i64 budget3)] w fun e w' => ∃ v, e = .returned v ∧ (∃ (o0 : Option Nat) (c0 : Nat) (s0 : List Value) (n0 : Nat), r.1.length = n0 ∧ (o0 ≠ none → n0 ≤ c0 ∧ s0.length = (c0 - n0) * 4) ∧ (o0 = none → r.1 = [] ∧ c0 = 0) ∧ v = .tuple #[.slice (o0.map fun b => ⟨b, 0, none⟩) n0 c0, (.int .i64 r.2.1), (.int .i64 r.2.2)] ∧ Mem w [] [⟨o0, 104, row encGChoice r.1 s0⟩] w') := by
  subst C_hn D_hn
  rw [spec_Arrange] at h
  refine enter (args := [(.agg #[(.int .i16 f0.fSteps), (.slice C_a f0.fHammers.length C_c)]), (.slice D_a t1.length D_c), (.agg #[(.int .i16 c2.fAway), (.int .i16 c2.fOctave), (.int .i16 c2.fStep)]), (.int .i64 budget3)]) Tryz.func22 rfl Tryz.ntmps22 (by kernel_rfl) (L := []) (W := []) (Mem.start w) ?_
  refine jc_seq (jc_region (tO (qa 0 (fun b_1 => jkO (tO (qa 0 (fun b_2 => jkO (qh [0,0,0] (qe (jx_then (jc_seq (jc_region (qh [0,1,0] ?_)))))))))))))
  obtain ⟨t_1, ht_3, h⟩ := bd h
  refine tO (pc 0 (fun w hm => spec_l07Arrange.calls f0 t1 c2 budget3 w _ C_c (hm.xr C_h) rfl D_c (hm.xr D_h) rfl b_1 (hm.pass (N := [⟨some b_1, 27, [(.int .i16 f0.fSteps), (.slice C_a f0.fHammers.length C_c)]⟩]) [0] (by kernel_rfl) (by kernel_rfl)) (hm.exApart (N := [⟨some b_1, 27, [(.int .i16 f0.fSteps), (.slice C_a f0.fHammers.length C_c)]⟩]) C_h (fun _ => List.not_mem_nil) [0] (by kernel_rfl)) (hm.exApart (N := [⟨some b_1, 27, [(.int .i16 f0.fSteps), (.slice C_a f0.fHammers.length C_c)]⟩]) D_h (fun _ => List.not_mem_nil) [0] (by kernel_rfl)) ht_3) ?_)
  rintro w v w' hm ⟨o_4, cap_5, sp_6, _, rfl, hs_7, ho_8, rfl, hm'⟩
  refine ⟨_, hm.appW (ps := [(0, ⟨some b_1, 27, [(.int .i16 f0.fSteps), (.slice C_a f0.fHammers.length C_c)]⟩)]) (N := [⟨o_4, 104, row encGChoice t_1.1 sp_6⟩]) hm' (by kernel_rfl) (by kernel_rfl), jkO ?_⟩
  clear hm hm'
  refine qh [0,0,0,0,0,0] (qe (jx_then (jc_ret ?_)))
  obtain rfl := Option.some.inj h
  exact qr [] (fun w hm => ⟨o_4, cap_5, sp_6, t_1.1.length, rfl, hs_7, ho_8, rfl, hm.pk [2]⟩)
/-! ### impl.Greedy$1 -/
def impl_Greedy_1 (x0 : GChoice) (p1 : GFrame) (p2 : Arr 96 Int) (p3 : GNote) : Option (Bool) := (impl_Frame_canPut p1 p2 p3 x0).bind fun t_1 => some (!t_1)
theorem impl_Greedy_1.calls (x0 : GChoice) (p1 : GFrame) (p2 : Arr 96 Int) (p3 : GNote) (w : World) (r : Bool) {H_a : Option Addr} {H_an : Nat} (H_c : Nat) (H_h : Rw w H_a 2 encGHammer p1.fHammers) (H_hn : p1.fHammers.length = H_an) {I_b I_q : Nat} (I_h : Rw w (some ⟨I_b, I_q, none⟩) 1 encU32 p2.1) (F_b : Nat) (J_b : Nat) (hm0 : Mem w (bs [some F_b, some J_b]) [⟨some F_b, 27, [(.int .i16 p1.fSteps), (.slice H_a H_an H_c)]⟩, ⟨some J_b, 101, [(.int .i16 p3.fAt), (.int .i8 p3.fPitch)]⟩] w) (H_ha : p1.fHammers ≠ [] → aB H_a ∉ bs [some F_b, some J_b]) (I_ha : p2.1 ≠ [] → aB (some ⟨I_b, I_q, none⟩) ∉ bs [some F_b, some J_b]) (h : impl_Greedy_1 x0 p1 p2 p3 = some r) :
    Calls Tryz.prog 62 #[(.agg #[(.bool x0.fAway), (.int .i8 x0.fLate), (.int .i8 x0.fOctave), (.int .i8 x0.fTrack)]), (.pointer (some ⟨F_b, 0, none⟩)), (.pointer (some ⟨I_b, I_q, none⟩)), (.pointer (some ⟨J_b, 0, none⟩))] w fun e w' => ∃ v, e = .returned v ∧ (v = (.bool r) ∧ Mem w (bs [some F_b, some J_b]) [⟨some F_b, 27, [(.int .i16 p1.fSteps), (.slice H_a H_an H_c)]⟩, ⟨some J_b, 101, [(.int .i16 p3.fAt), (.int .i8 p3.fPitch)]⟩] w') := by
  subst H_hn
  rw [impl_Greedy_1] at h
  refine enter (args := [(.agg #[(.bool x0.fAway), (.int .i8 x0.fLate), (.int .i8 x0.fOctave), (.int .i8 x0.fTrack)]), (.pointer (some ⟨F_b, 0, none⟩)), (.pointer (some ⟨I_b, I_q, none⟩)), (.pointer (some ⟨J_b, 0, none⟩))]) Tryz.func62 rfl Tryz.ntmps62 (by kernel_rfl) (L := [⟨some F_b, 27, [(.int .i16 p1.fSteps), (.slice H_a p1.fHammers.length H_c)]⟩, ⟨some J_b, 101, [(.int .i16 p3.fAt), (.int .i8 p3.fPitch)]⟩]) (W := bs [some F_b, some J_b]) hm0 ?_
  refine jc_seq (jc_region (tO (qa 0 (fun b_1 => jkO (qh [0] (qe (jx_then (jc_seq (jc_region (qh [0,1,2] ?_))))))))))
  obtain ⟨t_1, ht_2, h⟩ := bd h
  refine tO (pc 0 (fun w hm => impl_Frame_canPut.calls p1 p2 p3 x0 w _ H_c (hm.exRowW H_h H_ha) rfl (hm.exRowW I_h I_ha) ht_2) ?_)
  rintro w v w' hm ⟨rfl, hm'⟩
  refine ⟨_, hm.app hm', jkO ?_⟩
  clear hm hm'
  refine qh [0,0] (qe (jx_then (jc_ret ?_)))
  obtain rfl := Option.some.inj h
  exact qr [] (fun w hm => ⟨rfl, hm.pk [0, 1]⟩)
/-! ### slices.IndexFunc[[]impl.Choice,impl.Choice] -/
def slices_IndexFunc_Choice_at_impl_Greedy_1.k_1 : Option (Int) := some (-1)
def slices_IndexFunc_Choice_at_impl_Greedy_1.l_3 (s0 : List GChoice) (g1c0 : GFrame) (g1c1 : Arr 96 Int) (g1c2 : GNote) : Int → Option ((Int) ⊕ (Int ⊕ Unit))
  | i_2 => (if (decide (i_2 < (s0.length : Int))) = true then (ix s0 i_2).bind fun x_5 => (impl_Greedy_1 x_5 g1c0 g1c1 g1c2).bind fun t_6 => (if t_6 = true then some (.inr (.inl i_2)) else some (.inl (w64 (i_2 + 1)))) else some (.inr (.inr ())))
def slices_IndexFunc_Choice_at_impl_Greedy_1 (s0 : List GChoice) (g1c0 : GFrame) (g1c1 : Arr 96 Int) (g1c2 : GNote) : Option (Int) := (loop (slices_IndexFunc_Choice_at_impl_Greedy_1.l_3 s0 g1c0 g1c1 g1c2) 0).bind fun t_4 => match t_4 with | .inl p => some p | .inr p => slices_IndexFunc_Choice_at_impl_Greedy_1.k_1
theorem slices_IndexFunc_Choice_at_impl_Greedy_1.calls (s0 : List GChoice) (g1c0 : GFrame) (g1c1 : Arr 96 Int) (g1c2 : GNote) (w : World) (r : Int) {A_a : Option Addr} {A_an : Nat} (A_c : Nat) (A_h : Rw w A_a 4 encGChoice s0) (A_hn : s0.length = A_an) {D_a : Option Addr} {D_an : Nat} (D_c : Nat) (D_h : Rw w D_a 2 encGHammer g1c0.fHammers) (D_hn : g1c0.fHammers.length = D_an) (B_b : Nat) (E_b : Nat) (F_b : Nat) (hm0 : Mem w (bs [some B_b, some E_b, some F_b]) [⟨some B_b, 27, [(.int .i16 g1c0.fSteps), (.slice D_a D_an D_c)]⟩, ⟨(some E_b), 40, row encU32 g1c1.1 []⟩, ⟨some F_b, 101, [(.int .i16 g1c2.fAt), (.int .i8 g1c2.fPitch)]⟩] w) (A_ha : s0 ≠ [] → aB A_a ∉ bs [some B_b, some E_b, some F_b]) (D_ha : g1c0.fHammers ≠ [] → aB D_a ∉ bs [some B_b, some E_b, some F_b]) (h : slices_IndexFunc_Choice_at_impl_Greedy_1 s0 g1c0 g1c1 g1c2 = some r) :
    Calls Tryz.prog 129 #[(.slice A_a A_an A_c), (.func (.func 62) #[] #[(.pointer (some ⟨B_b, 0, none⟩)), (.pointer (some ⟨E_b, 0, none⟩)), (.pointer (some ⟨F_b, 0, none⟩))])] w fun e w' => ∃ v, e = .returned v ∧ (v = (.int .i64 r) ∧ Mem w (bs [some B_b, some E_b, some F_b]) [⟨some B_b, 27, [(.int .i16 g1c0.fSteps), (.slice D_a D_an D_c)]⟩, ⟨(some E_b), 40, row encU32 g1c1.1 []⟩, ⟨some F_b, 101, [(.int .i16 g1c2.fAt), (.int .i8 g1c2.fPitch)]⟩] w') := by
  subst A_hn D_hn
  rw [slices_IndexFunc_Choice_at_impl_Greedy_1] at h
  refine enter (args := [(.slice A_a s0.length A_c), (.func (.func 62) #[] #[(.pointer (some ⟨B_b, 0, none⟩)), (.pointer (some ⟨E_b, 0, none⟩)), (.pointer (some ⟨F_b, 0, none⟩))])]) Tryz.func129 rfl Tryz.ntmps129 (by kernel_rfl) (L := [⟨some B_b, 27, [(.int .i16 g1c0.fSteps), (.slice D_a g1c0.fHammers.length D_c)]⟩, ⟨(some E_b), 40, row encU32 g1c1.1 []⟩, ⟨some F_b, 101, [(.int .i16 g1c2.fAt), (.int .i8 g1c2.fPitch)]⟩]) (W := bs [some B_b, some E_b, some F_b]) hm0 ?_
  refine jc_seq (jc_region (qh [0] (qe (jx_then (jc_seq (jc_seq (jc_region (qh [0,0,0] (qe (jx_then (jc_meet (fun (_ : Unit) => slices_IndexFunc_Choice_at_impl_Greedy_1.k_1 = some r) (fun (_ : Unit) => [(4, [], (.int .i64 0))]) (fun (_ : Unit) => [⟨some B_b, 27, [(.int .i16 g1c0.fSteps), (.slice D_a g1c0.fHammers.length D_c)]⟩, ⟨(some E_b), 40, row encU32 g1c1.1 []⟩, ⟨some F_b, 101, [(.int .i16 g1c2.fAt), (.int .i8 g1c2.fPitch)]⟩]) ?_ ?_)))))))))))
  ·refine jc_block ?_
   obtain ⟨t_4, ht_40, hr_31⟩ := bd h
   refine jc_loop (fun (s : Int) (x : Unit) => match s, x with | i_2, _ => True) (fun (s : Int) (x : Unit) => match s, x with | i_2, _ => [(0, [], (.slice A_a s0.length A_c)), (1, [], (.func (.func 62) #[] #[(.pointer (some ⟨B_b, 0, none⟩)), (.pointer (some ⟨E_b, 0, none⟩)), (.pointer (some ⟨F_b, 0, none⟩))])), (4, [], (.int .i64 0)), (7, [], (.int .i64 (s0.length : Int))), (8, [], (.int .i64 i_2))]) (fun (s : Int) (x : Unit) => match s, x with | i_2, _ => [⟨some B_b, 27, [(.int .i16 g1c0.fSteps), (.slice D_a g1c0.fHammers.length D_c)]⟩, ⟨(some E_b), 40, row encU32 g1c1.1 []⟩, ⟨some F_b, 101, [(.int .i16 g1c2.fAt), (.int .i8 g1c2.fPitch)]⟩]) ht_40 () trivial (by kernel_rfl) [0, 1, 2] (by kernel_rfl) (by kernel_rfl) ?_
   rintro i_2 _ y_32 _ h
   rw [slices_IndexFunc_Choice_at_impl_Greedy_1.l_3] at h
   refine jc_seq (jc_region (qh [0] (qe (jx_then (jc_seq (qi h (fun h => ?_) (fun h => ?_)))))))
   ·refine jc_skip (jx_then (jc_seq (jc_block (jc_seq (jc_region (qh [0,0] (qe (jx_then (jc_seq (jc_region (qh [0,0,0] ?_)))))))))))
    obtain ⟨x_5, hx_35, h⟩ := bd h
    refine tO (qx 0 A_a 4 hx_35 rfl (A_h.sp hx_35) (jkO (tO (ql 0 true (fun w hm => ((hm.exRowW A_h A_ha).at hx_35)) (jkO ?_)))))
    obtain ⟨t_6, ht_36, h⟩ := bd h
    refine tO (pc 0 (fun w hm => impl_Greedy_1.calls x_5 g1c0 g1c1 g1c2 w _ D_c (hm.exRowW D_h D_ha) rfl (hm.ow 1 (some E_b) 40 g1c1.1 [] (fun e => nomatch e) encU32_len) B_b F_b (hm.pass (N := [⟨some B_b, 27, [(.int .i16 g1c0.fSteps), (.slice D_a g1c0.fHammers.length D_c)]⟩, ⟨some F_b, 101, [(.int .i16 g1c2.fAt), (.int .i8 g1c2.fPitch)]⟩]) [0, 2] (by kernel_rfl) (by kernel_rfl)) (hm.exApart (N := [⟨some B_b, 27, [(.int .i16 g1c0.fSteps), (.slice D_a g1c0.fHammers.length D_c)]⟩, ⟨some F_b, 101, [(.int .i16 g1c2.fAt), (.int .i8 g1c2.fPitch)]⟩]) D_h D_ha [0, 2] (by kernel_rfl)) (hm.ownApart (S := Int) (N := [⟨some B_b, 27, [(.int .i16 g1c0.fSteps), (.slice D_a g1c0.fHammers.length D_c)]⟩, ⟨some F_b, 101, [(.int .i16 g1c2.fAt), (.int .i8 g1c2.fPitch)]⟩]) (hh := 1) (o := (some E_b)) (T := 40) (cs := row encU32 g1c1.1 []) (xs := g1c1.1) (by kernel_rfl) (fun e => nomatch e) [0, 2] (by kernel_rfl) (by kernel_rfl)) ht_36) ?_)
    rintro w v w' hm ⟨rfl, hm'⟩
    refine ⟨_, hm.appW (ps := [(0, ⟨some B_b, 27, [(.int .i16 g1c0.fSteps), (.slice D_a g1c0.fHammers.length D_c)]⟩), (2, ⟨some F_b, 101, [(.int .i16 g1c2.fAt), (.int .i8 g1c2.fPitch)]⟩)]) (N := []) hm' (by kernel_rfl) (by kernel_rfl), jkO ?_⟩
    clear hm hm'
    refine qe (jx_then (qi h (fun h => ?_) (fun h => ?_)))
    ·refine jc_seq (jc_region (qh [0,0] (qe (jx_then (jc_ret (jx_inr (jx_thenr (jx_leaver (.inl i_2) (Option.some.inj h).symm (fun e_38 => ?_)))))))))
     subst e_38
     refine jx_inr (jx_thenr (jx_thenr ?_))
     obtain rfl := Option.some.inj hr_31
     exact qr [] (fun w hm => ⟨rfl, hm.pk [0, 1, 2]⟩)
    ·exact jc_skip (jx_inn (jx_then (jc_region (qh [0,0] (qe (qb (w64 (i_2 + 1)) () h trivial [0, 1, 2]))))))
   ·refine jc_exit (jx_thenx (jx_leave (.inr ()) (Option.some.inj h).symm (fun e_39 => ?_)))
    subst e_39
    exact jx_ine (qm () hr_31 [0, 1, 2])
  ·rintro _ h
   replace h : slices_IndexFunc_Choice_at_impl_Greedy_1.k_1 = some r := h
   rw [slices_IndexFunc_Choice_at_impl_Greedy_1.k_1] at h
   refine jx_then (jc_seq (jc_region (qh [0] (qe (jx_then (jc_ret ?_))))))
   obtain rfl := Option.some.inj h
   exact qr [] (fun w hm => ⟨rfl, hm.pk [0, 1, 2]⟩)
/-! ### slices.DeleteFunc[[]impl.Choice,impl.Choice] -/
def slices_DeleteFunc_Choice_at_impl_Greedy_1.k_4 (xs_2 : List GChoice) (i_3 : Int) : Option ((List GChoice)) := (if 0 ≤ i_3 ∧ i_3 ≤ (xs_2.length : Int) then some (xs_2.take i_3.toNat) else none)
def slices_DeleteFunc_Choice_at_impl_Greedy_1.l_8 (s0 : List GChoice) (g1c0 : GFrame) (g1c1 : Arr 96 Int) (g1c2 : GNote) : ((List GChoice) × Int × Int) → Option (((List GChoice) × Int × Int) ⊕ (((List GChoice) × Int)))
  | (xs_5, i_6, i_7) => (if (decide (i_7 < (s0.length : Int))) = true then (ix xs_5 i_7).bind fun x_10 => (impl_Greedy_1 x_10 g1c0 g1c1 g1c2).bind fun t_11 => (if (!t_11) = true then (ix xs_5 i_6).bind fun x_12 => some (.inl ((xs_5.set i_6.toNat x_10), (w64 (i_6 + 1)), (w64 (i_7 + 1)))) else some (.inl (xs_5, i_6, (w64 (i_7 + 1))))) else some (.inr (xs_5, i_6)))
def slices_DeleteFunc_Choice_at_impl_Greedy_1 (s0 : List GChoice) (g1c0 : GFrame) (g1c1 : Arr 96 Int) (g1c2 : GNote) : Option ((List GChoice)) := (slices_IndexFunc_Choice_at_impl_Greedy_1 s0 g1c0 g1c1 g1c2).bind fun t_1 => (if (t_1 == (-1)) = true then some s0 else (loop (slices_DeleteFunc_Choice_at_impl_Greedy_1.l_8 s0 g1c0 g1c1 g1c2) (s0, t_1, (w64 (t_1 + 1)))).bind fun t_9 => slices_DeleteFunc_Choice_at_impl_Greedy_1.k_4 t_9.1 t_9.2)
theorem slices_DeleteFunc_Choice_at_impl_Greedy_1.calls (s0 : List GChoice) (g1c0 : GFrame) (g1c1 : Arr 96 Int) (g1c2 : GNote) (w : World) (r : (List GChoice)) {D_a : Option Addr} {D_an : Nat} (D_c : Nat) (D_h : Rw w D_a 2 encGHammer g1c0.fHammers) (D_hn : g1c0.fHammers.length = D_an) (A_o : Option Nat) {A_on : Nat} {A_c : Nat} {A_sp : List Value} (A_hn : s0.length = A_on) (A_hs : A_o ≠ none → A_on ≤ A_c ∧ A_sp.length = (A_c - A_on) * 4) (A_ho : A_o = none → s0 = [] ∧ A_c = 0) (B_b : Nat) (E_b : Nat) (F_b : Nat) (hm0 : Mem w (bs [A_o, some B_b, some E_b, some F_b]) [⟨A_o, 104, row encGChoice s0 A_sp⟩, ⟨some B_b, 27, [(.int .i16 g1c0.fSteps), (.slice D_a D_an D_c)]⟩, ⟨(some E_b), 40, row encU32 g1c1.1 []⟩, ⟨some F_b, 101, [(.int .i16 g1c2.fAt), (.int .i8 g1c2.fPitch)]⟩] w) (D_ha : g1c0.fHammers ≠ [] → aB D_a ∉ bs [A_o, some B_b, some E_b, some F_b]) (h : slices_DeleteFunc_Choice_at_impl_Greedy_1 s0 g1c0 g1c1 g1c2 = some r) :
    Calls Tryz.prog 60 #[(.slice (A_o.map fun b => ⟨b, 0, none⟩) A_on A_c), (.func (.func 62) #[] #[(.pointer (some ⟨B_b, 0, none⟩)), (.pointer (some ⟨E_b, 0, none⟩)), (.pointer (some ⟨F_b, 0, none⟩))])] w fun e w' => ∃ v, e = .returned v ∧ (∃ (o0 : Option Nat) (c0 : Nat) (s0 : List Value) (n0 : Nat), r.length = n0 ∧ (o0 ≠ none → n0 ≤ c0 ∧ s0.length = (c0 - n0) * 4) ∧ (o0 = none → r = [] ∧ c0 = 0) ∧ v = .slice (o0.map fun b => ⟨b, 0, none⟩) n0 c0 ∧ Mem w (bs [A_o, some B_b, some E_b, some F_b]) [⟨some B_b, 27, [(.int .i16 g1c0.fSteps), (.slice D_a D_an D_c)]⟩, ⟨(some E_b), 40, row encU32 g1c1.1 []⟩, ⟨some F_b, 101, [(.int .i16 g1c2.fAt), (.int .i8 g1c2.fPitch)]⟩, ⟨o0, 104, row encGChoice r s0⟩] w') := by
  subst D_hn A_hn
  rw [slices_DeleteFunc_Choice_at_impl_Greedy_1] at h
  refine enter (args := [(.slice (A_o.map fun b => ⟨b, 0, none⟩) s0.length A_c), (.func (.func 62) #[] #[(.pointer (some ⟨B_b, 0, none⟩)), (.pointer (some ⟨E_b, 0, none⟩)), (.pointer (some ⟨F_b, 0, none⟩))])]) Tryz.func60 rfl Tryz.ntmps60 (by kernel_rfl) (L := [⟨A_o, 104, row encGChoice s0 A_sp⟩, ⟨some B_b, 27, [(.int .i16 g1c0.fSteps), (.slice D_a g1c0.fHammers.length D_c)]⟩, ⟨(some E_b), 40, row encU32 g1c1.1 []⟩, ⟨some F_b, 101, [(.int .i16 g1c2.fAt), (.int .i8 g1c2.fPitch)]⟩]) (W := bs [A_o, some B_b, some E_b, some F_b]) hm0 ?_
  refine jc_seq (jc_region (qh [0] (qe (jx_then (jc_seq (jc_region (qh [0,0] ?_)))))))
  obtain ⟨t_1, ht_1, h⟩ := bd h
  refine tO (pc 0 (fun w hm => slices_IndexFunc_Choice_at_impl_Greedy_1.calls s0 g1c0 g1c1 g1c2 w _ A_c (hm.ow 0 A_o 104 s0 A_sp (fun e => (A_ho e).1) encGChoice_len) rfl D_c (hm.exRowW D_h D_ha) rfl B_b E_b F_b (hm.pass (N := [⟨some B_b, 27, [(.int .i16 g1c0.fSteps), (.slice D_a g1c0.fHammers.length D_c)]⟩, ⟨(some E_b), 40, row encU32 g1c1.1 []⟩, ⟨some F_b, 101, [(.int .i16 g1c2.fAt), (.int .i8 g1c2.fPitch)]⟩]) [1, 2, 3] (by kernel_rfl) (by kernel_rfl)) (hm.ownApart (S := GChoice) (N := [⟨some B_b, 27, [(.int .i16 g1c0.fSteps), (.slice D_a g1c0.fHammers.length D_c)]⟩, ⟨(some E_b), 40, row encU32 g1c1.1 []⟩, ⟨some F_b, 101, [(.int .i16 g1c2.fAt), (.int .i8 g1c2.fPitch)]⟩]) (hh := 0) (o := A_o) (T := 104) (cs := row encGChoice s0 A_sp) (xs := s0) (by kernel_rfl) (fun e => (A_ho e).1) [1, 2, 3] (by kernel_rfl) (by kernel_rfl)) (hm.exApart (N := [⟨some B_b, 27, [(.int .i16 g1c0.fSteps), (.slice D_a g1c0.fHammers.length D_c)]⟩, ⟨(some E_b), 40, row encU32 g1c1.1 []⟩, ⟨some F_b, 101, [(.int .i16 g1c2.fAt), (.int .i8 g1c2.fPitch)]⟩]) D_h D_ha [1, 2, 3] (by kernel_rfl)) ht_1) ?_)
  rintro w v w' hm ⟨rfl, hm'⟩
  refine ⟨_, hm.appW (ps := [(1, ⟨some B_b, 27, [(.int .i16 g1c0.fSteps), (.slice D_a g1c0.fHammers.length D_c)]⟩), (2, ⟨(some E_b), 40, row encU32 g1c1.1 []⟩), (3, ⟨some F_b, 101, [(.int .i16 g1c2.fAt), (.int .i8 g1c2.fPitch)]⟩)]) (N := []) hm' (by kernel_rfl) (by kernel_rfl), jkO ?_⟩
  clear hm hm'
  refine qh [0] (qe (jx_then (jc_seq (jc_seq (jc_region (qh [0,0] (qe (jx_then (qi h (fun h => ?_) (fun h => ?_))))))))))
  ·refine jc_seq (jc_region (qh [0,0] (qe (jx_then (jc_ret (jx_thenr ?_))))))
   obtain rfl := Option.some.inj h
   exact qr [] (fun w hm => ⟨A_o, A_c, A_sp, s0.length, rfl, A_hs, A_ho, rfl, hm.pk [1, 2, 3, 0]⟩)
  ·refine jc_skip (jx_then (jc_seq (jc_seq (jc_region (qh [0,0,0] (qe (jx_then (jc_meet (fun (j : (List GChoice) × Int) => match j with | ⟨xs_2, i_3⟩ => slices_DeleteFunc_Choice_at_impl_Greedy_1.k_4 xs_2 i_3 = some r ∧ (xs_2.length = s0.length) ∧ ((A_o = none → xs_2 = [] ∧ A_c = 0))) (fun (j : (List GChoice) × Int) => match j with | ⟨xs_2, i_3⟩ => [(0, [], (.slice (A_o.map fun b => ⟨b, 0, none⟩) s0.length A_c)), (4, [], (.slice none 0 0)), (5, [], (.int .i64 i_3))]) (fun (j : (List GChoice) × Int) => match j with | ⟨xs_2, i_3⟩ => [⟨A_o, 104, row encGChoice xs_2 A_sp⟩, ⟨some B_b, 27, [(.int .i16 g1c0.fSteps), (.slice D_a g1c0.fHammers.length D_c)]⟩, ⟨(some E_b), 40, row encU32 g1c1.1 []⟩, ⟨some F_b, 101, [(.int .i16 g1c2.fAt), (.int .i8 g1c2.fPitch)]⟩]) ?_ ?_))))))))
   ·refine jc_block ?_
    obtain ⟨t_9, ht_127, hr_117⟩ := bd h
    refine jc_loop (fun (s : (List GChoice) × Int × Int) (x : Unit) => match s, x with | ⟨xs_5, i_6, i_7⟩, _ => (xs_5.length = s0.length) ∧ ((A_o = none → xs_5 = [] ∧ A_c = 0))) (fun (s : (List GChoice) × Int × Int) (x : Unit) => match s, x with | ⟨xs_5, i_6, i_7⟩, _ => [(0, [], (.slice (A_o.map fun b => ⟨b, 0, none⟩) s0.length A_c)), (1, [], (.func (.func 62) #[] #[(.pointer (some ⟨B_b, 0, none⟩)), (.pointer (some ⟨E_b, 0, none⟩)), (.pointer (some ⟨F_b, 0, none⟩))])), (4, [], (.slice none 0 0)), (5, [], (.int .i64 i_6)), (6, [], (.int .i64 i_7))]) (fun (s : (List GChoice) × Int × Int) (x : Unit) => match s, x with | ⟨xs_5, i_6, i_7⟩, _ => [⟨A_o, 104, row encGChoice xs_5 A_sp⟩, ⟨some B_b, 27, [(.int .i16 g1c0.fSteps), (.slice D_a g1c0.fHammers.length D_c)]⟩, ⟨(some E_b), 40, row encU32 g1c1.1 []⟩, ⟨some F_b, 101, [(.int .i16 g1c2.fAt), (.int .i8 g1c2.fPitch)]⟩]) ht_127 () ⟨rfl, A_ho⟩ (by kernel_rfl) [0, 1, 2, 3] (by kernel_rfl) (by kernel_rfl) ?_
    rintro ⟨xs_5, i_6, i_7⟩ _ y_118 ⟨hn_116, ho_115⟩ h
    rw [slices_DeleteFunc_Choice_at_impl_Greedy_1.l_8] at h
    refine jc_seq (jc_seq (jc_region (qh [0,0,0,0] (qe (jx_then (qi h (fun h => ?_) (fun h => ?_)))))))
    ·refine jc_skip (jx_then (jc_seq (jc_block (jc_seq (jc_region (qh [0,0] ?_))))))
     obtain ⟨x_10, hx_121, h⟩ := bd h
     refine tO (qx 0 (A_o.map fun b => ⟨b, 0, none⟩) 4 hx_121 hn_116 (spo ho_115 hx_121) (jkO (tO (ql 0 true (fun w hm => ((hm.ow 0 A_o 104 xs_5 A_sp (fun e => (ho_115 e).1) encGChoice_len).at hx_121)) (jkO (tO (qa 0 (fun b_122 => jkO (tO (qs 0 [4] (jkO (qe (jx_then (jc_seq (jc_region (qh [0,4] ?_))))))))))))))))
     obtain ⟨t_11, ht_123, h⟩ := bd h
     refine tO (pc 0 (fun w hm => impl_Greedy_1.calls x_10 g1c0 g1c1 g1c2 w _ D_c (hm.exRowW D_h D_ha) rfl (hm.ow 2 (some E_b) 40 g1c1.1 [] (fun e => nomatch e) encU32_len) B_b F_b (hm.pass (N := [⟨some B_b, 27, [(.int .i16 g1c0.fSteps), (.slice D_a g1c0.fHammers.length D_c)]⟩, ⟨some F_b, 101, [(.int .i16 g1c2.fAt), (.int .i8 g1c2.fPitch)]⟩]) [1, 3] (by kernel_rfl) (by kernel_rfl)) (hm.exApart (N := [⟨some B_b, 27, [(.int .i16 g1c0.fSteps), (.slice D_a g1c0.fHammers.length D_c)]⟩, ⟨some F_b, 101, [(.int .i16 g1c2.fAt), (.int .i8 g1c2.fPitch)]⟩]) D_h D_ha [1, 3] (by kernel_rfl)) (hm.ownApart (S := Int) (N := [⟨some B_b, 27, [(.int .i16 g1c0.fSteps), (.slice D_a g1c0.fHammers.length D_c)]⟩, ⟨some F_b, 101, [(.int .i16 g1c2.fAt), (.int .i8 g1c2.fPitch)]⟩]) (hh := 2) (o := (some E_b)) (T := 40) (cs := row encU32 g1c1.1 []) (xs := g1c1.1) (by kernel_rfl) (fun e => nomatch e) [1, 3] (by kernel_rfl) (by kernel_rfl)) ht_123) ?_)
     rintro w v w' hm ⟨rfl, hm'⟩
     refine ⟨_, hm.appW (ps := [(1, ⟨some B_b, 27, [(.int .i16 g1c0.fSteps), (.slice D_a g1c0.fHammers.length D_c)]⟩), (3, ⟨some F_b, 101, [(.int .i16 g1c2.fAt), (.int .i8 g1c2.fPitch)]⟩)]) (N := []) hm' (by kernel_rfl) (by kernel_rfl), jkO ?_⟩
     clear hm hm'
     refine qh [0] (qe (jx_then (qi h (fun h => ?_) (fun h => ?_))))
     ·refine jc_seq (jc_region (qh [0,0,4] ?_))
      obtain ⟨x_12, hx_125, h⟩ := bd h
      exact tO (qx 0 (A_o.map fun b => ⟨b, 0, none⟩) 4 hx_125 hn_116 (spo ho_115 hx_125) (jkO (tO (p_strO 0 0 A_o 104 encGChoice xs_5 A_sp i_6 x_10 4 0 [(.bool x_10.fAway), (.int .i8 x_10.fLate), (.int .i8 x_10.fOctave), (.int .i8 x_10.fTrack)] (by kernel_rfl) (by kernel_rfl) (by kernel_rfl) (fun e => (ho_115 e).1) encGChoice_len hx_125 (by kernel_rfl) (by kernel_rfl) (jkO (qe (jx_then (jc_region (qh [0,0,0] (qe (jx_inn (jx_then (jc_region (qh [0,0,0] (qe (qb ((xs_5.set i_6.toNat x_10), (w64 (i_6 + 1)), (w64 (i_7 + 1))) () h ⟨(List.length_set.trans hn_116), (set_ho ho_115)⟩ [0, 1, 2, 3]))))))))))))))))
     ·exact jc_skip (jx_inn (jx_then (jc_region (qh [0,0,0] (qe (qb (xs_5, i_6, (w64 (i_7 + 1))) () h ⟨hn_116, ho_115⟩ [0, 1, 2, 3]))))))
    ·refine jc_exit (jx_thenx (jx_leave (xs_5, i_6) (Option.some.inj h).symm (fun e_126 => ?_)))
     subst e_126
     exact jx_ine (qm ⟨xs_5, i_6⟩ ⟨hr_117, hn_116, ho_115⟩ [0, 1, 2, 3])
   ·rintro ⟨xs_2, i_3⟩ ⟨h, hn_94, ho_93⟩
    replace h : slices_DeleteFunc_Choice_at_impl_Greedy_1.k_4 xs_2 i_3 = some r := h
    rw [slices_DeleteFunc_Choice_at_impl_Greedy_1.k_4] at h
    refine jx_then (jc_seq (jc_region (qh [0,0] ?_)))
    obtain ⟨hg_95, h⟩ := gd h
    refine tO (p_slL 0 (A_o.map fun b => ⟨b, 0, none⟩) s0.length A_c 4 i_3 (by kernel_rfl) (by kernel_rfl) hg_95.1 (Int.le_trans hg_95.2 (Int.ofNat_le.2 (Nat.le_of_eq hn_94))) (jkO (tO (jp_cut (hh := 0) (o := A_o) (T := 104) (enc := encGChoice) (xs := xs_2) (sp := A_sp) i_3.toNat (by kernel_rfl) (p_clr 0 0 A_o 104 i_3.toNat i_3.toNat (s0.length - i_3.toNat) A_c 4 [(.bool false), (.int .i8 0), (.int .i8 0), (.int .i8 0)] encGChoice (xs_2.take i_3.toNat) ((xs_2.drop i_3.toNat).flatMap encGChoice ++ A_sp) (hd_len hg_95) rfl (by kernel_rfl) (by kernel_rfl) (by kernel_rfl) encGChoice_len (by kernel_rfl) (cut_hs encGChoice_len (show i_3.toNat ≤ xs_2.length by have := hg_95; omega) hn_94 A_hs) (cut_ho i_3.toNat ho_93) (by have := (cap_le hn_94 A_hs ho_93); have : xs_2.length = s0.length := hn_94; omega) (fun sp_96 hl_97 => jkO (qe (jx_then (jc_seq (jc_region (qh [0,0] (tO (p_slH 0 (A_o.map fun b => ⟨b, 0, none⟩) s0.length A_c 4 i_3 (by kernel_rfl) (by kernel_rfl) hg_95.1 (by have h1 := (cap_le (hd_len hg_95) (fun e => ⟨((cut_hs encGChoice_len (show i_3.toNat ≤ xs_2.length by have := hg_95; omega) hn_94 A_hs) e).1, hl_97.trans ((cut_hs encGChoice_len (show i_3.toNat ≤ xs_2.length by have := hg_95; omega) hn_94 A_hs) e).2⟩) (cut_ho i_3.toNat ho_93)); have h2 := (hd_len hg_95); omega) (jkO (qh [0] (qe (jx_then (jc_ret ?_))))))))))))))))))
    obtain rfl := Option.some.inj h
    exact qr [] (fun w hm => ⟨A_o, A_c, sp_96, i_3.toNat, (hd_len hg_95), (fun e => ⟨((cut_hs encGChoice_len (show i_3.toNat ≤ xs_2.length by have := hg_95; omega) hn_94 A_hs) e).1, hl_97.trans ((cut_hs encGChoice_len (show i_3.toNat ≤ xs_2.length by have := hg_95; omega) hn_94 A_hs) e).2⟩), (cut_ho i_3.toNat ho_93), rfl, hm.pk [1, 2, 3, 0]⟩)
/-! ### impl.Greedy$2 -/
def impl_Greedy_2 (a0 : GChoice) (b1 : GChoice) (p2 : GCosts) : Option (Int) := (impl_Costs_of p2 a0).bind fun t_1 => (impl_Costs_of p2 b1).bind fun t_2 => (cmp_Compare_int64 t_1 t_2).bind fun t_3 => some t_3
theorem impl_Greedy_2.calls (a0 : GChoice) (b1 : GChoice) (p2 : GCosts) (w : World) (r : Int) (K_b : Nat) (hm0 : Mem w (bs [some K_b]) [⟨some K_b, 33, [(.int .i16 p2.fAway), (.int .i16 p2.fOctave), (.int .i16 p2.fStep)]⟩] w) (h : impl_Greedy_2 a0 b1 p2 = some r) :
    Calls Tryz.prog 65 #[(.agg #[(.bool a0.fAway), (.int .i8 a0.fLate), (.int .i8 a0.fOctave), (.int .i8 a0.fTrack)]), (.agg #[(.bool b1.fAway), (.int .i8 b1.fLate), (.int .i8 b1.fOctave), (.int .i8 b1.fTrack)]), (.pointer (some ⟨K_b, 0, none⟩))] w fun e w' => ∃ v, e = .returned v ∧ (v = (.int .i64 r) ∧ Mem w (bs [some K_b]) [⟨some K_b, 33, [(.int .i16 p2.fAway), (.int .i16 p2.fOctave), (.int .i16 p2.fStep)]⟩] w') := by
  rw [impl_Greedy_2] at h
  refine enter (args := [(.agg #[(.bool a0.fAway), (.int .i8 a0.fLate), (.int .i8 a0.fOctave), (.int .i8 a0.fTrack)]), (.agg #[(.bool b1.fAway), (.int .i8 b1.fLate), (.int .i8 b1.fOctave), (.int .i8 b1.fTrack)]), (.pointer (some ⟨K_b, 0, none⟩))]) Tryz.func65 rfl Tryz.ntmps65 (by kernel_rfl) (L := [⟨some K_b, 33, [(.int .i16 p2.fAway), (.int .i16 p2.fOctave), (.int .i16 p2.fStep)]⟩]) (W := bs [some K_b]) hm0 ?_
  refine jc_seq (jc_region (tO (qa 0 (fun b_1 => jkO (tO (qa 0 (fun b_2 => jkO (qh [0] (qe (jx_then (jc_seq (qg [⟨some K_b, 33, [(.int .i16 p2.fAway), (.int .i16 p2.fOctave), (.int .i16 p2.fStep)]⟩, ⟨some b_1, 104, [(.bool a0.fAway), (.int .i8 a0.fLate), (.int .i8 a0.fOctave), (.int .i8 a0.fTrack)]⟩, ⟨some b_2, 104, [(.bool b1.fAway), (.int .i8 b1.fLate), (.int .i8 b1.fOctave), (.int .i8 b1.fTrack)]⟩] 8 (qd [⟨0, 0, 0⟩,⟨1, 1, 0⟩,⟨3, 0, 0⟩,⟨4, 2, 0⟩] 4 [0, 1, 2] ?_)))))))))))))
  obtain ⟨t_1, ht_3, h⟩ := bd h
  refine tD 2 (pc 0 (fun w hm => impl_Costs_of.calls p2 a0 w _ ht_3) ?_)
  rintro w v w' hm ⟨rfl, hm'⟩
  refine ⟨_, hm.app hm', kD [0, 1, 2] ?_⟩
  clear hm hm'
  obtain ⟨t_2, ht_4, h⟩ := bd h
  refine tD 5 (pc 0 (fun w hm => impl_Costs_of.calls p2 b1 w _ ht_4) ?_)
  rintro w v w' hm ⟨rfl, hm'⟩
  refine ⟨_, hm.app hm', kD [0, 1, 2] ?_⟩
  clear hm hm'
  obtain ⟨t_3, ht_5, h⟩ := bd h
  refine tD 6 (pc 0 (fun w hm => cmp_Compare_int64.calls t_1 t_2 w _ ht_5) ?_)
  rintro w v w' hm ⟨rfl, hm'⟩
  refine ⟨_, hm.app hm', kD [0, 1, 2] ?_⟩
  clear hm hm'
  refine qd [⟨7, 0, 0⟩] 0 [0, 1, 2] (qz (jx_then (jc_ret ?_)))
  obtain rfl := Option.some.inj h
  exact qr [] (fun w hm => ⟨rfl, hm.pk [0]⟩)
/-! ### slices.MinFunc[[]impl.Choice,impl.Choice] -/
def slices_MinFunc_Choice_at_impl_Greedy_2.k_6 (q_2 : Bool) (i_3 : Int) (i_4 : Int) (i_5 : Int) : Option (GChoice) := some (⟨q_2, i_3, i_4, i_5⟩ : GChoice)
def slices_MinFunc_Choice_at_impl_Greedy_2.l_12 (x0 : List GChoice) (g1c0 : GCosts) : (Bool × Int × Int × Int × Int) → Option ((Bool × Int × Int × Int × Int) ⊕ ((Bool × Int × Int × Int)))
  | (q_7, i_8, i_9, i_10, i_11) => (if (decide (i_11 < (x0.length : Int))) = true then (ix x0 i_11).bind fun x_14 => (impl_Greedy_2 x_14 (⟨q_7, i_8, i_9, i_10⟩ : GChoice) g1c0).bind fun t_15 => (if (decide (t_15 < 0)) = true then (ix x0 i_11).bind fun x_16 => some (.inl (x_16.fAway, x_16.fLate, x_16.fOctave, x_16.fTrack, (w64 (i_11 + 1)))) else some (.inl (q_7, i_8, i_9, i_10, (w64 (i_11 + 1))))) else some (.inr (q_7, i_8, i_9, i_10)))
def slices_MinFunc_Choice_at_impl_Greedy_2 (x0 : List GChoice) (g1c0 : GCosts) : Option (GChoice) := (if (decide ((x0.length : Int) < 1)) = true then none else (ix x0 0).bind fun x_1 => (loop (slices_MinFunc_Choice_at_impl_Greedy_2.l_12 x0 g1c0) (x_1.fAway, x_1.fLate, x_1.fOctave, x_1.fTrack, 1)).bind fun t_13 => slices_MinFunc_Choice_at_impl_Greedy_2.k_6 t_13.1 t_13.2.1 t_13.2.2.1 t_13.2.2.2)
theorem slices_MinFunc_Choice_at_impl_Greedy_2.calls (x0 : List GChoice) (g1c0 : GCosts) (w : World) (r : GChoice) {A_a : Option Addr} {A_an : Nat} (A_c : Nat) (A_h : Rw w A_a 4 encGChoice x0) (A_hn : x0.length = A_an) (B_b : Nat) (hm0 : Mem w (bs [some B_b]) [⟨some B_b, 33, [(.int .i16 g1c0.fAway), (.int .i16 g1c0.fOctave), (.int .i16 g1c0.fStep)]⟩] w) (A_ha : x0 ≠ [] → aB A_a ∉ bs [some B_b]) (h : slices_MinFunc_Choice_at_impl_Greedy_2 x0 g1c0 = some r) :
    Calls Tryz.prog 64 #[(.slice A_a A_an A_c), (.func (.func 65) #[] #[(.pointer (some ⟨B_b, 0, none⟩))])] w fun e w' => ∃ v, e = .returned v ∧ (v = .agg #[(.bool r.fAway), (.int .i8 r.fLate), (.int .i8 r.fOctave), (.int .i8 r.fTrack)] ∧ Mem w (bs [some B_b]) [⟨some B_b, 33, [(.int .i16 g1c0.fAway), (.int .i16 g1c0.fOctave), (.int .i16 g1c0.fStep)]⟩] w') := by
  subst A_hn
  rw [slices_MinFunc_Choice_at_impl_Greedy_2] at h
  refine enter (args := [(.slice A_a x0.length A_c), (.func (.func 65) #[] #[(.pointer (some ⟨B_b, 0, none⟩))])]) Tryz.func64 rfl Tryz.ntmps64 (by kernel_rfl) (L := [⟨some B_b, 33, [(.int .i16 g1c0.fAway), (.int .i16 g1c0.fOctave), (.int .i16 g1c0.fStep)]⟩]) (W := bs [some B_b]) hm0 ?_
  refine jc_seq (jc_region (tO (qa 0 (fun b_1 => jkO (qe (jx_then (jc_seq (jc_seq (jc_region (qh [0,0,0] (qe (jx_then (qi h (fun h => ?_) (fun h => ?_))))))))))))))
  ·refine jc_region ?_
   cases h
  ·refine jc_skip (jx_then (jc_seq (jc_region (qh [0] ?_))))
   obtain ⟨x_1, hx_4, h⟩ := bd h
   refine tO (qx 0 A_a 4 hx_4 rfl (A_h.sp hx_4) (jkO (tO (ql 0 true (fun w hm => ((hm.exRowW A_h A_ha).at hx_4)) (jkO (tO (qa 0 (fun b_5 => jkO (tO (qs 0 [2] (jkO (qe (jx_then (jc_seq (jc_seq (jc_region (qh [0] (qe (jx_then (jc_meet (fun (j : Bool × Int × Int × Int) => match j with | ⟨q_2, i_3, i_4, i_5⟩ => slices_MinFunc_Choice_at_impl_Greedy_2.k_6 q_2 i_3 i_4 i_5 = some r) (fun (j : Bool × Int × Int × Int) => match j with | ⟨q_2, i_3, i_4, i_5⟩ => [(4, [], (.pointer (some ⟨b_1, 0, none⟩))), (5, [], (.pointer (some ⟨b_5, 0, none⟩)))]) (fun (j : Bool × Int × Int × Int) => match j with | ⟨q_2, i_3, i_4, i_5⟩ => [⟨some B_b, 33, [(.int .i16 g1c0.fAway), (.int .i16 g1c0.fOctave), (.int .i16 g1c0.fStep)]⟩, ⟨some b_1, 104, [(.bool false), (.int .i8 0), (.int .i8 0), (.int .i8 0)]⟩, ⟨some b_5, 104, [(.bool q_2), (.int .i8 i_3), (.int .i8 i_4), (.int .i8 i_5)]⟩]) ?_ ?_))))))))))))))))))))
   ·refine jc_block ?_
    obtain ⟨t_13, ht_93, hr_84⟩ := bd h
    refine jc_loop (fun (s : Bool × Int × Int × Int × Int) (x : Unit) => match s, x with | ⟨q_7, i_8, i_9, i_10, i_11⟩, _ => True) (fun (s : Bool × Int × Int × Int × Int) (x : Unit) => match s, x with | ⟨q_7, i_8, i_9, i_10, i_11⟩, _ => [(0, [], (.slice A_a x0.length A_c)), (1, [], (.func (.func 65) #[] #[(.pointer (some ⟨B_b, 0, none⟩))])), (4, [], (.pointer (some ⟨b_1, 0, none⟩))), (5, [], (.pointer (some ⟨b_5, 0, none⟩))), (6, [], (.int .i64 i_11))]) (fun (s : Bool × Int × Int × Int × Int) (x : Unit) => match s, x with | ⟨q_7, i_8, i_9, i_10, i_11⟩, _ => [⟨some B_b, 33, [(.int .i16 g1c0.fAway), (.int .i16 g1c0.fOctave), (.int .i16 g1c0.fStep)]⟩, ⟨some b_1, 104, [(.bool false), (.int .i8 0), (.int .i8 0), (.int .i8 0)]⟩, ⟨some b_5, 104, [(.bool q_7), (.int .i8 i_8), (.int .i8 i_9), (.int .i8 i_10)]⟩]) ht_93 () trivial (by kernel_rfl) [0, 1, 2] (by kernel_rfl) (by kernel_rfl) ?_
    rintro ⟨q_7, i_8, i_9, i_10, i_11⟩ _ y_85 _ h
    rw [slices_MinFunc_Choice_at_impl_Greedy_2.l_12] at h
    refine jc_seq (jc_seq (jc_region (qh [0,0,0,0] (qe (jx_then (qi h (fun h => ?_) (fun h => ?_)))))))
    ·refine jc_skip (jx_then (jc_seq (jc_block (jc_seq (qg [⟨some B_b, 33, [(.int .i16 g1c0.fAway), (.int .i16 g1c0.fOctave), (.int .i16 g1c0.fStep)]⟩, ⟨some b_1, 104, [(.bool false), (.int .i8 0), (.int .i8 0), (.int .i8 0)]⟩, ⟨some b_5, 104, [(.bool q_7), (.int .i8 i_8), (.int .i8 i_9), (.int .i8 i_10)]⟩] 8 (qd [⟨0, 0, 0⟩,⟨1, 0, 0⟩,⟨2, 0, 0⟩,⟨5, 2, 0⟩] 4 [0, 1, 2] ?_))))))
     obtain ⟨x_14, hx_88, h⟩ := bd h
     refine qv 3 0 [0, 1, 2] (fun w hm => idx_run (a := A_a) (len := x0.length) (s := 4) (j := i_11) (by kernel_rfl) (ix_some hx_88).1 (ltn hx_88 rfl) (A_h.sp hx_88)) (qv 4 0 [0, 1, 2] (fun w hm => ld_run (b := aB A_a) (off := (aO A_a + i_11.toNat * 4)) (s := 4) (agg := true) (vs := (encGChoice x_14)) (by kernel_rfl) (by kernel_rfl) (.inl rfl) ((hm.exRowW A_h A_ha).at hx_88)) ?_)
     obtain ⟨t_15, ht_89, h⟩ := bd h
     refine tD 6 (pc 0 (fun w hm => impl_Greedy_2.calls x_14 (⟨q_7, i_8, i_9, i_10⟩ : GChoice) g1c0 w _ B_b (hm.pass (N := [⟨some B_b, 33, [(.int .i16 g1c0.fAway), (.int .i16 g1c0.fOctave), (.int .i16 g1c0.fStep)]⟩]) [0] (by kernel_rfl) (by kernel_rfl)) ht_89) ?_)
     rintro w v w' hm ⟨rfl, hm'⟩
     refine ⟨_, hm.appW (ps := [(0, ⟨some B_b, 33, [(.int .i16 g1c0.fAway), (.int .i16 g1c0.fOctave), (.int .i16 g1c0.fStep)]⟩)]) (N := []) hm' (by kernel_rfl) (by kernel_rfl), kD [0, 1, 2] ?_⟩
     clear hm hm'
     refine qd [⟨7, 0, 0⟩] 0 [0, 1, 2] (qz (jx_then (qi h (fun h => ?_) (fun h => ?_))))
     ·refine jc_region (qh [0,0] ?_)
      obtain ⟨x_16, hx_91, h⟩ := bd h
      exact tO (qx 0 A_a 4 hx_91 rfl (A_h.sp hx_91) (jkO (tO (ql 0 true (fun w hm => ((hm.exRowW A_h A_ha).at hx_91)) (jkO (tO (qs 0 [2] (jkO (qe (jx_inn (jx_then (jc_region (qh [0,0,0] (qe (qb (x_16.fAway, x_16.fLate, x_16.fOctave, x_16.fTrack, (w64 (i_11 + 1))) () h trivial [0, 1, 2])))))))))))))))
     ·exact jc_skip (jx_inn (jx_then (jc_region (qh [0,0,0] (qe (qb (q_7, i_8, i_9, i_10, (w64 (i_11 + 1))) () h trivial [0, 1, 2]))))))
    ·refine jc_exit (jx_thenx (jx_leave (q_7, i_8, i_9, i_10) (Option.some.inj h).symm (fun e_92 => ?_)))
     subst e_92
     exact jx_ine (qm ⟨q_7, i_8, i_9, i_10⟩ hr_84 [0, 1, 2])
   ·rintro ⟨q_2, i_3, i_4, i_5⟩ h
    replace h : slices_MinFunc_Choice_at_impl_Greedy_2.k_6 q_2 i_3 i_4 i_5 = some r := h
    rw [slices_MinFunc_Choice_at_impl_Greedy_2.k_6] at h
    refine jx_then (jc_seq (jc_region (qh [2] (tO (qs 0 [1] (jkO (qe (jx_then (jc_ret ?_)))))))))
    obtain rfl := Option.some.inj h
    exact qr [1] (fun w hm => ⟨rfl, hm.pk [0]⟩)
/-! ### impl.Greedy -/
def impl_Greedy.k_4 (xs_2 : List GChoice) (a_3 : Arr 96 Int) : Option ((List GChoice) × Int) := some (xs_2, 0)
def impl_Greedy.l_8 (f0 : GFrame) (t1 : List GNote) (c2 : GCosts) : ((List GChoice) × (Arr 96 Int) × Int) → Option (((List GChoice) × (Arr 96 Int) × Int) ⊕ (((List GChoice) × (Arr 96 Int))))
  | (xs_5, a_6, i_7) => (if (decide (i_7 < (t1.length : Int))) = true then (ix t1 i_7).bind fun x_10 => (impl_Frame_choices f0 x_10).bind fun t_11 => (slices_DeleteFunc_Choice_at_impl_Greedy_1 t_11 f0 a_6 x_10).bind fun t_12 => (slices_MinFunc_Choice_at_impl_Greedy_2 t_12 c2).bind fun t_13 => (impl_Drum_puts a_6 x_10 t_13).bind fun t_14 => (if xs_5.length + ([t_13] : List GChoice).length ≤ 4294967296 then some (.inl ((xs_5 ++ ([t_13] : List GChoice)), t_14, (w64 (i_7 + 1)))) else none) else some (.inr (xs_5, a_6)))
def impl_Greedy (f0 : GFrame) (t1 : List GNote) (c2 : GCosts) : Option ((List GChoice) × Int) := (impl_arrangeCode f0 t1 c2).bind fun t_1 => (if (t_1 != 0) = true then some ([], t_1) else (loop (impl_Greedy.l_8 f0 t1 c2) (([] : List GChoice), (Arr.rep 96 0), 0)).bind fun t_9 => impl_Greedy.k_4 t_9.1 t_9.2)
theorem impl_Greedy.calls (f0 : GFrame) (t1 : List GNote) (c2 : GCosts) (w : World) (r : (List GChoice) × Int) {C_a : Option Addr} {C_an : Nat} (C_c : Nat) (C_h : Rw w C_a 2 encGHammer f0.fHammers) (C_hn : f0.fHammers.length = C_an) {D_a : Option Addr} {D_an : Nat} (D_c : Nat) (D_h : Rw w D_a 2 encGNote t1) (D_hn : t1.length = D_an) (h : impl_Greedy f0 t1 c2 = some r) :
    Calls Tryz.prog 9 #[(.agg #[(.int .i16 f0.fSteps), (.slice C_a C_an C_c)]), (.slice D_a D_an D_c), (.agg #[(.int .i16 c2.fAway), (.int .i16 c2.fOctave), (.int .i16 c2.fStep)])] w fun e w' => ∃ v, e = .returned v ∧ (∃ (o0 : Option Nat) (c0 : Nat) (s0 : List Value) (n0 : Nat), r.1.length = n0 ∧ (o0 ≠ none → n0 ≤ c0 ∧ s0.length = (c0 - n0) * 4) ∧ (o0 = none → r.1 = [] ∧ c0 = 0) ∧ v = .tuple #[.slice (o0.map fun b => ⟨b, 0, none⟩) n0 c0, (.int .i64 r.2)] ∧ Mem w [] [⟨o0, 104, row encGChoice r.1 s0⟩] w') := by
  subst C_hn D_hn
  rw [impl_Greedy] at h
  refine enter (args := [(.agg #[(.int .i16 f0.fSteps), (.slice C_a f0.fHammers.length C_c)]), (.slice D_a t1.length D_c), (.agg #[(.int .i16 c2.fAway), (.int .i16 c2.fOctave), (.int .i16 c2.fStep)])]) Tryz.func9 rfl Tryz.ntmps9 (by kernel_rfl) (L := []) (W := []) (Mem.start w) ?_
  refine jc_seq (jc_region (tO (qa 0 (fun b_1 => jkO (tO (qa 0 (fun b_2 => jkO (qh [0,0] (qe (jx_then (jc_seq (jc_seq (jc_region (qh [0,0,1] ?_))))))))))))))
  obtain ⟨t_1, ht_5, h⟩ := bd h
  refine tO (pc 0 (fun w hm => impl_arrangeCode.calls f0 t1 c2 w _ C_c (hm.xr C_h) rfl D_c (hm.xr D_h) rfl ht_5) ?_)
  rintro w v w' hm ⟨rfl, hm'⟩
  refine ⟨_, hm.app hm', jkO ?_⟩
  clear hm hm'
  refine qh [0] (qe (jx_then (jc_seq (jc_region (qh [0,0] (qe (jx_then (qi h (fun h => ?_) (fun h => ?_)))))))))
  ·refine jc_seq (jc_region (qh [0,0,0] (qe (jx_then (jc_ret (jx_thenr ?_))))))
   obtain rfl := Option.some.inj h
   exact jx_ghost 104 encGChoice (qr [] (fun w hm => ⟨none, 0, [], 0, rfl, (fun e => absurd rfl e), (fun _ => ⟨rfl, rfl⟩), rfl, hm.pk [2]⟩))
  ·refine jc_skip (jx_then (jc_seq (jc_region (qh [0] (tO (qa 0 (fun b_7 => jkO (tO (qa 0 (fun b_8 => jkO (tO (p_sA 0 3 b_8 96 1 40 encU32 (Arr.rep 96 0) (Arr.rep 96 0) (by kernel_rfl) (by kernel_rfl) (by kernel_rfl) encU32_len encU32_cell (by kernel_rfl) (jkO (qh [0] (qe (jx_then (jc_seq (jc_seq (jc_region (qh [0,0,0] (qe (jx_then (jc_meet (fun (j : (List GChoice) × (Arr 96 Int) × (Option Nat) × Nat × (List Value) × Nat) => match j with | ⟨xs_2, a_3, o_297, cap_298, sp_299, n_300⟩ => impl_Greedy.k_4 xs_2 a_3 = some r ∧ (xs_2.length = n_300) ∧ ((o_297 ≠ none → n_300 ≤ cap_298 ∧ sp_299.length = (cap_298 - n_300) * 4)) ∧ ((o_297 = none → xs_2 = [] ∧ cap_298 = 0))) (fun (j : (List GChoice) × (Arr 96 Int) × (Option Nat) × Nat × (List Value) × Nat) => match j with | ⟨xs_2, a_3, o_297, cap_298, sp_299, n_300⟩ => [(6, [], (.slice none 0 0)), (7, [], (.int .i64 0)), (10, [], (.slice (o_297.map fun b => ⟨b, 0, none⟩) n_300 cap_298))]) (fun (j : (List GChoice) × (Arr 96 Int) × (Option Nat) × Nat × (List Value) × Nat) => match j with | ⟨xs_2, a_3, o_297, cap_298, sp_299, n_300⟩ => [⟨some b_1, 27, [(.int .i16 f0.fSteps), (.slice C_a f0.fHammers.length C_c)]⟩, ⟨some b_2, 33, [(.int .i16 c2.fAway), (.int .i16 c2.fOctave), (.int .i16 c2.fStep)]⟩, ⟨o_297, 104, row encGChoice xs_2 sp_299⟩, ⟨(some b_8), 40, row encU32 a_3.1 []⟩]) ?_ ?_)))))))))))))))))))))))
   ·refine jc_block ?_
    obtain ⟨t_9, ht_396, hr_367⟩ := bd h
    refine jc_loop (fun (s : (List GChoice) × (Arr 96 Int) × Int) (x : (Option Nat) × Nat × (List Value) × Nat) => match s, x with | ⟨xs_5, a_6, i_7⟩, ⟨o_361, cap_362, sp_363, n_364⟩ => (xs_5.length = n_364) ∧ ((o_361 ≠ none → n_364 ≤ cap_362 ∧ sp_363.length = (cap_362 - n_364) * 4)) ∧ ((o_361 = none → xs_5 = [] ∧ cap_362 = 0))) (fun (s : (List GChoice) × (Arr 96 Int) × Int) (x : (Option Nat) × Nat × (List Value) × Nat) => match s, x with | ⟨xs_5, a_6, i_7⟩, ⟨o_361, cap_362, sp_363, n_364⟩ => [(3, [], (.pointer (some ⟨b_1, 0, none⟩))), (5, [], (.pointer (some ⟨b_2, 0, none⟩))), (6, [], (.slice none 0 0)), (7, [], (.int .i64 0)), (9, [], (.pointer (some ⟨b_8, 0, none⟩))), (10, [], (.slice (o_361.map fun b => ⟨b, 0, none⟩) n_364 cap_362)), (24, [], (.slice D_a t1.length D_c)), (25, [], (.int .i64 (t1.length : Int))), (26, [], (.int .i64 i_7))]) (fun (s : (List GChoice) × (Arr 96 Int) × Int) (x : (Option Nat) × Nat × (List Value) × Nat) => match s, x with | ⟨xs_5, a_6, i_7⟩, ⟨o_361, cap_362, sp_363, n_364⟩ => [⟨some b_1, 27, [(.int .i16 f0.fSteps), (.slice C_a f0.fHammers.length C_c)]⟩, ⟨some b_2, 33, [(.int .i16 c2.fAway), (.int .i16 c2.fOctave), (.int .i16 c2.fStep)]⟩, ⟨o_361, 104, row encGChoice xs_5 sp_363⟩, ⟨(some b_8), 40, row encU32 a_6.1 []⟩]) ht_396 ⟨(some b_7), 0, [], 0⟩ ⟨rfl, (fun _ => ⟨Nat.le_refl _, by simp⟩), (fun e => nomatch e)⟩ (by kernel_rfl) [0, 1, 2, 3] (by kernel_rfl) (by kernel_rfl) ?_
    rintro ⟨xs_5, a_6, i_7⟩ ⟨o_361, cap_362, sp_363, n_364⟩ y_368 ⟨rfl, hs_365, ho_366⟩ h
    rw [impl_Greedy.l_8] at h
    refine jc_seq (jc_region (qh [0] (qe (jx_then (jc_seq (qi h (fun h => ?_) (fun h => ?_)))))))
    ·refine jc_skip (jx_then (jc_seq (jc_block (jc_seq (jc_region ?_)))))
     obtain ⟨x_10, hx_371, h⟩ := bd h
     refine tO (qx 0 D_a 2 hx_371 rfl (D_h.sp hx_371) (jkO (tO (ql 0 true (fun w hm => ((hm.xr D_h).at hx_371)) (jkO (tO (qa 0 (fun b_372 => jkO (tO (qs 0 [4] (jkO (qe (jx_then (jc_seq (jc_region (qh [0,4] ?_))))))))))))))))
     obtain ⟨t_11, ht_373, h⟩ := bd h
     refine tO (pc 0 (fun w hm => impl_Frame_choices.calls f0 x_10 w _ C_c (hm.xr C_h) rfl ht_373) ?_)
     rintro w v w' hm ⟨o_374, cap_375, sp_376, _, rfl, hs_377, ho_378, rfl, hm'⟩
     refine ⟨_, hm.app hm', jkO ?_⟩
     clear hm hm'
     refine qh [0] ?_
     obtain ⟨t_12, ht_379, h⟩ := bd h
     refine tO (pc 0 (fun w hm => slices_DeleteFunc_Choice_at_impl_Greedy_1.calls t_11 f0 a_6 x_10 w _ C_c (hm.xr C_h) rfl o_374 rfl hs_377 ho_378 b_1 b_8 b_372 (hm.pass (N := [⟨o_374, 104, row encGChoice t_11 sp_376⟩, ⟨some b_1, 27, [(.int .i16 f0.fSteps), (.slice C_a f0.fHammers.length C_c)]⟩, ⟨(some b_8), 40, row encU32 a_6.1 []⟩, ⟨some b_372, 101, [(.int .i16 x_10.fAt), (.int .i8 x_10.fPitch)]⟩]) [5, 0, 3, 4] (by kernel_rfl) (by kernel_rfl)) (hm.exApart (N := [⟨o_374, 104, row encGChoice t_11 sp_376⟩, ⟨some b_1, 27, [(.int .i16 f0.fSteps), (.slice C_a f0.fHammers.length C_c)]⟩, ⟨(some b_8), 40, row encU32 a_6.1 []⟩, ⟨some b_372, 101, [(.int .i16 x_10.fAt), (.int .i8 x_10.fPitch)]⟩]) C_h (fun _ => List.not_mem_nil) [5, 0, 3, 4] (by kernel_rfl)) ht_379) ?_)
     rintro w v w' hm ⟨o_380, cap_381, sp_382, _, rfl, hs_383, ho_384, rfl, hm'⟩
     refine ⟨_, hm.appP (ps := [(0, ⟨some b_1, 27, [(.int .i16 f0.fSteps), (.slice C_a f0.fHammers.length C_c)]⟩), (3, ⟨(some b_8), 40, row encU32 a_6.1 []⟩), (4, ⟨some b_372, 101, [(.int .i16 x_10.fAt), (.int .i8 x_10.fPitch)]⟩)]) (ds := [5]) (N := [⟨o_380, 104, row encGChoice t_12 sp_382⟩]) hm' [3, 0, 1, 2] (by kernel_rfl) (by kernel_rfl) (by kernel_rfl), jkO ?_⟩
     clear hm hm'
     refine qh [0] (qe (jx_then (jc_seq (jc_region (qh [0,0] ?_)))))
     obtain ⟨t_13, ht_385, h⟩ := bd h
     refine tO (pc 0 (fun w hm => slices_MinFunc_Choice_at_impl_Greedy_2.calls t_12 c2 w _ cap_381 (hm.ow 6 o_380 104 t_12 sp_382 (fun e => (ho_384 e).1) encGChoice_len) rfl b_2 (hm.pass (N := [⟨some b_2, 33, [(.int .i16 c2.fAway), (.int .i16 c2.fOctave), (.int .i16 c2.fStep)]⟩]) [1] (by kernel_rfl) (by kernel_rfl)) (hm.ownApart (S := GChoice) (N := [⟨some b_2, 33, [(.int .i16 c2.fAway), (.int .i16 c2.fOctave), (.int .i16 c2.fStep)]⟩]) (hh := 6) (o := o_380) (T := 104) (cs := row encGChoice t_12 sp_382) (xs := t_12) (by kernel_rfl) (fun e => (ho_384 e).1) [1] (by kernel_rfl) (by kernel_rfl)) ht_385) ?_)
     rintro w v w' hm ⟨rfl, hm'⟩
     refine ⟨_, hm.appW (ps := [(1, ⟨some b_2, 33, [(.int .i16 c2.fAway), (.int .i16 c2.fOctave), (.int .i16 c2.fStep)]⟩)]) (N := []) hm' (by kernel_rfl) (by kernel_rfl), jkO ?_⟩
     clear hm hm'
     refine tO (qa 0 (fun b_386 => jkO (tO (qs 0 [7] (jkO (qe (jx_then (jc_seq (jc_region (qh [4,7] ?_))))))))))
     obtain ⟨t_14, ht_387, h⟩ := bd h
     refine tO (pc 0 (fun w hm => impl_Drum_puts.calls a_6 x_10 t_13 w _ b_8 (hm.pass (N := [⟨(some b_8), 40, row encU32 a_6.1 []⟩]) [3] (by kernel_rfl) (by kernel_rfl)) ht_387) ?_)
     rintro w v w' hm ⟨rfl, hm'⟩
     refine ⟨_, hm.appW (ps := [(3, ⟨(some b_8), 40, row encU32 t_14.1 []⟩)]) (N := []) hm' (by kernel_rfl) (by kernel_rfl), jkO ?_⟩
     clear hm hm'
     refine qe (jx_then (jc_region (qh [0,7] (tO (qa 0 (fun b_388 => jkO ?_))))))
     obtain ⟨hg_389, h⟩ := gd h
     exact tO (p_apn 0 2 o_361 104 xs_5.length 1 cap_362 4 4 (some ⟨b_388, 0, none⟩) encGChoice xs_5 ([t_13] : List GChoice) sp_363 (.agg #[(.bool false), (.int .i8 0), (.int .i8 0), (.int .i8 0)]) rfl rfl (by kernel_rfl) (by kernel_rfl) (by kernel_rfl) encGChoice_len encGChoice_cell hs_365 ho_366 (fun w hm => (hm.ow 8 (some b_388) 104 ([t_13] : List GChoice) [] (fun e => nomatch e) encGChoice_len)) hg_389 (by kernel_rfl) (by kernel_rfl) (fun o_390 cap_391 sp_392 hs_393 ho_394 => jkO (qh [0] (qe (jx_inn (jx_then (jc_region (qh [0,0] (qe (qb ((xs_5 ++ ([t_13] : List GChoice)), t_14, (w64 (i_7 + 1))) ⟨o_390, cap_391, sp_392, (xs_5 ++ ([t_13] : List GChoice)).length⟩ h ⟨rfl, hs_393, ho_394⟩ [0, 1, 2, 3]))))))))))
    ·refine jc_exit (jx_thenx (jx_leave (xs_5, a_6) (Option.some.inj h).symm (fun e_395 => ?_)))
     subst e_395
     exact jx_ine (qm ⟨xs_5, a_6, o_361, cap_362, sp_363, xs_5.length⟩ ⟨hr_367, rfl, hs_365, ho_366⟩ [0, 1, 2, 3])
   ·rintro ⟨xs_2, a_3, o_297, cap_298, sp_299, n_300⟩ ⟨h, rfl, hs_301, ho_302⟩
    replace h : impl_Greedy.k_4 xs_2 a_3 = some r := h
    rw [impl_Greedy.k_4] at h
    refine jx_then (jc_seq (jc_region (qh [0,0,0] (qe (jx_then (jc_ret ?_))))))
    obtain rfl := Option.some.inj h
    exact qr [] (fun w hm => ⟨o_297, cap_298, sp_299, xs_2.length, rfl, hs_301, ho_302, rfl, hm.pk [2]⟩)
/-! ### spec.Greedy -/
def spec_Greedy.k_4 (xs_2 : List GChoice) (a_3 : Arr 96 Int) : Option ((List GChoice) × Int) := some (xs_2, 0)
def spec_Greedy.k_13 (f0 : GFrame) (t1 : List GNote) (xs_5 : List GChoice) (a_6 : Arr 96 Int) (i_7 : Int) (t_11 : (List GChoice)) (i_12 : Int) : Option (((List GChoice) × (Arr 96 Int) × Int) ⊕ (((List GChoice) × (Arr 96 Int)))) := (ix t1 i_7).bind fun x_14 => (ix t_11 i_12).bind fun x_15 => (spec_l07Put f0 a_6 x_14 x_15).bind fun t_16 => (ix t_11 i_12).bind fun x_17 => (if xs_5.length + ([x_17] : List GChoice).length ≤ 4294967296 then some (.inl ((xs_5 ++ ([x_17] : List GChoice)), t_16.2, (w64 (i_7 + 1)))) else none)
def spec_Greedy.k_24 (i_18 : Int) (i_19 : Int) (a_22 : Arr 96 Int) (q_23 : Bool) : Option ((Int × Int) ⊕ (Int)) := (if q_23 = true then some (.inl (i_19, (w64 (i_19 + 1)))) else some (.inl (i_18, (w64 (i_19 + 1)))))
def spec_Greedy.l_20 (f0 : GFrame) (t1 : List GNote) (c2 : GCosts) (a_6 : Arr 96 Int) (i_7 : Int) (t_11 : (List GChoice)) : (Int × Int) → Option ((Int × Int) ⊕ (Int))
  | (i_18, i_19) => (if (decide (i_19 < (t_11.length : Int))) = true then (ix t1 i_7).bind fun x_25 => (ix t_11 i_19).bind fun x_26 => (spec_l07Put f0 a_6 x_25 x_26).bind fun t_27 => (if t_27.1 = true then (if (decide (i_18 < 0)) = true then spec_Greedy.k_24 i_18 i_19 t_27.2 true else (ix t_11 i_19).bind fun x_28 => (ix t_11 i_18).bind fun x_29 => (spec_l07Cost c2 x_28).bind fun t_30 => (spec_l07Cost c2 x_29).bind fun t_31 => spec_Greedy.k_24 i_18 i_19 t_27.2 (decide (t_30 < t_31))) else spec_Greedy.k_24 i_18 i_19 t_27.2 false) else some (.inr i_18))
def spec_Greedy.l_8 (f0 : GFrame) (t1 : List GNote) (c2 : GCosts) : ((List GChoice) × (Arr 96 Int) × Int) → Option (((List GChoice) × (Arr 96 Int) × Int) ⊕ (((List GChoice) × (Arr 96 Int))))
  | (xs_5, a_6, i_7) => (if (decide (i_7 < (t1.length : Int))) = true then (ix t1 i_7).bind fun x_10 => (spec_l07For f0 x_10).bind fun t_11 => (loop (spec_Greedy.l_20 f0 t1 c2 a_6 i_7 t_11) ((-1), 0)).bind fun t_21 => spec_Greedy.k_13 f0 t1 xs_5 a_6 i_7 t_11 t_21 else some (.inr (xs_5, a_6)))
def spec_Greedy (f0 : GFrame) (t1 : List GNote) (c2 : GCosts) : Option ((List GChoice) × Int) := (spec_l07Given f0 t1 c2).bind fun t_1 => (if (t_1 != 0) = true then some (([] : List GChoice), t_1) else (loop (spec_Greedy.l_8 f0 t1 c2) (([] : List GChoice), (Arr.rep 96 0), 0)).bind fun t_9 => spec_Greedy.k_4 t_9.1 t_9.2)
set_option maxHeartbeats 8000000 in
theorem spec_Greedy.calls (f0 : GFrame) (t1 : List GNote) (c2 : GCosts) (w : World) (r : (List GChoice) × Int) {C_a : Option Addr} {C_an : Nat} (C_c : Nat) (C_h : Rw w C_a 2 encGHammer f0.fHammers) (C_hn : f0.fHammers.length = C_an) {D_a : Option Addr} {D_an : Nat} (D_c : Nat) (D_h : Rw w D_a 2 encGNote t1) (D_hn : t1.length = D_an) (h : spec_Greedy f0 t1 c2 = some r) :
    Calls Tryz.prog 10 #[(.agg #[(.int .i16 f0.fSteps), (.slice C_a C_an C_c)]), (.slice D_a D_an D_c), (.agg #[(.int .i16 c2.fAway), (.int .i16 c2.fOctave), (.int .i16 c2.fStep)])] w fun e w' => ∃ v, e = .returned v ∧ (∃ (o0 : Option Nat) (c0 : Nat) (s0 : List Value) (n0 : Nat), r.1.length = n0 ∧ (o0 ≠ none → n0 ≤ c0 ∧ s0.length = (c0 - n0) * 4) ∧ (o0 = none → r.1 = [] ∧ c0 = 0) ∧ v = .tuple #[.slice (o0.map fun b => ⟨b, 0, none⟩) n0 c0, (.int .i64 r.2)] ∧ Mem w [] [⟨o0, 104, row encGChoice r.1 s0⟩] w') := by
  subst C_hn D_hn
  rw [spec_Greedy] at h
  refine enter (args := [(.agg #[(.int .i16 f0.fSteps), (.slice C_a f0.fHammers.length C_c)]), (.slice D_a t1.length D_c), (.agg #[(.int .i16 c2.fAway), (.int .i16 c2.fOctave), (.int .i16 c2.fStep)])]) Tryz.func10 rfl Tryz.ntmps10 (by kernel_rfl) (L := []) (W := []) (Mem.start w) ?_
  refine jc_seq (jc_region (tO (qa 0 (fun b_1 => jkO (tO (qa 0 (fun b_2 => jkO (qh [0,0] (qe (jx_then (jc_seq (jc_seq (jc_region (qh [0,1] ?_))))))))))))))
  obtain ⟨t_1, ht_6, h⟩ := bd h
  refine tO (pc 0 (fun w hm => spec_l07Given.calls f0 t1 c2 w _ C_c (hm.xr C_h) rfl D_c (hm.xr D_h) rfl b_1 (hm.pass (N := [⟨some b_1, 27, [(.int .i16 f0.fSteps), (.slice C_a f0.fHammers.length C_c)]⟩]) [0] (by kernel_rfl) (by kernel_rfl)) (hm.exApart (N := [⟨some b_1, 27, [(.int .i16 f0.fSteps), (.slice C_a f0.fHammers.length C_c)]⟩]) C_h (fun _ => List.not_mem_nil) [0] (by kernel_rfl)) (hm.exApart (N := [⟨some b_1, 27, [(.int .i16 f0.fSteps), (.slice C_a f0.fHammers.length C_c)]⟩]) D_h (fun _ => List.not_mem_nil) [0] (by kernel_rfl)) ht_6) ?_)
  rintro w v w' hm ⟨rfl, hm'⟩
  refine ⟨_, hm.appW (ps := [(0, ⟨some b_1, 27, [(.int .i16 f0.fSteps), (.slice C_a f0.fHammers.length C_c)]⟩)]) (N := []) hm' (by kernel_rfl) (by kernel_rfl), jkO ?_⟩
  clear hm hm'
  refine qh [0] (qe (jx_then (jc_seq (jc_region (qh [0,0] (qe (jx_then (qi h (fun h => ?_) (fun h => ?_)))))))))
  ·refine jc_seq (jc_region (tO (qa 0 (fun b_8 => jkO (qh [0,0,0] (qe (jx_then (jc_ret (jx_thenr ?_)))))))))
   obtain rfl := Option.some.inj h
   exact qr [] (fun w hm => ⟨(some b_8), 0, [], 0, rfl, (fun _ => ⟨Nat.le_refl _, by simp⟩), (fun e => nomatch e), rfl, hm.pk [2]⟩)
  ·refine jc_skip (jx_then (jc_seq (jc_region (tO (qa 0 (fun b_9 => jkO (qh [0] (qe (jx_then (jc_seq (jc_region (qh [0] (tO (qa 0 (fun b_10 => jkO (tO (p_sA 0 3 b_10 96 1 40 encU32 (Arr.rep 96 0) (Arr.rep 96 0) (by kernel_rfl) (by kernel_rfl) (by kernel_rfl) encU32_len encU32_cell (by kernel_rfl) (jkO (qe (jx_then (jc_seq (jc_seq (jc_region (qh [0] (qe (jx_then (jc_meet (fun (j : (List GChoice) × (Arr 96 Int) × (Option Nat) × Nat × (List Value) × Nat) => match j with | ⟨xs_2, a_3, o_3215, cap_3216, sp_3217, n_3218⟩ => spec_Greedy.k_4 xs_2 a_3 = some r ∧ (xs_2.length = n_3218) ∧ ((o_3215 ≠ none → n_3218 ≤ cap_3216 ∧ sp_3217.length = (cap_3216 - n_3218) * 4)) ∧ ((o_3215 = none → xs_2 = [] ∧ cap_3216 = 0))) (fun (j : (List GChoice) × (Arr 96 Int) × (Option Nat) × Nat × (List Value) × Nat) => match j with | ⟨xs_2, a_3, o_3215, cap_3216, sp_3217, n_3218⟩ => [(6, [], (.slice none 0 0)), (7, [], (.int .i64 0)), (9, [], (.slice (o_3215.map fun b => ⟨b, 0, none⟩) n_3218 cap_3216))]) (fun (j : (List GChoice) × (Arr 96 Int) × (Option Nat) × Nat × (List Value) × Nat) => match j with | ⟨xs_2, a_3, o_3215, cap_3216, sp_3217, n_3218⟩ => [⟨some b_1, 27, [(.int .i16 f0.fSteps), (.slice C_a f0.fHammers.length C_c)]⟩, ⟨some b_2, 33, [(.int .i16 c2.fAway), (.int .i16 c2.fOctave), (.int .i16 c2.fStep)]⟩, ⟨o_3215, 104, row encGChoice xs_2 sp_3217⟩, ⟨(some b_10), 40, row encU32 a_3.1 []⟩]) ?_ ?_)))))))))))))))))))))))))))
   ·refine jc_block ?_
    obtain ⟨t_9, ht_4286, hr_3933⟩ := bd h
    refine jc_loop (fun (s : (List GChoice) × (Arr 96 Int) × Int) (x : (Option Nat) × Nat × (List Value) × Nat) => match s, x with | ⟨xs_5, a_6, i_7⟩, ⟨o_3927, cap_3928, sp_3929, n_3930⟩ => (xs_5.length = n_3930) ∧ ((o_3927 ≠ none → n_3930 ≤ cap_3928 ∧ sp_3929.length = (cap_3928 - n_3930) * 4)) ∧ ((o_3927 = none → xs_5 = [] ∧ cap_3928 = 0))) (fun (s : (List GChoice) × (Arr 96 Int) × Int) (x : (Option Nat) × Nat × (List Value) × Nat) => match s, x with | ⟨xs_5, a_6, i_7⟩, ⟨o_3927, cap_3928, sp_3929, n_3930⟩ => [(1, [], (.slice D_a t1.length D_c)), (3, [], (.pointer (some ⟨b_1, 0, none⟩))), (5, [], (.pointer (some ⟨b_2, 0, none⟩))), (6, [], (.slice none 0 0)), (7, [], (.int .i64 0)), (9, [], (.slice (o_3927.map fun b => ⟨b, 0, none⟩) n_3930 cap_3928)), (10, [], (.pointer (some ⟨b_10, 0, none⟩))), (11, [], (.int .i64 i_7))]) (fun (s : (List GChoice) × (Arr 96 Int) × Int) (x : (Option Nat) × Nat × (List Value) × Nat) => match s, x with | ⟨xs_5, a_6, i_7⟩, ⟨o_3927, cap_3928, sp_3929, n_3930⟩ => [⟨some b_1, 27, [(.int .i16 f0.fSteps), (.slice C_a f0.fHammers.length C_c)]⟩, ⟨some b_2, 33, [(.int .i16 c2.fAway), (.int .i16 c2.fOctave), (.int .i16 c2.fStep)]⟩, ⟨o_3927, 104, row encGChoice xs_5 sp_3929⟩, ⟨(some b_10), 40, row encU32 a_6.1 []⟩]) ht_4286 ⟨(some b_9), 0, [], 0⟩ ⟨rfl, (fun _ => ⟨Nat.le_refl _, by simp⟩), (fun e => nomatch e)⟩ (by kernel_rfl) [0, 1, 2, 3] (by kernel_rfl) (by kernel_rfl) ?_
    rintro ⟨xs_5, a_6, i_7⟩ ⟨o_3927, cap_3928, sp_3929, n_3930⟩ y_3934 ⟨rfl, hs_3931, ho_3932⟩ h
    rw [spec_Greedy.l_8] at h
    refine jc_seq (jc_seq (jc_region (qh [0,0,0,0] (qe (jx_then (qi h (fun h => ?_) (fun h => ?_)))))))
    ·refine jc_skip (jx_then (jc_seq (jc_block (jc_seq (jc_region (qh [0,0] ?_))))))
     obtain ⟨x_10, hx_3937, h⟩ := bd h
     refine tO (qx 0 D_a 2 hx_3937 rfl (D_h.sp hx_3937) (jkO (tO (ql 0 true (fun w hm => ((hm.xr D_h).at hx_3937)) (jkO ?_)))))
     obtain ⟨t_11, ht_3938, h⟩ := bd h
     refine tO (pc 0 (fun w hm => spec_l07For.calls f0 x_10 w _ C_c (hm.xr C_h) rfl b_1 (hm.pass (N := [⟨some b_1, 27, [(.int .i16 f0.fSteps), (.slice C_a f0.fHammers.length C_c)]⟩]) [0] (by kernel_rfl) (by kernel_rfl)) (hm.exApart (N := [⟨some b_1, 27, [(.int .i16 f0.fSteps), (.slice C_a f0.fHammers.length C_c)]⟩]) C_h (fun _ => List.not_mem_nil) [0] (by kernel_rfl)) ht_3938) ?_)
     rintro w v w' hm ⟨o_3939, cap_3940, sp_3941, _, rfl, hs_3942, ho_3943, rfl, hm'⟩
     refine ⟨_, hm.appW (ps := [(0, ⟨some b_1, 27, [(.int .i16 f0.fSteps), (.slice C_a f0.fHammers.length C_c)]⟩)]) (N := [⟨o_3939, 104, row encGChoice t_11 sp_3941⟩]) hm' (by kernel_rfl) (by kernel_rfl), jkO ?_⟩
     clear hm hm'
     refine qh [0] (qe (jx_then (jc_seq (jc_region (qh [0] (qe (jx_then (jc_seq (jc_seq (jc_region (qh [0] (qe (jx_then (jc_meet (fun (j : Int) => match j with | i_12 => spec_Greedy.k_13 f0 t1 xs_5 a_6 i_7 t_11 i_12 = some y_3934) (fun (j : Int) => match j with | i_12 => [(1, [], (.slice D_a t1.length D_c)), (3, [], (.pointer (some ⟨b_1, 0, none⟩))), (5, [], (.pointer (some ⟨b_2, 0, none⟩))), (6, [], (.slice none 0 0)), (7, [], (.int .i64 0)), (9, [], (.slice (o_3927.map fun b => ⟨b, 0, none⟩) xs_5.length cap_3928)), (10, [], (.pointer (some ⟨b_10, 0, none⟩))), (11, [], (.int .i64 i_7)), (12, [], (.slice (o_3939.map fun b => ⟨b, 0, none⟩) t_11.length cap_3940)), (13, [], (.int .i64 i_12))]) (fun (j : Int) => match j with | i_12 => [⟨some b_1, 27, [(.int .i16 f0.fSteps), (.slice C_a f0.fHammers.length C_c)]⟩, ⟨some b_2, 33, [(.int .i16 c2.fAway), (.int .i16 c2.fOctave), (.int .i16 c2.fStep)]⟩, ⟨o_3927, 104, row encGChoice xs_5 sp_3929⟩, ⟨(some b_10), 40, row encU32 a_6.1 []⟩, ⟨o_3939, 104, row encGChoice t_11 sp_3941⟩]) ?_ ?_))))))))))))))
     ·refine jc_block ?_
      obtain ⟨t_21, ht_4284, hr_4255⟩ := bd h
      refine jc_loop (fun (s : Int × Int) (x : Unit) => match s, x with | ⟨i_18, i_19⟩, _ => True) (fun (s : Int × Int) (x : Unit) => match s, x with | ⟨i_18, i_19⟩, _ => [(1, [], (.slice D_a t1.length D_c)), (3, [], (.pointer (some ⟨b_1, 0, none⟩))), (5, [], (.pointer (some ⟨b_2, 0, none⟩))), (6, [], (.slice none 0 0)), (7, [], (.int .i64 0)), (9, [], (.slice (o_3927.map fun b => ⟨b, 0, none⟩) xs_5.length cap_3928)), (10, [], (.pointer (some ⟨b_10, 0, none⟩))), (11, [], (.int .i64 i_7)), (12, [], (.slice (o_3939.map fun b => ⟨b, 0, none⟩) t_11.length cap_3940)), (13, [], (.int .i64 i_18)), (14, [], (.int .i64 i_19))]) (fun (s : Int × Int) (x : Unit) => match s, x with | ⟨i_18, i_19⟩, _ => [⟨some b_1, 27, [(.int .i16 f0.fSteps), (.slice C_a f0.fHammers.length C_c)]⟩, ⟨some b_2, 33, [(.int .i16 c2.fAway), (.int .i16 c2.fOctave), (.int .i16 c2.fStep)]⟩, ⟨o_3927, 104, row encGChoice xs_5 sp_3929⟩, ⟨(some b_10), 40, row encU32 a_6.1 []⟩, ⟨o_3939, 104, row encGChoice t_11 sp_3941⟩]) ht_4284 () trivial (by kernel_rfl) [0, 1, 2, 3, 4] (by kernel_rfl) (by kernel_rfl) ?_
      rintro ⟨i_18, i_19⟩ _ y_4256 _ h
      rw [spec_Greedy.l_20] at h
      refine jc_seq (jc_seq (jc_region (qh [0,0,0,0] (qe (jx_then (qi h (fun h => ?_) (fun h => ?_)))))))
      ·refine jc_skip (jx_then (jc_seq (jc_block (jc_seq (jc_region (tO (p_ldA 0 3 b_10 96 1 40 encU32 a_6 (by kernel_rfl) (by kernel_rfl) (by kernel_rfl) encU32_len (by kernel_rfl) (jkO (tO (qa 0 (fun b_4259 => jkO (tO (p_sA 0 5 b_4259 96 1 40 encU32 (Arr.rep 96 0) a_6 (by kernel_rfl) (by kernel_rfl) (by kernel_rfl) encU32_len encU32_cell (by kernel_rfl) (jkO (qe (jx_then (jc_seq (jc_meet (fun (j : (Arr 96 Int) × Bool) => match j with | ⟨a_22, q_23⟩ => spec_Greedy.k_24 i_18 i_19 a_22 q_23 = some y_4256) (fun (j : (Arr 96 Int) × Bool) => match j with | ⟨a_22, q_23⟩ => [(1, [], (.slice D_a t1.length D_c)), (3, [], (.pointer (some ⟨b_1, 0, none⟩))), (5, [], (.pointer (some ⟨b_2, 0, none⟩))), (6, [], (.slice none 0 0)), (7, [], (.int .i64 0)), (9, [], (.slice (o_3927.map fun b => ⟨b, 0, none⟩) xs_5.length cap_3928)), (10, [], (.pointer (some ⟨b_10, 0, none⟩))), (11, [], (.int .i64 i_7)), (12, [], (.slice (o_3939.map fun b => ⟨b, 0, none⟩) t_11.length cap_3940)), (13, [], (.int .i64 i_18)), (14, [], (.int .i64 i_19)), (70, [], (.bool q_23))]) (fun (j : (Arr 96 Int) × Bool) => match j with | ⟨a_22, q_23⟩ => [⟨some b_1, 27, [(.int .i16 f0.fSteps), (.slice C_a f0.fHammers.length C_c)]⟩, ⟨some b_2, 33, [(.int .i16 c2.fAway), (.int .i16 c2.fOctave), (.int .i16 c2.fStep)]⟩, ⟨o_3927, 104, row encGChoice xs_5 sp_3929⟩, ⟨(some b_10), 40, row encU32 a_6.1 []⟩, ⟨o_3939, 104, row encGChoice t_11 sp_3941⟩, ⟨(some b_4259), 40, row encU32 a_22.1 []⟩]) ?_ ?_))))))))))))))))))
       ·refine qg [⟨some b_1, 27, [(.int .i16 f0.fSteps), (.slice C_a f0.fHammers.length C_c)]⟩, ⟨some b_2, 33, [(.int .i16 c2.fAway), (.int .i16 c2.fOctave), (.int .i16 c2.fStep)]⟩, ⟨o_3927, 104, row encGChoice xs_5 sp_3929⟩, ⟨(some b_10), 40, row encU32 a_6.1 []⟩, ⟨o_3939, 104, row encGChoice t_11 sp_3941⟩] 28 (qd [⟨0, 0, 0⟩,⟨1, 0, 0⟩,⟨4, 0, 0⟩,⟨5, 0, 0⟩] 24 [0, 1, 2, 3, 4] ?_)
        obtain ⟨x_25, hx_4274, h⟩ := bd h
        refine qv 2 0 [0, 1, 2, 3, 4] (fun w hm => idx_run (a := D_a) (len := t1.length) (s := 2) (j := i_7) (by kernel_rfl) (ix_some hx_4274).1 (ltn hx_4274 rfl) (D_h.sp hx_4274)) (qv 3 0 [0, 1, 2, 3, 4] (fun w hm => ld_run (b := aB D_a) (off := (aO D_a + i_7.toNat * 2)) (s := 2) (agg := true) (vs := (encGNote x_25)) (by kernel_rfl) (by kernel_rfl) (.inl rfl) ((hm.xr D_h).at hx_4274)) ?_)
        obtain ⟨x_26, hx_4275, h⟩ := bd h
        refine qv 6 0 [0, 1, 2, 3, 4] (fun w hm => idx_run (a := (o_3939.map fun b => ⟨b, 0, none⟩)) (len := t_11.length) (s := 4) (j := i_19) (by kernel_rfl) (ix_some hx_4275).1 (ltn hx_4275 rfl) (spo ho_3943 hx_4275)) (qv 7 0 [0, 1, 2, 3, 4] (fun w hm => ld_run (b := aB (o_3939.map fun b => ⟨b, 0, none⟩)) (off := (aO (o_3939.map fun b => ⟨b, 0, none⟩) + i_19.toNat * 4)) (s := 4) (agg := true) (vs := (encGChoice x_26)) (by kernel_rfl) (by kernel_rfl) (.inl rfl) ((hm.ow 4 o_3939 104 t_11 sp_3941 (fun e => (ho_3943 e).1) encGChoice_len).at hx_4275)) ?_)
        obtain ⟨t_27, ht_4276, h⟩ := bd h
        refine tD 8 (pc 0 (fun w hm => spec_l07Put.calls f0 a_6 x_25 x_26 w _ C_c (hm.xr C_h) rfl b_1 b_4259 (hm.pass (N := [⟨some b_1, 27, [(.int .i16 f0.fSteps), (.slice C_a f0.fHammers.length C_c)]⟩, ⟨(some b_4259), 40, row encU32 a_6.1 []⟩]) [0, 5] (by kernel_rfl) (by kernel_rfl)) (hm.exApart (N := [⟨some b_1, 27, [(.int .i16 f0.fSteps), (.slice C_a f0.fHammers.length C_c)]⟩, ⟨(some b_4259), 40, row encU32 a_6.1 []⟩]) C_h (fun _ => List.not_mem_nil) [0, 5] (by kernel_rfl)) ht_4276) ?_)
        rintro w v w' hm ⟨rfl, hm'⟩
        refine ⟨_, hm.appW (ps := [(0, ⟨some b_1, 27, [(.int .i16 f0.fSteps), (.slice C_a f0.fHammers.length C_c)]⟩), (5, ⟨(some b_4259), 40, row encU32 t_27.2.1 []⟩)]) (N := []) hm' (by kernel_rfl) (by kernel_rfl), kD [0, 1, 2, 3, 4] ?_⟩
        clear hm hm'
        refine qd [⟨9, 0, 0⟩,⟨10, 0, 1⟩,⟨11, 0, 1⟩] 16 [0, 1, 2, 3, 4] (jd_split 52 t_27.1 (by kernel_rfl) (fun hc_4277 => ?_) (fun hc_4277 => ?_))
        ·replace h := ifT hc_4277 h
         refine qd [⟨12, 0, 2⟩,⟨13, 1, 1⟩,⟨14, 0, 1⟩,⟨15, 0, 1⟩,⟨19, 1, 1⟩,⟨20, 0, 1⟩,⟨21, 0, 1⟩] 9 [0, 1, 2, 3, 4] (jd_split 55 (decide (i_18 < 0)) (by kernel_rfl) (fun hc_4278 => ?_) (fun hc_4278 => ?_))
         ·replace h := ifT hc_4278 h
          exact qd [⟨16, 0, 3⟩,⟨17, 0, 3⟩,⟨18, 0, 3⟩,⟨22, 0, 3⟩,⟨23, 0, 3⟩,⟨24, 0, 3⟩,⟨25, 0, 3⟩,⟨26, 0, 4⟩,⟨27, 0, 4⟩] 0 [0, 1, 2, 3, 4] (qz (qm ⟨t_27.2, true⟩ h [0, 1, 2, 3, 4, 5]))
         ·replace h := ifF hc_4278 h
          obtain ⟨x_28, hx_4279, h⟩ := bd h
          refine qv 16 2 [0, 1, 2, 3, 4] (fun w hm => idx_run (a := (o_3939.map fun b => ⟨b, 0, none⟩)) (len := t_11.length) (s := 4) (j := i_19) (by kernel_rfl) (ix_some hx_4279).1 (ltn hx_4279 rfl) (spo ho_3943 hx_4279)) (qv 17 2 [0, 1, 2, 3, 4] (fun w hm => ld_run (b := aB (o_3939.map fun b => ⟨b, 0, none⟩)) (off := (aO (o_3939.map fun b => ⟨b, 0, none⟩) + i_19.toNat * 4)) (s := 4) (agg := true) (vs := (encGChoice x_28)) (by kernel_rfl) (by kernel_rfl) (.inl rfl) ((hm.ow 4 o_3939 104 t_11 sp_3941 (fun e => (ho_3943 e).1) encGChoice_len).at hx_4279)) ?_)
          obtain ⟨x_29, hx_4280, h⟩ := bd h
          refine qv 22 2 [0, 1, 2, 3, 4] (fun w hm => idx_run (a := (o_3939.map fun b => ⟨b, 0, none⟩)) (len := t_11.length) (s := 4) (j := i_18) (by kernel_rfl) (ix_some hx_4280).1 (ltn hx_4280 rfl) (spo ho_3943 hx_4280)) (qv 23 2 [0, 1, 2, 3, 4] (fun w hm => ld_run (b := aB (o_3939.map fun b => ⟨b, 0, none⟩)) (off := (aO (o_3939.map fun b => ⟨b, 0, none⟩) + i_18.toNat * 4)) (s := 4) (agg := true) (vs := (encGChoice x_29)) (by kernel_rfl) (by kernel_rfl) (.inl rfl) ((hm.ow 4 o_3939 104 t_11 sp_3941 (fun e => (ho_3943 e).1) encGChoice_len).at hx_4280)) ?_)
          obtain ⟨t_30, ht_4281, h⟩ := bd h
          refine tD 18 (pc 2 (fun w hm => spec_l07Cost.calls c2 x_28 w _ ht_4281) ?_)
          rintro w v w' hm ⟨rfl, hm'⟩
          refine ⟨_, hm.app hm', kD [0, 1, 2, 3, 4] ?_⟩
          clear hm hm'
          obtain ⟨t_31, ht_4282, h⟩ := bd h
          refine tD 24 (pc 2 (fun w hm => spec_l07Cost.calls c2 x_29 w _ ht_4282) ?_)
          rintro w v w' hm ⟨rfl, hm'⟩
          refine ⟨_, hm.app hm', kD [0, 1, 2, 3, 4] ?_⟩
          clear hm hm'
          exact qd [⟨25, 0, 2⟩,⟨26, 0, 5⟩,⟨27, 0, 4⟩] 0 [0, 1, 2, 3, 4] (qz (qm ⟨t_27.2, (decide (t_30 < t_31))⟩ h [0, 1, 2, 3, 4, 5]))
        ·replace h := ifF hc_4277 h
         exact qd [⟨12, 0, 3⟩,⟨13, 0, 3⟩,⟨14, 0, 3⟩,⟨15, 0, 3⟩,⟨16, 0, 3⟩,⟨17, 0, 3⟩,⟨18, 0, 3⟩,⟨19, 0, 3⟩,⟨20, 0, 3⟩,⟨21, 0, 3⟩,⟨22, 0, 3⟩,⟨23, 0, 3⟩,⟨24, 0, 3⟩,⟨25, 0, 3⟩,⟨26, 0, 3⟩,⟨27, 0, 5⟩] 0 [0, 1, 2, 3, 4] (qz (qm ⟨t_27.2, false⟩ h [0, 1, 2, 3, 4, 5]))
       ·rintro ⟨a_22, q_23⟩ h
        replace h : spec_Greedy.k_24 i_18 i_19 a_22 q_23 = some y_4256 := h
        rw [spec_Greedy.k_24] at h
        refine jx_then (qi h (fun h => ?_) (fun h => ?_))
        ·exact jc_region (qh [0,0] (qe (jx_inn (jx_then (jc_region (qh [0,0,0] (qe (qb (i_19, (w64 (i_19 + 1))) () h trivial [0, 1, 2, 3, 4]))))))))
        ·exact jc_skip (jx_inn (jx_then (jc_region (qh [0,0,0] (qe (qb (i_18, (w64 (i_19 + 1))) () h trivial [0, 1, 2, 3, 4]))))))
      ·refine jc_exit (jx_thenx (jx_leave i_18 (Option.some.inj h).symm (fun e_4283 => ?_)))
       subst e_4283
       exact jx_ine (qm i_18 hr_4255 [0, 1, 2, 3, 4])
     ·rintro i_12 h
      replace h : spec_Greedy.k_13 f0 t1 xs_5 a_6 i_7 t_11 i_12 = some y_3934 := h
      rw [spec_Greedy.k_13] at h
      refine jx_then (jc_seq (qg [⟨some b_1, 27, [(.int .i16 f0.fSteps), (.slice C_a f0.fHammers.length C_c)]⟩, ⟨some b_2, 33, [(.int .i16 c2.fAway), (.int .i16 c2.fOctave), (.int .i16 c2.fStep)]⟩, ⟨o_3927, 104, row encGChoice xs_5 sp_3929⟩, ⟨o_3939, 104, row encGChoice t_11 sp_3941⟩] 9 (qd [⟨0, 0, 0⟩,⟨1, 0, 0⟩,⟨4, 0, 0⟩,⟨5, 0, 0⟩] 5 [0, 1, 2, 4] ?_)))
      obtain ⟨x_14, hx_4192, h⟩ := bd h
      refine qv 2 0 [0, 1, 2, 4] (fun w hm => idx_run (a := D_a) (len := t1.length) (s := 2) (j := i_7) (by kernel_rfl) (ix_some hx_4192).1 (ltn hx_4192 rfl) (D_h.sp hx_4192)) (qv 3 0 [0, 1, 2, 4] (fun w hm => ld_run (b := aB D_a) (off := (aO D_a + i_7.toNat * 2)) (s := 2) (agg := true) (vs := (encGNote x_14)) (by kernel_rfl) (by kernel_rfl) (.inl rfl) ((hm.xr D_h).at hx_4192)) ?_)
      obtain ⟨x_15, hx_4193, h⟩ := bd h
      refine qv 6 0 [0, 1, 2, 4] (fun w hm => idx_run (a := (o_3939.map fun b => ⟨b, 0, none⟩)) (len := t_11.length) (s := 4) (j := i_12) (by kernel_rfl) (ix_some hx_4193).1 (ltn hx_4193 rfl) (spo ho_3943 hx_4193)) (qv 7 0 [0, 1, 2, 4] (fun w hm => ld_run (b := aB (o_3939.map fun b => ⟨b, 0, none⟩)) (off := (aO (o_3939.map fun b => ⟨b, 0, none⟩) + i_12.toNat * 4)) (s := 4) (agg := true) (vs := (encGChoice x_15)) (by kernel_rfl) (by kernel_rfl) (.inl rfl) ((hm.ow 3 o_3939 104 t_11 sp_3941 (fun e => (ho_3943 e).1) encGChoice_len).at hx_4193)) ?_)
      obtain ⟨t_16, ht_4194, h⟩ := bd h
      refine tD 8 (pc 0 (fun w hm => spec_l07Put.calls f0 a_6 x_14 x_15 w _ C_c (hm.xr C_h) rfl b_1 b_10 (hm.pass (N := [⟨some b_1, 27, [(.int .i16 f0.fSteps), (.slice C_a f0.fHammers.length C_c)]⟩, ⟨(some b_10), 40, row encU32 a_6.1 []⟩]) [0, 3] (by kernel_rfl) (by kernel_rfl)) (hm.exApart (N := [⟨some b_1, 27, [(.int .i16 f0.fSteps), (.slice C_a f0.fHammers.length C_c)]⟩, ⟨(some b_10), 40, row encU32 a_6.1 []⟩]) C_h (fun _ => List.not_mem_nil) [0, 3] (by kernel_rfl)) ht_4194) ?_)
      rintro w v w' hm ⟨rfl, hm'⟩
      refine ⟨_, hm.appW (ps := [(0, ⟨some b_1, 27, [(.int .i16 f0.fSteps), (.slice C_a f0.fHammers.length C_c)]⟩), (3, ⟨(some b_10), 40, row encU32 t_16.2.1 []⟩)]) (N := []) hm' (by kernel_rfl) (by kernel_rfl), kD [0, 1, 2, 4] ?_⟩
      clear hm hm'
      refine qz (jx_then (jc_region (qh [0,0,0] ?_)))
      obtain ⟨x_17, hx_4195, h⟩ := bd h
      refine tO (qx 0 (o_3939.map fun b => ⟨b, 0, none⟩) 4 hx_4195 rfl (spo ho_3943 hx_4195) (jkO (tO (ql 0 true (fun w hm => ((hm.ow 4 o_3939 104 t_11 sp_3941 (fun e => (ho_3943 e).1) encGChoice_len).at hx_4195)) (jkO (tO (qa 0 (fun b_4196 => jkO ?_))))))))
      obtain ⟨hg_4197, h⟩ := gd h
      exact tO (p_apn 0 2 o_3927 104 xs_5.length 1 cap_3928 4 4 (some ⟨b_4196, 0, none⟩) encGChoice xs_5 ([x_17] : List GChoice) sp_3929 (.agg #[(.bool false), (.int .i8 0), (.int .i8 0), (.int .i8 0)]) rfl rfl (by kernel_rfl) (by kernel_rfl) (by kernel_rfl) encGChoice_len encGChoice_cell hs_3931 ho_3932 (fun w hm => (hm.ow 5 (some b_4196) 104 ([x_17] : List GChoice) [] (fun e => nomatch e) encGChoice_len)) hg_4197 (by kernel_rfl) (by kernel_rfl) (fun o_4198 cap_4199 sp_4200 hs_4201 ho_4202 => jkO (qh [0] (qe (jx_inn (jx_then (jc_region (qh [0,0,0] (qe (qb ((xs_5 ++ ([x_17] : List GChoice)), t_16.2, (w64 (i_7 + 1))) ⟨o_4198, cap_4199, sp_4200, (xs_5 ++ ([x_17] : List GChoice)).length⟩ h ⟨rfl, hs_4201, ho_4202⟩ [0, 1, 2, 3]))))))))))
    ·refine jc_exit (jx_thenx (jx_leave (xs_5, a_6) (Option.some.inj h).symm (fun e_4285 => ?_)))
     subst e_4285
     exact jx_ine (qm ⟨xs_5, a_6, o_3927, cap_3928, sp_3929, xs_5.length⟩ ⟨hr_3933, rfl, hs_3931, ho_3932⟩ [0, 1, 2, 3])
   ·rintro ⟨xs_2, a_3, o_3215, cap_3216, sp_3217, n_3218⟩ ⟨h, rfl, hs_3219, ho_3220⟩
    replace h : spec_Greedy.k_4 xs_2 a_3 = some r := h
    rw [spec_Greedy.k_4] at h
    refine jx_then (jc_seq (jc_region (qh [0,0,0] (qe (jx_then (jc_ret ?_))))))
    obtain rfl := Option.some.inj h
    exact qr [] (fun w hm => ⟨o_3215, cap_3216, sp_3217, xs_2.length, rfl, hs_3219, ho_3220, rfl, hm.pk [2]⟩)
/-! ### impl.LeastEach -/
def impl_LeastEach (f0 : GFrame) (t1 : List GNote) (c2 : GCosts) : Option ((List Int) × Int) := (impl_arrangeCode f0 t1 c2).bind fun t_1 => (if (t_1 != 0) = true then some ([], t_1) else (impl_leastEach f0 t1 c2).bind fun t_2 => some (t_2, 0))
theorem impl_LeastEach.calls (f0 : GFrame) (t1 : List GNote) (c2 : GCosts) (w : World) (r : (List Int) × Int) {C_a : Option Addr} {C_an : Nat} (C_c : Nat) (C_h : Rw w C_a 2 encGHammer f0.fHammers) (C_hn : f0.fHammers.length = C_an) {D_a : Option Addr} {D_an : Nat} (D_c : Nat) (D_h : Rw w D_a 2 encGNote t1) (D_hn : t1.length = D_an) (h : impl_LeastEach f0 t1 c2 = some r) :
    Calls Tryz.prog 31 #[(.agg #[(.int .i16 f0.fSteps), (.slice C_a C_an C_c)]), (.slice D_a D_an D_c), (.agg #[(.int .i16 c2.fAway), (.int .i16 c2.fOctave), (.int .i16 c2.fStep)])] w fun e w' => ∃ v, e = .returned v ∧ (∃ (o0 : Option Nat) (c0 : Nat) (s0 : List Value) (n0 : Nat), r.1.length = n0 ∧ (o0 ≠ none → n0 ≤ c0 ∧ s0.length = (c0 - n0) * 1) ∧ (o0 = none → r.1 = [] ∧ c0 = 0) ∧ v = .tuple #[.slice (o0.map fun b => ⟨b, 0, none⟩) n0 c0, (.int .i64 r.2)] ∧ Mem w [] [⟨o0, 2, row encI64 r.1 s0⟩] w') := by
  subst C_hn D_hn
  rw [impl_LeastEach] at h
  refine enter (args := [(.agg #[(.int .i16 f0.fSteps), (.slice C_a f0.fHammers.length C_c)]), (.slice D_a t1.length D_c), (.agg #[(.int .i16 c2.fAway), (.int .i16 c2.fOctave), (.int .i16 c2.fStep)])]) Tryz.func31 rfl Tryz.ntmps31 (by kernel_rfl) (L := []) (W := []) (Mem.start w) ?_
  refine jc_seq (jc_region (tO (qa 0 (fun b_1 => jkO (tO (qa 0 (fun b_2 => jkO (qh [0,0] (qe (jx_then (jc_seq (jc_seq (jc_region (qh [0,0,1] ?_))))))))))))))
  obtain ⟨t_1, ht_5, h⟩ := bd h
  refine tO (pc 0 (fun w hm => impl_arrangeCode.calls f0 t1 c2 w _ C_c (hm.xr C_h) rfl D_c (hm.xr D_h) rfl ht_5) ?_)
  rintro w v w' hm ⟨rfl, hm'⟩
  refine ⟨_, hm.app hm', jkO ?_⟩
  clear hm hm'
  refine qh [0] (qe (jx_then (jc_seq (jc_region (qh [0,0] (qe (jx_then (qi h (fun h => ?_) (fun h => ?_)))))))))
  ·refine jc_seq (jc_region (qh [0,0,0] (qe (jx_then (jc_ret (jx_thenr ?_))))))
   obtain rfl := Option.some.inj h
   exact jx_ghost 2 encI64 (qr [] (fun w hm => ⟨none, 0, [], 0, rfl, (fun e => absurd rfl e), (fun _ => ⟨rfl, rfl⟩), rfl, hm.pk [2]⟩))
  ·refine jc_skip (jx_then (jc_seq (jc_region (qh [0,0,1] ?_))))
   obtain ⟨t_2, ht_7, h⟩ := bd h
   refine tO (pc 0 (fun w hm => impl_leastEach.calls f0 t1 c2 w _ C_c (hm.xr C_h) rfl D_c (hm.xr D_h) rfl ht_7) ?_)
   rintro w v w' hm ⟨o_8, cap_9, sp_10, _, rfl, hs_11, ho_12, rfl, hm'⟩
   refine ⟨_, hm.app hm', jkO ?_⟩
   clear hm hm'
   refine qh [0,0] (qe (jx_then (jc_ret ?_)))
   obtain rfl := Option.some.inj h
   exact qr [] (fun w hm => ⟨o_8, cap_9, sp_10, t_2.length, rfl, hs_11, ho_12, rfl, hm.pk [2]⟩)
/-! ### spec.LeastEach -/
def spec_LeastEach.k_3 (xs_2 : List Int) : Option ((List Int) × Int) := some (xs_2, 0)
def spec_LeastEach.l_6 (f0 : GFrame) (t1 : List GNote) (c2 : GCosts) : ((List Int) × Int) → Option (((List Int) × Int) ⊕ ((List Int)))
  | (xs_4, i_5) => (if (decide (i_5 < (t1.length : Int))) = true then (ix t1 i_5).bind fun x_8 => (spec_l07Least f0 x_8 c2).bind fun t_9 => (if xs_4.length + ([t_9] : List Int).length ≤ 4294967296 then some (.inl ((xs_4 ++ ([t_9] : List Int)), (w64 (i_5 + 1)))) else none) else some (.inr xs_4))
def spec_LeastEach (f0 : GFrame) (t1 : List GNote) (c2 : GCosts) : Option ((List Int) × Int) := (spec_l07Given f0 t1 c2).bind fun t_1 => (if (t_1 != 0) = true then some (([] : List Int), t_1) else (loop (spec_LeastEach.l_6 f0 t1 c2) (([] : List Int), 0)).bind fun t_7 => spec_LeastEach.k_3 t_7)
theorem spec_LeastEach.calls (f0 : GFrame) (t1 : List GNote) (c2 : GCosts) (w : World) (r : (List Int) × Int) {C_a : Option Addr} {C_an : Nat} (C_c : Nat) (C_h : Rw w C_a 2 encGHammer f0.fHammers) (C_hn : f0.fHammers.length = C_an) {D_a : Option Addr} {D_an : Nat} (D_c : Nat) (D_h : Rw w D_a 2 encGNote t1) (D_hn : t1.length = D_an) (h : spec_LeastEach f0 t1 c2 = some r) :
    Calls Tryz.prog 32 #[(.agg #[(.int .i16 f0.fSteps), (.slice C_a C_an C_c)]), (.slice D_a D_an D_c), (.agg #[(.int .i16 c2.fAway), (.int .i16 c2.fOctave), (.int .i16 c2.fStep)])] w fun e w' => ∃ v, e = .returned v ∧ (∃ (o0 : Option Nat) (c0 : Nat) (s0 : List Value) (n0 : Nat), r.1.length = n0 ∧ (o0 ≠ none → n0 ≤ c0 ∧ s0.length = (c0 - n0) * 1) ∧ (o0 = none → r.1 = [] ∧ c0 = 0) ∧ v = .tuple #[.slice (o0.map fun b => ⟨b, 0, none⟩) n0 c0, (.int .i64 r.2)] ∧ Mem w [] [⟨o0, 2, row encI64 r.1 s0⟩] w') := by
  subst C_hn D_hn
  rw [spec_LeastEach] at h
  refine enter (args := [(.agg #[(.int .i16 f0.fSteps), (.slice C_a f0.fHammers.length C_c)]), (.slice D_a t1.length D_c), (.agg #[(.int .i16 c2.fAway), (.int .i16 c2.fOctave), (.int .i16 c2.fStep)])]) Tryz.func32 rfl Tryz.ntmps32 (by kernel_rfl) (L := []) (W := []) (Mem.start w) ?_
  refine jc_seq (jc_region (tO (qa 0 (fun b_1 => jkO (tO (qa 0 (fun b_2 => jkO (qh [0,0] (qe (jx_then (jc_seq (jc_seq (jc_region (qh [0,1] ?_))))))))))))))
  obtain ⟨t_1, ht_6, h⟩ := bd h
  refine tO (pc 0 (fun w hm => spec_l07Given.calls f0 t1 c2 w _ C_c (hm.xr C_h) rfl D_c (hm.xr D_h) rfl b_1 (hm.pass (N := [⟨some b_1, 27, [(.int .i16 f0.fSteps), (.slice C_a f0.fHammers.length C_c)]⟩]) [0] (by kernel_rfl) (by kernel_rfl)) (hm.exApart (N := [⟨some b_1, 27, [(.int .i16 f0.fSteps), (.slice C_a f0.fHammers.length C_c)]⟩]) C_h (fun _ => List.not_mem_nil) [0] (by kernel_rfl)) (hm.exApart (N := [⟨some b_1, 27, [(.int .i16 f0.fSteps), (.slice C_a f0.fHammers.length C_c)]⟩]) D_h (fun _ => List.not_mem_nil) [0] (by kernel_rfl)) ht_6) ?_)
  rintro w v w' hm ⟨rfl, hm'⟩
  refine ⟨_, hm.appW (ps := [(0, ⟨some b_1, 27, [(.int .i16 f0.fSteps), (.slice C_a f0.fHammers.length C_c)]⟩)]) (N := []) hm' (by kernel_rfl) (by kernel_rfl), jkO ?_⟩
  clear hm hm'
  refine qh [0] (qe (jx_then (jc_seq (jc_region (qh [0,0] (qe (jx_then (qi h (fun h => ?_) (fun h => ?_)))))))))
  ·refine jc_seq (jc_region (tO (qa 0 (fun b_8 => jkO (qh [0,0,0] (qe (jx_then (jc_ret (jx_thenr ?_)))))))))
   obtain rfl := Option.some.inj h
   exact qr [] (fun w hm => ⟨(some b_8), 0, [], 0, rfl, (fun _ => ⟨Nat.le_refl _, by simp⟩), (fun e => nomatch e), rfl, hm.pk [2]⟩)
  ·refine jc_skip (jx_then (jc_seq (jc_region (tO (qa 0 (fun b_9 => jkO (qh [0] (qe (jx_then (jc_seq (jc_seq (jc_region (qh [0] (qe (jx_then (jc_meet (fun (j : (List Int) × (Option Nat) × Nat × (List Value) × Nat) => match j with | ⟨xs_2, o_190, cap_191, sp_192, n_193⟩ => spec_LeastEach.k_3 xs_2 = some r ∧ (xs_2.length = n_193) ∧ ((o_190 ≠ none → n_193 ≤ cap_191 ∧ sp_192.length = (cap_191 - n_193) * 1)) ∧ ((o_190 = none → xs_2 = [] ∧ cap_191 = 0))) (fun (j : (List Int) × (Option Nat) × Nat × (List Value) × Nat) => match j with | ⟨xs_2, o_190, cap_191, sp_192, n_193⟩ => [(6, [], (.slice none 0 0)), (7, [], (.int .i64 0)), (9, [], (.slice (o_190.map fun b => ⟨b, 0, none⟩) n_193 cap_191))]) (fun (j : (List Int) × (Option Nat) × Nat × (List Value) × Nat) => match j with | ⟨xs_2, o_190, cap_191, sp_192, n_193⟩ => [⟨some b_1, 27, [(.int .i16 f0.fSteps), (.slice C_a f0.fHammers.length C_c)]⟩, ⟨some b_2, 33, [(.int .i16 c2.fAway), (.int .i16 c2.fOctave), (.int .i16 c2.fStep)]⟩, ⟨o_190, 2, row encI64 xs_2 sp_192⟩]) ?_ ?_))))))))))))))))
   ·refine jc_block ?_
    obtain ⟨t_7, ht_253, hr_236⟩ := bd h
    refine jc_loop (fun (s : (List Int) × Int) (x : (Option Nat) × Nat × (List Value) × Nat) => match s, x with | ⟨xs_4, i_5⟩, ⟨o_230, cap_231, sp_232, n_233⟩ => (xs_4.length = n_233) ∧ ((o_230 ≠ none → n_233 ≤ cap_231 ∧ sp_232.length = (cap_231 - n_233) * 1)) ∧ ((o_230 = none → xs_4 = [] ∧ cap_231 = 0))) (fun (s : (List Int) × Int) (x : (Option Nat) × Nat × (List Value) × Nat) => match s, x with | ⟨xs_4, i_5⟩, ⟨o_230, cap_231, sp_232, n_233⟩ => [(1, [], (.slice D_a t1.length D_c)), (3, [], (.pointer (some ⟨b_1, 0, none⟩))), (5, [], (.pointer (some ⟨b_2, 0, none⟩))), (6, [], (.slice none 0 0)), (7, [], (.int .i64 0)), (9, [], (.slice (o_230.map fun b => ⟨b, 0, none⟩) n_233 cap_231)), (10, [], (.int .i64 i_5))]) (fun (s : (List Int) × Int) (x : (Option Nat) × Nat × (List Value) × Nat) => match s, x with | ⟨xs_4, i_5⟩, ⟨o_230, cap_231, sp_232, n_233⟩ => [⟨some b_1, 27, [(.int .i16 f0.fSteps), (.slice C_a f0.fHammers.length C_c)]⟩, ⟨some b_2, 33, [(.int .i16 c2.fAway), (.int .i16 c2.fOctave), (.int .i16 c2.fStep)]⟩, ⟨o_230, 2, row encI64 xs_4 sp_232⟩]) ht_253 ⟨(some b_9), 0, [], 0⟩ ⟨rfl, (fun _ => ⟨Nat.le_refl _, by simp⟩), (fun e => nomatch e)⟩ (by kernel_rfl) [0, 1, 2] (by kernel_rfl) (by kernel_rfl) ?_
    rintro ⟨xs_4, i_5⟩ ⟨o_230, cap_231, sp_232, n_233⟩ y_237 ⟨rfl, hs_234, ho_235⟩ h
    rw [spec_LeastEach.l_6] at h
    refine jc_seq (jc_seq (jc_region (qh [0,0,0,0] (qe (jx_then (qi h (fun h => ?_) (fun h => ?_)))))))
    ·refine jc_skip (jx_then (jc_seq (jc_block (qg [⟨some b_1, 27, [(.int .i16 f0.fSteps), (.slice C_a f0.fHammers.length C_c)]⟩, ⟨some b_2, 33, [(.int .i16 c2.fAway), (.int .i16 c2.fOctave), (.int .i16 c2.fStep)]⟩] 10 (qd [⟨0, 0, 0⟩,⟨1, 0, 0⟩,⟨2, 0, 0⟩,⟨5, 1, 0⟩] 6 [0, 1] ?_)))))
     obtain ⟨x_8, hx_243, h⟩ := bd h
     refine qv 3 0 [0, 1] (fun w hm => idx_run (a := D_a) (len := t1.length) (s := 2) (j := i_5) (by kernel_rfl) (ix_some hx_243).1 (ltn hx_243 rfl) (D_h.sp hx_243)) (qv 4 0 [0, 1] (fun w hm => ld_run (b := aB D_a) (off := (aO D_a + i_5.toNat * 2)) (s := 2) (agg := true) (vs := (encGNote x_8)) (by kernel_rfl) (by kernel_rfl) (.inl rfl) ((hm.xr D_h).at hx_243)) ?_)
     obtain ⟨t_9, ht_244, h⟩ := bd h
     refine tD 6 (pc 0 (fun w hm => spec_l07Least.calls f0 x_8 c2 w _ C_c (hm.xr C_h) rfl b_1 (hm.pass (N := [⟨some b_1, 27, [(.int .i16 f0.fSteps), (.slice C_a f0.fHammers.length C_c)]⟩]) [0] (by kernel_rfl) (by kernel_rfl)) (hm.exApart (N := [⟨some b_1, 27, [(.int .i16 f0.fSteps), (.slice C_a f0.fHammers.length C_c)]⟩]) C_h (fun _ => List.not_mem_nil) [0] (by kernel_rfl)) ht_244) ?_)
     rintro w v w' hm ⟨rfl, hm'⟩
     refine ⟨_, hm.appW (ps := [(0, ⟨some b_1, 27, [(.int .i16 f0.fSteps), (.slice C_a f0.fHammers.length C_c)]⟩)]) (N := []) hm' (by kernel_rfl) (by kernel_rfl), kD [0, 1] ?_⟩
     clear hm hm'
     refine tD 7 (qa 0 (fun b_245 => kD [0, 1] ?_))
     obtain ⟨hg_246, h⟩ := gd h
     exact tD 8 (p_apn 0 2 o_230 2 xs_4.length 1 cap_231 1 8 (some ⟨b_245, 0, none⟩) encI64 xs_4 ([t_9] : List Int) sp_232 (.int .i64 0) rfl rfl (by kernel_rfl) (by kernel_rfl) (by kernel_rfl) encI64_len encI64_cell hs_234 ho_235 (fun w hm => (hm.ow 3 (some b_245) 2 ([t_9] : List Int) [] (fun e => nomatch e) encI64_len)) hg_246 (by kernel_rfl) (by kernel_rfl) (fun o_247 cap_248 sp_249 hs_250 ho_251 => kD [0, 1] (qd [⟨9, 0, 0⟩] 0 [0, 1] (qz (jx_inn (jx_then (jc_region (qh [0,0,0] (qe (qb ((xs_4 ++ ([t_9] : List Int)), (w64 (i_5 + 1))) ⟨o_247, cap_248, sp_249, (xs_4 ++ ([t_9] : List Int)).length⟩ h ⟨rfl, hs_250, ho_251⟩ [0, 1, 2]))))))))))
    ·refine jc_exit (jx_thenx (jx_leave xs_4 (Option.some.inj h).symm (fun e_252 => ?_)))
     subst e_252
     exact jx_ine (qm ⟨xs_4, o_230, cap_231, sp_232, xs_4.length⟩ ⟨hr_236, rfl, hs_234, ho_235⟩ [0, 1, 2])
   ·rintro ⟨xs_2, o_190, cap_191, sp_192, n_193⟩ ⟨h, rfl, hs_194, ho_195⟩
    replace h : spec_LeastEach.k_3 xs_2 = some r := h
    rw [spec_LeastEach.k_3] at h
    refine jx_then (jc_seq (jc_region (qh [0,0,0] (qe (jx_then (jc_ret ?_))))))
    obtain rfl := Option.some.inj h
    exact qr [] (fun w hm => ⟨o_190, cap_191, sp_192, xs_2.length, rfl, hs_194, ho_195, rfl, hm.pk [2]⟩)
/-! ### impl.size[impl.Note] -/
def impl_size_Note (list0 : List GNote) : Option (Int) := some (list0.length : Int)
theorem impl_size_Note.calls (list0 : List GNote) (w : World) (r : Int) {A_a : Option Addr} {A_an : Nat} (A_c : Nat) (A_h : Rw w A_a 2 encGNote list0) (A_hn : list0.length = A_an) (h : impl_size_Note list0 = some r) :
    Calls Tryz.prog 109 #[(.slice A_a A_an A_c)] w fun e w' => ∃ v, e = .returned v ∧ (v = (.int .i64 r) ∧ Mem w [] [] w') := by
  subst A_hn
  rw [impl_size_Note] at h
  refine enter (args := [(.slice A_a list0.length A_c)]) Tryz.func109 rfl Tryz.ntmps109 (by kernel_rfl) (L := []) (W := []) (Mem.start w) ?_
  refine jc_seq (jc_region (qh [0] (qe (jx_then (jc_seq (jc_region (qh [0,0,0] (qe (jx_then (jc_ret ?_))))))))))
  obtain rfl := Option.some.inj h
  exact qr [] (fun w hm => ⟨rfl, hm.pk []⟩)
/-! ### impl.BoundFrom -/
def impl_BoundFrom (f0 : GFrame) (t1 : List GNote) (c2 : GCosts) (from3 : Int) : Option (Int × Int) := (impl_arrangeCode f0 t1 c2).bind fun t_1 => (impl_size_Note t1).bind fun t_2 => (impl_within from3 0 t_2).bind fun t_3 => (impl_unless t_3 2).bind fun t_4 => (impl_firstOf ([t_1, t_4] : List Int)).bind fun t_5 => (if (t_5 != 0) = true then some (0, t_5) else (impl_bounds f0 t1 c2).bind fun t_6 => (ix t_6 from3).bind fun x_7 => some (x_7, 0))
theorem impl_BoundFrom.calls (f0 : GFrame) (t1 : List GNote) (c2 : GCosts) (from3 : Int) (w : World) (r : Int × Int) {C_a : Option Addr} {C_an : Nat} (C_c : Nat) (C_h : Rw w C_a 2 encGHammer f0.fHammers) (C_hn : f0.fHammers.length = C_an) {D_a : Option Addr} {D_an : Nat} (D_c : Nat) (D_h : Rw w D_a 2 encGNote t1) (D_hn : t1.length = D_an) (h : impl_BoundFrom f0 t1 c2 from3 = some r) :
    Calls Tryz.prog 33 #[(.agg #[(.int .i16 f0.fSteps), (.slice C_a C_an C_c)]), (.slice D_a D_an D_c), (.agg #[(.int .i16 c2.fAway), (.int .i16 c2.fOctave), (.int .i16 c2.fStep)]), (.int .i64 from3)] w fun e w' => ∃ v, e = .returned v ∧ (v = .tuple #[(.int .i64 r.1), (.int .i64 r.2)] ∧ Mem w [] [] w') := by
  subst C_hn D_hn
  rw [impl_BoundFrom] at h
  refine enter (args := [(.agg #[(.int .i16 f0.fSteps), (.slice C_a f0.fHammers.length C_c)]), (.slice D_a t1.length D_c), (.agg #[(.int .i16 c2.fAway), (.int .i16 c2.fOctave), (.int .i16 c2.fStep)]), (.int .i64 from3)]) Tryz.func33 rfl Tryz.ntmps33 (by kernel_rfl) (L := []) (W := []) (Mem.start w) ?_
  refine jc_seq (jc_region (tO (qa 0 (fun b_1 => jkO (tO (qa 0 (fun b_2 => jkO (qh [0,0] (qe (jx_then (jc_seq (jc_seq (jc_region (qh [0,0,1] ?_))))))))))))))
  obtain ⟨t_1, ht_10, h⟩ := bd h
  refine tO (pc 0 (fun w hm => impl_arrangeCode.calls f0 t1 c2 w _ C_c (hm.xr C_h) rfl D_c (hm.xr D_h) rfl ht_10) ?_)
  rintro w v w' hm ⟨rfl, hm'⟩
  refine ⟨_, hm.app hm', jkO ?_⟩
  clear hm hm'
  refine qh [0,0] ?_
  obtain ⟨t_2, ht_11, h⟩ := bd h
  refine tO (pc 0 (fun w hm => impl_size_Note.calls t1 w _ D_c (hm.xr D_h) rfl ht_11) ?_)
  rintro w v w' hm ⟨rfl, hm'⟩
  refine ⟨_, hm.app hm', jkO ?_⟩
  clear hm hm'
  obtain ⟨t_3, ht_12, h⟩ := bd h
  refine tO (pc 0 (fun w hm => impl_within.calls from3 0 t_2 w _ ht_12) ?_)
  rintro w v w' hm ⟨rfl, hm'⟩
  refine ⟨_, hm.app hm', jkO ?_⟩
  clear hm hm'
  obtain ⟨t_4, ht_13, h⟩ := bd h
  refine tO (pc 0 (fun w hm => impl_unless.calls t_3 2 w _ ht_13) ?_)
  rintro w v w' hm ⟨rfl, hm'⟩
  refine ⟨_, hm.app hm', jkO ?_⟩
  clear hm hm'
  refine tO (qa 0 (fun b_14 => jkO ?_))
  obtain ⟨t_5, ht_15, h⟩ := bd h
  refine tO (pc 0 (fun w hm => impl_firstOf.calls ([t_1, t_4] : List Int) w _ 2 (hm.ow 2 (some b_14) 2 ([t_1, t_4] : List Int) [] (fun e => nomatch e) encI64_len) rfl ht_15) ?_)
  rintro w v w' hm ⟨rfl, hm'⟩
  refine ⟨_, hm.app hm', jkO ?_⟩
  clear hm hm'
  refine qh [0] (qe (jx_then (jc_seq (jc_region (qh [0,0] (qe (jx_then (qi h (fun h => ?_) (fun h => ?_)))))))))
  ·refine jc_seq (jc_region (qh [0,0,0] (qe (jx_then (jc_ret (jx_thenr ?_))))))
   obtain rfl := Option.some.inj h
   exact qr [] (fun w hm => ⟨rfl, hm.pk []⟩)
  ·refine jc_skip (jx_then (jc_seq (jc_region (qh [0,0,1] ?_))))
   obtain ⟨t_6, ht_17, h⟩ := bd h
   refine tO (pc 0 (fun w hm => impl_bounds.calls f0 t1 c2 w _ C_c (hm.xr C_h) rfl D_c (hm.xr D_h) rfl ht_17) ?_)
   rintro w v w' hm ⟨o_18, cap_19, sp_20, _, rfl, hs_21, ho_22, rfl, hm'⟩
   refine ⟨_, hm.app hm', jkO ?_⟩
   clear hm hm'
   refine qh [0] ?_
   obtain ⟨x_7, hx_23, h⟩ := bd h
   refine tO (qx 0 (o_18.map fun b => ⟨b, 0, none⟩) 1 hx_23 rfl (spo ho_22 hx_23) (jkO (tO (ql 0 false (fun w hm => ((hm.ow 3 o_18 2 t_6 sp_20 (fun e => (ho_22 e).1) encI64_len).at hx_23)) (jkO (qh [0,0] (qe (jx_then (jc_ret ?_)))))))))
   obtain rfl := Option.some.inj h
   exact qr [] (fun w hm => ⟨rfl, hm.pk []⟩)
/-! ### spec.A2SameChoices -/
def spec_A2SameChoices.k_1 : Option (Bool) := some true
def spec_A2SameChoices.l_3 (a0 : List GChoice) (b1 : List GChoice) : Int → Option ((Int) ⊕ (Bool ⊕ Unit))
  | i_2 => (if (decide (i_2 < (a0.length : Int))) = true then (ix a0 i_2).bind fun x_5 => (ix b1 i_2).bind fun x_6 => (if (!((x_5.fAway == x_6.fAway) && ((x_5.fLate == x_6.fLate) && ((x_5.fOctave == x_6.fOctave) && (x_5.fTrack == x_6.fTrack))))) = true then some (.inr (.inl false)) else some (.inl (w64 (i_2 + 1)))) else some (.inr (.inr ())))
def spec_A2SameChoices (a0 : List GChoice) (b1 : List GChoice) : Option (Bool) := (if ((a0.length : Int) != (b1.length : Int)) = true then some false else (loop (spec_A2SameChoices.l_3 a0 b1) 0).bind fun t_4 => match t_4 with | .inl p => some p | .inr p => spec_A2SameChoices.k_1)
theorem spec_A2SameChoices.calls (a0 : List GChoice) (b1 : List GChoice) (w : World) (r : Bool) {A_a : Option Addr} {A_an : Nat} (A_c : Nat) (A_h : Rw w A_a 4 encGChoice a0) (A_hn : a0.length = A_an) {B_a : Option Addr} {B_an : Nat} (B_c : Nat) (B_h : Rw w B_a 4 encGChoice b1) (B_hn : b1.length = B_an) (h : spec_A2SameChoices a0 b1 = some r) :
    Calls Tryz.prog 19 #[(.slice A_a A_an A_c), (.slice B_a B_an B_c)] w fun e w' => ∃ v, e = .returned v ∧ (v = (.bool r) ∧ Mem w [] [] w') := by
  subst A_hn B_hn
  rw [spec_A2SameChoices] at h
  refine enter (args := [(.slice A_a a0.length A_c), (.slice B_a b1.length B_c)]) Tryz.func19 rfl Tryz.ntmps19 (by kernel_rfl) (L := []) (W := []) (Mem.start w) ?_
  refine jc_seq (jc_region (qh [0] (qe (jx_then (jc_seq (jc_seq (jc_region (qh [0,0,0,0,0] (qe (jx_then (qi h (fun h => ?_) (fun h => ?_))))))))))))
  ·refine jc_seq (jc_region (qh [0] (qe (jx_then (jc_ret (jx_thenr ?_))))))
   obtain rfl := Option.some.inj h
   exact qr [] (fun w hm => ⟨rfl, hm.pk []⟩)
  ·refine jc_skip (jx_then (jc_seq (jc_seq (jc_region (qh [0] (qe (jx_then (jc_meet (fun (_ : Unit) => spec_A2SameChoices.k_1 = some r) (fun (_ : Unit) => [(4, [], (.bool false))]) (fun (_ : Unit) => []) ?_ ?_))))))))
   ·refine jc_block ?_
    obtain ⟨t_4, ht_42, hr_33⟩ := bd h
    refine jc_loop (fun (s : Int) (x : Unit) => match s, x with | i_2, _ => True) (fun (s : Int) (x : Unit) => match s, x with | i_2, _ => [(0, [], (.slice A_a a0.length A_c)), (1, [], (.slice B_a b1.length B_c)), (4, [], (.bool false)), (5, [], (.int .i64 i_2))]) (fun (s : Int) (x : Unit) => match s, x with | i_2, _ => []) ht_42 () trivial (by kernel_rfl) [] (by kernel_rfl) (by kernel_rfl) ?_
    rintro i_2 _ y_34 _ h
    rw [spec_A2SameChoices.l_3] at h
    refine jc_seq (jc_seq (jc_region (qh [0,0,0,0] (qe (jx_then (qi h (fun h => ?_) (fun h => ?_)))))))
    ·refine jc_skip (jx_then (jc_seq (jc_block (jc_seq (qg [] 9 (qd [⟨0, 0, 0⟩,⟨1, 0, 0⟩,⟨4, 0, 0⟩,⟨5, 0, 0⟩] 5 [] ?_))))))
     obtain ⟨x_5, hx_37, h⟩ := bd h
     refine qv 2 0 [] (fun w hm => idx_run (a := A_a) (len := a0.length) (s := 4) (j := i_2) (by kernel_rfl) (ix_some hx_37).1 (ltn hx_37 rfl) (A_h.sp hx_37)) (qv 3 0 [] (fun w hm => ld_run (b := aB A_a) (off := (aO A_a + i_2.toNat * 4)) (s := 4) (agg := true) (vs := (encGChoice x_5)) (by kernel_rfl) (by kernel_rfl) (.inl rfl) ((hm.xr A_h).at hx_37)) ?_)
     obtain ⟨x_6, hx_38, h⟩ := bd h
     refine qv 6 0 [] (fun w hm => idx_run (a := B_a) (len := b1.length) (s := 4) (j := i_2) (by kernel_rfl) (ix_some hx_38).1 (ltn hx_38 rfl) (B_h.sp hx_38)) (qv 7 0 [] (fun w hm => ld_run (b := aB B_a) (off := (aO B_a + i_2.toNat * 4)) (s := 4) (agg := true) (vs := (encGChoice x_6)) (by kernel_rfl) (by kernel_rfl) (.inl rfl) ((hm.xr B_h).at hx_38)) (qd [⟨8, 0, 0⟩] 0 [] (qz (jx_then (qi h (fun h => ?_) (fun h => ?_))))))
     ·refine jc_seq (jc_region (qh [0] (qe (jx_then (jc_ret (jx_inr (jx_thenr (jx_leaver (.inl false) (Option.some.inj h).symm (fun e_40 => ?_)))))))))
      subst e_40
      refine jx_inr (jx_thenr (jx_thenr ?_))
      obtain rfl := Option.some.inj hr_33
      exact qr [] (fun w hm => ⟨rfl, hm.pk []⟩)
     ·exact jc_skip (jx_inn (jx_then (jc_region (qh [0,0,0] (qe (qb (w64 (i_2 + 1)) () h trivial []))))))
    ·refine jc_exit (jx_thenx (jx_leave (.inr ()) (Option.some.inj h).symm (fun e_41 => ?_)))
     subst e_41
     exact jx_ine (qm () hr_33 [])
   ·rintro _ h
    replace h : spec_A2SameChoices.k_1 = some r := h
    rw [spec_A2SameChoices.k_1] at h
    refine jx_then (jc_seq (jc_region (qh [0] (qe (jx_then (jc_ret ?_))))))
    obtain rfl := Option.some.inj h
    exact qr [] (fun w hm => ⟨rfl, hm.pk []⟩)
/-! ### spec.l00Same -/
def spec_l00Same.k_1 : Option (Bool) := some true
def spec_l00Same.l_3 (a0 : List Int) (b1 : List Int) : Int → Option ((Int) ⊕ (Bool ⊕ Unit))
  | i_2 => (if (decide (i_2 < (a0.length : Int))) = true then (ix a0 i_2).bind fun x_5 => (ix b1 i_2).bind fun x_6 => (if (x_5 != x_6) = true then some (.inr (.inl false)) else some (.inl (w64 (i_2 + 1)))) else some (.inr (.inr ())))
def spec_l00Same (a0 : List Int) (b1 : List Int) : Option (Bool) := (if ((a0.length : Int) != (b1.length : Int)) = true then some false else (loop (spec_l00Same.l_3 a0 b1) 0).bind fun t_4 => match t_4 with | .inl p => some p | .inr p => spec_l00Same.k_1)
theorem spec_l00Same.calls (a0 : List Int) (b1 : List Int) (w : World) (r : Bool) {A_a : Option Addr} {A_an : Nat} (A_c : Nat) (A_h : Rw w A_a 1 encI64 a0) (A_hn : a0.length = A_an) {B_a : Option Addr} {B_an : Nat} (B_c : Nat) (B_h : Rw w B_a 1 encI64 b1) (B_hn : b1.length = B_an) (h : spec_l00Same a0 b1 = some r) :
    Calls Tryz.prog 104 #[(.slice A_a A_an A_c), (.slice B_a B_an B_c)] w fun e w' => ∃ v, e = .returned v ∧ (v = (.bool r) ∧ Mem w [] [] w') := by
  subst A_hn B_hn
  rw [spec_l00Same] at h
  refine enter (args := [(.slice A_a a0.length A_c), (.slice B_a b1.length B_c)]) Tryz.func104 rfl Tryz.ntmps104 (by kernel_rfl) (L := []) (W := []) (Mem.start w) ?_
  refine jc_seq (jc_region (qh [0] (qe (jx_then (jc_seq (jc_seq (jc_region (qh [0,0,0,0,0] (qe (jx_then (qi h (fun h => ?_) (fun h => ?_))))))))))))
  ·refine jc_seq (jc_region (qh [0] (qe (jx_then (jc_ret (jx_thenr ?_))))))
   obtain rfl := Option.some.inj h
   exact qr [] (fun w hm => ⟨rfl, hm.pk []⟩)
  ·refine jc_skip (jx_then (jc_seq (jc_seq (jc_region (qh [0] (qe (jx_then (jc_meet (fun (_ : Unit) => spec_l00Same.k_1 = some r) (fun (_ : Unit) => [(4, [], (.bool false))]) (fun (_ : Unit) => []) ?_ ?_))))))))
   ·refine jc_block ?_
    obtain ⟨t_4, ht_42, hr_33⟩ := bd h
    refine jc_loop (fun (s : Int) (x : Unit) => match s, x with | i_2, _ => True) (fun (s : Int) (x : Unit) => match s, x with | i_2, _ => [(0, [], (.slice A_a a0.length A_c)), (1, [], (.slice B_a b1.length B_c)), (4, [], (.bool false)), (5, [], (.int .i64 i_2))]) (fun (s : Int) (x : Unit) => match s, x with | i_2, _ => []) ht_42 () trivial (by kernel_rfl) [] (by kernel_rfl) (by kernel_rfl) ?_
    rintro i_2 _ y_34 _ h
    rw [spec_l00Same.l_3] at h
    refine jc_seq (jc_seq (jc_region (qh [0,0,0,0] (qe (jx_then (qi h (fun h => ?_) (fun h => ?_)))))))
    ·refine jc_skip (jx_then (jc_seq (jc_block (jc_seq (qg [] 9 (qd [⟨0, 0, 0⟩,⟨1, 0, 0⟩,⟨4, 0, 0⟩,⟨5, 0, 0⟩] 5 [] ?_))))))
     obtain ⟨x_5, hx_37, h⟩ := bd h
     refine qv 2 0 [] (fun w hm => idx_run (a := A_a) (len := a0.length) (s := 1) (j := i_2) (by kernel_rfl) (ix_some hx_37).1 (ltn hx_37 rfl) (A_h.sp hx_37)) (qv 3 0 [] (fun w hm => ld_run (b := aB A_a) (off := (aO A_a + i_2.toNat * 1)) (s := 1) (agg := false) (vs := (encI64 x_5)) (by kernel_rfl) (by kernel_rfl) (.inr rfl) ((hm.xr A_h).at hx_37)) ?_)
     obtain ⟨x_6, hx_38, h⟩ := bd h
     refine qv 6 0 [] (fun w hm => idx_run (a := B_a) (len := b1.length) (s := 1) (j := i_2) (by kernel_rfl) (ix_some hx_38).1 (ltn hx_38 rfl) (B_h.sp hx_38)) (qv 7 0 [] (fun w hm => ld_run (b := aB B_a) (off := (aO B_a + i_2.toNat * 1)) (s := 1) (agg := false) (vs := (encI64 x_6)) (by kernel_rfl) (by kernel_rfl) (.inr rfl) ((hm.xr B_h).at hx_38)) (qd [⟨8, 0, 0⟩] 0 [] (qz (jx_then (qi h (fun h => ?_) (fun h => ?_))))))
     ·refine jc_seq (jc_region (qh [0] (qe (jx_then (jc_ret (jx_inr (jx_thenr (jx_leaver (.inl false) (Option.some.inj h).symm (fun e_40 => ?_)))))))))
      subst e_40
      refine jx_inr (jx_thenr (jx_thenr ?_))
      obtain rfl := Option.some.inj hr_33
      exact qr [] (fun w hm => ⟨rfl, hm.pk []⟩)
     ·exact jc_skip (jx_inn (jx_then (jc_region (qh [0,0,0] (qe (qb (w64 (i_2 + 1)) () h trivial []))))))
    ·refine jc_exit (jx_thenx (jx_leave (.inr ()) (Option.some.inj h).symm (fun e_41 => ?_)))
     subst e_41
     exact jx_ine (qm () hr_33 [])
   ·rintro _ h
    replace h : spec_l00Same.k_1 = some r := h
    rw [spec_l00Same.k_1] at h
    refine jx_then (jc_seq (jc_region (qh [0] (qe (jx_then (jc_ret ?_))))))
    obtain rfl := Option.some.inj h
    exact qr [] (fun w hm => ⟨rfl, hm.pk []⟩)
/-! ### spec.A2Same -/
def spec_A2Same (a0 : List Int) (b1 : List Int) : Option (Bool) := (spec_l00Same a0 b1).bind fun t_1 => some t_1
theorem spec_A2Same.calls (a0 : List Int) (b1 : List Int) (w : World) (r : Bool) {A_a : Option Addr} {A_an : Nat} (A_c : Nat) (A_h : Rw w A_a 1 encI64 a0) (A_hn : a0.length = A_an) {B_a : Option Addr} {B_an : Nat} (B_c : Nat) (B_h : Rw w B_a 1 encI64 b1) (B_hn : b1.length = B_an) (h : spec_A2Same a0 b1 = some r) :
    Calls Tryz.prog 28 #[(.slice A_a A_an A_c), (.slice B_a B_an B_c)] w fun e w' => ∃ v, e = .returned v ∧ (v = (.bool r) ∧ Mem w [] [] w') := by
  subst A_hn B_hn
  rw [spec_A2Same] at h
  refine enter (args := [(.slice A_a a0.length A_c), (.slice B_a b1.length B_c)]) Tryz.func28 rfl Tryz.ntmps28 (by kernel_rfl) (L := []) (W := []) (Mem.start w) ?_
  refine jc_seq (jc_region (qh [0] (qe (jx_then (jc_seq (jc_region (qh [0,0] ?_)))))))
  obtain ⟨t_1, ht_1, h⟩ := bd h
  refine tO (pc 0 (fun w hm => spec_l00Same.calls a0 b1 w _ A_c (hm.xr A_h) rfl B_c (hm.xr B_h) rfl ht_1) ?_)
  rintro w v w' hm ⟨rfl, hm'⟩
  refine ⟨_, hm.app hm', jkO ?_⟩
  clear hm hm'
  refine qh [0] (qe (jx_then (jc_ret ?_)))
  obtain rfl := Option.some.inj h
  exact qr [] (fun w hm => ⟨rfl, hm.pk []⟩)
/-! ### impl.CostOf -/
def impl_CostOf.k_7 (i_6 : Int) : Option (Int × Int) := some (i_6, 0)
def impl_CostOf.l_10 (c0 : GCosts) (list1 : List GChoice) : (Int × Int) → Option ((Int × Int) ⊕ (Int))
  | (i_8, i_9) => (if (decide (i_9 < (list1.length : Int))) = true then (ix list1 i_9).bind fun x_12 => (impl_Costs_of c0 x_12).bind fun t_13 => some (.inl ((w64 (i_8 + t_13)), (w64 (i_9 + 1)))) else some (.inr i_8))
def impl_CostOf (c0 : GCosts) (list1 : List GChoice) : Option (Int × Int) := (impl_ValidCosts c0).bind fun t_1 => (impl_unless t_1 1).bind fun t_2 => (impl_choicesCode list1).bind fun t_3 => (impl_unless (decide ((list1.length : Int) ≤ 120)) 3).bind fun t_4 => (impl_firstOf ([t_2, t_3, t_4] : List Int)).bind fun t_5 => (if (t_5 != 0) = true then some (0, t_5) else (loop (impl_CostOf.l_10 c0 list1) (0, 0)).bind fun t_11 => impl_CostOf.k_7 t_11)
theorem impl_CostOf.calls (c0 : GCosts) (list1 : List GChoice) (w : World) (r : Int × Int) {E_a : Option Addr} {E_an : Nat} (E_c : Nat) (E_h : Rw w E_a 4 encGChoice list1) (E_hn : list1.length = E_an) (h : impl_CostOf c0 list1 = some r) :
    Calls Tryz.prog 35 #[(.agg #[(.int .i16 c0.fAway), (.int .i16 c0.fOctave), (.int .i16 c0.fStep)]), (.slice E_a E_an E_c)] w fun e w' => ∃ v, e = .returned v ∧ (v = .tuple #[(.int .i64 r.1), (.int .i64 r.2)] ∧ Mem w [] [] w') := by
  subst E_hn
  rw [impl_CostOf] at h
  refine enter (args := [(.agg #[(.int .i16 c0.fAway), (.int .i16 c0.fOctave), (.int .i16 c0.fStep)]), (.slice E_a list1.length E_c)]) Tryz.func35 rfl Tryz.ntmps35 (by kernel_rfl) (L := []) (W := []) (Mem.start w) ?_
  refine jc_seq (jc_region (tO (qa 0 (fun b_1 => jkO (qh [0,0] (qe (jx_then (jc_seq (jc_seq (jc_region (qh [0] ?_)))))))))))
  obtain ⟨t_1, ht_9, h⟩ := bd h
  refine tO (pc 0 (fun w hm => impl_ValidCosts.calls c0 w _ ht_9) ?_)
  rintro w v w' hm ⟨rfl, hm'⟩
  refine ⟨_, hm.app hm', jkO ?_⟩
  clear hm hm'
  obtain ⟨t_2, ht_10, h⟩ := bd h
  refine tO (pc 0 (fun w hm => impl_unless.calls t_1 1 w _ ht_10) ?_)
  rintro w v w' hm ⟨rfl, hm'⟩
  refine ⟨_, hm.app hm', jkO ?_⟩
  clear hm hm'
  refine qh [0] ?_
  obtain ⟨t_3, ht_11, h⟩ := bd h
  refine tO (pc 0 (fun w hm => impl_choicesCode.calls list1 w _ E_c (hm.xr E_h) rfl ht_11) ?_)
  rintro w v w' hm ⟨rfl, hm'⟩
  refine ⟨_, hm.app hm', jkO ?_⟩
  clear hm hm'
  refine qh [0,0,0] ?_
  obtain ⟨t_4, ht_12, h⟩ := bd h
  refine tO (pc 0 (fun w hm => impl_unless.calls (decide ((list1.length : Int) ≤ 120)) 3 w _ ht_12) ?_)
  rintro w v w' hm ⟨rfl, hm'⟩
  refine ⟨_, hm.app hm', jkO ?_⟩
  clear hm hm'
  refine tO (qa 0 (fun b_13 => jkO ?_))
  obtain ⟨t_5, ht_14, h⟩ := bd h
  refine tO (pc 0 (fun w hm => impl_firstOf.calls ([t_2, t_3, t_4] : List Int) w _ 3 (hm.ow 1 (some b_13) 2 ([t_2, t_3, t_4] : List Int) [] (fun e => nomatch e) encI64_len) rfl ht_14) ?_)
  rintro w v w' hm ⟨rfl, hm'⟩
  refine ⟨_, hm.app hm', jkO ?_⟩
  clear hm hm'
  refine qh [0] (qe (jx_then (jc_seq (jc_region (qh [0,0] (qe (jx_then (qi h (fun h => ?_) (fun h => ?_)))))))))
  ·refine jc_seq (jc_region (qh [0,0,0] (qe (jx_then (jc_ret (jx_thenr ?_))))))
   obtain rfl := Option.some.inj h
   exact qr [] (fun w hm => ⟨rfl, hm.pk []⟩)
  ·refine jc_skip (jx_then (jc_seq (jc_region (qh [0] (qe (jx_then (jc_seq (jc_seq (jc_region (qh [0,0,0] (qe (jx_then (jc_meet (fun (j : Int) => match j with | i_6 => impl_CostOf.k_7 i_6 = some r) (fun (j : Int) => match j with | i_6 => [(4, [], (.int .i64 0)), (5, [], (.int .i64 0)), (7, [], (.int .i64 i_6))]) (fun (j : Int) => match j with | i_6 => [⟨some b_1, 33, [(.int .i16 c0.fAway), (.int .i16 c0.fOctave), (.int .i16 c0.fStep)]⟩, ⟨(some b_13), 2, row encI64 ([t_2, t_3, t_4] : List Int) []⟩]) ?_ ?_)))))))))))))
   ·refine jc_block ?_
    obtain ⟨t_11, ht_91, hr_83⟩ := bd h
    refine jc_loop (fun (s : Int × Int) (x : Unit) => match s, x with | ⟨i_8, i_9⟩, _ => True) (fun (s : Int × Int) (x : Unit) => match s, x with | ⟨i_8, i_9⟩, _ => [(2, [], (.pointer (some ⟨b_1, 0, none⟩))), (4, [], (.int .i64 0)), (5, [], (.int .i64 0)), (7, [], (.int .i64 i_8)), (24, [], (.slice E_a list1.length E_c)), (25, [], (.int .i64 (list1.length : Int))), (26, [], (.int .i64 i_9))]) (fun (s : Int × Int) (x : Unit) => match s, x with | ⟨i_8, i_9⟩, _ => [⟨some b_1, 33, [(.int .i16 c0.fAway), (.int .i16 c0.fOctave), (.int .i16 c0.fStep)]⟩, ⟨(some b_13), 2, row encI64 ([t_2, t_3, t_4] : List Int) []⟩]) ht_91 () trivial (by kernel_rfl) [0, 1] (by kernel_rfl) (by kernel_rfl) ?_
    rintro ⟨i_8, i_9⟩ _ y_84 _ h
    rw [impl_CostOf.l_10] at h
    refine jc_seq (jc_region (qh [0] (qe (jx_then (jc_seq (qi h (fun h => ?_) (fun h => ?_)))))))
    ·refine jc_skip (jx_then (jc_seq (jc_block (jc_seq (jc_region ?_)))))
     obtain ⟨x_12, hx_87, h⟩ := bd h
     refine tO (qx 0 E_a 4 hx_87 rfl (E_h.sp hx_87) (jkO (tO (ql 0 true (fun w hm => ((hm.xr E_h).at hx_87)) (jkO (tO (qa 0 (fun b_88 => jkO (tO (qs 0 [2] (jkO (qe (jx_then (jc_region (qh [0,0,2] ?_)))))))))))))))
     obtain ⟨t_13, ht_89, h⟩ := bd h
     refine tO (pc 0 (fun w hm => impl_Costs_of.calls c0 x_12 w _ ht_89) ?_)
     rintro w v w' hm ⟨rfl, hm'⟩
     refine ⟨_, hm.app hm', jkO ?_⟩
     clear hm hm'
     exact qh [0,0] (qe (jx_inn (jx_then (jc_region (qh [0,0] (qe (qb ((w64 (i_8 + t_13)), (w64 (i_9 + 1))) () h trivial [0, 1])))))))
    ·refine jc_exit (jx_thenx (jx_leave i_8 (Option.some.inj h).symm (fun e_90 => ?_)))
     subst e_90
     exact jx_ine (qm i_8 hr_83 [0, 1])
   ·rintro i_6 h
    replace h : impl_CostOf.k_7 i_6 = some r := h
    rw [impl_CostOf.k_7] at h
    refine jx_then (jc_seq (jc_region (qh [0,0,0] (qe (jx_then (jc_ret ?_))))))
    obtain rfl := Option.some.inj h
    exact qr [] (fun w hm => ⟨rfl, hm.pk []⟩)
/-! ### slices.Index[[]impl.Choice,impl.Choice] -/
def slices_Index_Choice.k_1 : Option (Int) := some (-1)
def slices_Index_Choice.l_3 (s0 : List GChoice) (v1 : GChoice) : Int → Option ((Int) ⊕ (Int ⊕ Unit))
  | i_2 => (if (decide (i_2 < (s0.length : Int))) = true then (ix s0 i_2).bind fun x_5 => (if ((v1.fAway == x_5.fAway) && ((v1.fLate == x_5.fLate) && ((v1.fOctave == x_5.fOctave) && (v1.fTrack == x_5.fTrack)))) = true then some (.inr (.inl i_2)) else some (.inl (w64 (i_2 + 1)))) else some (.inr (.inr ())))
def slices_Index_Choice (s0 : List GChoice) (v1 : GChoice) : Option (Int) := (loop (slices_Index_Choice.l_3 s0 v1) 0).bind fun t_4 => match t_4 with | .inl p => some p | .inr p => slices_Index_Choice.k_1
theorem slices_Index_Choice.calls (s0 : List GChoice) (v1 : GChoice) (w : World) (r : Int) {A_a : Option Addr} {A_an : Nat} (A_c : Nat) (A_h : Rw w A_a 4 encGChoice s0) (A_hn : s0.length = A_an) (h : slices_Index_Choice s0 v1 = some r) :
    Calls Tryz.prog 222 #[(.slice A_a A_an A_c), (.agg #[(.bool v1.fAway), (.int .i8 v1.fLate), (.int .i8 v1.fOctave), (.int .i8 v1.fTrack)])] w fun e w' => ∃ v, e = .returned v ∧ (v = (.int .i64 r) ∧ Mem w [] [] w') := by
  subst A_hn
  rw [slices_Index_Choice] at h
  refine enter (args := [(.slice A_a s0.length A_c), (.agg #[(.bool v1.fAway), (.int .i8 v1.fLate), (.int .i8 v1.fOctave), (.int .i8 v1.fTrack)])]) Tryz.func222 rfl Tryz.ntmps222 (by kernel_rfl) (L := []) (W := []) (Mem.start w) ?_
  refine jc_seq (jc_region (tO (qa 0 (fun b_1 => jkO (qh [0] (qe (jx_then (jc_seq (jc_seq (jc_region (qh [0,0,0] (qe (jx_then (jc_meet (fun (_ : Unit) => slices_Index_Choice.k_1 = some r) (fun (_ : Unit) => [(4, [], (.int .i64 0))]) (fun (_ : Unit) => [⟨some b_1, 104, [(.bool v1.fAway), (.int .i8 v1.fLate), (.int .i8 v1.fOctave), (.int .i8 v1.fTrack)]⟩]) ?_ ?_))))))))))))))
  ·refine jc_block ?_
   obtain ⟨t_4, ht_35, hr_27⟩ := bd h
   refine jc_loop (fun (s : Int) (x : Unit) => match s, x with | i_2, _ => True) (fun (s : Int) (x : Unit) => match s, x with | i_2, _ => [(0, [], (.slice A_a s0.length A_c)), (3, [], (.pointer (some ⟨b_1, 0, none⟩))), (4, [], (.int .i64 0)), (7, [], (.int .i64 (s0.length : Int))), (8, [], (.int .i64 i_2))]) (fun (s : Int) (x : Unit) => match s, x with | i_2, _ => [⟨some b_1, 104, [(.bool v1.fAway), (.int .i8 v1.fLate), (.int .i8 v1.fOctave), (.int .i8 v1.fTrack)]⟩]) ht_35 () trivial (by kernel_rfl) [0] (by kernel_rfl) (by kernel_rfl) ?_
   rintro i_2 _ y_28 _ h
   rw [slices_Index_Choice.l_3] at h
   refine jc_seq (jc_region (qh [0] (qe (jx_then (jc_seq (qi h (fun h => ?_) (fun h => ?_)))))))
   ·refine jc_skip (jx_then (jc_seq (jc_block (jc_seq (jc_region (qh [0,0] (qe (jx_then (jc_seq (qg [⟨some b_1, 104, [(.bool v1.fAway), (.int .i8 v1.fLate), (.int .i8 v1.fOctave), (.int .i8 v1.fTrack)]⟩] 6 (qd [⟨0, 0, 0⟩,⟨1, 0, 0⟩,⟨2, 0, 0⟩] 3 [0] ?_)))))))))))
    obtain ⟨x_5, hx_31, h⟩ := bd h
    refine qv 3 0 [0] (fun w hm => idx_run (a := A_a) (len := s0.length) (s := 4) (j := i_2) (by kernel_rfl) (ix_some hx_31).1 (ltn hx_31 rfl) (A_h.sp hx_31)) (qv 4 0 [0] (fun w hm => ld_run (b := aB A_a) (off := (aO A_a + i_2.toNat * 4)) (s := 4) (agg := true) (vs := (encGChoice x_5)) (by kernel_rfl) (by kernel_rfl) (.inl rfl) ((hm.xr A_h).at hx_31)) (qd [⟨5, 0, 0⟩] 0 [0] (qz (jx_then (qi h (fun h => ?_) (fun h => ?_))))))
    ·refine jc_seq (jc_region (qh [0,0] (qe (jx_then (jc_ret (jx_inr (jx_thenr (jx_leaver (.inl i_2) (Option.some.inj h).symm (fun e_33 => ?_)))))))))
     subst e_33
     refine jx_inr (jx_thenr (jx_thenr ?_))
     obtain rfl := Option.some.inj hr_27
     exact qr [] (fun w hm => ⟨rfl, hm.pk []⟩)
    ·exact jc_skip (jx_inn (jx_then (jc_region (qh [0,0] (qe (qb (w64 (i_2 + 1)) () h trivial [0]))))))
   ·refine jc_exit (jx_thenx (jx_leave (.inr ()) (Option.some.inj h).symm (fun e_34 => ?_)))
    subst e_34
    exact jx_ine (qm () hr_27 [0])
  ·rintro _ h
   replace h : slices_Index_Choice.k_1 = some r := h
   rw [slices_Index_Choice.k_1] at h
   refine jx_then (jc_seq (jc_region (qh [0] (qe (jx_then (jc_ret ?_))))))
   obtain rfl := Option.some.inj h
   exact qr [] (fun w hm => ⟨rfl, hm.pk []⟩)
/-! ### slices.Contains[[]impl.Choice,impl.Choice] -/
def slices_Contains_Choice (s0 : List GChoice) (v1 : GChoice) : Option (Bool) := (slices_Index_Choice s0 v1).bind fun t_1 => some (decide (t_1 ≥ 0))
theorem slices_Contains_Choice.calls (s0 : List GChoice) (v1 : GChoice) (w : World) (r : Bool) {A_a : Option Addr} {A_an : Nat} (A_c : Nat) (A_h : Rw w A_a 4 encGChoice s0) (A_hn : s0.length = A_an) (h : slices_Contains_Choice s0 v1 = some r) :
    Calls Tryz.prog 196 #[(.slice A_a A_an A_c), (.agg #[(.bool v1.fAway), (.int .i8 v1.fLate), (.int .i8 v1.fOctave), (.int .i8 v1.fTrack)])] w fun e w' => ∃ v, e = .returned v ∧ (v = (.bool r) ∧ Mem w [] [] w') := by
  subst A_hn
  rw [slices_Contains_Choice] at h
  refine enter (args := [(.slice A_a s0.length A_c), (.agg #[(.bool v1.fAway), (.int .i8 v1.fLate), (.int .i8 v1.fOctave), (.int .i8 v1.fTrack)])]) Tryz.func196 rfl Tryz.ntmps196 (by kernel_rfl) (L := []) (W := []) (Mem.start w) ?_
  refine jc_seq (jc_region (tO (qa 0 (fun b_1 => jkO (qh [0] (qe (jx_then (jc_seq (jc_region (qh [0,0] ?_))))))))))
  obtain ⟨t_1, ht_2, h⟩ := bd h
  refine tO (pc 0 (fun w hm => slices_Index_Choice.calls s0 v1 w _ A_c (hm.xr A_h) rfl ht_2) ?_)
  rintro w v w' hm ⟨rfl, hm'⟩
  refine ⟨_, hm.app hm', jkO ?_⟩
  clear hm hm'
  refine qh [0,0] (qe (jx_then (jc_ret ?_)))
  obtain rfl := Option.some.inj h
  exact qr [] (fun w hm => ⟨rfl, hm.pk []⟩)
/-! ### (impl.Frame).fit -/
def impl_Frame_fit.k_2 (list2 : List GChoice) (a_1 : Arr 96 Int) : Option ((Arr 96 Int) × Int) := some (a_1, (list2.length : Int))
def impl_Frame_fit.k_9 (t1 : List GNote) (a_3 : Arr 96 Int) (i_4 : Int) (x_7 : GChoice) (q_8 : Bool) : Option (((Arr 96 Int) × Int) ⊕ (((Arr 96 Int) × Int) ⊕ (Arr 96 Int))) := (if q_8 = true then some (.inr (.inl ((Arr.rep 96 0), i_4))) else (ix t1 i_4).bind fun x_10 => (impl_Drum_puts a_3 x_10 x_7).bind fun t_11 => some (.inl (t_11, (w64 (i_4 + 1)))))
def impl_Frame_fit.l_5 (f0 : GFrame) (t1 : List GNote) (list2 : List GChoice) : ((Arr 96 Int) × Int) → Option (((Arr 96 Int) × Int) ⊕ (((Arr 96 Int) × Int) ⊕ (Arr 96 Int)))
  | (a_3, i_4) => (if (decide (i_4 < (list2.length : Int))) = true then (ix list2 i_4).bind fun x_7 => (ix t1 i_4).bind fun x_12 => (impl_Frame_choices f0 x_12).bind fun t_13 => (slices_Contains_Choice t_13 x_7).bind fun t_14 => (if (!t_14) = true then impl_Frame_fit.k_9 t1 a_3 i_4 x_7 true else (ix t1 i_4).bind fun x_15 => (impl_Frame_canPut f0 a_3 x_15 x_7).bind fun t_16 => impl_Frame_fit.k_9 t1 a_3 i_4 x_7 (!t_16)) else some (.inr (.inr a_3)))
def impl_Frame_fit (f0 : GFrame) (t1 : List GNote) (list2 : List GChoice) : Option ((Arr 96 Int) × Int) := (loop (impl_Frame_fit.l_5 f0 t1 list2) ((Arr.rep 96 0), 0)).bind fun t_6 => match t_6 with | .inl p => some p | .inr p => impl_Frame_fit.k_2 list2 p
theorem impl_Frame_fit.calls (f0 : GFrame) (t1 : List GNote) (list2 : List GChoice) (w : World) (r : (Arr 96 Int) × Int) {C_a : Option Addr} {C_an : Nat} (C_c : Nat) (C_h : Rw w C_a 2 encGHammer f0.fHammers) (C_hn : f0.fHammers.length = C_an) {D_a : Option Addr} {D_an : Nat} (D_c : Nat) (D_h : Rw w D_a 2 encGNote t1) (D_hn : t1.length = D_an) {E_a : Option Addr} {E_an : Nat} (E_c : Nat) (E_h : Rw w E_a 4 encGChoice list2) (E_hn : list2.length = E_an) (h : impl_Frame_fit f0 t1 list2 = some r) :
    Calls Tryz.prog 141 #[(.agg #[(.int .i16 f0.fSteps), (.slice C_a C_an C_c)]), (.slice D_a D_an D_c), (.slice E_a E_an E_c)] w fun e w' => ∃ v, e = .returned v ∧ (v = .tuple #[(.agg (row encU32 r.1.1 []).toArray), (.int .i64 r.2)] ∧ Mem w [] [] w') := by
  subst C_hn D_hn E_hn
  rw [impl_Frame_fit] at h
  refine enter (args := [(.agg #[(.int .i16 f0.fSteps), (.slice C_a f0.fHammers.length C_c)]), (.slice D_a t1.length D_c), (.slice E_a list2.length E_c)]) Tryz.func141 rfl Tryz.ntmps141 (by kernel_rfl) (L := []) (W := []) (Mem.start w) ?_
  refine jc_seq (jc_region (tO (qa 0 (fun b_1 => jkO (tO (qa 0 (fun b_2 => jkO (qh [0] (qe (jx_then (jc_seq (jc_region (qh [0] (tO (qa 0 (fun b_3 => jkO (tO (p_sA 0 2 b_3 96 1 40 encU32 (Arr.rep 96 0) (Arr.rep 96 0) (by kernel_rfl) (by kernel_rfl) (by kernel_rfl) encU32_len encU32_cell (by kernel_rfl) (jkO (qe (jx_then (jc_seq (jc_seq (jc_region (qh [0,0,0] (qe (jx_then (jc_meet (fun (j : (Arr 96 Int)) => match j with | a_1 => impl_Frame_fit.k_2 list2 a_1 = some r) (fun (j : (Arr 96 Int)) => match j with | a_1 => [(2, [], (.slice E_a list2.length E_c)), (6, [], (.pointer (some ⟨b_2, 0, none⟩))), (7, [], (.int .i64 0)), (8, [], (.pointer (some ⟨b_3, 0, none⟩)))]) (fun (j : (Arr 96 Int)) => match j with | a_1 => [⟨some b_1, 27, [(.int .i16 f0.fSteps), (.slice C_a f0.fHammers.length C_c)]⟩, ⟨(some b_2), 40, row encU32 ((Arr.rep 96 0).1) []⟩, ⟨(some b_3), 40, row encU32 a_1.1 []⟩]) ?_ ?_))))))))))))))))))))))))))))
  ·refine jc_block ?_
   obtain ⟨t_6, ht_659, hr_602⟩ := bd h
   refine jc_loop (fun (s : (Arr 96 Int) × Int) (x : Unit) => match s, x with | ⟨a_3, i_4⟩, _ => True) (fun (s : (Arr 96 Int) × Int) (x : Unit) => match s, x with | ⟨a_3, i_4⟩, _ => [(1, [], (.slice D_a t1.length D_c)), (2, [], (.slice E_a list2.length E_c)), (3, [], (.pointer (some ⟨b_1, 0, none⟩))), (6, [], (.pointer (some ⟨b_2, 0, none⟩))), (7, [], (.int .i64 0)), (8, [], (.pointer (some ⟨b_3, 0, none⟩))), (12, [], (.slice E_a list2.length E_c)), (13, [], (.int .i64 (list2.length : Int))), (14, [], (.int .i64 i_4))]) (fun (s : (Arr 96 Int) × Int) (x : Unit) => match s, x with | ⟨a_3, i_4⟩, _ => [⟨some b_1, 27, [(.int .i16 f0.fSteps), (.slice C_a f0.fHammers.length C_c)]⟩, ⟨(some b_2), 40, row encU32 ((Arr.rep 96 0).1) []⟩, ⟨(some b_3), 40, row encU32 a_3.1 []⟩]) ht_659 () trivial (by kernel_rfl) [0, 1, 2] (by kernel_rfl) (by kernel_rfl) ?_
   rintro ⟨a_3, i_4⟩ _ y_603 _ h
   rw [impl_Frame_fit.l_5] at h
   refine jc_seq (jc_region (qh [0] (qe (jx_then (jc_seq (qi h (fun h => ?_) (fun h => ?_)))))))
   ·refine jc_skip (jx_then (jc_seq (jc_block (jc_seq (jc_region (qh [0] ?_))))))
    obtain ⟨x_7, hx_606, h⟩ := bd h
    refine tO (qx 0 E_a 4 hx_606 rfl (E_h.sp hx_606) (jkO (tO (ql 0 true (fun w hm => ((hm.xr E_h).at hx_606)) (jkO (tO (qa 0 (fun b_607 => jkO (qh [0] (tO (qs 0 [3] (jkO (qe (jx_then (jc_seq (jc_seq (jc_meet (fun (j : Bool) => match j with | q_8 => impl_Frame_fit.k_9 t1 a_3 i_4 x_7 q_8 = some y_603) (fun (j : Bool) => match j with | q_8 => [(1, [], (.slice D_a t1.length D_c)), (2, [], (.slice E_a list2.length E_c)), (3, [], (.pointer (some ⟨b_1, 0, none⟩))), (6, [], (.pointer (some ⟨b_2, 0, none⟩))), (7, [], (.int .i64 0)), (8, [], (.pointer (some ⟨b_3, 0, none⟩))), (9, [], (.int .i64 i_4)), (10, [], (.pointer (some ⟨b_607, 0, none⟩))), (12, [], (.slice E_a list2.length E_c)), (13, [], (.int .i64 (list2.length : Int))), (14, [], (.int .i64 i_4)), (37, [], (.bool q_8))]) (fun (j : Bool) => match j with | q_8 => [⟨some b_1, 27, [(.int .i16 f0.fSteps), (.slice C_a f0.fHammers.length C_c)]⟩, ⟨(some b_2), 40, row encU32 ((Arr.rep 96 0).1) []⟩, ⟨(some b_3), 40, row encU32 a_3.1 []⟩, ⟨some b_607, 104, [(.bool x_7.fAway), (.int .i8 x_7.fLate), (.int .i8 x_7.fOctave), (.int .i8 x_7.fTrack)]⟩]) ?_ ?_)))))))))))))))))
    ·refine qg [⟨some b_1, 27, [(.int .i16 f0.fSteps), (.slice C_a f0.fHammers.length C_c)]⟩, ⟨(some b_2), 40, row encU32 ((Arr.rep 96 0).1) []⟩, ⟨(some b_3), 40, row encU32 a_3.1 []⟩, ⟨some b_607, 104, [(.bool x_7.fAway), (.int .i8 x_7.fLate), (.int .i8 x_7.fOctave), (.int .i8 x_7.fTrack)]⟩] 19 (qd [⟨0, 0, 0⟩,⟨1, 0, 0⟩,⟨2, 0, 0⟩,⟨6, 3, 0⟩] 15 [0, 1, 2, 3] ?_)
     obtain ⟨x_12, hx_647, h⟩ := bd h
     refine qv 3 0 [0, 1, 2, 3] (fun w hm => idx_run (a := D_a) (len := t1.length) (s := 2) (j := i_4) (by kernel_rfl) (ix_some hx_647).1 (ltn hx_647 rfl) (D_h.sp hx_647)) (qv 4 0 [0, 1, 2, 3] (fun w hm => ld_run (b := aB D_a) (off := (aO D_a + i_4.toNat * 2)) (s := 2) (agg := true) (vs := (encGNote x_12)) (by kernel_rfl) (by kernel_rfl) (.inl rfl) ((hm.xr D_h).at hx_647)) ?_)
     obtain ⟨t_13, ht_648, h⟩ := bd h
     refine tD 5 (pc 0 (fun w hm => impl_Frame_choices.calls f0 x_12 w _ C_c (hm.xr C_h) rfl ht_648) ?_)
     rintro w v w' hm ⟨o_649, cap_650, sp_651, _, rfl, hs_652, ho_653, rfl, hm'⟩
     refine ⟨_, hm.app hm', kD [0, 1, 2, 3] ?_⟩
     clear hm hm'
     obtain ⟨t_14, ht_654, h⟩ := bd h
     refine tD 7 (pc 0 (fun w hm => slices_Contains_Choice.calls t_13 x_7 w _ cap_650 (hm.ow 4 o_649 104 t_13 sp_651 (fun e => (ho_653 e).1) encGChoice_len) rfl ht_654) ?_)
     rintro w v w' hm ⟨rfl, hm'⟩
     refine ⟨_, hm.app hm', kD [0, 1, 2, 3] ?_⟩
     clear hm hm'
     refine qd [⟨8, 0, 0⟩,⟨9, 0, 0⟩,⟨10, 0, 1⟩,⟨11, 0, 1⟩,⟨12, 0, 1⟩,⟨15, 3, 1⟩] 5 [0, 1, 2, 3] (jd_split 28 (!t_14) (by kernel_rfl) (fun hc_655 => ?_) (fun hc_655 => ?_))
     ·replace h := ifT hc_655 h
      exact qd [⟨13, 0, 3⟩,⟨14, 0, 3⟩,⟨16, 0, 3⟩,⟨17, 0, 3⟩,⟨18, 0, 4⟩] 0 [0, 1, 2, 3] (qz (qm true h [0, 1, 2, 3]))
     ·replace h := ifF hc_655 h
      obtain ⟨x_15, hx_656, h⟩ := bd h
      refine qv 13 2 [0, 1, 2, 3] (fun w hm => idx_run (a := D_a) (len := t1.length) (s := 2) (j := i_4) (by kernel_rfl) (ix_some hx_656).1 (ltn hx_656 rfl) (D_h.sp hx_656)) (qv 14 2 [0, 1, 2, 3] (fun w hm => ld_run (b := aB D_a) (off := (aO D_a + i_4.toNat * 2)) (s := 2) (agg := true) (vs := (encGNote x_15)) (by kernel_rfl) (by kernel_rfl) (.inl rfl) ((hm.xr D_h).at hx_656)) ?_)
      obtain ⟨t_16, ht_657, h⟩ := bd h
      refine tD 16 (pc 2 (fun w hm => impl_Frame_canPut.calls f0 a_3 x_15 x_7 w _ C_c (hm.xr C_h) rfl (hm.ow 2 (some b_3) 40 a_3.1 [] (fun e => nomatch e) encU32_len) ht_657) ?_)
      rintro w v w' hm ⟨rfl, hm'⟩
      refine ⟨_, hm.app hm', kD [0, 1, 2, 3] ?_⟩
      clear hm hm'
      exact qd [⟨17, 0, 2⟩,⟨18, 0, 5⟩] 0 [0, 1, 2, 3] (qz (qm (!t_16) h [0, 1, 2, 3]))
    ·rintro q_8 h
     replace h : impl_Frame_fit.k_9 t1 a_3 i_4 x_7 q_8 = some y_603 := h
     rw [impl_Frame_fit.k_9] at h
     refine jx_then (qi h (fun h => ?_) (fun h => ?_))
     ·refine jc_seq (jc_region (qh [0,0] (tO (p_sA 0 1 b_2 96 1 40 encU32 (Arr.rep 96 0) (Arr.rep 96 0) (by kernel_rfl) (by kernel_rfl) (by kernel_rfl) encU32_len encU32_cell (by kernel_rfl) (jkO (qh [0] (qe (jx_then (jc_ret (jx_thenr (jx_inr (jx_thenr (jx_leaver (.inl ((Arr.rep 96 0), i_4)) (Option.some.inj h).symm (fun e_643 => ?_))))))))))))))
      subst e_643
      refine jx_inr (jx_thenr (jx_thenr ?_))
      obtain rfl := Option.some.inj hr_602
      exact jx_retV rfl (rq_arr (b := b_2) (T' := 40) (hh := 1) (mm := 1) encU32 (Arr.rep 96 0) (by kernel_rfl) (by kernel_rfl) encU32_len (by kernel_rfl) (rq_tmp (by kernel_rfl) rq_nil)) (fun w hm => ⟨rfl, hm.pk []⟩)
     ·refine jc_skip (jx_then (qg [⟨some b_1, 27, [(.int .i16 f0.fSteps), (.slice C_a f0.fHammers.length C_c)]⟩, ⟨(some b_2), 40, row encU32 ((Arr.rep 96 0).1) []⟩, ⟨some b_607, 104, [(.bool x_7.fAway), (.int .i8 x_7.fLate), (.int .i8 x_7.fOctave), (.int .i8 x_7.fTrack)]⟩] 6 (qd [⟨0, 0, 0⟩,⟨1, 0, 0⟩,⟨4, 2, 0⟩] 3 [0, 1, 3] ?_)))
      obtain ⟨x_10, hx_645, h⟩ := bd h
      refine qv 2 0 [0, 1, 3] (fun w hm => idx_run (a := D_a) (len := t1.length) (s := 2) (j := i_4) (by kernel_rfl) (ix_some hx_645).1 (ltn hx_645 rfl) (D_h.sp hx_645)) (qv 3 0 [0, 1, 3] (fun w hm => ld_run (b := aB D_a) (off := (aO D_a + i_4.toNat * 2)) (s := 2) (agg := true) (vs := (encGNote x_10)) (by kernel_rfl) (by kernel_rfl) (.inl rfl) ((hm.xr D_h).at hx_645)) ?_)
      obtain ⟨t_11, ht_646, h⟩ := bd h
      refine tD 5 (pc 0 (fun w hm => impl_Drum_puts.calls a_3 x_10 x_7 w _ b_3 (hm.pass (N := [⟨(some b_3), 40, row encU32 a_3.1 []⟩]) [2] (by kernel_rfl) (by kernel_rfl)) ht_646) ?_)
      rintro w v w' hm ⟨rfl, hm'⟩
      refine ⟨_, hm.appW (ps := [(2, ⟨(some b_3), 40, row encU32 t_11.1 []⟩)]) (N := []) hm' (by kernel_rfl) (by kernel_rfl), kD [0, 1, 3] ?_⟩
      clear hm hm'
      exact qz (jx_inn (jx_then (jc_region (qh [0,0] (qe (qb (t_11, (w64 (i_4 + 1))) () h trivial [0, 1, 2]))))))
   ·refine jc_exit (jx_thenx (jx_leave (.inr a_3) (Option.some.inj h).symm (fun e_658 => ?_)))
    subst e_658
    exact jx_ine (qm a_3 hr_602 [0, 1, 2])
  ·rintro a_1 h
   replace h : impl_Frame_fit.k_2 list2 a_1 = some r := h
   rw [impl_Frame_fit.k_2] at h
   refine jx_then (jc_seq (jc_region (tO (p_ldA 0 2 b_3 96 1 40 encU32 a_1 (by kernel_rfl) (by kernel_rfl) (by kernel_rfl) encU32_len (by kernel_rfl) (jkO (qh [0,0] (tO (p_sA 0 1 b_2 96 1 40 encU32 (Arr.rep 96 0) a_1 (by kernel_rfl) (by kernel_rfl) (by kernel_rfl) encU32_len encU32_cell (by kernel_rfl) (jkO (qh [0] (qe (jx_then (jc_ret ?_)))))))))))))
   obtain rfl := Option.some.inj h
   exact jx_retV rfl (rq_arr (b := b_2) (T' := 40) (hh := 1) (mm := 1) encU32 a_1 (by kernel_rfl) (by kernel_rfl) encU32_len (by kernel_rfl) (rq_tmp (by kernel_rfl) rq_nil)) (fun w hm => ⟨rfl, hm.pk []⟩)
/-! ### impl.fitted -/
def impl_fitted (f0 : GFrame) (t1 : List GNote) (list2 : List GChoice) : Option ((Arr 96 Int) × Int × Int) := (impl_tuneFrameCode f0 t1 list2).bind fun t_1 => (impl_unless ((list2.length : Int) == (t1.length : Int)) 2).bind fun t_2 => (impl_firstOf ([t_1, t_2] : List Int)).bind fun t_3 => (if (t_3 != 0) = true then some ((Arr.rep 96 0), 0, t_3) else (impl_Frame_fit f0 t1 list2).bind fun t_4 => (impl_unless (t_4.2 == (t1.length : Int)) 4).bind fun t_5 => some (t_4.1, t_4.2, t_5))
theorem impl_fitted.calls (f0 : GFrame) (t1 : List GNote) (list2 : List GChoice) (w : World) (r : (Arr 96 Int) × Int × Int) {C_a : Option Addr} {C_an : Nat} (C_c : Nat) (C_h : Rw w C_a 2 encGHammer f0.fHammers) (C_hn : f0.fHammers.length = C_an) {D_a : Option Addr} {D_an : Nat} (D_c : Nat) (D_h : Rw w D_a 2 encGNote t1) (D_hn : t1.length = D_an) {E_a : Option Addr} {E_an : Nat} (E_c : Nat) (E_h : Rw w E_a 4 encGChoice list2) (E_hn : list2.length = E_an) (h : impl_fitted f0 t1 list2 = some r) :
    Calls Tryz.prog 73 #[(.agg #[(.int .i16 f0.fSteps), (.slice C_a C_an C_c)]), (.slice D_a D_an D_c), (.slice E_a E_an E_c)] w fun e w' => ∃ v, e = .returned v ∧ (v = .tuple #[(.agg (row encU32 r.1.1 []).toArray), (.int .i64 r.2.1), (.int .i64 r.2.2)] ∧ Mem w [] [] w') := by
  subst C_hn D_hn E_hn
  rw [impl_fitted] at h
  refine enter (args := [(.agg #[(.int .i16 f0.fSteps), (.slice C_a f0.fHammers.length C_c)]), (.slice D_a t1.length D_c), (.slice E_a list2.length E_c)]) Tryz.func73 rfl Tryz.ntmps73 (by kernel_rfl) (L := []) (W := []) (Mem.start w) ?_
  refine jc_seq (jc_region (tO (qa 0 (fun b_1 => jkO (tO (qa 0 (fun b_2 => jkO (qh [0,0] (qe (jx_then (jc_seq (jc_seq (jc_region (qh [0,0,0] ?_))))))))))))))
  obtain ⟨t_1, ht_8, h⟩ := bd h
  refine tO (pc 0 (fun w hm => impl_tuneFrameCode.calls f0 t1 list2 w _ C_c (hm.xr C_h) rfl D_c (hm.xr D_h) rfl E_c (hm.xr E_h) rfl ht_8) ?_)
  rintro w v w' hm ⟨rfl, hm'⟩
  refine ⟨_, hm.app hm', jkO ?_⟩
  clear hm hm'
  refine qh [0,0,0,0,0] ?_
  obtain ⟨t_2, ht_9, h⟩ := bd h
  refine tO (pc 0 (fun w hm => impl_unless.calls ((list2.length : Int) == (t1.length : Int)) 2 w _ ht_9) ?_)
  rintro w v w' hm ⟨rfl, hm'⟩
  refine ⟨_, hm.app hm', jkO ?_⟩
  clear hm hm'
  refine tO (qa 0 (fun b_10 => jkO ?_))
  obtain ⟨t_3, ht_11, h⟩ := bd h
  refine tO (pc 0 (fun w hm => impl_firstOf.calls ([t_1, t_2] : List Int) w _ 2 (hm.ow 2 (some b_10) 2 ([t_1, t_2] : List Int) [] (fun e => nomatch e) encI64_len) rfl ht_11) ?_)
  rintro w v w' hm ⟨rfl, hm'⟩
  refine ⟨_, hm.app hm', jkO ?_⟩
  clear hm hm'
  refine qh [0] (qe (jx_then (jc_seq (jc_region (qh [0,0] (qe (jx_then (qi h (fun h => ?_) (fun h => ?_)))))))))
  ·refine jc_seq (jc_region (qh [0,0] (tO (p_sA 0 1 b_2 96 1 40 encU32 (Arr.rep 96 0) (Arr.rep 96 0) (by kernel_rfl) (by kernel_rfl) (by kernel_rfl) encU32_len encU32_cell (by kernel_rfl) (jkO (qh [0,0] (qe (jx_then (jc_ret (jx_thenr ?_))))))))))
   obtain rfl := Option.some.inj h
   exact jx_retV rfl (rq_arr (b := b_2) (T' := 40) (hh := 1) (mm := 1) encU32 (Arr.rep 96 0) (by kernel_rfl) (by kernel_rfl) encU32_len (by kernel_rfl) (rq_tmp (by kernel_rfl) (rq_tmp (by kernel_rfl) rq_nil))) (fun w hm => ⟨rfl, hm.pk []⟩)
  ·refine jc_skip (jx_then (jc_seq (jc_region (qh [0,0,0] ?_))))
   obtain ⟨t_4, ht_13, h⟩ := bd h
   refine tO (pc 0 (fun w hm => impl_Frame_fit.calls f0 t1 list2 w _ C_c (hm.xr C_h) rfl D_c (hm.xr D_h) rfl E_c (hm.xr E_h) rfl ht_13) ?_)
   rintro w v w' hm ⟨rfl, hm'⟩
   refine ⟨_, hm.app hm', jkO ?_⟩
   clear hm hm'
   refine qh [0,0,0] (tO (qa 0 (fun b_14 => jkO (tO (p_sA 0 3 b_14 96 1 40 encU32 (Arr.rep 96 0) t_4.1 (by kernel_rfl) (by kernel_rfl) (by kernel_rfl) encU32_len encU32_cell (by kernel_rfl) (jkO (qh [0] (qe (jx_then (jc_seq (qg [⟨some b_1, 27, [(.int .i16 f0.fSteps), (.slice C_a f0.fHammers.length C_c)]⟩, ⟨(some b_10), 2, row encI64 ([t_1, t_2] : List Int) []⟩, ⟨(some b_14), 40, row encU32 t_4.1.1 []⟩] 10 (qd [⟨1, 0, 0⟩,⟨2, 0, 0⟩,⟨3, 0, 0⟩,⟨4, 0, 0⟩,⟨5, 0, 0⟩] 5 [0, 2, 3] (qv 0 0 [0, 2, 3] (fun w hm => ld_run (b := b_14) (off := 0) (s := 96) (agg := true) (vs := row encU32 t_4.1.1 []) (by kernel_rfl) ((row_len encU32_len t_4.1).trans rfl) (.inl rfl) (hm.all (hh := 2) (T := 40) (by kernel_rfl))) ?_)))))))))))))
   obtain ⟨t_5, ht_16, h⟩ := bd h
   refine tD 6 (pc 0 (fun w hm => impl_unless.calls (t_4.2 == (t1.length : Int)) 4 w _ ht_16) ?_)
   rintro w v w' hm ⟨rfl, hm'⟩
   refine ⟨_, hm.app hm', kD [0, 2, 3] ?_⟩
   clear hm hm'
   refine tD 7 (p_sA 0 1 b_2 96 1 40 encU32 (Arr.rep 96 0) t_4.1 (by kernel_rfl) (by kernel_rfl) (by kernel_rfl) encU32_len encU32_cell (by kernel_rfl) (kD [0, 2, 3] (qd [⟨8, 0, 0⟩,⟨9, 0, 0⟩] 0 [0, 2, 3] (qz (jx_then (jc_ret ?_))))))
   obtain rfl := Option.some.inj h
   exact jx_retV rfl (rq_arr (b := b_2) (T' := 40) (hh := 1) (mm := 1) encU32 t_4.1 (by kernel_rfl) (by kernel_rfl) encU32_len (by kernel_rfl) (rq_tmp (by kernel_rfl) (rq_tmp (by kernel_rfl) rq_nil))) (fun w hm => ⟨rfl, hm.pk []⟩)
/-! ### impl.CheckChoices -/
def impl_CheckChoices (f0 : GFrame) (t1 : List GNote) (list2 : List GChoice) : Option (Bool × Int) := (impl_fitted f0 t1 list2).bind fun t_1 => (if (t_1.2.2 == 1) = true then some (false, t_1.2.2) else some ((t_1.2.2 == 0), 0))
theorem impl_CheckChoices.calls (f0 : GFrame) (t1 : List GNote) (list2 : List GChoice) (w : World) (r : Bool × Int) {C_a : Option Addr} {C_an : Nat} (C_c : Nat) (C_h : Rw w C_a 2 encGHammer f0.fHammers) (C_hn : f0.fHammers.length = C_an) {D_a : Option Addr} {D_an : Nat} (D_c : Nat) (D_h : Rw w D_a 2 encGNote t1) (D_hn : t1.length = D_an) {E_a : Option Addr} {E_an : Nat} (E_c : Nat) (E_h : Rw w E_a 4 encGChoice list2) (E_hn : list2.length = E_an) (h : impl_CheckChoices f0 t1 list2 = some r) :
    Calls Tryz.prog 23 #[(.agg #[(.int .i16 f0.fSteps), (.slice C_a C_an C_c)]), (.slice D_a D_an D_c), (.slice E_a E_an E_c)] w fun e w' => ∃ v, e = .returned v ∧ (v = .tuple #[(.bool r.1), (.int .i64 r.2)] ∧ Mem w [] [] w') := by
  subst C_hn D_hn E_hn
  rw [impl_CheckChoices] at h
  refine enter (args := [(.agg #[(.int .i16 f0.fSteps), (.slice C_a f0.fHammers.length C_c)]), (.slice D_a t1.length D_c), (.slice E_a list2.length E_c)]) Tryz.func23 rfl Tryz.ntmps23 (by kernel_rfl) (L := []) (W := []) (Mem.start w) ?_
  refine jc_seq (jc_region (tO (qa 0 (fun b_1 => jkO (qh [0,0] (qe (jx_then (jc_seq (jc_region (qh [0,0,0] ?_))))))))))
  obtain ⟨t_1, ht_2, h⟩ := bd h
  refine tO (pc 0 (fun w hm => impl_fitted.calls f0 t1 list2 w _ C_c (hm.xr C_h) rfl D_c (hm.xr D_h) rfl E_c (hm.xr E_h) rfl ht_2) ?_)
  rintro w v w' hm ⟨rfl, hm'⟩
  refine ⟨_, hm.app hm', jkO ?_⟩
  clear hm hm'
  refine qh [0,0,0,0] (tO (qa 0 (fun b_3 => jkO (tO (p_sA 0 1 b_3 96 1 40 encU32 (Arr.rep 96 0) t_1.1 (by kernel_rfl) (by kernel_rfl) (by kernel_rfl) encU32_len encU32_cell (by kernel_rfl) (jkO (qh [0,0] (qe (jx_then (jc_seq (jc_seq (jc_region (qh [0,0] (qe (jx_then (qi h (fun h => ?_) (fun h => ?_)))))))))))))))))
  ·refine jc_seq (jc_region (qh [0,0,0] (qe (jx_then (jc_ret (jx_thenr ?_))))))
   obtain rfl := Option.some.inj h
   exact qr [] (fun w hm => ⟨rfl, hm.pk []⟩)
  ·refine jc_skip (jx_then (jc_seq (jc_region (qh [0,0,0,0] (qe (jx_then (jc_ret ?_)))))))
   obtain rfl := Option.some.inj h
   exact qr [] (fun w hm => ⟨rfl, hm.pk []⟩)
end

end Go.Proofs.YtolfkfjjifdmeaaGreat
