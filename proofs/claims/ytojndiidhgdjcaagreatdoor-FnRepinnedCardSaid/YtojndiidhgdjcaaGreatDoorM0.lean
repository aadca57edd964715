/- Functions of the program that the laws reach: a plain function each, and that the call comes to its answer if the plain function has one. Printed by a program. -/
import Derived.Test.YtojndiidhgdjcaaGreatDoorT
import Derived.Test.YtojndiidhgdjcaaGreatDoorSeg
namespace Go.Proofs.YtojndiidhgdjcaaGreatDoor
open Eng
set_option linter.unusedVariables false

set_option linter.unusedSectionVars false
set_option maxRecDepth 100000
variable [dsW : DrwS]
noncomputable section
/-! ### laws.f6big -/
def laws_f6big (code0 : List Int) : Option (Bool) := some (decide ((code0.length : Int) > 4096))
theorem laws_f6big.calls (code0 : List Int) (w : World) (r : Bool) {A_a : Option Addr} {A_an : Nat} (A_c : Nat) (A_h : Rw w A_a 1 encU8 code0) (A_hn : code0.length = A_an) (h : laws_f6big code0 = some r) :
    Calls Tryz.prog 4 #[(.slice A_a A_an A_c)] w fun e w' => ∃ v, e = .returned v ∧ (v = (.bool r) ∧ Mem w [] [] w') := by
  subst A_hn
  rw [laws_f6big] at h
  refine enter (args := [(.slice A_a code0.length A_c)]) Tryz.func4 rfl Tryz.ntmps4 (by kernel_rfl) (L := []) (W := []) (Mem.start w) ?_
  refine jc_seq (jc_region (qh [0] (qe (jx_then (jc_seq (jc_region (qh [0,0,0,0] (qe (jx_then (jc_ret ?_))))))))))
  obtain rfl := Option.some.inj h
  exact qr [] (fun w hm => ⟨rfl, hm.pk []⟩)
/-! ### spec.l00From -/
def spec_l00From (code0 : List Int) : Option (Gl00Src) := some (⟨code0, 0, 0⟩ : Gl00Src)
theorem spec_l00From.calls (code0 : List Int) (w : World) (r : Gl00Src) {A_a : Option Addr} {A_an : Nat} (A_c : Nat) (A_h : Rw w A_a 1 encU8 code0) (A_hn : code0.length = A_an) (h : spec_l00From code0 = some r) :
    Calls Tryz.prog 28 #[(.slice A_a A_an A_c)] w fun e w' => ∃ v, e = .returned v ∧ (∃ (pb0 : Nat), v = .pointer (some ⟨pb0, 0, none⟩) ∧ Mem w [] [⟨some pb0, 115, [(.slice A_a A_an A_c), (.int .i64 r.fat), (.int .u64 r.fseed)]⟩] w') := by
  subst A_hn
  rw [spec_l00From] at h
  refine enter (args := [(.slice A_a code0.length A_c)]) Tryz.func28 rfl Tryz.ntmps28 (by kernel_rfl) (L := []) (W := []) (Mem.start w) ?_
  refine jc_seq (jc_region (qh [0] (qe (jx_then (jc_seq (jc_region (qh [0,0] (tO (qa 0 (fun b_1 => jkO (qh [0] (qe (jx_then (jc_ret ?_))))))))))))))
  obtain rfl := Option.some.inj h
  exact qr [] (fun w hm => ⟨b_1, rfl, hm.pk [0]⟩)
/-! ### (*spec.l00Src).next -/
def spec_l00Src_next.k_2 (s0 : Gl00Src) (i_1 : Int) : Option (Int × Gl00Src) := (if (decide ((w64 (s0.fat + 1)) ≤ (s0.fcode.length : Int))) = true then some (i_1, (⟨s0.fcode, (w64 (s0.fat + 1)), (u64 ((u64 ((u64 (s0.fseed * 6364136223846793005)) + (u64 i_1))) + 1442695040888963407))⟩ : Gl00Src)) else some ((w64 (bAnd .u64 (bShr .u64 (u64 ((u64 ((u64 (s0.fseed * 6364136223846793005)) + (u64 i_1))) + 1442695040888963407)) 40) 255)), (⟨s0.fcode, (w64 (s0.fat + 1)), (u64 ((u64 ((u64 (s0.fseed * 6364136223846793005)) + (u64 i_1))) + 1442695040888963407))⟩ : Gl00Src)))
def spec_l00Src_next (s0 : Gl00Src) : Option (Int × Gl00Src) := (if (decide (s0.fat < (s0.fcode.length : Int))) = true then (ix s0.fcode s0.fat).bind fun x_3 => spec_l00Src_next.k_2 s0 (w64 x_3) else spec_l00Src_next.k_2 s0 0)
theorem spec_l00Src_next.calls (s0 : Gl00Src) (w : World) (r : Int × Gl00Src) {B_a : Option Addr} {B_an : Nat} (B_c : Nat) (B_h : Rw w B_a 1 encU8 s0.fcode) (B_hn : s0.fcode.length = B_an) (A_b : Nat) (hm0 : Mem w (bs [some A_b]) [⟨some A_b, 115, [(.slice B_a B_an B_c), (.int .i64 s0.fat), (.int .u64 s0.fseed)]⟩] w) (B_ha : s0.fcode ≠ [] → aB B_a ∉ bs [some A_b]) (h : spec_l00Src_next s0 = some r) :
    Calls Tryz.prog 68 #[(.pointer (some ⟨A_b, 0, none⟩))] w fun e w' => ∃ v, e = .returned v ∧ (v = (.int .i64 r.1) ∧ Mem w (bs [some A_b]) [⟨some A_b, 115, [(.slice B_a B_an B_c), (.int .i64 r.2.fat), (.int .u64 r.2.fseed)]⟩] w') := by
  subst B_hn
  rw [spec_l00Src_next] at h
  refine enter (args := [(.pointer (some ⟨A_b, 0, none⟩))]) Tryz.func68 rfl Tryz.ntmps68 (by kernel_rfl) (L := [⟨some A_b, 115, [(.slice B_a s0.fcode.length B_c), (.int .i64 s0.fat), (.int .u64 s0.fseed)]⟩]) (W := bs [some A_b]) hm0 ?_
  refine jc_seq (jc_region (qh [0] (qe (jx_then (jc_seq (jc_region (qh [0] (qe (jx_then (jc_seq (jc_meet (fun (j : Int) => match j with | i_1 => spec_l00Src_next.k_2 s0 i_1 = some r) (fun (j : Int) => match j with | i_1 => [(0, [], (.pointer (some ⟨A_b, 0, none⟩))), (2, [], (.int .i64 0)), (3, [], (.int .i64 i_1))]) (fun (j : Int) => match j with | i_1 => [⟨some A_b, 115, [(.slice B_a s0.fcode.length B_c), (.int .i64 s0.fat), (.int .u64 s0.fseed)]⟩]) ?_ ?_)))))))))))
  ·refine jc_seq (qg [⟨some A_b, 115, [(.slice B_a s0.fcode.length B_c), (.int .i64 s0.fat), (.int .u64 s0.fseed)]⟩] 10 (qd [⟨0, 0, 0⟩,⟨1, 0, 0⟩,⟨2, 0, 0⟩,⟨3, 0, 0⟩,⟨4, 0, 0⟩,⟨5, 0, 0⟩,⟨6, 0, 0⟩,⟨7, 0, 0⟩,⟨8, 0, 0⟩,⟨9, 0, 0⟩] 0 [0] (qz (jx_then (qi h (fun h => ?_) (fun h => ?_))))))
   ·refine qg [⟨some A_b, 115, [(.slice B_a s0.fcode.length B_c), (.int .i64 s0.fat), (.int .u64 s0.fseed)]⟩] 12 (qd [⟨0, 0, 0⟩,⟨1, 0, 0⟩,⟨2, 0, 0⟩,⟨3, 0, 0⟩,⟨4, 0, 0⟩,⟨5, 0, 0⟩,⟨6, 0, 0⟩,⟨7, 0, 0⟩] 4 [0] ?_)
    obtain ⟨x_3, hx_6, h⟩ := bd h
    exact qv 8 0 [0] (fun w hm => idx_run (a := B_a) (len := s0.fcode.length) (s := 1) (j := s0.fat) (by kernel_rfl) (ix_some hx_6).1 (ltn hx_6 rfl) (B_h.sp hx_6)) (qv 9 0 [0] (fun w hm => ld_run (b := aB B_a) (off := (aO B_a + s0.fat.toNat * 1)) (s := 1) (agg := false) (vs := (encU8 x_3)) (by kernel_rfl) (by kernel_rfl) (.inr rfl) ((hm.exRowW B_h B_ha).at hx_6)) (qd [⟨10, 0, 0⟩,⟨11, 0, 0⟩] 0 [0] (qz (qm (w64 x_3) h [0]))))
   ·exact jc_skip (qm 0 h [0])
  ·rintro i_1 h
   replace h : spec_l00Src_next.k_2 s0 i_1 = some r := h
   rw [spec_l00Src_next.k_2] at h
   refine jx_then (jc_seq (jc_region (qh [0,0,0,0,0,0,0] (tO (qs 0 [0] (jkO (qe (jx_then (jc_seq (jc_region (qh [0,0,0,0,0,0,0,0,0,0,0,0] (tO (qs 0 [0] (jkO (qe (jx_then (jc_seq (jc_seq (qg [⟨some A_b, 115, [(.slice B_a s0.fcode.length B_c), (.int .i64 (w64 (s0.fat + 1))), (.int .u64 (u64 ((u64 ((u64 (s0.fseed * 6364136223846793005)) + (u64 i_1))) + 1442695040888963407)))]⟩] 10 (qd [⟨0, 0, 0⟩,⟨1, 0, 0⟩,⟨2, 0, 0⟩,⟨3, 0, 0⟩,⟨4, 0, 0⟩,⟨5, 0, 0⟩,⟨6, 0, 0⟩,⟨7, 0, 0⟩,⟨8, 0, 0⟩,⟨9, 0, 0⟩] 0 [0] (qz (jx_then (qi h (fun h => ?_) (fun h => ?_))))))))))))))))))))))))
   ·refine jc_seq (jc_region (qh [0,0] (qe (jx_then (jc_ret (jx_thenr ?_))))))
    obtain rfl := Option.some.inj h
    exact qr [] (fun w hm => ⟨rfl, hm.pk [0]⟩)
   ·refine jc_skip (jx_then (jc_seq (jc_region (qh [0,0,0,0,0,0,0,0] (qe (jx_then (jc_ret ?_)))))))
    obtain rfl := Option.some.inj h
    exact qr [] (fun w hm => ⟨rfl, hm.pk [0]⟩)
/-! ### (*spec.l00Src).pick -/
def spec_l00Src_pick.k_5 (s0 : Gl00Src) (n1 : Int) (i_2 : Int) (i_3 : Int) (i_4 : Int) : Option (Int × Gl00Src) := (if n1 ≠ 0 then some ((Int.tmod i_4 n1), (⟨s0.fcode, i_2, i_3⟩ : Gl00Src)) else none)
def spec_l00Src_pick (s0 : Gl00Src) (n1 : Int) : Option (Int × Gl00Src) := (if (decide (n1 ≤ 1)) = true then some (0, s0) else (spec_l00Src_next s0).bind fun t_1 => (if (decide (n1 > 200)) = true then (spec_l00Src_next (⟨s0.fcode, t_1.2.fat, t_1.2.fseed⟩ : Gl00Src)).bind fun t_6 => spec_l00Src_pick.k_5 s0 n1 t_6.2.fat t_6.2.fseed (w64 ((w64 (t_1.1 * 256)) + t_6.1)) else spec_l00Src_pick.k_5 s0 n1 t_1.2.fat t_1.2.fseed t_1.1))
theorem spec_l00Src_pick.calls (s0 : Gl00Src) (n1 : Int) (w : World) (r : Int × Gl00Src) {B_a : Option Addr} {B_an : Nat} (B_c : Nat) (B_h : Rw w B_a 1 encU8 s0.fcode) (B_hn : s0.fcode.length = B_an) (A_b : Nat) (hm0 : Mem w (bs [some A_b]) [⟨some A_b, 115, [(.slice B_a B_an B_c), (.int .i64 s0.fat), (.int .u64 s0.fseed)]⟩] w) (B_ha : s0.fcode ≠ [] → aB B_a ∉ bs [some A_b]) (h : spec_l00Src_pick s0 n1 = some r) :
    Calls Tryz.prog 29 #[(.pointer (some ⟨A_b, 0, none⟩)), (.int .i64 n1)] w fun e w' => ∃ v, e = .returned v ∧ (v = (.int .i64 r.1) ∧ Mem w (bs [some A_b]) [⟨some A_b, 115, [(.slice B_a B_an B_c), (.int .i64 r.2.fat), (.int .u64 r.2.fseed)]⟩] w') := by
  subst B_hn
  rw [spec_l00Src_pick] at h
  refine enter (args := [(.pointer (some ⟨A_b, 0, none⟩)), (.int .i64 n1)]) Tryz.func29 rfl Tryz.ntmps29 (by kernel_rfl) (L := [⟨some A_b, 115, [(.slice B_a s0.fcode.length B_c), (.int .i64 s0.fat), (.int .u64 s0.fseed)]⟩]) (W := bs [some A_b]) hm0 ?_
  refine jc_seq (jc_region (qh [0] (qe (jx_then (jc_seq (jc_seq (jc_region (qh [0,0] (qe (jx_then (qi h (fun h => ?_) (fun h => ?_))))))))))))
  ·refine jc_seq (jc_region (qh [0] (qe (jx_then (jc_ret (jx_thenr ?_))))))
   obtain rfl := Option.some.inj h
   exact qr [] (fun w hm => ⟨rfl, hm.pk [0]⟩)
  ·refine jc_skip (jx_then (jc_seq (jc_region (qh [0] ?_))))
   obtain ⟨t_1, ht_3, h⟩ := bd h
   refine tO (pc 0 (fun w hm => spec_l00Src_next.calls s0 w _ B_c (hm.exRowW B_h B_ha) rfl A_b (hm.pass (N := [⟨some A_b, 115, [(.slice B_a s0.fcode.length B_c), (.int .i64 s0.fat), (.int .u64 s0.fseed)]⟩]) [0] (by kernel_rfl) (by kernel_rfl)) (hm.exApart (N := [⟨some A_b, 115, [(.slice B_a s0.fcode.length B_c), (.int .i64 s0.fat), (.int .u64 s0.fseed)]⟩]) B_h B_ha [0] (by kernel_rfl)) ht_3) ?_)
   rintro w v w' hm ⟨rfl, hm'⟩
   refine ⟨_, hm.appW (ps := [(0, ⟨some A_b, 115, [(.slice B_a s0.fcode.length B_c), (.int .i64 t_1.2.fat), (.int .u64 t_1.2.fseed)]⟩)]) (N := []) hm' (by kernel_rfl) (by kernel_rfl), jkO ?_⟩
   clear hm hm'
   refine qh [0] (qe (jx_then (jc_seq (jc_meet (fun (j : Int × Int × Int) => match j with | ⟨i_2, i_3, i_4⟩ => spec_l00Src_pick.k_5 s0 n1 i_2 i_3 i_4 = some r) (fun (j : Int × Int × Int) => match j with | ⟨i_2, i_3, i_4⟩ => [(1, [], (.int .i64 n1)), (4, [], (.int .i64 0)), (5, [], (.int .i64 i_4))]) (fun (j : Int × Int × Int) => match j with | ⟨i_2, i_3, i_4⟩ => [⟨some A_b, 115, [(.slice B_a s0.fcode.length B_c), (.int .i64 i_2), (.int .u64 i_3)]⟩]) ?_ ?_))))
   ·refine jc_seq (jc_region (qh [0,0] (qe (jx_then (qi h (fun h => ?_) (fun h => ?_))))))
    ·refine jc_region (qh [0,0,0] ?_)
     obtain ⟨t_6, ht_8, h⟩ := bd h
     refine tO (pc 0 (fun w hm => spec_l00Src_next.calls (⟨s0.fcode, t_1.2.fat, t_1.2.fseed⟩ : Gl00Src) w _ B_c (hm.exRowW B_h B_ha) rfl A_b (hm.pass (N := [⟨some A_b, 115, [(.slice B_a s0.fcode.length B_c), (.int .i64 t_1.2.fat), (.int .u64 t_1.2.fseed)]⟩]) [0] (by kernel_rfl) (by kernel_rfl)) (hm.exApart (N := [⟨some A_b, 115, [(.slice B_a s0.fcode.length B_c), (.int .i64 t_1.2.fat), (.int .u64 t_1.2.fseed)]⟩]) B_h B_ha [0] (by kernel_rfl)) ht_8) ?_)
     rintro w v w' hm ⟨rfl, hm'⟩
     refine ⟨_, hm.appW (ps := [(0, ⟨some A_b, 115, [(.slice B_a s0.fcode.length B_c), (.int .i64 t_6.2.fat), (.int .u64 t_6.2.fseed)]⟩)]) (N := []) hm' (by kernel_rfl) (by kernel_rfl), jkO ?_⟩
     clear hm hm'
     exact qh [0,0] (qe (qm ⟨t_6.2.fat, t_6.2.fseed, (w64 ((w64 (t_1.1 * 256)) + t_6.1))⟩ h [0]))
    ·exact jc_skip (qm ⟨t_1.2.fat, t_1.2.fseed, t_1.1⟩ h [0])
   ·rintro ⟨i_2, i_3, i_4⟩ h
    replace h : spec_l00Src_pick.k_5 s0 n1 i_2 i_3 i_4 = some r := h
    rw [spec_l00Src_pick.k_5] at h
    refine jx_then (jc_seq (jc_region (qh [0,0] ?_)))
    obtain ⟨hg_6, h⟩ := gd h
    refine tO (p_rem 0 .i64 i_4 n1 (by kernel_rfl) (by kernel_rfl) hg_6 (jkO (qh [0] (qe (jx_then (jc_ret ?_))))))
    obtain rfl := Option.some.inj h
    exact qr [] (fun w hm => ⟨rfl, hm.pk [0]⟩)
/-! ### spec.l02FrameDrawn -/
def spec_l02FrameDrawn.k_6 (s0 : Gl00Src) (t_1 : Int × Gl00Src) (i_3 : Int) (i_4 : Int) (xs_5 : List GHammer) : Option (GFrame × Gl00Src) := some ((⟨(w16 (w64 (4 + t_1.1))), xs_5⟩ : GFrame), (⟨s0.fcode, i_3, i_4⟩ : Gl00Src))
def spec_l02FrameDrawn.l_11 (s0 : Gl00Src) : (Int × Int × (List GHammer) × Int) → Option ((Int × Int × (List GHammer) × Int) ⊕ ((Int × Int × (List GHammer))))
  | (i_7, i_8, xs_9, i_10) => (if (decide (i_10 > 0)) = true then (spec_l00Src_pick (⟨s0.fcode, i_7, i_8⟩ : Gl00Src) 4).bind fun t_13 => (spec_l00Src_pick (⟨s0.fcode, t_13.2.fat, t_13.2.fseed⟩ : Gl00Src) 4).bind fun t_14 => (if xs_9.length + ([(⟨(w8 (w64 (22 + t_13.1))), (w8 (w64 (1 + t_14.1)))⟩ : GHammer)] : List GHammer).length ≤ 4294967296 then some (.inl (t_14.2.fat, t_14.2.fseed, (xs_9 ++ ([(⟨(w8 (w64 (22 + t_13.1))), (w8 (w64 (1 + t_14.1)))⟩ : GHammer)] : List GHammer)), (w64 (i_10 - 1)))) else none) else some (.inr (i_7, i_8, xs_9)))
def spec_l02FrameDrawn (s0 : Gl00Src) : Option (GFrame × Gl00Src) := (spec_l00Src_pick s0 14).bind fun t_1 => (spec_l00Src_pick (⟨s0.fcode, t_1.2.fat, t_1.2.fseed⟩ : Gl00Src) 5).bind fun t_2 => (loop (spec_l02FrameDrawn.l_11 s0) (t_2.2.fat, t_2.2.fseed, [], (w64 (1 + t_2.1)))).bind fun t_12 => spec_l02FrameDrawn.k_6 s0 t_1 t_12.1 t_12.2.1 t_12.2.2
theorem spec_l02FrameDrawn.calls (s0 : Gl00Src) (w : World) (r : GFrame × Gl00Src) {B_a : Option Addr} {B_an : Nat} (B_c : Nat) (B_h : Rw w B_a 1 encU8 s0.fcode) (B_hn : s0.fcode.length = B_an) (A_b : Nat) (hm0 : Mem w (bs [some A_b]) [⟨some A_b, 115, [(.slice B_a B_an B_c), (.int .i64 s0.fat), (.int .u64 s0.fseed)]⟩] w) (B_ha : s0.fcode ≠ [] → aB B_a ∉ bs [some A_b]) (h : spec_l02FrameDrawn s0 = some r) :
    Calls Tryz.prog 27 #[(.pointer (some ⟨A_b, 0, none⟩))] w fun e w' => ∃ v, e = .returned v ∧ (∃ (o0 : Option Nat) (c0 : Nat) (s0 : List Value) (n0 : Nat), r.1.fHammers.length = n0 ∧ (o0 ≠ none → n0 ≤ c0 ∧ s0.length = (c0 - n0) * 2) ∧ (o0 = none → r.1.fHammers = [] ∧ c0 = 0) ∧ v = .agg #[(.int .i16 r.1.fSteps), .slice (o0.map fun b => ⟨b, 0, none⟩) n0 c0] ∧ Mem w (bs [some A_b]) [⟨some A_b, 115, [(.slice B_a B_an B_c), (.int .i64 r.2.fat), (.int .u64 r.2.fseed)]⟩, ⟨o0, 66, row encGHammer r.1.fHammers s0⟩] w') := by
  subst B_hn
  rw [spec_l02FrameDrawn] at h
  refine enter (args := [(.pointer (some ⟨A_b, 0, none⟩))]) Tryz.func27 rfl Tryz.ntmps27 (by kernel_rfl) (L := [⟨some A_b, 115, [(.slice B_a s0.fcode.length B_c), (.int .i64 s0.fat), (.int .u64 s0.fseed)]⟩]) (W := bs [some A_b]) hm0 ?_
  refine jc_seq (jc_region (tO (qa 0 (fun b_1 => jkO (qe (jx_then (jc_seq (jc_region (qh [0] ?_)))))))))
  obtain ⟨t_1, ht_2, h⟩ := bd h
  refine tO (pc 0 (fun w hm => spec_l00Src_pick.calls s0 14 w _ B_c (hm.exRowW B_h B_ha) rfl A_b (hm.pass (N := [⟨some A_b, 115, [(.slice B_a s0.fcode.length B_c), (.int .i64 s0.fat), (.int .u64 s0.fseed)]⟩]) [0] (by kernel_rfl) (by kernel_rfl)) (hm.exApart (N := [⟨some A_b, 115, [(.slice B_a s0.fcode.length B_c), (.int .i64 s0.fat), (.int .u64 s0.fseed)]⟩]) B_h B_ha [0] (by kernel_rfl)) ht_2) ?_)
  rintro w v w' hm ⟨rfl, hm'⟩
  refine ⟨_, hm.appW (ps := [(0, ⟨some A_b, 115, [(.slice B_a s0.fcode.length B_c), (.int .i64 t_1.2.fat), (.int .u64 t_1.2.fseed)]⟩)]) (N := []) hm' (by kernel_rfl) (by kernel_rfl), jkO ?_⟩
  clear hm hm'
  refine qh [0,0,0] (tO (qa 0 (fun b_3 => jkO (tO (qs 0 [2] (jkO (qe (jx_then (jc_seq (jc_seq (jc_region (qh [0] ?_))))))))))))
  obtain ⟨t_2, ht_115, h⟩ := bd h
  refine tO (pc 0 (fun w hm => spec_l00Src_pick.calls (⟨s0.fcode, t_1.2.fat, t_1.2.fseed⟩ : Gl00Src) 5 w _ B_c (hm.exRowW B_h B_ha) rfl A_b (hm.pass (N := [⟨some A_b, 115, [(.slice B_a s0.fcode.length B_c), (.int .i64 t_1.2.fat), (.int .u64 t_1.2.fseed)]⟩]) [0] (by kernel_rfl) (by kernel_rfl)) (hm.exApart (N := [⟨some A_b, 115, [(.slice B_a s0.fcode.length B_c), (.int .i64 t_1.2.fat), (.int .u64 t_1.2.fseed)]⟩]) B_h B_ha [0] (by kernel_rfl)) ht_115) ?_)
  rintro w v w' hm ⟨rfl, hm'⟩
  refine ⟨_, hm.appW (ps := [(0, ⟨some A_b, 115, [(.slice B_a s0.fcode.length B_c), (.int .i64 t_2.2.fat), (.int .u64 t_2.2.fseed)]⟩)]) (N := []) hm' (by kernel_rfl) (by kernel_rfl), jkO ?_⟩
  clear hm hm'
  refine qh [0,0] (qe (jx_then (jc_meet (fun (j : Int × Int × (List GHammer) × (Option Nat) × Nat × (List Value) × Nat) => match j with | ⟨i_3, i_4, xs_5, o_168, cap_169, sp_170, n_171⟩ => spec_l02FrameDrawn.k_6 s0 t_1 i_3 i_4 xs_5 = some r ∧ (xs_5.length = n_171) ∧ ((o_168 ≠ none → n_171 ≤ cap_169 ∧ sp_170.length = (cap_169 - n_171) * 2)) ∧ ((o_168 = none → xs_5 = [] ∧ cap_169 = 0))) (fun (j : Int × Int × (List GHammer) × (Option Nat) × Nat × (List Value) × Nat) => match j with | ⟨i_3, i_4, xs_5, o_168, cap_169, sp_170, n_171⟩ => [(2, [], (.pointer (some ⟨b_1, 0, none⟩))), (3, [], (.pointer (some ⟨b_3, 0, none⟩)))]) (fun (j : Int × Int × (List GHammer) × (Option Nat) × Nat × (List Value) × Nat) => match j with | ⟨i_3, i_4, xs_5, o_168, cap_169, sp_170, n_171⟩ => [⟨some A_b, 115, [(.slice B_a s0.fcode.length B_c), (.int .i64 i_3), (.int .u64 i_4)]⟩, ⟨some b_1, 27, [(.int .i16 0), (.slice none 0 0)]⟩, ⟨some b_3, 27, [(.int .i16 (w16 (w64 (4 + t_1.1)))), (.slice (o_168.map fun b => ⟨b, 0, none⟩) n_171 cap_169)]⟩, ⟨o_168, 66, row encGHammer xs_5 sp_170⟩]) ?_ ?_)))
  ·refine jc_block ?_
   obtain ⟨t_12, ht_225, hr_210⟩ := bd h
   refine jc_ghost 66 encGHammer (jc_loop (fun (s : Int × Int × (List GHammer) × Int) (x : (Option Nat) × Nat × (List Value) × Nat) => match s, x with | ⟨i_7, i_8, xs_9, i_10⟩, ⟨o_204, cap_205, sp_206, n_207⟩ => (xs_9.length = n_207) ∧ ((o_204 ≠ none → n_207 ≤ cap_205 ∧ sp_206.length = (cap_205 - n_207) * 2)) ∧ ((o_204 = none → xs_9 = [] ∧ cap_205 = 0))) (fun (s : Int × Int × (List GHammer) × Int) (x : (Option Nat) × Nat × (List Value) × Nat) => match s, x with | ⟨i_7, i_8, xs_9, i_10⟩, ⟨o_204, cap_205, sp_206, n_207⟩ => [(0, [], (.pointer (some ⟨A_b, 0, none⟩))), (2, [], (.pointer (some ⟨b_1, 0, none⟩))), (3, [], (.pointer (some ⟨b_3, 0, none⟩))), (4, [], (.int .i64 i_10))]) (fun (s : Int × Int × (List GHammer) × Int) (x : (Option Nat) × Nat × (List Value) × Nat) => match s, x with | ⟨i_7, i_8, xs_9, i_10⟩, ⟨o_204, cap_205, sp_206, n_207⟩ => [⟨some A_b, 115, [(.slice B_a s0.fcode.length B_c), (.int .i64 i_7), (.int .u64 i_8)]⟩, ⟨some b_1, 27, [(.int .i16 0), (.slice none 0 0)]⟩, ⟨some b_3, 27, [(.int .i16 (w16 (w64 (4 + t_1.1)))), (.slice (o_204.map fun b => ⟨b, 0, none⟩) n_207 cap_205)]⟩, ⟨o_204, 66, row encGHammer xs_9 sp_206⟩]) ht_225 ⟨none, 0, [], 0⟩ ⟨rfl, (fun e => absurd rfl e), (fun _ => ⟨rfl, rfl⟩)⟩ (by kernel_rfl) [0, 1, 2, 3] (by kernel_rfl) (by kernel_rfl) ?_)
   rintro ⟨i_7, i_8, xs_9, i_10⟩ ⟨o_204, cap_205, sp_206, n_207⟩ y_211 ⟨rfl, hs_208, ho_209⟩ h
   rw [spec_l02FrameDrawn.l_11] at h
   refine jc_seq (jc_seq (jc_region (qh [0,0] (qe (jx_then (qi h (fun h => ?_) (fun h => ?_)))))))
   ·refine jc_skip (jx_then (jc_seq (jc_block (jc_seq (jc_region (qh [0] ?_))))))
    obtain ⟨t_13, ht_214, h⟩ := bd h
    refine tO (pc 0 (fun w hm => spec_l00Src_pick.calls (⟨s0.fcode, i_7, i_8⟩ : Gl00Src) 4 w _ B_c (hm.exRowW B_h B_ha) rfl A_b (hm.pass (N := [⟨some A_b, 115, [(.slice B_a s0.fcode.length B_c), (.int .i64 i_7), (.int .u64 i_8)]⟩]) [0] (by kernel_rfl) (by kernel_rfl)) (hm.exApart (N := [⟨some A_b, 115, [(.slice B_a s0.fcode.length B_c), (.int .i64 i_7), (.int .u64 i_8)]⟩]) B_h B_ha [0] (by kernel_rfl)) ht_214) ?_)
    rintro w v w' hm ⟨rfl, hm'⟩
    refine ⟨_, hm.appW (ps := [(0, ⟨some A_b, 115, [(.slice B_a s0.fcode.length B_c), (.int .i64 t_13.2.fat), (.int .u64 t_13.2.fseed)]⟩)]) (N := []) hm' (by kernel_rfl) (by kernel_rfl), jkO ?_⟩
    clear hm hm'
    refine qh [0,0,0] (tO (qa 0 (fun b_215 => jkO (tO (qs 0 [4] (jkO (qe (jx_then (jc_seq (jc_region (qh [0] ?_)))))))))))
    obtain ⟨t_14, ht_216, h⟩ := bd h
    refine tO (pc 0 (fun w hm => spec_l00Src_pick.calls (⟨s0.fcode, t_13.2.fat, t_13.2.fseed⟩ : Gl00Src) 4 w _ B_c (hm.exRowW B_h B_ha) rfl A_b (hm.pass (N := [⟨some A_b, 115, [(.slice B_a s0.fcode.length B_c), (.int .i64 t_13.2.fat), (.int .u64 t_13.2.fseed)]⟩]) [0] (by kernel_rfl) (by kernel_rfl)) (hm.exApart (N := [⟨some A_b, 115, [(.slice B_a s0.fcode.length B_c), (.int .i64 t_13.2.fat), (.int .u64 t_13.2.fseed)]⟩]) B_h B_ha [0] (by kernel_rfl)) ht_216) ?_)
    rintro w v w' hm ⟨rfl, hm'⟩
    refine ⟨_, hm.appW (ps := [(0, ⟨some A_b, 115, [(.slice B_a s0.fcode.length B_c), (.int .i64 t_14.2.fat), (.int .u64 t_14.2.fseed)]⟩)]) (N := []) hm' (by kernel_rfl) (by kernel_rfl), jkO ?_⟩
    clear hm hm'
    refine qh [0,0,0] (tO (qs 0 [4] (jkO (qe (jx_then (jc_region (qh [0,2,4] (tO (qa 0 (fun b_217 => jkO ?_))))))))))
    obtain ⟨hg_218, h⟩ := gd h
    exact tO (p_apn 0 3 o_204 66 xs_9.length 1 cap_205 2 2 (some ⟨b_217, 0, none⟩) encGHammer xs_9 ([(⟨(w8 (w64 (22 + t_13.1))), (w8 (w64 (1 + t_14.1)))⟩ : GHammer)] : List GHammer) sp_206 (.agg #[(.int .i8 0), (.int .i8 0)]) rfl rfl (by kernel_rfl) (by kernel_rfl) (by kernel_rfl) encGHammer_len encGHammer_cell hs_208 ho_209 (fun w hm => (hm.ow 5 (some b_217) 66 ([(⟨(w8 (w64 (22 + t_13.1))), (w8 (w64 (1 + t_14.1)))⟩ : GHammer)] : List GHammer) [] (fun e => nomatch e) encGHammer_len)) hg_218 (by kernel_rfl) (by kernel_rfl) (fun o_219 cap_220 sp_221 hs_222 ho_223 => jkO (qh [0] (tO (qs 0 [2] (jkO (qe (jx_inn (jx_then (jc_region (qh [0,0,0] (qe (qb (t_14.2.fat, t_14.2.fseed, (xs_9 ++ ([(⟨(w8 (w64 (22 + t_13.1))), (w8 (w64 (1 + t_14.1)))⟩ : GHammer)] : List GHammer)), (w64 (i_10 - 1))) ⟨o_219, cap_220, sp_221, (xs_9 ++ ([(⟨(w8 (w64 (22 + t_13.1))), (w8 (w64 (1 + t_14.1)))⟩ : GHammer)] : List GHammer)).length⟩ h ⟨rfl, hs_222, ho_223⟩ [0, 1, 2, 3])))))))))))))
   ·refine jc_exit (jx_thenx (jx_leave (i_7, i_8, xs_9) (Option.some.inj h).symm (fun e_224 => ?_)))
    subst e_224
    exact jx_ine (qm ⟨i_7, i_8, xs_9, o_204, cap_205, sp_206, xs_9.length⟩ ⟨hr_210, rfl, hs_208, ho_209⟩ [0, 1, 2, 3])
  ·rintro ⟨i_3, i_4, xs_5, o_168, cap_169, sp_170, n_171⟩ ⟨h, rfl, hs_172, ho_173⟩
   replace h : spec_l02FrameDrawn.k_6 s0 t_1 i_3 i_4 xs_5 = some r := h
   rw [spec_l02FrameDrawn.k_6] at h
   refine jx_then (jc_seq (jc_region (qh [2] (tO (qs 0 [1] (jkO (qe (jx_then (jc_ret ?_)))))))))
   obtain rfl := Option.some.inj h
   exact qr [1] (fun w hm => ⟨o_168, cap_169, sp_170, xs_5.length, rfl, hs_172, ho_173, rfl, hm.pk [0, 3]⟩)
/-! ### spec.P6Frame -/
def spec_P6Frame (code0 : List Int) : Option (GFrame) := (spec_l00From code0).bind fun t_1 => (spec_l02FrameDrawn (⟨code0, t_1.fat, t_1.fseed⟩ : Gl00Src)).bind fun t_2 => some t_2.1
theorem spec_P6Frame.calls (code0 : List Int) (w : World) (r : GFrame) {A_a : Option Addr} {A_an : Nat} (A_c : Nat) (A_h : Rw w A_a 1 encU8 code0) (A_hn : code0.length = A_an) (h : spec_P6Frame code0 = some r) :
    Calls Tryz.prog 5 #[(.slice A_a A_an A_c)] w fun e w' => ∃ v, e = .returned v ∧ (∃ (o0 : Option Nat) (c0 : Nat) (s0 : List Value) (n0 : Nat), r.fHammers.length = n0 ∧ (o0 ≠ none → n0 ≤ c0 ∧ s0.length = (c0 - n0) * 2) ∧ (o0 = none → r.fHammers = [] ∧ c0 = 0) ∧ v = .agg #[(.int .i16 r.fSteps), .slice (o0.map fun b => ⟨b, 0, none⟩) n0 c0] ∧ Mem w [] [⟨o0, 66, row encGHammer r.fHammers s0⟩] w') := by
  subst A_hn
  rw [spec_P6Frame] at h
  refine enter (args := [(.slice A_a code0.length A_c)]) Tryz.func5 rfl Tryz.ntmps5 (by kernel_rfl) (L := []) (W := []) (Mem.start w) ?_
  refine jc_seq (jc_region (tO (qa 0 (fun b_1 => jkO (qe (jx_then (jc_seq (jc_region (qh [0] ?_)))))))))
  obtain ⟨t_1, ht_2, h⟩ := bd h
  refine tO (pc 0 (fun w hm => spec_l00From.calls code0 w _ A_c (hm.xr A_h) rfl ht_2) ?_)
  rintro w v w' hm ⟨b_3, rfl, hm'⟩
  refine ⟨_, hm.app hm', jkO ?_⟩
  clear hm hm'
  obtain ⟨t_2, ht_4, h⟩ := bd h
  refine tO (pc 0 (fun w hm => spec_l02FrameDrawn.calls (⟨code0, t_1.fat, t_1.fseed⟩ : Gl00Src) w _ A_c (hm.xr A_h) rfl b_3 (hm.pass (N := [⟨some b_3, 115, [(.slice A_a code0.length A_c), (.int .i64 t_1.fat), (.int .u64 t_1.fseed)]⟩]) [1] (by kernel_rfl) (by kernel_rfl)) (hm.exApart (N := [⟨some b_3, 115, [(.slice A_a code0.length A_c), (.int .i64 t_1.fat), (.int .u64 t_1.fseed)]⟩]) A_h (fun _ => List.not_mem_nil) [1] (by kernel_rfl)) ht_4) ?_)
  rintro w v w' hm ⟨o_5, cap_6, sp_7, _, rfl, hs_8, ho_9, rfl, hm'⟩
  refine ⟨_, hm.appW (ps := [(1, ⟨some b_3, 115, [(.slice A_a code0.length A_c), (.int .i64 t_2.2.fat), (.int .u64 t_2.2.fseed)]⟩)]) (N := [⟨o_5, 66, row encGHammer t_2.1.fHammers sp_7⟩]) hm' (by kernel_rfl) (by kernel_rfl), jkO ?_⟩
  clear hm hm'
  refine tO (qs 0 [0] (jkO (qe (jx_then (jc_ret ?_)))))
  obtain rfl := Option.some.inj h
  exact qr [0] (fun w hm => ⟨o_5, cap_6, sp_7, t_2.1.fHammers.length, rfl, hs_8, ho_9, rfl, hm.pk [2]⟩)
/-! ### spec.l01Before -/
def spec_l01Before (a0 : GNote) (b1 : GNote) : Option (Bool) := (if (decide (a0.fAt < b1.fAt)) = true then some true else some ((a0.fAt == b1.fAt) && (decide (a0.fPitch < b1.fPitch))))
theorem spec_l01Before.calls (a0 : GNote) (b1 : GNote) (w : World) (r : Bool) (h : spec_l01Before a0 b1 = some r) :
    Calls Tryz.prog 69 #[(.agg #[(.int .i16 a0.fAt), (.int .i8 a0.fPitch)]), (.agg #[(.int .i16 b1.fAt), (.int .i8 b1.fPitch)])] w fun e w' => ∃ v, e = .returned v ∧ (v = (.bool r) ∧ Mem w [] [] w') := by
  rw [spec_l01Before] at h
  refine enter (args := [(.agg #[(.int .i16 a0.fAt), (.int .i8 a0.fPitch)]), (.agg #[(.int .i16 b1.fAt), (.int .i8 b1.fPitch)])]) Tryz.func69 rfl Tryz.ntmps69 (by kernel_rfl) (L := []) (W := []) (Mem.start w) ?_
  refine jc_seq (jc_region (tO (qa 0 (fun b_1 => jkO (tO (qa 0 (fun b_2 => jkO (qh [0] (qe (jx_then (jc_seq (jc_region (qf [(0, 0), (0, 0), (0, 0), (1, 0), (0, 0), (0, 0), (0, 1), (0, 1), (0, 1), (1, 1), (0, 1)] (qp 10 h (fun h => ?_) (fun h => ?_)))))))))))))))
  ·refine qf [(0, 3), (0, 3), (0, 3), (0, 3), (0, 3), (0, 3), (0, 3), (0, 4), (0, 0)] (qe (jx_then (jc_ret ?_)))
   obtain rfl := Option.some.inj h
   exact qr [] (fun w hm => ⟨rfl, hm.pk []⟩)
  ·refine qf [(0, 2), (0, 1), (0, 1), (0, 1), (1, 1), (0, 1), (0, 2), (0, 5), (0, 0)] (qe (jx_then (jc_ret ?_)))
   obtain rfl := Option.some.inj h
   exact qr [] (fun w hm => ⟨rfl, hm.pk []⟩)
/-! ### spec.l01Sorted -/
def spec_l01Sorted.k_2 (xs_1 : List GNote) : Option ((List GNote)) := some xs_1
def spec_l01Sorted.k_9 (list0 : List GNote) (xs_3 : List GNote) (i_4 : Int) (i_7 : Int) : Option (((List GNote) × Int) ⊕ ((List GNote))) := (if 0 ≤ i_7 ∧ i_7 ≤ (xs_3.length : Int) then (if ([] : List GNote).length + (xs_3.drop i_7.toNat).length ≤ 4294967296 then (if 0 ≤ i_7 ∧ i_7 ≤ (xs_3.length : Int) then (ix list0 i_4).bind fun x_10 => (if i_7.toNat + ([x_10] : List GNote).length ≤ 4294967296 then (if (xs_3.take i_7.toNat ++ ([x_10] : List GNote)).length + (([] : List GNote) ++ (xs_3.drop i_7.toNat)).length ≤ 4294967296 then some (.inl (((xs_3.take i_7.toNat ++ ([x_10] : List GNote)) ++ (([] : List GNote) ++ (xs_3.drop i_7.toNat))), (w64 (i_4 + 1)))) else none) else none) else none) else none) else none)
def spec_l01Sorted.k_8 (list0 : List GNote) (xs_3 : List GNote) (i_4 : Int) (i_7 : Int) : Option (((List GNote) × Int) ⊕ ((List GNote))) := (if (decide (i_7 < (xs_3.length : Int))) = true then (ix xs_3 i_7).bind fun x_11 => (ix list0 i_4).bind fun x_12 => (if ((x_11.fAt == x_12.fAt) && (x_11.fPitch == x_12.fPitch)) = true then some (.inl (xs_3, (w64 (i_4 + 1)))) else spec_l01Sorted.k_9 list0 xs_3 i_4 i_7) else spec_l01Sorted.k_9 list0 xs_3 i_4 i_7)
def spec_l01Sorted.l_14 (list0 : List GNote) (xs_3 : List GNote) (i_4 : Int) : Int → Option ((Int) ⊕ (Int))
  | i_13 => (if (decide (i_13 < (xs_3.length : Int))) = true then (ix xs_3 i_13).bind fun x_16 => (ix list0 i_4).bind fun x_17 => (spec_l01Before x_16 x_17).bind fun t_18 => (if t_18 = true then some (.inl (w64 (i_13 + 1))) else some (.inr i_13)) else some (.inr i_13))
def spec_l01Sorted.l_5 (list0 : List GNote) : ((List GNote) × Int) → Option (((List GNote) × Int) ⊕ ((List GNote)))
  | (xs_3, i_4) => (if (decide (i_4 < (list0.length : Int))) = true then (loop (spec_l01Sorted.l_14 list0 xs_3 i_4) 0).bind fun t_15 => spec_l01Sorted.k_8 list0 xs_3 i_4 t_15 else some (.inr xs_3))
def spec_l01Sorted (list0 : List GNote) : Option ((List GNote)) := (loop (spec_l01Sorted.l_5 list0) (([] : List GNote), 0)).bind fun t_6 => spec_l01Sorted.k_2 t_6
theorem spec_l01Sorted.calls (list0 : List GNote) (w : World) (r : (List GNote)) {A_a : Option Addr} {A_an : Nat} (A_c : Nat) (A_h : Rw w A_a 2 encGNote list0) (A_hn : list0.length = A_an) (h : spec_l01Sorted list0 = some r) :
    Calls Tryz.prog 30 #[(.slice A_a A_an A_c)] w fun e w' => ∃ v, e = .returned v ∧ (∃ (o0 : Option Nat) (c0 : Nat) (s0 : List Value) (n0 : Nat), r.length = n0 ∧ (o0 ≠ none → n0 ≤ c0 ∧ s0.length = (c0 - n0) * 2) ∧ (o0 = none → r = [] ∧ c0 = 0) ∧ v = .slice (o0.map fun b => ⟨b, 0, none⟩) n0 c0 ∧ Mem w [] [⟨o0, 68, row encGNote r s0⟩] w') := by
  subst A_hn
  rw [spec_l01Sorted] at h
  refine enter (args := [(.slice A_a list0.length A_c)]) Tryz.func30 rfl Tryz.ntmps30 (by kernel_rfl) (L := []) (W := []) (Mem.start w) ?_
  refine jc_seq (jc_region (qh [0] (qe (jx_then (jc_seq (jc_region (tO (qa 0 (fun b_1 => jkO (qh [0] (qe (jx_then (jc_seq (jc_seq (jc_region (qh [0] (qe (jx_then (jc_meet (fun (j : (List GNote) × (Option Nat) × Nat × (List Value) × Nat) => match j with | ⟨xs_1, o_1136, cap_1137, sp_1138, n_1139⟩ => spec_l01Sorted.k_2 xs_1 = some r ∧ (xs_1.length = n_1139) ∧ ((o_1136 ≠ none → n_1139 ≤ cap_1137 ∧ sp_1138.length = (cap_1137 - n_1139) * 2)) ∧ ((o_1136 = none → xs_1 = [] ∧ cap_1137 = 0))) (fun (j : (List GNote) × (Option Nat) × Nat × (List Value) × Nat) => match j with | ⟨xs_1, o_1136, cap_1137, sp_1138, n_1139⟩ => [(2, [], (.slice none 0 0)), (3, [], (.slice (o_1136.map fun b => ⟨b, 0, none⟩) n_1139 cap_1137))]) (fun (j : (List GNote) × (Option Nat) × Nat × (List Value) × Nat) => match j with | ⟨xs_1, o_1136, cap_1137, sp_1138, n_1139⟩ => [⟨o_1136, 68, row encGNote xs_1 sp_1138⟩]) ?_ ?_)))))))))))))))))))
  ·refine jc_block ?_
   obtain ⟨t_6, ht_1517, hr_1394⟩ := bd h
   refine jc_loop (fun (s : (List GNote) × Int) (x : (Option Nat) × Nat × (List Value) × Nat) => match s, x with | ⟨xs_3, i_4⟩, ⟨o_1388, cap_1389, sp_1390, n_1391⟩ => (xs_3.length = n_1391) ∧ ((o_1388 ≠ none → n_1391 ≤ cap_1389 ∧ sp_1390.length = (cap_1389 - n_1391) * 2)) ∧ ((o_1388 = none → xs_3 = [] ∧ cap_1389 = 0))) (fun (s : (List GNote) × Int) (x : (Option Nat) × Nat × (List Value) × Nat) => match s, x with | ⟨xs_3, i_4⟩, ⟨o_1388, cap_1389, sp_1390, n_1391⟩ => [(0, [], (.slice A_a list0.length A_c)), (2, [], (.slice none 0 0)), (3, [], (.slice (o_1388.map fun b => ⟨b, 0, none⟩) n_1391 cap_1389)), (4, [], (.int .i64 i_4))]) (fun (s : (List GNote) × Int) (x : (Option Nat) × Nat × (List Value) × Nat) => match s, x with | ⟨xs_3, i_4⟩, ⟨o_1388, cap_1389, sp_1390, n_1391⟩ => [⟨o_1388, 68, row encGNote xs_3 sp_1390⟩]) ht_1517 ⟨(some b_1), 0, [], 0⟩ ⟨rfl, (fun _ => ⟨Nat.le_refl _, by simp⟩), (fun e => nomatch e)⟩ (by kernel_rfl) [0] (by kernel_rfl) (by kernel_rfl) ?_
   rintro ⟨xs_3, i_4⟩ ⟨o_1388, cap_1389, sp_1390, n_1391⟩ y_1395 ⟨rfl, hs_1392, ho_1393⟩ h
   rw [spec_l01Sorted.l_5] at h
   refine jc_seq (jc_seq (jc_region (qh [0,0,0,0] (qe (jx_then (qi h (fun h => ?_) (fun h => ?_)))))))
   ·refine jc_skip (jx_then (jc_seq (jc_block (jc_seq (jc_region (qh [0] (qe (jx_then (jc_seq (jc_meet (fun (j : Int) => match j with | i_7 => spec_l01Sorted.k_8 list0 xs_3 i_4 i_7 = some y_1395) (fun (j : Int) => match j with | i_7 => [(0, [], (.slice A_a list0.length A_c)), (2, [], (.slice none 0 0)), (3, [], (.slice (o_1388.map fun b => ⟨b, 0, none⟩) xs_3.length cap_1389)), (4, [], (.int .i64 i_4)), (5, [], (.int .i64 i_7))]) (fun (j : Int) => match j with | i_7 => [⟨o_1388, 68, row encGNote xs_3 sp_1390⟩]) ?_ ?_))))))))))
    ·refine jc_block ?_
     obtain ⟨t_15, ht_1515, hr_1499⟩ := bd h
     refine jc_loop (fun (s : Int) (x : Unit) => match s, x with | i_13, _ => True) (fun (s : Int) (x : Unit) => match s, x with | i_13, _ => [(0, [], (.slice A_a list0.length A_c)), (2, [], (.slice none 0 0)), (3, [], (.slice (o_1388.map fun b => ⟨b, 0, none⟩) xs_3.length cap_1389)), (4, [], (.int .i64 i_4)), (5, [], (.int .i64 i_13))]) (fun (s : Int) (x : Unit) => match s, x with | i_13, _ => [⟨o_1388, 68, row encGNote xs_3 sp_1390⟩]) ht_1515 () trivial (by kernel_rfl) [0] (by kernel_rfl) (by kernel_rfl) ?_
     rintro i_13 _ y_1500 _ h
     rw [spec_l01Sorted.l_14] at h
     refine jc_seq (jc_seq (qg [⟨o_1388, 68, row encGNote xs_3 sp_1390⟩] 15 (qd [⟨0, 0, 0⟩,⟨1, 0, 0⟩,⟨2, 0, 0⟩,⟨3, 0, 0⟩,⟨4, 0, 0⟩,⟨5, 0, 1⟩,⟨6, 0, 1⟩,⟨9, 0, 1⟩,⟨10, 0, 1⟩] 6 [0] (jd_split 18 (decide (i_13 < (xs_3.length : Int))) (by kernel_rfl) (fun hc_1507 => ?_) (fun hc_1507 => ?_)))))
     ·replace h := ifT hc_1507 h
      obtain ⟨x_16, hx_1508, h⟩ := bd h
      refine qv 7 2 [0] (fun w hm => idx_run (a := (o_1388.map fun b => ⟨b, 0, none⟩)) (len := xs_3.length) (s := 2) (j := i_13) (by kernel_rfl) (ix_some hx_1508).1 (ltn hx_1508 rfl) (spo ho_1393 hx_1508)) (qv 8 2 [0] (fun w hm => ld_run (b := aB (o_1388.map fun b => ⟨b, 0, none⟩)) (off := (aO (o_1388.map fun b => ⟨b, 0, none⟩) + i_13.toNat * 2)) (s := 2) (agg := true) (vs := (encGNote x_16)) (by kernel_rfl) (by kernel_rfl) (.inl rfl) ((hm.ow 0 o_1388 68 xs_3 sp_1390 (fun e => (ho_1393 e).1) encGNote_len).at hx_1508)) ?_)
      obtain ⟨x_17, hx_1509, h⟩ := bd h
      refine qv 11 2 [0] (fun w hm => idx_run (a := A_a) (len := list0.length) (s := 2) (j := i_4) (by kernel_rfl) (ix_some hx_1509).1 (ltn hx_1509 rfl) (A_h.sp hx_1509)) (qv 12 2 [0] (fun w hm => ld_run (b := aB A_a) (off := (aO A_a + i_4.toNat * 2)) (s := 2) (agg := true) (vs := (encGNote x_17)) (by kernel_rfl) (by kernel_rfl) (.inl rfl) ((hm.xr A_h).at hx_1509)) ?_)
      obtain ⟨t_18, ht_1510, h⟩ := bd h
      refine tD 13 (pc 2 (fun w hm => spec_l01Before.calls x_16 x_17 w _ ht_1510) ?_)
      rintro w v w' hm ⟨rfl, hm'⟩
      refine ⟨_, hm.app hm', kD [0] ?_⟩
      clear hm hm'
      refine qd [⟨14, 0, 4⟩] 0 [0] (qz (jx_then (qi h (fun h => ?_) (fun h => ?_))))
      ·exact jc_skip (jx_then (jc_block (jc_region (qh [0,0,0] (qe (jx_inn (qb (w64 (i_13 + 1)) () h trivial [0])))))))
      ·refine jc_exit (jx_thenx (jx_leave i_13 (Option.some.inj h).symm (fun e_1512 => ?_)))
       subst e_1512
       exact jx_ine (qm i_13 hr_1499 [0])
     ·replace h := ifF hc_1507 h
      refine qd [⟨7, 0, 3⟩,⟨8, 0, 3⟩,⟨11, 0, 3⟩,⟨12, 0, 3⟩,⟨13, 0, 3⟩,⟨14, 0, 5⟩] 0 [0] (qz (jx_then (jc_cond false (by kernel_rfl) (fun hc_1513 => nomatch hc_1513) (fun hc_1513 => (jc_exit (jx_thenx (jx_leave i_13 (Option.some.inj h).symm (fun e_1514 => ?_))))))))
      subst e_1514
      exact jx_ine (qm i_13 hr_1499 [0])
    ·rintro i_7 h
     replace h : spec_l01Sorted.k_8 list0 xs_3 i_4 i_7 = some y_1395 := h
     rw [spec_l01Sorted.k_8] at h
     refine jx_then (jc_seq (jc_meet (fun (_ : Unit) => spec_l01Sorted.k_9 list0 xs_3 i_4 i_7 = some y_1395) (fun (_ : Unit) => [(0, [], (.slice A_a list0.length A_c)), (2, [], (.slice none 0 0)), (3, [], (.slice (o_1388.map fun b => ⟨b, 0, none⟩) xs_3.length cap_1389)), (4, [], (.int .i64 i_4)), (5, [], (.int .i64 i_7))]) (fun (_ : Unit) => [⟨o_1388, 68, row encGNote xs_3 sp_1390⟩]) ?_ ?_))
     ·refine jc_seq (qg [⟨o_1388, 68, row encGNote xs_3 sp_1390⟩] 15 (qd [⟨0, 0, 0⟩,⟨1, 0, 0⟩,⟨2, 0, 0⟩,⟨3, 0, 0⟩,⟨4, 0, 0⟩,⟨5, 0, 1⟩,⟨6, 0, 1⟩,⟨9, 0, 1⟩,⟨10, 0, 1⟩] 6 [0] (jd_split 35 (decide (i_7 < (xs_3.length : Int))) (by kernel_rfl) (fun hc_1470 => ?_) (fun hc_1470 => ?_))))
      ·replace h := ifT hc_1470 h
       obtain ⟨x_11, hx_1471, h⟩ := bd h
       refine qv 7 2 [0] (fun w hm => idx_run (a := (o_1388.map fun b => ⟨b, 0, none⟩)) (len := xs_3.length) (s := 2) (j := i_7) (by kernel_rfl) (ix_some hx_1471).1 (ltn hx_1471 rfl) (spo ho_1393 hx_1471)) (qv 8 2 [0] (fun w hm => ld_run (b := aB (o_1388.map fun b => ⟨b, 0, none⟩)) (off := (aO (o_1388.map fun b => ⟨b, 0, none⟩) + i_7.toNat * 2)) (s := 2) (agg := true) (vs := (encGNote x_11)) (by kernel_rfl) (by kernel_rfl) (.inl rfl) ((hm.ow 0 o_1388 68 xs_3 sp_1390 (fun e => (ho_1393 e).1) encGNote_len).at hx_1471)) ?_)
       obtain ⟨x_12, hx_1472, h⟩ := bd h
       refine qv 11 2 [0] (fun w hm => idx_run (a := A_a) (len := list0.length) (s := 2) (j := i_4) (by kernel_rfl) (ix_some hx_1472).1 (ltn hx_1472 rfl) (A_h.sp hx_1472)) (qv 12 2 [0] (fun w hm => ld_run (b := aB A_a) (off := (aO A_a + i_4.toNat * 2)) (s := 2) (agg := true) (vs := (encGNote x_12)) (by kernel_rfl) (by kernel_rfl) (.inl rfl) ((hm.xr A_h).at hx_1472)) (qd [⟨13, 0, 2⟩,⟨14, 0, 4⟩] 0 [0] (qz (jx_then (qi h (fun h => ?_) (fun h => ?_))))))
       ·exact jc_exit (jx_thenx (jx_thenx (jx_ine (jx_then (jc_region (qh [0,0,0] (qe (qb (xs_3, (w64 (i_4 + 1))) ⟨o_1388, cap_1389, sp_1390, xs_3.length⟩ h ⟨rfl, hs_1392, ho_1393⟩ [0]))))))))
       ·exact jc_skip (qm () h [0])
      ·replace h := ifF hc_1470 h
       exact qd [⟨7, 0, 3⟩,⟨8, 0, 3⟩,⟨11, 0, 3⟩,⟨12, 0, 3⟩,⟨13, 0, 3⟩,⟨14, 0, 5⟩] 0 [0] (qz (jx_then (jc_cond false (by kernel_rfl) (fun hc_1474 => nomatch hc_1474) (fun hc_1474 => (jc_skip (qm () h [0]))))))
     ·rintro _ h
      replace h : spec_l01Sorted.k_9 list0 xs_3 i_4 i_7 = some y_1395 := h
      rw [spec_l01Sorted.k_9] at h
      refine jx_then (jc_seq (jc_region (tO (qa 0 (fun b_1444 => jkO (qh [0,0] ?_))))))
      obtain ⟨hg_1445, h⟩ := gd h
      refine tO (p_slL 0 (o_1388.map fun b => ⟨b, 0, none⟩) xs_3.length cap_1389 2 i_7 (by kernel_rfl) (by kernel_rfl) hg_1445.1 (Int.le_trans hg_1445.2 (Int.ofNat_le.2 (Nat.le_of_eq rfl))) (jkO ?_))
      obtain ⟨hg_1446, h⟩ := gd h
      refine tO (p_apn 0 1 (some b_1444) 68 0 (xs_3.length - i_7.toNat) 0 2 4 (pa (o_1388.map fun b => ⟨b, 0, none⟩) i_7.toNat cap_1389 2) encGNote ([] : List GNote) (xs_3.drop i_7.toNat) [] (.agg #[(.int .i16 0), (.int .i8 0)]) rfl (tl_len rfl i_7) (by kernel_rfl) (by kernel_rfl) (by kernel_rfl) encGNote_len encGNote_cell (fun _ => ⟨Nat.le_refl _, by simp⟩) (fun e => nomatch e) (fun w hm => ((hm.ow 0 o_1388 68 xs_3 sp_1390 (fun e => (ho_1393 e).1) encGNote_len).tl i_7.toNat cap_1389 (cap_le rfl hs_1392 ho_1393))) hg_1446 (by kernel_rfl) (by kernel_rfl) (fun o_1447 cap_1448 sp_1449 hs_1450 ho_1451 => jkO (qh [0] (qe (jx_then (qg [⟨o_1447, 68, row encGNote (([] : List GNote) ++ (xs_3.drop i_7.toNat)) sp_1449⟩] 12 (qd [⟨0, 0, 0⟩,⟨1, 0, 0⟩,⟨3, 0, 0⟩,⟨4, 0, 0⟩,⟨9, 0, 0⟩] 7 [1] ?_)))))))
      obtain ⟨hg_1455, h⟩ := gd h
      refine qv 2 0 [1] (fun w hm => slH_run (a := (o_1388.map fun b => ⟨b, 0, none⟩)) (len := xs_3.length) (cap := cap_1389) (size := 2) (h := i_7) (by kernel_rfl) hg_1455.1 (Int.le_trans hg_1455.2 (Int.ofNat_le.2 (cap_le rfl hs_1392 ho_1393)))) ?_
      obtain ⟨x_10, hx_1456, h⟩ := bd h
      refine qv 5 0 [1] (fun w hm => idx_run (a := A_a) (len := list0.length) (s := 2) (j := i_4) (by kernel_rfl) (ix_some hx_1456).1 (ltn hx_1456 rfl) (A_h.sp hx_1456)) (qv 6 0 [1] (fun w hm => ld_run (b := aB A_a) (off := (aO A_a + i_4.toNat * 2)) (s := 2) (agg := true) (vs := (encGNote x_10)) (by kernel_rfl) (by kernel_rfl) (.inl rfl) ((hm.xr A_h).at hx_1456)) (tD 7 (qa 0 (fun b_1457 => kD [1] ?_))))
      obtain ⟨hg_1458, h⟩ := gd h
      refine tD 8 (p_apI 0 0 o_1388 68 i_7.toNat xs_3.length 1 cap_1389 2 4 (some ⟨b_1457, 0, none⟩) encGNote xs_3 ([x_10] : List GNote) sp_1390 (.agg #[(.int .i16 0), (.int .i8 0)]) (show i_7.toNat ≤ xs_3.length by have := hg_1455; omega) rfl rfl (by kernel_rfl) (by kernel_rfl) (by kernel_rfl) encGNote_len encGNote_cell hs_1392 ho_1393 (fun w hm => (hm.ow 2 (some b_1457) 68 ([x_10] : List GNote) [] (fun e => nomatch e) encGNote_len)) hg_1458 (by kernel_rfl) (by kernel_rfl) (fun o_1459 cap_1460 sp_1461 hs_1462 ho_1463 => kD [1] ?_))
      obtain ⟨hg_1464, h⟩ := gd h
      exact tD 10 (p_apn 0 0 o_1459 68 ((xs_3.take i_7.toNat ++ ([x_10] : List GNote)).length) ((([] : List GNote) ++ (xs_3.drop i_7.toNat)).length) cap_1460 2 4 (o_1447.map fun b => ⟨b, 0, none⟩) encGNote (xs_3.take i_7.toNat ++ ([x_10] : List GNote)) (([] : List GNote) ++ (xs_3.drop i_7.toNat)) sp_1461 (.agg #[(.int .i16 0), (.int .i8 0)]) rfl rfl (by kernel_rfl) (by kernel_rfl) (by kernel_rfl) encGNote_len encGNote_cell hs_1462 ho_1463 (fun w hm => (hm.ow 1 o_1447 68 (([] : List GNote) ++ (xs_3.drop i_7.toNat)) sp_1449 (fun e => (ho_1451 e).1) encGNote_len)) hg_1464 (by kernel_rfl) (by kernel_rfl) (fun o_1465 cap_1466 sp_1467 hs_1468 ho_1469 => kD [1] (qd [⟨11, 0, 0⟩] 0 [1] (qz (jx_inn (jx_then (jc_region (qh [0,0,0] (qe (qb (((xs_3.take i_7.toNat ++ ([x_10] : List GNote)) ++ (([] : List GNote) ++ (xs_3.drop i_7.toNat))), (w64 (i_4 + 1))) ⟨o_1465, cap_1466, sp_1467, ((xs_3.take i_7.toNat ++ ([x_10] : List GNote)) ++ (([] : List GNote) ++ (xs_3.drop i_7.toNat))).length⟩ h ⟨rfl, hs_1468, ho_1469⟩ [0]))))))))))
   ·refine jc_exit (jx_thenx (jx_leave xs_3 (Option.some.inj h).symm (fun e_1516 => ?_)))
    subst e_1516
    exact jx_ine (qm ⟨xs_3, o_1388, cap_1389, sp_1390, xs_3.length⟩ ⟨hr_1394, rfl, hs_1392, ho_1393⟩ [0])
  ·rintro ⟨xs_1, o_1136, cap_1137, sp_1138, n_1139⟩ ⟨h, rfl, hs_1140, ho_1141⟩
   replace h : spec_l01Sorted.k_2 xs_1 = some r := h
   rw [spec_l01Sorted.k_2] at h
   refine jx_then (jc_seq (jc_region (qh [0,0] (qe (jx_then (jc_ret ?_))))))
   obtain rfl := Option.some.inj h
   exact qr [] (fun w hm => ⟨o_1136, cap_1137, sp_1138, xs_1.length, rfl, hs_1140, ho_1141, rfl, hm.pk [0]⟩)
/-! ### spec.P6Tune -/
def spec_P6Tune.k_6 (xs_3 : List GNote) (i_4 : Int) (i_5 : Int) : Option ((List GNote)) := (spec_l01Sorted xs_3).bind fun t_7 => some t_7
def spec_P6Tune.l_12 (code0 : List Int) (f1 : GFrame) : ((List GNote) × Int × Int × Int) → Option (((List GNote) × Int × Int × Int) ⊕ (((List GNote) × Int × Int)))
  | (xs_8, i_9, i_10, i_11) => (if (decide (i_11 > 0)) = true then (spec_l00Src_pick (⟨code0, i_9, i_10⟩ : Gl00Src) (f1.fHammers.length : Int)).bind fun t_14 => (ix f1.fHammers t_14.1).bind fun x_15 => (spec_l00Src_pick (⟨code0, t_14.2.fat, t_14.2.fseed⟩ : Gl00Src) (w64 f1.fSteps)).bind fun t_16 => (if xs_8.length + ([(⟨(w16 t_16.1), x_15.fPitch⟩ : GNote)] : List GNote).length ≤ 4294967296 then some (.inl ((xs_8 ++ ([(⟨(w16 t_16.1), x_15.fPitch⟩ : GNote)] : List GNote)), t_16.2.fat, t_16.2.fseed, (w64 (i_11 - 1)))) else none) else some (.inr (xs_8, i_9, i_10)))
def spec_P6Tune (code0 : List Int) (f1 : GFrame) (most2 : Int) : Option ((List GNote)) := (spec_l00From code0).bind fun t_1 => (spec_l00Src_pick (⟨code0, t_1.fat, t_1.fseed⟩ : Gl00Src) (w64 (most2 + 1))).bind fun t_2 => (loop (spec_P6Tune.l_12 code0 f1) (([] : List GNote), t_2.2.fat, t_2.2.fseed, t_2.1)).bind fun t_13 => spec_P6Tune.k_6 t_13.1 t_13.2.1 t_13.2.2
theorem spec_P6Tune.calls (code0 : List Int) (f1 : GFrame) (most2 : Int) (w : World) (r : (List GNote)) {A_a : Option Addr} {A_an : Nat} (A_c : Nat) (A_h : Rw w A_a 1 encU8 code0) (A_hn : code0.length = A_an) {D_a : Option Addr} {D_an : Nat} (D_c : Nat) (D_h : Rw w D_a 2 encGHammer f1.fHammers) (D_hn : f1.fHammers.length = D_an) (h : spec_P6Tune code0 f1 most2 = some r) :
    Calls Tryz.prog 6 #[(.slice A_a A_an A_c), (.agg #[(.int .i16 f1.fSteps), (.slice D_a D_an D_c)]), (.int .i64 most2)] w fun e w' => ∃ v, e = .returned v ∧ (∃ (o0 : Option Nat) (c0 : Nat) (s0 : List Value) (n0 : Nat), r.length = n0 ∧ (o0 ≠ none → n0 ≤ c0 ∧ s0.length = (c0 - n0) * 2) ∧ (o0 = none → r = [] ∧ c0 = 0) ∧ v = .slice (o0.map fun b => ⟨b, 0, none⟩) n0 c0 ∧ Mem w [] [⟨o0, 68, row encGNote r s0⟩] w') := by
  subst A_hn D_hn
  rw [spec_P6Tune] at h
  refine enter (args := [(.slice A_a code0.length A_c), (.agg #[(.int .i16 f1.fSteps), (.slice D_a f1.fHammers.length D_c)]), (.int .i64 most2)]) Tryz.func6 rfl Tryz.ntmps6 (by kernel_rfl) (L := []) (W := []) (Mem.start w) ?_
  refine jc_seq (jc_region (tO (qa 0 (fun b_1 => jkO (qh [0] (qe (jx_then (jc_seq (jc_region (qh [0] ?_))))))))))
  obtain ⟨t_1, ht_2, h⟩ := bd h
  refine tO (pc 0 (fun w hm => spec_l00From.calls code0 w _ A_c (hm.xr A_h) rfl ht_2) ?_)
  rintro w v w' hm ⟨b_3, rfl, hm'⟩
  refine ⟨_, hm.app hm', jkO ?_⟩
  clear hm hm'
  refine qh [0] (qe (jx_then (jc_seq (jc_region (tO (qa 0 (fun b_4 => jkO (qh [0] (qe (jx_then (jc_seq (jc_seq (jc_region (qh [0,0,0] ?_))))))))))))))
  obtain ⟨t_2, ht_140, h⟩ := bd h
  refine tO (pc 0 (fun w hm => spec_l00Src_pick.calls (⟨code0, t_1.fat, t_1.fseed⟩ : Gl00Src) (w64 (most2 + 1)) w _ A_c (hm.xr A_h) rfl b_3 (hm.pass (N := [⟨some b_3, 115, [(.slice A_a code0.length A_c), (.int .i64 t_1.fat), (.int .u64 t_1.fseed)]⟩]) [1] (by kernel_rfl) (by kernel_rfl)) (hm.exApart (N := [⟨some b_3, 115, [(.slice A_a code0.length A_c), (.int .i64 t_1.fat), (.int .u64 t_1.fseed)]⟩]) A_h (fun _ => List.not_mem_nil) [1] (by kernel_rfl)) ht_140) ?_)
  rintro w v w' hm ⟨rfl, hm'⟩
  refine ⟨_, hm.appW (ps := [(1, ⟨some b_3, 115, [(.slice A_a code0.length A_c), (.int .i64 t_2.2.fat), (.int .u64 t_2.2.fseed)]⟩)]) (N := []) hm' (by kernel_rfl) (by kernel_rfl), jkO ?_⟩
  clear hm hm'
  refine qh [0] (qe (jx_then (jc_meet (fun (j : (List GNote) × Int × Int × (Option Nat) × Nat × (List Value) × Nat) => match j with | ⟨xs_3, i_4, i_5, o_205, cap_206, sp_207, n_208⟩ => spec_P6Tune.k_6 xs_3 i_4 i_5 = some r ∧ (xs_3.length = n_208) ∧ ((o_205 ≠ none → n_208 ≤ cap_206 ∧ sp_207.length = (cap_206 - n_208) * 2)) ∧ ((o_205 = none → xs_3 = [] ∧ cap_206 = 0))) (fun (j : (List GNote) × Int × Int × (Option Nat) × Nat × (List Value) × Nat) => match j with | ⟨xs_3, i_4, i_5, o_205, cap_206, sp_207, n_208⟩ => [(6, [], (.slice none 0 0)), (8, [], (.slice (o_205.map fun b => ⟨b, 0, none⟩) n_208 cap_206))]) (fun (j : (List GNote) × Int × Int × (Option Nat) × Nat × (List Value) × Nat) => match j with | ⟨xs_3, i_4, i_5, o_205, cap_206, sp_207, n_208⟩ => [⟨some b_1, 27, [(.int .i16 f1.fSteps), (.slice D_a f1.fHammers.length D_c)]⟩, ⟨some b_3, 115, [(.slice A_a code0.length A_c), (.int .i64 i_4), (.int .u64 i_5)]⟩, ⟨o_205, 68, row encGNote xs_3 sp_207⟩]) ?_ ?_)))
  ·refine jc_block ?_
   obtain ⟨t_13, ht_280, hr_261⟩ := bd h
   refine jc_loop (fun (s : (List GNote) × Int × Int × Int) (x : (Option Nat) × Nat × (List Value) × Nat) => match s, x with | ⟨xs_8, i_9, i_10, i_11⟩, ⟨o_255, cap_256, sp_257, n_258⟩ => (xs_8.length = n_258) ∧ ((o_255 ≠ none → n_258 ≤ cap_256 ∧ sp_257.length = (cap_256 - n_258) * 2)) ∧ ((o_255 = none → xs_8 = [] ∧ cap_256 = 0))) (fun (s : (List GNote) × Int × Int × Int) (x : (Option Nat) × Nat × (List Value) × Nat) => match s, x with | ⟨xs_8, i_9, i_10, i_11⟩, ⟨o_255, cap_256, sp_257, n_258⟩ => [(4, [], (.pointer (some ⟨b_1, 0, none⟩))), (6, [], (.slice none 0 0)), (7, [], (.pointer (some ⟨b_3, 0, none⟩))), (8, [], (.slice (o_255.map fun b => ⟨b, 0, none⟩) n_258 cap_256)), (9, [], (.int .i64 i_11))]) (fun (s : (List GNote) × Int × Int × Int) (x : (Option Nat) × Nat × (List Value) × Nat) => match s, x with | ⟨xs_8, i_9, i_10, i_11⟩, ⟨o_255, cap_256, sp_257, n_258⟩ => [⟨some b_1, 27, [(.int .i16 f1.fSteps), (.slice D_a f1.fHammers.length D_c)]⟩, ⟨some b_3, 115, [(.slice A_a code0.length A_c), (.int .i64 i_9), (.int .u64 i_10)]⟩, ⟨o_255, 68, row encGNote xs_8 sp_257⟩]) ht_280 ⟨(some b_4), 0, [], 0⟩ ⟨rfl, (fun _ => ⟨Nat.le_refl _, by simp⟩), (fun e => nomatch e)⟩ (by kernel_rfl) [0, 1, 2] (by kernel_rfl) (by kernel_rfl) ?_
   rintro ⟨xs_8, i_9, i_10, i_11⟩ ⟨o_255, cap_256, sp_257, n_258⟩ y_262 ⟨rfl, hs_259, ho_260⟩ h
   rw [spec_P6Tune.l_12] at h
   refine jc_seq (jc_seq (jc_region (qh [0,0] (qe (jx_then (qi h (fun h => ?_) (fun h => ?_)))))))
   ·refine jc_skip (jx_then (jc_seq (jc_block (jc_seq (jc_region (qh [0,0,0,0] ?_))))))
    obtain ⟨t_14, ht_265, h⟩ := bd h
    refine tO (pc 0 (fun w hm => spec_l00Src_pick.calls (⟨code0, i_9, i_10⟩ : Gl00Src) (f1.fHammers.length : Int) w _ A_c (hm.xr A_h) rfl b_3 (hm.pass (N := [⟨some b_3, 115, [(.slice A_a code0.length A_c), (.int .i64 i_9), (.int .u64 i_10)]⟩]) [1] (by kernel_rfl) (by kernel_rfl)) (hm.exApart (N := [⟨some b_3, 115, [(.slice A_a code0.length A_c), (.int .i64 i_9), (.int .u64 i_10)]⟩]) A_h (fun _ => List.not_mem_nil) [1] (by kernel_rfl)) ht_265) ?_)
    rintro w v w' hm ⟨rfl, hm'⟩
    refine ⟨_, hm.appW (ps := [(1, ⟨some b_3, 115, [(.slice A_a code0.length A_c), (.int .i64 t_14.2.fat), (.int .u64 t_14.2.fseed)]⟩)]) (N := []) hm' (by kernel_rfl) (by kernel_rfl), jkO ?_⟩
    clear hm hm'
    refine qh [0] (qe (jx_then (qg [⟨some b_1, 27, [(.int .i16 f1.fSteps), (.slice D_a f1.fHammers.length D_c)]⟩] 17 (qd [⟨0, 0, 0⟩,⟨1, 0, 0⟩,⟨2, 0, 0⟩,⟨3, 0, 0⟩,⟨4, 0, 0⟩,⟨7, 0, 0⟩,⟨8, 0, 0⟩,⟨9, 0, 0⟩] 9 [0] ?_))))
    obtain ⟨x_15, hx_270, h⟩ := bd h
    refine qv 10 0 [0] (fun w hm => idx_run (a := D_a) (len := f1.fHammers.length) (s := 2) (j := t_14.1) (by kernel_rfl) (ix_some hx_270).1 (ltn hx_270 rfl) (D_h.sp hx_270)) (qd [⟨11, 0, 0⟩] 7 [0] (qv 12 0 [0] (fun w hm => ld_run (b := aB D_a) (off := (aO D_a + t_14.1.toNat * 2)) (s := 1) (agg := false) (vs := (((encGHammer x_15).drop 0).take 1)) (by kernel_rfl) (by kernel_rfl) (.inr rfl) (((hm.xr D_h).at hx_270).sub 0 1)) ?_))
    obtain ⟨t_16, ht_271, h⟩ := bd h
    refine tD 5 (pc 0 (fun w hm => spec_l00Src_pick.calls (⟨code0, t_14.2.fat, t_14.2.fseed⟩ : Gl00Src) (w64 f1.fSteps) w _ A_c (hm.xr A_h) rfl b_3 (hm.pass (N := [⟨some b_3, 115, [(.slice A_a code0.length A_c), (.int .i64 t_14.2.fat), (.int .u64 t_14.2.fseed)]⟩]) [1] (by kernel_rfl) (by kernel_rfl)) (hm.exApart (N := [⟨some b_3, 115, [(.slice A_a code0.length A_c), (.int .i64 t_14.2.fat), (.int .u64 t_14.2.fseed)]⟩]) A_h (fun _ => List.not_mem_nil) [1] (by kernel_rfl)) ht_271) ?_)
    rintro w v w' hm ⟨rfl, hm'⟩
    refine ⟨_, hm.appW (ps := [(1, ⟨some b_3, 115, [(.slice A_a code0.length A_c), (.int .i64 t_16.2.fat), (.int .u64 t_16.2.fseed)]⟩)]) (N := []) hm' (by kernel_rfl) (by kernel_rfl), kD [0] ?_⟩
    clear hm hm'
    refine qd [⟨6, 0, 0⟩,⟨13, 0, 0⟩] 3 [0] (tD 14 (qa 0 (fun b_272 => kD [0] ?_)))
    obtain ⟨hg_273, h⟩ := gd h
    exact tD 15 (p_apn 0 2 o_255 68 xs_8.length 1 cap_256 2 4 (some ⟨b_272, 0, none⟩) encGNote xs_8 ([(⟨(w16 t_16.1), x_15.fPitch⟩ : GNote)] : List GNote) sp_257 (.agg #[(.int .i16 0), (.int .i8 0)]) rfl rfl (by kernel_rfl) (by kernel_rfl) (by kernel_rfl) encGNote_len encGNote_cell hs_259 ho_260 (fun w hm => (hm.ow 3 (some b_272) 68 ([(⟨(w16 t_16.1), x_15.fPitch⟩ : GNote)] : List GNote) [] (fun e => nomatch e) encGNote_len)) hg_273 (by kernel_rfl) (by kernel_rfl) (fun o_274 cap_275 sp_276 hs_277 ho_278 => kD [0] (qd [⟨16, 0, 0⟩] 0 [0] (qz (jx_inn (jx_then (jc_region (qh [0,0,0] (qe (qb ((xs_8 ++ ([(⟨(w16 t_16.1), x_15.fPitch⟩ : GNote)] : List GNote)), t_16.2.fat, t_16.2.fseed, (w64 (i_11 - 1))) ⟨o_274, cap_275, sp_276, (xs_8 ++ ([(⟨(w16 t_16.1), x_15.fPitch⟩ : GNote)] : List GNote)).length⟩ h ⟨rfl, hs_277, ho_278⟩ [0, 1, 2]))))))))))
   ·refine jc_exit (jx_thenx (jx_leave (xs_8, i_9, i_10) (Option.some.inj h).symm (fun e_279 => ?_)))
    subst e_279
    exact jx_ine (qm ⟨xs_8, i_9, i_10, o_255, cap_256, sp_257, xs_8.length⟩ ⟨hr_261, rfl, hs_259, ho_260⟩ [0, 1, 2])
  ·rintro ⟨xs_3, i_4, i_5, o_205, cap_206, sp_207, n_208⟩ ⟨h, rfl, hs_209, ho_210⟩
   replace h : spec_P6Tune.k_6 xs_3 i_4 i_5 = some r := h
   rw [spec_P6Tune.k_6] at h
   refine jx_then (jc_seq (jc_region (qh [0] ?_)))
   obtain ⟨t_7, ht_211, h⟩ := bd h
   refine tO (pc 0 (fun w hm => spec_l01Sorted.calls xs_3 w _ cap_206 (hm.ow 2 o_205 68 xs_3 sp_207 (fun e => (ho_210 e).1) encGNote_len) rfl ht_211) ?_)
   rintro w v w' hm ⟨o_212, cap_213, sp_214, _, rfl, hs_215, ho_216, rfl, hm'⟩
   refine ⟨_, hm.app hm', jkO ?_⟩
   clear hm hm'
   refine qh [0] (qe (jx_then (jc_ret ?_)))
   obtain rfl := Option.some.inj h
   exact qr [] (fun w hm => ⟨o_212, cap_213, sp_214, t_7.length, rfl, hs_215, ho_216, rfl, hm.pk [3]⟩)
/-! ### (*spec.l00Src).one -/
def spec_l00Src_one (s0 : Gl00Src) (n1 : Int) : Option (Bool × Gl00Src) := (spec_l00Src_pick s0 n1).bind fun t_1 => some ((t_1.1 == 0), (⟨s0.fcode, t_1.2.fat, t_1.2.fseed⟩ : Gl00Src))
theorem spec_l00Src_one.calls (s0 : Gl00Src) (n1 : Int) (w : World) (r : Bool × Gl00Src) {B_a : Option Addr} {B_an : Nat} (B_c : Nat) (B_h : Rw w B_a 1 encU8 s0.fcode) (B_hn : s0.fcode.length = B_an) (A_b : Nat) (hm0 : Mem w (bs [some A_b]) [⟨some A_b, 115, [(.slice B_a B_an B_c), (.int .i64 s0.fat), (.int .u64 s0.fseed)]⟩] w) (B_ha : s0.fcode ≠ [] → aB B_a ∉ bs [some A_b]) (h : spec_l00Src_one s0 n1 = some r) :
    Calls Tryz.prog 70 #[(.pointer (some ⟨A_b, 0, none⟩)), (.int .i64 n1)] w fun e w' => ∃ v, e = .returned v ∧ (v = (.bool r.1) ∧ Mem w (bs [some A_b]) [⟨some A_b, 115, [(.slice B_a B_an B_c), (.int .i64 r.2.fat), (.int .u64 r.2.fseed)]⟩] w') := by
  subst B_hn
  rw [spec_l00Src_one] at h
  refine enter (args := [(.pointer (some ⟨A_b, 0, none⟩)), (.int .i64 n1)]) Tryz.func70 rfl Tryz.ntmps70 (by kernel_rfl) (L := [⟨some A_b, 115, [(.slice B_a s0.fcode.length B_c), (.int .i64 s0.fat), (.int .u64 s0.fseed)]⟩]) (W := bs [some A_b]) hm0 ?_
  refine jc_seq (jc_region (qh [0] (qe (jx_then (jc_seq (jc_region (qh [0,0] ?_)))))))
  obtain ⟨t_1, ht_1, h⟩ := bd h
  refine tO (pc 0 (fun w hm => spec_l00Src_pick.calls s0 n1 w _ B_c (hm.exRowW B_h B_ha) rfl A_b (hm.pass (N := [⟨some A_b, 115, [(.slice B_a s0.fcode.length B_c), (.int .i64 s0.fat), (.int .u64 s0.fseed)]⟩]) [0] (by kernel_rfl) (by kernel_rfl)) (hm.exApart (N := [⟨some A_b, 115, [(.slice B_a s0.fcode.length B_c), (.int .i64 s0.fat), (.int .u64 s0.fseed)]⟩]) B_h B_ha [0] (by kernel_rfl)) ht_1) ?_)
  rintro w v w' hm ⟨rfl, hm'⟩
  refine ⟨_, hm.appW (ps := [(0, ⟨some A_b, 115, [(.slice B_a s0.fcode.length B_c), (.int .i64 t_1.2.fat), (.int .u64 t_1.2.fseed)]⟩)]) (N := []) hm' (by kernel_rfl) (by kernel_rfl), jkO ?_⟩
  clear hm hm'
  refine qh [0,0] (qe (jx_then (jc_ret ?_)))
  obtain rfl := Option.some.inj h
  exact qr [] (fun w hm => ⟨rfl, hm.pk [0]⟩)
/-! ### spec.l02Pin -/
def spec_l02Pin (d0 : Arr 96 Int) (step1 : Int) (track2 : Int) : Option (Bool) := (ix d0.1 step1).bind fun x_1 => (if 0 ≤ (u64 track2) then some ((Int.tmod (bShr .u32 x_1 (u64 track2)) 2) == 1) else none)
theorem spec_l02Pin.calls (d0 : Arr 96 Int) (step1 : Int) (track2 : Int) (w : World) (r : Bool) {A_b A_q : Nat} (A_h : Rw w (some ⟨A_b, A_q, none⟩) 1 encU32 d0.1) (h : spec_l02Pin d0 step1 track2 = some r) :
    Calls Tryz.prog 94 #[(.pointer (some ⟨A_b, A_q, none⟩)), (.int .i64 step1), (.int .i64 track2)] w fun e w' => ∃ v, e = .returned v ∧ (v = (.bool r) ∧ Mem w [] [] w') := by
  rw [spec_l02Pin] at h
  refine enter (args := [(.pointer (some ⟨A_b, A_q, none⟩)), (.int .i64 step1), (.int .i64 track2)]) Tryz.func94 rfl Tryz.ntmps94 (by kernel_rfl) (L := []) (W := []) (Mem.start w) ?_
  refine jc_seq (jc_region (qh [0] (qe (jx_then (jc_seq (jc_region (qh [0,0,0] ?_)))))))
  obtain ⟨x_1, hx_1, h⟩ := bd h
  refine tO (qx 0 (some ⟨A_b, A_q, none⟩) 1 hx_1 d0.2 (A_h.sp hx_1) (jkO (tO (ql 0 false (fun w hm => ((hm.xr A_h).at hx_1)) (jkO (qh [0,0] ?_))))))
  obtain ⟨hg_2, h⟩ := gd h
  refine tO (p_shr 0 .u32 x_1 .u64 (u64 track2) (by kernel_rfl) (by kernel_rfl) hg_2 (jkO (qh [0,0,0] (qe (jx_then (jc_ret ?_))))))
  obtain rfl := Option.some.inj h
  exact qr [] (fun w hm => ⟨rfl, hm.pk []⟩)
/-! ### spec.l02Free -/
def spec_l02Free.k_3 : Option (Bool) := some true
def spec_l02Free.k_8 (i_4 : Int) (q_7 : Bool) : Option ((Int) ⊕ (Bool ⊕ Unit)) := (if q_7 = true then some (.inr (.inl false)) else some (.inl (w64 (i_4 + 1))))
def spec_l02Free.l_5 (f0 : GFrame) (d1 : Arr 96 Int) (step2 : Int) (track3 : Int) (x_2 : GHammer) : Int → Option ((Int) ⊕ (Bool ⊕ Unit))
  | i_4 => (if (decide (i_4 < (w64 x_2.fReady))) = true then (if (w64 f0.fSteps) ≠ 0 then (spec_l02Pin d1 (Int.tmod (w64 (step2 + i_4)) (w64 f0.fSteps)) track3).bind fun t_9 => (if t_9 = true then spec_l02Free.k_8 i_4 true else (if (w64 f0.fSteps) ≠ 0 then (spec_l02Pin d1 (Int.tmod (w64 ((w64 (step2 + (w64 f0.fSteps))) - i_4)) (w64 f0.fSteps)) track3).bind fun t_10 => spec_l02Free.k_8 i_4 t_10 else none)) else none) else some (.inr (.inr ())))
def spec_l02Free (f0 : GFrame) (d1 : Arr 96 Int) (step2 : Int) (track3 : Int) : Option (Bool) := (spec_l02Pin d1 step2 track3).bind fun t_1 => (if t_1 = true then some false else (ix f0.fHammers track3).bind fun x_2 => (loop (spec_l02Free.l_5 f0 d1 step2 track3 x_2) 1).bind fun t_6 => match t_6 with | .inl p => some p | .inr p => spec_l02Free.k_3)
theorem spec_l02Free.calls (f0 : GFrame) (d1 : Arr 96 Int) (step2 : Int) (track3 : Int) (w : World) (r : Bool) {C_a : Option Addr} {C_an : Nat} (C_c : Nat) (C_h : Rw w C_a 2 encGHammer f0.fHammers) (C_hn : f0.fHammers.length = C_an) {D_b D_q : Nat} (D_h : Rw w (some ⟨D_b, D_q, none⟩) 1 encU32 d1.1) (A_b : Nat) (hm0 : Mem w (bs [some A_b]) [⟨some A_b, 27, [(.int .i16 f0.fSteps), (.slice C_a C_an C_c)]⟩] w) (C_ha : f0.fHammers ≠ [] → aB C_a ∉ bs [some A_b]) (D_ha : d1.1 ≠ [] → aB (some ⟨D_b, D_q, none⟩) ∉ bs [some A_b]) (h : spec_l02Free f0 d1 step2 track3 = some r) :
    Calls Tryz.prog 71 #[(.pointer (some ⟨A_b, 0, none⟩)), (.pointer (some ⟨D_b, D_q, none⟩)), (.int .i64 step2), (.int .i64 track3)] w fun e w' => ∃ v, e = .returned v ∧ (v = (.bool r) ∧ Mem w (bs [some A_b]) [⟨some A_b, 27, [(.int .i16 f0.fSteps), (.slice C_a C_an C_c)]⟩] w') := by
  subst C_hn
  rw [spec_l02Free] at h
  refine enter (args := [(.pointer (some ⟨A_b, 0, none⟩)), (.pointer (some ⟨D_b, D_q, none⟩)), (.int .i64 step2), (.int .i64 track3)]) Tryz.func71 rfl Tryz.ntmps71 (by kernel_rfl) (L := [⟨some A_b, 27, [(.int .i16 f0.fSteps), (.slice C_a f0.fHammers.length C_c)]⟩]) (W := bs [some A_b]) hm0 ?_
  refine jc_seq (jc_region (qh [0] (qe (jx_then (jc_seq (jc_seq (jc_region (qh [0,0,0] ?_))))))))
  obtain ⟨t_1, ht_3, h⟩ := bd h
  refine tO (pc 0 (fun w hm => spec_l02Pin.calls d1 step2 track3 w _ (hm.exRowW D_h D_ha) ht_3) ?_)
  rintro w v w' hm ⟨rfl, hm'⟩
  refine ⟨_, hm.app hm', jkO ?_⟩
  clear hm hm'
  refine qe (jx_then (qi h (fun h => ?_) (fun h => ?_)))
  ·refine jc_seq (jc_region (qh [0] (qe (jx_then (jc_ret (jx_thenr ?_))))))
   obtain rfl := Option.some.inj h
   exact qr [] (fun w hm => ⟨rfl, hm.pk [0]⟩)
  ·refine jc_skip (jx_then (jc_seq (jc_region (qh [0,0,0,0,0,0] (qe (jx_then (jc_seq (jc_region (qh [0,0,0,0,0] ?_)))))))))
   obtain ⟨x_2, hx_5, h⟩ := bd h
   refine tO (qx 0 C_a 2 hx_5 rfl (C_h.sp hx_5) (jkO (qh [0] (tO (ql 0 false (fun w hm => (((hm.exRowW C_h C_ha).at hx_5).sub 1 1)) (jkO (qh [0,0] (qe (jx_then (jc_seq (jc_seq (jc_region (qh [0] (qe (jx_then (jc_meet (fun (_ : Unit) => spec_l02Free.k_3 = some r) (fun (_ : Unit) => [(8, [], (.bool false))]) (fun (_ : Unit) => [⟨some A_b, 27, [(.int .i16 f0.fSteps), (.slice C_a f0.fHammers.length C_c)]⟩]) ?_ ?_))))))))))))))))
   ·refine jc_block ?_
    obtain ⟨t_6, ht_93, hr_76⟩ := bd h
    refine jc_loop (fun (s : Int) (x : Unit) => match s, x with | i_4, _ => True) (fun (s : Int) (x : Unit) => match s, x with | i_4, _ => [(1, [], (.pointer (some ⟨D_b, D_q, none⟩))), (2, [], (.int .i64 step2)), (3, [], (.int .i64 track3)), (8, [], (.bool false)), (9, [], (.int .i64 (w64 f0.fSteps))), (10, [], (.int .i64 (w64 x_2.fReady))), (11, [], (.int .i64 i_4))]) (fun (s : Int) (x : Unit) => match s, x with | i_4, _ => [⟨some A_b, 27, [(.int .i16 f0.fSteps), (.slice C_a f0.fHammers.length C_c)]⟩]) ht_93 () trivial (by kernel_rfl) [0] (by kernel_rfl) (by kernel_rfl) ?_
    rintro i_4 _ y_77 _ h
    rw [spec_l02Free.l_5] at h
    refine jc_seq (jc_seq (jc_region (qh [0,0,0] (qe (jx_then (qi h (fun h => ?_) (fun h => ?_)))))))
    ·refine jc_skip (jx_then (jc_seq (jc_block (jc_seq (jc_meet (fun (j : Bool) => match j with | q_7 => spec_l02Free.k_8 i_4 q_7 = some y_77) (fun (j : Bool) => match j with | q_7 => [(1, [], (.pointer (some ⟨D_b, D_q, none⟩))), (2, [], (.int .i64 step2)), (3, [], (.int .i64 track3)), (8, [], (.bool false)), (9, [], (.int .i64 (w64 f0.fSteps))), (10, [], (.int .i64 (w64 x_2.fReady))), (11, [], (.int .i64 i_4)), (54, [], (.bool q_7))]) (fun (j : Bool) => match j with | q_7 => [⟨some A_b, 27, [(.int .i16 f0.fSteps), (.slice C_a f0.fHammers.length C_c)]⟩]) ?_ ?_)))))
     ·refine jc_region (qh [0,0,0,0,0] ?_)
      obtain ⟨hg_87, h⟩ := gd h
      refine tO (p_rem 0 .i64 (w64 (step2 + i_4)) (w64 f0.fSteps) (by kernel_rfl) (by kernel_rfl) hg_87 (jkO (qh [0] ?_)))
      obtain ⟨t_9, ht_88, h⟩ := bd h
      refine tO (pc 0 (fun w hm => spec_l02Pin.calls d1 (Int.tmod (w64 (step2 + i_4)) (w64 f0.fSteps)) track3 w _ (hm.exRowW D_h D_ha) ht_88) ?_)
      rintro w v w' hm ⟨rfl, hm'⟩
      refine ⟨_, hm.app hm', jkO ?_⟩
      clear hm hm'
      refine qf [(0, 0), (0, 1), (0, 1), (0, 1), (0, 1), (0, 1), (0, 1), (0, 1)] (qp 43 h (fun h => ?_) (fun h => ?_))
      ·exact qf [(0, 3), (0, 3), (0, 3), (0, 4)] (qe (qm true h [0]))
      ·obtain ⟨hg_90, h⟩ := gd h
       refine tO (p_rem 2 .i64 (w64 ((w64 (step2 + (w64 f0.fSteps))) - i_4)) (w64 f0.fSteps) (by kernel_rfl) (by kernel_rfl) hg_90 (jkO (qf [(0, 2)] ?_)))
       obtain ⟨t_10, ht_91, h⟩ := bd h
       refine tO (pc 2 (fun w hm => spec_l02Pin.calls d1 (Int.tmod (w64 ((w64 (step2 + (w64 f0.fSteps))) - i_4)) (w64 f0.fSteps)) track3 w _ (hm.exRowW D_h D_ha) ht_91) ?_)
       rintro w v w' hm ⟨rfl, hm'⟩
       refine ⟨_, hm.app hm', jkO ?_⟩
       clear hm hm'
       exact qf [(0, 5)] (qe (qm t_10 h [0]))
     ·rintro q_7 h
      replace h : spec_l02Free.k_8 i_4 q_7 = some y_77 := h
      rw [spec_l02Free.k_8] at h
      refine jx_then (qi h (fun h => ?_) (fun h => ?_))
      ·refine jc_seq (jc_region (qh [0] (qe (jx_then (jc_ret (jx_inr (jx_thenr (jx_leaver (.inl false) (Option.some.inj h).symm (fun e_86 => ?_)))))))))
       subst e_86
       refine jx_inr (jx_thenr (jx_thenr ?_))
       obtain rfl := Option.some.inj hr_76
       exact qr [] (fun w hm => ⟨rfl, hm.pk [0]⟩)
      ·exact jc_skip (jx_inn (jx_then (jc_region (qh [0,0,0] (qe (qb (w64 (i_4 + 1)) () h trivial [0]))))))
    ·refine jc_exit (jx_thenx (jx_leave (.inr ()) (Option.some.inj h).symm (fun e_92 => ?_)))
     subst e_92
     exact jx_ine (qm () hr_76 [0])
   ·rintro _ h
    replace h : spec_l02Free.k_3 = some r := h
    rw [spec_l02Free.k_3] at h
    refine jx_then (jc_seq (jc_region (qh [0] (qe (jx_then (jc_ret ?_))))))
    obtain rfl := Option.some.inj h
    exact qr [] (fun w hm => ⟨rfl, hm.pk [0]⟩)
/-! ### spec.l02Drawn -/
def spec_l02Drawn.k_6 (s0 : Gl00Src) (a_3 : Arr 96 Int) (i_4 : Int) (i_5 : Int) : Option ((Arr 96 Int) × Gl00Src) := some (a_3, (⟨s0.fcode, i_4, i_5⟩ : Gl00Src))
def spec_l02Drawn.k_16 (a_7 : Arr 96 Int) (i_10 : Int) (t_13 : Int × Gl00Src) (t_14 : Int × Gl00Src) (q_15 : Bool) : Option (((Arr 96 Int) × Int × Int × Int) ⊕ (((Arr 96 Int) × Int × Int))) := (if q_15 = true then (ix a_7.1 t_13.1).bind fun x_17 => (if 0 ≤ (u64 t_14.1) then (ix a_7.1 t_13.1).bind fun x_18 => some (.inl ((Arr.set a_7 t_13.1 (bOr .u32 x_17 (bShl .u32 1 (u64 t_14.1)))), t_14.2.fat, t_14.2.fseed, (w64 (i_10 - 1)))) else none) else some (.inl (a_7, t_14.2.fat, t_14.2.fseed, (w64 (i_10 - 1)))))
def spec_l02Drawn.l_11 (s0 : Gl00Src) (f1 : GFrame) (t_1 : Bool × Gl00Src) : ((Arr 96 Int) × Int × Int × Int) → Option (((Arr 96 Int) × Int × Int × Int) ⊕ (((Arr 96 Int) × Int × Int)))
  | (a_7, i_8, i_9, i_10) => (if (decide (i_10 > 0)) = true then (spec_l00Src_pick (⟨s0.fcode, i_8, i_9⟩ : Gl00Src) (w64 f1.fSteps)).bind fun t_13 => (spec_l00Src_pick (⟨s0.fcode, t_13.2.fat, t_13.2.fseed⟩ : Gl00Src) (f1.fHammers.length : Int)).bind fun t_14 => (if t_1.1 = true then spec_l02Drawn.k_16 a_7 i_10 t_13 t_14 true else (spec_l02Free f1 a_7 t_13.1 t_14.1).bind fun t_19 => spec_l02Drawn.k_16 a_7 i_10 t_13 t_14 t_19) else some (.inr (a_7, i_8, i_9)))
def spec_l02Drawn (s0 : Gl00Src) (f1 : GFrame) : Option ((Arr 96 Int) × Gl00Src) := (spec_l00Src_one s0 4).bind fun t_1 => (spec_l00Src_pick (⟨s0.fcode, t_1.2.fat, t_1.2.fseed⟩ : Gl00Src) 12).bind fun t_2 => (loop (spec_l02Drawn.l_11 s0 f1 t_1) ((Arr.rep 96 0), t_2.2.fat, t_2.2.fseed, t_2.1)).bind fun t_12 => spec_l02Drawn.k_6 s0 t_12.1 t_12.2.1 t_12.2.2
theorem spec_l02Drawn.calls (s0 : Gl00Src) (f1 : GFrame) (w : World) (r : (Arr 96 Int) × Gl00Src) {B_a : Option Addr} {B_an : Nat} (B_c : Nat) (B_h : Rw w B_a 1 encU8 s0.fcode) (B_hn : s0.fcode.length = B_an) {G_a : Option Addr} {G_an : Nat} (G_c : Nat) (G_h : Rw w G_a 2 encGHammer f1.fHammers) (G_hn : f1.fHammers.length = G_an) (A_b : Nat) (E_b : Nat) (hm0 : Mem w (bs [some A_b, some E_b]) [⟨some A_b, 115, [(.slice B_a B_an B_c), (.int .i64 s0.fat), (.int .u64 s0.fseed)]⟩, ⟨some E_b, 27, [(.int .i16 f1.fSteps), (.slice G_a G_an G_c)]⟩] w) (B_ha : s0.fcode ≠ [] → aB B_a ∉ bs [some A_b, some E_b]) (G_ha : f1.fHammers ≠ [] → aB G_a ∉ bs [some A_b, some E_b]) (h : spec_l02Drawn s0 f1 = some r) :
    Calls Tryz.prog 31 #[(.pointer (some ⟨A_b, 0, none⟩)), (.pointer (some ⟨E_b, 0, none⟩))] w fun e w' => ∃ v, e = .returned v ∧ (v = (.agg (row encU32 r.1.1 []).toArray) ∧ Mem w (bs [some A_b, some E_b]) [⟨some A_b, 115, [(.slice B_a B_an B_c), (.int .i64 r.2.fat), (.int .u64 r.2.fseed)]⟩, ⟨some E_b, 27, [(.int .i16 f1.fSteps), (.slice G_a G_an G_c)]⟩] w') := by
  subst B_hn G_hn
  rw [spec_l02Drawn] at h
  refine enter (args := [(.pointer (some ⟨A_b, 0, none⟩)), (.pointer (some ⟨E_b, 0, none⟩))]) Tryz.func31 rfl Tryz.ntmps31 (by kernel_rfl) (L := [⟨some A_b, 115, [(.slice B_a s0.fcode.length B_c), (.int .i64 s0.fat), (.int .u64 s0.fseed)]⟩, ⟨some E_b, 27, [(.int .i16 f1.fSteps), (.slice G_a f1.fHammers.length G_c)]⟩]) (W := bs [some A_b, some E_b]) hm0 ?_
  refine jc_seq (jc_region (tO (qa 0 (fun b_1 => jkO (qe (jx_then (jc_seq (jc_region (qh [0] (tO (qa 0 (fun b_2 => jkO (tO (p_sA 0 3 b_2 96 1 34 encU32 (Arr.rep 96 0) (Arr.rep 96 0) (by kernel_rfl) (by kernel_rfl) (by kernel_rfl) encU32_len encU32_cell (by kernel_rfl) (jkO (qe (jx_then (jc_seq (jc_region (qh [0] ?_))))))))))))))))))))
  obtain ⟨t_1, ht_3, h⟩ := bd h
  refine tO (pc 0 (fun w hm => spec_l00Src_one.calls s0 4 w _ B_c (hm.exRowW B_h B_ha) rfl A_b (hm.pass (N := [⟨some A_b, 115, [(.slice B_a s0.fcode.length B_c), (.int .i64 s0.fat), (.int .u64 s0.fseed)]⟩]) [0] (by kernel_rfl) (by kernel_rfl)) (hm.exApart (N := [⟨some A_b, 115, [(.slice B_a s0.fcode.length B_c), (.int .i64 s0.fat), (.int .u64 s0.fseed)]⟩]) B_h B_ha [0] (by kernel_rfl)) ht_3) ?_)
  rintro w v w' hm ⟨rfl, hm'⟩
  refine ⟨_, hm.appW (ps := [(0, ⟨some A_b, 115, [(.slice B_a s0.fcode.length B_c), (.int .i64 t_1.2.fat), (.int .u64 t_1.2.fseed)]⟩)]) (N := []) hm' (by kernel_rfl) (by kernel_rfl), jkO ?_⟩
  clear hm hm'
  refine qh [0] (qe (jx_then (jc_seq (jc_seq (jc_region (qh [0] ?_))))))
  obtain ⟨t_2, ht_85, h⟩ := bd h
  refine tO (pc 0 (fun w hm => spec_l00Src_pick.calls (⟨s0.fcode, t_1.2.fat, t_1.2.fseed⟩ : Gl00Src) 12 w _ B_c (hm.exRowW B_h B_ha) rfl A_b (hm.pass (N := [⟨some A_b, 115, [(.slice B_a s0.fcode.length B_c), (.int .i64 t_1.2.fat), (.int .u64 t_1.2.fseed)]⟩]) [0] (by kernel_rfl) (by kernel_rfl)) (hm.exApart (N := [⟨some A_b, 115, [(.slice B_a s0.fcode.length B_c), (.int .i64 t_1.2.fat), (.int .u64 t_1.2.fseed)]⟩]) B_h B_ha [0] (by kernel_rfl)) ht_85) ?_)
  rintro w v w' hm ⟨rfl, hm'⟩
  refine ⟨_, hm.appW (ps := [(0, ⟨some A_b, 115, [(.slice B_a s0.fcode.length B_c), (.int .i64 t_2.2.fat), (.int .u64 t_2.2.fseed)]⟩)]) (N := []) hm' (by kernel_rfl) (by kernel_rfl), jkO ?_⟩
  clear hm hm'
  refine qh [0] (qe (jx_then (jc_meet (fun (j : (Arr 96 Int) × Int × Int) => match j with | ⟨a_3, i_4, i_5⟩ => spec_l02Drawn.k_6 s0 a_3 i_4 i_5 = some r) (fun (j : (Arr 96 Int) × Int × Int) => match j with | ⟨a_3, i_4, i_5⟩ => [(4, [], (.pointer (some ⟨b_1, 0, none⟩))), (5, [], (.pointer (some ⟨b_2, 0, none⟩)))]) (fun (j : (Arr 96 Int) × Int × Int) => match j with | ⟨a_3, i_4, i_5⟩ => [⟨some A_b, 115, [(.slice B_a s0.fcode.length B_c), (.int .i64 i_4), (.int .u64 i_5)]⟩, ⟨some E_b, 27, [(.int .i16 f1.fSteps), (.slice G_a f1.fHammers.length G_c)]⟩, ⟨(some b_1), 34, row encU32 ((Arr.rep 96 0).1) []⟩, ⟨(some b_2), 34, row encU32 a_3.1 []⟩]) ?_ ?_)))
  ·refine jc_block ?_
   obtain ⟨t_12, ht_165, hr_150⟩ := bd h
   refine jc_loop (fun (s : (Arr 96 Int) × Int × Int × Int) (x : Unit) => match s, x with | ⟨a_7, i_8, i_9, i_10⟩, _ => True) (fun (s : (Arr 96 Int) × Int × Int × Int) (x : Unit) => match s, x with | ⟨a_7, i_8, i_9, i_10⟩, _ => [(0, [], (.pointer (some ⟨A_b, 0, none⟩))), (1, [], (.pointer (some ⟨E_b, 0, none⟩))), (4, [], (.pointer (some ⟨b_1, 0, none⟩))), (5, [], (.pointer (some ⟨b_2, 0, none⟩))), (6, [], (.bool t_1.1)), (7, [], (.int .i64 i_10))]) (fun (s : (Arr 96 Int) × Int × Int × Int) (x : Unit) => match s, x with | ⟨a_7, i_8, i_9, i_10⟩, _ => [⟨some A_b, 115, [(.slice B_a s0.fcode.length B_c), (.int .i64 i_8), (.int .u64 i_9)]⟩, ⟨some E_b, 27, [(.int .i16 f1.fSteps), (.slice G_a f1.fHammers.length G_c)]⟩, ⟨(some b_1), 34, row encU32 ((Arr.rep 96 0).1) []⟩, ⟨(some b_2), 34, row encU32 a_7.1 []⟩]) ht_165 () trivial (by kernel_rfl) [0, 1, 2, 3] (by kernel_rfl) (by kernel_rfl) ?_
   rintro ⟨a_7, i_8, i_9, i_10⟩ _ y_151 _ h
   rw [spec_l02Drawn.l_11] at h
   refine jc_seq (jc_seq (jc_region (qh [0,0] (qe (jx_then (qi h (fun h => ?_) (fun h => ?_)))))))
   ·refine jc_skip (jx_then (jc_seq (jc_block (jc_seq (jc_region (qh [0,0,0,0,1,0] ?_))))))
    obtain ⟨t_13, ht_154, h⟩ := bd h
    refine tO (pc 0 (fun w hm => spec_l00Src_pick.calls (⟨s0.fcode, i_8, i_9⟩ : Gl00Src) (w64 f1.fSteps) w _ B_c (hm.exRowW B_h B_ha) rfl A_b (hm.pass (N := [⟨some A_b, 115, [(.slice B_a s0.fcode.length B_c), (.int .i64 i_8), (.int .u64 i_9)]⟩]) [0] (by kernel_rfl) (by kernel_rfl)) (hm.exApart (N := [⟨some A_b, 115, [(.slice B_a s0.fcode.length B_c), (.int .i64 i_8), (.int .u64 i_9)]⟩]) B_h B_ha [0] (by kernel_rfl)) ht_154) ?_)
    rintro w v w' hm ⟨rfl, hm'⟩
    refine ⟨_, hm.appW (ps := [(0, ⟨some A_b, 115, [(.slice B_a s0.fcode.length B_c), (.int .i64 t_13.2.fat), (.int .u64 t_13.2.fseed)]⟩)]) (N := []) hm' (by kernel_rfl) (by kernel_rfl), jkO ?_⟩
    clear hm hm'
    refine qh [0] (qe (jx_then (jc_seq (jc_region (qh [0,0,0,0,1,0] ?_)))))
    obtain ⟨t_14, ht_155, h⟩ := bd h
    refine tO (pc 0 (fun w hm => spec_l00Src_pick.calls (⟨s0.fcode, t_13.2.fat, t_13.2.fseed⟩ : Gl00Src) (f1.fHammers.length : Int) w _ B_c (hm.exRowW B_h B_ha) rfl A_b (hm.pass (N := [⟨some A_b, 115, [(.slice B_a s0.fcode.length B_c), (.int .i64 t_13.2.fat), (.int .u64 t_13.2.fseed)]⟩]) [0] (by kernel_rfl) (by kernel_rfl)) (hm.exApart (N := [⟨some A_b, 115, [(.slice B_a s0.fcode.length B_c), (.int .i64 t_13.2.fat), (.int .u64 t_13.2.fseed)]⟩]) B_h B_ha [0] (by kernel_rfl)) ht_155) ?_)
    rintro w v w' hm ⟨rfl, hm'⟩
    refine ⟨_, hm.appW (ps := [(0, ⟨some A_b, 115, [(.slice B_a s0.fcode.length B_c), (.int .i64 t_14.2.fat), (.int .u64 t_14.2.fseed)]⟩)]) (N := []) hm' (by kernel_rfl) (by kernel_rfl), jkO ?_⟩
    clear hm hm'
    refine qh [0] (qe (jx_then (jc_seq (jc_meet (fun (j : Bool) => match j with | q_15 => spec_l02Drawn.k_16 a_7 i_10 t_13 t_14 q_15 = some y_151) (fun (j : Bool) => match j with | q_15 => [(0, [], (.pointer (some ⟨A_b, 0, none⟩))), (1, [], (.pointer (some ⟨E_b, 0, none⟩))), (4, [], (.pointer (some ⟨b_1, 0, none⟩))), (5, [], (.pointer (some ⟨b_2, 0, none⟩))), (6, [], (.bool t_1.1)), (7, [], (.int .i64 i_10)), (8, [], (.int .i64 t_13.1)), (9, [], (.int .i64 t_14.1)), (39, [], (.bool q_15))]) (fun (j : Bool) => match j with | q_15 => [⟨some A_b, 115, [(.slice B_a s0.fcode.length B_c), (.int .i64 t_14.2.fat), (.int .u64 t_14.2.fseed)]⟩, ⟨some E_b, 27, [(.int .i16 f1.fSteps), (.slice G_a f1.fHammers.length G_c)]⟩, ⟨(some b_1), 34, row encU32 ((Arr.rep 96 0).1) []⟩, ⟨(some b_2), 34, row encU32 a_7.1 []⟩]) ?_ ?_))))
    ·refine jc_region (qf [(0, 0), (0, 0), (0, 1), (0, 1), (0, 1)] (qp 34 h (fun h => ?_) (fun h => ?_)))
     ·exact qf [(0, 3), (0, 4)] (qe (qm true h [0, 1, 2, 3]))
     ·obtain ⟨t_19, ht_163, h⟩ := bd h
      refine tO (pc 2 (fun w hm => spec_l02Free.calls f1 a_7 t_13.1 t_14.1 w _ G_c (hm.exRowW G_h G_ha) rfl (hm.ow 3 (some b_2) 34 a_7.1 [] (fun e => nomatch e) encU32_len) E_b (hm.pass (N := [⟨some E_b, 27, [(.int .i16 f1.fSteps), (.slice G_a f1.fHammers.length G_c)]⟩]) [1] (by kernel_rfl) (by kernel_rfl)) (hm.exApart (N := [⟨some E_b, 27, [(.int .i16 f1.fSteps), (.slice G_a f1.fHammers.length G_c)]⟩]) G_h G_ha [1] (by kernel_rfl)) (hm.ownApart (S := Int) (N := [⟨some E_b, 27, [(.int .i16 f1.fSteps), (.slice G_a f1.fHammers.length G_c)]⟩]) (hh := 3) (o := (some b_2)) (T := 34) (cs := row encU32 a_7.1 []) (xs := a_7.1) (by kernel_rfl) (fun e => nomatch e) [1] (by kernel_rfl) (by kernel_rfl)) ht_163) ?_)
      rintro w v w' hm ⟨rfl, hm'⟩
      refine ⟨_, hm.appW (ps := [(1, ⟨some E_b, 27, [(.int .i16 f1.fSteps), (.slice G_a f1.fHammers.length G_c)]⟩)]) (N := []) hm' (by kernel_rfl) (by kernel_rfl), jkO ?_⟩
      clear hm hm'
      exact qf [(0, 5)] (qe (qm t_19 h [0, 1, 2, 3]))
    ·rintro q_15 h
     replace h : spec_l02Drawn.k_16 a_7 i_10 t_13 t_14 q_15 = some y_151 := h
     rw [spec_l02Drawn.k_16] at h
     refine jx_then (qi h (fun h => ?_) (fun h => ?_))
     ·refine jc_region (qh [0,0] ?_)
      obtain ⟨x_17, hx_159, h⟩ := bd h
      refine tO (qx 0 (some ⟨b_2, 0, none⟩) 1 hx_159 a_7.2 rfl (jkO (tO (ql 0 false (fun w hm => ((hm.ow 3 (some b_2) 34 a_7.1 [] (fun e => nomatch e) encU32_len).at hx_159)) (jkO (qh [0,0] ?_))))))
      obtain ⟨hg_160, h⟩ := gd h
      refine tO (p_shl 0 .u32 1 .u64 (u64 t_14.1) (by kernel_rfl) (by kernel_rfl) hg_160 (jkO (qh [0] ?_)))
      obtain ⟨x_18, hx_161, h⟩ := bd h
      exact tO (qx 0 (some ⟨b_2, 0, none⟩) 1 hx_161 a_7.2 rfl (jkO (tO (p_str 0 3 b_2 34 encU32 a_7.1 [] t_13.1 (bOr .u32 x_17 (bShl .u32 1 (u64 t_14.1))) 1 0 [(.int .u32 (bOr .u32 x_17 (bShl .u32 1 (u64 t_14.1))))] (by kernel_rfl) (by kernel_rfl) (by kernel_rfl) encU32_len hx_161 (by kernel_rfl) (by kernel_rfl) (jkO (qe (jx_inn (jx_then (jc_region (qh [0,0,0] (qe (qb ((Arr.set a_7 t_13.1 (bOr .u32 x_17 (bShl .u32 1 (u64 t_14.1)))), t_14.2.fat, t_14.2.fseed, (w64 (i_10 - 1))) () h trivial [0, 1, 2, 3]))))))))))))
     ·exact jc_skip (jx_inn (jx_then (jc_region (qh [0,0,0] (qe (qb (a_7, t_14.2.fat, t_14.2.fseed, (w64 (i_10 - 1))) () h trivial [0, 1, 2, 3]))))))
   ·refine jc_exit (jx_thenx (jx_leave (a_7, i_8, i_9) (Option.some.inj h).symm (fun e_164 => ?_)))
    subst e_164
    exact jx_ine (qm ⟨a_7, i_8, i_9⟩ hr_150 [0, 1, 2, 3])
  ·rintro ⟨a_3, i_4, i_5⟩ h
   replace h : spec_l02Drawn.k_6 s0 a_3 i_4 i_5 = some r := h
   rw [spec_l02Drawn.k_6] at h
   refine jx_then (jc_seq (jc_region (tO (p_ldA 0 3 b_2 96 1 34 encU32 a_3 (by kernel_rfl) (by kernel_rfl) (by kernel_rfl) encU32_len (by kernel_rfl) (jkO (tO (p_sA 0 2 b_1 96 1 34 encU32 (Arr.rep 96 0) a_3 (by kernel_rfl) (by kernel_rfl) (by kernel_rfl) encU32_len encU32_cell (by kernel_rfl) (jkO (qe (jx_then (jc_ret ?_)))))))))))
   obtain rfl := Option.some.inj h
   exact jx_retV rfl (rq_arr (b := b_1) (T' := 34) (hh := 2) (mm := 1) encU32 a_3 (by kernel_rfl) (by kernel_rfl) encU32_len (by kernel_rfl) rq_nil) (fun w hm => ⟨rfl, hm.pk [0, 1]⟩)
/-! ### spec.P6Drum -/
def spec_P6Drum (code0 : List Int) (f1 : GFrame) : Option ((Arr 96 Int)) := (spec_l00From code0).bind fun t_1 => (spec_l02Drawn (⟨code0, t_1.fat, t_1.fseed⟩ : Gl00Src) f1).bind fun t_2 => some t_2.1
theorem spec_P6Drum.calls (code0 : List Int) (f1 : GFrame) (w : World) (r : (Arr 96 Int)) {A_a : Option Addr} {A_an : Nat} (A_c : Nat) (A_h : Rw w A_a 1 encU8 code0) (A_hn : code0.length = A_an) {D_a : Option Addr} {D_an : Nat} (D_c : Nat) (D_h : Rw w D_a 2 encGHammer f1.fHammers) (D_hn : f1.fHammers.length = D_an) (h : spec_P6Drum code0 f1 = some r) :
    Calls Tryz.prog 7 #[(.slice A_a A_an A_c), (.agg #[(.int .i16 f1.fSteps), (.slice D_a D_an D_c)])] w fun e w' => ∃ v, e = .returned v ∧ (v = (.agg (row encU32 r.1 []).toArray) ∧ Mem w [] [] w') := by
  subst A_hn D_hn
  rw [spec_P6Drum] at h
  refine enter (args := [(.slice A_a code0.length A_c), (.agg #[(.int .i16 f1.fSteps), (.slice D_a f1.fHammers.length D_c)])]) Tryz.func7 rfl Tryz.ntmps7 (by kernel_rfl) (L := []) (W := []) (Mem.start w) ?_
  refine jc_seq (jc_region (tO (qa 0 (fun b_1 => jkO (tO (qa 0 (fun b_2 => jkO (qe (jx_then (jc_seq (jc_region (qh [0] ?_))))))))))))
  obtain ⟨t_1, ht_3, h⟩ := bd h
  refine tO (pc 0 (fun w hm => spec_l00From.calls code0 w _ A_c (hm.xr A_h) rfl ht_3) ?_)
  rintro w v w' hm ⟨b_4, rfl, hm'⟩
  refine ⟨_, hm.app hm', jkO ?_⟩
  clear hm hm'
  obtain ⟨t_2, ht_5, h⟩ := bd h
  refine tO (pc 0 (fun w hm => spec_l02Drawn.calls (⟨code0, t_1.fat, t_1.fseed⟩ : Gl00Src) f1 w _ A_c (hm.xr A_h) rfl D_c (hm.xr D_h) rfl b_4 b_1 (hm.pass (N := [⟨some b_4, 115, [(.slice A_a code0.length A_c), (.int .i64 t_1.fat), (.int .u64 t_1.fseed)]⟩, ⟨some b_1, 27, [(.int .i16 f1.fSteps), (.slice D_a f1.fHammers.length D_c)]⟩]) [2, 0] (by kernel_rfl) (by kernel_rfl)) (hm.exApart (N := [⟨some b_4, 115, [(.slice A_a code0.length A_c), (.int .i64 t_1.fat), (.int .u64 t_1.fseed)]⟩, ⟨some b_1, 27, [(.int .i16 f1.fSteps), (.slice D_a f1.fHammers.length D_c)]⟩]) A_h (fun _ => List.not_mem_nil) [2, 0] (by kernel_rfl)) (hm.exApart (N := [⟨some b_4, 115, [(.slice A_a code0.length A_c), (.int .i64 t_1.fat), (.int .u64 t_1.fseed)]⟩, ⟨some b_1, 27, [(.int .i16 f1.fSteps), (.slice D_a f1.fHammers.length D_c)]⟩]) D_h (fun _ => List.not_mem_nil) [2, 0] (by kernel_rfl)) ht_5) ?_)
  rintro w v w' hm ⟨rfl, hm'⟩
  refine ⟨_, hm.appW (ps := [(2, ⟨some b_4, 115, [(.slice A_a code0.length A_c), (.int .i64 t_2.2.fat), (.int .u64 t_2.2.fseed)]⟩), (0, ⟨some b_1, 27, [(.int .i16 f1.fSteps), (.slice D_a f1.fHammers.length D_c)]⟩)]) (N := []) hm' (by kernel_rfl) (by kernel_rfl), jkO ?_⟩
  clear hm hm'
  refine tO (p_sA 0 1 b_2 96 1 34 encU32 (Arr.rep 96 0) t_2.1 (by kernel_rfl) (by kernel_rfl) (by kernel_rfl) encU32_len encU32_cell (by kernel_rfl) (jkO (qe (jx_then (jc_ret ?_)))))
  obtain rfl := Option.some.inj h
  exact jx_retV rfl (rq_arr (b := b_2) (T' := 34) (hh := 1) (mm := 1) encU32 t_2.1 (by kernel_rfl) (by kernel_rfl) encU32_len (by kernel_rfl) rq_nil) (fun w hm => ⟨rfl, hm.pk []⟩)
/-! ### impl.within -/
def impl_within (n0 : Int) (low1 : Int) (high2 : Int) : Option (Bool) := some ((decide (low1 ≤ n0)) && (decide (n0 ≤ high2)))
theorem impl_within.calls (n0 : Int) (low1 : Int) (high2 : Int) (w : World) (r : Bool) (h : impl_within n0 low1 high2 = some r) :
    Calls Tryz.prog 76 #[(.int .i64 n0), (.int .i64 low1), (.int .i64 high2)] w fun e w' => ∃ v, e = .returned v ∧ (v = (.bool r) ∧ Mem w [] [] w') := by
  rw [impl_within] at h
  refine enter (args := [(.int .i64 n0), (.int .i64 low1), (.int .i64 high2)]) Tryz.func76 rfl Tryz.ntmps76 (by kernel_rfl) (L := []) (W := []) (Mem.start w) ?_
  refine jc_seq (jc_region (qh [0] (qe (jx_then (jc_seq (jc_region (qf [(0, 0), (0, 0), (0, 0), (0, 0), (0, 1), (0, 1), (0, 1), (0, 0), (0, 0)] (qe (jx_then (jc_ret ?_))))))))))
  obtain rfl := Option.some.inj h
  exact qr [] (fun w hm => ⟨rfl, hm.pk []⟩)
/-! ### impl.size[impl.Hammer] -/
def impl_size_Hammer (list0 : List GHammer) : Option (Int) := some (list0.length : Int)
theorem impl_size_Hammer.calls (list0 : List GHammer) (w : World) (r : Int) {A_a : Option Addr} {A_an : Nat} (A_c : Nat) (A_h : Rw w A_a 2 encGHammer list0) (A_hn : list0.length = A_an) (h : impl_size_Hammer list0 = some r) :
    Calls Tryz.prog 83 #[(.slice A_a A_an A_c)] w fun e w' => ∃ v, e = .returned v ∧ (v = (.int .i64 r) ∧ Mem w [] [] w') := by
  subst A_hn
  rw [impl_size_Hammer] at h
  refine enter (args := [(.slice A_a list0.length A_c)]) Tryz.func83 rfl Tryz.ntmps83 (by kernel_rfl) (L := []) (W := []) (Mem.start w) ?_
  refine jc_seq (jc_region (qh [0] (qe (jx_then (jc_seq (jc_region (qh [0,0,0] (qe (jx_then (jc_ret ?_))))))))))
  obtain rfl := Option.some.inj h
  exact qr [] (fun w hm => ⟨rfl, hm.pk []⟩)
/-! ### impl.isPitch -/
def impl_isPitch (n0 : Int) : Option (Bool) := (impl_within n0 0 47).bind fun t_1 => some t_1
theorem impl_isPitch.calls (n0 : Int) (w : World) (r : Bool) (h : impl_isPitch n0 = some r) :
    Calls Tryz.prog 102 #[(.int .i64 n0)] w fun e w' => ∃ v, e = .returned v ∧ (v = (.bool r) ∧ Mem w [] [] w') := by
  rw [impl_isPitch] at h
  refine enter (args := [(.int .i64 n0)]) Tryz.func102 rfl Tryz.ntmps102 (by kernel_rfl) (L := []) (W := []) (Mem.start w) ?_
  refine jc_seq (jc_region (qh [0] (qe (jx_then (jc_seq (jc_region (qh [0] ?_)))))))
  obtain ⟨t_1, ht_1, h⟩ := bd h
  refine tO (pc 0 (fun w hm => impl_within.calls n0 0 47 w _ ht_1) ?_)
  rintro w v w' hm ⟨rfl, hm'⟩
  refine ⟨_, hm.app hm', jkO ?_⟩
  clear hm hm'
  refine qh [0] (qe (jx_then (jc_ret ?_)))
  obtain rfl := Option.some.inj h
  exact qr [] (fun w hm => ⟨rfl, hm.pk []⟩)
/-! ### impl.ValidFrame$1 -/
def impl_ValidFrame_1 (h0 : GHammer) (p1 : GFrame) : Option (Bool) := (impl_isPitch (w64 h0.fPitch)).bind fun t_1 => (if (!t_1) = true then some true else (impl_within (w64 h0.fReady) 1 (if (w64 p1.fSteps) < 20 then (w64 p1.fSteps) else 20)).bind fun t_2 => some (!t_2))
theorem impl_ValidFrame_1.calls (h0 : GHammer) (p1 : GFrame) (w : World) (r : Bool) {F_a : Option Addr} {F_an : Nat} (F_c : Nat) (F_h : Rw w F_a 2 encGHammer p1.fHammers) (F_hn : p1.fHammers.length = F_an) (D_b : Nat) (hm0 : Mem w (bs [some D_b]) [⟨some D_b, 27, [(.int .i16 p1.fSteps), (.slice F_a F_an F_c)]⟩] w) (F_ha : p1.fHammers ≠ [] → aB F_a ∉ bs [some D_b]) (h : impl_ValidFrame_1 h0 p1 = some r) :
    Calls Tryz.prog 101 #[(.agg #[(.int .i8 h0.fPitch), (.int .i8 h0.fReady)]), (.pointer (some ⟨D_b, 0, none⟩))] w fun e w' => ∃ v, e = .returned v ∧ (v = (.bool r) ∧ Mem w (bs [some D_b]) [⟨some D_b, 27, [(.int .i16 p1.fSteps), (.slice F_a F_an F_c)]⟩] w') := by
  subst F_hn
  rw [impl_ValidFrame_1] at h
  refine enter (args := [(.agg #[(.int .i8 h0.fPitch), (.int .i8 h0.fReady)]), (.pointer (some ⟨D_b, 0, none⟩))]) Tryz.func101 rfl Tryz.ntmps101 (by kernel_rfl) (L := [⟨some D_b, 27, [(.int .i16 p1.fSteps), (.slice F_a p1.fHammers.length F_c)]⟩]) (W := bs [some D_b]) hm0 ?_
  refine jc_seq (jc_region (tO (qa 0 (fun b_1 => jkO (qh [0] (qe (jx_then (jc_seq (jc_region (qh [0,1,0] ?_))))))))))
  obtain ⟨t_1, ht_2, h⟩ := bd h
  refine tO (pc 0 (fun w hm => impl_isPitch.calls (w64 h0.fPitch) w _ ht_2) ?_)
  rintro w v w' hm ⟨rfl, hm'⟩
  refine ⟨_, hm.app hm', jkO ?_⟩
  clear hm hm'
  refine qf [(0, 0), (0, 0), (0, 1), (1, 1), (0, 1), (0, 1), (0, 1), (0, 1), (0, 1)] (qp 9 h (fun h => ?_) (fun h => ?_))
  ·refine qf [(0, 3), (0, 3), (0, 4), (0, 0)] (qe (jx_then (jc_ret ?_)))
   obtain rfl := Option.some.inj h
   exact qr [] (fun w hm => ⟨rfl, hm.pk [0]⟩)
  ·obtain ⟨t_2, ht_4, h⟩ := bd h
   refine tO (pc 2 (fun w hm => impl_within.calls (w64 h0.fReady) 1 (if (w64 p1.fSteps) < 20 then (w64 p1.fSteps) else 20) w _ ht_4) ?_)
   rintro w v w' hm ⟨rfl, hm'⟩
   refine ⟨_, hm.app hm', jkO ?_⟩
   clear hm hm'
   refine qf [(0, 2), (0, 5), (0, 0)] (qe (jx_then (jc_ret ?_)))
   obtain rfl := Option.some.inj h
   exact qr [] (fun w hm => ⟨rfl, hm.pk [0]⟩)
/-! ### slices.IndexFunc[[]impl.Hammer,impl.Hammer] -/
def slices_IndexFunc_Hammer_at_impl_ValidFrame_1.k_1 : Option (Int) := some (-1)
def slices_IndexFunc_Hammer_at_impl_ValidFrame_1.l_3 (s0 : List GHammer) (g1c0 : GFrame) : Int → Option ((Int) ⊕ (Int ⊕ Unit))
  | i_2 => (if (decide (i_2 < (s0.length : Int))) = true then (ix s0 i_2).bind fun x_5 => (impl_ValidFrame_1 x_5 g1c0).bind fun t_6 => (if t_6 = true then some (.inr (.inl i_2)) else some (.inl (w64 (i_2 + 1)))) else some (.inr (.inr ())))
def slices_IndexFunc_Hammer_at_impl_ValidFrame_1 (s0 : List GHammer) (g1c0 : GFrame) : Option (Int) := (loop (slices_IndexFunc_Hammer_at_impl_ValidFrame_1.l_3 s0 g1c0) 0).bind fun t_4 => match t_4 with | .inl p => some p | .inr p => slices_IndexFunc_Hammer_at_impl_ValidFrame_1.k_1
theorem slices_IndexFunc_Hammer_at_impl_ValidFrame_1.calls (s0 : List GHammer) (g1c0 : GFrame) (w : World) (r : Int) {A_a : Option Addr} {A_an : Nat} (A_c : Nat) (A_h : Rw w A_a 2 encGHammer s0) (A_hn : s0.length = A_an) {D_a : Option Addr} {D_an : Nat} (D_c : Nat) (D_h : Rw w D_a 2 encGHammer g1c0.fHammers) (D_hn : g1c0.fHammers.length = D_an) (B_b : Nat) (hm0 : Mem w (bs [some B_b]) [⟨some B_b, 27, [(.int .i16 g1c0.fSteps), (.slice D_a D_an D_c)]⟩] w) (A_ha : s0 ≠ [] → aB A_a ∉ bs [some B_b]) (D_ha : g1c0.fHammers ≠ [] → aB D_a ∉ bs [some B_b]) (h : slices_IndexFunc_Hammer_at_impl_ValidFrame_1 s0 g1c0 = some r) :
    Calls Tryz.prog 118 #[(.slice A_a A_an A_c), (.func (.func 101) #[] #[(.pointer (some ⟨B_b, 0, none⟩))])] w fun e w' => ∃ v, e = .returned v ∧ (v = (.int .i64 r) ∧ Mem w (bs [some B_b]) [⟨some B_b, 27, [(.int .i16 g1c0.fSteps), (.slice D_a D_an D_c)]⟩] w') := by
  subst A_hn D_hn
  rw [slices_IndexFunc_Hammer_at_impl_ValidFrame_1] at h
  refine enter (args := [(.slice A_a s0.length A_c), (.func (.func 101) #[] #[(.pointer (some ⟨B_b, 0, none⟩))])]) Tryz.func118 rfl Tryz.ntmps118 (by kernel_rfl) (L := [⟨some B_b, 27, [(.int .i16 g1c0.fSteps), (.slice D_a g1c0.fHammers.length D_c)]⟩]) (W := bs [some B_b]) hm0 ?_
  refine jc_seq (jc_region (qh [0] (qe (jx_then (jc_seq (jc_seq (jc_region (qh [0,0,0] (qe (jx_then (jc_meet (fun (_ : Unit) => slices_IndexFunc_Hammer_at_impl_ValidFrame_1.k_1 = some r) (fun (_ : Unit) => [(4, [], (.int .i64 0))]) (fun (_ : Unit) => [⟨some B_b, 27, [(.int .i16 g1c0.fSteps), (.slice D_a g1c0.fHammers.length D_c)]⟩]) ?_ ?_)))))))))))
  ·refine jc_block ?_
   obtain ⟨t_4, ht_40, hr_31⟩ := bd h
   refine jc_loop (fun (s : Int) (x : Unit) => match s, x with | i_2, _ => True) (fun (s : Int) (x : Unit) => match s, x with | i_2, _ => [(0, [], (.slice A_a s0.length A_c)), (1, [], (.func (.func 101) #[] #[(.pointer (some ⟨B_b, 0, none⟩))])), (4, [], (.int .i64 0)), (7, [], (.int .i64 (s0.length : Int))), (8, [], (.int .i64 i_2))]) (fun (s : Int) (x : Unit) => match s, x with | i_2, _ => [⟨some B_b, 27, [(.int .i16 g1c0.fSteps), (.slice D_a g1c0.fHammers.length D_c)]⟩]) ht_40 () trivial (by kernel_rfl) [0] (by kernel_rfl) (by kernel_rfl) ?_
   rintro i_2 _ y_32 _ h
   rw [slices_IndexFunc_Hammer_at_impl_ValidFrame_1.l_3] at h
   refine jc_seq (jc_region (qh [0] (qe (jx_then (jc_seq (qi h (fun h => ?_) (fun h => ?_)))))))
   ·refine jc_skip (jx_then (jc_seq (jc_block (jc_seq (jc_region (qh [0,0] (qe (jx_then (jc_seq (jc_region (qh [0,0,0] ?_)))))))))))
    obtain ⟨x_5, hx_35, h⟩ := bd h
    refine tO (qx 0 A_a 2 hx_35 rfl (A_h.sp hx_35) (jkO (tO (ql 0 true (fun w hm => ((hm.exRowW A_h A_ha).at hx_35)) (jkO ?_)))))
    obtain ⟨t_6, ht_36, h⟩ := bd h
    refine tO (pc 0 (fun w hm => impl_ValidFrame_1.calls x_5 g1c0 w _ D_c (hm.exRowW D_h D_ha) rfl B_b (hm.pass (N := [⟨some B_b, 27, [(.int .i16 g1c0.fSteps), (.slice D_a g1c0.fHammers.length D_c)]⟩]) [0] (by kernel_rfl) (by kernel_rfl)) (hm.exApart (N := [⟨some B_b, 27, [(.int .i16 g1c0.fSteps), (.slice D_a g1c0.fHammers.length D_c)]⟩]) D_h D_ha [0] (by kernel_rfl)) ht_36) ?_)
    rintro w v w' hm ⟨rfl, hm'⟩
    refine ⟨_, hm.appW (ps := [(0, ⟨some B_b, 27, [(.int .i16 g1c0.fSteps), (.slice D_a g1c0.fHammers.length D_c)]⟩)]) (N := []) hm' (by kernel_rfl) (by kernel_rfl), jkO ?_⟩
    clear hm hm'
    refine qe (jx_then (qi h (fun h => ?_) (fun h => ?_)))
    ·refine jc_seq (jc_region (qh [0,0] (qe (jx_then (jc_ret (jx_inr (jx_thenr (jx_leaver (.inl i_2) (Option.some.inj h).symm (fun e_38 => ?_)))))))))
     subst e_38
     refine jx_inr (jx_thenr (jx_thenr ?_))
     obtain rfl := Option.some.inj hr_31
     exact qr [] (fun w hm => ⟨rfl, hm.pk [0]⟩)
    ·exact jc_skip (jx_inn (jx_then (jc_region (qh [0,0] (qe (qb (w64 (i_2 + 1)) () h trivial [0]))))))
   ·refine jc_exit (jx_thenx (jx_leave (.inr ()) (Option.some.inj h).symm (fun e_39 => ?_)))
    subst e_39
    exact jx_ine (qm () hr_31 [0])
  ·rintro _ h
   replace h : slices_IndexFunc_Hammer_at_impl_ValidFrame_1.k_1 = some r := h
   rw [slices_IndexFunc_Hammer_at_impl_ValidFrame_1.k_1] at h
   refine jx_then (jc_seq (jc_region (qh [0] (qe (jx_then (jc_ret ?_))))))
   obtain rfl := Option.some.inj h
   exact qr [] (fun w hm => ⟨rfl, hm.pk [0]⟩)
/-! ### slices.ContainsFunc[[]impl.Hammer,impl.Hammer] -/
def slices_ContainsFunc_Hammer_at_impl_ValidFrame_1 (s0 : List GHammer) (g1c0 : GFrame) : Option (Bool) := (slices_IndexFunc_Hammer_at_impl_ValidFrame_1 s0 g1c0).bind fun t_1 => some (decide (t_1 ≥ 0))
theorem slices_ContainsFunc_Hammer_at_impl_ValidFrame_1.calls (s0 : List GHammer) (g1c0 : GFrame) (w : World) (r : Bool) {A_a : Option Addr} {A_an : Nat} (A_c : Nat) (A_h : Rw w A_a 2 encGHammer s0) (A_hn : s0.length = A_an) {D_a : Option Addr} {D_an : Nat} (D_c : Nat) (D_h : Rw w D_a 2 encGHammer g1c0.fHammers) (D_hn : g1c0.fHammers.length = D_an) (B_b : Nat) (hm0 : Mem w (bs [some B_b]) [⟨some B_b, 27, [(.int .i16 g1c0.fSteps), (.slice D_a D_an D_c)]⟩] w) (A_ha : s0 ≠ [] → aB A_a ∉ bs [some B_b]) (D_ha : g1c0.fHammers ≠ [] → aB D_a ∉ bs [some B_b]) (h : slices_ContainsFunc_Hammer_at_impl_ValidFrame_1 s0 g1c0 = some r) :
    Calls Tryz.prog 100 #[(.slice A_a A_an A_c), (.func (.func 101) #[] #[(.pointer (some ⟨B_b, 0, none⟩))])] w fun e w' => ∃ v, e = .returned v ∧ (v = (.bool r) ∧ Mem w (bs [some B_b]) [⟨some B_b, 27, [(.int .i16 g1c0.fSteps), (.slice D_a D_an D_c)]⟩] w') := by
  subst A_hn D_hn
  rw [slices_ContainsFunc_Hammer_at_impl_ValidFrame_1] at h
  refine enter (args := [(.slice A_a s0.length A_c), (.func (.func 101) #[] #[(.pointer (some ⟨B_b, 0, none⟩))])]) Tryz.func100 rfl Tryz.ntmps100 (by kernel_rfl) (L := [⟨some B_b, 27, [(.int .i16 g1c0.fSteps), (.slice D_a g1c0.fHammers.length D_c)]⟩]) (W := bs [some B_b]) hm0 ?_
  refine jc_seq (jc_region (qh [0] (qe (jx_then (jc_seq (jc_region (qh [0,0] ?_)))))))
  obtain ⟨t_1, ht_1, h⟩ := bd h
  refine tO (pc 0 (fun w hm => slices_IndexFunc_Hammer_at_impl_ValidFrame_1.calls s0 g1c0 w _ A_c (hm.exRowW A_h A_ha) rfl D_c (hm.exRowW D_h D_ha) rfl B_b (hm.pass (N := [⟨some B_b, 27, [(.int .i16 g1c0.fSteps), (.slice D_a g1c0.fHammers.length D_c)]⟩]) [0] (by kernel_rfl) (by kernel_rfl)) (hm.exApart (N := [⟨some B_b, 27, [(.int .i16 g1c0.fSteps), (.slice D_a g1c0.fHammers.length D_c)]⟩]) A_h A_ha [0] (by kernel_rfl)) (hm.exApart (N := [⟨some B_b, 27, [(.int .i16 g1c0.fSteps), (.slice D_a g1c0.fHammers.length D_c)]⟩]) D_h D_ha [0] (by kernel_rfl)) ht_1) ?_)
  rintro w v w' hm ⟨rfl, hm'⟩
  refine ⟨_, hm.appW (ps := [(0, ⟨some B_b, 27, [(.int .i16 g1c0.fSteps), (.slice D_a g1c0.fHammers.length D_c)]⟩)]) (N := []) hm' (by kernel_rfl) (by kernel_rfl), jkO ?_⟩
  clear hm hm'
  refine qh [0,0] (qe (jx_then (jc_ret ?_)))
  obtain rfl := Option.some.inj h
  exact qr [] (fun w hm => ⟨rfl, hm.pk [0]⟩)
/-! ### impl.ValidFrame -/
def impl_ValidFrame (f0 : GFrame) : Option (Bool) := (impl_within (w64 f0.fSteps) 2 96).bind fun t_1 => (if t_1 = true then (impl_size_Hammer f0.fHammers).bind fun t_2 => (impl_within t_2 1 24).bind fun t_3 => (if t_3 = true then (slices_ContainsFunc_Hammer_at_impl_ValidFrame_1 f0.fHammers f0).bind fun t_4 => some (!t_4) else some false) else some false)
theorem impl_ValidFrame.calls (f0 : GFrame) (w : World) (r : Bool) {C_a : Option Addr} {C_an : Nat} (C_c : Nat) (C_h : Rw w C_a 2 encGHammer f0.fHammers) (C_hn : f0.fHammers.length = C_an) (h : impl_ValidFrame f0 = some r) :
    Calls Tryz.prog 61 #[(.agg #[(.int .i16 f0.fSteps), (.slice C_a C_an C_c)])] w fun e w' => ∃ v, e = .returned v ∧ (v = (.bool r) ∧ Mem w [] [] w') := by
  subst C_hn
  rw [impl_ValidFrame] at h
  refine enter (args := [(.agg #[(.int .i16 f0.fSteps), (.slice C_a f0.fHammers.length C_c)])]) Tryz.func61 rfl Tryz.ntmps61 (by kernel_rfl) (L := []) (W := []) (Mem.start w) ?_
  refine jc_seq (jc_region (tO (qa 0 (fun b_1 => jkO (qh [0] (qe (jx_then (jc_seq (jc_region (qh [0,0,0] ?_))))))))))
  obtain ⟨t_1, ht_2, h⟩ := bd h
  refine tO (pc 0 (fun w hm => impl_within.calls (w64 f0.fSteps) 2 96 w _ ht_2) ?_)
  rintro w v w' hm ⟨rfl, hm'⟩
  refine ⟨_, hm.app hm', jkO ?_⟩
  clear hm hm'
  refine qf [(0, 0), (0, 1), (0, 1)] (qp 7 h (fun h => ?_) (fun h => ?_))
  ·obtain ⟨t_2, ht_4, h⟩ := bd h
   refine tO (pc 2 (fun w hm => impl_size_Hammer.calls f0.fHammers w _ C_c (hm.xr C_h) rfl ht_4) ?_)
   rintro w v w' hm ⟨rfl, hm'⟩
   refine ⟨_, hm.app hm', jkO ?_⟩
   clear hm hm'
   obtain ⟨t_3, ht_5, h⟩ := bd h
   refine tO (pc 2 (fun w hm => impl_within.calls t_2 1 24 w _ ht_5) ?_)
   rintro w v w' hm ⟨rfl, hm'⟩
   refine ⟨_, hm.app hm', jkO ?_⟩
   clear hm hm'
   refine qf [(0, 4), (0, 0), (0, 1), (0, 1), (0, 1)] (qp 13 h (fun h => ?_) (fun h => ?_))
   ·obtain ⟨t_4, ht_7, h⟩ := bd h
    refine tO (pc 2 (fun w hm => slices_ContainsFunc_Hammer_at_impl_ValidFrame_1.calls f0.fHammers f0 w _ C_c (hm.xr C_h) rfl C_c (hm.xr C_h) rfl b_1 (hm.pass (N := [⟨some b_1, 27, [(.int .i16 f0.fSteps), (.slice C_a f0.fHammers.length C_c)]⟩]) [0] (by kernel_rfl) (by kernel_rfl)) (hm.exApart (N := [⟨some b_1, 27, [(.int .i16 f0.fSteps), (.slice C_a f0.fHammers.length C_c)]⟩]) C_h (fun _ => List.not_mem_nil) [0] (by kernel_rfl)) (hm.exApart (N := [⟨some b_1, 27, [(.int .i16 f0.fSteps), (.slice C_a f0.fHammers.length C_c)]⟩]) C_h (fun _ => List.not_mem_nil) [0] (by kernel_rfl)) ht_7) ?_)
    rintro w v w' hm ⟨rfl, hm'⟩
    refine ⟨_, hm.appW (ps := [(0, ⟨some b_1, 27, [(.int .i16 f0.fSteps), (.slice C_a f0.fHammers.length C_c)]⟩)]) (N := []) hm' (by kernel_rfl) (by kernel_rfl), jkO ?_⟩
    clear hm hm'
    refine qf [(0, 2), (0, 4), (0, 0)] (qe (jx_then (jc_ret ?_)))
    obtain rfl := Option.some.inj h
    exact qr [] (fun w hm => ⟨rfl, hm.pk []⟩)
   ·refine qf [(0, 3), (0, 3), (0, 5), (0, 0)] (qe (jx_then (jc_ret ?_)))
    obtain rfl := Option.some.inj h
    exact qr [] (fun w hm => ⟨rfl, hm.pk []⟩)
  ·refine qf [(0, 3), (0, 3), (0, 5), (0, 0), (0, 3), (0, 3), (0, 3), (0, 3), (0, 3), (0, 5), (0, 0)] (qe (jx_then (jc_ret ?_)))
   obtain rfl := Option.some.inj h
   exact qr [] (fun w hm => ⟨rfl, hm.pk []⟩)
/-! ### (impl.Frame).isDrum -/
def impl_Frame_isDrum.k_1 : Option (Bool) := some true
def impl_Frame_isDrum.k_7 (i_2 : Int) (q_6 : Bool) : Option ((Int) ⊕ (Bool ⊕ Unit)) := (if q_6 = true then some (.inr (.inl false)) else some (.inl (w64 (i_2 + 1))))
def impl_Frame_isDrum.l_3 (f0 : GFrame) (d1 : Arr 96 Int) : Int → Option ((Int) ⊕ (Bool ⊕ Unit))
  | i_2 => (if (decide (i_2 < 96)) = true then (ix d1.1 i_2).bind fun x_5 => (if 0 ≤ (f0.fHammers.length : Int) then (if ((bShr .u32 x_5 (f0.fHammers.length : Int)) != 0) = true then impl_Frame_isDrum.k_7 i_2 true else impl_Frame_isDrum.k_7 i_2 ((decide (i_2 ≥ (w64 f0.fSteps))) && (x_5 != 0))) else none) else some (.inr (.inr ())))
def impl_Frame_isDrum (f0 : GFrame) (d1 : Arr 96 Int) : Option (Bool) := (loop (impl_Frame_isDrum.l_3 f0 d1) 0).bind fun t_4 => match t_4 with | .inl p => some p | .inr p => impl_Frame_isDrum.k_1
theorem impl_Frame_isDrum.calls (f0 : GFrame) (d1 : Arr 96 Int) (w : World) (r : Bool) {C_a : Option Addr} {C_an : Nat} (C_c : Nat) (C_h : Rw w C_a 2 encGHammer f0.fHammers) (C_hn : f0.fHammers.length = C_an) (h : impl_Frame_isDrum f0 d1 = some r) :
    Calls Tryz.prog 90 #[(.agg #[(.int .i16 f0.fSteps), (.slice C_a C_an C_c)]), (.agg (row encU32 d1.1 []).toArray)] w fun e w' => ∃ v, e = .returned v ∧ (v = (.bool r) ∧ Mem w [] [] w') := by
  subst C_hn
  rw [impl_Frame_isDrum] at h
  refine enter (args := [(.agg #[(.int .i16 f0.fSteps), (.slice C_a f0.fHammers.length C_c)]), (.agg (row encU32 d1.1 []).toArray)]) Tryz.func90 rfl Tryz.ntmps90 (by kernel_rfl) (L := []) (W := []) (Mem.start w) ?_
  refine jc_seq (jc_region (tO (qa 0 (fun b_1 => jkO (tO (qa 0 (fun b_2 => jkO (qh [0] (qe (jx_then (jc_seq (jc_seq (jc_region (tO (p_ldA 0 1 b_2 96 1 34 encU32 d1 (by kernel_rfl) (by kernel_rfl) (by kernel_rfl) encU32_len (by kernel_rfl) (jkO (qh [0] (qe (jx_then (jc_meet (fun (_ : Unit) => impl_Frame_isDrum.k_1 = some r) (fun (_ : Unit) => [(4, [], (.bool false))]) (fun (_ : Unit) => [⟨some b_1, 27, [(.int .i16 f0.fSteps), (.slice C_a f0.fHammers.length C_c)]⟩, ⟨(some b_2), 34, row encU32 d1.1 []⟩]) ?_ ?_))))))))))))))))))))
  ·refine jc_block ?_
   obtain ⟨t_4, ht_60, hr_48⟩ := bd h
   refine jc_loop (fun (s : Int) (x : Unit) => match s, x with | i_2, _ => True) (fun (s : Int) (x : Unit) => match s, x with | i_2, _ => [(2, [], (.pointer (some ⟨b_1, 0, none⟩))), (4, [], (.bool false)), (7, [], (.agg (row encU32 d1.1 []).toArray)), (8, [], (.int .i64 i_2))]) (fun (s : Int) (x : Unit) => match s, x with | i_2, _ => [⟨some b_1, 27, [(.int .i16 f0.fSteps), (.slice C_a f0.fHammers.length C_c)]⟩, ⟨(some b_2), 34, row encU32 d1.1 []⟩]) ht_60 () trivial (by kernel_rfl) [0, 1] (by kernel_rfl) (by kernel_rfl) ?_
   rintro i_2 _ y_49 _ h
   rw [impl_Frame_isDrum.l_3] at h
   refine jc_seq (jc_region (qh [0] (qe (jx_then (jc_seq (qi h (fun h => ?_) (fun h => ?_)))))))
   ·refine jc_skip (jx_then (jc_seq (jc_block (jc_seq (jc_region (qh [0] ?_))))))
    obtain ⟨x_5, hx_52, h⟩ := bd h
    refine tO (p_ixA 0 encU32 (fun x => (.int .u32 x)) d1 i_2 (by kernel_rfl) (by kernel_rfl) (fun _ => rfl) hx_52 (jkO (qh [0,0] (qe (jx_then (jc_seq (jc_meet (fun (j : Bool) => match j with | q_6 => impl_Frame_isDrum.k_7 i_2 q_6 = some y_49) (fun (j : Bool) => match j with | q_6 => [(2, [], (.pointer (some ⟨b_1, 0, none⟩))), (4, [], (.bool false)), (7, [], (.agg (row encU32 d1.1 []).toArray)), (8, [], (.int .i64 i_2)), (28, [], (.bool q_6))]) (fun (j : Bool) => match j with | q_6 => [⟨some b_1, 27, [(.int .i16 f0.fSteps), (.slice C_a f0.fHammers.length C_c)]⟩, ⟨(some b_2), 34, row encU32 d1.1 []⟩]) ?_ ?_)))))))
    ·refine jc_region (qh [0,0,0,0] ?_)
     obtain ⟨hg_57, h⟩ := gd h
     refine tO (p_shr 0 .u32 x_5 .i64 (f0.fHammers.length : Int) (by kernel_rfl) (by kernel_rfl) hg_57 (jkO (qf [(0, 0), (0, 0), (0, 1), (0, 1), (0, 1), (0, 1), (0, 1)] (qp 18 h (fun h => ?_) (fun h => ?_)))))
     ·exact qf [(0, 3), (0, 3), (0, 3), (0, 3), (0, 4)] (qe (qm true h [0, 1]))
     ·exact qf [(0, 2), (0, 1), (0, 1), (0, 2), (0, 5)] (qe (qm ((decide (i_2 ≥ (w64 f0.fSteps))) && (x_5 != 0)) h [0, 1]))
    ·rintro q_6 h
     replace h : impl_Frame_isDrum.k_7 i_2 q_6 = some y_49 := h
     rw [impl_Frame_isDrum.k_7] at h
     refine jx_then (qi h (fun h => ?_) (fun h => ?_))
     ·refine jc_seq (jc_region (qh [0] (qe (jx_then (jc_ret (jx_inr (jx_thenr (jx_leaver (.inl false) (Option.some.inj h).symm (fun e_56 => ?_)))))))))
      subst e_56
      refine jx_inr (jx_thenr (jx_thenr ?_))
      obtain rfl := Option.some.inj hr_48
      exact qr [] (fun w hm => ⟨rfl, hm.pk []⟩)
     ·exact jc_skip (jx_inn (jx_then (jc_region (qh [0,0] (qe (qb (w64 (i_2 + 1)) () h trivial [0, 1]))))))
   ·refine jc_exit (jx_thenx (jx_leave (.inr ()) (Option.some.inj h).symm (fun e_59 => ?_)))
    subst e_59
    exact jx_ine (qm () hr_48 [0, 1])
  ·rintro _ h
   replace h : impl_Frame_isDrum.k_1 = some r := h
   rw [impl_Frame_isDrum.k_1] at h
   refine jx_then (jc_seq (jc_region (qh [0] (qe (jx_then (jc_ret ?_))))))
   obtain rfl := Option.some.inj h
   exact qr [] (fun w hm => ⟨rfl, hm.pk []⟩)
/-! ### impl.drumCode$1 -/
def impl_drumCode_1 (d0 : Arr 96 Int) (p1 : GFrame) : Option (Bool) := (impl_Frame_isDrum p1 d0).bind fun t_1 => some (!t_1)
theorem impl_drumCode_1.calls (d0 : Arr 96 Int) (p1 : GFrame) (w : World) (r : Bool) {D_a : Option Addr} {D_an : Nat} (D_c : Nat) (D_h : Rw w D_a 2 encGHammer p1.fHammers) (D_hn : p1.fHammers.length = D_an) (B_b : Nat) (hm0 : Mem w (bs [some B_b]) [⟨some B_b, 27, [(.int .i16 p1.fSteps), (.slice D_a D_an D_c)]⟩] w) (D_ha : p1.fHammers ≠ [] → aB D_a ∉ bs [some B_b]) (h : impl_drumCode_1 d0 p1 = some r) :
    Calls Tryz.prog 89 #[(.agg (row encU32 d0.1 []).toArray), (.pointer (some ⟨B_b, 0, none⟩))] w fun e w' => ∃ v, e = .returned v ∧ (v = (.bool r) ∧ Mem w (bs [some B_b]) [⟨some B_b, 27, [(.int .i16 p1.fSteps), (.slice D_a D_an D_c)]⟩] w') := by
  subst D_hn
  rw [impl_drumCode_1] at h
  refine enter (args := [(.agg (row encU32 d0.1 []).toArray), (.pointer (some ⟨B_b, 0, none⟩))]) Tryz.func89 rfl Tryz.ntmps89 (by kernel_rfl) (L := [⟨some B_b, 27, [(.int .i16 p1.fSteps), (.slice D_a p1.fHammers.length D_c)]⟩]) (W := bs [some B_b]) hm0 ?_
  refine jc_seq (jc_region (tO (qa 0 (fun b_1 => jkO (qh [0] (qe (jx_then (jc_seq (jc_region (qh [0] (tO (p_ldA 0 1 b_1 96 1 34 encU32 d0 (by kernel_rfl) (by kernel_rfl) (by kernel_rfl) encU32_len (by kernel_rfl) (jkO ?_)))))))))))))
  obtain ⟨t_1, ht_2, h⟩ := bd h
  refine tO (pc 0 (fun w hm => impl_Frame_isDrum.calls p1 d0 w _ D_c (hm.exRowW D_h D_ha) rfl ht_2) ?_)
  rintro w v w' hm ⟨rfl, hm'⟩
  refine ⟨_, hm.app hm', jkO ?_⟩
  clear hm hm'
  refine qh [0,0] (qe (jx_then (jc_ret ?_)))
  obtain rfl := Option.some.inj h
  exact qr [] (fun w hm => ⟨rfl, hm.pk [0]⟩)
/-! ### slices.IndexFunc[[]impl.Drum,impl.Drum] -/
def slices_IndexFunc_Drum_at_impl_drumCode_1.k_1 : Option (Int) := some (-1)
def slices_IndexFunc_Drum_at_impl_drumCode_1.l_3 (s0 : List (Arr 96 Int)) (g1c0 : GFrame) : Int → Option ((Int) ⊕ (Int ⊕ Unit))
  | i_2 => (if (decide (i_2 < (s0.length : Int))) = true then (ix s0 i_2).bind fun x_5 => (impl_drumCode_1 x_5 g1c0).bind fun t_6 => (if t_6 = true then some (.inr (.inl i_2)) else some (.inl (w64 (i_2 + 1)))) else some (.inr (.inr ())))
def slices_IndexFunc_Drum_at_impl_drumCode_1 (s0 : List (Arr 96 Int)) (g1c0 : GFrame) : Option (Int) := (loop (slices_IndexFunc_Drum_at_impl_drumCode_1.l_3 s0 g1c0) 0).bind fun t_4 => match t_4 with | .inl p => some p | .inr p => slices_IndexFunc_Drum_at_impl_drumCode_1.k_1
theorem slices_IndexFunc_Drum_at_impl_drumCode_1.calls (s0 : List (Arr 96 Int)) (g1c0 : GFrame) (w : World) (r : Int) {A_a : Option Addr} {A_an : Nat} (A_c : Nat) (A_h : Rw w A_a 96 encA96U32 s0) (A_hn : s0.length = A_an) {D_a : Option Addr} {D_an : Nat} (D_c : Nat) (D_h : Rw w D_a 2 encGHammer g1c0.fHammers) (D_hn : g1c0.fHammers.length = D_an) (B_b : Nat) (hm0 : Mem w (bs [some B_b]) [⟨some B_b, 27, [(.int .i16 g1c0.fSteps), (.slice D_a D_an D_c)]⟩] w) (A_ha : s0 ≠ [] → aB A_a ∉ bs [some B_b]) (D_ha : g1c0.fHammers ≠ [] → aB D_a ∉ bs [some B_b]) (h : slices_IndexFunc_Drum_at_impl_drumCode_1 s0 g1c0 = some r) :
    Calls Tryz.prog 117 #[(.slice A_a A_an A_c), (.func (.func 89) #[] #[(.pointer (some ⟨B_b, 0, none⟩))])] w fun e w' => ∃ v, e = .returned v ∧ (v = (.int .i64 r) ∧ Mem w (bs [some B_b]) [⟨some B_b, 27, [(.int .i16 g1c0.fSteps), (.slice D_a D_an D_c)]⟩] w') := by
  subst A_hn D_hn
  rw [slices_IndexFunc_Drum_at_impl_drumCode_1] at h
  refine enter (args := [(.slice A_a s0.length A_c), (.func (.func 89) #[] #[(.pointer (some ⟨B_b, 0, none⟩))])]) Tryz.func117 rfl Tryz.ntmps117 (by kernel_rfl) (L := [⟨some B_b, 27, [(.int .i16 g1c0.fSteps), (.slice D_a g1c0.fHammers.length D_c)]⟩]) (W := bs [some B_b]) hm0 ?_
  refine jc_seq (jc_region (qh [0] (qe (jx_then (jc_seq (jc_seq (jc_region (qh [0,0,0] (qe (jx_then (jc_meet (fun (_ : Unit) => slices_IndexFunc_Drum_at_impl_drumCode_1.k_1 = some r) (fun (_ : Unit) => [(4, [], (.int .i64 0))]) (fun (_ : Unit) => [⟨some B_b, 27, [(.int .i16 g1c0.fSteps), (.slice D_a g1c0.fHammers.length D_c)]⟩]) ?_ ?_)))))))))))
  ·refine jc_block ?_
   obtain ⟨t_4, ht_40, hr_31⟩ := bd h
   refine jc_loop (fun (s : Int) (x : Unit) => match s, x with | i_2, _ => True) (fun (s : Int) (x : Unit) => match s, x with | i_2, _ => [(0, [], (.slice A_a s0.length A_c)), (1, [], (.func (.func 89) #[] #[(.pointer (some ⟨B_b, 0, none⟩))])), (4, [], (.int .i64 0)), (7, [], (.int .i64 (s0.length : Int))), (8, [], (.int .i64 i_2))]) (fun (s : Int) (x : Unit) => match s, x with | i_2, _ => [⟨some B_b, 27, [(.int .i16 g1c0.fSteps), (.slice D_a g1c0.fHammers.length D_c)]⟩]) ht_40 () trivial (by kernel_rfl) [0] (by kernel_rfl) (by kernel_rfl) ?_
   rintro i_2 _ y_32 _ h
   rw [slices_IndexFunc_Drum_at_impl_drumCode_1.l_3] at h
   refine jc_seq (jc_region (qh [0] (qe (jx_then (jc_seq (qi h (fun h => ?_) (fun h => ?_)))))))
   ·refine jc_skip (jx_then (jc_seq (jc_block (jc_seq (jc_region (qh [0,0] (qe (jx_then (jc_seq (jc_region (qh [0,0,0] ?_)))))))))))
    obtain ⟨x_5, hx_35, h⟩ := bd h
    refine tO (qx 0 A_a 96 hx_35 rfl (A_h.sp hx_35) (jkO (tO (p_ldx 0 (aB A_a) (aO A_a + i_2.toNat * 96) (encA96U32 x_5) 96 (by kernel_rfl) (by kernel_rfl) (encA96U32_len x_5) (fun w hm => ((hm.exRowW A_h A_ha).at hx_35)) (jkO ?_)))))
    obtain ⟨t_6, ht_36, h⟩ := bd h
    refine tO (pc 0 (fun w hm => impl_drumCode_1.calls x_5 g1c0 w _ D_c (hm.exRowW D_h D_ha) rfl B_b (hm.pass (N := [⟨some B_b, 27, [(.int .i16 g1c0.fSteps), (.slice D_a g1c0.fHammers.length D_c)]⟩]) [0] (by kernel_rfl) (by kernel_rfl)) (hm.exApart (N := [⟨some B_b, 27, [(.int .i16 g1c0.fSteps), (.slice D_a g1c0.fHammers.length D_c)]⟩]) D_h D_ha [0] (by kernel_rfl)) ht_36) ?_)
    rintro w v w' hm ⟨rfl, hm'⟩
    refine ⟨_, hm.appW (ps := [(0, ⟨some B_b, 27, [(.int .i16 g1c0.fSteps), (.slice D_a g1c0.fHammers.length D_c)]⟩)]) (N := []) hm' (by kernel_rfl) (by kernel_rfl), jkO ?_⟩
    clear hm hm'
    refine qe (jx_then (qi h (fun h => ?_) (fun h => ?_)))
    ·refine jc_seq (jc_region (qh [0,0] (qe (jx_then (jc_ret (jx_inr (jx_thenr (jx_leaver (.inl i_2) (Option.some.inj h).symm (fun e_38 => ?_)))))))))
     subst e_38
     refine jx_inr (jx_thenr (jx_thenr ?_))
     obtain rfl := Option.some.inj hr_31
     exact qr [] (fun w hm => ⟨rfl, hm.pk [0]⟩)
    ·exact jc_skip (jx_inn (jx_then (jc_region (qh [0,0] (qe (qb (w64 (i_2 + 1)) () h trivial [0]))))))
   ·refine jc_exit (jx_thenx (jx_leave (.inr ()) (Option.some.inj h).symm (fun e_39 => ?_)))
    subst e_39
    exact jx_ine (qm () hr_31 [0])
  ·rintro _ h
   replace h : slices_IndexFunc_Drum_at_impl_drumCode_1.k_1 = some r := h
   rw [slices_IndexFunc_Drum_at_impl_drumCode_1.k_1] at h
   refine jx_then (jc_seq (jc_region (qh [0] (qe (jx_then (jc_ret ?_))))))
   obtain rfl := Option.some.inj h
   exact qr [] (fun w hm => ⟨rfl, hm.pk [0]⟩)
/-! ### slices.ContainsFunc[[]impl.Drum,impl.Drum] -/
def slices_ContainsFunc_Drum_at_impl_drumCode_1 (s0 : List (Arr 96 Int)) (g1c0 : GFrame) : Option (Bool) := (slices_IndexFunc_Drum_at_impl_drumCode_1 s0 g1c0).bind fun t_1 => some (decide (t_1 ≥ 0))
theorem slices_ContainsFunc_Drum_at_impl_drumCode_1.calls (s0 : List (Arr 96 Int)) (g1c0 : GFrame) (w : World) (r : Bool) {A_a : Option Addr} {A_an : Nat} (A_c : Nat) (A_h : Rw w A_a 96 encA96U32 s0) (A_hn : s0.length = A_an) {D_a : Option Addr} {D_an : Nat} (D_c : Nat) (D_h : Rw w D_a 2 encGHammer g1c0.fHammers) (D_hn : g1c0.fHammers.length = D_an) (B_b : Nat) (hm0 : Mem w (bs [some B_b]) [⟨some B_b, 27, [(.int .i16 g1c0.fSteps), (.slice D_a D_an D_c)]⟩] w) (A_ha : s0 ≠ [] → aB A_a ∉ bs [some B_b]) (D_ha : g1c0.fHammers ≠ [] → aB D_a ∉ bs [some B_b]) (h : slices_ContainsFunc_Drum_at_impl_drumCode_1 s0 g1c0 = some r) :
    Calls Tryz.prog 88 #[(.slice A_a A_an A_c), (.func (.func 89) #[] #[(.pointer (some ⟨B_b, 0, none⟩))])] w fun e w' => ∃ v, e = .returned v ∧ (v = (.bool r) ∧ Mem w (bs [some B_b]) [⟨some B_b, 27, [(.int .i16 g1c0.fSteps), (.slice D_a D_an D_c)]⟩] w') := by
  subst A_hn D_hn
  rw [slices_ContainsFunc_Drum_at_impl_drumCode_1] at h
  refine enter (args := [(.slice A_a s0.length A_c), (.func (.func 89) #[] #[(.pointer (some ⟨B_b, 0, none⟩))])]) Tryz.func88 rfl Tryz.ntmps88 (by kernel_rfl) (L := [⟨some B_b, 27, [(.int .i16 g1c0.fSteps), (.slice D_a g1c0.fHammers.length D_c)]⟩]) (W := bs [some B_b]) hm0 ?_
  refine jc_seq (jc_region (qh [0] (qe (jx_then (jc_seq (jc_region (qh [0,0] ?_)))))))
  obtain ⟨t_1, ht_1, h⟩ := bd h
  refine tO (pc 0 (fun w hm => slices_IndexFunc_Drum_at_impl_drumCode_1.calls s0 g1c0 w _ A_c (hm.exRowW A_h A_ha) rfl D_c (hm.exRowW D_h D_ha) rfl B_b (hm.pass (N := [⟨some B_b, 27, [(.int .i16 g1c0.fSteps), (.slice D_a g1c0.fHammers.length D_c)]⟩]) [0] (by kernel_rfl) (by kernel_rfl)) (hm.exApart (N := [⟨some B_b, 27, [(.int .i16 g1c0.fSteps), (.slice D_a g1c0.fHammers.length D_c)]⟩]) A_h A_ha [0] (by kernel_rfl)) (hm.exApart (N := [⟨some B_b, 27, [(.int .i16 g1c0.fSteps), (.slice D_a g1c0.fHammers.length D_c)]⟩]) D_h D_ha [0] (by kernel_rfl)) ht_1) ?_)
  rintro w v w' hm ⟨rfl, hm'⟩
  refine ⟨_, hm.appW (ps := [(0, ⟨some B_b, 27, [(.int .i16 g1c0.fSteps), (.slice D_a g1c0.fHammers.length D_c)]⟩)]) (N := []) hm' (by kernel_rfl) (by kernel_rfl), jkO ?_⟩
  clear hm hm'
  refine qh [0,0] (qe (jx_then (jc_ret ?_)))
  obtain rfl := Option.some.inj h
  exact qr [] (fun w hm => ⟨rfl, hm.pk [0]⟩)
/-! ### impl.unless -/
def impl_unless (is0 : Bool) (code1 : Int) : Option (Int) := (if is0 = true then some 0 else some code1)
theorem impl_unless.calls (is0 : Bool) (code1 : Int) (w : World) (r : Int) (h : impl_unless is0 code1 = some r) :
    Calls Tryz.prog 74 #[(.bool is0), (.int .i64 code1)] w fun e w' => ∃ v, e = .returned v ∧ (v = (.int .i64 r) ∧ Mem w [] [] w') := by
  rw [impl_unless] at h
  refine enter (args := [(.bool is0), (.int .i64 code1)]) Tryz.func74 rfl Tryz.ntmps74 (by kernel_rfl) (L := []) (W := []) (Mem.start w) ?_
  refine jc_seq (jc_region (qh [0] (qe (jx_then (jc_seq (jc_seq (jc_region (qh [0] (qe (jx_then (qi h (fun h => ?_) (fun h => ?_))))))))))))
  ·refine jc_seq (jc_region (qh [0] (qe (jx_then (jc_ret (jx_thenr ?_))))))
   obtain rfl := Option.some.inj h
   exact qr [] (fun w hm => ⟨rfl, hm.pk []⟩)
  ·refine jc_skip (jx_then (jc_seq (jc_region (qh [0,0] (qe (jx_then (jc_ret ?_)))))))
   obtain rfl := Option.some.inj h
   exact qr [] (fun w hm => ⟨rfl, hm.pk []⟩)
/-! ### impl.drumCode -/
def impl_drumCode (f0 : GFrame) (list1 : List (Arr 96 Int)) : Option (Int) := (impl_ValidFrame f0).bind fun t_1 => (if t_1 = true then (slices_ContainsFunc_Drum_at_impl_drumCode_1 list1 f0).bind fun t_2 => (impl_unless (!t_2) 1).bind fun t_3 => some t_3 else (impl_unless false 1).bind fun t_4 => some t_4)
theorem impl_drumCode.calls (f0 : GFrame) (list1 : List (Arr 96 Int)) (w : World) (r : Int) {C_a : Option Addr} {C_an : Nat} (C_c : Nat) (C_h : Rw w C_a 2 encGHammer f0.fHammers) (C_hn : f0.fHammers.length = C_an) {D_a : Option Addr} {D_an : Nat} (D_c : Nat) (D_h : Rw w D_a 96 encA96U32 list1) (D_hn : list1.length = D_an) (h : impl_drumCode f0 list1 = some r) :
    Calls Tryz.prog 39 #[(.agg #[(.int .i16 f0.fSteps), (.slice C_a C_an C_c)]), (.slice D_a D_an D_c)] w fun e w' => ∃ v, e = .returned v ∧ (v = (.int .i64 r) ∧ Mem w [] [] w') := by
  subst C_hn D_hn
  rw [impl_drumCode] at h
  refine enter (args := [(.agg #[(.int .i16 f0.fSteps), (.slice C_a f0.fHammers.length C_c)]), (.slice D_a list1.length D_c)]) Tryz.func39 rfl Tryz.ntmps39 (by kernel_rfl) (L := []) (W := []) (Mem.start w) ?_
  refine jc_seq (jc_region (tO (qa 0 (fun b_1 => jkO (qh [0] (qe (jx_then (jc_seq (jc_region (qh [0] ?_))))))))))
  obtain ⟨t_1, ht_2, h⟩ := bd h
  refine tO (pc 0 (fun w hm => impl_ValidFrame.calls f0 w _ C_c (hm.xr C_h) rfl ht_2) ?_)
  rintro w v w' hm ⟨rfl, hm'⟩
  refine ⟨_, hm.app hm', jkO ?_⟩
  clear hm hm'
  refine qf [(0, 0), (0, 1), (0, 1)] (qp 7 h (fun h => ?_) (fun h => ?_))
  ·obtain ⟨t_2, ht_4, h⟩ := bd h
   refine tO (pc 2 (fun w hm => slices_ContainsFunc_Drum_at_impl_drumCode_1.calls list1 f0 w _ D_c (hm.xr D_h) rfl C_c (hm.xr C_h) rfl b_1 (hm.pass (N := [⟨some b_1, 27, [(.int .i16 f0.fSteps), (.slice C_a f0.fHammers.length C_c)]⟩]) [0] (by kernel_rfl) (by kernel_rfl)) (hm.exApart (N := [⟨some b_1, 27, [(.int .i16 f0.fSteps), (.slice C_a f0.fHammers.length C_c)]⟩]) D_h (fun _ => List.not_mem_nil) [0] (by kernel_rfl)) (hm.exApart (N := [⟨some b_1, 27, [(.int .i16 f0.fSteps), (.slice C_a f0.fHammers.length C_c)]⟩]) C_h (fun _ => List.not_mem_nil) [0] (by kernel_rfl)) ht_4) ?_)
   rintro w v w' hm ⟨rfl, hm'⟩
   refine ⟨_, hm.appW (ps := [(0, ⟨some b_1, 27, [(.int .i16 f0.fSteps), (.slice C_a f0.fHammers.length C_c)]⟩)]) (N := []) hm' (by kernel_rfl) (by kernel_rfl), jkO ?_⟩
   clear hm hm'
   refine qf [(0, 2), (0, 4)] ?_
   obtain ⟨t_3, ht_5, h⟩ := bd h
   refine tO (pc 0 (fun w hm => impl_unless.calls (!t_2) 1 w _ ht_5) ?_)
   rintro w v w' hm ⟨rfl, hm'⟩
   refine ⟨_, hm.app hm', jkO ?_⟩
   clear hm hm'
   refine qh [0] (qe (jx_then (jc_ret ?_)))
   obtain rfl := Option.some.inj h
   exact qr [] (fun w hm => ⟨rfl, hm.pk []⟩)
  ·refine qf [(0, 3), (0, 3), (0, 5)] ?_
   obtain ⟨t_4, ht_6, h⟩ := bd h
   refine tO (pc 0 (fun w hm => impl_unless.calls false 1 w _ ht_6) ?_)
   rintro w v w' hm ⟨rfl, hm'⟩
   refine ⟨_, hm.app hm', jkO ?_⟩
   clear hm hm'
   refine qh [0] (qe (jx_then (jc_ret ?_)))
   obtain rfl := Option.some.inj h
   exact qr [] (fun w hm => ⟨rfl, hm.pk []⟩)
/-! ### impl.isNote -/
def impl_isNote (n0 : GNote) : Option (Bool) := (impl_within (w64 n0.fAt) 0 199).bind fun t_1 => (if t_1 = true then (impl_isPitch (w64 n0.fPitch)).bind fun t_2 => some t_2 else some false)
theorem impl_isNote.calls (n0 : GNote) (w : World) (r : Bool) (h : impl_isNote n0 = some r) :
    Calls Tryz.prog 120 #[(.agg #[(.int .i16 n0.fAt), (.int .i8 n0.fPitch)])] w fun e w' => ∃ v, e = .returned v ∧ (v = (.bool r) ∧ Mem w [] [] w') := by
  rw [impl_isNote] at h
  refine enter (args := [(.agg #[(.int .i16 n0.fAt), (.int .i8 n0.fPitch)])]) Tryz.func120 rfl Tryz.ntmps120 (by kernel_rfl) (L := []) (W := []) (Mem.start w) ?_
  refine jc_seq (jc_region (tO (qa 0 (fun b_1 => jkO (qh [0] (qe (jx_then (jc_seq (jc_region (qh [0,0,0] ?_))))))))))
  obtain ⟨t_1, ht_2, h⟩ := bd h
  refine tO (pc 0 (fun w hm => impl_within.calls (w64 n0.fAt) 0 199 w _ ht_2) ?_)
  rintro w v w' hm ⟨rfl, hm'⟩
  refine ⟨_, hm.app hm', jkO ?_⟩
  clear hm hm'
  refine qf [(0, 0), (0, 1), (0, 1), (0, 1)] (qp 7 h (fun h => ?_) (fun h => ?_))
  ·obtain ⟨t_2, ht_4, h⟩ := bd h
   refine tO (pc 2 (fun w hm => impl_isPitch.calls (w64 n0.fPitch) w _ ht_4) ?_)
   rintro w v w' hm ⟨rfl, hm'⟩
   refine ⟨_, hm.app hm', jkO ?_⟩
   clear hm hm'
   refine qf [(0, 4), (0, 0)] (qe (jx_then (jc_ret ?_)))
   obtain rfl := Option.some.inj h
   exact qr [] (fun w hm => ⟨rfl, hm.pk []⟩)
  ·refine qf [(0, 3), (0, 5), (0, 0)] (qe (jx_then (jc_ret ?_)))
   obtain rfl := Option.some.inj h
   exact qr [] (fun w hm => ⟨rfl, hm.pk []⟩)
/-! ### cmp.isNaN[int16] -/
def cmp_isNaN_int16 (x0 : Int) : Option (Bool) := some (x0 != x0)
theorem cmp_isNaN_int16.calls (x0 : Int) (w : World) (r : Bool) (h : cmp_isNaN_int16 x0 = some r) :
    Calls Tryz.prog 142 #[(.int .i16 x0)] w fun e w' => ∃ v, e = .returned v ∧ (v = (.bool r) ∧ Mem w [] [] w') := by
  rw [cmp_isNaN_int16] at h
  refine enter (args := [(.int .i16 x0)]) Tryz.func142 rfl Tryz.ntmps142 (by kernel_rfl) (L := []) (W := []) (Mem.start w) ?_
  refine jc_seq (jc_region (qh [0] (qe (jx_then (jc_seq (jc_region (qh [0,0,0,0] (qe (jx_then (jc_ret ?_))))))))))
  obtain rfl := Option.some.inj h
  exact qr [] (fun w hm => ⟨rfl, hm.pk []⟩)
/-! ### cmp.Compare[int16] -/
def cmp_Compare_int16 (x0 : Int) (y1 : Int) : Option (Int) := (cmp_isNaN_int16 x0).bind fun t_1 => (cmp_isNaN_int16 y1).bind fun t_2 => (if t_1 = true then (if t_2 = true then some 0 else some (-1)) else (if t_2 = true then some 1 else (if (decide (x0 < y1)) = true then some (-1) else (if (decide (x0 > y1)) = true then some 1 else some 0))))
theorem cmp_Compare_int16.calls (x0 : Int) (y1 : Int) (w : World) (r : Int) (h : cmp_Compare_int16 x0 y1 = some r) :
    Calls Tryz.prog 133 #[(.int .i16 x0), (.int .i16 y1)] w fun e w' => ∃ v, e = .returned v ∧ (v = (.int .i64 r) ∧ Mem w [] [] w') := by
  rw [cmp_Compare_int16] at h
  refine enter (args := [(.int .i16 x0), (.int .i16 y1)]) Tryz.func133 rfl Tryz.ntmps133 (by kernel_rfl) (L := []) (W := []) (Mem.start w) ?_
  refine jc_seq (jc_region (qh [0] (qe (jx_then (jc_seq (jc_region (qh [0] ?_)))))))
  obtain ⟨t_1, ht_1, h⟩ := bd h
  refine tO (pc 0 (fun w hm => cmp_isNaN_int16.calls x0 w _ ht_1) ?_)
  rintro w v w' hm ⟨rfl, hm'⟩
  refine ⟨_, hm.app hm', jkO ?_⟩
  clear hm hm'
  refine qh [0] (qe (jx_then (jc_seq (jc_region (qh [0] ?_)))))
  obtain ⟨t_2, ht_2, h⟩ := bd h
  refine tO (pc 0 (fun w hm => cmp_isNaN_int16.calls y1 w _ ht_2) ?_)
  rintro w v w' hm ⟨rfl, hm'⟩
  refine ⟨_, hm.app hm', jkO ?_⟩
  clear hm hm'
  refine qh [0] (qe (jx_then (jc_seq (jc_seq (jc_region (qh [0] (qe (jx_then (qi h (fun h => ?_) (fun h => ?_))))))))))
  ·refine jc_seq (jc_seq (jc_region (qh [0] (qe (jx_then (qi h (fun h => ?_) (fun h => ?_)))))))
   ·refine jc_seq (jc_region (qh [0] (qe (jx_then (jc_ret (jx_thenr (jx_thenr ?_)))))))
    obtain rfl := Option.some.inj h
    exact qr [] (fun w hm => ⟨rfl, hm.pk []⟩)
   ·refine jc_skip (jx_then (jc_seq (jc_region (qh [0] (qe (jx_then (jc_ret (jx_thenr ?_))))))))
    obtain rfl := Option.some.inj h
    exact qr [] (fun w hm => ⟨rfl, hm.pk []⟩)
  ·refine jc_skip (jx_then (jc_seq (jc_seq (jc_region (qh [0] (qe (jx_then (qi h (fun h => ?_) (fun h => ?_)))))))))
   ·refine jc_seq (jc_region (qh [0] (qe (jx_then (jc_ret (jx_thenr ?_))))))
    obtain rfl := Option.some.inj h
    exact qr [] (fun w hm => ⟨rfl, hm.pk []⟩)
   ·refine jc_skip (jx_then (jc_seq (jc_seq (jc_region (qh [0,0,0] (qe (jx_then (qi h (fun h => ?_) (fun h => ?_)))))))))
    ·refine jc_seq (jc_region (qh [0] (qe (jx_then (jc_ret (jx_thenr ?_))))))
     obtain rfl := Option.some.inj h
     exact qr [] (fun w hm => ⟨rfl, hm.pk []⟩)
    ·refine jc_skip (jx_then (jc_seq (jc_seq (jc_region (qh [0,0,0] (qe (jx_then (qi h (fun h => ?_) (fun h => ?_)))))))))
     ·refine jc_seq (jc_region (qh [0] (qe (jx_then (jc_ret (jx_thenr ?_))))))
      obtain rfl := Option.some.inj h
      exact qr [] (fun w hm => ⟨rfl, hm.pk []⟩)
     ·refine jc_skip (jx_then (jc_seq (jc_region (qh [0] (qe (jx_then (jc_ret ?_)))))))
      obtain rfl := Option.some.inj h
      exact qr [] (fun w hm => ⟨rfl, hm.pk []⟩)
/-! ### cmp.isNaN[int8] -/
def cmp_isNaN_int8 (x0 : Int) : Option (Bool) := some (x0 != x0)
theorem cmp_isNaN_int8.calls (x0 : Int) (w : World) (r : Bool) (h : cmp_isNaN_int8 x0 = some r) :
    Calls Tryz.prog 143 #[(.int .i8 x0)] w fun e w' => ∃ v, e = .returned v ∧ (v = (.bool r) ∧ Mem w [] [] w') := by
  rw [cmp_isNaN_int8] at h
  refine enter (args := [(.int .i8 x0)]) Tryz.func143 rfl Tryz.ntmps143 (by kernel_rfl) (L := []) (W := []) (Mem.start w) ?_
  refine jc_seq (jc_region (qh [0] (qe (jx_then (jc_seq (jc_region (qh [0,0,0,0] (qe (jx_then (jc_ret ?_))))))))))
  obtain rfl := Option.some.inj h
  exact qr [] (fun w hm => ⟨rfl, hm.pk []⟩)
/-! ### cmp.Compare[int8] -/
def cmp_Compare_int8 (x0 : Int) (y1 : Int) : Option (Int) := (cmp_isNaN_int8 x0).bind fun t_1 => (cmp_isNaN_int8 y1).bind fun t_2 => (if t_1 = true then (if t_2 = true then some 0 else some (-1)) else (if t_2 = true then some 1 else (if (decide (x0 < y1)) = true then some (-1) else (if (decide (x0 > y1)) = true then some 1 else some 0))))
theorem cmp_Compare_int8.calls (x0 : Int) (y1 : Int) (w : World) (r : Int) (h : cmp_Compare_int8 x0 y1 = some r) :
    Calls Tryz.prog 134 #[(.int .i8 x0), (.int .i8 y1)] w fun e w' => ∃ v, e = .returned v ∧ (v = (.int .i64 r) ∧ Mem w [] [] w') := by
  rw [cmp_Compare_int8] at h
  refine enter (args := [(.int .i8 x0), (.int .i8 y1)]) Tryz.func134 rfl Tryz.ntmps134 (by kernel_rfl) (L := []) (W := []) (Mem.start w) ?_
  refine jc_seq (jc_region (qh [0] (qe (jx_then (jc_seq (jc_region (qh [0] ?_)))))))
  obtain ⟨t_1, ht_1, h⟩ := bd h
  refine tO (pc 0 (fun w hm => cmp_isNaN_int8.calls x0 w _ ht_1) ?_)
  rintro w v w' hm ⟨rfl, hm'⟩
  refine ⟨_, hm.app hm', jkO ?_⟩
  clear hm hm'
  refine qh [0] (qe (jx_then (jc_seq (jc_region (qh [0] ?_)))))
  obtain ⟨t_2, ht_2, h⟩ := bd h
  refine tO (pc 0 (fun w hm => cmp_isNaN_int8.calls y1 w _ ht_2) ?_)
  rintro w v w' hm ⟨rfl, hm'⟩
  refine ⟨_, hm.app hm', jkO ?_⟩
  clear hm hm'
  refine qh [0] (qe (jx_then (jc_seq (jc_seq (jc_region (qh [0] (qe (jx_then (qi h (fun h => ?_) (fun h => ?_))))))))))
  ·refine jc_seq (jc_seq (jc_region (qh [0] (qe (jx_then (qi h (fun h => ?_) (fun h => ?_)))))))
   ·refine jc_seq (jc_region (qh [0] (qe (jx_then (jc_ret (jx_thenr (jx_thenr ?_)))))))
    obtain rfl := Option.some.inj h
    exact qr [] (fun w hm => ⟨rfl, hm.pk []⟩)
   ·refine jc_skip (jx_then (jc_seq (jc_region (qh [0] (qe (jx_then (jc_ret (jx_thenr ?_))))))))
    obtain rfl := Option.some.inj h
    exact qr [] (fun w hm => ⟨rfl, hm.pk []⟩)
  ·refine jc_skip (jx_then (jc_seq (jc_seq (jc_region (qh [0] (qe (jx_then (qi h (fun h => ?_) (fun h => ?_)))))))))
   ·refine jc_seq (jc_region (qh [0] (qe (jx_then (jc_ret (jx_thenr ?_))))))
    obtain rfl := Option.some.inj h
    exact qr [] (fun w hm => ⟨rfl, hm.pk []⟩)
   ·refine jc_skip (jx_then (jc_seq (jc_seq (jc_region (qh [0,0,0] (qe (jx_then (qi h (fun h => ?_) (fun h => ?_)))))))))
    ·refine jc_seq (jc_region (qh [0] (qe (jx_then (jc_ret (jx_thenr ?_))))))
     obtain rfl := Option.some.inj h
     exact qr [] (fun w hm => ⟨rfl, hm.pk []⟩)
    ·refine jc_skip (jx_then (jc_seq (jc_seq (jc_region (qh [0,0,0] (qe (jx_then (qi h (fun h => ?_) (fun h => ?_)))))))))
     ·refine jc_seq (jc_region (qh [0] (qe (jx_then (jc_ret (jx_thenr ?_))))))
      obtain rfl := Option.some.inj h
      exact qr [] (fun w hm => ⟨rfl, hm.pk []⟩)
     ·refine jc_skip (jx_then (jc_seq (jc_region (qh [0] (qe (jx_then (jc_ret ?_)))))))
      obtain rfl := Option.some.inj h
      exact qr [] (fun w hm => ⟨rfl, hm.pk []⟩)
/-! ### cmp.Or[int] -/
def cmp_Or_int.k_1 : Option (Int) := some 0
def cmp_Or_int.l_3 (vals0 : List Int) : Int → Option ((Int) ⊕ (Int ⊕ Unit))
  | i_2 => (if (decide (i_2 < (vals0.length : Int))) = true then (ix vals0 i_2).bind fun x_5 => (if (x_5 != 0) = true then some (.inr (.inl x_5)) else some (.inl (w64 (i_2 + 1)))) else some (.inr (.inr ())))
def cmp_Or_int (vals0 : List Int) : Option (Int) := (loop (cmp_Or_int.l_3 vals0) 0).bind fun t_4 => match t_4 with | .inl p => some p | .inr p => cmp_Or_int.k_1
theorem cmp_Or_int.calls (vals0 : List Int) (w : World) (r : Int) {A_a : Option Addr} {A_an : Nat} (A_c : Nat) (A_h : Rw w A_a 1 encI64 vals0) (A_hn : vals0.length = A_an) (h : cmp_Or_int vals0 = some r) :
    Calls Tryz.prog 132 #[(.slice A_a A_an A_c)] w fun e w' => ∃ v, e = .returned v ∧ (v = (.int .i64 r) ∧ Mem w [] [] w') := by
  subst A_hn
  rw [cmp_Or_int] at h
  refine enter (args := [(.slice A_a vals0.length A_c)]) Tryz.func132 rfl Tryz.ntmps132 (by kernel_rfl) (L := []) (W := []) (Mem.start w) ?_
  refine jc_seq (jc_region (qh [0] (qe (jx_then (jc_seq (jc_region (qh [0] (qe (jx_then (jc_seq (jc_seq (jc_region (qh [0,0,0] (qe (jx_then (jc_meet (fun (_ : Unit) => cmp_Or_int.k_1 = some r) (fun (_ : Unit) => [(2, [], (.int .i64 0)), (3, [], (.int .i64 0))]) (fun (_ : Unit) => []) ?_ ?_))))))))))))))))
  ·refine jc_block ?_
   obtain ⟨t_4, ht_68, hr_60⟩ := bd h
   refine jc_loop (fun (s : Int) (x : Unit) => match s, x with | i_2, _ => True) (fun (s : Int) (x : Unit) => match s, x with | i_2, _ => [(2, [], (.int .i64 0)), (3, [], (.int .i64 0)), (6, [], (.slice A_a vals0.length A_c)), (7, [], (.int .i64 (vals0.length : Int))), (8, [], (.int .i64 i_2))]) (fun (s : Int) (x : Unit) => match s, x with | i_2, _ => []) ht_68 () trivial (by kernel_rfl) [] (by kernel_rfl) (by kernel_rfl) ?_
   rintro i_2 _ y_61 _ h
   rw [cmp_Or_int.l_3] at h
   refine jc_seq (jc_region (qh [0] (qe (jx_then (jc_seq (qi h (fun h => ?_) (fun h => ?_)))))))
   ·refine jc_skip (jx_then (jc_seq (jc_block (jc_seq (jc_region ?_)))))
    obtain ⟨x_5, hx_64, h⟩ := bd h
    refine tO (qx 0 A_a 1 hx_64 rfl (A_h.sp hx_64) (jkO (tO (ql 0 false (fun w hm => ((hm.xr A_h).at hx_64)) (jkO (qh [0] (qe (jx_then (jc_seq (jc_region (qh [0,0,0] (qe (jx_then (qi h (fun h => ?_) (fun h => ?_)))))))))))))))
    ·refine jc_seq (jc_region (qh [0,0] (qe (jx_then (jc_ret (jx_inr (jx_thenr (jx_leaver (.inl x_5) (Option.some.inj h).symm (fun e_66 => ?_)))))))))
     subst e_66
     refine jx_inr (jx_thenr (jx_thenr ?_))
     obtain rfl := Option.some.inj hr_60
     exact qr [] (fun w hm => ⟨rfl, hm.pk []⟩)
    ·exact jc_skip (jx_inn (jx_then (jc_region (qh [0,0] (qe (qb (w64 (i_2 + 1)) () h trivial []))))))
   ·refine jc_exit (jx_thenx (jx_leave (.inr ()) (Option.some.inj h).symm (fun e_67 => ?_)))
    subst e_67
    exact jx_ine (qm () hr_60 [])
  ·rintro _ h
   replace h : cmp_Or_int.k_1 = some r := h
   rw [cmp_Or_int.k_1] at h
   refine jx_then (jc_seq (jc_region (qh [0,0] (qe (jx_then (jc_ret ?_))))))
   obtain rfl := Option.some.inj h
   exact qr [] (fun w hm => ⟨rfl, hm.pk []⟩)
/-! ### impl.compareNotes -/
def impl_compareNotes (a0 : GNote) (b1 : GNote) : Option (Int) := (cmp_Compare_int16 a0.fAt b1.fAt).bind fun t_1 => (cmp_Compare_int8 a0.fPitch b1.fPitch).bind fun t_2 => (cmp_Or_int ([t_1, t_2] : List Int)).bind fun t_3 => some t_3
theorem impl_compareNotes.calls (a0 : GNote) (b1 : GNote) (w : World) (r : Int) (h : impl_compareNotes a0 b1 = some r) :
    Calls Tryz.prog 121 #[(.agg #[(.int .i16 a0.fAt), (.int .i8 a0.fPitch)]), (.agg #[(.int .i16 b1.fAt), (.int .i8 b1.fPitch)])] w fun e w' => ∃ v, e = .returned v ∧ (v = (.int .i64 r) ∧ Mem w [] [] w') := by
  rw [impl_compareNotes] at h
  refine enter (args := [(.agg #[(.int .i16 a0.fAt), (.int .i8 a0.fPitch)]), (.agg #[(.int .i16 b1.fAt), (.int .i8 b1.fPitch)])]) Tryz.func121 rfl Tryz.ntmps121 (by kernel_rfl) (L := []) (W := []) (Mem.start w) ?_
  refine jc_seq (jc_region (tO (qa 0 (fun b_1 => jkO (tO (qa 0 (fun b_2 => jkO (qh [0] (qe (jx_then (jc_seq (qg [⟨some b_1, 68, [(.int .i16 a0.fAt), (.int .i8 a0.fPitch)]⟩, ⟨some b_2, 68, [(.int .i16 b1.fAt), (.int .i8 b1.fPitch)]⟩] 13 (qd [⟨0, 0, 0⟩,⟨1, 0, 0⟩,⟨2, 0, 0⟩,⟨3, 1, 0⟩,⟨5, 0, 0⟩,⟨6, 0, 0⟩,⟨7, 0, 0⟩,⟨8, 1, 0⟩] 5 [0, 1] ?_)))))))))))))
  obtain ⟨t_1, ht_3, h⟩ := bd h
  refine tD 4 (pc 0 (fun w hm => cmp_Compare_int16.calls a0.fAt b1.fAt w _ ht_3) ?_)
  rintro w v w' hm ⟨rfl, hm'⟩
  refine ⟨_, hm.app hm', kD [0, 1] ?_⟩
  clear hm hm'
  obtain ⟨t_2, ht_4, h⟩ := bd h
  refine tD 9 (pc 0 (fun w hm => cmp_Compare_int8.calls a0.fPitch b1.fPitch w _ ht_4) ?_)
  rintro w v w' hm ⟨rfl, hm'⟩
  refine ⟨_, hm.app hm', kD [0, 1] ?_⟩
  clear hm hm'
  refine tD 10 (qa 0 (fun b_5 => kD [0, 1] ?_))
  obtain ⟨t_3, ht_6, h⟩ := bd h
  refine tD 11 (pc 0 (fun w hm => cmp_Or_int.calls ([t_1, t_2] : List Int) w _ 2 (hm.ow 2 (some b_5) 3 ([t_1, t_2] : List Int) [] (fun e => nomatch e) encI64_len) rfl ht_6) ?_)
  rintro w v w' hm ⟨rfl, hm'⟩
  refine ⟨_, hm.app hm', kD [0, 1] ?_⟩
  clear hm hm'
  refine qd [⟨12, 0, 0⟩] 0 [0, 1] (qz (jx_then (jc_ret ?_)))
  obtain rfl := Option.some.inj h
  exact qr [] (fun w hm => ⟨rfl, hm.pk []⟩)
/-! ### impl.ValidTune -/
def impl_ValidTune.k_1 (t0 : List GNote) : Option (Bool) := some (decide ((t0.length : Int) ≤ 120))
def impl_ValidTune.k_7 (i_2 : Int) (q_6 : Bool) : Option ((Int) ⊕ (Bool ⊕ Unit)) := (if q_6 = true then some (.inr (.inl false)) else some (.inl (w64 (i_2 + 1))))
def impl_ValidTune.l_3 (t0 : List GNote) : Int → Option ((Int) ⊕ (Bool ⊕ Unit))
  | i_2 => (if (decide (i_2 < (t0.length : Int))) = true then (ix t0 i_2).bind fun x_5 => (impl_isNote x_5).bind fun t_8 => (if (!t_8) = true then impl_ValidTune.k_7 i_2 true else (if (decide (i_2 > 0)) = true then (ix t0 (w64 (i_2 - 1))).bind fun x_9 => (impl_compareNotes x_9 x_5).bind fun t_10 => impl_ValidTune.k_7 i_2 (decide (t_10 ≥ 0)) else impl_ValidTune.k_7 i_2 false)) else some (.inr (.inr ())))
def impl_ValidTune (t0 : List GNote) : Option (Bool) := (loop (impl_ValidTune.l_3 t0) 0).bind fun t_4 => match t_4 with | .inl p => some p | .inr p => impl_ValidTune.k_1 t0
theorem impl_ValidTune.calls (t0 : List GNote) (w : World) (r : Bool) {A_a : Option Addr} {A_an : Nat} (A_c : Nat) (A_h : Rw w A_a 2 encGNote t0) (A_hn : t0.length = A_an) (h : impl_ValidTune t0 = some r) :
    Calls Tryz.prog 106 #[(.slice A_a A_an A_c)] w fun e w' => ∃ v, e = .returned v ∧ (v = (.bool r) ∧ Mem w [] [] w') := by
  subst A_hn
  rw [impl_ValidTune] at h
  refine enter (args := [(.slice A_a t0.length A_c)]) Tryz.func106 rfl Tryz.ntmps106 (by kernel_rfl) (L := []) (W := []) (Mem.start w) ?_
  refine jc_seq (jc_region (qh [0] (qe (jx_then (jc_seq (jc_seq (jc_region (qh [0,0,0] (qe (jx_then (jc_meet (fun (_ : Unit) => impl_ValidTune.k_1 t0 = some r) (fun (_ : Unit) => [(0, [], (.slice A_a t0.length A_c)), (2, [], (.bool false))]) (fun (_ : Unit) => []) ?_ ?_)))))))))))
  ·refine jc_block ?_
   obtain ⟨t_4, ht_200, hr_181⟩ := bd h
   refine jc_loop (fun (s : Int) (x : Unit) => match s, x with | i_2, _ => True) (fun (s : Int) (x : Unit) => match s, x with | i_2, _ => [(0, [], (.slice A_a t0.length A_c)), (2, [], (.bool false)), (5, [], (.slice A_a t0.length A_c)), (6, [], (.int .i64 (t0.length : Int))), (7, [], (.int .i64 i_2))]) (fun (s : Int) (x : Unit) => match s, x with | i_2, _ => []) ht_200 () trivial (by kernel_rfl) [] (by kernel_rfl) (by kernel_rfl) ?_
   rintro i_2 _ y_182 _ h
   rw [impl_ValidTune.l_3] at h
   refine jc_seq (jc_region (qh [0] (qe (jx_then (jc_seq (qi h (fun h => ?_) (fun h => ?_)))))))
   ·refine jc_skip (jx_then (jc_seq (jc_block (jc_seq (jc_region (qh [0] ?_))))))
    obtain ⟨x_5, hx_185, h⟩ := bd h
    refine tO (qx 0 A_a 2 hx_185 rfl (A_h.sp hx_185) (jkO (tO (ql 0 true (fun w hm => ((hm.xr A_h).at hx_185)) (jkO (tO (qa 0 (fun b_186 => jkO (qh [0] (tO (qs 0 [0] (jkO (qe (jx_then (jc_seq (jc_meet (fun (j : Bool) => match j with | q_6 => impl_ValidTune.k_7 i_2 q_6 = some y_182) (fun (j : Bool) => match j with | q_6 => [(0, [], (.slice A_a t0.length A_c)), (2, [], (.bool false)), (5, [], (.slice A_a t0.length A_c)), (6, [], (.int .i64 (t0.length : Int))), (7, [], (.int .i64 i_2)), (28, [], (.bool q_6))]) (fun (j : Bool) => match j with | q_6 => [⟨some b_186, 68, [(.int .i16 x_5.fAt), (.int .i8 x_5.fPitch)]⟩]) ?_ ?_))))))))))))))))
    ·refine qg [⟨some b_186, 68, [(.int .i16 x_5.fAt), (.int .i8 x_5.fPitch)]⟩] 17 (qd [⟨0, 0, 0⟩] 16 [0] ?_)
     obtain ⟨t_8, ht_194, h⟩ := bd h
     refine tD 1 (pc 0 (fun w hm => impl_isNote.calls x_5 w _ ht_194) ?_)
     rintro w v w' hm ⟨rfl, hm'⟩
     refine ⟨_, hm.app hm', kD [0] ?_⟩
     clear hm hm'
     refine qd [⟨2, 0, 0⟩,⟨3, 0, 0⟩,⟨4, 0, 1⟩,⟨5, 0, 1⟩] 11 [0] (jd_split 15 (!t_8) (by kernel_rfl) (fun hc_195 => ?_) (fun hc_195 => ?_))
     ·replace h := ifT hc_195 h
      exact qd [⟨6, 0, 3⟩,⟨7, 0, 3⟩,⟨8, 0, 3⟩,⟨9, 0, 3⟩,⟨10, 0, 3⟩,⟨11, 0, 3⟩,⟨12, 0, 3⟩,⟨13, 0, 3⟩,⟨14, 0, 3⟩,⟨15, 0, 3⟩,⟨16, 0, 4⟩] 0 [0] (qz (qm true h [0]))
     ·replace h := ifF hc_195 h
      refine qd [⟨6, 0, 2⟩,⟨7, 0, 1⟩,⟨8, 0, 1⟩,⟨9, 0, 1⟩,⟨12, 0, 1⟩] 6 [0] (jd_split 18 (decide (i_2 > 0)) (by kernel_rfl) (fun hc_196 => ?_) (fun hc_196 => ?_))
      ·replace h := ifT hc_196 h
       obtain ⟨x_9, hx_197, h⟩ := bd h
       refine qv 10 2 [0] (fun w hm => idx_run (a := A_a) (len := t0.length) (s := 2) (j := (w64 (i_2 - 1))) (by kernel_rfl) (ix_some hx_197).1 (ltn hx_197 rfl) (A_h.sp hx_197)) (qv 11 2 [0] (fun w hm => ld_run (b := aB A_a) (off := (aO A_a + (w64 (i_2 - 1)).toNat * 2)) (s := 2) (agg := true) (vs := (encGNote x_9)) (by kernel_rfl) (by kernel_rfl) (.inl rfl) ((hm.xr A_h).at hx_197)) ?_)
       obtain ⟨t_10, ht_198, h⟩ := bd h
       refine tD 13 (pc 2 (fun w hm => impl_compareNotes.calls x_9 x_5 w _ ht_198) ?_)
       rintro w v w' hm ⟨rfl, hm'⟩
       refine ⟨_, hm.app hm', kD [0] ?_⟩
       clear hm hm'
       exact qd [⟨14, 0, 2⟩,⟨15, 0, 4⟩,⟨16, 0, 5⟩] 0 [0] (qz (qm (decide (t_10 ≥ 0)) h [0]))
      ·replace h := ifF hc_196 h
       exact qd [⟨10, 0, 3⟩,⟨11, 0, 3⟩,⟨13, 0, 3⟩,⟨14, 0, 3⟩,⟨15, 0, 5⟩,⟨16, 0, 5⟩] 0 [0] (qz (qm false h [0]))
    ·rintro q_6 h
     replace h : impl_ValidTune.k_7 i_2 q_6 = some y_182 := h
     rw [impl_ValidTune.k_7] at h
     refine jx_then (qi h (fun h => ?_) (fun h => ?_))
     ·refine jc_seq (jc_region (qh [0] (qe (jx_then (jc_ret (jx_inr (jx_thenr (jx_leaver (.inl false) (Option.some.inj h).symm (fun e_193 => ?_)))))))))
      subst e_193
      refine jx_inr (jx_thenr (jx_thenr ?_))
      obtain rfl := Option.some.inj hr_181
      exact qr [] (fun w hm => ⟨rfl, hm.pk []⟩)
     ·exact jc_skip (jx_inn (jx_then (jc_region (qh [0,0] (qe (qb (w64 (i_2 + 1)) () h trivial []))))))
   ·refine jc_exit (jx_thenx (jx_leave (.inr ()) (Option.some.inj h).symm (fun e_199 => ?_)))
    subst e_199
    exact jx_ine (qm () hr_181 [])
  ·rintro _ h
   replace h : impl_ValidTune.k_1 t0 = some r := h
   rw [impl_ValidTune.k_1] at h
   refine jx_then (jc_seq (jc_region (qh [0,0,0,0] (qe (jx_then (jc_ret ?_))))))
   obtain rfl := Option.some.inj h
   exact qr [] (fun w hm => ⟨rfl, hm.pk []⟩)
/-! ### impl.tuneCode$1 -/
def impl_tuneCode_1 (t0 : List GNote) : Option (Bool) := (impl_ValidTune t0).bind fun t_1 => some (!t_1)
theorem impl_tuneCode_1.calls (t0 : List GNote) (w : World) (r : Bool) {A_a : Option Addr} {A_an : Nat} (A_c : Nat) (A_h : Rw w A_a 2 encGNote t0) (A_hn : t0.length = A_an) (h : impl_tuneCode_1 t0 = some r) :
    Calls Tryz.prog 110 #[(.slice A_a A_an A_c)] w fun e w' => ∃ v, e = .returned v ∧ (v = (.bool r) ∧ Mem w [] [] w') := by
  subst A_hn
  rw [impl_tuneCode_1] at h
  refine enter (args := [(.slice A_a t0.length A_c)]) Tryz.func110 rfl Tryz.ntmps110 (by kernel_rfl) (L := []) (W := []) (Mem.start w) ?_
  refine jc_seq (jc_region (qh [0] (qe (jx_then (jc_seq (jc_region (qh [0] ?_)))))))
  obtain ⟨t_1, ht_1, h⟩ := bd h
  refine tO (pc 0 (fun w hm => impl_ValidTune.calls t0 w _ A_c (hm.xr A_h) rfl ht_1) ?_)
  rintro w v w' hm ⟨rfl, hm'⟩
  refine ⟨_, hm.app hm', jkO ?_⟩
  clear hm hm'
  refine qh [0,0] (qe (jx_then (jc_ret ?_)))
  obtain rfl := Option.some.inj h
  exact qr [] (fun w hm => ⟨rfl, hm.pk []⟩)
/-! ### slices.IndexFunc[[]impl.Tune,impl.Tune] -/
def slices_IndexFunc_Tune_at_impl_tuneCode_1.k_1 : Option (Int) := some (-1)
def slices_IndexFunc_Tune_at_impl_tuneCode_1.l_3 (s0 : List (List GNote)) : Int → Option ((Int) ⊕ (Int ⊕ Unit))
  | i_2 => (if (decide (i_2 < (s0.length : Int))) = true then (ix s0 i_2).bind fun x_5 => (impl_tuneCode_1 x_5).bind fun t_6 => (if t_6 = true then some (.inr (.inl i_2)) else some (.inl (w64 (i_2 + 1)))) else some (.inr (.inr ())))
def slices_IndexFunc_Tune_at_impl_tuneCode_1 (s0 : List (List GNote)) : Option (Int) := (loop (slices_IndexFunc_Tune_at_impl_tuneCode_1.l_3 s0) 0).bind fun t_4 => match t_4 with | .inl p => some p | .inr p => slices_IndexFunc_Tune_at_impl_tuneCode_1.k_1
theorem slices_IndexFunc_Tune_at_impl_tuneCode_1.calls (s0 : List (List GNote)) (w : World) (r : Int) {A_a : Option Addr} {A_an : Nat} (A_c : Nat) {A_hs : List Hd} (A_h : Rw w A_a 1 encHd A_hs) (A_hn : s0.length = A_an) (A_i : Inn w [] 2 encGNote A_hs s0) (h : slices_IndexFunc_Tune_at_impl_tuneCode_1 s0 = some r) :
    Calls Tryz.prog 125 #[(.slice A_a A_an A_c), (.func (.func 110) #[] #[])] w fun e w' => ∃ v, e = .returned v ∧ (v = (.int .i64 r) ∧ Mem w [] [] w') := by
  subst A_hn
  rw [slices_IndexFunc_Tune_at_impl_tuneCode_1] at h
  refine enter (args := [(.slice A_a s0.length A_c), (.func (.func 110) #[] #[])]) Tryz.func125 rfl Tryz.ntmps125 (by kernel_rfl) (L := []) (W := []) (Mem.start w) ?_
  refine jc_seq (jc_region (qh [0] (qe (jx_then (jc_seq (jc_seq (jc_region (qh [0,0,0] (qe (jx_then (jc_meet (fun (_ : Unit) => slices_IndexFunc_Tune_at_impl_tuneCode_1.k_1 = some r) (fun (_ : Unit) => [(4, [], (.int .i64 0))]) (fun (_ : Unit) => []) ?_ ?_)))))))))))
  ·refine jc_block ?_
   obtain ⟨t_4, ht_40, hr_31⟩ := bd h
   refine jc_loop (fun (s : Int) (x : Unit) => match s, x with | i_2, _ => True) (fun (s : Int) (x : Unit) => match s, x with | i_2, _ => [(0, [], (.slice A_a s0.length A_c)), (1, [], (.func (.func 110) #[] #[])), (4, [], (.int .i64 0)), (7, [], (.int .i64 (s0.length : Int))), (8, [], (.int .i64 i_2))]) (fun (s : Int) (x : Unit) => match s, x with | i_2, _ => []) ht_40 () trivial (by kernel_rfl) [] (by kernel_rfl) (by kernel_rfl) ?_
   rintro i_2 _ y_32 _ h
   rw [slices_IndexFunc_Tune_at_impl_tuneCode_1.l_3] at h
   refine jc_seq (jc_region (qh [0] (qe (jx_then (jc_seq (qi h (fun h => ?_) (fun h => ?_)))))))
   ·refine jc_skip (jx_then (jc_seq (jc_block (jc_seq (jc_region (qh [0,0] (qe (jx_then (jc_seq (jc_region (qh [0,0,0] ?_)))))))))))
    obtain ⟨x_5, hx_35, h⟩ := bd h
    refine tO (qx 0 A_a 1 hx_35 rfl (A_h.sp (A_i.ixh hx_35)) (jkO (tO (ql 0 false (fun w hm => ((hm.xr A_h).at (A_i.ixh hx_35))) (jkO ?_)))))
    obtain ⟨t_6, ht_36, h⟩ := bd h
    refine tO (pc 0 (fun w hm => impl_tuneCode_1.calls x_5 w _ ((hd A_hs i_2).c) (hm.exRow (A_i.get hx_35).1 List.not_mem_nil) (A_i.get hx_35).2.1 ht_36) ?_)
    rintro w v w' hm ⟨rfl, hm'⟩
    refine ⟨_, hm.app hm', jkO ?_⟩
    clear hm hm'
    refine qe (jx_then (qi h (fun h => ?_) (fun h => ?_)))
    ·refine jc_seq (jc_region (qh [0,0] (qe (jx_then (jc_ret (jx_inr (jx_thenr (jx_leaver (.inl i_2) (Option.some.inj h).symm (fun e_38 => ?_)))))))))
     subst e_38
     refine jx_inr (jx_thenr (jx_thenr ?_))
     obtain rfl := Option.some.inj hr_31
     exact qr [] (fun w hm => ⟨rfl, hm.pk []⟩)
    ·exact jc_skip (jx_inn (jx_then (jc_region (qh [0,0] (qe (qb (w64 (i_2 + 1)) () h trivial []))))))
   ·refine jc_exit (jx_thenx (jx_leave (.inr ()) (Option.some.inj h).symm (fun e_39 => ?_)))
    subst e_39
    exact jx_ine (qm () hr_31 [])
  ·rintro _ h
   replace h : slices_IndexFunc_Tune_at_impl_tuneCode_1.k_1 = some r := h
   rw [slices_IndexFunc_Tune_at_impl_tuneCode_1.k_1] at h
   refine jx_then (jc_seq (jc_region (qh [0] (qe (jx_then (jc_ret ?_))))))
   obtain rfl := Option.some.inj h
   exact qr [] (fun w hm => ⟨rfl, hm.pk []⟩)
/-! ### slices.ContainsFunc[[]impl.Tune,impl.Tune] -/
def slices_ContainsFunc_Tune_at_impl_tuneCode_1 (s0 : List (List GNote)) : Option (Bool) := (slices_IndexFunc_Tune_at_impl_tuneCode_1 s0).bind fun t_1 => some (decide (t_1 ≥ 0))
theorem slices_ContainsFunc_Tune_at_impl_tuneCode_1.calls (s0 : List (List GNote)) (w : World) (r : Bool) {A_a : Option Addr} {A_an : Nat} (A_c : Nat) {A_hs : List Hd} (A_h : Rw w A_a 1 encHd A_hs) (A_hn : s0.length = A_an) (A_i : Inn w [] 2 encGNote A_hs s0) (h : slices_ContainsFunc_Tune_at_impl_tuneCode_1 s0 = some r) :
    Calls Tryz.prog 109 #[(.slice A_a A_an A_c), (.func (.func 110) #[] #[])] w fun e w' => ∃ v, e = .returned v ∧ (v = (.bool r) ∧ Mem w [] [] w') := by
  subst A_hn
  rw [slices_ContainsFunc_Tune_at_impl_tuneCode_1] at h
  refine enter (args := [(.slice A_a s0.length A_c), (.func (.func 110) #[] #[])]) Tryz.func109 rfl Tryz.ntmps109 (by kernel_rfl) (L := []) (W := []) (Mem.start w) ?_
  refine jc_seq (jc_region (qh [0] (qe (jx_then (jc_seq (jc_region (qh [0,0] ?_)))))))
  obtain ⟨t_1, ht_1, h⟩ := bd h
  refine tO (pc 0 (fun w hm => slices_IndexFunc_Tune_at_impl_tuneCode_1.calls s0 w _ A_c (hm.xr A_h) rfl (hm.innPass (N := []) A_i [] (by kernel_rfl)) ht_1) ?_)
  rintro w v w' hm ⟨rfl, hm'⟩
  refine ⟨_, hm.app hm', jkO ?_⟩
  clear hm hm'
  refine qh [0,0] (qe (jx_then (jc_ret ?_)))
  obtain rfl := Option.some.inj h
  exact qr [] (fun w hm => ⟨rfl, hm.pk []⟩)
/-! ### impl.tuneCode -/
def impl_tuneCode (list0 : List (List GNote)) : Option (Int) := (slices_ContainsFunc_Tune_at_impl_tuneCode_1 list0).bind fun t_1 => (impl_unless (!t_1) 1).bind fun t_2 => some t_2
theorem impl_tuneCode.calls (list0 : List (List GNote)) (w : World) (r : Int) {A_a : Option Addr} {A_an : Nat} (A_c : Nat) {A_hs : List Hd} (A_h : Rw w A_a 1 encHd A_hs) (A_hn : list0.length = A_an) (A_i : Inn w [] 2 encGNote A_hs list0) (h : impl_tuneCode list0 = some r) :
    Calls Tryz.prog 73 #[(.slice A_a A_an A_c)] w fun e w' => ∃ v, e = .returned v ∧ (v = (.int .i64 r) ∧ Mem w [] [] w') := by
  subst A_hn
  rw [impl_tuneCode] at h
  refine enter (args := [(.slice A_a list0.length A_c)]) Tryz.func73 rfl Tryz.ntmps73 (by kernel_rfl) (L := []) (W := []) (Mem.start w) ?_
  refine jc_seq (jc_region (qh [0] (qe (jx_then (jc_seq (jc_region (qh [0] ?_)))))))
  obtain ⟨t_1, ht_1, h⟩ := bd h
  refine tO (pc 0 (fun w hm => slices_ContainsFunc_Tune_at_impl_tuneCode_1.calls list0 w _ A_c (hm.xr A_h) rfl (hm.innPass (N := []) A_i [] (by kernel_rfl)) ht_1) ?_)
  rintro w v w' hm ⟨rfl, hm'⟩
  refine ⟨_, hm.app hm', jkO ?_⟩
  clear hm hm'
  refine qh [0] ?_
  obtain ⟨t_2, ht_2, h⟩ := bd h
  refine tO (pc 0 (fun w hm => impl_unless.calls (!t_1) 1 w _ ht_2) ?_)
  rintro w v w' hm ⟨rfl, hm'⟩
  refine ⟨_, hm.app hm', jkO ?_⟩
  clear hm hm'
  refine qh [0] (qe (jx_then (jc_ret ?_)))
  obtain rfl := Option.some.inj h
  exact qr [] (fun w hm => ⟨rfl, hm.pk []⟩)
/-! ### impl.firstOf -/
def impl_firstOf.k_1 : Option (Int) := some 0
def impl_firstOf.l_3 (codes0 : List Int) : Int → Option ((Int) ⊕ (Int ⊕ Unit))
  | i_2 => (if (decide (i_2 < (codes0.length : Int))) = true then (ix codes0 i_2).bind fun x_5 => (if (x_5 != 0) = true then some (.inr (.inl x_5)) else some (.inl (w64 (i_2 + 1)))) else some (.inr (.inr ())))
def impl_firstOf (codes0 : List Int) : Option (Int) := (loop (impl_firstOf.l_3 codes0) 0).bind fun t_4 => match t_4 with | .inl p => some p | .inr p => impl_firstOf.k_1
theorem impl_firstOf.calls (codes0 : List Int) (w : World) (r : Int) {A_a : Option Addr} {A_an : Nat} (A_c : Nat) (A_h : Rw w A_a 1 encI64 codes0) (A_hn : codes0.length = A_an) (h : impl_firstOf codes0 = some r) :
    Calls Tryz.prog 72 #[(.slice A_a A_an A_c)] w fun e w' => ∃ v, e = .returned v ∧ (v = (.int .i64 r) ∧ Mem w [] [] w') := by
  subst A_hn
  rw [impl_firstOf] at h
  refine enter (args := [(.slice A_a codes0.length A_c)]) Tryz.func72 rfl Tryz.ntmps72 (by kernel_rfl) (L := []) (W := []) (Mem.start w) ?_
  refine jc_seq (jc_region (qh [0] (qe (jx_then (jc_seq (jc_seq (jc_region (qh [0,0,0] (qe (jx_then (jc_meet (fun (_ : Unit) => impl_firstOf.k_1 = some r) (fun (_ : Unit) => [(2, [], (.int .i64 0))]) (fun (_ : Unit) => []) ?_ ?_)))))))))))
  ·refine jc_block ?_
   obtain ⟨t_4, ht_34, hr_26⟩ := bd h
   refine jc_loop (fun (s : Int) (x : Unit) => match s, x with | i_2, _ => True) (fun (s : Int) (x : Unit) => match s, x with | i_2, _ => [(2, [], (.int .i64 0)), (5, [], (.slice A_a codes0.length A_c)), (6, [], (.int .i64 (codes0.length : Int))), (7, [], (.int .i64 i_2))]) (fun (s : Int) (x : Unit) => match s, x with | i_2, _ => []) ht_34 () trivial (by kernel_rfl) [] (by kernel_rfl) (by kernel_rfl) ?_
   rintro i_2 _ y_27 _ h
   rw [impl_firstOf.l_3] at h
   refine jc_seq (jc_region (qh [0] (qe (jx_then (jc_seq (qi h (fun h => ?_) (fun h => ?_)))))))
   ·refine jc_skip (jx_then (jc_seq (jc_block (jc_seq (jc_region ?_)))))
    obtain ⟨x_5, hx_30, h⟩ := bd h
    refine tO (qx 0 A_a 1 hx_30 rfl (A_h.sp hx_30) (jkO (tO (ql 0 false (fun w hm => ((hm.xr A_h).at hx_30)) (jkO (qh [0] (qe (jx_then (jc_seq (jc_region (qh [0,0] (qe (jx_then (qi h (fun h => ?_) (fun h => ?_)))))))))))))))
    ·refine jc_seq (jc_region (qh [0,0] (qe (jx_then (jc_ret (jx_inr (jx_thenr (jx_leaver (.inl x_5) (Option.some.inj h).symm (fun e_32 => ?_)))))))))
     subst e_32
     refine jx_inr (jx_thenr (jx_thenr ?_))
     obtain rfl := Option.some.inj hr_26
     exact qr [] (fun w hm => ⟨rfl, hm.pk []⟩)
    ·exact jc_skip (jx_inn (jx_then (jc_region (qh [0,0] (qe (qb (w64 (i_2 + 1)) () h trivial []))))))
   ·refine jc_exit (jx_thenx (jx_leave (.inr ()) (Option.some.inj h).symm (fun e_33 => ?_)))
    subst e_33
    exact jx_ine (qm () hr_26 [])
  ·rintro _ h
   replace h : impl_firstOf.k_1 = some r := h
   rw [impl_firstOf.k_1] at h
   refine jx_then (jc_seq (jc_region (qh [0] (qe (jx_then (jc_ret ?_))))))
   obtain rfl := Option.some.inj h
   exact qr [] (fun w hm => ⟨rfl, hm.pk []⟩)
/-! ### (impl.Tune).length -/
def impl_Tune_length (t0 : List GNote) : Option (Int) := (if ((t0.length : Int) == 0) = true then some 0 else (ix t0 (w64 ((t0.length : Int) - 1))).bind fun x_1 => some (w64 ((w64 x_1.fAt) + 1)))
theorem impl_Tune_length.calls (t0 : List GNote) (w : World) (r : Int) {A_a : Option Addr} {A_an : Nat} (A_c : Nat) (A_h : Rw w A_a 2 encGNote t0) (A_hn : t0.length = A_an) (h : impl_Tune_length t0 = some r) :
    Calls Tryz.prog 75 #[(.slice A_a A_an A_c)] w fun e w' => ∃ v, e = .returned v ∧ (v = (.int .i64 r) ∧ Mem w [] [] w') := by
  subst A_hn
  rw [impl_Tune_length] at h
  refine enter (args := [(.slice A_a t0.length A_c)]) Tryz.func75 rfl Tryz.ntmps75 (by kernel_rfl) (L := []) (W := []) (Mem.start w) ?_
  refine jc_seq (jc_region (qh [0] (qe (jx_then (jc_seq (jc_seq (jc_region (qh [0,0,0] (qe (jx_then (qi h (fun h => ?_) (fun h => ?_))))))))))))
  ·refine jc_seq (jc_region (qh [0] (qe (jx_then (jc_ret (jx_thenr ?_))))))
   obtain rfl := Option.some.inj h
   exact qr [] (fun w hm => ⟨rfl, hm.pk []⟩)
  ·refine jc_skip (jx_then (jc_seq (jc_region (qh [0,0,0,0] ?_))))
   obtain ⟨x_1, hx_3, h⟩ := bd h
   refine tO (qx 0 A_a 2 hx_3 rfl (A_h.sp hx_3) (jkO (qh [0] (tO (ql 0 false (fun w hm => (((hm.xr A_h).at hx_3).sub 0 1)) (jkO (qh [0,0,0] (qe (jx_then (jc_ret ?_))))))))))
   obtain rfl := Option.some.inj h
   exact qr [] (fun w hm => ⟨rfl, hm.pk []⟩)
/-! ### impl.tuneOnCode -/
def impl_tuneOnCode (f0 : GFrame) (t1 : List GNote) (budget2 : Int) (list3 : List (Arr 96 Int)) : Option (Int) := (impl_drumCode f0 list3).bind fun t_1 => (impl_tuneCode [t1]).bind fun t_2 => (impl_firstOf ([t_1, t_2] : List Int)).bind fun t_3 => (if (t_3 != 0) = true then some t_3 else (impl_Tune_length t1).bind fun t_4 => (if (decide (t_4 ≤ (w64 f0.fSteps))) = true then (impl_within budget2 0 20000).bind fun t_5 => (impl_unless t_5 2).bind fun t_6 => some t_6 else (impl_unless false 2).bind fun t_7 => some t_7))
theorem impl_tuneOnCode.calls (f0 : GFrame) (t1 : List GNote) (budget2 : Int) (list3 : List (Arr 96 Int)) (w : World) (r : Int) {C_a : Option Addr} {C_an : Nat} (C_c : Nat) (C_h : Rw w C_a 2 encGHammer f0.fHammers) (C_hn : f0.fHammers.length = C_an) {D_a : Option Addr} {D_an : Nat} (D_c : Nat) (D_h : Rw w D_a 2 encGNote t1) (D_hn : t1.length = D_an) {F_a : Option Addr} {F_an : Nat} (F_c : Nat) (F_h : Rw w F_a 96 encA96U32 list3) (F_hn : list3.length = F_an) (h : impl_tuneOnCode f0 t1 budget2 list3 = some r) :
    Calls Tryz.prog 32 #[(.agg #[(.int .i16 f0.fSteps), (.slice C_a C_an C_c)]), (.slice D_a D_an D_c), (.int .i64 budget2), (.slice F_a F_an F_c)] w fun e w' => ∃ v, e = .returned v ∧ (v = (.int .i64 r) ∧ Mem w [] [] w') := by
  subst C_hn D_hn F_hn
  rw [impl_tuneOnCode] at h
  refine enter (args := [(.agg #[(.int .i16 f0.fSteps), (.slice C_a f0.fHammers.length C_c)]), (.slice D_a t1.length D_c), (.int .i64 budget2), (.slice F_a list3.length F_c)]) Tryz.func32 rfl Tryz.ntmps32 (by kernel_rfl) (L := []) (W := []) (Mem.start w) ?_
  refine jc_seq (jc_region (tO (qa 0 (fun b_1 => jkO (qh [0] (qe (jx_then (jc_seq (jc_seq (jc_region (qh [0,0] ?_)))))))))))
  obtain ⟨t_1, ht_8, h⟩ := bd h
  refine tO (pc 0 (fun w hm => impl_drumCode.calls f0 list3 w _ C_c (hm.xr C_h) rfl F_c (hm.xr F_h) rfl ht_8) ?_)
  rintro w v w' hm ⟨rfl, hm'⟩
  refine ⟨_, hm.app hm', jkO ?_⟩
  clear hm hm'
  refine qh [0] (tO (qa 0 (fun b_9 => jkO ?_)))
  obtain ⟨t_2, ht_10, h⟩ := bd h
  refine tO (pc 0 (fun w hm => impl_tuneCode.calls [t1] w _ 1 (hm.ow 1 (some b_9) 30 ([(Hd.mk D_a t1.length D_c)]) [] (fun e => nomatch e) encHd_len) rfl (Inn.cons (hm.xr D_h) rfl (fun _ => List.not_mem_nil) Inn.nil) ht_10) ?_)
  rintro w v w' hm ⟨rfl, hm'⟩
  refine ⟨_, hm.app hm', jkO ?_⟩
  clear hm hm'
  refine tO (qa 0 (fun b_11 => jkO ?_))
  obtain ⟨t_3, ht_12, h⟩ := bd h
  refine tO (pc 0 (fun w hm => impl_firstOf.calls ([t_1, t_2] : List Int) w _ 2 (hm.ow 2 (some b_11) 2 ([t_1, t_2] : List Int) [] (fun e => nomatch e) encI64_len) rfl ht_12) ?_)
  rintro w v w' hm ⟨rfl, hm'⟩
  refine ⟨_, hm.app hm', jkO ?_⟩
  clear hm hm'
  refine qh [0] (qe (jx_then (jc_seq (jc_region (qh [0,0] (qe (jx_then (qi h (fun h => ?_) (fun h => ?_)))))))))
  ·refine jc_seq (jc_region (qh [0,0] (qe (jx_then (jc_ret (jx_thenr ?_))))))
   obtain rfl := Option.some.inj h
   exact qr [] (fun w hm => ⟨rfl, hm.pk []⟩)
  ·refine jc_skip (jx_then (jc_seq (qg [⟨some b_1, 27, [(.int .i16 f0.fSteps), (.slice C_a f0.fHammers.length C_c)]⟩, ⟨(some b_9), 30, row encHd [(Hd.mk D_a t1.length D_c)] []⟩, ⟨(some b_11), 2, row encI64 ([t_1, t_2] : List Int) []⟩] 12 (qd [⟨0, 0, 0⟩,⟨2, 0, 0⟩,⟨3, 0, 0⟩,⟨4, 0, 0⟩] 8 [0, 1, 2] ?_))))
   obtain ⟨t_4, ht_14, h⟩ := bd h
   refine tD 1 (pc 0 (fun w hm => impl_Tune_length.calls t1 w _ D_c (hm.xr D_h) rfl ht_14) ?_)
   rintro w v w' hm ⟨rfl, hm'⟩
   refine ⟨_, hm.app hm', kD [0, 1, 2] ?_⟩
   clear hm hm'
   refine qd [⟨5, 0, 0⟩,⟨6, 0, 0⟩,⟨7, 0, 1⟩] 4 [0, 1, 2] (jd_split 27 (decide (t_4 ≤ (w64 f0.fSteps))) (by kernel_rfl) (fun hc_15 => ?_) (fun hc_15 => ?_))
   ·replace h := ifT hc_15 h
    obtain ⟨t_5, ht_16, h⟩ := bd h
    refine tD 8 (pc 2 (fun w hm => impl_within.calls budget2 0 20000 w _ ht_16) ?_)
    rintro w v w' hm ⟨rfl, hm'⟩
    refine ⟨_, hm.app hm', kD [0, 1, 2] ?_⟩
    clear hm hm'
    refine qd [⟨9, 0, 4⟩] 2 [0, 1, 2] ?_
    obtain ⟨t_6, ht_17, h⟩ := bd h
    refine tD 10 (pc 0 (fun w hm => impl_unless.calls t_5 2 w _ ht_17) ?_)
    rintro w v w' hm ⟨rfl, hm'⟩
    refine ⟨_, hm.app hm', kD [0, 1, 2] ?_⟩
    clear hm hm'
    refine qd [⟨11, 0, 0⟩] 0 [0, 1, 2] (qz (jx_then (jc_ret ?_)))
    obtain rfl := Option.some.inj h
    exact qr [] (fun w hm => ⟨rfl, hm.pk []⟩)
   ·replace h := ifF hc_15 h
    refine qd [⟨8, 0, 3⟩,⟨9, 0, 5⟩] 2 [0, 1, 2] ?_
    obtain ⟨t_7, ht_18, h⟩ := bd h
    refine tD 10 (pc 0 (fun w hm => impl_unless.calls false 2 w _ ht_18) ?_)
    rintro w v w' hm ⟨rfl, hm'⟩
    refine ⟨_, hm.app hm', kD [0, 1, 2] ?_⟩
    clear hm hm'
    refine qd [⟨11, 0, 0⟩] 0 [0, 1, 2] (qz (jx_then (jc_ret ?_)))
    obtain rfl := Option.some.inj h
    exact qr [] (fun w hm => ⟨rfl, hm.pk []⟩)
/-! ### (impl.Frame).pitch -/
def impl_Frame_pitch (f0 : GFrame) (track1 : Int) : Option (Int) := (ix f0.fHammers track1).bind fun x_1 => some (w64 x_1.fPitch)
theorem impl_Frame_pitch.calls (f0 : GFrame) (track1 : Int) (w : World) (r : Int) {C_a : Option Addr} {C_an : Nat} (C_c : Nat) (C_h : Rw w C_a 2 encGHammer f0.fHammers) (C_hn : f0.fHammers.length = C_an) (h : impl_Frame_pitch f0 track1 = some r) :
    Calls Tryz.prog 111 #[(.agg #[(.int .i16 f0.fSteps), (.slice C_a C_an C_c)]), (.int .i64 track1)] w fun e w' => ∃ v, e = .returned v ∧ (v = (.int .i64 r) ∧ Mem w [] [] w') := by
  subst C_hn
  rw [impl_Frame_pitch] at h
  refine enter (args := [(.agg #[(.int .i16 f0.fSteps), (.slice C_a f0.fHammers.length C_c)]), (.int .i64 track1)]) Tryz.func111 rfl Tryz.ntmps111 (by kernel_rfl) (L := []) (W := []) (Mem.start w) ?_
  refine jc_seq (jc_region (tO (qa 0 (fun b_1 => jkO (qh [0] (qe (jx_then (jc_seq (jc_region (qh [0,0,0] ?_))))))))))
  obtain ⟨x_1, hx_2, h⟩ := bd h
  refine tO (qx 0 C_a 2 hx_2 rfl (C_h.sp hx_2) (jkO (qh [0] (tO (ql 0 false (fun w hm => (((hm.xr C_h).at hx_2).sub 0 1)) (jkO (qh [0,0] (qe (jx_then (jc_ret ?_))))))))))
  obtain rfl := Option.some.inj h
  exact qr [] (fun w hm => ⟨rfl, hm.pk []⟩)
/-! ### (*impl.Drum).has -/
def impl_Drum_has (d0 : Arr 96 Int) (step1 : Int) (track2 : Int) : Option (Bool) := (ix d0.1 step1).bind fun x_1 => (if 0 ≤ track2 then some ((bAnd .u32 (bShr .u32 x_1 track2) 1) == 1) else none)
theorem impl_Drum_has.calls (d0 : Arr 96 Int) (step1 : Int) (track2 : Int) (w : World) (r : Bool) {A_b A_q : Nat} (A_h : Rw w (some ⟨A_b, A_q, none⟩) 1 encU32 d0.1) (h : impl_Drum_has d0 step1 track2 = some r) :
    Calls Tryz.prog 49 #[(.pointer (some ⟨A_b, A_q, none⟩)), (.int .i64 step1), (.int .i64 track2)] w fun e w' => ∃ v, e = .returned v ∧ (v = (.bool r) ∧ Mem w [] [] w') := by
  rw [impl_Drum_has] at h
  refine enter (args := [(.pointer (some ⟨A_b, A_q, none⟩)), (.int .i64 step1), (.int .i64 track2)]) Tryz.func49 rfl Tryz.ntmps49 (by kernel_rfl) (L := []) (W := []) (Mem.start w) ?_
  refine jc_seq (jc_region (qh [0] (qe (jx_then (jc_seq (jc_region (qh [0,0,0] ?_)))))))
  obtain ⟨x_1, hx_1, h⟩ := bd h
  refine tO (qx 0 (some ⟨A_b, A_q, none⟩) 1 hx_1 d0.2 (A_h.sp hx_1) (jkO (tO (ql 0 false (fun w hm => ((hm.xr A_h).at hx_1)) (jkO (qh [0] ?_))))))
  obtain ⟨hg_2, h⟩ := gd h
  refine tO (p_shr 0 .u32 x_1 .i64 track2 (by kernel_rfl) (by kernel_rfl) hg_2 (jkO (qh [0,0,0] (qe (jx_then (jc_ret ?_))))))
  obtain rfl := Option.some.inj h
  exact qr [] (fun w hm => ⟨rfl, hm.pk []⟩)
/-! ### (impl.Frame).behind -/
def impl_Frame_behind.k_1 (f0 : GFrame) : Option (Int) := some (w64 f0.fSteps)
def impl_Frame_behind.l_3 (f0 : GFrame) (d1 : Arr 96 Int) (step2 : Int) (track3 : Int) (way4 : Int) : Int → Option ((Int) ⊕ (Int ⊕ Unit))
  | i_2 => (if (decide (i_2 < (w64 f0.fSteps))) = true then (if (w64 f0.fSteps) ≠ 0 then (impl_Drum_has d1 (Int.tmod (w64 ((w64 (step2 + (w64 (way4 * i_2)))) + (w64 f0.fSteps))) (w64 f0.fSteps)) track3).bind fun t_5 => (if t_5 = true then some (.inr (.inl i_2)) else some (.inl (w64 (i_2 + 1)))) else none) else some (.inr (.inr ())))
def impl_Frame_behind (f0 : GFrame) (d1 : Arr 96 Int) (step2 : Int) (track3 : Int) (way4 : Int) : Option (Int) := (loop (impl_Frame_behind.l_3 f0 d1 step2 track3 way4) 1).bind fun t_4 => match t_4 with | .inl p => some p | .inr p => impl_Frame_behind.k_1 f0
theorem impl_Frame_behind.calls (f0 : GFrame) (d1 : Arr 96 Int) (step2 : Int) (track3 : Int) (way4 : Int) (w : World) (r : Int) {C_a : Option Addr} {C_an : Nat} (C_c : Nat) (C_h : Rw w C_a 2 encGHammer f0.fHammers) (C_hn : f0.fHammers.length = C_an) {D_b D_q : Nat} (D_h : Rw w (some ⟨D_b, D_q, none⟩) 1 encU32 d1.1) (h : impl_Frame_behind f0 d1 step2 track3 way4 = some r) :
    Calls Tryz.prog 126 #[(.agg #[(.int .i16 f0.fSteps), (.slice C_a C_an C_c)]), (.pointer (some ⟨D_b, D_q, none⟩)), (.int .i64 step2), (.int .i64 track3), (.int .i64 way4)] w fun e w' => ∃ v, e = .returned v ∧ (v = (.int .i64 r) ∧ Mem w [] [] w') := by
  subst C_hn
  rw [impl_Frame_behind] at h
  refine enter (args := [(.agg #[(.int .i16 f0.fSteps), (.slice C_a f0.fHammers.length C_c)]), (.pointer (some ⟨D_b, D_q, none⟩)), (.int .i64 step2), (.int .i64 track3), (.int .i64 way4)]) Tryz.func126 rfl Tryz.ntmps126 (by kernel_rfl) (L := []) (W := []) (Mem.start w) ?_
  refine jc_seq (jc_region (tO (qa 0 (fun b_1 => jkO (qh [0] (qe (jx_then (jc_seq (jc_region (qh [0,0,0,0] (qe (jx_then (jc_seq (jc_seq (jc_region (qh [0] (qe (jx_then (jc_meet (fun (_ : Unit) => impl_Frame_behind.k_1 f0 = some r) (fun (_ : Unit) => [(10, [], (.int .i64 0)), (11, [], (.int .i64 (w64 f0.fSteps)))]) (fun (_ : Unit) => [⟨some b_1, 27, [(.int .i16 f0.fSteps), (.slice C_a f0.fHammers.length C_c)]⟩]) ?_ ?_)))))))))))))))))))
  ·refine jc_block ?_
   obtain ⟨t_4, ht_81, hr_72⟩ := bd h
   refine jc_loop (fun (s : Int) (x : Unit) => match s, x with | i_2, _ => True) (fun (s : Int) (x : Unit) => match s, x with | i_2, _ => [(1, [], (.pointer (some ⟨D_b, D_q, none⟩))), (2, [], (.int .i64 step2)), (3, [], (.int .i64 track3)), (4, [], (.int .i64 way4)), (10, [], (.int .i64 0)), (11, [], (.int .i64 (w64 f0.fSteps))), (12, [], (.int .i64 i_2))]) (fun (s : Int) (x : Unit) => match s, x with | i_2, _ => [⟨some b_1, 27, [(.int .i16 f0.fSteps), (.slice C_a f0.fHammers.length C_c)]⟩]) ht_81 () trivial (by kernel_rfl) [0] (by kernel_rfl) (by kernel_rfl) ?_
   rintro i_2 _ y_73 _ h
   rw [impl_Frame_behind.l_3] at h
   refine jc_seq (jc_seq (jc_region (qh [0,0,0] (qe (jx_then (qi h (fun h => ?_) (fun h => ?_)))))))
   ·refine jc_skip (jx_then (jc_seq (jc_block (jc_seq (jc_region (qh [0,0,0,0,0,0,0,0,0] ?_))))))
    obtain ⟨hg_76, h⟩ := gd h
    refine tO (p_rem 0 .i64 (w64 ((w64 (step2 + (w64 (way4 * i_2)))) + (w64 f0.fSteps))) (w64 f0.fSteps) (by kernel_rfl) (by kernel_rfl) hg_76 (jkO (qh [0] ?_)))
    obtain ⟨t_5, ht_77, h⟩ := bd h
    refine tO (pc 0 (fun w hm => impl_Drum_has.calls d1 (Int.tmod (w64 ((w64 (step2 + (w64 (way4 * i_2)))) + (w64 f0.fSteps))) (w64 f0.fSteps)) track3 w _ (hm.xr D_h) ht_77) ?_)
    rintro w v w' hm ⟨rfl, hm'⟩
    refine ⟨_, hm.app hm', jkO ?_⟩
    clear hm hm'
    refine qe (jx_then (qi h (fun h => ?_) (fun h => ?_)))
    ·refine jc_seq (jc_region (qh [0,0] (qe (jx_then (jc_ret (jx_inr (jx_thenr (jx_leaver (.inl i_2) (Option.some.inj h).symm (fun e_79 => ?_)))))))))
     subst e_79
     refine jx_inr (jx_thenr (jx_thenr ?_))
     obtain rfl := Option.some.inj hr_72
     exact qr [] (fun w hm => ⟨rfl, hm.pk []⟩)
    ·exact jc_skip (jx_inn (jx_then (jc_region (qh [0,0,0] (qe (qb (w64 (i_2 + 1)) () h trivial [0]))))))
   ·refine jc_exit (jx_thenx (jx_leave (.inr ()) (Option.some.inj h).symm (fun e_80 => ?_)))
    subst e_80
    exact jx_ine (qm () hr_72 [0])
  ·rintro _ h
   replace h : impl_Frame_behind.k_1 f0 = some r := h
   rw [impl_Frame_behind.k_1] at h
   refine jx_then (jc_seq (jc_region (qh [0,0] (qe (jx_then (jc_ret ?_))))))
   obtain rfl := Option.some.inj h
   exact qr [] (fun w hm => ⟨rfl, hm.pk []⟩)
/-! ### (impl.Frame).isFree -/
def impl_Frame_isFree (f0 : GFrame) (d1 : Arr 96 Int) (step2 : Int) (track3 : Int) : Option (Bool) := (ix f0.fHammers track3).bind fun x_1 => (impl_Drum_has d1 step2 track3).bind fun t_2 => (if (!t_2) = true then (impl_Frame_behind f0 d1 step2 track3 1).bind fun t_3 => (if (decide (t_3 ≥ (w64 x_1.fReady))) = true then (impl_Frame_behind f0 d1 step2 track3 (-1)).bind fun t_4 => some (decide (t_4 ≥ (w64 x_1.fReady))) else some false) else some false)
theorem impl_Frame_isFree.calls (f0 : GFrame) (d1 : Arr 96 Int) (step2 : Int) (track3 : Int) (w : World) (r : Bool) {C_a : Option Addr} {C_an : Nat} (C_c : Nat) (C_h : Rw w C_a 2 encGHammer f0.fHammers) (C_hn : f0.fHammers.length = C_an) {D_b D_q : Nat} (D_h : Rw w (some ⟨D_b, D_q, none⟩) 1 encU32 d1.1) (h : impl_Frame_isFree f0 d1 step2 track3 = some r) :
    Calls Tryz.prog 112 #[(.agg #[(.int .i16 f0.fSteps), (.slice C_a C_an C_c)]), (.pointer (some ⟨D_b, D_q, none⟩)), (.int .i64 step2), (.int .i64 track3)] w fun e w' => ∃ v, e = .returned v ∧ (v = (.bool r) ∧ Mem w [] [] w') := by
  subst C_hn
  rw [impl_Frame_isFree] at h
  refine enter (args := [(.agg #[(.int .i16 f0.fSteps), (.slice C_a f0.fHammers.length C_c)]), (.pointer (some ⟨D_b, D_q, none⟩)), (.int .i64 step2), (.int .i64 track3)]) Tryz.func112 rfl Tryz.ntmps112 (by kernel_rfl) (L := []) (W := []) (Mem.start w) ?_
  refine jc_seq (jc_region (tO (qa 0 (fun b_1 => jkO (qh [0] (qe (jx_then (jc_seq (jc_region (qh [0,0,0] ?_))))))))))
  obtain ⟨x_1, hx_2, h⟩ := bd h
  refine tO (qx 0 C_a 2 hx_2 rfl (C_h.sp hx_2) (jkO (qh [0] (tO (ql 0 false (fun w hm => (((hm.xr C_h).at hx_2).sub 1 1)) (jkO (qh [0,0] (qe (jx_then (jc_seq (jc_region (qh [0,0,0] ?_))))))))))))
  obtain ⟨t_2, ht_3, h⟩ := bd h
  refine tO (pc 0 (fun w hm => impl_Drum_has.calls d1 step2 track3 w _ (hm.xr D_h) ht_3) ?_)
  rintro w v w' hm ⟨rfl, hm'⟩
  refine ⟨_, hm.app hm', jkO ?_⟩
  clear hm hm'
  refine qf [(0, 0), (0, 0), (0, 1), (0, 1), (0, 1), (0, 1)] (qp 22 h (fun h => ?_) (fun h => ?_))
  ·obtain ⟨t_3, ht_5, h⟩ := bd h
   refine tO (pc 2 (fun w hm => impl_Frame_behind.calls f0 d1 step2 track3 1 w _ C_c (hm.xr C_h) rfl (hm.xr D_h) ht_5) ?_)
   rintro w v w' hm ⟨rfl, hm'⟩
   refine ⟨_, hm.app hm', jkO ?_⟩
   clear hm hm'
   refine qf [(0, 2), (0, 2), (0, 4), (0, 0), (0, 1), (0, 1), (0, 1), (0, 1)] (qp 31 h (fun h => ?_) (fun h => ?_))
   ·obtain ⟨t_4, ht_7, h⟩ := bd h
    refine tO (pc 2 (fun w hm => impl_Frame_behind.calls f0 d1 step2 track3 (-1) w _ C_c (hm.xr C_h) rfl (hm.xr D_h) ht_7) ?_)
    rintro w v w' hm ⟨rfl, hm'⟩
    refine ⟨_, hm.app hm', jkO ?_⟩
    clear hm hm'
    refine qf [(0, 2), (0, 2), (0, 4), (0, 0)] (qe (jx_then (jc_ret ?_)))
    obtain rfl := Option.some.inj h
    exact qr [] (fun w hm => ⟨rfl, hm.pk []⟩)
   ·refine qf [(0, 3), (0, 3), (0, 3), (0, 5), (0, 0)] (qe (jx_then (jc_ret ?_)))
    obtain rfl := Option.some.inj h
    exact qr [] (fun w hm => ⟨rfl, hm.pk []⟩)
  ·refine qf [(0, 3), (0, 3), (0, 3), (0, 5), (0, 0), (0, 3), (0, 3), (0, 3), (0, 3), (0, 3), (0, 3), (0, 3), (0, 5), (0, 0)] (qe (jx_then (jc_ret ?_)))
   obtain rfl := Option.some.inj h
   exact qr [] (fun w hm => ⟨rfl, hm.pk []⟩)
/-! ### (impl.Frame).freeTracks -/
def impl_Frame_freeTracks.k_3 (xs_2 : List Int) : Option ((List Int)) := some xs_2
def impl_Frame_freeTracks.k_9 (xs_4 : List Int) (i_5 : Int) (q_8 : Bool) : Option (((List Int) × Int) ⊕ ((List Int))) := (if q_8 = true then (if xs_4.length + ([i_5] : List Int).length ≤ 4294967296 then some (.inl ((xs_4 ++ ([i_5] : List Int)), (w64 (i_5 + 1)))) else none) else some (.inl (xs_4, (w64 (i_5 + 1)))))
def impl_Frame_freeTracks.l_6 (f0 : GFrame) (d1 : Arr 96 Int) (step2 : Int) (pitch3 : Int) (t_1 : Int) : ((List Int) × Int) → Option (((List Int) × Int) ⊕ ((List Int)))
  | (xs_4, i_5) => (if (decide (i_5 < t_1)) = true then (impl_Frame_pitch f0 i_5).bind fun t_10 => (if (t_10 == pitch3) = true then (impl_Frame_isFree f0 d1 step2 i_5).bind fun t_11 => impl_Frame_freeTracks.k_9 xs_4 i_5 t_11 else impl_Frame_freeTracks.k_9 xs_4 i_5 false) else some (.inr xs_4))
def impl_Frame_freeTracks (f0 : GFrame) (d1 : Arr 96 Int) (step2 : Int) (pitch3 : Int) : Option ((List Int)) := (impl_size_Hammer f0.fHammers).bind fun t_1 => (loop (impl_Frame_freeTracks.l_6 f0 d1 step2 pitch3 t_1) (([] : List Int), 0)).bind fun t_7 => impl_Frame_freeTracks.k_3 t_7
theorem impl_Frame_freeTracks.calls (f0 : GFrame) (d1 : Arr 96 Int) (step2 : Int) (pitch3 : Int) (w : World) (r : (List Int)) {C_a : Option Addr} {C_an : Nat} (C_c : Nat) (C_h : Rw w C_a 2 encGHammer f0.fHammers) (C_hn : f0.fHammers.length = C_an) {D_b D_q : Nat} (D_h : Rw w (some ⟨D_b, D_q, none⟩) 1 encU32 d1.1) (h : impl_Frame_freeTracks f0 d1 step2 pitch3 = some r) :
    Calls Tryz.prog 77 #[(.agg #[(.int .i16 f0.fSteps), (.slice C_a C_an C_c)]), (.pointer (some ⟨D_b, D_q, none⟩)), (.int .i64 step2), (.int .i64 pitch3)] w fun e w' => ∃ v, e = .returned v ∧ (∃ (o0 : Option Nat) (c0 : Nat) (s0 : List Value) (n0 : Nat), r.length = n0 ∧ (o0 ≠ none → n0 ≤ c0 ∧ s0.length = (c0 - n0) * 1) ∧ (o0 = none → r = [] ∧ c0 = 0) ∧ v = .slice (o0.map fun b => ⟨b, 0, none⟩) n0 c0 ∧ Mem w [] [⟨o0, 2, row encI64 r s0⟩] w') := by
  subst C_hn
  rw [impl_Frame_freeTracks] at h
  refine enter (args := [(.agg #[(.int .i16 f0.fSteps), (.slice C_a f0.fHammers.length C_c)]), (.pointer (some ⟨D_b, D_q, none⟩)), (.int .i64 step2), (.int .i64 pitch3)]) Tryz.func77 rfl Tryz.ntmps77 (by kernel_rfl) (L := []) (W := []) (Mem.start w) ?_
  refine jc_seq (jc_region (tO (qa 0 (fun b_1 => jkO (qh [0] (qe (jx_then (jc_seq (jc_region (tO (qa 0 (fun b_2 => jkO (qh [0] (qe (jx_then (jc_seq (jc_seq (jc_region (qh [0,0] ?_)))))))))))))))))))
  obtain ⟨t_1, ht_138, h⟩ := bd h
  refine tO (pc 0 (fun w hm => impl_size_Hammer.calls f0.fHammers w _ C_c (hm.xr C_h) rfl ht_138) ?_)
  rintro w v w' hm ⟨rfl, hm'⟩
  refine ⟨_, hm.app hm', jkO ?_⟩
  clear hm hm'
  refine qh [0] (qe (jx_then (jc_meet (fun (j : (List Int) × (Option Nat) × Nat × (List Value) × Nat) => match j with | ⟨xs_2, o_203, cap_204, sp_205, n_206⟩ => impl_Frame_freeTracks.k_3 xs_2 = some r ∧ (xs_2.length = n_206) ∧ ((o_203 ≠ none → n_206 ≤ cap_204 ∧ sp_205.length = (cap_204 - n_206) * 1)) ∧ ((o_203 = none → xs_2 = [] ∧ cap_204 = 0))) (fun (j : (List Int) × (Option Nat) × Nat × (List Value) × Nat) => match j with | ⟨xs_2, o_203, cap_204, sp_205, n_206⟩ => [(8, [], (.slice none 0 0)), (9, [], (.slice (o_203.map fun b => ⟨b, 0, none⟩) n_206 cap_204))]) (fun (j : (List Int) × (Option Nat) × Nat × (List Value) × Nat) => match j with | ⟨xs_2, o_203, cap_204, sp_205, n_206⟩ => [⟨some b_1, 27, [(.int .i16 f0.fSteps), (.slice C_a f0.fHammers.length C_c)]⟩, ⟨o_203, 2, row encI64 xs_2 sp_205⟩]) ?_ ?_)))
  ·refine jc_block ?_
   obtain ⟨t_7, ht_272, hr_253⟩ := bd h
   refine jc_loop (fun (s : (List Int) × Int) (x : (Option Nat) × Nat × (List Value) × Nat) => match s, x with | ⟨xs_4, i_5⟩, ⟨o_247, cap_248, sp_249, n_250⟩ => (xs_4.length = n_250) ∧ ((o_247 ≠ none → n_250 ≤ cap_248 ∧ sp_249.length = (cap_248 - n_250) * 1)) ∧ ((o_247 = none → xs_4 = [] ∧ cap_248 = 0))) (fun (s : (List Int) × Int) (x : (Option Nat) × Nat × (List Value) × Nat) => match s, x with | ⟨xs_4, i_5⟩, ⟨o_247, cap_248, sp_249, n_250⟩ => [(1, [], (.pointer (some ⟨D_b, D_q, none⟩))), (2, [], (.int .i64 step2)), (3, [], (.int .i64 pitch3)), (4, [], (.pointer (some ⟨b_1, 0, none⟩))), (8, [], (.slice none 0 0)), (9, [], (.slice (o_247.map fun b => ⟨b, 0, none⟩) n_250 cap_248)), (14, [], (.int .i64 t_1)), (15, [], (.int .i64 i_5))]) (fun (s : (List Int) × Int) (x : (Option Nat) × Nat × (List Value) × Nat) => match s, x with | ⟨xs_4, i_5⟩, ⟨o_247, cap_248, sp_249, n_250⟩ => [⟨some b_1, 27, [(.int .i16 f0.fSteps), (.slice C_a f0.fHammers.length C_c)]⟩, ⟨o_247, 2, row encI64 xs_4 sp_249⟩]) ht_272 ⟨(some b_2), 0, [], 0⟩ ⟨rfl, (fun _ => ⟨Nat.le_refl _, by simp⟩), (fun e => nomatch e)⟩ (by kernel_rfl) [0, 1] (by kernel_rfl) (by kernel_rfl) ?_
   rintro ⟨xs_4, i_5⟩ ⟨o_247, cap_248, sp_249, n_250⟩ y_254 ⟨rfl, hs_251, ho_252⟩ h
   rw [impl_Frame_freeTracks.l_6] at h
   refine jc_seq (jc_region (qh [0] (qe (jx_then (jc_seq (qi h (fun h => ?_) (fun h => ?_)))))))
   ·refine jc_skip (jx_then (jc_seq (jc_block (jc_seq (jc_region (qh [0,0] (qe (jx_then (jc_seq (jc_meet (fun (j : Bool) => match j with | q_8 => impl_Frame_freeTracks.k_9 xs_4 i_5 q_8 = some y_254) (fun (j : Bool) => match j with | q_8 => [(1, [], (.pointer (some ⟨D_b, D_q, none⟩))), (2, [], (.int .i64 step2)), (3, [], (.int .i64 pitch3)), (4, [], (.pointer (some ⟨b_1, 0, none⟩))), (8, [], (.slice none 0 0)), (9, [], (.slice (o_247.map fun b => ⟨b, 0, none⟩) xs_4.length cap_248)), (10, [], (.int .i64 i_5)), (14, [], (.int .i64 t_1)), (15, [], (.int .i64 i_5)), (29, [], (.bool q_8))]) (fun (j : Bool) => match j with | q_8 => [⟨some b_1, 27, [(.int .i16 f0.fSteps), (.slice C_a f0.fHammers.length C_c)]⟩, ⟨o_247, 2, row encI64 xs_4 sp_249⟩]) ?_ ?_))))))))))
    ·refine jc_region (qh [0,0] ?_)
     obtain ⟨t_10, ht_268, h⟩ := bd h
     refine tO (pc 0 (fun w hm => impl_Frame_pitch.calls f0 i_5 w _ C_c (hm.xr C_h) rfl ht_268) ?_)
     rintro w v w' hm ⟨rfl, hm'⟩
     refine ⟨_, hm.app hm', jkO ?_⟩
     clear hm hm'
     refine qf [(0, 0), (0, 0), (0, 0), (0, 1), (0, 1), (0, 1), (0, 1)] (qp 23 h (fun h => ?_) (fun h => ?_))
     ·obtain ⟨t_11, ht_270, h⟩ := bd h
      refine tO (pc 2 (fun w hm => impl_Frame_isFree.calls f0 d1 step2 i_5 w _ C_c (hm.xr C_h) rfl (hm.xr D_h) ht_270) ?_)
      rintro w v w' hm ⟨rfl, hm'⟩
      refine ⟨_, hm.app hm', jkO ?_⟩
      clear hm hm'
      exact qf [(0, 4)] (qe (qm t_11 h [0, 1]))
     ·exact qf [(0, 3), (0, 5)] (qe (qm false h [0, 1]))
    ·rintro q_8 h
     replace h : impl_Frame_freeTracks.k_9 xs_4 i_5 q_8 = some y_254 := h
     rw [impl_Frame_freeTracks.k_9] at h
     refine jx_then (qi h (fun h => ?_) (fun h => ?_))
     ·refine jc_region (qh [0,0] (tO (qa 0 (fun b_261 => jkO ?_))))
      obtain ⟨hg_262, h⟩ := gd h
      exact tO (p_apn 0 1 o_247 2 xs_4.length 1 cap_248 1 8 (some ⟨b_261, 0, none⟩) encI64 xs_4 ([i_5] : List Int) sp_249 (.int .i64 0) rfl rfl (by kernel_rfl) (by kernel_rfl) (by kernel_rfl) encI64_len encI64_cell hs_251 ho_252 (fun w hm => (hm.ow 2 (some b_261) 2 ([i_5] : List Int) [] (fun e => nomatch e) encI64_len)) hg_262 (by kernel_rfl) (by kernel_rfl) (fun o_263 cap_264 sp_265 hs_266 ho_267 => jkO (qh [0] (qe (jx_inn (jx_then (jc_region (qh [0,0] (qe (qb ((xs_4 ++ ([i_5] : List Int)), (w64 (i_5 + 1))) ⟨o_263, cap_264, sp_265, (xs_4 ++ ([i_5] : List Int)).length⟩ h ⟨rfl, hs_266, ho_267⟩ [0, 1]))))))))))
     ·exact jc_skip (jx_inn (jx_then (jc_region (qh [0,0] (qe (qb (xs_4, (w64 (i_5 + 1))) ⟨o_247, cap_248, sp_249, xs_4.length⟩ h ⟨rfl, hs_251, ho_252⟩ [0, 1]))))))
   ·refine jc_exit (jx_thenx (jx_leave xs_4 (Option.some.inj h).symm (fun e_271 => ?_)))
    subst e_271
    exact jx_ine (qm ⟨xs_4, o_247, cap_248, sp_249, xs_4.length⟩ ⟨hr_253, rfl, hs_251, ho_252⟩ [0, 1])
  ·rintro ⟨xs_2, o_203, cap_204, sp_205, n_206⟩ ⟨h, rfl, hs_207, ho_208⟩
   replace h : impl_Frame_freeTracks.k_3 xs_2 = some r := h
   rw [impl_Frame_freeTracks.k_3] at h
   refine jx_then (jc_seq (jc_region (qh [0,0] (qe (jx_then (jc_ret ?_))))))
   obtain rfl := Option.some.inj h
   exact qr [] (fun w hm => ⟨o_203, cap_204, sp_205, xs_2.length, rfl, hs_207, ho_208, rfl, hm.pk [1]⟩)
/-! ### impl.bit -/
def impl_bit (b0 : Bool) : Option (Int) := (if b0 = true then some 1 else some 0)
theorem impl_bit.calls (b0 : Bool) (w : World) (r : Int) (h : impl_bit b0 = some r) :
    Calls Tryz.prog 78 #[(.bool b0)] w fun e w' => ∃ v, e = .returned v ∧ (v = (.int .i64 r) ∧ Mem w [] [] w') := by
  rw [impl_bit] at h
  refine enter (args := [(.bool b0)]) Tryz.func78 rfl Tryz.ntmps78 (by kernel_rfl) (L := []) (W := []) (Mem.start w) ?_
  refine jc_seq (jc_region (qh [0] (qe (jx_then (jc_seq (jc_seq (jc_region (qh [0] (qe (jx_then (qi h (fun h => ?_) (fun h => ?_))))))))))))
  ·refine jc_seq (jc_region (qh [0] (qe (jx_then (jc_ret (jx_thenr ?_))))))
   obtain rfl := Option.some.inj h
   exact qr [] (fun w hm => ⟨rfl, hm.pk []⟩)
  ·refine jc_skip (jx_then (jc_seq (jc_region (qh [0] (qe (jx_then (jc_ret ?_)))))))
   obtain rfl := Option.some.inj h
   exact qr [] (fun w hm => ⟨rfl, hm.pk []⟩)
/-! ### (*impl.Drum).put -/
def impl_Drum_put (d0 : Arr 96 Int) (step1 : Int) (track2 : Int) (on3 : Bool) : Option ((Arr 96 Int)) := (ix d0.1 step1).bind fun x_1 => (if 0 ≤ track2 then (ix d0.1 step1).bind fun x_2 => (if on3 = true then (ix ((Arr.set d0 step1 (bClr .u32 x_1 (bShl .u32 1 track2))).1) step1).bind fun x_3 => (if 0 ≤ track2 then (ix ((Arr.set d0 step1 (bClr .u32 x_1 (bShl .u32 1 track2))).1) step1).bind fun x_4 => some (Arr.set (Arr.set d0 step1 (bClr .u32 x_1 (bShl .u32 1 track2))) step1 (bOr .u32 x_3 (bShl .u32 1 track2))) else none) else some (Arr.set d0 step1 (bClr .u32 x_1 (bShl .u32 1 track2)))) else none)
theorem impl_Drum_put.calls (d0 : Arr 96 Int) (step1 : Int) (track2 : Int) (on3 : Bool) (w : World) (r : (Arr 96 Int)) (A_b : Nat) (hm0 : Mem w (bs [some A_b]) [⟨(some A_b), 34, row encU32 d0.1 []⟩] w) (h : impl_Drum_put d0 step1 track2 on3 = some r) :
    Calls Tryz.prog 50 #[(.pointer (some ⟨A_b, 0, none⟩)), (.int .i64 step1), (.int .i64 track2), (.bool on3)] w fun e w' => ∃ v, e = .returned v ∧ (v = .tuple #[] ∧ Mem w (bs [some A_b]) [⟨(some A_b), 34, row encU32 r.1 []⟩] w') := by
  rw [impl_Drum_put] at h
  refine enter (args := [(.pointer (some ⟨A_b, 0, none⟩)), (.int .i64 step1), (.int .i64 track2), (.bool on3)]) Tryz.func50 rfl Tryz.ntmps50 (by kernel_rfl) (L := [⟨(some A_b), 34, row encU32 d0.1 []⟩]) (W := bs [some A_b]) hm0 ?_
  refine jc_seq (qg [] 11 (qd [⟨0, 0, 0⟩,⟨1, 0, 0⟩,⟨2, 0, 0⟩,⟨5, 0, 0⟩,⟨8, 0, 0⟩] 6 [] ?_))
  obtain ⟨x_1, hx_4, h⟩ := bd h
  refine qv 3 0 [] (fun w hm => idx_run (a := (some ⟨A_b, 0, none⟩)) (len := 96) (s := 1) (j := step1) (by kernel_rfl) (ix_some hx_4).1 (ltn hx_4 d0.2) rfl) (toD2 4 6 (by kernel_rfl) ?_ ?_)
  ·refine ql 0 false (fun w hm => ((hm.ow 0 (some A_b) 34 d0.1 [] (fun e => nomatch e) encU32_len).at hx_4)) (kD [] ?_)
   obtain ⟨hg_5, h⟩ := gd h
   refine tD 6 (p_shl 0 .u32 1 .i64 track2 (by kernel_rfl) (by kernel_rfl) hg_5 (kD [] (qd [⟨7, 0, 0⟩] 2 [] ?_)))
   obtain ⟨x_2, hx_6, h⟩ := bd h
   refine qv 9 0 [] (fun w hm => idx_run (a := (some ⟨A_b, 0, none⟩)) (len := 96) (s := 1) (j := step1) (by kernel_rfl) (ix_some hx_6).1 (ltn hx_6 d0.2) rfl) (tD 10 (p_str 0 0 A_b 34 encU32 d0.1 [] step1 (bClr .u32 x_1 (bShl .u32 1 track2)) 1 0 [(.int .u32 (bClr .u32 x_1 (bShl .u32 1 track2)))] (by kernel_rfl) (by kernel_rfl) (by kernel_rfl) encU32_len hx_6 (by kernel_rfl) (by kernel_rfl) (kD [] (qz (jx_then (jc_seq (jc_region (qh [0] (qe (jx_then (qi h (fun h => ?_) (fun h => ?_))))))))))))
   ·refine qg [] 11 (qd [⟨0, 0, 0⟩,⟨1, 0, 0⟩,⟨2, 0, 0⟩,⟨5, 0, 0⟩,⟨8, 0, 0⟩] 6 [] ?_)
    obtain ⟨x_3, hx_11, h⟩ := bd h
    refine qv 3 0 [] (fun w hm => idx_run (a := (some ⟨A_b, 0, none⟩)) (len := 96) (s := 1) (j := step1) (by kernel_rfl) (ix_some hx_11).1 (ltn hx_11 (Arr.set d0 step1 (bClr .u32 x_1 (bShl .u32 1 track2))).2) rfl) (toD2 4 6 (by kernel_rfl) ?_ ?_)
    ·refine ql 0 false (fun w hm => ((hm.ow 0 (some A_b) 34 ((Arr.set d0 step1 (bClr .u32 x_1 (bShl .u32 1 track2))).1) [] (fun e => nomatch e) encU32_len).at hx_11)) (kD [] ?_)
     obtain ⟨hg_12, h⟩ := gd h
     refine tD 6 (p_shl 0 .u32 1 .i64 track2 (by kernel_rfl) (by kernel_rfl) hg_12 (kD [] (qd [⟨7, 0, 0⟩] 2 [] ?_)))
     obtain ⟨x_4, hx_13, h⟩ := bd h
     refine qv 9 0 [] (fun w hm => idx_run (a := (some ⟨A_b, 0, none⟩)) (len := 96) (s := 1) (j := step1) (by kernel_rfl) (ix_some hx_13).1 (ltn hx_13 (Arr.set d0 step1 (bClr .u32 x_1 (bShl .u32 1 track2))).2) rfl) (tD 10 (p_str 0 0 A_b 34 encU32 ((Arr.set d0 step1 (bClr .u32 x_1 (bShl .u32 1 track2))).1) [] step1 (bOr .u32 x_3 (bShl .u32 1 track2)) 1 0 [(.int .u32 (bOr .u32 x_3 (bShl .u32 1 track2)))] (by kernel_rfl) (by kernel_rfl) (by kernel_rfl) encU32_len hx_13 (by kernel_rfl) (by kernel_rfl) (kD [] (qz (jx_fall ?_)))))
     obtain rfl := Option.some.inj h
     exact qr [] (fun w hm => ⟨rfl, hm.pk [0]⟩)
    ·obtain ⟨hg_14, h⟩ := gd h
     refine p_shl 0 .u32 1 .i64 track2 (by kernel_rfl) (by kernel_rfl) hg_14 (kD [] (tD 4 (ql 0 false (fun w hm => ((hm.ow 0 (some A_b) 34 ((Arr.set d0 step1 (bClr .u32 x_1 (bShl .u32 1 track2))).1) [] (fun e => nomatch e) encU32_len).at hx_11)) (kD [] (qd [⟨7, 0, 0⟩] 2 [] ?_)))))
     obtain ⟨x_4, hx_15, h⟩ := bd h
     refine qv 9 0 [] (fun w hm => idx_run (a := (some ⟨A_b, 0, none⟩)) (len := 96) (s := 1) (j := step1) (by kernel_rfl) (ix_some hx_15).1 (ltn hx_15 (Arr.set d0 step1 (bClr .u32 x_1 (bShl .u32 1 track2))).2) rfl) (tD 10 (p_str 0 0 A_b 34 encU32 ((Arr.set d0 step1 (bClr .u32 x_1 (bShl .u32 1 track2))).1) [] step1 (bOr .u32 x_3 (bShl .u32 1 track2)) 1 0 [(.int .u32 (bOr .u32 x_3 (bShl .u32 1 track2)))] (by kernel_rfl) (by kernel_rfl) (by kernel_rfl) encU32_len hx_15 (by kernel_rfl) (by kernel_rfl) (kD [] (qz (jx_fall ?_)))))
     obtain rfl := Option.some.inj h
     exact qr [] (fun w hm => ⟨rfl, hm.pk [0]⟩)
   ·refine jc_skip (jx_fall ?_)
    obtain rfl := Option.some.inj h
    exact qr [] (fun w hm => ⟨rfl, hm.pk [0]⟩)
  ·obtain ⟨hg_16, h⟩ := gd h
   refine p_shl 0 .u32 1 .i64 track2 (by kernel_rfl) (by kernel_rfl) hg_16 (kD [] (tD 4 (ql 0 false (fun w hm => ((hm.ow 0 (some A_b) 34 d0.1 [] (fun e => nomatch e) encU32_len).at hx_4)) (kD [] (qd [⟨7, 0, 0⟩] 2 [] ?_)))))
   obtain ⟨x_2, hx_17, h⟩ := bd h
   refine qv 9 0 [] (fun w hm => idx_run (a := (some ⟨A_b, 0, none⟩)) (len := 96) (s := 1) (j := step1) (by kernel_rfl) (ix_some hx_17).1 (ltn hx_17 d0.2) rfl) (tD 10 (p_str 0 0 A_b 34 encU32 d0.1 [] step1 (bClr .u32 x_1 (bShl .u32 1 track2)) 1 0 [(.int .u32 (bClr .u32 x_1 (bShl .u32 1 track2)))] (by kernel_rfl) (by kernel_rfl) (by kernel_rfl) encU32_len hx_17 (by kernel_rfl) (by kernel_rfl) (kD [] (qz (jx_then (jc_seq (jc_region (qh [0] (qe (jx_then (qi h (fun h => ?_) (fun h => ?_))))))))))))
   ·refine qg [] 11 (qd [⟨0, 0, 0⟩,⟨1, 0, 0⟩,⟨2, 0, 0⟩,⟨5, 0, 0⟩,⟨8, 0, 0⟩] 6 [] ?_)
    obtain ⟨x_3, hx_22, h⟩ := bd h
    refine qv 3 0 [] (fun w hm => idx_run (a := (some ⟨A_b, 0, none⟩)) (len := 96) (s := 1) (j := step1) (by kernel_rfl) (ix_some hx_22).1 (ltn hx_22 (Arr.set d0 step1 (bClr .u32 x_1 (bShl .u32 1 track2))).2) rfl) (toD2 4 6 (by kernel_rfl) ?_ ?_)
    ·refine ql 0 false (fun w hm => ((hm.ow 0 (some A_b) 34 ((Arr.set d0 step1 (bClr .u32 x_1 (bShl .u32 1 track2))).1) [] (fun e => nomatch e) encU32_len).at hx_22)) (kD [] ?_)
     obtain ⟨hg_23, h⟩ := gd h
     refine tD 6 (p_shl 0 .u32 1 .i64 track2 (by kernel_rfl) (by kernel_rfl) hg_23 (kD [] (qd [⟨7, 0, 0⟩] 2 [] ?_)))
     obtain ⟨x_4, hx_24, h⟩ := bd h
     refine qv 9 0 [] (fun w hm => idx_run (a := (some ⟨A_b, 0, none⟩)) (len := 96) (s := 1) (j := step1) (by kernel_rfl) (ix_some hx_24).1 (ltn hx_24 (Arr.set d0 step1 (bClr .u32 x_1 (bShl .u32 1 track2))).2) rfl) (tD 10 (p_str 0 0 A_b 34 encU32 ((Arr.set d0 step1 (bClr .u32 x_1 (bShl .u32 1 track2))).1) [] step1 (bOr .u32 x_3 (bShl .u32 1 track2)) 1 0 [(.int .u32 (bOr .u32 x_3 (bShl .u32 1 track2)))] (by kernel_rfl) (by kernel_rfl) (by kernel_rfl) encU32_len hx_24 (by kernel_rfl) (by kernel_rfl) (kD [] (qz (jx_fall ?_)))))
     obtain rfl := Option.some.inj h
     exact qr [] (fun w hm => ⟨rfl, hm.pk [0]⟩)
    ·obtain ⟨hg_25, h⟩ := gd h
     refine p_shl 0 .u32 1 .i64 track2 (by kernel_rfl) (by kernel_rfl) hg_25 (kD [] (tD 4 (ql 0 false (fun w hm => ((hm.ow 0 (some A_b) 34 ((Arr.set d0 step1 (bClr .u32 x_1 (bShl .u32 1 track2))).1) [] (fun e => nomatch e) encU32_len).at hx_22)) (kD [] (qd [⟨7, 0, 0⟩] 2 [] ?_)))))
     obtain ⟨x_4, hx_26, h⟩ := bd h
     refine qv 9 0 [] (fun w hm => idx_run (a := (some ⟨A_b, 0, none⟩)) (len := 96) (s := 1) (j := step1) (by kernel_rfl) (ix_some hx_26).1 (ltn hx_26 (Arr.set d0 step1 (bClr .u32 x_1 (bShl .u32 1 track2))).2) rfl) (tD 10 (p_str 0 0 A_b 34 encU32 ((Arr.set d0 step1 (bClr .u32 x_1 (bShl .u32 1 track2))).1) [] step1 (bOr .u32 x_3 (bShl .u32 1 track2)) 1 0 [(.int .u32 (bOr .u32 x_3 (bShl .u32 1 track2)))] (by kernel_rfl) (by kernel_rfl) (by kernel_rfl) encU32_len hx_26 (by kernel_rfl) (by kernel_rfl) (kD [] (qz (jx_fall ?_)))))
     obtain rfl := Option.some.inj h
     exact qr [] (fun w hm => ⟨rfl, hm.pk [0]⟩)
   ·refine jc_skip (jx_fall ?_)
    obtain rfl := Option.some.inj h
    exact qr [] (fun w hm => ⟨rfl, hm.pk [0]⟩)
/-! ### (*impl.pinner).pin -/
def impl_pinner_pin.k_12 (p0 : Gpinner) (i_3 : Int) (a_4 : Arr 96 Int) (i_5 : Int) (i_6 : Int) (q_7 : Bool) (q_8 : Bool) (i_9 : Int) (a_10 : Arr 96 Int) (q_11 : Bool) : Option (Gpinner) := some (⟨(⟨i_3, p0.ff.fHammers⟩ : GFrame), p0.ft, a_4, i_5, i_6, q_7, q_8, i_9, a_10, q_11⟩ : Gpinner)
def impl_pinner_pin.k_28 (self_ : Gpinner → (Arr 96 Int) → Int → Int → Option (Gpinner)) (p0 : Gpinner) (k2 : Int) (x_1 : GNote) (i_13 : Int) (a_14 : Arr 96 Int) (i_15 : Int) (i_16 : Int) (q_17 : Bool) (q_18 : Bool) (i_19 : Int) (a_20 : Arr 96 Int) (q_21 : Bool) (i_22 : Int) (x_25 : Int) (a_26 : Arr 96 Int) (i_27 : Int) : Option ((Int × (Arr 96 Int) × Int × Int × Bool × Bool × Int × (Arr 96 Int) × Bool × Int) ⊕ (Gpinner ⊕ (Int × (Arr 96 Int) × Int × Int × Bool × Bool × Int × (Arr 96 Int) × Bool))) := (impl_Drum_put a_26 (w64 x_1.fAt) x_25 true).bind fun t_29 => (if ((q_21 && q_18) && (decide (i_27 ≥ i_19))) = true then some (.inl (i_13, a_14, i_15, (w64 (i_16 + 1)), q_17, q_18, i_19, a_20, q_21, (w64 (i_22 + 1)))) else (self_ (⟨(⟨i_13, p0.ff.fHammers⟩ : GFrame), p0.ft, a_14, i_15, (w64 (i_16 + 1)), q_17, q_18, i_19, a_20, q_21⟩ : Gpinner) t_29 (w64 (k2 + 1)) i_27).bind fun t_30 => (if t_30.fover = true then some (.inr (.inl (⟨(⟨t_30.ff.fSteps, p0.ff.fHammers⟩ : GFrame), p0.ft, t_30.fold, t_30.fbudget, t_30.ftries, t_30.fover, t_30.ffound, t_30.fmost, t_30.fbest, t_30.fall⟩ : Gpinner))) else (if (t_30.ffound && (!t_30.fall)) = true then some (.inr (.inl (⟨(⟨t_30.ff.fSteps, p0.ff.fHammers⟩ : GFrame), p0.ft, t_30.fold, t_30.fbudget, t_30.ftries, t_30.fover, t_30.ffound, t_30.fmost, t_30.fbest, t_30.fall⟩ : Gpinner))) else some (.inl (t_30.ff.fSteps, t_30.fold, t_30.fbudget, t_30.ftries, t_30.fover, t_30.ffound, t_30.fmost, t_30.fbest, t_30.fall, (w64 (i_22 + 1)))))))
def impl_pinner_pin.l_23 (self_ : Gpinner → (Arr 96 Int) → Int → Int → Option (Gpinner)) (p0 : Gpinner) (d1 : Arr 96 Int) (k2 : Int) (fresh3 : Int) (x_1 : GNote) (t_2 : (List Int)) : (Int × (Arr 96 Int) × Int × Int × Bool × Bool × Int × (Arr 96 Int) × Bool × Int) → Option ((Int × (Arr 96 Int) × Int × Int × Bool × Bool × Int × (Arr 96 Int) × Bool × Int) ⊕ (Gpinner ⊕ (Int × (Arr 96 Int) × Int × Int × Bool × Bool × Int × (Arr 96 Int) × Bool)))
  | (i_13, a_14, i_15, i_16, q_17, q_18, i_19, a_20, q_21, i_22) => (if (decide (i_22 < (t_2.length : Int))) = true then (ix t_2 i_22).bind fun x_25 => (if (i_16 == i_15) = true then some (.inr (.inl (⟨(⟨i_13, p0.ff.fHammers⟩ : GFrame), p0.ft, a_14, i_15, i_16, true, q_18, i_19, a_20, q_21⟩ : Gpinner))) else (impl_Drum_has a_14 (w64 x_1.fAt) x_25).bind fun t_31 => (impl_bit (!t_31)).bind fun t_32 => impl_pinner_pin.k_28 self_ p0 k2 x_1 i_13 a_14 i_15 i_16 q_17 q_18 i_19 a_20 q_21 i_22 x_25 d1 (w64 (fresh3 + t_32))) else some (.inr (.inr (i_13, a_14, i_15, i_16, q_17, q_18, i_19, a_20, q_21))))
def impl_pinner_pin.step (self_ : Gpinner → (Arr 96 Int) → Int → Int → Option (Gpinner)) (p0 : Gpinner) (d1 : Arr 96 Int) (k2 : Int) (fresh3 : Int) : Option (Gpinner) := (if (k2 == (p0.ft.length : Int)) = true then some (⟨(⟨p0.ff.fSteps, p0.ff.fHammers⟩ : GFrame), p0.ft, p0.fold, p0.fbudget, p0.ftries, p0.fover, true, fresh3, d1, p0.fall⟩ : Gpinner) else (ix p0.ft k2).bind fun x_1 => (impl_Frame_freeTracks (⟨p0.ff.fSteps, p0.ff.fHammers⟩ : GFrame) d1 (w64 x_1.fAt) (w64 x_1.fPitch)).bind fun t_2 => (loop (impl_pinner_pin.l_23 self_ p0 d1 k2 fresh3 x_1 t_2) (p0.ff.fSteps, p0.fold, p0.fbudget, p0.ftries, p0.fover, p0.ffound, p0.fmost, p0.fbest, p0.fall, 0)).bind fun t_24 => match t_24 with | .inl p => some p | .inr p => impl_pinner_pin.k_12 p0 p.1 p.2.1 p.2.2.1 p.2.2.2.1 p.2.2.2.2.1 p.2.2.2.2.2.1 p.2.2.2.2.2.2.1 p.2.2.2.2.2.2.2.1 p.2.2.2.2.2.2.2.2)
def impl_pinner_pin.rec_ : Nat → Gpinner → (Arr 96 Int) → Int → Int → Option (Gpinner)
  | 0 => fun p0 d1 k2 fresh3 => none
  | fu + 1 => impl_pinner_pin.step (impl_pinner_pin.rec_ fu)
def impl_pinner_pin (p0 : Gpinner) (d1 : Arr 96 Int) (k2 : Int) (fresh3 : Int) : Option (Gpinner) := impl_pinner_pin.rec_ 200 p0 d1 k2 fresh3
set_option maxHeartbeats 8000000 in
theorem impl_pinner_pin.step_calls (self_ : Gpinner → (Arr 96 Int) → Int → Int → Option (Gpinner)) (hself : ∀ (p0 : Gpinner) (d1 : Arr 96 Int) (k2 : Int) (fresh3 : Int) (w : World) (r : Gpinner) {D_a : Option Addr} {D_an : Nat} (D_c : Nat) (D_h : Rw w D_a 2 encGHammer p0.ff.fHammers) (D_hn : p0.ff.fHammers.length = D_an) {E_a : Option Addr} {E_an : Nat} (E_c : Nat) (E_h : Rw w E_a 2 encGNote p0.ft) (E_hn : p0.ft.length = E_an) (A_b : Nat) (hm0 : Mem w (bs [some A_b]) [⟨some A_b, 75, ((.int .i16 p0.ff.fSteps) :: (.slice D_a D_an D_c) :: (.slice E_a E_an E_c) :: (seg (Value.int .u32) 96 p0.fold.1 ((.int .i64 p0.fbudget) :: (.int .i64 p0.ftries) :: (.bool p0.fover) :: (.bool p0.ffound) :: (.int .i64 p0.fmost) :: (seg (Value.int .u32) 96 p0.fbest.1 [(.bool p0.fall)]))))⟩] w) (D_ha : p0.ff.fHammers ≠ [] → aB D_a ∉ bs [some A_b]) (E_ha : p0.ft ≠ [] → aB E_a ∉ bs [some A_b]) (h : self_ p0 d1 k2 fresh3 = some r),
    Calls Tryz.prog 33 #[(.pointer (some ⟨A_b, 0, none⟩)), (.agg (row encU32 d1.1 []).toArray), (.int .i64 k2), (.int .i64 fresh3)] w fun e w' => ∃ v, e = .returned v ∧ (v = .tuple #[] ∧ Mem w (bs [some A_b]) [⟨some A_b, 75, ((.int .i16 r.ff.fSteps) :: (.slice D_a D_an D_c) :: (.slice E_a E_an E_c) :: (seg (Value.int .u32) 96 r.fold.1 ((.int .i64 r.fbudget) :: (.int .i64 r.ftries) :: (.bool r.fover) :: (.bool r.ffound) :: (.int .i64 r.fmost) :: (seg (Value.int .u32) 96 r.fbest.1 [(.bool r.fall)]))))⟩] w')) (p0 : Gpinner) (d1 : Arr 96 Int) (k2 : Int) (fresh3 : Int) (w : World) (r : Gpinner) {D_a : Option Addr} {D_an : Nat} (D_c : Nat) (D_h : Rw w D_a 2 encGHammer p0.ff.fHammers) (D_hn : p0.ff.fHammers.length = D_an) {E_a : Option Addr} {E_an : Nat} (E_c : Nat) (E_h : Rw w E_a 2 encGNote p0.ft) (E_hn : p0.ft.length = E_an) (A_b : Nat) (hm0 : Mem w (bs [some A_b]) [⟨some A_b, 75, ((.int .i16 p0.ff.fSteps) :: (.slice D_a D_an D_c) :: (.slice E_a E_an E_c) :: (seg (Value.int .u32) 96 p0.fold.1 ((.int .i64 p0.fbudget) :: (.int .i64 p0.ftries) :: (.bool p0.fover) :: (.bool p0.ffound) :: (.int .i64 p0.fmost) :: (seg (Value.int .u32) 96 p0.fbest.1 [(.bool p0.fall)]))))⟩] w) (D_ha : p0.ff.fHammers ≠ [] → aB D_a ∉ bs [some A_b]) (E_ha : p0.ft ≠ [] → aB E_a ∉ bs [some A_b]) (h : impl_pinner_pin.step self_ p0 d1 k2 fresh3 = some r) :
    Calls Tryz.prog 33 #[(.pointer (some ⟨A_b, 0, none⟩)), (.agg (row encU32 d1.1 []).toArray), (.int .i64 k2), (.int .i64 fresh3)] w fun e w' => ∃ v, e = .returned v ∧ (v = .tuple #[] ∧ Mem w (bs [some A_b]) [⟨some A_b, 75, ((.int .i16 r.ff.fSteps) :: (.slice D_a D_an D_c) :: (.slice E_a E_an E_c) :: (seg (Value.int .u32) 96 r.fold.1 ((.int .i64 r.fbudget) :: (.int .i64 r.ftries) :: (.bool r.fover) :: (.bool r.ffound) :: (.int .i64 r.fmost) :: (seg (Value.int .u32) 96 r.fbest.1 [(.bool r.fall)]))))⟩] w') := by
  subst D_hn E_hn
  rw [impl_pinner_pin.step] at h
  refine enter (args := [(.pointer (some ⟨A_b, 0, none⟩)), (.agg (row encU32 d1.1 []).toArray), (.int .i64 k2), (.int .i64 fresh3)]) Tryz.func33 rfl Tryz.ntmps33 (by kernel_rfl) (L := [⟨some A_b, 75, ((.int .i16 p0.ff.fSteps) :: (.slice D_a p0.ff.fHammers.length D_c) :: (.slice E_a p0.ft.length E_c) :: (seg (Value.int .u32) 96 p0.fold.1 ((.int .i64 p0.fbudget) :: (.int .i64 p0.ftries) :: (.bool p0.fover) :: (.bool p0.ffound) :: (.int .i64 p0.fmost) :: (seg (Value.int .u32) 96 p0.fbest.1 [(.bool p0.fall)]))))⟩]) (W := bs [some A_b]) hm0 ?_
  refine jc_seq (jc_region (tO (qa 0 (fun b_1 => jkO (qe (jx_then (jc_seq (jc_seq (jc_region (qh [0,0,0,0,0,0,0] (qe (jx_then (qi h (fun h => ?_) (fun h => ?_))))))))))))))
  ·refine jc_seq (jc_region (qh [0,0,0] (tO (p_ldA 0 1 b_1 96 1 34 encU32 d1 (by kernel_rfl) (by kernel_rfl) (by kernel_rfl) encU32_len (by kernel_rfl) (jkO (qh [0,0,0] (tO (p_stS 0 0 A_b 104 (Value.int .u32) (enc := encU32) (fun _ => rfl) encU32_cell p0.fbest d1 (jkO (qh [0,0] (tO (qs 0 [0] (jkO (qh [0,0] (tO (qs 0 [0] (jkO (qe (jx_then (jc_ret (jx_thenr ?_)))))))))))))))))))))
   obtain rfl := Option.some.inj h
   exact qr [] (fun w hm => ⟨rfl, hm.pk [0]⟩)
  ·refine jc_skip (jx_then (jc_seq (jc_region (qh [0,0,0,0,0] ?_))))
   obtain ⟨x_1, hx_4, h⟩ := bd h
   refine tO (qx 0 E_a 2 hx_4 rfl (E_h.sp hx_4) (jkO (tO (ql 0 true (fun w hm => ((hm.exRowW E_h E_ha).at hx_4)) (jkO (tO (qa 0 (fun b_5 => jkO (tO (qs 0 [2] (jkO (qe (jx_then (jc_seq (qg [⟨some A_b, 75, ((.int .i16 p0.ff.fSteps) :: (.slice D_a p0.ff.fHammers.length D_c) :: (.slice E_a p0.ft.length E_c) :: (seg (Value.int .u32) 96 p0.fold.1 ((.int .i64 p0.fbudget) :: (.int .i64 p0.ftries) :: (.bool p0.fover) :: (.bool p0.ffound) :: (.int .i64 p0.fmost) :: (seg (Value.int .u32) 96 p0.fbest.1 [(.bool p0.fall)]))))⟩, ⟨(some b_1), 34, row encU32 d1.1 []⟩, ⟨some b_5, 68, [(.int .i16 x_1.fAt), (.int .i8 x_1.fPitch)]⟩] 13 (qd [⟨0, 0, 0⟩,⟨1, 0, 0⟩,⟨2, 0, 0⟩,⟨3, 0, 0⟩,⟨4, 0, 0⟩,⟨5, 2, 0⟩,⟨6, 0, 0⟩,⟨7, 0, 0⟩,⟨8, 2, 0⟩,⟨9, 0, 0⟩,⟨12, 0, 0⟩] 2 [0, 1, 2] ?_))))))))))))))))
   obtain ⟨t_2, ht_6, h⟩ := bd h
   refine tD 10 (pc 0 (fun w hm => impl_Frame_freeTracks.calls (⟨p0.ff.fSteps, p0.ff.fHammers⟩ : GFrame) d1 (w64 x_1.fAt) (w64 x_1.fPitch) w _ D_c (hm.exRowW D_h D_ha) rfl (hm.ow 1 (some b_1) 34 d1.1 [] (fun e => nomatch e) encU32_len) ht_6) ?_)
   rintro w v w' hm ⟨o_7, cap_8, sp_9, _, rfl, hs_10, ho_11, rfl, hm'⟩
   refine ⟨_, hm.app hm', kD [0, 1, 2] ?_⟩
   clear hm hm'
   refine qd [⟨11, 0, 0⟩] 0 [0, 1, 2] (qz (jx_then (jc_meet (fun (j : Int × (Arr 96 Int) × Int × Int × Bool × Bool × Int × (Arr 96 Int) × Bool) => match j with | ⟨i_3, a_4, i_5, i_6, q_7, q_8, i_9, a_10, q_11⟩ => impl_pinner_pin.k_12 p0 i_3 a_4 i_5 i_6 q_7 q_8 i_9 a_10 q_11 = some r) (fun (j : Int × (Arr 96 Int) × Int × Int × Bool × Bool × Int × (Arr 96 Int) × Bool) => match j with | ⟨i_3, a_4, i_5, i_6, q_7, q_8, i_9, a_10, q_11⟩ => []) (fun (j : Int × (Arr 96 Int) × Int × Int × Bool × Bool × Int × (Arr 96 Int) × Bool) => match j with | ⟨i_3, a_4, i_5, i_6, q_7, q_8, i_9, a_10, q_11⟩ => [⟨some A_b, 75, ((.int .i16 i_3) :: (.slice D_a p0.ff.fHammers.length D_c) :: (.slice E_a p0.ft.length E_c) :: (seg (Value.int .u32) 96 a_4.1 ((.int .i64 i_5) :: (.int .i64 i_6) :: (.bool q_7) :: (.bool q_8) :: (.int .i64 i_9) :: (seg (Value.int .u32) 96 a_10.1 [(.bool q_11)]))))⟩, ⟨(some b_1), 34, row encU32 d1.1 []⟩, ⟨some b_5, 68, [(.int .i16 x_1.fAt), (.int .i8 x_1.fPitch)]⟩, ⟨o_7, 2, row encI64 t_2 sp_9⟩]) ?_ ?_)))
   ·refine jc_block ?_
    obtain ⟨t_24, ht_199, hr_164⟩ := bd h
    refine jc_loop (fun (s : Int × (Arr 96 Int) × Int × Int × Bool × Bool × Int × (Arr 96 Int) × Bool × Int) (x : Unit) => match s, x with | ⟨i_13, a_14, i_15, i_16, q_17, q_18, i_19, a_20, q_21, i_22⟩, _ => True) (fun (s : Int × (Arr 96 Int) × Int × Int × Bool × Bool × Int × (Arr 96 Int) × Bool × Int) (x : Unit) => match s, x with | ⟨i_13, a_14, i_15, i_16, q_17, q_18, i_19, a_20, q_21, i_22⟩, _ => [(0, [], (.pointer (some ⟨A_b, 0, none⟩))), (2, [], (.int .i64 k2)), (3, [], (.int .i64 fresh3)), (5, [], (.pointer (some ⟨b_1, 0, none⟩))), (8, [], (.pointer (some ⟨b_5, 0, none⟩))), (48, [], (.slice (o_7.map fun b => ⟨b, 0, none⟩) t_2.length cap_8)), (49, [], (.int .i64 (t_2.length : Int))), (50, [], (.int .i64 i_22))]) (fun (s : Int × (Arr 96 Int) × Int × Int × Bool × Bool × Int × (Arr 96 Int) × Bool × Int) (x : Unit) => match s, x with | ⟨i_13, a_14, i_15, i_16, q_17, q_18, i_19, a_20, q_21, i_22⟩, _ => [⟨some A_b, 75, ((.int .i16 i_13) :: (.slice D_a p0.ff.fHammers.length D_c) :: (.slice E_a p0.ft.length E_c) :: (seg (Value.int .u32) 96 a_14.1 ((.int .i64 i_15) :: (.int .i64 i_16) :: (.bool q_17) :: (.bool q_18) :: (.int .i64 i_19) :: (seg (Value.int .u32) 96 a_20.1 [(.bool q_21)]))))⟩, ⟨(some b_1), 34, row encU32 d1.1 []⟩, ⟨some b_5, 68, [(.int .i16 x_1.fAt), (.int .i8 x_1.fPitch)]⟩, ⟨o_7, 2, row encI64 t_2 sp_9⟩]) ht_199 () trivial (by kernel_rfl) [0, 1, 2, 3] (by kernel_rfl) (by kernel_rfl) ?_
    rintro ⟨i_13, a_14, i_15, i_16, q_17, q_18, i_19, a_20, q_21, i_22⟩ _ y_165 _ h
    rw [impl_pinner_pin.l_23] at h
    refine jc_seq (jc_region (qh [0] (qe (jx_then (jc_seq (qi h (fun h => ?_) (fun h => ?_)))))))
    ·refine jc_skip (jx_then (jc_seq (jc_block (jc_seq (jc_region ?_)))))
     obtain ⟨x_25, hx_168, h⟩ := bd h
     refine tO (qx 0 (o_7.map fun b => ⟨b, 0, none⟩) 1 hx_168 rfl (spo ho_11 hx_168) (jkO (tO (ql 0 false (fun w hm => ((hm.ow 3 o_7 2 t_2 sp_9 (fun e => (ho_11 e).1) encI64_len).at hx_168)) (jkO (qh [0] (qe (jx_then (jc_seq (jc_seq (qg [⟨some A_b, 75, ((.int .i16 i_13) :: (.slice D_a p0.ff.fHammers.length D_c) :: (.slice E_a p0.ft.length E_c) :: (seg (Value.int .u32) 96 a_14.1 ((.int .i64 i_15) :: (.int .i64 i_16) :: (.bool q_17) :: (.bool q_18) :: (.int .i64 i_19) :: (seg (Value.int .u32) 96 a_20.1 [(.bool q_21)]))))⟩, ⟨(some b_1), 34, row encU32 d1.1 []⟩, ⟨some b_5, 68, [(.int .i16 x_1.fAt), (.int .i8 x_1.fPitch)]⟩, ⟨o_7, 2, row encI64 t_2 sp_9⟩] 9 (qd [⟨0, 0, 0⟩,⟨1, 0, 0⟩,⟨2, 0, 0⟩,⟨3, 0, 0⟩,⟨4, 0, 0⟩,⟨5, 0, 0⟩,⟨6, 0, 0⟩,⟨7, 0, 0⟩,⟨8, 0, 0⟩] 0 [0, 1, 2, 3] (qz (jx_then (qi h (fun h => ?_) (fun h => ?_))))))))))))))))
     ·refine jc_seq (jc_region (qh [0,0,0] (tO (qs 0 [0] (jkO (qe (jx_then (jc_ret (jx_thenr (jx_inr (jx_thenr (jx_leaver (.inl (⟨(⟨i_13, p0.ff.fHammers⟩ : GFrame), p0.ft, a_14, i_15, i_16, true, q_18, i_19, a_20, q_21⟩ : Gpinner)) (Option.some.inj h).symm (fun e_171 => ?_)))))))))))))
      subst e_171
      refine jx_inr (jx_thenr ?_)
      obtain rfl := Option.some.inj hr_164
      exact qr [] (fun w hm => ⟨rfl, hm.pk [0]⟩)
     ·refine jc_skip (jx_then (jc_seq (jc_region (qh [0,0,0,0,0,0,0] (tO (qs 0 [0] (jkO (qe (jx_then (jc_seq (jc_meet (fun (j : (Arr 96 Int) × Int × Nat) => match j with | ⟨a_26, i_27, b_180⟩ => impl_pinner_pin.k_28 self_ p0 k2 x_1 i_13 a_14 i_15 i_16 q_17 q_18 i_19 a_20 q_21 i_22 x_25 a_26 i_27 = some y_165) (fun (j : (Arr 96 Int) × Int × Nat) => match j with | ⟨a_26, i_27, b_180⟩ => [(0, [], (.pointer (some ⟨A_b, 0, none⟩))), (2, [], (.int .i64 k2)), (3, [], (.int .i64 fresh3)), (5, [], (.pointer (some ⟨b_1, 0, none⟩))), (8, [], (.pointer (some ⟨b_5, 0, none⟩))), (10, [], (.int .i64 x_25)), (11, [], (.pointer (some ⟨b_180, 0, none⟩))), (12, [], (.int .i64 i_27)), (48, [], (.slice (o_7.map fun b => ⟨b, 0, none⟩) t_2.length cap_8)), (49, [], (.int .i64 (t_2.length : Int))), (50, [], (.int .i64 i_22))]) (fun (j : (Arr 96 Int) × Int × Nat) => match j with | ⟨a_26, i_27, b_180⟩ => [⟨some A_b, 75, ((.int .i16 i_13) :: (.slice D_a p0.ff.fHammers.length D_c) :: (.slice E_a p0.ft.length E_c) :: (seg (Value.int .u32) 96 a_14.1 ((.int .i64 i_15) :: (.int .i64 (w64 (i_16 + 1))) :: (.bool q_17) :: (.bool q_18) :: (.int .i64 i_19) :: (seg (Value.int .u32) 96 a_20.1 [(.bool q_21)]))))⟩, ⟨(some b_1), 34, row encU32 d1.1 []⟩, ⟨some b_5, 68, [(.int .i16 x_1.fAt), (.int .i8 x_1.fPitch)]⟩, ⟨o_7, 2, row encI64 t_2 sp_9⟩, ⟨(some b_180), 34, row encU32 a_26.1 []⟩]) ?_ ?_)))))))))))
      ·refine qg [⟨some A_b, 75, ((.int .i16 i_13) :: (.slice D_a p0.ff.fHammers.length D_c) :: (.slice E_a p0.ft.length E_c) :: (seg (Value.int .u32) 96 a_14.1 ((.int .i64 i_15) :: (.int .i64 (w64 (i_16 + 1))) :: (.bool q_17) :: (.bool q_18) :: (.int .i64 i_19) :: (seg (Value.int .u32) 96 a_20.1 [(.bool q_21)]))))⟩, ⟨(some b_1), 34, row encU32 d1.1 []⟩, ⟨some b_5, 68, [(.int .i16 x_1.fAt), (.int .i8 x_1.fPitch)]⟩, ⟨o_7, 2, row encI64 t_2 sp_9⟩] 16 (qd [⟨1, 0, 0⟩,⟨2, 0, 0⟩,⟨3, 0, 0⟩,⟨4, 0, 0⟩,⟨5, 0, 0⟩,⟨6, 2, 0⟩,⟨7, 0, 0⟩,⟨8, 0, 0⟩] 8 [0, 1, 2, 3] (qv 0 0 [0, 1, 2, 3] (fun w hm => ld_run (b := b_1) (off := 0) (s := 96) (agg := true) (vs := row encU32 d1.1 []) (by kernel_rfl) ((row_len encU32_len d1).trans rfl) (.inl rfl) (hm.all (hh := 1) (T := 34) (by kernel_rfl))) (toD2 9 13 (by kernel_rfl) ?_ ?_)))
       ·obtain ⟨t_31, ht_190, h⟩ := bd h
        refine pc 0 (fun w hm => impl_Drum_has.calls a_14 (w64 x_1.fAt) x_25 w _ (hm.segRow 0 A_b 3 (Value.int .u32) (enc := encU32) (fun _ => rfl) a_14) ht_190) ?_
        rintro w v w' hm ⟨rfl, hm'⟩
        refine ⟨_, hm.app hm', kD [0, 1, 2, 3] ?_⟩
        clear hm hm'
        refine qd [⟨10, 0, 0⟩] 5 [0, 1, 2, 3] (toD2 11 13 (by kernel_rfl) ?_ ?_)
        ·obtain ⟨t_32, ht_191, h⟩ := bd h
         refine pc 0 (fun w hm => impl_bit.calls (!t_31) w _ ht_191) ?_
         rintro w v w' hm ⟨rfl, hm'⟩
         refine ⟨_, hm.app hm', kD [0, 1, 2, 3] ?_⟩
         clear hm hm'
         exact qd [⟨12, 0, 0⟩] 3 [0, 1, 2, 3] (tD 13 (qa 0 (fun b_192 => kD [0, 1, 2, 3] (tD 14 (p_sA 0 4 b_192 96 1 34 encU32 (Arr.rep 96 0) d1 (by kernel_rfl) (by kernel_rfl) (by kernel_rfl) encU32_len encU32_cell (by kernel_rfl) (kD [0, 1, 2, 3] (qd [⟨15, 0, 0⟩] 0 [0, 1, 2, 3] (qz (qm ⟨d1, (w64 (fresh3 + t_32)), b_192⟩ h [0, 1, 2, 3, 4])))))))))
        ·refine qa 0 (fun b_193 => kD [0, 1, 2, 3] ?_)
         obtain ⟨t_32, ht_194, h⟩ := bd h
         refine tD 11 (pc 0 (fun w hm => impl_bit.calls (!t_31) w _ ht_194) ?_)
         rintro w v w' hm ⟨rfl, hm'⟩
         refine ⟨_, hm.app hm', kD [0, 1, 2, 3] ?_⟩
         clear hm hm'
         exact qd [⟨12, 0, 0⟩] 2 [0, 1, 2, 3] (tD 14 (p_sA 0 4 b_193 96 1 34 encU32 (Arr.rep 96 0) d1 (by kernel_rfl) (by kernel_rfl) (by kernel_rfl) encU32_len encU32_cell (by kernel_rfl) (kD [0, 1, 2, 3] (qd [⟨15, 0, 0⟩] 0 [0, 1, 2, 3] (qz (qm ⟨d1, (w64 (fresh3 + t_32)), b_193⟩ h [0, 1, 2, 3, 4]))))))
       ·refine qa 0 (fun b_195 => kD [0, 1, 2, 3] ?_)
        obtain ⟨t_31, ht_196, h⟩ := bd h
        refine tD 9 (pc 0 (fun w hm => impl_Drum_has.calls a_14 (w64 x_1.fAt) x_25 w _ (hm.segRow 0 A_b 3 (Value.int .u32) (enc := encU32) (fun _ => rfl) a_14) ht_196) ?_)
        rintro w v w' hm ⟨rfl, hm'⟩
        refine ⟨_, hm.app hm', kD [0, 1, 2, 3] ?_⟩
        clear hm hm'
        refine qd [⟨10, 0, 0⟩] 4 [0, 1, 2, 3] ?_
        obtain ⟨t_32, ht_197, h⟩ := bd h
        refine tD 11 (pc 0 (fun w hm => impl_bit.calls (!t_31) w _ ht_197) ?_)
        rintro w v w' hm ⟨rfl, hm'⟩
        refine ⟨_, hm.app hm', kD [0, 1, 2, 3] ?_⟩
        clear hm hm'
        exact qd [⟨12, 0, 0⟩] 2 [0, 1, 2, 3] (tD 14 (p_sA 0 4 b_195 96 1 34 encU32 (Arr.rep 96 0) d1 (by kernel_rfl) (by kernel_rfl) (by kernel_rfl) encU32_len encU32_cell (by kernel_rfl) (kD [0, 1, 2, 3] (qd [⟨15, 0, 0⟩] 0 [0, 1, 2, 3] (qz (qm ⟨d1, (w64 (fresh3 + t_32)), b_195⟩ h [0, 1, 2, 3, 4]))))))
      ·rintro ⟨a_26, i_27, b_180⟩ h
       replace h : impl_pinner_pin.k_28 self_ p0 k2 x_1 i_13 a_14 i_15 i_16 q_17 q_18 i_19 a_20 q_21 i_22 x_25 a_26 i_27 = some y_165 := h
       rw [impl_pinner_pin.k_28] at h
       refine jx_then (jc_seq (jc_region (qh [0,2,0,0] ?_)))
       obtain ⟨t_29, ht_181, h⟩ := bd h
       refine tO (pc 0 (fun w hm => impl_Drum_put.calls a_26 (w64 x_1.fAt) x_25 true w _ b_180 (hm.pass (N := [⟨(some b_180), 34, row encU32 a_26.1 []⟩]) [4] (by kernel_rfl) (by kernel_rfl)) ht_181) ?_)
       rintro w v w' hm ⟨rfl, hm'⟩
       refine ⟨_, hm.appW (ps := [(4, ⟨(some b_180), 34, row encU32 t_29.1 []⟩)]) (N := []) hm' (by kernel_rfl) (by kernel_rfl), jkO ?_⟩
       clear hm hm'
       refine qe (jx_then (jc_seq (jc_seq (jc_region (qf [(0, 0), (0, 0), (0, 0), (0, 0), (0, 0), (0, 1), (0, 1), (0, 1), (0, 1), (0, 0), (0, 0), (0, 1), (0, 1), (0, 1), (0, 1), (0, 1), (0, 1), (0, 0)] (qe (jx_then (qi h (fun h => ?_) (fun h => ?_)))))))))
       ·exact jc_exit (jx_thenx (jx_ine (jx_then (jc_region (qh [0,0] (qe (qb (i_13, a_14, i_15, (w64 (i_16 + 1)), q_17, q_18, i_19, a_20, q_21, (w64 (i_22 + 1))) () h trivial [0, 1, 2, 3])))))))
       ·refine jc_skip (jx_then (jc_seq (jc_region (qh [0] (tO (p_ldA 0 4 b_180 96 1 34 encU32 t_29 (by kernel_rfl) (by kernel_rfl) (by kernel_rfl) encU32_len (by kernel_rfl) (jkO (qh [0,0,0] ?_))))))))
        obtain ⟨t_30, ht_184, h⟩ := bd h
        refine tO (pc 0 (fun w hm => hself (⟨(⟨i_13, p0.ff.fHammers⟩ : GFrame), p0.ft, a_14, i_15, (w64 (i_16 + 1)), q_17, q_18, i_19, a_20, q_21⟩ : Gpinner) t_29 (w64 (k2 + 1)) i_27 w _ D_c (hm.exRowW D_h D_ha) rfl E_c (hm.exRowW E_h E_ha) rfl A_b (hm.pass (N := [⟨some A_b, 75, ((.int .i16 i_13) :: (.slice D_a p0.ff.fHammers.length D_c) :: (.slice E_a p0.ft.length E_c) :: (seg (Value.int .u32) 96 a_14.1 ((.int .i64 i_15) :: (.int .i64 (w64 (i_16 + 1))) :: (.bool q_17) :: (.bool q_18) :: (.int .i64 i_19) :: (seg (Value.int .u32) 96 a_20.1 [(.bool q_21)]))))⟩]) [0] (by kernel_rfl) (by kernel_rfl)) (hm.exApart (N := [⟨some A_b, 75, ((.int .i16 i_13) :: (.slice D_a p0.ff.fHammers.length D_c) :: (.slice E_a p0.ft.length E_c) :: (seg (Value.int .u32) 96 a_14.1 ((.int .i64 i_15) :: (.int .i64 (w64 (i_16 + 1))) :: (.bool q_17) :: (.bool q_18) :: (.int .i64 i_19) :: (seg (Value.int .u32) 96 a_20.1 [(.bool q_21)]))))⟩]) D_h D_ha [0] (by kernel_rfl)) (hm.exApart (N := [⟨some A_b, 75, ((.int .i16 i_13) :: (.slice D_a p0.ff.fHammers.length D_c) :: (.slice E_a p0.ft.length E_c) :: (seg (Value.int .u32) 96 a_14.1 ((.int .i64 i_15) :: (.int .i64 (w64 (i_16 + 1))) :: (.bool q_17) :: (.bool q_18) :: (.int .i64 i_19) :: (seg (Value.int .u32) 96 a_20.1 [(.bool q_21)]))))⟩]) E_h E_ha [0] (by kernel_rfl)) ht_184) ?_)
        rintro w v w' hm ⟨rfl, hm'⟩
        refine ⟨_, hm.appW (ps := [(0, ⟨some A_b, 75, ((.int .i16 t_30.ff.fSteps) :: (.slice D_a p0.ff.fHammers.length D_c) :: (.slice E_a p0.ft.length E_c) :: (seg (Value.int .u32) 96 t_30.fold.1 ((.int .i64 t_30.fbudget) :: (.int .i64 t_30.ftries) :: (.bool t_30.fover) :: (.bool t_30.ffound) :: (.int .i64 t_30.fmost) :: (seg (Value.int .u32) 96 t_30.fbest.1 [(.bool t_30.fall)]))))⟩)]) (N := []) hm' (by kernel_rfl) (by kernel_rfl), jkO ?_⟩
        clear hm hm'
        refine qe (jx_then (jc_seq (jc_region (qf [(0, 0), (0, 0), (0, 0), (0, 0), (0, 0), (0, 1), (0, 1), (0, 1), (0, 1)] (qp 119 h (fun h => ?_) (fun h => ?_))))))
        ·refine qf [(0, 3), (0, 3), (0, 3), (0, 3), (0, 3), (0, 3), (0, 3), (0, 4)] (qe (jx_then (jc_cond true (by kernel_rfl) (fun hc_186 => (jc_ret (jx_inr (jx_thenr (jx_leaver (.inl (⟨(⟨t_30.ff.fSteps, p0.ff.fHammers⟩ : GFrame), p0.ft, t_30.fold, t_30.fbudget, t_30.ftries, t_30.fover, t_30.ffound, t_30.fmost, t_30.fbest, t_30.fall⟩ : Gpinner)) (Option.some.inj h).symm (fun e_187 => ?_)))))) (fun hc_186 => nomatch hc_186))))
         subst e_187
         refine jx_inr (jx_thenr ?_)
         obtain rfl := Option.some.inj hr_164
         exact qr [] (fun w hm => ⟨rfl, hm.pk [0]⟩)
        ·refine qf [(0, 2), (0, 1), (0, 1), (0, 1), (0, 1), (0, 1), (0, 2), (0, 5)] (qe (jx_then (qi h (fun h => ?_) (fun h => ?_))))
         ·refine jc_ret (jx_inr (jx_thenr (jx_leaver (.inl (⟨(⟨t_30.ff.fSteps, p0.ff.fHammers⟩ : GFrame), p0.ft, t_30.fold, t_30.fbudget, t_30.ftries, t_30.fover, t_30.ffound, t_30.fmost, t_30.fbest, t_30.fall⟩ : Gpinner)) (Option.some.inj h).symm (fun e_189 => ?_))))
          subst e_189
          refine jx_inr (jx_thenr ?_)
          obtain rfl := Option.some.inj hr_164
          exact qr [] (fun w hm => ⟨rfl, hm.pk [0]⟩)
         ·exact jc_skip (jx_inn (jx_then (jc_region (qh [0,0] (qe (qb (t_30.ff.fSteps, t_30.fold, t_30.fbudget, t_30.ftries, t_30.fover, t_30.ffound, t_30.fmost, t_30.fbest, t_30.fall, (w64 (i_22 + 1))) () h trivial [0, 1, 2, 3]))))))
    ·refine jc_exit (jx_thenx (jx_leave (.inr (i_13, a_14, i_15, i_16, q_17, q_18, i_19, a_20, q_21)) (Option.some.inj h).symm (fun e_198 => ?_)))
     subst e_198
     exact jx_ine (qm ⟨i_13, a_14, i_15, i_16, q_17, q_18, i_19, a_20, q_21⟩ hr_164 [0, 1, 2, 3])
   ·rintro ⟨i_3, a_4, i_5, i_6, q_7, q_8, i_9, a_10, q_11⟩ h
    replace h : impl_pinner_pin.k_12 p0 i_3 a_4 i_5 i_6 q_7 q_8 i_9 a_10 q_11 = some r := h
    rw [impl_pinner_pin.k_12] at h
    refine jx_fall ?_
    obtain rfl := Option.some.inj h
    exact qr [] (fun w hm => ⟨rfl, hm.pk [0]⟩)
theorem impl_pinner_pin.rec_calls (fu : Nat) : ∀ (p0 : Gpinner) (d1 : Arr 96 Int) (k2 : Int) (fresh3 : Int) (w : World) (r : Gpinner) {D_a : Option Addr} {D_an : Nat} (D_c : Nat) (D_h : Rw w D_a 2 encGHammer p0.ff.fHammers) (D_hn : p0.ff.fHammers.length = D_an) {E_a : Option Addr} {E_an : Nat} (E_c : Nat) (E_h : Rw w E_a 2 encGNote p0.ft) (E_hn : p0.ft.length = E_an) (A_b : Nat) (hm0 : Mem w (bs [some A_b]) [⟨some A_b, 75, ((.int .i16 p0.ff.fSteps) :: (.slice D_a D_an D_c) :: (.slice E_a E_an E_c) :: (seg (Value.int .u32) 96 p0.fold.1 ((.int .i64 p0.fbudget) :: (.int .i64 p0.ftries) :: (.bool p0.fover) :: (.bool p0.ffound) :: (.int .i64 p0.fmost) :: (seg (Value.int .u32) 96 p0.fbest.1 [(.bool p0.fall)]))))⟩] w) (D_ha : p0.ff.fHammers ≠ [] → aB D_a ∉ bs [some A_b]) (E_ha : p0.ft ≠ [] → aB E_a ∉ bs [some A_b]) (h : impl_pinner_pin.rec_ fu p0 d1 k2 fresh3 = some r),
    Calls Tryz.prog 33 #[(.pointer (some ⟨A_b, 0, none⟩)), (.agg (row encU32 d1.1 []).toArray), (.int .i64 k2), (.int .i64 fresh3)] w fun e w' => ∃ v, e = .returned v ∧ (v = .tuple #[] ∧ Mem w (bs [some A_b]) [⟨some A_b, 75, ((.int .i16 r.ff.fSteps) :: (.slice D_a D_an D_c) :: (.slice E_a E_an E_c) :: (seg (Value.int .u32) 96 r.fold.1 ((.int .i64 r.fbudget) :: (.int .i64 r.ftries) :: (.bool r.fover) :: (.bool r.ffound) :: (.int .i64 r.fmost) :: (seg (Value.int .u32) 96 r.fbest.1 [(.bool r.fall)]))))⟩] w') := by
  induction fu with
  | zero => intros; rename_i h; cases h
  | succ fu ih => exact @impl_pinner_pin.step_calls _ (impl_pinner_pin.rec_ fu) @ih
theorem impl_pinner_pin.calls (p0 : Gpinner) (d1 : Arr 96 Int) (k2 : Int) (fresh3 : Int) (w : World) (r : Gpinner) {D_a : Option Addr} {D_an : Nat} (D_c : Nat) (D_h : Rw w D_a 2 encGHammer p0.ff.fHammers) (D_hn : p0.ff.fHammers.length = D_an) {E_a : Option Addr} {E_an : Nat} (E_c : Nat) (E_h : Rw w E_a 2 encGNote p0.ft) (E_hn : p0.ft.length = E_an) (A_b : Nat) (hm0 : Mem w (bs [some A_b]) [⟨some A_b, 75, ((.int .i16 p0.ff.fSteps) :: (.slice D_a D_an D_c) :: (.slice E_a E_an E_c) :: (seg (Value.int .u32) 96 p0.fold.1 ((.int .i64 p0.fbudget) :: (.int .i64 p0.ftries) :: (.bool p0.fover) :: (.bool p0.ffound) :: (.int .i64 p0.fmost) :: (seg (Value.int .u32) 96 p0.fbest.1 [(.bool p0.fall)]))))⟩] w) (D_ha : p0.ff.fHammers ≠ [] → aB D_a ∉ bs [some A_b]) (E_ha : p0.ft ≠ [] → aB E_a ∉ bs [some A_b]) (h : impl_pinner_pin p0 d1 k2 fresh3 = some r) :
    Calls Tryz.prog 33 #[(.pointer (some ⟨A_b, 0, none⟩)), (.agg (row encU32 d1.1 []).toArray), (.int .i64 k2), (.int .i64 fresh3)] w fun e w' => ∃ v, e = .returned v ∧ (v = .tuple #[] ∧ Mem w (bs [some A_b]) [⟨some A_b, 75, ((.int .i16 r.ff.fSteps) :: (.slice D_a D_an D_c) :: (.slice E_a E_an E_c) :: (seg (Value.int .u32) 96 r.fold.1 ((.int .i64 r.fbudget) :: (.int .i64 r.ftries) :: (.bool r.fover) :: (.bool r.ffound) :: (.int .i64 r.fmost) :: (seg (Value.int .u32) 96 r.fbest.1 [(.bool r.fall)]))))⟩] w') :=
  impl_pinner_pin.rec_calls 200 p0 d1 k2 fresh3 w r D_c D_h D_hn E_c E_h E_hn A_b hm0 D_ha E_ha h
/-! ### (*impl.pinner).code -/
def impl_pinner_code (p0 : Gpinner) : Option (Int) := (if p0.fover = true then some 7 else (if (!p0.ffound) = true then some 6 else some 0))
theorem impl_pinner_code.calls (p0 : Gpinner) (w : World) (r : Int) {D_a : Option Addr} {D_an : Nat} (D_c : Nat) (D_h : Rw w D_a 2 encGHammer p0.ff.fHammers) (D_hn : p0.ff.fHammers.length = D_an) {E_a : Option Addr} {E_an : Nat} (E_c : Nat) (E_h : Rw w E_a 2 encGNote p0.ft) (E_hn : p0.ft.length = E_an) (A_b : Nat) (hm0 : Mem w (bs [some A_b]) [⟨some A_b, 75, ((.int .i16 p0.ff.fSteps) :: (.slice D_a D_an D_c) :: (.slice E_a E_an E_c) :: (seg (Value.int .u32) 96 p0.fold.1 ((.int .i64 p0.fbudget) :: (.int .i64 p0.ftries) :: (.bool p0.fover) :: (.bool p0.ffound) :: (.int .i64 p0.fmost) :: (seg (Value.int .u32) 96 p0.fbest.1 [(.bool p0.fall)]))))⟩] w) (D_ha : p0.ff.fHammers ≠ [] → aB D_a ∉ bs [some A_b]) (E_ha : p0.ft ≠ [] → aB E_a ∉ bs [some A_b]) (h : impl_pinner_code p0 = some r) :
    Calls Tryz.prog 34 #[(.pointer (some ⟨A_b, 0, none⟩))] w fun e w' => ∃ v, e = .returned v ∧ (v = (.int .i64 r) ∧ Mem w (bs [some A_b]) [⟨some A_b, 75, ((.int .i16 p0.ff.fSteps) :: (.slice D_a D_an D_c) :: (.slice E_a E_an E_c) :: (seg (Value.int .u32) 96 p0.fold.1 ((.int .i64 p0.fbudget) :: (.int .i64 p0.ftries) :: (.bool p0.fover) :: (.bool p0.ffound) :: (.int .i64 p0.fmost) :: (seg (Value.int .u32) 96 p0.fbest.1 [(.bool p0.fall)]))))⟩] w') := by
  subst D_hn E_hn
  rw [impl_pinner_code] at h
  refine enter (args := [(.pointer (some ⟨A_b, 0, none⟩))]) Tryz.func34 rfl Tryz.ntmps34 (by kernel_rfl) (L := [⟨some A_b, 75, ((.int .i16 p0.ff.fSteps) :: (.slice D_a p0.ff.fHammers.length D_c) :: (.slice E_a p0.ft.length E_c) :: (seg (Value.int .u32) 96 p0.fold.1 ((.int .i64 p0.fbudget) :: (.int .i64 p0.ftries) :: (.bool p0.fover) :: (.bool p0.ffound) :: (.int .i64 p0.fmost) :: (seg (Value.int .u32) 96 p0.fbest.1 [(.bool p0.fall)]))))⟩]) (W := bs [some A_b]) hm0 ?_
  refine jc_seq (jc_region (qh [0] (qe (jx_then (jc_seq (jc_block (jc_seq (jc_region (qh [0,0,0,0,0] (qe (jx_then (qi h (fun h => ?_) (fun h => ?_)))))))))))))
  ·refine jc_seq (jc_region (qh [0] (qe (jx_then (jc_ret (jx_inr (jx_thenr ?_)))))))
   obtain rfl := Option.some.inj h
   exact qr [] (fun w hm => ⟨rfl, hm.pk [0]⟩)
  ·refine jc_seq (jc_region (qh [0,0,0,0,0,0] (qe (jx_then (qi h (fun h => ?_) (fun h => ?_))))))
   ·refine jc_seq (jc_region (qh [0] (qe (jx_then (jc_ret (jx_inr (jx_thenr ?_)))))))
    obtain rfl := Option.some.inj h
    exact qr [] (fun w hm => ⟨rfl, hm.pk [0]⟩)
   ·refine jc_skip (jx_inn (jx_then (jc_seq (jc_region (qh [0] (qe (jx_then (jc_ret ?_))))))))
    obtain rfl := Option.some.inj h
    exact qr [] (fun w hm => ⟨rfl, hm.pk [0]⟩)
/-! ### impl.PinLike -/
def impl_PinLike (f0 : GFrame) (old1 : Arr 96 Int) (t2 : List GNote) (budget3 : Int) : Option ((Arr 96 Int) × Int × Int × Int) := (impl_tuneOnCode f0 t2 budget3 ([old1] : List (Arr 96 Int))).bind fun t_1 => (if (t_1 != 0) = true then some ((Arr.rep 96 0), 0, 0, t_1) else (impl_pinner_pin (⟨f0, t2, old1, budget3, 0, false, false, 0, (Arr.rep 96 0), true⟩ : Gpinner) (Arr.rep 96 0) 0 0).bind fun t_2 => (impl_pinner_code (⟨(⟨t_2.ff.fSteps, f0.fHammers⟩ : GFrame), t2, t_2.fold, t_2.fbudget, t_2.ftries, t_2.fover, t_2.ffound, t_2.fmost, t_2.fbest, t_2.fall⟩ : Gpinner)).bind fun t_3 => (if (t_3 != 0) = true then some ((Arr.rep 96 0), 0, 0, t_3) else some (t_2.fbest, t_2.fmost, t_2.ftries, 0)))
theorem impl_PinLike.calls (f0 : GFrame) (old1 : Arr 96 Int) (t2 : List GNote) (budget3 : Int) (w : World) (r : (Arr 96 Int) × Int × Int × Int) {C_a : Option Addr} {C_an : Nat} (C_c : Nat) (C_h : Rw w C_a 2 encGHammer f0.fHammers) (C_hn : f0.fHammers.length = C_an) {E_a : Option Addr} {E_an : Nat} (E_c : Nat) (E_h : Rw w E_a 2 encGNote t2) (E_hn : t2.length = E_an) (h : impl_PinLike f0 old1 t2 budget3 = some r) :
    Calls Tryz.prog 8 #[(.agg #[(.int .i16 f0.fSteps), (.slice C_a C_an C_c)]), (.agg (row encU32 old1.1 []).toArray), (.slice E_a E_an E_c), (.int .i64 budget3)] w fun e w' => ∃ v, e = .returned v ∧ (v = .tuple #[(.agg (row encU32 r.1.1 []).toArray), (.int .i64 r.2.1), (.int .i64 r.2.2.1), (.int .i64 r.2.2.2)] ∧ Mem w [] [] w') := by
  subst C_hn E_hn
  rw [impl_PinLike] at h
  refine enter (args := [(.agg #[(.int .i16 f0.fSteps), (.slice C_a f0.fHammers.length C_c)]), (.agg (row encU32 old1.1 []).toArray), (.slice E_a t2.length E_c), (.int .i64 budget3)]) Tryz.func8 rfl Tryz.ntmps8 (by kernel_rfl) (L := []) (W := []) (Mem.start w) ?_
  refine jc_seq (jc_region (tO (qa 0 (fun b_1 => jkO (tO (qa 0 (fun b_2 => jkO (tO (qa 0 (fun b_3 => jkO (qh [0,0,0] (qe (jx_then (jc_seq (jc_seq (jc_region (qh [0,0,0] (tO (p_ldA 0 1 b_2 96 1 34 encU32 old1 (by kernel_rfl) (by kernel_rfl) (by kernel_rfl) encU32_len (by kernel_rfl) (jkO (tO (p_bs 0 34 96 1 encA96U32 [(.agg (row encU32 old1.1 []).toArray)] [old1] (by kernel_rfl) (by kernel_rfl) rfl (by kernel_rfl) (by kernel_rfl) encA96U32_len (fun b_7 => jkO ?_)))))))))))))))))))))))
  obtain ⟨t_1, ht_8, h⟩ := bd h
  refine tO (pc 0 (fun w hm => impl_tuneOnCode.calls f0 t2 budget3 ([old1] : List (Arr 96 Int)) w _ C_c (hm.xr C_h) rfl E_c (hm.xr E_h) rfl 1 (hm.ow 3 (some b_7) 34 ([old1] : List (Arr 96 Int)) [] (fun e => nomatch e) encA96U32_len) rfl ht_8) ?_)
  rintro w v w' hm ⟨rfl, hm'⟩
  refine ⟨_, hm.app hm', jkO ?_⟩
  clear hm hm'
  refine qh [0] (qe (jx_then (jc_seq (jc_region (qh [0,0] (qe (jx_then (qi h (fun h => ?_) (fun h => ?_)))))))))
  ·refine jc_seq (jc_region (qh [0,0] (tO (p_sA 0 2 b_3 96 1 34 encU32 (Arr.rep 96 0) (Arr.rep 96 0) (by kernel_rfl) (by kernel_rfl) (by kernel_rfl) encU32_len encU32_cell (by kernel_rfl) (jkO (qh [0,0,0] (qe (jx_then (jc_ret (jx_thenr ?_))))))))))
   obtain rfl := Option.some.inj h
   exact jx_retV rfl (rq_arr (b := b_3) (T' := 34) (hh := 2) (mm := 1) encU32 (Arr.rep 96 0) (by kernel_rfl) (by kernel_rfl) encU32_len (by kernel_rfl) (rq_tmp (by kernel_rfl) (rq_tmp (by kernel_rfl) (rq_tmp (by kernel_rfl) rq_nil)))) (fun w hm => ⟨rfl, hm.pk []⟩)
  ·refine jc_skip (jx_then (jc_seq (jc_region (qh [0,0] (tO (p_ldA 0 1 b_2 96 1 34 encU32 old1 (by kernel_rfl) (by kernel_rfl) (by kernel_rfl) encU32_len (by kernel_rfl) (jkO (qh [0] (jo_segE 27 96 (Value.int .u32) (enc := encU32) (fun _ => rfl) old1 (qh [0] (tO (qa 0 (fun b_10 => jkO (qh [0] (qe (jx_then (jc_seq (jc_region (qh [0,0] ?_)))))))))))))))))))
   obtain ⟨t_2, ht_11, h⟩ := bd h
   refine tO (pc 0 (fun w hm => impl_pinner_pin.calls (⟨f0, t2, old1, budget3, 0, false, false, 0, (Arr.rep 96 0), true⟩ : Gpinner) (Arr.rep 96 0) 0 0 w _ C_c (hm.xr C_h) rfl E_c (hm.xr E_h) rfl b_10 (hm.pass (N := [⟨some b_10, 75, ((.int .i16 f0.fSteps) :: (.slice C_a f0.fHammers.length C_c) :: (.slice E_a t2.length E_c) :: (seg (Value.int .u32) 96 old1.1 ((.int .i64 budget3) :: (.int .i64 0) :: (.bool false) :: (.bool false) :: (.int .i64 0) :: (seg (Value.int .u32) 96 (Arr.rep 96 0).1 [(.bool true)]))))⟩]) [4] (by kernel_rfl) (by kernel_rfl)) (hm.exApart (N := [⟨some b_10, 75, ((.int .i16 f0.fSteps) :: (.slice C_a f0.fHammers.length C_c) :: (.slice E_a t2.length E_c) :: (seg (Value.int .u32) 96 old1.1 ((.int .i64 budget3) :: (.int .i64 0) :: (.bool false) :: (.bool false) :: (.int .i64 0) :: (seg (Value.int .u32) 96 (Arr.rep 96 0).1 [(.bool true)]))))⟩]) C_h (fun _ => List.not_mem_nil) [4] (by kernel_rfl)) (hm.exApart (N := [⟨some b_10, 75, ((.int .i16 f0.fSteps) :: (.slice C_a f0.fHammers.length C_c) :: (.slice E_a t2.length E_c) :: (seg (Value.int .u32) 96 old1.1 ((.int .i64 budget3) :: (.int .i64 0) :: (.bool false) :: (.bool false) :: (.int .i64 0) :: (seg (Value.int .u32) 96 (Arr.rep 96 0).1 [(.bool true)]))))⟩]) E_h (fun _ => List.not_mem_nil) [4] (by kernel_rfl)) ht_11) ?_)
   rintro w v w' hm ⟨rfl, hm'⟩
   refine ⟨_, hm.appW (ps := [(4, ⟨some b_10, 75, ((.int .i16 t_2.ff.fSteps) :: (.slice C_a f0.fHammers.length C_c) :: (.slice E_a t2.length E_c) :: (seg (Value.int .u32) 96 t_2.fold.1 ((.int .i64 t_2.fbudget) :: (.int .i64 t_2.ftries) :: (.bool t_2.fover) :: (.bool t_2.ffound) :: (.int .i64 t_2.fmost) :: (seg (Value.int .u32) 96 t_2.fbest.1 [(.bool t_2.fall)]))))⟩)]) (N := []) hm' (by kernel_rfl) (by kernel_rfl), jkO ?_⟩
   clear hm hm'
   refine qe (jx_then (jc_seq (jc_seq (jc_region (qh [0] ?_)))))
   obtain ⟨t_3, ht_14, h⟩ := bd h
   refine tO (pc 0 (fun w hm => impl_pinner_code.calls (⟨(⟨t_2.ff.fSteps, f0.fHammers⟩ : GFrame), t2, t_2.fold, t_2.fbudget, t_2.ftries, t_2.fover, t_2.ffound, t_2.fmost, t_2.fbest, t_2.fall⟩ : Gpinner) w _ C_c (hm.xr C_h) rfl E_c (hm.xr E_h) rfl b_10 (hm.pass (N := [⟨some b_10, 75, ((.int .i16 t_2.ff.fSteps) :: (.slice C_a f0.fHammers.length C_c) :: (.slice E_a t2.length E_c) :: (seg (Value.int .u32) 96 t_2.fold.1 ((.int .i64 t_2.fbudget) :: (.int .i64 t_2.ftries) :: (.bool t_2.fover) :: (.bool t_2.ffound) :: (.int .i64 t_2.fmost) :: (seg (Value.int .u32) 96 t_2.fbest.1 [(.bool t_2.fall)]))))⟩]) [4] (by kernel_rfl) (by kernel_rfl)) (hm.exApart (N := [⟨some b_10, 75, ((.int .i16 t_2.ff.fSteps) :: (.slice C_a f0.fHammers.length C_c) :: (.slice E_a t2.length E_c) :: (seg (Value.int .u32) 96 t_2.fold.1 ((.int .i64 t_2.fbudget) :: (.int .i64 t_2.ftries) :: (.bool t_2.fover) :: (.bool t_2.ffound) :: (.int .i64 t_2.fmost) :: (seg (Value.int .u32) 96 t_2.fbest.1 [(.bool t_2.fall)]))))⟩]) C_h (fun _ => List.not_mem_nil) [4] (by kernel_rfl)) (hm.exApart (N := [⟨some b_10, 75, ((.int .i16 t_2.ff.fSteps) :: (.slice C_a f0.fHammers.length C_c) :: (.slice E_a t2.length E_c) :: (seg (Value.int .u32) 96 t_2.fold.1 ((.int .i64 t_2.fbudget) :: (.int .i64 t_2.ftries) :: (.bool t_2.fover) :: (.bool t_2.ffound) :: (.int .i64 t_2.fmost) :: (seg (Value.int .u32) 96 t_2.fbest.1 [(.bool t_2.fall)]))))⟩]) E_h (fun _ => List.not_mem_nil) [4] (by kernel_rfl)) ht_14) ?_)
   rintro w v w' hm ⟨rfl, hm'⟩
   refine ⟨_, hm.appW (ps := [(4, ⟨some b_10, 75, ((.int .i16 t_2.ff.fSteps) :: (.slice C_a f0.fHammers.length C_c) :: (.slice E_a t2.length E_c) :: (seg (Value.int .u32) 96 t_2.fold.1 ((.int .i64 t_2.fbudget) :: (.int .i64 t_2.ftries) :: (.bool t_2.fover) :: (.bool t_2.ffound) :: (.int .i64 t_2.fmost) :: (seg (Value.int .u32) 96 t_2.fbest.1 [(.bool t_2.fall)]))))⟩)]) (N := []) hm' (by kernel_rfl) (by kernel_rfl), jkO ?_⟩
   clear hm hm'
   refine qh [0] (qe (jx_then (jc_seq (jc_region (qh [0,0] (qe (jx_then (qi h (fun h => ?_) (fun h => ?_)))))))))
   ·refine jc_seq (jc_region (qh [0,0] (tO (p_sA 0 2 b_3 96 1 34 encU32 (Arr.rep 96 0) (Arr.rep 96 0) (by kernel_rfl) (by kernel_rfl) (by kernel_rfl) encU32_len encU32_cell (by kernel_rfl) (jkO (qh [0,0,0] (qe (jx_then (jc_ret (jx_thenr ?_))))))))))
    obtain rfl := Option.some.inj h
    exact jx_retV rfl (rq_arr (b := b_3) (T' := 34) (hh := 2) (mm := 1) encU32 (Arr.rep 96 0) (by kernel_rfl) (by kernel_rfl) encU32_len (by kernel_rfl) (rq_tmp (by kernel_rfl) (rq_tmp (by kernel_rfl) (rq_tmp (by kernel_rfl) rq_nil)))) (fun w hm => ⟨rfl, hm.pk []⟩)
   ·refine jc_skip (jx_then (jc_seq (qg [⟨some b_1, 27, [(.int .i16 f0.fSteps), (.slice C_a f0.fHammers.length C_c)]⟩, ⟨(some b_2), 34, row encU32 old1.1 []⟩, ⟨(some b_7), 34, row encA96U32 ([old1] : List (Arr 96 Int)) []⟩, ⟨some b_10, 75, ((.int .i16 t_2.ff.fSteps) :: (.slice C_a f0.fHammers.length C_c) :: (.slice E_a t2.length E_c) :: (seg (Value.int .u32) 96 t_2.fold.1 ((.int .i64 t_2.fbudget) :: (.int .i64 t_2.ftries) :: (.bool t_2.fover) :: (.bool t_2.ffound) :: (.int .i64 t_2.fmost) :: (seg (Value.int .u32) 96 t_2.fbest.1 [(.bool t_2.fall)]))))⟩] 16 (qd [⟨0, 0, 0⟩,⟨1, 0, 0⟩,⟨2, 0, 0⟩,⟨4, 0, 0⟩,⟨5, 0, 0⟩,⟨6, 0, 0⟩,⟨7, 3, 0⟩,⟨8, 0, 0⟩,⟨9, 0, 0⟩,⟨10, 0, 0⟩,⟨11, 3, 0⟩] 5 [0, 1, 3, 4] (qv 3 0 [0, 1, 3, 4] (fun w hm => ld_run (b := b_10) (off := 104) (s := 96) (agg := true) (vs := row encU32 t_2.fbest.1 []) (by kernel_rfl) ((row_len encU32_len t_2.fbest).trans rfl) (.inl rfl) (hm.segAt 3 b_10 104 (Value.int .u32) (fun _ => rfl) t_2.fbest)) (tD 12 (p_sA 0 2 b_3 96 1 34 encU32 (Arr.rep 96 0) t_2.fbest (by kernel_rfl) (by kernel_rfl) (by kernel_rfl) encU32_len encU32_cell (by kernel_rfl) (kD [0, 1, 3, 4] (qd [⟨13, 0, 0⟩,⟨14, 0, 0⟩,⟨15, 0, 0⟩] 0 [0, 1, 3, 4] (qz (jx_then (jc_ret ?_))))))))))))
    obtain rfl := Option.some.inj h
    exact jx_retV rfl (rq_arr (b := b_3) (T' := 34) (hh := 2) (mm := 1) encU32 t_2.fbest (by kernel_rfl) (by kernel_rfl) encU32_len (by kernel_rfl) (rq_tmp (by kernel_rfl) (rq_tmp (by kernel_rfl) (rq_tmp (by kernel_rfl) rq_nil)))) (fun w hm => ⟨rfl, hm.pk []⟩)
/-! ### spec.l00In -/
def spec_l00In (n0 : Int) (low1 : Int) (high2 : Int) : Option (Bool) := some ((decide (n0 ≥ low1)) && (decide (n0 ≤ high2)))
theorem spec_l00In.calls (n0 : Int) (low1 : Int) (high2 : Int) (w : World) (r : Bool) (h : spec_l00In n0 low1 high2 = some r) :
    Calls Tryz.prog 81 #[(.int .i64 n0), (.int .i64 low1), (.int .i64 high2)] w fun e w' => ∃ v, e = .returned v ∧ (v = (.bool r) ∧ Mem w [] [] w') := by
  rw [spec_l00In] at h
  refine enter (args := [(.int .i64 n0), (.int .i64 low1), (.int .i64 high2)]) Tryz.func81 rfl Tryz.ntmps81 (by kernel_rfl) (L := []) (W := []) (Mem.start w) ?_
  refine jc_seq (jc_region (qh [0] (qe (jx_then (jc_seq (jc_region (qf [(0, 0), (0, 0), (0, 0), (0, 0), (0, 1), (0, 1), (0, 1), (0, 0), (0, 0)] (qe (jx_then (jc_ret ?_))))))))))
  obtain rfl := Option.some.inj h
  exact qr [] (fun w hm => ⟨rfl, hm.pk []⟩)
/-! ### spec.l00Min -/
def spec_l00Min (a0 : Int) (b1 : Int) : Option (Int) := (if (decide (a0 < b1)) = true then some a0 else some b1)
theorem spec_l00Min.calls (a0 : Int) (b1 : Int) (w : World) (r : Int) (h : spec_l00Min a0 b1 = some r) :
    Calls Tryz.prog 93 #[(.int .i64 a0), (.int .i64 b1)] w fun e w' => ∃ v, e = .returned v ∧ (v = (.int .i64 r) ∧ Mem w [] [] w') := by
  rw [spec_l00Min] at h
  refine enter (args := [(.int .i64 a0), (.int .i64 b1)]) Tryz.func93 rfl Tryz.ntmps93 (by kernel_rfl) (L := []) (W := []) (Mem.start w) ?_
  refine jc_seq (jc_region (qh [0] (qe (jx_then (jc_seq (jc_seq (jc_region (qh [0,0,0] (qe (jx_then (qi h (fun h => ?_) (fun h => ?_))))))))))))
  ·refine jc_seq (jc_region (qh [0,0] (qe (jx_then (jc_ret (jx_thenr ?_))))))
   obtain rfl := Option.some.inj h
   exact qr [] (fun w hm => ⟨rfl, hm.pk []⟩)
  ·refine jc_skip (jx_then (jc_seq (jc_region (qh [0,0] (qe (jx_then (jc_ret ?_)))))))
   obtain rfl := Option.some.inj h
   exact qr [] (fun w hm => ⟨rfl, hm.pk []⟩)
/-! ### spec.l02Frame -/
def spec_l02Frame.k_3 : Option (Bool) := some true
def spec_l02Frame.k_9 (i_4 : Int) (q_8 : Bool) : Option ((Int) ⊕ (Bool ⊕ Unit)) := (if q_8 = true then some (.inr (.inl false)) else some (.inl (w64 (i_4 + 1))))
def spec_l02Frame.l_5 (f0 : GFrame) : Int → Option ((Int) ⊕ (Bool ⊕ Unit))
  | i_4 => (if (decide (i_4 < (f0.fHammers.length : Int))) = true then (ix f0.fHammers i_4).bind fun x_7 => (spec_l00In (w64 x_7.fPitch) 0 47).bind fun t_10 => (if (!t_10) = true then spec_l02Frame.k_9 i_4 true else (spec_l00Min 20 (w64 f0.fSteps)).bind fun t_11 => (spec_l00In (w64 x_7.fReady) 1 t_11).bind fun t_12 => spec_l02Frame.k_9 i_4 (!t_12)) else some (.inr (.inr ())))
def spec_l02Frame.k_2 (f0 : GFrame) (q_1 : Bool) : Option (Bool) := (if q_1 = true then some false else (loop (spec_l02Frame.l_5 f0) 0).bind fun t_6 => match t_6 with | .inl p => some p | .inr p => spec_l02Frame.k_3)
def spec_l02Frame (f0 : GFrame) : Option (Bool) := (spec_l00In (w64 f0.fSteps) 2 96).bind fun t_13 => (if (!t_13) = true then spec_l02Frame.k_2 f0 true else (spec_l00In (f0.fHammers.length : Int) 1 24).bind fun t_14 => spec_l02Frame.k_2 f0 (!t_14))
theorem spec_l02Frame.calls (f0 : GFrame) (w : World) (r : Bool) {C_a : Option Addr} {C_an : Nat} (C_c : Nat) (C_h : Rw w C_a 2 encGHammer f0.fHammers) (C_hn : f0.fHammers.length = C_an) (A_b : Nat) (hm0 : Mem w (bs [some A_b]) [⟨some A_b, 27, [(.int .i16 f0.fSteps), (.slice C_a C_an C_c)]⟩] w) (C_ha : f0.fHammers ≠ [] → aB C_a ∉ bs [some A_b]) (h : spec_l02Frame f0 = some r) :
    Calls Tryz.prog 42 #[(.pointer (some ⟨A_b, 0, none⟩))] w fun e w' => ∃ v, e = .returned v ∧ (v = (.bool r) ∧ Mem w (bs [some A_b]) [⟨some A_b, 27, [(.int .i16 f0.fSteps), (.slice C_a C_an C_c)]⟩] w') := by
  subst C_hn
  rw [spec_l02Frame] at h
  refine enter (args := [(.pointer (some ⟨A_b, 0, none⟩))]) Tryz.func42 rfl Tryz.ntmps42 (by kernel_rfl) (L := [⟨some A_b, 27, [(.int .i16 f0.fSteps), (.slice C_a f0.fHammers.length C_c)]⟩]) (W := bs [some A_b]) hm0 ?_
  refine jc_seq (jc_region (qh [0] (qe (jx_then (jc_seq (jc_seq (jc_meet (fun (j : Bool) => match j with | q_1 => spec_l02Frame.k_2 f0 q_1 = some r) (fun (j : Bool) => match j with | q_1 => [(0, [], (.pointer (some ⟨A_b, 0, none⟩))), (2, [], (.bool false)), (20, [], (.bool q_1))]) (fun (j : Bool) => match j with | q_1 => [⟨some A_b, 27, [(.int .i16 f0.fSteps), (.slice C_a f0.fHammers.length C_c)]⟩]) ?_ ?_)))))))
  ·refine jc_region (qh [0,0,0,0,0] ?_)
   obtain ⟨t_13, ht_100, h⟩ := bd h
   refine tO (pc 0 (fun w hm => spec_l00In.calls (w64 f0.fSteps) 2 96 w _ ht_100) ?_)
   rintro w v w' hm ⟨rfl, hm'⟩
   refine ⟨_, hm.app hm', jkO ?_⟩
   clear hm hm'
   refine qf [(0, 0), (0, 0), (0, 1), (0, 1), (0, 1), (0, 1), (0, 1)] (qp 12 h (fun h => ?_) (fun h => ?_))
   ·exact qf [(0, 3), (0, 3), (0, 4)] (qe (qm true h [0]))
   ·obtain ⟨t_14, ht_102, h⟩ := bd h
    refine tO (pc 2 (fun w hm => spec_l00In.calls (f0.fHammers.length : Int) 1 24 w _ ht_102) ?_)
    rintro w v w' hm ⟨rfl, hm'⟩
    refine ⟨_, hm.app hm', jkO ?_⟩
    clear hm hm'
    exact qf [(0, 2), (0, 5)] (qe (qm (!t_14) h [0]))
  ·rintro q_1 h
   replace h : spec_l02Frame.k_2 f0 q_1 = some r := h
   rw [spec_l02Frame.k_2] at h
   refine jx_then (qi h (fun h => ?_) (fun h => ?_))
   ·refine jc_seq (jc_region (qh [0] (qe (jx_then (jc_ret (jx_thenr ?_))))))
    obtain rfl := Option.some.inj h
    exact qr [] (fun w hm => ⟨rfl, hm.pk [0]⟩)
   ·refine jc_skip (jx_then (jc_seq (jc_seq (jc_region (qh [0] (qe (jx_then (jc_meet (fun (_ : Unit) => spec_l02Frame.k_3 = some r) (fun (_ : Unit) => [(2, [], (.bool false))]) (fun (_ : Unit) => [⟨some A_b, 27, [(.int .i16 f0.fSteps), (.slice C_a f0.fHammers.length C_c)]⟩]) ?_ ?_))))))))
    ·refine jc_block ?_
     obtain ⟨t_6, ht_99, hr_82⟩ := bd h
     refine jc_loop (fun (s : Int) (x : Unit) => match s, x with | i_4, _ => True) (fun (s : Int) (x : Unit) => match s, x with | i_4, _ => [(0, [], (.pointer (some ⟨A_b, 0, none⟩))), (2, [], (.bool false)), (3, [], (.int .i64 i_4))]) (fun (s : Int) (x : Unit) => match s, x with | i_4, _ => [⟨some A_b, 27, [(.int .i16 f0.fSteps), (.slice C_a f0.fHammers.length C_c)]⟩]) ht_99 () trivial (by kernel_rfl) [0] (by kernel_rfl) (by kernel_rfl) ?_
     rintro i_4 _ y_83 _ h
     rw [spec_l02Frame.l_5] at h
     refine jc_seq (jc_seq (jc_region (qh [0,0,0,0,0,0,0] (qe (jx_then (qi h (fun h => ?_) (fun h => ?_)))))))
     ·refine jc_skip (jx_then (jc_seq (jc_block (jc_seq (jc_region (qh [0,0,0,0,0] ?_))))))
      obtain ⟨x_7, hx_86, h⟩ := bd h
      refine tO (qx 0 C_a 2 hx_86 rfl (C_h.sp hx_86) (jkO (tO (ql 0 true (fun w hm => ((hm.exRowW C_h C_ha).at hx_86)) (jkO (tO (qa 0 (fun b_87 => jkO (tO (qs 0 [1] (jkO (qe (jx_then (jc_seq (jc_meet (fun (j : Bool) => match j with | q_8 => spec_l02Frame.k_9 i_4 q_8 = some y_83) (fun (j : Bool) => match j with | q_8 => [(0, [], (.pointer (some ⟨A_b, 0, none⟩))), (2, [], (.bool false)), (3, [], (.int .i64 i_4)), (54, [], (.bool q_8))]) (fun (j : Bool) => match j with | q_8 => [⟨some A_b, 27, [(.int .i16 f0.fSteps), (.slice C_a f0.fHammers.length C_c)]⟩, ⟨some b_87, 66, [(.int .i8 x_7.fPitch), (.int .i8 x_7.fReady)]⟩]) ?_ ?_)))))))))))))))
      ·refine qg [⟨some A_b, 27, [(.int .i16 f0.fSteps), (.slice C_a f0.fHammers.length C_c)]⟩, ⟨some b_87, 66, [(.int .i8 x_7.fPitch), (.int .i8 x_7.fReady)]⟩] 18 (qd [⟨0, 0, 0⟩,⟨1, 1, 0⟩,⟨2, 0, 0⟩] 15 [0, 1] ?_)
       obtain ⟨t_10, ht_94, h⟩ := bd h
       refine tD 3 (pc 0 (fun w hm => spec_l00In.calls (w64 x_7.fPitch) 0 47 w _ ht_94) ?_)
       rintro w v w' hm ⟨rfl, hm'⟩
       refine ⟨_, hm.app hm', kD [0, 1] ?_⟩
       clear hm hm'
       refine qd [⟨4, 0, 0⟩,⟨5, 0, 0⟩,⟨6, 0, 1⟩,⟨7, 1, 1⟩,⟨8, 0, 1⟩,⟨9, 0, 1⟩,⟨10, 0, 1⟩,⟨11, 0, 1⟩,⟨12, 0, 1⟩,⟨13, 0, 1⟩] 4 [0, 1] (jd_split 42 (!t_10) (by kernel_rfl) (fun hc_95 => ?_) (fun hc_95 => ?_))
       ·replace h := ifT hc_95 h
        exact qd [⟨14, 0, 3⟩,⟨15, 0, 3⟩,⟨16, 0, 3⟩,⟨17, 0, 4⟩] 0 [0, 1] (qz (qm true h [0, 1]))
       ·replace h := ifF hc_95 h
        obtain ⟨t_11, ht_96, h⟩ := bd h
        refine tD 14 (pc 2 (fun w hm => spec_l00Min.calls 20 (w64 f0.fSteps) w _ ht_96) ?_)
        rintro w v w' hm ⟨rfl, hm'⟩
        refine ⟨_, hm.app hm', kD [0, 1] ?_⟩
        clear hm hm'
        obtain ⟨t_12, ht_97, h⟩ := bd h
        refine tD 15 (pc 2 (fun w hm => spec_l00In.calls (w64 x_7.fReady) 1 t_11 w _ ht_97) ?_)
        rintro w v w' hm ⟨rfl, hm'⟩
        refine ⟨_, hm.app hm', kD [0, 1] ?_⟩
        clear hm hm'
        exact qd [⟨16, 0, 2⟩,⟨17, 0, 5⟩] 0 [0, 1] (qz (qm (!t_12) h [0, 1]))
      ·rintro q_8 h
       replace h : spec_l02Frame.k_9 i_4 q_8 = some y_83 := h
       rw [spec_l02Frame.k_9] at h
       refine jx_then (qi h (fun h => ?_) (fun h => ?_))
       ·refine jc_seq (jc_region (qh [0] (qe (jx_then (jc_ret (jx_inr (jx_thenr (jx_leaver (.inl false) (Option.some.inj h).symm (fun e_93 => ?_)))))))))
        subst e_93
        refine jx_inr (jx_thenr (jx_thenr ?_))
        obtain rfl := Option.some.inj hr_82
        exact qr [] (fun w hm => ⟨rfl, hm.pk [0]⟩)
       ·exact jc_skip (jx_inn (jx_then (jc_region (qh [0,0,0] (qe (qb (w64 (i_4 + 1)) () h trivial [0]))))))
     ·refine jc_exit (jx_thenx (jx_leave (.inr ()) (Option.some.inj h).symm (fun e_98 => ?_)))
      subst e_98
      exact jx_ine (qm () hr_82 [0])
    ·rintro _ h
     replace h : spec_l02Frame.k_3 = some r := h
     rw [spec_l02Frame.k_3] at h
     refine jx_then (jc_seq (jc_region (qh [0] (qe (jx_then (jc_ret ?_))))))
     obtain rfl := Option.some.inj h
     exact qr [] (fun w hm => ⟨rfl, hm.pk [0]⟩)
/-! ### spec.l01Note -/
def spec_l01Note (n0 : GNote) : Option (Bool) := (spec_l00In (w64 n0.fAt) 0 199).bind fun t_1 => (if t_1 = true then (spec_l00In (w64 n0.fPitch) 0 47).bind fun t_2 => some t_2 else some false)
theorem spec_l01Note.calls (n0 : GNote) (w : World) (r : Bool) (h : spec_l01Note n0 = some r) :
    Calls Tryz.prog 113 #[(.agg #[(.int .i16 n0.fAt), (.int .i8 n0.fPitch)])] w fun e w' => ∃ v, e = .returned v ∧ (v = (.bool r) ∧ Mem w [] [] w') := by
  rw [spec_l01Note] at h
  refine enter (args := [(.agg #[(.int .i16 n0.fAt), (.int .i8 n0.fPitch)])]) Tryz.func113 rfl Tryz.ntmps113 (by kernel_rfl) (L := []) (W := []) (Mem.start w) ?_
  refine jc_seq (jc_region (tO (qa 0 (fun b_1 => jkO (qh [0] (qe (jx_then (jc_seq (jc_region (qh [0,0,0] ?_))))))))))
  obtain ⟨t_1, ht_2, h⟩ := bd h
  refine tO (pc 0 (fun w hm => spec_l00In.calls (w64 n0.fAt) 0 199 w _ ht_2) ?_)
  rintro w v w' hm ⟨rfl, hm'⟩
  refine ⟨_, hm.app hm', jkO ?_⟩
  clear hm hm'
  refine qf [(0, 0), (0, 1), (0, 1), (0, 1)] (qp 7 h (fun h => ?_) (fun h => ?_))
  ·obtain ⟨t_2, ht_4, h⟩ := bd h
   refine tO (pc 2 (fun w hm => spec_l00In.calls (w64 n0.fPitch) 0 47 w _ ht_4) ?_)
   rintro w v w' hm ⟨rfl, hm'⟩
   refine ⟨_, hm.app hm', jkO ?_⟩
   clear hm hm'
   refine qf [(0, 4), (0, 0)] (qe (jx_then (jc_ret ?_)))
   obtain rfl := Option.some.inj h
   exact qr [] (fun w hm => ⟨rfl, hm.pk []⟩)
  ·refine qf [(0, 3), (0, 5), (0, 0)] (qe (jx_then (jc_ret ?_)))
   obtain rfl := Option.some.inj h
   exact qr [] (fun w hm => ⟨rfl, hm.pk []⟩)
/-! ### spec.l01Ok -/
def spec_l01Ok.k_1 (t0 : List GNote) : Option (Bool) := some (decide ((t0.length : Int) ≤ 120))
def spec_l01Ok.k_6 (i_2 : Int) (q_5 : Bool) : Option ((Int) ⊕ (Bool ⊕ Unit)) := (if q_5 = true then some (.inr (.inl false)) else some (.inl (w64 (i_2 + 1))))
def spec_l01Ok.l_3 (t0 : List GNote) : Int → Option ((Int) ⊕ (Bool ⊕ Unit))
  | i_2 => (if (decide (i_2 < (t0.length : Int))) = true then (ix t0 i_2).bind fun x_7 => (spec_l01Note x_7).bind fun t_8 => (if (!t_8) = true then spec_l01Ok.k_6 i_2 true else (if (decide (i_2 > 0)) = true then (ix t0 (w64 (i_2 - 1))).bind fun x_9 => (ix t0 i_2).bind fun x_10 => (spec_l01Before x_9 x_10).bind fun t_11 => spec_l01Ok.k_6 i_2 (!t_11) else spec_l01Ok.k_6 i_2 false)) else some (.inr (.inr ())))
def spec_l01Ok (t0 : List GNote) : Option (Bool) := (loop (spec_l01Ok.l_3 t0) 0).bind fun t_4 => match t_4 with | .inl p => some p | .inr p => spec_l01Ok.k_1 t0
theorem spec_l01Ok.calls (t0 : List GNote) (w : World) (r : Bool) {A_a : Option Addr} {A_an : Nat} (A_c : Nat) (A_h : Rw w A_a 2 encGNote t0) (A_hn : t0.length = A_an) (h : spec_l01Ok t0 = some r) :
    Calls Tryz.prog 79 #[(.slice A_a A_an A_c)] w fun e w' => ∃ v, e = .returned v ∧ (v = (.bool r) ∧ Mem w [] [] w') := by
  subst A_hn
  rw [spec_l01Ok] at h
  refine enter (args := [(.slice A_a t0.length A_c)]) Tryz.func79 rfl Tryz.ntmps79 (by kernel_rfl) (L := []) (W := []) (Mem.start w) ?_
  refine jc_seq (jc_region (qh [0] (qe (jx_then (jc_seq (jc_seq (jc_region (qh [0] (qe (jx_then (jc_meet (fun (_ : Unit) => spec_l01Ok.k_1 t0 = some r) (fun (_ : Unit) => [(0, [], (.slice A_a t0.length A_c)), (2, [], (.bool false))]) (fun (_ : Unit) => []) ?_ ?_)))))))))))
  ·refine jc_block ?_
   obtain ⟨t_4, ht_224, hr_203⟩ := bd h
   refine jc_loop (fun (s : Int) (x : Unit) => match s, x with | i_2, _ => True) (fun (s : Int) (x : Unit) => match s, x with | i_2, _ => [(0, [], (.slice A_a t0.length A_c)), (2, [], (.bool false)), (3, [], (.int .i64 i_2))]) (fun (s : Int) (x : Unit) => match s, x with | i_2, _ => []) ht_224 () trivial (by kernel_rfl) [] (by kernel_rfl) (by kernel_rfl) ?_
   rintro i_2 _ y_204 _ h
   rw [spec_l01Ok.l_3] at h
   refine jc_seq (jc_seq (jc_region (qh [0,0,0,0] (qe (jx_then (qi h (fun h => ?_) (fun h => ?_)))))))
   ·refine jc_skip (jx_then (jc_seq (jc_block (jc_seq (jc_meet (fun (j : Bool) => match j with | q_5 => spec_l01Ok.k_6 i_2 q_5 = some y_204) (fun (j : Bool) => match j with | q_5 => [(0, [], (.slice A_a t0.length A_c)), (2, [], (.bool false)), (3, [], (.int .i64 i_2)), (32, [], (.bool q_5))]) (fun (j : Bool) => match j with | q_5 => []) ?_ ?_)))))
    ·refine qg [] 23 (qd [⟨0, 0, 0⟩,⟨1, 0, 0⟩] 21 [] ?_)
     obtain ⟨x_7, hx_216, h⟩ := bd h
     refine qv 2 0 [] (fun w hm => idx_run (a := A_a) (len := t0.length) (s := 2) (j := i_2) (by kernel_rfl) (ix_some hx_216).1 (ltn hx_216 rfl) (A_h.sp hx_216)) (qv 3 0 [] (fun w hm => ld_run (b := aB A_a) (off := (aO A_a + i_2.toNat * 2)) (s := 2) (agg := true) (vs := (encGNote x_7)) (by kernel_rfl) (by kernel_rfl) (.inl rfl) ((hm.xr A_h).at hx_216)) ?_)
     obtain ⟨t_8, ht_217, h⟩ := bd h
     refine tD 4 (pc 0 (fun w hm => spec_l01Note.calls x_7 w _ ht_217) ?_)
     rintro w v w' hm ⟨rfl, hm'⟩
     refine ⟨_, hm.app hm', kD [] ?_⟩
     clear hm hm'
     refine qd [⟨5, 0, 0⟩,⟨6, 0, 0⟩,⟨7, 0, 1⟩,⟨8, 0, 1⟩] 14 [] (jd_split 16 (!t_8) (by kernel_rfl) (fun hc_218 => ?_) (fun hc_218 => ?_))
     ·replace h := ifT hc_218 h
      exact qd [⟨9, 0, 3⟩,⟨10, 0, 3⟩,⟨11, 0, 3⟩,⟨12, 0, 3⟩,⟨13, 0, 3⟩,⟨14, 0, 3⟩,⟨15, 0, 3⟩,⟨16, 0, 3⟩,⟨17, 0, 3⟩,⟨18, 0, 3⟩,⟨19, 0, 3⟩,⟨20, 0, 3⟩,⟨21, 0, 3⟩,⟨22, 0, 4⟩] 0 [] (qz (qm true h []))
     ·replace h := ifF hc_218 h
      refine qd [⟨9, 0, 2⟩,⟨10, 0, 1⟩,⟨11, 0, 1⟩,⟨12, 0, 1⟩,⟨15, 0, 1⟩,⟨16, 0, 1⟩] 8 [] (jd_split 19 (decide (i_2 > 0)) (by kernel_rfl) (fun hc_219 => ?_) (fun hc_219 => ?_))
      ·replace h := ifT hc_219 h
       obtain ⟨x_9, hx_220, h⟩ := bd h
       refine qv 13 2 [] (fun w hm => idx_run (a := A_a) (len := t0.length) (s := 2) (j := (w64 (i_2 - 1))) (by kernel_rfl) (ix_some hx_220).1 (ltn hx_220 rfl) (A_h.sp hx_220)) (qv 14 2 [] (fun w hm => ld_run (b := aB A_a) (off := (aO A_a + (w64 (i_2 - 1)).toNat * 2)) (s := 2) (agg := true) (vs := (encGNote x_9)) (by kernel_rfl) (by kernel_rfl) (.inl rfl) ((hm.xr A_h).at hx_220)) ?_)
       obtain ⟨x_10, hx_221, h⟩ := bd h
       refine qv 17 2 [] (fun w hm => idx_run (a := A_a) (len := t0.length) (s := 2) (j := i_2) (by kernel_rfl) (ix_some hx_221).1 (ltn hx_221 rfl) (A_h.sp hx_221)) (qv 18 2 [] (fun w hm => ld_run (b := aB A_a) (off := (aO A_a + i_2.toNat * 2)) (s := 2) (agg := true) (vs := (encGNote x_10)) (by kernel_rfl) (by kernel_rfl) (.inl rfl) ((hm.xr A_h).at hx_221)) ?_)
       obtain ⟨t_11, ht_222, h⟩ := bd h
       refine tD 19 (pc 2 (fun w hm => spec_l01Before.calls x_9 x_10 w _ ht_222) ?_)
       rintro w v w' hm ⟨rfl, hm'⟩
       refine ⟨_, hm.app hm', kD [] ?_⟩
       clear hm hm'
       exact qd [⟨20, 0, 2⟩,⟨21, 0, 4⟩,⟨22, 0, 5⟩] 0 [] (qz (qm (!t_11) h []))
      ·replace h := ifF hc_219 h
       exact qd [⟨13, 0, 3⟩,⟨14, 0, 3⟩,⟨17, 0, 3⟩,⟨18, 0, 3⟩,⟨19, 0, 3⟩,⟨20, 0, 3⟩,⟨21, 0, 5⟩,⟨22, 0, 5⟩] 0 [] (qz (qm false h []))
    ·rintro q_5 h
     replace h : spec_l01Ok.k_6 i_2 q_5 = some y_204 := h
     rw [spec_l01Ok.k_6] at h
     refine jx_then (qi h (fun h => ?_) (fun h => ?_))
     ·refine jc_seq (jc_region (qh [0] (qe (jx_then (jc_ret (jx_inr (jx_thenr (jx_leaver (.inl false) (Option.some.inj h).symm (fun e_215 => ?_)))))))))
      subst e_215
      refine jx_inr (jx_thenr (jx_thenr ?_))
      obtain rfl := Option.some.inj hr_203
      exact qr [] (fun w hm => ⟨rfl, hm.pk []⟩)
     ·exact jc_skip (jx_inn (jx_then (jc_region (qh [0,0,0] (qe (qb (w64 (i_2 + 1)) () h trivial []))))))
   ·refine jc_exit (jx_thenx (jx_leave (.inr ()) (Option.some.inj h).symm (fun e_223 => ?_)))
    subst e_223
    exact jx_ine (qm () hr_203 [])
  ·rintro _ h
   replace h : spec_l01Ok.k_1 t0 = some r := h
   rw [spec_l01Ok.k_1] at h
   refine jx_then (jc_seq (jc_region (qh [0,0,0,0] (qe (jx_then (jc_ret ?_))))))
   obtain rfl := Option.some.inj h
   exact qr [] (fun w hm => ⟨rfl, hm.pk []⟩)
/-! ### spec.l02Drum -/
def spec_l02Drum.k_1 : Option (Bool) := some true
def spec_l02Drum.k_6 (i_2 : Int) (q_5 : Bool) : Option ((Int) ⊕ (Bool ⊕ Unit)) := (if q_5 = true then some (.inr (.inl false)) else some (.inl (w64 (i_2 + 1))))
def spec_l02Drum.l_3 (f0 : GFrame) (d1 : Arr 96 Int) : Int → Option ((Int) ⊕ (Bool ⊕ Unit))
  | i_2 => (if (decide (i_2 < 96)) = true then (ix d1.1 i_2).bind fun x_7 => (if 0 ≤ (u64 (f0.fHammers.length : Int)) then (if ((bShr .u32 x_7 (u64 (f0.fHammers.length : Int))) != 0) = true then spec_l02Drum.k_6 i_2 true else (if (decide (i_2 ≥ (w64 f0.fSteps))) = true then (ix d1.1 i_2).bind fun x_8 => spec_l02Drum.k_6 i_2 (x_8 != 0) else spec_l02Drum.k_6 i_2 false)) else none) else some (.inr (.inr ())))
def spec_l02Drum (f0 : GFrame) (d1 : Arr 96 Int) : Option (Bool) := (loop (spec_l02Drum.l_3 f0 d1) 0).bind fun t_4 => match t_4 with | .inl p => some p | .inr p => spec_l02Drum.k_1
theorem spec_l02Drum.calls (f0 : GFrame) (d1 : Arr 96 Int) (w : World) (r : Bool) {C_a : Option Addr} {C_an : Nat} (C_c : Nat) (C_h : Rw w C_a 2 encGHammer f0.fHammers) (C_hn : f0.fHammers.length = C_an) {D_b D_q : Nat} (D_h : Rw w (some ⟨D_b, D_q, none⟩) 1 encU32 d1.1) (A_b : Nat) (hm0 : Mem w (bs [some A_b]) [⟨some A_b, 27, [(.int .i16 f0.fSteps), (.slice C_a C_an C_c)]⟩] w) (C_ha : f0.fHammers ≠ [] → aB C_a ∉ bs [some A_b]) (D_ha : d1.1 ≠ [] → aB (some ⟨D_b, D_q, none⟩) ∉ bs [some A_b]) (h : spec_l02Drum f0 d1 = some r) :
    Calls Tryz.prog 43 #[(.pointer (some ⟨A_b, 0, none⟩)), (.pointer (some ⟨D_b, D_q, none⟩))] w fun e w' => ∃ v, e = .returned v ∧ (v = (.bool r) ∧ Mem w (bs [some A_b]) [⟨some A_b, 27, [(.int .i16 f0.fSteps), (.slice C_a C_an C_c)]⟩] w') := by
  subst C_hn
  rw [spec_l02Drum] at h
  refine enter (args := [(.pointer (some ⟨A_b, 0, none⟩)), (.pointer (some ⟨D_b, D_q, none⟩))]) Tryz.func43 rfl Tryz.ntmps43 (by kernel_rfl) (L := [⟨some A_b, 27, [(.int .i16 f0.fSteps), (.slice C_a f0.fHammers.length C_c)]⟩]) (W := bs [some A_b]) hm0 ?_
  refine jc_seq (jc_region (qh [0] (qe (jx_then (jc_seq (jc_seq (jc_region (qh [0] (qe (jx_then (jc_meet (fun (_ : Unit) => spec_l02Drum.k_1 = some r) (fun (_ : Unit) => [(4, [], (.bool false))]) (fun (_ : Unit) => [⟨some A_b, 27, [(.int .i16 f0.fSteps), (.slice C_a f0.fHammers.length C_c)]⟩]) ?_ ?_)))))))))))
  ·refine jc_block ?_
   obtain ⟨t_4, ht_88, hr_71⟩ := bd h
   refine jc_loop (fun (s : Int) (x : Unit) => match s, x with | i_2, _ => True) (fun (s : Int) (x : Unit) => match s, x with | i_2, _ => [(0, [], (.pointer (some ⟨A_b, 0, none⟩))), (1, [], (.pointer (some ⟨D_b, D_q, none⟩))), (4, [], (.bool false)), (5, [], (.int .i64 i_2))]) (fun (s : Int) (x : Unit) => match s, x with | i_2, _ => [⟨some A_b, 27, [(.int .i16 f0.fSteps), (.slice C_a f0.fHammers.length C_c)]⟩]) ht_88 () trivial (by kernel_rfl) [0] (by kernel_rfl) (by kernel_rfl) ?_
   rintro i_2 _ y_72 _ h
   rw [spec_l02Drum.l_3] at h
   refine jc_seq (jc_seq (jc_region (qh [0,0] (qe (jx_then (qi h (fun h => ?_) (fun h => ?_)))))))
   ·refine jc_skip (jx_then (jc_seq (jc_block (jc_seq (jc_meet (fun (j : Bool) => match j with | q_5 => spec_l02Drum.k_6 i_2 q_5 = some y_72) (fun (j : Bool) => match j with | q_5 => [(0, [], (.pointer (some ⟨A_b, 0, none⟩))), (1, [], (.pointer (some ⟨D_b, D_q, none⟩))), (4, [], (.bool false)), (5, [], (.int .i64 i_2)), (39, [], (.bool q_5))]) (fun (j : Bool) => match j with | q_5 => [⟨some A_b, 27, [(.int .i16 f0.fSteps), (.slice C_a f0.fHammers.length C_c)]⟩]) ?_ ?_)))))
    ·refine qg [⟨some A_b, 27, [(.int .i16 f0.fSteps), (.slice C_a f0.fHammers.length C_c)]⟩] 30 (qd [⟨0, 0, 0⟩,⟨1, 0, 0⟩,⟨2, 0, 0⟩,⟨5, 0, 0⟩,⟨6, 0, 0⟩,⟨7, 0, 0⟩,⟨8, 0, 0⟩,⟨9, 0, 0⟩,⟨10, 0, 0⟩] 21 [0] ?_)
     obtain ⟨x_7, hx_82, h⟩ := bd h
     refine qv 3 0 [0] (fun w hm => idx_run (a := (some ⟨D_b, D_q, none⟩)) (len := 96) (s := 1) (j := i_2) (by kernel_rfl) (ix_some hx_82).1 (ltn hx_82 d1.2) (D_h.sp hx_82)) (qv 4 0 [0] (fun w hm => ld_run (b := aB (some ⟨D_b, D_q, none⟩)) (off := (aO (some ⟨D_b, D_q, none⟩) + i_2.toNat * 1)) (s := 1) (agg := false) (vs := (encU32 x_7)) (by kernel_rfl) (by kernel_rfl) (.inr rfl) ((hm.exRowW D_h D_ha).at hx_82)) ?_)
     obtain ⟨hg_83, h⟩ := gd h
     refine tD 11 (p_shr 0 .u32 x_7 .u64 (u64 (f0.fHammers.length : Int)) (by kernel_rfl) (by kernel_rfl) hg_83 (kD [0] (qd [⟨12, 0, 0⟩,⟨13, 0, 0⟩,⟨14, 0, 1⟩,⟨15, 0, 1⟩,⟨16, 0, 1⟩,⟨17, 0, 1⟩,⟨18, 0, 1⟩,⟨19, 0, 1⟩,⟨20, 0, 1⟩] 9 [0] (jd_split 23 ((bShr .u32 x_7 (u64 (f0.fHammers.length : Int))) != 0) (by kernel_rfl) (fun hc_84 => ?_) (fun hc_84 => ?_)))))
     ·replace h := ifT hc_84 h
      exact qd [⟨21, 0, 3⟩,⟨22, 0, 3⟩,⟨23, 0, 3⟩,⟨24, 0, 3⟩,⟨25, 0, 3⟩,⟨26, 0, 3⟩,⟨27, 0, 3⟩,⟨28, 0, 3⟩,⟨29, 0, 4⟩] 0 [0] (qz (qm true h [0]))
     ·replace h := ifF hc_84 h
      refine qd [⟨21, 0, 2⟩,⟨22, 0, 1⟩,⟨23, 0, 1⟩,⟨24, 0, 1⟩] 5 [0] (jd_split 31 (decide (i_2 ≥ (w64 f0.fSteps))) (by kernel_rfl) (fun hc_85 => ?_) (fun hc_85 => ?_))
      ·replace h := ifT hc_85 h
       obtain ⟨x_8, hx_86, h⟩ := bd h
       exact qv 25 2 [0] (fun w hm => idx_run (a := (some ⟨D_b, D_q, none⟩)) (len := 96) (s := 1) (j := i_2) (by kernel_rfl) (ix_some hx_86).1 (ltn hx_86 d1.2) (D_h.sp hx_86)) (qv 26 2 [0] (fun w hm => ld_run (b := aB (some ⟨D_b, D_q, none⟩)) (off := (aO (some ⟨D_b, D_q, none⟩) + i_2.toNat * 1)) (s := 1) (agg := false) (vs := (encU32 x_8)) (by kernel_rfl) (by kernel_rfl) (.inr rfl) ((hm.exRowW D_h D_ha).at hx_86)) (qd [⟨27, 0, 2⟩,⟨28, 0, 4⟩,⟨29, 0, 5⟩] 0 [0] (qz (qm (x_8 != 0) h [0]))))
      ·replace h := ifF hc_85 h
       exact qd [⟨25, 0, 3⟩,⟨26, 0, 3⟩,⟨27, 0, 3⟩,⟨28, 0, 5⟩,⟨29, 0, 5⟩] 0 [0] (qz (qm false h [0]))
    ·rintro q_5 h
     replace h : spec_l02Drum.k_6 i_2 q_5 = some y_72 := h
     rw [spec_l02Drum.k_6] at h
     refine jx_then (qi h (fun h => ?_) (fun h => ?_))
     ·refine jc_seq (jc_region (qh [0] (qe (jx_then (jc_ret (jx_inr (jx_thenr (jx_leaver (.inl false) (Option.some.inj h).symm (fun e_81 => ?_)))))))))
      subst e_81
      refine jx_inr (jx_thenr (jx_thenr ?_))
      obtain rfl := Option.some.inj hr_71
      exact qr [] (fun w hm => ⟨rfl, hm.pk [0]⟩)
     ·exact jc_skip (jx_inn (jx_then (jc_region (qh [0,0,0] (qe (qb (w64 (i_2 + 1)) () h trivial [0]))))))
   ·refine jc_exit (jx_thenx (jx_leave (.inr ()) (Option.some.inj h).symm (fun e_87 => ?_)))
    subst e_87
    exact jx_ine (qm () hr_71 [0])
  ·rintro _ h
   replace h : spec_l02Drum.k_1 = some r := h
   rw [spec_l02Drum.k_1] at h
   refine jx_then (jc_seq (jc_region (qh [0] (qe (jx_then (jc_ret ?_))))))
   obtain rfl := Option.some.inj h
   exact qr [] (fun w hm => ⟨rfl, hm.pk [0]⟩)
/-! ### spec.l01Length -/
def spec_l01Length (t0 : List GNote) : Option (Int) := (if ((t0.length : Int) == 0) = true then some 0 else (ix t0 (w64 ((t0.length : Int) - 1))).bind fun x_1 => some (w64 ((w64 x_1.fAt) + 1)))
theorem spec_l01Length.calls (t0 : List GNote) (w : World) (r : Int) {A_a : Option Addr} {A_an : Nat} (A_c : Nat) (A_h : Rw w A_a 2 encGNote t0) (A_hn : t0.length = A_an) (h : spec_l01Length t0 = some r) :
    Calls Tryz.prog 80 #[(.slice A_a A_an A_c)] w fun e w' => ∃ v, e = .returned v ∧ (v = (.int .i64 r) ∧ Mem w [] [] w') := by
  subst A_hn
  rw [spec_l01Length] at h
  refine enter (args := [(.slice A_a t0.length A_c)]) Tryz.func80 rfl Tryz.ntmps80 (by kernel_rfl) (L := []) (W := []) (Mem.start w) ?_
  refine jc_seq (jc_region (qh [0] (qe (jx_then (jc_seq (jc_seq (jc_region (qh [0,0,0] (qe (jx_then (qi h (fun h => ?_) (fun h => ?_))))))))))))
  ·refine jc_seq (jc_region (qh [0] (qe (jx_then (jc_ret (jx_thenr ?_))))))
   obtain rfl := Option.some.inj h
   exact qr [] (fun w hm => ⟨rfl, hm.pk []⟩)
  ·refine jc_skip (jx_then (jc_seq (jc_region (qh [0,0,0,0] ?_))))
   obtain ⟨x_1, hx_3, h⟩ := bd h
   refine tO (qx 0 A_a 2 hx_3 rfl (A_h.sp hx_3) (jkO (qh [0] (tO (ql 0 false (fun w hm => (((hm.xr A_h).at hx_3).sub 0 1)) (jkO (qh [0,0,0] (qe (jx_then (jc_ret ?_))))))))))
   obtain rfl := Option.some.inj h
   exact qr [] (fun w hm => ⟨rfl, hm.pk []⟩)
end

end Go.Proofs.YtojndiidhgdjcaaGreatDoor
