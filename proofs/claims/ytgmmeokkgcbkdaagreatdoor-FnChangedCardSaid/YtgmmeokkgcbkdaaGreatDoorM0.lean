/- Functions of the program that the laws reach: a plain function each, and that the call comes to its answer if the plain function has one. Printed by a program. -/
import Derived.Test.YtgmmeokkgcbkdaaGreatDoorT
import Derived.Test.YtgmmeokkgcbkdaaGreatDoorGrow
namespace Go.Proofs.YtgmmeokkgcbkdaaGreatDoor
open Eng
set_option linter.unusedVariables false

set_option linter.unusedSectionVars false
set_option maxRecDepth 100000
variable [dsW : DrwS]
noncomputable section
/-! ### laws.a2Long -/
def laws_a2Long (code0 : List Int) (more1 : List Int) : Option (Bool) := some ((decide ((code0.length : Int) > 3000)) || (decide ((more1.length : Int) > 3000)))
theorem laws_a2Long.calls (code0 : List Int) (more1 : List Int) (w : World) (r : Bool) {A_a : Option Addr} {A_an : Nat} (A_c : Nat) (A_h : Rw w A_a 1 encU8 code0) (A_hn : code0.length = A_an) {B_a : Option Addr} {B_an : Nat} (B_c : Nat) (B_h : Rw w B_a 1 encU8 more1) (B_hn : more1.length = B_an) (h : laws_a2Long code0 more1 = some r) :
    Calls Tryz.prog 4 #[(.slice A_a A_an A_c), (.slice B_a B_an B_c)] w fun e w' => ∃ v, e = .returned v ∧ (v = (.bool r) ∧ Mem w [] [] w') := by
  subst A_hn B_hn
  rw [laws_a2Long] at h
  refine enter (args := [(.slice A_a code0.length A_c), (.slice B_a more1.length B_c)]) Tryz.func4 rfl Tryz.ntmps4 (by kernel_rfl) (L := []) (W := []) (Mem.start w) ?_
  refine jc_seq (jc_region (qh [0] (qe (jx_then (jc_seq (jc_region (qf [(0, 0), (0, 0), (0, 0), (0, 0), (0, 1), (0, 1), (0, 1), (0, 0), (0, 0)] (qe (jx_then (jc_ret ?_))))))))))
  obtain rfl := Option.some.inj h
  exact qr [] (fun w hm => ⟨rfl, hm.pk []⟩)
/-! ### spec.l00From -/
def spec_l00From (code0 : List Int) : Option (Gl00Src) := some (⟨code0, 0, 0⟩ : Gl00Src)
theorem spec_l00From.calls (code0 : List Int) (w : World) (r : Gl00Src) {A_a : Option Addr} {A_an : Nat} (A_c : Nat) (A_h : Rw w A_a 1 encU8 code0) (A_hn : code0.length = A_an) (h : spec_l00From code0 = some r) :
    Calls Tryz.prog 23 #[(.slice A_a A_an A_c)] w fun e w' => ∃ v, e = .returned v ∧ (∃ (pb0 : Nat), v = .pointer (some ⟨pb0, 0, none⟩) ∧ Mem w [] [⟨some pb0, 95, [(.slice A_a A_an A_c), (.int .i64 r.fat), (.int .u64 r.fseed)]⟩] w') := by
  subst A_hn
  rw [spec_l00From] at h
  refine enter (args := [(.slice A_a code0.length A_c)]) Tryz.func23 rfl Tryz.ntmps23 (by kernel_rfl) (L := []) (W := []) (Mem.start w) ?_
  refine jc_seq (jc_region (qh [0] (qe (jx_then (jc_seq (jc_region (qh [0,0] (tO (qa 0 (fun b_1 => jkO (qh [0] (qe (jx_then (jc_ret ?_))))))))))))))
  obtain rfl := Option.some.inj h
  exact qr [] (fun w hm => ⟨b_1, rfl, hm.pk [0]⟩)
/-! ### (*spec.l00Src).next -/
def spec_l00Src_next.k_2 (s0 : Gl00Src) (i_1 : Int) : Option (Int × Gl00Src) := (if (decide ((w64 (s0.fat + 1)) ≤ (s0.fcode.length : Int))) = true then some (i_1, (⟨s0.fcode, (w64 (s0.fat + 1)), (u64 ((u64 ((u64 (s0.fseed * 6364136223846793005)) + (u64 i_1))) + 1442695040888963407))⟩ : Gl00Src)) else some ((w64 (bAnd .u64 (bShr .u64 (u64 ((u64 ((u64 (s0.fseed * 6364136223846793005)) + (u64 i_1))) + 1442695040888963407)) 40) 255)), (⟨s0.fcode, (w64 (s0.fat + 1)), (u64 ((u64 ((u64 (s0.fseed * 6364136223846793005)) + (u64 i_1))) + 1442695040888963407))⟩ : Gl00Src)))
def spec_l00Src_next (s0 : Gl00Src) : Option (Int × Gl00Src) := (if (decide (s0.fat < (s0.fcode.length : Int))) = true then (ix s0.fcode s0.fat).bind fun x_3 => spec_l00Src_next.k_2 s0 (w64 x_3) else spec_l00Src_next.k_2 s0 0)
theorem spec_l00Src_next.calls (s0 : Gl00Src) (w : World) (r : Int × Gl00Src) {B_a : Option Addr} {B_an : Nat} (B_c : Nat) (B_h : Rw w B_a 1 encU8 s0.fcode) (B_hn : s0.fcode.length = B_an) (A_b : Nat) (hm0 : Mem w (bs [some A_b]) [⟨some A_b, 95, [(.slice B_a B_an B_c), (.int .i64 s0.fat), (.int .u64 s0.fseed)]⟩] w) (B_ha : s0.fcode ≠ [] → aB B_a ∉ bs [some A_b]) (h : spec_l00Src_next s0 = some r) :
    Calls Tryz.prog 75 #[(.pointer (some ⟨A_b, 0, none⟩))] w fun e w' => ∃ v, e = .returned v ∧ (v = (.int .i64 r.1) ∧ Mem w (bs [some A_b]) [⟨some A_b, 95, [(.slice B_a B_an B_c), (.int .i64 r.2.fat), (.int .u64 r.2.fseed)]⟩] w') := by
  subst B_hn
  rw [spec_l00Src_next] at h
  refine enter (args := [(.pointer (some ⟨A_b, 0, none⟩))]) Tryz.func75 rfl Tryz.ntmps75 (by kernel_rfl) (L := [⟨some A_b, 95, [(.slice B_a s0.fcode.length B_c), (.int .i64 s0.fat), (.int .u64 s0.fseed)]⟩]) (W := bs [some A_b]) hm0 ?_
  refine jc_seq (jc_region (qh [0] (qe (jx_then (jc_seq (jc_region (qh [0] (qe (jx_then (jc_seq (jc_meet (fun (j : Int) => match j with | i_1 => spec_l00Src_next.k_2 s0 i_1 = some r) (fun (j : Int) => match j with | i_1 => [(0, [], (.pointer (some ⟨A_b, 0, none⟩))), (2, [], (.int .i64 0)), (3, [], (.int .i64 i_1))]) (fun (j : Int) => match j with | i_1 => [⟨some A_b, 95, [(.slice B_a s0.fcode.length B_c), (.int .i64 s0.fat), (.int .u64 s0.fseed)]⟩]) ?_ ?_)))))))))))
  ·refine jc_seq (qg [⟨some A_b, 95, [(.slice B_a s0.fcode.length B_c), (.int .i64 s0.fat), (.int .u64 s0.fseed)]⟩] 10 (qd [⟨0, 0, 0⟩,⟨1, 0, 0⟩,⟨2, 0, 0⟩,⟨3, 0, 0⟩,⟨4, 0, 0⟩,⟨5, 0, 0⟩,⟨6, 0, 0⟩,⟨7, 0, 0⟩,⟨8, 0, 0⟩,⟨9, 0, 0⟩] 0 [0] (qz (jx_then (qi h (fun h => ?_) (fun h => ?_))))))
   ·refine qg [⟨some A_b, 95, [(.slice B_a s0.fcode.length B_c), (.int .i64 s0.fat), (.int .u64 s0.fseed)]⟩] 12 (qd [⟨0, 0, 0⟩,⟨1, 0, 0⟩,⟨2, 0, 0⟩,⟨3, 0, 0⟩,⟨4, 0, 0⟩,⟨5, 0, 0⟩,⟨6, 0, 0⟩,⟨7, 0, 0⟩] 4 [0] ?_)
    obtain ⟨x_3, hx_6, h⟩ := bd h
    exact qv 8 0 [0] (fun w hm => idx_run (a := B_a) (len := s0.fcode.length) (s := 1) (j := s0.fat) (by kernel_rfl) (ix_some hx_6).1 (ltn hx_6 rfl) (B_h.sp hx_6)) (qv 9 0 [0] (fun w hm => ld_run (b := aB B_a) (off := (aO B_a + s0.fat.toNat * 1)) (s := 1) (agg := false) (vs := (encU8 x_3)) (by kernel_rfl) (by kernel_rfl) (.inr rfl) ((hm.exRowW B_h B_ha).at hx_6)) (qd [⟨10, 0, 0⟩,⟨11, 0, 0⟩] 0 [0] (qz (qm (w64 x_3) h [0]))))
   ·exact jc_skip (qm 0 h [0])
  ·rintro i_1 h
   replace h : spec_l00Src_next.k_2 s0 i_1 = some r := h
   rw [spec_l00Src_next.k_2] at h
   refine jx_then (jc_seq (jc_region (qh [0,0,0,0,0,0,0] (tO (qs 0 [0] (jkO (qe (jx_then (jc_seq (jc_region (qh [0,0,0,0,0,0,0,0,0,0,0,0] (tO (qs 0 [0] (jkO (qe (jx_then (jc_seq (jc_seq (qg [⟨some A_b, 95, [(.slice B_a s0.fcode.length B_c), (.int .i64 (w64 (s0.fat + 1))), (.int .u64 (u64 ((u64 ((u64 (s0.fseed * 6364136223846793005)) + (u64 i_1))) + 1442695040888963407)))]⟩] 10 (qd [⟨0, 0, 0⟩,⟨1, 0, 0⟩,⟨2, 0, 0⟩,⟨3, 0, 0⟩,⟨4, 0, 0⟩,⟨5, 0, 0⟩,⟨6, 0, 0⟩,⟨7, 0, 0⟩,⟨8, 0, 0⟩,⟨9, 0, 0⟩] 0 [0] (qz (jx_then (qi h (fun h => ?_) (fun h => ?_))))))))))))))))))))))))
   ·refine jc_seq (jc_region (qh [0,0] (qe (jx_then (jc_ret (jx_thenr ?_))))))
    obtain rfl := Option.some.inj h
    exact qr [] (fun w hm => ⟨rfl, hm.pk [0]⟩)
   ·refine jc_skip (jx_then (jc_seq (jc_region (qh [0,0,0,0,0,0,0,0] (qe (jx_then (jc_ret ?_)))))))
    obtain rfl := Option.some.inj h
    exact qr [] (fun w hm => ⟨rfl, hm.pk [0]⟩)
/-! ### (*spec.l00Src).pick -/
def spec_l00Src_pick.k_5 (s0 : Gl00Src) (n1 : Int) (i_2 : Int) (i_3 : Int) (i_4 : Int) : Option (Int × Gl00Src) := (if n1 ≠ 0 then some ((Int.tmod i_4 n1), (⟨s0.fcode, i_2, i_3⟩ : Gl00Src)) else none)
def spec_l00Src_pick (s0 : Gl00Src) (n1 : Int) : Option (Int × Gl00Src) := (if (decide (n1 ≤ 1)) = true then some (0, s0) else (spec_l00Src_next s0).bind fun t_1 => (if (decide (n1 > 200)) = true then (spec_l00Src_next (⟨s0.fcode, t_1.2.fat, t_1.2.fseed⟩ : Gl00Src)).bind fun t_6 => spec_l00Src_pick.k_5 s0 n1 t_6.2.fat t_6.2.fseed (w64 ((w64 (t_1.1 * 256)) + t_6.1)) else spec_l00Src_pick.k_5 s0 n1 t_1.2.fat t_1.2.fseed t_1.1))
theorem spec_l00Src_pick.calls (s0 : Gl00Src) (n1 : Int) (w : World) (r : Int × Gl00Src) {B_a : Option Addr} {B_an : Nat} (B_c : Nat) (B_h : Rw w B_a 1 encU8 s0.fcode) (B_hn : s0.fcode.length = B_an) (A_b : Nat) (hm0 : Mem w (bs [some A_b]) [⟨some A_b, 95, [(.slice B_a B_an B_c), (.int .i64 s0.fat), (.int .u64 s0.fseed)]⟩] w) (B_ha : s0.fcode ≠ [] → aB B_a ∉ bs [some A_b]) (h : spec_l00Src_pick s0 n1 = some r) :
    Calls Tryz.prog 49 #[(.pointer (some ⟨A_b, 0, none⟩)), (.int .i64 n1)] w fun e w' => ∃ v, e = .returned v ∧ (v = (.int .i64 r.1) ∧ Mem w (bs [some A_b]) [⟨some A_b, 95, [(.slice B_a B_an B_c), (.int .i64 r.2.fat), (.int .u64 r.2.fseed)]⟩] w') := by
  subst B_hn
  rw [spec_l00Src_pick] at h
  refine enter (args := [(.pointer (some ⟨A_b, 0, none⟩)), (.int .i64 n1)]) Tryz.func49 rfl Tryz.ntmps49 (by kernel_rfl) (L := [⟨some A_b, 95, [(.slice B_a s0.fcode.length B_c), (.int .i64 s0.fat), (.int .u64 s0.fseed)]⟩]) (W := bs [some A_b]) hm0 ?_
  refine jc_seq (jc_region (qh [0] (qe (jx_then (jc_seq (jc_seq (jc_region (qh [0,0] (qe (jx_then (qi h (fun h => ?_) (fun h => ?_))))))))))))
  ·refine jc_seq (jc_region (qh [0] (qe (jx_then (jc_ret (jx_thenr ?_))))))
   obtain rfl := Option.some.inj h
   exact qr [] (fun w hm => ⟨rfl, hm.pk [0]⟩)
  ·refine jc_skip (jx_then (jc_seq (jc_region (qh [0] ?_))))
   obtain ⟨t_1, ht_3, h⟩ := bd h
   refine tO (pc 0 (fun w hm => spec_l00Src_next.calls s0 w _ B_c (hm.exRowW B_h B_ha) rfl A_b (hm.pass (N := [⟨some A_b, 95, [(.slice B_a s0.fcode.length B_c), (.int .i64 s0.fat), (.int .u64 s0.fseed)]⟩]) [0] (by kernel_rfl) (by kernel_rfl)) (hm.exApart (N := [⟨some A_b, 95, [(.slice B_a s0.fcode.length B_c), (.int .i64 s0.fat), (.int .u64 s0.fseed)]⟩]) B_h B_ha [0] (by kernel_rfl)) ht_3) ?_)
   rintro w v w' hm ⟨rfl, hm'⟩
   refine ⟨_, hm.appW (ps := [(0, ⟨some A_b, 95, [(.slice B_a s0.fcode.length B_c), (.int .i64 t_1.2.fat), (.int .u64 t_1.2.fseed)]⟩)]) (N := []) hm' (by kernel_rfl) (by kernel_rfl), jkO ?_⟩
   clear hm hm'
   refine qh [0] (qe (jx_then (jc_seq (jc_meet (fun (j : Int × Int × Int) => match j with | ⟨i_2, i_3, i_4⟩ => spec_l00Src_pick.k_5 s0 n1 i_2 i_3 i_4 = some r) (fun (j : Int × Int × Int) => match j with | ⟨i_2, i_3, i_4⟩ => [(1, [], (.int .i64 n1)), (4, [], (.int .i64 0)), (5, [], (.int .i64 i_4))]) (fun (j : Int × Int × Int) => match j with | ⟨i_2, i_3, i_4⟩ => [⟨some A_b, 95, [(.slice B_a s0.fcode.length B_c), (.int .i64 i_2), (.int .u64 i_3)]⟩]) ?_ ?_))))
   ·refine jc_seq (jc_region (qh [0,0] (qe (jx_then (qi h (fun h => ?_) (fun h => ?_))))))
    ·refine jc_region (qh [0,0,0] ?_)
     obtain ⟨t_6, ht_8, h⟩ := bd h
     refine tO (pc 0 (fun w hm => spec_l00Src_next.calls (⟨s0.fcode, t_1.2.fat, t_1.2.fseed⟩ : Gl00Src) w _ B_c (hm.exRowW B_h B_ha) rfl A_b (hm.pass (N := [⟨some A_b, 95, [(.slice B_a s0.fcode.length B_c), (.int .i64 t_1.2.fat), (.int .u64 t_1.2.fseed)]⟩]) [0] (by kernel_rfl) (by kernel_rfl)) (hm.exApart (N := [⟨some A_b, 95, [(.slice B_a s0.fcode.length B_c), (.int .i64 t_1.2.fat), (.int .u64 t_1.2.fseed)]⟩]) B_h B_ha [0] (by kernel_rfl)) ht_8) ?_)
     rintro w v w' hm ⟨rfl, hm'⟩
     refine ⟨_, hm.appW (ps := [(0, ⟨some A_b, 95, [(.slice B_a s0.fcode.length B_c), (.int .i64 t_6.2.fat), (.int .u64 t_6.2.fseed)]⟩)]) (N := []) hm' (by kernel_rfl) (by kernel_rfl), jkO ?_⟩
     clear hm hm'
     exact qh [0,0] (qe (qm ⟨t_6.2.fat, t_6.2.fseed, (w64 ((w64 (t_1.1 * 256)) + t_6.1))⟩ h [0]))
    ·exact jc_skip (qm ⟨t_1.2.fat, t_1.2.fseed, t_1.1⟩ h [0])
   ·rintro ⟨i_2, i_3, i_4⟩ h
    replace h : spec_l00Src_pick.k_5 s0 n1 i_2 i_3 i_4 = some r := h
    rw [spec_l00Src_pick.k_5] at h
    refine jx_then (jc_seq (jc_region (qh [0,0] ?_)))
    obtain ⟨hg_6, h⟩ := gd h
    refine tO (p_rem 0 .i64 i_4 n1 (by kernel_rfl) (by kernel_rfl) hg_6 (jkO (qh [0] (qe (jx_then (jc_ret ?_))))))
    obtain rfl := Option.some.inj h
    exact qr [] (fun w hm => ⟨rfl, hm.pk [0]⟩)
/-! ### spec.l02FrameDrawn -/
def spec_l02FrameDrawn.k_6 (s0 : Gl00Src) (t_1 : Int × Gl00Src) (i_3 : Int) (i_4 : Int) (xs_5 : List GHammer) : Option (GFrame × Gl00Src) := some ((⟨(w16 (w64 (4 + t_1.1))), xs_5⟩ : GFrame), (⟨s0.fcode, i_3, i_4⟩ : Gl00Src))
def spec_l02FrameDrawn.l_11 (s0 : Gl00Src) : (Int × Int × (List GHammer) × Int) → Option ((Int × Int × (List GHammer) × Int) ⊕ ((Int × Int × (List GHammer))))
  | (i_7, i_8, xs_9, i_10) => (if (decide (i_10 > 0)) = true then (spec_l00Src_pick (⟨s0.fcode, i_7, i_8⟩ : Gl00Src) 4).bind fun t_13 => (spec_l00Src_pick (⟨s0.fcode, t_13.2.fat, t_13.2.fseed⟩ : Gl00Src) 4).bind fun t_14 => (if xs_9.length + ([(⟨(w8 (w64 (22 + t_13.1))), (w8 (w64 (1 + t_14.1)))⟩ : GHammer)] : List GHammer).length ≤ 4294967296 then some (.inl (t_14.2.fat, t_14.2.fseed, (xs_9 ++ ([(⟨(w8 (w64 (22 + t_13.1))), (w8 (w64 (1 + t_14.1)))⟩ : GHammer)] : List GHammer)), (w64 (i_10 - 1)))) else none) else some (.inr (i_7, i_8, xs_9)))
def spec_l02FrameDrawn (s0 : Gl00Src) : Option (GFrame × Gl00Src) := (spec_l00Src_pick s0 14).bind fun t_1 => (spec_l00Src_pick (⟨s0.fcode, t_1.2.fat, t_1.2.fseed⟩ : Gl00Src) 5).bind fun t_2 => (loop (spec_l02FrameDrawn.l_11 s0) (t_2.2.fat, t_2.2.fseed, [], (w64 (1 + t_2.1)))).bind fun t_12 => spec_l02FrameDrawn.k_6 s0 t_1 t_12.1 t_12.2.1 t_12.2.2
theorem spec_l02FrameDrawn.calls (s0 : Gl00Src) (w : World) (r : GFrame × Gl00Src) {B_a : Option Addr} {B_an : Nat} (B_c : Nat) (B_h : Rw w B_a 1 encU8 s0.fcode) (B_hn : s0.fcode.length = B_an) (A_b : Nat) (hm0 : Mem w (bs [some A_b]) [⟨some A_b, 95, [(.slice B_a B_an B_c), (.int .i64 s0.fat), (.int .u64 s0.fseed)]⟩] w) (B_ha : s0.fcode ≠ [] → aB B_a ∉ bs [some A_b]) (h : spec_l02FrameDrawn s0 = some r) :
    Calls Tryz.prog 22 #[(.pointer (some ⟨A_b, 0, none⟩))] w fun e w' => ∃ v, e = .returned v ∧ (∃ (o0 : Option Nat) (c0 : Nat) (s0 : List Value) (n0 : Nat), r.1.fHammers.length = n0 ∧ (o0 ≠ none → n0 ≤ c0 ∧ s0.length = (c0 - n0) * 2) ∧ (o0 = none → r.1.fHammers = [] ∧ c0 = 0) ∧ v = .agg #[(.int .i16 r.1.fSteps), .slice (o0.map fun b => ⟨b, 0, none⟩) n0 c0] ∧ Mem w (bs [some A_b]) [⟨some A_b, 95, [(.slice B_a B_an B_c), (.int .i64 r.2.fat), (.int .u64 r.2.fseed)]⟩, ⟨o0, 92, row encGHammer r.1.fHammers s0⟩] w') := by
  subst B_hn
  rw [spec_l02FrameDrawn] at h
  refine enter (args := [(.pointer (some ⟨A_b, 0, none⟩))]) Tryz.func22 rfl Tryz.ntmps22 (by kernel_rfl) (L := [⟨some A_b, 95, [(.slice B_a s0.fcode.length B_c), (.int .i64 s0.fat), (.int .u64 s0.fseed)]⟩]) (W := bs [some A_b]) hm0 ?_
  refine jc_seq (jc_region (tO (qa 0 (fun b_1 => jkO (qe (jx_then (jc_seq (jc_region (qh [0] ?_)))))))))
  obtain ⟨t_1, ht_2, h⟩ := bd h
  refine tO (pc 0 (fun w hm => spec_l00Src_pick.calls s0 14 w _ B_c (hm.exRowW B_h B_ha) rfl A_b (hm.pass (N := [⟨some A_b, 95, [(.slice B_a s0.fcode.length B_c), (.int .i64 s0.fat), (.int .u64 s0.fseed)]⟩]) [0] (by kernel_rfl) (by kernel_rfl)) (hm.exApart (N := [⟨some A_b, 95, [(.slice B_a s0.fcode.length B_c), (.int .i64 s0.fat), (.int .u64 s0.fseed)]⟩]) B_h B_ha [0] (by kernel_rfl)) ht_2) ?_)
  rintro w v w' hm ⟨rfl, hm'⟩
  refine ⟨_, hm.appW (ps := [(0, ⟨some A_b, 95, [(.slice B_a s0.fcode.length B_c), (.int .i64 t_1.2.fat), (.int .u64 t_1.2.fseed)]⟩)]) (N := []) hm' (by kernel_rfl) (by kernel_rfl), jkO ?_⟩
  clear hm hm'
  refine qh [0,0,0] (tO (qa 0 (fun b_3 => jkO (tO (qs 0 [2] (jkO (qe (jx_then (jc_seq (jc_seq (jc_region (qh [0] ?_))))))))))))
  obtain ⟨t_2, ht_115, h⟩ := bd h
  refine tO (pc 0 (fun w hm => spec_l00Src_pick.calls (⟨s0.fcode, t_1.2.fat, t_1.2.fseed⟩ : Gl00Src) 5 w _ B_c (hm.exRowW B_h B_ha) rfl A_b (hm.pass (N := [⟨some A_b, 95, [(.slice B_a s0.fcode.length B_c), (.int .i64 t_1.2.fat), (.int .u64 t_1.2.fseed)]⟩]) [0] (by kernel_rfl) (by kernel_rfl)) (hm.exApart (N := [⟨some A_b, 95, [(.slice B_a s0.fcode.length B_c), (.int .i64 t_1.2.fat), (.int .u64 t_1.2.fseed)]⟩]) B_h B_ha [0] (by kernel_rfl)) ht_115) ?_)
  rintro w v w' hm ⟨rfl, hm'⟩
  refine ⟨_, hm.appW (ps := [(0, ⟨some A_b, 95, [(.slice B_a s0.fcode.length B_c), (.int .i64 t_2.2.fat), (.int .u64 t_2.2.fseed)]⟩)]) (N := []) hm' (by kernel_rfl) (by kernel_rfl), jkO ?_⟩
  clear hm hm'
  refine qh [0,0] (qe (jx_then (jc_meet (fun (j : Int × Int × (List GHammer) × (Option Nat) × Nat × (List Value) × Nat) => match j with | ⟨i_3, i_4, xs_5, o_168, cap_169, sp_170, n_171⟩ => spec_l02FrameDrawn.k_6 s0 t_1 i_3 i_4 xs_5 = some r ∧ (xs_5.length = n_171) ∧ ((o_168 ≠ none → n_171 ≤ cap_169 ∧ sp_170.length = (cap_169 - n_171) * 2)) ∧ ((o_168 = none → xs_5 = [] ∧ cap_169 = 0))) (fun (j : Int × Int × (List GHammer) × (Option Nat) × Nat × (List Value) × Nat) => match j with | ⟨i_3, i_4, xs_5, o_168, cap_169, sp_170, n_171⟩ => [(2, [], (.pointer (some ⟨b_1, 0, none⟩))), (3, [], (.pointer (some ⟨b_3, 0, none⟩)))]) (fun (j : Int × Int × (List GHammer) × (Option Nat) × Nat × (List Value) × Nat) => match j with | ⟨i_3, i_4, xs_5, o_168, cap_169, sp_170, n_171⟩ => [⟨some A_b, 95, [(.slice B_a s0.fcode.length B_c), (.int .i64 i_3), (.int .u64 i_4)]⟩, ⟨some b_1, 27, [(.int .i16 0), (.slice none 0 0)]⟩, ⟨some b_3, 27, [(.int .i16 (w16 (w64 (4 + t_1.1)))), (.slice (o_168.map fun b => ⟨b, 0, none⟩) n_171 cap_169)]⟩, ⟨o_168, 92, row encGHammer xs_5 sp_170⟩]) ?_ ?_)))
  ·refine jc_block ?_
   obtain ⟨t_12, ht_225, hr_210⟩ := bd h
   refine jc_ghost 92 encGHammer (jc_loop (fun (s : Int × Int × (List GHammer) × Int) (x : (Option Nat) × Nat × (List Value) × Nat) => match s, x with | ⟨i_7, i_8, xs_9, i_10⟩, ⟨o_204, cap_205, sp_206, n_207⟩ => (xs_9.length = n_207) ∧ ((o_204 ≠ none → n_207 ≤ cap_205 ∧ sp_206.length = (cap_205 - n_207) * 2)) ∧ ((o_204 = none → xs_9 = [] ∧ cap_205 = 0))) (fun (s : Int × Int × (List GHammer) × Int) (x : (Option Nat) × Nat × (List Value) × Nat) => match s, x with | ⟨i_7, i_8, xs_9, i_10⟩, ⟨o_204, cap_205, sp_206, n_207⟩ => [(0, [], (.pointer (some ⟨A_b, 0, none⟩))), (2, [], (.pointer (some ⟨b_1, 0, none⟩))), (3, [], (.pointer (some ⟨b_3, 0, none⟩))), (4, [], (.int .i64 i_10))]) (fun (s : Int × Int × (List GHammer) × Int) (x : (Option Nat) × Nat × (List Value) × Nat) => match s, x with | ⟨i_7, i_8, xs_9, i_10⟩, ⟨o_204, cap_205, sp_206, n_207⟩ => [⟨some A_b, 95, [(.slice B_a s0.fcode.length B_c), (.int .i64 i_7), (.int .u64 i_8)]⟩, ⟨some b_1, 27, [(.int .i16 0), (.slice none 0 0)]⟩, ⟨some b_3, 27, [(.int .i16 (w16 (w64 (4 + t_1.1)))), (.slice (o_204.map fun b => ⟨b, 0, none⟩) n_207 cap_205)]⟩, ⟨o_204, 92, row encGHammer xs_9 sp_206⟩]) ht_225 ⟨none, 0, [], 0⟩ ⟨rfl, (fun e => absurd rfl e), (fun _ => ⟨rfl, rfl⟩)⟩ (by kernel_rfl) [0, 1, 2, 3] (by kernel_rfl) (by kernel_rfl) ?_)
   rintro ⟨i_7, i_8, xs_9, i_10⟩ ⟨o_204, cap_205, sp_206, n_207⟩ y_211 ⟨rfl, hs_208, ho_209⟩ h
   rw [spec_l02FrameDrawn.l_11] at h
   refine jc_seq (jc_seq (jc_region (qh [0,0] (qe (jx_then (qi h (fun h => ?_) (fun h => ?_)))))))
   ·refine jc_skip (jx_then (jc_seq (jc_block (jc_seq (jc_region (qh [0] ?_))))))
    obtain ⟨t_13, ht_214, h⟩ := bd h
    refine tO (pc 0 (fun w hm => spec_l00Src_pick.calls (⟨s0.fcode, i_7, i_8⟩ : Gl00Src) 4 w _ B_c (hm.exRowW B_h B_ha) rfl A_b (hm.pass (N := [⟨some A_b, 95, [(.slice B_a s0.fcode.length B_c), (.int .i64 i_7), (.int .u64 i_8)]⟩]) [0] (by kernel_rfl) (by kernel_rfl)) (hm.exApart (N := [⟨some A_b, 95, [(.slice B_a s0.fcode.length B_c), (.int .i64 i_7), (.int .u64 i_8)]⟩]) B_h B_ha [0] (by kernel_rfl)) ht_214) ?_)
    rintro w v w' hm ⟨rfl, hm'⟩
    refine ⟨_, hm.appW (ps := [(0, ⟨some A_b, 95, [(.slice B_a s0.fcode.length B_c), (.int .i64 t_13.2.fat), (.int .u64 t_13.2.fseed)]⟩)]) (N := []) hm' (by kernel_rfl) (by kernel_rfl), jkO ?_⟩
    clear hm hm'
    refine qh [0,0,0] (tO (qa 0 (fun b_215 => jkO (tO (qs 0 [4] (jkO (qe (jx_then (jc_seq (jc_region (qh [0] ?_)))))))))))
    obtain ⟨t_14, ht_216, h⟩ := bd h
    refine tO (pc 0 (fun w hm => spec_l00Src_pick.calls (⟨s0.fcode, t_13.2.fat, t_13.2.fseed⟩ : Gl00Src) 4 w _ B_c (hm.exRowW B_h B_ha) rfl A_b (hm.pass (N := [⟨some A_b, 95, [(.slice B_a s0.fcode.length B_c), (.int .i64 t_13.2.fat), (.int .u64 t_13.2.fseed)]⟩]) [0] (by kernel_rfl) (by kernel_rfl)) (hm.exApart (N := [⟨some A_b, 95, [(.slice B_a s0.fcode.length B_c), (.int .i64 t_13.2.fat), (.int .u64 t_13.2.fseed)]⟩]) B_h B_ha [0] (by kernel_rfl)) ht_216) ?_)
    rintro w v w' hm ⟨rfl, hm'⟩
    refine ⟨_, hm.appW (ps := [(0, ⟨some A_b, 95, [(.slice B_a s0.fcode.length B_c), (.int .i64 t_14.2.fat), (.int .u64 t_14.2.fseed)]⟩)]) (N := []) hm' (by kernel_rfl) (by kernel_rfl), jkO ?_⟩
    clear hm hm'
    refine qh [0,0,0] (tO (qs 0 [4] (jkO (qe (jx_then (jc_region (qh [0,2,4] (tO (qa 0 (fun b_217 => jkO ?_))))))))))
    obtain ⟨hg_218, h⟩ := gd h
    exact tO (p_apn 0 3 o_204 92 xs_9.length 1 cap_205 2 2 (some ⟨b_217, 0, none⟩) encGHammer xs_9 ([(⟨(w8 (w64 (22 + t_13.1))), (w8 (w64 (1 + t_14.1)))⟩ : GHammer)] : List GHammer) sp_206 (.agg #[(.int .i8 0), (.int .i8 0)]) rfl rfl (by kernel_rfl) (by kernel_rfl) (by kernel_rfl) encGHammer_len encGHammer_cell hs_208 ho_209 (fun w hm => (hm.ow 5 (some b_217) 92 ([(⟨(w8 (w64 (22 + t_13.1))), (w8 (w64 (1 + t_14.1)))⟩ : GHammer)] : List GHammer) [] (fun e => nomatch e) encGHammer_len)) hg_218 (by kernel_rfl) (by kernel_rfl) (fun o_219 cap_220 sp_221 hs_222 ho_223 => jkO (qh [0] (tO (qs 0 [2] (jkO (qe (jx_inn (jx_then (jc_region (qh [0,0,0] (qe (qb (t_14.2.fat, t_14.2.fseed, (xs_9 ++ ([(⟨(w8 (w64 (22 + t_13.1))), (w8 (w64 (1 + t_14.1)))⟩ : GHammer)] : List GHammer)), (w64 (i_10 - 1))) ⟨o_219, cap_220, sp_221, (xs_9 ++ ([(⟨(w8 (w64 (22 + t_13.1))), (w8 (w64 (1 + t_14.1)))⟩ : GHammer)] : List GHammer)).length⟩ h ⟨rfl, hs_222, ho_223⟩ [0, 1, 2, 3])))))))))))))
   ·refine jc_exit (jx_thenx (jx_leave (i_7, i_8, xs_9) (Option.some.inj h).symm (fun e_224 => ?_)))
    subst e_224
    exact jx_ine (qm ⟨i_7, i_8, xs_9, o_204, cap_205, sp_206, xs_9.length⟩ ⟨hr_210, rfl, hs_208, ho_209⟩ [0, 1, 2, 3])
  ·rintro ⟨i_3, i_4, xs_5, o_168, cap_169, sp_170, n_171⟩ ⟨h, rfl, hs_172, ho_173⟩
   replace h : spec_l02FrameDrawn.k_6 s0 t_1 i_3 i_4 xs_5 = some r := h
   rw [spec_l02FrameDrawn.k_6] at h
   refine jx_then (jc_seq (jc_region (qh [2] (tO (qs 0 [1] (jkO (qe (jx_then (jc_ret ?_)))))))))
   obtain rfl := Option.some.inj h
   exact qr [1] (fun w hm => ⟨o_168, cap_169, sp_170, xs_5.length, rfl, hs_172, ho_173, rfl, hm.pk [0, 3]⟩)
/-! ### spec.A2Frame -/
def spec_A2Frame (code0 : List Int) : Option (GFrame) := (spec_l00From code0).bind fun t_1 => (spec_l02FrameDrawn (⟨code0, t_1.fat, t_1.fseed⟩ : Gl00Src)).bind fun t_2 => some t_2.1
theorem spec_A2Frame.calls (code0 : List Int) (w : World) (r : GFrame) {A_a : Option Addr} {A_an : Nat} (A_c : Nat) (A_h : Rw w A_a 1 encU8 code0) (A_hn : code0.length = A_an) (h : spec_A2Frame code0 = some r) :
    Calls Tryz.prog 5 #[(.slice A_a A_an A_c)] w fun e w' => ∃ v, e = .returned v ∧ (∃ (o0 : Option Nat) (c0 : Nat) (s0 : List Value) (n0 : Nat), r.fHammers.length = n0 ∧ (o0 ≠ none → n0 ≤ c0 ∧ s0.length = (c0 - n0) * 2) ∧ (o0 = none → r.fHammers = [] ∧ c0 = 0) ∧ v = .agg #[(.int .i16 r.fSteps), .slice (o0.map fun b => ⟨b, 0, none⟩) n0 c0] ∧ Mem w [] [⟨o0, 92, row encGHammer r.fHammers s0⟩] w') := by
  subst A_hn
  rw [spec_A2Frame] at h
  refine enter (args := [(.slice A_a code0.length A_c)]) Tryz.func5 rfl Tryz.ntmps5 (by kernel_rfl) (L := []) (W := []) (Mem.start w) ?_
  refine jc_seq (jc_region (tO (qa 0 (fun b_1 => jkO (qe (jx_then (jc_seq (jc_region (qh [0] ?_)))))))))
  obtain ⟨t_1, ht_2, h⟩ := bd h
  refine tO (pc 0 (fun w hm => spec_l00From.calls code0 w _ A_c (hm.xr A_h) rfl ht_2) ?_)
  rintro w v w' hm ⟨b_3, rfl, hm'⟩
  refine ⟨_, hm.app hm', jkO ?_⟩
  clear hm hm'
  obtain ⟨t_2, ht_4, h⟩ := bd h
  refine tO (pc 0 (fun w hm => spec_l02FrameDrawn.calls (⟨code0, t_1.fat, t_1.fseed⟩ : Gl00Src) w _ A_c (hm.xr A_h) rfl b_3 (hm.pass (N := [⟨some b_3, 95, [(.slice A_a code0.length A_c), (.int .i64 t_1.fat), (.int .u64 t_1.fseed)]⟩]) [1] (by kernel_rfl) (by kernel_rfl)) (hm.exApart (N := [⟨some b_3, 95, [(.slice A_a code0.length A_c), (.int .i64 t_1.fat), (.int .u64 t_1.fseed)]⟩]) A_h (fun _ => List.not_mem_nil) [1] (by kernel_rfl)) ht_4) ?_)
  rintro w v w' hm ⟨o_5, cap_6, sp_7, _, rfl, hs_8, ho_9, rfl, hm'⟩
  refine ⟨_, hm.appW (ps := [(1, ⟨some b_3, 95, [(.slice A_a code0.length A_c), (.int .i64 t_2.2.fat), (.int .u64 t_2.2.fseed)]⟩)]) (N := [⟨o_5, 92, row encGHammer t_2.1.fHammers sp_7⟩]) hm' (by kernel_rfl) (by kernel_rfl), jkO ?_⟩
  clear hm hm'
  refine tO (qs 0 [0] (jkO (qe (jx_then (jc_ret ?_)))))
  obtain rfl := Option.some.inj h
  exact qr [0] (fun w hm => ⟨o_5, cap_6, sp_7, t_2.1.fHammers.length, rfl, hs_8, ho_9, rfl, hm.pk [2]⟩)
/-! ### (*spec.l00Src).one -/
def spec_l00Src_one (s0 : Gl00Src) (n1 : Int) : Option (Bool × Gl00Src) := (spec_l00Src_pick s0 n1).bind fun t_1 => some ((t_1.1 == 0), (⟨s0.fcode, t_1.2.fat, t_1.2.fseed⟩ : Gl00Src))
theorem spec_l00Src_one.calls (s0 : Gl00Src) (n1 : Int) (w : World) (r : Bool × Gl00Src) {B_a : Option Addr} {B_an : Nat} (B_c : Nat) (B_h : Rw w B_a 1 encU8 s0.fcode) (B_hn : s0.fcode.length = B_an) (A_b : Nat) (hm0 : Mem w (bs [some A_b]) [⟨some A_b, 95, [(.slice B_a B_an B_c), (.int .i64 s0.fat), (.int .u64 s0.fseed)]⟩] w) (B_ha : s0.fcode ≠ [] → aB B_a ∉ bs [some A_b]) (h : spec_l00Src_one s0 n1 = some r) :
    Calls Tryz.prog 50 #[(.pointer (some ⟨A_b, 0, none⟩)), (.int .i64 n1)] w fun e w' => ∃ v, e = .returned v ∧ (v = (.bool r.1) ∧ Mem w (bs [some A_b]) [⟨some A_b, 95, [(.slice B_a B_an B_c), (.int .i64 r.2.fat), (.int .u64 r.2.fseed)]⟩] w') := by
  subst B_hn
  rw [spec_l00Src_one] at h
  refine enter (args := [(.pointer (some ⟨A_b, 0, none⟩)), (.int .i64 n1)]) Tryz.func50 rfl Tryz.ntmps50 (by kernel_rfl) (L := [⟨some A_b, 95, [(.slice B_a s0.fcode.length B_c), (.int .i64 s0.fat), (.int .u64 s0.fseed)]⟩]) (W := bs [some A_b]) hm0 ?_
  refine jc_seq (jc_region (qh [0] (qe (jx_then (jc_seq (jc_region (qh [0,0] ?_)))))))
  obtain ⟨t_1, ht_1, h⟩ := bd h
  refine tO (pc 0 (fun w hm => spec_l00Src_pick.calls s0 n1 w _ B_c (hm.exRowW B_h B_ha) rfl A_b (hm.pass (N := [⟨some A_b, 95, [(.slice B_a s0.fcode.length B_c), (.int .i64 s0.fat), (.int .u64 s0.fseed)]⟩]) [0] (by kernel_rfl) (by kernel_rfl)) (hm.exApart (N := [⟨some A_b, 95, [(.slice B_a s0.fcode.length B_c), (.int .i64 s0.fat), (.int .u64 s0.fseed)]⟩]) B_h B_ha [0] (by kernel_rfl)) ht_1) ?_)
  rintro w v w' hm ⟨rfl, hm'⟩
  refine ⟨_, hm.appW (ps := [(0, ⟨some A_b, 95, [(.slice B_a s0.fcode.length B_c), (.int .i64 t_1.2.fat), (.int .u64 t_1.2.fseed)]⟩)]) (N := []) hm' (by kernel_rfl) (by kernel_rfl), jkO ?_⟩
  clear hm hm'
  refine qh [0,0] (qe (jx_then (jc_ret ?_)))
  obtain rfl := Option.some.inj h
  exact qr [] (fun w hm => ⟨rfl, hm.pk [0]⟩)
/-! ### spec.l02Pin -/
def spec_l02Pin (d0 : Arr 96 Int) (step1 : Int) (track2 : Int) : Option (Bool) := (ix d0.1 step1).bind fun x_1 => (if 0 ≤ (u64 track2) then some ((Int.tmod (bShr .u32 x_1 (u64 track2)) 2) == 1) else none)
theorem spec_l02Pin.calls (d0 : Arr 96 Int) (step1 : Int) (track2 : Int) (w : World) (r : Bool) {A_b A_q : Nat} (A_h : Rw w (some ⟨A_b, A_q, none⟩) 1 encU32 d0.1) (h : spec_l02Pin d0 step1 track2 = some r) :
    Calls Tryz.prog 76 #[(.pointer (some ⟨A_b, A_q, none⟩)), (.int .i64 step1), (.int .i64 track2)] w fun e w' => ∃ v, e = .returned v ∧ (v = (.bool r) ∧ Mem w [] [] w') := by
  rw [spec_l02Pin] at h
  refine enter (args := [(.pointer (some ⟨A_b, A_q, none⟩)), (.int .i64 step1), (.int .i64 track2)]) Tryz.func76 rfl Tryz.ntmps76 (by kernel_rfl) (L := []) (W := []) (Mem.start w) ?_
  refine jc_seq (jc_region (qh [0] (qe (jx_then (jc_seq (jc_region (qh [0,0,0] ?_)))))))
  obtain ⟨x_1, hx_1, h⟩ := bd h
  refine tO (qx 0 (some ⟨A_b, A_q, none⟩) 1 hx_1 d0.2 (A_h.sp hx_1) (jkO (tO (ql 0 false (fun w hm => ((hm.xr A_h).at hx_1)) (jkO (qh [0,0] ?_))))))
  obtain ⟨hg_2, h⟩ := gd h
  refine tO (p_shr 0 .u32 x_1 .u64 (u64 track2) (by kernel_rfl) (by kernel_rfl) hg_2 (jkO (qh [0,0,0] (qe (jx_then (jc_ret ?_))))))
  obtain rfl := Option.some.inj h
  exact qr [] (fun w hm => ⟨rfl, hm.pk []⟩)
/-! ### spec.l02Free -/
def spec_l02Free.k_3 : Option (Bool) := some true
def spec_l02Free.k_8 (i_4 : Int) (q_7 : Bool) : Option ((Int) ⊕ (Bool ⊕ Unit)) := (if q_7 = true then some (.inr (.inl false)) else some (.inl (w64 (i_4 + 1))))
def spec_l02Free.l_5 (f0 : GFrame) (d1 : Arr 96 Int) (step2 : Int) (track3 : Int) (x_2 : GHammer) : Int → Option ((Int) ⊕ (Bool ⊕ Unit))
  | i_4 => (if (decide (i_4 < (w64 x_2.fReady))) = true then (if (w64 f0.fSteps) ≠ 0 then (spec_l02Pin d1 (Int.tmod (w64 (step2 + i_4)) (w64 f0.fSteps)) track3).bind fun t_9 => (if t_9 = true then spec_l02Free.k_8 i_4 true else (if (w64 f0.fSteps) ≠ 0 then (spec_l02Pin d1 (Int.tmod (w64 ((w64 (step2 + (w64 f0.fSteps))) - i_4)) (w64 f0.fSteps)) track3).bind fun t_10 => spec_l02Free.k_8 i_4 t_10 else none)) else none) else some (.inr (.inr ())))
def spec_l02Free (f0 : GFrame) (d1 : Arr 96 Int) (step2 : Int) (track3 : Int) : Option (Bool) := (spec_l02Pin d1 step2 track3).bind fun t_1 => (if t_1 = true then some false else (ix f0.fHammers track3).bind fun x_2 => (loop (spec_l02Free.l_5 f0 d1 step2 track3 x_2) 1).bind fun t_6 => match t_6 with | .inl p => some p | .inr p => spec_l02Free.k_3)
theorem spec_l02Free.calls (f0 : GFrame) (d1 : Arr 96 Int) (step2 : Int) (track3 : Int) (w : World) (r : Bool) {C_a : Option Addr} {C_an : Nat} (C_c : Nat) (C_h : Rw w C_a 2 encGHammer f0.fHammers) (C_hn : f0.fHammers.length = C_an) {D_b D_q : Nat} (D_h : Rw w (some ⟨D_b, D_q, none⟩) 1 encU32 d1.1) (A_b : Nat) (hm0 : Mem w (bs [some A_b]) [⟨some A_b, 27, [(.int .i16 f0.fSteps), (.slice C_a C_an C_c)]⟩] w) (C_ha : f0.fHammers ≠ [] → aB C_a ∉ bs [some A_b]) (D_ha : d1.1 ≠ [] → aB (some ⟨D_b, D_q, none⟩) ∉ bs [some A_b]) (h : spec_l02Free f0 d1 step2 track3 = some r) :
    Calls Tryz.prog 51 #[(.pointer (some ⟨A_b, 0, none⟩)), (.pointer (some ⟨D_b, D_q, none⟩)), (.int .i64 step2), (.int .i64 track3)] w fun e w' => ∃ v, e = .returned v ∧ (v = (.bool r) ∧ Mem w (bs [some A_b]) [⟨some A_b, 27, [(.int .i16 f0.fSteps), (.slice C_a C_an C_c)]⟩] w') := by
  subst C_hn
  rw [spec_l02Free] at h
  refine enter (args := [(.pointer (some ⟨A_b, 0, none⟩)), (.pointer (some ⟨D_b, D_q, none⟩)), (.int .i64 step2), (.int .i64 track3)]) Tryz.func51 rfl Tryz.ntmps51 (by kernel_rfl) (L := [⟨some A_b, 27, [(.int .i16 f0.fSteps), (.slice C_a f0.fHammers.length C_c)]⟩]) (W := bs [some A_b]) hm0 ?_
  refine jc_seq (jc_region (qh [0] (qe (jx_then (jc_seq (jc_seq (jc_region (qh [0,0,0] ?_))))))))
  obtain ⟨t_1, ht_3, h⟩ := bd h
  refine tO (pc 0 (fun w hm => spec_l02Pin.calls d1 step2 track3 w _ (hm.exRowW D_h D_ha) ht_3) ?_)
  rintro w v w' hm ⟨rfl, hm'⟩
  refine ⟨_, hm.app hm', jkO ?_⟩
  clear hm hm'
  refine qe (jx_then (qi h (fun h => ?_) (fun h => ?_)))
  ·refine jc_seq (jc_region (qh [0] (qe (jx_then (jc_ret (jx_thenr ?_))))))
   obtain rfl := Option.some.inj h
   exact qr [] (fun w hm => ⟨rfl, hm.pk [0]⟩)
  ·refine jc_skip (jx_then (jc_seq (jc_region (qh [0,0,0,0,0,0] (qe (jx_then (jc_seq (jc_region (qh [0,0,0,0,0] ?_)))))))))
   obtain ⟨x_2, hx_5, h⟩ := bd h
   refine tO (qx 0 C_a 2 hx_5 rfl (C_h.sp hx_5) (jkO (qh [0] (tO (ql 0 false (fun w hm => (((hm.exRowW C_h C_ha).at hx_5).sub 1 1)) (jkO (qh [0,0] (qe (jx_then (jc_seq (jc_seq (jc_region (qh [0] (qe (jx_then (jc_meet (fun (_ : Unit) => spec_l02Free.k_3 = some r) (fun (_ : Unit) => [(8, [], (.bool false))]) (fun (_ : Unit) => [⟨some A_b, 27, [(.int .i16 f0.fSteps), (.slice C_a f0.fHammers.length C_c)]⟩]) ?_ ?_))))))))))))))))
   ·refine jc_block ?_
    obtain ⟨t_6, ht_93, hr_76⟩ := bd h
    refine jc_loop (fun (s : Int) (x : Unit) => match s, x with | i_4, _ => True) (fun (s : Int) (x : Unit) => match s, x with | i_4, _ => [(1, [], (.pointer (some ⟨D_b, D_q, none⟩))), (2, [], (.int .i64 step2)), (3, [], (.int .i64 track3)), (8, [], (.bool false)), (9, [], (.int .i64 (w64 f0.fSteps))), (10, [], (.int .i64 (w64 x_2.fReady))), (11, [], (.int .i64 i_4))]) (fun (s : Int) (x : Unit) => match s, x with | i_4, _ => [⟨some A_b, 27, [(.int .i16 f0.fSteps), (.slice C_a f0.fHammers.length C_c)]⟩]) ht_93 () trivial (by kernel_rfl) [0] (by kernel_rfl) (by kernel_rfl) ?_
    rintro i_4 _ y_77 _ h
    rw [spec_l02Free.l_5] at h
    refine jc_seq (jc_seq (jc_region (qh [0,0,0] (qe (jx_then (qi h (fun h => ?_) (fun h => ?_)))))))
    ·refine jc_skip (jx_then (jc_seq (jc_block (jc_seq (jc_meet (fun (j : Bool) => match j with | q_7 => spec_l02Free.k_8 i_4 q_7 = some y_77) (fun (j : Bool) => match j with | q_7 => [(1, [], (.pointer (some ⟨D_b, D_q, none⟩))), (2, [], (.int .i64 step2)), (3, [], (.int .i64 track3)), (8, [], (.bool false)), (9, [], (.int .i64 (w64 f0.fSteps))), (10, [], (.int .i64 (w64 x_2.fReady))), (11, [], (.int .i64 i_4)), (54, [], (.bool q_7))]) (fun (j : Bool) => match j with | q_7 => [⟨some A_b, 27, [(.int .i16 f0.fSteps), (.slice C_a f0.fHammers.length C_c)]⟩]) ?_ ?_)))))
     ·refine jc_region (qh [0,0,0,0,0] ?_)
      obtain ⟨hg_87, h⟩ := gd h
      refine tO (p_rem 0 .i64 (w64 (step2 + i_4)) (w64 f0.fSteps) (by kernel_rfl) (by kernel_rfl) hg_87 (jkO (qh [0] ?_)))
      obtain ⟨t_9, ht_88, h⟩ := bd h
      refine tO (pc 0 (fun w hm => spec_l02Pin.calls d1 (Int.tmod (w64 (step2 + i_4)) (w64 f0.fSteps)) track3 w _ (hm.exRowW D_h D_ha) ht_88) ?_)
      rintro w v w' hm ⟨rfl, hm'⟩
      refine ⟨_, hm.app hm', jkO ?_⟩
      clear hm hm'
      refine qf [(0, 0), (0, 1), (0, 1), (0, 1), (0, 1), (0, 1), (0, 1), (0, 1)] (qp 43 h (fun h => ?_) (fun h => ?_))
      ·exact qf [(0, 3), (0, 3), (0, 3), (0, 4)] (qe (qm true h [0]))
      ·obtain ⟨hg_90, h⟩ := gd h
       refine tO (p_rem 2 .i64 (w64 ((w64 (step2 + (w64 f0.fSteps))) - i_4)) (w64 f0.fSteps) (by kernel_rfl) (by kernel_rfl) hg_90 (jkO (qf [(0, 2)] ?_)))
       obtain ⟨t_10, ht_91, h⟩ := bd h
       refine tO (pc 2 (fun w hm => spec_l02Pin.calls d1 (Int.tmod (w64 ((w64 (step2 + (w64 f0.fSteps))) - i_4)) (w64 f0.fSteps)) track3 w _ (hm.exRowW D_h D_ha) ht_91) ?_)
       rintro w v w' hm ⟨rfl, hm'⟩
       refine ⟨_, hm.app hm', jkO ?_⟩
       clear hm hm'
       exact qf [(0, 5)] (qe (qm t_10 h [0]))
     ·rintro q_7 h
      replace h : spec_l02Free.k_8 i_4 q_7 = some y_77 := h
      rw [spec_l02Free.k_8] at h
      refine jx_then (qi h (fun h => ?_) (fun h => ?_))
      ·refine jc_seq (jc_region (qh [0] (qe (jx_then (jc_ret (jx_inr (jx_thenr (jx_leaver (.inl false) (Option.some.inj h).symm (fun e_86 => ?_)))))))))
       subst e_86
       refine jx_inr (jx_thenr (jx_thenr ?_))
       obtain rfl := Option.some.inj hr_76
       exact qr [] (fun w hm => ⟨rfl, hm.pk [0]⟩)
      ·exact jc_skip (jx_inn (jx_then (jc_region (qh [0,0,0] (qe (qb (w64 (i_4 + 1)) () h trivial [0]))))))
    ·refine jc_exit (jx_thenx (jx_leave (.inr ()) (Option.some.inj h).symm (fun e_92 => ?_)))
     subst e_92
     exact jx_ine (qm () hr_76 [0])
   ·rintro _ h
    replace h : spec_l02Free.k_3 = some r := h
    rw [spec_l02Free.k_3] at h
    refine jx_then (jc_seq (jc_region (qh [0] (qe (jx_then (jc_ret ?_))))))
    obtain rfl := Option.some.inj h
    exact qr [] (fun w hm => ⟨rfl, hm.pk [0]⟩)
/-! ### spec.l02Drawn -/
def spec_l02Drawn.k_6 (s0 : Gl00Src) (a_3 : Arr 96 Int) (i_4 : Int) (i_5 : Int) : Option ((Arr 96 Int) × Gl00Src) := some (a_3, (⟨s0.fcode, i_4, i_5⟩ : Gl00Src))
def spec_l02Drawn.k_16 (a_7 : Arr 96 Int) (i_10 : Int) (t_13 : Int × Gl00Src) (t_14 : Int × Gl00Src) (q_15 : Bool) : Option (((Arr 96 Int) × Int × Int × Int) ⊕ (((Arr 96 Int) × Int × Int))) := (if q_15 = true then (ix a_7.1 t_13.1).bind fun x_17 => (if 0 ≤ (u64 t_14.1) then (ix a_7.1 t_13.1).bind fun x_18 => some (.inl ((Arr.set a_7 t_13.1 (bOr .u32 x_17 (bShl .u32 1 (u64 t_14.1)))), t_14.2.fat, t_14.2.fseed, (w64 (i_10 - 1)))) else none) else some (.inl (a_7, t_14.2.fat, t_14.2.fseed, (w64 (i_10 - 1)))))
def spec_l02Drawn.l_11 (s0 : Gl00Src) (f1 : GFrame) (t_1 : Bool × Gl00Src) : ((Arr 96 Int) × Int × Int × Int) → Option (((Arr 96 Int) × Int × Int × Int) ⊕ (((Arr 96 Int) × Int × Int)))
  | (a_7, i_8, i_9, i_10) => (if (decide (i_10 > 0)) = true then (spec_l00Src_pick (⟨s0.fcode, i_8, i_9⟩ : Gl00Src) (w64 f1.fSteps)).bind fun t_13 => (spec_l00Src_pick (⟨s0.fcode, t_13.2.fat, t_13.2.fseed⟩ : Gl00Src) (f1.fHammers.length : Int)).bind fun t_14 => (if t_1.1 = true then spec_l02Drawn.k_16 a_7 i_10 t_13 t_14 true else (spec_l02Free f1 a_7 t_13.1 t_14.1).bind fun t_19 => spec_l02Drawn.k_16 a_7 i_10 t_13 t_14 t_19) else some (.inr (a_7, i_8, i_9)))
def spec_l02Drawn (s0 : Gl00Src) (f1 : GFrame) : Option ((Arr 96 Int) × Gl00Src) := (spec_l00Src_one s0 4).bind fun t_1 => (spec_l00Src_pick (⟨s0.fcode, t_1.2.fat, t_1.2.fseed⟩ : Gl00Src) 12).bind fun t_2 => (loop (spec_l02Drawn.l_11 s0 f1 t_1) ((Arr.rep 96 0), t_2.2.fat, t_2.2.fseed, t_2.1)).bind fun t_12 => spec_l02Drawn.k_6 s0 t_12.1 t_12.2.1 t_12.2.2
theorem spec_l02Drawn.calls (s0 : Gl00Src) (f1 : GFrame) (w : World) (r : (Arr 96 Int) × Gl00Src) {B_a : Option Addr} {B_an : Nat} (B_c : Nat) (B_h : Rw w B_a 1 encU8 s0.fcode) (B_hn : s0.fcode.length = B_an) {G_a : Option Addr} {G_an : Nat} (G_c : Nat) (G_h : Rw w G_a 2 encGHammer f1.fHammers) (G_hn : f1.fHammers.length = G_an) (A_b : Nat) (E_b : Nat) (hm0 : Mem w (bs [some A_b, some E_b]) [⟨some A_b, 95, [(.slice B_a B_an B_c), (.int .i64 s0.fat), (.int .u64 s0.fseed)]⟩, ⟨some E_b, 27, [(.int .i16 f1.fSteps), (.slice G_a G_an G_c)]⟩] w) (B_ha : s0.fcode ≠ [] → aB B_a ∉ bs [some A_b, some E_b]) (G_ha : f1.fHammers ≠ [] → aB G_a ∉ bs [some A_b, some E_b]) (h : spec_l02Drawn s0 f1 = some r) :
    Calls Tryz.prog 24 #[(.pointer (some ⟨A_b, 0, none⟩)), (.pointer (some ⟨E_b, 0, none⟩))] w fun e w' => ∃ v, e = .returned v ∧ (v = (.agg (row encU32 r.1.1 []).toArray) ∧ Mem w (bs [some A_b, some E_b]) [⟨some A_b, 95, [(.slice B_a B_an B_c), (.int .i64 r.2.fat), (.int .u64 r.2.fseed)]⟩, ⟨some E_b, 27, [(.int .i16 f1.fSteps), (.slice G_a G_an G_c)]⟩] w') := by
  subst B_hn G_hn
  rw [spec_l02Drawn] at h
  refine enter (args := [(.pointer (some ⟨A_b, 0, none⟩)), (.pointer (some ⟨E_b, 0, none⟩))]) Tryz.func24 rfl Tryz.ntmps24 (by kernel_rfl) (L := [⟨some A_b, 95, [(.slice B_a s0.fcode.length B_c), (.int .i64 s0.fat), (.int .u64 s0.fseed)]⟩, ⟨some E_b, 27, [(.int .i16 f1.fSteps), (.slice G_a f1.fHammers.length G_c)]⟩]) (W := bs [some A_b, some E_b]) hm0 ?_
  refine jc_seq (jc_region (tO (qa 0 (fun b_1 => jkO (qe (jx_then (jc_seq (jc_region (qh [0] (tO (qa 0 (fun b_2 => jkO (tO (p_sA 0 3 b_2 96 1 31 encU32 (Arr.rep 96 0) (Arr.rep 96 0) (by kernel_rfl) (by kernel_rfl) (by kernel_rfl) encU32_len encU32_cell (by kernel_rfl) (jkO (qe (jx_then (jc_seq (jc_region (qh [0] ?_))))))))))))))))))))
  obtain ⟨t_1, ht_3, h⟩ := bd h
  refine tO (pc 0 (fun w hm => spec_l00Src_one.calls s0 4 w _ B_c (hm.exRowW B_h B_ha) rfl A_b (hm.pass (N := [⟨some A_b, 95, [(.slice B_a s0.fcode.length B_c), (.int .i64 s0.fat), (.int .u64 s0.fseed)]⟩]) [0] (by kernel_rfl) (by kernel_rfl)) (hm.exApart (N := [⟨some A_b, 95, [(.slice B_a s0.fcode.length B_c), (.int .i64 s0.fat), (.int .u64 s0.fseed)]⟩]) B_h B_ha [0] (by kernel_rfl)) ht_3) ?_)
  rintro w v w' hm ⟨rfl, hm'⟩
  refine ⟨_, hm.appW (ps := [(0, ⟨some A_b, 95, [(.slice B_a s0.fcode.length B_c), (.int .i64 t_1.2.fat), (.int .u64 t_1.2.fseed)]⟩)]) (N := []) hm' (by kernel_rfl) (by kernel_rfl), jkO ?_⟩
  clear hm hm'
  refine qh [0] (qe (jx_then (jc_seq (jc_seq (jc_region (qh [0] ?_))))))
  obtain ⟨t_2, ht_85, h⟩ := bd h
  refine tO (pc 0 (fun w hm => spec_l00Src_pick.calls (⟨s0.fcode, t_1.2.fat, t_1.2.fseed⟩ : Gl00Src) 12 w _ B_c (hm.exRowW B_h B_ha) rfl A_b (hm.pass (N := [⟨some A_b, 95, [(.slice B_a s0.fcode.length B_c), (.int .i64 t_1.2.fat), (.int .u64 t_1.2.fseed)]⟩]) [0] (by kernel_rfl) (by kernel_rfl)) (hm.exApart (N := [⟨some A_b, 95, [(.slice B_a s0.fcode.length B_c), (.int .i64 t_1.2.fat), (.int .u64 t_1.2.fseed)]⟩]) B_h B_ha [0] (by kernel_rfl)) ht_85) ?_)
  rintro w v w' hm ⟨rfl, hm'⟩
  refine ⟨_, hm.appW (ps := [(0, ⟨some A_b, 95, [(.slice B_a s0.fcode.length B_c), (.int .i64 t_2.2.fat), (.int .u64 t_2.2.fseed)]⟩)]) (N := []) hm' (by kernel_rfl) (by kernel_rfl), jkO ?_⟩
  clear hm hm'
  refine qh [0] (qe (jx_then (jc_meet (fun (j : (Arr 96 Int) × Int × Int) => match j with | ⟨a_3, i_4, i_5⟩ => spec_l02Drawn.k_6 s0 a_3 i_4 i_5 = some r) (fun (j : (Arr 96 Int) × Int × Int) => match j with | ⟨a_3, i_4, i_5⟩ => [(4, [], (.pointer (some ⟨b_1, 0, none⟩))), (5, [], (.pointer (some ⟨b_2, 0, none⟩)))]) (fun (j : (Arr 96 Int) × Int × Int) => match j with | ⟨a_3, i_4, i_5⟩ => [⟨some A_b, 95, [(.slice B_a s0.fcode.length B_c), (.int .i64 i_4), (.int .u64 i_5)]⟩, ⟨some E_b, 27, [(.int .i16 f1.fSteps), (.slice G_a f1.fHammers.length G_c)]⟩, ⟨(some b_1), 31, row encU32 ((Arr.rep 96 0).1) []⟩, ⟨(some b_2), 31, row encU32 a_3.1 []⟩]) ?_ ?_)))
  ·refine jc_block ?_
   obtain ⟨t_12, ht_165, hr_150⟩ := bd h
   refine jc_loop (fun (s : (Arr 96 Int) × Int × Int × Int) (x : Unit) => match s, x with | ⟨a_7, i_8, i_9, i_10⟩, _ => True) (fun (s : (Arr 96 Int) × Int × Int × Int) (x : Unit) => match s, x with | ⟨a_7, i_8, i_9, i_10⟩, _ => [(0, [], (.pointer (some ⟨A_b, 0, none⟩))), (1, [], (.pointer (some ⟨E_b, 0, none⟩))), (4, [], (.pointer (some ⟨b_1, 0, none⟩))), (5, [], (.pointer (some ⟨b_2, 0, none⟩))), (6, [], (.bool t_1.1)), (7, [], (.int .i64 i_10))]) (fun (s : (Arr 96 Int) × Int × Int × Int) (x : Unit) => match s, x with | ⟨a_7, i_8, i_9, i_10⟩, _ => [⟨some A_b, 95, [(.slice B_a s0.fcode.length B_c), (.int .i64 i_8), (.int .u64 i_9)]⟩, ⟨some E_b, 27, [(.int .i16 f1.fSteps), (.slice G_a f1.fHammers.length G_c)]⟩, ⟨(some b_1), 31, row encU32 ((Arr.rep 96 0).1) []⟩, ⟨(some b_2), 31, row encU32 a_7.1 []⟩]) ht_165 () trivial (by kernel_rfl) [0, 1, 2, 3] (by kernel_rfl) (by kernel_rfl) ?_
   rintro ⟨a_7, i_8, i_9, i_10⟩ _ y_151 _ h
   rw [spec_l02Drawn.l_11] at h
   refine jc_seq (jc_seq (jc_region (qh [0,0] (qe (jx_then (qi h (fun h => ?_) (fun h => ?_)))))))
   ·refine jc_skip (jx_then (jc_seq (jc_block (jc_seq (jc_region (qh [0,0,0,0,1,0] ?_))))))
    obtain ⟨t_13, ht_154, h⟩ := bd h
    refine tO (pc 0 (fun w hm => spec_l00Src_pick.calls (⟨s0.fcode, i_8, i_9⟩ : Gl00Src) (w64 f1.fSteps) w _ B_c (hm.exRowW B_h B_ha) rfl A_b (hm.pass (N := [⟨some A_b, 95, [(.slice B_a s0.fcode.length B_c), (.int .i64 i_8), (.int .u64 i_9)]⟩]) [0] (by kernel_rfl) (by kernel_rfl)) (hm.exApart (N := [⟨some A_b, 95, [(.slice B_a s0.fcode.length B_c), (.int .i64 i_8), (.int .u64 i_9)]⟩]) B_h B_ha [0] (by kernel_rfl)) ht_154) ?_)
    rintro w v w' hm ⟨rfl, hm'⟩
    refine ⟨_, hm.appW (ps := [(0, ⟨some A_b, 95, [(.slice B_a s0.fcode.length B_c), (.int .i64 t_13.2.fat), (.int .u64 t_13.2.fseed)]⟩)]) (N := []) hm' (by kernel_rfl) (by kernel_rfl), jkO ?_⟩
    clear hm hm'
    refine qh [0] (qe (jx_then (jc_seq (jc_region (qh [0,0,0,0,1,0] ?_)))))
    obtain ⟨t_14, ht_155, h⟩ := bd h
    refine tO (pc 0 (fun w hm => spec_l00Src_pick.calls (⟨s0.fcode, t_13.2.fat, t_13.2.fseed⟩ : Gl00Src) (f1.fHammers.length : Int) w _ B_c (hm.exRowW B_h B_ha) rfl A_b (hm.pass (N := [⟨some A_b, 95, [(.slice B_a s0.fcode.length B_c), (.int .i64 t_13.2.fat), (.int .u64 t_13.2.fseed)]⟩]) [0] (by kernel_rfl) (by kernel_rfl)) (hm.exApart (N := [⟨some A_b, 95, [(.slice B_a s0.fcode.length B_c), (.int .i64 t_13.2.fat), (.int .u64 t_13.2.fseed)]⟩]) B_h B_ha [0] (by kernel_rfl)) ht_155) ?_)
    rintro w v w' hm ⟨rfl, hm'⟩
    refine ⟨_, hm.appW (ps := [(0, ⟨some A_b, 95, [(.slice B_a s0.fcode.length B_c), (.int .i64 t_14.2.fat), (.int .u64 t_14.2.fseed)]⟩)]) (N := []) hm' (by kernel_rfl) (by kernel_rfl), jkO ?_⟩
    clear hm hm'
    refine qh [0] (qe (jx_then (jc_seq (jc_meet (fun (j : Bool) => match j with | q_15 => spec_l02Drawn.k_16 a_7 i_10 t_13 t_14 q_15 = some y_151) (fun (j : Bool) => match j with | q_15 => [(0, [], (.pointer (some ⟨A_b, 0, none⟩))), (1, [], (.pointer (some ⟨E_b, 0, none⟩))), (4, [], (.pointer (some ⟨b_1, 0, none⟩))), (5, [], (.pointer (some ⟨b_2, 0, none⟩))), (6, [], (.bool t_1.1)), (7, [], (.int .i64 i_10)), (8, [], (.int .i64 t_13.1)), (9, [], (.int .i64 t_14.1)), (39, [], (.bool q_15))]) (fun (j : Bool) => match j with | q_15 => [⟨some A_b, 95, [(.slice B_a s0.fcode.length B_c), (.int .i64 t_14.2.fat), (.int .u64 t_14.2.fseed)]⟩, ⟨some E_b, 27, [(.int .i16 f1.fSteps), (.slice G_a f1.fHammers.length G_c)]⟩, ⟨(some b_1), 31, row encU32 ((Arr.rep 96 0).1) []⟩, ⟨(some b_2), 31, row encU32 a_7.1 []⟩]) ?_ ?_))))
    ·refine jc_region (qf [(0, 0), (0, 0), (0, 1), (0, 1), (0, 1)] (qp 34 h (fun h => ?_) (fun h => ?_)))
     ·exact qf [(0, 3), (0, 4)] (qe (qm true h [0, 1, 2, 3]))
     ·obtain ⟨t_19, ht_163, h⟩ := bd h
      refine tO (pc 2 (fun w hm => spec_l02Free.calls f1 a_7 t_13.1 t_14.1 w _ G_c (hm.exRowW G_h G_ha) rfl (hm.ow 3 (some b_2) 31 a_7.1 [] (fun e => nomatch e) encU32_len) E_b (hm.pass (N := [⟨some E_b, 27, [(.int .i16 f1.fSteps), (.slice G_a f1.fHammers.length G_c)]⟩]) [1] (by kernel_rfl) (by kernel_rfl)) (hm.exApart (N := [⟨some E_b, 27, [(.int .i16 f1.fSteps), (.slice G_a f1.fHammers.length G_c)]⟩]) G_h G_ha [1] (by kernel_rfl)) (hm.ownApart (S := Int) (N := [⟨some E_b, 27, [(.int .i16 f1.fSteps), (.slice G_a f1.fHammers.length G_c)]⟩]) (hh := 3) (o := (some b_2)) (T := 31) (cs := row encU32 a_7.1 []) (xs := a_7.1) (by kernel_rfl) (fun e => nomatch e) [1] (by kernel_rfl) (by kernel_rfl)) ht_163) ?_)
      rintro w v w' hm ⟨rfl, hm'⟩
      refine ⟨_, hm.appW (ps := [(1, ⟨some E_b, 27, [(.int .i16 f1.fSteps), (.slice G_a f1.fHammers.length G_c)]⟩)]) (N := []) hm' (by kernel_rfl) (by kernel_rfl), jkO ?_⟩
      clear hm hm'
      exact qf [(0, 5)] (qe (qm t_19 h [0, 1, 2, 3]))
    ·rintro q_15 h
     replace h : spec_l02Drawn.k_16 a_7 i_10 t_13 t_14 q_15 = some y_151 := h
     rw [spec_l02Drawn.k_16] at h
     refine jx_then (qi h (fun h => ?_) (fun h => ?_))
     ·refine jc_region (qh [0,0] ?_)
      obtain ⟨x_17, hx_159, h⟩ := bd h
      refine tO (qx 0 (some ⟨b_2, 0, none⟩) 1 hx_159 a_7.2 rfl (jkO (tO (ql 0 false (fun w hm => ((hm.ow 3 (some b_2) 31 a_7.1 [] (fun e => nomatch e) encU32_len).at hx_159)) (jkO (qh [0,0] ?_))))))
      obtain ⟨hg_160, h⟩ := gd h
      refine tO (p_shl 0 .u32 1 .u64 (u64 t_14.1) (by kernel_rfl) (by kernel_rfl) hg_160 (jkO (qh [0] ?_)))
      obtain ⟨x_18, hx_161, h⟩ := bd h
      exact tO (qx 0 (some ⟨b_2, 0, none⟩) 1 hx_161 a_7.2 rfl (jkO (tO (p_str 0 3 b_2 31 encU32 a_7.1 [] t_13.1 (bOr .u32 x_17 (bShl .u32 1 (u64 t_14.1))) 1 0 [(.int .u32 (bOr .u32 x_17 (bShl .u32 1 (u64 t_14.1))))] (by kernel_rfl) (by kernel_rfl) (by kernel_rfl) encU32_len hx_161 (by kernel_rfl) (by kernel_rfl) (jkO (qe (jx_inn (jx_then (jc_region (qh [0,0,0] (qe (qb ((Arr.set a_7 t_13.1 (bOr .u32 x_17 (bShl .u32 1 (u64 t_14.1)))), t_14.2.fat, t_14.2.fseed, (w64 (i_10 - 1))) () h trivial [0, 1, 2, 3]))))))))))))
     ·exact jc_skip (jx_inn (jx_then (jc_region (qh [0,0,0] (qe (qb (a_7, t_14.2.fat, t_14.2.fseed, (w64 (i_10 - 1))) () h trivial [0, 1, 2, 3]))))))
   ·refine jc_exit (jx_thenx (jx_leave (a_7, i_8, i_9) (Option.some.inj h).symm (fun e_164 => ?_)))
    subst e_164
    exact jx_ine (qm ⟨a_7, i_8, i_9⟩ hr_150 [0, 1, 2, 3])
  ·rintro ⟨a_3, i_4, i_5⟩ h
   replace h : spec_l02Drawn.k_6 s0 a_3 i_4 i_5 = some r := h
   rw [spec_l02Drawn.k_6] at h
   refine jx_then (jc_seq (jc_region (tO (p_ldA 0 3 b_2 96 1 31 encU32 a_3 (by kernel_rfl) (by kernel_rfl) (by kernel_rfl) encU32_len (by kernel_rfl) (jkO (tO (p_sA 0 2 b_1 96 1 31 encU32 (Arr.rep 96 0) a_3 (by kernel_rfl) (by kernel_rfl) (by kernel_rfl) encU32_len encU32_cell (by kernel_rfl) (jkO (qe (jx_then (jc_ret ?_)))))))))))
   obtain rfl := Option.some.inj h
   exact jx_retV rfl (rq_arr (b := b_1) (T' := 31) (hh := 2) (mm := 1) encU32 a_3 (by kernel_rfl) (by kernel_rfl) encU32_len (by kernel_rfl) rq_nil) (fun w hm => ⟨rfl, hm.pk [0, 1]⟩)
/-! ### spec.A2Drum -/
def spec_A2Drum (code0 : List Int) (f1 : GFrame) : Option ((Arr 96 Int)) := (spec_l00From code0).bind fun t_1 => (spec_l02Drawn (⟨code0, t_1.fat, t_1.fseed⟩ : Gl00Src) f1).bind fun t_2 => some t_2.1
theorem spec_A2Drum.calls (code0 : List Int) (f1 : GFrame) (w : World) (r : (Arr 96 Int)) {A_a : Option Addr} {A_an : Nat} (A_c : Nat) (A_h : Rw w A_a 1 encU8 code0) (A_hn : code0.length = A_an) {D_a : Option Addr} {D_an : Nat} (D_c : Nat) (D_h : Rw w D_a 2 encGHammer f1.fHammers) (D_hn : f1.fHammers.length = D_an) (h : spec_A2Drum code0 f1 = some r) :
    Calls Tryz.prog 6 #[(.slice A_a A_an A_c), (.agg #[(.int .i16 f1.fSteps), (.slice D_a D_an D_c)])] w fun e w' => ∃ v, e = .returned v ∧ (v = (.agg (row encU32 r.1 []).toArray) ∧ Mem w [] [] w') := by
  subst A_hn D_hn
  rw [spec_A2Drum] at h
  refine enter (args := [(.slice A_a code0.length A_c), (.agg #[(.int .i16 f1.fSteps), (.slice D_a f1.fHammers.length D_c)])]) Tryz.func6 rfl Tryz.ntmps6 (by kernel_rfl) (L := []) (W := []) (Mem.start w) ?_
  refine jc_seq (jc_region (tO (qa 0 (fun b_1 => jkO (tO (qa 0 (fun b_2 => jkO (qe (jx_then (jc_seq (jc_region (qh [0] ?_))))))))))))
  obtain ⟨t_1, ht_3, h⟩ := bd h
  refine tO (pc 0 (fun w hm => spec_l00From.calls code0 w _ A_c (hm.xr A_h) rfl ht_3) ?_)
  rintro w v w' hm ⟨b_4, rfl, hm'⟩
  refine ⟨_, hm.app hm', jkO ?_⟩
  clear hm hm'
  obtain ⟨t_2, ht_5, h⟩ := bd h
  refine tO (pc 0 (fun w hm => spec_l02Drawn.calls (⟨code0, t_1.fat, t_1.fseed⟩ : Gl00Src) f1 w _ A_c (hm.xr A_h) rfl D_c (hm.xr D_h) rfl b_4 b_1 (hm.pass (N := [⟨some b_4, 95, [(.slice A_a code0.length A_c), (.int .i64 t_1.fat), (.int .u64 t_1.fseed)]⟩, ⟨some b_1, 27, [(.int .i16 f1.fSteps), (.slice D_a f1.fHammers.length D_c)]⟩]) [2, 0] (by kernel_rfl) (by kernel_rfl)) (hm.exApart (N := [⟨some b_4, 95, [(.slice A_a code0.length A_c), (.int .i64 t_1.fat), (.int .u64 t_1.fseed)]⟩, ⟨some b_1, 27, [(.int .i16 f1.fSteps), (.slice D_a f1.fHammers.length D_c)]⟩]) A_h (fun _ => List.not_mem_nil) [2, 0] (by kernel_rfl)) (hm.exApart (N := [⟨some b_4, 95, [(.slice A_a code0.length A_c), (.int .i64 t_1.fat), (.int .u64 t_1.fseed)]⟩, ⟨some b_1, 27, [(.int .i16 f1.fSteps), (.slice D_a f1.fHammers.length D_c)]⟩]) D_h (fun _ => List.not_mem_nil) [2, 0] (by kernel_rfl)) ht_5) ?_)
  rintro w v w' hm ⟨rfl, hm'⟩
  refine ⟨_, hm.appW (ps := [(2, ⟨some b_4, 95, [(.slice A_a code0.length A_c), (.int .i64 t_2.2.fat), (.int .u64 t_2.2.fseed)]⟩), (0, ⟨some b_1, 27, [(.int .i16 f1.fSteps), (.slice D_a f1.fHammers.length D_c)]⟩)]) (N := []) hm' (by kernel_rfl) (by kernel_rfl), jkO ?_⟩
  clear hm hm'
  refine tO (p_sA 0 1 b_2 96 1 31 encU32 (Arr.rep 96 0) t_2.1 (by kernel_rfl) (by kernel_rfl) (by kernel_rfl) encU32_len encU32_cell (by kernel_rfl) (jkO (qe (jx_then (jc_ret ?_)))))
  obtain rfl := Option.some.inj h
  exact jx_retV rfl (rq_arr (b := b_2) (T' := 31) (hh := 1) (mm := 1) encU32 t_2.1 (by kernel_rfl) (by kernel_rfl) encU32_len (by kernel_rfl) rq_nil) (fun w hm => ⟨rfl, hm.pk []⟩)
/-! ### impl.within -/
def impl_within (n0 : Int) (low1 : Int) (high2 : Int) : Option (Bool) := some ((decide (low1 ≤ n0)) && (decide (n0 ≤ high2)))
theorem impl_within.calls (n0 : Int) (low1 : Int) (high2 : Int) (w : World) (r : Bool) (h : impl_within n0 low1 high2 = some r) :
    Calls Tryz.prog 35 #[(.int .i64 n0), (.int .i64 low1), (.int .i64 high2)] w fun e w' => ∃ v, e = .returned v ∧ (v = (.bool r) ∧ Mem w [] [] w') := by
  rw [impl_within] at h
  refine enter (args := [(.int .i64 n0), (.int .i64 low1), (.int .i64 high2)]) Tryz.func35 rfl Tryz.ntmps35 (by kernel_rfl) (L := []) (W := []) (Mem.start w) ?_
  refine jc_seq (jc_region (qh [0] (qe (jx_then (jc_seq (jc_region (qf [(0, 0), (0, 0), (0, 0), (0, 0), (0, 1), (0, 1), (0, 1), (0, 0), (0, 0)] (qe (jx_then (jc_ret ?_))))))))))
  obtain rfl := Option.some.inj h
  exact qr [] (fun w hm => ⟨rfl, hm.pk []⟩)
/-! ### impl.size[impl.Hammer] -/
def impl_size_Hammer (list0 : List GHammer) : Option (Int) := some (list0.length : Int)
theorem impl_size_Hammer.calls (list0 : List GHammer) (w : World) (r : Int) {A_a : Option Addr} {A_an : Nat} (A_c : Nat) (A_h : Rw w A_a 2 encGHammer list0) (A_hn : list0.length = A_an) (h : impl_size_Hammer list0 = some r) :
    Calls Tryz.prog 93 #[(.slice A_a A_an A_c)] w fun e w' => ∃ v, e = .returned v ∧ (v = (.int .i64 r) ∧ Mem w [] [] w') := by
  subst A_hn
  rw [impl_size_Hammer] at h
  refine enter (args := [(.slice A_a list0.length A_c)]) Tryz.func93 rfl Tryz.ntmps93 (by kernel_rfl) (L := []) (W := []) (Mem.start w) ?_
  refine jc_seq (jc_region (qh [0] (qe (jx_then (jc_seq (jc_region (qh [0,0,0] (qe (jx_then (jc_ret ?_))))))))))
  obtain rfl := Option.some.inj h
  exact qr [] (fun w hm => ⟨rfl, hm.pk []⟩)
/-! ### impl.isPitch -/
def impl_isPitch (n0 : Int) : Option (Bool) := (impl_within n0 0 47).bind fun t_1 => some t_1
theorem impl_isPitch.calls (n0 : Int) (w : World) (r : Bool) (h : impl_isPitch n0 = some r) :
    Calls Tryz.prog 96 #[(.int .i64 n0)] w fun e w' => ∃ v, e = .returned v ∧ (v = (.bool r) ∧ Mem w [] [] w') := by
  rw [impl_isPitch] at h
  refine enter (args := [(.int .i64 n0)]) Tryz.func96 rfl Tryz.ntmps96 (by kernel_rfl) (L := []) (W := []) (Mem.start w) ?_
  refine jc_seq (jc_region (qh [0] (qe (jx_then (jc_seq (jc_region (qh [0] ?_)))))))
  obtain ⟨t_1, ht_1, h⟩ := bd h
  refine tO (pc 0 (fun w hm => impl_within.calls n0 0 47 w _ ht_1) ?_)
  rintro w v w' hm ⟨rfl, hm'⟩
  refine ⟨_, hm.app hm', jkO ?_⟩
  clear hm hm'
  refine qh [0] (qe (jx_then (jc_ret ?_)))
  obtain rfl := Option.some.inj h
  exact qr [] (fun w hm => ⟨rfl, hm.pk []⟩)
/-! ### impl.ValidFrame$1 -/
def impl_ValidFrame_1 (h0 : GHammer) (p1 : GFrame) : Option (Bool) := (impl_isPitch (w64 h0.fPitch)).bind fun t_1 => (if (!t_1) = true then some true else (impl_within (w64 h0.fReady) 1 (if (w64 p1.fSteps) < 20 then (w64 p1.fSteps) else 20)).bind fun t_2 => some (!t_2))
theorem impl_ValidFrame_1.calls (h0 : GHammer) (p1 : GFrame) (w : World) (r : Bool) {F_a : Option Addr} {F_an : Nat} (F_c : Nat) (F_h : Rw w F_a 2 encGHammer p1.fHammers) (F_hn : p1.fHammers.length = F_an) (D_b : Nat) (hm0 : Mem w (bs [some D_b]) [⟨some D_b, 27, [(.int .i16 p1.fSteps), (.slice F_a F_an F_c)]⟩] w) (F_ha : p1.fHammers ≠ [] → aB F_a ∉ bs [some D_b]) (h : impl_ValidFrame_1 h0 p1 = some r) :
    Calls Tryz.prog 95 #[(.agg #[(.int .i8 h0.fPitch), (.int .i8 h0.fReady)]), (.pointer (some ⟨D_b, 0, none⟩))] w fun e w' => ∃ v, e = .returned v ∧ (v = (.bool r) ∧ Mem w (bs [some D_b]) [⟨some D_b, 27, [(.int .i16 p1.fSteps), (.slice F_a F_an F_c)]⟩] w') := by
  subst F_hn
  rw [impl_ValidFrame_1] at h
  refine enter (args := [(.agg #[(.int .i8 h0.fPitch), (.int .i8 h0.fReady)]), (.pointer (some ⟨D_b, 0, none⟩))]) Tryz.func95 rfl Tryz.ntmps95 (by kernel_rfl) (L := [⟨some D_b, 27, [(.int .i16 p1.fSteps), (.slice F_a p1.fHammers.length F_c)]⟩]) (W := bs [some D_b]) hm0 ?_
  refine jc_seq (jc_region (tO (qa 0 (fun b_1 => jkO (qh [0] (qe (jx_then (jc_seq (jc_region (qh [0,1,0] ?_))))))))))
  obtain ⟨t_1, ht_2, h⟩ := bd h
  refine tO (pc 0 (fun w hm => impl_isPitch.calls (w64 h0.fPitch) w _ ht_2) ?_)
  rintro w v w' hm ⟨rfl, hm'⟩
  refine ⟨_, hm.app hm', jkO ?_⟩
  clear hm hm'
  refine qf [(0, 0), (0, 0), (0, 1), (1, 1), (0, 1), (0, 1), (0, 1), (0, 1), (0, 1)] (qp 9 h (fun h => ?_) (fun h => ?_))
  ·refine qf [(0, 3), (0, 3), (0, 4), (0, 0)] (qe (jx_then (jc_ret ?_)))
   obtain rfl := Option.some.inj h
   exact qr [] (fun w hm => ⟨rfl, hm.pk [0]⟩)
  ·obtain ⟨t_2, ht_4, h⟩ := bd h
   refine tO (pc 2 (fun w hm => impl_within.calls (w64 h0.fReady) 1 (if (w64 p1.fSteps) < 20 then (w64 p1.fSteps) else 20) w _ ht_4) ?_)
   rintro w v w' hm ⟨rfl, hm'⟩
   refine ⟨_, hm.app hm', jkO ?_⟩
   clear hm hm'
   refine qf [(0, 2), (0, 5), (0, 0)] (qe (jx_then (jc_ret ?_)))
   obtain rfl := Option.some.inj h
   exact qr [] (fun w hm => ⟨rfl, hm.pk [0]⟩)
/-! ### slices.IndexFunc[[]impl.Hammer,impl.Hammer] -/
def slices_IndexFunc_Hammer_at_impl_ValidFrame_1.k_1 : Option (Int) := some (-1)
def slices_IndexFunc_Hammer_at_impl_ValidFrame_1.l_3 (s0 : List GHammer) (g1c0 : GFrame) : Int → Option ((Int) ⊕ (Int ⊕ Unit))
  | i_2 => (if (decide (i_2 < (s0.length : Int))) = true then (ix s0 i_2).bind fun x_5 => (impl_ValidFrame_1 x_5 g1c0).bind fun t_6 => (if t_6 = true then some (.inr (.inl i_2)) else some (.inl (w64 (i_2 + 1)))) else some (.inr (.inr ())))
def slices_IndexFunc_Hammer_at_impl_ValidFrame_1 (s0 : List GHammer) (g1c0 : GFrame) : Option (Int) := (loop (slices_IndexFunc_Hammer_at_impl_ValidFrame_1.l_3 s0 g1c0) 0).bind fun t_4 => match t_4 with | .inl p => some p | .inr p => slices_IndexFunc_Hammer_at_impl_ValidFrame_1.k_1
theorem slices_IndexFunc_Hammer_at_impl_ValidFrame_1.calls (s0 : List GHammer) (g1c0 : GFrame) (w : World) (r : Int) {A_a : Option Addr} {A_an : Nat} (A_c : Nat) (A_h : Rw w A_a 2 encGHammer s0) (A_hn : s0.length = A_an) {D_a : Option Addr} {D_an : Nat} (D_c : Nat) (D_h : Rw w D_a 2 encGHammer g1c0.fHammers) (D_hn : g1c0.fHammers.length = D_an) (B_b : Nat) (hm0 : Mem w (bs [some B_b]) [⟨some B_b, 27, [(.int .i16 g1c0.fSteps), (.slice D_a D_an D_c)]⟩] w) (A_ha : s0 ≠ [] → aB A_a ∉ bs [some B_b]) (D_ha : g1c0.fHammers ≠ [] → aB D_a ∉ bs [some B_b]) (h : slices_IndexFunc_Hammer_at_impl_ValidFrame_1 s0 g1c0 = some r) :
    Calls Tryz.prog 118 #[(.slice A_a A_an A_c), (.func (.func 95) #[] #[(.pointer (some ⟨B_b, 0, none⟩))])] w fun e w' => ∃ v, e = .returned v ∧ (v = (.int .i64 r) ∧ Mem w (bs [some B_b]) [⟨some B_b, 27, [(.int .i16 g1c0.fSteps), (.slice D_a D_an D_c)]⟩] w') := by
  subst A_hn D_hn
  rw [slices_IndexFunc_Hammer_at_impl_ValidFrame_1] at h
  refine enter (args := [(.slice A_a s0.length A_c), (.func (.func 95) #[] #[(.pointer (some ⟨B_b, 0, none⟩))])]) Tryz.func118 rfl Tryz.ntmps118 (by kernel_rfl) (L := [⟨some B_b, 27, [(.int .i16 g1c0.fSteps), (.slice D_a g1c0.fHammers.length D_c)]⟩]) (W := bs [some B_b]) hm0 ?_
  refine jc_seq (jc_region (qh [0] (qe (jx_then (jc_seq (jc_seq (jc_region (qh [0,0,0] (qe (jx_then (jc_meet (fun (_ : Unit) => slices_IndexFunc_Hammer_at_impl_ValidFrame_1.k_1 = some r) (fun (_ : Unit) => [(4, [], (.int .i64 0))]) (fun (_ : Unit) => [⟨some B_b, 27, [(.int .i16 g1c0.fSteps), (.slice D_a g1c0.fHammers.length D_c)]⟩]) ?_ ?_)))))))))))
  ·refine jc_block ?_
   obtain ⟨t_4, ht_40, hr_31⟩ := bd h
   refine jc_loop (fun (s : Int) (x : Unit) => match s, x with | i_2, _ => True) (fun (s : Int) (x : Unit) => match s, x with | i_2, _ => [(0, [], (.slice A_a s0.length A_c)), (1, [], (.func (.func 95) #[] #[(.pointer (some ⟨B_b, 0, none⟩))])), (4, [], (.int .i64 0)), (7, [], (.int .i64 (s0.length : Int))), (8, [], (.int .i64 i_2))]) (fun (s : Int) (x : Unit) => match s, x with | i_2, _ => [⟨some B_b, 27, [(.int .i16 g1c0.fSteps), (.slice D_a g1c0.fHammers.length D_c)]⟩]) ht_40 () trivial (by kernel_rfl) [0] (by kernel_rfl) (by kernel_rfl) ?_
   rintro i_2 _ y_32 _ h
   rw [slices_IndexFunc_Hammer_at_impl_ValidFrame_1.l_3] at h
   refine jc_seq (jc_region (qh [0] (qe (jx_then (jc_seq (qi h (fun h => ?_) (fun h => ?_)))))))
   ·refine jc_skip (jx_then (jc_seq (jc_block (jc_seq (jc_region (qh [0,0] (qe (jx_then (jc_seq (jc_region (qh [0,0,0] ?_)))))))))))
    obtain ⟨x_5, hx_35, h⟩ := bd h
    refine tO (qx 0 A_a 2 hx_35 rfl (A_h.sp hx_35) (jkO (tO (ql 0 true (fun w hm => ((hm.exRowW A_h A_ha).at hx_35)) (jkO ?_)))))
    obtain ⟨t_6, ht_36, h⟩ := bd h
    refine tO (pc 0 (fun w hm => impl_ValidFrame_1.calls x_5 g1c0 w _ D_c (hm.exRowW D_h D_ha) rfl B_b (hm.pass (N := [⟨some B_b, 27, [(.int .i16 g1c0.fSteps), (.slice D_a g1c0.fHammers.length D_c)]⟩]) [0] (by kernel_rfl) (by kernel_rfl)) (hm.exApart (N := [⟨some B_b, 27, [(.int .i16 g1c0.fSteps), (.slice D_a g1c0.fHammers.length D_c)]⟩]) D_h D_ha [0] (by kernel_rfl)) ht_36) ?_)
    rintro w v w' hm ⟨rfl, hm'⟩
    refine ⟨_, hm.appW (ps := [(0, ⟨some B_b, 27, [(.int .i16 g1c0.fSteps), (.slice D_a g1c0.fHammers.length D_c)]⟩)]) (N := []) hm' (by kernel_rfl) (by kernel_rfl), jkO ?_⟩
    clear hm hm'
    refine qe (jx_then (qi h (fun h => ?_) (fun h => ?_)))
    ·refine jc_seq (jc_region (qh [0,0] (qe (jx_then (jc_ret (jx_inr (jx_thenr (jx_leaver (.inl i_2) (Option.some.inj h).symm (fun e_38 => ?_)))))))))
     subst e_38
     refine jx_inr (jx_thenr (jx_thenr ?_))
     obtain rfl := Option.some.inj hr_31
     exact qr [] (fun w hm => ⟨rfl, hm.pk [0]⟩)
    ·exact jc_skip (jx_inn (jx_then (jc_region (qh [0,0] (qe (qb (w64 (i_2 + 1)) () h trivial [0]))))))
   ·refine jc_exit (jx_thenx (jx_leave (.inr ()) (Option.some.inj h).symm (fun e_39 => ?_)))
    subst e_39
    exact jx_ine (qm () hr_31 [0])
  ·rintro _ h
   replace h : slices_IndexFunc_Hammer_at_impl_ValidFrame_1.k_1 = some r := h
   rw [slices_IndexFunc_Hammer_at_impl_ValidFrame_1.k_1] at h
   refine jx_then (jc_seq (jc_region (qh [0] (qe (jx_then (jc_ret ?_))))))
   obtain rfl := Option.some.inj h
   exact qr [] (fun w hm => ⟨rfl, hm.pk [0]⟩)
/-! ### slices.ContainsFunc[[]impl.Hammer,impl.Hammer] -/
def slices_ContainsFunc_Hammer_at_impl_ValidFrame_1 (s0 : List GHammer) (g1c0 : GFrame) : Option (Bool) := (slices_IndexFunc_Hammer_at_impl_ValidFrame_1 s0 g1c0).bind fun t_1 => some (decide (t_1 ≥ 0))
theorem slices_ContainsFunc_Hammer_at_impl_ValidFrame_1.calls (s0 : List GHammer) (g1c0 : GFrame) (w : World) (r : Bool) {A_a : Option Addr} {A_an : Nat} (A_c : Nat) (A_h : Rw w A_a 2 encGHammer s0) (A_hn : s0.length = A_an) {D_a : Option Addr} {D_an : Nat} (D_c : Nat) (D_h : Rw w D_a 2 encGHammer g1c0.fHammers) (D_hn : g1c0.fHammers.length = D_an) (B_b : Nat) (hm0 : Mem w (bs [some B_b]) [⟨some B_b, 27, [(.int .i16 g1c0.fSteps), (.slice D_a D_an D_c)]⟩] w) (A_ha : s0 ≠ [] → aB A_a ∉ bs [some B_b]) (D_ha : g1c0.fHammers ≠ [] → aB D_a ∉ bs [some B_b]) (h : slices_ContainsFunc_Hammer_at_impl_ValidFrame_1 s0 g1c0 = some r) :
    Calls Tryz.prog 94 #[(.slice A_a A_an A_c), (.func (.func 95) #[] #[(.pointer (some ⟨B_b, 0, none⟩))])] w fun e w' => ∃ v, e = .returned v ∧ (v = (.bool r) ∧ Mem w (bs [some B_b]) [⟨some B_b, 27, [(.int .i16 g1c0.fSteps), (.slice D_a D_an D_c)]⟩] w') := by
  subst A_hn D_hn
  rw [slices_ContainsFunc_Hammer_at_impl_ValidFrame_1] at h
  refine enter (args := [(.slice A_a s0.length A_c), (.func (.func 95) #[] #[(.pointer (some ⟨B_b, 0, none⟩))])]) Tryz.func94 rfl Tryz.ntmps94 (by kernel_rfl) (L := [⟨some B_b, 27, [(.int .i16 g1c0.fSteps), (.slice D_a g1c0.fHammers.length D_c)]⟩]) (W := bs [some B_b]) hm0 ?_
  refine jc_seq (jc_region (qh [0] (qe (jx_then (jc_seq (jc_region (qh [0,0] ?_)))))))
  obtain ⟨t_1, ht_1, h⟩ := bd h
  refine tO (pc 0 (fun w hm => slices_IndexFunc_Hammer_at_impl_ValidFrame_1.calls s0 g1c0 w _ A_c (hm.exRowW A_h A_ha) rfl D_c (hm.exRowW D_h D_ha) rfl B_b (hm.pass (N := [⟨some B_b, 27, [(.int .i16 g1c0.fSteps), (.slice D_a g1c0.fHammers.length D_c)]⟩]) [0] (by kernel_rfl) (by kernel_rfl)) (hm.exApart (N := [⟨some B_b, 27, [(.int .i16 g1c0.fSteps), (.slice D_a g1c0.fHammers.length D_c)]⟩]) A_h A_ha [0] (by kernel_rfl)) (hm.exApart (N := [⟨some B_b, 27, [(.int .i16 g1c0.fSteps), (.slice D_a g1c0.fHammers.length D_c)]⟩]) D_h D_ha [0] (by kernel_rfl)) ht_1) ?_)
  rintro w v w' hm ⟨rfl, hm'⟩
  refine ⟨_, hm.appW (ps := [(0, ⟨some B_b, 27, [(.int .i16 g1c0.fSteps), (.slice D_a g1c0.fHammers.length D_c)]⟩)]) (N := []) hm' (by kernel_rfl) (by kernel_rfl), jkO ?_⟩
  clear hm hm'
  refine qh [0,0] (qe (jx_then (jc_ret ?_)))
  obtain rfl := Option.some.inj h
  exact qr [] (fun w hm => ⟨rfl, hm.pk [0]⟩)
/-! ### impl.ValidFrame -/
def impl_ValidFrame (f0 : GFrame) : Option (Bool) := (impl_within (w64 f0.fSteps) 2 96).bind fun t_1 => (if t_1 = true then (impl_size_Hammer f0.fHammers).bind fun t_2 => (impl_within t_2 1 24).bind fun t_3 => (if t_3 = true then (slices_ContainsFunc_Hammer_at_impl_ValidFrame_1 f0.fHammers f0).bind fun t_4 => some (!t_4) else some false) else some false)
theorem impl_ValidFrame.calls (f0 : GFrame) (w : World) (r : Bool) {C_a : Option Addr} {C_an : Nat} (C_c : Nat) (C_h : Rw w C_a 2 encGHammer f0.fHammers) (C_hn : f0.fHammers.length = C_an) (h : impl_ValidFrame f0 = some r) :
    Calls Tryz.prog 68 #[(.agg #[(.int .i16 f0.fSteps), (.slice C_a C_an C_c)])] w fun e w' => ∃ v, e = .returned v ∧ (v = (.bool r) ∧ Mem w [] [] w') := by
  subst C_hn
  rw [impl_ValidFrame] at h
  refine enter (args := [(.agg #[(.int .i16 f0.fSteps), (.slice C_a f0.fHammers.length C_c)])]) Tryz.func68 rfl Tryz.ntmps68 (by kernel_rfl) (L := []) (W := []) (Mem.start w) ?_
  refine jc_seq (jc_region (tO (qa 0 (fun b_1 => jkO (qh [0] (qe (jx_then (jc_seq (jc_region (qh [0,0,0] ?_))))))))))
  obtain ⟨t_1, ht_2, h⟩ := bd h
  refine tO (pc 0 (fun w hm => impl_within.calls (w64 f0.fSteps) 2 96 w _ ht_2) ?_)
  rintro w v w' hm ⟨rfl, hm'⟩
  refine ⟨_, hm.app hm', jkO ?_⟩
  clear hm hm'
  refine qf [(0, 0), (0, 1), (0, 1)] (qp 7 h (fun h => ?_) (fun h => ?_))
  ·obtain ⟨t_2, ht_4, h⟩ := bd h
   refine tO (pc 2 (fun w hm => impl_size_Hammer.calls f0.fHammers w _ C_c (hm.xr C_h) rfl ht_4) ?_)
   rintro w v w' hm ⟨rfl, hm'⟩
   refine ⟨_, hm.app hm', jkO ?_⟩
   clear hm hm'
   obtain ⟨t_3, ht_5, h⟩ := bd h
   refine tO (pc 2 (fun w hm => impl_within.calls t_2 1 24 w _ ht_5) ?_)
   rintro w v w' hm ⟨rfl, hm'⟩
   refine ⟨_, hm.app hm', jkO ?_⟩
   clear hm hm'
   refine qf [(0, 4), (0, 0), (0, 1), (0, 1), (0, 1)] (qp 13 h (fun h => ?_) (fun h => ?_))
   ·obtain ⟨t_4, ht_7, h⟩ := bd h
    refine tO (pc 2 (fun w hm => slices_ContainsFunc_Hammer_at_impl_ValidFrame_1.calls f0.fHammers f0 w _ C_c (hm.xr C_h) rfl C_c (hm.xr C_h) rfl b_1 (hm.pass (N := [⟨some b_1, 27, [(.int .i16 f0.fSteps), (.slice C_a f0.fHammers.length C_c)]⟩]) [0] (by kernel_rfl) (by kernel_rfl)) (hm.exApart (N := [⟨some b_1, 27, [(.int .i16 f0.fSteps), (.slice C_a f0.fHammers.length C_c)]⟩]) C_h (fun _ => List.not_mem_nil) [0] (by kernel_rfl)) (hm.exApart (N := [⟨some b_1, 27, [(.int .i16 f0.fSteps), (.slice C_a f0.fHammers.length C_c)]⟩]) C_h (fun _ => List.not_mem_nil) [0] (by kernel_rfl)) ht_7) ?_)
    rintro w v w' hm ⟨rfl, hm'⟩
    refine ⟨_, hm.appW (ps := [(0, ⟨some b_1, 27, [(.int .i16 f0.fSteps), (.slice C_a f0.fHammers.length C_c)]⟩)]) (N := []) hm' (by kernel_rfl) (by kernel_rfl), jkO ?_⟩
    clear hm hm'
    refine qf [(0, 2), (0, 4), (0, 0)] (qe (jx_then (jc_ret ?_)))
    obtain rfl := Option.some.inj h
    exact qr [] (fun w hm => ⟨rfl, hm.pk []⟩)
   ·refine qf [(0, 3), (0, 3), (0, 5), (0, 0)] (qe (jx_then (jc_ret ?_)))
    obtain rfl := Option.some.inj h
    exact qr [] (fun w hm => ⟨rfl, hm.pk []⟩)
  ·refine qf [(0, 3), (0, 3), (0, 5), (0, 0), (0, 3), (0, 3), (0, 3), (0, 3), (0, 3), (0, 5), (0, 0)] (qe (jx_then (jc_ret ?_)))
   obtain rfl := Option.some.inj h
   exact qr [] (fun w hm => ⟨rfl, hm.pk []⟩)
/-! ### (impl.Frame).isDrum -/
def impl_Frame_isDrum.k_1 : Option (Bool) := some true
def impl_Frame_isDrum.k_7 (i_2 : Int) (q_6 : Bool) : Option ((Int) ⊕ (Bool ⊕ Unit)) := (if q_6 = true then some (.inr (.inl false)) else some (.inl (w64 (i_2 + 1))))
def impl_Frame_isDrum.l_3 (f0 : GFrame) (d1 : Arr 96 Int) : Int → Option ((Int) ⊕ (Bool ⊕ Unit))
  | i_2 => (if (decide (i_2 < 96)) = true then (ix d1.1 i_2).bind fun x_5 => (if 0 ≤ (f0.fHammers.length : Int) then (if ((bShr .u32 x_5 (f0.fHammers.length : Int)) != 0) = true then impl_Frame_isDrum.k_7 i_2 true else impl_Frame_isDrum.k_7 i_2 ((decide (i_2 ≥ (w64 f0.fSteps))) && (x_5 != 0))) else none) else some (.inr (.inr ())))
def impl_Frame_isDrum (f0 : GFrame) (d1 : Arr 96 Int) : Option (Bool) := (loop (impl_Frame_isDrum.l_3 f0 d1) 0).bind fun t_4 => match t_4 with | .inl p => some p | .inr p => impl_Frame_isDrum.k_1
theorem impl_Frame_isDrum.calls (f0 : GFrame) (d1 : Arr 96 Int) (w : World) (r : Bool) {C_a : Option Addr} {C_an : Nat} (C_c : Nat) (C_h : Rw w C_a 2 encGHammer f0.fHammers) (C_hn : f0.fHammers.length = C_an) (h : impl_Frame_isDrum f0 d1 = some r) :
    Calls Tryz.prog 71 #[(.agg #[(.int .i16 f0.fSteps), (.slice C_a C_an C_c)]), (.agg (row encU32 d1.1 []).toArray)] w fun e w' => ∃ v, e = .returned v ∧ (v = (.bool r) ∧ Mem w [] [] w') := by
  subst C_hn
  rw [impl_Frame_isDrum] at h
  refine enter (args := [(.agg #[(.int .i16 f0.fSteps), (.slice C_a f0.fHammers.length C_c)]), (.agg (row encU32 d1.1 []).toArray)]) Tryz.func71 rfl Tryz.ntmps71 (by kernel_rfl) (L := []) (W := []) (Mem.start w) ?_
  refine jc_seq (jc_region (tO (qa 0 (fun b_1 => jkO (tO (qa 0 (fun b_2 => jkO (qh [0] (qe (jx_then (jc_seq (jc_seq (jc_region (tO (p_ldA 0 1 b_2 96 1 31 encU32 d1 (by kernel_rfl) (by kernel_rfl) (by kernel_rfl) encU32_len (by kernel_rfl) (jkO (qh [0] (qe (jx_then (jc_meet (fun (_ : Unit) => impl_Frame_isDrum.k_1 = some r) (fun (_ : Unit) => [(4, [], (.bool false))]) (fun (_ : Unit) => [⟨some b_1, 27, [(.int .i16 f0.fSteps), (.slice C_a f0.fHammers.length C_c)]⟩, ⟨(some b_2), 31, row encU32 d1.1 []⟩]) ?_ ?_))))))))))))))))))))
  ·refine jc_block ?_
   obtain ⟨t_4, ht_60, hr_48⟩ := bd h
   refine jc_loop (fun (s : Int) (x : Unit) => match s, x with | i_2, _ => True) (fun (s : Int) (x : Unit) => match s, x with | i_2, _ => [(2, [], (.pointer (some ⟨b_1, 0, none⟩))), (4, [], (.bool false)), (7, [], (.agg (row encU32 d1.1 []).toArray)), (8, [], (.int .i64 i_2))]) (fun (s : Int) (x : Unit) => match s, x with | i_2, _ => [⟨some b_1, 27, [(.int .i16 f0.fSteps), (.slice C_a f0.fHammers.length C_c)]⟩, ⟨(some b_2), 31, row encU32 d1.1 []⟩]) ht_60 () trivial (by kernel_rfl) [0, 1] (by kernel_rfl) (by kernel_rfl) ?_
   rintro i_2 _ y_49 _ h
   rw [impl_Frame_isDrum.l_3] at h
   refine jc_seq (jc_region (qh [0] (qe (jx_then (jc_seq (qi h (fun h => ?_) (fun h => ?_)))))))
   ·refine jc_skip (jx_then (jc_seq (jc_block (jc_seq (jc_region (qh [0] ?_))))))
    obtain ⟨x_5, hx_52, h⟩ := bd h
    refine tO (p_ixA 0 encU32 (fun x => (.int .u32 x)) d1 i_2 (by kernel_rfl) (by kernel_rfl) (fun _ => rfl) hx_52 (jkO (qh [0,0] (qe (jx_then (jc_seq (jc_meet (fun (j : Bool) => match j with | q_6 => impl_Frame_isDrum.k_7 i_2 q_6 = some y_49) (fun (j : Bool) => match j with | q_6 => [(2, [], (.pointer (some ⟨b_1, 0, none⟩))), (4, [], (.bool false)), (7, [], (.agg (row encU32 d1.1 []).toArray)), (8, [], (.int .i64 i_2)), (28, [], (.bool q_6))]) (fun (j : Bool) => match j with | q_6 => [⟨some b_1, 27, [(.int .i16 f0.fSteps), (.slice C_a f0.fHammers.length C_c)]⟩, ⟨(some b_2), 31, row encU32 d1.1 []⟩]) ?_ ?_)))))))
    ·refine jc_region (qh [0,0,0,0] ?_)
     obtain ⟨hg_57, h⟩ := gd h
     refine tO (p_shr 0 .u32 x_5 .i64 (f0.fHammers.length : Int) (by kernel_rfl) (by kernel_rfl) hg_57 (jkO (qf [(0, 0), (0, 0), (0, 1), (0, 1), (0, 1), (0, 1), (0, 1)] (qp 18 h (fun h => ?_) (fun h => ?_)))))
     ·exact qf [(0, 3), (0, 3), (0, 3), (0, 3), (0, 4)] (qe (qm true h [0, 1]))
     ·exact qf [(0, 2), (0, 1), (0, 1), (0, 2), (0, 5)] (qe (qm ((decide (i_2 ≥ (w64 f0.fSteps))) && (x_5 != 0)) h [0, 1]))
    ·rintro q_6 h
     replace h : impl_Frame_isDrum.k_7 i_2 q_6 = some y_49 := h
     rw [impl_Frame_isDrum.k_7] at h
     refine jx_then (qi h (fun h => ?_) (fun h => ?_))
     ·refine jc_seq (jc_region (qh [0] (qe (jx_then (jc_ret (jx_inr (jx_thenr (jx_leaver (.inl false) (Option.some.inj h).symm (fun e_56 => ?_)))))))))
      subst e_56
      refine jx_inr (jx_thenr (jx_thenr ?_))
      obtain rfl := Option.some.inj hr_48
      exact qr [] (fun w hm => ⟨rfl, hm.pk []⟩)
     ·exact jc_skip (jx_inn (jx_then (jc_region (qh [0,0] (qe (qb (w64 (i_2 + 1)) () h trivial [0, 1]))))))
   ·refine jc_exit (jx_thenx (jx_leave (.inr ()) (Option.some.inj h).symm (fun e_59 => ?_)))
    subst e_59
    exact jx_ine (qm () hr_48 [0, 1])
  ·rintro _ h
   replace h : impl_Frame_isDrum.k_1 = some r := h
   rw [impl_Frame_isDrum.k_1] at h
   refine jx_then (jc_seq (jc_region (qh [0] (qe (jx_then (jc_ret ?_))))))
   obtain rfl := Option.some.inj h
   exact qr [] (fun w hm => ⟨rfl, hm.pk []⟩)
/-! ### impl.drumCode$1 -/
def impl_drumCode_1 (d0 : Arr 96 Int) (p1 : GFrame) : Option (Bool) := (impl_Frame_isDrum p1 d0).bind fun t_1 => some (!t_1)
theorem impl_drumCode_1.calls (d0 : Arr 96 Int) (p1 : GFrame) (w : World) (r : Bool) {D_a : Option Addr} {D_an : Nat} (D_c : Nat) (D_h : Rw w D_a 2 encGHammer p1.fHammers) (D_hn : p1.fHammers.length = D_an) (B_b : Nat) (hm0 : Mem w (bs [some B_b]) [⟨some B_b, 27, [(.int .i16 p1.fSteps), (.slice D_a D_an D_c)]⟩] w) (D_ha : p1.fHammers ≠ [] → aB D_a ∉ bs [some B_b]) (h : impl_drumCode_1 d0 p1 = some r) :
    Calls Tryz.prog 70 #[(.agg (row encU32 d0.1 []).toArray), (.pointer (some ⟨B_b, 0, none⟩))] w fun e w' => ∃ v, e = .returned v ∧ (v = (.bool r) ∧ Mem w (bs [some B_b]) [⟨some B_b, 27, [(.int .i16 p1.fSteps), (.slice D_a D_an D_c)]⟩] w') := by
  subst D_hn
  rw [impl_drumCode_1] at h
  refine enter (args := [(.agg (row encU32 d0.1 []).toArray), (.pointer (some ⟨B_b, 0, none⟩))]) Tryz.func70 rfl Tryz.ntmps70 (by kernel_rfl) (L := [⟨some B_b, 27, [(.int .i16 p1.fSteps), (.slice D_a p1.fHammers.length D_c)]⟩]) (W := bs [some B_b]) hm0 ?_
  refine jc_seq (jc_region (tO (qa 0 (fun b_1 => jkO (qh [0] (qe (jx_then (jc_seq (jc_region (qh [0] (tO (p_ldA 0 1 b_1 96 1 31 encU32 d0 (by kernel_rfl) (by kernel_rfl) (by kernel_rfl) encU32_len (by kernel_rfl) (jkO ?_)))))))))))))
  obtain ⟨t_1, ht_2, h⟩ := bd h
  refine tO (pc 0 (fun w hm => impl_Frame_isDrum.calls p1 d0 w _ D_c (hm.exRowW D_h D_ha) rfl ht_2) ?_)
  rintro w v w' hm ⟨rfl, hm'⟩
  refine ⟨_, hm.app hm', jkO ?_⟩
  clear hm hm'
  refine qh [0,0] (qe (jx_then (jc_ret ?_)))
  obtain rfl := Option.some.inj h
  exact qr [] (fun w hm => ⟨rfl, hm.pk [0]⟩)
/-! ### slices.IndexFunc[[]impl.Drum,impl.Drum] -/
def slices_IndexFunc_Drum_at_impl_drumCode_1.k_1 : Option (Int) := some (-1)
def slices_IndexFunc_Drum_at_impl_drumCode_1.l_3 (s0 : List (Arr 96 Int)) (g1c0 : GFrame) : Int → Option ((Int) ⊕ (Int ⊕ Unit))
  | i_2 => (if (decide (i_2 < (s0.length : Int))) = true then (ix s0 i_2).bind fun x_5 => (impl_drumCode_1 x_5 g1c0).bind fun t_6 => (if t_6 = true then some (.inr (.inl i_2)) else some (.inl (w64 (i_2 + 1)))) else some (.inr (.inr ())))
def slices_IndexFunc_Drum_at_impl_drumCode_1 (s0 : List (Arr 96 Int)) (g1c0 : GFrame) : Option (Int) := (loop (slices_IndexFunc_Drum_at_impl_drumCode_1.l_3 s0 g1c0) 0).bind fun t_4 => match t_4 with | .inl p => some p | .inr p => slices_IndexFunc_Drum_at_impl_drumCode_1.k_1
theorem slices_IndexFunc_Drum_at_impl_drumCode_1.calls (s0 : List (Arr 96 Int)) (g1c0 : GFrame) (w : World) (r : Int) {A_a : Option Addr} {A_an : Nat} (A_c : Nat) (A_h : Rw w A_a 96 encA96U32 s0) (A_hn : s0.length = A_an) {D_a : Option Addr} {D_an : Nat} (D_c : Nat) (D_h : Rw w D_a 2 encGHammer g1c0.fHammers) (D_hn : g1c0.fHammers.length = D_an) (B_b : Nat) (hm0 : Mem w (bs [some B_b]) [⟨some B_b, 27, [(.int .i16 g1c0.fSteps), (.slice D_a D_an D_c)]⟩] w) (A_ha : s0 ≠ [] → aB A_a ∉ bs [some B_b]) (D_ha : g1c0.fHammers ≠ [] → aB D_a ∉ bs [some B_b]) (h : slices_IndexFunc_Drum_at_impl_drumCode_1 s0 g1c0 = some r) :
    Calls Tryz.prog 97 #[(.slice A_a A_an A_c), (.func (.func 70) #[] #[(.pointer (some ⟨B_b, 0, none⟩))])] w fun e w' => ∃ v, e = .returned v ∧ (v = (.int .i64 r) ∧ Mem w (bs [some B_b]) [⟨some B_b, 27, [(.int .i16 g1c0.fSteps), (.slice D_a D_an D_c)]⟩] w') := by
  subst A_hn D_hn
  rw [slices_IndexFunc_Drum_at_impl_drumCode_1] at h
  refine enter (args := [(.slice A_a s0.length A_c), (.func (.func 70) #[] #[(.pointer (some ⟨B_b, 0, none⟩))])]) Tryz.func97 rfl Tryz.ntmps97 (by kernel_rfl) (L := [⟨some B_b, 27, [(.int .i16 g1c0.fSteps), (.slice D_a g1c0.fHammers.length D_c)]⟩]) (W := bs [some B_b]) hm0 ?_
  refine jc_seq (jc_region (qh [0] (qe (jx_then (jc_seq (jc_seq (jc_region (qh [0,0,0] (qe (jx_then (jc_meet (fun (_ : Unit) => slices_IndexFunc_Drum_at_impl_drumCode_1.k_1 = some r) (fun (_ : Unit) => [(4, [], (.int .i64 0))]) (fun (_ : Unit) => [⟨some B_b, 27, [(.int .i16 g1c0.fSteps), (.slice D_a g1c0.fHammers.length D_c)]⟩]) ?_ ?_)))))))))))
  ·refine jc_block ?_
   obtain ⟨t_4, ht_40, hr_31⟩ := bd h
   refine jc_loop (fun (s : Int) (x : Unit) => match s, x with | i_2, _ => True) (fun (s : Int) (x : Unit) => match s, x with | i_2, _ => [(0, [], (.slice A_a s0.length A_c)), (1, [], (.func (.func 70) #[] #[(.pointer (some ⟨B_b, 0, none⟩))])), (4, [], (.int .i64 0)), (7, [], (.int .i64 (s0.length : Int))), (8, [], (.int .i64 i_2))]) (fun (s : Int) (x : Unit) => match s, x with | i_2, _ => [⟨some B_b, 27, [(.int .i16 g1c0.fSteps), (.slice D_a g1c0.fHammers.length D_c)]⟩]) ht_40 () trivial (by kernel_rfl) [0] (by kernel_rfl) (by kernel_rfl) ?_
   rintro i_2 _ y_32 _ h
   rw [slices_IndexFunc_Drum_at_impl_drumCode_1.l_3] at h
   refine jc_seq (jc_region (qh [0] (qe (jx_then (jc_seq (qi h (fun h => ?_) (fun h => ?_)))))))
   ·refine jc_skip (jx_then (jc_seq (jc_block (jc_seq (jc_region (qh [0,0] (qe (jx_then (jc_seq (jc_region (qh [0,0,0] ?_)))))))))))
    obtain ⟨x_5, hx_35, h⟩ := bd h
    refine tO (qx 0 A_a 96 hx_35 rfl (A_h.sp hx_35) (jkO (tO (p_ldx 0 (aB A_a) (aO A_a + i_2.toNat * 96) (encA96U32 x_5) 96 (by kernel_rfl) (by kernel_rfl) (encA96U32_len x_5) (fun w hm => ((hm.exRowW A_h A_ha).at hx_35)) (jkO ?_)))))
    obtain ⟨t_6, ht_36, h⟩ := bd h
    refine tO (pc 0 (fun w hm => impl_drumCode_1.calls x_5 g1c0 w _ D_c (hm.exRowW D_h D_ha) rfl B_b (hm.pass (N := [⟨some B_b, 27, [(.int .i16 g1c0.fSteps), (.slice D_a g1c0.fHammers.length D_c)]⟩]) [0] (by kernel_rfl) (by kernel_rfl)) (hm.exApart (N := [⟨some B_b, 27, [(.int .i16 g1c0.fSteps), (.slice D_a g1c0.fHammers.length D_c)]⟩]) D_h D_ha [0] (by kernel_rfl)) ht_36) ?_)
    rintro w v w' hm ⟨rfl, hm'⟩
    refine ⟨_, hm.appW (ps := [(0, ⟨some B_b, 27, [(.int .i16 g1c0.fSteps), (.slice D_a g1c0.fHammers.length D_c)]⟩)]) (N := []) hm' (by kernel_rfl) (by kernel_rfl), jkO ?_⟩
    clear hm hm'
    refine qe (jx_then (qi h (fun h => ?_) (fun h => ?_)))
    ·refine jc_seq (jc_region (qh [0,0] (qe (jx_then (jc_ret (jx_inr (jx_thenr (jx_leaver (.inl i_2) (Option.some.inj h).symm (fun e_38 => ?_)))))))))
     subst e_38
     refine jx_inr (jx_thenr (jx_thenr ?_))
     obtain rfl := Option.some.inj hr_31
     exact qr [] (fun w hm => ⟨rfl, hm.pk [0]⟩)
    ·exact jc_skip (jx_inn (jx_then (jc_region (qh [0,0] (qe (qb (w64 (i_2 + 1)) () h trivial [0]))))))
   ·refine jc_exit (jx_thenx (jx_leave (.inr ()) (Option.some.inj h).symm (fun e_39 => ?_)))
    subst e_39
    exact jx_ine (qm () hr_31 [0])
  ·rintro _ h
   replace h : slices_IndexFunc_Drum_at_impl_drumCode_1.k_1 = some r := h
   rw [slices_IndexFunc_Drum_at_impl_drumCode_1.k_1] at h
   refine jx_then (jc_seq (jc_region (qh [0] (qe (jx_then (jc_ret ?_))))))
   obtain rfl := Option.some.inj h
   exact qr [] (fun w hm => ⟨rfl, hm.pk [0]⟩)
/-! ### slices.ContainsFunc[[]impl.Drum,impl.Drum] -/
def slices_ContainsFunc_Drum_at_impl_drumCode_1 (s0 : List (Arr 96 Int)) (g1c0 : GFrame) : Option (Bool) := (slices_IndexFunc_Drum_at_impl_drumCode_1 s0 g1c0).bind fun t_1 => some (decide (t_1 ≥ 0))
theorem slices_ContainsFunc_Drum_at_impl_drumCode_1.calls (s0 : List (Arr 96 Int)) (g1c0 : GFrame) (w : World) (r : Bool) {A_a : Option Addr} {A_an : Nat} (A_c : Nat) (A_h : Rw w A_a 96 encA96U32 s0) (A_hn : s0.length = A_an) {D_a : Option Addr} {D_an : Nat} (D_c : Nat) (D_h : Rw w D_a 2 encGHammer g1c0.fHammers) (D_hn : g1c0.fHammers.length = D_an) (B_b : Nat) (hm0 : Mem w (bs [some B_b]) [⟨some B_b, 27, [(.int .i16 g1c0.fSteps), (.slice D_a D_an D_c)]⟩] w) (A_ha : s0 ≠ [] → aB A_a ∉ bs [some B_b]) (D_ha : g1c0.fHammers ≠ [] → aB D_a ∉ bs [some B_b]) (h : slices_ContainsFunc_Drum_at_impl_drumCode_1 s0 g1c0 = some r) :
    Calls Tryz.prog 69 #[(.slice A_a A_an A_c), (.func (.func 70) #[] #[(.pointer (some ⟨B_b, 0, none⟩))])] w fun e w' => ∃ v, e = .returned v ∧ (v = (.bool r) ∧ Mem w (bs [some B_b]) [⟨some B_b, 27, [(.int .i16 g1c0.fSteps), (.slice D_a D_an D_c)]⟩] w') := by
  subst A_hn D_hn
  rw [slices_ContainsFunc_Drum_at_impl_drumCode_1] at h
  refine enter (args := [(.slice A_a s0.length A_c), (.func (.func 70) #[] #[(.pointer (some ⟨B_b, 0, none⟩))])]) Tryz.func69 rfl Tryz.ntmps69 (by kernel_rfl) (L := [⟨some B_b, 27, [(.int .i16 g1c0.fSteps), (.slice D_a g1c0.fHammers.length D_c)]⟩]) (W := bs [some B_b]) hm0 ?_
  refine jc_seq (jc_region (qh [0] (qe (jx_then (jc_seq (jc_region (qh [0,0] ?_)))))))
  obtain ⟨t_1, ht_1, h⟩ := bd h
  refine tO (pc 0 (fun w hm => slices_IndexFunc_Drum_at_impl_drumCode_1.calls s0 g1c0 w _ A_c (hm.exRowW A_h A_ha) rfl D_c (hm.exRowW D_h D_ha) rfl B_b (hm.pass (N := [⟨some B_b, 27, [(.int .i16 g1c0.fSteps), (.slice D_a g1c0.fHammers.length D_c)]⟩]) [0] (by kernel_rfl) (by kernel_rfl)) (hm.exApart (N := [⟨some B_b, 27, [(.int .i16 g1c0.fSteps), (.slice D_a g1c0.fHammers.length D_c)]⟩]) A_h A_ha [0] (by kernel_rfl)) (hm.exApart (N := [⟨some B_b, 27, [(.int .i16 g1c0.fSteps), (.slice D_a g1c0.fHammers.length D_c)]⟩]) D_h D_ha [0] (by kernel_rfl)) ht_1) ?_)
  rintro w v w' hm ⟨rfl, hm'⟩
  refine ⟨_, hm.appW (ps := [(0, ⟨some B_b, 27, [(.int .i16 g1c0.fSteps), (.slice D_a g1c0.fHammers.length D_c)]⟩)]) (N := []) hm' (by kernel_rfl) (by kernel_rfl), jkO ?_⟩
  clear hm hm'
  refine qh [0,0] (qe (jx_then (jc_ret ?_)))
  obtain rfl := Option.some.inj h
  exact qr [] (fun w hm => ⟨rfl, hm.pk [0]⟩)
/-! ### impl.unless -/
def impl_unless (is0 : Bool) (code1 : Int) : Option (Int) := (if is0 = true then some 0 else some code1)
theorem impl_unless.calls (is0 : Bool) (code1 : Int) (w : World) (r : Int) (h : impl_unless is0 code1 = some r) :
    Calls Tryz.prog 66 #[(.bool is0), (.int .i64 code1)] w fun e w' => ∃ v, e = .returned v ∧ (v = (.int .i64 r) ∧ Mem w [] [] w') := by
  rw [impl_unless] at h
  refine enter (args := [(.bool is0), (.int .i64 code1)]) Tryz.func66 rfl Tryz.ntmps66 (by kernel_rfl) (L := []) (W := []) (Mem.start w) ?_
  refine jc_seq (jc_region (qh [0] (qe (jx_then (jc_seq (jc_seq (jc_region (qh [0] (qe (jx_then (qi h (fun h => ?_) (fun h => ?_))))))))))))
  ·refine jc_seq (jc_region (qh [0] (qe (jx_then (jc_ret (jx_thenr ?_))))))
   obtain rfl := Option.some.inj h
   exact qr [] (fun w hm => ⟨rfl, hm.pk []⟩)
  ·refine jc_skip (jx_then (jc_seq (jc_region (qh [0,0] (qe (jx_then (jc_ret ?_)))))))
   obtain rfl := Option.some.inj h
   exact qr [] (fun w hm => ⟨rfl, hm.pk []⟩)
/-! ### impl.drumCode -/
def impl_drumCode (f0 : GFrame) (list1 : List (Arr 96 Int)) : Option (Int) := (impl_ValidFrame f0).bind fun t_1 => (if t_1 = true then (slices_ContainsFunc_Drum_at_impl_drumCode_1 list1 f0).bind fun t_2 => (impl_unless (!t_2) 1).bind fun t_3 => some t_3 else (impl_unless false 1).bind fun t_4 => some t_4)
theorem impl_drumCode.calls (f0 : GFrame) (list1 : List (Arr 96 Int)) (w : World) (r : Int) {C_a : Option Addr} {C_an : Nat} (C_c : Nat) (C_h : Rw w C_a 2 encGHammer f0.fHammers) (C_hn : f0.fHammers.length = C_an) {D_a : Option Addr} {D_an : Nat} (D_c : Nat) (D_h : Rw w D_a 96 encA96U32 list1) (D_hn : list1.length = D_an) (h : impl_drumCode f0 list1 = some r) :
    Calls Tryz.prog 42 #[(.agg #[(.int .i16 f0.fSteps), (.slice C_a C_an C_c)]), (.slice D_a D_an D_c)] w fun e w' => ∃ v, e = .returned v ∧ (v = (.int .i64 r) ∧ Mem w [] [] w') := by
  subst C_hn D_hn
  rw [impl_drumCode] at h
  refine enter (args := [(.agg #[(.int .i16 f0.fSteps), (.slice C_a f0.fHammers.length C_c)]), (.slice D_a list1.length D_c)]) Tryz.func42 rfl Tryz.ntmps42 (by kernel_rfl) (L := []) (W := []) (Mem.start w) ?_
  refine jc_seq (jc_region (tO (qa 0 (fun b_1 => jkO (qh [0] (qe (jx_then (jc_seq (jc_region (qh [0] ?_))))))))))
  obtain ⟨t_1, ht_2, h⟩ := bd h
  refine tO (pc 0 (fun w hm => impl_ValidFrame.calls f0 w _ C_c (hm.xr C_h) rfl ht_2) ?_)
  rintro w v w' hm ⟨rfl, hm'⟩
  refine ⟨_, hm.app hm', jkO ?_⟩
  clear hm hm'
  refine qf [(0, 0), (0, 1), (0, 1)] (qp 7 h (fun h => ?_) (fun h => ?_))
  ·obtain ⟨t_2, ht_4, h⟩ := bd h
   refine tO (pc 2 (fun w hm => slices_ContainsFunc_Drum_at_impl_drumCode_1.calls list1 f0 w _ D_c (hm.xr D_h) rfl C_c (hm.xr C_h) rfl b_1 (hm.pass (N := [⟨some b_1, 27, [(.int .i16 f0.fSteps), (.slice C_a f0.fHammers.length C_c)]⟩]) [0] (by kernel_rfl) (by kernel_rfl)) (hm.exApart (N := [⟨some b_1, 27, [(.int .i16 f0.fSteps), (.slice C_a f0.fHammers.length C_c)]⟩]) D_h (fun _ => List.not_mem_nil) [0] (by kernel_rfl)) (hm.exApart (N := [⟨some b_1, 27, [(.int .i16 f0.fSteps), (.slice C_a f0.fHammers.length C_c)]⟩]) C_h (fun _ => List.not_mem_nil) [0] (by kernel_rfl)) ht_4) ?_)
   rintro w v w' hm ⟨rfl, hm'⟩
   refine ⟨_, hm.appW (ps := [(0, ⟨some b_1, 27, [(.int .i16 f0.fSteps), (.slice C_a f0.fHammers.length C_c)]⟩)]) (N := []) hm' (by kernel_rfl) (by kernel_rfl), jkO ?_⟩
   clear hm hm'
   refine qf [(0, 2), (0, 4)] ?_
   obtain ⟨t_3, ht_5, h⟩ := bd h
   refine tO (pc 0 (fun w hm => impl_unless.calls (!t_2) 1 w _ ht_5) ?_)
   rintro w v w' hm ⟨rfl, hm'⟩
   refine ⟨_, hm.app hm', jkO ?_⟩
   clear hm hm'
   refine qh [0] (qe (jx_then (jc_ret ?_)))
   obtain rfl := Option.some.inj h
   exact qr [] (fun w hm => ⟨rfl, hm.pk []⟩)
  ·refine qf [(0, 3), (0, 3), (0, 5)] ?_
   obtain ⟨t_4, ht_6, h⟩ := bd h
   refine tO (pc 0 (fun w hm => impl_unless.calls false 1 w _ ht_6) ?_)
   rintro w v w' hm ⟨rfl, hm'⟩
   refine ⟨_, hm.app hm', jkO ?_⟩
   clear hm hm'
   refine qh [0] (qe (jx_then (jc_ret ?_)))
   obtain rfl := Option.some.inj h
   exact qr [] (fun w hm => ⟨rfl, hm.pk []⟩)
/-! ### (impl.Drum).less -/
def impl_Drum_less.k_2 (a_1 : Arr 96 Int) : Option ((Arr 96 Int)) := some a_1
def impl_Drum_less.l_5 (e1 : Arr 96 Int) : ((Arr 96 Int) × Int) → Option (((Arr 96 Int) × Int) ⊕ ((Arr 96 Int)))
  | (a_3, i_4) => (if (decide (i_4 < 96)) = true then (ix e1.1 i_4).bind fun x_7 => (ix a_3.1 i_4).bind fun x_8 => (ix a_3.1 i_4).bind fun x_9 => some (.inl ((Arr.set a_3 i_4 (bClr .u32 x_8 x_7)), (w64 (i_4 + 1)))) else some (.inr a_3))
def impl_Drum_less (d0 : Arr 96 Int) (e1 : Arr 96 Int) : Option ((Arr 96 Int)) := (loop (impl_Drum_less.l_5 e1) (d0, 0)).bind fun t_6 => impl_Drum_less.k_2 t_6
theorem impl_Drum_less.calls (d0 : Arr 96 Int) (e1 : Arr 96 Int) (w : World) (r : (Arr 96 Int)) (h : impl_Drum_less d0 e1 = some r) :
    Calls Tryz.prog 44 #[(.agg (row encU32 d0.1 []).toArray), (.agg (row encU32 e1.1 []).toArray)] w fun e w' => ∃ v, e = .returned v ∧ (v = (.agg (row encU32 r.1 []).toArray) ∧ Mem w [] [] w') := by
  rw [impl_Drum_less] at h
  refine enter (args := [(.agg (row encU32 d0.1 []).toArray), (.agg (row encU32 e1.1 []).toArray)]) Tryz.func44 rfl Tryz.ntmps44 (by kernel_rfl) (L := []) (W := []) (Mem.start w) ?_
  refine jc_seq (jc_region (tO (qa 0 (fun b_1 => jkO (tO (qa 0 (fun b_2 => jkO (tO (qa 0 (fun b_3 => jkO (qe (jx_then (jc_seq (jc_seq (jc_region (tO (p_ldA 0 1 b_2 96 1 31 encU32 e1 (by kernel_rfl) (by kernel_rfl) (by kernel_rfl) encU32_len (by kernel_rfl) (jkO (qh [0] (qe (jx_then (jc_meet (fun (j : (Arr 96 Int)) => match j with | a_1 => impl_Drum_less.k_2 a_1 = some r) (fun (j : (Arr 96 Int)) => match j with | a_1 => [(2, [], (.pointer (some ⟨b_1, 0, none⟩))), (4, [], (.pointer (some ⟨b_3, 0, none⟩)))]) (fun (j : (Arr 96 Int)) => match j with | a_1 => [⟨(some b_1), 31, row encU32 a_1.1 []⟩, ⟨(some b_2), 31, row encU32 e1.1 []⟩, ⟨(some b_3), 31, row encU32 ((Arr.rep 96 0).1) []⟩]) ?_ ?_))))))))))))))))))))))
  ·refine jc_block ?_
   obtain ⟨t_6, ht_79, hr_71⟩ := bd h
   refine jc_loop (fun (s : (Arr 96 Int) × Int) (x : Unit) => match s, x with | ⟨a_3, i_4⟩, _ => True) (fun (s : (Arr 96 Int) × Int) (x : Unit) => match s, x with | ⟨a_3, i_4⟩, _ => [(2, [], (.pointer (some ⟨b_1, 0, none⟩))), (4, [], (.pointer (some ⟨b_3, 0, none⟩))), (7, [], (.agg (row encU32 e1.1 []).toArray)), (8, [], (.int .i64 i_4))]) (fun (s : (Arr 96 Int) × Int) (x : Unit) => match s, x with | ⟨a_3, i_4⟩, _ => [⟨(some b_1), 31, row encU32 a_3.1 []⟩, ⟨(some b_2), 31, row encU32 e1.1 []⟩, ⟨(some b_3), 31, row encU32 ((Arr.rep 96 0).1) []⟩]) ht_79 () trivial (by kernel_rfl) [0, 1, 2] (by kernel_rfl) (by kernel_rfl) ?_
   rintro ⟨a_3, i_4⟩ _ y_72 _ h
   rw [impl_Drum_less.l_5] at h
   refine jc_seq (jc_region (qh [0] (qe (jx_then (jc_seq (qi h (fun h => ?_) (fun h => ?_)))))))
   ·refine jc_skip (jx_then (jc_seq (jc_block (jc_seq (jc_region (qh [0] ?_))))))
    obtain ⟨x_7, hx_75, h⟩ := bd h
    refine tO (p_ixA 0 encU32 (fun x => (.int .u32 x)) e1 i_4 (by kernel_rfl) (by kernel_rfl) (fun _ => rfl) hx_75 (jkO (qh [0,0] (qe (jx_then (jc_region (qh [0] ?_)))))))
    obtain ⟨x_8, hx_76, h⟩ := bd h
    refine tO (qx 0 (some ⟨b_1, 0, none⟩) 1 hx_76 a_3.2 rfl (jkO (tO (ql 0 false (fun w hm => ((hm.ow 0 (some b_1) 31 a_3.1 [] (fun e => nomatch e) encU32_len).at hx_76)) (jkO (qh [0,0] ?_))))))
    obtain ⟨x_9, hx_77, h⟩ := bd h
    exact tO (qx 0 (some ⟨b_1, 0, none⟩) 1 hx_77 a_3.2 rfl (jkO (tO (p_str 0 0 b_1 31 encU32 a_3.1 [] i_4 (bClr .u32 x_8 x_7) 1 0 [(.int .u32 (bClr .u32 x_8 x_7))] (by kernel_rfl) (by kernel_rfl) (by kernel_rfl) encU32_len hx_77 (by kernel_rfl) (by kernel_rfl) (jkO (qe (jx_inn (jx_then (jc_region (qh [0,0] (qe (qb ((Arr.set a_3 i_4 (bClr .u32 x_8 x_7)), (w64 (i_4 + 1))) () h trivial [0, 1, 2]))))))))))))
   ·refine jc_exit (jx_thenx (jx_leave a_3 (Option.some.inj h).symm (fun e_78 => ?_)))
    subst e_78
    exact jx_ine (qm a_3 hr_71 [0, 1, 2])
  ·rintro a_1 h
   replace h : impl_Drum_less.k_2 a_1 = some r := h
   rw [impl_Drum_less.k_2] at h
   refine jx_then (jc_seq (jc_region (tO (p_ldA 0 0 b_1 96 1 31 encU32 a_1 (by kernel_rfl) (by kernel_rfl) (by kernel_rfl) encU32_len (by kernel_rfl) (jkO (tO (p_sA 0 2 b_3 96 1 31 encU32 (Arr.rep 96 0) a_1 (by kernel_rfl) (by kernel_rfl) (by kernel_rfl) encU32_len encU32_cell (by kernel_rfl) (jkO (qe (jx_then (jc_ret ?_)))))))))))
   obtain rfl := Option.some.inj h
   exact jx_retV rfl (rq_arr (b := b_3) (T' := 31) (hh := 2) (mm := 1) encU32 a_1 (by kernel_rfl) (by kernel_rfl) encU32_len (by kernel_rfl) rq_nil) (fun w hm => ⟨rfl, hm.pk []⟩)
/-! ### (*impl.Drum).has -/
def impl_Drum_has (d0 : Arr 96 Int) (step1 : Int) (track2 : Int) : Option (Bool) := (ix d0.1 step1).bind fun x_1 => (if 0 ≤ track2 then some ((bAnd .u32 (bShr .u32 x_1 track2) 1) == 1) else none)
theorem impl_Drum_has.calls (d0 : Arr 96 Int) (step1 : Int) (track2 : Int) (w : World) (r : Bool) {A_b A_q : Nat} (A_h : Rw w (some ⟨A_b, A_q, none⟩) 1 encU32 d0.1) (h : impl_Drum_has d0 step1 track2 = some r) :
    Calls Tryz.prog 91 #[(.pointer (some ⟨A_b, A_q, none⟩)), (.int .i64 step1), (.int .i64 track2)] w fun e w' => ∃ v, e = .returned v ∧ (v = (.bool r) ∧ Mem w [] [] w') := by
  rw [impl_Drum_has] at h
  refine enter (args := [(.pointer (some ⟨A_b, A_q, none⟩)), (.int .i64 step1), (.int .i64 track2)]) Tryz.func91 rfl Tryz.ntmps91 (by kernel_rfl) (L := []) (W := []) (Mem.start w) ?_
  refine jc_seq (jc_region (qh [0] (qe (jx_then (jc_seq (jc_region (qh [0,0,0] ?_)))))))
  obtain ⟨x_1, hx_1, h⟩ := bd h
  refine tO (qx 0 (some ⟨A_b, A_q, none⟩) 1 hx_1 d0.2 (A_h.sp hx_1) (jkO (tO (ql 0 false (fun w hm => ((hm.xr A_h).at hx_1)) (jkO (qh [0] ?_))))))
  obtain ⟨hg_2, h⟩ := gd h
  refine tO (p_shr 0 .u32 x_1 .i64 track2 (by kernel_rfl) (by kernel_rfl) hg_2 (jkO (qh [0,0,0] (qe (jx_then (jc_ret ?_))))))
  obtain rfl := Option.some.inj h
  exact qr [] (fun w hm => ⟨rfl, hm.pk []⟩)
/-! ### (impl.Frame).listed$1 -/
def impl_Frame_listed_1 (step0 : Int) (track1 : Int) (p2 : List (Arr 2 Int)) : Option ((List (Arr 2 Int))) := (if p2.length + ([(Arr.set (Arr.set (Arr.rep 2 0) 0 step0) 1 track1)] : List (Arr 2 Int)).length ≤ 4294967296 then some (p2 ++ ([(Arr.set (Arr.set (Arr.rep 2 0) 0 step0) 1 track1)] : List (Arr 2 Int))) else none)
theorem impl_Frame_listed_1.calls (step0 : Int) (track1 : Int) (p2 : List (Arr 2 Int)) (w : World) (r : (List (Arr 2 Int))) (C_b : Nat) (C_o : Option Nat) {C_on : Nat} {C_c : Nat} {C_sp : List Value} (C_hn : p2.length = C_on) (C_hs : C_o ≠ none → C_on ≤ C_c ∧ C_sp.length = (C_c - C_on) * 2) (C_ho : C_o = none → p2 = [] ∧ C_c = 0) (hm0 : Mem w (bs [some C_b, C_o]) [⟨some C_b, 54, [(.slice (C_o.map fun b => ⟨b, 0, none⟩) C_on C_c)]⟩, ⟨C_o, 58, row encA2I64 p2 C_sp⟩] w) (h : impl_Frame_listed_1 step0 track1 p2 = some r) :
    Calls Tryz.prog 78 #[(.int .i64 step0), (.int .i64 track1), (.pointer (some ⟨C_b, 0, none⟩))] w fun e w' => ∃ v, e = .returned v ∧ (∃ (mo0 : Option Nat) (mc0 : Nat) (ms0 : List Value) (mn0 : Nat), r.length = mn0 ∧ (mo0 ≠ none → mn0 ≤ mc0 ∧ ms0.length = (mc0 - mn0) * 2) ∧ (mo0 = none → r = [] ∧ mc0 = 0) ∧ v = .tuple #[] ∧ Mem w (bs [some C_b, C_o]) [⟨some C_b, 54, [(.slice (mo0.map fun b => ⟨b, 0, none⟩) mn0 mc0)]⟩, ⟨mo0, 58, row encA2I64 r ms0⟩] w') := by
  subst C_hn
  rw [impl_Frame_listed_1] at h
  refine enter (args := [(.int .i64 step0), (.int .i64 track1), (.pointer (some ⟨C_b, 0, none⟩))]) Tryz.func78 rfl Tryz.ntmps78 (by kernel_rfl) (L := [⟨some C_b, 54, [(.slice (C_o.map fun b => ⟨b, 0, none⟩) p2.length C_c)]⟩, ⟨C_o, 58, row encA2I64 p2 C_sp⟩]) (W := bs [some C_b, C_o]) hm0 ?_
  refine jc_region (qh [0,0,0,0] (tO (p_bs 0 58 2 1 encA2I64 [(.agg (row encI64 (Arr.set (Arr.set (Arr.rep 2 0) 0 step0) 1 track1).1 []).toArray)] [(Arr.set (Arr.set (Arr.rep 2 0) 0 step0) 1 track1)] (by kernel_rfl) (by kernel_rfl) rfl (by kernel_rfl) (by kernel_rfl) encA2I64_len (fun b_1 => jkO ?_))))
  obtain ⟨hg_2, h⟩ := gd h
  refine tO (p_apn 0 1 C_o 58 p2.length 1 C_c 2 16 (some ⟨b_1, 0, none⟩) encA2I64 p2 ([(Arr.set (Arr.set (Arr.rep 2 0) 0 step0) 1 track1)] : List (Arr 2 Int)) C_sp (.agg (row encI64 (Arr.rep 2 0).1 []).toArray) rfl rfl (by kernel_rfl) (by kernel_rfl) (by kernel_rfl) encA2I64_len encA2I64_cell C_hs C_ho (fun w hm => (hm.ow 2 (some b_1) 58 ([(Arr.set (Arr.set (Arr.rep 2 0) 0 step0) 1 track1)] : List (Arr 2 Int)) [] (fun e => nomatch e) encA2I64_len)) hg_2 (by kernel_rfl) (by kernel_rfl) (fun o_3 cap_4 sp_5 hs_6 ho_7 => jkO (tO (qs 0 [0] (jkO (qe (jx_fall ?_)))))))
  obtain rfl := Option.some.inj h
  exact qr [] (fun w hm => ⟨o_3, cap_4, sp_5, ((p2 ++ ([(Arr.set (Arr.set (Arr.rep 2 0) 0 step0) 1 track1)] : List (Arr 2 Int))).length), rfl, hs_6, ho_7, rfl, hm.pk [0, 1]⟩)
/-! ### (impl.Frame).pins -/
def impl_Frame_pins_at_impl_Frame_listed_1.k_2 (xs_1 : List (Arr 2 Int)) : Option ((List (Arr 2 Int))) := some xs_1
def impl_Frame_pins_at_impl_Frame_listed_1.k_9 (i_4 : Int) (xs_8 : List (Arr 2 Int)) : Option (((List (Arr 2 Int)) × Int) ⊕ ((List (Arr 2 Int)))) := some (.inl (xs_8, (w64 (i_4 + 1))))
def impl_Frame_pins_at_impl_Frame_listed_1.l_12 (d1 : Arr 96 Int) (i_4 : Int) (t_7 : Int) : ((List (Arr 2 Int)) × Int) → Option (((List (Arr 2 Int)) × Int) ⊕ ((List (Arr 2 Int))))
  | (xs_10, i_11) => (if (decide (i_11 < t_7)) = true then (impl_Drum_has d1 i_4 i_11).bind fun t_14 => (if t_14 = true then (impl_Frame_listed_1 i_4 i_11 xs_10).bind fun t_15 => some (.inl (t_15, (w64 (i_11 + 1)))) else some (.inl (xs_10, (w64 (i_11 + 1))))) else some (.inr xs_10))
def impl_Frame_pins_at_impl_Frame_listed_1.l_5 (f0 : GFrame) (d1 : Arr 96 Int) : ((List (Arr 2 Int)) × Int) → Option (((List (Arr 2 Int)) × Int) ⊕ ((List (Arr 2 Int))))
  | (xs_3, i_4) => (if (decide (i_4 < (w64 f0.fSteps))) = true then (impl_size_Hammer f0.fHammers).bind fun t_7 => (loop (impl_Frame_pins_at_impl_Frame_listed_1.l_12 d1 i_4 t_7) (xs_3, 0)).bind fun t_13 => impl_Frame_pins_at_impl_Frame_listed_1.k_9 i_4 t_13 else some (.inr xs_3))
def impl_Frame_pins_at_impl_Frame_listed_1 (f0 : GFrame) (d1 : Arr 96 Int) (g2c0 : List (Arr 2 Int)) : Option ((List (Arr 2 Int))) := (loop (impl_Frame_pins_at_impl_Frame_listed_1.l_5 f0 d1) (g2c0, 0)).bind fun t_6 => impl_Frame_pins_at_impl_Frame_listed_1.k_2 t_6
theorem impl_Frame_pins_at_impl_Frame_listed_1.calls (f0 : GFrame) (d1 : Arr 96 Int) (g2c0 : List (Arr 2 Int)) (w : World) (r : (List (Arr 2 Int))) {C_a : Option Addr} {C_an : Nat} (C_c : Nat) (C_h : Rw w C_a 2 encGHammer f0.fHammers) (C_hn : f0.fHammers.length = C_an) (E_b : Nat) (E_o : Option Nat) {E_on : Nat} {E_c : Nat} {E_sp : List Value} (E_hn : g2c0.length = E_on) (E_hs : E_o ≠ none → E_on ≤ E_c ∧ E_sp.length = (E_c - E_on) * 2) (E_ho : E_o = none → g2c0 = [] ∧ E_c = 0) (hm0 : Mem w (bs [some E_b, E_o]) [⟨some E_b, 54, [(.slice (E_o.map fun b => ⟨b, 0, none⟩) E_on E_c)]⟩, ⟨E_o, 58, row encA2I64 g2c0 E_sp⟩] w) (C_ha : f0.fHammers ≠ [] → aB C_a ∉ bs [some E_b, E_o]) (h : impl_Frame_pins_at_impl_Frame_listed_1 f0 d1 g2c0 = some r) :
    Calls Tryz.prog 77 #[(.agg #[(.int .i16 f0.fSteps), (.slice C_a C_an C_c)]), (.agg (row encU32 d1.1 []).toArray), (.func (.func 78) #[] #[(.pointer (some ⟨E_b, 0, none⟩))])] w fun e w' => ∃ v, e = .returned v ∧ (∃ (mo0 : Option Nat) (mc0 : Nat) (ms0 : List Value) (mn0 : Nat), r.length = mn0 ∧ (mo0 ≠ none → mn0 ≤ mc0 ∧ ms0.length = (mc0 - mn0) * 2) ∧ (mo0 = none → r = [] ∧ mc0 = 0) ∧ v = .tuple #[] ∧ Mem w (bs [some E_b, E_o]) [⟨some E_b, 54, [(.slice (mo0.map fun b => ⟨b, 0, none⟩) mn0 mc0)]⟩, ⟨mo0, 58, row encA2I64 r ms0⟩] w') := by
  subst C_hn E_hn
  rw [impl_Frame_pins_at_impl_Frame_listed_1] at h
  refine enter (args := [(.agg #[(.int .i16 f0.fSteps), (.slice C_a f0.fHammers.length C_c)]), (.agg (row encU32 d1.1 []).toArray), (.func (.func 78) #[] #[(.pointer (some ⟨E_b, 0, none⟩))])]) Tryz.func77 rfl Tryz.ntmps77 (by kernel_rfl) (L := [⟨some E_b, 54, [(.slice (E_o.map fun b => ⟨b, 0, none⟩) g2c0.length E_c)]⟩, ⟨E_o, 58, row encA2I64 g2c0 E_sp⟩]) (W := bs [some E_b, E_o]) hm0 ?_
  refine jc_seq (jc_region (tO (qa 0 (fun b_1 => jkO (tO (qa 0 (fun b_2 => jkO (qe (jx_then (jc_seq (jc_region (qh [0,2,0,0] (qe (jx_then (jc_meet (fun (j : (List (Arr 2 Int)) × (Option Nat) × Nat × (List Value) × Nat) => match j with | ⟨xs_1, o_322, cap_323, sp_324, n_325⟩ => impl_Frame_pins_at_impl_Frame_listed_1.k_2 xs_1 = some r ∧ (xs_1.length = n_325) ∧ ((o_322 ≠ none → n_325 ≤ cap_323 ∧ sp_324.length = (cap_323 - n_325) * 2)) ∧ ((o_322 = none → xs_1 = [] ∧ cap_323 = 0))) (fun (j : (List (Arr 2 Int)) × (Option Nat) × Nat × (List Value) × Nat) => match j with | ⟨xs_1, o_322, cap_323, sp_324, n_325⟩ => []) (fun (j : (List (Arr 2 Int)) × (Option Nat) × Nat × (List Value) × Nat) => match j with | ⟨xs_1, o_322, cap_323, sp_324, n_325⟩ => [⟨some E_b, 54, [(.slice (o_322.map fun b => ⟨b, 0, none⟩) n_325 cap_323)]⟩, ⟨o_322, 58, row encA2I64 xs_1 sp_324⟩, ⟨some b_1, 27, [(.int .i16 f0.fSteps), (.slice C_a f0.fHammers.length C_c)]⟩, ⟨(some b_2), 31, row encU32 d1.1 []⟩]) ?_ ?_)))))))))))))))
  ·refine jc_block ?_
   obtain ⟨t_6, ht_646, hr_542⟩ := bd h
   refine jc_loop (fun (s : (List (Arr 2 Int)) × Int) (x : (Option Nat) × Nat × (List Value) × Nat) => match s, x with | ⟨xs_3, i_4⟩, ⟨o_536, cap_537, sp_538, n_539⟩ => (xs_3.length = n_539) ∧ ((o_536 ≠ none → n_539 ≤ cap_537 ∧ sp_538.length = (cap_537 - n_539) * 2)) ∧ ((o_536 = none → xs_3 = [] ∧ cap_537 = 0))) (fun (s : (List (Arr 2 Int)) × Int) (x : (Option Nat) × Nat × (List Value) × Nat) => match s, x with | ⟨xs_3, i_4⟩, ⟨o_536, cap_537, sp_538, n_539⟩ => [(2, [], (.func (.func 78) #[] #[(.pointer (some ⟨E_b, 0, none⟩))])), (3, [], (.pointer (some ⟨b_1, 0, none⟩))), (4, [], (.pointer (some ⟨b_2, 0, none⟩))), (10, [], (.int .i64 (w64 f0.fSteps))), (11, [], (.int .i64 i_4))]) (fun (s : (List (Arr 2 Int)) × Int) (x : (Option Nat) × Nat × (List Value) × Nat) => match s, x with | ⟨xs_3, i_4⟩, ⟨o_536, cap_537, sp_538, n_539⟩ => [⟨some E_b, 54, [(.slice (o_536.map fun b => ⟨b, 0, none⟩) n_539 cap_537)]⟩, ⟨o_536, 58, row encA2I64 xs_3 sp_538⟩, ⟨some b_1, 27, [(.int .i16 f0.fSteps), (.slice C_a f0.fHammers.length C_c)]⟩, ⟨(some b_2), 31, row encU32 d1.1 []⟩]) ht_646 ⟨E_o, E_c, E_sp, g2c0.length⟩ ⟨rfl, E_hs, E_ho⟩ (by kernel_rfl) [0, 1, 2, 3] (by kernel_rfl) (by kernel_rfl) ?_
   rintro ⟨xs_3, i_4⟩ ⟨o_536, cap_537, sp_538, n_539⟩ y_543 ⟨rfl, hs_540, ho_541⟩ h
   rw [impl_Frame_pins_at_impl_Frame_listed_1.l_5] at h
   refine jc_seq (jc_region (qh [0] (qe (jx_then (jc_seq (qi h (fun h => ?_) (fun h => ?_)))))))
   ·refine jc_skip (jx_then (jc_seq (jc_block (jc_seq (jc_region (qh [0,0] (qe (jx_then (jc_seq (jc_region (qh [0,2] ?_)))))))))))
    obtain ⟨t_7, ht_546, h⟩ := bd h
    refine tO (pc 0 (fun w hm => impl_size_Hammer.calls f0.fHammers w _ C_c (hm.exRowW C_h C_ha) rfl ht_546) ?_)
    rintro w v w' hm ⟨rfl, hm'⟩
    refine ⟨_, hm.app hm', jkO ?_⟩
    clear hm hm'
    refine qh [0] (qe (jx_then (jc_meet (fun (j : (List (Arr 2 Int)) × (Option Nat) × Nat × (List Value) × Nat) => match j with | ⟨xs_8, o_593, cap_594, sp_595, n_596⟩ => impl_Frame_pins_at_impl_Frame_listed_1.k_9 i_4 xs_8 = some y_543 ∧ (xs_8.length = n_596) ∧ ((o_593 ≠ none → n_596 ≤ cap_594 ∧ sp_595.length = (cap_594 - n_596) * 2)) ∧ ((o_593 = none → xs_8 = [] ∧ cap_594 = 0))) (fun (j : (List (Arr 2 Int)) × (Option Nat) × Nat × (List Value) × Nat) => match j with | ⟨xs_8, o_593, cap_594, sp_595, n_596⟩ => [(2, [], (.func (.func 78) #[] #[(.pointer (some ⟨E_b, 0, none⟩))])), (3, [], (.pointer (some ⟨b_1, 0, none⟩))), (4, [], (.pointer (some ⟨b_2, 0, none⟩))), (10, [], (.int .i64 (w64 f0.fSteps))), (11, [], (.int .i64 i_4))]) (fun (j : (List (Arr 2 Int)) × (Option Nat) × Nat × (List Value) × Nat) => match j with | ⟨xs_8, o_593, cap_594, sp_595, n_596⟩ => [⟨some E_b, 54, [(.slice (o_593.map fun b => ⟨b, 0, none⟩) n_596 cap_594)]⟩, ⟨o_593, 58, row encA2I64 xs_8 sp_595⟩, ⟨some b_1, 27, [(.int .i16 f0.fSteps), (.slice C_a f0.fHammers.length C_c)]⟩, ⟨(some b_2), 31, row encU32 d1.1 []⟩]) ?_ ?_)))
    ·refine jc_block ?_
     obtain ⟨t_13, ht_644, hr_631⟩ := bd h
     refine jc_loop (fun (s : (List (Arr 2 Int)) × Int) (x : (Option Nat) × Nat × (List Value) × Nat) => match s, x with | ⟨xs_10, i_11⟩, ⟨o_625, cap_626, sp_627, n_628⟩ => (xs_10.length = n_628) ∧ ((o_625 ≠ none → n_628 ≤ cap_626 ∧ sp_627.length = (cap_626 - n_628) * 2)) ∧ ((o_625 = none → xs_10 = [] ∧ cap_626 = 0))) (fun (s : (List (Arr 2 Int)) × Int) (x : (Option Nat) × Nat × (List Value) × Nat) => match s, x with | ⟨xs_10, i_11⟩, ⟨o_625, cap_626, sp_627, n_628⟩ => [(2, [], (.func (.func 78) #[] #[(.pointer (some ⟨E_b, 0, none⟩))])), (3, [], (.pointer (some ⟨b_1, 0, none⟩))), (4, [], (.pointer (some ⟨b_2, 0, none⟩))), (6, [], (.int .i64 i_4)), (10, [], (.int .i64 (w64 f0.fSteps))), (11, [], (.int .i64 i_4)), (16, [], (.int .i64 t_7)), (17, [], (.int .i64 i_11))]) (fun (s : (List (Arr 2 Int)) × Int) (x : (Option Nat) × Nat × (List Value) × Nat) => match s, x with | ⟨xs_10, i_11⟩, ⟨o_625, cap_626, sp_627, n_628⟩ => [⟨some E_b, 54, [(.slice (o_625.map fun b => ⟨b, 0, none⟩) n_628 cap_626)]⟩, ⟨o_625, 58, row encA2I64 xs_10 sp_627⟩, ⟨some b_1, 27, [(.int .i16 f0.fSteps), (.slice C_a f0.fHammers.length C_c)]⟩, ⟨(some b_2), 31, row encU32 d1.1 []⟩]) ht_644 ⟨o_536, cap_537, sp_538, xs_3.length⟩ ⟨rfl, hs_540, ho_541⟩ (by kernel_rfl) [0, 1, 2, 3] (by kernel_rfl) (by kernel_rfl) ?_
     rintro ⟨xs_10, i_11⟩ ⟨o_625, cap_626, sp_627, n_628⟩ y_632 ⟨rfl, hs_629, ho_630⟩ h
     rw [impl_Frame_pins_at_impl_Frame_listed_1.l_12] at h
     refine jc_seq (jc_region (qh [0] (qe (jx_then (jc_seq (qi h (fun h => ?_) (fun h => ?_)))))))
     ·refine jc_skip (jx_then (jc_seq (jc_block (jc_seq (jc_region (qh [0,0] (qe (jx_then (jc_seq (jc_region (qh [0,0] ?_)))))))))))
      obtain ⟨t_14, ht_635, h⟩ := bd h
      refine tO (pc 0 (fun w hm => impl_Drum_has.calls d1 i_4 i_11 w _ (hm.ow 3 (some b_2) 31 d1.1 [] (fun e => nomatch e) encU32_len) ht_635) ?_)
      rintro w v w' hm ⟨rfl, hm'⟩
      refine ⟨_, hm.app hm', jkO ?_⟩
      clear hm hm'
      refine qe (jx_then (qi h (fun h => ?_) (fun h => ?_)))
      ·refine jc_region (qh [0,0,0] ?_)
       obtain ⟨t_15, ht_637, h⟩ := bd h
       refine tO (pc 0 (fun w hm => impl_Frame_listed_1.calls i_4 i_11 xs_10 w _ E_b o_625 rfl hs_629 ho_630 (hm.pass (N := [⟨some E_b, 54, [(.slice (o_625.map fun b => ⟨b, 0, none⟩) xs_10.length cap_626)]⟩, ⟨o_625, 58, row encA2I64 xs_10 sp_627⟩]) [0, 1] (by kernel_rfl) (by kernel_rfl)) ht_637) ?_)
       rintro w v w' hm ⟨o_638, cap_639, sp_640, _, rfl, hs_641, ho_642, rfl, hm'⟩
       refine ⟨_, Mem.pick (hm.appP (ps := [(0, ⟨some E_b, 54, [(.slice (o_638.map fun b => ⟨b, 0, none⟩) t_15.length cap_639)]⟩)]) (ds := [1]) (N := [⟨o_638, 58, row encA2I64 t_15 sp_640⟩]) hm' [0, 1] (by kernel_rfl) (by kernel_rfl) (by kernel_rfl)) (N := [⟨some E_b, 54, [(.slice (o_638.map fun b => ⟨b, 0, none⟩) t_15.length cap_639)]⟩, ⟨o_638, 58, row encA2I64 t_15 sp_640⟩, ⟨some b_1, 27, [(.int .i16 f0.fSteps), (.slice C_a f0.fHammers.length C_c)]⟩, ⟨(some b_2), 31, row encU32 d1.1 []⟩]) [0, 4, 2, 3] (by kernel_rfl) (by kernel_rfl), jkO ?_⟩
       clear hm hm'
       exact qe (jx_inn (jx_then (jc_region (qh [0,0] (qe (qb (t_15, (w64 (i_11 + 1))) ⟨o_638, cap_639, sp_640, t_15.length⟩ h ⟨rfl, hs_641, ho_642⟩ [0, 1, 2, 3]))))))
      ·exact jc_skip (jx_inn (jx_then (jc_region (qh [0,0] (qe (qb (xs_10, (w64 (i_11 + 1))) ⟨o_625, cap_626, sp_627, xs_10.length⟩ h ⟨rfl, hs_629, ho_630⟩ [0, 1, 2, 3]))))))
     ·refine jc_exit (jx_thenx (jx_leave xs_10 (Option.some.inj h).symm (fun e_643 => ?_)))
      subst e_643
      exact jx_ine (qm ⟨xs_10, o_625, cap_626, sp_627, xs_10.length⟩ ⟨hr_631, rfl, hs_629, ho_630⟩ [0, 1, 2, 3])
    ·rintro ⟨xs_8, o_593, cap_594, sp_595, n_596⟩ ⟨h, rfl, hs_597, ho_598⟩
     replace h : impl_Frame_pins_at_impl_Frame_listed_1.k_9 i_4 xs_8 = some y_543 := h
     rw [impl_Frame_pins_at_impl_Frame_listed_1.k_9] at h
     exact jx_inn (jx_then (jc_region (qh [0,0] (qe (qb (xs_8, (w64 (i_4 + 1))) ⟨o_593, cap_594, sp_595, xs_8.length⟩ h ⟨rfl, hs_597, ho_598⟩ [0, 1, 2, 3])))))
   ·refine jc_exit (jx_thenx (jx_leave xs_3 (Option.some.inj h).symm (fun e_645 => ?_)))
    subst e_645
    exact jx_ine (qm ⟨xs_3, o_536, cap_537, sp_538, xs_3.length⟩ ⟨hr_542, rfl, hs_540, ho_541⟩ [0, 1, 2, 3])
  ·rintro ⟨xs_1, o_322, cap_323, sp_324, n_325⟩ ⟨h, rfl, hs_326, ho_327⟩
   replace h : impl_Frame_pins_at_impl_Frame_listed_1.k_2 xs_1 = some r := h
   rw [impl_Frame_pins_at_impl_Frame_listed_1.k_2] at h
   refine jx_fall ?_
   obtain rfl := Option.some.inj h
   exact qr [] (fun w hm => ⟨o_322, cap_323, sp_324, xs_1.length, rfl, hs_326, ho_327, rfl, hm.pk [0, 1]⟩)
/-! ### (impl.Frame).listed -/
def impl_Frame_listed (f0 : GFrame) (d1 : Arr 96 Int) : Option ((List (Arr 2 Int))) := (impl_Frame_pins_at_impl_Frame_listed_1 f0 d1 ([] : List (Arr 2 Int))).bind fun t_1 => some t_1
theorem impl_Frame_listed.calls (f0 : GFrame) (d1 : Arr 96 Int) (w : World) (r : (List (Arr 2 Int))) {C_a : Option Addr} {C_an : Nat} (C_c : Nat) (C_h : Rw w C_a 2 encGHammer f0.fHammers) (C_hn : f0.fHammers.length = C_an) (h : impl_Frame_listed f0 d1 = some r) :
    Calls Tryz.prog 52 #[(.agg #[(.int .i16 f0.fSteps), (.slice C_a C_an C_c)]), (.agg (row encU32 d1.1 []).toArray)] w fun e w' => ∃ v, e = .returned v ∧ (∃ (o0 : Option Nat) (c0 : Nat) (s0 : List Value) (n0 : Nat), r.length = n0 ∧ (o0 ≠ none → n0 ≤ c0 ∧ s0.length = (c0 - n0) * 2) ∧ (o0 = none → r = [] ∧ c0 = 0) ∧ v = .slice (o0.map fun b => ⟨b, 0, none⟩) n0 c0 ∧ Mem w [] [⟨o0, 58, row encA2I64 r s0⟩] w') := by
  subst C_hn
  rw [impl_Frame_listed] at h
  refine enter (args := [(.agg #[(.int .i16 f0.fSteps), (.slice C_a f0.fHammers.length C_c)]), (.agg (row encU32 d1.1 []).toArray)]) Tryz.func52 rfl Tryz.ntmps52 (by kernel_rfl) (L := []) (W := []) (Mem.start w) ?_
  refine jc_seq (jc_region (tO (qa 0 (fun b_1 => jkO (tO (qa 0 (fun b_2 => jkO (qh [0] (qe (jx_then (jc_seq (jc_region (tO (qa 0 (fun b_3 => jkO (tO (qa 0 (fun b_4 => jkO (tO (qs 0 [3] (jkO (qe (jx_then (jc_seq (jc_region (qh [0] (tO (p_ldA 0 1 b_2 96 1 31 encU32 d1 (by kernel_rfl) (by kernel_rfl) (by kernel_rfl) encU32_len (by kernel_rfl) (jkO (qh [0] ?_))))))))))))))))))))))))))))))
  obtain ⟨t_1, ht_5, h⟩ := bd h
  refine tO (pc 0 (fun w hm => impl_Frame_pins_at_impl_Frame_listed_1.calls f0 d1 ([] : List (Arr 2 Int)) w _ C_c (hm.xr C_h) rfl b_4 (some b_3) rfl (fun _ => ⟨Nat.le_refl _, by simp⟩) (fun e => nomatch e) (hm.pass (N := [⟨some b_4, 54, [(.slice (some ⟨b_3, 0, none⟩) 0 0)]⟩, ⟨(some b_3), 58, row encA2I64 ([] : List (Arr 2 Int)) []⟩]) [3, 2] (by kernel_rfl) (by kernel_rfl)) (hm.exApart (N := [⟨some b_4, 54, [(.slice (some ⟨b_3, 0, none⟩) 0 0)]⟩, ⟨(some b_3), 58, row encA2I64 ([] : List (Arr 2 Int)) []⟩]) C_h (fun _ => List.not_mem_nil) [3, 2] (by kernel_rfl)) ht_5) ?_)
  rintro w v w' hm ⟨o_6, cap_7, sp_8, _, rfl, hs_9, ho_10, rfl, hm'⟩
  refine ⟨_, Mem.pick (hm.appP (ps := [(3, ⟨some b_4, 54, [(.slice (o_6.map fun b => ⟨b, 0, none⟩) t_1.length cap_7)]⟩)]) (ds := [2]) (N := [⟨o_6, 58, row encA2I64 t_1 sp_8⟩]) hm' [0, 1] (by kernel_rfl) (by kernel_rfl) (by kernel_rfl)) (N := [⟨some b_1, 27, [(.int .i16 f0.fSteps), (.slice C_a f0.fHammers.length C_c)]⟩, ⟨(some b_2), 31, row encU32 d1.1 []⟩, ⟨o_6, 58, row encA2I64 t_1 sp_8⟩, ⟨some b_4, 54, [(.slice (o_6.map fun b => ⟨b, 0, none⟩) t_1.length cap_7)]⟩]) [0, 1, 4, 3] (by kernel_rfl) (by kernel_rfl), jkO ?_⟩
  clear hm hm'
  refine qe (jx_then (jc_seq (jc_region (qh [3,0] (qe (jx_then (jc_ret ?_)))))))
  obtain rfl := Option.some.inj h
  exact qr [] (fun w hm => ⟨o_6, cap_7, sp_8, t_1.length, rfl, hs_9, ho_10, rfl, hm.pk [2]⟩)
/-! ### impl.MovesBetween -/
def impl_MovesBetween (f0 : GFrame) (a1 : Arr 96 Int) (b2 : Arr 96 Int) : Option ((List (Arr 2 Int)) × (List (Arr 2 Int)) × Int) := (impl_drumCode f0 ([a1, b2] : List (Arr 96 Int))).bind fun t_1 => (if (t_1 != 0) = true then some ([], [], t_1) else (impl_Drum_less a1 b2).bind fun t_2 => (impl_Frame_listed f0 t_2).bind fun t_3 => (impl_Drum_less b2 a1).bind fun t_4 => (impl_Frame_listed f0 t_4).bind fun t_5 => some (t_3, t_5, 0))
theorem impl_MovesBetween.calls (f0 : GFrame) (a1 : Arr 96 Int) (b2 : Arr 96 Int) (w : World) (r : (List (Arr 2 Int)) × (List (Arr 2 Int)) × Int) {C_a : Option Addr} {C_an : Nat} (C_c : Nat) (C_h : Rw w C_a 2 encGHammer f0.fHammers) (C_hn : f0.fHammers.length = C_an) (h : impl_MovesBetween f0 a1 b2 = some r) :
    Calls Tryz.prog 25 #[(.agg #[(.int .i16 f0.fSteps), (.slice C_a C_an C_c)]), (.agg (row encU32 a1.1 []).toArray), (.agg (row encU32 b2.1 []).toArray)] w fun e w' => ∃ v, e = .returned v ∧ (∃ (o0 : Option Nat) (c0 : Nat) (s0 : List Value) (n0 : Nat), r.1.length = n0 ∧ (o0 ≠ none → n0 ≤ c0 ∧ s0.length = (c0 - n0) * 2) ∧ (o0 = none → r.1 = [] ∧ c0 = 0) ∧ ∃ (o1 : Option Nat) (c1 : Nat) (s1 : List Value) (n1 : Nat), r.2.1.length = n1 ∧ (o1 ≠ none → n1 ≤ c1 ∧ s1.length = (c1 - n1) * 2) ∧ (o1 = none → r.2.1 = [] ∧ c1 = 0) ∧ v = .tuple #[.slice (o0.map fun b => ⟨b, 0, none⟩) n0 c0, .slice (o1.map fun b => ⟨b, 0, none⟩) n1 c1, (.int .i64 r.2.2)] ∧ Mem w [] [⟨o0, 58, row encA2I64 r.1 s0⟩, ⟨o1, 58, row encA2I64 r.2.1 s1⟩] w') := by
  subst C_hn
  rw [impl_MovesBetween] at h
  refine enter (args := [(.agg #[(.int .i16 f0.fSteps), (.slice C_a f0.fHammers.length C_c)]), (.agg (row encU32 a1.1 []).toArray), (.agg (row encU32 b2.1 []).toArray)]) Tryz.func25 rfl Tryz.ntmps25 (by kernel_rfl) (L := []) (W := []) (Mem.start w) ?_
  refine jc_seq (jc_region (tO (qa 0 (fun b_1 => jkO (tO (qa 0 (fun b_2 => jkO (tO (qa 0 (fun b_3 => jkO (qh [0,0,0] (qe (jx_then (jc_seq (jc_seq (jc_region (qh [0] (tO (p_ldA 0 1 b_2 96 1 31 encU32 a1 (by kernel_rfl) (by kernel_rfl) (by kernel_rfl) encU32_len (by kernel_rfl) (jkO (tO (p_ldA 0 2 b_3 96 1 31 encU32 b2 (by kernel_rfl) (by kernel_rfl) (by kernel_rfl) encU32_len (by kernel_rfl) (jkO (tO (p_bs 0 31 96 2 encA96U32 [(.agg (row encU32 a1.1 []).toArray), (.agg (row encU32 b2.1 []).toArray)] [a1, b2] (by kernel_rfl) (by kernel_rfl) rfl (by kernel_rfl) (by kernel_rfl) encA96U32_len (fun b_7 => jkO ?_))))))))))))))))))))))))))
  obtain ⟨t_1, ht_8, h⟩ := bd h
  refine tO (pc 0 (fun w hm => impl_drumCode.calls f0 ([a1, b2] : List (Arr 96 Int)) w _ C_c (hm.xr C_h) rfl 2 (hm.ow 3 (some b_7) 31 ([a1, b2] : List (Arr 96 Int)) [] (fun e => nomatch e) encA96U32_len) rfl ht_8) ?_)
  rintro w v w' hm ⟨rfl, hm'⟩
  refine ⟨_, hm.app hm', jkO ?_⟩
  clear hm hm'
  refine qh [0] (qe (jx_then (jc_seq (jc_region (qh [0,0] (qe (jx_then (qi h (fun h => ?_) (fun h => ?_)))))))))
  ·refine jc_seq (jc_region (qh [0,0,0,0] (qe (jx_then (jc_ret (jx_thenr ?_))))))
   obtain rfl := Option.some.inj h
   exact jx_ghost 58 encA2I64 (jx_ghost 58 encA2I64 (qr [] (fun w hm => ⟨none, 0, [], 0, rfl, (fun e => absurd rfl e), (fun _ => ⟨rfl, rfl⟩), none, 0, [], 0, rfl, (fun e => absurd rfl e), (fun _ => ⟨rfl, rfl⟩), rfl, hm.pk [4, 5]⟩)))
  ·refine jc_skip (jx_then (jc_seq (qg [⟨some b_1, 27, [(.int .i16 f0.fSteps), (.slice C_a f0.fHammers.length C_c)]⟩, ⟨(some b_2), 31, row encU32 a1.1 []⟩, ⟨(some b_3), 31, row encU32 b2.1 []⟩, ⟨(some b_7), 31, row encA96U32 ([a1, b2] : List (Arr 96 Int)) []⟩] 13 (qd [⟨0, 0, 0⟩,⟨5, 0, 0⟩] 11 [0, 1, 2, 3] (qv 1 0 [0, 1, 2, 3] (fun w hm => ld_run (b := b_2) (off := 0) (s := 96) (agg := true) (vs := row encU32 a1.1 []) (by kernel_rfl) ((row_len encU32_len a1).trans rfl) (.inl rfl) (hm.all (hh := 1) (T := 31) (by kernel_rfl))) (qv 2 0 [0, 1, 2, 3] (fun w hm => ld_run (b := b_3) (off := 0) (s := 96) (agg := true) (vs := row encU32 b2.1 []) (by kernel_rfl) ((row_len encU32_len b2).trans rfl) (.inl rfl) (hm.all (hh := 2) (T := 31) (by kernel_rfl))) (qv 6 0 [0, 1, 2, 3] (fun w hm => ld_run (b := b_3) (off := 0) (s := 96) (agg := true) (vs := row encU32 b2.1 []) (by kernel_rfl) ((row_len encU32_len b2).trans rfl) (.inl rfl) (hm.all (hh := 2) (T := 31) (by kernel_rfl))) (qv 7 0 [0, 1, 2, 3] (fun w hm => ld_run (b := b_2) (off := 0) (s := 96) (agg := true) (vs := row encU32 a1.1 []) (by kernel_rfl) ((row_len encU32_len a1).trans rfl) (.inl rfl) (hm.all (hh := 1) (T := 31) (by kernel_rfl))) ?_))))))))
   obtain ⟨t_2, ht_10, h⟩ := bd h
   refine tD 3 (pc 0 (fun w hm => impl_Drum_less.calls a1 b2 w _ ht_10) ?_)
   rintro w v w' hm ⟨rfl, hm'⟩
   refine ⟨_, hm.app hm', kD [0, 1, 2, 3] ?_⟩
   clear hm hm'
   obtain ⟨t_3, ht_11, h⟩ := bd h
   refine tD 4 (pc 0 (fun w hm => impl_Frame_listed.calls f0 t_2 w _ C_c (hm.xr C_h) rfl ht_11) ?_)
   rintro w v w' hm ⟨o_12, cap_13, sp_14, _, rfl, hs_15, ho_16, rfl, hm'⟩
   refine ⟨_, hm.app hm', kD [0, 1, 2, 3] ?_⟩
   clear hm hm'
   obtain ⟨t_4, ht_17, h⟩ := bd h
   refine tD 8 (pc 0 (fun w hm => impl_Drum_less.calls b2 a1 w _ ht_17) ?_)
   rintro w v w' hm ⟨rfl, hm'⟩
   refine ⟨_, hm.app hm', kD [0, 1, 2, 3] ?_⟩
   clear hm hm'
   obtain ⟨t_5, ht_18, h⟩ := bd h
   refine tD 9 (pc 0 (fun w hm => impl_Frame_listed.calls f0 t_4 w _ C_c (hm.xr C_h) rfl ht_18) ?_)
   rintro w v w' hm ⟨o_19, cap_20, sp_21, _, rfl, hs_22, ho_23, rfl, hm'⟩
   refine ⟨_, hm.app hm', kD [0, 1, 2, 3] ?_⟩
   clear hm hm'
   refine qd [⟨10, 0, 0⟩,⟨11, 0, 0⟩,⟨12, 0, 0⟩] 0 [0, 1, 2, 3] (qz (jx_then (jc_ret ?_)))
   obtain rfl := Option.some.inj h
   exact qr [] (fun w hm => ⟨o_12, cap_13, sp_14, t_3.length, rfl, hs_15, ho_16, o_19, cap_20, sp_21, t_5.length, rfl, hs_22, ho_23, rfl, hm.pk [4, 5]⟩)
def lay_grow53_ren : Go.Shelf.Ren := ⟨fun | 4 => 53 | n => n, fun | 22 => 54 | 25 => 58 | 3 => 3 | 4 => 4 | 9 => 9 | 20 => 20 | 0 => 0 | n => n, fun | n => n⟩
theorem lay_grow53 : Go.Proofs.Lays8.n4 Tryz.prog lay_grow53_ren where
  mixed := by kernel_rfl
  f4 := ⟨ "slices.Grow[[][2]int64,[2]int64]", by decide, Tryz.func53.trans (congrArg some (by kernel_rfl))⟩
  t0 := Tryz.underlying0
  a0 := Tryz.isAgg0
  z0 := Tryz.sizeOf0
  v0 := Tryz.zeroValue0
  t3 := Tryz.underlying3
  a3 := Tryz.isAgg3
  z3 := Tryz.sizeOf3
  v3 := Tryz.zeroValue3
  t4 := Tryz.underlying4
  a4 := Tryz.isAgg4
  z4 := Tryz.sizeOf4
  v4 := Tryz.zeroValue4
  t9 := Tryz.underlying9
  a9 := Tryz.isAgg9
  z9 := Tryz.sizeOf9
  v9 := Tryz.zeroValue9
  t20 := Tryz.underlying20
  a20 := Tryz.isAgg20
  z20 := Tryz.sizeOf20
  v20 := Tryz.zeroValue20
  t22 := Tryz.underlying54
  a22 := Tryz.isAgg54
  z22 := Tryz.sizeOf54
  v22 := Tryz.zeroValue54
/-! ### slices.Grow -/
theorem grow53.calls (n : Int) (w : World) (r : List (Arr 2 Int)) (h : growF n = some r) :
    Calls Tryz.prog 53 #[.slice none 0 0, .int .i64 n] w fun e w' => ∃ v, e = .returned v ∧ (∃ (o0 : Option Nat) (c0 : Nat) (s0 : List Value) (n0 : Nat), r.length = n0 ∧ (o0 ≠ none → n0 ≤ c0 ∧ s0.length = (c0 - n0) * 2) ∧ (o0 = none → r = [] ∧ c0 = 0) ∧ v = .slice (o0.map fun b => ⟨b, 0, none⟩) n0 c0 ∧ Mem w [] [⟨o0, 58, row encA2I64 r s0⟩] w') :=
  grow_calls lay_grow53 encA2I64 2 (by decide) (by kernel_rfl) n w r h
/-! ### slices.Concat[[][2]int64,[2]int64] -/
def slices_Concat_2int64.k_5 (xs_4 : List (Arr 2 Int)) : Option ((List (Arr 2 Int))) := some xs_4
def slices_Concat_2int64.l_8 (slices0 : List (List (Arr 2 Int))) : ((List (Arr 2 Int)) × Int) → Option (((List (Arr 2 Int)) × Int) ⊕ ((List (Arr 2 Int))))
  | (xs_6, i_7) => (if (decide (i_7 < (slices0.length : Int))) = true then (ix slices0 i_7).bind fun x_10 => (if xs_6.length + x_10.length ≤ 4294967296 then some (.inl ((xs_6 ++ x_10), (w64 (i_7 + 1)))) else none) else some (.inr xs_6))
def slices_Concat_2int64.k_2 (slices0 : List (List (Arr 2 Int))) (i_1 : Int) : Option ((List (Arr 2 Int))) := ((growF i_1 : Option (List (Arr 2 Int)))).bind fun t_3 => (loop (slices_Concat_2int64.l_8 slices0) (t_3, 0)).bind fun t_9 => slices_Concat_2int64.k_5 t_9
def slices_Concat_2int64.l_13 (slices0 : List (List (Arr 2 Int))) : (Int × Int) → Option ((Int × Int) ⊕ (Int))
  | (i_11, i_12) => (if (decide (i_12 < (slices0.length : Int))) = true then (ix slices0 i_12).bind fun x_15 => (if (decide ((w64 (i_11 + (x_15.length : Int))) < 0)) = true then none else some (.inl ((w64 (i_11 + (x_15.length : Int))), (w64 (i_12 + 1))))) else some (.inr i_11))
def slices_Concat_2int64 (slices0 : List (List (Arr 2 Int))) : Option ((List (Arr 2 Int))) := (loop (slices_Concat_2int64.l_13 slices0) (0, 0)).bind fun t_14 => slices_Concat_2int64.k_2 slices0 t_14
theorem slices_Concat_2int64.calls (slices0 : List (List (Arr 2 Int))) (w : World) (r : (List (Arr 2 Int))) {A_a : Option Addr} {A_an : Nat} (A_c : Nat) {A_hs : List Hd} (A_h : Rw w A_a 1 encHd A_hs) (A_hn : slices0.length = A_an) (A_i : Inn w [] 2 encA2I64 A_hs slices0) (h : slices_Concat_2int64 slices0 = some r) :
    Calls Tryz.prog 26 #[(.slice A_a A_an A_c)] w fun e w' => ∃ v, e = .returned v ∧ (∃ (o0 : Option Nat) (c0 : Nat) (s0 : List Value) (n0 : Nat), r.length = n0 ∧ (o0 ≠ none → n0 ≤ c0 ∧ s0.length = (c0 - n0) * 2) ∧ (o0 = none → r = [] ∧ c0 = 0) ∧ v = .slice (o0.map fun b => ⟨b, 0, none⟩) n0 c0 ∧ Mem w [] [⟨o0, 58, row encA2I64 r s0⟩] w') := by
  subst A_hn
  rw [slices_Concat_2int64] at h
  refine enter (args := [(.slice A_a slices0.length A_c)]) Tryz.func26 rfl Tryz.ntmps26 (by kernel_rfl) (L := []) (W := []) (Mem.start w) ?_
  refine jc_seq (jc_region (qh [0] (qe (jx_then (jc_seq (jc_region (qh [0] (qe (jx_then (jc_seq (jc_seq (jc_region (qh [0,0,0] (qe (jx_then (jc_meet (fun (j : Int) => match j with | i_1 => slices_Concat_2int64.k_2 slices0 i_1 = some r) (fun (j : Int) => match j with | i_1 => [(0, [], (.slice A_a slices0.length A_c)), (2, [], (.slice none 0 0)), (3, [], (.int .i64 i_1))]) (fun (j : Int) => match j with | i_1 => []) ?_ ?_))))))))))))))))
  ·refine jc_block ?_
   obtain ⟨t_14, ht_254, hr_247⟩ := bd h
   refine jc_loop (fun (s : Int × Int) (x : Unit) => match s, x with | ⟨i_11, i_12⟩, _ => True) (fun (s : Int × Int) (x : Unit) => match s, x with | ⟨i_11, i_12⟩, _ => [(0, [], (.slice A_a slices0.length A_c)), (2, [], (.slice none 0 0)), (3, [], (.int .i64 i_11)), (9, [], (.slice A_a slices0.length A_c)), (10, [], (.int .i64 (slices0.length : Int))), (11, [], (.int .i64 i_12))]) (fun (s : Int × Int) (x : Unit) => match s, x with | ⟨i_11, i_12⟩, _ => []) ht_254 () trivial (by kernel_rfl) [] (by kernel_rfl) (by kernel_rfl) ?_
   rintro ⟨i_11, i_12⟩ _ y_248 _ h
   rw [slices_Concat_2int64.l_13] at h
   refine jc_seq (jc_region (qh [0] (qe (jx_then (jc_seq (qi h (fun h => ?_) (fun h => ?_)))))))
   ·refine jc_skip (jx_then (jc_seq (jc_block (jc_seq (jc_region ?_)))))
    obtain ⟨x_15, hx_251, h⟩ := bd h
    refine tO (qx 0 A_a 1 hx_251 rfl (A_h.sp (A_i.ixh hx_251)) (jkO (tO (ql 0 false (fun w hm => ((hm.xr A_h).at (A_i.ixh hx_251))) (jkO (qh [0] (qe (jx_then (jc_seq (jc_region (qh [0,0] (tO (p_val 0 (.int .i64 (((hd A_hs i_12).n : Nat) : Int)) (.int .i64 (x_15.length : Int)) (by kernel_rfl) (by kernel_rfl) (congrArg (fun z : Nat => Value.int .i64 (z : Int)) (Eq.symm (A_i.get hx_251).2.1)) (jkO (qh [0,0] (qe (jx_then (jc_seq (jc_region (qh [0,0] (qe (jx_then (qi h (fun h => ?_) (fun h => ?_))))))))))))))))))))))))
    ·refine jc_region ?_
     cases h
    ·exact jc_skip (jx_inn (jx_then (jc_region (qh [0,0] (qe (qb ((w64 (i_11 + (x_15.length : Int))), (w64 (i_12 + 1))) () h trivial []))))))
   ·refine jc_exit (jx_thenx (jx_leave i_11 (Option.some.inj h).symm (fun e_253 => ?_)))
    subst e_253
    exact jx_ine (qm i_11 hr_247 [])
  ·rintro i_1 h
   replace h : slices_Concat_2int64.k_2 slices0 i_1 = some r := h
   rw [slices_Concat_2int64.k_2] at h
   refine jx_then (jc_seq (jc_region (qh [0] ?_)))
   obtain ⟨t_3, ht_49, h⟩ := bd h
   refine tO (pc 0 (fun w hm => grow53.calls i_1 w _ ht_49) ?_)
   rintro w v w' hm ⟨o_50, cap_51, sp_52, _, rfl, hs_53, ho_54, rfl, hm'⟩
   refine ⟨_, hm.app hm', jkO ?_⟩
   clear hm hm'
   refine qh [0] (qe (jx_then (jc_seq (jc_seq (jc_region (qh [0,0,0] (qe (jx_then (jc_meet (fun (j : (List (Arr 2 Int)) × (Option Nat) × Nat × (List Value) × Nat) => match j with | ⟨xs_4, o_190, cap_191, sp_192, n_193⟩ => slices_Concat_2int64.k_5 xs_4 = some r ∧ (xs_4.length = n_193) ∧ ((o_190 ≠ none → n_193 ≤ cap_191 ∧ sp_192.length = (cap_191 - n_193) * 2)) ∧ ((o_190 = none → xs_4 = [] ∧ cap_191 = 0))) (fun (j : (List (Arr 2 Int)) × (Option Nat) × Nat × (List Value) × Nat) => match j with | ⟨xs_4, o_190, cap_191, sp_192, n_193⟩ => [(2, [], (.slice none 0 0)), (6, [], (.slice (o_190.map fun b => ⟨b, 0, none⟩) n_193 cap_191))]) (fun (j : (List (Arr 2 Int)) × (Option Nat) × Nat × (List Value) × Nat) => match j with | ⟨xs_4, o_190, cap_191, sp_192, n_193⟩ => [⟨o_190, 58, row encA2I64 xs_4 sp_192⟩]) ?_ ?_)))))))))
   ·refine jc_block ?_
    obtain ⟨t_9, ht_238, hr_226⟩ := bd h
    refine jc_loop (fun (s : (List (Arr 2 Int)) × Int) (x : (Option Nat) × Nat × (List Value) × Nat) => match s, x with | ⟨xs_6, i_7⟩, ⟨o_220, cap_221, sp_222, n_223⟩ => (xs_6.length = n_223) ∧ ((o_220 ≠ none → n_223 ≤ cap_221 ∧ sp_222.length = (cap_221 - n_223) * 2)) ∧ ((o_220 = none → xs_6 = [] ∧ cap_221 = 0))) (fun (s : (List (Arr 2 Int)) × Int) (x : (Option Nat) × Nat × (List Value) × Nat) => match s, x with | ⟨xs_6, i_7⟩, ⟨o_220, cap_221, sp_222, n_223⟩ => [(2, [], (.slice none 0 0)), (6, [], (.slice (o_220.map fun b => ⟨b, 0, none⟩) n_223 cap_221)), (25, [], (.slice A_a slices0.length A_c)), (26, [], (.int .i64 (slices0.length : Int))), (27, [], (.int .i64 i_7))]) (fun (s : (List (Arr 2 Int)) × Int) (x : (Option Nat) × Nat × (List Value) × Nat) => match s, x with | ⟨xs_6, i_7⟩, ⟨o_220, cap_221, sp_222, n_223⟩ => [⟨o_220, 58, row encA2I64 xs_6 sp_222⟩]) ht_238 ⟨o_50, cap_51, sp_52, t_3.length⟩ ⟨rfl, hs_53, ho_54⟩ (by kernel_rfl) [0] (by kernel_rfl) (by kernel_rfl) ?_
    rintro ⟨xs_6, i_7⟩ ⟨o_220, cap_221, sp_222, n_223⟩ y_227 ⟨rfl, hs_224, ho_225⟩ h
    rw [slices_Concat_2int64.l_8] at h
    refine jc_seq (jc_region (qh [0] (qe (jx_then (jc_seq (qi h (fun h => ?_) (fun h => ?_)))))))
    ·refine jc_skip (jx_then (jc_seq (jc_block (jc_seq (jc_region ?_)))))
     obtain ⟨x_10, hx_230, h⟩ := bd h
     refine tO (qx 0 A_a 1 hx_230 rfl (A_h.sp (A_i.ixh hx_230)) (jkO (tO (ql 0 false (fun w hm => ((hm.xr A_h).at (A_i.ixh hx_230))) (jkO (qh [0] (qe (jx_then (jc_region (qh [0,0] ?_))))))))))
     obtain ⟨hg_231, h⟩ := gd h
     exact tO (p_apn 0 0 o_220 58 xs_6.length ((hd A_hs i_7).n) cap_221 2 16 (hd A_hs i_7).a encA2I64 xs_6 x_10 sp_222 (.agg (row encI64 (Arr.rep 2 0).1 []).toArray) rfl (A_i.get hx_230).2.1 (by kernel_rfl) (by kernel_rfl) (by kernel_rfl) encA2I64_len encA2I64_cell hs_224 ho_225 (fun w hm => (hm.exRow (A_i.get hx_230).1 List.not_mem_nil)) hg_231 (by kernel_rfl) (by kernel_rfl) (fun o_232 cap_233 sp_234 hs_235 ho_236 => jkO (qh [0] (qe (jx_inn (jx_then (jc_region (qh [0,0] (qe (qb ((xs_6 ++ x_10), (w64 (i_7 + 1))) ⟨o_232, cap_233, sp_234, (xs_6 ++ x_10).length⟩ h ⟨rfl, hs_235, ho_236⟩ [0]))))))))))
    ·refine jc_exit (jx_thenx (jx_leave xs_6 (Option.some.inj h).symm (fun e_237 => ?_)))
     subst e_237
     exact jx_ine (qm ⟨xs_6, o_220, cap_221, sp_222, xs_6.length⟩ ⟨hr_226, rfl, hs_224, ho_225⟩ [0])
   ·rintro ⟨xs_4, o_190, cap_191, sp_192, n_193⟩ ⟨h, rfl, hs_194, ho_195⟩
    replace h : slices_Concat_2int64.k_5 xs_4 = some r := h
    rw [slices_Concat_2int64.k_5] at h
    refine jx_then (jc_seq (jc_region (qh [0,0] (qe (jx_then (jc_ret ?_))))))
    obtain rfl := Option.some.inj h
    exact qr [] (fun w hm => ⟨o_190, cap_191, sp_192, xs_4.length, rfl, hs_194, ho_195, rfl, hm.pk [0]⟩)
/-! ### impl.ChangesBetween -/
def impl_ChangesBetween.k_4 (xs_3 : List GChange) : Option ((List GChange) × Int) := some (xs_3, 0)
def impl_ChangesBetween.l_7 (t_1 : (List (Arr 2 Int)) × (List (Arr 2 Int)) × Int) (t_2 : (List (Arr 2 Int))) : ((List GChange) × Int) → Option (((List GChange) × Int) ⊕ ((List GChange)))
  | (xs_5, i_6) => (if (decide (i_6 < (t_2.length : Int))) = true then (ix t_2 i_6).bind fun x_9 => (ix x_9.1 0).bind fun x_10 => (ix x_9.1 1).bind fun x_11 => (if xs_5.length + ([(⟨(w16 x_10), (w8 x_11), (decide (i_6 ≥ (t_1.1.length : Int)))⟩ : GChange)] : List GChange).length ≤ 4294967296 then some (.inl ((xs_5 ++ ([(⟨(w16 x_10), (w8 x_11), (decide (i_6 ≥ (t_1.1.length : Int)))⟩ : GChange)] : List GChange)), (w64 (i_6 + 1)))) else none) else some (.inr xs_5))
def impl_ChangesBetween (f0 : GFrame) (a1 : Arr 96 Int) (b2 : Arr 96 Int) : Option ((List GChange) × Int) := (impl_MovesBetween f0 a1 b2).bind fun t_1 => (if (t_1.2.2 != 0) = true then some ([], t_1.2.2) else (slices_Concat_2int64 [t_1.1, t_1.2.1]).bind fun t_2 => (loop (impl_ChangesBetween.l_7 t_1 t_2) (([] : List GChange), 0)).bind fun t_8 => impl_ChangesBetween.k_4 t_8)
theorem impl_ChangesBetween.calls (f0 : GFrame) (a1 : Arr 96 Int) (b2 : Arr 96 Int) (w : World) (r : (List GChange) × Int) {C_a : Option Addr} {C_an : Nat} (C_c : Nat) (C_h : Rw w C_a 2 encGHammer f0.fHammers) (C_hn : f0.fHammers.length = C_an) (h : impl_ChangesBetween f0 a1 b2 = some r) :
    Calls Tryz.prog 7 #[(.agg #[(.int .i16 f0.fSteps), (.slice C_a C_an C_c)]), (.agg (row encU32 a1.1 []).toArray), (.agg (row encU32 b2.1 []).toArray)] w fun e w' => ∃ v, e = .returned v ∧ (∃ (o0 : Option Nat) (c0 : Nat) (s0 : List Value) (n0 : Nat), r.1.length = n0 ∧ (o0 ≠ none → n0 ≤ c0 ∧ s0.length = (c0 - n0) * 3) ∧ (o0 = none → r.1 = [] ∧ c0 = 0) ∧ v = .tuple #[.slice (o0.map fun b => ⟨b, 0, none⟩) n0 c0, (.int .i64 r.2)] ∧ Mem w [] [⟨o0, 61, row encGChange r.1 s0⟩] w') := by
  subst C_hn
  rw [impl_ChangesBetween] at h
  refine enter (args := [(.agg #[(.int .i16 f0.fSteps), (.slice C_a f0.fHammers.length C_c)]), (.agg (row encU32 a1.1 []).toArray), (.agg (row encU32 b2.1 []).toArray)]) Tryz.func7 rfl Tryz.ntmps7 (by kernel_rfl) (L := []) (W := []) (Mem.start w) ?_
  refine jc_seq (jc_region (tO (qa 0 (fun b_1 => jkO (tO (qa 0 (fun b_2 => jkO (tO (qa 0 (fun b_3 => jkO (qh [0,0] (qe (jx_then (jc_seq (jc_region (qh [0] (tO (p_ldA 0 1 b_2 96 1 31 encU32 a1 (by kernel_rfl) (by kernel_rfl) (by kernel_rfl) encU32_len (by kernel_rfl) (jkO (tO (p_ldA 0 2 b_3 96 1 31 encU32 b2 (by kernel_rfl) (by kernel_rfl) (by kernel_rfl) encU32_len (by kernel_rfl) (jkO ?_))))))))))))))))))))))
  obtain ⟨t_1, ht_4, h⟩ := bd h
  refine tO (pc 0 (fun w hm => impl_MovesBetween.calls f0 a1 b2 w _ C_c (hm.xr C_h) rfl ht_4) ?_)
  rintro w v w' hm ⟨o_5, cap_6, sp_7, _, rfl, hs_8, ho_9, o_10, cap_11, sp_12, _, rfl, hs_13, ho_14, rfl, hm'⟩
  refine ⟨_, hm.app hm', jkO ?_⟩
  clear hm hm'
  refine qh [0,0,0,0,0,0,0] (qe (jx_then (jc_seq (jc_seq (jc_region (qh [0,0] (qe (jx_then (qi h (fun h => ?_) (fun h => ?_))))))))))
  ·refine jc_seq (jc_region (qh [0,0,0] (qe (jx_then (jc_ret (jx_thenr ?_))))))
   obtain rfl := Option.some.inj h
   exact jx_ghost 61 encGChange (qr [] (fun w hm => ⟨none, 0, [], 0, rfl, (fun e => absurd rfl e), (fun _ => ⟨rfl, rfl⟩), rfl, hm.pk [5]⟩))
  ·refine jc_skip (jx_then (jc_seq (jc_region (tO (qa 0 (fun b_17 => jkO (qh [0] (qe (jx_then (jc_seq (jc_seq (jc_region (qh [0,0] (tO (qa 0 (fun b_141 => jkO ?_))))))))))))))))
   obtain ⟨t_2, ht_142, h⟩ := bd h
   refine tO (pc 0 (fun w hm => slices_Concat_2int64.calls [t_1.1, t_1.2.1] w _ 2 (hm.ow 6 (some b_141) 54 ([(Hd.mk (o_5.map fun b => ⟨b, 0, none⟩) t_1.1.length cap_6), (Hd.mk (o_10.map fun b => ⟨b, 0, none⟩) t_1.2.1.length cap_11)]) [] (fun e => nomatch e) encHd_len) rfl (Inn.cons (hm.ow 3 o_5 58 t_1.1 sp_7 (fun e => (ho_9 e).1) encA2I64_len) rfl (fun _ => List.not_mem_nil) (Inn.cons (hm.ow 4 o_10 58 t_1.2.1 sp_12 (fun e => (ho_14 e).1) encA2I64_len) rfl (fun _ => List.not_mem_nil) Inn.nil)) ht_142) ?_)
   rintro w v w' hm ⟨o_143, cap_144, sp_145, _, rfl, hs_146, ho_147, rfl, hm'⟩
   refine ⟨_, hm.app hm', jkO ?_⟩
   clear hm hm'
   refine qh [0,0] (qe (jx_then (jc_meet (fun (j : (List GChange) × (Option Nat) × Nat × (List Value) × Nat) => match j with | ⟨xs_3, o_203, cap_204, sp_205, n_206⟩ => impl_ChangesBetween.k_4 xs_3 = some r ∧ (xs_3.length = n_206) ∧ ((o_203 ≠ none → n_206 ≤ cap_204 ∧ sp_205.length = (cap_204 - n_206) * 3)) ∧ ((o_203 = none → xs_3 = [] ∧ cap_204 = 0))) (fun (j : (List GChange) × (Option Nat) × Nat × (List Value) × Nat) => match j with | ⟨xs_3, o_203, cap_204, sp_205, n_206⟩ => [(6, [], (.slice none 0 0)), (7, [], (.int .i64 0)), (11, [], (.slice (o_203.map fun b => ⟨b, 0, none⟩) n_206 cap_204))]) (fun (j : (List GChange) × (Option Nat) × Nat × (List Value) × Nat) => match j with | ⟨xs_3, o_203, cap_204, sp_205, n_206⟩ => [⟨some b_1, 27, [(.int .i16 f0.fSteps), (.slice C_a f0.fHammers.length C_c)]⟩, ⟨(some b_2), 31, row encU32 a1.1 []⟩, ⟨(some b_3), 31, row encU32 b2.1 []⟩, ⟨o_5, 58, row encA2I64 t_1.1 sp_7⟩, ⟨o_10, 58, row encA2I64 t_1.2.1 sp_12⟩, ⟨o_203, 61, row encGChange xs_3 sp_205⟩, ⟨(some b_141), 54, row encHd [(Hd.mk (o_5.map fun b => ⟨b, 0, none⟩) t_1.1.length cap_6), (Hd.mk (o_10.map fun b => ⟨b, 0, none⟩) t_1.2.1.length cap_11)] []⟩, ⟨o_143, 58, row encA2I64 t_2 sp_145⟩]) ?_ ?_)))
   ·refine jc_block ?_
    obtain ⟨t_8, ht_263, hr_247⟩ := bd h
    refine jc_loop (fun (s : (List GChange) × Int) (x : (Option Nat) × Nat × (List Value) × Nat) => match s, x with | ⟨xs_5, i_6⟩, ⟨o_241, cap_242, sp_243, n_244⟩ => (xs_5.length = n_244) ∧ ((o_241 ≠ none → n_244 ≤ cap_242 ∧ sp_243.length = (cap_242 - n_244) * 3)) ∧ ((o_241 = none → xs_5 = [] ∧ cap_242 = 0))) (fun (s : (List GChange) × Int) (x : (Option Nat) × Nat × (List Value) × Nat) => match s, x with | ⟨xs_5, i_6⟩, ⟨o_241, cap_242, sp_243, n_244⟩ => [(6, [], (.slice none 0 0)), (7, [], (.int .i64 0)), (8, [], (.slice (o_5.map fun b => ⟨b, 0, none⟩) t_1.1.length cap_6)), (11, [], (.slice (o_241.map fun b => ⟨b, 0, none⟩) n_244 cap_242)), (29, [], (.slice (o_143.map fun b => ⟨b, 0, none⟩) t_2.length cap_144)), (30, [], (.int .i64 (t_2.length : Int))), (31, [], (.int .i64 i_6))]) (fun (s : (List GChange) × Int) (x : (Option Nat) × Nat × (List Value) × Nat) => match s, x with | ⟨xs_5, i_6⟩, ⟨o_241, cap_242, sp_243, n_244⟩ => [⟨some b_1, 27, [(.int .i16 f0.fSteps), (.slice C_a f0.fHammers.length C_c)]⟩, ⟨(some b_2), 31, row encU32 a1.1 []⟩, ⟨(some b_3), 31, row encU32 b2.1 []⟩, ⟨o_5, 58, row encA2I64 t_1.1 sp_7⟩, ⟨o_10, 58, row encA2I64 t_1.2.1 sp_12⟩, ⟨o_241, 61, row encGChange xs_5 sp_243⟩, ⟨(some b_141), 54, row encHd [(Hd.mk (o_5.map fun b => ⟨b, 0, none⟩) t_1.1.length cap_6), (Hd.mk (o_10.map fun b => ⟨b, 0, none⟩) t_1.2.1.length cap_11)] []⟩, ⟨o_143, 58, row encA2I64 t_2 sp_145⟩]) ht_263 ⟨(some b_17), 0, [], 0⟩ ⟨rfl, (fun _ => ⟨Nat.le_refl _, by simp⟩), (fun e => nomatch e)⟩ (by kernel_rfl) [0, 1, 2, 3, 4, 5, 6, 7] (by kernel_rfl) (by kernel_rfl) ?_
    rintro ⟨xs_5, i_6⟩ ⟨o_241, cap_242, sp_243, n_244⟩ y_248 ⟨rfl, hs_245, ho_246⟩ h
    rw [impl_ChangesBetween.l_7] at h
    refine jc_seq (jc_region (qh [0] (qe (jx_then (jc_seq (qi h (fun h => ?_) (fun h => ?_)))))))
    ·refine jc_skip (jx_then (jc_seq (jc_block (jc_seq (jc_region (qh [0] ?_))))))
     obtain ⟨x_9, hx_251, h⟩ := bd h
     refine tO (qx 0 (o_143.map fun b => ⟨b, 0, none⟩) 2 hx_251 rfl (spo ho_147 hx_251) (jkO (tO (p_ldx 0 (aB (o_143.map fun b => ⟨b, 0, none⟩)) (aO (o_143.map fun b => ⟨b, 0, none⟩) + i_6.toNat * 2) (encA2I64 x_9) 2 (by kernel_rfl) (by kernel_rfl) (encA2I64_len x_9) (fun w hm => ((hm.ow 7 o_143 58 t_2 sp_145 (fun e => (ho_147 e).1) encA2I64_len).at hx_251)) (jkO (tO (qa 0 (fun b_252 => jkO (qh [0] (tO (p_sA 0 8 b_252 2 1 58 encI64 (Arr.rep 2 0) x_9 (by kernel_rfl) (by kernel_rfl) (by kernel_rfl) encI64_len encI64_cell (by kernel_rfl) (jkO (qe (jx_then (jc_region (qh [0] ?_))))))))))))))))
     obtain ⟨x_10, hx_253, h⟩ := bd h
     refine tO (qx 0 (some ⟨b_252, 0, none⟩) 1 hx_253 x_9.2 rfl (jkO (tO (ql 0 false (fun w hm => ((hm.ow 8 (some b_252) 58 x_9.1 [] (fun e => nomatch e) encI64_len).at hx_253)) (jkO (qh [0] ?_))))))
     obtain ⟨x_11, hx_254, h⟩ := bd h
     refine tO (qx 0 (some ⟨b_252, 0, none⟩) 1 hx_254 x_9.2 rfl (jkO (tO (ql 0 false (fun w hm => ((hm.ow 8 (some b_252) 58 x_9.1 [] (fun e => nomatch e) encI64_len).at hx_254)) (jkO (qh [0,0,0,0,0,0] (tO (qa 0 (fun b_255 => jkO ?_)))))))))
     obtain ⟨hg_256, h⟩ := gd h
     exact tO (p_apn 0 5 o_241 61 xs_5.length 1 cap_242 3 4 (some ⟨b_255, 0, none⟩) encGChange xs_5 ([(⟨(w16 x_10), (w8 x_11), (decide (i_6 ≥ (t_1.1.length : Int)))⟩ : GChange)] : List GChange) sp_243 (.agg #[(.int .i16 0), (.int .i8 0), (.bool false)]) rfl rfl (by kernel_rfl) (by kernel_rfl) (by kernel_rfl) encGChange_len encGChange_cell hs_245 ho_246 (fun w hm => (hm.ow 9 (some b_255) 61 ([(⟨(w16 x_10), (w8 x_11), (decide (i_6 ≥ (t_1.1.length : Int)))⟩ : GChange)] : List GChange) [] (fun e => nomatch e) encGChange_len)) hg_256 (by kernel_rfl) (by kernel_rfl) (fun o_257 cap_258 sp_259 hs_260 ho_261 => jkO (qh [0] (qe (jx_inn (jx_then (jc_region (qh [0,0] (qe (qb ((xs_5 ++ ([(⟨(w16 x_10), (w8 x_11), (decide (i_6 ≥ (t_1.1.length : Int)))⟩ : GChange)] : List GChange)), (w64 (i_6 + 1))) ⟨o_257, cap_258, sp_259, (xs_5 ++ ([(⟨(w16 x_10), (w8 x_11), (decide (i_6 ≥ (t_1.1.length : Int)))⟩ : GChange)] : List GChange)).length⟩ h ⟨rfl, hs_260, ho_261⟩ [0, 1, 2, 3, 4, 5, 6, 7]))))))))))
    ·refine jc_exit (jx_thenx (jx_leave xs_5 (Option.some.inj h).symm (fun e_262 => ?_)))
     subst e_262
     exact jx_ine (qm ⟨xs_5, o_241, cap_242, sp_243, xs_5.length⟩ ⟨hr_247, rfl, hs_245, ho_246⟩ [0, 1, 2, 3, 4, 5, 6, 7])
   ·rintro ⟨xs_3, o_203, cap_204, sp_205, n_206⟩ ⟨h, rfl, hs_207, ho_208⟩
    replace h : impl_ChangesBetween.k_4 xs_3 = some r := h
    rw [impl_ChangesBetween.k_4] at h
    refine jx_then (jc_seq (jc_region (qh [0,0,0] (qe (jx_then (jc_ret ?_))))))
    obtain rfl := Option.some.inj h
    exact qr [] (fun w hm => ⟨o_203, cap_204, sp_205, xs_3.length, rfl, hs_207, ho_208, rfl, hm.pk [5]⟩)
/-! ### spec.l00In -/
def spec_l00In (n0 : Int) (low1 : Int) (high2 : Int) : Option (Bool) := some ((decide (n0 ≥ low1)) && (decide (n0 ≤ high2)))
theorem spec_l00In.calls (n0 : Int) (low1 : Int) (high2 : Int) (w : World) (r : Bool) (h : spec_l00In n0 low1 high2 = some r) :
    Calls Tryz.prog 79 #[(.int .i64 n0), (.int .i64 low1), (.int .i64 high2)] w fun e w' => ∃ v, e = .returned v ∧ (v = (.bool r) ∧ Mem w [] [] w') := by
  rw [spec_l00In] at h
  refine enter (args := [(.int .i64 n0), (.int .i64 low1), (.int .i64 high2)]) Tryz.func79 rfl Tryz.ntmps79 (by kernel_rfl) (L := []) (W := []) (Mem.start w) ?_
  refine jc_seq (jc_region (qh [0] (qe (jx_then (jc_seq (jc_region (qf [(0, 0), (0, 0), (0, 0), (0, 0), (0, 1), (0, 1), (0, 1), (0, 0), (0, 0)] (qe (jx_then (jc_ret ?_))))))))))
  obtain rfl := Option.some.inj h
  exact qr [] (fun w hm => ⟨rfl, hm.pk []⟩)
/-! ### spec.l00Min -/
def spec_l00Min (a0 : Int) (b1 : Int) : Option (Int) := (if (decide (a0 < b1)) = true then some a0 else some b1)
theorem spec_l00Min.calls (a0 : Int) (b1 : Int) (w : World) (r : Int) (h : spec_l00Min a0 b1 = some r) :
    Calls Tryz.prog 80 #[(.int .i64 a0), (.int .i64 b1)] w fun e w' => ∃ v, e = .returned v ∧ (v = (.int .i64 r) ∧ Mem w [] [] w') := by
  rw [spec_l00Min] at h
  refine enter (args := [(.int .i64 a0), (.int .i64 b1)]) Tryz.func80 rfl Tryz.ntmps80 (by kernel_rfl) (L := []) (W := []) (Mem.start w) ?_
  refine jc_seq (jc_region (qh [0] (qe (jx_then (jc_seq (jc_seq (jc_region (qh [0,0,0] (qe (jx_then (qi h (fun h => ?_) (fun h => ?_))))))))))))
  ·refine jc_seq (jc_region (qh [0,0] (qe (jx_then (jc_ret (jx_thenr ?_))))))
   obtain rfl := Option.some.inj h
   exact qr [] (fun w hm => ⟨rfl, hm.pk []⟩)
  ·refine jc_skip (jx_then (jc_seq (jc_region (qh [0,0] (qe (jx_then (jc_ret ?_)))))))
   obtain rfl := Option.some.inj h
   exact qr [] (fun w hm => ⟨rfl, hm.pk []⟩)
/-! ### spec.l02Frame -/
def spec_l02Frame.k_3 : Option (Bool) := some true
def spec_l02Frame.k_9 (i_4 : Int) (q_8 : Bool) : Option ((Int) ⊕ (Bool ⊕ Unit)) := (if q_8 = true then some (.inr (.inl false)) else some (.inl (w64 (i_4 + 1))))
def spec_l02Frame.l_5 (f0 : GFrame) : Int → Option ((Int) ⊕ (Bool ⊕ Unit))
  | i_4 => (if (decide (i_4 < (f0.fHammers.length : Int))) = true then (ix f0.fHammers i_4).bind fun x_7 => (spec_l00In (w64 x_7.fPitch) 0 47).bind fun t_10 => (if (!t_10) = true then spec_l02Frame.k_9 i_4 true else (spec_l00Min 20 (w64 f0.fSteps)).bind fun t_11 => (spec_l00In (w64 x_7.fReady) 1 t_11).bind fun t_12 => spec_l02Frame.k_9 i_4 (!t_12)) else some (.inr (.inr ())))
def spec_l02Frame.k_2 (f0 : GFrame) (q_1 : Bool) : Option (Bool) := (if q_1 = true then some false else (loop (spec_l02Frame.l_5 f0) 0).bind fun t_6 => match t_6 with | .inl p => some p | .inr p => spec_l02Frame.k_3)
def spec_l02Frame (f0 : GFrame) : Option (Bool) := (spec_l00In (w64 f0.fSteps) 2 96).bind fun t_13 => (if (!t_13) = true then spec_l02Frame.k_2 f0 true else (spec_l00In (f0.fHammers.length : Int) 1 24).bind fun t_14 => spec_l02Frame.k_2 f0 (!t_14))
theorem spec_l02Frame.calls (f0 : GFrame) (w : World) (r : Bool) {C_a : Option Addr} {C_an : Nat} (C_c : Nat) (C_h : Rw w C_a 2 encGHammer f0.fHammers) (C_hn : f0.fHammers.length = C_an) (A_b : Nat) (hm0 : Mem w (bs [some A_b]) [⟨some A_b, 27, [(.int .i16 f0.fSteps), (.slice C_a C_an C_c)]⟩] w) (C_ha : f0.fHammers ≠ [] → aB C_a ∉ bs [some A_b]) (h : spec_l02Frame f0 = some r) :
    Calls Tryz.prog 54 #[(.pointer (some ⟨A_b, 0, none⟩))] w fun e w' => ∃ v, e = .returned v ∧ (v = (.bool r) ∧ Mem w (bs [some A_b]) [⟨some A_b, 27, [(.int .i16 f0.fSteps), (.slice C_a C_an C_c)]⟩] w') := by
  subst C_hn
  rw [spec_l02Frame] at h
  refine enter (args := [(.pointer (some ⟨A_b, 0, none⟩))]) Tryz.func54 rfl Tryz.ntmps54 (by kernel_rfl) (L := [⟨some A_b, 27, [(.int .i16 f0.fSteps), (.slice C_a f0.fHammers.length C_c)]⟩]) (W := bs [some A_b]) hm0 ?_
  refine jc_seq (jc_region (qh [0] (qe (jx_then (jc_seq (jc_seq (jc_meet (fun (j : Bool) => match j with | q_1 => spec_l02Frame.k_2 f0 q_1 = some r) (fun (j : Bool) => match j with | q_1 => [(0, [], (.pointer (some ⟨A_b, 0, none⟩))), (2, [], (.bool false)), (20, [], (.bool q_1))]) (fun (j : Bool) => match j with | q_1 => [⟨some A_b, 27, [(.int .i16 f0.fSteps), (.slice C_a f0.fHammers.length C_c)]⟩]) ?_ ?_)))))))
  ·refine jc_region (qh [0,0,0,0,0] ?_)
   obtain ⟨t_13, ht_100, h⟩ := bd h
   refine tO (pc 0 (fun w hm => spec_l00In.calls (w64 f0.fSteps) 2 96 w _ ht_100) ?_)
   rintro w v w' hm ⟨rfl, hm'⟩
   refine ⟨_, hm.app hm', jkO ?_⟩
   clear hm hm'
   refine qf [(0, 0), (0, 0), (0, 1), (0, 1), (0, 1), (0, 1), (0, 1)] (qp 12 h (fun h => ?_) (fun h => ?_))
   ·exact qf [(0, 3), (0, 3), (0, 4)] (qe (qm true h [0]))
   ·obtain ⟨t_14, ht_102, h⟩ := bd h
    refine tO (pc 2 (fun w hm => spec_l00In.calls (f0.fHammers.length : Int) 1 24 w _ ht_102) ?_)
    rintro w v w' hm ⟨rfl, hm'⟩
    refine ⟨_, hm.app hm', jkO ?_⟩
    clear hm hm'
    exact qf [(0, 2), (0, 5)] (qe (qm (!t_14) h [0]))
  ·rintro q_1 h
   replace h : spec_l02Frame.k_2 f0 q_1 = some r := h
   rw [spec_l02Frame.k_2] at h
   refine jx_then (qi h (fun h => ?_) (fun h => ?_))
   ·refine jc_seq (jc_region (qh [0] (qe (jx_then (jc_ret (jx_thenr ?_))))))
    obtain rfl := Option.some.inj h
    exact qr [] (fun w hm => ⟨rfl, hm.pk [0]⟩)
   ·refine jc_skip (jx_then (jc_seq (jc_seq (jc_region (qh [0] (qe (jx_then (jc_meet (fun (_ : Unit) => spec_l02Frame.k_3 = some r) (fun (_ : Unit) => [(2, [], (.bool false))]) (fun (_ : Unit) => [⟨some A_b, 27, [(.int .i16 f0.fSteps), (.slice C_a f0.fHammers.length C_c)]⟩]) ?_ ?_))))))))
    ·refine jc_block ?_
     obtain ⟨t_6, ht_99, hr_82⟩ := bd h
     refine jc_loop (fun (s : Int) (x : Unit) => match s, x with | i_4, _ => True) (fun (s : Int) (x : Unit) => match s, x with | i_4, _ => [(0, [], (.pointer (some ⟨A_b, 0, none⟩))), (2, [], (.bool false)), (3, [], (.int .i64 i_4))]) (fun (s : Int) (x : Unit) => match s, x with | i_4, _ => [⟨some A_b, 27, [(.int .i16 f0.fSteps), (.slice C_a f0.fHammers.length C_c)]⟩]) ht_99 () trivial (by kernel_rfl) [0] (by kernel_rfl) (by kernel_rfl) ?_
     rintro i_4 _ y_83 _ h
     rw [spec_l02Frame.l_5] at h
     refine jc_seq (jc_seq (jc_region (qh [0,0,0,0,0,0,0] (qe (jx_then (qi h (fun h => ?_) (fun h => ?_)))))))
     ·refine jc_skip (jx_then (jc_seq (jc_block (jc_seq (jc_region (qh [0,0,0,0,0] ?_))))))
      obtain ⟨x_7, hx_86, h⟩ := bd h
      refine tO (qx 0 C_a 2 hx_86 rfl (C_h.sp hx_86) (jkO (tO (ql 0 true (fun w hm => ((hm.exRowW C_h C_ha).at hx_86)) (jkO (tO (qa 0 (fun b_87 => jkO (tO (qs 0 [1] (jkO (qe (jx_then (jc_seq (jc_meet (fun (j : Bool) => match j with | q_8 => spec_l02Frame.k_9 i_4 q_8 = some y_83) (fun (j : Bool) => match j with | q_8 => [(0, [], (.pointer (some ⟨A_b, 0, none⟩))), (2, [], (.bool false)), (3, [], (.int .i64 i_4)), (54, [], (.bool q_8))]) (fun (j : Bool) => match j with | q_8 => [⟨some A_b, 27, [(.int .i16 f0.fSteps), (.slice C_a f0.fHammers.length C_c)]⟩, ⟨some b_87, 92, [(.int .i8 x_7.fPitch), (.int .i8 x_7.fReady)]⟩]) ?_ ?_)))))))))))))))
      ·refine qg [⟨some A_b, 27, [(.int .i16 f0.fSteps), (.slice C_a f0.fHammers.length C_c)]⟩, ⟨some b_87, 92, [(.int .i8 x_7.fPitch), (.int .i8 x_7.fReady)]⟩] 18 (qd [⟨0, 0, 0⟩,⟨1, 1, 0⟩,⟨2, 0, 0⟩] 15 [0, 1] ?_)
       obtain ⟨t_10, ht_94, h⟩ := bd h
       refine tD 3 (pc 0 (fun w hm => spec_l00In.calls (w64 x_7.fPitch) 0 47 w _ ht_94) ?_)
       rintro w v w' hm ⟨rfl, hm'⟩
       refine ⟨_, hm.app hm', kD [0, 1] ?_⟩
       clear hm hm'
       refine qd [⟨4, 0, 0⟩,⟨5, 0, 0⟩,⟨6, 0, 1⟩,⟨7, 1, 1⟩,⟨8, 0, 1⟩,⟨9, 0, 1⟩,⟨10, 0, 1⟩,⟨11, 0, 1⟩,⟨12, 0, 1⟩,⟨13, 0, 1⟩] 4 [0, 1] (jd_split 42 (!t_10) (by kernel_rfl) (fun hc_95 => ?_) (fun hc_95 => ?_))
       ·replace h := ifT hc_95 h
        exact qd [⟨14, 0, 3⟩,⟨15, 0, 3⟩,⟨16, 0, 3⟩,⟨17, 0, 4⟩] 0 [0, 1] (qz (qm true h [0, 1]))
       ·replace h := ifF hc_95 h
        obtain ⟨t_11, ht_96, h⟩ := bd h
        refine tD 14 (pc 2 (fun w hm => spec_l00Min.calls 20 (w64 f0.fSteps) w _ ht_96) ?_)
        rintro w v w' hm ⟨rfl, hm'⟩
        refine ⟨_, hm.app hm', kD [0, 1] ?_⟩
        clear hm hm'
        obtain ⟨t_12, ht_97, h⟩ := bd h
        refine tD 15 (pc 2 (fun w hm => spec_l00In.calls (w64 x_7.fReady) 1 t_11 w _ ht_97) ?_)
        rintro w v w' hm ⟨rfl, hm'⟩
        refine ⟨_, hm.app hm', kD [0, 1] ?_⟩
        clear hm hm'
        exact qd [⟨16, 0, 2⟩,⟨17, 0, 5⟩] 0 [0, 1] (qz (qm (!t_12) h [0, 1]))
      ·rintro q_8 h
       replace h : spec_l02Frame.k_9 i_4 q_8 = some y_83 := h
       rw [spec_l02Frame.k_9] at h
       refine jx_then (qi h (fun h => ?_) (fun h => ?_))
       ·refine jc_seq (jc_region (qh [0] (qe (jx_then (jc_ret (jx_inr (jx_thenr (jx_leaver (.inl false) (Option.some.inj h).symm (fun e_93 => ?_)))))))))
        subst e_93
        refine jx_inr (jx_thenr (jx_thenr ?_))
        obtain rfl := Option.some.inj hr_82
        exact qr [] (fun w hm => ⟨rfl, hm.pk [0]⟩)
       ·exact jc_skip (jx_inn (jx_then (jc_region (qh [0,0,0] (qe (qb (w64 (i_4 + 1)) () h trivial [0]))))))
     ·refine jc_exit (jx_thenx (jx_leave (.inr ()) (Option.some.inj h).symm (fun e_98 => ?_)))
      subst e_98
      exact jx_ine (qm () hr_82 [0])
    ·rintro _ h
     replace h : spec_l02Frame.k_3 = some r := h
     rw [spec_l02Frame.k_3] at h
     refine jx_then (jc_seq (jc_region (qh [0] (qe (jx_then (jc_ret ?_))))))
     obtain rfl := Option.some.inj h
     exact qr [] (fun w hm => ⟨rfl, hm.pk [0]⟩)
/-! ### spec.l02Drum -/
def spec_l02Drum.k_1 : Option (Bool) := some true
def spec_l02Drum.k_6 (i_2 : Int) (q_5 : Bool) : Option ((Int) ⊕ (Bool ⊕ Unit)) := (if q_5 = true then some (.inr (.inl false)) else some (.inl (w64 (i_2 + 1))))
def spec_l02Drum.l_3 (f0 : GFrame) (d1 : Arr 96 Int) : Int → Option ((Int) ⊕ (Bool ⊕ Unit))
  | i_2 => (if (decide (i_2 < 96)) = true then (ix d1.1 i_2).bind fun x_7 => (if 0 ≤ (u64 (f0.fHammers.length : Int)) then (if ((bShr .u32 x_7 (u64 (f0.fHammers.length : Int))) != 0) = true then spec_l02Drum.k_6 i_2 true else (if (decide (i_2 ≥ (w64 f0.fSteps))) = true then (ix d1.1 i_2).bind fun x_8 => spec_l02Drum.k_6 i_2 (x_8 != 0) else spec_l02Drum.k_6 i_2 false)) else none) else some (.inr (.inr ())))
def spec_l02Drum (f0 : GFrame) (d1 : Arr 96 Int) : Option (Bool) := (loop (spec_l02Drum.l_3 f0 d1) 0).bind fun t_4 => match t_4 with | .inl p => some p | .inr p => spec_l02Drum.k_1
theorem spec_l02Drum.calls (f0 : GFrame) (d1 : Arr 96 Int) (w : World) (r : Bool) {C_a : Option Addr} {C_an : Nat} (C_c : Nat) (C_h : Rw w C_a 2 encGHammer f0.fHammers) (C_hn : f0.fHammers.length = C_an) {D_b D_q : Nat} (D_h : Rw w (some ⟨D_b, D_q, none⟩) 1 encU32 d1.1) (A_b : Nat) (hm0 : Mem w (bs [some A_b]) [⟨some A_b, 27, [(.int .i16 f0.fSteps), (.slice C_a C_an C_c)]⟩] w) (C_ha : f0.fHammers ≠ [] → aB C_a ∉ bs [some A_b]) (D_ha : d1.1 ≠ [] → aB (some ⟨D_b, D_q, none⟩) ∉ bs [some A_b]) (h : spec_l02Drum f0 d1 = some r) :
    Calls Tryz.prog 55 #[(.pointer (some ⟨A_b, 0, none⟩)), (.pointer (some ⟨D_b, D_q, none⟩))] w fun e w' => ∃ v, e = .returned v ∧ (v = (.bool r) ∧ Mem w (bs [some A_b]) [⟨some A_b, 27, [(.int .i16 f0.fSteps), (.slice C_a C_an C_c)]⟩] w') := by
  subst C_hn
  rw [spec_l02Drum] at h
  refine enter (args := [(.pointer (some ⟨A_b, 0, none⟩)), (.pointer (some ⟨D_b, D_q, none⟩))]) Tryz.func55 rfl Tryz.ntmps55 (by kernel_rfl) (L := [⟨some A_b, 27, [(.int .i16 f0.fSteps), (.slice C_a f0.fHammers.length C_c)]⟩]) (W := bs [some A_b]) hm0 ?_
  refine jc_seq (jc_region (qh [0] (qe (jx_then (jc_seq (jc_seq (jc_region (qh [0] (qe (jx_then (jc_meet (fun (_ : Unit) => spec_l02Drum.k_1 = some r) (fun (_ : Unit) => [(4, [], (.bool false))]) (fun (_ : Unit) => [⟨some A_b, 27, [(.int .i16 f0.fSteps), (.slice C_a f0.fHammers.length C_c)]⟩]) ?_ ?_)))))))))))
  ·refine jc_block ?_
   obtain ⟨t_4, ht_88, hr_71⟩ := bd h
   refine jc_loop (fun (s : Int) (x : Unit) => match s, x with | i_2, _ => True) (fun (s : Int) (x : Unit) => match s, x with | i_2, _ => [(0, [], (.pointer (some ⟨A_b, 0, none⟩))), (1, [], (.pointer (some ⟨D_b, D_q, none⟩))), (4, [], (.bool false)), (5, [], (.int .i64 i_2))]) (fun (s : Int) (x : Unit) => match s, x with | i_2, _ => [⟨some A_b, 27, [(.int .i16 f0.fSteps), (.slice C_a f0.fHammers.length C_c)]⟩]) ht_88 () trivial (by kernel_rfl) [0] (by kernel_rfl) (by kernel_rfl) ?_
   rintro i_2 _ y_72 _ h
   rw [spec_l02Drum.l_3] at h
   refine jc_seq (jc_seq (jc_region (qh [0,0] (qe (jx_then (qi h (fun h => ?_) (fun h => ?_)))))))
   ·refine jc_skip (jx_then (jc_seq (jc_block (jc_seq (jc_meet (fun (j : Bool) => match j with | q_5 => spec_l02Drum.k_6 i_2 q_5 = some y_72) (fun (j : Bool) => match j with | q_5 => [(0, [], (.pointer (some ⟨A_b, 0, none⟩))), (1, [], (.pointer (some ⟨D_b, D_q, none⟩))), (4, [], (.bool false)), (5, [], (.int .i64 i_2)), (39, [], (.bool q_5))]) (fun (j : Bool) => match j with | q_5 => [⟨some A_b, 27, [(.int .i16 f0.fSteps), (.slice C_a f0.fHammers.length C_c)]⟩]) ?_ ?_)))))
    ·refine qg [⟨some A_b, 27, [(.int .i16 f0.fSteps), (.slice C_a f0.fHammers.length C_c)]⟩] 30 (qd [⟨0, 0, 0⟩,⟨1, 0, 0⟩,⟨2, 0, 0⟩,⟨5, 0, 0⟩,⟨6, 0, 0⟩,⟨7, 0, 0⟩,⟨8, 0, 0⟩,⟨9, 0, 0⟩,⟨10, 0, 0⟩] 21 [0] ?_)
     obtain ⟨x_7, hx_82, h⟩ := bd h
     refine qv 3 0 [0] (fun w hm => idx_run (a := (some ⟨D_b, D_q, none⟩)) (len := 96) (s := 1) (j := i_2) (by kernel_rfl) (ix_some hx_82).1 (ltn hx_82 d1.2) (D_h.sp hx_82)) (qv 4 0 [0] (fun w hm => ld_run (b := aB (some ⟨D_b, D_q, none⟩)) (off := (aO (some ⟨D_b, D_q, none⟩) + i_2.toNat * 1)) (s := 1) (agg := false) (vs := (encU32 x_7)) (by kernel_rfl) (by kernel_rfl) (.inr rfl) ((hm.exRowW D_h D_ha).at hx_82)) ?_)
     obtain ⟨hg_83, h⟩ := gd h
     refine tD 11 (p_shr 0 .u32 x_7 .u64 (u64 (f0.fHammers.length : Int)) (by kernel_rfl) (by kernel_rfl) hg_83 (kD [0] (qd [⟨12, 0, 0⟩,⟨13, 0, 0⟩,⟨14, 0, 1⟩,⟨15, 0, 1⟩,⟨16, 0, 1⟩,⟨17, 0, 1⟩,⟨18, 0, 1⟩,⟨19, 0, 1⟩,⟨20, 0, 1⟩] 9 [0] (jd_split 23 ((bShr .u32 x_7 (u64 (f0.fHammers.length : Int))) != 0) (by kernel_rfl) (fun hc_84 => ?_) (fun hc_84 => ?_)))))
     ·replace h := ifT hc_84 h
      exact qd [⟨21, 0, 3⟩,⟨22, 0, 3⟩,⟨23, 0, 3⟩,⟨24, 0, 3⟩,⟨25, 0, 3⟩,⟨26, 0, 3⟩,⟨27, 0, 3⟩,⟨28, 0, 3⟩,⟨29, 0, 4⟩] 0 [0] (qz (qm true h [0]))
     ·replace h := ifF hc_84 h
      refine qd [⟨21, 0, 2⟩,⟨22, 0, 1⟩,⟨23, 0, 1⟩,⟨24, 0, 1⟩] 5 [0] (jd_split 31 (decide (i_2 ≥ (w64 f0.fSteps))) (by kernel_rfl) (fun hc_85 => ?_) (fun hc_85 => ?_))
      ·replace h := ifT hc_85 h
       obtain ⟨x_8, hx_86, h⟩ := bd h
       exact qv 25 2 [0] (fun w hm => idx_run (a := (some ⟨D_b, D_q, none⟩)) (len := 96) (s := 1) (j := i_2) (by kernel_rfl) (ix_some hx_86).1 (ltn hx_86 d1.2) (D_h.sp hx_86)) (qv 26 2 [0] (fun w hm => ld_run (b := aB (some ⟨D_b, D_q, none⟩)) (off := (aO (some ⟨D_b, D_q, none⟩) + i_2.toNat * 1)) (s := 1) (agg := false) (vs := (encU32 x_8)) (by kernel_rfl) (by kernel_rfl) (.inr rfl) ((hm.exRowW D_h D_ha).at hx_86)) (qd [⟨27, 0, 2⟩,⟨28, 0, 4⟩,⟨29, 0, 5⟩] 0 [0] (qz (qm (x_8 != 0) h [0]))))
      ·replace h := ifF hc_85 h
       exact qd [⟨25, 0, 3⟩,⟨26, 0, 3⟩,⟨27, 0, 3⟩,⟨28, 0, 5⟩,⟨29, 0, 5⟩] 0 [0] (qz (qm false h [0]))
    ·rintro q_5 h
     replace h : spec_l02Drum.k_6 i_2 q_5 = some y_72 := h
     rw [spec_l02Drum.k_6] at h
     refine jx_then (qi h (fun h => ?_) (fun h => ?_))
     ·refine jc_seq (jc_region (qh [0] (qe (jx_then (jc_ret (jx_inr (jx_thenr (jx_leaver (.inl false) (Option.some.inj h).symm (fun e_81 => ?_)))))))))
      subst e_81
      refine jx_inr (jx_thenr (jx_thenr ?_))
      obtain rfl := Option.some.inj hr_71
      exact qr [] (fun w hm => ⟨rfl, hm.pk [0]⟩)
     ·exact jc_skip (jx_inn (jx_then (jc_region (qh [0,0,0] (qe (qb (w64 (i_2 + 1)) () h trivial [0]))))))
   ·refine jc_exit (jx_thenx (jx_leave (.inr ()) (Option.some.inj h).symm (fun e_87 => ?_)))
    subst e_87
    exact jx_ine (qm () hr_71 [0])
  ·rintro _ h
   replace h : spec_l02Drum.k_1 = some r := h
   rw [spec_l02Drum.k_1] at h
   refine jx_then (jc_seq (jc_region (qh [0] (qe (jx_then (jc_ret ?_))))))
   obtain rfl := Option.some.inj h
   exact qr [] (fun w hm => ⟨rfl, hm.pk [0]⟩)
/-! ### spec.l05Both -/
def spec_l05Both.k_2 (q_1 : Bool) : Option (Int) := (if q_1 = true then some 1 else some 0)
def spec_l05Both (f0 : GFrame) (a1 : Arr 96 Int) (b2 : Arr 96 Int) : Option (Int) := (spec_l02Frame f0).bind fun t_3 => (if (!t_3) = true then spec_l05Both.k_2 true else (spec_l02Drum f0 a1).bind fun t_4 => (if (!t_4) = true then spec_l05Both.k_2 true else (spec_l02Drum f0 b2).bind fun t_5 => spec_l05Both.k_2 (!t_5)))
theorem spec_l05Both.calls (f0 : GFrame) (a1 : Arr 96 Int) (b2 : Arr 96 Int) (w : World) (r : Int) {C_a : Option Addr} {C_an : Nat} (C_c : Nat) (C_h : Rw w C_a 2 encGHammer f0.fHammers) (C_hn : f0.fHammers.length = C_an) {D_b D_q : Nat} (D_h : Rw w (some ⟨D_b, D_q, none⟩) 1 encU32 a1.1) {E_b E_q : Nat} (E_h : Rw w (some ⟨E_b, E_q, none⟩) 1 encU32 b2.1) (A_b : Nat) (hm0 : Mem w (bs [some A_b]) [⟨some A_b, 27, [(.int .i16 f0.fSteps), (.slice C_a C_an C_c)]⟩] w) (C_ha : f0.fHammers ≠ [] → aB C_a ∉ bs [some A_b]) (D_ha : a1.1 ≠ [] → aB (some ⟨D_b, D_q, none⟩) ∉ bs [some A_b]) (E_ha : b2.1 ≠ [] → aB (some ⟨E_b, E_q, none⟩) ∉ bs [some A_b]) (h : spec_l05Both f0 a1 b2 = some r) :
    Calls Tryz.prog 27 #[(.pointer (some ⟨A_b, 0, none⟩)), (.pointer (some ⟨D_b, D_q, none⟩)), (.pointer (some ⟨E_b, E_q, none⟩))] w fun e w' => ∃ v, e = .returned v ∧ (v = (.int .i64 r) ∧ Mem w (bs [some A_b]) [⟨some A_b, 27, [(.int .i16 f0.fSteps), (.slice C_a C_an C_c)]⟩] w') := by
  subst C_hn
  rw [spec_l05Both] at h
  refine enter (args := [(.pointer (some ⟨A_b, 0, none⟩)), (.pointer (some ⟨D_b, D_q, none⟩)), (.pointer (some ⟨E_b, E_q, none⟩))]) Tryz.func27 rfl Tryz.ntmps27 (by kernel_rfl) (L := [⟨some A_b, 27, [(.int .i16 f0.fSteps), (.slice C_a f0.fHammers.length C_c)]⟩]) (W := bs [some A_b]) hm0 ?_
  refine jc_seq (jc_region (qh [0] (qe (jx_then (jc_seq (jc_seq (jc_meet (fun (j : Bool) => match j with | q_1 => spec_l05Both.k_2 q_1 = some r) (fun (j : Bool) => match j with | q_1 => [(6, [], (.int .i64 0)), (21, [], (.bool q_1))]) (fun (j : Bool) => match j with | q_1 => [⟨some A_b, 27, [(.int .i16 f0.fSteps), (.slice C_a f0.fHammers.length C_c)]⟩]) ?_ ?_)))))))
  ·refine jc_region (qh [0] ?_)
   obtain ⟨t_3, ht_7, h⟩ := bd h
   refine tO (pc 0 (fun w hm => spec_l02Frame.calls f0 w _ C_c (hm.exRowW C_h C_ha) rfl A_b (hm.pass (N := [⟨some A_b, 27, [(.int .i16 f0.fSteps), (.slice C_a f0.fHammers.length C_c)]⟩]) [0] (by kernel_rfl) (by kernel_rfl)) (hm.exApart (N := [⟨some A_b, 27, [(.int .i16 f0.fSteps), (.slice C_a f0.fHammers.length C_c)]⟩]) C_h C_ha [0] (by kernel_rfl)) ht_7) ?_)
   rintro w v w' hm ⟨rfl, hm'⟩
   refine ⟨_, hm.appW (ps := [(0, ⟨some A_b, 27, [(.int .i16 f0.fSteps), (.slice C_a f0.fHammers.length C_c)]⟩)]) (N := []) hm' (by kernel_rfl) (by kernel_rfl), jkO ?_⟩
   clear hm hm'
   refine qf [(0, 0), (0, 0), (0, 1), (0, 1)] (qp 10 h (fun h => ?_) (fun h => ?_))
   ·exact qf [(0, 3), (0, 3), (0, 4), (0, 0), (0, 3), (0, 3), (0, 3), (0, 3), (0, 4)] (qe (qm true h [0]))
   ·obtain ⟨t_4, ht_9, h⟩ := bd h
    refine tO (pc 2 (fun w hm => spec_l02Drum.calls f0 a1 w _ C_c (hm.exRowW C_h C_ha) rfl (hm.exRowW D_h D_ha) A_b (hm.pass (N := [⟨some A_b, 27, [(.int .i16 f0.fSteps), (.slice C_a f0.fHammers.length C_c)]⟩]) [0] (by kernel_rfl) (by kernel_rfl)) (hm.exApart (N := [⟨some A_b, 27, [(.int .i16 f0.fSteps), (.slice C_a f0.fHammers.length C_c)]⟩]) C_h C_ha [0] (by kernel_rfl)) (hm.exApart (N := [⟨some A_b, 27, [(.int .i16 f0.fSteps), (.slice C_a f0.fHammers.length C_c)]⟩]) D_h D_ha [0] (by kernel_rfl)) ht_9) ?_)
    rintro w v w' hm ⟨rfl, hm'⟩
    refine ⟨_, hm.appW (ps := [(0, ⟨some A_b, 27, [(.int .i16 f0.fSteps), (.slice C_a f0.fHammers.length C_c)]⟩)]) (N := []) hm' (by kernel_rfl) (by kernel_rfl), jkO ?_⟩
    clear hm hm'
    refine qf [(0, 2), (0, 5), (0, 0), (0, 1), (0, 1)] (qp 16 h (fun h => ?_) (fun h => ?_))
    ·exact qf [(0, 3), (0, 3), (0, 4)] (qe (qm true h [0]))
    ·obtain ⟨t_5, ht_11, h⟩ := bd h
     refine tO (pc 2 (fun w hm => spec_l02Drum.calls f0 b2 w _ C_c (hm.exRowW C_h C_ha) rfl (hm.exRowW E_h E_ha) A_b (hm.pass (N := [⟨some A_b, 27, [(.int .i16 f0.fSteps), (.slice C_a f0.fHammers.length C_c)]⟩]) [0] (by kernel_rfl) (by kernel_rfl)) (hm.exApart (N := [⟨some A_b, 27, [(.int .i16 f0.fSteps), (.slice C_a f0.fHammers.length C_c)]⟩]) C_h C_ha [0] (by kernel_rfl)) (hm.exApart (N := [⟨some A_b, 27, [(.int .i16 f0.fSteps), (.slice C_a f0.fHammers.length C_c)]⟩]) E_h E_ha [0] (by kernel_rfl)) ht_11) ?_)
     rintro w v w' hm ⟨rfl, hm'⟩
     refine ⟨_, hm.appW (ps := [(0, ⟨some A_b, 27, [(.int .i16 f0.fSteps), (.slice C_a f0.fHammers.length C_c)]⟩)]) (N := []) hm' (by kernel_rfl) (by kernel_rfl), jkO ?_⟩
     clear hm hm'
     exact qf [(0, 2), (0, 5)] (qe (qm (!t_5) h [0]))
  ·rintro q_1 h
   replace h : spec_l05Both.k_2 q_1 = some r := h
   rw [spec_l05Both.k_2] at h
   refine jx_then (qi h (fun h => ?_) (fun h => ?_))
   ·refine jc_seq (jc_region (qh [0] (qe (jx_then (jc_ret (jx_thenr ?_))))))
    obtain rfl := Option.some.inj h
    exact qr [] (fun w hm => ⟨rfl, hm.pk [0]⟩)
   ·refine jc_skip (jx_then (jc_seq (jc_region (qh [0] (qe (jx_then (jc_ret ?_)))))))
    obtain rfl := Option.some.inj h
    exact qr [] (fun w hm => ⟨rfl, hm.pk [0]⟩)
/-! ### spec.l05Changes -/
def spec_l05Changes.k_2 (xs_1 : List GChange) : Option ((List GChange)) := some xs_1
def spec_l05Changes.k_10 (i_4 : Int) (xs_9 : List GChange) : Option (((List GChange) × Int) ⊕ ((List GChange))) := some (.inl (xs_9, (w64 (i_4 + 1))))
def spec_l05Changes.l_13 (put2 : Bool) (i_4 : Int) (x_7 : Int) (x_8 : Int) : ((List GChange) × Int) → Option (((List GChange) × Int) ⊕ ((List GChange)))
  | (xs_11, i_12) => (if (decide (i_12 < 24)) = true then (if 0 ≤ (u64 i_12) then (if ((Int.tmod (bShr .u32 (bClr .u32 x_7 x_8) (u64 i_12)) 2) == 1) = true then (if xs_11.length + ([(⟨(w16 i_4), (w8 i_12), put2⟩ : GChange)] : List GChange).length ≤ 4294967296 then some (.inl ((xs_11 ++ ([(⟨(w16 i_4), (w8 i_12), put2⟩ : GChange)] : List GChange)), (w64 (i_12 + 1)))) else none) else some (.inl (xs_11, (w64 (i_12 + 1))))) else none) else some (.inr xs_11))
def spec_l05Changes.l_5 (a0 : Arr 96 Int) (b1 : Arr 96 Int) (put2 : Bool) : ((List GChange) × Int) → Option (((List GChange) × Int) ⊕ ((List GChange)))
  | (xs_3, i_4) => (if (decide (i_4 < 96)) = true then (ix b1.1 i_4).bind fun x_7 => (ix a0.1 i_4).bind fun x_8 => (loop (spec_l05Changes.l_13 put2 i_4 x_7 x_8) (xs_3, 0)).bind fun t_14 => spec_l05Changes.k_10 i_4 t_14 else some (.inr xs_3))
def spec_l05Changes (a0 : Arr 96 Int) (b1 : Arr 96 Int) (put2 : Bool) : Option ((List GChange)) := (loop (spec_l05Changes.l_5 a0 b1 put2) (([] : List GChange), 0)).bind fun t_6 => spec_l05Changes.k_2 t_6
theorem spec_l05Changes.calls (a0 : Arr 96 Int) (b1 : Arr 96 Int) (put2 : Bool) (w : World) (r : (List GChange)) {A_b A_q : Nat} (A_h : Rw w (some ⟨A_b, A_q, none⟩) 1 encU32 a0.1) {B_b B_q : Nat} (B_h : Rw w (some ⟨B_b, B_q, none⟩) 1 encU32 b1.1) (h : spec_l05Changes a0 b1 put2 = some r) :
    Calls Tryz.prog 28 #[(.pointer (some ⟨A_b, A_q, none⟩)), (.pointer (some ⟨B_b, B_q, none⟩)), (.bool put2)] w fun e w' => ∃ v, e = .returned v ∧ (∃ (o0 : Option Nat) (c0 : Nat) (s0 : List Value) (n0 : Nat), r.length = n0 ∧ (o0 ≠ none → n0 ≤ c0 ∧ s0.length = (c0 - n0) * 3) ∧ (o0 = none → r = [] ∧ c0 = 0) ∧ v = .slice (o0.map fun b => ⟨b, 0, none⟩) n0 c0 ∧ Mem w [] [⟨o0, 61, row encGChange r s0⟩] w') := by
  rw [spec_l05Changes] at h
  refine enter (args := [(.pointer (some ⟨A_b, A_q, none⟩)), (.pointer (some ⟨B_b, B_q, none⟩)), (.bool put2)]) Tryz.func28 rfl Tryz.ntmps28 (by kernel_rfl) (L := []) (W := []) (Mem.start w) ?_
  refine jc_seq (jc_region (qh [0] (qe (jx_then (jc_seq (jc_region (tO (qa 0 (fun b_1 => jkO (qh [0] (qe (jx_then (jc_seq (jc_seq (jc_region (qh [0] (qe (jx_then (jc_meet (fun (j : (List GChange) × (Option Nat) × Nat × (List Value) × Nat) => match j with | ⟨xs_1, o_1028, cap_1029, sp_1030, n_1031⟩ => spec_l05Changes.k_2 xs_1 = some r ∧ (xs_1.length = n_1031) ∧ ((o_1028 ≠ none → n_1031 ≤ cap_1029 ∧ sp_1030.length = (cap_1029 - n_1031) * 3)) ∧ ((o_1028 = none → xs_1 = [] ∧ cap_1029 = 0))) (fun (j : (List GChange) × (Option Nat) × Nat × (List Value) × Nat) => match j with | ⟨xs_1, o_1028, cap_1029, sp_1030, n_1031⟩ => [(6, [], (.slice none 0 0)), (7, [], (.slice (o_1028.map fun b => ⟨b, 0, none⟩) n_1031 cap_1029))]) (fun (j : (List GChange) × (Option Nat) × Nat × (List Value) × Nat) => match j with | ⟨xs_1, o_1028, cap_1029, sp_1030, n_1031⟩ => [⟨o_1028, 61, row encGChange xs_1 sp_1030⟩]) ?_ ?_)))))))))))))))))))
  ·refine jc_block ?_
   obtain ⟨t_6, ht_1373, hr_1262⟩ := bd h
   refine jc_loop (fun (s : (List GChange) × Int) (x : (Option Nat) × Nat × (List Value) × Nat) => match s, x with | ⟨xs_3, i_4⟩, ⟨o_1256, cap_1257, sp_1258, n_1259⟩ => (xs_3.length = n_1259) ∧ ((o_1256 ≠ none → n_1259 ≤ cap_1257 ∧ sp_1258.length = (cap_1257 - n_1259) * 3)) ∧ ((o_1256 = none → xs_3 = [] ∧ cap_1257 = 0))) (fun (s : (List GChange) × Int) (x : (Option Nat) × Nat × (List Value) × Nat) => match s, x with | ⟨xs_3, i_4⟩, ⟨o_1256, cap_1257, sp_1258, n_1259⟩ => [(0, [], (.pointer (some ⟨A_b, A_q, none⟩))), (1, [], (.pointer (some ⟨B_b, B_q, none⟩))), (2, [], (.bool put2)), (6, [], (.slice none 0 0)), (7, [], (.slice (o_1256.map fun b => ⟨b, 0, none⟩) n_1259 cap_1257)), (8, [], (.int .i64 i_4))]) (fun (s : (List GChange) × Int) (x : (Option Nat) × Nat × (List Value) × Nat) => match s, x with | ⟨xs_3, i_4⟩, ⟨o_1256, cap_1257, sp_1258, n_1259⟩ => [⟨o_1256, 61, row encGChange xs_3 sp_1258⟩]) ht_1373 ⟨(some b_1), 0, [], 0⟩ ⟨rfl, (fun _ => ⟨Nat.le_refl _, by simp⟩), (fun e => nomatch e)⟩ (by kernel_rfl) [0] (by kernel_rfl) (by kernel_rfl) ?_
   rintro ⟨xs_3, i_4⟩ ⟨o_1256, cap_1257, sp_1258, n_1259⟩ y_1263 ⟨rfl, hs_1260, ho_1261⟩ h
   rw [spec_l05Changes.l_5] at h
   refine jc_seq (jc_seq (jc_region (qh [0,0] (qe (jx_then (qi h (fun h => ?_) (fun h => ?_)))))))
   ·refine jc_skip (jx_then (jc_seq (jc_block (jc_seq (qg [⟨o_1256, 61, row encGChange xs_3 sp_1258⟩] 12 (qd [⟨0, 0, 0⟩,⟨1, 0, 0⟩,⟨2, 0, 0⟩,⟨5, 0, 0⟩,⟨6, 0, 0⟩,⟨7, 0, 0⟩] 6 [0] ?_))))))
    obtain ⟨x_7, hx_1266, h⟩ := bd h
    refine qv 3 0 [0] (fun w hm => idx_run (a := (some ⟨B_b, B_q, none⟩)) (len := 96) (s := 1) (j := i_4) (by kernel_rfl) (ix_some hx_1266).1 (ltn hx_1266 b1.2) (B_h.sp hx_1266)) (qv 4 0 [0] (fun w hm => ld_run (b := aB (some ⟨B_b, B_q, none⟩)) (off := (aO (some ⟨B_b, B_q, none⟩) + i_4.toNat * 1)) (s := 1) (agg := false) (vs := (encU32 x_7)) (by kernel_rfl) (by kernel_rfl) (.inr rfl) ((hm.xr B_h).at hx_1266)) ?_)
    obtain ⟨x_8, hx_1267, h⟩ := bd h
    refine qv 8 0 [0] (fun w hm => idx_run (a := (some ⟨A_b, A_q, none⟩)) (len := 96) (s := 1) (j := i_4) (by kernel_rfl) (ix_some hx_1267).1 (ltn hx_1267 a0.2) (A_h.sp hx_1267)) (qv 9 0 [0] (fun w hm => ld_run (b := aB (some ⟨A_b, A_q, none⟩)) (off := (aO (some ⟨A_b, A_q, none⟩) + i_4.toNat * 1)) (s := 1) (agg := false) (vs := (encU32 x_8)) (by kernel_rfl) (by kernel_rfl) (.inr rfl) ((hm.xr A_h).at hx_1267)) (qd [⟨10, 0, 0⟩,⟨11, 0, 0⟩] 0 [0] (qz (jx_then (jc_seq (jc_region (qh [0] (qe (jx_then (jc_meet (fun (j : (List GChange) × (Option Nat) × Nat × (List Value) × Nat) => match j with | ⟨xs_9, o_1317, cap_1318, sp_1319, n_1320⟩ => spec_l05Changes.k_10 i_4 xs_9 = some y_1263 ∧ (xs_9.length = n_1320) ∧ ((o_1317 ≠ none → n_1320 ≤ cap_1318 ∧ sp_1319.length = (cap_1318 - n_1320) * 3)) ∧ ((o_1317 = none → xs_9 = [] ∧ cap_1318 = 0))) (fun (j : (List GChange) × (Option Nat) × Nat × (List Value) × Nat) => match j with | ⟨xs_9, o_1317, cap_1318, sp_1319, n_1320⟩ => [(0, [], (.pointer (some ⟨A_b, A_q, none⟩))), (1, [], (.pointer (some ⟨B_b, B_q, none⟩))), (2, [], (.bool put2)), (6, [], (.slice none 0 0)), (7, [], (.slice (o_1317.map fun b => ⟨b, 0, none⟩) n_1320 cap_1318)), (8, [], (.int .i64 i_4))]) (fun (j : (List GChange) × (Option Nat) × Nat × (List Value) × Nat) => match j with | ⟨xs_9, o_1317, cap_1318, sp_1319, n_1320⟩ => [⟨o_1317, 61, row encGChange xs_9 sp_1319⟩]) ?_ ?_))))))))))
    ·refine jc_block ?_
     obtain ⟨t_14, ht_1371, hr_1357⟩ := bd h
     refine jc_loop (fun (s : (List GChange) × Int) (x : (Option Nat) × Nat × (List Value) × Nat) => match s, x with | ⟨xs_11, i_12⟩, ⟨o_1351, cap_1352, sp_1353, n_1354⟩ => (xs_11.length = n_1354) ∧ ((o_1351 ≠ none → n_1354 ≤ cap_1352 ∧ sp_1353.length = (cap_1352 - n_1354) * 3)) ∧ ((o_1351 = none → xs_11 = [] ∧ cap_1352 = 0))) (fun (s : (List GChange) × Int) (x : (Option Nat) × Nat × (List Value) × Nat) => match s, x with | ⟨xs_11, i_12⟩, ⟨o_1351, cap_1352, sp_1353, n_1354⟩ => [(0, [], (.pointer (some ⟨A_b, A_q, none⟩))), (1, [], (.pointer (some ⟨B_b, B_q, none⟩))), (2, [], (.bool put2)), (6, [], (.slice none 0 0)), (7, [], (.slice (o_1351.map fun b => ⟨b, 0, none⟩) n_1354 cap_1352)), (8, [], (.int .i64 i_4)), (9, [], (.int .u32 (bClr .u32 x_7 x_8))), (10, [], (.int .i64 i_12))]) (fun (s : (List GChange) × Int) (x : (Option Nat) × Nat × (List Value) × Nat) => match s, x with | ⟨xs_11, i_12⟩, ⟨o_1351, cap_1352, sp_1353, n_1354⟩ => [⟨o_1351, 61, row encGChange xs_11 sp_1353⟩]) ht_1371 ⟨o_1256, cap_1257, sp_1258, xs_3.length⟩ ⟨rfl, hs_1260, ho_1261⟩ (by kernel_rfl) [0] (by kernel_rfl) (by kernel_rfl) ?_
     rintro ⟨xs_11, i_12⟩ ⟨o_1351, cap_1352, sp_1353, n_1354⟩ y_1358 ⟨rfl, hs_1355, ho_1356⟩ h
     rw [spec_l05Changes.l_13] at h
     refine jc_seq (jc_seq (jc_region (qh [0,0] (qe (jx_then (qi h (fun h => ?_) (fun h => ?_)))))))
     ·refine jc_skip (jx_then (jc_seq (jc_block (jc_seq (jc_region (qh [0,0,0] ?_))))))
      obtain ⟨hg_1361, h⟩ := gd h
      refine tO (p_shr 0 .u32 (bClr .u32 x_7 x_8) .u64 (u64 i_12) (by kernel_rfl) (by kernel_rfl) hg_1361 (jkO (qh [0,0] (qe (jx_then (qi h (fun h => ?_) (fun h => ?_)))))))
      ·refine jc_region (qh [0,0,0,0,0,0,0] (tO (qa 0 (fun b_1363 => jkO ?_))))
       obtain ⟨hg_1364, h⟩ := gd h
       exact tO (p_apn 0 0 o_1351 61 xs_11.length 1 cap_1352 3 4 (some ⟨b_1363, 0, none⟩) encGChange xs_11 ([(⟨(w16 i_4), (w8 i_12), put2⟩ : GChange)] : List GChange) sp_1353 (.agg #[(.int .i16 0), (.int .i8 0), (.bool false)]) rfl rfl (by kernel_rfl) (by kernel_rfl) (by kernel_rfl) encGChange_len encGChange_cell hs_1355 ho_1356 (fun w hm => (hm.ow 1 (some b_1363) 61 ([(⟨(w16 i_4), (w8 i_12), put2⟩ : GChange)] : List GChange) [] (fun e => nomatch e) encGChange_len)) hg_1364 (by kernel_rfl) (by kernel_rfl) (fun o_1365 cap_1366 sp_1367 hs_1368 ho_1369 => jkO (qh [0] (qe (jx_inn (jx_then (jc_region (qh [0,0,0] (qe (qb ((xs_11 ++ ([(⟨(w16 i_4), (w8 i_12), put2⟩ : GChange)] : List GChange)), (w64 (i_12 + 1))) ⟨o_1365, cap_1366, sp_1367, (xs_11 ++ ([(⟨(w16 i_4), (w8 i_12), put2⟩ : GChange)] : List GChange)).length⟩ h ⟨rfl, hs_1368, ho_1369⟩ [0]))))))))))
      ·exact jc_skip (jx_inn (jx_then (jc_region (qh [0,0,0] (qe (qb (xs_11, (w64 (i_12 + 1))) ⟨o_1351, cap_1352, sp_1353, xs_11.length⟩ h ⟨rfl, hs_1355, ho_1356⟩ [0]))))))
     ·refine jc_exit (jx_thenx (jx_leave xs_11 (Option.some.inj h).symm (fun e_1370 => ?_)))
      subst e_1370
      exact jx_ine (qm ⟨xs_11, o_1351, cap_1352, sp_1353, xs_11.length⟩ ⟨hr_1357, rfl, hs_1355, ho_1356⟩ [0])
    ·rintro ⟨xs_9, o_1317, cap_1318, sp_1319, n_1320⟩ ⟨h, rfl, hs_1321, ho_1322⟩
     replace h : spec_l05Changes.k_10 i_4 xs_9 = some y_1263 := h
     rw [spec_l05Changes.k_10] at h
     exact jx_inn (jx_then (jc_region (qh [0,0,0] (qe (qb (xs_9, (w64 (i_4 + 1))) ⟨o_1317, cap_1318, sp_1319, xs_9.length⟩ h ⟨rfl, hs_1321, ho_1322⟩ [0])))))
   ·refine jc_exit (jx_thenx (jx_leave xs_3 (Option.some.inj h).symm (fun e_1372 => ?_)))
    subst e_1372
    exact jx_ine (qm ⟨xs_3, o_1256, cap_1257, sp_1258, xs_3.length⟩ ⟨hr_1262, rfl, hs_1260, ho_1261⟩ [0])
  ·rintro ⟨xs_1, o_1028, cap_1029, sp_1030, n_1031⟩ ⟨h, rfl, hs_1032, ho_1033⟩
   replace h : spec_l05Changes.k_2 xs_1 = some r := h
   rw [spec_l05Changes.k_2] at h
   refine jx_then (jc_seq (jc_region (qh [0,0] (qe (jx_then (jc_ret ?_))))))
   obtain rfl := Option.some.inj h
   exact qr [] (fun w hm => ⟨o_1028, cap_1029, sp_1030, xs_1.length, rfl, hs_1032, ho_1033, rfl, hm.pk [0]⟩)
/-! ### spec.ChangesBetween -/
def spec_ChangesBetween (f0 : GFrame) (a1 : Arr 96 Int) (b2 : Arr 96 Int) : Option ((List GChange) × Int) := (spec_l05Both f0 a1 b2).bind fun t_1 => (if (t_1 != 0) = true then some (([] : List GChange), t_1) else (spec_l05Changes b2 a1 false).bind fun t_2 => (spec_l05Changes a1 b2 true).bind fun t_3 => (if t_2.length + t_3.length ≤ 4294967296 then some ((t_2 ++ t_3), 0) else none))
theorem spec_ChangesBetween.calls (f0 : GFrame) (a1 : Arr 96 Int) (b2 : Arr 96 Int) (w : World) (r : (List GChange) × Int) {C_a : Option Addr} {C_an : Nat} (C_c : Nat) (C_h : Rw w C_a 2 encGHammer f0.fHammers) (C_hn : f0.fHammers.length = C_an) (h : spec_ChangesBetween f0 a1 b2 = some r) :
    Calls Tryz.prog 8 #[(.agg #[(.int .i16 f0.fSteps), (.slice C_a C_an C_c)]), (.agg (row encU32 a1.1 []).toArray), (.agg (row encU32 b2.1 []).toArray)] w fun e w' => ∃ v, e = .returned v ∧ (∃ (o0 : Option Nat) (c0 : Nat) (s0 : List Value) (n0 : Nat), r.1.length = n0 ∧ (o0 ≠ none → n0 ≤ c0 ∧ s0.length = (c0 - n0) * 3) ∧ (o0 = none → r.1 = [] ∧ c0 = 0) ∧ v = .tuple #[.slice (o0.map fun b => ⟨b, 0, none⟩) n0 c0, (.int .i64 r.2)] ∧ Mem w [] [⟨o0, 61, row encGChange r.1 s0⟩] w') := by
  subst C_hn
  rw [spec_ChangesBetween] at h
  refine enter (args := [(.agg #[(.int .i16 f0.fSteps), (.slice C_a f0.fHammers.length C_c)]), (.agg (row encU32 a1.1 []).toArray), (.agg (row encU32 b2.1 []).toArray)]) Tryz.func8 rfl Tryz.ntmps8 (by kernel_rfl) (L := []) (W := []) (Mem.start w) ?_
  refine jc_seq (jc_region (tO (qa 0 (fun b_1 => jkO (tO (qa 0 (fun b_2 => jkO (tO (qa 0 (fun b_3 => jkO (qh [0,0] (qe (jx_then (jc_seq (jc_seq (jc_region ?_))))))))))))))))
  obtain ⟨t_1, ht_7, h⟩ := bd h
  refine tO (pc 0 (fun w hm => spec_l05Both.calls f0 a1 b2 w _ C_c (hm.xr C_h) rfl (hm.ow 1 (some b_2) 31 a1.1 [] (fun e => nomatch e) encU32_len) (hm.ow 2 (some b_3) 31 b2.1 [] (fun e => nomatch e) encU32_len) b_1 (hm.pass (N := [⟨some b_1, 27, [(.int .i16 f0.fSteps), (.slice C_a f0.fHammers.length C_c)]⟩]) [0] (by kernel_rfl) (by kernel_rfl)) (hm.exApart (N := [⟨some b_1, 27, [(.int .i16 f0.fSteps), (.slice C_a f0.fHammers.length C_c)]⟩]) C_h (fun _ => List.not_mem_nil) [0] (by kernel_rfl)) (hm.ownApart (S := Int) (N := [⟨some b_1, 27, [(.int .i16 f0.fSteps), (.slice C_a f0.fHammers.length C_c)]⟩]) (hh := 1) (o := (some b_2)) (T := 31) (cs := row encU32 a1.1 []) (xs := a1.1) (by kernel_rfl) (fun e => nomatch e) [0] (by kernel_rfl) (by kernel_rfl)) (hm.ownApart (S := Int) (N := [⟨some b_1, 27, [(.int .i16 f0.fSteps), (.slice C_a f0.fHammers.length C_c)]⟩]) (hh := 2) (o := (some b_3)) (T := 31) (cs := row encU32 b2.1 []) (xs := b2.1) (by kernel_rfl) (fun e => nomatch e) [0] (by kernel_rfl) (by kernel_rfl)) ht_7) ?_)
  rintro w v w' hm ⟨rfl, hm'⟩
  refine ⟨_, hm.appW (ps := [(0, ⟨some b_1, 27, [(.int .i16 f0.fSteps), (.slice C_a f0.fHammers.length C_c)]⟩)]) (N := []) hm' (by kernel_rfl) (by kernel_rfl), jkO ?_⟩
  clear hm hm'
  refine qh [0] (qe (jx_then (jc_seq (jc_region (qh [0,0] (qe (jx_then (qi h (fun h => ?_) (fun h => ?_)))))))))
  ·refine jc_seq (jc_region (tO (qa 0 (fun b_9 => jkO (qh [0,0,0] (qe (jx_then (jc_ret (jx_thenr ?_)))))))))
   obtain rfl := Option.some.inj h
   exact qr [] (fun w hm => ⟨(some b_9), 0, [], 0, rfl, (fun _ => ⟨Nat.le_refl _, by simp⟩), (fun e => nomatch e), rfl, hm.pk [3]⟩)
  ·refine jc_skip (jx_then (jc_seq (jc_region ?_)))
   obtain ⟨t_2, ht_10, h⟩ := bd h
   refine tO (pc 0 (fun w hm => spec_l05Changes.calls b2 a1 false w _ (hm.ow 2 (some b_3) 31 b2.1 [] (fun e => nomatch e) encU32_len) (hm.ow 1 (some b_2) 31 a1.1 [] (fun e => nomatch e) encU32_len) ht_10) ?_)
   rintro w v w' hm ⟨o_11, cap_12, sp_13, _, rfl, hs_14, ho_15, rfl, hm'⟩
   refine ⟨_, hm.app hm', jkO ?_⟩
   clear hm hm'
   obtain ⟨t_3, ht_16, h⟩ := bd h
   refine tO (pc 0 (fun w hm => spec_l05Changes.calls a1 b2 true w _ (hm.ow 1 (some b_2) 31 a1.1 [] (fun e => nomatch e) encU32_len) (hm.ow 2 (some b_3) 31 b2.1 [] (fun e => nomatch e) encU32_len) ht_16) ?_)
   rintro w v w' hm ⟨o_17, cap_18, sp_19, _, rfl, hs_20, ho_21, rfl, hm'⟩
   refine ⟨_, hm.app hm', jkO ?_⟩
   clear hm hm'
   obtain ⟨hg_22, h⟩ := gd h
   refine tO (p_apn 0 3 o_11 61 t_2.length t_3.length cap_12 3 4 (o_17.map fun b => ⟨b, 0, none⟩) encGChange t_2 t_3 sp_13 (.agg #[(.int .i16 0), (.int .i8 0), (.bool false)]) rfl rfl (by kernel_rfl) (by kernel_rfl) (by kernel_rfl) encGChange_len encGChange_cell hs_14 ho_15 (fun w hm => (hm.ow 4 o_17 61 t_3 sp_19 (fun e => (ho_21 e).1) encGChange_len)) hg_22 (by kernel_rfl) (by kernel_rfl) (fun o_23 cap_24 sp_25 hs_26 ho_27 => jkO (qh [0,0] (qe (jx_then (jc_ret ?_))))))
   obtain rfl := Option.some.inj h
   exact qr [] (fun w hm => ⟨o_23, cap_24, sp_25, ((t_2 ++ t_3).length), rfl, hs_26, ho_27, rfl, hm.pk [3]⟩)
/-! ### impl.ChangesText$1 -/
def impl_ChangesText_1 (c0 : GChange) : Option (Bool) := (impl_within (w64 c0.fStep) 0 95).bind fun t_1 => (if (!t_1) = true then some true else (impl_within (w64 c0.fTrack) 0 23).bind fun t_2 => some (!t_2))
theorem impl_ChangesText_1.calls (c0 : GChange) (w : World) (r : Bool) (h : impl_ChangesText_1 c0 = some r) :
    Calls Tryz.prog 34 #[(.agg #[(.int .i16 c0.fStep), (.int .i8 c0.fTrack), (.bool c0.fPut)])] w fun e w' => ∃ v, e = .returned v ∧ (v = (.bool r) ∧ Mem w [] [] w') := by
  rw [impl_ChangesText_1] at h
  refine enter (args := [(.agg #[(.int .i16 c0.fStep), (.int .i8 c0.fTrack), (.bool c0.fPut)])]) Tryz.func34 rfl Tryz.ntmps34 (by kernel_rfl) (L := []) (W := []) (Mem.start w) ?_
  refine jc_seq (jc_region (tO (qa 0 (fun b_1 => jkO (qh [0] (qe (jx_then (jc_seq (jc_region (qh [0,0,0] ?_))))))))))
  obtain ⟨t_1, ht_2, h⟩ := bd h
  refine tO (pc 0 (fun w hm => impl_within.calls (w64 c0.fStep) 0 95 w _ ht_2) ?_)
  rintro w v w' hm ⟨rfl, hm'⟩
  refine ⟨_, hm.app hm', jkO ?_⟩
  clear hm hm'
  refine qf [(0, 0), (0, 0), (0, 1), (0, 1), (0, 1)] (qp 8 h (fun h => ?_) (fun h => ?_))
  ·refine qf [(0, 3), (0, 3), (0, 4), (0, 0)] (qe (jx_then (jc_ret ?_)))
   obtain rfl := Option.some.inj h
   exact qr [] (fun w hm => ⟨rfl, hm.pk []⟩)
  ·obtain ⟨t_2, ht_4, h⟩ := bd h
   refine tO (pc 2 (fun w hm => impl_within.calls (w64 c0.fTrack) 0 23 w _ ht_4) ?_)
   rintro w v w' hm ⟨rfl, hm'⟩
   refine ⟨_, hm.app hm', jkO ?_⟩
   clear hm hm'
   refine qf [(0, 2), (0, 5), (0, 0)] (qe (jx_then (jc_ret ?_)))
   obtain rfl := Option.some.inj h
   exact qr [] (fun w hm => ⟨rfl, hm.pk []⟩)
/-! ### slices.IndexFunc[[]impl.Change,impl.Change] -/
def slices_IndexFunc_Change_at_impl_ChangesText_1.k_1 : Option (Int) := some (-1)
def slices_IndexFunc_Change_at_impl_ChangesText_1.l_3 (s0 : List GChange) : Int → Option ((Int) ⊕ (Int ⊕ Unit))
  | i_2 => (if (decide (i_2 < (s0.length : Int))) = true then (ix s0 i_2).bind fun x_5 => (impl_ChangesText_1 x_5).bind fun t_6 => (if t_6 = true then some (.inr (.inl i_2)) else some (.inl (w64 (i_2 + 1)))) else some (.inr (.inr ())))
def slices_IndexFunc_Change_at_impl_ChangesText_1 (s0 : List GChange) : Option (Int) := (loop (slices_IndexFunc_Change_at_impl_ChangesText_1.l_3 s0) 0).bind fun t_4 => match t_4 with | .inl p => some p | .inr p => slices_IndexFunc_Change_at_impl_ChangesText_1.k_1
theorem slices_IndexFunc_Change_at_impl_ChangesText_1.calls (s0 : List GChange) (w : World) (r : Int) {A_a : Option Addr} {A_an : Nat} (A_c : Nat) (A_h : Rw w A_a 3 encGChange s0) (A_hn : s0.length = A_an) (h : slices_IndexFunc_Change_at_impl_ChangesText_1 s0 = some r) :
    Calls Tryz.prog 60 #[(.slice A_a A_an A_c), (.func (.func 34) #[] #[])] w fun e w' => ∃ v, e = .returned v ∧ (v = (.int .i64 r) ∧ Mem w [] [] w') := by
  subst A_hn
  rw [slices_IndexFunc_Change_at_impl_ChangesText_1] at h
  refine enter (args := [(.slice A_a s0.length A_c), (.func (.func 34) #[] #[])]) Tryz.func60 rfl Tryz.ntmps60 (by kernel_rfl) (L := []) (W := []) (Mem.start w) ?_
  refine jc_seq (jc_region (qh [0] (qe (jx_then (jc_seq (jc_seq (jc_region (qh [0,0,0] (qe (jx_then (jc_meet (fun (_ : Unit) => slices_IndexFunc_Change_at_impl_ChangesText_1.k_1 = some r) (fun (_ : Unit) => [(4, [], (.int .i64 0))]) (fun (_ : Unit) => []) ?_ ?_)))))))))))
  ·refine jc_block ?_
   obtain ⟨t_4, ht_40, hr_31⟩ := bd h
   refine jc_loop (fun (s : Int) (x : Unit) => match s, x with | i_2, _ => True) (fun (s : Int) (x : Unit) => match s, x with | i_2, _ => [(0, [], (.slice A_a s0.length A_c)), (1, [], (.func (.func 34) #[] #[])), (4, [], (.int .i64 0)), (7, [], (.int .i64 (s0.length : Int))), (8, [], (.int .i64 i_2))]) (fun (s : Int) (x : Unit) => match s, x with | i_2, _ => []) ht_40 () trivial (by kernel_rfl) [] (by kernel_rfl) (by kernel_rfl) ?_
   rintro i_2 _ y_32 _ h
   rw [slices_IndexFunc_Change_at_impl_ChangesText_1.l_3] at h
   refine jc_seq (jc_region (qh [0] (qe (jx_then (jc_seq (qi h (fun h => ?_) (fun h => ?_)))))))
   ·refine jc_skip (jx_then (jc_seq (jc_block (jc_seq (jc_region (qh [0,0] (qe (jx_then (jc_seq (jc_region (qh [0,0,0] ?_)))))))))))
    obtain ⟨x_5, hx_35, h⟩ := bd h
    refine tO (qx 0 A_a 3 hx_35 rfl (A_h.sp hx_35) (jkO (tO (ql 0 true (fun w hm => ((hm.xr A_h).at hx_35)) (jkO ?_)))))
    obtain ⟨t_6, ht_36, h⟩ := bd h
    refine tO (pc 0 (fun w hm => impl_ChangesText_1.calls x_5 w _ ht_36) ?_)
    rintro w v w' hm ⟨rfl, hm'⟩
    refine ⟨_, hm.app hm', jkO ?_⟩
    clear hm hm'
    refine qe (jx_then (qi h (fun h => ?_) (fun h => ?_)))
    ·refine jc_seq (jc_region (qh [0,0] (qe (jx_then (jc_ret (jx_inr (jx_thenr (jx_leaver (.inl i_2) (Option.some.inj h).symm (fun e_38 => ?_)))))))))
     subst e_38
     refine jx_inr (jx_thenr (jx_thenr ?_))
     obtain rfl := Option.some.inj hr_31
     exact qr [] (fun w hm => ⟨rfl, hm.pk []⟩)
    ·exact jc_skip (jx_inn (jx_then (jc_region (qh [0,0] (qe (qb (w64 (i_2 + 1)) () h trivial []))))))
   ·refine jc_exit (jx_thenx (jx_leave (.inr ()) (Option.some.inj h).symm (fun e_39 => ?_)))
    subst e_39
    exact jx_ine (qm () hr_31 [])
  ·rintro _ h
   replace h : slices_IndexFunc_Change_at_impl_ChangesText_1.k_1 = some r := h
   rw [slices_IndexFunc_Change_at_impl_ChangesText_1.k_1] at h
   refine jx_then (jc_seq (jc_region (qh [0] (qe (jx_then (jc_ret ?_))))))
   obtain rfl := Option.some.inj h
   exact qr [] (fun w hm => ⟨rfl, hm.pk []⟩)
/-! ### slices.ContainsFunc[[]impl.Change,impl.Change] -/
def slices_ContainsFunc_Change_at_impl_ChangesText_1 (s0 : List GChange) : Option (Bool) := (slices_IndexFunc_Change_at_impl_ChangesText_1 s0).bind fun t_1 => some (decide (t_1 ≥ 0))
theorem slices_ContainsFunc_Change_at_impl_ChangesText_1.calls (s0 : List GChange) (w : World) (r : Bool) {A_a : Option Addr} {A_an : Nat} (A_c : Nat) (A_h : Rw w A_a 3 encGChange s0) (A_hn : s0.length = A_an) (h : slices_ContainsFunc_Change_at_impl_ChangesText_1 s0 = some r) :
    Calls Tryz.prog 33 #[(.slice A_a A_an A_c), (.func (.func 34) #[] #[])] w fun e w' => ∃ v, e = .returned v ∧ (v = (.bool r) ∧ Mem w [] [] w') := by
  subst A_hn
  rw [slices_ContainsFunc_Change_at_impl_ChangesText_1] at h
  refine enter (args := [(.slice A_a s0.length A_c), (.func (.func 34) #[] #[])]) Tryz.func33 rfl Tryz.ntmps33 (by kernel_rfl) (L := []) (W := []) (Mem.start w) ?_
  refine jc_seq (jc_region (qh [0] (qe (jx_then (jc_seq (jc_region (qh [0,0] ?_)))))))
  obtain ⟨t_1, ht_1, h⟩ := bd h
  refine tO (pc 0 (fun w hm => slices_IndexFunc_Change_at_impl_ChangesText_1.calls s0 w _ A_c (hm.xr A_h) rfl ht_1) ?_)
  rintro w v w' hm ⟨rfl, hm'⟩
  refine ⟨_, hm.app hm', jkO ?_⟩
  clear hm hm'
  refine qh [0,0] (qe (jx_then (jc_ret ?_)))
  obtain rfl := Option.some.inj h
  exact qr [] (fun w hm => ⟨rfl, hm.pk []⟩)
def lay_strconv_FormatInt_ren : Go.Shelf.Ren := ⟨fun | 173 => 61 | 246 => 88 | 283 => 112 | 284 => 113 | 285 => 114 | 286 => 115 | 129 => 128 | 317 => 127 | 318 => 129 | 319 => 130 | 320 => 131 | 337 => 133 | 338 => 134 | n => n, fun | 2 => 2 | 3 => 3 | 9 => 9 | 4 => 4 | 171 => 155 | 0 => 0 | 53 => 93 | 37 => 22 | 5 => 5 | 173 => 158 | 212 => 173 | 51 => 29 | 20 => 20 | 213 => 174 | 46 => 98 | 232 => 184 | 233 => 185 | n => n, fun | 17 => 3 | 18 => 6 | 19 => 7 | n => n⟩
theorem lay_strconv_FormatInt : Go.Proofs.LaysM.n173 Tryz.prog lay_strconv_FormatInt_ren where
  mixed := by kernel_rfl
  f129 := Tryz.func128.trans (congrArg some (by kernel_rfl))
  f173 := Tryz.func61.trans (congrArg some (by kernel_rfl))
  f246 := Tryz.func88.trans (congrArg some (by kernel_rfl))
  f283 := Tryz.func112.trans (congrArg some (by kernel_rfl))
  f284 := Tryz.func113.trans (congrArg some (by kernel_rfl))
  f285 := Tryz.func114.trans (congrArg some (by kernel_rfl))
  f286 := Tryz.func115.trans (congrArg some (by kernel_rfl))
  f317 := Tryz.func127.trans (congrArg some (by kernel_rfl))
  f318 := Tryz.func129.trans (congrArg some (by kernel_rfl))
  f319 := Tryz.func130.trans (congrArg some (by kernel_rfl))
  f320 := Tryz.func131.trans (congrArg some (by kernel_rfl))
  f337 := Tryz.func133.trans (congrArg some (by kernel_rfl))
  f338 := Tryz.func134.trans (congrArg some (by kernel_rfl))
  t0 := Tryz.underlying0
  a0 := Tryz.isAgg0
  z0 := Tryz.sizeOf0
  v0 := Tryz.zeroValue0
  t2 := Tryz.underlying2
  a2 := Tryz.isAgg2
  z2 := Tryz.sizeOf2
  v2 := Tryz.zeroValue2
  t3 := Tryz.underlying3
  a3 := Tryz.isAgg3
  z3 := Tryz.sizeOf3
  v3 := Tryz.zeroValue3
  t4 := Tryz.underlying4
  a4 := Tryz.isAgg4
  z4 := Tryz.sizeOf4
  v4 := Tryz.zeroValue4
  t5 := Tryz.underlying5
  a5 := Tryz.isAgg5
  z5 := Tryz.sizeOf5
  v5 := Tryz.zeroValue5
  t9 := Tryz.underlying9
  a9 := Tryz.isAgg9
  z9 := Tryz.sizeOf9
  v9 := Tryz.zeroValue9
  t20 := Tryz.underlying20
  a20 := Tryz.isAgg20
  z20 := Tryz.sizeOf20
  v20 := Tryz.zeroValue20
  t37 := Tryz.underlying22
  a37 := Tryz.isAgg22
  z37 := Tryz.sizeOf22
  v37 := Tryz.zeroValue22
  t46 := Tryz.underlying98
  a46 := Tryz.isAgg98
  z46 := Tryz.sizeOf98
  v46 := Tryz.zeroValue98
  t51 := Tryz.underlying29
  a51 := Tryz.isAgg29
  z51 := Tryz.sizeOf29
  v51 := Tryz.zeroValue29
  t53 := Tryz.underlying93
  a53 := Tryz.isAgg93
  z53 := Tryz.sizeOf93
  v53 := Tryz.zeroValue93
  t171 := Tryz.underlying155
  a171 := Tryz.isAgg155
  z171 := Tryz.sizeOf155
  v171 := Tryz.zeroValue155
  t173 := Tryz.underlying158
  a173 := Tryz.isAgg158
  z173 := Tryz.sizeOf158
  v173 := Tryz.zeroValue158
  t212 := Tryz.underlying173
  a212 := Tryz.isAgg173
  z212 := Tryz.sizeOf173
  v212 := Tryz.zeroValue173
  t213 := Tryz.underlying174
  a213 := Tryz.isAgg174
  z213 := Tryz.sizeOf174
  t232 := Tryz.underlying184
  a232 := Tryz.isAgg184
  z232 := Tryz.sizeOf184
  v232 := Tryz.zeroValue184
  t233 := Tryz.underlying185
  a233 := Tryz.isAgg185
  z233 := Tryz.sizeOf185
  v233 := Tryz.zeroValue185
  g17 := by kernel_rfl
  g18 := by kernel_rfl
  g19 := by kernel_rfl
  i0 := by kernel_rfl
  i2 := by kernel_rfl
  i3 := by kernel_rfl
  i4 := by kernel_rfl
  i5 := by kernel_rfl
  i9 := by kernel_rfl
  i20 := by kernel_rfl
  i37 := by kernel_rfl
  i46 := by kernel_rfl
  i51 := by kernel_rfl
  i53 := by kernel_rfl
  i171 := by kernel_rfl
  i173 := by kernel_rfl
  i212 := by kernel_rfl
  i232 := by kernel_rfl
  i233 := by kernel_rfl
  m17 := by kernel_rfl
  m18 := by kernel_rfl
  m19 := by kernel_rfl
/-! ### strconv.FormatInt -/
def strconv_FormatInt (i0 : Int) (base1 : Int) : Option (ByteArray) := fmtF i0 base1
theorem strconv_FormatInt.calls (i0 : Int) (base1 : Int) (w : World) (r : ByteArray) (g_pw : Glpw w) (h : strconv_FormatInt i0 base1 = some r) :
    Calls Tryz.prog 61 #[(.int .i64 i0), (.int .i64 base1)] w fun e w' => ∃ v, e = .returned v ∧ (v = (.string r) ∧ Mem w [] [] w') := by
  rw [strconv_FormatInt] at h
  exact fmt_calls lay_strconv_FormatInt i0 base1 w r g_pw.pw h
/-! ### impl.decimal -/
def impl_decimal (n0 : Int) : Option (ByteArray) := (strconv_FormatInt n0 10).bind fun t_1 => some t_1
theorem impl_decimal.calls (n0 : Int) (w : World) (r : ByteArray) (g_pw : Glpw w) (h : impl_decimal n0 = some r) :
    Calls Tryz.prog 36 #[(.int .i64 n0)] w fun e w' => ∃ v, e = .returned v ∧ (v = (.string r) ∧ Mem w [] [] w') := by
  rw [impl_decimal] at h
  refine enter (args := [(.int .i64 n0)]) Tryz.func36 rfl Tryz.ntmps36 (by kernel_rfl) (L := []) (W := []) (Mem.start w) ?_
  refine jc_seq (jc_region (qh [0] (qe (jx_then (jc_seq (jc_region (qh [0] ?_)))))))
  obtain ⟨t_1, ht_1, h⟩ := bd h
  refine tO (pc 0 (fun w hm => strconv_FormatInt.calls n0 10 w _ (g_pw.keep hm) ht_1) ?_)
  rintro w v w' hm ⟨rfl, hm'⟩
  refine ⟨_, hm.app hm', jkO ?_⟩
  clear hm hm'
  refine qh [0] (qe (jx_then (jc_ret ?_)))
  obtain rfl := Option.some.inj h
  exact qr [] (fun w hm => ⟨rfl, hm.pk []⟩)
def lay_strings_Join_ren : Go.Shelf.Ren := ⟨fun | 156 => 37 | 165 => 62 | 166 => 63 | 169 => 64 | 240 => 89 | 241 => 90 | 276 => 116 | 277 => 117 | n => n, fun | 31 => 65 | 9 => 9 | 3 => 3 | 4 => 4 | 0 => 0 | 20 => 20 | 72 => 113 | 76 => 115 | 70 => 111 | 37 => 22 | 75 => 106 | 127 => 135 | 164 => 160 | 5 => 5 | 80 => 117 | n => n, fun | n => n⟩
theorem lay_strings_Join : Go.Proofs.Lays.n156 Tryz.prog lay_strings_Join_ren where
  mixed := by kernel_rfl
  f156 := Tryz.func37.trans (congrArg some (by kernel_rfl))
  f165 := Tryz.func62.trans (congrArg some (by kernel_rfl))
  f166 := Tryz.func63.trans (congrArg some (by kernel_rfl))
  f169 := Tryz.func64.trans (congrArg some (by kernel_rfl))
  f240 := Tryz.func89.trans (congrArg some (by kernel_rfl))
  f241 := Tryz.func90.trans (congrArg some (by kernel_rfl))
  f276 := Tryz.func116.trans (congrArg some (by kernel_rfl))
  f277 := Tryz.func117.trans (congrArg some (by kernel_rfl))
  t0 := Tryz.underlying0
  a0 := Tryz.isAgg0
  z0 := Tryz.sizeOf0
  v0 := Tryz.zeroValue0
  t3 := Tryz.underlying3
  a3 := Tryz.isAgg3
  z3 := Tryz.sizeOf3
  v3 := Tryz.zeroValue3
  t4 := Tryz.underlying4
  a4 := Tryz.isAgg4
  z4 := Tryz.sizeOf4
  v4 := Tryz.zeroValue4
  t9 := Tryz.underlying9
  a9 := Tryz.isAgg9
  z9 := Tryz.sizeOf9
  v9 := Tryz.zeroValue9
  t20 := Tryz.underlying20
  a20 := Tryz.isAgg20
  z20 := Tryz.sizeOf20
  v20 := Tryz.zeroValue20
  t31 := Tryz.underlying65
  a31 := Tryz.isAgg65
  z31 := Tryz.sizeOf65
  v31 := Tryz.zeroValue65
  t37 := Tryz.underlying22
  a37 := Tryz.isAgg22
  z37 := Tryz.sizeOf22
  v37 := Tryz.zeroValue22
  t70 := Tryz.underlying111
  a70 := Tryz.isAgg111
  z70 := Tryz.sizeOf111
  v70 := Tryz.zeroValue111
  t72 := Tryz.underlying113
  a72 := Tryz.isAgg113
  z72 := Tryz.sizeOf113
  v72 := Tryz.zeroValue113
  t75 := Tryz.underlying106
  a75 := Tryz.isAgg106
  z75 := Tryz.sizeOf106
  v75 := Tryz.zeroValue106
  t76 := Tryz.underlying115
  a76 := Tryz.isAgg115
  z76 := Tryz.sizeOf115
  v76 := Tryz.zeroValue115
  t127 := Tryz.underlying135
  a127 := Tryz.isAgg135
  z127 := Tryz.sizeOf135
  v127 := Tryz.zeroValue135
  t164 := Tryz.underlying160
  a164 := Tryz.isAgg160
  z164 := Tryz.sizeOf160
  v164 := Tryz.zeroValue160
theorem lay_strings_Join_x : Go.Proofs.Builder.Extra Tryz.prog lay_strings_Join_ren where
  sizeBuilder := by kernel_rfl
  liesBuilder := by kernel_rfl
  t5 := Tryz.underlying5
  a5 := Tryz.isAgg5
  z5 := Tryz.sizeOf5
  v5 := Tryz.zeroValue5
  infoByte := by kernel_rfl
  cellsByte := by kernel_rfl
  sizeByte := by kernel_rfl
  neB5 := by decide
/-! ### strings.Join -/
def strings_Join (elems0 : List ByteArray) (sep1 : ByteArray) : Option (ByteArray) := joinF elems0 sep1
theorem strings_Join.calls (elems0 : List ByteArray) (sep1 : ByteArray) (w : World) (r : ByteArray) (g_lo : Gllo w) (elems0_o : Option Nat) {elems0_on : Nat} {elems0_c : Nat} {elems0_sp : List Value} (elems0_hn : elems0.length = elems0_on) (elems0_hs : elems0_o ≠ none → elems0_on ≤ elems0_c ∧ elems0_sp.length = (elems0_c - elems0_on) * 1) (elems0_ho : elems0_o = none → elems0 = [] ∧ elems0_c = 0) (hm0 : Mem w (bs [elems0_o]) [⟨elems0_o, 9, row encStr elems0 elems0_sp⟩] w) (h : strings_Join elems0 sep1 = some r) :
    Calls Tryz.prog 37 #[(.slice (elems0_o.map fun b => ⟨b, 0, none⟩) elems0_on elems0_c), (.string sep1)] w fun e w' => ∃ v, e = .returned v ∧ (v = (.string r) ∧ Mem w (bs [elems0_o]) [⟨elems0_o, 9, row encStr elems0 elems0_sp⟩] w') := by
  rw [strings_Join] at h
  exact join_calls lay_strings_Join lay_strings_Join_x g_lo.lo _ elems0 sep1 w r elems0_o elems0_on elems0_c elems0_sp elems0_hn elems0_hs elems0_ho hm0 h
/-! ### impl.ChangesText -/
def impl_ChangesText.k_4 (xs_3 : List ByteArray) : Option (ByteArray) := (strings_Join xs_3 (ByteArray.mk #[32])).bind fun t_5 => some t_5
def impl_ChangesText.k_12 (xs_6 : List ByteArray) (i_7 : Int) (x_10 : GChange) (s_11 : ByteArray) : Option (((List ByteArray) × Int) ⊕ ((List ByteArray))) := (impl_decimal (w64 x_10.fStep)).bind fun t_13 => (if s_11.size + t_13.size ≤ 9223372036854775807 then (if (s_11 ++ t_13).size + (ByteArray.mk #[47]).size ≤ 9223372036854775807 then (impl_decimal (w64 x_10.fTrack)).bind fun t_14 => (if ((s_11 ++ t_13) ++ (ByteArray.mk #[47])).size + t_14.size ≤ 9223372036854775807 then (if xs_6.length + ([(((s_11 ++ t_13) ++ (ByteArray.mk #[47])) ++ t_14)] : List ByteArray).length ≤ 4294967296 then some (.inl ((xs_6 ++ ([(((s_11 ++ t_13) ++ (ByteArray.mk #[47])) ++ t_14)] : List ByteArray)), (w64 (i_7 + 1)))) else none) else none) else none) else none)
def impl_ChangesText.l_8 (list0 : List GChange) : ((List ByteArray) × Int) → Option (((List ByteArray) × Int) ⊕ ((List ByteArray)))
  | (xs_6, i_7) => (if (decide (i_7 < (list0.length : Int))) = true then (ix list0 i_7).bind fun x_10 => (if x_10.fPut = true then impl_ChangesText.k_12 xs_6 i_7 x_10 (ByteArray.mk #[43]) else impl_ChangesText.k_12 xs_6 i_7 x_10 (ByteArray.mk #[45])) else some (.inr xs_6))
def impl_ChangesText.k_2 (list0 : List GChange) (q_1 : Bool) : Option (ByteArray) := (if q_1 = true then some (ByteArray.mk #[]) else (loop (impl_ChangesText.l_8 list0) (([] : List ByteArray), 0)).bind fun t_9 => impl_ChangesText.k_4 t_9)
def impl_ChangesText (list0 : List GChange) : Option (ByteArray) := (if (decide ((list0.length : Int) > 2400)) = true then impl_ChangesText.k_2 list0 true else (slices_ContainsFunc_Change_at_impl_ChangesText_1 list0).bind fun t_15 => impl_ChangesText.k_2 list0 t_15)
theorem impl_ChangesText.calls (list0 : List GChange) (w : World) (r : ByteArray) (g_lo : Gllo w) (g_pw : Glpw w) {A_a : Option Addr} {A_an : Nat} (A_c : Nat) (A_h : Rw w A_a 3 encGChange list0) (A_hn : list0.length = A_an) (h : impl_ChangesText list0 = some r) :
    Calls Tryz.prog 10 #[(.slice A_a A_an A_c)] w fun e w' => ∃ v, e = .returned v ∧ (v = (.string r) ∧ Mem w [] [] w') := by
  subst A_hn
  rw [impl_ChangesText] at h
  refine enter (args := [(.slice A_a list0.length A_c)]) Tryz.func10 rfl Tryz.ntmps10 (by kernel_rfl) (L := []) (W := []) (Mem.start w) ?_
  refine jc_seq (jc_region (qh [0] (qe (jx_then (jc_seq (jc_seq (jc_meet (fun (j : Bool) => match j with | q_1 => impl_ChangesText.k_2 list0 q_1 = some r) (fun (j : Bool) => match j with | q_1 => [(0, [], (.slice A_a list0.length A_c)), (2, [], (.string (ByteArray.mk #[]))), (13, [], (.bool q_1))]) (fun (j : Bool) => match j with | q_1 => []) ?_ ?_)))))))
  ·refine jc_region (qf [(0, 0), (0, 0), (0, 0), (0, 0), (0, 1)] (qp 10 h (fun h => ?_) (fun h => ?_)))
   ·exact qf [(0, 3), (0, 4)] (qe (qm true h []))
   ·obtain ⟨t_15, ht_376, h⟩ := bd h
    refine tO (pc 2 (fun w hm => slices_ContainsFunc_Change_at_impl_ChangesText_1.calls list0 w _ A_c (hm.xr A_h) rfl ht_376) ?_)
    rintro w v w' hm ⟨rfl, hm'⟩
    refine ⟨_, hm.app hm', jkO ?_⟩
    clear hm hm'
    exact qf [(0, 5)] (qe (qm t_15 h []))
  ·rintro q_1 h
   replace h : impl_ChangesText.k_2 list0 q_1 = some r := h
   rw [impl_ChangesText.k_2] at h
   refine jx_then (qi h (fun h => ?_) (fun h => ?_))
   ·refine jc_seq (jc_region (qh [0] (qe (jx_then (jc_ret (jx_thenr ?_))))))
    obtain rfl := Option.some.inj h
    exact qr [] (fun w hm => ⟨rfl, hm.pk []⟩)
   ·refine jc_skip (jx_then (jc_seq (jc_region (tO (qa 0 (fun b_9 => jkO (qh [0] (qe (jx_then (jc_seq (jc_seq (jc_region (qh [0,0,0] (qe (jx_then (jc_meet (fun (j : (List ByteArray) × (Option Nat) × Nat × (List Value) × Nat) => match j with | ⟨xs_3, o_280, cap_281, sp_282, n_283⟩ => impl_ChangesText.k_4 xs_3 = some r ∧ (xs_3.length = n_283) ∧ ((o_280 ≠ none → n_283 ≤ cap_281 ∧ sp_282.length = (cap_281 - n_283) * 1)) ∧ ((o_280 = none → xs_3 = [] ∧ cap_281 = 0))) (fun (j : (List ByteArray) × (Option Nat) × Nat × (List Value) × Nat) => match j with | ⟨xs_3, o_280, cap_281, sp_282, n_283⟩ => [(2, [], (.string (ByteArray.mk #[]))), (3, [], (.slice (o_280.map fun b => ⟨b, 0, none⟩) n_283 cap_281))]) (fun (j : (List ByteArray) × (Option Nat) × Nat × (List Value) × Nat) => match j with | ⟨xs_3, o_280, cap_281, sp_282, n_283⟩ => [⟨o_280, 9, row encStr xs_3 sp_282⟩]) ?_ ?_))))))))))))))))
    ·refine jc_block ?_
     obtain ⟨t_9, ht_374, hr_347⟩ := bd h
     refine jc_loop (fun (s : (List ByteArray) × Int) (x : (Option Nat) × Nat × (List Value) × Nat) => match s, x with | ⟨xs_6, i_7⟩, ⟨o_341, cap_342, sp_343, n_344⟩ => (xs_6.length = n_344) ∧ ((o_341 ≠ none → n_344 ≤ cap_342 ∧ sp_343.length = (cap_342 - n_344) * 1)) ∧ ((o_341 = none → xs_6 = [] ∧ cap_342 = 0))) (fun (s : (List ByteArray) × Int) (x : (Option Nat) × Nat × (List Value) × Nat) => match s, x with | ⟨xs_6, i_7⟩, ⟨o_341, cap_342, sp_343, n_344⟩ => [(2, [], (.string (ByteArray.mk #[]))), (3, [], (.slice (o_341.map fun b => ⟨b, 0, none⟩) n_344 cap_342)), (15, [], (.slice A_a list0.length A_c)), (16, [], (.int .i64 (list0.length : Int))), (17, [], (.int .i64 i_7))]) (fun (s : (List ByteArray) × Int) (x : (Option Nat) × Nat × (List Value) × Nat) => match s, x with | ⟨xs_6, i_7⟩, ⟨o_341, cap_342, sp_343, n_344⟩ => [⟨o_341, 9, row encStr xs_6 sp_343⟩]) ht_374 ⟨(some b_9), 0, [], 0⟩ ⟨rfl, (fun _ => ⟨Nat.le_refl _, by simp⟩), (fun e => nomatch e)⟩ (by kernel_rfl) [0] (by kernel_rfl) (by kernel_rfl) ?_
     rintro ⟨xs_6, i_7⟩ ⟨o_341, cap_342, sp_343, n_344⟩ y_348 ⟨rfl, hs_345, ho_346⟩ h
     rw [impl_ChangesText.l_8] at h
     refine jc_seq (jc_region (qh [0] (qe (jx_then (jc_seq (qi h (fun h => ?_) (fun h => ?_)))))))
     ·refine jc_skip (jx_then (jc_seq (jc_block (jc_seq (jc_region ?_)))))
      obtain ⟨x_10, hx_351, h⟩ := bd h
      refine tO (qx 0 A_a 3 hx_351 rfl (A_h.sp hx_351) (jkO (tO (ql 0 true (fun w hm => ((hm.xr A_h).at hx_351)) (jkO (tO (qa 0 (fun b_352 => jkO (tO (qs 0 [1] (jkO (qe (jx_then (jc_seq (jc_region (qh [0] (qe (jx_then (jc_seq (jc_meet (fun (j : ByteArray) => match j with | s_11 => impl_ChangesText.k_12 xs_6 i_7 x_10 s_11 = some y_348) (fun (j : ByteArray) => match j with | s_11 => [(2, [], (.string (ByteArray.mk #[]))), (3, [], (.slice (o_341.map fun b => ⟨b, 0, none⟩) xs_6.length cap_342)), (5, [], (.pointer (some ⟨b_352, 0, none⟩))), (6, [], (.string s_11)), (15, [], (.slice A_a list0.length A_c)), (16, [], (.int .i64 (list0.length : Int))), (17, [], (.int .i64 i_7))]) (fun (j : ByteArray) => match j with | s_11 => [⟨o_341, 9, row encStr xs_6 sp_343⟩, ⟨some b_352, 61, [(.int .i16 x_10.fStep), (.int .i8 x_10.fTrack), (.bool x_10.fPut)]⟩]) ?_ ?_))))))))))))))))))))
      ·refine jc_seq (jc_region (qh [0,1] (qe (jx_then (qi h (fun h => ?_) (fun h => ?_))))))
       ·exact jc_region (qh [0] (qe (qm (ByteArray.mk #[43]) h [0, 1])))
       ·exact jc_skip (qm (ByteArray.mk #[45]) h [0, 1])
      ·rintro s_11 h
       replace h : impl_ChangesText.k_12 xs_6 i_7 x_10 s_11 = some y_348 := h
       rw [impl_ChangesText.k_12] at h
       refine jx_then (qg [⟨some b_352, 61, [(.int .i16 x_10.fStep), (.int .i8 x_10.fTrack), (.bool x_10.fPut)]⟩] 16 (qd [⟨0, 0, 0⟩,⟨1, 0, 0⟩,⟨2, 0, 0⟩,⟨3, 0, 0⟩,⟨4, 0, 0⟩,⟨8, 0, 0⟩,⟨9, 0, 0⟩,⟨10, 0, 0⟩] 8 [1] ?_))
       obtain ⟨t_13, ht_360, h⟩ := bd h
       refine tD 5 (pc 0 (fun w hm => impl_decimal.calls (w64 x_10.fStep) w _ (g_pw.keep hm) ht_360) ?_)
       rintro w v w' hm ⟨rfl, hm'⟩
       refine ⟨_, hm.app hm', kD [1] ?_⟩
       clear hm hm'
       obtain ⟨hg_361, h⟩ := gd h
       refine qv 6 0 [1] (fun w hm => cat_run (a := s_11) (b := t_13) (by kernel_rfl) hg_361) ?_
       obtain ⟨hg_362, h⟩ := gd h
       refine qv 7 0 [1] (fun w hm => cat_run (a := (s_11 ++ t_13)) (b := (ByteArray.mk #[47])) (by kernel_rfl) hg_362) ?_
       obtain ⟨t_14, ht_363, h⟩ := bd h
       refine tD 11 (pc 0 (fun w hm => impl_decimal.calls (w64 x_10.fTrack) w _ (g_pw.keep hm) ht_363) ?_)
       rintro w v w' hm ⟨rfl, hm'⟩
       refine ⟨_, hm.app hm', kD [1] ?_⟩
       clear hm hm'
       obtain ⟨hg_364, h⟩ := gd h
       refine qv 12 0 [1] (fun w hm => cat_run (a := ((s_11 ++ t_13) ++ (ByteArray.mk #[47]))) (b := t_14) (by kernel_rfl) hg_364) (tD 13 (qa 0 (fun b_365 => kD [1] ?_)))
       obtain ⟨hg_366, h⟩ := gd h
       exact tD 14 (p_apn 0 0 o_341 9 xs_6.length 1 cap_342 1 16 (some ⟨b_365, 0, none⟩) encStr xs_6 ([(((s_11 ++ t_13) ++ (ByteArray.mk #[47])) ++ t_14)] : List ByteArray) sp_343 (.string ByteArray.empty) rfl rfl (by kernel_rfl) (by kernel_rfl) (by kernel_rfl) encStr_len encStr_cell hs_345 ho_346 (fun w hm => (hm.ow 2 (some b_365) 9 ([(((s_11 ++ t_13) ++ (ByteArray.mk #[47])) ++ t_14)] : List ByteArray) [] (fun e => nomatch e) encStr_len)) hg_366 (by kernel_rfl) (by kernel_rfl) (fun o_367 cap_368 sp_369 hs_370 ho_371 => kD [1] (qd [⟨15, 0, 0⟩] 0 [1] (qz (jx_inn (jx_then (jc_region (qh [0,0] (qe (qb ((xs_6 ++ ([(((s_11 ++ t_13) ++ (ByteArray.mk #[47])) ++ t_14)] : List ByteArray)), (w64 (i_7 + 1))) ⟨o_367, cap_368, sp_369, (xs_6 ++ ([(((s_11 ++ t_13) ++ (ByteArray.mk #[47])) ++ t_14)] : List ByteArray)).length⟩ h ⟨rfl, hs_370, ho_371⟩ [0]))))))))))
     ·refine jc_exit (jx_thenx (jx_leave xs_6 (Option.some.inj h).symm (fun e_373 => ?_)))
      subst e_373
      exact jx_ine (qm ⟨xs_6, o_341, cap_342, sp_343, xs_6.length⟩ ⟨hr_347, rfl, hs_345, ho_346⟩ [0])
    ·rintro ⟨xs_3, o_280, cap_281, sp_282, n_283⟩ ⟨h, rfl, hs_284, ho_285⟩
     replace h : impl_ChangesText.k_4 xs_3 = some r := h
     rw [impl_ChangesText.k_4] at h
     refine jx_then (jc_seq (jc_region (qh [0] ?_)))
     obtain ⟨t_5, ht_286, h⟩ := bd h
     refine tO (pc 0 (fun w hm => strings_Join.calls xs_3 (ByteArray.mk #[32]) w _ (g_lo.keep hm) o_280 rfl hs_284 ho_285 (hm.pass (N := [⟨o_280, 9, row encStr xs_3 sp_282⟩]) [0] (by kernel_rfl) (by kernel_rfl)) ht_286) ?_)
     rintro w v w' hm ⟨rfl, hm'⟩
     refine ⟨_, hm.appW (ps := [(0, ⟨o_280, 9, row encStr xs_3 sp_282⟩)]) (N := []) hm' (by kernel_rfl) (by kernel_rfl), jkO ?_⟩
     clear hm hm'
     refine qh [0] (qe (jx_then (jc_ret ?_)))
     obtain rfl := Option.some.inj h
     exact qr [] (fun w hm => ⟨rfl, hm.pk []⟩)
def lay_strings_Split_ren : Go.Shelf.Ren := ⟨fun | 146 => 29 | 221 => 56 | 268 => 81 | 138 => 82 | 143 => 83 | 195 => 100 | 197 => 101 | 218 => 102 | 219 => 85 | 260 => 119 | 217 => 103 | 225 => 104 | 224 => 105 | 267 => 106 | 266 => 120 | 314 => 121 | n => n, fun | 9 => 9 | 31 => 65 | 3 => 3 | 4 => 4 | 0 => 0 | 105 => 144 | 21 => 21 | 5 => 5 | 46 => 98 | 119 => 177 | 139 => 180 | 138 => 179 | 146 => 164 | 51 => 29 | n => n, fun | 1 => 0 | 3 => 4 | 4 => 5 | n => n⟩
theorem lay_strings_Split : Go.Proofs.Lays.n146 Tryz.prog lay_strings_Split_ren where
  mixed := by kernel_rfl
  f138 := Tryz.func82.trans (congrArg some (by kernel_rfl))
  f143 := Tryz.func83.trans (congrArg some (by kernel_rfl))
  f146 := Tryz.func29.trans (congrArg some (by kernel_rfl))
  f195 := Tryz.func100.trans (congrArg some (by kernel_rfl))
  f197 := Tryz.func101.trans (congrArg some (by kernel_rfl))
  f217 := Tryz.func103.trans (congrArg some (by kernel_rfl))
  f218 := Tryz.func102.trans (congrArg some (by kernel_rfl))
  f219 := Tryz.func85.trans (congrArg some (by kernel_rfl))
  f221 := Tryz.func56.trans (congrArg some (by kernel_rfl))
  f224 := Tryz.func105.trans (congrArg some (by kernel_rfl))
  f225 := Tryz.func104.trans (congrArg some (by kernel_rfl))
  f260 := Tryz.func119.trans (congrArg some (by kernel_rfl))
  f266 := Tryz.func120.trans (congrArg some (by kernel_rfl))
  f267 := Tryz.func106.trans (congrArg some (by kernel_rfl))
  f268 := Tryz.func81.trans (congrArg some (by kernel_rfl))
  f314 := Tryz.func121.trans (congrArg some (by kernel_rfl))
  t0 := Tryz.underlying0
  a0 := Tryz.isAgg0
  z0 := Tryz.sizeOf0
  v0 := Tryz.zeroValue0
  t3 := Tryz.underlying3
  a3 := Tryz.isAgg3
  z3 := Tryz.sizeOf3
  v3 := Tryz.zeroValue3
  t4 := Tryz.underlying4
  a4 := Tryz.isAgg4
  z4 := Tryz.sizeOf4
  v4 := Tryz.zeroValue4
  t5 := Tryz.underlying5
  a5 := Tryz.isAgg5
  z5 := Tryz.sizeOf5
  v5 := Tryz.zeroValue5
  t9 := Tryz.underlying9
  a9 := Tryz.isAgg9
  z9 := Tryz.sizeOf9
  v9 := Tryz.zeroValue9
  t21 := Tryz.underlying21
  a21 := Tryz.isAgg21
  z21 := Tryz.sizeOf21
  v21 := Tryz.zeroValue21
  t31 := Tryz.underlying65
  a31 := Tryz.isAgg65
  z31 := Tryz.sizeOf65
  v31 := Tryz.zeroValue65
  t46 := Tryz.underlying98
  a46 := Tryz.isAgg98
  z46 := Tryz.sizeOf98
  v46 := Tryz.zeroValue98
  t51 := Tryz.underlying29
  a51 := Tryz.isAgg29
  z51 := Tryz.sizeOf29
  v51 := Tryz.zeroValue29
  t105 := Tryz.underlying144
  a105 := Tryz.isAgg144
  z105 := Tryz.sizeOf144
  v105 := Tryz.zeroValue144
  t119 := Tryz.underlying177
  a119 := Tryz.isAgg177
  z119 := Tryz.sizeOf177
  t138 := Tryz.underlying179
  a138 := Tryz.isAgg179
  z138 := Tryz.sizeOf179
  v138 := Tryz.zeroValue179
  t139 := Tryz.underlying180
  a139 := Tryz.isAgg180
  z139 := Tryz.sizeOf180
  v139 := Tryz.zeroValue180
  t146 := Tryz.underlying164
  a146 := Tryz.isAgg164
  z146 := Tryz.sizeOf164
  v146 := Tryz.zeroValue164
  g1 := by kernel_rfl
  g3 := by kernel_rfl
  g4 := by kernel_rfl
/-! ### strings.Split -/
def strings_Split (s0 : ByteArray) (sep1 : ByteArray) : Option ((List ByteArray)) := splitF s0 sep1
theorem strings_Split.calls (s0 : ByteArray) (sep1 : ByteArray) (w : World) (r : (List ByteArray)) (g_ml : Glml w) (h : strings_Split s0 sep1 = some r) :
    Calls Tryz.prog 29 #[(.string s0), (.string sep1)] w fun e w' => ∃ v, e = .returned v ∧ (∃ (o0 : Option Nat) (c0 : Nat) (s0 : List Value) (n0 : Nat), r.length = n0 ∧ (o0 ≠ none → n0 ≤ c0 ∧ s0.length = (c0 - n0) * 1) ∧ (o0 = none → r = [] ∧ c0 = 0) ∧ v = .slice (o0.map fun b => ⟨b, 0, none⟩) n0 c0 ∧ Mem w [] [⟨o0, 9, row encStr r s0⟩] w') := by
  rw [strings_Split] at h
  exact split_calls lay_strings_Split (by kernel_rfl) s0 sep1 w r g_ml.ml h
/-! ### internal/stringslite.HasPrefix -/
def stringslite_HasPrefix (s0 : ByteArray) (prefix1 : ByteArray) : Option (Bool) := (if (decide ((s0.size : Int) ≥ (prefix1.size : Int))) = true then (if 0 ≤ (0 : Int) ∧ (0 : Int) ≤ (prefix1.size : Int) ∧ (prefix1.size : Int) ≤ (s0.size : Int) then some ((s0.extract (0 : Int).toNat (prefix1.size : Int).toNat).toList == prefix1.toList) else none) else some false)
theorem stringslite_HasPrefix.calls (s0 : ByteArray) (prefix1 : ByteArray) (w : World) (r : Bool) (h : stringslite_HasPrefix s0 prefix1 = some r) :
    Calls Tryz.prog 84 #[(.string s0), (.string prefix1)] w fun e w' => ∃ v, e = .returned v ∧ (v = (.bool r) ∧ Mem w [] [] w') := by
  rw [stringslite_HasPrefix] at h
  refine enter (args := [(.string s0), (.string prefix1)]) Tryz.func84 rfl Tryz.ntmps84 (by kernel_rfl) (L := []) (W := []) (Mem.start w) ?_
  refine jc_seq (jc_region (qh [0] (qe (jx_then (jc_seq (jc_region (qf [(0, 0), (0, 0), (0, 0), (0, 0), (0, 0), (0, 0), (0, 1), (0, 1), (0, 1)] (qp 10 h (fun h => ?_) (fun h => ?_)))))))))
  ·obtain ⟨hg_2, h⟩ := gd h
   refine tO (p_v 2 (by kernel_rfl) _ (fun w hm => ssl_run (s := s0) (lo := none) (hi := some (prefix1.size : Int)) (l := (0 : Int)) (h := (prefix1.size : Int)) (by kernel_rfl) rfl rfl hg_2) (jkO (qf [(0, 2), (0, 2), (0, 4), (0, 0)] (qe (jx_then (jc_ret ?_))))))
   obtain rfl := Option.some.inj h
   exact qr [] (fun w hm => ⟨rfl, hm.pk []⟩)
  ·refine qf [(0, 3), (0, 3), (0, 3), (0, 5), (0, 0)] (qe (jx_then (jc_ret ?_)))
   obtain rfl := Option.some.inj h
   exact qr [] (fun w hm => ⟨rfl, hm.pk []⟩)
/-! ### internal/stringslite.CutPrefix -/
def stringslite_CutPrefix (s0 : ByteArray) (prefix1 : ByteArray) : Option (ByteArray × Bool) := (stringslite_HasPrefix s0 prefix1).bind fun t_1 => (if (!t_1) = true then some (s0, false) else (if 0 ≤ (prefix1.size : Int) ∧ (prefix1.size : Int) ≤ (s0.size : Int) ∧ (s0.size : Int) ≤ (s0.size : Int) then some ((s0.extract (prefix1.size : Int).toNat (s0.size : Int).toNat), true) else none))
theorem stringslite_CutPrefix.calls (s0 : ByteArray) (prefix1 : ByteArray) (w : World) (r : ByteArray × Bool) (h : stringslite_CutPrefix s0 prefix1 = some r) :
    Calls Tryz.prog 57 #[(.string s0), (.string prefix1)] w fun e w' => ∃ v, e = .returned v ∧ (v = .tuple #[(.string r.1), (.bool r.2)] ∧ Mem w [] [] w') := by
  rw [stringslite_CutPrefix] at h
  refine enter (args := [(.string s0), (.string prefix1)]) Tryz.func57 rfl Tryz.ntmps57 (by kernel_rfl) (L := []) (W := []) (Mem.start w) ?_
  refine jc_seq (jc_region (qh [0,0] (qe (jx_then (jc_seq (jc_seq (jc_region (qh [0,0] ?_))))))))
  obtain ⟨t_1, ht_3, h⟩ := bd h
  refine tO (pc 0 (fun w hm => stringslite_HasPrefix.calls s0 prefix1 w _ ht_3) ?_)
  rintro w v w' hm ⟨rfl, hm'⟩
  refine ⟨_, hm.app hm', jkO ?_⟩
  clear hm hm'
  refine qh [0] (qe (jx_then (qi h (fun h => ?_) (fun h => ?_))))
  ·refine jc_seq (jc_region (qh [0,0,0] (qe (jx_then (jc_ret (jx_thenr ?_))))))
   obtain rfl := Option.some.inj h
   exact qr [] (fun w hm => ⟨rfl, hm.pk []⟩)
  ·refine jc_skip (jx_then (jc_seq (jc_region (qh [0,0,0] ?_))))
   obtain ⟨hg_5, h⟩ := gd h
   refine tO (p_v 0 (by kernel_rfl) _ (fun w hm => ssl_run (s := s0) (lo := some (prefix1.size : Int)) (hi := none) (l := (prefix1.size : Int)) (h := (s0.size : Int)) (by kernel_rfl) rfl rfl hg_5) (jkO (qh [0,0] (qe (jx_then (jc_ret ?_))))))
   obtain rfl := Option.some.inj h
   exact qr [] (fun w hm => ⟨rfl, hm.pk []⟩)
/-! ### strings.CutPrefix -/
def strings_CutPrefix (s0 : ByteArray) (prefix1 : ByteArray) : Option (ByteArray × Bool) := (stringslite_CutPrefix s0 prefix1).bind fun t_1 => some (t_1.1, t_1.2)
theorem strings_CutPrefix.calls (s0 : ByteArray) (prefix1 : ByteArray) (w : World) (r : ByteArray × Bool) (h : strings_CutPrefix s0 prefix1 = some r) :
    Calls Tryz.prog 30 #[(.string s0), (.string prefix1)] w fun e w' => ∃ v, e = .returned v ∧ (v = .tuple #[(.string r.1), (.bool r.2)] ∧ Mem w [] [] w') := by
  rw [strings_CutPrefix] at h
  refine enter (args := [(.string s0), (.string prefix1)]) Tryz.func30 rfl Tryz.ntmps30 (by kernel_rfl) (L := []) (W := []) (Mem.start w) ?_
  refine jc_seq (jc_region (qh [0,0] (qe (jx_then (jc_seq (jc_region (qh [0,0] ?_)))))))
  obtain ⟨t_1, ht_1, h⟩ := bd h
  refine tO (pc 0 (fun w hm => stringslite_CutPrefix.calls s0 prefix1 w _ ht_1) ?_)
  rintro w v w' hm ⟨rfl, hm'⟩
  refine ⟨_, hm.app hm', jkO ?_⟩
  clear hm hm'
  refine qh [0,0,0,0] (qe (jx_then (jc_ret ?_)))
  obtain rfl := Option.some.inj h
  exact qr [] (fun w hm => ⟨rfl, hm.pk []⟩)
def lay_strings_Cut_ren : Go.Shelf.Ren := ⟨fun | 145 => 31 | 220 => 58 | 219 => 85 | 217 => 103 | 225 => 104 | 224 => 105 | 267 => 106 | 266 => 120 | 314 => 121 | n => n, fun | 9 => 9 | 4 => 4 | 59 => 69 | 3 => 3 | 5 => 5 | 46 => 98 | 146 => 164 | 51 => 29 | n => n, fun | 1 => 0 | n => n⟩
theorem lay_strings_Cut : Go.Proofs.Lays.n145 Tryz.prog lay_strings_Cut_ren where
  mixed := by kernel_rfl
  f145 := Tryz.func31.trans (congrArg some (by kernel_rfl))
  f217 := Tryz.func103.trans (congrArg some (by kernel_rfl))
  f219 := Tryz.func85.trans (congrArg some (by kernel_rfl))
  f220 := Tryz.func58.trans (congrArg some (by kernel_rfl))
  f224 := Tryz.func105.trans (congrArg some (by kernel_rfl))
  f225 := Tryz.func104.trans (congrArg some (by kernel_rfl))
  f266 := Tryz.func120.trans (congrArg some (by kernel_rfl))
  f267 := Tryz.func106.trans (congrArg some (by kernel_rfl))
  f314 := Tryz.func121.trans (congrArg some (by kernel_rfl))
  t3 := Tryz.underlying3
  a3 := Tryz.isAgg3
  z3 := Tryz.sizeOf3
  v3 := Tryz.zeroValue3
  t4 := Tryz.underlying4
  a4 := Tryz.isAgg4
  z4 := Tryz.sizeOf4
  v4 := Tryz.zeroValue4
  t5 := Tryz.underlying5
  a5 := Tryz.isAgg5
  z5 := Tryz.sizeOf5
  v5 := Tryz.zeroValue5
  t9 := Tryz.underlying9
  a9 := Tryz.isAgg9
  z9 := Tryz.sizeOf9
  v9 := Tryz.zeroValue9
  t46 := Tryz.underlying98
  a46 := Tryz.isAgg98
  z46 := Tryz.sizeOf98
  v46 := Tryz.zeroValue98
  t51 := Tryz.underlying29
  a51 := Tryz.isAgg29
  z51 := Tryz.sizeOf29
  v51 := Tryz.zeroValue29
  t59 := Tryz.underlying69
  a59 := Tryz.isAgg69
  z59 := Tryz.sizeOf69
  v59 := Tryz.zeroValue69
  t146 := Tryz.underlying164
  a146 := Tryz.isAgg164
  z146 := Tryz.sizeOf164
  v146 := Tryz.zeroValue164
  g1 := by kernel_rfl
/-! ### strings.Cut -/
def strings_Cut (s0 : ByteArray) (sep1 : ByteArray) : Option (ByteArray × ByteArray × Bool) := cutF s0 sep1
theorem strings_Cut.calls (s0 : ByteArray) (sep1 : ByteArray) (w : World) (r : ByteArray × ByteArray × Bool) (g_ml : Glml w) (h : strings_Cut s0 sep1 = some r) :
    Calls Tryz.prog 31 #[(.string s0), (.string sep1)] w fun e w' => ∃ v, e = .returned v ∧ (v = .tuple #[(.string r.1), (.string r.2.1), (.bool r.2.2)] ∧ Mem w [] [] w') := by
  rw [strings_Cut] at h
  exact cut_calls lay_strings_Cut s0 sep1 w r g_ml.ml h
def lay_strconv_ParseInt_ren : Go.Shelf.Ren := ⟨fun | 174 => 59 | 247 => 86 | 245 => 87 | 287 => 107 | 279 => 108 | 280 => 109 | 281 => 110 | 282 => 111 | 321 => 122 | 322 => 123 | 316 => 124 | 171 => 126 | 205 => 125 | 243 => 132 | 246 => 88 | 283 => 112 | 284 => 113 | 285 => 114 | 286 => 115 | 129 => 128 | 317 => 127 | 318 => 129 | 319 => 130 | 320 => 131 | 337 => 133 | 338 => 134 | n => n, fun | 9 => 9 | 3 => 3 | 2 => 2 | 75 => 106 | 85 => 107 | 4 => 4 | 167 => 148 | 5 => 5 | 53 => 93 | 175 => 149 | 46 => 98 | 168 => 151 | 37 => 22 | 0 => 0 | 210 => 170 | 21 => 21 | 127 => 135 | 145 => 183 | 143 => 181 | 171 => 155 | 173 => 158 | 212 => 173 | 51 => 29 | 20 => 20 | 213 => 174 | 232 => 184 | 233 => 185 | 80 => 117 | n => n, fun | 15 => 1 | 16 => 2 | 17 => 3 | 18 => 6 | 19 => 7 | n => n⟩
theorem lay_strconv_ParseInt : Go.Proofs.LaysC.n174 Tryz.prog lay_strconv_ParseInt_ren where
  mixed := by kernel_rfl
  f129 := Tryz.func128.trans (congrArg some (by kernel_rfl))
  f171 := Tryz.func126.trans (congrArg some (by kernel_rfl))
  f174 := Tryz.func59.trans (congrArg some (by kernel_rfl))
  f205 := Tryz.func125.trans (congrArg some (by kernel_rfl))
  f243 := Tryz.func132.trans (congrArg some (by kernel_rfl))
  f245 := Tryz.func87.trans (congrArg some (by kernel_rfl))
  f246 := Tryz.func88.trans (congrArg some (by kernel_rfl))
  f247 := Tryz.func86.trans (congrArg some (by kernel_rfl))
  f279 := Tryz.func108.trans (congrArg some (by kernel_rfl))
  f280 := Tryz.func109.trans (congrArg some (by kernel_rfl))
  f281 := Tryz.func110.trans (congrArg some (by kernel_rfl))
  f282 := Tryz.func111.trans (congrArg some (by kernel_rfl))
  f283 := Tryz.func112.trans (congrArg some (by kernel_rfl))
  f284 := Tryz.func113.trans (congrArg some (by kernel_rfl))
  f285 := Tryz.func114.trans (congrArg some (by kernel_rfl))
  f286 := Tryz.func115.trans (congrArg some (by kernel_rfl))
  f287 := Tryz.func107.trans (congrArg some (by kernel_rfl))
  f316 := Tryz.func124.trans (congrArg some (by kernel_rfl))
  f317 := Tryz.func127.trans (congrArg some (by kernel_rfl))
  f318 := Tryz.func129.trans (congrArg some (by kernel_rfl))
  f319 := Tryz.func130.trans (congrArg some (by kernel_rfl))
  f320 := Tryz.func131.trans (congrArg some (by kernel_rfl))
  f321 := Tryz.func122.trans (congrArg some (by kernel_rfl))
  f322 := Tryz.func123.trans (congrArg some (by kernel_rfl))
  f337 := Tryz.func133.trans (congrArg some (by kernel_rfl))
  f338 := Tryz.func134.trans (congrArg some (by kernel_rfl))
  t0 := Tryz.underlying0
  a0 := Tryz.isAgg0
  z0 := Tryz.sizeOf0
  v0 := Tryz.zeroValue0
  t2 := Tryz.underlying2
  a2 := Tryz.isAgg2
  z2 := Tryz.sizeOf2
  v2 := Tryz.zeroValue2
  t3 := Tryz.underlying3
  a3 := Tryz.isAgg3
  z3 := Tryz.sizeOf3
  v3 := Tryz.zeroValue3
  t4 := Tryz.underlying4
  a4 := Tryz.isAgg4
  z4 := Tryz.sizeOf4
  v4 := Tryz.zeroValue4
  t5 := Tryz.underlying5
  a5 := Tryz.isAgg5
  z5 := Tryz.sizeOf5
  v5 := Tryz.zeroValue5
  t9 := Tryz.underlying9
  a9 := Tryz.isAgg9
  z9 := Tryz.sizeOf9
  v9 := Tryz.zeroValue9
  t20 := Tryz.underlying20
  a20 := Tryz.isAgg20
  z20 := Tryz.sizeOf20
  v20 := Tryz.zeroValue20
  t21 := Tryz.underlying21
  a21 := Tryz.isAgg21
  z21 := Tryz.sizeOf21
  v21 := Tryz.zeroValue21
  t37 := Tryz.underlying22
  a37 := Tryz.isAgg22
  z37 := Tryz.sizeOf22
  v37 := Tryz.zeroValue22
  t46 := Tryz.underlying98
  a46 := Tryz.isAgg98
  z46 := Tryz.sizeOf98
  v46 := Tryz.zeroValue98
  t51 := Tryz.underlying29
  a51 := Tryz.isAgg29
  z51 := Tryz.sizeOf29
  v51 := Tryz.zeroValue29
  t53 := Tryz.underlying93
  a53 := Tryz.isAgg93
  z53 := Tryz.sizeOf93
  v53 := Tryz.zeroValue93
  t75 := Tryz.underlying106
  a75 := Tryz.isAgg106
  z75 := Tryz.sizeOf106
  v75 := Tryz.zeroValue106
  t85 := Tryz.underlying107
  a85 := Tryz.isAgg107
  z85 := Tryz.sizeOf107
  v85 := Tryz.zeroValue107
  t127 := Tryz.underlying135
  a127 := Tryz.isAgg135
  z127 := Tryz.sizeOf135
  v127 := Tryz.zeroValue135
  t143 := Tryz.underlying181
  a143 := Tryz.isAgg181
  z143 := Tryz.sizeOf181
  v143 := Tryz.zeroValue181
  t145 := Tryz.underlying183
  a145 := Tryz.isAgg183
  z145 := Tryz.sizeOf183
  v145 := Tryz.zeroValue183
  t167 := Tryz.underlying148
  a167 := Tryz.isAgg148
  z167 := Tryz.sizeOf148
  v167 := Tryz.zeroValue148
  t168 := Tryz.underlying151
  a168 := Tryz.isAgg151
  z168 := Tryz.sizeOf151
  v168 := Tryz.zeroValue151
  t171 := Tryz.underlying155
  a171 := Tryz.isAgg155
  z171 := Tryz.sizeOf155
  v171 := Tryz.zeroValue155
  t173 := Tryz.underlying158
  a173 := Tryz.isAgg158
  z173 := Tryz.sizeOf158
  v173 := Tryz.zeroValue158
  t175 := Tryz.underlying149
  a175 := Tryz.isAgg149
  z175 := Tryz.sizeOf149
  v175 := Tryz.zeroValue149
  t210 := Tryz.underlying170
  a210 := Tryz.isAgg170
  z210 := Tryz.sizeOf170
  v210 := Tryz.zeroValue170
  t212 := Tryz.underlying173
  a212 := Tryz.isAgg173
  z212 := Tryz.sizeOf173
  v212 := Tryz.zeroValue173
  t213 := Tryz.underlying174
  a213 := Tryz.isAgg174
  z213 := Tryz.sizeOf174
  t232 := Tryz.underlying184
  a232 := Tryz.isAgg184
  z232 := Tryz.sizeOf184
  v232 := Tryz.zeroValue184
  t233 := Tryz.underlying185
  a233 := Tryz.isAgg185
  z233 := Tryz.sizeOf185
  v233 := Tryz.zeroValue185
  g15 := by kernel_rfl
  g16 := by kernel_rfl
  g17 := by kernel_rfl
  g18 := by kernel_rfl
  g19 := by kernel_rfl
  t80 := Tryz.underlying117
  a80 := Tryz.isAgg117
  z80 := Tryz.sizeOf117
  v80 := Tryz.zeroValue117
  i0 := by kernel_rfl
  i2 := by kernel_rfl
  i3 := by kernel_rfl
  i4 := by kernel_rfl
  i5 := by kernel_rfl
  i9 := by kernel_rfl
  i20 := by kernel_rfl
  i21 := by kernel_rfl
  i37 := by kernel_rfl
  i46 := by kernel_rfl
  i51 := by kernel_rfl
  i53 := by kernel_rfl
  i75 := by kernel_rfl
  i80 := by kernel_rfl
  i85 := by kernel_rfl
  i127 := by kernel_rfl
  i143 := by kernel_rfl
  i145 := by kernel_rfl
  i167 := by kernel_rfl
  i168 := by kernel_rfl
  i171 := by kernel_rfl
  i173 := by kernel_rfl
  i175 := by kernel_rfl
  i210 := by kernel_rfl
  i212 := by kernel_rfl
  i232 := by kernel_rfl
  i233 := by kernel_rfl
  m15 := by kernel_rfl
  m16 := by kernel_rfl
  m17 := by kernel_rfl
  m18 := by kernel_rfl
  m19 := by kernel_rfl
  c0 := by kernel_rfl
  c2 := by kernel_rfl
  c3 := by kernel_rfl
  c4 := by kernel_rfl
  c5 := by kernel_rfl
  c9 := by kernel_rfl
  c20 := by kernel_rfl
  c21 := by kernel_rfl
  c37 := by kernel_rfl
  c46 := by kernel_rfl
  c51 := by kernel_rfl
  c53 := by kernel_rfl
  c75 := by kernel_rfl
  c80 := by kernel_rfl
  c85 := by kernel_rfl
  c127 := by kernel_rfl
  c143 := by kernel_rfl
  c145 := by kernel_rfl
  c167 := by kernel_rfl
  c168 := by kernel_rfl
  c171 := by kernel_rfl
  c173 := by kernel_rfl
  c175 := by kernel_rfl
  c210 := by kernel_rfl
  c212 := by kernel_rfl
  c213 := by kernel_rfl
  c232 := by kernel_rfl
  c233 := by kernel_rfl
/-! ### strconv.ParseInt -/
def strconv_ParseInt (s0 : ByteArray) (base1 : Int) (bitSize2 : Int) : Option (Int × Bool) := parseF s0 base1 bitSize2
theorem strconv_ParseInt.calls (s0 : ByteArray) (base1 : Int) (bitSize2 : Int) (w : World) (r : Int × Bool) (g_er : Gler w) (g_lo : Gllo w) (h : strconv_ParseInt s0 base1 bitSize2 = some r) :
    Calls Tryz.prog 59 #[(.string s0), (.int .i64 base1), (.int .i64 bitSize2)] w fun e w' => ∃ v, e = .returned v ∧ (∃ (ev0 : Value), ErrIs r.2 ev0 ∧ v = .tuple #[(.int .i64 r.1), ev0] ∧ Mem w [] [] w') := by
  rw [strconv_ParseInt] at h
  exact parse_calls lay_strconv_ParseInt g_lo.lo s0 base1 bitSize2 w r g_er.es g_er.er h
/-! ### impl.number -/
def impl_number.k_3 (t_1 : Int × Bool) (q_2 : Bool) : Option (Int × Bool) := (if q_2 = true then some (0, false) else some (t_1.1, true))
def impl_number (s0 : ByteArray) (most1 : Int) : Option (Int × Bool) := (strconv_ParseInt s0 10 64).bind fun t_1 => (if t_1.2 = true then impl_number.k_3 t_1 true else (impl_decimal t_1.1).bind fun t_4 => (if (!(t_4.toList == s0.toList)) = true then impl_number.k_3 t_1 true else (impl_within t_1.1 0 most1).bind fun t_5 => impl_number.k_3 t_1 (!t_5)))
theorem impl_number.calls (s0 : ByteArray) (most1 : Int) (w : World) (r : Int × Bool) (g_er : Gler w) (g_lo : Gllo w) (g_pw : Glpw w) (h : impl_number s0 most1 = some r) :
    Calls Tryz.prog 32 #[(.string s0), (.int .i64 most1)] w fun e w' => ∃ v, e = .returned v ∧ (v = .tuple #[(.int .i64 r.1), (.bool r.2)] ∧ Mem w [] [] w') := by
  rw [impl_number] at h
  refine enter (args := [(.string s0), (.int .i64 most1)]) Tryz.func32 rfl Tryz.ntmps32 (by kernel_rfl) (L := []) (W := []) (Mem.start w) ?_
  refine jc_seq (jc_region (qh [0,0] (qe (jx_then (jc_seq (jc_region (qh [0] ?_)))))))
  obtain ⟨t_1, ht_1, h⟩ := bd h
  refine tO (pc 0 (fun w hm => strconv_ParseInt.calls s0 10 64 w _ (g_er.keep hm) (g_lo.keep hm) ht_1) ?_)
  rintro w v w' hm ⟨ev_2, hev_3, rfl, hm'⟩
  refine ⟨_, hm.app hm', jkO ?_⟩
  clear hm hm'
  refine qh [0,0,0,0,0] (qe (jx_then (jc_seq (jc_seq (jc_meet (fun (j : Bool) => match j with | q_2 => impl_number.k_3 t_1 q_2 = some r) (fun (j : Bool) => match j with | q_2 => [(4, [], (.int .i64 0)), (5, [], (.bool false)), (6, [], (.int .i64 t_1.1)), (26, [], (.bool q_2))]) (fun (j : Bool) => match j with | q_2 => []) ?_ ?_)))))
  ·refine jc_region (qh [0] (tO (p_v 0 (by kernel_rfl) _ (fun w hm => err_ne (ev := ev_2) (b := t_1.2) (by kernel_rfl) hev_3) (jkO (qf [(0, 0), (0, 1)] (qp 15 h (fun h => ?_) (fun h => ?_)))))))
   ·exact qf [(0, 3), (0, 3), (0, 3), (0, 4), (0, 0), (0, 3), (0, 3), (0, 3), (0, 3), (0, 4)] (qe (qm true h []))
   ·obtain ⟨t_4, ht_19, h⟩ := bd h
    refine tO (pc 2 (fun w hm => impl_decimal.calls t_1.1 w _ (g_pw.keep hm) ht_19) ?_)
    rintro w v w' hm ⟨rfl, hm'⟩
    refine ⟨_, hm.app hm', jkO ?_⟩
    clear hm hm'
    refine qf [(0, 2), (0, 2), (0, 5), (0, 0), (0, 1), (0, 1)] (qp 21 h (fun h => ?_) (fun h => ?_))
    ·exact qf [(0, 3), (0, 3), (0, 4)] (qe (qm true h []))
    ·obtain ⟨t_5, ht_21, h⟩ := bd h
     refine tO (pc 2 (fun w hm => impl_within.calls t_1.1 0 most1 w _ ht_21) ?_)
     rintro w v w' hm ⟨rfl, hm'⟩
     refine ⟨_, hm.app hm', jkO ?_⟩
     clear hm hm'
     exact qf [(0, 2), (0, 5)] (qe (qm (!t_5) h []))
  ·rintro q_2 h
   replace h : impl_number.k_3 t_1 q_2 = some r := h
   rw [impl_number.k_3] at h
   refine jx_then (qi h (fun h => ?_) (fun h => ?_))
   ·refine jc_seq (jc_region (qh [0,0] (qe (jx_then (jc_ret (jx_thenr ?_))))))
    obtain rfl := Option.some.inj h
    exact qr [] (fun w hm => ⟨rfl, hm.pk []⟩)
   ·refine jc_skip (jx_then (jc_seq (jc_region (qh [0,0,0] (qe (jx_then (jc_ret ?_)))))))
    obtain rfl := Option.some.inj h
    exact qr [] (fun w hm => ⟨rfl, hm.pk []⟩)
/-! ### impl.ReadChanges -/
def impl_ReadChanges.k_3 (xs_2 : List GChange) : Option ((List GChange) × Int) := some (xs_2, 0)
def impl_ReadChanges.l_6 (t_1 : (List ByteArray)) : ((List GChange) × Int) → Option (((List GChange) × Int) ⊕ (((List GChange) × Int) ⊕ (List GChange)))
  | (xs_4, i_5) => (if (decide (i_5 < (t_1.length : Int))) = true then (ix t_1 i_5).bind fun x_8 => (strings_CutPrefix x_8 (ByteArray.mk #[43])).bind fun t_9 => (strings_CutPrefix t_9.1 (ByteArray.mk #[45])).bind fun t_10 => (strings_Cut t_10.1 (ByteArray.mk #[47])).bind fun t_11 => (impl_number t_11.1 95).bind fun t_12 => (impl_number t_11.2.1 23).bind fun t_13 => (if ((((t_9.2 == t_10.2) || (!t_12.2)) || (!t_13.2)) || ((xs_4.length : Int) == 2400)) = true then some (.inr (.inl ([], 5))) else (if xs_4.length + ([(⟨(w16 t_12.1), (w8 t_13.1), t_9.2⟩ : GChange)] : List GChange).length ≤ 4294967296 then some (.inl ((xs_4 ++ ([(⟨(w16 t_12.1), (w8 t_13.1), t_9.2⟩ : GChange)] : List GChange)), (w64 (i_5 + 1)))) else none)) else some (.inr (.inr xs_4)))
def impl_ReadChanges (text0 : ByteArray) : Option ((List GChange) × Int) := (if (text0.toList == (ByteArray.mk #[]).toList) = true then some (([] : List GChange), 0) else (strings_Split text0 (ByteArray.mk #[32])).bind fun t_1 => (loop (impl_ReadChanges.l_6 t_1) (([] : List GChange), 0)).bind fun t_7 => match t_7 with | .inl p => some p | .inr p => impl_ReadChanges.k_3 p)
theorem impl_ReadChanges.calls (text0 : ByteArray) (w : World) (r : (List GChange) × Int) (g_er : Gler w) (g_lo : Gllo w) (g_ml : Glml w) (g_pw : Glpw w) (h : impl_ReadChanges text0 = some r) :
    Calls Tryz.prog 9 #[(.string text0)] w fun e w' => ∃ v, e = .returned v ∧ (∃ (o0 : Option Nat) (c0 : Nat) (s0 : List Value) (n0 : Nat), r.1.length = n0 ∧ (o0 ≠ none → n0 ≤ c0 ∧ s0.length = (c0 - n0) * 3) ∧ (o0 = none → r.1 = [] ∧ c0 = 0) ∧ v = .tuple #[.slice (o0.map fun b => ⟨b, 0, none⟩) n0 c0, (.int .i64 r.2)] ∧ Mem w [] [⟨o0, 61, row encGChange r.1 s0⟩] w') := by
  rw [impl_ReadChanges] at h
  refine enter (args := [(.string text0)]) Tryz.func9 rfl Tryz.ntmps9 (by kernel_rfl) (L := []) (W := []) (Mem.start w) ?_
  refine jc_seq (jc_region (qh [0,0] (qe (jx_then (jc_seq (jc_region (tO (qa 0 (fun b_1 => jkO (qh [0] (qe (jx_then (jc_seq (jc_seq (jc_region (qh [0,0] (qe (jx_then (qi h (fun h => ?_) (fun h => ?_))))))))))))))))))))
  ·refine jc_seq (jc_region (qh [0,0,0] (qe (jx_then (jc_ret (jx_thenr ?_))))))
   obtain rfl := Option.some.inj h
   exact qr [] (fun w hm => ⟨(some b_1), 0, [], 0, rfl, (fun _ => ⟨Nat.le_refl _, by simp⟩), (fun e => nomatch e), rfl, hm.pk [0]⟩)
  ·refine jc_skip (jx_then (jc_seq (jc_seq (jc_region (qh [0] ?_)))))
   obtain ⟨t_1, ht_152, h⟩ := bd h
   refine tO (pc 0 (fun w hm => strings_Split.calls text0 (ByteArray.mk #[32]) w _ (g_ml.keep hm) ht_152) ?_)
   rintro w v w' hm ⟨o_153, cap_154, sp_155, _, rfl, hs_156, ho_157, rfl, hm'⟩
   refine ⟨_, hm.app hm', jkO ?_⟩
   clear hm hm'
   refine qh [0,0] (qe (jx_then (jc_meet (fun (j : (List GChange) × (Option Nat) × Nat × (List Value) × Nat) => match j with | ⟨xs_2, o_226, cap_227, sp_228, n_229⟩ => impl_ReadChanges.k_3 xs_2 = some r ∧ (xs_2.length = n_229) ∧ ((o_226 ≠ none → n_229 ≤ cap_227 ∧ sp_228.length = (cap_227 - n_229) * 3)) ∧ ((o_226 = none → xs_2 = [] ∧ cap_227 = 0))) (fun (j : (List GChange) × (Option Nat) × Nat × (List Value) × Nat) => match j with | ⟨xs_2, o_226, cap_227, sp_228, n_229⟩ => [(2, [], (.slice none 0 0)), (3, [], (.int .i64 0)), (4, [], (.slice (o_226.map fun b => ⟨b, 0, none⟩) n_229 cap_227))]) (fun (j : (List GChange) × (Option Nat) × Nat × (List Value) × Nat) => match j with | ⟨xs_2, o_226, cap_227, sp_228, n_229⟩ => [⟨o_226, 61, row encGChange xs_2 sp_228⟩, ⟨o_153, 9, row encStr t_1 sp_155⟩]) ?_ ?_)))
   ·refine jc_block ?_
    obtain ⟨t_7, ht_299, hr_278⟩ := bd h
    refine jc_loop (fun (s : (List GChange) × Int) (x : (Option Nat) × Nat × (List Value) × Nat) => match s, x with | ⟨xs_4, i_5⟩, ⟨o_272, cap_273, sp_274, n_275⟩ => (xs_4.length = n_275) ∧ ((o_272 ≠ none → n_275 ≤ cap_273 ∧ sp_274.length = (cap_273 - n_275) * 3)) ∧ ((o_272 = none → xs_4 = [] ∧ cap_273 = 0))) (fun (s : (List GChange) × Int) (x : (Option Nat) × Nat × (List Value) × Nat) => match s, x with | ⟨xs_4, i_5⟩, ⟨o_272, cap_273, sp_274, n_275⟩ => [(2, [], (.slice none 0 0)), (3, [], (.int .i64 0)), (4, [], (.slice (o_272.map fun b => ⟨b, 0, none⟩) n_275 cap_273)), (22, [], (.slice (o_153.map fun b => ⟨b, 0, none⟩) t_1.length cap_154)), (23, [], (.int .i64 (t_1.length : Int))), (24, [], (.int .i64 i_5))]) (fun (s : (List GChange) × Int) (x : (Option Nat) × Nat × (List Value) × Nat) => match s, x with | ⟨xs_4, i_5⟩, ⟨o_272, cap_273, sp_274, n_275⟩ => [⟨o_272, 61, row encGChange xs_4 sp_274⟩, ⟨o_153, 9, row encStr t_1 sp_155⟩]) ht_299 ⟨(some b_1), 0, [], 0⟩ ⟨rfl, (fun _ => ⟨Nat.le_refl _, by simp⟩), (fun e => nomatch e)⟩ (by kernel_rfl) [0, 1] (by kernel_rfl) (by kernel_rfl) ?_
    rintro ⟨xs_4, i_5⟩ ⟨o_272, cap_273, sp_274, n_275⟩ y_279 ⟨rfl, hs_276, ho_277⟩ h
    rw [impl_ReadChanges.l_6] at h
    refine jc_seq (jc_region (qh [0] (qe (jx_then (jc_seq (qi h (fun h => ?_) (fun h => ?_)))))))
    ·refine jc_skip (jx_then (jc_seq (jc_block (jc_seq (jc_region ?_)))))
     obtain ⟨x_8, hx_282, h⟩ := bd h
     refine tO (qx 0 (o_153.map fun b => ⟨b, 0, none⟩) 1 hx_282 rfl (spo ho_157 hx_282) (jkO (tO (ql 0 false (fun w hm => ((hm.ow 1 o_153 9 t_1 sp_155 (fun e => (ho_157 e).1) encStr_len).at hx_282)) (jkO (qh [0] (qe (jx_then (jc_seq (jc_region (qh [0] ?_)))))))))))
     obtain ⟨t_9, ht_283, h⟩ := bd h
     refine tO (pc 0 (fun w hm => strings_CutPrefix.calls x_8 (ByteArray.mk #[43]) w _ ht_283) ?_)
     rintro w v w' hm ⟨rfl, hm'⟩
     refine ⟨_, hm.app hm', jkO ?_⟩
     clear hm hm'
     refine qh [0,0,0,0,0] (qe (jx_then (jc_seq (jc_region (qh [0] ?_)))))
     obtain ⟨t_10, ht_284, h⟩ := bd h
     refine tO (pc 0 (fun w hm => strings_CutPrefix.calls t_9.1 (ByteArray.mk #[45]) w _ ht_284) ?_)
     rintro w v w' hm ⟨rfl, hm'⟩
     refine ⟨_, hm.app hm', jkO ?_⟩
     clear hm hm'
     refine qh [0,0,0,0,0] (qe (jx_then (jc_seq (jc_region (qh [0] ?_)))))
     obtain ⟨t_11, ht_285, h⟩ := bd h
     refine tO (pc 0 (fun w hm => strings_Cut.calls t_10.1 (ByteArray.mk #[47]) w _ (g_ml.keep hm) ht_285) ?_)
     rintro w v w' hm ⟨rfl, hm'⟩
     refine ⟨_, hm.app hm', jkO ?_⟩
     clear hm hm'
     refine qh [0,0,0,0,0,0,0] (qe (jx_then (jc_seq (jc_region (qh [0] ?_)))))
     obtain ⟨t_12, ht_286, h⟩ := bd h
     refine tO (pc 0 (fun w hm => impl_number.calls t_11.1 95 w _ (g_er.keep hm) (g_lo.keep hm) (g_pw.keep hm) ht_286) ?_)
     rintro w v w' hm ⟨rfl, hm'⟩
     refine ⟨_, hm.app hm', jkO ?_⟩
     clear hm hm'
     refine qh [0,0,0,0,0] (qe (jx_then (jc_seq (jc_region (qh [0] ?_)))))
     obtain ⟨t_13, ht_287, h⟩ := bd h
     refine tO (pc 0 (fun w hm => impl_number.calls t_11.2.1 23 w _ (g_er.keep hm) (g_lo.keep hm) (g_pw.keep hm) ht_287) ?_)
     rintro w v w' hm ⟨rfl, hm'⟩
     refine ⟨_, hm.app hm', jkO ?_⟩
     clear hm hm'
     refine qh [0,0,0,0,0] (qe (jx_then (jc_seq (jc_seq (jc_region (qf [(0, 0), (0, 0), (0, 0), (0, 0), (0, 1), (0, 1), (0, 0), (0, 0), (0, 1), (0, 1), (0, 0), (0, 0), (0, 1), (0, 1), (0, 1), (0, 0)] (qe (jx_then (qi h (fun h => ?_) (fun h => ?_))))))))))
     ·refine jc_seq (jc_region (qh [0,0] (qe (jx_then (jc_ret (jx_thenr (jx_inr (jx_thenr (jx_leaver (.inl ([], 5)) (Option.some.inj h).symm (fun e_290 => ?_))))))))))
      subst e_290
      refine jx_inr (jx_thenr (jx_thenr ?_))
      obtain rfl := Option.some.inj hr_278
      exact jx_ghost 61 encGChange (qr [] (fun w hm => ⟨none, 0, [], 0, rfl, (fun e => absurd rfl e), (fun _ => ⟨rfl, rfl⟩), rfl, hm.pk [2]⟩))
     ·refine jc_skip (jx_then (jc_region (qh [0,0,0,0,0,0,0] (tO (qa 0 (fun b_291 => jkO ?_))))))
      obtain ⟨hg_292, h⟩ := gd h
      exact tO (p_apn 0 0 o_272 61 xs_4.length 1 cap_273 3 4 (some ⟨b_291, 0, none⟩) encGChange xs_4 ([(⟨(w16 t_12.1), (w8 t_13.1), t_9.2⟩ : GChange)] : List GChange) sp_274 (.agg #[(.int .i16 0), (.int .i8 0), (.bool false)]) rfl rfl (by kernel_rfl) (by kernel_rfl) (by kernel_rfl) encGChange_len encGChange_cell hs_276 ho_277 (fun w hm => (hm.ow 2 (some b_291) 61 ([(⟨(w16 t_12.1), (w8 t_13.1), t_9.2⟩ : GChange)] : List GChange) [] (fun e => nomatch e) encGChange_len)) hg_292 (by kernel_rfl) (by kernel_rfl) (fun o_293 cap_294 sp_295 hs_296 ho_297 => jkO (qh [0] (qe (jx_inn (jx_then (jc_region (qh [0,0] (qe (qb ((xs_4 ++ ([(⟨(w16 t_12.1), (w8 t_13.1), t_9.2⟩ : GChange)] : List GChange)), (w64 (i_5 + 1))) ⟨o_293, cap_294, sp_295, (xs_4 ++ ([(⟨(w16 t_12.1), (w8 t_13.1), t_9.2⟩ : GChange)] : List GChange)).length⟩ h ⟨rfl, hs_296, ho_297⟩ [0, 1]))))))))))
    ·refine jc_exit (jx_thenx (jx_leave (.inr xs_4) (Option.some.inj h).symm (fun e_298 => ?_)))
     subst e_298
     exact jx_ine (qm ⟨xs_4, o_272, cap_273, sp_274, xs_4.length⟩ ⟨hr_278, rfl, hs_276, ho_277⟩ [0, 1])
   ·rintro ⟨xs_2, o_226, cap_227, sp_228, n_229⟩ ⟨h, rfl, hs_230, ho_231⟩
    replace h : impl_ReadChanges.k_3 xs_2 = some r := h
    rw [impl_ReadChanges.k_3] at h
    refine jx_then (jc_seq (jc_region (qh [0,0,0] (qe (jx_then (jc_ret ?_))))))
    obtain rfl := Option.some.inj h
    exact qr [] (fun w hm => ⟨o_226, cap_227, sp_228, xs_2.length, rfl, hs_230, ho_231, rfl, hm.pk [0]⟩)
/-! ### impl.firstOf -/
def impl_firstOf.k_1 : Option (Int) := some 0
def impl_firstOf.l_3 (codes0 : List Int) : Int → Option ((Int) ⊕ (Int ⊕ Unit))
  | i_2 => (if (decide (i_2 < (codes0.length : Int))) = true then (ix codes0 i_2).bind fun x_5 => (if (x_5 != 0) = true then some (.inr (.inl x_5)) else some (.inl (w64 (i_2 + 1)))) else some (.inr (.inr ())))
def impl_firstOf (codes0 : List Int) : Option (Int) := (loop (impl_firstOf.l_3 codes0) 0).bind fun t_4 => match t_4 with | .inl p => some p | .inr p => impl_firstOf.k_1
theorem impl_firstOf.calls (codes0 : List Int) (w : World) (r : Int) {A_a : Option Addr} {A_an : Nat} (A_c : Nat) (A_h : Rw w A_a 1 encI64 codes0) (A_hn : codes0.length = A_an) (h : impl_firstOf codes0 = some r) :
    Calls Tryz.prog 65 #[(.slice A_a A_an A_c)] w fun e w' => ∃ v, e = .returned v ∧ (v = (.int .i64 r) ∧ Mem w [] [] w') := by
  subst A_hn
  rw [impl_firstOf] at h
  refine enter (args := [(.slice A_a codes0.length A_c)]) Tryz.func65 rfl Tryz.ntmps65 (by kernel_rfl) (L := []) (W := []) (Mem.start w) ?_
  refine jc_seq (jc_region (qh [0] (qe (jx_then (jc_seq (jc_seq (jc_region (qh [0,0,0] (qe (jx_then (jc_meet (fun (_ : Unit) => impl_firstOf.k_1 = some r) (fun (_ : Unit) => [(2, [], (.int .i64 0))]) (fun (_ : Unit) => []) ?_ ?_)))))))))))
  ·refine jc_block ?_
   obtain ⟨t_4, ht_34, hr_26⟩ := bd h
   refine jc_loop (fun (s : Int) (x : Unit) => match s, x with | i_2, _ => True) (fun (s : Int) (x : Unit) => match s, x with | i_2, _ => [(2, [], (.int .i64 0)), (5, [], (.slice A_a codes0.length A_c)), (6, [], (.int .i64 (codes0.length : Int))), (7, [], (.int .i64 i_2))]) (fun (s : Int) (x : Unit) => match s, x with | i_2, _ => []) ht_34 () trivial (by kernel_rfl) [] (by kernel_rfl) (by kernel_rfl) ?_
   rintro i_2 _ y_27 _ h
   rw [impl_firstOf.l_3] at h
   refine jc_seq (jc_region (qh [0] (qe (jx_then (jc_seq (qi h (fun h => ?_) (fun h => ?_)))))))
   ·refine jc_skip (jx_then (jc_seq (jc_block (jc_seq (jc_region ?_)))))
    obtain ⟨x_5, hx_30, h⟩ := bd h
    refine tO (qx 0 A_a 1 hx_30 rfl (A_h.sp hx_30) (jkO (tO (ql 0 false (fun w hm => ((hm.xr A_h).at hx_30)) (jkO (qh [0] (qe (jx_then (jc_seq (jc_region (qh [0,0] (qe (jx_then (qi h (fun h => ?_) (fun h => ?_)))))))))))))))
    ·refine jc_seq (jc_region (qh [0,0] (qe (jx_then (jc_ret (jx_inr (jx_thenr (jx_leaver (.inl x_5) (Option.some.inj h).symm (fun e_32 => ?_)))))))))
     subst e_32
     refine jx_inr (jx_thenr (jx_thenr ?_))
     obtain rfl := Option.some.inj hr_26
     exact qr [] (fun w hm => ⟨rfl, hm.pk []⟩)
    ·exact jc_skip (jx_inn (jx_then (jc_region (qh [0,0] (qe (qb (w64 (i_2 + 1)) () h trivial []))))))
   ·refine jc_exit (jx_thenx (jx_leave (.inr ()) (Option.some.inj h).symm (fun e_33 => ?_)))
    subst e_33
    exact jx_ine (qm () hr_26 [])
  ·rintro _ h
   replace h : impl_firstOf.k_1 = some r := h
   rw [impl_firstOf.k_1] at h
   refine jx_then (jc_seq (jc_region (qh [0] (qe (jx_then (jc_ret ?_))))))
   obtain rfl := Option.some.inj h
   exact qr [] (fun w hm => ⟨rfl, hm.pk []⟩)
/-! ### impl.changesCode -/
def impl_changesCode (f0 : GFrame) (d1 : Arr 96 Int) (list2 : List GChange) : Option (Int) := (impl_drumCode f0 ([d1] : List (Arr 96 Int))).bind fun t_1 => (impl_unless (decide ((list2.length : Int) ≤ 2400)) 3).bind fun t_2 => (impl_firstOf ([t_1, t_2] : List Int)).bind fun t_3 => some t_3
theorem impl_changesCode.calls (f0 : GFrame) (d1 : Arr 96 Int) (list2 : List GChange) (w : World) (r : Int) {C_a : Option Addr} {C_an : Nat} (C_c : Nat) (C_h : Rw w C_a 2 encGHammer f0.fHammers) (C_hn : f0.fHammers.length = C_an) {E_a : Option Addr} {E_an : Nat} (E_c : Nat) (E_h : Rw w E_a 3 encGChange list2) (E_hn : list2.length = E_an) (h : impl_changesCode f0 d1 list2 = some r) :
    Calls Tryz.prog 38 #[(.agg #[(.int .i16 f0.fSteps), (.slice C_a C_an C_c)]), (.agg (row encU32 d1.1 []).toArray), (.slice E_a E_an E_c)] w fun e w' => ∃ v, e = .returned v ∧ (v = (.int .i64 r) ∧ Mem w [] [] w') := by
  subst C_hn E_hn
  rw [impl_changesCode] at h
  refine enter (args := [(.agg #[(.int .i16 f0.fSteps), (.slice C_a f0.fHammers.length C_c)]), (.agg (row encU32 d1.1 []).toArray), (.slice E_a list2.length E_c)]) Tryz.func38 rfl Tryz.ntmps38 (by kernel_rfl) (L := []) (W := []) (Mem.start w) ?_
  refine jc_seq (jc_region (tO (qa 0 (fun b_1 => jkO (tO (qa 0 (fun b_2 => jkO (qh [0] (qe (jx_then (jc_seq (jc_region (qh [0] (tO (p_ldA 0 1 b_2 96 1 31 encU32 d1 (by kernel_rfl) (by kernel_rfl) (by kernel_rfl) encU32_len (by kernel_rfl) (jkO (tO (p_bs 0 31 96 1 encA96U32 [(.agg (row encU32 d1.1 []).toArray)] [d1] (by kernel_rfl) (by kernel_rfl) rfl (by kernel_rfl) (by kernel_rfl) encA96U32_len (fun b_3 => jkO ?_)))))))))))))))))))
  obtain ⟨t_1, ht_4, h⟩ := bd h
  refine tO (pc 0 (fun w hm => impl_drumCode.calls f0 ([d1] : List (Arr 96 Int)) w _ C_c (hm.xr C_h) rfl 1 (hm.ow 2 (some b_3) 31 ([d1] : List (Arr 96 Int)) [] (fun e => nomatch e) encA96U32_len) rfl ht_4) ?_)
  rintro w v w' hm ⟨rfl, hm'⟩
  refine ⟨_, hm.app hm', jkO ?_⟩
  clear hm hm'
  refine qh [0,0,0] ?_
  obtain ⟨t_2, ht_5, h⟩ := bd h
  refine tO (pc 0 (fun w hm => impl_unless.calls (decide ((list2.length : Int) ≤ 2400)) 3 w _ ht_5) ?_)
  rintro w v w' hm ⟨rfl, hm'⟩
  refine ⟨_, hm.app hm', jkO ?_⟩
  clear hm hm'
  refine tO (qa 0 (fun b_6 => jkO ?_))
  obtain ⟨t_3, ht_7, h⟩ := bd h
  refine tO (pc 0 (fun w hm => impl_firstOf.calls ([t_1, t_2] : List Int) w _ 2 (hm.ow 3 (some b_6) 2 ([t_1, t_2] : List Int) [] (fun e => nomatch e) encI64_len) rfl ht_7) ?_)
  rintro w v w' hm ⟨rfl, hm'⟩
  refine ⟨_, hm.app hm', jkO ?_⟩
  clear hm hm'
  refine qh [0] (qe (jx_then (jc_ret ?_)))
  obtain rfl := Option.some.inj h
  exact qr [] (fun w hm => ⟨rfl, hm.pk []⟩)
/-! ### (impl.Frame).isPlace -/
def impl_Frame_isPlace (f0 : GFrame) (step1 : Int) (track2 : Int) : Option (Bool) := (impl_within step1 0 (w64 ((w64 f0.fSteps) - 1))).bind fun t_1 => (if t_1 = true then (impl_size_Hammer f0.fHammers).bind fun t_2 => (impl_within track2 0 (w64 (t_2 - 1))).bind fun t_3 => some t_3 else some false)
theorem impl_Frame_isPlace.calls (f0 : GFrame) (step1 : Int) (track2 : Int) (w : World) (r : Bool) {C_a : Option Addr} {C_an : Nat} (C_c : Nat) (C_h : Rw w C_a 2 encGHammer f0.fHammers) (C_hn : f0.fHammers.length = C_an) (h : impl_Frame_isPlace f0 step1 track2 = some r) :
    Calls Tryz.prog 74 #[(.agg #[(.int .i16 f0.fSteps), (.slice C_a C_an C_c)]), (.int .i64 step1), (.int .i64 track2)] w fun e w' => ∃ v, e = .returned v ∧ (v = (.bool r) ∧ Mem w [] [] w') := by
  subst C_hn
  rw [impl_Frame_isPlace] at h
  refine enter (args := [(.agg #[(.int .i16 f0.fSteps), (.slice C_a f0.fHammers.length C_c)]), (.int .i64 step1), (.int .i64 track2)]) Tryz.func74 rfl Tryz.ntmps74 (by kernel_rfl) (L := []) (W := []) (Mem.start w) ?_
  refine jc_seq (jc_region (tO (qa 0 (fun b_1 => jkO (qh [0] (qe (jx_then (jc_seq (jc_region (qh [0,0,0,0,0] ?_))))))))))
  obtain ⟨t_1, ht_2, h⟩ := bd h
  refine tO (pc 0 (fun w hm => impl_within.calls step1 0 (w64 ((w64 f0.fSteps) - 1)) w _ ht_2) ?_)
  rintro w v w' hm ⟨rfl, hm'⟩
  refine ⟨_, hm.app hm', jkO ?_⟩
  clear hm hm'
  refine qf [(0, 0), (0, 1), (0, 1), (0, 1)] (qp 13 h (fun h => ?_) (fun h => ?_))
  ·obtain ⟨t_2, ht_4, h⟩ := bd h
   refine tO (pc 2 (fun w hm => impl_size_Hammer.calls f0.fHammers w _ C_c (hm.xr C_h) rfl ht_4) ?_)
   rintro w v w' hm ⟨rfl, hm'⟩
   refine ⟨_, hm.app hm', jkO ?_⟩
   clear hm hm'
   refine qf [(0, 2)] ?_
   obtain ⟨t_3, ht_5, h⟩ := bd h
   refine tO (pc 2 (fun w hm => impl_within.calls track2 0 (w64 (t_2 - 1)) w _ ht_5) ?_)
   rintro w v w' hm ⟨rfl, hm'⟩
   refine ⟨_, hm.app hm', jkO ?_⟩
   clear hm hm'
   refine qf [(0, 4), (0, 0)] (qe (jx_then (jc_ret ?_)))
   obtain rfl := Option.some.inj h
   exact qr [] (fun w hm => ⟨rfl, hm.pk []⟩)
  ·refine qf [(0, 3), (0, 3), (0, 3), (0, 5), (0, 0)] (qe (jx_then (jc_ret ?_)))
   obtain rfl := Option.some.inj h
   exact qr [] (fun w hm => ⟨rfl, hm.pk []⟩)
/-! ### impl.placeCode -/
def impl_placeCode (f0 : GFrame) (d1 : Arr 96 Int) (step2 : Int) (track3 : Int) : Option (Int) := (impl_drumCode f0 ([d1] : List (Arr 96 Int))).bind fun t_1 => (impl_Frame_isPlace f0 step2 track3).bind fun t_2 => (impl_unless t_2 2).bind fun t_3 => (impl_firstOf ([t_1, t_3] : List Int)).bind fun t_4 => some t_4
theorem impl_placeCode.calls (f0 : GFrame) (d1 : Arr 96 Int) (step2 : Int) (track3 : Int) (w : World) (r : Int) {C_a : Option Addr} {C_an : Nat} (C_c : Nat) (C_h : Rw w C_a 2 encGHammer f0.fHammers) (C_hn : f0.fHammers.length = C_an) (h : impl_placeCode f0 d1 step2 track3 = some r) :
    Calls Tryz.prog 48 #[(.agg #[(.int .i16 f0.fSteps), (.slice C_a C_an C_c)]), (.agg (row encU32 d1.1 []).toArray), (.int .i64 step2), (.int .i64 track3)] w fun e w' => ∃ v, e = .returned v ∧ (v = (.int .i64 r) ∧ Mem w [] [] w') := by
  subst C_hn
  rw [impl_placeCode] at h
  refine enter (args := [(.agg #[(.int .i16 f0.fSteps), (.slice C_a f0.fHammers.length C_c)]), (.agg (row encU32 d1.1 []).toArray), (.int .i64 step2), (.int .i64 track3)]) Tryz.func48 rfl Tryz.ntmps48 (by kernel_rfl) (L := []) (W := []) (Mem.start w) ?_
  refine jc_seq (jc_region (tO (qa 0 (fun b_1 => jkO (tO (qa 0 (fun b_2 => jkO (qh [0] (qe (jx_then (jc_seq (qg [⟨some b_1, 27, [(.int .i16 f0.fSteps), (.slice C_a f0.fHammers.length C_c)]⟩, ⟨(some b_2), 31, row encU32 d1.1 []⟩] 12 (qd [⟨0, 0, 0⟩,⟨4, 0, 0⟩,⟨5, 0, 0⟩,⟨6, 0, 0⟩] 8 [0, 1] (qv 1 0 [0, 1] (fun w hm => ld_run (b := b_2) (off := 0) (s := 96) (agg := true) (vs := row encU32 d1.1 []) (by kernel_rfl) ((row_len encU32_len d1).trans rfl) (.inl rfl) (hm.all (hh := 1) (T := 31) (by kernel_rfl))) (tD 2 (p_bs 0 31 96 1 encA96U32 [(.agg (row encU32 d1.1 []).toArray)] [d1] (by kernel_rfl) (by kernel_rfl) rfl (by kernel_rfl) (by kernel_rfl) encA96U32_len (fun b_3 => kD [0, 1] ?_)))))))))))))))))
  obtain ⟨t_1, ht_4, h⟩ := bd h
  refine tD 3 (pc 0 (fun w hm => impl_drumCode.calls f0 ([d1] : List (Arr 96 Int)) w _ C_c (hm.xr C_h) rfl 1 (hm.ow 2 (some b_3) 31 ([d1] : List (Arr 96 Int)) [] (fun e => nomatch e) encA96U32_len) rfl ht_4) ?_)
  rintro w v w' hm ⟨rfl, hm'⟩
  refine ⟨_, hm.app hm', kD [0, 1] ?_⟩
  clear hm hm'
  obtain ⟨t_2, ht_5, h⟩ := bd h
  refine tD 7 (pc 0 (fun w hm => impl_Frame_isPlace.calls f0 step2 track3 w _ C_c (hm.xr C_h) rfl ht_5) ?_)
  rintro w v w' hm ⟨rfl, hm'⟩
  refine ⟨_, hm.app hm', kD [0, 1] ?_⟩
  clear hm hm'
  obtain ⟨t_3, ht_6, h⟩ := bd h
  refine tD 8 (pc 0 (fun w hm => impl_unless.calls t_2 2 w _ ht_6) ?_)
  rintro w v w' hm ⟨rfl, hm'⟩
  refine ⟨_, hm.app hm', kD [0, 1] ?_⟩
  clear hm hm'
  refine tD 9 (qa 0 (fun b_7 => kD [0, 1] ?_))
  obtain ⟨t_4, ht_8, h⟩ := bd h
  refine tD 10 (pc 0 (fun w hm => impl_firstOf.calls ([t_1, t_3] : List Int) w _ 2 (hm.ow 3 (some b_7) 2 ([t_1, t_3] : List Int) [] (fun e => nomatch e) encI64_len) rfl ht_8) ?_)
  rintro w v w' hm ⟨rfl, hm'⟩
  refine ⟨_, hm.app hm', kD [0, 1] ?_⟩
  clear hm hm'
  refine qd [⟨11, 0, 0⟩] 0 [0, 1] (qz (jx_then (jc_ret ?_)))
  obtain rfl := Option.some.inj h
  exact qr [] (fun w hm => ⟨rfl, hm.pk []⟩)
/-! ### (*impl.Drum).put -/
def impl_Drum_put (d0 : Arr 96 Int) (step1 : Int) (track2 : Int) (on3 : Bool) : Option ((Arr 96 Int)) := (ix d0.1 step1).bind fun x_1 => (if 0 ≤ track2 then (ix d0.1 step1).bind fun x_2 => (if on3 = true then (ix ((Arr.set d0 step1 (bClr .u32 x_1 (bShl .u32 1 track2))).1) step1).bind fun x_3 => (if 0 ≤ track2 then (ix ((Arr.set d0 step1 (bClr .u32 x_1 (bShl .u32 1 track2))).1) step1).bind fun x_4 => some (Arr.set (Arr.set d0 step1 (bClr .u32 x_1 (bShl .u32 1 track2))) step1 (bOr .u32 x_3 (bShl .u32 1 track2))) else none) else some (Arr.set d0 step1 (bClr .u32 x_1 (bShl .u32 1 track2)))) else none)
theorem impl_Drum_put.calls (d0 : Arr 96 Int) (step1 : Int) (track2 : Int) (on3 : Bool) (w : World) (r : (Arr 96 Int)) (A_b : Nat) (hm0 : Mem w (bs [some A_b]) [⟨(some A_b), 31, row encU32 d0.1 []⟩] w) (h : impl_Drum_put d0 step1 track2 on3 = some r) :
    Calls Tryz.prog 92 #[(.pointer (some ⟨A_b, 0, none⟩)), (.int .i64 step1), (.int .i64 track2), (.bool on3)] w fun e w' => ∃ v, e = .returned v ∧ (v = .tuple #[] ∧ Mem w (bs [some A_b]) [⟨(some A_b), 31, row encU32 r.1 []⟩] w') := by
  rw [impl_Drum_put] at h
  refine enter (args := [(.pointer (some ⟨A_b, 0, none⟩)), (.int .i64 step1), (.int .i64 track2), (.bool on3)]) Tryz.func92 rfl Tryz.ntmps92 (by kernel_rfl) (L := [⟨(some A_b), 31, row encU32 d0.1 []⟩]) (W := bs [some A_b]) hm0 ?_
  refine jc_seq (qg [] 11 (qd [⟨0, 0, 0⟩,⟨1, 0, 0⟩,⟨2, 0, 0⟩,⟨5, 0, 0⟩,⟨8, 0, 0⟩] 6 [] ?_))
  obtain ⟨x_1, hx_4, h⟩ := bd h
  refine qv 3 0 [] (fun w hm => idx_run (a := (some ⟨A_b, 0, none⟩)) (len := 96) (s := 1) (j := step1) (by kernel_rfl) (ix_some hx_4).1 (ltn hx_4 d0.2) rfl) (toD2 4 6 (by kernel_rfl) ?_ ?_)
  ·refine ql 0 false (fun w hm => ((hm.ow 0 (some A_b) 31 d0.1 [] (fun e => nomatch e) encU32_len).at hx_4)) (kD [] ?_)
   obtain ⟨hg_5, h⟩ := gd h
   refine tD 6 (p_shl 0 .u32 1 .i64 track2 (by kernel_rfl) (by kernel_rfl) hg_5 (kD [] (qd [⟨7, 0, 0⟩] 2 [] ?_)))
   obtain ⟨x_2, hx_6, h⟩ := bd h
   refine qv 9 0 [] (fun w hm => idx_run (a := (some ⟨A_b, 0, none⟩)) (len := 96) (s := 1) (j := step1) (by kernel_rfl) (ix_some hx_6).1 (ltn hx_6 d0.2) rfl) (tD 10 (p_str 0 0 A_b 31 encU32 d0.1 [] step1 (bClr .u32 x_1 (bShl .u32 1 track2)) 1 0 [(.int .u32 (bClr .u32 x_1 (bShl .u32 1 track2)))] (by kernel_rfl) (by kernel_rfl) (by kernel_rfl) encU32_len hx_6 (by kernel_rfl) (by kernel_rfl) (kD [] (qz (jx_then (jc_seq (jc_region (qh [0] (qe (jx_then (qi h (fun h => ?_) (fun h => ?_))))))))))))
   ·refine qg [] 11 (qd [⟨0, 0, 0⟩,⟨1, 0, 0⟩,⟨2, 0, 0⟩,⟨5, 0, 0⟩,⟨8, 0, 0⟩] 6 [] ?_)
    obtain ⟨x_3, hx_11, h⟩ := bd h
    refine qv 3 0 [] (fun w hm => idx_run (a := (some ⟨A_b, 0, none⟩)) (len := 96) (s := 1) (j := step1) (by kernel_rfl) (ix_some hx_11).1 (ltn hx_11 (Arr.set d0 step1 (bClr .u32 x_1 (bShl .u32 1 track2))).2) rfl) (toD2 4 6 (by kernel_rfl) ?_ ?_)
    ·refine ql 0 false (fun w hm => ((hm.ow 0 (some A_b) 31 ((Arr.set d0 step1 (bClr .u32 x_1 (bShl .u32 1 track2))).1) [] (fun e => nomatch e) encU32_len).at hx_11)) (kD [] ?_)
     obtain ⟨hg_12, h⟩ := gd h
     refine tD 6 (p_shl 0 .u32 1 .i64 track2 (by kernel_rfl) (by kernel_rfl) hg_12 (kD [] (qd [⟨7, 0, 0⟩] 2 [] ?_)))
     obtain ⟨x_4, hx_13, h⟩ := bd h
     refine qv 9 0 [] (fun w hm => idx_run (a := (some ⟨A_b, 0, none⟩)) (len := 96) (s := 1) (j := step1) (by kernel_rfl) (ix_some hx_13).1 (ltn hx_13 (Arr.set d0 step1 (bClr .u32 x_1 (bShl .u32 1 track2))).2) rfl) (tD 10 (p_str 0 0 A_b 31 encU32 ((Arr.set d0 step1 (bClr .u32 x_1 (bShl .u32 1 track2))).1) [] step1 (bOr .u32 x_3 (bShl .u32 1 track2)) 1 0 [(.int .u32 (bOr .u32 x_3 (bShl .u32 1 track2)))] (by kernel_rfl) (by kernel_rfl) (by kernel_rfl) encU32_len hx_13 (by kernel_rfl) (by kernel_rfl) (kD [] (qz (jx_fall ?_)))))
     obtain rfl := Option.some.inj h
     exact qr [] (fun w hm => ⟨rfl, hm.pk [0]⟩)
    ·obtain ⟨hg_14, h⟩ := gd h
     refine p_shl 0 .u32 1 .i64 track2 (by kernel_rfl) (by kernel_rfl) hg_14 (kD [] (tD 4 (ql 0 false (fun w hm => ((hm.ow 0 (some A_b) 31 ((Arr.set d0 step1 (bClr .u32 x_1 (bShl .u32 1 track2))).1) [] (fun e => nomatch e) encU32_len).at hx_11)) (kD [] (qd [⟨7, 0, 0⟩] 2 [] ?_)))))
     obtain ⟨x_4, hx_15, h⟩ := bd h
     refine qv 9 0 [] (fun w hm => idx_run (a := (some ⟨A_b, 0, none⟩)) (len := 96) (s := 1) (j := step1) (by kernel_rfl) (ix_some hx_15).1 (ltn hx_15 (Arr.set d0 step1 (bClr .u32 x_1 (bShl .u32 1 track2))).2) rfl) (tD 10 (p_str 0 0 A_b 31 encU32 ((Arr.set d0 step1 (bClr .u32 x_1 (bShl .u32 1 track2))).1) [] step1 (bOr .u32 x_3 (bShl .u32 1 track2)) 1 0 [(.int .u32 (bOr .u32 x_3 (bShl .u32 1 track2)))] (by kernel_rfl) (by kernel_rfl) (by kernel_rfl) encU32_len hx_15 (by kernel_rfl) (by kernel_rfl) (kD [] (qz (jx_fall ?_)))))
     obtain rfl := Option.some.inj h
     exact qr [] (fun w hm => ⟨rfl, hm.pk [0]⟩)
   ·refine jc_skip (jx_fall ?_)
    obtain rfl := Option.some.inj h
    exact qr [] (fun w hm => ⟨rfl, hm.pk [0]⟩)
  ·obtain ⟨hg_16, h⟩ := gd h
   refine p_shl 0 .u32 1 .i64 track2 (by kernel_rfl) (by kernel_rfl) hg_16 (kD [] (tD 4 (ql 0 false (fun w hm => ((hm.ow 0 (some A_b) 31 d0.1 [] (fun e => nomatch e) encU32_len).at hx_4)) (kD [] (qd [⟨7, 0, 0⟩] 2 [] ?_)))))
   obtain ⟨x_2, hx_17, h⟩ := bd h
   refine qv 9 0 [] (fun w hm => idx_run (a := (some ⟨A_b, 0, none⟩)) (len := 96) (s := 1) (j := step1) (by kernel_rfl) (ix_some hx_17).1 (ltn hx_17 d0.2) rfl) (tD 10 (p_str 0 0 A_b 31 encU32 d0.1 [] step1 (bClr .u32 x_1 (bShl .u32 1 track2)) 1 0 [(.int .u32 (bClr .u32 x_1 (bShl .u32 1 track2)))] (by kernel_rfl) (by kernel_rfl) (by kernel_rfl) encU32_len hx_17 (by kernel_rfl) (by kernel_rfl) (kD [] (qz (jx_then (jc_seq (jc_region (qh [0] (qe (jx_then (qi h (fun h => ?_) (fun h => ?_))))))))))))
   ·refine qg [] 11 (qd [⟨0, 0, 0⟩,⟨1, 0, 0⟩,⟨2, 0, 0⟩,⟨5, 0, 0⟩,⟨8, 0, 0⟩] 6 [] ?_)
    obtain ⟨x_3, hx_22, h⟩ := bd h
    refine qv 3 0 [] (fun w hm => idx_run (a := (some ⟨A_b, 0, none⟩)) (len := 96) (s := 1) (j := step1) (by kernel_rfl) (ix_some hx_22).1 (ltn hx_22 (Arr.set d0 step1 (bClr .u32 x_1 (bShl .u32 1 track2))).2) rfl) (toD2 4 6 (by kernel_rfl) ?_ ?_)
    ·refine ql 0 false (fun w hm => ((hm.ow 0 (some A_b) 31 ((Arr.set d0 step1 (bClr .u32 x_1 (bShl .u32 1 track2))).1) [] (fun e => nomatch e) encU32_len).at hx_22)) (kD [] ?_)
     obtain ⟨hg_23, h⟩ := gd h
     refine tD 6 (p_shl 0 .u32 1 .i64 track2 (by kernel_rfl) (by kernel_rfl) hg_23 (kD [] (qd [⟨7, 0, 0⟩] 2 [] ?_)))
     obtain ⟨x_4, hx_24, h⟩ := bd h
     refine qv 9 0 [] (fun w hm => idx_run (a := (some ⟨A_b, 0, none⟩)) (len := 96) (s := 1) (j := step1) (by kernel_rfl) (ix_some hx_24).1 (ltn hx_24 (Arr.set d0 step1 (bClr .u32 x_1 (bShl .u32 1 track2))).2) rfl) (tD 10 (p_str 0 0 A_b 31 encU32 ((Arr.set d0 step1 (bClr .u32 x_1 (bShl .u32 1 track2))).1) [] step1 (bOr .u32 x_3 (bShl .u32 1 track2)) 1 0 [(.int .u32 (bOr .u32 x_3 (bShl .u32 1 track2)))] (by kernel_rfl) (by kernel_rfl) (by kernel_rfl) encU32_len hx_24 (by kernel_rfl) (by kernel_rfl) (kD [] (qz (jx_fall ?_)))))
     obtain rfl := Option.some.inj h
     exact qr [] (fun w hm => ⟨rfl, hm.pk [0]⟩)
    ·obtain ⟨hg_25, h⟩ := gd h
     refine p_shl 0 .u32 1 .i64 track2 (by kernel_rfl) (by kernel_rfl) hg_25 (kD [] (tD 4 (ql 0 false (fun w hm => ((hm.ow 0 (some A_b) 31 ((Arr.set d0 step1 (bClr .u32 x_1 (bShl .u32 1 track2))).1) [] (fun e => nomatch e) encU32_len).at hx_22)) (kD [] (qd [⟨7, 0, 0⟩] 2 [] ?_)))))
     obtain ⟨x_4, hx_26, h⟩ := bd h
     refine qv 9 0 [] (fun w hm => idx_run (a := (some ⟨A_b, 0, none⟩)) (len := 96) (s := 1) (j := step1) (by kernel_rfl) (ix_some hx_26).1 (ltn hx_26 (Arr.set d0 step1 (bClr .u32 x_1 (bShl .u32 1 track2))).2) rfl) (tD 10 (p_str 0 0 A_b 31 encU32 ((Arr.set d0 step1 (bClr .u32 x_1 (bShl .u32 1 track2))).1) [] step1 (bOr .u32 x_3 (bShl .u32 1 track2)) 1 0 [(.int .u32 (bOr .u32 x_3 (bShl .u32 1 track2)))] (by kernel_rfl) (by kernel_rfl) (by kernel_rfl) encU32_len hx_26 (by kernel_rfl) (by kernel_rfl) (kD [] (qz (jx_fall ?_)))))
     obtain rfl := Option.some.inj h
     exact qr [] (fun w hm => ⟨rfl, hm.pk [0]⟩)
   ·refine jc_skip (jx_fall ?_)
    obtain rfl := Option.some.inj h
    exact qr [] (fun w hm => ⟨rfl, hm.pk [0]⟩)
/-! ### impl.withPut -/
def impl_withPut.k_3 (d1 : Arr 96 Int) (step2 : Int) (track3 : Int) (on4 : Bool) (i_2 : Int) : Option ((Arr 96 Int) × Int) := (if (i_2 != 0) = true then some ((Arr.rep 96 0), i_2) else (impl_Drum_put d1 step2 track3 on4).bind fun t_4 => some (t_4, 0))
def impl_withPut (f0 : GFrame) (d1 : Arr 96 Int) (step2 : Int) (track3 : Int) (on4 : Bool) : Option ((Arr 96 Int) × Int) := (impl_placeCode f0 d1 step2 track3).bind fun t_1 => (if (t_1 == 0) = true then (impl_Drum_has d1 step2 track3).bind fun t_5 => (if (t_5 == on4) = true then impl_withPut.k_3 d1 step2 track3 on4 4 else impl_withPut.k_3 d1 step2 track3 on4 t_1) else impl_withPut.k_3 d1 step2 track3 on4 t_1)
theorem impl_withPut.calls (f0 : GFrame) (d1 : Arr 96 Int) (step2 : Int) (track3 : Int) (on4 : Bool) (w : World) (r : (Arr 96 Int) × Int) {C_a : Option Addr} {C_an : Nat} (C_c : Nat) (C_h : Rw w C_a 2 encGHammer f0.fHammers) (C_hn : f0.fHammers.length = C_an) (h : impl_withPut f0 d1 step2 track3 on4 = some r) :
    Calls Tryz.prog 67 #[(.agg #[(.int .i16 f0.fSteps), (.slice C_a C_an C_c)]), (.agg (row encU32 d1.1 []).toArray), (.int .i64 step2), (.int .i64 track3), (.bool on4)] w fun e w' => ∃ v, e = .returned v ∧ (v = .tuple #[(.agg (row encU32 r.1.1 []).toArray), (.int .i64 r.2)] ∧ Mem w [] [] w') := by
  subst C_hn
  rw [impl_withPut] at h
  refine enter (args := [(.agg #[(.int .i16 f0.fSteps), (.slice C_a f0.fHammers.length C_c)]), (.agg (row encU32 d1.1 []).toArray), (.int .i64 step2), (.int .i64 track3), (.bool on4)]) Tryz.func67 rfl Tryz.ntmps67 (by kernel_rfl) (L := []) (W := []) (Mem.start w) ?_
  refine jc_seq (jc_region (tO (qa 0 (fun b_1 => jkO (tO (qa 0 (fun b_2 => jkO (tO (qa 0 (fun b_3 => jkO (qh [0] (qe (jx_then (jc_seq (jc_region (qh [0] (tO (p_ldA 0 1 b_2 96 1 31 encU32 d1 (by kernel_rfl) (by kernel_rfl) (by kernel_rfl) encU32_len (by kernel_rfl) (jkO (qh [0,0] ?_))))))))))))))))))))
  obtain ⟨t_1, ht_4, h⟩ := bd h
  refine tO (pc 0 (fun w hm => impl_placeCode.calls f0 d1 step2 track3 w _ C_c (hm.xr C_h) rfl ht_4) ?_)
  rintro w v w' hm ⟨rfl, hm'⟩
  refine ⟨_, hm.app hm', jkO ?_⟩
  clear hm hm'
  refine qh [0] (qe (jx_then (jc_seq (jc_meet (fun (j : Int) => match j with | i_2 => impl_withPut.k_3 d1 step2 track3 on4 i_2 = some r) (fun (j : Int) => match j with | i_2 => [(2, [], (.int .i64 step2)), (3, [], (.int .i64 track3)), (4, [], (.bool on4)), (6, [], (.pointer (some ⟨b_2, 0, none⟩))), (10, [], (.pointer (some ⟨b_3, 0, none⟩))), (11, [], (.int .i64 0)), (12, [], (.int .i64 i_2))]) (fun (j : Int) => match j with | i_2 => [⟨some b_1, 27, [(.int .i16 f0.fSteps), (.slice C_a f0.fHammers.length C_c)]⟩, ⟨(some b_2), 31, row encU32 d1.1 []⟩, ⟨(some b_3), 31, row encU32 ((Arr.rep 96 0).1) []⟩]) ?_ ?_))))
  ·refine jc_seq (jc_region (qf [(0, 0), (0, 0), (0, 0), (0, 1), (0, 1)] (qp 20 h (fun h => ?_) (fun h => ?_))))
   ·obtain ⟨t_5, ht_13, h⟩ := bd h
    refine tO (pc 2 (fun w hm => impl_Drum_has.calls d1 step2 track3 w _ (hm.ow 1 (some b_2) 31 d1.1 [] (fun e => nomatch e) encU32_len) ht_13) ?_)
    rintro w v w' hm ⟨rfl, hm'⟩
    refine ⟨_, hm.app hm', jkO ?_⟩
    clear hm hm'
    refine qf [(0, 2), (0, 2), (0, 4)] (qe (jx_then (qi h (fun h => ?_) (fun h => ?_))))
    ·exact jc_region (qh [0] (qe (qm 4 h [0, 1, 2])))
    ·exact jc_skip (qm t_1 h [0, 1, 2])
   ·exact qf [(0, 3), (0, 3), (0, 3), (0, 5)] (qe (jx_then (jc_cond false (by kernel_rfl) (fun hc_15 => nomatch hc_15) (fun hc_15 => (jc_skip (qm t_1 h [0, 1, 2]))))))
  ·rintro i_2 h
   replace h : impl_withPut.k_3 d1 step2 track3 on4 i_2 = some r := h
   rw [impl_withPut.k_3] at h
   refine jx_then (jc_seq (jc_seq (jc_region (qh [0,0] (qe (jx_then (qi h (fun h => ?_) (fun h => ?_))))))))
   ·refine jc_seq (jc_region (qh [0,0] (tO (p_sA 0 2 b_3 96 1 31 encU32 (Arr.rep 96 0) (Arr.rep 96 0) (by kernel_rfl) (by kernel_rfl) (by kernel_rfl) encU32_len encU32_cell (by kernel_rfl) (jkO (qh [0] (qe (jx_then (jc_ret (jx_thenr ?_))))))))))
    obtain rfl := Option.some.inj h
    exact jx_retV rfl (rq_arr (b := b_3) (T' := 31) (hh := 2) (mm := 1) encU32 (Arr.rep 96 0) (by kernel_rfl) (by kernel_rfl) encU32_len (by kernel_rfl) (rq_tmp (by kernel_rfl) rq_nil)) (fun w hm => ⟨rfl, hm.pk []⟩)
   ·refine jc_skip (jx_then (jc_seq (jc_region (qh [0,0,0] ?_))))
    obtain ⟨t_4, ht_11, h⟩ := bd h
    refine tO (pc 0 (fun w hm => impl_Drum_put.calls d1 step2 track3 on4 w _ b_2 (hm.pass (N := [⟨(some b_2), 31, row encU32 d1.1 []⟩]) [1] (by kernel_rfl) (by kernel_rfl)) ht_11) ?_)
    rintro w v w' hm ⟨rfl, hm'⟩
    refine ⟨_, hm.appW (ps := [(1, ⟨(some b_2), 31, row encU32 t_4.1 []⟩)]) (N := []) hm' (by kernel_rfl) (by kernel_rfl), jkO ?_⟩
    clear hm hm'
    refine qe (jx_then (jc_seq (jc_region (tO (p_ldA 0 1 b_2 96 1 31 encU32 t_4 (by kernel_rfl) (by kernel_rfl) (by kernel_rfl) encU32_len (by kernel_rfl) (jkO (tO (p_sA 0 2 b_3 96 1 31 encU32 (Arr.rep 96 0) t_4 (by kernel_rfl) (by kernel_rfl) (by kernel_rfl) encU32_len encU32_cell (by kernel_rfl) (jkO (qh [0] (qe (jx_then (jc_ret ?_)))))))))))))
    obtain rfl := Option.some.inj h
    exact jx_retV rfl (rq_arr (b := b_3) (T' := 31) (hh := 2) (mm := 1) encU32 t_4 (by kernel_rfl) (by kernel_rfl) encU32_len (by kernel_rfl) (rq_tmp (by kernel_rfl) rq_nil)) (fun w hm => ⟨rfl, hm.pk []⟩)
/-! ### impl.makeChanges -/
def impl_makeChanges.k_2 (a_1 : Arr 96 Int) : Option ((Arr 96 Int) × Int × Int) := some (a_1, 0, 0)
def impl_makeChanges.l_5 (f0 : GFrame) (list2 : List GChange) : ((Arr 96 Int) × Int) → Option (((Arr 96 Int) × Int) ⊕ (((Arr 96 Int) × Int × Int) ⊕ (Arr 96 Int)))
  | (a_3, i_4) => (if (decide (i_4 < (list2.length : Int))) = true then (ix list2 i_4).bind fun x_7 => (impl_withPut f0 a_3 (w64 x_7.fStep) (w64 x_7.fTrack) x_7.fPut).bind fun t_8 => (if (t_8.2 != 0) = true then some (.inr (.inl ((Arr.rep 96 0), i_4, t_8.2))) else some (.inl (t_8.1, (w64 (i_4 + 1))))) else some (.inr (.inr a_3)))
def impl_makeChanges (f0 : GFrame) (d1 : Arr 96 Int) (list2 : List GChange) : Option ((Arr 96 Int) × Int × Int) := (loop (impl_makeChanges.l_5 f0 list2) (d1, 0)).bind fun t_6 => match t_6 with | .inl p => some p | .inr p => impl_makeChanges.k_2 p
theorem impl_makeChanges.calls (f0 : GFrame) (d1 : Arr 96 Int) (list2 : List GChange) (w : World) (r : (Arr 96 Int) × Int × Int) {C_a : Option Addr} {C_an : Nat} (C_c : Nat) (C_h : Rw w C_a 2 encGHammer f0.fHammers) (C_hn : f0.fHammers.length = C_an) {E_a : Option Addr} {E_an : Nat} (E_c : Nat) (E_h : Rw w E_a 3 encGChange list2) (E_hn : list2.length = E_an) (h : impl_makeChanges f0 d1 list2 = some r) :
    Calls Tryz.prog 39 #[(.agg #[(.int .i16 f0.fSteps), (.slice C_a C_an C_c)]), (.agg (row encU32 d1.1 []).toArray), (.slice E_a E_an E_c)] w fun e w' => ∃ v, e = .returned v ∧ (v = .tuple #[(.agg (row encU32 r.1.1 []).toArray), (.int .i64 r.2.1), (.int .i64 r.2.2)] ∧ Mem w [] [] w') := by
  subst C_hn E_hn
  rw [impl_makeChanges] at h
  refine enter (args := [(.agg #[(.int .i16 f0.fSteps), (.slice C_a f0.fHammers.length C_c)]), (.agg (row encU32 d1.1 []).toArray), (.slice E_a list2.length E_c)]) Tryz.func39 rfl Tryz.ntmps39 (by kernel_rfl) (L := []) (W := []) (Mem.start w) ?_
  refine jc_seq (jc_region (tO (qa 0 (fun b_1 => jkO (tO (qa 0 (fun b_2 => jkO (tO (qa 0 (fun b_3 => jkO (qh [0,0] (qe (jx_then (jc_seq (jc_seq (jc_region (qh [0,0,0] (qe (jx_then (jc_meet (fun (j : (Arr 96 Int)) => match j with | a_1 => impl_makeChanges.k_2 a_1 = some r) (fun (j : (Arr 96 Int)) => match j with | a_1 => [(4, [], (.pointer (some ⟨b_2, 0, none⟩))), (6, [], (.pointer (some ⟨b_3, 0, none⟩))), (7, [], (.int .i64 0)), (8, [], (.int .i64 0))]) (fun (j : (Arr 96 Int)) => match j with | a_1 => [⟨some b_1, 27, [(.int .i16 f0.fSteps), (.slice C_a f0.fHammers.length C_c)]⟩, ⟨(some b_2), 31, row encU32 a_1.1 []⟩, ⟨(some b_3), 31, row encU32 ((Arr.rep 96 0).1) []⟩]) ?_ ?_))))))))))))))))))))
  ·refine jc_block ?_
   obtain ⟨t_6, ht_107, hr_96⟩ := bd h
   refine jc_loop (fun (s : (Arr 96 Int) × Int) (x : Unit) => match s, x with | ⟨a_3, i_4⟩, _ => True) (fun (s : (Arr 96 Int) × Int) (x : Unit) => match s, x with | ⟨a_3, i_4⟩, _ => [(3, [], (.pointer (some ⟨b_1, 0, none⟩))), (4, [], (.pointer (some ⟨b_2, 0, none⟩))), (6, [], (.pointer (some ⟨b_3, 0, none⟩))), (7, [], (.int .i64 0)), (8, [], (.int .i64 0)), (13, [], (.slice E_a list2.length E_c)), (14, [], (.int .i64 (list2.length : Int))), (15, [], (.int .i64 i_4))]) (fun (s : (Arr 96 Int) × Int) (x : Unit) => match s, x with | ⟨a_3, i_4⟩, _ => [⟨some b_1, 27, [(.int .i16 f0.fSteps), (.slice C_a f0.fHammers.length C_c)]⟩, ⟨(some b_2), 31, row encU32 a_3.1 []⟩, ⟨(some b_3), 31, row encU32 ((Arr.rep 96 0).1) []⟩]) ht_107 () trivial (by kernel_rfl) [0, 1, 2] (by kernel_rfl) (by kernel_rfl) ?_
   rintro ⟨a_3, i_4⟩ _ y_97 _ h
   rw [impl_makeChanges.l_5] at h
   refine jc_seq (jc_region (qh [0] (qe (jx_then (jc_seq (qi h (fun h => ?_) (fun h => ?_)))))))
   ·refine jc_skip (jx_then (jc_seq (jc_block (jc_seq (jc_region (qh [0] ?_))))))
    obtain ⟨x_7, hx_100, h⟩ := bd h
    refine tO (qx 0 E_a 3 hx_100 rfl (E_h.sp hx_100) (jkO (tO (ql 0 true (fun w hm => ((hm.xr E_h).at hx_100)) (jkO (tO (qa 0 (fun b_101 => jkO (qh [0] (tO (qs 0 [3] (jkO (qe (jx_then (jc_seq (jc_region (qh [0] (tO (p_ldA 0 1 b_2 96 1 31 encU32 a_3 (by kernel_rfl) (by kernel_rfl) (by kernel_rfl) encU32_len (by kernel_rfl) (jkO (qh [0,3,0,0,3,0,0,3] ?_)))))))))))))))))))))
    obtain ⟨t_8, ht_102, h⟩ := bd h
    refine tO (pc 0 (fun w hm => impl_withPut.calls f0 a_3 (w64 x_7.fStep) (w64 x_7.fTrack) x_7.fPut w _ C_c (hm.xr C_h) rfl ht_102) ?_)
    rintro w v w' hm ⟨rfl, hm'⟩
    refine ⟨_, hm.app hm', jkO ?_⟩
    clear hm hm'
    refine qh [0,0,0] (tO (qa 0 (fun b_103 => jkO (tO (p_sA 0 4 b_103 96 1 31 encU32 (Arr.rep 96 0) t_8.1 (by kernel_rfl) (by kernel_rfl) (by kernel_rfl) encU32_len encU32_cell (by kernel_rfl) (jkO (qh [0] (qe (jx_then (jc_seq (jc_seq (jc_region (qh [0,0] (qe (jx_then (qi h (fun h => ?_) (fun h => ?_)))))))))))))))))
    ·refine jc_seq (jc_region (qh [0,0,0] (tO (p_sA 0 2 b_3 96 1 31 encU32 (Arr.rep 96 0) (Arr.rep 96 0) (by kernel_rfl) (by kernel_rfl) (by kernel_rfl) encU32_len encU32_cell (by kernel_rfl) (jkO (qh [0,0] (qe (jx_then (jc_ret (jx_thenr (jx_inr (jx_thenr (jx_leaver (.inl ((Arr.rep 96 0), i_4, t_8.2)) (Option.some.inj h).symm (fun e_105 => ?_))))))))))))))
     subst e_105
     refine jx_inr (jx_thenr (jx_thenr ?_))
     obtain rfl := Option.some.inj hr_96
     exact jx_retV rfl (rq_arr (b := b_3) (T' := 31) (hh := 2) (mm := 1) encU32 (Arr.rep 96 0) (by kernel_rfl) (by kernel_rfl) encU32_len (by kernel_rfl) (rq_tmp (by kernel_rfl) (rq_tmp (by kernel_rfl) rq_nil))) (fun w hm => ⟨rfl, hm.pk []⟩)
    ·exact jc_skip (jx_then (jc_region (tO (p_ldA 0 4 b_103 96 1 31 encU32 t_8.1 (by kernel_rfl) (by kernel_rfl) (by kernel_rfl) encU32_len (by kernel_rfl) (jkO (tO (p_sA 0 1 b_2 96 1 31 encU32 a_3 t_8.1 (by kernel_rfl) (by kernel_rfl) (by kernel_rfl) encU32_len encU32_cell (by kernel_rfl) (jkO (qe (jx_inn (jx_then (jc_region (qh [0,0] (qe (qb (t_8.1, (w64 (i_4 + 1))) () h trivial [0, 1, 2])))))))))))))))
   ·refine jc_exit (jx_thenx (jx_leave (.inr a_3) (Option.some.inj h).symm (fun e_106 => ?_)))
    subst e_106
    exact jx_ine (qm a_3 hr_96 [0, 1, 2])
  ·rintro a_1 h
   replace h : impl_makeChanges.k_2 a_1 = some r := h
   rw [impl_makeChanges.k_2] at h
   refine jx_then (jc_seq (jc_region (tO (p_ldA 0 1 b_2 96 1 31 encU32 a_1 (by kernel_rfl) (by kernel_rfl) (by kernel_rfl) encU32_len (by kernel_rfl) (jkO (tO (p_sA 0 2 b_3 96 1 31 encU32 (Arr.rep 96 0) a_1 (by kernel_rfl) (by kernel_rfl) (by kernel_rfl) encU32_len encU32_cell (by kernel_rfl) (jkO (qh [0,0] (qe (jx_then (jc_ret ?_))))))))))))
   obtain rfl := Option.some.inj h
   exact jx_retV rfl (rq_arr (b := b_3) (T' := 31) (hh := 2) (mm := 1) encU32 a_1 (by kernel_rfl) (by kernel_rfl) encU32_len (by kernel_rfl) (rq_tmp (by kernel_rfl) (rq_tmp (by kernel_rfl) rq_nil))) (fun w hm => ⟨rfl, hm.pk []⟩)
end

end Go.Proofs.YtgmmeokkgcbkdaaGreatDoor
