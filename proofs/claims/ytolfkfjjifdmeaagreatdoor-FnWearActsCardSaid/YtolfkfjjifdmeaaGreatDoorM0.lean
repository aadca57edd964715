/- Functions of the program that the laws reach: a plain function each, and that the call comes to its answer if the plain function has one. Printed by a program. -/
import Derived.Test.YtolfkfjjifdmeaaGreatDoorT
namespace Go.Proofs.YtolfkfjjifdmeaaGreatDoor
open Eng
set_option linter.unusedVariables false

set_option linter.unusedSectionVars false
set_option maxRecDepth 100000
variable [dsW : DrwS]
noncomputable section
/-! ### laws.f6big -/
def laws_f6big (code0 : List Int) : Option (Bool) := some (decide ((code0.length : Int) > 4096))
theorem laws_f6big.calls (code0 : List Int) (w : World) (r : Bool) {A_a : Option Addr} {A_an : Nat} (A_c : Nat) (A_h : Rw w A_a 1 encU8 code0) (A_hn : code0.length = A_an) (h : laws_f6big code0 = some r) :
    Calls Tryz.prog 5 #[(.slice A_a A_an A_c)] w fun e w' => ∃ v, e = .returned v ∧ (v = (.bool r) ∧ Mem w [] [] w') := by
  subst A_hn
  rw [laws_f6big] at h
  refine enter (args := [(.slice A_a code0.length A_c)]) Tryz.func5 rfl Tryz.ntmps5 (by kernel_rfl) (L := []) (W := []) (Mem.start w) ?_
  refine jc_seq (jc_region (qh [0] (qe (jx_then (jc_seq (jc_region (qh [0,0,0,0] (qe (jx_then (jc_ret ?_))))))))))
  obtain rfl := Option.some.inj h
  exact qr [] (fun w hm => ⟨rfl, hm.pk []⟩)
/-! ### spec.l00From -/
def spec_l00From (code0 : List Int) : Option (Gl00Src) := some (⟨code0, 0, 0⟩ : Gl00Src)
theorem spec_l00From.calls (code0 : List Int) (w : World) (r : Gl00Src) {A_a : Option Addr} {A_an : Nat} (A_c : Nat) (A_h : Rw w A_a 1 encU8 code0) (A_hn : code0.length = A_an) (h : spec_l00From code0 = some r) :
    Calls Tryz.prog 44 #[(.slice A_a A_an A_c)] w fun e w' => ∃ v, e = .returned v ∧ (∃ (pb0 : Nat), v = .pointer (some ⟨pb0, 0, none⟩) ∧ Mem w [] [⟨some pb0, 187, [(.slice A_a A_an A_c), (.int .i64 r.fat), (.int .u64 r.fseed)]⟩] w') := by
  subst A_hn
  rw [spec_l00From] at h
  refine enter (args := [(.slice A_a code0.length A_c)]) Tryz.func44 rfl Tryz.ntmps44 (by kernel_rfl) (L := []) (W := []) (Mem.start w) ?_
  refine jc_seq (jc_region (qh [0] (qe (jx_then (jc_seq (jc_region (qh [0,0] (tO (qa 0 (fun b_1 => jkO (qh [0] (qe (jx_then (jc_ret ?_))))))))))))))
  obtain rfl := Option.some.inj h
  exact qr [] (fun w hm => ⟨b_1, rfl, hm.pk [0]⟩)
/-! ### (*spec.l00Src).next -/
def spec_l00Src_next.k_2 (s0 : Gl00Src) (i_1 : Int) : Option (Int × Gl00Src) := (if (decide ((w64 (s0.fat + 1)) ≤ (s0.fcode.length : Int))) = true then some (i_1, (⟨s0.fcode, (w64 (s0.fat + 1)), (u64 ((u64 ((u64 (s0.fseed * 6364136223846793005)) + (u64 i_1))) + 1442695040888963407))⟩ : Gl00Src)) else some ((w64 (bAnd .u64 (bShr .u64 (u64 ((u64 ((u64 (s0.fseed * 6364136223846793005)) + (u64 i_1))) + 1442695040888963407)) 40) 255)), (⟨s0.fcode, (w64 (s0.fat + 1)), (u64 ((u64 ((u64 (s0.fseed * 6364136223846793005)) + (u64 i_1))) + 1442695040888963407))⟩ : Gl00Src)))
def spec_l00Src_next (s0 : Gl00Src) : Option (Int × Gl00Src) := (if (decide (s0.fat < (s0.fcode.length : Int))) = true then (ix s0.fcode s0.fat).bind fun x_3 => spec_l00Src_next.k_2 s0 (w64 x_3) else spec_l00Src_next.k_2 s0 0)
theorem spec_l00Src_next.calls (s0 : Gl00Src) (w : World) (r : Int × Gl00Src) {B_a : Option Addr} {B_an : Nat} (B_c : Nat) (B_h : Rw w B_a 1 encU8 s0.fcode) (B_hn : s0.fcode.length = B_an) (A_b : Nat) (hm0 : Mem w (bs [some A_b]) [⟨some A_b, 187, [(.slice B_a B_an B_c), (.int .i64 s0.fat), (.int .u64 s0.fseed)]⟩] w) (B_ha : s0.fcode ≠ [] → aB B_a ∉ bs [some A_b]) (h : spec_l00Src_next s0 = some r) :
    Calls Tryz.prog 119 #[(.pointer (some ⟨A_b, 0, none⟩))] w fun e w' => ∃ v, e = .returned v ∧ (v = (.int .i64 r.1) ∧ Mem w (bs [some A_b]) [⟨some A_b, 187, [(.slice B_a B_an B_c), (.int .i64 r.2.fat), (.int .u64 r.2.fseed)]⟩] w') := by
  subst B_hn
  rw [spec_l00Src_next] at h
  refine enter (args := [(.pointer (some ⟨A_b, 0, none⟩))]) Tryz.func119 rfl Tryz.ntmps119 (by kernel_rfl) (L := [⟨some A_b, 187, [(.slice B_a s0.fcode.length B_c), (.int .i64 s0.fat), (.int .u64 s0.fseed)]⟩]) (W := bs [some A_b]) hm0 ?_
  refine jc_seq (jc_region (qh [0] (qe (jx_then (jc_seq (jc_region (qh [0] (qe (jx_then (jc_seq (jc_meet (fun (j : Int) => match j with | i_1 => spec_l00Src_next.k_2 s0 i_1 = some r) (fun (j : Int) => match j with | i_1 => [(0, [], (.pointer (some ⟨A_b, 0, none⟩))), (2, [], (.int .i64 0)), (3, [], (.int .i64 i_1))]) (fun (j : Int) => match j with | i_1 => [⟨some A_b, 187, [(.slice B_a s0.fcode.length B_c), (.int .i64 s0.fat), (.int .u64 s0.fseed)]⟩]) ?_ ?_)))))))))))
  ·refine jc_seq (qg [⟨some A_b, 187, [(.slice B_a s0.fcode.length B_c), (.int .i64 s0.fat), (.int .u64 s0.fseed)]⟩] 10 (qd [⟨0, 0, 0⟩,⟨1, 0, 0⟩,⟨2, 0, 0⟩,⟨3, 0, 0⟩,⟨4, 0, 0⟩,⟨5, 0, 0⟩,⟨6, 0, 0⟩,⟨7, 0, 0⟩,⟨8, 0, 0⟩,⟨9, 0, 0⟩] 0 [0] (qz (jx_then (qi h (fun h => ?_) (fun h => ?_))))))
   ·refine qg [⟨some A_b, 187, [(.slice B_a s0.fcode.length B_c), (.int .i64 s0.fat), (.int .u64 s0.fseed)]⟩] 12 (qd [⟨0, 0, 0⟩,⟨1, 0, 0⟩,⟨2, 0, 0⟩,⟨3, 0, 0⟩,⟨4, 0, 0⟩,⟨5, 0, 0⟩,⟨6, 0, 0⟩,⟨7, 0, 0⟩] 4 [0] ?_)
    obtain ⟨x_3, hx_6, h⟩ := bd h
    exact qv 8 0 [0] (fun w hm => idx_run (a := B_a) (len := s0.fcode.length) (s := 1) (j := s0.fat) (by kernel_rfl) (ix_some hx_6).1 (ltn hx_6 rfl) (B_h.sp hx_6)) (qv 9 0 [0] (fun w hm => ld_run (b := aB B_a) (off := (aO B_a + s0.fat.toNat * 1)) (s := 1) (agg := false) (vs := (encU8 x_3)) (by kernel_rfl) (by kernel_rfl) (.inr rfl) ((hm.exRowW B_h B_ha).at hx_6)) (qd [⟨10, 0, 0⟩,⟨11, 0, 0⟩] 0 [0] (qz (qm (w64 x_3) h [0]))))
   ·exact jc_skip (qm 0 h [0])
  ·rintro i_1 h
   replace h : spec_l00Src_next.k_2 s0 i_1 = some r := h
   rw [spec_l00Src_next.k_2] at h
   refine jx_then (jc_seq (jc_region (qh [0,0,0,0,0,0,0] (tO (qs 0 [0] (jkO (qe (jx_then (jc_seq (jc_region (qh [0,0,0,0,0,0,0,0,0,0,0,0] (tO (qs 0 [0] (jkO (qe (jx_then (jc_seq (jc_seq (qg [⟨some A_b, 187, [(.slice B_a s0.fcode.length B_c), (.int .i64 (w64 (s0.fat + 1))), (.int .u64 (u64 ((u64 ((u64 (s0.fseed * 6364136223846793005)) + (u64 i_1))) + 1442695040888963407)))]⟩] 10 (qd [⟨0, 0, 0⟩,⟨1, 0, 0⟩,⟨2, 0, 0⟩,⟨3, 0, 0⟩,⟨4, 0, 0⟩,⟨5, 0, 0⟩,⟨6, 0, 0⟩,⟨7, 0, 0⟩,⟨8, 0, 0⟩,⟨9, 0, 0⟩] 0 [0] (qz (jx_then (qi h (fun h => ?_) (fun h => ?_))))))))))))))))))))))))
   ·refine jc_seq (jc_region (qh [0,0] (qe (jx_then (jc_ret (jx_thenr ?_))))))
    obtain rfl := Option.some.inj h
    exact qr [] (fun w hm => ⟨rfl, hm.pk [0]⟩)
   ·refine jc_skip (jx_then (jc_seq (jc_region (qh [0,0,0,0,0,0,0,0] (qe (jx_then (jc_ret ?_)))))))
    obtain rfl := Option.some.inj h
    exact qr [] (fun w hm => ⟨rfl, hm.pk [0]⟩)
/-! ### (*spec.l00Src).pick -/
def spec_l00Src_pick.k_5 (s0 : Gl00Src) (n1 : Int) (i_2 : Int) (i_3 : Int) (i_4 : Int) : Option (Int × Gl00Src) := (if n1 ≠ 0 then some ((Int.tmod i_4 n1), (⟨s0.fcode, i_2, i_3⟩ : Gl00Src)) else none)
def spec_l00Src_pick (s0 : Gl00Src) (n1 : Int) : Option (Int × Gl00Src) := (if (decide (n1 ≤ 1)) = true then some (0, s0) else (spec_l00Src_next s0).bind fun t_1 => (if (decide (n1 > 200)) = true then (spec_l00Src_next (⟨s0.fcode, t_1.2.fat, t_1.2.fseed⟩ : Gl00Src)).bind fun t_6 => spec_l00Src_pick.k_5 s0 n1 t_6.2.fat t_6.2.fseed (w64 ((w64 (t_1.1 * 256)) + t_6.1)) else spec_l00Src_pick.k_5 s0 n1 t_1.2.fat t_1.2.fseed t_1.1))
theorem spec_l00Src_pick.calls (s0 : Gl00Src) (n1 : Int) (w : World) (r : Int × Gl00Src) {B_a : Option Addr} {B_an : Nat} (B_c : Nat) (B_h : Rw w B_a 1 encU8 s0.fcode) (B_hn : s0.fcode.length = B_an) (A_b : Nat) (hm0 : Mem w (bs [some A_b]) [⟨some A_b, 187, [(.slice B_a B_an B_c), (.int .i64 s0.fat), (.int .u64 s0.fseed)]⟩] w) (B_ha : s0.fcode ≠ [] → aB B_a ∉ bs [some A_b]) (h : spec_l00Src_pick s0 n1 = some r) :
    Calls Tryz.prog 45 #[(.pointer (some ⟨A_b, 0, none⟩)), (.int .i64 n1)] w fun e w' => ∃ v, e = .returned v ∧ (v = (.int .i64 r.1) ∧ Mem w (bs [some A_b]) [⟨some A_b, 187, [(.slice B_a B_an B_c), (.int .i64 r.2.fat), (.int .u64 r.2.fseed)]⟩] w') := by
  subst B_hn
  rw [spec_l00Src_pick] at h
  refine enter (args := [(.pointer (some ⟨A_b, 0, none⟩)), (.int .i64 n1)]) Tryz.func45 rfl Tryz.ntmps45 (by kernel_rfl) (L := [⟨some A_b, 187, [(.slice B_a s0.fcode.length B_c), (.int .i64 s0.fat), (.int .u64 s0.fseed)]⟩]) (W := bs [some A_b]) hm0 ?_
  refine jc_seq (jc_region (qh [0] (qe (jx_then (jc_seq (jc_seq (jc_region (qh [0,0] (qe (jx_then (qi h (fun h => ?_) (fun h => ?_))))))))))))
  ·refine jc_seq (jc_region (qh [0] (qe (jx_then (jc_ret (jx_thenr ?_))))))
   obtain rfl := Option.some.inj h
   exact qr [] (fun w hm => ⟨rfl, hm.pk [0]⟩)
  ·refine jc_skip (jx_then (jc_seq (jc_region (qh [0] ?_))))
   obtain ⟨t_1, ht_3, h⟩ := bd h
   refine tO (pc 0 (fun w hm => spec_l00Src_next.calls s0 w _ B_c (hm.exRowW B_h B_ha) rfl A_b (hm.pass (N := [⟨some A_b, 187, [(.slice B_a s0.fcode.length B_c), (.int .i64 s0.fat), (.int .u64 s0.fseed)]⟩]) [0] (by kernel_rfl) (by kernel_rfl)) (hm.exApart (N := [⟨some A_b, 187, [(.slice B_a s0.fcode.length B_c), (.int .i64 s0.fat), (.int .u64 s0.fseed)]⟩]) B_h B_ha [0] (by kernel_rfl)) ht_3) ?_)
   rintro w v w' hm ⟨rfl, hm'⟩
   refine ⟨_, hm.appW (ps := [(0, ⟨some A_b, 187, [(.slice B_a s0.fcode.length B_c), (.int .i64 t_1.2.fat), (.int .u64 t_1.2.fseed)]⟩)]) (N := []) hm' (by kernel_rfl) (by kernel_rfl), jkO ?_⟩
   clear hm hm'
   refine qh [0] (qe (jx_then (jc_seq (jc_meet (fun (j : Int × Int × Int) => match j with | ⟨i_2, i_3, i_4⟩ => spec_l00Src_pick.k_5 s0 n1 i_2 i_3 i_4 = some r) (fun (j : Int × Int × Int) => match j with | ⟨i_2, i_3, i_4⟩ => [(1, [], (.int .i64 n1)), (4, [], (.int .i64 0)), (5, [], (.int .i64 i_4))]) (fun (j : Int × Int × Int) => match j with | ⟨i_2, i_3, i_4⟩ => [⟨some A_b, 187, [(.slice B_a s0.fcode.length B_c), (.int .i64 i_2), (.int .u64 i_3)]⟩]) ?_ ?_))))
   ·refine jc_seq (jc_region (qh [0,0] (qe (jx_then (qi h (fun h => ?_) (fun h => ?_))))))
    ·refine jc_region (qh [0,0,0] ?_)
     obtain ⟨t_6, ht_8, h⟩ := bd h
     refine tO (pc 0 (fun w hm => spec_l00Src_next.calls (⟨s0.fcode, t_1.2.fat, t_1.2.fseed⟩ : Gl00Src) w _ B_c (hm.exRowW B_h B_ha) rfl A_b (hm.pass (N := [⟨some A_b, 187, [(.slice B_a s0.fcode.length B_c), (.int .i64 t_1.2.fat), (.int .u64 t_1.2.fseed)]⟩]) [0] (by kernel_rfl) (by kernel_rfl)) (hm.exApart (N := [⟨some A_b, 187, [(.slice B_a s0.fcode.length B_c), (.int .i64 t_1.2.fat), (.int .u64 t_1.2.fseed)]⟩]) B_h B_ha [0] (by kernel_rfl)) ht_8) ?_)
     rintro w v w' hm ⟨rfl, hm'⟩
     refine ⟨_, hm.appW (ps := [(0, ⟨some A_b, 187, [(.slice B_a s0.fcode.length B_c), (.int .i64 t_6.2.fat), (.int .u64 t_6.2.fseed)]⟩)]) (N := []) hm' (by kernel_rfl) (by kernel_rfl), jkO ?_⟩
     clear hm hm'
     exact qh [0,0] (qe (qm ⟨t_6.2.fat, t_6.2.fseed, (w64 ((w64 (t_1.1 * 256)) + t_6.1))⟩ h [0]))
    ·exact jc_skip (qm ⟨t_1.2.fat, t_1.2.fseed, t_1.1⟩ h [0])
   ·rintro ⟨i_2, i_3, i_4⟩ h
    replace h : spec_l00Src_pick.k_5 s0 n1 i_2 i_3 i_4 = some r := h
    rw [spec_l00Src_pick.k_5] at h
    refine jx_then (jc_seq (jc_region (qh [0,0] ?_)))
    obtain ⟨hg_6, h⟩ := gd h
    refine tO (p_rem 0 .i64 i_4 n1 (by kernel_rfl) (by kernel_rfl) hg_6 (jkO (qh [0] (qe (jx_then (jc_ret ?_))))))
    obtain rfl := Option.some.inj h
    exact qr [] (fun w hm => ⟨rfl, hm.pk [0]⟩)
/-! ### spec.l02FrameDrawn -/
def spec_l02FrameDrawn.k_6 (s0 : Gl00Src) (t_1 : Int × Gl00Src) (i_3 : Int) (i_4 : Int) (xs_5 : List GHammer) : Option (GFrame × Gl00Src) := some ((⟨(w16 (w64 (4 + t_1.1))), xs_5⟩ : GFrame), (⟨s0.fcode, i_3, i_4⟩ : Gl00Src))
def spec_l02FrameDrawn.l_11 (s0 : Gl00Src) : (Int × Int × (List GHammer) × Int) → Option ((Int × Int × (List GHammer) × Int) ⊕ ((Int × Int × (List GHammer))))
  | (i_7, i_8, xs_9, i_10) => (if (decide (i_10 > 0)) = true then (spec_l00Src_pick (⟨s0.fcode, i_7, i_8⟩ : Gl00Src) 4).bind fun t_13 => (spec_l00Src_pick (⟨s0.fcode, t_13.2.fat, t_13.2.fseed⟩ : Gl00Src) 4).bind fun t_14 => (if xs_9.length + ([(⟨(w8 (w64 (22 + t_13.1))), (w8 (w64 (1 + t_14.1)))⟩ : GHammer)] : List GHammer).length ≤ 4294967296 then some (.inl (t_14.2.fat, t_14.2.fseed, (xs_9 ++ ([(⟨(w8 (w64 (22 + t_13.1))), (w8 (w64 (1 + t_14.1)))⟩ : GHammer)] : List GHammer)), (w64 (i_10 - 1)))) else none) else some (.inr (i_7, i_8, xs_9)))
def spec_l02FrameDrawn (s0 : Gl00Src) : Option (GFrame × Gl00Src) := (spec_l00Src_pick s0 14).bind fun t_1 => (spec_l00Src_pick (⟨s0.fcode, t_1.2.fat, t_1.2.fseed⟩ : Gl00Src) 5).bind fun t_2 => (loop (spec_l02FrameDrawn.l_11 s0) (t_2.2.fat, t_2.2.fseed, [], (w64 (1 + t_2.1)))).bind fun t_12 => spec_l02FrameDrawn.k_6 s0 t_1 t_12.1 t_12.2.1 t_12.2.2
theorem spec_l02FrameDrawn.calls (s0 : Gl00Src) (w : World) (r : GFrame × Gl00Src) {B_a : Option Addr} {B_an : Nat} (B_c : Nat) (B_h : Rw w B_a 1 encU8 s0.fcode) (B_hn : s0.fcode.length = B_an) (A_b : Nat) (hm0 : Mem w (bs [some A_b]) [⟨some A_b, 187, [(.slice B_a B_an B_c), (.int .i64 s0.fat), (.int .u64 s0.fseed)]⟩] w) (B_ha : s0.fcode ≠ [] → aB B_a ∉ bs [some A_b]) (h : spec_l02FrameDrawn s0 = some r) :
    Calls Tryz.prog 43 #[(.pointer (some ⟨A_b, 0, none⟩))] w fun e w' => ∃ v, e = .returned v ∧ (∃ (o0 : Option Nat) (c0 : Nat) (s0 : List Value) (n0 : Nat), r.1.fHammers.length = n0 ∧ (o0 ≠ none → n0 ≤ c0 ∧ s0.length = (c0 - n0) * 2) ∧ (o0 = none → r.1.fHammers = [] ∧ c0 = 0) ∧ v = .agg #[(.int .i16 r.1.fSteps), .slice (o0.map fun b => ⟨b, 0, none⟩) n0 c0] ∧ Mem w (bs [some A_b]) [⟨some A_b, 187, [(.slice B_a B_an B_c), (.int .i64 r.2.fat), (.int .u64 r.2.fseed)]⟩, ⟨o0, 89, row encGHammer r.1.fHammers s0⟩] w') := by
  subst B_hn
  rw [spec_l02FrameDrawn] at h
  refine enter (args := [(.pointer (some ⟨A_b, 0, none⟩))]) Tryz.func43 rfl Tryz.ntmps43 (by kernel_rfl) (L := [⟨some A_b, 187, [(.slice B_a s0.fcode.length B_c), (.int .i64 s0.fat), (.int .u64 s0.fseed)]⟩]) (W := bs [some A_b]) hm0 ?_
  refine jc_seq (jc_region (tO (qa 0 (fun b_1 => jkO (qe (jx_then (jc_seq (jc_region (qh [0] ?_)))))))))
  obtain ⟨t_1, ht_2, h⟩ := bd h
  refine tO (pc 0 (fun w hm => spec_l00Src_pick.calls s0 14 w _ B_c (hm.exRowW B_h B_ha) rfl A_b (hm.pass (N := [⟨some A_b, 187, [(.slice B_a s0.fcode.length B_c), (.int .i64 s0.fat), (.int .u64 s0.fseed)]⟩]) [0] (by kernel_rfl) (by kernel_rfl)) (hm.exApart (N := [⟨some A_b, 187, [(.slice B_a s0.fcode.length B_c), (.int .i64 s0.fat), (.int .u64 s0.fseed)]⟩]) B_h B_ha [0] (by kernel_rfl)) ht_2) ?_)
  rintro w v w' hm ⟨rfl, hm'⟩
  refine ⟨_, hm.appW (ps := [(0, ⟨some A_b, 187, [(.slice B_a s0.fcode.length B_c), (.int .i64 t_1.2.fat), (.int .u64 t_1.2.fseed)]⟩)]) (N := []) hm' (by kernel_rfl) (by kernel_rfl), jkO ?_⟩
  clear hm hm'
  refine qh [0,0,0] (tO (qa 0 (fun b_3 => jkO (tO (qs 0 [2] (jkO (qe (jx_then (jc_seq (jc_seq (jc_region (qh [0] ?_))))))))))))
  obtain ⟨t_2, ht_115, h⟩ := bd h
  refine tO (pc 0 (fun w hm => spec_l00Src_pick.calls (⟨s0.fcode, t_1.2.fat, t_1.2.fseed⟩ : Gl00Src) 5 w _ B_c (hm.exRowW B_h B_ha) rfl A_b (hm.pass (N := [⟨some A_b, 187, [(.slice B_a s0.fcode.length B_c), (.int .i64 t_1.2.fat), (.int .u64 t_1.2.fseed)]⟩]) [0] (by kernel_rfl) (by kernel_rfl)) (hm.exApart (N := [⟨some A_b, 187, [(.slice B_a s0.fcode.length B_c), (.int .i64 t_1.2.fat), (.int .u64 t_1.2.fseed)]⟩]) B_h B_ha [0] (by kernel_rfl)) ht_115) ?_)
  rintro w v w' hm ⟨rfl, hm'⟩
  refine ⟨_, hm.appW (ps := [(0, ⟨some A_b, 187, [(.slice B_a s0.fcode.length B_c), (.int .i64 t_2.2.fat), (.int .u64 t_2.2.fseed)]⟩)]) (N := []) hm' (by kernel_rfl) (by kernel_rfl), jkO ?_⟩
  clear hm hm'
  refine qh [0,0] (qe (jx_then (jc_meet (fun (j : Int × Int × (List GHammer) × (Option Nat) × Nat × (List Value) × Nat) => match j with | ⟨i_3, i_4, xs_5, o_168, cap_169, sp_170, n_171⟩ => spec_l02FrameDrawn.k_6 s0 t_1 i_3 i_4 xs_5 = some r ∧ (xs_5.length = n_171) ∧ ((o_168 ≠ none → n_171 ≤ cap_169 ∧ sp_170.length = (cap_169 - n_171) * 2)) ∧ ((o_168 = none → xs_5 = [] ∧ cap_169 = 0))) (fun (j : Int × Int × (List GHammer) × (Option Nat) × Nat × (List Value) × Nat) => match j with | ⟨i_3, i_4, xs_5, o_168, cap_169, sp_170, n_171⟩ => [(2, [], (.pointer (some ⟨b_1, 0, none⟩))), (3, [], (.pointer (some ⟨b_3, 0, none⟩)))]) (fun (j : Int × Int × (List GHammer) × (Option Nat) × Nat × (List Value) × Nat) => match j with | ⟨i_3, i_4, xs_5, o_168, cap_169, sp_170, n_171⟩ => [⟨some A_b, 187, [(.slice B_a s0.fcode.length B_c), (.int .i64 i_3), (.int .u64 i_4)]⟩, ⟨some b_1, 27, [(.int .i16 0), (.slice none 0 0)]⟩, ⟨some b_3, 27, [(.int .i16 (w16 (w64 (4 + t_1.1)))), (.slice (o_168.map fun b => ⟨b, 0, none⟩) n_171 cap_169)]⟩, ⟨o_168, 89, row encGHammer xs_5 sp_170⟩]) ?_ ?_)))
  ·refine jc_block ?_
   obtain ⟨t_12, ht_225, hr_210⟩ := bd h
   refine jc_ghost 89 encGHammer (jc_loop (fun (s : Int × Int × (List GHammer) × Int) (x : (Option Nat) × Nat × (List Value) × Nat) => match s, x with | ⟨i_7, i_8, xs_9, i_10⟩, ⟨o_204, cap_205, sp_206, n_207⟩ => (xs_9.length = n_207) ∧ ((o_204 ≠ none → n_207 ≤ cap_205 ∧ sp_206.length = (cap_205 - n_207) * 2)) ∧ ((o_204 = none → xs_9 = [] ∧ cap_205 = 0))) (fun (s : Int × Int × (List GHammer) × Int) (x : (Option Nat) × Nat × (List Value) × Nat) => match s, x with | ⟨i_7, i_8, xs_9, i_10⟩, ⟨o_204, cap_205, sp_206, n_207⟩ => [(0, [], (.pointer (some ⟨A_b, 0, none⟩))), (2, [], (.pointer (some ⟨b_1, 0, none⟩))), (3, [], (.pointer (some ⟨b_3, 0, none⟩))), (4, [], (.int .i64 i_10))]) (fun (s : Int × Int × (List GHammer) × Int) (x : (Option Nat) × Nat × (List Value) × Nat) => match s, x with | ⟨i_7, i_8, xs_9, i_10⟩, ⟨o_204, cap_205, sp_206, n_207⟩ => [⟨some A_b, 187, [(.slice B_a s0.fcode.length B_c), (.int .i64 i_7), (.int .u64 i_8)]⟩, ⟨some b_1, 27, [(.int .i16 0), (.slice none 0 0)]⟩, ⟨some b_3, 27, [(.int .i16 (w16 (w64 (4 + t_1.1)))), (.slice (o_204.map fun b => ⟨b, 0, none⟩) n_207 cap_205)]⟩, ⟨o_204, 89, row encGHammer xs_9 sp_206⟩]) ht_225 ⟨none, 0, [], 0⟩ ⟨rfl, (fun e => absurd rfl e), (fun _ => ⟨rfl, rfl⟩)⟩ (by kernel_rfl) [0, 1, 2, 3] (by kernel_rfl) (by kernel_rfl) ?_)
   rintro ⟨i_7, i_8, xs_9, i_10⟩ ⟨o_204, cap_205, sp_206, n_207⟩ y_211 ⟨rfl, hs_208, ho_209⟩ h
   rw [spec_l02FrameDrawn.l_11] at h
   refine jc_seq (jc_seq (jc_region (qh [0,0] (qe (jx_then (qi h (fun h => ?_) (fun h => ?_)))))))
   ·refine jc_skip (jx_then (jc_seq (jc_block (jc_seq (jc_region (qh [0] ?_))))))
    obtain ⟨t_13, ht_214, h⟩ := bd h
    refine tO (pc 0 (fun w hm => spec_l00Src_pick.calls (⟨s0.fcode, i_7, i_8⟩ : Gl00Src) 4 w _ B_c (hm.exRowW B_h B_ha) rfl A_b (hm.pass (N := [⟨some A_b, 187, [(.slice B_a s0.fcode.length B_c), (.int .i64 i_7), (.int .u64 i_8)]⟩]) [0] (by kernel_rfl) (by kernel_rfl)) (hm.exApart (N := [⟨some A_b, 187, [(.slice B_a s0.fcode.length B_c), (.int .i64 i_7), (.int .u64 i_8)]⟩]) B_h B_ha [0] (by kernel_rfl)) ht_214) ?_)
    rintro w v w' hm ⟨rfl, hm'⟩
    refine ⟨_, hm.appW (ps := [(0, ⟨some A_b, 187, [(.slice B_a s0.fcode.length B_c), (.int .i64 t_13.2.fat), (.int .u64 t_13.2.fseed)]⟩)]) (N := []) hm' (by kernel_rfl) (by kernel_rfl), jkO ?_⟩
    clear hm hm'
    refine qh [0,0,0] (tO (qa 0 (fun b_215 => jkO (tO (qs 0 [4] (jkO (qe (jx_then (jc_seq (jc_region (qh [0] ?_)))))))))))
    obtain ⟨t_14, ht_216, h⟩ := bd h
    refine tO (pc 0 (fun w hm => spec_l00Src_pick.calls (⟨s0.fcode, t_13.2.fat, t_13.2.fseed⟩ : Gl00Src) 4 w _ B_c (hm.exRowW B_h B_ha) rfl A_b (hm.pass (N := [⟨some A_b, 187, [(.slice B_a s0.fcode.length B_c), (.int .i64 t_13.2.fat), (.int .u64 t_13.2.fseed)]⟩]) [0] (by kernel_rfl) (by kernel_rfl)) (hm.exApart (N := [⟨some A_b, 187, [(.slice B_a s0.fcode.length B_c), (.int .i64 t_13.2.fat), (.int .u64 t_13.2.fseed)]⟩]) B_h B_ha [0] (by kernel_rfl)) ht_216) ?_)
    rintro w v w' hm ⟨rfl, hm'⟩
    refine ⟨_, hm.appW (ps := [(0, ⟨some A_b, 187, [(.slice B_a s0.fcode.length B_c), (.int .i64 t_14.2.fat), (.int .u64 t_14.2.fseed)]⟩)]) (N := []) hm' (by kernel_rfl) (by kernel_rfl), jkO ?_⟩
    clear hm hm'
    refine qh [0,0,0] (tO (qs 0 [4] (jkO (qe (jx_then (jc_region (qh [0,2,4] (tO (qa 0 (fun b_217 => jkO ?_))))))))))
    obtain ⟨hg_218, h⟩ := gd h
    exact tO (p_apn 0 3 o_204 89 xs_9.length 1 cap_205 2 2 (some ⟨b_217, 0, none⟩) encGHammer xs_9 ([(⟨(w8 (w64 (22 + t_13.1))), (w8 (w64 (1 + t_14.1)))⟩ : GHammer)] : List GHammer) sp_206 (.agg #[(.int .i8 0), (.int .i8 0)]) rfl rfl (by kernel_rfl) (by kernel_rfl) (by kernel_rfl) encGHammer_len encGHammer_cell hs_208 ho_209 (fun w hm => (hm.ow 5 (some b_217) 89 ([(⟨(w8 (w64 (22 + t_13.1))), (w8 (w64 (1 + t_14.1)))⟩ : GHammer)] : List GHammer) [] (fun e => nomatch e) encGHammer_len)) hg_218 (by kernel_rfl) (by kernel_rfl) (fun o_219 cap_220 sp_221 hs_222 ho_223 => jkO (qh [0] (tO (qs 0 [2] (jkO (qe (jx_inn (jx_then (jc_region (qh [0,0,0] (qe (qb (t_14.2.fat, t_14.2.fseed, (xs_9 ++ ([(⟨(w8 (w64 (22 + t_13.1))), (w8 (w64 (1 + t_14.1)))⟩ : GHammer)] : List GHammer)), (w64 (i_10 - 1))) ⟨o_219, cap_220, sp_221, (xs_9 ++ ([(⟨(w8 (w64 (22 + t_13.1))), (w8 (w64 (1 + t_14.1)))⟩ : GHammer)] : List GHammer)).length⟩ h ⟨rfl, hs_222, ho_223⟩ [0, 1, 2, 3])))))))))))))
   ·refine jc_exit (jx_thenx (jx_leave (i_7, i_8, xs_9) (Option.some.inj h).symm (fun e_224 => ?_)))
    subst e_224
    exact jx_ine (qm ⟨i_7, i_8, xs_9, o_204, cap_205, sp_206, xs_9.length⟩ ⟨hr_210, rfl, hs_208, ho_209⟩ [0, 1, 2, 3])
  ·rintro ⟨i_3, i_4, xs_5, o_168, cap_169, sp_170, n_171⟩ ⟨h, rfl, hs_172, ho_173⟩
   replace h : spec_l02FrameDrawn.k_6 s0 t_1 i_3 i_4 xs_5 = some r := h
   rw [spec_l02FrameDrawn.k_6] at h
   refine jx_then (jc_seq (jc_region (qh [2] (tO (qs 0 [1] (jkO (qe (jx_then (jc_ret ?_)))))))))
   obtain rfl := Option.some.inj h
   exact qr [1] (fun w hm => ⟨o_168, cap_169, sp_170, xs_5.length, rfl, hs_172, ho_173, rfl, hm.pk [0, 3]⟩)
/-! ### spec.P6Frame -/
def spec_P6Frame (code0 : List Int) : Option (GFrame) := (spec_l00From code0).bind fun t_1 => (spec_l02FrameDrawn (⟨code0, t_1.fat, t_1.fseed⟩ : Gl00Src)).bind fun t_2 => some t_2.1
theorem spec_P6Frame.calls (code0 : List Int) (w : World) (r : GFrame) {A_a : Option Addr} {A_an : Nat} (A_c : Nat) (A_h : Rw w A_a 1 encU8 code0) (A_hn : code0.length = A_an) (h : spec_P6Frame code0 = some r) :
    Calls Tryz.prog 6 #[(.slice A_a A_an A_c)] w fun e w' => ∃ v, e = .returned v ∧ (∃ (o0 : Option Nat) (c0 : Nat) (s0 : List Value) (n0 : Nat), r.fHammers.length = n0 ∧ (o0 ≠ none → n0 ≤ c0 ∧ s0.length = (c0 - n0) * 2) ∧ (o0 = none → r.fHammers = [] ∧ c0 = 0) ∧ v = .agg #[(.int .i16 r.fSteps), .slice (o0.map fun b => ⟨b, 0, none⟩) n0 c0] ∧ Mem w [] [⟨o0, 89, row encGHammer r.fHammers s0⟩] w') := by
  subst A_hn
  rw [spec_P6Frame] at h
  refine enter (args := [(.slice A_a code0.length A_c)]) Tryz.func6 rfl Tryz.ntmps6 (by kernel_rfl) (L := []) (W := []) (Mem.start w) ?_
  refine jc_seq (jc_region (tO (qa 0 (fun b_1 => jkO (qe (jx_then (jc_seq (jc_region (qh [0] ?_)))))))))
  obtain ⟨t_1, ht_2, h⟩ := bd h
  refine tO (pc 0 (fun w hm => spec_l00From.calls code0 w _ A_c (hm.xr A_h) rfl ht_2) ?_)
  rintro w v w' hm ⟨b_3, rfl, hm'⟩
  refine ⟨_, hm.app hm', jkO ?_⟩
  clear hm hm'
  obtain ⟨t_2, ht_4, h⟩ := bd h
  refine tO (pc 0 (fun w hm => spec_l02FrameDrawn.calls (⟨code0, t_1.fat, t_1.fseed⟩ : Gl00Src) w _ A_c (hm.xr A_h) rfl b_3 (hm.pass (N := [⟨some b_3, 187, [(.slice A_a code0.length A_c), (.int .i64 t_1.fat), (.int .u64 t_1.fseed)]⟩]) [1] (by kernel_rfl) (by kernel_rfl)) (hm.exApart (N := [⟨some b_3, 187, [(.slice A_a code0.length A_c), (.int .i64 t_1.fat), (.int .u64 t_1.fseed)]⟩]) A_h (fun _ => List.not_mem_nil) [1] (by kernel_rfl)) ht_4) ?_)
  rintro w v w' hm ⟨o_5, cap_6, sp_7, _, rfl, hs_8, ho_9, rfl, hm'⟩
  refine ⟨_, hm.appW (ps := [(1, ⟨some b_3, 187, [(.slice A_a code0.length A_c), (.int .i64 t_2.2.fat), (.int .u64 t_2.2.fseed)]⟩)]) (N := [⟨o_5, 89, row encGHammer t_2.1.fHammers sp_7⟩]) hm' (by kernel_rfl) (by kernel_rfl), jkO ?_⟩
  clear hm hm'
  refine tO (qs 0 [0] (jkO (qe (jx_then (jc_ret ?_)))))
  obtain rfl := Option.some.inj h
  exact qr [0] (fun w hm => ⟨o_5, cap_6, sp_7, t_2.1.fHammers.length, rfl, hs_8, ho_9, rfl, hm.pk [2]⟩)
/-! ### (*spec.l00Src).one -/
def spec_l00Src_one (s0 : Gl00Src) (n1 : Int) : Option (Bool × Gl00Src) := (spec_l00Src_pick s0 n1).bind fun t_1 => some ((t_1.1 == 0), (⟨s0.fcode, t_1.2.fat, t_1.2.fseed⟩ : Gl00Src))
theorem spec_l00Src_one.calls (s0 : Gl00Src) (n1 : Int) (w : World) (r : Bool × Gl00Src) {B_a : Option Addr} {B_an : Nat} (B_c : Nat) (B_h : Rw w B_a 1 encU8 s0.fcode) (B_hn : s0.fcode.length = B_an) (A_b : Nat) (hm0 : Mem w (bs [some A_b]) [⟨some A_b, 187, [(.slice B_a B_an B_c), (.int .i64 s0.fat), (.int .u64 s0.fseed)]⟩] w) (B_ha : s0.fcode ≠ [] → aB B_a ∉ bs [some A_b]) (h : spec_l00Src_one s0 n1 = some r) :
    Calls Tryz.prog 121 #[(.pointer (some ⟨A_b, 0, none⟩)), (.int .i64 n1)] w fun e w' => ∃ v, e = .returned v ∧ (v = (.bool r.1) ∧ Mem w (bs [some A_b]) [⟨some A_b, 187, [(.slice B_a B_an B_c), (.int .i64 r.2.fat), (.int .u64 r.2.fseed)]⟩] w') := by
  subst B_hn
  rw [spec_l00Src_one] at h
  refine enter (args := [(.pointer (some ⟨A_b, 0, none⟩)), (.int .i64 n1)]) Tryz.func121 rfl Tryz.ntmps121 (by kernel_rfl) (L := [⟨some A_b, 187, [(.slice B_a s0.fcode.length B_c), (.int .i64 s0.fat), (.int .u64 s0.fseed)]⟩]) (W := bs [some A_b]) hm0 ?_
  refine jc_seq (jc_region (qh [0] (qe (jx_then (jc_seq (jc_region (qh [0,0] ?_)))))))
  obtain ⟨t_1, ht_1, h⟩ := bd h
  refine tO (pc 0 (fun w hm => spec_l00Src_pick.calls s0 n1 w _ B_c (hm.exRowW B_h B_ha) rfl A_b (hm.pass (N := [⟨some A_b, 187, [(.slice B_a s0.fcode.length B_c), (.int .i64 s0.fat), (.int .u64 s0.fseed)]⟩]) [0] (by kernel_rfl) (by kernel_rfl)) (hm.exApart (N := [⟨some A_b, 187, [(.slice B_a s0.fcode.length B_c), (.int .i64 s0.fat), (.int .u64 s0.fseed)]⟩]) B_h B_ha [0] (by kernel_rfl)) ht_1) ?_)
  rintro w v w' hm ⟨rfl, hm'⟩
  refine ⟨_, hm.appW (ps := [(0, ⟨some A_b, 187, [(.slice B_a s0.fcode.length B_c), (.int .i64 t_1.2.fat), (.int .u64 t_1.2.fseed)]⟩)]) (N := []) hm' (by kernel_rfl) (by kernel_rfl), jkO ?_⟩
  clear hm hm'
  refine qh [0,0] (qe (jx_then (jc_ret ?_)))
  obtain rfl := Option.some.inj h
  exact qr [] (fun w hm => ⟨rfl, hm.pk [0]⟩)
/-! ### spec.l02Pin -/
def spec_l02Pin (d0 : Arr 96 Int) (step1 : Int) (track2 : Int) : Option (Bool) := (ix d0.1 step1).bind fun x_1 => (if 0 ≤ (u64 track2) then some ((Int.tmod (bShr .u32 x_1 (u64 track2)) 2) == 1) else none)
theorem spec_l02Pin.calls (d0 : Arr 96 Int) (step1 : Int) (track2 : Int) (w : World) (r : Bool) (A_b : Nat) (hm0 : Mem w (bs [some A_b]) [⟨(some A_b), 34, row encU32 d0.1 []⟩] w) (h : spec_l02Pin d0 step1 track2 = some r) :
    Calls Tryz.prog 143 #[(.pointer (some ⟨A_b, 0, none⟩)), (.int .i64 step1), (.int .i64 track2)] w fun e w' => ∃ v, e = .returned v ∧ (v = (.bool r) ∧ Mem w (bs [some A_b]) [⟨(some A_b), 34, row encU32 d0.1 []⟩] w') := by
  rw [spec_l02Pin] at h
  refine enter (args := [(.pointer (some ⟨A_b, 0, none⟩)), (.int .i64 step1), (.int .i64 track2)]) Tryz.func143 rfl Tryz.ntmps143 (by kernel_rfl) (L := [⟨(some A_b), 34, row encU32 d0.1 []⟩]) (W := bs [some A_b]) hm0 ?_
  refine jc_seq (jc_region (qh [0] (qe (jx_then (jc_seq (jc_region (qh [0,0,0] ?_)))))))
  obtain ⟨x_1, hx_1, h⟩ := bd h
  refine tO (qx 0 (some ⟨A_b, 0, none⟩) 1 hx_1 d0.2 rfl (jkO (tO (ql 0 false (fun w hm => ((hm.ow 0 (some A_b) 34 d0.1 [] (fun e => nomatch e) encU32_len).at hx_1)) (jkO (qh [0,0] ?_))))))
  obtain ⟨hg_2, h⟩ := gd h
  refine tO (p_shr 0 .u32 x_1 .u64 (u64 track2) (by kernel_rfl) (by kernel_rfl) hg_2 (jkO (qh [0,0,0] (qe (jx_then (jc_ret ?_))))))
  obtain rfl := Option.some.inj h
  exact qr [] (fun w hm => ⟨rfl, hm.pk [0]⟩)
/-! ### spec.l02Free -/
def spec_l02Free.k_3 : Option (Bool) := some true
def spec_l02Free.k_8 (i_4 : Int) (q_7 : Bool) : Option ((Int) ⊕ (Bool ⊕ Unit)) := (if q_7 = true then some (.inr (.inl false)) else some (.inl (w64 (i_4 + 1))))
def spec_l02Free.l_5 (f0 : GFrame) (d1 : Arr 96 Int) (step2 : Int) (track3 : Int) (x_2 : GHammer) : Int → Option ((Int) ⊕ (Bool ⊕ Unit))
  | i_4 => (if (decide (i_4 < (w64 x_2.fReady))) = true then (if (w64 f0.fSteps) ≠ 0 then (spec_l02Pin d1 (Int.tmod (w64 (step2 + i_4)) (w64 f0.fSteps)) track3).bind fun t_9 => (if t_9 = true then spec_l02Free.k_8 i_4 true else (if (w64 f0.fSteps) ≠ 0 then (spec_l02Pin d1 (Int.tmod (w64 ((w64 (step2 + (w64 f0.fSteps))) - i_4)) (w64 f0.fSteps)) track3).bind fun t_10 => spec_l02Free.k_8 i_4 t_10 else none)) else none) else some (.inr (.inr ())))
def spec_l02Free (f0 : GFrame) (d1 : Arr 96 Int) (step2 : Int) (track3 : Int) : Option (Bool) := (spec_l02Pin d1 step2 track3).bind fun t_1 => (if t_1 = true then some false else (ix f0.fHammers track3).bind fun x_2 => (loop (spec_l02Free.l_5 f0 d1 step2 track3 x_2) 1).bind fun t_6 => match t_6 with | .inl p => some p | .inr p => spec_l02Free.k_3)
theorem spec_l02Free.calls (f0 : GFrame) (d1 : Arr 96 Int) (step2 : Int) (track3 : Int) (w : World) (r : Bool) {C_a : Option Addr} {C_an : Nat} (C_c : Nat) (C_h : Rw w C_a 2 encGHammer f0.fHammers) (C_hn : f0.fHammers.length = C_an) (A_b : Nat) (D_b : Nat) (hm0 : Mem w (bs [some A_b, some D_b]) [⟨some A_b, 27, [(.int .i16 f0.fSteps), (.slice C_a C_an C_c)]⟩, ⟨(some D_b), 34, row encU32 d1.1 []⟩] w) (C_ha : f0.fHammers ≠ [] → aB C_a ∉ bs [some A_b, some D_b]) (h : spec_l02Free f0 d1 step2 track3 = some r) :
    Calls Tryz.prog 122 #[(.pointer (some ⟨A_b, 0, none⟩)), (.pointer (some ⟨D_b, 0, none⟩)), (.int .i64 step2), (.int .i64 track3)] w fun e w' => ∃ v, e = .returned v ∧ (v = (.bool r) ∧ Mem w (bs [some A_b, some D_b]) [⟨some A_b, 27, [(.int .i16 f0.fSteps), (.slice C_a C_an C_c)]⟩, ⟨(some D_b), 34, row encU32 d1.1 []⟩] w') := by
  subst C_hn
  rw [spec_l02Free] at h
  refine enter (args := [(.pointer (some ⟨A_b, 0, none⟩)), (.pointer (some ⟨D_b, 0, none⟩)), (.int .i64 step2), (.int .i64 track3)]) Tryz.func122 rfl Tryz.ntmps122 (by kernel_rfl) (L := [⟨some A_b, 27, [(.int .i16 f0.fSteps), (.slice C_a f0.fHammers.length C_c)]⟩, ⟨(some D_b), 34, row encU32 d1.1 []⟩]) (W := bs [some A_b, some D_b]) hm0 ?_
  refine jc_seq (jc_region (qh [0] (qe (jx_then (jc_seq (jc_seq (jc_region (qh [0,0,0] ?_))))))))
  obtain ⟨t_1, ht_3, h⟩ := bd h
  refine tO (pc 0 (fun w hm => spec_l02Pin.calls d1 step2 track3 w _ D_b (hm.pass (N := [⟨(some D_b), 34, row encU32 d1.1 []⟩]) [1] (by kernel_rfl) (by kernel_rfl)) ht_3) ?_)
  rintro w v w' hm ⟨rfl, hm'⟩
  refine ⟨_, hm.appW (ps := [(1, ⟨(some D_b), 34, row encU32 d1.1 []⟩)]) (N := []) hm' (by kernel_rfl) (by kernel_rfl), jkO ?_⟩
  clear hm hm'
  refine qe (jx_then (qi h (fun h => ?_) (fun h => ?_)))
  ·refine jc_seq (jc_region (qh [0] (qe (jx_then (jc_ret (jx_thenr ?_))))))
   obtain rfl := Option.some.inj h
   exact qr [] (fun w hm => ⟨rfl, hm.pk [0, 1]⟩)
  ·refine jc_skip (jx_then (jc_seq (jc_region (qh [0,0,0,0,0,0] (qe (jx_then (jc_seq (jc_region (qh [0,0,0,0,0] ?_)))))))))
   obtain ⟨x_2, hx_5, h⟩ := bd h
   refine tO (qx 0 C_a 2 hx_5 rfl (C_h.sp hx_5) (jkO (qh [0] (tO (ql 0 false (fun w hm => (((hm.exRowW C_h C_ha).at hx_5).sub 1 1)) (jkO (qh [0,0] (qe (jx_then (jc_seq (jc_seq (jc_region (qh [0] (qe (jx_then (jc_meet (fun (_ : Unit) => spec_l02Free.k_3 = some r) (fun (_ : Unit) => [(8, [], (.bool false))]) (fun (_ : Unit) => [⟨some A_b, 27, [(.int .i16 f0.fSteps), (.slice C_a f0.fHammers.length C_c)]⟩, ⟨(some D_b), 34, row encU32 d1.1 []⟩]) ?_ ?_))))))))))))))))
   ·refine jc_block ?_
    obtain ⟨t_6, ht_93, hr_76⟩ := bd h
    refine jc_loop (fun (s : Int) (x : Unit) => match s, x with | i_4, _ => True) (fun (s : Int) (x : Unit) => match s, x with | i_4, _ => [(1, [], (.pointer (some ⟨D_b, 0, none⟩))), (2, [], (.int .i64 step2)), (3, [], (.int .i64 track3)), (8, [], (.bool false)), (9, [], (.int .i64 (w64 f0.fSteps))), (10, [], (.int .i64 (w64 x_2.fReady))), (11, [], (.int .i64 i_4))]) (fun (s : Int) (x : Unit) => match s, x with | i_4, _ => [⟨some A_b, 27, [(.int .i16 f0.fSteps), (.slice C_a f0.fHammers.length C_c)]⟩, ⟨(some D_b), 34, row encU32 d1.1 []⟩]) ht_93 () trivial (by kernel_rfl) [0, 1] (by kernel_rfl) (by kernel_rfl) ?_
    rintro i_4 _ y_77 _ h
    rw [spec_l02Free.l_5] at h
    refine jc_seq (jc_seq (jc_region (qh [0,0,0] (qe (jx_then (qi h (fun h => ?_) (fun h => ?_)))))))
    ·refine jc_skip (jx_then (jc_seq (jc_block (jc_seq (jc_meet (fun (j : Bool) => match j with | q_7 => spec_l02Free.k_8 i_4 q_7 = some y_77) (fun (j : Bool) => match j with | q_7 => [(1, [], (.pointer (some ⟨D_b, 0, none⟩))), (2, [], (.int .i64 step2)), (3, [], (.int .i64 track3)), (8, [], (.bool false)), (9, [], (.int .i64 (w64 f0.fSteps))), (10, [], (.int .i64 (w64 x_2.fReady))), (11, [], (.int .i64 i_4)), (54, [], (.bool q_7))]) (fun (j : Bool) => match j with | q_7 => [⟨some A_b, 27, [(.int .i16 f0.fSteps), (.slice C_a f0.fHammers.length C_c)]⟩, ⟨(some D_b), 34, row encU32 d1.1 []⟩]) ?_ ?_)))))
     ·refine jc_region (qh [0,0,0,0,0] ?_)
      obtain ⟨hg_87, h⟩ := gd h
      refine tO (p_rem 0 .i64 (w64 (step2 + i_4)) (w64 f0.fSteps) (by kernel_rfl) (by kernel_rfl) hg_87 (jkO (qh [0] ?_)))
      obtain ⟨t_9, ht_88, h⟩ := bd h
      refine tO (pc 0 (fun w hm => spec_l02Pin.calls d1 (Int.tmod (w64 (step2 + i_4)) (w64 f0.fSteps)) track3 w _ D_b (hm.pass (N := [⟨(some D_b), 34, row encU32 d1.1 []⟩]) [1] (by kernel_rfl) (by kernel_rfl)) ht_88) ?_)
      rintro w v w' hm ⟨rfl, hm'⟩
      refine ⟨_, hm.appW (ps := [(1, ⟨(some D_b), 34, row encU32 d1.1 []⟩)]) (N := []) hm' (by kernel_rfl) (by kernel_rfl), jkO ?_⟩
      clear hm hm'
      refine qf [(0, 0), (0, 1), (0, 1), (0, 1), (0, 1), (0, 1), (0, 1), (0, 1)] (qp 43 h (fun h => ?_) (fun h => ?_))
      ·exact qf [(0, 3), (0, 3), (0, 3), (0, 4)] (qe (qm true h [0, 1]))
      ·obtain ⟨hg_90, h⟩ := gd h
       refine tO (p_rem 2 .i64 (w64 ((w64 (step2 + (w64 f0.fSteps))) - i_4)) (w64 f0.fSteps) (by kernel_rfl) (by kernel_rfl) hg_90 (jkO (qf [(0, 2)] ?_)))
       obtain ⟨t_10, ht_91, h⟩ := bd h
       refine tO (pc 2 (fun w hm => spec_l02Pin.calls d1 (Int.tmod (w64 ((w64 (step2 + (w64 f0.fSteps))) - i_4)) (w64 f0.fSteps)) track3 w _ D_b (hm.pass (N := [⟨(some D_b), 34, row encU32 d1.1 []⟩]) [1] (by kernel_rfl) (by kernel_rfl)) ht_91) ?_)
       rintro w v w' hm ⟨rfl, hm'⟩
       refine ⟨_, hm.appW (ps := [(1, ⟨(some D_b), 34, row encU32 d1.1 []⟩)]) (N := []) hm' (by kernel_rfl) (by kernel_rfl), jkO ?_⟩
       clear hm hm'
       exact qf [(0, 5)] (qe (qm t_10 h [0, 1]))
     ·rintro q_7 h
      replace h : spec_l02Free.k_8 i_4 q_7 = some y_77 := h
      rw [spec_l02Free.k_8] at h
      refine jx_then (qi h (fun h => ?_) (fun h => ?_))
      ·refine jc_seq (jc_region (qh [0] (qe (jx_then (jc_ret (jx_inr (jx_thenr (jx_leaver (.inl false) (Option.some.inj h).symm (fun e_86 => ?_)))))))))
       subst e_86
       refine jx_inr (jx_thenr (jx_thenr ?_))
       obtain rfl := Option.some.inj hr_76
       exact qr [] (fun w hm => ⟨rfl, hm.pk [0, 1]⟩)
      ·exact jc_skip (jx_inn (jx_then (jc_region (qh [0,0,0] (qe (qb (w64 (i_4 + 1)) () h trivial [0, 1]))))))
    ·refine jc_exit (jx_thenx (jx_leave (.inr ()) (Option.some.inj h).symm (fun e_92 => ?_)))
     subst e_92
     exact jx_ine (qm () hr_76 [0, 1])
   ·rintro _ h
    replace h : spec_l02Free.k_3 = some r := h
    rw [spec_l02Free.k_3] at h
    refine jx_then (jc_seq (jc_region (qh [0] (qe (jx_then (jc_ret ?_))))))
    obtain rfl := Option.some.inj h
    exact qr [] (fun w hm => ⟨rfl, hm.pk [0, 1]⟩)
/-! ### spec.l02Drawn -/
def spec_l02Drawn.k_6 (s0 : Gl00Src) (a_3 : Arr 96 Int) (i_4 : Int) (i_5 : Int) : Option ((Arr 96 Int) × Gl00Src) := some (a_3, (⟨s0.fcode, i_4, i_5⟩ : Gl00Src))
def spec_l02Drawn.k_16 (a_7 : Arr 96 Int) (i_10 : Int) (t_13 : Int × Gl00Src) (t_14 : Int × Gl00Src) (q_15 : Bool) : Option (((Arr 96 Int) × Int × Int × Int) ⊕ (((Arr 96 Int) × Int × Int))) := (if q_15 = true then (ix a_7.1 t_13.1).bind fun x_17 => (if 0 ≤ (u64 t_14.1) then (ix a_7.1 t_13.1).bind fun x_18 => some (.inl ((Arr.set a_7 t_13.1 (bOr .u32 x_17 (bShl .u32 1 (u64 t_14.1)))), t_14.2.fat, t_14.2.fseed, (w64 (i_10 - 1)))) else none) else some (.inl (a_7, t_14.2.fat, t_14.2.fseed, (w64 (i_10 - 1)))))
def spec_l02Drawn.l_11 (s0 : Gl00Src) (f1 : GFrame) (t_1 : Bool × Gl00Src) : ((Arr 96 Int) × Int × Int × Int) → Option (((Arr 96 Int) × Int × Int × Int) ⊕ (((Arr 96 Int) × Int × Int)))
  | (a_7, i_8, i_9, i_10) => (if (decide (i_10 > 0)) = true then (spec_l00Src_pick (⟨s0.fcode, i_8, i_9⟩ : Gl00Src) (w64 f1.fSteps)).bind fun t_13 => (spec_l00Src_pick (⟨s0.fcode, t_13.2.fat, t_13.2.fseed⟩ : Gl00Src) (f1.fHammers.length : Int)).bind fun t_14 => (if t_1.1 = true then spec_l02Drawn.k_16 a_7 i_10 t_13 t_14 true else (spec_l02Free f1 a_7 t_13.1 t_14.1).bind fun t_19 => spec_l02Drawn.k_16 a_7 i_10 t_13 t_14 t_19) else some (.inr (a_7, i_8, i_9)))
def spec_l02Drawn (s0 : Gl00Src) (f1 : GFrame) : Option ((Arr 96 Int) × Gl00Src) := (spec_l00Src_one s0 4).bind fun t_1 => (spec_l00Src_pick (⟨s0.fcode, t_1.2.fat, t_1.2.fseed⟩ : Gl00Src) 12).bind fun t_2 => (loop (spec_l02Drawn.l_11 s0 f1 t_1) ((Arr.rep 96 0), t_2.2.fat, t_2.2.fseed, t_2.1)).bind fun t_12 => spec_l02Drawn.k_6 s0 t_12.1 t_12.2.1 t_12.2.2
theorem spec_l02Drawn.calls (s0 : Gl00Src) (f1 : GFrame) (w : World) (r : (Arr 96 Int) × Gl00Src) {B_a : Option Addr} {B_an : Nat} (B_c : Nat) (B_h : Rw w B_a 1 encU8 s0.fcode) (B_hn : s0.fcode.length = B_an) {G_a : Option Addr} {G_an : Nat} (G_c : Nat) (G_h : Rw w G_a 2 encGHammer f1.fHammers) (G_hn : f1.fHammers.length = G_an) (A_b : Nat) (E_b : Nat) (hm0 : Mem w (bs [some A_b, some E_b]) [⟨some A_b, 187, [(.slice B_a B_an B_c), (.int .i64 s0.fat), (.int .u64 s0.fseed)]⟩, ⟨some E_b, 27, [(.int .i16 f1.fSteps), (.slice G_a G_an G_c)]⟩] w) (B_ha : s0.fcode ≠ [] → aB B_a ∉ bs [some A_b, some E_b]) (G_ha : f1.fHammers ≠ [] → aB G_a ∉ bs [some A_b, some E_b]) (h : spec_l02Drawn s0 f1 = some r) :
    Calls Tryz.prog 47 #[(.pointer (some ⟨A_b, 0, none⟩)), (.pointer (some ⟨E_b, 0, none⟩))] w fun e w' => ∃ v, e = .returned v ∧ (v = (.agg (row encU32 r.1.1 []).toArray) ∧ Mem w (bs [some A_b, some E_b]) [⟨some A_b, 187, [(.slice B_a B_an B_c), (.int .i64 r.2.fat), (.int .u64 r.2.fseed)]⟩, ⟨some E_b, 27, [(.int .i16 f1.fSteps), (.slice G_a G_an G_c)]⟩] w') := by
  subst B_hn G_hn
  rw [spec_l02Drawn] at h
  refine enter (args := [(.pointer (some ⟨A_b, 0, none⟩)), (.pointer (some ⟨E_b, 0, none⟩))]) Tryz.func47 rfl Tryz.ntmps47 (by kernel_rfl) (L := [⟨some A_b, 187, [(.slice B_a s0.fcode.length B_c), (.int .i64 s0.fat), (.int .u64 s0.fseed)]⟩, ⟨some E_b, 27, [(.int .i16 f1.fSteps), (.slice G_a f1.fHammers.length G_c)]⟩]) (W := bs [some A_b, some E_b]) hm0 ?_
  refine jc_seq (jc_region (tO (qa 0 (fun b_1 => jkO (qe (jx_then (jc_seq (jc_region (qh [0] (tO (qa 0 (fun b_2 => jkO (tO (p_sA 0 3 b_2 96 1 34 encU32 (Arr.rep 96 0) (Arr.rep 96 0) (by kernel_rfl) (by kernel_rfl) (by kernel_rfl) encU32_len encU32_cell (by kernel_rfl) (jkO (qe (jx_then (jc_seq (jc_region (qh [0] ?_))))))))))))))))))))
  obtain ⟨t_1, ht_3, h⟩ := bd h
  refine tO (pc 0 (fun w hm => spec_l00Src_one.calls s0 4 w _ B_c (hm.exRowW B_h B_ha) rfl A_b (hm.pass (N := [⟨some A_b, 187, [(.slice B_a s0.fcode.length B_c), (.int .i64 s0.fat), (.int .u64 s0.fseed)]⟩]) [0] (by kernel_rfl) (by kernel_rfl)) (hm.exApart (N := [⟨some A_b, 187, [(.slice B_a s0.fcode.length B_c), (.int .i64 s0.fat), (.int .u64 s0.fseed)]⟩]) B_h B_ha [0] (by kernel_rfl)) ht_3) ?_)
  rintro w v w' hm ⟨rfl, hm'⟩
  refine ⟨_, hm.appW (ps := [(0, ⟨some A_b, 187, [(.slice B_a s0.fcode.length B_c), (.int .i64 t_1.2.fat), (.int .u64 t_1.2.fseed)]⟩)]) (N := []) hm' (by kernel_rfl) (by kernel_rfl), jkO ?_⟩
  clear hm hm'
  refine qh [0] (qe (jx_then (jc_seq (jc_seq (jc_region (qh [0] ?_))))))
  obtain ⟨t_2, ht_85, h⟩ := bd h
  refine tO (pc 0 (fun w hm => spec_l00Src_pick.calls (⟨s0.fcode, t_1.2.fat, t_1.2.fseed⟩ : Gl00Src) 12 w _ B_c (hm.exRowW B_h B_ha) rfl A_b (hm.pass (N := [⟨some A_b, 187, [(.slice B_a s0.fcode.length B_c), (.int .i64 t_1.2.fat), (.int .u64 t_1.2.fseed)]⟩]) [0] (by kernel_rfl) (by kernel_rfl)) (hm.exApart (N := [⟨some A_b, 187, [(.slice B_a s0.fcode.length B_c), (.int .i64 t_1.2.fat), (.int .u64 t_1.2.fseed)]⟩]) B_h B_ha [0] (by kernel_rfl)) ht_85) ?_)
  rintro w v w' hm ⟨rfl, hm'⟩
  refine ⟨_, hm.appW (ps := [(0, ⟨some A_b, 187, [(.slice B_a s0.fcode.length B_c), (.int .i64 t_2.2.fat), (.int .u64 t_2.2.fseed)]⟩)]) (N := []) hm' (by kernel_rfl) (by kernel_rfl), jkO ?_⟩
  clear hm hm'
  refine qh [0] (qe (jx_then (jc_meet (fun (j : (Arr 96 Int) × Int × Int) => match j with | ⟨a_3, i_4, i_5⟩ => spec_l02Drawn.k_6 s0 a_3 i_4 i_5 = some r) (fun (j : (Arr 96 Int) × Int × Int) => match j with | ⟨a_3, i_4, i_5⟩ => [(4, [], (.pointer (some ⟨b_1, 0, none⟩))), (5, [], (.pointer (some ⟨b_2, 0, none⟩)))]) (fun (j : (Arr 96 Int) × Int × Int) => match j with | ⟨a_3, i_4, i_5⟩ => [⟨some A_b, 187, [(.slice B_a s0.fcode.length B_c), (.int .i64 i_4), (.int .u64 i_5)]⟩, ⟨some E_b, 27, [(.int .i16 f1.fSteps), (.slice G_a f1.fHammers.length G_c)]⟩, ⟨(some b_1), 34, row encU32 ((Arr.rep 96 0).1) []⟩, ⟨(some b_2), 34, row encU32 a_3.1 []⟩]) ?_ ?_)))
  ·refine jc_block ?_
   obtain ⟨t_12, ht_165, hr_150⟩ := bd h
   refine jc_loop (fun (s : (Arr 96 Int) × Int × Int × Int) (x : Unit) => match s, x with | ⟨a_7, i_8, i_9, i_10⟩, _ => True) (fun (s : (Arr 96 Int) × Int × Int × Int) (x : Unit) => match s, x with | ⟨a_7, i_8, i_9, i_10⟩, _ => [(0, [], (.pointer (some ⟨A_b, 0, none⟩))), (1, [], (.pointer (some ⟨E_b, 0, none⟩))), (4, [], (.pointer (some ⟨b_1, 0, none⟩))), (5, [], (.pointer (some ⟨b_2, 0, none⟩))), (6, [], (.bool t_1.1)), (7, [], (.int .i64 i_10))]) (fun (s : (Arr 96 Int) × Int × Int × Int) (x : Unit) => match s, x with | ⟨a_7, i_8, i_9, i_10⟩, _ => [⟨some A_b, 187, [(.slice B_a s0.fcode.length B_c), (.int .i64 i_8), (.int .u64 i_9)]⟩, ⟨some E_b, 27, [(.int .i16 f1.fSteps), (.slice G_a f1.fHammers.length G_c)]⟩, ⟨(some b_1), 34, row encU32 ((Arr.rep 96 0).1) []⟩, ⟨(some b_2), 34, row encU32 a_7.1 []⟩]) ht_165 () trivial (by kernel_rfl) [0, 1, 2, 3] (by kernel_rfl) (by kernel_rfl) ?_
   rintro ⟨a_7, i_8, i_9, i_10⟩ _ y_151 _ h
   rw [spec_l02Drawn.l_11] at h
   refine jc_seq (jc_seq (jc_region (qh [0,0] (qe (jx_then (qi h (fun h => ?_) (fun h => ?_)))))))
   ·refine jc_skip (jx_then (jc_seq (jc_block (jc_seq (jc_region (qh [0,0,0,0,1,0] ?_))))))
    obtain ⟨t_13, ht_154, h⟩ := bd h
    refine tO (pc 0 (fun w hm => spec_l00Src_pick.calls (⟨s0.fcode, i_8, i_9⟩ : Gl00Src) (w64 f1.fSteps) w _ B_c (hm.exRowW B_h B_ha) rfl A_b (hm.pass (N := [⟨some A_b, 187, [(.slice B_a s0.fcode.length B_c), (.int .i64 i_8), (.int .u64 i_9)]⟩]) [0] (by kernel_rfl) (by kernel_rfl)) (hm.exApart (N := [⟨some A_b, 187, [(.slice B_a s0.fcode.length B_c), (.int .i64 i_8), (.int .u64 i_9)]⟩]) B_h B_ha [0] (by kernel_rfl)) ht_154) ?_)
    rintro w v w' hm ⟨rfl, hm'⟩
    refine ⟨_, hm.appW (ps := [(0, ⟨some A_b, 187, [(.slice B_a s0.fcode.length B_c), (.int .i64 t_13.2.fat), (.int .u64 t_13.2.fseed)]⟩)]) (N := []) hm' (by kernel_rfl) (by kernel_rfl), jkO ?_⟩
    clear hm hm'
    refine qh [0] (qe (jx_then (jc_seq (jc_region (qh [0,0,0,0,1,0] ?_)))))
    obtain ⟨t_14, ht_155, h⟩ := bd h
    refine tO (pc 0 (fun w hm => spec_l00Src_pick.calls (⟨s0.fcode, t_13.2.fat, t_13.2.fseed⟩ : Gl00Src) (f1.fHammers.length : Int) w _ B_c (hm.exRowW B_h B_ha) rfl A_b (hm.pass (N := [⟨some A_b, 187, [(.slice B_a s0.fcode.length B_c), (.int .i64 t_13.2.fat), (.int .u64 t_13.2.fseed)]⟩]) [0] (by kernel_rfl) (by kernel_rfl)) (hm.exApart (N := [⟨some A_b, 187, [(.slice B_a s0.fcode.length B_c), (.int .i64 t_13.2.fat), (.int .u64 t_13.2.fseed)]⟩]) B_h B_ha [0] (by kernel_rfl)) ht_155) ?_)
    rintro w v w' hm ⟨rfl, hm'⟩
    refine ⟨_, hm.appW (ps := [(0, ⟨some A_b, 187, [(.slice B_a s0.fcode.length B_c), (.int .i64 t_14.2.fat), (.int .u64 t_14.2.fseed)]⟩)]) (N := []) hm' (by kernel_rfl) (by kernel_rfl), jkO ?_⟩
    clear hm hm'
    refine qh [0] (qe (jx_then (jc_seq (jc_meet (fun (j : Bool) => match j with | q_15 => spec_l02Drawn.k_16 a_7 i_10 t_13 t_14 q_15 = some y_151) (fun (j : Bool) => match j with | q_15 => [(0, [], (.pointer (some ⟨A_b, 0, none⟩))), (1, [], (.pointer (some ⟨E_b, 0, none⟩))), (4, [], (.pointer (some ⟨b_1, 0, none⟩))), (5, [], (.pointer (some ⟨b_2, 0, none⟩))), (6, [], (.bool t_1.1)), (7, [], (.int .i64 i_10)), (8, [], (.int .i64 t_13.1)), (9, [], (.int .i64 t_14.1)), (39, [], (.bool q_15))]) (fun (j : Bool) => match j with | q_15 => [⟨some A_b, 187, [(.slice B_a s0.fcode.length B_c), (.int .i64 t_14.2.fat), (.int .u64 t_14.2.fseed)]⟩, ⟨some E_b, 27, [(.int .i16 f1.fSteps), (.slice G_a f1.fHammers.length G_c)]⟩, ⟨(some b_1), 34, row encU32 ((Arr.rep 96 0).1) []⟩, ⟨(some b_2), 34, row encU32 a_7.1 []⟩]) ?_ ?_))))
    ·refine jc_region (qf [(0, 0), (0, 0), (0, 1), (0, 1), (0, 1)] (qp 34 h (fun h => ?_) (fun h => ?_)))
     ·exact qf [(0, 3), (0, 4)] (qe (qm true h [0, 1, 2, 3]))
     ·obtain ⟨t_19, ht_163, h⟩ := bd h
      refine tO (pc 2 (fun w hm => spec_l02Free.calls f1 a_7 t_13.1 t_14.1 w _ G_c (hm.exRowW G_h G_ha) rfl E_b b_2 (hm.pass (N := [⟨some E_b, 27, [(.int .i16 f1.fSteps), (.slice G_a f1.fHammers.length G_c)]⟩, ⟨(some b_2), 34, row encU32 a_7.1 []⟩]) [1, 3] (by kernel_rfl) (by kernel_rfl)) (hm.exApart (N := [⟨some E_b, 27, [(.int .i16 f1.fSteps), (.slice G_a f1.fHammers.length G_c)]⟩, ⟨(some b_2), 34, row encU32 a_7.1 []⟩]) G_h G_ha [1, 3] (by kernel_rfl)) ht_163) ?_)
      rintro w v w' hm ⟨rfl, hm'⟩
      refine ⟨_, hm.appW (ps := [(1, ⟨some E_b, 27, [(.int .i16 f1.fSteps), (.slice G_a f1.fHammers.length G_c)]⟩), (3, ⟨(some b_2), 34, row encU32 a_7.1 []⟩)]) (N := []) hm' (by kernel_rfl) (by kernel_rfl), jkO ?_⟩
      clear hm hm'
      exact qf [(0, 5)] (qe (qm t_19 h [0, 1, 2, 3]))
    ·rintro q_15 h
     replace h : spec_l02Drawn.k_16 a_7 i_10 t_13 t_14 q_15 = some y_151 := h
     rw [spec_l02Drawn.k_16] at h
     refine jx_then (qi h (fun h => ?_) (fun h => ?_))
     ·refine jc_region (qh [0,0] ?_)
      obtain ⟨x_17, hx_159, h⟩ := bd h
      refine tO (qx 0 (some ⟨b_2, 0, none⟩) 1 hx_159 a_7.2 rfl (jkO (tO (ql 0 false (fun w hm => ((hm.ow 3 (some b_2) 34 a_7.1 [] (fun e => nomatch e) encU32_len).at hx_159)) (jkO (qh [0,0] ?_))))))
      obtain ⟨hg_160, h⟩ := gd h
      refine tO (p_shl 0 .u32 1 .u64 (u64 t_14.1) (by kernel_rfl) (by kernel_rfl) hg_160 (jkO (qh [0] ?_)))
      obtain ⟨x_18, hx_161, h⟩ := bd h
      exact tO (qx 0 (some ⟨b_2, 0, none⟩) 1 hx_161 a_7.2 rfl (jkO (tO (p_str 0 3 b_2 34 encU32 a_7.1 [] t_13.1 (bOr .u32 x_17 (bShl .u32 1 (u64 t_14.1))) 1 0 [(.int .u32 (bOr .u32 x_17 (bShl .u32 1 (u64 t_14.1))))] (by kernel_rfl) (by kernel_rfl) (by kernel_rfl) encU32_len hx_161 (by kernel_rfl) (by kernel_rfl) (jkO (qe (jx_inn (jx_then (jc_region (qh [0,0,0] (qe (qb ((Arr.set a_7 t_13.1 (bOr .u32 x_17 (bShl .u32 1 (u64 t_14.1)))), t_14.2.fat, t_14.2.fseed, (w64 (i_10 - 1))) () h trivial [0, 1, 2, 3]))))))))))))
     ·exact jc_skip (jx_inn (jx_then (jc_region (qh [0,0,0] (qe (qb (a_7, t_14.2.fat, t_14.2.fseed, (w64 (i_10 - 1))) () h trivial [0, 1, 2, 3]))))))
   ·refine jc_exit (jx_thenx (jx_leave (a_7, i_8, i_9) (Option.some.inj h).symm (fun e_164 => ?_)))
    subst e_164
    exact jx_ine (qm ⟨a_7, i_8, i_9⟩ hr_150 [0, 1, 2, 3])
  ·rintro ⟨a_3, i_4, i_5⟩ h
   replace h : spec_l02Drawn.k_6 s0 a_3 i_4 i_5 = some r := h
   rw [spec_l02Drawn.k_6] at h
   refine jx_then (jc_seq (jc_region (tO (p_ldA 0 3 b_2 96 1 34 encU32 a_3 (by kernel_rfl) (by kernel_rfl) (by kernel_rfl) encU32_len (by kernel_rfl) (jkO (tO (p_sA 0 2 b_1 96 1 34 encU32 (Arr.rep 96 0) a_3 (by kernel_rfl) (by kernel_rfl) (by kernel_rfl) encU32_len encU32_cell (by kernel_rfl) (jkO (qe (jx_then (jc_ret ?_)))))))))))
   obtain rfl := Option.some.inj h
   exact jx_retV rfl (rq_arr (b := b_1) (T' := 34) (hh := 2) (mm := 1) encU32 a_3 (by kernel_rfl) (by kernel_rfl) encU32_len (by kernel_rfl) rq_nil) (fun w hm => ⟨rfl, hm.pk [0, 1]⟩)
/-! ### spec.l00In -/
def spec_l00In (n0 : Int) (low1 : Int) (high2 : Int) : Option (Bool) := some ((decide (n0 ≥ low1)) && (decide (n0 ≤ high2)))
theorem spec_l00In.calls (n0 : Int) (low1 : Int) (high2 : Int) (w : World) (r : Bool) (h : spec_l00In n0 low1 high2 = some r) :
    Calls Tryz.prog 131 #[(.int .i64 n0), (.int .i64 low1), (.int .i64 high2)] w fun e w' => ∃ v, e = .returned v ∧ (v = (.bool r) ∧ Mem w [] [] w') := by
  rw [spec_l00In] at h
  refine enter (args := [(.int .i64 n0), (.int .i64 low1), (.int .i64 high2)]) Tryz.func131 rfl Tryz.ntmps131 (by kernel_rfl) (L := []) (W := []) (Mem.start w) ?_
  refine jc_seq (jc_region (qh [0] (qe (jx_then (jc_seq (jc_region (qf [(0, 0), (0, 0), (0, 0), (0, 0), (0, 1), (0, 1), (0, 1), (0, 0), (0, 0)] (qe (jx_then (jc_ret ?_))))))))))
  obtain rfl := Option.some.inj h
  exact qr [] (fun w hm => ⟨rfl, hm.pk []⟩)
/-! ### spec.l00Min -/
def spec_l00Min (a0 : Int) (b1 : Int) : Option (Int) := (if (decide (a0 < b1)) = true then some a0 else some b1)
theorem spec_l00Min.calls (a0 : Int) (b1 : Int) (w : World) (r : Int) (h : spec_l00Min a0 b1 = some r) :
    Calls Tryz.prog 87 #[(.int .i64 a0), (.int .i64 b1)] w fun e w' => ∃ v, e = .returned v ∧ (v = (.int .i64 r) ∧ Mem w [] [] w') := by
  rw [spec_l00Min] at h
  refine enter (args := [(.int .i64 a0), (.int .i64 b1)]) Tryz.func87 rfl Tryz.ntmps87 (by kernel_rfl) (L := []) (W := []) (Mem.start w) ?_
  refine jc_seq (jc_region (qh [0] (qe (jx_then (jc_seq (jc_seq (jc_region (qh [0,0,0] (qe (jx_then (qi h (fun h => ?_) (fun h => ?_))))))))))))
  ·refine jc_seq (jc_region (qh [0,0] (qe (jx_then (jc_ret (jx_thenr ?_))))))
   obtain rfl := Option.some.inj h
   exact qr [] (fun w hm => ⟨rfl, hm.pk []⟩)
  ·refine jc_skip (jx_then (jc_seq (jc_region (qh [0,0] (qe (jx_then (jc_ret ?_)))))))
   obtain rfl := Option.some.inj h
   exact qr [] (fun w hm => ⟨rfl, hm.pk []⟩)
/-! ### spec.l02Frame -/
def spec_l02Frame.k_3 : Option (Bool) := some true
def spec_l02Frame.k_9 (i_4 : Int) (q_8 : Bool) : Option ((Int) ⊕ (Bool ⊕ Unit)) := (if q_8 = true then some (.inr (.inl false)) else some (.inl (w64 (i_4 + 1))))
def spec_l02Frame.l_5 (f0 : GFrame) : Int → Option ((Int) ⊕ (Bool ⊕ Unit))
  | i_4 => (if (decide (i_4 < (f0.fHammers.length : Int))) = true then (ix f0.fHammers i_4).bind fun x_7 => (spec_l00In (w64 x_7.fPitch) 0 47).bind fun t_10 => (if (!t_10) = true then spec_l02Frame.k_9 i_4 true else (spec_l00Min 20 (w64 f0.fSteps)).bind fun t_11 => (spec_l00In (w64 x_7.fReady) 1 t_11).bind fun t_12 => spec_l02Frame.k_9 i_4 (!t_12)) else some (.inr (.inr ())))
def spec_l02Frame.k_2 (f0 : GFrame) (q_1 : Bool) : Option (Bool) := (if q_1 = true then some false else (loop (spec_l02Frame.l_5 f0) 0).bind fun t_6 => match t_6 with | .inl p => some p | .inr p => spec_l02Frame.k_3)
def spec_l02Frame (f0 : GFrame) : Option (Bool) := (spec_l00In (w64 f0.fSteps) 2 96).bind fun t_13 => (if (!t_13) = true then spec_l02Frame.k_2 f0 true else (spec_l00In (f0.fHammers.length : Int) 1 24).bind fun t_14 => spec_l02Frame.k_2 f0 (!t_14))
theorem spec_l02Frame.calls (f0 : GFrame) (w : World) (r : Bool) {C_a : Option Addr} {C_an : Nat} (C_c : Nat) (C_h : Rw w C_a 2 encGHammer f0.fHammers) (C_hn : f0.fHammers.length = C_an) (A_b : Nat) (hm0 : Mem w (bs [some A_b]) [⟨some A_b, 27, [(.int .i16 f0.fSteps), (.slice C_a C_an C_c)]⟩] w) (C_ha : f0.fHammers ≠ [] → aB C_a ∉ bs [some A_b]) (h : spec_l02Frame f0 = some r) :
    Calls Tryz.prog 58 #[(.pointer (some ⟨A_b, 0, none⟩))] w fun e w' => ∃ v, e = .returned v ∧ (v = (.bool r) ∧ Mem w (bs [some A_b]) [⟨some A_b, 27, [(.int .i16 f0.fSteps), (.slice C_a C_an C_c)]⟩] w') := by
  subst C_hn
  rw [spec_l02Frame] at h
  refine enter (args := [(.pointer (some ⟨A_b, 0, none⟩))]) Tryz.func58 rfl Tryz.ntmps58 (by kernel_rfl) (L := [⟨some A_b, 27, [(.int .i16 f0.fSteps), (.slice C_a f0.fHammers.length C_c)]⟩]) (W := bs [some A_b]) hm0 ?_
  refine jc_seq (jc_region (qh [0] (qe (jx_then (jc_seq (jc_seq (jc_meet (fun (j : Bool) => match j with | q_1 => spec_l02Frame.k_2 f0 q_1 = some r) (fun (j : Bool) => match j with | q_1 => [(0, [], (.pointer (some ⟨A_b, 0, none⟩))), (2, [], (.bool false)), (20, [], (.bool q_1))]) (fun (j : Bool) => match j with | q_1 => [⟨some A_b, 27, [(.int .i16 f0.fSteps), (.slice C_a f0.fHammers.length C_c)]⟩]) ?_ ?_)))))))
  ·refine jc_region (qh [0,0,0,0,0] ?_)
   obtain ⟨t_13, ht_100, h⟩ := bd h
   refine tO (pc 0 (fun w hm => spec_l00In.calls (w64 f0.fSteps) 2 96 w _ ht_100) ?_)
   rintro w v w' hm ⟨rfl, hm'⟩
   refine ⟨_, hm.app hm', jkO ?_⟩
   clear hm hm'
   refine qf [(0, 0), (0, 0), (0, 1), (0, 1), (0, 1), (0, 1), (0, 1)] (qp 12 h (fun h => ?_) (fun h => ?_))
   ·exact qf [(0, 3), (0, 3), (0, 4)] (qe (qm true h [0]))
   ·obtain ⟨t_14, ht_102, h⟩ := bd h
    refine tO (pc 2 (fun w hm => spec_l00In.calls (f0.fHammers.length : Int) 1 24 w _ ht_102) ?_)
    rintro w v w' hm ⟨rfl, hm'⟩
    refine ⟨_, hm.app hm', jkO ?_⟩
    clear hm hm'
    exact qf [(0, 2), (0, 5)] (qe (qm (!t_14) h [0]))
  ·rintro q_1 h
   replace h : spec_l02Frame.k_2 f0 q_1 = some r := h
   rw [spec_l02Frame.k_2] at h
   refine jx_then (qi h (fun h => ?_) (fun h => ?_))
   ·refine jc_seq (jc_region (qh [0] (qe (jx_then (jc_ret (jx_thenr ?_))))))
    obtain rfl := Option.some.inj h
    exact qr [] (fun w hm => ⟨rfl, hm.pk [0]⟩)
   ·refine jc_skip (jx_then (jc_seq (jc_seq (jc_region (qh [0] (qe (jx_then (jc_meet (fun (_ : Unit) => spec_l02Frame.k_3 = some r) (fun (_ : Unit) => [(2, [], (.bool false))]) (fun (_ : Unit) => [⟨some A_b, 27, [(.int .i16 f0.fSteps), (.slice C_a f0.fHammers.length C_c)]⟩]) ?_ ?_))))))))
    ·refine jc_block ?_
     obtain ⟨t_6, ht_99, hr_82⟩ := bd h
     refine jc_loop (fun (s : Int) (x : Unit) => match s, x with | i_4, _ => True) (fun (s : Int) (x : Unit) => match s, x with | i_4, _ => [(0, [], (.pointer (some ⟨A_b, 0, none⟩))), (2, [], (.bool false)), (3, [], (.int .i64 i_4))]) (fun (s : Int) (x : Unit) => match s, x with | i_4, _ => [⟨some A_b, 27, [(.int .i16 f0.fSteps), (.slice C_a f0.fHammers.length C_c)]⟩]) ht_99 () trivial (by kernel_rfl) [0] (by kernel_rfl) (by kernel_rfl) ?_
     rintro i_4 _ y_83 _ h
     rw [spec_l02Frame.l_5] at h
     refine jc_seq (jc_seq (jc_region (qh [0,0,0,0,0,0,0] (qe (jx_then (qi h (fun h => ?_) (fun h => ?_)))))))
     ·refine jc_skip (jx_then (jc_seq (jc_block (jc_seq (jc_region (qh [0,0,0,0,0] ?_))))))
      obtain ⟨x_7, hx_86, h⟩ := bd h
      refine tO (qx 0 C_a 2 hx_86 rfl (C_h.sp hx_86) (jkO (tO (ql 0 true (fun w hm => ((hm.exRowW C_h C_ha).at hx_86)) (jkO (tO (qa 0 (fun b_87 => jkO (tO (qs 0 [1] (jkO (qe (jx_then (jc_seq (jc_meet (fun (j : Bool) => match j with | q_8 => spec_l02Frame.k_9 i_4 q_8 = some y_83) (fun (j : Bool) => match j with | q_8 => [(0, [], (.pointer (some ⟨A_b, 0, none⟩))), (2, [], (.bool false)), (3, [], (.int .i64 i_4)), (54, [], (.bool q_8))]) (fun (j : Bool) => match j with | q_8 => [⟨some A_b, 27, [(.int .i16 f0.fSteps), (.slice C_a f0.fHammers.length C_c)]⟩, ⟨some b_87, 89, [(.int .i8 x_7.fPitch), (.int .i8 x_7.fReady)]⟩]) ?_ ?_)))))))))))))))
      ·refine qg [⟨some A_b, 27, [(.int .i16 f0.fSteps), (.slice C_a f0.fHammers.length C_c)]⟩, ⟨some b_87, 89, [(.int .i8 x_7.fPitch), (.int .i8 x_7.fReady)]⟩] 18 (qd [⟨0, 0, 0⟩,⟨1, 1, 0⟩,⟨2, 0, 0⟩] 15 [0, 1] ?_)
       obtain ⟨t_10, ht_94, h⟩ := bd h
       refine tD 3 (pc 0 (fun w hm => spec_l00In.calls (w64 x_7.fPitch) 0 47 w _ ht_94) ?_)
       rintro w v w' hm ⟨rfl, hm'⟩
       refine ⟨_, hm.app hm', kD [0, 1] ?_⟩
       clear hm hm'
       refine qd [⟨4, 0, 0⟩,⟨5, 0, 0⟩,⟨6, 0, 1⟩,⟨7, 1, 1⟩,⟨8, 0, 1⟩,⟨9, 0, 1⟩,⟨10, 0, 1⟩,⟨11, 0, 1⟩,⟨12, 0, 1⟩,⟨13, 0, 1⟩] 4 [0, 1] (jd_split 42 (!t_10) (by kernel_rfl) (fun hc_95 => ?_) (fun hc_95 => ?_))
       ·replace h := ifT hc_95 h
        exact qd [⟨14, 0, 3⟩,⟨15, 0, 3⟩,⟨16, 0, 3⟩,⟨17, 0, 4⟩] 0 [0, 1] (qz (qm true h [0, 1]))
       ·replace h := ifF hc_95 h
        obtain ⟨t_11, ht_96, h⟩ := bd h
        refine tD 14 (pc 2 (fun w hm => spec_l00Min.calls 20 (w64 f0.fSteps) w _ ht_96) ?_)
        rintro w v w' hm ⟨rfl, hm'⟩
        refine ⟨_, hm.app hm', kD [0, 1] ?_⟩
        clear hm hm'
        obtain ⟨t_12, ht_97, h⟩ := bd h
        refine tD 15 (pc 2 (fun w hm => spec_l00In.calls (w64 x_7.fReady) 1 t_11 w _ ht_97) ?_)
        rintro w v w' hm ⟨rfl, hm'⟩
        refine ⟨_, hm.app hm', kD [0, 1] ?_⟩
        clear hm hm'
        exact qd [⟨16, 0, 2⟩,⟨17, 0, 5⟩] 0 [0, 1] (qz (qm (!t_12) h [0, 1]))
      ·rintro q_8 h
       replace h : spec_l02Frame.k_9 i_4 q_8 = some y_83 := h
       rw [spec_l02Frame.k_9] at h
       refine jx_then (qi h (fun h => ?_) (fun h => ?_))
       ·refine jc_seq (jc_region (qh [0] (qe (jx_then (jc_ret (jx_inr (jx_thenr (jx_leaver (.inl false) (Option.some.inj h).symm (fun e_93 => ?_)))))))))
        subst e_93
        refine jx_inr (jx_thenr (jx_thenr ?_))
        obtain rfl := Option.some.inj hr_82
        exact qr [] (fun w hm => ⟨rfl, hm.pk [0]⟩)
       ·exact jc_skip (jx_inn (jx_then (jc_region (qh [0,0,0] (qe (qb (w64 (i_4 + 1)) () h trivial [0]))))))
     ·refine jc_exit (jx_thenx (jx_leave (.inr ()) (Option.some.inj h).symm (fun e_98 => ?_)))
      subst e_98
      exact jx_ine (qm () hr_82 [0])
    ·rintro _ h
     replace h : spec_l02Frame.k_3 = some r := h
     rw [spec_l02Frame.k_3] at h
     refine jx_then (jc_seq (jc_region (qh [0] (qe (jx_then (jc_ret ?_))))))
     obtain rfl := Option.some.inj h
     exact qr [] (fun w hm => ⟨rfl, hm.pk [0]⟩)
/-! ### spec.l02Drum -/
def spec_l02Drum.k_1 : Option (Bool) := some true
def spec_l02Drum.k_6 (i_2 : Int) (q_5 : Bool) : Option ((Int) ⊕ (Bool ⊕ Unit)) := (if q_5 = true then some (.inr (.inl false)) else some (.inl (w64 (i_2 + 1))))
def spec_l02Drum.l_3 (f0 : GFrame) (d1 : Arr 96 Int) : Int → Option ((Int) ⊕ (Bool ⊕ Unit))
  | i_2 => (if (decide (i_2 < 96)) = true then (ix d1.1 i_2).bind fun x_7 => (if 0 ≤ (u64 (f0.fHammers.length : Int)) then (if ((bShr .u32 x_7 (u64 (f0.fHammers.length : Int))) != 0) = true then spec_l02Drum.k_6 i_2 true else (if (decide (i_2 ≥ (w64 f0.fSteps))) = true then (ix d1.1 i_2).bind fun x_8 => spec_l02Drum.k_6 i_2 (x_8 != 0) else spec_l02Drum.k_6 i_2 false)) else none) else some (.inr (.inr ())))
def spec_l02Drum (f0 : GFrame) (d1 : Arr 96 Int) : Option (Bool) := (loop (spec_l02Drum.l_3 f0 d1) 0).bind fun t_4 => match t_4 with | .inl p => some p | .inr p => spec_l02Drum.k_1
theorem spec_l02Drum.calls (f0 : GFrame) (d1 : Arr 96 Int) (w : World) (r : Bool) {C_a : Option Addr} {C_an : Nat} (C_c : Nat) (C_h : Rw w C_a 2 encGHammer f0.fHammers) (C_hn : f0.fHammers.length = C_an) (A_b : Nat) (D_b : Nat) (hm0 : Mem w (bs [some A_b, some D_b]) [⟨some A_b, 27, [(.int .i16 f0.fSteps), (.slice C_a C_an C_c)]⟩, ⟨(some D_b), 34, row encU32 d1.1 []⟩] w) (C_ha : f0.fHammers ≠ [] → aB C_a ∉ bs [some A_b, some D_b]) (h : spec_l02Drum f0 d1 = some r) :
    Calls Tryz.prog 59 #[(.pointer (some ⟨A_b, 0, none⟩)), (.pointer (some ⟨D_b, 0, none⟩))] w fun e w' => ∃ v, e = .returned v ∧ (v = (.bool r) ∧ Mem w (bs [some A_b, some D_b]) [⟨some A_b, 27, [(.int .i16 f0.fSteps), (.slice C_a C_an C_c)]⟩, ⟨(some D_b), 34, row encU32 d1.1 []⟩] w') := by
  subst C_hn
  rw [spec_l02Drum] at h
  refine enter (args := [(.pointer (some ⟨A_b, 0, none⟩)), (.pointer (some ⟨D_b, 0, none⟩))]) Tryz.func59 rfl Tryz.ntmps59 (by kernel_rfl) (L := [⟨some A_b, 27, [(.int .i16 f0.fSteps), (.slice C_a f0.fHammers.length C_c)]⟩, ⟨(some D_b), 34, row encU32 d1.1 []⟩]) (W := bs [some A_b, some D_b]) hm0 ?_
  refine jc_seq (jc_region (qh [0] (qe (jx_then (jc_seq (jc_seq (jc_region (qh [0] (qe (jx_then (jc_meet (fun (_ : Unit) => spec_l02Drum.k_1 = some r) (fun (_ : Unit) => [(4, [], (.bool false))]) (fun (_ : Unit) => [⟨some A_b, 27, [(.int .i16 f0.fSteps), (.slice C_a f0.fHammers.length C_c)]⟩, ⟨(some D_b), 34, row encU32 d1.1 []⟩]) ?_ ?_)))))))))))
  ·refine jc_block ?_
   obtain ⟨t_4, ht_88, hr_71⟩ := bd h
   refine jc_loop (fun (s : Int) (x : Unit) => match s, x with | i_2, _ => True) (fun (s : Int) (x : Unit) => match s, x with | i_2, _ => [(0, [], (.pointer (some ⟨A_b, 0, none⟩))), (1, [], (.pointer (some ⟨D_b, 0, none⟩))), (4, [], (.bool false)), (5, [], (.int .i64 i_2))]) (fun (s : Int) (x : Unit) => match s, x with | i_2, _ => [⟨some A_b, 27, [(.int .i16 f0.fSteps), (.slice C_a f0.fHammers.length C_c)]⟩, ⟨(some D_b), 34, row encU32 d1.1 []⟩]) ht_88 () trivial (by kernel_rfl) [0, 1] (by kernel_rfl) (by kernel_rfl) ?_
   rintro i_2 _ y_72 _ h
   rw [spec_l02Drum.l_3] at h
   refine jc_seq (jc_seq (jc_region (qh [0,0] (qe (jx_then (qi h (fun h => ?_) (fun h => ?_)))))))
   ·refine jc_skip (jx_then (jc_seq (jc_block (jc_seq (jc_meet (fun (j : Bool) => match j with | q_5 => spec_l02Drum.k_6 i_2 q_5 = some y_72) (fun (j : Bool) => match j with | q_5 => [(0, [], (.pointer (some ⟨A_b, 0, none⟩))), (1, [], (.pointer (some ⟨D_b, 0, none⟩))), (4, [], (.bool false)), (5, [], (.int .i64 i_2)), (39, [], (.bool q_5))]) (fun (j : Bool) => match j with | q_5 => [⟨some A_b, 27, [(.int .i16 f0.fSteps), (.slice C_a f0.fHammers.length C_c)]⟩, ⟨(some D_b), 34, row encU32 d1.1 []⟩]) ?_ ?_)))))
    ·refine qg [⟨some A_b, 27, [(.int .i16 f0.fSteps), (.slice C_a f0.fHammers.length C_c)]⟩, ⟨(some D_b), 34, row encU32 d1.1 []⟩] 30 (qd [⟨0, 0, 0⟩,⟨1, 0, 0⟩,⟨2, 0, 0⟩,⟨5, 0, 0⟩,⟨6, 0, 0⟩,⟨7, 0, 0⟩,⟨8, 0, 0⟩,⟨9, 0, 0⟩,⟨10, 0, 0⟩] 21 [0, 1] ?_)
     obtain ⟨x_7, hx_82, h⟩ := bd h
     refine qv 3 0 [0, 1] (fun w hm => idx_run (a := (some ⟨D_b, 0, none⟩)) (len := 96) (s := 1) (j := i_2) (by kernel_rfl) (ix_some hx_82).1 (ltn hx_82 d1.2) rfl) (qv 4 0 [0, 1] (fun w hm => ld_run (b := aB (some ⟨D_b, 0, none⟩)) (off := (aO (some ⟨D_b, 0, none⟩) + i_2.toNat * 1)) (s := 1) (agg := false) (vs := (encU32 x_7)) (by kernel_rfl) (by kernel_rfl) (.inr rfl) ((hm.ow 1 (some D_b) 34 d1.1 [] (fun e => nomatch e) encU32_len).at hx_82)) ?_)
     obtain ⟨hg_83, h⟩ := gd h
     refine tD 11 (p_shr 0 .u32 x_7 .u64 (u64 (f0.fHammers.length : Int)) (by kernel_rfl) (by kernel_rfl) hg_83 (kD [0, 1] (qd [⟨12, 0, 0⟩,⟨13, 0, 0⟩,⟨14, 0, 1⟩,⟨15, 0, 1⟩,⟨16, 0, 1⟩,⟨17, 0, 1⟩,⟨18, 0, 1⟩,⟨19, 0, 1⟩,⟨20, 0, 1⟩] 9 [0, 1] (jd_split 23 ((bShr .u32 x_7 (u64 (f0.fHammers.length : Int))) != 0) (by kernel_rfl) (fun hc_84 => ?_) (fun hc_84 => ?_)))))
     ·replace h := ifT hc_84 h
      exact qd [⟨21, 0, 3⟩,⟨22, 0, 3⟩,⟨23, 0, 3⟩,⟨24, 0, 3⟩,⟨25, 0, 3⟩,⟨26, 0, 3⟩,⟨27, 0, 3⟩,⟨28, 0, 3⟩,⟨29, 0, 4⟩] 0 [0, 1] (qz (qm true h [0, 1]))
     ·replace h := ifF hc_84 h
      refine qd [⟨21, 0, 2⟩,⟨22, 0, 1⟩,⟨23, 0, 1⟩,⟨24, 0, 1⟩] 5 [0, 1] (jd_split 31 (decide (i_2 ≥ (w64 f0.fSteps))) (by kernel_rfl) (fun hc_85 => ?_) (fun hc_85 => ?_))
      ·replace h := ifT hc_85 h
       obtain ⟨x_8, hx_86, h⟩ := bd h
       exact qv 25 2 [0, 1] (fun w hm => idx_run (a := (some ⟨D_b, 0, none⟩)) (len := 96) (s := 1) (j := i_2) (by kernel_rfl) (ix_some hx_86).1 (ltn hx_86 d1.2) rfl) (qv 26 2 [0, 1] (fun w hm => ld_run (b := aB (some ⟨D_b, 0, none⟩)) (off := (aO (some ⟨D_b, 0, none⟩) + i_2.toNat * 1)) (s := 1) (agg := false) (vs := (encU32 x_8)) (by kernel_rfl) (by kernel_rfl) (.inr rfl) ((hm.ow 1 (some D_b) 34 d1.1 [] (fun e => nomatch e) encU32_len).at hx_86)) (qd [⟨27, 0, 2⟩,⟨28, 0, 4⟩,⟨29, 0, 5⟩] 0 [0, 1] (qz (qm (x_8 != 0) h [0, 1]))))
      ·replace h := ifF hc_85 h
       exact qd [⟨25, 0, 3⟩,⟨26, 0, 3⟩,⟨27, 0, 3⟩,⟨28, 0, 5⟩,⟨29, 0, 5⟩] 0 [0, 1] (qz (qm false h [0, 1]))
    ·rintro q_5 h
     replace h : spec_l02Drum.k_6 i_2 q_5 = some y_72 := h
     rw [spec_l02Drum.k_6] at h
     refine jx_then (qi h (fun h => ?_) (fun h => ?_))
     ·refine jc_seq (jc_region (qh [0] (qe (jx_then (jc_ret (jx_inr (jx_thenr (jx_leaver (.inl false) (Option.some.inj h).symm (fun e_81 => ?_)))))))))
      subst e_81
      refine jx_inr (jx_thenr (jx_thenr ?_))
      obtain rfl := Option.some.inj hr_71
      exact qr [] (fun w hm => ⟨rfl, hm.pk [0, 1]⟩)
     ·exact jc_skip (jx_inn (jx_then (jc_region (qh [0,0,0] (qe (qb (w64 (i_2 + 1)) () h trivial [0, 1]))))))
   ·refine jc_exit (jx_thenx (jx_leave (.inr ()) (Option.some.inj h).symm (fun e_87 => ?_)))
    subst e_87
    exact jx_ine (qm () hr_71 [0, 1])
  ·rintro _ h
   replace h : spec_l02Drum.k_1 = some r := h
   rw [spec_l02Drum.k_1] at h
   refine jx_then (jc_seq (jc_region (qh [0] (qe (jx_then (jc_ret ?_))))))
   obtain rfl := Option.some.inj h
   exact qr [] (fun w hm => ⟨rfl, hm.pk [0, 1]⟩)
/-! ### spec.l02Asked -/
def spec_l02Asked.k_2 (q_1 : Bool) : Option (Int) := (if q_1 = true then some 1 else some 0)
def spec_l02Asked (f0 : GFrame) (d1 : Arr 96 Int) : Option (Int) := (spec_l02Frame f0).bind fun t_3 => (if (!t_3) = true then spec_l02Asked.k_2 true else (spec_l02Drum f0 d1).bind fun t_4 => spec_l02Asked.k_2 (!t_4))
theorem spec_l02Asked.calls (f0 : GFrame) (d1 : Arr 96 Int) (w : World) (r : Int) {C_a : Option Addr} {C_an : Nat} (C_c : Nat) (C_h : Rw w C_a 2 encGHammer f0.fHammers) (C_hn : f0.fHammers.length = C_an) (A_b : Nat) (D_b : Nat) (hm0 : Mem w (bs [some A_b, some D_b]) [⟨some A_b, 27, [(.int .i16 f0.fSteps), (.slice C_a C_an C_c)]⟩, ⟨(some D_b), 34, row encU32 d1.1 []⟩] w) (C_ha : f0.fHammers ≠ [] → aB C_a ∉ bs [some A_b, some D_b]) (h : spec_l02Asked f0 d1 = some r) :
    Calls Tryz.prog 68 #[(.pointer (some ⟨A_b, 0, none⟩)), (.pointer (some ⟨D_b, 0, none⟩))] w fun e w' => ∃ v, e = .returned v ∧ (v = (.int .i64 r) ∧ Mem w (bs [some A_b, some D_b]) [⟨some A_b, 27, [(.int .i16 f0.fSteps), (.slice C_a C_an C_c)]⟩, ⟨(some D_b), 34, row encU32 d1.1 []⟩] w') := by
  subst C_hn
  rw [spec_l02Asked] at h
  refine enter (args := [(.pointer (some ⟨A_b, 0, none⟩)), (.pointer (some ⟨D_b, 0, none⟩))]) Tryz.func68 rfl Tryz.ntmps68 (by kernel_rfl) (L := [⟨some A_b, 27, [(.int .i16 f0.fSteps), (.slice C_a f0.fHammers.length C_c)]⟩, ⟨(some D_b), 34, row encU32 d1.1 []⟩]) (W := bs [some A_b, some D_b]) hm0 ?_
  refine jc_seq (jc_region (qh [0] (qe (jx_then (jc_seq (jc_seq (jc_meet (fun (j : Bool) => match j with | q_1 => spec_l02Asked.k_2 q_1 = some r) (fun (j : Bool) => match j with | q_1 => [(4, [], (.int .i64 0)), (13, [], (.bool q_1))]) (fun (j : Bool) => match j with | q_1 => [⟨some A_b, 27, [(.int .i16 f0.fSteps), (.slice C_a f0.fHammers.length C_c)]⟩, ⟨(some D_b), 34, row encU32 d1.1 []⟩]) ?_ ?_)))))))
  ·refine jc_region (qh [0] ?_)
   obtain ⟨t_3, ht_5, h⟩ := bd h
   refine tO (pc 0 (fun w hm => spec_l02Frame.calls f0 w _ C_c (hm.exRowW C_h C_ha) rfl A_b (hm.pass (N := [⟨some A_b, 27, [(.int .i16 f0.fSteps), (.slice C_a f0.fHammers.length C_c)]⟩]) [0] (by kernel_rfl) (by kernel_rfl)) (hm.exApart (N := [⟨some A_b, 27, [(.int .i16 f0.fSteps), (.slice C_a f0.fHammers.length C_c)]⟩]) C_h C_ha [0] (by kernel_rfl)) ht_5) ?_)
   rintro w v w' hm ⟨rfl, hm'⟩
   refine ⟨_, hm.appW (ps := [(0, ⟨some A_b, 27, [(.int .i16 f0.fSteps), (.slice C_a f0.fHammers.length C_c)]⟩)]) (N := []) hm' (by kernel_rfl) (by kernel_rfl), jkO ?_⟩
   clear hm hm'
   refine qf [(0, 0), (0, 0), (0, 1), (0, 1)] (qp 8 h (fun h => ?_) (fun h => ?_))
   ·exact qf [(0, 3), (0, 3), (0, 4)] (qe (qm true h [0, 1]))
   ·obtain ⟨t_4, ht_7, h⟩ := bd h
    refine tO (pc 2 (fun w hm => spec_l02Drum.calls f0 d1 w _ C_c (hm.exRowW C_h C_ha) rfl A_b D_b (hm.pass (N := [⟨some A_b, 27, [(.int .i16 f0.fSteps), (.slice C_a f0.fHammers.length C_c)]⟩, ⟨(some D_b), 34, row encU32 d1.1 []⟩]) [0, 1] (by kernel_rfl) (by kernel_rfl)) (hm.exApart (N := [⟨some A_b, 27, [(.int .i16 f0.fSteps), (.slice C_a f0.fHammers.length C_c)]⟩, ⟨(some D_b), 34, row encU32 d1.1 []⟩]) C_h C_ha [0, 1] (by kernel_rfl)) ht_7) ?_)
    rintro w v w' hm ⟨rfl, hm'⟩
    refine ⟨_, hm.appW (ps := [(0, ⟨some A_b, 27, [(.int .i16 f0.fSteps), (.slice C_a f0.fHammers.length C_c)]⟩), (1, ⟨(some D_b), 34, row encU32 d1.1 []⟩)]) (N := []) hm' (by kernel_rfl) (by kernel_rfl), jkO ?_⟩
    clear hm hm'
    exact qf [(0, 2), (0, 5)] (qe (qm (!t_4) h [0, 1]))
  ·rintro q_1 h
   replace h : spec_l02Asked.k_2 q_1 = some r := h
   rw [spec_l02Asked.k_2] at h
   refine jx_then (qi h (fun h => ?_) (fun h => ?_))
   ·refine jc_seq (jc_region (qh [0] (qe (jx_then (jc_ret (jx_thenr ?_))))))
    obtain rfl := Option.some.inj h
    exact qr [] (fun w hm => ⟨rfl, hm.pk [0, 1]⟩)
   ·refine jc_skip (jx_then (jc_seq (jc_region (qh [0] (qe (jx_then (jc_ret ?_)))))))
    obtain rfl := Option.some.inj h
    exact qr [] (fun w hm => ⟨rfl, hm.pk [0, 1]⟩)
/-! ### spec.FreshWear -/
def spec_FreshWear.k_3 (f0 : GFrame) (xs_2 : List GWornPin) : Option (GWear × Int) := some ((⟨xs_2, (List.replicate (f0.fHammers.length : Int).toNat 0)⟩ : GWear), 0)
def spec_FreshWear.k_9 (i_5 : Int) (xs_8 : List GWornPin) : Option (((List GWornPin) × Int) ⊕ ((List GWornPin))) := some (.inl (xs_8, (w64 (i_5 + 1))))
def spec_FreshWear.l_12 (f0 : GFrame) (d1 : Arr 96 Int) (i_5 : Int) : ((List GWornPin) × Int) → Option (((List GWornPin) × Int) ⊕ ((List GWornPin)))
  | (xs_10, i_11) => (if (decide (i_11 < (f0.fHammers.length : Int))) = true then (spec_l02Pin d1 i_5 i_11).bind fun t_14 => (if t_14 = true then (if xs_10.length + ([(⟨(w8 i_5), (w8 i_11), 0⟩ : GWornPin)] : List GWornPin).length ≤ 4294967296 then some (.inl ((xs_10 ++ ([(⟨(w8 i_5), (w8 i_11), 0⟩ : GWornPin)] : List GWornPin)), (w64 (i_11 + 1)))) else none) else some (.inl (xs_10, (w64 (i_11 + 1))))) else some (.inr xs_10))
def spec_FreshWear.l_6 (f0 : GFrame) (d1 : Arr 96 Int) : ((List GWornPin) × Int) → Option (((List GWornPin) × Int) ⊕ ((List GWornPin)))
  | (xs_4, i_5) => (if (decide (i_5 < (w64 f0.fSteps))) = true then (loop (spec_FreshWear.l_12 f0 d1 i_5) (xs_4, 0)).bind fun t_13 => spec_FreshWear.k_9 i_5 t_13 else some (.inr xs_4))
def spec_FreshWear (f0 : GFrame) (d1 : Arr 96 Int) : Option (GWear × Int) := (spec_l02Asked f0 d1).bind fun t_1 => (if (t_1 != 0) = true then some ((⟨[], []⟩ : GWear), t_1) else (if 0 ≤ (f0.fHammers.length : Int) ∧ (f0.fHammers.length : Int) ≤ 17592186044416 then (loop (spec_FreshWear.l_6 f0 d1) ([], 0)).bind fun t_7 => spec_FreshWear.k_3 f0 t_7 else none))
theorem spec_FreshWear.calls (f0 : GFrame) (d1 : Arr 96 Int) (w : World) (r : GWear × Int) {C_a : Option Addr} {C_an : Nat} (C_c : Nat) (C_h : Rw w C_a 2 encGHammer f0.fHammers) (C_hn : f0.fHammers.length = C_an) (h : spec_FreshWear f0 d1 = some r) :
    Calls Tryz.prog 158 #[(.agg #[(.int .i16 f0.fSteps), (.slice C_a C_an C_c)]), (.agg (row encU32 d1.1 []).toArray)] w fun e w' => ∃ v, e = .returned v ∧ (∃ (o0 : Option Nat) (c0 : Nat) (s0 : List Value) (n0 : Nat), r.1.fPins.length = n0 ∧ (o0 ≠ none → n0 ≤ c0 ∧ s0.length = (c0 - n0) * 3) ∧ (o0 = none → r.1.fPins = [] ∧ c0 = 0) ∧ ∃ (o1 : Option Nat) (c1 : Nat) (s1 : List Value) (n1 : Nat), r.1.fStrokes.length = n1 ∧ (o1 ≠ none → n1 ≤ c1 ∧ s1.length = (c1 - n1) * 1) ∧ (o1 = none → r.1.fStrokes = [] ∧ c1 = 0) ∧ v = .tuple #[.agg #[.slice (o0.map fun b => ⟨b, 0, none⟩) n0 c0, .slice (o1.map fun b => ⟨b, 0, none⟩) n1 c1], (.int .i64 r.2)] ∧ Mem w [] [⟨o0, 147, row encGWornPin r.1.fPins s0⟩, ⟨o1, 2, row encI64 r.1.fStrokes s1⟩] w') := by
  subst C_hn
  rw [spec_FreshWear] at h
  refine enter (args := [(.agg #[(.int .i16 f0.fSteps), (.slice C_a f0.fHammers.length C_c)]), (.agg (row encU32 d1.1 []).toArray)]) Tryz.func158 rfl Tryz.ntmps158 (by kernel_rfl) (L := []) (W := []) (Mem.start w) ?_
  refine jc_seq (jc_region (tO (qa 0 (fun b_1 => jkO (tO (qa 0 (fun b_2 => jkO (tO (qa 0 (fun b_3 => jkO (qh [0] (qe (jx_then (jc_seq (jc_seq (jc_region ?_))))))))))))))))
  obtain ⟨t_1, ht_6, h⟩ := bd h
  refine tO (pc 0 (fun w hm => spec_l02Asked.calls f0 d1 w _ C_c (hm.xr C_h) rfl b_1 b_2 (hm.pass (N := [⟨some b_1, 27, [(.int .i16 f0.fSteps), (.slice C_a f0.fHammers.length C_c)]⟩, ⟨(some b_2), 34, row encU32 d1.1 []⟩]) [0, 1] (by kernel_rfl) (by kernel_rfl)) (hm.exApart (N := [⟨some b_1, 27, [(.int .i16 f0.fSteps), (.slice C_a f0.fHammers.length C_c)]⟩, ⟨(some b_2), 34, row encU32 d1.1 []⟩]) C_h (fun _ => List.not_mem_nil) [0, 1] (by kernel_rfl)) ht_6) ?_)
  rintro w v w' hm ⟨rfl, hm'⟩
  refine ⟨_, hm.appW (ps := [(0, ⟨some b_1, 27, [(.int .i16 f0.fSteps), (.slice C_a f0.fHammers.length C_c)]⟩), (1, ⟨(some b_2), 34, row encU32 d1.1 []⟩)]) (N := []) hm' (by kernel_rfl) (by kernel_rfl), jkO ?_⟩
  clear hm hm'
  refine qh [0] (qe (jx_then (jc_seq (jc_region (qh [0,0] (qe (jx_then (qi h (fun h => ?_) (fun h => ?_)))))))))
  ·refine jc_seq (jc_region (qh [0,0] (tO (qs 0 [2] (jkO (qh [0] (qe (jx_then (jc_ret (jx_thenr ?_))))))))))
   obtain rfl := Option.some.inj h
   exact jx_ghost 147 encGWornPin (jx_ghost 2 encI64 (qr [2] (fun w hm => ⟨none, 0, [], 0, rfl, (fun e => absurd rfl e), (fun _ => ⟨rfl, rfl⟩), none, 0, [], 0, rfl, (fun e => absurd rfl e), (fun _ => ⟨rfl, rfl⟩), rfl, hm.pk [3, 4]⟩)))
  ·refine jc_skip (jx_then (jc_seq (jc_region (qh [0,0,0] ?_))))
   obtain ⟨hg_1358, h⟩ := gd h
   refine tO (p_mk 0 2 (f0.fHammers.length : Int) 1 8 encI64 0 (by kernel_rfl) (by kernel_rfl) hg_1358.1 (by omega) (by kernel_rfl) (fun b_8 => jkO (qh [0] (tO (qa 0 (fun b_9 => jkO (tO (qs 0 [4] (jkO (qe (jx_then (jc_seq (jc_seq (jc_region (qh [0] (qe (jx_then (jc_meet (fun (j : (List GWornPin) × (Option Nat) × Nat × (List Value) × Nat) => match j with | ⟨xs_2, o_1018, cap_1019, sp_1020, n_1021⟩ => spec_FreshWear.k_3 f0 xs_2 = some r ∧ (xs_2.length = n_1021) ∧ ((o_1018 ≠ none → n_1021 ≤ cap_1019 ∧ sp_1020.length = (cap_1019 - n_1021) * 3)) ∧ ((o_1018 = none → xs_2 = [] ∧ cap_1019 = 0))) (fun (j : (List GWornPin) × (Option Nat) × Nat × (List Value) × Nat) => match j with | ⟨xs_2, o_1018, cap_1019, sp_1020, n_1021⟩ => [(4, [], (.pointer (some ⟨b_3, 0, none⟩))), (5, [], (.int .i64 0)), (7, [], (.pointer (some ⟨b_9, 0, none⟩)))]) (fun (j : (List GWornPin) × (Option Nat) × Nat × (List Value) × Nat) => match j with | ⟨xs_2, o_1018, cap_1019, sp_1020, n_1021⟩ => [⟨some b_1, 27, [(.int .i16 f0.fSteps), (.slice C_a f0.fHammers.length C_c)]⟩, ⟨(some b_2), 34, row encU32 d1.1 []⟩, ⟨some b_3, 62, [(.slice none 0 0), (.slice none 0 0)]⟩, ⟨(some b_8), 2, row encI64 (List.replicate (f0.fHammers.length : Int).toNat 0) []⟩, ⟨some b_9, 62, [(.slice (o_1018.map fun b => ⟨b, 0, none⟩) n_1021 cap_1019), (.slice (some ⟨b_8, 0, none⟩) ((f0.fHammers.length : Int).toNat) ((f0.fHammers.length : Int).toNat))]⟩, ⟨o_1018, 147, row encGWornPin xs_2 sp_1020⟩]) ?_ ?_))))))))))))))))))
   ·refine jc_block ?_
    obtain ⟨t_7, ht_1357, hr_1248⟩ := bd h
    refine jc_ghost 147 encGWornPin (jc_loop (fun (s : (List GWornPin) × Int) (x : (Option Nat) × Nat × (List Value) × Nat) => match s, x with | ⟨xs_4, i_5⟩, ⟨o_1242, cap_1243, sp_1244, n_1245⟩ => (xs_4.length = n_1245) ∧ ((o_1242 ≠ none → n_1245 ≤ cap_1243 ∧ sp_1244.length = (cap_1243 - n_1245) * 3)) ∧ ((o_1242 = none → xs_4 = [] ∧ cap_1243 = 0))) (fun (s : (List GWornPin) × Int) (x : (Option Nat) × Nat × (List Value) × Nat) => match s, x with | ⟨xs_4, i_5⟩, ⟨o_1242, cap_1243, sp_1244, n_1245⟩ => [(2, [], (.pointer (some ⟨b_1, 0, none⟩))), (3, [], (.pointer (some ⟨b_2, 0, none⟩))), (4, [], (.pointer (some ⟨b_3, 0, none⟩))), (5, [], (.int .i64 0)), (7, [], (.pointer (some ⟨b_9, 0, none⟩))), (8, [], (.int .i64 i_5))]) (fun (s : (List GWornPin) × Int) (x : (Option Nat) × Nat × (List Value) × Nat) => match s, x with | ⟨xs_4, i_5⟩, ⟨o_1242, cap_1243, sp_1244, n_1245⟩ => [⟨some b_1, 27, [(.int .i16 f0.fSteps), (.slice C_a f0.fHammers.length C_c)]⟩, ⟨(some b_2), 34, row encU32 d1.1 []⟩, ⟨some b_3, 62, [(.slice none 0 0), (.slice none 0 0)]⟩, ⟨(some b_8), 2, row encI64 (List.replicate (f0.fHammers.length : Int).toNat 0) []⟩, ⟨some b_9, 62, [(.slice (o_1242.map fun b => ⟨b, 0, none⟩) n_1245 cap_1243), (.slice (some ⟨b_8, 0, none⟩) ((f0.fHammers.length : Int).toNat) ((f0.fHammers.length : Int).toNat))]⟩, ⟨o_1242, 147, row encGWornPin xs_4 sp_1244⟩]) ht_1357 ⟨none, 0, [], 0⟩ ⟨rfl, (fun e => absurd rfl e), (fun _ => ⟨rfl, rfl⟩)⟩ (by kernel_rfl) [0, 1, 2, 3, 4, 5] (by kernel_rfl) (by kernel_rfl) ?_)
    rintro ⟨xs_4, i_5⟩ ⟨o_1242, cap_1243, sp_1244, n_1245⟩ y_1249 ⟨rfl, hs_1246, ho_1247⟩ h
    rw [spec_FreshWear.l_6] at h
    refine jc_seq (jc_seq (jc_region (qh [0,0,0,0,0] (qe (jx_then (qi h (fun h => ?_) (fun h => ?_)))))))
    ·refine jc_skip (jx_then (jc_seq (jc_block (jc_seq (jc_region (qh [0] (qe (jx_then (jc_meet (fun (j : (List GWornPin) × (Option Nat) × Nat × (List Value) × Nat) => match j with | ⟨xs_8, o_1301, cap_1302, sp_1303, n_1304⟩ => spec_FreshWear.k_9 i_5 xs_8 = some y_1249 ∧ (xs_8.length = n_1304) ∧ ((o_1301 ≠ none → n_1304 ≤ cap_1302 ∧ sp_1303.length = (cap_1302 - n_1304) * 3)) ∧ ((o_1301 = none → xs_8 = [] ∧ cap_1302 = 0))) (fun (j : (List GWornPin) × (Option Nat) × Nat × (List Value) × Nat) => match j with | ⟨xs_8, o_1301, cap_1302, sp_1303, n_1304⟩ => [(2, [], (.pointer (some ⟨b_1, 0, none⟩))), (3, [], (.pointer (some ⟨b_2, 0, none⟩))), (4, [], (.pointer (some ⟨b_3, 0, none⟩))), (5, [], (.int .i64 0)), (7, [], (.pointer (some ⟨b_9, 0, none⟩))), (8, [], (.int .i64 i_5))]) (fun (j : (List GWornPin) × (Option Nat) × Nat × (List Value) × Nat) => match j with | ⟨xs_8, o_1301, cap_1302, sp_1303, n_1304⟩ => [⟨some b_1, 27, [(.int .i16 f0.fSteps), (.slice C_a f0.fHammers.length C_c)]⟩, ⟨(some b_2), 34, row encU32 d1.1 []⟩, ⟨some b_3, 62, [(.slice none 0 0), (.slice none 0 0)]⟩, ⟨(some b_8), 2, row encI64 (List.replicate (f0.fHammers.length : Int).toNat 0) []⟩, ⟨some b_9, 62, [(.slice (o_1301.map fun b => ⟨b, 0, none⟩) n_1304 cap_1302), (.slice (some ⟨b_8, 0, none⟩) ((f0.fHammers.length : Int).toNat) ((f0.fHammers.length : Int).toNat))]⟩, ⟨o_1301, 147, row encGWornPin xs_8 sp_1303⟩]) ?_ ?_)))))))))
     ·refine jc_block ?_
      obtain ⟨t_13, ht_1355, hr_1341⟩ := bd h
      refine jc_loop (fun (s : (List GWornPin) × Int) (x : (Option Nat) × Nat × (List Value) × Nat) => match s, x with | ⟨xs_10, i_11⟩, ⟨o_1335, cap_1336, sp_1337, n_1338⟩ => (xs_10.length = n_1338) ∧ ((o_1335 ≠ none → n_1338 ≤ cap_1336 ∧ sp_1337.length = (cap_1336 - n_1338) * 3)) ∧ ((o_1335 = none → xs_10 = [] ∧ cap_1336 = 0))) (fun (s : (List GWornPin) × Int) (x : (Option Nat) × Nat × (List Value) × Nat) => match s, x with | ⟨xs_10, i_11⟩, ⟨o_1335, cap_1336, sp_1337, n_1338⟩ => [(2, [], (.pointer (some ⟨b_1, 0, none⟩))), (3, [], (.pointer (some ⟨b_2, 0, none⟩))), (4, [], (.pointer (some ⟨b_3, 0, none⟩))), (5, [], (.int .i64 0)), (7, [], (.pointer (some ⟨b_9, 0, none⟩))), (8, [], (.int .i64 i_5)), (9, [], (.int .i64 i_11))]) (fun (s : (List GWornPin) × Int) (x : (Option Nat) × Nat × (List Value) × Nat) => match s, x with | ⟨xs_10, i_11⟩, ⟨o_1335, cap_1336, sp_1337, n_1338⟩ => [⟨some b_1, 27, [(.int .i16 f0.fSteps), (.slice C_a f0.fHammers.length C_c)]⟩, ⟨(some b_2), 34, row encU32 d1.1 []⟩, ⟨some b_3, 62, [(.slice none 0 0), (.slice none 0 0)]⟩, ⟨(some b_8), 2, row encI64 (List.replicate (f0.fHammers.length : Int).toNat 0) []⟩, ⟨some b_9, 62, [(.slice (o_1335.map fun b => ⟨b, 0, none⟩) n_1338 cap_1336), (.slice (some ⟨b_8, 0, none⟩) ((f0.fHammers.length : Int).toNat) ((f0.fHammers.length : Int).toNat))]⟩, ⟨o_1335, 147, row encGWornPin xs_10 sp_1337⟩]) ht_1355 ⟨o_1242, cap_1243, sp_1244, xs_4.length⟩ ⟨rfl, hs_1246, ho_1247⟩ (by kernel_rfl) [0, 1, 2, 3, 4, 5] (by kernel_rfl) (by kernel_rfl) ?_
      rintro ⟨xs_10, i_11⟩ ⟨o_1335, cap_1336, sp_1337, n_1338⟩ y_1342 ⟨rfl, hs_1339, ho_1340⟩ h
      rw [spec_FreshWear.l_12] at h
      refine jc_seq (jc_seq (jc_region (qh [0,0,0,0,0] (qe (jx_then (qi h (fun h => ?_) (fun h => ?_)))))))
      ·refine jc_skip (jx_then (jc_seq (jc_block (jc_seq (jc_region (qh [0,0] ?_))))))
       obtain ⟨t_14, ht_1345, h⟩ := bd h
       refine tO (pc 0 (fun w hm => spec_l02Pin.calls d1 i_5 i_11 w _ b_2 (hm.pass (N := [⟨(some b_2), 34, row encU32 d1.1 []⟩]) [1] (by kernel_rfl) (by kernel_rfl)) ht_1345) ?_)
       rintro w v w' hm ⟨rfl, hm'⟩
       refine ⟨_, hm.appW (ps := [(1, ⟨(some b_2), 34, row encU32 d1.1 []⟩)]) (N := []) hm' (by kernel_rfl) (by kernel_rfl), jkO ?_⟩
       clear hm hm'
       refine qe (jx_then (qi h (fun h => ?_) (fun h => ?_)))
       ·refine jc_region (qh [0,4,0,0,0,0,0] (tO (qa 0 (fun b_1347 => jkO ?_))))
        obtain ⟨hg_1348, h⟩ := gd h
        exact tO (p_apn 0 5 o_1335 147 xs_10.length 1 cap_1336 3 16 (some ⟨b_1347, 0, none⟩) encGWornPin xs_10 ([(⟨(w8 i_5), (w8 i_11), 0⟩ : GWornPin)] : List GWornPin) sp_1337 (.agg #[(.int .i8 0), (.int .i8 0), (.int .i64 0)]) rfl rfl (by kernel_rfl) (by kernel_rfl) (by kernel_rfl) encGWornPin_len encGWornPin_cell hs_1339 ho_1340 (fun w hm => (hm.ow 6 (some b_1347) 147 ([(⟨(w8 i_5), (w8 i_11), 0⟩ : GWornPin)] : List GWornPin) [] (fun e => nomatch e) encGWornPin_len)) hg_1348 (by kernel_rfl) (by kernel_rfl) (fun o_1349 cap_1350 sp_1351 hs_1352 ho_1353 => jkO (qh [0] (tO (qs 0 [4] (jkO (qe (jx_inn (jx_then (jc_region (qh [0,0,0] (qe (qb ((xs_10 ++ ([(⟨(w8 i_5), (w8 i_11), 0⟩ : GWornPin)] : List GWornPin)), (w64 (i_11 + 1))) ⟨o_1349, cap_1350, sp_1351, (xs_10 ++ ([(⟨(w8 i_5), (w8 i_11), 0⟩ : GWornPin)] : List GWornPin)).length⟩ h ⟨rfl, hs_1352, ho_1353⟩ [0, 1, 2, 3, 4, 5])))))))))))))
       ·exact jc_skip (jx_inn (jx_then (jc_region (qh [0,0,0] (qe (qb (xs_10, (w64 (i_11 + 1))) ⟨o_1335, cap_1336, sp_1337, xs_10.length⟩ h ⟨rfl, hs_1339, ho_1340⟩ [0, 1, 2, 3, 4, 5]))))))
      ·refine jc_exit (jx_thenx (jx_leave xs_10 (Option.some.inj h).symm (fun e_1354 => ?_)))
       subst e_1354
       exact jx_ine (qm ⟨xs_10, o_1335, cap_1336, sp_1337, xs_10.length⟩ ⟨hr_1341, rfl, hs_1339, ho_1340⟩ [0, 1, 2, 3, 4, 5])
     ·rintro ⟨xs_8, o_1301, cap_1302, sp_1303, n_1304⟩ ⟨h, rfl, hs_1305, ho_1306⟩
      replace h : spec_FreshWear.k_9 i_5 xs_8 = some y_1249 := h
      rw [spec_FreshWear.k_9] at h
      exact jx_inn (jx_then (jc_region (qh [0,0,0] (qe (qb (xs_8, (w64 (i_5 + 1))) ⟨o_1301, cap_1302, sp_1303, xs_8.length⟩ h ⟨rfl, hs_1305, ho_1306⟩ [0, 1, 2, 3, 4, 5])))))
    ·refine jc_exit (jx_thenx (jx_leave xs_4 (Option.some.inj h).symm (fun e_1356 => ?_)))
     subst e_1356
     exact jx_ine (qm ⟨xs_4, o_1242, cap_1243, sp_1244, xs_4.length⟩ ⟨hr_1248, rfl, hs_1246, ho_1247⟩ [0, 1, 2, 3, 4, 5])
   ·rintro ⟨xs_2, o_1018, cap_1019, sp_1020, n_1021⟩ ⟨h, rfl, hs_1022, ho_1023⟩
    replace h : spec_FreshWear.k_3 f0 xs_2 = some r := h
    rw [spec_FreshWear.k_3] at h
    refine jx_then (jc_seq (jc_region (qh [4] (tO (qs 0 [2] (jkO (qh [0] (qe (jx_then (jc_ret ?_))))))))))
    obtain rfl := Option.some.inj h
    exact qr [2] (fun w hm => ⟨o_1018, cap_1019, sp_1020, xs_2.length, rfl, hs_1022, ho_1023, (some b_8), ((f0.fHammers.length : Int).toNat), [], ((f0.fHammers.length : Int).toNat), List.length_replicate, (fun _ => ⟨Nat.le_refl _, by simp⟩), (fun e => nomatch e), rfl, hm.pk [5, 3]⟩)
/-! ### spec.l06Drawn -/
def spec_l06Drawn.k_12 (s0 : Gl00Src) (xs_5 : List GWornPin) (xs_9 : List Int) (i_10 : Int) (i_11 : Int) : Option (GWear × Gl00Src) := some ((⟨xs_5, xs_9⟩ : GWear), (⟨s0.fcode, i_10, i_11⟩ : Gl00Src))
def spec_l06Drawn.l_17 (s0 : Gl00Src) (xs_3 : List Int) : ((List Int) × Int × Int × Int) → Option (((List Int) × Int × Int × Int) ⊕ (((List Int) × Int × Int)))
  | (xs_13, i_14, i_15, i_16) => (if (decide (i_16 < (xs_3.length : Int))) = true then (spec_l00Src_pick (⟨s0.fcode, i_14, i_15⟩ : Gl00Src) 12).bind fun t_19 => (ix xs_13 i_16).bind fun x_20 => some (.inl ((xs_13.set i_16.toNat t_19.1), t_19.2.fat, t_19.2.fseed, (w64 (i_16 + 1)))) else some (.inr (xs_13, i_14, i_15)))
def spec_l06Drawn.k_8 (s0 : Gl00Src) (xs_3 : List Int) (xs_5 : List GWornPin) (i_6 : Int) (i_7 : Int) : Option (GWear × Gl00Src) := (loop (spec_l06Drawn.l_17 s0 xs_3) (xs_3, i_6, i_7, 0)).bind fun t_18 => spec_l06Drawn.k_12 s0 xs_5 t_18.1 t_18.2.1 t_18.2.2
def spec_l06Drawn.l_25 (s0 : Gl00Src) (xs_2 : List GWornPin) : ((List GWornPin) × Int × Int × Int) → Option (((List GWornPin) × Int × Int × Int) ⊕ (((List GWornPin) × Int × Int)))
  | (xs_21, i_22, i_23, i_24) => (if (decide (i_24 < (xs_2.length : Int))) = true then (spec_l00Src_pick (⟨s0.fcode, i_22, i_23⟩ : Gl00Src) 12).bind fun t_27 => (ix xs_21 i_24).bind fun x_28 => some (.inl ((xs_21.set i_24.toNat (⟨x_28.fStep, x_28.fTrack, t_27.1⟩ : GWornPin)), t_27.2.fat, t_27.2.fseed, (w64 (i_24 + 1)))) else some (.inr (xs_21, i_22, i_23)))
def spec_l06Drawn.k_4 (s0 : Gl00Src) (t_1 : (Arr 96 Int) × Gl00Src) (xs_2 : List GWornPin) (xs_3 : List Int) : Option (GWear × Gl00Src) := (loop (spec_l06Drawn.l_25 s0 xs_2) (xs_2, t_1.2.fat, t_1.2.fseed, 0)).bind fun t_26 => spec_l06Drawn.k_8 s0 xs_3 t_26.1 t_26.2.1 t_26.2.2
def spec_l06Drawn (s0 : Gl00Src) (f1 : GFrame) : Option (GWear × Gl00Src) := (spec_l02Drawn s0 f1).bind fun t_1 => (spec_FreshWear f1 t_1.1).bind fun t_29 => spec_l06Drawn.k_4 s0 t_1 t_29.1.fPins t_29.1.fStrokes
theorem spec_l06Drawn.calls (s0 : Gl00Src) (f1 : GFrame) (w : World) (r : GWear × Gl00Src) {B_a : Option Addr} {B_an : Nat} (B_c : Nat) (B_h : Rw w B_a 1 encU8 s0.fcode) (B_hn : s0.fcode.length = B_an) {G_a : Option Addr} {G_an : Nat} (G_c : Nat) (G_h : Rw w G_a 2 encGHammer f1.fHammers) (G_hn : f1.fHammers.length = G_an) (A_b : Nat) (E_b : Nat) (hm0 : Mem w (bs [some A_b, some E_b]) [⟨some A_b, 187, [(.slice B_a B_an B_c), (.int .i64 s0.fat), (.int .u64 s0.fseed)]⟩, ⟨some E_b, 27, [(.int .i16 f1.fSteps), (.slice G_a G_an G_c)]⟩] w) (B_ha : s0.fcode ≠ [] → aB B_a ∉ bs [some A_b, some E_b]) (G_ha : f1.fHammers ≠ [] → aB G_a ∉ bs [some A_b, some E_b]) (h : spec_l06Drawn s0 f1 = some r) :
    Calls Tryz.prog 84 #[(.pointer (some ⟨A_b, 0, none⟩)), (.pointer (some ⟨E_b, 0, none⟩))] w fun e w' => ∃ v, e = .returned v ∧ (∃ (o0 : Option Nat) (c0 : Nat) (s0 : List Value) (n0 : Nat), r.1.fPins.length = n0 ∧ (o0 ≠ none → n0 ≤ c0 ∧ s0.length = (c0 - n0) * 3) ∧ (o0 = none → r.1.fPins = [] ∧ c0 = 0) ∧ ∃ (o1 : Option Nat) (c1 : Nat) (s1 : List Value) (n1 : Nat), r.1.fStrokes.length = n1 ∧ (o1 ≠ none → n1 ≤ c1 ∧ s1.length = (c1 - n1) * 1) ∧ (o1 = none → r.1.fStrokes = [] ∧ c1 = 0) ∧ v = .agg #[.slice (o0.map fun b => ⟨b, 0, none⟩) n0 c0, .slice (o1.map fun b => ⟨b, 0, none⟩) n1 c1] ∧ Mem w (bs [some A_b, some E_b]) [⟨some A_b, 187, [(.slice B_a B_an B_c), (.int .i64 r.2.fat), (.int .u64 r.2.fseed)]⟩, ⟨some E_b, 27, [(.int .i16 f1.fSteps), (.slice G_a G_an G_c)]⟩, ⟨o0, 147, row encGWornPin r.1.fPins s0⟩, ⟨o1, 2, row encI64 r.1.fStrokes s1⟩] w') := by
  subst B_hn G_hn
  rw [spec_l06Drawn] at h
  refine enter (args := [(.pointer (some ⟨A_b, 0, none⟩)), (.pointer (some ⟨E_b, 0, none⟩))]) Tryz.func84 rfl Tryz.ntmps84 (by kernel_rfl) (L := [⟨some A_b, 187, [(.slice B_a s0.fcode.length B_c), (.int .i64 s0.fat), (.int .u64 s0.fseed)]⟩, ⟨some E_b, 27, [(.int .i16 f1.fSteps), (.slice G_a f1.fHammers.length G_c)]⟩]) (W := bs [some A_b, some E_b]) hm0 ?_
  refine jc_seq (jc_region (tO (qa 0 (fun b_1 => jkO (qe (jx_then (jc_seq (jc_region (qh [0,0] ?_)))))))))
  obtain ⟨t_1, ht_2, h⟩ := bd h
  refine tO (pc 0 (fun w hm => spec_l02Drawn.calls s0 f1 w _ B_c (hm.exRowW B_h B_ha) rfl G_c (hm.exRowW G_h G_ha) rfl A_b E_b (hm.pass (N := [⟨some A_b, 187, [(.slice B_a s0.fcode.length B_c), (.int .i64 s0.fat), (.int .u64 s0.fseed)]⟩, ⟨some E_b, 27, [(.int .i16 f1.fSteps), (.slice G_a f1.fHammers.length G_c)]⟩]) [0, 1] (by kernel_rfl) (by kernel_rfl)) (hm.exApart (N := [⟨some A_b, 187, [(.slice B_a s0.fcode.length B_c), (.int .i64 s0.fat), (.int .u64 s0.fseed)]⟩, ⟨some E_b, 27, [(.int .i16 f1.fSteps), (.slice G_a f1.fHammers.length G_c)]⟩]) B_h B_ha [0, 1] (by kernel_rfl)) (hm.exApart (N := [⟨some A_b, 187, [(.slice B_a s0.fcode.length B_c), (.int .i64 s0.fat), (.int .u64 s0.fseed)]⟩, ⟨some E_b, 27, [(.int .i16 f1.fSteps), (.slice G_a f1.fHammers.length G_c)]⟩]) G_h G_ha [0, 1] (by kernel_rfl)) ht_2) ?_)
  rintro w v w' hm ⟨rfl, hm'⟩
  refine ⟨_, hm.appW (ps := [(0, ⟨some A_b, 187, [(.slice B_a s0.fcode.length B_c), (.int .i64 t_1.2.fat), (.int .u64 t_1.2.fseed)]⟩), (1, ⟨some E_b, 27, [(.int .i16 f1.fSteps), (.slice G_a f1.fHammers.length G_c)]⟩)]) (N := []) hm' (by kernel_rfl) (by kernel_rfl), jkO ?_⟩
  clear hm hm'
  refine tO (qa 0 (fun b_3 => jkO (tO (p_sA 0 3 b_3 96 1 34 encU32 (Arr.rep 96 0) t_1.1 (by kernel_rfl) (by kernel_rfl) (by kernel_rfl) encU32_len encU32_cell (by kernel_rfl) (jkO (qe (jx_then (jc_seq (jc_meet (fun (j : (List GWornPin) × (List Int) × Nat × (Option Nat) × Nat × (List Value) × Nat × (Option Nat) × Nat × (List Value) × Nat) => match j with | ⟨xs_2, xs_3, b_28, o_29, cap_30, sp_31, n_32, o_35, cap_36, sp_37, n_38⟩ => spec_l06Drawn.k_4 s0 t_1 xs_2 xs_3 = some r ∧ (xs_2.length = n_32) ∧ ((o_29 ≠ none → n_32 ≤ cap_30 ∧ sp_31.length = (cap_30 - n_32) * 3)) ∧ ((o_29 = none → xs_2 = [] ∧ cap_30 = 0)) ∧ (xs_3.length = n_38) ∧ ((o_35 ≠ none → n_38 ≤ cap_36 ∧ sp_37.length = (cap_36 - n_38) * 1)) ∧ ((o_35 = none → xs_3 = [] ∧ cap_36 = 0))) (fun (j : (List GWornPin) × (List Int) × Nat × (Option Nat) × Nat × (List Value) × Nat × (Option Nat) × Nat × (List Value) × Nat) => match j with | ⟨xs_2, xs_3, b_28, o_29, cap_30, sp_31, n_32, o_35, cap_36, sp_37, n_38⟩ => [(0, [], (.pointer (some ⟨A_b, 0, none⟩))), (4, [], (.pointer (some ⟨b_1, 0, none⟩))), (6, [], (.pointer (some ⟨b_28, 0, none⟩)))]) (fun (j : (List GWornPin) × (List Int) × Nat × (Option Nat) × Nat × (List Value) × Nat × (Option Nat) × Nat × (List Value) × Nat) => match j with | ⟨xs_2, xs_3, b_28, o_29, cap_30, sp_31, n_32, o_35, cap_36, sp_37, n_38⟩ => [⟨some A_b, 187, [(.slice B_a s0.fcode.length B_c), (.int .i64 t_1.2.fat), (.int .u64 t_1.2.fseed)]⟩, ⟨some E_b, 27, [(.int .i16 f1.fSteps), (.slice G_a f1.fHammers.length G_c)]⟩, ⟨some b_1, 62, [(.slice none 0 0), (.slice none 0 0)]⟩, ⟨(some b_3), 34, row encU32 t_1.1.1 []⟩, ⟨some b_28, 62, [(.slice (o_29.map fun b => ⟨b, 0, none⟩) n_32 cap_30), (.slice (o_35.map fun b => ⟨b, 0, none⟩) n_38 cap_36)]⟩, ⟨o_29, 147, row encGWornPin xs_2 sp_31⟩, ⟨o_35, 2, row encI64 xs_3 sp_37⟩]) ?_ ?_)))))))))
  ·refine qg [⟨some A_b, 187, [(.slice B_a s0.fcode.length B_c), (.int .i64 t_1.2.fat), (.int .u64 t_1.2.fseed)]⟩, ⟨some E_b, 27, [(.int .i16 f1.fSteps), (.slice G_a f1.fHammers.length G_c)]⟩, ⟨some b_1, 62, [(.slice none 0 0), (.slice none 0 0)]⟩, ⟨(some b_3), 34, row encU32 t_1.1.1 []⟩] 11 (qd [⟨0, 0, 0⟩,⟨1, 0, 0⟩,⟨2, 1, 0⟩] 8 [0, 1, 2, 3] (qv 3 0 [0, 1, 2, 3] (fun w hm => ld_run (b := b_3) (off := 0) (s := 96) (agg := true) (vs := row encU32 t_1.1.1 []) (by kernel_rfl) ((row_len encU32_len t_1.1).trans rfl) (.inl rfl) (hm.all (hh := 3) (T := 34) (by kernel_rfl))) (toD2 4 8 (by kernel_rfl) ?_ ?_)))
   ·obtain ⟨t_29, ht_257, h⟩ := bd h
    refine pc 0 (fun w hm => spec_FreshWear.calls f1 t_1.1 w _ G_c (hm.exRowW G_h G_ha) rfl ht_257) ?_
    rintro w v w' hm ⟨o_258, cap_259, sp_260, _, rfl, hs_261, ho_262, o_263, cap_264, sp_265, _, rfl, hs_266, ho_267, rfl, hm'⟩
    refine ⟨_, hm.app hm', kD [0, 1, 2, 3] ?_⟩
    clear hm hm'
    exact qd [⟨5, 0, 0⟩,⟨6, 0, 0⟩,⟨7, 0, 0⟩] 3 [0, 1, 2, 3] (tD 8 (qa 0 (fun b_268 => kD [0, 1, 2, 3] (tD 9 (qs 0 [6] (kD [0, 1, 2, 3] (qd [⟨10, 0, 0⟩] 0 [0, 1, 2, 3] (qz (qm ⟨t_29.1.fPins, t_29.1.fStrokes, b_268, o_258, cap_259, sp_260, t_29.1.fPins.length, o_263, cap_264, sp_265, t_29.1.fStrokes.length⟩ ⟨h, rfl, hs_261, ho_262, rfl, hs_266, ho_267⟩ [0, 1, 2, 3, 6, 4, 5])))))))))
   ·refine qa 0 (fun b_269 => kD [0, 1, 2, 3] ?_)
    obtain ⟨t_29, ht_270, h⟩ := bd h
    refine tD 4 (pc 0 (fun w hm => spec_FreshWear.calls f1 t_1.1 w _ G_c (hm.exRowW G_h G_ha) rfl ht_270) ?_)
    rintro w v w' hm ⟨o_271, cap_272, sp_273, _, rfl, hs_274, ho_275, o_276, cap_277, sp_278, _, rfl, hs_279, ho_280, rfl, hm'⟩
    refine ⟨_, hm.app hm', kD [0, 1, 2, 3] ?_⟩
    clear hm hm'
    exact qd [⟨5, 0, 0⟩,⟨6, 0, 0⟩,⟨7, 0, 0⟩] 2 [0, 1, 2, 3] (tD 9 (qs 0 [4] (kD [0, 1, 2, 3] (qd [⟨10, 0, 0⟩] 0 [0, 1, 2, 3] (qz (qm ⟨t_29.1.fPins, t_29.1.fStrokes, b_269, o_271, cap_272, sp_273, t_29.1.fPins.length, o_276, cap_277, sp_278, t_29.1.fStrokes.length⟩ ⟨h, rfl, hs_274, ho_275, rfl, hs_279, ho_280⟩ [0, 1, 2, 3, 4, 5, 6]))))))
  ·rintro ⟨xs_2, xs_3, b_28, o_29, cap_30, sp_31, n_32, o_35, cap_36, sp_37, n_38⟩ ⟨h, rfl, hs_33, ho_34, rfl, hs_39, ho_40⟩
   replace h : spec_l06Drawn.k_4 s0 t_1 xs_2 xs_3 = some r := h
   rw [spec_l06Drawn.k_4] at h
   refine jx_then (jc_seq (jc_seq (jc_region (qh [0] (qe (jx_then (jc_meet (fun (j : (List GWornPin) × Int × Int) => match j with | ⟨xs_5, i_6, i_7⟩ => spec_l06Drawn.k_8 s0 xs_3 xs_5 i_6 i_7 = some r ∧ (xs_5.length = xs_2.length) ∧ ((o_29 = none → xs_5 = [] ∧ cap_30 = 0))) (fun (j : (List GWornPin) × Int × Int) => match j with | ⟨xs_5, i_6, i_7⟩ => [(0, [], (.pointer (some ⟨A_b, 0, none⟩))), (4, [], (.pointer (some ⟨b_1, 0, none⟩))), (6, [], (.pointer (some ⟨b_28, 0, none⟩)))]) (fun (j : (List GWornPin) × Int × Int) => match j with | ⟨xs_5, i_6, i_7⟩ => [⟨some A_b, 187, [(.slice B_a s0.fcode.length B_c), (.int .i64 i_6), (.int .u64 i_7)]⟩, ⟨some E_b, 27, [(.int .i16 f1.fSteps), (.slice G_a f1.fHammers.length G_c)]⟩, ⟨some b_1, 62, [(.slice none 0 0), (.slice none 0 0)]⟩, ⟨(some b_3), 34, row encU32 t_1.1.1 []⟩, ⟨some b_28, 62, [(.slice (o_29.map fun b => ⟨b, 0, none⟩) xs_2.length cap_30), (.slice (o_35.map fun b => ⟨b, 0, none⟩) xs_3.length cap_36)]⟩, ⟨o_29, 147, row encGWornPin xs_5 sp_31⟩, ⟨o_35, 2, row encI64 xs_3 sp_37⟩]) ?_ ?_)))))))
   ·refine jc_block ?_
    obtain ⟨t_26, ht_256, hr_247⟩ := bd h
    refine jc_loop (fun (s : (List GWornPin) × Int × Int × Int) (x : Unit) => match s, x with | ⟨xs_21, i_22, i_23, i_24⟩, _ => (xs_21.length = xs_2.length) ∧ ((o_29 = none → xs_21 = [] ∧ cap_30 = 0))) (fun (s : (List GWornPin) × Int × Int × Int) (x : Unit) => match s, x with | ⟨xs_21, i_22, i_23, i_24⟩, _ => [(0, [], (.pointer (some ⟨A_b, 0, none⟩))), (4, [], (.pointer (some ⟨b_1, 0, none⟩))), (6, [], (.pointer (some ⟨b_28, 0, none⟩))), (8, [], (.int .i64 i_24))]) (fun (s : (List GWornPin) × Int × Int × Int) (x : Unit) => match s, x with | ⟨xs_21, i_22, i_23, i_24⟩, _ => [⟨some A_b, 187, [(.slice B_a s0.fcode.length B_c), (.int .i64 i_22), (.int .u64 i_23)]⟩, ⟨some E_b, 27, [(.int .i16 f1.fSteps), (.slice G_a f1.fHammers.length G_c)]⟩, ⟨some b_1, 62, [(.slice none 0 0), (.slice none 0 0)]⟩, ⟨(some b_3), 34, row encU32 t_1.1.1 []⟩, ⟨some b_28, 62, [(.slice (o_29.map fun b => ⟨b, 0, none⟩) xs_2.length cap_30), (.slice (o_35.map fun b => ⟨b, 0, none⟩) xs_3.length cap_36)]⟩, ⟨o_29, 147, row encGWornPin xs_21 sp_31⟩, ⟨o_35, 2, row encI64 xs_3 sp_37⟩]) ht_256 () ⟨rfl, ho_34⟩ (by kernel_rfl) [0, 1, 2, 3, 4, 5, 6] (by kernel_rfl) (by kernel_rfl) ?_
    rintro ⟨xs_21, i_22, i_23, i_24⟩ _ y_248 ⟨hn_246, ho_245⟩ h
    rw [spec_l06Drawn.l_25] at h
    refine jc_seq (jc_seq (jc_region (qh [0,0,4,0,0] (qe (jx_then (qi h (fun h => ?_) (fun h => ?_)))))))
    ·refine jc_skip (jx_then (jc_seq (jc_block (qg [⟨some E_b, 27, [(.int .i16 f1.fSteps), (.slice G_a f1.fHammers.length G_c)]⟩, ⟨some b_1, 62, [(.slice none 0 0), (.slice none 0 0)]⟩, ⟨(some b_3), 34, row encU32 t_1.1.1 []⟩, ⟨some b_28, 62, [(.slice (o_29.map fun b => ⟨b, 0, none⟩) xs_2.length cap_30), (.slice (o_35.map fun b => ⟨b, 0, none⟩) xs_3.length cap_36)]⟩, ⟨o_35, 2, row encI64 xs_3 sp_37⟩] 8 (qd [⟨0, 0, 0⟩,⟨1, 3, 0⟩,⟨2, 0, 0⟩,⟨3, 0, 0⟩] 4 [1, 2, 3, 4, 6] ?_)))))
     obtain ⟨t_27, ht_253, h⟩ := bd h
     refine tD 4 (pc 0 (fun w hm => spec_l00Src_pick.calls (⟨s0.fcode, i_22, i_23⟩ : Gl00Src) 12 w _ B_c (hm.exRowW B_h B_ha) rfl A_b (hm.pass (N := [⟨some A_b, 187, [(.slice B_a s0.fcode.length B_c), (.int .i64 i_22), (.int .u64 i_23)]⟩]) [0] (by kernel_rfl) (by kernel_rfl)) (hm.exApart (N := [⟨some A_b, 187, [(.slice B_a s0.fcode.length B_c), (.int .i64 i_22), (.int .u64 i_23)]⟩]) B_h B_ha [0] (by kernel_rfl)) ht_253) ?_)
     rintro w v w' hm ⟨rfl, hm'⟩
     refine ⟨_, hm.appW (ps := [(0, ⟨some A_b, 187, [(.slice B_a s0.fcode.length B_c), (.int .i64 t_27.2.fat), (.int .u64 t_27.2.fseed)]⟩)]) (N := []) hm' (by kernel_rfl) (by kernel_rfl), kD [1, 2, 3, 4, 6] ?_⟩
     clear hm hm'
     obtain ⟨x_28, hx_254, h⟩ := bd h
     exact qv 5 0 [1, 2, 3, 4, 6] (fun w hm => idx_run (a := (o_29.map fun b => ⟨b, 0, none⟩)) (len := xs_2.length) (s := 3) (j := i_24) (by kernel_rfl) (ix_some hx_254).1 (ltn hx_254 hn_246) (spo ho_245 hx_254)) (qd [⟨6, 0, 0⟩] 1 [1, 2, 3, 4, 6] (tD 7 (p_strO 0 5 o_29 147 encGWornPin xs_21 sp_31 i_24 (⟨x_28.fStep, x_28.fTrack, t_27.1⟩ : GWornPin) 3 2 [(.int .i64 t_27.1)] (by kernel_rfl) (by kernel_rfl) (by kernel_rfl) (fun e => (ho_245 e).1) encGWornPin_len hx_254 (by kernel_rfl) (by kernel_rfl) (kD [1, 2, 3, 4, 6] (qz (jx_inn (jx_then (jc_region (qh [0,0,0] (qe (qb ((xs_21.set i_24.toNat (⟨x_28.fStep, x_28.fTrack, t_27.1⟩ : GWornPin)), t_27.2.fat, t_27.2.fseed, (w64 (i_24 + 1))) () h ⟨(List.length_set.trans hn_246), (set_ho ho_245)⟩ [0, 1, 2, 3, 4, 5, 6])))))))))))
    ·refine jc_exit (jx_thenx (jx_leave (xs_21, i_22, i_23) (Option.some.inj h).symm (fun e_255 => ?_)))
     subst e_255
     exact jx_ine (qm ⟨xs_21, i_22, i_23⟩ ⟨hr_247, hn_246, ho_245⟩ [0, 1, 2, 3, 4, 5, 6])
   ·rintro ⟨xs_5, i_6, i_7⟩ ⟨h, hn_122, ho_121⟩
    replace h : spec_l06Drawn.k_8 s0 xs_3 xs_5 i_6 i_7 = some r := h
    rw [spec_l06Drawn.k_8] at h
    refine jx_then (jc_seq (jc_seq (jc_region (qh [0] (qe (jx_then (jc_meet (fun (j : (List Int) × Int × Int) => match j with | ⟨xs_9, i_10, i_11⟩ => spec_l06Drawn.k_12 s0 xs_5 xs_9 i_10 i_11 = some r ∧ (xs_9.length = xs_3.length) ∧ ((o_35 = none → xs_9 = [] ∧ cap_36 = 0))) (fun (j : (List Int) × Int × Int) => match j with | ⟨xs_9, i_10, i_11⟩ => [(4, [], (.pointer (some ⟨b_1, 0, none⟩))), (6, [], (.pointer (some ⟨b_28, 0, none⟩)))]) (fun (j : (List Int) × Int × Int) => match j with | ⟨xs_9, i_10, i_11⟩ => [⟨some A_b, 187, [(.slice B_a s0.fcode.length B_c), (.int .i64 i_10), (.int .u64 i_11)]⟩, ⟨some E_b, 27, [(.int .i16 f1.fSteps), (.slice G_a f1.fHammers.length G_c)]⟩, ⟨some b_1, 62, [(.slice none 0 0), (.slice none 0 0)]⟩, ⟨(some b_3), 34, row encU32 t_1.1.1 []⟩, ⟨some b_28, 62, [(.slice (o_29.map fun b => ⟨b, 0, none⟩) xs_2.length cap_30), (.slice (o_35.map fun b => ⟨b, 0, none⟩) xs_3.length cap_36)]⟩, ⟨o_29, 147, row encGWornPin xs_5 sp_31⟩, ⟨o_35, 2, row encI64 xs_9 sp_37⟩]) ?_ ?_)))))))
    ·refine jc_block ?_
     obtain ⟨t_18, ht_230, hr_221⟩ := bd h
     refine jc_loop (fun (s : (List Int) × Int × Int × Int) (x : Unit) => match s, x with | ⟨xs_13, i_14, i_15, i_16⟩, _ => (xs_13.length = xs_3.length) ∧ ((o_35 = none → xs_13 = [] ∧ cap_36 = 0))) (fun (s : (List Int) × Int × Int × Int) (x : Unit) => match s, x with | ⟨xs_13, i_14, i_15, i_16⟩, _ => [(0, [], (.pointer (some ⟨A_b, 0, none⟩))), (4, [], (.pointer (some ⟨b_1, 0, none⟩))), (6, [], (.pointer (some ⟨b_28, 0, none⟩))), (9, [], (.int .i64 i_16))]) (fun (s : (List Int) × Int × Int × Int) (x : Unit) => match s, x with | ⟨xs_13, i_14, i_15, i_16⟩, _ => [⟨some A_b, 187, [(.slice B_a s0.fcode.length B_c), (.int .i64 i_14), (.int .u64 i_15)]⟩, ⟨some E_b, 27, [(.int .i16 f1.fSteps), (.slice G_a f1.fHammers.length G_c)]⟩, ⟨some b_1, 62, [(.slice none 0 0), (.slice none 0 0)]⟩, ⟨(some b_3), 34, row encU32 t_1.1.1 []⟩, ⟨some b_28, 62, [(.slice (o_29.map fun b => ⟨b, 0, none⟩) xs_2.length cap_30), (.slice (o_35.map fun b => ⟨b, 0, none⟩) xs_3.length cap_36)]⟩, ⟨o_29, 147, row encGWornPin xs_5 sp_31⟩, ⟨o_35, 2, row encI64 xs_13 sp_37⟩]) ht_230 () ⟨rfl, ho_40⟩ (by kernel_rfl) [0, 1, 2, 3, 4, 5, 6] (by kernel_rfl) (by kernel_rfl) ?_
     rintro ⟨xs_13, i_14, i_15, i_16⟩ _ y_222 ⟨hn_220, ho_219⟩ h
     rw [spec_l06Drawn.l_17] at h
     refine jc_seq (jc_seq (jc_region (qh [0,0,4,0,0] (qe (jx_then (qi h (fun h => ?_) (fun h => ?_)))))))
     ·refine jc_skip (jx_then (jc_seq (jc_block (qg [⟨some E_b, 27, [(.int .i16 f1.fSteps), (.slice G_a f1.fHammers.length G_c)]⟩, ⟨some b_1, 62, [(.slice none 0 0), (.slice none 0 0)]⟩, ⟨(some b_3), 34, row encU32 t_1.1.1 []⟩, ⟨some b_28, 62, [(.slice (o_29.map fun b => ⟨b, 0, none⟩) xs_2.length cap_30), (.slice (o_35.map fun b => ⟨b, 0, none⟩) xs_3.length cap_36)]⟩, ⟨o_29, 147, row encGWornPin xs_5 sp_31⟩] 7 (qd [⟨0, 0, 0⟩,⟨1, 3, 0⟩,⟨2, 0, 0⟩,⟨3, 0, 0⟩] 3 [1, 2, 3, 4, 5] ?_)))))
      obtain ⟨t_19, ht_227, h⟩ := bd h
      refine tD 4 (pc 0 (fun w hm => spec_l00Src_pick.calls (⟨s0.fcode, i_14, i_15⟩ : Gl00Src) 12 w _ B_c (hm.exRowW B_h B_ha) rfl A_b (hm.pass (N := [⟨some A_b, 187, [(.slice B_a s0.fcode.length B_c), (.int .i64 i_14), (.int .u64 i_15)]⟩]) [0] (by kernel_rfl) (by kernel_rfl)) (hm.exApart (N := [⟨some A_b, 187, [(.slice B_a s0.fcode.length B_c), (.int .i64 i_14), (.int .u64 i_15)]⟩]) B_h B_ha [0] (by kernel_rfl)) ht_227) ?_)
      rintro w v w' hm ⟨rfl, hm'⟩
      refine ⟨_, hm.appW (ps := [(0, ⟨some A_b, 187, [(.slice B_a s0.fcode.length B_c), (.int .i64 t_19.2.fat), (.int .u64 t_19.2.fseed)]⟩)]) (N := []) hm' (by kernel_rfl) (by kernel_rfl), kD [1, 2, 3, 4, 5] ?_⟩
      clear hm hm'
      obtain ⟨x_20, hx_228, h⟩ := bd h
      exact qv 5 0 [1, 2, 3, 4, 5] (fun w hm => idx_run (a := (o_35.map fun b => ⟨b, 0, none⟩)) (len := xs_3.length) (s := 1) (j := i_16) (by kernel_rfl) (ix_some hx_228).1 (ltn hx_228 hn_220) (spo ho_219 hx_228)) (tD 6 (p_strO 0 6 o_35 2 encI64 xs_13 sp_37 i_16 t_19.1 1 0 [(.int .i64 t_19.1)] (by kernel_rfl) (by kernel_rfl) (by kernel_rfl) (fun e => (ho_219 e).1) encI64_len hx_228 (by kernel_rfl) (by kernel_rfl) (kD [1, 2, 3, 4, 5] (qz (jx_inn (jx_then (jc_region (qh [0,0,0] (qe (qb ((xs_13.set i_16.toNat t_19.1), t_19.2.fat, t_19.2.fseed, (w64 (i_16 + 1))) () h ⟨(List.length_set.trans hn_220), (set_ho ho_219)⟩ [0, 1, 2, 3, 4, 5, 6]))))))))))
     ·refine jc_exit (jx_thenx (jx_leave (xs_13, i_14, i_15) (Option.some.inj h).symm (fun e_229 => ?_)))
      subst e_229
      exact jx_ine (qm ⟨xs_13, i_14, i_15⟩ ⟨hr_221, hn_220, ho_219⟩ [0, 1, 2, 3, 4, 5, 6])
    ·rintro ⟨xs_9, i_10, i_11⟩ ⟨h, hn_204, ho_203⟩
     replace h : spec_l06Drawn.k_12 s0 xs_5 xs_9 i_10 i_11 = some r := h
     rw [spec_l06Drawn.k_12] at h
     refine jx_then (jc_seq (jc_region (qh [4] (tO (qs 0 [2] (jkO (qe (jx_then (jc_ret ?_)))))))))
     obtain rfl := Option.some.inj h
     exact qr [2] (fun w hm => ⟨o_29, cap_30, sp_31, xs_2.length, hn_122, hs_33, ho_121, o_35, cap_36, sp_37, xs_3.length, hn_204, hs_39, ho_203, rfl, hm.pk [0, 1, 5, 6]⟩)
/-! ### spec.P6Wear -/
def spec_P6Wear (code0 : List Int) (f1 : GFrame) : Option (GWear) := (spec_l00From code0).bind fun t_1 => (spec_l06Drawn (⟨code0, t_1.fat, t_1.fseed⟩ : Gl00Src) f1).bind fun t_2 => some t_2.1
theorem spec_P6Wear.calls (code0 : List Int) (f1 : GFrame) (w : World) (r : GWear) {A_a : Option Addr} {A_an : Nat} (A_c : Nat) (A_h : Rw w A_a 1 encU8 code0) (A_hn : code0.length = A_an) {D_a : Option Addr} {D_an : Nat} (D_c : Nat) (D_h : Rw w D_a 2 encGHammer f1.fHammers) (D_hn : f1.fHammers.length = D_an) (h : spec_P6Wear code0 f1 = some r) :
    Calls Tryz.prog 28 #[(.slice A_a A_an A_c), (.agg #[(.int .i16 f1.fSteps), (.slice D_a D_an D_c)])] w fun e w' => ∃ v, e = .returned v ∧ (∃ (o0 : Option Nat) (c0 : Nat) (s0 : List Value) (n0 : Nat), r.fPins.length = n0 ∧ (o0 ≠ none → n0 ≤ c0 ∧ s0.length = (c0 - n0) * 3) ∧ (o0 = none → r.fPins = [] ∧ c0 = 0) ∧ ∃ (o1 : Option Nat) (c1 : Nat) (s1 : List Value) (n1 : Nat), r.fStrokes.length = n1 ∧ (o1 ≠ none → n1 ≤ c1 ∧ s1.length = (c1 - n1) * 1) ∧ (o1 = none → r.fStrokes = [] ∧ c1 = 0) ∧ v = .agg #[.slice (o0.map fun b => ⟨b, 0, none⟩) n0 c0, .slice (o1.map fun b => ⟨b, 0, none⟩) n1 c1] ∧ Mem w [] [⟨o0, 147, row encGWornPin r.fPins s0⟩, ⟨o1, 2, row encI64 r.fStrokes s1⟩] w') := by
  subst A_hn D_hn
  rw [spec_P6Wear] at h
  refine enter (args := [(.slice A_a code0.length A_c), (.agg #[(.int .i16 f1.fSteps), (.slice D_a f1.fHammers.length D_c)])]) Tryz.func28 rfl Tryz.ntmps28 (by kernel_rfl) (L := []) (W := []) (Mem.start w) ?_
  refine jc_seq (jc_region (tO (qa 0 (fun b_1 => jkO (tO (qa 0 (fun b_2 => jkO (qe (jx_then (jc_seq (jc_region (qh [0] ?_))))))))))))
  obtain ⟨t_1, ht_3, h⟩ := bd h
  refine tO (pc 0 (fun w hm => spec_l00From.calls code0 w _ A_c (hm.xr A_h) rfl ht_3) ?_)
  rintro w v w' hm ⟨b_4, rfl, hm'⟩
  refine ⟨_, hm.app hm', jkO ?_⟩
  clear hm hm'
  obtain ⟨t_2, ht_5, h⟩ := bd h
  refine tO (pc 0 (fun w hm => spec_l06Drawn.calls (⟨code0, t_1.fat, t_1.fseed⟩ : Gl00Src) f1 w _ A_c (hm.xr A_h) rfl D_c (hm.xr D_h) rfl b_4 b_1 (hm.pass (N := [⟨some b_4, 187, [(.slice A_a code0.length A_c), (.int .i64 t_1.fat), (.int .u64 t_1.fseed)]⟩, ⟨some b_1, 27, [(.int .i16 f1.fSteps), (.slice D_a f1.fHammers.length D_c)]⟩]) [2, 0] (by kernel_rfl) (by kernel_rfl)) (hm.exApart (N := [⟨some b_4, 187, [(.slice A_a code0.length A_c), (.int .i64 t_1.fat), (.int .u64 t_1.fseed)]⟩, ⟨some b_1, 27, [(.int .i16 f1.fSteps), (.slice D_a f1.fHammers.length D_c)]⟩]) A_h (fun _ => List.not_mem_nil) [2, 0] (by kernel_rfl)) (hm.exApart (N := [⟨some b_4, 187, [(.slice A_a code0.length A_c), (.int .i64 t_1.fat), (.int .u64 t_1.fseed)]⟩, ⟨some b_1, 27, [(.int .i16 f1.fSteps), (.slice D_a f1.fHammers.length D_c)]⟩]) D_h (fun _ => List.not_mem_nil) [2, 0] (by kernel_rfl)) ht_5) ?_)
  rintro w v w' hm ⟨o_6, cap_7, sp_8, _, rfl, hs_9, ho_10, o_11, cap_12, sp_13, _, rfl, hs_14, ho_15, rfl, hm'⟩
  refine ⟨_, hm.appW (ps := [(2, ⟨some b_4, 187, [(.slice A_a code0.length A_c), (.int .i64 t_2.2.fat), (.int .u64 t_2.2.fseed)]⟩), (0, ⟨some b_1, 27, [(.int .i16 f1.fSteps), (.slice D_a f1.fHammers.length D_c)]⟩)]) (N := [⟨o_6, 147, row encGWornPin t_2.1.fPins sp_8⟩, ⟨o_11, 2, row encI64 t_2.1.fStrokes sp_13⟩]) hm' (by kernel_rfl) (by kernel_rfl), jkO ?_⟩
  clear hm hm'
  refine tO (qs 0 [1] (jkO (qe (jx_then (jc_ret ?_)))))
  obtain rfl := Option.some.inj h
  exact qr [1] (fun w hm => ⟨o_6, cap_7, sp_8, t_2.1.fPins.length, rfl, hs_9, ho_10, o_11, cap_12, sp_13, t_2.1.fStrokes.length, rfl, hs_14, ho_15, rfl, hm.pk [3, 4]⟩)
/-! ### spec.P6Lives -/
def spec_P6Lives (code0 : List Int) : Option (GLives) := (spec_l00From code0).bind fun t_1 => (spec_l00Src_pick (⟨code0, t_1.fat, t_1.fseed⟩ : Gl00Src) 20).bind fun t_2 => (spec_l00Src_pick (⟨code0, t_2.2.fat, t_2.2.fseed⟩ : Gl00Src) 40).bind fun t_3 => some (⟨(w64 (12 + t_2.1)), (w64 (12 + t_3.1))⟩ : GLives)
theorem spec_P6Lives.calls (code0 : List Int) (w : World) (r : GLives) {A_a : Option Addr} {A_an : Nat} (A_c : Nat) (A_h : Rw w A_a 1 encU8 code0) (A_hn : code0.length = A_an) (h : spec_P6Lives code0 = some r) :
    Calls Tryz.prog 29 #[(.slice A_a A_an A_c)] w fun e w' => ∃ v, e = .returned v ∧ (v = .agg #[(.int .i64 r.fPin), (.int .i64 r.fHammer)] ∧ Mem w [] [] w') := by
  subst A_hn
  rw [spec_P6Lives] at h
  refine enter (args := [(.slice A_a code0.length A_c)]) Tryz.func29 rfl Tryz.ntmps29 (by kernel_rfl) (L := []) (W := []) (Mem.start w) ?_
  refine jc_seq (jc_region (tO (qa 0 (fun b_1 => jkO (qe (jx_then (jc_seq (jc_region (qh [0] ?_)))))))))
  obtain ⟨t_1, ht_2, h⟩ := bd h
  refine tO (pc 0 (fun w hm => spec_l00From.calls code0 w _ A_c (hm.xr A_h) rfl ht_2) ?_)
  rintro w v w' hm ⟨b_3, rfl, hm'⟩
  refine ⟨_, hm.app hm', jkO ?_⟩
  clear hm hm'
  refine qh [0] (qe (jx_then (jc_seq (jc_region (qh [0] ?_)))))
  obtain ⟨t_2, ht_4, h⟩ := bd h
  refine tO (pc 0 (fun w hm => spec_l00Src_pick.calls (⟨code0, t_1.fat, t_1.fseed⟩ : Gl00Src) 20 w _ A_c (hm.xr A_h) rfl b_3 (hm.pass (N := [⟨some b_3, 187, [(.slice A_a code0.length A_c), (.int .i64 t_1.fat), (.int .u64 t_1.fseed)]⟩]) [1] (by kernel_rfl) (by kernel_rfl)) (hm.exApart (N := [⟨some b_3, 187, [(.slice A_a code0.length A_c), (.int .i64 t_1.fat), (.int .u64 t_1.fseed)]⟩]) A_h (fun _ => List.not_mem_nil) [1] (by kernel_rfl)) ht_4) ?_)
  rintro w v w' hm ⟨rfl, hm'⟩
  refine ⟨_, hm.appW (ps := [(1, ⟨some b_3, 187, [(.slice A_a code0.length A_c), (.int .i64 t_2.2.fat), (.int .u64 t_2.2.fseed)]⟩)]) (N := []) hm' (by kernel_rfl) (by kernel_rfl), jkO ?_⟩
  clear hm hm'
  refine qh [0,0] (qe (jx_then (jc_seq (jc_region (qh [0,0] ?_)))))
  obtain ⟨t_3, ht_5, h⟩ := bd h
  refine tO (pc 0 (fun w hm => spec_l00Src_pick.calls (⟨code0, t_2.2.fat, t_2.2.fseed⟩ : Gl00Src) 40 w _ A_c (hm.xr A_h) rfl b_3 (hm.pass (N := [⟨some b_3, 187, [(.slice A_a code0.length A_c), (.int .i64 t_2.2.fat), (.int .u64 t_2.2.fseed)]⟩]) [1] (by kernel_rfl) (by kernel_rfl)) (hm.exApart (N := [⟨some b_3, 187, [(.slice A_a code0.length A_c), (.int .i64 t_2.2.fat), (.int .u64 t_2.2.fseed)]⟩]) A_h (fun _ => List.not_mem_nil) [1] (by kernel_rfl)) ht_5) ?_)
  rintro w v w' hm ⟨rfl, hm'⟩
  refine ⟨_, hm.appW (ps := [(1, ⟨some b_3, 187, [(.slice A_a code0.length A_c), (.int .i64 t_3.2.fat), (.int .u64 t_3.2.fseed)]⟩)]) (N := []) hm' (by kernel_rfl) (by kernel_rfl), jkO ?_⟩
  clear hm hm'
  refine qh [0,0] (tO (qs 0 [0] (jkO (qe (jx_then (jc_ret ?_))))))
  obtain rfl := Option.some.inj h
  exact qr [0] (fun w hm => ⟨rfl, hm.pk []⟩)
/-! ### spec.l00Max -/
def spec_l00Max (a0 : Int) (b1 : Int) : Option (Int) := (if (decide (a0 > b1)) = true then some a0 else some b1)
theorem spec_l00Max.calls (a0 : Int) (b1 : Int) (w : World) (r : Int) (h : spec_l00Max a0 b1 = some r) :
    Calls Tryz.prog 86 #[(.int .i64 a0), (.int .i64 b1)] w fun e w' => ∃ v, e = .returned v ∧ (v = (.int .i64 r) ∧ Mem w [] [] w') := by
  rw [spec_l00Max] at h
  refine enter (args := [(.int .i64 a0), (.int .i64 b1)]) Tryz.func86 rfl Tryz.ntmps86 (by kernel_rfl) (L := []) (W := []) (Mem.start w) ?_
  refine jc_seq (jc_region (qh [0] (qe (jx_then (jc_seq (jc_seq (jc_region (qh [0,0,0] (qe (jx_then (qi h (fun h => ?_) (fun h => ?_))))))))))))
  ·refine jc_seq (jc_region (qh [0,0] (qe (jx_then (jc_ret (jx_thenr ?_))))))
   obtain rfl := Option.some.inj h
   exact qr [] (fun w hm => ⟨rfl, hm.pk []⟩)
  ·refine jc_skip (jx_then (jc_seq (jc_region (qh [0,0] (qe (jx_then (jc_ret ?_)))))))
   obtain rfl := Option.some.inj h
   exact qr [] (fun w hm => ⟨rfl, hm.pk []⟩)
/-! ### spec.l06Spot -/
def spec_l06Spot.k_10 (s0 : Gl00Src) (i_5 : Int) (i_6 : Int) (i_7 : Int) (i_8 : Int) (i_9 : Int) : Option (Int × Int × Gl00Src) := some ((w64 i_7), (w64 i_8), (⟨s0.fcode, i_5, i_6⟩ : Gl00Src))
def spec_l06Spot.k_4 (s0 : Gl00Src) (f1 : GFrame) (w2 : GWear) (i_1 : Int) (i_2 : Int) (q_3 : Bool) : Option (Int × Int × Gl00Src) := (if q_3 = true then (spec_l00Src_pick (⟨s0.fcode, i_1, i_2⟩ : Gl00Src) (w2.fPins.length : Int)).bind fun t_11 => (ix w2.fPins t_11.1).bind fun x_12 => spec_l06Spot.k_10 s0 t_11.2.fat t_11.2.fseed x_12.fStep x_12.fTrack x_12.fTurns else (spec_l00Max 1 (w64 f1.fSteps)).bind fun t_13 => (spec_l00Src_pick (⟨s0.fcode, i_1, i_2⟩ : Gl00Src) (w64 (t_13 + 1))).bind fun t_14 => (spec_l00Src_pick (⟨s0.fcode, t_14.2.fat, t_14.2.fseed⟩ : Gl00Src) 2).bind fun t_15 => (spec_l00Src_pick (⟨s0.fcode, t_15.2.fat, t_15.2.fseed⟩ : Gl00Src) 2).bind fun t_16 => (spec_l00Src_pick (⟨s0.fcode, t_16.2.fat, t_16.2.fseed⟩ : Gl00Src) (w64 ((f1.fHammers.length : Int) + 1))).bind fun t_17 => (spec_l00Src_pick (⟨s0.fcode, t_17.2.fat, t_17.2.fseed⟩ : Gl00Src) 2).bind fun t_18 => (spec_l00Src_pick (⟨s0.fcode, t_18.2.fat, t_18.2.fseed⟩ : Gl00Src) 2).bind fun t_19 => some ((w64 (t_14.1 - (w64 (t_15.1 * t_16.1)))), (w64 (t_17.1 - (w64 (t_18.1 * t_19.1)))), (⟨s0.fcode, t_19.2.fat, t_19.2.fseed⟩ : Gl00Src)))
def spec_l06Spot (s0 : Gl00Src) (f1 : GFrame) (w2 : GWear) : Option (Int × Int × Gl00Src) := (if (decide ((w2.fPins.length : Int) > 0)) = true then (spec_l00Src_one s0 2).bind fun t_20 => spec_l06Spot.k_4 s0 f1 w2 t_20.2.fat t_20.2.fseed t_20.1 else spec_l06Spot.k_4 s0 f1 w2 s0.fat s0.fseed false)
theorem spec_l06Spot.calls (s0 : Gl00Src) (f1 : GFrame) (w2 : GWear) (w : World) (r : Int × Int × Gl00Src) {B_a : Option Addr} {B_an : Nat} (B_c : Nat) (B_h : Rw w B_a 1 encU8 s0.fcode) (B_hn : s0.fcode.length = B_an) {G_a : Option Addr} {G_an : Nat} (G_c : Nat) (G_h : Rw w G_a 2 encGHammer f1.fHammers) (G_hn : f1.fHammers.length = G_an) {I_a : Option Addr} {I_an : Nat} (I_c : Nat) (I_h : Rw w I_a 3 encGWornPin w2.fPins) (I_hn : w2.fPins.length = I_an) {J_a : Option Addr} {J_an : Nat} (J_c : Nat) (J_h : Rw w J_a 1 encI64 w2.fStrokes) (J_hn : w2.fStrokes.length = J_an) (A_b : Nat) (E_b : Nat) (H_b : Nat) (hm0 : Mem w (bs [some A_b, some E_b, some H_b]) [⟨some A_b, 187, [(.slice B_a B_an B_c), (.int .i64 s0.fat), (.int .u64 s0.fseed)]⟩, ⟨some E_b, 27, [(.int .i16 f1.fSteps), (.slice G_a G_an G_c)]⟩, ⟨some H_b, 62, [(.slice I_a I_an I_c), (.slice J_a J_an J_c)]⟩] w) (B_ha : s0.fcode ≠ [] → aB B_a ∉ bs [some A_b, some E_b, some H_b]) (G_ha : f1.fHammers ≠ [] → aB G_a ∉ bs [some A_b, some E_b, some H_b]) (I_ha : w2.fPins ≠ [] → aB I_a ∉ bs [some A_b, some E_b, some H_b]) (J_ha : w2.fStrokes ≠ [] → aB J_a ∉ bs [some A_b, some E_b, some H_b]) (h : spec_l06Spot s0 f1 w2 = some r) :
    Calls Tryz.prog 159 #[(.pointer (some ⟨A_b, 0, none⟩)), (.pointer (some ⟨E_b, 0, none⟩)), (.pointer (some ⟨H_b, 0, none⟩))] w fun e w' => ∃ v, e = .returned v ∧ (v = .tuple #[(.int .i64 r.1), (.int .i64 r.2.1)] ∧ Mem w (bs [some A_b, some E_b, some H_b]) [⟨some A_b, 187, [(.slice B_a B_an B_c), (.int .i64 r.2.2.fat), (.int .u64 r.2.2.fseed)]⟩, ⟨some E_b, 27, [(.int .i16 f1.fSteps), (.slice G_a G_an G_c)]⟩, ⟨some H_b, 62, [(.slice I_a I_an I_c), (.slice J_a J_an J_c)]⟩] w') := by
  subst B_hn G_hn I_hn J_hn
  rw [spec_l06Spot] at h
  refine enter (args := [(.pointer (some ⟨A_b, 0, none⟩)), (.pointer (some ⟨E_b, 0, none⟩)), (.pointer (some ⟨H_b, 0, none⟩))]) Tryz.func159 rfl Tryz.ntmps159 (by kernel_rfl) (L := [⟨some A_b, 187, [(.slice B_a s0.fcode.length B_c), (.int .i64 s0.fat), (.int .u64 s0.fseed)]⟩, ⟨some E_b, 27, [(.int .i16 f1.fSteps), (.slice G_a f1.fHammers.length G_c)]⟩, ⟨some H_b, 62, [(.slice I_a w2.fPins.length I_c), (.slice J_a w2.fStrokes.length J_c)]⟩]) (W := bs [some A_b, some E_b, some H_b]) hm0 ?_
  refine jc_seq (jc_region (qh [0,0] (qe (jx_then (jc_seq (jc_seq (jc_meet (fun (j : Int × Int × Bool) => match j with | ⟨i_1, i_2, q_3⟩ => spec_l06Spot.k_4 s0 f1 w2 i_1 i_2 q_3 = some r) (fun (j : Int × Int × Bool) => match j with | ⟨i_1, i_2, q_3⟩ => [(0, [], (.pointer (some ⟨A_b, 0, none⟩))), (1, [], (.pointer (some ⟨E_b, 0, none⟩))), (2, [], (.pointer (some ⟨H_b, 0, none⟩))), (6, [], (.int .i64 0)), (7, [], (.int .i64 0)), (19, [], (.bool q_3))]) (fun (j : Int × Int × Bool) => match j with | ⟨i_1, i_2, q_3⟩ => [⟨some A_b, 187, [(.slice B_a s0.fcode.length B_c), (.int .i64 i_1), (.int .u64 i_2)]⟩, ⟨some E_b, 27, [(.int .i16 f1.fSteps), (.slice G_a f1.fHammers.length G_c)]⟩, ⟨some H_b, 62, [(.slice I_a w2.fPins.length I_c), (.slice J_a w2.fStrokes.length J_c)]⟩]) ?_ ?_)))))))
  ·refine jc_region (qf [(0, 0), (0, 0), (0, 0), (2, 0), (0, 0), (0, 0), (0, 0), (0, 1)] (qp 16 h (fun h => ?_) (fun h => ?_)))
   ·obtain ⟨t_20, ht_43, h⟩ := bd h
    refine tO (pc 2 (fun w hm => spec_l00Src_one.calls s0 2 w _ B_c (hm.exRowW B_h B_ha) rfl A_b (hm.pass (N := [⟨some A_b, 187, [(.slice B_a s0.fcode.length B_c), (.int .i64 s0.fat), (.int .u64 s0.fseed)]⟩]) [0] (by kernel_rfl) (by kernel_rfl)) (hm.exApart (N := [⟨some A_b, 187, [(.slice B_a s0.fcode.length B_c), (.int .i64 s0.fat), (.int .u64 s0.fseed)]⟩]) B_h B_ha [0] (by kernel_rfl)) ht_43) ?_)
    rintro w v w' hm ⟨rfl, hm'⟩
    refine ⟨_, hm.appW (ps := [(0, ⟨some A_b, 187, [(.slice B_a s0.fcode.length B_c), (.int .i64 t_20.2.fat), (.int .u64 t_20.2.fseed)]⟩)]) (N := []) hm' (by kernel_rfl) (by kernel_rfl), jkO ?_⟩
    clear hm hm'
    exact qf [(0, 4)] (qe (qm ⟨t_20.2.fat, t_20.2.fseed, t_20.1⟩ h [0, 1, 2]))
   ·exact qf [(0, 3), (0, 5)] (qe (qm ⟨s0.fat, s0.fseed, false⟩ h [0, 1, 2]))
  ·rintro ⟨i_1, i_2, q_3⟩ h
   replace h : spec_l06Spot.k_4 s0 f1 w2 i_1 i_2 q_3 = some r := h
   rw [spec_l06Spot.k_4] at h
   refine jx_then (qi h (fun h => ?_) (fun h => ?_))
   ·refine jc_seq (jc_meet (fun (j : Int × Int × Int × Int × Int × Nat) => match j with | ⟨i_5, i_6, i_7, i_8, i_9, b_28⟩ => spec_l06Spot.k_10 s0 i_5 i_6 i_7 i_8 i_9 = some r) (fun (j : Int × Int × Int × Int × Int × Nat) => match j with | ⟨i_5, i_6, i_7, i_8, i_9, b_28⟩ => [(0, [], (.pointer (some ⟨A_b, 0, none⟩))), (1, [], (.pointer (some ⟨E_b, 0, none⟩))), (6, [], (.int .i64 0)), (7, [], (.int .i64 0)), (8, [], (.pointer (some ⟨b_28, 0, none⟩)))]) (fun (j : Int × Int × Int × Int × Int × Nat) => match j with | ⟨i_5, i_6, i_7, i_8, i_9, b_28⟩ => [⟨some A_b, 187, [(.slice B_a s0.fcode.length B_c), (.int .i64 i_5), (.int .u64 i_6)]⟩, ⟨some E_b, 27, [(.int .i16 f1.fSteps), (.slice G_a f1.fHammers.length G_c)]⟩, ⟨some H_b, 62, [(.slice I_a w2.fPins.length I_c), (.slice J_a w2.fStrokes.length J_c)]⟩, ⟨some b_28, 147, [(.int .i8 i_7), (.int .i8 i_8), (.int .i64 i_9)]⟩]) ?_ ?_)
    ·refine qg [⟨some E_b, 27, [(.int .i16 f1.fSteps), (.slice G_a f1.fHammers.length G_c)]⟩, ⟨some H_b, 62, [(.slice I_a w2.fPins.length I_c), (.slice J_a w2.fStrokes.length J_c)]⟩] 15 (qd [⟨0, 0, 0⟩,⟨1, 0, 0⟩,⟨2, 0, 0⟩,⟨3, 1, 0⟩,⟨4, 0, 0⟩,⟨5, 0, 0⟩,⟨6, 0, 0⟩,⟨7, 0, 0⟩,⟨8, 1, 0⟩,⟨9, 0, 0⟩] 5 [1, 2] (toD2 10 13 (by kernel_rfl) ?_ ?_))
     ·obtain ⟨t_11, ht_29, h⟩ := bd h
      refine pc 0 (fun w hm => spec_l00Src_pick.calls (⟨s0.fcode, i_1, i_2⟩ : Gl00Src) (w2.fPins.length : Int) w _ B_c (hm.exRowW B_h B_ha) rfl A_b (hm.pass (N := [⟨some A_b, 187, [(.slice B_a s0.fcode.length B_c), (.int .i64 i_1), (.int .u64 i_2)]⟩]) [0] (by kernel_rfl) (by kernel_rfl)) (hm.exApart (N := [⟨some A_b, 187, [(.slice B_a s0.fcode.length B_c), (.int .i64 i_1), (.int .u64 i_2)]⟩]) B_h B_ha [0] (by kernel_rfl)) ht_29) ?_
      rintro w v w' hm ⟨rfl, hm'⟩
      refine ⟨_, hm.appW (ps := [(0, ⟨some A_b, 187, [(.slice B_a s0.fcode.length B_c), (.int .i64 t_11.2.fat), (.int .u64 t_11.2.fseed)]⟩)]) (N := []) hm' (by kernel_rfl) (by kernel_rfl), kD [1, 2] ?_⟩
      clear hm hm'
      obtain ⟨x_12, hx_30, h⟩ := bd h
      exact qv 11 0 [1, 2] (fun w hm => idx_run (a := I_a) (len := w2.fPins.length) (s := 3) (j := t_11.1) (by kernel_rfl) (ix_some hx_30).1 (ltn hx_30 rfl) (I_h.sp hx_30)) (qv 12 0 [1, 2] (fun w hm => ld_run (b := aB I_a) (off := (aO I_a + t_11.1.toNat * 3)) (s := 3) (agg := true) (vs := (encGWornPin x_12)) (by kernel_rfl) (by kernel_rfl) (.inl rfl) ((hm.exRowW I_h I_ha).at hx_30)) (tD 13 (qa 0 (fun b_31 => kD [1, 2] (tD 14 (qs 0 [3] (kD [1, 2] (qz (qm ⟨t_11.2.fat, t_11.2.fseed, x_12.fStep, x_12.fTrack, x_12.fTurns, b_31⟩ h [0, 1, 2, 3])))))))))
     ·refine qa 0 (fun b_32 => kD [1, 2] ?_)
      obtain ⟨t_11, ht_33, h⟩ := bd h
      refine tD 10 (pc 0 (fun w hm => spec_l00Src_pick.calls (⟨s0.fcode, i_1, i_2⟩ : Gl00Src) (w2.fPins.length : Int) w _ B_c (hm.exRowW B_h B_ha) rfl A_b (hm.pass (N := [⟨some A_b, 187, [(.slice B_a s0.fcode.length B_c), (.int .i64 i_1), (.int .u64 i_2)]⟩]) [0] (by kernel_rfl) (by kernel_rfl)) (hm.exApart (N := [⟨some A_b, 187, [(.slice B_a s0.fcode.length B_c), (.int .i64 i_1), (.int .u64 i_2)]⟩]) B_h B_ha [0] (by kernel_rfl)) ht_33) ?_)
      rintro w v w' hm ⟨rfl, hm'⟩
      refine ⟨_, hm.appW (ps := [(0, ⟨some A_b, 187, [(.slice B_a s0.fcode.length B_c), (.int .i64 t_11.2.fat), (.int .u64 t_11.2.fseed)]⟩)]) (N := []) hm' (by kernel_rfl) (by kernel_rfl), kD [1, 2] ?_⟩
      clear hm hm'
      obtain ⟨x_12, hx_34, h⟩ := bd h
      exact qv 11 0 [1, 2] (fun w hm => idx_run (a := I_a) (len := w2.fPins.length) (s := 3) (j := t_11.1) (by kernel_rfl) (ix_some hx_34).1 (ltn hx_34 rfl) (I_h.sp hx_34)) (qv 12 0 [1, 2] (fun w hm => ld_run (b := aB I_a) (off := (aO I_a + t_11.1.toNat * 3)) (s := 3) (agg := true) (vs := (encGWornPin x_12)) (by kernel_rfl) (by kernel_rfl) (.inl rfl) ((hm.exRowW I_h I_ha).at hx_34)) (tD 14 (qs 0 [3] (kD [1, 2] (qz (qm ⟨t_11.2.fat, t_11.2.fseed, x_12.fStep, x_12.fTrack, x_12.fTurns, b_32⟩ h [0, 1, 2, 3]))))))
    ·rintro ⟨i_5, i_6, i_7, i_8, i_9, b_28⟩ h
     replace h : spec_l06Spot.k_10 s0 i_5 i_6 i_7 i_8 i_9 = some r := h
     rw [spec_l06Spot.k_10] at h
     refine jx_then (jc_seq (qg [⟨some A_b, 187, [(.slice B_a s0.fcode.length B_c), (.int .i64 i_5), (.int .u64 i_6)]⟩, ⟨some E_b, 27, [(.int .i16 f1.fSteps), (.slice G_a f1.fHammers.length G_c)]⟩, ⟨some H_b, 62, [(.slice I_a w2.fPins.length I_c), (.slice J_a w2.fStrokes.length J_c)]⟩, ⟨some b_28, 147, [(.int .i8 i_7), (.int .i8 i_8), (.int .i64 i_9)]⟩] 8 (qd [⟨0, 0, 0⟩,⟨1, 3, 0⟩,⟨2, 0, 0⟩,⟨3, 0, 0⟩,⟨4, 3, 0⟩,⟨5, 0, 0⟩,⟨6, 0, 0⟩,⟨7, 0, 0⟩] 0 [0, 1, 2, 3] (qz (jx_then (jc_ret (jx_thenr ?_)))))))
     obtain rfl := Option.some.inj h
     exact qr [] (fun w hm => ⟨rfl, hm.pk [0, 1, 2]⟩)
   ·refine jc_skip (jx_then (jc_seq (jc_region (qh [0,0,0,0,1,0] ?_))))
    obtain ⟨t_13, ht_35, h⟩ := bd h
    refine tO (pc 0 (fun w hm => spec_l00Max.calls 1 (w64 f1.fSteps) w _ ht_35) ?_)
    rintro w v w' hm ⟨rfl, hm'⟩
    refine ⟨_, hm.app hm', jkO ?_⟩
    clear hm hm'
    refine qh [0] ?_
    obtain ⟨t_14, ht_36, h⟩ := bd h
    refine tO (pc 0 (fun w hm => spec_l00Src_pick.calls (⟨s0.fcode, i_1, i_2⟩ : Gl00Src) (w64 (t_13 + 1)) w _ B_c (hm.exRowW B_h B_ha) rfl A_b (hm.pass (N := [⟨some A_b, 187, [(.slice B_a s0.fcode.length B_c), (.int .i64 i_1), (.int .u64 i_2)]⟩]) [0] (by kernel_rfl) (by kernel_rfl)) (hm.exApart (N := [⟨some A_b, 187, [(.slice B_a s0.fcode.length B_c), (.int .i64 i_1), (.int .u64 i_2)]⟩]) B_h B_ha [0] (by kernel_rfl)) ht_36) ?_)
    rintro w v w' hm ⟨rfl, hm'⟩
    refine ⟨_, hm.appW (ps := [(0, ⟨some A_b, 187, [(.slice B_a s0.fcode.length B_c), (.int .i64 t_14.2.fat), (.int .u64 t_14.2.fseed)]⟩)]) (N := []) hm' (by kernel_rfl) (by kernel_rfl), jkO ?_⟩
    clear hm hm'
    refine qh [0] ?_
    obtain ⟨t_15, ht_37, h⟩ := bd h
    refine tO (pc 0 (fun w hm => spec_l00Src_pick.calls (⟨s0.fcode, t_14.2.fat, t_14.2.fseed⟩ : Gl00Src) 2 w _ B_c (hm.exRowW B_h B_ha) rfl A_b (hm.pass (N := [⟨some A_b, 187, [(.slice B_a s0.fcode.length B_c), (.int .i64 t_14.2.fat), (.int .u64 t_14.2.fseed)]⟩]) [0] (by kernel_rfl) (by kernel_rfl)) (hm.exApart (N := [⟨some A_b, 187, [(.slice B_a s0.fcode.length B_c), (.int .i64 t_14.2.fat), (.int .u64 t_14.2.fseed)]⟩]) B_h B_ha [0] (by kernel_rfl)) ht_37) ?_)
    rintro w v w' hm ⟨rfl, hm'⟩
    refine ⟨_, hm.appW (ps := [(0, ⟨some A_b, 187, [(.slice B_a s0.fcode.length B_c), (.int .i64 t_15.2.fat), (.int .u64 t_15.2.fseed)]⟩)]) (N := []) hm' (by kernel_rfl) (by kernel_rfl), jkO ?_⟩
    clear hm hm'
    refine qh [0] ?_
    obtain ⟨t_16, ht_38, h⟩ := bd h
    refine tO (pc 0 (fun w hm => spec_l00Src_pick.calls (⟨s0.fcode, t_15.2.fat, t_15.2.fseed⟩ : Gl00Src) 2 w _ B_c (hm.exRowW B_h B_ha) rfl A_b (hm.pass (N := [⟨some A_b, 187, [(.slice B_a s0.fcode.length B_c), (.int .i64 t_15.2.fat), (.int .u64 t_15.2.fseed)]⟩]) [0] (by kernel_rfl) (by kernel_rfl)) (hm.exApart (N := [⟨some A_b, 187, [(.slice B_a s0.fcode.length B_c), (.int .i64 t_15.2.fat), (.int .u64 t_15.2.fseed)]⟩]) B_h B_ha [0] (by kernel_rfl)) ht_38) ?_)
    rintro w v w' hm ⟨rfl, hm'⟩
    refine ⟨_, hm.appW (ps := [(0, ⟨some A_b, 187, [(.slice B_a s0.fcode.length B_c), (.int .i64 t_16.2.fat), (.int .u64 t_16.2.fseed)]⟩)]) (N := []) hm' (by kernel_rfl) (by kernel_rfl), jkO ?_⟩
    clear hm hm'
    refine qh [0,0,0] (qe (jx_then (jc_seq (jc_region (qh [0,0,0,0,0,1,0,0] ?_)))))
    obtain ⟨t_17, ht_39, h⟩ := bd h
    refine tO (pc 0 (fun w hm => spec_l00Src_pick.calls (⟨s0.fcode, t_16.2.fat, t_16.2.fseed⟩ : Gl00Src) (w64 ((f1.fHammers.length : Int) + 1)) w _ B_c (hm.exRowW B_h B_ha) rfl A_b (hm.pass (N := [⟨some A_b, 187, [(.slice B_a s0.fcode.length B_c), (.int .i64 t_16.2.fat), (.int .u64 t_16.2.fseed)]⟩]) [0] (by kernel_rfl) (by kernel_rfl)) (hm.exApart (N := [⟨some A_b, 187, [(.slice B_a s0.fcode.length B_c), (.int .i64 t_16.2.fat), (.int .u64 t_16.2.fseed)]⟩]) B_h B_ha [0] (by kernel_rfl)) ht_39) ?_)
    rintro w v w' hm ⟨rfl, hm'⟩
    refine ⟨_, hm.appW (ps := [(0, ⟨some A_b, 187, [(.slice B_a s0.fcode.length B_c), (.int .i64 t_17.2.fat), (.int .u64 t_17.2.fseed)]⟩)]) (N := []) hm' (by kernel_rfl) (by kernel_rfl), jkO ?_⟩
    clear hm hm'
    refine qh [0] ?_
    obtain ⟨t_18, ht_40, h⟩ := bd h
    refine tO (pc 0 (fun w hm => spec_l00Src_pick.calls (⟨s0.fcode, t_17.2.fat, t_17.2.fseed⟩ : Gl00Src) 2 w _ B_c (hm.exRowW B_h B_ha) rfl A_b (hm.pass (N := [⟨some A_b, 187, [(.slice B_a s0.fcode.length B_c), (.int .i64 t_17.2.fat), (.int .u64 t_17.2.fseed)]⟩]) [0] (by kernel_rfl) (by kernel_rfl)) (hm.exApart (N := [⟨some A_b, 187, [(.slice B_a s0.fcode.length B_c), (.int .i64 t_17.2.fat), (.int .u64 t_17.2.fseed)]⟩]) B_h B_ha [0] (by kernel_rfl)) ht_40) ?_)
    rintro w v w' hm ⟨rfl, hm'⟩
    refine ⟨_, hm.appW (ps := [(0, ⟨some A_b, 187, [(.slice B_a s0.fcode.length B_c), (.int .i64 t_18.2.fat), (.int .u64 t_18.2.fseed)]⟩)]) (N := []) hm' (by kernel_rfl) (by kernel_rfl), jkO ?_⟩
    clear hm hm'
    refine qh [0] ?_
    obtain ⟨t_19, ht_41, h⟩ := bd h
    refine tO (pc 0 (fun w hm => spec_l00Src_pick.calls (⟨s0.fcode, t_18.2.fat, t_18.2.fseed⟩ : Gl00Src) 2 w _ B_c (hm.exRowW B_h B_ha) rfl A_b (hm.pass (N := [⟨some A_b, 187, [(.slice B_a s0.fcode.length B_c), (.int .i64 t_18.2.fat), (.int .u64 t_18.2.fseed)]⟩]) [0] (by kernel_rfl) (by kernel_rfl)) (hm.exApart (N := [⟨some A_b, 187, [(.slice B_a s0.fcode.length B_c), (.int .i64 t_18.2.fat), (.int .u64 t_18.2.fseed)]⟩]) B_h B_ha [0] (by kernel_rfl)) ht_41) ?_)
    rintro w v w' hm ⟨rfl, hm'⟩
    refine ⟨_, hm.appW (ps := [(0, ⟨some A_b, 187, [(.slice B_a s0.fcode.length B_c), (.int .i64 t_19.2.fat), (.int .u64 t_19.2.fseed)]⟩)]) (N := []) hm' (by kernel_rfl) (by kernel_rfl), jkO ?_⟩
    clear hm hm'
    refine qh [0,0,0,0] (qe (jx_then (jc_ret ?_)))
    obtain rfl := Option.some.inj h
    exact qr [] (fun w hm => ⟨rfl, hm.pk [0, 1, 2]⟩)
/-! ### (*spec.l00Src).among -/
def spec_l00Src_among (s0 : Gl00Src) (list1 : List Int) : Option (Int × Gl00Src) := (spec_l00Src_pick s0 (list1.length : Int)).bind fun t_1 => (ix list1 t_1.1).bind fun x_2 => some (x_2, (⟨s0.fcode, t_1.2.fat, t_1.2.fseed⟩ : Gl00Src))
theorem spec_l00Src_among.calls (s0 : Gl00Src) (list1 : List Int) (w : World) (r : Int × Gl00Src) {B_a : Option Addr} {B_an : Nat} (B_c : Nat) (B_h : Rw w B_a 1 encU8 s0.fcode) (B_hn : s0.fcode.length = B_an) {E_a : Option Addr} {E_an : Nat} (E_c : Nat) (E_h : Rw w E_a 1 encI64 list1) (E_hn : list1.length = E_an) (A_b : Nat) (hm0 : Mem w (bs [some A_b]) [⟨some A_b, 187, [(.slice B_a B_an B_c), (.int .i64 s0.fat), (.int .u64 s0.fseed)]⟩] w) (B_ha : s0.fcode ≠ [] → aB B_a ∉ bs [some A_b]) (E_ha : list1 ≠ [] → aB E_a ∉ bs [some A_b]) (h : spec_l00Src_among s0 list1 = some r) :
    Calls Tryz.prog 160 #[(.pointer (some ⟨A_b, 0, none⟩)), (.slice E_a E_an E_c)] w fun e w' => ∃ v, e = .returned v ∧ (v = (.int .i64 r.1) ∧ Mem w (bs [some A_b]) [⟨some A_b, 187, [(.slice B_a B_an B_c), (.int .i64 r.2.fat), (.int .u64 r.2.fseed)]⟩] w') := by
  subst B_hn E_hn
  rw [spec_l00Src_among] at h
  refine enter (args := [(.pointer (some ⟨A_b, 0, none⟩)), (.slice E_a list1.length E_c)]) Tryz.func160 rfl Tryz.ntmps160 (by kernel_rfl) (L := [⟨some A_b, 187, [(.slice B_a s0.fcode.length B_c), (.int .i64 s0.fat), (.int .u64 s0.fseed)]⟩]) (W := bs [some A_b]) hm0 ?_
  refine jc_seq (jc_region (qh [0] (qe (jx_then (jc_seq (jc_region (qh [0,0,0,0] ?_)))))))
  obtain ⟨t_1, ht_1, h⟩ := bd h
  refine tO (pc 0 (fun w hm => spec_l00Src_pick.calls s0 (list1.length : Int) w _ B_c (hm.exRowW B_h B_ha) rfl A_b (hm.pass (N := [⟨some A_b, 187, [(.slice B_a s0.fcode.length B_c), (.int .i64 s0.fat), (.int .u64 s0.fseed)]⟩]) [0] (by kernel_rfl) (by kernel_rfl)) (hm.exApart (N := [⟨some A_b, 187, [(.slice B_a s0.fcode.length B_c), (.int .i64 s0.fat), (.int .u64 s0.fseed)]⟩]) B_h B_ha [0] (by kernel_rfl)) ht_1) ?_)
  rintro w v w' hm ⟨rfl, hm'⟩
  refine ⟨_, hm.appW (ps := [(0, ⟨some A_b, 187, [(.slice B_a s0.fcode.length B_c), (.int .i64 t_1.2.fat), (.int .u64 t_1.2.fseed)]⟩)]) (N := []) hm' (by kernel_rfl) (by kernel_rfl), jkO ?_⟩
  clear hm hm'
  obtain ⟨x_2, hx_2, h⟩ := bd h
  refine tO (qx 0 E_a 1 hx_2 rfl (E_h.sp hx_2) (jkO (tO (ql 0 false (fun w hm => ((hm.exRowW E_h E_ha).at hx_2)) (jkO (qh [0] (qe (jx_then (jc_ret ?_)))))))))
  obtain rfl := Option.some.inj h
  exact qr [] (fun w hm => ⟨rfl, hm.pk [0]⟩)
/-! ### spec.l06Act -/
def spec_l06Act.k_12 (s0 : Gl00Src) (i_4 : Int) (i_5 : Int) (i_6 : Int) (i_7 : Int) (i_9 : Int) (i_10 : Int) (i_11 : Int) : Option (GAct × Gl00Src) := some ((⟨i_11, i_4, i_5, i_6, i_7⟩ : GAct), (⟨s0.fcode, i_9, i_10⟩ : Gl00Src))
def spec_l06Act.k_8 (s0 : Gl00Src) (t_1 : Int × Gl00Src) (i_2 : Int) (i_3 : Int) (i_4 : Int) (i_5 : Int) (i_6 : Int) (i_7 : Int) : Option (GAct × Gl00Src) := (spec_l00Src_one (⟨s0.fcode, i_2, i_3⟩ : Gl00Src) 24).bind fun t_13 => (if t_13.1 = true then (spec_l00Src_among (⟨s0.fcode, t_13.2.fat, t_13.2.fseed⟩ : Gl00Src) ([(-1), 4] : List Int)).bind fun t_14 => spec_l06Act.k_12 s0 i_4 i_5 i_6 i_7 t_14.2.fat t_14.2.fseed (w8 t_14.1) else spec_l06Act.k_12 s0 i_4 i_5 i_6 i_7 t_13.2.fat t_13.2.fseed (w8 t_1.1))
def spec_l06Act (s0 : Gl00Src) (f1 : GFrame) (w2 : GWear) : Option (GAct × Gl00Src) := (spec_l00Src_pick s0 4).bind fun t_1 => (if ((w8 t_1.1) == 0) = true then (spec_l00Src_pick (⟨s0.fcode, t_1.2.fat, t_1.2.fseed⟩ : Gl00Src) 9).bind fun t_15 => spec_l06Act.k_8 s0 t_1 t_15.2.fat t_15.2.fseed t_15.1 0 0 0 else (if ((w8 t_1.1) == 1) = true then (spec_l00Src_pick (⟨s0.fcode, t_1.2.fat, t_1.2.fseed⟩ : Gl00Src) (f1.fHammers.length : Int)).bind fun t_16 => spec_l06Act.k_8 s0 t_1 t_16.2.fat t_16.2.fseed t_16.1 0 0 0 else (if ((w8 t_1.1) == 2) = true then (spec_l06Spot (⟨s0.fcode, t_1.2.fat, t_1.2.fseed⟩ : Gl00Src) f1 w2).bind fun t_17 => spec_l06Act.k_8 s0 t_1 t_17.2.2.fat t_17.2.2.fseed t_17.1 t_17.2.1 0 0 else (if ((w8 t_1.1) == 3) = true then (spec_l06Spot (⟨s0.fcode, t_1.2.fat, t_1.2.fseed⟩ : Gl00Src) f1 w2).bind fun t_18 => (spec_l06Spot (⟨s0.fcode, t_18.2.2.fat, t_18.2.2.fseed⟩ : Gl00Src) f1 w2).bind fun t_19 => spec_l06Act.k_8 s0 t_1 t_19.2.2.fat t_19.2.2.fseed t_18.1 t_18.2.1 t_19.1 t_19.2.1 else spec_l06Act.k_8 s0 t_1 t_1.2.fat t_1.2.fseed 0 0 0 0))))
theorem spec_l06Act.calls (s0 : Gl00Src) (f1 : GFrame) (w2 : GWear) (w : World) (r : GAct × Gl00Src) {B_a : Option Addr} {B_an : Nat} (B_c : Nat) (B_h : Rw w B_a 1 encU8 s0.fcode) (B_hn : s0.fcode.length = B_an) {G_a : Option Addr} {G_an : Nat} (G_c : Nat) (G_h : Rw w G_a 2 encGHammer f1.fHammers) (G_hn : f1.fHammers.length = G_an) {I_a : Option Addr} {I_an : Nat} (I_c : Nat) (I_h : Rw w I_a 3 encGWornPin w2.fPins) (I_hn : w2.fPins.length = I_an) {J_a : Option Addr} {J_an : Nat} (J_c : Nat) (J_h : Rw w J_a 1 encI64 w2.fStrokes) (J_hn : w2.fStrokes.length = J_an) (A_b : Nat) (E_b : Nat) (H_b : Nat) (hm0 : Mem w (bs [some A_b, some E_b, some H_b]) [⟨some A_b, 187, [(.slice B_a B_an B_c), (.int .i64 s0.fat), (.int .u64 s0.fseed)]⟩, ⟨some E_b, 27, [(.int .i16 f1.fSteps), (.slice G_a G_an G_c)]⟩, ⟨some H_b, 62, [(.slice I_a I_an I_c), (.slice J_a J_an J_c)]⟩] w) (B_ha : s0.fcode ≠ [] → aB B_a ∉ bs [some A_b, some E_b, some H_b]) (G_ha : f1.fHammers ≠ [] → aB G_a ∉ bs [some A_b, some E_b, some H_b]) (I_ha : w2.fPins ≠ [] → aB I_a ∉ bs [some A_b, some E_b, some H_b]) (J_ha : w2.fStrokes ≠ [] → aB J_a ∉ bs [some A_b, some E_b, some H_b]) (h : spec_l06Act s0 f1 w2 = some r) :
    Calls Tryz.prog 85 #[(.pointer (some ⟨A_b, 0, none⟩)), (.pointer (some ⟨E_b, 0, none⟩)), (.pointer (some ⟨H_b, 0, none⟩))] w fun e w' => ∃ v, e = .returned v ∧ (v = .agg #[(.int .i8 r.1.fKind), (.int .i64 r.1.fA), (.int .i64 r.1.fB), (.int .i64 r.1.fC), (.int .i64 r.1.fD)] ∧ Mem w (bs [some A_b, some E_b, some H_b]) [⟨some A_b, 187, [(.slice B_a B_an B_c), (.int .i64 r.2.fat), (.int .u64 r.2.fseed)]⟩, ⟨some E_b, 27, [(.int .i16 f1.fSteps), (.slice G_a G_an G_c)]⟩, ⟨some H_b, 62, [(.slice I_a I_an I_c), (.slice J_a J_an J_c)]⟩] w') := by
  subst B_hn G_hn I_hn J_hn
  rw [spec_l06Act] at h
  refine enter (args := [(.pointer (some ⟨A_b, 0, none⟩)), (.pointer (some ⟨E_b, 0, none⟩)), (.pointer (some ⟨H_b, 0, none⟩))]) Tryz.func85 rfl Tryz.ntmps85 (by kernel_rfl) (L := [⟨some A_b, 187, [(.slice B_a s0.fcode.length B_c), (.int .i64 s0.fat), (.int .u64 s0.fseed)]⟩, ⟨some E_b, 27, [(.int .i16 f1.fSteps), (.slice G_a f1.fHammers.length G_c)]⟩, ⟨some H_b, 62, [(.slice I_a w2.fPins.length I_c), (.slice J_a w2.fStrokes.length J_c)]⟩]) (W := bs [some A_b, some E_b, some H_b]) hm0 ?_
  refine jc_seq (jc_region (tO (qa 0 (fun b_1 => jkO (qe (jx_then (jc_seq (jc_region (qh [0] ?_)))))))))
  obtain ⟨t_1, ht_2, h⟩ := bd h
  refine tO (pc 0 (fun w hm => spec_l00Src_pick.calls s0 4 w _ B_c (hm.exRowW B_h B_ha) rfl A_b (hm.pass (N := [⟨some A_b, 187, [(.slice B_a s0.fcode.length B_c), (.int .i64 s0.fat), (.int .u64 s0.fseed)]⟩]) [0] (by kernel_rfl) (by kernel_rfl)) (hm.exApart (N := [⟨some A_b, 187, [(.slice B_a s0.fcode.length B_c), (.int .i64 s0.fat), (.int .u64 s0.fseed)]⟩]) B_h B_ha [0] (by kernel_rfl)) ht_2) ?_)
  rintro w v w' hm ⟨rfl, hm'⟩
  refine ⟨_, hm.appW (ps := [(0, ⟨some A_b, 187, [(.slice B_a s0.fcode.length B_c), (.int .i64 t_1.2.fat), (.int .u64 t_1.2.fseed)]⟩)]) (N := []) hm' (by kernel_rfl) (by kernel_rfl), jkO ?_⟩
  clear hm hm'
  refine qh [0,0] (tO (qa 0 (fun b_3 => jkO (tO (qs 0 [4] (jkO (qe (jx_then (jc_seq (jc_seq (jc_region (qh [0,4] (qe (jx_then (jc_meet (fun (j : Int × Int × Int × Int × Int × Int) => match j with | ⟨i_2, i_3, i_4, i_5, i_6, i_7⟩ => spec_l06Act.k_8 s0 t_1 i_2 i_3 i_4 i_5 i_6 i_7 = some r) (fun (j : Int × Int × Int × Int × Int × Int) => match j with | ⟨i_2, i_3, i_4, i_5, i_6, i_7⟩ => [(0, [], (.pointer (some ⟨A_b, 0, none⟩))), (6, [], (.pointer (some ⟨b_1, 0, none⟩))), (7, [], (.pointer (some ⟨b_3, 0, none⟩)))]) (fun (j : Int × Int × Int × Int × Int × Int) => match j with | ⟨i_2, i_3, i_4, i_5, i_6, i_7⟩ => [⟨some A_b, 187, [(.slice B_a s0.fcode.length B_c), (.int .i64 i_2), (.int .u64 i_3)]⟩, ⟨some E_b, 27, [(.int .i16 f1.fSteps), (.slice G_a f1.fHammers.length G_c)]⟩, ⟨some H_b, 62, [(.slice I_a w2.fPins.length I_c), (.slice J_a w2.fStrokes.length J_c)]⟩, ⟨some b_1, 77, [(.int .i8 0), (.int .i64 0), (.int .i64 0), (.int .i64 0), (.int .i64 0)]⟩, ⟨some b_3, 77, [(.int .i8 (w8 t_1.1)), (.int .i64 i_4), (.int .i64 i_5), (.int .i64 i_6), (.int .i64 i_7)]⟩]) ?_ ?_)))))))))))))))
  ·refine jc_block (jc_seq (jc_region (qh [0,0] (qe (jx_then (qi h (fun h => ?_) (fun h => ?_)))))))
   ·refine jc_region (qh [0] ?_)
    obtain ⟨t_15, ht_40, h⟩ := bd h
    refine tO (pc 0 (fun w hm => spec_l00Src_pick.calls (⟨s0.fcode, t_1.2.fat, t_1.2.fseed⟩ : Gl00Src) 9 w _ B_c (hm.exRowW B_h B_ha) rfl A_b (hm.pass (N := [⟨some A_b, 187, [(.slice B_a s0.fcode.length B_c), (.int .i64 t_1.2.fat), (.int .u64 t_1.2.fseed)]⟩]) [0] (by kernel_rfl) (by kernel_rfl)) (hm.exApart (N := [⟨some A_b, 187, [(.slice B_a s0.fcode.length B_c), (.int .i64 t_1.2.fat), (.int .u64 t_1.2.fseed)]⟩]) B_h B_ha [0] (by kernel_rfl)) ht_40) ?_)
    rintro w v w' hm ⟨rfl, hm'⟩
    refine ⟨_, hm.appW (ps := [(0, ⟨some A_b, 187, [(.slice B_a s0.fcode.length B_c), (.int .i64 t_15.2.fat), (.int .u64 t_15.2.fseed)]⟩)]) (N := []) hm' (by kernel_rfl) (by kernel_rfl), jkO ?_⟩
    clear hm hm'
    exact qh [0] (tO (qs 0 [4] (jkO (qe (jx_inn (qm ⟨t_15.2.fat, t_15.2.fseed, t_15.1, 0, 0, 0⟩ h [0, 1, 2, 3, 4]))))))
   ·refine jc_seq (jc_region (qh [0,0] (qe (jx_then (qi h (fun h => ?_) (fun h => ?_))))))
    ·refine jc_region (qh [0,0,0,0,1,0] ?_)
     obtain ⟨t_16, ht_42, h⟩ := bd h
     refine tO (pc 0 (fun w hm => spec_l00Src_pick.calls (⟨s0.fcode, t_1.2.fat, t_1.2.fseed⟩ : Gl00Src) (f1.fHammers.length : Int) w _ B_c (hm.exRowW B_h B_ha) rfl A_b (hm.pass (N := [⟨some A_b, 187, [(.slice B_a s0.fcode.length B_c), (.int .i64 t_1.2.fat), (.int .u64 t_1.2.fseed)]⟩]) [0] (by kernel_rfl) (by kernel_rfl)) (hm.exApart (N := [⟨some A_b, 187, [(.slice B_a s0.fcode.length B_c), (.int .i64 t_1.2.fat), (.int .u64 t_1.2.fseed)]⟩]) B_h B_ha [0] (by kernel_rfl)) ht_42) ?_)
     rintro w v w' hm ⟨rfl, hm'⟩
     refine ⟨_, hm.appW (ps := [(0, ⟨some A_b, 187, [(.slice B_a s0.fcode.length B_c), (.int .i64 t_16.2.fat), (.int .u64 t_16.2.fseed)]⟩)]) (N := []) hm' (by kernel_rfl) (by kernel_rfl), jkO ?_⟩
     clear hm hm'
     exact qh [0] (tO (qs 0 [4] (jkO (qe (jx_inn (qm ⟨t_16.2.fat, t_16.2.fseed, t_16.1, 0, 0, 0⟩ h [0, 1, 2, 3, 4]))))))
    ·refine jc_seq (jc_region (qh [0,0] (qe (jx_then (qi h (fun h => ?_) (fun h => ?_))))))
     ·refine jc_region (qh [0,0,0] ?_)
      obtain ⟨t_17, ht_44, h⟩ := bd h
      refine tO (pc 0 (fun w hm => spec_l06Spot.calls (⟨s0.fcode, t_1.2.fat, t_1.2.fseed⟩ : Gl00Src) f1 w2 w _ B_c (hm.exRowW B_h B_ha) rfl G_c (hm.exRowW G_h G_ha) rfl I_c (hm.exRowW I_h I_ha) rfl J_c (hm.exRowW J_h J_ha) rfl A_b E_b H_b (hm.pass (N := [⟨some A_b, 187, [(.slice B_a s0.fcode.length B_c), (.int .i64 t_1.2.fat), (.int .u64 t_1.2.fseed)]⟩, ⟨some E_b, 27, [(.int .i16 f1.fSteps), (.slice G_a f1.fHammers.length G_c)]⟩, ⟨some H_b, 62, [(.slice I_a w2.fPins.length I_c), (.slice J_a w2.fStrokes.length J_c)]⟩]) [0, 1, 2] (by kernel_rfl) (by kernel_rfl)) (hm.exApart (N := [⟨some A_b, 187, [(.slice B_a s0.fcode.length B_c), (.int .i64 t_1.2.fat), (.int .u64 t_1.2.fseed)]⟩, ⟨some E_b, 27, [(.int .i16 f1.fSteps), (.slice G_a f1.fHammers.length G_c)]⟩, ⟨some H_b, 62, [(.slice I_a w2.fPins.length I_c), (.slice J_a w2.fStrokes.length J_c)]⟩]) B_h B_ha [0, 1, 2] (by kernel_rfl)) (hm.exApart (N := [⟨some A_b, 187, [(.slice B_a s0.fcode.length B_c), (.int .i64 t_1.2.fat), (.int .u64 t_1.2.fseed)]⟩, ⟨some E_b, 27, [(.int .i16 f1.fSteps), (.slice G_a f1.fHammers.length G_c)]⟩, ⟨some H_b, 62, [(.slice I_a w2.fPins.length I_c), (.slice J_a w2.fStrokes.length J_c)]⟩]) G_h G_ha [0, 1, 2] (by kernel_rfl)) (hm.exApart (N := [⟨some A_b, 187, [(.slice B_a s0.fcode.length B_c), (.int .i64 t_1.2.fat), (.int .u64 t_1.2.fseed)]⟩, ⟨some E_b, 27, [(.int .i16 f1.fSteps), (.slice G_a f1.fHammers.length G_c)]⟩, ⟨some H_b, 62, [(.slice I_a w2.fPins.length I_c), (.slice J_a w2.fStrokes.length J_c)]⟩]) I_h I_ha [0, 1, 2] (by kernel_rfl)) (hm.exApart (N := [⟨some A_b, 187, [(.slice B_a s0.fcode.length B_c), (.int .i64 t_1.2.fat), (.int .u64 t_1.2.fseed)]⟩, ⟨some E_b, 27, [(.int .i16 f1.fSteps), (.slice G_a f1.fHammers.length G_c)]⟩, ⟨some H_b, 62, [(.slice I_a w2.fPins.length I_c), (.slice J_a w2.fStrokes.length J_c)]⟩]) J_h J_ha [0, 1, 2] (by kernel_rfl)) ht_44) ?_)
      rintro w v w' hm ⟨rfl, hm'⟩
      refine ⟨_, hm.appW (ps := [(0, ⟨some A_b, 187, [(.slice B_a s0.fcode.length B_c), (.int .i64 t_17.2.2.fat), (.int .u64 t_17.2.2.fseed)]⟩), (1, ⟨some E_b, 27, [(.int .i16 f1.fSteps), (.slice G_a f1.fHammers.length G_c)]⟩), (2, ⟨some H_b, 62, [(.slice I_a w2.fPins.length I_c), (.slice J_a w2.fStrokes.length J_c)]⟩)]) (N := []) hm' (by kernel_rfl) (by kernel_rfl), jkO ?_⟩
      clear hm hm'
      exact qh [0,0,0,0] (tO (qs 0 [4] (jkO (qh [0] (tO (qs 0 [4] (jkO (qe (jx_inn (qm ⟨t_17.2.2.fat, t_17.2.2.fseed, t_17.1, t_17.2.1, 0, 0⟩ h [0, 1, 2, 3, 4]))))))))))
     ·refine jc_seq (jc_region (qh [0,0] (qe (jx_then (qi h (fun h => ?_) (fun h => ?_))))))
      ·refine jc_seq (jc_region (qh [0,0,0] ?_))
       obtain ⟨t_18, ht_46, h⟩ := bd h
       refine tO (pc 0 (fun w hm => spec_l06Spot.calls (⟨s0.fcode, t_1.2.fat, t_1.2.fseed⟩ : Gl00Src) f1 w2 w _ B_c (hm.exRowW B_h B_ha) rfl G_c (hm.exRowW G_h G_ha) rfl I_c (hm.exRowW I_h I_ha) rfl J_c (hm.exRowW J_h J_ha) rfl A_b E_b H_b (hm.pass (N := [⟨some A_b, 187, [(.slice B_a s0.fcode.length B_c), (.int .i64 t_1.2.fat), (.int .u64 t_1.2.fseed)]⟩, ⟨some E_b, 27, [(.int .i16 f1.fSteps), (.slice G_a f1.fHammers.length G_c)]⟩, ⟨some H_b, 62, [(.slice I_a w2.fPins.length I_c), (.slice J_a w2.fStrokes.length J_c)]⟩]) [0, 1, 2] (by kernel_rfl) (by kernel_rfl)) (hm.exApart (N := [⟨some A_b, 187, [(.slice B_a s0.fcode.length B_c), (.int .i64 t_1.2.fat), (.int .u64 t_1.2.fseed)]⟩, ⟨some E_b, 27, [(.int .i16 f1.fSteps), (.slice G_a f1.fHammers.length G_c)]⟩, ⟨some H_b, 62, [(.slice I_a w2.fPins.length I_c), (.slice J_a w2.fStrokes.length J_c)]⟩]) B_h B_ha [0, 1, 2] (by kernel_rfl)) (hm.exApart (N := [⟨some A_b, 187, [(.slice B_a s0.fcode.length B_c), (.int .i64 t_1.2.fat), (.int .u64 t_1.2.fseed)]⟩, ⟨some E_b, 27, [(.int .i16 f1.fSteps), (.slice G_a f1.fHammers.length G_c)]⟩, ⟨some H_b, 62, [(.slice I_a w2.fPins.length I_c), (.slice J_a w2.fStrokes.length J_c)]⟩]) G_h G_ha [0, 1, 2] (by kernel_rfl)) (hm.exApart (N := [⟨some A_b, 187, [(.slice B_a s0.fcode.length B_c), (.int .i64 t_1.2.fat), (.int .u64 t_1.2.fseed)]⟩, ⟨some E_b, 27, [(.int .i16 f1.fSteps), (.slice G_a f1.fHammers.length G_c)]⟩, ⟨some H_b, 62, [(.slice I_a w2.fPins.length I_c), (.slice J_a w2.fStrokes.length J_c)]⟩]) I_h I_ha [0, 1, 2] (by kernel_rfl)) (hm.exApart (N := [⟨some A_b, 187, [(.slice B_a s0.fcode.length B_c), (.int .i64 t_1.2.fat), (.int .u64 t_1.2.fseed)]⟩, ⟨some E_b, 27, [(.int .i16 f1.fSteps), (.slice G_a f1.fHammers.length G_c)]⟩, ⟨some H_b, 62, [(.slice I_a w2.fPins.length I_c), (.slice J_a w2.fStrokes.length J_c)]⟩]) J_h J_ha [0, 1, 2] (by kernel_rfl)) ht_46) ?_)
       rintro w v w' hm ⟨rfl, hm'⟩
       refine ⟨_, hm.appW (ps := [(0, ⟨some A_b, 187, [(.slice B_a s0.fcode.length B_c), (.int .i64 t_18.2.2.fat), (.int .u64 t_18.2.2.fseed)]⟩), (1, ⟨some E_b, 27, [(.int .i16 f1.fSteps), (.slice G_a f1.fHammers.length G_c)]⟩), (2, ⟨some H_b, 62, [(.slice I_a w2.fPins.length I_c), (.slice J_a w2.fStrokes.length J_c)]⟩)]) (N := []) hm' (by kernel_rfl) (by kernel_rfl), jkO ?_⟩
       clear hm hm'
       refine qh [0,0,0,0] (tO (qs 0 [4] (jkO (qh [0] (tO (qs 0 [4] (jkO (qe (jx_then (jc_region (qh [0,0,0] ?_)))))))))))
       obtain ⟨t_19, ht_47, h⟩ := bd h
       refine tO (pc 0 (fun w hm => spec_l06Spot.calls (⟨s0.fcode, t_18.2.2.fat, t_18.2.2.fseed⟩ : Gl00Src) f1 w2 w _ B_c (hm.exRowW B_h B_ha) rfl G_c (hm.exRowW G_h G_ha) rfl I_c (hm.exRowW I_h I_ha) rfl J_c (hm.exRowW J_h J_ha) rfl A_b E_b H_b (hm.pass (N := [⟨some A_b, 187, [(.slice B_a s0.fcode.length B_c), (.int .i64 t_18.2.2.fat), (.int .u64 t_18.2.2.fseed)]⟩, ⟨some E_b, 27, [(.int .i16 f1.fSteps), (.slice G_a f1.fHammers.length G_c)]⟩, ⟨some H_b, 62, [(.slice I_a w2.fPins.length I_c), (.slice J_a w2.fStrokes.length J_c)]⟩]) [0, 1, 2] (by kernel_rfl) (by kernel_rfl)) (hm.exApart (N := [⟨some A_b, 187, [(.slice B_a s0.fcode.length B_c), (.int .i64 t_18.2.2.fat), (.int .u64 t_18.2.2.fseed)]⟩, ⟨some E_b, 27, [(.int .i16 f1.fSteps), (.slice G_a f1.fHammers.length G_c)]⟩, ⟨some H_b, 62, [(.slice I_a w2.fPins.length I_c), (.slice J_a w2.fStrokes.length J_c)]⟩]) B_h B_ha [0, 1, 2] (by kernel_rfl)) (hm.exApart (N := [⟨some A_b, 187, [(.slice B_a s0.fcode.length B_c), (.int .i64 t_18.2.2.fat), (.int .u64 t_18.2.2.fseed)]⟩, ⟨some E_b, 27, [(.int .i16 f1.fSteps), (.slice G_a f1.fHammers.length G_c)]⟩, ⟨some H_b, 62, [(.slice I_a w2.fPins.length I_c), (.slice J_a w2.fStrokes.length J_c)]⟩]) G_h G_ha [0, 1, 2] (by kernel_rfl)) (hm.exApart (N := [⟨some A_b, 187, [(.slice B_a s0.fcode.length B_c), (.int .i64 t_18.2.2.fat), (.int .u64 t_18.2.2.fseed)]⟩, ⟨some E_b, 27, [(.int .i16 f1.fSteps), (.slice G_a f1.fHammers.length G_c)]⟩, ⟨some H_b, 62, [(.slice I_a w2.fPins.length I_c), (.slice J_a w2.fStrokes.length J_c)]⟩]) I_h I_ha [0, 1, 2] (by kernel_rfl)) (hm.exApart (N := [⟨some A_b, 187, [(.slice B_a s0.fcode.length B_c), (.int .i64 t_18.2.2.fat), (.int .u64 t_18.2.2.fseed)]⟩, ⟨some E_b, 27, [(.int .i16 f1.fSteps), (.slice G_a f1.fHammers.length G_c)]⟩, ⟨some H_b, 62, [(.slice I_a w2.fPins.length I_c), (.slice J_a w2.fStrokes.length J_c)]⟩]) J_h J_ha [0, 1, 2] (by kernel_rfl)) ht_47) ?_)
       rintro w v w' hm ⟨rfl, hm'⟩
       refine ⟨_, hm.appW (ps := [(0, ⟨some A_b, 187, [(.slice B_a s0.fcode.length B_c), (.int .i64 t_19.2.2.fat), (.int .u64 t_19.2.2.fseed)]⟩), (1, ⟨some E_b, 27, [(.int .i16 f1.fSteps), (.slice G_a f1.fHammers.length G_c)]⟩), (2, ⟨some H_b, 62, [(.slice I_a w2.fPins.length I_c), (.slice J_a w2.fStrokes.length J_c)]⟩)]) (N := []) hm' (by kernel_rfl) (by kernel_rfl), jkO ?_⟩
       clear hm hm'
       exact qh [0,0,0,0] (tO (qs 0 [4] (jkO (qh [0] (tO (qs 0 [4] (jkO (qe (jx_inn (qm ⟨t_19.2.2.fat, t_19.2.2.fseed, t_18.1, t_18.2.1, t_19.1, t_19.2.1⟩ h [0, 1, 2, 3, 4]))))))))))
      ·exact jc_skip (jx_inn (qm ⟨t_1.2.fat, t_1.2.fseed, 0, 0, 0, 0⟩ h [0, 1, 2, 3, 4]))
  ·rintro ⟨i_2, i_3, i_4, i_5, i_6, i_7⟩ h
   replace h : spec_l06Act.k_8 s0 t_1 i_2 i_3 i_4 i_5 i_6 i_7 = some r := h
   rw [spec_l06Act.k_8] at h
   refine jx_then (jc_seq (jc_meet (fun (j : Int × Int × Int) => match j with | ⟨i_9, i_10, i_11⟩ => spec_l06Act.k_12 s0 i_4 i_5 i_6 i_7 i_9 i_10 i_11 = some r) (fun (j : Int × Int × Int) => match j with | ⟨i_9, i_10, i_11⟩ => [(6, [], (.pointer (some ⟨b_1, 0, none⟩))), (7, [], (.pointer (some ⟨b_3, 0, none⟩)))]) (fun (j : Int × Int × Int) => match j with | ⟨i_9, i_10, i_11⟩ => [⟨some A_b, 187, [(.slice B_a s0.fcode.length B_c), (.int .i64 i_9), (.int .u64 i_10)]⟩, ⟨some E_b, 27, [(.int .i16 f1.fSteps), (.slice G_a f1.fHammers.length G_c)]⟩, ⟨some H_b, 62, [(.slice I_a w2.fPins.length I_c), (.slice J_a w2.fStrokes.length J_c)]⟩, ⟨some b_1, 77, [(.int .i8 0), (.int .i64 0), (.int .i64 0), (.int .i64 0), (.int .i64 0)]⟩, ⟨some b_3, 77, [(.int .i8 i_11), (.int .i64 i_4), (.int .i64 i_5), (.int .i64 i_6), (.int .i64 i_7)]⟩]) ?_ ?_))
   ·refine jc_seq (jc_region (qh [0] ?_))
    obtain ⟨t_13, ht_35, h⟩ := bd h
    refine tO (pc 0 (fun w hm => spec_l00Src_one.calls (⟨s0.fcode, i_2, i_3⟩ : Gl00Src) 24 w _ B_c (hm.exRowW B_h B_ha) rfl A_b (hm.pass (N := [⟨some A_b, 187, [(.slice B_a s0.fcode.length B_c), (.int .i64 i_2), (.int .u64 i_3)]⟩]) [0] (by kernel_rfl) (by kernel_rfl)) (hm.exApart (N := [⟨some A_b, 187, [(.slice B_a s0.fcode.length B_c), (.int .i64 i_2), (.int .u64 i_3)]⟩]) B_h B_ha [0] (by kernel_rfl)) ht_35) ?_)
    rintro w v w' hm ⟨rfl, hm'⟩
    refine ⟨_, hm.appW (ps := [(0, ⟨some A_b, 187, [(.slice B_a s0.fcode.length B_c), (.int .i64 t_13.2.fat), (.int .u64 t_13.2.fseed)]⟩)]) (N := []) hm' (by kernel_rfl) (by kernel_rfl), jkO ?_⟩
    clear hm hm'
    refine qe (jx_then (qi h (fun h => ?_) (fun h => ?_)))
    ·refine jc_region (qh [0] (tO (qa 0 (fun b_37 => jkO ?_))))
     obtain ⟨t_14, ht_38, h⟩ := bd h
     refine tO (pc 0 (fun w hm => spec_l00Src_among.calls (⟨s0.fcode, t_13.2.fat, t_13.2.fseed⟩ : Gl00Src) ([(-1), 4] : List Int) w _ B_c (hm.exRowW B_h B_ha) rfl 2 (hm.ow 5 (some b_37) 2 ([(-1), 4] : List Int) [] (fun e => nomatch e) encI64_len) rfl A_b (hm.pass (N := [⟨some A_b, 187, [(.slice B_a s0.fcode.length B_c), (.int .i64 t_13.2.fat), (.int .u64 t_13.2.fseed)]⟩]) [0] (by kernel_rfl) (by kernel_rfl)) (hm.exApart (N := [⟨some A_b, 187, [(.slice B_a s0.fcode.length B_c), (.int .i64 t_13.2.fat), (.int .u64 t_13.2.fseed)]⟩]) B_h B_ha [0] (by kernel_rfl)) (hm.ownApart (S := Int) (N := [⟨some A_b, 187, [(.slice B_a s0.fcode.length B_c), (.int .i64 t_13.2.fat), (.int .u64 t_13.2.fseed)]⟩]) (hh := 5) (o := (some b_37)) (T := 2) (cs := row encI64 ([(-1), 4] : List Int) []) (xs := ([(-1), 4] : List Int)) (by kernel_rfl) (fun e => nomatch e) [0] (by kernel_rfl) (by kernel_rfl)) ht_38) ?_)
     rintro w v w' hm ⟨rfl, hm'⟩
     refine ⟨_, hm.appW (ps := [(0, ⟨some A_b, 187, [(.slice B_a s0.fcode.length B_c), (.int .i64 t_14.2.fat), (.int .u64 t_14.2.fseed)]⟩)]) (N := []) hm' (by kernel_rfl) (by kernel_rfl), jkO ?_⟩
     clear hm hm'
     exact qh [0,0] (tO (qs 0 [4] (jkO (qe (qm ⟨t_14.2.fat, t_14.2.fseed, (w8 t_14.1)⟩ h [0, 1, 2, 3, 4])))))
    ·exact jc_skip (qm ⟨t_13.2.fat, t_13.2.fseed, (w8 t_1.1)⟩ h [0, 1, 2, 3, 4])
   ·rintro ⟨i_9, i_10, i_11⟩ h
    replace h : spec_l06Act.k_12 s0 i_4 i_5 i_6 i_7 i_9 i_10 i_11 = some r := h
    rw [spec_l06Act.k_12] at h
    refine jx_then (jc_seq (jc_region (qh [4] (tO (qs 0 [3] (jkO (qe (jx_then (jc_ret ?_)))))))))
    obtain rfl := Option.some.inj h
    exact qr [3] (fun w hm => ⟨rfl, hm.pk [0, 1, 2]⟩)
/-! ### spec.P6Acts -/
def spec_P6Acts.k_6 (xs_3 : List GAct) (i_4 : Int) (i_5 : Int) : Option ((List GAct)) := some xs_3
def spec_P6Acts.l_11 (code0 : List Int) (f1 : GFrame) (w2 : GWear) : ((List GAct) × Int × Int × Int) → Option (((List GAct) × Int × Int × Int) ⊕ (((List GAct) × Int × Int)))
  | (xs_7, i_8, i_9, i_10) => (if (decide (i_10 > 0)) = true then (spec_l06Act (⟨code0, i_8, i_9⟩ : Gl00Src) f1 w2).bind fun t_13 => (spec_l00Min 3 (w64 t_13.1.fKind)).bind fun t_14 => (spec_l00Max 0 t_14).bind fun t_15 => (if xs_7.length + ([(⟨(w8 t_15), t_13.1.fA, t_13.1.fB, t_13.1.fC, t_13.1.fD⟩ : GAct)] : List GAct).length ≤ 4294967296 then some (.inl ((xs_7 ++ ([(⟨(w8 t_15), t_13.1.fA, t_13.1.fB, t_13.1.fC, t_13.1.fD⟩ : GAct)] : List GAct)), t_13.2.fat, t_13.2.fseed, (w64 (i_10 - 1)))) else none) else some (.inr (xs_7, i_8, i_9)))
def spec_P6Acts (code0 : List Int) (f1 : GFrame) (w2 : GWear) : Option ((List GAct)) := (spec_l00From code0).bind fun t_1 => (spec_l00Src_pick (⟨code0, t_1.fat, t_1.fseed⟩ : Gl00Src) 7).bind fun t_2 => (loop (spec_P6Acts.l_11 code0 f1 w2) (([] : List GAct), t_2.2.fat, t_2.2.fseed, t_2.1)).bind fun t_12 => spec_P6Acts.k_6 t_12.1 t_12.2.1 t_12.2.2
theorem spec_P6Acts.calls (code0 : List Int) (f1 : GFrame) (w2 : GWear) (w : World) (r : (List GAct)) {A_a : Option Addr} {A_an : Nat} (A_c : Nat) (A_h : Rw w A_a 1 encU8 code0) (A_hn : code0.length = A_an) {D_a : Option Addr} {D_an : Nat} (D_c : Nat) (D_h : Rw w D_a 2 encGHammer f1.fHammers) (D_hn : f1.fHammers.length = D_an) {F_a : Option Addr} {F_an : Nat} (F_c : Nat) (F_h : Rw w F_a 3 encGWornPin w2.fPins) (F_hn : w2.fPins.length = F_an) {G_a : Option Addr} {G_an : Nat} (G_c : Nat) (G_h : Rw w G_a 1 encI64 w2.fStrokes) (G_hn : w2.fStrokes.length = G_an) (h : spec_P6Acts code0 f1 w2 = some r) :
    Calls Tryz.prog 30 #[(.slice A_a A_an A_c), (.agg #[(.int .i16 f1.fSteps), (.slice D_a D_an D_c)]), (.agg #[(.slice F_a F_an F_c), (.slice G_a G_an G_c)])] w fun e w' => ∃ v, e = .returned v ∧ (∃ (o0 : Option Nat) (c0 : Nat) (s0 : List Value) (n0 : Nat), r.length = n0 ∧ (o0 ≠ none → n0 ≤ c0 ∧ s0.length = (c0 - n0) * 5) ∧ (o0 = none → r = [] ∧ c0 = 0) ∧ v = .slice (o0.map fun b => ⟨b, 0, none⟩) n0 c0 ∧ Mem w [] [⟨o0, 77, row encGAct r s0⟩] w') := by
  subst A_hn D_hn F_hn G_hn
  rw [spec_P6Acts] at h
  refine enter (args := [(.slice A_a code0.length A_c), (.agg #[(.int .i16 f1.fSteps), (.slice D_a f1.fHammers.length D_c)]), (.agg #[(.slice F_a w2.fPins.length F_c), (.slice G_a w2.fStrokes.length G_c)])]) Tryz.func30 rfl Tryz.ntmps30 (by kernel_rfl) (L := []) (W := []) (Mem.start w) ?_
  refine jc_seq (jc_region (tO (qa 0 (fun b_1 => jkO (tO (qa 0 (fun b_2 => jkO (qh [0] (qe (jx_then (jc_seq (jc_region (qh [0] ?_)))))))))))))
  obtain ⟨t_1, ht_3, h⟩ := bd h
  refine tO (pc 0 (fun w hm => spec_l00From.calls code0 w _ A_c (hm.xr A_h) rfl ht_3) ?_)
  rintro w v w' hm ⟨b_4, rfl, hm'⟩
  refine ⟨_, hm.app hm', jkO ?_⟩
  clear hm hm'
  refine qh [0] (qe (jx_then (jc_seq (jc_region (tO (qa 0 (fun b_5 => jkO (qh [0] (qe (jx_then (jc_seq (jc_seq (jc_region (qh [0] ?_))))))))))))))
  obtain ⟨t_2, ht_123, h⟩ := bd h
  refine tO (pc 0 (fun w hm => spec_l00Src_pick.calls (⟨code0, t_1.fat, t_1.fseed⟩ : Gl00Src) 7 w _ A_c (hm.xr A_h) rfl b_4 (hm.pass (N := [⟨some b_4, 187, [(.slice A_a code0.length A_c), (.int .i64 t_1.fat), (.int .u64 t_1.fseed)]⟩]) [2] (by kernel_rfl) (by kernel_rfl)) (hm.exApart (N := [⟨some b_4, 187, [(.slice A_a code0.length A_c), (.int .i64 t_1.fat), (.int .u64 t_1.fseed)]⟩]) A_h (fun _ => List.not_mem_nil) [2] (by kernel_rfl)) ht_123) ?_)
  rintro w v w' hm ⟨rfl, hm'⟩
  refine ⟨_, hm.appW (ps := [(2, ⟨some b_4, 187, [(.slice A_a code0.length A_c), (.int .i64 t_2.2.fat), (.int .u64 t_2.2.fseed)]⟩)]) (N := []) hm' (by kernel_rfl) (by kernel_rfl), jkO ?_⟩
  clear hm hm'
  refine qh [0] (qe (jx_then (jc_meet (fun (j : (List GAct) × Int × Int × (Option Nat) × Nat × (List Value) × Nat) => match j with | ⟨xs_3, i_4, i_5, o_179, cap_180, sp_181, n_182⟩ => spec_P6Acts.k_6 xs_3 i_4 i_5 = some r ∧ (xs_3.length = n_182) ∧ ((o_179 ≠ none → n_182 ≤ cap_180 ∧ sp_181.length = (cap_180 - n_182) * 5)) ∧ ((o_179 = none → xs_3 = [] ∧ cap_180 = 0))) (fun (j : (List GAct) × Int × Int × (Option Nat) × Nat × (List Value) × Nat) => match j with | ⟨xs_3, i_4, i_5, o_179, cap_180, sp_181, n_182⟩ => [(6, [], (.slice none 0 0)), (8, [], (.slice (o_179.map fun b => ⟨b, 0, none⟩) n_182 cap_180))]) (fun (j : (List GAct) × Int × Int × (Option Nat) × Nat × (List Value) × Nat) => match j with | ⟨xs_3, i_4, i_5, o_179, cap_180, sp_181, n_182⟩ => [⟨some b_1, 27, [(.int .i16 f1.fSteps), (.slice D_a f1.fHammers.length D_c)]⟩, ⟨some b_2, 62, [(.slice F_a w2.fPins.length F_c), (.slice G_a w2.fStrokes.length G_c)]⟩, ⟨some b_4, 187, [(.slice A_a code0.length A_c), (.int .i64 i_4), (.int .u64 i_5)]⟩, ⟨o_179, 77, row encGAct xs_3 sp_181⟩]) ?_ ?_)))
  ·refine jc_block ?_
   obtain ⟨t_12, ht_239, hr_223⟩ := bd h
   refine jc_loop (fun (s : (List GAct) × Int × Int × Int) (x : (Option Nat) × Nat × (List Value) × Nat) => match s, x with | ⟨xs_7, i_8, i_9, i_10⟩, ⟨o_217, cap_218, sp_219, n_220⟩ => (xs_7.length = n_220) ∧ ((o_217 ≠ none → n_220 ≤ cap_218 ∧ sp_219.length = (cap_218 - n_220) * 5)) ∧ ((o_217 = none → xs_7 = [] ∧ cap_218 = 0))) (fun (s : (List GAct) × Int × Int × Int) (x : (Option Nat) × Nat × (List Value) × Nat) => match s, x with | ⟨xs_7, i_8, i_9, i_10⟩, ⟨o_217, cap_218, sp_219, n_220⟩ => [(4, [], (.pointer (some ⟨b_1, 0, none⟩))), (5, [], (.pointer (some ⟨b_2, 0, none⟩))), (6, [], (.slice none 0 0)), (7, [], (.pointer (some ⟨b_4, 0, none⟩))), (8, [], (.slice (o_217.map fun b => ⟨b, 0, none⟩) n_220 cap_218)), (9, [], (.int .i64 i_10))]) (fun (s : (List GAct) × Int × Int × Int) (x : (Option Nat) × Nat × (List Value) × Nat) => match s, x with | ⟨xs_7, i_8, i_9, i_10⟩, ⟨o_217, cap_218, sp_219, n_220⟩ => [⟨some b_1, 27, [(.int .i16 f1.fSteps), (.slice D_a f1.fHammers.length D_c)]⟩, ⟨some b_2, 62, [(.slice F_a w2.fPins.length F_c), (.slice G_a w2.fStrokes.length G_c)]⟩, ⟨some b_4, 187, [(.slice A_a code0.length A_c), (.int .i64 i_8), (.int .u64 i_9)]⟩, ⟨o_217, 77, row encGAct xs_7 sp_219⟩]) ht_239 ⟨(some b_5), 0, [], 0⟩ ⟨rfl, (fun _ => ⟨Nat.le_refl _, by simp⟩), (fun e => nomatch e)⟩ (by kernel_rfl) [0, 1, 2, 3] (by kernel_rfl) (by kernel_rfl) ?_
   rintro ⟨xs_7, i_8, i_9, i_10⟩ ⟨o_217, cap_218, sp_219, n_220⟩ y_224 ⟨rfl, hs_221, ho_222⟩ h
   rw [spec_P6Acts.l_11] at h
   refine jc_seq (jc_seq (jc_region (qh [0,0] (qe (jx_then (qi h (fun h => ?_) (fun h => ?_)))))))
   ·refine jc_skip (jx_then (jc_seq (jc_block (jc_seq (jc_region (qh [0] ?_))))))
    obtain ⟨t_13, ht_227, h⟩ := bd h
    refine tO (pc 0 (fun w hm => spec_l06Act.calls (⟨code0, i_8, i_9⟩ : Gl00Src) f1 w2 w _ A_c (hm.xr A_h) rfl D_c (hm.xr D_h) rfl F_c (hm.xr F_h) rfl G_c (hm.xr G_h) rfl b_4 b_1 b_2 (hm.pass (N := [⟨some b_4, 187, [(.slice A_a code0.length A_c), (.int .i64 i_8), (.int .u64 i_9)]⟩, ⟨some b_1, 27, [(.int .i16 f1.fSteps), (.slice D_a f1.fHammers.length D_c)]⟩, ⟨some b_2, 62, [(.slice F_a w2.fPins.length F_c), (.slice G_a w2.fStrokes.length G_c)]⟩]) [2, 0, 1] (by kernel_rfl) (by kernel_rfl)) (hm.exApart (N := [⟨some b_4, 187, [(.slice A_a code0.length A_c), (.int .i64 i_8), (.int .u64 i_9)]⟩, ⟨some b_1, 27, [(.int .i16 f1.fSteps), (.slice D_a f1.fHammers.length D_c)]⟩, ⟨some b_2, 62, [(.slice F_a w2.fPins.length F_c), (.slice G_a w2.fStrokes.length G_c)]⟩]) A_h (fun _ => List.not_mem_nil) [2, 0, 1] (by kernel_rfl)) (hm.exApart (N := [⟨some b_4, 187, [(.slice A_a code0.length A_c), (.int .i64 i_8), (.int .u64 i_9)]⟩, ⟨some b_1, 27, [(.int .i16 f1.fSteps), (.slice D_a f1.fHammers.length D_c)]⟩, ⟨some b_2, 62, [(.slice F_a w2.fPins.length F_c), (.slice G_a w2.fStrokes.length G_c)]⟩]) D_h (fun _ => List.not_mem_nil) [2, 0, 1] (by kernel_rfl)) (hm.exApart (N := [⟨some b_4, 187, [(.slice A_a code0.length A_c), (.int .i64 i_8), (.int .u64 i_9)]⟩, ⟨some b_1, 27, [(.int .i16 f1.fSteps), (.slice D_a f1.fHammers.length D_c)]⟩, ⟨some b_2, 62, [(.slice F_a w2.fPins.length F_c), (.slice G_a w2.fStrokes.length G_c)]⟩]) F_h (fun _ => List.not_mem_nil) [2, 0, 1] (by kernel_rfl)) (hm.exApart (N := [⟨some b_4, 187, [(.slice A_a code0.length A_c), (.int .i64 i_8), (.int .u64 i_9)]⟩, ⟨some b_1, 27, [(.int .i16 f1.fSteps), (.slice D_a f1.fHammers.length D_c)]⟩, ⟨some b_2, 62, [(.slice F_a w2.fPins.length F_c), (.slice G_a w2.fStrokes.length G_c)]⟩]) G_h (fun _ => List.not_mem_nil) [2, 0, 1] (by kernel_rfl)) ht_227) ?_)
    rintro w v w' hm ⟨rfl, hm'⟩
    refine ⟨_, hm.appW (ps := [(2, ⟨some b_4, 187, [(.slice A_a code0.length A_c), (.int .i64 t_13.2.fat), (.int .u64 t_13.2.fseed)]⟩), (0, ⟨some b_1, 27, [(.int .i16 f1.fSteps), (.slice D_a f1.fHammers.length D_c)]⟩), (1, ⟨some b_2, 62, [(.slice F_a w2.fPins.length F_c), (.slice G_a w2.fStrokes.length G_c)]⟩)]) (N := []) hm' (by kernel_rfl) (by kernel_rfl), jkO ?_⟩
    clear hm hm'
    refine tO (qa 0 (fun b_228 => jkO (tO (qs 0 [4] (jkO (qe (jx_then (jc_seq (jc_region (qh [0,4,0] ?_))))))))))
    obtain ⟨t_14, ht_229, h⟩ := bd h
    refine tO (pc 0 (fun w hm => spec_l00Min.calls 3 (w64 t_13.1.fKind) w _ ht_229) ?_)
    rintro w v w' hm ⟨rfl, hm'⟩
    refine ⟨_, hm.app hm', jkO ?_⟩
    clear hm hm'
    obtain ⟨t_15, ht_230, h⟩ := bd h
    refine tO (pc 0 (fun w hm => spec_l00Max.calls 0 t_14 w _ ht_230) ?_)
    rintro w v w' hm ⟨rfl, hm'⟩
    refine ⟨_, hm.app hm', jkO ?_⟩
    clear hm hm'
    refine qh [0,0] (tO (qs 0 [4] (jkO (qe (jx_then (jc_region (qh [0,4] (tO (qa 0 (fun b_231 => jkO ?_))))))))))
    obtain ⟨hg_232, h⟩ := gd h
    exact tO (p_apn 0 3 o_217 77 xs_7.length 1 cap_218 5 40 (some ⟨b_231, 0, none⟩) encGAct xs_7 ([(⟨(w8 t_15), t_13.1.fA, t_13.1.fB, t_13.1.fC, t_13.1.fD⟩ : GAct)] : List GAct) sp_219 (.agg #[(.int .i8 0), (.int .i64 0), (.int .i64 0), (.int .i64 0), (.int .i64 0)]) rfl rfl (by kernel_rfl) (by kernel_rfl) (by kernel_rfl) encGAct_len encGAct_cell hs_221 ho_222 (fun w hm => (hm.ow 5 (some b_231) 77 ([(⟨(w8 t_15), t_13.1.fA, t_13.1.fB, t_13.1.fC, t_13.1.fD⟩ : GAct)] : List GAct) [] (fun e => nomatch e) encGAct_len)) hg_232 (by kernel_rfl) (by kernel_rfl) (fun o_233 cap_234 sp_235 hs_236 ho_237 => jkO (qh [0] (qe (jx_inn (jx_then (jc_region (qh [0,0,0] (qe (qb ((xs_7 ++ ([(⟨(w8 t_15), t_13.1.fA, t_13.1.fB, t_13.1.fC, t_13.1.fD⟩ : GAct)] : List GAct)), t_13.2.fat, t_13.2.fseed, (w64 (i_10 - 1))) ⟨o_233, cap_234, sp_235, (xs_7 ++ ([(⟨(w8 t_15), t_13.1.fA, t_13.1.fB, t_13.1.fC, t_13.1.fD⟩ : GAct)] : List GAct)).length⟩ h ⟨rfl, hs_236, ho_237⟩ [0, 1, 2, 3]))))))))))
   ·refine jc_exit (jx_thenx (jx_leave (xs_7, i_8, i_9) (Option.some.inj h).symm (fun e_238 => ?_)))
    subst e_238
    exact jx_ine (qm ⟨xs_7, i_8, i_9, o_217, cap_218, sp_219, xs_7.length⟩ ⟨hr_223, rfl, hs_221, ho_222⟩ [0, 1, 2, 3])
  ·rintro ⟨xs_3, i_4, i_5, o_179, cap_180, sp_181, n_182⟩ ⟨h, rfl, hs_183, ho_184⟩
   replace h : spec_P6Acts.k_6 xs_3 i_4 i_5 = some r := h
   rw [spec_P6Acts.k_6] at h
   refine jx_then (jc_seq (jc_region (qh [0,0] (qe (jx_then (jc_ret ?_))))))
   obtain rfl := Option.some.inj h
   exact qr [] (fun w hm => ⟨o_179, cap_180, sp_181, xs_3.length, rfl, hs_183, ho_184, rfl, hm.pk [3]⟩)
/-! ### impl.within -/
def impl_within (n0 : Int) (low1 : Int) (high2 : Int) : Option (Bool) := some ((decide (low1 ≤ n0)) && (decide (n0 ≤ high2)))
theorem impl_within.calls (n0 : Int) (low1 : Int) (high2 : Int) (w : World) (r : Bool) (h : impl_within n0 low1 high2 = some r) :
    Calls Tryz.prog 126 #[(.int .i64 n0), (.int .i64 low1), (.int .i64 high2)] w fun e w' => ∃ v, e = .returned v ∧ (v = (.bool r) ∧ Mem w [] [] w') := by
  rw [impl_within] at h
  refine enter (args := [(.int .i64 n0), (.int .i64 low1), (.int .i64 high2)]) Tryz.func126 rfl Tryz.ntmps126 (by kernel_rfl) (L := []) (W := []) (Mem.start w) ?_
  refine jc_seq (jc_region (qh [0] (qe (jx_then (jc_seq (jc_region (qf [(0, 0), (0, 0), (0, 0), (0, 0), (0, 1), (0, 1), (0, 1), (0, 0), (0, 0)] (qe (jx_then (jc_ret ?_))))))))))
  obtain rfl := Option.some.inj h
  exact qr [] (fun w hm => ⟨rfl, hm.pk []⟩)
/-! ### impl.size[impl.Hammer] -/
def impl_size_Hammer (list0 : List GHammer) : Option (Int) := some (list0.length : Int)
theorem impl_size_Hammer.calls (list0 : List GHammer) (w : World) (r : Int) {A_a : Option Addr} {A_an : Nat} (A_c : Nat) (A_h : Rw w A_a 2 encGHammer list0) (A_hn : list0.length = A_an) (h : impl_size_Hammer list0 = some r) :
    Calls Tryz.prog 133 #[(.slice A_a A_an A_c)] w fun e w' => ∃ v, e = .returned v ∧ (v = (.int .i64 r) ∧ Mem w [] [] w') := by
  subst A_hn
  rw [impl_size_Hammer] at h
  refine enter (args := [(.slice A_a list0.length A_c)]) Tryz.func133 rfl Tryz.ntmps133 (by kernel_rfl) (L := []) (W := []) (Mem.start w) ?_
  refine jc_seq (jc_region (qh [0] (qe (jx_then (jc_seq (jc_region (qh [0,0,0] (qe (jx_then (jc_ret ?_))))))))))
  obtain rfl := Option.some.inj h
  exact qr [] (fun w hm => ⟨rfl, hm.pk []⟩)
/-! ### impl.isPitch -/
def impl_isPitch (n0 : Int) : Option (Bool) := (impl_within n0 0 47).bind fun t_1 => some t_1
theorem impl_isPitch.calls (n0 : Int) (w : World) (r : Bool) (h : impl_isPitch n0 = some r) :
    Calls Tryz.prog 151 #[(.int .i64 n0)] w fun e w' => ∃ v, e = .returned v ∧ (v = (.bool r) ∧ Mem w [] [] w') := by
  rw [impl_isPitch] at h
  refine enter (args := [(.int .i64 n0)]) Tryz.func151 rfl Tryz.ntmps151 (by kernel_rfl) (L := []) (W := []) (Mem.start w) ?_
  refine jc_seq (jc_region (qh [0] (qe (jx_then (jc_seq (jc_region (qh [0] ?_)))))))
  obtain ⟨t_1, ht_1, h⟩ := bd h
  refine tO (pc 0 (fun w hm => impl_within.calls n0 0 47 w _ ht_1) ?_)
  rintro w v w' hm ⟨rfl, hm'⟩
  refine ⟨_, hm.app hm', jkO ?_⟩
  clear hm hm'
  refine qh [0] (qe (jx_then (jc_ret ?_)))
  obtain rfl := Option.some.inj h
  exact qr [] (fun w hm => ⟨rfl, hm.pk []⟩)
/-! ### impl.ValidFrame$1 -/
def impl_ValidFrame_1 (h0 : GHammer) (p1 : GFrame) : Option (Bool) := (impl_isPitch (w64 h0.fPitch)).bind fun t_1 => (if (!t_1) = true then some true else (impl_within (w64 h0.fReady) 1 (if (w64 p1.fSteps) < 20 then (w64 p1.fSteps) else 20)).bind fun t_2 => some (!t_2))
theorem impl_ValidFrame_1.calls (h0 : GHammer) (p1 : GFrame) (w : World) (r : Bool) {F_a : Option Addr} {F_an : Nat} (F_c : Nat) (F_h : Rw w F_a 2 encGHammer p1.fHammers) (F_hn : p1.fHammers.length = F_an) (D_b : Nat) (hm0 : Mem w (bs [some D_b]) [⟨some D_b, 27, [(.int .i16 p1.fSteps), (.slice F_a F_an F_c)]⟩] w) (F_ha : p1.fHammers ≠ [] → aB F_a ∉ bs [some D_b]) (h : impl_ValidFrame_1 h0 p1 = some r) :
    Calls Tryz.prog 150 #[(.agg #[(.int .i8 h0.fPitch), (.int .i8 h0.fReady)]), (.pointer (some ⟨D_b, 0, none⟩))] w fun e w' => ∃ v, e = .returned v ∧ (v = (.bool r) ∧ Mem w (bs [some D_b]) [⟨some D_b, 27, [(.int .i16 p1.fSteps), (.slice F_a F_an F_c)]⟩] w') := by
  subst F_hn
  rw [impl_ValidFrame_1] at h
  refine enter (args := [(.agg #[(.int .i8 h0.fPitch), (.int .i8 h0.fReady)]), (.pointer (some ⟨D_b, 0, none⟩))]) Tryz.func150 rfl Tryz.ntmps150 (by kernel_rfl) (L := [⟨some D_b, 27, [(.int .i16 p1.fSteps), (.slice F_a p1.fHammers.length F_c)]⟩]) (W := bs [some D_b]) hm0 ?_
  refine jc_seq (jc_region (tO (qa 0 (fun b_1 => jkO (qh [0] (qe (jx_then (jc_seq (jc_region (qh [0,1,0] ?_))))))))))
  obtain ⟨t_1, ht_2, h⟩ := bd h
  refine tO (pc 0 (fun w hm => impl_isPitch.calls (w64 h0.fPitch) w _ ht_2) ?_)
  rintro w v w' hm ⟨rfl, hm'⟩
  refine ⟨_, hm.app hm', jkO ?_⟩
  clear hm hm'
  refine qf [(0, 0), (0, 0), (0, 1), (1, 1), (0, 1), (0, 1), (0, 1), (0, 1), (0, 1)] (qp 9 h (fun h => ?_) (fun h => ?_))
  ·refine qf [(0, 3), (0, 3), (0, 4), (0, 0)] (qe (jx_then (jc_ret ?_)))
   obtain rfl := Option.some.inj h
   exact qr [] (fun w hm => ⟨rfl, hm.pk [0]⟩)
  ·obtain ⟨t_2, ht_4, h⟩ := bd h
   refine tO (pc 2 (fun w hm => impl_within.calls (w64 h0.fReady) 1 (if (w64 p1.fSteps) < 20 then (w64 p1.fSteps) else 20) w _ ht_4) ?_)
   rintro w v w' hm ⟨rfl, hm'⟩
   refine ⟨_, hm.app hm', jkO ?_⟩
   clear hm hm'
   refine qf [(0, 2), (0, 5), (0, 0)] (qe (jx_then (jc_ret ?_)))
   obtain rfl := Option.some.inj h
   exact qr [] (fun w hm => ⟨rfl, hm.pk [0]⟩)
/-! ### slices.IndexFunc[[]impl.Hammer,impl.Hammer] -/
def slices_IndexFunc_Hammer_at_impl_ValidFrame_1.k_1 : Option (Int) := some (-1)
def slices_IndexFunc_Hammer_at_impl_ValidFrame_1.l_3 (s0 : List GHammer) (g1c0 : GFrame) : Int → Option ((Int) ⊕ (Int ⊕ Unit))
  | i_2 => (if (decide (i_2 < (s0.length : Int))) = true then (ix s0 i_2).bind fun x_5 => (impl_ValidFrame_1 x_5 g1c0).bind fun t_6 => (if t_6 = true then some (.inr (.inl i_2)) else some (.inl (w64 (i_2 + 1)))) else some (.inr (.inr ())))
def slices_IndexFunc_Hammer_at_impl_ValidFrame_1 (s0 : List GHammer) (g1c0 : GFrame) : Option (Int) := (loop (slices_IndexFunc_Hammer_at_impl_ValidFrame_1.l_3 s0 g1c0) 0).bind fun t_4 => match t_4 with | .inl p => some p | .inr p => slices_IndexFunc_Hammer_at_impl_ValidFrame_1.k_1
theorem slices_IndexFunc_Hammer_at_impl_ValidFrame_1.calls (s0 : List GHammer) (g1c0 : GFrame) (w : World) (r : Int) {A_a : Option Addr} {A_an : Nat} (A_c : Nat) (A_h : Rw w A_a 2 encGHammer s0) (A_hn : s0.length = A_an) {D_a : Option Addr} {D_an : Nat} (D_c : Nat) (D_h : Rw w D_a 2 encGHammer g1c0.fHammers) (D_hn : g1c0.fHammers.length = D_an) (B_b : Nat) (hm0 : Mem w (bs [some B_b]) [⟨some B_b, 27, [(.int .i16 g1c0.fSteps), (.slice D_a D_an D_c)]⟩] w) (A_ha : s0 ≠ [] → aB A_a ∉ bs [some B_b]) (D_ha : g1c0.fHammers ≠ [] → aB D_a ∉ bs [some B_b]) (h : slices_IndexFunc_Hammer_at_impl_ValidFrame_1 s0 g1c0 = some r) :
    Calls Tryz.prog 199 #[(.slice A_a A_an A_c), (.func (.func 150) #[] #[(.pointer (some ⟨B_b, 0, none⟩))])] w fun e w' => ∃ v, e = .returned v ∧ (v = (.int .i64 r) ∧ Mem w (bs [some B_b]) [⟨some B_b, 27, [(.int .i16 g1c0.fSteps), (.slice D_a D_an D_c)]⟩] w') := by
  subst A_hn D_hn
  rw [slices_IndexFunc_Hammer_at_impl_ValidFrame_1] at h
  refine enter (args := [(.slice A_a s0.length A_c), (.func (.func 150) #[] #[(.pointer (some ⟨B_b, 0, none⟩))])]) Tryz.func199 rfl Tryz.ntmps199 (by kernel_rfl) (L := [⟨some B_b, 27, [(.int .i16 g1c0.fSteps), (.slice D_a g1c0.fHammers.length D_c)]⟩]) (W := bs [some B_b]) hm0 ?_
  refine jc_seq (jc_region (qh [0] (qe (jx_then (jc_seq (jc_seq (jc_region (qh [0,0,0] (qe (jx_then (jc_meet (fun (_ : Unit) => slices_IndexFunc_Hammer_at_impl_ValidFrame_1.k_1 = some r) (fun (_ : Unit) => [(4, [], (.int .i64 0))]) (fun (_ : Unit) => [⟨some B_b, 27, [(.int .i16 g1c0.fSteps), (.slice D_a g1c0.fHammers.length D_c)]⟩]) ?_ ?_)))))))))))
  ·refine jc_block ?_
   obtain ⟨t_4, ht_40, hr_31⟩ := bd h
   refine jc_loop (fun (s : Int) (x : Unit) => match s, x with | i_2, _ => True) (fun (s : Int) (x : Unit) => match s, x with | i_2, _ => [(0, [], (.slice A_a s0.length A_c)), (1, [], (.func (.func 150) #[] #[(.pointer (some ⟨B_b, 0, none⟩))])), (4, [], (.int .i64 0)), (7, [], (.int .i64 (s0.length : Int))), (8, [], (.int .i64 i_2))]) (fun (s : Int) (x : Unit) => match s, x with | i_2, _ => [⟨some B_b, 27, [(.int .i16 g1c0.fSteps), (.slice D_a g1c0.fHammers.length D_c)]⟩]) ht_40 () trivial (by kernel_rfl) [0] (by kernel_rfl) (by kernel_rfl) ?_
   rintro i_2 _ y_32 _ h
   rw [slices_IndexFunc_Hammer_at_impl_ValidFrame_1.l_3] at h
   refine jc_seq (jc_region (qh [0] (qe (jx_then (jc_seq (qi h (fun h => ?_) (fun h => ?_)))))))
   ·refine jc_skip (jx_then (jc_seq (jc_block (jc_seq (jc_region (qh [0,0] (qe (jx_then (jc_seq (jc_region (qh [0,0,0] ?_)))))))))))
    obtain ⟨x_5, hx_35, h⟩ := bd h
    refine tO (qx 0 A_a 2 hx_35 rfl (A_h.sp hx_35) (jkO (tO (ql 0 true (fun w hm => ((hm.exRowW A_h A_ha).at hx_35)) (jkO ?_)))))
    obtain ⟨t_6, ht_36, h⟩ := bd h
    refine tO (pc 0 (fun w hm => impl_ValidFrame_1.calls x_5 g1c0 w _ D_c (hm.exRowW D_h D_ha) rfl B_b (hm.pass (N := [⟨some B_b, 27, [(.int .i16 g1c0.fSteps), (.slice D_a g1c0.fHammers.length D_c)]⟩]) [0] (by kernel_rfl) (by kernel_rfl)) (hm.exApart (N := [⟨some B_b, 27, [(.int .i16 g1c0.fSteps), (.slice D_a g1c0.fHammers.length D_c)]⟩]) D_h D_ha [0] (by kernel_rfl)) ht_36) ?_)
    rintro w v w' hm ⟨rfl, hm'⟩
    refine ⟨_, hm.appW (ps := [(0, ⟨some B_b, 27, [(.int .i16 g1c0.fSteps), (.slice D_a g1c0.fHammers.length D_c)]⟩)]) (N := []) hm' (by kernel_rfl) (by kernel_rfl), jkO ?_⟩
    clear hm hm'
    refine qe (jx_then (qi h (fun h => ?_) (fun h => ?_)))
    ·refine jc_seq (jc_region (qh [0,0] (qe (jx_then (jc_ret (jx_inr (jx_thenr (jx_leaver (.inl i_2) (Option.some.inj h).symm (fun e_38 => ?_)))))))))
     subst e_38
     refine jx_inr (jx_thenr (jx_thenr ?_))
     obtain rfl := Option.some.inj hr_31
     exact qr [] (fun w hm => ⟨rfl, hm.pk [0]⟩)
    ·exact jc_skip (jx_inn (jx_then (jc_region (qh [0,0] (qe (qb (w64 (i_2 + 1)) () h trivial [0]))))))
   ·refine jc_exit (jx_thenx (jx_leave (.inr ()) (Option.some.inj h).symm (fun e_39 => ?_)))
    subst e_39
    exact jx_ine (qm () hr_31 [0])
  ·rintro _ h
   replace h : slices_IndexFunc_Hammer_at_impl_ValidFrame_1.k_1 = some r := h
   rw [slices_IndexFunc_Hammer_at_impl_ValidFrame_1.k_1] at h
   refine jx_then (jc_seq (jc_region (qh [0] (qe (jx_then (jc_ret ?_))))))
   obtain rfl := Option.some.inj h
   exact qr [] (fun w hm => ⟨rfl, hm.pk [0]⟩)
/-! ### slices.ContainsFunc[[]impl.Hammer,impl.Hammer] -/
def slices_ContainsFunc_Hammer_at_impl_ValidFrame_1 (s0 : List GHammer) (g1c0 : GFrame) : Option (Bool) := (slices_IndexFunc_Hammer_at_impl_ValidFrame_1 s0 g1c0).bind fun t_1 => some (decide (t_1 ≥ 0))
theorem slices_ContainsFunc_Hammer_at_impl_ValidFrame_1.calls (s0 : List GHammer) (g1c0 : GFrame) (w : World) (r : Bool) {A_a : Option Addr} {A_an : Nat} (A_c : Nat) (A_h : Rw w A_a 2 encGHammer s0) (A_hn : s0.length = A_an) {D_a : Option Addr} {D_an : Nat} (D_c : Nat) (D_h : Rw w D_a 2 encGHammer g1c0.fHammers) (D_hn : g1c0.fHammers.length = D_an) (B_b : Nat) (hm0 : Mem w (bs [some B_b]) [⟨some B_b, 27, [(.int .i16 g1c0.fSteps), (.slice D_a D_an D_c)]⟩] w) (A_ha : s0 ≠ [] → aB A_a ∉ bs [some B_b]) (D_ha : g1c0.fHammers ≠ [] → aB D_a ∉ bs [some B_b]) (h : slices_ContainsFunc_Hammer_at_impl_ValidFrame_1 s0 g1c0 = some r) :
    Calls Tryz.prog 149 #[(.slice A_a A_an A_c), (.func (.func 150) #[] #[(.pointer (some ⟨B_b, 0, none⟩))])] w fun e w' => ∃ v, e = .returned v ∧ (v = (.bool r) ∧ Mem w (bs [some B_b]) [⟨some B_b, 27, [(.int .i16 g1c0.fSteps), (.slice D_a D_an D_c)]⟩] w') := by
  subst A_hn D_hn
  rw [slices_ContainsFunc_Hammer_at_impl_ValidFrame_1] at h
  refine enter (args := [(.slice A_a s0.length A_c), (.func (.func 150) #[] #[(.pointer (some ⟨B_b, 0, none⟩))])]) Tryz.func149 rfl Tryz.ntmps149 (by kernel_rfl) (L := [⟨some B_b, 27, [(.int .i16 g1c0.fSteps), (.slice D_a g1c0.fHammers.length D_c)]⟩]) (W := bs [some B_b]) hm0 ?_
  refine jc_seq (jc_region (qh [0] (qe (jx_then (jc_seq (jc_region (qh [0,0] ?_)))))))
  obtain ⟨t_1, ht_1, h⟩ := bd h
  refine tO (pc 0 (fun w hm => slices_IndexFunc_Hammer_at_impl_ValidFrame_1.calls s0 g1c0 w _ A_c (hm.exRowW A_h A_ha) rfl D_c (hm.exRowW D_h D_ha) rfl B_b (hm.pass (N := [⟨some B_b, 27, [(.int .i16 g1c0.fSteps), (.slice D_a g1c0.fHammers.length D_c)]⟩]) [0] (by kernel_rfl) (by kernel_rfl)) (hm.exApart (N := [⟨some B_b, 27, [(.int .i16 g1c0.fSteps), (.slice D_a g1c0.fHammers.length D_c)]⟩]) A_h A_ha [0] (by kernel_rfl)) (hm.exApart (N := [⟨some B_b, 27, [(.int .i16 g1c0.fSteps), (.slice D_a g1c0.fHammers.length D_c)]⟩]) D_h D_ha [0] (by kernel_rfl)) ht_1) ?_)
  rintro w v w' hm ⟨rfl, hm'⟩
  refine ⟨_, hm.appW (ps := [(0, ⟨some B_b, 27, [(.int .i16 g1c0.fSteps), (.slice D_a g1c0.fHammers.length D_c)]⟩)]) (N := []) hm' (by kernel_rfl) (by kernel_rfl), jkO ?_⟩
  clear hm hm'
  refine qh [0,0] (qe (jx_then (jc_ret ?_)))
  obtain rfl := Option.some.inj h
  exact qr [] (fun w hm => ⟨rfl, hm.pk [0]⟩)
/-! ### impl.ValidFrame -/
def impl_ValidFrame (f0 : GFrame) : Option (Bool) := (impl_within (w64 f0.fSteps) 2 96).bind fun t_1 => (if t_1 = true then (impl_size_Hammer f0.fHammers).bind fun t_2 => (impl_within t_2 1 24).bind fun t_3 => (if t_3 = true then (slices_ContainsFunc_Hammer_at_impl_ValidFrame_1 f0.fHammers f0).bind fun t_4 => some (!t_4) else some false) else some false)
theorem impl_ValidFrame.calls (f0 : GFrame) (w : World) (r : Bool) {C_a : Option Addr} {C_an : Nat} (C_c : Nat) (C_h : Rw w C_a 2 encGHammer f0.fHammers) (C_hn : f0.fHammers.length = C_an) (h : impl_ValidFrame f0 = some r) :
    Calls Tryz.prog 77 #[(.agg #[(.int .i16 f0.fSteps), (.slice C_a C_an C_c)])] w fun e w' => ∃ v, e = .returned v ∧ (v = (.bool r) ∧ Mem w [] [] w') := by
  subst C_hn
  rw [impl_ValidFrame] at h
  refine enter (args := [(.agg #[(.int .i16 f0.fSteps), (.slice C_a f0.fHammers.length C_c)])]) Tryz.func77 rfl Tryz.ntmps77 (by kernel_rfl) (L := []) (W := []) (Mem.start w) ?_
  refine jc_seq (jc_region (tO (qa 0 (fun b_1 => jkO (qh [0] (qe (jx_then (jc_seq (jc_region (qh [0,0,0] ?_))))))))))
  obtain ⟨t_1, ht_2, h⟩ := bd h
  refine tO (pc 0 (fun w hm => impl_within.calls (w64 f0.fSteps) 2 96 w _ ht_2) ?_)
  rintro w v w' hm ⟨rfl, hm'⟩
  refine ⟨_, hm.app hm', jkO ?_⟩
  clear hm hm'
  refine qf [(0, 0), (0, 1), (0, 1)] (qp 7 h (fun h => ?_) (fun h => ?_))
  ·obtain ⟨t_2, ht_4, h⟩ := bd h
   refine tO (pc 2 (fun w hm => impl_size_Hammer.calls f0.fHammers w _ C_c (hm.xr C_h) rfl ht_4) ?_)
   rintro w v w' hm ⟨rfl, hm'⟩
   refine ⟨_, hm.app hm', jkO ?_⟩
   clear hm hm'
   obtain ⟨t_3, ht_5, h⟩ := bd h
   refine tO (pc 2 (fun w hm => impl_within.calls t_2 1 24 w _ ht_5) ?_)
   rintro w v w' hm ⟨rfl, hm'⟩
   refine ⟨_, hm.app hm', jkO ?_⟩
   clear hm hm'
   refine qf [(0, 4), (0, 0), (0, 1), (0, 1), (0, 1)] (qp 13 h (fun h => ?_) (fun h => ?_))
   ·obtain ⟨t_4, ht_7, h⟩ := bd h
    refine tO (pc 2 (fun w hm => slices_ContainsFunc_Hammer_at_impl_ValidFrame_1.calls f0.fHammers f0 w _ C_c (hm.xr C_h) rfl C_c (hm.xr C_h) rfl b_1 (hm.pass (N := [⟨some b_1, 27, [(.int .i16 f0.fSteps), (.slice C_a f0.fHammers.length C_c)]⟩]) [0] (by kernel_rfl) (by kernel_rfl)) (hm.exApart (N := [⟨some b_1, 27, [(.int .i16 f0.fSteps), (.slice C_a f0.fHammers.length C_c)]⟩]) C_h (fun _ => List.not_mem_nil) [0] (by kernel_rfl)) (hm.exApart (N := [⟨some b_1, 27, [(.int .i16 f0.fSteps), (.slice C_a f0.fHammers.length C_c)]⟩]) C_h (fun _ => List.not_mem_nil) [0] (by kernel_rfl)) ht_7) ?_)
    rintro w v w' hm ⟨rfl, hm'⟩
    refine ⟨_, hm.appW (ps := [(0, ⟨some b_1, 27, [(.int .i16 f0.fSteps), (.slice C_a f0.fHammers.length C_c)]⟩)]) (N := []) hm' (by kernel_rfl) (by kernel_rfl), jkO ?_⟩
    clear hm hm'
    refine qf [(0, 2), (0, 4), (0, 0)] (qe (jx_then (jc_ret ?_)))
    obtain rfl := Option.some.inj h
    exact qr [] (fun w hm => ⟨rfl, hm.pk []⟩)
   ·refine qf [(0, 3), (0, 3), (0, 5), (0, 0)] (qe (jx_then (jc_ret ?_)))
    obtain rfl := Option.some.inj h
    exact qr [] (fun w hm => ⟨rfl, hm.pk []⟩)
  ·refine qf [(0, 3), (0, 3), (0, 5), (0, 0), (0, 3), (0, 3), (0, 3), (0, 3), (0, 3), (0, 5), (0, 0)] (qe (jx_then (jc_ret ?_)))
   obtain rfl := Option.some.inj h
   exact qr [] (fun w hm => ⟨rfl, hm.pk []⟩)
/-! ### impl.isMade -/
def impl_isMade (n0 : Int) : Option (Bool) := (impl_within n0 0 1000000).bind fun t_1 => some t_1
theorem impl_isMade.calls (n0 : Int) (w : World) (r : Bool) (h : impl_isMade n0 = some r) :
    Calls Tryz.prog 166 #[(.int .i64 n0)] w fun e w' => ∃ v, e = .returned v ∧ (v = (.bool r) ∧ Mem w [] [] w') := by
  rw [impl_isMade] at h
  refine enter (args := [(.int .i64 n0)]) Tryz.func166 rfl Tryz.ntmps166 (by kernel_rfl) (L := []) (W := []) (Mem.start w) ?_
  refine jc_seq (jc_region (qh [0] (qe (jx_then (jc_seq (jc_region (qh [0] ?_)))))))
  obtain ⟨t_1, ht_1, h⟩ := bd h
  refine tO (pc 0 (fun w hm => impl_within.calls n0 0 1000000 w _ ht_1) ?_)
  rintro w v w' hm ⟨rfl, hm'⟩
  refine ⟨_, hm.app hm', jkO ?_⟩
  clear hm hm'
  refine qh [0] (qe (jx_then (jc_ret ?_)))
  obtain rfl := Option.some.inj h
  exact qr [] (fun w hm => ⟨rfl, hm.pk []⟩)
/-! ### impl.ValidWear$1 -/
def impl_ValidWear_1 (n0 : Int) : Option (Bool) := (impl_isMade n0).bind fun t_1 => some (!t_1)
theorem impl_ValidWear_1.calls (n0 : Int) (w : World) (r : Bool) (h : impl_ValidWear_1 n0 = some r) :
    Calls Tryz.prog 212 #[(.int .i64 n0)] w fun e w' => ∃ v, e = .returned v ∧ (v = (.bool r) ∧ Mem w [] [] w') := by
  rw [impl_ValidWear_1] at h
  refine enter (args := [(.int .i64 n0)]) Tryz.func212 rfl Tryz.ntmps212 (by kernel_rfl) (L := []) (W := []) (Mem.start w) ?_
  refine jc_seq (jc_region (qh [0] (qe (jx_then (jc_seq (jc_region (qh [0] ?_)))))))
  obtain ⟨t_1, ht_1, h⟩ := bd h
  refine tO (pc 0 (fun w hm => impl_isMade.calls n0 w _ ht_1) ?_)
  rintro w v w' hm ⟨rfl, hm'⟩
  refine ⟨_, hm.app hm', jkO ?_⟩
  clear hm hm'
  refine qh [0,0] (qe (jx_then (jc_ret ?_)))
  obtain rfl := Option.some.inj h
  exact qr [] (fun w hm => ⟨rfl, hm.pk []⟩)
/-! ### slices.IndexFunc[[]int64,int64] -/
def slices_IndexFunc_int64_at_impl_ValidWear_1.k_1 : Option (Int) := some (-1)
def slices_IndexFunc_int64_at_impl_ValidWear_1.l_3 (s0 : List Int) : Int → Option ((Int) ⊕ (Int ⊕ Unit))
  | i_2 => (if (decide (i_2 < (s0.length : Int))) = true then (ix s0 i_2).bind fun x_5 => (impl_ValidWear_1 x_5).bind fun t_6 => (if t_6 = true then some (.inr (.inl i_2)) else some (.inl (w64 (i_2 + 1)))) else some (.inr (.inr ())))
def slices_IndexFunc_int64_at_impl_ValidWear_1 (s0 : List Int) : Option (Int) := (loop (slices_IndexFunc_int64_at_impl_ValidWear_1.l_3 s0) 0).bind fun t_4 => match t_4 with | .inl p => some p | .inr p => slices_IndexFunc_int64_at_impl_ValidWear_1.k_1
theorem slices_IndexFunc_int64_at_impl_ValidWear_1.calls (s0 : List Int) (w : World) (r : Int) {A_a : Option Addr} {A_an : Nat} (A_c : Nat) (A_h : Rw w A_a 1 encI64 s0) (A_hn : s0.length = A_an) (h : slices_IndexFunc_int64_at_impl_ValidWear_1 s0 = some r) :
    Calls Tryz.prog 242 #[(.slice A_a A_an A_c), (.func (.func 212) #[] #[])] w fun e w' => ∃ v, e = .returned v ∧ (v = (.int .i64 r) ∧ Mem w [] [] w') := by
  subst A_hn
  rw [slices_IndexFunc_int64_at_impl_ValidWear_1] at h
  refine enter (args := [(.slice A_a s0.length A_c), (.func (.func 212) #[] #[])]) Tryz.func242 rfl Tryz.ntmps242 (by kernel_rfl) (L := []) (W := []) (Mem.start w) ?_
  refine jc_seq (jc_region (qh [0] (qe (jx_then (jc_seq (jc_seq (jc_region (qh [0,0,0] (qe (jx_then (jc_meet (fun (_ : Unit) => slices_IndexFunc_int64_at_impl_ValidWear_1.k_1 = some r) (fun (_ : Unit) => [(4, [], (.int .i64 0))]) (fun (_ : Unit) => []) ?_ ?_)))))))))))
  ·refine jc_block ?_
   obtain ⟨t_4, ht_40, hr_31⟩ := bd h
   refine jc_loop (fun (s : Int) (x : Unit) => match s, x with | i_2, _ => True) (fun (s : Int) (x : Unit) => match s, x with | i_2, _ => [(0, [], (.slice A_a s0.length A_c)), (1, [], (.func (.func 212) #[] #[])), (4, [], (.int .i64 0)), (7, [], (.int .i64 (s0.length : Int))), (8, [], (.int .i64 i_2))]) (fun (s : Int) (x : Unit) => match s, x with | i_2, _ => []) ht_40 () trivial (by kernel_rfl) [] (by kernel_rfl) (by kernel_rfl) ?_
   rintro i_2 _ y_32 _ h
   rw [slices_IndexFunc_int64_at_impl_ValidWear_1.l_3] at h
   refine jc_seq (jc_region (qh [0] (qe (jx_then (jc_seq (qi h (fun h => ?_) (fun h => ?_)))))))
   ·refine jc_skip (jx_then (jc_seq (jc_block (jc_seq (jc_region (qh [0,0] (qe (jx_then (jc_seq (jc_region (qh [0,0,0] ?_)))))))))))
    obtain ⟨x_5, hx_35, h⟩ := bd h
    refine tO (qx 0 A_a 1 hx_35 rfl (A_h.sp hx_35) (jkO (tO (ql 0 false (fun w hm => ((hm.xr A_h).at hx_35)) (jkO ?_)))))
    obtain ⟨t_6, ht_36, h⟩ := bd h
    refine tO (pc 0 (fun w hm => impl_ValidWear_1.calls x_5 w _ ht_36) ?_)
    rintro w v w' hm ⟨rfl, hm'⟩
    refine ⟨_, hm.app hm', jkO ?_⟩
    clear hm hm'
    refine qe (jx_then (qi h (fun h => ?_) (fun h => ?_)))
    ·refine jc_seq (jc_region (qh [0,0] (qe (jx_then (jc_ret (jx_inr (jx_thenr (jx_leaver (.inl i_2) (Option.some.inj h).symm (fun e_38 => ?_)))))))))
     subst e_38
     refine jx_inr (jx_thenr (jx_thenr ?_))
     obtain rfl := Option.some.inj hr_31
     exact qr [] (fun w hm => ⟨rfl, hm.pk []⟩)
    ·exact jc_skip (jx_inn (jx_then (jc_region (qh [0,0] (qe (qb (w64 (i_2 + 1)) () h trivial []))))))
   ·refine jc_exit (jx_thenx (jx_leave (.inr ()) (Option.some.inj h).symm (fun e_39 => ?_)))
    subst e_39
    exact jx_ine (qm () hr_31 [])
  ·rintro _ h
   replace h : slices_IndexFunc_int64_at_impl_ValidWear_1.k_1 = some r := h
   rw [slices_IndexFunc_int64_at_impl_ValidWear_1.k_1] at h
   refine jx_then (jc_seq (jc_region (qh [0] (qe (jx_then (jc_ret ?_))))))
   obtain rfl := Option.some.inj h
   exact qr [] (fun w hm => ⟨rfl, hm.pk []⟩)
/-! ### slices.ContainsFunc[[]int64,int64] -/
def slices_ContainsFunc_int64_at_impl_ValidWear_1 (s0 : List Int) : Option (Bool) := (slices_IndexFunc_int64_at_impl_ValidWear_1 s0).bind fun t_1 => some (decide (t_1 ≥ 0))
theorem slices_ContainsFunc_int64_at_impl_ValidWear_1.calls (s0 : List Int) (w : World) (r : Bool) {A_a : Option Addr} {A_an : Nat} (A_c : Nat) (A_h : Rw w A_a 1 encI64 s0) (A_hn : s0.length = A_an) (h : slices_ContainsFunc_int64_at_impl_ValidWear_1 s0 = some r) :
    Calls Tryz.prog 211 #[(.slice A_a A_an A_c), (.func (.func 212) #[] #[])] w fun e w' => ∃ v, e = .returned v ∧ (v = (.bool r) ∧ Mem w [] [] w') := by
  subst A_hn
  rw [slices_ContainsFunc_int64_at_impl_ValidWear_1] at h
  refine enter (args := [(.slice A_a s0.length A_c), (.func (.func 212) #[] #[])]) Tryz.func211 rfl Tryz.ntmps211 (by kernel_rfl) (L := []) (W := []) (Mem.start w) ?_
  refine jc_seq (jc_region (qh [0] (qe (jx_then (jc_seq (jc_region (qh [0,0] ?_)))))))
  obtain ⟨t_1, ht_1, h⟩ := bd h
  refine tO (pc 0 (fun w hm => slices_IndexFunc_int64_at_impl_ValidWear_1.calls s0 w _ A_c (hm.xr A_h) rfl ht_1) ?_)
  rintro w v w' hm ⟨rfl, hm'⟩
  refine ⟨_, hm.app hm', jkO ?_⟩
  clear hm hm'
  refine qh [0,0] (qe (jx_then (jc_ret ?_)))
  obtain rfl := Option.some.inj h
  exact qr [] (fun w hm => ⟨rfl, hm.pk []⟩)
/-! ### (impl.Frame).isPlace -/
def impl_Frame_isPlace (f0 : GFrame) (step1 : Int) (track2 : Int) : Option (Bool) := (impl_within step1 0 (w64 ((w64 f0.fSteps) - 1))).bind fun t_1 => (if t_1 = true then (impl_size_Hammer f0.fHammers).bind fun t_2 => (impl_within track2 0 (w64 (t_2 - 1))).bind fun t_3 => some t_3 else some false)
theorem impl_Frame_isPlace.calls (f0 : GFrame) (step1 : Int) (track2 : Int) (w : World) (r : Bool) {C_a : Option Addr} {C_an : Nat} (C_c : Nat) (C_h : Rw w C_a 2 encGHammer f0.fHammers) (C_hn : f0.fHammers.length = C_an) (h : impl_Frame_isPlace f0 step1 track2 = some r) :
    Calls Tryz.prog 64 #[(.agg #[(.int .i16 f0.fSteps), (.slice C_a C_an C_c)]), (.int .i64 step1), (.int .i64 track2)] w fun e w' => ∃ v, e = .returned v ∧ (v = (.bool r) ∧ Mem w [] [] w') := by
  subst C_hn
  rw [impl_Frame_isPlace] at h
  refine enter (args := [(.agg #[(.int .i16 f0.fSteps), (.slice C_a f0.fHammers.length C_c)]), (.int .i64 step1), (.int .i64 track2)]) Tryz.func64 rfl Tryz.ntmps64 (by kernel_rfl) (L := []) (W := []) (Mem.start w) ?_
  refine jc_seq (jc_region (tO (qa 0 (fun b_1 => jkO (qh [0] (qe (jx_then (jc_seq (jc_region (qh [0,0,0,0,0] ?_))))))))))
  obtain ⟨t_1, ht_2, h⟩ := bd h
  refine tO (pc 0 (fun w hm => impl_within.calls step1 0 (w64 ((w64 f0.fSteps) - 1)) w _ ht_2) ?_)
  rintro w v w' hm ⟨rfl, hm'⟩
  refine ⟨_, hm.app hm', jkO ?_⟩
  clear hm hm'
  refine qf [(0, 0), (0, 1), (0, 1), (0, 1)] (qp 13 h (fun h => ?_) (fun h => ?_))
  ·obtain ⟨t_2, ht_4, h⟩ := bd h
   refine tO (pc 2 (fun w hm => impl_size_Hammer.calls f0.fHammers w _ C_c (hm.xr C_h) rfl ht_4) ?_)
   rintro w v w' hm ⟨rfl, hm'⟩
   refine ⟨_, hm.app hm', jkO ?_⟩
   clear hm hm'
   refine qf [(0, 2)] ?_
   obtain ⟨t_3, ht_5, h⟩ := bd h
   refine tO (pc 2 (fun w hm => impl_within.calls track2 0 (w64 (t_2 - 1)) w _ ht_5) ?_)
   rintro w v w' hm ⟨rfl, hm'⟩
   refine ⟨_, hm.app hm', jkO ?_⟩
   clear hm hm'
   refine qf [(0, 4), (0, 0)] (qe (jx_then (jc_ret ?_)))
   obtain rfl := Option.some.inj h
   exact qr [] (fun w hm => ⟨rfl, hm.pk []⟩)
  ·refine qf [(0, 3), (0, 3), (0, 3), (0, 5), (0, 0)] (qe (jx_then (jc_ret ?_)))
   obtain rfl := Option.some.inj h
   exact qr [] (fun w hm => ⟨rfl, hm.pk []⟩)
/-! ### cmp.isNaN[int8] -/
def cmp_isNaN_int8 (x0 : Int) : Option (Bool) := some (x0 != x0)
theorem cmp_isNaN_int8.calls (x0 : Int) (w : World) (r : Bool) (h : cmp_isNaN_int8 x0 = some r) :
    Calls Tryz.prog 260 #[(.int .i8 x0)] w fun e w' => ∃ v, e = .returned v ∧ (v = (.bool r) ∧ Mem w [] [] w') := by
  rw [cmp_isNaN_int8] at h
  refine enter (args := [(.int .i8 x0)]) Tryz.func260 rfl Tryz.ntmps260 (by kernel_rfl) (L := []) (W := []) (Mem.start w) ?_
  refine jc_seq (jc_region (qh [0] (qe (jx_then (jc_seq (jc_region (qh [0,0,0,0] (qe (jx_then (jc_ret ?_))))))))))
  obtain rfl := Option.some.inj h
  exact qr [] (fun w hm => ⟨rfl, hm.pk []⟩)
/-! ### cmp.Compare[int8] -/
def cmp_Compare_int8 (x0 : Int) (y1 : Int) : Option (Int) := (cmp_isNaN_int8 x0).bind fun t_1 => (cmp_isNaN_int8 y1).bind fun t_2 => (if t_1 = true then (if t_2 = true then some 0 else some (-1)) else (if t_2 = true then some 1 else (if (decide (x0 < y1)) = true then some (-1) else (if (decide (x0 > y1)) = true then some 1 else some 0))))
theorem cmp_Compare_int8.calls (x0 : Int) (y1 : Int) (w : World) (r : Int) (h : cmp_Compare_int8 x0 y1 = some r) :
    Calls Tryz.prog 238 #[(.int .i8 x0), (.int .i8 y1)] w fun e w' => ∃ v, e = .returned v ∧ (v = (.int .i64 r) ∧ Mem w [] [] w') := by
  rw [cmp_Compare_int8] at h
  refine enter (args := [(.int .i8 x0), (.int .i8 y1)]) Tryz.func238 rfl Tryz.ntmps238 (by kernel_rfl) (L := []) (W := []) (Mem.start w) ?_
  refine jc_seq (jc_region (qh [0] (qe (jx_then (jc_seq (jc_region (qh [0] ?_)))))))
  obtain ⟨t_1, ht_1, h⟩ := bd h
  refine tO (pc 0 (fun w hm => cmp_isNaN_int8.calls x0 w _ ht_1) ?_)
  rintro w v w' hm ⟨rfl, hm'⟩
  refine ⟨_, hm.app hm', jkO ?_⟩
  clear hm hm'
  refine qh [0] (qe (jx_then (jc_seq (jc_region (qh [0] ?_)))))
  obtain ⟨t_2, ht_2, h⟩ := bd h
  refine tO (pc 0 (fun w hm => cmp_isNaN_int8.calls y1 w _ ht_2) ?_)
  rintro w v w' hm ⟨rfl, hm'⟩
  refine ⟨_, hm.app hm', jkO ?_⟩
  clear hm hm'
  refine qh [0] (qe (jx_then (jc_seq (jc_seq (jc_region (qh [0] (qe (jx_then (qi h (fun h => ?_) (fun h => ?_))))))))))
  ·refine jc_seq (jc_seq (jc_region (qh [0] (qe (jx_then (qi h (fun h => ?_) (fun h => ?_)))))))
   ·refine jc_seq (jc_region (qh [0] (qe (jx_then (jc_ret (jx_thenr (jx_thenr ?_)))))))
    obtain rfl := Option.some.inj h
    exact qr [] (fun w hm => ⟨rfl, hm.pk []⟩)
   ·refine jc_skip (jx_then (jc_seq (jc_region (qh [0] (qe (jx_then (jc_ret (jx_thenr ?_))))))))
    obtain rfl := Option.some.inj h
    exact qr [] (fun w hm => ⟨rfl, hm.pk []⟩)
  ·refine jc_skip (jx_then (jc_seq (jc_seq (jc_region (qh [0] (qe (jx_then (qi h (fun h => ?_) (fun h => ?_)))))))))
   ·refine jc_seq (jc_region (qh [0] (qe (jx_then (jc_ret (jx_thenr ?_))))))
    obtain rfl := Option.some.inj h
    exact qr [] (fun w hm => ⟨rfl, hm.pk []⟩)
   ·refine jc_skip (jx_then (jc_seq (jc_seq (jc_region (qh [0,0,0] (qe (jx_then (qi h (fun h => ?_) (fun h => ?_)))))))))
    ·refine jc_seq (jc_region (qh [0] (qe (jx_then (jc_ret (jx_thenr ?_))))))
     obtain rfl := Option.some.inj h
     exact qr [] (fun w hm => ⟨rfl, hm.pk []⟩)
    ·refine jc_skip (jx_then (jc_seq (jc_seq (jc_region (qh [0,0,0] (qe (jx_then (qi h (fun h => ?_) (fun h => ?_)))))))))
     ·refine jc_seq (jc_region (qh [0] (qe (jx_then (jc_ret (jx_thenr ?_))))))
      obtain rfl := Option.some.inj h
      exact qr [] (fun w hm => ⟨rfl, hm.pk []⟩)
     ·refine jc_skip (jx_then (jc_seq (jc_region (qh [0] (qe (jx_then (jc_ret ?_)))))))
      obtain rfl := Option.some.inj h
      exact qr [] (fun w hm => ⟨rfl, hm.pk []⟩)
/-! ### cmp.Or[int] -/
def cmp_Or_int.k_1 : Option (Int) := some 0
def cmp_Or_int.l_3 (vals0 : List Int) : Int → Option ((Int) ⊕ (Int ⊕ Unit))
  | i_2 => (if (decide (i_2 < (vals0.length : Int))) = true then (ix vals0 i_2).bind fun x_5 => (if (x_5 != 0) = true then some (.inr (.inl x_5)) else some (.inl (w64 (i_2 + 1)))) else some (.inr (.inr ())))
def cmp_Or_int (vals0 : List Int) : Option (Int) := (loop (cmp_Or_int.l_3 vals0) 0).bind fun t_4 => match t_4 with | .inl p => some p | .inr p => cmp_Or_int.k_1
theorem cmp_Or_int.calls (vals0 : List Int) (w : World) (r : Int) {A_a : Option Addr} {A_an : Nat} (A_c : Nat) (A_h : Rw w A_a 1 encI64 vals0) (A_hn : vals0.length = A_an) (h : cmp_Or_int vals0 = some r) :
    Calls Tryz.prog 236 #[(.slice A_a A_an A_c)] w fun e w' => ∃ v, e = .returned v ∧ (v = (.int .i64 r) ∧ Mem w [] [] w') := by
  subst A_hn
  rw [cmp_Or_int] at h
  refine enter (args := [(.slice A_a vals0.length A_c)]) Tryz.func236 rfl Tryz.ntmps236 (by kernel_rfl) (L := []) (W := []) (Mem.start w) ?_
  refine jc_seq (jc_region (qh [0] (qe (jx_then (jc_seq (jc_region (qh [0] (qe (jx_then (jc_seq (jc_seq (jc_region (qh [0,0,0] (qe (jx_then (jc_meet (fun (_ : Unit) => cmp_Or_int.k_1 = some r) (fun (_ : Unit) => [(2, [], (.int .i64 0)), (3, [], (.int .i64 0))]) (fun (_ : Unit) => []) ?_ ?_))))))))))))))))
  ·refine jc_block ?_
   obtain ⟨t_4, ht_68, hr_60⟩ := bd h
   refine jc_loop (fun (s : Int) (x : Unit) => match s, x with | i_2, _ => True) (fun (s : Int) (x : Unit) => match s, x with | i_2, _ => [(2, [], (.int .i64 0)), (3, [], (.int .i64 0)), (6, [], (.slice A_a vals0.length A_c)), (7, [], (.int .i64 (vals0.length : Int))), (8, [], (.int .i64 i_2))]) (fun (s : Int) (x : Unit) => match s, x with | i_2, _ => []) ht_68 () trivial (by kernel_rfl) [] (by kernel_rfl) (by kernel_rfl) ?_
   rintro i_2 _ y_61 _ h
   rw [cmp_Or_int.l_3] at h
   refine jc_seq (jc_region (qh [0] (qe (jx_then (jc_seq (qi h (fun h => ?_) (fun h => ?_)))))))
   ·refine jc_skip (jx_then (jc_seq (jc_block (jc_seq (jc_region ?_)))))
    obtain ⟨x_5, hx_64, h⟩ := bd h
    refine tO (qx 0 A_a 1 hx_64 rfl (A_h.sp hx_64) (jkO (tO (ql 0 false (fun w hm => ((hm.xr A_h).at hx_64)) (jkO (qh [0] (qe (jx_then (jc_seq (jc_region (qh [0,0,0] (qe (jx_then (qi h (fun h => ?_) (fun h => ?_)))))))))))))))
    ·refine jc_seq (jc_region (qh [0,0] (qe (jx_then (jc_ret (jx_inr (jx_thenr (jx_leaver (.inl x_5) (Option.some.inj h).symm (fun e_66 => ?_)))))))))
     subst e_66
     refine jx_inr (jx_thenr (jx_thenr ?_))
     obtain rfl := Option.some.inj hr_60
     exact qr [] (fun w hm => ⟨rfl, hm.pk []⟩)
    ·exact jc_skip (jx_inn (jx_then (jc_region (qh [0,0] (qe (qb (w64 (i_2 + 1)) () h trivial []))))))
   ·refine jc_exit (jx_thenx (jx_leave (.inr ()) (Option.some.inj h).symm (fun e_67 => ?_)))
    subst e_67
    exact jx_ine (qm () hr_60 [])
  ·rintro _ h
   replace h : cmp_Or_int.k_1 = some r := h
   rw [cmp_Or_int.k_1] at h
   refine jx_then (jc_seq (jc_region (qh [0,0] (qe (jx_then (jc_ret ?_))))))
   obtain rfl := Option.some.inj h
   exact qr [] (fun w hm => ⟨rfl, hm.pk []⟩)
/-! ### impl.comparePins -/
def impl_comparePins (a0 : GWornPin) (b1 : GWornPin) : Option (Int) := (cmp_Compare_int8 a0.fStep b1.fStep).bind fun t_1 => (cmp_Compare_int8 a0.fTrack b1.fTrack).bind fun t_2 => (cmp_Or_int ([t_1, t_2] : List Int)).bind fun t_3 => some t_3
theorem impl_comparePins.calls (a0 : GWornPin) (b1 : GWornPin) (w : World) (r : Int) (h : impl_comparePins a0 b1 = some r) :
    Calls Tryz.prog 213 #[(.agg #[(.int .i8 a0.fStep), (.int .i8 a0.fTrack), (.int .i64 a0.fTurns)]), (.agg #[(.int .i8 b1.fStep), (.int .i8 b1.fTrack), (.int .i64 b1.fTurns)])] w fun e w' => ∃ v, e = .returned v ∧ (v = (.int .i64 r) ∧ Mem w [] [] w') := by
  rw [impl_comparePins] at h
  refine enter (args := [(.agg #[(.int .i8 a0.fStep), (.int .i8 a0.fTrack), (.int .i64 a0.fTurns)]), (.agg #[(.int .i8 b1.fStep), (.int .i8 b1.fTrack), (.int .i64 b1.fTurns)])]) Tryz.func213 rfl Tryz.ntmps213 (by kernel_rfl) (L := []) (W := []) (Mem.start w) ?_
  refine jc_seq (jc_region (tO (qa 0 (fun b_1 => jkO (tO (qa 0 (fun b_2 => jkO (qh [0] (qe (jx_then (jc_seq (qg [⟨some b_1, 147, [(.int .i8 a0.fStep), (.int .i8 a0.fTrack), (.int .i64 a0.fTurns)]⟩, ⟨some b_2, 147, [(.int .i8 b1.fStep), (.int .i8 b1.fTrack), (.int .i64 b1.fTurns)]⟩] 13 (qd [⟨0, 0, 0⟩,⟨1, 0, 0⟩,⟨2, 0, 0⟩,⟨3, 1, 0⟩,⟨5, 0, 0⟩,⟨6, 0, 0⟩,⟨7, 0, 0⟩,⟨8, 1, 0⟩] 5 [0, 1] ?_)))))))))))))
  obtain ⟨t_1, ht_3, h⟩ := bd h
  refine tD 4 (pc 0 (fun w hm => cmp_Compare_int8.calls a0.fStep b1.fStep w _ ht_3) ?_)
  rintro w v w' hm ⟨rfl, hm'⟩
  refine ⟨_, hm.app hm', kD [0, 1] ?_⟩
  clear hm hm'
  obtain ⟨t_2, ht_4, h⟩ := bd h
  refine tD 9 (pc 0 (fun w hm => cmp_Compare_int8.calls a0.fTrack b1.fTrack w _ ht_4) ?_)
  rintro w v w' hm ⟨rfl, hm'⟩
  refine ⟨_, hm.app hm', kD [0, 1] ?_⟩
  clear hm hm'
  refine tD 10 (qa 0 (fun b_5 => kD [0, 1] ?_))
  obtain ⟨t_3, ht_6, h⟩ := bd h
  refine tD 11 (pc 0 (fun w hm => cmp_Or_int.calls ([t_1, t_2] : List Int) w _ 2 (hm.ow 2 (some b_5) 3 ([t_1, t_2] : List Int) [] (fun e => nomatch e) encI64_len) rfl ht_6) ?_)
  rintro w v w' hm ⟨rfl, hm'⟩
  refine ⟨_, hm.app hm', kD [0, 1] ?_⟩
  clear hm hm'
  refine qd [⟨12, 0, 0⟩] 0 [0, 1] (qz (jx_then (jc_ret ?_)))
  obtain rfl := Option.some.inj h
  exact qr [] (fun w hm => ⟨rfl, hm.pk []⟩)
/-! ### impl.ValidWear -/
def impl_ValidWear.k_3 : Option (Bool) := some true
def impl_ValidWear.k_9 (i_4 : Int) (q_8 : Bool) : Option ((Int) ⊕ (Bool ⊕ Unit)) := (if q_8 = true then some (.inr (.inl false)) else some (.inl (w64 (i_4 + 1))))
def impl_ValidWear.l_5 (f0 : GFrame) (w1 : GWear) : Int → Option ((Int) ⊕ (Bool ⊕ Unit))
  | i_4 => (if (decide (i_4 < (w1.fPins.length : Int))) = true then (ix w1.fPins i_4).bind fun x_7 => (impl_Frame_isPlace f0 (w64 x_7.fStep) (w64 x_7.fTrack)).bind fun t_10 => (if (!t_10) = true then impl_ValidWear.k_9 i_4 true else (impl_isMade x_7.fTurns).bind fun t_11 => (if (!t_11) = true then impl_ValidWear.k_9 i_4 true else (if (decide (i_4 > 0)) = true then (ix w1.fPins (w64 (i_4 - 1))).bind fun x_12 => (impl_comparePins x_12 x_7).bind fun t_13 => impl_ValidWear.k_9 i_4 (decide (t_13 ≥ 0)) else impl_ValidWear.k_9 i_4 false))) else some (.inr (.inr ())))
def impl_ValidWear.k_2 (f0 : GFrame) (w1 : GWear) (q_1 : Bool) : Option (Bool) := (if q_1 = true then some false else (loop (impl_ValidWear.l_5 f0 w1) 0).bind fun t_6 => match t_6 with | .inl p => some p | .inr p => impl_ValidWear.k_3)
def impl_ValidWear (f0 : GFrame) (w1 : GWear) : Option (Bool) := (impl_ValidFrame f0).bind fun t_14 => (if ((!t_14) || ((w1.fStrokes.length : Int) != (f0.fHammers.length : Int))) = true then impl_ValidWear.k_2 f0 w1 true else (slices_ContainsFunc_int64_at_impl_ValidWear_1 w1.fStrokes).bind fun t_15 => impl_ValidWear.k_2 f0 w1 t_15)
theorem impl_ValidWear.calls (f0 : GFrame) (w1 : GWear) (w : World) (r : Bool) {C_a : Option Addr} {C_an : Nat} (C_c : Nat) (C_h : Rw w C_a 2 encGHammer f0.fHammers) (C_hn : f0.fHammers.length = C_an) {E_a : Option Addr} {E_an : Nat} (E_c : Nat) (E_h : Rw w E_a 3 encGWornPin w1.fPins) (E_hn : w1.fPins.length = E_an) {F_a : Option Addr} {F_an : Nat} (F_c : Nat) (F_h : Rw w F_a 1 encI64 w1.fStrokes) (F_hn : w1.fStrokes.length = F_an) (h : impl_ValidWear f0 w1 = some r) :
    Calls Tryz.prog 168 #[(.agg #[(.int .i16 f0.fSteps), (.slice C_a C_an C_c)]), (.agg #[(.slice E_a E_an E_c), (.slice F_a F_an F_c)])] w fun e w' => ∃ v, e = .returned v ∧ (v = (.bool r) ∧ Mem w [] [] w') := by
  subst C_hn E_hn F_hn
  rw [impl_ValidWear] at h
  refine enter (args := [(.agg #[(.int .i16 f0.fSteps), (.slice C_a f0.fHammers.length C_c)]), (.agg #[(.slice E_a w1.fPins.length E_c), (.slice F_a w1.fStrokes.length F_c)])]) Tryz.func168 rfl Tryz.ntmps168 (by kernel_rfl) (L := []) (W := []) (Mem.start w) ?_
  refine jc_seq (jc_region (tO (qa 0 (fun b_1 => jkO (tO (qa 0 (fun b_2 => jkO (qh [0] (qe (jx_then (jc_seq (jc_seq (jc_meet (fun (j : Bool) => match j with | q_1 => impl_ValidWear.k_2 f0 w1 q_1 = some r) (fun (j : Bool) => match j with | q_1 => [(2, [], (.pointer (some ⟨b_1, 0, none⟩))), (3, [], (.pointer (some ⟨b_2, 0, none⟩))), (4, [], (.bool false)), (23, [], (.bool q_1))]) (fun (j : Bool) => match j with | q_1 => [⟨some b_1, 27, [(.int .i16 f0.fSteps), (.slice C_a f0.fHammers.length C_c)]⟩, ⟨some b_2, 62, [(.slice E_a w1.fPins.length E_c), (.slice F_a w1.fStrokes.length F_c)]⟩]) ?_ ?_)))))))))))))
  ·refine jc_region (qh [0] ?_)
   obtain ⟨t_14, ht_138, h⟩ := bd h
   refine tO (pc 0 (fun w hm => impl_ValidFrame.calls f0 w _ C_c (hm.xr C_h) rfl ht_138) ?_)
   rintro w v w' hm ⟨rfl, hm'⟩
   refine ⟨_, hm.app hm', jkO ?_⟩
   clear hm hm'
   refine qf [(0, 0), (0, 0), (0, 1), (1, 1), (0, 1), (0, 1), (0, 1), (0, 1), (0, 1), (0, 0), (0, 0), (0, 1), (1, 1)] (qp 19 h (fun h => ?_) (fun h => ?_))
   ·exact qf [(0, 3), (0, 4)] (qe (qm true h [0, 1]))
   ·obtain ⟨t_15, ht_140, h⟩ := bd h
    refine tO (pc 2 (fun w hm => slices_ContainsFunc_int64_at_impl_ValidWear_1.calls w1.fStrokes w _ F_c (hm.xr F_h) rfl ht_140) ?_)
    rintro w v w' hm ⟨rfl, hm'⟩
    refine ⟨_, hm.app hm', jkO ?_⟩
    clear hm hm'
    exact qf [(0, 5)] (qe (qm t_15 h [0, 1]))
  ·rintro q_1 h
   replace h : impl_ValidWear.k_2 f0 w1 q_1 = some r := h
   rw [impl_ValidWear.k_2] at h
   refine jx_then (qi h (fun h => ?_) (fun h => ?_))
   ·refine jc_seq (jc_region (qh [0] (qe (jx_then (jc_ret (jx_thenr ?_))))))
    obtain rfl := Option.some.inj h
    exact qr [] (fun w hm => ⟨rfl, hm.pk []⟩)
   ·refine jc_skip (jx_then (jc_seq (jc_seq (jc_region (qh [0,1,0,0] (qe (jx_then (jc_meet (fun (_ : Unit) => impl_ValidWear.k_3 = some r) (fun (_ : Unit) => [(4, [], (.bool false))]) (fun (_ : Unit) => [⟨some b_1, 27, [(.int .i16 f0.fSteps), (.slice C_a f0.fHammers.length C_c)]⟩, ⟨some b_2, 62, [(.slice E_a w1.fPins.length E_c), (.slice F_a w1.fStrokes.length F_c)]⟩]) ?_ ?_))))))))
    ·refine jc_block ?_
     obtain ⟨t_6, ht_137, hr_114⟩ := bd h
     refine jc_loop (fun (s : Int) (x : Unit) => match s, x with | i_4, _ => True) (fun (s : Int) (x : Unit) => match s, x with | i_4, _ => [(2, [], (.pointer (some ⟨b_1, 0, none⟩))), (3, [], (.pointer (some ⟨b_2, 0, none⟩))), (4, [], (.bool false)), (25, [], (.slice E_a w1.fPins.length E_c)), (26, [], (.int .i64 (w1.fPins.length : Int))), (27, [], (.int .i64 i_4))]) (fun (s : Int) (x : Unit) => match s, x with | i_4, _ => [⟨some b_1, 27, [(.int .i16 f0.fSteps), (.slice C_a f0.fHammers.length C_c)]⟩, ⟨some b_2, 62, [(.slice E_a w1.fPins.length E_c), (.slice F_a w1.fStrokes.length F_c)]⟩]) ht_137 () trivial (by kernel_rfl) [0, 1] (by kernel_rfl) (by kernel_rfl) ?_
     rintro i_4 _ y_115 _ h
     rw [impl_ValidWear.l_5] at h
     refine jc_seq (jc_region (qh [0] (qe (jx_then (jc_seq (qi h (fun h => ?_) (fun h => ?_)))))))
     ·refine jc_skip (jx_then (jc_seq (jc_block (jc_seq (jc_region (qh [0] ?_))))))
      obtain ⟨x_7, hx_118, h⟩ := bd h
      refine tO (qx 0 E_a 3 hx_118 rfl (E_h.sp hx_118) (jkO (tO (ql 0 true (fun w hm => ((hm.xr E_h).at hx_118)) (jkO (tO (qa 0 (fun b_119 => jkO (qh [0] (tO (qs 0 [2] (jkO (qe (jx_then (jc_seq (jc_meet (fun (j : Bool) => match j with | q_8 => impl_ValidWear.k_9 i_4 q_8 = some y_115) (fun (j : Bool) => match j with | q_8 => [(2, [], (.pointer (some ⟨b_1, 0, none⟩))), (3, [], (.pointer (some ⟨b_2, 0, none⟩))), (4, [], (.bool false)), (25, [], (.slice E_a w1.fPins.length E_c)), (26, [], (.int .i64 (w1.fPins.length : Int))), (27, [], (.int .i64 i_4)), (61, [], (.bool q_8))]) (fun (j : Bool) => match j with | q_8 => [⟨some b_1, 27, [(.int .i16 f0.fSteps), (.slice C_a f0.fHammers.length C_c)]⟩, ⟨some b_2, 62, [(.slice E_a w1.fPins.length E_c), (.slice F_a w1.fStrokes.length F_c)]⟩, ⟨some b_119, 147, [(.int .i8 x_7.fStep), (.int .i8 x_7.fTrack), (.int .i64 x_7.fTurns)]⟩]) ?_ ?_))))))))))))))))
      ·refine qg [⟨some b_1, 27, [(.int .i16 f0.fSteps), (.slice C_a f0.fHammers.length C_c)]⟩, ⟨some b_2, 62, [(.slice E_a w1.fPins.length E_c), (.slice F_a w1.fStrokes.length F_c)]⟩, ⟨some b_119, 147, [(.int .i8 x_7.fStep), (.int .i8 x_7.fTrack), (.int .i64 x_7.fTurns)]⟩] 30 (qd [⟨0, 0, 0⟩,⟨1, 0, 0⟩,⟨2, 2, 0⟩,⟨3, 0, 0⟩,⟨4, 0, 0⟩,⟨5, 2, 0⟩,⟨6, 0, 0⟩] 23 [0, 1, 2] ?_)
       obtain ⟨t_10, ht_129, h⟩ := bd h
       refine tD 7 (pc 0 (fun w hm => impl_Frame_isPlace.calls f0 (w64 x_7.fStep) (w64 x_7.fTrack) w _ C_c (hm.xr C_h) rfl ht_129) ?_)
       rintro w v w' hm ⟨rfl, hm'⟩
       refine ⟨_, hm.app hm', kD [0, 1, 2] ?_⟩
       clear hm hm'
       refine qd [⟨8, 0, 0⟩,⟨9, 0, 0⟩,⟨10, 0, 1⟩,⟨11, 2, 1⟩] 18 [0, 1, 2] (jd_split 41 (!t_10) (by kernel_rfl) (fun hc_130 => ?_) (fun hc_130 => ?_))
       ·replace h := ifT hc_130 h
        exact qd [⟨12, 0, 3⟩,⟨13, 0, 3⟩,⟨14, 0, 4⟩,⟨15, 0, 0⟩,⟨16, 0, 3⟩,⟨17, 0, 3⟩,⟨18, 0, 3⟩,⟨19, 0, 3⟩,⟨20, 0, 3⟩,⟨21, 0, 3⟩,⟨22, 0, 3⟩,⟨23, 0, 3⟩,⟨24, 0, 3⟩,⟨25, 0, 3⟩,⟨26, 0, 3⟩,⟨27, 0, 3⟩,⟨28, 0, 3⟩,⟨29, 0, 4⟩] 0 [0, 1, 2] (qz (qm true h [0, 1, 2]))
       ·replace h := ifF hc_130 h
        obtain ⟨t_11, ht_131, h⟩ := bd h
        refine tD 12 (pc 2 (fun w hm => impl_isMade.calls x_7.fTurns w _ ht_131) ?_)
        rintro w v w' hm ⟨rfl, hm'⟩
        refine ⟨_, hm.app hm', kD [0, 1, 2] ?_⟩
        clear hm hm'
        refine qd [⟨13, 0, 2⟩,⟨14, 0, 5⟩,⟨15, 0, 0⟩,⟨16, 0, 1⟩,⟨17, 0, 1⟩] 12 [0, 1, 2] (jd_split 47 (!t_11) (by kernel_rfl) (fun hc_132 => ?_) (fun hc_132 => ?_))
        ·replace h := ifT hc_132 h
         exact qd [⟨18, 0, 3⟩,⟨19, 0, 3⟩,⟨20, 0, 3⟩,⟨21, 0, 3⟩,⟨22, 0, 3⟩,⟨23, 0, 3⟩,⟨24, 0, 3⟩,⟨25, 0, 3⟩,⟨26, 0, 3⟩,⟨27, 0, 3⟩,⟨28, 0, 3⟩,⟨29, 0, 4⟩] 0 [0, 1, 2] (qz (qm true h [0, 1, 2]))
        ·replace h := ifF hc_132 h
         refine qd [⟨18, 0, 2⟩,⟨19, 0, 1⟩,⟨20, 1, 1⟩,⟨21, 0, 1⟩,⟨22, 0, 1⟩,⟨25, 2, 1⟩] 6 [0, 1, 2] (jd_split 50 (decide (i_4 > 0)) (by kernel_rfl) (fun hc_133 => ?_) (fun hc_133 => ?_))
         ·replace h := ifT hc_133 h
          obtain ⟨x_12, hx_134, h⟩ := bd h
          refine qv 23 2 [0, 1, 2] (fun w hm => idx_run (a := E_a) (len := w1.fPins.length) (s := 3) (j := (w64 (i_4 - 1))) (by kernel_rfl) (ix_some hx_134).1 (ltn hx_134 rfl) (E_h.sp hx_134)) (qv 24 2 [0, 1, 2] (fun w hm => ld_run (b := aB E_a) (off := (aO E_a + (w64 (i_4 - 1)).toNat * 3)) (s := 3) (agg := true) (vs := (encGWornPin x_12)) (by kernel_rfl) (by kernel_rfl) (.inl rfl) ((hm.xr E_h).at hx_134)) ?_)
          obtain ⟨t_13, ht_135, h⟩ := bd h
          refine tD 26 (pc 2 (fun w hm => impl_comparePins.calls x_12 x_7 w _ ht_135) ?_)
          rintro w v w' hm ⟨rfl, hm'⟩
          refine ⟨_, hm.app hm', kD [0, 1, 2] ?_⟩
          clear hm hm'
          exact qd [⟨27, 0, 2⟩,⟨28, 0, 4⟩,⟨29, 0, 5⟩] 0 [0, 1, 2] (qz (qm (decide (t_13 ≥ 0)) h [0, 1, 2]))
         ·replace h := ifF hc_133 h
          exact qd [⟨23, 0, 3⟩,⟨24, 0, 3⟩,⟨26, 0, 3⟩,⟨27, 0, 3⟩,⟨28, 0, 5⟩,⟨29, 0, 5⟩] 0 [0, 1, 2] (qz (qm false h [0, 1, 2]))
      ·rintro q_8 h
       replace h : impl_ValidWear.k_9 i_4 q_8 = some y_115 := h
       rw [impl_ValidWear.k_9] at h
       refine jx_then (qi h (fun h => ?_) (fun h => ?_))
       ·refine jc_seq (jc_region (qh [0] (qe (jx_then (jc_ret (jx_inr (jx_thenr (jx_leaver (.inl false) (Option.some.inj h).symm (fun e_128 => ?_)))))))))
        subst e_128
        refine jx_inr (jx_thenr (jx_thenr ?_))
        obtain rfl := Option.some.inj hr_114
        exact qr [] (fun w hm => ⟨rfl, hm.pk []⟩)
       ·exact jc_skip (jx_inn (jx_then (jc_region (qh [0,0] (qe (qb (w64 (i_4 + 1)) () h trivial [0, 1]))))))
     ·refine jc_exit (jx_thenx (jx_leave (.inr ()) (Option.some.inj h).symm (fun e_136 => ?_)))
      subst e_136
      exact jx_ine (qm () hr_114 [0, 1])
    ·rintro _ h
     replace h : impl_ValidWear.k_3 = some r := h
     rw [impl_ValidWear.k_3] at h
     refine jx_then (jc_seq (jc_region (qh [0] (qe (jx_then (jc_ret ?_))))))
     obtain rfl := Option.some.inj h
     exact qr [] (fun w hm => ⟨rfl, hm.pk []⟩)
/-! ### impl.ValidLives -/
def impl_ValidLives (v0 : GLives) : Option (Bool) := (impl_within v0.fPin 1 1000000).bind fun t_1 => (if t_1 = true then (impl_within v0.fHammer 1 1000000).bind fun t_2 => some t_2 else some false)
theorem impl_ValidLives.calls (v0 : GLives) (w : World) (r : Bool) (h : impl_ValidLives v0 = some r) :
    Calls Tryz.prog 175 #[(.agg #[(.int .i64 v0.fPin), (.int .i64 v0.fHammer)])] w fun e w' => ∃ v, e = .returned v ∧ (v = (.bool r) ∧ Mem w [] [] w') := by
  rw [impl_ValidLives] at h
  refine enter (args := [(.agg #[(.int .i64 v0.fPin), (.int .i64 v0.fHammer)])]) Tryz.func175 rfl Tryz.ntmps175 (by kernel_rfl) (L := []) (W := []) (Mem.start w) ?_
  refine jc_seq (jc_region (tO (qa 0 (fun b_1 => jkO (qh [0] (qe (jx_then (jc_seq (jc_region (qh [0,0] ?_))))))))))
  obtain ⟨t_1, ht_2, h⟩ := bd h
  refine tO (pc 0 (fun w hm => impl_within.calls v0.fPin 1 1000000 w _ ht_2) ?_)
  rintro w v w' hm ⟨rfl, hm'⟩
  refine ⟨_, hm.app hm', jkO ?_⟩
  clear hm hm'
  refine qf [(0, 0), (0, 1), (0, 1)] (qp 6 h (fun h => ?_) (fun h => ?_))
  ·obtain ⟨t_2, ht_4, h⟩ := bd h
   refine tO (pc 2 (fun w hm => impl_within.calls v0.fHammer 1 1000000 w _ ht_4) ?_)
   rintro w v w' hm ⟨rfl, hm'⟩
   refine ⟨_, hm.app hm', jkO ?_⟩
   clear hm hm'
   refine qf [(0, 4), (0, 0)] (qe (jx_then (jc_ret ?_)))
   obtain rfl := Option.some.inj h
   exact qr [] (fun w hm => ⟨rfl, hm.pk []⟩)
  ·refine qf [(0, 3), (0, 5), (0, 0)] (qe (jx_then (jc_ret ?_)))
   obtain rfl := Option.some.inj h
   exact qr [] (fun w hm => ⟨rfl, hm.pk []⟩)
/-! ### impl.wearCode$1 -/
def impl_wearCode_1 (v0 : GLives) : Option (Bool) := (impl_ValidLives v0).bind fun t_1 => some (!t_1)
theorem impl_wearCode_1.calls (v0 : GLives) (w : World) (r : Bool) (h : impl_wearCode_1 v0 = some r) :
    Calls Tryz.prog 174 #[(.agg #[(.int .i64 v0.fPin), (.int .i64 v0.fHammer)])] w fun e w' => ∃ v, e = .returned v ∧ (v = (.bool r) ∧ Mem w [] [] w') := by
  rw [impl_wearCode_1] at h
  refine enter (args := [(.agg #[(.int .i64 v0.fPin), (.int .i64 v0.fHammer)])]) Tryz.func174 rfl Tryz.ntmps174 (by kernel_rfl) (L := []) (W := []) (Mem.start w) ?_
  refine jc_seq (jc_region (tO (qa 0 (fun b_1 => jkO (qh [0] (qe (jx_then (jc_seq (jc_region (qh [0] ?_))))))))))
  obtain ⟨t_1, ht_2, h⟩ := bd h
  refine tO (pc 0 (fun w hm => impl_ValidLives.calls v0 w _ ht_2) ?_)
  rintro w v w' hm ⟨rfl, hm'⟩
  refine ⟨_, hm.app hm', jkO ?_⟩
  clear hm hm'
  refine qh [0,0] (qe (jx_then (jc_ret ?_)))
  obtain rfl := Option.some.inj h
  exact qr [] (fun w hm => ⟨rfl, hm.pk []⟩)
/-! ### slices.IndexFunc[[]impl.Lives,impl.Lives] -/
def slices_IndexFunc_Lives_at_impl_wearCode_1.k_1 : Option (Int) := some (-1)
def slices_IndexFunc_Lives_at_impl_wearCode_1.l_3 (s0 : List GLives) : Int → Option ((Int) ⊕ (Int ⊕ Unit))
  | i_2 => (if (decide (i_2 < (s0.length : Int))) = true then (ix s0 i_2).bind fun x_5 => (impl_wearCode_1 x_5).bind fun t_6 => (if t_6 = true then some (.inr (.inl i_2)) else some (.inl (w64 (i_2 + 1)))) else some (.inr (.inr ())))
def slices_IndexFunc_Lives_at_impl_wearCode_1 (s0 : List GLives) : Option (Int) := (loop (slices_IndexFunc_Lives_at_impl_wearCode_1.l_3 s0) 0).bind fun t_4 => match t_4 with | .inl p => some p | .inr p => slices_IndexFunc_Lives_at_impl_wearCode_1.k_1
theorem slices_IndexFunc_Lives_at_impl_wearCode_1.calls (s0 : List GLives) (w : World) (r : Int) {A_a : Option Addr} {A_an : Nat} (A_c : Nat) (A_h : Rw w A_a 2 encGLives s0) (A_hn : s0.length = A_an) (h : slices_IndexFunc_Lives_at_impl_wearCode_1 s0 = some r) :
    Calls Tryz.prog 219 #[(.slice A_a A_an A_c), (.func (.func 174) #[] #[])] w fun e w' => ∃ v, e = .returned v ∧ (v = (.int .i64 r) ∧ Mem w [] [] w') := by
  subst A_hn
  rw [slices_IndexFunc_Lives_at_impl_wearCode_1] at h
  refine enter (args := [(.slice A_a s0.length A_c), (.func (.func 174) #[] #[])]) Tryz.func219 rfl Tryz.ntmps219 (by kernel_rfl) (L := []) (W := []) (Mem.start w) ?_
  refine jc_seq (jc_region (qh [0] (qe (jx_then (jc_seq (jc_seq (jc_region (qh [0,0,0] (qe (jx_then (jc_meet (fun (_ : Unit) => slices_IndexFunc_Lives_at_impl_wearCode_1.k_1 = some r) (fun (_ : Unit) => [(4, [], (.int .i64 0))]) (fun (_ : Unit) => []) ?_ ?_)))))))))))
  ·refine jc_block ?_
   obtain ⟨t_4, ht_40, hr_31⟩ := bd h
   refine jc_loop (fun (s : Int) (x : Unit) => match s, x with | i_2, _ => True) (fun (s : Int) (x : Unit) => match s, x with | i_2, _ => [(0, [], (.slice A_a s0.length A_c)), (1, [], (.func (.func 174) #[] #[])), (4, [], (.int .i64 0)), (7, [], (.int .i64 (s0.length : Int))), (8, [], (.int .i64 i_2))]) (fun (s : Int) (x : Unit) => match s, x with | i_2, _ => []) ht_40 () trivial (by kernel_rfl) [] (by kernel_rfl) (by kernel_rfl) ?_
   rintro i_2 _ y_32 _ h
   rw [slices_IndexFunc_Lives_at_impl_wearCode_1.l_3] at h
   refine jc_seq (jc_region (qh [0] (qe (jx_then (jc_seq (qi h (fun h => ?_) (fun h => ?_)))))))
   ·refine jc_skip (jx_then (jc_seq (jc_block (jc_seq (jc_region (qh [0,0] (qe (jx_then (jc_seq (jc_region (qh [0,0,0] ?_)))))))))))
    obtain ⟨x_5, hx_35, h⟩ := bd h
    refine tO (qx 0 A_a 2 hx_35 rfl (A_h.sp hx_35) (jkO (tO (ql 0 true (fun w hm => ((hm.xr A_h).at hx_35)) (jkO ?_)))))
    obtain ⟨t_6, ht_36, h⟩ := bd h
    refine tO (pc 0 (fun w hm => impl_wearCode_1.calls x_5 w _ ht_36) ?_)
    rintro w v w' hm ⟨rfl, hm'⟩
    refine ⟨_, hm.app hm', jkO ?_⟩
    clear hm hm'
    refine qe (jx_then (qi h (fun h => ?_) (fun h => ?_)))
    ·refine jc_seq (jc_region (qh [0,0] (qe (jx_then (jc_ret (jx_inr (jx_thenr (jx_leaver (.inl i_2) (Option.some.inj h).symm (fun e_38 => ?_)))))))))
     subst e_38
     refine jx_inr (jx_thenr (jx_thenr ?_))
     obtain rfl := Option.some.inj hr_31
     exact qr [] (fun w hm => ⟨rfl, hm.pk []⟩)
    ·exact jc_skip (jx_inn (jx_then (jc_region (qh [0,0] (qe (qb (w64 (i_2 + 1)) () h trivial []))))))
   ·refine jc_exit (jx_thenx (jx_leave (.inr ()) (Option.some.inj h).symm (fun e_39 => ?_)))
    subst e_39
    exact jx_ine (qm () hr_31 [])
  ·rintro _ h
   replace h : slices_IndexFunc_Lives_at_impl_wearCode_1.k_1 = some r := h
   rw [slices_IndexFunc_Lives_at_impl_wearCode_1.k_1] at h
   refine jx_then (jc_seq (jc_region (qh [0] (qe (jx_then (jc_ret ?_))))))
   obtain rfl := Option.some.inj h
   exact qr [] (fun w hm => ⟨rfl, hm.pk []⟩)
/-! ### slices.ContainsFunc[[]impl.Lives,impl.Lives] -/
def slices_ContainsFunc_Lives_at_impl_wearCode_1 (s0 : List GLives) : Option (Bool) := (slices_IndexFunc_Lives_at_impl_wearCode_1 s0).bind fun t_1 => some (decide (t_1 ≥ 0))
theorem slices_ContainsFunc_Lives_at_impl_wearCode_1.calls (s0 : List GLives) (w : World) (r : Bool) {A_a : Option Addr} {A_an : Nat} (A_c : Nat) (A_h : Rw w A_a 2 encGLives s0) (A_hn : s0.length = A_an) (h : slices_ContainsFunc_Lives_at_impl_wearCode_1 s0 = some r) :
    Calls Tryz.prog 173 #[(.slice A_a A_an A_c), (.func (.func 174) #[] #[])] w fun e w' => ∃ v, e = .returned v ∧ (v = (.bool r) ∧ Mem w [] [] w') := by
  subst A_hn
  rw [slices_ContainsFunc_Lives_at_impl_wearCode_1] at h
  refine enter (args := [(.slice A_a s0.length A_c), (.func (.func 174) #[] #[])]) Tryz.func173 rfl Tryz.ntmps173 (by kernel_rfl) (L := []) (W := []) (Mem.start w) ?_
  refine jc_seq (jc_region (qh [0] (qe (jx_then (jc_seq (jc_region (qh [0,0] ?_)))))))
  obtain ⟨t_1, ht_1, h⟩ := bd h
  refine tO (pc 0 (fun w hm => slices_IndexFunc_Lives_at_impl_wearCode_1.calls s0 w _ A_c (hm.xr A_h) rfl ht_1) ?_)
  rintro w v w' hm ⟨rfl, hm'⟩
  refine ⟨_, hm.app hm', jkO ?_⟩
  clear hm hm'
  refine qh [0,0] (qe (jx_then (jc_ret ?_)))
  obtain rfl := Option.some.inj h
  exact qr [] (fun w hm => ⟨rfl, hm.pk []⟩)
/-! ### impl.unless -/
def impl_unless (is0 : Bool) (code1 : Int) : Option (Int) := (if is0 = true then some 0 else some code1)
theorem impl_unless.calls (is0 : Bool) (code1 : Int) (w : World) (r : Int) (h : impl_unless is0 code1 = some r) :
    Calls Tryz.prog 124 #[(.bool is0), (.int .i64 code1)] w fun e w' => ∃ v, e = .returned v ∧ (v = (.int .i64 r) ∧ Mem w [] [] w') := by
  rw [impl_unless] at h
  refine enter (args := [(.bool is0), (.int .i64 code1)]) Tryz.func124 rfl Tryz.ntmps124 (by kernel_rfl) (L := []) (W := []) (Mem.start w) ?_
  refine jc_seq (jc_region (qh [0] (qe (jx_then (jc_seq (jc_seq (jc_region (qh [0] (qe (jx_then (qi h (fun h => ?_) (fun h => ?_))))))))))))
  ·refine jc_seq (jc_region (qh [0] (qe (jx_then (jc_ret (jx_thenr ?_))))))
   obtain rfl := Option.some.inj h
   exact qr [] (fun w hm => ⟨rfl, hm.pk []⟩)
  ·refine jc_skip (jx_then (jc_seq (jc_region (qh [0,0] (qe (jx_then (jc_ret ?_)))))))
   obtain rfl := Option.some.inj h
   exact qr [] (fun w hm => ⟨rfl, hm.pk []⟩)
/-! ### impl.wearCode -/
def impl_wearCode (f0 : GFrame) (w1 : GWear) (lives2 : List GLives) : Option (Int) := (impl_ValidWear f0 w1).bind fun t_1 => (if t_1 = true then (slices_ContainsFunc_Lives_at_impl_wearCode_1 lives2).bind fun t_2 => (impl_unless (!t_2) 1).bind fun t_3 => some t_3 else (impl_unless false 1).bind fun t_4 => some t_4)
theorem impl_wearCode.calls (f0 : GFrame) (w1 : GWear) (lives2 : List GLives) (w : World) (r : Int) {C_a : Option Addr} {C_an : Nat} (C_c : Nat) (C_h : Rw w C_a 2 encGHammer f0.fHammers) (C_hn : f0.fHammers.length = C_an) {E_a : Option Addr} {E_an : Nat} (E_c : Nat) (E_h : Rw w E_a 3 encGWornPin w1.fPins) (E_hn : w1.fPins.length = E_an) {F_a : Option Addr} {F_an : Nat} (F_c : Nat) (F_h : Rw w F_a 1 encI64 w1.fStrokes) (F_hn : w1.fStrokes.length = F_an) {G_a : Option Addr} {G_an : Nat} (G_c : Nat) (G_h : Rw w G_a 2 encGLives lives2) (G_hn : lives2.length = G_an) (h : impl_wearCode f0 w1 lives2 = some r) :
    Calls Tryz.prog 97 #[(.agg #[(.int .i16 f0.fSteps), (.slice C_a C_an C_c)]), (.agg #[(.slice E_a E_an E_c), (.slice F_a F_an F_c)]), (.slice G_a G_an G_c)] w fun e w' => ∃ v, e = .returned v ∧ (v = (.int .i64 r) ∧ Mem w [] [] w') := by
  subst C_hn E_hn F_hn G_hn
  rw [impl_wearCode] at h
  refine enter (args := [(.agg #[(.int .i16 f0.fSteps), (.slice C_a f0.fHammers.length C_c)]), (.agg #[(.slice E_a w1.fPins.length E_c), (.slice F_a w1.fStrokes.length F_c)]), (.slice G_a lives2.length G_c)]) Tryz.func97 rfl Tryz.ntmps97 (by kernel_rfl) (L := []) (W := []) (Mem.start w) ?_
  refine jc_seq (jc_region (tO (qa 0 (fun b_1 => jkO (tO (qa 0 (fun b_2 => jkO (qh [0] (qe (jx_then (jc_seq (jc_region (qh [0,1] ?_)))))))))))))
  obtain ⟨t_1, ht_3, h⟩ := bd h
  refine tO (pc 0 (fun w hm => impl_ValidWear.calls f0 w1 w _ C_c (hm.xr C_h) rfl E_c (hm.xr E_h) rfl F_c (hm.xr F_h) rfl ht_3) ?_)
  rintro w v w' hm ⟨rfl, hm'⟩
  refine ⟨_, hm.app hm', jkO ?_⟩
  clear hm hm'
  refine qf [(0, 0), (0, 1)] (qp 10 h (fun h => ?_) (fun h => ?_))
  ·obtain ⟨t_2, ht_5, h⟩ := bd h
   refine tO (pc 2 (fun w hm => slices_ContainsFunc_Lives_at_impl_wearCode_1.calls lives2 w _ G_c (hm.xr G_h) rfl ht_5) ?_)
   rintro w v w' hm ⟨rfl, hm'⟩
   refine ⟨_, hm.app hm', jkO ?_⟩
   clear hm hm'
   refine qf [(0, 2), (0, 4)] ?_
   obtain ⟨t_3, ht_6, h⟩ := bd h
   refine tO (pc 0 (fun w hm => impl_unless.calls (!t_2) 1 w _ ht_6) ?_)
   rintro w v w' hm ⟨rfl, hm'⟩
   refine ⟨_, hm.app hm', jkO ?_⟩
   clear hm hm'
   refine qh [0] (qe (jx_then (jc_ret ?_)))
   obtain rfl := Option.some.inj h
   exact qr [] (fun w hm => ⟨rfl, hm.pk []⟩)
  ·refine qf [(0, 3), (0, 3), (0, 5)] ?_
   obtain ⟨t_4, ht_7, h⟩ := bd h
   refine tO (pc 0 (fun w hm => impl_unless.calls false 1 w _ ht_7) ?_)
   rintro w v w' hm ⟨rfl, hm'⟩
   refine ⟨_, hm.app hm', jkO ?_⟩
   clear hm hm'
   refine qh [0] (qe (jx_then (jc_ret ?_)))
   obtain rfl := Option.some.inj h
   exact qr [] (fun w hm => ⟨rfl, hm.pk []⟩)
/-! ### impl.firstOf -/
def impl_firstOf.k_1 : Option (Int) := some 0
def impl_firstOf.l_3 (codes0 : List Int) : Int → Option ((Int) ⊕ (Int ⊕ Unit))
  | i_2 => (if (decide (i_2 < (codes0.length : Int))) = true then (ix codes0 i_2).bind fun x_5 => (if (x_5 != 0) = true then some (.inr (.inl x_5)) else some (.inl (w64 (i_2 + 1)))) else some (.inr (.inr ())))
def impl_firstOf (codes0 : List Int) : Option (Int) := (loop (impl_firstOf.l_3 codes0) 0).bind fun t_4 => match t_4 with | .inl p => some p | .inr p => impl_firstOf.k_1
theorem impl_firstOf.calls (codes0 : List Int) (w : World) (r : Int) {A_a : Option Addr} {A_an : Nat} (A_c : Nat) (A_h : Rw w A_a 1 encI64 codes0) (A_hn : codes0.length = A_an) (h : impl_firstOf codes0 = some r) :
    Calls Tryz.prog 96 #[(.slice A_a A_an A_c)] w fun e w' => ∃ v, e = .returned v ∧ (v = (.int .i64 r) ∧ Mem w [] [] w') := by
  subst A_hn
  rw [impl_firstOf] at h
  refine enter (args := [(.slice A_a codes0.length A_c)]) Tryz.func96 rfl Tryz.ntmps96 (by kernel_rfl) (L := []) (W := []) (Mem.start w) ?_
  refine jc_seq (jc_region (qh [0] (qe (jx_then (jc_seq (jc_seq (jc_region (qh [0,0,0] (qe (jx_then (jc_meet (fun (_ : Unit) => impl_firstOf.k_1 = some r) (fun (_ : Unit) => [(2, [], (.int .i64 0))]) (fun (_ : Unit) => []) ?_ ?_)))))))))))
  ·refine jc_block ?_
   obtain ⟨t_4, ht_34, hr_26⟩ := bd h
   refine jc_loop (fun (s : Int) (x : Unit) => match s, x with | i_2, _ => True) (fun (s : Int) (x : Unit) => match s, x with | i_2, _ => [(2, [], (.int .i64 0)), (5, [], (.slice A_a codes0.length A_c)), (6, [], (.int .i64 (codes0.length : Int))), (7, [], (.int .i64 i_2))]) (fun (s : Int) (x : Unit) => match s, x with | i_2, _ => []) ht_34 () trivial (by kernel_rfl) [] (by kernel_rfl) (by kernel_rfl) ?_
   rintro i_2 _ y_27 _ h
   rw [impl_firstOf.l_3] at h
   refine jc_seq (jc_region (qh [0] (qe (jx_then (jc_seq (qi h (fun h => ?_) (fun h => ?_)))))))
   ·refine jc_skip (jx_then (jc_seq (jc_block (jc_seq (jc_region ?_)))))
    obtain ⟨x_5, hx_30, h⟩ := bd h
    refine tO (qx 0 A_a 1 hx_30 rfl (A_h.sp hx_30) (jkO (tO (ql 0 false (fun w hm => ((hm.xr A_h).at hx_30)) (jkO (qh [0] (qe (jx_then (jc_seq (jc_region (qh [0,0] (qe (jx_then (qi h (fun h => ?_) (fun h => ?_)))))))))))))))
    ·refine jc_seq (jc_region (qh [0,0] (qe (jx_then (jc_ret (jx_inr (jx_thenr (jx_leaver (.inl x_5) (Option.some.inj h).symm (fun e_32 => ?_)))))))))
     subst e_32
     refine jx_inr (jx_thenr (jx_thenr ?_))
     obtain rfl := Option.some.inj hr_26
     exact qr [] (fun w hm => ⟨rfl, hm.pk []⟩)
    ·exact jc_skip (jx_inn (jx_then (jc_region (qh [0,0] (qe (qb (w64 (i_2 + 1)) () h trivial []))))))
   ·refine jc_exit (jx_thenx (jx_leave (.inr ()) (Option.some.inj h).symm (fun e_33 => ?_)))
    subst e_33
    exact jx_ine (qm () hr_26 [])
  ·rintro _ h
   replace h : impl_firstOf.k_1 = some r := h
   rw [impl_firstOf.k_1] at h
   refine jx_then (jc_seq (jc_region (qh [0] (qe (jx_then (jc_ret ?_))))))
   obtain rfl := Option.some.inj h
   exact qr [] (fun w hm => ⟨rfl, hm.pk []⟩)
/-! ### impl.actsCode -/
def impl_actsCode (f0 : GFrame) (w1 : GWear) (v2 : GLives) (list3 : List GAct) : Option (Int) := (impl_wearCode f0 w1 ([v2] : List GLives)).bind fun t_1 => (impl_unless (decide ((list3.length : Int) ≤ 60)) 3).bind fun t_2 => (impl_firstOf ([t_1, t_2] : List Int)).bind fun t_3 => some t_3
theorem impl_actsCode.calls (f0 : GFrame) (w1 : GWear) (v2 : GLives) (list3 : List GAct) (w : World) (r : Int) {C_a : Option Addr} {C_an : Nat} (C_c : Nat) (C_h : Rw w C_a 2 encGHammer f0.fHammers) (C_hn : f0.fHammers.length = C_an) {E_a : Option Addr} {E_an : Nat} (E_c : Nat) (E_h : Rw w E_a 3 encGWornPin w1.fPins) (E_hn : w1.fPins.length = E_an) {F_a : Option Addr} {F_an : Nat} (F_c : Nat) (F_h : Rw w F_a 1 encI64 w1.fStrokes) (F_hn : w1.fStrokes.length = F_an) {J_a : Option Addr} {J_an : Nat} (J_c : Nat) (J_h : Rw w J_a 5 encGAct list3) (J_hn : list3.length = J_an) (h : impl_actsCode f0 w1 v2 list3 = some r) :
    Calls Tryz.prog 88 #[(.agg #[(.int .i16 f0.fSteps), (.slice C_a C_an C_c)]), (.agg #[(.slice E_a E_an E_c), (.slice F_a F_an F_c)]), (.agg #[(.int .i64 v2.fPin), (.int .i64 v2.fHammer)]), (.slice J_a J_an J_c)] w fun e w' => ∃ v, e = .returned v ∧ (v = (.int .i64 r) ∧ Mem w [] [] w') := by
  subst C_hn E_hn F_hn J_hn
  rw [impl_actsCode] at h
  refine enter (args := [(.agg #[(.int .i16 f0.fSteps), (.slice C_a f0.fHammers.length C_c)]), (.agg #[(.slice E_a w1.fPins.length E_c), (.slice F_a w1.fStrokes.length F_c)]), (.agg #[(.int .i64 v2.fPin), (.int .i64 v2.fHammer)]), (.slice J_a list3.length J_c)]) Tryz.func88 rfl Tryz.ntmps88 (by kernel_rfl) (L := []) (W := []) (Mem.start w) ?_
  refine jc_seq (jc_region (tO (qa 0 (fun b_1 => jkO (tO (qa 0 (fun b_2 => jkO (tO (qa 0 (fun b_3 => jkO (qh [0] (qe (jx_then (jc_seq (jc_region (qh [0,1,2] (tO (qa 0 (fun b_4 => jkO ?_)))))))))))))))))))
  obtain ⟨t_1, ht_5, h⟩ := bd h
  refine tO (pc 0 (fun w hm => impl_wearCode.calls f0 w1 ([v2] : List GLives) w _ C_c (hm.xr C_h) rfl E_c (hm.xr E_h) rfl F_c (hm.xr F_h) rfl 1 (hm.ow 3 (some b_4) 65 ([v2] : List GLives) [] (fun e => nomatch e) encGLives_len) rfl ht_5) ?_)
  rintro w v w' hm ⟨rfl, hm'⟩
  refine ⟨_, hm.app hm', jkO ?_⟩
  clear hm hm'
  refine qh [0,0,0] ?_
  obtain ⟨t_2, ht_6, h⟩ := bd h
  refine tO (pc 0 (fun w hm => impl_unless.calls (decide ((list3.length : Int) ≤ 60)) 3 w _ ht_6) ?_)
  rintro w v w' hm ⟨rfl, hm'⟩
  refine ⟨_, hm.app hm', jkO ?_⟩
  clear hm hm'
  refine tO (qa 0 (fun b_7 => jkO ?_))
  obtain ⟨t_3, ht_8, h⟩ := bd h
  refine tO (pc 0 (fun w hm => impl_firstOf.calls ([t_1, t_2] : List Int) w _ 2 (hm.ow 4 (some b_7) 2 ([t_1, t_2] : List Int) [] (fun e => nomatch e) encI64_len) rfl ht_8) ?_)
  rintro w v w' hm ⟨rfl, hm'⟩
  refine ⟨_, hm.app hm', jkO ?_⟩
  clear hm hm'
  refine qh [0] (qe (jx_then (jc_ret ?_)))
  obtain rfl := Option.some.inj h
  exact qr [] (fun w hm => ⟨rfl, hm.pk []⟩)
/-! ### slices.Clone[[]impl.WornPin,impl.WornPin] -/
def slices_Clone_WornPin (s0 : List GWornPin) : Option ((List GWornPin)) := (if ([] : List GWornPin).length + s0.length ≤ 4294967296 then some (([] : List GWornPin) ++ s0) else none)
theorem slices_Clone_WornPin.calls (s0 : List GWornPin) (w : World) (r : (List GWornPin)) {A_a : Option Addr} {A_an : Nat} (A_c : Nat) (A_h : Rw w A_a 3 encGWornPin s0) (A_hn : s0.length = A_an) (h : slices_Clone_WornPin s0 = some r) :
    Calls Tryz.prog 207 #[(.slice A_a A_an A_c)] w fun e w' => ∃ v, e = .returned v ∧ (∃ (o0 : Option Nat) (c0 : Nat) (s0 : List Value) (n0 : Nat), r.length = n0 ∧ (o0 ≠ none → n0 ≤ c0 ∧ s0.length = (c0 - n0) * 3) ∧ (o0 = none → r = [] ∧ c0 = 0) ∧ v = .slice (o0.map fun b => ⟨b, 0, none⟩) n0 c0 ∧ Mem w [] [⟨o0, 147, row encGWornPin r s0⟩] w') := by
  subst A_hn
  rw [slices_Clone_WornPin] at h
  refine enter (args := [(.slice A_a s0.length A_c)]) Tryz.func207 rfl Tryz.ntmps207 (by kernel_rfl) (L := []) (W := []) (Mem.start w) ?_
  refine jc_seq (jc_region (qh [0] (qe (jx_then (jc_seq (jc_seq (jc_region (qh [0] ?_))))))))
  by_cases hn_4 : A_a = none
  ·have hx0 : s0 = [] := (nil_of A_h hn_4)
   replace h : some [] = some r := by simpa [hx0] using h
   refine tO (p_nil 0 A_a true true (by kernel_rfl) (by kernel_rfl) (by rw [hn_4]; rfl) (jkO (qe (jx_then (jc_cond true (by kernel_rfl) (fun hc_5 => (jc_seq (jc_region (qh [0] (qe (jx_then (jc_ret (jx_thenr ?_)))))))) (fun hc_5 => nomatch hc_5))))))
   obtain rfl := Option.some.inj h
   exact jx_ghost 147 encGWornPin (qr [] (fun w hm => ⟨none, 0, [], 0, rfl, (fun e => absurd rfl e), (fun _ => ⟨rfl, rfl⟩), rfl, hm.pk [0]⟩))
  ·refine tO (p_nil 0 A_a true false (by kernel_rfl) (by kernel_rfl) (by rw [Option.isNone_eq_false_iff.2 (Option.ne_none_iff_isSome.1 hn_4)]; rfl) (jkO (qe (jx_then (jc_cond false (by kernel_rfl) (fun hc_6 => nomatch hc_6) (fun hc_6 => (jc_skip (jx_then (jc_seq (jc_region (tO (qa 0 (fun b_7 => jkO (qh [0] ?_))))))))))))))
   obtain ⟨hg_8, h⟩ := gd h
   refine tO (p_apn 0 0 (some b_7) 147 0 s0.length 0 3 16 A_a encGWornPin ([] : List GWornPin) s0 [] (.agg #[(.int .i8 0), (.int .i8 0), (.int .i64 0)]) rfl rfl (by kernel_rfl) (by kernel_rfl) (by kernel_rfl) encGWornPin_len encGWornPin_cell (fun _ => ⟨Nat.le_refl _, by simp⟩) (fun e => nomatch e) (fun w hm => (hm.xr A_h)) hg_8 (by kernel_rfl) (by kernel_rfl) (fun o_9 cap_10 sp_11 hs_12 ho_13 => jkO (qh [0] (qe (jx_then (jc_ret ?_))))))
   obtain rfl := Option.some.inj h
   exact qr [] (fun w hm => ⟨o_9, cap_10, sp_11, ((([] : List GWornPin) ++ s0).length), rfl, hs_12, ho_13, rfl, hm.pk [0]⟩)
/-! ### slices.Clone[[]int64,int64] -/
def slices_Clone_int64 (s0 : List Int) : Option ((List Int)) := (if ([] : List Int).length + s0.length ≤ 4294967296 then some (([] : List Int) ++ s0) else none)
theorem slices_Clone_int64.calls (s0 : List Int) (w : World) (r : (List Int)) {A_a : Option Addr} {A_an : Nat} (A_c : Nat) (A_h : Rw w A_a 1 encI64 s0) (A_hn : s0.length = A_an) (h : slices_Clone_int64 s0 = some r) :
    Calls Tryz.prog 208 #[(.slice A_a A_an A_c)] w fun e w' => ∃ v, e = .returned v ∧ (∃ (o0 : Option Nat) (c0 : Nat) (s0 : List Value) (n0 : Nat), r.length = n0 ∧ (o0 ≠ none → n0 ≤ c0 ∧ s0.length = (c0 - n0) * 1) ∧ (o0 = none → r = [] ∧ c0 = 0) ∧ v = .slice (o0.map fun b => ⟨b, 0, none⟩) n0 c0 ∧ Mem w [] [⟨o0, 2, row encI64 r s0⟩] w') := by
  subst A_hn
  rw [slices_Clone_int64] at h
  refine enter (args := [(.slice A_a s0.length A_c)]) Tryz.func208 rfl Tryz.ntmps208 (by kernel_rfl) (L := []) (W := []) (Mem.start w) ?_
  refine jc_seq (jc_region (qh [0] (qe (jx_then (jc_seq (jc_seq (jc_region (qh [0] ?_))))))))
  by_cases hn_4 : A_a = none
  ·have hx0 : s0 = [] := (nil_of A_h hn_4)
   replace h : some [] = some r := by simpa [hx0] using h
   refine tO (p_nil 0 A_a true true (by kernel_rfl) (by kernel_rfl) (by rw [hn_4]; rfl) (jkO (qe (jx_then (jc_cond true (by kernel_rfl) (fun hc_5 => (jc_seq (jc_region (qh [0] (qe (jx_then (jc_ret (jx_thenr ?_)))))))) (fun hc_5 => nomatch hc_5))))))
   obtain rfl := Option.some.inj h
   exact jx_ghost 2 encI64 (qr [] (fun w hm => ⟨none, 0, [], 0, rfl, (fun e => absurd rfl e), (fun _ => ⟨rfl, rfl⟩), rfl, hm.pk [0]⟩))
  ·refine tO (p_nil 0 A_a true false (by kernel_rfl) (by kernel_rfl) (by rw [Option.isNone_eq_false_iff.2 (Option.ne_none_iff_isSome.1 hn_4)]; rfl) (jkO (qe (jx_then (jc_cond false (by kernel_rfl) (fun hc_6 => nomatch hc_6) (fun hc_6 => (jc_skip (jx_then (jc_seq (jc_region (tO (qa 0 (fun b_7 => jkO (qh [0] ?_))))))))))))))
   obtain ⟨hg_8, h⟩ := gd h
   refine tO (p_apn 0 0 (some b_7) 2 0 s0.length 0 1 8 A_a encI64 ([] : List Int) s0 [] (.int .i64 0) rfl rfl (by kernel_rfl) (by kernel_rfl) (by kernel_rfl) encI64_len encI64_cell (fun _ => ⟨Nat.le_refl _, by simp⟩) (fun e => nomatch e) (fun w hm => (hm.xr A_h)) hg_8 (by kernel_rfl) (by kernel_rfl) (fun o_9 cap_10 sp_11 hs_12 ho_13 => jkO (qh [0] (qe (jx_then (jc_ret ?_))))))
   obtain rfl := Option.some.inj h
   exact qr [] (fun w hm => ⟨o_9, cap_10, sp_11, ((([] : List Int) ++ s0).length), rfl, hs_12, ho_13, rfl, hm.pk [0]⟩)
/-! ### (impl.Wear).own -/
def impl_Wear_own (w0 : GWear) : Option (GWear) := (slices_Clone_WornPin w0.fPins).bind fun t_1 => (slices_Clone_int64 w0.fStrokes).bind fun t_2 => some (⟨t_1, t_2⟩ : GWear)
theorem impl_Wear_own.calls (w0 : GWear) (w : World) (r : GWear) {B_a : Option Addr} {B_an : Nat} (B_c : Nat) (B_h : Rw w B_a 3 encGWornPin w0.fPins) (B_hn : w0.fPins.length = B_an) {C_a : Option Addr} {C_an : Nat} (C_c : Nat) (C_h : Rw w C_a 1 encI64 w0.fStrokes) (C_hn : w0.fStrokes.length = C_an) (h : impl_Wear_own w0 = some r) :
    Calls Tryz.prog 162 #[(.agg #[(.slice B_a B_an B_c), (.slice C_a C_an C_c)])] w fun e w' => ∃ v, e = .returned v ∧ (∃ (o0 : Option Nat) (c0 : Nat) (s0 : List Value) (n0 : Nat), r.fPins.length = n0 ∧ (o0 ≠ none → n0 ≤ c0 ∧ s0.length = (c0 - n0) * 3) ∧ (o0 = none → r.fPins = [] ∧ c0 = 0) ∧ ∃ (o1 : Option Nat) (c1 : Nat) (s1 : List Value) (n1 : Nat), r.fStrokes.length = n1 ∧ (o1 ≠ none → n1 ≤ c1 ∧ s1.length = (c1 - n1) * 1) ∧ (o1 = none → r.fStrokes = [] ∧ c1 = 0) ∧ v = .agg #[.slice (o0.map fun b => ⟨b, 0, none⟩) n0 c0, .slice (o1.map fun b => ⟨b, 0, none⟩) n1 c1] ∧ Mem w [] [⟨o0, 147, row encGWornPin r.fPins s0⟩, ⟨o1, 2, row encI64 r.fStrokes s1⟩] w') := by
  subst B_hn C_hn
  rw [impl_Wear_own] at h
  refine enter (args := [(.agg #[(.slice B_a w0.fPins.length B_c), (.slice C_a w0.fStrokes.length C_c)])]) Tryz.func162 rfl Tryz.ntmps162 (by kernel_rfl) (L := []) (W := []) (Mem.start w) ?_
  refine jc_seq (jc_region (tO (qa 0 (fun b_1 => jkO (tO (qa 0 (fun b_2 => jkO (qe (jx_then (jc_seq (qg [⟨some b_1, 62, [(.slice B_a w0.fPins.length B_c), (.slice C_a w0.fStrokes.length C_c)]⟩] 8 (qd [⟨0, 0, 0⟩,⟨1, 0, 0⟩,⟨3, 0, 0⟩,⟨4, 0, 0⟩] 4 [0] ?_))))))))))))
  obtain ⟨t_1, ht_15, h⟩ := bd h
  refine tD 2 (pc 0 (fun w hm => slices_Clone_WornPin.calls w0.fPins w _ B_c (hm.xr B_h) rfl ht_15) ?_)
  rintro w v w' hm ⟨o_16, cap_17, sp_18, _, rfl, hs_19, ho_20, rfl, hm'⟩
  refine ⟨_, hm.app hm', kD [0] ?_⟩
  clear hm hm'
  obtain ⟨t_2, ht_21, h⟩ := bd h
  refine tD 5 (pc 0 (fun w hm => slices_Clone_int64.calls w0.fStrokes w _ C_c (hm.xr C_h) rfl ht_21) ?_)
  rintro w v w' hm ⟨o_22, cap_23, sp_24, _, rfl, hs_25, ho_26, rfl, hm'⟩
  refine ⟨_, hm.app hm', kD [0] ?_⟩
  clear hm hm'
  refine qd [⟨6, 0, 0⟩] 1 [0] (tD 7 (qs 0 [1] (kD [0] (qz (jx_then (jc_ret ?_))))))
  obtain rfl := Option.some.inj h
  exact qr [1] (fun w hm => ⟨o_16, cap_17, sp_18, t_1.length, rfl, hs_19, ho_20, o_22, cap_23, sp_24, t_2.length, rfl, hs_25, ho_26, rfl, hm.pk [2, 3]⟩)
/-! ### (*impl.Drum).put -/
def impl_Drum_put (d0 : Arr 96 Int) (step1 : Int) (track2 : Int) (on3 : Bool) : Option ((Arr 96 Int)) := (ix d0.1 step1).bind fun x_1 => (if 0 ≤ track2 then (ix d0.1 step1).bind fun x_2 => (if on3 = true then (ix ((Arr.set d0 step1 (bClr .u32 x_1 (bShl .u32 1 track2))).1) step1).bind fun x_3 => (if 0 ≤ track2 then (ix ((Arr.set d0 step1 (bClr .u32 x_1 (bShl .u32 1 track2))).1) step1).bind fun x_4 => some (Arr.set (Arr.set d0 step1 (bClr .u32 x_1 (bShl .u32 1 track2))) step1 (bOr .u32 x_3 (bShl .u32 1 track2))) else none) else some (Arr.set d0 step1 (bClr .u32 x_1 (bShl .u32 1 track2)))) else none)
theorem impl_Drum_put.calls (d0 : Arr 96 Int) (step1 : Int) (track2 : Int) (on3 : Bool) (w : World) (r : (Arr 96 Int)) (A_b : Nat) (hm0 : Mem w (bs [some A_b]) [⟨(some A_b), 34, row encU32 d0.1 []⟩] w) (h : impl_Drum_put d0 step1 track2 on3 = some r) :
    Calls Tryz.prog 66 #[(.pointer (some ⟨A_b, 0, none⟩)), (.int .i64 step1), (.int .i64 track2), (.bool on3)] w fun e w' => ∃ v, e = .returned v ∧ (v = .tuple #[] ∧ Mem w (bs [some A_b]) [⟨(some A_b), 34, row encU32 r.1 []⟩] w') := by
  rw [impl_Drum_put] at h
  refine enter (args := [(.pointer (some ⟨A_b, 0, none⟩)), (.int .i64 step1), (.int .i64 track2), (.bool on3)]) Tryz.func66 rfl Tryz.ntmps66 (by kernel_rfl) (L := [⟨(some A_b), 34, row encU32 d0.1 []⟩]) (W := bs [some A_b]) hm0 ?_
  refine jc_seq (qg [] 11 (qd [⟨0, 0, 0⟩,⟨1, 0, 0⟩,⟨2, 0, 0⟩,⟨5, 0, 0⟩,⟨8, 0, 0⟩] 6 [] ?_))
  obtain ⟨x_1, hx_4, h⟩ := bd h
  refine qv 3 0 [] (fun w hm => idx_run (a := (some ⟨A_b, 0, none⟩)) (len := 96) (s := 1) (j := step1) (by kernel_rfl) (ix_some hx_4).1 (ltn hx_4 d0.2) rfl) (toD2 4 6 (by kernel_rfl) ?_ ?_)
  ·refine ql 0 false (fun w hm => ((hm.ow 0 (some A_b) 34 d0.1 [] (fun e => nomatch e) encU32_len).at hx_4)) (kD [] ?_)
   obtain ⟨hg_5, h⟩ := gd h
   refine tD 6 (p_shl 0 .u32 1 .i64 track2 (by kernel_rfl) (by kernel_rfl) hg_5 (kD [] (qd [⟨7, 0, 0⟩] 2 [] ?_)))
   obtain ⟨x_2, hx_6, h⟩ := bd h
   refine qv 9 0 [] (fun w hm => idx_run (a := (some ⟨A_b, 0, none⟩)) (len := 96) (s := 1) (j := step1) (by kernel_rfl) (ix_some hx_6).1 (ltn hx_6 d0.2) rfl) (tD 10 (p_str 0 0 A_b 34 encU32 d0.1 [] step1 (bClr .u32 x_1 (bShl .u32 1 track2)) 1 0 [(.int .u32 (bClr .u32 x_1 (bShl .u32 1 track2)))] (by kernel_rfl) (by kernel_rfl) (by kernel_rfl) encU32_len hx_6 (by kernel_rfl) (by kernel_rfl) (kD [] (qz (jx_then (jc_seq (jc_region (qh [0] (qe (jx_then (qi h (fun h => ?_) (fun h => ?_))))))))))))
   ·refine qg [] 11 (qd [⟨0, 0, 0⟩,⟨1, 0, 0⟩,⟨2, 0, 0⟩,⟨5, 0, 0⟩,⟨8, 0, 0⟩] 6 [] ?_)
    obtain ⟨x_3, hx_11, h⟩ := bd h
    refine qv 3 0 [] (fun w hm => idx_run (a := (some ⟨A_b, 0, none⟩)) (len := 96) (s := 1) (j := step1) (by kernel_rfl) (ix_some hx_11).1 (ltn hx_11 (Arr.set d0 step1 (bClr .u32 x_1 (bShl .u32 1 track2))).2) rfl) (toD2 4 6 (by kernel_rfl) ?_ ?_)
    ·refine ql 0 false (fun w hm => ((hm.ow 0 (some A_b) 34 ((Arr.set d0 step1 (bClr .u32 x_1 (bShl .u32 1 track2))).1) [] (fun e => nomatch e) encU32_len).at hx_11)) (kD [] ?_)
     obtain ⟨hg_12, h⟩ := gd h
     refine tD 6 (p_shl 0 .u32 1 .i64 track2 (by kernel_rfl) (by kernel_rfl) hg_12 (kD [] (qd [⟨7, 0, 0⟩] 2 [] ?_)))
     obtain ⟨x_4, hx_13, h⟩ := bd h
     refine qv 9 0 [] (fun w hm => idx_run (a := (some ⟨A_b, 0, none⟩)) (len := 96) (s := 1) (j := step1) (by kernel_rfl) (ix_some hx_13).1 (ltn hx_13 (Arr.set d0 step1 (bClr .u32 x_1 (bShl .u32 1 track2))).2) rfl) (tD 10 (p_str 0 0 A_b 34 encU32 ((Arr.set d0 step1 (bClr .u32 x_1 (bShl .u32 1 track2))).1) [] step1 (bOr .u32 x_3 (bShl .u32 1 track2)) 1 0 [(.int .u32 (bOr .u32 x_3 (bShl .u32 1 track2)))] (by kernel_rfl) (by kernel_rfl) (by kernel_rfl) encU32_len hx_13 (by kernel_rfl) (by kernel_rfl) (kD [] (qz (jx_fall ?_)))))
     obtain rfl := Option.some.inj h
     exact qr [] (fun w hm => ⟨rfl, hm.pk [0]⟩)
    ·obtain ⟨hg_14, h⟩ := gd h
     refine p_shl 0 .u32 1 .i64 track2 (by kernel_rfl) (by kernel_rfl) hg_14 (kD [] (tD 4 (ql 0 false (fun w hm => ((hm.ow 0 (some A_b) 34 ((Arr.set d0 step1 (bClr .u32 x_1 (bShl .u32 1 track2))).1) [] (fun e => nomatch e) encU32_len).at hx_11)) (kD [] (qd [⟨7, 0, 0⟩] 2 [] ?_)))))
     obtain ⟨x_4, hx_15, h⟩ := bd h
     refine qv 9 0 [] (fun w hm => idx_run (a := (some ⟨A_b, 0, none⟩)) (len := 96) (s := 1) (j := step1) (by kernel_rfl) (ix_some hx_15).1 (ltn hx_15 (Arr.set d0 step1 (bClr .u32 x_1 (bShl .u32 1 track2))).2) rfl) (tD 10 (p_str 0 0 A_b 34 encU32 ((Arr.set d0 step1 (bClr .u32 x_1 (bShl .u32 1 track2))).1) [] step1 (bOr .u32 x_3 (bShl .u32 1 track2)) 1 0 [(.int .u32 (bOr .u32 x_3 (bShl .u32 1 track2)))] (by kernel_rfl) (by kernel_rfl) (by kernel_rfl) encU32_len hx_15 (by kernel_rfl) (by kernel_rfl) (kD [] (qz (jx_fall ?_)))))
     obtain rfl := Option.some.inj h
     exact qr [] (fun w hm => ⟨rfl, hm.pk [0]⟩)
   ·refine jc_skip (jx_fall ?_)
    obtain rfl := Option.some.inj h
    exact qr [] (fun w hm => ⟨rfl, hm.pk [0]⟩)
  ·obtain ⟨hg_16, h⟩ := gd h
   refine p_shl 0 .u32 1 .i64 track2 (by kernel_rfl) (by kernel_rfl) hg_16 (kD [] (tD 4 (ql 0 false (fun w hm => ((hm.ow 0 (some A_b) 34 d0.1 [] (fun e => nomatch e) encU32_len).at hx_4)) (kD [] (qd [⟨7, 0, 0⟩] 2 [] ?_)))))
   obtain ⟨x_2, hx_17, h⟩ := bd h
   refine qv 9 0 [] (fun w hm => idx_run (a := (some ⟨A_b, 0, none⟩)) (len := 96) (s := 1) (j := step1) (by kernel_rfl) (ix_some hx_17).1 (ltn hx_17 d0.2) rfl) (tD 10 (p_str 0 0 A_b 34 encU32 d0.1 [] step1 (bClr .u32 x_1 (bShl .u32 1 track2)) 1 0 [(.int .u32 (bClr .u32 x_1 (bShl .u32 1 track2)))] (by kernel_rfl) (by kernel_rfl) (by kernel_rfl) encU32_len hx_17 (by kernel_rfl) (by kernel_rfl) (kD [] (qz (jx_then (jc_seq (jc_region (qh [0] (qe (jx_then (qi h (fun h => ?_) (fun h => ?_))))))))))))
   ·refine qg [] 11 (qd [⟨0, 0, 0⟩,⟨1, 0, 0⟩,⟨2, 0, 0⟩,⟨5, 0, 0⟩,⟨8, 0, 0⟩] 6 [] ?_)
    obtain ⟨x_3, hx_22, h⟩ := bd h
    refine qv 3 0 [] (fun w hm => idx_run (a := (some ⟨A_b, 0, none⟩)) (len := 96) (s := 1) (j := step1) (by kernel_rfl) (ix_some hx_22).1 (ltn hx_22 (Arr.set d0 step1 (bClr .u32 x_1 (bShl .u32 1 track2))).2) rfl) (toD2 4 6 (by kernel_rfl) ?_ ?_)
    ·refine ql 0 false (fun w hm => ((hm.ow 0 (some A_b) 34 ((Arr.set d0 step1 (bClr .u32 x_1 (bShl .u32 1 track2))).1) [] (fun e => nomatch e) encU32_len).at hx_22)) (kD [] ?_)
     obtain ⟨hg_23, h⟩ := gd h
     refine tD 6 (p_shl 0 .u32 1 .i64 track2 (by kernel_rfl) (by kernel_rfl) hg_23 (kD [] (qd [⟨7, 0, 0⟩] 2 [] ?_)))
     obtain ⟨x_4, hx_24, h⟩ := bd h
     refine qv 9 0 [] (fun w hm => idx_run (a := (some ⟨A_b, 0, none⟩)) (len := 96) (s := 1) (j := step1) (by kernel_rfl) (ix_some hx_24).1 (ltn hx_24 (Arr.set d0 step1 (bClr .u32 x_1 (bShl .u32 1 track2))).2) rfl) (tD 10 (p_str 0 0 A_b 34 encU32 ((Arr.set d0 step1 (bClr .u32 x_1 (bShl .u32 1 track2))).1) [] step1 (bOr .u32 x_3 (bShl .u32 1 track2)) 1 0 [(.int .u32 (bOr .u32 x_3 (bShl .u32 1 track2)))] (by kernel_rfl) (by kernel_rfl) (by kernel_rfl) encU32_len hx_24 (by kernel_rfl) (by kernel_rfl) (kD [] (qz (jx_fall ?_)))))
     obtain rfl := Option.some.inj h
     exact qr [] (fun w hm => ⟨rfl, hm.pk [0]⟩)
    ·obtain ⟨hg_25, h⟩ := gd h
     refine p_shl 0 .u32 1 .i64 track2 (by kernel_rfl) (by kernel_rfl) hg_25 (kD [] (tD 4 (ql 0 false (fun w hm => ((hm.ow 0 (some A_b) 34 ((Arr.set d0 step1 (bClr .u32 x_1 (bShl .u32 1 track2))).1) [] (fun e => nomatch e) encU32_len).at hx_22)) (kD [] (qd [⟨7, 0, 0⟩] 2 [] ?_)))))
     obtain ⟨x_4, hx_26, h⟩ := bd h
     refine qv 9 0 [] (fun w hm => idx_run (a := (some ⟨A_b, 0, none⟩)) (len := 96) (s := 1) (j := step1) (by kernel_rfl) (ix_some hx_26).1 (ltn hx_26 (Arr.set d0 step1 (bClr .u32 x_1 (bShl .u32 1 track2))).2) rfl) (tD 10 (p_str 0 0 A_b 34 encU32 ((Arr.set d0 step1 (bClr .u32 x_1 (bShl .u32 1 track2))).1) [] step1 (bOr .u32 x_3 (bShl .u32 1 track2)) 1 0 [(.int .u32 (bOr .u32 x_3 (bShl .u32 1 track2)))] (by kernel_rfl) (by kernel_rfl) (by kernel_rfl) encU32_len hx_26 (by kernel_rfl) (by kernel_rfl) (kD [] (qz (jx_fall ?_)))))
     obtain rfl := Option.some.inj h
     exact qr [] (fun w hm => ⟨rfl, hm.pk [0]⟩)
   ·refine jc_skip (jx_fall ?_)
    obtain rfl := Option.some.inj h
    exact qr [] (fun w hm => ⟨rfl, hm.pk [0]⟩)
/-! ### (impl.Wear).drum -/
def impl_Wear_drum.k_2 (a_1 : Arr 96 Int) : Option ((Arr 96 Int)) := some a_1
def impl_Wear_drum.l_5 (w0 : GWear) : ((Arr 96 Int) × Int) → Option (((Arr 96 Int) × Int) ⊕ ((Arr 96 Int)))
  | (a_3, i_4) => (if (decide (i_4 < (w0.fPins.length : Int))) = true then (ix w0.fPins i_4).bind fun x_7 => (impl_Drum_put a_3 (w64 x_7.fStep) (w64 x_7.fTrack) true).bind fun t_8 => some (.inl (t_8, (w64 (i_4 + 1)))) else some (.inr a_3))
def impl_Wear_drum (w0 : GWear) : Option ((Arr 96 Int)) := (loop (impl_Wear_drum.l_5 w0) ((Arr.rep 96 0), 0)).bind fun t_6 => impl_Wear_drum.k_2 t_6
theorem impl_Wear_drum.calls (w0 : GWear) (w : World) (r : (Arr 96 Int)) {B_a : Option Addr} {B_an : Nat} (B_c : Nat) (B_h : Rw w B_a 3 encGWornPin w0.fPins) (B_hn : w0.fPins.length = B_an) {C_a : Option Addr} {C_an : Nat} (C_c : Nat) (C_h : Rw w C_a 1 encI64 w0.fStrokes) (C_hn : w0.fStrokes.length = C_an) (h : impl_Wear_drum w0 = some r) :
    Calls Tryz.prog 167 #[(.agg #[(.slice B_a B_an B_c), (.slice C_a C_an C_c)])] w fun e w' => ∃ v, e = .returned v ∧ (v = (.agg (row encU32 r.1 []).toArray) ∧ Mem w [] [] w') := by
  subst B_hn C_hn
  rw [impl_Wear_drum] at h
  refine enter (args := [(.agg #[(.slice B_a w0.fPins.length B_c), (.slice C_a w0.fStrokes.length C_c)])]) Tryz.func167 rfl Tryz.ntmps167 (by kernel_rfl) (L := []) (W := []) (Mem.start w) ?_
  refine jc_seq (jc_region (tO (qa 0 (fun b_1 => jkO (tO (qa 0 (fun b_2 => jkO (qe (jx_then (jc_seq (jc_region (qh [0] (tO (qa 0 (fun b_3 => jkO (tO (p_sA 0 2 b_3 96 1 34 encU32 (Arr.rep 96 0) (Arr.rep 96 0) (by kernel_rfl) (by kernel_rfl) (by kernel_rfl) encU32_len encU32_cell (by kernel_rfl) (jkO (qe (jx_then (jc_seq (jc_seq (jc_region (qh [0,0,0,0] (qe (jx_then (jc_meet (fun (j : (Arr 96 Int)) => match j with | a_1 => impl_Wear_drum.k_2 a_1 = some r) (fun (j : (Arr 96 Int)) => match j with | a_1 => [(2, [], (.pointer (some ⟨b_2, 0, none⟩))), (3, [], (.pointer (some ⟨b_3, 0, none⟩)))]) (fun (j : (Arr 96 Int)) => match j with | a_1 => [⟨some b_1, 62, [(.slice B_a w0.fPins.length B_c), (.slice C_a w0.fStrokes.length C_c)]⟩, ⟨(some b_2), 34, row encU32 ((Arr.rep 96 0).1) []⟩, ⟨(some b_3), 34, row encU32 a_1.1 []⟩]) ?_ ?_)))))))))))))))))))))))))))
  ·refine jc_block ?_
   obtain ⟨t_6, ht_79, hr_71⟩ := bd h
   refine jc_loop (fun (s : (Arr 96 Int) × Int) (x : Unit) => match s, x with | ⟨a_3, i_4⟩, _ => True) (fun (s : (Arr 96 Int) × Int) (x : Unit) => match s, x with | ⟨a_3, i_4⟩, _ => [(2, [], (.pointer (some ⟨b_2, 0, none⟩))), (3, [], (.pointer (some ⟨b_3, 0, none⟩))), (8, [], (.slice B_a w0.fPins.length B_c)), (9, [], (.int .i64 (w0.fPins.length : Int))), (10, [], (.int .i64 i_4))]) (fun (s : (Arr 96 Int) × Int) (x : Unit) => match s, x with | ⟨a_3, i_4⟩, _ => [⟨some b_1, 62, [(.slice B_a w0.fPins.length B_c), (.slice C_a w0.fStrokes.length C_c)]⟩, ⟨(some b_2), 34, row encU32 ((Arr.rep 96 0).1) []⟩, ⟨(some b_3), 34, row encU32 a_3.1 []⟩]) ht_79 () trivial (by kernel_rfl) [0, 1, 2] (by kernel_rfl) (by kernel_rfl) ?_
   rintro ⟨a_3, i_4⟩ _ y_72 _ h
   rw [impl_Wear_drum.l_5] at h
   refine jc_seq (jc_region (qh [0] (qe (jx_then (jc_seq (qi h (fun h => ?_) (fun h => ?_)))))))
   ·refine jc_skip (jx_then (jc_seq (jc_block (jc_seq (jc_region ?_)))))
    obtain ⟨x_7, hx_75, h⟩ := bd h
    refine tO (qx 0 B_a 3 hx_75 rfl (B_h.sp hx_75) (jkO (tO (ql 0 true (fun w hm => ((hm.xr B_h).at hx_75)) (jkO (tO (qa 0 (fun b_76 => jkO (tO (qs 0 [3] (jkO (qe (jx_then (jc_region (qh [0,3,0,0,3,0] ?_)))))))))))))))
    obtain ⟨t_8, ht_77, h⟩ := bd h
    refine tO (pc 0 (fun w hm => impl_Drum_put.calls a_3 (w64 x_7.fStep) (w64 x_7.fTrack) true w _ b_3 (hm.pass (N := [⟨(some b_3), 34, row encU32 a_3.1 []⟩]) [2] (by kernel_rfl) (by kernel_rfl)) ht_77) ?_)
    rintro w v w' hm ⟨rfl, hm'⟩
    refine ⟨_, hm.appW (ps := [(2, ⟨(some b_3), 34, row encU32 t_8.1 []⟩)]) (N := []) hm' (by kernel_rfl) (by kernel_rfl), jkO ?_⟩
    clear hm hm'
    exact qe (jx_inn (jx_then (jc_region (qh [0,0] (qe (qb (t_8, (w64 (i_4 + 1))) () h trivial [0, 1, 2]))))))
   ·refine jc_exit (jx_thenx (jx_leave a_3 (Option.some.inj h).symm (fun e_78 => ?_)))
    subst e_78
    exact jx_ine (qm a_3 hr_71 [0, 1, 2])
  ·rintro a_1 h
   replace h : impl_Wear_drum.k_2 a_1 = some r := h
   rw [impl_Wear_drum.k_2] at h
   refine jx_then (jc_seq (jc_region (tO (p_ldA 0 2 b_3 96 1 34 encU32 a_1 (by kernel_rfl) (by kernel_rfl) (by kernel_rfl) encU32_len (by kernel_rfl) (jkO (tO (p_sA 0 1 b_2 96 1 34 encU32 (Arr.rep 96 0) a_1 (by kernel_rfl) (by kernel_rfl) (by kernel_rfl) encU32_len encU32_cell (by kernel_rfl) (jkO (qe (jx_then (jc_ret ?_)))))))))))
   obtain rfl := Option.some.inj h
   exact jx_retV rfl (rq_arr (b := b_2) (T' := 34) (hh := 1) (mm := 1) encU32 a_1 (by kernel_rfl) (by kernel_rfl) encU32_len (by kernel_rfl) rq_nil) (fun w hm => ⟨rfl, hm.pk []⟩)
end

end Go.Proofs.YtolfkfjjifdmeaaGreatDoor
